/- Texts of one proof, joined. -/
import Derived.Test.YtlfinaeklaimjaaGreatDoorSN04
set_option linter.unusedSimpArgs false
set_option linter.unusedVariables false
namespace Go.Proofs.YtlfinaeklaimjaaGreatDoor
noncomputable section
end
end Go.Proofs.YtlfinaeklaimjaaGreatDoor
namespace Go.Proofs.YtlfinaeklaimjaaGreatDoor.Am
noncomputable section
open Go.Proofs.YtlfinaeklaimjaaGreatDoor Go.RowKit
def veqL (g : Value → Value → Bool) : List Value → List Value → Bool
  | [], [] => true
  | a :: l, b :: m => g a b && veqL g l m
  | _, _ => false
def adEq (a b : Addr) : Bool := Nat.beq a.block b.block && Nat.beq a.off b.off && (match a.spot, b.spot with | none, none => true | some x, some y => Nat.beq x y | _, _ => false)
def veq : Nat → Value → Value → Bool
  | 0, _, _ => false
  | n + 1, x, y => match x, y with
    | .bool a, .bool b => a == b
    | .int k a, .int l b => decide (k = l) && decide (a = b)
    | .string a, .string b => decide (a.data.toList = b.data.toList)
    | .pointer none, .pointer none => true
    | .pointer (some a), .pointer (some b) => adEq a b
    | .slice none n c, .slice none m d => Nat.beq n m && Nat.beq c d
    | .slice (some a) n c, .slice (some b) m d => adEq a b && Nat.beq n m && Nat.beq c d
    | .map none, .map none | .nilFunc, .nilFunc | .nilIface, .nilIface => true
    | .map (some a), .map (some b) => Nat.beq a b
    | .iface t v, .iface u w => Nat.beq t u && veq n v w
    | .agg a, .agg b | .tuple a, .tuple b => veqL (veq n) a.toList b.toList
    | .func (.func g) a c, .func (.func h) b d => Nat.beq g h && veqL (veq n) a.toList b.toList && veqL (veq n) c.toList d.toList
    | _, _ => false
def looks (o : Oper) : Bool :=
  match o.op with
  | .load .. | .slice .. | .lookup .. | .entry _ | .range .. | .convert .. | .call _ => true
  | _ => false
section
variable (P : Program) (gm : Nat) (orc : Orc)
def wantD (V : HT Value) (o : Oper) : Bool :=
  match o.guard with
  | none => true
  | some (j, b) => match V.get j with
    | some (.bool c) => c == b
    | _ => false
def fpass (ops : List Oper) (bs es : List Nat) (t0 : HT Value) (id0 j : Nat) (h : HT AObj) : List Oper → Nat → HT Value → List (Nat × AObj) → Option (HT Value × List (Nat × AObj))
  | [], _, V, O => some (V, O)
  | o :: os, i, V, O => match isFlt o with
    | false => fpass ops bs es t0 id0 j h os (i + 1) V O
    | true => match Nat.beq (cnt (bs.getD i 0) es) j with
      | true => match wantD V o with
        | true => match fltR o.op P (evD ops t0 V (bs.getD i 0)) o (id0 + i) h with
          | some (v, none) => fpass ops bs es t0 id0 j h os (i + 1) (HT.set 64 V i (some v)) O
          | some (v, some ob) => fpass ops bs es t0 id0 j h os (i + 1) (HT.set 64 V i (some v)) (O ++ [(i, ob)])
          | none => none
        | false => fpass ops bs es t0 id0 j h os (i + 1) (HT.set 64 V i (some undef)) O
      | false => match Nat.blt (cnt (bs.getD i 0) es) j && Nat.ble j (fst bs i es 0) && looks o && wantD V o with
        | true => match fltR o.op P (evD ops t0 V (bs.getD i 0)) o (id0 + i) h, V.get i with
          | some (v, none), some u => match veq 60 v u && O.all (fun p => !(Nat.beq p.1 i)) with
            | true => fpass ops bs es t0 id0 j h os (i + 1) V O
            | false => none
          | _, _ => none
        | false => fpass ops bs es t0 id0 j h os (i + 1) V O
def insAll (bs es : List Nat) (id0 q : Nat) : List (Nat × AObj) → AS → AS
  | [], A => A
  | (i, ob) :: O, A => match Nat.beq (fst bs i es 0) q with
    | true => insAll bs es id0 q O (put A (id0 + i) (some ob))
    | false => insAll bs es id0 q O A
def drawGo (rec : Rec) (ops : List Oper) (bs es0 : List Nat) (t0 : HT Value) (id0 : Nat) : List Nat → Nat → HT Value → List (Nat × AObj) → AS → (HT Value → AS → Bool) → Bool
  | [], q, V, O, A, k => k V (insAll bs es0 id0 q O A)
  | e :: es, q, V, O, A, k => match ops[e]? with
    | some o => match Nat.blt A.nx 1000000000 && wantD V o with
      | true => effR o.op P gm orc rec (evD ops t0 V (bs.getD e 0)) (insAll bs es0 id0 q O A) fun v A' => match fpass P ops bs es0 t0 id0 (q + 1) A'.h ops 0 (HT.set 64 V e (some v)) O with
        | some (V', O') => drawGo rec ops bs es0 t0 id0 es (q + 1) V' O' A' k
        | none => false
      | false => Nat.blt A.nx 1000000000 && match fpass P ops bs es0 t0 id0 (q + 1) (insAll bs es0 id0 q O A).h ops 0 (HT.set 64 V e (some undef)) O with
        | some (V', O') => drawGo rec ops bs es0 t0 id0 es (q + 1) V' O' (insAll bs es0 id0 q O A) k
        | none => false
    | none => false
def effsOf : List Oper → Nat → List Nat
  | [], _ => []
  | o :: os, i => match isFlt o with
    | true => effsOf os (i + 1)
    | false => i :: effsOf os (i + 1)
def inRow (bs : List Nat) : List Nat → Bool
  | e :: f :: es => Nat.testBit (bs.getD f 0) e && inRow bs (f :: es)
  | _ => true
def readsOk (ops : List Oper) (bs : List Nat) (i : Nat) : Operand → Bool
  | .tmp t => match writer ops 0 t with
    | some j => Nat.testBit (bs.getD i 0) j || Nat.testBit (bs.getD j 0) i || Nat.beq i j
    | none => true
  | _ => true
def opOk (ops : List Oper) (bs : List Nat) (n i : Nat) (o : Oper) : Bool :=
  o.op.operands.toList.all (readsOk ops bs i) && dstOk n o &&
  (match o.dst with
    | some d => match writer ops 0 d with
      | some j => Nat.beq i j
      | none => false
    | none => true) &&
  (match o.guard with
    | some (g, _) => Nat.testBit (bs.getD i 0) g && (match ops[g]? with
      | some q => q.dst.isSome
      | none => false)
    | none => true) &&
  o.after.toList.all (fun e => match Region.binds .any e with
    | true => Nat.blt e.on i
    | false => true) &&
  (match o.op with
    | .select .. => false
    | _ => true)
def opsOk (ops : List Oper) (bs : List Nat) (n : Nat) : List Oper → Nat → Bool
  | [], _ => true
  | o :: os, i => opOk ops bs n i o && opsOk ops bs n os (i + 1)
def finT (V : HT Value) : List Oper → Nat → HT Value → HT Value
  | [], _, t => t
  | o :: os, i, t => match o.dst with
    | some d => finT V os (i + 1) (HT.set 64 t d (V.get i))
    | none => finT V os (i + 1) t
def drawK (rec : Rec) (ops : List Oper) (st : St) (k : Kt) : Bool :=
  match opsOk ops (befs ops []) st.a.n ops 0 && inRow (befs ops []) (effsOf ops 0) && Nat.blt st.A.nx 1000000000 && Nat.blt ops.length 1000 && ops.all (fun o => o.op.operands.toList.all (opdOk gm st.A.h)) with
  | true => match fpass P ops (befs ops []) (effsOf ops 0) st.a.t st.A.nx 0 st.A.h ops 0 .nil [] with
    | some (V, O) => drawGo P gm orc rec ops (befs ops []) (effsOf ops 0) st.a.t st.A.nx (effsOf ops 0) 0 V O ⟨st.A.h, st.A.nx + ops.length⟩ fun V A => k .normal ⟨⟨finT V ops 0 st.a.t, st.a.n, st.a.d⟩, A⟩
    | none => false
  | false => false
def rangeK (rec : Rec) (rd : Option Nat) (g : Operand) (ps : Array Tmp) (asn b : Code) (st : St) (k : Kt) : Bool :=
  let fin (l : Nat) (ds : List Nat) (A : AS) : Bool := match A.h.get l with
    | some (.loop s pe t n ps asn b d) => match s with
      | .busy => false
      | _ => match pe with
        | none => k .normal ⟨⟨st.a.t, st.a.n, ds⟩, put A l (some (.loop .exhausted none t n ps asn b d))⟩
        | some c => rec rd c ⟨⟨st.a.t, st.a.n, ds⟩, put A l (some (.loop .exhausted (some c) t n ps asn b d))⟩ k
    | _ => false
  match opdOk gm st.A.h g && Nat.blt (st.A.nx + 1) 1000000000, evA st.a.t g with
  | true, .func (.func gf) first cap => match rd with
    | none => callK P gm orc rec gf (first.toList ++ [.func (.yield (st.A.nx + 1)) #[] #[]] ++ cap.toList)
        ⟨HT.set 64 (HT.set 64 st.A.h st.A.nx (some .deferred)) (st.A.nx + 1) (some (.loop .ready none st.a.t st.a.n ps asn b st.A.nx)), st.A.nx + 2⟩
        fun _ A => fin (st.A.nx + 1) (st.A.nx :: st.a.d) A
    | some l0 => match st.A.h.get l0 with
      | some (.loop _ _ _ _ _ _ _ d0) => callK P gm orc rec gf (first.toList ++ [.func (.yield st.A.nx) #[] #[]] ++ cap.toList)
        ⟨HT.set 64 st.A.h st.A.nx (some (.loop .ready none st.a.t st.a.n ps asn b d0)), st.A.nx + 1⟩
        fun _ A => fin st.A.nx st.a.d A
      | _ => false
  | _, _ => false
def runK : Nat → Rec
  | 0, _, _, _, _ => false
  | n + 1, rd, c, st, k => match c with
    | .skip | .label _ => k .normal st
    | .region _ ops false => textK P gm orc (runK n) ops.toList ops.toList st k
    | .region _ ops true => drawK P gm orc (runK n) ops.toList st k
    | .seq a b => runK n rd a st fun e st => match e with
      | .normal => runK n rd b st k
      | e => k e st
    | .cond c x y => match opdOk gm st.A.h c, evA st.a.t c with
      | true, .bool true => runK n rd x st k
      | true, .bool false => runK n rd y st k
      | _, _ => false
    | .block id b => runK n rd b st fun e st => match e with
      | .exit i => match Nat.beq i id with
        | true => k .normal st
        | false => k (.exit i) st
      | e => k e st
    | .loop b => runK n rd b st fun e st => match e with
      | .normal => runK n rd (.loop b) st k
      | e => k e st
    | .scope b => runK n rd b st fun e st => match e with
      | .goto _ => false
      | e => k e st
    | .exit id => k (.exit id) st
    | .goto l => k (.goto l) st
    | .ret => k .ret st
    | .rangeFunc g ps asn b => rangeK P gm orc (runK n) rd g ps asn b st k
    | _ => false
end
end
end Go.Proofs.YtlfinaeklaimjaaGreatDoor.Am
namespace Go.Proofs.YtlfinaeklaimjaaGreatDoor
noncomputable section
end
end Go.Proofs.YtlfinaeklaimjaaGreatDoor
namespace Go.Proofs.YtlfinaeklaimjaaGreatDoor.Am
noncomputable section
open Go.Proofs.YtlfinaeklaimjaaGreatDoor Go.RowKit
section
variable {P : Program} {base gm : Nat} {f : Ren} {A : AS} {w : World}
theorem oneC_ok {v v' : Value} (h : VR f v v') (hv : oneC v = true) : v'.oneCell' = true := by
  cases h <;> first | rfl | cases hv
theorem setCell_heap {b o : Nat} {cs : Array Value} {t : TypeId} {fz : Nat × Nat} (w : World) (hw : w.heap[b]? = some (.cells cs t fz)) (v : Value) :
    w.setCell ⟨b, o, none⟩ v = { w with heap := w.heap.setIfInBounds b (.cells (cs.setIfInBounds o v) t fz) } := by
  unfold World.setCell
  simp only [World.mk.injEq, and_true]
  apply Array.ext_getElem?
  intro i
  rw [Array.getElem?_modify, Array.getElem?_setIfInBounds]
  by_cases hi : b = i
  · subst hi
    rw [if_pos rfl, if_pos rfl, hw, if_pos (Array.getElem?_eq_some_iff.1 hw).1]
    rfl
  · rw [if_neg hi, if_neg hi]
theorem storeCells_run {b o : Nat} {t : TypeId} {fz : Nat × Nat} : ∀ (vs : List Value) (i : Nat) (cs : Array Value) (w : World), w.heap[b]? = some (.cells cs t fz) → o + i + vs.length ≤ cs.size →
    (∀ j, j < cs.size → ¬ (fz.1 ≤ j ∧ j < fz.2)) → (∀ v ∈ vs, v.oneCell' = true) →
    (storeCells ⟨b, o, none⟩ vs i).run P w = .ok () { w with heap := w.heap.setIfInBounds b (.cells (setL cs.toList (o + i) vs).toArray t fz) }
  | [], i, cs, w, hw, _, _, _ => by
    simp only [storeCells, Sem.run_pure, setL]
    congr 1
    cases w
    simp only [World.mk.injEq, and_true]
    apply Array.ext_getElem?
    intro k
    rw [Array.getElem?_setIfInBounds]
    by_cases hk : b = k
    · subst hk
      rw [if_pos rfl, if_pos (Array.getElem?_eq_some_iff.1 hw).1, hw]
    · rw [if_neg hk]
  | v :: vs, i, cs, w, hw, hle, hfz, hone => by
    rw [List.length_cons] at hle
    have hc : w.cell? ⟨b, o + i, none⟩ = cs[o + i]? := by
      unfold World.cell?
      rw [hw]
      rfl
    have hsome : cs[o + i]? = some (cs[o + i]'(by omega)) := Array.getElem?_eq_getElem _
    have hnf : w.frozen? ⟨b, o + i, none⟩ = false := by
      unfold World.frozen?
      rw [hw]
      have := hfz (o + i) (by omega)
      simp only [Bool.and_eq_false_iff, decide_eq_false_iff_not]
      omega
    have hlt := (Array.getElem?_eq_some_iff.1 hw).1
    rw [storeCells]
    simp only [Sem.run_bind, addr_add]
    rw [run_store P w _ v .plain (hone v (by simp)), hc, hsome]
    simp only [hnf, Bool.false_eq_true, if_false, Result.andThen_ok]
    rw [setCell_heap w hw v]
    rw [storeCells_run (t := t) (fz := fz) vs (i + 1) (cs.setIfInBounds (o + i) v) _ (by rw [Array.getElem?_setIfInBounds]; simp [hlt]) (by rw [Array.size_setIfInBounds]; omega) (by rw [Array.size_setIfInBounds]; exact hfz) (fun x hx => hone x (by simp [hx]))]
    simp only [setL, Array.setIfInBounds_setIfInBounds, Array.toList_setIfInBounds, Nat.add_assoc]
def SR (f : Ren) (d : Nat) (x x' : List Value) : Prop := ∀ (i : Nat) (v : Value), x[i]? = some v → ∃ v', x'[i + d]? = some v' ∧ VR f v v'
theorem SR.set {d : Nat} {x x' : List Value} (h : SR f d x x') (o : Nat) {v v' : Value} (k : VR f v v') : SR f d (x.set o v) (x'.set (o + d) v') := fun i u hu => by
  rw [List.getElem?_set] at hu
  by_cases e : o = i
  · subst e
    rw [if_pos rfl] at hu
    split at hu
    · rename_i hlt
      cases hu
      obtain ⟨u', h1, _⟩ := h o _ (List.getElem?_eq_getElem hlt)
      exact ⟨v', by rw [List.getElem?_set, if_pos rfl, if_pos (List.getElem?_eq_some_iff.1 h1).1], k⟩
    · cases hu
  · rw [if_neg e] at hu
    obtain ⟨u', h1, h2⟩ := h i u hu
    exact ⟨u', by rw [List.getElem?_set, if_neg (by omega)]; exact h1, h2⟩
theorem SR.setL {d : Nat} : ∀ (vs vs' x x' : List Value) (o : Nat), SR f d x x' → LR f vs vs' → SR f d (setL x o vs) (setL x' (o + d) vs')
  | [], [], _, _, _, h, _ => h
  | [], _ :: _, _, _, _, _, k => by have := k.1; simp at this
  | _ :: _, [], _, _, _, _, k => by have := k.1; simp at this
  | v :: vs, v' :: vs', x, x', o, h, k => by
    obtain ⟨a, b⟩ := k.tail
    have := SR.setL vs vs' _ _ (o + 1) (h.set o a) b
    rw [Nat.add_right_comm] at this
    exact this
theorem stC_ok (hW : WR base gm f A w) {a a' : Addr} (ha : AR f a a') {vs vs' : List Value} (hv : LR f vs vs') {A' : AS} (h : stC gm A a vs = some A') :
    ∃ w', (storeCells a' vs').run P w = .ok () w' ∧ Step base gm f A w f A' w' ∧ A'.nx = A.nx := by
  have key : vs = [] ∨ a.spot = none ∧ (match A.h.get a.block with
    | some (.cells cs t fz so) => match Nat.ble gm a.block, Nat.ble (a.off + vs.length) cs.length, Nat.ble fz.2 fz.1 || Nat.ble cs.length fz.1, vs.all oneC with
      | true, true, true, true => some (Am.put A a.block (some (.cells (setL cs a.off vs) t fz so)))
      | _, _, _, _ => none
    | _ => none) = some A' := by
    unfold stC at h
    split at h
    · exact .inl rfl
    · rename_i hsp
      exact .inr ⟨hsp, h⟩
    · cases h
  rcases key with rfl | ⟨hsp, h⟩
  · cases h
    obtain rfl : vs' = [] := by have := hv.1; simpa using this.symm
    exact ⟨w, by simp [storeCells], Step.refl hW, rfl⟩
  · skip
    split at h
    · rename_i cs t fz so hg
      split at h
      · rename_i h1 h2 h3 h4
        cases h
        have h1 := Nat.le_of_ble_eq_true h1
        have h2 := Nat.le_of_ble_eq_true h2
        have h3 : fz.2 ≤ fz.1 ∨ cs.length ≤ fz.1 := by
          simp only [Bool.or_eq_true] at h3
          exact h3.imp Nat.le_of_ble_eq_true Nat.le_of_ble_eq_true
        obtain ⟨l, hl, ha'⟩ := ha
        obtain ⟨l2, hl2, ho⟩ := hW.ob _ _ hg
        rw [hl] at hl2
        cases hl2
        rw [hsp] at ha'
        have hone : ∀ x ∈ vs', x.oneCell' = true := fun x hx => by
          obtain ⟨i, hi, e⟩ := List.mem_iff_getElem.1 hx
          have hi2 : i < vs.length := by rw [hv.1]; exact hi
          have := hv.2 i _ _ (List.getElem?_eq_getElem hi2) (List.getElem?_eq_getElem hi)
          rw [← e]
          exact oneC_ok this (List.all_eq_true.1 h4 _ (List.getElem_mem _))
        cases ho with
        | hard hw hr =>
          rename_i cs' b
          have hsz : cs'.size = cs.length := by rw [hr.1]; simp
          have hrun := storeCells_run (P := P) (b := b) (o := a.off) (t := t) (fz := fz) vs' 0 cs' w hw (by rw [hsz, ← hv.1]; omega) (fun j hj h => by rw [hsz] at hj; omega) hone
          have ea : a' = ⟨b, a.off, none⟩ := by rw [ha']; rfl
          rw [ea]
          refine ⟨_, hrun, Step.write hW hg hl h1 rfl ⟨rfl, rfl, rfl⟩ (.hard (cs' := (setL cs'.toList (a.off + 0) vs').toArray) ?_ ?_), rfl⟩
          · show (w.heap.setIfInBounds b _)[b]? = _
            rw [Array.getElem?_setIfInBounds]
            simp [(Array.getElem?_eq_some_iff.1 hw).1]
          · exact LR.setL hr _ _ _ hv
        | @soft _ cs' _ fz' b d _ T T' hw hs hT hT' hle hfz hr =>
          have hrun := storeCells_run (P := P) (b := b) (o := a.off + d) (t := t) (fz := fz') vs' 0 cs' w hw (by rw [← hv.1]; omega) (by rw [hT']; exact hfz) hone
          have ea : a' = ⟨b, a.off + d, none⟩ := by rw [ha']
          rw [ea]
          refine ⟨_, hrun, Step.write hW hg hl h1 rfl ⟨rfl, rfl, rfl⟩ (.soft (cs' := (setL cs'.toList (a.off + d + 0) vs').toArray) (fz' := fz') ?_ hs (by rw [setL_len]; exact hT) (by simp [setL_len, hT']) hle hfz ?_), rfl⟩
          · show (w.heap.setIfInBounds b _)[b]? = _
            rw [Array.getElem?_setIfInBounds]
            simp [(Array.getElem?_eq_some_iff.1 hw).1]
          · have hR : SR f d cs cs'.toList := fun i v hi => by
              obtain ⟨v', e, hv⟩ := hr i v hi
              exact ⟨v', by simpa using e, hv⟩
            intro i v hi
            obtain ⟨v', e, hv'⟩ := SR.setL _ _ _ _ _ hR hv i v hi
            exact ⟨v', by simpa using e, hv'⟩
        | obj _ ho => cases ho
      · cases h
    · cases h
end
end
end Go.Proofs.YtlfinaeklaimjaaGreatDoor.Am
namespace Go.Proofs.YtlfinaeklaimjaaGreatDoor
noncomputable section
end
end Go.Proofs.YtlfinaeklaimjaaGreatDoor
namespace Go.Proofs.YtlfinaeklaimjaaGreatDoor.Am
noncomputable section
open Go.Proofs.YtlfinaeklaimjaaGreatDoor Go.RowKit
section
variable {P : Program} {base gm : Nat} {f : Ren} {A : AS} {w : World}
theorem eStore_ok (hW : WR base gm f A w) {t : TypeId} {x x' v v' u : Value} (hx : VR f x x') (hv : VR f v v') {A' : AS} (h : eStore P gm t x v A = some (u, A')) :
    ∃ w', (Instr.storeAt t x' v').run P w = .ok () w' ∧ Step base gm f A w f A' w' ∧ u = undef := by
  unfold eStore at h
  split at h
  · rename_i a i hi
    split at h
    · rename_i hlen
      have hlen := beq_t hlen
      split at h
      · rename_i A2 hs
        cases h
        obtain ⟨a', rfl, ha⟩ := hx.ptr_inv
        obtain ⟨w', hr, hS, _⟩ := stC_ok (P := P) hW ha (VR.cells hv) hs
        refine ⟨w', ?_, hS, rfl⟩
        have hc : ¬ v'.cells.size ≠ i.size := by
          have := (VR.cells hv).1
          rw [hlen] at this
          simp at this
          omega
        simp only [Instr.storeAt, Instr.sureAddr, Sem.run_bind, Sem.run_pure, Result.andThen_ok, storeVar, run_sizeOf' hi, if_neg hc]
        exact hr
      · cases h
    · cases h
  · cases h
theorem lenA_ok {x x' : Value} {m : Nat} (hx : VR f x x') (h : lenA x = some m) (w : World) : (Builtin.lenOf x').run P w = .ok m w := by
  unfold lenA at h
  split at h <;> cases h <;> cases hx <;> rfl
theorem srcC_ok (hW : WR base gm f A w) {size n : Nat} {x x' : Value} (hx : VR f x x') {cs : List Value} (h : srcC A.h size n x = some cs) :
    ∃ cs', (Builtin.firstCells size n x').run P w = .ok cs'.toArray w ∧ LR f cs cs' := by
  unfold srcC at h
  split at h
  · rename_i a m c
    obtain ⟨a', c', rfl, ha, _⟩ := hx.slice_inv
    split at h
    · rename_i h0
      have h0 := beq_t h0
      cases h
      subst h0
      exact ⟨[], by simp [Builtin.firstCells, loadCells, loadCellsFrom], .nil f⟩
    · rename_i h0 h1
      have h0 := beq_f h0
      have h1 := Nat.le_of_ble_eq_true h1
      obtain ⟨vs', hr, hl, _⟩ := cellsN_ok (P := P) hW (ha (by omega)) h
      exact ⟨vs', hr, hl⟩
    · cases h
  · cases h
    cases hx
    exact ⟨[], by simp [Builtin.firstCells], .nil f⟩
  · rename_i s
    cases h
    cases hx
    refine ⟨_, ?_, LR.map _ _ _ fun b _ => .int _ _⟩
    simp only [Builtin.firstCells, Sem.run_pure]
    congr 1
    apply Array.ext'
    have e : (s.extract 0 n).data.toList = s.data.toList.take n := by
      rw [ByteArray.data_extract, Array.toList_extract, List.extract_eq_take_drop]
      simp
    rw [Array.toList_map, e]
  · cases h
inductive NewR (P : Program) (w : World) (e t1 : TypeId) (i : TypeInfo) (x' : Value) (m : Nat) (cs' : List Value) : Prop
  | ints {k k2 z} (hu : P.underlying t1 = some (.int k)) (hx : x' = .int k2 (.ofNat m)) (h1 : m ≤ 16777216) (hz : ∀ w, (zeroValue e).run P w = .ok z w) (hs : z.cells.size = i.size) (hc : cs' = (Builtin.zeroCells z.cells m).toList)
  | els {d} (hu : P.underlying t1 = some d) (hd : ∀ k, d ≠ .int k) (hl : (Builtin.lenOf x').run P w = .ok m w) (hf : (Builtin.firstCells i.size m x').run P w = .ok cs'.toArray w)
theorem newC_ok (hW : WR base gm f A w) {e t1 : TypeId} {i : TypeInfo} {x x' : Value} (hx : VR f x x') {m : Nat} {cs : List Value} (h : newC P A.h e t1 i.size x = some (m, cs)) :
    ∃ cs', LR f cs cs' ∧ NewR P w e t1 i x' m cs' := by
  unfold newC at h
  split at h
  · rename_i hz
    split at h
    · rename_i k m2 z hze
      split at h
      · rename_i h1 h2
        have h1 := Nat.le_of_ble_eq_true h1
        have h2 := beq_t h2
        cases h
        obtain ⟨hz1, hz2⟩ := zeroA_ok hze
        obtain rfl := hx.int_inv
        have hu : ∃ k, P.underlying t1 = some (.int k) := by
          unfold isIntT at hz
          split at hz
          · exact ⟨_, by assumption⟩
          · cases hz
          · cases hz
        obtain ⟨k2, hu⟩ := hu
        have hsz : z.cells.size = i.size := by rw [← h2]; simp
        refine ⟨(Builtin.zeroCells z.cells m).toList, ?_, .ints hu rfl h1 hz1 hsz rfl⟩
        rw [← hsz]
        exact zerosL_ok hz2 _
      · cases h
    · cases h
  · rename_i hz
    split at h
    · rename_i m2 hm
      split at h
      · rename_i cs2 hc
        cases h
        obtain ⟨cs', hr, hl⟩ := srcC_ok (P := P) hW hx hc
        have hu : ∃ d, P.underlying t1 = some d ∧ ∀ k, d ≠ .int k := by
          unfold isIntT at hz
          split at hz
          · cases hz
          · rename_i d hd hu
            exact ⟨d, hu, fun k e => hd k (by first | exact e | exact (e ▸ hu))⟩
          · cases hz
        obtain ⟨d, hu, hd⟩ := hu
        exact ⟨cs', hl, .els hu hd (lenA_ok (P := P) hx hm w) hr⟩
      · cases h
    · cases h
  · cases h
theorem zc_run {z : Value} {m sz : Nat} {e : TypeId} (hz : ∀ w, (zeroValue e).run P w = .ok z w) (hs : z.cells.size = sz) (w : World) :
    (if m * sz = 0 then pure #[] else do pure (Builtin.zeroCells (← zeroValue e).cells m) : Sem (Array Value)).run P w = .ok (Builtin.zeroCells z.cells m) w := by
  by_cases h : m * sz = 0
  · rw [if_pos h]
    have : Builtin.zeroCells z.cells m = #[] := by unfold Builtin.zeroCells; rw [hs, h]; simp
    rw [this]
    rfl
  · rw [if_neg h]
    simp [hz]
theorem append_in {t0 t1 e ty : TypeId} {ts : Array TypeId} {i : TypeInfo} (h0 : ts[0]? = some t0) (h1 : ts[1]? = some t1) (hu0 : P.underlying t0 = some (.slice e)) (hi : P.info? e = some i) (hb : i.bytes ≤ 65536)
    {b : Option Addr} {n c' m : Nat} {x' : Value} {cs' : List Value} (hN : NewR P w e t1 i x' m cs') (hle : n + m ≤ c') :
    (Builtin.append_ ts ty #[.slice b n c', x']).run P w = ((match b with | some a => storeCells (a.add (n * i.size)) cs' | none => pure () : Sem Unit).run P w).andThen fun _ w' => .ok (.slice b (n + m) c') w' := by
  cases hN with
  | ints hu hx hm hz hs hc =>
    subst hx hc
    have e1 : IntKind.i64.wrap (Int.ofNat m) = (m : Int) := wrap_small hm
    have hbig : ¬ ((m : Int) * (i.bytes : Int) > 2 ^ 48) := by
      have : m * i.bytes ≤ 16777216 * 65536 := Nat.mul_le_mul hm hb
      have h4 : ((m * i.bytes : Nat) : Int) ≤ ((16777216 * 65536 : Nat) : Int) := Int.ofNat_le.2 this
      rw [Int.natCast_mul] at h4
      exact Int.not_lt.2 (Int.le_trans h4 (by decide))
    have hneg : ¬ ((m : Int) < 0) := by omega
    unfold Builtin.append_
    simp only [h0, h1, List.getElem?_toArray, List.getElem?_cons_zero, List.getElem?_cons_succ, Sem.run_bind, run_underlying hu0, Result.andThen_ok, run_sizeOf' hi, run_underlying hu, Sem.run_pure, if_true, asInt, asIntOf, e1, if_neg hneg, run_typeInfo' hi, if_neg hbig, Int.toNat_natCast, if_pos hle, Bool.not_true, Bool.false_eq_true, if_false]
    have hA : (if m * i.size = 0 then pure #[] else do pure (Builtin.zeroCells (← zeroValue e).cells m) : Sem (Array Value)).run P w = .ok (Builtin.zeroCells _ m) w := zc_run hz hs w
    rw [hA]
    cases b <;> simp
  | els hu hd hl hf =>
    rename_i d
    unfold Builtin.append_
    have hm : (match d with | .int _ => true | _ => false) = false := by cases d <;> first | rfl | exact (hd _ rfl).elim
    simp only [h0, h1, List.getElem?_toArray, List.getElem?_cons_zero, List.getElem?_cons_succ, Sem.run_bind, run_underlying hu0, Result.andThen_ok, run_sizeOf' hi, run_underlying hu, Sem.run_pure, hm, Bool.false_eq_true, if_false, hl, if_pos hle, Bool.not_false, if_true, hf]
    cases b <;> simp
theorem growBy_le : ∀ (k c n : Nat), Builtin.growBy n k c ≤ 2 ^ k * (c + 768)
  | 0, c, n => by simp [Builtin.growBy]
  | k + 1, c, n => by
    unfold Builtin.growBy
    have h2 : 2 ^ (k + 1) = 2 * 2 ^ k := by rw [Nat.pow_succ]; omega
    have h1 : 1 ≤ 2 ^ k := Nat.one_le_two_pow
    split
    · rw [h2]
      have : 1 * (c + 768) ≤ 2 * 2 ^ k * (c + 768) := Nat.mul_le_mul_right _ (by omega)
      omega
    · refine Nat.le_trans (growBy_le k _ n) ?_
      rw [h2, Nat.mul_comm 2, Nat.mul_assoc]
      exact Nat.mul_le_mul_left _ (by omega)
theorem cap_le {n c b : Nat} (h1 : n ≤ 16777216) (h2 : c < n) (hb : b ≤ 65536) : ¬ Builtin.nextslicecap n c * b > 2 ^ 48 := by
  have h : Builtin.nextslicecap n c ≤ 4294967296 := by
    unfold Builtin.nextslicecap
    split
    · omega
    · split
      · omega
      · refine Nat.le_trans (growBy_le 4 c n) ?_
        have h16 : (2 : Nat) ^ 4 = 16 := rfl
        rw [h16]
        omega
  exact Nat.not_lt.2 (Nat.le_trans (Nat.mul_le_mul h hb) (by decide))
theorem append_out {t0 t1 e ty : TypeId} {ts : Array TypeId} {i : TypeInfo} (h0 : ts[0]? = some t0) (h1 : ts[1]? = some t1) (hu0 : P.underlying t0 = some (.slice e)) (hi : P.info? e = some i) (hb : i.bytes ≤ 65536)
    {b : Option Addr} {n c' m : Nat} {x' z : Value} {cs1 cs' old' : List Value} (hN : NewR P w e t1 i x' m cs1) (hN2 : NewR P { w with drawn := w.drawn + 1 } e t1 i x' m cs')
    (hold : (Builtin.firstCells i.size n (.slice b n c')).run P { w with drawn := w.drawn + 1 } = .ok old'.toArray { w with drawn := w.drawn + 1 }) (hz : ∀ w, (zeroValue e).run P w = .ok z w) (hgt : c' < n + m) (hsm : n + m ≤ 16777216) :
    ∃ k, n + m ≤ k ∧ (Builtin.append_ ts ty #[.slice b n c', x']).run P w = .ok (.slice (some ⟨w.heap.size, 0, none⟩) (n + m) k)
      { w with drawn := w.drawn + 1, heap := w.heap.push (.cells (old'.toArray ++ cs'.toArray ++ Builtin.zeroCells z.cells (k - (n + m))) e) } := by
  have hnle : ¬ n + m ≤ c' := by omega
  have hmax : ¬ ((n + m : Nat) : Int) > IntKind.i64.max := by
    have : IntKind.i64.max = 9223372036854775807 := by decide
    rw [this]
    omega
  have hcap := cap_le hsm hgt hb
  have hch : (choose (.appendCap (n + m) c' e)).run P w = .ok ((Question.appendCap (n + m) c' e).cut (w.tape w.drawn (.appendCap (n + m) c' e))) { w with drawn := w.drawn + 1 } := by
    rw [run_choose]
    simp only [Question.forced, Bool.false_eq_true, if_false]
  obtain ⟨k, hk⟩ : ∃ k, k = (Question.appendCap (n + m) c' e).cut (w.tape w.drawn (.appendCap (n + m) c' e)) := ⟨_, rfl⟩
  rw [← hk] at hch
  refine ⟨k, by rw [hk]; exact Nat.le_add_right _ _, ?_⟩
  cases hN with
  | ints hu hx hm hz1 hs hc =>
    subst hx hc
    have e1 : IntKind.i64.wrap (Int.ofNat m) = (m : Int) := wrap_small hm
    have hbig : ¬ ((m : Int) * (i.bytes : Int) > 2 ^ 48) := by
      have : m * i.bytes ≤ 16777216 * 65536 := Nat.mul_le_mul hm hb
      have h4 : ((m * i.bytes : Nat) : Int) ≤ ((16777216 * 65536 : Nat) : Int) := Int.ofNat_le.2 this
      rw [Int.natCast_mul] at h4
      exact Int.not_lt.2 (Int.le_trans h4 (by decide))
    have hneg : ¬ ((m : Int) < 0) := by omega
    cases hN2 with
    | ints hu2 hx2 hm2 hz2 hs2 hc2 =>
      subst hc2
      unfold Builtin.append_
      simp only [h0, h1, List.getElem?_toArray, List.getElem?_cons_zero, List.getElem?_cons_succ, Sem.run_bind, run_underlying hu0, Result.andThen_ok, run_sizeOf' hi, run_underlying hu, Sem.run_pure, if_true, asInt, asIntOf, e1, if_neg hneg, run_typeInfo' hi, if_neg hbig, Int.toNat_natCast, if_neg hnle, Bool.not_true, Bool.false_eq_true, if_false, hmax, false_and, if_neg hcap, hch, run_askRoom, hold]
      rw [zc_run hz2 hs2]
      simp only [Result.andThen_ok, hz, run_newRow]
    | els hu2 hd2 _ _ => rw [hu] at hu2; cases hu2; exact (hd2 _ rfl).elim
  | els hu hd hl hf =>
    rename_i d
    have hm : (match d with | .int _ => true | _ => false) = false := by cases d <;> first | rfl | exact (hd _ rfl).elim
    cases hN2 with
    | ints hu2 _ _ _ _ _ => rw [hu] at hu2; cases hu2; exact (hd _ rfl).elim
    | els hu2 hd2 hl2 hf2 =>
      unfold Builtin.append_
      simp only [h0, h1, List.getElem?_toArray, List.getElem?_cons_zero, List.getElem?_cons_succ, Sem.run_bind, run_underlying hu0, Result.andThen_ok, run_sizeOf' hi, run_underlying hu, Sem.run_pure, hm, Bool.false_eq_true, if_false, hl, if_neg hnle, Bool.not_false, if_true, hmax, false_and, if_neg hcap, run_typeInfo' hi, hch, run_askRoom, hold, hf2, hz, run_newRow]
end
end
end Go.Proofs.YtlfinaeklaimjaaGreatDoor.Am
namespace Go.Proofs.YtlfinaeklaimjaaGreatDoor
noncomputable section
end
end Go.Proofs.YtlfinaeklaimjaaGreatDoor
namespace Go.Proofs.YtlfinaeklaimjaaGreatDoor.Am
noncomputable section
open Go.Proofs.YtlfinaeklaimjaaGreatDoor Go.RowKit
section
variable {P : Program} {base gm : Nat} {f : Ren} {A : AS} {w w1 : World}
theorem setL_lt : ∀ (vs cs : List Value) (o i : Nat), i < o → (setL cs o vs)[i]? = cs[i]?
  | [], _, _, _, _ => rfl
  | v :: vs, cs, o, i, h => by rw [setL, setL_lt vs _ _ _ (by omega), List.getElem?_set, if_neg (by omega)]
theorem setL_in : ∀ (vs cs : List Value) (o j : Nat), j < vs.length → o + j < cs.length → (setL cs o vs)[o + j]? = vs[j]?
  | [], _, _, _, h, _ => by simp at h
  | v :: vs, cs, o, 0, _, h => by
    show (setL (cs.set o v) (o + 1) vs)[o]? = some v
    rw [setL_lt vs _ _ _ (by omega), List.getElem?_set, if_pos rfl, if_pos (by omega)]
  | v :: vs, cs, o, j + 1, h1, h2 => by
    have h3 : j < vs.length := by simpa using h1
    have := setL_in vs (cs.set o v) (o + 1) j h3 (by rw [List.length_set]; omega)
    rw [setL, show o + (j + 1) = o + 1 + j by omega, this]
    rfl
theorem Step.kill (hW : WR base gm f A w) {k : Nat} {o : AObj} (hk : A.h.get k = some o) : Step base gm f A w f ⟨HT.set 64 A.h k none, A.nx⟩ w := by
  refine ⟨fun _ _ => rfl, Nat.le_refl _, Chg.refl _ _, fun b ⟨m, o2, l2, h1, h2, h3, h4⟩ => ?_, hW.kill hk⟩
  have h2 : (HT.set 64 A.h k none).get m = some o2 := h2
  rw [hW.get_set hk none] at h2
  split at h2
  · cases h2
  · exact .inr ⟨m, o2, l2, h1, h2, h3, h4⟩
theorem oneC_list {vs vs' : List Value} (hv : LR f vs vs') (h : vs.all oneC = true) (x : Value) (hx : x ∈ vs') : x.oneCell' = true := by
  obtain ⟨i, hi, e⟩ := List.mem_iff_getElem.1 hx
  have hi2 : i < vs.length := by rw [hv.1]; exact hi
  rw [← e]
  exact oneC_ok (hv.2 i _ _ (List.getElem?_eq_getElem hi2) (List.getElem?_eq_getElem hi)) (List.all_eq_true.1 h _ (List.getElem_mem _))
theorem FOut.row {id : Nat} {e : TypeId} {sz : Nat} (hz : 0 < sz) {old old' cs cs' : List Value} (zs : Array Value) {n k : Nat} (hid : f id = none) (ho : LR f old old') (hc : LR f cs cs') (hl : old.length + cs.length = n * sz) (hk : zs.size = (k - n) * sz) (hn : n ≤ k)
    (hw : w1.heap = w.heap.push (.cells (old'.toArray ++ cs'.toArray ++ zs) e)) (hos : w1.os = w.os ∧ w1.tape = w.tape ∧ w1.output = w.output) :
    FOut f id w (.slice (some ⟨id, 0, some 0⟩) n n) (some (.cells (old ++ cs) e (0, 0) sz)) (.slice (some ⟨w.heap.size, 0, none⟩) n k) w1 := by
  have hol := ho.1
  have hcl := hc.1
  have hsz : (old'.toArray ++ cs'.toArray ++ zs).size = k * sz := by
    simp only [Array.size_append, List.size_toArray, hk]
    rw [← hol, ← hcl, hl, ← Nat.add_mul]
    congr 1
    omega
  refine ⟨hos, ⟨w.heap.size, 0, some (sz, n * sz, k * sz)⟩, _, rfl, hw, ?_, ?_⟩
  · refine .soft (cs' := old'.toArray ++ cs'.toArray ++ zs) (fz' := (0, 0)) (by rw [hw]; simp) hz (by rw [List.length_append]; exact hl) hsz (by simp; exact Nat.mul_le_mul_right _ hn) (fun i _ h => by omega) fun i v hv => ?_
    obtain ⟨v', h1, h2⟩ := (ho.app hc).get hv
    refine ⟨v', ?_, h2.mono (Ren.le_put _ hid)⟩
    rw [Nat.add_zero]
    have hlt : i < (old' ++ cs').length := (List.getElem?_eq_some_iff.1 h1).1
    rw [Array.getElem?_append_left (by simpa using hlt)]
    simpa using h1
  · exact .soft (l := ⟨w.heap.size, 0, some (sz, n * sz, k * sz)⟩) (a := ⟨id, 0, some 0⟩) (Ren.put_same _ _ _) rfl (by show 0 + n * sz = n * sz; omega) (by show 0 + 0 + k * sz = k * sz; omega) hn rfl
theorem VR.relen {a a' : Addr} {n c c' m : Nat} (h : VR f (.slice (some a) n c) (.slice (some a') n c')) (hm : n + m ≤ c) : VR f (.slice (some a) (n + m) c) (.slice (some a') (n + m) c') := by
  cases h with
  | sl ha hp => exact .sl ha hp
  | soft e hs h1 h2 hc hp => exact .soft e hs h1 h2 hc hp
  | emp e hs hb hp hq hc =>
    obtain rfl : m = 0 := by omega
    exact .emp e hs hb hp hq hc
theorem VR.ar {a a' : Addr} {n c c' : Nat} (h : VR f (.slice (some a) n c) (.slice (some a') n c')) (hc : c ≠ 0) : AR f (Am.strip a) a' := by
  cases h with
  | sl ha hp => exact ha.strip hp
  | soft e hs h1 h2 hc hp => exact ⟨_, e, rfl⟩
  | emp _ _ _ _ _ _ => exact absurd rfl hc
theorem Step.onto (hW : WR base gm f A w) (hnx : A.nx < 1000000000) {k : Nat} {l : Loc} {cs0 : List Value} {arr : Array Value} {e : TypeId} {fz0 fz' : Nat × Nat} {so0 : Nat} (hk : A.h.get k = some (.cells cs0 e fz0 so0)) (hl : f k = some l) (hg : gm ≤ k)
    (harr : w.heap[l.blk]? = some (.cells arr e fz')) (hfz : ∀ i, i < arr.size → ¬ (fz'.1 ≤ i ∧ i < fz'.2)) {sz n m off c' : Nat} (hz : 0 < sz) {old cs cs' : List Value} (hol : old.length = n * sz) (hcl : cs.length = m * sz) (hcs : LR f cs cs')
    (hold : ∀ i v, old[i]? = some v → ∃ v', arr[off + i]? = some v' ∧ VR f v v') (hc : n + m ≤ c') (hT : off + c' * sz = arr.size) :
    Step base gm f A w (f.put A.nx ⟨l.blk, off, some (sz, (n + m) * sz, arr.size)⟩) (bump ⟨HT.set 64 A.h k none, A.nx⟩ A.nx (some (.cells (old ++ cs) e (0, 0) sz)))
      { w with heap := w.heap.setIfInBounds l.blk (.cells (setL arr.toList (off + n * sz) cs').toArray e fz') } := by
  have hnone := hW.fr A.nx (Nat.le_refl _)
  have hle := Ren.le_put ⟨l.blk, off, some (sz, (n + m) * sz, arr.size)⟩ hnone
  have hWk := hW.kill hk
  have hlt := (Array.getElem?_eq_some_iff.1 harr).1
  have hmul : (n + m) * sz ≤ c' * sz := Nat.mul_le_mul_right _ hc
  have hnm : (n + m) * sz = n * sz + m * sz := Nat.add_mul _ _ _
  have hget : ∀ j, (HT.set 64 (HT.set 64 A.h k none) A.nx (some (AObj.cells (old ++ cs) e (0, 0) sz))).get j = if j = A.nx then some (AObj.cells (old ++ cs) e (0, 0) sz) else if j = k then none else A.h.get j := fun j => by
    rw [HT.get_set 64 _ A.nx j _ (Nat.lt_trans (by omega : A.nx + 1 < 1000000001) (by decide)), hW.get_set hk none]
  have hkn : k < A.nx := hW.lt k _ hk
  have hsub : ∀ j o, (HT.set 64 (HT.set 64 A.h k none) A.nx (some (AObj.cells (old ++ cs) e (0, 0) sz))).get j = some o → (j = A.nx ∧ o = .cells (old ++ cs) e (0, 0) sz) ∨ (j ≠ A.nx ∧ j ≠ k ∧ A.h.get j = some o) := fun j o h => by
    rw [hget] at h
    split at h
    · rename_i e; cases h; exact .inl ⟨e, rfl⟩
    · rename_i e
      split at h
      · cases h
      · rename_i e2; exact .inr ⟨e, e2, h⟩
  have hfo : ∀ j, j ≠ A.nx → (f.put A.nx ⟨l.blk, off, some (sz, (n + m) * sz, arr.size)⟩) j = f j := fun j hj => Ren.put_other f _ hj
  refine ⟨fun j hj => hfo j (by omega), Nat.le_succ _, ⟨rfl, rfl, rfl, by simp, fun b hb hn => ?_⟩, fun b ⟨j, o, l2, h1, h2, h3, h4⟩ => ?_, ?_⟩
  · show (w.heap.setIfInBounds l.blk _)[b]? = _
    rw [Array.getElem?_setIfInBounds_ne (fun e => hn ⟨k, _, l, hg, hk, hl, e⟩)]
  · rcases hsub j o h2 with ⟨rfl, _⟩ | ⟨h5, h6, h7⟩
    · rw [Ren.put_same] at h3
      cases h3
      exact .inr ⟨k, _, l, hg, hk, hl, h4⟩
    · rw [hfo j h5] at h3
      exact .inr ⟨j, o, l2, h1, h7, h3, h4⟩
  · have hoth : ∀ j o l2, j ≠ k → A.h.get j = some o → f j = some l2 → l2.blk ≠ l.blk := fun j o l2 hj ho hl2 he => hj (hW.inj j k o _ l2 l ho hk hl2 hl he)
    refine ⟨fun j o h => ?_, fun k1 k2 o1 o2 l1 l2 h1 h2 e1 e2 he => ?_, fun j o l2 h e1 h3 => ?_, fun j o h => ?_, fun j hj => ?_, fun j o h hj => ?_, Nat.le_succ_of_le hW.gm, by show base ≤ (w.heap.setIfInBounds _ _).size; rw [Array.size_setIfInBounds]; exact hW.sz, by show A.nx + 1 < _; omega⟩
    · rcases hsub j o h with ⟨rfl, rfl⟩ | ⟨h5, h6, h7⟩
      · refine ⟨_, Ren.put_same _ _ _, .soft (cs' := (setL arr.toList (off + n * sz) cs').toArray) (fz' := fz') (by show (w.heap.setIfInBounds l.blk _)[l.blk]? = _; rw [Array.getElem?_setIfInBounds]; simp [hlt]) hz (by rw [List.length_append, hol, hcl]; omega) (by simp [setL_len]) (by omega) hfz fun i v hv => ?_⟩
        have hcl' : cs'.length = m * sz := by rw [← hcs.1]; exact hcl
        by_cases hi : i < n * sz
        · rw [List.getElem?_append_left (by omega)] at hv
          obtain ⟨v', h8, h9⟩ := hold i v hv
          refine ⟨v', ?_, h9.mono hle⟩
          simp only [List.getElem?_toArray]
          rw [setL_lt _ _ _ _ (by omega), Nat.add_comm]
          simpa using h8
        · rw [List.getElem?_append_right (by omega), hol] at hv
          have hi2 : i - n * sz < cs.length := (List.getElem?_eq_some_iff.1 hv).1
          obtain ⟨v', h8, h9⟩ := hcs.get hv
          refine ⟨v', ?_, h9.mono hle⟩
          simp only [List.getElem?_toArray]
          rw [show i + off = off + n * sz + (i - n * sz) by omega, setL_in _ _ _ _ (by omega) (by simp; omega)]
          exact h8
      · obtain ⟨l2, h8, h9⟩ := hW.ob j o h7
        refine ⟨l2, by rw [hfo j h5]; exact h8, h9.mono hle ?_⟩
        show (w.heap.setIfInBounds l.blk _)[l2.blk]? = _
        rw [Array.getElem?_setIfInBounds_ne (fun e => hoth j o l2 h6 h7 h8 e.symm)]
    · rcases hsub k1 o1 h1 with ⟨rfl, _⟩ | ⟨h5, h6, h7⟩
      · rcases hsub k2 o2 h2 with ⟨rfl, _⟩ | ⟨h8, h9, h10⟩
        · rfl
        · rw [Ren.put_same] at e1
          cases e1
          rw [hfo k2 h8] at e2
          exact absurd he.symm (hoth k2 o2 l2 h9 h10 e2)
      · rw [hfo k1 h5] at e1
        rcases hsub k2 o2 h2 with ⟨rfl, _⟩ | ⟨h8, h9, h10⟩
        · rw [Ren.put_same] at e2
          cases e2
          exact absurd he (hoth k1 o1 l1 h6 h7 e1)
        · rw [hfo k2 h8] at e2
          exact hW.inj k1 k2 o1 o2 l1 l2 h7 h10 e1 e2 he
    · rcases hsub j o h with ⟨rfl, _⟩ | ⟨h5, h6, h7⟩
      · rw [Ren.put_same] at e1
        cases e1
        exact hW.low k _ l hk hl hg
      · rw [hfo j h5] at e1
        exact hW.low j o l2 h7 e1 h3
    · rcases hsub j o h with ⟨rfl, _⟩ | ⟨h5, h6, h7⟩
      · exact Nat.lt_succ_self _
      · have := hW.lt j o h7
        show j < A.nx + 1
        omega
    · have hj : A.nx + 1 ≤ j := hj
      rw [hfo j (by omega)]
      exact hW.fr j (by omega)
    · rcases hsub j o h with ⟨rfl, _⟩ | ⟨h5, h6, h7⟩
      · have := hW.gm
        omega
      · rw [hfo j h5]
        exact hW.gl j o h7 hj
theorem VR.hard_of {b : Option Addr} {n c : Nat} {s' : Value} (hs : VR f (.slice b n c) s') (hnt : ∀ k off q, b = some ⟨k, off, some q⟩ → False) : ∃ b', s' = .slice b' n c := by
  cases b with
  | none => cases hs; exact ⟨_, rfl⟩
  | some a =>
    have hsp : a.spot = none := by
      cases hsp : a.spot with
      | none => rfl
      | some q => exact (hnt a.block a.off q (by rw [← hsp])).elim
    obtain ⟨a', rfl, _⟩ := hs.hard_inv hsp
    exact ⟨_, rfl⟩
theorem eAppend_ok (hW : WR base gm f A w) (hnx : A.nx < 1000000000) {ts : Array TypeId} {ty : TypeId} {s s' x x' v : Value} (hs : VR f s s') (hx : VR f x x') {A' : AS} (h : eAppend P gm ts s x A = some (v, A')) :
    ∃ f' v' w', (Builtin.append_ ts ty #[s', x']).run P w = .ok v' w' ∧ Step base gm f A w f' A' w' ∧ VR f' v v' := by
  unfold eAppend at h
  split at h
  · rename_i t0 t1 ht0 ht1
    split at h
    · rename_i e b n c hu0
      split at h
      · rename_i i z hi hz
        obtain ⟨hz1, hz2⟩ := zeroA_ok hz
        split at h
        · rename_i m cs hnew hchk hsz0
          have hsz0 := beq_f hsz0
          have hpos : 0 < i.size := by omega
          simp only [Bool.and_eq_true] at hchk
          have hby := Nat.le_of_ble_eq_true hchk.1
          have hzs : z.cells.size = i.size := by rw [← beq_t hchk.2]; simp
          obtain ⟨cs1, hcs1, hN1⟩ := newC_ok (P := P) hW hx hnew
          split at h
          · rename_i hle
            have hle := Nat.le_of_ble_eq_true hle
            split at h
            · cases h
              cases hs
              refine ⟨f, _, w, ?_, Step.refl hW, .nils _ _⟩
              rw [append_in ht0 ht1 hu0 hi hby hN1 hle]
              rfl
            · rename_i a
              obtain ⟨a', c', rfl, _, hc⟩ := hs.slice_inv
              split at h
              · cases h
                obtain rfl : cs1 = [] := by have := hcs1.1; simpa using this.symm
                refine ⟨f, _, w, ?_, Step.refl hW, hs.relen hle⟩
                rw [append_in ht0 ht1 hu0 hi hby hN1 (Nat.le_trans hle hc)]
                simp [storeCells]
              · split at h
                · rename_i A2 hc0 hst
                  have hc0 := beq_f hc0
                  cases h
                  obtain ⟨w', hr, hS, _⟩ := stC_ok (P := P) hW ((hs.ar hc0).add (n * i.size)) hcs1 hst
                  refine ⟨f, _, w', ?_, hS, hs.relen hle⟩
                  rw [append_in ht0 ht1 hu0 hi hby hN1 (Nat.le_trans hle hc)]
                  dsimp only
                  rw [hr]
                  rfl
                · cases h
          · rename_i hgt
            have hgt : c < n + m := by
              cases Nat.lt_or_ge c (n + m) with
              | inl h => exact h
              | inr h => exact absurd (Nat.ble_eq_true_of_le h) (by rw [hgt]; simp)
            split at h
            · rename_i old hold
              obtain ⟨w2, hw2⟩ : ∃ w2 : World, w2 = { w with drawn := w.drawn + 1 } := ⟨_, rfl⟩
              have hWd : WR base gm f A { w with drawn := w.drawn + 1 } := hW.heap rfl
              obtain ⟨cs2, hcs2, hN2⟩ := newC_ok (P := P) hWd hx hnew
              obtain ⟨old', hro, hlo⟩ := srcC_ok (P := P) hWd hs hold
              split at h
              ·
                rename_i k off q hchk2
                simp only [Bool.and_eq_true] at hchk2
                have hsm := Nat.le_of_ble_eq_true hchk2.1.1.1
                have hcl := beq_t hchk2.1.1.2
                have hol := beq_t hchk2.1.2
                split at h
                · rename_i hk2
                  simp only [Bool.and_eq_true] at hk2
                  have hgk := Nat.le_of_ble_eq_true hk2.1
                  cases h
                  have hso := hk2.2
                  unfold softOk at hso
                  split at hso
                  · rename_i cs0 t fz so hk
                    simp only [Bool.and_eq_true] at hso
                    obtain rfl := beq_t hso.1
                    have hsoe := beq_t hso.2
                    obtain ⟨l, sz, T, T', hl, hls, hx3⟩ := hs.soft_inv rfl
                    dsimp only at hl
                    obtain ⟨l2, hl2, ho⟩ := hW.ob _ _ hk
                    rw [hl] at hl2
                    cases hl2
                    have hin : ∃ a' c', s' = .slice (some a') n c' ∧ c ≤ c' ∧ a'.block = l.blk ∧ a'.spot = none ∧ (n ≠ 0 → a'.off = off + l.dlt) ∧ (c' = 0 ∨ a'.off + c' * sz = T') := by
                      rcases hx3 with ⟨c', rfl, hc, h1, h2⟩ | ⟨rfl, rfl, a', c', rfl, hb, hp, hc⟩
                      · exact ⟨_, _, rfl, hc, rfl, rfl, fun _ => rfl, .inr h2⟩
                      · exact ⟨_, _, rfl, Nat.zero_le _, hb, hp, fun h => absurd rfl h, hc⟩
                    obtain ⟨a', c', rfl, hcc, hab, hap, hao, hT⟩ := hin
                    have ea : a' = ⟨l.blk, a'.off, none⟩ := by obtain ⟨b0, o0, s0⟩ := a'; cases hab; cases hap; rfl
                    by_cases hroom : n + m ≤ c'
                    ·
                      cases ho with
                      | hard _ _ => cases hls
                      | obj _ ho => cases ho
                      | @soft _ arr _ fz' blk d _ _ _ hw hs0 hT1 hT2 hle hfz hr =>
                        cases hls
                        subst hsoe
                        dsimp only at *
                        have hT3 : a'.off + c' * i.size = arr.size := by
                          rcases hT with h | h
                          · omega
                          · rw [hT2]; exact h
                        have hcl1 : cs1.length = m * i.size := by rw [← hcs1.1]; exact hcl
                        have hmul : (n + m) * i.size ≤ c' * i.size := Nat.mul_le_mul_right _ hroom
                        have hnm : (n + m) * i.size = n * i.size + m * i.size := Nat.add_mul _ _ _
                        have hS := Step.onto (cs' := cs1) hW hnx hk hl hgk hw (by rw [hT2]; exact hfz) hpos hol hcl hcs1 (fun j u hu => by
                          have hn0 : n ≠ 0 := fun e => by
                            subst e
                            rw [Nat.zero_mul] at hol
                            have := List.eq_nil_of_length_eq_zero hol
                            subst this
                            simp at hu
                          unfold srcC at hold
                          dsimp only at hold
                          split at hold
                          · rename_i e0; exact absurd (beq_t e0) hn0
                          · unfold cellsN at hold
                            dsimp only [Am.strip] at hold
                            rw [hk] at hold
                            dsimp only at hold
                            split at hold
                            · cases hold
                              rw [List.getElem?_take] at hu
                              split at hu
                              · rw [List.getElem?_drop] at hu
                                obtain ⟨v', h8, h9⟩ := hr _ _ hu
                                exact ⟨v', by rw [hao hn0, Nat.add_right_comm]; exact h8, h9⟩
                              · cases hu
                            · cases hold
                          · cases hold) hroom hT3
                        refine ⟨_, .slice (some a') (n + m) c', _, ?_, hS, ?_⟩
                        · rw [append_in ht0 ht1 hu0 hi hby hN1 hroom]
                          dsimp only
                          rw [ea, addr_add]
                          rw [storeCells_run (P := P) (t := t) (fz := fz') cs1 0 arr w hw (by omega) (by rw [hT2]; exact hfz) (fun x hx => ?_)]
                          · rfl
                          · exact oneC_list hcs1 hchk2.2 x hx
                        · have e2 : (.slice (some a') (n + m) c' : Value) = .slice (some ⟨blk, 0 + a'.off, none⟩) (n + m) c' := by rw [Nat.zero_add, ← ea]
                          rw [e2]
                          exact .soft (l := ⟨blk, a'.off, some (i.size, (n + m) * i.size, arr.size)⟩) (a := ⟨A.nx, 0, some 0⟩) (Ren.put_same _ _ _) rfl (by show 0 + (n + m) * i.size = _; omega) (by show 0 + a'.off + c' * i.size = _; omega) hroom rfl
                    · obtain ⟨k', hk', hrun⟩ := append_out (ty := ty) ht0 ht1 hu0 hi hby hN1 hN2 hro hz1 (by omega) hsm
                      have hF := FOut.row (f := f) (w := w) (id := A.nx) (e := t) hpos (Builtin.zeroCells z.cells (k' - (n + m))) (n := n + m) (k := k') (hW.fr _ (Nat.le_refl _)) hlo hcs2 (by rw [hol, hcl, Nat.add_mul]) (by simp [Builtin.zeroCells, hzs]) hk' (w1 := { w with drawn := w.drawn + 1, heap := w.heap.push (.cells (old'.toArray ++ cs2.toArray ++ Builtin.zeroCells z.cells (k' - (n + m))) t) }) rfl ⟨rfl, rfl, rfl⟩
                      have hKill := Step.kill hW hk
                      obtain ⟨f1, hS, hv⟩ := FOut.step hKill.wr hnx hF
                      exact ⟨f1, _, _, hrun, hKill.trans hS, hv⟩
                  · cases hso
                · cases h
              · rename_i b hchk2 hnt
                simp only [Bool.and_eq_true] at hchk2
                have hsm := Nat.le_of_ble_eq_true hchk2.1.1.1
                have hcl := beq_t hchk2.1.1.2
                have hol := beq_t hchk2.1.2
                cases h
                have hin : ∃ b', s' = .slice b' n c := hs.hard_of (fun k off q e => hnt k off q e)
                obtain ⟨b', rfl⟩ := hin
                obtain ⟨k', hk', hrun⟩ := append_out (ty := ty) ht0 ht1 hu0 hi hby hN1 hN2 hro hz1 hgt hsm
                have hF := FOut.row (f := f) (w := w) (id := A.nx) (e := e) hpos (Builtin.zeroCells z.cells (k' - (n + m))) (n := n + m) (k := k') (hW.fr _ (Nat.le_refl _)) hlo hcs2 (by rw [hol, hcl, Nat.add_mul]) (by simp [Builtin.zeroCells, hzs]) hk' (w1 := { w with drawn := w.drawn + 1, heap := w.heap.push (.cells (old'.toArray ++ cs2.toArray ++ Builtin.zeroCells z.cells (k' - (n + m))) e) }) rfl ⟨rfl, rfl, rfl⟩
                obtain ⟨f1, hS, hv⟩ := FOut.step hW hnx hF
                exact ⟨f1, _, _, hrun, hS, hv⟩
              · cases h
            · cases h
        · cases h
      · cases h
    · cases h
  · cases h
end
end
end Go.Proofs.YtlfinaeklaimjaaGreatDoor.Am
namespace Go.Proofs.YtlfinaeklaimjaaGreatDoor
noncomputable section
end
end Go.Proofs.YtlfinaeklaimjaaGreatDoor
namespace Go.Proofs.YtlfinaeklaimjaaGreatDoor.Am
noncomputable section
open Go.Proofs.YtlfinaeklaimjaaGreatDoor Go.RowKit
section
variable {P : Program} {base gm : Nat} {f : Ren} {A : AS} {w w1 : World}
theorem eCopy_ok (hW : WR base gm f A w) {ts : Array TypeId} {ty : TypeId} {d d' s s' v : Value} (hd : VR f d d') (hs : VR f s s') {A' : AS} (h : eCopy P gm ts d s A = some (v, A')) :
    ∃ w', (Builtin.copy_ ts ty #[d', s']).run P w = .ok v w' ∧ Step base gm f A w f A' w' ∧ VR f v v := by
  unfold eCopy at h
  split at h
  · rename_i t0 ht0
    split at h
    · rename_i e b dn dc sn hu hls
      split at h
      · rename_i i hi
        split at h
        · rename_i cs hc
          obtain ⟨cs', hr, hl⟩ := srcC_ok (P := P) hW hs hc
          have hlen := lenA_ok (P := P) hs hls w
          split at h
          · cases h
            cases hd
            refine ⟨w, ?_, Step.refl hW, .int _ _⟩
            simp only [Builtin.copy_, ht0, List.getElem?_toArray, List.getElem?_cons_zero, List.getElem?_cons_succ, Sem.run_bind, run_underlying hu, Result.andThen_ok, hlen, run_sizeOf' hi, hr, Sem.run_pure]
          · rename_i a
            split at h
            · rename_i A2 hst
              cases h
              obtain ⟨a', c', rfl, ha, _⟩ := hd.slice_inv
              have key : ∃ w', (storeCells a' cs').run P w = .ok () w' ∧ Step base gm f A w f A' w' := by
                by_cases hn : dn = 0
                · have hcs : cs = [] := by
                    unfold srcC at hc
                    split at hc
                    · rw [show Nat.min sn dn = 0 by rw [hn]; exact Nat.min_zero _] at hc
                      simp only [Nat.beq] at hc
                      cases hc; rfl
                    · cases hc; rfl
                    · rw [show Nat.min sn dn = 0 by rw [hn]; exact Nat.min_zero _] at hc
                      cases hc
                      simp
                    · cases hc
                  subst hcs
                  obtain rfl : cs' = [] := by have := hl.1; simpa using this.symm
                  have : A' = A := by unfold stC at hst; cases hst; rfl
                  subst this
                  exact ⟨w, by simp [storeCells], Step.refl hW⟩
                · obtain ⟨w', h1, h2, _⟩ := stC_ok (P := P) hW (ha hn) hl hst
                  exact ⟨w', h1, h2⟩
              obtain ⟨w', h1, h2⟩ := key
              refine ⟨w', ?_, h2, .int _ _⟩
              simp only [Builtin.copy_, ht0, List.getElem?_toArray, List.getElem?_cons_zero, List.getElem?_cons_succ, Sem.run_bind, run_underlying hu, Result.andThen_ok, hlen, run_sizeOf' hi, hr, h1, Sem.run_pure]
            · cases h
        · cases h
      · cases h
    · cases h
  · cases h
theorem eMark_ok (hW : WR base gm f A w) {s d : TypeId} {x x' v : Value} (hx : VR f x x') {A' : AS} (h : eMark P gm s d x A = some (v, A')) :
    ∃ v' w', (convert s d x').run P w = .ok v' w' ∧ Step base gm f A w f A' w' ∧ VR f v v' := by
  unfold eMark at h
  split at h
  · rename_i e0 e a n c hs hd
    split at h
    · rename_i cs t he hg hb hsp
      cases h
      simp only [Bool.and_eq_true] at hb
      obtain rfl := beq_t hb.1
      have hgk := Nat.le_of_ble_eq_true hb.2
      obtain ⟨a', rfl, ha⟩ := hx.hard_inv hsp
      obtain ⟨l, hl, ha'⟩ := ha
      obtain ⟨l2, hl2, ho⟩ := hW.ob _ _ hg
      rw [hl] at hl2
      cases hl2
      cases ho with
      | hard hw hr =>
        rename_i cs' b
        have hsz : cs'.size = cs.length := by rw [hr.1]; simp
        have hlt := (Array.getElem?_eq_some_iff.1 hw).1
        have hab : a'.block = b := by rw [ha']
        have hfr : (w.freeze { block := a'.block, off := cs'.size } 1) = { w with heap := w.heap.setIfInBounds b (.cells cs' t (cs'.size, cs'.size + 1)) } := by
          unfold World.freeze
          rw [if_neg (by decide)]
          simp only [World.mk.injEq, and_true]
          apply Array.ext_getElem?
          intro i
          rw [Array.getElem?_modify, Array.getElem?_setIfInBounds, hab]
          by_cases hi : b = i
          · subst hi
            rw [if_pos rfl, if_pos rfl, hw, if_pos hlt]
            rfl
          · rw [if_neg hi, if_neg hi]
        refine ⟨.slice (some a') n c, { w with heap := w.heap.setIfInBounds b (.cells cs' t (cs'.size, cs'.size + 1)) }, ?_, ?_, .sl ⟨_, hl, ha'⟩ hsp⟩
        · have hsh : w.shape? a'.block = some (t, cs'.size) := by unfold World.shape?; rw [hab, hw]
          rw [hs] at hd
          cases hd
          simp only [convert, Sem.run_bind, run_underlying hs, Result.andThen_ok, run_underlying he, beq_self_eq_true, markStringish, run_shape, hsh, run_freeze, hfr, Sem.run_pure]
        · refine Step.write hW hg hl hgk rfl ⟨rfl, rfl, rfl⟩ ?_
          rw [← hsz]
          exact .hard (by show (w.heap.setIfInBounds b _)[b]? = _; rw [Array.getElem?_setIfInBounds]; simp [hlt]) hr
      | soft _ hs0 _ _ _ _ _ => exact absurd hs0 (Nat.lt_irrefl 0)
      | obj _ ho => cases ho
    · cases h
  · cases h
theorem Step.lose (hW : WR base gm f A w) {k : Nat} {o : AObj} {l : Loc} {ob : Obj} (hk : A.h.get k = some o) (hl : f k = some l) (hg : gm ≤ k) (hw : w1.heap = w.heap.setIfInBounds l.blk ob)
    (hos : w1.os = w.os ∧ w1.tape = w.tape ∧ w1.output = w.output) : Step base gm f A w f ⟨HT.set 64 A.h k none, A.nx⟩ w1 := by
  have hget := hW.get_set hk none
  have hother : ∀ b, b ≠ l.blk → w1.heap[b]? = w.heap[b]? := fun b hb => by rw [hw, Array.getElem?_setIfInBounds_ne (fun e => hb e.symm)]
  have hsize : w1.heap.size = w.heap.size := by rw [hw, Array.size_setIfInBounds]
  have hK := hW.kill hk
  have hsub : ∀ m o2, (HT.set 64 A.h k none).get m = some o2 → m ≠ k ∧ A.h.get m = some o2 := fun m o2 h => by
    rw [hget] at h
    by_cases e : m = k
    · rw [if_pos e] at h; cases h
    · rw [if_neg e] at h; exact ⟨e, h⟩
  refine ⟨fun _ _ => rfl, Nat.le_refl _, ⟨hos.1, hos.2.1, hos.2.2, by rw [hsize]; exact Nat.le_refl _, fun b hb hn => hother b fun e => hn ⟨k, o, l, hg, hk, hl, e.symm⟩⟩, fun b ⟨m, o2, l2, h1, h2, h3, h4⟩ => ?_, ?_⟩
  · exact .inr ⟨m, o2, l2, h1, (hsub m o2 h2).2, h3, h4⟩
  · exact ⟨fun m o2 h => by
      obtain ⟨h1, h2⟩ := hsub m o2 h
      obtain ⟨l2, h3, h4⟩ := hW.ob m o2 h2
      exact ⟨l2, h3, h4.mono (.refl _) (hother _ fun e => h1 (hW.inj m k _ _ _ _ h2 hk h3 hl e))⟩, hK.inj, hK.low, hK.lt, hK.fr, hK.gl, hK.gm, by rw [hsize]; exact hK.sz, hK.nb⟩
theorem loadBytes_run {b : Nat} : ∀ (r : List Int) (o : Nat) (acc : ByteArray), (∀ j n, r[j]? = some n → w.cell? ⟨b, o + j, none⟩ = some (.int .u8 n)) →
    (loadBytes ⟨b, o, none⟩ acc r.length).run P w = .ok ⟨(acc.data.toList ++ r.map fun n => n.toNat.toUInt8).toArray⟩ w
  | [], o, acc, _ => by simp [loadBytes]
  | n :: r, o, acc, h => by
    have h0 := h 0 n rfl
    rw [Nat.add_zero] at h0
    rw [List.length_cons, loadBytes]
    simp only [Sem.run_bind, run_load, h0, Result.andThen_ok, addr_add]
    rw [loadBytes_run r (o + 1) _ (fun j m hj => by rw [show o + 1 + j = o + (j + 1) by omega]; exact h (j + 1) m (by simpa using hj))]
    simp [ByteArray.push]
theorem liesAt_byte {t u : TypeId} {cells off n : Nat} (h1 : P.cellsOf t = 1) (h2 : P.underlyingId t = P.underlyingId u) (hle : off + n ≤ cells) : liesAt P P.depth t (cells / P.cellsOf t) off u n = true := by
  have hd : P.depth = (2 * (P.types.size + Made.depth) + 1) + 1 := rfl
  have hs : sameLayout P P.depth t u = true := by
    rw [hd, sameLayout]
    simp [h2]
  have hr : rowAt P (sameLayout P P.depth · u) P.depth t (cells / P.cellsOf t) off n = true := by
    obtain ⟨D, hD⟩ : ∃ D, D = 2 * (P.types.size + Made.depth) + 1 := ⟨_, rfl⟩
    rw [← hD] at hd
    have : rowAt P (sameLayout P P.depth · u) (D + 1) t (cells / P.cellsOf t) off n = true := by
      rw [rowAt]
      simp only [h1, Nat.div_one, Nat.mod_one]
      simp [hs, hle]
    rw [← hd] at this
    exact this
  obtain ⟨D, hD⟩ : ∃ D, D = 2 * (P.types.size + Made.depth) + 1 := ⟨_, rfl⟩
  rw [← hD] at hd
  rw [hd] at hr ⊢
  rw [liesAt]
  rw [hd] at *
  simp only [hr, Bool.true_or]
theorem eData_ok (hW : WR base gm f A w) {ts : Array TypeId} {ty : TypeId} {x x' v : Value} (hx : VR f x x') {A' : AS} (h : eData x A = some (v, A')) :
    ∃ v' w', (Builtin.unsafeSliceData_ ts ty #[x']).run P w = .ok v' w' ∧ Step base gm f A w f A' w' ∧ VR f v v' := by
  unfold eData at h
  split at h
  · rename_i a n c
    cases h
    obtain ⟨a', c', rfl, ha, hc⟩ := hx.slice_inv
    obtain ⟨q, rfl⟩ : ∃ q, c' = q + 1 := ⟨c' - 1, by omega⟩
    exact ⟨_, w, rfl, Step.refl hW, .ptr (ha (by omega))⟩
  · cases h
theorem eText_ok (hW : WR base gm f A w) {ts : Array TypeId} {ty : TypeId} {x x' n n' v : Value} (hx : VR f x x') (hn : VR f n n') {A' : AS} (h : eText P gm ts x n A = some (v, A')) :
    ∃ w', (Builtin.unsafeString_ ts ty #[x', n']).run P w = .ok v w' ∧ Step base gm f A w f A' w' ∧ VR f v v := by
  unfold eText at h
  split at h
  · rename_i t0 a k m ht0
    obtain rfl := hn.int_inv
    obtain ⟨a', rfl, ha⟩ := hx.ptr_inv
    split at h
    · rename_i u cs t fz so hu hsp hg
      split at h
      · rename_i r hb hr
        cases h
        simp only [Bool.and_eq_true] at hb
        have h1 := beq_t hb.1.1.1.1
        have h2 := beq_t hb.1.1.1.2
        have h3 := Nat.le_of_ble_eq_true hb.1.1.2
        have hgk := Nat.le_of_ble_eq_true hb.1.2
        have h5 := Nat.le_of_ble_eq_true hb.2
        have hbytes := bytesOf_ok _ _ hr
        have hlen : r.length = m + 1 := by
          have := congrArg List.length hbytes
          rw [List.length_map, List.length_take, List.length_drop] at this
          omega
        have hcells : ∀ j q, r[j]? = some q → w.cell? ⟨a'.block, a'.off + j, none⟩ = some (.int .u8 q) := fun j q hj => by
          have hj2 : ((cs.drop a.off).take (m + 1))[j]? = some (.int .u8 q) := by rw [hbytes, List.getElem?_map, hj]; rfl
          rw [List.getElem?_take] at hj2
          split at hj2
          · rw [List.getElem?_drop] at hj2
            obtain ⟨v', h6, h7⟩ := cell_ok (j := j) hW ha (v := .int .u8 q) (by unfold cell; rw [hsp]; dsimp only; rw [hg]; exact hj2)
            rw [h6, h7.int_inv]
          · cases hj2
        obtain ⟨l, hl, ha'⟩ := ha
        rw [hsp] at ha'
        obtain ⟨l2, hl2, ho⟩ := hW.ob _ _ hg
        rw [hl] at hl2
        cases hl2
        have hrow : ∃ (arr : Array Value) (fz' : Nat × Nat), w.heap[l.blk]? = some (.cells arr t fz') ∧ a'.off + (m + 1) ≤ arr.size := by
          cases ho with
          | hard hw hr2 => exact ⟨_, _, hw, by rw [ha']; have := hr2.1; simp at this; dsimp only; omega⟩
          | soft hw hs hT hT' hle hfz hr2 => exact ⟨_, _, hw, by rw [ha']; dsimp only; omega⟩
          | obj _ ho => cases ho
        obtain ⟨arr, fz', hw, hle⟩ := hrow
        have hlt := (Array.getElem?_eq_some_iff.1 hw).1
        have hab : a'.block = l.blk := by rw [ha']
        have ea : a' = ⟨a'.block, a'.off, none⟩ := by rw [ha']
        have hsh : w.shape? a'.block = some (t, arr.size) := by unfold World.shape?; rw [hab, hw]
        have hva : (variablesAt a' u (m + 1)).run P w = .ok true w := by
          unfold variablesAt
          simp only [Sem.run_bind, run_program, Result.andThen_ok, run_shape, hsh, Sem.run_pure, liesAt_byte h1 h2 hle]
        have hlb : (loadBytes a' .empty (m + 1)).run P w = .ok ⟨(r.map fun n => n.toNat.toUInt8).toArray⟩ w := by
          rw [ea, ← hlen, loadBytes_run r _ _ hcells]
          rfl
        obtain ⟨ob, hfr⟩ : ∃ ob, w.freeze a' (m + 1) = { w with heap := w.heap.setIfInBounds l.blk ob } := by
          refine ⟨.cells arr t (if fz'.1 == fz'.2 then (a'.off, a'.off + (m + 1)) else (min fz'.1 a'.off, max fz'.2 (a'.off + (m + 1)))), ?_⟩
          unfold World.freeze
          rw [if_neg (by omega)]
          simp only [World.mk.injEq, and_true]
          apply Array.ext_getElem?
          intro i
          rw [Array.getElem?_modify, Array.getElem?_setIfInBounds, hab]
          by_cases hi : l.blk = i
          · subst hi
            rw [if_pos rfl, if_pos rfl, hw, if_pos hlt]
            rfl
          · rw [if_neg hi, if_neg hi]
        refine ⟨w.freeze a' (m + 1), ?_, Step.lose hW hg hl hgk (by rw [hfr]) (by rw [hfr]; exact ⟨rfl, rfl, rfl⟩), .str _⟩
        have hneg : ¬ (Int.ofNat (m + 1) < 0) := by simp; omega
        have hmx : ¬ (Int.ofNat (m + 1) > IntKind.i64.max) := by
          have : IntKind.i64.max = 9223372036854775807 := by decide
          rw [this]
          simp
          omega
        have hz0 : ¬ (Int.ofNat (m + 1) = 0) := by simp; omega
        have htn : (Int.ofNat (m + 1)).toNat = m + 1 := rfl
        change (asInt (.int k (.ofNat (m + 1))) >>= _).run P w = _
        simp only [asInt, asIntOf, Sem.run_bind, Sem.run_pure, Result.andThen_ok, ht0, if_neg hneg, if_neg hmx, if_neg hz0, elemOf, run_underlying hu, htn, hva, if_true, hlb, run_freeze]
      · cases h
    · cases h
  · cases h
end
end
end Go.Proofs.YtlfinaeklaimjaaGreatDoor.Am
namespace Go.Proofs.YtlfinaeklaimjaaGreatDoor
noncomputable section
end
end Go.Proofs.YtlfinaeklaimjaaGreatDoor
namespace Go.Proofs.YtlfinaeklaimjaaGreatDoor.Am
noncomputable section
open Go.Proofs.YtlfinaeklaimjaaGreatDoor Go.RowKit
section
variable {P : Program} {base gm : Nat} {f : Ren} {A : AS} {w w1 : World}
abbrev ER (f : Ren) (e : Value × Value × Nat) (e' : MapEntry) : Prop := VR f e.1 e'.key ∧ VR f e.2.1 e'.val ∧ e.2.2 = e'.born
abbrev MR (f : Ren) (es : List (Value × Value × Nat)) (es' : Array MapEntry) : Prop := es.length = es'.size ∧ ∀ (i : Nat) (e : Value × Value × Nat) (e' : MapEntry), es[i]? = some e → es'[i]? = some e' → ER f e e'
theorem modL_get {α : Type} (g : α → α) : ∀ (l : List α) (i j : Nat), (modL g l i)[j]? = if j = i then (l[i]?).map g else l[j]?
  | [], i, j => by simp [modL]
  | a :: l, 0, j => by
    cases j with
    | zero => rfl
    | succ j => rfl
  | a :: l, i + 1, j => by
    cases j with
    | zero => rfl
    | succ j => simpa [modL] using modL_get g l i j
theorem modL_len {α : Type} (g : α → α) : ∀ (l : List α) (i : Nat), (modL g l i).length = l.length
  | [], _ => rfl
  | _ :: _, 0 => rfl
  | _ :: l, i + 1 => by simp [modL, modL_len g l i]
theorem MR.mod {es : List (Value × Value × Nat)} {es' : Array MapEntry} (h : MR f es es') {g : Value × Value × Nat → Value × Value × Nat} {g' : MapEntry → MapEntry} (i : Nat) (hg : ∀ e e', es[i]? = some e → es'[i]? = some e' → ER f (g e) (g' e')) : MR f (modL g es i) (es'.modify i g') := by
  refine ⟨by rw [modL_len, Array.size_modify]; exact h.1, fun j e e' ha hb => ?_⟩
  rw [modL_get] at ha
  rw [Array.getElem?_modify] at hb
  by_cases hj : j = i
  · subst hj
    rw [if_pos rfl] at ha hb
    cases hx : es[j]? with
    | none => rw [hx] at ha; cases ha
    | some x =>
      cases hy : es'[j]? with
      | none => rw [hy] at hb; cases hb
      | some y =>
        rw [hx] at ha
        rw [hy] at hb
        cases ha
        cases hb
        exact hg x y hx hy
  · rw [if_neg hj] at ha
    rw [if_neg (fun e => hj e.symm)] at hb
    exact h.2 j e e' ha hb
theorem MR.push {es : List (Value × Value × Nat)} {es' : Array MapEntry} (h : MR f es es') {e : Value × Value × Nat} {e' : MapEntry} (he : ER f e e') : MR f (es ++ [e]) (es'.push e') := by
  refine ⟨by simp [h.1], fun j a b ha hb => ?_⟩
  rw [Array.getElem?_push] at hb
  by_cases hj : j = es'.size
  · rw [if_pos hj] at hb
    rw [hj, ← h.1, List.getElem?_append_right (Nat.le_refl _), Nat.sub_self] at ha
    cases ha
    cases hb
    exact he
  · rw [if_neg hj] at hb
    have := (Array.getElem?_eq_some_iff.1 hb).1
    rw [List.getElem?_append_left (by rw [h.1]; exact this)] at ha
    exact h.2 j a b ha hb
theorem mapObj (hW : WR base gm f A w) {r : Nat} {es : List (Value × Value × Nat)} {c : Nat} (hg : A.h.get r = some (.map es c)) :
    ∃ l es', f r = some l ∧ l = ⟨l.blk, 0, none⟩ ∧ w.heap[l.blk]? = some (.map es' c) ∧ MR f es es' := by
  obtain ⟨l, hl, ho⟩ := hW.ob _ _ hg
  cases ho with
  | obj hw ho =>
    cases ho with
    | map hs hk => exact ⟨_, _, hl, rfl, hw, hs, hk⟩
theorem Step.obj (hW : WR base gm f A w) {r : Nat} {o o1 : AObj} {l : Loc} {o' : Obj} (hk : A.h.get r = some o) (hl : f r = some l) (hl2 : l = ⟨l.blk, 0, none⟩) (hg : gm ≤ r) (hlt : l.blk < w.heap.size) (ho : OR f o1 o') :
    Step base gm f A w f (Am.put A r (some o1)) { w with heap := w.heap.setIfInBounds l.blk o' } := by
  refine Step.write hW hk hl hg rfl ⟨rfl, rfl, rfl⟩ ?_
  rw [hl2]
  exact .obj (by show (w.heap.setIfInBounds _ _)[_]? = _; rw [Array.getElem?_setIfInBounds]; simp [hlt]) ho
theorem findL_at {d : TypeDesc} {k : Value} : ∀ (es : List (Value × Value × Nat)) (s i : Nat) (v : Value), findL d k es s = some (some (i, v)) → s ≤ i ∧ ∃ e, es[i - s]? = some e ∧ Instr.sameNow d k e.1 = some true ∧ v = e.2.1
  | [], _, _, _, h => by cases h
  | e :: es, s, i, v, h => by
    rw [findL] at h
    split at h
    · rename_i hs
      cases h
      exact ⟨Nat.le_refl _, e, by simp, hs, rfl⟩
    · obtain ⟨h1, e2, h2, h3⟩ := findL_at es (s + 1) i v h
      exact ⟨by omega, e2, by rw [show i - s = (i - (s + 1)) + 1 by omega]; exact h2, h3⟩
    · cases h
theorem ba_eq {a b : ByteArray} (h : (a == b) = true) : a = b := by
  cases a
  cases b
  rename_i x y
  have h2 : (x == y) = true := h
  rw [eq_of_beq h2]
theorem ba_self (a : ByteArray) : (a == a) = true := by
  cases a
  rename_i x
  show (x == x) = true
  simp
theorem same_bits {d : TypeDesc} {k e : Value} (h : Instr.sameNow d k e = some true) (n : Nat) : Instr.sameBits n e k = true := by
  unfold Instr.sameNow at h
  split at h
  · split at h
    · rename_i hk
      simp only [Option.some.injEq, beq_iff_eq] at h
      subst hk h
      unfold Instr.sameBits
      simp
    · cases h
  · simp only [Option.some.injEq] at h
    obtain rfl := ba_eq h
    unfold Instr.sameBits
    exact ba_self _
  · simp only [Option.some.injEq, beq_iff_eq] at h
    subst h
    unfold Instr.sameBits
    simp
  · cases h
theorem setObj_map {r : Nat} {es : Array MapEntry} {c : Nat} (o : Obj) (h : w.heap[r]? = some (.map es c)) : (setObj r o).run P w = .ok () { w with heap := w.heap.setIfInBounds r o } := by simp [setObj, Sem.run, h]
theorem getObj_map {r : Nat} {es : Array MapEntry} {c : Nat} (h : w.heap[r]? = some (.map es c)) : (getObj r).run P w = .ok (.map es c) w := by simp [getObj, Sem.run, h]
theorem eMapUpdate_ok (hW : WR base gm f A w) {t : TypeId} {m m' k k' v v' u : Value} (hm : VR f m m') (hk : VR f k k') (hv : VR f v v') {A' : AS} (h : eMapUpdate P gm t m k v A = some (u, A')) :
    ∃ w', (Instr.mapUpdate t m' k' v').run P w = .ok () w' ∧ Step base gm f A w f A' w' ∧ u = undef := by
  unfold eMapUpdate at h
  split at h
  · rename_i kt et r hu
    split at h
    · rename_i d es c hd hg hgr
      have hgr := Nat.le_of_ble_eq_true hgr
      obtain ⟨l, es', hl, hl0, hw, hM⟩ := mapObj hW hg
      have hlt := (Array.getElem?_eq_some_iff.1 hw).1
      obtain rfl : m' = .map (some l.blk) := by
        cases hm with
        | map hr => rw [hl] at hr; cases hr; rfl
      split at h
      · rename_i i v0 hs hf
        cases h
        obtain ⟨r', hr, hrel⟩ := findL_ok hk es es'.toList 0 _ (by simpa using hM.1) (fun j a b ha hb => hM.2 j a b ha (by simpa using hb)) hf
        cases r' with
        | none => exact hrel.elim
        | some p =>
          obtain ⟨i', v2⟩ := p
          obtain ⟨rfl, _⟩ := hrel
          obtain ⟨_, e, he, hsame, _⟩ := findL_at es 0 i v0 hf
          rw [Nat.sub_zero] at he
          have hi : i < es'.size := by rw [← hM.1]; exact (List.getElem?_eq_some_iff.1 he).1
          have he' := Array.getElem?_eq_getElem hi
          have hE := hM.2 i e _ he he'
          have hkts : (Instr.keyThatStays (((es'[i]?).map (·.key)).getD k') k').run P w = .ok k' w := by
            rw [he']
            simp only [Instr.keyThatStays, Option.map_some, Option.getD_some]
            rw [if_pos (same_bits (sameNow_ok hk hE.1 hsame) 10000)]
            rfl
          have hMod := hM.mod i (g := fun e => (k, v, e.2.2)) (g' := fun e => { e with key := k', val := v' }) fun a b ha hb => ⟨hk, hv, (hM.2 i a b ha hb).2.2⟩
          refine ⟨_, ?_, Step.obj hW hg hl hl0 hgr hlt (.map hMod.1 hMod.2), rfl⟩
          simp only [Instr.mapUpdate, Sem.run_bind, run_underlying hu, Result.andThen_ok, getObj_map hw, checkKey_ok hd hs, findKey_ok hd hr, hkts, setObj_map _ hw]
      · rename_i hs hf
        cases h
        obtain ⟨r', hr, hrel⟩ := findL_ok hk es es'.toList 0 _ (by simpa using hM.1) (fun j a b ha hb => hM.2 j a b ha (by simpa using hb)) hf
        cases r' with
        | some p => exact hrel.elim
        | none =>
          have hP := hM.push (e := (k, v, c)) (e' := { key := k', val := v', born := c }) ⟨hk, hv, rfl⟩
          refine ⟨_, ?_, Step.obj hW hg hl hl0 hgr hlt (.map hP.1 hP.2), rfl⟩
          simp only [Instr.mapUpdate, Sem.run_bind, run_underlying hu, Result.andThen_ok, getObj_map hw, checkKey_ok hd hs, findKey_ok hd hr, setObj_map _ hw]
      · cases h
    · cases h
  · cases h
theorem eDelete_ok (hW : WR base gm f A w) {ts : Array TypeId} {ty : TypeId} {m m' k k' u : Value} (hm : VR f m m') (hk : VR f k k') {A' : AS} (h : eDelete P gm ts m k A = some (u, A')) :
    ∃ u' w', (Builtin.delete_ ts ty #[m', k']).run P w = .ok u' w' ∧ Step base gm f A w f A' w' ∧ VR f u u' := by
  unfold eDelete at h
  split at h
  · rename_i t ht
    split at h
    · rename_i kt et r hu
      split at h
      · rename_i d es c hd hg hgr
        have hgr := Nat.le_of_ble_eq_true hgr
        obtain ⟨l, es', hl, hl0, hw, hM⟩ := mapObj hW hg
        have hlt := (Array.getElem?_eq_some_iff.1 hw).1
        obtain rfl : m' = .map (some l.blk) := by
          cases hm with
          | map hr => rw [hl] at hr; cases hr; rfl
        split at h
        · rename_i i v0 hs hf
          cases h
          obtain ⟨r', hr, hrel⟩ := findL_ok hk es es'.toList 0 _ (by simpa using hM.1) (fun j a b ha hb => hM.2 j a b ha (by simpa using hb)) hf
          cases r' with
          | none => exact hrel.elim
          | some p =>
            obtain ⟨i', v2⟩ := p
            obtain ⟨rfl, _⟩ := hrel
            have e1 : (es'.eraseIdxIfInBounds i).toList = es'.toList.eraseIdx i := by
              unfold Array.eraseIdxIfInBounds
              split
              · simp
              · rename_i hh
                rw [List.eraseIdx_of_length_le (by simpa using hh)]
            refine ⟨_, _, ?_, Step.obj hW hg hl hl0 hgr hlt (o' := .map (es'.eraseIdxIfInBounds i) c) (.map ?_ fun j a b ha hb => ?_), .tuple rfl fun _ _ _ h => by simp at h⟩
            · simp only [Builtin.delete_, ht, Sem.run_bind, run_underlying hu, Result.andThen_ok, getObj_map hw, checkKey_ok hd hs, findKey_ok hd hr, setObj_map _ hw, Sem.run_pure, List.getElem?_toArray, List.getElem?_cons_zero, List.getElem?_cons_succ]
            · have e2 := congrArg List.length e1
              rw [Array.length_toList, List.length_eraseIdx, Array.length_toList] at e2
              rw [e2, List.length_eraseIdx, hM.1]
            · rw [List.getElem?_eraseIdx] at ha
              rw [← Array.getElem?_toList, e1, List.getElem?_eraseIdx] at hb
              split at ha
              · rename_i hj
                rw [if_pos hj] at hb
                exact hM.2 j a b ha (by simpa using hb)
              · rename_i hj
                rw [if_neg hj] at hb
                exact hM.2 (j + 1) a b ha (by simpa using hb)
        · rename_i hs hf
          cases h
          obtain ⟨r', hr, hrel⟩ := findL_ok hk es es'.toList 0 _ (by simpa using hM.1) (fun j a b ha hb => hM.2 j a b ha (by simpa using hb)) hf
          cases r' with
          | some p => exact hrel.elim
          | none =>
            refine ⟨_, _, ?_, Step.obj hW hg hl hl0 hgr hlt (o' := .map es' c) (.map hM.1 hM.2), .tuple rfl fun _ _ _ h => by simp at h⟩
            simp only [Builtin.delete_, ht, Sem.run_bind, run_underlying hu, Result.andThen_ok, getObj_map hw, checkKey_ok hd hs, findKey_ok hd hr, setObj_map _ hw, Sem.run_pure, List.getElem?_toArray, List.getElem?_cons_zero, List.getElem?_cons_succ]
        · cases h
      · cases h
    · cases h
  · cases h
theorem eMapEntry_ok (hW : WR base gm f A w) {t : TypeId} {m m' k k' u : Value} (hm : VR f m m') (hk : VR f k k') {A' : AS} (h : eMapEntry P gm t m k A = some (u, A')) :
    ∃ u' w', (Instr.mapEntry t m' k').run P w = .ok u' w' ∧ Step base gm f A w f A' w' ∧ VR f u u' := by
  unfold eMapEntry at h
  split at h
  · rename_i kt et r hu
    split at h
    · rename_i d es c hd hg hgr
      have hgr := Nat.le_of_ble_eq_true hgr
      obtain ⟨l, es', hl, hl0, hw, hM⟩ := mapObj hW hg
      have hlt := (Array.getElem?_eq_some_iff.1 hw).1
      obtain rfl : m' = .map (some l.blk) := by
        cases hm with
        | map hr => rw [hl] at hr; cases hr; rfl
      split at h
      · rename_i i v0 hs hf
        split at h
        · rename_i e0 he0
          cases h
          obtain ⟨r', hr, hrel⟩ := findL_ok hk es es'.toList 0 _ (by simpa using hM.1) (fun j a b ha hb => hM.2 j a b ha (by simpa using hb)) hf
          cases r' with
          | none => exact hrel.elim
          | some p =>
            obtain ⟨i', v2⟩ := p
            obtain ⟨rfl, hv2⟩ := hrel
            obtain ⟨_, e, he, hsame, _⟩ := findL_at es 0 i v0 hf
            rw [Nat.sub_zero] at he
            rw [he] at he0
            cases he0
            have hi : i < es'.size := by rw [← hM.1]; exact (List.getElem?_eq_some_iff.1 he).1
            have he' := Array.getElem?_eq_getElem hi
            have hE := hM.2 i _ _ he he'
            have hkts : (Instr.keyThatStays (((es'[i]?).map (·.key)).getD k') k').run P w = .ok k' w := by
              rw [he']
              simp only [Instr.keyThatStays, Option.map_some, Option.getD_some]
              rw [if_pos (same_bits (sameNow_ok hk hE.1 hsame) 10000)]
              rfl
            have hMod := hM.mod i (g := fun e => (k, e.2)) (g' := fun e => { e with key := k' }) fun a b ha hb => ⟨hk, (hM.2 i a b ha hb).2⟩
            refine ⟨.tuple #[v2, goInt (((es'[i]?).map (·.born)).getD 0)], _, ?_, Step.obj hW hg hl hl0 hgr hlt (.map hMod.1 hMod.2), ?_⟩
            · simp only [Instr.mapEntry, Sem.run_bind, run_underlying hu, Result.andThen_ok, getObj_map hw, checkKey_ok hd hs, findKey_ok hd hr, hkts, setObj_map _ hw, Sem.run_pure]
            · rw [he']
              simp only [Option.map_some, Option.getD_some, ← hE.2.2]
              exact .tuple' (.cons hv2 (.cons (.int _ _) (.nil f)))
        · cases h
      · rename_i hs hf
        split at h
        · rename_i z hz
          cases h
          obtain ⟨hz1, hz2⟩ := zeroA_ok hz
          obtain ⟨r', hr, hrel⟩ := findL_ok hk es es'.toList 0 _ (by simpa using hM.1) (fun j a b ha hb => hM.2 j a b ha (by simpa using hb)) hf
          cases r' with
          | some p => exact hrel.elim
          | none =>
            have hP := hM.push (e := (k, z, c)) (e' := { key := k', val := z, born := c }) ⟨hk, hz2 f, rfl⟩
            refine ⟨.tuple #[z, goInt c], _, ?_, Step.obj hW hg hl hl0 hgr hlt (.map hP.1 hP.2), .tuple' (.cons (hz2 f) (.cons (.int _ _) (.nil f)))⟩
            simp only [Instr.mapEntry, Sem.run_bind, run_underlying hu, Result.andThen_ok, getObj_map hw, checkKey_ok hd hs, findKey_ok hd hr, hz1, setObj_map _ hw, Sem.run_pure]
        · cases h
      · cases h
    · cases h
  · cases h
theorem bornAt_ok : ∀ (es : List (Value × Value × Nat)) (es' : List MapEntry) (b s i : Nat), es.length = es'.length → (∀ (j : Nat) e e', es[j]? = some e → es'[j]? = some e' → e.2.2 = e'.born) → bornAt es b s = some i →
    s ≤ i ∧ es'.findIdx? (fun e => (e.born : Int) == (b : Int)) = some (i - s)
  | [], _, _, _, _, _, _, h => by cases h
  | _ :: _, [], _, _, _, hl, _, _ => by simp at hl
  | e :: es, e' :: es', b, s, i, hl, hr, h => by
    have h0 := hr 0 e e' rfl rfl
    rw [bornAt] at h
    split at h
    · rename_i hb
      have hb := beq_t hb
      cases h
      exact ⟨Nat.le_refl _, by simp [List.findIdx?_cons, ← h0, hb]⟩
    · rename_i hb
      have hb := beq_f hb
      obtain ⟨h1, h2⟩ := bornAt_ok es es' b (s + 1) i (by simpa using hl) (fun j a c ha hc => hr (j + 1) a c (by simpa using ha) (by simpa using hc)) h
      refine ⟨by omega, ?_⟩
      have hne : ¬ ((e'.born : Int) == (b : Int)) = true := by
        rw [← h0]
        simp
        omega
      rw [List.findIdx?_cons, if_neg hne, h2]
      simp
      omega
theorem eEntryStore_ok (hW : WR base gm f A w) {t : TypeId} {m m' s s' v v' u : Value} (hm : VR f m m') (hs : VR f s s') (hv : VR f v v') {A' : AS} (h : eEntryStore gm m s v A = some (u, A')) :
    ∃ w', (Instr.entryStore t m' s' v').run P w = .ok () w' ∧ Step base gm f A w f A' w' ∧ u = undef := by
  unfold eEntryStore at h
  split at h
  · rename_i r k b
    obtain rfl := hs.int_inv
    split at h
    · rename_i es c hg hgr
      have hgr := Nat.le_of_ble_eq_true hgr
      obtain ⟨l, es', hl, hl0, hw, hM⟩ := mapObj hW hg
      have hlt := (Array.getElem?_eq_some_iff.1 hw).1
      obtain rfl : m' = .map (some l.blk) := by
        cases hm with
        | map hr => rw [hl] at hr; cases hr; rfl
      split at h
      · rename_i i hb
        cases h
        obtain ⟨_, h2⟩ := bornAt_ok es es'.toList b 0 i (by simpa using hM.1) (fun j a c ha hc => (hM.2 j a c ha (by simpa using hc)).2.2) hb
        rw [Nat.sub_zero] at h2
        have h3 : es'.findIdx? (fun e => (e.born : Int) == Int.ofNat b) = some i := by
          have e1 : es' = es'.toList.toArray := by simp
          rw [e1, List.findIdx?_toArray]
          exact h2
        have hMod := hM.mod i (g := fun e => (e.1, v, e.2.2)) (g' := fun e => { e with val := v' }) fun a b ha hb => ⟨(hM.2 i a b ha hb).1, hv, (hM.2 i a b ha hb).2.2⟩
        refine ⟨_, ?_, Step.obj hW hg hl hl0 hgr hlt (.map hMod.1 hMod.2), rfl⟩
        simp only [Instr.entryStore, Sem.run_bind, getObj_map hw, Result.andThen_ok, asInt, asIntOf, Sem.run_pure, h3, setObj_map _ hw]
      · cases h
    · cases h
  · cases h
end
end
end Go.Proofs.YtlfinaeklaimjaaGreatDoor.Am
namespace Go.Proofs.YtlfinaeklaimjaaGreatDoor
noncomputable section
end
end Go.Proofs.YtlfinaeklaimjaaGreatDoor
namespace Go.Proofs.YtlfinaeklaimjaaGreatDoor.Am
noncomputable section
open Go.Proofs.YtlfinaeklaimjaaGreatDoor Go.RowKit
section
variable {P : Program} {base gm : Nat} {f : Ren} {A : AS} {w w1 : World}
abbrev ML (f : Ren) (l : List (Value × Value × Nat)) (l' : List MapEntry) : Prop := l.length = l'.length ∧ ∀ (i : Nat) (e : Value × Value × Nat) (e' : MapEntry), l[i]? = some e → l'[i]? = some e' → ER f e e'
theorem ML.tail {e : Value × Value × Nat} {e' : MapEntry} {l : List (Value × Value × Nat)} {l' : List MapEntry} (h : ML f (e :: l) (e' :: l')) : ER f e e' ∧ ML f l l' :=
  ⟨h.2 0 e e' rfl rfl, by have := h.1; simpa using this, fun i a b ha hb => h.2 (i + 1) a b (by simpa using ha) (by simpa using hb)⟩
theorem ML.cons {e : Value × Value × Nat} {e' : MapEntry} {l : List (Value × Value × Nat)} {l' : List MapEntry} (he : ER f e e') (h : ML f l l') : ML f (e :: l) (e' :: l') := ⟨by simp [h.1], fun i a b ha hb => by
  cases i with
  | zero => simp at ha hb; subst ha hb; exact he
  | succ i => exact h.2 i a b (by simpa using ha) (by simpa using hb)⟩
theorem ML.filter {p : Nat → Bool} : ∀ {l : List (Value × Value × Nat)} {l' : List MapEntry}, ML f l l' → ML f (l.filter fun e => p e.2.2) (l'.filter fun e => p e.born)
  | [], [], _ => ⟨rfl, fun i a b h => by simp at h⟩
  | [], _ :: _, h => by have := h.1; simp at this
  | _ :: _, [], h => by have := h.1; simp at this
  | e :: l, e' :: l', h => by
    obtain ⟨he, ht⟩ := h.tail
    rw [List.filter_cons, List.filter_cons, he.2.2]
    split
    · exact .cons he (ML.filter ht)
    · exact ML.filter ht
theorem ML.all {p : Nat → Bool} : ∀ {l : List (Value × Value × Nat)} {l' : List MapEntry}, ML f l l' → (l.all fun e => p e.2.2) = l'.all fun e => p e.born
  | [], [], _ => rfl
  | [], _ :: _, h => by have := h.1; simp at this
  | _ :: _, [], h => by have := h.1; simp at this
  | e :: l, e' :: l', h => by
    obtain ⟨he, ht⟩ := h.tail
    rw [List.all_cons, List.all_cons, he.2.2, ML.all ht]
theorem itObj (hW : WR base gm f A w) {r : Nat} {o : AObj} (hg : A.h.get r = some o) (hn : ∀ cs t fz so, o ≠ .cells cs t fz so) : ∃ l o', f r = some l ∧ l = ⟨l.blk, 0, none⟩ ∧ w.heap[l.blk]? = some o' ∧ OR f o o' := by
  obtain ⟨l, hl, ho⟩ := hW.ob _ _ hg
  cases ho with
  | hard _ _ => exact absurd rfl (hn _ _ _ _)
  | soft _ _ _ _ _ _ _ => exact absurd rfl (hn _ _ _ _)
  | obj hw ho => exact ⟨_, _, hl, rfl, hw, ho⟩
theorem over_ok (hW : WR base gm f A w) : VR f (.tuple #[.bool false]) (.tuple #[.bool false]) := .tuple' (.cons (.bool _) (.nil f))
theorem eNext_ok (hW : WR base gm f A w) {x x' : Value} {isS : Bool} {ty : TypeId} (hx : VR f x x') {L : List (Value × AS)} (h : eNext gm x isS A = some L) :
    ∃ p ∈ L, ∃ v' w', (Instr.next x' isS ty).run P w = .ok v' w' ∧ Step base gm f A w f p.2 w' ∧ VR f p.1 v' := by
  unfold eNext at h
  split at h
  · rename_i r
    obtain ⟨a', rfl, l, hl, rfl⟩ := hx.ptr_inv
    dsimp only at hl
    split at h
    · rename_i s pos hg hgr
      have hgr := Nat.le_of_ble_eq_true hgr
      obtain ⟨l2, o', hl2, hl0, hw, ho⟩ := itObj hW hg (by simp)
      rw [hl] at hl2
      cases hl2
      cases ho
      have hd : l.dlt = 0 := by rw [hl0]
      have hgo : (getObj l.blk).run P w = .ok (.stringIter s pos) w := by simp [getObj, Sem.run, hw]
      split at h
      · rename_i hlt
        have hlt := blt_lt hlt
        cases h
        have hso : ∀ o, (setObj l.blk o).run P w = .ok () { w with heap := w.heap.setIfInBounds l.blk o } := fun o => by simp [setObj, Sem.run, hw]
        refine ⟨_, List.mem_singleton.2 rfl, _, _, ?_, Step.obj hW hg hl hl0 hgr (Array.getElem?_eq_some_iff.1 hw).1 (.siter s _), .tuple' (.cons (.bool _) (.cons (.int _ _) (.cons (.int _ _) (.nil f))))⟩
        simp only [Instr.next, hd, Nat.add_zero, Sem.run_bind, hgo, Result.andThen_ok, if_pos hlt, hso, Sem.run_pure]
        rfl
      · rename_i hlt
        have hlt := ble_f hlt
        cases h
        refine ⟨_, List.mem_singleton.2 rfl, _, w, ?_, Step.refl hW, over_ok hW⟩
        have : ¬ pos < s.size := by omega
        simp only [Instr.next, hd, Nat.add_zero, Sem.run_bind, hgo, Result.andThen_ok, if_neg this, Sem.run_pure]
    · rename_i s0 s1 s2 hg
      cases h
      obtain ⟨l2, o', hl2, hl0, hw, ho⟩ := itObj hW hg (by simp)
      rw [hl] at hl2
      cases hl2
      cases ho
      have hd : l.dlt = 0 := by rw [hl0]
      have hgo : (getObj l.blk).run P w = .ok (.mapIter none s0 s1.toArray s2) w := by simp [getObj, Sem.run, hw]
      refine ⟨_, List.mem_singleton.2 rfl, _, w, ?_, Step.refl hW, over_ok hW⟩
      simp only [Instr.next, hd, Nat.add_zero, Sem.run_bind, hgo, Result.andThen_ok, Sem.run_pure]
    · rename_i m since seen last hg hgr
      have hgr := Nat.le_of_ble_eq_true hgr
      obtain ⟨l2, o', hl2, hl0, hw, ho⟩ := itObj hW hg (by simp)
      rw [hl] at hl2
      cases hl2
      have hd : l.dlt = 0 := by rw [hl0]
      cases ho with
      | miter _ _ _ hm =>
        rename_i lm
        have hgo : (getObj l.blk).run P w = .ok (.mapIter (some lm.blk) since seen.toArray last) w := by simp [getObj, Sem.run, hw]
        have hso : ∀ (w2 : World) o, w2.heap = w.heap → (setObj l.blk o).run P w2 = .ok () { w2 with heap := w2.heap.setIfInBounds l.blk o } := fun w2 o e => by simp [setObj, Sem.run, e, hw]
        split at h
        · rename_i es c hgm
          obtain ⟨lm2, es', hlm, hlm0, hwm, hM⟩ := mapObj hW hgm
          rw [hm] at hlm
          cases hlm
          have hML : ML f es es'.toList := ⟨by simpa using hM.1, fun i a b ha hb => hM.2 i a b ha (by simpa using hb)⟩
          split at h
          · rename_i hcond
            simp only [Bool.and_eq_true, Bool.or_eq_true] at hcond
            obtain ⟨hc1, hc2⟩ := hcond
            have hF := hML.filter (p := fun b => !(seen.contains b))
            obtain ⟨l', hl'⟩ : ∃ l', l' = es'.toList.filter fun e => !(seen.contains e.born) := ⟨_, rfl⟩
            rw [← hl'] at hF
            have hall : ∀ e' ∈ es'.toList, e'.born < since ∧ (seen = [] ∨ e'.born < last) := fun e' he' => by
              rw [hML.all (p := fun b => Nat.blt b since && (seen.isEmpty || Nat.blt b last))] at hc2
              have := List.all_eq_true.1 hc2 e' he'
              simp only [Bool.and_eq_true, Bool.or_eq_true, List.isEmpty_iff] at this
              exact ⟨blt_lt this.1, this.2.imp id blt_lt⟩
            have hleft : (es'.filter fun e => !(seen.toArray.contains e.born)) = l'.toArray := by
              apply Array.ext'
              rw [Array.toList_filter, hl']
              simp
            have hsub : ∀ e' ∈ l', e' ∈ es'.toList := fun e' h => by rw [hl'] at h; exact (List.mem_filter.1 h).1
            have hold : l'.toArray.filter (fun e => decide (e.born < since)) = l'.toArray := by
              apply Array.ext'
              rw [Array.toList_filter]
              exact List.filter_eq_self.2 fun e he => decide_eq_true (hall e (hsub e he)).1
            have hnew : l'.toArray.filter (fun e => decide (e.born ≥ since)) = #[] := by
              apply Array.ext'
              rw [Array.toList_filter]
              exact List.filter_eq_nil_iff.2 fun e he => by have := (hall e (hsub e he)).1; simp; omega
            have hcond2 : (!seen.toArray.isEmpty && !es'.isEmpty && es'.all fun e => decide (e.born ≥ last)) = false := by
              cases hs : seen with
              | nil => rfl
              | cons b bs =>
                cases he : es'.toList with
                | nil =>
                  have : es' = #[] := Array.ext' he
                  rw [this]
                  simp
                | cons e0 er =>
                  have h0 := hall e0 (by rw [he]; simp)
                  have h1 : e0.born < last := h0.2.resolve_left (by rw [hs]; simp)
                  have : (es'.all fun e => decide (e.born ≥ last)) = false := by
                    rw [← Array.all_toList, he, List.all_cons]
                    simp
                    omega
                  rw [this, Bool.and_false]
            have hgm' : (getObj lm.blk).run P w = .ok (.map es' c) w := getObj_map hwm
            have hchoose : ∀ n, 0 < n → ∃ k w2, k < n ∧ (choose (.mapNext n)).run P w = .ok k w2 ∧ w2.heap = w.heap ∧ w2.os = w.os ∧ w2.tape = w.tape ∧ w2.output = w.output := fun n hn => by
              rw [run_choose]
              by_cases h1 : n ≤ 1
              · exact ⟨0, w, hn, by rw [if_pos (by simp [Question.forced, h1])], rfl, rfl, rfl, rfl⟩
              · exact ⟨w.tape w.drawn (.mapNext n) % n, { w with drawn := w.drawn + 1 }, Nat.mod_lt _ hn, by rw [if_neg (by simp [Question.forced]; omega)]; rfl, rfl, rfl, rfl, rfl⟩
            cases hcase : l' with
            | nil =>
              rw [hcase] at hF
              have hnil : (es.filter fun e => !(seen.contains e.2.2)) = [] := List.eq_nil_of_length_eq_zero hF.1
              rw [hnil] at h
              cases h
              obtain ⟨k, w2, hk, hrun, hh, h3, h4, h5⟩ := hchoose 1 (by omega)
              have hk0 : k = 0 := by omega
              subst hk0
              refine ⟨_, List.mem_singleton.2 rfl, _, w2, ?_, ⟨fun _ _ => rfl, Nat.le_refl _, ⟨h3, h4, h5, by rw [hh]; exact Nat.le_refl _, fun b _ _ => by rw [hh]⟩, fun _ h => .inr h, hW.heap hh⟩, over_ok hW⟩
              have hcand : ((if ([] : List MapEntry).toArray.isEmpty then #[none] else #[]) ++ (([] : List MapEntry).toArray ++ #[]).map some : Array (Option MapEntry)) = #[none] := by simp
              rw [hcase] at hleft hold hnew
              simp only [Instr.next, hd, Nat.add_zero, Sem.run_bind, hgo, Result.andThen_ok, hgm', hcond2, Bool.false_eq_true, if_false, hleft, hold, hnew, hcand]
              rw [show (#[none] : Array (Option MapEntry)).size = 1 from rfl, hrun]
              rfl
            | cons e1 er =>
              have hne : (es.filter fun e => !(seen.contains e.2.2)) ≠ [] := fun e => by
                have := hF.1
                rw [e, hcase] at this
                simp at this
              obtain ⟨k, w2, hk, hrun, hh, h3, h4, h5⟩ := hchoose l'.length (by rw [hcase]; simp)
              have hk1 : k < (es.filter fun e => !(seen.contains e.2.2)).length := by rw [hF.1]; exact hk
              have hE := hF.2 k _ _ (List.getElem?_eq_getElem hk1) (List.getElem?_eq_getElem hk)
              obtain ⟨ek, hek⟩ : ∃ ek, ek = (es.filter fun e => !(seen.contains e.2.2))[k]'hk1 := ⟨_, rfl⟩
              have hmem : ek ∈ es.filter fun e => !(seen.contains e.2.2) := by rw [hek]; exact List.getElem_mem _
              rw [← hek] at hE
              have hL : L = (es.filter fun e => !(seen.contains e.2.2)).map fun e => (.tuple #[.bool true, e.1, e.2.1], Am.put A r (some (.miter (some m) since (seen ++ [e.2.2]) c))) := by
                split at h
                · rename_i e; exact absurd e hne
                · cases h; rfl
              rw [hL]
              refine ⟨_, List.mem_map.2 ⟨ek, hmem, rfl⟩, .tuple #[.bool true, l'[k].key, l'[k].val], { w2 with heap := w2.heap.setIfInBounds l.blk (.mapIter (some lm.blk) since (seen.toArray.push l'[k].born) c) }, ?_, ?_, .tuple' (.cons (.bool _) (.cons hE.1 (.cons hE.2.1 (.nil f))))⟩
              · have hcand : ((if l'.toArray.isEmpty then #[none] else #[]) ++ (l'.toArray ++ #[]).map some : Array (Option MapEntry)) = (l'.map some).toArray := by
                  rw [hcase]
                  simp
                have hidx : (l'.map some).toArray[k]? = some (some l'[k]) := by simp [hk]
                simp only [Instr.next, hd, Nat.add_zero, Sem.run_bind, hgo, Result.andThen_ok, hgm', hcond2, Bool.false_eq_true, if_false, hleft, hold, hnew, hcand]
                simp only [List.size_toArray, List.length_map, hrun, Result.andThen_ok, hidx, hso w2 _ hh, Sem.run_pure, Sem.run_bind]
              · have := Step.obj (f := f) (base := base) (gm := gm) (A := A) (w := w2) (o1 := .miter (some m) since (seen ++ [ek.2.2]) c) (o' := .mapIter (some lm.blk) since (seen.toArray.push l'[k].born) c) (hW.heap hh) hg hl hl0 hgr (by rw [hh]; exact (Array.getElem?_eq_some_iff.1 hw).1) (by
                  have e2 : seen.toArray.push l'[k].born = (seen ++ [ek.2.2]).toArray := by rw [hE.2.2]; simp
                  rw [e2]
                  exact .miter _ _ _ hm)
                exact ⟨this.ren, this.nx, ⟨this.chg.os.trans h3, this.chg.tape.trans h4, this.chg.output.trans h5, by have h6 := this.chg.size; exact Nat.le_trans (Nat.le_of_eq (by rw [hh])) h6, fun b hb hn => (this.chg.block b (by rw [hh]; exact hb) hn).trans (by rw [hh])⟩, fun b hb => by have := this.im b hb; rw [hh] at this; exact this, this.wr⟩
          · cases h
        · cases h
    · cases h
  · cases h
end
end
end Go.Proofs.YtlfinaeklaimjaaGreatDoor.Am
namespace Go.Proofs.YtlfinaeklaimjaaGreatDoor
noncomputable section
end
end Go.Proofs.YtlfinaeklaimjaaGreatDoor
