/- Texts of one proof, joined. -/
import Derived.Test.YtlfinaeklaimjaaGreatDoorSN03
import Derived.Laws.BytesString
set_option linter.unusedSimpArgs false
set_option linter.unusedVariables false
namespace Go.Proofs.YtlfinaeklaimjaaGreatDoor
noncomputable section
end
end Go.Proofs.YtlfinaeklaimjaaGreatDoor
namespace Go.Proofs.YtlfinaeklaimjaaGreatDoor.Am
noncomputable section
open Go.Proofs.YtlfinaeklaimjaaGreatDoor Go.RowKit
section
variable {P : Program} {base gm : Nat} {f : Ren} {A : AS} {w : World}
def eqA (d : TypeDesc) (x y : Value) : Option Bool :=
  match d, x, y with
  | .pointer _, .pointer none, .pointer (some _) | .pointer _, .pointer (some _), .pointer none => some false
  | .interface _, .nilIface, .iface _ _ | .interface _, .iface _ _, .nilIface => some false
  | .slice _, .slice none _ _, .slice (some _) _ _ | .slice _, .slice (some _) _ _, .slice none _ _ => some false
  | .map _ _, .map none, .map (some _) | .map _ _, .map (some _), .map none => some false
  | .func _ _ _, .nilFunc, .func _ _ _ | .func _ _ _, .func _ _ _, .nilFunc => some false
  | _, _, _ => none
def fEq (P : Program) (op : BinOp) (t : TypeId) (x y : Value) : Option Value :=
  match P.underlying t with
  | some d => match op, eqA d x y with
    | .eql, some b => some (.bool b)
    | .neq, some b => some (.bool (!b))
    | _, _ => none
  | none => none
theorem equal_run {t : TypeId} {d : TypeDesc} {x y x' y' : Value} {b : Bool} (hx : VR f x x') (hy : VR f y y') (hu : P.underlying t = some d) (h : eqA d x y = some b) (w : World) : (Op.equal t x' y').run P w = .ok b w := by
  have e : Op.equal t x' y' = Op.equalIn (9999 + 1) t x' y' := rfl
  rw [e, Op.equalIn]
  simp only [Sem.run_bind, run_underlying hu, Result.andThen_ok]
  unfold eqA at h
  split at h <;> cases h <;> cases hx <;> cases hy <;> rfl
theorem guard_run {t : TypeId} {d : TypeDesc} {x y x' y' : Value} {b : Bool} (hx : VR f x x') (hy : VR f y y') (h : eqA d x y = some b) (op : BinOp) (ox oy : Operand) (w : World) : (eqGuard op t ox oy x' y').run P w = .ok () w := by
  unfold eqA at h
  split at h <;> cases h <;> cases hx <;> cases hy <;> (unfold eqGuard; split <;> first | rfl | (simp only [Sem.run_bind, Sem.run_pure]; rfl))
theorem binOp_eq {t : TypeId} {d : TypeDesc} {x y x' y' : Value} {b : Bool} (hx : VR f x x') (hy : VR f y y') (h : eqA d x y = some b) :
    binOp .eql t x' y' = (do pure (.bool (← Op.equal t x' y'))) ∧ binOp .neq t x' y' = (do pure (.bool (!(← Op.equal t x' y')))) := by
  unfold eqA at h
  split at h <;> cases h <;> cases hx <;> cases hy <;> exact ⟨rfl, rfl⟩
theorem fEq_ok {op : BinOp} {t : TypeId} {x y x' y' v : Value} (hx : VR f x x') (hy : VR f y y') (h : fEq P op t x y = some v) (ox oy : Operand) (w : World) :
    (do eqGuard op t ox oy x' y'; binOp op t x' y').run P w = .ok v w ∧ VR f v v := by
  unfold fEq at h
  split at h
  · rename_i d hu
    split at h
    · rename_i b e
      cases h
      refine ⟨?_, .bool _⟩
      simp only [Sem.run_bind, guard_run hx hy e, Result.andThen_ok, (binOp_eq (t := t) hx hy e).1, equal_run hx hy hu e, Sem.run_pure]
    · rename_i b e
      cases h
      refine ⟨?_, .bool _⟩
      simp only [Sem.run_bind, guard_run hx hy e, Result.andThen_ok, (binOp_eq (t := t) hx hy e).2, equal_run hx hy hu e, Sem.run_pure]
    · cases h
  · cases h
def fLen (P : Program) (h : HT AObj) (t : TypeId) (x : Value) : Option Value :=
  match P.underlying t, x with
  | some (.slice _), .slice _ n _ => some (goInt n)
  | some (.array n _), _ => some (goInt n)
  | some (.map _ _), .map (some r) => match h.get r with
    | some (.map es _) => some (goInt es.length)
    | _ => none
  | _, _ => none
theorem fLen_ok (hW : WR base gm f A w) {t ty : TypeId} {ts : Array TypeId} (ht : ts[0]? = some t) {x x' v : Value} {xs : Array Value} (hxs : xs[0]? = some x') (hx : VR f x x') (h : fLen P A.h t x = some v) :
    (Builtin.len_ ts ty xs).run P w = .ok v w ∧ VR f v v := by
  unfold fLen at h
  split at h
  · rename_i e a n c hu
    cases h
    refine ⟨?_, .int _ _⟩
    have : ∃ a' c', x' = .slice a' n c' := by cases hx <;> exact ⟨_, _, rfl⟩
    obtain ⟨a', c', rfl⟩ := this
    simp [Builtin.len_, ht, hxs, run_underlying hu]
  · rename_i n e hu
    cases h
    refine ⟨?_, .int _ _⟩
    simp [Builtin.len_, ht, hxs, run_underlying hu]
  · rename_i k e r hu
    split at h
    · rename_i es c hg
      cases h
      obtain ⟨l, hl, ho⟩ := hW.ob _ _ hg
      cases hx with
      | map hr =>
        rw [hl] at hr
        cases hr
        cases ho with
        | obj hw ho =>
          cases ho with
          | map hs hk =>
            refine ⟨?_, .int _ _⟩
            simp [Builtin.len_, ht, hxs, run_underlying hu, getObj, Sem.run, hw, goInt, hs]
    · cases h
  · cases h
def bytesOf : List Value → Option (List Int)
  | [] => some []
  | .int .u8 n :: l => match bytesOf l with
    | some r => some (n :: r)
    | none => none
  | _ => none
theorem bytesOf_ok : ∀ (l : List Value) (r : List Int), bytesOf l = some r → l = r.map (Value.int .u8)
  | [], r, h => by cases h; rfl
  | v :: l, r, h => by
    unfold bytesOf at h
    split at h
    · rename_i e; cases e
    · rename_i n l' e
      cases e
      split at h
      · rename_i r' hr
        cases h
        rw [bytesOf_ok l r' hr]
        rfl
      · cases h
    · cases h
theorem LR.ints {r : List Int} {l' : List Value} (h : LR f (r.map (Value.int .u8)) l') : l' = r.map (Value.int .u8) := by
  induction r generalizing l' with
  | nil => have := h.1; simpa using this.symm
  | cons n r ih =>
    cases l' with
    | nil => have := h.1; simp at this
    | cons v l' =>
      obtain ⟨a, b⟩ := h.tail
      rw [ih b]
      cases a
      rfl
def fBytesStr (P : Program) (h : HT AObj) (src dst : TypeId) (x : Value) : Option Value :=
  match P.underlying src, P.underlying dst, x with
  | some (.slice e), some .string, .slice (some a) n _ => match P.underlying e, n with
    | some (.int .u8), 0 => some (.string .empty)
    | some (.int .u8), n + 1 => match cellsN h (strip a) (n + 1) with
      | some cs => match bytesOf cs with
        | some r => some (.string ⟨(r.map fun n => UInt8.ofNat n.toNat).toArray⟩)
        | none => none
      | none => none
    | _, _ => none
  | _, _, _ => none
theorem foldl_push (r : List Int) : ∀ s : ByteArray, r.foldl (fun r n => r.push (UInt8.ofNat n.toNat)) s = ⟨(s.data.toList ++ r.map fun n => UInt8.ofNat n.toNat).toArray⟩ := by
  induction r with
  | nil => intro s; simp
  | cons n r ih =>
    intro s
    rw [List.foldl_cons, ih]
    simp [ByteArray.push]
theorem fBytesStr_ok (hW : WR base gm f A w) {src dst : TypeId} {x x' v : Value} (hx : VR f x x') (h : fBytesStr P A.h src dst x = some v) : (convert src dst x').run P w = .ok v w ∧ VR f v v := by
  unfold fBytesStr at h
  split at h
  · rename_i e a n c hs hd
    obtain ⟨a', c', rfl, ha, _⟩ := hx.slice_inv
    split at h
    · rename_i he
      cases h
      refine ⟨?_, .str _⟩
      rw [run_convert_bytes_string w src dst e _ _ _ hs he hd, run_bytesToString w a' 0 c' [] (by simp [loadCells, loadCellsFrom])]
      rfl
    · rename_i n he
      split at h
      · rename_i cs hc
        split at h
        · rename_i r hr
          cases h
          obtain ⟨vs', hv, hl, hlen⟩ := cellsN_ok (P := P) hW (ha (by omega)) hc
          rw [bytesOf_ok _ _ hr] at hl
          rw [hl.ints] at hv
          refine ⟨?_, .str _⟩
          rw [run_convert_bytes_string w src dst e _ _ _ hs he hd, run_bytesToString w a' _ c' r hv, foldl_push]
          rfl
        · cases h
      · cases h
    · cases h
  · cases h
def fStrBytes (P : Program) (id : Nat) (src dst : TypeId) (x : Value) : Option (Value × Option AObj) :=
  match P.underlying src, P.underlying dst, x with
  | some .string, some (.slice e), .string s => match P.underlying e with
    | some (.int .u8) => some (.slice (some ⟨id, 0, some 0⟩) s.size s.size, some (.cells (s.data.toList.map fun b => .int .u8 b.toNat) e (0, 0) 1))
    | _ => none
  | _, _, _ => none
theorem fStrBytes_ok {id : Nat} (hid : f id = none) {src dst : TypeId} {x x' v : Value} {ob : Option AObj} (hx : VR f x x') (h : fStrBytes P id src dst x = some (v, ob)) :
    ∃ v' w', (convert src dst x').run P w = .ok v' w' ∧ FOut f id w v ob v' w' := by
  unfold fStrBytes at h
  split at h
  · rename_i e s hs hd
    split at h
    · rename_i he
      cases h
      cases hx
      obtain ⟨c, hc, w2, hw2, hr⟩ : ∃ c, s.size ≤ c ∧ ∃ w2 : World, (w2.os = w.os ∧ w2.tape = w.tape ∧ w2.output = w.output ∧ w2.heap = w.heap) ∧ (choose (.appendCap s.size 0 e)).run P w = .ok c w2 := by
        rw [run_choose]
        simp only [Question.forced, Bool.false_eq_true, if_false]
        exact ⟨(Question.appendCap s.size 0 e).cut (w.tape w.drawn (.appendCap s.size 0 e)), Nat.le_add_right _ _, { w with drawn := w.drawn + 1 }, ⟨rfl, rfl, rfl, rfl⟩, rfl⟩
      obtain ⟨h1, h2, h3, h4⟩ := hw2
      have hlen : s.data.toList.length = s.size := Array.length_toList
      have hds : s.data.size = s.size := rfl
      let cs' : Array Value := (s.data.map fun b => Value.int .u8 b.toNat) ++ Array.replicate (c - s.size) (.int .u8 0)
      have hsz : cs'.size = c := by simp only [cs', Array.size_append, Array.size_map, Array.size_replicate, hds]; omega
      refine ⟨.slice (some ⟨w.heap.size, 0, none⟩) s.size c, { w2 with heap := w.heap.push (.cells cs' e (c, c + 1)) }, ?_, ⟨h1, h2, h3⟩, ⟨w.heap.size, 0, some (1, s.size, c)⟩, .cells cs' e (c, c + 1), rfl, rfl, ?_, ?_⟩
      · have hne : ¬ ((0 : Nat) == 1) = true := by decide
        simp only [convert, Sem.run_bind, run_underlying hs, run_underlying hd, Result.andThen_ok, run_underlying he, Conv.stringToBytes, hr, run_newRow, markStringish, run_shape]
        rw [h4]
        have hsh : ({ w2 with heap := w.heap.push (.cells cs' e) } : World).shape? w.heap.size = some (e, c) := by
          simp only [World.shape?, Array.getElem?_push_size, hsz]
        rw [hsh]
        simp only [run_freeze, Result.andThen_ok, Sem.run_pure]
        congr 1
        unfold World.freeze
        rw [if_neg (by decide)]
        simp only [World.mk.injEq, and_true]
        apply Array.ext_getElem?
        intro i
        rw [Array.getElem?_modify]
        by_cases hi : w.heap.size = i
        · subst hi
          rw [if_pos rfl, Array.getElem?_push_size, Array.getElem?_push_size]
          rfl
        · rw [if_neg hi, Array.getElem?_push, Array.getElem?_push, if_neg (fun h => hi h.symm), if_neg (fun h => hi h.symm)]
      · refine .soft (cs' := cs') (fz' := (c, c + 1)) (by simp) (by omega) (by rw [List.length_map]; exact hlen) hsz (by omega) (fun i hi hc2 => by have := hc2.1; omega) fun i u hu => ?_
        refine ⟨u, ?_, ?_⟩
        · have hi : i < s.data.size := by
            have := (List.getElem?_eq_some_iff.1 hu).1
            simpa using this
          show cs'[i + 0]? = some u
          rw [Nat.add_zero]
          simp only [cs']
          rw [Array.getElem?_append_left (by simpa using hi)]
          simpa using hu
        · rw [List.getElem?_map] at hu
          cases hg : s.data.toList[i]? with
          | none => rw [hg] at hu; cases hu
          | some b => rw [hg] at hu; cases hu; exact .int _ _
      · exact .soft (l := ⟨w.heap.size, 0, some (1, s.size, c)⟩) (a := ⟨id, 0, some 0⟩) (Ren.put_same _ _ _) rfl (by show 0 + s.size * 1 = s.size; omega) (by show 0 + 0 + c * 1 = c; omega) hc rfl
    · cases h
  · cases h
end
end
end Go.Proofs.YtlfinaeklaimjaaGreatDoor.Am
namespace Go.Proofs.YtlfinaeklaimjaaGreatDoor
noncomputable section
end
end Go.Proofs.YtlfinaeklaimjaaGreatDoor
namespace Go.Proofs.YtlfinaeklaimjaaGreatDoor.Am
noncomputable section
open Go.Proofs.YtlfinaeklaimjaaGreatDoor Go.RowKit
section
variable {P : Program} {base gm : Nat} {f : Ren} {A : AS} {w : World}
def findL (d : TypeDesc) (k : Value) : List (Value × Value × Nat) → Nat → Option (Option (Nat × Value))
  | [], _ => some none
  | e :: es, i => match Instr.sameNow d k e.1 with
    | some true => some (some (i, e.2.1))
    | some false => findL d k es (i + 1)
    | none => none
theorem sameNow_ok {d : TypeDesc} {k e k' e' : Value} {b : Bool} (hk : VR f k k') (he : VR f e e') (h : Instr.sameNow d k e = some b) : Instr.sameNow d k' e' = some b := by
  unfold Instr.sameNow at h
  split at h
  · cases hk; cases he; exact h
  · cases hk; cases he; exact h
  · cases hk; cases he; exact h
  · cases h
theorem findL_ok {d : TypeDesc} {k k' : Value} (hk : VR f k k') : ∀ (es : List (Value × Value × Nat)) (es' : List MapEntry) (i : Nat) (r : Option (Nat × Value)),
    es.length = es'.length → (∀ (j : Nat) e e', es[j]? = some e → es'[j]? = some e' → VR f e.1 e'.key ∧ VR f e.2.1 e'.val ∧ e.2.2 = e'.born) → findL d k es i = some r →
    ∃ r', Instr.findNow d k' es' i = some r' ∧ (match r, r' with | none, none => True | some (a, v), some (b, v') => a = b ∧ VR f v v' | _, _ => False)
  | [], [], i, r, _, _, h => by cases h; exact ⟨none, rfl, trivial⟩
  | [], _ :: _, _, _, hl, _, _ => by simp at hl
  | _ :: _, [], _, _, hl, _, _ => by simp at hl
  | e :: es, e' :: es', i, r, hl, hr, h => by
    have h0 := hr 0 e e' rfl rfl
    rw [findL] at h
    rw [Instr.findNow]
    split at h
    · rename_i hs
      cases h
      rw [sameNow_ok hk h0.1 hs]
      exact ⟨_, rfl, rfl, h0.2.1⟩
    · rename_i hs
      rw [sameNow_ok hk h0.1 hs]
      exact findL_ok hk es es' (i + 1) r (by simpa using hl) (fun j a b ha hb => hr (j + 1) a b (by simpa using ha) (by simpa using hb)) h
    · cases h
def simpleKey : TypeDesc → Bool
  | .int _ | .string | .bool => true
  | _ => false
theorem checkKey_ok {t : TypeId} {d : TypeDesc} (hu : P.underlying t = some d) (hd : simpleKey d = true) (b : Bool) (v : Value) (w : World) : (Instr.checkKey b 10000 t v).run P w = .ok () w := by
  have e : Instr.checkKey b 10000 t v = Instr.checkKey b (9999 + 1) t v := rfl
  rw [e, Instr.checkKey]
  simp only [Sem.run_bind, run_underlying hu, Result.andThen_ok]
  cases d <;> first
    | (cases hd; done)
    | rfl
theorem findKey_ok {t : TypeId} {d : TypeDesc} (hu : P.underlying t = some d) {k' : Value} {es' : List MapEntry} {r' : Option (Nat × Value)} (h : Instr.findNow d k' es' 0 = some r') (w : World) : (Instr.findKey t k' es').run P w = .ok r' w := by
  simp [Instr.findKey, run_underlying hu, h]
def mapA (h : HT AObj) (x : Value) : Option (List (Value × Value × Nat)) :=
  match x with
  | .map none => some []
  | .map (some r) => match h.get r with
    | some (.map es _) => some es
    | _ => none
  | _ => none
def fLookup (P : Program) (h : HT AObj) (t : TypeId) (x k : Value) (ok : Bool) : Option Value :=
  match P.underlying t, mapA h x with
  | some (.map kt et), some es => match P.underlying kt with
    | some d => match simpleKey d, findL d k es 0 with
      | true, some (some (_, v)) => some (if ok then .tuple #[v, .bool true] else v)
      | true, some none => match zeroA P et with
        | some z => some (if ok then .tuple #[z, .bool false] else z)
        | none => none
      | _, _ => none
    | none => none
  | _, _ => none
theorem mapA_ok (hW : WR base gm f A w) {x x' : Value} {es : List (Value × Value × Nat)} (hx : VR f x x') (h : mapA A.h x = some es) :
    ∃ es' : Array MapEntry, es.length = es'.toList.length ∧ (∀ (j : Nat) e e', es[j]? = some e → es'.toList[j]? = some e' → VR f e.1 e'.key ∧ VR f e.2.1 e'.val ∧ e.2.2 = e'.born) ∧
      ((x' = .map none ∧ es' = #[]) ∨ ∃ r c, x' = .map (some r) ∧ w.heap[r]? = some (.map es' c)) := by
  unfold mapA at h
  split at h
  · cases h
    cases hx
    exact ⟨#[], rfl, fun j e e' h => by simp at h, .inl ⟨rfl, rfl⟩⟩
  · split at h
    · rename_i r es c hg
      cases h
      obtain ⟨l, hl, ho⟩ := hW.ob _ _ hg
      cases hx with
      | map hr =>
        rw [hl] at hr
        cases hr
        cases ho with
        | obj hw ho =>
          cases ho with
          | map hs hk => exact ⟨_, by simpa using hs, fun j e e' a b => hk j e e' a (by simpa using b), .inr ⟨_, _, rfl, hw⟩⟩
    · cases h
  · cases h
theorem VR.pair {a a' : Value} (h : VR f a a') (b : Bool) : VR f (.tuple #[a, .bool b]) (.tuple #[a', .bool b]) := .tuple' (.cons h (.cons (.bool b) (.nil f)))
theorem fLookup_ok (hW : WR base gm f A w) {t : TypeId} {x x' k k' v : Value} {ok : Bool} (hx : VR f x x') (hk : VR f k k') (h : fLookup P A.h t x k ok = some v) :
    ∃ v', (Instr.lookup t x' k' ok).run P w = .ok v' w ∧ VR f v v' := by
  unfold fLookup at h
  split at h
  · rename_i kt et es hu hm
    obtain ⟨es', hl, he, hx2⟩ := mapA_ok hW hx hm
    have finS : ∀ (d : TypeDesc) (i' : Nat) (v' : Value), P.underlying kt = some d → simpleKey d = true → Instr.findNow d k' es'.toList 0 = some (some (i', v')) →
        (Instr.lookup t x' k' ok).run P w = .ok (if ok then .tuple #[v', .bool true] else v') w := fun d i' v' hd hs hf => by
      rcases hx2 with ⟨rfl, rfl⟩ | ⟨r, c, rfl, hw⟩
      · simp only [Instr.lookup, Sem.run_bind, run_underlying hu, Result.andThen_ok, Sem.run_pure, checkKey_ok hd hs, findKey_ok hd hf]
      · have hg : (getObj r).run P w = .ok (.map es' c) w := by simp [getObj, Sem.run, hw]
        simp only [Instr.lookup, Sem.run_bind, run_underlying hu, Result.andThen_ok, Sem.run_pure, hg, checkKey_ok hd hs, findKey_ok hd hf]
    have finN : ∀ (d : TypeDesc) (z : Value), P.underlying kt = some d → simpleKey d = true → Instr.findNow d k' es'.toList 0 = some none → (∀ w, (zeroValue et).run P w = .ok z w) →
        (Instr.lookup t x' k' ok).run P w = .ok (if ok then .tuple #[z, .bool false] else z) w := fun d z hd hs hf hz => by
      rcases hx2 with ⟨rfl, rfl⟩ | ⟨r, c, rfl, hw⟩
      · simp only [Instr.lookup, Sem.run_bind, run_underlying hu, Result.andThen_ok, Sem.run_pure, checkKey_ok hd hs, findKey_ok hd hf, hz]
      · have hg : (getObj r).run P w = .ok (.map es' c) w := by simp [getObj, Sem.run, hw]
        simp only [Instr.lookup, Sem.run_bind, run_underlying hu, Result.andThen_ok, Sem.run_pure, hg, checkKey_ok hd hs, findKey_ok hd hf, hz]
    split at h
    · rename_i d hd
      split at h
      · rename_i i v0 hs hf
        obtain ⟨r', hr, hrel⟩ := findL_ok hk es es'.toList 0 _ hl he hf
        cases r' with
        | none => exact hrel.elim
        | some p =>
          obtain ⟨i', v'⟩ := p
          have := finS d _ v' hd hs hr
          cases h
          refine ⟨_, this, ?_⟩
          cases ok
          · exact hrel.2
          · exact hrel.2.pair true
      · rename_i hs hf
        split at h
        · rename_i z hz
          obtain ⟨hz1, hz2⟩ := zeroA_ok hz
          obtain ⟨r', hr, hrel⟩ := findL_ok hk es es'.toList 0 _ hl he hf
          cases r' with
          | some p => exact hrel.elim
          | none =>
            have := finN d z hd hs hr hz1
            cases h
            refine ⟨_, this, ?_⟩
            cases ok
            · exact hz2 f
            · exact (hz2 f).pair false
        · cases h
      · cases h
    · cases h
  · cases h
def fMakeSlice (P : Program) (id : Nat) (t : TypeId) (l c : Value) : Option (Value × Option AObj) :=
  match P.underlying t, l, c with
  | some (.slice e), .int _ (.ofNat l), .int _ (.ofNat c) => match P.info? e, zeroA P e with
    | some i, some z => match Nat.ble l c, Nat.ble c 16777216, Nat.ble i.bytes 16777216, Nat.beq (c * i.size) 0 with
      | true, true, true, false => some (.slice (some ⟨id, 0, none⟩) l c, some (.cells (zerosL z.cells.toList (c * i.size)) e (0, 0) 0))
      | true, true, true, true => some (.slice (some ⟨id, 0, none⟩) l c, some (.cells [] e (0, 0) 0))
      | _, _, _, _ => none
    | _, _ => none
  | _, _, _ => none
theorem wrap_small {c : Nat} (h : c ≤ 16777216) : IntKind.i64.wrap (c : Int) = (c : Int) := by
  have h1 : ((c : Int) % (2 ^ IntKind.i64.bits : Int)) = c := Int.emod_eq_of_lt (by omega) (by simp only [IntKind.bits]; omega)
  unfold IntKind.wrap
  simp only [h1]
  rw [if_neg]
  simp only [IntKind.bits, IntKind.signed]
  simp
  omega
theorem fMakeSlice_ok {id : Nat} (hid : f id = none) {t : TypeId} {l c l' c' v : Value} {ob : Option AObj} (hl : VR f l l') (hc : VR f c c') (h : fMakeSlice P id t l c = some (v, ob)) :
    ∃ v' w', (Instr.makeSlice t l' c').run P w = .ok v' w' ∧ FOut f id w v ob v' w' := by
  unfold fMakeSlice at h
  split at h
  · rename_i e k1 l k2 c hu
    obtain rfl := hl.int_inv
    obtain rfl := hc.int_inv
    split at h
    · rename_i i z hi hz
      obtain ⟨hz1, hz2⟩ := zeroA_ok hz
      have go : l ≤ c → c ≤ 16777216 → i.bytes ≤ 16777216 → ∀ zs : Array Value, (c * i.size = 0 ∧ zs = #[] ∨ c * i.size ≠ 0 ∧ zs = z.cells) →
          (Instr.makeSlice t (.int k1 (.ofNat l)) (.int k2 (.ofNat c))).run P w = .ok (.slice (some ⟨w.heap.size, 0, none⟩) l c) { w with heap := w.heap.push (.cells ((Array.range (c * i.size)).map (fun k => zs[k % zs.size]!)) e) } := fun h1 h2 h3 zs hzs => by
        have e1 : IntKind.i64.wrap (Int.ofNat l) = (l : Int) := wrap_small (by omega)
        have e2 : IntKind.i64.wrap (Int.ofNat c) = (c : Int) := wrap_small h2
        have hbig : ¬ ((i.bytes : Int) * (c : Int) > 2 ^ 48) := by
          have : i.bytes * c ≤ 16777216 * 16777216 := Nat.mul_le_mul h3 h2
          have h4 : ((i.bytes * c : Nat) : Int) ≤ ((16777216 * 16777216 : Nat) : Int) := Int.ofNat_le.2 this
          rw [Int.natCast_mul] at h4
          exact Int.not_lt.2 h4
        have hcond : ¬ ((decide ((c : Int) < 0) || decide ((i.bytes : Int) * (c : Int) > 2 ^ 48)) || decide ((l : Int) < 0) || decide ((l : Int) > (c : Int))) = true := by
          rw [decide_eq_false (by omega), decide_eq_false hbig, decide_eq_false (by omega), decide_eq_false (by omega)]
          decide
        simp only [Instr.makeSlice, Sem.run_bind, run_underlying hu, Result.andThen_ok, asInt, asIntOf, Sem.run_pure, run_typeInfo' hi, e1, e2, if_neg hcond, Int.toNat_natCast, run_sizeOf' hi, run_askRoom]
        rcases hzs with ⟨h0, rfl⟩ | ⟨h0, rfl⟩
        · rw [if_pos h0]
          simp only [Sem.run_bind, Sem.run_pure, Result.andThen_ok, run_newRow]
        · rw [if_neg h0]
          simp only [Sem.run_bind, Sem.run_pure, Result.andThen_ok, run_newRow, hz1]
      split at h
      · rename_i h1 h2 h3 h4
        cases h
        have h4 := beq_f h4
        exact ⟨_, _, go (Nat.le_of_ble_eq_true h1) (Nat.le_of_ble_eq_true h2) (Nat.le_of_ble_eq_true h3) z.cells (.inr ⟨h4, rfl⟩), FOut.new e hid (zerosL_ok hz2 _) (VR.newSlice f id _ l c)⟩
      · rename_i h1 h2 h3 h4
        cases h
        have h4 := beq_t h4
        have h5 : ((Array.range (c * i.size)).map (fun k => (#[] : Array Value)[k % (#[] : Array Value).size]!)).toList = [] := by rw [h4]; simp
        have h6 : LR f [] ((Array.range (c * i.size)).map (fun k => (#[] : Array Value)[k % (#[] : Array Value).size]!)).toList := by rw [h5]; exact .nil f
        exact ⟨_, _, go (Nat.le_of_ble_eq_true h1) (Nat.le_of_ble_eq_true h2) (Nat.le_of_ble_eq_true h3) #[] (.inl ⟨h4, rfl⟩), FOut.new e hid h6 (VR.newSlice f id _ l c)⟩
      · cases h
    · cases h
  · cases h
def fRange (P : Program) (h : HT AObj) (id : Nat) (t : TypeId) (x : Value) : Option (Value × Option AObj) :=
  match P.underlying t, x with
  | some .string, .string s => some (.pointer (some ⟨id, 0, none⟩), some (.siter s 0))
  | some (.map _ _), .map none => some (.pointer (some ⟨id, 0, none⟩), some (.miter none 0 [] 0))
  | some (.map _ _), .map (some m) => match h.get m with
    | some (.map _ c) => some (.pointer (some ⟨id, 0, none⟩), some (.miter (some m) c [] c))
    | _ => none
  | _, _ => none
theorem fRange_ok (hW : WR base gm f A w) {id : Nat} (hid : f id = none) {t : TypeId} {x x' v : Value} {ob : Option AObj} (hx : VR f x x') (h : fRange P A.h id t x = some (v, ob)) :
    ∃ v' w', (Instr.range t x').run P w = .ok v' w' ∧ FOut f id w v ob v' w' := by
  unfold fRange at h
  split at h
  · rename_i s hu
    cases h
    cases hx
    exact ⟨_, _, by simp [Instr.range, run_underlying hu], FOut.obj (.siter s 0) (VR.new f id _)⟩
  · rename_i k e hu
    cases h
    cases hx
    exact ⟨_, _, by simp [Instr.range, run_underlying hu], FOut.obj (.minil 0 [] 0) (VR.new f id _)⟩
  · rename_i k e m hu
    split at h
    · rename_i es c hg
      cases h
      obtain ⟨l, hl, ho⟩ := hW.ob _ _ hg
      cases hx with
      | map hr =>
        rw [hl] at hr
        cases hr
        cases ho with
        | obj hw ho =>
          cases ho with
          | map hs hk =>
            refine ⟨_, _, by simp [Instr.range, run_underlying hu, getObj, Sem.run, hw], FOut.obj (.miter c [] c (Ren.le_put _ hid _ _ hl)) (VR.new f id _)⟩
    · cases h
  · cases h
def findB : List (Value × Value × Nat) → Nat → Option Value
  | [], _ => none
  | e :: es, b => match Nat.beq e.2.2 b with
    | true => some (.tuple #[e.1, e.2.1])
    | false => findB es b
def fEntry (h : HT AObj) (x : Value) : Option Value :=
  match x with
  | .pointer (some ⟨r, 0, none⟩) => match h.get r with
    | some (.miter (some m) _ seen st) => match seen.getLast?, h.get m with
      | some b, some (.map es c) => match Nat.beq c st with
        | true => findB es b
        | false => none
      | _, _ => none
    | _ => none
  | _ => none
theorem findB_ok : ∀ (es : List (Value × Value × Nat)) (es' : List MapEntry) (b : Nat) (v : Value), es.length = es'.length → (∀ (j : Nat) e e', es[j]? = some e → es'[j]? = some e' → VR f e.1 e'.key ∧ VR f e.2.1 e'.val ∧ e.2.2 = e'.born) →
    findB es b = some v → ∃ e', es'.find? (fun e => e.born == b) = some e' ∧ VR f v (.tuple #[e'.key, e'.val])
  | [], _, _, _, _, _, h => by cases h
  | _ :: _, [], _, _, hl, _, _ => by simp at hl
  | e :: es, e' :: es', b, v, hl, hr, h => by
    have h0 := hr 0 e e' rfl rfl
    rw [findB] at h
    split at h
    · rename_i hb
      have hb := beq_t hb
      cases h
      refine ⟨e', by rw [List.find?_cons_of_pos]; rw [← h0.2.2, hb]; simp, .tuple' (.cons h0.1 (.cons h0.2.1 (.nil f)))⟩
    · rename_i hb
      have hb := beq_f hb
      obtain ⟨e2, h1, h2⟩ := findB_ok es es' b v (by simpa using hl) (fun j a c ha hc => hr (j + 1) a c (by simpa using ha) (by simpa using hc)) h
      exact ⟨e2, by rw [List.find?_cons_of_neg (by rw [← h0.2.2]; simpa using hb)]; exact h1, h2⟩
theorem fEntry_ok (hW : WR base gm f A w) {x x' v : Value} (hx : VR f x x') (h : fEntry A.h x = some v) : ∃ v', (Instr.entry x').run P w = .ok v' w ∧ VR f v v' := by
  unfold fEntry at h
  split at h
  · rename_i r
    split at h
    · rename_i m s0 seen st hg
      split at h
      · rename_i b es c hb hm
        split at h
        · rename_i hc
          have hc := beq_t hc
          obtain ⟨l, hl, ho⟩ := hW.ob _ _ hg
          obtain ⟨a', rfl, l2, hl2, rfl⟩ := hx.ptr_inv
          dsimp only at hl2
          rw [hl] at hl2
          cases hl2
          cases ho with
          | obj hw ho =>
            cases ho with
            | miter _ _ _ hm2 =>
              obtain ⟨l3, hl3, ho3⟩ := hW.ob _ _ hm
              rw [hm2] at hl3
              cases hl3
              cases ho3 with
              | obj hw3 ho3 =>
                cases ho3 with
                | map hs hk =>
                  rename_i es'
                  obtain ⟨e', h1, h2⟩ := findB_ok es es'.toList b v (by simpa using hs) (fun j e e' ha hb => hk j e e' ha (by simpa using hb)) h
                  refine ⟨_, ?_, h2⟩
                  have h1' : es'.find? (fun e => e.born == b) = some e' := by rw [← Array.find?_toList]; exact h1
                  have hb' : seen.toArray.back? = some b := by simpa using hb
                  simp [Instr.entry, getObj, Sem.run, hw, hw3, hb', hc, h1']
        · cases h
      · cases h
    · cases h
  · cases h
end
end
end Go.Proofs.YtlfinaeklaimjaaGreatDoor.Am
namespace Go.Proofs.YtlfinaeklaimjaaGreatDoor
noncomputable section
end
end Go.Proofs.YtlfinaeklaimjaaGreatDoor
namespace Go.Proofs.YtlfinaeklaimjaaGreatDoor.Am
noncomputable section
open Go.Proofs.YtlfinaeklaimjaaGreatDoor Go.RowKit
section
variable {P : Program} {base gm : Nat} {f : Ren} {A : AS} {w : World}
def pureF (P : Program) (ρ : Operand → Value) (o : Oper) : Option (Value × Option AObj) :=
  match o.op.operands.toList.all fun x => noA 60 (ρ x) with
  | true => match pureRun P (execOp ρ o) with
    | some (.value v) => match noA 60 v with
      | true => some (v, none)
      | false => none
    | _ => none
  | false => none
def rd (x : Option Value) : Option (Value × Option AObj) :=
  match x with
  | some v => some (v, none)
  | none => none
def orP (x : Option Value) (y : Option (Value × Option AObj)) : Option (Value × Option AObj) :=
  match x with
  | some v => some (v, none)
  | none => y
def nilA (P : Program) : Nat → TypeId → Value → String → Bool
  | 0, _, _, _ => false
  | n + 1, t, v, name => match P.info? t with
    | some i => match i.methods.find? (·.name == name) with
      | some m => match m.path.toList with
        | [] => match m.func, P.underlying t, v with
          | some (_, true), _, _ => true
          | some (_, false), some (.pointer _), .pointer (some _) => true
          | some (_, false), some (.struct _), _ => true
          | _, _, _ => false
        | [s] => match s.deref, m.func, P.underlying s.struct, v with
          | false, none, some (.struct fs), .agg cs => match fs[s.index]? with
            | some fd => match partA P fd.type cs.toList fd.offset with
              | some (.iface t' v') => nilA P n t' v' name
              | _ => false
            | none => false
          | _, _, _, _ => false
        | _ => false
      | none => false
    | none => false
theorem nilA_ok {name : String} : ∀ (n : Nat) (t : TypeId) (v v' : Value), VR f v v' → nilA P n t v name = true → ∀ (fuel : Nat), n ≤ fuel → ∀ w, (nilAhead fuel t v' name).run P w = .ok (some false) w
  | 0, _, _, _, _, h, _, _, _ => by cases h
  | n + 1, t, v, v', hv, h, fuel, hfu, w => by
    obtain ⟨q, rfl⟩ : ∃ q, fuel = q + 1 := ⟨fuel - 1, by omega⟩
    rw [nilAhead]
    unfold nilA at h
    split at h
    · rename_i i hi
      split at h
      · rename_i m hm
        split at h
        · rename_i hp
          split at h
          · rename_i g u z hf
            simp only [Sem.run_bind, run_typeInfo' hi, Result.andThen_ok, hm, hp, followBlind, Sem.run_pure, hf]
          · rename_i g e a hf hu
            obtain ⟨a', rfl, _⟩ := hv.ptr_inv
            simp only [Sem.run_bind, run_typeInfo' hi, Result.andThen_ok, hm, hp, followBlind, Sem.run_pure, hf, run_underlying hu]
          · rename_i g fs z hf hu
            simp only [Sem.run_bind, run_typeInfo' hi, Result.andThen_ok, hm, hp, followBlind, Sem.run_pure, hf, run_underlying hu]
          · cases h
        · rename_i s hp
          split at h
          · rename_i fs cs hd hf hs
            split at h
            · rename_i fd hfd
              split at h
              · rename_i t' u hpa
                obtain ⟨cs', rfl, hl⟩ := hv.agg_inv
                obtain ⟨x', hr, hx⟩ := partA_ok hl hpa w
                obtain ⟨u', rfl, hu'⟩ : ∃ u', x' = .iface t' u' ∧ VR f u u' := by
                  generalize x' = z at hx
                  cases hx with | iface _ hx => exact ⟨_, rfl, hx⟩
                have h1 := nilA_ok n t' u u' hu' h q (by omega) w
                simp only [Sem.run_bind, run_typeInfo' hi, Result.andThen_ok, hm, hp, followBlind, run_underlying hs, hfd, hd, hr, Sem.run_pure, hf, h1]
              · cases h
            · cases h
          · cases h
        · cases h
      · cases h
    · cases h
def flt (P : Program) (ρ : Operand → Value) (o : Oper) (id : Nat) (h : HT AObj) : Option (Value × Option AObj) :=
  match o.op with
  | .move x | .assign x => some (ρ x, none)
  | .pick c a b => match ρ c with
    | .bool true => some (ρ a, none)
    | .bool false => some (ρ b, none)
    | _ => none
  | .alloc t => fAlloc P id t
  | .box t x => some (.pointer (some ⟨id, 0, none⟩), some (.cells (ρ x).cells.toList t (0, 0) 0))
  | .build t ps => rd (fBuild P t (ps.toList.map fun p => (p.1, ρ p.2)))
  | .buildSlice t n ps => fBuildSlice P id t n (ps.toList.map fun p => (p.1, ρ p.2))
  | .load t x => match ρ x with
    | .pointer (some a) => rd (loadA P h t a)
    | _ => none
  | .nilCheck x => match ρ x with
    | .pointer (some a) => some (.pointer (some a), none)
    | .func (.func g) x y => some (.func (.func g) x y, none)
    | .func (.method name) x y => match x[0]? with
      | some (Value.iface t u) => match nilA P 2 t u name with
        | true => some (.func (.method name) x y, none)
        | false => none
      | _ => none
    | _ => none
  | .fieldAddr s x i => rd (fFieldAddr P s (ρ x) i)
  | .indexAddr t x i => rd (fIndexAddr P t (ρ x) (ρ i))
  | .slice t x lo hi mx => match ρ x with
    | .string _ => pureF P ρ o
    | .slice none _ _ => pureF P ρ o
    | v => rd (fSlice P h t v (lo.map ρ) (hi.map ρ) (mx.map ρ))
  | .field t x i => rd (fField P t (ρ x) i)
  | .index t x i => match ρ x with
    | .string _ => pureF P ρ o
    | v => rd (fIndex P t v (ρ i))
  | .extract t i => rd (fExtract (ρ t) i)
  | .makeInterface t x => rd (fIface P t (ρ x))
  | .makeFunc g x y => rd (fFunc g (x.toList.map ρ).toArray (y.toList.map ρ).toArray)
  | .makeMap t m => fMakeMap P id t (m.map ρ)
  | .makeSlice t l c => fMakeSlice P id t (ρ l) (ρ c)
  | .range t x => fRange P h id t (ρ x)
  | .lookup t x k ok => rd (fLookup P h t (ρ x) (ρ k) ok)
  | .entry x => rd (fEntry h (ρ x))
  | .convert s d x => match ρ x with
    | .slice (some a) n c => rd (fBytesStr P h s d (.slice (some a) n c))
    | .string t => match fStrBytes P id s d (.string t) with
      | some r => some r
      | none => pureF P ρ o
    | _ => pureF P ρ o
  | .unOp _ _ _ => pureF P ρ o
  | .binOp op t x y _ => match ρ x with
    | .int _ _ => pureF P ρ o
    | _ => orP (fEq P op t (ρ x) (ρ y)) (pureF P ρ o)
  | .call ⟨.builtin .len, args, ts⟩ => match ts[0]?, args[0]? with
    | some t, some x => orP (fLen P h t (ρ x)) (pureF P ρ o)
    | _, _ => none
  | .call ⟨.builtin .min, _, _⟩ | .call ⟨.builtin .max, _, _⟩ | .call ⟨.builtin .cap, _, _⟩ => pureF P ρ o
  | _ => none
theorem vrun {s : Sem Value} {v : Value} {w w' : World} (h : s.run P w = .ok v w') : (do pure (Next.value (← s)) : Sem Next).run P w = .ok (.value v) w' := by simp [h]
theorem pureF_ok {id : Nat} {ρ ρ' : Operand → Value} {o : Oper} {v : Value} {ob : Option AObj} (hρ : ∀ x ∈ o.op.operands, VR f (ρ x) (ρ' x)) (hs : ∀ cs b, o.op ≠ .select cs b) (h : pureF P ρ o = some (v, ob)) :
    ∃ v' w', (execOp ρ' o).run P w = .ok (.value v') w' ∧ FOut f id w v ob v' w' := by
  unfold pureF at h
  split at h
  · rename_i hall
    split at h
    · rename_i v2 hr
      split at h
      · rename_i hn
        cases h
        have e : execOp ρ' o = execOp ρ o := execOp_congr o hs fun x hx => noA_eq 60 _ _ (List.all_eq_true.1 hall x (by simpa using hx)) (hρ x hx)
        exact ⟨v, w, by rw [e]; exact pureRun_ok _ _ hr w, FOut.read (noA_refl f 60 v hn)⟩
      · cases h
    · cases h
  · cases h
theorem rd_inv {x : Option Value} {v : Value} {ob : Option AObj} (h : rd x = some (v, ob)) : x = some v ∧ ob = none := by
  unfold rd at h
  split at h
  · cases h; exact ⟨rfl, rfl⟩
  · cases h
theorem orP_inv {x : Option Value} {y : Option (Value × Option AObj)} {v : Value} {ob : Option AObj} (h : orP x y = some (v, ob)) : (x = some v ∧ ob = none) ∨ y = some (v, ob) := by
  unfold orP at h
  split at h
  · cases h; exact .inl ⟨rfl, rfl⟩
  · exact .inr h
theorem OVR.map {ρ ρ' : Operand → Value} {x : Option Operand} (h : ∀ y, x = some y → VR f (ρ y) (ρ' y)) : OVR f (x.map ρ) (x.map ρ') := by
  cases x with
  | none => trivial
  | some y => exact h y rfl
set_option maxHeartbeats 2000000 in
theorem flt_ok (hW : WR base gm f A w) {id : Nat} (hid : f id = none) {ρ ρ' : Operand → Value} {o : Oper} {v : Value} {ob : Option AObj} (hρ : ∀ x ∈ o.op.operands, VR f (ρ x) (ρ' x))
    (h : flt P ρ o id A.h = some (v, ob)) : ∃ v' w', (execOp ρ' o).run P w = .ok (.value v') w' ∧ FOut f id w v ob v' w' := by
  have hp : ∀ v2 ob2, (∀ cs b, o.op ≠ .select cs b) → pureF P ρ o = some (v2, ob2) → ∃ v' w', (execOp ρ' o).run P w = .ok (.value v') w' ∧ FOut f id w v2 ob2 v' w' := fun v2 ob2 hs h => pureF_ok hρ hs h
  obtain ⟨dst, op, type, pos, after, guard⟩ := o
  have R : ∀ {s : Sem Value} {u u' : Value}, s.run P w = .ok u' w → VR f u u' → ∃ v' w', (do pure (Next.value (← s)) : Sem Next).run P w = .ok (.value v') w' ∧ FOut f id w u none v' w' := fun hr hv => ⟨_, _, vrun hr, FOut.read hv⟩
  have S : ∀ {s : Sem Value} {u : Value} {ob : Option AObj}, (∃ v' w', s.run P w = .ok v' w' ∧ FOut f id w u ob v' w') → ∃ v' w', (do pure (Next.value (← s)) : Sem Next).run P w = .ok (.value v') w' ∧ FOut f id w u ob v' w' := fun ⟨v', w', hr, hF⟩ => ⟨v', w', vrun hr, hF⟩
  unfold flt at h
  cases op with
  | move x => cases h; exact ⟨_, _, rfl, FOut.read (hρ x (by simp [Op.operands]))⟩
  | assign x => cases h; exact ⟨_, _, rfl, FOut.read (hρ x (by simp [Op.operands]))⟩
  | pick c a b =>
    have hc := hρ c (by simp [Op.operands])
    dsimp only at h
    split at h
    · rename_i e
      cases h
      rw [e] at hc
      have e' : ρ' c = .bool true := by generalize ρ' c = z at hc; cases hc; rfl
      exact ⟨ρ' a, w, by simp [execOp, asBool, e'], FOut.read (hρ a (by simp [Op.operands]))⟩
    · rename_i e
      cases h
      rw [e] at hc
      have e' : ρ' c = .bool false := by generalize ρ' c = z at hc; cases hc; rfl
      exact ⟨ρ' b, w, by simp [execOp, asBool, e'], FOut.read (hρ b (by simp [Op.operands]))⟩
    · cases h
  | alloc t => exact S (fAlloc_ok hid h)
  | box t x => cases h; exact S (fBox_ok hid (hρ x (by simp [Op.operands])))
  | build t ps =>
    obtain ⟨e0, rfl⟩ := rd_inv h
    obtain ⟨v', hr, hv⟩ := fBuild_ok (ρ' := ρ') (fun p hq => hρ p.2 (by simp [Op.operands]; exact ⟨p.1, by simpa using hq⟩)) e0 w
    refine ⟨v', w, ?_, FOut.read hv⟩
    have e : (ps.map fun (i, x) => (i, ρ' x)) = (ps.toList.map fun p => (p.1, ρ' p.2)).toArray := by apply Array.ext'; simp
    show (do pure (Next.value (← Instr.build t (ps.map fun (i, x) => (i, ρ' x)))) : Sem Next).run P w = _
    rw [e]
    exact vrun hr
  | buildSlice t n ps =>
    obtain ⟨v', w', hr, hF⟩ := fBuildSlice_ok (ρ' := ρ') (w := w) hid (fun p hq => hρ p.2 (by simp [Op.operands]; exact ⟨p.1, by simpa using hq⟩)) h
    refine ⟨v', w', ?_, hF⟩
    have e : (ps.map fun (i, x) => (i, ρ' x)) = (ps.toList.map fun p => (p.1, ρ' p.2)).toArray := by apply Array.ext'; simp
    show (do pure (Next.value (← Instr.buildSlice t n (ps.map fun (i, x) => (i, ρ' x)))) : Sem Next).run P w = _
    rw [e]
    exact vrun hr
  | load t x =>
    have hx := hρ x (by simp [Op.operands])
    dsimp only at h
    split at h
    · rename_i a e
      obtain ⟨e0, rfl⟩ := rd_inv h
      rw [e] at hx
      obtain ⟨a', e', ha⟩ := hx.ptr_inv
      obtain ⟨v', hr, hv⟩ := loadA_ok (P := P) hW ha e0
      exact R (s := Instr.loadAt t (ρ' x)) (by rw [e']; simpa [Instr.loadAt, Instr.sureAddr] using hr) hv
    · cases h
  | nilCheck x =>
    have hx := hρ x (by simp [Op.operands])
    dsimp only at h
    split at h
    · rename_i a e
      cases h
      rw [e] at hx
      obtain ⟨a', e', ha⟩ := hx.ptr_inv
      exact ⟨.pointer (some a'), w, by simp [execOp, e'], FOut.read (.ptr ha)⟩
    · rename_i g y z e
      cases h
      rw [e] at hx
      obtain ⟨y', z', e'⟩ : ∃ y' z', ρ' x = .func (.func g) y' z' := by
        generalize ρ' x = q at hx
        cases hx with | func hg _ _ _ _ => cases hg; exact ⟨_, _, rfl⟩
      exact ⟨ρ' x, w, by simp [execOp, e'], FOut.read hx⟩
    · rename_i name y z e
      split at h
      · rename_i t u e1
        split at h
        · rename_i hnil
          cases h
          rw [e] at hx
          obtain ⟨y', z', u', e', e2, hu⟩ : ∃ y' z' u', ρ' x = .func (.method name) y' z' ∧ y'[0]? = some (Value.iface t u') ∧ VR f u u' := by
            generalize ρ' x = q at hx
            cases hx with
            | @func _ g' _ y' _ z' hg h1 h2 _ _ =>
              cases hg
              have h0 : 0 < y'.size := by rw [← h1]; exact (Array.getElem?_eq_some_iff.1 e1).1
              have h3 := h2 0 _ _ e1 (Array.getElem?_eq_getElem h0)
              generalize hz : y'[0] = q at h3
              cases h3 with
              | iface _ h3 => exact ⟨_, _, _, rfl, by rw [Array.getElem?_eq_getElem h0, hz], h3⟩
          have hmd : 2 ≤ Made.depth := by decide
          have hA := nilA_ok 2 t u u' hu hnil (P.types.size + Made.depth) (by omega) w
          refine ⟨ρ' x, w, ?_, FOut.read hx⟩
          simp only [execOp, e', e2, Sem.run_bind, run_program, Result.andThen_ok, hA, Sem.run_pure]
          rfl
        · cases h
      · cases h
    · cases h
  | fieldAddr s x i =>
    obtain ⟨e0, rfl⟩ := rd_inv h
    obtain ⟨v', hr, hv⟩ := fFieldAddr_ok (hρ x (by simp [Op.operands])) e0 w
    exact R hr hv
  | indexAddr t x i =>
    obtain ⟨e0, rfl⟩ := rd_inv h
    obtain ⟨v', hr, hv⟩ := fIndexAddr_ok (hρ x (by simp [Op.operands])) (hρ i (by simp [Op.operands])) e0 w
    exact R hr hv
  | slice t x lo hi mx =>
    dsimp only at h
    split at h
    · exact hp _ _ (by simp) h
    · exact hp _ _ (by simp) h
    · obtain ⟨e0, rfl⟩ := rd_inv h
      obtain ⟨v', hr, hv⟩ := fSlice_ok hW (hρ x (by simp [Op.operands])) (OVR.map fun y e => hρ y (by simp [Op.operands, e])) (OVR.map fun y e => hρ y (by simp [Op.operands, e])) (OVR.map fun y e => hρ y (by simp [Op.operands, e])) e0
      exact R hr hv
  | field t x i =>
    obtain ⟨e0, rfl⟩ := rd_inv h
    obtain ⟨v', hr, hv⟩ := fField_ok (hρ x (by simp [Op.operands])) e0 w
    exact R hr hv
  | index t x i =>
    dsimp only at h
    split at h
    · exact hp _ _ (by simp) h
    · obtain ⟨e0, rfl⟩ := rd_inv h
      obtain ⟨v', hr, hv⟩ := fIndex_ok (hρ x (by simp [Op.operands])) (hρ i (by simp [Op.operands])) e0 w
      exact R hr hv
  | extract t i =>
    obtain ⟨e0, rfl⟩ := rd_inv h
    obtain ⟨v', hr, hv⟩ := fExtract_ok (hρ t (by simp [Op.operands])) e0 w
    exact R hr hv
  | makeInterface t x =>
    obtain ⟨e0, rfl⟩ := rd_inv h
    obtain ⟨v', hr, hv⟩ := fIface_ok (hρ x (by simp [Op.operands])) e0 w
    exact R hr hv
  | makeFunc g x y =>
    obtain ⟨e0, rfl⟩ := rd_inv h
    obtain ⟨v', hr, hv⟩ := fFunc_ok (LR.map x.toList ρ ρ' fun z hz => hρ z (by simp [Op.operands]; exact .inl (by simpa using hz))) (LR.map y.toList ρ ρ' fun z hz => hρ z (by simp [Op.operands]; exact .inr (by simpa using hz))) e0 w
    refine ⟨v', w, ?_, FOut.read hv⟩
    have e1 : x.map ρ' = (x.toList.map ρ').toArray := by apply Array.ext'; simp
    have e2 : y.map ρ' = (y.toList.map ρ').toArray := by apply Array.ext'; simp
    show (do pure (Next.value (← Instr.makeFunc g (x.map ρ') (y.map ρ'))) : Sem Next).run P w = _
    rw [e1, e2]
    exact vrun hr
  | makeMap t m => exact S (fMakeMap_ok (OVR.map fun y e => hρ y (by simp [Op.operands, e])) h)
  | makeSlice t l c => exact S (fMakeSlice_ok hid (hρ l (by simp [Op.operands])) (hρ c (by simp [Op.operands])) h)
  | range t x => exact S (fRange_ok hW hid (hρ x (by simp [Op.operands])) h)
  | lookup t x k ok =>
    obtain ⟨e0, rfl⟩ := rd_inv h
    obtain ⟨v', hr, hv⟩ := fLookup_ok (P := P) hW (hρ x (by simp [Op.operands])) (hρ k (by simp [Op.operands])) e0
    exact R hr hv
  | entry x =>
    obtain ⟨e0, rfl⟩ := rd_inv h
    obtain ⟨v', hr, hv⟩ := fEntry_ok (P := P) hW (hρ x (by simp [Op.operands])) e0
    exact R hr hv
  | convert s d x =>
    have hx := hρ x (by simp [Op.operands])
    dsimp only at h
    split at h
    · rename_i a n c e
      obtain ⟨e0, rfl⟩ := rd_inv h
      rw [e] at hx
      obtain ⟨hr, hv⟩ := fBytesStr_ok hW hx e0
      exact R hr hv
    · rename_i t e
      rw [e] at hx
      split at h
      · rename_i r hr
        cases h
        exact S (fStrBytes_ok hid hx hr)
      · exact hp _ _ (by simp) h
    · exact hp _ _ (by simp) h
  | unOp u t x => exact hp _ _ (by simp) h
  | binOp op t x y yt =>
    dsimp only at h
    split at h
    · exact hp _ _ (by simp) h
    · rcases orP_inv h with ⟨e0, rfl⟩ | e0
      · obtain ⟨hr, hv⟩ := fEq_ok (hρ x (by simp [Op.operands])) (hρ y (by simp [Op.operands])) e0 x y w
        exact R hr hv
      · exact hp _ _ (by simp) e0
  | call c =>
    obtain ⟨callee, args, ts⟩ := c
    cases callee with
    | builtin b =>
      cases b with
      | len =>
        dsimp only at h
        split at h
        · rename_i t x ht hx
          rcases orP_inv h with ⟨e0, rfl⟩ | e0
          · obtain ⟨hr, hv⟩ := fLen_ok hW ht (xs := args.map ρ') (by rw [Array.getElem?_map, hx]; rfl) (hρ x (by simp [Op.operands, Call.operands]; exact Array.mem_of_getElem? hx)) (ty := type) e0
            exact ⟨_, _, by simp only [execOp, resolve, Sem.run_bind, Sem.run_pure, Result.andThen_ok, invoke, builtin, hr], FOut.read hv⟩
          · exact hp _ _ (by simp) e0
        · cases h
      | min => exact hp _ _ (by simp) h
      | max => exact hp _ _ (by simp) h
      | cap => exact hp _ _ (by simp) h
      | _ => cases h
    | _ => cases h
  | _ => cases h
end
end
end Go.Proofs.YtlfinaeklaimjaaGreatDoor.Am
namespace Go.Proofs.YtlfinaeklaimjaaGreatDoor
noncomputable section
end
end Go.Proofs.YtlfinaeklaimjaaGreatDoor
namespace Go.Proofs.YtlfinaeklaimjaaGreatDoor.Am
noncomputable section
open Go.Proofs.YtlfinaeklaimjaaGreatDoor Go.RowKit
def pureN (x : Option Value) : Option (Value × Option AObj) :=
  match x with
  | some v => match noA 60 v with
    | true => some (v, none)
    | false => none
  | none => none
def ltI : Int → Int → Bool
  | .ofNat m, .ofNat n => Nat.blt m n
  | .negSucc _, .ofNat _ => true
  | .ofNat _, .negSucc _ => false
  | .negSucc m, .negSucc n => Nat.blt n m
def eqI : Int → Int → Bool
  | .ofNat m, .ofNat n => Nat.beq m n
  | .negSucc m, .negSucc n => Nat.beq m n
  | _, _ => false
theorem blt_iff (m n : Nat) : Nat.blt m n = decide (m < n) := by
  cases h : Nat.blt m n with
  | true => exact (decide_eq_true (blt_lt h)).symm
  | false => exact (decide_eq_false fun hl => by rw [show Nat.blt m n = true from Nat.ble_eq_true_of_le hl] at h; cases h).symm
theorem beq_iff (m n : Nat) : Nat.beq m n = decide (m = n) := by
  cases h : Nat.beq m n with
  | true => exact (decide_eq_true (beq_t h)).symm
  | false => exact (decide_eq_false (beq_f h)).symm
theorem ltI_eq (a b : Int) : ltI a b = decide (a < b) := by
  cases a <;> cases b <;> simp only [ltI, blt_iff] <;> congr 1 <;> simp only [Int.ofNat_eq_natCast, Int.negSucc_eq, eq_iff_iff, true_iff, false_iff, true_eq_decide_iff] <;> first | omega | (simp; omega)
theorem eqI_eq (a b : Int) : eqI a b = (a == b) := by
  have : (a == b) = decide (a = b) := rfl
  rw [this]
  cases a <;> cases b <;> simp only [eqI, beq_iff] <;> congr 1 <;> first | (simp; done) | (simp; omega)
def kEq : IntKind → IntKind → Bool
  | .i8, .i8 | .i16, .i16 | .i32, .i32 | .i64, .i64 | .u8, .u8 | .u16, .u16 | .u32, .u32 | .u64, .u64 => true
  | _, _ => false
theorem kEq_ok {a b : IntKind} (h : kEq a b = true) : a = b := by
  cases a <;> cases b <;> first | rfl | cases h
def limK : IntKind → Nat
  | .i8 => nat_lit 128
  | .i16 => nat_lit 32768
  | .i32 => nat_lit 2147483648
  | .i64 => nat_lit 9223372036854775808
  | .u8 => nat_lit 256
  | .u16 => nat_lit 65536
  | .u32 => nat_lit 4294967296
  | .u64 => nat_lit 18446744073709551616
def wrapK (k : IntKind) (n : Int) : Int :=
  match n with
  | .ofNat m => match Nat.blt m (limK k) with
    | true => .ofNat m
    | false => k.wrap (.ofNat m)
  | .negSucc m => k.wrap (.negSucc m)
theorem wrapK_eq (k : IntKind) (n : Int) : wrapK k n = k.wrap n := by
  cases n with
  | negSucc m => rfl
  | ofNat m =>
    unfold wrapK
    dsimp only
    cases h : Nat.blt m (limK k) with
    | false => rfl
    | true =>
      have h := blt_lt h
      symm
      cases k <;> simp only [limK] at h <;> simp [IntKind.wrap, IntKind.bits, IntKind.signed] <;> omega
def fBin : BinOp → Value → Value → Option Value
  | .add => fun x y => match x, y with
    | .int k a, .int l b => match kEq k l with
      | true => some (.int k (wrapK k (Int.add a b)))
      | false => none
    | _, _ => none
  | .sub => fun x y => match x, y with
    | .int k a, .int l b => match kEq k l with
      | true => some (.int k (wrapK k (Int.sub a b)))
      | false => none
    | _, _ => none
  | .mul => fun x y => match x, y with
    | .int k a, .int l b => match kEq k l with
      | true => some (.int k (wrapK k (Int.mul a b)))
      | false => none
    | _, _ => none
  | .lss => fun x y => match x, y with
    | .int k a, .int l b => match kEq k l with
      | true => some (.bool (ltI a b))
      | false => none
    | _, _ => none
  | .gtr => fun x y => match x, y with
    | .int k a, .int l b => match kEq k l with
      | true => some (.bool (ltI b a))
      | false => none
    | _, _ => none
  | .leq => fun x y => match x, y with
    | .int k a, .int l b => match kEq k l with
      | true => some (.bool (!(ltI b a)))
      | false => none
    | _, _ => none
  | .geq => fun x y => match x, y with
    | .int k a, .int l b => match kEq k l with
      | true => some (.bool (!(ltI a b)))
      | false => none
    | _, _ => none
  | .eql => fun x y => match x, y with
    | .int k a, .int l b => match kEq k l with
      | true => some (.bool (eqI a b))
      | false => none
    | _, _ => none
  | .neq => fun x y => match x, y with
    | .int k a, .int l b => match kEq k l with
      | true => some (.bool (!(eqI a b)))
      | false => none
    | _, _ => none
  | _ => fun _ _ => none
theorem fBin_ok (P : Program) {op : BinOp} {x y v : Value} (h : fBin op x y = some v) (t : TypeId) (a b : Operand) : (∃ k n, x = .int k n) ∧ (∃ k n, y = .int k n) ∧ noA 60 v = true ∧ pureRun P (do eqGuard op t a b x y; binOp op t x y) = some v := by
  have int2 : ∃ k m n, x = .int k m ∧ y = .int k n := by
    unfold fBin at h
    cases op <;> dsimp only at h <;> first | (cases h; done) | (
      split at h
      · split at h
        · rename_i hk
          obtain rfl := kEq_ok hk
          exact ⟨_, _, _, rfl, rfl⟩
        · cases h
      · cases h)
  obtain ⟨k, m, n, rfl, rfl⟩ := int2
  have hk : kEq k k = true := by cases k <;> rfl
  refine ⟨⟨_, _, rfl⟩, ⟨_, _, rfl⟩, ?_⟩
  have hlt : ∀ a b : Int, (!(decide (b < a))) = decide (a ≤ b) := fun a b => by
    by_cases hh : b < a
    · rw [decide_eq_true hh, decide_eq_false (by omega)]; rfl
    · rw [decide_eq_false hh, decide_eq_true (by omega)]; rfl
  cases op <;> simp only [fBin, hk, Option.some.injEq, reduceCtorEq] at h <;> subst h <;> refine ⟨rfl, ?_⟩ <;> simp only [wrapK_eq, ltI_eq, eqI_eq] <;> (try simp only [hlt]) <;>
    simp [eqGuard, binOp, Op.intArith, Op.intCmp, pureRun, bind, pure, Sem.bind] <;> rfl
def fCv (P : Program) (s d : TypeId) (x : Value) : Option Value :=
  match x with
  | .int _ n => match P.underlying d, P.underlying s with
    | some (.int k), some _ => some (.int k (wrapK k n))
    | _, _ => none
  | _ => none
def fltT : Op → Program → (Operand → Value) → Oper → Nat → HT AObj → Option (Value × Option AObj)
  | .move x | .assign x => fun P ρ o id h => some (ρ x, none)
  | .pick c a b => fun P ρ o id h => match ρ c with
      | .bool true => some (ρ a, none)
      | .bool false => some (ρ b, none)
      | _ => none
  | .alloc t => fun P ρ o id h => fAlloc P id t
  | .box t x => fun P ρ o id h => some (.pointer (some ⟨id, 0, none⟩), some (.cells (ρ x).cells.toList t (0, 0) 0))
  | .build t ps => fun P ρ o id h => rd (fBuild P t (ps.toList.map fun p => (p.1, ρ p.2)))
  | .buildSlice t n ps => fun P ρ o id h => fBuildSlice P id t n (ps.toList.map fun p => (p.1, ρ p.2))
  | .load t x => fun P ρ o id h => match ρ x with
      | .pointer (some a) => rd (loadA P h t a)
      | _ => none
  | .nilCheck x => fun P ρ o id h => match ρ x with
      | .pointer (some a) => some (.pointer (some a), none)
      | .func (.func g) x y => some (.func (.func g) x y, none)
      | .func (.method name) x y => match x[0]? with
        | some (Value.iface t u) => match nilA P 2 t u name with
          | true => some (.func (.method name) x y, none)
          | false => none
        | _ => none
      | _ => none
  | .fieldAddr s x i => fun P ρ o id h => rd (fFieldAddr P s (ρ x) i)
  | .indexAddr t x i => fun P ρ o id h => rd (fIndexAddr P t (ρ x) (ρ i))
  | .slice t x lo hi mx => fun P ρ o id h => match ρ x with
      | .string _ => pureF P ρ o
      | .slice none _ _ => pureF P ρ o
      | v => rd (fSlice P h t v (lo.map ρ) (hi.map ρ) (mx.map ρ))
  | .field t x i => fun P ρ o id h => rd (fField P t (ρ x) i)
  | .index t x i => fun P ρ o id h => match ρ x with
      | .string _ => pureF P ρ o
      | v => rd (fIndex P t v (ρ i))
  | .extract t i => fun P ρ o id h => rd (fExtract (ρ t) i)
  | .makeInterface t x => fun P ρ o id h => rd (fIface P t (ρ x))
  | .makeFunc g x y => fun P ρ o id h => rd (fFunc g (x.toList.map ρ).toArray (y.toList.map ρ).toArray)
  | .makeMap t m => fun P ρ o id h => fMakeMap P id t (m.map ρ)
  | .makeSlice t l c => fun P ρ o id h => fMakeSlice P id t (ρ l) (ρ c)
  | .range t x => fun P ρ o id h => fRange P h id t (ρ x)
  | .lookup t x k ok => fun P ρ o id h => rd (fLookup P h t (ρ x) (ρ k) ok)
  | .entry x => fun P ρ o id h => rd (fEntry h (ρ x))
  | .convert s d x => fun P ρ o id h => match ρ x with
      | .slice (some a) n c => rd (fBytesStr P h s d (.slice (some a) n c))
      | .string t => match fStrBytes P id s d (.string t) with
        | some r => some r
        | none => pureF P ρ o
      | .int k n => match fCv P s d (.int k n) with
        | some v => some (v, none)
        | none => match noA 60 (ρ x) && true with
          | true => pureN (pureRun P (convert s d (ρ x)))
          | false => none
      | _ => match noA 60 (ρ x) && true with
        | true => pureN (pureRun P (convert s d (ρ x)))
        | false => none
  | .unOp u _ x => fun P ρ o id h => match noA 60 (ρ x) && true with
      | true => pureN (pureRun P (Op.unary u (ρ x)))
      | false => none
  | .binOp op t x y _ => fun P ρ o id h => match fBin op (ρ x) (ρ y) with
      | some v => some (v, none)
      | none => match ρ x with
      | .int _ _ => match noA 60 (ρ x) && (noA 60 (ρ y) && true) with
        | true => pureN (pureRun P (do eqGuard op t x y (ρ x) (ρ y); binOp op t (ρ x) (ρ y)))
        | false => none
      | _ => orP (fEq P op t (ρ x) (ρ y)) (pureF P ρ o)
  | .call ⟨.builtin .len, args, ts⟩ => fun P ρ o id h => match ts[0]?, args[0]? with
      | some t, some x => orP (fLen P h t (ρ x)) (pureF P ρ o)
      | _, _ => none
  | .call ⟨.builtin .min, _, _⟩ | .call ⟨.builtin .max, _, _⟩ | .call ⟨.builtin .cap, _, _⟩ => fun P ρ o id h => pureF P ρ o
  | _ => fun P ρ o id h => none
theorem pureRun_map (P : Program) : ∀ s : Sem Value, pureRun P (do pure (Next.value (← s)) : Sem Next) = (pureRun P s).map Next.value := by
  intro s
  induction s with
  | pure a => rfl
  | program k ih => exact ih P
  | mark _ k ih => exact ih
  | _ => rfl
theorem pureF_one {P : Program} {ρ : Operand → Value} {o : Oper} {x : Operand} {s : Sem Value} (e1 : o.op.operands = #[x]) (e2 : execOp ρ o = (do pure (Next.value (← s)) : Sem Next)) :
    (match noA 60 (ρ x) && true with
      | true => pureN (pureRun P s)
      | false => none) = pureF P ρ o := by
  unfold pureF
  rw [e2, pureRun_map, e1]
  show _ = (match (noA 60 (ρ x) && true) with
    | true => _
    | false => _)
  cases noA 60 (ρ x) && true with
  | false => rfl
  | true => cases pureRun P s <;> rfl
theorem fCv_ok (P : Program) {s d : TypeId} {k : IntKind} {n : Int} {v : Value} (h : fCv P s d (.int k n) = some v) : noA 60 v = true ∧ pureRun P (convert s d (.int k n)) = some v := by
  unfold fCv at h
  dsimp only at h
  split at h
  · rename_i kd ds hd hs
    cases h
    refine ⟨rfl, ?_⟩
    rw [wrapK_eq]
    unfold convert underlying
    simp [program, pureRun, bind, pure, Sem.bind, hd, hs, Conv.intToInt]
  · cases h
theorem fltT_eq (P : Program) (ρ : Operand → Value) (o : Oper) (id : Nat) (h : HT AObj) : fltT o.op P ρ o id h = flt P ρ o id h := by
  obtain ⟨dst, op, type, pos, after, guard⟩ := o
  cases op with
  | binOp op t x y yt =>
    have fast : ∀ v, fBin op (ρ x) (ρ y) = some v → some (v, none) = flt P ρ ⟨dst, Op.binOp op t x y yt, type, pos, after, guard⟩ id h := fun v hv => by
      obtain ⟨⟨k, n, hx⟩, ⟨l, m, hy⟩, hn, hr⟩ := fBin_ok P hv t x y
      show some (v, none) = (match ρ x with
        | .int _ _ => pureF P ρ ⟨dst, Op.binOp op t x y yt, type, pos, after, guard⟩
        | _ => orP (fEq P op t (ρ x) (ρ y)) (pureF P ρ ⟨dst, Op.binOp op t x y yt, type, pos, after, guard⟩))
      have e3 : pureF P ρ ⟨dst, Op.binOp op t x y yt, type, pos, after, guard⟩ = some (v, none) := by
        unfold pureF
        have e1 : (Op.binOp op t x y yt).operands.toList.all (fun x => noA 60 (ρ x)) = (noA 60 (ρ x) && (noA 60 (ρ y) && true)) := rfl
        have e2 : execOp ρ ⟨dst, Op.binOp op t x y yt, type, pos, after, guard⟩ = (do pure (Next.value (← (do eqGuard op t x y (ρ x) (ρ y); binOp op t (ρ x) (ρ y)))) : Sem Next) := rfl
        have e4 : (noA 60 (ρ x) && (noA 60 (ρ y) && true)) = true := by rw [hx, hy]; rfl
        rw [e2, pureRun_map]
        dsimp only
        rw [e1, e4, hr]
        dsimp only [Option.map_some]
        rw [hn]
      rw [e3, hx]
    show (match fBin op (ρ x) (ρ y) with
      | some v => some (v, none)
      | none => match ρ x with
        | .int _ _ => match noA 60 (ρ x) && (noA 60 (ρ y) && true) with
          | true => pureN (pureRun P (do eqGuard op t x y (ρ x) (ρ y); binOp op t (ρ x) (ρ y)))
          | false => none
        | _ => orP (fEq P op t (ρ x) (ρ y)) (pureF P ρ ⟨dst, Op.binOp op t x y yt, type, pos, after, guard⟩)) = _
    cases hfb : fBin op (ρ x) (ρ y) with
    | some v => exact fast v hfb
    | none =>
    show (match ρ x with
      | .int _ _ => match noA 60 (ρ x) && (noA 60 (ρ y) && true) with
        | true => pureN (pureRun P (do eqGuard op t x y (ρ x) (ρ y); binOp op t (ρ x) (ρ y)))
        | false => none
      | _ => orP (fEq P op t (ρ x) (ρ y)) (pureF P ρ ⟨dst, Op.binOp op t x y yt, type, pos, after, guard⟩)) = (match ρ x with
      | .int _ _ => pureF P ρ ⟨dst, Op.binOp op t x y yt, type, pos, after, guard⟩
      | _ => orP (fEq P op t (ρ x) (ρ y)) (pureF P ρ ⟨dst, Op.binOp op t x y yt, type, pos, after, guard⟩))
    split
    · unfold pureF
      have e1 : (Op.binOp op t x y yt).operands.toList.all (fun x => noA 60 (ρ x)) = (noA 60 (ρ x) && (noA 60 (ρ y) && true)) := rfl
      have e2 : execOp ρ ⟨dst, Op.binOp op t x y yt, type, pos, after, guard⟩ = (do pure (Next.value (← (do eqGuard op t x y (ρ x) (ρ y); binOp op t (ρ x) (ρ y)))) : Sem Next) := rfl
      rw [e2, pureRun_map]
      dsimp only
      rw [e1]
      cases noA 60 (ρ x) && (noA 60 (ρ y) && true) with
      | false => rfl
      | true =>
        cases pureRun P (do eqGuard op t x y (ρ x) (ρ y); binOp op t (ρ x) (ρ y)) <;> rfl
    · rfl
  | unOp u t x => exact pureF_one rfl rfl
  | convert s d x =>
    have slow := pureF_one (o := ⟨dst, .convert s d x, type, pos, after, guard⟩) (P := P) (ρ := ρ) (x := x) (s := convert s d (ρ x)) rfl rfl
    show (match ρ x with
      | .slice (some a) n c => rd (fBytesStr P h s d (.slice (some a) n c))
      | .string t => match fStrBytes P id s d (.string t) with
        | some r => some r
        | none => pureF P ρ ⟨dst, .convert s d x, type, pos, after, guard⟩
      | .int k n => match fCv P s d (.int k n) with
        | some v => some (v, none)
        | none => match noA 60 (ρ x) && true with
          | true => pureN (pureRun P (convert s d (ρ x)))
          | false => none
      | _ => match noA 60 (ρ x) && true with
        | true => pureN (pureRun P (convert s d (ρ x)))
        | false => none) = (match ρ x with
      | .slice (some a) n c => rd (fBytesStr P h s d (.slice (some a) n c))
      | .string t => match fStrBytes P id s d (.string t) with
        | some r => some r
        | none => pureF P ρ ⟨dst, .convert s d x, type, pos, after, guard⟩
      | _ => pureF P ρ ⟨dst, .convert s d x, type, pos, after, guard⟩)
    rw [slow]
    cases hx : ρ x with
    | slice a n c => cases a <;> rfl
    | int k n =>
      dsimp only
      split
      · rename_i v hv
        obtain ⟨h1, h2⟩ := fCv_ok P hv
        rw [← slow, hx, h2]
        show _ = pureN (some v)
        unfold pureN
        dsimp only
        rw [h1]
      · rfl
    | _ => rfl
  | call c =>
    obtain ⟨callee, args, ts⟩ := c
    cases callee with
    | builtin b => cases b <;> rfl
    | _ => rfl
  | _ => rfl
end
end Go.Proofs.YtlfinaeklaimjaaGreatDoor.Am
namespace Go.Proofs.YtlfinaeklaimjaaGreatDoor
noncomputable section
end
end Go.Proofs.YtlfinaeklaimjaaGreatDoor
namespace Go.Proofs.YtlfinaeklaimjaaGreatDoor.Am
noncomputable section
open Go.Proofs.YtlfinaeklaimjaaGreatDoor Go.RowKit
def kNum (k : IntKind) : Nat := IntKind.rec (motive := fun _ => Nat) (nat_lit 0) (nat_lit 1) (nat_lit 2) (nat_lit 3) (nat_lit 4) (nat_lit 5) (nat_lit 6) (nat_lit 7) k
theorem kNum_eq (k l : IntKind) : Nat.beq (kNum k) (kNum l) = kEq k l := by cases k <;> cases l <;> rfl
def int2 (f : IntKind → Int → Int → Value) (x y : Value) : Option Value :=
  match x with
  | .int k a => match y with
    | .int l b => Bool.rec (motive := fun _ => Option Value) none (some (f k a b)) (Nat.beq (kNum k) (kNum l))
    | _ => none
  | _ => none
def no2 (_ _ : Value) : Option Value := none
def fBinR (op : BinOp) : Value → Value → Option Value :=
  BinOp.rec (motive := fun _ => Value → Value → Option Value) (int2 fun k a b => .int k (wrapK k (Int.add a b))) (int2 fun k a b => .int k (wrapK k (Int.sub a b))) (int2 fun k a b => .int k (wrapK k (Int.mul a b)))
    no2 no2 no2 no2 no2 no2 no2 no2 (int2 fun _ a b => .bool (eqI a b)) (int2 fun _ a b => .bool (!(eqI a b))) (int2 fun _ a b => .bool (ltI a b)) (int2 fun _ a b => .bool (!(ltI b a))) (int2 fun _ a b => .bool (ltI b a)) (int2 fun _ a b => .bool (!(ltI a b))) op
theorem int2_eq (f : IntKind → Int → Int → Value) (x y : Value) : int2 f x y = (match x, y with
    | .int k a, .int l b => match kEq k l with
      | true => some (f k a b)
      | false => none
    | _, _ => none) := by
  cases x with
  | int k a => cases y with
    | int l b =>
      show Bool.rec (motive := fun _ => Option Value) none (some (f k a b)) (Nat.beq (kNum k) (kNum l)) = _
      rw [kNum_eq]
      dsimp only
      cases kEq k l <;> rfl
    | _ => rfl
  | _ => rfl
theorem fBinR_eq (op : BinOp) (x y : Value) : fBinR op x y = fBin op x y := by
  cases op <;> first | rfl | exact int2_eq _ x y
def opdsR (op : Op) : List Operand :=
  Op.rec (motive := fun _ => List Operand)
    (fun x => [x])
    (fun x => [x])
    (fun c a b => [c, a, b])
    (fun t => [])
    (fun t x => [x])
    (fun t ps => (Op.build t ps).operands.toList)
    (fun t n ps => (Op.buildSlice t n ps).operands.toList)
    (fun t m x v => [m, x, v])
    (fun t x => [x])
    (fun t x v => [x, v])
    (fun g => [])
    (fun g => [])
    (fun x => [x])
    (fun b t x y u => [x, y])
    (fun u t x => [x])
    (fun s d x => [x])
    (fun t x => [x])
    (fun t x => [x])
    (fun g x y => (Op.makeFunc g x y).operands.toList)
    (fun t m => (Op.makeMap t m).operands.toList)
    (fun t x => [x])
    (fun t l c => [l, c])
    (fun t x lo hi mx => (Op.slice t x lo hi mx).operands.toList)
    (fun t x i => [x])
    (fun t x i => [x])
    (fun t x i => [x, i])
    (fun t x i => [x, i])
    (fun t x k b => [x, k])
    (fun t m x v => [m, x, v])
    (fun t m x => [m, x])
    (fun t m s v => [m, s, v])
    (fun t x => [x])
    (fun x s => [x])
    (fun x => [x])
    (fun x t u b => [x])
    (fun t i => [t])
    (fun c => (Op.call c).operands.toList)
    (fun c => (Op.go c).operands.toList)
    (fun c => (Op.defer c).operands.toList)
    (fun x => [x])
    (fun c x => [c, x])
    (fun t c b => [c])
    (fun cs b => (Op.select cs b).operands.toList) op
theorem opdsR_eq (op : Op) : opdsR op = op.operands.toList := by
  cases op <;> rfl
def fltC (c : Call) : Program → (Operand → Value) → Oper → Nat → HT AObj → Option (Value × Option AObj) :=
  match c with
  | ⟨.builtin .len, args, ts⟩ => fun P ρ o id h => match ts[0]?, args[0]? with
      | some t, some x => orP (fLen P h t (ρ x)) (pureF P ρ o)
      | _, _ => none
  | ⟨.builtin .min, _, _⟩ | ⟨.builtin .max, _, _⟩ | ⟨.builtin .cap, _, _⟩ => fun P ρ o id h => pureF P ρ o
  | _ => fun P ρ o id h => none
def fltR (op : Op) : Program → (Operand → Value) → Oper → Nat → HT AObj → Option (Value × Option AObj) :=
  Op.rec (motive := fun _ => Program → (Operand → Value) → Oper → Nat → HT AObj → Option (Value × Option AObj))
    (fun x => fun P ρ o id h => some (ρ x, none))
    (fun x => fun P ρ o id h => some (ρ x, none))
    (fun c a b => fun P ρ o id h => match ρ c with
        | .bool true => some (ρ a, none)
        | .bool false => some (ρ b, none)
        | _ => none)
    (fun t => fun P ρ o id h => fAlloc P id t)
    (fun t x => fun P ρ o id h => some (.pointer (some ⟨id, 0, none⟩), some (.cells (ρ x).cells.toList t (0, 0) 0)))
    (fun t ps => fun P ρ o id h => rd (fBuild P t (ps.toList.map fun p => (p.1, ρ p.2))))
    (fun t n ps => fun P ρ o id h => fBuildSlice P id t n (ps.toList.map fun p => (p.1, ρ p.2)))
    (fun t m x v => fun _ _ _ _ _ => none)
    (fun t x => fun P ρ o id h => match ρ x with
        | .pointer (some a) => rd (loadA P h t a)
        | _ => none)
    (fun t x v => fun _ _ _ _ _ => none)
    (fun g => fun _ _ _ _ _ => none)
    (fun g => fun _ _ _ _ _ => none)
    (fun x => fun P ρ o id h => match ρ x with
        | .pointer (some a) => some (.pointer (some a), none)
        | .func (.func g) x y => some (.func (.func g) x y, none)
        | .func (.method name) x y => match x[0]? with
          | some (Value.iface t u) => match nilA P 2 t u name with
            | true => some (.func (.method name) x y, none)
            | false => none
          | _ => none
        | _ => none)
    (fun op t x y _ => fun P ρ o id h => match fBinR op (ρ x) (ρ y) with
        | some v => some (v, none)
        | none => match ρ x with
        | .int _ _ => match noA 60 (ρ x) && (noA 60 (ρ y) && true) with
          | true => pureN (pureRun P (do eqGuard op t x y (ρ x) (ρ y); binOp op t (ρ x) (ρ y)))
          | false => none
        | _ => orP (fEq P op t (ρ x) (ρ y)) (pureF P ρ o))
    (fun u _ x => fun P ρ o id h => match noA 60 (ρ x) && true with
        | true => pureN (pureRun P (Op.unary u (ρ x)))
        | false => none)
    (fun s d x => fun P ρ o id h => match ρ x with
        | .slice (some a) n c => rd (fBytesStr P h s d (.slice (some a) n c))
        | .string t => match fStrBytes P id s d (.string t) with
          | some r => some r
          | none => pureF P ρ o
        | .int k n => match fCv P s d (.int k n) with
          | some v => some (v, none)
          | none => match noA 60 (ρ x) && true with
            | true => pureN (pureRun P (convert s d (ρ x)))
            | false => none
        | _ => match noA 60 (ρ x) && true with
          | true => pureN (pureRun P (convert s d (ρ x)))
          | false => none)
    (fun t x => fun _ _ _ _ _ => none)
    (fun t x => fun P ρ o id h => rd (fIface P t (ρ x)))
    (fun g x y => fun P ρ o id h => rd (fFunc g (x.toList.map ρ).toArray (y.toList.map ρ).toArray))
    (fun t m => fun P ρ o id h => fMakeMap P id t (m.map ρ))
    (fun t x => fun _ _ _ _ _ => none)
    (fun t l c => fun P ρ o id h => fMakeSlice P id t (ρ l) (ρ c))
    (fun t x lo hi mx => fun P ρ o id h => match ρ x with
        | .string _ => pureF P ρ o
        | .slice none _ _ => pureF P ρ o
        | v => rd (fSlice P h t v (lo.map ρ) (hi.map ρ) (mx.map ρ)))
    (fun s x i => fun P ρ o id h => rd (fFieldAddr P s (ρ x) i))
    (fun t x i => fun P ρ o id h => rd (fField P t (ρ x) i))
    (fun t x i => fun P ρ o id h => rd (fIndexAddr P t (ρ x) (ρ i)))
    (fun t x i => fun P ρ o id h => match ρ x with
        | .string _ => pureF P ρ o
        | v => rd (fIndex P t v (ρ i)))
    (fun t x k ok => fun P ρ o id h => rd (fLookup P h t (ρ x) (ρ k) ok))
    (fun t m x v => fun _ _ _ _ _ => none)
    (fun t m x => fun _ _ _ _ _ => none)
    (fun t m s v => fun _ _ _ _ _ => none)
    (fun t x => fun P ρ o id h => fRange P h id t (ρ x))
    (fun x s => fun _ _ _ _ _ => none)
    (fun x => fun P ρ o id h => rd (fEntry h (ρ x)))
    (fun x t u b => fun _ _ _ _ _ => none)
    (fun t i => fun P ρ o id h => rd (fExtract (ρ t) i))
    (fun c => fltC c)
    (fun c => fun _ _ _ _ _ => none)
    (fun c => fun _ _ _ _ _ => none)
    (fun x => fun _ _ _ _ _ => none)
    (fun c x => fun _ _ _ _ _ => none)
    (fun t c b => fun _ _ _ _ _ => none)
    (fun cs b => fun _ _ _ _ _ => none)
    op
theorem fltR_eq (op : Op) : fltR op = fltT op := by
  cases op with
  | binOp op t x y u =>
    funext P ρ o id h
    show (match fBinR op (ρ x) (ρ y) with
      | some v => some (v, none)
      | none => _) = (match fBin op (ρ x) (ρ y) with
      | some v => some (v, none)
      | none => _)
    rw [fBinR_eq] <;> rfl
  | call c =>
    obtain ⟨callee, args, ts⟩ := c
    cases callee with
    | builtin b => cases b <;> rfl
    | _ => rfl
  | _ => rfl
end
end Go.Proofs.YtlfinaeklaimjaaGreatDoor.Am
namespace Go.Proofs.YtlfinaeklaimjaaGreatDoor
noncomputable section
end
end Go.Proofs.YtlfinaeklaimjaaGreatDoor
namespace Go.Proofs.YtlfinaeklaimjaaGreatDoor.Am
noncomputable section
open Go.Proofs.YtlfinaeklaimjaaGreatDoor Go.RowKit
def put (A : AS) (b : Nat) (o : Option AObj) : AS := ⟨HT.set 64 A.h b o, A.nx⟩
def oneC : Value → Bool
  | .agg _ | .tuple _ => false
  | _ => true
def stC (gm : Nat) (A : AS) (a : Addr) (vs : List Value) : Option AS :=
  match vs, a.spot with
  | [], _ => some A
  | vs, none => match A.h.get a.block with
    | some (.cells cs t fz so) => match Nat.ble gm a.block, Nat.ble (a.off + vs.length) cs.length, Nat.ble fz.2 fz.1 || Nat.ble cs.length fz.1, vs.all oneC with
      | true, true, true, true => some (put A a.block (some (.cells (setL cs a.off vs) t fz so)))
      | _, _, _, _ => none
    | _ => none
  | _, _ => none
def eStore (P : Program) (gm : Nat) (t : TypeId) (x v : Value) (A : AS) : Option (Value × AS) :=
  match x, P.info? t with
  | .pointer (some a), some i => match Nat.beq v.cells.toList.length i.size with
    | true => match stC gm A a v.cells.toList with
      | some A' => some (undef, A')
      | none => none
    | false => none
  | _, _ => none
def srcC (h : HT AObj) (size n : Nat) (x : Value) : Option (List Value) :=
  match x with
  | .slice (some a) m _ => match Nat.beq n 0, Nat.ble n m with
    | true, _ => some []
    | false, true => cellsN h (strip a) (n * size)
    | false, false => none
  | .slice none _ _ => some []
  | .string s => some ((s.data.toList.take n).map fun b => .int .u8 b.toNat)
  | _ => none
def lenA : Value → Option Nat
  | .slice _ n _ => some n
  | .string s => some s.size
  | _ => none
def isIntT (P : Program) (t : TypeId) : Option Bool :=
  match P.underlying t with
  | some (.int _) => some true
  | some _ => some false
  | none => none
def newC (P : Program) (h : HT AObj) (e t1 : TypeId) (size : Nat) (x : Value) : Option (Nat × List Value) :=
  match isIntT P t1 with
  | some true => match x, zeroA P e with
    | .int _ (.ofNat m), some z => match Nat.ble m 16777216, Nat.beq z.cells.toList.length size with
      | true, true => some (m, zerosL z.cells.toList (m * size))
      | _, _ => none
    | _, _ => none
  | some false => match lenA x with
    | some m => match srcC h size m x with
      | some cs => some (m, cs)
      | none => none
    | none => none
  | none => none
def softOk (h : HT AObj) (k e size : Nat) : Bool :=
  match h.get k with
  | some (.cells _ t _ so) => Nat.beq t e && Nat.beq so size
  | _ => false
def eAppend (P : Program) (gm : Nat) (ts : Array TypeId) (s x : Value) (A : AS) : Option (Value × AS) :=
  match ts[0]?, ts[1]? with
  | some t0, some t1 => match P.underlying t0, s with
    | some (.slice e), .slice b n c => match P.info? e, zeroA P e with
      | some i, some z => match newC P A.h e t1 i.size x, Nat.ble i.bytes 65536 && Nat.beq z.cells.toList.length i.size, Nat.beq i.size 0 with
        | some (m, cs), true, false => match Nat.ble (n + m) c with
          | true => match b with
            | none => some (.slice none (n + m) c, A)
            | some a => match cs with
              | [] => some (.slice b (n + m) c, A)
              | cs => match Nat.beq c 0, stC gm A ((strip a).add (n * i.size)) cs with
                | false, some A' => some (.slice b (n + m) c, A')
                | _, _ => none
          | false => match srcC A.h i.size n s with
            | some old => match Nat.ble (n + m) 16777216 && Nat.beq cs.length (m * i.size) && Nat.beq old.length (n * i.size) && cs.all oneC, b with
              | true, some ⟨k, _, some _⟩ => match Nat.ble gm k && softOk A.h k e i.size with
                | true => some (.slice (some ⟨A.nx, 0, some 0⟩) (n + m) (n + m), bump ⟨HT.set 64 A.h k none, A.nx⟩ A.nx (some (.cells (old ++ cs) e (0, 0) i.size)))
                | false => none
              | true, _ => some (.slice (some ⟨A.nx, 0, some 0⟩) (n + m) (n + m), bump A A.nx (some (.cells (old ++ cs) e (0, 0) i.size)))
              | false, _ => none
            | none => none
        | _, _, _ => none
      | _, _ => none
    | _, _ => none
  | _, _ => none
def eCopy (P : Program) (gm : Nat) (ts : Array TypeId) (d s : Value) (A : AS) : Option (Value × AS) :=
  match ts[0]? with
  | some t0 => match P.underlying t0, d, lenA s with
    | some (.slice e), .slice b dn _, some sn => match P.info? e with
      | some i => match srcC A.h i.size (Nat.min sn dn) s with
        | some cs => match b with
          | none => some (goInt (Nat.min sn dn), A)
          | some a => match stC gm A (strip a) cs with
            | some A' => some (goInt (Nat.min sn dn), A')
            | none => none
        | none => none
      | none => none
    | _, _, _ => none
  | none => none
def eMark (P : Program) (gm : Nat) (s d : TypeId) (x : Value) (A : AS) : Option (Value × AS) :=
  match P.underlying s, P.underlying d, x with
  | some (.slice _), some (.slice e), .slice (some a) n c => match P.underlying e, A.h.get a.block, Nat.beq s d && Nat.ble gm a.block, a.spot with
    | some (.int .u8), some (.cells cs t (0, 0) 0), true, none => some (.slice (some a) n c, put A a.block (some (.cells cs t (cs.length, cs.length + 1) 0)))
    | _, _, _, _ => none
  | _, _, _ => none
def eText (P : Program) (gm : Nat) (ts : Array TypeId) (x n : Value) (A : AS) : Option (Value × AS) :=
  match ts[0]?, x, n with
  | some t0, .pointer (some a), .int _ (.ofNat (m + 1)) => match P.underlying t0, a.spot, A.h.get a.block with
    | some (.pointer u), none, some (.cells cs t _ _) => match Nat.beq (P.cellsOf t) 1 && Nat.beq (P.underlyingId t) (P.underlyingId u) && Nat.ble (a.off + (m + 1)) cs.length && Nat.ble gm a.block && Nat.ble m 1000000000, bytesOf ((cs.drop a.off).take (m + 1)) with
      | true, some r => some (.string ⟨(r.map fun n => n.toNat.toUInt8).toArray⟩, put A a.block none)
      | _, _ => none
    | _, _, _ => none
  | _, _, _ => none
def eData (x : Value) (A : AS) : Option (Value × AS) :=
  match x with
  | .slice (some a) (_ + 1) (_ + 1) => some (.pointer (some (strip a)), A)
  | _ => none
def modL {α : Type} (g : α → α) : List α → Nat → List α
  | [], _ => []
  | a :: l, 0 => g a :: l
  | a :: l, n + 1 => a :: modL g l n
def eMapUpdate (P : Program) (gm : Nat) (t : TypeId) (m k v : Value) (A : AS) : Option (Value × AS) :=
  match P.underlying t, m with
  | some (.map kt _), .map (some r) => match P.underlying kt, A.h.get r, Nat.ble gm r with
    | some d, some (.map es c), true => match simpleKey d, findL d k es 0 with
      | true, some (some (i, _)) => some (undef, put A r (some (.map (modL (fun e => (k, v, e.2.2)) es i) c)))
      | true, some none => some (undef, put A r (some (.map (es ++ [(k, v, c)]) (c + 1))))
      | _, _ => none
    | _, _, _ => none
  | _, _ => none
def eDelete (P : Program) (gm : Nat) (ts : Array TypeId) (m k : Value) (A : AS) : Option (Value × AS) :=
  match ts[0]? with
  | some t => match P.underlying t, m with
    | some (.map kt _), .map (some r) => match P.underlying kt, A.h.get r, Nat.ble gm r with
      | some d, some (.map es c), true => match simpleKey d, findL d k es 0 with
        | true, some (some (i, _)) => some (.tuple #[], put A r (some (.map (es.eraseIdx i) c)))
        | true, some none => some (.tuple #[], put A r (some (.map es c)))
        | _, _ => none
      | _, _, _ => none
    | _, _ => none
  | none => none
def eMapEntry (P : Program) (gm : Nat) (t : TypeId) (m k : Value) (A : AS) : Option (Value × AS) :=
  match P.underlying t, m with
  | some (.map kt et), .map (some r) => match P.underlying kt, A.h.get r, Nat.ble gm r with
    | some d, some (.map es c), true => match simpleKey d, findL d k es 0 with
      | true, some (some (i, v)) => match es[i]? with
        | some e => some (.tuple #[v, goInt e.2.2], put A r (some (.map (modL (fun e => (k, e.2)) es i) c)))
        | none => none
      | true, some none => match zeroA P et with
        | some z => some (.tuple #[z, goInt c], put A r (some (.map (es ++ [(k, z, c)]) (c + 1))))
        | none => none
      | _, _ => none
    | _, _, _ => none
  | _, _ => none
def bornAt : List (Value × Value × Nat) → Nat → Nat → Option Nat
  | [], _, _ => none
  | e :: es, b, i => match Nat.beq e.2.2 b with
    | true => some i
    | false => bornAt es b (i + 1)
def eEntryStore (gm : Nat) (m s v : Value) (A : AS) : Option (Value × AS) :=
  match m, s with
  | .map (some r), .int _ (.ofNat b) => match A.h.get r, Nat.ble gm r with
    | some (.map es c), true => match bornAt es b 0 with
      | some i => some (undef, put A r (some (.map (modL (fun e => (e.1, v, e.2.2)) es i) c)))
      | none => none
    | _, _ => none
  | _, _ => none
def eNext (gm : Nat) (x : Value) (isS : Bool) (A : AS) : Option (List (Value × AS)) :=
  match x with
  | .pointer (some ⟨r, 0, none⟩) => match A.h.get r, isS, Nat.ble gm r with
    | some (.siter s pos), true, true => match Nat.blt pos s.size with
      | true => some [(.tuple #[.bool true, goInt pos, .int .i32 (Utf8.decode s pos).1], put A r (some (.siter s (pos + (Utf8.decode s pos).2))))]
      | false => some [(.tuple #[.bool false], A)]
    | some (.miter none _ _ _), false, _ => some [(.tuple #[.bool false], A)]
    | some (.miter (some m) since seen last), false, true => match A.h.get m with
      | some (.map es c) => match (seen.isEmpty || Nat.beq c last) && es.all fun e => Nat.blt e.2.2 since && (seen.isEmpty || Nat.blt e.2.2 last) with
        | true => match es.filter fun e => !(seen.contains e.2.2) with
          | [] => some [(.tuple #[.bool false], A)]
          | l => some (l.map fun e => (.tuple #[.bool true, e.1, e.2.1], put A r (some (.miter (some m) since (seen ++ [e.2.2]) c))))
        | false => none
      | _ => none
    | _, _, _ => none
  | _ => none
structure Ac where
  t : HT Value
  n : Nat
  d : List Nat
def Ac.put (a : Ac) (dst : Option Tmp) (v : Value) : Ac :=
  match dst with
  | none => a
  | some d => ⟨HT.set 64 a.t d (some v), a.n, a.d⟩
def evA (t : HT Value) : Operand → Value
  | .tmp i => match t.get i with
    | some v => v
    | none => undef
  | .const v => v
  | .global g => .pointer (some ⟨g, 0, none⟩)
  | .func f => .func (.func f) #[] #[]
def opdOk (gm : Nat) (h : HT AObj) : Operand → Bool
  | .const v => noA 60 v
  | .global g => match Nat.blt g gm, h.get g with
    | true, some _ => true
    | _, _ => false
  | _ => true
def dstOk (n : Nat) (o : Oper) : Bool :=
  match o.dst with
  | some d => Nat.blt d n && Nat.blt d 1000000000000
  | none => true
def ofList : List Value → Nat → HT Value → HT Value
  | [], _, t => t
  | v :: l, i, t => ofList l (i + 1) (HT.set 64 t i (some v))
structure St where
  a : Ac
  A : AS
abbrev Kt := Exit → St → Bool
abbrev Orc := FuncId → List Value → AS → Option (Value × AS)
def wantA (t : HT Value) (ops : List Oper) (o : Oper) : Bool :=
  match o.guard with
  | none => true
  | some (j, b) => match ops[j]? with
    | some q => match q.dst with
      | some d => match t.get d with
        | some (.bool c) => c == b
        | _ => false
      | none => false
    | none => false
section
variable (P : Program) (gm : Nat) (orc : Orc)
def resA (t : HT Value) (h : HT AObj) : List ResultVar → Option (List Value)
  | [] => some []
  | .tmp i :: l => match resA t h l with
    | some vs => some (evA t (.tmp i) :: vs)
    | none => none
  | .cell a ty :: l => match evA t (.tmp a) with
    | .pointer (some ad) => match loadA P h ty ad, resA t h l with
      | some v, some vs => some (v :: vs)
      | _, _ => none
    | _ => none
def leaveA (A : AS) : List Nat → Option AS
  | [] => some A
  | d :: ds => match A.h.get d, Nat.ble gm d with
    | some .deferred, true => leaveA (put A d none) ds
    | _, _ => none
abbrev Rec := Option Nat → Code → St → Kt → Bool
def callK (rec : Rec) (g : FuncId) (args : List Value) (A : AS) (k : Value → AS → Bool) : Bool :=
  Nat.blt args.length 1000000 && match orc g args A with
  | some (v, A) => k v A
  | none => match P.funcs[g]? with
    | some fn => match fn.body with
      | some c => rec none c ⟨⟨ofList args 0 .nil, args.length + (fn.ntmps - args.length), []⟩, A⟩ fun e st => match e with
        | .normal | .ret => match leaveA gm st.A st.a.d with
          | some A' => match resA P st.a.t A'.h fn.results.toList with
            | some [v] => k v A'
            | some vs => k (.tuple vs.toArray) A'
            | none => false
          | none => false
        | _ => false
      | none => false
    | none => false
def methodV : Nat → TypeId → Value → String → Option (FuncId × Value)
  | 0, _, _, _ => none
  | n + 1, t, v, name => match P.info? t with
    | some i => match i.methods.find? (·.name == name), P.underlying t with
      | some m, some d => match m.path.toList, m.func, d with
        | [], some (g, true), .pointer _ => some (g, v)
        | [], some (_, false), .pointer _ => none
        | [], some (g, false), _ => some (g, v)
        | [s], none, _ => match s.deref, P.underlying s.struct, v with
          | false, some (.struct fs), .agg cs => match fs[s.index]? with
            | some fd => match partA P fd.type cs.toList fd.offset with
              | some (.iface t' v') => methodV n t' v' name
              | _ => none
            | none => none
          | _, _, _ => none
        | _, _, _ => none
      | _, _ => none
    | none => none
def setPs : HT Value → Nat → List Tmp → List Value → Option (HT Value)
  | t, _, [], [] => some t
  | t, n, p :: ps, v :: vs => match Nat.blt p n && Nat.blt p 1000000000000 with
    | true => setPs (HT.set 64 t p (some v)) n ps vs
    | false => none
  | _, _, _, _ => none
def yieldK (rec : Rec) (l : Nat) (args : List Value) (A : AS) (k : Value → AS → Bool) : Bool :=
  match A.h.get l, Nat.ble gm l with
  | some (.loop _ _ t n ps asn b _), true => match setPs t n ps.toList args with
    | some t' => rec (some l) asn ⟨⟨t', n, []⟩, A⟩ fun e st => match e, st.A.h.get l with
      | .normal, some (.loop .ready pe t n ps asn b2 d) => rec (some l) b ⟨st.a, put st.A l (some (.loop .busy pe t n ps asn b2 d))⟩ fun e st => match st.A.h.get l with
        | some (.loop _ _ t n ps asn b d) => match e with
          | .normal => k (.bool true) (put st.A l (some (.loop .ready none t n ps asn b d)))
          | .ret => k (.bool false) (put st.A l (some (.loop .done (some .ret) t n ps asn b d)))
          | .exit i => k (.bool false) (put st.A l (some (.loop .done (some (.exit i)) t n ps asn b d)))
          | .goto i => k (.bool false) (put st.A l (some (.loop .done (some (.goto i)) t n ps asn b d)))
          | _ => false
        | _ => false
      | _, _ => false
    | none => false
  | _, _ => false
def oneK (x : Option (Value × AS)) (k : Value → AS → Bool) : Bool :=
  match x with
  | some (v, A) => k v A
  | none => false
def effK (rec : Rec) (ρ : Operand → Value) (o : Oper) (A : AS) (k : Value → AS → Bool) : Bool :=
  match o.op with
  | .store t x v => oneK (eStore P gm t (ρ x) (ρ v) A) k
  | .mapUpdate t m x v | .insert t m x v => oneK (eMapUpdate P gm t (ρ m) (ρ x) (ρ v) A) k
  | .mapEntry t m x => oneK (eMapEntry P gm t (ρ m) (ρ x) A) k
  | .entryStore _ m s v => oneK (eEntryStore gm (ρ m) (ρ s) (ρ v) A) k
  | .next x s => match eNext gm (ρ x) s A with
    | some l => l.all fun p => k p.1 p.2
    | none => false
  | .convert s d x => oneK (eMark P gm s d (ρ x) A) k
  | .call ⟨.builtin .append, args, ts⟩ => match args.toList with
    | [s, x] => oneK (eAppend P gm ts (ρ s) (ρ x) A) k
    | _ => false
  | .call ⟨.builtin .copy, args, ts⟩ => match args.toList with
    | [d, s] => oneK (eCopy P gm ts (ρ d) (ρ s) A) k
    | _ => false
  | .call ⟨.builtin .delete, args, ts⟩ => match args.toList with
    | [m, x] => oneK (eDelete P gm ts (ρ m) (ρ x) A) k
    | _ => false
  | .call ⟨.builtin .unsafeSliceData, args, _⟩ => match args.toList with
    | [x] => oneK (eData (ρ x) A) k
    | _ => false
  | .call ⟨.builtin .unsafeString, args, ts⟩ => match args.toList with
    | [x, n] => oneK (eText P gm ts (ρ x) (ρ n) A) k
    | _ => false
  | .call ⟨.value g, args, _⟩ => match ρ g with
    | .func (.func g) first cap => callK P gm orc rec g (first.toList ++ args.toList.map ρ ++ cap.toList) A k
    | .func (.yield l) first _ => yieldK gm rec l (first.toList ++ args.toList.map ρ) A k
    | _ => false
  | .call ⟨.invoke r name, args, _⟩ => match ρ r with
    | .iface t v => match methodV P 2 t v name with
      | some (g, r) => callK P gm orc rec g (r :: args.toList.map ρ) A k
      | none => false
    | _ => false
  | _ => false
def effT : Op → Program → Nat → Orc → Rec → (Operand → Value) → AS → (Value → AS → Bool) → Bool
  | .store t x v => fun P gm orc rec ρ A k => oneK (eStore P gm t (ρ x) (ρ v) A) k
  | .mapUpdate t m x v | .insert t m x v => fun P gm orc rec ρ A k => oneK (eMapUpdate P gm t (ρ m) (ρ x) (ρ v) A) k
  | .mapEntry t m x => fun P gm orc rec ρ A k => oneK (eMapEntry P gm t (ρ m) (ρ x) A) k
  | .entryStore _ m s v => fun P gm orc rec ρ A k => oneK (eEntryStore gm (ρ m) (ρ s) (ρ v) A) k
  | .next x s => fun P gm orc rec ρ A k => match eNext gm (ρ x) s A with
      | some l => l.all fun p => k p.1 p.2
      | none => false
  | .convert s d x => fun P gm orc rec ρ A k => oneK (eMark P gm s d (ρ x) A) k
  | .call ⟨.builtin .append, args, ts⟩ => fun P gm orc rec ρ A k => match args.toList with
      | [s, x] => oneK (eAppend P gm ts (ρ s) (ρ x) A) k
      | _ => false
  | .call ⟨.builtin .copy, args, ts⟩ => fun P gm orc rec ρ A k => match args.toList with
      | [d, s] => oneK (eCopy P gm ts (ρ d) (ρ s) A) k
      | _ => false
  | .call ⟨.builtin .delete, args, ts⟩ => fun P gm orc rec ρ A k => match args.toList with
      | [m, x] => oneK (eDelete P gm ts (ρ m) (ρ x) A) k
      | _ => false
  | .call ⟨.builtin .unsafeSliceData, args, _⟩ => fun P gm orc rec ρ A k => match args.toList with
      | [x] => oneK (eData (ρ x) A) k
      | _ => false
  | .call ⟨.builtin .unsafeString, args, ts⟩ => fun P gm orc rec ρ A k => match args.toList with
      | [x, n] => oneK (eText P gm ts (ρ x) (ρ n) A) k
      | _ => false
  | .call ⟨.value g, args, _⟩ => fun P gm orc rec ρ A k => match ρ g with
      | .func (.func g) first cap => callK P gm orc rec g (first.toList ++ args.toList.map ρ ++ cap.toList) A k
      | .func (.yield l) first _ => yieldK gm rec l (first.toList ++ args.toList.map ρ) A k
      | _ => false
  | .call ⟨.invoke r name, args, _⟩ => fun P gm orc rec ρ A k => match ρ r with
      | .iface t v => match methodV P 2 t v name with
        | some (g, r) => callK P gm orc rec g (r :: args.toList.map ρ) A k
        | none => false
      | _ => false
  | _ => fun P gm orc rec ρ A k => false
theorem effT_eq (rec : Rec) (ρ : Operand → Value) (o : Oper) (A : AS) (k : Value → AS → Bool) : effT o.op P gm orc rec ρ A k = effK P gm orc rec ρ o A k := by
  obtain ⟨dst, op, type, pos, after, guard⟩ := o
  cases op with
  | call c =>
    obtain ⟨callee, args, ts⟩ := c
    cases callee with
    | builtin b => cases b <;> rfl
    | _ => rfl
  | _ => rfl
def effC (c : Call) : Program → Nat → Orc → Rec → (Operand → Value) → AS → (Value → AS → Bool) → Bool :=
  match c with
  | ⟨.builtin .append, args, ts⟩ => fun P gm orc rec ρ A k => match args.toList with
      | [s, x] => oneK (eAppend P gm ts (ρ s) (ρ x) A) k
      | _ => false
  | ⟨.builtin .copy, args, ts⟩ => fun P gm orc rec ρ A k => match args.toList with
      | [d, s] => oneK (eCopy P gm ts (ρ d) (ρ s) A) k
      | _ => false
  | ⟨.builtin .delete, args, ts⟩ => fun P gm orc rec ρ A k => match args.toList with
      | [m, x] => oneK (eDelete P gm ts (ρ m) (ρ x) A) k
      | _ => false
  | ⟨.builtin .unsafeSliceData, args, _⟩ => fun P gm orc rec ρ A k => match args.toList with
      | [x] => oneK (eData (ρ x) A) k
      | _ => false
  | ⟨.builtin .unsafeString, args, ts⟩ => fun P gm orc rec ρ A k => match args.toList with
      | [x, n] => oneK (eText P gm ts (ρ x) (ρ n) A) k
      | _ => false
  | ⟨.value g, args, _⟩ => fun P gm orc rec ρ A k => match ρ g with
      | .func (.func g) first cap => callK P gm orc rec g (first.toList ++ args.toList.map ρ ++ cap.toList) A k
      | .func (.yield l) first _ => yieldK gm rec l (first.toList ++ args.toList.map ρ) A k
      | _ => false
  | ⟨.invoke r name, args, _⟩ => fun P gm orc rec ρ A k => match ρ r with
      | .iface t v => match methodV P 2 t v name with
        | some (g, r) => callK P gm orc rec g (r :: args.toList.map ρ) A k
        | none => false
      | _ => false
  | _ => fun _ _ _ _ _ _ _ => false
def effR (op : Op) : Program → Nat → Orc → Rec → (Operand → Value) → AS → (Value → AS → Bool) → Bool :=
  Op.rec (motive := fun _ => Program → Nat → Orc → Rec → (Operand → Value) → AS → (Value → AS → Bool) → Bool)
    (fun x => fun _ _ _ _ _ _ _ => false)
    (fun x => fun _ _ _ _ _ _ _ => false)
    (fun c a b => fun _ _ _ _ _ _ _ => false)
    (fun t => fun _ _ _ _ _ _ _ => false)
    (fun t x => fun _ _ _ _ _ _ _ => false)
    (fun t ps => fun _ _ _ _ _ _ _ => false)
    (fun t n ps => fun _ _ _ _ _ _ _ => false)
    (fun t m x v => fun P gm orc rec ρ A k => oneK (eMapUpdate P gm t (ρ m) (ρ x) (ρ v) A) k)
    (fun t x => fun _ _ _ _ _ _ _ => false)
    (fun t x v => fun P gm orc rec ρ A k => oneK (eStore P gm t (ρ x) (ρ v) A) k)
    (fun g => fun _ _ _ _ _ _ _ => false)
    (fun g => fun _ _ _ _ _ _ _ => false)
    (fun x => fun _ _ _ _ _ _ _ => false)
    (fun b t x y u => fun _ _ _ _ _ _ _ => false)
    (fun u t x => fun _ _ _ _ _ _ _ => false)
    (fun s d x => fun P gm orc rec ρ A k => oneK (eMark P gm s d (ρ x) A) k)
    (fun t x => fun _ _ _ _ _ _ _ => false)
    (fun t x => fun _ _ _ _ _ _ _ => false)
    (fun g x y => fun _ _ _ _ _ _ _ => false)
    (fun t m => fun _ _ _ _ _ _ _ => false)
    (fun t x => fun _ _ _ _ _ _ _ => false)
    (fun t l c => fun _ _ _ _ _ _ _ => false)
    (fun t x lo hi mx => fun _ _ _ _ _ _ _ => false)
    (fun t x i => fun _ _ _ _ _ _ _ => false)
    (fun t x i => fun _ _ _ _ _ _ _ => false)
    (fun t x i => fun _ _ _ _ _ _ _ => false)
    (fun t x i => fun _ _ _ _ _ _ _ => false)
    (fun t x k b => fun _ _ _ _ _ _ _ => false)
    (fun t m x v => fun P gm orc rec ρ A k => oneK (eMapUpdate P gm t (ρ m) (ρ x) (ρ v) A) k)
    (fun t m x => fun P gm orc rec ρ A k => oneK (eMapEntry P gm t (ρ m) (ρ x) A) k)
    (fun _ m s v => fun P gm orc rec ρ A k => oneK (eEntryStore gm (ρ m) (ρ s) (ρ v) A) k)
    (fun t x => fun _ _ _ _ _ _ _ => false)
    (fun x s => fun P gm orc rec ρ A k => match eNext gm (ρ x) s A with
        | some l => l.all fun p => k p.1 p.2
        | none => false)
    (fun x => fun _ _ _ _ _ _ _ => false)
    (fun x t u b => fun _ _ _ _ _ _ _ => false)
    (fun t i => fun _ _ _ _ _ _ _ => false)
    effC
    (fun c => fun _ _ _ _ _ _ _ => false)
    (fun c => fun _ _ _ _ _ _ _ => false)
    (fun x => fun _ _ _ _ _ _ _ => false)
    (fun c x => fun _ _ _ _ _ _ _ => false)
    (fun t c b => fun _ _ _ _ _ _ _ => false)
    (fun cs b => fun _ _ _ _ _ _ _ => false)
    op
theorem effR_eq (op : Op) : effR op = effT op := by
  cases op with
  | call c =>
    obtain ⟨callee, args, ts⟩ := c
    cases callee with
    | builtin b => cases b <;> rfl
    | _ => rfl
  | _ => rfl
def textK (rec : Rec) (all : List Oper) : List Oper → St → Kt → Bool
  | [], st, k => k .normal st
  | o :: os, st, k => match (opdsR o.op).all (opdOk gm st.A.h) && dstOk st.a.n o && Nat.blt st.A.nx 1000000000, wantA st.a.t all o with
    | true, true => match fltR o.op P (evA st.a.t) o st.A.nx st.A.h with
      | some (v, ob) => textK rec all os ⟨st.a.put o.dst v, bump st.A st.A.nx ob⟩ k
      | none => effR o.op P gm orc rec (evA st.a.t) st.A fun v A => textK rec all os ⟨st.a.put o.dst v, A⟩ k
    | true, false => textK rec all os ⟨st.a.put o.dst undef, st.A⟩ k
    | false, _ => false
def isFlt (o : Oper) : Bool :=
  match o.op with
  | .store .. | .mapUpdate .. | .insert .. | .mapEntry .. | .entryStore .. | .next .. | .ready _ => false
  | .call ⟨.builtin .len, _, _⟩ | .call ⟨.builtin .min, _, _⟩ | .call ⟨.builtin .max, _, _⟩ | .call ⟨.builtin .cap, _, _⟩ => true
  | .call _ => false
  | _ => true
def befs : List Oper → List Nat → List Nat
  | [], acc => acc
  | o :: os, acc => befs os (acc ++ [o.after.toList.foldl (fun s e => match Region.binds .any e with
    | true => s ||| 2 ^ e.on ||| acc.getD e.on 0
    | false => s) 0])
def writer : List Oper → Nat → Tmp → Option Nat
  | [], _, _ => none
  | o :: os, i, t => match o.dst with
    | some d => match Nat.beq d t with
      | true => some i
      | false => writer os (i + 1) t
    | none => writer os (i + 1) t
def cnt (b : Nat) : List Nat → Nat
  | [] => 0
  | e :: es => match Nat.testBit b e with
    | true => cnt b es + 1
    | false => cnt b es
def fst (bs : List Nat) (i : Nat) : List Nat → Nat → Nat
  | [], j => j
  | e :: es, j => match Nat.testBit (bs.getD e 0) i with
    | true => j
    | false => fst bs i es (j + 1)
def evD (ops : List Oper) (t0 : HT Value) (V : HT Value) (b : Nat) : Operand → Value
  | .tmp t => match writer ops 0 t with
    | some j => match Nat.testBit b j with
      | true => match V.get j with
        | some v => v
        | none => undef
      | false => evA t0 (.tmp t)
    | none => evA t0 (.tmp t)
  | x => evA t0 x
end
end
end Go.Proofs.YtlfinaeklaimjaaGreatDoor.Am
namespace Go.Proofs.YtlfinaeklaimjaaGreatDoor
noncomputable section
end
end Go.Proofs.YtlfinaeklaimjaaGreatDoor
