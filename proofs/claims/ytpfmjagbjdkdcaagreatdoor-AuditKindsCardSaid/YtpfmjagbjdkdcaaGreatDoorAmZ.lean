/- Regions whose order Go leaves open: what holds at any time of the drawing. -/
import Derived.Test.YtpfmjagbjdkdcaaGreatDoorAmY
import Derived.OrdersIn
set_option linter.unusedSimpArgs false
set_option linter.unusedVariables false
namespace Go.Proofs.YtpfmjagbjdkdcaaGreatDoor.Am
open Go.Proofs.YtpfmjagbjdkdcaaGreatDoor Go.RowKit

section
variable {f : Ren}
theorem want1 {x : Option Value} {d : Nat} {tm : Array Value} (b : Bool) : VR f (x.getD undef) (tm.getD d undef) →
    ((match tm[d]? with | some (.bool c) => some c | _ => none) == some b) = (match x with | some (.bool c) => c == b | _ => false) := by
  intro hv
  rw [Array.getD_eq_getD_getElem?] at hv
  cases hg : x with
  | none =>
    rw [hg] at hv
    cases ht : tm[d]? with
    | none => rfl
    | some u =>
      rw [ht] at hv
      have := fun c => VR.not_bool hv (by intro b h; simp [undef] at h) c
      cases u <;> first | rfl | exact absurd rfl (this _)
  | some v =>
    rw [hg] at hv
    dsimp only [Option.getD_some] at hv
    cases hvb : v with
    | bool c =>
      rw [hvb] at hv
      have := hv.bool_inv
      cases ht : tm[d]? with
      | none => rw [ht] at this; simp [undef] at this
      | some u =>
        rw [ht] at this
        obtain rfl : u = .bool c := this
        cases c <;> cases b <;> rfl
    | _ =>
      rw [hvb] at hv
      have := fun c => VR.not_bool hv (by intro b h; cases h) c
      cases ht : tm[d]? with
      | none => rfl
      | some u =>
        rw [ht] at this
        cases u <;> first | rfl | exact absurd rfl (this _)
end
theorem writer_dst : ∀ (os : List Oper) (i t j : Nat), writer os i t = some j → i ≤ j ∧ ∃ o, os[j - i]? = some o ∧ o.dst = some t
  | [], _, _, _, h => by cases h
  | o :: os, i, t, j, h => by
    have on : writer os (i + 1) t = some j → i ≤ j ∧ ∃ x, (o :: os)[j - i]? = some x ∧ x.dst = some t := fun h => by
      obtain ⟨h1, x, h2, h3⟩ := writer_dst os (i + 1) t j h
      exact ⟨by omega, x, by rw [show j - i = (j - (i + 1)) + 1 by omega]; simpa using h2, h3⟩
    rw [writer] at h
    split at h
    · rename_i d hd
      split at h
      · rename_i hb
        cases h
        have := beq_t hb
        subst this
        exact ⟨Nat.le_refl _, o, by rw [Nat.sub_self]; rfl, hd⟩
      · exact on h
    · exact on h
theorem finT_get (V : HT Value) (x : Nat) : ∀ (os : List Oper) (i : Nat) (t : HT Value), (∀ o ∈ os, ∀ d, o.dst = some d → d < 1000000000000) →
    ((∀ (o : Oper), o ∈ os → o.dst ≠ some x) → (finT V os i t).get x = t.get x) ∧
    (∀ j, (∀ k o, os[k]? = some o → o.dst = some x → i + k = j) → (∃ o ∈ os, o.dst = some x) → (finT V os i t).get x = V.get j)
  | [], i, t, hb => ⟨fun _ => rfl, fun j _ ⟨o, h, _⟩ => by simp at h⟩
  | o :: os, i, t, hb => by
    have hb' : ∀ o ∈ os, ∀ d, o.dst = some d → d < 1000000000000 := fun x hx => hb x (by simp [hx])
    rw [finT]
    cases hd : o.dst with
    | none =>
      dsimp only
      obtain ⟨h1, h2⟩ := finT_get V x os (i + 1) t hb'
      refine ⟨fun h => h1 fun y hy => h y (by simp [hy]), fun j hu hex => h2 j (fun k y hk hy => ?_) ?_⟩
      · have := hu (k + 1) y (by simpa using hk) hy
        omega
      · obtain ⟨y, hy, hyd⟩ := hex
        rcases List.mem_cons.1 hy with rfl | hy
        · rw [hd] at hyd; cases hyd
        · exact ⟨y, hy, hyd⟩
    | some d =>
      dsimp only
      have hdb : d < 1000000000000 := hb o (by simp) d hd
      have hdb1 : d + 1 < 1000000000001 := Nat.succ_lt_succ hdb
      have hset : ∀ v m, (HT.set 64 t d v).get m = if m = d then v else t.get m := fun v m => HT.get_set 64 t d m v (Nat.lt_trans hdb1 (by decide))
      obtain ⟨h1, h2⟩ := finT_get V x os (i + 1) (HT.set 64 t d (V.get i)) hb'
      refine ⟨fun h => ?_, fun j hu hex => ?_⟩
      · rw [h1 fun y hy => h y (by simp [hy]), hset, if_neg]
        rintro rfl
        exact h o (by simp) hd
      · by_cases hin : ∃ y ∈ os, y.dst = some x
        · exact h2 j (fun k y hk hy => by have := hu (k + 1) y (by simpa using hk) hy; omega) hin
        · rw [h1 fun y hy hyd => hin ⟨y, hy, hyd⟩, hset]
          obtain ⟨y, hy, hyd⟩ := hex
          rcases List.mem_cons.1 hy with rfl | hy
          · rw [hd] at hyd
            cases hyd
            have := hu 0 y rfl hd
            rw [if_pos rfl]
            congr 1
          · exact absurd ⟨y, hy, hyd⟩ hin
/-- A pass adds what is done for the first time, no more. -/
theorem fpass_new {P : Program} {ops : List Oper} {t0 : HT Value} {id0 q : Nat} {h : HT AObj} {V' : HT Value} {O' : List (Nat × AObj)} (hlen : ops.length < 1000) : ∀ (os : List Oper) (m : Nat) (V : HT Value) (O : List (Nat × AObj)),
    (∀ j, os[j]? = ops[m + j]?) → m + os.length = ops.length → fpass P ops (befs ops []) (effsOf ops 0) t0 id0 q h os m V O = some (V', O') →
    (∀ p ∈ O, p ∈ O') ∧ (∀ p ∈ O', p ∈ O ∨ lo ops p.1 = q) ∧ ∀ i, V'.get i = V.get i ∨ (lo ops i = q ∧ ∃ o, ops[i]? = some o ∧ isFlt o = true)
  | [], m, V, O, hos, hml, hr => by
    cases hr
    exact ⟨fun _ h => h, fun _ h => .inl h, fun _ => .inl rfl⟩
  | o :: os, m, V, O, hos, hml, hr => by
    have ho : ops[m]? = some o := by have := hos 0; rw [Nat.add_zero] at this; exact this.symm
    have hos' : ∀ j, os[j]? = ops[m + 1 + j]? := fun j => by
      have := hos (j + 1)
      rw [show m + 1 + j = m + (j + 1) by omega]
      exact this
    have hml' : m + 1 + os.length = ops.length := by rw [List.length_cons] at hml; omega
    have hm1 : m + 1 < 1000001 := by rw [List.length_cons] at hml; omega
    have hset : ∀ (u : Value) i, (HT.set 64 V m (some u)).get i = if i = m then some u else V.get i := fun u i => HT.get_set 64 V m i _ (Nat.lt_trans hm1 (by decide))
    have same : fpass P ops (befs ops []) (effsOf ops 0) t0 id0 q h os (m + 1) V O = some (V', O') → _ := fun hr => fpass_new hlen os (m + 1) V O hos' hml' hr
    have first : ∀ (u : Value) (O2 : List (Nat × AObj)), lo ops m = q → isFlt o = true → (∀ p ∈ O, p ∈ O2) → (∀ p ∈ O2, p ∈ O ∨ p.1 = m) → fpass P ops (befs ops []) (effsOf ops 0) t0 id0 q h os (m + 1) (HT.set 64 V m (some u)) O2 = some (V', O') →
        (∀ p ∈ O, p ∈ O') ∧ (∀ p ∈ O', p ∈ O ∨ lo ops p.1 = q) ∧ ∀ i, V'.get i = V.get i ∨ (lo ops i = q ∧ ∃ o, ops[i]? = some o ∧ isFlt o = true) := fun u O2 hlo hf h1 h2 hr => by
      obtain ⟨h3, h4, h5⟩ := fpass_new hlen os (m + 1) _ _ hos' hml' hr
      refine ⟨fun p hp => h3 p (h1 p hp), fun p hp => ?_, fun i => ?_⟩
      · rcases h4 p hp with h | h
        · rcases h2 p h with h | h
          · exact .inl h
          · exact .inr (by rw [h]; exact hlo)
        · exact .inr h
      · by_cases hi : i = m
        · exact .inr ⟨by rw [hi]; exact hlo, o, by rw [hi]; exact ho, hf⟩
        · rcases h5 i with h | h
          · rw [hset, if_neg hi] at h; exact .inl h
          · exact .inr h
    rw [fpass] at hr
    split at hr
    · exact same hr
    · rename_i hf
      split at hr
      · rename_i hlo
        have hlo : lo ops m = q := beq_t hlo
        split at hr
        · split at hr
          · exact first _ O hlo hf (fun _ h => h) (fun _ h => .inl h) hr
          · exact first _ _ hlo hf (fun _ h => List.mem_append.2 (.inl h)) (fun p h => by
              rcases List.mem_append.1 h with h | h
              · exact .inl h
              · rw [List.mem_singleton.1 h]; exact .inr rfl) hr
          · cases hr
        · exact first _ O hlo hf (fun _ h => h) (fun _ h => .inl h) hr
      · split at hr
        · split at hr
          · split at hr
            · exact same hr
            · cases hr
          · cases hr
        · exact same hr
/-! ### The invariant -/
def slotV (L : List Oper) (t0 V : HT Value) (S : Nat → Bool) (t : Nat) : Value :=
  match writer L 0 t with
  | some j => if S j = true then (V.get j).getD undef else evA t0 (.tmp t)
  | none => evA t0 (.tmp t)
section
variable (P : Program) (L : List Oper) (t0 : HT Value) (n : Nat) (ds : List Nat) (base gm : Nat) (f0 : Ren) (A0 : AS) (w0 : World)
structure Inv (S : Nat → Bool) (q : Nat) (f : Ren) (A : AS) (w : World) (V : HT Value) (O : List (Nat × AObj)) (b : Act) : Prop where
  st : Step base gm f0 A0 w0 f A w
  nx : A0.nx + L.length ≤ A.nx
  sub : ∀ i, S i = true → i < L.length
  cl : ∀ i o, S i = true → L[i]? = some o → ∀ e ∈ o.after, Region.binds .any e = true → S e.on = true
  wr : ∀ p e, (effsOf L 0)[p]? = some e → (S e = true ↔ p < q)
  ql : q ≤ (effsOf L 0).length
  gd : Gd P L t0 A0.nx q A.h V O
  blk : ∀ i x, (i, x) ∈ O → S i = true → q ≤ hi L i → ∃ l, f (A0.nx + i) = some l ∧ ObR f w x l ∧ w0.heap.size ≤ l.blk ∧ ¬ Im gm f A l.blk
  dist : ∀ i x j y l m, (i, x) ∈ O → (j, y) ∈ O → S i = true → S j = true → q ≤ hi L i → q ≤ hi L j → f (A0.nx + i) = some l → f (A0.nx + j) = some m → l.blk = m.blk → i = j
  non : ∀ i, i < L.length → (S i = false ∨ ∀ x, (i, x) ∉ O) → f (A0.nx + i) = none
  tm : b.tmps.size = n ∧ ∀ t, VR f (slotV L t0 V S t) (b.tmps.getD t undef)
  dr : DR f ds b.defers
end
section
variable {P : Program} {L : List Oper} {t0 : HT Value} {n : Nat} {ds : List Nat} {base gm : Nat} {f0 : Ren} {A0 : AS} {w0 : World} {S : Nat → Bool} {q : Nat} {f : Ren} {A : AS} {w : World} {V : HT Value} {O : List (Nat × AObj)} {b : Act}
theorem Inv.ahead (hI : Inv P L t0 n ds base gm f0 A0 w0 S q f A w V O b) (hG : RG L n) {i : Nat} {o : Oper} (ho : L[i]? = some o) (hr : ∀ e ∈ o.after, Region.binds .any e = true → S e.on = true) {j : Nat} (hb : Nat.testBit (Bi L i) j = true) : S j = true :=
  hG.closed (S := fun i => S i = true) (fun i o hi ho => hI.cl i o hi ho) ho hr hb
theorem Inv.ev (hI : Inv P L t0 n ds base gm f0 A0 w0 S q f A w V O b) (hG : RG L n) (hW0 : WR base gm f0 A0 w0) {i : Nat} {o : Oper} (ho : L[i]? = some o) (hS : S i = false) (hr : ∀ e ∈ o.after, Region.binds .any e = true → S e.on = true)
    {x : Operand} (hx : x ∈ o.op.operands) (hok : opdOk gm A0.h x = true) : VR f (evD L t0 V (Bi L i) x) (b.eval x) := by
  have hle := hI.st.le hW0
  cases x with
  | tmp t =>
    have h1 := hI.tm.2 t
    have h2 := (hG.op i o ho).reads _ hx
    unfold readsOk at h2
    unfold evD
    unfold slotV at h1
    show VR f _ (b.tmps.getD t undef)
    dsimp only at h2 ⊢
    cases hw : writer L 0 t with
    | none => rw [hw] at h1; exact h1
    | some j =>
      rw [hw] at h1 h2
      dsimp only at h1 h2 ⊢
      cases hb : Nat.testBit (Bi L i) j with
      | true =>
        have hSj := hI.ahead hG ho hr hb
        rw [if_pos hSj] at h1
        dsimp only
        cases hV : V.get j with
        | none => rw [hV] at h1; exact h1
        | some v => rw [hV] at h1; exact h1
      | false =>
        have hSj : S j = false := by
          cases hSj : S j with
          | false => rfl
          | true =>
            have h2 : (Nat.testBit (Bi L i) j || Nat.testBit (Bi L j) i || Nat.beq i j) = true := h2
            rw [hb, Bool.false_or, Bool.or_eq_true] at h2
            exfalso
            rcases h2 with h2 | h2
            · have hoj := List.getElem?_eq_getElem (hI.sub j hSj)
              have := hI.ahead hG hoj (hI.cl j _ hSj hoj) h2
              rw [hS] at this
              cases this
            · have := beq_t h2
              subst this
              rw [hS] at hSj
              cases hSj
        rw [hSj, if_neg (by decide)] at h1
        exact h1
  | const v => exact noA_refl f 60 v hok
  | global g =>
    cases hb : Nat.blt g gm with
    | false => simp [opdOk, hb] at hok
    | true =>
      cases hg : A0.h.get g with
      | none => simp [opdOk, hb, hg] at hok
      | some o => exact .ptr ⟨⟨g, 0, none⟩, hle _ _ (hW0.gl g o hg (blt_lt hb)), rfl⟩
  | func g => exact .func (.same (by simp)) rfl (fun i v v' h => by simp at h) rfl (fun i v v' h => by simp at h)
theorem Inv.want (hI : Inv P L t0 n ds base gm f0 A0 w0 S q f A w V O b) (hG : RG L n) {ops : Array Oper} (hL : ops.toList = L) {i : Nat} {o : Oper} (ho : L[i]? = some o) (hr : ∀ e ∈ o.after, Region.binds .any e = true → S e.on = true) :
    wantD V o = Region.wanted o (yielded ops b.tmps) := by
  unfold wantD Region.wanted
  cases hg : o.guard with
  | none => rfl
  | some p =>
    obtain ⟨g, want⟩ := p
    dsimp only
    obtain ⟨h1, q, d, h2, h3⟩ := (hG.op i o ho).guard g want hg
    have hSg := hI.ahead hG ho hr h1
    have hq : ops[g]? = some q := by rw [← Array.getElem?_toList, hL]; exact h2
    unfold yielded
    rw [hq]
    dsimp only [Option.bind_some]
    rw [h3]
    dsimp only [Option.bind_some]
    have h4 := hI.tm.2 d
    unfold slotV at h4
    rw [(hG.op g q h2).own d h3] at h4
    dsimp only at h4
    rw [if_pos hSg] at h4
    exact (want1 want h4).symm
/-- Slots, when one more is done. -/
theorem slots_put (hG : RG L n) {i : Nat} {o : Oper} (ho : L[i]? = some o) {S' : Nat → Bool} (hS' : ∀ j, S' j = (S j || decide (j = i))) {V' : HT Value} (hV : ∀ j, S j = true → V'.get j = V.get j) {g : Ren} (hle : f.le g)
    (ht : b.tmps.size = n ∧ ∀ t, VR f (slotV L t0 V S t) (b.tmps.getD t undef)) {u v : Value} (hVi : V'.get i = some u) (hu : VR g u v) :
    (b.put o.dst v).tmps.size = n ∧ ∀ t, VR g (slotV L t0 V' S' t) ((b.put o.dst v).tmps.getD t undef) := by
  have other : ∀ t, (∀ d, o.dst = some d → t ≠ d) → VR g (slotV L t0 V' S' t) (b.tmps.getD t undef) := fun t hne => by
    have h1 := (ht.2 t).mono hle
    unfold slotV at h1 ⊢
    cases hw : writer L 0 t with
    | none => rw [hw] at h1; exact h1
    | some j =>
      rw [hw] at h1
      dsimp only at h1 ⊢
      obtain ⟨_, o2, h2, h3⟩ := writer_dst L 0 t j hw
      have hji : j ≠ i := by
        rintro rfl
        rw [Nat.sub_zero, ho] at h2
        cases h2
        exact hne t h3 rfl
      rw [hS' j, decide_eq_false hji, Bool.or_false]
      cases hSj : S j with
      | true =>
        rw [hSj, if_pos rfl] at h1
        rw [if_pos rfl, hV j hSj]
        exact h1
      | false =>
        rw [hSj] at h1
        exact h1
  cases hd : o.dst with
  | none => exact ⟨ht.1, fun t => other t fun d e => by rw [hd] at e; cases e⟩
  | some d =>
    have hdn := (hG.op i o ho).dst
    unfold dstOk at hdn
    rw [hd] at hdn
    simp only [Bool.and_eq_true] at hdn
    have hdn := blt_lt hdn.1
    refine ⟨by show (b.tmps.setIfInBounds d v).size = n; rw [Array.size_setIfInBounds]; exact ht.1, fun t => ?_⟩
    show VR g _ ((b.tmps.setIfInBounds d v).getD t undef)
    by_cases htd : t = d
    · subst htd
      rw [Array.getD_eq_getD_getElem?, Array.getElem?_setIfInBounds_self_of_lt (by rw [ht.1]; exact hdn)]
      unfold slotV
      rw [(hG.op i o ho).own t hd]
      dsimp only
      rw [hS' i, decide_eq_true rfl, Bool.or_true, if_pos rfl, hVi]
      exact hu
    · rw [Array.getD_eq_getD_getElem?, Array.getElem?_setIfInBounds_ne (fun e => htd e.symm), ← Array.getD_eq_getD_getElem?]
      exact other t fun d' e => by rw [hd] at e; cases e; exact htd
/-- What is laid ahead is put into the memory. -/
theorem insAll_ok (hgb : gm ≤ base) (hW0 : WR base gm f0 A0 w0) {bs es : List Nat} : ∀ (O : List (Nat × AObj)) (A : AS), Step base gm f0 A0 w0 f A w → A0.nx + L.length ≤ A.nx → (∀ i x, (i, x) ∈ O → i < L.length) → (O.map (·.1)).Nodup →
    (∀ i x, (i, x) ∈ O → fst bs i es 0 = q → ∃ l, f (A0.nx + i) = some l ∧ ObR f w x l ∧ w0.heap.size ≤ l.blk ∧ ¬ Im gm f A l.blk) →
    (∀ i x j y l m, (i, x) ∈ O → (j, y) ∈ O → fst bs i es 0 = q → fst bs j es 0 = q → f (A0.nx + i) = some l → f (A0.nx + j) = some m → l.blk = m.blk → i = j) →
    Step base gm f0 A0 w0 f (insAll bs es A0.nx q O A) w ∧ (insAll bs es A0.nx q O A).nx = A.nx ∧ ∀ b, Im gm f (insAll bs es A0.nx q O A) b → Im gm f A b ∨ ∃ i x l, (i, x) ∈ O ∧ fst bs i es 0 = q ∧ f (A0.nx + i) = some l ∧ l.blk = b
  | [], A, hS, hnx, hlt, hnd, h1, h2 => ⟨hS, rfl, fun b h => .inl h⟩
  | (i, x) :: O, A, hS, hnx, hlt, hnd, h1, h2 => by
    rw [List.map_cons, List.nodup_cons] at hnd
    rw [insAll]
    cases hq : Nat.beq (fst bs i es 0) q with
    | false =>
      dsimp only
      obtain ⟨h3, h4, h5⟩ := insAll_ok hgb hW0 O A hS hnx (fun j y h => hlt j y (List.mem_cons_of_mem _ h)) hnd.2 (fun j y h => h1 j y (List.mem_cons_of_mem _ h)) (fun j y k z l m ha hb => h2 j y k z l m (List.mem_cons_of_mem _ ha) (List.mem_cons_of_mem _ hb))
      refine ⟨h3, h4, fun b hb => ?_⟩
      rcases h5 b hb with h | ⟨j, y, l, ha, hb⟩
      · exact .inl h
      · exact .inr ⟨j, y, l, List.mem_cons_of_mem _ ha, hb⟩
    | true =>
      dsimp only
      have hq := beq_t hq
      obtain ⟨l, hf, ho, hlb, hni⟩ := h1 i x (List.mem_cons_self ..) hq
      have hgm := hW0.gm
      have hi := hlt i x (List.mem_cons_self ..)
      have hid : A0.nx + i < A.nx := by omega
      have hnone : A.h.get (A0.nx + i) = none := by
        cases hh : A.h.get (A0.nx + i) with
        | none => rfl
        | some o2 => exact absurd ⟨A0.nx + i, o2, l, by omega, hh, hf, rfl⟩ hni
      have hget : ∀ m, (HT.set 64 A.h (A0.nx + i) (some x)).get m = if m = A0.nx + i then some x else A.h.get m := fun m => HT.get_set 64 A.h _ m _ (Nat.lt_trans (by have := hS.wr.nb; omega : A0.nx + i + 1 < 10000000001) (by decide))
      have him : ∀ b, Im gm f (put A (A0.nx + i) (some x)) b → Im gm f A b ∨ l.blk = b := fun b ⟨k, o2, l2, hgk, hk, hk2, e⟩ => by
        have hk : (HT.set 64 A.h (A0.nx + i) (some x)).get k = some o2 := hk
        rw [hget] at hk
        by_cases hkk : k = A0.nx + i
        · subst hkk
          rw [hf] at hk2
          cases hk2
          exact .inr e
        · rw [if_neg hkk] at hk
          exact .inl ⟨k, o2, l2, hgk, hk, hk2, e⟩
      have hwr : WR base gm f (put A (A0.nx + i) (some x)) w := hS.wr.insert hid hnone hf ho (Nat.le_trans hW0.sz hlb) (by omega) fun k o2 l2 hk hk2 e => by
        by_cases hgk : gm ≤ k
        · exact hni ⟨k, o2, l2, hgk, hk, hk2, e⟩
        · have h3 := hS.wr.gl k o2 hk (by omega)
          rw [hk2] at h3
          cases h3
          have := hW0.sz
          have e : k = l.blk := e
          omega
      have hS' : Step base gm f0 A0 w0 f (put A (A0.nx + i) (some x)) w := ⟨hS.ren, hS.nx, hS.chg, fun b hb => by
        rcases him b hb with h | h
        · exact hS.im b h
        · left; omega, hwr⟩
      obtain ⟨h3, h4, h5⟩ := insAll_ok hgb hW0 O (put A (A0.nx + i) (some x)) hS' hnx (fun j y h => hlt j y (List.mem_cons_of_mem _ h)) hnd.2 (fun j y hj hjq => by
          obtain ⟨l2, ha, hb, hc, hd⟩ := h1 j y (List.mem_cons_of_mem _ hj) hjq
          refine ⟨l2, ha, hb, hc, fun hIm => ?_⟩
          rcases him _ hIm with h | h
          · exact hd h
          · have := h2 i x j y l l2 (List.mem_cons_self ..) (List.mem_cons_of_mem _ hj) hq hjq hf ha h
            subst this
            exact hnd.1 (List.mem_map.2 ⟨(i, y), hj, rfl⟩)) (fun j y k z l m ha hb => h2 j y k z l m (List.mem_cons_of_mem _ ha) (List.mem_cons_of_mem _ hb))
      refine ⟨h3, h4, fun b hb => ?_⟩
      rcases h5 b hb with h | ⟨j, y, l2, ha, hb⟩
      · rcases him b h with h | h
        · exact .inl h
        · exact .inr ⟨i, x, l, List.mem_cons_self .., hq, hf, h⟩
      · exact .inr ⟨j, y, l2, List.mem_cons_of_mem _ ha, hb⟩
end
end Go.Proofs.YtpfmjagbjdkdcaaGreatDoor.Am
