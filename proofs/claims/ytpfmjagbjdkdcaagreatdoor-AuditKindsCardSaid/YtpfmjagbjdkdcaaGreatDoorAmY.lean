/- Regions whose order Go leaves open: what is known of the operations that only read or lay one block. -/
import Derived.Test.YtpfmjagbjdkdcaaGreatDoorAmW
set_option linter.unusedSimpArgs false
set_option linter.unusedVariables false
namespace Go.Proofs.YtpfmjagbjdkdcaaGreatDoor.Am
open Go.Proofs.YtpfmjagbjdkdcaaGreatDoor Go.RowKit

theorem veqL_ok {g : Value → Value → Bool} (hg : ∀ a b, g a b = true → a = b) : ∀ (l m : List Value), veqL g l m = true → l = m
  | [], [], _ => rfl
  | [], _ :: _, h => by cases h
  | _ :: _, [], h => by cases h
  | a :: l, b :: m, h => by
    rw [veqL, Bool.and_eq_true] at h
    rw [hg a b h.1, veqL_ok hg l m h.2]
theorem adEq_ok {a b : Addr} (h : adEq a b = true) : a = b := by
  obtain ⟨b1, o1, s1⟩ := a
  obtain ⟨b2, o2, s2⟩ := b
  unfold adEq at h
  simp only [Bool.and_eq_true] at h
  obtain ⟨⟨h1, h2⟩, h3⟩ := h
  have h1 : b1 = b2 := beq_t h1
  have h2 : o1 = o2 := beq_t h2
  subst h1 h2
  cases s1 <;> cases s2 <;> first | rfl | (cases h3; done) | (have := beq_t h3; subst this; rfl)
theorem veq_ok : ∀ (n : Nat) (x y : Value), veq n x y = true → x = y := by
  intro n
  induction n with
  | zero => intro x y h; cases h
  | succ n ih =>
    intro x y h
    unfold veq at h
    split at h
    · simp only [beq_iff_eq] at h; rw [h]
    · simp only [Bool.and_eq_true, decide_eq_true_eq] at h; rw [h.1, h.2]
    · simp only [decide_eq_true_eq] at h
      rename_i a b
      cases a with
      | mk x => cases b with
        | mk y =>
          have h2 : x.toList = y.toList := h
          rw [Array.ext' h2]
    · rfl
    · rw [adEq_ok h]
    · simp only [Bool.and_eq_true] at h; rw [beq_t h.1, beq_t h.2]
    · simp only [Bool.and_eq_true] at h; rw [adEq_ok h.1.1, beq_t h.1.2, beq_t h.2]
    · rfl
    · rfl
    · rfl
    · rw [beq_t h]
    · simp only [Bool.and_eq_true] at h; rw [beq_t h.1, ih _ _ h.2]
    · rw [Array.ext' (veqL_ok ih _ _ h)]
    · rw [Array.ext' (veqL_ok ih _ _ h)]
    · simp only [Bool.and_eq_true] at h; rw [beq_t h.1.1, Array.ext' (veqL_ok ih _ _ h.1.2), Array.ext' (veqL_ok ih _ _ h.2)]
    · cases h
theorem flt_indep {P : Program} {ρ : Operand → Value} {o : Oper} {id : Nat} (hl : looks o = false) (h h' : HT AObj) : flt P ρ o id h = flt P ρ o id h' := by
  obtain ⟨dst, op, type, pos, after, guard⟩ := o
  cases op <;> first
    | rfl
    | cases hl
section
variable {P : Program} {ops : List Oper} {n : Nat} {t0 : HT Value} {id0 : Nat}
abbrev Bi (ops : List Oper) (i : Nat) : Nat := (befs ops []).getD i 0
abbrev lo (ops : List Oper) (i : Nat) : Nat := cnt (Bi ops i) (effsOf ops 0)
abbrev hi (ops : List Oper) (i : Nat) : Nat := fst (befs ops []) i (effsOf ops 0) 0
theorem evD_set {V : HT Value} {b j : Nat} {u : Value} (hj : j < 1000000) (hb : Nat.testBit b j = false) (x : Operand) : evD ops t0 (HT.set 64 V j (some u)) b x = evD ops t0 V b x := by
  cases x with
  | tmp t =>
    unfold evD
    dsimp only
    cases hw : writer ops 0 t with
    | none => rfl
    | some k =>
      dsimp only
      cases hk : Nat.testBit b k with
      | false => rfl
      | true =>
        dsimp only
        have hne : k ≠ j := fun e => by rw [e, hb] at hk; cases hk
        rw [HT.get_set 64 V j k _ (Nat.lt_trans (by omega : j + 1 < 1000001) (by decide)), if_neg hne]
  | const v => rfl
  | global g => rfl
  | func f => rfl
theorem evD_set' {V : HT Value} {b j : Nat} {u : Value} (hj : j < 1000000) (hb : Nat.testBit b j = false) : evD ops t0 (HT.set 64 V j (some u)) b = evD ops t0 V b := funext (evD_set hj hb)
theorem wantD_set {V : HT Value} {j : Nat} {u : Value} {o : Oper} (hj : j < 1000000) (hg : ∀ g b, o.guard = some (g, b) → g ≠ j) : wantD (HT.set 64 V j (some u)) o = wantD V o := by
  unfold wantD
  cases ho : o.guard with
  | none => rfl
  | some p =>
    obtain ⟨g, b⟩ := p
    dsimp only
    rw [HT.get_set 64 V j g _ (Nat.lt_trans (by omega : j + 1 < 1000001) (by decide)), if_neg (hg g b ho)]
/-- What is known of an operation, run in some memory. -/
def Cnd (P : Program) (ops : List Oper) (t0 : HT Value) (id0 : Nat) (h : HT AObj) (V : HT Value) (O : List (Nat × AObj)) (i : Nat) (o : Oper) : Prop :=
  (wantD V o = true → ∃ v ob, V.get i = some v ∧ flt P (evD ops t0 V (Bi ops i)) o (id0 + i) h = some (v, ob) ∧ ∀ x, (i, x) ∈ O ↔ ob = some x) ∧
  (wantD V o = false → V.get i = some undef ∧ ∀ x, (i, x) ∉ O)
theorem Cnd.set {h : HT AObj} {V : HT Value} {O : List (Nat × AObj)} {i : Nat} {o : Oper} (hG : RG ops n) (ho : ops[i]? = some o) (hc : Cnd P ops t0 id0 h V O i o) {j : Nat} {u : Value} (hj : j < 1000000) (hne : i ≠ j) (hb : Nat.testBit (Bi ops i) j = false) (ob : Option AObj) :
    Cnd P ops t0 id0 h (HT.set 64 V j (some u)) (match ob with | some x => O ++ [(j, x)] | none => O) i o := by
  have hw := wantD_set (V := V) (u := u) (o := o) hj (fun g b hg e => by
    have := ((hG.op i o ho).guard g b hg).1
    rw [e] at this
    have hb' : Nat.testBit ((befs ops []).getD i 0) j = false := hb
    rw [hb'] at this
    cases this)
  have hget : (HT.set 64 V j (some u)).get i = V.get i := by
    rw [HT.get_set 64 V j i _ (Nat.lt_trans (by omega : j + 1 < 1000001) (by decide)), if_neg hne]
  have hO : ∀ x, (i, x) ∈ (match ob with | some x => O ++ [(j, x)] | none => O) ↔ (i, x) ∈ O := fun x => by
    cases ob with
    | none => exact Iff.rfl
    | some y =>
      simp only [List.mem_append, List.mem_singleton, Prod.mk.injEq]
      exact ⟨fun h => h.resolve_right fun h => hne h.1, .inl⟩
  refine ⟨fun h1 => ?_, fun h1 => ?_⟩
  · rw [hw] at h1
    obtain ⟨v, ob2, h2, h3, h4⟩ := hc.1 h1
    exact ⟨v, ob2, by rw [hget]; exact h2, by rw [evD_set' hj hb]; exact h3, fun x => (hO x).trans (h4 x)⟩
  · rw [hw] at h1
    obtain ⟨h2, h3⟩ := hc.2 h1
    exact ⟨by rw [hget]; exact h2, fun x hx => h3 x ((hO x).1 hx)⟩
/-- What is known of all, at some time. -/
structure Gd (P : Program) (ops : List Oper) (t0 : HT Value) (id0 q : Nat) (h : HT AObj) (V : HT Value) (O : List (Nat × AObj)) : Prop where
  ok : ∀ i o, ops[i]? = some o → isFlt o = true → lo ops i ≤ q → q ≤ hi ops i → Cnd P ops t0 id0 h V O i o
  ou : ∀ i x, (i, x) ∈ O → ∃ o, ops[i]? = some o ∧ isFlt o = true ∧ lo ops i ≤ q
  nd : (O.map (·.1)).Nodup
theorem lo_mono (hG : RG ops n) {i j : Nat} {o : Oper} (ho : ops[i]? = some o) (hb : Nat.testBit (Bi ops i) j = true) : lo ops j ≤ lo ops i := by
  have : ∀ (es : List Nat), cnt (Bi ops j) es ≤ cnt (Bi ops i) es := fun es => by
    induction es with
    | nil => exact Nat.le_refl _
    | cons e es ih =>
      rw [cnt, cnt]
      cases h1 : Nat.testBit (Bi ops j) e with
      | true => rw [hG.trans h1 ho hb]; exact Nat.succ_le_succ ih
      | false =>
        dsimp only
        split
        · exact Nat.le_succ_of_le ih
        · exact ih
  exact this _
theorem fpass_ok (hG : RG ops n) (hlen : ops.length < 1000) {q : Nat} {h hp : HT AObj} {V' : HT Value} {O' : List (Nat × AObj)} : ∀ (os : List Oper) (m : Nat) (V : HT Value) (O : List (Nat × AObj)), (∀ j, os[j]? = ops[m + j]?) → m + os.length = ops.length →
    (∀ i o, ops[i]? = some o → isFlt o = true → i < m → lo ops i ≤ q → q ≤ hi ops i → Cnd P ops t0 id0 h V O i o) →
    (∀ i o, ops[i]? = some o → isFlt o = true → m ≤ i → lo ops i < q → q ≤ hi ops i → Cnd P ops t0 id0 hp V O i o) →
    (∀ i x, (i, x) ∈ O → ∃ o, ops[i]? = some o ∧ isFlt o = true ∧ (lo ops i < q ∨ i < m ∧ lo ops i = q)) → (O.map (·.1)).Nodup →
    fpass P ops (befs ops []) (effsOf ops 0) t0 id0 q h os m V O = some (V', O') → Gd P ops t0 id0 q h V' O'
  | [], m, V, O, hos, hml, h1, h2, h5, h6, hr => by
    cases hr
    rw [List.length_nil, Nat.add_zero] at hml
    refine ⟨fun i o ho hf hl hq => h1 i o ho hf (by rw [hml]; exact (List.getElem?_eq_some_iff.1 ho).1) hl hq, fun i x hx => ?_, h6⟩
    obtain ⟨o, h7, h8, h9⟩ := h5 i x hx
    exact ⟨o, h7, h8, by omega⟩
  | o :: os, m, V, O, hos, hml, h1, h2, h5, h6, hr => by
    have ho : ops[m]? = some o := by have := hos 0; rw [Nat.add_zero] at this; exact this.symm
    have hos' : ∀ j, os[j]? = ops[m + 1 + j]? := fun j => by
      have := hos (j + 1)
      rw [show m + 1 + j = m + (j + 1) by omega]
      exact this
    have hml' : m + 1 + os.length = ops.length := by rw [List.length_cons] at hml; omega
    have hm1 : m < 1000000 := by rw [List.length_cons] at hml; omega
    have hself : Nat.testBit (Bi ops m) m = false := by
      cases hb : Nat.testBit (Bi ops m) m with
      | false => rfl
      | true => exact absurd (hG.lt ho hb) (Nat.lt_irrefl _)
    -- nothing turned
    have same : (isFlt o = true → lo ops m ≤ q → q ≤ hi ops m → Cnd P ops t0 id0 h V O m o) → (isFlt o = true → lo ops m ≠ q) → fpass P ops (befs ops []) (effsOf ops 0) t0 id0 q h os (m + 1) V O = some (V', O') → Gd P ops t0 id0 q h V' O' := fun hc hne hr =>
      fpass_ok (hp := hp) hG hlen os (m + 1) V O hos' hml' (fun i x hx hf hi hl hq => by
        by_cases him : i = m
        · subst him
          rw [ho] at hx
          cases hx
          exact hc hf hl hq
        · exact h1 i x hx hf (by omega) hl hq) (fun i x hx hf hi hl hq => h2 i x hx hf (by omega) hl hq) (fun i x hx => by
        obtain ⟨y, h7, h8, h9⟩ := h5 i x hx
        exact ⟨y, h7, h8, by omega⟩) h6 hr
    -- an operation for the first time
    have first : ∀ (u : Value) (ob : Option AObj), lo ops m = q → Cnd P ops t0 id0 h (HT.set 64 V m (some u)) (match ob with | some x => O ++ [(m, x)] | none => O) m o → isFlt o = true →
        fpass P ops (befs ops []) (effsOf ops 0) t0 id0 q h os (m + 1) (HT.set 64 V m (some u)) (match ob with | some x => O ++ [(m, x)] | none => O) = some (V', O') → Gd P ops t0 id0 q h V' O' := fun u ob hlo hc hf hr => by
      refine fpass_ok (hp := hp) hG hlen os (m + 1) _ _ hos' hml' (fun i x hx hfx hi hl hq => ?_) (fun i x hx hfx hi hl hq => ?_) (fun i x hx => ?_) ?_ hr
      · by_cases him : i = m
        · subst him
          rw [ho] at hx
          cases hx
          exact hc
        · refine Cnd.set hG hx (h1 i x hx hfx (by omega) hl hq) hm1 him ?_ ob
          cases hb : Nat.testBit (Bi ops i) m with
          | false => rfl
          | true => have := hG.lt hx hb; omega
      · refine Cnd.set hG hx (h2 i x hx hfx (by omega) hl hq) hm1 (by omega) ?_ ob
        cases hb : Nat.testBit (Bi ops i) m with
        | false => rfl
        | true => have := lo_mono hG hx hb; omega
      · cases ob with
        | none =>
          obtain ⟨y, h7, h8, h9⟩ := h5 i x hx
          exact ⟨y, h7, h8, by omega⟩
        | some z =>
          rcases List.mem_append.1 hx with hx | hx
          · obtain ⟨y, h7, h8, h9⟩ := h5 i x hx
            exact ⟨y, h7, h8, by omega⟩
          · cases List.mem_singleton.1 hx
            exact ⟨o, ho, hf, by omega⟩
      · cases ob with
        | none => exact h6
        | some z =>
          rw [List.map_append, List.nodup_append]
          refine ⟨h6, by simp, fun a ha b hb e => ?_⟩
          simp only [List.map_cons, List.map_nil, List.mem_singleton] at hb
          obtain ⟨p, hp, hpe⟩ := List.mem_map.1 ha
          obtain ⟨y, h7, h8, h9⟩ := h5 p.1 p.2 hp
          rw [hpe, e, hb] at h9
          omega
    have fresh : ∀ x, lo ops m = q → (m, x) ∉ O := fun x hlo hx => by
      obtain ⟨y, h7, h8, h9⟩ := h5 m x hx
      omega
    have hgm : ∀ u : Value, (HT.set 64 V m (some u)).get m = some u := fun u => by rw [HT.get_set 64 V m m _ (Nat.lt_trans (by omega : m + 1 < 1000001) (by decide)), if_pos rfl]
    have hwm : ∀ u : Value, wantD (HT.set 64 V m (some u)) o = wantD V o := fun u => wantD_set hm1 fun g b hg e => by
      have := hG.lt ho ((hG.op m o ho).guard g b hg).1
      omega
    rw [fpass] at hr
    split at hr
    · rename_i hf
      exact same (fun h => by rw [hf] at h; cases h) (fun h => by rw [hf] at h; cases h) hr
    · rename_i hf
      split at hr
      · rename_i hlo
        have hlo : lo ops m = q := beq_t hlo
        split at hr
        · rename_i hw
          split at hr
          · rename_i v hv
            refine first v none hlo ⟨fun _ => ⟨v, none, hgm v, by rw [evD_set' hm1 hself]; exact hv, fun x => ⟨fun hx => absurd hx (fresh x hlo), fun e => by cases e⟩⟩, fun hw2 => ?_⟩ hf hr
            rw [hwm, hw] at hw2
            cases hw2
          · rename_i v ob hv
            refine first v (some ob) hlo ⟨fun _ => ⟨v, some ob, hgm v, by rw [evD_set' hm1 hself]; exact hv, fun x => ⟨fun hx => ?_, fun e => ?_⟩⟩, fun hw2 => ?_⟩ hf hr
            · rcases List.mem_append.1 hx with hx | hx
              · exact absurd hx (fresh x hlo)
              · cases List.mem_singleton.1 hx
                rfl
            · cases e
              exact List.mem_append.2 (.inr (List.mem_singleton.2 rfl))
            · rw [hwm, hw] at hw2
              cases hw2
          · cases hr
        · rename_i hw
          refine first undef none hlo ⟨fun hw2 => ?_, fun _ => ⟨hgm _, fun x => fresh x hlo⟩⟩ hf hr
          rw [hwm, hw] at hw2
          cases hw2
      · rename_i hlo
        have hlo : lo ops m ≠ q := beq_f hlo
        split at hr
        · rename_i hchk
          simp only [Bool.and_eq_true] at hchk
          obtain ⟨⟨⟨hl1, hq1⟩, hlk⟩, hw⟩ := hchk
          split at hr
          · rename_i v u hv hu
            split at hr
            · rename_i hve
              simp only [Bool.and_eq_true] at hve
              obtain rfl := veq_ok _ _ _ hve.1
              refine same (fun _ _ _ => ⟨fun _ => ⟨v, none, hu, hv, fun x => ⟨fun hx => ?_, fun e => by cases e⟩⟩, fun hw2 => by rw [hw] at hw2; cases hw2⟩) (fun _ => hlo) hr
              have := List.all_eq_true.1 hve.2 (m, x) hx
              simp at this
            · cases hr
          · cases hr
        · rename_i hchk
          refine same (fun _ hl hq => ?_) (fun _ => hlo) hr
          have hc := h2 m o ho hf (Nat.le_refl _) (by omega) hq
          have hno : looks o = false ∨ wantD V o = false := by
            cases hk : looks o with
            | false => exact .inl rfl
            | true =>
              right
              cases hwv : wantD V o with
              | false => rfl
              | true =>
                exfalso
                have e1 : Nat.blt (cnt ((befs ops []).getD m 0) (effsOf ops 0)) q = true := Nat.ble_eq_true_of_le (by show lo ops m < q; omega)
                have e2 : Nat.ble q (fst (befs ops []) m (effsOf ops 0) 0) = true := Nat.ble_eq_true_of_le hq
                rw [e1, e2, hk, hwv] at hchk
                cases hchk
          rcases hno with hno | hno
          · refine ⟨fun hw => ?_, hc.2⟩
            obtain ⟨v, ob, h7, h8, h9⟩ := hc.1 hw
            exact ⟨v, ob, h7, by rw [flt_indep hno h hp]; exact h8, h9⟩
          · exact ⟨fun hw => absurd (hno.symm.trans hw) (by decide), hc.2⟩
end
end Go.Proofs.YtpfmjagbjdkdcaaGreatDoor.Am
