/- Regions whose order Go leaves open: what stands ahead of what. -/
import Derived.Test.YtpfmjagbjdkdcaaGreatDoorAmV
set_option linter.unusedSimpArgs false
set_option linter.unusedVariables false
namespace Go.Proofs.YtpfmjagbjdkdcaaGreatDoor.Am
open Go.Proofs.YtpfmjagbjdkdcaaGreatDoor Go.RowKit

/-! ### Sets of bits -/
theorem bit_two (e j : Nat) : Nat.testBit (2 ^ e) j = decide (e = j) := Nat.testBit_two_pow ..
def foldB (acc : List Nat) (l : List Edge) (s : Nat) : Nat := l.foldl (fun s e => match Region.binds .any e with
    | true => s ||| 2 ^ e.on ||| acc.getD e.on 0
    | false => s) s
theorem foldB_bit (acc : List Nat) (j : Nat) : ∀ (l : List Edge) (s : Nat), Nat.testBit (foldB acc l s) j = true ↔ Nat.testBit s j = true ∨ ∃ e ∈ l, Region.binds .any e = true ∧ (e.on = j ∨ Nat.testBit (acc.getD e.on 0) j = true)
  | [], s => by simp [foldB]
  | e :: l, s => by
    have ih := foldB_bit acc j l
    show Nat.testBit (foldB acc l (match Region.binds .any e with | true => s ||| 2 ^ e.on ||| acc.getD e.on 0 | false => s)) j = true ↔ _
    rw [ih]
    cases hb : Region.binds .any e with
    | true =>
      simp only [Nat.testBit_or, bit_two, Bool.or_eq_true, decide_eq_true_eq, List.mem_cons]
      constructor
      · rintro ((h | h) | h)
        · rcases h with h | h
          · exact .inl h
          · exact .inr ⟨e, .inl rfl, hb, .inl h⟩
        · exact .inr ⟨e, .inl rfl, hb, .inr h⟩
        · obtain ⟨x, hx, h⟩ := h
          exact .inr ⟨x, .inr hx, h⟩
      · rintro (h | ⟨x, rfl | hx, h1, h2⟩)
        · exact .inl (.inl (.inl h))
        · rcases h2 with h2 | h2
          · exact .inl (.inl (.inr h2))
          · exact .inl (.inr h2)
        · exact .inr ⟨x, hx, h1, h2⟩
    | false =>
      simp only [List.mem_cons]
      constructor
      · rintro (h | ⟨x, hx, h⟩)
        · exact .inl h
        · exact .inr ⟨x, .inr hx, h⟩
      · rintro (h | ⟨x, rfl | hx, h1, h2⟩)
        · exact .inl h
        · rw [hb] at h1; cases h1
        · exact .inr ⟨x, hx, h1, h2⟩
theorem befs_spec : ∀ (os : List Oper) (acc : List Nat), (∀ i, i < acc.length → (befs os acc).getD i 0 = acc.getD i 0) ∧
    ∀ i o, os[i]? = some o → (∀ e ∈ o.after, Region.binds .any e = true → e.on < acc.length + i) → (befs os acc).getD (acc.length + i) 0 = foldB (befs os acc) o.after.toList 0 := by
  intro os
  induction os with
  | nil => exact fun acc => ⟨fun _ _ => rfl, fun i o h => by simp at h⟩
  | cons o os ih =>
    intro acc
    rw [befs]
    obtain ⟨h1, h2⟩ := ih (acc ++ [foldB acc o.after.toList 0])
    have hsame : ∀ i, i < acc.length → (befs os (acc ++ [foldB acc o.after.toList 0])).getD i 0 = acc.getD i 0 := fun i hi => by
      rw [h1 i (by simp; omega)]
      simp [List.getD_eq_getElem?_getD, List.getElem?_append_left hi]
    refine ⟨hsame, fun i x hx hb => ?_⟩
    cases i with
    | zero =>
      cases hx
      have h3 := h1 acc.length (by simp)
      show (befs os (acc ++ [foldB acc o.after.toList 0])).getD (acc.length + 0) 0 = foldB (befs os (acc ++ [foldB acc o.after.toList 0])) o.after.toList 0
      rw [Nat.add_zero, h3]
      have : (acc ++ [foldB acc o.after.toList 0]).getD acc.length 0 = foldB acc o.after.toList 0 := by simp [List.getD_eq_getElem?_getD]
      rw [this]
      have cong : ∀ (l : List Edge) (s : Nat), (∀ e ∈ l, Region.binds .any e = true → e.on < acc.length) → foldB acc l s = foldB (befs os (acc ++ [foldB acc o.after.toList 0])) l s := by
        intro l
        induction l with
        | nil => exact fun _ _ => rfl
        | cons e l ihl =>
          intro s hl
          show foldB acc l _ = foldB _ l _
          rw [ihl _ fun x hx => hl x (by simp [hx])]
          congr 1
          cases hbe : Region.binds .any e with
          | false => simp only [hbe]
          | true => simp only [hbe, hsame e.on (hl e (by simp) hbe)]
      exact cong _ _ fun e he hbe => by have := hb e (by simpa using he) hbe; omega
    | succ i =>
      have := h2 i x (by simpa using hx) (fun e he hbe => by have := hb e he hbe; simp; omega)
      have hl : (acc ++ [foldB acc o.after.toList 0]).length + i = acc.length + (i + 1) := by simp; omega
      rw [hl] at this
      exact this
section
variable {ops : List Oper} {bs es : List Nat} {n : Nat}
theorem opsOk_at : ∀ (os : List Oper) (i : Nat), opsOk ops bs n os i = true → ∀ j o, os[j]? = some o → opOk ops bs n (i + j) o = true
  | [], _, _, j, o, h => by simp at h
  | x :: os, i, h, j, o, ho => by
    rw [opsOk, Bool.and_eq_true] at h
    cases j with
    | zero => cases ho; exact h.1
    | succ j =>
      have := opsOk_at os (i + 1) h.2 j o (by simpa using ho)
      rw [show i + (j + 1) = i + 1 + j by omega]
      exact this
structure OpG (ops : List Oper) (bs : List Nat) (n i : Nat) (o : Oper) : Prop where
  reads : ∀ x ∈ o.op.operands, readsOk ops bs i x = true
  dst : dstOk n o = true
  own : ∀ d, o.dst = some d → writer ops 0 d = some i
  guard : ∀ g b, o.guard = some (g, b) → Nat.testBit (bs.getD i 0) g = true ∧ ∃ q d, ops[g]? = some q ∧ q.dst = some d
  after : ∀ e ∈ o.after, Region.binds .any e = true → e.on < i
  sel : ∀ cs b, o.op ≠ .select cs b
theorem OpG.of {i : Nat} {o : Oper} (h : opOk ops bs n i o = true) : OpG ops bs n i o := by
  unfold opOk at h
  simp only [Bool.and_eq_true] at h
  obtain ⟨⟨⟨⟨⟨h1, h2⟩, h3⟩, h4⟩, h5⟩, h6⟩ := h
  refine ⟨fun x hx => List.all_eq_true.1 h1 x (by simpa using hx), h2, fun d hd => ?_, fun g b hg => ?_, fun e he hb => ?_, fun cs b e => ?_⟩
  · rw [hd] at h3
    dsimp only at h3
    split at h3
    · rename_i j hj
      rw [hj, beq_t h3]
    · cases h3
  · rw [hg] at h4
    simp only [Bool.and_eq_true] at h4
    refine ⟨h4.1, ?_⟩
    have h4 := h4.2
    split at h4
    · rename_i q hq
      cases hd : q.dst with
      | none => rw [hd] at h4; cases h4
      | some d => exact ⟨q, d, hq, hd⟩
    · cases h4
  · have := List.all_eq_true.1 h5 e (by simpa using he)
    rw [hb] at this
    exact blt_lt this
  · rw [e] at h6
    cases h6
/-- The region's own facts. -/
structure RG (ops : List Oper) (n : Nat) : Prop where
  op : ∀ i o, ops[i]? = some o → OpG ops (befs ops []) n i o
  row : inRow (befs ops []) (effsOf ops 0) = true
theorem RG.bit (h : RG ops n) {i : Nat} {o : Oper} (ho : ops[i]? = some o) (j : Nat) : Nat.testBit ((befs ops []).getD i 0) j = true ↔ ∃ e ∈ o.after, Region.binds .any e = true ∧ (e.on = j ∨ Nat.testBit ((befs ops []).getD e.on 0) j = true) := by
  have := (befs_spec ops []).2 i o ho (fun e he hb => by have := (h.op i o ho).after e he hb; simpa using this)
  rw [List.length_nil, Nat.zero_add] at this
  rw [this, foldB_bit]
  simp
theorem RG.lt (h : RG ops n) : ∀ {i : Nat} {o : Oper}, ops[i]? = some o → ∀ {j : Nat}, Nat.testBit ((befs ops []).getD i 0) j = true → j < i := by
  intro i
  induction i using Nat.strongRecOn with
  | _ i ih =>
    intro o ho j hj
    obtain ⟨e, he, hb, h1⟩ := (h.bit ho j).1 hj
    have hlt := (h.op i o ho).after e he hb
    rcases h1 with h1 | h1
    · omega
    · have hl : e.on < ops.length := by have := (List.getElem?_eq_some_iff.1 ho).1; omega
      have := ih e.on hlt (List.getElem?_eq_getElem hl) h1
      omega
/-- A set that holds with each what it waits for holds all that stands ahead. -/
theorem RG.closed (h : RG ops n) {S : Nat → Prop} (hS : ∀ i o, S i → ops[i]? = some o → ∀ e ∈ o.after, Region.binds .any e = true → S e.on) : ∀ {i : Nat} {o : Oper}, ops[i]? = some o →
    (∀ e ∈ o.after, Region.binds .any e = true → S e.on) → ∀ {j : Nat}, Nat.testBit ((befs ops []).getD i 0) j = true → S j := by
  intro i
  induction i using Nat.strongRecOn with
  | _ i ih =>
    intro o ho hr j hj
    obtain ⟨e, he, hb, h1⟩ := (h.bit ho j).1 hj
    have hlt := (h.op i o ho).after e he hb
    rcases h1 with h1 | h1
    · exact h1 ▸ hr e he hb
    · have hl : e.on < ops.length := by have := (List.getElem?_eq_some_iff.1 ho).1; omega
      have ho2 := List.getElem?_eq_getElem hl
      exact ih e.on hlt ho2 (fun x hx hbx => hS e.on _ (hr e he hb) ho2 x hx hbx) h1
theorem RG.trans (h : RG ops n) {j k : Nat} (h2 : Nat.testBit ((befs ops []).getD j 0) k = true) : ∀ {i : Nat} {o : Oper}, ops[i]? = some o → Nat.testBit ((befs ops []).getD i 0) j = true → Nat.testBit ((befs ops []).getD i 0) k = true := by
  intro i
  induction i using Nat.strongRecOn with
  | _ i ih =>
    intro o ho h1
    obtain ⟨e, he, hb, h3⟩ := (h.bit ho j).1 h1
    have hlt := (h.op i o ho).after e he hb
    refine (h.bit ho k).2 ⟨e, he, hb, .inr ?_⟩
    rcases h3 with h3 | h3
    · rw [h3]; exact h2
    · exact ih e.on hlt (List.getElem?_eq_getElem (by have := (List.getElem?_eq_some_iff.1 ho).1; omega)) h3
/-! ### The writing operations -/
theorem effsOf_mem : ∀ (os : List Oper) (i e : Nat), e ∈ effsOf os i ↔ i ≤ e ∧ ∃ o, os[e - i]? = some o ∧ isFlt o = false
  | [], i, e => by simp [effsOf]
  | o :: os, i, e => by
    rw [effsOf]
    have ih := effsOf_mem os (i + 1) e
    have step : (i ≤ e ∧ ∃ x, (o :: os)[e - i]? = some x ∧ isFlt x = false) ↔ (e = i ∧ isFlt o = false) ∨ (i + 1 ≤ e ∧ ∃ x, os[e - (i + 1)]? = some x ∧ isFlt x = false) := by
      constructor
      · rintro ⟨h1, x, h2, h3⟩
        by_cases he : e = i
        · subst he
          rw [Nat.sub_self] at h2
          cases h2
          exact .inl ⟨rfl, h3⟩
        · rw [show e - i = (e - (i + 1)) + 1 by omega] at h2
          exact .inr ⟨by omega, x, by simpa using h2, h3⟩
      · rintro (⟨rfl, h⟩ | ⟨h1, x, h2, h3⟩)
        · exact ⟨Nat.le_refl _, o, by simp, h⟩
        · exact ⟨by omega, x, by rw [show e - i = (e - (i + 1)) + 1 by omega]; simpa using h2, h3⟩
    split
    · rename_i hf
      rw [ih, step, hf]
      simp
    · rename_i hf
      rw [List.mem_cons, ih, step, hf]
      simp
theorem RG.chain (h : RG ops n) {bs : List Nat} (hbs : bs = befs ops []) : ∀ (es : List Nat), inRow bs es = true → (∀ e ∈ es, ∃ o, ops[e]? = some o) → ∀ (p q x y : Nat), p < q → es[p]? = some x → es[q]? = some y → Nat.testBit (bs.getD y 0) x = true
  | [], _, _, _, _, _, _, _, hx, _ => by simp at hx
  | [e], _, _, p, q, x, y, hpq, hx, hy => by
    have := (List.getElem?_eq_some_iff.1 hy).1
    simp at this
    omega
  | e :: f :: es, hr, hm, p, q, x, y, hpq, hx, hy => by
    rw [inRow, Bool.and_eq_true] at hr
    cases q with
    | zero => omega
    | succ q =>
      have hy' : (f :: es)[q]? = some y := by simpa using hy
      cases p with
      | succ p => exact RG.chain h hbs (f :: es) hr.2 (fun e he => hm e (by simp [he])) p q x y (by omega) (by simpa using hx) hy'
      | zero =>
        cases hx
        cases q with
        | zero => cases hy'; exact hr.1
        | succ q =>
          have h1 := RG.chain h hbs (f :: es) hr.2 (fun e he => hm e (by simp [he])) 0 (q + 1) f y (by omega) rfl hy'
          obtain ⟨o, ho⟩ := hm y (by
            have := List.mem_of_getElem? hy'
            exact List.mem_cons_of_mem _ this)
          subst hbs
          exact h.trans hr.1 ho h1
theorem RG.chain' (h : RG ops n) {p q x y : Nat} (hpq : p < q) (hx : (effsOf ops 0)[p]? = some x) (hy : (effsOf ops 0)[q]? = some y) : Nat.testBit ((befs ops []).getD y 0) x = true :=
  h.chain rfl _ h.row (fun e he => by
    obtain ⟨_, o, h1, _⟩ := (effsOf_mem ops 0 e).1 he
    exact ⟨o, by simpa using h1⟩) p q x y hpq hx hy
/-- How many of the writing operations stand ahead, and which is the first that wants one. -/
theorem cnt_le : ∀ (b : Nat) (es : List Nat) (q : Nat), (∀ p e, es[p]? = some e → Nat.testBit b e = true → p < q) → cnt b es ≤ q
  | _, [], _, _ => Nat.zero_le _
  | b, e :: es, q, h => by
    rw [cnt]
    split
    · rename_i hb
      have h0 := h 0 e rfl hb
      have := cnt_le b es (q - 1) fun p x hx hbx => by have := h (p + 1) x (by simpa using hx) hbx; omega
      omega
    · exact cnt_le b es q fun p x hx hbx => by have := h (p + 1) x (by simpa using hx) hbx; omega
theorem cnt_ge : ∀ (b : Nat) (es : List Nat) (q : Nat), q ≤ es.length → (∀ p e, p < q → es[p]? = some e → Nat.testBit b e = true) → q ≤ cnt b es
  | _, [], q, hl, _ => by
    have : q = 0 := by simpa using hl
    omega
  | b, e :: es, 0, _, _ => Nat.zero_le _
  | b, e :: es, q + 1, hl, h => by
    rw [cnt, h 0 e (by omega) rfl]
    exact Nat.succ_le_succ (cnt_ge b es q (by simpa using hl) fun p x hp hx => h (p + 1) x (by omega) (by simpa using hx))
theorem fst_spec {bs : List Nat} {i : Nat} : ∀ (es : List Nat) (j : Nat), j ≤ fst bs i es j ∧ fst bs i es j ≤ j + es.length ∧ (∀ p e, es[p]? = some e → j + p < fst bs i es j → Nat.testBit (bs.getD e 0) i = false) ∧
    (∀ e, es[fst bs i es j - j]? = some e → Nat.testBit (bs.getD e 0) i = true)
  | [], j => ⟨Nat.le_refl _, by simp [fst], fun p e h => by simp at h, fun e h => by simp at h⟩
  | x :: es, j => by
    rw [fst]
    split
    · rename_i hb
      refine ⟨Nat.le_refl _, by omega, fun p e _ h => by omega, fun e he => ?_⟩
      rw [Nat.sub_self] at he
      cases he
      exact hb
    · rename_i hb
      obtain ⟨h1, h2, h3, h4⟩ := fst_spec (bs := bs) (i := i) es (j + 1)
      refine ⟨by omega, by rw [List.length_cons]; omega, fun p e he hp => ?_, fun e he => ?_⟩
      · cases p with
        | zero => cases he; exact hb
        | succ p => exact h3 p e (by simpa using he) (by omega)
      · rw [show fst bs i es (j + 1) - j = (fst bs i es (j + 1) - (j + 1)) + 1 by omega] at he
        exact h4 e (by simpa using he)
end
end Go.Proofs.YtpfmjagbjdkdcaaGreatDoor.Am
