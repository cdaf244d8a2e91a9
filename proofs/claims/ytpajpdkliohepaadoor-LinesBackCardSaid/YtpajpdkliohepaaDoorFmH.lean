/- Which events a line tells of, plainly. -/
import Derived.Test.YtpajpdkliohepaaDoorFmG
namespace Go.Proofs.YtpajpdkliohepaaDoor
open Go.RowKit

def flds (fs : List Fd) : List UInt8 := fs.flatMap fieldL
/-- No name holds the sign of equality. -/
def okN (fs : List Fd) : Prop := ∀ f ∈ fs, 61 ∉ f.1
theorem flds_cons (f : Fd) (fs : List Fd) : flds (f :: fs) = fieldL f ++ flds fs := by unfold flds; rw [List.flatMap_cons]
theorem field_inj {f g : Fd} {r r' : List UInt8} (h : fieldL f ++ r = fieldL g ++ r') (hf : 61 ∉ f.1) (hg : 61 ∉ g.1) : f = g ∧ r = r' := by
  obtain ⟨a, b⟩ := f
  obtain ⟨a', b'⟩ := g
  rw [field_app, field_app] at h
  injection h with _ h
  obtain ⟨rfl, h2⟩ := split_uniq h hf hg
  obtain ⟨rfl, rfl⟩ := quote_inj h2
  exact ⟨rfl, rfl⟩
/-- What has been read of a line's fields and what is left fit every way in which they are fields. -/
def FitsE (l0 : List UInt8) (read : List Fd) (l : List UInt8) : Prop := ∀ fs, okN fs → l0 = flds fs → ∃ more, okN more ∧ fs = read ++ more ∧ l = flds more
theorem FitsE.start (l0 : List UInt8) : FitsE l0 [] l0 := fun fs h he => ⟨fs, h, rfl, he⟩
theorem FitsE.step {l0 l r : List UInt8} {read : List Fd} {f : Fd} (h : FitsE l0 read l) (hl : l = fieldL f ++ r) (hf : 61 ∉ f.1) : FitsE l0 (read ++ [f]) r := fun fs hok he => by
  obtain ⟨more, h1, h2, h3⟩ := h fs hok he
  cases more with
  | nil =>
    rw [hl] at h3
    obtain ⟨a, b⟩ := f
    rw [field_app] at h3
    cases h3
  | cons g more =>
    rw [flds_cons, hl] at h3
    obtain ⟨rfl, rfl⟩ := field_inj h3 hf (h1 g (by simp))
    exact ⟨more, fun x hx => h1 x (by simp [hx]), by rw [h2]; simp, rfl⟩
theorem FitsE.bad {l0 l : List UInt8} {read : List Fd} (h : FitsE l0 read l) (hne : l ≠ []) (hno : ∀ nm tx r, 61 ∉ nm → l ≠ fieldL (nm, tx) ++ r) (fs : List Fd) (hok : okN fs) : l0 ≠ flds fs := fun he => by
  obtain ⟨more, h1, h2, h3⟩ := h fs hok he
  cases more with
  | nil => exact hne h3
  | cons g more =>
    rw [flds_cons] at h3
    exact hno g.1 g.2 _ (h1 g (by simp)) h3
theorem FitsE.done {l0 : List UInt8} {read : List Fd} (h : FitsE l0 read []) {fs : List Fd} (hok : okN fs) (he : l0 = flds fs) : fs = read := by
  obtain ⟨more, h1, h2, h3⟩ := h fs hok he
  cases more with
  | nil => rw [h2, List.append_nil]
  | cons g more =>
    obtain ⟨a, b⟩ := g
    rw [flds_cons, field_app] at h3
    cases h3
theorem nameL_61 {s : List UInt8} (h : nameL s = true) : 61 ∉ s := fun hm => by
  unfold nameL at h
  rw [Bool.and_eq_true, List.all_eq_true] at h
  exact absurd (h.1 61 hm) (by decide)
theorem checkF_okN : ∀ {fs : List Fd}, checkF fs = 0 → okN fs
  | [], _ => nofun
  | f :: fs, h => by
    unfold checkF at h
    split at h
    · cases h
    · rename_i hn
      split at h
      · cases h
      · intro g hg
        rcases List.mem_cons.1 hg with rfl | hg
        · exact nameL_61 (by simpa using hn)
        · exact checkF_okN h g hg
theorem checkE_okN {fs : List Fd} (h : checkE fs = 0) : okN fs := by
  unfold checkE at h
  split at h
  · cases h
  · exact checkF_okN h
theorem dig_32 {c : UInt8} (h : isDig c = true) : c ≠ 32 := fun hc => by rw [hc] at h; exact absurd h (by decide)
theorem itoa_32 (n : Int) : 32 ∉ Lib.itoa n := fun h => by
  unfold Lib.itoa at h
  split at h
  · rcases List.mem_cons.1 h with h | h
    · exact absurd h (by decide)
    · exact dig_32 (dec_dig _ _ h) rfl
  · exact dig_32 (dec_dig _ _ h) rfl
theorem flds_head (fs : List Fd) : flds fs = [] ∨ ∃ t, flds fs = 32 :: t := by
  cases fs with
  | nil => exact .inl rfl
  | cons f fs =>
    obtain ⟨a, b⟩ := f
    exact .inr ⟨_, by rw [flds_cons, field_app]⟩
theorem fmtL_eq (at_ : Int) (fs : List Fd) : fmtL at_ fs = Lib.itoa at_ ++ flds fs := rfl
/-- A head without a blank, and fields behind it: in one way only. -/
theorem head_uniq {a b : List UInt8} {fs gs : List Fd} (h : a ++ flds fs = b ++ flds gs) (ha : 32 ∉ a) (hb : 32 ∉ b) : a = b ∧ flds fs = flds gs := by
  rcases flds_head fs with h1 | ⟨t, h1⟩ <;> rcases flds_head gs with h2 | ⟨u, h2⟩
  · rw [h1, h2, List.append_nil, List.append_nil] at h
    exact ⟨h, by rw [h1, h2]⟩
  · rw [h1, h2, List.append_nil] at h
    exact absurd (by rw [h]; simp) ha
  · rw [h1, h2, List.append_nil] at h
    exact absurd (by rw [← h]; simp) hb
  · rw [h1, h2] at h
    obtain ⟨rfl, rfl⟩ := split_uniq h ha hb
    exact ⟨rfl, by rw [h1, h2]⟩
theorem itoa_inj {a b : Int} (h : Lib.itoa a = Lib.itoa b) : a = b := by
  have h45 : ∀ u r, (45 : UInt8) :: r ≠ Lib.decDigits u := fun u r he => absurd (dec_dig u 45 (by rw [← he]; simp)) (by decide)
  unfold Lib.itoa at h
  by_cases ha : a < 0
  · rw [if_pos ha] at h
    by_cases hb : b < 0
    · rw [if_pos hb] at h
      injection h with _ h
      have := congrArg digV h
      rw [digV_dec, digV_dec] at this
      omega
    · rw [if_neg hb] at h
      exact absurd h (h45 _ _)
  · rw [if_neg ha] at h
    by_cases hb : b < 0
    · rw [if_pos hb] at h
      exact absurd h.symm (h45 _ _)
    · rw [if_neg hb] at h
      have := congrArg digV h
      rw [digV_dec, digV_dec] at this
      omega
/-- A line tells of one event at most. -/
theorem fmtL_inj {a b : Int} {fs gs : List Fd} (h : fmtL a fs = fmtL b gs) (hf : okN fs) (hg : okN gs) : a = b ∧ fs = gs := by
  rw [fmtL_eq, fmtL_eq] at h
  obtain ⟨h1, h2⟩ := head_uniq h (itoa_32 a) (itoa_32 b)
  refine ⟨itoa_inj h1, ?_⟩
  clear h h1
  induction fs generalizing gs with
  | nil =>
    cases gs with
    | nil => rfl
    | cons g gs =>
      obtain ⟨c, d⟩ := g
      rw [flds_cons, field_app] at h2
      cases h2
  | cons f fs ih =>
    cases gs with
    | nil =>
      obtain ⟨c, d⟩ := f
      rw [flds_cons, field_app] at h2
      cases h2
    | cons g gs =>
      rw [flds_cons, flds_cons] at h2
      obtain ⟨rfl, h3⟩ := field_inj h2 (hf f (by simp)) (hg g (by simp))
      rw [ih (fun x hx => hf x (by simp [hx])) (fun x hx => hg x (by simp [hx])) h3]
end Go.Proofs.YtpajpdkliohepaaDoor
