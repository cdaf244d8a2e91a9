/- WalBack, plainly: which bytes the logs' files hold, what a part of them tells, what is replayed behind a restart. -/
import Derived.Test.YtohphanbnhiodaaM12
import Derived.Test.YtohphanbnhiodaaM09
set_option linter.unusedSimpArgs false
set_option linter.unusedVariables false
namespace Go.Proofs.Ytohphanbnhiodaa
open Go.RowKit Go.Maps

/-- The bytes of batches, one frame behind the other. -/
def frL : List Bt → List UInt8
  | [] => []
  | b :: l => frameL (encB b) ++ frL l
theorem frL_app : ∀ a b : List Bt, frL (a ++ b) = frL a ++ frL b
  | [], b => rfl
  | x :: a, b => by
    show frameL (encB x) ++ frL (a ++ b) = (frameL (encB x) ++ frL a) ++ frL b
    rw [frL_app a b, List.append_assoc]
theorem frL_one (b : Bt) : frL [b] = frameL (encB b) := List.append_nil _
theorem frL_take_le : ∀ (l : List Bt) (s : Nat), (frL (l.take s)).length ≤ (frL l).length := fun l s => by
  have := congrArg List.length (frL_app (l.take s) (l.drop s))
  rw [List.take_append_drop, List.length_append] at this
  omega
/-- Batches that are ones. -/
def GoodB (b : Bt) : Prop := checkB b = 0 ∧ ∀ e ∈ b.es, I64ok' e.at_
/-- Batches that follow one another from nx on. -/
def Foll : Int → List Bt → Prop
  | _, [] => True
  | nx, b :: l => b.seq = nx ∧ Foll (nx + b.es.length) l
def nextB : Int → List Bt → Int
  | nx, [] => nx
  | nx, b :: l => nextB (nx + b.es.length) l
theorem nextB_app : ∀ (a b : List Bt) (nx : Int), nextB nx (a ++ b) = nextB (nextB nx a) b
  | [], _, _ => rfl
  | _ :: a, b, _ => nextB_app a b _
theorem Foll.app : ∀ {a b : List Bt} {nx : Int}, Foll nx (a ++ b) ↔ Foll nx a ∧ Foll (nextB nx a) b
  | [], b, nx => by simp [Foll, nextB]
  | x :: a, b, nx => by
    show (x.seq = nx ∧ Foll (nx + x.es.length) (a ++ b)) ↔ ((x.seq = nx ∧ Foll (nx + x.es.length) a) ∧ Foll (nextB (nx + x.es.length) a) b)
    rw [Foll.app, and_assoc]
theorem takeB_foll : ∀ (l : List Bt) (nx : Int), Foll nx l → takeB true nx l = (true, nextB nx l, l)
  | [], _, _ => rfl
  | x :: l, nx, h => by
    obtain ⟨h1, h2⟩ := h
    rw [takeB, if_pos ⟨rfl, h1⟩, h1, takeB_foll l _ h2]
    rfl
theorem Foll.take {l : List Bt} {nx : Int} (h : Foll nx l) (m : Nat) : Foll nx (l.take m) := (Foll.app.1 (by rw [List.take_append_drop]; exact h)).1
/-- A frame that is not whole is none. -/
theorem getF_part {p : List UInt8} (h : p.length ≤ 16777216) {j : Nat} (hj : j < (frameL p).length) : ∃ e, getF ((frameL p).take j) = .error e := by
  cases hg : getF ((frameL p).take j) with
  | error e => exact ⟨e, rfl⟩
  | ok pr =>
    obtain ⟨p', r'⟩ := pr
    obtain ⟨f, hf, _, hq⟩ := getF_other hg (r' ++ (frameL p).drop j)
    rw [← List.append_assoc, ← hf, List.take_append_drop] at hq
    have h2 := getF_put h []
    rw [List.append_nil, hq] at h2
    injection h2 with h2
    injection h2 with _ h2
    have h3 := congrArg List.length (List.append_eq_nil_iff.1 h2).2
    rw [List.length_drop] at h3
    simp at h3
    omega
/-- A part of the bytes of batches tells a beginning of them, all that are whole. -/
theorem scan_cut : ∀ (l : List Bt) (k : Nat) (nx : Option Int) (n0 : Int) (j : Nat), (∀ b ∈ l, GoodB b) → Foll n0 l → (nx = none ∨ nx = some n0) → ((frL l).take j).length ≤ k →
    ∃ m, (scanM k nx ((frL l).take j)).1 = l.take m ∧ m ≤ l.length ∧ ∀ s, s ≤ l.length → (frL (l.take s)).length ≤ j → s ≤ m
  | [], k, nx, n0, j, _, _, _, _ => ⟨0, by rw [show frL [] = [] from rfl, List.take_nil, scan_nil]; rfl, Nat.le_refl _, fun s hs _ => hs⟩
  | b :: l, k, nx, n0, j, hg, hf, hn, hk => by
    obtain ⟨hb1, hb2⟩ := hg b (List.mem_cons_self ..)
    obtain ⟨hf1, hf2⟩ := hf
    have hp := frameL_pos (encB b)
    have hl := encB_len hb1 hb2
    have hs : okN nx b.seq := by
      rcases hn with rfl | rfl
      · exact trivial
      · exact hf1
    have e0 : frL (b :: l) = frameL (encB b) ++ frL l := rfl
    obtain ⟨z, hz⟩ : ∃ z, z = (frameL (encB b)).length := ⟨_, rfl⟩
    by_cases hj : j < z
    · rw [e0, List.take_append_of_le_length (by omega)] at hk ⊢
      refine ⟨0, ?_, Nat.zero_le _, fun s hs hle => ?_⟩
      · obtain ⟨e, he⟩ := getF_part (p := encB b) (by omega) (j := j) (by omega)
        cases k with
        | zero => unfold scanM; rfl
        | succ k =>
          rw [scanM]
          split
          · rfl
          · rw [he]
            rfl
      · cases s with
        | zero => exact Nat.le_refl _
        | succ s =>
          rw [List.take_succ_cons, show frL (b :: l.take s) = frameL (encB b) ++ frL (l.take s) from rfl, List.length_append] at hle
          omega
    · have e1 : (frL (b :: l)).take j = frameL (encB b) ++ (frL l).take (j - z) := by
        rw [e0, List.take_append, List.take_of_length_le (by omega), hz]
      rw [e1, List.length_append] at hk
      rw [e1]
      obtain ⟨k', rfl⟩ : ∃ k', k = k' + 1 := ⟨k - 1, by omega⟩
      obtain ⟨m, hm1, hm2, hm3⟩ := scan_cut l k' (some (b.seq + b.es.length)) (n0 + b.es.length) (j - z) (fun x hx => hg x (List.mem_cons_of_mem _ hx)) hf2 (.inr (by rw [hf1])) (by omega)
      rw [scan_front hb1 hb2 hs]
      simp only
      refine ⟨m + 1, by rw [hm1]; rfl, by rw [List.length_cons]; omega, fun s hs hle => ?_⟩
      cases s with
      | zero => omega
      | succ s =>
        rw [List.take_succ_cons, show frL (b :: l.take s) = frameL (encB b) ++ frL (l.take s) from rfl, List.length_append] at hle
        rw [List.length_cons] at hs
        have := hm3 s (by omega) (by omega)
        omega
theorem scan_whole {l : List Bt} {n0 : Int} (hg : ∀ b ∈ l, GoodB b) (hf : Foll n0 l) : (scanM (frL l).length none (frL l)).1 = l := by
  obtain ⟨m, h1, h2, h3⟩ := scan_cut l (frL l).length none n0 (frL l).length hg hf (.inl rfl) (by rw [List.length_take]; omega)
  rw [List.take_length] at h1
  rw [h1, List.take_of_length_le (h3 l.length (Nat.le_refl _) (by rw [List.take_length]; exact Nat.le_refl _))]
/-- Names of greater numbers are greater. -/
theorem digs_lt : ∀ (k m n : Nat), m % 10 ^ k < n % 10 ^ k → digs k m < digs k n
  | 0, m, n, h => by rw [Nat.pow_zero, Nat.mod_one, Nat.mod_one] at h; omega
  | k + 1, m, n, h => by
    rw [Nat.pow_succ, Nat.mod_mul, Nat.mod_mul] at h
    have h1 : m / 10 ^ k % 10 < 10 := Nat.mod_lt _ (by omega)
    have h2 : n / 10 ^ k % 10 < 10 := Nat.mod_lt _ (by omega)
    have h3 : m % 10 ^ k < 10 ^ k := Nat.mod_lt _ (Nat.pow_pos (by omega))
    have h4 : n % 10 ^ k < 10 ^ k := Nat.mod_lt _ (Nat.pow_pos (by omega))
    rw [digs, digs, List.cons_lt_cons_iff]
    obtain ⟨a, ha⟩ : ∃ a, a = m / 10 ^ k % 10 := ⟨_, rfl⟩
    obtain ⟨b, hb⟩ : ∃ b, b = n / 10 ^ k % 10 := ⟨_, rfl⟩
    rw [← ha, ← hb] at h
    rw [← ha] at h1
    rw [← hb] at h2
    rw [← ha, ← hb]
    rcases Nat.lt_trichotomy a b with hab | hab | hab
    · left
      rw [UInt8.lt_iff_toNat_lt, UInt8.toNat_ofNat', UInt8.toNat_ofNat']
      omega
    · right
      subst hab
      exact ⟨rfl, digs_lt k m n (by omega)⟩
    · exfalso
      have := Nat.mul_le_mul_left (10 ^ k) (show b + 1 ≤ a from hab)
      rw [Nat.mul_add, Nat.mul_one] at this
      omega
theorem nameW_lt {m n : Nat} (h : m < n) (hn : n ≤ 99999999) : nameW m < nameW n := by
  have h1 : digs 8 m < digs 8 n := digs_lt 8 m n (by rw [Nat.mod_eq_of_lt (by omega), Nat.mod_eq_of_lt (by omega)]; exact h)
  unfold nameW preW
  simp only [List.cons_append, List.nil_append, List.cons_lt_cons_iff]
  simp [h1]
theorem okb_digit : ∀ d : Fin 10, okb (UInt8.ofNat (48 + d.val)) = true := by decide +kernel
theorem digs_ok : ∀ (k n : Nat), (digs k n).all okb = true
  | 0, _ => rfl
  | k + 1, n => by
    rw [digs, List.all_cons, digs_ok k n, okb_digit ⟨n / 10 ^ k % 10, Nat.mod_lt _ (by omega)⟩]
    rfl
theorem named_nameW (n : Nat) : namedM (nameW n) = true := by
  have h1 : preW.all okb = true := by decide +kernel
  unfold namedM
  rw [nameW_len]
  unfold nameW
  rw [List.all_append, h1, digs_ok]
  rfl
end Go.Proofs.Ytohphanbnhiodaa

/- WalBack, plainly: the disk that logs are written to, batch by batch. -/
namespace Go.Proofs.Ytohphanbnhiodaa
open Go.RowKit Go.Maps

theorem withG_end {b b' : List UInt8} {d d' : Nat} {nm : List UInt8} {L : List PF} (h : ∀ x ∈ L, fname x < nm) : withG fname (nm, b, d) (L ++ [(nm, b', d')]) = L ++ [(nm, b, d)] ∧ withG fname (nm, b, d) L = L ++ [(nm, b, d)] := by
  have hne : ∀ x ∈ L, fname x ≠ nm := fun x hx e => by
    have := h x hx
    rw [e] at this
    exact List.lt_irrefl _ this
  have h1 : withoutG fname nm (L ++ [(nm, b', d')]) = L := by
    have := without_no hne
    unfold withoutG at this ⊢
    rw [List.filter_append, this]
    simp [fname]
  have h2 : ∀ M : List PF, (∀ x ∈ M, fname x < nm) → insG fname (nm, b, d) M = M ++ [(nm, b, d)] := fun M => by
    induction M with
    | nil => intro _; rfl
    | cons y ys ih =>
      intro hM
      have hy := hM y (List.mem_cons_self ..)
      unfold insG
      rw [if_neg (show ¬ (decide (fname (nm, b, d) < fname y) = true) from fun hd => List.lt_irrefl _ (List.lt_trans hy (of_decide_eq_true hd))), ih fun x hx => hM x (List.mem_cons_of_mem _ hx)]
      rfl
  refine ⟨?_, ?_⟩
  · unfold withG
    show insG fname (nm, b, d) (withoutG fname nm (L ++ [(nm, b', d')])) = _
    rw [h1, h2 L h]
  · unfold withG
    show insG fname (nm, b, d) (withoutG fname nm L) = _
    rw [without_no hne, h2 L h]
/-- A log that is done: all of it is durable. -/
def filF (x : Nat × List Bt) : PF := (nameW x.1, frL x.2, (frL x.2).length)
/-- The log that is written to: d of its bytes are durable. -/
def curF (n : Nat) (cur : List Bt) (d : Nat) : List PF := if cur = [] then [] else [(nameW n, frL cur, d)]
def logP (fs : List (Nat × List Bt)) (n : Nat) (cur : List Bt) (s : Nat) : PD := ⟨fs.map filF ++ curF n cur (frL (cur.take s)).length, 0, 0, false⟩
def allB (fs : List (Nat × List Bt)) (cur : List Bt) : List Bt := fs.flatMap (·.2) ++ cur
structure Logged (fs : List (Nat × List Bt)) (n : Nat) (cur : List Bt) (s : Nat) : Prop where
  up : fs.Pairwise fun a b => a.1 < b.1
  low : ∀ x ∈ fs, x.1 < n
  top : n ≤ 99999999
  few : fs.length ≤ 1000
  sync : s ≤ cur.length
  size : ∀ x ∈ fs, (frL x.2).length ≤ 67108864
  sizec : (frL cur).length ≤ 67108864
  good : ∀ b ∈ allB fs cur, GoodB b
  foll : Foll 1 (allB fs cur)
section
variable {fs : List (Nat × List Bt)} {n s : Nat} {cur : List Bt} (h : Logged fs n cur s)
include h
theorem Logged.less : ∀ x ∈ fs.map filF, fname x < nameW n := fun x hx => by
  obtain ⟨y, hy, rfl⟩ := List.mem_map.1 hx
  exact nameW_lt (h.low y hy) h.top
theorem Logged.find_not (hc : cur = []) : (logP fs n cur s).find (nameW n) = none := by
  refine find_no fun f hf => ?_
  unfold logP curF at hf
  rw [if_pos hc, List.append_nil] at hf
  intro e
  have := h.less f hf
  rw [show fname f = nameW n from e] at this
  exact List.lt_irrefl _ this
theorem Logged.upL : Up fname (logP fs n cur s).L := by
  unfold Up logP
  rw [List.pairwise_append]
  refine ⟨?_, ?_, fun a ha b hb => ?_⟩
  · rw [List.pairwise_map]
    refine h.up.imp_of_mem fun {a b} _ hb hab => ?_
    exact nameW_lt hab (by have := h.low b hb; have := h.top; omega)
  · unfold curF
    split <;> simp
  · unfold curF at hb
    split at hb
    · cases hb
    · rw [List.mem_singleton.1 hb]
      exact h.less a ha
theorem Logged.find_cur (hc : cur ≠ []) : (logP fs n cur s).find (nameW n) = some (nameW n, frL cur, (frL (cur.take s)).length) := by
  have := find_of (P := logP fs n cur s) h.upL (f := (nameW n, frL cur, (frL (cur.take s)).length)) (by
    unfold logP curF
    rw [if_neg hc]
    exact List.mem_append_right _ (List.mem_singleton.2 rfl))
  exact this
theorem Logged.append {b : Bt} (hb : GoodB b) (hl : (frL cur).length + (frameL (encB b)).length ≤ 67108864) : appendM (logP fs n cur s) (nameW n) (frameL (encB b)) = (logP fs n (cur ++ [b]) s, 0) := by
  have hfull : ∀ k, fullM (logP fs n cur s) k = false := fun k => by unfold fullM logP; rfl
  have hst : (logP fs n cur s).stopped = false := rfl
  have har : ¬ (logP fs n cur s).armed = 1 := by show ¬ (0 = 1); omega
  have hs := h.sync
  have hsz : (frL ((cur ++ [b]).take s)).length = (frL (cur.take s)).length := by rw [List.take_append_of_le_length hs]
  have hgo : ∀ L, (logP fs n cur s).goes L = ⟨L, 0, 0, false⟩ := fun L => rfl
  unfold appendM
  rw [if_pos (named_nameW n), if_neg (by rw [hst]; simp)]
  by_cases hc : cur = []
  · rw [h.find_not hc]
    simp only
    rw [if_neg (by unfold logP curF; rw [if_pos hc, List.append_nil, List.length_map]; have := h.few; show ¬ (1024 ≤ fs.length); omega)]
    unfold putM
    simp only [List.length_nil, List.nil_append]
    rw [if_neg (by omega), if_neg (by rw [hfull]; simp), if_neg har, hgo]
    congr 1
    have e1 : (logP fs n cur s).L = fs.map filF := by unfold logP curF; rw [if_pos hc, List.append_nil]
    rw [e1, (withG_end (b' := []) (d' := 0) h.less).2]
    unfold logP curF
    rw [if_neg (by simp), hsz, hc, List.nil_append, frL_one, List.take_nil]
    rfl
  · rw [h.find_cur hc]
    simp only
    unfold putM
    simp only
    rw [if_neg (by omega), if_neg (by rw [hfull]; simp), if_neg har, hgo]
    congr 1
    have e1 : (logP fs n cur s).L = fs.map filF ++ [(nameW n, frL cur, (frL (cur.take s)).length)] := by unfold logP curF; rw [if_neg hc]
    rw [e1, (withG_end h.less).1]
    unfold logP curF
    rw [if_neg (by simp), hsz, frL_app, frL_one]
theorem Logged.sync_none (hc : cur = []) : syncM (logP fs n cur s) (nameW n) = (logP fs n cur s, 61) := by
  unfold syncM writesM
  rw [if_pos (by simp [named_nameW]), if_neg (by show ¬ (false = true); simp), h.find_not hc]
theorem Logged.sync_some (hc : cur ≠ []) : syncM (logP fs n cur s) (nameW n) = (logP fs n cur cur.length, 0) := by
  unfold syncM writesM
  rw [if_pos (by simp [named_nameW]), if_neg (by show ¬ (false = true); simp), h.find_cur hc]
  simp only
  rw [if_neg (by show ¬ (0 = 1); omega)]
  congr 1
  have e1 : (logP fs n cur s).L = fs.map filF ++ [(nameW n, frL cur, (frL (cur.take s)).length)] := by unfold logP curF; rw [if_neg hc]
  rw [e1, (withG_end h.less).1]
  unfold logP curF
  rw [if_neg hc, if_neg hc, List.take_length]
  rfl
theorem Logged.synced : Logged fs n cur cur.length := { h with sync := Nat.le_refl _ }
end
theorem syncs_none {fs : List (Nat × List Bt)} {n s : Nat} {cur : List Bt} (hc : cur = []) : logP fs n cur s = logP fs n cur cur.length := by
  subst hc
  unfold logP
  rw [List.take_nil, List.take_nil]
/-- The next log. -/
def doneL (fs : List (Nat × List Bt)) (n : Nat) (cur : List Bt) : List (Nat × List Bt) := if cur = [] then fs else fs ++ [(n, cur)]
theorem logP_next (fs : List (Nat × List Bt)) (n n' : Nat) (cur : List Bt) : logP fs n cur cur.length = logP (doneL fs n cur) n' [] 0 := by
  unfold logP doneL
  by_cases hc : cur = []
  · rw [if_pos hc]
    unfold curF
    rw [if_pos hc, if_pos rfl]
  · rw [if_neg hc]
    unfold curF
    rw [if_neg hc, if_pos rfl, List.append_nil, List.map_append, List.take_length]
    rfl
theorem allB_next (fs : List (Nat × List Bt)) (n : Nat) (cur : List Bt) : allB (doneL fs n cur) [] = allB fs cur := by
  unfold allB doneL
  split
  · rename_i hc; rw [hc]
  · rw [List.flatMap_append, List.append_nil]
    simp
theorem Logged.next {fs : List (Nat × List Bt)} {n s n' : Nat} {cur : List Bt} (h : Logged fs n cur s) (hn : n < n') (ht : n' ≤ 99999999) (hf : fs.length ≤ 999) : Logged (doneL fs n cur) n' [] 0 := by
  have hmem : ∀ x ∈ doneL fs n cur, x ∈ fs ∨ x = (n, cur) := fun x hx => by
    unfold doneL at hx
    split at hx
    · exact .inl hx
    · rcases List.mem_append.1 hx with hx | hx
      · exact .inl hx
      · exact .inr (List.mem_singleton.1 hx)
  refine ⟨?_, fun x hx => ?_, ht, ?_, Nat.le_refl _, fun x hx => ?_, Nat.zero_le _, ?_, ?_⟩
  · unfold doneL
    split
    · exact h.up
    · rw [List.pairwise_append]
      exact ⟨h.up, by simp, fun a ha b hb => by rw [List.mem_singleton.1 hb]; exact h.low a ha⟩
  · rcases hmem x hx with hx | rfl
    · have := h.low x hx; omega
    · exact hn
  · unfold doneL
    split
    · omega
    · rw [List.length_append]; simp; omega
  · rcases hmem x hx with hx | rfl
    · exact h.size x hx
    · exact h.sizec
  · rw [allB_next]; exact h.good
  · rw [allB_next]; exact h.foll
theorem Logged.more {fs : List (Nat × List Bt)} {n s : Nat} {cur : List Bt} (h : Logged fs n cur s) {b : Bt} (hb : GoodB b) (hl : (frL cur).length + (frameL (encB b)).length ≤ 67108864) (hf : nextB 1 (allB fs cur) = b.seq) : Logged fs n (cur ++ [b]) s := by
  have e : allB fs (cur ++ [b]) = allB fs cur ++ [b] := by unfold allB; rw [List.append_assoc]
  refine ⟨h.up, h.low, h.top, h.few, by rw [List.length_append]; have := h.sync; omega, h.size, by rw [frL_app, frL_one, List.length_append]; exact hl, ?_, ?_⟩
  · rw [e]
    intro x hx
    rcases List.mem_append.1 hx with hx | hx
    · exact h.good x hx
    · rw [List.mem_singleton.1 hx]; exact hb
  · rw [e, Foll.app]
    exact ⟨h.foll, hf.symm, trivial⟩
end Go.Proofs.Ytohphanbnhiodaa

/- WalBack, plainly: what is replayed, and what behind a restart. -/
namespace Go.Proofs.Ytohphanbnhiodaa
open Go.RowKit Go.Maps

theorem read_file {P : PD} (hu : Up fname P.L) (hst : P.stopped = false) {n d : Nat} {b : List UInt8} (hf : (nameW n, b, d) ∈ P.L) (hl : b.length ≤ 67108864) : readM P (nameW n) 0 67108864 = (b, 0) := by
  have h1 := find_of hu hf
  simp only at h1
  unfold readM
  rw [if_pos (named_nameW n), if_neg (by rw [hst]; simp), h1]
  simp only
  rw [if_neg (by omega)]
  simp only [Int.toNat_zero, List.drop_zero]
  rw [List.take_of_length_le (by omega)]
theorem repl_all (P : PD) : ∀ (G : List (Nat × List UInt8 × List Bt)), (∀ x ∈ G, readM P (nameW x.1) 0 67108864 = (x.2.1, 0)) → (∀ x ∈ G, (scanM x.2.1.length none x.2.1).1 = x.2.2) → ∀ (nx : Int) (out : List Bt) (last : Int), Foll nx (G.flatMap (·.2.2)) →
    ∃ la, replM P 0 (G.map (·.1)) true nx out last = .ok (out ++ G.flatMap (·.2.2), la)
  | [], _, _, nx, out, last, _ => ⟨last, by rw [List.map_nil, replM, List.flatMap_nil, List.append_nil]⟩
  | x :: G, hr, hs, nx, out, last, hf => by
    rw [List.flatMap_cons, Foll.app] at hf
    have h1 := hr x (List.mem_cons_self ..)
    have h2 := hs x (List.mem_cons_self ..)
    obtain ⟨la, h3⟩ := repl_all P G (fun y hy => hr y (List.mem_cons_of_mem _ hy)) (fun y hy => hs y (List.mem_cons_of_mem _ hy)) (nextB nx x.2.2) (out ++ x.2.2) x.1 hf.2
    refine ⟨la, ?_⟩
    rw [List.map_cons, replM, if_neg (by omega), h1]
    simp only
    rw [if_pos trivial, h2, takeB_foll _ _ hf.1]
    simp only
    rw [h3, List.flatMap_cons, List.append_assoc]
theorem logs_of {P : PD} (hst : P.stopped = false) (ks : List Nat) (hk : ∀ k ∈ ks, k ≤ 99999999) (hL : P.L.map fname = ks.map nameW) : logsM P = ks := by
  unfold logsM listM
  rw [if_neg (by rw [hst]; simp), hL]
  clear hL hst
  induction ks with
  | nil => rfl
  | cons k ks ih =>
    have := hk k (List.mem_cons_self ..)
    rw [List.map_cons, List.filterMap_cons_some (numW_name (by omega)), ih fun x hx => hk x (List.mem_cons_of_mem _ hx)]
theorem foll_mem : ∀ (fs : List (Nat × List Bt)) (nx : Int), Foll nx (fs.flatMap (·.2)) → ∀ x ∈ fs, ∃ n0, Foll n0 x.2
  | [], _, _, _, h => nomatch h
  | y :: fs, nx, h, x, hx => by
    rw [List.flatMap_cons, Foll.app] at h
    rcases List.mem_cons.1 hx with rfl | hx
    · exact ⟨nx, h.1⟩
    · exact foll_mem fs _ h.2 x hx
/-- What the last log's file is: none, or bytes that tell the batches c2. -/
def LastF (n : Nat) (L2 : List PF) (c2 : List Bt) : Prop := (L2 = [] ∧ c2 = []) ∨ ∃ b d, L2 = [(nameW n, b, d)] ∧ b.length ≤ 67108864 ∧ (scanM b.length none b).1 = c2
theorem Logged.replays {fs : List (Nat × List Bt)} {n s : Nat} {cur c2 : List Bt} {L2 : List PF} {P : PD} (h : Logged fs n cur s) (hL : LastF n L2 c2) (hf : Foll 1 (allB fs c2)) (hP : P = ⟨fs.map filF ++ L2, 0, 0, false⟩) (hu : Up fname P.L) :
    (logsM P).length ≤ fs.length + 1 ∧ ∃ la, replM P 0 (logsM P) true 1 [] (-1) = .ok (allB fs c2, la) := by
  have hst : P.stopped = false := by rw [hP]
  have hPL : P.L = fs.map filF ++ L2 := by rw [hP]
  obtain ⟨G2, hg1, hg2, hg3, hg4⟩ : ∃ G2 : List (Nat × List UInt8 × List Bt), L2.map fname = (G2.map (·.1)).map nameW ∧ G2.flatMap (·.2.2) = c2 ∧ G2.length ≤ 1 ∧ ∀ x ∈ G2, x.1 = n ∧ x.2.1.length ≤ 67108864 ∧ (∃ d, (nameW n, x.2.1, d) ∈ L2) ∧ (scanM x.2.1.length none x.2.1).1 = x.2.2 := by
    rcases hL with ⟨rfl, rfl⟩ | ⟨b, d, rfl, hb, hs⟩
    · exact ⟨[], rfl, rfl, by simp, nofun⟩
    · refine ⟨[(n, b, c2)], rfl, by simp, by simp, fun x hx => ?_⟩
      rw [List.mem_singleton.1 hx]
      exact ⟨rfl, hb, ⟨d, List.mem_singleton.2 rfl⟩, hs⟩
  have hG : logsM P = (fs.map (fun x => (x.1, frL x.2, x.2)) ++ G2).map (·.1) := by
    refine logs_of hst _ (fun k hk => ?_) ?_
    · rw [List.map_append, List.mem_append, List.map_map] at hk
      rcases hk with hk | hk
      · obtain ⟨y, hy, rfl⟩ := List.mem_map.1 hk
        have := h.low y hy
        have := h.top
        show y.1 ≤ _
        omega
      · obtain ⟨y, hy, rfl⟩ := List.mem_map.1 hk
        rw [(hg4 y hy).1]
        exact h.top
    · rw [hPL, List.map_append, List.map_append, List.map_append, hg1, List.map_map, List.map_map, List.map_map, List.map_map]
      rfl
  have hall : (fs.map (fun x => (x.1, frL x.2, x.2)) ++ G2).flatMap (·.2.2) = allB fs c2 := by
    unfold allB
    rw [List.flatMap_append, hg2, List.flatMap_map]
  rw [hG]
  refine ⟨by rw [List.length_map, List.length_append, List.length_map]; omega, ?_⟩
  have hf2 : Foll 1 (fs.flatMap (·.2)) := by
    unfold allB at hf
    exact (Foll.app.1 hf).1
  have hR : ∀ x ∈ fs.map (fun x => (x.1, frL x.2, x.2)) ++ G2, readM P (nameW x.1) 0 67108864 = (x.2.1, 0) := fun x hx => by
    rcases List.mem_append.1 hx with hx | hx
    · obtain ⟨y, hy, rfl⟩ := List.mem_map.1 hx
      exact read_file (d := (frL y.2).length) hu hst (by rw [hPL]; exact List.mem_append_left _ (List.mem_map_of_mem (f := filF) hy)) (h.size y hy)
    · obtain ⟨h1, h2, ⟨d, h3⟩, _⟩ := hg4 x hx
      rw [h1]
      exact read_file hu hst (by rw [hPL]; exact List.mem_append_right _ h3) h2
  have hS : ∀ x ∈ fs.map (fun x => (x.1, frL x.2, x.2)) ++ G2, (scanM x.2.1.length none x.2.1).1 = x.2.2 := fun x hx => by
    rcases List.mem_append.1 hx with hx | hx
    · obtain ⟨y, hy, rfl⟩ := List.mem_map.1 hx
      obtain ⟨n0, h0⟩ := foll_mem fs 1 hf2 y hy
      exact scan_whole (fun b hb => h.good b (by unfold allB; exact List.mem_append_left _ (List.mem_flatMap.2 ⟨y, hy, hb⟩))) h0
    · exact (hg4 x hx).2.2.2
  obtain ⟨la, hr⟩ := repl_all P (fs.map (fun x => (x.1, frL x.2, x.2)) ++ G2) hR hS 1 [] (-1) (by rw [hall]; exact hf)
  exact ⟨la, by rw [hr, hall, List.nil_append]⟩
theorem Logged.follc {fs : List (Nat × List Bt)} {n s : Nat} {cur : List Bt} (h : Logged fs n cur s) : ∃ n0, Foll n0 cur := by
  have := h.foll
  unfold allB at this
  exact ⟨_, (Foll.app.1 this).2⟩
theorem Logged.goodc {fs : List (Nat × List Bt)} {n s : Nat} {cur : List Bt} (h : Logged fs n cur s) : ∀ b ∈ cur, GoodB b := fun b hb => h.good b (by unfold allB; exact List.mem_append_right _ hb)
theorem Logged.last {fs : List (Nat × List Bt)} {n s : Nat} {cur : List Bt} (h : Logged fs n cur s) : LastF n (curF n cur (frL (cur.take s)).length) cur := by
  unfold curF
  split
  · rename_i hc
    exact .inl ⟨rfl, hc⟩
  · obtain ⟨n0, h0⟩ := h.follc
    exact .inr ⟨_, _, rfl, h.sizec, scan_whole h.goodc h0⟩
/-- All that was written is replayed. -/
theorem Logged.replay {fs : List (Nat × List Bt)} {n s : Nat} {cur : List Bt} (h : Logged fs n cur s) : (logsM (logP fs n cur s)).length ≤ fs.length + 1 ∧ ∃ la, replM (logP fs n cur s) 0 (logsM (logP fs n cur s)) true 1 [] (-1) = .ok (allB fs cur, la) :=
  h.replays h.last h.foll rfl h.upL
theorem mapIdx_same {α : Type} {f : Nat → α → α} : ∀ {l : List α}, (∀ i, ∀ x ∈ l, f i x = x) → l.mapIdx f = l := fun {l} h => by
  apply List.ext_getElem?
  intro i
  rw [List.getElem?_mapIdx]
  cases hi : l[i]? with
  | none => rfl
  | some x => rw [Option.map_some, h i x (List.mem_of_getElem? hi)]
theorem left_bd (f : PF) (hf : f.2.2 ≤ f.2.1.length) (k : Option Int) : f.2.2 ≤ leftM f k ∧ leftM f k ≤ f.2.1.length := by
  unfold leftM
  cases k with
  | none => exact ⟨Nat.le_refl _, hf⟩
  | some k =>
    simp only
    have h1 := Int.emod_nonneg k (show ((f.2.1.length : Int) - f.2.2 + 1) ≠ 0 by omega)
    have h2 := Int.emod_lt_of_pos k (show (0 : Int) < (f.2.1.length : Int) - f.2.2 + 1 by omega)
    omega
/-- Behind a restart a beginning of the last log is left, with all that was synced. -/
theorem Logged.restart {fs : List (Nat × List Bt)} {n s : Nat} {cur : List Bt} (h : Logged fs n cur s) (keep : List Int) :
    ∃ m, s ≤ m ∧ m ≤ cur.length ∧ (logsM (restartM (logP fs n cur s) keep)).length ≤ fs.length + 1 ∧ ∃ la, replM (restartM (logP fs n cur s) keep) 0 (logsM (restartM (logP fs n cur s) keep)) true 1 [] (-1) = .ok (allB fs (cur.take m), la) := by
  obtain ⟨L2, m, hm1, hm2, hP, hL, hup⟩ : ∃ L2 m, s ≤ m ∧ m ≤ cur.length ∧ restartM (logP fs n cur s) keep = ⟨fs.map filF ++ L2, 0, 0, false⟩ ∧ LastF n L2 (cur.take m) ∧ Up fname (fs.map filF ++ L2) := by
    have hk : ∀ (i : Nat), ∀ x ∈ fs.map filF, cutM x (leftM x keep[i]?) = x := fun i x hx => by
      obtain ⟨y, _, rfl⟩ := List.mem_map.1 hx
      have := left_bd (filF y) (Nat.le_refl _) keep[i]?
      have e : leftM (filF y) keep[i]? = (frL y.2).length := by
        have h1 : (filF y).2.2 = (frL y.2).length := rfl
        have h2 : (filF y).2.1.length = (frL y.2).length := rfl
        omega
      unfold cutM
      rw [e]
      show (nameW y.1, (frL y.2).take (frL y.2).length, _) = _
      rw [List.take_length]
      rfl
    have hu := h.upL
    by_cases hc : cur = []
    · refine ⟨[], 0, ?_, Nat.zero_le _, ?_, .inl ⟨rfl, by rw [List.take_zero]⟩, ?_⟩
      · have := h.sync
        rw [hc] at this
        simpa using this
      · unfold restartM keptM logP curF
        rw [if_pos hc, List.append_nil]
        simp only [List.append_nil]
        rw [mapIdx_same hk]
      · unfold logP curF at hu
        rw [if_pos hc] at hu
        exact hu
    · obtain ⟨i, hi⟩ : ∃ i, i = 0 + (fs.map filF).length := ⟨_, rfl⟩
      obtain ⟨j, hj⟩ : ∃ j, j = leftM (nameW n, frL cur, (frL (cur.take s)).length) keep[i]? := ⟨_, rfl⟩
      have hb := left_bd (nameW n, frL cur, (frL (cur.take s)).length) (frL_take_le cur s) keep[i]?
      rw [← hj] at hb
      simp only at hb
      obtain ⟨n0, h0⟩ := h.follc
      obtain ⟨m, m1, m2, m3⟩ := scan_cut cur ((frL cur).take j).length none n0 j h.goodc h0 (.inl rfl) (Nat.le_refl _)
      have e1 : restartM (logP fs n cur s) keep = ⟨fs.map filF ++ [(nameW n, (frL cur).take j, j)], 0, 0, false⟩ := by
        unfold restartM keptM logP curF
        rw [if_neg hc]
        simp only
        rw [List.mapIdx_append, mapIdx_same hk]
        congr 1
        congr 1
        rw [List.mapIdx_cons, List.mapIdx_nil, ← hi, ← hj]
        rfl
      refine ⟨[(nameW n, (frL cur).take j, j)], m, m3 s h.sync hb.1, m2, e1, .inr ⟨_, _, rfl, by rw [List.length_take]; have := h.sizec; omega, m1⟩, ?_⟩
      unfold logP curF at hu
      rw [if_neg hc] at hu
      unfold Up at hu ⊢
      rw [List.pairwise_append] at hu ⊢
      refine ⟨hu.1, by simp, fun a ha b hb => ?_⟩
      have := hu.2.2 a ha (nameW n, frL cur, (frL (cur.take s)).length) (List.mem_singleton.2 rfl)
      rw [List.mem_singleton.1 hb]
      exact this
  obtain ⟨h1, la, h2⟩ := h.replays hL (by
    have := h.foll
    unfold allB at this ⊢
    rw [Foll.app] at this ⊢
    exact ⟨this.1, this.2.take m⟩) rfl hup
  rw [hP]
  exact ⟨m, hm1, hm2, h1, la, h2⟩
end Go.Proofs.Ytohphanbnhiodaa

/- A disk's blocks are not those of batches and writers. -/
namespace Go.Proofs.Ytohphanbnhiodaa
open Go.RowKit Go.Maps

theorem MapL.notRow {P : Program} {k : TypeId} {w : World} {m : Nat} {L : List (Value × Value)} (h : MapL P k w m L) {t : TypeId} {cs : Array Value} : ¬ Row w m t cs := fun hr => by
  obtain ⟨⟨_, _, h1, _⟩, _, _⟩ := h
  unfold Row at hr
  rw [hr] at h1
  cases h1
theorem DS.kind {w : World} {base d g : Nat} {P : PD} {F : Nat → Prop} (h : DS w base d P F) (hF : F g) {t : TypeId} {cs : Array Value} (hr : Row w g t cs) : t = 80 ∨ t = 94 ∨ t = 5 := by
  obtain ⟨m, E, hD, hf⟩ := h
  have key : ∀ {t2 : TypeId} {cs2 : Array Value}, Row w g t2 cs2 → t = t2 := fun {t2 cs2} h2 => Decidable.byContradiction fun hne => Row.unlike hr h2 hne rfl
  rcases (hf g).1 hF with rfl | rfl | ⟨e, he, rfl | ⟨a, ha, rfl⟩⟩
  · exact .inl (key hD.row)
  · obtain ⟨L, hL, _⟩ := hD.fs.map
    exact (hL.notRow hr).elim
  · exact .inr (.inl (key (hD.fs.ok e he).row))
  · obtain ⟨_, _, hb⟩ := (hD.fs.ok e he).buf
    rcases hb with ⟨h0, _⟩ | ⟨g, cur, hA, _, hrow, _⟩
    · rw [h0] at ha; cases ha
    · rw [hA] at ha
      injection ha with ha
      subst ha
      exact .inr (.inr (key hrow))
theorem BtsOwn.chgT {w w' : World} {base c : Nat} {A : Option Addr} {l : List BtC} {S : Nat → Prop} (h : BtsOwn w base A c l) (hc : Chg S w w') (hS : ∀ g t cs, Row w g t cs → t = 52 ∨ t = 55 ∨ t = 50 → ¬ S g) : BtsOwn w' base A c l :=
  ⟨hc.owns h.own fun g hg => by obtain ⟨cs, hr, hb⟩ := owns_row h.own hg; exact hS g _ cs hr (.inr (.inr rfl)), fun x hx => ⟨(h.each x hx).1.chg hc fun g t cs hr ht _ => hS g t cs hr (by rcases ht with ht | ht <;> simp [ht]), (h.each x hx).2⟩⟩
theorem ne_disk {t : TypeId} (h : t = 52 ∨ t = 55 ∨ t = 50 ∨ t = 66) : ¬ (t = 80 ∨ t = 94 ∨ t = 5) := by
  rcases h with rfl | rfl | rfl | rfl <;> decide
theorem BtsOwn.disk {w w' : World} {base b0 c d : Nat} {A : Option Addr} {l : List BtC} {P : PD} {F : Nat → Prop} (h : BtsOwn w base A c l) (hD : DS w b0 d P F) (hc : Chg F w w') : BtsOwn w' base A c l :=
  h.chgT hc fun g t cs hr ht hF => ne_disk (by rcases ht with h | h | h <;> simp [h]) (hD.kind hF hr)
theorem EvsOwn.disk {w w' : World} {base b0 c d : Nat} {A : Option Addr} {l : List EvC} {P : PD} {F : Nat → Prop} (h : EvsOwn w base A c l) (hD : DS w b0 d P F) (hc : Chg F w w') : EvsOwn w' base A c l :=
  h.chg hc fun g t cs hr ht _ hF => ne_disk (by rcases ht with h | h <;> simp [h]) (hD.kind hF hr)
theorem Row.disk {w w' : World} {g b0 d : Nat} {t : TypeId} {cs : Array Value} {P : PD} {F : Nat → Prop} (h : Row w g t cs) (hD : DS w b0 d P F) (hc : Chg F w w') (ht : t = 52 ∨ t = 55 ∨ t = 50 ∨ t = 66) : Row w' g t cs :=
  hc.row h fun hF => ne_disk ht (hD.kind hF h)
end Go.Proofs.Ytohphanbnhiodaa

/- WalBack: what is kept from round to round, and the calls at that. -/
namespace Go.Proofs.Ytohphanbnhiodaa
open Go.RowKit Go.Maps

/-- The batch that WalBack writes: it begins at q and has k events. -/
def wbB (q k : Nat) : Bt := ⟨(q : Int), List.replicate k ⟨(q : Int), [⟨[109, 115, 103], [116]⟩]⟩⟩
theorem wbB_good {q k : Nat} (hq : 1 ≤ q) (hq2 : q ≤ 1000) (hk : 1 ≤ k) (hk2 : k ≤ 4) : GoodB (wbB q k) := by
  have hE : ∀ e ∈ (wbB q k).es, e = ⟨(q : Int), [⟨[109, 115, 103], [116]⟩]⟩ := fun e he => List.eq_of_mem_replicate he
  have hl : (wbB q k).es.length = k := List.length_replicate ..
  have h1 : checkE [⟨[109, 115, 103], [116]⟩] = 0 := by decide +kernel
  have h2 : ∀ l : List Ev, (∀ e ∈ l, e = ⟨(q : Int), [⟨[109, 115, 103], [116]⟩]⟩) → checkEs l = 0 ∧ sizeEs l = l.length * sizeE ⟨0, [⟨[109, 115, 103], [116]⟩]⟩ := fun l => by
    induction l with
    | nil => intro _; exact ⟨rfl, by simp [sizeEs]⟩
    | cons x l ih =>
      intro h
      obtain ⟨i1, i2⟩ := ih fun e he => h e (List.mem_cons_of_mem _ he)
      have hx := h x (List.mem_cons_self ..)
      unfold sizeEs at i2 ⊢
      rw [checkEs, hx, if_pos h1, List.map_cons, List.sum_cons, i2, List.length_cons, Nat.add_mul]
      refine ⟨i1, ?_⟩
      have : sizeE ⟨(q : Int), [⟨[109, 115, 103], [116]⟩]⟩ = sizeE ⟨0, [⟨[109, 115, 103], [116]⟩]⟩ := rfl
      omega
  have h3 : sizeE ⟨0, [⟨[109, 115, 103], [116]⟩]⟩ ≤ 100 := by decide +kernel
  obtain ⟨h4, h5⟩ := h2 _ hE
  rw [hl] at h5
  have h6 : k * sizeE ⟨0, [⟨[109, 115, 103], [116]⟩]⟩ ≤ 4 * 100 := Nat.mul_le_mul hk2 h3
  have hs : (wbB q k).seq = (q : Int) := rfl
  refine ⟨?_, fun e he => by rw [hE e he]; unfold I64ok'; simp only; omega⟩
  unfold checkB
  rw [hl, hs, h4, if_neg (by omega), if_neg (by omega), if_neg (by simp), if_neg (by omega), if_neg (by omega)]
theorem wbB_len {q k : Nat} (hq : 1 ≤ q) (hq2 : q ≤ 1000) (hk : 1 ≤ k) (hk2 : k ≤ 4) : (frameL (encB (wbB q k))).length ≤ 100100 :=
  frameL_len _ (encB_len (wbB_good hq hq2 hk hk2).1 (wbB_good hq hq2 hk hk2).2)
/-- What WalBack keeps from round to round: z: all is synced; pend: what is written, but not yet in the row of all. -/
structure WbSt (z : Bool) (pend : List Bt) (w : World) (d : Nat) (wr : World) (j i n q su m cc b : Nat) (A : Option Addr) (fs : List (Nat × List Bt)) (cur : List Bt) (s : Nat) (F : Nat → Prop) (l : List BtC) : Prop where
  log : Logged fs n cur s
  sync : z = true → s = cur.length
  disk : DS wr w.heap.size d (logP fs n cur s) F
  wri : WrR wr b d n (nameW n)
  own : BtsOwn wr w.heap.size A cc l
  len : m = l.length
  all : l.map BtC.bt ++ pend = allB fs cur
  sure : su ≤ (fs.flatMap (·.2)).length + s
  few : fs.length ≤ j
  next : (q : Int) = nextB 1 (allB fs cur)
  size : (frL cur).length ≤ 100100 * i
  ext : Ext w wr
def WbInv (z : Bool) (pend : List Bt) (w : World) (d : Nat) (wr : World) (j i n q su m cc b : Nat) (A : Option Addr) : Prop := ∃ fs cur s F l, WbSt z pend w d wr j i n q su m cc b A fs cur s F l
section
variable {z : Bool} {pend : List Bt} {w wr w1 : World} {d j i n q su m cc b : Nat} {A : Option Addr}
theorem WbInv.move (h : WbInv z pend w d wr j i n q su m cc b A) (hE : Ext wr w1) : WbInv z pend w d w1 j i n q su m cc b A := by
  obtain ⟨fs, cur, s, F, l, h⟩ := h
  exact ⟨fs, cur, s, F, l, { h with disk := h.disk.ext hE, wri := h.wri.ext hE, own := h.own.ext hE, ext := h.ext.trans hE }⟩
theorem WbInv.ext (h : WbInv z pend w d wr j i n q su m cc b A) : Ext w wr := by
  obtain ⟨_, _, _, _, _, h⟩ := h
  exact h.ext
theorem WbInv.lax (h : WbInv z pend w d wr j i n q su m cc b A) {j' i' : Nat} (hj : j ≤ j') (hi : i ≤ i') : WbInv false pend w d wr j' i' n q su m cc b A := by
  obtain ⟨fs, cur, s, F, l, h⟩ := h
  exact ⟨fs, cur, s, F, l, { h with sync := nofun, few := Nat.le_trans h.few hj, size := Nat.le_trans h.size (Nat.mul_le_mul_left _ hi) }⟩
theorem WbInv.start {w5 : World} {F : Nat → Prop} (hS : DS w5 w.heap.size d ⟨[], 0, 0, false⟩ F) (hw : WrR w5 b d 0 (nameW 0)) (hE : Ext w w5) : WbInv false [] w d w5 0 0 0 1 0 0 0 b none :=
  ⟨[], [], 0, F, [], ⟨by simp, nofun, by omega, by simp, Nat.le_refl _, nofun, by simp [frL], nofun, trivial⟩, nofun, hS, hw, BtsOwn.nil _ _, rfl, rfl, by simp, by simp, rfl, by simp [frL], hE⟩
theorem wb_sync (h : WbInv z pend w d wr j i n q su m cc b A) : Calls Try.prog 17 #[.pointer (some ⟨b, 0, none⟩)] wr fun e w' => e = .returned (.int .i64 0) ∧ WbInv true pend w d w' j i n q su m cc b A := by
  obtain ⟨fs, cur, s, F, l, h⟩ := h
  refine (wsync_any w.heap.size b d n _ F (nameW n) wr h.wri h.disk (by rw [nameW_len]; omega)).mono ?_
  rintro e w' ⟨rfl, wx, hE, hN⟩
  have hD := h.disk.ext hE
  obtain ⟨F', hS', hC, _⟩ := hN
  have hw : WrR w' b d n (nameW n) := Row.disk (h.wri.ext hE) hD hC (by simp)
  have ho := (h.own.ext hE).disk hD hC
  have hx : Ext w w' := (h.ext.trans hE).chg hC fun k hk hF => by have := hD.base_le hF; omega
  by_cases hc : cur = []
  · rw [h.log.sync_none hc] at hS' ⊢
    refine ⟨rfl, fs, cur, s, F', l, { h with sync := fun _ => ?_, disk := hS', wri := hw, own := ho, ext := hx }⟩
    have := h.log.sync
    rw [hc] at this ⊢
    simpa using this
  · rw [h.log.sync_some hc] at hS' ⊢
    refine ⟨rfl, fs, cur, cur.length, F', l, { h with log := h.log.synced, sync := fun _ => rfl, disk := hS', wri := hw, own := ho, sure := ?_, ext := hx }⟩
    have := h.log.sync
    have := h.sure
    omega
theorem WbInv.sures (h : WbInv true [] w d wr j i n q su m cc b A) : WbInv true [] w d wr j i n q m m cc b A := by
  obtain ⟨fs, cur, s, F, l, h⟩ := h
  refine ⟨fs, cur, s, F, l, { h with sure := ?_ }⟩
  have h1 := congrArg List.length h.all
  unfold allB at h1
  rw [List.append_nil, List.length_map, List.length_append] at h1
  have := h.sync rfl
  have := h.len
  omega
theorem wb_open (h : WbInv true [] w d wr j i n q su m cc b A) {n' : Nat} (hn : n < n') (ht : n' ≤ 99999999) (hj : j ≤ 999) :
    Calls Try.prog 16 #[.pointer (some ⟨d, 0, none⟩), .int .i64 (n' : Int)] wr fun e w' => ∃ b', e = .returned (.tuple #[.pointer (some ⟨b', 0, none⟩), .int .i64 0]) ∧ WbInv false [] w d w' (j + 1) i n' q su m cc b' A := by
  obtain ⟨fs, cur, s, F, l, h⟩ := h
  refine (open_any w.heap.size d _ F n' wr h.disk ht).mono ?_
  rintro e w' ⟨b', rfl, hw, _, hE⟩
  obtain rfl := h.sync rfl
  refine ⟨b', rfl, doneL fs n cur, [], 0, F, l, h.log.next hn ht (by have := h.few; omega), nofun, ?_, hw, h.own.ext hE, h.len, ?_, ?_, ?_, ?_, by simp [frL], h.ext.trans hE⟩
  · rw [← logP_next]
    exact h.disk.ext hE
  · rw [allB_next]
    exact h.all
  · have h1 := congrArg List.length (allB_next fs n cur)
    unfold allB at h1
    rw [List.append_nil, List.length_append] at h1
    have := h.sure
    omega
  · unfold doneL
    have := h.few
    split
    · omega
    · rw [List.length_append]; simp; omega
  · rw [allB_next]
    exact h.next
theorem wb_append (h : WbInv z [] w d wr j i n q su m cc b A) {k xc bk : Nat} {xA S : Option Addr} {xl : List EvC} {c : Nat} {cs : Array Value} (hx : EvsOwn wr w.heap.size xA xc xl) (hxl : xl.map (·.e) = (wbB q k).es) (hS : BsOk wr S [⟨(q : Int), xl, xA, xc⟩])
    (hb : Row wr bk 50 cs) (hq : 1 ≤ q) (hq2 : q ≤ 1000) (hk : 1 ≤ k) (hk2 : k ≤ 4) (hi : i ≤ 600) :
    Calls Try.prog 18 #[.pointer (some ⟨b, 0, none⟩), .slice S 1 c] wr fun e w' => e = .returned (.int .i64 0) ∧ WbInv false [wbB q k] w d w' j (i + 1) n (q + k) su m cc b A ∧ EvsOwn w' w.heap.size xA xc xl ∧ Row w' bk 50 cs := by
  obtain ⟨fs, cur, s, F, l, h⟩ := h
  have hg := wbB_good hq hq2 hk hk2
  have hlen := wbB_len hq hq2 hk hk2
  have hsz := h.size
  have hap := wappend_any w.heap.size b d n _ F (nameW n) [⟨(q : Int), xl, xA, xc⟩] S c wr h.wri h.disk hS (fun x hx2 y hy => by rw [List.mem_singleton.1 hx2] at hy; exact hx.ints y hy) (by simp) (by rw [nameW_len]; omega) h.ext.size
  have hbt : [(⟨(q : Int), xl, xA, xc⟩ : BtC)].map BtC.bt = [wbB q k] := by
    unfold BtC.bt
    rw [List.map_singleton]
    simp only
    rw [hxl]
    rfl
  rw [hbt, appB, if_pos hg.1, appB, List.nil_append] at hap
  unfold AppP at hap
  simp only [List.length_singleton, show ((1 : Nat) = 0) = False from by simp, if_false] at hap
  rw [h.log.append hg (by omega)] at hap
  refine hap.mono ?_
  rintro e w' ⟨wx, hE, rfl, hN⟩
  have hD := h.disk.ext hE
  obtain ⟨F', hS', hC, _⟩ := hN
  refine ⟨rfl, ⟨fs, cur ++ [wbB q k], s, F', l, h.log.more hg (by omega) (by rw [← h.next]; rfl), nofun, hS', Row.disk (h.wri.ext hE) hD hC (by simp), (h.own.ext hE).disk hD hC, h.len, ?_, h.sure, h.few, ?_, ?_, ?_⟩, (hx.ext hE).disk hD hC, Row.disk (hb.ext hE) hD hC (by simp)⟩
  · have := h.all
    rw [List.append_nil] at this
    rw [this]
    unfold allB
    rw [List.append_assoc]
  · have e : allB fs (cur ++ [wbB q k]) = allB fs cur ++ [wbB q k] := by unfold allB; rw [List.append_assoc]
    rw [e, nextB_app, ← h.next]
    show ((q + k : Nat) : Int) = (q : Int) + (List.replicate k _).length
    rw [List.length_replicate]
    omega
  · rw [frL_app, frL_one, List.length_append]
    omega
  · exact (h.ext.trans hE).chg hC fun k hk hF => by have := hD.base_le hF; omega
theorem WbSt.push {q0 k xc cc' : Nat} {fs : List (Nat × List Bt)} {cur : List Bt} {s : Nat} {F : Nat → Prop} {l : List BtC} {xA A' : Option Addr} {xl : List EvC} {w' : World} (h : WbSt z [wbB q0 k] w d wr j i n q su m cc b A fs cur s F l)
    (hx : EvsOwn wr w.heap.size xA xc xl) (hxl : xl.map (·.e) = (wbB q0 k).es) (hq : 1 ≤ q0) (hq2 : q0 ≤ 1000) (hk2 : k ≤ 4)
    (ho : w'.ownsRow w.heap.size 50 2 (.slice A' (m + 1) cc') (m + 1) (bcells l ++ [.int .i64 (q0 : Int), .slice xA xl.length xc])) (hg : wr.grownBy w' (Value.slice A m cc).ownBlock) : WbInv z [] w d w' j i n q su (m + 1) cc' b A' := by
  have hlen := h.len
  have hown := h.own.own
  rw [← hlen] at hown
  have hblk : ∀ g, (Value.slice A m cc).ownBlock = some g → ∃ cs, Row wr g 50 cs ∧ w.heap.size ≤ g := fun g hgg => owns_row hown hgg
  have hC : Chg (fun g => (Value.slice A m cc).ownBlock = some g) wr w' := Chg.of_grown hg fun _ _ e => e
  have hxk : xl.length = k := by
    have := congrArg List.length hxl
    rw [List.length_map] at this
    rw [this]
    exact List.length_replicate ..
  have hev : ∀ {A2 : Option Addr} {c2 : Nat} {l2 : List EvC}, EvsOwn wr w.heap.size A2 c2 l2 → EvsOwn w' w.heap.size A2 c2 l2 := fun h2 => h2.chg hC fun g t cs hr ht _ hS => by
    obtain ⟨cs2, hr2, _⟩ := hblk g hS
    refine Row.unlike hr hr2 ?_ rfl
    rcases ht with rfl | rfl <;> decide
  have hxb : (⟨(q0 : Int), xl, xA, xc⟩ : BtC).bt = wbB q0 k := by
    unfold BtC.bt
    simp only
    rw [hxl]
    rfl
  refine ⟨fs, cur, s, F, l ++ [⟨(q0 : Int), xl, xA, xc⟩], h.log, h.sync, h.disk.chg hC fun g hS hF => ?_, ?_, ⟨?_, fun x hxx => ?_⟩, ?_, ?_, h.sure, h.few, h.next, h.size, h.ext.grown hg fun g hgg => (by obtain ⟨_, _, hb⟩ := hblk g hgg; exact hb)⟩
  · obtain ⟨cs, hr, _⟩ := hblk g hS
    exact ne_disk (by simp) (h.disk.kind hF hr)
  · refine hC.row h.wri fun hS => ?_
    obtain ⟨cs, hr, _⟩ := hblk b hS
    exact Row.unlike h.wri hr (by decide) rfl
  · rw [List.length_append, List.length_singleton, ← hlen, bcells_snoc]
    exact ho
  · rcases List.mem_append.1 hxx with hxx | hxx
    · exact ⟨hev (h.own.each x hxx).1, (h.own.each x hxx).2⟩
    · rw [List.mem_singleton.1 hxx]
      exact ⟨hev hx, by simp only; omega, by simp only; omega, by simp only; omega⟩
  · rw [List.length_append, List.length_singleton, hlen]
  · rw [List.map_append, List.map_singleton, hxb, List.append_nil]
    exact h.all
end
def wbE (q : Nat) : Ev := ⟨(q : Int), [⟨[109, 115, 103], [116]⟩]⟩
/-- The batch that is being made. -/
structure WbEv (w0 w : World) (bk q k dd : Nat) (C : Option Addr) : Prop where
  row : Row w bk 50 #[.int .i64 (q : Int), .slice C k dd]
  evs : ∃ xl, EvsOwn w w0.heap.size C dd xl ∧ xl.length = k ∧ xl.map (·.e) = List.replicate k (wbE q)
  low : w0.heap.size ≤ bk
  ext : Ext w0 w
theorem WbEv.cell0 {w0 w : World} {bk q k dd : Nat} {C : Option Addr} (h : WbEv w0 w bk q k dd C) : w.cell? ⟨bk, 0, none⟩ = some (.int .i64 (q : Int)) := h.row.cell 0 rfl
theorem WbEv.cell1 {w0 w : World} {bk q k dd : Nat} {C : Option Addr} (h : WbEv w0 w bk q k dd C) : w.cell? ⟨bk, 1, none⟩ = some (.slice C k dd) := h.row.cell 1 rfl
theorem WbEv.mid {w0 wi w5 w8 : World} {bk q k dd : Nat} {C : Option Addr} (h : WbEv w0 wi bk q k dd C) {xl : List EvC} (hx : EvsOwn wi w0.heap.size C dd xl) (hk : xl.length = k) (hE5 : Ext wi w5) (hg8 : w5.grownBy w8 (Value.slice C k dd).ownBlock) :
    Row w8 bk 50 #[.int .i64 (q : Int), .slice C k dd] := by
  refine Row.grown (h.row.ext hE5) hg8 fun e => ?_
  have ho := hx.own
  rw [hk] at ho
  obtain ⟨cs, hr, _⟩ := owns_row ho e.symm
  exact Row.unlike h.row hr (by decide) rfl
theorem WbEv.step {w0 wi w5 w8 : World} {bk q k dd c8 : Nat} {C A8 : Option Addr} (h : WbEv w0 wi bk q k dd C) {xl : List EvC} (hx : EvsOwn wi w0.heap.size C dd xl) (hk : xl.length = k) (he : xl.map (·.e) = List.replicate k (wbE q))
    (hw5 : w5 = wi.alloc (.cells #[.string ⟨#[109, 115, 103]⟩, .string ⟨#[116]⟩] 52)) (hq : q ≤ 1000)
    (ho8 : w8.ownsRow w0.heap.size 55 2 (.slice A8 (k + 1) c8) (k + 1) (ecells xl ++ [.int .i64 (q : Int), .slice (some ⟨wi.heap.size, 0, none⟩) 1 1])) (hg8 : w5.grownBy w8 (Value.slice C k dd).ownBlock) :
    WbEv w0 (w8.setCell ⟨bk, 1, none⟩ (.slice A8 (k + 1) c8)) bk q (k + 1) c8 A8 := by
  have hE5 : Ext wi w5 := by rw [hw5]; exact (Ext.refl wi).alloc _
  have hr8 := h.mid hx hk hE5 hg8
  have ho := hx.own
  rw [hk] at ho
  have hblk : ∀ g, (Value.slice C k dd).ownBlock = some g → ∃ cs, Row w5 g 55 cs ∧ w0.heap.size ≤ g := fun g hgg => by
    obtain ⟨cs, hr, hb⟩ := owns_row ho hgg
    exact ⟨cs, hr.ext hE5, hb⟩
  have hrf : Row w5 wi.heap.size 52 #[.string ⟨#[109, 115, 103]⟩, .string ⟨#[116]⟩] := by rw [hw5]; exact Row.new wi _ _
  have hC8 : Chg (fun g => (Value.slice C k dd).ownBlock = some g) w5 w8 := Chg.of_grown hg8 fun _ _ e => e
  have hne : ∀ {g : Nat} {cs : Array Value}, Row w5 g 52 cs → ¬ (Value.slice C k dd).ownBlock = some g := fun hr e => by
    obtain ⟨cs2, hr2, _⟩ := hblk _ e
    exact Row.unlike hr hr2 (by decide) rfl
  have hC9 : Chg (fun g => g = bk) w8 (w8.setCell ⟨bk, 1, none⟩ (.slice A8 (k + 1) c8)) := Chg.of_set w8 _ rfl
  have hev : EvsOwn w8 w0.heap.size A8 c8 (xl ++ [⟨wbE q, some ⟨wi.heap.size, 0, none⟩, 1⟩]) := by
    refine ⟨?_, fun x hxx => ?_, fun x hxx => ?_⟩
    · rw [List.length_append, List.length_singleton, hk]
      unfold ecells at ho8 ⊢
      rw [List.flatMap_append]
      exact ho8
    · rcases List.mem_append.1 hxx with hxx | hxx
      · obtain ⟨o1, o2⟩ := hx.each x hxx
        exact ⟨hC8.owns (hE5.owns o1) fun g hg => by obtain ⟨cs, hr, _⟩ := owns_row (hE5.owns o1) hg; exact hne hr, o2⟩
      · rw [List.mem_singleton.1 hxx]
        exact ⟨Row.owned (cs := fcells [⟨[109, 115, 103], [116]⟩]) (hC8.row hrf (hne hrf)) rfl h.ext.size (by simp [wbE]), by simp [wbE], by simp [wbE]⟩
    · rcases List.mem_append.1 hxx with hxx | hxx
      · exact hx.ints x hxx
      · rw [List.mem_singleton.1 hxx]
        unfold I64ok' wbE
        simp only
        omega
  refine ⟨?_, ⟨_, hev.chg hC9 fun g t cs hr ht _ hgb => ?_, ?_, ?_⟩, h.low, ?_⟩
  · have := Row.put hr8 1 (.slice A8 (k + 1) c8)
    simpa using this
  · subst hgb
    refine Row.unlike hr hr8 ?_ rfl
    rcases ht with rfl | rfl <;> decide
  · rw [List.length_append, List.length_singleton, hk]
  · rw [List.map_append, he, List.map_singleton, List.replicate_succ']
  · exact ((h.ext.trans hE5).grown hg8 fun g hgg => (by obtain ⟨_, _, hb⟩ := hblk g hgg; exact hb)).setCell h.low _
theorem WbEv.start (w : World) (q : Nat) : WbEv w (w.alloc (.cells #[.int .i64 (q : Int), .slice none 0 0] 50)) w.heap.size q 0 0 none :=
  ⟨Row.new w _ _, ⟨[], EvsOwn.nil _ _, rfl, rfl⟩, Nat.le_refl _, (Ext.refl w).alloc _⟩
end Go.Proofs.Ytohphanbnhiodaa

/- WalBack: what is replayed at the end. -/
namespace Go.Proofs.Ytohphanbnhiodaa
open Go.RowKit Go.Maps

theorem read_len (P : PD) (s : List UInt8) (fr : Int) : (readM P s fr 67108864).1.length ≤ 67108864 := by
  unfold readM
  split
  · split
    · simp
    · split
      · split
        · simp
        · rw [List.length_take]
          exact Nat.min_le_left _ _
      · simp
  · simp
/-- Of a row of batches, the beginning. -/
theorem BsOk.take {w : World} {A : Option Addr} {l : List BtC} (h : BsOk w A l) (k : Nat) : BsOk w A (l.take k) := by
  refine ⟨?_, fun x hx => h.each x (List.mem_of_mem_take hx)⟩
  have e : bcells l = bcells (l.take k) ++ bcells (l.drop k) := by
    unfold bcells
    rw [← List.flatMap_append, List.take_append_drop]
  rcases h.cells with hc | ⟨g, o, hA, hc⟩
  · rw [e] at hc
    exact .inl (List.append_eq_nil_iff.1 hc).1
  · refine .inr ⟨g, o, hA, fun i v hv => hc i v ?_⟩
    rw [e, List.getElem?_append_left (List.getElem?_eq_some_iff.1 hv).1]
    exact hv
set_option maxRecDepth 100000 in
theorem run_headB {n c k : Nat} {A : Option Addr} (h : k ≤ c) (hA : ∀ a, A = some a → a.spot = none) (W : World) :
    (Instr.sliceAt 32 (.slice A n c) none (some (.int .i64 k)) none).run Try.prog W = .ok (.slice A k c) W := by
  have ht := Try.underlying32
  have he : Try.prog.elem 32 = 50 := by unfold Program.elem; rw [ht]
  have hs : ∀ W : World, (sizeOf 50).run Try.prog W = .ok 2 W := fun W => by kernel_rfl
  rw [run_sliceAt_slice W _ _ _ _ _ (by rw [ht, he]), run_slice_h W _ A n c (by rw [ht, he]) .i64 k (by omega) (by omega), he, hs]
  simp only [Result.andThen_ok]
  congr 1
  unfold sliced
  have : (if c = 0 then A else A.map fun x => x.add (0 * 2)) = A := by
    cases A with
    | none => simp
    | some a =>
      obtain ⟨b, o, sp⟩ := a
      obtain rfl : sp = none := hA _ rfl
      simp [Addr.add_lit]
  rw [this]
  simp
theorem owns_spot {w : World} {base : Nat} {e : TypeId} {size n c : Nat} {A : Option Addr} {xs : List Value} (h : w.ownsRow base e size (.slice A n c) n xs) : n ≤ c ∧ ∀ a, A = some a → a.spot = none := by
  rcases h.2 with ⟨hv, h0⟩ | ⟨g, cap, cur, hv, _, _, hn, _⟩
  · injection hv with h1 _ _
    subst h1
    exact ⟨by omega, nofun⟩
  · injection hv with h1 _ h3
    subst h1 h3
    exact ⟨hn, fun a ha => by cases ha; rfl⟩
section
variable {z : Bool} {w wr : World} {d j i n q su m cc b : Nat} {A : Option Addr} {fs : List (Nat × List Bt)} {cur : List Bt} {s : Nat} {F : Nat → Prop} {l : List BtC}
theorem WbSt.move {pend : List Bt} {w1 : World} (h : WbSt z pend w d wr j i n q su m cc b A fs cur s F l) (hE : Ext wr w1) : WbSt z pend w d w1 j i n q su m cc b A fs cur s F l :=
  { h with disk := h.disk.ext hE, wri := h.wri.ext hE, own := h.own.ext hE, ext := h.ext.trans hE }
/-- Replay at a disk whose logs tell the batches bs. -/
theorem wb_replayD {W : World} {P : PD} {G : Nat → Prop} {bs : List Bt} {la : Int} (hD : DS W w.heap.size d P G) (h1 : (logsM P).length ≤ 50) (h2 : replM P 0 (logsM P) true 1 [] (-1) = .ok (bs, la)) :
    Calls Try.prog 19 #[.pointer (some ⟨d, 0, none⟩), .int .i64 0, .int .i64 1] W fun e w' => Ext W w' ∧ ∃ (l2 : List BtC) (A2 : Option Addr) (c2 : Nat) (la : Int), bs = l2.map BtC.bt ∧ e = .returned (.tuple #[.slice A2 l2.length c2, .int .i64 la, .int .i64 0]) ∧ BtsOwn w' W.heap.size A2 c2 l2 := by
  have hr := replay_any 50 67108864 (by omega) (by omega) (by omega) w.heap.size d P G 0 1 W hD (by unfold I64ok'; omega) (by unfold I64ok'; omega) h1 fun n _ => read_len P (nameW n) 0
  rw [h2] at hr
  refine hr.mono ?_
  rintro e w' ⟨hE, l2, A2, c2, h3, h4, h5⟩
  exact ⟨hE, l2, A2, c2, la, h3, h4, h5⟩
theorem wb_replay (h : WbSt z [] w d wr j i n q su m cc b A fs cur s F l) (hj : j ≤ 40) :
    Calls Try.prog 19 #[.pointer (some ⟨d, 0, none⟩), .int .i64 0, .int .i64 1] wr fun e w' => Ext wr w' ∧ ∃ (l2 : List BtC) (A2 : Option Addr) (c2 : Nat) (la : Int), l.map BtC.bt = l2.map BtC.bt ∧ e = .returned (.tuple #[.slice A2 l2.length c2, .int .i64 la, .int .i64 0]) ∧ BtsOwn w' wr.heap.size A2 c2 l2 := by
  obtain ⟨h1, la, h2⟩ := h.log.replay
  have := h.few
  have hall := h.all
  rw [List.append_nil] at hall
  rw [hall]
  exact wb_replayD h.disk (by omega) h2
theorem wb_restart (h : WbSt z [] w d wr j i n q su m cc b A fs cur s F l) (hj : j ≤ 40) {K : Option Addr} {kn kc : Nat} {keep : List Int} (hK : Cells wr K (keep.map I64)) (hKF : keep ≠ [] → ∀ a, K = some a → a.block < w.heap.size) (hkn : kn = keep.length)
    (hkb : ∀ k ∈ keep, -9223372036854775808 ≤ k ∧ k ≤ 9223372036854775807) (hkl : kn ≤ 9223372036854775807) :
    Calls Try.prog 20 #[.pointer (some ⟨d, 0, none⟩), .slice K kn kc] wr fun e w' => e = .returned (.tuple #[]) ∧ ∃ P F' k la, DS w' w.heap.size d P F' ∧ (logsM P).length ≤ 50 ∧ replM P 0 (logsM P) true 1 [] (-1) = .ok ((l.take k).map BtC.bt, la) ∧ su ≤ k ∧ k ≤ m ∧ BtsOwn w' w.heap.size A cc l ∧ Ext w w' := by
  refine (restart_any0 w.heap.size d _ F K kn kc keep wr h.disk hK (fun hne a ha hF => by
    have h1 := hKF hne a ha
    have h2 := h.disk.base_le hF
    omega) hkn hkb hkl).mono ?_
  rintro e w' ⟨rfl, F', hS', hC, _⟩
  obtain ⟨r, hr1, hr2, hr3, la, hr4⟩ := h.log.restart keep
  have hfew := h.few
  have hall := h.all
  rw [List.append_nil] at hall
  have hsu := h.sure
  have hlen : m = (fs.flatMap (·.2)).length + cur.length := by
    have := congrArg List.length hall
    unfold allB at this
    rw [List.length_map, List.length_append] at this
    have := h.len
    omega
  refine ⟨rfl, _, F', (fs.flatMap (·.2)).length + r, la, hS', by omega, ?_, by omega, by omega, h.own.disk h.disk hC, h.ext.chg hC fun k hk hF => by have := h.disk.base_le hF; omega⟩
  rw [hr4, List.map_take, hall]
  unfold allB
  rw [List.take_append, List.take_of_length_le (l := fs.flatMap (·.2)) (by omega), Nat.add_sub_cancel_left]
end
end Go.Proofs.Ytohphanbnhiodaa

/- loggialaw15: WalBack. -/
namespace Go.Proofs.Ytohphanbnhiodaa
open Go.RowKit Go.Maps

set_option maxRecDepth 100000 in
set_option maxHeartbeats 8000000 in
theorem walback_any (A0 A1 A2 A3 : Option Addr) (n0 c0 n1 c1 n2v c2 n3 c3 : Nat) (l0 l1 : List UInt8) (l2 : List Bool) (l3 : List Int) (w : World) (h0 : In8 w A0 n0 c0 l0) (h1 : In8 w A1 n1 c1 l1)
    (hn2v : n2v = l2.length) (h2 : Cells w A2 (l2.map Value.bool)) (hn3 : n3 = l3.length) (h3 : Cells w A3 (l3.map I64)) (hk3 : l3 ≠ [] → ∀ a, A3 = some a → a.block < w.heap.size) (hkb : ∀ k ∈ l3, -9223372036854775808 ≤ k ∧ k ≤ 9223372036854775807) (hl3 : n3 ≤ 9223372036854775807) :
    Calls Try.prog 5 #[.slice A0 n0 c0, .slice A1 n1 c1, .slice A2 n2v c2, .slice A3 n3 c3] w fun e w' => e = .returned (.bool true) ∧ Ext w w' := by
  have haw := hide (fun W => awake_any W)
  have hnew := hide (new_yes w.heap.size 0 w (by omega) (Nat.le_refl _))
  replace h0 := hide h0
  replace h1 := hide h1
  replace hn2v := hide hn2v
  replace h2 := hide h2
  replace hn3 := hide hn3
  replace h3 := hide h3
  go_enter Try.func5, Try.ntmps5
  go_wp2_with fail
  refine hnew.out.mono ?_
  rintro e w3 ⟨d, F, rfl, hS3, hF3, hE3⟩
  go_wp2_with fail
  refine (haw.out w3).mono ?_
  rintro e w4 ⟨rfl, hE4⟩
  have hop := open_any w.heap.size d ⟨[], 0, 0, false⟩ F 0 w4 (hS3.ext hE4) (by omega)
  rw [show ((0 : Nat) : Int) = 0 from rfl] at hop
  replace hop := hide hop
  go_wp2_with fail
  refine hop.out.mono ?_
  rintro e w5 ⟨b, rfl, hw5, hb5, hE5⟩
  have hS5 := hide (hS3.ext (hE4.trans hE5))
  have hE05 := hide (hE3.trans (hE4.trans hE5))
  replace hw5 := hide hw5
  clear hE3 hE4 hE5 hS3 hop hF3 hb5
  have hst := hide (WbInv.start hS5.out hw5.out hE05.out)
  clear hS5 hw5
  go_wp2_with fail
  go_loopw [11, 12, 13, 14, 15, 16, 17] (fun s11 s12 s13 s14 s15 s16 s17 wr => ∃ (i n q su m cc bw : Nat) (A : Option Addr), s11 = .int .i64 (n : Int) ∧ s12 = .int .i64 (q : Int) ∧ s13 = .int .i64 (su : Int) ∧ s14 = .pointer (some ⟨bw, 0, none⟩) ∧ s15 = .int .i64 0 ∧ s16 = .slice A m cc ∧ s17 = .int .i64 (i : Int) ∧ i ≤ 20 ∧ n ≤ 5 * i ∧ 1 ≤ q ∧ q ≤ 1 + 4 * i ∧ m ≤ i ∧ su ≤ m ∧ Hid (WbInv false [] w d wr i i n q su m cc bw A)) (fun _ _ _ _ _ _ s17 _ => 20 - (intOf s17).toNat)
  case atStart => exact ⟨0, 0, 1, 0, 0, 0, b, none, rfl, rfl, rfl, rfl, rfl, rfl, rfl, by omega, by omega, by omega, by omega, by omega, by omega, hst⟩
  case round =>
    clear hst hE05
    obtain ⟨i, n, q, su, m, cc, bw, A, rfl, rfl, rfl, rfl, rfl, rfl, rfl, hi, hn, hq1, hq2, hm, hsu, hinv⟩ := hrel
    by_cases hgo : i < n0 ∧ i < 20
    · obtain ⟨hi0, hi20⟩ := hgo
      have hi20i : (i : Int) < 20 := by omega
      have hEw : Hid (Ext w wr) := hide hinv.out.ext
      go_upto_region 12 with (fail)
      go_cut [70] from 59 to 70 (fun s70 wv => ∃ bo : Bool, s70 = .bool bo ∧ (bo = true → i < n1) ∧ wv = wr)
      case first =>
        by_cases hi1 : i < n1
        · obtain ⟨g1, o1, rfl, hc1⟩ := (h1.out.ext hEw.out).bytes.at_ (by have := h1.out.len; omega)
          have k1 := hc1 i (by have := h1.out.len; omega)
          obtain ⟨y1, hy1⟩ : ∃ y, y = l1[i]'(by have := h1.out.len; omega) := ⟨_, rfl⟩
          rw [← hy1] at k1
          have hyl := y1.toNat_lt
          replace hy1 := hide hy1
          clear hc1
          go_wp2_with fail
          all_goals
            go_meet
            case rel => exact ⟨_, rfl, fun _ => hi1, rfl⟩
        · go_wp2_with fail
          go_meet
          case rel => exact ⟨_, rfl, fun h => (by cases h), rfl⟩
      case rest =>
        obtain ⟨bo, rfl, hbo, rfl⟩ := hcut
        go_upto_if 70 with (fail)
        go_cut [11, 13, 14, 15] from 71 to 96 (fun s11 s13 s14 s15 wv => ∃ (n2 su2 b2 : Nat), s11 = .int .i64 (n2 : Int) ∧ s13 = .int .i64 (su2 : Int) ∧ s14 = .pointer (some ⟨b2, 0, none⟩) ∧ s15 = .int .i64 0 ∧ n2 ≤ 5 * (i + 1) ∧ su2 ≤ m ∧ Hid (WbInv false [] w d wv (i + 1) i n2 q su2 m cc b2 A))
        case first =>
          cases bo with
          | true =>
            have hi1 := hbo rfl
            have hsy := hide (wb_sync hinv.out)
            clear hbo
            go_wp2_with fail
            refine hsy.out.mono ?_
            rintro e w9 ⟨rfl, hi9⟩
            obtain ⟨g1, o1, rfl, hc1⟩ := (h1.out.ext hi9.ext).bytes.at_ (by have := h1.out.len; omega)
            have k1 := hc1 i (by have := h1.out.len; omega)
            obtain ⟨y1, hy1⟩ : ∃ y, y = (l1[i]'(by have := h1.out.len; omega)).toNat := ⟨_, rfl⟩
            rw [← hy1] at k1
            have hyl : y1 < 256 := by rw [hy1]; exact UInt8.toNat_lt _
            have hop := wb_open hi9.sures (n' := n + (1 + y1 % 5)) (by omega) (by omega) (by omega)
            have en : ((n + (1 + y1 % 5) : Nat) : Int) = (n : Int) + (1 + (y1 : Int) % 5) := by omega
            rw [en] at hop
            replace hop := hide hop
            replace hy1 := hide hy1
            replace en := hide en
            clear hc1 hi9
            go_wp2_with fail
            refine hop.out.mono ?_
            rintro e w10 ⟨b', rfl, hi10⟩
            have hi10' := hide (hi10)
            clear hi10
            go_wp2_with fail
            go_meet
            case rel => exact ⟨n + (1 + y1 % 5), m, b', by rw [en.out], rfl, rfl, rfl, by omega, Nat.le_refl _, hi10'⟩
          | false =>
            clear hbo
            go_wp2_with fail
            go_meet
            case rel => exact ⟨n, su, bw, rfl, rfl, rfl, rfl, by omega, hsu, hide (hinv.out.lax (by omega) (by omega))⟩
        case rest =>
          obtain ⟨n2, su2, b2, rfl, rfl, rfl, rfl, hn2, hsu2, hinv2⟩ := hcut
          clear hinv hEw hbo
          have hEc : Hid (Ext w wc) := hide hinv2.out.ext
          obtain ⟨g0, o0, rfl, hc0⟩ := (h0.out.ext hEc.out).bytes.at_ (by have := h0.out.len; omega)
          have k0 := hc0 i (by have := h0.out.len; omega)
          obtain ⟨y0, hy0⟩ : ∃ y, y = (l0[i]'(by have := h0.out.len; omega)).toNat := ⟨_, rfl⟩
          rw [← hy0] at k0
          have hyl : y0 < 256 := by rw [hy0]; exact UInt8.toNat_lt _
          replace hy0 := hide hy0
          have k0' := hide k0
          clear hc0 k0
          go_wp2_with fail
          have hst := hide (WbEv.start wc q)
          go_loopw [19] (fun s19 wi => ∃ (k dd : Nat) (C : Option Addr), s19 = .int .i64 (k : Int) ∧ k ≤ y0 % 4 + 1 ∧ Hid (WbEv wc wi wc.heap.size q k dd C)) (fun s19 _ => 4 - (intOf s19).toNat)
          case atStart => exact ⟨0, 0, none, rfl, by omega, hst⟩
          case round =>
            clear hst
            obtain ⟨wi, rfl⟩ : ∃ wi, wi = wr := ⟨_, rfl⟩
            obtain ⟨k, dd, C, rfl, hk, hev⟩ := hrel
            have hEi : Hid (Ext wc wi) := hide hev.out.ext
            have k0 := hEi.out.cell k0'.out
            obtain ⟨bk, hbk⟩ : ∃ g, g = wc.heap.size := ⟨_, rfl⟩
            rw [← hbk] at hev ⊢
            replace hbk := hide hbk
            have x0 := hev.out.cell0
            have x1 := hev.out.cell1
            by_cases hk4 : k ≤ y0 % 4
            · have hkm : (k : Int) ≤ (y0 : Int) % 4 := by omega
              obtain ⟨xl, hx1, hx2, hx3⟩ := hev.out.evs
              obtain ⟨w5, hw5⟩ : ∃ w5, w5 = wi.alloc (.cells #[.string ⟨#[109, 115, 103]⟩, .string ⟨#[116]⟩] 52) := ⟨_, rfl⟩
              have hE5 : Ext wi w5 := by rw [hw5]; exact (Ext.refl wi).alloc _
              have hown5 := hE5.owns hx1.own
              rw [hx2] at hown5
              have hown5' := hide hown5
              have hsz5 : wc.heap.size ≤ w5.heap.size := (hEi.out.trans hE5).size
              have hszw : w5.heap.size = wi.heap.size + 1 := by rw [hw5]; simp
              replace hx1 := hide hx1
              replace hx2 := hide hx2
              replace hx3 := hide hx3
              clear hown5
              go_wp2_with (at_builtin; rw [← hw5]; refine wpList_appZ (us := [.int .i64 (q : Int), .slice (some ⟨wi.heap.size, 0, none⟩) 1 1]) (m := 1) elemEv hown5'.out (by rw [hszw]) (.tmp 110) (.tmp 115) rfl rfl rfl rfl rfl (one_of rfl) (by omega) hsz5 (fun A8 c8 w8 ho8 hg8 hl8 => ?_); have hr8 := hev.out.mid hx1.out hx2.out hE5 hg8; have q1 : w8.cell? ⟨bk, 1, none⟩ = some (.slice C k dd) := hr8.cell 1 rfl; have qf := hr8.free 1; have hstep := hide (WbEv.step hev.out hx1.out hx2.out hx3.out hw5 (by omega) ho8 hg8); clear hr8 ho8 hg8 hl8)
              go_roundw
              case rel => exact ⟨k + 1, c8, A8, by go_num, by omega, hstep⟩
              case measure => simp [intOf]; omega
            · have hkm : (y0 : Int) % 4 < (k : Int) := by omega
              obtain ⟨xl, hx1, hx2, hx3⟩ := hev.out.evs
              obtain ⟨wS, hwS⟩ : ∃ wS, wS = wi.alloc (.cells #[.int .i64 (q : Int), .slice C k dd] 50) := ⟨_, rfl⟩
              have hES : Ext wi wS := by rw [hwS]; exact (Ext.refl wi).alloc _
              have hRS : Row wS wi.heap.size 50 #[.int .i64 (q : Int), .slice C k dd] := by rw [hwS]; exact Row.new wi _ _
              have hxw := (hx1.lower hEc.out.size).ext hES
              have hbt : xl.map (·.e) = (wbB q k).es := hx3
              have hBS : BsOk wS (some ⟨wi.heap.size, 0, none⟩) [⟨(q : Int), xl, C, dd⟩] := ⟨.inr ⟨wi.heap.size, 0, rfl, fun r v hv => by
                rw [Nat.zero_add]
                refine hRS.cell r ?_
                rw [← hx2]
                simpa [bcells, BtC.cells] using hv⟩, fun x hxx => by
                rw [List.mem_singleton.1 hxx]
                exact ⟨hxw.ok, by simp only; omega, by unfold I64ok'; simp only; omega⟩⟩
              have hap := hide (wb_append (hinv2.out.move (hEi.out.trans hES)) (bk := bk) (c := 1) hxw hbt hBS (hev.out.row.ext hES) hq1 (by omega) (by omega) (by omega) (by omega))
              replace hx1 := hide hx1
              replace hx2 := hide hx2
              replace hx3 := hide hx3
              replace hbt := hide hbt
              clear hBS hRS hxw
              go_wp2_with fail
              rw [← hwS]
              refine hap.out.mono ?_
              rintro e w6 ⟨rfl, hi6, hx6, hr6⟩
              have x0 := hr6.cell 0 rfl
              have x1 := hr6.cell 1 rfl
              obtain ⟨fs, cur, s, F6, l, hW⟩ := hi6
              have hown6 := hW.own.own
              rw [← hW.len] at hown6
              have hE6 := hW.ext.size
              have hpush : ∀ (A' : Option Addr) (cc' : Nat) (w' : World), w'.ownsRow w.heap.size 50 2 (.slice A' (m + 1) cc') (m + 1) (bcells l ++ [.int .i64 (q : Int), .slice C k dd]) → w6.grownBy w' (Value.slice A m cc).ownBlock → WbInv false [] w d w' (i + 1) (i + 1) n2 (q + k) su2 (m + 1) cc' b2 A' :=
                fun A' cc' w' ho hg => hW.push hx6 hbt.out hq1 (by omega) (by omega) (by rw [hx2.out]; exact ho) hg
              have hpush := hide hpush
              have hown6' := hide hown6
              clear hown6 hW hr6 hx6
              go_upto_region 29 with (at_builtin; refine wpList_appZ (us := [.int .i64 (q : Int), .slice C k dd]) (m := 1) elemBt hown6'.out rfl (.tmp 128) (.tmp 130) rfl rfl rfl rfl rfl (one_of rfl) (by omega) hE6 (fun A8 c8 w8 ho8 hg8 hl8 => ?_); have hinv8 := hide (hpush.out _ _ _ ho8 hg8); clear ho8 hg8 hl8)
              have hE08 : Hid (Ext w w8) := hide hinv8.out.ext
              go_cut [141] from 132 to 141 (fun s141 wv => ∃ bo2 : Bool, s141 = .bool bo2 ∧ wv = w8)
              case first =>
                by_cases hi2 : i < n2v
                · obtain ⟨g2, o2, rfl, hc2⟩ := (h2.out.ext hE08.out).at_ (by rw [List.length_map]; have := hn2v.out; omega)
                  obtain ⟨y2, hy2⟩ : ∃ y, l2[i]? = some y := ⟨_, List.getElem?_eq_getElem (by have := hn2v.out; omega)⟩
                  have k2 := hc2 i (.bool y2) (by rw [List.getElem?_map, hy2]; rfl)
                  clear hc2 hy2
                  go_wp2_with fail
                  go_meet
                  case rel => exact ⟨y2, rfl, rfl⟩
                · go_wp2_with fail
                  go_meet
                  case rel => exact ⟨_, rfl, rfl⟩
              case rest =>
                obtain ⟨bo2, rfl, rfl⟩ := hcut
                cases bo2 with
                | true =>
                  have hsy := hide (wb_sync hinv8.out)
                  go_wp2_with fail
                  refine hsy.out.mono ?_
                  rintro e w9 ⟨rfl, hi9⟩
                  have hi9' := hide (hi9.sures.lax (Nat.le_refl _) (Nat.le_refl _))
                  clear hi9
                  go_wp2_with fail
                  go_roundw
                  case rel => exact ⟨i + 1, n2, q + k, m + 1, m + 1, c8, b2, A8, rfl, by go_num, rfl, rfl, rfl, rfl, by go_num, by omega, hn2, by omega, by omega, by omega, by omega, hi9'⟩
                  case measure => simp [intOf]; omega
                | false =>
                  go_wp2_with fail
                  go_roundw
                  case rel => exact ⟨i + 1, n2, q + k, su2, m + 1, c8, b2, A8, rfl, by go_num, rfl, rfl, rfl, rfl, by go_num, by omega, hn2, by omega, by omega, by omega, by omega, hinv8⟩
                  case measure => simp [intOf]; omega
    · have hEw : Hid (Ext w wr) := hide hinv.out.ext
      obtain ⟨fs, cur, s, F2, l, hW⟩ := hinv.out
      have hmi : m ≤ 20 := by omega
      have hrp := hide (wb_replay hW (by omega))
      have hW' := hide hW
      have hbo : BtsOwn wr w.heap.size A cc l := hW.own
      have hml : m = l.length := hW.len
      have hlen : l.length ≤ 20 := by omega
      replace hml := hide hml
      obtain ⟨hmc, hspot⟩ := owns_spot hbo.own
      rw [← hml.out] at hmc
      have hmc' := hide hmc
      have hbo' := hide hbo
      clear hbo hW hinv hmc
      have hge : i < n0 → ¬ ((i : Int) < 20) := fun h => by omega
      by_cases hi0 : i < n0
      case' pos => have hi20 := hge hi0
      all_goals
        clear hge hgo
        go_upto_region 33 with (fail)
        go_wp2_with fail
        refine hrp.out.mono ?_
        rintro e w6 ⟨hE6, l4, A4, c4, la, hl4, rfl, ho4⟩
        have hll : l4.length = l.length := by have := congrArg List.length hl4; rw [List.length_map, List.length_map] at this; exact this.symm
        have hsame := samebatches_any l4 l A4 A c4 cc w6 ho4.ok ((hbo'.out.ext hE6).ok) hl4.symm (by omega)
        rw [hll, ← hml.out] at hsame
        rw [hll, ← hml.out]
        replace hsame := hide hsame
        replace hl4 := hide hl4
        replace hll := hide hll
        go_wp2_with fail
        refine hsame.out.mono ?_
        rintro e w7 ⟨rfl, hE7⟩
        have hres := hide (wb_restart (hW'.out.move (hE6.trans hE7)) (by omega) (K := A3) (kn := n3) (kc := c3) (keep := l3) (h3.out.ext ((hEw.out.trans hE6).trans hE7)) hk3 hn3.out hkb hl3)
        go_wp2_with fail
        refine hres.out.mono ?_
        rintro e w8 ⟨rfl, P, F', k, la2, hD8, hlg, hrp2, hsuk, hkm, hbo8, hE8⟩
        have hr8 := hide (wb_replayD (w := w) hD8 hlg hrp2)
        replace hrp2 := hide hrp2
        go_wp2_with fail
        refine hr8.out.mono ?_
        rintro e w9 ⟨hE9, l5, A5, c5, la3, hl5, rfl, ho5⟩
        have hk5 : l5.length = k := by
          have := congrArg List.length hl5
          rw [List.length_map, List.length_map, List.length_take, ← hml.out] at this
          omega
        have htk : (l.take k).length = k := by rw [List.length_take, ← hml.out]; omega
        have hsame2 := samebatches_any l5 (l.take k) A5 A c5 cc w9 ho5.ok ((hbo8.ext hE9).ok.take k) hl5.symm (by omega)
        rw [hk5, htk] at hsame2
        rw [hk5]
        have hrun := run_headB (n := m) (c := cc) (k := k) (A := A) (by have := hmc'.out; omega) hspot
        replace hsame2 := hide hsame2
        replace hk5 := hide hk5
        replace htk := hide htk
        replace hl5 := hide hl5
        clear hspot
        go_wp2_with fail
        refine hsame2.out.mono ?_
        rintro e w10 ⟨rfl, hE10⟩
        go_wp2_with fail
        go_ret
        exact ⟨rfl, (hE8.trans hE9).trans hE10⟩
end Go.Proofs.Ytohphanbnhiodaa

/- Rows of bools and of ints that came in: opening. -/
namespace Go.Proofs.Ytohphanbnhiodaa
open Go.ChangeShapes Go.WideShapes Go.Deep Go.RowKit

section
variable {H : Type} {enc : TypeId × Value → H} {w : World} {base : Nat} {spare : Nat → Bool} {held : Bool}
theorem flat_one {α : Type} (f : α → Value) (l : List α) : l.flatMap (fun x => [f x]) = l.map f := by
  induction l with
  | nil => rfl
  | cons x l ih => rw [List.flatMap_cons, List.map_cons, ih]; rfl
set_option maxRecDepth 100000 in
theorem in_bools {fuel : Nat} {v : Value} {x : DataW H × List MemPlace} (h : DataW.trod enc Try.prog w base spare held fuel 39 [v] = some x) :
    ∃ (A : Option Addr) (c : Nat) (l : List Bool), v = .slice A l.length c ∧ Cells w A (l.map Value.bool) := by
  obtain ⟨A, c, l, rfl, hc, _, _, hl, hx⟩ := in_row_of (cellsA := fun b : Bool => [Value.bool b]) (Q := fun _ => True) Try.underlying39 (by kernel_rfl) (by omega : 0 < 1) (fun _ => rfl) (fun fuel cs y hl h => by
    match cs, hl with
    | [v], _ =>
      obtain ⟨b, e, _⟩ := DataW.trod_bool Try.underlying4 h
      exact ⟨b, trivial, e.symm⟩) h
  rw [flat_one] at hc
  exact ⟨A, c, l, rfl, hc⟩
end
end Go.Proofs.Ytohphanbnhiodaa

