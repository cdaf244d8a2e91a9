/- loggialaw31: LinesBack, walked. -/
import Derived.Test.YtpajpdkliohepaaDoorLaD
namespace Go.Proofs.YtpajpdkliohepaaDoor
open Go.RowKit

theorem dec_10 (u : Nat) : 10 ∉ Lib.decDigits u := fun h => absurd (dec_dig u 10 h) (by decide)
theorem itoa_10 (n : Int) : 10 ∉ Lib.itoa n := fun h => by
  unfold Lib.itoa at h
  split at h
  · rcases List.mem_cons.1 h with h | h
    · exact absurd h (by decide)
    · exact dec_10 _ h
  · exact dec_10 _ h
theorem name_10 {s : List UInt8} (h : nameL s = true) : 10 ∉ s := fun hm => by
  unfold nameL at h
  rw [Bool.and_eq_true, List.all_eq_true] at h
  exact absurd (h.1 10 hm) (by decide)
theorem checkF_names : ∀ {fs : List Fd}, checkF fs = 0 → ∀ f ∈ fs, nameL f.1 = true
  | [], _ => nofun
  | f :: fs, h => by
    unfold checkF at h
    split at h
    · cases h
    · rename_i hn
      split at h
      · cases h
      · intro g hg
        rcases List.mem_cons.1 hg with rfl | hg
        · simpa using hn
        · exact checkF_names h g hg
theorem checkE_names {fs : List Fd} (h : checkE fs = 0) : ∀ f ∈ fs, nameL f.1 = true := by
  unfold checkE at h
  split at h
  · cases h
  · exact checkF_names h
theorem fmt_10 {at_ : Int} {fs : List Fd} (h : checkE fs = 0) : 10 ∉ fmtL at_ fs := fun hm => by
  rw [fmtL_eq] at hm
  rcases List.mem_append.1 hm with hm | hm
  · exact itoa_10 _ hm
  · unfold flds at hm
    obtain ⟨f, hf, hm⟩ := List.mem_flatMap.1 hm
    unfold fieldL at hm
    rcases List.mem_cons.1 hm with hm | hm
    · exact absurd hm (by decide)
    · rcases List.mem_append.1 hm with hm | hm
      · exact name_10 (checkE_names h f hf) hm
      · rcases List.mem_cons.1 hm with hm | hm
        · exact absurd hm (by decide)
        · exact absurd (quote_range hm).1 (by decide)
theorem fmt_skip (at_ : Int) (fs : List Fd) : skipL (fmtL at_ fs) = false := by
  rw [fmtL_eq]
  cases hd : Lib.itoa at_ with
  | nil =>
    unfold Lib.itoa at hd
    split at hd
    · cases hd
    · exact absurd hd (dec_ne _)
  | cons c r =>
    have hc : c ≠ 35 := fun hc => by
      unfold Lib.itoa at hd
      split at hd
      · injection hd with hd _
        rw [hc] at hd
        exact absurd hd (by decide)
      · have := dec_dig _ c (by rw [hd]; simp)
        rw [hc] at this
        exact absurd this (by decide)
    simp [skipL, hc]
theorem read_all : ∀ {es : List Ev} (n : Nat), (∀ e ∈ es, I64ok' e.at_) → (∀ e ∈ es, checkE e.fs = 0) → readR n (linesL (allT es)) = .ok es
  | [], n, _, _ => by
    show readR n [[]] = .ok []
    rw [readR_skip rfl]
    rfl
  | e :: es, n, ha, h => by
    have h1 : allT (e :: es) = fmtL e.at_ e.fs ++ 10 :: allT es := by unfold allT lineL; simp
    have hc := h e (by simp)
    rw [h1, linesL_app (fmt_10 hc)]
    unfold readR
    rw [fmt_skip, if_neg (by simp), evOf_some ⟨ha e (by simp), hc, rfl⟩]
    simp only
    rw [read_all (n + 1) (fun x hx => ha x (by simp [hx])) fun x hx => h x (by simp [hx])]
def some8 : List UInt8 := [35, 32, 115, 111, 109, 101, 10, 10]
theorem read_some (es : List Ev) (ha : ∀ e ∈ es, I64ok' e.at_) (h : ∀ e ∈ es, checkE e.fs = 0) : readR 1 (linesL (some8 ++ allT es)) = .ok es := by
  rw [show some8 ++ allT es = [35, 32, 115, 111, 109, 101] ++ 10 :: ([] ++ 10 :: allT es) from rfl, linesL_app (by decide), linesL_app (by simp), readR_skip (by rfl), readR_skip (by rfl)]
  exact read_all _ ha h
theorem field_300 {f : Fd} (h1 : f.1.length ≤ 32) (h2 : f.2.length ≤ 300) : (fieldL f).length ≤ 1300 := by
  have := quote_len f.2
  unfold fieldL
  simp
  omega
theorem flds_300 : ∀ {fs : List Fd}, (∀ f ∈ fs, f.1.length ≤ 32 ∧ f.2.length ≤ 300) → (flds fs).length ≤ 1300 * fs.length
  | [], _ => by simp [flds]
  | f :: fs, h => by
    rw [flds_cons, List.length_append, List.length_cons]
    have := flds_300 (fs := fs) fun x hx => h x (by simp [hx])
    have h1 := h f (by simp)
    have := field_300 h1.1 h1.2
    omega
theorem allT_300 : ∀ {es : List Ev}, (∀ e ∈ es, I64ok' e.at_) → (∀ e ∈ es, checkE e.fs = 0) → (∀ e ∈ es, ∀ f ∈ e.fs, f.2.length ≤ 300) → (allT es).length ≤ 21000 * es.length
  | [], _, _, _ => by simp [allT]
  | e :: es, ha, h, hs => by
    have h1 := allT_300 (es := es) (fun x hx => ha x (by simp [hx])) (fun x hx => h x (by simp [hx])) fun x hx => hs x (by simp [hx])
    have hc := checkE_ok (h e (by simp))
    have h2 := flds_300 (fs := e.fs) fun f hf => ⟨(hc.2 f hf).1, hs e (by simp) f hf⟩
    have h5 := itoa_len (ha e (by simp)).1 (ha e (by simp)).2
    have h3 : (lineL e).length = (Lib.itoa e.at_).length + (flds e.fs).length + 1 := by unfold lineL; rw [fmtL_eq, List.length_append, List.length_append]; rfl
    have h4 : (allT (e :: es)).length = (lineL e).length + (allT es).length := by unfold allT; rw [List.flatMap_cons, List.length_append]
    rw [h4, h3, List.length_cons]
    omega
theorem allK_all : ∀ {es : List Ev}, allK es = 0 → ∀ e ∈ es, checkE e.fs = 0
  | [], _ => nofun
  | x :: es, h => by
    unfold allK at h
    split at h
    · rename_i hx
      intro e he
      rcases List.mem_cons.1 he with rfl | he
      · exact hx
      · exact allK_all h e he
    · rename_i hx
      exact absurd h hx
theorem few_300 {l : List Ev} : ∀ e ∈ fewL l, ∀ f ∈ e.fs, f.2.length ≤ 300 := fun e he f hf => by
  unfold fewL at he
  obtain ⟨x, _, rfl⟩ := List.mem_map.1 he
  unfold fewE at hf
  obtain ⟨g, _, rfl⟩ := List.mem_map.1 hf
  unfold cutF
  simp only
  rw [List.length_take]
  omega
set_option maxRecDepth 100000 in
set_option maxHeartbeats 4000000 in
theorem back_any (l0 : List EvC) (A0 : Option Addr) (c0 : Nat) (text0 : List UInt8) (w : World) (hok : EvsOk w A0 l0) (hn : l0.length ≤ 9223372036854775807) (hat : ∀ x ∈ l0, I64ok' x.e.at_) (hl : text0.length ≤ 9223372036854775807) (hv : Vars w) :
    Calls Tryd.prog 6 #[.slice A0 l0.length c0, .string ⟨text0.toArray⟩] w fun en w' => en = .returned (.bool true) ∧ Ext w w' := by
  have hfew := hide (few_any l0 A0 c0 w hok hn)
  have hcut := hide (fun W => cut_any text0 W hl)
  obtain ⟨t, ht⟩ : ∃ t, t = text0.take 3000 := ⟨_, rfl⟩
  have htl : t.length ≤ 3000 := by rw [ht, List.length_take]; omega
  rw [← ht] at hcut
  obtain ⟨n0, hn0⟩ : ∃ n0, n0 = l0.length := ⟨_, rfl⟩
  rw [← hn0] at hfew ⊢
  replace hv := hide hv
  clear ht hn0
  go_enter Tryd.func6, Tryd.ntmps6
  go_wp2_with fail
  refine hfew.out.mono ?_
  rintro en w1 ⟨A, l, c, rfl, hE1, hok1, hm1, hl20⟩
  have hat1 := ints_of_few hm1 hat
  have hall := fun W hE => all_any l A c W (hok1.ext hE) hl20 hat1 (hv.out.ext (hE1.trans hE)).tabs
  unfold AllP at hall
  have h300 : ∀ e ∈ l.map (·.e), ∀ f ∈ e.fs, f.2.length ≤ 300 := by rw [hm1]; exact few_300
  have hatL : ∀ e ∈ l.map (·.e), I64ok' e.at_ := fun e he => by obtain ⟨x, hx, rfl⟩ := List.mem_map.1 he; exact hat1 x hx
  have hrs := fun h => read_some (l.map (·.e)) hatL (allK_all h)
  have hrl := fun h => allT_300 hatL (allK_all h) h300
  rw [List.length_map] at hrl
  have hR : ∃ T k, allR (l.map (·.e)) = (T, k) ∧ (k = 0 → readR 1 (linesL (some8 ++ T)) = .ok (l.map (·.e)) ∧ T.length ≤ 420000) := by
    unfold allR
    split
    · rename_i h0
      split
      · exact ⟨_, _, rfl, fun h => absurd h (by decide)⟩
      · exact ⟨_, _, rfl, fun _ => ⟨hrs h0, by have := hrl h0; omega⟩⟩
    · rename_i h0
      exact ⟨_, _, rfl, fun h => absurd h h0⟩
  obtain ⟨T, k, hP, hTk⟩ := hR
  rw [hP] at hall
  simp only at hall
  replace hTk := hide hTk
  replace hall := hide hall
  clear hP hrs hrl h300 hm1 hatL
  go_wp2_with fail
  refine (hcut.out _).mono ?_
  rintro en w2 ⟨rfl, rfl⟩
  go_wp2_with fail
  refine (hall.out _ (Ext.refl _)).mono ?_
  rintro en w3 ⟨rfl, hE3⟩
  have hE03 := hide (hE1.trans hE3)
  by_cases hk0 : k = 0
  case' pos =>
    subst hk0
    obtain ⟨hrd, hTl⟩ := hTk.out rfl
    have hrc := hide (read_any (some8 ++ T) w3 (by rw [List.length_append, show some8.length = 8 from rfl]; omega) (hv.out.ext hE03.out))
    have hcat : (ByteArray.mk #[35, 32, 115, 111, 109, 101, 10, 10] ++ ByteArray.mk T.toArray) = ⟨(some8 ++ T).toArray⟩ := cat2 some8 T
    rw [← hcat] at hrc
    have hsl : 8 + T.length ≤ 9223372036854775807 := by omega
    replace hrd := hide hrd
    clear hcat
    go_wp2_with fail
    refine hrc.out.mono ?_
    rintro en w4 ⟨hE4, hc⟩
    obtain ⟨l', A', c', hm', rfl, hok'⟩ : ∃ (l' : List EvC) (A' : Option Addr) (c' : Nat), l.map (·.e) = l'.map (·.e) ∧ en = .returned (.tuple #[.slice A' l'.length c', .int .i64 0, .int .i64 0]) ∧ EvsOk w4 A' l' := by
      rcases hc with ⟨l', A', c', h1, h2, h3⟩ | ⟨m, h1, _⟩
      · rw [hrd.out] at h1
        injection h1 with h1
        exact ⟨l', A', c', h1, h2, h3⟩
      · rw [hrd.out] at h1
        cases h1
    have hsm := hide (sameall_any l l' A A' c c' w4 (hok1.ext (hE3.trans hE4)) hok' hm' (by omega))
    have hE04 := hide (hE03.out.trans hE4)
    clear hc hTk
    go_wp2_with fail
    refine hsm.out.mono ?_
    rintro en w5 ⟨rfl, hE5⟩
    have hpa := hide (vparse_any t w5 (by omega) (hv.out.ext (hE04.out.trans hE5)))
    have hE09 := hide (hE04.out.trans hE5)
    clear hE4 hE5 hrd
    go_wp2_with fail
    refine hpa.out.mono ?_
    rintro en w8 hP
  case' neg =>
    have hk0' : ¬ (k : Int) = 0 := by omega
    have hpa := hide (vparse_any t w3 (by omega) (hv.out.ext hE03.out))
    have hE09 := hE03
    clear hTk
    go_wp2_with fail
    refine hpa.out.mono ?_
    rintro en w8 hP
  all_goals
    obtain ⟨hE8, e, B, d, j, rfl, hB, hi⟩ := hP.own
    have hE08 := hide (hE09.out.trans hE8)
    have hBok := hB.ok
    unfold Ev.val
    clear hP hE8 hE09 hpa
    obtain ⟨w9, hw9⟩ : ∃ w9, w9 = w8.alloc (.cells #[.int .i64 e.at_, .slice B e.fs.length d] 24) := ⟨_, rfl⟩
    have hE9 : Ext w8 w9 := by rw [hw9]; exact (Ext.refl w8).alloc _
    have hr9 : Row w9 w8.heap.size 24 #[.int .i64 e.at_, .slice B e.fs.length d] := by rw [hw9]; exact Row.new w8 _ _
    have x0 := hr9.cell 0 rfl
    have x1 := hr9.cell 1 rfl
    have hE19 := hide (hE08.out.trans hE9)
    rw [hw9] at x0 x1
    rcases hi with ⟨rfl, hea, hck, hfm⟩ | ⟨rfl, he0, hn0⟩
    · have hf := hide (format_any e B d w9 (hBok.ext hE9) hea (hv.out.ext hE19.out).tabs)
      unfold Ev.val FmtP at hf
      rw [hck, if_pos rfl, hfm] at hf
      have hbe : (t == t) = true := beq_iff_eq.2 rfl
      replace hw9 := hide hw9
      clear hck hfm
      go_wp2_with fail
      rw [← hw9.out]
      refine hf.out.mono ?_
      rintro en w10 ⟨rfl, hE10⟩
      have haw := hide (awake_any w10 (hv.out.ext (hE19.out.trans hE10)))
      go_wp2_with fail
      refine haw.out.mono ?_
      rintro en w11 ⟨rfl, hE11⟩
      go_wp2_with fail
      go_ret
      exact ⟨rfl, hE19.out.trans (hE10.trans hE11)⟩
    · have haw := hide (awake_any w9 (hv.out.ext hE19.out))
      clear he0 hn0
      replace hw9 := hide hw9
      go_wp2_with fail
      rw [← hw9.out]
      refine haw.out.mono ?_
      rintro en w11 ⟨rfl, hE11⟩
      go_wp2_with fail
      go_ret
      exact ⟨rfl, hE19.out.trans hE11⟩
end Go.Proofs.YtpajpdkliohepaaDoor
