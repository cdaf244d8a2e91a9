/- loggialaw06: DiskMany. -/
import Derived.Test.YticnncgbfpgeaaaDlA
namespace Go.Proofs.Yticnncgbfpgeaaa
open Go.RowKit Go.Maps

def nth (i : Nat) : List UInt8 := [102, UInt8.ofNat (97 + i / 676), UInt8.ofNat (97 + i / 26 % 26), UInt8.ofNat (97 + i % 26)]
theorem nth_next : ∀ i : Fin 1030, nth i.val < nth (i.val + 1) := by decide +kernel
theorem nth_ok : ∀ i : Fin 1030, namedM (nth i.val) = true := by decide +kernel
theorem nth_lt : ∀ (i j : Nat), j < i → i < 1030 → nth j < nth i
  | 0, j, h, _ => by omega
  | i + 1, j, h, hi => by
    have h1 := nth_next ⟨i, by omega⟩
    by_cases hj : j = i
    · rw [hj]; exact h1
    · exact List.lt_trans (nth_lt i j (by omega) (by omega)) h1
/-- The files behind i calls. -/
def manyL (i : Nat) : List PF := (List.range (min i 1024)).map fun j => (nth j, [], 0)
def manyP (i : Nat) : PD := ⟨manyL i, 0, 0, false⟩
theorem ins_last {f : PF} : ∀ {l : List PF}, (∀ x ∈ l, fname x < fname f) → insG fname f l = l ++ [f]
  | [], _ => rfl
  | x :: xs, h => by
    have h1 := h x (List.mem_cons_self ..)
    have h2 : ¬ fname f < fname x := fun h3 => List.lt_irrefl _ (List.lt_trans h1 h3)
    unfold insG
    simp only [decide_eq_false h2, Bool.false_eq_true, if_false]
    rw [ins_last fun y hy => h y (List.mem_cons_of_mem _ hy)]
    rfl
theorem many_mem {i : Nat} {f : PF} (h : f ∈ manyL i) : ∃ j, j < min i 1024 ∧ f = (nth j, [], 0) := by
  unfold manyL at h
  obtain ⟨j, hj, rfl⟩ := List.mem_map.1 h
  exact ⟨j, List.mem_range.1 hj, rfl⟩
theorem many_step (i : Nat) (hi : i < 1026) : appendM (manyP i) (nth i) [] = (manyP (i + 1), if i < 1024 then 0 else 3) := by
  have hno : ∀ f ∈ (manyP i).L, f.1 ≠ nth i := by
    intro f hf he
    obtain ⟨j, hj, rfl⟩ := many_mem hf
    have : nth j = nth i := he
    have h2 := nth_lt i j (by omega) (by omega)
    rw [this] at h2
    exact List.lt_irrefl _ h2
  have hll : (manyP i).L.length = min i 1024 := by unfold manyP manyL; simp
  unfold appendM
  rw [nth_ok ⟨i, by omega⟩, find_no hno]
  simp only [if_true]
  show (if (manyP i).stopped = true then _ else _) = _
  rw [if_neg (show ¬ ((manyP i).stopped = true) from Bool.false_ne_true), hll]
  by_cases h : i < 1024
  · rw [if_neg (by omega), if_pos h]
    unfold putM
    have hf : fullM (manyP i) ([] : List UInt8).length = false := by unfold fullM; simp
    rw [hf]
    show (if 67108864 < 0 then _ else _) = _
    rw [if_neg (by omega), if_neg (by decide), if_neg (show ¬ (manyP i).armed = 1 by show ¬ (0 = 1); omega)]
    have hw : withG fname (nth i, [] ++ [], 0) (manyL i) = manyL (i + 1) := by
      unfold withG
      rw [show withoutG fname (fname ((nth i, [] ++ [], 0) : PF)) (manyL i) = manyL i from without_no (fun x hx => hno x hx), ins_last (fun x hx => by
        obtain ⟨j, hj, rfl⟩ := many_mem hx
        exact nth_lt i j (by omega) (by omega))]
      unfold manyL
      rw [Nat.min_eq_left (by omega), Nat.min_eq_left (by omega), List.range_succ, List.map_append]
      rfl
    unfold PD.goes
    show (({ L := withG fname (nth i, [] ++ [], 0) (manyL i), quota := 0, armed := 0 - 1, stopped := false } : PD), 0) = _
    rw [hw]
    rfl
  · rw [if_pos (by omega), if_neg h]
    unfold manyP manyL
    rw [Nat.min_eq_right (by omega), Nat.min_eq_right (by omega)]
theorem many_list (i : Nat) : (listM (manyP i)).length = min i 1024 := by unfold listM manyP manyL; simp
theorem many_first (i : Nat) (hi : 0 < i) : (appendM (manyP i) (nth 0) [1]).2 = 0 := by
  have hf : (manyP i).find (nth 0) = some (nth 0, [], 0) := by
    unfold PD.find manyP manyL
    obtain ⟨k, hk⟩ : ∃ k, min i 1024 = k + 1 := ⟨min i 1024 - 1, by omega⟩
    rw [hk, List.range_succ_eq_map, List.map_cons, List.find?_cons]
    simp [fname]
  unfold appendM
  rw [hf, nth_ok ⟨0, by omega⟩]
  simp only [if_true]
  show (if (manyP i).stopped = true then _ else _ : PD × Nat).2 = _
  rw [if_neg (show ¬ ((manyP i).stopped = true) from Bool.false_ne_true)]
  unfold putM
  have hfu : fullM (manyP i) [(1 : UInt8)].length = false := by unfold fullM manyP; simp
  rw [hfu]
  show (if 67108864 < 0 + 1 then _ else _ : PD × Nat).2 = _
  rw [if_neg (by omega), if_neg (by decide), if_neg (show ¬ (manyP i).armed = 1 by show ¬ (0 = 1); omega)]
set_option maxRecDepth 100000 in
set_option maxHeartbeats 2000000 in
theorem many_any (more : Nat) (w : World) (hmore : more < 256) : Calls Try.prog 3 #[.int .u8 more] w fun e w' => e = .returned (.bool true) ∧ Ext w w' := by
  have hnew := new_yes w.heap.size 0 w (by omega) (Nat.le_refl _)
  replace hnew := hide hnew
  obtain ⟨n, hn⟩ : ∃ n, n = 1023 + more % 3 := ⟨_, rfl⟩
  have hni : (1023 : Int) + (more : Int) % 3 = n := by omega
  have hn2 : n ≤ 1025 := by omega
  have hn3 : 1023 ≤ n := by omega
  replace hn := hide hn
  go_enter Try.func3, Try.ntmps3
  go_wp2_with fail
  refine hnew.out.mono ?_
  rintro e w1 ⟨d, F, rfl, hS1, hF1, hE1⟩
  have haw := awake_any w1
  replace haw := hide haw
  go_wp2_with fail
  refine haw.out.mono ?_
  rintro e w2 ⟨rfl, hE2⟩
  have hS2 := hS1.ext hE2
  have hE12 := hE1.trans hE2
  go_wp2_with fail
  try rw [hni]
  go_loopw [6] (fun s6 wr => ∃ (i : Nat) (Fi : Nat → Prop), s6 = .int .i64 i ∧ i ≤ n ∧ Hid (DS wr w.heap.size d (manyP i) Fi) ∧ Ext w wr) (fun s6 _ => n - (intOf s6).toNat)
  case atStart => exact ⟨0, F, rfl, by omega, hide hS2, hE12⟩
  case round =>
    obtain ⟨i, Fi, rfl, hi, hS, hE⟩ := hrel
    by_cases hin : i < n
    · obtain ⟨cs, hcs⟩ : ∃ cs : Array Value, cs = #[.int .u8 102, .int .u8 (97 + (i : Int) / 676), .int .u8 (97 + (i : Int) / 26 % 26), .int .u8 (97 + (i : Int) % 26)] := ⟨_, rfl⟩
      have hcs2 : cs = ((nth i).map B8).toArray := by
        rw [hcs]
        unfold nth B8
        simp only [List.map_cons, List.map_nil, UInt8.toNat_ofNat']
        rw [Nat.mod_eq_of_lt (show 97 + i / 676 < 256 by omega), Nat.mod_eq_of_lt (show 97 + i / 26 % 26 < 256 by omega), Nat.mod_eq_of_lt (show 97 + i % 26 < 256 by omega)]
        simp
      have hbs : Bs (wr.alloc (.cells cs 5)) (some ⟨wr.heap.size, 0, none⟩) (nth i) := by rw [hcs2]; exact marked_bytes wr _ _ (0, 0)
      have hstr := run_str hbs 4 4 rfl
      have hEa : Ext wr (wr.alloc (.cells cs 5)) := (Ext.refl wr).alloc _
      have hap := append_any w.heap.size d (manyP i) Fi (nth i) [] none 0 0 _ (hS.out.ext hEa) (by unfold nth; simp) (.inl rfl) nofun rfl (by omega) (Nat.le_trans hE.size hEa.size)
      rw [many_step i (by omega)] at hap
      have hSa := hS.out.ext hEa
      have hEEa := hE.trans hEa
      obtain ⟨ns, hns⟩ : ∃ ns : ByteArray, ns = ⟨(nth i).toArray⟩ := ⟨_, rfl⟩
      unfold str at hap
      rw [← hns] at hstr hap
      rw [hcs] at hstr hap hSa hEEa
      replace hap := hide hap
      replace hns := hide hns
      clear hbs hcs2
      by_cases h24 : i < 1024
      · have hap2 := hap.out
        rw [if_pos h24] at hap2
        replace hap2 := hide hap2
        go_wp2_with fail
        refine hap2.out.mono ?_
        rintro e w3 ⟨rfl, hn3⟩
        obtain ⟨F3, hS3, hE3⟩ := hn3.ext hSa hEEa (Nat.le_refl _)
        have q1 : decide ((i : Int) < 1024) = true := decide_eq_true (by omega)
        have q2 : decide ((1024 : Int) ≤ i) = false := decide_eq_false (by omega)
        go_wp2_with fail
        go_roundw
        case rel => exact ⟨i + 1, F3, by go_num, by omega, hide hS3, hE3⟩
        case measure => simp [intOf]; omega
      · have hap2 := hap.out
        rw [if_neg h24] at hap2
        replace hap2 := hide hap2
        go_wp2_with fail
        refine hap2.out.mono ?_
        rintro e w3 ⟨rfl, hn3⟩
        obtain ⟨F3, hS3, hE3⟩ := hn3.ext hSa hEEa (Nat.le_refl _)
        have q1 : decide ((i : Int) < 1024) = false := decide_eq_false (by omega)
        have q2 : decide ((1024 : Int) ≤ i) = true := decide_eq_true (by omega)
        go_wp2_with fail
        go_roundw
        case rel => exact ⟨i + 1, F3, by go_num, by omega, hide hS3, hE3⟩
        case measure => simp [intOf]; omega
    · obtain rfl : i = n := by omega
      have hli := list_any w.heap.size d (manyP i) Fi wr hS.out
      have hml := many_list i
      have hmin := run_min2 (P := Try.prog) #[3, 3] 3 (x := (i : Int)) (y := 1024) (m := (min i 1024 : Nat)) (by omega)
      replace hml := hide hml
      replace hli := hide hli
      go_wp2_with fail
      refine hli.out.mono ?_
      rintro e w3 ⟨A3, n3, c3, rfl, hn3, _, _, _, _, hE3⟩
      rw [hml.out] at hn3
      obtain ⟨mn, hmn⟩ : ∃ mn, mn = min i 1024 := ⟨_, rfl⟩
      rw [← hmn] at hn3 hmin
      obtain rfl : n3 = mn := hn3
      obtain ⟨W3, hW3⟩ : ∃ W3, W3 = w3.alloc (.cells #[.int .u8 1] 5) := ⟨_, rfl⟩
      have hEW : Ext w3 W3 := by rw [hW3]; exact (Ext.refl w3).alloc _
      have hbb : Bs W3 (some ⟨w3.heap.size, 0, none⟩) [1] := by rw [hW3]; exact marked_bytes w3 _ _ (0, 0)
      have hS3 := (hS.out.ext hE3)
      have hap := append_any w.heap.size d (manyP i) Fi (nth 0) [1] (some ⟨w3.heap.size, 0, none⟩) 1 1 W3 (hS3.ext hEW) (by unfold nth; simp) hbb (by rintro a ha; cases ha; exact hS3.not_old (Nat.le_refl _)) rfl (by omega) (Nat.le_trans hE.size (Nat.le_trans hE3.size hEW.size))
      rw [many_first i (by omega)] at hap
      have hWx := hide hW3.symm
      clear hW3
      have hn0 : nth 0 = [102, 97, 97, 97] := by decide
      rw [hn0] at hap
      unfold str at hap
      replace hap := hide hap
      replace hmn := hide hmn
      go_wp2_with fail
      rw [hWx.out]
      refine hap.out.mono ?_
      rintro e w4 ⟨rfl, hn4⟩
      obtain ⟨F4, hS4, hE4⟩ := hn4.ext (hS3.ext hEW) ((hE.trans hE3).trans hEW) (Nat.le_refl _)
      go_wp2_with fail
      go_ret
      exact ⟨rfl, hE4⟩
end Go.Proofs.Yticnncgbfpgeaaa
