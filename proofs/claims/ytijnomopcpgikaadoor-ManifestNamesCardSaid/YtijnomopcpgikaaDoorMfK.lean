/- loggia/manifest: names of eight digits. -/
import Derived.Test.YtijnomopcpgikaaDoorMfJ
import Derived.Test.YtijnomopcpgikaaDoorShelf
namespace Go.Proofs.YtijnomopcpgikaaDoor
open Go.RowKit

theorem cat_bytes (a b : List UInt8) : (ByteArray.mk a.toArray ++ ByteArray.mk b.toArray) = ⟨(a ++ b).toArray⟩ := by
  apply ByteArray.ext
  rw [ByteArray.data_append]
  simp
theorem cat_bytes2 (a : Array UInt8) (b : List UInt8) : (ByteArray.mk a ++ ByteArray.mk b.toArray) = ⟨(a.toList ++ b).toArray⟩ := by
  have := cat_bytes a.toList b
  simpa using this
theorem ret_str {a b : ByteArray} (h : a = b) : Ending.returned (.string a) = .returned (.string b) := by rw [h]
def dig8 (n : Nat) : List UInt8 := Lib.repeatL [48] (8 - (Lib.decDigits n).length) ++ Lib.decDigits n
set_option maxRecDepth 100000 in
set_option maxHeartbeats 2000000 in
theorem eight_of (n : Nat) (w : World) (h8 : (Lib.decDigits n).length ≤ 8)
    (hI : ∀ W, Ext w W → Calls Tryd.prog 62 #[.int .i64 n] W fun e w' => e = .returned (.string ⟨(Lib.decDigits n).toArray⟩) ∧ Ext W w') :
    Calls Tryd.prog 41 #[.int .i64 n] w fun e w' => e = .returned (.string ⟨(dig8 n).toArray⟩) ∧ Ext w w' := by
  have hR : ∀ W, Calls Tryd.prog 63 #[.string ⟨#[48]⟩, .int .i64 ((8 - (Lib.decDigits n).length : Nat) : Int)] W fun e w' => e = .returned (.string ⟨(Lib.repeatL [48] (8 - (Lib.decDigits n).length)).toArray⟩) ∧ Ext W w' := fun W => Tryd.strings_Repeat ⟨#[48]⟩ _ W (by omega) (by show 1 * _ ≤ _; omega)
  have hd : dig8 n = Lib.repeatL [48] (8 - (Lib.decDigits n).length) ++ Lib.decDigits n := rfl
  obtain ⟨D, hD⟩ : ∃ D, D = Lib.decDigits n := ⟨_, rfl⟩
  rw [← hD] at h8 hI hR hd
  obtain ⟨Z, hZ⟩ : ∃ Z, Z = Lib.repeatL [48] (8 - D.length) := ⟨_, rfl⟩
  rw [← hZ] at hR hd
  have hZl : Z.length ≤ 8 := by rw [hZ, Lib.repeatL_length]; simp
  obtain ⟨k, hk⟩ : ∃ k, k = 8 - D.length := ⟨_, rfl⟩
  have hki : (8 : Int) - (D.length : Int) = (k : Int) := by omega
  rw [← hk] at hR
  replace hI := hide hI
  replace hR := hide hR
  replace hd := hide hd
  clear hD hZ hk
  go_enter Tryd.func41, Tryd.ntmps41
  go_wp2_with fail
  refine (hI.out _ (Ext.refl w)).mono ?_
  rintro e w1 ⟨rfl, hE1⟩
  go_wp2_with fail
  refine (hR.out _).mono ?_
  rintro e w2 ⟨rfl, hE2⟩
  go_wp2_with fail
  go_ret
  rw [hd.out]
  exact ⟨ret_str (cat_bytes _ _), hE1.trans hE2⟩
theorem dd8 {n : Nat} (h1 : 1 ≤ n) (h2 : n ≤ 99999999) : (Lib.decDigits n).length ≤ 8 := by
  rw [Lib.decDigits_length]
  rcases Nat.lt_or_ge n 10 with h | h
  · rw [Lib.nDigits_unique 0 n (by omega) (by omega)]; omega
  rcases Nat.lt_or_ge n 100 with h | h
  · rw [Lib.nDigits_unique 1 n (by omega) (by omega)]; omega
  rcases Nat.lt_or_ge n 1000 with h | h
  · rw [Lib.nDigits_unique 2 n (by omega) (by omega)]; omega
  rcases Nat.lt_or_ge n 10000 with h | h
  · rw [Lib.nDigits_unique 3 n (by omega) (by omega)]; omega
  rcases Nat.lt_or_ge n 100000 with h | h
  · rw [Lib.nDigits_unique 4 n (by omega) (by omega)]; omega
  rcases Nat.lt_or_ge n 1000000 with h | h
  · rw [Lib.nDigits_unique 5 n (by omega) (by omega)]; omega
  rcases Nat.lt_or_ge n 10000000 with h | h
  · rw [Lib.nDigits_unique 6 n (by omega) (by omega)]; omega
  · rw [Lib.nDigits_unique 7 n (by omega) (by omega)]; omega
theorem dig8_len {n : Nat} (h : (Lib.decDigits n).length ≤ 8) : (dig8 n).length = 8 := by
  unfold dig8
  rw [List.length_append, Lib.repeatL_length]
  simp
  omega
/-- What it takes that a number is put in eight digits there. -/
def Eights (w : World) (n : Int) : Prop := numP n = true → ∀ W, Ext w W → Calls Tryd.prog 41 #[.int .i64 n] W fun e w' => e = .returned (.string ⟨(dig8 n.toNat).toArray⟩) ∧ Ext W w'
theorem Eights.ext {w w1 : World} {n : Int} (h : Eights w n) (hE : Ext w w1) : Eights w1 n := fun hn W hW => h hn W (hE.trans hW)
theorem eights_small (w : World) (n : Nat) (h : n < 100) : Eights w n := fun hn W _ => by
  have h1 : 1 ≤ n := by unfold numP at hn; simp at hn; omega
  rw [Int.toNat_natCast]
  exact eight_of n W (dd8 h1 (by omega)) fun W' _ => (Tryd.strconv_Itoa_small n h W').mono fun e w' ⟨h1, h2⟩ => ⟨h1, by rw [h2]; exact Ext.refl _⟩
def logP (n : Int) : List UInt8 := if numP n then [108, 111, 103, 45] ++ dig8 n.toNat else []
def fileP (id st : Int) : List UInt8 := if numP id = false then [] else if st = 2 then [115, 101, 103, 45] ++ dig8 id.toNat else if st = 3 then [105, 99, 101, 45] ++ dig8 id.toNat else []
set_option maxRecDepth 100000 in
set_option maxHeartbeats 2000000 in
theorem log_any (n : Int) (w : World) (h : Eights w n) : Calls Tryd.prog 16 #[.int .i64 n] w fun e w' => e = .returned (.string ⟨(logP n).toArray⟩) ∧ Ext w w' := by
  have hn := hide (numbered_any n)
  replace h := hide h
  go_enter Tryd.func16, Tryd.ntmps16
  go_wp2_with fail
  refine (hn.out _).mono ?_
  rintro e w1 ⟨rfl, rfl⟩
  have hl : (!numP n) = false → (dig8 n.toNat).length ≤ 8 := fun hq => by unfold numP at hq; simp at hq; rw [dig8_len (dd8 (by omega) (by omega))]; omega
  replace hl := hide hl
  go_wp2_with (go_at_call 41; refine (h.out (by simp_all) _ (Ext.refl _)).mono ?_; rintro e w2 ⟨rfl, hE2⟩; have hl2 := hl.out ‹_›)
  · go_ret
    exact ⟨by unfold logP; simp_all, Ext.refl _⟩
  · go_ret
    exact ⟨ret_str (by rw [cat_bytes2]; unfold logP; simp_all), hE2⟩
set_option maxRecDepth 100000 in
set_option maxHeartbeats 4000000 in
theorem file_any (p : Pt) (w : World) (h : Eights w p.id) : Calls Tryd.prog 17 #[p.val] w fun e w' => e = .returned (.string ⟨(fileP p.id p.st).toArray⟩) ∧ Ext w w' := by
  have hn := hide (numbered_any p.id)
  have hE0 : ∀ cs t, Ext w (w.alloc (.cells cs t)) := fun _ _ => (Ext.refl w).alloc _
  replace hE0 := hide hE0
  replace h := hide h
  have hl : (!numP p.id) = false → (dig8 p.id.toNat).length ≤ 8 := fun hq => by unfold numP at hq; simp at hq; rw [dig8_len (dd8 (by omega) (by omega))]; omega
  replace hl := hide hl
  unfold Pt.val
  go_enter Tryd.func17, Tryd.ntmps17
  go_wp2_with (first | (go_at_call 40; refine (hn.out _).mono ?_; rintro e w1 ⟨rfl, rfl⟩) | (go_at_call 41; refine (h.out (by simp_all) _ (hE0.out _ _)).mono ?_; rintro e w2 ⟨rfl, hE2⟩; have hl2 := hl.out ‹_›))
  · go_ret
    exact ⟨ret_str (by unfold fileP; simp_all), hE0.out _ _⟩
  · go_ret
    exact ⟨ret_str (by rw [cat_bytes2]; unfold fileP; simp_all), (hE0.out _ _).trans hE2⟩
  · go_ret
    exact ⟨ret_str (by rw [cat_bytes2]; unfold fileP; simp_all), (hE0.out _ _).trans hE2⟩
  · go_ret
    exact ⟨ret_str (by unfold fileP; simp_all), hE0.out _ _⟩
end Go.Proofs.YtijnomopcpgikaaDoor
