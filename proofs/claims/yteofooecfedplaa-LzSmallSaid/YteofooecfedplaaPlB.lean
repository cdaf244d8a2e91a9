/- loggia/lz: what is packed is unpacked; bytes that are all alike: plain. -/
import Derived.Test.YteofooecfedplaaPlA
import Derived.Test.YteofooecfedplaaLzY
namespace Go.Proofs.Yteofooecfedplaa
open Go.RowKit

theorem upF_nil (most f : Nat) (o : List UInt8) : upF most f [] o = some o := by cases f <;> rfl
theorem upF_fuel {most : Nat} : ∀ (f g : Nat) (r o : List UInt8), r.length ≤ f → r.length ≤ g → upF most f r o = upF most g r o
  | f, g, [], o, _, _ => by rw [upF_nil, upF_nil]
  | 0, _, c :: r, o, h, _ => by simp at h
  | f + 1, 0, c :: r, o, _, h => by simp at h
  | f + 1, g + 1, c :: r, o, h1, h2 => by
    simp at h1 h2
    cases hoc : ordM most c r o with
    | none => rw [upF_no hoc, upF_no hoc]
    | some p =>
      obtain ⟨r', o'⟩ := p
      have := ordM_some hoc
      rw [upF_yes hoc, upF_yes hoc]
      exact upF_fuel f g r' o' (by omega) (by omega)
/-- The orders r, behind o, come to z. -/
def Up (most : Nat) (r o z : List UInt8) : Prop := upF most r.length r o = some z
theorem Up.step {most : Nat} {c : UInt8} {r o r' o' z : List UInt8} (h : ordM most c r o = some (r', o')) (k : Up most r' o' z) : Up most (c :: r) o z := by
  have := ordM_some h
  unfold Up
  rw [List.length_cons, upF_yes h, upF_fuel r.length r'.length r' o' this.1 (Nat.le_refl _)]
  exact k
theorem up_runs {most : Nat} : ∀ (n : Nat) (x R o z : List UInt8), x.length ≤ n → o.length + x.length ≤ most → Up most R (o ++ x) z → Up most (runs x ++ R) o z
  | n, x, R, o, z, hn, hm, h => by
    by_cases hx : x = []
    · subst hx
      rw [runs_nil, List.nil_append]
      rw [List.append_nil] at h
      exact h
    · have hl : 0 < x.length := List.length_pos_iff.2 hx
      cases n with
      | zero => omega
      | succ n =>
        have hc : (UInt8.ofNat (min 128 x.length - 1)).toNat = min 128 x.length - 1 := by
          rw [UInt8.toNat_ofNat']
          omega
        have ht : (x.take 128).length = min 128 x.length := List.length_take
        rw [runs_cons hx, List.cons_append, List.append_assoc]
        have ho := ordM_lit_yes (most := most) (c := UInt8.ofNat (min 128 x.length - 1)) (r := x.take 128 ++ (runs (x.drop 128) ++ R)) (out := o) (by rw [hc]; omega) (by rw [hc, List.length_append, ht]; omega) (by rw [hc]; omega)
        rw [hc, show min 128 x.length - 1 + 1 = (x.take 128).length by omega, List.drop_left, List.take_left] at ho
        refine Up.step ho (up_runs n (x.drop 128) R (o ++ x.take 128) z (by rw [List.length_drop]; omega) (by rw [List.length_append, ht, List.length_drop]; omega) ?_)
        rw [List.append_assoc, List.take_append_drop]
        exact h
theorem up_match {most s d : Nat} {R o z : List UInt8} (hs : 4 ≤ s) (hs2 : s ≤ 131) (hd : 1 ≤ d) (hd2 : d ≤ o.length) (hd3 : d ≤ 65535) (hm : o.length + s ≤ most) (h : Up most R (cpy s d o) z) : Up most (UInt8.ofNat (s + 124) :: UInt8.ofNat (d / 256) :: UInt8.ofNat d :: R) o z := by
  have hc : (UInt8.ofNat (s + 124)).toNat = s + 124 := by rw [UInt8.toNat_ofNat']; omega
  have h1 : (UInt8.ofNat (d / 256)).toNat = d / 256 := by rw [UInt8.toNat_ofNat']; omega
  have h2 : (UInt8.ofNat d).toNat = d % 256 := by rw [UInt8.toNat_ofNat']
  have ho := ordM_back (most := most) (c := UInt8.ofNat (s + 124)) (r := UInt8.ofNat (d / 256) :: UInt8.ofNat d :: R) (out := o) (by rw [hc]; omega) (by simp)
  simp only [List.getD_cons_zero, List.getD_cons_succ] at ho
  rw [hc, h1, h2, show d / 256 * 256 + d % 256 = d by omega, if_neg (by omega), show s + 124 - 124 = s by omega] at ho
  exact Up.step ho h
theorem alk_same {l : List UInt8} {p i : Nat} : ∀ (f n j : Nat), n ≤ j → j < alk l p i f n → l.getD (p + j) 0 = l.getD (i + j) 0
  | 0, n, j, h1, h2 => by
    have h2' : j < n := h2
    omega
  | f + 1, n, j, h1, h2 => by
    unfold alk at h2
    split at h2
    · rename_i hc
      split at h2
      · rename_i he
        rcases Nat.eq_or_lt_of_le h1 with rfl | hlt
        · simpa [List.getD, hc.1, hc.2] using he
        · exact alk_same f (n + 1) j hlt h2
      · omega
    · omega
theorem cpy_take {l : List UInt8} {i d s : Nat} (hd : 1 ≤ d) (hdi : d ≤ i) (hs : alk l (i - d) i 131 0 = s) (hl : i + s ≤ l.length) : ∀ (k j : Nat), j + k = s → cpy k d (l.take (i + j)) = l.take (i + s)
  | 0, j, h => by
    obtain rfl : j = s := by omega
    rfl
  | k + 1, j, h => by
    have he := alk_same (l := l) (p := i - d) (i := i) 131 0 j (by omega) (by omega)
    have hlen : (l.take (i + j)).length = i + j := by rw [List.length_take]; omega
    show cpy k d (l.take (i + j) ++ [(l.take (i + j)).getD ((l.take (i + j)).length - d) 0]) = _
    have e1 : (l.take (i + j)).getD ((l.take (i + j)).length - d) 0 = l.getD (i + j) 0 := by
      rw [hlen, ← he]
      have : i + j - d = i - d + j := by omega
      rw [this]
      simp [List.getD, List.getElem?_take, show i - d + j < i + j by omega]
    rw [e1]
    have e2 : l.take (i + j) ++ [l.getD (i + j) 0] = l.take (i + (j + 1)) := by
      rw [show i + (j + 1) = i + j + 1 by omega, List.take_add_one]
      simp [List.getD, show i + j < l.length by omega]
    rw [e2]
    exact cpy_take hd hdi hs hl k (j + 1) (by omega)
theorem rml_alk {l : List UInt8} {i : Nat} : ∀ (f d far long : Nat), (long = 0 ∨ long = alk l (i - far) i 131 0) → ((rml l i f d far long).2 = 0 ∨ (rml l i f d far long).2 = alk l (i - (rml l i f d far long).1) i 131 0)
  | 0, _, _, _, h => h
  | f + 1, d, far, long, h => by
    unfold rml
    split
    · split
      · exact rml_alk f _ _ _ (.inr rfl)
      · exact rml_alk f _ _ _ h
    · exact h
theorem packF_out {l : List UInt8} : ∀ (f i fr : Nat) (a b : List UInt8), packF l f i fr (a ++ b) = a ++ packF l f i fr b
  | 0, i, fr, a, b => by
    show a ++ b ++ _ = a ++ (b ++ _)
    rw [List.append_assoc]
  | f + 1, i, fr, a, b => by
    unfold packF
    split
    · split
      · rw [List.append_assoc, List.append_assoc, packF_out f, List.append_assoc]
      · exact packF_out f _ _ _ _
    · rw [List.append_assoc]
theorem take_seg {l : List UInt8} {a b : Nat} (h : a ≤ b) : l.take a ++ seg l a b = l.take b := by
  unfold seg
  have := List.take_add (l := l) (i := a) (j := b - a)
  rw [show a + (b - a) = b by omega] at this
  exact this.symm
theorem pack_up {l : List UInt8} : ∀ (f i fr : Nat), i ≤ l.length → fr ≤ i → l.length - i ≤ f → Up l.length (packF l f i fr []) (l.take fr) l
  | 0, i, fr, hi, hfr, hf => by
    show Up l.length (runs (seg l fr l.length)) (l.take fr) l
    have := up_runs (most := l.length) l.length (seg l fr l.length) [] (l.take fr) l (by rw [seg_length (Nat.le_refl _)]; omega) (by rw [seg_length (Nat.le_refl _), List.length_take]; omega) (by rw [take_seg (by omega), List.take_length]; exact upF_nil _ _ _)
    rw [List.append_nil] at this
    exact this
  | f + 1, i, fr, hi, hfr, hf => by
    unfold packF
    split
    · rename_i hil
      have hsp := matchM_spec (l := l) (i := i) hi
      split
      · rename_i h0
        have h4 := rml_four (l := l) (i := i) (i + 1) 1 0 0 (.inl rfl)
        have hal := rml_alk (l := l) (i := i) (i + 1) 1 0 0 (.inl rfl)
        have hme := match_eq hil
        have e1 : (rml l i (i + 1) 1 0 0).2 = (matchM l i).1 := by rw [hme]
        have e2 : (rml l i (i + 1) 1 0 0).1 = (matchM l i).2 := by rw [hme]
        rw [e1] at h4 hal
        rw [e2] at hal
        obtain ⟨s, hs⟩ : ∃ s, s = (matchM l i).1 := ⟨_, rfl⟩
        obtain ⟨d, hd⟩ : ∃ s, s = (matchM l i).2 := ⟨_, rfl⟩
        rw [← hs, ← hd] at hsp hal ⊢
        rw [← hs] at h4 h0
        have hk := hsp.2.2.2.2 h0
        rw [List.nil_append, ← List.append_nil (runs (seg l fr i) ++ _), packF_out, List.append_assoc]
        refine up_runs (most := l.length) l.length (seg l fr i) _ (l.take fr) l (by rw [seg_length hi]; omega) (by rw [seg_length hi, List.length_take]; omega) ?_
        rw [take_seg hfr]
        have hlen : (l.take i).length = i := by rw [List.length_take]; omega
        refine up_match (by omega) hsp.1 (by omega) (by rw [hlen]; exact hsp.2.2.1) hsp.2.2.2.1 (by rw [hlen]; omega) ?_
        have hcp := cpy_take (l := l) (i := i) (d := d) (s := s) (by omega) hsp.2.2.1 (by omega) hsp.2.1 s 0 (by omega)
        rw [Nat.add_zero] at hcp
        rw [hcp]
        exact pack_up f (i + s) (i + s) hsp.2.1 (Nat.le_refl _) (by omega)
      · exact pack_up f (i + 1) fr (by omega) (by omega) (by omega)
    · have := up_runs (most := l.length) l.length (seg l fr l.length) [] (l.take fr) l (by rw [seg_length (Nat.le_refl _)]; omega) (by rw [seg_length (Nat.le_refl _), List.length_take]; omega) (by rw [take_seg (by omega), List.take_length]; exact upF_nil _ _ _)
      rw [List.append_nil] at this
      exact this
theorem size_head {n : Nat} (X : List UInt8) (h : n ≤ 16777216) : sizeM (head4 n ++ X) = (n, 0) := by
  unfold sizeM head4
  have a1 : (UInt8.ofNat (n / 16777216)).toNat = n / 16777216 % 256 := by rw [UInt8.toNat_ofNat']
  have a2 : (UInt8.ofNat (n / 65536)).toNat = n / 65536 % 256 := by rw [UInt8.toNat_ofNat']
  have a3 : (UInt8.ofNat (n / 256)).toNat = n / 256 % 256 := by rw [UInt8.toNat_ofNat']
  have a4 : (UInt8.ofNat n).toNat = n % 256 := by rw [UInt8.toNat_ofNat']
  simp only [List.cons_append, List.nil_append, List.getD_cons_zero, List.getD_cons_succ, List.length_cons]
  rw [if_neg (by omega), a1, a2, a3, a4, if_neg (by omega)]
  congr 1
  omega
theorem size_pack {l : List UInt8} (h : l.length ≤ 16777216) : sizeM (packM l) = (l.length, 0) := by
  unfold packM
  rw [← List.append_nil (head4 l.length), packF_out]
  exact size_head _ h
theorem up_pack {l : List UInt8} (h : l.length ≤ 16777216) : upM (packM l) = (l, 0) := by
  have hs := size_pack h
  unfold upM
  rw [hs]
  have hd : (packM l).drop 4 = packF l l.length 0 0 [] := by
    unfold packM
    rw [← List.append_nil (head4 l.length), packF_out]
    rfl
  have hu := pack_up (l := l) l.length 0 0 (by omega) (by omega) (by omega)
  unfold Up at hu
  rw [← hd] at hu
  rw [upF_fuel (packM l).length ((packM l).drop 4).length _ _ (by rw [List.length_drop]; omega) (Nat.le_refl _)]
  rw [show l.take 0 = [] from rfl] at hu
  simp only [hu, if_pos]

theorem alk_const {c : UInt8} {k p i : Nat} (hp : p < i) : ∀ (f n : Nat), i + n ≤ k → alk (List.replicate k c) p i f n = n + min f (k - i - n)
  | 0, n, h => by
    show n = _
    omega
  | f + 1, n, h => by
    rcases Nat.lt_or_ge (i + n) k with hlt | hge
    · rw [alk_any_hit hp (by rw [List.length_replicate]; exact hlt) (by simp [List.getD, hlt, show p + n < k by omega]), alk_const hp f (n + 1) (by omega)]
      omega
    · rw [alk_end (by rw [List.length_replicate]; omega)]
      omega
theorem match_const {c : UInt8} {k i : Nat} (hi : 1 ≤ i) (hk : i + 4 ≤ k) : matchM (List.replicate k c) i = (min 131 (k - i), 1) := by
  have hl : (List.replicate k c).length = k := List.length_replicate
  rw [match_eq (by rw [hl]; omega)]
  have hr : rml (List.replicate k c) i (i + 1) 1 0 0 = (1, min 131 (k - i)) := by
    have ha : ∀ p, p < i → alk (List.replicate k c) p i 131 0 = min 131 (k - i) := fun p hp => by rw [alk_const hp 131 0 (by omega)]; omega
    unfold rml
    rw [if_pos (by omega), if_pos (by rw [ha _ (by omega)]; omega), ha _ (by omega)]
    exact rml_stay _ _ _ _ (by omega) fun p hp => by rw [ha p hp]; omega
  rw [hr]
theorem small_from {c : UInt8} {k : Nat} : ∀ (f i fr : Nat) (out : List UInt8), 1 ≤ i → i ≤ k → fr ≤ i → k - i ≤ f → (packF (List.replicate k c) f i fr out).length ≤ out.length + ((i - fr) + (i - fr + 127) / 128) + 3 * ((k - i + 130) / 131) + 1
  | f, i, fr, out, hi, hik, hfr, hf => by
    have hl : (List.replicate k c).length = k := List.length_replicate
    by_cases h4 : i + 4 ≤ k
    · cases f with
      | zero => omega
      | succ f =>
        unfold packF
        rw [if_pos (by rw [hl]; omega), match_const hi h4, if_pos (by show 0 < min 131 (k - i); omega)]
        refine Nat.le_trans (small_from f _ _ _ (by show 1 ≤ i + min 131 (k - i); omega) (by show i + min 131 (k - i) ≤ k; omega) (Nat.le_refl _) (by show k - (i + min 131 (k - i)) ≤ f; omega)) ?_
        simp only [List.length_append, List.length_cons, List.length_nil]
        rw [runs_length _ _ (Nat.le_refl _), seg_length (by rw [hl]; omega)]
        omega
    · have := pack_le (l := List.replicate k c) f i fr out (by rw [hl]; omega) hfr
      rw [hl] at this
      omega
theorem small_pack (c : UInt8) (k : Nat) : (packM (List.replicate k c)).length ≤ 9 + 3 * ((k + 130) / 131) := by
  have hl : (List.replicate k c).length = k := List.length_replicate
  have h4 : (head4 k).length = 4 := rfl
  unfold packM
  rw [hl]
  cases k with
  | zero =>
    have : (packF (List.replicate 0 c) 0 0 0 (head4 0)).length = 4 := rfl
    omega
  | succ k =>
    have hm : matchM (List.replicate (k + 1) c) 0 = (0, 0) := by
      rw [match_eq (by rw [hl]; omega)]
      rfl
    unfold packF
    rw [if_pos (by rw [hl]; omega), hm, if_neg (by show ¬ 0 < 0; omega)]
    refine Nat.le_trans (small_from k (0 + 1) 0 _ (by omega) (by omega) (by omega) (by omega)) ?_
    rw [h4]
    omega
end Go.Proofs.Yteofooecfedplaa
