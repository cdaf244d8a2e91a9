/- loggia/lz packs as the document packs: plain. -/
import Derived.Test.YteofooecfedplaaLzG
import Derived.Test.YteofooecfedplaaLzS
namespace Go.Proofs.Yteofooecfedplaa
open Go.RowKit

theorem alk_any_hit {l : List UInt8} {p i f n : Nat} (hp : p < i) (h : i + n < l.length) (he : l.getD (p + n) 0 = l.getD (i + n) 0) : alk l p i (f + 1) n = alk l p i f (n + 1) := by
  refine alk_hit hp h ?_
  simpa [List.getD, h, show p + n < l.length by omega] using he
theorem alk_any_miss {l : List UInt8} {p i f n : Nat} (hp : p < i) (h : i + n < l.length) (he : l.getD (p + n) 0 ≠ l.getD (i + n) 0) : alk l p i (f + 1) n = n := by
  refine alk_miss hp h ?_
  simpa [List.getD, h, show p + n < l.length by omega] using he
theorem alk_four {l : List UInt8} {p i : Nat} (hp : p < i) (hi : i + 4 ≤ l.length) (h : kb l p = kb l i) : 4 ≤ alk l p i 131 0 := by
  obtain ⟨a, b, c, d, hk, h0, h1, h2, h3⟩ := kb_four hi
  obtain ⟨a', b', c', d', hk', h0', h1', h2', h3'⟩ := kb_four (l := l) (i := p) (by omega)
  rw [hk, hk'] at h
  injection h with ha h
  injection h with hb h
  injection h with hc h
  injection h with hd h
  rw [alk_any_hit hp (by omega) (by rw [Nat.add_zero, Nat.add_zero, h0, h0', ha]), alk_any_hit hp (by omega) (by rw [h1, h1', hb]), alk_any_hit hp (by omega) (by rw [h2, h2', hc]), alk_any_hit hp (by omega) (by rw [h3, h3', hd])]
  exact (alk_le _ _ _ _ _).1
theorem alk_few {l : List UInt8} {p i : Nat} (hp : p < i) (hi : i + 4 ≤ l.length) (h : kb l p ≠ kb l i) : alk l p i 131 0 < 4 := by
  obtain ⟨a, b, c, d, hk, h0, h1, h2, h3⟩ := kb_four hi
  obtain ⟨a', b', c', d', hk', h0', h1', h2', h3'⟩ := kb_four (l := l) (i := p) (by omega)
  by_cases ha : a' = a
  · rw [alk_any_hit hp (by omega) (by rw [Nat.add_zero, Nat.add_zero, h0, h0', ha])]
    by_cases hb : b' = b
    · rw [alk_any_hit hp (by omega) (by rw [h1, h1', hb])]
      by_cases hc : c' = c
      · rw [alk_any_hit hp (by omega) (by rw [h2, h2', hc])]
        by_cases hd : d' = d
        · exact absurd (by rw [hk, hk', ha, hb, hc, hd]) h
        · rw [alk_any_miss hp (by omega) (by rw [h3, h3']; exact hd)]
          omega
      · rw [alk_any_miss hp (by omega) (by rw [h2, h2']; exact hc)]
        omega
    · rw [alk_any_miss hp (by omega) (by rw [h1, h1']; exact hb)]
      omega
  · rw [alk_any_miss hp (by omega) (by rw [Nat.add_zero, Nat.add_zero, h0, h0']; exact ha)]
    omega
/-- No place is better: as it was. -/
theorem rml_stay {l : List UInt8} {i : Nat} : ∀ (f d far long : Nat), 1 ≤ d → (∀ p, p < i → ¬ (4 ≤ alk l p i 131 0 ∧ long < alk l p i 131 0)) → rml l i f d far long = (far, long)
  | 0, _, _, _, _, _ => rfl
  | f + 1, d, far, long, hd, h => by
    unfold rml
    split
    · rename_i hc
      rw [if_neg (h (i - d) (by omega))]
      exact rml_stay f (d + 1) far long (by omega) h
    · rfl
theorem mtl_stay {l : List UInt8} {i most : Nat} : ∀ (ps : List Nat) (n d : Nat), (∀ p ∈ ps, 65535 < i - p) → mtl l i most ps n d = (n, d)
  | [], _, _, _ => rfl
  | p :: r, n, d, h => by
    unfold mtl
    rw [if_neg]
    have := h p (by simp)
    omega
theorem range_rev (k : Nat) (q : Nat → Bool) : ((List.range (k + 1)).filter q).reverse = (if q k = true then [k] else []) ++ ((List.range k).filter q).reverse := by
  rw [List.range_succ, List.filter_append, List.reverse_append]
  congr 1
  by_cases h : q k = true
  · simp [h]
  · simp [h]
theorem mtl_rml {l : List UInt8} {i : Nat} (hi : i + 4 ≤ l.length) : ∀ (k f n d : Nat), k ≤ i → k ≤ f → mtl l i (min 131 (l.length - i)) ((List.range k).filter fun j => kb l j == kb l i).reverse n d = ((rml l i f (i - k + 1) d n).2, (rml l i f (i - k + 1) d n).1)
  | 0, f, n, d, _, _ => by
    have : rml l i f (i - 0 + 1) d n = (d, n) := by
      cases f with
      | zero => rfl
      | succ f =>
        unfold rml
        rw [if_neg (by omega)]
    rw [this]
    rfl
  | k + 1, f, n, d, hk, hf => by
    obtain ⟨f, rfl⟩ : ∃ f', f = f' + 1 := ⟨f - 1, by omega⟩
    have hdk : i - (k + 1) + 1 = i - k := by omega
    rw [hdk]
    have hik : i - (i - k) = k := by omega
    have hamost : alk l k i 131 0 ≤ min 131 (l.length - i) := by
      have h1 := (alk_le l k i 131 0).2
      have h2 := alk_end_le l k i 131 0 (by omega)
      omega
    rw [range_rev]
    by_cases hfar : i - k ≤ 65535
    · have hr : rml l i (f + 1) (i - k) d n = if 4 ≤ alk l k i 131 0 ∧ n < alk l k i 131 0 then rml l i f (i - k + 1) (i - k) (alk l k i 131 0) else rml l i f (i - k + 1) d n := by
        conv => lhs; unfold rml
        rw [if_pos ⟨by omega, hfar⟩, hik]
      rw [hr]
      by_cases hq : kb l k = kb l i
      · have h4 := alk_four (by omega) hi hq
        rw [if_pos (by simpa using hq)]
        show mtl l i _ (k :: _) n d = _
        unfold mtl
        by_cases hm : n < min 131 (l.length - i)
        · rw [if_pos ⟨hfar, hm⟩]
          by_cases hn : n < alk l k i 131 0
          · rw [if_pos hn, if_pos ⟨h4, hn⟩]
            exact mtl_rml hi k f _ _ (by omega) (by omega)
          · rw [if_neg hn, if_neg (fun h => hn h.2)]
            exact mtl_rml hi k f _ _ (by omega) (by omega)
        · rw [if_neg (fun h => hm h.2), if_neg (by omega)]
          rw [rml_stay f _ d n (by omega) (fun p hp => by
            have h1 := (alk_le l p i 131 0).2
            have h2 := alk_end_le l p i 131 0 (by omega)
            omega)]
      · have h4 := alk_few (by omega) hi hq
        rw [if_neg (by simpa using hq), if_neg (by omega)]
        exact mtl_rml hi k f _ _ (by omega) (by omega)
    · have hr : rml l i (f + 1) (i - k) d n = (d, n) := by
        unfold rml
        rw [if_neg (fun h => hfar h.2)]
      rw [hr]
      refine mtl_stay _ n d fun p hp => ?_
      simp only [List.mem_append, List.mem_reverse, List.mem_filter, List.mem_range] at hp
      rcases hp with hp | hp
      · split at hp
        · simp at hp; omega
        · simp at hp
      · omega
theorem match_eq {l : List UInt8} {i : Nat} (hi : i < l.length) : matchM l i = ((rml l i (i + 1) 1 0 0).2, (rml l i (i + 1) 1 0 0).1) := by
  unfold matchM
  by_cases h : i + 4 ≤ l.length
  · rw [if_pos h]
    have := mtl_rml h i (i + 1) 0 0 (Nat.le_refl _) (by omega)
    rw [Nat.sub_self] at this
    exact this
  · rw [if_neg h]
    rw [rml_stay (i + 1) 1 0 0 (by omega) (fun p hp => by
      have h2 := alk_end_le l p i 131 0 (by omega)
      omega)]
theorem rml_four {l : List UInt8} {i : Nat} : ∀ (f d far long : Nat), long = 0 ∨ 4 ≤ long → (rml l i f d far long).2 = 0 ∨ 4 ≤ (rml l i f d far long).2
  | 0, _, _, _, h => h
  | f + 1, d, far, long, h => by
    unfold rml
    split
    · split
      · rename_i hc
        exact rml_four f _ _ _ (.inr hc.1)
      · exact rml_four f _ _ _ h
    · exact h
theorem run1_runs {x : List UInt8} (h : x.length ≤ 128) : runs x = run1 x := by
  unfold run1
  by_cases hx : x = []
  · rw [if_pos hx, hx]; rfl
  · rw [if_neg hx, runs_cons hx, Nat.min_eq_right h, List.take_of_length_le h, List.drop_eq_nil_of_le h, runs_nil, List.append_nil]
theorem pack_ref {l : List UInt8} : ∀ (f i fr fr' : Nat) (out out' : List UInt8), i ≤ l.length → l.length - i ≤ f → fr' ≤ i → i < fr' + 128 → (∀ j, fr' ≤ j → j ≤ l.length → out ++ runs (seg l fr j) = out' ++ runs (seg l fr' j)) → packF l f i fr out = refF l f i fr' out'
  | 0, i, fr, fr', out, out', hi, hf, h1, h2, hC => by
    show out ++ runs (seg l fr l.length) = out' ++ run1 (seg l fr' l.length)
    rw [hC l.length (by omega) (Nat.le_refl _), run1_runs (by rw [seg_length (Nat.le_refl _)]; omega)]
  | f + 1, i, fr, fr', out, out', hi, hf, h1, h2, hC => by
    unfold packF refF
    by_cases hil : i < l.length
    · rw [if_pos hil, if_pos hil, match_eq hil]
      have hms := rml_spec hil (i + 1) 1 0 0 (by omega) (by omega) (by omega) (by omega) (by omega) (by omega)
      by_cases h0 : (rml l i (i + 1) 1 0 0).2 = 0
      · rw [if_neg (by show ¬ 0 < (rml l i (i + 1) 1 0 0).2; omega), if_pos h0]
        by_cases h128 : i + 1 - fr' = 128
        · rw [if_pos h128]
          refine pack_ref f (i + 1) fr (i + 1) out _ (by omega) (by omega) (Nat.le_refl _) (by omega) fun j hj hjl => ?_
          rw [hC j (by omega) hjl, List.append_assoc]
          congr 1
          rw [← run1_runs (by rw [seg_length (by omega)]; omega)]
          rcases Nat.lt_or_ge (i + 1) j with hlt | hge
          · rw [runs_seg (a := fr') (b := j) (k := 128) (by omega) hjl (by omega), runs_seg (a := fr') (b := i + 1) (k := 128) (by omega) (by omega) (by omega)]
            have e : fr' + 128 = i + 1 := by omega
            have e2 : seg l (i + 1) (i + 1) = [] := List.eq_nil_of_length_eq_zero (by rw [seg_length (by omega)]; omega)
            rw [e, e2, runs_nil, List.append_nil]
            rfl
          · obtain rfl : j = i + 1 := by omega
            have e2 : seg l (i + 1) (i + 1) = [] := List.eq_nil_of_length_eq_zero (by rw [seg_length (by omega)]; omega)
            rw [e2, runs_nil, List.append_nil]
        · rw [if_neg h128]
          exact pack_ref f (i + 1) fr fr' out out' (by omega) (by omega) (by omega) (by omega) hC
      · rw [if_pos (by show 0 < (rml l i (i + 1) 1 0 0).2; omega), if_neg h0]
        show packF l f (i + (rml l i (i + 1) 1 0 0).2) (i + (rml l i (i + 1) 1 0 0).2) _ = _
        rw [hC i h1 hi, run1_runs (by rw [seg_length hi]; omega)]
        exact pack_ref f _ _ _ _ _ (by omega) (by omega) (Nat.le_refl _) (by omega) fun j _ _ => rfl
    · rw [if_neg hil, if_neg hil]
      obtain rfl : i = l.length := by omega
      rw [hC l.length (by omega) (Nat.le_refl _), run1_runs (by rw [seg_length (Nat.le_refl _)]; omega)]
theorem pack_as_ref (l : List UInt8) : packM l = refM l := pack_ref l.length 0 0 0 _ _ (by omega) (by omega) (by omega) (by omega) fun _ _ _ => rfl

theorem runs_length : ∀ (n : Nat) (x : List UInt8), x.length ≤ n → (runs x).length = x.length + (x.length + 127) / 128
  | n, x, hn => by
    by_cases hx : x = []
    · subst hx; rfl
    · have hl : 0 < x.length := List.length_pos_iff.2 hx
      rw [runs_cons hx, List.length_cons, List.length_append]
      cases n with
      | zero => omega
      | succ n =>
        rw [runs_length n (x.drop 128) (by rw [List.length_drop]; omega), List.length_take, List.length_drop]
        omega
theorem pack_le {l : List UInt8} : ∀ (f i fr : Nat) (out : List UInt8), i ≤ l.length → fr ≤ i → (packF l f i fr out).length ≤ out.length + (l.length - fr) + (l.length - fr + 127) / 128
  | 0, i, fr, out, hi, hfr => by
    show (out ++ runs (seg l fr l.length)).length ≤ _
    rw [List.length_append, runs_length _ _ (Nat.le_refl _), seg_length (Nat.le_refl _)]
    omega
  | f + 1, i, fr, out, hi, hfr => by
    unfold packF
    split
    · rename_i hil
      rw [match_eq hil]
      have hms := rml_spec hil (i + 1) 1 0 0 (by omega) (by omega) (by omega) (by omega) (by omega) (by omega)
      have h4 := rml_four (l := l) (i := i) (i + 1) 1 0 0 (.inl rfl)
      split
      · rename_i h0
        have h0' : 0 < (rml l i (i + 1) 1 0 0).2 := h0
        refine Nat.le_trans (pack_le f _ _ _ (by show i + (rml l i (i + 1) 1 0 0).2 ≤ _; omega) (Nat.le_refl _)) ?_
        simp only [List.length_append, List.length_cons, List.length_nil]
        rw [runs_length _ _ (Nat.le_refl _), seg_length hi]
        omega
      · exact pack_le f _ _ _ (by omega) (by omega)
    · rw [List.length_append, runs_length _ _ (Nat.le_refl _), seg_length (Nat.le_refl _)]
      omega
theorem pack_most (l : List UInt8) : (packM l).length ≤ l.length + 4 + (l.length + 127) / 128 := by
  have := pack_le (l := l) l.length 0 0 (head4 l.length) (by omega) (by omega)
  have h4 : (head4 l.length).length = 4 := rfl
  unfold packM
  omega
end Go.Proofs.Yteofooecfedplaa
