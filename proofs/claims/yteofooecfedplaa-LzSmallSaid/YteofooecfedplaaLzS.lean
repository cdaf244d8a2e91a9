/- loggiaref05: Pack. -/
import Derived.Test.YteofooecfedplaaLzR
namespace Go.Proofs.Yteofooecfedplaa
open Go.RowKit

/-- The document's packing, from a place on. -/
def refF (l : List UInt8) : Nat → Nat → Nat → List UInt8 → List UInt8
  | 0, _, fr, out => out ++ run1 (seg l fr l.length)
  | f + 1, i, fr, out =>
    if i < l.length then
      if (rml l i (i + 1) 1 0 0).2 = 0 then
        if i + 1 - fr = 128 then refF l f (i + 1) (i + 1) (out ++ run1 (seg l fr (i + 1))) else refF l f (i + 1) fr out
      else refF l f (i + (rml l i (i + 1) 1 0 0).2) (i + (rml l i (i + 1) 1 0 0).2) (out ++ run1 (seg l fr i) ++ [UInt8.ofNat ((rml l i (i + 1) 1 0 0).2 + 124), UInt8.ofNat ((rml l i (i + 1) 1 0 0).1 / 256), UInt8.ofNat (rml l i (i + 1) 1 0 0).1])
    else out ++ run1 (seg l fr l.length)
def refM (l : List UInt8) : List UInt8 := refF l l.length 0 0 (head4 l.length)
theorem rml_spec {l : List UInt8} {i : Nat} (hi : i < l.length) : ∀ (f d far long : Nat), 1 ≤ d → d ≤ i + 1 → far ≤ i → far ≤ 65535 → long ≤ 131 → i + long ≤ l.length →
    (rml l i f d far long).1 ≤ i ∧ (rml l i f d far long).1 ≤ 65535 ∧ (rml l i f d far long).2 ≤ 131 ∧ i + (rml l i f d far long).2 ≤ l.length
  | 0, _, _, _, _, _, h1, h2, h3, h4 => ⟨h1, h2, h3, h4⟩
  | f + 1, d, far, long, hd, hd2, h1, h2, h3, h4 => by
    have ha := (alk_le l (i - d) i 131 0).2
    have hb := alk_end_le l (i - d) i 131 0 (by omega)
    unfold rml
    split
    · rename_i hc
      split
      · exact rml_spec hi f _ _ _ (by omega) (by omega) hc.1 hc.2 (by omega) hb
      · exact rml_spec hi f _ _ _ (by omega) (by omega) h1 h2 h3 h4
    · exact ⟨h1, h2, h3, h4⟩
theorem run1_le (x : List UInt8) : (run1 x).length ≤ x.length + 1 := by
  unfold run1
  split <;> simp

/-- a piece of l, where the walk cuts it -/
theorem cut_at {w wr : World} {A : Option Addr} {c a b : Nat} {l : List UInt8} (hl : Bs w A l) (hA : ∀ a, A = some a → a.block < w.heap.size) (hc : l.length ≤ c) (hE : Ext w wr) (hab : a ≤ b) (hb : b ≤ l.length) :
    Bs wr (if c = a then A else A.map (fun x => x.add a)) (seg l a b) ∧ (∀ x, (if c = a then A else A.map (fun x => x.add a)) = some x → x.block < w.heap.size) := by
  refine ⟨?_, ?_⟩
  · rcases Nat.lt_or_ge a b with h | h
    · obtain ⟨g, o, rfl, _⟩ := hl.at_ (by omega)
      rw [if_neg (by omega)]
      simp only [Option.map_some, Addr.add_lit]
      exact (hl.ext hE).cut a (b - a)
    · have : seg l a b = [] := List.eq_nil_of_length_eq_zero (by rw [seg_length hb]; omega)
      rw [this]
      exact .inl rfl
  · intro x hx
    split at hx
    · exact hA x hx
    · cases A with
      | none => simp at hx
      | some y =>
        simp at hx
        subst hx
        have := hA y rfl
        unfold Addr.add
        split <;> exact this
theorem cut_lt {w wr : World} {A : Option Addr} {c a b : Nat} {l : List UInt8} (hl : Bs w A l) (hA : ∀ a, A = some a → a.block < w.heap.size) (hc : l.length ≤ c) (hE : Ext w wr) (hab : a ≤ b) (hb : b ≤ l.length) (hac : a < c) :
    Bs wr (A.map (fun x => x.add a)) (seg l a b) ∧ (∀ x, A.map (fun x => x.add a) = some x → x.block < w.heap.size) := by
  have := cut_at (c := c) hl hA hc hE hab hb
  rw [if_neg (by omega)] at this
  exact this

set_option maxRecDepth 100000 in
set_option maxHeartbeats 2000000 in
theorem rpack_any (A : Option Addr) (c : Nat) (l : List UInt8) (w : World) (hl : Bs w A l) (hA : ∀ a, A = some a → a.block < w.heap.size) (hn : l.length ≤ 1048576) (hc : l.length ≤ c) :
    Calls Try.prog 9 #[.slice A l.length c] w fun e w' => ∃ A1 n1 c1, e = .returned (.tuple #[.slice A1 n1 c1, .int .i64 0]) ∧ n1 = (refM l).length ∧ w'.ownsRow w.heap.size 5 1 (.slice A1 n1 c1) n1 ((refM l).map B8) ∧ Ext w w' := by
  have b8 : ∀ (z : Nat) (y : Int), y = ((z % 256 : Nat) : Int) → Value.int .u8 y = B8 (UInt8.ofNat z) := fun z y h => by
    unfold B8
    rw [h]
    congr 1
  replace b8 := hide b8
  have cut := fun wr a b hE hab hb => cut_at (wr := wr) (a := a) (b := b) (c := c) hl hA hc hE hab hb
  replace cut := hide cut
  go_enter Try.func9, Try.ntmps9
  go_wp2_with fail
  obtain ⟨W, hW⟩ : ∃ W, W = w.alloc (.cells #[.int .u8 ((l.length : Int) / 16777216), .int .u8 ((l.length : Int) / 65536), .int .u8 ((l.length : Int) / 256 % 256), .int .u8 ((l.length : Int) % 256)] 5) := ⟨_, rfl⟩
  have hEW : Ext w W := by rw [hW]; exact (Ext.refl w).alloc _
  have hown0 : W.ownsRow w.heap.size 5 1 (.slice (some ⟨w.heap.size, 0, none⟩) 4 4) (head4 l.length).length ((head4 l.length).map B8) := by
    rw [hW]
    refine ⟨rfl, .inr ⟨w.heap.size, 4, _, rfl, Nat.le_refl _, heap_alloc_new w _, by simp [head4], by simp [maxLen], rfl, ?_⟩⟩
    simp only [head4, List.map_cons, List.map_nil, List.length_cons, List.length_nil]
    rw [← b8.out (l.length / 16777216) ((l.length : Int) / 16777216) (by omega), ← b8.out (l.length / 65536) ((l.length : Int) / 65536) (by omega), ← b8.out (l.length / 256) ((l.length : Int) / 256 % 256) (by omega), ← b8.out l.length ((l.length : Int) % 256) (by omega)]
    rfl
  rw [← hW]
  replace hW := hide hW
  replace hown0 := hide hown0
  go_loopw [5, 6, 7] (fun s5 s6 s7 wr => ∃ (i f fr : Nat) (out : List UInt8) (n1 : Nat) (Ao : Option Addr) (co : Nat), s7 = .int .i64 i ∧ s6 = .int .i64 fr ∧ s5 = .slice Ao n1 co ∧ i ≤ l.length ∧ l.length - i ≤ f ∧ fr ≤ i ∧ i < fr + 128 ∧ Hid (n1 = out.length) ∧ n1 ≤ 4 + 4 * fr ∧ Hid (refF l f i fr out = refM l) ∧
      Hid (wr.ownsRow w.heap.size 5 1 (.slice Ao out.length co) out.length (out.map B8)) ∧ Ext w wr) (fun _ _ s7 _ => (l.length - (intOf s7).toNat))
  case atStart => exact ⟨0, l.length, 0, head4 l.length, 4, _, _, rfl, rfl, rfl, by omega, by omega, by omega, by omega, rfl, by omega, rfl, hown0, hEW⟩
  case round =>
    obtain ⟨i, f, fr, out, n1, Ao, co, rfl, rfl, rfl, hi, hf, hfr, hfr2, hn1, hol, hpk, hown, hE⟩ := hrel
    clear hown0
    by_cases hil : i < l.length
    · obtain ⟨f, rfl⟩ : ∃ f', f = f' + 1 := ⟨f - 1, by omega⟩
      go_wp2_with fail
      refine (rmatch_any i A c l wr (hl.ext hE) (by omega) hil).mono ?_
      have hms := rml_spec hil (i + 1) 1 0 0 (by omega) (by omega) (by omega) (by omega) (by omega) (by omega)
      obtain ⟨far, hfar⟩ : ∃ far, far = (rml l i (i + 1) 1 0 0).1 := ⟨_, rfl⟩
      obtain ⟨lg, hlg⟩ : ∃ lg, lg = (rml l i (i + 1) 1 0 0).2 := ⟨_, rfl⟩
      have hpk1 : refF l (f + 1) i fr out = (if lg = 0 then if i + 1 - fr = 128 then refF l f (i + 1) (i + 1) (out ++ run1 (seg l fr (i + 1))) else refF l f (i + 1) fr out
          else refF l f (i + lg) (i + lg) (out ++ run1 (seg l fr i) ++ [UInt8.ofNat (lg + 124), UInt8.ofNat (far / 256), UInt8.ofNat far])) := by
        rw [hfar, hlg]
        show (if i < l.length then _ else _) = _
        rw [if_pos hil]
      rw [← hfar, ← hlg] at hms ⊢
      replace hpk1 := hide hpk1
      replace hfar := hide hfar
      replace hlg := hide hlg
      rintro e w1 ⟨rfl, hE1⟩
      have hown1 := hide (hE1.owns hown.out)
      have hEw1 := hE.trans hE1
      by_cases h0 : lg = 0
      · subst h0
        by_cases h128 : i + 1 - fr = 128
        · have hfi : fr + 128 = i + 1 := by omega
          replace hfi := hide hfi
          have hsl := seg_length (l := l) (a := fr) (b := i + 1) (by omega)
          rw [h128] at hsl
          have h128a : fr + 127 ≤ i := by omega
          have h128b : i ≤ fr + 127 := by omega
          have hpk2 : refF l f (i + 1) (i + 1) (out ++ run1 (seg l fr (i + 1))) = refM l := by rw [← hpk.out, hpk1.out, if_pos rfl, if_pos h128]
          replace hpk2 := hide hpk2
          have hcut := cut_lt (wr := w1) (a := fr) (b := i + 1) (c := c) hl hA hc hEw1 (by omega) (by omega) (by omega)
          replace hsl := hide hsl
          replace hcut := hide hcut
          clear h128
          go_wp2_with fail
          refine (rrun_at w.heap.size _ n1 _ Ao _ co (seg l fr (i + 1)) out w1 (by rw [hsl.out]; omega) hn1.out hcut.out.1 hcut.out.2 hown1.out hEw1.size (by omega) (by omega)).mono ?_
          rintro e w2 ⟨A2, n2, c2, rfl, hn2, hown2, hB2⟩
          have hr1 := run1_le (seg l fr (i + 1))
          rw [hsl.out] at hr1
          have hn2' : n2 = n1 + (run1 (seg l fr (i + 1))).length := by rw [hn2, hn1.out, List.length_append]
          have hn2b : n2 ≤ 4 + 4 * (i + 1) := by omega
          clear hn2' hr1
          replace hn2 := hide hn2
          replace hown2 := hide hown2
          go_wp2_with fail
          go_roundw
          case rel => exact ⟨i + 1, f, i + 1, out ++ run1 (seg l fr (i + 1)), n2, A2, c2, by go_num, by go_num, rfl, by omega, by omega, by omega, by omega, hn2, hn2b, hpk2, hown2, Below.trans hEw1 hB2⟩
          case measure => simp [intOf]; omega
        · have hpk2 : refF l f (i + 1) fr out = refM l := by rw [← hpk.out, hpk1.out, if_pos rfl, if_neg h128]
          replace hpk2 := hide hpk2
          go_wp2_with fail
          go_roundw
          case rel => exact ⟨i + 1, f, fr, out, n1, Ao, co, by go_num, rfl, rfl, by omega, by omega, by omega, by omega, hn1, by omega, hpk2, hown1, hEw1⟩
          case measure => simp [intOf]; omega
      · have h0' : ((lg : Int) == 0) = false := beq_eq_false_iff_ne.2 (by omega)
        have hpk2 : refF l f (i + lg) (i + lg) (out ++ run1 (seg l fr i) ++ [UInt8.ofNat (lg + 124), UInt8.ofNat (far / 256), UInt8.ofNat far]) = refM l := by rw [← hpk.out, hpk1.out, if_neg h0]
        replace hpk2 := hide hpk2
        have hsl := seg_length (l := l) (a := fr) (b := i) (by omega)
        have hcut := cut_lt (wr := w1) (a := fr) (b := i) (c := c) hl hA hc hEw1 (by omega) (by omega) (by omega)
        replace hsl := hide hsl
        replace hcut := hide hcut
        have hlg1 : 1 ≤ lg := by omega
        go_wp2_with fail
        refine (rrun_at w.heap.size _ n1 _ Ao _ co (seg l fr i) out w1 hsl.out.symm hn1.out hcut.out.1 hcut.out.2 hown1.out hEw1.size (by omega) (by omega)).mono ?_
        rintro e w2 ⟨A2, n2, c2, rfl, hn2, hown2, hB2⟩
        have hr1 := run1_le (seg l fr i)
        rw [hsl.out] at hr1
        have hn2' : n2 = n1 + (run1 (seg l fr i)).length := by rw [hn2, hn1.out, List.length_append]
        have hn2b : n2 + 3 ≤ 4 + 4 * (i + lg) := by omega
        rw [← hn2] at hown2
        have hEw2 : Ext w w2 := Below.trans hEw1 hB2
        have hsz2 := hEw2.size
        clear hn2' hr1
        replace hn2 := hide hn2
        go_wp2_with (at_builtin; refine wpList_appN elemB hown2 (.tmp 57) (.tmp 67) rfl rfl rfl rfl (one_of rfl) (by simp; omega) hsz2 (fun A3 c3 w3 ho3 hg3 hl3 => ?_))
        have e3 : [Value.int .u8 ((lg : Int) + 124), Value.int .u8 ((far : Int) / 256), Value.int .u8 ((far : Int) % 256)] = [UInt8.ofNat (lg + 124), UInt8.ofNat (far / 256), UInt8.ofNat far].map B8 := by
          simp only [List.map_cons, List.map_nil]
          rw [b8.out (lg + 124) _ (by omega), b8.out (far / 256) _ (by omega), b8.out far _ (by omega)]
        have hl3' : (out ++ run1 (seg l fr i) ++ [UInt8.ofNat (lg + 124), UInt8.ofNat (far / 256), UInt8.ofNat far]).length = n2 + 3 := by rw [List.length_append, ← hn2.out]; rfl
        have ho3' : w3.ownsRow w.heap.size 5 1 (.slice A3 (n2 + 3) c3) (n2 + 3) ((out ++ run1 (seg l fr i) ++ [UInt8.ofNat (lg + 124), UInt8.ofNat (far / 256), UInt8.ofNat far]).map B8) := by
          rw [List.map_append, ← e3]
          exact ho3
        have hEw3 : Ext w w3 := Below.grown hEw2 hg3 hsz2 (fun k hk => (hown2.lt k hk).1)
        go_roundw
        case rel => exact ⟨i + lg, f, i + lg, _, n2 + 3, A3, c3, by go_num, by go_num, rfl, by omega, by omega, by omega, by omega, hide hl3'.symm, by omega, hpk2, hide (by rw [hl3']; exact ho3'), hEw3⟩
        case measure => simp [intOf]; omega
    · obtain rfl : i = l.length := by omega
      have hfin : refM l = out ++ run1 (seg l fr l.length) := by
        rw [← hpk.out]
        cases f with
        | zero => rfl
        | succ f => show (if l.length < l.length then _ else _) = _; rw [if_neg (by omega)]
      replace hfin := hide hfin
      have hsl := seg_length (l := l) (a := fr) (b := l.length) (by omega)
      have hcut := cut_at (wr := wr) (a := fr) (b := l.length) (c := c) hl hA hc hE (by omega) (by omega)
      rcases Nat.lt_or_ge fr c with hlt | hge
      · rw [if_neg (by omega)] at hcut
        replace hsl := hide hsl
        replace hcut := hide hcut
        go_wp2_with fail
        refine (rrun_at w.heap.size _ n1 _ Ao _ co (seg l fr l.length) out wr hsl.out.symm hn1.out hcut.out.1 hcut.out.2 hown.out hE.size (by omega) (by omega)).mono ?_
        rintro e w2 ⟨A2, n2, c2, rfl, hn2, hown2, hB2⟩
        rw [← hfin.out] at hn2 hown2
        replace hn2 := hide hn2
        go_wp2_with fail
        go_ret2
        exact ⟨A2, n2, c2, rfl, hn2.out, by rw [hn2.out]; exact hown2, Below.trans hE hB2⟩
      · obtain rfl : fr = c := by omega
        rw [if_pos rfl] at hcut
        replace hsl := hide hsl
        replace hcut := hide hcut
        go_wp2_with fail
        refine (rrun_at w.heap.size _ n1 _ Ao _ co (seg l fr l.length) out wr (by rw [hsl.out]; omega) hn1.out hcut.out.1 hcut.out.2 hown.out hE.size (by omega) (by omega)).mono ?_
        rintro e w2 ⟨A2, n2, c2, rfl, hn2, hown2, hB2⟩
        rw [← hfin.out] at hn2 hown2
        replace hn2 := hide hn2
        go_wp2_with fail
        go_ret2
        exact ⟨A2, n2, c2, rfl, hn2.out, by rw [hn2.out]; exact hown2, Below.trans hE hB2⟩
end Go.Proofs.Yteofooecfedplaa
