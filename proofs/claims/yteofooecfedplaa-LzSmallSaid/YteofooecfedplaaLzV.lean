/- loggia/lz: order. -/
import Derived.Test.YteofooecfedplaaLzU
namespace Go.Proofs.Yteofooecfedplaa
open Go.RowKit

/-- k bytes more, each as the one so far back. -/
def cpy : Nat → Nat → List UInt8 → List UInt8
  | 0, _, out => out
  | k + 1, back, out => cpy k back (out ++ [out.getD (out.length - back) 0])
/-- One order, its first byte c: what is left, what there is. -/
def ordM (most : Nat) (c : UInt8) (r out : List UInt8) : Option (List UInt8 × List UInt8) :=
  if c.toNat < 128 then
    if c.toNat + 1 ≤ r.length ∧ out.length + (c.toNat + 1) ≤ most then some (r.drop (c.toNat + 1), out ++ r.take (c.toNat + 1)) else none
  else
    if r.length < 2 then none else
    if (r.getD 0 0).toNat * 256 + (r.getD 1 0).toNat = 0 ∨ out.length < (r.getD 0 0).toNat * 256 + (r.getD 1 0).toNat ∨ most < out.length + (c.toNat - 124) then none
    else some (r.drop 2, cpy (c.toNat - 124) ((r.getD 0 0).toNat * 256 + (r.getD 1 0).toNat) out)
/-- The reader's state. -/
structure RS (w : World) (b base : Nat) (A : Option Addr) (c : Nat) (rest out : List UInt8) (Ao : Option Addr) (co most : Nat) : Prop where
  row : Row w b 53 #[.slice A rest.length c, .slice Ao out.length co, .int .i64 most]
  bytes : Bs w A rest
  lt : ∀ a, A = some a → a.block < base
  cap : rest.length ≤ c
  own : w.ownsRow base 5 1 (.slice Ao out.length co) out.length (out.map B8)
  sz : base ≤ w.heap.size
  bb : base ≤ b
theorem RS.drew {w : World} {b base : Nat} {A : Option Addr} {c : Nat} {rest out : List UInt8} {Ao : Option Addr} {co most : Nat} (h : RS w b base A c rest out Ao co most) : RS w.drew b base A c rest out Ao co most :=
  ⟨h.row, h.bytes, h.lt, h.cap, h.own, h.sz, h.bb⟩
theorem below_drew {B : Nat} {w w1 : World} (h : Below B w w1) : Below B w w1.drew := h.drew
theorem cpy_length : ∀ (k back : Nat) (out : List UInt8), (cpy k back out).length = out.length + k
  | 0, _, _ => rfl
  | k + 1, back, out => by
    show (cpy k back _).length = _
    rw [cpy_length]
    simp
    omega
/-- The bytes behind n of them. -/
theorem Bs.behind {w : World} {A : Option Addr} {l : List UInt8} {n c : Nat} (h : Bs w A l) (hn : n ≤ l.length) (hc : l.length ≤ c) : Bs w (if c = n then A else A.map (fun x => x.add n)) (l.drop n) := by
  rcases Nat.lt_or_ge n l.length with hlt | hge
  · obtain ⟨g, o, rfl, _⟩ := h.at_ (by omega)
    rw [if_neg (by omega)]
    simp only [Option.map_some, Addr.add_lit]
    have := h.cut n (l.length - n)
    rw [List.take_of_length_le (by simp)] at this
    exact this
  · have : l.drop n = [] := List.drop_eq_nil_of_le hge
    rw [this]
    exact .inl rfl
theorem add_lt {A : Option Addr} {n c base : Nat} (hA : ∀ a, A = some a → a.block < base) : ∀ x, (if c = n then A else A.map (fun x => x.add n)) = some x → x.block < base := by
  intro x hx
  split at hx
  · exact hA x hx
  · cases A with
    | none => simp at hx
    | some y =>
      simp at hx
      subst hx
      have := hA y rfl
      unfold Addr.add
      split <;> exact this

theorem Bs.take {w : World} {A : Option Addr} {l : List UInt8} (h : Bs w A l) (n : Nat) : Bs w A (l.take n) := by
  rcases h with h | ⟨g, o, hA, hc⟩
  · have : l = [] := by simpa using h
    subst this
    exact .inl (by simp)
  · refine .inr ⟨g, o, hA, fun i v hv => hc i v ?_⟩
    rw [List.map_take, List.getElem?_take] at hv
    split at hv
    · exact hv
    · cases hv
theorem next_st (b base n : Nat) (A : Option Addr) (c : Nat) (l : List UInt8) (T : TypeId) (x y : Value) (w : World) (hR : Row w b T #[.slice A l.length c, x, y]) (hl : Bs w A l) (hA : ∀ a, A = some a → a.block < base) (hbb : base ≤ b) (hcap : l.length ≤ c) (hn : n ≤ l.length) (hlen : l.length ≤ 16777216) :
    Calls Try.prog 26 #[.pointer (some ⟨b, 0, none⟩), .int .i64 n] w fun e w' => e = .returned (.tuple #[.slice A n c, .bool true]) ∧
      ∃ A', Row w' b T #[.slice A' (l.length - n) (c - n), x, y] ∧ Bs w' A' (l.drop n) ∧ (∀ a, A' = some a → a.block < base) ∧ Chg (fun k => k = b) w w' := by
  refine (next_yes b A n l.length c w (hR.cell 0 rfl) (hR.free 0) hn hcap hlen).mono ?_
  rintro e w' ⟨rfl, rfl⟩
  refine ⟨rfl, _, hR.put 0 _, ?_, add_lt hA, Chg.of_set _ _ rfl⟩
  exact Bs.below (hl.behind hn hcap) (B := base) ((Below.refl _ _).setCell hbb _) (add_lt hA)

set_option maxRecDepth 100000 in
set_option maxHeartbeats 2000000 in
theorem order_lit (b base : Nat) (A : Option Addr) (cap : Nat) (c : UInt8) (r out : List UInt8) (Ao : Option Addr) (co most : Nat) (w : World) (hS : RS w b base A cap (c :: r) out Ao co most) (hlit : c.toNat < 128)
  (hr : r.length ≤ 1048576) (hmost : most ≤ 16777216) (hout : out.length ≤ most) :
    Calls Try.prog 22 #[.pointer (some ⟨b, 0, none⟩)] w fun e w' => e = .returned (.bool (ordM most c r out).isSome) ∧
      (∀ rest' out', ordM most c r out = some (rest', out') → ∃ A1 c1 Ao1 co1, RS w' b base A1 c1 rest' out' Ao1 co1 most) ∧ Below base w w' := by
  obtain ⟨row, hrest, hlt, hcap, hown, hsz, hbb⟩ := hS
  obtain ⟨g, o, hAg, hcl⟩ := hrest.at_ (by simp)
  have hcc := hcl 0 (by simp)
  simp only [List.getElem_cons_zero, Nat.add_zero] at hcc
  have hgb : g < base := hlt _ hAg
  obtain ⟨cn, hcn⟩ : ∃ cn, cn = c.toNat := ⟨_, rfl⟩
  obtain ⟨rl, hrl⟩ : ∃ rl, rl = r.length := ⟨_, rfl⟩
  obtain ⟨ol, hol⟩ : ∃ ol, ol = out.length := ⟨_, rfl⟩
  have hcr : (c :: r).length = rl + 1 := by rw [hrl]; rfl
  rw [← hcn] at hcc hlit
  rw [← hrl] at hr
  rw [← hol] at hout row hown
  have hord : ordM most c r out = if cn + 1 ≤ rl ∧ ol + (cn + 1) ≤ most then some (r.drop (cn + 1), out ++ r.take (cn + 1)) else none := by
    unfold ordM
    rw [← hcn, if_pos hlit, ← hrl, ← hol]
  have hcap' : rl + 1 ≤ cap := by rw [← hcr]; exact hcap
  replace hcn := hide hcn
  replace hol := hide hol
  replace hord := hide hord
  replace hcr := hide hcr
  replace hrl := hide hrl
  replace hAg := hide hAg
  have n1 := next_st b base 1 A cap (c :: r) _ _ _ w row hrest hlt hbb hcap (by simp) (by rw [hcr.out]; omega)
  replace n1 := hide n1
  go_enter Try.func22, Try.ntmps22
  go_wp2_with fail
  refine n1.out.mono ?_
  rintro e w1 ⟨rfl, A1, R1, hb1, hlt1, hC1⟩
  rw [hAg.out]
  have hcc1 := hC1.cell hcc (show ¬ g = b by omega)
  have hB1 : Below base w w1 := hC1.below (fun k hk => by rw [hk]; exact hbb) hsz
  have hown1 := hC1.owns hown (fun g' hg' hk => owns_unlike hown row (by decide) (by rw [hg', hk]))
  simp only [List.drop_succ_cons, List.drop_zero] at hb1
  have hl1 : (c :: r).length - 1 = r.length := by simp
  rw [hl1] at R1
  by_cases hk : cn + 1 ≤ rl
  · have n2 := next_st b base (cn + 1) A1 (cap - 1) r _ _ _ w1 R1 hb1 hlt1 hbb (by rw [← hrl.out]; omega) (by rw [← hrl.out]; exact hk) (by rw [← hrl.out]; omega)
    replace n2 := hide n2
    go_wp2_with fail
    refine n2.out.mono ?_
    rintro e w2 ⟨rfl, A2, R2, hb2, hlt2, hC2⟩
    have hB2 := Below.trans hB1 (hC2.below (B := base) (fun k hk => by rw [hk]; exact hbb) (Nat.le_trans hsz hB1.size))
    have hown2 := hC2.owns hown1 (fun g' hg' hk => owns_unlike hown1 R1 (by decide) (by rw [hg', hk]))
    have hsrc : Cells w2 A1 ((r.take (cn + 1)).map B8) := hC2.cells (hb1.take (cn + 1)) (fun a ha => show ¬ a.block = b by have := hlt1 a ha; omega)
    have hsl : ((r.take (cn + 1)).map B8).length = (cn + 1) * 1 := by
      rw [List.length_map, List.length_take, ← hrl.out]
      omega
    have hs2 := Nat.le_trans hsz hB2.size
    have ca1 : w2.cell? ⟨b, 1, none⟩ = some (.slice Ao ol co) := R2.cell 1 rfl
    have ca2 : w2.cell? ⟨b, 2, none⟩ = some (.int .i64 most) := R2.cell 2 rfl
    replace hsl := hide hsl
    go_wp2_with (at_builtin; refine wpList_app elemB hown2 hsrc (.tmp 37) (.tmp 38) rfl rfl rfl rfl rfl hsl.out (bytes_one _) (by omega) hs2 (fun A3 c3 w3 ho3 hg3 hl3 => ?_); have hne : some b ≠ (Value.slice Ao ol co).ownBlock := fun e => owns_unlike hown2 R2 (by decide) e.symm; have R3 := R2.grown hg3 hne; have cb1 : w3.cell? ⟨b, 1, none⟩ = some (.slice Ao ol co) := R3.cell 1 rfl; have cb2 : w3.cell? ⟨b, 2, none⟩ = some (.int .i64 most) := R3.cell 2 rfl; have f1 := R3.free 1; clear ca1 ca2)
    have hne3 : (Value.slice A3 (ol + (cn + 1)) c3).ownBlock ≠ some b := owns_unlike ho3 R3 (by decide)
    have hlo : (out ++ r.take (cn + 1)).length = ol + (cn + 1) := by
      rw [List.length_append, List.length_take, ← hrl.out, ← hol.out]
      omega
    have hB3 : Below base w (w3.setCell ⟨b, 1, none⟩ (.slice A3 (ol + (cn + 1)) c3)) := (hB2.grown hg3 hs2 (fun k hk => (hown2.lt k hk).1)).setCell hbb _
    have hRS : RS (w3.setCell ⟨b, 1, none⟩ (.slice A3 (ol + (cn + 1)) c3)) b base A2 (cap - 1 - (cn + 1)) (r.drop (cn + 1)) (out ++ r.take (cn + 1)) A3 c3 most := by
      refine ⟨?_, ?_, hlt2, ?_, ?_, Nat.le_trans hsz hB3.size, hbb⟩
      · have := R3.put 1 (.slice A3 (ol + (cn + 1)) c3)
        rw [hlo, List.length_drop]
        exact this
      · exact Bs.below hb2 (B := base) (((Below.refl _ _).grown hg3 hs2 (fun k hk => (hown2.lt k hk).1)).setCell hbb _) hlt2
      · rw [List.length_drop, ← hrl.out]; omega
      · rw [hlo]
        have := owns_set ho3 (a := ⟨b, 1, none⟩) hne3 (.slice A3 (ol + (cn + 1)) c3)
        simpa using this
    replace hRS := hide hRS
    replace hB3 := hide hB3
    replace hlo := hide hlo
    clear hsrc R1 R2 hown hown1 hown2 ho3 hg3 hl3 hB1 hB2 hb1 hb2
    by_cases hm : ol + (cn + 1) ≤ most
    · refine wp_region_text follows (by kernel_rfl) (by kernel_rfl) (fun K hK => ?_)
      go_wp2_with fail
      refine ⟨by kernel_rfl, ?_⟩
      go_wp2_with fail
      go_ret
      rw [hord.out, if_pos ⟨hk, hm⟩]
      refine ⟨ret_bool (a := decide ((ol : Int) + ((cn : Int) + 1) ≤ most)) (decide_eq_true (by omega)), fun rest' out' h => ?_, below_drew hB3.out⟩
      cases h
      exact ⟨_, _, _, _, hRS.out.drew⟩
    · refine wp_region_text follows (by kernel_rfl) (by kernel_rfl) (fun K hK => ?_)
      go_wp2_with fail
      refine ⟨by kernel_rfl, ?_⟩
      go_wp2_with fail
      go_ret
      rw [hord.out, if_neg (by omega)]
      refine ⟨ret_bool (a := decide ((ol : Int) + ((cn : Int) + 1) ≤ most)) (decide_eq_false (by omega)), ?_, below_drew hB3.out⟩
      intro rest' out' h
      cases h
  · have n2 := next_no b A1 (cn + 1) rl (cap - 1) w1 (by rw [hrl.out]; exact R1.cell 0 rfl) (by omega)
    replace n2 := hide n2
    go_wp2_with fail
    refine n2.out.mono ?_
    rintro e w2 ⟨rfl, rfl⟩
    have hs1 := Nat.le_trans hsz hB1.size
    have ca1 : w2.cell? ⟨b, 1, none⟩ = some (.slice Ao ol co) := R1.cell 1 rfl
    go_wp2_with (at_builtin; refine wpList_app elemB hown1 (Cells.nil w2 none) (.tmp 37) (.tmp 38) rfl rfl rfl rfl (m := 0) rfl rfl (one_of rfl) (by omega) hs1 (fun A3 c3 w3 ho3 hg3 hl3 => ?_); have hne : some b ≠ (Value.slice Ao ol co).ownBlock := fun e => owns_unlike hown1 R1 (by decide) e.symm; have R3 := R1.grown hg3 hne; have cb1 : w3.cell? ⟨b, 1, none⟩ = some (.slice Ao ol co) := R3.cell 1 rfl; have f1 := R3.free 1; clear ca1)
    have hB3 : Below base w (w3.setCell ⟨b, 1, none⟩ (.slice A3 (ol + 0) c3)) := (hB1.grown hg3 hs1 (fun k hk => (hown1.lt k hk).1)).setCell hbb _
    replace hB3 := hide hB3
    refine wp_region_text follows (by kernel_rfl) (by kernel_rfl) (fun K hK => ?_)
    go_wp2_with fail
    refine ⟨by kernel_rfl, ?_⟩
    go_wp2_with fail
    go_ret
    rw [hord.out, if_neg (by omega)]
    refine ⟨rfl, ?_, below_drew hB3.out⟩
    intro rest' out' h
    cases h
end Go.Proofs.Yteofooecfedplaa
