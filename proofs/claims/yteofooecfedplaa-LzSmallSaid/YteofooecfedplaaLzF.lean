/- loggia/lz: the packer's state, and what each of its functions does to it. -/
import Derived.Test.YteofooecfedplaaLzE
namespace Go.Proofs.Yteofooecfedplaa
open Go.RowKit Go.Maps

/-- The packer: the places ahead of i are noted, the run that is under way begins at fr, out is written. -/
structure PS (w : World) (b m base : Nat) (A : Option Addr) (c : Nat) (l : List UInt8) (i fr : Nat) (out : List UInt8) (Ao : Option Addr) (co : Nat) (L : List (Value × Value)) : Prop where
  row : Row w b 44 (pk A l.length c (.slice Ao out.length co) fr m)
  own : w.ownsRow base 5 1 (.slice Ao out.length co) out.length (out.map B8)
  grp : Grp w m base l i L
  sz : base ≤ w.heap.size
  bb : base ≤ b
  mb : base ≤ m
theorem MapL.not_row {P : Program} {k : TypeId} {w : World} {m : Nat} {L : List (Value × Value)} (h : MapL P k w m L) {t : TypeId} {cs : Array Value} (hr : Row w m t cs) : False := by
  obtain ⟨⟨es, cl, hh, _⟩, _⟩ := h
  unfold Row at hr
  rw [hh] at hr
  cases hr
section
variable {b m base : Nat} {A : Option Addr} {c : Nat} {l : List UInt8} {i fr : Nat} {out : List UInt8} {Ao : Option Addr} {co : Nat} {L : List (Value × Value)} {w : World}
theorem PS.ne (h : PS w b m base A c l i fr out Ao co L) : b ≠ m := fun e => by
  subst e
  exact h.grp.map.not_row h.row
theorem PS.ext {w1 : World} (h : PS w b m base A c l i fr out Ao co L) (he : Ext w w1) : PS w1 b m base A c l i fr out Ao co L :=
  ⟨h.row.ext he, he.owns h.own, h.grp.keep (Chg.of_ext he (fun _ => False)) (fun h => h) (fun _ _ h => h.elim), Nat.le_trans h.sz he.size, h.bb, h.mb⟩
/-- Behind a change of the packer's own block and of its out's: the map of places stays. -/
theorem PS.grp_keep {w1 : World} (h : PS w b m base A c l i fr out Ao co L) (hc : Chg (fun k => k = b ∨ (Value.slice Ao out.length co).ownBlock = some k) w w1) : Grp w1 m base l i L := by
  refine h.grp.keep hc ?_ ?_
  · rintro (e | e)
    · exact h.ne e.symm
    · obtain ⟨cur, hr, _⟩ := owns_row h.own e
      exact h.grp.map.not_row hr
  · rintro k cur (rfl | e) hr
    · exact Row.unlike h.row hr (by decide) rfl
    · obtain ⟨cur', hr', _⟩ := owns_row h.own e
      exact Row.unlike hr' hr (by decide) rfl

theorem run_ps (to : Nat) (hS : PS w b m base A c l i fr out Ao co L) (hl : Bs w A l) (hA : ∀ a, A = some a → a.block < base) (hn : l.length ≤ 16777216) (hc : l.length ≤ c) (hfr : fr ≤ to) (hto : to ≤ l.length) (hout : out.length ≤ 16777216) :
    Calls Try.prog 18 #[.pointer (some ⟨b, 0, none⟩), .int .i64 to] w fun e w' => e = .returned (.tuple #[]) ∧
      (∃ A1 c1, PS w' b m base A c l i to (out ++ runs (seg l fr to)) A1 c1 L) ∧ Below base w w' := by
  refine (run_any b fr m to base A c l out Ao co w hS.row hl hA hS.own hS.sz hn hc hS.bb hfr hto hout).mono ?_
  rintro e w' ⟨rfl, A1, n1, c1, rfl, hR, ho, hC⟩
  refine ⟨rfl, ⟨A1, c1, hR, ho, hS.grp_keep hC, Nat.le_trans hS.sz hC.size, hS.bb, hS.mb⟩, hC.below (fun k hk => ?_) hS.sz⟩
  rcases hk with rfl | hk
  · exact hS.bb
  · exact (hS.own.lt k hk).1

theorem note_ps (hS : PS w b m base A c l i fr out Ao co L) (hl : Bs w A l) (hn : l.length ≤ 16777216) (hc : l.length ≤ c) (hi : i < l.length) :
    Calls Try.prog 19 #[.pointer (some ⟨b, 0, none⟩), .int .i64 i] w fun e w' => e = .returned (.tuple #[]) ∧ (∃ L', PS w' b m base A c l (i + 1) fr out Ao co L') ∧ Below base w w' := by
  by_cases h4 : i + 4 ≤ l.length
  · refine (note_yes b m base i A c 0 l (.slice Ao out.length co) fr L w hS.row hl hS.grp hS.sz hn hc h4).mono ?_
    rintro e w' ⟨rfl, ⟨L', hG⟩, hC⟩
    refine ⟨rfl, ⟨L', hC.row hS.row ?_, hC.owns hS.own ?_, hG, Nat.le_trans hS.sz hC.size, hS.bb, hS.mb⟩, hC.below (fun k hk => ?_) hS.sz⟩
    · rintro (e | ⟨_, cur, hr⟩)
      · exact hS.ne e
      · exact Row.unlike hS.row hr (by decide) rfl
    · intro g hg
      obtain ⟨cur', hr', _⟩ := owns_row hS.own hg
      rintro (rfl | ⟨_, cur, hr⟩)
      · exact hS.grp.map.not_row hr'
      · exact Row.unlike hr' hr (by decide) rfl
    · rcases hk with rfl | ⟨hk, _⟩
      · exact hS.mb
      · exact hk
  · refine (note_no b i A c l.length w (hS.row.cell 0 rfl) hn (by omega) (by omega)).mono ?_
    rintro e w' ⟨rfl, hE⟩
    have h := hS.ext hE
    exact ⟨rfl, ⟨L, h.row, h.own, h.grp.next (by omega), h.sz, h.bb, h.mb⟩, Below.mono hE hS.sz⟩

theorem match_ps (hS : PS w b m base A c l i fr out Ao co L) (hl : Bs w A l) (hn : l.length ≤ 16777216) (hc : l.length ≤ c) (hi : i < l.length) :
    Calls Try.prog 17 #[.pointer (some ⟨b, 0, none⟩), .int .i64 i] w fun e w' => e = .returned (.tuple #[.int .i64 (matchM l i).1, .int .i64 (matchM l i).2]) ∧ Ext w w' := by
  by_cases h4 : i + 4 ≤ l.length
  · exact match_yes b m base i A c l (.slice Ao out.length co) fr L w hS.row hl hS.grp hn hc h4
  · exact match_no b i A c l w (hS.row.cell 0 rfl) hn (by omega) (by omega)
end
/-- What a match comes to. -/
theorem alk_end_le (l : List UInt8) (p i : Nat) : ∀ (f n : Nat), i + n ≤ l.length → i + alk l p i f n ≤ l.length
  | 0, _, h => h
  | f + 1, n, h => by
    show i + (if h : i + n < l.length ∧ p + n < l.length then if l[p + n] = l[i + n] then alk l p i f (n + 1) else n else n) ≤ _
    split
    · split
      · exact alk_end_le l p i f (n + 1) (by omega)
      · exact h
    · exact h
theorem mtl_spec {l : List UInt8} {i most : Nat} (hi : i ≤ l.length) : ∀ (ps : List Nat) (n d : Nat), (∀ p ∈ ps, p < i) → n ≤ 131 → i + n ≤ l.length → d ≤ i → d ≤ 65535 → (0 < n → 0 < d) →
    (mtl l i most ps n d).1 ≤ 131 ∧ i + (mtl l i most ps n d).1 ≤ l.length ∧ (mtl l i most ps n d).2 ≤ i ∧ (mtl l i most ps n d).2 ≤ 65535 ∧ (0 < (mtl l i most ps n d).1 → 0 < (mtl l i most ps n d).2)
  | [], n, d, _, h1, h2, h3, h4, h5 => ⟨h1, h2, h3, h4, h5⟩
  | p :: r, n, d, hp, h1, h2, h3, h4, h5 => by
    have hr : ∀ q ∈ r, q < i := fun q hq => hp q (List.mem_cons_of_mem _ hq)
    have hpi := hp p (List.mem_cons_self ..)
    have ha := (alk_le l p i 131 0).2
    have hb := alk_end_le l p i 131 0 (by omega)
    unfold mtl
    split
    · rename_i hc
      split
      · exact mtl_spec hi r _ _ hr (by omega) hb (by omega) hc.1 (fun _ => by omega)
      · exact mtl_spec hi r _ _ hr h1 h2 h3 h4 h5
    · exact ⟨h1, h2, h3, h4, h5⟩
theorem matchM_spec {l : List UInt8} {i : Nat} (hi : i ≤ l.length) : (matchM l i).1 ≤ 131 ∧ i + (matchM l i).1 ≤ l.length ∧ (matchM l i).2 ≤ i ∧ (matchM l i).2 ≤ 65535 ∧ (0 < (matchM l i).1 → 0 < (matchM l i).2) := by
  unfold matchM
  split
  · exact mtl_spec hi _ 0 0 (fun p hp => pos_lt (by simpa using hp)) (by omega) (by omega) (by omega) (by omega) (by omega)
  · simp; omega
end Go.Proofs.Yteofooecfedplaa
