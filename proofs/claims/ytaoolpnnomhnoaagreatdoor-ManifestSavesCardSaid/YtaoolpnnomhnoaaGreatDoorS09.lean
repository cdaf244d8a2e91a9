/- Strings as lists of bytes: a head, a tail, a byte. -/
import Derived.Test.YtaoolpnnomhnoaaGreatDoorRows
import Derived.Test.YtaoolpnnomhnoaaGreatDoorS01
import Derived.Test.YtaoolpnnomhnoaaGreatDoorS08
import Derived.Test.YtaoolpnnomhnoaaGreatDoorS06
import Derived.Test.YtaoolpnnomhnoaaGreatDoorS07
import Derived.Test.YtaoolpnnomhnoaaGreatDoorS04
import Derived.Deep.CutRange
import Derived.Deep.DeepCutAuto
import Derived.Deep.RegionHeld3
import Derived.Test.YtaoolpnnomhnoaaGreatDoorS05
import Derived.Test.YtaoolpnnomhnoaaGreatDoorS03
set_option linter.unusedSimpArgs false
set_option linter.unusedVariables false
namespace Go.Proofs.YtaoolpnnomhnoaaGreatDoor
open Go.RowKit

theorem bytes_take (l : List UInt8) (k : Nat) : (⟨l.toArray⟩ : ByteArray).extract 0 k = ⟨(l.take k).toArray⟩ := by
  have : ((⟨l.toArray⟩ : ByteArray).extract 0 k).data = (l.take k).toArray := by
    simp
  generalize (⟨l.toArray⟩ : ByteArray).extract 0 k = x at this
  cases x
  simp only at this
  rw [this]
set_option maxRecDepth 100000 in
theorem run_strhead (l : List UInt8) (k : Nat) (hk : k ≤ l.length) (W : World) : (Instr.sliceAt 9 (.string ⟨l.toArray⟩) none (some (.int .i64 k)) none).run Tryz.prog W = .ok (.string ⟨(l.take k).toArray⟩) W := by
  rw [run_sliceAt_string W 9 _ _ _ _ Tryz.underlying9]
  have hsz : (⟨l.toArray⟩ : ByteArray).size = l.length := ByteArray.size_mk_toArray l
  simp only [Instr.slice, Sem.run_bind, run_underlying Tryz.underlying9, Result.andThen_ok, Instr.sliceBounds, hsz, Option.isSome_none, Bool.false_eq_true, if_false, Sem.run_pure]
  rw [run_sliceBound W .i64 (k : Int) l.length _ (by omega) (by omega)]
  simp only [Result.andThen_ok, Int.toNat_natCast, bytes_take]
theorem run_strheadz {l : List UInt8} {k : Nat} (hk : k ≤ l.length) {z : Int} (hz : z = (k : Int)) (W : World) : (Instr.sliceAt 9 (.string ⟨l.toArray⟩) none (some (.int .i64 z)) none).run Tryz.prog W = .ok (.string ⟨(l.take k).toArray⟩) W := by
  subst hz
  exact run_strhead l k hk W
set_option maxRecDepth 100000 in
theorem run_strindex {l : List UInt8} {i : Nat} {b : UInt8} (h : l[i]? = some b) {z : Int} (hz : z = (i : Int)) (W : World) : (Instr.index 9 (.string ⟨l.toArray⟩) (.int .i64 z)).run Tryz.prog W = .ok (.int .u8 (b.toNat : Int)) W := by
  subst hz
  have hi := (List.getElem?_eq_some_iff.1 h).1
  have h2 := (List.getElem?_eq_some_iff.1 h).2
  have hsz : (⟨l.toArray⟩ : ByteArray).size = l.length := ByteArray.size_mk_toArray l
  rw [run_index_string W 9 _ .i64 (i : Int) Tryz.underlying9, dif_pos ⟨by omega, by rw [hsz]; omega⟩]
  have : ((⟨l.toArray⟩ : ByteArray)[(i : Int).toNat]'(by rw [hsz]; omega)) = b := by
    rw [← h2]
    simp only [Int.toNat_natCast]
    rfl
  rw [this]
set_option maxRecDepth 100000 in
theorem run_strindexk {l : List UInt8} {k : IntKind} {i : Nat} {b : UInt8} (h : l[i]? = some b) {z : Int} (hz : z = (i : Int)) (W : World) : (Instr.index 9 (.string ⟨l.toArray⟩) (.int k z)).run Tryz.prog W = .ok (.int .u8 (b.toNat : Int)) W := by
  subst hz
  have hi := (List.getElem?_eq_some_iff.1 h).1
  have h2 := (List.getElem?_eq_some_iff.1 h).2
  have hsz : (⟨l.toArray⟩ : ByteArray).size = l.length := ByteArray.size_mk_toArray l
  rw [run_index_string W 9 _ k (i : Int) Tryz.underlying9, dif_pos ⟨by omega, by rw [hsz]; omega⟩]
  have : ((⟨l.toArray⟩ : ByteArray)[(i : Int).toNat]'(by rw [hsz]; omega)) = b := by
    rw [← h2]
    simp only [Int.toNat_natCast]
    rfl
  rw [this]
theorem bytes_drop (l : List UInt8) (k : Nat) : (⟨l.toArray⟩ : ByteArray).extract k l.length = ⟨(l.drop k).toArray⟩ := by
  have : ((⟨l.toArray⟩ : ByteArray).extract k l.length).data = (l.drop k).toArray := by
    simp
    exact List.take_of_length_le (by rw [List.length_drop]; exact Nat.le_refl _)
  generalize (⟨l.toArray⟩ : ByteArray).extract k l.length = x at this
  cases x
  simp only at this
  rw [this]
set_option maxRecDepth 100000 in
theorem run_strtail (l : List UInt8) (k : Nat) (hk : k ≤ l.length) {z : Int} (hz : z = (k : Int)) (W : World) : (Instr.sliceAt 9 (.string ⟨l.toArray⟩) (some (.int .i64 z)) none none).run Tryz.prog W = .ok (.string ⟨(l.drop k).toArray⟩) W := by
  subst hz
  rw [run_sliceAt_string W 9 _ _ _ _ Tryz.underlying9]
  have hsz : (⟨l.toArray⟩ : ByteArray).size = l.length := ByteArray.size_mk_toArray l
  simp only [Instr.slice, Sem.run_bind, run_underlying Tryz.underlying9, Result.andThen_ok, Instr.sliceBounds, hsz, Option.isSome_none, Bool.false_eq_true, if_false, Sem.run_pure]
  rw [run_sliceBound W .i64 (k : Int) l.length _ (by omega) (by omega)]
  simp only [Result.andThen_ok, Int.toNat_natCast, bytes_drop]
end Go.Proofs.YtaoolpnnomhnoaaGreatDoor

/- loggialaw16: files that stand ahead on both disks; begin. -/
namespace Go.Proofs.YtaoolpnnomhnoaaGreatDoor
open Go.RowKit Go.Maps

/-- A file that stands ahead. -/
structure OpS where
  name : List UInt8
  b : List UInt8
  bA : Option Addr
  bc : Nat
  sure : Bool
def OpS.cells (o : OpS) : List Value := [str o.name, .slice o.bA o.b.length o.bc, .bool o.sure]
structure OpS.Ok (o : OpS) (w : World) : Prop where
  name : o.name.length ≤ 9223372036854775807
  br : Bs w o.bA o.b
  ba : o.b ≠ [] → ∀ a, o.bA = some a → a.block < w.heap.size ∧ a.spot = none
  bcap : o.b.length ≤ o.bc
def oscells (l : List OpS) : List Value := l.flatMap OpS.cells
theorem OpS.Ok.ext {o : OpS} {w w1 : World} (h : o.Ok w) (hE : Ext w w1) : o.Ok w1 := ⟨h.name, h.br.ext hE, fun hne a ha => ⟨Nat.lt_of_lt_of_le (h.ba hne a ha).1 hE.size, (h.ba hne a ha).2⟩, h.bcap⟩
theorem oscells_at {w : World} {A : Option Addr} {l : List OpS} (h : Cells w A (oscells l)) {i : Nat} {o : OpS} (ho : l[i]? = some o) : ∃ g f, A = some ⟨g, f, none⟩ ∧ ∀ j v, o.cells[j]? = some v → j < 3 → w.cell? ⟨g, f + i * 3 + j, none⟩ = some v := by
  have hi := (List.getElem?_eq_some_iff.1 ho).1
  have hl : (oscells l).length = l.length * 3 := flat_len_of (cellsA := OpS.cells) (k := 3) (fun _ => rfl) l
  obtain ⟨g, f, hA, hc⟩ := h.at_ (by rw [hl]; omega)
  refine ⟨g, f, hA, fun j v hv hj => ?_⟩
  rw [Nat.add_assoc]
  exact hc _ v (by unfold oscells; rw [flat_get_of (cellsA := OpS.cells) (k := 3) (fun _ => rfl) l i o j ho hj]; exact hv)
theorem cells_take {w : World} {A : Option Addr} {xs : List Value} (h : Cells w A xs) (n : Nat) : Cells w A (xs.take n) := by
  rcases h with h | ⟨g, o, hA, hc⟩
  · exact .inl (by rw [h]; simp)
  · refine .inr ⟨g, o, hA, fun i v hv => hc i v ?_⟩
    rw [List.getElem?_take] at hv
    split at hv
    · exact hv
    · cases hv
set_option maxRecDepth 100000 in
theorem cuts_any (A : Option Addr) (c : Nat) (l : List UInt8) (w : World) (hcap : l.length ≤ c) (hA : l ≠ [] → ∀ a, A = some a → a.spot = none) :
    Calls Tryz.prog 39 #[.slice A l.length c] w fun e w' => e = .returned (.slice A (cutL l).length c) ∧ w' = w := by
  obtain ⟨n, hn⟩ : ∃ n, n = l.length := ⟨_, rfl⟩
  have hnc : n ≤ c := by omega
  by_cases h9 : n ≤ 900
  · have ht : (cutL l).length = n := by rw [show cutL l = l from List.take_of_length_le (by omega), hn]
    rw [ht, ← hn]
    clear ht hn hA
    go_enter Tryz.func39, Tryz.ntmps39
    go_wp2_with fail
    go_ret
    exact ⟨rfl, rfl⟩
  · have hhd := fun W => run_head1 (n := n) (c := c) (k := 900) (A := A) (by omega) (hA (fun h => by rw [h] at hn; simp at hn; omega)) W
    have hl9 : (cutL l).length = 900 := by unfold cutL; rw [List.length_take]; omega
    rw [hl9, ← hn]
    clear hl9 hn hA
    go_enter Tryz.func39, Tryz.ntmps39
    go_wp2_with fail
    go_ret
    exact ⟨rfl, rfl⟩
/-- Both disks side by side: the program's at d, the document's laid into the block rb. -/
structure Two (w0 : World) (base d rb : Nat) (w : World) (P : PD) (F : Nat → Prop) (A : Option Addr) (n c : Nat) (R : List RE) : Prop where
  disk : DS w base d P F
  row : Row w rb 44 #[.slice A n c, .int .i64 P.quota, .int .i64 P.armed, .bool P.stopped]
  rs : RS w (fun k => F k ∨ k = rb ∨ k < base) A n c R
  pl : R.map RE.pl = P.L
  low : base ≤ rb
  ext : Ext w0 w
  old : w0.heap.size ≤ base
section
variable {w0 w w1 wx w' w2 w3 : World} {base d rb n c n1 c1 : Nat} {P P' : PD} {F F' : Nat → Prop} {A A1 : Option Addr} {R R1 : List RE}
theorem Two.move (h : Two w0 base d rb w P F A n c R) (hE : Ext w w1) : Two w0 base d rb w1 P F A n c R := ⟨h.disk.ext hE, h.row.ext hE, h.rs.ext hE, h.pl, h.low, h.ext.trans hE, h.old⟩
theorem Two.away (h : Two w0 base d rb w P F A n c R) : ¬ F rb := fun hF => by
  rcases h.disk.kind hF h.row with h | h | h
  · revert h; decide
  · revert h; decide
  · revert h; decide
theorem Two.lt (h : Two w0 base d rb w P F A n c R) : ∀ k, (F k ∨ k = rb ∨ k < base) → k < w.heap.size := fun k hk => by
  rcases hk with hk | rfl | hk
  · exact h.disk.lt hk
  · exact h.row.lt
  · have := h.row.lt; have := h.low; omega
theorem Two.armed (h : Two w0 base d rb w P F A n c R) : P.armed ≤ 9223372036854775807 := by
  obtain ⟨_, _, hD, _⟩ := h.disk
  exact hD.ha
theorem Two.quota (h : Two w0 base d rb w P F A n c R) : P.quota ≤ 9223372036854775807 := by
  obtain ⟨_, _, hD, _⟩ := h.disk
  exact hD.hq
/-- The program's disk has made its call, the document's has not. -/
structure Mid (w0 : World) (base d rb : Nat) (w : World) (P P' : PD) (F : Nat → Prop) (A : Option Addr) (n c : Nat) (R : List RE) : Prop where
  disk : DS w base d P' F
  row : Row w rb 44 #[.slice A n c, .int .i64 P.quota, .int .i64 P.armed, .bool P.stopped]
  rs : RS w (fun k => F k ∨ k = rb ∨ k < base) A n c R
  pl : R.map RE.pl = P.L
  away : ¬ F rb
  low : base ≤ rb
  ext : Ext w0 w
  old : w0.heap.size ≤ base
theorem Two.mid (h : Two w0 base d rb w P F A n c R) (hE : Ext w wx) (hN : DNext base d F wx P' w') : ∃ F', Mid w0 base d rb w' P P' F' A n c R := by
  obtain ⟨F', h1, h2, h3⟩ := hN
  have hD := h.disk.ext hE
  have hr := row_disk (h.row.ext hE) hD h2 (by decide)
  refine ⟨F', h1, hr, (h.rs.ext hE).chg h2 (fun k _ hk => .inl hk) (fun k hk hk2 => ?_), h.pl, fun hF => ?_, h.low, (h.ext.trans hE).chg h2 fun k hk hF => by have := hD.base_le hF; have := h.old; omega, h.old⟩
  · rcases hk2 with hk2 | hk2
    · rcases h3 k hk2 with h | h
      · exact .inl h
      · omega
    · exact .inr hk2
  · rcases h1.kind hF hr with h | h | h
    · revert h; decide
    · revert h; decide
    · revert h; decide
theorem Mid.lt (h : Mid w0 base d rb w P P' F A n c R) : ∀ k, (F k ∨ k = rb ∨ k < base) → k < w.heap.size := fun k hk => by
  rcases hk with hk | rfl | hk
  · exact h.disk.lt hk
  · exact h.row.lt
  · have := h.row.lt; have := h.low; omega
theorem Mid.done (h : Mid w0 base d rb w2 P P' F A n c R) (hR : RS w3 (fun k => F k ∨ k = rb ∨ k < base) A1 n1 c1 R1) (hp : R1.map RE.pl = P'.L) (hE : Ext w2 w3) :
    Two w0 base d rb (put4 w3 rb (.slice A1 n1 c1) (.int .i64 P'.quota) (.int .i64 P'.armed) (.bool P'.stopped)) P' F A1 n1 c1 R1 := by
  have hc := put4_chg w3 rb (.slice A1 n1 c1) (.int .i64 P'.quota) (.int .i64 P'.armed) (.bool P'.stopped)
  exact ⟨(h.disk.ext hE).chg hc fun k hk hF => h.away (hk ▸ hF), put4_row (h.row.ext hE) .., hR.chg hc (fun k _ hk => .inr (.inl hk)) (fun _ _ h => h), hp, h.low, put4_ext (h.ext.trans hE) (Nat.le_trans h.old h.low) .., h.old⟩
end
/-- What begin answers. -/
def BegP (w : World) (e : Ending) (w' : World) : Prop := ∃ d P F A n c R base, e = .returned (.tuple #[.pointer (some ⟨d, 0, none⟩), .agg #[.slice A n c, .int .i64 P.quota, .int .i64 P.armed, .bool P.stopped], .bool true]) ∧ w.heap.size ≤ base ∧ DS w' base d P F ∧ RS w' F A n c R ∧ R.map RE.pl = P.L ∧ Nm P ∧ Ext w w'
end Go.Proofs.YtaoolpnnomhnoaaGreatDoor

/- loggialaw16: begin. -/
namespace Go.Proofs.YtaoolpnnomhnoaaGreatDoor
open Go.RowKit Go.Maps

set_option maxRecDepth 100000 in
set_option maxHeartbeats 8000000 in
theorem begin_any (q : Nat) (A : Option Addr) (c : Nat) (l : List OpS) (w : World) (hq : q ≤ 4000) (hc : Cells w A (oscells l)) (hx : ∀ o ∈ l, o.Ok w) :
    Calls Tryz.prog 14 #[.int .i64 q, .slice A l.length c] w (BegP w) := by
  obtain ⟨W, hW⟩ : ∃ W, W = w.alloc (.cells #[.slice none 0 0, .int .i64 0, .int .i64 0, .bool false] 44) := ⟨_, rfl⟩
  have hE0 : Ext w W := by rw [hW]; exact (Ext.refl w).alloc _
  have hz : Row W w.heap.size 44 #[.slice none 0 0, .int .i64 0, .int .i64 0, .bool false] := by rw [hW]; exact Row.new w _ _
  obtain ⟨ln, hln⟩ : ∃ n, n = l.length := ⟨_, rfl⟩
  rw [← hln]
  have hl := fun i (h : i < ln) => List.getElem?_eq_getElem (l := l) (i := i) (by omega)
  have hnew := hide (new_yes W.heap.size q W (by omega) (Nat.le_refl _))
  have hrnew := hide (fun w => rnew_yes q w)
  replace hc := hide hc
  replace hx := hide hx
  replace hln := hide hln
  replace hl := hide hl
  replace hE0 := hide hE0
  replace hz := hide hz
  unfold rdisk at hrnew
  go_enter Tryz.func14, Tryz.ntmps14
  go_wp2_with fail
  rw [← hW]
  replace hW := hide hW
  refine hnew.out.mono ?_
  rintro e w1 ⟨d, F, rfl, hS, _, hE1⟩
  replace hS := hide hS
  replace hE1 := hide hE1
  go_wp2_with fail
  refine (hrnew.out _).mono ?_
  rintro e w2 ⟨rfl, hE2⟩
  obtain ⟨w3, hw3⟩ : ∃ W, W = w2.alloc (.cells #[.slice none 0 0, .int .i64 q, .int .i64 0, .bool false] 44) := ⟨_, rfl⟩
  obtain ⟨rb, hrb⟩ : ∃ r, r = w2.heap.size := ⟨_, rfl⟩
  have hE3 : Ext w2 w3 := by rw [hw3]; exact (Ext.refl w2).alloc _
  have hT : Two W W.heap.size d rb w3 ⟨[], q, 0, false⟩ F none 0 0 [] :=
    ⟨hS.out.ext (hE2.trans hE3), by rw [hw3, hrb]; exact Row.new w2 _ _, RS.nil _ _, rfl, by rw [hrb]; exact Nat.le_trans hE1.out.size hE2.size, (hE1.out.trans hE2).trans hE3, Nat.le_refl _⟩
  replace hT := hide hT
  replace hw3 := hide hw3
  replace hrb := hide hrb
  clear hE3 hE2 hE1 hS hnew hrnew
  go_wp2_with fail
  rw [← hrb.out, ← hw3.out]
  go_loopw [11] (fun s11 wr => ∃ (i : Nat) (P : PD) (F : Nat → Prop) (A : Option Addr) (n c : Nat) (R : List RE), s11 = .int .i64 (i : Int) ∧ i ≤ ln ∧ Hid (Two W W.heap.size d rb wr P F A n c R) ∧ Hid (Nm P)) (fun s11 _ => ln - (intOf s11).toNat)
  case atStart => exact ⟨0, _, F, none, 0, 0, [], rfl, by omega, hT, hide nofun⟩
  case round =>
    clear hT
    obtain ⟨i, P, F, Q, n, cq, R, rfl, hi, hT, hNm⟩ := hrel
    by_cases hin : i < ln
    · by_cases h4 : i < 4
      · have h4i : (i : Int) < 4 := by omega
        obtain ⟨ob, hob⟩ : ∃ o, l[i]? = some o := ⟨_, hl.out i hin⟩
        have hok := hx.out ob (List.mem_of_getElem? hob)
        have hokr := hok.ext hE0.out
        obtain ⟨g, f0, rfl, hcell⟩ := oscells_at (hc.out.ext hE0.out) hob
        obtain ⟨nm, hnm⟩ : ∃ s, s = ob.name := ⟨_, rfl⟩
        have k0 : wr.cell? ⟨g, f0 + i * 3, none⟩ = some (.string ⟨nm.toArray⟩) := by rw [hnm]; exact hT.out.ext.cell (hcell 0 _ rfl (by omega))
        have k1 : wr.cell? ⟨g, f0 + i * 3 + 1, none⟩ = some (.slice ob.bA ob.b.length ob.bc) := hT.out.ext.cell (hcell 1 _ rfl (by omega))
        have k2 := hcell 2 (.bool ob.sure) rfl (by omega)
        have hnl := hok.name
        rw [← hnm] at hnl
        have hcut := fun w0 => cuts_any ob.bA ob.bc ob.b w0 hok.bcap (fun hne a ha => (hok.ba hne a ha).2)
        have hS0 : wr.drew.cell? ⟨g, f0 + i * 3, none⟩ = some (.string ⟨nm.toArray⟩) ∧ wr.drew.cell? ⟨g, f0 + i * 3 + 1, none⟩ = some (.slice ob.bA ob.b.length ob.bc) ∧ Ext wr wr.drew := ⟨k0, k1, (Ext.refl wr).drew⟩
        have hS1 : wr.cell? ⟨g, f0 + i * 3, none⟩ = some (.string ⟨nm.toArray⟩) ∧ wr.cell? ⟨g, f0 + i * 3 + 1, none⟩ = some (.slice ob.bA ob.b.length ob.bc) ∧ Ext wr wr := ⟨k0, k1, Ext.refl wr⟩
        replace hS0 := hide hS0
        replace hS1 := hide hS1
        replace hcut := hide hcut
        replace hok := hide hok
        replace hokr := hide hokr
        replace hob := hide hob
        replace hcell := hide hcell
        replace hnm := hide hnm
        go_wp2_with fail
        go_region_held3 (fun x => x.cell? ⟨g, f0 + i * 3, none⟩ = some (.string ⟨nm.toArray⟩) ∧ x.cell? ⟨g, f0 + i * 3 + 1, none⟩ = some (.slice ob.bA ob.b.length ob.bc) ∧ Ext wr x) (first | exact hS0.out | exact hS1.out | exact ‹_›) (first
          | (go_at_call 39; refine (hcut.out _).mono ?_; rintro e w3 ⟨rfl, rfl⟩))
        go_upto_if 58 with (fail)
        go_cut [12] from 56 to 60 (fun s12 wv => ∃ s : List UInt8, s12 = .string ⟨s.toArray⟩ ∧ s.length ≤ 9223372036854775807 ∧ wv = wr.drew)
        case first =>
          by_cases h7 : 70 < nm.length
          · have hh := fun W => run_strhead nm 70 (by omega) W
            have h7i : (70 : Int) < (nm.length : Int) := by omega
            have h8 : (nm.take 70).length ≤ 9223372036854775807 := by rw [List.length_take]; omega
            go_wp2_with fail
            go_meet
            case rel => exact ⟨nm.take 70, by rw [bytes_take], h8, rfl⟩
          · have h7i : ¬ (70 : Int) < (nm.length : Int) := by omega
            go_wp2_with fail
            go_meet
            case rel => exact ⟨nm, rfl, hnl, rfl⟩
        case rest =>
          obtain ⟨s, rfl, hsl, rfl⟩ := hcut
          have hT0 := hT.out.move (Ext.refl wr).drew
          obtain ⟨bb, hbb⟩ : ∃ b, b = cutL ob.b := ⟨_, rfl⟩
          have hbl : bb.length ≤ 900 := by rw [hbb]; unfold cutL; rw [List.length_take]; omega
          have hbs : ∀ x, Ext W x → Bs x ob.bA bb := fun x hx => by
            have h := cells_take (hokr.out.br.ext hx) 900
            rw [← List.map_take] at h
            rw [hbb]; exact h
          have hbo : bb ≠ [] → ∀ a, ob.bA = some a → ¬ F a.block := fun hne a ha hF => by
            have h1 := (hok.out.ba (fun h => hne (by rw [hbb, h]; rfl)) a ha).1
            have h2 := hT0.disk.base_le hF
            have h3 := hE0.out.size
            omega
          rw [← hbb]
          obtain ⟨⟨P1, e1⟩, hA⟩ : ∃ Q, appendM P s bb = Q := ⟨_, rfl⟩
          have ha := append_any0 W.heap.size d P F s bb ob.bA bb.length ob.bc wr.drew hT0.disk hsl (hbs _ hT0.ext) hbo rfl (by omega) hT0.ext.size
          have hra := fun N x (h : RS x N Q n cq R) (hN : ∀ k, N k → k < x.heap.size) (hx : Ext W x) => rappend_any N Q n cq P R s bb ob.bA bb.length ob.bc x h hT0.pl hN hsl hT0.armed (hbs x hx) rfl (by omega) hT0.quota
          have hNm1 : Nm P1 := by have := nm_append hNm.out s bb; rw [hA] at this; exact this
          replace hNm1 := hide hNm1
          rw [hA] at ha hra
          unfold str at ha
          replace ha := hide ha
          replace hra := hide hra
          replace hT0 := hide hT0
          replace hA := hide hA
          replace hbs := hide hbs
          replace hbo := hide hbo
          replace hbb := hide hbb
          clear hT hS0 hS1 k0 k1
          go_wp2_with fail
          refine ha.out.mono ?_
          rintro e y0 ⟨rfl, hN⟩
          obtain ⟨F1, hM⟩ := hT0.out.mid (Ext.refl _) hN
          clear hN ha
          have hc := hide (hra.out _ _ hM.rs hM.lt hM.ext)
          have x := hM.row.get
          unfold RNext rdisk str at hc
          replace hM := hide hM
          go_wp2_with fail
          clear x
          refine hc.out.mono ?_
          rintro e y1 ⟨A1, n1, c1, R1, rfl, hR, hP, hE⟩
          have hT := hM.out.done hR hP hE
          have hr := hM.out.row.ext hE
          have x := hr.get
          have f := hr.free
          obtain ⟨v1, hv⟩ : ∃ v, v = put4 y1 rb (.slice A1 n1 c1) (.int .i64 P1.quota) (.int .i64 P1.armed) (.bool P1.stopped) := ⟨_, rfl⟩
          rw [← hv] at hT
          unfold put4 at hv
          replace hv := hide hv
          replace hT := hide hT
          clear hc hR hP hE hr hM
          have k2' := hT.out.ext.cell k2
          go_upto_region 13 with (fail)
          rw [← hv.out]
          clear hv x f
          cases hsu : ob.sure with
          | false =>
            rw [hsu] at k2'
            go_wp2_with fail
            go_roundw
            case rel => exact ⟨i + 1, P1, F1, A1, n1, c1, R1, by go_num, by omega, hT, hNm1⟩
            case measure => simp [intOf]; omega
          | true =>
            rw [hsu] at k2'
            obtain ⟨⟨P2, e2⟩, hA2⟩ : ∃ Q, syncM P1 s = Q := ⟨_, rfl⟩
            have hs := sync_any W.heap.size d P1 F1 s v1 hT.out.disk hsl
            have hrs := fun N x (h : RS x N A1 n1 c1 R1) (hN : ∀ k, N k → k < x.heap.size) => rsync_any N A1 n1 c1 P1 R1 s x h hT.out.pl hN hsl hT.out.armed
            have hNm2 : Nm P2 := by have := nm_sync hNm1.out s; rw [hA2] at this; exact this
            replace hNm2 := hide hNm2
            rw [hA2] at hs hrs
            unfold str at hs
            replace hs := hide hs
            replace hrs := hide hrs
            replace hA2 := hide hA2
            go_wp2_with fail
            refine hs.out.mono ?_
            rintro e y2 ⟨rfl, hN⟩
            obtain ⟨F2, hM⟩ := hT.out.mid (Ext.refl _) hN
            clear hN hs
            have hc := hide (hrs.out _ _ hM.rs hM.lt)
            have x := hM.row.get
            unfold RNext rdisk str at hc
            replace hM := hide hM
            go_wp2_with fail
            clear x
            refine hc.out.mono ?_
            rintro e y2 ⟨A2, n2, c2, R2, rfl, hR, hP, hE⟩
            have hT := hM.out.done hR hP hE
            have hr := hM.out.row.ext hE
            have x := hr.get
            have f := hr.free
            obtain ⟨v2, hv⟩ : ∃ v, v = put4 y2 rb (.slice A2 n2 c2) (.int .i64 P2.quota) (.int .i64 P2.armed) (.bool P2.stopped) := ⟨_, rfl⟩
            rw [← hv] at hT
            unfold put4 at hv
            replace hv := hide hv
            replace hT := hide hT
            clear hc hR hP hE hr hM
            go_wp2_with fail
            rw [← hv.out]
            go_roundw
            case rel => exact ⟨i + 1, P2, F2, A2, n2, c2, R2, by go_num, by omega, hT, hNm2⟩
            case measure => simp [intOf]; omega
      · have h4i : ¬ (i : Int) < 4 := by omega
        go_wp2_with fail
        refine wp_region_text follows (by kernel_rfl) (by kernel_rfl) (fun K hK => ?_)
        have x := hT.out.row.get
        have z := (hz.out.ext hT.out.ext)
        have y := z.get
        have f := z.free
        go_wp2_with fail
        refine ⟨by kernel_rfl, ?_⟩
        go_wp2_with fail
        have q1 := (put4_row z (.slice Q n cq) (.int .i64 P.quota) (.int .i64 P.armed) (.bool P.stopped)).drew
        have q2 := put4_chg wr w.heap.size (.slice Q n cq) (.int .i64 P.quota) (.int .i64 P.armed) (.bool P.stopped)
        have q3 := put4_ext (hE0.out.trans hT.out.ext) (Nat.le_refl _) (.slice Q n cq) (.int .i64 P.quota) (.int .i64 P.armed) (.bool P.stopped)
        have hzW := hz.out.lt
        have hfin : BegP w (.returned (.tuple #[.pointer (some ⟨d, 0, none⟩), .agg #[.slice Q n cq, .int .i64 P.quota, .int .i64 P.armed, .bool P.stopped], .bool true])) (put4 wr w.heap.size (.slice Q n cq) (.int .i64 P.quota) (.int .i64 P.armed) (.bool P.stopped)).drew :=
          ⟨d, P, F, Q, n, cq, R, W.heap.size, rfl, hE0.out.size, (hT.out.disk.chg q2 fun k hk hF => by
            have := hT.out.disk.base_le hF
            omega).ext (Ext.refl _).drew, (hT.out.rs.chg q2 (fun k _ hk => .inr (.inr (by omega))) (fun _ _ h => .inl h)).ext (Ext.refl _).drew, hT.out.pl, hNm.out, q3.drew⟩
        obtain ⟨wf, hwf⟩ : ∃ wf, wf = put4 wr w.heap.size (.slice Q n cq) (.int .i64 P.quota) (.int .i64 P.armed) (.bool P.stopped) := ⟨_, rfl⟩
        rw [← hwf] at hfin q1
        unfold put4 at hwf
        rw [← hwf]
        have zz := q1.get
        clear hwf q1 q2 q3
        exact bodyPost_ret (v := .tuple #[.pointer (some ⟨d, 0, none⟩), .agg #[.slice Q n cq, .int .i64 P.quota, .int .i64 P.armed, .bool P.stopped], .bool true]) (by simp [results, Tryz.results14, go_sem, zz]) rfl hfin
    · skip
      go_wp2_with fail
      refine wp_region_text follows (by kernel_rfl) (by kernel_rfl) (fun K hK => ?_)
      have x := hT.out.row.get
      have z := (hz.out.ext hT.out.ext)
      have y := z.get
      have f := z.free
      go_wp2_with fail
      refine ⟨by kernel_rfl, ?_⟩
      go_wp2_with fail
      have q1 := (put4_row z (.slice Q n cq) (.int .i64 P.quota) (.int .i64 P.armed) (.bool P.stopped)).drew
      have q2 := put4_chg wr w.heap.size (.slice Q n cq) (.int .i64 P.quota) (.int .i64 P.armed) (.bool P.stopped)
      have q3 := put4_ext (hE0.out.trans hT.out.ext) (Nat.le_refl _) (.slice Q n cq) (.int .i64 P.quota) (.int .i64 P.armed) (.bool P.stopped)
      have hzW := hz.out.lt
      have hfin : BegP w (.returned (.tuple #[.pointer (some ⟨d, 0, none⟩), .agg #[.slice Q n cq, .int .i64 P.quota, .int .i64 P.armed, .bool P.stopped], .bool true])) (put4 wr w.heap.size (.slice Q n cq) (.int .i64 P.quota) (.int .i64 P.armed) (.bool P.stopped)).drew :=
        ⟨d, P, F, Q, n, cq, R, W.heap.size, rfl, hE0.out.size, (hT.out.disk.chg q2 fun k hk hF => by
          have := hT.out.disk.base_le hF
          omega).ext (Ext.refl _).drew, (hT.out.rs.chg q2 (fun k _ hk => .inr (.inr (by omega))) (fun _ _ h => .inl h)).ext (Ext.refl _).drew, hT.out.pl, hNm.out, q3.drew⟩
      obtain ⟨wf, hwf⟩ : ∃ wf, wf = put4 wr w.heap.size (.slice Q n cq) (.int .i64 P.quota) (.int .i64 P.armed) (.bool P.stopped) := ⟨_, rfl⟩
      rw [← hwf] at hfin q1
      unfold put4 at hwf
      rw [← hwf]
      have zz := q1.get
      clear hwf q1 q2 q3
      exact bodyPost_ret (v := .tuple #[.pointer (some ⟨d, 0, none⟩), .agg #[.slice Q n cq, .int .i64 P.quota, .int .i64 P.armed, .bool P.stopped], .bool true]) (by simp [results, Tryz.results14, go_sem, zz]) rfl hfin
end Go.Proofs.YtaoolpnnomhnoaaGreatDoor

/- loggialaw16: alike. -/
namespace Go.Proofs.YtaoolpnnomhnoaaGreatDoor
open Go.RowKit Go.Maps

theorem DS.upL {w : World} {base d : Nat} {P : PD} {F : Nat → Prop} (h : DS w base d P F) : Up fname P.L := by
  obtain ⟨m, E, hD, hF⟩ := h
  rw [← hD.pl]
  exact List.pairwise_map.2 hD.up
set_option maxRecDepth 100000 in
set_option maxHeartbeats 8000000 in
theorem alike_any (base d : Nat) (P : PD) (F : Nat → Prop) (N : Nat → Prop) (A : Option Addr) (n c : Nat) (R : List RE) (w : World) (h : DS w base d P F) (hR : RS w N A n c R) (hP : R.map RE.pl = P.L) (hNm : Nm P) (hN : ∀ k, N k → k < w.heap.size) (hF : ∀ k, F k → N k) :
    Calls Tryz.prog 18 #[.pointer (some ⟨d, 0, none⟩), rdisk A n c P.quota P.armed P.stopped] w fun e w' => e = .returned (.bool true) ∧ DNext base d F w (restartM P []) w' := by
  obtain ⟨W, hW⟩ : ∃ W, W = w.alloc (.cells #[.slice A n c, .int .i64 P.quota, .int .i64 P.armed, .bool P.stopped] 44) := ⟨_, rfl⟩
  have hEW : Ext w W := by rw [hW]; exact (Ext.refl w).alloc _
  obtain ⟨b, hb⟩ : ∃ b, b = w.heap.size := ⟨_, rfl⟩
  have hd : Row W b 44 #[.slice A n c, .int .i64 P.quota, .int .i64 P.armed, .bool P.stopped] := by rw [hW, hb]; exact Row.new w _ _
  obtain ⟨N2, hN2⟩ : ∃ N2 : Nat → Prop, N2 = fun k => N k ∨ (w.heap.size ≤ k ∧ k < W.heap.size) := ⟨_, rfl⟩
  have hRW := hR.away2 hEW hN2
  have hDW := h.ext hEW
  have hre := restart_any0 base d P F none 0 0 [] W hDW (Cells.nil _ _) (fun h => absurd rfl h) rfl nofun (by omega)
  have hrr := fun w1 (h1 : RS w1 N2 A n c R) (hs : W.heap.size ≤ w1.heap.size) => rrestart_any N2 A n c P.quota P.armed P.stopped R none 0 0 [] w1 h1 (fun k hk => Nat.lt_of_lt_of_le (n2_lt hN hEW hN2 (Ext.refl _) k hk) hs) (Cells.nil _ _) rfl nofun (by omega)
  have hpl : (keptR R []).map RE.pl = (restartM P []).L := by rw [keptR_pl, hP]; rfl
  have hNm1 := nm_restart hNm []
  obtain ⟨P1, hP1⟩ : ∃ P1, P1 = restartM P [] := ⟨_, rfl⟩
  have hs1 : P1.stopped = false := by rw [hP1]; rfl
  have ha1 : P1.armed = 0 := by rw [hP1]; rfl
  have hq1 : P1.quota = P.quota := by rw [hP1]; rfl
  obtain ⟨q, hq⟩ : ∃ q, q = P.quota := ⟨_, rfl⟩
  rw [← hP1] at hre hpl hNm1 ⊢
  rw [← hq] at hq1 hrr hd
  unfold rdisk at hrr ⊢
  rw [← hq] at hW ⊢
  have hbW := hd.lt
  have hNb : N2 b := by rw [hN2]; exact .inr ⟨by omega, hbW⟩
  have hFN : ∀ k, F k → N2 k := fun k hk => by rw [hN2]; exact .inl (hF k hk)
  replace hre := hide hre
  replace hrr := hide hrr
  replace hW := hide hW
  replace hb := hide hb
  replace hN2 := hide hN2
  replace hRW := hide hRW
  replace hDW := hide hDW
  replace hpl := hide hpl
  replace hNm1 := hide hNm1
  replace hP1 := hide hP1
  replace hs1 := hide hs1
  replace ha1 := hide ha1
  replace hq1 := hide hq1
  replace hq := hide hq
  replace hNb := hide hNb
  clear hP hR h hNm hN hF
  go_enter Tryz.func18, Tryz.ntmps18
  go_wp2_with fail
  rw [← hW.out, ← hb.out]
  refine hre.out.mono ?_
  rintro e w1 ⟨rfl, hDN⟩
  have hDN' := hide hDN
  obtain ⟨F1, hS1, hC1, hF1⟩ := hDN
  have hd1 := row_disk hd hDW.out hC1 (by decide)
  have hR1 := hRW.out.chg (N' := N2) hC1 (fun k _ hk => hFN k hk) (fun _ _ h => h)
  have x := hd1.get
  replace hS1 := hide hS1
  replace hC1 := hide hC1
  replace hR1 := hide hR1
  go_wp2_with fail
  clear x
  refine (hrr.out w1 hR1.out hC1.out.size).mono ?_
  rintro e w2 ⟨A1, n1, c1, rfl, hR2, hE2⟩
  have hd2 := hd1.ext hE2
  have x := hd2.get
  have f := hd2.free
  have hpc := put4_chg w2 b (.slice A1 n1 c1) (.int .i64 q) (.int .i64 0) (.bool false)
  have hd3 := put4_row hd2 (.slice A1 n1 c1) (.int .i64 q) (.int .i64 0) (.bool false)
  have hnb : ¬ F1 b := fun hf => by
    rcases hS1.out.kind hf hd1 with h | h | h
    · revert h; decide
    · revert h; decide
    · revert h; decide
  have hS3 := (hS1.out.ext hE2).chg hpc fun k hk hf => hnb (hk ▸ hf)
  have hR3 := hR2.chg (N' := N2) hpc (fun k _ hk => by rw [hk]; exact hNb.out) (fun _ _ h => h)
  obtain ⟨w3, hw3⟩ : ∃ w3, w3 = put4 w2 b (.slice A1 n1 c1) (.int .i64 q) (.int .i64 0) (.bool false) := ⟨_, rfl⟩
  rw [← hw3] at hd3 hS3 hR3 hpc
  have hnx : ∀ x, Ext w3 x → DNext base d F w P1 x := fun x hx => by
    obtain ⟨F', g1, g2, g3⟩ := hDN'.out
    refine ⟨F1, hS3.ext hx, ((((Chg.of_ext hEW F).trans hC1.out fun _ _ h => h).trans (Chg.of_ext hE2 F) fun _ _ h => h).trans hpc fun i hi hk => by have := hb.out; omega).trans (Chg.of_ext hx F) fun _ _ h => h, fun k hk => ?_⟩
    rcases hF1 k hk with h | h
    · exact .inl h
    · exact .inr (by have := hEW.size; omega)
  unfold put4 at hw3
  replace hw3 := hide hw3
  replace hnx := hide hnx
  have hli : ∀ w0, (w0.cell? ⟨b, 0, none⟩ = some (.slice A1 n1 c1) ∧ w0.cell? ⟨b, 1, none⟩ = some (.int .i64 q) ∧ w0.cell? ⟨b, 2, none⟩ = some (.int .i64 0) ∧ w0.cell? ⟨b, 3, none⟩ = some (.bool false) ∧ Ext w3 w0) → Calls Tryz.prog 50 #[.pointer (some ⟨d, 0, none⟩)] w0 fun e w' => ∃ A5 n5 c5, e = .returned (.slice A5 n5 c5) ∧ Hid (n5 = (listM P1).length ∧ n5 ≤ 1024 ∧ Cells w' A5 ((listM P1).map str)) ∧ Ext w0 w' := fun w0 h0 =>
    (list_any base d P1 F1 w0 (hS3.ext h0.2.2.2.2)).mono (by rintro e w' ⟨A5, n5, c5, rfl, h1, h2, h3, h4, h5, h6⟩; exact ⟨A5, n5, c5, rfl, hide ⟨h1, h4, h2⟩, h6⟩)
  have hrli : ∀ w0, (w0.cell? ⟨b, 0, none⟩ = some (.slice A1 n1 c1) ∧ w0.cell? ⟨b, 1, none⟩ = some (.int .i64 q) ∧ w0.cell? ⟨b, 2, none⟩ = some (.int .i64 0) ∧ w0.cell? ⟨b, 3, none⟩ = some (.bool false) ∧ Ext w3 w0) → Calls Tryz.prog 51 #[.agg #[.slice A1 n1 c1, .int .i64 q, .int .i64 0, .bool false]] w0 fun e w' => ∃ A5 n5 c5, e = .returned (.slice A5 n5 c5) ∧ Hid (n5 = (listM P1).length ∧ n5 ≤ 1024 ∧ Cells w' A5 ((listM P1).map str)) ∧ Ext w0 w' := fun w0 h0 => by
    have := rlist_any N2 A1 n1 c1 P1 (keptR R []) w0 (hR3.ext h0.2.2.2.2) hpl.out
    rw [hs1.out, ha1.out, hq1.out] at this
    exact this.mono (by rintro e w' ⟨A5, n5, c5, rfl, h1, h2, h3, h6⟩; exact ⟨A5, n5, c5, rfl, hide ⟨h1, h2, h3⟩, h6⟩)
  have hkp : ∀ w0 w1 : World, (w0.cell? ⟨b, 0, none⟩ = some (.slice A1 n1 c1) ∧ w0.cell? ⟨b, 1, none⟩ = some (.int .i64 q) ∧ w0.cell? ⟨b, 2, none⟩ = some (.int .i64 0) ∧ w0.cell? ⟨b, 3, none⟩ = some (.bool false) ∧ Ext w3 w0) → Ext w0 w1 → (w1.cell? ⟨b, 0, none⟩ = some (.slice A1 n1 c1) ∧ w1.cell? ⟨b, 1, none⟩ = some (.int .i64 q) ∧ w1.cell? ⟨b, 2, none⟩ = some (.int .i64 0) ∧ w1.cell? ⟨b, 3, none⟩ = some (.bool false) ∧ Ext w3 w1) := fun w0 w1 h1 h3 => ⟨h3.cell h1.1, h3.cell h1.2.1, h3.cell h1.2.2.1, h3.cell h1.2.2.2.1, h1.2.2.2.2.trans h3⟩
  have hsn := fun (A5 A6 : Option Addr) (n5 n6 c5 c6 : Nat) (w : World) (h5 : n5 = (listM P1).length) (h6 : n6 = (listM P1).length) (hA : Cells w A5 ((listM P1).map str)) (hB : Cells w A6 ((listM P1).map str)) (h : n5 ≤ 1024) (h' : n6 ≤ 1024) => rsamen_any A5 A6 n5 n6 c5 c6 (listM P1) (listM P1) w h5 h6 hA hB h h'
  simp only [decide_true] at hsn
  have hS0 : w3.drew.cell? ⟨b, 0, none⟩ = some (.slice A1 n1 c1) ∧ w3.drew.cell? ⟨b, 1, none⟩ = some (.int .i64 q) ∧ w3.drew.cell? ⟨b, 2, none⟩ = some (.int .i64 0) ∧ w3.drew.cell? ⟨b, 3, none⟩ = some (.bool false) ∧ Ext w3 w3.drew := ⟨hd3.cell 0 rfl, hd3.cell 1 rfl, hd3.cell 2 rfl, hd3.cell 3 rfl, (Ext.refl w3).drew⟩
  have hS1w : w3.cell? ⟨b, 0, none⟩ = some (.slice A1 n1 c1) ∧ w3.cell? ⟨b, 1, none⟩ = some (.int .i64 q) ∧ w3.cell? ⟨b, 2, none⟩ = some (.int .i64 0) ∧ w3.cell? ⟨b, 3, none⟩ = some (.bool false) ∧ Ext w3 w3 := ⟨hd3.cell 0 rfl, hd3.cell 1 rfl, hd3.cell 2 rfl, hd3.cell 3 rfl, Ext.refl w3⟩
  have hup := hide hS3.upL
  replace hkp := hide hkp
  replace hS0 := hide hS0
  replace hS1w := hide hS1w
  replace hli := hide hli
  replace hrli := hide hrli
  replace hsn := hide hsn
  replace hd3 := hide hd3
  replace hS3 := hide hS3
  replace hR3 := hide hR3
  clear hpc hd2 hd1 hR2 hE2 hrr hre hDN'
  go_upto_region 3 with (fail)
  rw [← hw3.out]
  clear x f
  go_region_held3 (fun x => x.cell? ⟨b, 0, none⟩ = some (.slice A1 n1 c1) ∧ x.cell? ⟨b, 1, none⟩ = some (.int .i64 q) ∧ x.cell? ⟨b, 2, none⟩ = some (.int .i64 0) ∧ x.cell? ⟨b, 3, none⟩ = some (.bool false) ∧ Ext w3 x) (first | exact hS0.out | exact hS1w.out | exact ‹_› | exact hkp.out _ _ ‹_› ‹_›) (first
      | (go_at_call 50; refine (hli.out _ ‹_›).mono ?_; rintro e w5 ⟨A5, n5, c5, rfl, hL5, hE5⟩)
      | (go_at_call 51; refine (hrli.out _ ‹_›).mono ?_; rintro e w6 ⟨A6, n6, c6, rfl, hL6, hE6⟩)
      | (go_at_call 49; refine (hsn.out A5 A6 n5 n6 c5 c6 _ hL5.out.1 hL6.out.1 (hL5.out.2.2.ext hE6) hL6.out.2.2 hL5.out.2.1 hL6.out.2.1).mono ?_; rintro e w7 ⟨rfl, hE7⟩))
  have hE07 := hide ((((Ext.refl w3).drew.trans hE5).trans hE6).trans hE7)
  clear hL5 hL6
  go_wp2_with fail
  obtain ⟨RR, hRR⟩ : ∃ RR, RR = keptR R [] := ⟨_, rfl⟩
  rw [← hRR] at hR3 hpl
  have hmany := hR3.out.many
  go_loopw [5] (fun s5 wr => ∃ i : Nat, s5 = .int .i64 (i : Int) ∧ i ≤ n1 ∧ Hid (Ext w3 wr)) (fun s5 _ => n1 - (intOf s5).toNat)
  case atStart => exact ⟨0, rfl, by omega, hE07⟩
  case round =>
    obtain ⟨i, rfl, hi, hE⟩ := hrel
    have hdr := (hd3.out.ext hE.out).get
    by_cases hin : i < n1
    · obtain ⟨g, o, r, rfl, hr, k0, k1, k2⟩ := (hR3.out.ext hE.out).at_ hin
      have hrm := List.mem_of_getElem? hr
      have hok := (hR3.out.ext hE.out).ok r hrm
      have hfd : P1.find r.name = some r.pl := find_of hup.out (f := r.pl) (by rw [← hpl.out]; exact List.mem_map_of_mem hrm)
      have hra := read_all hNm1.out hs1.out hfd
      have hlen := hok.len
      have hrd := read_any base d P1 F1 r.name 0 ((r.b.length : Int) + 1) wr.drew (hS3.out.ext hE.out.drew) hok.name (by omega) (by omega) (by omega) (by omega)
      unfold ReadPost at hrd
      have hra2 : readM P1 r.name 0 ((r.b.length : Int) + 1) = (r.b, 0) := hra
      rw [hra2] at hrd
      unfold str at k0 hrd
      simp only at hrd
      have hby := hide hok.bytes
      replace hrd := hide hrd
      clear hra hra2 hfd hok hr hrm k2
      go_wp2_with fail
      refine wp_region_text follows (by kernel_rfl) (by kernel_rfl) (fun K hK => ?_)
      go_wp2_with fail
      refine hrd.out.mono ?_
      rintro e w5 ⟨A2, m2, c2, rfl, hb2, hm2, hE5⟩
      have hE5' := (Ext.refl wr).drew.trans hE5
      replace hm2 := hide hm2
      go_wp2_with fail
      refine ⟨by kernel_rfl, ?_⟩
      have hT1 : w5.cell? ⟨b, 0, none⟩ = some (.slice (some ⟨g, o, none⟩) n1 c1) ∧ w5.cell? ⟨g, o + i * 3 + 1, none⟩ = some (.slice r.A r.b.length r.c) ∧ Ext w5 w5 := ⟨hE5'.cell (hdr 0), hE5'.cell k1, Ext.refl w5⟩
      have hT0 : w5.drew.cell? ⟨b, 0, none⟩ = some (.slice (some ⟨g, o, none⟩) n1 c1) ∧ w5.drew.cell? ⟨g, o + i * 3 + 1, none⟩ = some (.slice r.A r.b.length r.c) ∧ Ext w5 w5.drew := ⟨(Ext.refl w5).drew.cell hT1.1, (Ext.refl w5).drew.cell hT1.2.1, (Ext.refl w5).drew⟩
      have hkt : ∀ w0 w1 : World, (w0.cell? ⟨b, 0, none⟩ = some (.slice (some ⟨g, o, none⟩) n1 c1) ∧ w0.cell? ⟨g, o + i * 3 + 1, none⟩ = some (.slice r.A r.b.length r.c) ∧ Ext w5 w0) → Ext w0 w1 → (w1.cell? ⟨b, 0, none⟩ = some (.slice (some ⟨g, o, none⟩) n1 c1) ∧ w1.cell? ⟨g, o + i * 3 + 1, none⟩ = some (.slice r.A r.b.length r.c) ∧ Ext w5 w1) := fun w0 w1 h1 h3 => ⟨h3.cell h1.1, h3.cell h1.2.1, h1.2.2.trans h3⟩
      have s1 : ∀ w0, Ext w5 w0 → (convert 57 9 (.slice A2 m2 c2)).run Tryz.prog w0 = .ok (.string ⟨r.b.toArray⟩) w0 := fun w0 h0 => run_str (Cells.ext hb2.cells h0) m2 c2 hm2.out
      have s2 : ∀ w0, Ext w5 w0 → (convert 57 9 (.slice r.A r.b.length r.c)).run Tryz.prog w0 = .ok (.string ⟨r.b.toArray⟩) w0 := fun w0 h0 => run_str (hby.out.ext (hE5'.trans h0)) r.b.length r.c rfl
      have hxx : (r.b != r.b) = false := by simp
      have hEn := hide (hE.out.trans (hE5'.drew))
      replace hT1 := hide hT1
      replace hT0 := hide hT0
      replace hkt := hide hkt
      clear k0 k1 hdr hrd hby hb2
      go_wp2_with fail
      go_region_held3 (fun x => x.cell? ⟨b, 0, none⟩ = some (.slice (some ⟨g, o, none⟩) n1 c1) ∧ x.cell? ⟨g, o + i * 3 + 1, none⟩ = some (.slice r.A r.b.length r.c) ∧ Ext w5 x) (first | exact hT0.out | exact hT1.out | exact ‹_› | exact hkt.out _ _ ‹_› ‹_›) (first
        | fail)
      go_wp2_with fail
      go_roundw
      case rel => exact ⟨i + 1, by go_num, by omega, hEn⟩
      case measure => simp [intOf]; omega
    · go_wp2_with fail
      go_ret
      exact ⟨rfl, hnx.out _ hE.out⟩
end Go.Proofs.YtaoolpnnomhnoaaGreatDoor

/- loggia/manifest: Load. -/
namespace Go.Proofs.YtaoolpnnomhnoaaGreatDoor
open Go.RowKit Go.Maps

/-- What Load answers. -/
def LoadP (w : World) (Z : Mf × Bool × Nat) (e : Ending) (w' : World) : Prop := ∃ A c, e = .returned (.tuple #[Z.1.val A c, .bool Z.2.1, .int .i64 (Z.2.2 : Nat)]) ∧ Z.1.Ok w' w'.heap.size A c ∧ Ext w w'
theorem read_stop {P : PD} (h : P.stopped = true) (n : Int) : readM P curN 0 n = ([], 63) := by
  unfold readM
  rw [if_pos cur_named, if_pos h]
theorem read_gone {P : PD} (h : P.stopped = false) (h2 : P.find curN = none) (n : Int) : readM P curN 0 n = ([], 61) := by
  unfold readM
  rw [if_pos cur_named, if_neg (by rw [h]; simp), h2]
theorem read_there {P : PD} {f : PF} (h : P.stopped = false) (h2 : P.find curN = some f) : readM P curN 0 67108864 = (f.2.1.take 67108864, 0) := by
  unfold readM
  rw [if_pos cur_named, if_neg (by rw [h]; simp), h2]
  simp only
  rw [if_neg (by omega)]
  rfl
theorem load_stop {P : PD} (h : P.stopped = true) : loadM P = (nilMf, false, 63) := by unfold loadM; rw [if_pos h]
theorem load_gone {P : PD} (h : P.stopped = false) (h2 : P.find curN = none) : loadM P = (newM, false, 0) := by unfold loadM; rw [if_neg (by rw [h]; simp), h2]
theorem load_bad {P : PD} {f : PF} (h : P.stopped = false) (h2 : P.find curN = some f) (h3 : decM (f.2.1.take 67108864) = none) : loadM P = (nilMf, false, 160) := by unfold loadM; rw [if_neg (by rw [h]; simp), h2]; simp only; rw [h3]
theorem load_good {P : PD} {f : PF} {m : Mf} (h : P.stopped = false) (h2 : P.find curN = some f) (h3 : decM (f.2.1.take 67108864) = some m) : loadM P = (m, true, 0) := by unfold loadM; rw [if_neg (by rw [h]; simp), h2]; simp only; rw [h3]
theorem setM_chg (w : World) (g : Nat) (m : Mf) (A : Option Addr) (c : Nat) : Chg (fun k => k = g) w (setM w g m A c) := by
  have s : ∀ (x : World) (i : Nat) (v : Value), Chg (fun k => k = g) w x → Chg (fun k => k = g) w (x.setCell ⟨g, i, none⟩ v) := fun x i v h => h.trans (Chg.of_set (S := fun k => k = g) x v rfl) fun _ _ h => h
  exact s _ _ _ (s _ _ _ (s _ _ _ (s _ _ _ (s _ _ _ (s _ _ _ (Chg.refl _ w))))))
/-- A manifest's parts lie in no block of six cells. -/
theorem mf_apart {m : Mf} {w : World} {base g : Nat} {A : Option Addr} {c : Nat} {t : TypeId} {x0 x1 x2 x3 x4 x5 : Value} (h : m.Ok w base A c) (hr : Row w g t #[x0, x1, x2, x3, x4, x5]) (hne : m.ps ≠ []) : ∀ a, A = some a → a.block ≠ g := by
  intro a ha he
  obtain ⟨p, ps, hps⟩ := List.exists_cons_of_ne_nil hne
  have hlen : 0 < (pcells m.ps).length := by rw [hps]; exact Nat.succ_pos _
  obtain ⟨g2, o, hA, hc⟩ := h.parts.cells.at_ hlen
  rw [ha] at hA
  injection hA with hA
  subst hA
  subst he
  have h6 := hc 6 (.int .i64 p.n) (by rw [hps]; rfl)
  have h7 := cell_of_row w g2 (o + 6) _ t (0, 0) hr
  rw [h6] at h7
  simp at h7
theorem mf_setM {m : Mf} {w : World} {g : Nat} {A : Option Addr} {c : Nat} {t : TypeId} {x0 x1 x2 x3 x4 x5 : Value} (h : m.Ok w w.heap.size A c) (hr : Row w g t #[x0, x1, x2, x3, x4, x5]) (m2 : Mf) (A2 : Option Addr) (c2 : Nat) : m.Ok (setM w g m2 A2 c2) (setM w g m2 A2 c2).heap.size A c := by
  have hC := setM_chg w g m2 A2 c2
  refine ⟨⟨h.parts.len, ?_, fun hne a ha => ⟨Nat.lt_of_lt_of_le (h.parts.away hne a ha).1 hC.size, (h.parts.away hne a ha).2⟩, h.parts.cap, h.parts.most, h.parts.ok⟩, h.floor, h.done, h.log, h.next, h.now⟩
  by_cases hne : m.ps = []
  · rw [hne]; exact .inl rfl
  · exact hC.cells h.parts.cells fun a ha => mf_apart h hr hne a ha
set_option maxRecDepth 100000 in
set_option maxHeartbeats 8000000 in
theorem load_any (base d : Nat) (P : PD) (F : Nat → Prop) (w : World) (h : DS w base d P F) :
    Calls Tryz.prog 12 #[.pointer (some ⟨d, 0, none⟩)] w (LoadP w (loadM P)) := by
  have hrd := fun W (hE : Ext w W) => read_any base d P F curN 0 67108864 W (h.ext hE) cur_len (by omega) (by omega) (by omega) (by omega)
  unfold str at hrd
  have hnew := fun W => new_any W
  unfold newM Mf.val at hnew
  simp only [List.length_nil] at hnew
  replace hnew := hide hnew
  have hz0 : Row (w.alloc (.cells #[.slice none 0 0, .int .i64 0, .int .i64 0, .int .i64 0, .int .i64 0, .int .i64 0] 24)) w.heap.size 24 #[.slice none 0 0, .int .i64 0, .int .i64 0, .int .i64 0, .int .i64 0, .int .i64 0] := Row.new w _ _
  have hE0 : Ext w (w.alloc (.cells #[.slice none 0 0, .int .i64 0, .int .i64 0, .int .i64 0, .int .i64 0, .int .i64 0] 24)) := (Ext.refl w).alloc _
  replace hz0 := hide hz0
  replace hE0 := hide hE0
  cases hst : P.stopped with
  | true =>
    have hr := read_stop hst 67108864
    have hl := hide (load_stop hst)
    unfold ReadPost at hrd
    rw [hr] at hrd
    replace hrd := hide hrd
    clear h hst hr
    go_enter Tryz.func12, Tryz.ntmps12
    go_wp2_with fail
    refine (hrd.out _ hE0.out).mono ?_
    rintro e w1 ⟨A1, k1, c1, rfl, _, _, hE1⟩
    have hz := hz0.out.ext hE1
    have t0 := hz.cell 0 rfl
    have t1 := hz.cell 1 rfl
    have t2 := hz.cell 2 rfl
    have t3 := hz.cell 3 rfl
    have t4 := hz.cell 4 rfl
    have t5 := hz.cell 5 rfl
    have tf := fun i => hz.free i
    have tl := hz.lt
    go_wp2_with fail
    obtain ⟨w6, hw6⟩ : ∃ w6, w6 = setM w1 w.heap.size nilMf none 0 := ⟨_, rfl⟩
    have hk6 := setM_row hz nilMf none 0
    rw [← hw6] at hk6
    have hE6 := setM_ext (hE0.out.trans hE1) (Nat.le_refl _) nilMf none 0
    rw [← hw6] at hE6
    have ho6 : nilMf.Ok w6 w6.heap.size none 0 := nilMf_ok _ _
    simp only [setM, nilMf, List.length_nil] at hw6
    rw [← hw6]
    have k0 : w6.cell? ⟨w.heap.size, 0, none⟩ = some (.slice none 0 0) := hk6.cell 0 rfl
    have k1 : w6.cell? ⟨w.heap.size, 1, none⟩ = some (.int .i64 0) := hk6.cell 1 rfl
    have k2 : w6.cell? ⟨w.heap.size, 2, none⟩ = some (.int .i64 0) := hk6.cell 2 rfl
    have k3 : w6.cell? ⟨w.heap.size, 3, none⟩ = some (.int .i64 0) := hk6.cell 3 rfl
    have k4 : w6.cell? ⟨w.heap.size, 4, none⟩ = some (.int .i64 0) := hk6.cell 4 rfl
    have k5 : w6.cell? ⟨w.heap.size, 5, none⟩ = some (.int .i64 0) := hk6.cell 5 rfl
    clear hw6 hk6
    exact bodyPost_ret (v := .tuple #[nilMf.val none 0, .bool false, .int .i64 63]) (by simp [results, Tryz.results12, go_sem, nilMf, Mf.val, k0, k1, k2, k3, k4, k5]) rfl (by rw [hl.out]; exact ⟨_, _, rfl, ho6, hE6⟩)
  | false =>
    cases hfd : P.find curN with
    | none =>
      have hr := read_gone hst hfd 67108864
      have hl := hide (load_gone hst hfd)
      unfold ReadPost at hrd
      rw [hr] at hrd
      replace hrd := hide hrd
      clear h hst hr hfd
      go_enter Tryz.func12, Tryz.ntmps12
      go_wp2_with fail
      refine (hrd.out _ hE0.out).mono ?_
      rintro e w1 ⟨A1, k1, c1, rfl, _, _, hE1⟩
      go_wp2_with fail
      refine (hnew.out _).mono ?_
      rintro e w2 ⟨rfl, hE2⟩
      have hz := hz0.out.ext (hE1.trans hE2)
      have t0 := hz.cell 0 rfl
      have t1 := hz.cell 1 rfl
      have t2 := hz.cell 2 rfl
      have t3 := hz.cell 3 rfl
      have t4 := hz.cell 4 rfl
      have t5 := hz.cell 5 rfl
      have tf := fun i => hz.free i
      have tl := hz.lt
      go_wp2_with fail
      obtain ⟨w6, hw6⟩ : ∃ w6, w6 = setM w2 w.heap.size newM none 0 := ⟨_, rfl⟩
      have hk6 := setM_row hz newM none 0
      rw [← hw6] at hk6
      have hE6 := setM_ext (hE0.out.trans (hE1.trans hE2)) (Nat.le_refl _) newM none 0
      rw [← hw6] at hE6
      have ho6 : newM.Ok w6 w6.heap.size none 0 := newM_ok _ _
      simp only [setM, newM, List.length_nil] at hw6
      rw [← hw6]
      have k0 : w6.cell? ⟨w.heap.size, 0, none⟩ = some (.slice none 0 0) := hk6.cell 0 rfl
      have k1 : w6.cell? ⟨w.heap.size, 1, none⟩ = some (.int .i64 (-9223372036854775808)) := hk6.cell 1 rfl
      have k2 : w6.cell? ⟨w.heap.size, 2, none⟩ = some (.int .i64 0) := hk6.cell 2 rfl
      have k3 : w6.cell? ⟨w.heap.size, 3, none⟩ = some (.int .i64 1) := hk6.cell 3 rfl
      have k4 : w6.cell? ⟨w.heap.size, 4, none⟩ = some (.int .i64 1) := hk6.cell 4 rfl
      have k5 : w6.cell? ⟨w.heap.size, 5, none⟩ = some (.int .i64 (-9223372036854775808)) := hk6.cell 5 rfl
      clear hw6 hk6
      exact bodyPost_ret (v := .tuple #[newM.val none 0, .bool false, .int .i64 0]) (by simp [results, Tryz.results12, go_sem, newM, Mf.val, k0, k1, k2, k3, k4, k5]) rfl (by rw [hl.out]; exact ⟨_, _, rfl, ho6, hE6⟩)
    | some f =>
      have hr := read_there hst hfd
      obtain ⟨l, hle⟩ : ∃ l, l = f.2.1.take 67108864 := ⟨_, rfl⟩
      have hll : l.length ≤ 67108864 := by rw [hle, List.length_take]; omega
      unfold ReadPost at hrd
      rw [hr, ← hle] at hrd
      replace hrd := hide hrd
      have hln : decM l = none → loadM P = (nilMf, false, 160) := fun h => load_bad hst hfd (by rw [← hle]; exact h)
      have hls : ∀ m, decM l = some m → loadM P = (m, true, 0) := fun m h => load_good hst hfd (by rw [← hle]; exact h)
      replace hln := hide hln
      replace hls := hide hls
      clear h hst hr hfd hle
      go_enter Tryz.func12, Tryz.ntmps12
      go_wp2_with fail
      refine (hrd.out _ hE0.out).mono ?_
      rintro e w1 ⟨A1, k1, c1, rfl, hb, hk, hE1⟩
      have hdec := hide (decode_any A1 k1 c1 l w1 hb.in8 (by rw [hk]; show l.length ≤ _; omega))
      clear hb hk
      go_wp2_with fail
      refine hdec.out.mono ?_
      rintro e w2 ⟨hE2, hd⟩
      have hz := hz0.out.ext (hE1.trans hE2)
      cases hdm : decM l with
      | none =>
        rw [hdm] at hd
        simp only at hd
        subst hd
        have hl := hide (hln.out hdm)
        have t0 := hz.cell 0 rfl
        have t1 := hz.cell 1 rfl
        have t2 := hz.cell 2 rfl
        have t3 := hz.cell 3 rfl
        have t4 := hz.cell 4 rfl
        have t5 := hz.cell 5 rfl
        have tf := fun i => hz.free i
        have tl := hz.lt
        unfold nilMf Mf.val
        simp only [List.length_nil]
        go_wp2_with fail
        obtain ⟨w6, hw6⟩ : ∃ w6, w6 = setM w2 w.heap.size nilMf none 0 := ⟨_, rfl⟩
        have hk6 := setM_row hz nilMf none 0
        rw [← hw6] at hk6
        have hE6 := setM_ext (hE0.out.trans (hE1.trans hE2)) (Nat.le_refl _) nilMf none 0
        rw [← hw6] at hE6
        have ho6 : nilMf.Ok w6 w6.heap.size none 0 := nilMf_ok _ _
        simp only [setM, nilMf, List.length_nil] at hw6
        rw [← hw6]
        obtain ⟨w7, hw7⟩ : ∃ w7, w7 = w6.alloc (.cells #[.slice none 0 0, .int .i64 0, .int .i64 0, .int .i64 0, .int .i64 0, .int .i64 0] 24) := ⟨_, rfl⟩
        have hE7 : Ext w6 w7 := by rw [hw7]; exact (Ext.refl w6).alloc _
        replace hk6 := hk6.ext hE7
        replace hE6 := hE6.trans hE7
        have ho7 : nilMf.Ok w7 w7.heap.size none 0 := nilMf_ok w7 w7.heap.size
        rw [← hw7]
        have k0 : w7.cell? ⟨w.heap.size, 0, none⟩ = some (.slice none 0 0) := hk6.cell 0 rfl
        have k1 : w7.cell? ⟨w.heap.size, 1, none⟩ = some (.int .i64 0) := hk6.cell 1 rfl
        have k2 : w7.cell? ⟨w.heap.size, 2, none⟩ = some (.int .i64 0) := hk6.cell 2 rfl
        have k3 : w7.cell? ⟨w.heap.size, 3, none⟩ = some (.int .i64 0) := hk6.cell 3 rfl
        have k4 : w7.cell? ⟨w.heap.size, 4, none⟩ = some (.int .i64 0) := hk6.cell 4 rfl
        have k5 : w7.cell? ⟨w.heap.size, 5, none⟩ = some (.int .i64 0) := hk6.cell 5 rfl
        clear hw6 hk6 hw7
        exact bodyPost_ret (v := .tuple #[nilMf.val none 0, .bool false, .int .i64 160]) (by simp [results, Tryz.results12, go_sem, nilMf, Mf.val, k0, k1, k2, k3, k4, k5]) rfl (by rw [hl.out]; exact ⟨_, _, rfl, ho7, hE6⟩)

      | some m =>
        rw [hdm] at hd
        simp only at hd
        obtain ⟨A2, c2, rfl, ho⟩ := hd
        have hl := hide (hls.out m hdm)
        have t0 := hz.cell 0 rfl
        have t1 := hz.cell 1 rfl
        have t2 := hz.cell 2 rfl
        have t3 := hz.cell 3 rfl
        have t4 := hz.cell 4 rfl
        have t5 := hz.cell 5 rfl
        have tf := fun i => hz.free i
        have tl := hz.lt
        unfold Mf.val
        go_wp2_with fail
        obtain ⟨w6, hw6⟩ : ∃ w6, w6 = setM w2 w.heap.size m A2 c2 := ⟨_, rfl⟩
        have hk6 := setM_row hz m A2 c2
        rw [← hw6] at hk6
        have hE6 := setM_ext (hE0.out.trans (hE1.trans hE2)) (Nat.le_refl _) m A2 c2
        rw [← hw6] at hE6
        have ho6 : m.Ok w6 w6.heap.size A2 c2 := by rw [hw6]; exact mf_setM ho hz _ _ _
        unfold setM at hw6
        rw [← hw6]
        obtain ⟨w7, hw7⟩ : ∃ w7, w7 = w6.alloc (.cells #[.slice A2 m.ps.length c2, .int .i64 m.floor, .int .i64 m.done, .int .i64 m.log, .int .i64 m.next, .int .i64 m.now] 24) := ⟨_, rfl⟩
        have hE7 : Ext w6 w7 := by rw [hw7]; exact (Ext.refl w6).alloc _
        replace hk6 := hk6.ext hE7
        replace hE6 := hE6.trans hE7
        have ho7 : m.Ok w7 w7.heap.size A2 c2 := ⟨⟨ho6.parts.len, ho6.parts.cells.ext hE7, fun hne a ha => ⟨Nat.lt_of_lt_of_le (ho6.parts.away hne a ha).1 hE7.size, (ho6.parts.away hne a ha).2⟩, ho6.parts.cap, ho6.parts.most, ho6.parts.ok⟩, ho6.floor, ho6.done, ho6.log, ho6.next, ho6.now⟩
        rw [← hw7]
        have k0 : w7.cell? ⟨w.heap.size, 0, none⟩ = some (.slice A2 m.ps.length c2) := hk6.cell 0 rfl
        have k1 : w7.cell? ⟨w.heap.size, 1, none⟩ = some (.int .i64 m.floor) := hk6.cell 1 rfl
        have k2 : w7.cell? ⟨w.heap.size, 2, none⟩ = some (.int .i64 m.done) := hk6.cell 2 rfl
        have k3 : w7.cell? ⟨w.heap.size, 3, none⟩ = some (.int .i64 m.log) := hk6.cell 3 rfl
        have k4 : w7.cell? ⟨w.heap.size, 4, none⟩ = some (.int .i64 m.next) := hk6.cell 4 rfl
        have k5 : w7.cell? ⟨w.heap.size, 5, none⟩ = some (.int .i64 m.now) := hk6.cell 5 rfl
        clear hw6 hk6 hw7
        exact bodyPost_ret (v := .tuple #[m.val A2 c2, .bool true, .int .i64 0]) (by simp [results, Tryz.results12, go_sem, Mf.val, k0, k1, k2, k3, k4, k5]) rfl (by rw [hl.out]; exact ⟨_, _, rfl, ho7, hE6⟩)

end Go.Proofs.YtaoolpnnomhnoaaGreatDoor

/- loggia/disk: a disk that nobody made. -/
namespace Go.Proofs.YtaoolpnnomhnoaaGreatDoor
open Go.RowKit Go.Maps

/-- No disk, or one without a map. -/
def Nob (w : World) (o : Option Addr) : Prop := o = none ∨ ∃ d, o = some ⟨d, 0, none⟩ ∧ Row w d 56 #[.map none, .int .i64 0, .int .i64 0, .bool false]
theorem Nob.ext {w w1 : World} {o : Option Addr} (h : Nob w o) (hE : Ext w w1) : Nob w1 o := h.imp id fun ⟨d, h1, h2⟩ => ⟨d, h1, h2.ext hE⟩
theorem map_none (w : World) : (binOp .eql 54 (.map none) (.map none)).run Tryz.prog w = .ok (.bool true) w := by kernel_rfl
set_option maxRecDepth 100000 in
theorem nob_none (o : Option Addr) (w : World) (h : Nob w o) : Calls Tryz.prog 35 #[.pointer o] w fun e w' => e = .returned (.bool true) ∧ w' = w := by
  rcases h with rfl | ⟨d, rfl, hr⟩
  · go_enter Tryz.func35, Tryz.ntmps35
    go_wp2_with fail
    go_ret
    exact ⟨rfl, rfl⟩
  · have c0 := hr.cell 0 rfl
    have hq := map_none w
    go_enter Tryz.func35, Tryz.ntmps35
    go_wp2_with fail
    go_ret
    exact ⟨rfl, rfl⟩
set_option maxRecDepth 100000 in
theorem nob_may (o : Option Addr) (A : Option Addr) (n c : Nat) (w : World) (h : Nob w o) : Calls Tryz.prog 52 #[.pointer o, .slice A n c] w fun e w' => e = .returned (.int .i64 4) ∧ w' = w := by
  have h0 : ∀ W, Ext w W → Calls Tryz.prog 35 #[.pointer o] W fun e w' => e = .returned (.bool true) ∧ w' = W := fun W hE => nob_none o W (h.ext hE)
  replace h0 := hide h0
  go_enter Tryz.func52, Tryz.ntmps52
  go_wp2_with fail
  refine (h0.out _ (by first | exact Ext.refl _ | exact (Ext.refl _).alloc _ | exact ((Ext.refl _).alloc _).alloc _ | exact (Ext.refl _).drew | exact ((Ext.refl _).alloc _).drew | exact ((Ext.refl _).drew).alloc _)).mono ?_
  rintro e w1 ⟨rfl, rfl⟩
  go_wp2_with fail
  go_ret
  exact ⟨rfl, rfl⟩
set_option maxRecDepth 100000 in
theorem nob_size (o : Option Addr) (s : List UInt8) (w : World) (h : Nob w o) : Calls Tryz.prog 57 #[.pointer o, str s] w fun e w' => e = .returned (.tuple #[.int .i64 0, .bool false]) ∧ w' = w := by
  unfold str
  have h0 : ∀ W, Ext w W → Calls Tryz.prog 35 #[.pointer o] W fun e w' => e = .returned (.bool true) ∧ w' = W := fun W hE => nob_none o W (h.ext hE)
  replace h0 := hide h0
  go_enter Tryz.func57, Tryz.ntmps57
  go_wp2_with fail
  refine (h0.out _ (by first | exact Ext.refl _ | exact (Ext.refl _).alloc _ | exact ((Ext.refl _).alloc _).alloc _ | exact (Ext.refl _).drew | exact ((Ext.refl _).alloc _).drew | exact ((Ext.refl _).drew).alloc _)).mono ?_
  rintro e w1 ⟨rfl, rfl⟩
  go_wp2_with fail
  go_ret2
  exact ⟨rfl, rfl⟩
set_option maxRecDepth 100000 in
theorem nob_list (o : Option Addr) (w : World) (h : Nob w o) : Calls Tryz.prog 50 #[.pointer o] w fun e w' => e = .returned (.slice none 0 0) ∧ w' = w := by
  have h0 : ∀ W, Ext w W → Calls Tryz.prog 35 #[.pointer o] W fun e w' => e = .returned (.bool true) ∧ w' = W := fun W hE => nob_none o W (h.ext hE)
  replace h0 := hide h0
  go_enter Tryz.func50, Tryz.ntmps50
  go_wp2_with fail
  refine (h0.out _ (by first | exact Ext.refl _ | exact (Ext.refl _).alloc _ | exact ((Ext.refl _).alloc _).alloc _ | exact (Ext.refl _).drew | exact ((Ext.refl _).alloc _).drew | exact ((Ext.refl _).drew).alloc _)).mono ?_
  rintro e w1 ⟨rfl, rfl⟩
  go_wp2_with fail
  go_ret
  exact ⟨rfl, rfl⟩
set_option maxRecDepth 100000 in
theorem nob_used (o : Option Addr) (w : World) (h : Nob w o) : Calls Tryz.prog 59 #[.pointer o] w fun e w' => e = .returned (.int .i64 0) ∧ w' = w := by
  have h0 : ∀ W, Ext w W → Calls Tryz.prog 35 #[.pointer o] W fun e w' => e = .returned (.bool true) ∧ w' = W := fun W hE => nob_none o W (h.ext hE)
  replace h0 := hide h0
  go_enter Tryz.func59, Tryz.ntmps59
  go_wp2_with fail
  refine (h0.out _ (by first | exact Ext.refl _ | exact (Ext.refl _).alloc _ | exact ((Ext.refl _).alloc _).alloc _ | exact (Ext.refl _).drew | exact ((Ext.refl _).alloc _).drew | exact ((Ext.refl _).drew).alloc _)).mono ?_
  rintro e w1 ⟨rfl, rfl⟩
  go_wp2_with fail
  go_ret
  exact ⟨rfl, rfl⟩
set_option maxRecDepth 100000 in
theorem nob_arm (o : Option Addr) (q : Int) (w : World) (h : Nob w o) : Calls Tryz.prog 10 #[.pointer o, .int .i64 q] w fun e w' => e = .returned (.tuple #[]) ∧ w' = w := by
  have h0 : ∀ W, Ext w W → Calls Tryz.prog 35 #[.pointer o] W fun e w' => e = .returned (.bool true) ∧ w' = W := fun W hE => nob_none o W (h.ext hE)
  replace h0 := hide h0
  go_enter Tryz.func10, Tryz.ntmps10
  go_wp2_with fail
  refine (h0.out _ (by first | exact Ext.refl _ | exact (Ext.refl _).alloc _ | exact ((Ext.refl _).alloc _).alloc _ | exact (Ext.refl _).drew | exact ((Ext.refl _).alloc _).drew | exact ((Ext.refl _).drew).alloc _)).mono ?_
  rintro e w1 ⟨rfl, rfl⟩
  go_wp2_with fail
  go_end0
  exact ⟨rfl, rfl⟩
set_option maxRecDepth 100000 in
theorem nob_restart (o : Option Addr) (A : Option Addr) (n c : Nat) (w : World) (h : Nob w o) : Calls Tryz.prog 11 #[.pointer o, .slice A n c] w fun e w' => e = .returned (.tuple #[]) ∧ w' = w := by
  have h0 : ∀ W, Ext w W → Calls Tryz.prog 35 #[.pointer o] W fun e w' => e = .returned (.bool true) ∧ w' = W := fun W hE => nob_none o W (h.ext hE)
  replace h0 := hide h0
  go_enter Tryz.func11, Tryz.ntmps11
  go_wp2_with fail
  refine (h0.out _ (by first | exact Ext.refl _ | exact (Ext.refl _).alloc _ | exact ((Ext.refl _).alloc _).alloc _ | exact (Ext.refl _).drew | exact ((Ext.refl _).alloc _).drew | exact ((Ext.refl _).drew).alloc _)).mono ?_
  rintro e w1 ⟨rfl, rfl⟩
  go_wp2_with fail
  refine bodyPost_ret (v := .tuple #[]) (by simp [results, Tryz.results11, go_sem]) rfl ?_
  exact ⟨rfl, rfl⟩
set_option maxRecDepth 100000 in
theorem nob_append (o : Option Addr) (s : List UInt8) (A : Option Addr) (n c : Nat) (w : World) (h : Nob w o) : Calls Tryz.prog 26 #[.pointer o, str s, .slice A n c] w fun e w' => e = .returned (.int .i64 4) ∧ Ext w w' := by
  unfold str
  have h0 : ∀ A n c W, Ext w W → Calls Tryz.prog 52 #[.pointer o, .slice A n c] W fun e w' => e = .returned (.int .i64 4) ∧ w' = W := fun A n c W hE => nob_may o A n c W (h.ext hE)
  replace h0 := hide h0
  go_enter Tryz.func26, Tryz.ntmps26
  go_wp2_with fail
  refine (h0.out _ _ _ _ (by first | exact Ext.refl _ | exact (Ext.refl _).alloc _ | exact ((Ext.refl _).alloc _).alloc _ | exact (Ext.refl _).drew | exact ((Ext.refl _).alloc _).drew | exact ((Ext.refl _).drew).alloc _)).mono ?_
  rintro e w1 ⟨rfl, rfl⟩
  go_wp2_with fail
  go_ret
  exact ⟨rfl, by first | exact Ext.refl _ | exact (Ext.refl _).alloc _ | exact ((Ext.refl _).alloc _).drew | exact (Ext.refl _).drew⟩
set_option maxRecDepth 100000 in
theorem nob_read (o : Option Addr) (s : List UInt8) (fr n : Int) (w : World) (h : Nob w o) : Calls Tryz.prog 20 #[.pointer o, str s, .int .i64 fr, .int .i64 n] w fun e w' => e = .returned (.tuple #[.slice none 0 0, .int .i64 4]) ∧ Ext w w' := by
  unfold str
  have h0 : ∀ A n c W, Ext w W → Calls Tryz.prog 52 #[.pointer o, .slice A n c] W fun e w' => e = .returned (.int .i64 4) ∧ w' = W := fun A n c W hE => nob_may o A n c W (h.ext hE)
  replace h0 := hide h0
  go_enter Tryz.func20, Tryz.ntmps20
  go_wp2_with fail
  refine (h0.out _ _ _ _ (by first | exact Ext.refl _ | exact (Ext.refl _).alloc _ | exact ((Ext.refl _).alloc _).alloc _ | exact (Ext.refl _).drew | exact ((Ext.refl _).alloc _).drew | exact ((Ext.refl _).drew).alloc _)).mono ?_
  rintro e w1 ⟨rfl, rfl⟩
  go_wp2_with fail
  go_ret2
  exact ⟨rfl, by first | exact Ext.refl _ | exact (Ext.refl _).alloc _ | exact ((Ext.refl _).alloc _).drew | exact (Ext.refl _).drew⟩
set_option maxRecDepth 100000 in
set_option maxHeartbeats 2000000 in
theorem nob_writes (o : Option Addr) (s : List UInt8) (ns : List (List UInt8)) (fv : Value) (A : Option Addr) (n c b0 : Nat) (w : World) (hn2 : n ≤ 100) (hb0 : b0 ≤ w.heap.size) (ho : w.ownsRow b0 9 1 (.slice A n c) n (ns.map str))
    (h : ∀ W, Chg (fun i => ∃ a, A = some a ∧ a.block = i) w W → Nob W o) :
    Calls Tryz.prog 61 #[.pointer o, str s, fv, .slice A n c] w fun e w' => e = .returned (.int .i64 4) ∧ Chg (fun i => ∃ a, A = some a ∧ a.block = i) w w' := by
  unfold str
  have hown : ∀ g, (Value.slice A n c).ownBlock = some g → ∃ a, A = some a ∧ a.block = g := by
    intro g hg
    cases A with
    | none => cases hg
    | some a =>
      refine ⟨a, rfl, ?_⟩
      rcases ho.2 with ⟨h, _⟩ | ⟨g', cap, cur, h, _⟩
      · cases h
      · cases h
        simpa [Value.ownBlock] using hg
  have h0 : ∀ A' n' c' W, Chg (fun i => ∃ a, A = some a ∧ a.block = i) w W → Calls Tryz.prog 52 #[.pointer o, .slice A' n' c'] W fun e w' => e = .returned (.int .i64 4) ∧ w' = W := fun A' n' c' W hE => nob_may o A' n' c' W (h W hE)
  replace h0 := hide h0
  replace hown := hide hown
  go_enter Tryz.func61, Tryz.ntmps61
  go_wp2_with (at_builtin; refine wpList_appN (us := [.string ⟨s.toArray⟩]) elemS ho (.tmp 14) (.tmp 16) rfl rfl rfl rfl (one_of rfl) (by simp; omega) hb0 (fun A1 c1 w3 ho3 hg3 hl3 => ?_))
  have hc3 : Chg (fun i => ∃ a, A = some a ∧ a.block = i) w w3 := Chg.of_grown hg3 fun i _ hi => hown.out i hi
  have hl1 : [Value.string ⟨s.toArray⟩].length = 1 := rfl
  simp only [List.length_singleton] at ho3 ⊢
  clear ho3 hl3 hg3 ho hl1
  replace hc3 := hide hc3
  go_wp2_with fail
  refine (h0.out _ _ _ _ hc3.out).mono ?_
  rintro e w1 ⟨rfl, rfl⟩
  go_wp2_with fail
  go_ret
  exact ⟨rfl, hc3.out⟩
set_option maxRecDepth 100000 in
set_option maxHeartbeats 2000000 in
theorem nob_sync (o : Option Addr) (s : List UInt8) (w : World) (h : Nob w o) : Calls Tryz.prog 28 #[.pointer o, str s] w fun e w' => e = .returned (.int .i64 4) ∧ Ext w w' := by
  have hw : ∀ fv : Value, Calls Tryz.prog 61 #[.pointer o, str s, fv, .slice none 0 0] w fun e w' => e = .returned (.int .i64 4) ∧ Chg (fun i => ∃ a, (none : Option Addr) = some a ∧ a.block = i) w w' := fun fv =>
    nob_writes o s [] fv none 0 0 _ w (by omega) (Nat.le_refl _) (World.ownsRow_nil _ _ _ _) fun W hc => (h.ext (Ext.refl w)).ext (hc.ext fun i _ hi => by obtain ⟨a, ha, _⟩ := hi; cases ha)
  have fin : ∀ w1, Chg (fun i => ∃ a, (none : Option Addr) = some a ∧ a.block = i) w w1 → Ext w w1 := fun w1 hc => Ext.trans (Ext.refl w) (hc.ext fun i _ hi => by obtain ⟨a, ha, _⟩ := hi; cases ha)
  unfold str at hw ⊢
  replace hw := hide hw
  replace fin := hide fin
  go_enter Tryz.func28, Tryz.ntmps28
  go_wp2_with fail
  refine (hw.out _).mono ?_
  rintro e w1 ⟨rfl, h1⟩
  replace h1 := fin.out w1 h1
  go_wp2_with fail
  go_ret
  exact ⟨rfl, h1⟩
set_option maxRecDepth 100000 in
set_option maxHeartbeats 2000000 in
theorem nob_remove (o : Option Addr) (s : List UInt8) (w : World) (h : Nob w o) : Calls Tryz.prog 58 #[.pointer o, str s] w fun e w' => e = .returned (.int .i64 4) ∧ Ext w w' := by
  have hw : ∀ fv : Value, Calls Tryz.prog 61 #[.pointer o, str s, fv, .slice none 0 0] ((w.alloc (.cells #[.pointer o] 27)).alloc (.cells #[str s] 9)) fun e w' => e = .returned (.int .i64 4) ∧ Chg (fun i => ∃ a, (none : Option Addr) = some a ∧ a.block = i) ((w.alloc (.cells #[.pointer o] 27)).alloc (.cells #[str s] 9)) w' := fun fv =>
    nob_writes o s [] fv none 0 0 _ ((w.alloc (.cells #[.pointer o] 27)).alloc (.cells #[str s] 9)) (by omega) (Nat.le_refl _) (World.ownsRow_nil _ _ _ _) fun W hc => (h.ext (((Ext.refl w).alloc _).alloc _)).ext (hc.ext fun i _ hi => by obtain ⟨a, ha, _⟩ := hi; cases ha)
  have fin : ∀ w1, Chg (fun i => ∃ a, (none : Option Addr) = some a ∧ a.block = i) ((w.alloc (.cells #[.pointer o] 27)).alloc (.cells #[str s] 9)) w1 → Ext w w1 := fun w1 hc => Ext.trans (((Ext.refl w).alloc _).alloc _) (hc.ext fun i _ hi => by obtain ⟨a, ha, _⟩ := hi; cases ha)
  unfold str at hw fin ⊢
  replace hw := hide hw
  replace fin := hide fin
  go_enter Tryz.func58, Tryz.ntmps58
  go_wp2_with fail
  refine (hw.out _).mono ?_
  rintro e w1 ⟨rfl, h1⟩
  replace h1 := fin.out w1 h1
  go_wp2_with fail
  go_ret
  exact ⟨rfl, h1⟩
set_option maxRecDepth 100000 in
set_option maxHeartbeats 2000000 in
theorem nob_rename (o : Option Addr) (s t : List UInt8) (w : World) (h : Nob w o) : Calls Tryz.prog 30 #[.pointer o, str s, str t] w fun e w' => e = .returned (.int .i64 4) ∧ Ext w w' := by
  obtain ⟨W1, hW1⟩ : ∃ W1, W1 = w.alloc (.cells #[.pointer o] 27) := ⟨_, rfl⟩
  obtain ⟨W2, hW2⟩ : ∃ W2, W2 = W1.alloc (.cells #[str s] 9) := ⟨_, rfl⟩
  obtain ⟨W3, hW3⟩ : ∃ W3, W3 = W2.alloc (.cells #[str t] 9) := ⟨_, rfl⟩
  obtain ⟨W4, hW4⟩ : ∃ W4, W4 = W3.alloc (.cells #[str t] 9) := ⟨_, rfl⟩
  have hE1 : Ext w W1 := by rw [hW1]; exact (Ext.refl w).alloc _
  have hE2 : Ext W1 W2 := by rw [hW2]; exact (Ext.refl W1).alloc _
  have hE3 : Ext W2 W3 := by rw [hW3]; exact (Ext.refl W2).alloc _
  have hE4 : Ext W3 W4 := by rw [hW4]; exact (Ext.refl W3).alloc _
  have hs1 : W1.heap.size = w.heap.size + 1 := by rw [hW1]; exact size_alloc _ _
  have hs2 : W2.heap.size = w.heap.size + 2 := by rw [hW2, size_alloc, hs1]
  have hs3 : W3.heap.size = w.heap.size + 3 := by rw [hW3, size_alloc, hs2]
  have hs4 : W4.heap.size = w.heap.size + 4 := by rw [hW4, size_alloc, hs3]
  have hE := ((hE1.trans hE2).trans hE3).trans hE4
  have hown : W4.ownsRow (w.heap.size + 3) 9 1 (.slice (some ⟨w.heap.size + 3, 0, none⟩) 1 1) 1 ([t].map str) := by
    refine ⟨rfl, .inr ⟨w.heap.size + 3, 1, #[str t], rfl, Nat.le_refl _, ?_, Nat.le_refl _, by unfold maxLen; omega, rfl, rfl⟩⟩
    rw [hW4, ← hs3]
    exact heap_alloc_new W3 _
  have fin : ∀ w1, Chg (fun i => ∃ a, (some (⟨w.heap.size + 3, 0, none⟩ : Addr)) = some a ∧ a.block = i) W4 w1 → Ext w w1 := fun w1 hc => hE.chg hc fun i hi hf => by
    obtain ⟨a, ha, hf⟩ := hf
    cases ha
    have : w.heap.size + 3 = i := hf
    omega
  have hw : ∀ fv : Value, Calls Tryz.prog 61 #[.pointer o, str s, fv, .slice (some ⟨w.heap.size + 3, 0, none⟩) 1 1] W4 fun e w' => e = .returned (.int .i64 4) ∧ Chg (fun i => ∃ a, (some (⟨w.heap.size + 3, 0, none⟩ : Addr)) = some a ∧ a.block = i) W4 w' := fun fv =>
    nob_writes o s [t] fv (some ⟨w.heap.size + 3, 0, none⟩) 1 1 (w.heap.size + 3) W4 (by omega) (by omega) hown fun W hc => h.ext (fin W hc)
  rw [hW4, hW3, hW2, hW1] at hw fin
  unfold str at hw fin ⊢
  replace hw := hide hw
  replace fin := hide fin
  clear hW1 hW2 hW3 hW4 hs1 hs2 hs3 hs4 hE1 hE2 hE3 hE4 hE hown
  go_enter Tryz.func30, Tryz.ntmps30
  go_wp2_with fail
  refine (hw.out _).mono ?_
  rintro e w1 ⟨rfl, h1⟩
  replace h1 := fin.out w1 h1
  go_wp2_with fail
  go_ret
  exact ⟨rfl, h1⟩
end Go.Proofs.YtaoolpnnomhnoaaGreatDoor

/- loggia/manifest: Save, Load over a disk that nobody made. -/
namespace Go.Proofs.YtaoolpnnomhnoaaGreatDoor
open Go.RowKit Go.Maps

set_option maxRecDepth 100000 in
theorem save_nil (m : Mf) (A : Option Addr) (c : Nat) (w : World) : Calls Tryz.prog 7 #[.pointer none, m.val A c] w fun e w' => e = .returned (.int .i64 4) ∧ Ext w w' := by
  have hrd := fun W => nob_read none curN 0 0 W (.inl rfl)
  unfold str at hrd
  unfold Mf.val
  replace hrd := hide hrd
  go_enter Tryz.func7, Tryz.ntmps7
  go_wp2_with fail
  refine (hrd.out _).mono ?_
  rintro e w3 ⟨rfl, hE3⟩
  go_wp2_with fail
  go_ret
  exact ⟨rfl, (((Ext.refl w).alloc _).alloc _).trans hE3⟩
set_option maxRecDepth 100000 in
theorem load_nil (w : World) : Calls Tryz.prog 12 #[.pointer none] w (LoadP w (nilMf, false, 4)) := by
  have hrd := fun W => nob_read none curN 0 67108864 W (.inl rfl)
  unfold str at hrd
  replace hrd := hide hrd
  obtain ⟨W, hW⟩ : ∃ W, W = w.alloc (.cells #[.slice none 0 0, .int .i64 0, .int .i64 0, .int .i64 0, .int .i64 0, .int .i64 0] 24) := ⟨_, rfl⟩
  have hE : Ext w W := by rw [hW]; exact (Ext.refl w).alloc _
  have hz : Row W w.heap.size 24 #[.slice none 0 0, .int .i64 0, .int .i64 0, .int .i64 0, .int .i64 0, .int .i64 0] := by rw [hW]; exact Row.new w _ _
  go_enter Tryz.func12, Tryz.ntmps12
  go_wp2_with fail
  rw [← hW]
  replace hW := hide hW
  refine (hrd.out _).mono ?_
  rintro e w3 ⟨rfl, hE3⟩
  have hz3 := hz.ext hE3
  have t := hz3.get
  have tf := hz3.free
  go_wp2_with fail
  obtain ⟨w6, hw6⟩ : ∃ w6, w6 = setM w3 w.heap.size nilMf none 0 := ⟨_, rfl⟩
  have hk6 := setM_row hz3 nilMf none 0
  rw [← hw6] at hk6
  have hE6 := setM_ext (hE.trans hE3) (Nat.le_refl _) nilMf none 0
  rw [← hw6] at hE6
  simp only [setM, nilMf, List.length_nil] at hw6
  rw [← hw6]
  unfold Mf.cells at hk6
  have k := hk6.get
  clear hw6 hk6
  exact bodyPost_ret (v := .tuple #[nilMf.val none 0, .bool false, .int .i64 4]) (by simp [results, Tryz.results12, go_sem, nilMf, Mf.val, k]) rfl ⟨_, _, rfl, nilMf_ok _ _, hE6⟩
end Go.Proofs.YtaoolpnnomhnoaaGreatDoor

/- loggiaref16: Save. -/
namespace Go.Proofs.YtaoolpnnomhnoaaGreatDoor
open Go.RowKit Go.Maps

set_option maxRecDepth 100000 in
set_option maxHeartbeats 4000000 in
theorem rsave_any (N : Nat → Prop) (Q : Option Addr) (n cq : Nat) (P : PD) (R : List RE) (base : Nat) (m : Mf) (A : Option Addr) (c : Nat) (w : World) (h : RS w N Q n cq R) (hP : R.map RE.pl = P.L) (hN : ∀ k, N k → k < w.heap.size) (ha : P.armed ≤ 9223372036854775807) (hq : P.quota ≤ 9223372036854775807) (hm : m.Ok w base A c) :
    Calls Tryz.prog 17 #[rdisk Q n cq P.quota P.armed P.stopped, m.val A c] w (RNext N (saveM P m) w) := by
  obtain ⟨W, hW⟩ : ∃ W, W = ((w.alloc (.cells #[.slice Q n cq, .int .i64 P.quota, .int .i64 P.armed, .bool P.stopped] 44)).alloc (.cells #[.slice A m.ps.length c, .int .i64 m.floor, .int .i64 m.done, .int .i64 m.log, .int .i64 m.next, .int .i64 m.now] 24)).alloc (.cells #[.slice none 0 0, .int .i64 0, .int .i64 0, .bool false] 44) := ⟨_, rfl⟩
  have hE : Ext w W := by rw [hW]; exact (((Ext.refl w).alloc _).alloc _).alloc _
  have hd : Row W w.heap.size 44 #[.slice Q n cq, .int .i64 P.quota, .int .i64 P.armed, .bool P.stopped] := by rw [hW]; exact ((Row.new w _ _).alloc _).alloc _
  have hmr : Row W (w.heap.size + 1) 24 #[.slice A m.ps.length c, .int .i64 m.floor, .int .i64 m.done, .int .i64 m.log, .int .i64 m.next, .int .i64 m.now] := by
    rw [hW, ← size_alloc w (.cells #[.slice Q n cq, .int .i64 P.quota, .int .i64 P.armed, .bool P.stopped] 44)]; exact (Row.new _ _ _).alloc _
  have hr : Row W (w.heap.size + 2) 44 #[.slice none 0 0, .int .i64 0, .int .i64 0, .bool false] := by
    have := Row.new ((w.alloc (.cells #[.slice Q n cq, .int .i64 P.quota, .int .i64 P.armed, .bool P.stopped] 44)).alloc (.cells #[.slice A m.ps.length c, .int .i64 m.floor, .int .i64 m.done, .int .i64 m.log, .int .i64 m.next, .int .i64 m.now] 24)) 44 #[.slice none 0 0, .int .i64 0, .int .i64 0, .bool false]
    rw [size_alloc, size_alloc] at this
    rw [hW]; exact this
  obtain ⟨N2, hN2⟩ : ∃ N2 : Nat → Prop, N2 = fun k => N k ∨ (w.heap.size ≤ k ∧ k < W.heap.size) := ⟨_, rfl⟩
  have hR := h.away2 hE hN2
  have hlt := hr.lt
  have henc := rencode_any base m A c W (hm.ext hE)
  have hlen := fun hc : checkP m = 0 => enc_small hm.in_ hc
  obtain ⟨Y, hY⟩ : ∃ Y, Y = encM m := ⟨_, rfl⟩
  obtain ⟨⟨P1, e1⟩, h1⟩ : ∃ Q, stepsM P Y = Q := ⟨_, rfl⟩
  obtain ⟨⟨P2, e2⟩, h2⟩ : ∃ Q, goneM P1 = Q := ⟨_, rfl⟩
  have m1 : Calm P P1 := by have := calm_steps P Y; rw [h1] at this; exact this
  obtain ⟨Z, hZ⟩ : ∃ Z, Z = saveM P m := ⟨_, rfl⟩
  rw [← hZ]
  have hsv : ¬ checkP m = 0 → Z = (P, checkP m) := fun h => by rw [hZ, save_bad h]
  have hsv0 : checkP m = 0 → Z = if e1 = 0 ∨ e1 = 63 then (P1, e1) else (P2, e1) := fun h => by
    rw [hZ]
    unfold saveM
    rw [if_pos h, ← hY, h1]
    simp only
    rw [h2]
  have c1 := fun B bn bc w1 (hE1 : Ext W w1) (hb : Bs w1 B Y) (hbn : bn = Y.length) (hbn2 : bn ≤ 1073741824) => rsteps_any N2 Q n cq P R Y B bn bc w1 (hR.ext hE1) hP (n2_lt hN hE hN2 hE1) ha hq hb hbn hbn2
  have c2 := fun A n c R w1 (h1 : RS w1 N2 A n c R) (hP1 : R.map RE.pl = P1.L) (hs : W.heap.size ≤ w1.heap.size) => rgone_any N2 A n c P1 R w1 h1 hP1 (fun k hk => Nat.lt_of_lt_of_le (n2_lt hN hE hN2 (Ext.refl _) k hk) hs) (Nat.le_trans m1.2 ha)
  rw [h1] at c1
  rw [h2] at c2
  unfold RNext at c1 c2
  unfold rdisk at c1 c2 ⊢
  unfold str at c2
  unfold EncP Mf.val at henc
  rw [← hY] at henc hlen
  unfold Mf.val
  replace c1 := hide c1
  replace c2 := hide c2
  replace hN2 := hide hN2
  replace henc := hide henc
  replace hR := hide hR
  replace hP := hide hP
  replace hsv := hide hsv
  replace hsv0 := hide hsv0
  replace hlen := hide hlen
  clear h1 h2 ha hq m1 h hm hN hZ hY
  go_enter Tryz.func17, Tryz.ntmps17
  go_wp2_with fail
  rw [← hW]
  replace hW := hide hW
  have x := hmr.get
  go_wp2_with fail
  refine henc.out.mono ?_
  rintro e w1 ⟨hE1, ho1, ho2⟩
  clear x hmr
  by_cases hc : checkP m = 0
  · obtain ⟨B, bc, rfl, hb⟩ := ho1 hc
    have hci : (checkP m : Int) = 0 := by omega
    have hY2 := hlen.out hc
    have hst := hide (c1.out B Y.length bc w1 hE1 hb.cells rfl (by omega))
    have hZ2 := hide (hsv0.out hc)
    clear ho1 ho2 hb hY2 c1 hsv0 hsv hlen hc
    have x := (hd.ext hE1).get
    go_wp2_with fail
    clear x hci
    refine hst.out.mono ?_
    rintro e w2 ⟨B1, n1, c1, R1, rfl, hR1, hP1, hE2⟩
    have hd1 := (hd.ext hE1).ext hE2
    have hr1 := (hr.ext hE1).ext hE2
    have x := hd1.get
    have y := hd1.free
    have g1 := put4_row hd1 (.slice B1 n1 c1) (.int .i64 P1.quota) (.int .i64 P1.armed) (.bool P1.stopped)
    have k1 := (put4_chg w2 w.heap.size (.slice B1 n1 c1) (.int .i64 P1.quota) (.int .i64 P1.armed) (.bool P1.stopped)).row hr1 (by omega)
    have m1 := hR1.put4 (u0 := .slice B1 n1 c1) (u1 := .int .i64 P1.quota) (u2 := .int .i64 P1.armed) (u3 := .bool P1.stopped) hN2.out (Nat.le_refl w.heap.size) (by omega)
    have q1 := put4_ext ((hE.trans hE1).trans hE2) (Nat.le_refl _) (.slice B1 n1 c1) (.int .i64 P1.quota) (.int .i64 P1.armed) (.bool P1.stopped)
    have s1 := (put4_chg w2 w.heap.size (.slice B1 n1 c1) (.int .i64 P1.quota) (.int .i64 P1.armed) (.bool P1.stopped)).size
    obtain ⟨v1, hv⟩ : ∃ wf, wf = put4 w2 w.heap.size (.slice B1 n1 c1) (.int .i64 P1.quota) (.int .i64 P1.armed) (.bool P1.stopped) := ⟨_, rfl⟩
    rw [← hv] at g1 k1 m1 q1 s1
    unfold put4 at hv
    have s1 := Nat.le_trans (hE1.trans hE2).size s1
    have rc := hr1.get
    have rf := hr1.free
    replace hv := hide hv
    replace hd1 := hide g1
    replace hr1 := hide k1
    clear g1 k1
    replace hP1 := hide hP1
    replace hR1 := hide hR1
    replace m1 := hide m1
    replace q1 := hide q1
    by_cases z : e1 = 0
    · have zi : (e1 : Int) = 0 := by omega
      obtain rfl : Z = (P1, e1) := by rw [hZ2.out, if_pos (.inl z)]
      replace z := hide z
      have hrw := hr1.out
      go_wp2_with fail
      rw [← hv.out]
      clear x y rc rf
      have hfin := put4_rn m1.out hP1.out hN2.out (by omega : w.heap.size ≤ w.heap.size + 2) hlt q1.out e1
      have hrf := put4_row hrw (.slice B1 n1 c1) (.int .i64 P1.quota) (.int .i64 P1.armed) (.bool P1.stopped)
      obtain ⟨wf, hwf⟩ : ∃ wf, wf = put4 v1 (w.heap.size + 2) (.slice B1 n1 c1) (.int .i64 P1.quota) (.int .i64 P1.armed) (.bool P1.stopped) := ⟨_, rfl⟩
      rw [← hwf] at hfin hrf
      unfold put4 at hwf
      rw [← hwf]
      have z := hrf.get
      clear hwf hrf
      exact bodyPost_ret (v := .tuple #[.agg #[.slice B1 n1 c1, .int .i64 P1.quota, .int .i64 P1.armed, .bool P1.stopped], .int .i64 e1]) (by simp [results, Tryz.results17, go_sem, z]; exact zi.symm) rfl hfin
    · have zb : ((e1 : Int) != 0) = true := bne_iff_ne.2 (by omega)
      by_cases z2 : e1 = 63
      · have zi : (e1 : Int) = 63 := by omega
        have zc : ((e1 : Int) != 63) = false := by rw [zi]; rfl
        obtain rfl : Z = (P1, e1) := by rw [hZ2.out, if_pos (.inr z2)]
        replace z2 := hide z2
        replace zi := hide zi
        replace z := hide z
        have hrw := hr1.out
        go_wp2_with fail
        rw [← hv.out]
        clear x y rc rf
        have hfin := put4_rn m1.out hP1.out hN2.out (by omega : w.heap.size ≤ w.heap.size + 2) hlt q1.out e1
        have hrf := put4_row hrw (.slice B1 n1 c1) (.int .i64 P1.quota) (.int .i64 P1.armed) (.bool P1.stopped)
        obtain ⟨wf, hwf⟩ : ∃ wf, wf = put4 v1 (w.heap.size + 2) (.slice B1 n1 c1) (.int .i64 P1.quota) (.int .i64 P1.armed) (.bool P1.stopped) := ⟨_, rfl⟩
        rw [← hwf] at hfin hrf
        unfold put4 at hwf
        rw [← hwf]
        have z := hrf.get
        clear hwf hrf
        exact bodyPost_ret (v := .tuple #[.agg #[.slice B1 n1 c1, .int .i64 P1.quota, .int .i64 P1.armed, .bool P1.stopped], .int .i64 e1]) (by simp [results, Tryz.results17, go_sem, z]) rfl hfin
      · have zc : ((e1 : Int) != 63) = true := bne_iff_ne.2 (by omega)
        obtain rfl : Z = (P2, e1) := by rw [hZ2.out, if_neg (fun h => h.elim z z2)]
        replace z := hide z
        replace z2 := hide z2
        go_wp2_with fail
        rw [← hv.out]
        clear x y rc rf hv
        replace hd1 := hd1.out
        replace hr1 := hr1.out
        replace q1 := q1.out
        refine (c2.out B1 n1 c1 R1 v1 m1.out hP1.out s1).mono ?_
        rintro e w3 ⟨B2, n2, c2', R2, rfl, hR2, hP2, hE3⟩
        have hd2 := hd1.ext hE3
        have hr2 := hr1.ext hE3
        have x := hd2.get
        have y := hd2.free
        have g2 := put4_row hd2 (.slice B2 n2 c2') (.int .i64 P2.quota) (.int .i64 P2.armed) (.bool P2.stopped)
        have k2 := (put4_chg w3 w.heap.size (.slice B2 n2 c2') (.int .i64 P2.quota) (.int .i64 P2.armed) (.bool P2.stopped)).row hr2 (by omega)
        have m2 := hR2.put4 (u0 := .slice B2 n2 c2') (u1 := .int .i64 P2.quota) (u2 := .int .i64 P2.armed) (u3 := .bool P2.stopped) hN2.out (Nat.le_refl w.heap.size) (by omega)
        have q2 := put4_ext (q1.trans hE3) (Nat.le_refl _) (.slice B2 n2 c2') (.int .i64 P2.quota) (.int .i64 P2.armed) (.bool P2.stopped)
        have s2 := (put4_chg w3 w.heap.size (.slice B2 n2 c2') (.int .i64 P2.quota) (.int .i64 P2.armed) (.bool P2.stopped)).size
        obtain ⟨v2, hv⟩ : ∃ wf, wf = put4 w3 w.heap.size (.slice B2 n2 c2') (.int .i64 P2.quota) (.int .i64 P2.armed) (.bool P2.stopped) := ⟨_, rfl⟩
        rw [← hv] at g2 k2 m2 q2 s2
        unfold put4 at hv
        have s2 := Nat.le_trans (Nat.le_trans s1 hE3.size) s2
        have rc := hr2.get
        have rf := hr2.free
        replace hv := hide hv
        replace hd2 := hide g2
        replace hr2 := hide k2
        clear g2 k2
        replace hP2 := hide hP2
        replace hR2 := hide hR2
        replace m2 := hide m2
        replace q2 := hide q2
        have hrw := hr2.out
        go_wp2_with fail
        rw [← hv.out]
        clear x y rc rf
        have hfin := put4_rn m2.out hP2.out hN2.out (by omega : w.heap.size ≤ w.heap.size + 2) hlt q2.out e1
        have hrf := put4_row hrw (.slice B2 n2 c2') (.int .i64 P2.quota) (.int .i64 P2.armed) (.bool P2.stopped)
        obtain ⟨wf, hwf⟩ : ∃ wf, wf = put4 v2 (w.heap.size + 2) (.slice B2 n2 c2') (.int .i64 P2.quota) (.int .i64 P2.armed) (.bool P2.stopped) := ⟨_, rfl⟩
        rw [← hwf] at hfin hrf
        unfold put4 at hwf
        rw [← hwf]
        have z := hrf.get
        clear hwf hrf
        exact bodyPost_ret (v := .tuple #[.agg #[.slice B2 n2 c2', .int .i64 P2.quota, .int .i64 P2.armed, .bool P2.stopped], .int .i64 e1]) (by simp [results, Tryz.results17, go_sem, z]) rfl hfin
  · obtain rfl := ho2 hc
    have hci : ¬ (checkP m : Int) = 0 := by omega
    have hcb : ((checkP m : Int) != 0) = true := bne_iff_ne.2 hci
    obtain rfl : Z = (P, checkP m) := hsv.out hc
    have hd1 := hd.ext hE1
    have hrw := hr.ext hE1
    have x := hd1.get
    have rc := hrw.get
    have rf := hrw.free
    replace hc := hide hc
    clear ho1 ho2 c1 hsv0 hsv hlen
    go_wp2_with fail
    clear x rc rf
    have hfin := put4_rn (hR.out.ext hE1) hP.out hN2.out (by omega : w.heap.size ≤ w.heap.size + 2) hlt (hE.trans hE1) (checkP m)
    have hrf := put4_row hrw (.slice Q n cq) (.int .i64 P.quota) (.int .i64 P.armed) (.bool P.stopped)
    obtain ⟨wf, hwf⟩ : ∃ wf, wf = put4 w1 (w.heap.size + 2) (.slice Q n cq) (.int .i64 P.quota) (.int .i64 P.armed) (.bool P.stopped) := ⟨_, rfl⟩
    rw [← hwf] at hfin hrf
    unfold put4 at hwf
    rw [← hwf]
    have z := hrf.get
    clear hwf hrf
    exact bodyPost_ret (v := .tuple #[.agg #[.slice Q n cq, .int .i64 P.quota, .int .i64 P.armed, .bool P.stopped], .int .i64 (checkP m)]) (by simp [results, Tryz.results17, go_sem, z]) rfl hfin
end Go.Proofs.YtaoolpnnomhnoaaGreatDoor

/- A slice of bytes, cut by an index of any kind. -/
namespace Go.Proofs.YtaoolpnnomhnoaaGreatDoor
open Go.RowKit

set_option maxRecDepth 100000 in
theorem run_headk (kk : IntKind) {n c k : Nat} {A : Option Addr} (h : k ≤ c) (hA : ∀ a, A = some a → a.spot = none) (W : World) :
    (Instr.sliceAt 57 (.slice A n c) none (some (.int kk k)) none).run Tryz.prog W = .ok (.slice A k c) W := by
  have ht := Tryz.underlying57
  have he : Tryz.prog.elem 57 = 5 := by unfold Program.elem; rw [ht]
  have hs : ∀ W : World, (sizeOf 5).run Tryz.prog W = .ok 1 W := fun W => by kernel_rfl
  rw [run_sliceAt_slice W _ _ _ _ _ (by rw [ht, he]), run_slice_h W _ A n c (by rw [ht, he]) kk k (by omega) (by omega), he, hs]
  simp only [Result.andThen_ok]
  congr 1
  unfold sliced
  have : (if c = 0 then A else A.map fun x => x.add (0 * 1)) = A := by
    cases A with
    | none => simp
    | some a =>
      obtain ⟨b, o, sp⟩ := a
      obtain rfl : sp = none := hA _ rfl
      simp [Addr.add_lit]
  rw [this]
  simp
set_option maxRecDepth 100000 in
theorem In8.fromk (kk : IntKind) {w : World} {A : Option Addr} {n c : Nat} {l : List UInt8} (h : In8 w A n c l) {fr : Nat} (hf : fr ≤ n) {z : Int} (hz : z = (fr : Int)) :
    ∃ A' c', (∀ W : World, (Instr.sliceAt 57 (.slice A n c) (some (.int kk z)) none none).run Tryz.prog W = .ok (.slice A' (n - fr) c') W) ∧ In8 w A' (n - fr) c' (l.drop fr) := by
  subst hz
  have ht := Tryz.underlying57
  have he : Tryz.prog.elem 57 = 5 := by unfold Program.elem; rw [ht]
  have hs : ∀ W : World, (sizeOf 5).run Tryz.prog W = .ok 1 W := fun W => by kernel_rfl
  have hrun : ∀ W : World, (Instr.sliceAt 57 (.slice A n c) (some (.int kk fr)) none none).run Tryz.prog W = .ok (sliced A fr n c 1) W := by
    intro W
    rw [run_sliceAt_slice W _ _ _ _ _ (by rw [ht, he]), run_slice_l W _ A n c (by rw [ht, he]) kk fr (by omega) (by omega), he, hs]
    simp only [Result.andThen_ok]
    congr 1
  have hcap := h.cap
  refine ⟨_, _, hrun, by rw [List.length_drop, ← h.len], ?_, by omega, ?_, ?_⟩
  · rcases h.bytes with hb | ⟨g, o, rfl, hb⟩
    · left
      have : l = [] := by simpa using hb
      rw [this]
      simp
    · by_cases hcf : c = fr
      · left
        have := h.len
        rw [List.drop_of_length_le (by omega)]
        rfl
      · refine .inr ⟨g, o + fr, by rw [if_neg hcf]; simp [Addr.add_lit], fun i v hv => ?_⟩
        rw [Nat.add_assoc]
        refine hb (fr + i) v ?_
        rw [List.getElem?_map] at hv ⊢
        rw [List.getElem?_drop] at hv
        exact hv
  · intro hn
    cases A with
    | none => have := h.nil_ rfl; omega
    | some a => split at hn <;> cases hn
  · intro a ha
    cases A with
    | none => split at ha <;> cases ha
    | some b =>
      obtain ⟨h1, h2⟩ := h.at_ b rfl
      obtain ⟨b, o, sp⟩ := b
      obtain rfl : sp = Option.none := h1
      split at ha
      · cases ha; exact ⟨rfl, h2⟩
      · cases ha
        show (Addr.add ⟨b, o, none⟩ (fr * 1)).spot = none ∧ (Addr.add ⟨b, o, none⟩ (fr * 1)).block < w.heap.size
        rw [Addr.add_lit]
        exact ⟨rfl, h2⟩
theorem In8.headk (kk : IntKind) {w : World} {A : Option Addr} {n c : Nat} {l : List UInt8} (h : In8 w A n c l) {k : Nat} (hk : k ≤ n) {z : Int} (hz : z = (k : Int)) :
    (∀ W : World, (Instr.sliceAt 57 (.slice A n c) none (some (.int kk z)) none).run Tryz.prog W = .ok (.slice A k c) W) ∧ In8 w A k c (l.take k) := by
  subst hz
  refine ⟨fun W => run_headk kk (by have := h.cap; omega) (fun a ha => (h.at_ a ha).1) W, by rw [List.length_take, ← h.len]; omega, ?_, by have := h.cap; omega, h.nil_, h.at_⟩
  rcases h.bytes with hb | ⟨g, o, rfl, hb⟩
  · left
    have : l = [] := by simpa using hb
    rw [this]
    simp
  · refine .inr ⟨g, o, rfl, fun i v hv => hb i v ?_⟩
    rw [List.getElem?_map] at hv ⊢
    rw [List.getElem?_take] at hv
    split at hv
    · exact hv
    · cases hv
set_option maxRecDepth 100000 in
theorem In8.subk (kk k2 : IntKind) {w : World} {A : Option Addr} {n c : Nat} {l : List UInt8} (h : In8 w A n c l) {fr k : Nat} (hf : fr + k ≤ n) {z0 z : Int} (hz0 : z0 = (fr : Int)) (hz : z = (fr : Int) + (k : Int)) :
    ∃ A' c', (∀ W : World, (Instr.sliceAt 57 (.slice A n c) (some (.int kk z0)) (some (.int k2 z)) none).run Tryz.prog W = .ok (.slice A' k c') W) ∧ In8 w A' k c' ((l.drop fr).take k) := by
  subst hz0
  subst hz
  have ht := Tryz.underlying57
  have he : Tryz.prog.elem 57 = 5 := by unfold Program.elem; rw [ht]
  have hs : ∀ W : World, (sizeOf 5).run Tryz.prog W = .ok 1 W := fun W => by kernel_rfl
  have hcap := h.cap
  have hrun : ∀ W : World, (Instr.sliceAt 57 (.slice A n c) (some (.int kk fr)) (some (.int k2 ((fr : Int) + (k : Int)))) none).run Tryz.prog W = .ok (sliced A fr (fr + k) c 1) W := by
    intro W
    rw [run_sliceAt_slice W _ _ _ _ _ (by rw [ht, he]), run_slice_lh W _ A n c (by rw [ht, he]) kk k2 fr ((fr : Int) + k) (by omega) (by omega) (by omega), he, hs]
    simp only [Result.andThen_ok]
    congr 1
  unfold sliced at hrun
  rw [Nat.add_sub_cancel_left] at hrun
  refine ⟨_, _, hrun, by rw [List.length_take, List.length_drop, ← h.len]; omega, ?_, by omega, ?_, ?_⟩
  · rcases h.bytes with hb | ⟨g, o, rfl, hb⟩
    · left
      have : l = [] := by simpa using hb
      rw [this]
      simp
    · by_cases hcf : c = fr
      · left
        have : k = 0 := by omega
        subst this
        simp
      · refine .inr ⟨g, o + fr, by rw [if_neg hcf]; simp [Addr.add_lit], fun i v hv => ?_⟩
        rw [Nat.add_assoc]
        refine hb (fr + i) v ?_
        rw [List.getElem?_map] at hv ⊢
        rw [List.getElem?_take] at hv
        split at hv
        · rw [List.getElem?_drop] at hv
          exact hv
        · cases hv
  · intro hn
    cases A with
    | none => have := h.nil_ rfl; omega
    | some a => split at hn <;> cases hn
  · intro a ha
    cases A with
    | none => split at ha <;> cases ha
    | some b =>
      obtain ⟨h1, h2⟩ := h.at_ b rfl
      obtain ⟨b, o, sp⟩ := b
      obtain rfl : sp = Option.none := h1
      split at ha
      · cases ha; exact ⟨rfl, h2⟩
      · cases ha
        show (Addr.add ⟨b, o, none⟩ (fr * 1)).spot = none ∧ (Addr.add ⟨b, o, none⟩ (fr * 1)).block < w.heap.size
        rw [Addr.add_lit]
        exact ⟨rfl, h2⟩
end Go.Proofs.YtaoolpnnomhnoaaGreatDoor

/- loggiaref06: Read; what is answered may be read as bytes that came in. -/
namespace Go.Proofs.YtaoolpnnomhnoaaGreatDoor
open Go.RowKit Go.Maps

/-- What the document's Read answers. -/
def RRead8 (P : PD) (s : List UInt8) (fr n : Int) (w : World) (e : Ending) (w' : World) : Prop :=
  ∃ A k c, e = .returned (.tuple #[.slice A k c, .int .i64 (readM P s fr n).2]) ∧ In8 w' A k c (readM P s fr n).1 ∧ Ext w w'
theorem rread8_err {P : PD} {s : List UInt8} {fr n : Int} {w w' : World} {k : Nat} (h : readM P s fr n = ([], k)) (he : Ext w w') : RRead8 P s fr n w (.returned (.tuple #[.slice none 0 0, .int .i64 k])) w' := by
  unfold RRead8
  rw [h]
  exact ⟨none, 0, 0, rfl, ⟨rfl, .inl rfl, Nat.le_refl _, fun _ => rfl, nofun⟩, he⟩
set_option maxRecDepth 100000 in
set_option maxHeartbeats 2000000 in
theorem rread8_any (N : Nat → Prop) (A : Option Addr) (n c : Nat) (P : PD) (R : List RE) (s : List UInt8) (fr k : Int) (w : World) (h : RS w N A n c R) (hP : R.map RE.pl = P.L) (hs : s.length ≤ 9223372036854775807) (hf1 : -9223372036854775808 ≤ fr) (hf2 : fr ≤ 9223372036854775807)
    (hn1 : -9223372036854775808 ≤ k) (hn2 : k ≤ 9223372036854775807) :
    Calls Tryz.prog 42 #[rdisk A n c P.quota P.armed P.stopped, str s, .int .i64 fr, .int .i64 k] w (RRead8 P s fr k w) := by
  obtain ⟨q, hq⟩ : ∃ q, q = P.quota := ⟨_, rfl⟩
  obtain ⟨a, ha'⟩ : ∃ q, q = P.armed := ⟨_, rfl⟩
  obtain ⟨st, hst⟩ : ∃ q, q = P.stopped := ⟨_, rfl⟩
  rw [← hq, ← ha', ← hst]
  obtain ⟨W, hW⟩ : ∃ W, W = w.alloc (.cells #[.slice A n c, .int .i64 q, .int .i64 a, .bool st] 44) := ⟨_, rfl⟩
  have hE : Ext w W := by rw [hW]; exact (Ext.refl w).alloc _
  have hd : Row W w.heap.size 44 #[.slice A n c, .int .i64 q, .int .i64 a, .bool st] := by rw [hW]; exact Row.new w _ _
  have hnm := rnamed_any s W hs
  have hfa := rfind_any N A n c q a st R s W (h.ext hE)
  have hWx := hide hW.symm
  clear hW
  have d0 : W.cell? ⟨w.heap.size, 0, none⟩ = some (.slice A n c) := hd.cell 0 rfl
  have d1 : W.cell? ⟨w.heap.size, 1, none⟩ = some (.int .i64 q) := hd.cell 1 rfl
  have d2 : W.cell? ⟨w.heap.size, 2, none⟩ = some (.int .i64 a) := hd.cell 2 rfl
  have d3 : W.cell? ⟨w.heap.size, 3, none⟩ = some (.bool st) := hd.cell 3 rfl
  unfold rdisk str at hfa ⊢
  unfold str at hnm
  replace hfa := hide hfa
  replace hq := hide hq
  replace ha' := hide ha'
  cases hnmd : namedM s with
  | false =>
    have hres : readM P s fr k = ([], 60) := by unfold readM; rw [hnmd]; rfl
    have fin := rread8_err hres hE
    rw [hnmd] at hnm
    replace hnm := hide hnm
    replace fin := hide fin
    replace hst := hide hst
    clear hres hnmd
    go_enter Tryz.func42, Tryz.ntmps42
    go_wp2_with fail
    rw [hWx.out]
    refine hnm.out.mono ?_
    rintro e w1 ⟨rfl, hw1⟩
    replace hw1 := hw1.symm
    subst hw1
    go_wp2_with fail
    go_ret2
    exact fin.out
  | true =>
    rw [hnmd] at hnm
    replace hnm := hide hnm
    cases st with
    | true =>
      have hres : readM P s fr k = ([], 63) := by unfold readM; rw [hnmd, ← hst]; rfl
      have fin := rread8_err hres hE
      replace fin := hide fin
      replace hst := hide hst
      clear hres hnmd
      go_enter Tryz.func42, Tryz.ntmps42
      go_wp2_with fail
      rw [hWx.out]
      refine hnm.out.mono ?_
      rintro e w1 ⟨rfl, hw1⟩
      replace hw1 := hw1.symm
      subst hw1
      go_wp2_with fail
      go_ret2
      exact fin.out
    | false =>
      rcases rfind_pl hP s with ⟨i, r, hf, hr, hn, hfd⟩ | ⟨hf, hfd⟩
      · have hfa2 := hfa.out
        rw [hf] at hfa2
        simp only [Option.getD_some, Option.isSome_some] at hfa2
        replace hfa2 := hide hfa2
        have hin : i < n := by rw [h.len]; exact (List.getElem?_eq_some_iff.1 hr).1
        obtain ⟨g, o, r', hAg, hr', k0, k1, k2⟩ := (h.ext hE).at_ hin
        obtain rfl : r' = r := by rw [hr] at hr'; cases hr'; rfl
        subst hAg
        have hrm := List.mem_of_getElem? hr
        have hok := h.ok r' hrm
        have hgl := World.block_lt_of_cell? W ⟨g, o + i * 3 + 1, none⟩ k1
        have hmany := h.many
        obtain ⟨bl, hbl⟩ : ∃ x, x = r'.b.length := ⟨_, rfl⟩
        have hlen := hok.len
        rw [← hbl] at k1 hlen
        replace hf := hide hf
        replace hr := hide hr
        replace hn := hide hn
        clear hr' k0 k2
        by_cases hbad : fr < 0 ∨ (bl : Int) < fr ∨ k < 0
        · have hres : readM P s fr k = ([], 5) := by
            unfold readM
            rw [hnmd, ← hst, hfd]
            simp only [if_true]
            show (if fr < 0 ∨ (r'.b.length : Int) < fr ∨ k < 0 then _ else _) = _
            rw [← hbl, if_pos hbad]
          have hcs : fr < 0 ∨ (0 ≤ fr ∧ (bl : Int) < fr) ∨ (0 ≤ fr ∧ fr ≤ bl ∧ k < 0) := by omega
          replace hbl := hide hbl
          replace hst := hide hst
          replace hfd := hide hfd
          have fin : ∀ w1, Ext W w1 → RRead8 P s fr k w (.returned (.tuple #[.slice none 0 0, .int .i64 5])) w1 := fun w1 h1 => rread8_err hres (hE.trans h1)
          replace fin := hide fin
          clear hres hnmd hbad
          rcases hcs with h1 | ⟨h0, h1⟩ | ⟨h0, h1, h2⟩
          all_goals
            go_enter Tryz.func42, Tryz.ntmps42
            go_wp2_with fail
            rw [hWx.out]
            refine hnm.out.mono ?_
            rintro e w1 ⟨rfl, hw1⟩
            replace hw1 := hw1.symm
            subst hw1
            go_wp2_with fail
            refine hfa2.out.mono ?_
            rintro e w1 ⟨rfl, hE1⟩
            have d0' := hE1.cell d0
            have k1' := hE1.cell k1
            go_wp2_with fail
            go_ret2
            exact fin.out _ hE1
        · obtain ⟨f, rfl⟩ : ∃ f : Nat, fr = f := ⟨fr.toNat, by omega⟩
          obtain ⟨m, rfl⟩ : ∃ m : Nat, k = m := ⟨k.toNat, by omega⟩
          have hfl : f ≤ bl := by omega
          obtain ⟨k2, hk2⟩ : ∃ k2, k2 = min m (bl - f) := ⟨_, rfl⟩
          have hres : readM P s f m = ((r'.b.drop f).take m, 0) := by
            unfold readM
            rw [hnmd, ← hst, hfd]
            simp only [if_true]
            show (if (f : Int) < 0 ∨ (r'.b.length : Int) < f ∨ (m : Int) < 0 then _ else _) = _
            rw [← hbl, if_neg hbad]
            rfl
          have hmin := run_min2 (P := Tryz.prog) #[3, 3] 3 (x := m) (y := (bl : Int) - f) (m := (k2 : Nat)) (by omega)
          have hcap := hok.cap
          rw [← hbl] at hcap
          have hin : In8 W r'.A bl r'.c r'.b := ⟨hbl, (hok.ext hE).bytes, hcap, hok.nil, fun a ha => ⟨(hok.away a ha).2.2, Nat.lt_of_lt_of_le (hok.away a ha).1 hE.size⟩⟩
          obtain ⟨A', c', hsub, hin'⟩ := In8.subk .i64 .i64 hin (fr := f) (k := k2) (by omega) (z0 := (f : Int)) (z := (f : Int) + (k2 : Int)) rfl rfl
          have hl2 : ((r'.b.drop f).take k2).length = k2 := by rw [List.length_take, List.length_drop, ← hbl]; omega
          have htk : (r'.b.drop f).take k2 = (r'.b.drop f).take m := by
            by_cases hc : m ≤ bl - f
            · rw [hk2, Nat.min_eq_left hc]
            · rw [hk2, Nat.min_eq_right (by omega), List.take_of_length_le (i := bl - f) (by rw [List.length_drop, ← hbl]; omega), List.take_of_length_le (i := m) (by rw [List.length_drop, ← hbl]; omega)]
          have fin : ∀ w1, Ext W w1 → RRead8 P s f m w (.returned (.tuple #[.slice A' k2 c', .int .i64 0])) w1 := fun w1 h1 => by
            unfold RRead8
            rw [hres, ← htk]
            exact ⟨A', k2, c', rfl, hin'.ext h1, hE.trans h1⟩
          have hk2b : (f : Int) + k2 ≤ bl := by omega
          replace fin := hide fin
          replace hbl := hide hbl
          replace hst := hide hst
          replace hfd := hide hfd
          clear hres hnmd htk hl2 hk2 hin hin'
          go_enter Tryz.func42, Tryz.ntmps42
          go_wp2_with fail
          rw [hWx.out]
          refine hnm.out.mono ?_
          rintro e w1 ⟨rfl, hw1⟩
          replace hw1 := hw1.symm
          subst hw1
          go_wp2_with fail
          refine hfa2.out.mono ?_
          rintro e w1 ⟨rfl, hE1⟩
          have d0' := hE1.cell d0
          have k1' := hE1.cell k1
          go_wp2_with fail
          go_ret2
          exact fin.out _ hE1
      · have hfa2 := hfa.out
        rw [hf] at hfa2
        simp only [Option.getD_none, Option.isSome_none] at hfa2
        have hres : readM P s fr k = ([], 61) := by unfold readM; rw [hnmd, ← hst, hfd]; rfl
        replace hfa2 := hide hfa2
        replace hst := hide hst
        go_enter Tryz.func42, Tryz.ntmps42
        go_wp2_with fail
        rw [hWx.out]
        refine hnm.out.mono ?_
        rintro e w1 ⟨rfl, hw1⟩
        replace hw1 := hw1.symm
        subst hw1
        go_wp2_with fail
        refine hfa2.out.mono ?_
        rintro e w1 ⟨rfl, hE1⟩
        have fin := rread8_err hres (hE.trans hE1)
        replace fin := hide fin
        clear hres
        go_wp2_with fail
        go_ret2
        exact fin.out
end Go.Proofs.YtaoolpnnomhnoaaGreatDoor

/- loggiaref16: New. -/
namespace Go.Proofs.YtaoolpnnomhnoaaGreatDoor
open Go.RowKit

set_option maxRecDepth 100000 in
theorem rnew_any (w : World) : Calls Tryz.prog 43 #[] w fun e w' => e = .returned (newM.val none 0) ∧ Ext w w' := by
  unfold Mf.val newM
  go_enter Tryz.func43, Tryz.ntmps43
  go_wp2_with fail
  exact bodyPost_ret (by simp [results, Tryz.results43, go_sem]) rfl ⟨rfl, (Ext.refl w).alloc _⟩
end Go.Proofs.YtaoolpnnomhnoaaGreatDoor

/- loggiaref16: Load. -/
namespace Go.Proofs.YtaoolpnnomhnoaaGreatDoor
open Go.RowKit Go.Maps

set_option maxRecDepth 100000 in
set_option maxHeartbeats 8000000 in
theorem rload_any (N : Nat → Prop) (A : Option Addr) (n c : Nat) (P : PD) (R : List RE) (w : World) (h : RS w N A n c R) (hP : R.map RE.pl = P.L) :
    Calls Tryz.prog 15 #[rdisk A n c P.quota P.armed P.stopped] w (LoadP w (loadM P)) := by
  have hrd := fun W (hE : Ext w W) => rread8_any N A n c P R curN 0 67108864 W (h.ext hE) hP cur_len (by omega) (by omega) (by omega) (by omega)
  unfold rdisk str at hrd
  unfold rdisk
  have hnew := fun W => rnew_any W
  unfold newM Mf.val at hnew
  simp only [List.length_nil] at hnew
  replace hnew := hide hnew
  obtain ⟨W, hW⟩ : ∃ W, W = (w.alloc (.cells #[.slice A n c, .int .i64 P.quota, .int .i64 P.armed, .bool P.stopped] 44)).alloc (.cells #[.slice none 0 0, .int .i64 0, .int .i64 0, .int .i64 0, .int .i64 0, .int .i64 0] 24) := ⟨_, rfl⟩
  have hE0 : Ext w W := by rw [hW]; exact ((Ext.refl w).alloc _).alloc _
  have hd : Row W w.heap.size 44 #[.slice A n c, .int .i64 P.quota, .int .i64 P.armed, .bool P.stopped] := by rw [hW]; exact (Row.new w _ _).alloc _
  have hz0 : Row W (w.heap.size + 1) 24 #[.slice none 0 0, .int .i64 0, .int .i64 0, .int .i64 0, .int .i64 0, .int .i64 0] := by
    rw [hW, ← size_alloc w (.cells #[.slice A n c, .int .i64 P.quota, .int .i64 P.armed, .bool P.stopped] 44)]; exact Row.new _ _ _
  replace hz0 := hide hz0
  replace hE0 := hide hE0
  cases hst : P.stopped with
  | true =>
    have hl := hide (load_stop hst)
    rw [hst] at hd hW
    clear hrd hnew h hst
    go_enter Tryz.func15, Tryz.ntmps15
    go_wp2_with fail
    rw [← hW]
    replace hW := hide hW
    have k := hz0.out.get
    exact bodyPost_ret (v := .tuple #[nilMf.val none 0, .bool false, .int .i64 63]) (by simp [results, Tryz.results15, go_sem, nilMf, Mf.val, k]) rfl (by rw [hl.out]; exact ⟨_, _, rfl, nilMf_ok _ _, hE0.out⟩)
  | false =>
    rw [hst] at hd hW
    cases hfd : P.find curN with
    | none =>
      have hr := read_gone hst hfd 67108864
      have hl := hide (load_gone hst hfd)
      unfold RRead8 at hrd
      rw [hr, hst] at hrd
      replace hrd := hide hrd
      clear h hst hr hfd
      go_enter Tryz.func15, Tryz.ntmps15
      go_wp2_with fail
      rw [← hW]
      replace hW := hide hW
      have d := hd.get
      go_wp2_with fail
      refine (hrd.out _ hE0.out).mono ?_
      rintro e w1 ⟨A1, k1, c1, rfl, _, hE1⟩
      go_wp2_with fail
      refine (hnew.out _).mono ?_
      rintro e w2 ⟨rfl, hE2⟩
      have hz := hz0.out.ext (hE1.trans hE2)
      have t := hz.get
      have tf := hz.free
      have tl := hz.lt
      go_wp2_with fail
      obtain ⟨w6, hw6⟩ : ∃ w6, w6 = setM w2 (w.heap.size + 1) newM none 0 := ⟨_, rfl⟩
      have hk6 := setM_row hz newM none 0
      rw [← hw6] at hk6
      have hE6 := setM_ext (hE0.out.trans (hE1.trans hE2)) (Nat.le_succ _) newM none 0
      rw [← hw6] at hE6
      have ho6 : newM.Ok w6 w6.heap.size none 0 := newM_ok _ _
      simp only [setM, newM, List.length_nil] at hw6
      rw [← hw6]
      unfold Mf.cells at hk6
      have k := hk6.get
      clear hw6 hk6
      exact bodyPost_ret (v := .tuple #[newM.val none 0, .bool false, .int .i64 0]) (by simp [results, Tryz.results15, go_sem, newM, Mf.val, k]) rfl (by rw [hl.out]; exact ⟨_, _, rfl, ho6, hE6⟩)
    | some f =>
      have hr := read_there hst hfd
      obtain ⟨l, hle⟩ : ∃ l, l = f.2.1.take 67108864 := ⟨_, rfl⟩
      have hll : l.length ≤ 67108864 := by rw [hle, List.length_take]; omega
      unfold RRead8 at hrd
      rw [hr, hst, ← hle] at hrd
      replace hrd := hide hrd
      have hln : decM l = none → loadM P = (nilMf, false, 160) := fun h => load_bad hst hfd (by rw [← hle]; exact h)
      have hls : ∀ m, decM l = some m → loadM P = (m, true, 0) := fun m h => load_good hst hfd (by rw [← hle]; exact h)
      replace hln := hide hln
      replace hls := hide hls
      clear h hst hr hfd hle
      go_enter Tryz.func15, Tryz.ntmps15
      go_wp2_with fail
      rw [← hW]
      replace hW := hide hW
      have d := hd.get
      go_wp2_with fail
      refine (hrd.out _ hE0.out).mono ?_
      rintro e w1 ⟨A1, k1, c1, rfl, hb, hE1⟩
      have hdec := hide (rdecode_any A1 k1 c1 l w1 hb (by rw [hb.len]; show l.length ≤ _; omega))
      clear hb
      go_wp2_with fail
      refine hdec.out.mono ?_
      rintro e w2 ⟨hE2, hd⟩
      have hz := hz0.out.ext (hE1.trans hE2)
      cases hdm : decM l with
      | none =>
        rw [hdm] at hd
        simp only at hd
        subst hd
        have hl := hide (hln.out hdm)
        have t := hz.get
        have tf := hz.free
        have tl := hz.lt
        unfold nilMf Mf.val
        simp only [List.length_nil]
        go_wp2_with fail
        obtain ⟨w6, hw6⟩ : ∃ w6, w6 = setM w2 (w.heap.size + 1) nilMf none 0 := ⟨_, rfl⟩
        have hk6 := setM_row hz nilMf none 0
        rw [← hw6] at hk6
        have hE6 := setM_ext (hE0.out.trans (hE1.trans hE2)) (Nat.le_succ _) nilMf none 0
        rw [← hw6] at hE6
        have ho6 : nilMf.Ok w6 w6.heap.size none 0 := nilMf_ok _ _
        simp only [setM, nilMf, List.length_nil] at hw6
        rw [← hw6]
        obtain ⟨w7, hw7⟩ : ∃ w7, w7 = w6.alloc (.cells #[.slice none 0 0, .int .i64 0, .int .i64 0, .int .i64 0, .int .i64 0, .int .i64 0] 24) := ⟨_, rfl⟩
        have hE7 : Ext w6 w7 := by rw [hw7]; exact (Ext.refl w6).alloc _
        replace hk6 := hk6.ext hE7
        replace hE6 := hE6.trans hE7
        have ho7 : nilMf.Ok w7 w7.heap.size none 0 := nilMf_ok w7 w7.heap.size
        rw [← hw7]
        unfold Mf.cells at hk6
        have k := hk6.get
        clear hw6 hk6 hw7
        exact bodyPost_ret (v := .tuple #[nilMf.val none 0, .bool false, .int .i64 160]) (by simp [results, Tryz.results15, go_sem, nilMf, Mf.val, k]) rfl (by rw [hl.out]; exact ⟨_, _, rfl, ho7, hE6⟩)

      | some m =>
        rw [hdm] at hd
        simp only at hd
        obtain ⟨A2, c2, rfl, ho⟩ := hd
        have hl := hide (hls.out m hdm)
        have t := hz.get
        have tf := hz.free
        have tl := hz.lt
        unfold Mf.val
        go_wp2_with fail
        obtain ⟨w6, hw6⟩ : ∃ w6, w6 = setM w2 (w.heap.size + 1) m A2 c2 := ⟨_, rfl⟩
        have hk6 := setM_row hz m A2 c2
        rw [← hw6] at hk6
        have hE6 := setM_ext (hE0.out.trans (hE1.trans hE2)) (Nat.le_succ _) m A2 c2
        rw [← hw6] at hE6
        have ho6 : m.Ok w6 w6.heap.size A2 c2 := by rw [hw6]; exact mf_setM ho hz _ _ _
        unfold setM at hw6
        rw [← hw6]
        obtain ⟨w7, hw7⟩ : ∃ w7, w7 = w6.alloc (.cells #[.slice A2 m.ps.length c2, .int .i64 m.floor, .int .i64 m.done, .int .i64 m.log, .int .i64 m.next, .int .i64 m.now] 24) := ⟨_, rfl⟩
        have hE7 : Ext w6 w7 := by rw [hw7]; exact (Ext.refl w6).alloc _
        replace hk6 := hk6.ext hE7
        replace hE6 := hE6.trans hE7
        have ho7 : m.Ok w7 w7.heap.size A2 c2 := ⟨⟨ho6.parts.len, ho6.parts.cells.ext hE7, fun hne a ha => ⟨Nat.lt_of_lt_of_le (ho6.parts.away hne a ha).1 hE7.size, (ho6.parts.away hne a ha).2⟩, ho6.parts.cap, ho6.parts.most, ho6.parts.ok⟩, ho6.floor, ho6.done, ho6.log, ho6.next, ho6.now⟩
        rw [← hw7]
        unfold Mf.cells at hk6
        have k := hk6.get
        clear hw6 hk6 hw7
        exact bodyPost_ret (v := .tuple #[m.val A2 c2, .bool true, .int .i64 0]) (by simp [results, Tryz.results15, go_sem, Mf.val, k]) rfl (by rw [hl.out]; exact ⟨_, _, rfl, ho7, hE6⟩)

end Go.Proofs.YtaoolpnnomhnoaaGreatDoor

