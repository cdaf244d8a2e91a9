/- WalRuns: both disks side by side. -/
import Derived.Test.YtohphanbnhiodaaGreatM07
import Derived.Test.YtohphanbnhiodaaGreatM10
import Derived.Deep.CutRange
import Derived.Deep.CutBlock
import Derived.Deep.DeepCutAuto
import Derived.Deep.RegionHeld3
import Derived.Deep.QuietTactic
import Derived.BigQuiet
import Derived.Test.YtohphanbnhiodaaGreatM04
import Derived.Test.YtohphanbnhiodaaGreatM05
set_option linter.unusedSimpArgs false
set_option linter.unusedVariables false
namespace Go.Proofs.YtohphanbnhiodaaGreat
open Go.RowKit Go.Maps

theorem row_disk {w w' : World} {g b0 d : Nat} {t : TypeId} {cs : Array Value} {P : PD} {F : Nat → Prop} (h : Row w g t cs) (hD : DS w b0 d P F) (hc : Chg F w w') (he : t ≠ 73 ∧ t ≠ 107 ∧ t ≠ 5) : Row w' g t cs :=
  hc.row h fun hF => by
    rcases hD.kind hF h with h | h | h
    · exact he.1 h
    · exact he.2.1 h
    · exact he.2.2 h
/-- Both disks, alike: the program's at d, the document's in the block rb. -/
structure RunS (w : World) (d rb : Nat) (wr : World) (i : Nat) (P : PD) (F : Nat → Prop) (A : Option Addr) (n c : Nat) (R : List RE) : Prop where
  disk : DS wr w.heap.size d P F
  row : Row wr rb 29 #[.slice A n c, .int .i64 P.quota, .int .i64 P.armed, .bool P.stopped]
  rs : RS wr (fun k => F k ∨ k = rb) A n c R
  pl : R.map RE.pl = P.L
  many : P.L.length ≤ i
  low : w.heap.size ≤ rb
  ext : Ext w wr
/-- The program's disk is P' already, the document's is P still. -/
structure RunM (w : World) (d rb : Nat) (wr : World) (i : Nat) (P P' : PD) (F : Nat → Prop) (A : Option Addr) (n c : Nat) (R : List RE) : Prop where
  disk : DS wr w.heap.size d P' F
  row : Row wr rb 29 #[.slice A n c, .int .i64 P.quota, .int .i64 P.armed, .bool P.stopped]
  rs : RS wr (fun k => F k ∨ k = rb) A n c R
  pl : R.map RE.pl = P.L
  many : P'.L.length ≤ i + 1
  low : w.heap.size ≤ rb
  ext : Ext w wr
section
variable {w wr w1 wx w' w2 w3 : World} {d rb i n c n1 c1 : Nat} {P P' : PD} {F F' : Nat → Prop} {A A1 : Option Addr} {R R1 : List RE}
theorem RunS.move (h : RunS w d rb wr i P F A n c R) (hE : Ext wr w1) : RunS w d rb w1 i P F A n c R := ⟨h.disk.ext hE, h.row.ext hE, h.rs.ext hE, h.pl, h.many, h.low, h.ext.trans hE⟩
theorem RunM.move (h : RunM w d rb wr i P P' F A n c R) (hE : Ext wr w1) : RunM w d rb w1 i P P' F A n c R := ⟨h.disk.ext hE, h.row.ext hE, h.rs.ext hE, h.pl, h.many, h.low, h.ext.trans hE⟩
theorem RunS.up (h : RunS w d rb wr i P F A n c R) {j : Nat} (hj : i ≤ j) : RunS w d rb wr j P F A n c R := { h with many := Nat.le_trans h.many hj }
theorem RunS.mid (h : RunS w d rb wr i P F A n c R) (hE : Ext wr wx) (hN : DNext w.heap.size d F wx P' w') (hm : P'.L.length ≤ i + 1) : ∃ F', RunM w d rb w' i P P' F' A n c R ∧ Chg F wr w' := by
  obtain ⟨F', h1, h2, h3⟩ := hN
  have hD := h.disk.ext hE
  refine ⟨F', ⟨h1, row_disk (h.row.ext hE) hD h2 (by decide), (h.rs.ext hE).chg h2 (fun k _ hk => .inl hk) (fun k hk hk2 => ?_), h.pl, hm, h.low, (h.ext.trans hE).chg h2 fun k hk hF => by have := hD.base_le hF; omega⟩, (Chg.of_ext hE F).trans h2 fun _ _ h => h⟩
  rcases hk2 with hk2 | hk2
  · rcases h3 k hk2 with h | h
    · exact .inl h
    · omega
  · exact .inr hk2
theorem RunM.away (h : RunM w d rb wr i P P' F A n c R) : ¬ F rb := fun hF => by
  rcases h.disk.kind hF h.row with h | h | h
  · revert h; decide
  · revert h; decide
  · revert h; decide
theorem RunM.lt (h : RunM w d rb wr i P P' F A n c R) : ∀ k, (F k ∨ k = rb) → k < wr.heap.size := fun k hk => by
  rcases hk with hk | rfl
  · exact h.disk.lt hk
  · exact h.row.lt
theorem RunM.done (h : RunM w d rb w2 i P P' F A n c R) (hR : RS w3 (fun k => F k ∨ k = rb) A1 n1 c1 R1) (hp : R1.map RE.pl = P'.L) (hE : Ext w2 w3) :
    RunS w d rb ((((w3.setCell ⟨rb, 0, none⟩ (.slice A1 n1 c1)).setCell ⟨rb, 1, none⟩ (.int .i64 P'.quota)).setCell ⟨rb, 2, none⟩ (.int .i64 P'.armed)).setCell ⟨rb, 3, none⟩ (.bool P'.stopped)) (i + 1) P' F A1 n1 c1 R1 := by
  have hc := sets_chg w3 rb (.slice A1 n1 c1) (.int .i64 P'.quota) (.int .i64 P'.armed) (.bool P'.stopped)
  refine ⟨(h.disk.ext hE).chg hc fun k hk hF => h.away (hk ▸ hF), (((((h.row.ext hE).put 0 _).put 1 _).put 2 _).put 3 _), hR.chg hc (fun k _ hk => .inr hk) (fun _ _ h => h), hp, h.many, h.low, ?_⟩
  exact ((((h.ext.trans hE).setCell h.low _).setCell h.low _).setCell h.low _).setCell h.low _
theorem RunS.armed (h : RunS w d rb wr i P F A n c R) : P.armed ≤ 9223372036854775807 := by
  obtain ⟨_, _, hD, _⟩ := h.disk
  exact hD.ha
theorem RunS.quota (h : RunS w d rb wr i P F A n c R) : P.quota ≤ 9223372036854775807 := by
  obtain ⟨_, _, hD, _⟩ := h.disk
  exact hD.hq
theorem RunS.logs (h : RunS w d rb wr i P F A n c R) : (logsM P).length ≤ i := by
  have := h.many
  unfold logsM listM
  refine Nat.le_trans (List.length_filterMap_le _ _) ?_
  split
  · simp
  · rw [List.length_map]; exact this
end
theorem put_len (P : PD) (f : PF) (b : List UInt8) : (putM P f b).1.L.length ≤ P.L.length + 1 := by
  unfold putM
  split
  · exact Nat.le_succ _
  · split
    · exact Nat.le_succ _
    · split
      · exact Nat.le_succ _
      · exact len_with_le _ _
theorem append_len (P : PD) (s b : List UInt8) : (appendM P s b).1.L.length ≤ P.L.length + 1 := by
  unfold appendM
  split
  · split
    · exact Nat.le_succ _
    · split
      · exact put_len _ _ _
      · split
        · exact Nat.le_succ _
        · exact put_len _ _ _
  · exact Nat.le_succ _
theorem wapp_len (P : PD) (s : List UInt8) (m : Nat) (Z : Except Nat (List UInt8)) : (wappM P s m Z).1.L.length ≤ P.L.length + 1 := by
  unfold wappM
  split
  · exact Nat.le_succ _
  · split
    · exact Nat.le_succ _
    · exact append_len _ _ _
theorem sync_len (P : PD) (s : List UInt8) : (syncM P s).1.L.length ≤ P.L.length + 1 := by
  unfold syncM writesM
  split
  · split
    · exact Nat.le_succ _
    · split
      · split
        · exact Nat.le_succ _
        · exact len_with_le _ _
      · exact Nat.le_succ _
  · exact Nat.le_succ _
theorem remove_len (P : PD) (s : List UInt8) : (removeM P s).1.L.length ≤ P.L.length := by
  unfold removeM writesM
  split
  · split
    · exact Nat.le_refl _
    · split
      · split
        · exact Nat.le_refl _
        · exact len_without_le _ _
      · exact Nat.le_refl _
  · exact Nat.le_refl _
theorem trunc_len (below : Int) : ∀ (ks : List Nat) (P : PD) (n : Nat), (truncM below ks P n).1.L.length ≤ P.L.length
  | [], _, _ => Nat.le_refl _
  | k :: ks, P, n => by
    rw [truncM]
    split
    · split
      · exact Nat.le_trans (trunc_len below ks _ _) (remove_len _ _)
      · exact remove_len _ _
    · exact Nat.le_refl _
theorem restart_len (P : PD) (keep : List Int) : (restartM P keep).L.length = P.L.length := by
  unfold restartM keptM
  simp
/-- What Append of batches makes of the program's disk, in one word. -/
theorem app_next {base d m : Nat} {F : Nat → Prop} {P : PD} {nm : List UInt8} {w : World} {Z : Except Nat (List UInt8)} {e : Ending} {w' : World} (hD : DS w base d P F) (h : AppP base d F P nm w m Z e w') :
    e = .returned (.int .i64 ((wappM P nm m Z).2 : Nat)) ∧ ∃ wx, Ext w wx ∧ DNext base d F wx (wappM P nm m Z).1 w' := by
  unfold AppP at h
  unfold wappM
  have hsame : ∀ w1, Ext w w1 → ∃ wx, Ext w wx ∧ DNext base d F wx P w1 := fun w1 hE => ⟨w1, hE, DNext.of_ext (hD.ext hE) (Ext.refl _)⟩
  cases Z with
  | error k => exact ⟨h.1, hsame _ h.2⟩
  | ok bs =>
    simp only at h ⊢
    split at h
    · rename_i h0
      rw [if_pos h0]
      exact ⟨h.1, hsame _ h.2⟩
    · rename_i h0
      rw [if_neg h0]
      obtain ⟨wx, h1, h2, h3⟩ := h
      exact ⟨h2, wx, h1, h3⟩
theorem readM_len (P : PD) (s : List UInt8) (fr : Int) : (readM P s fr 67108864).1.length ≤ 67108864 := by
  unfold readM
  split
  · split
    · simp
    · split
      · split
        · simp
        · rw [List.length_take]
          exact Nat.min_le_left _ _
      · simp
  · simp
theorem owns_len {w : World} {base : Nat} {e : TypeId} {size n c : Nat} {A : Option Addr} {xs : List Value} (h : w.ownsRow base e size (.slice A n c) n xs) : n ≤ 9223372036854775807 := by
  rcases h.2 with ⟨_, h0⟩ | ⟨g, cap, cur, _, _, _, hn, hc, _⟩
  · omega
  · unfold maxLen at hc; omega
set_option maxRecDepth 100000 in
theorem run_headI {n c k : Nat} {A : Option Addr} (h : k ≤ c) :
    ∃ A', (∀ W : World, (Instr.sliceAt 35 (.slice A n c) none (some (.int .i64 k)) none).run Tryz.prog W = .ok (.slice A' k c) W) ∧ ((∀ a, A = some a → a.spot = none) → A' = A) := by
  have ht := Tryz.underlying35
  have he : Tryz.prog.elem 35 = 3 := by unfold Program.elem; rw [ht]
  have hs : ∀ W : World, (sizeOf 3).run Tryz.prog W = .ok 1 W := fun W => by kernel_rfl
  refine ⟨if c = 0 then A else A.map fun x => x.add (0 * 1), fun W => ?_, fun hA => ?_⟩
  · rw [run_sliceAt_slice W _ _ _ _ _ (by rw [ht, he]), run_slice_h W _ A n c (by rw [ht, he]) .i64 k (by omega) (by omega), he, hs]
    simp only [Result.andThen_ok]
    congr 1
  · cases A with
    | none => simp
    | some a =>
      obtain ⟨b, o, sp⟩ := a
      obtain rfl : sp = none := hA _ rfl
      simp [Addr.add_lit]
set_option maxRecDepth 100000 in
theorem run_headU {n c k : Nat} {A : Option Addr} (h : k ≤ c) :
    ∃ A', (∀ W : World, (Instr.sliceAt 34 (.slice A n c) none (some (.int .i64 k)) none).run Tryz.prog W = .ok (.slice A' k c) W) ∧ ((∀ a, A = some a → a.spot = none) → A' = A) := by
  have ht := Tryz.underlying34
  have he : Tryz.prog.elem 34 = 5 := by unfold Program.elem; rw [ht]
  have hs : ∀ W : World, (sizeOf 5).run Tryz.prog W = .ok 1 W := fun W => by kernel_rfl
  refine ⟨if c = 0 then A else A.map fun x => x.add (0 * 1), fun W => ?_, fun hA => ?_⟩
  · rw [run_sliceAt_slice W _ _ _ _ _ (by rw [ht, he]), run_slice_h W _ A n c (by rw [ht, he]) .i64 k (by omega) (by omega), he, hs]
    simp only [Result.andThen_ok]
    congr 1
  · cases A with
    | none => simp
    | some a =>
      obtain ⟨b, o, sp⟩ := a
      obtain rfl : sp = none := hA _ rfl
      simp [Addr.add_lit]
theorem ints_take {w : World} {A A' : Option Addr} {l : List Int} (h : Cells w A (l.map I64)) (hA : l ≠ [] → A' = A) (k : Nat) : Cells w A' ((l.take k).map I64) := by
  by_cases hne : l = []
  · left; rw [hne]; simp
  · rw [hA hne]
    rcases h with hc | ⟨g, o, hg, hc⟩
    · exact absurd (List.map_eq_nil_iff.1 hc) hne
    · refine .inr ⟨g, o, hg, fun i v hv => hc i v ?_⟩
      rw [List.map_take, List.getElem?_take] at hv
      split at hv
      · exact hv
      · cases hv
theorem bs_take {w : World} {A A' : Option Addr} {l : List UInt8} (h : Bs w A l) (hA : l ≠ [] → A' = A) (k : Nat) : Bs w A' (l.take k) := by
  unfold Bs at h ⊢
  by_cases hne : l = []
  · left; rw [hne]; simp
  · rw [hA hne]
    rcases h with hc | ⟨g, o, hg, hc⟩
    · exact absurd (List.map_eq_nil_iff.1 hc) hne
    · refine .inr ⟨g, o, hg, fun i v hv => hc i v ?_⟩
      rw [List.map_take, List.getElem?_take] at hv
      split at hv
      · exact hv
      · cases hv
/-- A call, as it came in. -/
structure OpW where
  kd : Int
  nn : Nat
  l : List BtC
  lA : Option Addr
  lc : Nat
  fr : Int
  nx : Int
  b : List UInt8
  bA : Option Addr
  bc : Nat
  kp : List Int
  kA : Option Addr
  kc : Nat
def OpW.cells (o : OpW) : List Value := [.int .i64 o.kd, .int .u8 (o.nn : Int), .slice o.lA o.l.length o.lc, .int .i64 o.fr, .int .i64 o.nx, .slice o.bA o.b.length o.bc, .slice o.kA o.kp.length o.kc]
structure OpW.Ok (o : OpW) (w : World) : Prop where
  nn : o.nn < 256
  lr : Cells w o.lA (bcells o.l)
  each : ∀ x ∈ o.l, x.Ok w ∧ ∀ y ∈ x.l, EvX w y
  fr : I64ok' o.fr
  nx : I64ok' o.nx
  br : Bs w o.bA o.b
  ba : o.b ≠ [] → ∀ a, o.bA = some a → a.block < w.heap.size ∧ a.spot = none
  bcap : o.b.length ≤ o.bc
  kr : Cells w o.kA (o.kp.map I64)
  ka : o.kp ≠ [] → ∀ a, o.kA = some a → a.block < w.heap.size ∧ a.spot = none
  kc : o.kp.length ≤ o.kc
  kb : ∀ k ∈ o.kp, -9223372036854775808 ≤ k ∧ k ≤ 9223372036854775807
def ocells (l : List OpW) : List Value := l.flatMap OpW.cells
end Go.Proofs.YtohphanbnhiodaaGreat

/- loggialaw15: WalRuns. -/
namespace Go.Proofs.YtohphanbnhiodaaGreat
open Go.RowKit Go.Maps

theorem ocells_len (l : List OpW) : (ocells l).length = l.length * 7 := flat_len_of (cellsA := OpW.cells) (k := 7) (fun _ => rfl) l
theorem ocells_at {w : World} {A : Option Addr} {l : List OpW} (h : Cells w A (ocells l)) {i : Nat} {o : OpW} (ho : l[i]? = some o) : ∃ g f, A = some ⟨g, f, none⟩ ∧ ∀ j v, j < 7 → o.cells[j]? = some v → w.cell? ⟨g, f + i * 7 + j, none⟩ = some v := by
  have hi := (List.getElem?_eq_some_iff.1 ho).1
  obtain ⟨g, f, hA, hc⟩ := h.at_ (by rw [ocells_len]; omega)
  exact ⟨g, f, hA, fun j v hj hv => by
    rw [Nat.add_assoc]
    exact hc (i * 7 + j) v (by unfold ocells; rw [flat_get_of (cellsA := OpW.cells) (k := 7) (fun _ => rfl) l i o j ho hj]; exact hv)⟩
/-- What WalRuns keeps from round to round. -/
def WrInv (w : World) (d rb : Nat) (wr : World) (i : Nat) : Prop := ∃ P F A n c R, RunS w d rb wr i P F A n c R
/-- Behind a call: both disks alike, the writer is there. -/
def RqP (w : World) (d rb b k j : Nat) (wv : World) : Prop := ∃ P F A n c R, RunS w d rb wv j P F A n c R ∧ WrR wv b d k (nameW k)
set_option maxRecDepth 100000 in
set_option maxHeartbeats 80000000 in
theorem walruns_any (q0 : Int) (A0 : Option Addr) (c0 : Nat) (ops : List OpW) (w : World) (h : Cells w A0 (ocells ops)) (hx : ∀ o ∈ ops, o.Ok w) (hq0 : q0 ≤ 9223372036854775807) :
    Calls Tryz.prog 3 #[.int .i64 q0, .slice A0 ops.length c0] w fun e w' => e = .returned (.bool true) ∧ Ext w w' := by
  have haw := hide (fun W => awake_any W)
  obtain ⟨n0, hn0⟩ : ∃ n, n = ops.length := ⟨_, rfl⟩
  rw [← hn0]
  replace hn0 := hide hn0
  replace h := hide h
  replace hx := hide hx
  by_cases hq : q0 < 0
  · have hnew := hide (new_no q0 w hq)
    have hrnew := rnew_no q0 w hq
    unfold rdisk at hrnew
    replace hrnew := hide hrnew
    replace hq := hide hq
    go_enter Tryz.func3, Tryz.ntmps3
    go_wp2_with fail
    refine hnew.out.mono ?_
    rintro e w1 ⟨rfl, rfl⟩
    go_wp2_with fail
    refine hrnew.out.mono ?_
    rintro e w2 ⟨rfl, hE2⟩
    go_wp2_with fail
    obtain ⟨w3, hw3⟩ : ∃ w3, w3 = w2.alloc (.cells #[.slice none 0 0, .int .i64 0, .int .i64 0, .bool false] 29) := ⟨_, rfl⟩
    have hE3 : Ext w2 w3 := by rw [hw3]; exact (Ext.refl w2).alloc _
    rw [← hw3]
    replace hw3 := hide hw3
    refine (haw.out w3).mono ?_
    rintro e w4 ⟨rfl, hE4⟩
    go_wp2_with fail
    go_loopw [9] (fun s9 wr => s9 = .int .i64 0 ∧ wr = w4) (fun _ _ => 0)
    case atStart => exact ⟨rfl, rfl⟩
    case round =>
      obtain ⟨rfl, rfl⟩ := hrel
      by_cases h0 : 0 < n0
      all_goals
        go_wp2_with fail
        go_ret
        exact ⟨rfl, (hE2.trans hE3).trans hE4⟩
  · obtain ⟨q, rfl⟩ : ∃ q : Nat, q0 = q := ⟨q0.toNat, by omega⟩
    have hnew := hide (new_yes w.heap.size q w (by omega) (Nat.le_refl _))
    have hrnew := fun W => rnew_yes q W
    unfold rdisk at hrnew
    replace hrnew := hide hrnew
    clear hq
    go_enter Tryz.func3, Tryz.ntmps3
    go_wp2_with fail
    refine hnew.out.mono ?_
    rintro e w1 ⟨d, F, rfl, hS1, hF1, hE1⟩
    go_wp2_with fail
    refine (hrnew.out w1).mono ?_
    rintro e w2 ⟨rfl, hE2⟩
    go_wp2_with fail
    obtain ⟨w3, hw3⟩ : ∃ w3, w3 = w2.alloc (.cells #[.slice none 0 0, .int .i64 (q : Int), .int .i64 0, .bool false] 29) := ⟨_, rfl⟩
    have hE3 : Ext w2 w3 := by rw [hw3]; exact (Ext.refl w2).alloc _
    have hr3 : Row w3 w2.heap.size 29 #[.slice none 0 0, .int .i64 (q : Int), .int .i64 0, .bool false] := by rw [hw3]; exact Row.new w2 _ _
    rw [← hw3]
    replace hw3 := hide hw3
    refine (haw.out w3).mono ?_
    rintro e w4 ⟨rfl, hE4⟩
    have hinv0 : Hid (WrInv w d w2.heap.size w4 0) := hide ⟨⟨[], q, 0, false⟩, F, none, 0, 0, [], hS1.ext ((hE2.trans hE3).trans hE4), hr3.ext hE4, RS.nil _ _, rfl, by simp, (hE1.trans hE2).size, ((hE1.trans hE2).trans hE3).trans hE4⟩
    obtain ⟨rb, hrb⟩ : ∃ rb, rb = w2.heap.size := ⟨_, rfl⟩
    rw [← hrb] at hinv0 ⊢
    replace hrb := hide hrb
    clear hS1 hF1 hE1 hE2 hE3 hr3 hE4
    go_wp2_with fail
    go_loopw [9] (fun s9 wr => ∃ i : Nat, s9 = .int .i64 (i : Int) ∧ i ≤ 25 ∧ Hid (WrInv w d rb wr i)) (fun s9 _ => 25 - (intOf s9).toNat)
    case atStart => exact ⟨0, rfl, by omega, hinv0⟩
    case round =>
      clear hinv0
      obtain ⟨i, rfl, hi, hinv⟩ := hrel
      by_cases hgo : i < n0 ∧ i < 25
      · obtain ⟨hin, hi25⟩ := hgo
        have hi25i : (i : Int) < 25 := by omega
        obtain ⟨o, hoo⟩ : ∃ o, ops[i]? = some o := ⟨_, List.getElem?_eq_getElem (by have := hn0.out; omega)⟩
        have hok := hide (hx.out o (List.mem_of_getElem? hoo))
        obtain ⟨P, F, A, n, c, R, hS⟩ := hinv.out
        have hEw := hS.ext
        obtain ⟨g, f, hA, hc⟩ := ocells_at (h.out.ext hEw) hoo
        obtain ⟨k, hk⟩ : ∃ k : Nat, (o.nn : Int) % 4 = (k : Int) := ⟨o.nn % 4, by omega⟩
        have hk4 : k < 4 := by omega
        have c0 : wr.cell? ⟨g, f + i * 7, none⟩ = some (.int .i64 o.kd) := hc 0 _ (by omega) rfl
        have c1 := hc 1 _ (by omega) rfl
        have c2 := hc 2 _ (by omega) rfl
        have c3 := hc 3 _ (by omega) rfl
        have c4 := hc 4 _ (by omega) rfl
        have c5 := hc 5 _ (by omega) rfl
        have c6 := hc 6 _ (by omega) rfl
        subst hA
        have hn256 := hok.out.nn
        obtain ⟨kd, nn, ol, lA, lc, fr, nx, ob, bA, bc, kp, kA, kc⟩ := o
        simp only at c0 c1 c2 c3 c4 c5 c6 hk hn256
        have hS' := hide hS
        clear hc hoo hS hinv
        go_upto_region 9 with (fail)
        obtain ⟨w5, hw5⟩ : ∃ w5, w5 = wr.alloc (.cells #[.int .i64 kd, .int .u8 (nn : Int), .slice lA ol.length lc, .int .i64 fr, .int .i64 nx, .slice bA ob.length bc, .slice kA kp.length kc] 37) := ⟨_, rfl⟩
        have hE5 : Ext wr w5 := by rw [hw5]; exact (Ext.refl wr).alloc _
        have ho5 : Row w5 wr.heap.size 37 #[.int .i64 kd, .int .u8 (nn : Int), .slice lA ol.length lc, .int .i64 fr, .int .i64 nx, .slice bA ob.length bc, .slice kA kp.length kc] := by rw [hw5]; exact Row.new wr _ _
        obtain ⟨og, hog⟩ : ∃ og, og = wr.heap.size := ⟨_, rfl⟩
        rw [← hog] at ho5
        rw [← hw5, ← hog]
        replace hw5 := hide hw5
        replace hog := hide hog
        have hop := hide (open_any w.heap.size d P F k w5 (hS'.out.disk.ext hE5) (by omega))
        have e1 := ho5.cell 1 rfl
        clear c0 c1 c2 c3 c4 c5 c6
        replace hk := hide hk
        go_upto_region 10 with (fail)
        rw [hk.out]
        go_wp2_with fail
        refine hop.out.mono ?_
        rintro e w6 ⟨b, rfl, hwr6, _, hE6⟩
        have hS6 := hS'.out.move (hE5.trans hE6)
        have ho6 := ho5.ext hE6
        have hnm := hide (rname_yes k w6 (by omega))
        clear hop ho5 hS' e1
        go_wp2_with fail
        refine hnm.out.mono ?_
        rintro e w7 ⟨rfl, hE7⟩
        have hS7 := hide (hS6.move hE7)
        have ho7 := hide (ho6.ext hE7)
        have hwr7 := hide (hwr6.ext hE7)
        have hE07 := hide ((hE5.trans hE6).trans hE7)
        have x0 := ho7.out.cell 0 rfl
        clear hS6 ho6 hwr6 hnm hE5 hE6 hE7
        have hE0w := hide hS7.out.ext
        have x1 := ho7.out.cell 1 rfl
        have x2 := ho7.out.cell 2 rfl
        have x3 := ho7.out.cell 3 rfl
        have x4 := ho7.out.cell 4 rfl
        have x5 := ho7.out.cell 5 rfl
        have x6 := ho7.out.cell 6 rfl
        go_upto_block 2 with fail
        go_cut [16, 17] from 49 to 223 (fun s16 s17 wv => ∃ z : Nat, s16 = .int .i64 (z : Int) ∧ s17 = .int .i64 (z : Int) ∧ Hid (RqP w d rb b k (i + 1) wv))
        case first =>
          by_cases hkd : kd = 1
          · as_aux_lemma =>
                subst hkd
                have hfw := hide (few_any lA lc ol w w7 (hE0w.out) hok.out.lr hok.out.each)
                go_wp2_with fail
                refine hfw.out.mono ?_
                rintro e w8 ⟨lA2, lc2, l2, rfl, hfp, hE8⟩
                have hS8 := hS7.out.move hE8
                have hw8 := hwr7.out.ext hE8
                have hwa := wappend_any w.heap.size b d k P F (nameW k) l2 lA2 lc2 w8 hw8 hS8.disk (hfp.ok (hE0w.out.trans hE8)) hfp.ints (by have := hfp.few; omega) (by rw [nameW_len]; omega) hS8.ext.size
                have hra := fun N W (h1 : RS W N A n c R) h2 (h3 : FewP w w7.heap.size W lA2 lc2 l2) (h4 : Ext w W) => rwappend_any N A n c P R k l2 lA2 lc2 W h1 hS8.pl h2 (by omega) hS8.armed hS8.quota (h3.ok h4) h3.ints (by have := h3.few; omega)
                have hlen := wapp_len P (nameW k) l2.length (appB (l2.map BtC.bt) [])
                obtain ⟨Z, hZ⟩ : ∃ Z, Z = appB (l2.map BtC.bt) [] := ⟨_, rfl⟩
                obtain ⟨m2, hm2⟩ : ∃ m, m = l2.length := ⟨_, rfl⟩
                rw [← hZ] at hwa hra hlen
                rw [← hm2] at hwa hra hlen
                obtain ⟨Q, hQ⟩ : ∃ Q, Q = wappM P (nameW k) m2 Z := ⟨_, rfl⟩
                have hap : Calls Tryz.prog 10 #[.pointer (some ⟨b, 0, none⟩), .slice lA2 m2 lc2] w8 fun e w' => e = .returned (.int .i64 (Q.2 : Nat)) ∧ ∃ wx, Ext w8 wx ∧ DNext w.heap.size d F wx Q.1 w' := by
                  rw [hQ]
                  exact hwa.mono fun e w' h => app_next hS8.disk h
                rw [← hQ] at hra hlen
                obtain ⟨P2, z⟩ := Q
                simp only at hap hra hlen
                replace hap := hide hap
                unfold RNext rdisk at hra
                have hra2 := hide hra
                have hlen2 := hide (Nat.le_trans hlen (Nat.succ_le_succ hS8.many))
                replace hQ := hide hQ
                replace hZ := hide hZ
                have hfp' := hide hfp
                have hS8' := hide hS8
                have hw8' := hide hw8
                rw [← hm2]
                replace hm2 := hide hm2
                clear hwa hra hlen hfp hS8 hw8
                go_wp2_with fail
                refine hap.out.mono ?_
                rintro e w9 ⟨rfl, wx, hEx, hN⟩
                obtain ⟨F2, hM, hCh⟩ := hS8'.out.mid hEx hN hlen2.out
                have hwm : WrR w9 b d k (nameW k) := row_disk hw8'.out hS8'.out.disk hCh (by decide)
                have hfp9 := hfp'.out.disk hS8'.out.disk hCh
                have y0 : (w9).cell? ⟨rb, 0, none⟩ = some (.slice A n c) := (hM.row).cell 0 rfl
                have y1 : (w9).cell? ⟨rb, 1, none⟩ = some (.int .i64 P.quota) := (hM.row).cell 1 rfl
                have y2 : (w9).cell? ⟨rb, 2, none⟩ = some (.int .i64 P.armed) := (hM.row).cell 2 rfl
                have y3 : (w9).cell? ⟨rb, 3, none⟩ = some (.bool P.stopped) := (hM.row).cell 3 rfl
                have hra3 := hide (hra2.out (fun k => F2 k ∨ k = rb) w9 hM.rs hM.lt hfp9 hM.ext)
                clear hN hfp9
                go_wp2_with fail
                refine hra3.out.mono ?_
                rintro e w10 ⟨A1, n1, c1, R1, rfl, hR1, hP1, hE3⟩
                have hfin := hM.done hR1 hP1 hE3
                have hwf : WrR ((((w10.setCell ⟨rb, 0, none⟩ (.slice A1 n1 c1)).setCell ⟨rb, 1, none⟩ (.int .i64 P2.quota)).setCell ⟨rb, 2, none⟩ (.int .i64 P2.armed)).setCell ⟨rb, 3, none⟩ (.bool P2.stopped)) b d k (nameW k) := (sets_chg w10 rb _ _ _ _).row (hwm.ext hE3) fun he => by
                  subst he
                  exact Row.unlike hwm hM.row (by decide) rfl
                have hfin2 := hide (show RqP w d rb b k (i + 1) ((((w10.setCell ⟨rb, 0, none⟩ (.slice A1 n1 c1)).setCell ⟨rb, 1, none⟩ (.int .i64 P2.quota)).setCell ⟨rb, 2, none⟩ (.int .i64 P2.armed)).setCell ⟨rb, 3, none⟩ (.bool P2.stopped)) from ⟨P2, F2, A1, n1, c1, R1, hfin, hwf⟩)
                have hM3 := hM.move hE3
                have g0 : (w10).cell? ⟨rb, 0, none⟩ = some (.slice A n c) := (hM3.row).cell 0 rfl
                have g1 : (w10).cell? ⟨rb, 1, none⟩ = some (.int .i64 P.quota) := (hM3.row).cell 1 rfl
                have g2 : (w10).cell? ⟨rb, 2, none⟩ = some (.int .i64 P.armed) := (hM3.row).cell 2 rfl
                have g3 : (w10).cell? ⟨rb, 3, none⟩ = some (.bool P.stopped) := (hM3.row).cell 3 rfl
                have f0 := (hM3.row).free 0
                have f1 := (hM3.row).free 1
                have f2 := (hM3.row).free 2
                have f3 := (hM3.row).free 3
                clear hfin hwf hM3 y0 y1 y2 y3
                go_wp2_with fail
                go_meet
                case rel => exact ⟨z, rfl, rfl, hfin2⟩
          by_cases hkd : kd = 2
          · as_aux_lemma =>
                subst hkd
                have hws := wsync_any w.heap.size b d k P F (nameW k) w7 hwr7.out hS7.out.disk (by rw [nameW_len]; omega)
                have hra := fun N W (h1 : RS W N A n c R) h2 => rwsync_any N A n c P R k W h1 hS7.out.pl h2 (by omega) hS7.out.armed
                have hlen := sync_len P (nameW k)
                obtain ⟨Q, hQ⟩ : ∃ Q, Q = syncM P (nameW k) := ⟨_, rfl⟩
                rw [← hQ] at hws hlen
                simp only [← hQ] at hra
                obtain ⟨P2, z0⟩ := Q
                simp only at hws hra hlen
                obtain ⟨z, hz⟩ : ∃ z, z = if z0 = 61 then 0 else z0 := ⟨_, rfl⟩
                have hzi : (if z0 = 61 then (0 : Int) else (z0 : Int)) = (z : Int) := by rw [hz]; split <;> rfl
                rw [hzi] at hws
                simp only [← hz] at hra
                replace hws := hide hws
                unfold RNext rdisk at hra
                have hra2 := hide hra
                have hlen2 := hide (Nat.le_trans hlen (Nat.succ_le_succ hS7.out.many))
                replace hQ := hide hQ
                replace hz := hide hz
                clear hra hlen hzi
                go_wp2_with fail
                refine hws.out.mono ?_
                rintro e w9 ⟨rfl, wx, hEx, hN⟩
                obtain ⟨F2, hM, hCh⟩ := hS7.out.mid hEx hN hlen2.out
                have hwm : WrR w9 b d k (nameW k) := row_disk hwr7.out hS7.out.disk hCh (by decide)
                have y0 : (w9).cell? ⟨rb, 0, none⟩ = some (.slice A n c) := (hM.row).cell 0 rfl
                have y1 : (w9).cell? ⟨rb, 1, none⟩ = some (.int .i64 P.quota) := (hM.row).cell 1 rfl
                have y2 : (w9).cell? ⟨rb, 2, none⟩ = some (.int .i64 P.armed) := (hM.row).cell 2 rfl
                have y3 : (w9).cell? ⟨rb, 3, none⟩ = some (.bool P.stopped) := (hM.row).cell 3 rfl
                have hra3 := hide (hra2.out (fun k => F2 k ∨ k = rb) w9 hM.rs hM.lt)
                clear hN
                go_wp2_with fail
                refine hra3.out.mono ?_
                rintro e w10 ⟨A1, n1, c1, R1, rfl, hR1, hP1, hE3⟩
                have hfin := hM.done hR1 hP1 hE3
                have hwf : WrR ((((w10.setCell ⟨rb, 0, none⟩ (.slice A1 n1 c1)).setCell ⟨rb, 1, none⟩ (.int .i64 P2.quota)).setCell ⟨rb, 2, none⟩ (.int .i64 P2.armed)).setCell ⟨rb, 3, none⟩ (.bool P2.stopped)) b d k (nameW k) := (sets_chg w10 rb _ _ _ _).row (hwm.ext hE3) fun he => by
                  subst he
                  exact Row.unlike hwm hM.row (by decide) rfl
                have hfin2 := hide (show RqP w d rb b k (i + 1) ((((w10.setCell ⟨rb, 0, none⟩ (.slice A1 n1 c1)).setCell ⟨rb, 1, none⟩ (.int .i64 P2.quota)).setCell ⟨rb, 2, none⟩ (.int .i64 P2.armed)).setCell ⟨rb, 3, none⟩ (.bool P2.stopped)) from ⟨P2, F2, A1, n1, c1, R1, hfin, hwf⟩)
                have hM3 := hM.move hE3
                have g0 : (w10).cell? ⟨rb, 0, none⟩ = some (.slice A n c) := (hM3.row).cell 0 rfl
                have g1 : (w10).cell? ⟨rb, 1, none⟩ = some (.int .i64 P.quota) := (hM3.row).cell 1 rfl
                have g2 : (w10).cell? ⟨rb, 2, none⟩ = some (.int .i64 P.armed) := (hM3.row).cell 2 rfl
                have g3 : (w10).cell? ⟨rb, 3, none⟩ = some (.bool P.stopped) := (hM3.row).cell 3 rfl
                have f0 := (hM3.row).free 0
                have f1 := (hM3.row).free 1
                have f2 := (hM3.row).free 2
                have f3 := (hM3.row).free 3
                clear hfin hwf hM3 y0 y1 y2 y3
                go_wp2_with fail
                go_meet
                case rel => exact ⟨z, rfl, rfl, hfin2⟩
          by_cases hkd : kd = 3
          · as_aux_lemma =>
                subst hkd
                have hfx := hok.out.fr
                have hnx := hok.out.nx
                have hl25 := hS7.out.logs
                have hrp := replay_any 30 67108864 (by omega) (by omega) (by omega) w.heap.size d P F fr nx w7 hS7.out.disk hfx hnx (by omega) (fun m _ => readM_len P (nameW m) 0)
                have hrr := fun W (h1 : Ext w7 W) => rreplay_any 30 67108864 (by omega) (by omega) (by omega) (fun k => F k ∨ k = rb) A n c P R fr nx W (hS7.out.rs.ext h1) hS7.out.pl hfx hnx (by omega) (fun m _ => readM_len P (nameW m) 0)
                obtain ⟨Z, hZ⟩ : ∃ Z, Z = replM P fr (logsM P) true nx [] (-1) := ⟨_, rfl⟩
                rw [← hZ] at hrp
                simp only [← hZ] at hrr
                unfold rdisk at hrr
                replace hZ := hide hZ
                cases Z with
                | error er =>
                  unfold ReplP at hrp hrr
                  simp only at hrp hrr
                  replace hrp := hide hrp
                  replace hrr := hide hrr
                  go_wp2_with fail
                  refine hrp.out.mono ?_
                  rintro e w8 ⟨hE8, rfl⟩
                  have hoz := ho7.out.ext hE8
                  have u3 := hoz.cell 3 rfl
                  have u4 := hoz.cell 4 rfl
                  have hS8 := hS7.out.move hE8
                  have y0 : (w8).cell? ⟨rb, 0, none⟩ = some (.slice A n c) := (hS8.row).cell 0 rfl
                  have y1 : (w8).cell? ⟨rb, 1, none⟩ = some (.int .i64 P.quota) := (hS8.row).cell 1 rfl
                  have y2 : (w8).cell? ⟨rb, 2, none⟩ = some (.int .i64 P.armed) := (hS8.row).cell 2 rfl
                  have y3 : (w8).cell? ⟨rb, 3, none⟩ = some (.bool P.stopped) := (hS8.row).cell 3 rfl
                  go_wp2_with fail
                  refine (hrr.out w8 hE8).mono ?_
                  rintro e w9 ⟨hE9, rfl⟩
                  have hsb := hide (samebatches_any [] [] none none 0 0 w9 ⟨.inl rfl, nofun⟩ ⟨.inl rfl, nofun⟩ rfl (by simp))
                  go_wp2_with fail
                  refine hsb.out.mono ?_
                  rintro e w10 ⟨rfl, hE10⟩
                  go_wp2_with fail
                  go_meet
                  case rel => exact ⟨0, rfl, rfl, hide ⟨P, F, A, n, c, R, (hS7.out.move ((hE8.trans hE9).trans hE10)).up (Nat.le_succ _), hwr7.out.ext ((hE8.trans hE9).trans hE10)⟩⟩
                | ok ol2 =>
                  obtain ⟨out, last⟩ := ol2
                  unfold ReplP at hrp hrr
                  simp only at hrp hrr
                  replace hrp := hide hrp
                  replace hrr := hide hrr
                  go_wp2_with fail
                  refine hrp.out.mono ?_
                  rintro e w8 ⟨hE8, l1, A1, c1, h1, rfl, ho1⟩
                  obtain ⟨m1, hm1⟩ : ∃ m, m = l1.length := ⟨_, rfl⟩
                  rw [← hm1]
                  replace hm1 := hide hm1
                  have hoz := ho7.out.ext hE8
                  have u3 := hoz.cell 3 rfl
                  have u4 := hoz.cell 4 rfl
                  have hS8 := hS7.out.move hE8
                  have y0 : (w8).cell? ⟨rb, 0, none⟩ = some (.slice A n c) := (hS8.row).cell 0 rfl
                  have y1 : (w8).cell? ⟨rb, 1, none⟩ = some (.int .i64 P.quota) := (hS8.row).cell 1 rfl
                  have y2 : (w8).cell? ⟨rb, 2, none⟩ = some (.int .i64 P.armed) := (hS8.row).cell 2 rfl
                  have y3 : (w8).cell? ⟨rb, 3, none⟩ = some (.bool P.stopped) := (hS8.row).cell 3 rfl
                  go_wp2_with fail
                  refine (hrr.out w8 hE8).mono ?_
                  rintro e w9 ⟨hE9, l2, A2, c2, h2, rfl, ho2⟩
                  have hsb := samebatches_any l1 l2 A1 A2 c1 c2 w9 ((ho1.ext hE9).ok) ho2.ok (h1.symm.trans h2) (owns_len ho1.own)
                  obtain ⟨m2, hm2⟩ : ∃ m, m = l2.length := ⟨_, rfl⟩
                  rw [← hm1.out, ← hm2] at hsb
                  rw [← hm2]
                  replace hm2 := hide hm2
                  replace hsb := hide hsb
                  replace h1 := hide h1
                  replace h2 := hide h2
                  go_wp2_with fail
                  refine hsb.out.mono ?_
                  rintro e w10 ⟨rfl, hE10⟩
                  go_wp2_with fail
                  go_meet
                  case rel => exact ⟨0, rfl, rfl, hide ⟨P, F, A, n, c, R, (hS7.out.move ((hE8.trans hE9).trans hE10)).up (Nat.le_succ _), hwr7.out.ext ((hE8.trans hE9).trans hE10)⟩⟩
          by_cases hkd : kd = 4
          · as_aux_lemma =>
                subst hkd
                have hfx := hok.out.fr
                have hl25 := hS7.out.logs
                have htr := trunc_any w.heap.size d P F fr w7 hS7.out.disk hfx (by omega) hS7.out.ext.size
                have hrr := fun N W (h1 : RS W N A n c R) h2 => rtrunc_any N A n c P R fr W h1 hS7.out.pl h2 hS7.out.armed hfx (by omega)
                have hlen := trunc_len fr (logsM P) P 0
                obtain ⟨Z, hZ⟩ : ∃ Z, Z = truncM fr (logsM P) P 0 := ⟨_, rfl⟩
                rw [← hZ] at htr hlen
                simp only [← hZ] at hrr
                obtain ⟨P2, m2, z2⟩ := Z
                unfold TruncP at htr
                unfold RTruncP rdisk at hrr
                simp only at htr hrr hlen
                replace htr := hide htr
                have hrr2 := hide hrr
                have hlen2 := hide (Nat.le_trans (Nat.le_trans hlen hS7.out.many) (Nat.le_succ _))
                replace hZ := hide hZ
                clear hrr hlen
                go_wp2_with fail
                refine htr.out.mono ?_
                rintro e w8 ⟨rfl, hN⟩
                obtain ⟨F2, hM, hCh⟩ := hS7.out.mid (Ext.refl _) hN hlen2.out
                have hwm0 : WrR w8 b d k (nameW k) := row_disk hwr7.out hS7.out.disk hCh (by decide)
                have hoz := row_disk ho7.out hS7.out.disk hCh (by decide)
                have u3 := hoz.cell 3 rfl
                have y0 : (w8).cell? ⟨rb, 0, none⟩ = some (.slice A n c) := (hM.row).cell 0 rfl
                have y1 : (w8).cell? ⟨rb, 1, none⟩ = some (.int .i64 P.quota) := (hM.row).cell 1 rfl
                have y2 : (w8).cell? ⟨rb, 2, none⟩ = some (.int .i64 P.armed) := (hM.row).cell 2 rfl
                have y3 : (w8).cell? ⟨rb, 3, none⟩ = some (.bool P.stopped) := (hM.row).cell 3 rfl
                have hra3 := hide (hrr2.out (fun k => F2 k ∨ k = rb) w8 hM.rs hM.lt)
                clear hN
                go_wp2_with fail
                refine hra3.out.mono ?_
                rintro e w9 ⟨A1, n1, c1, R1, rfl, hR1, hP1, hE9⟩
                obtain ⟨w10, hw10⟩ : ∃ w10, w10 = w9.alloc (.cells #[.slice A1 n1 c1, .int .i64 P2.quota, .int .i64 P2.armed, .bool P2.stopped] 29) := ⟨_, rfl⟩
                have hE10 : Ext w9 w10 := by rw [hw10]; exact (Ext.refl w9).alloc _
                have hx10 : Row w10 w9.heap.size 29 #[.slice A1 n1 c1, .int .i64 P2.quota, .int .i64 P2.armed, .bool P2.stopped] := by rw [hw10]; exact Row.new w9 _ _
                go_upto_region 31 with (fail)
                rw [← hw10]
                replace hw10 := hide hw10
                have hE3 := hE9.trans hE10
                have hwm := hwm0
                replace hR1 := hR1.ext hE10
                have v0 : (w10).cell? ⟨w9.heap.size, 0, none⟩ = some (.slice A1 n1 c1) := (hx10).cell 0 rfl
                have v1 : (w10).cell? ⟨w9.heap.size, 1, none⟩ = some (.int .i64 P2.quota) := (hx10).cell 1 rfl
                have v2 : (w10).cell? ⟨w9.heap.size, 2, none⟩ = some (.int .i64 P2.armed) := (hx10).cell 2 rfl
                have v3 : (w10).cell? ⟨w9.heap.size, 3, none⟩ = some (.bool P2.stopped) := (hx10).cell 3 rfl
                have hfin := hM.done hR1 hP1 hE3
                have hwf : WrR ((((w10.setCell ⟨rb, 0, none⟩ (.slice A1 n1 c1)).setCell ⟨rb, 1, none⟩ (.int .i64 P2.quota)).setCell ⟨rb, 2, none⟩ (.int .i64 P2.armed)).setCell ⟨rb, 3, none⟩ (.bool P2.stopped)) b d k (nameW k) := (sets_chg w10 rb _ _ _ _).row (hwm.ext hE3) fun he => by
                  subst he
                  exact Row.unlike hwm hM.row (by decide) rfl
                have hfin2 := hide (show RqP w d rb b k (i + 1) ((((w10.setCell ⟨rb, 0, none⟩ (.slice A1 n1 c1)).setCell ⟨rb, 1, none⟩ (.int .i64 P2.quota)).setCell ⟨rb, 2, none⟩ (.int .i64 P2.armed)).setCell ⟨rb, 3, none⟩ (.bool P2.stopped)) from ⟨P2, F2, A1, n1, c1, R1, hfin, hwf⟩)
                have hM3 := hM.move hE3
                have g0 : (w10).cell? ⟨rb, 0, none⟩ = some (.slice A n c) := (hM3.row).cell 0 rfl
                have g1 : (w10).cell? ⟨rb, 1, none⟩ = some (.int .i64 P.quota) := (hM3.row).cell 1 rfl
                have g2 : (w10).cell? ⟨rb, 2, none⟩ = some (.int .i64 P.armed) := (hM3.row).cell 2 rfl
                have g3 : (w10).cell? ⟨rb, 3, none⟩ = some (.bool P.stopped) := (hM3.row).cell 3 rfl
                have f0 := (hM3.row).free 0
                have f1 := (hM3.row).free 1
                have f2 := (hM3.row).free 2
                have f3 := (hM3.row).free 3
                clear hfin hwf hM3 y0 y1 y2 y3
                go_wp2_with fail
                go_meet
                case rel => exact ⟨0, rfl, rfl, hfin2⟩
          by_cases hkd : kd = 5
          · as_aux_lemma =>
                subst hkd
                have hkk := hok.out
                obtain ⟨m, hm⟩ : ∃ m : Nat, m = min ob.length 50 := ⟨_, rfl⟩
                have hmin := run_min2 (P := Tryz.prog) #[3, 3] 3 (x := (ob.length : Int)) (y := 50) (m := (m : Int)) (by omega)
                obtain ⟨kB, hcut, hkB⟩ := run_headU (n := ob.length) (c := bc) (k := m) (A := bA) (by have := hkk.bcap; simp only at this; omega)
                have hb : Bs w kB (ob.take m) := bs_take hkk.br (fun hne => hkB fun a ha => (hkk.ba hne a ha).2) m
                have hbl : m = (ob.take m).length := by rw [List.length_take]; omega
                have hba : ob.take m ≠ [] → ∀ a, kB = some a → a.block < w.heap.size := fun hne a ha => by
                  have hne2 : ob ≠ [] := fun e => hne (by rw [e, List.take_nil])
                  rw [hkB fun a ha => (hkk.ba hne2 a ha).2] at ha
                  exact (hkk.ba hne2 a ha).1
                obtain ⟨bb, hbb⟩ : ∃ bb, bb = ob.take m := ⟨_, rfl⟩
                rw [← hbb] at hb hbl hba
                have hap := append_any0 w.heap.size d P F (nameW k) bb kB m bc w7 hS7.out.disk (by rw [nameW_len]; omega) (hb.ext hE0w.out) (fun hne a ha hF => by have h1 := hba hne a ha; have h2 := hS7.out.disk.base_le hF; omega) hbl (by omega) hS7.out.ext.size
                have hra := fun N W (h1 : RS W N A n c R) h2 (h4 : Ext w W) => rappend_any N A n c P R (nameW k) bb kB m bc W h1 hS7.out.pl h2 (by rw [nameW_len]; omega) hS7.out.armed (hb.ext h4) hbl (by omega) hS7.out.quota
                have hlen := append_len P (nameW k) bb
                obtain ⟨Q, hQ⟩ : ∃ Q, Q = appendM P (nameW k) bb := ⟨_, rfl⟩
                rw [← hQ] at hap hlen
                simp only [← hQ] at hra
                obtain ⟨P2, z0⟩ := Q
                simp only at hap hra hlen
                unfold str at hap
                unfold RNext rdisk str at hra
                replace hap := hide hap
                have hra2 := hide hra
                have hlen2 := hide (Nat.le_trans hlen (Nat.succ_le_succ hS7.out.many))
                replace hQ := hide hQ
                replace hbb := hide hbb
                replace hm := hide hm
                clear hra hlen hb hba hkB hkk
                replace hbl := hide hbl
                go_wp2_with fail
                refine hap.out.mono ?_
                rintro e w9 ⟨rfl, hN⟩
                obtain ⟨F2, hM, hCh⟩ := hS7.out.mid (Ext.refl _) hN hlen2.out
                have hwm : WrR w9 b d k (nameW k) := row_disk hwr7.out hS7.out.disk hCh (by decide)
                have y0 : (w9).cell? ⟨rb, 0, none⟩ = some (.slice A n c) := (hM.row).cell 0 rfl
                have y1 : (w9).cell? ⟨rb, 1, none⟩ = some (.int .i64 P.quota) := (hM.row).cell 1 rfl
                have y2 : (w9).cell? ⟨rb, 2, none⟩ = some (.int .i64 P.armed) := (hM.row).cell 2 rfl
                have y3 : (w9).cell? ⟨rb, 3, none⟩ = some (.bool P.stopped) := (hM.row).cell 3 rfl
                have hra3 := hide (hra2.out (fun k => F2 k ∨ k = rb) w9 hM.rs hM.lt hM.ext)
                clear hN
                go_wp2_with fail
                refine hra3.out.mono ?_
                rintro e w10 ⟨A1, n1, c1, R1, rfl, hR1, hP1, hE3⟩
                have hfin := hM.done hR1 hP1 hE3
                have hwf : WrR ((((w10.setCell ⟨rb, 0, none⟩ (.slice A1 n1 c1)).setCell ⟨rb, 1, none⟩ (.int .i64 P2.quota)).setCell ⟨rb, 2, none⟩ (.int .i64 P2.armed)).setCell ⟨rb, 3, none⟩ (.bool P2.stopped)) b d k (nameW k) := (sets_chg w10 rb _ _ _ _).row (hwm.ext hE3) fun he => by
                  subst he
                  exact Row.unlike hwm hM.row (by decide) rfl
                have hfin2 := hide (show RqP w d rb b k (i + 1) ((((w10.setCell ⟨rb, 0, none⟩ (.slice A1 n1 c1)).setCell ⟨rb, 1, none⟩ (.int .i64 P2.quota)).setCell ⟨rb, 2, none⟩ (.int .i64 P2.armed)).setCell ⟨rb, 3, none⟩ (.bool P2.stopped)) from ⟨P2, F2, A1, n1, c1, R1, hfin, hwf⟩)
                have hM3 := hM.move hE3
                have g0 : (w10).cell? ⟨rb, 0, none⟩ = some (.slice A n c) := (hM3.row).cell 0 rfl
                have g1 : (w10).cell? ⟨rb, 1, none⟩ = some (.int .i64 P.quota) := (hM3.row).cell 1 rfl
                have g2 : (w10).cell? ⟨rb, 2, none⟩ = some (.int .i64 P.armed) := (hM3.row).cell 2 rfl
                have g3 : (w10).cell? ⟨rb, 3, none⟩ = some (.bool P.stopped) := (hM3.row).cell 3 rfl
                have f0 := (hM3.row).free 0
                have f1 := (hM3.row).free 1
                have f2 := (hM3.row).free 2
                have f3 := (hM3.row).free 3
                clear hfin hwf hM3 y0 y1 y2 y3
                go_wp2_with fail
                go_meet
                case rel => exact ⟨0, rfl, rfl, hfin2⟩
          by_cases hkd : kd = 6
          · as_aux_lemma =>
                subst hkd
                have har := arm_any w.heap.size d P F (nn : Int) w7 hS7.out.disk (by omega)
                have hra := fun W => rarm_any A n c P.quota P.armed P.stopped (nn : Int) W
                obtain ⟨P2, hP2⟩ : ∃ P2 : PD, P2 = { P with armed := (nn : Int).toNat } := ⟨_, rfl⟩
                have hlen2 : P2.L.length ≤ i + 1 := by rw [hP2]; exact Nat.le_trans hS7.out.many (Nat.le_succ _)
                have hpl : R.map RE.pl = P2.L := by rw [hP2]; exact hS7.out.pl
                rw [← hP2] at har
                have hra' : ∀ W, Calls Tryz.prog 22 #[rdisk A n c P.quota P.armed P.stopped, .int .i64 (nn : Int)] W fun e w' => e = .returned (rdisk A n c P2.quota P2.armed P2.stopped) ∧ Ext W w' := by rw [hP2]; exact hra
                unfold rdisk at hra'
                replace har := hide har
                replace hra' := hide hra'
                replace hP2 := hide hP2
                clear hra
                go_wp2_with fail
                refine har.out.mono ?_
                rintro e w9 ⟨rfl, hN⟩
                obtain ⟨F2, hM, hCh⟩ := hS7.out.mid (Ext.refl _) hN hlen2
                have hwm : WrR w9 b d k (nameW k) := row_disk hwr7.out hS7.out.disk hCh (by decide)
                have hoz := row_disk ho7.out hS7.out.disk hCh (by decide)
                have u1 := hoz.cell 1 rfl
                have y0 : (w9).cell? ⟨rb, 0, none⟩ = some (.slice A n c) := (hM.row).cell 0 rfl
                have y1 : (w9).cell? ⟨rb, 1, none⟩ = some (.int .i64 P.quota) := (hM.row).cell 1 rfl
                have y2 : (w9).cell? ⟨rb, 2, none⟩ = some (.int .i64 P.armed) := (hM.row).cell 2 rfl
                have y3 : (w9).cell? ⟨rb, 3, none⟩ = some (.bool P.stopped) := (hM.row).cell 3 rfl
                clear hN
                go_wp2_with fail
                refine (hra'.out w9).mono ?_
                rintro e w10 ⟨rfl, hE3⟩
                obtain ⟨A1, n1, c1, R1, hA1, hn1, hc1, hR1e⟩ : ∃ A1 n1 c1 R1, A1 = A ∧ n1 = n ∧ c1 = c ∧ R1 = R := ⟨_, _, _, _, rfl, rfl, rfl, rfl⟩
                have hR1 : RS w10 (fun k => F2 k ∨ k = rb) A1 n1 c1 R1 := by rw [hA1, hn1, hc1, hR1e]; exact hM.rs.ext hE3
                have hP1 : R1.map RE.pl = P2.L := by rw [hR1e]; exact hpl
                rw [← hA1, ← hn1, ← hc1]
                replace hA1 := hide hA1
                replace hn1 := hide hn1
                replace hc1 := hide hc1
                replace hR1e := hide hR1e
                have hfin := hM.done hR1 hP1 hE3
                have hwf : WrR ((((w10.setCell ⟨rb, 0, none⟩ (.slice A1 n1 c1)).setCell ⟨rb, 1, none⟩ (.int .i64 P2.quota)).setCell ⟨rb, 2, none⟩ (.int .i64 P2.armed)).setCell ⟨rb, 3, none⟩ (.bool P2.stopped)) b d k (nameW k) := (sets_chg w10 rb _ _ _ _).row (hwm.ext hE3) fun he => by
                  subst he
                  exact Row.unlike hwm hM.row (by decide) rfl
                have hfin2 := hide (show RqP w d rb b k (i + 1) ((((w10.setCell ⟨rb, 0, none⟩ (.slice A1 n1 c1)).setCell ⟨rb, 1, none⟩ (.int .i64 P2.quota)).setCell ⟨rb, 2, none⟩ (.int .i64 P2.armed)).setCell ⟨rb, 3, none⟩ (.bool P2.stopped)) from ⟨P2, F2, A1, n1, c1, R1, hfin, hwf⟩)
                have hM3 := hM.move hE3
                have g0 : (w10).cell? ⟨rb, 0, none⟩ = some (.slice A n c) := (hM3.row).cell 0 rfl
                have g1 : (w10).cell? ⟨rb, 1, none⟩ = some (.int .i64 P.quota) := (hM3.row).cell 1 rfl
                have g2 : (w10).cell? ⟨rb, 2, none⟩ = some (.int .i64 P.armed) := (hM3.row).cell 2 rfl
                have g3 : (w10).cell? ⟨rb, 3, none⟩ = some (.bool P.stopped) := (hM3.row).cell 3 rfl
                have f0 := (hM3.row).free 0
                have f1 := (hM3.row).free 1
                have f2 := (hM3.row).free 2
                have f3 := (hM3.row).free 3
                clear hfin hwf hM3 y0 y1 y2 y3
                go_wp2_with fail
                go_meet
                case rel => exact ⟨0, rfl, rfl, hfin2⟩
          by_cases hkd : kd = 7
          · as_aux_lemma =>
                subst hkd
                have hkk := hok.out
                obtain ⟨m, hm⟩ : ∃ m : Nat, m = min kp.length 8 := ⟨_, rfl⟩
                have hmin := run_min2 (P := Tryz.prog) #[3, 3] 3 (x := (kp.length : Int)) (y := 8) (m := (m : Int)) (by omega)
                obtain ⟨kB, hcut, hkB⟩ := run_headI (n := kp.length) (c := kc) (k := m) (A := kA) (by have := hkk.kc; simp only at this; omega)
                have hkr : Cells w kB ((kp.take m).map I64) := ints_take hkk.kr (fun hne => hkB fun a ha => (hkk.ka hne a ha).2) m
                have hkl : m = (kp.take m).length := by rw [List.length_take]; omega
                have hkb : ∀ k ∈ kp.take m, -9223372036854775808 ≤ k ∧ k ≤ 9223372036854775807 := fun k hk => hkk.kb k (List.mem_of_mem_take hk)
                have hka : kp.take m ≠ [] → ∀ a, kB = some a → a.block < w.heap.size := fun hne a ha => by
                  have hne2 : kp ≠ [] := fun e => hne (by rw [e, List.take_nil])
                  rw [hkB fun a ha => (hkk.ka hne2 a ha).2] at ha
                  exact (hkk.ka hne2 a ha).1
                obtain ⟨ks, hks⟩ : ∃ ks, ks = kp.take m := ⟨_, rfl⟩
                rw [← hks] at hkr hkl hkb hka
                have hre := restart_any0 w.heap.size d P F kB m kc ks w7 hS7.out.disk (hkr.ext hE0w.out) (fun hne a ha hF => by have h1 := hka hne a ha; have h2 := hS7.out.disk.base_le hF; omega) hkl hkb (by omega)
                have hra := fun N W (h1 : RS W N A n c R) h2 (h4 : Ext w W) => rrestart_any N A n c P.quota P.armed P.stopped R kB m kc ks W h1 h2 (hkr.ext h4) hkl hkb (by omega)
                have hlen := restart_len P ks
                have hpl : (keptR R ks).map RE.pl = (restartM P ks).L := by rw [keptR_pl, hS7.out.pl]; rfl
                obtain ⟨P2, hP2⟩ : ∃ P2, P2 = restartM P ks := ⟨_, rfl⟩
                have hq2 : P2.quota = P.quota := by rw [hP2]; rfl
                have ha2 : P2.armed = 0 := by rw [hP2]; rfl
                have hs2 : P2.stopped = false := by rw [hP2]; rfl
                rw [← hP2] at hre hlen hpl
                have hra' : ∀ N W (h1 : RS W N A n c R) (h2 : ∀ k, N k → k < W.heap.size) (h4 : Ext w W), Calls Tryz.prog 24 #[rdisk A n c P.quota P.armed P.stopped, .slice kB m kc] W fun e w' => ∃ A1 n1 c1, e = .returned (rdisk A1 n1 c1 P2.quota P2.armed P2.stopped) ∧ RS w' N A1 n1 c1 (keptR R ks) ∧ Ext W w' := by
                  rw [hq2, ha2, hs2]
                  exact hra
                unfold rdisk at hra'
                replace hre := hide hre
                replace hra' := hide hra'
                replace hP2 := hide hP2
                replace hks := hide hks
                replace hm := hide hm
                replace hkl := hide hkl
                replace hpl := hide hpl
                have hlen2 := hide (show P2.L.length ≤ i + 1 by rw [hlen]; exact Nat.le_trans hS7.out.many (Nat.le_succ _))
                clear hra hlen hq2 ha2 hs2 hkr hkb hka hkB hkk
                go_wp2_with fail
                refine hre.out.mono ?_
                rintro e w9 ⟨rfl, hN⟩
                obtain ⟨F2, hM, hCh⟩ := hS7.out.mid (Ext.refl _) hN hlen2.out
                have hwm : WrR w9 b d k (nameW k) := row_disk hwr7.out hS7.out.disk hCh (by decide)
                have y0 : (w9).cell? ⟨rb, 0, none⟩ = some (.slice A n c) := (hM.row).cell 0 rfl
                have y1 : (w9).cell? ⟨rb, 1, none⟩ = some (.int .i64 P.quota) := (hM.row).cell 1 rfl
                have y2 : (w9).cell? ⟨rb, 2, none⟩ = some (.int .i64 P.armed) := (hM.row).cell 2 rfl
                have y3 : (w9).cell? ⟨rb, 3, none⟩ = some (.bool P.stopped) := (hM.row).cell 3 rfl
                have hra3 := hide (hra'.out (fun k => F2 k ∨ k = rb) w9 hM.rs hM.lt hM.ext)
                clear hN
                go_wp2_with fail
                refine hra3.out.mono ?_
                rintro e w10 ⟨A1, n1, c1, rfl, hR1, hE3⟩
                obtain ⟨R1, hR1e⟩ : ∃ R1, R1 = keptR R ks := ⟨_, rfl⟩
                have hP1 : R1.map RE.pl = P2.L := by rw [hR1e]; exact hpl.out
                rw [← hR1e] at hR1
                replace hR1e := hide hR1e
                have hfin := hM.done hR1 hP1 hE3
                have hwf : WrR ((((w10.setCell ⟨rb, 0, none⟩ (.slice A1 n1 c1)).setCell ⟨rb, 1, none⟩ (.int .i64 P2.quota)).setCell ⟨rb, 2, none⟩ (.int .i64 P2.armed)).setCell ⟨rb, 3, none⟩ (.bool P2.stopped)) b d k (nameW k) := (sets_chg w10 rb _ _ _ _).row (hwm.ext hE3) fun he => by
                  subst he
                  exact Row.unlike hwm hM.row (by decide) rfl
                have hfin2 := hide (show RqP w d rb b k (i + 1) ((((w10.setCell ⟨rb, 0, none⟩ (.slice A1 n1 c1)).setCell ⟨rb, 1, none⟩ (.int .i64 P2.quota)).setCell ⟨rb, 2, none⟩ (.int .i64 P2.armed)).setCell ⟨rb, 3, none⟩ (.bool P2.stopped)) from ⟨P2, F2, A1, n1, c1, R1, hfin, hwf⟩)
                have hM3 := hM.move hE3
                have g0 : (w10).cell? ⟨rb, 0, none⟩ = some (.slice A n c) := (hM3.row).cell 0 rfl
                have g1 : (w10).cell? ⟨rb, 1, none⟩ = some (.int .i64 P.quota) := (hM3.row).cell 1 rfl
                have g2 : (w10).cell? ⟨rb, 2, none⟩ = some (.int .i64 P.armed) := (hM3.row).cell 2 rfl
                have g3 : (w10).cell? ⟨rb, 3, none⟩ = some (.bool P.stopped) := (hM3.row).cell 3 rfl
                have f0 := (hM3.row).free 0
                have f1 := (hM3.row).free 1
                have f2 := (hM3.row).free 2
                have f3 := (hM3.row).free 3
                clear hfin hwf hM3 y0 y1 y2 y3
                go_wp2_with fail
                go_meet
                case rel => exact ⟨0, rfl, rfl, hfin2⟩
          go_wp2_with fail
          go_meet
          case rel => exact ⟨0, rfl, rfl, hide ⟨P, F, A, n, c, R, hS7.out.up (Nat.le_succ _), hwr7.out⟩⟩
        case rest =>
          as_aux_lemma =>
              obtain ⟨z, rfl, rfl, hrq⟩ := hcut
              obtain ⟨P2, F2, A2, n2, c2, R2, hS2, hw2⟩ := hrq.out
              obtain ⟨q2, hq2⟩ : ∃ q, q = P2.quota := ⟨_, rfl⟩
              obtain ⟨ar2, har2⟩ : ∃ q, q = P2.armed := ⟨_, rfl⟩
              obtain ⟨st2, hst2⟩ : ∃ q, q = P2.stopped := ⟨_, rfl⟩
              have hrow2 : Row wc rb 29 #[.slice A2 n2 c2, .int .i64 q2, .int .i64 ar2, .bool st2] := by rw [hq2, har2, hst2]; exact hS2.row
              have hX : ∀ x, (x.cell? ⟨rb, 0, none⟩ = some (.slice A2 n2 c2) ∧ x.cell? ⟨rb, 1, none⟩ = some (.int .i64 q2) ∧ x.cell? ⟨rb, 2, none⟩ = some (.int .i64 ar2) ∧ x.cell? ⟨rb, 3, none⟩ = some (.bool st2) ∧ Ext wc x) → Ext wc x := fun x h => h.2.2.2.2
              have hkp : ∀ w0 w1 : World, (w0.cell? ⟨rb, 0, none⟩ = some (.slice A2 n2 c2) ∧ w0.cell? ⟨rb, 1, none⟩ = some (.int .i64 q2) ∧ w0.cell? ⟨rb, 2, none⟩ = some (.int .i64 ar2) ∧ w0.cell? ⟨rb, 3, none⟩ = some (.bool st2) ∧ Ext wc w0) → Ext w0 w1 → (w1.cell? ⟨rb, 0, none⟩ = some (.slice A2 n2 c2) ∧ w1.cell? ⟨rb, 1, none⟩ = some (.int .i64 q2) ∧ w1.cell? ⟨rb, 2, none⟩ = some (.int .i64 ar2) ∧ w1.cell? ⟨rb, 3, none⟩ = some (.bool st2) ∧ Ext wc w1) := fun w0 w1 h1 h3 => ⟨h3.cell h1.1, h3.cell h1.2.1, h3.cell h1.2.2.1, h3.cell h1.2.2.2.1, h1.2.2.2.2.trans h3⟩
              have hS0 : wc.drew.cell? ⟨rb, 0, none⟩ = some (.slice A2 n2 c2) ∧ wc.drew.cell? ⟨rb, 1, none⟩ = some (.int .i64 q2) ∧ wc.drew.cell? ⟨rb, 2, none⟩ = some (.int .i64 ar2) ∧ wc.drew.cell? ⟨rb, 3, none⟩ = some (.bool st2) ∧ Ext wc wc.drew := ⟨hrow2.cell 0 rfl, hrow2.cell 1 rfl, hrow2.cell 2 rfl, hrow2.cell 3 rfl, (Ext.refl wc).drew⟩
              have hS1 : wc.cell? ⟨rb, 0, none⟩ = some (.slice A2 n2 c2) ∧ wc.cell? ⟨rb, 1, none⟩ = some (.int .i64 q2) ∧ wc.cell? ⟨rb, 2, none⟩ = some (.int .i64 ar2) ∧ wc.cell? ⟨rb, 3, none⟩ = some (.bool st2) ∧ Ext wc wc := ⟨hrow2.cell 0 rfl, hrow2.cell 1 rfl, hrow2.cell 2 rfl, hrow2.cell 3 rfl, Ext.refl wc⟩
              have hnum : ∀ x, (x.cell? ⟨rb, 0, none⟩ = some (.slice A2 n2 c2) ∧ x.cell? ⟨rb, 1, none⟩ = some (.int .i64 q2) ∧ x.cell? ⟨rb, 2, none⟩ = some (.int .i64 ar2) ∧ x.cell? ⟨rb, 3, none⟩ = some (.bool st2) ∧ Ext wc x) → Calls Tryz.prog 25 #[.pointer (some ⟨b, 0, none⟩)] x fun e w' => e = .returned (.int .i64 (k : Int)) ∧ w' = x := fun x h => wnumber_any b d k (nameW k) x (hw2.ext (hX x h))
              have hsz : ∀ x, (x.cell? ⟨rb, 0, none⟩ = some (.slice A2 n2 c2) ∧ x.cell? ⟨rb, 1, none⟩ = some (.int .i64 q2) ∧ x.cell? ⟨rb, 2, none⟩ = some (.int .i64 ar2) ∧ x.cell? ⟨rb, 3, none⟩ = some (.bool st2) ∧ Ext wc x) → Calls Tryz.prog 26 #[.pointer (some ⟨b, 0, none⟩)] x fun e w' => e = .returned (.int .i64 (sizeM P2 (nameW k)).1) ∧ Ext x w' := fun x h => wsize_any w.heap.size b d k P2 F2 (nameW k) x (hw2.ext (hX x h)) (hS2.disk.ext (hX x h)) (by rw [nameW_len]; omega)
              have hrsz : ∀ x, (x.cell? ⟨rb, 0, none⟩ = some (.slice A2 n2 c2) ∧ x.cell? ⟨rb, 1, none⟩ = some (.int .i64 q2) ∧ x.cell? ⟨rb, 2, none⟩ = some (.int .i64 ar2) ∧ x.cell? ⟨rb, 3, none⟩ = some (.bool st2) ∧ Ext wc x) → Calls Tryz.prog 27 #[rdisk A2 n2 c2 q2 ar2 st2, .int .i64 (k : Int)] x fun e w' => e = .returned (.int .i64 (sizeM P2 (nameW k)).1) ∧ Ext x w' := fun x h => by
                rw [hq2, har2, hst2]
                exact rwsize_any _ A2 n2 c2 P2 R2 k x (hS2.rs.ext (hX x h)) hS2.pl (by omega)
              have hsd : ∀ x, (x.cell? ⟨rb, 0, none⟩ = some (.slice A2 n2 c2) ∧ x.cell? ⟨rb, 1, none⟩ = some (.int .i64 q2) ∧ x.cell? ⟨rb, 2, none⟩ = some (.int .i64 ar2) ∧ x.cell? ⟨rb, 3, none⟩ = some (.bool st2) ∧ Ext wc x) → Calls Tryz.prog 28 #[.pointer (some ⟨d, 0, none⟩), rdisk A2 n2 c2 q2 ar2 st2] x fun e w' => e = .returned (.bool true) ∧ Ext x w' := fun x h => by
                rw [hq2, har2, hst2]
                exact samedisk_any w.heap.size d P2 F2 _ A2 n2 c2 R2 x (hS2.disk.ext (hX x h)) (hS2.rs.ext (hX x h)) hS2.pl
              have hlg : ∀ x, (x.cell? ⟨rb, 0, none⟩ = some (.slice A2 n2 c2) ∧ x.cell? ⟨rb, 1, none⟩ = some (.int .i64 q2) ∧ x.cell? ⟨rb, 2, none⟩ = some (.int .i64 ar2) ∧ x.cell? ⟨rb, 3, none⟩ = some (.bool st2) ∧ Ext wc x) → Calls Tryz.prog 30 #[.pointer (some ⟨d, 0, none⟩)] x fun e w' => ∃ A5 c5, e = .returned (.slice A5 (logsM P2).length c5) ∧ Hid (Cells w' A5 (nats (logsM P2))) ∧ Ext x w' := fun x h =>
                (logs_any w.heap.size d P2 F2 x (hS2.disk.ext (hX x h))).mono (by rintro e w' ⟨A5, c5, rfl, h5, h6⟩; exact ⟨A5, c5, rfl, hide (Cells.of_own h5), h6⟩)
              have hrlg : ∀ x, (x.cell? ⟨rb, 0, none⟩ = some (.slice A2 n2 c2) ∧ x.cell? ⟨rb, 1, none⟩ = some (.int .i64 q2) ∧ x.cell? ⟨rb, 2, none⟩ = some (.int .i64 ar2) ∧ x.cell? ⟨rb, 3, none⟩ = some (.bool st2) ∧ Ext wc x) → Calls Tryz.prog 31 #[rdisk A2 n2 c2 q2 ar2 st2] x fun e w' => ∃ A5 c5, e = .returned (.slice A5 (logsM P2).length c5) ∧ Hid (Cells w' A5 (nats (logsM P2))) ∧ Ext x w' := fun x h => by
                rw [hq2, har2, hst2]
                exact (rlogs_any _ A2 n2 c2 P2 R2 x (hS2.rs.ext (hX x h)) hS2.pl).mono (by rintro e w' ⟨A5, c5, rfl, h5, h6⟩; exact ⟨A5, c5, rfl, hide (Cells.of_own h5), h6⟩)
              have hl2 := hS2.logs
              have hsi : ∀ x1 x2 A5 c5 A6 c6, Hid (Cells x1 A5 (nats (logsM P2))) → Hid (Cells x2 A6 (nats (logsM P2))) → Ext x1 x2 → Calls Tryz.prog 29 #[.slice A5 (logsM P2).length c5, .slice A6 (logsM P2).length c6] x2 fun e w' => e = .returned (.bool true) ∧ Ext x2 w' := fun x1 x2 A5 c5 A6 c6 h5 h6 hE =>
                sameints_any A5 A6 _ c5 c6 (logsM P2) x2 rfl (h5.out.ext hE) h6.out (by omega)
              obtain ⟨L2, hL2⟩ : ∃ L, L = (logsM P2).length := ⟨_, rfl⟩
              obtain ⟨sz, hsze⟩ : ∃ s, s = (sizeM P2 (nameW k)).1 := ⟨_, rfl⟩
              simp only [← hL2] at hlg hrlg hsi
              simp only [← hsze] at hsz hrsz
              unfold rdisk at hrsz hsd hrlg
              replace hL2 := hide hL2
              replace hsze := hide hsze
              replace hkp := hide hkp
              replace hS0 := hide hS0
              replace hS1 := hide hS1
              replace hnum := hide hnum
              replace hsz := hide hsz
              replace hrsz := hide hrsz
              replace hsd := hide hsd
              replace hlg := hide hlg
              replace hrlg := hide hrlg
              replace hsi := hide hsi
              replace hq2 := hide hq2
              replace har2 := hide har2
              replace hst2 := hide hst2
              clear hX hrow2 hl2 x0 x1 x2 x3 x4 x5 x6
              go_wp2_with fail
              go_region_held3 (fun x => x.cell? ⟨rb, 0, none⟩ = some (.slice A2 n2 c2) ∧ x.cell? ⟨rb, 1, none⟩ = some (.int .i64 q2) ∧ x.cell? ⟨rb, 2, none⟩ = some (.int .i64 ar2) ∧ x.cell? ⟨rb, 3, none⟩ = some (.bool st2) ∧ Ext wc x) (first | exact hS0.out | exact hS1.out | exact ‹_› | exact hkp.out _ _ ‹_› ‹_›) (first
                | (go_at_call 25; refine (hnum.out _ ‹_›).mono ?_; rintro e w20 ⟨rfl, rfl⟩)
                | (go_at_call 26; refine (hsz.out _ ‹_›).mono ?_; rintro e w21 ⟨rfl, hE21⟩)
                | (go_at_call 27; refine (hrsz.out _ ‹_›).mono ?_; rintro e w22 ⟨rfl, hE22⟩)
                | (go_at_call 28; refine (hsd.out _ ‹_›).mono ?_; rintro e w23 ⟨rfl, hE23⟩)
                | (go_at_call 30; refine (hlg.out _ ‹_›).mono ?_; rintro e w24 ⟨A5, c5, rfl, hL5, hE24⟩)
                | (go_at_call 31; refine (hrlg.out _ ‹_›).mono ?_; rintro e w25 ⟨A6, c6, rfl, hL6, hE25⟩)
                | (go_at_call 29; refine (hsi.out _ _ _ _ _ _ hL5 hL6 ‹_›).mono ?_; rintro e w26 ⟨rfl, hE26⟩))
              go_wp2_with fail
              go_roundw
              case rel => exact ⟨i + 1, by go_num, by omega, hide ⟨P2, F2, A2, n2, c2, R2, hS2.move (((((((Ext.refl wc).drew.trans hE21).trans hE22).trans hE23).trans hE24).trans hE25).trans hE26)⟩⟩
              case measure => simp [intOf]; omega
      · by_cases hin : i < n0
        case' pos => have hi25 : ¬ (i : Int) < 25 := by omega
        all_goals
          clear hgo
          go_wp2_with fail
          go_ret
          obtain ⟨_, _, _, _, _, _, hS⟩ := hinv.out
          exact ⟨rfl, hS.ext⟩
end Go.Proofs.YtohphanbnhiodaaGreat

/- Events that came in: opening. -/
namespace Go.Proofs.YtohphanbnhiodaaGreat
open Go.ChangeShapes Go.WideShapes Go.Deep Go.RowKit

section
variable {H : Type} {enc : TypeId × Value → H} {w : World} {base : Nat} {spare : Nat → Bool} {held : Bool}
theorem str_list {s : ByteArray} (h : s.size ≤ maxLen) : Value.string s = strV s.data.toList ∧ s.data.toList.length ≤ 9223372036854775807 := by
  refine ⟨(strV_bytes s).symm, ?_⟩
  unfold maxLen at h
  rw [Array.length_toList]
  exact h
set_option maxRecDepth 100000 in
theorem in_fd {fuel : Nat} {cs : List Value} {y : DataW H × List MemPlace} (hcl : cs.length = 2) (h : DataW.trod enc Tryz.prog w base spare held fuel 126 cs = some y) :
    ∃ f : Fd, (f.1.length ≤ 9223372036854775807 ∧ f.2.length ≤ 9223372036854775807) ∧ f.cells = cs := by
  obtain ⟨n, one⟩ := in_fields (tys := #[9, 9]) Tryz.underlying126 (by kernel_rfl) (by kernel_rfl) h
  match cs, hcl with
  | [v0, v1], _ =>
    obtain ⟨z0, h0⟩ := one 0 _ v0 rfl rfl
    obtain ⟨s0, e0, _, w0⟩ := DataW.trod_string Tryz.underlying9 h0
    obtain rfl : v0 = .string s0 := by simpa using e0
    obtain ⟨z1, h1⟩ := one 1 _ v1 rfl rfl
    obtain ⟨s1, e1, _, w1⟩ := DataW.trod_string Tryz.underlying9 h1
    obtain rfl : v1 = .string s1 := by simpa using e1
    refine ⟨(s0.data.toList, s1.data.toList), ⟨(str_list w0).2, (str_list w1).2⟩, ?_⟩
    unfold Fd.cells
    rw [(str_list w0).1, (str_list w1).1]
set_option maxRecDepth 100000 in
theorem in_ev {fuel : Nat} {cs : List Value} {y : DataW H × List MemPlace} (hcl : cs.length = 2) (h : DataW.trod enc Tryz.prog w base spare held fuel 89 cs = some y) :
    ∃ x : EvC, (x.e.Ok w x.A ∧ I64ok' x.e.at_) ∧ x.cells = cs := by
  obtain ⟨n, one⟩ := in_fields (tys := #[3, 87]) Tryz.underlying89 (by kernel_rfl) (by kernel_rfl) h
  match cs, hcl with
  | [v0, v1], _ =>
    obtain ⟨z0, h0⟩ := one 0 _ v0 rfl rfl
    obtain ⟨k0, e0, _, w0⟩ := DataW.trod_int Tryz.underlying3 h0
    obtain rfl : v0 = .int .i64 k0 := by simpa using e0
    obtain ⟨z1, h1⟩ := one 1 _ v1 rfl rfl
    obtain ⟨A, c, fs, rfl, hc, _, _, hl, hfs⟩ := in_row_of (cellsA := Fd.cells) Tryz.underlying87 (by kernel_rfl) (by omega : 0 < 2) (fun _ => rfl) (fun _ _ _ a b => in_fd a b) h1
    exact ⟨⟨⟨k0, fs⟩, A, c⟩, ⟨⟨hc, hl, hfs⟩, wf_i64 w0⟩, rfl⟩
set_option maxRecDepth 100000 in
theorem in_evs {fuel : Nat} {v : Value} {x : DataW H × List MemPlace} (h : DataW.trod enc Tryz.prog w base spare held fuel 78 [v] = some x) :
    ∃ (A : Option Addr) (c : Nat) (l : List EvC), v = .slice A l.length c ∧ EvsOk w A l ∧ l.length ≤ 9223372036854775807 ∧ ∀ x ∈ l, I64ok' x.e.at_ := by
  obtain ⟨A, c, l, rfl, hc, _, _, hl, hx⟩ := in_row_of (cellsA := EvC.cells) Tryz.underlying78 (by kernel_rfl) (by omega : 0 < 2) (fun _ => rfl) (fun _ _ _ a b => in_ev a b) h
  exact ⟨A, c, l, rfl, ⟨hc, fun x hx2 => (hx x hx2).1⟩, hl, fun x hx2 => (hx x hx2).2⟩
end
end Go.Proofs.YtohphanbnhiodaaGreat

/- Batches that came in: opening. -/
namespace Go.Proofs.YtohphanbnhiodaaGreat
open Go.ChangeShapes Go.WideShapes Go.Deep Go.RowKit

section
variable {H : Type} {enc : TypeId × Value → H} {w : World} {base : Nat} {spare : Nat → Bool} {held : Bool}
set_option maxRecDepth 100000 in
theorem in_batch {fuel : Nat} {cs : List Value} {y : DataW H × List MemPlace} (hcl : cs.length = 2) (h : DataW.trod enc Tryz.prog w base spare held fuel 80 cs = some y) :
    ∃ x : BtC, (x.Ok w ∧ ∀ e ∈ x.l, I64ok' e.e.at_) ∧ x.cells = cs := by
  obtain ⟨n, one⟩ := in_fields (tys := #[3, 78]) Tryz.underlying80 (by kernel_rfl) (by kernel_rfl) h
  match cs, hcl with
  | [v0, v1], _ =>
    obtain ⟨z0, h0⟩ := one 0 _ v0 rfl rfl
    obtain ⟨k0, e0, _, w0⟩ := DataW.trod_int Tryz.underlying3 h0
    obtain rfl : v0 = .int .i64 k0 := by simpa using e0
    obtain ⟨z1, h1⟩ := one 1 _ v1 rfl rfl
    obtain ⟨A, c, l, rfl, hl, hn, hx⟩ := in_evs h1
    exact ⟨⟨k0, l, A, c⟩, ⟨⟨hl, hn, wf_i64 w0⟩, hx⟩, rfl⟩
set_option maxRecDepth 100000 in
theorem in_batches {fuel : Nat} {v : Value} {x : DataW H × List MemPlace} (h : DataW.trod enc Tryz.prog w base spare held fuel 33 [v] = some x) :
    ∃ (A : Option Addr) (c : Nat) (l : List BtC), v = .slice A l.length c ∧ Cells w A (l.flatMap BtC.cells) ∧ l.length ≤ 9223372036854775807 ∧ ∀ x ∈ l, x.Ok w ∧ ∀ e ∈ x.l, I64ok' e.e.at_ := by
  obtain ⟨A, c, l, rfl, hc, _, _, hl, hx⟩ := in_row_of (cellsA := BtC.cells) Tryz.underlying33 (by kernel_rfl) (by omega : 0 < 2) (fun _ => rfl) (fun _ _ _ a b => in_batch a b) h
  exact ⟨A, c, l, rfl, hc, hl, hx⟩
end
end Go.Proofs.YtohphanbnhiodaaGreat

/- loggialaw15: a row of calls that came in: opening. -/
namespace Go.Proofs.YtohphanbnhiodaaGreat
open Go.ChangeShapes Go.WideShapes Go.Deep Go.RowKit

section
variable {H : Type} {enc : TypeId × Value → H} {w : World} {base : Nat} {spare : Nat → Bool} {held : Bool}
set_option maxRecDepth 100000 in
theorem in_evx {fuel : Nat} {cs : List Value} {y : DataW H × List MemPlace} (hcl : cs.length = 2) (h : DataW.trod enc Tryz.prog w base spare held fuel 89 cs = some y) :
    ∃ x : EvC, EvX w x ∧ x.cells = cs := by
  obtain ⟨n, one⟩ := in_fields (tys := #[3, 87]) Tryz.underlying89 (by kernel_rfl) (by kernel_rfl) h
  match cs, hcl with
  | [v0, v1], _ =>
    obtain ⟨z0, h0⟩ := one 0 _ v0 rfl rfl
    obtain ⟨k0, e0, _, w0⟩ := DataW.trod_int Tryz.underlying3 h0
    obtain rfl : v0 = .int .i64 k0 := by simpa using e0
    obtain ⟨z1, h1⟩ := one 1 _ v1 rfl rfl
    obtain ⟨A, c, fs, rfl, hc, hs, hcp, hl, hfs⟩ := in_row_of (cellsA := Fd.cells) Tryz.underlying87 (by kernel_rfl) (by omega : 0 < 2) (fun _ => rfl) (fun _ _ _ a b => in_fd a b) h1
    exact ⟨⟨⟨k0, fs⟩, A, c⟩, ⟨⟨hc, hl, hfs⟩, wf_i64 w0, hcp, fun hne a ha => (hs hne a ha).2⟩, rfl⟩
set_option maxRecDepth 100000 in
theorem in_batchx {fuel : Nat} {cs : List Value} {y : DataW H × List MemPlace} (hcl : cs.length = 2) (h : DataW.trod enc Tryz.prog w base spare held fuel 80 cs = some y) :
    ∃ x : BtC, (x.Ok w ∧ ∀ e ∈ x.l, EvX w e) ∧ x.cells = cs := by
  obtain ⟨n, one⟩ := in_fields (tys := #[3, 78]) Tryz.underlying80 (by kernel_rfl) (by kernel_rfl) h
  match cs, hcl with
  | [v0, v1], _ =>
    obtain ⟨z0, h0⟩ := one 0 _ v0 rfl rfl
    obtain ⟨k0, e0, _, w0⟩ := DataW.trod_int Tryz.underlying3 h0
    obtain rfl : v0 = .int .i64 k0 := by simpa using e0
    obtain ⟨z1, h1⟩ := one 1 _ v1 rfl rfl
    obtain ⟨A, c, l, rfl, hc, _, _, hl, hx⟩ := in_row_of (cellsA := EvC.cells) (Q := fun x => EvX w x) Tryz.underlying78 (by kernel_rfl) (by omega : 0 < 2) (fun _ => rfl) (fun _ _ _ a b => in_evx a b) h1
    exact ⟨⟨k0, l, A, c⟩, ⟨⟨⟨hc, fun x hx2 => (hx x hx2).ok⟩, hl, wf_i64 w0⟩, hx⟩, rfl⟩
set_option maxRecDepth 100000 in
theorem in_opw {fuel : Nat} {cs : List Value} {y : DataW H × List MemPlace} (hcl : cs.length = 7) (h : DataW.trod enc Tryz.prog w base spare held fuel 37 cs = some y) :
    ∃ o : OpW, o.Ok w ∧ o.cells = cs := by
  obtain ⟨n, one⟩ := in_fields (tys := #[3, 5, 33, 3, 3, 34, 35]) Tryz.underlying37 (by kernel_rfl) (by kernel_rfl) h
  match cs, hcl with
  | [v0, v1, v2, v3, v4, v5, v6], _ =>
    obtain ⟨z0, h0⟩ := one 0 _ v0 rfl rfl
    obtain ⟨z1, h1⟩ := one 1 _ v1 rfl rfl
    obtain ⟨z2, h2⟩ := one 2 _ v2 rfl rfl
    obtain ⟨z3, h3⟩ := one 3 _ v3 rfl rfl
    obtain ⟨z4, h4⟩ := one 4 _ v4 rfl rfl
    obtain ⟨z5, h5⟩ := one 5 _ v5 rfl rfl
    obtain ⟨z6, h6⟩ := one 6 _ v6 rfl rfl
    obtain ⟨k0, e0, _, w0⟩ := DataW.trod_int Tryz.underlying3 h0
    obtain ⟨k1, e1, _, w1⟩ := DataW.trod_int Tryz.underlying5 h1
    obtain ⟨A2, c2, l2, rfl, C2, _, _, _, x2⟩ := in_row_of (cellsA := BtC.cells) (Q := fun x : BtC => x.Ok w ∧ ∀ e ∈ x.l, EvX w e) Tryz.underlying33 (by kernel_rfl) (by omega : 0 < 2) (fun _ => rfl) (fun _ _ _ a b => in_batchx a b) h2
    obtain ⟨k3, e3, _, w3⟩ := DataW.trod_int Tryz.underlying3 h3
    obtain ⟨k4, e4, _, w4⟩ := DataW.trod_int Tryz.underlying3 h4
    obtain ⟨A5, n5, c5, b5, rfl, l5, C5, p5, q5, m5, w5⟩ := in_ints Tryz.underlying34 Tryz.underlying5 (by kernel_rfl) h5
    obtain ⟨A6, n6, c6, b6, rfl, l6, C6, p6, q6, m6, w6⟩ := in_ints Tryz.underlying35 Tryz.underlying3 (by kernel_rfl) h6
    obtain rfl : v0 = .int .i64 k0 := by simpa using e0
    obtain rfl : v1 = .int .u8 k1 := by simpa using e1
    obtain rfl : v3 = .int .i64 k3 := by simpa using e3
    obtain rfl : v4 = .int .i64 k4 := by simpa using e4
    subst l5 l6
    have u1 := wf_u8 w1
    have hbs : ∀ z ∈ b5, Value.int .u8 z = B8 (UInt8.ofNat z.toNat) := by
      intro z hz
      have := wf_u8 (w5 z hz)
      unfold B8
      rw [UInt8.toNat_ofNat']
      congr 1
      omega
    have hbm : (b5.map fun z => UInt8.ofNat z.toNat).map B8 = b5.map (Value.int .u8) := by
      rw [List.map_map]
      exact List.map_congr_left fun z hz => (hbs z hz).symm
    refine ⟨⟨k0, k1.toNat, l2, A2, c2, k3, k4, b5.map fun z => UInt8.ofNat z.toNat, A5, c5, b6, A6, c6⟩, ⟨?_, C2, x2, wf_i64 w3, wf_i64 w4, ?_, ?_, ?_, C6, p6, q6, fun k hk => wf_i64 (w6 k hk)⟩, ?_⟩
    · show k1.toNat < 256; omega
    · show Bs w A5 _
      unfold Bs
      show Cells w A5 ((b5.map fun z => UInt8.ofNat z.toNat).map B8)
      rw [hbm]
      exact C5
    · exact fun hne => p5 fun e => hne (by show b5.map _ = []; rw [e]; rfl)
    · show (b5.map _).length ≤ c5
      rw [List.length_map]
      exact q5
    · have hk1 : ((k1.toNat : Nat) : Int) = k1 := by omega
      unfold OpW.cells
      simp only [hk1, List.length_map]
set_option maxRecDepth 100000 in
theorem in_opws {fuel : Nat} {v : Value} {x : DataW H × List MemPlace} (h : DataW.trod enc Tryz.prog w base spare held fuel 22 [v] = some x) :
    ∃ (A : Option Addr) (c : Nat) (l : List OpW), v = .slice A l.length c ∧ Cells w A (ocells l) ∧ ∀ o ∈ l, o.Ok w := by
  obtain ⟨A, c, l, rfl, hc, _, _, hl, hx⟩ := in_row_of (cellsA := OpW.cells) (Q := fun o : OpW => o.Ok w) Tryz.underlying22 (by kernel_rfl) (by omega : 0 < 7) (fun _ => rfl) (fun _ _ _ a b => in_opw a b) h
  exact ⟨A, c, l, rfl, hc, hx⟩
end
end Go.Proofs.YtohphanbnhiodaaGreat

