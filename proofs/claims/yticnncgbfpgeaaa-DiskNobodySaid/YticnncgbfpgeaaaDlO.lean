/- loggialaw06: DiskRuns. -/
import Derived.Test.YticnncgbfpgeaaaDlM
namespace Go.Proofs.Yticnncgbfpgeaaa
open Go.RowKit Go.Maps

theorem nm_with {P : PD} (h : Nm P) {f : PF} (hf : namedM f.1 = true) {L : List PF} (hL : ∀ x ∈ L, x ∈ P.L) : ∀ x ∈ withG fname f L, namedM x.1 = true := by
  intro x hx
  rcases mem_with.1 hx with rfl | ⟨hx, _⟩
  · exact hf
  · exact h x (hL x hx)
theorem nm_writes {P : PD} (h : Nm P) (ns : List (List UInt8)) (s : List UInt8) (k : PF → List PF) (hk : ns.all namedM = true → ∀ f ∈ P.L, ∀ x ∈ k f, namedM x.1 = true) : Nm (writesM P ns s k).1 := by
  unfold writesM
  split
  · rename_i ha
    split
    · exact h
    · split
      · rename_i f hf
        split
        · exact h
        · exact hk ha f (find_some hf).1
      · exact h
  · exact h
theorem nm_put {P : PD} (h : Nm P) {f : PF} (hf : namedM f.1 = true) (b : List UInt8) : Nm (putM P f b).1 := by
  unfold putM
  split
  · exact h
  · split
    · exact h
    · split
      · exact h
      · exact nm_with h (f := (f.1, f.2.1 ++ b, f.2.2)) hf fun _ h => h
theorem nm_append {P : PD} (h : Nm P) (s b : List UInt8) : Nm (appendM P s b).1 := by
  unfold appendM
  split
  · rename_i hs
    split
    · exact h
    · split
      · rename_i f hf
        exact nm_put h (h f (find_some hf).1) b
      · split
        · exact h
        · exact nm_put h (f := (s, [], 0)) hs b
  · exact h
theorem Nm.step {P : PD} (h : Nm P) (o : Opr) : Nm (stepM P o) := by
  unfold stepM
  split
  · exact nm_writes h _ _ _ fun _ f hf => nm_with h (f := (f.1, f.2.1, f.2.1.length)) (h f hf) fun _ h => h
  split
  · refine nm_writes h _ _ _ fun ha f hf => nm_with h (f := (o.nto, f.2.1, f.2.2)) ?_ fun _ hx => (mem_without.1 hx).1
    simp only [List.all_cons, Bool.and_eq_true] at ha
    exact ha.1
  split
  · exact nm_writes h _ _ _ fun _ f hf x hx => h x (mem_without.1 hx).1
  split
  · exact h
  split
  · exact h
  split
  · intro f hf
    have hf2 : f ∈ keptM P.L o.keep := hf
    unfold keptM at hf2
    obtain ⟨i, hi, rfl⟩ := List.mem_mapIdx.1 hf2
    exact h P.L[i] (List.getElem_mem hi)
  split
  · split
    · exact h
    · exact h
  split
  · exact h
  · exact nm_append h _ _
def ocells (os : List Opr) : List Value := os.flatMap Opr.cells
theorem ocells_len (R : List Opr) : (ocells R).length = R.length * 7 := by
  unfold ocells
  induction R with
  | nil => rfl
  | cons r R ih => rw [List.flatMap_cons, List.length_append, ih, List.length_cons]; simp [Opr.cells]; omega
theorem ocells_get : ∀ (R : List Opr) (i : Nat) (r : Opr) (k : Nat), R[i]? = some r → k < 7 → (ocells R)[i * 7 + k]? = r.cells[k]?
  | [], i, r, k, h, _ => by simp at h
  | x :: R, 0, r, k, h, hk => by
    obtain rfl : x = r := by simpa using h
    unfold ocells
    rw [List.flatMap_cons, List.getElem?_append_left (by simp [Opr.cells]; omega), Nat.zero_mul, Nat.zero_add]
  | x :: R, i + 1, r, k, h, hk => by
    have h' : R[i]? = some r := by simpa using h
    have ih := ocells_get R i r k h' hk
    unfold ocells at ih ⊢
    rw [List.flatMap_cons, List.getElem?_append_right (by simp [Opr.cells]; omega)]
    have : (i + 1) * 7 + k - x.cells.length = i * 7 + k := by
      have : x.cells.length = 7 := rfl
      omega
    rw [this]
    exact ih
/-- A row of ops lies below base. -/
structure OS (w : World) (base : Nat) (A : Option Addr) (n c : Nat) (os : List Opr) : Prop where
  len : n = os.length
  cells : Cells w A (ocells os)
  away : ∀ a, A = some a → a.block < base
  cap : n ≤ c
  most : n ≤ 9223372036854775807
  ok : ∀ o ∈ os, OOk w base o
theorem OS.ext {w w1 : World} {base : Nat} {A : Option Addr} {n c : Nat} {os : List Opr} (h : OS w base A n c os) (hE : Ext w w1) : OS w1 base A n c os :=
  ⟨h.len, (Chg.of_ext hE (fun _ => False)).cells h.cells fun _ _ h => h, h.away, h.cap, h.most, fun o ho => (h.ok o ho).ext hE⟩
theorem OS.at_ {w : World} {base : Nat} {A : Option Addr} {n c : Nat} {os : List Opr} (h : OS w base A n c os) {i : Nat} (hi : i < n) : ∃ g s o, A = some ⟨g, s, none⟩ ∧ o ∈ os ∧ w.cell? ⟨g, s + i * 7, none⟩ = some (.int .u8 o.kd) ∧ w.cell? ⟨g, s + i * 7 + 1, none⟩ = some (str o.name) ∧ w.cell? ⟨g, s + i * 7 + 2, none⟩ = some (str o.nto) ∧
    w.cell? ⟨g, s + i * 7 + 3, none⟩ = some (.slice o.BA o.b.length o.bc) ∧ w.cell? ⟨g, s + i * 7 + 4, none⟩ = some (.int .i64 o.a) ∧ w.cell? ⟨g, s + i * 7 + 5, none⟩ = some (.int .i64 o.n) ∧ w.cell? ⟨g, s + i * 7 + 6, none⟩ = some (.slice o.KA o.keep.length o.kc) := by
  have hl : i < os.length := by rw [← h.len]; exact hi
  obtain ⟨g, s, hA, hc⟩ := h.cells.at_ (by rw [ocells_len]; omega)
  have hr : os[i]? = some os[i] := List.getElem?_eq_getElem hl
  refine ⟨g, s, os[i], hA, List.getElem_mem hl, ?_, ?_, ?_, ?_, ?_, ?_, ?_⟩
  · exact hc (i * 7 + 0) _ (by rw [ocells_get os i _ 0 hr (by omega)]; rfl)
  · rw [Nat.add_assoc]; exact hc (i * 7 + 1) _ (by rw [ocells_get os i _ 1 hr (by omega)]; rfl)
  · rw [Nat.add_assoc]; exact hc (i * 7 + 2) _ (by rw [ocells_get os i _ 2 hr (by omega)]; rfl)
  · rw [Nat.add_assoc]; exact hc (i * 7 + 3) _ (by rw [ocells_get os i _ 3 hr (by omega)]; rfl)
  · rw [Nat.add_assoc]; exact hc (i * 7 + 4) _ (by rw [ocells_get os i _ 4 hr (by omega)]; rfl)
  · rw [Nat.add_assoc]; exact hc (i * 7 + 5) _ (by rw [ocells_get os i _ 5 hr (by omega)]; rfl)
  · rw [Nat.add_assoc]; exact hc (i * 7 + 6) _ (by rw [ocells_get os i _ 6 hr (by omega)]; rfl)
theorem SPost.to_ext {w w1 w2 : World} {base bb d : Nat} {P P' : PD} {F Q : Nat → Prop} (h : SPost base bb F Q w1 P' w2) (hB : BS w1 base bb d P F Q) (hE : Ext w w1) (hb : base = w.heap.size) : Ext w w2 := by
  obtain ⟨d', F', _, hc, _⟩ := h
  refine ((Chg.of_ext hE (fun k => F k ∨ k = bb)).trans hc fun _ _ h => h).ext fun i hi hk => ?_
  rcases hk with hk | hk
  · have := hB.disk.base_le hk
    omega
  · have := hB.low
    omega
end Go.Proofs.Yticnncgbfpgeaaa

/- loggialaw06: DiskRuns walked. -/
namespace Go.Proofs.Yticnncgbfpgeaaa
open Go.RowKit Go.Maps

set_option maxRecDepth 100000 in
set_option maxHeartbeats 4000000 in
theorem runs_any (os : List Opr) (OA : Option Addr) (n c : Nat) (q : Int) (w : World) (h : OS w w.heap.size OA n c os) (hq : q ≤ 9223372036854775807) :
    Calls Try.prog 6 #[.int .i64 q, .slice OA n c] w fun e w' => e = .returned (.bool true) ∧ Ext w w' := by
  have haw : ∀ W : World, Calls Try.prog 9 #[] W fun e w' => e = .returned (.bool true) ∧ Ext W w' := awake_any
  replace haw := hide haw
  have hmost := h.most
  by_cases hq0 : q < 0
  · have h1 := new_no q w hq0
    have h2 : ∀ W, Calls Try.prog 24 #[.int .i64 q] W fun e w' => e = .returned (rdisk none 0 0 0 0 false |> fun r => .tuple #[r, .int .i64 1]) ∧ Ext W w' := fun W => rnew_no q W hq0
    unfold rdisk at h2
    replace h1 := hide h1
    replace h2 := hide h2
    go_enter Try.func6, Try.ntmps6
    go_wp2_with fail
    refine h1.out.mono ?_
    rintro e w1 ⟨rfl, rfl⟩
    go_wp2_with fail
    refine (h2.out _).mono ?_
    rintro e w2 ⟨rfl, hE2⟩
    go_wp2_with fail
    refine (haw.out _).mono ?_
    rintro e w3 ⟨rfl, hE3⟩
    go_wp2_with fail
    go_ret
    exact ⟨rfl, (hE2.alloc _).trans hE3⟩
  · obtain ⟨qn, rfl⟩ : ∃ qn : Nat, q = qn := ⟨q.toNat, by omega⟩
    have h1 := new_yes w.heap.size qn w (by omega) (Nat.le_refl _)
    have h2 := rnew_yes qn
    unfold rdisk at h2
    replace h1 := hide h1
    replace h2 := hide h2
    go_enter Try.func6, Try.ntmps6
    go_wp2_with fail
    refine h1.out.mono ?_
    rintro e w1 ⟨d, F, rfl, hS1, hF1, hE1⟩
    go_wp2_with fail
    refine (h2.out _).mono ?_
    rintro e w2 ⟨rfl, hE2⟩
    go_wp2_with fail
    refine (haw.out _).mono ?_
    rintro e w3 ⟨rfl, hE3⟩
    have hb7 := (Row.new w2 _ _).ext hE3
    have x0 := hb7.cell 0 rfl
    have x1 := hb7.cell 1 rfl
    have x2 := hb7.cell 2 rfl
    have x3 := hb7.cell 3 rfl
    go_wp2_with fail
    have hE03 : Ext w w3 := ((hE1.trans hE2).alloc _).trans hE3
    obtain ⟨W, hW⟩ : ∃ W, W = w3.alloc (.cells #[.pointer (some ⟨d, 0, none⟩), .slice none 0 0, .int .i64 qn, .int .i64 0, .bool false] 38) := ⟨_, rfl⟩
    rw [← hW]
    have hEW : Ext w3 W := by rw [hW]; exact (Ext.refl w3).alloc _
    have hE0 : Ext w W := hE03.trans hEW
    have hS3 : DS w3 w.heap.size d ⟨[], qn, 0, false⟩ F := ((hS1.ext hE2).ext ((Ext.refl w2).alloc _)).ext hE3
    have hB0 : BS W w.heap.size w3.heap.size d ⟨[], qn, 0, false⟩ F (fun k => k = w3.heap.size) := ⟨hS3.ext hEW, hE03.size, hS3.not_old (Nat.le_refl _), rfl, fun k hk => by subst hk; rw [hW, size_alloc]; omega, none, 0, 0, [], by rw [hW]; exact Row.new _ _ _, RS.nil _ _, rfl⟩
    have hN0 : Nm ⟨[], qn, 0, false⟩ := nofun
    clear x0 x1 x2 x3 hb7 hW
    obtain ⟨bb, hbb⟩ : ∃ bb, bb = w3.heap.size := ⟨_, rfl⟩
    rw [← hbb] at hB0 ⊢
    clear hbb
    go_loopw [10] (fun s10 wr => ∃ (i : Nat) (P : PD) (F : Nat → Prop) (d' : Nat), s10 = .int .i64 i ∧ i ≤ n ∧ i ≤ 60 ∧ Hid (BS wr w.heap.size bb d' P F (fun k => k = bb)) ∧ Hid (Nm P) ∧ Ext w wr) (fun s10 _ => 60 - (intOf s10).toNat)
    case atStart => exact ⟨0, _, F, d, rfl, by omega, by omega, hide hB0, hide hN0, hE0⟩
    case round =>
      obtain ⟨i, P, F', d', rfl, hi, hi6, hB, hN, hE⟩ := hrel
      clear hB0 hN0 hE0 hS3 hS1 hEW
      by_cases hin : i < n
      · by_cases h60 : i < 60
        · obtain ⟨g, s, o, rfl, hom, k0, k1, k2, k3, k4, k5, k6⟩ := (h.ext hE).at_ hin
          have hok := (h.ext hE).ok o hom
          have hsh := short_any w.heap.size o wr hok
          obtain ⟨hok2, l1, l2, l3, l4⟩ := hok.short
          obtain ⟨o2, ho2⟩ : ∃ o2, o2 = o.short := ⟨_, rfl⟩
          rw [← ho2] at hsh hok2 l1 l2 l3 l4
          clear ho2
          unfold Opr.val str at hsh
          unfold str at k1 k2
          replace hsh := hide hsh
          go_wp2_with fail
          refine hsh.out.mono ?_
          rintro e w4 ⟨rfl, hE4⟩
          obtain ⟨W4, hW4⟩ : ∃ W4, W4 = w4.alloc (.cells #[.int .u8 o2.kd, .string ⟨o2.name.toArray⟩, .string ⟨o2.nto.toArray⟩, .slice o2.BA o2.b.length o2.bc, .int .i64 o2.a, .int .i64 o2.n, .slice o2.KA o2.keep.length o2.kc] 41) := ⟨_, rfl⟩
          have hEW4 : Ext wr W4 := by rw [hW4]; exact hE4.alloc _
          have hbx : Row W4 w4.heap.size 41 #[.int .u8 o2.kd, .string ⟨o2.name.toArray⟩, .string ⟨o2.nto.toArray⟩, .slice o2.BA o2.b.length o2.bc, .int .i64 o2.a, .int .i64 o2.n, .slice o2.KA o2.keep.length o2.kc] := by rw [hW4]; exact Row.new _ _ _
          have hBW := hB.out.ext hEW4
          have hst := step_any w.heap.size bb d' P F' _ o2 W4 hBW (hok2.ext hEW4) (by omega) (by omega)
          have hwx := hE4.size
          have hbl : bb < wr.heap.size := by obtain ⟨_, _, _, _, hr, _⟩ := hB.out.ref; exact hr.lt
          have hWx := hide hW4.symm
          clear hW4
          unfold Opr.val str at hst
          replace hst := hide hst
          go_wp2_with fail
          rw [hWx.out]
          refine hst.out.mono ?_
          rintro e w5 ⟨rfl, hSP⟩
          have hEx5 := hSP.to_ext hBW (hE.trans hEW4) rfl
          obtain ⟨d5, F5, hB5, hc5, hF5⟩ := hSP
          have hbx5 := hc5.row hbx fun hk => by
            rcases hk with hk | hk
            · have := hB.out.disk.lt hk
              omega
            · omega
          have z1 := hbx5.cell 1 rfl
          have hsm := same_any w.heap.size bb d5 (stepM P o2) F5 _ o2.name w5 hB5 (hN.out.step o2) (by omega)
          unfold str at hsm
          replace hsm := hide hsm
          replace hc5 := hide hc5
          go_wp2_with fail
          refine hsm.out.mono ?_
          rintro e w6 ⟨rfl, hE6⟩
          go_wp2_with fail
          go_roundw
          case rel => exact ⟨i + 1, stepM P o2, F5, d5, by go_num, by omega, by omega, hide (hB5.ext hE6), hide (hN.out.step o2), hEx5.trans hE6⟩
          case measure => simp [intOf]; omega
        · obtain rfl : i = 60 := by omega
          go_wp2_with fail
          go_ret
          exact ⟨rfl, hE⟩
      · obtain rfl : i = n := by omega
        go_wp2_with fail
        go_ret
        exact ⟨rfl, hE⟩
end Go.Proofs.Yticnncgbfpgeaaa

