/- loggia/disk: Sync, Rename, Remove. -/
import Derived.Test.YtaoolpnnomhnoaaGreatDoorM04
import Derived.Test.YtaoolpnnomhnoaaGreatDoorM02
import Derived.Test.YtaoolpnnomhnoaaGreatDoorM01
import Derived.Test.YtaoolpnnomhnoaaGreatDoorM03
import Derived.Laws.StructEq
import Derived.Deep.QuietTactic
import Derived.BigQuiet
import Derived.Test.YtaoolpnnomhnoaaGreatDoorShelf
set_option linter.unusedSimpArgs false
set_option linter.unusedVariables false
namespace Go.Proofs.YtaoolpnnomhnoaaGreatDoor
open Go.RowKit Go.Maps

set_option maxRecDepth 100000 in
theorem sync1_any (base d m : Nat) (P : PD) (E : List Ent) (e0 : Ent) (w : World) (hD : DE w base d m (P.goes P.L) E) (he : e0 ∈ E) :
    Calls Tryz.prog 62 #[.pointer (some ⟨e0.f, 0, none⟩)] w fun e w' => e = .returned (.tuple #[]) ∧ WPost (Foot d m E) base d m E (P.goes (withG fname (e0.name, e0.b, e0.b.length) P.L)) w w' := by
  have hr := (hD.fs.ok e0 he).row
  have c0 : w.cell? ⟨e0.f, 0, none⟩ = some (.slice e0.A e0.b.length e0.c) := hr.cell 0 rfl
  have c1 : w.cell? ⟨e0.f, 1, none⟩ = some (.int .i64 e0.sure) := hr.cell 1 rfl
  have f1 := hr.free 1
  have fin := sync_end (L := []) hD he
  replace fin := hide fin
  go_enter Tryz.func62, Tryz.ntmps62
  go_wp2_with fail
  go_end0
  exact ⟨rfl, fin.out⟩
theorem calls_fn (k : Nat) (h : ∀ (args : Array Value) (W : World), (callFunc k args).run Tryz.prog W = .ok (.enter k args) W) : ∀ (args : Array Value) (W : World), (callFunc k args).run Tryz.prog W = .ok (.enter k args) W := h
theorem ws_nil {d m : Nat} {E : List Ent} {i : Nat} (h : WS d m E none i) : Foot d m E i := by
  rcases h with h | ⟨a, ha, _⟩
  · exact h
  · cases ha
theorem WPost.mono {S S' : Nat → Prop} {base d m : Nat} {E : List Ent} {P : PD} {w w' : World} (h : WPost S base d m E P w w') (hs : ∀ i, i < w.heap.size → S i → S' i) : WPost S' base d m E P w w' := by
  obtain ⟨E', h1, h2, h3⟩ := h
  exact ⟨E', h1, h2.mono hs, h3⟩
theorem WPost.next {base d m : Nat} {E : List Ent} {P P' : PD} {F : Nat → Prop} {w w1 w' : World} (h : WPost (Foot d m E) base d m E P' w1 w') (hS : DS w base d P F) (hF : ∀ k, F k ↔ Foot d m E k) (he : Ext w w1) : DNext base d F w P' w' := by
  obtain ⟨E', h1, h2, h3⟩ := h
  exact hS.next hF h1 ((Chg.of_ext he (Foot d m E)).trans h2 fun _ _ h => h) fun k hk => (h3 k hk).imp_right fun h => Nat.le_trans he.size h
set_option maxRecDepth 100000 in
theorem sync_any (base d : Nat) (P : PD) (F : Nat → Prop) (s : List UInt8) (w : World) (h : DS w base d P F) (hs : s.length ≤ 9223372036854775807) :
    Calls Tryz.prog 28 #[.pointer (some ⟨d, 0, none⟩), str s] w fun e w' => e = .returned (.int .i64 (syncM P s).2) ∧ DNext base d F w (syncM P s).1 w' := by
  have hS := h
  obtain ⟨m, E, hD, hF⟩ := h
  have hw := writes_any base d m w.heap.size P E s [] 62 #[] (fun f => withG fname (f.1, f.2.1, f.2.1.length) P.L) none 0 0 w hD hs (by simp) rfl (by omega) (Nat.le_refl _) (World.ownsRow_nil _ _ _ _) nofun (fun args W => by kernel_rfl)
    (fun w1 e0 he hn _ hD1 => sync1_any base d m P E e0 w1 hD1 he)
  have hsy : syncM P s = writesM P ([] ++ [s]) s (fun f => withG fname (f.1, f.2.1, f.2.1.length) P.L) := rfl
  rw [← hsy] at hw
  unfold str at hw ⊢
  replace hw := hide hw
  clear hsy
  go_enter Tryz.func28, Tryz.ntmps28
  go_wp2_with fail
  refine hw.out.mono ?_
  rintro e w1 ⟨rfl, h1⟩
  go_wp2_with fail
  go_ret
  exact ⟨rfl, (h1.mono fun i _ hi => ws_nil hi).next hS hF (Ext.refl _)⟩
theorem grown_of_drew {w w1 : World} {r : Option Nat} (h : w.drew.grownBy w1 r) : w.grownBy w1 r := ⟨h.os, h.tape, h.output, h.size, h.block⟩
set_option maxRecDepth 100000 in
theorem remove1_any (base d m bd bn : Nat) (P : PD) (E : List Ent) (s : List UInt8) (w : World) (hD : DE w base d m (P.goes P.L) E) (hs : s.length ≤ 9223372036854775807) (f : Value) (hd : w.cell? ⟨bd, 0, none⟩ = some (.pointer (some ⟨d, 0, none⟩))) (hn : w.cell? ⟨bn, 0, none⟩ = some (str s)) :
    Calls Tryz.prog 92 #[f, .pointer (some ⟨bd, 0, none⟩), .pointer (some ⟨bn, 0, none⟩)] w fun e w' => e = .returned (.tuple #[]) ∧ WPost (Foot d m E) base d m E (P.goes (withoutG fname s P.L)) w w' := by
  obtain ⟨L, hL, hmem, _⟩ := hD.fs.map
  have c0 : w.cell? ⟨d, 0, none⟩ = some (.map (some m)) := Row.cell hD.row 0 rfl
  obtain ⟨L', w1, hrun, hL', hp, hg, _⟩ := hL.drew.delete keyS Tryz.underlying54 (key_str hs) 9 0
  have fin := (drop_end (W := w1) hD hmem hL hL' hp (grown_of_drew hg)).1
  unfold str at hrun hn
  replace fin := hide fin
  clear hL' hp hg hL
  go_enter Tryz.func92, Tryz.ntmps92
  refine wp_region_text follows (by kernel_rfl) (by kernel_rfl) (fun K hK => ?_)
  go_wp2_with fail
  refine ⟨by kernel_rfl, ?_⟩
  go_wp2_with fail
  go_end0
  exact ⟨rfl, fin.out⟩
set_option maxRecDepth 100000 in
set_option maxHeartbeats 1000000 in
theorem rename1_any (base d m bd bs bt : Nat) (P : PD) (E : List Ent) (s t : List UInt8) (e0 : Ent) (w : World) (hD : DE w base d m (P.goes P.L) E) (he : e0 ∈ E) (hn : e0.name = s) (hs : s.length ≤ 9223372036854775807) (ht : t.length ≤ 9223372036854775807)
    (hd : w.cell? ⟨bd, 0, none⟩ = some (.pointer (some ⟨d, 0, none⟩))) (hcs : w.cell? ⟨bs, 0, none⟩ = some (str s)) (hct : w.cell? ⟨bt, 0, none⟩ = some (str t)) (h1 : bd ≠ m ∧ bs ≠ m ∧ bt ≠ m) :
    Calls Tryz.prog 63 #[.pointer (some ⟨e0.f, 0, none⟩), .pointer (some ⟨bd, 0, none⟩), .pointer (some ⟨bs, 0, none⟩), .pointer (some ⟨bt, 0, none⟩)] w fun e w' => e = .returned (.tuple #[]) ∧ WPost (Foot d m E) base d m E (P.goes (withG fname (t, e0.b, e0.sure) (withoutG fname s P.L))) w w' := by
  obtain ⟨L, hL, hmem, _⟩ := hD.fs.map
  have c0 : w.cell? ⟨d, 0, none⟩ = some (.map (some m)) := Row.cell hD.row 0 rfl
  obtain ⟨L1, w1, hrun, hL1, hp, hg, _⟩ := hL.drew.delete keyS Tryz.underlying54 (key_str hs) 9 0
  have hg' := grown_of_drew hg
  have hc : Chg (fun k => k = m) w w1 := Chg.of_grown hg' fun k _ hk => by cases hk; rfl
  obtain ⟨w2, L2, hrun2, hL2, hput, hg2, _⟩ := hL1.drew.update keyS Tryz.underlying54 (key_str ht) (.pointer (some ⟨e0.f, 0, none⟩))
  have d0 : w1.cell? ⟨d, 0, none⟩ = some (.map (some m)) := hc.cell c0 hD.apart.1
  have hd1 : w1.cell? ⟨bd, 0, none⟩ = some (.pointer (some ⟨d, 0, none⟩)) := hc.cell hd h1.1
  have hct1 : w1.cell? ⟨bt, 0, none⟩ = some (str t) := hc.cell hct h1.2.2
  have fin := rename_end hD he hn ht hmem hL hL1 hp hg' hL2 hput (grown_of_drew hg2)
  unfold str at hrun hrun2 hcs hct hct1
  replace fin := hide fin
  replace hn := hide hn
  replace h1 := hide h1
  clear hL1 hp hg hL hL2 hput hg2 hg' hc
  go_enter Tryz.func63, Tryz.ntmps63
  go_wp2_with fail
  refine wp_region_text follows (by kernel_rfl) (by kernel_rfl) (fun K hK => ?_)
  go_wp2_with fail
  refine ⟨by kernel_rfl, ?_⟩
  go_wp2_with fail
  refine wp_region_text follows (by kernel_rfl) (by kernel_rfl) (fun K hK => ?_)
  go_wp2_with fail
  refine ⟨by kernel_rfl, ?_⟩
  go_wp2_with fail
  go_end0
  exact ⟨rfl, fin.out⟩
end Go.Proofs.YtaoolpnnomhnoaaGreatDoor

/- loggia/disk: Rename, Remove. -/
namespace Go.Proofs.YtaoolpnnomhnoaaGreatDoor
open Go.RowKit Go.Maps

theorem cell_alloc (w : World) (v : Value) (t : TypeId) : (w.alloc (.cells #[v] t)).cell? ⟨w.heap.size, 0, none⟩ = some v := by
  rw [cell_of_row _ _ _ _ _ _ (heap_alloc_new w _)]
  rfl
theorem size_alloc (w : World) (o : Obj) : (w.alloc o).heap.size = w.heap.size + 1 := by simp
set_option maxRecDepth 100000 in
theorem remove_any (base d : Nat) (P : PD) (F : Nat → Prop) (s : List UInt8) (w : World) (h : DS w base d P F) (hs : s.length ≤ 9223372036854775807) :
    Calls Tryz.prog 58 #[.pointer (some ⟨d, 0, none⟩), str s] w fun e w' => e = .returned (.int .i64 (removeM P s).2) ∧ DNext base d F w (removeM P s).1 w' := by
  have hS := h
  obtain ⟨m, E, hD0, hF⟩ := h
  obtain ⟨W1, hW1⟩ : ∃ W1, W1 = w.alloc (.cells #[.pointer (some ⟨d, 0, none⟩)] 27) := ⟨_, rfl⟩
  obtain ⟨W2, hW2⟩ : ∃ W2, W2 = W1.alloc (.cells #[str s] 9) := ⟨_, rfl⟩
  have hE1 : Ext w W1 := by rw [hW1]; exact (Ext.refl w).alloc _
  have hE2 : Ext W1 W2 := by rw [hW2]; exact (Ext.refl W1).alloc _
  have hs1 : W1.heap.size = w.heap.size + 1 := by rw [hW1]; exact size_alloc _ _
  have c1 : W1.cell? ⟨w.heap.size, 0, none⟩ = some (.pointer (some ⟨d, 0, none⟩)) := by rw [hW1]; exact cell_alloc _ _ _
  have c2 : W2.cell? ⟨w.heap.size + 1, 0, none⟩ = some (str s) := by rw [hW2, ← hs1]; exact cell_alloc _ _ _
  have c1' := hE2.cell c1
  have hD : DE W2 base d m P E := hD0.chg (Chg.of_ext (hE1.trans hE2) (fun _ => False)) (fun _ h => h.elim)
  have hnf : ∀ k, w.heap.size ≤ k → ¬ Foot d m E k := fun k hk hf => by have := hD0.lt hf; omega
  have hw := writes_any base d m W2.heap.size P E s [] 92 #[.pointer (some ⟨w.heap.size, 0, none⟩), .pointer (some ⟨w.heap.size + 1, 0, none⟩)] (fun _ => withoutG fname s P.L) none 0 0 W2 hD hs (by simp) rfl (by omega) (Nat.le_refl _) (World.ownsRow_nil _ _ _ _) nofun (fun args W => by kernel_rfl)
    (fun w1 e0 he hn hc hD1 => remove1_any base d m _ _ P E s w1 hD1 hs _ (hc.cell c1' fun hk => hnf _ (Nat.le_refl _) (ws_nil hk)) (hc.cell c2 fun hk => hnf _ (Nat.le_succ _) (ws_nil hk)))
  have hsy : removeM P s = writesM P ([] ++ [s]) s (fun _ => withoutG fname s P.L) := rfl
  rw [← hsy] at hw
  have hE := hE1.trans hE2
  rw [hW2, hW1] at hw hE
  unfold str at hw hE ⊢
  replace hw := hide hw
  clear hsy hW1 hW2 c1' c1 c2 hs1 hD hE1 hE2
  go_enter Tryz.func58, Tryz.ntmps58
  go_wp2_with fail
  refine hw.out.mono ?_
  rintro e w1 ⟨rfl, h1⟩
  go_wp2_with fail
  go_ret
  exact ⟨rfl, (h1.mono fun i _ hi => ws_nil hi).next hS hF hE⟩
set_option maxRecDepth 100000 in
theorem rename_any (base d : Nat) (P : PD) (F : Nat → Prop) (s t : List UInt8) (w : World) (h : DS w base d P F) (hs : s.length ≤ 9223372036854775807) (ht : t.length ≤ 9223372036854775807) :
    Calls Tryz.prog 30 #[.pointer (some ⟨d, 0, none⟩), str s, str t] w fun e w' => e = .returned (.int .i64 (renameM P s t).2) ∧ DNext base d F w (renameM P s t).1 w' := by
  have hS := h
  obtain ⟨m, E, hD0, hF⟩ := h
  obtain ⟨W1, hW1⟩ : ∃ W1, W1 = w.alloc (.cells #[.pointer (some ⟨d, 0, none⟩)] 27) := ⟨_, rfl⟩
  obtain ⟨W2, hW2⟩ : ∃ W2, W2 = W1.alloc (.cells #[str s] 9) := ⟨_, rfl⟩
  obtain ⟨W3, hW3⟩ : ∃ W3, W3 = W2.alloc (.cells #[str t] 9) := ⟨_, rfl⟩
  obtain ⟨W4, hW4⟩ : ∃ W4, W4 = W3.alloc (.cells #[str t] 9) := ⟨_, rfl⟩
  have hE1 : Ext w W1 := by rw [hW1]; exact (Ext.refl w).alloc _
  have hE2 : Ext W1 W2 := by rw [hW2]; exact (Ext.refl W1).alloc _
  have hE3 : Ext W2 W3 := by rw [hW3]; exact (Ext.refl W2).alloc _
  have hE4 : Ext W3 W4 := by rw [hW4]; exact (Ext.refl W3).alloc _
  have hs1 : W1.heap.size = w.heap.size + 1 := by rw [hW1]; exact size_alloc _ _
  have hs2 : W2.heap.size = w.heap.size + 2 := by rw [hW2, size_alloc, hs1]
  have hs3 : W3.heap.size = w.heap.size + 3 := by rw [hW3, size_alloc, hs2]
  have hs4 : W4.heap.size = w.heap.size + 4 := by rw [hW4, size_alloc, hs3]
  have c1 : W1.cell? ⟨w.heap.size, 0, none⟩ = some (.pointer (some ⟨d, 0, none⟩)) := by rw [hW1]; exact cell_alloc _ _ _
  have c2 : W2.cell? ⟨w.heap.size + 1, 0, none⟩ = some (str s) := by rw [hW2, ← hs1]; exact cell_alloc _ _ _
  have c3 : W3.cell? ⟨w.heap.size + 2, 0, none⟩ = some (str t) := by rw [hW3, ← hs2]; exact cell_alloc _ _ _
  have c1' := hE4.cell (hE3.cell (hE2.cell c1))
  have c2' := hE4.cell (hE3.cell c2)
  have c3' := hE4.cell c3
  have hE := ((hE1.trans hE2).trans hE3).trans hE4
  have hD : DE W4 base d m P E := hD0.chg (Chg.of_ext hE (fun _ => False)) (fun _ h => h.elim)
  have hnf : ∀ k, w.heap.size ≤ k → k ≠ w.heap.size + 3 → ¬ WS d m E (some ⟨w.heap.size + 3, 0, none⟩) k := by
    rintro k hk hk3 (hf | ⟨a, ha, hf⟩)
    · have := hD0.lt hf; omega
    · cases ha; exact hk3 hf.symm
  have hml : m < w.heap.size := hD0.lt (.inr (.inl rfl))
  have hown : W4.ownsRow (w.heap.size + 3) 9 1 (.slice (some ⟨w.heap.size + 3, 0, none⟩) 1 1) 1 ([t].map str) := by
    refine ⟨rfl, .inr ⟨w.heap.size + 3, 1, #[str t], rfl, Nat.le_refl _, ?_, Nat.le_refl _, by unfold maxLen; omega, rfl, rfl⟩⟩
    rw [hW4, ← hs3]
    exact heap_alloc_new W3 _
  have hw := writes_any base d m (w.heap.size + 3) P E s [t] 63 #[.pointer (some ⟨w.heap.size, 0, none⟩), .pointer (some ⟨w.heap.size + 1, 0, none⟩), .pointer (some ⟨w.heap.size + 2, 0, none⟩)] (fun f => withG fname (t, f.2.1, f.2.2) (withoutG fname s P.L)) (some ⟨w.heap.size + 3, 0, none⟩) 1 1 W4 hD hs (by simpa using ht) rfl (by omega) (by omega) hown
    (by rintro a ha hf; cases ha; have := hD0.lt hf; have : w.heap.size + 3 < w.heap.size := this; omega) (fun args W => by kernel_rfl)
    (fun w1 e0 he hn hc hD1 => rename1_any base d m _ _ _ P E s t e0 w1 hD1 he hn hs ht (hc.cell c1' (hnf w.heap.size (by omega) (by omega))) (hc.cell c2' (hnf (w.heap.size + 1) (by omega) (by omega))) (hc.cell c3' (hnf (w.heap.size + 2) (by omega) (by omega))) ⟨by omega, by omega, by omega⟩)
  have hsy : renameM P s t = writesM P ([t] ++ [s]) s (fun f => withG fname (t, f.2.1, f.2.2) (withoutG fname s P.L)) := rfl
  rw [← hsy] at hw
  have fin : ∀ w1, WPost (WS d m E (some ⟨w.heap.size + 3, 0, none⟩)) base d m E (renameM P s t).1 W4 w1 → DNext base d F w (renameM P s t).1 w1 := by
    rintro w1 ⟨E', h1, h2, h3⟩
    refine hS.next hF h1 ((Chg.of_ext hE (Foot d m E)).trans h2 ?_) fun k hk => (h3 k hk).imp_right fun h => Nat.le_trans hE.size h
    rintro i hi (hf | ⟨a, ha, hf⟩)
    · exact hf
    · cases ha
      have : w.heap.size + 3 = i := hf
      omega
  rw [hW4, hW3, hW2, hW1] at hw fin
  unfold str at hw fin ⊢
  replace hw := hide hw
  replace fin := hide fin
  clear hsy hW1 hW2 hW3 hW4 c1' c1 c2 c2' c3 c3' hs1 hs2 hs3 hs4 hD hE1 hE2 hE3 hE4 hE hown hnf
  go_enter Tryz.func30, Tryz.ntmps30
  go_wp2_with fail
  refine hw.out.mono ?_
  rintro e w1 ⟨rfl, h1⟩
  replace h1 := fin.out w1 h1
  go_wp2_with fail
  go_ret
  exact ⟨rfl, h1⟩
end Go.Proofs.YtaoolpnnomhnoaaGreatDoor

/- loggia/manifest: gone, steps. -/
namespace Go.Proofs.YtaoolpnnomhnoaaGreatDoor
open Go.RowKit Go.Maps

theorem com_len : comN.length ≤ 9223372036854775807 := by decide
theorem cur_len : curN.length ≤ 9223372036854775807 := by decide
set_option maxRecDepth 100000 in
theorem gone_any (base d : Nat) (P : PD) (F : Nat → Prop) (w : World) (h : DS w base d P F) :
    Calls Tryz.prog 24 #[.pointer (some ⟨d, 0, none⟩), .string ⟨comN.toArray⟩] w fun e w' => e = .returned (.int .i64 (goneM P).2) ∧ ∃ wx, Ext w wx ∧ DNext base d F wx (goneM P).1 w' := by
  have hsz := size_any base d P F comN w h com_len
  have hrm := remove_any base d P F comN w h com_len
  unfold str at hsz hrm
  obtain ⟨n, hn⟩ : ∃ n, n = (sizeM P comN).1 := ⟨_, rfl⟩
  rw [← hn] at hsz
  replace hn := hide hn
  cases hs : (sizeM P comN).2 with
  | false =>
    have hg : goneM P = (P, 0) := by unfold goneM; rw [hs]; rfl
    rw [hs] at hsz
    rw [hg]
    replace hsz := hide hsz
    clear hg hs hrm
    go_enter Tryz.func24, Tryz.ntmps24
    go_wp2_with fail
    refine hsz.out.mono ?_
    rintro e w1 ⟨rfl, rfl⟩
    go_wp2_with fail
    go_ret
    exact ⟨rfl, w1, Ext.refl _, F, h, Chg.refl _ _, fun _ h => .inl h⟩
  | true =>
    have hg : goneM P = removeM P comN := by unfold goneM; rw [hs]; rfl
    rw [hs] at hsz
    rw [hg]
    replace hsz := hide hsz
    replace hrm := hide hrm
    clear hg hs
    go_enter Tryz.func24, Tryz.ntmps24
    go_wp2_with fail
    refine hsz.out.mono ?_
    rintro e w1 ⟨rfl, rfl⟩
    go_wp2_with fail
    refine hrm.out.mono ?_
    rintro e w2 ⟨rfl, h2⟩
    go_wp2_with fail
    go_ret
    exact ⟨rfl, w1, Ext.refl _, h2⟩
/-- A step: a function without parameters, what it holds, what it makes of a disk. -/
structure Stp where
  k : FuncId
  caps : Array Value
  f : PD → PD × Nat
def Stp.val (s : Stp) : Value := .func (.func s.k) #[] s.caps
set_option maxRecDepth 100000 in
theorem steps_any (V : World → PD → Prop) (fs : List Stp) (A : Option Addr) (c : Nat) (P : PD) (w : World) (hV : V w P) (hl : fs.length ≤ 100)
    (hc : ∀ x Q, V x Q → Cells x A (fs.map Stp.val)) (hd : ∀ x y Q, V x Q → Ext x y → V y Q)
    (hcf : ∀ s ∈ fs, ∀ (args : Array Value) (W : World), (callFunc s.k args).run Tryz.prog W = .ok (.enter s.k args) W)
    (hk : ∀ s ∈ fs, ∀ x Q, V x Q → Calls Tryz.prog s.k s.caps x fun e w' => e = .returned (.int .i64 (s.f Q).2) ∧ V w' (s.f Q).1) :
    Calls Tryz.prog 22 #[.slice A fs.length c] w fun e w' => e = .returned (.int .i64 (chainM (fs.map Stp.f) P).2) ∧ V w' (chainM (fs.map Stp.f) P).1 := by
  obtain ⟨n, hn⟩ : ∃ n, n = fs.length := ⟨_, rfl⟩
  rw [← hn] at hl ⊢
  replace hV := hide hV
  replace hc := hide hc
  replace hd := hide hd
  replace hcf := hide hcf
  replace hk := hide hk
  replace hn := hide hn
  obtain ⟨Z, hZ⟩ : ∃ Z, Z = chainM (fs.map Stp.f) P := ⟨_, rfl⟩
  rw [← hZ]
  replace hZ := hide hZ
  go_enter Tryz.func22, Tryz.ntmps22
  go_wp2_with fail
  go_loopw [8] (fun s8 wr => ∃ (i : Nat) (Q : PD), s8 = .int .i64 (i : Int) ∧ i ≤ n ∧ Hid (V wr Q) ∧ Hid (Z = chainM ((fs.drop i).map Stp.f) Q)) (fun s8 _ => n - (intOf s8).toNat)
  case atStart => exact ⟨0, P, rfl, by omega, hV, hZ⟩
  case round =>
    clear hV hZ
    obtain ⟨i, Q, rfl, hi, hV, hZ⟩ := hrel
    by_cases hin : i < n
    · obtain ⟨s, hs⟩ : ∃ s, fs[i]? = some s := ⟨_, List.getElem?_eq_getElem (by have := hn.out; omega)⟩
      have hm := List.mem_of_getElem? hs
      obtain ⟨g, f, hA, hcell⟩ := (hc.out wr Q hV.out).at_ (by rw [List.length_map]; have := hn.out; omega)
      subst hA
      have c0 : wr.cell? ⟨g, f + i, none⟩ = some (.func (.func s.k) #[] s.caps) := hcell i _ (by rw [List.getElem?_map, hs]; rfl)
      have hkk := hk.out s hm wr Q hV.out
      have hcf2 := hcf.out s hm s.caps wr
      have hdr : fs.drop i = s :: fs.drop (i + 1) := by
        rw [List.drop_eq_getElem_cons (by have := hn.out; omega)]
        congr 1
        have := List.getElem?_eq_getElem (l := fs) (i := i) (by have := hn.out; omega)
        rw [hs] at this
        injection this with this
        exact this.symm
      have hZ2 := hZ.out
      rw [hdr, List.map_cons] at hZ2
      clear hcell hm hs hdr
      obtain ⟨k, caps, φ⟩ := s
      simp only at c0 hkk hcf2 hZ2
      obtain ⟨R, hR⟩ : ∃ R, R = φ Q := ⟨_, rfl⟩
      rw [← hR] at hkk
      obtain ⟨Q2, e2⟩ := R
      simp only at hkk
      replace hkk := hide hkk
      by_cases he : e2 = 0
      · subst he
        rw [chain_go (by rw [← hR]), ← hR] at hZ2
        replace hZ2 := hide hZ2
        replace hR := hide hR
        go_wp2_with fail
        refine hkk.out.mono ?_
        rintro e w1 ⟨rfl, hV1⟩
        replace hV1 := hide hV1
        go_wp2_with fail
        go_roundw
        case rel => exact ⟨i + 1, Q2, by go_num, by omega, hV1, hZ2⟩
        case measure => simp [intOf]; omega
      · have he' : ¬ (e2 : Int) = 0 := by omega
        rw [chain_no (by rw [← hR]; exact he), ← hR] at hZ2
        replace hZ2 := hide hZ2
        replace hR := hide hR
        go_wp2_with fail
        refine hkk.out.mono ?_
        rintro e w1 ⟨rfl, hV1⟩
        replace hV1 := hide hV1
        go_wp2_with fail
        go_ret
        rw [hZ2.out]
        exact ⟨rfl, hV1.out⟩
    · have hZ2 := hZ.out
      rw [List.drop_of_length_le (by have := hn.out; omega), List.map_nil] at hZ2
      replace hZ2 := hide hZ2
      go_wp2_with fail
      go_ret
      rw [hZ2.out]
      exact ⟨rfl, hV.out⟩
end Go.Proofs.YtaoolpnnomhnoaaGreatDoor

/- A manifest laid over another. -/
namespace Go.Proofs.YtaoolpnnomhnoaaGreatDoor
open Go.RowKit

def Mf.cells (m : Mf) (A : Option Addr) (c : Nat) : Array Value := #[.slice A m.ps.length c, .int .i64 m.floor, .int .i64 m.done, .int .i64 m.log, .int .i64 m.next, .int .i64 m.now]
/-- A manifest is laid over the one at g. -/
def setM (w : World) (g : Nat) (m : Mf) (A : Option Addr) (c : Nat) : World := (((((w.setCell ⟨g, 0, none⟩ (.slice A m.ps.length c)).setCell ⟨g, 1, none⟩ (.int .i64 m.floor)).setCell ⟨g, 2, none⟩ (.int .i64 m.done)).setCell ⟨g, 3, none⟩ (.int .i64 m.log)).setCell ⟨g, 4, none⟩ (.int .i64 m.next)).setCell ⟨g, 5, none⟩ (.int .i64 m.now)
theorem setM_row {w : World} {g : Nat} {t : TypeId} {x0 x1 x2 x3 x4 x5 : Value} (h : Row w g t #[x0, x1, x2, x3, x4, x5]) (m : Mf) (A : Option Addr) (c : Nat) : Row (setM w g m A c) g t (m.cells A c) :=
  (((((h.put 0 _).put 1 _).put 2 _).put 3 _).put 4 _).put 5 _
theorem setM_away {w : World} {g g2 : Nat} {t : TypeId} {cs : Array Value} (h : Row w g2 t cs) (hne : g2 ≠ g) (m : Mf) (A : Option Addr) (c : Nat) : Row (setM w g m A c) g2 t cs :=
  (((((h.away hne _).away hne _).away hne _).away hne _).away hne _).away hne _
theorem setM_ext {w w1 : World} {g : Nat} (h : Ext w w1) (hg : w.heap.size ≤ g) (m : Mf) (A : Option Addr) (c : Nat) : Ext w (setM w1 g m A c) :=
  (((((h.setCell (p := ⟨g, 0, none⟩) hg _).setCell (p := ⟨g, 1, none⟩) hg _).setCell (p := ⟨g, 2, none⟩) hg _).setCell (p := ⟨g, 3, none⟩) hg _).setCell (p := ⟨g, 4, none⟩) hg _).setCell (p := ⟨g, 5, none⟩) hg _
end Go.Proofs.YtaoolpnnomhnoaaGreatDoor

/- loggia/manifest: Decode, walked. -/
namespace Go.Proofs.YtaoolpnnomhnoaaGreatDoor
open Go.RowKit

/-- The reader's manifest, laid. -/
def setR (w : World) (g : Nat) (a0 a1 a2 a3 a4 : Int) : World := (((((w.setCell ⟨g, 2, none⟩ (.slice none 0 0)).setCell ⟨g, 3, none⟩ (.int .i64 a0)).setCell ⟨g, 4, none⟩ (.int .i64 a1)).setCell ⟨g, 5, none⟩ (.int .i64 a2)).setCell ⟨g, 6, none⟩ (.int .i64 a3)).setCell ⟨g, 7, none⟩ (.int .i64 a4)
theorem setR_row {w : World} {g : Nat} {t : TypeId} {x0 x1 x2 x3 x4 x5 x6 x7 : Value} (h : Row w g t #[x0, x1, x2, x3, x4, x5, x6, x7]) (a0 a1 a2 a3 a4 : Int) : Row (setR w g a0 a1 a2 a3 a4) g t #[x0, x1, .slice none 0 0, .int .i64 a0, .int .i64 a1, .int .i64 a2, .int .i64 a3, .int .i64 a4] :=
  (((((h.put 2 _).put 3 _).put 4 _).put 5 _).put 6 _).put 7 _
theorem setR_chg (w : World) (g : Nat) (a0 a1 a2 a3 a4 : Int) : Chg (fun b => b = g) w (setR w g a0 a1 a2 a3 a4) := by
  have one : ∀ (w : World) (i : Nat) (v : Value), Chg (fun b => b = g) w (w.setCell ⟨g, i, none⟩ v) := fun w i v => Chg.of_set w (a := ⟨g, i, none⟩) v rfl
  unfold setR
  exact ((((((one w 2 _).trans (one _ 3 _) fun _ _ h => h).trans (one _ 4 _) fun _ _ h => h).trans (one _ 5 _) fun _ _ h => h).trans (one _ 6 _) fun _ _ h => h).trans (one _ 7 _) fun _ _ h => h)
theorem encM_short {m : Mf} (h : m.In) (hc : checkP m = 0) : (encM m).length ≤ 40000 := by
  obtain ⟨h5, _⟩ := checkP_zero hc
  have h1 := encI_len h h5 m.ps.length (Nat.le_refl _)
  rw [encI_all] at h1
  rw [encM_len]
  omega
theorem setM_owns {w : World} {base : Nat} {e : TypeId} {size n : Nat} {v : Value} {xs : List Value} (h : w.ownsRow base e size v n xs) {g : Nat} (hg : v.ownBlock ≠ some g) (m : Mf) (A : Option Addr) (c : Nat) : (setM w g m A c).ownsRow base e size v n xs :=
  owns_set (owns_set (owns_set (owns_set (owns_set (owns_set h (a := ⟨g, 0, none⟩) hg _) (a := ⟨g, 1, none⟩) hg _) (a := ⟨g, 2, none⟩) hg _) (a := ⟨g, 3, none⟩) hg _) (a := ⟨g, 4, none⟩) hg _) (a := ⟨g, 5, none⟩) hg _
set_option maxRecDepth 100000 in
set_option maxHeartbeats 4000000 in
theorem decode_any (A : Option Addr) (n c : Nat) (l : List UInt8) (w : World) (h : In8 w A n c l) (hle : n ≤ 1000000000) :
    Calls Tryz.prog 37 #[.slice A n c] w fun e w' => DecP w (decM l) e w' := by
  have hl := h.len
  have hz0 : Row (w.alloc (.cells #[.slice none 0 0, .int .i64 0, .int .i64 0, .int .i64 0, .int .i64 0, .int .i64 0] 24)) w.heap.size 24 #[.slice none 0 0, .int .i64 0, .int .i64 0, .int .i64 0, .int .i64 0, .int .i64 0] := Row.new w _ _
  have hE0 : Ext w (w.alloc (.cells #[.slice none 0 0, .int .i64 0, .int .i64 0, .int .i64 0, .int .i64 0, .int .i64 0] 24)) := (Ext.refl w).alloc _
  by_cases h8 : n < 8
  · have hd := hide (decM_short (b := l) (by omega))
    have c0 := hz0.cell 0 rfl
    have c1 := hz0.cell 1 rfl
    have c2 := hz0.cell 2 rfl
    have c3 := hz0.cell 3 rfl
    have c4 := hz0.cell 4 rfl
    have c5 := hz0.cell 5 rfl
    have hfr := fun i => hz0.free i
    clear hl h hz0
    replace hE0 := hide hE0
    go_enter Tryz.func37, Tryz.ntmps37
    go_wp2_with fail
    exact bodyPost_ret (v := .tuple #[nilMf.val none 0, .int .i64 160]) (by simp [results, Tryz.results37, go_sem, nilMf, Mf.val]) rfl (by rw [hd.out]; exact ⟨hE0.out, rfl⟩)
  · obtain ⟨A1, c1, hsub, hin⟩ := h.sub (fr := 4) (k := n - 8) (by omega) (z0 := 4) (z := (n : Int) - 4) rfl (by omega)
    obtain ⟨M, hM⟩ : ∃ M, M = (l.drop 4).take (n - 8) := ⟨_, rfl⟩
    rw [← hM] at hin
    have hml : n - 8 = M.length := hin.len
    have hdm : decM l = match getM M with
      | none => none
      | some m => if checkP m = 0 ∧ encM m = l then some m else none := by rw [hM, hl]; exact decM_mid l
    obtain ⟨W, hW⟩ : ∃ W, W = (w.alloc (.cells #[.slice none 0 0, .int .i64 0, .int .i64 0, .int .i64 0, .int .i64 0, .int .i64 0] 24)).alloc (.cells #[.slice A1 (n - 8) c1, .bool false, .slice none 0 0, .int .i64 0, .int .i64 0, .int .i64 0, .int .i64 0, .int .i64 0] 113) := ⟨_, rfl⟩
    have hEW : Ext w W := by rw [hW]; exact ((Ext.refl w).alloc _).alloc _
    have hrW : Row W (w.heap.size + 1) 113 #[.slice A1 (n - 8) c1, .bool false, .slice none 0 0, .int .i64 0, .int .i64 0, .int .i64 0, .int .i64 0, .int .i64 0] := by rw [hW]; have h := Row.new (w.alloc (.cells #[.slice none 0 0, .int .i64 0, .int .i64 0, .int .i64 0, .int .i64 0, .int .i64 0] 24)) 113 #[.slice A1 (n - 8) c1, .bool false, .slice none 0 0, .int .i64 0, .int .i64 0, .int .i64 0, .int .i64 0, .int .i64 0]; simpa using h
    have hzW : Row W w.heap.size 24 #[.slice none 0 0, .int .i64 0, .int .i64 0, .int .i64 0, .int .i64 0, .int .i64 0] := by rw [hW]; exact hz0.alloc _
    obtain ⟨rb, hrb⟩ : ∃ rb, rb = w.heap.size + 1 := ⟨_, rfl⟩
    rw [← hrb] at hrW
    have hnum := numbers_any A1 (n - 8) c1 5 rb false M (.slice none 0 0) (.int .i64 0) (.int .i64 0) (.int .i64 0) (.int .i64 0) (.int .i64 0) w W hin hEW (by omega) (by omega) (.inl rfl) hrW
    obtain ⟨q1, q2, q3⟩ := numsM_len false M 5
    have hgr := getM_reads M
    obtain ⟨a0, a1, a2, a3, a4, hns⟩ := five_of q1
    obtain ⟨r1, hr1⟩ : ∃ r, r = numsM false M 5 := ⟨_, rfl⟩
    rw [← hr1] at hnum hns hgr q2 q3
    obtain ⟨b1, L1, ns⟩ := r1
    simp only at hns hgr q2 q3
    subst hns
    have hL1 : L1.length ≤ 1000000000 := by omega
    have hpi : (partsP b1 L1).2.length ≤ 512 ∧ ∀ p ∈ (partsP b1 L1).2, p.Ok := by
      unfold partsP
      split
      · exact ⟨by simp, nofun⟩
      · split
        · exact ⟨by simp, nofun⟩
        · rename_i v r _ hv
          obtain ⟨h1, h2⟩ := partsM_in v false r
          exact ⟨by rw [h1]; omega, h2⟩
    obtain ⟨r2, hr2⟩ : ∃ r, r = partsP b1 L1 := ⟨_, rfl⟩
    rw [← hr2] at hgr hpi
    obtain ⟨b2, ps⟩ := r2
    simp only at hgr hpi
    replace hdm := hide hdm
    replace hnum := hide hnum
    replace hgr := hide hgr
    replace hW := hide hW
    have hrb' := hide hrb
    have hrb1 : w.heap.size < rb := by omega
    have hrb2 : w.heap.size ≠ rb := by omega
    replace hr2 := hide hr2
    replace h := hide h
    have hl' := hide hl
    clear hl hM hml hr1 hrb q1 hz0 hE0
    go_enter Tryz.func37, Tryz.ntmps37
    go_wp2_with fail
    rw [← hrb'.out, ← hW.out]
    refine hnum.out.mono ?_
    rintro e w1 ⟨A2, c2, B, cb, rfl, hr3, hin3, hbu, hch⟩
    have hz1 := hide (hch.row hzW hrb2)
    obtain ⟨g, o, rfl, hcc⟩ := hbu.cells.at_ (by simp)
    have z0 : w1.cell? ⟨g, o, none⟩ = some (.int .i64 a0) := hcc 0 _ rfl
    have z1 : w1.cell? ⟨g, o + 1, none⟩ = some (.int .i64 a1) := hcc 1 _ rfl
    have z2 : w1.cell? ⟨g, o + 2, none⟩ = some (.int .i64 a2) := hcc 2 _ rfl
    have z3 : w1.cell? ⟨g, o + 3, none⟩ = some (.int .i64 a3) := hcc 3 _ rfl
    have z4 : w1.cell? ⟨g, o + 4, none⟩ = some (.int .i64 a4) := hcc 4 _ rfl
    have y2 : w1.cell? ⟨rb, 2, none⟩ = some (.slice none 0 0) := hr3.cell 2 rfl
    have y3 : w1.cell? ⟨rb, 3, none⟩ = some (.int .i64 0) := hr3.cell 3 rfl
    have y4 : w1.cell? ⟨rb, 4, none⟩ = some (.int .i64 0) := hr3.cell 4 rfl
    have y5 : w1.cell? ⟨rb, 5, none⟩ = some (.int .i64 0) := hr3.cell 5 rfl
    have y6 : w1.cell? ⟨rb, 6, none⟩ = some (.int .i64 0) := hr3.cell 6 rfl
    have y7 : w1.cell? ⟨rb, 7, none⟩ = some (.int .i64 0) := hr3.cell 7 rfl
    have yf := fun i => hr3.free i
    have yl := hr3.lt
    have hr4 := hide hr3
    have hch' := hide hch
    clear hr3 hch hcc hbu hsub
    go_wp2_with fail
    refine wp_region_text follows (by kernel_rfl) (by kernel_rfl) (fun K hK => ?_)
    go_wp2_with fail
    refine ⟨by kernel_rfl, ?_⟩
    go_wp2_with fail
    obtain ⟨w2, hw2⟩ : ∃ w2, w2 = (setR w1 rb a0 a1 a2 a3 a4).drew := ⟨_, rfl⟩
    have hr5 : Row w2 rb 113 #[.slice A2 L1.length c2, .bool b1, .slice none 0 0, .int .i64 a0, .int .i64 a1, .int .i64 a2, .int .i64 a3, .int .i64 a4] := by rw [hw2]; exact (setR_row hr4.out a0 a1 a2 a3 a4).drew
    have hc2 : Chg (fun b => b = rb) w1 w2 := by rw [hw2]; exact (setR_chg w1 rb a0 a1 a2 a3 a4).trans (Chg.of_ext (Ext.refl _).drew (fun b => b = rb)) fun _ _ h => h
    have hcW2 := hch'.out.trans hc2 fun _ _ h => h
    have hEw2 : Ext w w2 := hEW.chg hcW2 fun k hk e => by omega
    have hz2 := hide (hc2.row hz1.out hrb2)
    have hpa := parts_any A2 L1.length c2 rb b1 L1 (.int .i64 a0) (.int .i64 a1) (.int .i64 a2) (.int .i64 a3) (.int .i64 a4) w w2 hin3 hEw2 hL1 (by omega) hr5
    rw [← hr2.out] at hpa
    unfold setR at hw2
    rw [← hw2]
    replace hpa := hide hpa
    replace hEw2 := hide hEw2
    clear hw2 hr5 hc2 hcW2 y2 y3 y4 y5 y6 y7 yf yl z0 z1 z2 z3 z4 hr4 hch'
    refine hpa.out.mono ?_
    rintro e w3 ⟨rfl, A3, c3, P, cp, L3, hr6, hown, hch3⟩
    simp only at hr6 hown
    have hEw3 := hide (hEw2.out.chg hch3 fun k hk e => by omega)
    have hz3 := hide (hch3.row hz2.out hrb2)
    have hOk : (mkMf [a0, a1, a2, a3, a4] ps).Ok w3 w3.heap.size P cp := by
      refine ⟨owns_parts hown hpi.2 (by show ps.length ≤ _; omega), ?_, ?_, ?_, ?_, ?_⟩
      · exact q2 a0 (by simp)
      · exact q2 a1 (by simp)
      · exact q2 a2 (by simp)
      · exact q2 a3 (by simp)
      · exact q2 a4 (by simp)
    have hval : (mkMf [a0, a1, a2, a3, a4] ps).val P cp = .agg #[.slice P ps.length cp, .int .i64 a0, .int .i64 a1, .int .i64 a2, .int .i64 a3, .int .i64 a4] := rfl
    have hcs : (mkMf [a0, a1, a2, a3, a4] ps).cells P cp = #[.slice P ps.length cp, .int .i64 a0, .int .i64 a1, .int .i64 a2, .int .i64 a3, .int .i64 a4] := rfl
    have hfl : (mkMf [a0, a1, a2, a3, a4] ps).ps = ps ∧ (mkMf [a0, a1, a2, a3, a4] ps).floor = a0 ∧ (mkMf [a0, a1, a2, a3, a4] ps).done = a1 ∧ (mkMf [a0, a1, a2, a3, a4] ps).log = a2 ∧ (mkMf [a0, a1, a2, a3, a4] ps).next = a3 ∧ (mkMf [a0, a1, a2, a3, a4] ps).now = a4 := ⟨rfl, rfl, rfl, rfl, rfl, rfl⟩
    have hen := encode_any w3.heap.size _ P cp w3 hOk
    rw [hval] at hen
    obtain ⟨m, hm⟩ : ∃ m, m = mkMf [a0, a1, a2, a3, a4] ps := ⟨_, rfl⟩
    rw [← hm] at hen hgr hOk hval hcs hfl
    have x2 : w3.cell? ⟨rb, 2, none⟩ = some (.slice P ps.length cp) := hr6.cell 2 rfl
    have x3 : w3.cell? ⟨rb, 3, none⟩ = some (.int .i64 a0) := hr6.cell 3 rfl
    have x4 : w3.cell? ⟨rb, 4, none⟩ = some (.int .i64 a1) := hr6.cell 4 rfl
    have x5 : w3.cell? ⟨rb, 5, none⟩ = some (.int .i64 a2) := hr6.cell 5 rfl
    have x6 : w3.cell? ⟨rb, 6, none⟩ = some (.int .i64 a3) := hr6.cell 6 rfl
    have x7 : w3.cell? ⟨rb, 7, none⟩ = some (.int .i64 a4) := hr6.cell 7 rfl
    have hr7 := hide hr6
    replace hen := hide hen
    replace hOk := hide hOk
    replace hval := hide hval
    replace hcs := hide hcs
    replace hfl := hide hfl
    have hown' := hide hown
    clear hm hown hr6 hch3 q2 hpa hnum
    go_wp2_with fail
    refine hen.out.mono ?_
    rintro e w4 ⟨hE4, hyes, hno⟩
    have hz4 := hz3.out.ext hE4
    have hEw4 := hide (hEw3.out.trans hE4)
    have hr8 := hr7.out.ext hE4
    have v1 : w4.cell? ⟨rb, 1, none⟩ = some (.bool b2) := hr8.cell 1 rfl
    have v2 : w4.cell? ⟨rb, 2, none⟩ = some (.slice P ps.length cp) := hr8.cell 2 rfl
    have v3 : w4.cell? ⟨rb, 3, none⟩ = some (.int .i64 a0) := hr8.cell 3 rfl
    have v4 : w4.cell? ⟨rb, 4, none⟩ = some (.int .i64 a1) := hr8.cell 4 rfl
    have v5 : w4.cell? ⟨rb, 5, none⟩ = some (.int .i64 a2) := hr8.cell 5 rfl
    have v6 : w4.cell? ⟨rb, 6, none⟩ = some (.int .i64 a3) := hr8.cell 6 rfl
    have v7 : w4.cell? ⟨rb, 7, none⟩ = some (.int .i64 a4) := hr8.cell 7 rfl
    have t0 : w4.cell? ⟨w.heap.size, 0, none⟩ = some (.slice none 0 0) := hz4.cell 0 rfl
    have t1 : w4.cell? ⟨w.heap.size, 1, none⟩ = some (.int .i64 0) := hz4.cell 1 rfl
    have t2 : w4.cell? ⟨w.heap.size, 2, none⟩ = some (.int .i64 0) := hz4.cell 2 rfl
    have t3 : w4.cell? ⟨w.heap.size, 3, none⟩ = some (.int .i64 0) := hz4.cell 3 rfl
    have t4 : w4.cell? ⟨w.heap.size, 4, none⟩ = some (.int .i64 0) := hz4.cell 4 rfl
    have t5 : w4.cell? ⟨w.heap.size, 5, none⟩ = some (.int .i64 0) := hz4.cell 5 rfl
    have tf := fun i => hz4.free i
    have tl := hz4.lt
    replace hyes := hide hyes
    replace hno := hide hno
    have hz5 := hide hz4
    clear x2 x3 x4 x5 x6 x7 hz4 hr8
    have hE4' := hide hE4
    have hnw := hide (show (Value.slice P ps.length cp).ownBlock ≠ some w.heap.size from fun e => by
      obtain ⟨_, _, hb⟩ := owns_row hown'.out e
      have := hz2.out.lt
      omega)
    cases b2 with
    | true =>
      have hdn : decM l = none := by rw [hdm.out, hgr.out.2 rfl]
      replace hdn := hide hdn
      by_cases hc : checkP m = 0
      · obtain ⟨A5, c5, rfl, hb5⟩ := hyes.out hc
        clear hc
        go_wp2_with fail
        obtain ⟨w6, hw6⟩ : ∃ w6, w6 = setM w4 w.heap.size nilMf none 0 := ⟨_, rfl⟩
        have hk6 := setM_row hz5.out nilMf none 0
        rw [← hw6] at hk6
        have hE6 := setM_ext hEw4.out (Nat.le_refl _) nilMf none 0
        rw [← hw6] at hE6
        simp only [setM, nilMf, List.length_nil] at hw6
        rw [← hw6]
        have k0 : w6.cell? ⟨w.heap.size, 0, none⟩ = some (.slice none 0 0) := hk6.cell 0 rfl
        have k1 : w6.cell? ⟨w.heap.size, 1, none⟩ = some (.int .i64 0) := hk6.cell 1 rfl
        have k2 : w6.cell? ⟨w.heap.size, 2, none⟩ = some (.int .i64 0) := hk6.cell 2 rfl
        have k3 : w6.cell? ⟨w.heap.size, 3, none⟩ = some (.int .i64 0) := hk6.cell 3 rfl
        have k4 : w6.cell? ⟨w.heap.size, 4, none⟩ = some (.int .i64 0) := hk6.cell 4 rfl
        have k5 : w6.cell? ⟨w.heap.size, 5, none⟩ = some (.int .i64 0) := hk6.cell 5 rfl
        clear hw6 hk6
        exact bodyPost_ret (v := .tuple #[nilMf.val none 0, .int .i64 160]) (by simp [results, Tryz.results37, go_sem, nilMf, Mf.val, k0, k1, k2, k3, k4, k5]) rfl (by rw [hdn.out]; exact ⟨hE6, rfl⟩)
      · have he := hno.out hc
        subst he
        clear hc
        go_wp2_with fail
        obtain ⟨w6, hw6⟩ : ∃ w6, w6 = setM w4 w.heap.size nilMf none 0 := ⟨_, rfl⟩
        have hk6 := setM_row hz5.out nilMf none 0
        rw [← hw6] at hk6
        have hE6 := setM_ext hEw4.out (Nat.le_refl _) nilMf none 0
        rw [← hw6] at hE6
        simp only [setM, nilMf, List.length_nil] at hw6
        rw [← hw6]
        have k0 : w6.cell? ⟨w.heap.size, 0, none⟩ = some (.slice none 0 0) := hk6.cell 0 rfl
        have k1 : w6.cell? ⟨w.heap.size, 1, none⟩ = some (.int .i64 0) := hk6.cell 1 rfl
        have k2 : w6.cell? ⟨w.heap.size, 2, none⟩ = some (.int .i64 0) := hk6.cell 2 rfl
        have k3 : w6.cell? ⟨w.heap.size, 3, none⟩ = some (.int .i64 0) := hk6.cell 3 rfl
        have k4 : w6.cell? ⟨w.heap.size, 4, none⟩ = some (.int .i64 0) := hk6.cell 4 rfl
        have k5 : w6.cell? ⟨w.heap.size, 5, none⟩ = some (.int .i64 0) := hk6.cell 5 rfl
        clear hw6 hk6
        exact bodyPost_ret (v := .tuple #[nilMf.val none 0, .int .i64 160]) (by simp [results, Tryz.results37, go_sem, nilMf, Mf.val, k0, k1, k2, k3, k4, k5]) rfl (by rw [hdn.out]; exact ⟨hE6, rfl⟩)
    | false =>
      have hgm := hgr.out.1 rfl
      by_cases hc : checkP m = 0
      · obtain ⟨A5, c5, rfl, hb5⟩ := hyes.out hc
        have heq := equalB_any A5 A (encM m).length n c5 c (encM m) l w4 hb5.in8 (h.out.ext hEw4.out) (Nat.le_trans (encM_short hOk.out.in_ hc) (by omega)) hle
        replace heq := hide heq
        by_cases he : encM m = l
        · have hdn : decM l = some m := by rw [hdm.out, hgm]; simp only [hc, he, and_self, if_true]
          rw [decide_eq_true he] at heq
          replace hdn := hide hdn
          clear hc he hgm
          obtain ⟨k, hk⟩ : ∃ k, k = (encM m).length := ⟨_, rfl⟩
          rw [← hk] at heq ⊢
          clear hk
          go_wp2_with fail
          refine heq.out.mono ?_
          rintro e w5 ⟨rfl, hE5⟩
          have hE5' := hide hE5
          have hz6 := hide (hz5.out.ext hE5)
          have hEw5 := hide (hEw4.out.trans hE5)
          have v2' := hE5.cell v2
          have v3' := hE5.cell v3
          have v4' := hE5.cell v4
          have v5' := hE5.cell v5
          have v6' := hE5.cell v6
          have v7' := hE5.cell v7
          have t0' := hE5.cell t0
          have t1' := hE5.cell t1
          have t2' := hE5.cell t2
          have t3' := hE5.cell t3
          have t4' := hE5.cell t4
          have t5' := hE5.cell t5
          have tf' := fun i => hz6.out.free i
          have tl' := hz6.out.lt
          clear v1 v2 v3 v4 v5 v6 v7 t0 t1 t2 t3 t4 t5 tf tl
          go_wp2_with fail
          obtain ⟨w6, hw6⟩ : ∃ w6, w6 = setM w5 w.heap.size m P cp := ⟨_, rfl⟩
          have hk6 := setM_row hz6.out m P cp
          rw [← hw6, hcs.out] at hk6
          have hE6 := setM_ext hEw5.out (Nat.le_refl _) m P cp
          rw [← hw6] at hE6
          have ho6 := setM_owns ((hE4'.out.trans hE5'.out).owns hown'.out) hnw.out m P cp
          rw [← hw6] at ho6
          unfold setM at hw6
          rw [hfl.out.1, hfl.out.2.1, hfl.out.2.2.1, hfl.out.2.2.2.1, hfl.out.2.2.2.2.1, hfl.out.2.2.2.2.2] at hw6
          rw [← hw6]
          have k0 : w6.cell? ⟨w.heap.size, 0, none⟩ = some (.slice P ps.length cp) := hk6.cell 0 rfl
          have k1 : w6.cell? ⟨w.heap.size, 1, none⟩ = some (.int .i64 a0) := hk6.cell 1 rfl
          have k2 : w6.cell? ⟨w.heap.size, 2, none⟩ = some (.int .i64 a1) := hk6.cell 2 rfl
          have k3 : w6.cell? ⟨w.heap.size, 3, none⟩ = some (.int .i64 a2) := hk6.cell 3 rfl
          have k4 : w6.cell? ⟨w.heap.size, 4, none⟩ = some (.int .i64 a3) := hk6.cell 4 rfl
          have k5 : w6.cell? ⟨w.heap.size, 5, none⟩ = some (.int .i64 a4) := hk6.cell 5 rfl
          have hPS := owns_parts ho6 hpi.2 (by omega)
          have hok6 : m.Ok w6 w6.heap.size P cp := ⟨by rw [hfl.out.1]; exact hPS, hOk.out.floor, hOk.out.done, hOk.out.log, hOk.out.next, hOk.out.now⟩
          clear hw6 hk6 ho6 hPS
          exact bodyPost_ret (v := .tuple #[m.val P cp, .int .i64 0]) (by rw [hval.out]; simp [results, Tryz.results37, go_sem, k0, k1, k2, k3, k4, k5]) rfl (by rw [hdn.out]; exact ⟨hE6, P, cp, rfl, hok6⟩)
        · have hdn : decM l = none := by rw [hdm.out, hgm]; simp only [hc, he, and_false, if_false]
          rw [decide_eq_false he] at heq
          replace hdn := hide hdn
          clear hc he hgm
          obtain ⟨k, hk⟩ : ∃ k, k = (encM m).length := ⟨_, rfl⟩
          rw [← hk] at heq ⊢
          clear hk
          go_wp2_with fail
          refine heq.out.mono ?_
          rintro e w5 ⟨rfl, hE5⟩
          have hz6 := hide (hz5.out.ext hE5)
          have hEw5 := hide (hEw4.out.trans hE5)
          have t0' := hE5.cell t0
          have t1' := hE5.cell t1
          have t2' := hE5.cell t2
          have t3' := hE5.cell t3
          have t4' := hE5.cell t4
          have t5' := hE5.cell t5
          have tf' := fun i => hz6.out.free i
          have tl' := hz6.out.lt
          clear v1 v2 v3 v4 v5 v6 v7 t0 t1 t2 t3 t4 t5 tf tl
          go_wp2_with fail
          obtain ⟨w6, hw6⟩ : ∃ w6, w6 = setM w5 w.heap.size nilMf none 0 := ⟨_, rfl⟩
          have hk6 := setM_row hz6.out nilMf none 0
          rw [← hw6] at hk6
          have hE6 := setM_ext hEw5.out (Nat.le_refl _) nilMf none 0
          rw [← hw6] at hE6
          simp only [setM, nilMf, List.length_nil] at hw6
          rw [← hw6]
          have k0 : w6.cell? ⟨w.heap.size, 0, none⟩ = some (.slice none 0 0) := hk6.cell 0 rfl
          have k1 : w6.cell? ⟨w.heap.size, 1, none⟩ = some (.int .i64 0) := hk6.cell 1 rfl
          have k2 : w6.cell? ⟨w.heap.size, 2, none⟩ = some (.int .i64 0) := hk6.cell 2 rfl
          have k3 : w6.cell? ⟨w.heap.size, 3, none⟩ = some (.int .i64 0) := hk6.cell 3 rfl
          have k4 : w6.cell? ⟨w.heap.size, 4, none⟩ = some (.int .i64 0) := hk6.cell 4 rfl
          have k5 : w6.cell? ⟨w.heap.size, 5, none⟩ = some (.int .i64 0) := hk6.cell 5 rfl
          clear hw6 hk6
          exact bodyPost_ret (v := .tuple #[nilMf.val none 0, .int .i64 160]) (by simp [results, Tryz.results37, go_sem, nilMf, Mf.val, k0, k1, k2, k3, k4, k5]) rfl (by rw [hdn.out]; exact ⟨hE6, rfl⟩)
      · have hdn : decM l = none := by rw [hdm.out, hgm]; simp only [hc, false_and, if_false]
        have he := hno.out hc
        have hcn : ((checkP m : Int) != 0) = true := by simp; omega
        obtain ⟨k, hk⟩ : ∃ k, k = checkP m := ⟨_, rfl⟩
        rw [← hk] at he hcn
        subst he
        replace hdn := hide hdn
        clear hc hgm hk
        go_wp2_with fail
        obtain ⟨w6, hw6⟩ : ∃ w6, w6 = setM w4 w.heap.size nilMf none 0 := ⟨_, rfl⟩
        have hk6 := setM_row hz5.out nilMf none 0
        rw [← hw6] at hk6
        have hE6 := setM_ext hEw4.out (Nat.le_refl _) nilMf none 0
        rw [← hw6] at hE6
        simp only [setM, nilMf, List.length_nil] at hw6
        rw [← hw6]
        have k0 : w6.cell? ⟨w.heap.size, 0, none⟩ = some (.slice none 0 0) := hk6.cell 0 rfl
        have k1 : w6.cell? ⟨w.heap.size, 1, none⟩ = some (.int .i64 0) := hk6.cell 1 rfl
        have k2 : w6.cell? ⟨w.heap.size, 2, none⟩ = some (.int .i64 0) := hk6.cell 2 rfl
        have k3 : w6.cell? ⟨w.heap.size, 3, none⟩ = some (.int .i64 0) := hk6.cell 3 rfl
        have k4 : w6.cell? ⟨w.heap.size, 4, none⟩ = some (.int .i64 0) := hk6.cell 4 rfl
        have k5 : w6.cell? ⟨w.heap.size, 5, none⟩ = some (.int .i64 0) := hk6.cell 5 rfl
        clear hw6 hk6
        exact bodyPost_ret (v := .tuple #[nilMf.val none 0, .int .i64 160]) (by simp [results, Tryz.results37, go_sem, nilMf, Mf.val, k0, k1, k2, k3, k4, k5]) rfl (by rw [hdn.out]; exact ⟨hE6, rfl⟩)
end Go.Proofs.YtaoolpnnomhnoaaGreatDoor

/- loggiaref16: parts. -/
namespace Go.Proofs.YtaoolpnnomhnoaaGreatDoor
open Go.RowKit

def combP (ps : List Pt) : Except Nat (List Pt × List UInt8) → Except Nat (List Pt × List UInt8)
  | .ok (qs, r) => .ok (ps ++ qs, r)
  | .error e => .error e
theorem combP_nil (x : Except Nat (List Pt × List UInt8)) : combP [] x = x := by
  unfold combP
  split <;> simp
theorem getPts_step {k i : Nat} {ps : List Pt} {l r : List UInt8} (h : getPts k l = combP ps (getPts (k - i) r)) (hi : i < k) : match getAll 6 r with
    | .ok (ns, r1) => getPts k l = combP (ps ++ [mkPt ns]) (getPts (k - (i + 1)) r1)
    | .error x => getPts k l = .error x := by
  obtain ⟨j, hj⟩ : ∃ j, k - i = j + 1 := ⟨k - i - 1, by omega⟩
  have hj2 : k - (i + 1) = j := by omega
  rw [hj] at h
  rw [h, hj2]
  cases hr : getAll 6 r with
  | error x =>
    unfold getPts
    rw [hr]
    rfl
  | ok p =>
    obtain ⟨ns, r1⟩ := p
    simp only
    conv => lhs; unfold getPts
    rw [hr]
    simp only
    cases getPts j r1 with
    | error e => rfl
    | ok q => obtain ⟨qs, r2⟩ := q; simp [combP]
def RPartP (w : World) (k : Nat) (res : Except Nat (List Pt × List UInt8)) (e : Ending) (w' : World) : Prop := Ext w w' ∧ match res with
  | .ok (ps, _) => ∃ P cp, e = .returned (.tuple #[.slice P k cp, .bool true]) ∧ w'.ownsRow w.heap.size 71 7 (.slice P k cp) k (pcells ps)
  | .error _ => e = .returned (.tuple #[.slice none 0 0, .bool false])
theorem rpart_err {w w' : World} {k x : Nat} {res : Except Nat (List Pt × List UInt8)} (h : res = .error x) (hE : Ext w w') : RPartP w k res (.returned (.tuple #[.slice none 0 0, .bool false])) w' := by
  rw [h]
  exact ⟨hE, rfl⟩
theorem rpart_ok {w w' : World} {k cp : Nat} {P : Option Addr} {ps : List Pt} {r : List UInt8} {res : Except Nat (List Pt × List UInt8)} (h : res = .ok (ps, r)) (hE : Ext w w') (ho : w'.ownsRow w.heap.size 71 7 (.slice P k cp) k (pcells ps)) :
    RPartP w k res (.returned (.tuple #[.slice P k cp, .bool true])) w' := by
  rw [h]
  exact ⟨hE, P, cp, rfl, ho⟩
set_option maxRecDepth 100000 in
set_option maxHeartbeats 4000000 in
theorem rparts_any (A : Option Addr) (n c k : Nat) (L : List UInt8) (w0 w : World) (h : In8 w0 A n c L) (hw : Ext w0 w) (hle : n ≤ 1000000000) (hk : k ≤ 512) :
    Calls Tryz.prog 80 #[.slice A n c, .int .i64 k] w fun e w' => RPartP w k (getPts k L) e w' := by
  obtain rfl := h.len
  go_enter Tryz.func80, Tryz.ntmps80
  go_wp2_with fail
  go_loopw [0, 6, 7] (fun s0 s6 s7 wr => ∃ (i : Nat) (L2 : List UInt8) (ps : List Pt) (A2 P : Option Addr) (c3 cp : Nat), s7 = .int .i64 i ∧ i ≤ k ∧ s0 = .slice A2 L2.length c3 ∧ s6 = .slice P i cp ∧ L2.length ≤ 1000000000 ∧ Hid (getPts k L = combP ps (getPts (k - i) L2)) ∧ Hid (In8 w0 A2 L2.length c3 L2) ∧ Hid (wr.ownsRow w.heap.size 71 7 (.slice P i cp) i (pcells ps)) ∧ Hid (Ext w wr)) (fun _ _ s7 _ => k - (intOf s7).toNat)
  case atStart => exact ⟨0, L, [], A, none, c, 0, rfl, by omega, rfl, rfl, hle, hide (by rw [combP_nil]; rfl), hide h, hide ⟨rfl, .inl ⟨rfl, rfl⟩⟩, hide (Ext.refl w)⟩
  case round =>
    obtain ⟨i, L2, ps, A2, P, c3, cp, rfl, hi, rfl, rfl, hL2, hg, hin, hown, hE⟩ := hrel
    by_cases hik : i < k
    · have hga := rgetAll_any A2 L2.length c3 6 L2 w0 wr hin.out (hw.trans hE.out) hL2 (by omega)
      have hst := getPts_step hg.out hik
      cases hr : getAll 6 L2 with
      | error x =>
        rw [hr] at hga hst
        replace hga := hide hga
        replace hst := hide hst
        clear hr h hg
        go_wp2_with fail
        refine hga.out.mono ?_
        rintro e w1 ⟨hE1, rfl, hx⟩
        have hx0 : ((x : Int) != 0) = true := by simp; omega
        clear hx
        go_wp2_with fail
        go_ret2
        exact rpart_err hst.out (hE.out.trans hE1)
      | ok p =>
        obtain ⟨ns, r1⟩ := p
        rw [hr] at hga hst
        obtain ⟨hn6, _, q, hq⟩ := getAll_len 6 L2 ns r1 hr
        have hr1 : r1.length ≤ 1000000000 := by rw [hq, List.length_append] at hL2; omega
        obtain ⟨a0, a1, a2, a3, a4, a5, rfl⟩ := six_of hn6
        replace hga := hide hga
        replace hst := hide hst
        clear hr h hg hq hn6
        go_wp2_with fail
        refine hga.out.mono ?_
        rintro e w1 ⟨hE1, A3, c4, B, cb, rfl, hbu, hin3⟩
        have hE2 := hide (hE.out.trans hE1)
        obtain ⟨g, o, rfl, hcc⟩ := hbu.cells.at_ (by simp)
        have z0 : w1.cell? ⟨g, o, none⟩ = some (.int .i64 a0) := hcc 0 _ rfl
        have z1 : w1.cell? ⟨g, o + 1, none⟩ = some (.int .i64 a1) := hcc 1 _ rfl
        have z2 : w1.cell? ⟨g, o + 2, none⟩ = some (.int .i64 a2) := hcc 2 _ rfl
        have z3 : w1.cell? ⟨g, o + 3, none⟩ = some (.int .i64 a3) := hcc 3 _ rfl
        have z4 : w1.cell? ⟨g, o + 4, none⟩ = some (.int .i64 a4) := hcc 4 _ rfl
        have z5 : w1.cell? ⟨g, o + 5, none⟩ = some (.int .i64 a5) := hcc 5 _ rfl
        have hown4 := hide ((Ext.drew hE1).owns hown.out)
        have hE3 := hide (hE2.out.drew)
        have hsz := hE3.out.size
        clear hcc hbu
        go_wp2_with fail
        refine wp_region_text follows (by kernel_rfl) (by kernel_rfl) (fun K hK => ?_)
        go_wp2_with (at_builtin; refine wpList_appS (m := 1) elemP hown4.out (.tmp 24) (.tmp 52) rfl rfl rfl rfl rfl (one_of rfl) (by omega) hsz (fun A4 c5 w4 ho5 hg5 hl5 => ?_))
        refine ⟨by kernel_rfl, ?_⟩
        go_wp2_with fail
        go_roundw
        case rel =>
          have hpt : (mkPt [a0, a1, a2, a3, a4, a5]).cells = [.int .i64 a0, .int .i64 a1, .int .i64 a2, .int .i64 a3, .int .i64 a4, .int .i64 a5, .int .i64 (wrap64 (wrap64 (a5 - a4) + 1))] := rfl
          refine ⟨i + 1, r1, ps ++ [mkPt [a0, a1, a2, a3, a4, a5]], A3, A4, c4, c5, by go_num, by omega, rfl, rfl, hr1, hst, hide hin3, hide ?_, hide (hE3.out.grown hg5 fun b hb => ?_)⟩
          · rw [pcells_snoc, hpt]
            exact ho5
          · obtain ⟨_, _, hbb⟩ := owns_row hown4.out hb
            exact hbb
        case measure => simp [intOf]; omega
    · obtain rfl : i = k := by omega
      have hz := hg.out
      rw [Nat.sub_self] at hz
      have hz2 : getPts i L = .ok (ps, L2) := by rw [hz]; simp [getPts, combP]
      replace hz2 := hide hz2
      clear h hz
      go_wp2_with fail
      go_ret2
      exact rpart_ok hz2.out hE.out hown.out
end Go.Proofs.YtaoolpnnomhnoaaGreatDoor

/- loggiaref16: Encode. -/
namespace Go.Proofs.YtaoolpnnomhnoaaGreatDoor
open Go.RowKit

set_option maxRecDepth 100000 in
set_option maxHeartbeats 4000000 in
theorem rencode_any (base : Nat) (m : Mf) (A : Option Addr) (c : Nat) (w : World) (h : m.Ok w base A c) : Calls Tryz.prog 45 #[m.val A c] w fun e w' => EncP w m e w' := by
  have hp := h.parts
  have hin := h.in_
  have hck : ∀ W, Ext w W → Calls Tryz.prog 8 #[m.val A c] W fun e w' => e = .returned (.int .i64 (checkP m)) ∧ Ext W w' := fun W hE => rcheck_any base m A c W (h.ext hE)
  have hrow : Row (w.alloc (.cells #[.slice A m.ps.length c, .int .i64 m.floor, .int .i64 m.done, .int .i64 m.log, .int .i64 m.next, .int .i64 m.now] 24)) w.heap.size 24 #[.slice A m.ps.length c, .int .i64 m.floor, .int .i64 m.done, .int .i64 m.log, .int .i64 m.next, .int .i64 m.now] := Row.new w _ _
  have hE0 : Ext w (w.alloc (.cells #[.slice A m.ps.length c, .int .i64 m.floor, .int .i64 m.done, .int .i64 m.log, .int .i64 m.next, .int .i64 m.now] 24)) := (Ext.refl w).alloc _
  unfold Mf.val at hck ⊢
  replace hck := hide hck
  by_cases hc : checkP m = 0
  · obtain ⟨h5, hpp⟩ := checkP_zero hc
    have hcn : (checkP m : Int) = 0 := by omega
    have hc' := hide hc
    rw [hcn] at hck
    clear hc hcn h hpp
    have hfl := hide (heads_ok hin)
    have hle := hide (encI_len hin h5)
    replace hin := hide hin
    replace hrow := hide hrow
    replace hE0 := hide hE0
    replace hp := hide hp
    go_enter Tryz.func45, Tryz.ntmps45
    go_wp2_with fail
    refine (hck.out _ hE0.out).mono ?_
    rintro e w1 ⟨rfl, hE1⟩
    have hr1 := hide (hrow.out.ext hE1)
    have hE2 := hide (hE0.out.trans hE1)
    have x0 := hr1.out.cell 0 rfl
    have x1 := hr1.out.cell 1 rfl
    have x2 := hr1.out.cell 2 rfl
    have x3 := hr1.out.cell 3 rfl
    have x4 := hr1.out.cell 4 rfl
    have x5 := hr1.out.cell 5 rfl
    have hlt1 := hr1.out.lt
    have hbm := hide (buf_new w1 [.int .u8 76, .int .u8 71, .int .u8 77, .int .u8 49] 5 (by simp))
    have hall := rall_any (some ⟨w1.heap.size + 1, 0, none⟩) 5 5 [m.floor, m.done, m.log, m.next, m.now] ((w1.alloc (.cells #[.int .u8 76, .int .u8 71, .int .u8 77, .int .u8 49] 5)).alloc (.cells #[.int .i64 m.floor, .int .i64 m.done, .int .i64 m.log, .int .i64 m.next, .int .i64 m.now] 3)) rfl (.inr ⟨w1.heap.size + 1, 0, rfl, fun i v hv => by
      have hn := heap_alloc_new (w1.alloc (.cells #[.int .u8 76, .int .u8 71, .int .u8 77, .int .u8 49] 5)) (.cells #[.int .i64 m.floor, .int .i64 m.done, .int .i64 m.log, .int .i64 m.next, .int .i64 m.now] 3)
      rw [show (w1.alloc (.cells #[.int .u8 76, .int .u8 71, .int .u8 77, .int .u8 49] 5)).heap.size = w1.heap.size + 1 by simp] at hn
      rw [Nat.zero_add, cell_of_row _ _ _ _ _ _ hn]
      simpa using hv⟩) (by omega) hfl.out
    have hE3 : Ext w1 ((w1.alloc (.cells #[.int .u8 76, .int .u8 71, .int .u8 77, .int .u8 49] 5)).alloc (.cells #[.int .i64 m.floor, .int .i64 m.done, .int .i64 m.log, .int .i64 m.next, .int .i64 m.now] 3)) := ((Ext.refl w1).alloc _).alloc _
    have hE3b : Ext (w1.alloc (.cells #[.int .u8 76, .int .u8 71, .int .u8 77, .int .u8 49] 5)) ((w1.alloc (.cells #[.int .u8 76, .int .u8 71, .int .u8 77, .int .u8 49] 5)).alloc (.cells #[.int .i64 m.floor, .int .i64 m.done, .int .i64 m.log, .int .i64 m.next, .int .i64 m.now] 3)) := (Ext.refl _).alloc _
    replace hall := hide hall
    replace hE3 := hide hE3
    replace hE3b := hide hE3b
    go_wp2_with fail
    refine hall.out.mono ?_
    rintro e w2 ⟨A2, c2, rfl, hb2, hE4⟩
    have hE5 := hide (hE3.out.trans hE4)
    have y0 := hE5.out.cell x0
    have hE6 := hide (hE2.out.trans hE5.out)
    have hlen2 := vall_len _ hfl.out
    simp only [List.length_cons, List.length_nil] at hlen2
    have hbm2 := hbm.out.ext (hE3b.out.trans hE4)
    have hs2 := hE5.out.size
    have hby := hide (fun w => rbytes m.ps.length w (by omega))
    have hvl := vb_len10 (n := m.ps.length) (by omega)
    clear x0 x1 x2 x3 x4 x5 hall hck hE4 hlt1
    go_wp2_with (at_builtin; refine wpList_buf elemB hbm2 hb2.cells (.tmp 14) (.tmp 26) rfl rfl rfl rfl rfl (by rw [List.length_map]) (bytes_one _) (by simp only [List.length_cons, List.length_nil]; omega) hs2 (fun A3 c3 w3 hb3 _ hE7 _ => ?_); have q0 := (hE7 w1 hE5.out (Nat.le_refl _)).cell (show w1.cell? ⟨w.heap.size, 0, none⟩ = some (.slice A m.ps.length c) from hr1.out.cell 0 rfl))
    refine (hby.out _).mono ?_
    rintro e w4 ⟨A4, c4, rfl, hb4, hE8⟩
    have hE9 := hE7 w1 hE5.out (Nat.le_refl _)
    have hE10 := hE9.trans hE8
    have z0 := hE10.cell (show w1.cell? ⟨w.heap.size, 0, none⟩ = some (.slice A m.ps.length c) from hr1.out.cell 0 rfl)
    have hb5 := hb3.ext hE8
    have hs4 := hE10.size
    clear y0 hb2 hbm2 hs2
    go_wp2_with (at_builtin; refine wpList_buf elemB hb5 hb4.cells (.tmp 28) (.tmp 33) rfl rfl rfl rfl rfl (by rw [List.length_map]) (bytes_one _) (by simp only [List.length_cons, List.length_nil]; omega) hs4 (fun A6 c6 w6 hb6 _ hE11 _ => ?_))
    have hE12 := hide (hE2.out.trans (hE11 w1 hE10 (Nat.le_refl _)))
    have v0 := (hE11 w1 hE10 (Nat.le_refl _)).cell (show w1.cell? ⟨w.heap.size, 0, none⟩ = some (.slice A m.ps.length c) from hr1.out.cell 0 rfl)
    have hb7 : Buf w6 w1.heap.size 5 A6 (encI m 0).length c6 ((encI m 0).map B8) := by
      rw [encI_zero, List.map_append, List.map_append, List.length_append, List.length_append]
      exact hb6
    have hE13 := hide (hE11 w1 hE10 (Nat.le_refl _))
    have hv0 := hide (show w1.cell? ⟨w.heap.size, 0, none⟩ = some (.slice A m.ps.length c) from hr1.out.cell 0 rfl)
    obtain ⟨n6, hn6⟩ : ∃ n6, n6 = (encI m 0).length := ⟨_, rfl⟩
    have hln : ([.int .u8 76, .int .u8 71, .int .u8 77, .int .u8 49] : List Value).length + (vall [m.floor, m.done, m.log, m.next, m.now]).length + (vb m.ps.length).length = n6 := by rw [hn6, encI_zero]; simp only [List.length_append, List.length_cons, List.length_nil]
    rw [← hn6] at hb7
    have hsv : ∀ x, Value.slice A6 (([.int .u8 76, .int .u8 71, .int .u8 77, .int .u8 49] : List Value).length + (vall [m.floor, m.done, m.log, m.next, m.now]).length + (vb m.ps.length).length) x = .slice A6 n6 x := fun x => by rw [hln]
    replace hb7 := hide hb7
    replace hn6 := hide hn6
    replace hsv := hide hsv
    clear hb6 hb5 hb4 hE10 hE8 hE11 hb3 hE7 z0 v0 hE9 hs4 hln hlen2 hvl
    go_wp2_with fail
    go_loopw [5, 6] (fun s5 s6 wr => ∃ (i : Nat) (A4 : Option Addr) (n4 c4 : Nat), s6 = .int .i64 i ∧ i ≤ m.ps.length ∧ s5 = .slice A4 n4 c4 ∧ Hid (n4 = (encI m i).length) ∧ Hid (Buf wr w1.heap.size 5 A4 n4 c4 ((encI m i).map B8)) ∧ Hid (Ext w1 wr)) (fun _ s6 _ => m.ps.length - (intOf s6).toNat)
    case atStart => exact ⟨0, A6, n6, c6, rfl, by omega, hsv.out _, hn6, hb7, hE13⟩
    case round =>
      obtain ⟨i, A4, n4, c4, rfl, hi, rfl, hn4, hb5, hE9⟩ := hrel
      have hl4 := hle.out i hi
      have hn4b : n4 ≤ 64 + 60 * i := by rw [hn4.out]; exact hl4
      have v0 := hE9.out.cell hv0.out
      have hEw := hide (hE2.out.trans hE9.out)
      have hwsz := hE9.out.size
      clear hl4
      by_cases hik : i < m.ps.length
      · obtain ⟨g, o, p, rfl, hpi, hpo, k0, k1, k2, k3, k4, k5, k6⟩ := (hp.out.ext hEw.out).at_ hik
        have hsu := encI_succ hpi
        have hcx : Ext wr ((wr.alloc (.cells #[.int .i64 p.id, .int .i64 p.st, .int .i64 p.lo, .int .i64 p.hi, .int .i64 p.fi, .int .i64 p.la, .int .i64 p.n] 71)).alloc (.cells #[.int .i64 p.id, .int .i64 p.st, .int .i64 p.lo, .int .i64 p.hi, .int .i64 p.fi, .int .i64 p.la] 3)) := ((Ext.refl wr).alloc _).alloc _
        have hpa := rall_any (some ⟨wr.heap.size + 1, 0, none⟩) 6 6 (pnums p) ((wr.alloc (.cells #[.int .i64 p.id, .int .i64 p.st, .int .i64 p.lo, .int .i64 p.hi, .int .i64 p.fi, .int .i64 p.la, .int .i64 p.n] 71)).alloc (.cells #[.int .i64 p.id, .int .i64 p.st, .int .i64 p.lo, .int .i64 p.hi, .int .i64 p.fi, .int .i64 p.la] 3)) rfl (.inr ⟨wr.heap.size + 1, 0, rfl, fun i v hv => by
          have hn := heap_alloc_new (wr.alloc (.cells #[.int .i64 p.id, .int .i64 p.st, .int .i64 p.lo, .int .i64 p.hi, .int .i64 p.fi, .int .i64 p.la, .int .i64 p.n] 71)) (.cells #[.int .i64 p.id, .int .i64 p.st, .int .i64 p.lo, .int .i64 p.hi, .int .i64 p.fi, .int .i64 p.la] 3)
          rw [show (wr.alloc (.cells #[.int .i64 p.id, .int .i64 p.st, .int .i64 p.lo, .int .i64 p.hi, .int .i64 p.fi, .int .i64 p.la, .int .i64 p.n] 71)).heap.size = wr.heap.size + 1 by simp] at hn
          rw [Nat.zero_add, cell_of_row _ _ _ _ _ _ hn]
          simpa [pnums] using hv⟩) (by omega) (pnums_ok hpo)
        have hvp := vall_len _ (pnums_ok hpo)
        rw [show (pnums p).length = 6 from rfl] at hvp
        have hgl : g < wr.heap.size := World.block_lt_of_cell? wr _ k0
        have hi0 : (0 : Int) ≤ i := by omega
        replace hpa := hide hpa
        replace hcx := hide hcx
        replace hsu := hide hsu
        clear hpi hpo
        go_wp2_with fail
        refine hpa.out.mono ?_
        rintro e w5 ⟨A5, c5, rfl, hb6, hE10⟩
        have hE11 := hE9.out.trans (hcx.out.trans hE10)
        have hb7 := hb5.out.ext (hcx.out.trans hE10)
        have hws5 := hE11.size
        go_wp2_with (at_builtin; refine wpList_buf elemB hb7 hb6.cells (.tmp 47) (.tmp 61) rfl rfl rfl rfl rfl (by rw [List.length_map]) (bytes_one _) (by omega) hws5 (fun A8 c8 w8 hb8 _ hE12 _ => ?_))
        go_roundw
        case rel => exact ⟨i + 1, A8, _, c8, by go_num, by omega, rfl, hide (by rw [hsu.out, List.length_append, ← hn4.out]), hide (by rw [hsu.out, List.map_append]; exact hb8), hide (hE12 w1 hE11 (Nat.le_refl _))⟩
        case measure => simp [intOf]; omega
      · obtain rfl : i = m.ps.length := by omega
        rw [encI_all] at hn4 hb5
        have hof := hide (of_any A4 n4 c4 (encB m) wr wr hb5.out.in8 (Ext.refl wr) (by omega))
        have hlt := cnext_lt 0 (encB m)
        have h4 := le4_B8 hlt
        have hl4 : (le4 (cnext 0 (encB m))).length = 4 := rfl
        have hfin : encM m = encB m ++ le4 (cnext 0 (encB m)) := rfl
        obtain ⟨z, hz⟩ : ∃ z, z = cnext 0 (encB m) := ⟨_, rfl⟩
        rw [← hz] at hof hlt h4 hl4 hfin
        replace h4 := hide h4
        replace hl4 := hide hl4
        replace hfin := hide hfin
        clear hz
        go_wp2_with fail
        refine hof.out.mono ?_
        rintro e w5 ⟨rfl, rfl⟩
        go_wp2_with (at_builtin; refine wpList_bufN elemB hb5.out (.tmp 65) (.tmp 77) rfl rfl rfl rfl (one_of rfl) (by simp only [List.length_cons, List.length_nil]; omega) hwsz (fun A8 c8 w8 hb8 hE12 => ?_))
        go_ret2
        have hlm : (encM m).length = n4 + 4 := by rw [hfin.out, List.length_append, ← hn4.out, hl4.out]
        have hmm : (encM m).map B8 = (encB m).map B8 ++ [.int .u8 ((z : Int) % 256), .int .u8 ((z : Int) / 256 % 256), .int .u8 ((z : Int) / 65536 % 256), .int .u8 ((z : Int) / 16777216)] := by rw [hfin.out, List.map_append, h4.out]
        refine ⟨hE2.out.trans (hE12 w1 hE9.out (Nat.le_refl _)), fun _ => ⟨A8, c8, by rw [hlm]; rfl, by rw [hmm, hlm]; exact hb8.lower hE2.out.size⟩, fun h => absurd hc'.out h⟩
  · have hcn : ((checkP m : Int) != 0) = true := by simp; omega
    obtain ⟨k, hk⟩ : ∃ k, k = checkP m := ⟨_, rfl⟩
    rw [← hk] at hck hcn
    replace hk := hide hk
    replace hrow := hide hrow
    replace hE0 := hide hE0
    clear hp h hin
    go_enter Tryz.func45, Tryz.ntmps45
    go_wp2_with fail
    refine (hck.out _ hE0.out).mono ?_
    rintro e w1 ⟨rfl, hE1⟩
    go_wp2_with fail
    go_ret2
    exact ⟨hE0.out.trans hE1, fun h => absurd h hc, fun _ => by rw [← hk.out]; rfl⟩
end Go.Proofs.YtaoolpnnomhnoaaGreatDoor

/- loggiaref16: Decode. -/
namespace Go.Proofs.YtaoolpnnomhnoaaGreatDoor
open Go.RowKit

theorem decM_e1 {l : List UInt8} {x : Nat} (h : getAll 5 (l.drop 4) = .error x) : decM l = none := by
  unfold decM getM
  rw [h]
theorem decM_e2 {l r : List UInt8} {ns : List Int} {x : Nat} (h : getAll 5 (l.drop 4) = .ok (ns, r)) (h2 : getV 0 r = .error x) : decM l = none := by
  unfold decM getM
  rw [h]
  simp only
  rw [h2]
theorem decM_e3 {l r r2 : List UInt8} {ns : List Int} {v : Nat} (h : getAll 5 (l.drop 4) = .ok (ns, r)) (h2 : getV 0 r = .ok (v, r2)) (h3 : 512 < v) : decM l = none := by
  unfold decM getM
  rw [h]
  simp only
  rw [h2]
  simp only
  rw [if_pos h3]
theorem decM_e4 {l r r2 : List UInt8} {ns : List Int} {v x : Nat} (h : getAll 5 (l.drop 4) = .ok (ns, r)) (h2 : getV 0 r = .ok (v, r2)) (h3 : ¬ 512 < v) (h4 : getPts v r2 = .error x) : decM l = none := by
  unfold decM getM
  rw [h]
  simp only
  rw [h2]
  simp only
  rw [if_neg h3, h4]
theorem decM_go {l r r2 r3 : List UInt8} {ns : List Int} {ps : List Pt} {v : Nat} (h : getAll 5 (l.drop 4) = .ok (ns, r)) (h2 : getV 0 r = .ok (v, r2)) (h3 : ¬ 512 < v) (h4 : getPts v r2 = .ok (ps, r3)) : decM l = if checkP (mkMf ns ps) = 0 ∧ encM (mkMf ns ps) = l then some (mkMf ns ps) else none := by
  unfold decM getM
  rw [h]
  simp only
  rw [h2]
  simp only
  rw [if_neg h3, h4]
set_option maxRecDepth 100000 in
set_option maxHeartbeats 4000000 in
theorem rdecode_any (A : Option Addr) (n c : Nat) (l : List UInt8) (w : World) (h : In8 w A n c l) (hle : n ≤ 1000000000) :
    Calls Tryz.prog 44 #[.slice A n c] w fun e w' => DecP w (decM l) e w' := by
  have hl := h.len
  obtain ⟨W, hW⟩ : ∃ W, W = w.alloc (.cells #[.slice none 0 0, .int .i64 0, .int .i64 0, .int .i64 0, .int .i64 0, .int .i64 0] 24) := ⟨_, rfl⟩
  have hz0 : Row W w.heap.size 24 #[.slice none 0 0, .int .i64 0, .int .i64 0, .int .i64 0, .int .i64 0, .int .i64 0] := by rw [hW]; exact Row.new w _ _
  have hE0 : Ext w W := by rw [hW]; exact (Ext.refl w).alloc _
  by_cases h8 : n < 4
  · have hd := hide (decM_short (b := l) (by omega))
    rw [hW] at hE0
    clear hl h hz0 hW
    replace hE0 := hide hE0
    go_enter Tryz.func44, Tryz.ntmps44
    go_wp2_with fail
    exact bodyPost_ret (v := .tuple #[nilMf.val none 0, .int .i64 160]) (by simp [results, Tryz.results44, go_sem, nilMf, Mf.val]) rfl (by rw [hd.out]; exact ⟨hE0.out, rfl⟩)
  · obtain ⟨A1, c1, hsub, hin⟩ := h.from_ (fr := 4) (by omega) (z := 4) rfl
    have hga := rgetAll_any A1 (n - 4) c1 5 (l.drop 4) w W hin hE0 (by omega) (by omega)
    replace hW := hide hW
    replace h := hide h
    have hl' := hide hl
    cases hr : getAll 5 (l.drop 4) with
    | error x =>
      have hdn := hide (decM_e1 hr)
      rw [hr] at hga
      replace hga := hide hga
      clear hr hl hin
      go_enter Tryz.func44, Tryz.ntmps44
      go_wp2_with fail
      rw [← hW.out]
      refine hga.out.mono ?_
      rintro e w1 ⟨hE1, rfl, hx⟩
      have hx0 : ((x : Int) != 0) = true := by simp; omega
      have hz1 := hide (hz0.ext hE1)
      have hEw1 := hide (hE0.trans hE1)
      have t0 : w1.cell? ⟨w.heap.size, 0, none⟩ = some (.slice none 0 0) := hz1.out.cell 0 rfl
      have t1 : w1.cell? ⟨w.heap.size, 1, none⟩ = some (.int .i64 0) := hz1.out.cell 1 rfl
      have t2 : w1.cell? ⟨w.heap.size, 2, none⟩ = some (.int .i64 0) := hz1.out.cell 2 rfl
      have t3 : w1.cell? ⟨w.heap.size, 3, none⟩ = some (.int .i64 0) := hz1.out.cell 3 rfl
      have t4 : w1.cell? ⟨w.heap.size, 4, none⟩ = some (.int .i64 0) := hz1.out.cell 4 rfl
      have t5 : w1.cell? ⟨w.heap.size, 5, none⟩ = some (.int .i64 0) := hz1.out.cell 5 rfl
      have tf := fun i => hz1.out.free i
      have tl := hz1.out.lt
      clear hx
      go_wp2_with fail
      obtain ⟨w6, hw6⟩ : ∃ w6, w6 = setM w1 w.heap.size nilMf none 0 := ⟨_, rfl⟩
      have hk6 := setM_row hz1.out nilMf none 0
      rw [← hw6] at hk6
      have hE6 := setM_ext hEw1.out (Nat.le_refl _) nilMf none 0
      rw [← hw6] at hE6
      simp only [setM, nilMf, List.length_nil] at hw6
      rw [← hw6]
      have k0 : w6.cell? ⟨w.heap.size, 0, none⟩ = some (.slice none 0 0) := hk6.cell 0 rfl
      have k1 : w6.cell? ⟨w.heap.size, 1, none⟩ = some (.int .i64 0) := hk6.cell 1 rfl
      have k2 : w6.cell? ⟨w.heap.size, 2, none⟩ = some (.int .i64 0) := hk6.cell 2 rfl
      have k3 : w6.cell? ⟨w.heap.size, 3, none⟩ = some (.int .i64 0) := hk6.cell 3 rfl
      have k4 : w6.cell? ⟨w.heap.size, 4, none⟩ = some (.int .i64 0) := hk6.cell 4 rfl
      have k5 : w6.cell? ⟨w.heap.size, 5, none⟩ = some (.int .i64 0) := hk6.cell 5 rfl
      clear hw6 hk6
      exact bodyPost_ret (v := .tuple #[nilMf.val none 0, .int .i64 160]) (by simp [results, Tryz.results44, go_sem, nilMf, Mf.val, k0, k1, k2, k3, k4, k5]) rfl (by rw [hdn.out]; exact ⟨hE6, rfl⟩)
    | ok p =>
      obtain ⟨ns, r⟩ := p
      obtain ⟨hn5, hns, q, hq⟩ := getAll_len 5 (l.drop 4) ns r hr
      have hrl : r.length ≤ 1000000000 := by
        have := congrArg List.length hq
        rw [List.length_drop, List.length_append] at this
        omega
      obtain ⟨a0, a1, a2, a3, a4, rfl⟩ := five_of hn5
      rw [hr] at hga
      replace hga := hide hga
      replace hns := hide hns
      clear hl hin hq hn5
      cases hv : getV 0 r with
      | error x =>
        have hdn := hide (decM_e2 hr hv)
        have hx := getV_err r 0 x hv
        have hx0 : ((x : Int) != 0) = true := by simp; omega
        have hgv := hide (fun A c w1 (hi : In8 w A r.length c r) (hE : Ext w w1) => by have := rget_any A r.length c r w w1 hi hE hrl; rw [hv] at this; exact this)
        clear hr hx hv
        go_enter Tryz.func44, Tryz.ntmps44
        go_wp2_with fail
        rw [← hW.out]
        refine hga.out.mono ?_
        rintro e w1 ⟨hE1, A3, c4, B, cb, rfl, hbu, hin3⟩
        have hz1 := hz0.ext hE1
        have hEw1 := hE0.trans hE1
        go_wp2_with fail
        refine (hgv.out _ _ _ hin3 hEw1).mono ?_
        rintro e w2 ⟨hE2, rfl⟩
        have hz2 := hide (hz1.ext hE2)
        have hEw2 := hide (hEw1.trans hE2)
        have t0 : w2.cell? ⟨w.heap.size, 0, none⟩ = some (.slice none 0 0) := hz2.out.cell 0 rfl
        have t1 : w2.cell? ⟨w.heap.size, 1, none⟩ = some (.int .i64 0) := hz2.out.cell 1 rfl
        have t2 : w2.cell? ⟨w.heap.size, 2, none⟩ = some (.int .i64 0) := hz2.out.cell 2 rfl
        have t3 : w2.cell? ⟨w.heap.size, 3, none⟩ = some (.int .i64 0) := hz2.out.cell 3 rfl
        have t4 : w2.cell? ⟨w.heap.size, 4, none⟩ = some (.int .i64 0) := hz2.out.cell 4 rfl
        have t5 : w2.cell? ⟨w.heap.size, 5, none⟩ = some (.int .i64 0) := hz2.out.cell 5 rfl
        have tf := fun i => hz2.out.free i
        have tl := hz2.out.lt
        clear hz1 hEw1
        go_wp2_with fail
        obtain ⟨w6, hw6⟩ : ∃ w6, w6 = setM w2 w.heap.size nilMf none 0 := ⟨_, rfl⟩
        have hk6 := setM_row hz2.out nilMf none 0
        rw [← hw6] at hk6
        have hE6 := setM_ext hEw2.out (Nat.le_refl _) nilMf none 0
        rw [← hw6] at hE6
        simp only [setM, nilMf, List.length_nil] at hw6
        rw [← hw6]
        have k0 : w6.cell? ⟨w.heap.size, 0, none⟩ = some (.slice none 0 0) := hk6.cell 0 rfl
        have k1 : w6.cell? ⟨w.heap.size, 1, none⟩ = some (.int .i64 0) := hk6.cell 1 rfl
        have k2 : w6.cell? ⟨w.heap.size, 2, none⟩ = some (.int .i64 0) := hk6.cell 2 rfl
        have k3 : w6.cell? ⟨w.heap.size, 3, none⟩ = some (.int .i64 0) := hk6.cell 3 rfl
        have k4 : w6.cell? ⟨w.heap.size, 4, none⟩ = some (.int .i64 0) := hk6.cell 4 rfl
        have k5 : w6.cell? ⟨w.heap.size, 5, none⟩ = some (.int .i64 0) := hk6.cell 5 rfl
        clear hw6 hk6
        exact bodyPost_ret (v := .tuple #[nilMf.val none 0, .int .i64 160]) (by simp [results, Tryz.results44, go_sem, nilMf, Mf.val, k0, k1, k2, k3, k4, k5]) rfl (by rw [hdn.out]; exact ⟨hE6, rfl⟩)
      | ok p =>
        obtain ⟨v, r2⟩ := p
        have hv64 := getV_lt64 hv
        have hr2 : r2.length ≤ 1000000000 := by
          obtain ⟨_, _, q, hq, _⟩ := getV_lt r 0 v r2 hv
          rw [hq, List.length_append] at hrl
          omega
        have hgv := hide (fun A c w1 (hi : In8 w A r.length c r) (hE : Ext w w1) => by have := rget_any A r.length c r w w1 hi hE hrl; rw [hv] at this; exact this)
        by_cases h5 : 512 < v
        · have hdn := hide (decM_e3 hr hv h5)
          clear hr hv
          go_enter Tryz.func44, Tryz.ntmps44
          go_wp2_with fail
          rw [← hW.out]
          refine hga.out.mono ?_
          rintro e w1 ⟨hE1, A3, c4, B, cb, rfl, hbu, hin3⟩
          have hz1 := hz0.ext hE1
          have hEw1 := hE0.trans hE1
          go_wp2_with fail
          refine (hgv.out _ _ _ hin3 hEw1).mono ?_
          rintro e w2 ⟨hE2, A4, c5, rfl, hin4⟩
          have hz2 := hide (hz1.ext hE2)
          have hEw2 := hide (hEw1.trans hE2)
          have t0 : w2.cell? ⟨w.heap.size, 0, none⟩ = some (.slice none 0 0) := hz2.out.cell 0 rfl
          have t1 : w2.cell? ⟨w.heap.size, 1, none⟩ = some (.int .i64 0) := hz2.out.cell 1 rfl
          have t2 : w2.cell? ⟨w.heap.size, 2, none⟩ = some (.int .i64 0) := hz2.out.cell 2 rfl
          have t3 : w2.cell? ⟨w.heap.size, 3, none⟩ = some (.int .i64 0) := hz2.out.cell 3 rfl
          have t4 : w2.cell? ⟨w.heap.size, 4, none⟩ = some (.int .i64 0) := hz2.out.cell 4 rfl
          have t5 : w2.cell? ⟨w.heap.size, 5, none⟩ = some (.int .i64 0) := hz2.out.cell 5 rfl
          have tf := fun i => hz2.out.free i
          have tl := hz2.out.lt
          clear hz1 hEw1
          go_wp2_with fail
          obtain ⟨w6, hw6⟩ : ∃ w6, w6 = setM w2 w.heap.size nilMf none 0 := ⟨_, rfl⟩
          have hk6 := setM_row hz2.out nilMf none 0
          rw [← hw6] at hk6
          have hE6 := setM_ext hEw2.out (Nat.le_refl _) nilMf none 0
          rw [← hw6] at hE6
          simp only [setM, nilMf, List.length_nil] at hw6
          rw [← hw6]
          have k0 : w6.cell? ⟨w.heap.size, 0, none⟩ = some (.slice none 0 0) := hk6.cell 0 rfl
          have k1 : w6.cell? ⟨w.heap.size, 1, none⟩ = some (.int .i64 0) := hk6.cell 1 rfl
          have k2 : w6.cell? ⟨w.heap.size, 2, none⟩ = some (.int .i64 0) := hk6.cell 2 rfl
          have k3 : w6.cell? ⟨w.heap.size, 3, none⟩ = some (.int .i64 0) := hk6.cell 3 rfl
          have k4 : w6.cell? ⟨w.heap.size, 4, none⟩ = some (.int .i64 0) := hk6.cell 4 rfl
          have k5 : w6.cell? ⟨w.heap.size, 5, none⟩ = some (.int .i64 0) := hk6.cell 5 rfl
          clear hw6 hk6
          exact bodyPost_ret (v := .tuple #[nilMf.val none 0, .int .i64 160]) (by simp [results, Tryz.results44, go_sem, nilMf, Mf.val, k0, k1, k2, k3, k4, k5]) rfl (by rw [hdn.out]; exact ⟨hE6, rfl⟩)
        · cases hp : getPts v r2 with
          | error x =>
            have hdn := hide (decM_e4 hr hv h5 hp)
            have hpa := hide (fun A c w1 (hi : In8 w A r2.length c r2) (hE : Ext w w1) => by have := rparts_any A r2.length c v r2 w w1 hi hE hr2 (by omega); rw [hp] at this; exact this)
            have hv5 : v ≤ 512 := by omega
            clear hr hv hp
            go_enter Tryz.func44, Tryz.ntmps44
            go_wp2_with fail
            rw [← hW.out]
            refine hga.out.mono ?_
            rintro e w1 ⟨hE1, A3, c4, B, cb, rfl, hbu, hin3⟩
            have hz1 := hz0.ext hE1
            have hEw1 := hE0.trans hE1
            go_wp2_with fail
            refine (hgv.out _ _ _ hin3 hEw1).mono ?_
            rintro e w2 ⟨hE2, A4, c5, rfl, hin4⟩
            have hz2 := hz1.ext hE2
            have hEw2 := hEw1.trans hE2
            go_wp2_with fail
            refine (hpa.out _ _ _ hin4 hEw2).mono ?_
            rintro e w3 ⟨hE3, rfl⟩
            have hz3 := hide (hz2.ext hE3)
            have hEw3 := hide (hEw2.trans hE3)
            have t0 : w3.cell? ⟨w.heap.size, 0, none⟩ = some (.slice none 0 0) := hz3.out.cell 0 rfl
            have t1 : w3.cell? ⟨w.heap.size, 1, none⟩ = some (.int .i64 0) := hz3.out.cell 1 rfl
            have t2 : w3.cell? ⟨w.heap.size, 2, none⟩ = some (.int .i64 0) := hz3.out.cell 2 rfl
            have t3 : w3.cell? ⟨w.heap.size, 3, none⟩ = some (.int .i64 0) := hz3.out.cell 3 rfl
            have t4 : w3.cell? ⟨w.heap.size, 4, none⟩ = some (.int .i64 0) := hz3.out.cell 4 rfl
            have t5 : w3.cell? ⟨w.heap.size, 5, none⟩ = some (.int .i64 0) := hz3.out.cell 5 rfl
            have tf := fun i => hz3.out.free i
            have tl := hz3.out.lt
            clear hz1 hEw1 hz2 hEw2
            go_wp2_with fail
            obtain ⟨w6, hw6⟩ : ∃ w6, w6 = setM w3 w.heap.size nilMf none 0 := ⟨_, rfl⟩
            have hk6 := setM_row hz3.out nilMf none 0
            rw [← hw6] at hk6
            have hE6 := setM_ext hEw3.out (Nat.le_refl _) nilMf none 0
            rw [← hw6] at hE6
            simp only [setM, nilMf, List.length_nil] at hw6
            rw [← hw6]
            have k0 : w6.cell? ⟨w.heap.size, 0, none⟩ = some (.slice none 0 0) := hk6.cell 0 rfl
            have k1 : w6.cell? ⟨w.heap.size, 1, none⟩ = some (.int .i64 0) := hk6.cell 1 rfl
            have k2 : w6.cell? ⟨w.heap.size, 2, none⟩ = some (.int .i64 0) := hk6.cell 2 rfl
            have k3 : w6.cell? ⟨w.heap.size, 3, none⟩ = some (.int .i64 0) := hk6.cell 3 rfl
            have k4 : w6.cell? ⟨w.heap.size, 4, none⟩ = some (.int .i64 0) := hk6.cell 4 rfl
            have k5 : w6.cell? ⟨w.heap.size, 5, none⟩ = some (.int .i64 0) := hk6.cell 5 rfl
            clear hw6 hk6
            exact bodyPost_ret (v := .tuple #[nilMf.val none 0, .int .i64 160]) (by simp [results, Tryz.results44, go_sem, nilMf, Mf.val, k0, k1, k2, k3, k4, k5]) rfl (by rw [hdn.out]; exact ⟨hE6, rfl⟩)
          | ok p =>
            obtain ⟨ps, r3⟩ := p
            have hdg := hide (decM_go hr hv h5 hp)
            obtain ⟨hpl, hpo⟩ := getPts_in v r2 ps r3 hp
            have hpa := hide (fun A c w1 (hi : In8 w A r2.length c r2) (hE : Ext w w1) => by have := rparts_any A r2.length c v r2 w w1 hi hE hr2 (by omega); rw [hp] at this; exact this)
            have hv5 : v ≤ 512 := by omega
            subst hpl
            replace hpo := hide hpo
            clear hr hv hp
            go_enter Tryz.func44, Tryz.ntmps44
            go_wp2_with fail
            rw [← hW.out]
            refine hga.out.mono ?_
            rintro e w1 ⟨hE1, A3, c4, B, cb, rfl, hbu, hin3⟩
            have hz1 := hz0.ext hE1
            have hEw1 := hE0.trans hE1
            go_wp2_with fail
            refine (hgv.out _ _ _ hin3 hEw1).mono ?_
            rintro e w2 ⟨hE2, A4, c5, rfl, hin4⟩
            have hz2 := hz1.ext hE2
            have hEw2 := hEw1.trans hE2
            go_wp2_with fail
            refine (hpa.out _ _ _ hin4 hEw2).mono ?_
            rintro e w3 ⟨hE3, P, cp, rfl, hown⟩
            have hz20 := hz2.lt
            have hz3 := hide (hz2.ext hE3)
            have hEw3 := hide (hEw2.trans hE3)
            obtain ⟨g, o, rfl, hcc⟩ := hbu.cells.at_ (by simp)
            have hE13 := hE2.trans hE3
            have z0 : w3.cell? ⟨g, o, none⟩ = some (.int .i64 a0) := hE13.cell (hcc 0 _ rfl)
            have z1 : w3.cell? ⟨g, o + 1, none⟩ = some (.int .i64 a1) := hE13.cell (hcc 1 _ rfl)
            have z2 : w3.cell? ⟨g, o + 2, none⟩ = some (.int .i64 a2) := hE13.cell (hcc 2 _ rfl)
            have z3 : w3.cell? ⟨g, o + 3, none⟩ = some (.int .i64 a3) := hE13.cell (hcc 3 _ rfl)
            have z4 : w3.cell? ⟨g, o + 4, none⟩ = some (.int .i64 a4) := hE13.cell (hcc 4 _ rfl)
            clear hz1 hEw1 hz2 hEw2 hcc hbu hE13
            go_wp2_with fail
            refine wp_region_text follows (by kernel_rfl) (by kernel_rfl) (fun K hK => ?_)
            go_wp2_with fail
            refine ⟨by kernel_rfl, ?_⟩
            go_wp2_with fail
            obtain ⟨w4, hw4⟩ : ∃ w4, w4 = (w3.alloc (.cells #[.slice P ps.length cp, .int .i64 a0, .int .i64 a1, .int .i64 a2, .int .i64 a3, .int .i64 a4] 24)).drew := ⟨_, rfl⟩
            have hE34 : Ext w3 w4 := by rw [hw4]; exact ((Ext.refl w3).alloc _).drew
            have hmr : Row w4 w3.heap.size 24 #[.slice P ps.length cp, .int .i64 a0, .int .i64 a1, .int .i64 a2, .int .i64 a3, .int .i64 a4] := by rw [hw4]; exact (Row.new w3 _ _).drew
            rw [← hw4]
            have hown4 := hE34.owns hown
            have hOk : (mkMf [a0, a1, a2, a3, a4] ps).Ok w4 w4.heap.size P cp := by
              refine ⟨owns_parts hown4 hpo.out (by show ps.length ≤ _; omega), ?_, ?_, ?_, ?_, ?_⟩
              · exact hns.out a0 (by simp)
              · exact hns.out a1 (by simp)
              · exact hns.out a2 (by simp)
              · exact hns.out a3 (by simp)
              · exact hns.out a4 (by simp)
            have hval : (mkMf [a0, a1, a2, a3, a4] ps).val P cp = .agg #[.slice P ps.length cp, .int .i64 a0, .int .i64 a1, .int .i64 a2, .int .i64 a3, .int .i64 a4] := rfl
            have hcs : (mkMf [a0, a1, a2, a3, a4] ps).cells P cp = #[.slice P ps.length cp, .int .i64 a0, .int .i64 a1, .int .i64 a2, .int .i64 a3, .int .i64 a4] := rfl
            have hfl : (mkMf [a0, a1, a2, a3, a4] ps).ps = ps ∧ (mkMf [a0, a1, a2, a3, a4] ps).floor = a0 ∧ (mkMf [a0, a1, a2, a3, a4] ps).done = a1 ∧ (mkMf [a0, a1, a2, a3, a4] ps).log = a2 ∧ (mkMf [a0, a1, a2, a3, a4] ps).next = a3 ∧ (mkMf [a0, a1, a2, a3, a4] ps).now = a4 := ⟨rfl, rfl, rfl, rfl, rfl, rfl⟩
            have hen := rencode_any w4.heap.size _ P cp w4 hOk
            rw [hval] at hen
            obtain ⟨m, hm⟩ : ∃ m, m = mkMf [a0, a1, a2, a3, a4] ps := ⟨_, rfl⟩
            rw [← hm] at hen hdg hOk hval hcs hfl
            have hnw := hide (show (Value.slice P ps.length cp).ownBlock ≠ some w.heap.size from fun e => by
              obtain ⟨_, _, hb⟩ := owns_row hown e
              have := hz3.out.lt
              have hb2 := hz20
              omega)
            have hown' := hide hown
            replace hen := hide hen
            replace hOk := hide hOk
            replace hval := hide hval
            replace hcs := hide hcs
            replace hfl := hide hfl
            replace hmr := hide hmr
            replace hE34 := hide hE34
            clear hw4 hm hown hown4 z0 z1 z2 z3 z4
            refine hen.out.mono ?_
            rintro e w5 ⟨hE5, hyes, hno⟩
            have hE35 := hide (hE34.out.trans hE5)
            have hz5 := hide (hz3.out.ext hE35.out)
            have hEw5 := hide (hEw3.out.trans hE35.out)
            have hm5 := hmr.out.ext hE5
            have v0 : w5.cell? ⟨w3.heap.size, 0, none⟩ = some (.slice P ps.length cp) := hm5.cell 0 rfl
            have v1 : w5.cell? ⟨w3.heap.size, 1, none⟩ = some (.int .i64 a0) := hm5.cell 1 rfl
            have v2 : w5.cell? ⟨w3.heap.size, 2, none⟩ = some (.int .i64 a1) := hm5.cell 2 rfl
            have v3 : w5.cell? ⟨w3.heap.size, 3, none⟩ = some (.int .i64 a2) := hm5.cell 3 rfl
            have v4 : w5.cell? ⟨w3.heap.size, 4, none⟩ = some (.int .i64 a3) := hm5.cell 4 rfl
            have v5 : w5.cell? ⟨w3.heap.size, 5, none⟩ = some (.int .i64 a4) := hm5.cell 5 rfl
            have t0 : w5.cell? ⟨w.heap.size, 0, none⟩ = some (.slice none 0 0) := hz5.out.cell 0 rfl
            have t1 : w5.cell? ⟨w.heap.size, 1, none⟩ = some (.int .i64 0) := hz5.out.cell 1 rfl
            have t2 : w5.cell? ⟨w.heap.size, 2, none⟩ = some (.int .i64 0) := hz5.out.cell 2 rfl
            have t3 : w5.cell? ⟨w.heap.size, 3, none⟩ = some (.int .i64 0) := hz5.out.cell 3 rfl
            have t4 : w5.cell? ⟨w.heap.size, 4, none⟩ = some (.int .i64 0) := hz5.out.cell 4 rfl
            have t5 : w5.cell? ⟨w.heap.size, 5, none⟩ = some (.int .i64 0) := hz5.out.cell 5 rfl
            have tf := fun i => hz5.out.free i
            have tl := hz5.out.lt
            replace hyes := hide hyes
            replace hno := hide hno
            clear hm5
            by_cases hc : checkP m = 0
            · obtain ⟨A5, c6, rfl, hb5⟩ := hyes.out hc
              have hs1 := run_str hb5.cells (encM m).length c6 rfl
              have hs2 := run_str ((h.out.ext hEw5.out).bytes) n c hl'.out
              by_cases he : encM m = l
              · have hdn : decM l = some m := by rw [hdg.out]; simp only [hc, he, and_self, if_true]
                replace hdn := hide hdn
                have hbq : (encM m == l) = true := by rw [he]; simp
                obtain ⟨k, hk⟩ : ∃ k, k = (encM m).length := ⟨_, rfl⟩
                rw [← hk] at hs1 ⊢
                clear hk hc he hdg
                go_wp2_with fail
                obtain ⟨w6, hw6⟩ : ∃ w6, w6 = setM w5 w.heap.size m P cp := ⟨_, rfl⟩
                have hk6 := setM_row hz5.out m P cp
                rw [← hw6, hcs.out] at hk6
                have hE6 := setM_ext hEw5.out (Nat.le_refl _) m P cp
                rw [← hw6] at hE6
                have ho6 := setM_owns (hE35.out.owns hown'.out) hnw.out m P cp
                rw [← hw6] at ho6
                unfold setM at hw6
                rw [hfl.out.1, hfl.out.2.1, hfl.out.2.2.1, hfl.out.2.2.2.1, hfl.out.2.2.2.2.1, hfl.out.2.2.2.2.2] at hw6
                rw [← hw6]
                have k0 : w6.cell? ⟨w.heap.size, 0, none⟩ = some (.slice P ps.length cp) := hk6.cell 0 rfl
                have k1 : w6.cell? ⟨w.heap.size, 1, none⟩ = some (.int .i64 a0) := hk6.cell 1 rfl
                have k2 : w6.cell? ⟨w.heap.size, 2, none⟩ = some (.int .i64 a1) := hk6.cell 2 rfl
                have k3 : w6.cell? ⟨w.heap.size, 3, none⟩ = some (.int .i64 a2) := hk6.cell 3 rfl
                have k4 : w6.cell? ⟨w.heap.size, 4, none⟩ = some (.int .i64 a3) := hk6.cell 4 rfl
                have k5 : w6.cell? ⟨w.heap.size, 5, none⟩ = some (.int .i64 a4) := hk6.cell 5 rfl
                have hPS := owns_parts ho6 hpo.out (by omega)
                have hok6 : m.Ok w6 w6.heap.size P cp := ⟨by rw [hfl.out.1]; exact hPS, hOk.out.floor, hOk.out.done, hOk.out.log, hOk.out.next, hOk.out.now⟩
                clear hw6 hk6 ho6 hPS
                exact bodyPost_ret (v := .tuple #[m.val P cp, .int .i64 0]) (by rw [hval.out]; simp [results, Tryz.results44, go_sem, k0, k1, k2, k3, k4, k5]) rfl (by rw [hdn.out]; exact ⟨hE6, P, cp, rfl, hok6⟩)
              · have hdn : decM l = none := by rw [hdg.out]; simp only [hc, he, and_false, if_false]
                replace hdn := hide hdn
                have hbq : (encM m == l) = false := by simpa using he
                obtain ⟨k, hk⟩ : ∃ k, k = (encM m).length := ⟨_, rfl⟩
                rw [← hk] at hs1 ⊢
                clear hk hc he hdg
                go_wp2_with fail
                obtain ⟨w6, hw6⟩ : ∃ w6, w6 = setM w5 w.heap.size nilMf none 0 := ⟨_, rfl⟩
                have hk6 := setM_row hz5.out nilMf none 0
                rw [← hw6] at hk6
                have hE6 := setM_ext hEw5.out (Nat.le_refl _) nilMf none 0
                rw [← hw6] at hE6
                simp only [setM, nilMf, List.length_nil] at hw6
                rw [← hw6]
                have k0 : w6.cell? ⟨w.heap.size, 0, none⟩ = some (.slice none 0 0) := hk6.cell 0 rfl
                have k1 : w6.cell? ⟨w.heap.size, 1, none⟩ = some (.int .i64 0) := hk6.cell 1 rfl
                have k2 : w6.cell? ⟨w.heap.size, 2, none⟩ = some (.int .i64 0) := hk6.cell 2 rfl
                have k3 : w6.cell? ⟨w.heap.size, 3, none⟩ = some (.int .i64 0) := hk6.cell 3 rfl
                have k4 : w6.cell? ⟨w.heap.size, 4, none⟩ = some (.int .i64 0) := hk6.cell 4 rfl
                have k5 : w6.cell? ⟨w.heap.size, 5, none⟩ = some (.int .i64 0) := hk6.cell 5 rfl
                clear hw6 hk6
                exact bodyPost_ret (v := .tuple #[nilMf.val none 0, .int .i64 160]) (by simp [results, Tryz.results44, go_sem, nilMf, Mf.val, k0, k1, k2, k3, k4, k5]) rfl (by rw [hdn.out]; exact ⟨hE6, rfl⟩)
            · have hdn : decM l = none := by rw [hdg.out]; simp only [hc, false_and, if_false]
              have he := hno.out hc
              have hcn : ((checkP m : Int) != 0) = true := by simp; omega
              obtain ⟨k, hk⟩ : ∃ k, k = checkP m := ⟨_, rfl⟩
              rw [← hk] at he hcn
              subst he
              replace hdn := hide hdn
              clear hc hdg hk
              go_wp2_with fail
              obtain ⟨w6, hw6⟩ : ∃ w6, w6 = setM w5 w.heap.size nilMf none 0 := ⟨_, rfl⟩
              have hk6 := setM_row hz5.out nilMf none 0
              rw [← hw6] at hk6
              have hE6 := setM_ext hEw5.out (Nat.le_refl _) nilMf none 0
              rw [← hw6] at hE6
              simp only [setM, nilMf, List.length_nil] at hw6
              rw [← hw6]
              have k0 : w6.cell? ⟨w.heap.size, 0, none⟩ = some (.slice none 0 0) := hk6.cell 0 rfl
              have k1 : w6.cell? ⟨w.heap.size, 1, none⟩ = some (.int .i64 0) := hk6.cell 1 rfl
              have k2 : w6.cell? ⟨w.heap.size, 2, none⟩ = some (.int .i64 0) := hk6.cell 2 rfl
              have k3 : w6.cell? ⟨w.heap.size, 3, none⟩ = some (.int .i64 0) := hk6.cell 3 rfl
              have k4 : w6.cell? ⟨w.heap.size, 4, none⟩ = some (.int .i64 0) := hk6.cell 4 rfl
              have k5 : w6.cell? ⟨w.heap.size, 5, none⟩ = some (.int .i64 0) := hk6.cell 5 rfl
              clear hw6 hk6
              exact bodyPost_ret (v := .tuple #[nilMf.val none 0, .int .i64 160]) (by simp [results, Tryz.results44, go_sem, nilMf, Mf.val, k0, k1, k2, k3, k4, k5]) rfl (by rw [hdn.out]; exact ⟨hE6, rfl⟩)
end Go.Proofs.YtaoolpnnomhnoaaGreatDoor

/- loggialaw16: few. -/
namespace Go.Proofs.YtaoolpnnomhnoaaGreatDoor
open Go.RowKit

set_option maxRecDepth 100000 in
theorem run_head7 {t e n c k : Nat} {A : Option Addr} (ht : Tryz.prog.underlying t = some (.slice e)) (hs : ∀ W : World, (sizeOf e).run Tryz.prog W = .ok 7 W) (h : k ≤ c) (hA : ∀ a, A = some a → a.spot = none) (W : World) :
    (Instr.sliceAt t (.slice A n c) none (some (.int .i64 k)) none).run Tryz.prog W = .ok (.slice A k c) W := by
  have he : Tryz.prog.elem t = e := by unfold Program.elem; rw [ht]
  rw [run_sliceAt_slice W t _ _ _ _ (by rw [ht, he]), run_slice_h W t A n c (by rw [ht, he]) .i64 k (by omega) (by omega), he, hs]
  simp only [Result.andThen_ok]
  congr 1
  unfold sliced
  have : (if c = 0 then A else A.map fun x => x.add (0 * 7)) = A := by
    cases A with
    | none => simp
    | some a =>
      obtain ⟨b, o, sp⟩ := a
      obtain rfl : sp = none := hA _ rfl
      simp [Addr.add_lit]
  rw [this]
  simp

set_option maxRecDepth 100000 in
set_option maxHeartbeats 2000000 in
theorem few_any (base : Nat) (m : Mf) (A : Option Addr) (c : Nat) (w : World) (h : m.Ok w base A c) : Calls Tryz.prog 5 #[m.val A c] w fun e w' => e = .returned (m.few.val A c) ∧ Ext w w' := by
  have hp := h.parts
  have hmost := hp.most
  have hcap := hp.cap
  have hv : m.few.val A c = .agg #[.slice A (m.ps.take 40).length c, .int .i64 m.floor, .int .i64 m.done, .int .i64 m.log, .int .i64 m.next, .int .i64 m.now] := rfl
  rw [hv]
  unfold Mf.val
  by_cases h4 : m.ps.length ≤ 40
  · rw [List.take_of_length_le h4]
    clear hv hp
    go_enter Tryz.func5, Tryz.ntmps5
    go_wp2_with fail
    exact bodyPost_ret (by simp [results, Tryz.results5, go_sem]) rfl ⟨rfl, ((Ext.refl w).alloc _).alloc _⟩
  · have h40 : (m.ps.take 40).length = 40 := by rw [List.length_take]; omega
    rw [h40]
    have hr := run_head7 (t := 22) (e := 71) (k := 40) (n := m.ps.length) (c := c) (A := A) Tryz.underlying22 (fun W => by kernel_rfl) (by omega) fun x hx => (hp.away (fun e => h4 (by rw [e]; simp)) x hx).2
    clear hv hp h40
    go_enter Tryz.func5, Tryz.ntmps5
    go_wp2_with fail
    exact bodyPost_ret (by simp [results, Tryz.results5, go_sem]) rfl ⟨rfl, ((Ext.refl w).alloc _).alloc _⟩
end Go.Proofs.YtaoolpnnomhnoaaGreatDoor

/- api.Part: are two alike? -/
namespace Go.Proofs.YtaoolpnnomhnoaaGreatDoor
open Go.RowKit

set_option maxRecDepth 100000 in
set_option maxHeartbeats 2000000 in
theorem part_neq (p q : Pt) (W : World) : (binOp .neq 71 p.val q.val).run Tryz.prog W = .ok (.bool (!(p.id == q.id && p.st == q.st && p.lo == q.lo && p.hi == q.hi && p.fi == q.fi && p.la == q.la && p.n == q.n))) W := by
  unfold Pt.val
  rw [run_neq_struct, run_equalIn_agg _ _ _ _ _ (by kernel_rfl) (by kernel_rfl)]
  simp only [Program.fieldsOf, Tryz.underlying71]
  have e1 : ∀ (a b : Int) (W : World), (Op.equalIn 9999 3 (.int .i64 a) (.int .i64 b)).run Tryz.prog W = .ok (a == b) W := fun a b W => run_equalIn_int W 9998 3 .i64 .i64 a b Tryz.underlying3
  have e2 : ∀ (a b : Int) (W : World), (Op.equalIn 9999 69 (.int .i64 a) (.int .i64 b)).run Tryz.prog W = .ok (a == b) W := fun a b W => run_equalIn_int W 9998 69 .i64 .i64 a b Tryz.underlying69
  simp [Op.eqFields, part, e1, e2, go_sem]
  by_cases h1 : p.id = q.id <;> by_cases h2 : p.st = q.st <;> by_cases h3 : p.lo = q.lo <;> by_cases h4 : p.hi = q.hi <;> by_cases h5 : p.fi = q.fi <;> by_cases h6 : p.la = q.la <;> by_cases h7 : p.n = q.n
  all_goals simp [h1, h2, h3, h4, h5, h6, h7]
theorem part_ne (p q : Pt) (W : World) : (binOp .neq 71 p.val q.val).run Tryz.prog W = .ok (.bool (!decide (p = q))) W := by
  have h : decide (p = q) = (p.id == q.id && p.st == q.st && p.lo == q.lo && p.hi == q.hi && p.fi == q.fi && p.la == q.la && p.n == q.n) := by
    rw [Bool.eq_iff_iff]
    cases p
    cases q
    simp [and_assoc]
  rw [h]
  exact part_neq p q W
def sameP (a b : Mf) : Bool := decide (a.floor = b.floor) && decide (a.done = b.done) && decide (a.log = b.log) && decide (a.next = b.next) && decide (a.now = b.now) && decide (a.ps = b.ps)
end Go.Proofs.YtaoolpnnomhnoaaGreatDoor

/- loggiaref16: Same. -/
namespace Go.Proofs.YtaoolpnnomhnoaaGreatDoor
open Go.RowKit

theorem sameP_len {a b : Mf} (h : a.ps.length ≠ b.ps.length) : sameP a b = false := by
  unfold sameP
  rw [decide_eq_false fun e : a.ps = b.ps => h (by rw [e])]
  simp
set_option maxRecDepth 100000 in
set_option maxHeartbeats 4000000 in
theorem rsame_any (base base2 : Nat) (a b : Mf) (A B : Option Addr) (c c2 : Nat) (w : World) (ha : a.Ok w base A c) (hb : b.Ok w base2 B c2) :
    Calls Tryz.prog 13 #[a.val A c, b.val B c2] w fun e w' => e = .returned (.bool (sameP a b)) ∧ Ext w w' := by
  have ha' := ha.parts
  have hb' := hb.parts
  have hma := ha'.most
  have hmb := hb'.most
  have hlen : ((a.ps.length : Int) != (b.ps.length : Int)) = true → sameP a b = false := fun h => sameP_len (by simp at h; omega)
  replace hlen := hide hlen
  unfold Mf.val
  go_enter Tryz.func13, Tryz.ntmps13
  go_wp2_with fail
  all_goals first
    | (go_ret; exact ⟨ret_bool (by clear ha hb ha' hb'; first | (unfold sameP; simp_all; done) | exact (hlen.out (by assumption)).symm), ((Ext.refl w).alloc _).alloc _⟩)
    | skip
  rename_i q1 q2 q3 q4 q5 q6 K hK
  have hs : sameP a b = decide (a.ps = b.ps) := by unfold sameP; simp [q1, q2, q3, q4, q5]
  have hl : a.ps.length = b.ps.length := by simp at q6; omega
  rw [← hl] at hb'
  clear q1 q2 q3 q4 q5 q6 ha hb hmb hlen
  obtain ⟨n, hn⟩ : ∃ n, n = a.ps.length := ⟨_, rfl⟩
  rw [← hl, ← hn]
  rw [← hn] at ha' hb' hma
  replace hs := hide hs
  replace hl := hide hl
  replace hn := hide hn
  go_loopw [5] (fun s5 wr => ∃ i : Nat, s5 = .int .i64 i ∧ i ≤ n ∧ Hid (a.ps.take i = b.ps.take i) ∧ Hid (Ext w wr) ∧ Hid (wr.cell? ⟨w.heap.size, 0, none⟩ = some (.slice A n c)) ∧ Hid (wr.cell? ⟨w.heap.size + 1, 0, none⟩ = some (.slice B n c2))) (fun s5 _ => n - (intOf s5).toNat)
  case atStart => exact ⟨0, rfl, by omega, rfl, hide (((Ext.refl w).alloc _).alloc _), hide (by go_simp), hide (by go_simp)⟩
  case round =>
    obtain ⟨i, rfl, hi, hab, hE, hx, hy⟩ := hrel
    have x0 := hx.out
    have y0 := hy.out
    by_cases hin : i < n
    · obtain ⟨g, s, p, rfl, hp, hpo, k0, k1, k2, k3, k4, k5, k6⟩ := (ha'.ext hE.out).at_ hin
      obtain ⟨g2, s2, q, rfl, hq, hqo, j0, j1, j2, j3, j4, j5, j6⟩ := (hb'.ext hE.out).at_ hin
      have hne := part_ne p q
      unfold Pt.val at hne
      replace hp := hide hp
      replace hq := hide hq
      have hi0 : (0 : Int) ≤ i := by omega
      have hi1 : (i : Int) < n := by omega
      go_wp2_with fail
      go_quiet (fail)
      go_wp2_with fail
      · go_ret
        have h : ¬ p = q := by first | assumption | simp_all
        rw [hs.out]
        exact ⟨ret_bool (decide_eq_false fun e => h (by have e1 := hp.out; rw [e, hq.out] at e1; exact (Option.some.inj e1).symm)).symm, by first | exact hE.out.drew | exact hE.out.drewN _⟩
      · go_roundw
        case rel => 
          have h : p = q := by first | assumption | simp_all
          exact ⟨i + 1, by go_num, by omega, hide (by rw [List.take_add_one, List.take_add_one, hab.out, hp.out, hq.out, h]), by first | exact hide hE.out.drew | exact hide (hE.out.drewN _),
            hide ((by first | exact (Ext.refl _).drew | exact (Ext.refl _).drewN _ : Ext wr _).cell hx.out), hide ((by first | exact (Ext.refl _).drew | exact (Ext.refl _).drewN _ : Ext wr _).cell hy.out)⟩
        case measure => simp [intOf]; omega
    · obtain rfl : i = n := by omega
      go_wp2_with fail
      go_ret
      rw [hs.out]
      refine ⟨ret_bool (decide_eq_true ?_).symm, hE.out⟩
      have h := hab.out
      rw [List.take_of_length_le (by rw [hn.out]; exact Nat.le_refl _), List.take_of_length_le (by rw [hn.out, hl.out]; exact Nat.le_refl _)] at h
      exact h
end Go.Proofs.YtaoolpnnomhnoaaGreatDoor

/- loggia/manifest: names of eight digits. -/
namespace Go.Proofs.YtaoolpnnomhnoaaGreatDoor
open Go.RowKit

theorem cat_bytes (a b : List UInt8) : (ByteArray.mk a.toArray ++ ByteArray.mk b.toArray) = ⟨(a ++ b).toArray⟩ := by
  apply ByteArray.ext
  rw [ByteArray.data_append]
  simp
theorem cat_bytes2 (a : Array UInt8) (b : List UInt8) : (ByteArray.mk a ++ ByteArray.mk b.toArray) = ⟨(a.toList ++ b).toArray⟩ := by
  have := cat_bytes a.toList b
  simpa using this
theorem ret_str {a b : ByteArray} (h : a = b) : Ending.returned (.string a) = .returned (.string b) := by rw [h]
def dig8 (n : Nat) : List UInt8 := Lib.repeatL [48] (8 - (Lib.decDigits n).length) ++ Lib.decDigits n
set_option maxRecDepth 100000 in
set_option maxHeartbeats 2000000 in
theorem eight_of (n : Nat) (w : World) (h8 : (Lib.decDigits n).length ≤ 8)
    (hI : ∀ W, Ext w W → Calls Tryz.prog 93 #[.int .i64 n] W fun e w' => e = .returned (.string ⟨(Lib.decDigits n).toArray⟩) ∧ Ext W w') :
    Calls Tryz.prog 67 #[.int .i64 n] w fun e w' => e = .returned (.string ⟨(dig8 n).toArray⟩) ∧ Ext w w' := by
  have hR : ∀ W, Calls Tryz.prog 94 #[.string ⟨#[48]⟩, .int .i64 ((8 - (Lib.decDigits n).length : Nat) : Int)] W fun e w' => e = .returned (.string ⟨(Lib.repeatL [48] (8 - (Lib.decDigits n).length)).toArray⟩) ∧ Ext W w' := fun W => Tryz.strings_Repeat ⟨#[48]⟩ _ W (by omega) (by show 1 * _ ≤ _; omega)
  have hd : dig8 n = Lib.repeatL [48] (8 - (Lib.decDigits n).length) ++ Lib.decDigits n := rfl
  obtain ⟨D, hD⟩ : ∃ D, D = Lib.decDigits n := ⟨_, rfl⟩
  rw [← hD] at h8 hI hR hd
  obtain ⟨Z, hZ⟩ : ∃ Z, Z = Lib.repeatL [48] (8 - D.length) := ⟨_, rfl⟩
  rw [← hZ] at hR hd
  have hZl : Z.length ≤ 8 := by rw [hZ, Lib.repeatL_length]; simp
  obtain ⟨k, hk⟩ : ∃ k, k = 8 - D.length := ⟨_, rfl⟩
  have hki : (8 : Int) - (D.length : Int) = (k : Int) := by omega
  rw [← hk] at hR
  replace hI := hide hI
  replace hR := hide hR
  replace hd := hide hd
  clear hD hZ hk
  go_enter Tryz.func67, Tryz.ntmps67
  go_wp2_with fail
  refine (hI.out _ (Ext.refl w)).mono ?_
  rintro e w1 ⟨rfl, hE1⟩
  go_wp2_with fail
  refine (hR.out _).mono ?_
  rintro e w2 ⟨rfl, hE2⟩
  go_wp2_with fail
  go_ret
  rw [hd.out]
  exact ⟨ret_str (cat_bytes _ _), hE1.trans hE2⟩
theorem dd8 {n : Nat} (h1 : 1 ≤ n) (h2 : n ≤ 99999999) : (Lib.decDigits n).length ≤ 8 := by
  rw [Lib.decDigits_length]
  rcases Nat.lt_or_ge n 10 with h | h
  · rw [Lib.nDigits_unique 0 n (by omega) (by omega)]; omega
  rcases Nat.lt_or_ge n 100 with h | h
  · rw [Lib.nDigits_unique 1 n (by omega) (by omega)]; omega
  rcases Nat.lt_or_ge n 1000 with h | h
  · rw [Lib.nDigits_unique 2 n (by omega) (by omega)]; omega
  rcases Nat.lt_or_ge n 10000 with h | h
  · rw [Lib.nDigits_unique 3 n (by omega) (by omega)]; omega
  rcases Nat.lt_or_ge n 100000 with h | h
  · rw [Lib.nDigits_unique 4 n (by omega) (by omega)]; omega
  rcases Nat.lt_or_ge n 1000000 with h | h
  · rw [Lib.nDigits_unique 5 n (by omega) (by omega)]; omega
  rcases Nat.lt_or_ge n 10000000 with h | h
  · rw [Lib.nDigits_unique 6 n (by omega) (by omega)]; omega
  · rw [Lib.nDigits_unique 7 n (by omega) (by omega)]; omega
theorem dig8_len {n : Nat} (h : (Lib.decDigits n).length ≤ 8) : (dig8 n).length = 8 := by
  unfold dig8
  rw [List.length_append, Lib.repeatL_length]
  simp
  omega
/-- What it takes that a number is put in eight digits there. -/
def Eights (w : World) (n : Int) : Prop := numP n = true → ∀ W, Ext w W → Calls Tryz.prog 67 #[.int .i64 n] W fun e w' => e = .returned (.string ⟨(dig8 n.toNat).toArray⟩) ∧ Ext W w'
theorem Eights.ext {w w1 : World} {n : Int} (h : Eights w n) (hE : Ext w w1) : Eights w1 n := fun hn W hW => h hn W (hE.trans hW)
theorem eights_small (w : World) (n : Nat) (h : n < 100) : Eights w n := fun hn W _ => by
  have h1 : 1 ≤ n := by unfold numP at hn; simp at hn; omega
  rw [Int.toNat_natCast]
  exact eight_of n W (dd8 h1 (by omega)) fun W' _ => (Tryz.strconv_Itoa_small n h W').mono fun e w' ⟨h1, h2⟩ => ⟨h1, by rw [h2]; exact Ext.refl _⟩
def logP (n : Int) : List UInt8 := if numP n then [108, 111, 103, 45] ++ dig8 n.toNat else []
def fileP (id st : Int) : List UInt8 := if numP id = false then [] else if st = 2 then [115, 101, 103, 45] ++ dig8 id.toNat else if st = 3 then [105, 99, 101, 45] ++ dig8 id.toNat else []
set_option maxRecDepth 100000 in
set_option maxHeartbeats 2000000 in
theorem log_any (n : Int) (w : World) (h : Eights w n) : Calls Tryz.prog 33 #[.int .i64 n] w fun e w' => e = .returned (.string ⟨(logP n).toArray⟩) ∧ Ext w w' := by
  have hn := hide (numbered_any n)
  replace h := hide h
  go_enter Tryz.func33, Tryz.ntmps33
  go_wp2_with fail
  refine (hn.out _).mono ?_
  rintro e w1 ⟨rfl, rfl⟩
  have hl : (!numP n) = false → (dig8 n.toNat).length ≤ 8 := fun hq => by unfold numP at hq; simp at hq; rw [dig8_len (dd8 (by omega) (by omega))]; omega
  replace hl := hide hl
  go_wp2_with (go_at_call 67; refine (h.out (by simp_all) _ (Ext.refl _)).mono ?_; rintro e w2 ⟨rfl, hE2⟩; have hl2 := hl.out ‹_›)
  · go_ret
    exact ⟨by unfold logP; simp_all, Ext.refl _⟩
  · go_ret
    exact ⟨ret_str (by rw [cat_bytes2]; unfold logP; simp_all), hE2⟩
set_option maxRecDepth 100000 in
set_option maxHeartbeats 4000000 in
theorem file_any (p : Pt) (w : World) (h : Eights w p.id) : Calls Tryz.prog 32 #[p.val] w fun e w' => e = .returned (.string ⟨(fileP p.id p.st).toArray⟩) ∧ Ext w w' := by
  have hn := hide (numbered_any p.id)
  have hE0 : ∀ cs t, Ext w (w.alloc (.cells cs t)) := fun _ _ => (Ext.refl w).alloc _
  replace hE0 := hide hE0
  replace h := hide h
  have hl : (!numP p.id) = false → (dig8 p.id.toNat).length ≤ 8 := fun hq => by unfold numP at hq; simp at hq; rw [dig8_len (dd8 (by omega) (by omega))]; omega
  replace hl := hide hl
  unfold Pt.val
  go_enter Tryz.func32, Tryz.ntmps32
  go_wp2_with (first | (go_at_call 66; refine (hn.out _).mono ?_; rintro e w1 ⟨rfl, rfl⟩) | (go_at_call 67; refine (h.out (by simp_all) _ (hE0.out _ _)).mono ?_; rintro e w2 ⟨rfl, hE2⟩; have hl2 := hl.out ‹_›))
  · go_ret
    exact ⟨ret_str (by unfold fileP; simp_all), hE0.out _ _⟩
  · go_ret
    exact ⟨ret_str (by rw [cat_bytes2]; unfold fileP; simp_all), (hE0.out _ _).trans hE2⟩
  · go_ret
    exact ⟨ret_str (by rw [cat_bytes2]; unfold fileP; simp_all), (hE0.out _ _).trans hE2⟩
  · go_ret
    exact ⟨ret_str (by unfold fileP; simp_all), hE0.out _ _⟩
end Go.Proofs.YtaoolpnnomhnoaaGreatDoor

/- loggialaw16: awake. -/
namespace Go.Proofs.YtaoolpnnomhnoaaGreatDoor
open Go.RowKit

theorem file7 : fileP 7 2 = [115, 101, 103, 45, 48, 48, 48, 48, 48, 48, 48, 55] := by
  have h : dig8 (7 : Int).toNat = [48, 48, 48, 48, 48, 48, 48, 55] := by
    show dig8 7 = _
    unfold dig8
    rw [Lib.decDigits_one (by omega)]
    rfl
  unfold fileP
  rw [h]
  rfl
theorem log12 : logP 12 = [108, 111, 103, 45, 48, 48, 48, 48, 48, 48, 49, 50] := by
  have h : dig8 (12 : Int).toNat = [48, 48, 48, 48, 48, 48, 49, 50] := by
    show dig8 12 = _
    unfold dig8
    rw [Lib.decDigits_two (by omega) (by omega)]
    rfl
  unfold logP
  rw [h]
  rfl
def nilM : Mf := ⟨[], 0, 0, 0, 0, 0⟩
theorem nilM_ok (w : World) (base : Nat) : nilM.Ok w base none 0 :=
  ⟨⟨rfl, .inl rfl, nofun, Nat.le_refl _, by show 0 ≤ _; omega, nofun⟩, by unfold I64ok; decide, by unfold I64ok; decide, by unfold I64ok; decide, by unfold I64ok; decide, by unfold I64ok; decide⟩
set_option maxRecDepth 100000 in
set_option maxHeartbeats 4000000 in
theorem awake_any (w : World) : Calls Tryz.prog 9 #[] w fun e w' => e = .returned (.bool true) ∧ Ext w w' := by
  have hnew := hide new_any
  have hfile : ∀ W, Calls Tryz.prog 32 #[.agg #[.int .i64 7, .int .i64 2, .int .i64 0, .int .i64 0, .int .i64 0, .int .i64 0, .int .i64 0]] W fun e w' => e = .returned (.string ⟨#[115, 101, 103, 45, 48, 48, 48, 48, 48, 48, 48, 55]⟩) ∧ Ext W w' := fun W => by
    have h := file_any ⟨7, 2, 0, 0, 0, 0, 0⟩ W (eights_small W 7 (by omega))
    rw [show fileP (Pt.id ⟨7, 2, 0, 0, 0, 0, 0⟩) (Pt.st ⟨7, 2, 0, 0, 0, 0, 0⟩) = _ from file7] at h
    exact h
  have hlog : ∀ W, Calls Tryz.prog 33 #[.int .i64 12] W fun e w' => e = .returned (.string ⟨#[108, 111, 103, 45, 48, 48, 48, 48, 48, 48, 49, 50]⟩) ∧ Ext W w' := fun W => by
    have h := log_any 12 W (eights_small W 12 (by omega))
    rw [log12] at h
    exact h
  have hck : ∀ W, Calls Tryz.prog 34 #[.agg #[.slice none 0 0, .int .i64 0, .int .i64 0, .int .i64 0, .int .i64 0, .int .i64 0]] W fun e w' => e = .returned (.int .i64 160) ∧ Ext W w' := fun W => check_any 0 nilM none 0 W (nilM_ok W 0)
  replace hfile := hide hfile
  replace hlog := hide hlog
  replace hck := hide hck
  unfold Mf.val newM at hnew
  go_enter Tryz.func9, Tryz.ntmps9
  go_wp2_with fail
  refine (hnew.out _).mono ?_
  rintro e w1 ⟨rfl, hE1⟩
  go_wp2_with fail
  refine (hfile.out _).mono ?_
  rintro e w2 ⟨rfl, hE2⟩
  go_wp2_with fail
  refine (hlog.out _).mono ?_
  rintro e w3 ⟨rfl, hE3⟩
  have hE := hide (((Ext.refl w1).alloc _).trans (hE2.trans hE3))
  have hr := (Row.new w1 24 #[.slice none 0 0, .int .i64 (-9223372036854775808), .int .i64 0, .int .i64 1, .int .i64 1, .int .i64 (-9223372036854775808)]).ext (hE2.trans hE3)
  have x1 := hr.cell 1 rfl
  have x3 := hr.cell 3 rfl
  have hEE := hide (hE1.trans hE.out)
  go_wp2_with fail
  refine (hck.out _).mono ?_
  rintro e w4 ⟨rfl, hE4⟩
  go_wp2_with fail
  go_ret
  exact ⟨rfl, hEE.out.trans hE4⟩
end Go.Proofs.YtaoolpnnomhnoaaGreatDoor

/- Encode and Decode as values; what stands ahead in the laws. -/
namespace Go.Proofs.YtaoolpnnomhnoaaGreatDoor
open Go.RowKit

def encV (m : Mf) : List UInt8 := if checkP m = 0 then encM m else []
def EncW (w : World) (m : Mf) (e : Ending) (w' : World) : Prop := ∃ A c, e = .returned (.tuple #[.slice A (encV m).length c, .int .i64 (checkP m)]) ∧ In8 w' A (encV m).length c (encV m) ∧ Ext w w'
theorem EncP.val {w w' : World} {m : Mf} {e : Ending} (h : EncP w m e w') : EncW w m e w' := by
  obtain ⟨hE, h1, h2⟩ := h
  unfold EncW encV
  by_cases hc : checkP m = 0
  · obtain ⟨A, c, rfl, hb⟩ := h1 hc
    rw [if_pos hc, hc]
    exact ⟨A, c, rfl, hb.in8, hE⟩
  · rw [if_neg hc]
    exact ⟨none, 0, h2 hc, ⟨rfl, .inl rfl, Nat.le_refl _, fun _ => rfl, nofun⟩, hE⟩
def decF (l : List UInt8) : Mf := (decM l).getD nilMf
def decC (l : List UInt8) : Nat := if (decM l).isSome then 0 else 160
theorem nilMf_ok (w : World) (base : Nat) : nilMf.Ok w base none 0 :=
  ⟨⟨rfl, .inl rfl, nofun, Nat.le_refl _, by show 0 ≤ _; omega, nofun⟩, by unfold I64ok; decide, by unfold I64ok; decide, by unfold I64ok; decide, by unfold I64ok; decide, by unfold I64ok; decide⟩
def DecW (w : World) (l : List UInt8) (e : Ending) (w' : World) : Prop := ∃ A c, e = .returned (.tuple #[(decF l).val A c, .int .i64 (decC l)]) ∧ (decF l).Ok w' w'.heap.size A c ∧ Ext w w'
theorem DecP.val {w w' : World} {l : List UInt8} {e : Ending} (h : DecP w (decM l) e w') : DecW w l e w' := by
  obtain ⟨hE, h⟩ := h
  unfold DecW decF decC
  cases hd : decM l with
  | none => rw [hd] at h; exact ⟨none, 0, h, nilMf_ok _ _, hE⟩
  | some m => rw [hd] at h; obtain ⟨A, c, rfl, ho⟩ := h; exact ⟨A, c, rfl, ho, hE⟩
theorem sameP_refl (m : Mf) : sameP m m = true := by unfold sameP; simp
end Go.Proofs.YtaoolpnnomhnoaaGreatDoor

/- loggia/disk: Restart, what it needs. -/
namespace Go.Proofs.YtaoolpnnomhnoaaGreatDoor
open Go.RowKit Go.Maps

/-- How many bytes are left of a file. -/
def Ent.left (e : Ent) (k : Option Int) : Nat := leftM e.pl k
def Ent.cut (e : Ent) (n : Nat) : Ent := { e with b := e.b.take n, sure := n, c := n }
def keptE (E : List Ent) (keep : List Int) : List Ent := E.mapIdx fun j e => e.cut (e.left keep[j]?)
theorem left_le (e : Ent) (h : e.sure ≤ e.b.length) (k : Option Int) : e.left k ≤ e.b.length := by
  cases k with
  | none => exact h
  | some k =>
    show e.sure + (k % ((e.b.length : Int) - e.sure + 1)).toNat ≤ e.b.length
    have h1 := Int.emod_nonneg k (show (e.b.length : Int) - e.sure + 1 ≠ 0 by omega)
    have h2 := Int.emod_lt_of_pos k (show 0 < (e.b.length : Int) - e.sure + 1 by omega)
    omega
theorem kept_get {E : List Ent} {keep : List Int} {j : Nat} {x : Ent} (h : (keptE E keep)[j]? = some x) : ∃ e : Ent, E[j]? = some e ∧ x = e.cut (e.left keep[j]?) := by
  unfold keptE at h
  rw [List.getElem?_mapIdx] at h
  cases he : E[j]? with
  | none => rw [he] at h; cases h
  | some e =>
    rw [he] at h
    exact ⟨e, rfl, (Option.some.inj h).symm⟩
theorem kept_pl (E : List Ent) (keep : List Int) : (keptE E keep).map Ent.pl = keptM (E.map Ent.pl) keep := by
  apply List.ext_getElem?
  intro j
  unfold keptE keptM
  rw [List.getElem?_map, List.getElem?_mapIdx, List.getElem?_mapIdx, List.getElem?_map]
  cases E[j]? <;> rfl
theorem kept_mem {E : List Ent} {keep : List Int} {x : Ent} (h : x ∈ keptE E keep) : ∃ (j : Nat) (e : Ent), E[j]? = some e ∧ x = e.cut (e.left keep[j]?) := by
  obtain ⟨j, hj⟩ := List.getElem?_of_mem h
  obtain ⟨e, he, hx⟩ := kept_get hj
  exact ⟨j, e, he, hx⟩
theorem kept_pw {R : Ent → Ent → Prop} {E : List Ent} {keep : List Int} (h : E.Pairwise R) (hr : ∀ a b i k, R a b → R (a.cut i) (b.cut k)) : (keptE E keep).Pairwise R := by
  rw [List.pairwise_iff_getElem] at h ⊢
  intro i j hi hj hij
  have hl : (keptE E keep).length = E.length := by unfold keptE; simp
  have hg : ∀ (i : Nat) (hi : i < (keptE E keep).length), (keptE E keep)[i] = (E[i]'(by omega)).cut ((E[i]'(by omega)).left keep[i]?) := fun i hi => List.getElem_mapIdx ..
  rw [hg i hi, hg j hj]
  exact hr _ _ _ _ (h i j (by omega) (by omega) hij)
theorem kept_len (E : List Ent) (keep : List Int) : (keptE E keep).length = E.length := by unfold keptE; simp
theorem kept_in {E : List Ent} {keep : List Int} {e : Ent} (h : e ∈ E) : ∃ n, e.cut n ∈ keptE E keep := by
  obtain ⟨j, hj⟩ := List.getElem?_of_mem h
  refine ⟨e.left keep[j]?, List.mem_of_getElem? (i := j) ?_⟩
  unfold keptE
  rw [List.getElem?_mapIdx, hj]
  rfl
/-- Where Restart has come to: the first i files are cut. -/
structure Cut (w wr : World) (base m : Nat) (E : List Ent) (keep : List Int) (i : Nat) : Prop where
  chg : Chg (fun k => ∃ e ∈ E, k = e.f) w wr
  now : ∀ j e, E[j]? = some e → Row wr e.f 79 (if j < i then #[.slice e.A (e.left keep[j]?) (e.left keep[j]?), .int .i64 (e.left keep[j]?)] else #[.slice e.A e.b.length e.c, .int .i64 e.sure])
section
variable {w wr w1 : World} {base d m : Nat} {P : PD} {E : List Ent} {keep : List Int}
theorem Cut.start (hD : DE w base d m P E) : Cut w w base m E keep 0 := ⟨Chg.refl _ _, fun j e h => by
  rw [if_neg (by omega)]
  exact (hD.fs.ok e (List.mem_of_getElem? h)).row⟩
theorem Cut.step {i : Nat} {e : Ent} (hD : DE w base d m P E) (h : Cut w wr base m E keep i) (he : E[i]? = some e) {v : Value} (hv : v = .slice e.A (e.left keep[i]?) (e.left keep[i]?)) {u : Value} (hu : u = .int .i64 (e.left keep[i]?)) :
    Cut w ((wr.setCell ⟨e.f, 0, none⟩ v).setCell ⟨e.f, 1, none⟩ u) base m E keep (i + 1) := by
  subst hv hu
  have hm := List.mem_of_getElem? he
  refine ⟨(h.chg.trans (Chg.of_set (S := fun k => k = e.f) wr (a := ⟨e.f, 0, none⟩) _ rfl) fun k _ hk => ⟨e, hm, hk⟩).trans (Chg.of_set (S := fun k => k = e.f) _ (a := ⟨e.f, 1, none⟩) _ rfl) fun k _ hk => ⟨e, hm, hk⟩, fun j x hx => ?_⟩
  have hr := h.now j x hx
  by_cases hji : j = i
  · subst hji
    obtain rfl : x = e := Option.some.inj (hx.symm.trans he)
    rw [if_neg (by omega)] at hr
    rw [if_pos (by omega)]
    exact (hr.put 0 _).put 1 _
  · have hne : x.f ≠ e.f := by
      have hjl := (List.getElem?_eq_some_iff.1 hx)
      have hil := (List.getElem?_eq_some_iff.1 he)
      obtain ⟨hj1, hj2⟩ := hjl
      obtain ⟨hi1, hi2⟩ := hil
      have hp := List.pairwise_iff_getElem.1 hD.fs.fd
      rcases Nat.lt_or_gt_of_ne hji with hlt | hlt
      · have := hp j i hj1 hi1 hlt
        rw [hj2, hi2] at this
        exact this
      · have := hp i j hi1 hj1 hlt
        rw [hj2, hi2] at this
        exact fun hh => this hh.symm
    by_cases hlt : j < i
    · rw [if_pos hlt] at hr
      rw [if_pos (by omega)]
      exact (hr.away (p := ⟨e.f, 0, none⟩) hne _).away (p := ⟨e.f, 1, none⟩) hne _
    · rw [if_neg hlt] at hr
      rw [if_neg (by omega)]
      exact (hr.away (p := ⟨e.f, 0, none⟩) hne _).away (p := ⟨e.f, 1, none⟩) hne _
theorem cut_end (hD : DE w base d m P E) (h : Cut w wr base m E keep E.length) {wf : World} (hf : wf = (wr.setCell ⟨d, 3, none⟩ (.bool false)).setCell ⟨d, 2, none⟩ (.int .i64 0)) :
    DE wf base d m (restartM P keep) (keptE E keep) ∧ Chg (Foot d m E) w wf ∧ ∀ k, Foot d m (keptE E keep) k → Foot d m E k := by
  have hap := hD.apart
  have hcd : Chg (fun k => k = d) wr wf := by
    rw [hf]
    exact (Chg.of_set (S := fun k => k = d) wr (a := ⟨d, 3, none⟩) _ rfl).trans (Chg.of_set (S := fun k => k = d) _ (a := ⟨d, 2, none⟩) _ rfl) fun _ _ h => h
  obtain ⟨L, hL, hmem, _⟩ := hD.fs.map
  have hrow : DRow wf d m P.quota 0 false := by
    have h1 : Row wr d 56 _ := h.chg.row hD.row fun ⟨e, he, hh⟩ => (hap.2 e he).1 hh
    rw [hf]
    exact (h1.put 3 _).put 2 _
  have hup : Up Ent.name (keptE E keep) := kept_pw hD.up fun _ _ _ _ h => h
  refine ⟨⟨hrow, ⟨⟨L, hL.keep ((hcd.block m (Nat.lt_of_lt_of_le hL.lt h.chg.size) fun hh => hap.1 hh.symm).trans (h.chg.block m hL.lt fun ⟨e, he, hh⟩ => ((hD.fs.ok e he).ne_map hL).1 hh.symm)), ?_, ?_⟩, ?_, hD.fs.low, hup.nodup, ?_, kept_pw hD.fs.fd fun _ _ _ _ h => h, kept_pw hD.fs.ad fun _ _ _ _ h => h⟩, hD.low, hup, by rw [kept_len]; exact hD.cnt, ?_, ?_, hD.hq, by show 0 ≤ _; omega⟩, ?_, ?_⟩
  · intro p
    rw [hmem]
    constructor
    · rintro ⟨e, he, rfl⟩
      obtain ⟨n, hn⟩ := kept_in (keep := keep) he
      exact ⟨_, hn, rfl⟩
    · rintro ⟨x, hx, rfl⟩
      obtain ⟨j, e, he, rfl⟩ := kept_mem hx
      exact ⟨e, List.mem_of_getElem? he, rfl⟩
  · rw [kept_len]
    exact kv_len hL hD.up hmem
  · intro x hx
    obtain ⟨j, e, he, rfl⟩ := kept_mem hx
    have hm := List.mem_of_getElem? he
    have hok := hD.fs.ok e hm
    have hj : j < E.length := (List.getElem?_eq_some_iff.1 he).1
    have hr := h.now j e he
    rw [if_pos hj] at hr
    have hle := left_le e hok.sure keep[j]?
    have hlen : (e.b.take (e.left keep[j]?)).length = e.left keep[j]? := by rw [List.length_take]; omega
    refine ⟨?_, ?_, hok.low, ?_⟩
    · show Row wf e.f _ #[.slice e.A (e.b.take (e.left keep[j]?)).length (e.left keep[j]?), .int .i64 (e.left keep[j]?)]
      rw [hlen]
      exact hcd.row hr fun hh => (hap.2 e hm).1 hh.symm
    · show Buf wf base 5 e.A (e.b.take (e.left keep[j]?)).length (e.left keep[j]?) ((e.b.take (e.left keep[j]?)).map B8)
      rw [hlen, List.map_take]
      have hb := hok.buf.cut (m := e.left keep[j]?) (k := e.left keep[j]?) hle (Nat.le_refl _) (Nat.le_trans hle hok.buf.2.1)
      refine (hb.chg h.chg ?_).chg hcd ?_
      · rintro a ha ⟨e', he', hh⟩
        exact (hD.fs.ok e' he').fa hok a ha hh.symm
      · intro a ha hh
        exact (hap.2 e hm).2 a ha hh.symm
    · show e.left keep[j]? ≤ (e.b.take (e.left keep[j]?)).length
      rw [hlen]
      exact Nat.le_refl _
  · intro x hx
    obtain ⟨j, e, he, rfl⟩ := kept_mem hx
    exact hD.fs.short e (List.mem_of_getElem? he)
  · intro x hx
    obtain ⟨j, e, he, rfl⟩ := kept_mem hx
    show (e.b.take (e.left keep[j]?)).length ≤ 67108864
    rw [List.length_take]
    have := hD.lens e (List.mem_of_getElem? he)
    omega
  · rw [kept_pl, hD.pl]
    rfl
  · refine (h.chg.mono (S' := Foot d m E) fun k _ ⟨e, he, hk⟩ => .inr (.inr ⟨e, he, .inl hk⟩)).trans hcd fun k _ hk => .inl hk
  · rintro k (h | h | ⟨x, hx, h⟩)
    · exact .inl h
    · exact .inr (.inl h)
    · obtain ⟨j, e, he, rfl⟩ := kept_mem hx
      exact .inr (.inr ⟨e, List.mem_of_getElem? he, h⟩)
end
set_option maxRecDepth 100000 in
/-- x[:n:n] -/
theorem run_cut {t e n c k : Nat} {A : Option Addr} (ht : Tryz.prog.underlying t = some (.slice e)) (hs : ∀ W : World, (sizeOf e).run Tryz.prog W = .ok 1 W) (h : k ≤ c) (hA : ∀ a, A = some a → a.spot = none) (W : World) :
    (Instr.sliceAt t (.slice A n c) none (some (.int .i64 k)) (some (.int .i64 k))).run Tryz.prog W = .ok (.slice A k k) W := by
  have he : Tryz.prog.elem t = e := by unfold Program.elem; rw [ht]
  rw [run_sliceAt_slice W t _ _ _ _ (by rw [ht, he]), run_slice_hm W t A n c (by rw [ht, he]) .i64 .i64 k k (by omega) (by omega) (by omega), he, hs]
  simp only [Result.andThen_ok]
  congr 1
  unfold sliced
  have : (if ((k : Int).toNat) = 0 then A else A.map fun x => x.add (0 * 1)) = A := by
    cases A with
    | none => simp
    | some a =>
      obtain ⟨b, o, sp⟩ := a
      obtain rfl : sp = none := hA _ rfl
      simp [Addr.add_lit]
  rw [this]
  simp
end Go.Proofs.YtaoolpnnomhnoaaGreatDoor

