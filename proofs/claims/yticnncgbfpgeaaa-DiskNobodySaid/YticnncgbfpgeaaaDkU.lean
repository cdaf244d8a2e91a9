/- loggia/disk: Sync, Rename, Remove. -/
import Derived.Test.YticnncgbfpgeaaaDkT
namespace Go.Proofs.Yticnncgbfpgeaaa
open Go.RowKit Go.Maps

set_option maxRecDepth 100000 in
theorem sync1_any (base d m : Nat) (P : PD) (E : List Ent) (e0 : Ent) (w : World) (hD : DE w base d m (P.goes P.L) E) (he : e0 ∈ E) :
    Calls Try.prog 42 #[.pointer (some ⟨e0.f, 0, none⟩)] w fun e w' => e = .returned (.tuple #[]) ∧ WPost (Foot d m E) base d m E (P.goes (withG fname (e0.name, e0.b, e0.b.length) P.L)) w w' := by
  have hr := (hD.fs.ok e0 he).row
  have c0 : w.cell? ⟨e0.f, 0, none⟩ = some (.slice e0.A e0.b.length e0.c) := hr.cell 0 rfl
  have c1 : w.cell? ⟨e0.f, 1, none⟩ = some (.int .i64 e0.sure) := hr.cell 1 rfl
  have f1 := hr.free 1
  have fin := sync_end (L := []) hD he
  replace fin := hide fin
  go_enter Try.func42, Try.ntmps42
  go_wp2_with fail
  go_end0
  exact ⟨rfl, fin.out⟩
theorem calls_fn (k : Nat) (h : ∀ (args : Array Value) (W : World), (callFunc k args).run Try.prog W = .ok (.enter k args) W) : ∀ (args : Array Value) (W : World), (callFunc k args).run Try.prog W = .ok (.enter k args) W := h
theorem ws_nil {d m : Nat} {E : List Ent} {i : Nat} (h : WS d m E none i) : Foot d m E i := by
  rcases h with h | ⟨a, ha, _⟩
  · exact h
  · cases ha
theorem WPost.mono {S S' : Nat → Prop} {base d m : Nat} {E : List Ent} {P : PD} {w w' : World} (h : WPost S base d m E P w w') (hs : ∀ i, i < w.heap.size → S i → S' i) : WPost S' base d m E P w w' := by
  obtain ⟨E', h1, h2, h3⟩ := h
  exact ⟨E', h1, h2.mono hs, h3⟩
theorem WPost.next {base d m : Nat} {E : List Ent} {P P' : PD} {F : Nat → Prop} {w w1 w' : World} (h : WPost (Foot d m E) base d m E P' w1 w') (hS : DS w base d P F) (hF : ∀ k, F k ↔ Foot d m E k) (he : Ext w w1) : DNext base d F w P' w' := by
  obtain ⟨E', h1, h2, h3⟩ := h
  exact hS.next hF h1 ((Chg.of_ext he (Foot d m E)).trans h2 fun _ _ h => h) fun k hk => (h3 k hk).imp_right fun h => Nat.le_trans he.size h
set_option maxRecDepth 100000 in
theorem sync_any (base d : Nat) (P : PD) (F : Nat → Prop) (s : List UInt8) (w : World) (h : DS w base d P F) (hs : s.length ≤ 9223372036854775807) :
    Calls Try.prog 17 #[.pointer (some ⟨d, 0, none⟩), str s] w fun e w' => e = .returned (.int .i64 (syncM P s).2) ∧ DNext base d F w (syncM P s).1 w' := by
  have hS := h
  obtain ⟨m, E, hD, hF⟩ := h
  have hw := writes_any base d m w.heap.size P E s [] 42 #[] (fun f => withG fname (f.1, f.2.1, f.2.1.length) P.L) none 0 0 w hD hs (by simp) rfl (by omega) (Nat.le_refl _) (World.ownsRow_nil _ _ _ _) nofun (fun args W => by kernel_rfl)
    (fun w1 e0 he hn _ hD1 => sync1_any base d m P E e0 w1 hD1 he)
  have hsy : syncM P s = writesM P ([] ++ [s]) s (fun f => withG fname (f.1, f.2.1, f.2.1.length) P.L) := rfl
  rw [← hsy] at hw
  unfold str at hw ⊢
  replace hw := hide hw
  clear hsy
  go_enter Try.func17, Try.ntmps17
  go_wp2_with fail
  refine hw.out.mono ?_
  rintro e w1 ⟨rfl, h1⟩
  go_wp2_with fail
  go_ret
  exact ⟨rfl, (h1.mono fun i _ hi => ws_nil hi).next hS hF (Ext.refl _)⟩
theorem grown_of_drew {w w1 : World} {r : Option Nat} (h : w.drew.grownBy w1 r) : w.grownBy w1 r := ⟨h.os, h.tape, h.output, h.size, h.block⟩
set_option maxRecDepth 100000 in
theorem remove1_any (base d m bd bn : Nat) (P : PD) (E : List Ent) (s : List UInt8) (w : World) (hD : DE w base d m (P.goes P.L) E) (hs : s.length ≤ 9223372036854775807) (f : Value) (hd : w.cell? ⟨bd, 0, none⟩ = some (.pointer (some ⟨d, 0, none⟩))) (hn : w.cell? ⟨bn, 0, none⟩ = some (str s)) :
    Calls Try.prog 44 #[f, .pointer (some ⟨bd, 0, none⟩), .pointer (some ⟨bn, 0, none⟩)] w fun e w' => e = .returned (.tuple #[]) ∧ WPost (Foot d m E) base d m E (P.goes (withoutG fname s P.L)) w w' := by
  obtain ⟨L, hL, hmem, _⟩ := hD.fs.map
  have c0 : w.cell? ⟨d, 0, none⟩ = some (.map (some m)) := Row.cell hD.row 0 rfl
  obtain ⟨L', w1, hrun, hL', hp, hg, _⟩ := hL.drew.delete keyS Try.underlying61 (key_str hs) 9 0
  have fin := (drop_end (W := w1) hD hmem hL hL' hp (grown_of_drew hg)).1
  unfold str at hrun hn
  replace fin := hide fin
  clear hL' hp hg hL
  go_enter Try.func44, Try.ntmps44
  refine wp_region_text follows (by kernel_rfl) (by kernel_rfl) (fun K hK => ?_)
  go_wp2_with fail
  refine ⟨by kernel_rfl, ?_⟩
  go_wp2_with fail
  go_end0
  exact ⟨rfl, fin.out⟩
set_option maxRecDepth 100000 in
set_option maxHeartbeats 1000000 in
theorem rename1_any (base d m bd bs bt : Nat) (P : PD) (E : List Ent) (s t : List UInt8) (e0 : Ent) (w : World) (hD : DE w base d m (P.goes P.L) E) (he : e0 ∈ E) (hn : e0.name = s) (hs : s.length ≤ 9223372036854775807) (ht : t.length ≤ 9223372036854775807)
    (hd : w.cell? ⟨bd, 0, none⟩ = some (.pointer (some ⟨d, 0, none⟩))) (hcs : w.cell? ⟨bs, 0, none⟩ = some (str s)) (hct : w.cell? ⟨bt, 0, none⟩ = some (str t)) (h1 : bd ≠ m ∧ bs ≠ m ∧ bt ≠ m) :
    Calls Try.prog 43 #[.pointer (some ⟨e0.f, 0, none⟩), .pointer (some ⟨bd, 0, none⟩), .pointer (some ⟨bs, 0, none⟩), .pointer (some ⟨bt, 0, none⟩)] w fun e w' => e = .returned (.tuple #[]) ∧ WPost (Foot d m E) base d m E (P.goes (withG fname (t, e0.b, e0.sure) (withoutG fname s P.L))) w w' := by
  obtain ⟨L, hL, hmem, _⟩ := hD.fs.map
  have c0 : w.cell? ⟨d, 0, none⟩ = some (.map (some m)) := Row.cell hD.row 0 rfl
  obtain ⟨L1, w1, hrun, hL1, hp, hg, _⟩ := hL.drew.delete keyS Try.underlying61 (key_str hs) 9 0
  have hg' := grown_of_drew hg
  have hc : Chg (fun k => k = m) w w1 := Chg.of_grown hg' fun k _ hk => by cases hk; rfl
  obtain ⟨w2, L2, hrun2, hL2, hput, hg2, _⟩ := hL1.drew.update keyS Try.underlying61 (key_str ht) (.pointer (some ⟨e0.f, 0, none⟩))
  have d0 : w1.cell? ⟨d, 0, none⟩ = some (.map (some m)) := hc.cell c0 hD.apart.1
  have hd1 : w1.cell? ⟨bd, 0, none⟩ = some (.pointer (some ⟨d, 0, none⟩)) := hc.cell hd h1.1
  have hct1 : w1.cell? ⟨bt, 0, none⟩ = some (str t) := hc.cell hct h1.2.2
  have fin := rename_end hD he hn ht hmem hL hL1 hp hg' hL2 hput (grown_of_drew hg2)
  unfold str at hrun hrun2 hcs hct hct1
  replace fin := hide fin
  replace hn := hide hn
  replace h1 := hide h1
  clear hL1 hp hg hL hL2 hput hg2 hg' hc
  go_enter Try.func43, Try.ntmps43
  go_wp2_with fail
  refine wp_region_text follows (by kernel_rfl) (by kernel_rfl) (fun K hK => ?_)
  go_wp2_with fail
  refine ⟨by kernel_rfl, ?_⟩
  go_wp2_with fail
  refine wp_region_text follows (by kernel_rfl) (by kernel_rfl) (fun K hK => ?_)
  go_wp2_with fail
  refine ⟨by kernel_rfl, ?_⟩
  go_wp2_with fail
  go_end0
  exact ⟨rfl, fin.out⟩
end Go.Proofs.Yticnncgbfpgeaaa
