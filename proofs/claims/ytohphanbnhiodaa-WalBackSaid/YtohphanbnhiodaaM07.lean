/- A slice of bytes, cut by an index of any kind. -/
import Derived.Test.YtohphanbnhiodaaM06
import Derived.Test.YtohphanbnhiodaaM02
import Derived.Laws.StructEq
import Derived.Deep.QuietTactic
import Derived.BigQuiet
import Derived.Deep.RegionHeld3
set_option linter.unusedSimpArgs false
set_option linter.unusedVariables false
namespace Go.Proofs.Ytohphanbnhiodaa
open Go.RowKit

set_option maxRecDepth 100000 in
theorem run_headk (kk : IntKind) {n c k : Nat} {A : Option Addr} (h : k ≤ c) (hA : ∀ a, A = some a → a.spot = none) (W : World) :
    (Instr.sliceAt 31 (.slice A n c) none (some (.int kk k)) none).run Try.prog W = .ok (.slice A k c) W := by
  have ht := Try.underlying31
  have he : Try.prog.elem 31 = 5 := by unfold Program.elem; rw [ht]
  have hs : ∀ W : World, (sizeOf 5).run Try.prog W = .ok 1 W := fun W => by kernel_rfl
  rw [run_sliceAt_slice W _ _ _ _ _ (by rw [ht, he]), run_slice_h W _ A n c (by rw [ht, he]) kk k (by omega) (by omega), he, hs]
  simp only [Result.andThen_ok]
  congr 1
  unfold sliced
  have : (if c = 0 then A else A.map fun x => x.add (0 * 1)) = A := by
    cases A with
    | none => simp
    | some a =>
      obtain ⟨b, o, sp⟩ := a
      obtain rfl : sp = none := hA _ rfl
      simp [Addr.add_lit]
  rw [this]
  simp
set_option maxRecDepth 100000 in
theorem In8.fromk (kk : IntKind) {w : World} {A : Option Addr} {n c : Nat} {l : List UInt8} (h : In8 w A n c l) {fr : Nat} (hf : fr ≤ n) {z : Int} (hz : z = (fr : Int)) :
    ∃ A' c', (∀ W : World, (Instr.sliceAt 31 (.slice A n c) (some (.int kk z)) none none).run Try.prog W = .ok (.slice A' (n - fr) c') W) ∧ In8 w A' (n - fr) c' (l.drop fr) := by
  subst hz
  have ht := Try.underlying31
  have he : Try.prog.elem 31 = 5 := by unfold Program.elem; rw [ht]
  have hs : ∀ W : World, (sizeOf 5).run Try.prog W = .ok 1 W := fun W => by kernel_rfl
  have hrun : ∀ W : World, (Instr.sliceAt 31 (.slice A n c) (some (.int kk fr)) none none).run Try.prog W = .ok (sliced A fr n c 1) W := by
    intro W
    rw [run_sliceAt_slice W _ _ _ _ _ (by rw [ht, he]), run_slice_l W _ A n c (by rw [ht, he]) kk fr (by omega) (by omega), he, hs]
    simp only [Result.andThen_ok]
    congr 1
  have hcap := h.cap
  refine ⟨_, _, hrun, by rw [List.length_drop, ← h.len], ?_, by omega, ?_, ?_⟩
  · rcases h.bytes with hb | ⟨g, o, rfl, hb⟩
    · left
      have : l = [] := by simpa using hb
      rw [this]
      simp
    · by_cases hcf : c = fr
      · left
        have := h.len
        rw [List.drop_of_length_le (by omega)]
        rfl
      · refine .inr ⟨g, o + fr, by rw [if_neg hcf]; simp [Addr.add_lit], fun i v hv => ?_⟩
        rw [Nat.add_assoc]
        refine hb (fr + i) v ?_
        rw [List.getElem?_map] at hv ⊢
        rw [List.getElem?_drop] at hv
        exact hv
  · intro hn
    cases A with
    | none => have := h.nil_ rfl; omega
    | some a => split at hn <;> cases hn
  · intro a ha
    cases A with
    | none => split at ha <;> cases ha
    | some b =>
      obtain ⟨h1, h2⟩ := h.at_ b rfl
      obtain ⟨b, o, sp⟩ := b
      obtain rfl : sp = Option.none := h1
      split at ha
      · cases ha; exact ⟨rfl, h2⟩
      · cases ha
        show (Addr.add ⟨b, o, none⟩ (fr * 1)).spot = none ∧ (Addr.add ⟨b, o, none⟩ (fr * 1)).block < w.heap.size
        rw [Addr.add_lit]
        exact ⟨rfl, h2⟩
theorem In8.headk (kk : IntKind) {w : World} {A : Option Addr} {n c : Nat} {l : List UInt8} (h : In8 w A n c l) {k : Nat} (hk : k ≤ n) {z : Int} (hz : z = (k : Int)) :
    (∀ W : World, (Instr.sliceAt 31 (.slice A n c) none (some (.int kk z)) none).run Try.prog W = .ok (.slice A k c) W) ∧ In8 w A k c (l.take k) := by
  subst hz
  refine ⟨fun W => run_headk kk (by have := h.cap; omega) (fun a ha => (h.at_ a ha).1) W, by rw [List.length_take, ← h.len]; omega, ?_, by have := h.cap; omega, h.nil_, h.at_⟩
  rcases h.bytes with hb | ⟨g, o, rfl, hb⟩
  · left
    have : l = [] := by simpa using hb
    rw [this]
    simp
  · refine .inr ⟨g, o, rfl, fun i v hv => hb i v ?_⟩
    rw [List.getElem?_map] at hv ⊢
    rw [List.getElem?_take] at hv
    split at hv
    · exact hv
    · cases hv
set_option maxRecDepth 100000 in
theorem In8.subk (kk k2 : IntKind) {w : World} {A : Option Addr} {n c : Nat} {l : List UInt8} (h : In8 w A n c l) {fr k : Nat} (hf : fr + k ≤ n) {z0 z : Int} (hz0 : z0 = (fr : Int)) (hz : z = (fr : Int) + (k : Int)) :
    ∃ A' c', (∀ W : World, (Instr.sliceAt 31 (.slice A n c) (some (.int kk z0)) (some (.int k2 z)) none).run Try.prog W = .ok (.slice A' k c') W) ∧ In8 w A' k c' ((l.drop fr).take k) := by
  subst hz0
  subst hz
  have ht := Try.underlying31
  have he : Try.prog.elem 31 = 5 := by unfold Program.elem; rw [ht]
  have hs : ∀ W : World, (sizeOf 5).run Try.prog W = .ok 1 W := fun W => by kernel_rfl
  have hcap := h.cap
  have hrun : ∀ W : World, (Instr.sliceAt 31 (.slice A n c) (some (.int kk fr)) (some (.int k2 ((fr : Int) + (k : Int)))) none).run Try.prog W = .ok (sliced A fr (fr + k) c 1) W := by
    intro W
    rw [run_sliceAt_slice W _ _ _ _ _ (by rw [ht, he]), run_slice_lh W _ A n c (by rw [ht, he]) kk k2 fr ((fr : Int) + k) (by omega) (by omega) (by omega), he, hs]
    simp only [Result.andThen_ok]
    congr 1
  unfold sliced at hrun
  rw [Nat.add_sub_cancel_left] at hrun
  refine ⟨_, _, hrun, by rw [List.length_take, List.length_drop, ← h.len]; omega, ?_, by omega, ?_, ?_⟩
  · rcases h.bytes with hb | ⟨g, o, rfl, hb⟩
    · left
      have : l = [] := by simpa using hb
      rw [this]
      simp
    · by_cases hcf : c = fr
      · left
        have : k = 0 := by omega
        subst this
        simp
      · refine .inr ⟨g, o + fr, by rw [if_neg hcf]; simp [Addr.add_lit], fun i v hv => ?_⟩
        rw [Nat.add_assoc]
        refine hb (fr + i) v ?_
        rw [List.getElem?_map] at hv ⊢
        rw [List.getElem?_take] at hv
        split at hv
        · rw [List.getElem?_drop] at hv
          exact hv
        · cases hv
  · intro hn
    cases A with
    | none => have := h.nil_ rfl; omega
    | some a => split at hn <;> cases hn
  · intro a ha
    cases A with
    | none => split at ha <;> cases ha
    | some b =>
      obtain ⟨h1, h2⟩ := h.at_ b rfl
      obtain ⟨b, o, sp⟩ := b
      obtain rfl : sp = Option.none := h1
      split at ha
      · cases ha; exact ⟨rfl, h2⟩
      · cases ha
        show (Addr.add ⟨b, o, none⟩ (fr * 1)).spot = none ∧ (Addr.add ⟨b, o, none⟩ (fr * 1)).block < w.heap.size
        rw [Addr.add_lit]
        exact ⟨rfl, h2⟩
end Go.Proofs.Ytohphanbnhiodaa

/- loggia/varint: PutText, GetText; loggiaref02: GetText. -/
namespace Go.Proofs.Ytohphanbnhiodaa
open Go.RowKit

theorem run_max2e {P : Program} (ts : Array TypeId) (ty : TypeId) {x y m : Int} (hm : m = max x y) (W : World) : (Builtin.max_ ts ty #[.int .i64 x, .int .i64 y]).run P W = .ok (.int .i64 m) W := by
  simp only [Builtin.max_, List.foldlM, Builtin.max2, Sem.run_bind, Sem.run_pure, Result.andThen_ok]
  subst hm
  congr 2
  split <;> omega
/-- What a text is told to be. -/
def GotT (w0 w : World) (res : Except Nat (List UInt8 × List UInt8)) (e : Ending) (w' : World) : Prop := Ext w w' ∧ match res with
  | .ok (s, r) => ∃ A c, e = .returned (.tuple #[.string ⟨s.toArray⟩, .slice A r.length c, .int .i64 0]) ∧ In8 w0 A r.length c r
  | .error k => e = .returned (.tuple #[.string ⟨#[]⟩, .slice none 0 0, .int .i64 k])
set_option maxRecDepth 100000 in
theorem putText_any (A : Option Addr) (n c : Nat) (l s : List UInt8) (w : World) (hn : n = l.length) (hl : Bs w A l) (hz : A = none → c = 0) (hle : n ≤ 1000000000) (hs : s.length ≤ 1000000000) :
    Calls Try.prog 78 #[.slice A n c, .string ⟨s.toArray⟩] w fun e w' => NewB w (l ++ txL s) e w' := by
  have hp := hide (put_any A n c s.length l w hn hl hz hle (by omega))
  have h10 := vb_le10 (n := s.length) (by omega)
  have htx : l ++ txL s = (l ++ vb s.length) ++ s := by unfold txL; simp
  rw [htx]
  obtain ⟨L, hL⟩ : ∃ L, L = l ++ vb s.length := ⟨_, rfl⟩
  have hLl : L.length ≤ 1000000010 := by rw [hL, List.length_append]; omega
  rw [← hL] at hp ⊢
  clear hL htx hl hz hn h10
  go_enter Try.func78, Try.ntmps78
  go_wp2_with fail
  refine hp.out.mono ?_
  rintro e w1 ⟨A1, c1, rfl, hb1, hE1⟩
  have hsz := hE1.size
  go_wp2_with (at_builtin; refine wpList_buf_str hb1 (.tmp 9) (.tmp 10) rfl rfl rfl rfl (by omega) hsz (fun A2 c2 w2 hb2 hg2 hE2 => ?_))
  go_ret
  exact ⟨A2, c2, ret_slice (by rw [List.length_append]), by rw [List.length_append, List.map_append]; exact hb2, hE2 _ hE1 (Nat.le_refl _)⟩
set_option maxRecDepth 100000 in
set_option maxHeartbeats 1000000 in
theorem getText_any (A : Option Addr) (n c most : Nat) (l : List UInt8) (w0 w : World) (h : In8 w0 A n c l) (hw : Ext w0 w) (hle : n ≤ 1000000000) (hm : most ≤ 1000000000) :
    Calls Try.prog 69 #[.slice A n c, .int .i64 most] w fun e w' => GotT w0 w (getT most l) e w' := by
  have hg := get_any A n c l w0 w h hw hle
  have hmax := run_max2e (P := Try.prog) #[3, 3] 3 (x := 0) (y := (most : Int)) (m := (most : Int)) (by omega)
  unfold getT
  cases hr : getV 0 l with
  | error k =>
    rw [hr] at hg
    have hk := getV_err l 0 k hr
    have hk0 : ((k : Int) != 0) = true := by simp; omega
    replace hg := hide hg
    clear h hr hk
    go_enter Try.func69, Try.ntmps69
    go_wp2_with fail
    refine hg.out.mono ?_
    rintro e w1 ⟨hE1, rfl⟩
    go_wp2_with fail
    go_ret3
    exact ⟨hE1, rfl⟩
  | ok p =>
    obtain ⟨v, r⟩ := p
    have hv := getV_lt64 hr
    have hrl : r.length ≤ 1000000000 := by
      obtain ⟨_, _, q, hq, _⟩ := getV_lt l 0 v r hr
      have := h.len
      rw [hq, List.length_append] at this
      omega
    rw [hr] at hg
    replace hg := hide hg
    simp only
    by_cases h1 : most < v
    · rw [if_pos h1]
      have h1' : (most : Int) < v := by omega
      clear h hr
      go_enter Try.func69, Try.ntmps69
      go_wp2_with fail
      refine hg.out.mono ?_
      rintro e w1 ⟨hE1, A1, c1, rfl, hi1⟩
      go_wp2_with fail
      go_ret3
      exact ⟨hE1, rfl⟩
    · rw [if_neg h1]
      have h1' : ¬ (most : Int) < v := by omega
      by_cases h2 : r.length < v
      · rw [if_pos h2]
        have h2' : (r.length : Int) < v := by omega
        clear h hr
        go_enter Try.func69, Try.ntmps69
        go_wp2_with fail
        refine hg.out.mono ?_
        rintro e w1 ⟨hE1, A1, c1, rfl, hi1⟩
        go_wp2_with fail
        go_ret3
        exact ⟨hE1, rfl⟩
      · rw [if_neg h2]
        have h2' : ¬ (r.length : Int) < v := by omega
        clear h hr
        go_enter Try.func69, Try.ntmps69
        go_wp2_with fail
        refine hg.out.mono ?_
        rintro e w1 ⟨hE1, A1, c1, rfl, hi1⟩
        obtain ⟨hh1, hh2⟩ := hi1.headk .u64 (k := v) (by omega) (z := (v : Int)) rfl
        obtain ⟨A2, c2, ht1, ht2⟩ := hi1.fromk .u64 (fr := v) (by omega) (z := (v : Int)) rfl
        have hst : ∀ W, Ext w0 W → (convert 31 9 (.slice A1 v c1)).run Try.prog W = .ok (.string ⟨(r.take v).toArray⟩) W := fun W hW => run_str (hh2.bytes.ext hW) v c1 hh2.len
        have hst1 := hst _ (hw.trans hE1).drew
        have hlen : (r.drop v).length = r.length - v := List.length_drop
        obtain ⟨R, hR⟩ : ∃ R, R = r.length - v := ⟨_, rfl⟩
        rw [← hR] at ht1 ht2 hlen
        replace hlen := hide hlen
        replace hR := hide hR
        clear hh2
        go_wp2_with fail
        refine wp_region_text follows (by kernel_rfl) (by kernel_rfl) (fun K hK => ?_)
        go_wp2_with fail
        refine ⟨by kernel_rfl, ?_⟩
        go_wp2_with fail
        go_ret3
        exact ⟨hE1.drew, A2, c2, by rw [hlen.out]; rfl, by rw [hlen.out]; exact ht2⟩
set_option maxRecDepth 100000 in
set_option maxHeartbeats 1000000 in
theorem rgetText_any (A : Option Addr) (n c most : Nat) (l : List UInt8) (w0 w : World) (h : In8 w0 A n c l) (hw : Ext w0 w) (hle : n ≤ 1000000000) (hm : most ≤ 1000000000) :
    Calls Try.prog 74 #[.slice A n c, .int .i64 most] w fun e w' => GotT w0 w (getT most l) e w' := by
  have hg := rget_any A n c l w0 w h hw hle
  have hmax := run_max2e (P := Try.prog) #[3, 3] 3 (x := 0) (y := (most : Int)) (m := (most : Int)) (by omega)
  unfold getT
  cases hr : getV 0 l with
  | error k =>
    rw [hr] at hg
    have hk := getV_err l 0 k hr
    have hk0 : ((k : Int) != 0) = true := by simp; omega
    replace hg := hide hg
    clear h hr hk
    go_enter Try.func74, Try.ntmps74
    go_wp2_with fail
    refine hg.out.mono ?_
    rintro e w1 ⟨hE1, rfl⟩
    go_wp2_with fail
    go_ret3
    exact ⟨hE1, rfl⟩
  | ok p =>
    obtain ⟨v, r⟩ := p
    have hv := getV_lt64 hr
    have hrl : r.length ≤ 1000000000 := by
      obtain ⟨_, _, q, hq, _⟩ := getV_lt l 0 v r hr
      have := h.len
      rw [hq, List.length_append] at this
      omega
    rw [hr] at hg
    replace hg := hide hg
    simp only
    by_cases h1 : most < v
    · rw [if_pos h1]
      have h1' : (most : Int) < v := by omega
      clear h hr
      go_enter Try.func74, Try.ntmps74
      go_wp2_with fail
      refine hg.out.mono ?_
      rintro e w1 ⟨hE1, A1, c1, rfl, hi1⟩
      go_wp2_with fail
      go_ret3
      exact ⟨hE1, rfl⟩
    · rw [if_neg h1]
      have h1' : ¬ (most : Int) < v := by omega
      by_cases h2 : r.length < v
      · rw [if_pos h2]
        have h2' : (r.length : Int) < v := by omega
        clear h hr
        go_enter Try.func74, Try.ntmps74
        go_wp2_with fail
        refine hg.out.mono ?_
        rintro e w1 ⟨hE1, A1, c1, rfl, hi1⟩
        go_wp2_with fail
        go_ret3
        exact ⟨hE1, rfl⟩
      · rw [if_neg h2]
        have h2' : ¬ (r.length : Int) < v := by omega
        clear h hr
        go_enter Try.func74, Try.ntmps74
        go_wp2_with fail
        refine hg.out.mono ?_
        rintro e w1 ⟨hE1, A1, c1, rfl, hi1⟩
        obtain ⟨hh1, hh2⟩ := hi1.headk .u64 (k := v) (by omega) (z := (v : Int)) rfl
        obtain ⟨A2, c2, ht1, ht2⟩ := hi1.fromk .u64 (fr := v) (by omega) (z := (v : Int)) rfl
        have hst : ∀ W, Ext w0 W → (convert 31 9 (.slice A1 v c1)).run Try.prog W = .ok (.string ⟨(r.take v).toArray⟩) W := fun W hW => run_str (hh2.bytes.ext hW) v c1 hh2.len
        have hst1 := hst _ (hw.trans hE1).drew
        have hlen : (r.drop v).length = r.length - v := List.length_drop
        obtain ⟨R, hR⟩ : ∃ R, R = r.length - v := ⟨_, rfl⟩
        rw [← hR] at ht1 ht2 hlen
        replace hlen := hide hlen
        replace hR := hide hR
        clear hh2
        go_wp2_with fail
        refine wp_region_text follows (by kernel_rfl) (by kernel_rfl) (fun K hK => ?_)
        go_wp2_with fail
        refine ⟨by kernel_rfl, ?_⟩
        go_wp2_with fail
        go_ret3
        exact ⟨hE1.drew, A2, c2, by rw [hlen.out]; rfl, by rw [hlen.out]; exact ht2⟩
end Go.Proofs.Ytohphanbnhiodaa

/- Events: loggiaref10.Check, Same. -/
namespace Go.Proofs.Ytohphanbnhiodaa
open Go.RowKit

set_option maxRecDepth 100000 in
set_option maxHeartbeats 2000000 in
theorem recheck_any (e : Ev) (A : Option Addr) (c : Nat) (w : World) (h : e.Ok w A) : Calls Try.prog 75 #[e.val A c] w fun en w' => en = .returned (.int .i64 (checkE e.fs : Int)) ∧ Ext w w' := by
  obtain ⟨at_, fs⟩ := e
  obtain ⟨hc, hm, hl⟩ := h
  unfold Ev.val
  simp only at hc hm hl ⊢
  obtain ⟨n, hn⟩ : ∃ n, n = fs.length := ⟨_, rfl⟩
  obtain ⟨z, hz⟩ : ∃ z, z = checkE fs := ⟨_, rfl⟩
  have hmany : 16 < n → z = 3 := fun h => by rw [hz]; unfold checkE; rw [if_pos (by omega)]
  have hgo : n ≤ 16 → z = checkF (fs.drop 0) := fun h => by rw [hz]; unfold checkE; rw [if_neg (by omega)]; rfl
  have hnm := fun s W (hs : s.length ≤ 9223372036854775807) => risname_any s W hs
  rw [← hz, ← hn]
  rw [← hn] at hm
  have hEW : Ext w (w.alloc (.cells #[.int .i64 at_, .slice A n c] 55)) := (Ext.refl w).alloc _
  have hrow : Row (w.alloc (.cells #[.int .i64 at_, .slice A n c] 55)) w.heap.size 55 #[.int .i64 at_, .slice A n c] := Row.new w _ _
  replace hn := hide hn
  replace hl := hide hl
  replace hnm := hide hnm
  replace hgo := hide hgo
  clear hz
  by_cases h16 : 16 < n
  · have hz3 := hmany h16
    subst hz3
    clear hmany hrow
    go_enter Try.func75, Try.ntmps75
    go_wp2_with fail
    go_ret
    exact ⟨rfl, hEW⟩
  · clear hmany
    have hz0 := hgo.out (by omega)
    replace hz0 := hide hz0
    go_enter Try.func75, Try.ntmps75
    go_wp2_with fail
    obtain ⟨W0, hW0⟩ : ∃ W0, W0 = w.alloc (.cells #[.int .i64 at_, .slice A n c] 55) := ⟨_, rfl⟩
    rw [← hW0] at hEW hrow ⊢
    clear hW0
    go_loopw [3] (fun s3 wr => ∃ i : Nat, s3 = .int .i64 i ∧ i ≤ n ∧ Hid (z = checkF (fs.drop i)) ∧ Hid (Ext W0 wr)) (fun s3 _ => n - (intOf s3).toNat)
    case atStart => exact ⟨0, rfl, by omega, hz0, hide (Ext.refl _)⟩
    case round =>
      obtain ⟨i, rfl, hi, hz, hE⟩ := hrel
      have y1 := (hrow.ext hE.out).cell 1 rfl
      by_cases hin : i < n
      · have hil : i < fs.length := by rw [← hn.out]; exact hin
        obtain ⟨f, hf⟩ : ∃ f, fs[i]? = some f := ⟨_, List.getElem?_eq_getElem hil⟩
        obtain ⟨g, o, rfl, k0, k1⟩ := fcells_at (hc.ext (hEW.trans hE.out)) hf
        obtain ⟨hl1, hl2⟩ := hl.out f (List.mem_of_getElem? hf)
        have hz2 := hz.out
        rw [checkF_drop hf] at hz2
        unfold strV at k0 k1
        obtain ⟨nm, tx⟩ := f
        simp only at k0 k1 hl1 hl2 hz2
        have hnm1 := fun W => hnm.out nm W hl1
        obtain ⟨q, hq⟩ : ∃ q, q = nameL nm := ⟨_, rfl⟩
        rw [← hq] at hnm1 hz2
        have hi0 : (0 : Int) ≤ i := by omega
        have hi1 : (i : Int) < n := by omega
        replace hnm1 := hide hnm1
        replace hz2 := hide hz2
        clear hf hq
        go_wp2_with fail
        refine (hnm1.out _).mono ?_
        rintro e w3 ⟨rfl, rfl⟩
        cases q with
        | false =>
          obtain rfl : z = 100 := by rw [hz2.out]; rfl
          go_wp2_with fail
          go_ret
          exact ⟨rfl, hEW.trans hE.out⟩
        | true =>
          by_cases hlt : 4096 < tx.length
          · obtain rfl : z = 2 := by rw [hz2.out, if_neg (by simp), if_pos hlt]
            go_wp2_with fail
            go_ret
            exact ⟨rfl, hEW.trans hE.out⟩
          · have hz3 := hide (show z = checkF (fs.drop (i + 1)) by rw [hz2.out, if_neg (by simp), if_neg hlt])
            go_wp2_with fail
            go_roundw
            case rel => exact ⟨i + 1, by go_num, by omega, hz3, hE⟩
            case measure => simp [intOf]; omega
      · obtain rfl : z = 0 := by
          have h := hz.out
          rw [List.drop_of_length_le (by rw [← hn.out]; omega)] at h
          exact h
        go_wp2_with fail
        go_ret
        exact ⟨rfl, hEW.trans hE.out⟩
theorem take_one2 {α : Type} {xs : List α} {i : Nat} {x : α} (h : xs[i]? = some x) : xs.take (i + 1) = xs.take i ++ [x] := by
  obtain ⟨hi, rfl⟩ := List.getElem?_eq_some_iff.1 h
  exact List.take_succ_eq_append_getElem hi
set_option maxRecDepth 100000 in
theorem fd_neq (f g : Fd) (W : World) : (binOp .neq 52 (.agg #[.string ⟨f.1.toArray⟩, .string ⟨f.2.toArray⟩]) (.agg #[.string ⟨g.1.toArray⟩, .string ⟨g.2.toArray⟩])).run Try.prog W = .ok (.bool (!decide (f = g))) W := by
  rw [run_neq_struct, run_equalIn_agg _ _ _ _ _ (by kernel_rfl) (by kernel_rfl)]
  simp only [Program.fieldsOf, Try.underlying52]
  have e1 : ∀ (a b : List UInt8) (W : World), (Op.equalIn 9999 9 (.string ⟨a.toArray⟩) (.string ⟨b.toArray⟩)).run Try.prog W = .ok (a == b) W := fun a b W => by
    have h := run_equalIn_string (P := Try.prog) (w := W) 9998 9 ⟨a.toArray⟩ ⟨b.toArray⟩ Try.underlying9
    rw [h]
    congr 1
    rw [Bool.eq_iff_iff]
    simp
  simp [Op.eqFields, part, e1, go_sem]
  by_cases h1 : f.1 = g.1 <;> by_cases h2 : f.2 = g.2
  all_goals simp [h1, h2, Prod.ext_iff]
def sameE (a b : Ev) : Bool := decide (a.at_ = b.at_ ∧ a.fs = b.fs)
set_option maxRecDepth 100000 in
set_option maxHeartbeats 4000000 in
theorem resame_any (a b : Ev) (A B : Option Addr) (c c2 : Nat) (w : World) (ha : a.Ok w A) (hb : b.Ok w B) : Calls Try.prog 54 #[a.val A c, b.val B c2] w fun en w' => en = .returned (.bool (sameE a b)) ∧ Ext w w' := by
  obtain ⟨at1, fs⟩ := a
  obtain ⟨at2, gs⟩ := b
  obtain ⟨hc, hm, _⟩ := ha
  obtain ⟨hd, hm2, _⟩ := hb
  unfold Ev.val sameE
  simp only at hc hm hd hm2 ⊢
  obtain ⟨n, hn⟩ : ∃ n, n = fs.length := ⟨_, rfl⟩
  obtain ⟨m, hmn⟩ : ∃ m, m = gs.length := ⟨_, rfl⟩
  obtain ⟨z, hz⟩ : ∃ z, z = decide (at1 = at2 ∧ fs = gs) := ⟨_, rfl⟩
  have hno1 : at1 ≠ at2 → z = false := fun h => by rw [hz]; exact decide_eq_false fun hh => h hh.1
  have hno2 : n ≠ m → z = false := fun h => by rw [hz]; exact decide_eq_false fun hh => h (by rw [hn, hmn, hh.2])
  have hno3 : fs ≠ gs → z = false := fun h => by rw [hz]; exact decide_eq_false fun hh => h hh.2
  have hyes : at1 = at2 → fs = gs → z = true := fun h1 h2 => by rw [hz]; exact decide_eq_true ⟨h1, h2⟩
  rw [← hz, ← hn, ← hmn]
  rw [← hn] at hm
  rw [← hmn] at hm2
  have hEW : Ext w ((w.alloc (.cells #[.int .i64 at1, .slice A n c] 55)).alloc (.cells #[.int .i64 at2, .slice B m c2] 55)) := ((Ext.refl w).alloc _).alloc _
  have hrow : Row ((w.alloc (.cells #[.int .i64 at1, .slice A n c] 55)).alloc (.cells #[.int .i64 at2, .slice B m c2] 55)) w.heap.size 55 #[.int .i64 at1, .slice A n c] := (Row.new w _ _).alloc _
  have hrow2 : Row ((w.alloc (.cells #[.int .i64 at1, .slice A n c] 55)).alloc (.cells #[.int .i64 at2, .slice B m c2] 55)) (w.heap.size + 1) 55 #[.int .i64 at2, .slice B m c2] := by
    have h := Row.new (w.alloc (.cells #[.int .i64 at1, .slice A n c] 55)) 55 #[.int .i64 at2, .slice B m c2]
    simpa using h
  by_cases hat : at1 = at2
  case neg =>
    obtain rfl := hno1 hat
    have hq : (at1 != at2) = true := bne_iff_ne.2 hat
    clear hno1 hno2 hno3 hyes hz hn hmn hrow hrow2 hc hd hat
    go_enter Try.func54, Try.ntmps54
    go_wp2_with fail
    go_ret
    exact ⟨rfl, hEW⟩
  case pos =>
    by_cases hnm : n = m
    case neg =>
      obtain rfl := hno2 hnm
      have hq : ((n : Int) != (m : Int)) = true := bne_iff_ne.2 (by omega)
      clear hno1 hno2 hno3 hyes hz hn hmn hrow hrow2 hc hd
      subst hat
      go_enter Try.func54, Try.ntmps54
      go_wp2_with fail
      go_ret
      exact ⟨rfl, hEW⟩
    case pos =>
      subst hat
      subst hnm
      replace hno3 := hide hno3
      replace hyes := hide (hyes rfl)
      replace hn := hide hn
      replace hmn := hide hmn
      clear hz hno1 hno2
      go_enter Try.func54, Try.ntmps54
      go_wp2_with fail
      obtain ⟨W0, hW0⟩ : ∃ W0, W0 = (w.alloc (.cells #[.int .i64 at1, .slice A n c] 55)).alloc (.cells #[.int .i64 at1, .slice B n c2] 55) := ⟨_, rfl⟩
      rw [← hW0] at hEW hrow hrow2 ⊢
      clear hW0
      go_loopw [5] (fun s5 wr => ∃ i : Nat, s5 = .int .i64 i ∧ i ≤ n ∧ Hid (fs.take i = gs.take i) ∧ Hid (Ext W0 wr)) (fun s5 _ => n - (intOf s5).toNat)
      case atStart => exact ⟨0, rfl, by omega, hide rfl, hide (Ext.refl _)⟩
      case round =>
        obtain ⟨i, rfl, hi, htk, hE⟩ := hrel
        have y1 : wr.cell? ⟨w.heap.size, 1, none⟩ = some (.slice A n c) := (hrow.ext hE.out).cell 1 rfl
        have y2 : wr.cell? ⟨w.heap.size + 1, 1, none⟩ = some (.slice B n c2) := (hrow2.ext hE.out).cell 1 rfl
        by_cases hin : i < n
        · obtain ⟨f, hf⟩ : ∃ f, fs[i]? = some f := ⟨_, List.getElem?_eq_getElem (by rw [← hn.out]; exact hin)⟩
          obtain ⟨g, hg⟩ : ∃ g, gs[i]? = some g := ⟨_, List.getElem?_eq_getElem (by rw [← hmn.out]; exact hin)⟩
          obtain ⟨b1, o1, rfl, k0, k1⟩ := fcells_at (hc.ext (hEW.trans hE.out)) hf
          obtain ⟨b2, o2, rfl, k2, k3⟩ := fcells_at (hd.ext (hEW.trans hE.out)) hg
          have hne := fd_neq f g
          have hi0 : (0 : Int) ≤ i := by omega
          have hi1 : (i : Int) < n := by omega
          unfold strV at k0 k1 k2 k3
          by_cases hfg : f = g
          · have htk2 := hide (show fs.take (i + 1) = gs.take (i + 1) by rw [take_one2 hf, take_one2 hg, htk.out, hfg])
            rw [decide_eq_true hfg] at hne
            obtain ⟨f1, f2⟩ := f
            obtain ⟨g1, g2⟩ := g
            simp only at k0 k1 k2 k3 hne
            clear hf hg hfg
            go_wp2_with fail
            go_quiet (fail)
            go_wp2_with fail
            go_roundw
            case rel => exact ⟨i + 1, by go_num, by omega, htk2, hide (by first | exact hE.out.drew | exact hE.out.drewN _)⟩
            case measure => simp [intOf]; omega
          · obtain rfl : z = false := hno3.out (fun h => hfg (by rw [h, hg] at hf; exact (Option.some.inj hf).symm))
            rw [decide_eq_false hfg] at hne
            obtain ⟨f1, f2⟩ := f
            obtain ⟨g1, g2⟩ := g
            simp only at k0 k1 k2 k3 hne
            clear hf hg hfg
            go_wp2_with fail
            go_quiet (fail)
            go_wp2_with fail
            go_ret
            exact ⟨rfl, by first | exact hEW.trans hE.out.drew | exact hEW.trans (hE.out.drewN _)⟩
        · obtain rfl : z = true := hyes.out (by
            have h := htk.out
            rw [List.take_of_length_le (by rw [← hn.out]; omega), List.take_of_length_le (by rw [← hmn.out]; omega)] at h
            exact h)
          go_wp2_with fail
          go_ret
          exact ⟨rfl, hEW.trans hE.out⟩
end Go.Proofs.Ytohphanbnhiodaa

/- loggia/event and loggiaref10: Size, CheckBatch. -/
namespace Go.Proofs.Ytohphanbnhiodaa
open Go.RowKit

theorem sizeFs_take {fs : List Fd} {i : Nat} {f : Fd} (h : fs[i]? = some f) : sizeFs (fs.take (i + 1)) = sizeFs (fs.take i) + (f.1.length + f.2.length) := by
  unfold sizeFs
  rw [take_one2 h, List.map_append, List.sum_append]
  simp [sizeF]
theorem sizeFs_le : ∀ {fs : List Fd}, (∀ f ∈ fs, f.1.length ≤ 32 ∧ f.2.length ≤ 4096) → sizeFs fs ≤ 5000 * fs.length
  | [], _ => by simp [sizeFs]
  | f :: fs, h => by
    have h1 := sizeFs_le (fs := fs) fun x hx => h x (by simp [hx])
    have hf := h f (by simp)
    have h5 : sizeFs (f :: fs) = f.1.length + f.2.length + sizeFs fs := by unfold sizeFs; rw [List.map_cons, List.sum_cons]; rfl
    rw [h5, List.length_cons]
    omega
set_option maxRecDepth 100000 in
set_option maxHeartbeats 1000000 in
theorem esize_any (e : Ev) (A : Option Addr) (c : Nat) (w : World) (h : e.Ok w A) (hk : checkE e.fs = 0) : Calls Try.prog 71 #[e.val A c] w fun en w' => en = .returned (.int .i64 (sizeE e : Int)) ∧ Ext w w' := by
  obtain ⟨h16, hfl⟩ := checkE_fs hk
  obtain ⟨at_, fs⟩ := e
  obtain ⟨hc, _, _⟩ := h
  unfold Ev.val sizeE
  simp only at hc h16 hfl ⊢
  obtain ⟨n, hn⟩ : ∃ n, n = fs.length := ⟨_, rfl⟩
  rw [← hn] at h16 ⊢
  replace hn := hide hn
  replace hfl := hide hfl
  obtain ⟨W, hW⟩ : ∃ W, W = w.alloc (.cells #[.int .i64 at_, .slice A n c] 55) := ⟨_, rfl⟩
  have hEW : Ext w W := by rw [hW]; exact (Ext.refl w).alloc _
  have hr : Row W w.heap.size 55 #[.int .i64 at_, .slice A n c] := by rw [hW]; exact Row.new w _ _
  go_enter Try.func71, Try.ntmps71
  go_wp2_with fail
  rw [← hW]
  clear hW
  go_loopw [3, 9] (fun s3 s9 wr => ∃ (i k : Nat), s9 = .int .i64 (i : Int) ∧ s3 = .int .i64 (k : Int) ∧ i ≤ n ∧ k ≤ 16 + 5000 * i ∧ Hid (k = 16 + sizeFs (fs.take i)) ∧ Hid (Ext W wr)) (fun _ s9 _ => n - (intOf s9).toNat)
  case atStart => exact ⟨0, 16, rfl, rfl, by omega, by omega, hide (by simp [sizeFs]), hide (Ext.refl W)⟩
  case round =>
    obtain ⟨i, k, rfl, rfl, hi, hk, hks, hE⟩ := hrel
    by_cases hin : i < n
    · obtain ⟨f, hf⟩ : ∃ f, fs[i]? = some f := ⟨_, List.getElem?_eq_getElem (by rw [← hn.out]; exact hin)⟩
      obtain ⟨g, o, rfl, k0, k1⟩ := fcells_at ((hc.ext hEW).ext hE.out) hf
      have hl1 := hfl.out f (List.mem_of_getElem? hf)
      have htk := sizeFs_take hf
      obtain ⟨nm, tx⟩ := f
      unfold strV at k0 k1
      simp only at k0 k1 hl1 htk
      obtain ⟨hl1, hl2⟩ := hl1
      have hi0 : (0 : Int) ≤ i := by omega
      have hi1 : (i : Int) < n := by omega
      replace htk := hide htk
      have hE2 := hide (hE.out.alloc (.cells #[.string ⟨nm.toArray⟩, .string ⟨tx.toArray⟩] 52))
      clear hf
      go_wp2_with fail
      go_roundw
      case rel => exact ⟨i + 1, k + (nm.length + tx.length), by go_num, by go_num, by omega, by omega, hide (by rw [htk.out, hks.out]; omega), hE2⟩
      case measure => simp [intOf]; omega
    · have hall : fs.take i = fs := List.take_of_length_le (by rw [← hn.out]; omega)
      rw [hall] at hks
      have hkv : (k : Int) = ((16 + sizeFs fs : Nat) : Int) := by rw [hks.out]
      replace hkv := hide hkv
      go_wp2_with fail
      go_ret
      exact ⟨by rw [← hkv.out]; rfl, hEW.trans hE.out⟩
set_option maxRecDepth 100000 in
set_option maxHeartbeats 1000000 in
theorem rsize_any (e : Ev) (A : Option Addr) (c : Nat) (w : World) (h : e.Ok w A) (hk : checkE e.fs = 0) : Calls Try.prog 76 #[e.val A c] w fun en w' => en = .returned (.int .i64 (sizeE e : Int)) ∧ Ext w w' := by
  obtain ⟨h16, hfl⟩ := checkE_fs hk
  obtain ⟨at_, fs⟩ := e
  obtain ⟨hc, _, _⟩ := h
  unfold Ev.val sizeE
  simp only at hc h16 hfl ⊢
  obtain ⟨n, hn⟩ : ∃ n, n = fs.length := ⟨_, rfl⟩
  rw [← hn] at h16 ⊢
  replace hn := hide hn
  replace hfl := hide hfl
  obtain ⟨W, hW⟩ : ∃ W, W = w.alloc (.cells #[.int .i64 at_, .slice A n c] 55) := ⟨_, rfl⟩
  have hEW : Ext w W := by rw [hW]; exact (Ext.refl w).alloc _
  have hr : Row W w.heap.size 55 #[.int .i64 at_, .slice A n c] := by rw [hW]; exact Row.new w _ _
  go_enter Try.func76, Try.ntmps76
  go_wp2_with fail
  rw [← hW]
  clear hW
  go_loopw [3, 4] (fun s3 s4 wr => ∃ (i k : Nat), s4 = .int .i64 (i : Int) ∧ s3 = .int .i64 (k : Int) ∧ i ≤ n ∧ k ≤ 16 + 5000 * i ∧ Hid (k = 16 + sizeFs (fs.take i)) ∧ Hid (Ext W wr)) (fun _ s4 _ => n - (intOf s4).toNat)
  case atStart => exact ⟨0, 16, rfl, rfl, by omega, by omega, hide (by simp [sizeFs]), hide (Ext.refl W)⟩
  case round =>
    obtain ⟨i, k, rfl, rfl, hi, hk, hks, hE⟩ := hrel
    have y1 : wr.cell? ⟨w.heap.size, 1, none⟩ = some (.slice A n c) := (hr.ext hE.out).cell 1 rfl
    by_cases hin : i < n
    · obtain ⟨f, hf⟩ : ∃ f, fs[i]? = some f := ⟨_, List.getElem?_eq_getElem (by rw [← hn.out]; exact hin)⟩
      obtain ⟨g, o, rfl, k0, k1⟩ := fcells_at ((hc.ext hEW).ext hE.out) hf
      have hl1 := hfl.out f (List.mem_of_getElem? hf)
      have htk := sizeFs_take hf
      obtain ⟨nm, tx⟩ := f
      unfold strV at k0 k1
      simp only at k0 k1 hl1 htk
      obtain ⟨hl1, hl2⟩ := hl1
      have hi0 : (0 : Int) ≤ i := by omega
      have hi1 : (i : Int) < n := by omega
      replace htk := hide htk
      have hE2 := hide hE.out.drew
      clear hf
      go_wp2_with fail
      refine wp_region_text follows (by kernel_rfl) (by kernel_rfl) (fun K hK => ?_)
      go_wp2_with fail
      refine ⟨by kernel_rfl, ?_⟩
      go_wp2_with fail
      go_roundw
      case rel => exact ⟨i + 1, k + nm.length + tx.length, by go_num, by go_num, by omega, by omega, hide (by rw [htk.out, hks.out]; omega), hE2⟩
      case measure => simp [intOf]; omega
    · have hall : fs.take i = fs := List.take_of_length_le (by rw [← hn.out]; omega)
      rw [hall] at hks
      have hkv : (k : Int) = ((16 + sizeFs fs : Nat) : Int) := by rw [hks.out]
      replace hkv := hide hkv
      go_wp2_with fail
      go_ret
      exact ⟨by rw [← hkv.out]; rfl, hEW.trans hE.out⟩
end Go.Proofs.Ytohphanbnhiodaa

/- loggia/event: Get. -/
namespace Go.Proofs.Ytohphanbnhiodaa
open Go.RowKit

/-- What an event is told to be. -/
def GotE (w0 w : World) (res : Option (Ev × List UInt8)) (e : Ending) (w' : World) : Prop := Ext w w' ∧ match res with
  | some (ev, r) => ∃ B d A c, e = .returned (.tuple #[ev.val B d, .slice A r.length c, .int .i64 0]) ∧ ev.Own w' w.heap.size B d ∧ In8 w0 A r.length c r ∧ I64ok' ev.at_
  | none => e = .returned (.tuple #[.agg #[.int .i64 0, .slice none 0 0], .slice none 0 0, .int .i64 100])
theorem GotE.no {w0 w w' : World} {res : Option (Ev × List UInt8)} (hE : Ext w w') (h : res = none) : GotE w0 w res (.returned (.tuple #[.agg #[.int .i64 0, .slice none 0 0], .slice none 0 0, .int .i64 100])) w' := by
  subst h
  exact ⟨hE, rfl⟩
/-- What has been read ahead of it. -/
def aheadF (read : List Fd) : Option (List Fd × List UInt8) → Option (List Fd × List UInt8)
  | none => none
  | some (fs, r) => some (read ++ fs, r)
theorem aheadF_nil (x : Option (List Fd × List UInt8)) : aheadF [] x = x := by cases x <;> rfl
theorem getFs_step {k i : Nat} {read : List Fd} {L r r1 r2 nm tx : List UInt8} (h : getFs k L = aheadF read (getFs (k - i) r)) (hi : i < k) (h1 : getT 32 r = .ok (nm, r1)) (h2 : getT 4096 r1 = .ok (tx, r2)) : getFs k L = aheadF (read ++ [(nm, tx)]) (getFs (k - (i + 1)) r2) := by
  obtain ⟨j, hj⟩ : ∃ j, k - i = j + 1 := ⟨k - i - 1, by omega⟩
  rw [h, hj, show k - (i + 1) = j by omega]
  conv => lhs; unfold getFs
  rw [h1]
  simp only
  rw [h2]
  simp only
  cases getFs j r2 with
  | none => rfl
  | some p => obtain ⟨fs, r3⟩ := p; simp [aheadF]
theorem getFs_no1 {k i : Nat} {read : List Fd} {L r : List UInt8} {x : Nat} (h : getFs k L = aheadF read (getFs (k - i) r)) (hi : i < k) (h1 : getT 32 r = .error x) : getFs k L = none := by
  obtain ⟨j, hj⟩ : ∃ j, k - i = j + 1 := ⟨k - i - 1, by omega⟩
  rw [h, hj]
  unfold getFs
  rw [h1]
  rfl
theorem getFs_no2 {k i : Nat} {read : List Fd} {L r r1 nm : List UInt8} {x : Nat} (h : getFs k L = aheadF read (getFs (k - i) r)) (hi : i < k) (h1 : getT 32 r = .ok (nm, r1)) (h2 : getT 4096 r1 = .error x) : getFs k L = none := by
  obtain ⟨j, hj⟩ : ∃ j, k - i = j + 1 := ⟨k - i - 1, by omega⟩
  rw [h, hj]
  unfold getFs
  rw [h1]
  simp only
  rw [h2]
  rfl
theorem getFs_fin {k i : Nat} {read : List Fd} {L r : List UInt8} (h : getFs k L = aheadF read (getFs (k - i) r)) (hi : k ≤ i) : getFs k L = some (read, r) := by
  rw [h, show k - i = 0 by omega]
  unfold getFs aheadF
  simp
theorem getT_err {most k : Nat} {l : List UInt8} (h : getT most l = .error k) : 0 < k := by
  unfold getT at h
  split at h
  · rename_i hg
    injection h with h
    rw [← h]
    exact getV_err _ _ _ hg
  · split at h
    · injection h with h; omega
    · split at h
      · injection h with h; omega
      · cases h
/-- The event's block, written. -/
def setEv (w : World) (g : Nat) (at_ : Int) (A : Option Addr) (n c : Nat) : World := (w.setCell ⟨g, 0, none⟩ (.int .i64 at_)).setCell ⟨g, 1, none⟩ (.slice A n c)
theorem setEv_row {w : World} {g : Nat} {T : TypeId} {x y : Value} (h : Row w g T #[x, y]) (at_ : Int) (A : Option Addr) (n c : Nat) : Row (setEv w g at_ A n c) g T #[.int .i64 at_, .slice A n c] := (h.put 0 _).put 1 _
theorem setEv_chg (w : World) (g : Nat) (at_ : Int) (A : Option Addr) (n c : Nat) : Chg (fun k => k = g) w (setEv w g at_ A n c) := (Chg.of_set (S := fun k => k = g) w _ rfl).trans (Chg.of_set (S := fun k => k = g) _ _ rfl) fun _ _ h => h
theorem setEv_ext {w0 w : World} (h : Ext w0 w) {g : Nat} (hg : w0.heap.size ≤ g) (at_ : Int) (A : Option Addr) (n c : Nat) : Ext w0 (setEv w g at_ A n c) := h.chg (setEv_chg w g at_ A n c) fun i hi he => by omega
set_option maxRecDepth 100000 in
set_option maxHeartbeats 4000000 in
theorem evget_any (A : Option Addr) (n c : Nat) (l : List UInt8) (w0 w : World) (h : In8 w0 A n c l) (hw : Ext w0 w) (hle : n ≤ 1000000000) :
    Calls Try.prog 48 #[.slice A n c] w fun e w' => GotE w0 w (getE l) e w' := by
  obtain ⟨W, hW⟩ : ∃ W, W = w.alloc (.cells #[.int .i64 0, .slice none 0 0] 55) := ⟨_, rfl⟩
  have hEW : Ext w W := by rw [hW]; exact (Ext.refl w).alloc _
  obtain ⟨b, hb⟩ : ∃ b, b = w.heap.size := ⟨_, rfl⟩
  have hr : Row W b 55 #[.int .i64 0, .slice none 0 0] := by rw [hW, hb]; exact Row.new w _ _
  have hbw := hide (Nat.le_of_eq hb.symm)
  have hg1 := getInt_any A n c l w0 W h (hw.trans hEW) hle
  have hln : l.length ≤ 1000000000 := by rw [← h.len]; exact hle
  obtain ⟨Z, hZ⟩ : ∃ Z, Z = getE l := ⟨_, rfl⟩
  rw [← hZ]
  unfold getE at hZ
  replace hW := hide hW
  replace hb := hide hb
  clear h
  cases hv1 : getV 0 l with
  | error k =>
    rw [hv1] at hg1 hZ
    have hk := getV_err l 0 k hv1
    have hk0 : ((k : Int) != 0) = true := by simp; omega
    have hg := hide hg1
    clear hv1 hk hg1
    go_enter Try.func48, Try.ntmps48
    go_wp2_with fail
    rw [← hW.out, ← hb.out]
    refine hg.out.mono ?_
    rintro e w1 ⟨hE1, rfl⟩
    have hr1 := hr.ext hE1
    have f1 := fun i => hr1.free i
    have d0 := hr1.cell 0 rfl
    have d1 := hr1.cell 1 rfl
    replace hr1 := hide hr1
    have hE01 := hide (hEW.trans hE1)
    replace hZ := hide hZ
    go_wp2_with fail
    obtain ⟨wz, hwz⟩ : ∃ wz, wz = setEv w1 b 0 none 0 0 := ⟨_, rfl⟩; have hk := setEv_row hr1.out 0 none 0 0; rw [← hwz] at hk; have hEz := setEv_ext hE01.out hbw.out 0 none 0 0; rw [← hwz] at hEz; unfold setEv at hwz; rw [← hwz]; have k0 : wz.cell? ⟨b, 0, none⟩ = some (.int .i64 0) := hk.cell 0 rfl; have k1 : wz.cell? ⟨b, 1, none⟩ = some (.slice none 0 0) := hk.cell 1 rfl; clear hwz hk; exact bodyPost_ret (v := .tuple #[.agg #[.int .i64 0, .slice none 0 0], .slice none 0 0, .int .i64 100]) (by simp [results, Try.results48, go_sem, k0, k1]) rfl (GotE.no hEz hZ.out)
  | ok p =>
    obtain ⟨u, r⟩ := p
    have hu := getV_lt64 hv1
    have hrl : r.length ≤ 1000000000 := by
      obtain ⟨_, _, q, hq, _⟩ := getV_lt l 0 u r hv1
      rw [hq, List.length_append] at hln
      omega
    rw [hv1] at hg1 hZ
    simp only at hZ
    have hg := hide hg1
    have huz := unzig_ok hu
    obtain ⟨at_, hat⟩ : ∃ at_, at_ = unzig u := ⟨_, rfl⟩
    unfold GotI at hg
    simp only at hg
    rw [← hat] at hg hZ huz
    clear hv1 hg1 hat hu
    cases hv2 : getV 0 r with
    | error k =>
      rw [hv2] at hZ
      have hk := getV_err r 0 k hv2
      have hk0 : ((k : Int) != 0) = true := by simp; omega
      have hg2 := fun A c W h hE => get_any A r.length c r w0 W h hE hrl
      rw [hv2] at hg2
      replace hg2 := hide hg2
      replace hZ := hide hZ
      clear hv2 hk
      go_enter Try.func48, Try.ntmps48
      go_wp2_with fail
      rw [← hW.out, ← hb.out]
      refine hg.out.mono ?_
      rintro e w1 ⟨hE1, A1, c1, rfl, hi1⟩
      have hgg := hide (hg2.out A1 c1 w1 hi1 ((hw.trans hEW).trans hE1))
      go_wp2_with fail
      refine hgg.out.mono ?_
      rintro e w2 ⟨hE2, rfl⟩
      have hr1 := hr.ext (hE1.trans hE2)
      have f1 := fun i => hr1.free i
      have d0 := hr1.cell 0 rfl
      have d1 := hr1.cell 1 rfl
      replace hr1 := hide hr1
      have hE01 := hide (hEW.trans (hE1.trans hE2))
      go_wp2_with fail
      obtain ⟨wz, hwz⟩ : ∃ wz, wz = setEv w2 b 0 none 0 0 := ⟨_, rfl⟩; have hk := setEv_row hr1.out 0 none 0 0; rw [← hwz] at hk; have hEz := setEv_ext hE01.out hbw.out 0 none 0 0; rw [← hwz] at hEz; unfold setEv at hwz; rw [← hwz]; have k0 : wz.cell? ⟨b, 0, none⟩ = some (.int .i64 0) := hk.cell 0 rfl; have k1 : wz.cell? ⟨b, 1, none⟩ = some (.slice none 0 0) := hk.cell 1 rfl; clear hwz hk; exact bodyPost_ret (v := .tuple #[.agg #[.int .i64 0, .slice none 0 0], .slice none 0 0, .int .i64 100]) (by simp [results, Try.results48, go_sem, k0, k1]) rfl (GotE.no hEz hZ.out)
    | ok p =>
      obtain ⟨m, r2⟩ := p
      have hrl2 : r2.length ≤ 1000000000 := by
        obtain ⟨_, _, q, hq, _⟩ := getV_lt r 0 m r2 hv2
        rw [hq, List.length_append] at hrl
        omega
      have hm64 := getV_lt64 hv2
      rw [hv2] at hZ
      simp only at hZ
      have hg2 := fun A c W h hE => get_any A r.length c r w0 W h hE hrl
      rw [hv2] at hg2
      unfold Got at hg2
      simp only at hg2
      replace hg2 := hide hg2
      clear hv2
      by_cases hm16 : 16 < m
      · rw [if_pos hm16] at hZ
        have hm' : (16 : Int) < m := by omega
        replace hZ := hide hZ
        go_enter Try.func48, Try.ntmps48
        go_wp2_with fail
        rw [← hW.out, ← hb.out]
        refine hg.out.mono ?_
        rintro e w1 ⟨hE1, A1, c1, rfl, hi1⟩
        have hgg := hide (hg2.out A1 c1 w1 hi1 ((hw.trans hEW).trans hE1))
        go_wp2_with fail
        refine hgg.out.mono ?_
        rintro e w2 ⟨hE2, A2, c2, rfl, hi2⟩
        have hr1 := hr.ext (hE1.trans hE2)
        have f1 := fun i => hr1.free i
        have d0 := hr1.cell 0 rfl
        have d1 := hr1.cell 1 rfl
        replace hr1 := hide hr1
        have hE01 := hide (hEW.trans (hE1.trans hE2))
        go_wp2_with fail
        obtain ⟨wz, hwz⟩ : ∃ wz, wz = setEv w2 b 0 none 0 0 := ⟨_, rfl⟩; have hk := setEv_row hr1.out 0 none 0 0; rw [← hwz] at hk; have hEz := setEv_ext hE01.out hbw.out 0 none 0 0; rw [← hwz] at hEz; unfold setEv at hwz; rw [← hwz]; have k0 : wz.cell? ⟨b, 0, none⟩ = some (.int .i64 0) := hk.cell 0 rfl; have k1 : wz.cell? ⟨b, 1, none⟩ = some (.slice none 0 0) := hk.cell 1 rfl; clear hwz hk; exact bodyPost_ret (v := .tuple #[.agg #[.int .i64 0, .slice none 0 0], .slice none 0 0, .int .i64 100]) (by simp [results, Try.results48, go_sem, k0, k1]) rfl (GotE.no hEz hZ.out)
      · rw [if_neg hm16] at hZ
        have hm' : ¬ (16 : Int) < m := by omega
        replace hZ := hide hZ
        go_enter Try.func48, Try.ntmps48
        go_wp2_with fail
        rw [← hW.out, ← hb.out]
        refine hg.out.mono ?_
        rintro e w1 ⟨hE1, A1, c1, rfl, hi1⟩
        have hgg := hide (hg2.out A1 c1 w1 hi1 ((hw.trans hEW).trans hE1))
        go_wp2_with fail
        refine hgg.out.mono ?_
        rintro e w2 ⟨hE2, A2, c2, rfl, hi2⟩
        have hr1 := hr.ext (hE1.trans hE2)
        have f1 := fun i => hr1.free i
        have d0 := hr1.cell 0 rfl
        have d1 := hr1.cell 1 rfl
        replace hr1 := hide hr1
        have hE01 := hide (hEW.trans (hE1.trans hE2))
        go_wp2_with fail
        have hrw := hr1.out.put 0 (.int .i64 at_)
        obtain ⟨W3, hW3⟩ : ∃ W3, W3 = w2.setCell ⟨b, 0, none⟩ (.int .i64 at_) := ⟨_, rfl⟩
        have hE03 : Ext w W3 := by rw [hW3]; exact hE01.out.setCell hbw.out _
        have hr3 : Row W3 b 55 #[.int .i64 at_, .slice none 0 0] := by rw [hW3]; exact hrw
        rw [← hW3]
        clear hrw hr1 hE01 f1 d0 d1 hgg hg hg2 hW3
        go_loopw [3, 33] (fun s3 s33 wr => ∃ (i : Nat) (read : List Fd) (rr : List UInt8) (B A3 : Option Addr) (d c3 : Nat), s33 = .int .u64 (i : Int) ∧ s3 = .slice A3 rr.length c3 ∧ i ≤ m ∧ rr.length ≤ 1000000000 ∧ Hid (i = read.length) ∧ Hid (getFs m r2 = aheadF read (getFs (m - i) rr)) ∧ Hid (∀ f ∈ read, f.1.length ≤ 1000000000 ∧ f.2.length ≤ 1000000000) ∧ Hid (Row wr b 55 #[.int .i64 at_, .slice B i d]) ∧ Hid (wr.ownsRow (b + 1) 52 2 (.slice B i d) i (fcells read)) ∧ Hid (In8 w0 A3 rr.length c3 rr) ∧ Hid (Ext w wr)) (fun _ s33 _ => m - (intOf s33).toNat)
        case atStart => exact ⟨0, [], r2, none, A2, 0, c2, rfl, rfl, by omega, hrl2, hide rfl, hide (by rw [aheadF_nil]; rfl), hide nofun, hide hr3, hide ⟨rfl, .inl ⟨rfl, rfl⟩⟩, hide hi2, hide hE03⟩
        case round =>
          obtain ⟨i, read, rr, B, A3, d, c3, rfl, rfl, hi, hrr, hil, hgf, hlg, hrow, hown, hin8, hE⟩ := hrel
          have q0 : wr.cell? ⟨b, 0, none⟩ = some (.int .i64 at_) := hrow.out.cell 0 rfl
          have q1 : wr.cell? ⟨b, 1, none⟩ = some (.slice B i d) := hrow.out.cell 1 rfl
          by_cases him : i < m
          · have hi1 : (i : Int) < m := by omega
            obtain ⟨fb, hfb⟩ : ∃ fb, fb = wr.heap.size := ⟨_, rfl⟩
            obtain ⟨Wf, hWf⟩ : ∃ Wf, Wf = wr.alloc (.cells #[.string ⟨#[]⟩, .string ⟨#[]⟩] 52) := ⟨_, rfl⟩
            have hEf : Ext wr Wf := by rw [hWf]; exact (Ext.refl wr).alloc _
            have hrf : Row Wf fb 52 #[.string ⟨#[]⟩, .string ⟨#[]⟩] := by rw [hWf, hfb]; exact Row.new wr _ _
            have hbf : b < fb := by rw [hfb]; exact hrow.out.lt
            have hgt := fun A c W h hE => getText_any A rr.length c 32 rr w0 W h hE hrr (by omega)
            have hgt1 := hgt A3 c3 Wf hin8.out (hw.trans (hE.out.trans hEf))
            have hEwf := hide (hE.out.trans hEf)
            replace hWf := hide hWf
            replace hfb := hide hfb
            cases ht1 : getT 32 rr with
            | error k =>
              have hk := getT_err ht1
              have hk0 : ((k : Int) != 0) = true := by simp; omega
              have hnone := hide (getFs_no1 hgf.out him ht1)
              rw [ht1] at hgt1
              replace hgt1 := hide hgt1
              clear ht1 hk hgt
              go_wp2_with fail
              rw [← hWf.out, ← hfb.out]
              refine hgt1.out.mono ?_
              rintro e w4 ⟨hE4, rfl⟩
              have hrf4 := hrf.ext hE4
              have hr4 := (hrow.out.ext hEf).ext hE4
              have f4 := fun i => hrf4.free i
              have d4 := hrf4.cell 0 rfl
              have hr5 := hr4.away (p := ⟨fb, 0, none⟩) (by simp only; omega) (.string ⟨#[]⟩)
              have f5 := fun i => hr5.free i
              have e5 := hr5.cell 0 rfl
              have e6 := hr5.cell 1 rfl
              have hE05 := hide ((hEwf.out.trans hE4).setCell (p := ⟨fb, 0, none⟩) (by simp only; have := hbw.out; omega) (.string ⟨#[]⟩))
              have hzn : Hid (Z = none) := hide (by rw [hZ.out, hnone.out])
              replace hr5 := hide hr5
              go_wp2_with fail
              obtain ⟨wz, hwz⟩ : ∃ wz, wz = setEv (w4.setCell ⟨fb, 0, none⟩ (.string ⟨#[]⟩)) b 0 none 0 0 := ⟨_, rfl⟩; have hk := setEv_row hr5.out 0 none 0 0; rw [← hwz] at hk; have hEz := setEv_ext hE05.out hbw.out 0 none 0 0; rw [← hwz] at hEz; unfold setEv at hwz; rw [← hwz]; have k0 : wz.cell? ⟨b, 0, none⟩ = some (.int .i64 0) := hk.cell 0 rfl; have k1 : wz.cell? ⟨b, 1, none⟩ = some (.slice none 0 0) := hk.cell 1 rfl; clear hwz hk; exact bodyPost_ret (v := .tuple #[.agg #[.int .i64 0, .slice none 0 0], .slice none 0 0, .int .i64 100]) (by simp [results, Try.results48, go_sem, k0, k1]) rfl (GotE.no hEz hzn.out)
            | ok p =>
              obtain ⟨nm, rn⟩ := p
              obtain ⟨hnl, hrn, _⟩ := getT_ok ht1
              rw [ht1] at hgt1
              unfold GotT at hgt1
              simp only at hgt1
              replace hgt1 := hide hgt1
              have hrnl : rn.length ≤ 1000000000 := by omega
              have hgt2 := hide (fun A c W h hE => getText_any A rn.length c 4096 rn w0 W h hE hrnl (by omega))
              clear hgt
              cases ht2 : getT 4096 rn with
              | error k =>
                have hk := getT_err ht2
                have hk0 : ((k : Int) != 0) = true := by simp; omega
                have hnone := hide (getFs_no2 hgf.out him ht1 ht2)
                rw [ht2] at hgt2
                clear ht1 ht2 hk
                go_wp2_with fail
                rw [← hWf.out, ← hfb.out]
                refine hgt1.out.mono ?_
                rintro e w4 ⟨hE4, A4, c4, rfl, hi4⟩
                have hrf4 := hrf.ext hE4
                have hr4 := (hrow.out.ext hEf).ext hE4
                have f4 := fun i => hrf4.free i
                have d4 := hrf4.cell 0 rfl
                obtain ⟨w5, hw5⟩ : ∃ w5, w5 = w4.setCell ⟨fb, 0, none⟩ (.string ⟨nm.toArray⟩) := ⟨_, rfl⟩
                have hE05 := (hEwf.out.trans hE4).setCell (p := ⟨fb, 0, none⟩) (by simp only; have := hbw.out; omega) (.string ⟨nm.toArray⟩)
                have hrf5 := hrf4.put 0 (.string ⟨nm.toArray⟩)
                have hr5 := hr4.away (p := ⟨fb, 0, none⟩) (by simp only; omega) (.string ⟨nm.toArray⟩)
                rw [← hw5] at hE05 hrf5 hr5
                have hgg := hide (hgt2.out A4 c4 w5 hi4 (hw.trans hE05))
                replace hw5 := hide hw5
                go_wp2_with fail
                rw [← hw5.out]
                refine hgg.out.mono ?_
                rintro e w6 ⟨hE6, rfl⟩
                have hrf6 := hrf5.ext hE6
                have hr6 := hr5.ext hE6
                have f6 := fun i => hrf6.free i
                have d6 := hrf6.cell 1 rfl
                have hr7 := hr6.away (p := ⟨fb, 1, none⟩) (by simp only; omega) (.string ⟨#[]⟩)
                have f7 := fun i => hr7.free i
                have e5 := hr7.cell 0 rfl
                have e6 := hr7.cell 1 rfl
                have hE07 := hide ((hE05.trans hE6).setCell (p := ⟨fb, 1, none⟩) (by simp only; have := hbw.out; omega) (.string ⟨#[]⟩))
                have hzn : Hid (Z = none) := hide (by rw [hZ.out, hnone.out])
                replace hr7 := hide hr7
                go_wp2_with fail
                obtain ⟨wz, hwz⟩ : ∃ wz, wz = setEv (w6.setCell ⟨fb, 1, none⟩ (.string ⟨#[]⟩)) b 0 none 0 0 := ⟨_, rfl⟩; have hk := setEv_row hr7.out 0 none 0 0; rw [← hwz] at hk; have hEz := setEv_ext hE07.out hbw.out 0 none 0 0; rw [← hwz] at hEz; unfold setEv at hwz; rw [← hwz]; have k0 : wz.cell? ⟨b, 0, none⟩ = some (.int .i64 0) := hk.cell 0 rfl; have k1 : wz.cell? ⟨b, 1, none⟩ = some (.slice none 0 0) := hk.cell 1 rfl; clear hwz hk; exact bodyPost_ret (v := .tuple #[.agg #[.int .i64 0, .slice none 0 0], .slice none 0 0, .int .i64 100]) (by simp [results, Try.results48, go_sem, k0, k1]) rfl (GotE.no hEz hzn.out)
              | ok p =>
                obtain ⟨tx, rt⟩ := p
                obtain ⟨htl, hrt, _⟩ := getT_ok ht2
                rw [ht2] at hgt2
                unfold GotT at hgt2
                simp only at hgt2
                replace hgt2 := hide hgt2
                have hstep := hide (getFs_step hgf.out him ht1 ht2)
                clear ht1 ht2
                go_wp2_with fail
                rw [← hWf.out, ← hfb.out]
                refine hgt1.out.mono ?_
                rintro e w4 ⟨hE4, A4, c4, rfl, hi4⟩
                have hrf4 := hrf.ext hE4
                have hr4 := (hrow.out.ext hEf).ext hE4
                have ho4 := hE4.owns (hEf.owns hown.out)
                have f4 := fun i => hrf4.free i
                have d4 := hrf4.cell 0 rfl
                obtain ⟨w5, hw5⟩ : ∃ w5, w5 = w4.setCell ⟨fb, 0, none⟩ (.string ⟨nm.toArray⟩) := ⟨_, rfl⟩
                have hE05 := (hEwf.out.trans hE4).setCell (p := ⟨fb, 0, none⟩) (by simp only; have := hbw.out; omega) (.string ⟨nm.toArray⟩)
                have hrf5 := hrf4.put 0 (.string ⟨nm.toArray⟩)
                have hr5 := hr4.away (p := ⟨fb, 0, none⟩) (by simp only; omega) (.string ⟨nm.toArray⟩)
                have hoa : (Value.slice B i d).ownBlock ≠ some fb := by
                  have hown0 := hown.out
                  intro hfe
                  obtain ⟨_, hrow2, _⟩ := owns_row hown0 hfe
                  have := hrow2.lt
                  have := hfb.out
                  omega
                have ho5 := owns_set ho4 (a := ⟨fb, 0, none⟩) hoa (.string ⟨nm.toArray⟩)
                rw [← hw5] at hE05 hrf5 hr5 ho5
                have hgg := hide (hgt2.out A4 c4 w5 hi4 (hw.trans hE05))
                replace hw5 := hide hw5
                go_wp2_with fail
                rw [← hw5.out]
                refine hgg.out.mono ?_
                rintro e w6 ⟨hE6, A6, c6, rfl, hi6⟩
                have hrf6 := hrf5.ext hE6
                have hr6 := hr5.ext hE6
                have ho6 := hE6.owns ho5
                have f6 := fun i => hrf6.free i
                have d6 := hrf6.cell 1 rfl
                obtain ⟨w7, hw7⟩ : ∃ w7, w7 = w6.setCell ⟨fb, 1, none⟩ (.string ⟨tx.toArray⟩) := ⟨_, rfl⟩
                have hr7 := hr6.away (p := ⟨fb, 1, none⟩) (by simp only; omega) (.string ⟨tx.toArray⟩)
                have hrf7 : Row (w6.setCell ⟨fb, 1, none⟩ (.string ⟨tx.toArray⟩)) fb 52 #[.string ⟨nm.toArray⟩, .string ⟨tx.toArray⟩] := hrf6.put 1 (.string ⟨tx.toArray⟩)
                have ho7 := owns_set ho6 (a := ⟨fb, 1, none⟩) hoa (.string ⟨tx.toArray⟩)
                have hE07 := (hE05.trans hE6).setCell (p := ⟨fb, 1, none⟩) (by simp only; have := hbw.out; omega) (.string ⟨tx.toArray⟩)
                have f7 := hr7.free 1
                have e6 := hr7.cell 1 rfl
                have g0 := hrf7.cell 0 rfl
                have g1 := hrf7.cell 1 rfl
                have hsz7 : b + 1 ≤ (w6.setCell ⟨fb, 1, none⟩ (.string ⟨tx.toArray⟩)).heap.size := hr7.lt
                go_wp2_with (at_builtin; refine wpList_appZ (us := [.string ⟨nm.toArray⟩, .string ⟨tx.toArray⟩]) (m := 1) elemFd ho7 (by simp [World.setCell]) (.tmp 56) (.tmp 58) rfl rfl rfl rfl rfl (one_of rfl) (by omega) hsz7 (fun A8 c8 w8 ho8 hg8 hl8 => ?_); have hne8 : ∀ k, (Value.slice B i d).ownBlock = some k → b + 1 ≤ k := (fun k hk => by obtain ⟨_, _, hb⟩ := owns_row ho7 hk; exact hb); have hr8 := Row.grown hr7 hg8 (fun e => by have := hne8 _ e.symm; omega); have f8 := hr8.free 1; have e8 : w8.cell? ⟨b, 1, none⟩ = some (.slice B i d) := hr8.cell 1 rfl; have hr8h := hide hr8; have ho8h := hide ho8; have hE08 := hide (hE07.grown hg8 fun k hk => by have := hne8 k hk; have := hbw.out; omega); clear hr8 ho8 hg8 hl8)
                have hne9 : (Value.slice A8 (i + 1) c8).ownBlock ≠ some b := fun e => by
                  obtain ⟨_, _, hb⟩ := owns_row ho8h.out e
                  omega
                refine ⟨⟨i + 1, read ++ [(nm, tx)], rt, A8, A6, c8, c6, by go_num, rfl, by omega, by omega, hide (by rw [List.length_append, ← hil.out]; rfl), hstep, hide ?_, hide (hr8h.out.put 1 _), hide (by rw [fcells_snoc]; exact owns_set ho8h.out hne9 _), hide hi6, hide (hE08.out.setCell hbw.out _)⟩, ?_⟩
                · intro f hf
                  rcases List.mem_append.1 hf with hf | hf
                  · exact hlg.out f hf
                  · rw [List.mem_singleton.1 hf]; simp only; omega
                · simp [intOf]; omega
          · obtain rfl : i = m := by omega
            have hfin := getFs_fin hgf.out (Nat.le_refl _)
            have hzz := hZ.out
            rw [hfin] at hzz
            simp only at hzz
            have hok : Ev.Own ⟨at_, read⟩ wr (b + 1) B d := ⟨by simp only; rw [← hil.out]; exact hown.out, fun f hf => by have := hlg.out f hf; omega, by simp only; have := hil.out; omega⟩
            have hck := echeck_any ⟨at_, read⟩ B d wr hok.ok
            unfold Ev.val at hck
            simp only at hck
            rw [← hil.out] at hck
            obtain ⟨j, hj⟩ : ∃ j, j = checkE read := ⟨_, rfl⟩
            rw [← hj] at hck hzz
            replace hj := hide hj
            replace hck := hide hck
            replace hok := hide hok
            replace hzz := hide hzz
            by_cases hj0 : j = 0
            · subst hj0
              go_wp2_with fail
              refine hck.out.mono ?_
              rintro e w4 ⟨rfl, hE4⟩
              have hr4 := hrow.out.ext hE4
              have f4 := fun k => hr4.free k
              have g0 := hr4.cell 0 rfl
              have g1 := hr4.cell 1 rfl
              replace hr4 := hide hr4
              have hE04 := hide (hE.out.trans hE4)
              clear q0 q1
              go_wp2_with fail
              obtain ⟨wz, hwz⟩ : ∃ wz, wz = setEv w4 b at_ B i d := ⟨_, rfl⟩
              have hk := setEv_row hr4.out at_ B i d
              have hcz := (setEv_chg w4 b at_ B i d).owns (hE4.owns hok.out.1) (fun k hk h => by obtain ⟨_, _, hb⟩ := owns_row (hE4.owns hok.out.1) hk; omega)
              have hEz := setEv_ext hE04.out hbw.out at_ B i d
              rw [← hwz] at hk hcz hEz
              unfold setEv at hwz
              rw [← hwz]
              have k0 : wz.cell? ⟨b, 0, none⟩ = some (.int .i64 at_) := hk.cell 0 rfl
              have k1 : wz.cell? ⟨b, 1, none⟩ = some (.slice B i d) := hk.cell 1 rfl
              clear hwz hk
              have hz1 := hzz.out
              rw [if_pos trivial] at hz1
              exact bodyPost_ret (v := .tuple #[.agg #[.int .i64 at_, .slice B i d], .slice A3 rr.length c3, .int .i64 0]) (by simp [results, Try.results48, go_sem, k0, k1]) rfl (by rw [hz1]; exact ⟨hEz, B, d, A3, c3, by unfold Ev.val; simp only; rw [← hil.out], ⟨owns_lower hcz (by have := hbw.out; omega), hok.out.2⟩, hin8.out, huz⟩)
            · have hj0' : ¬ (j : Int) = 0 := by omega
              have hzn : Hid (Z = none) := hide (by rw [hzz.out, if_neg hj0])
              go_wp2_with fail
              refine hck.out.mono ?_
              rintro e w4 ⟨rfl, hE4⟩
              have hr4 := hrow.out.ext hE4
              have f4 := fun k => hr4.free k
              have g0 := hr4.cell 0 rfl
              have g1 := hr4.cell 1 rfl
              replace hr4 := hide hr4
              have hE04 := hide (hE.out.trans hE4)
              clear q0 q1
              go_wp2_with fail
              obtain ⟨wz, hwz⟩ : ∃ wz, wz = setEv w4 b 0 none 0 0 := ⟨_, rfl⟩; have hk := setEv_row hr4.out 0 none 0 0; rw [← hwz] at hk; have hEz := setEv_ext hE04.out hbw.out 0 none 0 0; rw [← hwz] at hEz; unfold setEv at hwz; rw [← hwz]; have k0 : wz.cell? ⟨b, 0, none⟩ = some (.int .i64 0) := hk.cell 0 rfl; have k1 : wz.cell? ⟨b, 1, none⟩ = some (.slice none 0 0) := hk.cell 1 rfl; clear hwz hk; exact bodyPost_ret (v := .tuple #[.agg #[.int .i64 0, .slice none 0 0], .slice none 0 0, .int .i64 100]) (by simp [results, Try.results48, go_sem, k0, k1]) rfl (GotE.no hEz hzn.out)
end Go.Proofs.Ytohphanbnhiodaa

