/- Docs of a law's few, plainly: not more, nor longer, than are looked at. -/
import Derived.Test.YtkdcnhnaiknaaaaGreatNB15
import Derived.Test.YtkdcnhnaiknaaaaGreatNB08
import Derived.Test.YtkdcnhnaiknaaaaGreatNB19
import Derived.Test.YtkdcnhnaiknaaaaGreatNB02
import Derived.Test.YtkdcnhnaiknaaaaGreatNB21
import Derived.Test.YtkdcnhnaiknaaaaGreatNB12
import Derived.Test.YtkdcnhnaiknaaaaGreatNB05
import Derived.Test.YtkdcnhnaiknaaaaGreatNB07
import Derived.Test.YtkdcnhnaiknaaaaGreatNB13
import Derived.Test.YtkdcnhnaiknaaaaGreatNB09
import Derived.Test.YtkdcnhnaiknaaaaGreatNB04
import Derived.Test.YtkdcnhnaiknaaaaGreatNB06
import Derived.ChangeSame
set_option linter.unusedSimpArgs false
set_option linter.unusedVariables false
namespace Go.Proofs.YtkdcnhnaiknaaaaGreat
open Go.RowKit

def fewE (e : Ev) : Ev := ⟨e.at_, (e.fs.take 8).map fun f => (f.1, f.2.take 300)⟩
/-- What Few answers. -/
def fewD (P : List Dc) : List Dc := (P.take 40).map fun d => (d.1, fewE d.2)
/-- Few, and small, docs. -/
structure Few8 (P : List Dc) : Prop where
  n : P.length ≤ 25
  each : ∀ d ∈ P, I64ok' d.2.at_ ∧ d.2.fs.length ≤ 8 ∧ ∀ f ∈ d.2.fs, f.2.length ≤ 300
theorem few8_of {P : List Dc} (h : ∀ d ∈ P, I64ok' d.2.at_) : Few8 (fewD (P.take 25)) := by
  refine ⟨?_, fun d hd => ?_⟩
  · unfold fewD
    simp only [List.length_map, List.length_take]
    omega
  · unfold fewD at hd
    obtain ⟨x, hx, rfl⟩ := List.mem_map.1 hd
    refine ⟨h x (List.mem_of_mem_take (List.mem_of_mem_take hx)), ?_, fun f hf => ?_⟩
    · unfold fewE
      simp only [List.length_map, List.length_take]
      omega
    · unfold fewE at hf
      obtain ⟨g, _, rfl⟩ := List.mem_map.1 hf
      simp only [List.length_take]
      omega
theorem putFs_few : ∀ {fs : List Fd}, (∀ f ∈ fs, f.1.length ≤ 32 ∧ f.2.length ≤ 300) → (putFs fs).length ≤ 335 * fs.length
  | [], _ => by simp [putFs]
  | f :: fs, h => by
    have h1 := putFs_few (fs := fs) fun x hx => h x (List.mem_cons_of_mem _ hx)
    have hf := h f (List.mem_cons_self ..)
    have h2 := vb_len 1 f.1.length (by omega)
    have h3 := vb_len 2 f.2.length (by omega)
    have h4 : (putFs (f :: fs)).length = (txL f.1).length + (txL f.2).length + (putFs fs).length := by unfold putFs; rw [List.flatMap_cons, List.length_append]; unfold putF; rw [List.length_append]
    unfold txL at h4
    rw [List.length_append, List.length_append] at h4
    rw [h4, List.length_cons]
    omega
theorem block_few : ∀ (P : List Dc) (lo : Int), 0 ≤ lo → risB 1099511627777 lo (P.map (·.1)) = true → P.all okD = true → (∀ d ∈ P, I64ok' d.2.at_ ∧ d.2.fs.length ≤ 8 ∧ ∀ f ∈ d.2.fs, f.2.length ≤ 300) → (blockD lo P).length ≤ 2701 * P.length
  | [], _, _, _, _, _ => by simp [blockD]
  | d :: t, lo, h0, hr, hk, h => by
    rw [List.map_cons, risB, Bool.and_eq_true, Bool.and_eq_true] at hr
    obtain ⟨⟨hr1, hr2⟩, hr3⟩ := hr
    have hr1 := of_decide_eq_true hr1
    have hr2 := of_decide_eq_true hr2
    rw [List.all_cons, Bool.and_eq_true] at hk
    have ih := block_few t d.1 (by omega) hr3 hk.2 fun x hx => h x (List.mem_cons_of_mem _ hx)
    obtain ⟨ha, hn, hf⟩ := h d (List.mem_cons_self ..)
    have hc := of_decide_eq_true hk.1
    obtain ⟨_, hfs⟩ := checkE_fs hc
    have h1 := putFs_few (fs := d.2.fs) fun f hm => ⟨(hfs f hm).1, hf f hm⟩
    have h2 := vb_le10 (zig_lt ha.1 ha.2)
    have h3 := vb_len 1 d.2.fs.length (by omega)
    have h4 := vb_le10 (n := (d.1 - lo - 1).toNat) (by omega)
    rw [blockD, List.length_append, List.length_cons]
    unfold oneD putE
    simp only [List.length_append]
    omega
theorem Few8.sm {P : List Dc} (h : Few8 P) (hk : okDs P = true) : SmP P := by
  refine ⟨hk, ?_⟩
  unfold okDs at hk
  rw [Bool.and_eq_true, Bool.and_eq_true] at hk
  have h1 := block_few P 0 (by omega) hk.2.1 hk.2.2 h.each
  have := h.n
  omega
end Go.Proofs.YtkdcnhnaiknaaaaGreat

/- Slices of rows of any elements, cut. -/
namespace Go.Proofs.YtkdcnhnaiknaaaaGreat
open Go.RowKit

set_option maxRecDepth 100000 in
theorem own_empty2 (w : World) (t : TypeId) : (w.alloc (.cells #[] t)).ownsRow w.heap.size t 2 (.slice (some ⟨w.heap.size, 0, none⟩) 0 0) 0 [] :=
  ⟨rfl, .inr ⟨w.heap.size, 0, #[], rfl, Nat.le_refl _, heap_alloc_new w _, Nat.le_refl _, by unfold maxLen; omega, rfl, rfl⟩⟩
section
variable {t e sz : Nat}
set_option maxRecDepth 100000 in
theorem run_headG (ht : Tryz.prog.underlying t = some (.slice e)) (hs : ∀ W : World, (sizeOf e).run Tryz.prog W = .ok sz W) {n c k : Nat} {A : Option Addr} (h : k ≤ c) (hA : ∀ a, A = some a → a.spot = none) {z : Int} (hz : z = (k : Int)) (W : World) :
    (Instr.sliceAt t (.slice A n c) none (some (.int .i64 z)) none).run Tryz.prog W = .ok (.slice A k c) W := by
  subst hz
  have he : Tryz.prog.elem t = e := by unfold Program.elem; rw [ht]
  rw [run_sliceAt_slice W _ _ _ _ _ (by rw [ht, he]), run_slice_h W _ A n c (by rw [ht, he]) .i64 k (by omega) (by omega), he, hs]
  simp only [Result.andThen_ok]
  congr 1
  unfold sliced
  have : (if c = 0 then A else A.map fun x => x.add (0 * sz)) = A := by
    cases A with
    | none => simp
    | some a =>
      obtain ⟨b, o, sp⟩ := a
      obtain rfl : sp = none := hA _ rfl
      simp [Addr.add_lit]
  rw [this]
  simp
set_option maxRecDepth 100000 in
theorem run_fromG (ht : Tryz.prog.underlying t = some (.slice e)) (hs : ∀ W : World, (sizeOf e).run Tryz.prog W = .ok sz W) {n c k : Nat} {A : Option Addr} (hk : k ≤ n) (hc : n ≤ c) (hA : ∀ a, A = some a → a.spot = none) {z : Int} (hz : z = (k : Int)) :
    ∃ A', (∀ W : World, (Instr.sliceAt t (.slice A n c) (some (.int .i64 z)) none none).run Tryz.prog W = .ok (.slice A' (n - k) (c - k)) W) ∧ (∀ (w : World) (xs : List Value), xs.length = n * sz → Cells w A xs → Cells w A' (xs.drop (k * sz))) ∧ ∀ a, A' = some a → a.spot = none := by
  subst hz
  have he : Tryz.prog.elem t = e := by unfold Program.elem; rw [ht]
  have hrun : ∀ W : World, (Instr.sliceAt t (.slice A n c) (some (.int .i64 k)) none none).run Tryz.prog W = .ok (sliced A k n c sz) W := by
    intro W
    rw [run_sliceAt_slice W _ _ _ _ _ (by rw [ht, he]), run_slice_l W _ A n c (by rw [ht, he]) .i64 k (by omega) (by omega), he, hs]
    simp only [Result.andThen_ok]
    congr 1
  refine ⟨_, hrun, fun w xs hx hcl => ?_, fun a ha => ?_⟩
  · rcases hcl with hb | ⟨g, o, rfl, hb⟩
    · left
      rw [hb]
      simp
    · by_cases hcf : c = k
      · left
        obtain rfl : n = k := by omega
        rw [← hx]
        exact List.drop_length
      · refine .inr ⟨g, o + k * sz, by rw [if_neg hcf]; simp [Addr.add_lit], fun i v hv => ?_⟩
        rw [Nat.add_assoc]
        refine hb (k * sz + i) v ?_
        rw [List.getElem?_drop] at hv
        exact hv
  · cases A with
    | none => split at ha <;> cases ha
    | some a0 =>
      obtain ⟨b, o, sp⟩ := a0
      obtain rfl : sp = none := hA _ rfl
      split at ha
      · cases ha; rfl
      · rw [Option.map_some, Addr.add_lit] at ha
        cases ha; rfl
end
end Go.Proofs.YtkdcnhnaiknaaaaGreat

/- slices.Clone of fields; loggia/segment: own. -/
namespace Go.Proofs.YtkdcnhnaiknaaaaGreat
open Go.RowKit Go.Maps

set_option maxRecDepth 100000 in
theorem nilF_eq (c : Nat) (w : World) : (binOp .eql 35 (.slice none 0 c) (.slice none 0 0)).run Tryz.prog w = .ok (.bool true) w := by kernel_rfl
set_option maxRecDepth 100000 in
theorem nilF_ne (a : Addr) (n c : Nat) (w : World) : (binOp .eql 35 (.slice (some a) n c) (.slice none 0 0)).run Tryz.prog w = .ok (.bool false) w := by kernel_rfl
set_option maxRecDepth 100000 in
theorem fclone_any (A : Option Addr) (n c : Nat) (l : List Fd) (w : World) (hn : n = l.length) (hl : Cells w A (fcells l)) (hle : n ≤ 1073741824) :
    Calls Tryz.prog 127 #[.slice A n c] w fun e w' => ∃ A1 c1, e = .returned (.slice A1 n c1) ∧ w'.ownsRow w.heap.size 105 2 (.slice A1 n c1) n (fcells l) ∧ Ext w w' := by
  cases A with
  | none =>
    have h0 : l = [] := by
      rcases hl with h | ⟨_, _, h, _⟩
      · have := congrArg List.length h
        rw [fcells_len, List.length_nil] at this
        exact List.length_eq_zero_iff.1 (by omega)
      · cases h
    subst h0
    obtain rfl : n = 0 := hn
    have hq := nilF_eq c w
    go_enter Tryz.func127, Tryz.ntmps127
    go_wp2_with fail
    go_ret
    exact ⟨none, 0, rfl, ⟨rfl, .inl ⟨rfl, rfl⟩⟩, Ext.refl _⟩
  | some a =>
    have hq := nilF_ne a n c w
    have ho := own_empty2 w 105
    have hE0 : Ext w (w.alloc (.cells #[] 105)) := (Ext.refl w).alloc _
    have hb := hl.ext hE0
    have hln : (fcells l).length = n * 2 := by rw [fcells_len, hn]
    have h1c : ∀ u ∈ fcells l, u.oneCell' = true := fun u hu => by
      unfold fcells at hu
      obtain ⟨f, _, hf⟩ := List.mem_flatMap.1 hu
      unfold Fd.cells at hf
      simp only [List.mem_cons, List.not_mem_nil, or_false] at hf
      rcases hf with rfl | rfl <;> rfl
    have hsz : w.heap.size ≤ (w.alloc (.cells #[] 105)).heap.size := hE0.size
    replace hln := hide hln
    replace hn := hide hn
    go_enter Tryz.func127, Tryz.ntmps127
    go_wp2_with (at_builtin; refine wpList_app (m := n) elemFd ho hb (.tmp 5) (.tmp 6) rfl rfl rfl rfl rfl hln.out h1c (by omega) hsz (fun A1 c1 w3 ho3 hg3 hl3 => ?_))
    go_ret
    refine ⟨A1, c1, rfl, ?_, hE0.grown hg3 (fun k hk => by cases hk; exact Nat.le_refl _)⟩
    rw [Nat.zero_add] at ho3
    exact ho3
set_option maxRecDepth 100000 in
theorem own_any (x : DocC) (w : World) (h : x.e.Ok w x.A) (h20 : x.e.fs.length ≤ 20) : Calls Tryz.prog 71 #[.agg #[.int .i64 x.seq, .int .i64 x.e.at_, .slice x.A x.e.fs.length x.c]] w fun e w' => ∃ A c, e = .returned (.agg #[.int .i64 x.seq, .int .i64 x.e.at_, .slice A x.e.fs.length c]) ∧ x.e.Own w' w.heap.size A c ∧ Ext w w' := by
  obtain ⟨sq, ⟨at_, fs⟩, A, c⟩ := x
  simp only at h h20 ⊢
  have hlong := h.long
  simp only at hlong
  obtain ⟨n, hn⟩ : ∃ n, n = fs.length := ⟨_, rfl⟩
  rw [← hn] at h20 ⊢
  have hE1 : Ext w ((w.alloc (.cells #[.int .i64 sq, .int .i64 at_, .slice A n c] 39)).alloc (.cells #[.int .i64 0, .int .i64 0, .slice none 0 0] 39)) := ((Ext.refl w).alloc _).alloc _
  have r1 : Row ((w.alloc (.cells #[.int .i64 sq, .int .i64 at_, .slice A n c] 39)).alloc (.cells #[.int .i64 0, .int .i64 0, .slice none 0 0] 39)) w.heap.size 39 #[.int .i64 sq, .int .i64 at_, .slice A n c] := (Row.new w _ _).alloc _
  have r2 : Row ((w.alloc (.cells #[.int .i64 sq, .int .i64 at_, .slice A n c] 39)).alloc (.cells #[.int .i64 0, .int .i64 0, .slice none 0 0] 39)) (w.heap.size + 1) 39 #[.int .i64 0, .int .i64 0, .slice none 0 0] := by
    have h := Row.new (w.alloc (.cells #[.int .i64 sq, .int .i64 at_, .slice A n c] 39)) 39 #[.int .i64 0, .int .i64 0, .slice none 0 0]
    simpa using h
  have hcl := hide (fclone_any A n c fs ((w.alloc (.cells #[.int .i64 sq, .int .i64 at_, .slice A n c] 39)).alloc (.cells #[.int .i64 0, .int .i64 0, .slice none 0 0] 39)) hn (h.cells.ext hE1) (by omega))
  have k2 := r1.cell 2 rfl
  have hsz := hE1.size
  replace hn := hide hn
  replace hE1 := hide hE1
  replace r1 := hide r1
  replace r2 := hide r2
  replace hlong := hide hlong
  clear h
  go_enter Tryz.func71, Tryz.ntmps71
  go_wp2_with fail
  refine hcl.out.mono ?_
  rintro e w2 ⟨A1, c1, rfl, hown, hE2⟩
  have q1 := r1.out.ext hE2
  have q2 := r2.out.ext hE2
  have z2 := q1.free 2
  obtain ⟨g, hg⟩ : ∃ g, g = w.heap.size := ⟨_, rfl⟩
  rw [← hg] at q1 q2 z2 ⊢
  have p1 := q1.put 2 (.slice A1 n c1)
  have p2 := q2.away (p := ⟨g, 2, none⟩) (by simp) (.slice A1 n c1)
  have y0 := p1.cell 0 rfl
  have y1 := p1.cell 1 rfl
  have y2 := p1.cell 2 rfl
  have v0 := p2.cell 0 rfl
  have v1 := p2.cell 1 rfl
  have v2 := p2.cell 2 rfl
  have u0 := p2.free 0
  have u1 := p2.free 1
  have u2 := p2.free 2
  have s2 := q1.cell 2 rfl
  replace q1 := hide q1
  replace hown := hide hown
  replace hE2 := hide hE2
  replace hg := hide hg
  replace p2 := hide p2
  replace p1 := hide p1
  replace q2 := hide q2
  clear k2
  go_wp2_with fail
  have pf := ((p2.out.put 0 (.int .i64 sq)).put 1 (.int .i64 at_)).put 2 (.slice A1 n c1)
  have hgw := hg.out
  have hE3 := (((hE1.out.trans hE2.out).setCell (p := ⟨g, 2, none⟩) (by simp only; omega) (.slice A1 n c1)).setCell (p := ⟨g + 1, 0, none⟩) (by simp only; omega) (.int .i64 sq)).setCell (p := ⟨g + 1, 1, none⟩) (by simp only; omega) (.int .i64 at_)
  have hE4 := hE3.setCell (p := ⟨g + 1, 2, none⟩) (by simp only; omega) (.slice A1 n c1)
  have hEo := owns_lower hown.out hsz
  have hC : Chg (fun k => k = g ∨ k = g + 1) w2 ((((w2.setCell ⟨g, 2, none⟩ (.slice A1 n c1)).setCell ⟨g + 1, 0, none⟩ (.int .i64 sq)).setCell ⟨g + 1, 1, none⟩ (.int .i64 at_)).setCell ⟨g + 1, 2, none⟩ (.slice A1 n c1)) :=
    (((Chg.of_set w2 _ (.inl rfl)).trans (Chg.of_set _ _ (.inr rfl)) fun _ _ h => h).trans (Chg.of_set _ _ (.inr rfl)) fun _ _ h => h).trans (Chg.of_set _ _ (.inr rfl)) fun _ _ h => h
  have hEf := hC.owns hEo fun k hk => by
    obtain ⟨cs, hr, _⟩ := owns_row hEo hk
    rintro (rfl | rfl)
    · exact Row.unlike hr q1.out (by decide) rfl
    · exact Row.unlike hr q2.out (by decide) rfl
  refine bodyPost_ret (results_cell_row rfl _ _ (g + 1) 39 #[.int .i64 sq, .int .i64 at_, .slice A1 n c1] (0, 0) _ rfl pf Tryz.underlying39 rfl (by kernel_rfl)) rfl ⟨A1, c1, rfl, ⟨?_, hlong.out, ?_⟩, hE4⟩
  · simp only
    rw [← hn.out]
    exact hEf
  · simp only
    rw [← hn.out]
    exact h20
end Go.Proofs.YtkdcnhnaiknaaaaGreat

/- loggia/segment: Docs of a segment that was opened. -/
namespace Go.Proofs.YtkdcnhnaiknaaaaGreat
open Go.RowKit Go.Maps

theorem DocsOwn.push {w w8 : World} {base c c8 : Nat} {B A8 : Option Addr} {l : List DocC} {x : DocC} (h : DocsOwn w base B c l) (hx : x.e.Own w base x.A x.c) (hi : I64ok' x.e.at_ ∧ I64ok' x.seq)
    (ho : w8.ownsRow base 39 3 (.slice A8 (l.length + 1) c8) (l.length + 1) (dcells l ++ x.cells)) (hg : w.grownBy w8 (Value.slice B l.length c).ownBlock) : DocsOwn w8 base A8 c8 (l ++ [x]) := by
  have hlen : (l ++ [x]).length = l.length + 1 := by simp
  have hch : Chg (fun k' => (Value.slice B l.length c).ownBlock = some k') w w8 := Chg.of_grown hg fun k' _ hk' => hk'
  have hun : ∀ k cs, Row w k 105 cs → ¬ (Value.slice B l.length c).ownBlock = some k := fun k cs hr => owns_unlike h.own hr (by decide)
  refine ⟨by rw [hlen, dcells_snoc]; exact ho, fun y hy => ?_, fun y hy => ?_⟩
  · rcases List.mem_append.1 hy with hy | hy
    · exact ⟨hch.owns (h.each y hy).1 fun g' hg' => by obtain ⟨cs, hr, _⟩ := owns_row (h.each y hy).1 hg'; exact hun _ _ hr, (h.each y hy).2⟩
    · rw [List.mem_singleton.1 hy]
      exact ⟨hch.owns hx.1 fun g' hg' => by obtain ⟨cs, hr, _⟩ := owns_row hx.1 hg'; exact hun _ _ hr, hx.2⟩
  · rcases List.mem_append.1 hy with hy | hy
    · exact h.ints y hy
    · rw [List.mem_singleton.1 hy]
      exact hi
/-- What Docs answers. -/
def DocsA (P : List Dc) (w : World) (e : Ending) (w' : World) : Prop := Ext w w' ∧ ∃ (l : List DocC) (A : Option Addr) (c : Nat), dcs l = P ∧ e = .returned (.slice A l.length c) ∧ DocsOwn w' w.heap.size A c l
theorem SegP.fields {P : List Dc} (h : SegP P) {d : Dc} (hd : d ∈ P) : d.2.fs.length ≤ 20 := by
  have h1 := h.sm.ok
  unfold okDs at h1
  rw [Bool.and_eq_true, Bool.and_eq_true, List.all_eq_true] at h1
  have := (checkE_fs (of_decide_eq_true (h1.2.2 d hd))).1
  omega
set_option maxRecDepth 100000 in
set_option maxHeartbeats 2000000 in
theorem sdocs_yes (g : Nat) (P : List Dc) (w : World) (h : SegR w g P) (hP : SegP P) : Calls Tryz.prog 21 #[.pointer (some ⟨g, 0, none⟩)] w fun e w' => DocsA P w e w' := by
  have hlen := slen_yes g P w h hP.ne hP.few
  have hf := hP.few
  obtain ⟨ds, A, c, lo, hi, fi, la, B, cB, gd, gf, h1, h2, h3, h4, _⟩ := h
  have hPl : P.length = ds.length := by rw [← h2]; exact List.length_map ..
  obtain ⟨n, hn⟩ : ∃ n, n = ds.length := ⟨_, rfl⟩
  rw [hPl, ← hn] at hlen hf
  rw [← hn] at h1
  have hfl : ∀ x ∈ ds, x.e.fs.length ≤ 20 := fun x hx => hP.fields (d := x.dc) (by rw [← h2]; exact List.mem_map.2 ⟨x, hx, rfl⟩)
  replace hfl := hide hfl
  replace hlen := hide hlen
  replace h1 := hide h1
  replace h4 := hide h4
  replace h2 := hide h2
  replace hn := hide hn
  clear h3 hPl
  go_enter Tryz.func21, Tryz.ntmps21
  go_wp2_with fail
  refine hlen.out.mono ?_
  rintro e w1 ⟨rfl, rfl⟩
  go_wp2_with fail
  go_loopw [3, 7] (fun s3 s7 wr => ∃ (i d : Nat) (B : Option Addr) (out : List DocC), s3 = .slice B i d ∧ s7 = .int .i64 (i : Int) ∧ i ≤ n ∧ Hid (out.length = i) ∧ Hid (dcs out = (dcs ds).take i) ∧ Hid (DocsOwn wr w1.heap.size B d out) ∧ Hid (Ext w1 wr)) (fun _ s7 _ => n - (intOf s7).toNat)
  case atStart => exact ⟨0, 0, none, [], rfl, rfl, by omega, hide rfl, hide rfl, hide (DocsOwn.nil _ _), hide (Ext.refl _)⟩
  case round =>
    obtain ⟨i, d, B, out, rfl, rfl, hi, hol, hod, how, hE⟩ := hrel
    by_cases hin : i < n
    · obtain ⟨x, hx⟩ : ∃ x, ds[i]? = some x := ⟨_, List.getElem?_eq_getElem (by rw [← hn.out]; exact hin)⟩
      have hxm := List.mem_of_getElem? hx
      have r1 := h1.out.ext hE.out
      have k0 := r1.cell 0 rfl
      obtain ⟨gA, oA, rfl, l0, l1, l2⟩ := dcells_at (h4.out.cells.ext hE.out) hx
      obtain ⟨hxo, hxa, hxs⟩ := h4.out.each x hxm
      have ho := own_any x wr (hxo.ext hE.out) (hfl.out x hxm)
      have hsnoc : dcs (out ++ [x]) = (dcs ds).take (i + 1) := by
        rw [dcs_snoc, hod.out]
        have : (dcs ds)[i]? = some x.dc := by unfold dcs; rw [List.getElem?_map, hx]; rfl
        rw [List.take_add_one, this]
        rfl
      rw [dcs_snoc] at hsnoc
      obtain ⟨sq, ⟨at_, fs⟩, xA, xc⟩ := x
      simp only at l0 l1 l2 ho hxa hxs
      obtain ⟨m, hm⟩ : ∃ m, m = fs.length := ⟨_, rfl⟩
      rw [← hm] at l2 ho
      replace ho := hide ho
      replace hm := hide hm
      replace hxo := hide hxo
      replace hsnoc := hide hsnoc
      replace hx := hide hx
      replace r1 := hide r1
      replace hxa := hide hxa
      replace hxs := hide hxs
      clear hxm
      go_wp2_with (fail)
      refine ho.out.mono ?_
      rintro e w4 ⟨A4, c4, rfl, hown4, hE4⟩
      have how4 := how.out.ext hE4
      have hsz4 : w1.heap.size ≤ w4.heap.size := (hE.out.trans hE4).size
      have hrow : w4.ownsRow w1.heap.size 39 3 (.slice B i d) i (dcells out) := by have := how4.own; rw [hol.out] at this; exact this
      have hi9 : i + 1 ≤ 4294967296 := by omega
      have hlow := hE.out.size
      replace how4 := hide how4
      replace hown4 := hide hown4
      replace hE4 := hide hE4
      clear k0 l0 l1 l2
      go_wp2_with (at_builtin; refine wpList_appZ (us := [.int .i64 sq, .int .i64 at_, .slice A4 m c4]) (m := 1) elemDoc hrow rfl (.tmp 10) (.tmp 20) rfl rfl rfl rfl rfl (one_of rfl) hi9 hsz4 (fun A8 c8 w8 ho8 hg8 hl8 => ?_); replace ho8 := hide ho8; replace hg8 := hide hg8; clear hl8)
      have hnew : Ev.Own ⟨at_, fs⟩ w4 w1.heap.size A4 c4 := by
        have h := hown4.out
        exact ⟨owns_lower h.1 hlow, h.2⟩
      have hpush := DocsOwn.push (x := ⟨sq, ⟨at_, fs⟩, A4, c4⟩) how4.out hnew ⟨hxa.out, hxs.out⟩ (by rw [hol.out]; unfold DocC.cells; simp only; rw [← hm.out]; exact ho8.out) (by rw [hol.out]; exact hg8.out)
      have hE8 : Ext w1 w8 := (hE.out.trans hE4.out).grown hg8.out fun k hk => by obtain ⟨_, _, hb⟩ := owns_row hrow hk; exact hb
      refine ⟨⟨i + 1, c8, A8, _, rfl, by go_num, by omega, hide (by rw [List.length_append, hol.out]; rfl), hide (by rw [dcs_snoc]; exact hsnoc.out), hide hpush, hide hE8⟩, by simp only [intOf]; omega⟩
    · obtain rfl : i = n := by omega
      go_wp2_with fail
      go_ret
      refine ⟨hE.out, out, B, d, ?_, by rw [hol.out]; rfl, how.out⟩
      rw [hod.out, hn.out, ← h2.out]
      exact List.take_of_length_le (by unfold dcs; rw [List.length_map]; exact Nat.le_refl _)
end Go.Proofs.YtkdcnhnaiknaaaaGreat

/- loggialaw19: Few; loggialaw13: few, cut. -/
namespace Go.Proofs.YtkdcnhnaiknaaaaGreat
open Go.RowKit Go.Maps

def few1 (d : Dc) : Dc := (d.1, fewE d.2)
def fewF (fs : List Fd) : List Fd := fs.map fun f => (f.1, f.2.take 300)
/-- The doc that is being made: its block bk, its fields so far. -/
structure FwJ (wo wi : World) (bk k dd : Nat) (sq at_ : Int) (C : Option Addr) (xs : List Fd) : Prop where
  row : Row wi bk 39 #[.int .i64 sq, .int .i64 at_, .slice C k dd]
  evs : wi.ownsRow wo.heap.size 105 2 (.slice C k dd) k (fcells xs)
  len : xs.length = k
  long : ∀ f ∈ xs, f.1.length ≤ 9223372036854775807 ∧ f.2.length ≤ 9223372036854775807
  low : wo.heap.size ≤ bk
  ext : Ext wo wi
theorem FwJ.start (w : World) (sq at_ : Int) : FwJ w (w.alloc (.cells #[.int .i64 sq, .int .i64 at_, .slice none 0 0] 39)) w.heap.size 0 0 sq at_ none [] :=
  ⟨Row.new w _ _, ⟨rfl, .inl ⟨rfl, rfl⟩⟩, rfl, nofun, Nat.le_refl _, (Ext.refl w).alloc _⟩
theorem FwJ.mid {wo wi w5 w8 : World} {bk k dd : Nat} {sq at_ : Int} {C : Option Addr} {xs : List Fd} (h : FwJ wo wi bk k dd sq at_ C xs) (hE5 : Ext wi w5) (hg8 : w5.grownBy w8 (Value.slice C k dd).ownBlock) : Row w8 bk 39 #[.int .i64 sq, .int .i64 at_, .slice C k dd] := by
  refine Row.grown (h.row.ext hE5) hg8 fun e => ?_
  obtain ⟨cs, hr, _⟩ := owns_row h.evs e.symm
  exact Row.unlike h.row hr (by decide) rfl
theorem FwJ.step {wo wi w5 w8 : World} {bk k dd c8 : Nat} {sq at_ : Int} {C A8 : Option Addr} {xs : List Fd} {y : Fd} (h : FwJ wo wi bk k dd sq at_ C xs) (hE5 : Ext wi w5) (hy : y.1.length ≤ 9223372036854775807 ∧ y.2.length ≤ 9223372036854775807)
    (ho8 : w8.ownsRow wo.heap.size 105 2 (.slice A8 (k + 1) c8) (k + 1) (fcells xs ++ y.cells)) (hg8 : w5.grownBy w8 (Value.slice C k dd).ownBlock) :
    FwJ wo (w8.setCell ⟨bk, 2, none⟩ (.slice A8 (k + 1) c8)) bk (k + 1) c8 sq at_ A8 (xs ++ [y]) := by
  have hr8 := h.mid hE5 hg8
  have hC9 : Chg (fun g => g = bk) w8 (w8.setCell ⟨bk, 2, none⟩ (.slice A8 (k + 1) c8)) := Chg.of_set w8 _ rfl
  refine ⟨?_, ?_, by rw [List.length_append, h.len]; rfl, fun z hz => ?_, h.low, ?_⟩
  · have := Row.put hr8 2 (.slice A8 (k + 1) c8)
    simpa using this
  · rw [fcells_snoc]
    refine hC9.owns ho8 fun g hg hgb => ?_
    obtain ⟨cs, hr, _⟩ := owns_row ho8 hg
    subst hgb
    exact Row.unlike hr hr8 (by decide) rfl
  · rcases List.mem_append.1 hz with hz | hz
    · exact h.long z hz
    · rw [List.mem_singleton.1 hz]; exact hy
  · exact ((h.ext.trans hE5).grown hg8 fun g hgg => (by obtain ⟨_, _, hb⟩ := owns_row h.evs hgg; exact hb)).setCell h.low _
set_option maxRecDepth 100000 in
set_option maxHeartbeats 8000000 in
theorem few19_any (A0 : Option Addr) (c0 n : Nat) (ds : List DocC) (w : World) (hn : n = ds.length) (h : DocsOk w A0 ds) :
    Calls Tryz.prog 37 #[.slice A0 n c0] w fun e w' => DocsA (fewD (dcs ds)) w e w' := by
  replace hn := hide hn
  replace h := hide h
  go_enter Tryz.func37, Tryz.ntmps37
  go_wp2_with fail
  go_loopw [3, 4] (fun s3 s4 wr => ∃ (i d : Nat) (B : Option Addr) (outs : List DocC), s3 = .slice B i d ∧ s4 = .int .i64 (i : Int) ∧ i ≤ n ∧ i ≤ 40 ∧ Hid (outs.length = i) ∧ Hid (dcs outs = ((dcs ds).take i).map few1) ∧ Hid (DocsOwn wr w.heap.size B d outs) ∧ Hid (Ext w wr)) (fun _ s4 _ => 40 - (intOf s4).toNat)
  case atStart => exact ⟨0, 0, none, [], rfl, rfl, by omega, by omega, hide rfl, hide rfl, hide (DocsOwn.nil _ _), hide (Ext.refl _)⟩
  case round =>
    obtain ⟨i, d, B, outs, rfl, rfl, hi, hi40, hol, hod, how, hE⟩ := hrel
    by_cases hgo : i < n ∧ i < 40
    · obtain ⟨hin, hi4⟩ := hgo
      have hi40i : (i : Int) < 40 := by omega
      obtain ⟨x, hx⟩ : ∃ x, ds[i]? = some x := ⟨_, List.getElem?_eq_getElem (by rw [← hn.out]; exact hin)⟩
      obtain ⟨hxo, hxa, hxs⟩ := h.out.each x (List.mem_of_getElem? hx)
      obtain ⟨g, o, hA, l0, l1, l2⟩ := dcells_at (h.out.cells) hx
      have hsnoc : dcs (outs ++ [(⟨x.seq, fewE x.e, x.A, x.c⟩ : DocC)]) = ((dcs ds).take (i + 1)).map few1 := by
        rw [dcs_snoc, hod.out]
        have : (dcs ds)[i]? = some x.dc := by unfold dcs; rw [List.getElem?_map, hx]; rfl
        rw [List.take_add_one, this, List.map_append]
        rfl
      rw [dcs_snoc] at hsnoc
      obtain ⟨sq, ⟨at_, fs⟩, fA, fc⟩ := x
      simp only at l0 l1 l2 hxo hxa hxs hsnoc
      obtain ⟨fn, hfn⟩ : ∃ fn, fn = fs.length := ⟨_, rfl⟩
      rw [← hfn] at l2
      have k0 := hE.out.cell l0
      have k1 := hE.out.cell l1
      have k2 := hE.out.cell l2
      have hst := hide (FwJ.start wr sq at_)
      have hl2 := hide (fun W (hE : Ext w W) => hE.cell l2)
      subst hA
      replace hfn := hide hfn
      replace hxo := hide hxo
      replace hxa := hide hxa
      replace hxs := hide hxs
      replace hsnoc := hide hsnoc
      clear hx l0 l1 l2
      go_wp2_with fail
      clear k0 k1 k2
      obtain ⟨wo, rfl⟩ : ∃ wo, wo = wr := ⟨_, rfl⟩
      go_loopw [6] (fun s6 wi => ∃ (k dd : Nat) (C : Option Addr), s6 = .int .i64 (k : Int) ∧ k ≤ 8 ∧ k ≤ fn ∧ Hid (FwJ wo wi wo.heap.size k dd sq at_ C (fewF (fs.take k)))) (fun s6 _ => 8 - (intOf s6).toNat)
      case atStart => exact ⟨0, 0, none, rfl, by omega, by omega, hst⟩
      case round =>
        clear hst
        obtain ⟨k, dd, C, rfl, hk8, hkn, hfi⟩ := hrel
        have hEi := hide hfi.out.ext
        have hE0i := hide (hE.out.trans hEi.out)
        obtain ⟨bk, hbk⟩ : ∃ bk, bk = wo.heap.size := ⟨_, rfl⟩
        rw [← hbk] at hfi ⊢
        have hbl := hfi.out.row.lt
        replace hbk := hide hbk
        have q1 := hl2.out wr hE0i.out
        by_cases hk7 : k < fn ∧ k < 8
        · obtain ⟨hkx, hk80⟩ := hk7
          have hk8i : (k : Int) < 8 := by omega
          obtain ⟨f, hf⟩ : ∃ f, fs[k]? = some f := ⟨_, List.getElem?_eq_getElem (by rw [← hfn.out]; exact hkx)⟩
          have hfl := hxo.out.long f (List.mem_of_getElem? hf)
          obtain ⟨g2, o2, hfA, j0, j1⟩ := fcells_at (hxo.out.cells.ext hE0i.out) hf
          have hsn : fewF (fs.take (k + 1)) = fewF (fs.take k) ++ [(f.1, f.2.take 300)] := by
            rw [List.take_add_one, hf]
            unfold fewF
            rw [List.map_append]
            rfl
          obtain ⟨nm, tx⟩ := f
          simp only at hfl j0 j1 hsn
          unfold strV at j0 j1
          obtain ⟨hfl1, hfl2⟩ := hfl
          obtain ⟨mm, hmm⟩ : ∃ mm : Nat, mm = min tx.length 300 := ⟨_, rfl⟩
          have hmin := run_min2 (P := Tryz.prog) #[3, 3] 3 (x := (tx.length : Int)) (y := 300) (m := (mm : Int)) (by omega)
          have hsl := run_strhead tx mm (by omega)
          have htk : tx.take mm = tx.take 300 := by
            rw [hmm]
            rcases Nat.le_total tx.length 300 with h3 | h3
            · rw [Nat.min_eq_left h3, List.take_length, List.take_of_length_le h3]
            · rw [Nat.min_eq_right h3]
          rw [htk] at hsl
          have htl : (tx.take 300).length ≤ 9223372036854775807 := by rw [List.length_take]; omega
          obtain ⟨tt, htt⟩ : ∃ tt, tt = tx.take 300 := ⟨_, rfl⟩
          rw [← htt] at hsl hsn htl
          subst hfA
          replace hmm := hide hmm
          replace htt := hide htt
          replace hsn := hide hsn
          clear hf htk
          obtain ⟨w5, hw5⟩ : ∃ w5, w5 = wr.alloc (.cells #[.string ⟨nm.toArray⟩, .string ⟨tt.toArray⟩] 105) := ⟨_, rfl⟩
          have hr5 : Row w5 wr.heap.size 105 #[.string ⟨nm.toArray⟩, .string ⟨tt.toArray⟩] := by rw [hw5]; exact Row.new wr _ _
          have hE5 : Ext wr w5 := by rw [hw5]; exact (Ext.refl wr).alloc _
          have y0 := hr5.cell 0 rfl
          have y1 := hr5.cell 1 rfl
          have b2 := (hfi.out.row.ext hE5).cell 2 rfl
          have hown5 := hE5.owns hfi.out.evs
          have hsz5 := (hEi.out.trans hE5).size
          have hsz5' := hsz5
          have hown5' := hown5
          rw [hw5] at y0 y1 b2 hown5' hsz5'
          replace hw5 := hide hw5
          replace hr5 := hide hr5
          replace hE5 := hide hE5
          clear hown5 hsz5
          go_wp2_with (at_builtin; refine wpList_appZ (us := [.string ⟨nm.toArray⟩, .string ⟨tt.toArray⟩]) (m := 1) elemFd hown5' (by simp) (.tmp 58) (.tmp 60) rfl rfl rfl rfl rfl (one_of rfl) (by omega) hsz5' (fun A8 c8 w8 ho8 hg8 hl8 => ?_); rw [← hw5.out] at hg8; have hr8 := hfi.out.mid hE5.out hg8; have q4 : w8.cell? ⟨bk, 2, none⟩ = some (.slice C k dd) := hr8.cell 2 rfl; have qf := hr8.free 2; have hstep := hide (FwJ.step (y := (nm, tt)) hfi.out hE5.out ⟨hfl1, htl⟩ ho8 hg8); clear ho8 hg8 hl8 hr8 y0 y1 b2)
          rw [← hsn.out] at hstep
          go_roundw
          case rel => exact ⟨k + 1, c8, A8, by go_num, by omega, by omega, hstep⟩
          case measure => simp [intOf]; omega
        · have hkend : fewF (fs.take k) = (fewE ⟨at_, fs⟩).fs := by
            unfold fewF fewE
            simp only
            rcases Nat.lt_or_ge k fn with h7 | h7
            · have : k = 8 := by omega
              rw [this]
            · rw [List.take_of_length_le (by rw [← hfn.out]; exact h7), List.take_of_length_le (by rw [← hfn.out]; omega)]
          have how2 := hide (how.out.ext hEi.out)
          have hsz2 : w.heap.size ≤ wr.heap.size := hE0i.out.size
          have hown2 : wr.ownsRow w.heap.size 39 3 (.slice B i d) i (dcells outs) := by have := how2.out.own; rw [hol.out] at this; exact this
          have b0 := hfi.out.row.cell 0 rfl
          have b1 := hfi.out.row.cell 1 rfl
          have b2 := hfi.out.row.cell 2 rfl
          replace hkend := hide hkend
          by_cases hkx : k < fn
          case' pos => have hk80 : ¬ (k : Int) < 8 := by omega
          all_goals
            go_wp2_with (at_builtin; refine wpList_appZ (us := [.int .i64 sq, .int .i64 at_, .slice C k dd]) (m := 1) elemDoc hown2 rfl (.tmp 64) (.tmp 66) rfl rfl rfl rfl rfl (one_of rfl) (by omega) hsz2 (fun A8 c8 w8 ho8 hg8 hl8 => ?_); replace ho8 := hide ho8; replace hg8 := hide hg8; clear hl8 b0 b1 b2)
            have hlen := hfi.out.len
            have hnew : Ev.Own (fewE ⟨at_, fs⟩) wr w.heap.size C dd := by
              refine ⟨?_, ?_, ?_⟩
              · rw [← hkend.out, hlen]; exact owns_lower hfi.out.evs hE.out.size
              · rw [← hkend.out]; exact hfi.out.long
              · rw [← hkend.out, hlen]; omega
            have hpush := DocsOwn.push (x := ⟨sq, fewE ⟨at_, fs⟩, C, dd⟩) how2.out hnew ⟨hxa.out, hxs.out⟩ (by rw [hol.out]; unfold DocC.cells; simp only; rw [← hkend.out, hlen]; exact ho8.out) (by rw [hol.out]; exact hg8.out)
            have hE8 : Ext w w8 := hE0i.out.grown hg8.out fun k hk => by obtain ⟨_, _, hb⟩ := owns_row hown2 hk; exact hb
            go_roundw
            case rel => exact ⟨i + 1, c8, A8, _, rfl, by go_num, by omega, by omega, hide (by rw [List.length_append, hol.out]; rfl), hide (by rw [dcs_snoc]; exact hsnoc.out), hide hpush, hide hE8⟩
            case measure => simp [intOf]; omega
    · have hend : dcs outs = fewD (dcs ds) := by
        rw [hod.out]
        unfold fewD
        show ((dcs ds).take i).map few1 = ((dcs ds).take 40).map few1
        have hdl : (dcs ds).length = n := by unfold dcs; rw [List.length_map, hn.out]
        rcases Nat.lt_or_ge i n with h7 | h7
        · have : i = 40 := by omega
          rw [this]
        · rw [List.take_of_length_le (by omega), List.take_of_length_le (by omega)]
      replace hend := hide hend
      by_cases hin : i < n
      case' pos => have hi40 : ¬ (i : Int) < 40 := by omega
      all_goals
        clear hgo
        go_wp2_with fail
        go_ret
        exact ⟨hE.out, outs, B, d, hend.out, by rw [hol.out]; rfl, how.out⟩
end Go.Proofs.YtkdcnhnaiknaaaaGreat

/- loggiaref10: SameDocs, at alike ones. -/
namespace Go.Proofs.YtkdcnhnaiknaaaaGreat
open Go.RowKit

set_option maxRecDepth 100000 in
set_option maxHeartbeats 4000000 in
theorem samedocs_any (l m : List DocC) (A B : Option Addr) (c c2 : Nat) (w : World) (hl : DocsOk w A l) (hm : DocsOk w B m) (hlm : dcs l = dcs m) (hb : l.length ≤ 1000000000) :
    Calls Tryz.prog 20 #[.slice A l.length c, .slice B m.length c2] w fun en w' => en = .returned (.bool true) ∧ Ext w w' := by
  have hlen : m.length = l.length := by
    have := congrArg List.length hlm
    unfold dcs at this
    rw [List.length_map, List.length_map] at this
    exact this.symm
  obtain ⟨n, hn⟩ : ∃ n, n = l.length := ⟨_, rfl⟩
  rw [hlen, ← hn]
  rw [← hn] at hb hlen
  replace hn := hide hn
  replace hlen := hide hlen
  replace hlm := hide hlm
  go_enter Tryz.func20, Tryz.ntmps20
  go_wp2_with fail
  go_loopw [5] (fun s5 wr => ∃ i : Nat, s5 = .int .i64 (i : Int) ∧ i ≤ n ∧ Hid (Ext w wr)) (fun s5 _ => n - (intOf s5).toNat)
  case atStart => exact ⟨0, rfl, by omega, hide (Ext.refl w)⟩
  case round =>
    obtain ⟨i, rfl, hi, hE⟩ := hrel
    by_cases hin : i < n
    · obtain ⟨x, hx⟩ : ∃ x, l[i]? = some x := ⟨_, List.getElem?_eq_getElem (by rw [← hn.out]; exact hin)⟩
      obtain ⟨y, hy⟩ : ∃ y, m[i]? = some y := ⟨_, List.getElem?_eq_getElem (by rw [hlen.out]; exact hin)⟩
      have hxy : x.dc = y.dc := by
        have h1 : (dcs l)[i]? = some x.dc := by unfold dcs; rw [List.getElem?_map, hx]; rfl
        have h2 : (dcs m)[i]? = some y.dc := by unfold dcs; rw [List.getElem?_map, hy]; rfl
        rw [hlm.out, h2] at h1
        exact (Option.some.inj h1).symm
      obtain ⟨g, o, hA, k0, k1, k2⟩ := dcells_at (hl.cells.ext hE.out) hx
      obtain ⟨g2, o2, hB, k3, k4, k5⟩ := dcells_at (hm.cells.ext hE.out) hy
      have hxo := (hl.each x (List.mem_of_getElem? hx)).1
      have hyo := (hm.each y (List.mem_of_getElem? hy)).1
      obtain ⟨sq, ⟨at_, fs⟩, C, d⟩ := x
      obtain ⟨sq2, e2, D, d2⟩ := y
      unfold DocC.dc at hxy
      injection hxy with h1 h2
      simp only at h1 h2 k0 k1 k2 k3 k4 k5 hxo hyo
      subst h1 h2 hA hB
      have hsb := fun W (hE : Ext w W) => resame_any ⟨at_, fs⟩ ⟨at_, fs⟩ C D d d2 W (hxo.ext hE) (hyo.ext hE)
      rw [show sameE ⟨at_, fs⟩ ⟨at_, fs⟩ = true from decide_eq_true ⟨rfl, rfl⟩] at hsb
      unfold Ev.val at hsb
      simp only at hsb k4 k5
      obtain ⟨k, hk⟩ : ∃ k, k = fs.length := ⟨_, rfl⟩
      rw [← hk] at hsb k2 k5
      have hsm : ∀ x, (x.cell? ⟨g, o + i * 3, none⟩ = some (.int .i64 sq) ∧ x.cell? ⟨g, o + i * 3 + 1, none⟩ = some (.int .i64 at_) ∧ x.cell? ⟨g, o + i * 3 + 2, none⟩ = some (.slice C k d) ∧ x.cell? ⟨g2, o2 + i * 3, none⟩ = some (.int .i64 sq) ∧ x.cell? ⟨g2, o2 + i * 3 + 1, none⟩ = some (.int .i64 at_) ∧ x.cell? ⟨g2, o2 + i * 3 + 2, none⟩ = some (.slice D k d2) ∧ Ext w x) → Calls Tryz.prog 70 #[.agg #[.int .i64 at_, .slice C k d], .agg #[.int .i64 at_, .slice D k d2]] x fun e y => e = .returned (.bool true) ∧ (y.cell? ⟨g, o + i * 3, none⟩ = some (.int .i64 sq) ∧ y.cell? ⟨g, o + i * 3 + 1, none⟩ = some (.int .i64 at_) ∧ y.cell? ⟨g, o + i * 3 + 2, none⟩ = some (.slice C k d) ∧ y.cell? ⟨g2, o2 + i * 3, none⟩ = some (.int .i64 sq) ∧ y.cell? ⟨g2, o2 + i * 3 + 1, none⟩ = some (.int .i64 at_) ∧ y.cell? ⟨g2, o2 + i * 3 + 2, none⟩ = some (.slice D k d2) ∧ Ext w y) := fun x ⟨h0, h1, h2, h3, h4, h5, hE⟩ =>
        (hsb x hE).mono fun e y ⟨he, hEy⟩ => ⟨he, hEy.cell h0, hEy.cell h1, hEy.cell h2, hEy.cell h3, hEy.cell h4, hEy.cell h5, hE.trans hEy⟩
      have hS0 : wr.cell? ⟨g, o + i * 3, none⟩ = some (.int .i64 sq) ∧ wr.cell? ⟨g, o + i * 3 + 1, none⟩ = some (.int .i64 at_) ∧ wr.cell? ⟨g, o + i * 3 + 2, none⟩ = some (.slice C k d) ∧ wr.cell? ⟨g2, o2 + i * 3, none⟩ = some (.int .i64 sq) ∧ wr.cell? ⟨g2, o2 + i * 3 + 1, none⟩ = some (.int .i64 at_) ∧ wr.cell? ⟨g2, o2 + i * 3 + 2, none⟩ = some (.slice D k d2) ∧ Ext w wr := ⟨k0, k1, k2, k3, k4, k5, hE.out⟩
      have hS1 : wr.drew.cell? ⟨g, o + i * 3, none⟩ = some (.int .i64 sq) ∧ wr.drew.cell? ⟨g, o + i * 3 + 1, none⟩ = some (.int .i64 at_) ∧ wr.drew.cell? ⟨g, o + i * 3 + 2, none⟩ = some (.slice C k d) ∧ wr.drew.cell? ⟨g2, o2 + i * 3, none⟩ = some (.int .i64 sq) ∧ wr.drew.cell? ⟨g2, o2 + i * 3 + 1, none⟩ = some (.int .i64 at_) ∧ wr.drew.cell? ⟨g2, o2 + i * 3 + 2, none⟩ = some (.slice D k d2) ∧ Ext w wr.drew := ⟨k0, k1, k2, k3, k4, k5, hE.out.drew⟩
      have hxt : ∀ x, (x.cell? ⟨g, o + i * 3, none⟩ = some (.int .i64 sq) ∧ x.cell? ⟨g, o + i * 3 + 1, none⟩ = some (.int .i64 at_) ∧ x.cell? ⟨g, o + i * 3 + 2, none⟩ = some (.slice C k d) ∧ x.cell? ⟨g2, o2 + i * 3, none⟩ = some (.int .i64 sq) ∧ x.cell? ⟨g2, o2 + i * 3 + 1, none⟩ = some (.int .i64 at_) ∧ x.cell? ⟨g2, o2 + i * 3 + 2, none⟩ = some (.slice D k d2) ∧ Ext w x) → Ext w x := fun x h => h.2.2.2.2.2.2
      have hi0 : (0 : Int) ≤ i := by omega
      have hi1 : (i : Int) < n := by omega
      replace hsm := hide hsm
      replace hS0 := hide hS0
      replace hS1 := hide hS1
      replace hxt := hide hxt
      clear hx hy hxo hyo hsb hk
      go_wp2_with fail
      go_region_held3 (fun x => x.cell? ⟨g, o + i * 3, none⟩ = some (.int .i64 sq) ∧ x.cell? ⟨g, o + i * 3 + 1, none⟩ = some (.int .i64 at_) ∧ x.cell? ⟨g, o + i * 3 + 2, none⟩ = some (.slice C k d) ∧ x.cell? ⟨g2, o2 + i * 3, none⟩ = some (.int .i64 sq) ∧ x.cell? ⟨g2, o2 + i * 3 + 1, none⟩ = some (.int .i64 at_) ∧ x.cell? ⟨g2, o2 + i * 3 + 2, none⟩ = some (.slice D k d2) ∧ Ext w x) (first | exact hS1.out | exact hS0.out | exact ‹_›) (first | (go_at_call 70; refine (hsm.out _ ‹_›).mono ?_; rintro e w3 ⟨rfl, hSc⟩))
      go_wp2_with fail
      have hEn := hide (hxt.out _ ‹_›)
      go_roundw
      case rel => exact ⟨i + 1, by go_num, by omega, hEn⟩
      case measure => simp [intOf]; omega
    · go_wp2_with fail
      go_ret
      exact ⟨rfl, hE.out⟩
end Go.Proofs.YtkdcnhnaiknaaaaGreat

/- loggialaw13: few, cut; what is encoded, and opened. -/
namespace Go.Proofs.YtkdcnhnaiknaaaaGreat
open Go.RowKit Go.Maps

theorem enc_open_any (P : List Dc) (hP : SegP P) (hsm : ∀ p ∈ framesD P, p.length ≤ 16777216) (ha : ∀ d ∈ P, I64ok' d.2.at_) (A : Option Addr) (n c : Nat) (w : World) (h : In8 w A n c (segL P)) :
    Calls Tryz.prog 11 #[.slice A n c] w fun e w' => ∃ g, e = .returned (.tuple #[.pointer (some ⟨g, 0, none⟩), .int .i64 0]) ∧ SegR w' g P ∧ Ext w w' := by
  have hln : n ≤ 1000000000 := by
    have h1 := joinL_len hsm
    have h2 : (segL P).length = 4 + (joinL (framesD P)).length := by unfold segL; rw [List.length_append]; rfl
    have h3 : (framesD P).length = 6 := rfl
    have h4 := h.len
    omega
  have hdr : (segL P).drop 4 = joinL (framesD P) := rfl
  refine (segOpen_any A n c (segL P) w h hln (fun Q _ hQ => ?_)).mono ?_
  · rw [hdr, splitF_join _ hsm] at hQ
    have h3 := decDs_of hP.sm.ok ha (by have := hP.sm.sz; omega)
    have hQ2 : decDs (encDs P) = some Q := hQ
    rw [h3] at hQ2
    rw [← Option.some.inj hQ2]
    exact hP.sm.sz
  · rintro e w' ⟨hE, hr⟩
    rw [openD_seg hP hsm ha] at hr
    obtain ⟨g, rfl, hs⟩ := hr
    exact ⟨g, rfl, hs, hE⟩
theorem openD_small {b : List UInt8} {P : List Dc} (h : openD b = some P) (hb : b.length ≤ 60000) : SegP P := by
  obtain ⟨h1, _, h3⟩ := openD_inv h
  refine ⟨⟨h3, few_small hb P ?_⟩, h1⟩
  unfold openD at h
  split at h
  · split at h
    · split at h
      · rename_i Q hQ
        split at h
        · injection h with h
          rw [← h]
          exact hQ
        · cases h
      · cases h
    · cases h
  · cases h
set_option maxRecDepth 100000 in
theorem run_headD {n c k : Nat} {A : Option Addr} (h : k ≤ c) :
    ∃ A', (∀ W : World, (Instr.sliceAt 22 (.slice A n c) none (some (.int .i64 k)) none).run Tryz.prog W = .ok (.slice A' k c) W) ∧ ((∀ a, A = some a → a.spot = none) → A' = A) := by
  have ht := Tryz.underlying22
  have he : Tryz.prog.elem 22 = 39 := by unfold Program.elem; rw [ht]
  have hs : ∀ W : World, (sizeOf 39).run Tryz.prog W = .ok 3 W := fun W => by kernel_rfl
  refine ⟨if c = 0 then A else A.map fun x => x.add (0 * 3), fun W => ?_, fun hA => ?_⟩
  · rw [run_sliceAt_slice W _ _ _ _ _ (by rw [ht, he]), run_slice_h W _ A n c (by rw [ht, he]) .i64 k (by omega) (by omega), he, hs]
    simp only [Result.andThen_ok]
    congr 1
  · cases A with
    | none => simp
    | some a =>
      obtain ⟨b, o, sp⟩ := a
      obtain rfl : sp = none := hA _ rfl
      simp [Addr.add_lit]
theorem DocsOk.take {w : World} {A A' : Option Addr} {ds : List DocC} (h : DocsOk w A ds) (k : Nat) (hA : ds ≠ [] → A' = A) : DocsOk w A' (ds.take k) := by
  refine ⟨?_, fun x hx => h.each x (List.mem_of_mem_take hx)⟩
  by_cases hne : ds = []
  · left; rw [hne]; simp [dcells]
  · rw [hA hne]
    rcases h.cells with hc | ⟨g, o, hg, hc⟩
    · left
      have h0 : ds.length = 0 := by
        have := congrArg List.length hc
        rw [dcells_len, List.length_nil] at this
        omega
      exact absurd (List.length_eq_zero_iff.1 h0) hne
    · refine .inr ⟨g, o, hg, fun i v hv => hc i v ?_⟩
      unfold dcells at hv ⊢
      rw [flat_take (f := DocC.cells) (k := 3) (fun _ => rfl), List.getElem?_take] at hv
      split at hv
      · exact hv
      · cases hv
set_option maxRecDepth 100000 in
theorem few13_any (A : Option Addr) (n c : Nat) (ds : List DocC) (w : World) (hn : n = ds.length) (hc : n ≤ c) (h : DocsOk w A ds) (hsp : ds ≠ [] → ∀ a, A = some a → a.spot = none) :
    Calls Tryz.prog 8 #[.slice A n c] w fun e w' => DocsA (fewD ((dcs ds).take 25)) w e w' := by
  obtain ⟨k, hk⟩ : ∃ k, k = min n 25 := ⟨_, rfl⟩
  have hmin := run_min2 (P := Tryz.prog) #[3, 3] 3 (x := (n : Int)) (y := 25) (m := (k : Int)) (by omega)
  obtain ⟨A', hsl, hA⟩ := run_headD (n := n) (c := c) (k := k) (A := A) (by omega)
  have hd := h.take (A' := A') 25 (fun hne => hA (hsp hne))
  have hlen : k = (ds.take 25).length := by rw [List.length_take, ← hn]; omega
  have hfew := few19_any A' c k (ds.take 25) w hlen hd
  have hdt : dcs (ds.take 25) = (dcs ds).take 25 := by unfold dcs; rw [List.map_take]
  rw [hdt] at hfew
  obtain ⟨PF, hPF⟩ : ∃ PF, PF = fewD ((dcs ds).take 25) := ⟨_, rfl⟩
  rw [← hPF] at hfew ⊢
  replace hfew := hide hfew
  replace hk := hide hk
  replace hn := hide hn
  clear hd hlen hdt hPF h hsp hA
  go_enter Tryz.func8, Tryz.ntmps8
  go_wp2_with fail
  refine hfew.out.mono ?_
  rintro e w1 ⟨hE, l, B, d, hl, rfl, ho⟩
  go_wp2_with fail
  go_ret
  exact ⟨hE, l, B, d, hl, rfl, ho⟩
set_option maxRecDepth 100000 in
theorem cut13_any (A : Option Addr) (n c : Nat) (l : List UInt8) (w : World) (h : In8 w A n c l) : Calls Tryz.prog 17 #[.slice A n c] w fun e w' => ∃ n', e = .returned (.slice A n' c) ∧ n' ≤ 9000 ∧ In8 w A n' c (l.take 9000) ∧ w' = w := by
  have hcap := h.cap
  have hl := h.len
  obtain ⟨k, hk⟩ : ∃ k, k = min n 9000 := ⟨_, rfl⟩
  have hmin := run_min2 (P := Tryz.prog) #[3, 3] 3 (x := (n : Int)) (y := 9000) (m := (k : Int)) (by omega)
  obtain ⟨hsl, hin⟩ := h.headk .i64 (k := k) (by omega) (z := (k : Int)) rfl
  have ht : l.take k = l.take 9000 := by
    rcases Nat.le_total n 9000 with h9 | h9
    · rw [List.take_of_length_le (by omega), List.take_of_length_le (by omega)]
    · rw [hk, Nat.min_eq_right h9]
  rw [ht] at hin
  have hk9 : k ≤ 9000 := by omega
  replace hk := hide hk
  replace hin := hide hin
  clear hl ht
  go_enter Tryz.func17, Tryz.ntmps17
  go_wp2_with fail
  go_ret
  exact ⟨k, rfl, hk9, hin.out, rfl⟩
end Go.Proofs.YtkdcnhnaiknaaaaGreat

/- loggialaw13: SegmentBack. -/
namespace Go.Proofs.YtkdcnhnaiknaaaaGreat
open Go.RowKit Go.Maps

set_option maxRecDepth 100000 in
set_option maxHeartbeats 8000000 in
theorem segBack_any (A0 A1 : Option Addr) (n0 c0 n1 c1 : Nat) (ds : List DocC) (b0 : List UInt8) (w : World) (hn : n0 = ds.length) (hc : n0 ≤ c0) (h : DocsOk w A0 ds) (hsp : ds ≠ [] → ∀ a, A0 = some a → a.spot = none) (hb : In8 w A1 n1 c1 b0) :
    Calls Tryz.prog 5 #[.slice A0 n0 c0, .slice A1 n1 c1] w fun e w' => e = .returned (.bool true) ∧ Ext w w' := by
  have hfew := hide (few13_any A0 n0 c0 ds w hn hc h hsp)
  have h8 := few8_of (P := dcs ds) fun d hd => by
    unfold dcs at hd
    obtain ⟨x, hx, rfl⟩ := List.mem_map.1 hd
    exact (h.each x hx).2.1
  obtain ⟨PF, hPF⟩ : ∃ PF, PF = fewD ((dcs ds).take 25) := ⟨_, rfl⟩
  rw [← hPF] at hfew h8
  have haw := hide (fun W => awake13_any W)
  clear hPF h hn hc hsp
  go_enter Tryz.func5, Tryz.ntmps5
  go_wp2_with fail
  refine hfew.out.mono ?_
  rintro e w1 ⟨hE1, l, A, c, hl, rfl, hown⟩
  have hcut := hide (cut13_any A1 n1 c1 b0 w1 (hb.ext hE1))
  have hok := hown.ok
  have hcap := hown.cap
  obtain ⟨m, hm⟩ : ∃ m, m = l.length := ⟨_, rfl⟩
  rw [← hm] at hcap ⊢
  have hml : PF.length = m := by rw [← hl, hm]; exact List.length_map ..
  have hm25 : m ≤ 25 := by rw [← hml]; exact h8.n
  replace hm := hide hm
  replace hok := hide hok
  clear hb
  go_wp2_with fail
  refine hcut.out.mono ?_
  rintro e w0 ⟨n, rfl, hn9, hin, hw0⟩
  obtain rfl := hw0.symm
  obtain ⟨b, hbdef⟩ : ∃ b, b = b0.take 9000 := ⟨_, rfl⟩
  rw [← hbdef] at hin
  have hbl := hin.len
  have hb9 : b.length ≤ 60000 := by omega
  replace hin := hide hin
  replace hbl := hide hbl
  clear hbdef hcut
  by_cases hyes : okDs PF = true ∧ 0 < m
  case' pos =>
    obtain ⟨hk, h0⟩ := hyes
    have hsm : SmP (dcs l) := by rw [hl]; exact h8.sm hk
    have hP : SegP PF := ⟨h8.sm hk, by omega⟩
    have hfs := frames_small hok.out hm.out h0 hsm
    rw [hl] at hfs
    have hen := segEncode_yes l A m c w1 hm.out hok.out hcap.2 hcap.1 hsm h0
    rw [hl] at hen
    replace hen := hide hen
    replace hP := hide hP
    replace hfs := hide hfs
    clear hsm
    go_wp2_with fail
    refine hen.out.mono ?_
    rintro e w2 ⟨Ax, cx, rfl, hOx, hE2⟩
    obtain ⟨nx, hnx⟩ : ∃ nx, nx = (segL PF).length := ⟨_, rfl⟩
    have hop := enc_open_any PF hP.out hfs.out (fun d hd => (h8.each d hd).1) Ax (segL PF).length cx w2 hOx.2.in8
    rw [← hnx] at hop ⊢
    replace hop := hide hop
    replace hnx := hide hnx
    go_wp2_with fail
    refine hop.out.mono ?_
    rintro e w3 ⟨g, rfl, hs, hE3⟩
    have hdo := hide (sdocs_yes g PF w3 hs hP.out)
    replace hE3 := hide hE3
    go_wp2_with fail
    refine hdo.out.mono ?_
    rintro e w4 ⟨hE4, l2, A2, c2, hl2, rfl, hown2⟩
    have hE14 := (hE2.trans hE3.out).trans hE4
    have hll : l2.length = m := by rw [← hml, ← hl2]; exact (List.length_map ..).symm
    have hsd := samedocs_any l2 l A2 A c2 c w4 hown2.ok (hok.out.ext hE14) (by rw [hl2, hl]) (by omega)
    rw [← hm.out, hll] at hsd
    rw [hll]
    replace hsd := hide hsd
    replace hE14 := hide hE14
    go_wp2_with fail
    refine hsd.out.mono ?_
    rintro e w5 ⟨rfl, hE5⟩
    have hEt := hide (hE14.out.trans hE5)
    clear hE5
  case' neg =>
    have hno : okDs (dcs l) = false ∨ m = 0 := by
      rw [hl]
      by_cases h0 : m = 0
      · exact .inr h0
      · exact .inl (by
          cases hk : okDs PF with
          | false => rfl
          | true => exact absurd ⟨hk, by omega⟩ hyes)
    have hen := hide (segEncode_no l A m c w1 hm.out hok.out hcap.2 hcap.1 (by omega) hno)
    clear hno hyes
    go_wp2_with fail
    refine hen.out.mono ?_
    rintro e w5 ⟨rfl, hE5⟩
    have hEt := hide hE5
    clear hE5
  all_goals
    have hop2 := segOpen_any A1 n c1 b w5 (hin.out.ext hEt.out) (by omega) (fun Q _ hQ => few_small hb9 Q hQ)
    have hE15 := hide (hE1.trans hEt.out)
    cases hob : openD b with
    | none =>
      replace hop2 := hide hop2
      replace hob := hide hob
      go_wp2_with fail
      refine hop2.out.mono ?_
      rintro e w6 ⟨hE6, hres⟩
      rw [hob.out] at hres
      simp only at hres
      subst hres
      go_wp2_with fail
      refine (haw.out _).mono ?_
      rintro e w7 ⟨rfl, hE7⟩
      go_wp2_with fail
      go_ret
      exact ⟨rfl, (hE15.out.trans hE6).trans hE7⟩
    | some Q =>
      have hQ := openD_small hob hb9
      obtain ⟨hQ0, hQb, _⟩ := openD_inv hob
      replace hQb := hide hQb
      replace hop2 := hide hop2
      replace hob := hide hob
      replace hQ := hide hQ
      go_wp2_with fail
      refine hop2.out.mono ?_
      rintro e w6 ⟨hE6, hres⟩
      rw [hob.out] at hres
      simp only at hres
      obtain ⟨gq, rfl, hs6⟩ := hres
      have hdq := hide (sdocs_yes gq Q w6 hs6 hQ.out)
      replace hE6 := hide hE6
      go_wp2_with fail
      refine hdq.out.mono ?_
      rintro e w7 ⟨hE7, l3, A3, c3, hl3, rfl, hown3⟩
      obtain ⟨k, hkd⟩ : ∃ k, k = l3.length := ⟨_, rfl⟩
      have hcap3 := hown3.cap
      rw [← hkd] at hcap3 ⊢
      have hkQ : Q.length = k := by rw [← hl3, hkd]; exact List.length_map ..
      have hen3 := segEncode_yes l3 A3 k c3 w7 hkd hown3.ok hcap3.2 hcap3.1 (by rw [hl3]; exact hQ.out.sm) (by omega)
      rw [hl3, hQb.out] at hen3
      replace hen3 := hide hen3
      replace hkd := hide hkd
      have hE17 := hide ((hE15.out.trans hE6.out).trans hE7)
      have hin7 := hide (hin.out.ext (hEt.out.trans (hE6.out.trans hE7)))
      go_wp2_with fail
      refine hen3.out.mono ?_
      rintro e w8 ⟨A8, c8, rfl, hO8, hE8⟩
      rw [← hbl.out] at hO8 ⊢
      have hst1 := run_str (A := A8) (l := b) (w := w8) hO8.2.cells n c8 hbl.out
      have hst2 := run_str (A := A1) (l := b) (w := w8) (hin7.out.ext hE8).bytes n c1 hbl.out
      go_wp2_with fail
      refine (haw.out _).mono ?_
      rintro e w9 ⟨rfl, hE9⟩
      go_wp2_with fail
      go_ret
      exact ⟨rfl, (hE17.out.trans hE8).trans hE9⟩
end Go.Proofs.YtkdcnhnaiknaaaaGreat

/- Events that came in: opening. -/
namespace Go.Proofs.YtkdcnhnaiknaaaaGreat
open Go.ChangeShapes Go.WideShapes Go.Deep Go.RowKit

section
variable {H : Type} {enc : TypeId × Value → H} {w : World} {base : Nat} {spare : Nat → Bool} {held : Bool}
set_option maxRecDepth 100000 in
theorem in_fd {fuel : Nat} {cs : List Value} {y : DataW H × List MemPlace} (hcl : cs.length = 2) (h : DataW.trod enc Tryz.prog w base spare held fuel 105 cs = some y) :
    ∃ f : Fd, (f.1.length ≤ 9223372036854775807 ∧ f.2.length ≤ 9223372036854775807) ∧ f.cells = cs := by
  obtain ⟨n, one⟩ := in_fields (tys := #[9, 9]) Tryz.underlying105 (by kernel_rfl) (by kernel_rfl) h
  match cs, hcl with
  | [v0, v1], _ =>
    obtain ⟨z0, h0⟩ := one 0 _ v0 rfl rfl
    obtain ⟨s0, e0, _, w0⟩ := DataW.trod_string Tryz.underlying9 h0
    obtain rfl : v0 = .string s0 := by simpa using e0
    obtain ⟨z1, h1⟩ := one 1 _ v1 rfl rfl
    obtain ⟨s1, e1, _, w1⟩ := DataW.trod_string Tryz.underlying9 h1
    obtain rfl : v1 = .string s1 := by simpa using e1
    refine ⟨(s0.data.toList, s1.data.toList), ⟨(str_list w0).2, (str_list w1).2⟩, ?_⟩
    unfold Fd.cells
    rw [(str_list w0).1, (str_list w1).1]
set_option maxRecDepth 100000 in
theorem in_ev {fuel : Nat} {cs : List Value} {y : DataW H × List MemPlace} (hcl : cs.length = 2) (h : DataW.trod enc Tryz.prog w base spare held fuel 37 cs = some y) :
    ∃ x : EvC, (x.e.Ok w x.A ∧ I64ok' x.e.at_) ∧ x.cells = cs := by
  obtain ⟨n, one⟩ := in_fields (tys := #[3, 35]) Tryz.underlying37 (by kernel_rfl) (by kernel_rfl) h
  match cs, hcl with
  | [v0, v1], _ =>
    obtain ⟨z0, h0⟩ := one 0 _ v0 rfl rfl
    obtain ⟨k0, e0, _, w0⟩ := DataW.trod_int Tryz.underlying3 h0
    obtain rfl : v0 = .int .i64 k0 := by simpa using e0
    obtain ⟨z1, h1⟩ := one 1 _ v1 rfl rfl
    obtain ⟨A, c, fs, rfl, hc, _, _, hl, hfs⟩ := in_row_of (cellsA := Fd.cells) Tryz.underlying35 (by kernel_rfl) (by omega : 0 < 2) (fun _ => rfl) (fun _ _ _ a b => in_fd a b) h1
    exact ⟨⟨⟨k0, fs⟩, A, c⟩, ⟨⟨hc, hl, hfs⟩, wf_i64 w0⟩, rfl⟩
end
end Go.Proofs.YtkdcnhnaiknaaaaGreat

/- Bytes that came in, to be read. -/
namespace Go.Proofs.YtkdcnhnaiknaaaaGreat
open Go.ChangeShapes Go.WideShapes Go.ChangeAt Go.RowKit

set_option maxRecDepth 100000 in
theorem open_in8 {H : Type} {enc : TypeId × Value → H} {w : World} {r : Go.Reach} {base base' : Nat} {t e : TypeId} {fuel : Nat} {a : Option Addr} {len cap : Nat} {x : DataW H × List MemPlace} {spare : Nat → Bool} {held : Bool}
    (ht : Tryz.prog.underlying t = some (.slice e)) (he : Tryz.prog.underlying e = some (.int .u8)) (hc : Tryz.prog.cellsOf e = 1) (hv : Value.okWide Tryz.prog w r base t (.slice a len cap))
    (h : DataW.trod enc Tryz.prog w base' spare held fuel t (Value.slice a len cap).cells.toList = some x) : ∃ l, In8 w a len cap l := by
  obtain ⟨l, hl⟩ := open_bytes ht he hc hv h
  refine ⟨l, hl.len, hl.bytes, hl.cap, fun ha => ?_, fun y hy => ?_⟩
  · subst ha
    rcases open_ints ht he hc h with ⟨hcs, _⟩ | ⟨y, m, c, zs, hcs, _⟩
    · simp [Value.cells] at hcs
      exact hcs.2
    · simp [Value.cells] at hcs
  · subst hy
    exact slice_has ht hv
end Go.Proofs.YtkdcnhnaiknaaaaGreat

/- Docs that came in: opening. -/
namespace Go.Proofs.YtkdcnhnaiknaaaaGreat
open Go.ChangeShapes Go.WideShapes Go.Deep Go.RowKit

section
variable {H : Type} {enc : TypeId × Value → H} {w : World} {base : Nat} {spare : Nat → Bool} {held : Bool}
set_option maxRecDepth 100000 in
theorem in_doc {fuel : Nat} {cs : List Value} {y : DataW H × List MemPlace} (hcl : cs.length = 3) (h : DataW.trod enc Tryz.prog w base spare held fuel 39 cs = some y) :
    ∃ x : DocC, (x.e.Ok w x.A ∧ I64ok' x.e.at_ ∧ I64ok' x.seq) ∧ x.cells = cs := by
  obtain ⟨y0, y1, n, _, _, h0, h1⟩ := trod_struct2 Tryz.underlying39 h
  match cs, hcl with
  | [v0, v1, v2], _ =>
    have hc0 : Tryz.prog.cellsOf 3 = 1 := by kernel_rfl
    have hc1 : Tryz.prog.cellsOf 37 = 2 := by kernel_rfl
    have h0' : DataW.trod enc Tryz.prog w base spare held n 3 [v0] = some y0 := by
      have h2 := h0
      simp only [hc0] at h2
      exact h2
    have h1' : DataW.trod enc Tryz.prog w base spare held n 37 [v1, v2] = some y1 := by
      have h2 := h1
      simp only [hc1] at h2
      exact h2
    obtain ⟨k0, e0, _, w0⟩ := DataW.trod_int Tryz.underlying3 h0'
    obtain rfl : v0 = .int .i64 k0 := by simpa using e0
    obtain ⟨x, ⟨hx1, hx2⟩, hxc⟩ := in_ev rfl h1'
    refine ⟨⟨k0, x.e, x.A, x.c⟩, ⟨hx1, hx2, wf_i64 w0⟩, ?_⟩
    unfold EvC.cells at hxc
    unfold DocC.cells
    rw [← hxc]
set_option maxRecDepth 100000 in
theorem in_docs {fuel : Nat} {v : Value} {x : DataW H × List MemPlace} (h : DataW.trod enc Tryz.prog w base spare held fuel 22 [v] = some x) :
    ∃ (A : Option Addr) (c : Nat) (l : List DocC), v = .slice A l.length c ∧ DocsOk w A l ∧ l.length ≤ c ∧ l.length ≤ 9223372036854775807 ∧ (l ≠ [] → ∀ a, A = some a → a.spot = none) := by
  obtain ⟨A, c, l, rfl, hc, hs, hlc, hl, hx⟩ := in_row_of (cellsA := DocC.cells) (Q := fun x : DocC => x.e.Ok w x.A ∧ I64ok' x.e.at_ ∧ I64ok' x.seq) Tryz.underlying22 (by kernel_rfl) (by omega : 0 < 3) (fun _ => rfl) (fun _ _ _ a b => in_doc a b) h
  exact ⟨A, c, l, rfl, ⟨hc, hx⟩, hlc, hl, fun hne a ha => (hs hne a ha).2⟩
end
end Go.Proofs.YtkdcnhnaiknaaaaGreat

