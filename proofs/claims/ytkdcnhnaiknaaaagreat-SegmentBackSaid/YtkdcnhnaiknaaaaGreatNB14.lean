/- loggia/segment: times, told. -/
import Derived.Test.YtkdcnhnaiknaaaaGreatNB08
import Derived.Test.YtkdcnhnaiknaaaaGreatNB13
import Derived.RegionTactic
import Derived.BigRegion
import Derived.Test.YtkdcnhnaiknaaaaGreatNB05
import Derived.Test.YtkdcnhnaiknaaaaGreatNB03
import Derived.Deep.RegionHeld3
import Derived.Test.YtkdcnhnaiknaaaaGreatShelf
import Derived.Test.YtkdcnhnaiknaaaaGreatNB04
import Derived.Test.YtkdcnhnaiknaaaaGreatNB02
set_option linter.unusedSimpArgs false
set_option linter.unusedVariables false
namespace Go.Proofs.YtkdcnhnaiknaaaaGreat
open Go.RowKit

theorem buf_nil {w : World} {base n c : Nat} {e : TypeId} {A : Option Addr} {xs : List Value} (h : Buf w base e A n c xs) : A = none → c = 0 := fun hA => by
  rcases h.2.2 with ⟨_, h⟩ | ⟨g, _, h, _⟩
  · exact h
  · rw [h] at hA; cases hA
set_option maxRecDepth 100000 in
set_option maxHeartbeats 2000000 in
theorem times_any (ds : List DocC) (A : Option Addr) (m c : Nat) (w : World) (hm : m = ds.length) (h : DocsOk w A ds) (hle : m ≤ 1000000) :
    Calls Tryz.prog 44 #[.slice A m c] w fun e w' => NewB w (timesD 0 (dcs ds)) e w' := by
  have hpi := hide (fun A n c x l W h1 h2 h3 h4 h5 h6 => putInt_any A n c x l W h1 h2 h3 h4 h5 h6)
  have htl : ∀ i, (timesD 0 (dcs (ds.take i))).length ≤ 10 * i := fun i => by
    have := timesD_len (dcs (ds.take i)) 0
    have h2 : (dcs (ds.take i)).length ≤ i := by unfold dcs; rw [List.length_map, List.length_take]; omega
    omega
  replace htl := hide htl
  replace h := hide h
  replace hm := hide hm
  go_enter Tryz.func44, Tryz.ntmps44
  go_wp2_with fail
  go_loopw [3, 4, 9] (fun s3 s4 s9 wr => ∃ (i n : Nat) (B : Option Addr) (k : Nat) (a : Int), s9 = .int .i64 (i : Int) ∧ s3 = .slice B n k ∧ s4 = .int .i64 a ∧ i ≤ m ∧ n ≤ 10 * i ∧ Hid (a = lastAt 0 (dcs (ds.take i))) ∧ Hid (n = (timesD 0 (dcs (ds.take i))).length) ∧ Hid (Buf wr w.heap.size 5 B n k ((timesD 0 (dcs (ds.take i))).map B8)) ∧ Hid (Ext w wr)) (fun _ _ s9 _ => m - (intOf s9).toNat)
  case atStart => exact ⟨0, 0, none, 0, 0, rfl, rfl, rfl, by omega, by omega, hide rfl, hide rfl, hide (Buf.nil _ _ _), hide (Ext.refl w)⟩
  case round =>
    obtain ⟨i, n, B, k, a, rfl, rfl, rfl, hi, hn, ha, hnl, hB, hE⟩ := hrel
    by_cases hin : i < m
    · obtain ⟨x, hx⟩ : ∃ x, ds[i]? = some x := ⟨_, List.getElem?_eq_getElem (by rw [← hm.out]; exact hin)⟩
      have hok := h.out.ext hE.out
      obtain ⟨g, o, hA, x0, x1, x2⟩ := dcells_at hok.cells hx
      subst hA
      have hst : dcs (ds.take (i + 1)) = dcs (ds.take i) ++ [x.dc] := by rw [List.take_add_one, hx]; unfold dcs; rw [List.map_append]; rfl
      have hla : lastAt 0 (dcs (ds.take (i + 1))) = x.e.at_ := by rw [hst, lastAt_app]; rfl
      have hti : timesD 0 (dcs (ds.take (i + 1))) = timesD 0 (dcs (ds.take i)) ++ vb (zig (wrap64 (x.e.at_ - a))) := by
        rw [hst, timesD_app, ← ha.out]
        show _ ++ (_ ++ []) = _
        rw [List.append_nil]
        rfl
      obtain ⟨d, hd⟩ : ∃ d, d = wrap64 (x.e.at_ - a) := ⟨_, rfl⟩
      have hdr := wrap_rng (x.e.at_ - a)
      rw [← hd] at hti hdr
      have hl9 := htl.out (i + 1)
      replace hst := hide hst
      replace hla := hide hla
      replace hti := hide hti
      replace hx := hide hx
      clear hok
      go_wp2_with fail
      obtain ⟨W5, hW5⟩ : ∃ W5, W5 = wr.alloc (Obj.cells #[Value.int IntKind.i64 x.seq, Value.int IntKind.i64 x.e.at_, Value.slice x.A x.e.fs.length x.c] 39) := ⟨_, rfl⟩
      have hE5 : Ext wr W5 := by rw [hW5]; exact (Ext.refl wr).alloc _
      have r5 : Row W5 wr.heap.size 39 #[Value.int IntKind.i64 x.seq, Value.int IntKind.i64 x.e.at_, Value.slice x.A x.e.fs.length x.c] := by rw [hW5]; exact Row.new wr _ _
      obtain ⟨g5, hg5⟩ : ∃ g5, g5 = wr.heap.size := ⟨_, rfl⟩
      rw [← hW5, ← hg5, ← hd]
      rw [← hg5] at r5
      have hB5 := hB.out.ext hE5
      refine (hpi.out B n k d _ W5 hnl.out hB5.cells (buf_nil hB5) (by omega) hdr.1 hdr.2).mono ?_
      rintro e w6 ⟨A6, c6, rfl, hB6, hE6⟩
      rw [← hti.out] at hB6 ⊢
      have r6 := r5.ext hE6
      have y1 := r6.cell 1 rfl
      have hszw : w.heap.size ≤ W5.heap.size := (hE.out.trans hE5).size
      obtain ⟨n6, hn6⟩ : ∃ n6, n6 = (timesD 0 (dcs (ds.take (i + 1)))).length := ⟨_, rfl⟩
      rw [← hn6] at hB6 hl9 ⊢
      replace hn6 := hide hn6
      replace hB6 := hide (hB6.lower hszw)
      replace hE6 := hide (hE5.trans hE6)
      clear hW5 hg5 hd r5 r6
      go_wp2_with fail
      go_roundw
      case rel => exact ⟨i + 1, n6, A6, c6, _, rfl, rfl, rfl, by omega, hl9, hide hla.out.symm, hn6, hB6, hide (hE.out.trans hE6.out)⟩
      case measure => simp only [intOf]; omega
    · have hmi : m = i := by omega
      have hall : ds.take i = ds := List.take_of_length_le (by rw [← hm.out]; omega)
      rw [hall] at hB hnl
      go_wp2_with fail
      go_ret
      exact ⟨B, k, by rw [hnl.out]; rfl, by rw [← hnl.out]; exact hB.out, hE.out⟩
end Go.Proofs.YtkdcnhnaiknaaaaGreat

/- loggia/segment: told. -/
namespace Go.Proofs.YtkdcnhnaiknaaaaGreat
open Go.RowKit

def prtA : List Int → Array Value
  | [a, b, c, d, e] => #[.int .i64 0, .int .i64 0, .int .i64 a, .int .i64 b, .int .i64 c, .int .i64 d, .int .i64 e]
  | _ => #[]
theorem lowD_rng : ∀ (l : List Dc) (m : Int), I64ok' m → (∀ d ∈ l, I64ok' d.2.at_) → I64ok' (lowD m l)
  | [], m, hm, _ => hm
  | d :: t, m, hm, h => by
    have h1 := h d (List.mem_cons_self ..)
    refine lowD_rng t _ ?_ fun x hx => h x (List.mem_cons_of_mem _ hx)
    unfold I64ok' at *
    omega
theorem highD_rng : ∀ (l : List Dc) (m : Int), I64ok' m → (∀ d ∈ l, I64ok' d.2.at_) → I64ok' (highD m l)
  | [], m, hm, _ => hm
  | d :: t, m, hm, h => by
    have h1 := h d (List.mem_cons_self ..)
    refine highD_rng t _ ?_ fun x hx => h x (List.mem_cons_of_mem _ hx)
    unfold I64ok' at *
    omega
theorem lastD_get : ∀ (l : List Dc) (d : Dc), lastD d.1 l = ((d :: l)[l.length]?.map (·.1)).getD 0
  | [], d => rfl
  | p :: t, d => by
    show lastD p.1 t = _
    rw [lastD_get t p]
    rfl
theorem partD_of {ds : List DocC} {x0 xl : DocC} {m : Nat} (hm : m = ds.length) (h0 : ds[0]? = some x0) (hl : ds[m - 1]? = some xl) : partD (dcs ds) = [lowD x0.e.at_ (dcs ds), highD x0.e.at_ (dcs ds), x0.seq, xl.seq, (m : Int)] := by
  cases ds with
  | nil => simp at h0
  | cons y t =>
    obtain rfl : y = x0 := by simpa using h0
    have h1 := lastD_get (dcs t) y.dc
    have hk : (dcs t).length = t.length := by unfold dcs; rw [List.length_map]
    have h2 : (y.dc :: dcs t)[t.length]? = some xl.dc := by
      show (dcs (y :: t))[t.length]? = _
      unfold dcs
      rw [List.getElem?_map]
      rw [hm, List.length_cons, Nat.add_sub_cancel] at hl
      rw [hl]; rfl
    rw [hk, h2] at h1
    show [lowD y.e.at_ (dcs (y :: t)), highD y.e.at_ (dcs (y :: t)), y.seq, lastD y.dc.1 (dcs t), ((dcs (y :: t)).length : Int)] = _
    rw [h1]
    have h3 : (dcs (y :: t)).length = m := by rw [hm]; unfold dcs; rw [List.length_map]
    rw [h3]
    rfl
theorem results_row1 {fn : Func} {p : Tmp} {ty : TypeId} {P : Program} (h : fn.results = #[.cell p ty]) (tmps : Array Value) (w : World) (g : Nat) (cs : Array Value)
    (hp : tmps.getD p undef = .pointer (some ⟨g, 0, none⟩)) (hl : (loadVar ty ⟨g, 0, none⟩).run P w = .ok (.agg cs) w) :
    (results fn tmps).run P w = .ok (.agg cs) w := by
  rw [Array.getD_eq_getD_getElem?] at hp
  simp only [results, h]
  simp [Sem.run_bind, Result.andThen, hp, asAddr, hl]
set_option maxRecDepth 100000 in
set_option maxHeartbeats 2000000 in
theorem told_any (ds : List DocC) (A : Option Addr) (m c : Nat) (w : World) (hm : m = ds.length) (h : DocsOk w A ds) (hle : m ≤ 1000000) (h0 : 0 < m) :
    Calls Tryz.prog 42 #[.slice A m c] w fun e w' => e = .returned (.agg (prtA (partD (dcs ds)))) ∧ Ext w w' := by
  obtain ⟨x0, hx0⟩ : ∃ x, ds[0]? = some x := ⟨_, List.getElem?_eq_getElem (by omega)⟩
  obtain ⟨xl, hxl⟩ : ∃ x, ds[m - 1]? = some x := ⟨_, List.getElem?_eq_getElem (by omega)⟩
  obtain ⟨g, o, hA, a0, a1, a2⟩ := dcells_at h.cells hx0
  obtain ⟨g', o', hA', b0, b1, b2⟩ := dcells_at h.cells hxl
  rw [hA] at hA'
  injection hA' with hA'
  injection hA' with hg ho
  subst hg
  subst ho
  rw [Nat.zero_mul, Nat.add_zero] at a0 a1 a2
  have hpart : partD (dcs ds) = [lowD x0.e.at_ (dcs ds), highD x0.e.at_ (dcs ds), x0.seq, xl.seq, (m : Int)] := partD_of hm hx0 hxl
  subst hA
  replace h := hide h
  replace hm := hide hm
  replace hx0 := hide hx0
  replace hxl := hide hxl
  obtain ⟨k, hk⟩ : ∃ k, m = k + 1 := ⟨m - 1, by omega⟩
  subst hk
  rw [show k + 1 - 1 = k by omega] at b0 b1 b2
  have hi64 : ∀ d ∈ dcs ds, I64ok' d.2.at_ := fun d hd => by
    unfold dcs at hd
    obtain ⟨x, hx, rfl⟩ := List.mem_map.1 hd
    exact (h.out.each x hx).2.1
  replace hi64 := hide hi64
  replace hpart := hide hpart
  go_enter Tryz.func42, Tryz.ntmps42
  go_wp2_with fail
  obtain ⟨W1, hW1⟩ : ∃ W1, W1 = w.alloc (Obj.cells #[Value.int IntKind.i64 0, Value.int IntKind.i64 0, Value.int IntKind.i64 0, Value.int IntKind.i64 0, Value.int IntKind.i64 0, Value.int IntKind.i64 0, Value.int IntKind.i64 0] 74) := ⟨_, rfl⟩
  rw [← hW1]
  have hE1 : Ext w W1 := by rw [hW1]; exact (Ext.refl w).alloc _
  have r1 : Row W1 w.heap.size 74 #[Value.int IntKind.i64 0, Value.int IntKind.i64 0, Value.int IntKind.i64 0, Value.int IntKind.i64 0, Value.int IntKind.i64 0, Value.int IntKind.i64 0, Value.int IntKind.i64 0] := by rw [hW1]; exact Row.new w _ _
  have c1 := hE1.cell a1
  have c0 := hE1.cell a0
  have d0 := hE1.cell b0
  replace hW1 := hide hW1
  refine wp_region_text follows (by kernel_rfl) (by kernel_rfl) (fun K hK => ?_)
  go_wp2_with fail
  refine ⟨by kernel_rfl, ?_⟩
  go_wp2_with fail
  obtain ⟨W2, hW2⟩ : ∃ W2, W2 = (W1.alloc (Obj.cells #[Value.int IntKind.i64 0, Value.int IntKind.i64 0, Value.int IntKind.i64 x0.e.at_, Value.int IntKind.i64 x0.e.at_, Value.int IntKind.i64 x0.seq, Value.int IntKind.i64 xl.seq, Value.int IntKind.i64 ((k : Int) + 1)] 74)).drew := ⟨_, rfl⟩
  rw [← hW2]
  obtain ⟨b1, hb1⟩ : ∃ b1, b1 = w.heap.size := ⟨_, rfl⟩
  obtain ⟨b2, hb2⟩ : ∃ b2, b2 = W1.heap.size := ⟨_, rfl⟩
  have hE2 : Ext W1 W2 := by rw [hW2]; exact ((Ext.refl W1).alloc _).drew
  have r2 : Row W2 b2 74 #[Value.int IntKind.i64 0, Value.int IntKind.i64 0, Value.int IntKind.i64 x0.e.at_, Value.int IntKind.i64 x0.e.at_, Value.int IntKind.i64 x0.seq, Value.int IntKind.i64 xl.seq, Value.int IntKind.i64 ((k : Int) + 1)] := by rw [hW2, hb2]; exact Row.new W1 _ _
  have r12 := r1.ext hE2
  rw [← hb1] at r12
  have hb12 : b1 < b2 := by have := r1.lt; omega
  rw [← hb1, ← hb2]
  have hE := hide (hE1.trans hE2)
  replace r2 := hide r2
  replace r12 := hide r12
  replace hW2 := hide hW2
  replace hb1 := hide hb1
  replace hb2 := hide hb2
  clear r1 c0 c1 d0
  go_loopw [32] (fun s32 wr => ∃ (i : Nat) (lo hi : Int), s32 = .int .i64 (i : Int) ∧ i ≤ k + 1 ∧ Hid (lo = lowD x0.e.at_ (dcs (ds.take i))) ∧ Hid (hi = highD x0.e.at_ (dcs (ds.take i))) ∧ Hid (Row wr b2 74 #[Value.int IntKind.i64 0, Value.int IntKind.i64 0, Value.int IntKind.i64 lo, Value.int IntKind.i64 hi, Value.int IntKind.i64 x0.seq, Value.int IntKind.i64 xl.seq, Value.int IntKind.i64 ((k : Int) + 1)]) ∧ Hid (Row wr b1 74 #[Value.int IntKind.i64 0, Value.int IntKind.i64 0, Value.int IntKind.i64 0, Value.int IntKind.i64 0, Value.int IntKind.i64 0, Value.int IntKind.i64 0, Value.int IntKind.i64 0]) ∧ Hid (Ext w wr)) (fun s32 _ => k + 1 - (intOf s32).toNat)
  case atStart => exact ⟨0, x0.e.at_, x0.e.at_, rfl, by omega, hide rfl, hide rfl, r2, r12, hE⟩
  case round =>
    obtain ⟨i, lo, hi, rfl, hik, hlo, hhi, q2, q1, hE⟩ := hrel
    by_cases hin : i < k + 1
    · obtain ⟨x, hx⟩ : ∃ x, ds[i]? = some x := ⟨_, List.getElem?_eq_getElem (by rw [← hm.out]; exact hin)⟩
      obtain ⟨g', o', hA', x0', x1', x2'⟩ := dcells_at (h.out.ext hE.out).cells hx
      injection hA' with hA'
      injection hA' with hg ho
      subst hg
      subst ho
      have hst : dcs (ds.take (i + 1)) = dcs (ds.take i) ++ [x.dc] := by rw [List.take_add_one, hx]; unfold dcs; rw [List.map_append]; rfl
      have hlo2 : Hid (min lo x.e.at_ = lowD x0.e.at_ (dcs (ds.take (i + 1)))) := hide (by rw [hst, lowD_app, ← hlo.out]; rfl)
      have hhi2 : Hid (max hi x.e.at_ = highD x0.e.at_ (dcs (ds.take (i + 1)))) := hide (by rw [hst, highD_app, ← hhi.out]; rfl)
      replace hst := hide hst
      replace hx := hide hx
      have hlt2 := q2.out.lt
      have hlt1 := q1.out.lt
      go_wp2_with fail
      obtain ⟨W5, hW5⟩ : ∃ W5, W5 = wr.alloc (Obj.cells #[Value.int IntKind.i64 x.seq, Value.int IntKind.i64 x.e.at_, Value.slice x.A x.e.fs.length x.c] 39) := ⟨_, rfl⟩
      have hE5 : Ext wr W5 := by rw [hW5]; exact (Ext.refl wr).alloc _
      have r5 : Row W5 wr.heap.size 39 #[Value.int IntKind.i64 x.seq, Value.int IntKind.i64 x.e.at_, Value.slice x.A x.e.fs.length x.c] := by rw [hW5]; exact Row.new wr _ _
      obtain ⟨g5, hg5⟩ : ∃ g5, g5 = wr.heap.size := ⟨_, rfl⟩
      rw [← hW5, ← hg5]
      rw [← hg5] at r5
      have p2 := q2.out.ext hE5
      have v2 := p2.cell 2 rfl
      have v3 := p2.cell 3 rfl
      have f2 := p2.free 2
      have f3 := p2.free 3
      have u1 := r5.cell 1 rfl
      have hne : g5 ≠ b2 := by omega
      replace p2 := hide p2
      replace r5 := hide r5
      replace hW5 := hide hW5
      replace hg5 := hide hg5
      clear x0' x1' x2' hlt1 hlt2
      go_region
      have hch : ∀ g t cs, g ≠ b2 → Row W5 g t cs → Row (((W5.setCell ⟨b2, 2, none⟩ (.int .i64 (min lo x.e.at_))).setCell ⟨b2, 3, none⟩ (.int .i64 (max hi x.e.at_))).drew) g t cs := fun g t cs hg hr => (hr.away (p := ⟨b2, 2, none⟩) hg _).away (p := ⟨b2, 3, none⟩) hg _
      have hbw : w.heap.size ≤ b2 := by rw [hb2.out]; exact hE1.size
      have he9 : Ext w (((W5.setCell ⟨b2, 2, none⟩ (.int .i64 (min lo x.e.at_))).setCell ⟨b2, 3, none⟩ (.int .i64 (max hi x.e.at_))).drew) := (((hE.out.trans hE5).setCell (p := ⟨b2, 2, none⟩) hbw _).setCell (p := ⟨b2, 3, none⟩) hbw _).drew
      have p9 : Row (((W5.setCell ⟨b2, 2, none⟩ (.int .i64 (min lo x.e.at_))).setCell ⟨b2, 3, none⟩ (.int .i64 (max hi x.e.at_))).drew) b2 74 #[Value.int IntKind.i64 0, Value.int IntKind.i64 0, Value.int IntKind.i64 (min lo x.e.at_), Value.int IntKind.i64 (max hi x.e.at_), Value.int IntKind.i64 x0.seq, Value.int IntKind.i64 xl.seq, Value.int IntKind.i64 ((k : Int) + 1)] := (p2.out.put 2 _).put 3 _
      have q19 := hch b1 _ _ (by omega) (q1.out.ext hE5)
      replace he9 := hide he9
      replace p9 := hide p9
      replace q19 := hide q19
      go_wp2_with fail
      go_roundw
      case rel => exact ⟨i + 1, _, _, rfl, by omega, hlo2, hhi2, p9, q19, he9⟩
      case measure => simp only [intOf]; omega
    · have hall : ds.take i = ds := List.take_of_length_le (by rw [← hm.out]; omega)
      rw [hall] at hlo hhi
      have v0 := q2.out.cell 0 rfl
      have v1 := q2.out.cell 1 rfl
      have v2 := q2.out.cell 2 rfl
      have v3 := q2.out.cell 3 rfl
      have v4 := q2.out.cell 4 rfl
      have v5 := q2.out.cell 5 rfl
      have v6 := q2.out.cell 6 rfl
      have f0 := q1.out.free 0
      have f1 := q1.out.free 1
      have f2 := q1.out.free 2
      have f3 := q1.out.free 3
      have f4 := q1.out.free 4
      have f5 := q1.out.free 5
      have f6 := q1.out.free 6
      have t0 := q1.out.cell 0 rfl
      have t1 := q1.out.cell 1 rfl
      have t2 := q1.out.cell 2 rfl
      have t3 := q1.out.cell 3 rfl
      have t4 := q1.out.cell 4 rfl
      have t5 := q1.out.cell 5 rfl
      have t6 := q1.out.cell 6 rfl
      go_wp2_with fail
      have hb1w : w.heap.size ≤ b1 := by rw [hb1.out]; exact Nat.le_refl _
      have hrf := ((((((q1.out.put 0 (.int .i64 0)).put 1 (.int .i64 0)).put 2 (.int .i64 lo)).put 3 (.int .i64 hi)).put 4 (.int .i64 x0.seq)).put 5 (.int .i64 xl.seq)).put 6 (.int .i64 ((k : Int) + 1))
      have hEf := ((((((hE.out.setCell (p := ⟨b1, 0, none⟩) hb1w (.int .i64 0)).setCell (p := ⟨b1, 1, none⟩) hb1w (.int .i64 0)).setCell (p := ⟨b1, 2, none⟩) hb1w (.int .i64 lo)).setCell (p := ⟨b1, 3, none⟩) hb1w (.int .i64 hi)).setCell (p := ⟨b1, 4, none⟩) hb1w (.int .i64 x0.seq)).setCell (p := ⟨b1, 5, none⟩) hb1w (.int .i64 xl.seq)).setCell (p := ⟨b1, 6, none⟩) hb1w (.int .i64 ((k : Int) + 1))
      refine bodyPost_ret (results_row1 rfl _ _ b1 #[.int .i64 0, .int .i64 0, .int .i64 lo, .int .i64 hi, .int .i64 x0.seq, .int .i64 xl.seq, .int .i64 ((k : Int) + 1)] rfl (run_loadVar_row _ b1 74 74 _ (0, 0) _ hrf Tryz.underlying74 rfl (by kernel_rfl))) rfl ⟨?_, hEf⟩
      rw [hpart.out, ← hlo.out, ← hhi.out]
      rfl
end Go.Proofs.YtkdcnhnaiknaaaaGreat

/- A range over a function whose iterator runs a loop of its own: the law. (Printed by gen_rgg.py out of XRgF.) -/
namespace Go.Proofs.YtkdcnhnaiknaaaaGreat
open Go.RowKit

/-- As Iter, for an iterator that runs a loop of its own: its steps (St) are told by the world W in which it was called; a round keeps what is no cells. What an iterator promises to a body that never leaves the loop: J goes on through its own steps (St); each round is handed an element of which Nx is known; Kp: what a round keeps; Fin: what it does behind the last. -/
def IterS {α : Type} (P : Program) (gf : Nat) (lb : Array Value) (encs : α → Array Value) (St : World → World → World → Prop) (Nx : List α → α → World → Prop) (Kp : World → World → Prop) (Fin : List α → World → World → Prop) (w : World) : Prop :=
  ∀ (l : Nat) (J : List α → World → Prop) (W : World), Ext w W → (∀ pre A B, J pre A → St W A B → J pre B) →
    (∀ pre x W1, J pre W1 → Nx pre x W1 → YieldAt Fence.wide 0 P l (encs x) W1 fun e W' => e = .returned (.bool true) ∧ J (pre ++ [x]) W' ∧ Kp W1 W' ∧ KeepsOthers W1 W') → J [] W →
    Calls P gf (#[.func (.yield l) #[] #[]] ++ lb) W fun e W' => (∃ v, e = .returned v) ∧ ∃ xs W2, J xs W2 ∧ Fin xs W2 W'
theorem range_allS {α : Type} {P : Program} {g : Operand} {ps : Array Tmp} {assign body : Code} {Q : Exit → Act → World → Prop} {a : Act} {w : World} {gf : Nat} {lb : Array Value}
    (hg : a.eval g = .func (.func gf) #[] lb) (eg : ∀ args w, (callFunc gf args).run P w = .ok (.enter gf args) w)
    {encs : α → Array Value} {St : World → World → World → Prop} {Nx : List α → α → World → Prop} {Kp : World → World → Prop} {Fin : List α → World → World → Prop} (hit : IterS P gf lb encs St Nx Kp Fin w)
    (hps : ∀ x, (encs x).size = ps.size) (hSt : ∀ W A B, St W A B → ∀ k o, k < W.heap.size → A.heap[k]? = some o → o.isCells = false → B.heap[k]? = some o) (hFin : ∀ xs A B, Fin xs A B → KeepsOthers A B)
    (hKt : ∀ A B C, Kp A B → Kp B C → Kp A C) (hKb : ∀ A B, Alike w.heap.size A B → Kp A B)
    (I : List α → World → Prop) (hI : ∀ pre A B, I pre A → Alike w.heap.size A B → I pre B) (hIs : ∀ W pre A B, Ext w W → I pre A → St W A B → I pre B) (h0 : ∀ W, Alike w.heap.size w W → I [] W)
    (hround : ∀ (l : Nat) (pre : List α) (x : α) (W : World), I pre W → Nx pre x W → assign.wpIn (Fence.wide.inRound l) 0 P (Exit.then (roundGo w.heap.size P l body Kp I (pre ++ [x]) W) (fun _ _ _ => False)) { tmps := (ps.zip (encs x)).foldl (fun t (p, v) => t.setIfInBounds p v) a.tmps, defers := [] } W)
    (hdone : ∀ (D : Nat) (xs : List α) (W2 W3 W4 : World), w.heap.size ≤ D → I xs W2 → Fin xs W2 W3 → Alike w.heap.size W3 W4 → W4.heap[D]? = some (.deferred (some [])) → Q .normal { a with defers := { target := .collected D, args := #[] } :: a.defers } W4) :
    (Code.rangeFunc g ps assign body).wpIn Fence.wide 0 P Q a w := by
  refine wpIn_rangeFunc ?_
  intro fn hfn
  show ∃ _, _
  obtain ⟨rec, hrec⟩ : ∃ rec : LoopState → Option Code → Loop, rec = fun st pe => { state := st, pending := pe, fn, tmps := a.tmps, params := ps, assign, body, defers := w.heap.size } := ⟨_, rfl⟩
  obtain ⟨W1, hW1⟩ : ∃ W1, (w.alloc (.deferred (some []))).alloc (.loop (rec .ready none)) = W1 := ⟨_, rfl⟩
  have hL1 : W1.heap[w.heap.size + 1]? = some (.loop (rec .ready none)) := by
    rw [← hW1]; have := World.alloc_heap_new (w.alloc (.deferred (some []))) (.loop (rec .ready none)); rwa [World.size_alloc] at this
  have hK1 : W1.heap[w.heap.size]? = some (.deferred (some [])) := by
    rw [← hW1]; exact (Below.heap_alloc _ _ _ (by simp)).trans (World.alloc_heap_new w _)
  have hE1 : Ext w W1 := by rw [← hW1]; exact ((Ext.refl w).alloc _).alloc _
  refine ⟨w.heap.size + 1, [{ target := .collected w.heap.size, args := #[] }], W1, { target := .fn (.func gf) lb, args := #[.func (.yield (w.heap.size + 1)) #[] #[]] }, W1, gf,
    #[.func (.yield (w.heap.size + 1)) #[] #[]] ++ lb, W1, ?_, ?_, ?_, ?_, fun h => (by cases h), ?_⟩
  · rw [← hW1, hrec]; exact run_enterLoop_outer _ _ _ _ _
  · simp only [resolve, hg]
    simp [go_sem]
  · intro f' _; trivial
  · simp [invoke, go_sem, eg]
  · refine callsIn_wide.2 ((hit (w.heap.size + 1)
      (fun pre W => I pre W ∧ W.heap[w.heap.size + 1]? = some (.loop (rec .ready none)) ∧ W.heap[w.heap.size]? = some (.deferred (some [])))
      W1 hE1 (fun pre A B h hs => ⟨hIs W1 pre A B hE1 h.1 hs, hSt W1 A B hs _ _ (Array.getElem?_eq_some_iff.1 hL1).1 h.2.1 rfl, hSt W1 A B hs _ _ (Array.getElem?_eq_some_iff.1 hK1).1 h.2.2 rfl⟩)
      ?_ ⟨h0 W1 (Chg.of_ext hE1 _), hL1, hK1⟩).mono ?_)
    · rintro pre x W ⟨hi, hl, hk⟩ hnx
      have hlt : w.heap.size + 1 < W.heap.size := (Array.getElem?_eq_some_iff.1 hl).1
      have hy := run_yield (P := P) (args := encs x) hl (by rw [hrec]; exact hps x)
      rw [hrec] at hy
      refine ⟨fn, _, assign, body, hy, roundIn_of_wpIn hfn ?_⟩
      refine wpIn_mono (hround _ pre x W hi hnx) ?_
      rintro e a1 W2 hq
      cases e with
      | normal =>
        obtain ⟨hko, hkp, hbody⟩ := hq
        have hl2 := hko.same _ _ hl rfl
        have hk2 := hko.same _ _ hk rfl
        have hlt2 : w.heap.size + 1 < W2.heap.size := (Array.getElem?_eq_some_iff.1 hl2).1
        refine ⟨W2.putObj (w.heap.size + 1) (.loop { rec .ready none with state := .busy }), run_beginRound hl2 (by rw [hrec]), ?_⟩
        have ha := Alike.others (B := w.heap.size) hl2 rfl (by omega) (.loop { rec .ready none with state := .busy })
        have hl3 : (W2.putObj (w.heap.size + 1) (.loop { rec .ready none with state := .busy })).heap[w.heap.size + 1]? = some (.loop { rec .ready none with state := .busy }) := World.putObj_heap_same hlt2
        have hk3 : (W2.putObj (w.heap.size + 1) (.loop { rec .ready none with state := .busy })).heap[w.heap.size]? = some (.deferred (some [])) := (World.putObj_heap_other (by omega)).trans hk2
        refine wpIn_mono (hbody _ ha) ?_
        rintro e a3 W3 hp
        cases e with
        | normal =>
          obtain ⟨hko3, hkp3, hi3⟩ := hp
          have hl4 := hko3.same _ _ hl3 rfl
          have hk4 := hko3.same _ _ hk3 rfl
          have hr := run_endRound (P := P) none hl4
          rw [hrec] at hr
          have ha2 := Alike.others (B := w.heap.size) hl4 rfl (by omega) (.loop (rec .ready none))
          rw [hrec] at ha2
          refine ⟨_, _, hr, rfl, ⟨hI _ _ _ hi3 ha2, ?_, ?_⟩, hKt _ _ _ (hKt _ _ _ hkp (hKb _ _ ha)) (hKt _ _ _ hkp3 (hKb _ _ ha2)), ?_⟩
          · rw [hrec]; exact World.putObj_heap_same (Array.getElem?_eq_some_iff.1 hl4).1
          · exact (World.putObj_heap_other (by omega)).trans hk4
          · refine ⟨Nat.le_trans hko.size (Nat.le_trans ha.size (Nat.le_trans hko3.size ha2.size)), fun q o ho hc => ?_⟩
            by_cases hq : q = w.heap.size + 1
            · subst hq
              rw [hl, hrec] at ho
              rw [← ho]
              exact World.putObj_heap_same (Array.getElem?_eq_some_iff.1 hl4).1
            · refine (World.putObj_heap_other hq).trans (hko3.same q o ?_ hc)
              exact (World.putObj_heap_other hq).trans (hko.same q o ho hc)
        | ret => exact hp.elim
        | exit id => exact hp.elim
        | goto t => exact hp.elim
        | panic ch => exact hp.elim
        | outgrown => exact hp.elim
      | ret => exact hq.elim
      | exit id => exact hq.elim
      | goto t => exact hq.elim
      | panic ch => exact hq.elim
      | outgrown => exact hq.elim
    · rintro e W2 ⟨⟨v, rfl⟩, xs, W3, ⟨hi, hl, hk⟩, hf⟩
      have hl2 := (hFin _ _ _ hf).same _ _ hl rfl
      have hk2 := (hFin _ _ _ hf).same _ _ hk rfl
      refine ⟨none, _, by have := run_endLoop (P := P) hl2 (by rw [hrec]; simp); rw [hrec] at this; exact this, hdone _ xs W3 W2 _ (Nat.le_refl _) hi hf ?_ ((World.putObj_heap_other (by omega)).trans hk2)⟩
      rw [hrec] at hl2
      exact Alike.others hl2 rfl (by omega) _
end Go.Proofs.YtkdcnhnaiknaaaaGreat

/- loggia/event: Terms. -/
namespace Go.Proofs.YtkdcnhnaiknaaaaGreat
open Go.RowKit
attribute [local go_sem] Oper.semAt_some wide_depth wide_fn

def NewTm (w : World) (R : List (List UInt8 × List Int)) (e : Ending) (w' : World) : Prop :=
  ∃ L c D, e = .returned (.slice L D.length c) ∧ w'.ownsRow w.heap.size 150 2 (.slice L D.length c) D.length (tcs D) ∧ TmsOk w' w.heap.size D R ∧ Ext w w'
set_option maxRecDepth 100000 in
set_option maxHeartbeats 4000000 in
theorem terms_any (e : Ev) (A : Option Addr) (c : Nat) (w : World) (h : e.Ok w A) :
    Calls Tryz.prog 80 #[e.val A c] w (NewTm w (termsL e)) := by
  have hck := hide (fun W (hE : Ext w W) => echeck_any e A c W (h.ext hE))
  have htm : termsL e = if checkE e.fs = 0 then grp (rawT 0 e.fs) else [] := rfl
  have hfs := @checkE_fs e.fs
  obtain ⟨T, hT⟩ : ∃ T, T = termsL e := ⟨_, rfl⟩
  rw [← hT] at htm ⊢
  obtain ⟨at_, fs⟩ := e
  have hcl := h.cells
  unfold Ev.val at hck ⊢
  simp only at htm hck hfs hcl ⊢
  obtain ⟨z, hz⟩ : ∃ z, z = checkE fs := ⟨_, rfl⟩
  rw [← hz] at htm hck hfs
  obtain ⟨n, hn⟩ : ∃ n, n = fs.length := ⟨_, rfl⟩
  rw [← hn] at hck hfs ⊢
  replace htm := hide htm
  replace hfs := hide hfs
  replace hcl := hide hcl
  replace hz := hide hz
  replace hn := hide hn
  clear h hT
  refine (callsIn_wide (n := 0)).1 ?_
  refine callsIn_of_wp_marks Tryz.func80 rfl trivial ?_
  simp only [Tryz.ntmps80, List.size_toArray, List.length_cons, List.length_nil, Nat.reduceAdd, Nat.reduceSub, Array.replicate_succ, Array.replicate_zero, List.push_toArray, List.append_toArray, List.nil_append, List.cons_append]
  gi_wp2_with fail
  obtain ⟨W0, hW0⟩ : ∃ W0, W0 = w.alloc (Obj.cells #[.int .i64 at_, .slice A n c] 37) := ⟨_, rfl⟩
  rw [← hW0]
  have hE0 : Ext w W0 := by rw [hW0]; exact (Ext.refl w).alloc _
  refine (callsIn_wide.2 (hck.out W0 hE0)).mono ?_
  rintro e w1 ⟨rfl, hE1⟩
  have r0 : Row w1 w.heap.size 37 #[.int .i64 at_, .slice A n c] := by
    refine Row.ext ?_ hE1
    rw [hW0]; exact Row.new w _ _
  have k0 := r0.cell 0 rfl
  have k1 := r0.cell 1 rfl
  replace hE1 := hide (hE0.trans hE1)
  replace r0 := hide r0
  replace hW0 := hide hW0
  clear hE0 hck
  by_cases hz0 : z = 0
  · obtain ⟨hn16, hfl⟩ := hfs.out hz0
    subst hz0
    have hT := htm.out
    rw [if_pos rfl] at hT
    replace hT := hide hT
    have hlt0 := r0.out.lt
    gi_wp2_with fail
    obtain ⟨W2, hW2⟩ : ∃ W2, W2 = w1.alloc (Obj.cells #[Value.slice none 0 0] 148) := ⟨_, rfl⟩
    rw [← hW2]
    obtain ⟨h1, hh1⟩ : ∃ h1, h1 = w1.heap.size := ⟨_, rfl⟩
    have q1 : Row W2 h1 148 #[.slice none 0 0] := by rw [hW2, hh1]; exact Row.new w1 _ _
    have hE2 : Ext w1 W2 := by rw [hW2]; exact (Ext.refl w1).alloc _
    rw [← hh1]
    replace hW2 := hide hW2
    replace hh1 := hide hh1
    refine (callsIn_wide.2 (based_any at_ A n c W2)).mono ?_
    rintro e w4 ⟨b0, rfl, rb0, hb0, hE4⟩
    have hEw : Ext w w4 := (hE1.out.trans hE2).trans hE4
    have hP4 : TI w.heap.size h1 [] w w4 := ⟨none, 0, [], q1.ext hE4, World.ownsRow_nil _ _ _ _, TmsOk.nil _ _, hEw⟩
    have hwsz : w.heap.size ≤ w4.heap.size := hEw.size
    have hit := based_iter at_ fs A n c b0 w.heap.size w w4 hn.out hcl.out (Nat.le_refl _) hEw (by omega) (fun f hf => by have := hfl f hf; omega) rb0
    have hh1w : w.heap.size ≤ h1 := by rw [hh1.out]; exact hE1.out.size
    replace hP4 := hide hP4
    replace hit := hide hit
    clear q1 hE2 hE4 rb0
    gi_wp2_with fail
    unfold BsIter at hit
    have hbt : ∀ b, baseT 0 (fs.take b) ≤ 1000000000 := fun b => by
      have := baseT_le (k := 4096) (fs.take b) 0 (fun f hf => (hfl f (List.mem_of_mem_take hf)).2)
      have h2 : (fs.take b).length ≤ 16 := by rw [List.length_take, ← hn.out]; omega
      omega
    replace hbt := hide hbt
    refine range_all (gf := 175) (lb := #[.pointer (some ⟨b0, 0, none⟩)]) rfl (enters_of Tryz.func175 (by kernel_rfl) rfl) hit.out (fun _ => rfl) (fun _ _ h => h.others) (fun _ _ _ h => h.2.others) (KpT.trans w.heap.size) (KpT.alike hwsz)
      (fun pre W => TI w.heap.size h1 (rawT 0 (fs.take pre.length)) w W) (fun pre A B hi ha => hi.alike ha hwsz) (fun pre A B hi hE => hi.ext hE) ?h0 ?hround ?hdone
    case h0 =>
      intro W ha
      have := hP4.out.alike ha hwsz
      simpa [rawT] using this
    case hround =>
      rintro l pre ⟨bs, nm, tx⟩ W hI ⟨hf, hbs⟩
      simp only at hf hbs
      unfold fdV
      simp only
      have hft := hfl _ (List.mem_of_getElem? hf)
      simp only at hft
      have hbs9 := hbt.out pre.length
      rw [← hbs] at hbs9
      have htl := tokL_len tx
      have hraw : rawT 0 (fs.take (pre ++ [(bs, nm, tx)]).length) = rawT 0 (fs.take pre.length) ++ fieldT bs (nm, tx) := by
        rw [List.length_append, List.length_singleton, List.take_add_one, hf, rawT_app, ← hbs]
        simp [rawT]
      obtain ⟨Z, hZ⟩ : ∃ Z, Z = rawT 0 (fs.take pre.length) := ⟨_, rfl⟩
      rw [← hZ] at hI hraw
      obtain ⟨Y, hY⟩ : ∃ Y, Y = fieldT bs (nm, tx) := ⟨_, rfl⟩
      rw [← hY] at hraw
      have hZl : Z.length ≤ 65536 := by
        have := rawT_len (k := 4096) (fs.take pre.length) 0 (fun f hf => (hfl f (List.mem_of_mem_take hf)).2)
        have h2 : (fs.take pre.length).length ≤ 16 := by rw [List.length_take, ← hn.out]; omega
        rw [hZ]; omega
      clear hZ hbs hf
      replace hraw := hide hraw
      obtain ⟨nt, hnt⟩ : ∃ nt, nt = (tokL tx).length := ⟨_, rfl⟩
      obtain ⟨W5, hW5⟩ : ∃ W5, W5 = W.alloc (Obj.cells #[.string ⟨nm.toArray⟩, .string ⟨tx.toArray⟩] 105) := ⟨_, rfl⟩
      have hE5 : Ext W W5 := by rw [hW5]; exact (Ext.refl W).alloc _
      have q5 : Row W5 W.heap.size 105 #[.string ⟨nm.toArray⟩, .string ⟨tx.toArray⟩] := by rw [hW5]; exact Row.new W _ _
      have htk := hide (fun W => tokens_any tx W (by omega))
      rw [← hnt] at htl
      replace hnt := hide hnt
      replace hY := hide hY
      replace hI := hide hI
      gi_wp2_with fail
      rw [← hW5]
      obtain ⟨g5, hg5⟩ : ∃ g5, g5 = W.heap.size := ⟨_, rfl⟩
      rw [← hg5] at q5 ⊢
      refine ⟨hE5.others, KpT.ext hE5, fun W6 hA6 => ?_⟩
      have hI6 := (hI.out.ext hE5).alike hA6 hwsz
      have r6 := hA6.row q5
      have y0 := r6.cell 0 rfl
      have y1 := r6.cell 1 rfl
      replace hI6 := hide hI6
      replace hW5 := hide hW5
      replace hg5 := hide hg5
      clear hI q5 hE5 hA6
      gi_wp2_with fail
      refine (in_round (htk.out W6)).mono ?_
      rintro e w7 ⟨A7, c7, rfl, ho7, hE7⟩
      rw [← hnt.out] at ho7 ⊢
      have hI7 := hide (hI6.out.ext hE7)
      have htat := hide (fun (W : World) (h : KpT w.heap.size w7 W) (i : Nat) (x : List UInt8) (hx : (tokL tx)[i]? = some x) => tk_at ho7 (w1 := W) (fun g cs hr => h.2 g _ cs (by decide) (by decide) hr) hx)
      replace ho7 := hide ho7
      have r7 := hide (r6.ext hE7)
      clear y0 y1 hI6
      gi_wp2_with fail
      gi_loopw [23] (fun s23 wr => ∃ (i : Nat), s23 = .int .i64 (i : Int) ∧ i ≤ nt ∧ Hid (TI w.heap.size h1 (Z ++ Y.take i) w wr) ∧ Hid (KpT w.heap.size w7 wr) ∧ Hid (KeepsOthers w7 wr)) (fun s23 _ => nt - (intOf s23).toNat)
      case atStart => exact ⟨0, rfl, by omega, by rw [List.take_zero, List.append_nil]; exact hI7, hide (KpT.ext (Ext.refl _)), hide (KeepsOthers.refl _)⟩
      case round =>
        obtain ⟨i, rfl, hi, hT1, hK1, hO1⟩ := hrel
        by_cases hin : i < nt
        · obtain ⟨wd, hwd⟩ : ∃ wd, (tokL tx)[i]? = some wd := ⟨_, List.getElem?_eq_getElem (by rw [← hnt.out]; exact hin)⟩
          obtain ⟨g7, o7, hA7, x0, x1⟩ := htat.out wr hK1.out i wd hwd
          subst hA7
          obtain ⟨L, cl, D, r3, hown, htm1, hEr⟩ := hT1.out
          have r5 := hK1.out.2 _ _ _ (by decide) (by decide) r7.out
          have z0 := r5.cell 0 rfl
          have z3 := r3.cell 0 rfl
          have hlt3 := r3.lt
          have hlt5 := r5.lt
          replace r3 := hide r3
          replace r5 := hide r5
          replace hown := hide hown
          replace htm1 := hide htm1
          replace hEr := hide hEr
          have hmx : D.length ≤ 100000 := by
            have := htm1.out.len
            unfold oneT at this
            rw [List.length_map, List.length_append, List.length_take] at this
            omega
          have hYi : Y[i]? = some (nm ++ 58 :: wd, ((bs + i : Nat) : Int)) := by rw [hY.out]; exact fieldT_at hwd
          replace hYi := hide hYi
          have hwl := tokL_each (List.mem_of_getElem? hwd)
          replace hwd := hide hwd
          have hZY : (Z ++ Y.take (i + 1)) = (Z ++ Y.take i) ++ [(nm ++ 58 :: wd, ((bs + i : Nat) : Int))] := by rw [List.take_add_one, hYi.out, List.append_assoc]; rfl
          replace hZY := hide hZY
          obtain ⟨S, hS⟩ : ∃ S, S = nm ++ 58 :: wd := ⟨_, rfl⟩
          have hcat : ByteArray.mk nm.toArray ++ ByteArray.mk #[58] ++ ByteArray.mk wd.toArray = ⟨S.toArray⟩ := by
            have h1 := cat_by nm [58]
            have h2 := cat_by (nm ++ [58]) wd
            rw [hS, h1, h2]
            simp
          obtain ⟨Wb, hWb⟩ : ∃ Wb, Wb = (wr.alloc (Obj.cells #[Value.string ⟨wd.toArray⟩, Value.int IntKind.i64 (i : Int)] 123)).alloc (Obj.cells #[Value.int IntKind.i64 ((bs : Int) + (i : Int))] 3) := ⟨_, rfl⟩
          obtain ⟨Wa, hWa⟩ : ∃ Wa, Wa = Wb.alloc (Obj.cells #[Value.string ⟨S.toArray⟩, Value.slice (some ⟨wr.heap.size + 1, 0, none⟩) 1 1] 150) := ⟨_, rfl⟩
          have hEb : Ext wr Wb := by rw [hWb]; exact ((Ext.refl wr).alloc _).alloc _
          have hszb : Wb.heap.size = wr.heap.size + 2 := by rw [hWb]; simp
          have hEa : Ext wr Wa := by rw [hWa]; exact hEb.alloc _
          have qi : Row Wb (wr.heap.size + 1) 3 #[Value.int IntKind.i64 ((bs : Int) + (i : Int))] := by
            rw [hWb]
            have := Row.new (wr.alloc (Obj.cells #[Value.string ⟨wd.toArray⟩, Value.int IntKind.i64 (i : Int)] 123)) 3 #[Value.int IntKind.i64 ((bs : Int) + (i : Int))]
            rwa [World.size_alloc] at this
          have qi2 : Row Wa (wr.heap.size + 1) 3 #[Value.int IntKind.i64 ((bs : Int) + (i : Int))] := by rw [hWa]; exact qi.alloc _
          have hxa : Cells Wa (some ⟨wr.heap.size + 2, 0, none⟩) (tcell (S, some ⟨wr.heap.size + 1, 0, none⟩, 1, 1)) := by
            have := new_cells Wb [Value.string ⟨S.toArray⟩, Value.slice (some ⟨wr.heap.size + 1, 0, none⟩) 1 1] 150
            rw [hszb] at this
            rw [hWa]; exact this
          have howa := hEa.owns hown.out
          have hsza : w.heap.size ≤ Wa.heap.size := (hEr.out.trans hEa).size
          replace qi2 := hide qi2
          replace hxa := hide hxa
          replace howa := hide howa
          replace hEa := hide hEa
          have hWa2 : Hid (((wr.alloc (Obj.cells #[Value.string ⟨wd.toArray⟩, Value.int IntKind.i64 (i : Int)] 123)).alloc (Obj.cells #[Value.int IntKind.i64 ((bs : Int) + (i : Int))] 3)).alloc (Obj.cells #[Value.string (ByteArray.mk nm.toArray ++ ByteArray.mk #[58] ++ ByteArray.mk wd.toArray), Value.slice (some ⟨wr.heap.size + 1, 0, none⟩) 1 1] 150) = Wa) := hide (by rw [hWa, hWb, hcat])
          replace hWa := hide hWa
          replace hWb := hide hWb
          replace hcat := hide hcat
          clear qi hEb hszb
          have ogr := hide (fun (w6 : World) (hg6 : Wa.grownBy w6 (Value.slice L D.length cl).ownBlock) => og_row howa.out hg6 (r3.out.ext hEa.out) (by decide))
          gi_wp2_with (gi_at_builtin; rw [hWa2.out]; refine wpListIn_app elemTm howa.out hxa.out (.tmp 27) (.tmp 40) rfl rfl rfl rfl rfl rfl (by simp [tcell, Value.oneCell']) (by omega) hsza (fun A1 c1 w6 ho6 hg6 hl6 => ?_); have r16 := ogr.out w6 hg6; have u1 := r16.cell 0 rfl; have u2 := r16.free 0; replace r16 := hide r16; replace ho6 := hide ho6; replace hg6 := hide hg6; replace hl6 := hide hl6)
          have hxt : ∀ w0 : World, w0.heap.size ≤ w.heap.size → Ext w0 wr → Ext w0 (w6.setCell ⟨h1, 0, none⟩ (.slice A1 (D.length + 1) c1)) := fun w0 h0 hE => (og_ext howa.out hg6.out (hE.trans hEa.out) h0).setCell (p := ⟨h1, 0, none⟩) (by show w0.heap.size ≤ h1; omega) _
          have hbk : ∀ A n c xs, Buf wr w.heap.size 3 A n c xs → Buf (w6.setCell ⟨h1, 0, none⟩ (.slice A1 (D.length + 1) c1)) w.heap.size 3 A n c xs := fun A n c xs hb => by
            have q := og_buf howa.out hg6.out (hb.ext hEa.out) (by decide)
            exact q.setCell (q.unlike r16.out (by decide)) _
          have hbn : Buf (w6.setCell ⟨h1, 0, none⟩ (.slice A1 (D.length + 1) c1)) w.heap.size 3 (some ⟨wr.heap.size + 1, 0, none⟩) 1 1 ([((bs + i : Nat) : Int)].map IV) := by
            have q0 : Buf Wa w.heap.size 3 (some ⟨wr.heap.size + 1, 0, none⟩) 1 1 ([((bs + i : Nat) : Int)].map IV) := ⟨rfl, Nat.le_refl _, .inr ⟨_, _, rfl, by have := hEr.out.size; omega, qi2.out, by simp, by simp [IV]⟩⟩
            have q := og_buf howa.out hg6.out q0 (by decide)
            exact q.setCell (q.unlike r16.out (by decide)) _
          have hrk : ∀ g t cs, t ≠ 148 → t ≠ 150 → Row wr g t cs → Row (w6.setCell ⟨h1, 0, none⟩ (.slice A1 (D.length + 1) c1)) g t cs := fun g t cs n1 n2 hr => by
            have q := og_row howa.out hg6.out (hr.ext hEa.out) n2
            exact q.away (q.unlike r16.out n1) _
          have how : (w6.setCell ⟨h1, 0, none⟩ (.slice A1 (D.length + 1) c1)).ownsRow w.heap.size 150 2 (.slice A1 (D.length + 1) c1) (D.length + 1) (tcs D ++ tcell (S, some ⟨wr.heap.size + 1, 0, none⟩, 1, 1)) :=
            (Chg.of_set (S := fun k => k = h1) w6 _ rfl).owns ho6.out fun g hg hgk => by
              obtain ⟨cur, hc, _⟩ := owns_row ho6.out hg
              exact hc.unlike r16.out (by decide) hgk
          have hdl : (D ++ [(S, (some ⟨wr.heap.size + 1, 0, none⟩ : Option Addr), 1, 1)]).length = D.length + 1 := by rw [List.length_append]; rfl
          refine ⟨⟨i + 1, by first | rfl | (congr 1; omega), by omega, hide ⟨A1, c1, D ++ [(S, some ⟨wr.heap.size + 1, 0, none⟩, 1, 1)], ?_, ?_, ?_, hxt w (Nat.le_refl _) hEr.out⟩, hide (KpT.trans _ _ _ _ hK1.out ⟨hxt, hrk⟩), hide (hO1.out.trans ((hEa.out.others.trans (og_others howa.out hg6.out)).trans (KeepsOthers.setCell _ _ _)))⟩, by simp only [intOf]; omega⟩
          · rw [hdl]; exact r16.out.put 0 _
          · rw [hdl, tcs_snoc]; exact how
          · rw [hZY.out, oneT_snoc]
            exact htm1.out.snoc hbk hS hbn (fun a ha => by cases ha; show wr.heap.size ≤ wr.heap.size + 1; omega)
        · have hYt : Y.take i = Y := by
            rw [List.take_of_length_le]
            rw [hY.out, fieldT_len, ← hnt.out]; omega
          rw [hYt, ← hraw.out] at hT1
          gi_wp2_with fail
          exact ⟨(hE7.others).trans hO1.out, KpT.trans _ _ _ _ (KpT.ext hE7) hK1.out, hT1.out⟩
    case hdone =>
      rintro Dm xs W2' W3 W4 hD hI ⟨hF1, hF2⟩ hAl hk
      have hI4 := (hI.ext hF2).alike hAl hwsz
      rw [hF1, List.take_length] at hI4
      obtain ⟨L, cl, D, r3, hown, htm4, hE4⟩ := hI4
      have hDl : D.length ≤ 65536 := by
        have h1 := htm4.len
        have h2 := rawT_len (k := 4096) fs 0 (fun f hf => (hfl f hf).2)
        unfold oneT at h1
        rw [List.length_map] at h1
        rw [← hn.out] at h2
        omega
      obtain ⟨hTZ, hone, hDZ⟩ := htm4.tz
      have hsort := sortTm_any w.heap.size L D.length cl D W4 hown rfl (by omega)
      unfold cmpV at hsort
      obtain ⟨n4, hn4⟩ : ∃ n4, n4 = D.length := ⟨_, rfl⟩
      rw [← hn4] at hsort hDl hown r3
      have z3 := r3.cell 0 rfl
      have hwsz4 := hE4.size
      replace hsort := hide hsort
      replace r3 := hide r3
      replace hown := hide hown
      replace hTZ := hide hTZ
      replace hone := hide hone
      replace hDZ := hide hDZ
      replace hE4 := hide hE4
      replace hk := hide hk
      replace hn4 := hide hn4
      clear hI hF1 hF2 hAl htm4
      gi_wp2_with fail
      refine (callsIn_wide.2 hsort.out).mono ?_
      rintro e w5 ⟨rfl, E, hStd, hg5, hC5⟩
      have hnt5 : ∀ g t cs, t ≠ 150 → Row W4 g t cs → Row w5 g t cs := fun g t cs ht hr => hC5.row hr fun hg => by
        obtain ⟨cur, hc, _⟩ := owns_row hown.out hg
        exact hr.unlike hc ht rfl
      have hb5 : ∀ A n c xs, Buf W4 w.heap.size 3 A n c xs → Buf w5 w.heap.size 3 A n c xs := fun A n c xs hb => hb.chg hC5 fun a ha hg => by
        obtain ⟨cur, hc, _⟩ := owns_row hown.out hg
        exact hb.unlike hc (by decide) a ha rfl
      have hE5 : Ext w w5 := hE4.out.chg hC5 fun i hi hg => by
        obtain ⟨_, _, hl⟩ := owns_row hown.out hg
        omega
      have hO5 : KeepsOthers W4 w5 := ⟨hC5.size, fun k o hk hno => by
        refine (hC5.block k (Array.getElem?_eq_some_iff.1 hk).1 fun hg => ?_).trans hk
        obtain ⟨cur, hc, _⟩ := owns_row hown.out hg
        unfold Row at hc
        rw [hc] at hk
        injection hk with hk
        subst hk
        cases hno⟩
      have hk5 := hide (hO5.same _ _ hk.out rfl)
      have r35 := hnt5 _ _ _ (by decide) r3.out
      have z35 := r35.cell 0 rfl
      have hEl : E.length = n4 := by rw [hn4.out]; exact hStd.2.len
      have hperm := hStd.2.perm
      have hT5 : TZ w5 w.heap.size (E.map fun x => (x, (x.1, ptsOf W4 x.2))) := (hTZ.out.perm (hperm.map _)).keep hb5
      have hone5 : ∀ x ∈ E, ptsOf W4 x.2 = [(ptsOf W4 x.2).headD 0] := fun x hx => hone.out x (hperm.mem_iff.1 hx)
      have hgrp : (E.map fun x => (x.1, (ptsOf W4 x.2).headD 0)).foldl joinS [] = T := by
        have h1 := (hStd.stabM fun x => (ptsOf W4 x).headD 0).grp
        rw [h1, hDZ.out]
        exact hT.out.symm
      have hEZl : (E.map fun x => (x.1, (ptsOf W4 x.2).headD 0)).length = n4 := by rw [List.length_map, hEl]
      obtain ⟨b5, hb5'⟩ : ∃ b5, b5 = w5.heap.size := ⟨_, rfl⟩
      have hwb5 : w.heap.size ≤ b5 := by rw [hb5']; exact hE5.size
      replace hT5 := hide hT5
      replace hone5 := hide hone5
      replace hgrp := hide hgrp
      replace hEl := hide hEl
      replace hEZl := hide hEZl
      replace hE5 := hide hE5
      replace hg5 := hide hg5
      replace r35 := hide r35
      replace hb5' := hide hb5'
      clear hC5 hnt5 hb5 hO5 hStd hperm hsort hTZ hone hDZ hk hwsz4
      gi_wp2_with fail
      gi_loopw [8, 47] (fun s8 s47 wr => ∃ (i m c : Nat) (O : Option Addr) (P : List TmP), s47 = .int .i64 (i : Int) ∧ s8 = .slice O m c ∧ i ≤ n4 ∧ m ≤ i ∧ Hid (m = P.length) ∧ Hid (wr.ownsRow b5 150 2 (.slice O m c) m (tcs (P.map Prod.fst))) ∧ Hid (P.map Prod.snd = ((E.map fun x => (x.1, (ptsOf W4 x.2).headD 0)).take i).foldl joinS []) ∧ Hid (TZ wr w.heap.size (P ++ (E.map fun x => (x, (x.1, ptsOf W4 x.2))).drop i)) ∧ Hid (Ext w wr) ∧ Hid (∀ g cs, g < b5 → Row w5 g 150 cs → Row wr g 150 cs) ∧ Hid (KeepsOthers w5 wr) ∧ b5 ≤ wr.heap.size) (fun _ s47 _ => n4 - (intOf s47).toNat)
      case atStart => exact ⟨0, 0, 0, none, [], rfl, rfl, by omega, by omega, hide rfl, hide (World.ownsRow_nil _ _ _ _), hide rfl, hide (by rw [List.drop_zero]; exact hT5.out), hE5, hide (fun _ _ _ h => h), hide (KeepsOthers.refl _), by rw [hb5'.out]; exact Nat.le_refl _⟩
      case round =>
        obtain ⟨i, m, c, O, P, rfl, rfl, hi, hmi, hmP, hoP, hPj, hTP, hEr, hgr, hor, hbr⟩ := hrel
        by_cases hin : i < n4
        · obtain ⟨⟨ys, yA, yn, yc⟩, hy⟩ : ∃ y, E[i]? = some y := ⟨_, List.getElem?_eq_getElem (by rw [hEl.out]; exact hin)⟩
          obtain ⟨g, hL, hgb, cs, hrow, hcs⟩ := hg5.out (by omega)
          subst hL
          have hrow2 := hgr.out g cs (by rw [hb5'.out]; exact hrow.lt) hrow
          obtain ⟨x0, x1⟩ := TR.at_ (w := wr) (g := g) (D := E) ⟨cs, hrow2, hcs⟩ hy
          simp only at x0 x1
          obtain ⟨yz, hyz⟩ : ∃ yz, yz = (ptsOf W4 (yA, yn, yc)).headD 0 := ⟨_, rfl⟩
          have hyp : ptsOf W4 (yA, yn, yc) = [yz] := by rw [hyz]; exact hone5.out _ (List.mem_of_getElem? hy)
          have hdr : (E.map fun x => (x, (x.1, ptsOf W4 x.2))).drop i = ((ys, yA, yn, yc), (ys, [yz])) :: (E.map fun x => (x, (x.1, ptsOf W4 x.2))).drop (i + 1) := by
            rw [List.drop_eq_getElem_cons (by rw [List.length_map, hEl.out]; exact hin), List.getElem_map]
            have := (List.getElem?_eq_some_iff.1 hy).2
            rw [this]
            simp only [hyp]
          have htk : ((E.map fun x => (x.1, (ptsOf W4 x.2).headD 0)).take (i + 1)).foldl joinS [] = joinS (((E.map fun x => (x.1, (ptsOf W4 x.2).headD 0)).take i).foldl joinS []) (ys, yz) := by
            rw [List.take_add_one, List.foldl_append, List.getElem?_map, hy, hyz]
            rfl
          rw [hdr] at hTP
          rw [← hPj.out] at htk
          obtain ⟨R, hR⟩ : ∃ R, R = (E.map fun x => (x, (x.1, ptsOf W4 x.2))).drop (i + 1) := ⟨_, rfl⟩
          rw [← hR] at hTP
          have hPle : ∀ z ∈ P.map Prod.snd, z.2.length ≤ i := fun z hz => by
            rw [hPj.out] at hz
            have := foldS_le _ [] 0 nofun z hz
            rw [List.length_take] at this
            omega
          replace hPle := hide hPle
          replace hR := hide hR
          replace htk := hide htk
          replace hy := hide hy
          replace hrow2 := hide hrow2
          clear hdr hyz hyp hrow hcs hPj
          rcases List.eq_nil_or_concat P with hP0 | ⟨P0, x, hP0⟩
          · have hm0 : m = 0 := by rw [hmP.out, hP0]; rfl
            subst hm0
            have hnew : Hid (joinS (P.map Prod.snd) (ys, yz) = P.map Prod.snd ++ [(ys, [yz])]) := hide (by rw [hP0]; rfl)
            replace hP0 := hide hP0
            gi_wp2_with fail
            obtain ⟨W6, hW6⟩ : ∃ W6, W6 = wr.alloc (Obj.cells #[Value.string ⟨ys.toArray⟩, Value.slice yA yn yc] 150) := ⟨_, rfl⟩
            rw [← hW6]
            obtain ⟨g6, hg6⟩ : ∃ g6, g6 = wr.heap.size := ⟨_, rfl⟩
            have r6 : Row W6 g6 150 #[Value.string ⟨ys.toArray⟩, Value.slice yA yn yc] := by rw [hW6, hg6]; exact Row.new wr _ _
            rw [← hg6]
            have hE6 : Ext wr W6 := by rw [hW6]; exact (Ext.refl wr).alloc _
            have t0 := r6.cell 0 rfl
            have t1 := r6.cell 1 rfl
            replace r6 := hide r6
            replace hE6 := hide hE6
            replace hW6 := hide hW6
            replace hg6 := hide hg6
            refine wpIn_wide.2 (wp_region_text follows (by kernel_rfl) (by kernel_rfl) (fun K hK => ?_))
            go_wp2_with fail
            refine ⟨by kernel_rfl, ?_⟩
            obtain ⟨W7, hW7⟩ : ∃ W7, W7 = (W6.alloc (Obj.cells #[Value.string ⟨ys.toArray⟩, Value.slice yA yn yc] 150)).drew := ⟨_, rfl⟩
            have hE7 : Ext wr W7 := by rw [hW7]; exact (hE6.out.alloc _).drew
            have ho7 := hE7.owns hoP.out
            have hx7 : Cells W7 (some ⟨W6.heap.size, 0, none⟩) (tcell (ys, yA, yn, yc)) := by rw [hW7]; exact new_cells W6 [Value.string ⟨ys.toArray⟩, Value.slice yA yn yc] _
            have hb7 : b5 ≤ W7.heap.size := Nat.le_trans hbr hE7.size
            replace hE7 := hide hE7
            replace ho7 := hide ho7
            replace hx7 := hide hx7
            replace hW7 := hide hW7
            gi_wp2_with (gi_at_builtin; rw [← hW7.out]; refine wpListIn_app elemTm ho7.out hx7.out (.tmp 78) (.tmp 80) rfl rfl rfl rfl rfl rfl (by simp [tcell, Value.oneCell']) (by omega) hb7 (fun A1 c1 w8 ho8 hg8 hl8 => ?_); replace ho8 := hide ho8; replace hg8 := hide hg8; replace hl8 := hide hl8)
            have hrow8 : ∀ g cs, g < b5 → Row wr g 150 cs → Row w8 g 150 cs := fun g cs hlt hr => (hr.ext hE7.out).grown hg8.out fun h => by obtain ⟨_, _, hl⟩ := owns_row ho7.out h.symm; omega
            refine ⟨⟨i + 1, _, c1, A1, P ++ [((ys, yA, yn, yc), (ys, [yz]))], by first | rfl | (congr 1; omega), rfl, by omega, by omega, hide (by rw [List.length_append, ← hmP.out]; rfl), hide ?_, hide ?_, hide ?_, hide (og_ext ho7.out hg8.out (hEr.out.trans hE7.out) hwb5), hide (fun g cs hlt hr => hrow8 g cs hlt (hgr.out g cs hlt hr)), hide (hor.out.trans (hE7.out.others.trans (og_others ho7.out hg8.out))), Nat.le_trans hb7 hg8.out.size⟩, by simp only [intOf]; omega⟩
            · rw [List.map_append, List.map_singleton, tcs_snoc]; exact ho8.out
            · rw [htk.out, hnew.out, List.map_append, List.map_singleton]
            · rw [List.append_assoc, ← hR.out]
              exact hTP.out.keep fun A n c xs hb => og_buf ho7.out hg8.out (hb.ext hE7.out) (by decide)
          · rw [List.concat_eq_append] at hP0
            have hm1 : m = P0.length + 1 := by rw [hmP.out, hP0, List.length_append]; rfl
            obtain ⟨k, hk⟩ : ∃ k, k = P0.length := ⟨_, rfl⟩
            rw [← hk] at hm1
            subst hm1
            obtain ⟨⟨xs', xA, xn, xc⟩, xk, xl⟩ := x
            obtain ⟨go, cur, hOg, hgo, hrgo, v0, v1⟩ := tcs_at hoP.out (i := k) (x := (xs', xA, xn, xc)) (by rw [hP0, List.map_append, List.getElem?_append_right (by rw [List.length_map]; omega), List.length_map, hk, Nat.sub_self]; rfl)
            subst hOg
            simp only at v0 v1
            have hgolt := hrgo.lt
            have hxk : xs' = xk := (hTP.out.each ((xs', xA, xn, xc), xk, xl) (by rw [hP0]; simp)).1
            have hjl : joinS (P.map Prod.snd) (ys, yz) = if xk = ys then P0.map Prod.snd ++ [(xk, xl ++ [yz])] else P.map Prod.snd ++ [(ys, [yz])] := by
              rw [hP0, List.map_append, List.map_singleton, joinS_last]
            subst hxk
            replace hrgo := hide hrgo
            replace hk := hide hk
            replace hP0 := hide hP0
            gi_wp2_with fail
            obtain ⟨W6, hW6⟩ : ∃ W6, W6 = wr.alloc (Obj.cells #[Value.string ⟨ys.toArray⟩, Value.slice yA yn yc] 150) := ⟨_, rfl⟩
            rw [← hW6]
            obtain ⟨g6, hg6⟩ : ∃ g6, g6 = wr.heap.size := ⟨_, rfl⟩
            have r6 : Row W6 g6 150 #[Value.string ⟨ys.toArray⟩, Value.slice yA yn yc] := by rw [hW6, hg6]; exact Row.new wr _ _
            rw [← hg6]
            have hE6 : Ext wr W6 := by rw [hW6]; exact (Ext.refl wr).alloc _
            have t0 := r6.cell 0 rfl
            have t1 := r6.cell 1 rfl
            replace r6 := hide r6
            replace hE6 := hide hE6
            replace hW6 := hide hW6
            replace hg6 := hide hg6
            have u0 := hE6.out.cell v0
            have u1 := hE6.out.cell v1
            by_cases hxy : xs' = ys
            · subst hxy
              rw [if_pos rfl] at hjl
              replace hjl := hide hjl
              refine wpIn_wide.2 (wp_region_text follows (by kernel_rfl) (by kernel_rfl) (fun K hK => ?_))
              go_wp2_with fail
              refine ⟨by kernel_rfl, ?_⟩
              gi_wp2_with fail
              have hPat := hTP.out
              rw [hP0.out, List.append_assoc, List.singleton_append] at hPat
              have hbx := (hPat.each ((xs', xA, xn, xc), xs', xl) (by simp)).2
              have hby := (hPat.each ((xs', yA, yn, yc), xs', [yz]) (by simp)).2
              simp only at hbx hby
              have hxl : xl.length = xn := by have := hbx.1; rwa [List.length_map] at this
              have hxn : xn ≤ i := by
                have := hPle.out (xs', xl) (by rw [hP0.out]; simp)
                rw [← hxl]; exact this
              have hyn : 1 = yn := by have := hby.1; simpa using this
              subst hyn
              have hbx9 : Hid (Buf W6.drew.drew w.heap.size 3 xA xn xc (xl.map IV)) := hide (hbx.ext hE6.out.drew.drew)
              have hcy9 : Hid (Cells W6.drew.drew yA ([yz].map IV)) := hide (hby.ext hE6.out.drew.drew).cells
              have hrg9 : Hid (Row W6.drew.drew go 150 cur) := hide (hrgo.out.ext hE6.out.drew.drew)
              have hw69 : w.heap.size ≤ W6.drew.drew.heap.size := (hEr.out.trans hE6.out.drew.drew).size
              have hog9 : Hid (W6.drew.drew.ownsRow b5 150 2 (.slice (some ⟨go, 0, none⟩) (k + 1) c) (k + 1) (tcs (P.map Prod.fst))) := hide (hE6.out.drew.drew.owns hoP.out)
              have u19 := hide (hE6.out.drew.drew.cell v1)
              refine wpIn_wide.2 (wp_region_text follows (by kernel_rfl) (by kernel_rfl) (fun K hK => ?_))
              go_wp2_with (at_builtin; refine wpList_buf elemZ hbx9.out hcy9.out (.tmp 72) (.tmp 74) rfl rfl rfl rfl rfl rfl (by simp [IV, Value.oneCell']) (by omega) hw69 (fun A1 c1 w8 hb8 hg8 hx8 hl8 => ?_); have r18 := grown_row hbx9.out hg8 hrg9.out (by decide); have v2 := r18.free (k * 2 + 1); have v3 := (r18.get (k * 2 + 1)).trans ((hrg9.out.get (k * 2 + 1)).symm.trans u19.out); replace r18 := hide r18; replace hb8 := hide hb8; replace hg8 := hide hg8; replace hx8 := hide hx8; replace hl8 := hide hl8)
              refine ⟨by kernel_rfl, ?_⟩
              gi_wp2_with fail
              have hEd := hE6.out.drew.drew
              have hkz : ∀ z ∈ P0 ++ R, TmP.far z ((xs', xA, xn, xc), xs', xl) → TmP.ok wr w.heap.size z → TmP.ok (w8.setCell ⟨go, k * 2 + 1, none⟩ (.slice A1 (xn + 1) c1)) w.heap.size z := fun z hz hf ho => by
                have q := bg_buf hg8.out (ho.2.ext hEd) (fun p q hp hq => hf p q hp hq)
                exact ⟨ho.1, q.setCell (q.unlike r18.out (by decide)) _⟩
              have hbn : Buf (w8.setCell ⟨go, k * 2 + 1, none⟩ (.slice A1 (xn + 1) c1)) w.heap.size 3 A1 (xn + 1) c1 ((xl ++ [yz]).map IV) := by
                rw [List.map_append]
                exact hb8.out.setCell (hb8.out.unlike r18.out (by decide)) _
              have hTZ8 := hPat.join ((xs', A1, xn + 1, c1), xs', xl ++ [yz]) hkz ⟨rfl, hbn⟩ (by
                rcases hl8.out with h | h
                · exact .inl h
                · exact .inr ⟨_, h, hEd.size⟩)
              have hown8 := own_put (bg_owns hbx9.out hg8.out hog9.out (by decide)) (k * 2 + 1) (.slice A1 (xn + 1) c1)
              have htc := tcs_set2 (P0.map Prod.fst) (xs', xA, xn, xc) (A1, xn + 1, c1)
              rw [List.length_map, ← hk.out] at htc
              have hPf : P.map Prod.fst = P0.map Prod.fst ++ [(xs', xA, xn, xc)] := by rw [hP0.out, List.map_append]; rfl
              rw [hPf, htc] at hown8
              refine ⟨⟨i + 1, k + 1, c, some ⟨go, 0, none⟩, P0 ++ [((xs', A1, xn + 1, c1), xs', xl ++ [yz])], by first | rfl | (congr 1; omega), rfl, by omega, by omega, hide (by rw [List.length_append, ← hk.out]; rfl), hide ?_, hide ?_, hide ?_, hide ?_, hide (fun g cs hlt hr => ?_), hide (hor.out.trans (hEd.others.trans ((grown_others hbx9.out hg8.out).trans (KeepsOthers.setCell _ _ _)))), ?_⟩, by simp only [intOf]; omega⟩
              · rw [List.map_append]; exact hown8
              · rw [htk.out, hjl.out, List.map_append]; rfl
              · rw [List.append_assoc, ← hR.out]; exact hTZ8
              · exact (hx8.out w (hEr.out.trans hEd) (Nat.le_refl _)).setCell (p := ⟨go, k * 2 + 1, none⟩) (Nat.le_trans hwb5 hgo) _
              · exact (grown_row hbx9.out hg8.out ((hgr.out g cs hlt hr).ext hEd) (by decide)).away (by show g ≠ go; omega) _
              · have h1 := hg8.out.size
                have h2 := hEd.size
                show b5 ≤ (w8.setCell _ _).heap.size
                simp only [World.setCell, Array.size_modify]
                omega
            · rw [if_neg hxy] at hjl
              have hnew : Hid (joinS (P.map Prod.snd) (ys, yz) = P.map Prod.snd ++ [(ys, [yz])]) := hide hjl
              have hbne : ¬ (ByteArray.mk xs'.toArray = ByteArray.mk ys.toArray) := fun h => hxy (by injection h with h; simpa using h)
              clear hjl
              have hbeq : (xs' == ys) = false := beq_eq_false_iff_ne.2 hxy
              refine wpIn_wide.2 (wp_region_text follows (by kernel_rfl) (by kernel_rfl) (fun K hK => ?_))
              go_wp2_with fail
              refine ⟨by kernel_rfl, ?_⟩
              obtain ⟨W7, hW7⟩ : ∃ W7, W7 = (W6.alloc (Obj.cells #[Value.string ⟨ys.toArray⟩, Value.slice yA yn yc] 150)).drew := ⟨_, rfl⟩
              have hE7 : Ext wr W7 := by rw [hW7]; exact (hE6.out.alloc _).drew
              have ho7 := hE7.owns hoP.out
              have hx7 : Cells W7 (some ⟨W6.heap.size, 0, none⟩) (tcell (ys, yA, yn, yc)) := by rw [hW7]; exact new_cells W6 [Value.string ⟨ys.toArray⟩, Value.slice yA yn yc] _
              have hb7 : b5 ≤ W7.heap.size := Nat.le_trans hbr hE7.size
              replace hE7 := hide hE7
              replace ho7 := hide ho7
              replace hx7 := hide hx7
              replace hW7 := hide hW7
              gi_wp2_with (gi_at_builtin; rw [← hW7.out]; refine wpListIn_app elemTm ho7.out hx7.out (.tmp 78) (.tmp 80) rfl rfl rfl rfl rfl rfl (by simp [tcell, Value.oneCell']) (by omega) hb7 (fun A1 c1 w8 ho8 hg8 hl8 => ?_); replace ho8 := hide ho8; replace hg8 := hide hg8; replace hl8 := hide hl8)
              have hrow8 : ∀ g cs, g < b5 → Row wr g 150 cs → Row w8 g 150 cs := fun g cs hlt hr => (hr.ext hE7.out).grown hg8.out fun h => by obtain ⟨_, _, hl⟩ := owns_row ho7.out h.symm; omega
              refine ⟨⟨i + 1, _, c1, A1, P ++ [((ys, yA, yn, yc), (ys, [yz]))], by first | rfl | (congr 1; omega), rfl, by omega, by omega, hide (by rw [List.length_append, ← hmP.out]; rfl), hide ?_, hide ?_, hide ?_, hide (og_ext ho7.out hg8.out (hEr.out.trans hE7.out) hwb5), hide (fun g cs hlt hr => hrow8 g cs hlt (hgr.out g cs hlt hr)), hide (hor.out.trans (hE7.out.others.trans (og_others ho7.out hg8.out))), Nat.le_trans hb7 hg8.out.size⟩, by simp only [intOf]; omega⟩
              · rw [List.map_append, List.map_singleton, tcs_snoc]; exact ho8.out
              · rw [htk.out, hnew.out, List.map_append, List.map_singleton]
              · rw [List.append_assoc, ← hR.out]
                exact hTP.out.keep fun A n c xs hb => og_buf ho7.out hg8.out (hb.ext hE7.out) (by decide)
        · have hPT : P.map Prod.snd = T := by
            rw [hPj.out, List.take_of_length_le (by rw [hEZl.out]; omega)]
            exact hgrp.out
          replace hPT := hide hPT
          gi_wp2_with fail
          have hkr := hor.out.same _ _ hk5.out rfl
          refine leave_mark (B := w4.heap.size) rfl hkr hD fun W ha => ⟨_, results_tmp rfl _ _ _, ?_⟩
          have hTP2 := hTP.out
          rw [List.drop_eq_nil_of_le (by rw [List.length_map, hEl.out]; omega), List.append_nil] at hTP2
          have hml : m = (P.map Prod.fst).length := by rw [List.length_map]; exact hmP.out
          rw [← hPT.out]
          refine ⟨O, c, P.map Prod.fst, ?_, ?_, (hTP2.keep fun _ _ _ _ hb => ha.buf hb).tms, ha.ext hEr.out hwsz⟩
          · rw [← hml]; rfl
          · rw [← hml]
            exact ha.owns (owns_lower hoP.out hwb5)
  · have hT := htm.out
    rw [if_neg hz0] at hT
    replace hT := hide hT
    gi_wp2_with fail
    rw [hT.out]
    exact leave_plain rfl (results_tmp rfl _ _ _) ⟨none, 0, [], rfl, World.ownsRow_nil _ _ _ _, TmsOk.nil _ _, hE1.out⟩
end Go.Proofs.YtkdcnhnaiknaaaaGreat

/- 'append' as a step of a region that draws its order. -/
namespace Go.Proofs.YtkdcnhnaiknaaaaGreat
open Go.RowKit

theorem step_app {P : Program} {ops : Array Oper} {o : Oper} {a : Act} {w : World} {K : Act → World → Prop} {Q : Exit → Act → World → Prop} {E0 : Prop} {t e size bytes : Nat} (E : Elem P t e size bytes) (hgd : o.guard = none)
    {base : Nat} {v : Value} {n : Nat} {xs : List Value} {A : Option Addr} {m c : Nat} {news : List Value} (hown : w.ownsRow base e size v n xs) (hr : Cells w A news) (s x : Operand)
    (ho : o.op = .call { callee := .builtin .append, args := #[s, x], argTypes := #[t, t] })
    (hs : a.eval s = v) (hx : a.eval x = .slice A m c) (hl : news.length = m * size) (h1 : ∀ u ∈ news, u.oneCell' = true) (hsz : n + m ≤ 4294967296) (hbase : base ≤ w.heap.size)
    (h : ∀ A1 c1 w', w'.ownsRow base e size (.slice A1 (n + m) c1) (n + m) (xs ++ news) → w.grownBy w' v.ownBlock → K (a.put o.dst (.slice A1 (n + m) c1)) w') :
    if Region.wanted o (yielded ops a.tmps) = true then Oper.wp P o a w K Q else E0 := by
  rw [if_pos (by simp [Region.wanted, hgd])]
  obtain ⟨A1, c1, w', hrun, h2, h3, h4⟩ := run_app (P := P) E w o.type hown (c := c) hr hl h1 hsz hbase
  unfold Oper.wp execOp
  simp only [ho, resolve, invoke, builtin, Sem.run_bind, Sem.run_pure, Result.andThen_ok, List.map_toArray, List.map_cons, List.map_nil, hs, hx, hrun]
  exact h A1 c1 w' h2 h3
theorem step_appZ {P : Program} {ops : Array Oper} {o : Oper} {a : Act} {w0 : World} {K : Act → World → Prop} {Q : Exit → Act → World → Prop} {E0 : Prop} {us : List Value} {T : TypeId} {t e size bytes m k : Nat} (E : Elem P t e size bytes) (hgd : o.guard = none)
    {base : Nat} {v : Value} {n : Nat} {xs : List Value} (hown : w0.ownsRow base e size v n xs) (hk : k = w0.heap.size) (s x : Operand)
    (ho : o.op = .call { callee := .builtin .append, args := #[s, x], argTypes := #[t, t] })
    (hs : a.eval s = v) (hx : a.eval x = .slice (some ⟨k, 0, none⟩) m m) (hl : us.length = m * size) (h1 : ∀ u ∈ us, u.oneCell' = true) (hsz : n + m ≤ 4294967296) (hbase : base ≤ w0.heap.size)
    (h : ∀ A1 c1 w', w'.ownsRow base e size (.slice A1 (n + m) c1) (n + m) (xs ++ us) → w0.grownBy w' v.ownBlock → K (a.put o.dst (.slice A1 (n + m) c1)) w') :
    if Region.wanted o (yielded ops a.tmps) = true then Oper.wp P o a (w0.alloc (.cells us.toArray T)) K Q else E0 := by
  subst hk
  refine step_app E hgd (((Ext.refl w0).alloc _).owns hown) (A := some ⟨w0.heap.size, 0, none⟩) (news := us) (.inr ⟨w0.heap.size, 0, rfl, fun i u hu => ?_⟩) s x ho hs hx hl h1 hsz (by simp; omega) fun A1 c1 w' h2 h3 => ?_
  · rw [Nat.zero_add, cell_of_row _ _ _ _ _ _ (heap_alloc_new w0 _)]
    simpa using hu
  · exact h A1 c1 w' h2 ⟨h3.os, h3.tape, h3.output, Nat.le_trans (by simp) h3.size, fun k hk hne => (h3.block k (by simp; omega) hne).trans (Below.heap_alloc w0 _ k hk)⟩
end Go.Proofs.YtkdcnhnaiknaaaaGreat

/- Sorting rows of texts (sort.Strings). -/
namespace Go.Proofs.YtkdcnhnaiknaaaaGreat
open Go.RowKit Go.Maps Go.Sort

def sortK (ns : List (List UInt8)) : List (List UInt8) := ns.mergeSort fun x y => decide (x ≤ y)
theorem sortK_perm (ns : List (List UInt8)) : (sortK ns).Perm ns := List.mergeSort_perm _ _
theorem sortK_pw (ns : List (List UInt8)) : (sortK ns).Pairwise (fun a b => a ≤ b) := by
  have := List.pairwise_mergeSort (le := fun (x y : List UInt8) => decide (x ≤ y)) (fun a b c h k => decide_eq_true (List.le_trans (of_decide_eq_true h) (of_decide_eq_true k))) (fun a b => by rcases List.le_total a b with h | h <;> simp [h]) ns
  exact this.imp fun h => of_decide_eq_true h
theorem sortK_of {ns ks : List (List UInt8)} (h : ns.Perm ks) (hk : ks.Pairwise fun a b => a < b) : sortK ns = ks :=
  List.Perm.eq_of_pairwise (le := fun (x y : List UInt8) => x ≤ y) (fun x y _ _ h k => List.le_antisymm h k) (sortK_pw ns) (hk.imp fun h => List.le_of_lt h) ((sortK_perm ns).trans h)
theorem ssort1_any (base : Nat) (A : Option Addr) (n c : Nat) (ns : List (List UInt8)) (w : World) (hn : n = ns.length) (hb : Buf w base 9 A n c (ns.map strV)) (hsz : n ≤ 1073741824) :
    Calls Tryz.prog 139 #[.slice A n c] w fun e w' => e = .returned (.tuple #[]) ∧ Buf w' base 9 A n c ((sortK ns).map strV) ∧ Chg (fun k => ∃ x, A = some x ∧ x.block = k) w w' := by
  subst hn
  obtain ⟨h1, h2, h3⟩ := hb
  unfold sortK
  rcases h3 with ⟨rfl, rfl⟩ | ⟨g, cur, rfl, hbg, hg, hs, ht⟩
  · have h0 : ns = [] := List.eq_nil_of_length_eq_zero (by omega)
    subst h0
    refine (Tryz.slices_Sort_string_none none 0 w).mono ?_
    rintro e w' ⟨rfl, rfl⟩
    exact ⟨rfl, by simpa using Buf.nil _ _ _, Chg.refl _ _⟩
  · have hH : Holds encStr w g 0 ns.toArray := by
      intro j hj
      simp at hj
      refine ⟨?_, hg.free _⟩
      rw [Nat.zero_add, cell_of_row w g j cur 9 (0, 0) hg]
      have : (cur.toList.take ns.length)[j]? = (ns.map strV)[j]? := by rw [ht]
      rw [List.getElem?_take, if_pos hj] at this
      simp [hj] at this
      simpa [hj, encStr, strV] using this
    refine (Tryz.slices_Sort_string g 0 c ns w hH hg.lt (by omega)).mono ?_
    rintro e w' ⟨rfl, k, os, rfl⟩
    obtain ⟨so, hso⟩ : ∃ so, so = (ns.mergeSort fun x y => decide (x ≤ y)) := ⟨_, rfl⟩
    have hsl : so.length = ns.length := by rw [hso]; exact List.length_mergeSort _
    rw [← hso]
    have hrow : Row (grow (putRow encStr (Sort.ahead w k) g 0 so.toArray) os) g 9 (putCells encStr 0 so.toArray cur) := by
      show ((w.heap.modify g (onCells (putCells encStr 0 so.toArray))) ++ os)[g]? = _
      rw [Array.getElem?_append_left (by simpa using hg.lt), Array.getElem?_modify, if_pos rfl]
      have : w.heap[g]? = some (.cells cur 9 (0, 0)) := hg
      rw [this]
      rfl
    refine ⟨rfl, ⟨by simp [hsl], h2, .inr ⟨g, _, rfl, hbg, hrow, ?_, ?_⟩⟩, ⟨rfl, rfl, rfl, ?_, ?_⟩⟩
    · simp [putCells]
      exact hs
    · apply List.ext_getElem?
      intro i
      rw [List.getElem?_take]
      split
      · rename_i hi
        have hic : i < cur.size := by
          rw [List.length_map] at h1
          omega
        have his : i < so.length := by omega
        rw [Array.getElem?_toList]
        unfold putCells
        rw [Array.getElem?_mapIdx, Array.getElem?_eq_getElem hic]
        simp [his, encStr, strV]
      · rename_i hi
        rw [List.getElem?_eq_none (by rw [List.length_map]; omega)]
    · show w.heap.size ≤ ((w.heap.modify g (onCells (putCells encStr 0 so.toArray))) ++ os).size
      simp
    · intro j hj hne
      show ((w.heap.modify g (onCells (putCells encStr 0 so.toArray))) ++ os)[j]? = _
      rw [Array.getElem?_append_left (by simpa using hj), Array.getElem?_modify, if_neg (fun e => hne ⟨_, rfl, e⟩)]
set_option maxRecDepth 100000 in
theorem ssort_any (base : Nat) (A : Option Addr) (n c : Nat) (ns : List (List UInt8)) (w : World) (hn : n = ns.length) (hb : Buf w base 9 A n c (ns.map strV)) (hsz : n ≤ 1073741824) :
    Calls Tryz.prog 81 #[.slice A n c] w fun e w' => e = .returned (.tuple #[]) ∧ Buf w' base 9 A n c ((sortK ns).map strV) ∧ Chg (fun k => ∃ x, A = some x ∧ x.block = k) w w' := by
  have h := hide (ssort1_any base A n c ns w hn hb hsz)
  clear hb hn
  go_enter Tryz.func81, Tryz.ntmps81
  go_wp2_with fail
  refine h.out.mono ?_
  rintro e w1 ⟨rfl, h1, h2⟩
  go_wp2_with fail
  go_end0
  exact ⟨rfl, h1, h2⟩
end Go.Proofs.YtkdcnhnaiknaaaaGreat

