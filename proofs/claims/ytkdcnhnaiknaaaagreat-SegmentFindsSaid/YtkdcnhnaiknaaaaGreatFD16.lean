/- Texts of one proof, joined. -/
import Derived.Test.YtkdcnhnaiknaaaaGreatFD13
import Derived.Test.YtkdcnhnaiknaaaaGreatFD15
import Derived.Test.YtkdcnhnaiknaaaaGreatFD08
import Derived.Shelf.RegionOpen
import Derived.Test.YtkdcnhnaiknaaaaGreatFD11
import Derived.Test.YtkdcnhnaiknaaaaGreatFD07
import Derived.Test.YtkdcnhnaiknaaaaGreatFD02
import Derived.Test.YtkdcnhnaiknaaaaGreatFD06
import Derived.Deep.QuietTactic
import Derived.BigQuiet
import Derived.Deep.CutRange
import Derived.Deep.DeepCutAuto
import Derived.Test.YtkdcnhnaiknaaaaGreatFD03
set_option linter.unusedSimpArgs false
set_option linter.unusedVariables false
namespace Go.Proofs.YtkdcnhnaiknaaaaGreat
section
open Go.RowKit
attribute [local go_sem] Oper.semAt_some wide_depth wide_fn
theorem wrap_int {z : Int} (h1 : -9223372036854775808 ≤ z) (h2 : z < 9223372036854775808) : IntKind.i64.wrap z = z := by
  simp [IntKind.wrap, IntKind.bits, IntKind.signed]
  omega
structure Blk where
  last : Int
  b : List UInt8
  A : Option Addr
  c : Nat
def Blk.args (x : Blk) : Array Value := #[.int .i64 x.last, .slice x.A x.b.length x.c]
def StB (W A B : World) : Prop := Chg (fun k => W.heap.size ≤ k ∧ ∀ t cs, Row A k t cs → t = 3) A B
theorem StB.ext {W A B : World} (h : Ext A B) : StB W A B := Chg.of_ext h _
theorem StB.alike {W A B : World} {X : Nat} (h : Alike X A B) (hX : W.heap.size ≤ X) : StB W A B :=
  ⟨h.os, h.tape, h.output, h.size, fun k hk hn => h.block k hk fun hc => hn ⟨by have := hc.1; omega, fun t cs hr => (NC.not_row hr hc).elim⟩⟩
theorem StB.num {W A B : World} {g : Nat} {cs : Array Value} (h : Chg (fun k => k = g) A B) (hg : W.heap.size ≤ g) (hr : Row A g 3 cs) : StB W A B :=
  ⟨h.os, h.tape, h.output, h.size, fun k hk hn => h.block k hk fun hc => hn ⟨by omega, fun t cs' hr' => by
    rw [hc] at hr'
    unfold Row at hr hr'
    rw [hr] at hr'
    injection hr' with e
    injection e with _ e
    exact e.symm⟩⟩
theorem StB.old {W A B : World} (h : StB W A B) (k : Nat) (o : Obj) (hk : k < W.heap.size) (ho : A.heap[k]? = some o) (_ : o.isCells = false) : B.heap[k]? = some o :=
  (h.block k (Array.getElem?_eq_some_iff.1 ho).1 fun hn => by have := hn.1; omega).trans ho
def KpB (B : Nat) (W W' : World) : Prop := (∀ w0 : World, w0.heap.size ≤ B → Ext w0 W → Ext w0 W') ∧ ∀ g t cs, t ≠ 25 → t ≠ 5 → Row W g t cs → Row W' g t cs
theorem KpB.trans (B : Nat) (A C D : World) (h : KpB B A C) (k : KpB B C D) : KpB B A D := ⟨fun w0 h0 he => k.1 w0 h0 (h.1 w0 h0 he), fun g t cs h1 h2 hr => k.2 g t cs h1 h2 (h.2 g t cs h1 h2 hr)⟩
theorem KpB.alike {B X : Nat} (hX : B ≤ X) (A C : World) (h : Alike X A C) : KpB B A C := ⟨fun _ hs he => h.ext he (by omega), fun _ _ _ _ _ hr => h.row hr⟩
theorem KpB.ext {B : Nat} {A C : World} (h : Ext A C) : KpB B A C := ⟨fun _ _ he => he.trans h, fun _ _ _ _ _ hr => hr.ext h⟩
def NxB (P : List Dc) (pre : List Blk) (x : Blk) (W : World) : Prop := pre.length * 16 < P.length ∧ x.last = lastD (lastD 0 (P.take (pre.length * 16))) ((P.drop (pre.length * 16)).take 16) ∧ x.b = blockD (lastD 0 (P.take (pre.length * 16))) ((P.drop (pre.length * 16)).take 16) ∧ ∃ base, Buf W base 5 x.A x.b.length x.c (x.b.map B8)
def BlkIter (P : List Dc) (B b0 : Nat) (w : World) : Prop :=
  IterS Tryz.prog 131 #[.pointer (some ⟨b0, 0, none⟩)] Blk.args StB (NxB P) (KpB B) (fun xs A B => P.length ≤ xs.length * 16 ∧ B = A) w
def BkI (b0 b1 b2 gy gl l : Nat) (V : Value) (P : List Dc) (J : List Blk → World → Prop) (W w0 : World) (r : Nat) (X : World) : Prop :=
  (∃ xs : List Blk, xs.length = r ∧ J xs X) ∧ Row X b0 22 #[V] ∧ Row X b1 22 #[V] ∧ Row X b2 3 #[.int .i64 16] ∧ Row X gy 204 #[.func (.yield l) #[] #[]] ∧ Row X gl 3 #[.int .i64 (lastD 0 (P.take (r * 16)))] ∧ Ext w0 X ∧ W.heap.size ≤ X.heap.size
set_option maxRecDepth 100000 in
theorem blocks_any (A : Option Addr) (n c : Nat) (w : World) :
    Calls Tryz.prog 79 #[.slice A n c] w fun e w' => ∃ b0, e = .returned (.func (.func 131) #[] #[.pointer (some ⟨b0, 0, none⟩)]) ∧ Row w' b0 22 #[.slice A n c] ∧ w.heap.size ≤ b0 ∧ Ext w w' := by
  go_enter Tryz.func79, Tryz.ntmps79
  go_wp2_with fail
  go_ret
  exact ⟨w.heap.size, rfl, Row.new w _ _, Nat.le_refl _, (Ext.refl w).alloc _⟩
set_option maxRecDepth 100000 in
set_option maxHeartbeats 8000000 in
theorem blocks_iter (ds : List DocC) (A : Option Addr) (m c b0 B : Nat) (w0 w : World) (hm : m = ds.length) (h : DocsOk w0 A ds) (hA : ∀ a, A = some a → a.spot = none) (hmc : m ≤ c) (hok : okDs (dcs ds) = true) (hsz : (blockD 0 (dcs ds)).length ≤ 50000000)
    (hB : w0.heap.size ≤ B) (hw : Ext w0 w) (hb0 : Row w b0 22 #[.slice A m c]) : BlkIter (dcs ds) B b0 w := by
  intro l J W hE hst hY h0
  have hPl : (dcs ds).length = m := by unfold dcs; rw [List.length_map, hm]
  have hml : m ≤ 65536 := by
    have := hok; unfold okDs at this
    rw [Bool.and_eq_true] at this
    have := of_decide_eq_true this.1
    omega
  obtain ⟨P, hP⟩ : ∃ P, P = dcs ds := ⟨_, rfl⟩
  rw [← hP] at hPl hok hsz hY ⊢
  replace hb0 := hide (hb0.ext hE)
  replace hw := hide (hw.trans hE)
  clear hE
  replace hm := hide hm
  replace h := hide h
  replace hA := hide hA
  replace hP := hide hP
  replace hok := hide hok
  replace hsz := hide hsz
  replace hPl := hide hPl
  replace hY := hide hY
  replace hst := hide hst
  replace h0 := hide h0
  refine (callsIn_wide (n := 0)).1 ?_
  refine callsIn_of_wp_marks Tryz.func131 rfl trivial ?_
  simp only [Tryz.ntmps131, List.size_toArray, List.length_cons, List.length_nil, Nat.reduceAdd, Nat.reduceSub, Array.replicate_succ, Array.replicate_zero, List.push_toArray, List.append_toArray, List.nil_append, List.cons_append]
  have k0 := hb0.out.cell 0 rfl
  have k0l := hb0.out.lt
  gi_wp2_with fail
  obtain ⟨W3, hW3⟩ : ∃ W3, W3 = (W.alloc (Obj.cells #[Value.func (.yield l) #[] #[]] 204)).alloc (Obj.cells #[Value.int IntKind.i64 0] 3) := ⟨_, rfl⟩
  rw [← hW3]
  obtain ⟨gy, hgy⟩ : ∃ gy, gy = W.heap.size := ⟨_, rfl⟩
  rw [← hgy]
  have qy : Row W3 gy 204 #[Value.func (.yield l) #[] #[]] := by rw [hW3, hgy]; exact (Row.new W _ _).alloc _
  have ql : Row W3 (gy + 1) 3 #[.int .i64 0] := by
    have := Row.new (W.alloc (Obj.cells #[Value.func (.yield l) #[] #[]] 204)) 3 #[.int .i64 0]
    rw [World.size_alloc, ← hgy] at this
    rw [hW3]; exact this
  have hE3 : Ext W W3 := by rw [hW3]; exact ((Ext.refl W).alloc _).alloc _
  have hsz3 : W3.heap.size = gy + 2 := by rw [hW3, hgy]; simp
  refine (callsIn_wide.2 (chunkB_any A m c 16 W3 (by omega) (by omega))).mono ?_
  rintro e w4 ⟨b1, b2, rfl, rb1, rb2, hb1, hb2, hb12, hE4⟩
  have hP4 : BkI b0 b1 b2 gy (gy + 1) l (.slice A m c) P J W w0 0 w4 := ⟨⟨[], rfl, hst.out _ _ _ h0.out (StB.ext (hE3.trans hE4))⟩, (hb0.out.ext hE3).ext hE4, rb1, rb2, qy.ext hE4, by rw [Nat.zero_mul, List.take_zero]; exact ql.ext hE4, hw.out.trans (hE3.trans hE4), (hE3.trans hE4).size⟩
  have hit := chunkB_iter A m c 16 b1 b2 w4 rb1 rb2 (by omega) (by omega) (by omega) hmc
  rw [hsz3] at hb1 hb2
  have hwsz : W.heap.size ≤ w4.heap.size := (hE3.trans hE4).size
  have hb2w := rb2.lt
  have hB4 : B ≤ w4.heap.size ∨ w4.heap.size < B := by omega
  have hw04 : w0.heap.size ≤ w4.heap.size := (hw.out.trans (hE3.trans hE4)).size
  have hstI : ∀ r A2 B2, BkI b0 b1 b2 gy (gy + 1) l (.slice A m c) P J W w0 r A2 → Alike w4.heap.size A2 B2 → BkI b0 b1 b2 gy (gy + 1) l (.slice A m c) P J W w0 r B2 := by
    rintro r A2 B2 ⟨⟨xs, hx, hj⟩, r1, r2, r3, r4, r5, he, hs⟩ ha
    exact ⟨⟨xs, hx, hst.out _ _ _ hj (StB.alike ha hwsz)⟩, ha.row r1, ha.row r2, ha.row r3, ha.row r4, ha.row r5, ha.ext he hw04, Nat.le_trans hs ha.size⟩
  have hstE : ∀ r A2 B2, BkI b0 b1 b2 gy (gy + 1) l (.slice A m c) P J W w0 r A2 → Ext A2 B2 → BkI b0 b1 b2 gy (gy + 1) l (.slice A m c) P J W w0 r B2 := by
    rintro r A2 B2 ⟨⟨xs, hx, hj⟩, r1, r2, r3, r4, r5, he, hs⟩ ha
    exact ⟨⟨xs, hx, hst.out _ _ _ hj (StB.ext ha)⟩, r1.ext ha, r2.ext ha, r3.ext ha, r4.ext ha, r5.ext ha, he.trans ha, Nat.le_trans hs ha.size⟩
  replace hP4 := hide hP4
  replace hit := hide hit
  replace hW3 := hide hW3
  replace hgy := hide hgy
  replace hstI := hide hstI
  replace hstE := hide hstE
  clear qy ql hE3 hE4 rb1 rb2 hsz3 k0 k0l hb0
  gi_wp2_with fail
  unfold ChIterB at hit
  refine range_all (gf := 173) (lb := #[.pointer (some ⟨b1, 0, none⟩), .pointer (some ⟨b2, 0, none⟩)]) rfl (enters_of Tryz.func173 (by kernel_rfl) rfl) hit.out (fun _ => rfl) (fun _ _ h => h.others) (fun _ _ _ h => h.2.2.2.others) (KeepB.trans b1 b2) ?kb
    (fun pre X => BkI b0 b1 b2 gy (gy + 1) l (.slice A m c) P J W w0 pre.length X) (fun pre A B h ha => hstI.out _ _ _ h ha) (fun pre A B h hE => hstE.out _ _ _ h hE) ?h0 ?hround ?hdone
  case kb =>
    have hb1w := (hP4.out.2.2.1).lt
    exact KeepB.alike hb1w hb2w
  case h0 => exact fun X ha => hstI.out _ _ _ hP4.out ha
  case hround =>
    rintro l2 pre i X hI ⟨hi, hlt⟩
    subst hi
    have hR := sd_round hok.out hsz.out (r := pre.length) (by rw [hPl.out]; exact hlt)
    obtain ⟨j, hj⟩ : ∃ j, j = min 16 (m - pre.length * 16) := ⟨_, rfl⟩
    obtain ⟨cb, hcb⟩ : ∃ cb, cb = (ds.drop (pre.length * 16)).take 16 := ⟨_, rfl⟩
    have hcbl : cb.length = j := by rw [hcb, hj, List.length_take, List.length_drop, hm.out]
    obtain ⟨A', hA'⟩ : ∃ A' : Option Addr, A' = A.map fun a => a.add (pre.length * 16 * 3) := ⟨_, rfl⟩
    have hok2 : DocsOk w0 A' cb := by rw [hA', hcb]; exact h.out.part hA.out _ _
    have hval : chunkVB A m 16 pre.length = .slice A' j j := by unfold chunkVB; rw [hA', hj]
    obtain ⟨bP, hbP⟩ : ∃ bP, bP = (P.drop (pre.length * 16)).take 16 := ⟨_, rfl⟩
    have hbPc : bP = cb.map DocC.dc := by rw [hbP, hcb, hP.out, dcs, ← List.map_drop, ← List.map_take]
    obtain ⟨lst, hlst⟩ : ∃ lst, lst = lastD 0 (P.take (pre.length * 16)) := ⟨_, rfl⟩
    rw [← hbP, ← hlst] at hR
    have hj16 : j ≤ 16 := by omega
    have hplt : pre.length * 16 < P.length := by rw [hPl.out]; exact hlt
    replace hI := hide hI
    replace hR := hide hR
    rw [hval]
    clear hval
    replace hok2 := hide hok2
    replace hA' := hide hA'
    replace hcb := hide hcb
    replace hj := hide hj
    replace hbP := hide hbP
    replace hlst := hide hlst
    replace hcbl := hide hcbl
    replace hbPc := hide hbPc
    replace hplt := hide hplt
    gi_wp2_with fail
    refine ⟨KeepsOthers.refl _, KeepB.refl _ _ _, fun X2 hA2 => ?_⟩
    have hI2 := hstI.out _ _ _ hI.out hA2
    clear hA2 hI
    obtain ⟨⟨xs, hxl, hJ2⟩, rr0, rr1, rr2, rry, rrl, hE02, hs2⟩ := hI2
    rw [← hlst.out] at rrl
    obtain ⟨Y, hY0⟩ : ∃ Y, Y = blockD lst bP := ⟨_, rfl⟩
    obtain ⟨lz, hlz⟩ : ∃ lz, lz = lastD lst bP := ⟨_, rfl⟩
    have hlo := hR.out.lo
    have hhi := hR.out.hi
    have hYl : Y.length ≤ 50000000 := by have := hR.out.len; have := hsz.out; rw [hY0]; omega
    have hgyw : W.heap.size ≤ gy := Nat.le_of_eq hgy.out.symm
    have hw0W := hw.out.size
    have hput := hide (fun A n c x l W h1 h2 h3 h4 h5 => put_any A n c x l W h1 h2 h3 h4 h5)
    have hevp := hide (fun A n c l e B d W h1 h2 h3 h4 h5 h6 h7 => evPut_yes A n c l e B d W h1 h2 h3 h4 h5 h6 h7)
    replace hxl := hide hxl
    replace hJ2 := hide hJ2
    replace rr0 := hide rr0
    replace rr1 := hide rr1
    replace rr2 := hide rr2
    replace rry := hide rry
    replace rrl := hide rrl
    replace hE02 := hide hE02
    replace hY0 := hide hY0
    replace hlz := hide hlz
    gi_wp2_with fail
    gi_loopw [5, 13] (fun s5 s13 wr => ∃ (i n5 c5 : Nat) (A5 : Option Addr) (Xb : List UInt8) (la : Int), s5 = .slice A5 n5 c5 ∧ s13 = .int .i64 (i : Int) ∧ i ≤ j ∧ n5 ≤ 50000000 ∧ 0 ≤ la ∧ la < 1099511627777 ∧ Hid (Y = Xb ++ blockD la (bP.drop i)) ∧ Hid (risB 1099511627777 la ((bP.drop i).map (·.1)) = true) ∧ Hid (lastD la (bP.drop i) = lz) ∧ Hid (Own8 wr 0 A5 n5 c5 Xb) ∧ Hid (Row wr (gy + 1) 3 #[.int .i64 la]) ∧ Hid (Chg (fun k => k = gy + 1) X2 wr)) (fun _ s13 _ => j - (intOf s13).toNat)
    case atStart => exact ⟨0, 0, 0, none, [], lst, rfl, rfl, by omega, by omega, hlo, hhi, hide (by rw [hY0.out]; rfl), hide hR.out.ris, hide (by rw [hlz.out]; rfl), hide ⟨rfl, Buf.nil _ _ _⟩, rrl, hide (Chg.refl _ _)⟩
    case round =>
      obtain ⟨i, n5, c5, A5, Xb, la, rfl, rfl, hij, hn5, hla1, hla2, hYX, hrs, hll, hown, hrl', hch⟩ := hrel
      have hEwr : Hid (Ext w0 wr) := hide (hE02.out.chg hch.out fun k hk e => by omega)
      by_cases hin : i < j
      · obtain ⟨x, hxi⟩ : ∃ x, cb[i]? = some x := ⟨_, List.getElem?_eq_getElem (by rw [hcbl.out]; exact hin)⟩
        obtain ⟨g, o, hAe, x0, x1, x2⟩ := dcells_at (hok2.out.cells.ext hEwr.out) hxi
        subst hAe
        have hxp := hok2.out.each x (List.mem_of_getElem? hxi)
        have hbi : bP[i]? = some x.dc := by rw [hbPc.out, List.getElem?_map, hxi]; rfl
        have hpo := hR.out.pos x.dc (List.mem_of_getElem? hbi)
        have hYX2 := hYX.out
        have hrs2 := hrs.out
        have hll2 := hll.out
        rw [drop_step hbi] at hYX2 hrs2 hll2
        rw [List.map_cons] at hrs2
        obtain ⟨hd1, hd2, hrs3⟩ := risB_cons hrs2
        obtain ⟨W5, hW5⟩ : ∃ W5, W5 = wr.alloc (Obj.cells #[Value.int IntKind.i64 x.seq, Value.int IntKind.i64 x.e.at_, Value.slice x.A x.e.fs.length x.c] 39) := ⟨_, rfl⟩
        have hE5 : Ext wr W5 := by rw [hW5]; exact (Ext.refl wr).alloc _
        have rp : Row W5 wr.heap.size 39 #[Value.int IntKind.i64 x.seq, Value.int IntKind.i64 x.e.at_, Value.slice x.A x.e.fs.length x.c] := by rw [hW5]; exact Row.new wr _ _
        obtain ⟨q, hq⟩ : ∃ q : Nat, (q : Int) = x.seq - la - 1 := ⟨(x.seq - la - 1).toNat, by have : la < x.seq := hd1; omega⟩
        obtain ⟨X1, hX1⟩ : ∃ X1, X1 = Xb ++ vb q := ⟨_, rfl⟩
        obtain ⟨X3, hX3⟩ : ∃ X3, X3 = X1 ++ putE x.e := ⟨_, rfl⟩
        have hYX3 : Y = X3 ++ blockD x.seq (bP.drop (i + 1)) := by
          rw [hYX2, hX3, hX1]
          show Xb ++ ((vb (x.seq - la - 1).toNat ++ putE x.e) ++ _) = _
          rw [show (x.seq - la - 1).toNat = q by omega]
          simp [DocC.dc]
        have hX3l : X3.length ≤ 50000000 := by rw [hYX3, List.length_append] at hYl; omega
        have hX1l : X1.length ≤ X3.length := by rw [hX3, List.length_append]; omega
        have hkE : checkE x.e.fs = 0 := by unfold okD at hpo; exact of_decide_eq_true hpo
        have hd1 : la < x.seq := hd1
        have hd2 : x.seq < 1099511627777 := hd2
        have hlr := hrl'.out.ext hE5
        have hll3 : lastD x.seq (bP.drop (i + 1)) = lz := hll2
        obtain ⟨seq, ⟨at_, fs⟩, Bx, cB⟩ := x
        simp only at x0 x1 x2 hW5 rp hq hX3 hYX3 hkE hd1 hd2 hrs3 hll3 hxp
        obtain ⟨fl, hfl⟩ : ∃ fl, fl = fs.length := ⟨_, rfl⟩
        rw [← hfl] at x2 hW5 rp
        obtain ⟨gd, hgd⟩ : ∃ gd, gd = wr.heap.size := ⟨_, rfl⟩
        rw [← hgd] at rp
        have p0 := rp.cell 0 rfl
        have p1 := rp.cell 1 rfl
        have p2 := rp.cell 2 rfl
        have pl := hlr.cell 0 rfl
        replace hfl := hide hfl
        replace hgd := hide hgd
        replace hW5 := hide hW5
        replace rp := hide rp
        replace hlr := hide hlr
        replace hE5 := hide hE5
        replace hX1 := hide hX1
        replace hX3 := hide hX3
        replace hYX3 := hide hYX3
        replace hq := hide hq
        replace hkE := hide hkE
        replace hxp := hide hxp
        replace hrs3 := hide hrs3
        replace hll3 := hide hll3
        replace hbi := hide hbi
        replace hpo := hide hpo
        replace hxi := hide hxi
        clear hYX2 hrs2 hll2
        gi_wp2_with fail
        rw [← hW5.out, ← hgd.out]
        have hmix : Tryz.prog.follows .mixedOrders = true := by kernel_rfl
        have hw1 : IntKind.i64.wrap (seq - la) = seq - la := wrap_int (by omega) (by omega)
        have hw2 : IntKind.i64.wrap (seq - la - 1) = (q : Int) := by rw [wrap_int (by omega) (by omega)]; exact hq.out.symm
        have hw3 := wrap_u64 (m := q) (by have := hq.out; omega)
        have hputq := hide (hput.out A5 n5 c5 q Xb W5.drew hown.out.1 (hown.out.2.ext (hE5.out.trans (Ext.refl W5).drew)).cells hown.out.nil_ (by omega) (by have := hq.out; omega))
        rw [← hX1.out] at hputq
        obtain ⟨n6, hn6⟩ : ∃ n6, n6 = X1.length := ⟨_, rfl⟩
        have hevq : Hid (∀ A6 c6 W6, Buf W6 W5.drew.heap.size 5 A6 n6 c6 (X1.map B8) → Ext w0 W6 → Calls Tryz.prog 133 #[.slice A6 n6 c6, .agg #[.int .i64 at_, .slice Bx fl cB]] W6 (fun e w' => OkB' W6 X3 e w')) := hide fun A6 c6 W6 hb he => by
          have := hevp.out A6 n6 c6 X1 ⟨at_, fs⟩ Bx cB W6 hn6 hb.cells hb.none_cap (by omega) (hxp.out.1.ext he) hkE.out hxp.out.2.1
          unfold Ev.val at this
          rw [← hX3.out] at this
          simp only at this
          rw [← hfl.out] at this
          exact this
        obtain ⟨n8, hn8⟩ : ∃ n8, n8 = X3.length := ⟨_, rfl⟩
        have hE05 : Hid (Ext w0 W5.drew) := hide (hEwr.out.trans (hE5.out.trans (Ext.refl W5).drew))
        have rpd : Hid (Row W5.drew gd 39 #[Value.int IntKind.i64 seq, Value.int IntKind.i64 at_, Value.slice Bx fl cB]) := hide rp.out.drew
        have hlrd := hide hlr.out.drew
        unfold NewB at hputq
        unfold OkB' at hevq
        rw [← hn6] at hputq hX1l
        rw [← hn8] at hevq hX3l hX1l
        replace hn6 := hide hn6
        replace hn8 := hide hn8
        have hSd : W5.drew.cell? ⟨gd, 0, none⟩ = some (.int .i64 seq) ∧ W5.drew.cell? ⟨gd, 1, none⟩ = some (.int .i64 at_) ∧ W5.drew.cell? ⟨gd, 2, none⟩ = some (.slice Bx fl cB) ∧ W5.drew.cell? ⟨gy + 1, 0, none⟩ = some (.int .i64 la) := ⟨p0, p1, p2, pl⟩
        refine in_round_held (fun X => X.cell? ⟨gd, 0, none⟩ = some (.int .i64 seq) ∧ X.cell? ⟨gd, 1, none⟩ = some (.int .i64 at_) ∧ X.cell? ⟨gd, 2, none⟩ = some (.slice Bx fl cB) ∧ X.cell? ⟨gy + 1, 0, none⟩ = some (.int .i64 la)) hmix (by kernel_rfl) ?_
        refine wpAnyH_take (i := 0) (v := ?_) rfl (by kernel_rfl) (by kernel_rfl) (by kernel_rfl) (fun _ _ _ h => h) (Or.inl ⟨by rfl, ?_⟩) hSd ?_
        rotate_left
        · intro wx hSx
          obtain ⟨s0, s1, s2, s3⟩ := hSx
          go_simp
          try with_reducible rfl
        try simp only [Act.put, List.setIfInBounds_toArray, List.set_cons_zero, List.set_cons_succ]
        refine wpAnyH_take (i := 1) (v := ?_) rfl (by kernel_rfl) (by kernel_rfl) (by kernel_rfl) (fun _ _ _ h => h) (Or.inl ⟨by rfl, ?_⟩) hSd ?_
        rotate_left
        · intro wx hSx
          obtain ⟨s0, s1, s2, s3⟩ := hSx
          go_simp
          try with_reducible rfl
        try simp only [Act.put, List.setIfInBounds_toArray, List.set_cons_zero, List.set_cons_succ]
        refine wpAnyH_take (i := 2) (v := ?_) rfl (by kernel_rfl) (by kernel_rfl) (by kernel_rfl) (fun _ _ _ h => h) (Or.inl ⟨by rfl, ?_⟩) hSd ?_
        rotate_left
        · intro wx hSx
          obtain ⟨s0, s1, s2, s3⟩ := hSx
          go_simp
          try with_reducible rfl
        try simp only [Act.put, List.setIfInBounds_toArray, List.set_cons_zero, List.set_cons_succ]
        refine wpAnyH_take (i := 3) (v := ?_) rfl (by kernel_rfl) (by kernel_rfl) (by kernel_rfl) (fun _ _ _ h => h) (Or.inl ⟨by rfl, ?_⟩) hSd ?_
        rotate_left
        · intro wx hSx
          obtain ⟨s0, s1, s2, s3⟩ := hSx
          go_simp
          try with_reducible rfl
        try simp only [Act.put, List.setIfInBounds_toArray, List.set_cons_zero, List.set_cons_succ]
        refine wpAnyH_take (i := 4) (v := ?_) rfl (by kernel_rfl) (by kernel_rfl) (by kernel_rfl) (fun _ _ _ h => h) (Or.inl ⟨by rfl, ?_⟩) hSd ?_
        rotate_left
        · intro wx hSx
          obtain ⟨s0, s1, s2, s3⟩ := hSx
          go_simp
          try with_reducible rfl
        try simp only [Act.put, List.setIfInBounds_toArray, List.set_cons_zero, List.set_cons_succ]
        refine wpAnyH_take (i := 5) (v := ?_) rfl (by kernel_rfl) (by kernel_rfl) (by kernel_rfl) (fun _ _ _ h => h) (Or.inl ⟨by rfl, ?_⟩) hSd ?_
        rotate_left
        · intro wx hSx
          obtain ⟨s0, s1, s2, s3⟩ := hSx
          go_simp
          try with_reducible rfl
        try simp only [Act.put, List.setIfInBounds_toArray, List.set_cons_zero, List.set_cons_succ]
        refine wpAnyH_take (i := 6) (v := ?_) rfl (by kernel_rfl) (by kernel_rfl) (by kernel_rfl) (fun _ _ _ h => h) (Or.inl ⟨by rfl, ?_⟩) hSd ?_
        rotate_left
        · intro wx hSx
          obtain ⟨s0, s1, s2, s3⟩ := hSx
          go_simp
          try with_reducible rfl
        try simp only [Act.put, List.setIfInBounds_toArray, List.set_cons_zero, List.set_cons_succ]
        refine wpAnyH_take (i := 8) (v := ?_) rfl (by kernel_rfl) (by kernel_rfl) (by kernel_rfl) (fun _ _ _ h => h) (Or.inl ⟨by rfl, ?_⟩) hSd ?_
        rotate_left
        · intro wx hSx
          obtain ⟨s0, s1, s2, s3⟩ := hSx
          go_simp
          try with_reducible rfl
        try simp only [Act.put, List.setIfInBounds_toArray, List.set_cons_zero, List.set_cons_succ]
        refine wpAnyH_take (i := 9) (v := ?_) rfl (by kernel_rfl) (by kernel_rfl) (by kernel_rfl) (fun _ _ _ h => h) (Or.inl ⟨by rfl, ?_⟩) hSd ?_
        rotate_left
        · intro wx hSx
          obtain ⟨s0, s1, s2, s3⟩ := hSx
          go_simp
          try with_reducible rfl
        try simp only [Act.put, List.setIfInBounds_toArray, List.set_cons_zero, List.set_cons_succ]
        refine wpAnyH_ready (rs := [7]) (by kernel_rfl) (by simp) ?_
        refine AllReadyH.cons rfl (fun K hK => ?_) AllReadyH.nil
        go_simp
        refine hputq.out.mono ?_
        rintro e w6 ⟨A6, c6, rfl, hB6, hE6⟩
        have hev := hide (hevq.out A6 c6 w6 hB6 (hE05.out.trans hE6))
        have hS6 : w6.cell? ⟨gd, 0, none⟩ = some (.int .i64 seq) ∧ w6.cell? ⟨gd, 1, none⟩ = some (.int .i64 at_) ∧ w6.cell? ⟨gd, 2, none⟩ = some (.slice Bx fl cB) ∧ w6.cell? ⟨gy + 1, 0, none⟩ = some (.int .i64 la) := ⟨(rpd.out.ext hE6).cell 0 rfl, (rpd.out.ext hE6).cell 1 rfl, (rpd.out.ext hE6).cell 2 rfl, (hlrd.out.ext hE6).cell 0 rfl⟩
        replace hB6 := hide hB6
        replace hE6 := hide hE6
        refine hK.out _ _ hS6 (fun _ => ?_)
        clear hK K
        try simp only [Act.put, List.setIfInBounds_toArray, List.set_cons_zero, List.set_cons_succ]
        refine wpAnyH_ready (rs := [10]) (by kernel_rfl) (by simp) ?_
        refine AllReadyH.cons rfl (fun K hK => ?_) AllReadyH.nil
        go_simp
        refine hev.out.mono ?_
        rintro e w8 ⟨A8, c8, rfl, hB8, hE8⟩
        have hS8 : w8.cell? ⟨gd, 0, none⟩ = some (.int .i64 seq) ∧ w8.cell? ⟨gd, 1, none⟩ = some (.int .i64 at_) ∧ w8.cell? ⟨gd, 2, none⟩ = some (.slice Bx fl cB) ∧ w8.cell? ⟨gy + 1, 0, none⟩ = some (.int .i64 la) := ⟨((rpd.out.ext hE6.out).ext hE8).cell 0 rfl, ((rpd.out.ext hE6.out).ext hE8).cell 1 rfl, ((rpd.out.ext hE6.out).ext hE8).cell 2 rfl, ((hlrd.out.ext hE6.out).ext hE8).cell 0 rfl⟩
        have r8 := hide ((hlrd.out.ext hE6.out).ext hE8)
        have v1 := r8.out.free 0
        have hE88 := hide (hE5.out.trans ((Ext.refl W5).drew.trans (hE6.out.trans hE8)))
        replace hB8 := hide hB8
        replace hE8 := hide hE8
        refine hK.out _ _ hS8 (fun _ => ?_)
        clear hK K
        try simp only [Act.put, List.setIfInBounds_toArray, List.set_cons_zero, List.set_cons_succ]
        refine wpAnyH_take (i := 11) (v := ?_) rfl (by kernel_rfl) (by kernel_rfl) (by kernel_rfl) (fun _ _ _ h => h) (Or.inl ⟨by rfl, ?_⟩) hS8 ?_
        rotate_left
        · intro wx hSx
          obtain ⟨s0, s1, s2, s3⟩ := hSx
          go_simp
          try with_reducible rfl
        try simp only [Act.put, List.setIfInBounds_toArray, List.set_cons_zero, List.set_cons_succ]
        refine wpAnyH_take (i := 12) (v := ?_) rfl (by kernel_rfl) (by kernel_rfl) (by kernel_rfl) (fun _ _ _ h => h) (Or.inl ⟨by rfl, ?_⟩) hS8 ?_
        rotate_left
        · intro wx hSx
          obtain ⟨s0, s1, s2, s3⟩ := hSx
          go_simp
          try with_reducible rfl
        try simp only [Act.put, List.setIfInBounds_toArray, List.set_cons_zero, List.set_cons_succ]
        refine wpAnyH_take (i := 13) (v := ?_) rfl (by kernel_rfl) (by kernel_rfl) (by kernel_rfl) (fun _ _ _ h => h) (Or.inl ⟨by rfl, ?_⟩) hS8 ?_
        rotate_left
        · intro wx hSx
          obtain ⟨s0, s1, s2, s3⟩ := hSx
          go_simp
          try with_reducible rfl
        try simp only [Act.put, List.setIfInBounds_toArray, List.set_cons_zero, List.set_cons_succ]
        refine wpAnyH_take (i := 14) (v := ?_) rfl (by kernel_rfl) (by kernel_rfl) (by kernel_rfl) (fun _ _ _ h => h) (Or.inl ⟨by rfl, ?_⟩) hS8 ?_
        rotate_left
        · intro wx hSx
          obtain ⟨s0, s1, s2, s3⟩ := hSx
          go_simp
          try with_reducible rfl
        try simp only [Act.put, List.setIfInBounds_toArray, List.set_cons_zero, List.set_cons_succ]
        refine wpAnyH_done (by kernel_rfl) ?_ _
        dsimp only [OnlyN]
        obtain ⟨z0, z1, z2, z3⟩ := hS8
        gi_wp2_with fail
        have howz : Own8 (w8.setCell ⟨gy + 1, 0, none⟩ (.int .i64 seq)) 0 A8 n8 c8 X3 := ⟨hB8.out.1, (hB8.out.2.lower (Nat.zero_le _)).setCell (hB8.out.2.unlike r8.out (by decide)) _⟩
        have hchz : Chg (fun k => k = gy + 1) X2 (w8.setCell ⟨gy + 1, 0, none⟩ (.int .i64 seq)) := (hch.out.trans (Chg.of_ext hE88.out _) fun _ _ h => h).trans (Chg.of_set (S := fun k => k = gy + 1) w8 _ rfl) fun _ _ h => h
        exact ⟨⟨i + 1, n8, c8, A8, X3, seq, rfl, rfl, by omega, by omega, by omega, hd2, hYX3, hrs3, hll3, hide howz, hide (r8.out.put 0 _), hide hchz⟩, by simp only [intOf]; omega⟩
      · obtain rfl : i = j := by omega
        have hdr : bP.drop i = [] := List.drop_eq_nil_of_le (by rw [hbPc.out, List.length_map, hcbl.out]; exact Nat.le_refl _)
        have hYe : Y = Xb := by have := hYX.out; rw [hdr] at this; simpa [blockD] using this
        have hlae : la = lz := by have := hll.out; rw [hdr] at this; exact this
        have hJr := hst.out _ _ _ hJ2.out (StB.num (W := W) hch.out (by omega) rrl.out)
        have ryr := hch.out.row rry.out (by omega)
        have r0r := hch.out.row rr0.out (fun e => Row.unlike rr0.out rrl.out (by decide) e)
        have r1r := hch.out.row rr1.out (fun e => Row.unlike rr1.out rrl.out (by decide) e)
        have r2r := hch.out.row rr2.out (by omega)
        have ky := ryr.cell 0 rfl
        have kl := hrl'.out.cell 0 rfl
        have hxl2 := hxl.out
        have hn5e := hown.out.1
        have hyx := hY.out xs ⟨la, Xb, A5, c5⟩ wr hJr ⟨by rw [hxl2]; exact hplt.out, by rw [hxl2, ← hbP.out, ← hlst.out, hlae, hlz.out], by rw [hxl2, ← hbP.out, ← hlst.out, ← hYe, hY0.out], 0, by have := hown.out.2; rw [hn5e] at this; exact this⟩
        obtain ⟨fn, tmps, assign, body, hy, hRn⟩ := hyx
        simp only [Blk.args] at hy hRn
        rw [← hn5e] at hy
        replace hn5e := hide hn5e
        replace hJr := hide hJr
        replace ryr := hide ryr
        replace r0r := hide r0r
        replace r1r := hide r1r
        replace r2r := hide r2r
        replace hYe := hide hYe
        replace hlae := hide hlae
        clear hY
        gi_wp2_with fail
        refine RoundIn.mono (F := Fence.wide.inRound l2) hRn ?_
        rintro e W9 ⟨rfl, hJ9, hk9, ho9⟩
        gi_wp2_with fail
        have hlx : (pre ++ [pre.length]).length = pre.length + 1 := by rw [List.length_append]; rfl
        refine ⟨(hch.out.others fun k hk => ⟨3, #[.int .i64 lst], by rw [hk]; exact rrl.out⟩).trans ho9, KeepB.of rr1.out (hk9.2 _ _ _ (by decide) (by decide) r1r.out) rr2.out (hk9.2 _ _ _ (by decide) (by decide) r2r.out), ⟨_, ?_, hJ9⟩, hk9.2 _ _ _ (by decide) (by decide) r0r.out, hk9.2 _ _ _ (by decide) (by decide) r1r.out, hk9.2 _ _ _ (by decide) (by decide) r2r.out, hk9.2 _ _ _ (by decide) (by decide) ryr.out, ?_, hk9.1 w0 hB hEwr.out, ?_⟩
        · rw [List.length_append, hxl2, hlx]; rfl
        · rw [hlx, hR.out.last2, ← hlz.out, ← hlae.out]; exact hk9.2 _ _ _ (by decide) (by decide) hrl'.out
        · have := hch.out.size
          have := ho9.size
          omega
  case hdone =>
    rintro D xs X2 X3 X4 hD hI ⟨hF1, hF2, hF3, hF4⟩ hAl hk
    have hI4 := hide (hstI.out _ _ _ (hstE.out _ _ _ hI hF4) hAl)
    replace hk := hide hk
    clear hI hAl hF4
    gi_wp2_with fail
    refine leave_mark (B := w4.heap.size) rfl hk.out hD fun Wz ha => ⟨_, results_none rfl _ _ _, ?_⟩
    obtain ⟨⟨bl, hbl, hj⟩, _⟩ := hstI.out _ _ _ hI4.out ha
    exact ⟨⟨_, rfl⟩, bl, Wz, hj, by rw [hbl, hPl.out]; exact hF1, rfl⟩
end
section
open Go.RowKit Go.Shelf
attribute [local go_sem] Oper.semAt_some wide_depth wide_fn
theorem HB.stb {base h1 h2 : Nat} {Hd Bd : List UInt8} {W A B : World} (h : HB base h1 h2 Hd Bd A) (hs : StB W A B) : HB base h1 h2 Hd Bd B := by
  obtain ⟨A1, A2, c1, c2, r1, r2, o1, o2, hne⟩ := h
  have hb : ∀ {X : Option Addr} {n c : Nat} {xs : List Value}, Buf A base 5 X n c xs → Buf B base 5 X n c xs := fun hb => hb.chg hs fun a ha hn => by
    rcases hb.2.2 with ⟨h0, _⟩ | ⟨g, cur, hA, _, hr, _⟩
    · rw [h0] at ha; cases ha
    · rw [hA] at ha
      cases ha
      exact absurd (hn.2 _ _ hr) (by decide)
  exact ⟨A1, A2, c1, c2, hs.row r1 fun hn => absurd (hn.2 _ _ r1) (by decide), hs.row r2 fun hn => absurd (hn.2 _ _ r2) (by decide), ⟨o1.1, hb o1.2⟩, ⟨o2.1, hb o2.2⟩, hne⟩
def SEnc (base h1 h2 : Nat) (Hd Bd : List UInt8) (w W : World) : Prop := HB base h1 h2 Hd Bd W ∧ Ext w W
set_option maxRecDepth 100000 in
set_option maxHeartbeats 1000000 in
theorem sdEncode_no (ds : List DocC) (A : Option Addr) (m c : Nat) (w : World) (hm : m = ds.length) (h : DocsOk w A ds) (hm9 : m ≤ 1000000000) (hok : okDs (dcs ds) = false) :
    Calls Tryz.prog 38 #[.slice A m c] w fun e w' => e = .returned (.tuple #[.slice none 0 0, .int .i64 120]) ∧ Ext w w' := by
  have hck := sdCheck_any ds A m c w hm h hm9
  rw [hok, if_neg (by decide)] at hck
  replace hck := hide hck
  replace hm := hide hm
  replace h := hide h
  refine (callsIn_wide (n := 0)).1 ?_
  refine callsIn_of_wp_marks Tryz.func38 rfl trivial ?_
  simp only [Tryz.ntmps38, List.size_toArray, List.length_cons, List.length_nil, Nat.reduceAdd, Nat.reduceSub, Array.replicate_succ, Array.replicate_zero, List.push_toArray, List.append_toArray, List.nil_append, List.cons_append]
  gi_wp2_with fail
  refine (callsIn_wide.2 hck.out).mono ?_
  rintro e w1 ⟨rfl, hE1⟩
  gi_wp2_with fail
  exact leave_plain rfl (results_tmp2 rfl _ _ _) ⟨rfl, hE1⟩
set_option maxRecDepth 100000 in
set_option maxHeartbeats 8000000 in
theorem sdEncode_yes (ds : List DocC) (A : Option Addr) (m c : Nat) (w : World) (hm : m = ds.length) (h : DocsOk w A ds) (hA : ∀ a, A = some a → a.spot = none) (hmc : m ≤ c) (hok : okDs (dcs ds) = true) (hsz : (blockD 0 (dcs ds)).length ≤ 50000000) :
    Calls Tryz.prog 38 #[.slice A m c] w fun e w' => OkB w (encDs (dcs ds)) e w' := by
  have hml : m ≤ 65536 := by
    have := hok; unfold okDs at this
    rw [Bool.and_eq_true] at this
    have := of_decide_eq_true this.1
    unfold dcs at this
    rw [List.length_map] at this
    omega
  have hck := sdCheck_any ds A m c w hm h (by omega)
  rw [hok, if_pos rfl] at hck
  have hbi := fun B b0 W hB hw hb => blocks_iter ds A m c b0 B w W hm h hA hmc hok hsz hB hw hb
  obtain ⟨P, hP⟩ : ∃ P, P = dcs ds := ⟨_, rfl⟩
  have hPl : P.length = m := by rw [hP, hm]; exact List.length_map ..
  rw [← hP] at hok hsz hbi ⊢
  have hput := hide (fun A n c x l W h1 h2 h3 h4 h5 => put_any A n c x l W h1 h2 h3 h4 h5)
  have hwm := wrap_u64 (m := m) (by omega)
  replace hck := hide hck
  replace hbi := hide hbi
  replace hPl := hide hPl
  replace hm := hide hm
  replace h := hide h
  replace hP := hide hP
  replace hok := hide hok
  replace hsz := hide hsz
  replace hA := hide hA
  refine (callsIn_wide (n := 0)).1 ?_
  refine callsIn_of_wp_marks Tryz.func38 rfl trivial ?_
  simp only [Tryz.ntmps38, List.size_toArray, List.length_cons, List.length_nil, Nat.reduceAdd, Nat.reduceSub, Array.replicate_succ, Array.replicate_zero, List.push_toArray, List.append_toArray, List.nil_append, List.cons_append]
  gi_wp2_with fail
  refine (callsIn_wide.2 hck.out).mono ?_
  rintro e w1 ⟨rfl, hE1⟩
  gi_wp2_with fail
  refine (callsIn_wide.2 (hput.out none 0 0 m [] w1 rfl (.inl rfl) (fun _ => rfl) (by omega) (by omega))).mono ?_
  rintro e w2 hNB
  obtain ⟨A2, c2, rfl, hB2, hE2⟩ := hNB
  rw [List.nil_append] at hB2 ⊢
  obtain ⟨k2, hk2⟩ : ∃ k, k = (vb m).length := ⟨_, rfl⟩
  rw [← hk2] at hB2 ⊢
  replace hB2 := hide hB2
  replace hk2 := hide hk2
  replace hE2 := hide (hE1.trans hE2)
  gi_wp2_with fail
  obtain ⟨W3, hW3⟩ : ∃ W3, W3 = (w2.alloc (Obj.cells #[Value.slice A2 k2 c2] 25)).alloc (Obj.cells #[Value.slice none 0 0] 25) := ⟨_, rfl⟩
  rw [← hW3]
  obtain ⟨h1, hh1⟩ : ∃ h1, h1 = w2.heap.size := ⟨_, rfl⟩
  have q1 : Row W3 h1 25 #[.slice A2 k2 c2] := by rw [hW3, hh1]; exact (Row.new w2 _ _).alloc _
  have q2 : Row W3 (h1 + 1) 25 #[.slice none 0 0] := by
    have := Row.new (w2.alloc (Obj.cells #[Value.slice A2 k2 c2] 25)) 25 #[.slice none 0 0]
    rw [World.size_alloc, ← hh1] at this
    rw [hW3]; exact this
  have hE23 : Ext w2 W3 := by rw [hW3]; exact ((Ext.refl w2).alloc _).alloc _
  have hh1w : w.heap.size ≤ h1 := by rw [hh1]; exact hE2.out.size
  have hHB : HB w.heap.size h1 (h1 + 1) (vb m) [] W3 := ⟨A2, none, c2, 0, by rw [← hk2.out]; exact q1, q2, ⟨rfl, by rw [← hk2.out]; exact (hB2.out.lower hE1.size).ext hE23⟩, ⟨rfl, Buf.nil _ _ _⟩, fun _ _ _ e => by cases e⟩
  replace hE23 := hide (hE2.out.trans hE23)
  rw [← hh1]
  refine (callsIn_wide.2 (blocks_any A m c W3)).mono ?_
  rintro e w4 ⟨b0, rfl, rb0, hb0, hE4⟩
  have hP4 : SEnc w.heap.size h1 (h1 + 1) (vb m) [] w w4 := ⟨hHB.ext hE4, hE23.out.trans hE4⟩
  have hit := hbi.out w.heap.size b0 w4 (Nat.le_refl _) (hE23.out.trans hE4) rb0
  have hwsz := hP4.2.size
  replace hP4 := hide hP4
  replace hit := hide hit
  replace hW3 := hide hW3
  replace hh1 := hide hh1
  clear q1 q2 hHB hE4 rb0 hB2 hE23 hE2 hk2
  gi_wp2_with fail
  unfold BlkIter at hit
  have hIa : ∀ Hd Bd X Y2, SEnc w.heap.size h1 (h1 + 1) Hd Bd w X → Alike w4.heap.size X Y2 → SEnc w.heap.size h1 (h1 + 1) Hd Bd w Y2 := fun Hd Bd X Y2 hi ha => ⟨hi.1.alike ha, ha.ext hi.2 hwsz⟩
  have hIs : ∀ Hd Bd W0 X Y2, Ext w4 W0 → SEnc w.heap.size h1 (h1 + 1) Hd Bd w X → StB W0 X Y2 → SEnc w.heap.size h1 (h1 + 1) Hd Bd w Y2 := fun Hd Bd W0 X Y2 h0 hi hs => ⟨hi.1.stb hs, hi.2.chg hs fun i hi hn => by have := hn.1; have := h0.size; omega⟩
  replace hIa := hide hIa
  replace hIs := hide hIs
  refine range_allS (gf := 131) (lb := #[.pointer (some ⟨b0, 0, none⟩)]) rfl (enters_of Tryz.func131 (by kernel_rfl) rfl) hit.out (fun _ => rfl) (fun W A B h k o hk ho hc => h.old k o hk ho hc) (fun _ _ _ h => by rw [h.2]; exact KeepsOthers.refl _) (KpB.trans w.heap.size) (KpB.alike hwsz)
    (fun xs X => SEnc w.heap.size h1 (h1 + 1) (vb m ++ headD 0 ((chunkL 16 P).take xs.length)) (blockD 0 (P.take (xs.length * 16))) w X) (fun xs A B h ha => hIa.out _ _ _ _ h ha) (fun W0 xs A B h0 h hs => hIs.out _ _ _ _ _ h0 h hs) ?h0 ?hround ?hdone
  case h0 =>
    intro X ha
    have := hIa.out _ _ _ _ hP4.out ha
    simpa [headD, blockD] using this
  case hround =>
    rintro l xs ⟨la, Xb, A9, c9⟩ X hI ⟨hlt, hla, hXb, base0, hBx⟩
    simp only at hla hXb hBx
    unfold Blk.args
    simp only
    have hR := sd_round hok.out hsz.out (r := xs.length) hlt
    have hne := hR.ne
    have hhead := hR.head
    have hbody := hR.body
    have hlen := hR.len
    have hhlen := hR.hlen
    have hhi2 := hR.hi2
    rw [← hla] at hne hhead hhi2
    rw [← hXb] at hhead hbody hlen
    clear hR hla hXb
    obtain ⟨Hd, hHd⟩ : ∃ Hd, Hd = vb m ++ headD 0 ((chunkL 16 P).take xs.length) := ⟨_, rfl⟩
    obtain ⟨Bd, hBd⟩ : ∃ Bd, Bd = blockD 0 (P.take (xs.length * 16)) := ⟨_, rfl⟩
    rw [← hHd, ← hBd] at hI
    rw [← hBd] at hbody hlen
    have hnx : (xs ++ [(⟨la, Xb, A9, c9⟩ : Blk)]).length = xs.length + 1 := by rw [List.length_append]; rfl
    obtain ⟨lN, hlN⟩ : ∃ lN : Nat, la = (lN : Int) := ⟨la.toNat, by omega⟩
    subst hlN
    rw [Int.toNat_natCast] at hhead
    have hlN2 : lN < 1099511627777 := by have := hhi2.2; omega
    obtain ⟨n9, hn9⟩ : ∃ n9, n9 = Xb.length := ⟨_, rfl⟩
    rw [← hn9] at hhead hlen hBx ⊢
    have hXl : n9 ≤ 50000000 := by have := hsz.out; omega
    have hBdl : Bd.length ≤ 50000000 := by have := hsz.out; omega
    have hwl := wrap_u64 (m := lN) (by omega)
    have hw9 := wrap_u64 (m := n9) (by omega)
    have hHdl : Hd.length ≤ 2000000 := by
      have h2 := vb_len10 (n := m) (by omega)
      have h6 := hPl.out
      rw [hHd, List.length_append]
      omega
    obtain ⟨H1, hH1⟩ : ∃ H1, H1 = Hd ++ vb lN := ⟨_, rfl⟩
    obtain ⟨H2, hH2⟩ : ∃ H2, H2 = H1 ++ vb n9 := ⟨_, rfl⟩
    have hl1 := vb_len10 (n := lN) (by omega)
    have hl2 := vb_len10 (n := n9) (by omega)
    have hH1l : H1.length ≤ 2000010 := by rw [hH1, List.length_append]; omega
    have hH2l : H2.length ≤ 2000020 := by rw [hH2, List.length_append]; omega
    replace hI := hide hI
    replace hBx := hide hBx
    replace hHd := hide hHd
    replace hBd := hide hBd
    replace hH1 := hide hH1
    replace hH2 := hide hH2
    replace hn9 := hide hn9
    replace hhead := hide hhead
    replace hbody := hide hbody
    replace hnx := hide hnx
    clear hl1 hl2 hlen hhlen hhi2
    gi_wp2_with fail
    refine ⟨KeepsOthers.refl _, KpB.ext (Ext.refl _), fun W2 hA2 => ?_⟩
    have hI2 := hIa.out _ _ _ _ hI.out hA2
    have hBx2 := hide (hA2.buf hBx.out)
    clear hA2 hI hBx
    obtain ⟨hHBr2, hEw2⟩ := hI2
    have hHBr := hHBr2
    obtain ⟨A1, B1, c1, d1, r1, r2, o1, o2, hdj⟩ := hHBr
    have f1 := r1.cell 0 rfl
    obtain ⟨nh, hnh⟩ : ∃ nh, nh = Hd.length := ⟨_, rfl⟩
    rw [← hnh] at f1 hHdl o1
    have hwrs := hEw2.size
    replace hnh := hide hnh
    replace hHBr2 := hide hHBr2
    replace hEw2 := hide hEw2
    replace r1 := hide r1
    replace r2 := hide r2
    replace o1 := hide o1
    replace o2 := hide o2
    replace hdj := hide hdj
    gi_wp2_with fail
    refine (in_round (hput.out A1 nh c1 lN Hd W2 o1.out.1 o1.out.2.cells o1.out.nil_ (by omega) (by omega))).mono ?_
    rintro e w7 hNB
    obtain ⟨A7, c7, rfl, hB7, hE7⟩ := hNB
    rw [← hH1.out] at hB7 ⊢
    obtain ⟨n7, hn7⟩ : ∃ n7, n7 = H1.length := ⟨_, rfl⟩
    rw [← hn7] at hB7 hH1l ⊢
    have ho7 : Hid (Own8 w7 w.heap.size A7 n7 c7 H1) := hide ⟨hn7, hB7.lower hwrs⟩
    replace hn7 := hide hn7
    replace hE7 := hide hE7
    clear hB7
    gi_wp2_with fail
    refine (in_round (hput.out A7 n7 c7 n9 H1 w7 ho7.out.1 ho7.out.2.cells ho7.out.nil_ (by omega) (by omega))).mono ?_
    rintro e w8 hNB
    obtain ⟨A8, c8, rfl, hB8, hE8⟩ := hNB
    rw [← hH2.out] at hB8 ⊢
    obtain ⟨n8, hn8⟩ : ∃ n8, n8 = H2.length := ⟨_, rfl⟩
    rw [← hn8] at hB8 hH2l ⊢
    have hE78 : Hid (Ext W2 w8) := hide (hE7.out.trans hE8)
    have r18 := r1.out.ext hE78.out
    have s0 := r18.cell 0 rfl
    have s1 := r18.free 0
    have hHB8 := hide (hHBr2.out.head (W6 := w8) (B1 := w7.heap.size) (by omega) hE78.out hn8 hB8 hE7.out.size (by have := hE7.out.size; omega))
    replace r18 := hide r18
    replace hn8 := hide hn8
    clear hB8 hE8
    have hEw9 : Ext w (w8.setCell ⟨h1, 0, none⟩ (.slice A8 n8 c8)) := (hEw2.out.trans hE78.out).setCell (by simpa using hh1w) _
    have r28 : Row (w8.setCell ⟨h1, 0, none⟩ (.slice A8 n8 c8)) (h1 + 1) 25 #[.slice B1 Bd.length d1] := (r2.out.ext hE78.out).away (by simp) _
    have s2 := (r2.out.ext hE78.out).cell 0 rfl
    have hb9 : Buf (w8.setCell ⟨h1, 0, none⟩ (.slice A8 n8 c8)) w.heap.size 5 B1 Bd.length d1 (Bd.map B8) := (o2.out.2.ext hE78.out).setCell ((o2.out.2.ext hE78.out).unlike r18.out (by decide)) _
    have hx9 : Cells (w8.setCell ⟨h1, 0, none⟩ (.slice A8 n8 c8)) A9 (Xb.map B8) := ((hBx2.out.ext hE78.out).setCell ((hBx2.out.ext hE78.out).unlike r18.out (by decide)) _).cells
    have hXl9 : (Xb.map B8).length = n9 := by rw [List.length_map]; exact hn9.out.symm
    have hsz9 := hEw9.size
    replace hEw9 := hide hEw9
    replace r28 := hide r28
    replace hb9 := hide hb9
    replace hx9 := hide hx9
    replace hXl9 := hide hXl9
    gi_wp2_with (gi_at_builtin; refine wpListIn_buf elemB hb9.out hx9.out (.tmp 30) (.tmp 31) rfl rfl rfl rfl rfl hXl9.out (bytes_one _) (by omega) hsz9 (fun A10 c10 w10 hb10 hg10 hx10 hl10 => ?_); have r210 := HB.rows hHB8.out r28.out hg10 r28.out (by decide); have u0 := r210.cell 0 rfl; have u1 := r210.free 0; replace r210 := hide r210; replace hb10 := hide hb10; replace hg10 := hide hg10; replace hx10 := hide hx10; replace hl10 := hide hl10)
    obtain ⟨g1, g2, g3, g4⟩ := HB.body (x := Xb) hHB8.out (by omega) r28.out hg10.out (by rw [List.length_append, ← hn9.out]) (by rw [List.map_append]; exact hb10.out) hl10.out
    refine ⟨(hE78.out.others.trans (KeepsOthers.setCell _ _ _)).trans g2, ⟨fun w0 h0 he => g4 w0 ((he.trans hE78.out).setCell (p := ⟨h1, 0, none⟩) (by show w0.heap.size ≤ h1; omega) _) (by omega) (by omega), fun g t cs t1 t2 hr => ?_⟩, ?_, g4 _ hEw9.out (Nat.le_refl _) (by omega)⟩
    · have hr8 := hr.ext hE78.out
      have hr9 := hr8.away (p := ⟨h1, 0, none⟩) (fun e => Row.unlike hr8 r18.out t1 e) (.slice A8 n8 c8)
      exact g3 _ _ _ hr9 t2 (fun e => Row.unlike hr9 r28.out t1 e)
    · rw [hnx.out, hhead.out, hbody.out, ← List.append_assoc, ← List.append_assoc, ← hHd.out, ← hH1.out, ← hH2.out]
      exact g1
  case hdone =>
    rintro D xs W2 W3 W5 hD hI ⟨hF1, rfl⟩ hAl hk
    have henc := encDs_all P xs.length hF1
    rw [hPl.out] at henc
    have hI5 := hIa.out _ _ _ _ hI hAl
    have hHB := hI5.1
    have hE5 := hI5.2
    obtain ⟨A1, B1, c1, d1, r1, r2, o1, o2, hdj⟩ := hHB
    obtain ⟨Hd, hHd⟩ : ∃ Hd, Hd = vb m ++ headD 0 ((chunkL 16 P).take xs.length) := ⟨_, rfl⟩
    obtain ⟨Bd, hBd⟩ : ∃ Bd, Bd = blockD 0 (P.take (xs.length * 16)) := ⟨_, rfl⟩
    rw [← hHd] at r1 o1 henc
    rw [← hBd] at r2 o2 henc
    have f1 := r1.cell 0 rfl
    have f2 := r2.cell 0 rfl
    have hHl : Hd.length ≤ 50000000 := by
      have h2 := vb_len10 (n := m) (by omega)
      have h1 := sd_hlen hok.out hsz.out (chunkL 16 P).length
      rw [List.take_length] at h1
      have h3 : (headD 0 ((chunkL 16 P).take xs.length)).length ≤ (headD 0 (chunkL 16 P)).length := by
        have h4 := headD_app ((chunkL 16 P).take xs.length) ((chunkL 16 P).drop xs.length) 0
        rw [List.take_append_drop] at h4
        rw [h4, List.length_append]
        omega
      have h5 := chunkL_len (k := 16) (by omega) P
      have h6 := hPl.out
      rw [hHd, List.length_append]
      omega
    have hBl : Bd.length ≤ 50000000 := by have := sd_take_len P (xs.length * 16); have := hsz.out; rw [hBd]; omega
    have hsz5 := hE5.size
    have hx5 := o2.2.cells
    have hb5 := o1.2
    have hln : (Bd.map B8).length = Bd.length := List.length_map ..
    replace henc := hide henc
    replace hHd := hide hHd
    replace hBd := hide hBd
    replace r1 := hide r1
    replace r2 := hide r2
    replace hx5 := hide hx5
    replace hb5 := hide hb5
    replace hln := hide hln
    replace hE5 := hide hE5
    replace hk := hide hk
    clear hI hI5 hF1 hAl o1 o2 hdj
    gi_wp2_with (gi_at_builtin; refine wpListIn_buf elemB hb5.out hx5.out (.tmp 33) (.tmp 34) rfl rfl rfl rfl rfl hln.out (bytes_one _) (by omega) hsz5 (fun A6 c6 w6 hb6 hg6 hx6 hl6 => ?_); replace hb6 := hide hb6; replace hg6 := hide hg6; replace hx6 := hide hx6; replace hl6 := hide hl6)
    have hk6 : w6.heap[D]? = some (.deferred (some [])) := (grown_others hb5.out hg6.out).same _ _ hk.out rfl
    refine leave_mark (B := w4.heap.size) rfl hk6 hD fun W ha => ⟨_, results_tmp2 rfl _ _ _, ?_⟩
    refine ⟨A6, c6, ?_, ⟨rfl, ?_⟩, ha.ext (hx6.out w hE5.out (Nat.le_refl _)) hwsz⟩
    · rw [henc.out, List.length_append]; rfl
    · rw [henc.out, List.length_append, List.map_append]
      exact ha.buf hb6.out
end
section
open Go.RowKit
set_option maxRecDepth 100000 in
set_option maxHeartbeats 1000000 in
theorem shared_any (a b : List UInt8) (w : World) (ha : a.length ≤ 1000000000) (hb : b.length ≤ 1000000000) :
    Calls Tryz.prog 146 #[.string ⟨a.toArray⟩, .string ⟨b.toArray⟩] w fun e w' => e = .returned (.int .i64 (cpl a b : Int)) ∧ Ext w w' := by
  obtain ⟨Z, hZ⟩ : ∃ Z, Z = cpl a b := ⟨_, rfl⟩
  rw [← hZ]
  obtain ⟨n, hn⟩ : ∃ n, n = a.length := ⟨_, rfl⟩
  obtain ⟨m, hm⟩ : ∃ m, m = b.length := ⟨_, rfl⟩
  have hsa : (⟨a.toArray⟩ : ByteArray).size = n := by rw [hn]; exact ByteArray.size_mk_toArray a
  have hsb : (⟨b.toArray⟩ : ByteArray).size = m := by rw [hm]; exact ByteArray.size_mk_toArray b
  rw [← hn] at ha
  rw [← hm] at hb
  have hZn : Z ≤ n ∧ Z ≤ m := by have := cpl_le a b; omega
  replace hZ := hide hZ
  replace hn := hide hn
  replace hm := hide hm
  go_enter Tryz.func146, Tryz.ntmps146
  go_wp2_with fail
  go_loopw [5] (fun s5 wr => ∃ i : Nat, s5 = .int .i64 (i : Int) ∧ i ≤ n ∧ i ≤ m ∧ Hid (a.take i = b.take i) ∧ Hid (Ext w wr)) (fun s5 _ => n - (intOf s5).toNat)
  case atStart => exact ⟨0, rfl, by omega, by omega, hide (by simp), hide (Ext.refl w)⟩
  case round =>
    obtain ⟨i, rfl, hin, him, ht, hE⟩ := hrel
    have hZi := cpl_drop i a b ht.out (by rw [← hn.out]; exact hin) (by rw [← hm.out]; exact him)
    rw [← hZ.out] at hZi
    replace hZi := hide hZi
    by_cases h1 : i < n
    · by_cases h2 : i < m
      · obtain ⟨x, hx⟩ : ∃ x, a[i]? = some x := ⟨_, List.getElem?_eq_getElem (by rw [← hn.out]; exact h1)⟩
        obtain ⟨y, hy⟩ : ∃ y, b[i]? = some y := ⟨_, List.getElem?_eq_getElem (by rw [← hm.out]; exact h2)⟩
        have hra := fun W => run_strindex hx (z := (i : Int)) rfl W
        have hrb := fun W => run_strindex hy (z := (i : Int)) rfl W
        have hda : a.drop i = x :: a.drop (i + 1) := by
          rw [List.drop_eq_getElem_cons (List.getElem?_eq_some_iff.1 hx).1, (List.getElem?_eq_some_iff.1 hx).2]
        have hdb : b.drop i = y :: b.drop (i + 1) := by
          rw [List.drop_eq_getElem_cons (List.getElem?_eq_some_iff.1 hy).1, (List.getElem?_eq_some_iff.1 hy).2]
        by_cases hxy : x = y
        · have q1 : ((x.toNat : Int) == (y.toNat : Int)) = true := by rw [hxy]; exact beq_self_eq_true _
          have ht2 : Hid (a.take (i + 1) = b.take (i + 1)) := hide (by rw [List.take_add_one, List.take_add_one, hx, hy, ht.out, hxy])
          replace hx := hide hx
          replace hy := hide hy
          replace hda := hide hda
          replace hdb := hide hdb
          replace hxy := hide hxy
          go_wp2_with fail
          refine wp_region_text follows (by kernel_rfl) (by kernel_rfl) (fun K hK => ?_)
          go_wp2_with fail
          refine ⟨by kernel_rfl, ?_⟩
          go_wp2_with fail
          exact ⟨⟨i + 1, by congr 1, by omega, by omega, ht2, hide hE.out.drew⟩, by simp only [intOf]; omega⟩
        · have q1 : ((x.toNat : Int) == (y.toNat : Int)) = false := beq_eq_false_iff_ne.2 fun h => hxy (UInt8.toNat_inj.1 (by omega))
          have hze : Z = i := by rw [hZi.out, hda, hdb, cpl, if_neg hxy]; rfl
          replace hx := hide hx
          replace hy := hide hy
          replace hda := hide hda
          replace hdb := hide hdb
          replace hxy := hide hxy
          replace hze := hide hze
          go_wp2_with fail
          refine wp_region_text follows (by kernel_rfl) (by kernel_rfl) (fun K hK => ?_)
          go_wp2_with fail
          refine ⟨by kernel_rfl, ?_⟩
          go_wp2_with fail
          go_ret
          exact ⟨by rw [hze.out]; rfl, hE.out.drew⟩
      · have hze : Z = i := by have := hZi.out; omega
        replace hze := hide hze
        go_wp2_with fail
        refine wp_region_text follows (by kernel_rfl) (by kernel_rfl) (fun K hK => ?_)
        go_wp2_with fail
        refine ⟨by kernel_rfl, ?_⟩
        go_wp2_with fail
        go_ret
        exact ⟨by rw [hze.out]; rfl, hE.out.drew⟩
    · have hze : Z = i := by have := hZi.out; omega
      replace hze := hide hze
      go_wp2_with fail
      refine wp_region_text follows (by kernel_rfl) (by kernel_rfl) (fun K hK => ?_)
      go_wp2_with fail
      refine ⟨by kernel_rfl, ?_⟩
      go_wp2_with fail
      go_ret
      exact ⟨by rw [hze.out]; rfl, hE.out.drew⟩
def En.cells (e : En) : List Value := [.string ⟨e.t.toArray⟩, .int .i64 (e.off : Int), .int .i64 (e.len : Int), .int .i64 (e.n : Int)]
def encells (l : List En) : List Value := l.flatMap En.cells
theorem encells_len (l : List En) : (encells l).length = l.length * 4 := flat_len_of (cellsA := En.cells) (k := 4) (fun _ => rfl) l
theorem encells_get {l : List En} {i : Nat} {x : En} (h : l[i]? = some x) {j : Nat} (hj : j < 4) : (encells l)[i * 4 + j]? = x.cells[j]? := flat_get_of (cellsA := En.cells) (k := 4) (fun _ => rfl) l i x j h hj
theorem encells_at {w : World} {A : Option Addr} {l : List En} (h : Cells w A (encells l)) {i : Nat} {x : En} (hx : l[i]? = some x) : ∃ g o, A = some ⟨g, o, none⟩ ∧ w.cell? ⟨g, o + i * 4, none⟩ = some (.string ⟨x.t.toArray⟩) ∧ w.cell? ⟨g, o + i * 4 + 1, none⟩ = some (.int .i64 (x.off : Int)) ∧ w.cell? ⟨g, o + i * 4 + 2, none⟩ = some (.int .i64 (x.len : Int)) ∧ w.cell? ⟨g, o + i * 4 + 3, none⟩ = some (.int .i64 (x.n : Int)) := by
  obtain ⟨g, o, hA, hc⟩ := h.at_ (by rw [encells_len]; have := (List.getElem?_eq_some_iff.1 hx).1; omega)
  exact ⟨g, o, hA, hc (i * 4 + 0) _ (by rw [encells_get hx (by omega)]; rfl), hc (i * 4 + 1) _ (by rw [encells_get hx (by omega)]; rfl), hc (i * 4 + 2) _ (by rw [encells_get hx (by omega)]; rfl), hc (i * 4 + 3) _ (by rw [encells_get hx (by omega)]; rfl)⟩
theorem bytesLess_eq : ∀ (a b : List UInt8), Op.bytesLess a b = decide (a < b)
  | [], [] => by simp [Op.bytesLess]
  | _ :: _, [] => by simp [Op.bytesLess]
  | [], _ :: _ => by simp [Op.bytesLess]
  | x :: a, y :: b => by
    rw [Op.bytesLess, bytesLess_eq a b, Bool.eq_iff_iff, decide_eq_true_iff, List.cons_lt_cons_iff]
    simp
theorem up_at {l : List En} (h : OkEs l) {i : Nat} {x y : En} (hx : l[i]? = some x) (hy : l[i + 1]? = some y) : x.t < y.t := by
  obtain ⟨h1, rfl⟩ := List.getElem?_eq_some_iff.1 hx
  obtain ⟨h2, rfl⟩ := List.getElem?_eq_some_iff.1 hy
  exact List.pairwise_iff_getElem.1 h.up i (i + 1) h1 h2 (by omega)
theorem nil_lt {a : List UInt8} (h : a ≠ []) : [] < a := by
  cases a with
  | nil => exact absurd rfl h
  | cons x t => exact List.nil_lt_cons x t
def lastT (l : List En) (i : Nat) : List UInt8 := match (l.take i).getLast? with
  | some e => e.t
  | none => []
theorem lastT_succ {l : List En} {i : Nat} {x : En} (h : l[i]? = some x) : lastT l (i + 1) = x.t := by
  unfold lastT
  rw [List.take_add_one, h]
  simp
theorem lastT_lt {l : List En} (h : OkEs l) {i : Nat} {x : En} (hx : l[i]? = some x) : lastT l i < x.t := by
  cases i with
  | zero => exact nil_lt (h.each x (List.mem_of_getElem? hx)).2
  | succ i =>
    obtain ⟨y, hy⟩ : ∃ y, l[i]? = some y := ⟨_, List.getElem?_eq_getElem (by have := (List.getElem?_eq_some_iff.1 hx).1; omega)⟩
    rw [lastT_succ hy]
    exact up_at h hy hx
def thr (a b c : Int) (i : Nat) : Int := if i = 0 then a else if i = 1 then b else c
set_option maxRecDepth 100000 in
theorem run_three {a b c : Int} {i : Nat} (hi : i < 3) (W : World) : (Instr.index 218 (.agg #[.int .i64 a, .int .i64 b, .int .i64 c]) (.int .i64 (i : Int))).run Tryz.prog W = .ok (.int .i64 (thr a b c i)) W := by
  rcases (show i = 0 ∨ i = 1 ∨ i = 2 by omega) with rfl | rfl | rfl
  · show _ = _
    kernel_rfl
  · show _ = _
    kernel_rfl
  · show _ = _
    kernel_rfl
theorem thr_bd {a b c : Int} (i : Nat) (ha : 0 ≤ a ∧ a ≤ 67108864) (hb : 0 ≤ b ∧ b ≤ 67108864) (hc : 0 ≤ c ∧ c ≤ 67108864) : 0 ≤ thr a b c i ∧ thr a b c i ≤ 67108864 := by
  unfold thr
  split
  · exact ha
  · split
    · exact hb
    · exact hc
end
section
open Go.RowKit
set_option maxRecDepth 100000 in
set_option maxHeartbeats 1000000 in
theorem dmay_any (l : List En) (A : Option Addr) (m c : Nat) (w : World) (hm : m = l.length) (h : Cells w A (encells l)) (hok : OkEs l) :
    Calls Tryz.prog 85 #[.slice A m c] w fun e w' => e = .returned (.bool true) ∧ Ext w w' := by
  have hm6 : m ≤ 262144 := by rw [hm]; exact hok.few
  replace hm := hide hm
  replace h := hide h
  replace hok := hide hok
  go_enter Tryz.func85, Tryz.ntmps85
  go_wp2_with fail
  go_loopw [3, 11] (fun s3 s11 wr => ∃ (i : Nat) (la : List UInt8), s3 = .string ⟨la.toArray⟩ ∧ s11 = .int .i64 (i : Int) ∧ i ≤ m ∧ Hid (la = lastT l i) ∧ Hid (Ext w wr)) (fun _ s11 _ => m - (intOf s11).toNat)
  case atStart => exact ⟨0, [], rfl, rfl, by omega, hide rfl, hide (Ext.refl w)⟩
  case round =>
    obtain ⟨i, la, rfl, rfl, hi, hla, hE⟩ := hrel
    by_cases hin : i < m
    · obtain ⟨x, hxi⟩ : ∃ x, l[i]? = some x := ⟨_, List.getElem?_eq_getElem (by rw [← hm.out]; exact hin)⟩
      obtain ⟨g, o, hA, x0, x1, x2, x3⟩ := encells_at (h.out.ext hE.out) hxi
      subst hA
      have hlt := lastT_lt hok.out hxi
      rw [← hla.out] at hlt
      obtain ⟨⟨b1, b2, b3, b4⟩, hne⟩ := hok.out.each x (List.mem_of_getElem? hxi)
      have hnx : Hid (x.t = lastT l (i + 1)) := hide (lastT_succ hxi).symm
      obtain ⟨t, off, len, n⟩ := x
      simp only at x0 x1 x2 x3 hlt b1 b2 b3 b4 hnx
      have ht9 : (⟨t.toArray⟩ : ByteArray).size = t.length := ByteArray.size_mk_toArray t
      obtain ⟨tl, htl⟩ : ∃ tl, tl = t.length := ⟨_, rfl⟩
      rw [← htl] at ht9 b1
      have q1 : Op.bytesLess t la = false := by rw [bytesLess_eq]; exact decide_eq_false fun h2 => List.lt_asymm hlt h2
      have q2 : (t == la) = false := beq_eq_false_iff_ne.2 fun e => by rw [e] at hlt; exact List.lt_irrefl _ hlt
      obtain ⟨W5, hW5⟩ : ∃ W5, W5 = wr.alloc (.cells #[.string ⟨t.toArray⟩, .int .i64 (off : Int), .int .i64 (len : Int), .int .i64 (n : Int)] 97) := ⟨_, rfl⟩
      obtain ⟨g5, hg5⟩ : ∃ g5, g5 = wr.heap.size := ⟨_, rfl⟩
      have hr5 : Row W5 g5 97 #[.string ⟨t.toArray⟩, .int .i64 (off : Int), .int .i64 (len : Int), .int .i64 (n : Int)] := by rw [hW5, hg5]; exact Row.new wr _ _
      have hE5 : Ext w W5 := by rw [hW5]; exact hE.out.alloc _
      have y0 := hr5.cell 0 rfl
      have y1 := hr5.cell 1 rfl
      have y2 := hr5.cell 2 rfl
      have y3 := hr5.cell 3 rfl
      replace hxi := hide hxi
      replace hlt := hide hlt
      replace htl := hide htl
      replace hr5 := hide hr5
      replace hE5 := hide hE5
      replace hW5 := hide hW5
      replace hg5 := hide hg5
      clear hne
      go_upto_region 5 with (fail)
      rw [← hW5.out, ← hg5.out]
      go_wp2_with fail
      go_loopw [6, 32] (fun s6 s32 wv => ∃ j : Nat, s6 = .bool true ∧ s32 = .int .i64 (j : Int) ∧ j ≤ 3 ∧ wv = W5) (fun _ s32 _ => 3 - (intOf s32).toNat)
      case atStart => exact ⟨0, rfl, rfl, by omega, rfl⟩
      case round =>
        obtain ⟨j, rfl, rfl, hj, rfl⟩ := hrel
        by_cases hj3 : j < 3
        · have hx := fun W => run_three (a := (off : Int)) (b := (len : Int)) (c := (n : Int)) hj3 W
          have hbd := thr_bd (a := (off : Int)) (b := (len : Int)) (c := (n : Int)) j (by omega) (by omega) (by omega)
          obtain ⟨v, hv⟩ : ∃ v, v = thr (off : Int) (len : Int) (n : Int) j := ⟨_, rfl⟩
          rw [← hv] at hx hbd
          obtain ⟨hb1, hb2⟩ := hbd
          have hj3i : (j : Int) < 3 := by omega
          replace hv := hide hv
          go_wp2_with fail
          exact ⟨⟨j + 1, rfl, by congr 1, by omega, trivial⟩, by simp only [intOf]; omega⟩
        · have hj3i : ¬ (j : Int) < 3 := by omega
          go_wp2_with fail
          exact ⟨⟨i + 1, t, rfl, rfl, by omega, hnx, hE5⟩, by simp only [intOf]; omega⟩
    · obtain rfl : i = m := by omega
      go_wp2_with fail
      go_ret
      exact ⟨ret_bool (decide_eq_true (by omega)), hE.out⟩
end
section
open Go.RowKit
attribute [local go_sem] Oper.semAt_some wide_depth
set_option maxRecDepth 100000 in
theorem chunkC_any (A : Option Addr) (n c k : Nat) (w : World) (hk : 1 ≤ k) (hk2 : k ≤ 1000000) :
    Calls Tryz.prog 145 #[.slice A n c, .int .i64 (k : Int)] w fun e w' => ∃ b1 b2, e = .returned (.func (.func 183) #[] #[.pointer (some ⟨b1, 0, none⟩), .pointer (some ⟨b2, 0, none⟩)]) ∧ Row w' b1 94 #[.slice A n c] ∧ Row w' b2 3 #[.int .i64 (k : Int)] ∧ w.heap.size ≤ b1 ∧ w.heap.size ≤ b2 ∧ b1 < b2 ∧ Ext w w' := by
  go_enter Tryz.func145, Tryz.ntmps145
  go_wp2_with fail
  go_ret
  have h1 := Row.new w 94 #[.slice A n c]
  have h2 := Row.new (w.alloc (.cells #[.slice A n c] 94)) 3 #[.int .i64 (k : Int)]
  rw [World.size_alloc] at h2
  exact ⟨w.heap.size, w.heap.size + 1, rfl, h1.alloc _, h2, Nat.le_refl _, by omega, by omega, ((Ext.refl w).alloc _).alloc _⟩
set_option maxRecDepth 100000 in
theorem run_chunkC1 {A : Option Addr} {n c i : Nat} {z : Int} (hz : z = (i : Int)) (hi : i ≤ n) : ∃ A' c', ∀ W : World, (Instr.sliceAt 94 (.slice A n c) (some (.int .i64 z)) none none).run Tryz.prog W = .ok (.slice A' (n - i) c') W := by
  subst hz
  have ht := Tryz.underlying94
  have he : Tryz.prog.elem 94 = 97 := by unfold Program.elem; rw [ht]
  have hs : ∀ W : World, (sizeOf 97).run Tryz.prog W = .ok 4 W := fun W => by kernel_rfl
  refine ⟨if c = i then A else A.map fun a => a.add (i * 4), c - i, fun W => ?_⟩
  rw [run_sliceAt_slice W _ _ _ _ _ (by rw [ht, he]), run_slice_l W _ A n c (by rw [ht, he]) .i64 i (by omega) (by omega), he, hs]
  simp only [Result.andThen_ok, sliced]
  rfl
set_option maxRecDepth 100000 in
theorem run_chunkC2 {A : Option Addr} {n c i j : Nat} {z z1 z2 : Int} (hz : z = (i : Int)) (hz1 : z1 = ((i + j : Nat) : Int)) (hz2 : z2 = ((i + j : Nat) : Int)) (hi : i + j ≤ c) (hj : 0 < j) (W : World) :
    (Instr.sliceAt 94 (.slice A n c) (some (.int .i64 z)) (some (.int .i64 z1)) (some (.int .i64 z2))).run Tryz.prog W = .ok (.slice (A.map fun a => a.add (i * 4)) j j) W := by
  subst hz hz1 hz2
  have ht := Tryz.underlying94
  have he : Tryz.prog.elem 94 = 97 := by unfold Program.elem; rw [ht]
  have hs : (sizeOf 97).run Tryz.prog W = .ok 4 W := by kernel_rfl
  rw [run_sliceAt_slice W _ _ _ _ _ (by rw [ht, he]), run_slice_lhm W _ A n c (by rw [ht, he]) .i64 .i64 .i64 i ((i + j : Nat) : Int) ((i + j : Nat) : Int) (by omega) (by omega) (by omega) (by omega), he, hs]
  simp only [Result.andThen_ok]
  congr 1
  unfold sliced
  rw [if_neg (by omega), show ((i + j : Nat) : Int).toNat - (i : Int).toNat = j by omega]
  rfl
def chunkVC (A : Option Addr) (n k i : Nat) : Value := .slice (A.map fun a => a.add (i * k * 4)) (min k (n - i * k)) (min k (n - i * k))
def ChIterC (A : Option Addr) (n k b1 b2 : Nat) (w : World) : Prop :=
  Iter Tryz.prog 183 #[.pointer (some ⟨b1, 0, none⟩), .pointer (some ⟨b2, 0, none⟩)] (fun i : Nat => #[chunkVC A n k i]) Ext (fun pre i _ => i = pre.length ∧ i * k < n) (KeepB b1 b2) (fun xs W W' => n ≤ xs.length * k ∧ xs = List.range xs.length ∧ (∀ i ∈ xs, i * k < n) ∧ Ext W W') w
set_option maxRecDepth 100000 in
set_option maxHeartbeats 1000000 in
theorem chunkC_iter (A : Option Addr) (n c k b1 b2 : Nat) (w : World) (hb1 : Row w b1 94 #[.slice A n c]) (hb2 : Row w b2 3 #[.int .i64 (k : Int)]) (hk : 1 ≤ k) (hk2 : k ≤ 1000000) (hn : n ≤ 1000000000) (hc : n ≤ c) : ChIterC A n k b1 b2 w := by
  intro l J W hE hst hY h0
  replace hb1 := hb1.ext hE
  replace hb2 := hb2.ext hE
  clear hE
  replace hb1 := hide hb1
  replace hb2 := hide hb2
  replace hY := hide hY
  replace hst := hide hst
  replace h0 := hide h0
  refine (callsIn_wide (n := 0)).1 ?_
  refine callsIn_of_wp Tryz.func183 rfl trivial ?_
  simp only [Tryz.ntmps183, List.size_toArray, List.length_cons, List.length_nil, Nat.reduceAdd, Nat.reduceSub, Array.replicate_succ, Array.replicate_zero, List.push_toArray, List.append_toArray, List.nil_append, List.cons_append]
  gi_wp2_with fail
  gi_loopw [4] (fun s4 wr => ∃ (i q : Nat) (pre : List Nat), s4 = .int .i64 (q : Int) ∧ Hid (q = i * k) ∧ q ≤ n + k ∧ Hid (pre.length = i) ∧ Hid (pre = List.range i) ∧ Hid (∀ j ∈ pre, j * k < n) ∧ Hid (J pre wr) ∧ Hid (Row wr b1 94 #[.slice A n c]) ∧ Hid (Row wr b2 3 #[.int .i64 (k : Int)])) (fun s4 _ => n - (intOf s4).toNat)
  case atStart => exact ⟨0, 0, [], rfl, hide (by simp), by omega, hide rfl, hide rfl, hide nofun, h0, hb1, hb2⟩
  case round =>
    obtain ⟨i, q, pre, rfl, hq, hqn, hpl, hpr, hpa, hJ, r1, r2⟩ := hrel
    have k1 := r1.out.cell 0 rfl
    have k2 := r2.out.cell 0 rfl
    by_cases hlt : q < n
    · obtain ⟨m, hm⟩ : ∃ m : Nat, (m : Int) = min (k : Int) ((n - q : Nat) : Int) := ⟨min k (n - q), by omega⟩
      have hm0 : 0 < m := by omega
      have hmk : m ≤ k := by omega
      have hmn : m ≤ n - q := by omega
      have hmx : m = k ∨ m = n - q := by omega
      have hmin := fun (W : World) => run_min2 (P := Tryz.prog) #[3, 3] 3 hm W
      have hr2 := fun (W : World) => run_chunkC2 (A := A) (n := n) (c := c) (i := q) (j := m) (z := (q : Int)) (z1 := (q : Int) + (m : Int)) (z2 := (q : Int) + (m : Int)) rfl (by omega) (by omega) (by omega) hm0 W
      obtain ⟨A', c', hr1⟩ := run_chunkC1 (A := A) (n := n) (c := c) (i := q) (z := (q : Int)) rfl (by omega)
      replace hm := hide hm
      have hyx := hY.out pre pre.length wr.drew (hst.out _ _ _ hJ.out (Ext.refl wr).drew) ⟨rfl, by rw [hpl.out, ← hq.out]; exact hlt⟩
      have hval : chunkVC A n k pre.length = .slice (A.map fun a => a.add (q * 4)) m m := by
        unfold chunkVC
        rw [hpl.out, ← hq.out, show min k (n - q) = m by omega]
      rw [hval] at hyx
      obtain ⟨fn, tmps, assign, body, hy, hR⟩ := hyx
      have hpa2 : Hid (∀ j ∈ pre ++ [pre.length], j * k < n) := hide fun j hj => by
        rcases List.mem_append.1 hj with h | h
        · exact hpa.out j h
        · rw [List.mem_singleton.1 h, hpl.out, ← hq.out]; exact hlt
      have hpr2 : Hid (pre ++ [pre.length] = List.range (i + 1)) := hide (by rw [List.range_succ, hpl.out, hpr.out])
      have hq2 : Hid (q + k = (i + 1) * k) := hide (by rw [Nat.succ_mul, hq.out])
      clear hval hmx hY hst
      gi_wp2_with fail
      refine wpIn_wide.2 (wp_region_text follows (by kernel_rfl) (by kernel_rfl) (fun K hK => ?_))
      go_wp2_with fail
      refine ⟨by kernel_rfl, ?_⟩
      gi_wp2_with fail
      refine hR.mono ?_
      rintro e W3 ⟨rfl, hJ3, hk3⟩
      have r13 := hide (show Row W3 b1 94 #[.slice A n c] from hk3.1 _ r1.out)
      have r23 := hide (show Row W3 b2 3 #[.int .i64 (k : Int)] from hk3.2 _ r2.out)
      have k23 := r23.out.cell 0 rfl
      gi_wp2_with fail
      exact ⟨⟨i + 1, q + k, pre ++ [pre.length], by congr 1, hq2, by omega, hide (by rw [List.length_append, hpl.out]; rfl), hpr2, hpa2, hide hJ3, r13, r23⟩, by simp only [intOf]; omega⟩
    · gi_wp2_with fail
      go_end0
      exact ⟨⟨_, rfl⟩, pre, _, hJ.out, by rw [hpl.out, ← hq.out]; omega, by rw [hpl.out]; exact hpr.out, hpa.out, Ext.refl _⟩
end
end Go.Proofs.YtkdcnhnaiknaaaaGreat
