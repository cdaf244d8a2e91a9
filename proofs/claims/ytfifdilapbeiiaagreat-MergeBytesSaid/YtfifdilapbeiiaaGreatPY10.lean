/- Texts of one proof, joined. -/
import Derived.Test.YtfifdilapbeiiaaGreatPY09
set_option linter.unusedSimpArgs false
set_option linter.unusedVariables false
set_option maxRecDepth 100000
set_option maxHeartbeats 16000000
namespace Go.Proofs.YtfifdilapbeiiaaGreat
open _root_.Go.Proofs.Tryz
variable {cs:Array Value} {z:Int} {bs:List (List UInt8)} {f r:List UInt8} {xs:List Value} {c g gd i k m n:Nat} {S:Nat → Prop} {A A':Option Addr} {P:Program} {ty:TypeId} {u0:Value} {w w' w1 w8:World}
section
open Go.RowKit
def EntD (w0:World) (g:Nat) (x:En) (r:List UInt8) (W:World) (e:Ending) (W':World):Prop:=e = .returned (.agg x.cells.toArray)/\RdD w0 g r W'/\Chg (fun k=>k=g) W W'
theorem P3 (hi:i<3) (W:World):(Instr.index 237 (.agg #[.pointer (some ⟨g,1,none⟩),.pointer (some ⟨g,2,none⟩),.pointer (some ⟨g,3,none⟩)]) (.int .i64 (i:Int))).run prog W = .ok (.pointer (some ⟨g,i+1,none⟩)) W:=by
 rcases (show i=0\/i=1\/i=2 by omega)with rfl | rfl | rfl
 ·show _=_
  kernel_rfl
 ·show _=_
  kernel_rfl
 ·show _=_
  kernel_rfl
def nRest (off len n:Nat) (r:List UInt8) (j:Nat):List UInt8:=if j=0 then vb off++(vb len++(vb n++r)) else if j=1 then vb len++(vb n++r) else if j=2 then vb n++r else r
def nThr (off len n j:Nat):Nat:=if j=0 then off else if j=1 then len else n
def nRow (t:List UInt8) (off len n j:Nat):Array Value:=#[.string ⟨t.toArray⟩,.int .i64 (if 0<j then (off:Int) else 0),.int .i64 (if 1<j then (len:Int) else 0),.int .i64 (if 2<j then (n:Int) else 0)]
theorem LW {off len n:Nat} {j:Nat} (h:j<3):nRest off len n r j=vb (nThr off len n j)++nRest off len n r (j+1):=by
 rcases (show j=0\/j=1\/j=2 by omega)with rfl | rfl | rfl <;> simp[nRest,nThr]
theorem N1 {t:List UInt8} {off len n:Nat} {j:Nat} (h:j<3):(nRow t off len n j).setIfInBounds (j+1) (.int .i64 (nThr off len n j:Int))=nRow t off len n (j+1):=by
 rcases (show j=0\/j=1\/j=2 by omega)with rfl | rfl | rfl <;> simp[nRow,nThr]
theorem PB (t:List UInt8) (off len n:Nat) {j:Nat} (h:j<3):∃u,(nRow t off len n j)[j+1]? = some u:=⟨_,Array.getElem?_eq_getElem (by show j+1<4;omega)⟩
theorem Lt (w0 W : World) (g : Nat) (la : List UInt8) (x : En) (r : List UInt8) (h : RdD w0 g (enB la x ++ r) W) (hg : w0.heap.size ≤ g) (hx : okEn x) (n4 : la.length ≤ 65) (g0 : (enB la x ++ r).length ≤ 1000000000) :
    Calls prog 98 #[.pointer (some ⟨g, 0, none⟩), .string ⟨la.toArray⟩] W fun e W' => EntD w0 g x r W e W' := by
  obtain ⟨t, off, len, n⟩ := x
  obtain ⟨b0, b1, b2, b3⟩ := hx
  simp only at b0 b1 b2 b3
  obtain ⟨k, hk⟩ := Ab (cpl la t)
  have i4 : k ≤ t.length := by rw [hk]; exact (DC la t).2
  have a3 : k ≤ la.length := by rw [hk]; exact (DC la t).1
  have m2 : la.take k ++ t.drop k = t := by rw [hk, JX la t]; exact List.take_append_drop _ _
  obtain ⟨R3, p0⟩ := Ab (vb off ++ (vb len ++ (vb n ++ r)))
  have O : enB la ⟨t, off, len, n⟩ ++ r = vb k ++ (txL (t.drop k) ++ R3) := by
    unfold enB
    rw [hk, p0]
    simp
  rw [O] at h g0
  have y0 : (txL (t.drop k) ++ R3).length ≤ 1000000000 := by rw [List.length_append] at g0; omega
  have d1 : R3.length ≤ 1000000000 := by rw [List.length_append] at y0; omega
  have e3 := Aa (fun W h => DD w0 W g k (txL (t.drop k) ++ R3) 65 h hg (by omega) (by omega) g0)
  have o3 := Aa (fun W h => Nz w0 W g (t.drop k) R3 h hg (by rw [List.length_drop]; omega) y0)
  have f3 := Aa (fun W q r h (hq : q ≤ 67108864) hl => DD w0 W g q r 67108864 h hg (by omega) (by omega) hl)
  have z3 := fun W => Jy (l := la) a3 (z := (k : Int)) rfl W
  obtain ⟨ln, o1⟩ := Ab la.length
  have t4 : (⟨la.toArray⟩ : ByteArray).size = ln := by rw [o1]; exact ByteArray.size_mk_toArray la
  have f4 : ¬ (ln : Int) < (k : Int) := by omega
  have q4 : (⟨(la.take k).toArray⟩ : ByteArray) ++ ⟨(t.drop k).toArray⟩ = ⟨t.toArray⟩ := by
    have e : (⟨(la.take k).toArray⟩ : ByteArray) ++ ⟨(t.drop k).toArray⟩ = ⟨(la.take k ++ t.drop k).toArray⟩ := by
      apply ByteArray.ext
      simp
    rw [e, m2]
  have v4 : (⟨(la.take k).toArray⟩ : ByteArray).size = k := by rw [ByteArray.size_mk_toArray, List.length_take]; omega
  obtain ⟨tn, e0⟩ := Ab ((t.drop k).length)
  have x4 : (⟨(t.drop k).toArray⟩ : ByteArray).size = tn := by rw [e0]; exact ByteArray.size_mk_toArray _
  have r3 : tn ≤ 65 := by rw [e0, List.length_drop]; omega
  have m4 : k ≤ 65 := by omega
  obtain ⟨W4, I⟩ := Ab (W.alloc (.cells #[.string ⟨#[]⟩, .int .i64 0, .int .i64 0, .int .i64 0] 100))
  obtain ⟨g4, T⟩ := Ab W.heap.size
  have p2 : Row W4 g4 100 #[.string ⟨#[]⟩, .int .i64 0, .int .i64 0, .int .i64 0] := by rw [I, T]; exact Row.new W _ _
  have m1 : RdD w0 g (vb k ++ (txL (t.drop k) ++ R3)) W4 := by rw [I]; exact h.ext ((Ext.refl W).alloc _)
  have k1 : Chg (fun k => k = g) W W4 := by rw [I]; exact Chg.of_ext ((Ext.refl W).alloc _) _
  have e4 : g < W.heap.size := by obtain ⟨_, _, q, _⟩ := h; exact q.lt
  have k0 : g4 ≠ g := by omega
  replace h := Aa h
  replace hk := Aa hk
  replace m2 := Aa m2
  replace p0 := Aa p0
  replace O := Aa O
  replace o1 := Aa o1
  replace e0 := Aa e0
  replace p2 := Aa p2
  replace m1 := Aa m1
  replace k1 := Aa k1
  replace I := Aa I
  replace T := Aa T
  replace g0 := Aa g0
  replace y0 := Aa y0
  replace d1 := Aa d1
  go_in
  go_wp2_with fail
  rw [← I.out, ← T.out]
  refine (e3.out W4 m1.out).mono ?_
  rintro e w5 ⟨rfl, x1, h0⟩
  have k2 := Aa (h0.row p2.out k0)
  replace h0 := Aa (k1.out.trans h0 fun _ _ h => h)
  replace x1 := Aa x1
  go_wp2_with fail
  have j4 : W.heap.size ≤ w5.heap.size := h0.out.size
  have n0 : W.heap.size < w5.heap.size := by have := k2.out.lt; have := T.out; omega
  have k4 : w0.heap.size ≤ W.heap.size := by obtain ⟨_, _, _, _, q⟩ := h.out; exact q.size
  go_cut [6] (fun s6 wy => ∃ g6, s6 = .pointer (some ⟨g6, 0, none⟩) ∧ W.heap.size < g6 ∧ Hid (Row wy g6 100 #[.string ⟨t.toArray⟩, .int .i64 0, .int .i64 0, .int .i64 0]) ∧ Hid (RdD w0 g R3 wy) ∧ Hid (Row wy g4 100 #[.string ⟨#[]⟩, .int .i64 0, .int .i64 0, .int .i64 0]) ∧ Hid (Chg (fun k => k = g) W wy))
  case first =>
    have l0 := x1.out.ext (Ext.refl w5).drew
    have f2 := l0.ext ((Ext.refl w5.drew).alloc (.cells #[.string ⟨#[]⟩, .int .i64 0, .int .i64 0, .int .i64 0] 100))
    have m0 : Row (w5.drew.alloc (.cells #[.string ⟨#[]⟩, .int .i64 0, .int .i64 0, .int .i64 0] 100)) w5.heap.size 100 #[.string ⟨#[]⟩, .int .i64 0, .int .i64 0, .int .i64 0] := Row.new w5.drew _ _
    have r0 : w5.heap.size ≠ g := by omega
    have p1 := Aa (k2.out.ext (Ext.refl w5).drew)
    have p3 := Aa (p1.out.alloc (.cells #[.string ⟨#[]⟩, .int .i64 0, .int .i64 0, .int .i64 0] 100))
    have i0 := Aa (h0.out.trans (Chg.of_ext (Ext.refl w5).drew (fun k => k = g)) fun _ _ h => h)
    have x2 := Aa (i0.out.trans (Chg.of_ext ((Ext.refl w5.drew).alloc (.cells #[.string ⟨#[]⟩, .int .i64 0, .int .i64 0, .int .i64 0] 100)) (fun k => k = g)) fun _ _ h => h)
    replace m0 := Aa m0
    go_region_with ((go_at_call 148; refine (o3.out _ (by first | exact l0 | exact f2)).mono ?_; rintro e w6 ⟨rfl, U, b⟩; replace U := Aa U; (first | (have r6 := Chg.row b m0.out r0; have c0 := r6.get; have f0 := r6.free; replace r6 := Aa r6) | skip); replace b := Aa b))
    all_goals
      go_wp2_with fail
      go_meet
      case rel =>
        first
        | (have r6' := r6.out
           have x3 := x2.out.trans b.out fun _ _ h => h
           have l3 := (((r6'.put 0 (.string ⟨t.toArray⟩)).put 1 (.int .i64 0)).put 2 (.int .i64 0)).put 3 (.int .i64 0)
           have J := (((Chg.of_set (S := fun k => k = w5.heap.size) w6 (a := ⟨w5.heap.size, 0, none⟩) (.string ⟨t.toArray⟩) rfl).trans (Chg.of_set (S := fun k => k = w5.heap.size) _ (a := ⟨w5.heap.size, 1, none⟩) (.int .i64 0) rfl) fun _ _ h => h).trans (Chg.of_set (S := fun k => k = w5.heap.size) _ (a := ⟨w5.heap.size, 2, none⟩) (.int .i64 0) rfl) fun _ _ h => h).trans (Chg.of_set (S := fun k => k = w5.heap.size) _ (a := ⟨w5.heap.size, 3, none⟩) (.int .i64 0) rfl) fun _ _ h => h
           have t0 := b.out.row p3.out k0
           refine ⟨w5.heap.size, rfl, n0, Aa l3, Aa ?_, Aa (J.row t0 (fun e => ?_)), Aa (x3.trans J fun i hi e => by omega)⟩
           · obtain ⟨B, d, q1, q2, q3⟩ := U.out
             exact ⟨B, d, J.row q1 (fun e => r0 e.symm), q2, q3.chg J fun i hi e => by omega⟩
           · have := k2.out.lt
             omega)
        | (refine ⟨w6.heap.size, rfl, Nat.lt_of_lt_of_le n0 b.out.size, Aa (Row.new w6 _ _), Aa (U.out.ext ((Ext.refl w6).alloc _)), Aa ((b.out.row p1.out k0).alloc _), Aa ((i0.out.trans b.out fun _ _ h => h).trans (Chg.of_ext ((Ext.refl w6).alloc _) _) fun _ _ h => h)⟩)
  case rest =>
    obtain ⟨g6, rfl, d4, k3, U, t0, b⟩ := hcut
    have o0 : g6 ≠ g := by omega
    have a2 : Hid (RdD w0 g (nRest off len n r 0) _) := Aa (by have := U.out; rw [p0.out] at this; exact this)
    have j3 : Hid (Row _ g6 100 (nRow t off len n 0)) := k3
    have h2 : (nRest off len n r 0).length ≤ 1000000000 := by have := d1.out; rw [p0.out] at this; exact this
    replace h2 := Aa h2
    clear k3 U
    go_wp2_with fail
    go_loopw [29] (fun s29 wr => ∃ j : Nat, s29 = .int .i64 (j : Int) ∧ j ≤ 3 ∧ Hid (RdD w0 g (nRest off len n r j) wr) ∧ Hid (Row wr g6 100 (nRow t off len n j)) ∧ Hid (Row wr g4 100 #[.string ⟨#[]⟩, .int .i64 0, .int .i64 0, .int .i64 0]) ∧ Hid (Chg (fun k => k = g) W wr) ∧ Hid ((nRest off len n r j).length ≤ 1000000000)) (fun s29 _ => 3 - (intOf s29).toNat)
    case atStart => exact ⟨0, rfl, by omega, a2, j3, t0, b, h2⟩
    case round =>
      obtain ⟨j, rfl, hj, i2, m3, G, y2, d3⟩ := hrel
      by_cases x0 : j < 3
      · have hx := fun W => P3 (g := g6) x0 W
        have h3 : (j : Int) < 3 := by omega
        have j2 := LW (off := off) (len := len) (n := n) (r := r) x0
        have Y := i2.out
        have j0 := d3.out
        rw [j2] at Y j0
        have d0 := N1 (t := t) (off := off) (len := len) (n := n) x0
        obtain ⟨u, hu⟩ := PB t off len n x0
        obtain ⟨v, hv⟩ := Ab (nThr off len n j)
        have h4 : v ≤ 67108864 := by rw [hv]; unfold nThr; split; exact b1; split; exact b2; exact b3
        rw [← hv] at Y j0 d0
        have i1 : (nRest off len n r (j + 1)).length ≤ 1000000000 := by rw [List.length_append] at j0; omega
        have hc := Aa (f3.out wr v _ Y h4 j0)
        replace i1 := Aa i1
        replace j2 := Aa j2
        replace d0 := Aa d0
        replace hu := Aa hu
        replace hv := Aa hv
        clear Y j0
        go_wp2_with fail
        refine hc.out.mono ?_
        rintro e w8 ⟨rfl, y1, q0⟩
        have H := q0.row m3.out o0
        have v0 := q0.row G.out k0
        have j1 := y2.out.trans q0 fun _ _ h => h
        have c1 := H.cell (j + 1) hu.out
        have f1 := H.free (j + 1)
        replace H := Aa H
        replace v0 := Aa v0
        replace j1 := Aa j1
        replace y1 := Aa y1
        replace q0 := Aa q0
        go_wp2_with fail
        have a1 := Chg.of_set (S := fun k => k = g6) w8 (a := ⟨g6, j + 1, none⟩) (.int .i64 (v : Int)) rfl
        have h1 := H.out.put (j + 1) (.int .i64 (v : Int))
        rw [d0.out] at h1
        have d2 : RdD w0 g (nRest off len n r (j + 1)) (w8.setCell ⟨g6, j + 1, none⟩ (.int .i64 (v : Int))) := by
          obtain ⟨B, d, q1, q2, q3⟩ := y1.out
          exact ⟨B, d, a1.row q1 (fun e => o0 e.symm), q2, q3.chg a1 fun i hi e => by omega⟩
        have o2 : g4 ≠ g6 := by have := T.out; omega
        exact ⟨⟨j + 1, by congr 1, by omega, Aa d2, Aa h1, Aa (v0.out.away o2 _), Aa (j1.out.trans a1 fun i hi e => by omega), i1⟩, by simp only [intOf]; omega⟩
      · have h3 : ¬ (j : Int) < 3 := by omega
        have Z : j = 3 := by omega
        have H : Row wr g6 100 #[.string ⟨t.toArray⟩, .int .i64 (off : Int), .int .i64 (len : Int), .int .i64 (n : Int)] := by
          have := m3.out
          rw [Z] at this
          exact this
        have Y : RdD w0 g r wr := by
          have := i2.out
          rw [Z] at this
          exact this
        have a4 := H.get
        have b4 := G.out.get
        have c4 := G.out.free
        replace H := Aa H
        replace Y := Aa Y
        replace Z := Aa Z
        go_wp2_with fail
        have i3 := (((G.out.put 0 (.string ⟨t.toArray⟩)).put 1 (.int .i64 (off : Int))).put 2 (.int .i64 (len : Int))).put 3 (.int .i64 (n : Int))
        have J := (((Chg.of_set (S := fun k => k = g4) wr (a := ⟨g4, 0, none⟩) (.string ⟨t.toArray⟩) rfl).trans (Chg.of_set (S := fun k => k = g4) _ (a := ⟨g4, 1, none⟩) (.int .i64 (off : Int)) rfl) fun _ _ h => h).trans (Chg.of_set (S := fun k => k = g4) _ (a := ⟨g4, 2, none⟩) (.int .i64 (len : Int)) rfl) fun _ _ h => h).trans (Chg.of_set (S := fun k => k = g4) _ (a := ⟨g4, 3, none⟩) (.int .i64 (n : Int)) rfl) fun _ _ h => h
        have p4 := T.out
        refine bodyPost_ret (results_cell_row rfl _ _ g4 100 #[.string ⟨t.toArray⟩, .int .i64 (off : Int), .int .i64 (len : Int), .int .i64 (n : Int)] (0, 0) _ rfl i3 underlying100 rfl (by kernel_rfl)) rfl ⟨rfl, ?_, y2.out.trans J fun i hi e => by omega⟩
        obtain ⟨B, d, q1, q2, q3⟩ := Y.out
        exact ⟨B, d, J.row q1 (fun e => k0 e.symm), q2, q3.chg J fun i hi e => by omega⟩
def midE (l:List En) (i:Nat) (la:List UInt8):List UInt8:=blockE la ((l.drop i).take (16 - i%16))++partsE (chunkL 16 (l.drop (i+(16 - i%16))))
def restE (l:List En) (i:Nat):List UInt8:=if i%16=0 then partsE (chunkL 16 (l.drop i)) else midE l i (lastT l i)
theorem Mi (l:List En):encEs l=vb l.length++restE l 0:=by
 unfold restE encEs;rw[if_pos (by omega),List.drop_zero]
theorem Mh {l:List En} (h:i%16=0) (hi:i<l.length):∃q,restE l i=vb q++midE l i []/\q<=(midE l i []).length:=by
 have j:l.drop i ≠ []:=fun e=>by
  have:=congrArg List.length e;rw[List.length_drop,List.length_nil]at this;omega
 refine⟨(blockE [] ((l.drop i).take 16)).length,?_,?_⟩
 ·unfold restE midE;rw[if_pos h,h,BE j (by omega),List.drop_drop];show vb _++blockE [] _++partsE _=_;rw[List.append_assoc]
 ·unfold midE;rw[h,List.length_append];exact Nat.le_add_right _ _
theorem N0 {l:List En} {x:En} (j:l[i]? = some x) (la:List UInt8):midE l i la=enB la x++restE l (i+1):=by
 unfold midE;have b:i%16<16:=Nat.mod_lt _ (by omega);rw[AY j,show 16 - i%16=(15 - i%16)+1 by omega,List.take_succ_cons];show (enB la x++blockE x.t _)++_=_;rw[List.append_assoc];congr 1;unfold restE;by_cases h:(i+1)%16=0
 ·rw[if_pos h,show 15 - i%16=0 by omega,List.take_zero,blockE,List.nil_append,show i+(0+1)=i+1 by omega]
 ·rw[if_neg h,Dp j];unfold midE;rw[show 16 - (i+1)%16=15 - i%16 by omega,show i+(15 - i%16+1)=i+1+(15 - i%16)by omega]
theorem Pa:Elem prog 97 100 4 40:=⟨underlying97,⟨_,_,rfl,rfl,rfl,rfl,rfl⟩,by omega,by omega⟩
def DicR (w:World) (g:Nat) (l:List En):Prop:=∃A c,Row w g 186 #[.slice A l.length c,.bool true]/\Cells w A (encells l)
theorem DicR.ext {l:List En} (h:DicR w g l) (j:Ext w w1):DicR w1 g l:=by
 obtain⟨A,c,h1,h2⟩:=h;exact⟨A,c,h1.ext j,h2.ext j⟩
def DicO (w:World) (base g:Nat) (l:List En):Prop:=∃A c,Row w g 186 #[.slice A l.length c,.bool true]/\w.ownsRow base 100 4 (.slice A l.length c) l.length (encells l)
theorem DicO.dic {base g:Nat} {l:List En} (h:DicO w base g l):DicR w g l:=by
 obtain⟨A,c,h1,h2⟩:=h;exact⟨A,c,h1,Cells.of_own h2⟩
theorem DicO.ext {base g:Nat} {l:List En} (h:DicO w base g l) (j:Ext w w1):DicO w1 base g l:=by
 obtain⟨A,c,h1,h2⟩:=h;exact⟨A,c,h1.ext j,j.owns h2⟩
theorem DicO.chg {base g:Nat} {l:List En} (h:DicO w base g l) (b:Chg S w w1) (a:∀q,S q->∃t cs,Row w q t cs/\t≠186/\t≠100):DicO w1 base g l:=by
 obtain⟨A,c,h1,h2⟩:=h;refine⟨A,c,h1.keep (b.block _ h1.lt fun hs=>?_),b.owns h2 fun q H hs=>?_⟩
 ·obtain⟨t,cs,j,hn,_⟩:=a _ hs;exact Row.unlike j h1 hn rfl
 ·obtain⟨t,cs,j,_,hn⟩:=a _ hs;exact Am h2 j (fun e=>hn e.symm) H
def NewDO (w:World) (l:List En) (e:Ending) (w':World):Prop:=∃g,e = .returned (.tuple #[.pointer (some ⟨g,0,none⟩),.int .i64 0])/\DicO w' w.heap.size g l/\Ext w w'
theorem Ls (A:Option Addr) (n c:Nat) (bs:List UInt8) (w:World) (l:List En) (h:In8 w A n c bs) (p0:OkEs l) (j1:bs=encEs l) (k5:n<=100000000) :
 Calls prog 56 #[.slice A n c] w fun e w'=>NewDO w l e w':=by
 obtain⟨m,hm⟩:=Ab l.length;have j5:m<=262144:=by rw[hm];exact p0.few
 have G:bs=vb m++restE l 0:=by rw[j1,hm];exact Mi l
 have q0:n=(vb m++restE l 0).length:=by rw[<-G];exact h.len
 obtain⟨g,hg⟩:=Ab w.heap.size;obtain⟨W0,m0⟩:=Ab (w.alloc (.cells #[.slice A n c,.bool false] 182));have k2:Ext w W0:=by rw[m0];exact(Ext.refl w).alloc _
 have b:RdD w g (vb m++restE l 0) W0:=by
  refine⟨A,c,?_,by rw[<-q0,<-G];exact h,k2⟩;rw[<-q0,m0,hg];exact Row.new w _ _
 have o1:=Aa (fun W q r z h1 h2 h3 h4=>DD w W g q r z h1 (by omega) h2 h3 h4);have f3:=Aa (fun W la x r h1 h2 h3 h4=>Lt w W g la x r h1 (by omega) h2 h3 h4);have p3:(restE l 0).length<=n:=by rw[q0,List.length_append];omega
 replace b:=Aa b;replace k2:=Aa k2;replace p0:=Aa p0;replace j1:=Aa j1;replace G:=Aa G;replace hm:=Aa hm;replace m0:=Aa m0;replace hg:=Aa hg;replace h:=Aa h;replace q0:=Aa q0;replace p3:=Aa p3
 go_in
 go_wp2_with fail;rw[<-m0.out,<-hg.out];refine(o1.out W0 m (restE l 0) 262144 b.out (by omega) (by omega) (by rw[<-q0.out];omega)).mono ?_;rintro e w1 ⟨rfl,m2,t3⟩;replace m2:=Aa m2;replace t3:=Aa t3;go_wp2_with fail
 go_loopw [6,7,8] (fun s6 s7 s8 wr=>∃(i c6:Nat) (A6:Option Addr) (la:List UInt8),s6 = .slice A6 i c6/\s7 = .string ⟨la.toArray⟩/\s8 = .int .i64 (i:Int)/\i<=m/\Hid (i%16≠0->la=lastT l i)/\Hid (la.length<=65)/\Hid ((restE l i).length<=n)/\Hid (RdD w g (restE l i) wr)/\Hid (wr.ownsRow w.heap.size 100 4 (.slice A6 i c6) i (encells (l.take i)))) (fun _ _ s8 _=>m - (intOf s8).toNat)
 case atStart=>exact⟨0,0,none,[],rfl,rfl,rfl,by omega,Aa (fun h=>by omega),Aa (by simp),p3,m2,Aa (World.ownsRow_nil _ _ _ _)⟩
 case round =>
  obtain⟨i,c6,A6,la,rfl,rfl,rfl,him,i4,o3,k4,hS,I⟩:=hrel;obtain⟨wv,rfl⟩:=Ab wr;obtain⟨B0,d0,r0,_,_⟩:=hS.out;have kb:=r0.cell 1 rfl;clear r0;by_cases i3:i<m
  ·obtain⟨x,k0⟩:∃x,l[i]? = some x:=⟨_,List.getElem?_eq_getElem (by rw[<-hm.out];exact i3)⟩
   have g4:=(p0.out.each x (List.mem_of_getElem? k0)).1;obtain⟨mo,c0⟩:=Ab (i%16);have h5:(i:Int)%16=(mo:Int):=by omega
   have r4:((mo:Int)==0)=decide (mo=0):=by rw[Bool.eq_iff_iff,beq_iff_eq,decide_eq_true_iff];omega
   replace c0:=Aa c0;replace k0:=Aa k0;go_upto_if 29 with (fail)
   go_cut [7] (fun s7 wx=>∃la2:List UInt8,s7 = .string ⟨la2.toArray⟩/\Hid (la2.length<=65)/\Hid ((midE l i la2).length<=n)/\Hid (RdD w g (midE l i la2) wx)/\Hid (wx.ownsRow w.heap.size 100 4 (.slice A6 i c6) i (encells (l.take i))))
   case first =>
    by_cases k3:mo=0
    ·obtain⟨q,hq,q4⟩:=Mh (l:=l) (by rw[<-c0.out];exact k3) (by rw[<-hm.out];exact i3);have x2:=hS.out;have i0:=k4.out;rw[hq]at x2 i0;have O:(midE l i []).length<=n:=by rw[List.length_append]at i0;omega
     have hc:=Aa (o1.out wv q _ (n:Int) x2 (by omega) (by omega) (by omega));replace hq:=Aa hq;replace q4:=Aa q4;replace O:=Aa O;clear x2 i0;go_wp2_with fail;refine hc.out.mono ?_;rintro e w3 ⟨rfl,U,p2⟩;have Y:=p2.owns I.out fun gb i2 e=>by
      obtain⟨B,d,q1,_,_⟩:=hS.out;exact Am I.out q1 (by decide) (by rw[i2,e])
     replace U:=Aa U;replace Y:=Aa Y;replace p2:=Aa p2;go_wp2_with fail
     go_meet
     case rel=>exact⟨[],rfl,Aa (by simp),O,U,Y⟩
    ·have f1:restE l i=midE l i la:=by
      unfold restE;rw[if_neg (by rw[<-c0.out];exact k3),i4.out (by rw[<-c0.out];exact k3)]
     have U:Hid (RdD w g (midE l i la) wv):=Aa (by rw[<-f1];exact hS.out);have O:Hid ((midE l i la).length<=n):=Aa (by rw[<-f1];exact k4.out);replace f1:=Aa f1;go_wp2_with fail
     go_meet
     case rel=>exact⟨la,rfl,o3,O,U,I⟩
   case rest =>
    obtain⟨la2,rfl,l3,O,U,Y⟩:=hcut;have j3:=N0 k0.out la2;have y2:=U.out;have y0:=O.out;rw[j3]at y2 y0;have l0:(restE l (i+1)).length<=n:=by rw[List.length_append]at y0;omega
    have hc:=Aa (f3.out _ la2 x _ y2 g4 l3.out (by omega));have a1:=Dp k0.out;have m3:encells (l.take (i+1))=encells (l.take i)++x.cells:=by
     rw[List.take_add_one,k0.out];unfold encells;rw[List.flatMap_append];simp
    obtain⟨t,off,len,nn⟩:=x;have n0:t.length<=65:=g4.1;simp only at a1;replace j3:=Aa j3;replace l0:=Aa l0;replace a1:=Aa a1;replace m3:=Aa m3;replace n0:=Aa n0;clear y2 y0;go_wp2_with fail;refine hc.out.mono ?_;rintro e w4 ⟨he,a3,x3⟩;have he:e = .returned (.agg #[.string ⟨t.toArray⟩,.int .i64 (off:Int),.int .i64 (len:Int),.int .i64 (nn:Int)]):=he;subst he;have T:=x3.owns Y.out fun gb i2 e=>by
     obtain⟨B,d,q1,_,_⟩:=U.out;exact Am Y.out q1 (by decide) (by rw[i2,e])
    obtain⟨g9,v0⟩:=Ab w4.heap.size;obtain⟨W9,h0⟩:=Ab (w4.alloc (.cells #[.string ⟨t.toArray⟩,.int .i64 (off:Int),.int .i64 (len:Int),.int .i64 (nn:Int)] 100));have p4:Row W9 g9 100 #[.string ⟨t.toArray⟩,.int .i64 (off:Int),.int .i64 (len:Int),.int .i64 (nn:Int)]:=by rw[h0,v0];exact Row.new w4 _ _
    have b3:RdD w g (restE l (i+1)) W9:=by rw[h0];exact a3.ext ((Ext.refl w4).alloc _)
    have f0:W9.ownsRow w.heap.size 100 4 (.slice A6 i c6) i (encells (l.take i)):=by rw[h0];exact((Ext.refl w4).alloc _).owns T
    have J:=p4.ext (Ext.refl W9).drew;have Z:=b3.ext (Ext.refl W9).drew;have a:=(Ext.refl W9).drew.owns f0;have j4:w.heap.size<=W9.drew.heap.size:=by obtain⟨_,_,_,_,q⟩:=Z;exact q.size
    have t0:∀k,(Value.slice A6 i c6).ownBlock=some k->k<g9:=fun k hk=>by
     obtain⟨cs,o4,_⟩:=Ae T hk;rw[v0];exact o4.lt
    have e3:=J.get;have b:W9.drew.cell? ⟨g9,0,none⟩=some (.string ⟨t.toArray⟩)/\W9.drew.cell? ⟨g9,1,none⟩=some (.int .i64 (off:Int))/\W9.drew.cell? ⟨g9,2,none⟩=some (.int .i64 (len:Int))/\W9.drew.cell? ⟨g9,3,none⟩=some (.int .i64 (nn:Int)):=⟨J.cell 0 rfl,J.cell 1 rfl,J.cell 2 rfl,J.cell 3 rfl⟩
    have g0:Ext W9.drew (W9.drew.alloc (.cells #[.string ⟨t.toArray⟩,.int .i64 (off:Int),.int .i64 (len:Int),.int .i64 (nn:Int)] 100)):=(Ext.refl _).alloc _;have a2:(W9.drew.alloc (.cells #[.string ⟨t.toArray⟩,.int .i64 (off:Int),.int .i64 (len:Int),.int .i64 (nn:Int)] 100)).cell? ⟨g9,0,none⟩=some (.string ⟨t.toArray⟩)/\(W9.drew.alloc (.cells #[.string ⟨t.toArray⟩,.int .i64 (off:Int),.int .i64 (len:Int),.int .i64 (nn:Int)] 100)).cell? ⟨g9,1,none⟩=some (.int .i64 (off:Int))/\(W9.drew.alloc (.cells #[.string ⟨t.toArray⟩,.int .i64 (off:Int),.int .i64 (len:Int),.int .i64 (nn:Int)] 100)).cell? ⟨g9,2,none⟩=some (.int .i64 (len:Int))/\(W9.drew.alloc (.cells #[.string ⟨t.toArray⟩,.int .i64 (off:Int),.int .i64 (len:Int),.int .i64 (nn:Int)] 100)).cell? ⟨g9,3,none⟩=some (.int .i64 (nn:Int)):=⟨g0.cell b.1,g0.cell b.2.1,g0.cell b.2.2.1,g0.cell b.2.2.2⟩
    have o2:∀w8,W9.drew.grownBy w8 (Value.slice A6 i c6).ownBlock->w8.cell? ⟨g9,0,none⟩=some (.string ⟨t.toArray⟩)/\w8.cell? ⟨g9,1,none⟩=some (.int .i64 (off:Int))/\w8.cell? ⟨g9,2,none⟩=some (.int .i64 (len:Int))/\w8.cell? ⟨g9,3,none⟩=some (.int .i64 (nn:Int)):=fun w8 y1=>by
     have d1:=Row.grown (w:=W9.drew) J y1 (fun e=>by
      have:=t0 _ e.symm;omega)
     exact⟨d1.cell 0 rfl,d1.cell 1 rfl,d1.cell 2 rfl,d1.cell 3 rfl⟩
    replace J:=Aa J;replace Z:=Aa Z;replace a:=Aa a;replace h0:=Aa h0;replace v0:=Aa v0;replace b:=Aa b;replace a2:=Aa a2;replace o2:=Aa o2;replace t0:=Aa t0;replace e3:=Aa e3;clear p4 b3 f0 T a3 x3 g0;go_wp2_with fail;rw[<-h0.out,<-v0.out]
    go_region_held3 (fun x=>x.cell? ⟨g9,0,none⟩=some (.string ⟨t.toArray⟩)/\x.cell? ⟨g9,1,none⟩=some (.int .i64 (off:Int))/\x.cell? ⟨g9,2,none⟩=some (.int .i64 (len:Int))/\x.cell? ⟨g9,3,none⟩=some (.int .i64 (nn:Int))) (first | exact b.out | exact a2.out | exact o2.out _ ‹_›) (first | (refine OH (us:= [.string ⟨t.toArray⟩,.int .i64 (off:Int),.int .i64 (len:Int),.int .i64 (nn:Int)]) (m:=1) Pa rfl a.out rfl (.tmp 37) (.tmp 39) rfl rfl rfl rfl (Az rfl) (by omega) j4 (fun A8 c8 w8 l4 y1=>?_)))
    go_wp2_with fail;have a4:RdD w g (restE l (i+1)) w8:=by
     obtain⟨B,d,q1,q2,q3⟩:=Z.out;refine⟨B,d,q1.grown y1 fun e=>Am a.out q1 (by decide) e.symm,q2,q3.grown y1 fun k hk=>?_⟩;obtain⟨_,_,hb⟩:=Ae a.out hk;exact hb
    have r3:w8.ownsRow w.heap.size 100 4 (.slice A8 (i+1) c8) (i+1) (encells (l.take (i+1))):=by rw[m3.out];exact l4
    exact⟨⟨i+1,c8,A8,t,rfl,rfl,rfl,by omega,Aa (fun _=>a1.out.symm),n0,l0,Aa a4,Aa r3⟩,by simp only[intOf];omega⟩
  ·obtain rfl:i=m:=by omega
   have H:=I.out;rw[List.take_of_length_le (by rw[<-hm.out];exact Nat.le_refl _)]at H;have x1:=BN H;have m1:=Cells.of_own H;have p1:Ext w wv:=by obtain⟨_,_,_,_,q⟩:=hS.out;exact q
   have d4:=Aa (fun W (hE:Ext wv W/\W.cell? ⟨g,1,none⟩=some (Value.bool false))=>(J3 l A6 i c6 W hm.out (m1.ext hE.1) p0.out).mono fun e W' ⟨he,j0⟩=>And.intro he (show Ext wv W'/\W'.cell? ⟨g,1,none⟩=some (Value.bool false)from⟨hE.1.trans j0,j0.cell hE.2⟩));have d2:=Aa (fun W (hE:Ext wv W/\W.cell? ⟨g,1,none⟩=some (Value.bool false))=>(GF l A6 i c6 W hm.out (m1.ext hE.1) x1.2 x1.1 p0.out).mono fun e W' (h:OwnB _ _ _ e W')=>show ∃A5 c5,e = .returned (.slice A5 (encEs l).length c5)/\Bs W' A5 (encEs l)/\Ext wv W'/\W'.cell? ⟨g,1,none⟩=some (Value.bool false)from by
    obtain⟨A5,c5,he,ho,j0⟩:=h;exact⟨A5,c5,he,ho.2.cells,hE.1.trans j0,j0.cell hE.2⟩)
   have b:Ext wv wv.drew/\wv.drew.cell? ⟨g,1,none⟩=some (Value.bool false):=⟨(Ext.refl wv).drew,kb⟩
   have e4:∀W,(Ext wv W/\W.cell? ⟨g,1,none⟩=some (Value.bool false))->(convert 24 9 (.slice A n c)).run prog W = .ok (.string ⟨bs.toArray⟩) W:=fun W hE=>CT ((h.out.bytes.ext p1).ext hE.1) n c h.out.len;have p5:(bs==bs)=true:=beq_self_eq_true bs;obtain⟨nb,e0⟩:=Ab ((encEs l).length);rw[<-j1.out]at d2 e0;rw[<-e0]at d2;replace H:=Aa H;replace x1:=Aa x1;replace m1:=Aa m1;replace p1:=Aa p1;replace b:=Aa b;replace e0:=Aa e0;go_wp2_with fail;refine wp_region_held_drew (S:=(fun x=>Ext wv x/\x.cell? ⟨g,1,none⟩=some (Value.bool false))) (by kernel_rfl) b.out (fun j2=>?_);refine wpAnyH_take (i:=0) (v:= .pointer (some ⟨g,0,none⟩)) rfl (by kernel_rfl) (by kernel_rfl) (by kernel_rfl) (fun _ _ _ h=>h) (Or.inl ⟨by rfl,?_⟩) (by assumption) ?_
   ·intro w' j
    (try dsimp only at j)
    go_simp
    try with_reducible rfl
    all_goals omega
   (try simp only[Act.put,Bv,Bw,By,CN,CO,CP])
   refine wpAnyH_take (i:=1) (v:= .pointer (some ⟨g,0,none⟩)) rfl (by kernel_rfl) (by kernel_rfl) (by kernel_rfl) (fun _ _ _ h=>h) (Or.inl ⟨by rfl,?_⟩) (by assumption) ?_
   ·intro w' j
    (try dsimp only at j)
    go_simp
    try with_reducible rfl
    all_goals omega
   (try simp only[Act.put,Bv,Bw,By,CN,CO,CP])
   refine wpAnyH_take (i:=2) (v:= .pointer (some ⟨g,1,none⟩)) rfl (by kernel_rfl) (by kernel_rfl) (by kernel_rfl) (fun _ _ _ h=>h) (Or.inl ⟨by rfl,?_⟩) (by assumption) ?_
   ·intro w' j
    (try dsimp only at j)
    go_simp
    try with_reducible rfl
    all_goals omega
   (try simp only[Act.put,Bv,Bw,By,CN,CO,CP])
   refine wpAnyH_take (i:=3) (v:= .bool false) rfl (by kernel_rfl) (by kernel_rfl) (by kernel_rfl) (fun _ _ _ h=>h) (Or.inl ⟨by rfl,?_⟩) (by assumption) ?_
   ·intro w' j
    (try dsimp only at j)
    obtain⟨_,q5⟩:=j;go_simp
    try with_reducible rfl
    all_goals omega
   (try simp only[Act.put,Bv,Bw,By,CN,CO,CP])
   refine wpAnyH_take (i:=4) (v:= .bool false) rfl (by kernel_rfl) (by kernel_rfl) (by kernel_rfl) (fun _ _ _ h=>h) (Or.inl ⟨by rfl,?_⟩) (by assumption) ?_
   ·intro w' j
    (try dsimp only at j)
    go_simp
    try with_reducible rfl
    all_goals omega
   (try simp only[Act.put,Bv,Bw,By,CN,CO,CP])
   refine wpAnyH_take (i:=5) (v:= .slice A6 i c6) rfl (by kernel_rfl) (by kernel_rfl) (by kernel_rfl) (fun _ _ _ h=>h) (Or.inl ⟨by rfl,?_⟩) (by assumption) ?_
   ·intro w' j
    (try dsimp only at j)
    go_simp
    try with_reducible rfl
    all_goals omega
   (try simp only[Act.put,Bv,Bw,By,CN,CO,CP])
   refine wpAnyH_ready (rs:= [6]) (by kernel_rfl) (by simp) ?_;refine AllReadyH.cons rfl (fun K hK=>?_) AllReadyH.nil
   (first | go_at_call 85 | (go_simp;go_at_call 85));(refine(d4.out _ ‹_›).mono ?_;rintro e w5 ⟨rfl,d3⟩)
   refine hK.out _ _ ?_ (fun m4=>?_)
   ·exact d3
   clear hK K
   (try simp only[Act.put,Bv,Bw,By,CN,CO,CP])
   refine wpAnyH_take (i:=7) (v:= .bool false) rfl (by kernel_rfl) (by kernel_rfl) (by kernel_rfl) (fun _ _ _ h=>h) (Or.inl ⟨by rfl,?_⟩) (by assumption) ?_
   ·intro w' j
    (try dsimp only at j)
    go_simp
    try with_reducible rfl
    all_goals omega
   (try simp only[Act.put,Bv,Bw,By,CN,CO,CP])
   refine wpAnyH_take (i:=8) (v:= .bool false) rfl (by kernel_rfl) (by kernel_rfl) (by kernel_rfl) (fun _ _ _ h=>h) (Or.inl ⟨by rfl,?_⟩) (by assumption) ?_
   ·intro w' j
    (try dsimp only at j)
    go_simp
    try with_reducible rfl
    all_goals omega
   (try simp only[Act.put,Bv,Bw,By,CN,CO,CP])
   refine wpAnyH_take (i:=9) (v:= .bool false) rfl (by kernel_rfl) (by kernel_rfl) (by kernel_rfl) (fun _ _ _ h=>h) (Or.inl ⟨by rfl,?_⟩) (by assumption) ?_
   ·intro w' j
    (try dsimp only at j)
    go_simp
    try with_reducible rfl
    all_goals omega
   (try simp only[Act.put,Bv,Bw,By,CN,CO,CP])
   refine wpAnyH_take (i:=10) (v:= .slice A6 i c6) rfl (by kernel_rfl) (by kernel_rfl) (by kernel_rfl) (fun _ _ _ h=>h) (Or.inl ⟨by rfl,?_⟩) (by assumption) ?_
   ·intro w' j
    (try dsimp only at j)
    go_simp
    try with_reducible rfl
    all_goals omega
   (try simp only[Act.put,Bv,Bw,By,CN,CO,CP])
   refine wpAnyH_take (i:=13) (v:= .slice A n c) rfl (by kernel_rfl) (by kernel_rfl) (by kernel_rfl) (fun _ _ _ h=>h) (Or.inl ⟨by rfl,?_⟩) (by assumption) ?_
   ·intro w' j
    (try dsimp only at j)
    go_simp
    try with_reducible rfl
    all_goals omega
   (try simp only[Act.put,Bv,Bw,By,CN,CO,CP])
   refine wpAnyH_take (i:=14) (v:= .string ⟨bs.toArray⟩) rfl (by kernel_rfl) (by kernel_rfl) (by kernel_rfl) (fun _ _ _ h=>h) (Or.inl ⟨by rfl,?_⟩) (by assumption) ?_
   ·intro w' j
    (try dsimp only at j)
    have f4:=e4 w' j;go_simp
    try with_reducible rfl
    all_goals omega
   (try simp only[Act.put,Bv,Bw,By,CN,CO,CP])
   refine wpAnyH_ready (rs:= [11]) (by kernel_rfl) (by simp) ?_;refine AllReadyH.cons rfl (fun K hK=>?_) AllReadyH.nil
   (first | go_at_call 86 | (go_simp;go_at_call 86));(refine(d2.out _ ‹_›).mono ?_;rintro e w6 ⟨A5,c5,rfl,b4,k1⟩)
   have f4:=CT b4 nb c5 e0.out;refine hK.out _ _ ?_ (fun t4=>?_)
   ·exact k1
   clear hK K
   (try simp only[Act.put,Bv,Bw,By,CN,CO,CP])
   refine wpAnyH_ready (rs:= [12]) (by kernel_rfl) (by simp) ?_;refine AllReadyH.cons rfl (fun K hK=>?_) AllReadyH.nil;go_simp;refine hK.out _ _ ?_ (fun v4=>?_)
   ·exact k1
   clear hK K
   (try simp only[Act.put,Bv,Bw,By,CN,CO,CP])
   refine wpAnyH_take (i:=15) (v:= .bool false) rfl (by kernel_rfl) (by kernel_rfl) (by kernel_rfl) (fun _ _ _ h=>h) (Or.inl ⟨by rfl,?_⟩) (by assumption) ?_
   ·intro w' j
    (try dsimp only at j)
    go_simp
    try with_reducible rfl
    all_goals omega
   (try simp only[Act.put,Bv,Bw,By,CN,CO,CP])
   refine wpAnyH_take (i:=16) (v:= .bool false) rfl (by kernel_rfl) (by kernel_rfl) (by kernel_rfl) (fun _ _ _ h=>h) (Or.inl ⟨by rfl,?_⟩) (by assumption) ?_
   ·intro w' j
    (try dsimp only at j)
    go_simp
    try with_reducible rfl
    all_goals omega
   (try simp only[Act.put,Bv,Bw,By,CN,CO,CP])
   refine wpAnyH_done (by kernel_rfl) ?_ _;have y3:=Aa k1.1;clear d3 k1 j2;go_wp2_with fail;go_ret2;refine⟨w6.heap.size,rfl,⟨A6,c6,?_,?_⟩,(p1.out.trans y3.out).alloc _⟩
   ·rw[<-hm.out];exact Row.new w6 _ _
   ·rw[<-hm.out];exact((Ext.refl w6).alloc _).owns (y3.out.owns H.out)
end
section
open Go.RowKit Go.Maps
def openD (b:List UInt8):Option (List Dc) :=
 if b.take 4 = [76,83,69,71] then
  if (splitF (b.drop 4)).2=0/\(splitF (b.drop 4)).1.length=6 then
   match decDs ((splitF (b.drop 4)).1.headD [])with
   | some P=>if 0<P.length/\segL P=b then some P else none
   | none=>none
  else none
 else none
def SegR (w:World) (g:Nat) (P:List Dc):Prop:=∃(ds:List DocC) (A:Option Addr) (c:Nat) (lo hi fi la:Int) (B:Option Addr) (cB gd gf:Nat),
 Row w g 120 #[.slice A ds.length c,.int .i64 0,.int .i64 0,.int .i64 lo,.int .i64 hi,.int .i64 fi,.int .i64 la,.int .i64 (ds.length:Int),.pointer (some ⟨gd,0,none⟩),.slice B (postB (rowsD P)).length cB,.pointer (some ⟨gf,0,none⟩)] /\
 dcs ds=P/\partD P = [lo,hi,fi,la,(ds.length:Int)]/\DocsOk w A ds/\DicR w gd (enOf 0 (rowsD P))/\In8 w B (postB (rowsD P)).length cB (postB (rowsD P))/\FilR w gf (ofB ((rowsD P).map (·.1)))
def SegRB (base:Nat) (w:World) (g:Nat) (P:List Dc):Prop:=∃(ds:List DocC) (A:Option Addr) (c:Nat) (lo hi fi la:Int) (B:Option Addr) (cB gd gf:Nat),
 Row w g 120 #[.slice A ds.length c,.int .i64 0,.int .i64 0,.int .i64 lo,.int .i64 hi,.int .i64 fi,.int .i64 la,.int .i64 (ds.length:Int),.pointer (some ⟨gd,0,none⟩),.slice B (postB (rowsD P)).length cB,.pointer (some ⟨gf,0,none⟩)] /\
 dcs ds=P/\partD P = [lo,hi,fi,la,(ds.length:Int)]/\DocsOwn w base A c ds/\DicO w base gd (enOf 0 (rowsD P))/\Buf w base 5 B (postB (rowsD P)).length cB ((postB (rowsD P)).map B8)/\FilO w base gf (ofB ((rowsD P).map (·.1)))
theorem SegRB.seg {base:Nat} {P:List Dc} (h:SegRB base w g P):SegR w g P:=by
 obtain⟨ds,A,c,lo,hi,fi,la,B,cB,gd,gf,h1,h2,j,b,a,H,Y⟩:=h;exact⟨ds,A,c,lo,hi,fi,la,B,cB,gd,gf,h1,h2,j,b.ok,a.dic,H.in8,Y.fil⟩
theorem FilO.lower {base b g:Nat} (h:FilO w base g f) (hb:b<=base):FilO w b g f:=by
 obtain⟨b1,c,cur,a,h1,j,h2⟩:=h;exact⟨b1,c,cur,a,Nat.le_trans hb h1,j,h2⟩
theorem DicO.lower {base b g:Nat} {l:List En} (h:DicO w base g l) (hb:b<=base):DicO w b g l:=by
 obtain⟨A,c,h1,h2⟩:=h;exact⟨A,c,h1,AD h2 hb⟩
def SegOB (w:World) (b:List UInt8) (e:Ending) (w':World):Prop:=Ext w w'/\match openD b with
 | some P=>∃g,e = .returned (.tuple #[.pointer (some ⟨g,0,none⟩),.int .i64 0])/\SegRB w.heap.size w' g P
 | none=>e = .returned (.tuple #[.pointer none,.int .i64 130])
theorem SegOB.no {b:List UInt8} (j:Ext w w') (h:openD b=none):SegOB w b (.returned (.tuple #[.pointer none,.int .i64 130])) w':=by
 refine⟨j,?_⟩;rw[h]
def SegO (w:World) (b:List UInt8) (e:Ending) (w':World):Prop:=Ext w w'/\match openD b with
 | some P=>∃g,e = .returned (.tuple #[.pointer (some ⟨g,0,none⟩),.int .i64 0])/\SegR w' g P
 | none=>e = .returned (.tuple #[.pointer none,.int .i64 130])
theorem SegO.no {b:List UInt8} (j:Ext w w') (h:openD b=none):SegO w b (.returned (.tuple #[.pointer none,.int .i64 130])) w':=by
 refine⟨j,?_⟩;rw[h]
theorem Ik {p:Addr} (h:Cells w A xs) (j:w.cell? p=some u0) (b:∀v∈xs,v≠u0) (u:Value):Cells (w.setCell p u) A xs:=by
 rcases h with h | ⟨g,o,H,Y⟩
 ·exact .inl h
 ·refine .inr ⟨g,o,H,fun i v a=>?_⟩;have h1:=Y i v a;rw[World.cell?_setCell_other w p _ u (fun e=>by
   rw[e]at j;rw[h1]at j;injection j with j;exact b v (List.mem_of_getElem? a) j)]
  exact h1
theorem Ly (l:List En):∀v∈encells l,v≠Value.pointer none:=fun v j e=>by
 unfold encells at j;obtain⟨x,_,h⟩:=List.mem_flatMap.1 j;unfold En.cells at h;simp only[List.mem_cons,List.not_mem_nil,or_false]at h;rcases h with rfl | rfl | rfl | rfl <;> cases e
theorem DicR.set {l:List En} (h:DicR w gd l) (j:Row w g 120 cs) (hi:cs[i]? = some (.pointer none)) (u:Value):DicR (w.setCell ⟨g,i,none⟩ u) gd l:=by
 obtain⟨A,c,h1,h2⟩:=h;exact⟨A,c,h1.away (h1.unlike j (by decide)) u,Ik h2 (j.cell i hi) (Ly l) u⟩
theorem FilO.set {b gf g i:Nat} (h:FilO w b gf f) (j:Row w g 120 cs) (u:Value):FilO (w.setCell ⟨g,i,none⟩ u) b gf f:=by
 obtain⟨b1,c,cur,h1,hb,h2,a,H,Y⟩:=h;exact⟨b1,c,cur,h1.away (h1.unlike j (by decide)) u,hb,h2.away (h2.unlike j (by decide)) u,a,H,Y⟩
theorem EV {ds:List DocC} (h:DocsOk w A ds) (U:m=ds.length) (T:0<m) (hs:SmP (dcs ds)):∀p∈framesD (dcs ds),p.length<=16777216:=by
 have b:=hs.seg;have O:(vall (partD (dcs ds))).length<=16777216:=by
  obtain⟨x0,a⟩:∃x,ds[0]? = some x:=⟨_,List.getElem?_eq_getElem (by omega)⟩
  obtain⟨xl,H⟩:∃x,ds[m - 1]? = some x:=⟨_,List.getElem?_eq_getElem (by omega)⟩
  have h1:=C7 U a H;have j:∀d∈dcs ds,I64ok' d.2.at_:=fun d hd=>by
   unfold dcs at hd;obtain⟨x,Y,rfl⟩:=List.mem_map.1 hd;exact(h.each x Y).2.1
  have q0:=(h.each x0 (List.mem_of_getElem? a)).2;have ql:=(h.each xl (List.mem_of_getElem? H)).2;have hn:m<=65536:=by
   have:=b.n;unfold dcs at this;rw[List.length_map]at this;omega
  rw[h1];have q1:=E5 (dcs ds) _ q0.1 j;have q2:=Ea (dcs ds) _ q0.1 j;have q5:I64ok' (m:Int):=by unfold I64ok';omega
  have h2:=De [lowD x0.e.at_ (dcs ds),highD x0.e.at_ (dcs ds),x0.seq,xl.seq,(m:Int)] (fun x Y=>by
   simp only[List.mem_cons,List.not_mem_nil,or_false]at Y;rcases Y with rfl | rfl | rfl | rfl | rfl
   ·exact q1
   ·exact q2
   ·exact q0.2
   ·exact ql.2
   ·exact q5) 5
  exact Nat.le_trans h2 (by decide)
 intro p J;unfold framesD at J;simp only[List.mem_cons,List.not_mem_nil,or_false]at J;rcases J with rfl | rfl | rfl | rfl | rfl | rfl
 ·exact b.docs
 ·exact b.times
 ·exact Nat.le_trans b.posts (by decide)
 ·exact b.dic
 ·exact Nat.le_trans b.bits.2 (by decide)
 ·exact O
theorem Ff (A:Option Addr) (n c:Nat) (b:List UInt8) (w:World) (h:In8 w A n c b) (e7:n<=1000000000) (m2:∀P,(splitF (b.drop 4)).2=0->decDs ((splitF (b.drop 4)).1.headD [])=some P->(blockD 0 P).length<=70000) :
 Calls prog 24 #[.slice A n c] w fun e w'=>SegOB w b e w':=by
 have t4:=h.len;obtain⟨k4,d4⟩:∃k:Nat,(k:Int)=min (n:Int) 4:=⟨min n 4,by omega⟩
 have k6:k4<=n:=by omega
 have m7:=fun(W:World)=>AQ (P:=prog) #[3,3] 3 d4 W;obtain⟨i7,h4⟩:=h.headk .i64 k6 (z:=(k4:Int)) rfl;have m4:=fun(W:World) (hE:Ext w W)=>CT (A:=A) (l:=b.take k4) (w:=W) (h4.bytes.ext hE) k4 c h4.len;have j5:b.take k4=b.take 4:=by
  by_cases g6:4<=n
  ·have:k4=4:=by omega
   rw[this]
  ·have:k4=n:=by omega
   rw[this,List.take_of_length_le (by omega),List.take_of_length_le (by omega)]
 have q6:=Tryz.strings_HasPrefix ⟨(b.take k4).toArray⟩ ⟨#[76,83,69,71]⟩ w;obtain⟨hp,q1⟩:=Ab (Lib.hasPrefix (b.take 4) [76,83,69,71]);have r0:Calls prog 52 #[.string ⟨(b.take k4).toArray⟩,.string ⟨#[76,83,69,71]⟩] w fun e w'=>e = .returned (.bool hp)/\w'=w:=by
  rw[q1,<-j5];simpa using q6
 have j1:hp=true↔b.take 4 = [76,83,69,71]:=by
  rw[q1];unfold Lib.hasPrefix;rw[List.isPrefixOf_iff_prefix];constructor
  ·intro x6;exact(x6.eq_of_length_le (by rw[List.length_take];simp;omega)).symm
  ·intro e;rw[e];exact List.prefix_refl _
 have p7:=m4 w (Ext.refl w);replace r0:=Aa r0;replace h:=Aa h;replace m2:=Aa m2;clear q6 m4 h4;have f5:=Aa t4;replace d4:=Aa d4;replace q1:=Aa q1;replace j5:=Aa j5;by_cases i4:hp=true
 ·have m1:=j1.1 i4;subst i4;have g6:4<=n:=by
   have:=congrArg List.length m1;rw[List.length_take]at this;simp at this;omega
  obtain⟨A4,c4,l6,j3⟩:=h.out.from_ (fr:=4) g6 (z:=4) rfl;have a3:=OC A4 (n - 4) c4 (b.drop 4) w j3 (by omega);clear t4;replace a3:=Aa a3;replace j3:=Aa j3;replace m1:=Aa m1;replace j1:=Aa j1
  go_in
  go_wp2_with fail;refine r0.out.mono ?_;rintro e w1 ⟨rfl,rfl⟩;go_wp2_with fail;refine a3.out.mono ?_;rintro e w2 ⟨L,cL,z,ps,rfl,v4,j2,q2,T⟩;have Y:openD b=if (splitF (b.drop 4)).2=0/\ps.length=6 then (match decDs ((pays ps).headD [])with | some P=>if 0<P.length/\segL P=b then some P else none | none=>none) else none:=by
   unfold openD;rw[if_pos m1.out,<-j2];have:(pays ps).length=ps.length:=List.length_map ..;rw[this]
  have v0:=m2.out;rw[<-j2]at v0;obtain⟨sc,q5⟩:=Ab ((splitF (b.drop 4)).2);rw[<-q5]at Y v0 ⊢;have t0:∀p∈pays ps,p.length<=16777216:=fun p hp=>by rw[j2]at hp;exact(Fl hp).1
  replace q5:=Aa q5;replace v0:=Aa v0;replace t0:=Aa t0;obtain⟨np,q4⟩:=Ab ps.length;rw[<-q4]at Y ⊢;replace q4:=Aa q4;replace v4:=Aa v4;replace j2:=Aa j2;replace q2:=Aa q2;by_cases x3:sc=0
  ·by_cases m6:np=6
   ·subst x3;subst m6;rw[if_pos ⟨rfl,rfl⟩]at Y;obtain⟨⟨A0,k0,b0,z0⟩,⟨A1,k1,b1,z1⟩,⟨A2,k2,b2,z2⟩,⟨A3,k3,b3,z3⟩,⟨A4',k4',b4,z4⟩,⟨A5,k5,b5,z5⟩,y6⟩:∃p0 p1 p2 p3 p4 p5:Pay,ps = [p0,p1,p2,p3,p4,p5]:=by
     have:=q4.out
     match ps,this with
     | [p0,p1,p2,p3,p4,p5],_=>exact⟨p0,p1,p2,p3,p4,p5,rfl⟩
    subst y6;obtain⟨gl,ol,hL,d2⟩:=v4.out.at_ (by simp);subst hL;have l0:=d2 0 (.slice A0 b0.length k0) rfl;have l2:=d2 2 (.slice A2 b2.length k2) rfl;have l3:=d2 3 (.slice A3 b3.length k3) rfl;have l4:=d2 4 (.slice A4' b4.length k4') rfl;rw[Nat.add_zero]at l0;have h5:(pays [(A0,k0,b0,z0),(A1,k1,b1,z1),(A2,k2,b2,z2),(A3,k3,b3,z3),(A4',k4',b4,z4),(A5,k5,b5,z5)]).headD []=b0:=rfl;rw[h5]at Y;have g4:=fun P hP=>v0.out P rfl (by rw[h5];exact hP);have p6:In8 w2 A0 b0.length k0 b0:=by obtain⟨bb,hb⟩:=q2.out (A0,k0,b0,z0) (by simp);exact hb.in8
    have n6:=t0.out b0 (by simp[pays]);have j0:=JA A0 b0.length k0 b0 w2 p6 (by omega);obtain⟨D,hD⟩:=Ab (decDs b0);have o0:=fun P (h:decDs b0=some P)=>Iq h;rw[<-hD]at j0 Y o0;have y3:∀P,D=some P->(blockD 0 P).length<=70000:=fun P hP=>g4 P (by rw[<-hD];exact hP);obtain⟨n0,o4⟩:=Ab b0.length;rw[<-o4]at j0 l0;replace hD:=Aa hD;replace o0:=Aa o0;replace j0:=Aa j0;replace Y:=Aa Y;replace y3:=Aa y3;replace o4:=Aa o4;clear d2 g4 p6 n6 h5;go_wp2_with fail;refine j0.out.mono ?_;rintro e w3 ⟨h0,a1⟩;cases D with
    | none =>
     simp only at a1;subst a1;have j:openD b=none:=Y.out;replace j:=Aa j;go_wp2_with fail;go_ret2;exact SegOB.no (T.trans h0) j.out
    | some P =>
     simp only at a1;obtain⟨ds,Ad,cd,i1,rfl,y1⟩:=a1;obtain⟨t6,c7⟩:=o0.out P rfl;have a6:=y3.out P rfl;have c5:P.length=ds.length:=by rw[<-i1];exact List.length_map ..
     have o2:=y1.ok;have Z:=y1.cap;have i0:=T.trans h0;have U:openD b=if 0<P.length/\segL P=b then some P else none:=Y.out;obtain⟨m,hm⟩:=Ab ds.length;rw[<-hm]at Z c5 ⊢;rw[c5]at U;by_cases o6:m=0
     ·have j:openD b=none:=by rw[U,if_neg (fun e=>by omega)]
      subst o6;have m0:=Fe ds Ad 0 cd w3 hm o2 Z.2 Z.1 (by omega) (.inr rfl);replace m0:=Aa m0;replace j:=Aa j;replace hm:=Aa hm;clear U Z y1 o2;go_wp2_with fail;refine m0.out.mono ?_;rintro e w4 ⟨rfl,H⟩;go_wp2_with fail;go_ret2;exact SegOB.no (i0.trans H) j.out
     ·have m2:SmP (dcs ds):=by rw[i1];exact⟨t6,a6⟩
      have m0:=CY ds Ad m cd w3 hm o2 Z.2 Z.1 m2 (by omega);rw[i1]at m0;have hB:=(SmP.mk t6 a6).seg;replace m0:=Aa m0;replace hm:=Aa hm;replace U:=Aa U;replace hB:=Aa hB;go_wp2_with fail;refine m0.out.mono ?_;rintro e w4 ⟨A9,c9,rfl,a5,H⟩;obtain⟨n9,r3⟩:=Ab ((segL P).length);rw[<-r3]at a5 ⊢;have z6:=CT (A:=A9) (l:=segL P) (w:=w4) a5.2.cells n9 c9 r3;have y7:=CT (A:=A) (l:=b) (w:=w4) ((h.out.ext (i0.trans H)).bytes) n c f5.out;replace r3:=Aa r3;by_cases h3:segL P=b
      ·rw[h3]at z6;have j7:=i0.trans H;have d3:openD b=some P:=by rw[U.out,if_pos ⟨by omega,h3⟩]
       obtain⟨x0,g5⟩:∃x,ds[0]? = some x:=⟨_,List.getElem?_eq_getElem (by have:=hm.out;omega)⟩
       obtain⟨xl,m5⟩:∃x,ds[m - 1]? = some x:=⟨_,List.getElem?_eq_getElem (by have:=hm.out;omega)⟩
       have t3:=C7 hm.out g5 m5;obtain⟨lo,e4⟩:∃z,z=lowD x0.e.at_ (dcs ds):=⟨_,rfl⟩
       obtain⟨q3,a4⟩:∃z,z=highD x0.e.at_ (dcs ds):=⟨_,rfl⟩
       rw[<-e4,<-a4]at t3;have h7:m<=1000000:=by have:=hB.out.n;omega
       have O:=fun X (hx:Ext w4 X)=>K4 ds Ad m cd X hm.out (o2.ext (H.trans hx)) h7 (by omega);rw[t3]at O;have v6:prtA [lo,q3,x0.seq,xl.seq,(m:Int)]=#[.int .i64 0,.int .i64 0,.int .i64 lo,.int .i64 q3,.int .i64 x0.seq,.int .i64 xl.seq,.int .i64 (m:Int)]:=rfl;rw[v6]at O;obtain⟨bb2,d5⟩:=q2.out (A2,k2,b2,z2) (by simp);simp only at d5;have y2:=d5.ext (h0.trans H);have j6:=t0.out b2 (by simp[pays]);obtain⟨n2,m3⟩:=Ab b2.length;rw[<-m3]at y2 l2 j6;have I:=fun X (hx:Ext w4 X)=>Cr A2 n2 k2 b2 X m3 (y2.ext hx).cells (MN y2) (by omega);have lx2:=(h0.trans H).cell l2;replace t3:=Aa t3;replace e4:=Aa e4;replace a4:=Aa a4;replace g5:=Aa g5;replace m5:=Aa m5;replace O:=Aa O;replace I:=Aa I;replace m3:=Aa m3;replace d3:=Aa d3;clear v6;go_upto_region 12 with fail
       go_cut [10] (fun s10 wy=>∃g BC cC,s10 = .pointer (some ⟨g,0,none⟩)/\Hid (Row wy g 120 #[.slice Ad m cd,.int .i64 0,.int .i64 0,.int .i64 lo,.int .i64 q3,.int .i64 x0.seq,.int .i64 xl.seq,.int .i64 (m:Int),.pointer none,.slice BC n2 cC,.pointer none])/\Hid (Buf wy w4.heap.size 5 BC n2 cC (b2.map B8))/\Hid (Ext w4 wy)/\w4.heap.size<=g)
       case first =>
        have hX:Hid (Ext w4 w4):=Aa (Ext.refl w4)
        go_region_held3 (fun x=>x.cell? ⟨gl,ol+2,none⟩=some (.slice A2 n2 k2))
         (exact(hX.out.trans (by(first | with_reducible exact Ext.refl _ | with_reducible exact Ext.drew (Ext.refl _) | with_reducible exact Ext.alloc (Ext.refl _) _ | with_reducible exact Ext.drew (Ext.alloc (Ext.refl _) _) | with_reducible exact Ext.alloc (Ext.drew (Ext.refl _)) _ | with_reducible exact Ext.alloc (Ext.alloc (Ext.refl _) _) _ | with_reducible exact Ext.drew (Ext.alloc (Ext.alloc (Ext.refl _) _) _)))).cell lx2)
         (first
         | (go_at_call 46;refine(O.out _ (hX.out.trans (by(first | with_reducible exact Ext.refl _ | with_reducible exact Ext.drew (Ext.refl _) | with_reducible exact Ext.alloc (Ext.refl _) _ | with_reducible exact Ext.drew (Ext.alloc (Ext.refl _) _) | with_reducible exact Ext.alloc (Ext.drew (Ext.refl _)) _ | with_reducible exact Ext.alloc (Ext.alloc (Ext.refl _) _) _ | with_reducible exact Ext.drew (Ext.alloc (Ext.alloc (Ext.refl _) _) _))))).mono ?_;rintro e w9 ⟨rfl,d1⟩;(try replace y0:=Aa (y0.out.ext (Ext.trans (by(first | with_reducible exact Ext.refl _ | with_reducible exact Ext.drew (Ext.refl _) | with_reducible exact Ext.alloc (Ext.refl _) _ | with_reducible exact Ext.drew (Ext.alloc (Ext.refl _) _) | with_reducible exact Ext.alloc (Ext.drew (Ext.refl _)) _ | with_reducible exact Ext.alloc (Ext.alloc (Ext.refl _) _) _ | with_reducible exact Ext.drew (Ext.alloc (Ext.alloc (Ext.refl _) _) _))) d1)));replace hX:=Aa (hX.out.trans (Ext.trans (by(first | with_reducible exact Ext.refl _ | with_reducible exact Ext.drew (Ext.refl _) | with_reducible exact Ext.alloc (Ext.refl _) _ | with_reducible exact Ext.drew (Ext.alloc (Ext.refl _) _) | with_reducible exact Ext.alloc (Ext.drew (Ext.refl _)) _ | with_reducible exact Ext.alloc (Ext.alloc (Ext.refl _) _) _ | with_reducible exact Ext.drew (Ext.alloc (Ext.alloc (Ext.refl _) _) _))) d1));clear d1)
         | (go_at_call 55;refine(I.out _ (hX.out.trans (by(first | with_reducible exact Ext.refl _ | with_reducible exact Ext.drew (Ext.refl _) | with_reducible exact Ext.alloc (Ext.refl _) _ | with_reducible exact Ext.drew (Ext.alloc (Ext.refl _) _) | with_reducible exact Ext.alloc (Ext.drew (Ext.refl _)) _ | with_reducible exact Ext.alloc (Ext.alloc (Ext.refl _) _) _ | with_reducible exact Ext.drew (Ext.alloc (Ext.alloc (Ext.refl _) _) _))))).mono ?_;rintro e w9 ⟨BC,cC,rfl,y0,d1⟩;have y0:=Aa (y0.lower (hX.out.trans (by(first | with_reducible exact Ext.refl _ | with_reducible exact Ext.drew (Ext.refl _) | with_reducible exact Ext.alloc (Ext.refl _) _ | with_reducible exact Ext.drew (Ext.alloc (Ext.refl _) _) | with_reducible exact Ext.alloc (Ext.drew (Ext.refl _)) _ | with_reducible exact Ext.alloc (Ext.alloc (Ext.refl _) _) _ | with_reducible exact Ext.drew (Ext.alloc (Ext.alloc (Ext.refl _) _) _)))).size);replace hX:=Aa (hX.out.trans (Ext.trans (by(first | with_reducible exact Ext.refl _ | with_reducible exact Ext.drew (Ext.refl _) | with_reducible exact Ext.alloc (Ext.refl _) _ | with_reducible exact Ext.drew (Ext.alloc (Ext.refl _) _) | with_reducible exact Ext.alloc (Ext.drew (Ext.refl _)) _ | with_reducible exact Ext.alloc (Ext.alloc (Ext.refl _) _) _ | with_reducible exact Ext.drew (Ext.alloc (Ext.alloc (Ext.refl _) _) _))) d1));clear d1))
        all_goals (go_wp2_with fail)
        all_goals go_meet
        all_goals (case rel=>exact⟨_,_,_,rfl,Aa (Row.new _ _ _),Aa (y0.out.ext ((Ext.refl _).alloc _)),Aa (hX.out.trans ((Ext.refl _).alloc _)),hX.out.size⟩)
       case rest =>
        obtain⟨g,BC,cC,rfl,q7,y0,y5,y4⟩:=hcut;have J : [b0,b1,b2,b3,b4,b5]=framesD P:=by
         have h1:=j2.out;rw[<-h3]at h1;have h2:(segL P).drop 4=joinL (framesD P):=rfl;rw[h2,CW _ (by rw[<-i1];exact EV o2 hm.out (by omega) m2)]at h1;exact h1
        unfold framesD at J;injection J with f0 J;injection J with f1 J;injection J with f2 J;injection J with f3 J;injection J with f4 J;have e0:=(h0.trans H).trans y5.out;have lx3:=e0.cell l3;obtain⟨bb3,i3⟩:=q2.out (A3,k3,b3,z3) (by simp);obtain⟨bb4,o3⟩:=q2.out (A4',k4',b4,z4) (by simp);simp only at i3 o3;have g7:gl<w4.heap.size:=by
         have h1:=World.block_lt_of_cell? w2 _ l3;have h2:=(h0.trans H).size;simp only at h1;omega
        have d7:b3.length<=16777216:=t0.out b3 (by simp[pays]);have x1:=Ls A3 b3.length k3 b3 wc (enOf 0 (rowsD P)) (i3.ext e0).in8 hB.out.ens f3 (by omega);have a2:8<=b4.length/\b4.length<=131072:=by rw[f4];exact hB.out.bits
        obtain⟨n3,r4⟩:=Ab b3.length;obtain⟨n4,G⟩:=Ab b4.length;rw[<-r4]at lx3 x1;have lx4:=e0.cell l4;rw[<-G]at lx4 a2;replace r4:=Aa r4;replace G:=Aa G;replace x1:=Aa x1;replace e0:=Aa e0;replace f2:=Aa f2;replace f3:=Aa f3;replace f4:=Aa f4;replace o3:=Aa o3;replace i3:=Aa i3;clear f0 f1 J l0 l2 l3 l4 lx2;go_wp2_with fail;refine x1.out.mono ?_;rintro e w5 ⟨gd,rfl,i2,c0⟩;have r1:=q7.out.ext c0;have y8:=r1.cell 8 rfl;have z8:=r1.free 8;have lx45:=c0.cell lx4;have f7:gl≠g:=by omega
        have v7:g≠gl:=by omega
        replace i2:=Aa i2;replace r1:=Aa r1;replace c0:=Aa c0;clear lx3 lx4;go_wp2_with fail;obtain⟨W6,q0⟩:=Ab (w5.setCell ⟨g,8,none⟩ (.pointer (some ⟨gd,0,none⟩)));rw[<-q0];have r5:w2.heap.size<=g:=Nat.le_trans (h0.trans H).size y4;have x2:Ext w2 W6:=by rw[q0];exact(e0.out.trans c0.out).setCell (p:=⟨g,8,none⟩) r5 _
        have x5:Ext w3 W6:=by rw[q0];exact((H.trans y5.out).trans c0.out).setCell (p:=⟨g,8,none⟩) (Nat.le_trans H.size y4) _
        have r6:Row W6 g 120 #[.slice Ad m cd,.int .i64 0,.int .i64 0,.int .i64 lo,.int .i64 q3,.int .i64 x0.seq,.int .i64 xl.seq,.int .i64 (m:Int),.pointer (some ⟨gd,0,none⟩),.slice BC n2 cC,.pointer none]:=by rw[q0];exact r1.out.put 8 _
        have f6:=Aa (show DicO W6 wc.heap.size gd (enOf 0 (rowsD P))by rw[q0];exact i2.out.chg (Chg.of_set (S:=fun q=>q=g) w5 _ rfl) (fun q e=>by subst e;exact⟨_,_,r1.out,by decide,by decide⟩));have e5:=y0.out.ext c0.out;have e6:Buf W6 w4.heap.size 5 BC n2 cC (b2.map B8):=by rw[q0];exact e5.setCell (e5.unlike r1.out (by decide)) _
        have g0:=NO A4' b4.length k4' b4 W6 (o3.out.ext x2).in8 (by rw[<-G.out];exact a2.1) (by rw[<-G.out];exact a2.2);rw[<-G.out]at g0;replace g0:=Aa g0;replace q0:=Aa q0;refine g0.out.mono ?_;rintro e w7 ⟨gf,rfl,_,x4,d0⟩;have r7:=r6.ext d0;have y10:=r7.cell 10 rfl;have z10:=r7.free 10;replace x4:=Aa x4;replace r7:=Aa r7;replace d0:=Aa d0;clear r1 r6 g0 y8 z8 lx45;go_wp2_with fail;go_ret2;have h6:=Nat.le_trans T.size r5;have r8:=r7.out.put 10 (.pointer (some ⟨gf,0,none⟩));have i5:=e6.ext d0.out;have l5:=i5.setCell (p:=⟨g,10,none⟩) (i5.unlike r7.out (by decide)) (.pointer (some ⟨gf,0,none⟩));have i6:=(f6.out.ext d0.out).chg (Chg.of_set (S:=fun q=>q=g) w7 (a:=⟨g,10,none⟩) (.pointer (some ⟨gf,0,none⟩)) rfl) (fun q e=>by subst e;exact⟨_,_,r7.out,by decide,by decide⟩);have o5:=x4.out.set r7.out (i:=10) (.pointer (some ⟨gf,0,none⟩));have n5:=y1.ext ((x5.trans d0.out).setCell (p:=⟨g,10,none⟩) (Nat.le_trans H.size y4) (.pointer (some ⟨gf,0,none⟩)));refine⟨(T.trans (x2.trans d0.out)).setCell (p:=⟨g,10,none⟩) h6 _,?_⟩;rw[d3.out];have w6:=hm.out;have j4:n2=(postB (rowsD P)).length:=by rw[m3.out,f2.out]
        rw[j4,f2.out]at l5;rw[f4.out]at o5;subst w6;rw[j4]at r8;refine⟨g,rfl,ds,Ad,cd,lo,q3,x0.seq,xl.seq,BC,cC,gd,gf,r8,i1,by rw[<-i1];exact t3.out,n5.lower T.size,i6.lower ?b1,l5.lower ?b2,o5.lower ?b3⟩
        ·exact Nat.le_trans T.size e0.out.size
        ·exact Nat.le_trans T.size (h0.trans H).size
        ·exact Nat.le_trans T.size x2.size
      ·have j:openD b=none:=by rw[U.out,if_neg (fun e=>h3 e.2)]
       have b7:(segL P==b)=false:=beq_eq_false_iff_ne.2 h3;replace j:=Aa j;go_wp2_with fail;go_ret2;exact SegOB.no (i0.trans H) j.out
   ·have j:openD b=none:=by rw[Y,if_neg (fun e=>m6 e.2)]
    have t7:((np:Int)==6)=false:=by simp;omega
    subst x3;replace j:=Aa j;clear Y;go_wp2_with fail;go_ret2;exact SegOB.no T j.out
  ·have j:openD b=none:=by rw[Y,if_neg (fun e=>x3 e.1)]
   have x7:((sc:Int)==0)=false:=by simp;omega
   replace j:=Aa j;clear Y;go_wp2_with fail;go_ret2;exact SegOB.no T j.out
 ·have j:openD b=none:=by
   unfold openD;rw[if_neg (fun e=>i4 (j1.2 e))]
  replace j:=Aa j;clear t4
  go_in
  go_wp2_with fail;refine r0.out.mono ?_;rintro e w1 ⟨rfl,rfl⟩;go_wp2_with fail;go_ret2;exact SegOB.no (Ext.refl _) j.out
theorem KW (A:Option Addr) (n c:Nat) (b:List UInt8) (w:World) (h:In8 w A n c b) (a:n<=1000000000) (H:∀P,(splitF (b.drop 4)).2=0->decDs ((splitF (b.drop 4)).1.headD [])=some P->(blockD 0 P).length<=70000) :
 Calls prog 24 #[.slice A n c] w fun e w'=>SegO w b e w' :=
 (Ff A n c b w h a H).mono fun e w' j=>by
  obtain⟨Y,j⟩:=j;refine⟨Y,?_⟩;split at j
  ·obtain⟨g,h1,h2⟩:=j;exact⟨g,h1,h2.seg⟩
  ·exact j
end
section
open Go.RowKit
theorem Av {fn:Func} {p u:Tmp} (h:fn.results=#[.cell p ty,.tmp u]) (tmps:Array Value) (w:World) (g:Nat) (cs:Array Value)
 (b:tmps.getD p undef = .pointer (some ⟨g,0,none⟩)) (j:(loadVar ty ⟨g,0,none⟩).run P w = .ok (.agg cs) w) :
 (results fn tmps).run P w = .ok (.tuple #[.agg cs,tmps.getD u undef]) w:=by
 rw[results_cell_tmp h,b];simp[asAddr,j,Result.andThen]
end
section
open Go.RowKit Go.Maps
theorem SegR.ext {P:List Dc} (h:SegR w g P) (j:Ext w w1):SegR w1 g P:=by
 obtain⟨ds,A,c,lo,hi,fi,la,B,cB,gd,gf,h1,h2,b,a,H,Y,J⟩:=h;exact⟨ds,A,c,lo,hi,fi,la,B,cB,gd,gf,h1.ext j,h2,b,a.ext j,H.ext j,Y.ext j,J.ext j⟩
theorem M5 (g n c:Nat) (A:Option Addr) (w:World) (h:w.cell? ⟨g,0,none⟩=some (.slice A n c)) (hn:0<n) (j:n<=1000000000):Calls prog 58 #[.pointer (some ⟨g,0,none⟩)] w fun e w'=>e = .returned (.bool false)/\w'=w:=by
 have b:((n:Int)==0)=false:=by simp;omega
 go_in
 go_wp2_with fail;go_ret;exact⟨by simp,rfl⟩
theorem Fh (g:Nat) (P:List Dc) (w:World) (h:SegR w g P) (a:0<P.length) (j:P.length<=1000000000):Calls prog 34 #[.pointer (some ⟨g,0,none⟩)] w fun e w'=>e = .returned (.int .i64 (P.length:Int))/\w'=w:=by
 obtain⟨ds,A,c,lo,hi,fi,la,B,cB,gd,gf,h1,h2,_⟩:=h;have b:P.length=ds.length:=by rw[<-h2];exact List.length_map ..
 rw[b]at a j ⊢;have k0:=h1.cell 0 rfl;have hn:=Aa (M5 g ds.length c A w k0 a j);replace h1:=Aa h1;replace b:=Aa b;replace h2:=Aa h2
 go_in
 go_wp2_with fail;refine hn.out.mono ?_;rintro e w1 ⟨rfl,rfl⟩;go_wp2_with fail;go_ret;exact⟨rfl,rfl⟩
end
section
open Go.RowKit Go.Maps
structure SegP (P:List Dc):Prop where
  sm:SmP P
  ne:0<P.length
theorem SegP.few {P:List Dc} (h:SegP P):P.length<=1000000000:=by have:=h.sm.seg.n;omega
theorem SegR.none {P:List Dc} (h:SegR w g P) (j:SegP P):Calls prog 58 #[.pointer (some ⟨g,0,none⟩)] w fun e w'=>e = .returned (.bool false)/\w'=w:=by
 have b:=j.few;have hn:=j.ne;obtain⟨ds,A,c,lo,hi,fi,la,B,cB,gd,gf,h1,h2,_⟩:=h;have a:P.length=ds.length:=by rw[<-h2];exact List.length_map ..
 exact M5 g ds.length c A w (h1.cell 0 rfl) (by omega) (by omega)
theorem I8 (g:Nat) (P:List Dc) (w:World) (h:SegR w g P) (hP:SegP P):Calls prog 70 #[.pointer (some ⟨g,0,none⟩)] w fun e w'=>e = .returned (.agg (prtA (partD P)))/\Ext w w':=by
 have hn:=Aa (fun W (hE:Ext w W)=>(h.ext hE).none hP);obtain⟨ds,A,c,lo,hi,fi,la,B,cB,gd,gf,h1,h2,O,I,h5,h6,h7⟩:=h;obtain⟨W,U⟩:=Ab (w.alloc (Obj.cells #[.int .i64 0,.int .i64 0,.int .i64 0,.int .i64 0,.int .i64 0,.int .i64 0,.int .i64 0] 79));have J:Ext w W:=by rw[U];exact(Ext.refl w).alloc _
 have b:Row W w.heap.size 79 #[.int .i64 0,.int .i64 0,.int .i64 0,.int .i64 0,.int .i64 0,.int .i64 0,.int .i64 0]:=by rw[U];exact Row.new w _ _
 have j:=h1.ext J;have k1:=j.cell 1 rfl;have k2:=j.cell 2 rfl;have k3:=j.cell 3 rfl;have k4:=j.cell 4 rfl;have k5:=j.cell 5 rfl;have k6:=j.cell 6 rfl;have k7:=j.cell 7 rfl;have f0:=b.free 0;have f1:=b.free 1;have f2:=b.free 2;have f3:=b.free 3;have f4:=b.free 4;have f5:=b.free 5;have f6:=b.free 6;have c0:=b.cell 0 rfl;have c1:=b.cell 1 rfl;have c2:=b.cell 2 rfl;have c3:=b.cell 3 rfl;have c4:=b.cell 4 rfl;have c5:=b.cell 5 rfl;have c6:=b.cell 6 rfl;replace h1:=Aa h1;replace j:=Aa j;replace b:=Aa b;replace O:=Aa O;replace U:=Aa U;clear I h5 h6 h7;obtain⟨bg,H⟩:=Ab w.heap.size;rw[<-H]at b f0 f1 f2 f3 f4 f5 f6 c0 c1 c2 c3 c4 c5 c6;have a:w.heap.size<=bg:=Nat.le_of_eq H.symm;replace H:=Aa H;obtain⟨nn,Y⟩:=Ab ((ds.length:Int):Int);rw[<-Y]at k7;replace Y:=Aa Y
 go_in
 go_wp2_with fail;rw[<-U.out,<-H.out];refine(hn.out _ J).mono ?_;rintro e w1 ⟨rfl,G⟩;subst G;go_wp2_with fail;have Z:=((((((b.out.put 0 (.int .i64 0)).put 1 (.int .i64 0)).put 2 (.int .i64 lo)).put 3 (.int .i64 hi)).put 4 (.int .i64 fi)).put 5 (.int .i64 la)).put 6 (.int .i64 nn);have T:=((((((J.setCell (p:=⟨bg,0,none⟩) a (.int .i64 0)).setCell (p:=⟨bg,1,none⟩) a (.int .i64 0)).setCell (p:=⟨bg,2,none⟩) a (.int .i64 lo)).setCell (p:=⟨bg,3,none⟩) a (.int .i64 hi)).setCell (p:=⟨bg,4,none⟩) a (.int .i64 fi)).setCell (p:=⟨bg,5,none⟩) a (.int .i64 la)).setCell (p:=⟨bg,6,none⟩) a (.int .i64 nn);refine bodyPost_ret (Fa rfl _ _ bg #[.int .i64 0,.int .i64 0,.int .i64 lo,.int .i64 hi,.int .i64 fi,.int .i64 la,.int .i64 nn] rfl (run_loadVar_row _ bg 79 79 _ (0,0) _ Z underlying79 rfl (by kernel_rfl))) rfl ⟨?_,T⟩;rw[O.out,<-Y.out];rfl
end
section
open Go.RowKit
theorem CF (w:World) (t:TypeId):(w.alloc (.cells #[] t)).ownsRow w.heap.size t 2 (.slice (some ⟨w.heap.size,0,none⟩) 0 0) 0 [] :=
 ⟨rfl,.inr ⟨w.heap.size,0,#[],rfl,Nat.le_refl _,heap_alloc_new w _,Nat.le_refl _,by unfold maxLen;omega,rfl,rfl⟩⟩
section
variable {t e sz:Nat}
theorem I1 (ht:prog.underlying t=some (.slice e)) (hs:∀W:World,(sizeOf e).run prog W = .ok sz W) (h:k<=c) (H:∀a,A=some a->a.spot=none) (Y:z=(k:Int)) (W:World) :
 (Instr.sliceAt t (.slice A n c) none (some (.int .i64 z)) none).run prog W = .ok (.slice A k c) W:=by
 subst Y;have j:prog.elem t=e:=by unfold Program.elem;rw[ht]
 rw[run_sliceAt_slice W _ _ _ _ _ (by rw[ht,j]),run_slice_h W _ A n c (by rw[ht,j]) .i64 k (by omega) (by omega),j,hs];simp only[Result.andThen_ok];congr 1;unfold sliced;have:(if c=0 then A else A.map fun x=>x.add (0*sz))=A:=by
  cases A with
  | none=>simp
  | some a =>
   obtain⟨b,o,sp⟩:=a;obtain rfl:sp=none:=H _ rfl;simp[Addr.add_lit]
 rw[this];simp
theorem I0 (ht:prog.underlying t=some (.slice e)) (hs:∀W:World,(sizeOf e).run prog W = .ok sz W) (hk:k<=n) (G:n<=c) (O:∀a,A=some a->a.spot=none) (Z:z=(k:Int)) :
 ∃A',(∀W:World,(Instr.sliceAt t (.slice A n c) (some (.int .i64 z)) none none).run prog W = .ok (.slice A' (n - k) (c - k)) W)/\(∀(w:World) (xs:List Value),xs.length=n*sz->Cells w A xs->Cells w A' (xs.drop (k*sz)))/\∀a,A'=some a->a.spot=none:=by
 subst Z;have J:prog.elem t=e:=by unfold Program.elem;rw[ht]
 have j:∀W:World,(Instr.sliceAt t (.slice A n c) (some (.int .i64 k)) none none).run prog W = .ok (sliced A k n c sz) W:=by
  intro W;rw[run_sliceAt_slice W _ _ _ _ _ (by rw[ht,J]),run_slice_l W _ A n c (by rw[ht,J]) .i64 k (by omega) (by omega),J,hs];simp only[Result.andThen_ok];congr 1
 refine⟨_,j,fun w xs T Y=>?_,fun a h=>?_⟩
 ·rcases Y with hb | ⟨g,o,rfl,hb⟩
  ·left;rw[hb];simp
  ·by_cases H:c=k
   ·left;obtain rfl:n=k:=by omega
    rw[<-T];exact List.drop_length
   ·refine .inr ⟨g,o+k*sz,by rw[if_neg H];simp[Addr.add_lit],fun i v U=>?_⟩;rw[Nat.add_assoc];refine hb (k*sz+i) v ?_;rw[List.getElem?_drop]at U;exact U
 ·cases A with
  | none=>split at h <;> cases h
  | some a0 =>
   obtain⟨b,o,sp⟩:=a0;obtain rfl:sp=none:=O _ rfl;split at h
   ·cases h;rfl
   ·rw[Option.map_some,Addr.add_lit]at h;cases h;rfl
end
end
section
open Go.RowKit Go.Maps
theorem QT (c:Nat) (w:World):(binOp .eql 67 (.slice none 0 c) (.slice none 0 0)).run prog w = .ok (.bool true) w:=by kernel_rfl
theorem QU (a:Addr) (n c:Nat) (w:World):(binOp .eql 67 (.slice (some a) n c) (.slice none 0 0)).run prog w = .ok (.bool false) w:=by kernel_rfl
theorem LD (A:Option Addr) (n c:Nat) (l:List Fd) (w:World) (hn:n=l.length) (T:Cells w A (fcells l)) (q0:n<=1073741824) :
 Calls prog 115 #[.slice A n c] w fun e w'=>∃A1 c1,e = .returned (.slice A1 n c1)/\w'.ownsRow w.heap.size 91 2 (.slice A1 n c1) n (fcells l)/\Ext w w':=by
 cases A with
 | none =>
  have G:l = []:=by
   rcases T with h | ⟨_,_,h,_⟩
   ·have:=congrArg List.length h;rw[Dl,List.length_nil]at this;exact List.length_eq_zero_iff.1 (by omega)
   ·cases h
  subst G;obtain rfl:n=0:=hn;have hq:=QT c w
  go_in
  go_wp2_with fail;go_ret;exact⟨none,0,rfl,⟨rfl,.inl ⟨rfl,rfl⟩⟩,Ext.refl _⟩
 | some a =>
  have hq:=QU a n c w;have ho:=CF w 91;have j:Ext w (w.alloc (.cells #[] 91)):=(Ext.refl w).alloc _;have hb:=T.ext j;have b:(fcells l).length=n*2:=by rw[Dl,hn]
  have Y:∀u∈fcells l,u.oneCell'=true:=fun u Z=>by
   unfold fcells at Z;obtain⟨f,_,J⟩:=List.mem_flatMap.1 Z;unfold Fd.cells at J;simp only[List.mem_cons,List.not_mem_nil,or_false]at J;rcases J with rfl | rfl <;> rfl
  have O:w.heap.size<=(w.alloc (.cells #[] 91)).heap.size:=j.size;replace b:=Aa b;replace hn:=Aa hn
  go_in
  go_wp2_with (at_builtin;refine AV (m:=n) Lu ho hb (.tmp 5) (.tmp 6) rfl rfl rfl rfl rfl b.out Y (by omega) O (fun A1 c1 w3 H U I=>?_));go_ret;refine⟨A1,c1,rfl,?_,j.grown U (fun k hk=>by cases hk;exact Nat.le_refl _)⟩;rw[Nat.zero_add]at H;exact H
theorem QZ (x:DocC) (w:World) (h:x.e.Ok w x.A) (Y:x.e.fs.length<=20):Calls prog 71 #[.agg #[.int .i64 x.seq,.int .i64 x.e.at_,.slice x.A x.e.fs.length x.c]] w fun e w'=>∃A c,e = .returned (.agg #[.int .i64 x.seq,.int .i64 x.e.at_,.slice A x.e.fs.length c])/\x.e.Own w' w.heap.size A c/\Ext w w':=by
 obtain⟨sq,⟨at_,fs⟩,A,c⟩:=x;simp only at h Y ⊢;have j:=h.long;simp only at j;obtain⟨n,hn⟩:=Ab fs.length;rw[<-hn]at Y ⊢;have b:Ext w ((w.alloc (.cells #[.int .i64 sq,.int .i64 at_,.slice A n c] 71)).alloc (.cells #[.int .i64 0,.int .i64 0,.slice none 0 0] 71)):=((Ext.refl w).alloc _).alloc _;have r1:Row ((w.alloc (.cells #[.int .i64 sq,.int .i64 at_,.slice A n c] 71)).alloc (.cells #[.int .i64 0,.int .i64 0,.slice none 0 0] 71)) w.heap.size 71 #[.int .i64 sq,.int .i64 at_,.slice A n c]:=(Row.new w _ _).alloc _;have r2:Row ((w.alloc (.cells #[.int .i64 sq,.int .i64 at_,.slice A n c] 71)).alloc (.cells #[.int .i64 0,.int .i64 0,.slice none 0 0] 71)) (w.heap.size+1) 71 #[.int .i64 0,.int .i64 0,.slice none 0 0]:=by
  have h:=Row.new (w.alloc (.cells #[.int .i64 sq,.int .i64 at_,.slice A n c] 71)) 71 #[.int .i64 0,.int .i64 0,.slice none 0 0];simpa using h
 have G:=Aa (LD A n c fs ((w.alloc (.cells #[.int .i64 sq,.int .i64 at_,.slice A n c] 71)).alloc (.cells #[.int .i64 0,.int .i64 0,.slice none 0 0] 71)) hn (h.cells.ext b) (by omega));have k2:=r1.cell 2 rfl;have I:=b.size;replace hn:=Aa hn;replace b:=Aa b;replace r1:=Aa r1;replace r2:=Aa r2;replace j:=Aa j;clear h
 go_in
 go_wp2_with fail;refine G.out.mono ?_;rintro e w2 ⟨A1,c1,rfl,H,a⟩;have q1:=r1.out.ext a;have q2:=r2.out.ext a;have z2:=q1.free 2;obtain⟨g,U⟩:=Ab w.heap.size;rw[<-U]at q1 q2 z2 ⊢;have p1:=q1.put 2 (.slice A1 n c1);have p2:=q2.away (p:=⟨g,2,none⟩) (by simp) (.slice A1 n c1);have y0:=p1.cell 0 rfl;have y1:=p1.cell 1 rfl;have y2:=p1.cell 2 rfl;have v0:=p2.cell 0 rfl;have v1:=p2.cell 1 rfl;have v2:=p2.cell 2 rfl;have u0:=p2.free 0;have u1:=p2.free 1;have u2:=p2.free 2;have s2:=q1.cell 2 rfl;replace q1:=Aa q1;replace H:=Aa H;replace a:=Aa a;replace U:=Aa U;replace p2:=Aa p2;replace p1:=Aa p1;replace q2:=Aa q2;clear k2;go_wp2_with fail;have pf:=((p2.out.put 0 (.int .i64 sq)).put 1 (.int .i64 at_)).put 2 (.slice A1 n c1);have p0:=U.out;have O:=(((b.out.trans a.out).setCell (p:=⟨g,2,none⟩) (by simp only;omega) (.slice A1 n c1)).setCell (p:=⟨g+1,0,none⟩) (by simp only;omega) (.int .i64 sq)).setCell (p:=⟨g+1,1,none⟩) (by simp only;omega) (.int .i64 at_);have T:=O.setCell (p:=⟨g+1,2,none⟩) (by simp only;omega) (.slice A1 n c1);have J:=AD H.out I;have hC:Chg (fun k=>k=g\/k=g+1) w2 ((((w2.setCell ⟨g,2,none⟩ (.slice A1 n c1)).setCell ⟨g+1,0,none⟩ (.int .i64 sq)).setCell ⟨g+1,1,none⟩ (.int .i64 at_)).setCell ⟨g+1,2,none⟩ (.slice A1 n c1)) :=
  (((Chg.of_set w2 _ (.inl rfl)).trans (Chg.of_set _ _ (.inr rfl)) fun _ _ h=>h).trans (Chg.of_set _ _ (.inr rfl)) fun _ _ h=>h).trans (Chg.of_set _ _ (.inr rfl)) fun _ _ h=>h
 have Z:=hC.owns J fun k hk=>by
  obtain⟨cs,hr,_⟩:=Ae J hk;rintro(rfl | rfl)
  ·exact Row.unlike hr q1.out (by decide) rfl
  ·exact Row.unlike hr q2.out (by decide) rfl
 refine bodyPost_ret (results_cell_row rfl _ _ (g+1) 71 #[.int .i64 sq,.int .i64 at_,.slice A1 n c1] (0,0) _ rfl pf underlying71 rfl (by kernel_rfl)) rfl ⟨A1,c1,rfl,⟨?_,j.out,?_⟩,T⟩
 ·simp only;rw[<-hn.out];exact Z
 ·simp only;rw[<-hn.out];exact Y
end
section
open Go.RowKit Go.Maps
theorem DocsOwn.push {base c c8:Nat} {B A8:Option Addr} {l:List DocC} {x:DocC} (h:DocsOwn w base B c l) (U:x.e.Own w base x.A x.c) (hi:I64ok' x.e.at_/\I64ok' x.seq)
 (T:w8.ownsRow base 71 3 (.slice A8 (l.length+1) c8) (l.length+1) (dcells l++x.cells)) (O:w.grownBy w8 (Value.slice B l.length c).ownBlock):DocsOwn w8 base A8 c8 (l ++ [x]):=by
 have hlen:(l ++ [x]).length=l.length+1:=by simp
 have a:Chg (fun k'=>(Value.slice B l.length c).ownBlock=some k') w w8:=Chg.of_grown O fun k' _ J=>J;have Y:∀k cs,Row w k 91 cs->¬ (Value.slice B l.length c).ownBlock=some k:=fun k cs H=>Am h.own H (by decide);refine⟨by rw[hlen,FX];exact T,fun y j=>?_,fun y j=>?_⟩
 ·rcases List.mem_append.1 j with j | j
  ·exact⟨a.owns (h.each y j).1 fun g' b=>by obtain⟨cs,H,_⟩:=Ae (h.each y j).1 b;exact Y _ _ H,(h.each y j).2⟩
  ·rw[List.mem_singleton.1 j];exact⟨a.owns U.1 fun g' b=>by obtain⟨cs,H,_⟩:=Ae U.1 b;exact Y _ _ H,U.2⟩
 ·rcases List.mem_append.1 j with j | j
  ·exact h.ints y j
  ·rw[List.mem_singleton.1 j];exact hi
def DocsA (P:List Dc) (w:World) (e:Ending) (w':World):Prop:=Ext w w'/\∃(l:List DocC) (A:Option Addr) (c:Nat),dcs l=P/\e = .returned (.slice A l.length c)/\DocsOwn w' w.heap.size A c l
theorem SegP.fields {P:List Dc} (h:SegP P) {d:Dc} (hd:d∈P):d.2.fs.length<=20:=by
 have h1:=h.sm.ok;unfold okDs at h1;rw[Bool.and_eq_true,Bool.and_eq_true,List.all_eq_true]at h1;have:=(AM (of_decide_eq_true (h1.2.2 d hd))).1;omega
theorem SS (g:Nat) (P:List Dc) (w:World) (h:SegR w g P) (hP:SegP P):Calls prog 28 #[.pointer (some ⟨g,0,none⟩)] w fun e w'=>DocsA P w e w':=by
 have hlen:=Fh g P w h hP.ne hP.few;have hf:=hP.few;obtain⟨ds,A,c,lo,hi,fi,la,B,cB,gd,gf,h1,h2,h3,h4,_⟩:=h;have g0:P.length=ds.length:=by rw[<-h2];exact List.length_map ..
 obtain⟨n,hn⟩:=Ab ds.length;rw[g0,<-hn]at hlen hf;rw[<-hn]at h1;have G:∀x∈ds,x.e.fs.length<=20:=fun x hx=>hP.fields (d:=x.dc) (by rw[<-h2];exact List.mem_map.2 ⟨x,hx,rfl⟩);replace G:=Aa G;replace hlen:=Aa hlen;replace h1:=Aa h1;replace h4:=Aa h4;replace h2:=Aa h2;replace hn:=Aa hn;clear h3 g0
 go_in
 go_wp2_with fail;refine hlen.out.mono ?_;rintro e w1 ⟨rfl,rfl⟩;go_wp2_with fail
 go_loopw [3,7] (fun s3 s7 wr=>∃(i d:Nat) (B:Option Addr) (out:List DocC),s3 = .slice B i d/\s7 = .int .i64 (i:Int)/\i<=n/\Hid (out.length=i)/\Hid (dcs out=(dcs ds).take i)/\Hid (DocsOwn wr w1.heap.size B d out)/\Hid (Ext w1 wr)) (fun _ s7 _=>n - (intOf s7).toNat)
 case atStart=>exact⟨0,0,none,[],rfl,rfl,by omega,Aa rfl,Aa rfl,Aa (DocsOwn.nil _ _),Aa (Ext.refl _)⟩
 case round =>
  obtain⟨i,d,B,out,rfl,rfl,hi,Y,x0,y0,Z⟩:=hrel;by_cases o0:i<n
  ·obtain⟨x,hx⟩:∃x,ds[i]? = some x:=⟨_,List.getElem?_eq_getElem (by rw[<-hn.out];exact o0)⟩
   have p0:=List.mem_of_getElem? hx;have r1:=h1.out.ext Z.out;have k0:=r1.cell 0 rfl;obtain⟨gA,oA,rfl,l0,l1,l2⟩:=AR (h4.out.cells.ext Z.out) hx;obtain⟨j0,U,O⟩:=h4.out.each x p0;have ho:=QZ x wr (j0.ext Z.out) (G.out x p0);have j:dcs (out ++ [x])=(dcs ds).take (i+1):=by
    rw[BJ,x0.out];have:(dcs ds)[i]? = some x.dc:=by unfold dcs;rw[List.getElem?_map,hx];rfl
    rw[List.take_add_one,this];rfl
   rw[BJ]at j;obtain⟨sq,⟨at_,fs⟩,xA,xc⟩:=x;simp only at l0 l1 l2 ho U O;obtain⟨m,hm⟩:=Ab fs.length;rw[<-hm]at l2 ho;replace ho:=Aa ho;replace hm:=Aa hm;replace j0:=Aa j0;replace j:=Aa j;replace hx:=Aa hx;replace r1:=Aa r1;replace U:=Aa U;replace O:=Aa O;clear p0;go_wp2_with (fail);refine ho.out.mono ?_;rintro e w4 ⟨A4,c4,rfl,b,H⟩;have a:=y0.out.ext H;have c0:w1.heap.size<=w4.heap.size:=(Z.out.trans H).size;have T:w4.ownsRow w1.heap.size 71 3 (.slice B i d) i (dcells out):=by have:=a.own;rw[Y.out]at this;exact this
   have n0:i+1<=4294967296:=by omega
   have m0:=Z.out.size;replace a:=Aa a;replace b:=Aa b;replace H:=Aa H;clear k0 l0 l1 l2;go_wp2_with (at_builtin;refine AS (us:= [.int .i64 sq,.int .i64 at_,.slice A4 m c4]) (m:=1) MQ T rfl (.tmp 10) (.tmp 20) rfl rfl rfl rfl rfl (Az rfl) n0 c0 (fun A8 c8 w8 I J r0=>?_);replace I:=Aa I;replace J:=Aa J;clear r0);have t0:Ev.Own ⟨at_,fs⟩ w4 w1.heap.size A4 c4:=by
    have h:=b.out;exact⟨AD h.1 m0,h.2⟩
   have h0:=DocsOwn.push (x:=⟨sq,⟨at_,fs⟩,A4,c4⟩) a.out t0 ⟨U.out,O.out⟩ (by rw[Y.out];unfold DocC.cells;simp only;rw[<-hm.out];exact I.out) (by rw[Y.out];exact J.out);have i0:Ext w1 w8:=(Z.out.trans H.out).grown J.out fun k hk=>by obtain⟨_,_,hb⟩:=Ae T hk;exact hb
   refine⟨⟨i+1,c8,A8,_,rfl,by go_num,by omega,Aa (by rw[List.length_append,Y.out];rfl),Aa (by rw[BJ];exact j.out),Aa h0,Aa i0⟩,by simp only[intOf];omega⟩
  ·obtain rfl:i=n:=by omega
   go_wp2_with fail;go_ret;refine⟨Z.out,out,B,d,?_,by rw[Y.out];rfl,y0.out⟩;rw[x0.out,hn.out,<-h2.out];exact List.take_of_length_le (by unfold dcs;rw[List.length_map];exact Nat.le_refl _)
end
section
open Go.RowKit
theorem Jz (l m:List DocC) (A B:Option Addr) (c c2:Nat) (w:World) (hl:DocsOk w A l) (hm:DocsOk w B m) (H:dcs l=dcs m) (hb:l.length<=1000000000) :
 Calls prog 12 #[.slice A l.length c,.slice B m.length c2] w fun en w'=>en = .returned (.bool true)/\Ext w w':=by
 have hlen:m.length=l.length:=by
  have:=congrArg List.length H;unfold dcs at this;rw[List.length_map,List.length_map]at this;exact this.symm
 obtain⟨n,hn⟩:=Ab l.length;rw[hlen,<-hn];rw[<-hn]at hb hlen;replace hn:=Aa hn;replace hlen:=Aa hlen;replace H:=Aa H
 go_in
 go_wp2_with fail
 go_loopw [5] (fun s5 wr=>∃i:Nat,s5 = .int .i64 (i:Int)/\i<=n/\Hid (Ext w wr)) (fun s5 _=>n - (intOf s5).toNat)
 case atStart=>exact⟨0,rfl,by omega,Aa (Ext.refl w)⟩
 case round =>
  obtain⟨i,rfl,hi,a⟩:=hrel;by_cases G:i<n
  ·obtain⟨x,hx⟩:∃x,l[i]? = some x:=⟨_,List.getElem?_eq_getElem (by rw[<-hn.out];exact G)⟩
   obtain⟨y,hy⟩:∃y,m[i]? = some y:=⟨_,List.getElem?_eq_getElem (by rw[hlen.out];exact G)⟩
   have I:x.dc=y.dc:=by
    have h1:(dcs l)[i]? = some x.dc:=by unfold dcs;rw[List.getElem?_map,hx];rfl
    have h2:(dcs m)[i]? = some y.dc:=by unfold dcs;rw[List.getElem?_map,hy];rfl
    rw[H.out,h2]at h1;exact(Option.some.inj h1).symm
   obtain⟨g,o,hA,k0,k1,k2⟩:=AR (hl.cells.ext a.out) hx;obtain⟨g2,o2,hB,k3,k4,k5⟩:=AR (hm.cells.ext a.out) hy;have O:=(hl.each x (List.mem_of_getElem? hx)).1;have Z:=(hm.each y (List.mem_of_getElem? hy)).1;obtain⟨sq,⟨at_,fs⟩,C,d⟩:=x;obtain⟨sq2,e2,D,d2⟩:=y;unfold DocC.dc at I;injection I with h1 h2;simp only at h1 h2 k0 k1 k2 k3 k4 k5 O Z;subst h1 h2 hA hB;have b:=fun W (a:Ext w W)=>Mg ⟨at_,fs⟩ ⟨at_,fs⟩ C D d d2 W (O.ext a) (Z.ext a);rw[show sameE ⟨at_,fs⟩ ⟨at_,fs⟩=true from decide_eq_true ⟨rfl,rfl⟩]at b;unfold Ev.val at b;simp only at b k4 k5;obtain⟨k,hk⟩:=Ab fs.length;rw[<-hk]at b k2 k5;have U:∀x,(x.cell? ⟨g,o+i*3,none⟩=some (.int .i64 sq)/\x.cell? ⟨g,o+i*3+1,none⟩=some (.int .i64 at_)/\x.cell? ⟨g,o+i*3+2,none⟩=some (.slice C k d)/\x.cell? ⟨g2,o2+i*3,none⟩=some (.int .i64 sq)/\x.cell? ⟨g2,o2+i*3+1,none⟩=some (.int .i64 at_)/\x.cell? ⟨g2,o2+i*3+2,none⟩=some (.slice D k d2)/\Ext w x)->Calls prog 32 #[.agg #[.int .i64 at_,.slice C k d],.agg #[.int .i64 at_,.slice D k d2]] x fun e y=>e = .returned (.bool true)/\(y.cell? ⟨g,o+i*3,none⟩=some (.int .i64 sq)/\y.cell? ⟨g,o+i*3+1,none⟩=some (.int .i64 at_)/\y.cell? ⟨g,o+i*3+2,none⟩=some (.slice C k d)/\y.cell? ⟨g2,o2+i*3,none⟩=some (.int .i64 sq)/\y.cell? ⟨g2,o2+i*3+1,none⟩=some (.int .i64 at_)/\y.cell? ⟨g2,o2+i*3+2,none⟩=some (.slice D k d2)/\Ext w y):=fun x ⟨h0,h1,h2,h3,h4,h5,a⟩ =>
    (b x a).mono fun e y ⟨he,j⟩=>⟨he,j.cell h0,j.cell h1,j.cell h2,j.cell h3,j.cell h4,j.cell h5,a.trans j⟩
   have Y:wr.cell? ⟨g,o+i*3,none⟩=some (.int .i64 sq)/\wr.cell? ⟨g,o+i*3+1,none⟩=some (.int .i64 at_)/\wr.cell? ⟨g,o+i*3+2,none⟩=some (.slice C k d)/\wr.cell? ⟨g2,o2+i*3,none⟩=some (.int .i64 sq)/\wr.cell? ⟨g2,o2+i*3+1,none⟩=some (.int .i64 at_)/\wr.cell? ⟨g2,o2+i*3+2,none⟩=some (.slice D k d2)/\Ext w wr:=⟨k0,k1,k2,k3,k4,k5,a.out⟩
   have J:wr.drew.cell? ⟨g,o+i*3,none⟩=some (.int .i64 sq)/\wr.drew.cell? ⟨g,o+i*3+1,none⟩=some (.int .i64 at_)/\wr.drew.cell? ⟨g,o+i*3+2,none⟩=some (.slice C k d)/\wr.drew.cell? ⟨g2,o2+i*3,none⟩=some (.int .i64 sq)/\wr.drew.cell? ⟨g2,o2+i*3+1,none⟩=some (.int .i64 at_)/\wr.drew.cell? ⟨g2,o2+i*3+2,none⟩=some (.slice D k d2)/\Ext w wr.drew:=⟨k0,k1,k2,k3,k4,k5,a.out.drew⟩
   have T:∀x,(x.cell? ⟨g,o+i*3,none⟩=some (.int .i64 sq)/\x.cell? ⟨g,o+i*3+1,none⟩=some (.int .i64 at_)/\x.cell? ⟨g,o+i*3+2,none⟩=some (.slice C k d)/\x.cell? ⟨g2,o2+i*3,none⟩=some (.int .i64 sq)/\x.cell? ⟨g2,o2+i*3+1,none⟩=some (.int .i64 at_)/\x.cell? ⟨g2,o2+i*3+2,none⟩=some (.slice D k d2)/\Ext w x)->Ext w x:=fun x h=>h.2.2.2.2.2.2;have i0:(0:Int)<=i:=by omega
   have hi1:(i:Int)<n:=by omega
   replace U:=Aa U;replace Y:=Aa Y;replace J:=Aa J;replace T:=Aa T;clear hx hy O Z b hk;go_wp2_with fail
   go_region_held3 (fun x=>x.cell? ⟨g,o+i*3,none⟩=some (.int .i64 sq)/\x.cell? ⟨g,o+i*3+1,none⟩=some (.int .i64 at_)/\x.cell? ⟨g,o+i*3+2,none⟩=some (.slice C k d)/\x.cell? ⟨g2,o2+i*3,none⟩=some (.int .i64 sq)/\x.cell? ⟨g2,o2+i*3+1,none⟩=some (.int .i64 at_)/\x.cell? ⟨g2,o2+i*3+2,none⟩=some (.slice D k d2)/\Ext w x) (first | exact J.out | exact Y.out | exact ‹_›) (first | (go_at_call 32;refine(U.out _ ‹_›).mono ?_;rintro e w3 ⟨rfl,e0⟩))
   go_wp2_with fail;have j0:=Aa (T.out _ ‹_›);go_roundw
   case rel=>exact⟨i+1,by go_num,by omega,j0⟩
   case measure=>simp[intOf];omega
  ·go_wp2_with fail;go_ret;exact⟨rfl,a.out⟩
theorem FI {P:List Dc} (h:SegP P) (j:∀p∈framesD P,p.length<=16777216) (a:∀d∈P,I64ok' d.2.at_):openD (segL P)=some P:=by
 have h1:(segL P).take 4 = [76,83,69,71]:=rfl;have h2:(segL P).drop 4=joinL (framesD P):=rfl;have b:=J1 h.sm.ok a (by have:=h.sm.sz;omega);unfold openD;rw[if_pos h1,h2,CW _ j,if_pos ⟨rfl,rfl⟩];show (match decDs (encDs P)with | some Q=>if 0<Q.length/\segL Q=segL P then some Q else none | none=>none)=some P;rw[b];show (if 0<P.length/\segL P=segL P then some P else none)=some P;rw[if_pos ⟨h.ne,rfl⟩]
theorem SB {b:List UInt8} {P:List Dc} (h:openD b=some P):0<P.length/\segL P=b/\okDs P=true:=by
 unfold openD at h;split at h
 ·split at h
  ·split at h
   ·rename_i Q a;split at h
    ·rename_i j;injection h with h;subst h;exact⟨j.1,j.2,(Iq a).1⟩
    ·cases h
   ·cases h
  ·cases h
 ·cases h
theorem NJ {b:List UInt8} (hb:b.length<=60000) (P:List Dc) (h:decDs ((splitF (b.drop 4)).1.headD [])=some P):(blockD 0 P).length<=70000:=by
 have h1:=Iq h;have h2:((splitF (b.drop 4)).1.headD []).length<=b.length:=by
  cases hs:(splitF (b.drop 4)).1 with
  | nil=>simp
  | cons p t =>
   have:=(Fl (l:=b.drop 4) (p:=p) (by rw[hs];exact List.mem_cons_self ..)).2;rw[List.length_drop]at this;simp only[List.headD_cons];omega
 rw[<-h1.2]at h2;unfold encDs at h2;simp only[List.length_append]at h2;omega
end
section
open Go.RowKit Go.Maps
theorem J8 (P:List Dc) (J:SegP P) (Y:openD (segL P)=some P) (H:(segL P).length<=60000) (A:Option Addr) (c:Nat) (w:World) (h:Own8 w 0 A (segL P).length c (segL P)) :
 Calls prog 24 #[.slice A (segL P).length c] w fun e w'=>∃g,e = .returned (.tuple #[.pointer (some ⟨g,0,none⟩),.int .i64 0])/\SegR w' g P/\Ext w w':=by
 refine(KW A _ c (segL P) w h.2.in8 (by omega) (fun Q _ a=>NJ H Q a)).mono ?_;rintro e w' ⟨b,j⟩;rw[Y]at j;obtain⟨g,rfl,hs⟩:=j;exact⟨g,rfl,hs,b⟩
end
section
open Go.RowKit Go.Maps
theorem SF {b:List UInt8} {P:List Dc} (h:openD b=some P) (hb:b.length<=60000):SegP P:=by
 obtain⟨h1,_,j⟩:=SB h;refine⟨⟨j,NJ hb P ?_⟩,h1⟩;unfold openD at h;split at h
 ·split at h
  ·split at h
   ·rename_i Q a;split at h
    ·injection h with h;rw[<-h];exact a
    ·cases h
   ·cases h
  ·cases h
 ·cases h
theorem DocsOk.take {ds:List DocC} (h:DocsOk w A ds) (k:Nat) (Y:ds ≠ []->A'=A):DocsOk w A' (ds.take k):=by
 refine⟨?_,fun x U=>h.each x (List.mem_of_mem_take U)⟩;by_cases j:ds = []
 ·left;rw[j];simp[dcells]
 ·rw[Y j];rcases h.cells with a | ⟨g,o,J,a⟩
  ·left;have H:ds.length=0:=by
    have:=congrArg List.length a;rw[Er,List.length_nil]at this;omega
   exact absurd (List.length_eq_zero_iff.1 H) j
  ·refine .inr ⟨g,o,J,fun i v b=>a i v ?_⟩;unfold dcells at b ⊢;rw[Bh (f:=DocC.cells) (k:=3) (fun _=>rfl),List.getElem?_take]at b;split at b
   ·exact b
   ·cases b
end
section
open Go.RowKit Go.Maps
theorem Uh (A B:Option Addr) (n c c2:Nat) (xs:List Int) (w:World) (hn:n=xs.length) (J:Cells w A (xs.map IV)) (U:Cells w B (xs.map IV)) (O:n<=9223372036854775807) :
 Calls prog 16 #[.slice A n c,.slice B n c2] w fun e w'=>e = .returned (.bool true)/\Ext w w':=by
 replace hn:=Aa hn
 go_in
 go_wp2_with fail
 go_loopw [5] (fun s5 wr=>∃i:Nat,s5 = .int .i64 i/\i<=n/\Ext w wr) (fun s5 _=>n - (intOf s5).toNat)
 case atStart=>exact⟨0,rfl,by omega,Ext.refl _⟩
 case round =>
  obtain⟨i,rfl,hi,b⟩:=hrel;by_cases a:i<n
  ·have Y:i<xs.length:=by rw[<-hn.out];exact a
   obtain⟨g,o,rfl,H⟩:=J.at_ (by rw[List.length_map];omega);obtain⟨g2,o2,rfl,j⟩:=U.at_ (by rw[List.length_map];omega);obtain⟨x,h⟩:=Ab (xs[i]);have k1:wr.cell? ⟨g,o+i,none⟩=some (.int .i64 x):=b.cell (H i _ (by rw[List.getElem?_map,List.getElem?_eq_getElem Y,h];rfl));have k2:wr.cell? ⟨g2,o2+i,none⟩=some (.int .i64 x):=b.cell (j i _ (by rw[List.getElem?_map,List.getElem?_eq_getElem Y,h];rfl));clear H j;replace h:=Aa h;go_wp2_with fail;refine AE (fun K T=>?_);go_wp2_with fail;refine⟨by kernel_rfl,?_⟩;go_wp2_with fail;go_roundw
   case rel=>exact⟨i+1,by go_num,by omega,b.drew⟩
   case measure=>simp[intOf];omega
  ·go_wp2_with fail;go_ret;exact⟨rfl,b⟩
def opensD (bs:List (List UInt8)):Option (List (List Dc)):=if bs.all (fun b=>(openD b).isSome)=true then some (bs.filterMap openD) else none
def fstD:List Dc->Int
 | []=>0
 | d::_=>d.1
def chainD:Int->List (List Dc)->Bool
 | _,[]=>true
 | la,P::t=>decide (la<fstD P)&&chainD (lastD 0 P) t
def mergeD (bs:List (List UInt8)):Option (List (List Dc)):=match opensD bs with
 | some Ps=>if 0<Ps.length/\chainD 0 Ps=true then some Ps else none
 | none=>none
theorem Tf {b:List UInt8} (h:bs[i]? = some b) (a:openD b=none):opensD bs=none:=by
 unfold opensD;rw[if_neg];intro j;have:=List.all_eq_true.1 j b (List.mem_of_getElem? h);rw[a]at this;cases this
theorem T3 {b:List UInt8} {P:List Dc} (h:bs[i]? = some b) (j:openD b=some P):(bs.take (i+1)).filterMap openD=(bs.take i).filterMap openD ++ [P]:=by
 rw[List.take_add_one,h,List.filterMap_append];congr 1;show List.filterMap openD [b]=_;rw[List.filterMap_cons,j];rfl
theorem Td {Ps:List (List Dc)} {P:List Dc} (h:Ps[i]? = some P) (la:Int):chainD la (Ps.drop i)=(decide (la<fstD P)&&chainD (lastD 0 P) (Ps.drop (i+1))):=by
 obtain⟨hi,rfl⟩:=List.getElem?_eq_some_iff.1 h;rw[List.drop_eq_getElem_cons hi];rfl
theorem Tr {P:List Dc} (h:0<P.length):∃lo hi n,partD P = [lo,hi,fstD P,lastD 0 P,n]:=by
 cases P with
 | nil=>cases h
 | cons d t=>exact⟨_,_,_,rfl⟩
end
section
open Go.RowKit Go.Maps
structure BsC where
  b:List UInt8
  A:Option Addr
  c:Nat
def BsC.val (x:BsC):Value:= .slice x.A x.b.length x.c
def In8e (w:World) (A:Option Addr) (n c:Nat) (b:List UInt8):Prop:=In8 w A n c b\/(b = []/\n=0/\c=0)
theorem In8e.ext {b:List UInt8} (h:In8e w A n c b) (j:Ext w w'):In8e w' A n c b:=h.imp (·.ext j) id
structure BssR (w:World) (A:Option Addr) (l:List BsC):Prop where
  cells:Cells w A (l.map BsC.val)
  each:∀x∈l,In8e w x.A x.b.length x.c x.b/\x.b.length<=60000
theorem BssR.ext {l:List BsC} (h:BssR w A l) (j:Ext w w'):BssR w' A l:=⟨h.cells.ext j,fun x b=>⟨(h.each x b).1.ext j,(h.each x b).2⟩⟩
theorem SegRB.ext {base:Nat} {P:List Dc} (h:SegRB base w g P) (j:Ext w w1):SegRB base w1 g P:=by
 obtain⟨ds,A,c,lo,hi,fi,la,B,cB,gd,gf,h1,h2,b,a,H,Y,J⟩:=h;exact⟨ds,A,c,lo,hi,fi,la,B,cB,gd,gf,h1.ext j,h2,b,a.ext j,H.ext j,Y.ext j,J.ext j⟩
theorem SegRB.low {base:Nat} {P:List Dc} (h:SegRB base w g P):SegRB 0 w g P:=by
 obtain⟨ds,A,c,lo,hi,fi,la,B,cB,gd,gf,h1,h2,j,b,a,H,Y⟩:=h;exact⟨ds,A,c,lo,hi,fi,la,B,cB,gd,gf,h1,h2,j,b.lower (Nat.zero_le _),a.lower (Nat.zero_le _),H.lower (Nat.zero_le _),Y.lower (Nat.zero_le _)⟩
theorem SegRB.unl {base:Nat} {P:List Dc} (h:SegRB base w g P) (H:Chg S w w1) (J:∀k,S k->∃cs,Row w k 56 cs):SegRB base w1 g P:=by
 obtain⟨ds,A,c,lo,hi,fi,la,B,cB,gd,gf,h1,h2,O,T,Z,U,b,cf,cc,f1,f2,f3,f4⟩:=h;have j:∀ {k t cs},Row w k t cs->t≠56->¬ S k:=fun hk ht e=>by
  obtain⟨_,Y⟩:=J _ e;exact Row.unlike hk Y ht rfl
 refine⟨ds,A,c,lo,hi,fi,la,B,cB,gd,gf,H.row h1 (j h1 (by decide)),h2,O,T.chg H (fun k t cs hk ht _=>j hk (by rcases ht with rfl | rfl <;> decide)),Z.chg H (fun k e=>?_),U.chg H (fun a G e=>?_),b,cf,cc,H.row f1 (j f1 (by decide)),f2,H.row f3 (j f3 (by decide)),f4⟩
 ·obtain⟨cs,Y⟩:=J k e;exact⟨_,cs,Y,by decide,by decide⟩
 ·obtain⟨cs,Y⟩:=J _ e;exact U.unlike Y (by decide) a G rfl
abbrev Sg:=Nat×List Dc
def Sg.val (x:Sg):Value:= .pointer (some ⟨x.1,0,none⟩)
def SgsR (w:World) (A:Option Addr) (l:List Sg):Prop:=Cells w A (l.map Sg.val)/\∀x∈l,SegR w x.1 x.2/\SegP x.2
theorem SgsR.ext {l:List Sg} (h:SgsR w A l) (j:Ext w w'):SgsR w' A l:=⟨h.1.ext j,fun x b=>⟨(h.2 x b).1.ext j,(h.2 x b).2⟩⟩
theorem TD (W:World):(Instr.sliceAt 24 (.slice A 0 0) none (some (.int .i64 0)) none).run prog W = .ok (.slice A 0 0) W:=by
 have ht:=underlying24;have h:prog.elem 24=5:=by unfold Program.elem;rw[ht]
 have hs:∀W:World,(sizeOf 5).run prog W = .ok 1 W:=fun W=>by kernel_rfl
 rw[run_sliceAt_slice W _ _ _ _ _ (by rw[ht,h]),run_slice_h W _ A 0 0 (by rw[ht,h]) .i64 0 (by omega) (by omega),h,hs];rfl
theorem TC (A:Option Addr) (w:World):Calls prog 24 #[.slice A 0 0] w fun e w'=>SegOB w [] e w':=by
 have j:=fun(W:World)=>AQ (P:=prog) #[3,3] 3 (x:=0) (y:=4) (m:=0) rfl W;have a:=fun W=>TD (A:=A) W;have b:=fun(W:World)=>CT (A:=A) (l:= []) (w:=W) (.inl rfl) 0 0 rfl;have h:=Tryz.strings_HasPrefix ⟨#[]⟩ ⟨#[76,83,69,71]⟩ w;replace h:=Aa h
 go_in
 go_wp2_with fail;refine h.out.mono ?_;rintro e w1 ⟨rfl,rfl⟩;go_wp2_with fail;go_ret2;exact SegOB.no (Ext.refl _) rfl
theorem TE (A:Option Addr) (n c:Nat) (b:List UInt8) (w:World) (h:In8e w A n c b) (j:b.length<=60000):Calls prog 24 #[.slice A n c] w fun e w'=>SegOB w b e w':=by
 rcases h with h | ⟨rfl,rfl,rfl⟩
 ·exact Ff A n c b w h (by have:=h.len;omega) fun Q _ a=>NJ j Q a
 ·exact TC A w
def EachA (w:World) (r:Option (List (List Dc))) (e:Ending) (w':World):Prop:=Ext w w'/\match r with
 | some Ps=>∃(l:List Sg) (A:Option Addr) (n c:Nat),l.map (·.2)=Ps/\n=l.length/\e = .returned (.tuple #[.slice A n c,.bool (decide (0<n))])/\SgsR w' A l
 | none=>e = .returned (.tuple #[.slice none 0 0,.bool false])
theorem EachA.no {r:Option (List (List Dc))} (j:Ext w w') (h:r=none):EachA w r (.returned (.tuple #[.slice none 0 0,.bool false])) w':=by subst h;exact⟨j,rfl⟩
theorem Tw:Elem prog 62 56 1 8:=⟨underlying62,⟨_,_,rfl,rfl,rfl,rfl,rfl⟩,by omega,by omega⟩
theorem Tk (bs:List BsC) (A:Option Addr) (n c:Nat) (w:World) (hn:n=bs.length) (h:BssR w A bs) (p1:n<=1000000) :
 Calls prog 69 #[.slice A n c,.func (.func 24) #[] #[]] w (EachA w (opensD (bs.map BsC.b))):=by
 obtain⟨Z,hZ⟩:=Ab (opensD (bs.map BsC.b));rw[<-hZ];replace hZ:=Aa hZ;have f0:=Aa TE;replace hn:=Aa hn;replace h:=Aa h
 go_in
 go_wp2_with fail
 go_loopw [6,13] (fun s6 s13 wr=>∃(i d:Nat) (B:Option Addr) (l:List Sg),s6 = .slice B i d/\s13 = .int .i64 (i:Int)/\i<=n/\Hid (l.length=i)/\Hid (((bs.map BsC.b).take i).all (fun b=>(openD b).isSome)=true/\l.map (·.2)=((bs.map BsC.b).take i).filterMap openD)/\Hid (wr.ownsRow w.heap.size 56 1 (.slice B i d) i (l.map Sg.val))/\Hid (∀x∈l,SegRB 0 wr x.1 x.2/\SegP x.2)/\Hid (Ext w wr)) (fun _ s13 _=>n - (intOf s13).toNat)
 case atStart=>exact⟨0,0,none,[],rfl,rfl,by omega,Aa rfl,Aa ⟨rfl,rfl⟩,Aa ⟨rfl,.inl ⟨rfl,rfl⟩⟩,Aa nofun,Aa (Ext.refl _)⟩
 case round =>
  obtain⟨i,d,B,l,rfl,rfl,hi,hl,J,ho,hs,hE⟩:=hrel;by_cases d0:i<n
  ·obtain⟨x,a⟩:∃x,bs[i]? = some x:=⟨_,List.getElem?_eq_getElem (by rw[<-hn.out];exact d0)⟩
   obtain⟨v0,T⟩:=h.out.each x (List.mem_of_getElem? a);obtain⟨g,o,rfl,hc⟩:=(h.out.cells.ext hE.out).at_ (by rw[List.length_map,<-hn.out];omega);have k0:=hc i x.val (by rw[List.getElem?_map,a];rfl);have Y:(bs.map BsC.b)[i]? = some x.b:=by rw[List.getElem?_map,a];rfl
   have H:=f0.out x.A x.b.length x.c x.b wr (v0.ext hE.out) T;unfold BsC.val at k0;obtain⟨xb,xA,xc⟩:=x;simp only at k0 H Y T;obtain⟨xn,G⟩:=Ab xb.length;rw[<-G]at k0 H T;replace H:=Aa H;replace Y:=Aa Y;replace G:=Aa G;clear hc a v0;cases U:openD xb with
   | none =>
    have hz:=Aa (Tf Y.out U);replace U:=Aa U;go_wp2_with fail;refine(H.out).mono ?_;rintro e w4 ⟨j,I⟩;rw[U.out]at I;simp only at I;subst I;go_wp2_with fail;go_ret2;exact EachA.no (hE.out.trans j) (by rw[hZ.out,hz.out])
   | some P =>
    have hP:=Aa (SF U (by rw[<-G.out];exact T));have q0:=T3 Y.out U;have h0:((bs.map BsC.b).take (i+1)).all (fun b=>(openD b).isSome)=true:=by rw[List.take_add_one,Y.out,List.all_append,J.out.1];show (openD xb).isSome&&true=true;rw[U];rfl
    replace U:=Aa U;replace q0:=Aa q0;replace h0:=Aa h0;go_wp2_with fail;refine(H.out).mono ?_;rintro e w4 ⟨j,I⟩;rw[U.out]at I;obtain⟨g4,rfl,g0⟩:=I;have p0:=Aa (j.owns ho.out);have l0:w.heap.size<=w4.heap.size:=(hE.out.trans j).size;replace g0:=Aa g0;replace j:=Aa j;go_wp2_with (at_builtin;refine AS (us:= [.pointer (some ⟨g4,0,none⟩)]) (m:=1) Tw p0.out rfl (.tmp 25) (.tmp 27) rfl rfl rfl rfl rfl (Az rfl) (by omega) l0 (fun A8 c8 w8 j0 O e0=>?_);replace j0:=Aa j0;replace O:=Aa O;clear e0);have x0:Ext w w8:=(hE.out.trans j.out).grown O.out fun k hk=>by obtain⟨_,_,hb⟩:=Ae p0.out hk;exact hb
    have i0:∀x∈l ++ [(g4,P)],SegRB 0 w8 x.1 x.2/\SegP x.2:=fun x a=>by
     have hk:∀k,(Value.slice B i d).ownBlock=some k->∃cs,Row w4 k 56 cs:=fun k hk=>by obtain⟨cs,I,_⟩:=Ae p0.out hk;exact⟨cs,I⟩
     have hC:Chg (fun k=>(Value.slice B i d).ownBlock=some k) w4 w8:=Chg.of_grown O.out fun _ _ h=>h;rcases List.mem_append.1 a with a | a
     ·exact⟨((hs.out x a).1.ext j.out).unl hC hk,(hs.out x a).2⟩
     ·rw[List.mem_singleton.1 a];exact⟨g0.out.low.unl hC hk,hP.out⟩
    go_roundw
    case rel=>exact⟨i+1,c8,A8,l ++ [(g4,P)],rfl,by go_num,by omega,Aa (by rw[List.length_append,hl.out];rfl),Aa ⟨h0.out,by rw[List.map_append,J.out.2,q0.out];rfl⟩,Aa (by rw[List.map_append];exact j0.out),Aa i0,Aa x0⟩
    case measure=>simp only[intOf];omega
  ·have c0:(bs.map BsC.b).take i=bs.map BsC.b:=List.take_of_length_le (by rw[List.length_map,<-hn.out];omega);have ha:=J.out;rw[c0]at ha;go_wp2_with fail;go_ret2;refine⟨hE.out,?_⟩;rw[hZ.out];unfold opensD;rw[if_pos ha.1];exact⟨l,B,i,d,ha.2,hl.out.symm,by congr 3,Cells.of_own ho.out,fun x a=>⟨(hs.out x a).1.seg,(hs.out x a).2⟩⟩
def OpA (w:World) (r:Option (List (List Dc))) (e:Ending) (w':World):Prop:=Ext w w'/\match r with
 | some Ps=>∃(l:List Sg) (A:Option Addr) (n c:Nat),l.map (·.2)=Ps/\n=l.length/\e = .returned (.tuple #[.slice A n c,.int .i64 0])/\SgsR w' A l
 | none=>e = .returned (.tuple #[.slice none 0 0,.int .i64 330])
theorem OpA.no {r:Option (List (List Dc))} (j:Ext w w') (h:r=none):OpA w r (.returned (.tuple #[.slice none 0 0,.int .i64 330])) w':=by subst h;exact⟨j,rfl⟩
theorem TJ {Ps:List (List Dc)} (h:opensD bs=some Ps):Ps.length<=bs.length:=by
 unfold opensD at h;split at h
 ·injection h with h;rw[<-h];exact List.length_filterMap_le ..
 ·cases h
theorem S7 (bs:List BsC) (A:Option Addr) (n c:Nat) (w:World) (hn:n=bs.length) (h:BssR w A bs) (e0:n<=1000000) :
 Calls prog 27 #[.slice A n c] w (OpA w (mergeD (bs.map BsC.b))):=by
 obtain⟨Z,U⟩:=Ab (mergeD (bs.map BsC.b));rw[<-U];unfold mergeD at U;have I:=Aa (Tk bs A n c w hn h e0);have hlen:∀Ps,opensD (bs.map BsC.b)=some Ps->Ps.length<=1000000:=fun Ps hp=>by
  have:=TJ hp;rw[List.length_map,<-hn]at this;omega
 obtain⟨O,hO⟩:=Ab (opensD (bs.map BsC.b));rw[<-hO]at I U hlen;replace hlen:=Aa hlen;replace U:=Aa U;clear h hn hO
 go_in
 go_wp2_with fail;refine I.out.mono ?_;rintro e w1 ⟨H,hr⟩;clear I;cases O with
 | none =>
  simp only at hr;subst hr;go_wp2_with fail;go_ret2;exact OpA.no H U.out
 | some Ps =>
  obtain⟨l,B,k,d,hl,hk,rfl,hs⟩:=hr;have Y:Ps.length=k:=by rw[<-hl,hk,List.length_map]
  have n0:k<=1000000:=by rw[<-Y];exact hlen.out _ rfl
  by_cases h0:0<k
  ·have hd:decide (0<k)=true:=decide_eq_true h0;have T:Z=if chainD 0 (Ps.drop 0)=true then some Ps else none:=by
    rw[U.out];simp only[Y,h0,true_and,List.drop_zero]
   rw[hd];replace T:=Aa T;replace hs:=Aa hs;replace hl:=Aa hl;replace hk:=Aa hk;replace Y:=Aa Y;replace H:=Aa H;clear hd U hlen;go_wp2_with fail
   go_loopw [6,19] (fun s6 s19 wr=>∃(i:Nat) (la:Int),s6 = .int .i64 la/\s19 = .int .i64 (i:Int)/\i<=k/\Hid (Z=if chainD la (Ps.drop i)=true then some Ps else none)/\Hid (Ext w1 wr)) (fun _ s19 _=>k - (intOf s19).toNat)
   case atStart=>exact⟨0,0,rfl,rfl,by omega,T,Aa (Ext.refl _)⟩
   case round =>
    clear T;obtain⟨i,la,rfl,rfl,hi,T,hE⟩:=hrel;by_cases d0:i<k
    ·obtain⟨x,hx⟩:∃x,l[i]? = some x:=⟨_,List.getElem?_eq_getElem (by rw[<-hk.out];exact d0)⟩
     obtain⟨x0,j0⟩:=(hs.out.ext hE.out).2 x (List.mem_of_getElem? hx);obtain⟨g,o,rfl,hc⟩:=(hs.out.ext hE.out).1.at_ (by rw[List.length_map,<-hk.out];omega);have k0:=hc i x.val (by rw[List.getElem?_map,hx];rfl);have v0:Ps[i]? = some x.2:=by rw[<-hl.out,List.getElem?_map,hx];rfl
     have J:=Td v0 la;obtain⟨lo,hh,nn,t0⟩:=Tr j0.ne;have a:=I8 x.1 x.2 wr x0 j0;rw[t0]at a;unfold prtA at a;unfold Sg.val at k0;obtain⟨fi,q0⟩:=Ab (fstD x.2);obtain⟨lx,p0⟩:=Ab (lastD 0 x.2);rw[<-q0,<-p0]at a;rw[<-q0,<-p0]at J;replace a:=Aa a;clear hc hx x0 j0 v0 t0 q0 p0;by_cases o0:fi<=la
     ·have j:=T.out;rw[J,decide_eq_false (show ¬ la<fi by omega),Bool.false_and,if_neg (by simp)]at j;replace j:=Aa j;clear J;go_wp2_with fail;refine a.out.mono ?_;rintro e w4 ⟨rfl,G⟩;go_wp2_with fail;go_ret2;exact OpA.no (((H.out.trans hE.out).trans G).alloc _) j.out
     ·have j:=T.out;rw[J,decide_eq_true (show la<fi by omega),Bool.true_and]at j;replace j:=Aa j;clear J;go_wp2_with fail;refine a.out.mono ?_;rintro e w4 ⟨rfl,G⟩;go_wp2_with fail;go_roundw
      case rel=>exact⟨i+1,lx,rfl,by go_num,by omega,j,Aa ((hE.out.trans G).alloc _)⟩
      case measure=>simp only[intOf];omega
    ·have j:=T.out;rw[List.drop_of_length_le (by rw[Y.out];omega)]at j;replace j:=Aa j;go_wp2_with fail;go_ret2;refine⟨H.out.trans hE.out,?_⟩;rw[j.out];exact⟨l,B,k,d,hl.out,hk.out,rfl,hs.out.ext hE.out⟩
  ·have hd:decide (0<k)=false:=decide_eq_false h0;rw[hd];have j:Z=none:=by rw[U.out];simp only[Y,h0,false_and,if_false]
   replace j:=Aa j;clear U hd;go_wp2_with fail;go_ret2;exact OpA.no H j.out
end
end Go.Proofs.YtfifdilapbeiiaaGreat
