/- Texts of one proof, joined. -/
import Derived.Test.YtfifdilapbeiiaaGreatPO09
set_option linter.unusedSimpArgs false
set_option linter.unusedVariables false
set_option maxRecDepth 100000
set_option maxHeartbeats 16000000
namespace Go.Proofs.YtfifdilapbeiiaaGreat
open _root_.Go.Proofs.Tryz
variable {cs:Array Value} {f r:List UInt8} {xs:List Value} {c g gd i k m n:Nat} {S:Nat → Prop} {A A':Option Addr} {P:Program} {ty:TypeId} {u0:Value} {w w' w1 w5 w8 wi wo:World}
section
open Go.RowKit
def EntD (w0:World) (g:Nat) (x:En) (r:List UInt8) (W:World) (e:Ending) (W':World):Prop:=e = .returned (.agg x.cells.toArray)/\RdD w0 g r W'/\Chg (fun k=>k=g) W W'
theorem E4 (hi:i<3) (W:World):(Instr.index 237 (.agg #[.pointer (some ⟨g,1,none⟩),.pointer (some ⟨g,2,none⟩),.pointer (some ⟨g,3,none⟩)]) (.int .i64 (i:Int))).run prog W = .ok (.pointer (some ⟨g,i+1,none⟩)) W:=by
 rcases (show i=0\/i=1\/i=2 by omega)with rfl | rfl | rfl
 ·show _=_
  kernel_rfl
 ·show _=_
  kernel_rfl
 ·show _=_
  kernel_rfl
def nRest (off len n:Nat) (r:List UInt8) (j:Nat):List UInt8:=if j=0 then vb off++(vb len++(vb n++r)) else if j=1 then vb len++(vb n++r) else if j=2 then vb n++r else r
def nThr (off len n j:Nat):Nat:=if j=0 then off else if j=1 then len else n
def nRow (t:List UInt8) (off len n j:Nat):Array Value:=#[.string ⟨t.toArray⟩,.int .i64 (if 0<j then (off:Int) else 0),.int .i64 (if 1<j then (len:Int) else 0),.int .i64 (if 2<j then (n:Int) else 0)]
theorem LW {off len n:Nat} {j:Nat} (h:j<3):nRest off len n r j=vb (nThr off len n j)++nRest off len n r (j+1):=by
 rcases (show j=0\/j=1\/j=2 by omega)with rfl | rfl | rfl <;> simp[nRest,nThr]
theorem N1 {t:List UInt8} {off len n:Nat} {j:Nat} (h:j<3):(nRow t off len n j).setIfInBounds (j+1) (.int .i64 (nThr off len n j:Int))=nRow t off len n (j+1):=by
 rcases (show j=0\/j=1\/j=2 by omega)with rfl | rfl | rfl <;> simp[nRow,nThr]
theorem PB (t:List UInt8) (off len n:Nat) {j:Nat} (h:j<3):∃u,(nRow t off len n j)[j+1]? = some u:=⟨_,Array.getElem?_eq_getElem (by show j+1<4;omega)⟩
theorem Lt (w0 W : World) (g : Nat) (la : List UInt8) (x : En) (r : List UInt8) (h : RdD w0 g (enB la x ++ r) W) (hg : w0.heap.size ≤ g) (hx : okEn x) (w4 : la.length ≤ 65) (g0 : (enB la x ++ r).length ≤ 1000000000) :
    Calls prog 98 #[.pointer (some ⟨g, 0, none⟩), .string ⟨la.toArray⟩] W fun e W' => EntD w0 g x r W e W' := by
  obtain ⟨t, off, len, n⟩ := x
  obtain ⟨b0, b1, b2, b3⟩ := hx
  simp only at b0 b1 b2 b3
  obtain ⟨k, hk⟩ := Ab (cpl la t)
  have o4 : k ≤ t.length := by rw [hk]; exact (DC la t).2
  have d3 : k ≤ la.length := by rw [hk]; exact (DC la t).1
  have x2 : la.take k ++ t.drop k = t := by rw [hk, JX la t]; exact List.take_append_drop _ _
  obtain ⟨R3, p0⟩ := Ab (vb off ++ (vb len ++ (vb n ++ r)))
  have O : enB la ⟨t, off, len, n⟩ ++ r = vb k ++ (txL (t.drop k) ++ R3) := by
    unfold enB
    rw [hk, p0]
    simp
  rw [O] at h g0
  have y0 : (txL (t.drop k) ++ R3).length ≤ 1000000000 := by rw [List.length_append] at g0; omega
  have e1 : R3.length ≤ 1000000000 := by rw [List.length_append] at y0; omega
  have f3 := Aa (fun W h => DD w0 W g k (txL (t.drop k) ++ R3) 65 h hg (by omega) (by omega) g0)
  have h4 := Aa (fun W h => Nz w0 W g (t.drop k) R3 h hg (by rw [List.length_drop]; omega) y0)
  have i3 := Aa (fun W q r h (hq : q ≤ 67108864) hl => DD w0 W g q r 67108864 h hg (by omega) (by omega) hl)
  have a3 := fun W => Jy (l := la) d3 (z := (k : Int)) rfl W
  obtain ⟨ln, o1⟩ := Ab la.length
  have y4 : (⟨la.toArray⟩ : ByteArray).size = ln := by rw [o1]; exact ByteArray.size_mk_toArray la
  have n4 : ¬ (ln : Int) < (k : Int) := by omega
  have j4 : (⟨(la.take k).toArray⟩ : ByteArray) ++ ⟨(t.drop k).toArray⟩ = ⟨t.toArray⟩ := by
    have e : (⟨(la.take k).toArray⟩ : ByteArray) ++ ⟨(t.drop k).toArray⟩ = ⟨(la.take k ++ t.drop k).toArray⟩ := by
      apply ByteArray.ext
      simp
    rw [e, x2]
  have z4 : (⟨(la.take k).toArray⟩ : ByteArray).size = k := by rw [ByteArray.size_mk_toArray, List.length_take]; omega
  obtain ⟨tn, e0⟩ := Ab ((t.drop k).length)
  have a4 : (⟨(t.drop k).toArray⟩ : ByteArray).size = tn := by rw [e0]; exact ByteArray.size_mk_toArray _
  have q4 : tn ≤ 65 := by rw [e0, List.length_drop]; omega
  have x4 : k ≤ 65 := by omega
  obtain ⟨W4, I⟩ := Ab (W.alloc (.cells #[.string ⟨#[]⟩, .int .i64 0, .int .i64 0, .int .i64 0] 100))
  obtain ⟨g4, T⟩ := Ab W.heap.size
  have k2 : Row W4 g4 100 #[.string ⟨#[]⟩, .int .i64 0, .int .i64 0, .int .i64 0] := by rw [I, T]; exact Row.new W _ _
  have x1 : RdD w0 g (vb k ++ (txL (t.drop k) ++ R3)) W4 := by rw [I]; exact h.ext ((Ext.refl W).alloc _)
  have j1 : Chg (fun k => k = g) W W4 := by rw [I]; exact Chg.of_ext ((Ext.refl W).alloc _) _
  have l4 : g < W.heap.size := by obtain ⟨_, _, q, _⟩ := h; exact q.lt
  have k0 : g4 ≠ g := by omega
  replace h := Aa h
  replace hk := Aa hk
  replace x2 := Aa x2
  replace p0 := Aa p0
  replace O := Aa O
  replace o1 := Aa o1
  replace e0 := Aa e0
  replace k2 := Aa k2
  replace x1 := Aa x1
  replace j1 := Aa j1
  replace I := Aa I
  replace T := Aa T
  replace g0 := Aa g0
  replace y0 := Aa y0
  replace e1 := Aa e1
  go_in
  go_wp2_with fail
  rw [← I.out, ← T.out]
  refine (f3.out W4 x1.out).mono ?_
  rintro e w5 ⟨rfl, y1, h0⟩
  have j2 := Aa (h0.row k2.out k0)
  replace h0 := Aa (j1.out.trans h0 fun _ _ h => h)
  replace y1 := Aa y1
  go_wp2_with fail
  have v4 : W.heap.size ≤ w5.heap.size := h0.out.size
  have n0 : W.heap.size < w5.heap.size := by have := j2.out.lt; have := T.out; omega
  have t4 : w0.heap.size ≤ W.heap.size := by obtain ⟨_, _, _, _, q⟩ := h.out; exact q.size
  go_cut [6] (fun s6 wy => ∃ g6, s6 = .pointer (some ⟨g6, 0, none⟩) ∧ W.heap.size < g6 ∧ Hid (Row wy g6 100 #[.string ⟨t.toArray⟩, .int .i64 0, .int .i64 0, .int .i64 0]) ∧ Hid (RdD w0 g R3 wy) ∧ Hid (Row wy g4 100 #[.string ⟨#[]⟩, .int .i64 0, .int .i64 0, .int .i64 0]) ∧ Hid (Chg (fun k => k = g) W wy))
  case first =>
    have l0 := y1.out.ext (Ext.refl w5).drew
    have i2 := l0.ext ((Ext.refl w5.drew).alloc (.cells #[.string ⟨#[]⟩, .int .i64 0, .int .i64 0, .int .i64 0] 100))
    have m0 : Row (w5.drew.alloc (.cells #[.string ⟨#[]⟩, .int .i64 0, .int .i64 0, .int .i64 0] 100)) w5.heap.size 100 #[.string ⟨#[]⟩, .int .i64 0, .int .i64 0, .int .i64 0] := Row.new w5.drew _ _
    have r0 : w5.heap.size ≠ g := by omega
    have k1 := Aa (j2.out.ext (Ext.refl w5).drew)
    have k3 := Aa (k1.out.alloc (.cells #[.string ⟨#[]⟩, .int .i64 0, .int .i64 0, .int .i64 0] 100))
    have i0 := Aa (h0.out.trans (Chg.of_ext (Ext.refl w5).drew (fun k => k = g)) fun _ _ h => h)
    have y2 := Aa (i0.out.trans (Chg.of_ext ((Ext.refl w5.drew).alloc (.cells #[.string ⟨#[]⟩, .int .i64 0, .int .i64 0, .int .i64 0] 100)) (fun k => k = g)) fun _ _ h => h)
    replace m0 := Aa m0
    go_region_with ((go_at_call 148; refine (h4.out _ (by first | exact l0 | exact i2)).mono ?_; rintro e w6 ⟨rfl, U, b⟩; replace U := Aa U; (first | (have r6 := Chg.row b m0.out r0; have c0 := r6.get; have f0 := r6.free; replace r6 := Aa r6) | skip); replace b := Aa b))
    all_goals
      go_wp2_with fail
      go_meet
      case rel =>
        first
        | (have r6' := r6.out
           have y3 := y2.out.trans b.out fun _ _ h => h
           have r3 := (((r6'.put 0 (.string ⟨t.toArray⟩)).put 1 (.int .i64 0)).put 2 (.int .i64 0)).put 3 (.int .i64 0)
           have J := (((Chg.of_set (S := fun k => k = w5.heap.size) w6 (a := ⟨w5.heap.size, 0, none⟩) (.string ⟨t.toArray⟩) rfl).trans (Chg.of_set (S := fun k => k = w5.heap.size) _ (a := ⟨w5.heap.size, 1, none⟩) (.int .i64 0) rfl) fun _ _ h => h).trans (Chg.of_set (S := fun k => k = w5.heap.size) _ (a := ⟨w5.heap.size, 2, none⟩) (.int .i64 0) rfl) fun _ _ h => h).trans (Chg.of_set (S := fun k => k = w5.heap.size) _ (a := ⟨w5.heap.size, 3, none⟩) (.int .i64 0) rfl) fun _ _ h => h
           have t0 := b.out.row k3.out k0
           refine ⟨w5.heap.size, rfl, n0, Aa r3, Aa ?_, Aa (J.row t0 (fun e => ?_)), Aa (y3.trans J fun i hi e => by omega)⟩
           · obtain ⟨B, d, q1, q2, q3⟩ := U.out
             exact ⟨B, d, J.row q1 (fun e => r0 e.symm), q2, q3.chg J fun i hi e => by omega⟩
           · have := j2.out.lt
             omega)
        | (refine ⟨w6.heap.size, rfl, Nat.lt_of_lt_of_le n0 b.out.size, Aa (Row.new w6 _ _), Aa (U.out.ext ((Ext.refl w6).alloc _)), Aa ((b.out.row k1.out k0).alloc _), Aa ((i0.out.trans b.out fun _ _ h => h).trans (Chg.of_ext ((Ext.refl w6).alloc _) _) fun _ _ h => h)⟩)
  case rest =>
    obtain ⟨g6, rfl, i4, j3, U, t0, b⟩ := hcut
    have o0 : g6 ≠ g := by omega
    have d2 : Hid (RdD w0 g (nRest off len n r 0) _) := Aa (by have := U.out; rw [p0.out] at this; exact this)
    have m3 : Hid (Row _ g6 100 (nRow t off len n 0)) := j3
    have h2 : (nRest off len n r 0).length ≤ 1000000000 := by have := e1.out; rw [p0.out] at this; exact this
    replace h2 := Aa h2
    clear j3 U
    go_wp2_with fail
    go_loopw [29] (fun s29 wr => ∃ j : Nat, s29 = .int .i64 (j : Int) ∧ j ≤ 3 ∧ Hid (RdD w0 g (nRest off len n r j) wr) ∧ Hid (Row wr g6 100 (nRow t off len n j)) ∧ Hid (Row wr g4 100 #[.string ⟨#[]⟩, .int .i64 0, .int .i64 0, .int .i64 0]) ∧ Hid (Chg (fun k => k = g) W wr) ∧ Hid ((nRest off len n r j).length ≤ 1000000000)) (fun s29 _ => 3 - (intOf s29).toNat)
    case atStart => exact ⟨0, rfl, by omega, d2, m3, t0, b, h2⟩
    case round =>
      obtain ⟨j, rfl, hj, o2, t3, G, a2, e3⟩ := hrel
      by_cases x0 : j < 3
      · have hx := fun W => E4 (g := g6) x0 W
        have p3 : (j : Int) < 3 := by omega
        have m2 := LW (off := off) (len := len) (n := n) (r := r) x0
        have Y := o2.out
        have j0 := e3.out
        rw [m2] at Y j0
        have d0 := N1 (t := t) (off := off) (len := len) (n := n) x0
        obtain ⟨u, hu⟩ := PB t off len n x0
        obtain ⟨v, hv⟩ := Ab (nThr off len n j)
        have k4 : v ≤ 67108864 := by rw [hv]; unfold nThr; split; exact b1; split; exact b2; exact b3
        rw [← hv] at Y j0 d0
        have i1 : (nRest off len n r (j + 1)).length ≤ 1000000000 := by rw [List.length_append] at j0; omega
        have hc := Aa (i3.out wr v _ Y k4 j0)
        replace i1 := Aa i1
        replace m2 := Aa m2
        replace d0 := Aa d0
        replace hu := Aa hu
        replace hv := Aa hv
        clear Y j0
        go_wp2_with fail
        refine hc.out.mono ?_
        rintro e w8 ⟨rfl, a1, q0⟩
        have H := q0.row t3.out o0
        have v0 := q0.row G.out k0
        have m1 := a2.out.trans q0 fun _ _ h => h
        have c1 := H.cell (j + 1) hu.out
        have f1 := H.free (j + 1)
        replace H := Aa H
        replace v0 := Aa v0
        replace m1 := Aa m1
        replace a1 := Aa a1
        replace q0 := Aa q0
        go_wp2_with fail
        have d1 := Chg.of_set (S := fun k => k = g6) w8 (a := ⟨g6, j + 1, none⟩) (.int .i64 (v : Int)) rfl
        have h1 := H.out.put (j + 1) (.int .i64 (v : Int))
        rw [d0.out] at h1
        have f2 : RdD w0 g (nRest off len n r (j + 1)) (w8.setCell ⟨g6, j + 1, none⟩ (.int .i64 (v : Int))) := by
          obtain ⟨B, d, q1, q2, q3⟩ := a1.out
          exact ⟨B, d, d1.row q1 (fun e => o0 e.symm), q2, q3.chg d1 fun i hi e => by omega⟩
        have h3 : g4 ≠ g6 := by have := T.out; omega
        exact ⟨⟨j + 1, by congr 1, by omega, Aa f2, Aa h1, Aa (v0.out.away h3 _), Aa (m1.out.trans d1 fun i hi e => by omega), i1⟩, by simp only [intOf]; omega⟩
      · have p3 : ¬ (j : Int) < 3 := by omega
        have Z : j = 3 := by omega
        have H : Row wr g6 100 #[.string ⟨t.toArray⟩, .int .i64 (off : Int), .int .i64 (len : Int), .int .i64 (n : Int)] := by
          have := t3.out
          rw [Z] at this
          exact this
        have Y : RdD w0 g r wr := by
          have := o2.out
          rw [Z] at this
          exact this
        have d4 := H.get
        have e4 := G.out.get
        have f4 := G.out.free
        replace H := Aa H
        replace Y := Aa Y
        replace Z := Aa Z
        go_wp2_with fail
        have o3 := (((G.out.put 0 (.string ⟨t.toArray⟩)).put 1 (.int .i64 (off : Int))).put 2 (.int .i64 (len : Int))).put 3 (.int .i64 (n : Int))
        have J := (((Chg.of_set (S := fun k => k = g4) wr (a := ⟨g4, 0, none⟩) (.string ⟨t.toArray⟩) rfl).trans (Chg.of_set (S := fun k => k = g4) _ (a := ⟨g4, 1, none⟩) (.int .i64 (off : Int)) rfl) fun _ _ h => h).trans (Chg.of_set (S := fun k => k = g4) _ (a := ⟨g4, 2, none⟩) (.int .i64 (len : Int)) rfl) fun _ _ h => h).trans (Chg.of_set (S := fun k => k = g4) _ (a := ⟨g4, 3, none⟩) (.int .i64 (n : Int)) rfl) fun _ _ h => h
        have m4 := T.out
        refine bodyPost_ret (results_cell_row rfl _ _ g4 100 #[.string ⟨t.toArray⟩, .int .i64 (off : Int), .int .i64 (len : Int), .int .i64 (n : Int)] (0, 0) _ rfl o3 underlying100 rfl (by kernel_rfl)) rfl ⟨rfl, ?_, a2.out.trans J fun i hi e => by omega⟩
        obtain ⟨B, d, q1, q2, q3⟩ := Y.out
        exact ⟨B, d, J.row q1 (fun e => k0 e.symm), q2, q3.chg J fun i hi e => by omega⟩
def midE (l:List En) (i:Nat) (la:List UInt8):List UInt8:=blockE la ((l.drop i).take (16 - i%16))++partsE (chunkL 16 (l.drop (i+(16 - i%16))))
def restE (l:List En) (i:Nat):List UInt8:=if i%16=0 then partsE (chunkL 16 (l.drop i)) else midE l i (lastT l i)
theorem Mi (l:List En):encEs l=vb l.length++restE l 0:=by
 unfold restE encEs;rw[if_pos (by omega),List.drop_zero]
theorem Mh {l:List En} (h:i%16=0) (hi:i<l.length):∃q,restE l i=vb q++midE l i []/\q<=(midE l i []).length:=by
 have j:l.drop i ≠ []:=fun e=>by
  have:=congrArg List.length e;rw[List.length_drop,List.length_nil]at this;omega
 refine⟨(blockE [] ((l.drop i).take 16)).length,?_,?_⟩
 ·unfold restE midE;rw[if_pos h,h,BE j (by omega),List.drop_drop];show vb _++blockE [] _++partsE _=_;rw[List.append_assoc]
 ·unfold midE;rw[h,List.length_append];exact Nat.le_add_right _ _
theorem N0 {l:List En} {x:En} (j:l[i]? = some x) (la:List UInt8):midE l i la=enB la x++restE l (i+1):=by
 unfold midE;have b:i%16<16:=Nat.mod_lt _ (by omega);rw[AY j,show 16 - i%16=(15 - i%16)+1 by omega,List.take_succ_cons];show (enB la x++blockE x.t _)++_=_;rw[List.append_assoc];congr 1;unfold restE;by_cases h:(i+1)%16=0
 ·rw[if_pos h,show 15 - i%16=0 by omega,List.take_zero,blockE,List.nil_append,show i+(0+1)=i+1 by omega]
 ·rw[if_neg h,Dp j];unfold midE;rw[show 16 - (i+1)%16=15 - i%16 by omega,show i+(15 - i%16+1)=i+1+(15 - i%16)by omega]
theorem Pa:Elem prog 97 100 4 40:=⟨underlying97,⟨_,_,rfl,rfl,rfl,rfl,rfl⟩,by omega,by omega⟩
def DicR (w:World) (g:Nat) (l:List En):Prop:=∃A c,Row w g 186 #[.slice A l.length c,.bool true]/\Cells w A (encells l)
theorem DicR.ext {l:List En} (h:DicR w g l) (j:Ext w w1):DicR w1 g l:=by
 obtain⟨A,c,h1,h2⟩:=h;exact⟨A,c,h1.ext j,h2.ext j⟩
def DicO (w:World) (base g:Nat) (l:List En):Prop:=∃A c,Row w g 186 #[.slice A l.length c,.bool true]/\w.ownsRow base 100 4 (.slice A l.length c) l.length (encells l)
theorem DicO.dic {base g:Nat} {l:List En} (h:DicO w base g l):DicR w g l:=by
 obtain⟨A,c,h1,h2⟩:=h;exact⟨A,c,h1,Cells.of_own h2⟩
theorem DicO.ext {base g:Nat} {l:List En} (h:DicO w base g l) (j:Ext w w1):DicO w1 base g l:=by
 obtain⟨A,c,h1,h2⟩:=h;exact⟨A,c,h1.ext j,j.owns h2⟩
theorem DicO.chg {base g:Nat} {l:List En} (h:DicO w base g l) (b:Chg S w w1) (a:∀q,S q->∃t cs,Row w q t cs/\t≠186/\t≠100):DicO w1 base g l:=by
 obtain⟨A,c,h1,h2⟩:=h;refine⟨A,c,h1.keep (b.block _ h1.lt fun hs=>?_),b.owns h2 fun q H hs=>?_⟩
 ·obtain⟨t,cs,j,hn,_⟩:=a _ hs;exact Row.unlike j h1 hn rfl
 ·obtain⟨t,cs,j,_,hn⟩:=a _ hs;exact Am h2 j (fun e=>hn e.symm) H
def NewDO (w:World) (l:List En) (e:Ending) (w':World):Prop:=∃g,e = .returned (.tuple #[.pointer (some ⟨g,0,none⟩),.int .i64 0])/\DicO w' w.heap.size g l/\Ext w w'
theorem Ls (A:Option Addr) (n c:Nat) (bs:List UInt8) (w:World) (l:List En) (h:In8 w A n c bs) (p0:OkEs l) (j1:bs=encEs l) (j5:n<=100000000) :
 Calls prog 56 #[.slice A n c] w fun e w'=>NewDO w l e w':=by
 obtain⟨m,hm⟩:=Ab l.length;have g5:m<=262144:=by rw[hm];exact p0.few
 have G:bs=vb m++restE l 0:=by rw[j1,hm];exact Mi l
 have q0:n=(vb m++restE l 0).length:=by rw[<-G];exact h.len
 obtain⟨g,hg⟩:=Ab w.heap.size;obtain⟨W0,m0⟩:=Ab (w.alloc (.cells #[.slice A n c,.bool false] 182));have k2:Ext w W0:=by rw[m0];exact(Ext.refl w).alloc _
 have b:RdD w g (vb m++restE l 0) W0:=by
  refine⟨A,c,?_,by rw[<-q0,<-G];exact h,k2⟩;rw[<-q0,m0,hg];exact Row.new w _ _
 have i1:=Aa (fun W q r z h1 h2 h3 h4=>DD w W g q r z h1 (by omega) h2 h3 h4);have f3:=Aa (fun W la x r h1 h2 h3 h4=>Lt w W g la x r h1 (by omega) h2 h3 h4);have p3:(restE l 0).length<=n:=by rw[q0,List.length_append];omega
 replace b:=Aa b;replace k2:=Aa k2;replace p0:=Aa p0;replace j1:=Aa j1;replace G:=Aa G;replace hm:=Aa hm;replace m0:=Aa m0;replace hg:=Aa hg;replace h:=Aa h;replace q0:=Aa q0;replace p3:=Aa p3
 go_in
 go_wp2_with fail;rw[<-m0.out,<-hg.out];refine(i1.out W0 m (restE l 0) 262144 b.out (by omega) (by omega) (by rw[<-q0.out];omega)).mono ?_;rintro e w1 ⟨rfl,m2,t3⟩;replace m2:=Aa m2;replace t3:=Aa t3;go_wp2_with fail
 go_loopw [6,7,8] (fun s6 s7 s8 wr=>∃(i c6:Nat) (A6:Option Addr) (la:List UInt8),s6 = .slice A6 i c6/\s7 = .string ⟨la.toArray⟩/\s8 = .int .i64 (i:Int)/\i<=m/\Hid (i%16≠0->la=lastT l i)/\Hid (la.length<=65)/\Hid ((restE l i).length<=n)/\Hid (RdD w g (restE l i) wr)/\Hid (wr.ownsRow w.heap.size 100 4 (.slice A6 i c6) i (encells (l.take i)))) (fun _ _ s8 _=>m - (intOf s8).toNat)
 case atStart=>exact⟨0,0,none,[],rfl,rfl,rfl,by omega,Aa (fun h=>by omega),Aa (by simp),p3,m2,Aa (World.ownsRow_nil _ _ _ _)⟩
 case round =>
  obtain⟨i,c6,A6,la,rfl,rfl,rfl,him,l4,r3,j4,hS,I⟩:=hrel;obtain⟨wv,rfl⟩:=Ab wr;obtain⟨B0,d0,r0,_,_⟩:=hS.out;have kb:=r0.cell 1 rfl;clear r0;by_cases i3:i<m
  ·obtain⟨x,k0⟩:∃x,l[i]? = some x:=⟨_,List.getElem?_eq_getElem (by rw[<-hm.out];exact i3)⟩
   have m4:=(p0.out.each x (List.mem_of_getElem? k0)).1;obtain⟨mo,b0⟩:=Ab (i%16);have q5:(i:Int)%16=(mo:Int):=by omega
   have h5:((mo:Int)==0)=decide (mo=0):=by rw[Bool.eq_iff_iff,beq_iff_eq,decide_eq_true_iff];omega
   replace b0:=Aa b0;replace k0:=Aa k0;go_upto_if 29 with (fail)
   go_cut [7] (fun s7 wx=>∃la2:List UInt8,s7 = .string ⟨la2.toArray⟩/\Hid (la2.length<=65)/\Hid ((midE l i la2).length<=n)/\Hid (RdD w g (midE l i la2) wx)/\Hid (wx.ownsRow w.heap.size 100 4 (.slice A6 i c6) i (encells (l.take i))))
   case first =>
    by_cases k3:mo=0
    ·obtain⟨q,hq,p4⟩:=Mh (l:=l) (by rw[<-b0.out];exact k3) (by rw[<-hm.out];exact i3);have x2:=hS.out;have f0:=j4.out;rw[hq]at x2 f0;have O:(midE l i []).length<=n:=by rw[List.length_append]at f0;omega
     have hc:=Aa (i1.out wv q _ (n:Int) x2 (by omega) (by omega) (by omega));replace hq:=Aa hq;replace p4:=Aa p4;replace O:=Aa O;clear x2 f0;go_wp2_with fail;refine hc.out.mono ?_;rintro e w3 ⟨rfl,U,o1⟩;have Y:=o1.owns I.out fun gb i2 e=>by
      obtain⟨B,d,q1,_,_⟩:=hS.out;exact Am I.out q1 (by decide) (by rw[i2,e])
     replace U:=Aa U;replace Y:=Aa Y;replace o1:=Aa o1;go_wp2_with fail
     go_meet
     case rel=>exact⟨[],rfl,Aa (by simp),O,U,Y⟩
    ·have e1:restE l i=midE l i la:=by
      unfold restE;rw[if_neg (by rw[<-b0.out];exact k3),l4.out (by rw[<-b0.out];exact k3)]
     have U:Hid (RdD w g (midE l i la) wv):=Aa (by rw[<-e1];exact hS.out);have O:Hid ((midE l i la).length<=n):=Aa (by rw[<-e1];exact j4.out);replace e1:=Aa e1;go_wp2_with fail
     go_meet
     case rel=>exact⟨la,rfl,r3,O,U,I⟩
   case rest =>
    obtain⟨la2,rfl,o3,O,U,Y⟩:=hcut;have j3:=N0 k0.out la2;have y2:=U.out;have y0:=O.out;rw[j3]at y2 y0;have i0:(restE l (i+1)).length<=n:=by rw[List.length_append]at y0;omega
    have hc:=Aa (f3.out _ la2 x _ y2 m4 o3.out (by omega));have a1:=Dp k0.out;have m3:encells (l.take (i+1))=encells (l.take i)++x.cells:=by
     rw[List.take_add_one,k0.out];unfold encells;rw[List.flatMap_append];simp
    obtain⟨t,off,len,nn⟩:=x;have l0:t.length<=65:=m4.1;simp only at a1;replace j3:=Aa j3;replace i0:=Aa i0;replace a1:=Aa a1;replace m3:=Aa m3;replace l0:=Aa l0;clear y2 y0;go_wp2_with fail;refine hc.out.mono ?_;rintro e w4 ⟨he,a3,x3⟩;have he:e = .returned (.agg #[.string ⟨t.toArray⟩,.int .i64 (off:Int),.int .i64 (len:Int),.int .i64 (nn:Int)]):=he;subst he;have T:=x3.owns Y.out fun gb i2 e=>by
     obtain⟨B,d,q1,_,_⟩:=U.out;exact Am Y.out q1 (by decide) (by rw[i2,e])
    obtain⟨g9,v0⟩:=Ab w4.heap.size;obtain⟨W9,h0⟩:=Ab (w4.alloc (.cells #[.string ⟨t.toArray⟩,.int .i64 (off:Int),.int .i64 (len:Int),.int .i64 (nn:Int)] 100));have k4:Row W9 g9 100 #[.string ⟨t.toArray⟩,.int .i64 (off:Int),.int .i64 (len:Int),.int .i64 (nn:Int)]:=by rw[h0,v0];exact Row.new w4 _ _
    have b3:RdD w g (restE l (i+1)) W9:=by rw[h0];exact a3.ext ((Ext.refl w4).alloc _)
    have e0:W9.ownsRow w.heap.size 100 4 (.slice A6 i c6) i (encells (l.take i)):=by rw[h0];exact((Ext.refl w4).alloc _).owns T
    have J:=k4.ext (Ext.refl W9).drew;have Z:=b3.ext (Ext.refl W9).drew;have a:=(Ext.refl W9).drew.owns e0;have g4:w.heap.size<=W9.drew.heap.size:=by obtain⟨_,_,_,_,q⟩:=Z;exact q.size
    have t0:∀k,(Value.slice A6 i c6).ownBlock=some k->k<g9:=fun k hk=>by
     obtain⟨cs,r4,_⟩:=Ae T hk;rw[v0];exact r4.lt
    have e3:=J.get;have b:W9.drew.cell? ⟨g9,0,none⟩=some (.string ⟨t.toArray⟩)/\W9.drew.cell? ⟨g9,1,none⟩=some (.int .i64 (off:Int))/\W9.drew.cell? ⟨g9,2,none⟩=some (.int .i64 (len:Int))/\W9.drew.cell? ⟨g9,3,none⟩=some (.int .i64 (nn:Int)):=⟨J.cell 0 rfl,J.cell 1 rfl,J.cell 2 rfl,J.cell 3 rfl⟩
    have g0:Ext W9.drew (W9.drew.alloc (.cells #[.string ⟨t.toArray⟩,.int .i64 (off:Int),.int .i64 (len:Int),.int .i64 (nn:Int)] 100)):=(Ext.refl _).alloc _;have a2:(W9.drew.alloc (.cells #[.string ⟨t.toArray⟩,.int .i64 (off:Int),.int .i64 (len:Int),.int .i64 (nn:Int)] 100)).cell? ⟨g9,0,none⟩=some (.string ⟨t.toArray⟩)/\(W9.drew.alloc (.cells #[.string ⟨t.toArray⟩,.int .i64 (off:Int),.int .i64 (len:Int),.int .i64 (nn:Int)] 100)).cell? ⟨g9,1,none⟩=some (.int .i64 (off:Int))/\(W9.drew.alloc (.cells #[.string ⟨t.toArray⟩,.int .i64 (off:Int),.int .i64 (len:Int),.int .i64 (nn:Int)] 100)).cell? ⟨g9,2,none⟩=some (.int .i64 (len:Int))/\(W9.drew.alloc (.cells #[.string ⟨t.toArray⟩,.int .i64 (off:Int),.int .i64 (len:Int),.int .i64 (nn:Int)] 100)).cell? ⟨g9,3,none⟩=some (.int .i64 (nn:Int)):=⟨g0.cell b.1,g0.cell b.2.1,g0.cell b.2.2.1,g0.cell b.2.2.2⟩
    have o2:∀w8,W9.drew.grownBy w8 (Value.slice A6 i c6).ownBlock->w8.cell? ⟨g9,0,none⟩=some (.string ⟨t.toArray⟩)/\w8.cell? ⟨g9,1,none⟩=some (.int .i64 (off:Int))/\w8.cell? ⟨g9,2,none⟩=some (.int .i64 (len:Int))/\w8.cell? ⟨g9,3,none⟩=some (.int .i64 (nn:Int)):=fun w8 y1=>by
     have d1:=Row.grown (w:=W9.drew) J y1 (fun e=>by
      have:=t0 _ e.symm;omega)
     exact⟨d1.cell 0 rfl,d1.cell 1 rfl,d1.cell 2 rfl,d1.cell 3 rfl⟩
    replace J:=Aa J;replace Z:=Aa Z;replace a:=Aa a;replace h0:=Aa h0;replace v0:=Aa v0;replace b:=Aa b;replace a2:=Aa a2;replace o2:=Aa o2;replace t0:=Aa t0;replace e3:=Aa e3;clear k4 b3 e0 T a3 x3 g0;go_wp2_with fail;rw[<-h0.out,<-v0.out]
    go_region_held3 (fun x=>x.cell? ⟨g9,0,none⟩=some (.string ⟨t.toArray⟩)/\x.cell? ⟨g9,1,none⟩=some (.int .i64 (off:Int))/\x.cell? ⟨g9,2,none⟩=some (.int .i64 (len:Int))/\x.cell? ⟨g9,3,none⟩=some (.int .i64 (nn:Int))) (first | exact b.out | exact a2.out | exact o2.out _ ‹_›) (first | (refine OH (us:= [.string ⟨t.toArray⟩,.int .i64 (off:Int),.int .i64 (len:Int),.int .i64 (nn:Int)]) (m:=1) Pa rfl a.out rfl (.tmp 37) (.tmp 39) rfl rfl rfl rfl (Az rfl) (by omega) g4 (fun A8 c8 w8 n4 y1=>?_)))
    go_wp2_with fail;have b4:RdD w g (restE l (i+1)) w8:=by
     obtain⟨B,d,q1,q2,q3⟩:=Z.out;refine⟨B,d,q1.grown y1 fun e=>Am a.out q1 (by decide) e.symm,q2,q3.grown y1 fun k hk=>?_⟩;obtain⟨_,_,hb⟩:=Ae a.out hk;exact hb
    have q4:w8.ownsRow w.heap.size 100 4 (.slice A8 (i+1) c8) (i+1) (encells (l.take (i+1))):=by rw[m3.out];exact n4
    exact⟨⟨i+1,c8,A8,t,rfl,rfl,rfl,by omega,Aa (fun _=>a1.out.symm),l0,i0,Aa b4,Aa q4⟩,by simp only[intOf];omega⟩
  ·obtain rfl:i=m:=by omega
   have H:=I.out;rw[List.take_of_length_le (by rw[<-hm.out];exact Nat.le_refl _)]at H;have x1:=BN H;have m1:=Cells.of_own H;have o0:Ext w wv:=by obtain⟨_,_,_,_,q⟩:=hS.out;exact q
   have e4:=Aa (fun W (hE:Ext wv W/\W.cell? ⟨g,1,none⟩=some (Value.bool false))=>(J3 l A6 i c6 W hm.out (m1.ext hE.1) p0.out).mono fun e W' ⟨he,j0⟩=>And.intro he (show Ext wv W'/\W'.cell? ⟨g,1,none⟩=some (Value.bool false)from⟨hE.1.trans j0,j0.cell hE.2⟩));have d2:=Aa (fun W (hE:Ext wv W/\W.cell? ⟨g,1,none⟩=some (Value.bool false))=>(GF l A6 i c6 W hm.out (m1.ext hE.1) x1.2 x1.1 p0.out).mono fun e W' (h:OwnB _ _ _ e W')=>show ∃A5 c5,e = .returned (.slice A5 (encEs l).length c5)/\Bs W' A5 (encEs l)/\Ext wv W'/\W'.cell? ⟨g,1,none⟩=some (Value.bool false)from by
    obtain⟨A5,c5,he,ho,j0⟩:=h;exact⟨A5,c5,he,ho.2.cells,hE.1.trans j0,j0.cell hE.2⟩)
   have b:Ext wv wv.drew/\wv.drew.cell? ⟨g,1,none⟩=some (Value.bool false):=⟨(Ext.refl wv).drew,kb⟩
   have f4:∀W,(Ext wv W/\W.cell? ⟨g,1,none⟩=some (Value.bool false))->(convert 24 9 (.slice A n c)).run prog W = .ok (.string ⟨bs.toArray⟩) W:=fun W hE=>CT ((h.out.bytes.ext o0).ext hE.1) n c h.out.len;have k5:(bs==bs)=true:=beq_self_eq_true bs;obtain⟨nb,c0⟩:=Ab ((encEs l).length);rw[<-j1.out]at d2 c0;rw[<-c0]at d2;replace H:=Aa H;replace x1:=Aa x1;replace m1:=Aa m1;replace o0:=Aa o0;replace b:=Aa b;replace c0:=Aa c0;go_wp2_with fail;refine wp_region_held_drew (S:=(fun x=>Ext wv x/\x.cell? ⟨g,1,none⟩=some (Value.bool false))) (by kernel_rfl) b.out (fun j2=>?_);refine wpAnyH_take (i:=0) (v:= .pointer (some ⟨g,0,none⟩)) rfl (by kernel_rfl) (by kernel_rfl) (by kernel_rfl) (fun _ _ _ h=>h) (Or.inl ⟨by rfl,?_⟩) (by assumption) ?_
   ·intro w' j
    (try dsimp only at j)
    go_simp
    try with_reducible rfl
    all_goals omega
   (try simp only[Act.put,Bv,Bw,By,CN,CO,CP])
   refine wpAnyH_take (i:=1) (v:= .pointer (some ⟨g,0,none⟩)) rfl (by kernel_rfl) (by kernel_rfl) (by kernel_rfl) (fun _ _ _ h=>h) (Or.inl ⟨by rfl,?_⟩) (by assumption) ?_
   ·intro w' j
    (try dsimp only at j)
    go_simp
    try with_reducible rfl
    all_goals omega
   (try simp only[Act.put,Bv,Bw,By,CN,CO,CP])
   refine wpAnyH_take (i:=2) (v:= .pointer (some ⟨g,1,none⟩)) rfl (by kernel_rfl) (by kernel_rfl) (by kernel_rfl) (fun _ _ _ h=>h) (Or.inl ⟨by rfl,?_⟩) (by assumption) ?_
   ·intro w' j
    (try dsimp only at j)
    go_simp
    try with_reducible rfl
    all_goals omega
   (try simp only[Act.put,Bv,Bw,By,CN,CO,CP])
   refine wpAnyH_take (i:=3) (v:= .bool false) rfl (by kernel_rfl) (by kernel_rfl) (by kernel_rfl) (fun _ _ _ h=>h) (Or.inl ⟨by rfl,?_⟩) (by assumption) ?_
   ·intro w' j
    (try dsimp only at j)
    obtain⟨_,p5⟩:=j;go_simp
    try with_reducible rfl
    all_goals omega
   (try simp only[Act.put,Bv,Bw,By,CN,CO,CP])
   refine wpAnyH_take (i:=4) (v:= .bool false) rfl (by kernel_rfl) (by kernel_rfl) (by kernel_rfl) (fun _ _ _ h=>h) (Or.inl ⟨by rfl,?_⟩) (by assumption) ?_
   ·intro w' j
    (try dsimp only at j)
    go_simp
    try with_reducible rfl
    all_goals omega
   (try simp only[Act.put,Bv,Bw,By,CN,CO,CP])
   refine wpAnyH_take (i:=5) (v:= .slice A6 i c6) rfl (by kernel_rfl) (by kernel_rfl) (by kernel_rfl) (fun _ _ _ h=>h) (Or.inl ⟨by rfl,?_⟩) (by assumption) ?_
   ·intro w' j
    (try dsimp only at j)
    go_simp
    try with_reducible rfl
    all_goals omega
   (try simp only[Act.put,Bv,Bw,By,CN,CO,CP])
   refine wpAnyH_ready (rs:= [6]) (by kernel_rfl) (by simp) ?_;refine AllReadyH.cons rfl (fun K hK=>?_) AllReadyH.nil
   (first | go_at_call 85 | (go_simp;go_at_call 85));(refine(e4.out _ ‹_›).mono ?_;rintro e w5 ⟨rfl,d3⟩)
   refine hK.out _ _ ?_ (fun t4=>?_)
   ·exact d3
   clear hK K
   (try simp only[Act.put,Bv,Bw,By,CN,CO,CP])
   refine wpAnyH_take (i:=7) (v:= .bool false) rfl (by kernel_rfl) (by kernel_rfl) (by kernel_rfl) (fun _ _ _ h=>h) (Or.inl ⟨by rfl,?_⟩) (by assumption) ?_
   ·intro w' j
    (try dsimp only at j)
    go_simp
    try with_reducible rfl
    all_goals omega
   (try simp only[Act.put,Bv,Bw,By,CN,CO,CP])
   refine wpAnyH_take (i:=8) (v:= .bool false) rfl (by kernel_rfl) (by kernel_rfl) (by kernel_rfl) (fun _ _ _ h=>h) (Or.inl ⟨by rfl,?_⟩) (by assumption) ?_
   ·intro w' j
    (try dsimp only at j)
    go_simp
    try with_reducible rfl
    all_goals omega
   (try simp only[Act.put,Bv,Bw,By,CN,CO,CP])
   refine wpAnyH_take (i:=9) (v:= .bool false) rfl (by kernel_rfl) (by kernel_rfl) (by kernel_rfl) (fun _ _ _ h=>h) (Or.inl ⟨by rfl,?_⟩) (by assumption) ?_
   ·intro w' j
    (try dsimp only at j)
    go_simp
    try with_reducible rfl
    all_goals omega
   (try simp only[Act.put,Bv,Bw,By,CN,CO,CP])
   refine wpAnyH_take (i:=10) (v:= .slice A6 i c6) rfl (by kernel_rfl) (by kernel_rfl) (by kernel_rfl) (fun _ _ _ h=>h) (Or.inl ⟨by rfl,?_⟩) (by assumption) ?_
   ·intro w' j
    (try dsimp only at j)
    go_simp
    try with_reducible rfl
    all_goals omega
   (try simp only[Act.put,Bv,Bw,By,CN,CO,CP])
   refine wpAnyH_take (i:=13) (v:= .slice A n c) rfl (by kernel_rfl) (by kernel_rfl) (by kernel_rfl) (fun _ _ _ h=>h) (Or.inl ⟨by rfl,?_⟩) (by assumption) ?_
   ·intro w' j
    (try dsimp only at j)
    go_simp
    try with_reducible rfl
    all_goals omega
   (try simp only[Act.put,Bv,Bw,By,CN,CO,CP])
   refine wpAnyH_take (i:=14) (v:= .string ⟨bs.toArray⟩) rfl (by kernel_rfl) (by kernel_rfl) (by kernel_rfl) (fun _ _ _ h=>h) (Or.inl ⟨by rfl,?_⟩) (by assumption) ?_
   ·intro w' j
    (try dsimp only at j)
    have i4:=f4 w' j;go_simp
    try with_reducible rfl
    all_goals omega
   (try simp only[Act.put,Bv,Bw,By,CN,CO,CP])
   refine wpAnyH_ready (rs:= [11]) (by kernel_rfl) (by simp) ?_;refine AllReadyH.cons rfl (fun K hK=>?_) AllReadyH.nil
   (first | go_at_call 86 | (go_simp;go_at_call 86));(refine(d2.out _ ‹_›).mono ?_;rintro e w6 ⟨A5,c5,rfl,c4,k1⟩)
   have i4:=CT c4 nb c5 c0.out;refine hK.out _ _ ?_ (fun v4=>?_)
   ·exact k1
   clear hK K
   (try simp only[Act.put,Bv,Bw,By,CN,CO,CP])
   refine wpAnyH_ready (rs:= [12]) (by kernel_rfl) (by simp) ?_;refine AllReadyH.cons rfl (fun K hK=>?_) AllReadyH.nil;go_simp;refine hK.out _ _ ?_ (fun x4=>?_)
   ·exact k1
   clear hK K
   (try simp only[Act.put,Bv,Bw,By,CN,CO,CP])
   refine wpAnyH_take (i:=15) (v:= .bool false) rfl (by kernel_rfl) (by kernel_rfl) (by kernel_rfl) (fun _ _ _ h=>h) (Or.inl ⟨by rfl,?_⟩) (by assumption) ?_
   ·intro w' j
    (try dsimp only at j)
    go_simp
    try with_reducible rfl
    all_goals omega
   (try simp only[Act.put,Bv,Bw,By,CN,CO,CP])
   refine wpAnyH_take (i:=16) (v:= .bool false) rfl (by kernel_rfl) (by kernel_rfl) (by kernel_rfl) (fun _ _ _ h=>h) (Or.inl ⟨by rfl,?_⟩) (by assumption) ?_
   ·intro w' j
    (try dsimp only at j)
    go_simp
    try with_reducible rfl
    all_goals omega
   (try simp only[Act.put,Bv,Bw,By,CN,CO,CP])
   refine wpAnyH_done (by kernel_rfl) ?_ _;have y3:=Aa k1.1;clear d3 k1 j2;go_wp2_with fail;go_ret2;refine⟨w6.heap.size,rfl,⟨A6,c6,?_,?_⟩,(o0.out.trans y3.out).alloc _⟩
   ·rw[<-hm.out];exact Row.new w6 _ _
   ·rw[<-hm.out];exact((Ext.refl w6).alloc _).owns (y3.out.owns H.out)
end
section
open Go.RowKit Go.Maps
def openD (b:List UInt8):Option (List Dc) :=
 if b.take 4 = [76,83,69,71] then
  if (splitF (b.drop 4)).2=0/\(splitF (b.drop 4)).1.length=6 then
   match decDs ((splitF (b.drop 4)).1.headD [])with
   | some P=>if 0<P.length/\segL P=b then some P else none
   | none=>none
  else none
 else none
def SegR (w:World) (g:Nat) (P:List Dc):Prop:=∃(ds:List DocC) (A:Option Addr) (c:Nat) (lo hi fi la:Int) (B:Option Addr) (cB gd gf:Nat),
 Row w g 120 #[.slice A ds.length c,.int .i64 0,.int .i64 0,.int .i64 lo,.int .i64 hi,.int .i64 fi,.int .i64 la,.int .i64 (ds.length:Int),.pointer (some ⟨gd,0,none⟩),.slice B (postB (rowsD P)).length cB,.pointer (some ⟨gf,0,none⟩)] /\
 dcs ds=P/\partD P = [lo,hi,fi,la,(ds.length:Int)]/\DocsOk w A ds/\DicR w gd (enOf 0 (rowsD P))/\In8 w B (postB (rowsD P)).length cB (postB (rowsD P))/\FilR w gf (ofB ((rowsD P).map (·.1)))
def SegRB (base:Nat) (w:World) (g:Nat) (P:List Dc):Prop:=∃(ds:List DocC) (A:Option Addr) (c:Nat) (lo hi fi la:Int) (B:Option Addr) (cB gd gf:Nat),
 Row w g 120 #[.slice A ds.length c,.int .i64 0,.int .i64 0,.int .i64 lo,.int .i64 hi,.int .i64 fi,.int .i64 la,.int .i64 (ds.length:Int),.pointer (some ⟨gd,0,none⟩),.slice B (postB (rowsD P)).length cB,.pointer (some ⟨gf,0,none⟩)] /\
 dcs ds=P/\partD P = [lo,hi,fi,la,(ds.length:Int)]/\DocsOwn w base A c ds/\DicO w base gd (enOf 0 (rowsD P))/\Buf w base 5 B (postB (rowsD P)).length cB ((postB (rowsD P)).map B8)/\FilO w base gf (ofB ((rowsD P).map (·.1)))
theorem SegRB.seg {base:Nat} {P:List Dc} (h:SegRB base w g P):SegR w g P:=by
 obtain⟨ds,A,c,lo,hi,fi,la,B,cB,gd,gf,h1,h2,j,b,a,H,Y⟩:=h;exact⟨ds,A,c,lo,hi,fi,la,B,cB,gd,gf,h1,h2,j,b.ok,a.dic,H.in8,Y.fil⟩
theorem FilO.lower {base b g:Nat} (h:FilO w base g f) (hb:b<=base):FilO w b g f:=by
 obtain⟨b1,c,cur,a,h1,j,h2⟩:=h;exact⟨b1,c,cur,a,Nat.le_trans hb h1,j,h2⟩
theorem DicO.lower {base b g:Nat} {l:List En} (h:DicO w base g l) (hb:b<=base):DicO w b g l:=by
 obtain⟨A,c,h1,h2⟩:=h;exact⟨A,c,h1,AD h2 hb⟩
def SegOB (w:World) (b:List UInt8) (e:Ending) (w':World):Prop:=Ext w w'/\match openD b with
 | some P=>∃g,e = .returned (.tuple #[.pointer (some ⟨g,0,none⟩),.int .i64 0])/\SegRB w.heap.size w' g P
 | none=>e = .returned (.tuple #[.pointer none,.int .i64 130])
theorem SegOB.no {b:List UInt8} (j:Ext w w') (h:openD b=none):SegOB w b (.returned (.tuple #[.pointer none,.int .i64 130])) w':=by
 refine⟨j,?_⟩;rw[h]
def SegO (w:World) (b:List UInt8) (e:Ending) (w':World):Prop:=Ext w w'/\match openD b with
 | some P=>∃g,e = .returned (.tuple #[.pointer (some ⟨g,0,none⟩),.int .i64 0])/\SegR w' g P
 | none=>e = .returned (.tuple #[.pointer none,.int .i64 130])
theorem SegO.no {b:List UInt8} (j:Ext w w') (h:openD b=none):SegO w b (.returned (.tuple #[.pointer none,.int .i64 130])) w':=by
 refine⟨j,?_⟩;rw[h]
theorem Ik {p:Addr} (h:Cells w A xs) (j:w.cell? p=some u0) (b:∀v∈xs,v≠u0) (u:Value):Cells (w.setCell p u) A xs:=by
 rcases h with h | ⟨g,o,H,Y⟩
 ·exact .inl h
 ·refine .inr ⟨g,o,H,fun i v a=>?_⟩;have h1:=Y i v a;rw[World.cell?_setCell_other w p _ u (fun e=>by
   rw[e]at j;rw[h1]at j;injection j with j;exact b v (List.mem_of_getElem? a) j)]
  exact h1
theorem Ly (l:List En):∀v∈encells l,v≠Value.pointer none:=fun v j e=>by
 unfold encells at j;obtain⟨x,_,h⟩:=List.mem_flatMap.1 j;unfold En.cells at h;simp only[List.mem_cons,List.not_mem_nil,or_false]at h;rcases h with rfl | rfl | rfl | rfl <;> cases e
theorem DicR.set {l:List En} (h:DicR w gd l) (j:Row w g 120 cs) (hi:cs[i]? = some (.pointer none)) (u:Value):DicR (w.setCell ⟨g,i,none⟩ u) gd l:=by
 obtain⟨A,c,h1,h2⟩:=h;exact⟨A,c,h1.away (h1.unlike j (by decide)) u,Ik h2 (j.cell i hi) (Ly l) u⟩
theorem FilO.set {b gf g i:Nat} (h:FilO w b gf f) (j:Row w g 120 cs) (u:Value):FilO (w.setCell ⟨g,i,none⟩ u) b gf f:=by
 obtain⟨b1,c,cur,h1,hb,h2,a,H,Y⟩:=h;exact⟨b1,c,cur,h1.away (h1.unlike j (by decide)) u,hb,h2.away (h2.unlike j (by decide)) u,a,H,Y⟩
theorem EV {ds:List DocC} (h:DocsOk w A ds) (U:m=ds.length) (T:0<m) (hs:SmP (dcs ds)):∀p∈framesD (dcs ds),p.length<=16777216:=by
 have b:=hs.seg;have O:(vall (partD (dcs ds))).length<=16777216:=by
  obtain⟨x0,a⟩:∃x,ds[0]? = some x:=⟨_,List.getElem?_eq_getElem (by omega)⟩
  obtain⟨xl,H⟩:∃x,ds[m - 1]? = some x:=⟨_,List.getElem?_eq_getElem (by omega)⟩
  have h1:=C7 U a H;have j:∀d∈dcs ds,I64ok' d.2.at_:=fun d hd=>by
   unfold dcs at hd;obtain⟨x,Y,rfl⟩:=List.mem_map.1 hd;exact(h.each x Y).2.1
  have q0:=(h.each x0 (List.mem_of_getElem? a)).2;have ql:=(h.each xl (List.mem_of_getElem? H)).2;have hn:m<=65536:=by
   have:=b.n;unfold dcs at this;rw[List.length_map]at this;omega
  rw[h1];have q1:=E5 (dcs ds) _ q0.1 j;have q2:=Ea (dcs ds) _ q0.1 j;have q5:I64ok' (m:Int):=by unfold I64ok';omega
  have h2:=De [lowD x0.e.at_ (dcs ds),highD x0.e.at_ (dcs ds),x0.seq,xl.seq,(m:Int)] (fun x Y=>by
   simp only[List.mem_cons,List.not_mem_nil,or_false]at Y;rcases Y with rfl | rfl | rfl | rfl | rfl
   ·exact q1
   ·exact q2
   ·exact q0.2
   ·exact ql.2
   ·exact q5) 5
  exact Nat.le_trans h2 (by decide)
 intro p J;unfold framesD at J;simp only[List.mem_cons,List.not_mem_nil,or_false]at J;rcases J with rfl | rfl | rfl | rfl | rfl | rfl
 ·exact b.docs
 ·exact b.times
 ·exact Nat.le_trans b.posts (by decide)
 ·exact b.dic
 ·exact Nat.le_trans b.bits.2 (by decide)
 ·exact O
theorem Ff (A:Option Addr) (n c:Nat) (b:List UInt8) (w:World) (h:In8 w A n c b) (d7:n<=1000000000) (j2:∀P,(splitF (b.drop 4)).2=0->decDs ((splitF (b.drop 4)).1.headD [])=some P->(blockD 0 P).length<=70000) :
 Calls prog 24 #[.slice A n c] w fun e w'=>SegOB w b e w':=by
 have m4:=h.len;obtain⟨k4,a4⟩:∃k:Nat,(k:Int)=min (n:Int) 4:=⟨min n 4,by omega⟩
 have p6:k4<=n:=by omega
 have g7:=fun(W:World)=>AQ (P:=prog) #[3,3] 3 a4 W;obtain⟨f7,h4⟩:=h.headk .i64 p6 (z:=(k4:Int)) rfl;have g4:=fun(W:World) (hE:Ext w W)=>CT (A:=A) (l:=b.take k4) (w:=W) (h4.bytes.ext hE) k4 c h4.len;have q5:b.take k4=b.take 4:=by
  by_cases j6:4<=n
  ·have:k4=4:=by omega
   rw[this]
  ·have:k4=n:=by omega
   rw[this,List.take_of_length_le (by omega),List.take_of_length_le (by omega)]
 have h6:=Tryz.strings_HasPrefix ⟨(b.take k4).toArray⟩ ⟨#[76,83,69,71]⟩ w;obtain⟨hp,q1⟩:=Ab (Lib.hasPrefix (b.take 4) [76,83,69,71]);have r0:Calls prog 52 #[.string ⟨(b.take k4).toArray⟩,.string ⟨#[76,83,69,71]⟩] w fun e w'=>e = .returned (.bool hp)/\w'=w:=by
  rw[q1,<-q5];simpa using h6
 have j1:hp=true↔b.take 4 = [76,83,69,71]:=by
  rw[q1];unfold Lib.hasPrefix;rw[List.isPrefixOf_iff_prefix];constructor
  ·intro v6;exact(v6.eq_of_length_le (by rw[List.length_take];simp;omega)).symm
  ·intro e;rw[e];exact List.prefix_refl _
 have q7:=g4 w (Ext.refl w);replace r0:=Aa r0;replace h:=Aa h;replace j2:=Aa j2;clear h6 g4 h4;have e5:=Aa m4;replace a4:=Aa a4;replace q1:=Aa q1;replace q5:=Aa q5;by_cases e4:hp=true
 ·have m1:=j1.1 e4;subst e4;have j6:4<=n:=by
   have:=congrArg List.length m1;rw[List.length_take]at this;simp at this;omega
  obtain⟨A4,c4,i6,q3⟩:=h.out.from_ (fr:=4) j6 (z:=4) rfl;have y3:=OC A4 (n - 4) c4 (b.drop 4) w q3 (by omega);clear m4;replace y3:=Aa y3;replace q3:=Aa q3;replace m1:=Aa m1;replace j1:=Aa j1
  go_in
  go_wp2_with fail;refine r0.out.mono ?_;rintro e w1 ⟨rfl,rfl⟩;go_wp2_with fail;refine y3.out.mono ?_;rintro e w2 ⟨L,cL,z,ps,rfl,t4,q2,o1,T⟩;have Y:openD b=if (splitF (b.drop 4)).2=0/\ps.length=6 then (match decDs ((pays ps).headD [])with | some P=>if 0<P.length/\segL P=b then some P else none | none=>none) else none:=by
   unfold openD;rw[if_pos m1.out,<-q2];have:(pays ps).length=ps.length:=List.length_map ..;rw[this]
  have v0:=j2.out;rw[<-q2]at v0;obtain⟨sc,h5⟩:=Ab ((splitF (b.drop 4)).2);rw[<-h5]at Y v0 ⊢;have t0:∀p∈pays ps,p.length<=16777216:=fun p hp=>by rw[q2]at hp;exact(Fl hp).1
  replace h5:=Aa h5;replace v0:=Aa v0;replace t0:=Aa t0;obtain⟨np,r3⟩:=Ab ps.length;rw[<-r3]at Y ⊢;replace r3:=Aa r3;replace t4:=Aa t4;replace q2:=Aa q2;replace o1:=Aa o1;by_cases t3:sc=0
  ·by_cases g6:np=6
   ·subst t3;subst g6;rw[if_pos ⟨rfl,rfl⟩]at Y;obtain⟨⟨A0,k0,b0,z0⟩,⟨A1,k1,b1,z1⟩,⟨A2,k2,b2,z2⟩,⟨A3,k3,b3,z3⟩,⟨A4',k4',b4,z4⟩,⟨A5,k5,b5,z5⟩,x6⟩:∃p0 p1 p2 p3 p4 p5:Pay,ps = [p0,p1,p2,p3,p4,p5]:=by
     have:=r3.out
     match ps,this with
     | [p0,p1,p2,p3,p4,p5],_=>exact⟨p0,p1,p2,p3,p4,p5,rfl⟩
    subst x6;obtain⟨gl,ol,hL,a2⟩:=t4.out.at_ (by simp);subst hL;have l0:=a2 0 (.slice A0 b0.length k0) rfl;have l2:=a2 2 (.slice A2 b2.length k2) rfl;have l3:=a2 3 (.slice A3 b3.length k3) rfl;have l4:=a2 4 (.slice A4' b4.length k4') rfl;rw[Nat.add_zero]at l0;have r4:(pays [(A0,k0,b0,z0),(A1,k1,b1,z1),(A2,k2,b2,z2),(A3,k3,b3,z3),(A4',k4',b4,z4),(A5,k5,b5,z5)]).headD []=b0:=rfl;rw[r4]at Y;have j4:=fun P hP=>v0.out P rfl (by rw[r4];exact hP);have q6:In8 w2 A0 b0.length k0 b0:=by obtain⟨bb,hb⟩:=o1.out (A0,k0,b0,z0) (by simp);exact hb.in8
    have l6:=t0.out b0 (by simp[pays]);have j0:=JA A0 b0.length k0 b0 w2 q6 (by omega);obtain⟨D,hD⟩:=Ab (decDs b0);have o0:=fun P (h:decDs b0=some P)=>Iq h;rw[<-hD]at j0 Y o0;have x3:∀P,D=some P->(blockD 0 P).length<=70000:=fun P hP=>j4 P (by rw[<-hD];exact hP);obtain⟨n0,i4⟩:=Ab b0.length;rw[<-i4]at j0 l0;replace hD:=Aa hD;replace o0:=Aa o0;replace j0:=Aa j0;replace Y:=Aa Y;replace x3:=Aa x3;replace i4:=Aa i4;clear a2 j4 q6 l6 r4;go_wp2_with fail;refine j0.out.mono ?_;rintro e w3 ⟨h0,a1⟩;cases D with
    | none =>
     simp only at a1;subst a1;have j:openD b=none:=Y.out;replace j:=Aa j;go_wp2_with fail;go_ret2;exact SegOB.no (T.trans h0) j.out
    | some P =>
     simp only at a1;obtain⟨ds,Ad,cd,e1,rfl,y1⟩:=a1;obtain⟨m6,b7⟩:=o0.out P rfl;have z6:=x3.out P rfl;have a5:P.length=ds.length:=by rw[<-e1];exact List.length_map ..
     have i2:=y1.ok;have Z:=y1.cap;have i0:=T.trans h0;have U:openD b=if 0<P.length/\segL P=b then some P else none:=Y.out;obtain⟨m,hm⟩:=Ab ds.length;rw[<-hm]at Z a5 ⊢;rw[a5]at U;by_cases n6:m=0
     ·have j:openD b=none:=by rw[U,if_neg (fun e=>by omega)]
      subst n6;have m0:=Fe ds Ad 0 cd w3 hm i2 Z.2 Z.1 (by omega) (.inr rfl);replace m0:=Aa m0;replace j:=Aa j;replace hm:=Aa hm;clear U Z y1 i2;go_wp2_with fail;refine m0.out.mono ?_;rintro e w4 ⟨rfl,H⟩;go_wp2_with fail;go_ret2;exact SegOB.no (i0.trans H) j.out
     ·have j2:SmP (dcs ds):=by rw[e1];exact⟨m6,z6⟩
      have m0:=CY ds Ad m cd w3 hm i2 Z.2 Z.1 j2 (by omega);rw[e1]at m0;have hB:=(SmP.mk m6 z6).seg;replace m0:=Aa m0;replace hm:=Aa hm;replace U:=Aa U;replace hB:=Aa hB;go_wp2_with fail;refine m0.out.mono ?_;rintro e w4 ⟨A9,c9,rfl,y5,H⟩;obtain⟨n9,o3⟩:=Ab ((segL P).length);rw[<-o3]at y5 ⊢;have y6:=CT (A:=A9) (l:=segL P) (w:=w4) y5.2.cells n9 c9 o3;have x7:=CT (A:=A) (l:=b) (w:=w4) ((h.out.ext (i0.trans H)).bytes) n c e5.out;replace o3:=Aa o3;by_cases o2:segL P=b
      ·rw[o2]at y6;have k7:=i0.trans H;have a3:openD b=some P:=by rw[U.out,if_pos ⟨by omega,o2⟩]
       obtain⟨x0,j5⟩:∃x,ds[0]? = some x:=⟨_,List.getElem?_eq_getElem (by have:=hm.out;omega)⟩
       obtain⟨xl,g5⟩:∃x,ds[m - 1]? = some x:=⟨_,List.getElem?_eq_getElem (by have:=hm.out;omega)⟩
       have m3:=C7 hm.out j5 g5;obtain⟨lo,d4⟩:∃z,z=lowD x0.e.at_ (dcs ds):=⟨_,rfl⟩
       obtain⟨h3,y4⟩:∃z,z=highD x0.e.at_ (dcs ds):=⟨_,rfl⟩
       rw[<-d4,<-y4]at m3;have w6:m<=1000000:=by have:=hB.out.n;omega
       have O:=fun X (hx:Ext w4 X)=>K4 ds Ad m cd X hm.out (i2.ext (H.trans hx)) w6 (by omega);rw[m3]at O;have t6:prtA [lo,h3,x0.seq,xl.seq,(m:Int)]=#[.int .i64 0,.int .i64 0,.int .i64 lo,.int .i64 h3,.int .i64 x0.seq,.int .i64 xl.seq,.int .i64 (m:Int)]:=rfl;rw[t6]at O;obtain⟨bb2,c5⟩:=o1.out (A2,k2,b2,z2) (by simp);simp only at c5;have x2:=c5.ext (h0.trans H);have k6:=t0.out b2 (by simp[pays]);obtain⟨n2,j3⟩:=Ab b2.length;rw[<-j3]at x2 l2 k6;have I:=fun X (hx:Ext w4 X)=>Cr A2 n2 k2 b2 X j3 (x2.ext hx).cells (MN x2) (by omega);have lx2:=(h0.trans H).cell l2;replace m3:=Aa m3;replace d4:=Aa d4;replace y4:=Aa y4;replace j5:=Aa j5;replace g5:=Aa g5;replace O:=Aa O;replace I:=Aa I;replace j3:=Aa j3;replace a3:=Aa a3;clear t6;go_upto_region 12 with fail
       go_cut [10] (fun s10 wy=>∃g BC cC,s10 = .pointer (some ⟨g,0,none⟩)/\Hid (Row wy g 120 #[.slice Ad m cd,.int .i64 0,.int .i64 0,.int .i64 lo,.int .i64 h3,.int .i64 x0.seq,.int .i64 xl.seq,.int .i64 (m:Int),.pointer none,.slice BC n2 cC,.pointer none])/\Hid (Buf wy w4.heap.size 5 BC n2 cC (b2.map B8))/\Hid (Ext w4 wy)/\w4.heap.size<=g)
       case first =>
        have hX:Hid (Ext w4 w4):=Aa (Ext.refl w4)
        go_region_held3 (fun x=>x.cell? ⟨gl,ol+2,none⟩=some (.slice A2 n2 k2))
         (exact(hX.out.trans (by(first | with_reducible exact Ext.refl _ | with_reducible exact Ext.drew (Ext.refl _) | with_reducible exact Ext.alloc (Ext.refl _) _ | with_reducible exact Ext.drew (Ext.alloc (Ext.refl _) _) | with_reducible exact Ext.alloc (Ext.drew (Ext.refl _)) _ | with_reducible exact Ext.alloc (Ext.alloc (Ext.refl _) _) _ | with_reducible exact Ext.drew (Ext.alloc (Ext.alloc (Ext.refl _) _) _)))).cell lx2)
         (first
         | (go_at_call 46;refine(O.out _ (hX.out.trans (by(first | with_reducible exact Ext.refl _ | with_reducible exact Ext.drew (Ext.refl _) | with_reducible exact Ext.alloc (Ext.refl _) _ | with_reducible exact Ext.drew (Ext.alloc (Ext.refl _) _) | with_reducible exact Ext.alloc (Ext.drew (Ext.refl _)) _ | with_reducible exact Ext.alloc (Ext.alloc (Ext.refl _) _) _ | with_reducible exact Ext.drew (Ext.alloc (Ext.alloc (Ext.refl _) _) _))))).mono ?_;rintro e w9 ⟨rfl,d1⟩;(try replace y0:=Aa (y0.out.ext (Ext.trans (by(first | with_reducible exact Ext.refl _ | with_reducible exact Ext.drew (Ext.refl _) | with_reducible exact Ext.alloc (Ext.refl _) _ | with_reducible exact Ext.drew (Ext.alloc (Ext.refl _) _) | with_reducible exact Ext.alloc (Ext.drew (Ext.refl _)) _ | with_reducible exact Ext.alloc (Ext.alloc (Ext.refl _) _) _ | with_reducible exact Ext.drew (Ext.alloc (Ext.alloc (Ext.refl _) _) _))) d1)));replace hX:=Aa (hX.out.trans (Ext.trans (by(first | with_reducible exact Ext.refl _ | with_reducible exact Ext.drew (Ext.refl _) | with_reducible exact Ext.alloc (Ext.refl _) _ | with_reducible exact Ext.drew (Ext.alloc (Ext.refl _) _) | with_reducible exact Ext.alloc (Ext.drew (Ext.refl _)) _ | with_reducible exact Ext.alloc (Ext.alloc (Ext.refl _) _) _ | with_reducible exact Ext.drew (Ext.alloc (Ext.alloc (Ext.refl _) _) _))) d1));clear d1)
         | (go_at_call 55;refine(I.out _ (hX.out.trans (by(first | with_reducible exact Ext.refl _ | with_reducible exact Ext.drew (Ext.refl _) | with_reducible exact Ext.alloc (Ext.refl _) _ | with_reducible exact Ext.drew (Ext.alloc (Ext.refl _) _) | with_reducible exact Ext.alloc (Ext.drew (Ext.refl _)) _ | with_reducible exact Ext.alloc (Ext.alloc (Ext.refl _) _) _ | with_reducible exact Ext.drew (Ext.alloc (Ext.alloc (Ext.refl _) _) _))))).mono ?_;rintro e w9 ⟨BC,cC,rfl,y0,d1⟩;have y0:=Aa (y0.lower (hX.out.trans (by(first | with_reducible exact Ext.refl _ | with_reducible exact Ext.drew (Ext.refl _) | with_reducible exact Ext.alloc (Ext.refl _) _ | with_reducible exact Ext.drew (Ext.alloc (Ext.refl _) _) | with_reducible exact Ext.alloc (Ext.drew (Ext.refl _)) _ | with_reducible exact Ext.alloc (Ext.alloc (Ext.refl _) _) _ | with_reducible exact Ext.drew (Ext.alloc (Ext.alloc (Ext.refl _) _) _)))).size);replace hX:=Aa (hX.out.trans (Ext.trans (by(first | with_reducible exact Ext.refl _ | with_reducible exact Ext.drew (Ext.refl _) | with_reducible exact Ext.alloc (Ext.refl _) _ | with_reducible exact Ext.drew (Ext.alloc (Ext.refl _) _) | with_reducible exact Ext.alloc (Ext.drew (Ext.refl _)) _ | with_reducible exact Ext.alloc (Ext.alloc (Ext.refl _) _) _ | with_reducible exact Ext.drew (Ext.alloc (Ext.alloc (Ext.refl _) _) _))) d1));clear d1))
        all_goals (go_wp2_with fail)
        all_goals go_meet
        all_goals (case rel=>exact⟨_,_,_,rfl,Aa (Row.new _ _ _),Aa (y0.out.ext ((Ext.refl _).alloc _)),Aa (hX.out.trans ((Ext.refl _).alloc _)),hX.out.size⟩)
       case rest =>
        obtain⟨g,BC,cC,rfl,h7,y0,x5,x4⟩:=hcut;have J : [b0,b1,b2,b3,b4,b5]=framesD P:=by
         have h1:=q2.out;rw[<-o2]at h1;have h2:(segL P).drop 4=joinL (framesD P):=rfl;rw[h2,CW _ (by rw[<-e1];exact EV i2 hm.out (by omega) j2)]at h1;exact h1
        unfold framesD at J;injection J with f0 J;injection J with f1 J;injection J with f2 J;injection J with f3 J;injection J with f4 J;have e0:=(h0.trans H).trans x5.out;have lx3:=e0.cell l3;obtain⟨bb3,e3⟩:=o1.out (A3,k3,b3,z3) (by simp);obtain⟨bb4,i3⟩:=o1.out (A4',k4',b4,z4) (by simp);simp only at e3 i3;have j7:gl<w4.heap.size:=by
         have h1:=World.block_lt_of_cell? w2 _ l3;have h2:=(h0.trans H).size;simp only at h1;omega
        have c7:b3.length<=16777216:=t0.out b3 (by simp[pays]);have x1:=Ls A3 b3.length k3 b3 wc (enOf 0 (rowsD P)) (e3.ext e0).in8 hB.out.ens f3 (by omega);have y2:8<=b4.length/\b4.length<=131072:=by rw[f4];exact hB.out.bits
        obtain⟨n3,o4⟩:=Ab b3.length;obtain⟨n4,G⟩:=Ab b4.length;rw[<-o4]at lx3 x1;have lx4:=e0.cell l4;rw[<-G]at lx4 y2;replace o4:=Aa o4;replace G:=Aa G;replace x1:=Aa x1;replace e0:=Aa e0;replace f2:=Aa f2;replace f3:=Aa f3;replace f4:=Aa f4;replace i3:=Aa i3;replace e3:=Aa e3;clear f0 f1 J l0 l2 l3 l4 lx2;go_wp2_with fail;refine x1.out.mono ?_;rintro e w5 ⟨gd,rfl,d2,c0⟩;have r1:=h7.out.ext c0;have y8:=r1.cell 8 rfl;have z8:=r1.free 8;have lx45:=c0.cell lx4;have e7:gl≠g:=by omega
        have t7:g≠gl:=by omega
        replace d2:=Aa d2;replace r1:=Aa r1;replace c0:=Aa c0;clear lx3 lx4;go_wp2_with fail;obtain⟨W6,q0⟩:=Ab (w5.setCell ⟨g,8,none⟩ (.pointer (some ⟨gd,0,none⟩)));rw[<-q0];have o5:w2.heap.size<=g:=Nat.le_trans (h0.trans H).size x4;have m2:Ext w2 W6:=by rw[q0];exact(e0.out.trans c0.out).setCell (p:=⟨g,8,none⟩) o5 _
        have v5:Ext w3 W6:=by rw[q0];exact((H.trans x5.out).trans c0.out).setCell (p:=⟨g,8,none⟩) (Nat.le_trans H.size x4) _
        have r6:Row W6 g 120 #[.slice Ad m cd,.int .i64 0,.int .i64 0,.int .i64 lo,.int .i64 h3,.int .i64 x0.seq,.int .i64 xl.seq,.int .i64 (m:Int),.pointer (some ⟨gd,0,none⟩),.slice BC n2 cC,.pointer none]:=by rw[q0];exact r1.out.put 8 _
        have e6:=Aa (show DicO W6 wc.heap.size gd (enOf 0 (rowsD P))by rw[q0];exact d2.out.chg (Chg.of_set (S:=fun q=>q=g) w5 _ rfl) (fun q e=>by subst e;exact⟨_,_,r1.out,by decide,by decide⟩));have d5:=y0.out.ext c0.out;have d6:Buf W6 w4.heap.size 5 BC n2 cC (b2.map B8):=by rw[q0];exact d5.setCell (d5.unlike r1.out (by decide)) _
        have g0:=NO A4' b4.length k4' b4 W6 (i3.out.ext m2).in8 (by rw[<-G.out];exact y2.1) (by rw[<-G.out];exact y2.2);rw[<-G.out]at g0;replace g0:=Aa g0;replace q0:=Aa q0;refine g0.out.mono ?_;rintro e w7 ⟨gf,rfl,_,v4,d0⟩;have r7:=r6.ext d0;have y10:=r7.cell 10 rfl;have z10:=r7.free 10;replace v4:=Aa v4;replace r7:=Aa r7;replace d0:=Aa d0;clear r1 r6 g0 y8 z8 lx45;go_wp2_with fail;go_ret2;have r5:=Nat.le_trans T.size o5;have r8:=r7.out.put 10 (.pointer (some ⟨gf,0,none⟩));have f5:=d6.ext d0.out;have i5:=f5.setCell (p:=⟨g,10,none⟩) (f5.unlike r7.out (by decide)) (.pointer (some ⟨gf,0,none⟩));have f6:=(e6.out.ext d0.out).chg (Chg.of_set (S:=fun q=>q=g) w7 (a:=⟨g,10,none⟩) (.pointer (some ⟨gf,0,none⟩)) rfl) (fun q e=>by subst e;exact⟨_,_,r7.out,by decide,by decide⟩);have n5:=v4.out.set r7.out (i:=10) (.pointer (some ⟨gf,0,none⟩));have l5:=y1.ext ((v5.trans d0.out).setCell (p:=⟨g,10,none⟩) (Nat.le_trans H.size x4) (.pointer (some ⟨gf,0,none⟩)));refine⟨(T.trans (m2.trans d0.out)).setCell (p:=⟨g,10,none⟩) r5 _,?_⟩;rw[a3.out];have o6:=hm.out;have q4:n2=(postB (rowsD P)).length:=by rw[j3.out,f2.out]
        rw[q4,f2.out]at i5;rw[f4.out]at n5;subst o6;rw[q4]at r8;refine⟨g,rfl,ds,Ad,cd,lo,h3,x0.seq,xl.seq,BC,cC,gd,gf,r8,e1,by rw[<-e1];exact m3.out,l5.lower T.size,f6.lower ?b1,i5.lower ?b2,n5.lower ?b3⟩
        ·exact Nat.le_trans T.size e0.out.size
        ·exact Nat.le_trans T.size (h0.trans H).size
        ·exact Nat.le_trans T.size m2.size
      ·have j:openD b=none:=by rw[U.out,if_neg (fun e=>o2 e.2)]
       have a7:(segL P==b)=false:=beq_eq_false_iff_ne.2 o2;replace j:=Aa j;go_wp2_with fail;go_ret2;exact SegOB.no (i0.trans H) j.out
   ·have j:openD b=none:=by rw[Y,if_neg (fun e=>g6 e.2)]
    have m7:((np:Int)==6)=false:=by simp;omega
    subst t3;replace j:=Aa j;clear Y;go_wp2_with fail;go_ret2;exact SegOB.no T j.out
  ·have j:openD b=none:=by rw[Y,if_neg (fun e=>t3 e.1)]
   have v7:((sc:Int)==0)=false:=by simp;omega
   replace j:=Aa j;clear Y;go_wp2_with fail;go_ret2;exact SegOB.no T j.out
 ·have j:openD b=none:=by
   unfold openD;rw[if_neg (fun e=>e4 (j1.2 e))]
  replace j:=Aa j;clear m4
  go_in
  go_wp2_with fail;refine r0.out.mono ?_;rintro e w1 ⟨rfl,rfl⟩;go_wp2_with fail;go_ret2;exact SegOB.no (Ext.refl _) j.out
theorem KW (A:Option Addr) (n c:Nat) (b:List UInt8) (w:World) (h:In8 w A n c b) (a:n<=1000000000) (H:∀P,(splitF (b.drop 4)).2=0->decDs ((splitF (b.drop 4)).1.headD [])=some P->(blockD 0 P).length<=70000) :
 Calls prog 24 #[.slice A n c] w fun e w'=>SegO w b e w' :=
 (Ff A n c b w h a H).mono fun e w' j=>by
  obtain⟨Y,j⟩:=j;refine⟨Y,?_⟩;split at j
  ·obtain⟨g,h1,h2⟩:=j;exact⟨g,h1,h2.seg⟩
  ·exact j
end
section
open Go.RowKit
theorem O8 (g:Nat) (l:List En) (w:World) (h:DicR w g l):Calls prog 184 #[.pointer (some ⟨g,0,none⟩)] w fun e w'=>e = .returned (.bool false)/\w'=w:=by
 obtain⟨A,c,j,_⟩:=h;have k1:=j.cell 1 rfl;replace j:=Aa j
 go_in
 go_wp2_with fail;go_ret;exact⟨rfl,rfl⟩
theorem EQ (g:Nat) (l:List En) (w:World) (h:DicR w g l):Calls prog 149 #[.pointer (some ⟨g,0,none⟩)] w fun e w'=>e = .returned (.int .i64 (l.length:Int))/\w'=w:=by
 have j:=Aa (O8 g l w h);obtain⟨A,c,b,_⟩:=h;have k0:=b.cell 0 rfl;obtain⟨n,hn⟩:=Ab l.length;rw[<-hn]at k0 ⊢;replace hn:=Aa hn;replace b:=Aa b
 go_in
 go_wp2_with fail;refine j.out.mono ?_;rintro e w1 ⟨rfl,a⟩;obtain rfl:=a.symm;go_wp2_with fail;go_ret;exact⟨rfl,rfl⟩
def SeaP (n:Nat) (p:Nat->Bool) (w:World) (e:Ending) (w':World):Prop:=∃k:Nat,e = .returned (.int .i64 (k:Int))/\k<=n/\(∀i,i<k->p i=false)/\(∀i,k<=i->i<n->p i=true)/\Ext w w'
theorem Mr (n cf:Nat) (c1 c2:Value) (p:Nat->Bool) (w:World) (hn:n<=1000000000) (h0:cf=151)
 (Y:∀W i,Ext w W->i<n->Calls prog cf #[.int .i64 (i:Int),c1,c2] W fun e W'=>e = .returned (.bool (p i))/\Ext W W') (H:∀i j,i<=j->j<n->p i=true->p j=true) :
 Calls prog 150 #[.int .i64 (n:Int),.func (.func cf) #[] #[c1,c2]] w fun e w'=>SeaP n p w e w':=by
 subst h0;replace Y:=Aa Y;replace H:=Aa H
 go_in
 go_wp2_with fail
 go_loopw [5,6] (fun s5 s6 wr=>∃i j:Nat,s5 = .int .i64 (i:Int)/\s6 = .int .i64 (j:Int)/\i<=j/\j<=n/\Hid (∀k,k<i->p k=false)/\Hid (∀k,j<=k->k<n->p k=true)/\Hid (Ext w wr)) (fun s5 s6 _=>(intOf s6).toNat - (intOf s5).toNat)
 case atStart=>exact⟨0,n,rfl,rfl,by omega,by omega,Aa (fun k hk=>by omega),Aa (fun k h1 h2=>by omega),Aa (Ext.refl w)⟩
 case round =>
  obtain⟨i,j,rfl,rfl,v0,U,O,J,G⟩:=hrel;by_cases x0:i<j
  ·obtain⟨m,hm⟩:=Ab ((i+j) / 2);have him:i<=m:=by omega
   have y0:m<j:=by omega
   have I:=Aa (Y.out wr m G.out (by omega));obtain⟨v,Z⟩:=Ab (p m);rw[<-Z]at I;obtain⟨sm,T⟩:=Ab (i+j);have j0:(i:Int)+(j:Int)=(sm:Int):=by omega
   have m0:sm<=2000000000:=by omega
   have b0:IntKind.u64.wrap (sm:Int)=(sm:Int):=AH (by omega);have t0:(sm:Int) / 2=(m:Int):=by omega
   have b:v=false->∀k,k<m+1->p k=false:=fun p0 k hk=>by
    cases q0:p k with
    | false=>rfl
    | true =>
     have:=H.out k m (by omega) (by omega) q0;rw[<-Z,p0]at this;cases this
   have h:v=true->∀k,m<=k->k<n->p k=true:=fun k0 k h1 h2=>H.out m k h1 h2 (by rw[<-Z,k0]);replace hm:=Aa hm;replace Z:=Aa Z;replace T:=Aa T;replace b:=Aa b;replace h:=Aa h;cases v with
   | false =>
    replace b:=Aa (b.out rfl);go_wp2_with fail;refine I.out.mono ?_;rintro e w3 ⟨rfl,a⟩;replace a:=Aa (G.out.trans a);go_wp2_with fail;exact⟨⟨m+1,j,by congr 1,rfl,by omega,U,b,J,a⟩,by simp only[intOf];omega⟩
   | true =>
    replace h:=Aa (h.out rfl);go_wp2_with fail;refine I.out.mono ?_;rintro e w3 ⟨rfl,a⟩;replace a:=Aa (G.out.trans a);go_wp2_with fail;exact⟨⟨i,m,rfl,rfl,him,by omega,O,h,a⟩,by simp only[intOf];omega⟩
  ·obtain rfl:i=j:=by omega
   go_wp2_with fail;go_ret;exact⟨i,rfl,U,O.out,J.out,G.out⟩
structure FloP (l:List En) (t:List UInt8) (k:Nat):Prop where
  le:k<=l.length
  iff:∀i x,l[i]? = some x->(i<k↔x.t<t)
def FloR (l:List En) (t:List UInt8) (w:World) (e:Ending) (w':World):Prop:=∃k:Nat,e = .returned (.int .i64 (k:Int))/\FloP l t k/\Ext w w'
theorem LE (i g b1 b2:Nat) (l:List En) (t:List UInt8) (x:En) (w:World) (h:DicR w g l) (h1:Row w b1 116 #[.pointer (some ⟨g,0,none⟩)]) (h2:Row w b2 9 #[.string ⟨t.toArray⟩]) (j:l[i]? = some x) (J:l.length<=1000000000) :
 Calls prog 151 #[.int .i64 (i:Int),.pointer (some ⟨b1,0,none⟩),.pointer (some ⟨b2,0,none⟩)] w fun e w'=>e = .returned (.bool (!decide (x.t<t)))/\Ext w w':=by
 obtain⟨A,c,H,b⟩:=h;obtain⟨ga,o,rfl,x0,_⟩:=AX b j;have a:=(List.getElem?_eq_some_iff.1 j).1;have k0:=H.cell 0 rfl;have k1:=h1.cell 0 rfl;have k2:=h2.cell 0 rfl;obtain⟨n,hn⟩:=Ab l.length;rw[<-hn]at k0 a J;have hb:=Bm x.t t;obtain⟨v,Y⟩:=Ab (decide (x.t<t));rw[<-Y]at hb ⊢;obtain⟨s,hs⟩:=Ab x.t;rw[<-hs]at hb x0;replace hn:=Aa hn;replace Y:=Aa Y;replace hs:=Aa hs;replace H:=Aa H;replace h1:=Aa h1;replace h2:=Aa h2;replace j:=Aa j;replace b:=Aa b
 go_in
 go_wp2_with fail;refine AE (fun K U=>?_);go_wp2_with fail;refine⟨by kernel_rfl,?_⟩;go_wp2_with fail;go_ret;exact⟨rfl,(Ext.refl w).drew⟩
theorem Iw (g : Nat) (l : List En) (t : List UInt8) (w : World) (h : DicR w g l) (U : OkEs l) :
    Calls prog 100 #[.pointer (some ⟨g, 0, none⟩), .string ⟨t.toArray⟩] w fun e w' => FloR l t w e w' := by
  obtain ⟨W2, b⟩ := Ab ((w.alloc (.cells #[.pointer (some ⟨g, 0, none⟩)] 116)).alloc (.cells #[.string ⟨t.toArray⟩] 9))
  obtain ⟨b1, a⟩ := Ab w.heap.size
  have r1 : Row W2 b1 116 #[.pointer (some ⟨g, 0, none⟩)] := by rw [b, a]; exact (Row.new w _ _).alloc _
  have r2 : Row W2 (b1 + 1) 9 #[.string ⟨t.toArray⟩] := by
    have := Row.new (w.alloc (.cells #[.pointer (some ⟨g, 0, none⟩)] 116)) 9 #[.string ⟨t.toArray⟩]
    rw [World.size_alloc, ← a] at this
    rw [b]; exact this
  have J : Ext w W2 := by rw [b]; exact ((Ext.refl w).alloc _).alloc _
  have Y := h.ext J
  have hlen := Aa (EQ g l W2 Y)
  obtain ⟨n, hn⟩ := Ab l.length
  have t0 : n ≤ 262144 := by rw [hn]; exact U.few
  have H : ∀ i j, i ≤ j → j < n → (!decide ((l[i]?.getD ⟨[], 0, 0, 0⟩).t < t)) = true → (!decide ((l[j]?.getD ⟨[], 0, 0, 0⟩).t < t)) = true := by
    intro i j I hj
    rw [hn] at hj
    rw [List.getElem?_eq_getElem hj, List.getElem?_eq_getElem (Nat.lt_of_le_of_lt I hj)]
    simp only [Option.getD_some, Bool.not_eq_true', decide_eq_false_iff_not]
    intro hi q0
    rcases Nat.lt_or_eq_of_le I with g0 | rfl
    · exact hi (List.lt_trans (List.pairwise_iff_getElem.1 U.up i j _ hj g0) q0)
    · exact hi q0
  have k0 := Aa (Mr n 151 (.pointer (some ⟨b1, 0, none⟩)) (.pointer (some ⟨b1 + 1, 0, none⟩)) (fun i => !decide ((l[i]?.getD ⟨[], 0, 0, 0⟩).t < t)) W2 (by omega) rfl
    (fun W i O hi => by
      obtain ⟨x, Z⟩ : ∃ x, l[i]? = some x := ⟨_, List.getElem?_eq_getElem (by rw [← hn]; exact hi)⟩
      have := LE i g b1 (b1 + 1) l t x W (Y.ext O) (r1.ext O) (r2.ext O) Z (by omega)
      rw [Z]
      exact this) H)
  rw [← hn] at hlen
  have k1 := r1.cell 0 rfl
  replace hn := Aa hn
  replace a := Aa a
  replace b := Aa b
  replace J := Aa J
  replace Y := Aa Y
  replace r1 := Aa r1
  replace r2 := Aa r2
  replace h := Aa h
  replace U := Aa U
  clear H
  go_in
  go_wp2_with fail
  rw [← b.out, ← a.out]
  refine hlen.out.mono ?_
  rintro e w1 ⟨rfl, hw⟩
  obtain rfl := hw.symm
  go_wp2_with fail
  refine k0.out.mono ?_
  rintro e w3 ⟨k, rfl, hk, p0, G, O⟩
  have T : FloP l t k := by
    refine ⟨by rw [← hn.out]; exact hk, fun i x Z => ?_⟩
    have hi := (List.getElem?_eq_some_iff.1 Z).1
    constructor
    · intro h0
      have := p0 i h0
      dsimp only at this
      rw [Z] at this
      simpa using this
    · intro m0
      apply Decidable.byContradiction
      intro h0
      have := G i (by omega) (by rw [hn.out]; exact hi)
      dsimp only at this
      rw [Z] at this
      simp only [Option.getD_some, Bool.not_eq_true', decide_eq_false_iff_not] at this
      exact this m0
  replace T := Aa T
  replace O := Aa (J.out.trans O)
  clear p0 G
  go_wp2_with fail
  go_ret
  exact ⟨k, rfl, T.out, O.out⟩
def noEn:Value:= .agg #[.string ⟨#[]⟩,.int .i64 0,.int .i64 0,.int .i64 0]
theorem Av {fn:Func} {p u:Tmp} (h:fn.results=#[.cell p ty,.tmp u]) (tmps:Array Value) (w:World) (g:Nat) (cs:Array Value)
 (b:tmps.getD p undef = .pointer (some ⟨g,0,none⟩)) (j:(loadVar ty ⟨g,0,none⟩).run P w = .ok (.agg cs) w) :
 (results fn tmps).run P w = .ok (.tuple #[.agg cs,tmps.getD u undef]) w:=by
 rw[results_cell_tmp h,b];simp[asAddr,j,Result.andThen]
theorem UA (h:Row w g 100 cs) (hs:cs.size=4):(loadVar 100 ⟨g,0,none⟩).run prog w = .ok (.agg cs) w :=
 run_loadVar_row w g 100 100 cs (0,0) _ h underlying100 rfl (by rw[hs];kernel_rfl)
def AtR (l:List En) (k:Nat) (w:World) (e:Ending) (w':World):Prop:=e = .returned (.tuple #[match l[k]? with | some x=> .agg x.cells.toArray | none=>noEn,.bool (l[k]?).isSome])/\Ext w w'
theorem QE (g k:Nat) (l:List En) (w:World) (h:DicR w g l) (hl:l.length<=1000000000) :
 Calls prog 99 #[.pointer (some ⟨g,0,none⟩),.int .i64 (k:Int)] w fun e w'=>AtR l k w e w':=by
 obtain⟨W4,a⟩:=Ab (w.alloc (.cells #[.string ⟨#[]⟩,.int .i64 0,.int .i64 0,.int .i64 0] 100));obtain⟨g4,H⟩:=Ab w.heap.size;have r4:Row W4 g4 100 #[.string ⟨#[]⟩,.int .i64 0,.int .i64 0,.int .i64 0]:=by rw[a,H];exact Row.new w _ _
 have b:Ext w W4:=by rw[a];exact(Ext.refl w).alloc _
 have j:w.heap.size<=g4:=by omega
 have hlen:=Aa (EQ g l W4 (h.ext b));have G:=h.ext b;obtain⟨A,c,T,O⟩:=G;have k0:=T.cell 0 rfl;have q0:=r4.cell 0 rfl;have q1:=r4.cell 1 rfl;have q2:=r4.cell 2 rfl;have q3:=r4.cell 3 rfl;have qf:=r4.free;obtain⟨n,hn⟩:=Ab l.length;rw[<-hn]at hlen k0 hl;replace hn:=Aa hn;replace h:=Aa h;replace T:=Aa T;replace r4:=Aa r4;replace b:=Aa b;replace a:=Aa a;replace H:=Aa H;by_cases hk:k<n
 ·obtain⟨x,Y⟩:∃x,l[k]? = some x:=⟨_,List.getElem?_eq_getElem (by rw[<-hn.out];exact hk)⟩
  obtain⟨ga,o,I,x0,x1,x2,x3⟩:=AX O Y;subst I;obtain⟨t,off,len,nn⟩:=x;simp only at x0 x1 x2 x3;replace Y:=Aa Y;replace O:=Aa O
  go_in
  go_wp2_with fail;rw[<-a.out,<-H.out];refine hlen.out.mono ?_;rintro e w1 ⟨rfl,Z⟩;obtain rfl:=Z.symm;go_wp2_with fail;have U:=(((r4.out.put 0 (.string ⟨t.toArray⟩)).put 1 (.int .i64 (off:Int))).put 2 (.int .i64 (len:Int))).put 3 (.int .i64 (nn:Int));have J:=(((b.out.setCell (p:=⟨g4,0,none⟩) j (.string ⟨t.toArray⟩)).setCell (p:=⟨g4,1,none⟩) j (.int .i64 (off:Int))).setCell (p:=⟨g4,2,none⟩) j (.int .i64 (len:Int))).setCell (p:=⟨g4,3,none⟩) j (.int .i64 (nn:Int));refine bodyPost_ret (Av rfl _ _ g4 #[.string ⟨t.toArray⟩,.int .i64 (off:Int),.int .i64 (len:Int),.int .i64 (nn:Int)] rfl (UA U rfl)) rfl ⟨?_,J⟩;rw[Y.out];rfl
 ·have Y:l[k]? = none:=List.getElem?_eq_none (by rw[<-hn.out];omega);replace Y:=Aa Y;replace O:=Aa O
  go_in
  go_wp2_with fail;rw[<-a.out,<-H.out];refine hlen.out.mono ?_;rintro e w1 ⟨rfl,Z⟩;obtain rfl:=Z.symm;go_wp2_with fail;have U:=(((r4.out.put 0 (.string ⟨#[]⟩)).put 1 (.int .i64 0)).put 2 (.int .i64 0)).put 3 (.int .i64 0);have J:=(((b.out.setCell (p:=⟨g4,0,none⟩) j (.string ⟨#[]⟩)).setCell (p:=⟨g4,1,none⟩) j (.int .i64 0)).setCell (p:=⟨g4,2,none⟩) j (.int .i64 0)).setCell (p:=⟨g4,3,none⟩) j (.int .i64 0);refine bodyPost_ret (Av rfl _ _ g4 #[.string ⟨#[]⟩,.int .i64 0,.int .i64 0,.int .i64 0] rfl (UA U rfl)) rfl ⟨?_,J⟩;rw[Y.out];rfl
def GetR (l:List En) (t:List UInt8) (w:World) (e:Ending) (w':World):Prop:=Ext w w'/\((∃x∈l,x.t=t/\e = .returned (.tuple #[.agg #[.string ⟨x.t.toArray⟩,.int .i64 (x.off:Int),.int .i64 (x.len:Int),.int .i64 (x.n:Int)],.bool true]))\/((∀x∈l,x.t≠t)/\e = .returned (.tuple #[noEn,.bool false])))
theorem O7 (g:Nat) (l:List En) (t:List UInt8) (w:World) (h:DicR w g l) (G:OkEs l) :
 Calls prog 59 #[.pointer (some ⟨g,0,none⟩),.string ⟨t.toArray⟩] w fun e w'=>GetR l t w e w':=by
 obtain⟨W4,Z⟩:=Ab (w.alloc (.cells #[.string ⟨#[]⟩,.int .i64 0,.int .i64 0,.int .i64 0] 100));obtain⟨g4,p0⟩:=Ab w.heap.size;have r4:Row W4 g4 100 #[.string ⟨#[]⟩,.int .i64 0,.int .i64 0,.int .i64 0]:=by rw[Z,p0];exact Row.new w _ _
 have h0:Ext w W4:=by rw[Z];exact(Ext.refl w).alloc _
 have j:w.heap.size<=g4:=by omega
 have j0:=Aa (Iw g l t W4 (h.ext h0) G);have m0:=Aa (fun k W (hE:Ext w W)=>QE g k l W (h.ext hE) (by have:=G.few;omega));replace G:=Aa G;replace h:=Aa h;replace r4:=Aa r4;replace h0:=Aa h0;replace Z:=Aa Z;replace p0:=Aa p0
 go_in
 go_wp2_with fail;rw[<-Z.out,<-p0.out];refine j0.out.mono ?_;rintro e w1 ⟨k,rfl,a,O⟩;have r41:=Aa (r4.out.ext O);replace O:=Aa (h0.out.trans O);go_wp2_with fail;refine(m0.out k w1 O.out).mono ?_;rintro e w2 ⟨he,b⟩;have r42:=r41.out.ext b;replace b:=O.out.trans b;have qg:=r42.get;have qf:=r42.free;have c0:w.heap.size<=w2.heap.size:=b.size;have y0:g4<w2.heap.size:=r42.lt;cases U:l[k]? with
 | none =>
  rw[U]at he;have he:e = .returned (.tuple #[noEn,.bool false]):=he;unfold noEn at he;subst he;have H:∀x∈l,x.t≠t:=fun x hm e=>by
   obtain⟨i,hi,rfl⟩:=List.getElem_of_mem hm;have:=(a.iff i _ (List.getElem?_eq_getElem hi)).1 (by
    have:=a.le;have h2:=List.getElem?_eq_none_iff.1 U;omega)
   rw[e]at this;exact List.lt_irrefl _ this
  replace H:=Aa H;replace a:=Aa a;replace U:=Aa U;replace r42:=Aa r42;replace b:=Aa b;go_wp2_with fail;have I:=((((r42.out.put 0 (.string ⟨#[]⟩)).put 1 (.int .i64 0)).put 2 (.int .i64 0)).put 3 (.int .i64 0)).alloc (.cells #[.string ⟨#[]⟩,.int .i64 0,.int .i64 0,.int .i64 0] 100);have T:=((((b.out.setCell (p:=⟨g4,0,none⟩) j (.string ⟨#[]⟩)).setCell (p:=⟨g4,1,none⟩) j (.int .i64 0)).setCell (p:=⟨g4,2,none⟩) j (.int .i64 0)).setCell (p:=⟨g4,3,none⟩) j (.int .i64 0)).alloc (.cells #[.string ⟨#[]⟩,.int .i64 0,.int .i64 0,.int .i64 0] 100);exact bodyPost_ret (Av rfl _ _ g4 #[.string ⟨#[]⟩,.int .i64 0,.int .i64 0,.int .i64 0] rfl (UA I rfl)) rfl ⟨T,.inr ⟨H.out,rfl⟩⟩
 | some x =>
  rw[U]at he;have he:e = .returned (.tuple #[.agg #[.string ⟨x.t.toArray⟩,.int .i64 (x.off:Int),.int .i64 (x.len:Int),.int .i64 (x.n:Int)],.bool true]):=he;subst he;have J:=List.mem_of_getElem? U;have H:x.t≠t->∀y∈l,y.t≠t:=fun v0 y hm e=>by
   obtain⟨i,hi,rfl⟩:=List.getElem_of_mem hm;have k0:=(List.getElem?_eq_some_iff.1 U)
   have h1:=(a.iff k x U)
   have h2:=a.iff i _ (List.getElem?_eq_getElem hi);rw[e]at h2;have h3:¬ i<k:=fun h=>List.lt_irrefl _ (h2.1 h);rcases Nat.lt_or_eq_of_le (Nat.le_of_not_lt h3)with h4 | h4
   ·have h5:=List.pairwise_iff_getElem.1 G.out.up k i k0.1 hi h4;rw[k0.2,e]at h5;have:=h1.2 h5;omega
   ·subst h4;exact v0 (by rw[<-k0.2];exact e)
  obtain⟨s,off,len,nn⟩:=x;simp only at H;by_cases Y:s=t
  ·have q1:(s==t)=true:=by rw[Y];exact beq_self_eq_true t
   have q2:(s != t)=false:=by rw[Y];simp
   replace H:=Aa H;replace a:=Aa a;replace U:=Aa U;replace J:=Aa J;replace Y:=Aa Y;replace r42:=Aa r42;replace b:=Aa b;go_wp2_with fail;have I:=((((r42.out.put 0 (.string ⟨s.toArray⟩)).put 1 (.int .i64 (off:Int))).put 2 (.int .i64 (len:Int))).put 3 (.int .i64 (nn:Int))).alloc (.cells #[.string ⟨s.toArray⟩,.int .i64 (off:Int),.int .i64 (len:Int),.int .i64 (nn:Int)] 100);have T:=((((b.out.setCell (p:=⟨g4,0,none⟩) j (.string ⟨s.toArray⟩)).setCell (p:=⟨g4,1,none⟩) j (.int .i64 (off:Int))).setCell (p:=⟨g4,2,none⟩) j (.int .i64 (len:Int))).setCell (p:=⟨g4,3,none⟩) j (.int .i64 (nn:Int))).alloc (.cells #[.string ⟨s.toArray⟩,.int .i64 (off:Int),.int .i64 (len:Int),.int .i64 (nn:Int)] 100);exact bodyPost_ret (Av rfl _ _ g4 #[.string ⟨s.toArray⟩,.int .i64 (off:Int),.int .i64 (len:Int),.int .i64 (nn:Int)] rfl (UA I rfl)) rfl ⟨T,.inl ⟨_,J.out,Y.out,rfl⟩⟩
  ·have q1:(s==t)=false:=beq_eq_false_iff_ne.2 Y;have q2:(s != t)=true:=bne_iff_ne.2 Y;replace H:=Aa (H Y);replace a:=Aa a;replace U:=Aa U;replace J:=Aa J;replace Y:=Aa Y;replace r42:=Aa r42;replace b:=Aa b;go_wp2_with fail;have I:=((((r42.out.put 0 (.string ⟨#[]⟩)).put 1 (.int .i64 0)).put 2 (.int .i64 0)).put 3 (.int .i64 0)).alloc (.cells #[.string ⟨s.toArray⟩,.int .i64 (off:Int),.int .i64 (len:Int),.int .i64 (nn:Int)] 100);have T:=((((b.out.setCell (p:=⟨g4,0,none⟩) j (.string ⟨#[]⟩)).setCell (p:=⟨g4,1,none⟩) j (.int .i64 0)).setCell (p:=⟨g4,2,none⟩) j (.int .i64 0)).setCell (p:=⟨g4,3,none⟩) j (.int .i64 0)).alloc (.cells #[.string ⟨s.toArray⟩,.int .i64 (off:Int),.int .i64 (len:Int),.int .i64 (nn:Int)] 100);exact bodyPost_ret (Av rfl _ _ g4 #[.string ⟨#[]⟩,.int .i64 0,.int .i64 0,.int .i64 0] rfl (UA I rfl)) rfl ⟨T,.inr ⟨H.out,rfl⟩⟩
end
section
open Go.RowKit Go.Maps
theorem SegR.ext {P:List Dc} (h:SegR w g P) (j:Ext w w1):SegR w1 g P:=by
 obtain⟨ds,A,c,lo,hi,fi,la,B,cB,gd,gf,h1,h2,b,a,H,Y,J⟩:=h;exact⟨ds,A,c,lo,hi,fi,la,B,cB,gd,gf,h1.ext j,h2,b,a.ext j,H.ext j,Y.ext j,J.ext j⟩
theorem M5 (g n c:Nat) (A:Option Addr) (w:World) (h:w.cell? ⟨g,0,none⟩=some (.slice A n c)) (hn:0<n) (j:n<=1000000000):Calls prog 58 #[.pointer (some ⟨g,0,none⟩)] w fun e w'=>e = .returned (.bool false)/\w'=w:=by
 have b:((n:Int)==0)=false:=by simp;omega
 go_in
 go_wp2_with fail;go_ret;exact⟨by simp,rfl⟩
theorem Fh (g:Nat) (P:List Dc) (w:World) (h:SegR w g P) (a:0<P.length) (j:P.length<=1000000000):Calls prog 34 #[.pointer (some ⟨g,0,none⟩)] w fun e w'=>e = .returned (.int .i64 (P.length:Int))/\w'=w:=by
 obtain⟨ds,A,c,lo,hi,fi,la,B,cB,gd,gf,h1,h2,_⟩:=h;have b:P.length=ds.length:=by rw[<-h2];exact List.length_map ..
 rw[b]at a j ⊢;have k0:=h1.cell 0 rfl;have hn:=Aa (M5 g ds.length c A w k0 a j);replace h1:=Aa h1;replace b:=Aa b;replace h2:=Aa h2
 go_in
 go_wp2_with fail;refine hn.out.mono ?_;rintro e w1 ⟨rfl,rfl⟩;go_wp2_with fail;go_ret;exact⟨rfl,rfl⟩
end
section
open Go.RowKit Go.Maps
structure SegP (P:List Dc):Prop where
  sm:SmP P
  ne:0<P.length
theorem SegP.few {P:List Dc} (h:SegP P):P.length<=1000000000:=by have:=h.sm.seg.n;omega
theorem SegR.none {P:List Dc} (h:SegR w g P) (j:SegP P):Calls prog 58 #[.pointer (some ⟨g,0,none⟩)] w fun e w'=>e = .returned (.bool false)/\w'=w:=by
 have b:=j.few;have hn:=j.ne;obtain⟨ds,A,c,lo,hi,fi,la,B,cB,gd,gf,h1,h2,_⟩:=h;have a:P.length=ds.length:=by rw[<-h2];exact List.length_map ..
 exact M5 g ds.length c A w (h1.cell 0 rfl) (by omega) (by omega)
theorem I8 (g:Nat) (P:List Dc) (w:World) (h:SegR w g P) (hP:SegP P):Calls prog 70 #[.pointer (some ⟨g,0,none⟩)] w fun e w'=>e = .returned (.agg (prtA (partD P)))/\Ext w w':=by
 have hn:=Aa (fun W (hE:Ext w W)=>(h.ext hE).none hP);obtain⟨ds,A,c,lo,hi,fi,la,B,cB,gd,gf,h1,h2,O,I,h5,h6,h7⟩:=h;obtain⟨W,U⟩:=Ab (w.alloc (Obj.cells #[.int .i64 0,.int .i64 0,.int .i64 0,.int .i64 0,.int .i64 0,.int .i64 0,.int .i64 0] 79));have J:Ext w W:=by rw[U];exact(Ext.refl w).alloc _
 have b:Row W w.heap.size 79 #[.int .i64 0,.int .i64 0,.int .i64 0,.int .i64 0,.int .i64 0,.int .i64 0,.int .i64 0]:=by rw[U];exact Row.new w _ _
 have j:=h1.ext J;have k1:=j.cell 1 rfl;have k2:=j.cell 2 rfl;have k3:=j.cell 3 rfl;have k4:=j.cell 4 rfl;have k5:=j.cell 5 rfl;have k6:=j.cell 6 rfl;have k7:=j.cell 7 rfl;have f0:=b.free 0;have f1:=b.free 1;have f2:=b.free 2;have f3:=b.free 3;have f4:=b.free 4;have f5:=b.free 5;have f6:=b.free 6;have c0:=b.cell 0 rfl;have c1:=b.cell 1 rfl;have c2:=b.cell 2 rfl;have c3:=b.cell 3 rfl;have c4:=b.cell 4 rfl;have c5:=b.cell 5 rfl;have c6:=b.cell 6 rfl;replace h1:=Aa h1;replace j:=Aa j;replace b:=Aa b;replace O:=Aa O;replace U:=Aa U;clear I h5 h6 h7;obtain⟨bg,H⟩:=Ab w.heap.size;rw[<-H]at b f0 f1 f2 f3 f4 f5 f6 c0 c1 c2 c3 c4 c5 c6;have a:w.heap.size<=bg:=Nat.le_of_eq H.symm;replace H:=Aa H;obtain⟨nn,Y⟩:=Ab ((ds.length:Int):Int);rw[<-Y]at k7;replace Y:=Aa Y
 go_in
 go_wp2_with fail;rw[<-U.out,<-H.out];refine(hn.out _ J).mono ?_;rintro e w1 ⟨rfl,G⟩;subst G;go_wp2_with fail;have Z:=((((((b.out.put 0 (.int .i64 0)).put 1 (.int .i64 0)).put 2 (.int .i64 lo)).put 3 (.int .i64 hi)).put 4 (.int .i64 fi)).put 5 (.int .i64 la)).put 6 (.int .i64 nn);have T:=((((((J.setCell (p:=⟨bg,0,none⟩) a (.int .i64 0)).setCell (p:=⟨bg,1,none⟩) a (.int .i64 0)).setCell (p:=⟨bg,2,none⟩) a (.int .i64 lo)).setCell (p:=⟨bg,3,none⟩) a (.int .i64 hi)).setCell (p:=⟨bg,4,none⟩) a (.int .i64 fi)).setCell (p:=⟨bg,5,none⟩) a (.int .i64 la)).setCell (p:=⟨bg,6,none⟩) a (.int .i64 nn);refine bodyPost_ret (Fa rfl _ _ bg #[.int .i64 0,.int .i64 0,.int .i64 lo,.int .i64 hi,.int .i64 fi,.int .i64 la,.int .i64 nn] rfl (run_loadVar_row _ bg 79 79 _ (0,0) _ Z underlying79 rfl (by kernel_rfl))) rfl ⟨?_,T⟩;rw[O.out,<-Y.out];rfl
end
section
open Go.RowKit
theorem CF (w:World) (t:TypeId):(w.alloc (.cells #[] t)).ownsRow w.heap.size t 2 (.slice (some ⟨w.heap.size,0,none⟩) 0 0) 0 [] :=
 ⟨rfl,.inr ⟨w.heap.size,0,#[],rfl,Nat.le_refl _,heap_alloc_new w _,Nat.le_refl _,by unfold maxLen;omega,rfl,rfl⟩⟩
section
variable {t e sz:Nat}
end
end
section
open Go.RowKit Go.Maps
theorem QT (c:Nat) (w:World):(binOp .eql 67 (.slice none 0 c) (.slice none 0 0)).run prog w = .ok (.bool true) w:=by kernel_rfl
theorem QU (a:Addr) (n c:Nat) (w:World):(binOp .eql 67 (.slice (some a) n c) (.slice none 0 0)).run prog w = .ok (.bool false) w:=by kernel_rfl
theorem LD (A:Option Addr) (n c:Nat) (l:List Fd) (w:World) (hn:n=l.length) (T:Cells w A (fcells l)) (q0:n<=1073741824) :
 Calls prog 115 #[.slice A n c] w fun e w'=>∃A1 c1,e = .returned (.slice A1 n c1)/\w'.ownsRow w.heap.size 91 2 (.slice A1 n c1) n (fcells l)/\Ext w w':=by
 cases A with
 | none =>
  have G:l = []:=by
   rcases T with h | ⟨_,_,h,_⟩
   ·have:=congrArg List.length h;rw[Dl,List.length_nil]at this;exact List.length_eq_zero_iff.1 (by omega)
   ·cases h
  subst G;obtain rfl:n=0:=hn;have hq:=QT c w
  go_in
  go_wp2_with fail;go_ret;exact⟨none,0,rfl,⟨rfl,.inl ⟨rfl,rfl⟩⟩,Ext.refl _⟩
 | some a =>
  have hq:=QU a n c w;have ho:=CF w 91;have j:Ext w (w.alloc (.cells #[] 91)):=(Ext.refl w).alloc _;have hb:=T.ext j;have b:(fcells l).length=n*2:=by rw[Dl,hn]
  have Y:∀u∈fcells l,u.oneCell'=true:=fun u Z=>by
   unfold fcells at Z;obtain⟨f,_,J⟩:=List.mem_flatMap.1 Z;unfold Fd.cells at J;simp only[List.mem_cons,List.not_mem_nil,or_false]at J;rcases J with rfl | rfl <;> rfl
  have O:w.heap.size<=(w.alloc (.cells #[] 91)).heap.size:=j.size;replace b:=Aa b;replace hn:=Aa hn
  go_in
  go_wp2_with (at_builtin;refine AV (m:=n) Lu ho hb (.tmp 5) (.tmp 6) rfl rfl rfl rfl rfl b.out Y (by omega) O (fun A1 c1 w3 H U I=>?_));go_ret;refine⟨A1,c1,rfl,?_,j.grown U (fun k hk=>by cases hk;exact Nat.le_refl _)⟩;rw[Nat.zero_add]at H;exact H
theorem QZ (x:DocC) (w:World) (h:x.e.Ok w x.A) (Y:x.e.fs.length<=20):Calls prog 71 #[.agg #[.int .i64 x.seq,.int .i64 x.e.at_,.slice x.A x.e.fs.length x.c]] w fun e w'=>∃A c,e = .returned (.agg #[.int .i64 x.seq,.int .i64 x.e.at_,.slice A x.e.fs.length c])/\x.e.Own w' w.heap.size A c/\Ext w w':=by
 obtain⟨sq,⟨at_,fs⟩,A,c⟩:=x;simp only at h Y ⊢;have j:=h.long;simp only at j;obtain⟨n,hn⟩:=Ab fs.length;rw[<-hn]at Y ⊢;have b:Ext w ((w.alloc (.cells #[.int .i64 sq,.int .i64 at_,.slice A n c] 71)).alloc (.cells #[.int .i64 0,.int .i64 0,.slice none 0 0] 71)):=((Ext.refl w).alloc _).alloc _;have r1:Row ((w.alloc (.cells #[.int .i64 sq,.int .i64 at_,.slice A n c] 71)).alloc (.cells #[.int .i64 0,.int .i64 0,.slice none 0 0] 71)) w.heap.size 71 #[.int .i64 sq,.int .i64 at_,.slice A n c]:=(Row.new w _ _).alloc _;have r2:Row ((w.alloc (.cells #[.int .i64 sq,.int .i64 at_,.slice A n c] 71)).alloc (.cells #[.int .i64 0,.int .i64 0,.slice none 0 0] 71)) (w.heap.size+1) 71 #[.int .i64 0,.int .i64 0,.slice none 0 0]:=by
  have h:=Row.new (w.alloc (.cells #[.int .i64 sq,.int .i64 at_,.slice A n c] 71)) 71 #[.int .i64 0,.int .i64 0,.slice none 0 0];simpa using h
 have G:=Aa (LD A n c fs ((w.alloc (.cells #[.int .i64 sq,.int .i64 at_,.slice A n c] 71)).alloc (.cells #[.int .i64 0,.int .i64 0,.slice none 0 0] 71)) hn (h.cells.ext b) (by omega));have k2:=r1.cell 2 rfl;have I:=b.size;replace hn:=Aa hn;replace b:=Aa b;replace r1:=Aa r1;replace r2:=Aa r2;replace j:=Aa j;clear h
 go_in
 go_wp2_with fail;refine G.out.mono ?_;rintro e w2 ⟨A1,c1,rfl,H,a⟩;have q1:=r1.out.ext a;have q2:=r2.out.ext a;have z2:=q1.free 2;obtain⟨g,U⟩:=Ab w.heap.size;rw[<-U]at q1 q2 z2 ⊢;have p1:=q1.put 2 (.slice A1 n c1);have p2:=q2.away (p:=⟨g,2,none⟩) (by simp) (.slice A1 n c1);have y0:=p1.cell 0 rfl;have y1:=p1.cell 1 rfl;have y2:=p1.cell 2 rfl;have v0:=p2.cell 0 rfl;have v1:=p2.cell 1 rfl;have v2:=p2.cell 2 rfl;have u0:=p2.free 0;have u1:=p2.free 1;have u2:=p2.free 2;have s2:=q1.cell 2 rfl;replace q1:=Aa q1;replace H:=Aa H;replace a:=Aa a;replace U:=Aa U;replace p2:=Aa p2;replace p1:=Aa p1;replace q2:=Aa q2;clear k2;go_wp2_with fail;have pf:=((p2.out.put 0 (.int .i64 sq)).put 1 (.int .i64 at_)).put 2 (.slice A1 n c1);have p0:=U.out;have O:=(((b.out.trans a.out).setCell (p:=⟨g,2,none⟩) (by simp only;omega) (.slice A1 n c1)).setCell (p:=⟨g+1,0,none⟩) (by simp only;omega) (.int .i64 sq)).setCell (p:=⟨g+1,1,none⟩) (by simp only;omega) (.int .i64 at_);have T:=O.setCell (p:=⟨g+1,2,none⟩) (by simp only;omega) (.slice A1 n c1);have J:=AD H.out I;have hC:Chg (fun k=>k=g\/k=g+1) w2 ((((w2.setCell ⟨g,2,none⟩ (.slice A1 n c1)).setCell ⟨g+1,0,none⟩ (.int .i64 sq)).setCell ⟨g+1,1,none⟩ (.int .i64 at_)).setCell ⟨g+1,2,none⟩ (.slice A1 n c1)) :=
  (((Chg.of_set w2 _ (.inl rfl)).trans (Chg.of_set _ _ (.inr rfl)) fun _ _ h=>h).trans (Chg.of_set _ _ (.inr rfl)) fun _ _ h=>h).trans (Chg.of_set _ _ (.inr rfl)) fun _ _ h=>h
 have Z:=hC.owns J fun k hk=>by
  obtain⟨cs,hr,_⟩:=Ae J hk;rintro(rfl | rfl)
  ·exact Row.unlike hr q1.out (by decide) rfl
  ·exact Row.unlike hr q2.out (by decide) rfl
 refine bodyPost_ret (results_cell_row rfl _ _ (g+1) 71 #[.int .i64 sq,.int .i64 at_,.slice A1 n c1] (0,0) _ rfl pf underlying71 rfl (by kernel_rfl)) rfl ⟨A1,c1,rfl,⟨?_,j.out,?_⟩,T⟩
 ·simp only;rw[<-hn.out];exact Z
 ·simp only;rw[<-hn.out];exact Y
end
section
open Go.RowKit Go.Maps
theorem DocsOwn.push {base c c8:Nat} {B A8:Option Addr} {l:List DocC} {x:DocC} (h:DocsOwn w base B c l) (U:x.e.Own w base x.A x.c) (hi:I64ok' x.e.at_/\I64ok' x.seq)
 (T:w8.ownsRow base 71 3 (.slice A8 (l.length+1) c8) (l.length+1) (dcells l++x.cells)) (O:w.grownBy w8 (Value.slice B l.length c).ownBlock):DocsOwn w8 base A8 c8 (l ++ [x]):=by
 have hlen:(l ++ [x]).length=l.length+1:=by simp
 have a:Chg (fun k'=>(Value.slice B l.length c).ownBlock=some k') w w8:=Chg.of_grown O fun k' _ J=>J;have Y:∀k cs,Row w k 91 cs->¬ (Value.slice B l.length c).ownBlock=some k:=fun k cs H=>Am h.own H (by decide);refine⟨by rw[hlen,FX];exact T,fun y j=>?_,fun y j=>?_⟩
 ·rcases List.mem_append.1 j with j | j
  ·exact⟨a.owns (h.each y j).1 fun g' b=>by obtain⟨cs,H,_⟩:=Ae (h.each y j).1 b;exact Y _ _ H,(h.each y j).2⟩
  ·rw[List.mem_singleton.1 j];exact⟨a.owns U.1 fun g' b=>by obtain⟨cs,H,_⟩:=Ae U.1 b;exact Y _ _ H,U.2⟩
 ·rcases List.mem_append.1 j with j | j
  ·exact h.ints y j
  ·rw[List.mem_singleton.1 j];exact hi
def DocsA (P:List Dc) (w:World) (e:Ending) (w':World):Prop:=Ext w w'/\∃(l:List DocC) (A:Option Addr) (c:Nat),dcs l=P/\e = .returned (.slice A l.length c)/\DocsOwn w' w.heap.size A c l
theorem SegP.fields {P:List Dc} (h:SegP P) {d:Dc} (hd:d∈P):d.2.fs.length<=20:=by
 have h1:=h.sm.ok;unfold okDs at h1;rw[Bool.and_eq_true,Bool.and_eq_true,List.all_eq_true]at h1;have:=(AM (of_decide_eq_true (h1.2.2 d hd))).1;omega
theorem SS (g:Nat) (P:List Dc) (w:World) (h:SegR w g P) (hP:SegP P):Calls prog 28 #[.pointer (some ⟨g,0,none⟩)] w fun e w'=>DocsA P w e w':=by
 have hlen:=Fh g P w h hP.ne hP.few;have hf:=hP.few;obtain⟨ds,A,c,lo,hi,fi,la,B,cB,gd,gf,h1,h2,h3,h4,_⟩:=h;have g0:P.length=ds.length:=by rw[<-h2];exact List.length_map ..
 obtain⟨n,hn⟩:=Ab ds.length;rw[g0,<-hn]at hlen hf;rw[<-hn]at h1;have G:∀x∈ds,x.e.fs.length<=20:=fun x hx=>hP.fields (d:=x.dc) (by rw[<-h2];exact List.mem_map.2 ⟨x,hx,rfl⟩);replace G:=Aa G;replace hlen:=Aa hlen;replace h1:=Aa h1;replace h4:=Aa h4;replace h2:=Aa h2;replace hn:=Aa hn;clear h3 g0
 go_in
 go_wp2_with fail;refine hlen.out.mono ?_;rintro e w1 ⟨rfl,rfl⟩;go_wp2_with fail
 go_loopw [3,7] (fun s3 s7 wr=>∃(i d:Nat) (B:Option Addr) (out:List DocC),s3 = .slice B i d/\s7 = .int .i64 (i:Int)/\i<=n/\Hid (out.length=i)/\Hid (dcs out=(dcs ds).take i)/\Hid (DocsOwn wr w1.heap.size B d out)/\Hid (Ext w1 wr)) (fun _ s7 _=>n - (intOf s7).toNat)
 case atStart=>exact⟨0,0,none,[],rfl,rfl,by omega,Aa rfl,Aa rfl,Aa (DocsOwn.nil _ _),Aa (Ext.refl _)⟩
 case round =>
  obtain⟨i,d,B,out,rfl,rfl,hi,Y,x0,y0,Z⟩:=hrel;by_cases n0:i<n
  ·obtain⟨x,hx⟩:∃x,ds[i]? = some x:=⟨_,List.getElem?_eq_getElem (by rw[<-hn.out];exact n0)⟩
   have p0:=List.mem_of_getElem? hx;have r1:=h1.out.ext Z.out;have k0:=r1.cell 0 rfl;obtain⟨gA,oA,rfl,l0,l1,l2⟩:=AR (h4.out.cells.ext Z.out) hx;obtain⟨j0,U,O⟩:=h4.out.each x p0;have ho:=QZ x wr (j0.ext Z.out) (G.out x p0);have j:dcs (out ++ [x])=(dcs ds).take (i+1):=by
    rw[BJ,x0.out];have:(dcs ds)[i]? = some x.dc:=by unfold dcs;rw[List.getElem?_map,hx];rfl
    rw[List.take_add_one,this];rfl
   rw[BJ]at j;obtain⟨sq,⟨at_,fs⟩,xA,xc⟩:=x;simp only at l0 l1 l2 ho U O;obtain⟨m,hm⟩:=Ab fs.length;rw[<-hm]at l2 ho;replace ho:=Aa ho;replace hm:=Aa hm;replace j0:=Aa j0;replace j:=Aa j;replace hx:=Aa hx;replace r1:=Aa r1;replace U:=Aa U;replace O:=Aa O;clear p0;go_wp2_with (fail);refine ho.out.mono ?_;rintro e w4 ⟨A4,c4,rfl,b,H⟩;have a:=y0.out.ext H;have b0:w1.heap.size<=w4.heap.size:=(Z.out.trans H).size;have T:w4.ownsRow w1.heap.size 71 3 (.slice B i d) i (dcells out):=by have:=a.own;rw[Y.out]at this;exact this
   have i0:i+1<=4294967296:=by omega
   have m0:=Z.out.size;replace a:=Aa a;replace b:=Aa b;replace H:=Aa H;clear k0 l0 l1 l2;go_wp2_with (at_builtin;refine AS (us:= [.int .i64 sq,.int .i64 at_,.slice A4 m c4]) (m:=1) MQ T rfl (.tmp 10) (.tmp 20) rfl rfl rfl rfl rfl (Az rfl) i0 b0 (fun A8 c8 w8 I J o0=>?_);replace I:=Aa I;replace J:=Aa J;clear o0);have t0:Ev.Own ⟨at_,fs⟩ w4 w1.heap.size A4 c4:=by
    have h:=b.out;exact⟨AD h.1 m0,h.2⟩
   have h0:=DocsOwn.push (x:=⟨sq,⟨at_,fs⟩,A4,c4⟩) a.out t0 ⟨U.out,O.out⟩ (by rw[Y.out];unfold DocC.cells;simp only;rw[<-hm.out];exact I.out) (by rw[Y.out];exact J.out);have f0:Ext w1 w8:=(Z.out.trans H.out).grown J.out fun k hk=>by obtain⟨_,_,hb⟩:=Ae T hk;exact hb
   refine⟨⟨i+1,c8,A8,_,rfl,by go_num,by omega,Aa (by rw[List.length_append,Y.out];rfl),Aa (by rw[BJ];exact j.out),Aa h0,Aa f0⟩,by simp only[intOf];omega⟩
  ·obtain rfl:i=n:=by omega
   go_wp2_with fail;go_ret;refine⟨Z.out,out,B,d,?_,by rw[Y.out];rfl,y0.out⟩;rw[x0.out,hn.out,<-h2.out];exact List.take_of_length_le (by unfold dcs;rw[List.length_map];exact Nat.le_refl _)
end
section
open Go.RowKit Go.Maps
def few1 (d:Dc):Dc:=(d.1,fewE d.2)
def fewF (fs:List Fd):List Fd:=fs.map fun f=>(f.1,f.2.take 300)
structure FwJ (wo wi:World) (bk k dd:Nat) (sq at_:Int) (C:Option Addr) (xs:List Fd):Prop where
  row:Row wi bk 71 #[.int .i64 sq,.int .i64 at_,.slice C k dd]
  evs:wi.ownsRow wo.heap.size 91 2 (.slice C k dd) k (fcells xs)
  len:xs.length=k
  long:∀f∈xs,f.1.length<=9223372036854775807/\f.2.length<=9223372036854775807
  low:wo.heap.size<=bk
  ext:Ext wo wi
theorem FwJ.start (w:World) (sq at_:Int):FwJ w (w.alloc (.cells #[.int .i64 sq,.int .i64 at_,.slice none 0 0] 71)) w.heap.size 0 0 sq at_ none [] :=
 ⟨Row.new w _ _,⟨rfl,.inl ⟨rfl,rfl⟩⟩,rfl,nofun,Nat.le_refl _,(Ext.refl w).alloc _⟩
theorem FwJ.mid {bk k dd:Nat} {sq at_:Int} {C:Option Addr} {xs:List Fd} (h:FwJ wo wi bk k dd sq at_ C xs) (j:Ext wi w5) (b:w5.grownBy w8 (Value.slice C k dd).ownBlock):Row w8 bk 71 #[.int .i64 sq,.int .i64 at_,.slice C k dd]:=by
 refine Row.grown (h.row.ext j) b fun e=>?_;obtain⟨cs,a,_⟩:=Ae h.evs e.symm;exact Row.unlike h.row a (by decide) rfl
theorem FwJ.step {bk k dd c8:Nat} {sq at_:Int} {C A8:Option Addr} {xs:List Fd} {y:Fd} (h:FwJ wo wi bk k dd sq at_ C xs) (j:Ext wi w5) (G:y.1.length<=9223372036854775807/\y.2.length<=9223372036854775807)
 (a:w8.ownsRow wo.heap.size 91 2 (.slice A8 (k+1) c8) (k+1) (fcells xs++y.cells)) (b:w5.grownBy w8 (Value.slice C k dd).ownBlock) :
 FwJ wo (w8.setCell ⟨bk,2,none⟩ (.slice A8 (k+1) c8)) bk (k+1) c8 sq at_ A8 (xs ++ [y]):=by
 have H:=h.mid j b;have J:Chg (fun g=>g=bk) w8 (w8.setCell ⟨bk,2,none⟩ (.slice A8 (k+1) c8)):=Chg.of_set w8 _ rfl;refine⟨?_,?_,by rw[List.length_append,h.len];rfl,fun z Y=>?_,h.low,?_⟩
 ·have:=Row.put H 2 (.slice A8 (k+1) c8);simpa using this
 ·rw[F0];refine J.owns a fun g T U=>?_;obtain⟨cs,Z,_⟩:=Ae a T;subst U;exact Row.unlike Z H (by decide) rfl
 ·rcases List.mem_append.1 Y with Y | Y
  ·exact h.long z Y
  ·rw[List.mem_singleton.1 Y];exact G
 ·exact((h.ext.trans j).grown b fun g O=>(by obtain⟨_,_,hb⟩:=Ae h.evs O;exact hb)).setCell h.low _
theorem NI (A0:Option Addr) (c0 n:Nat) (ds:List DocC) (w:World) (hn:n=ds.length) (h:DocsOk w A0 ds) :
 Calls prog 22 #[.slice A0 n c0] w fun e w'=>DocsA (fewD (dcs ds)) w e w':=by
 replace hn:=Aa hn;replace h:=Aa h
 go_in
 go_wp2_with fail
 go_loopw [3,4] (fun s3 s4 wr=>∃(i d:Nat) (B:Option Addr) (outs:List DocC),s3 = .slice B i d/\s4 = .int .i64 (i:Int)/\i<=n/\i<=40/\Hid (outs.length=i)/\Hid (dcs outs=((dcs ds).take i).map few1)/\Hid (DocsOwn wr w.heap.size B d outs)/\Hid (Ext w wr)) (fun _ s4 _=>40 - (intOf s4).toNat)
 case atStart=>exact⟨0,0,none,[],rfl,rfl,by omega,by omega,Aa rfl,Aa rfl,Aa (DocsOwn.nil _ _),Aa (Ext.refl _)⟩
 case round =>
  obtain⟨i,d,B,outs,rfl,rfl,hi,i1,I,m2,x2,hE⟩:=hrel;by_cases f1:i<n/\i<40
  ·obtain⟨o1,o3⟩:=f1;have x3:(i:Int)<40:=by omega
   obtain⟨x,hx⟩:∃x,ds[i]? = some x:=⟨_,List.getElem?_eq_getElem (by rw[<-hn.out];exact o1)⟩
   obtain⟨t0,x0,d0⟩:=h.out.each x (List.mem_of_getElem? hx);obtain⟨g,o,hA,l0,l1,l2⟩:=AR (h.out.cells) hx;have a:dcs (outs ++ [(⟨x.seq,fewE x.e,x.A,x.c⟩:DocC)])=((dcs ds).take (i+1)).map few1:=by
    rw[BJ,m2.out];have:(dcs ds)[i]? = some x.dc:=by unfold dcs;rw[List.getElem?_map,hx];rfl
    rw[List.take_add_one,this,List.map_append];rfl
   rw[BJ]at a;obtain⟨sq,⟨at_,fs⟩,fA,fc⟩:=x;simp only at l0 l1 l2 t0 x0 d0 a;obtain⟨fn,O⟩:=Ab fs.length;rw[<-O]at l2;have k0:=hE.out.cell l0;have k1:=hE.out.cell l1;have k2:=hE.out.cell l2;have a2:=Aa (FwJ.start wr sq at_);have z3:=Aa (fun W (hE:Ext w W)=>hE.cell l2);subst hA;replace O:=Aa O;replace t0:=Aa t0;replace x0:=Aa x0;replace d0:=Aa d0;replace a:=Aa a;clear hx l0 l1 l2;go_wp2_with fail;clear k0 k1 k2;obtain⟨wo,rfl⟩:=Ab wr
   go_loopw [6] (fun s6 wi=>∃(k dd:Nat) (C:Option Addr),s6 = .int .i64 (k:Int)/\k<=8/\k<=fn/\Hid (FwJ wo wi wo.heap.size k dd sq at_ C (fewF (fs.take k)))) (fun s6 _=>8 - (intOf s6).toNat)
   case atStart=>exact⟨0,0,none,rfl,by omega,by omega,a2⟩
   case round =>
    clear a2;obtain⟨k,dd,C,rfl,r3,h4,j⟩:=hrel;have n0:=Aa j.out.ext;have J:=Aa (hE.out.trans n0.out);obtain⟨bk,o0⟩:=Ab wo.heap.size;rw[<-o0]at j ⊢;have f3:=j.out.row.lt;replace o0:=Aa o0;have q1:=z3.out wr J.out;by_cases y3:k<fn/\k<8
    ·obtain⟨q2,h2⟩:=y3;have b3:(k:Int)<8:=by omega
     obtain⟨f,hf⟩:∃f,fs[k]? = some f:=⟨_,List.getElem?_eq_getElem (by rw[<-O.out];exact q2)⟩
     have d1:=t0.out.long f (List.mem_of_getElem? hf);obtain⟨g2,o2,t3,j0,j1⟩:=Bg (t0.out.cells.ext J.out) hf;have p0:fewF (fs.take (k+1))=fewF (fs.take k) ++ [(f.1,f.2.take 300)]:=by
      rw[List.take_add_one,hf];unfold fewF;rw[List.map_append];rfl
     obtain⟨nm,tx⟩:=f;simp only at d1 j0 j1 p0;unfold strV at j0 j1;obtain⟨e1,a3⟩:=d1;obtain⟨mm,h1⟩:=Ab (min tx.length 300:Nat);have d3:=AQ (P:=prog) #[3,3] 3 (x:=(tx.length:Int)) (y:=300) (m:=(mm:Int)) (by omega);have y2:=CU tx mm (by omega);have f2:tx.take mm=tx.take 300:=by
      rw[h1];rcases Nat.le_total tx.length 300 with h3 | h3
      ·rw[Nat.min_eq_left h3,List.take_length,List.take_of_length_le h3]
      ·rw[Nat.min_eq_right h3]
     rw[f2]at y2;have i2:(tx.take 300).length<=9223372036854775807:=by rw[List.length_take];omega
     obtain⟨tt,a1⟩:=Ab (tx.take 300);rw[<-a1]at y2 p0 i2;subst t3;replace h1:=Aa h1;replace a1:=Aa a1;replace p0:=Aa p0;clear hf f2;obtain⟨w5,Z⟩:=Ab (wr.alloc (.cells #[.string ⟨nm.toArray⟩,.string ⟨tt.toArray⟩] 91));have v0:Row w5 wr.heap.size 91 #[.string ⟨nm.toArray⟩,.string ⟨tt.toArray⟩]:=by rw[Z];exact Row.new wr _ _
     have Y:Ext wr w5:=by rw[Z];exact(Ext.refl wr).alloc _
     have y0:=v0.cell 0 rfl;have y1:=v0.cell 1 rfl;have b2:=(j.out.row.ext Y).cell 2 rfl;have q0:=Y.owns j.out.evs;have i0:=(n0.out.trans Y).size;have m0:=i0;have U:=q0;rw[Z]at y0 y1 b2 U m0;replace Z:=Aa Z;replace v0:=Aa v0;replace Y:=Aa Y;clear q0 i0;go_wp2_with (at_builtin;refine AS (us:= [.string ⟨nm.toArray⟩,.string ⟨tt.toArray⟩]) (m:=1) Lu U (by simp) (.tmp 58) (.tmp 60) rfl rfl rfl rfl rfl (Az rfl) (by omega) m0 (fun A8 c8 w8 T H r0=>?_);rw[<-Z.out]at H;have x1:=j.out.mid Y.out H;have q4:w8.cell? ⟨bk,2,none⟩=some (.slice C k dd):=x1.cell 2 rfl;have qf:=x1.free 2;have g0:=Aa (FwJ.step (y:=(nm,tt)) j.out Y.out ⟨e1,i2⟩ T H);clear T H r0 x1 y0 y1 b2);rw[<-p0.out]at g0;go_roundw
     case rel=>exact⟨k+1,c8,A8,by go_num,by omega,by omega,g0⟩
     case measure=>simp[intOf];omega
    ·have b:fewF (fs.take k)=(fewE ⟨at_,fs⟩).fs:=by
      unfold fewF fewE;simp only;rcases Nat.lt_or_ge k fn with h7 | h7
      ·have:k=8:=by omega
       rw[this]
      ·rw[List.take_of_length_le (by rw[<-O.out];exact h7),List.take_of_length_le (by rw[<-O.out];omega)]
     have f0:=Aa (x2.out.ext n0.out);have d2:w.heap.size<=wr.heap.size:=J.out.size;have h0:wr.ownsRow w.heap.size 71 3 (.slice B i d) i (dcells outs):=by have:=f0.out.own;rw[I.out]at this;exact this
     have b0:=j.out.row.cell 0 rfl;have b1:=j.out.row.cell 1 rfl;have b2:=j.out.row.cell 2 rfl;replace b:=Aa b;by_cases q2:k<fn
     case' pos=>have h2:¬ (k:Int)<8:=by omega
     all_goals
      go_wp2_with (at_builtin;refine AS (us:= [.int .i64 sq,.int .i64 at_,.slice C k dd]) (m:=1) MQ h0 rfl (.tmp 64) (.tmp 66) rfl rfl rfl rfl rfl (Az rfl) (by omega) d2 (fun A8 c8 w8 T H r0=>?_);replace T:=Aa T;replace H:=Aa H;clear r0 b0 b1 b2);have hlen:=j.out.len;have j2:Ev.Own (fewE ⟨at_,fs⟩) wr w.heap.size C dd:=by
       refine⟨?_,?_,?_⟩
       ·rw[<-b.out,hlen];exact AD j.out.evs hE.out.size
       ·rw[<-b.out];exact j.out.long
       ·rw[<-b.out,hlen];omega
      have m1:=DocsOwn.push (x:=⟨sq,fewE ⟨at_,fs⟩,C,dd⟩) f0.out j2 ⟨x0.out,d0.out⟩ (by rw[I.out];unfold DocC.cells;simp only;rw[<-b.out,hlen];exact T.out) (by rw[I.out];exact H.out);have m3:Ext w w8:=J.out.grown H.out fun k hk=>by obtain⟨_,_,hb⟩:=Ae h0 hk;exact hb
      go_roundw
      case rel=>exact⟨i+1,c8,A8,_,rfl,by go_num,by omega,by omega,Aa (by rw[List.length_append,I.out];rfl),Aa (by rw[BJ];exact a.out),Aa m1,Aa m3⟩
      case measure=>simp[intOf];omega
  ·have G:dcs outs=fewD (dcs ds):=by
    rw[m2.out];unfold fewD;show ((dcs ds).take i).map few1=((dcs ds).take 40).map few1;have i3:(dcs ds).length=n:=by unfold dcs;rw[List.length_map,hn.out]
    rcases Nat.lt_or_ge i n with h7 | h7
    ·have:i=40:=by omega
     rw[this]
    ·rw[List.take_of_length_le (by omega),List.take_of_length_le (by omega)]
   replace G:=Aa G;by_cases o1:i<n
   case' pos=>have i1:¬ (i:Int)<40:=by omega
   all_goals
    clear f1;go_wp2_with fail;go_ret;exact⟨hE.out,outs,B,d,G.out,by rw[I.out];rfl,x2.out⟩
end
section
open Go.RowKit Go.Maps
theorem MT:∀(rs:List (List UInt8×List Po)) (pre:List (List UInt8×List Po)) (e:En),e∈enOf (postB pre).length rs->∃r∈rs,e.t=r.1/\e.len=(encPs r.2).length/\e.off+e.len<=(postB (pre++rs)).length/\((postB (pre++rs)).drop e.off).take e.len=encPs r.2
 | [],pre,e,h=>by cases h
 | r::t,pre,e,h=>by
  unfold enOf at h;have j:postB (pre++r::t)=postB pre++(encPs r.2++postB t):=by rw[Cx];rfl
  rcases List.mem_cons.1 h with rfl | h
  ·refine⟨r,List.mem_cons_self ..,rfl,rfl,by rw[j];simp only[List.length_append];omega,?_⟩;simp only[j];rw[List.drop_left,List.take_left]
  ·have b:(postB (pre ++ [r])).length=(postB pre).length+(encPs r.2).length:=by rw[Cx,List.length_append];congr 1;unfold postB;simp
   rw[<-b]at h;obtain⟨r',a,h1,h2,H,Y⟩:=MT t (pre ++ [r]) e h;rw[List.append_assoc,List.singleton_append]at H Y;exact⟨r',List.mem_cons_of_mem _ a,h1,h2,H,Y⟩
def PostsR (P:List Dc) (t:List UInt8) (w:World) (e:Ending) (w':World):Prop:=Ext w w'/\((∃r∈rowsD P,r.1=t/\∃(ps:List PoC) (A:Option Addr) (c:Nat),psP ps=r.2/\e = .returned (.slice A r.2.length c)/\PosOk w' A ps)\/((∀r∈rowsD P,r.1≠t)/\e = .returned (.slice none 0 0)))
theorem Hy (g:Nat) (P:List Dc) (t:List UInt8) (w:World) (h:SegR w g P) (hP:SegP P):Calls prog 25 #[.pointer (some ⟨g,0,none⟩),.string ⟨t.toArray⟩] w fun e w'=>PostsR P t w e w':=by
 have hn:=Aa (h.none hP);have hB:=hP.sm.seg;obtain⟨ds,A,c,lo,hi,fi,la,B,cB,gd,gf,h1,h2,h3,h4,h5,h6,h7⟩:=h;have k8:=h1.cell 8 rfl;have hg:=Aa (O7 gd _ t w h5 hB.ens);obtain⟨nB,a⟩:=Ab ((postB (rowsD P)).length);rw[<-a]at h1 h6;have d0:=hB.posts;rw[<-a]at d0;replace h1:=Aa h1;replace h6:=Aa h6;replace a:=Aa a;replace hB:=Aa hB;clear h2 h3 h4 h5 h7
 go_in
 go_wp2_with fail;refine hn.out.mono ?_;rintro e w1 ⟨rfl,rfl⟩;go_wp2_with fail;refine hg.out.mono ?_;rintro e w2 ⟨J,y0⟩;rcases y0 with ⟨x,hx,j0,rfl⟩ | ⟨v0,rfl⟩
 ·obtain⟨r,hr,h0,x0,T,Z⟩:=MT (rowsD P) [] x hx;rw[List.nil_append]at T Z;rw[<-a.out]at T;obtain⟨xo,p0⟩:=Ab x.off;obtain⟨xn,q0⟩:=Ab x.len;rw[<-p0,<-q0]at T Z ⊢;have U:=hB.out.each r hr;obtain⟨A5,c5,m1,O⟩:=(h6.out.ext J).subk .i64 .i64 (fr:=xo) (k:=xn) T (z0:=(xo:Int)) (z:=(xo:Int)+(xn:Int)) rfl rfl;rw[Z]at O;have b:=fun W (hE:Ext w2 W)=>Jp A5 xn c5 (encPs r.2) W r.2 (O.ext hE) U.1 rfl U.2.2.2.1;have x1:wrap64 ((xo:Int)+(xn:Int))=(xo:Int)+(xn:Int):=by unfold wrap64;omega
  replace p0:=Aa p0;replace q0:=Aa q0;replace b:=Aa b;replace U:=Aa U;replace O:=Aa O;replace hr:=Aa hr;have Y:=h1.out.ext J;have k9:=Y.cell 9 rfl;have n0:=Y.lt;replace Y:=Aa Y;clear Z hx;replace j0:=Aa j0;replace h0:=Aa h0;replace x0:=Aa x0;go_wp2_with fail;obtain⟨W5,j⟩:=Ab (w2.alloc (Obj.cells #[.string ⟨x.t.toArray⟩,.int .i64 (xo:Int),.int .i64 (xn:Int),.int .i64 (x.n:Int)] 100));rw[<-j];have G:Ext w2 W5:=by rw[j];exact(Ext.refl w2).alloc _
  have r5:Row W5 w2.heap.size 100 #[.string ⟨x.t.toArray⟩,.int .i64 (xo:Int),.int .i64 (xn:Int),.int .i64 (x.n:Int)]:=by rw[j];exact Row.new w2 _ _
  obtain⟨g5,I⟩:=Ab w2.heap.size;rw[<-I]at r5 ⊢;have y1:=r5.cell 1 rfl;have y2:=r5.cell 2 rfl;have k95:=G.cell k9;replace r5:=Aa r5;replace j:=Aa j;replace I:=Aa I;refine AE (fun K hK=>?_);go_wp2_with fail;refine(b.out W5.drew G.drew).mono ?_;rintro e w6 ⟨ps,A6,c6,f0,rfl,e0,_,_,c0⟩;go_wp2_with fail;refine⟨by kernel_rfl,?_⟩;go_wp2_with fail;go_ret;exact⟨J.trans (G.drew.trans c0),.inl ⟨r,hr.out,h0.out.symm.trans j0.out,ps,A6,c6,f0,rfl,e0⟩⟩
 ·have H:∀r∈rowsD P,r.1≠t:=fun r hr e=>by
   have key:∀(rs:List (List UInt8×List Po)) (o:Nat),r∈rs->∃x∈enOf o rs,x.t=r.1:=by
    intro rs
    induction rs with
    | nil=>intro o h;cases h
    | cons q qs ih =>
     intro o h;unfold enOf;rcases List.mem_cons.1 h with rfl | h
     ·exact⟨_,List.mem_cons_self ..,rfl⟩
     ·obtain⟨x,hx,k0⟩:=ih _ h;exact⟨x,List.mem_cons_of_mem _ hx,k0⟩
   obtain⟨x,hx,k0⟩:=key _ 0 hr;exact v0 x hx (k0.trans e)
  unfold noEn;replace H:=Aa H;clear v0;go_wp2_with fail;go_ret;exact⟨J.alloc _,.inr ⟨H.out,rfl⟩⟩
end
section
open Go.RowKit
theorem FI {P:List Dc} (h:SegP P) (j:∀p∈framesD P,p.length<=16777216) (a:∀d∈P,I64ok' d.2.at_):openD (segL P)=some P:=by
 have h1:(segL P).take 4 = [76,83,69,71]:=rfl;have h2:(segL P).drop 4=joinL (framesD P):=rfl;have b:=J1 h.sm.ok a (by have:=h.sm.sz;omega);unfold openD;rw[if_pos h1,h2,CW _ j,if_pos ⟨rfl,rfl⟩];show (match decDs (encDs P)with | some Q=>if 0<Q.length/\segL Q=segL P then some Q else none | none=>none)=some P;rw[b];show (if 0<P.length/\segL P=segL P then some P else none)=some P;rw[if_pos ⟨h.ne,rfl⟩]
theorem SB {b:List UInt8} {P:List Dc} (h:openD b=some P):0<P.length/\segL P=b/\okDs P=true:=by
 unfold openD at h;split at h
 ·split at h
  ·split at h
   ·rename_i Q a;split at h
    ·rename_i j;injection h with h;subst h;exact⟨j.1,j.2,(Iq a).1⟩
    ·cases h
   ·cases h
  ·cases h
 ·cases h
theorem NJ {b:List UInt8} (hb:b.length<=60000) (P:List Dc) (h:decDs ((splitF (b.drop 4)).1.headD [])=some P):(blockD 0 P).length<=70000:=by
 have h1:=Iq h;have h2:((splitF (b.drop 4)).1.headD []).length<=b.length:=by
  cases hs:(splitF (b.drop 4)).1 with
  | nil=>simp
  | cons p t =>
   have:=(Fl (l:=b.drop 4) (p:=p) (by rw[hs];exact List.mem_cons_self ..)).2;rw[List.length_drop]at this;simp only[List.headD_cons];omega
 rw[<-h1.2]at h2;unfold encDs at h2;simp only[List.length_append]at h2;omega
end
section
open Go.RowKit Go.Maps
theorem J8 (P:List Dc) (J:SegP P) (Y:openD (segL P)=some P) (H:(segL P).length<=60000) (A:Option Addr) (c:Nat) (w:World) (h:Own8 w 0 A (segL P).length c (segL P)) :
 Calls prog 24 #[.slice A (segL P).length c] w fun e w'=>∃g,e = .returned (.tuple #[.pointer (some ⟨g,0,none⟩),.int .i64 0])/\SegR w' g P/\Ext w w':=by
 refine(KW A _ c (segL P) w h.2.in8 (by omega) (fun Q _ a=>NJ H Q a)).mono ?_;rintro e w' ⟨b,j⟩;rw[Y]at j;obtain⟨g,rfl,hs⟩:=j;exact⟨g,rfl,hs,b⟩
end
section
open Go.RowKit Go.Maps
theorem Oy (h:k<=c) :
 ∃A',(∀W:World,(Instr.sliceAt 30 (.slice A n c) none (some (.int .i64 k)) none).run prog W = .ok (.slice A' k c) W)/\((∀a,A=some a->a.spot=none)->A'=A):=by
 have ht:=underlying30;have j:prog.elem 30=71:=by unfold Program.elem;rw[ht]
 have hs:∀W:World,(sizeOf 71).run prog W = .ok 3 W:=fun W=>by kernel_rfl
 refine⟨if c=0 then A else A.map fun x=>x.add (0*3),fun W=>?_,fun H=>?_⟩
 ·rw[run_sliceAt_slice W _ _ _ _ _ (by rw[ht,j]),run_slice_h W _ A n c (by rw[ht,j]) .i64 k (by omega) (by omega),j,hs];simp only[Result.andThen_ok];congr 1
 ·cases A with
  | none=>simp
  | some a =>
   obtain⟨b,o,sp⟩:=a;obtain rfl:sp=none:=H _ rfl;simp[Addr.add_lit]
theorem DocsOk.take {ds:List DocC} (h:DocsOk w A ds) (k:Nat) (Y:ds ≠ []->A'=A):DocsOk w A' (ds.take k):=by
 refine⟨?_,fun x U=>h.each x (List.mem_of_mem_take U)⟩;by_cases j:ds = []
 ·left;rw[j];simp[dcells]
 ·rw[Y j];rcases h.cells with a | ⟨g,o,J,a⟩
  ·left;have H:ds.length=0:=by
    have:=congrArg List.length a;rw[Er,List.length_nil]at this;omega
   exact absurd (List.length_eq_zero_iff.1 H) j
  ·refine .inr ⟨g,o,J,fun i v b=>a i v ?_⟩;unfold dcells at b ⊢;rw[Bh (f:=DocC.cells) (k:=3) (fun _=>rfl),List.getElem?_take]at b;split at b
   ·exact b
   ·cases b
end
end Go.Proofs.YtfifdilapbeiiaaGreat
