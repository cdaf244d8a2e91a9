/- Texts of one proof, joined. -/
import Derived.Test.YtfifdilapbeiiaaGreatPP03
import Derived.Lib.SliceRun
import Derived.Test.YtfifdilapbeiiaaGreatPPShelf
import Derived.Deep.Onto
import Derived.WalkMore
set_option linter.unusedSimpArgs false
set_option linter.unusedVariables false
set_option maxRecDepth 100000
set_option maxHeartbeats 16000000
namespace Go.Proofs.YtfifdilapbeiiaaGreat
open _root_.Go.Proofs.Tryz
variable {ops:Array Oper} {cs:Array Value} {Q:Exit → Act → World → Prop} {rs:List Nat} {L l r s:List UInt8} {news us xs:List Value} {c d g i k m n p1 p2 x y:Nat} {S:Nat → Prop} {o:Oper} {A:Option Addr} {P:Program} {e t:TypeId} {v:Value} {W W1 w w' w0 w1 wr:World}
section
open Go.RowKit
def NewPs (w:World) (L:List Po) (e:Ending) (w':World):Prop:=∃(ps:List PoC) (A:Option Addr) (c:Nat),psP ps=L/\e = .returned (.tuple #[.slice A L.length c,.int .i64 0])/\PosOk w' A ps/\(∀a,A=some a->a.spot=none)/\L.length<=c/\Ext w w'
theorem NB {L:List Po} (h:okPs L=true) (j:(blockPo (-1) L).length<=50000000):(encPs L).length<=60000000:=by
 have h1:=E6 h;have h2:=E8 h j (chunkL 32 L).length;rw[List.take_length]at h2;have b:=AO (k:=32) (by omega) L;have a:=Ag (n:=L.length) (by omega);unfold encPs;rw[List.length_append,List.length_append];omega
theorem Pb:Elem prog 47 89 2 32:=⟨underlying47,⟨_,_,rfl,rfl,rfl,rfl,rfl⟩,by omega,by omega⟩
structure PoRead (L:List Po) (i:Nat) (p:Po) (la:Int):Prop where
  eq:la=lastPo (-1) (L.take i)
  lo : -1<=la
  hi:la<65536
  lt:la<p.1
  lt2:p.1<65536
  pos:0<p.2.length
  ris:risB 1048576 (-1) p.2=true
  len:p.2.length<=1048576
  rest:blockPo la (L.drop i)=vb (p.1 - la - 1).toNat++(vb p.2.length++(stepsL (-1) p.2++blockPo p.1 (L.drop (i+1))))
  next:lastPo (-1) (L.take (i+1))=p.1
  all:(blockPo la (L.drop i)).length<=(blockPo (-1) L).length
theorem Q1 {L:List Po} (h:okPs L=true) {p:Po} (b:L[i]? = some p):PoRead L i p (lastPo (-1) (L.take i)):=by
 rw[Ed,Bool.and_eq_true]at h;have h1:=FK i h.1;have hb:=Cw (l:=L.take i) (lo:= -1) (n:=65536) (by rw[List.map_take];exact Bp _ h.1) (by omega);rw[AY b,List.map_cons]at h1;obtain⟨h2,a,H⟩:=BW h1;have j:=List.all_eq_true.1 h.2 p (List.mem_of_getElem? b);unfold okPo at j;rw[Bool.and_eq_true]at j;have Y:=DU j.2 (by omega);refine⟨rfl,hb.1,hb.2,h2,a,of_decide_eq_true j.1,j.2,by omega,?_,?_,?_⟩
 ·rw[AY b];show onePo _ p++blockPo p.1 _=_;unfold onePo;simp
 ·rw[List.take_add_one,b,CD];rfl
 ·conv=>rhs;rw[<-List.take_append_drop i L,Be,List.length_append]
  omega
structure Done (w wr:World) (A:Option Addr) (i c:Nat) (dn:List PoC):Prop where
  len:dn.length=i
  own:wr.ownsRow w.heap.size 89 2 (.slice A i c) i (pcells dn)
  each:∀x∈dn,Buf wr w.heap.size 3 x.A x.pos.length x.c (x.pos.map IV)/\x.pos.length<=1000000000
theorem Done.chg {dn:List PoC} (h:Done w wr A i c dn) (Y:Chg S wr w1) (H:∀k,S k->∃t cs,Row wr k t cs/\t≠89/\t≠3):Done w w1 A i c dn:=by
 refine⟨h.len,Y.owns h.own fun g U hs=>?_,fun x b=>⟨(h.each x b).1.chg Y fun a J hs=>?_,(h.each x b).2⟩⟩
 ·obtain⟨t,cs,j,h1,_⟩:=H _ hs;exact Am h.own j (fun e=>h1 e.symm) U
 ·obtain⟨t,cs,j,_,h2⟩:=H _ hs;exact(h.each x b).1.unlike j (fun e=>h2 e.symm) a J rfl
theorem JD:∀ {l:List Int} {lo:Int},risB 1048576 lo l=true -> -1<=lo->(stepsL lo l).length<=10*l.length:=fun h h2=>by have:=HD h h2;omega
theorem AN (w:World) (us:List Value) (T:TypeId):Cells (w.alloc (.cells us.toArray T)) (some ⟨w.heap.size,0,none⟩) us :=
 .inr ⟨w.heap.size,0,rfl,fun i u h=>by
  rw[Nat.zero_add,cell_of_row _ _ _ _ _ _ (heap_alloc_new w _)];simpa using h⟩
theorem Done.pos {dn:List PoC} (h:Done w wr A i c dn):PosOk wr A dn:=⟨Cells.of_own h.own,fun x j=>⟨(h.each x j).1.cells,(h.each x j).2⟩⟩
theorem RdSt.rows (h:RdSt w0 p1 p2 r W) (j:∀g t cs,Row W g t cs->t=24\/t=4->Row W1 g t cs) (b:Ext w0 W1):RdSt w0 p1 p2 r W1:=by
 obtain⟨A,c,r1,r2,hi,_⟩:=h;exact⟨A,c,j _ _ _ r1 (.inl rfl),j _ _ _ r2 (.inr rfl),hi,b⟩
theorem Cu {base n c:Nat} (hb:Buf w base e A n c xs) (b:w.grownBy w1 (Value.slice A n c).ownBlock) (j:Row w g t cs) (ht:t≠e):Row w1 g t cs :=
 j.grown b fun h=>by
  cases A with
  | none=>simp[Value.ownBlock]at h
  | some a=>exact hb.unlike j (fun e=>ht e.symm) a rfl (by simpa [Value.ownBlock]using h.symm)
theorem Jp (A:Option Addr) (n c:Nat) (bs:List UInt8) (w:World) (L:List Po) (h:In8 w A n c bs) (x0:okPs L=true) (k2:bs=encPs L) (j1:(blockPo (-1) L).length<=50000000) :
 Calls prog 60 #[.slice A n c] w fun e w'=>NewPs w L e w':=by
 have d6:=NB x0 j1;rw[<-k2,<-h.len]at d6;obtain⟨m,hm⟩:=Ab L.length;have b7:m<=65536:=by rw[hm];exact E6 x0
 obtain⟨R,hR⟩:=Ab (headPo (-1) (chunkL 32 L)++blockPo (-1) L);have f0:bs=vb m++R:=by rw[k2,hR,hm];unfold encPs;rw[List.append_assoc]
 have g0:n=(vb m++R).length:=by rw[<-f0];exact h.len
 obtain⟨W0,n0⟩:=Ab ((w.alloc (Obj.cells #[.slice A n c] 24)).alloc (Obj.cells #[.bool false] 4));obtain⟨p1,f2⟩:=Ab w.heap.size;have c4:RdSt w p1 (p1+1) (vb m++R) W0:=by
  have r1:Row W0 p1 24 #[.slice A n c]:=by rw[n0,f2];exact(Row.new w _ _).alloc _
  have r2:Row W0 (p1+1) 4 #[.bool false]:=by
   have:=Row.new (w.alloc (Obj.cells #[.slice A n c] 24)) 4 #[.bool false];rw[World.size_alloc,<-f2]at this;rw[n0];exact this
  refine⟨A,c,by rw[<-g0];exact r1,r2,by rw[<-g0,<-f0];exact h,by rw[n0];exact((Ext.refl w).alloc _).alloc _⟩
 have p0:=Aa (fun W q r z h1 h2 h3 h4=>LZ w W p1 (p1+1) q r z h1 (by omega) (by omega) h2 h3 h4);replace c4:=Aa c4;replace x0:=Aa x0;replace j1:=Aa j1;replace k2:=Aa k2;replace f0:=Aa f0;replace hR:=Aa hR;replace n0:=Aa n0;replace f2:=Aa f2;replace h:=Aa h;replace g0:=Aa g0;replace hm:=Aa hm
 go_in
 go_wp2_with fail;rw[<-n0.out,<-f2.out];refine(p0.out W0 m R 65536 c4.out (by omega) (by omega) (by rw[<-g0.out];omega)).mono ?_;rintro e w1 ⟨rfl,d4,t4⟩;replace d4:=Aa d4;replace t4:=Aa t4;obtain⟨nc,a2⟩:=Ab ((chunkL 32 L).length);have d2:((m:Int)+32 - 1) / 32=(nc:Int):=by rw[a2,AO (by omega),hm.out];omega
 have p7:nc<=4096:=by omega
 have a4:R.length<=100000000:=by have:=g0.out;rw[List.length_append]at this;omega
 replace a2:=Aa a2;replace a4:=Aa a4;replace d2:=Aa d2;go_wp2_with fail;rw[d2.out]
 go_loopw [24] (fun s24 wr=>∃(k:Nat) (r:List UInt8),s24 = .int .i64 (k:Int)/\k<=nc/\Hid (r.length<=100000000)/\Hid (r=headPo (lastPo (-1) (L.take (k*32))) ((chunkL 32 L).drop k)++blockPo (-1) L)/\Hid (RdSt w p1 (p1+1) r wr)/\Hid (Chg (fun k=>k=p1) W0 wr)) (fun s24 _=>nc - (intOf s24).toNat)
 case atStart=>exact⟨0,R,rfl,by omega,a4,Aa (by rw[hR.out];simp[lastPo]),d4,t4⟩
 case round =>
  obtain⟨k,r,rfl,hk,j6,hr,hS,hC⟩:=hrel;by_cases z7:k<nc
  ·have x2:k*32<L.length:=by
    rcases Nat.lt_or_ge (k*32) L.length with h1 | h1
    ·exact h1
    ·have:=Cb (k:=32) (by omega) k L h1;rw[<-a2.out]at this;omega
   have j:=Hb x0.out j1.out x2;have n4:=AY (BQ (k:=32) (by omega) k L x2);obtain⟨bP,d3⟩:=Ab ((L.drop (k*32)).take 32);obtain⟨lst,l0⟩:=Ab (lastPo (-1) (L.take (k*32)));rw[<-d3,<-l0]at j;rw[<-d3]at n4;have k5:=hr.out;rw[n4,<-l0]at k5;obtain⟨q1,c0⟩:=Ab ((lastPo lst bP).toNat:Nat);obtain⟨q2,o2⟩:=Ab ((blockPo lst bP).length:Nat);have g4:(q1:Int)<=65536:=by have:=j.hi2;omega
   obtain⟨r2,q3⟩:=Ab (headPo (lastPo lst bP) ((chunkL 32 L).drop (k+1))++blockPo (-1) L);have j5:r=vb q1++(vb q2++r2):=by
    rw[k5,q3,c0,o2];show (vb _++vb _++headPo _ _)++_=_;simp
   have m4:(q2:Int)<=(n:Int):=by
    have h1:=j.len;have h2:=g0.out;rw[hR.out]at h2;simp only[List.length_append]at h2;omega
   have J:(vb q1++(vb q2++r2)).length<=100000000:=by rw[<-j5];exact j6.out
   have t0:(vb q2++r2).length<=100000000:=by rw[List.length_append]at J;omega
   have O:r2.length<=100000000:=by rw[List.length_append]at t0;omega
   have i4:=Aa (fun W h=>p0.out W q1 (vb q2++r2) 65536 h g4 (by omega) (by omega));have l4:=Aa (fun W h=>p0.out W q2 r2 (n:Int) h m4 (by omega) (by omega));have b4:Hid (RdSt w p1 (p1+1) (vb q1++(vb q2++r2)) wr):=Aa (by rw[<-j5];exact hS.out);have k6:Hid (r2=headPo (lastPo (-1) (L.take ((k+1)*32))) ((chunkL 32 L).drop (k+1))++blockPo (-1) L):=Aa (by rw[j.last2];exact q3);clear k5 j5 J t0 j n4 q3 m4 g4 x2;replace d3:=Aa d3;replace l0:=Aa l0;replace c0:=Aa c0;replace o2:=Aa o2;replace O:=Aa O;go_wp2_with fail;refine(i4.out _ b4.out).mono ?_;rintro e w3 ⟨rfl,I,v4⟩;replace I:=Aa I;replace v4:=Aa (hC.out.trans v4 fun _ _ h=>h);go_wp2_with fail;refine(l4.out _ I.out).mono ?_;rintro e w4 ⟨rfl,v0,j0⟩;replace v0:=Aa v0;replace j0:=Aa (v4.out.trans j0 fun _ _ h=>h);go_wp2_with fail;exact⟨⟨k+1,r2,by congr 1,by omega,O,k6,v0,j0⟩,by simp only[intOf];omega⟩
  ·have g6:r=blockPo (-1) (L.drop 0):=by
    rw[hr.out,List.drop_eq_nil_of_le (by rw[<-a2.out];omega),headPo,List.nil_append,List.drop_zero]
   have b4:Hid (RdSt w p1 (p1+1) (blockPo (-1) (L.drop 0)) wr):=Aa (by rw[<-g6];exact hS.out);clear g6 hr hS j6;go_wp2_with fail
   go_loopw [8,9,10] (fun s8 s9 s10 wv=>∃(i c8:Nat) (A8:Option Addr) (la:Int) (dn:List PoC),s8 = .slice A8 i c8/\s9 = .int .i64 la/\s10 = .int .i64 (i:Int)/\i<=m/\Hid (la=lastPo (-1) (L.take i))/\Hid (RdSt w p1 (p1+1) (blockPo la (L.drop i)) wv)/\Hid (Done w wv A8 i c8 dn)/\Hid (psP dn=L.take i)) (fun _ _ s10 _=>m - (intOf s10).toNat)
   case atStart=>exact⟨0,0,none,-1,[],rfl,rfl,rfl,by omega,Aa rfl,b4,Aa ⟨rfl,World.ownsRow_nil _ _ _ _,nofun⟩,Aa rfl⟩
   case round =>
    obtain⟨i,c8,A8,la,dn,rfl,rfl,rfl,him,i6,G,k1,h6⟩:=hrel;obtain⟨wv,rfl⟩:=Ab wr;obtain⟨B0,d0,r10,r20,_,_⟩:=G.out;have kw:=r20.cell 0 rfl;clear r10 r20;by_cases f6:i<m
    ·obtain⟨p,l3⟩:∃p,L[i]? = some p:=⟨_,List.getElem?_eq_getElem (by rw[<-hm.out];exact f6)⟩
     have j:=Q1 x0.out l3;rw[<-i6.out]at j;have I:=G.out;rw[j.rest]at I;have J:=j.all;rw[j.rest]at J;obtain⟨d,pos⟩:=p;have m7:la<d:=j.lt;have t7:d<65536:=j.lt2;have a7:=j.lo;have y7:=j.hi;simp only at I J;obtain⟨q1,c0⟩:=Ab ((d - la - 1).toNat:Nat);have v7:la+1+(q1:Int)=d:=by omega
     obtain⟨pl,k0⟩:=Ab pos.length;obtain⟨tl,q4⟩:=Ab (blockPo d (L.drop (i+1)));rw[<-c0,<-k0,<-q4]at I J;have k4:(vb q1++(vb pl++(stepsL (-1) pos++tl))).length<=50000000:=Nat.le_trans J j1.out;have t0:(vb pl++(stepsL (-1) pos++tl)).length<=50000000:=by rw[List.length_append]at k4;omega
     have O:(stepsL (-1) pos++tl).length<=50000000:=by rw[List.length_append]at t0;omega
     have k7:pl<=1048576:=by have:=j.len;rw[k0];exact this
     obtain⟨mn,q5⟩:∃mn:Nat,(mn:Int)=min 1048576 (n:Int):=⟨min 1048576 n,by omega⟩
     have i2:(pl:Int)<=(mn:Int):=by
      have h1:=FR pos (-1);have h2:=j.all;have h3:=g0.out;rw[hR.out,List.length_append,List.length_append]at h3;rw[j.rest]at h2;simp only[List.length_append]at h2;omega
     have r5:(mn:Int)<=1099511627776:=by omega
     have q7:=fun(W:World)=>AQ (P:=prog) #[3,3] 3 q5 W;have i4:=Aa (fun W h=>p0.out W q1 (vb pl++(stepsL (-1) pos++tl)) 65536 h (by omega) (by omega) (by omega));have l4:=Aa (fun W h=>p0.out W pl (stepsL (-1) pos++tl) (mn:Int) h i2 r5 (by omega));replace q5:=Aa q5;replace I:=Aa I;replace j:=Aa j;replace l3:=Aa l3;replace c0:=Aa c0;replace k0:=Aa k0;replace q4:=Aa q4;replace i2:=Aa i2;clear J k4 t0;replace O:=Aa O;go_wp2_with fail;refine(i4.out _ I.out).mono ?_;rintro e w3 ⟨rfl,v0,j0⟩;obtain⟨g11,m0⟩:=Ab w3.heap.size;obtain⟨W4,o0⟩:=Ab (w3.alloc (.cells #[.int .i64 d,.slice none 0 0] 89));have g5:Row W4 g11 89 #[.int .i64 d,.slice none 0 0]:=by rw[o0,m0];exact Row.new w3 _ _
     have f1:RdSt w p1 (p1+1) (vb pl++(stepsL (-1) pos++tl)) W4:=by rw[o0];exact v0.ext ((Ext.refl w3).alloc _)
     have x4:Chg (fun k=>k=p1) wv W4:=by rw[o0];exact j0.trans (Chg.of_ext ((Ext.refl w3).alloc _) _) fun _ _ h=>h
     have e6:wv.heap.size<=g11:=by rw[m0];exact j0.size
     replace v0:=Aa v0;replace j0:=Aa j0;replace f1:=Aa f1;replace x4:=Aa x4;replace g5:=Aa g5;replace o0:=Aa o0;replace m0:=Aa m0;go_wp2_with fail;rw[<-o0.out,<-m0.out];refine(l4.out _ f1.out).mono ?_;rintro e w5 ⟨rfl,e4,x3⟩;have l6:Hid (Row w5 g11 89 #[.int .i64 d,.slice none 0 0]):=Aa (x3.row g5.out (by rintro rfl;have:=G.out;obtain⟨_,_,q,_⟩:=this;have:=q.lt;omega));replace x3:=Aa (x4.out.trans x3 fun _ _ h=>h);replace e4:=Aa e4;obtain⟨sz,Y⟩:=Ab wv.heap.size;rw[<-Y]at e6;replace Y:=Aa Y;go_wp2_with fail
     go_loopw [12,13] (fun s12 s13 w6=>∃(t c3:Nat) (A3:Option Addr) (z:Int),s12 = .int .i64 z/\s13 = .int .i64 ((pl - t:Nat):Int)/\t<=pl /\ -1<=z/\z<1048576/\Hid (risB 1048576 z (pos.drop t)=true)/\Hid (RdSt w p1 (p1+1) (stepsL z (pos.drop t)++tl) w6)/\Hid (Row w6 g11 89 #[.int .i64 d,.slice A3 t c3])/\Hid (Buf w6 sz 3 A3 t c3 ((pos.take t).map IV))/\Hid (Chg (fun k=>k=p1) wv w6)) (fun _ s13 _=>(intOf s13).toNat)
     case atStart=>exact⟨0,0,none,-1,rfl,rfl,by omega,by omega,by omega,Aa j.out.ris,e4,l6,Aa (Buf.nil _ _ _),x3⟩
     case round =>
      obtain⟨t,c3,A3,z,rfl,rfl,ht,h7,f7,m6,z3,o3,f4,z5⟩:=hrel;obtain⟨B1,d1,r11,r21,_,_⟩:=z3.out;have kw2:=r21.cell 0 rfl;clear r11 r21;by_cases o6:t<pl
      ·obtain⟨x,j3⟩:∃x,pos[t]? = some x:=⟨_,List.getElem?_eq_getElem (by rw[<-k0.out];exact o6)⟩
       have p3:=m6.out;have H:=z3.out;rw[AY j3]at p3 H;obtain⟨d7,e7,k3⟩:=BW p3;obtain⟨q,hq⟩:=Ab ((x - z - 1).toNat:Nat);have c7:z+(1+(q:Int))=x:=by omega
       have a3:Hid (RdSt w p1 (p1+1) (vb q++(stepsL x (pos.drop (t+1))++tl)) wr):=Aa (by
        rw[hq,<-List.append_assoc];exact H)
       have o2:(q:Int)<=1048576:=by omega
       have y2:(vb q++(stepsL x (pos.drop (t+1))++tl)).length<=1000000000:=by
        have h1:=O.out;rw[List.length_append]at h1;have h3:(stepsL z (pos.drop t)).length=(vb q).length+(stepsL x (pos.drop (t+1))).length:=by
         rw[AY j3,hq,<-List.length_append];rfl
        have h4:(stepsL z (pos.drop t)).length<=10*(pos.drop t).length:=JD m6.out h7;rw[List.length_drop,<-k0.out]at h4;rw[List.length_append,List.length_append];omega
       have c6:=Aa (p0.out wr q (stepsL x (pos.drop (t+1))++tl) 1048576 a3.out o2 (by omega) y2);have m5:(pos.take (t+1)).map IV=(pos.take t).map IV ++ [.int .i64 x]:=by
        rw[List.take_add_one,j3,List.map_append];rfl
       have n5:g11≠p1:=by rintro rfl;obtain⟨_,_,q,_⟩:=G.out;have:=q.lt;have:=Y.out;omega
       clear p3 H y2 a3;replace hq:=Aa hq;replace j3:=Aa j3;replace k3:=Aa k3;replace m5:=Aa m5;go_wp2_with fail;refine c6.out.mono ?_;rintro e w8 ⟨rfl,H,m1⟩;have r3:=m1.row o3.out n5;have h0:Buf w8 sz 3 A3 t c3 ((pos.take t).map IV):=f4.out.chg m1 (by
        obtain⟨_,_,q,_⟩:=z3.out;intro a ha e;exact f4.out.unlike q (by decide) a ha e)
       have y3:=z5.out.trans m1 fun _ _ h=>h;have y1:=r3.cell 1 rfl;have j7:sz<=w8.heap.size:=by rw[Y.out];exact y3.size
       replace r3:=Aa r3;replace h0:=Aa h0;replace y3:=Aa y3;replace H:=Aa H;replace m1:=Aa m1;have y4:Ext w w8:=by obtain⟨_,_,_,_,_,q⟩:=H.out;exact q
       replace y4:=Aa y4;go_wp2_with (at_builtin;refine Al RU (h0.out.alloc _) (AN w8 [.int .i64 x] _) (.tmp 67) (.tmp 69) rfl rfl rfl rfl rfl rfl (Az rfl) (by omega) (by simp;omega) (fun A9 c9 w9 b3 q0 t5 J=>?_);have r89:=Cu (h0.out.alloc _) q0 (r3.out.alloc _) (by decide);have u0:=r89.cell 1 rfl;have u1:=r89.free 1;replace r89:=Aa r89;replace b3:=Aa b3;replace q0:=Aa q0;replace t5:=Aa t5;replace J:=Aa J);obtain⟨W10,i1⟩:=Ab (w8.alloc (.cells #[.int .i64 x] 3));have h5:=q0.out;rw[<-i1]at h5;have a1:Ext w8 W10:=by rw[i1];exact(Ext.refl w8).alloc _
       have o1:Buf W10 sz 3 A3 t c3 ((pos.take t).map IV):=by rw[i1];exact h0.out.alloc _
       have z4:Ext w w9:=t5.out w ((y4.out).alloc _) (by rw[Y.out];obtain⟨_,_,_,_,_,q⟩:=G.out;exact q.size);have p4:RdSt w p1 (p1+1) (stepsL x (pos.drop (t+1))++tl) w9:=(H.out.ext a1).rows (fun g T cs hr hT=>Cu o1 h5 hr (by rcases hT with rfl | rfl <;> decide)) z4;have r4:w.heap.size<=g11:=by obtain⟨_,_,_,_,_,q⟩:=G.out;have:=q.size;have:=Y.out;omega
       have b5:RdSt w p1 (p1+1) (stepsL x (pos.drop (t+1))++tl) (w9.setCell ⟨g11,1,none⟩ (.slice A9 (t+1) c9)):=by
        refine p4.chg (S:=fun k=>k=g11) (Chg.of_set _ _ rfl) (fun e=>n5 e.symm) (fun e=>?_) (fun k hk=>by rw[hk];exact r4);obtain⟨_,_,q,q2,_,_⟩:=p4;exact Row.unlike q2 r89.out (by decide) e
       have p6:=r89.out.put 1 (.slice A9 (t+1) c9);have i5:Buf (w9.setCell ⟨g11,1,none⟩ (.slice A9 (t+1) c9)) sz 3 A9 (t+1) c9 ((pos.take (t+1)).map IV):=by
        rw[m5.out];exact b3.out.setCell (b3.out.unlike r89.out (by decide)) _
       have y5:Chg (fun k=>k=p1) wv (w9.setCell ⟨g11,1,none⟩ (.slice A9 (t+1) c9)):=by
        refine((y3.out.trans (Chg.of_ext a1 (fun k=>k=p1)) fun _ _ h=>h).trans (Chg.of_grown h5 (S:=fun k=>sz<=k) fun k _ hk=>?_) fun i hi h=>?_).trans (Chg.of_set (S:=fun k=>k=g11) _ _ rfl) fun i hi h=>?_
        ·have:=o1.base_le;cases A3 with
         | none=>simp[Value.ownBlock]at hk
         | some a=>have:=this a rfl;simp[Value.ownBlock]at hk;omega
        ·have:=Y.out;omega
        ·have:=Y.out;omega
       exact⟨⟨t+1,c9,A9,x,by congr 1,by congr 1;omega,by omega,by omega,by omega,k3,Aa b5,Aa p6,Aa i5,Aa y5⟩,by simp only[intOf];omega⟩
      ·obtain rfl:t=pl:=by omega
       have o4:pos.drop t = []:=List.drop_eq_nil_of_le (by rw[k0.out];exact Nat.le_refl _);have H:=z3.out;rw[o4]at H;have H:RdSt w p1 (p1+1) tl wr:=H;have h0:=f4.out;rw[List.take_of_length_le (by rw[k0.out];exact Nat.le_refl _)]at h0;have y0:=o3.out.cell 0 rfl;have y1:=o3.out.cell 1 rfl;have x7:=o3.out.get;have j2:Done w wr A8 i c8 dn:=k1.out.chg z5.out fun k hk=>by
        obtain⟨_,_,q,_⟩:=G.out;exact⟨_,_,hk ▸ q,by decide,by decide⟩
       have r6:w.heap.size<=wr.heap.size:=by obtain⟨_,_,_,_,_,q⟩:=H;exact q.size
       have U:=j2.own;replace H:=Aa H;replace h0:=Aa h0;replace o4:=Aa o4;replace j2:=Aa j2;replace U:=Aa U;go_wp2_with (at_builtin;refine Ch Pb U.out (.tmp 74) (.tmp 76) rfl rfl rfl rfl rfl (Az rfl) (by omega) r6 (fun A9 c9 w9 p5 q0 J=>?_);replace p5:=Aa p5;replace q0:=Aa q0;replace J:=Aa J);have f5:∀ {n c:Nat} {A:Option Addr} {xs:List Value} {b:Nat},Buf wr b 3 A n c xs->Buf w9 b 3 A n c xs:=fun hb=>hb.grown q0.out fun a ha e=>Nm hb U.out (by decide) a ha e;have n6:∀g T cs,Row wr g T cs->T≠89->Row w9 g T cs:=fun g T cs hr hT=>hr.grown q0.out fun e=>Am U.out hr (fun e=>hT e.symm) e.symm;have z4:Ext w w9:=by
        obtain⟨_,_,_,_,_,q⟩:=H.out;refine q.grown q0.out fun k hk=>?_;obtain⟨_,_,hb⟩:=Ae U.out hk;exact hb
       have b6:Buf w9 w.heap.size 3 A3 t c3 (pos.map IV):=(f5 h0.out).lower (by rw[Y.out];obtain⟨_,_,_,_,_,q⟩:=G.out;exact q.size);have a3:RdSt w p1 (p1+1) (blockPo d (L.drop (i+1))) w9:=by
        rw[<-q4.out];exact H.out.rows (fun g T cs hr hT=>n6 g T cs hr (by rcases hT with rfl | rfl <;> decide)) z4
       have o5:pos.length=t:=k0.out.symm;have l5:Done w w9 A9 (i+1) c9 (dn ++ [⟨d,pos,A3,c3⟩]):=by
        refine⟨by rw[List.length_append,k1.out.len];rfl,?_,fun y hy=>?_⟩
        ·have h:=p5.out;have e:pcells (dn ++ [⟨d,pos,A3,c3⟩])=pcells dn ++ [.int .i64 d,.slice A3 t c3]:=by
          unfold pcells;rw[List.flatMap_append];simp[PoC.cells,o5]
         rw[e];exact h
        ·rcases List.mem_append.1 hy with hy | hy
         ·exact⟨f5 (j2.out.each y hy).1,(j2.out.each y hy).2⟩
         ·rw[List.mem_singleton.1 hy];simp only[o5];exact⟨b6,by omega⟩
       have q6:psP (dn ++ [⟨d,pos,A3,c3⟩])=L.take (i+1):=by
        rw[List.take_add_one,l3.out,<-h6.out];unfold psP;rw[List.map_append];rfl
       exact⟨⟨i+1,c9,A9,d,dn ++ [⟨d,pos,A3,c3⟩],rfl,rfl,rfl,by omega,Aa j.out.next.symm,Aa a3,Aa l5,Aa q6⟩,by simp only[intOf];omega⟩
    ·obtain rfl:i=m:=by omega
     have Z:=h6.out;rw[List.take_of_length_le (by rw[hm.out];exact Nat.le_refl _)]at Z;have r0:=BN k1.out.own;have i0:=E7 dn A8 i c8 wv k1.out.len.symm k1.out.pos r0.2 r0.1 (by rw[Z];exact x0.out) (by rw[Z];exact j1.out);rw[Z,<-k2.out]at i0;replace i0:=Aa i0;replace Z:=Aa Z;go_wp2_with fail;refine i0.out.mono ?_;rintro e w5 y6;obtain⟨A5,c5,rfl,t3,x1⟩:=y6;have e0:Ext w w5:=by obtain⟨_,_,_,_,_,q⟩:=G.out;exact q.trans x1
     have f1:=G.out.ext x1;obtain⟨B5,d5,_,r25,_,_⟩:=f1;have kw5:=r25.cell 0 rfl;clear r25;obtain⟨nb,i3⟩:=Ab bs.length;rw[<-i3]at t3 ⊢;have j4:nb=n:=by rw[i3];exact h.out.len.symm
     have e3:=GJ A5 A nb n c5 c bs bs w5 t3.2.in8 (h.out.ext e0) (by omega) (by omega);rw[decide_eq_true rfl]at e3;have m2:=k1.out.pos.ext x1;replace e3:=Aa e3;replace i3:=Aa i3;replace m2:=Aa m2;replace e0:=Aa e0;replace x1:=Aa x1;replace t3:=Aa t3;replace r0:=Aa r0;replace j4:=Aa j4;go_wp2_with fail;refine e3.out.mono ?_;rintro e w6 ⟨rfl,a5⟩;go_wp2_with fail;go_ret2;exact⟨dn,A8,c8,Z.out,by rw[hm.out];rfl,m2.out.ext a5,r0.out.2,by rw[<-hm.out];exact r0.out.1,e0.out.trans a5⟩
theorem Qb {a:Act} {K:Act->World->Prop} {E0:Prop} {t e size bytes:Nat} (E:Elem P t e size bytes) (Y:o.guard=none)
 {base:Nat} (b:w.ownsRow base e size v n xs) (Z:Cells w A news) (s x:Operand)
 (T:o.op = .call { callee:= .builtin .append,args:=#[s,x],argTypes:=#[t,t] })
 (hs:a.eval s=v) (G:a.eval x = .slice A m c) (O:news.length=m*size) (h1:∀u∈news,u.oneCell'=true) (J:n+m<=4294967296) (j:base<=w.heap.size)
 (h:∀A1 c1 w',w'.ownsRow base e size (.slice A1 (n+m) c1) (n+m) (xs++news)->w.grownBy w' v.ownBlock->K (a.put o.dst (.slice A1 (n+m) c1)) w') :
 if Region.wanted o (yielded ops a.tmps)=true then Oper.wp P o a w K Q else E0:=by
 rw[if_pos (by simp[Region.wanted,Y])];obtain⟨A1,c1,w',H,h2,U,I⟩:=Ds (P:=P) E w o.type b (c:=c) Z O h1 J j;unfold Oper.wp execOp;simp only[T,resolve,invoke,builtin,Sem.run_bind,Sem.run_pure,Result.andThen_ok,List.map_toArray,List.map_cons,List.map_nil,hs,G,H];exact h A1 c1 w' h2 U
theorem OH {a:Act} {K:Act->World->Prop} {E0:Prop} {T:TypeId} {t e size bytes m k:Nat} (E:Elem P t e size bytes) (Y:o.guard=none)
 {base:Nat} (b:w0.ownsRow base e size v n xs) (hk:k=w0.heap.size) (s x:Operand)
 (Z:o.op = .call { callee:= .builtin .append,args:=#[s,x],argTypes:=#[t,t] })
 (hs:a.eval s=v) (I:a.eval x = .slice (some ⟨k,0,none⟩) m m) (O:us.length=m*size) (h1:∀u∈us,u.oneCell'=true) (U:n+m<=4294967296) (H:base<=w0.heap.size)
 (h:∀A1 c1 w',w'.ownsRow base e size (.slice A1 (n+m) c1) (n+m) (xs++us)->w0.grownBy w' v.ownBlock->K (a.put o.dst (.slice A1 (n+m) c1)) w') :
 if Region.wanted o (yielded ops a.tmps)=true then Oper.wp P o a (w0.alloc (.cells us.toArray T)) K Q else E0:=by
 subst hk;refine Qb E Y (((Ext.refl w0).alloc _).owns b) (A:=some ⟨w0.heap.size,0,none⟩) (news:=us) (.inr ⟨w0.heap.size,0,rfl,fun i u G=>?_⟩) s x Z hs I O h1 U (by simp;omega) fun A1 c1 w' h2 j=>?_
 ·rw[Nat.zero_add,cell_of_row _ _ _ _ _ _ (heap_alloc_new w0 _)];simpa using G
 ·exact h A1 c1 w' h2 ⟨j.os,j.tape,j.output,Nat.le_trans (by simp) j.size,fun k hk J=>(j.block k (by simp;omega) J).trans (Below.heap_alloc w0 _ k hk)⟩
end
section
open Go.RowKit Go.Maps
theorem UP (a:Addr) (n c:Nat) (l:List Int) (w:World) (hn:n=l.length) (J:Cells w (some a) (l.map IV)) (O:n<=1073741824) :
 Calls prog 75 #[.slice (some a) n c] w fun e w'=>∃A1 c1,e = .returned (.slice A1 n c1)/\w'.ownsRow w.heap.size 3 1 (.slice A1 n c1) n (l.map IV)/\Ext w w':=by
 have G:=fun W=>Lib.run_eql_slice_nil (P:=prog) W 43 3 (some a) n c 0 0 underlying43;have T:=IN w 3;have h:Ext w (w.alloc (.cells #[] 3)):=(Ext.refl w).alloc _;have hb:=J.ext h;have j:(l.map IV).length=n*1:=by rw[List.length_map,hn];omega
 have h1:∀u∈l.map IV,u.oneCell'=true:=fun u Z=>by obtain⟨x,_,rfl⟩:=List.mem_map.1 Z;rfl
 have Y:w.heap.size<=(w.alloc (.cells #[] 3)).heap.size:=h.size;replace j:=Aa j;replace hn:=Aa hn
 go_in
 go_wp2_with (at_builtin;refine AV (m:=n) FY T hb (.tmp 5) (.tmp 6) rfl rfl rfl rfl rfl j.out h1 (by omega) Y (fun A1 c1 w3 b H U=>?_));go_ret;rw[Nat.zero_add]at b;exact⟨A1,c1,by simp,b,h.grown H (fun k hk=>by cases hk;exact Nat.le_refl _)⟩
end
section
open Go.RowKit
structure Spn where
  lo:Int
  hi:Int
  but:Int
def Spn.cells (s:Spn):Array Value:=#[.int .i64 s.lo,.int .i64 s.hi,.int .i64 s.but]
def Spn.has (s:Spn) (z:Int):Bool:=inB s.lo s.hi s.but z
def spL (i:Nat):Spn:=if i=0 then ⟨65,90,-1⟩ else if i=1 then ⟨192,222,215⟩ else if i=2 then ⟨913,939,930⟩ else ⟨1040,1071,-1⟩
def spW (i:Nat):Spn:=if i=0 then ⟨48,57,-1⟩ else if i=1 then ⟨65,90,-1⟩ else if i=2 then ⟨97,122,-1⟩ else if i=3 then ⟨192,255,215⟩ else if i=4 then ⟨913,974,930⟩ else ⟨1024,1119,-1⟩
def LC:Array Value:=#[.int .i64 65,.int .i64 90,.int .i64 (-1),.int .i64 192,.int .i64 222,.int .i64 215,.int .i64 913,.int .i64 939,.int .i64 930,.int .i64 1040,.int .i64 1071,.int .i64 (-1)]
def WC:Array Value:=#[.int .i64 48,.int .i64 57,.int .i64 (-1),.int .i64 65,.int .i64 90,.int .i64 (-1),.int .i64 97,.int .i64 122,.int .i64 (-1),.int .i64 192,.int .i64 255,.int .i64 215,.int .i64 913,.int .i64 974,.int .i64 930,.int .i64 1024,.int .i64 1119,.int .i64 (-1)]
theorem four (h:i<4):i=0\/i=1\/i=2\/i=3:=by omega
theorem six (h:i<6):i=0\/i=1\/i=2\/i=3\/i=4\/i=5:=by omega
theorem Q6 (hi:i<4) (W:World):(Instr.index 294 (.agg LC) (.int .i64 (i:Int))).run prog W = .ok (.agg (spL i).cells) W:=by
 rcases four hi with rfl | rfl | rfl | rfl
 ·show _=_
  kernel_rfl
 ·show _=_
  kernel_rfl
 ·show _=_
  kernel_rfl
 ·show _=_
  kernel_rfl
theorem Q7 (hi:i<6) (W:World):(Instr.index 264 (.agg WC) (.int .i64 (i:Int))).run prog W = .ok (.agg (spW i).cells) W:=by
 rcases six hi with rfl | rfl | rfl | rfl | rfl | rfl
 ·show _=_
  kernel_rfl
 ·show _=_
  kernel_rfl
 ·show _=_
  kernel_rfl
 ·show _=_
  kernel_rfl
 ·show _=_
  kernel_rfl
 ·show _=_
  kernel_rfl
theorem Gw (lo hi but:Int) (r:Nat):(Spn.mk lo hi but).has (r:Int)=true↔lo<=r/\(r:Int)<=hi/\(r:Int)≠but:=by
 unfold Spn.has inB;simp only[Bool.and_eq_true,decide_eq_true_eq,bne_iff_ne,and_assoc]
theorem Ca (lo hi but:Int) (r:Nat):(Spn.mk lo hi but).has (r:Int)=false↔¬ (lo<=r/\(r:Int)<=hi/\(r:Int)≠but):=by
 rw[<-Gw,Bool.not_eq_true]
theorem LV {r i:Nat} (hi:i<4) (h:(spL i).has (r:Int)=true):lowerR r=r+32:=by
 unfold lowerR;rcases four hi with rfl | rfl | rfl | rfl
 all_goals
  have h:=(Gw _ _ _ r).1 h;rw[if_pos (by omega)]
theorem NY {r:Nat} (h:∀i,i<4->(spL i).has (r:Int)=false):lowerR r=if inB 1024 1039 (-1) (r:Int)=true then r+80 else r:=by
 have a:=(Ca 65 90 (-1) r).1 (h 0 (by omega));have h1:=(Ca 192 222 215 r).1 (h 1 (by omega));have h2:=(Ca 913 939 930 r).1 (h 2 (by omega));have H:=(Ca 1040 1071 (-1) r).1 (h 3 (by omega));have j:=Gw 1024 1039 (-1) r;unfold Spn.has at j;unfold lowerR;rw[if_neg (by omega)];by_cases b:1024<=r/\r<=1039
 ·rw[if_pos b,if_pos (j.2 (by omega))]
 ·rw[if_neg b,if_neg (fun h=>b (by have:=j.1 h;omega))]
theorem OS {r i:Nat} (hi:i<6) (h:(spW i).has (r:Int)=true):wordR r=((r:Int) != 247):=by
 have e:((r:Int) != 247)=decide (r≠247):=by
  rw[Bool.eq_iff_iff];simp only[bne_iff_ne,decide_eq_true_eq];omega
 unfold wordR;rw[e,decide_eq_decide];rcases six hi with rfl | rfl | rfl | rfl | rfl | rfl
 all_goals
  have h:=(Gw _ _ _ r).1 h;omega
theorem Qk {r:Nat} (h:∀i,i<6->(spW i).has (r:Int)=false):wordR r=false:=by
 have j:=(Ca 48 57 (-1) r).1 (h 0 (by omega));have h1:=(Ca 65 90 (-1) r).1 (h 1 (by omega));have h2:=(Ca 97 122 (-1) r).1 (h 2 (by omega));have b:=(Ca 192 255 215 r).1 (h 3 (by omega));have a:=(Ca 913 974 930 r).1 (h 4 (by omega));have H:=(Ca 1024 1119 (-1) r).1 (h 5 (by omega));unfold wordR;rw[decide_eq_false_iff_not];omega
theorem NZ (r:Nat) (w:World) (hr:r<=1114111):Calls prog 197 #[.int .i64 (r:Int)] w fun e w'=>e = .returned (.int .i64 (lowerR r:Int))/\Ext w w':=by
 have T:=fun i (h:i<4) W=>Q6 h W;unfold LC Spn.cells at T;replace T:=Aa T;have O:=Row.new w 294 LC;unfold LC at O;replace O:=Aa O;have U:=Aa (fun i (h:i<4) hh=>LV (r:=r) h hh);have Y:=Aa (fun h=>NY (r:=r) h);obtain⟨z,I⟩:=Ab ((r:Int):Int);have h0:=Aa (fun lo hi but W=>LN lo hi but z W);obtain⟨y,hy⟩:=Ab (lowerR r);rw[<-I]at U Y ⊢;rw[<-hy]at U Y ⊢;have g0:0<=z:=by omega
 have g1:z<=1114111:=by omega
 replace I:=Aa I;replace hy:=Aa hy;replace hr:=Aa hr
 go_in
 go_wp2_with (refine wpList_load_row rfl 294 (.tmp 3) rfl w.heap.size rfl 294 _ (0,0) _ O.out underlying294 rfl (by kernel_rfl) ?_)
 go_loopw [12] (fun s12 wr=>∃i:Nat,s12 = .int .i64 (i:Int)/\i<=4/\Hid (Ext w wr)/\Hid (∀j,j<i->(spL j).has z=false)) (fun s12 _=>4 - (intOf s12).toNat)
 case atStart=>exact⟨0,rfl,by omega,Aa ((Ext.refl w).alloc _),Aa (fun j hj=>absurd hj (by omega))⟩
 case round =>
  obtain⟨i,rfl,c0,hE,q0⟩:=hrel;by_cases hi:i<4
  ·have hx:=T.out i hi;obtain⟨f,hf⟩:=Ab (spL i);rw[<-hf]at hx;have a:=Aa (fun W=>h0.out f.lo f.hi f.but W);obtain⟨b,hb⟩:=Ab (f.has z);have Z:=hb;unfold Spn.has at Z;rw[<-Z]at a;rw[hf]at hb;obtain⟨lo,y0,but⟩:=f;replace hb:=Aa hb;replace hf:=Aa hf;clear Z;simp only at hx a;cases b with
   | true =>
    have G:=U.out i hi hb.out.symm;have J:z+32=(y:Int):=by rw[G];have:=I.out;omega
    replace G:=Aa G;go_wp2_with fail;refine(a.out _).mono ?_;rintro e w2 ⟨rfl,H⟩;go_wp2_with fail;go_ret;exact⟨rfl,(hE.out.alloc _).trans H⟩
   | false =>
    go_wp2_with fail;refine(a.out _).mono ?_;rintro e w2 ⟨rfl,H⟩;go_wp2_with fail;refine⟨⟨i+1,rfl,by omega,Aa ((hE.out.alloc _).trans H),Aa (fun j hj=>?_)⟩,by simp only[intOf];omega⟩;by_cases h:j<i
    ·exact q0.out j h
    ·obtain rfl:j=i:=by omega
     exact hb.out.symm
  ·obtain rfl:i=4:=by omega
   have hn:=Y.out q0.out;have a:=Aa (fun W=>h0.out 1024 1039 (-1) W);obtain⟨b,hb⟩:=Ab (inB 1024 1039 (-1) z);rw[<-hb]at a hn;replace hb:=Aa hb;cases b with
   | true =>
    have J:z+80=(y:Int):=by rw[hn,if_pos rfl];have:=I.out;omega
    replace hn:=Aa hn;go_wp2_with fail;refine(a.out _).mono ?_;rintro e w2 ⟨rfl,H⟩;go_wp2_with fail;go_ret;exact⟨rfl,hE.out.trans H⟩
   | false =>
    have J:z=(y:Int):=by rw[hn,if_neg (by simp)];exact I.out
    replace J:=Aa J;replace hn:=Aa hn;go_wp2_with fail;refine(a.out _).mono ?_;rintro e w2 ⟨rfl,H⟩;go_wp2_with fail;go_ret;exact⟨by rw[J.out];rfl,hE.out.trans H⟩
theorem LQ (r:Nat) (w:World) (hr:r<=1114191):Calls prog 174 #[.int .i64 (r:Int)] w fun e w'=>e = .returned (.bool (wordR r))/\Ext w w':=by
 have U:=fun i (h:i<6) W=>Q7 h W;unfold WC Spn.cells at U;replace U:=Aa U;have J:=Row.new w 264 WC;unfold WC at J;replace J:=Aa J;have H:=Aa (fun i (h:i<6) hh=>OS (r:=r) h hh);have a:=Aa (fun h=>Qk (r:=r) h);obtain⟨z,hz⟩:=Ab ((r:Int):Int);have q0:=Aa (fun lo hi but W=>LN lo hi but z W);obtain⟨y,hy⟩:=Ab (wordR r);rw[<-hz]at H a ⊢;rw[<-hy]at H a ⊢;have g0:0<=z:=by omega
 have g1:z<=1114191:=by omega
 replace hz:=Aa hz;replace hy:=Aa hy;replace hr:=Aa hr
 go_in
 go_wp2_with (refine wpList_load_row rfl 264 (.tmp 3) rfl w.heap.size rfl 264 _ (0,0) _ J.out underlying264 rfl (by kernel_rfl) ?_)
 go_loopw [14] (fun s14 wr=>∃i:Nat,s14 = .int .i64 (i:Int)/\i<=6/\Hid (Ext w wr)/\Hid (∀j,j<i->(spW j).has z=false)) (fun s14 _=>6 - (intOf s14).toNat)
 case atStart=>exact⟨0,rfl,by omega,Aa ((Ext.refl w).alloc _),Aa (fun j hj=>absurd hj (by omega))⟩
 case round =>
  obtain⟨i,rfl,y0,hE,G⟩:=hrel;by_cases hi:i<6
  ·have hx:=U.out i hi;obtain⟨f,I⟩:=Ab (spW i);rw[<-I]at hx;have Y:=Aa (fun W=>q0.out f.lo f.hi f.but W);obtain⟨b,hb⟩:=Ab (f.has z);have T:=hb;unfold Spn.has at T;rw[<-T]at Y;rw[I]at hb;obtain⟨lo,x0,but⟩:=f;replace hb:=Aa hb;replace I:=Aa I;clear T;simp only at hx Y;cases b with
   | true =>
    have Z:=H.out i hi hb.out.symm;replace Z:=Aa Z;go_wp2_with fail;refine(Y.out _).mono ?_;rintro e w2 ⟨rfl,O⟩;go_wp2_with fail;go_ret;exact⟨by rw[Z.out];rfl,(hE.out.alloc _).trans O⟩
   | false =>
    go_wp2_with fail;refine(Y.out _).mono ?_;rintro e w2 ⟨rfl,O⟩;go_wp2_with fail;refine⟨⟨i+1,rfl,by omega,Aa ((hE.out.alloc _).trans O),Aa (fun j hj=>?_)⟩,by simp only[intOf];omega⟩;by_cases h:j<i
    ·exact G.out j h
    ·obtain rfl:j=i:=by omega
     exact hb.out.symm
  ·obtain rfl:i=6:=by omega
   have hn:=a.out G.out;replace hn:=Aa hn;go_wp2_with fail;go_ret;exact⟨by rw[hn.out];rfl,hE.out⟩
theorem Rk (x:Nat) (h:x<4611686018427387904):bits .and .i64 (x:Int) 63=((x%64:Nat):Int):=by
 have h1:(BitVec.ofInt 64 (x:Int)).toNat=x:=by
  rw[BitVec.ofInt_natCast,BitVec.toNat_ofNat];exact Nat.mod_eq_of_lt (by omega)
 have h2:(BitVec.ofInt 64 63).toNat=63:=by decide
 show IntKind.i64.wrap ((BitVec.ofInt 64 (x:Int) &&& BitVec.ofInt 64 63).toNat:Int)=_;rw[BitVec.toNat_and,h1,h2,show x &&& 63=x%64 from Nat.and_two_pow_sub_one_eq_mod x 6,IntKind.wrap_i64];omega
theorem Sh (y:Nat) (j:y<64):bits .or .u8 128 ((y:Int)%256)=((128+y:Nat):Int):=by
 have h:∀k:Fin 64,bits .or .u8 128 (((k.val:Nat):Int)%256)=((128+k.val:Nat):Int):=by decide +kernel
 exact h ⟨y,j⟩
theorem FS (x:Nat) (h:x<4611686018427387904):bits .or .u8 128 (bits .and .i64 (x:Int) 63%256)=((128+x%64:Nat):Int):=by
 rw[Rk x h,Sh _ (Nat.mod_lt _ (by omega))]
theorem Bi (h:k<256):B8 (u8 k) = .int .u8 (k:Int):=by
 unfold B8 u8;rw[UInt8.toNat_ofNat',Nat.mod_eq_of_lt h]
def PutB (w:World) (base:Nat) (l:List UInt8) (e:Ending) (w':World):Prop:=∃A c,e = .returned (.slice A l.length c)/\Buf w' base 5 A l.length c (l.map B8)/\(∀w00,Ext w00 w->w00.heap.size<=base->Ext w00 w')
theorem BO {base n:Nat} (hn:n=L.length) (j:us=l.map B8) (hb:Buf w' base 5 A (n+us.length) c (L.map B8++us)) (h:∀w00,Ext w00 w->w00.heap.size<=base->Ext w00 w'):PutB w base (L++l) (.returned (.slice A (n+us.length) c)) w':=by
 subst j;rw[<-List.map_append,List.length_map,hn,<-List.length_append]at hb;exact⟨A,c,by rw[List.length_map,hn,List.length_append],hb,h⟩
theorem PM (L:List UInt8) (A:Option Addr) (c base r:Nat) (w:World) (hb:Buf w base 5 A L.length c (L.map B8)) (Z:L.length<=4000000000) (O:base<=w.heap.size) (h:badR r=false) (h1:r<128) :
 Calls prog 223 #[.slice A L.length c,.int .i64 (r:Int)] w (PutB w base (L++encR r)):=by
 have b:=Aa (fun W=>C3 (r:Int) W);obtain⟨n,hn⟩:=Ab L.length;rw[<-hn]at hb Z ⊢;have T:(decide (55296<=(r:Int))&&decide ((r:Int)<=57343))=false:=by
  unfold badR at h;simp only[Bool.or_eq_false_iff,Bool.and_eq_false_iff,decide_eq_false_iff_not]at h ⊢;omega
 have a:r<=1114111:=by
  unfold badR at h;simp only[Bool.or_eq_false_iff,decide_eq_false_iff_not]at h;omega
 rw[T]at b;have j:encR r = [u8 r]:=by unfold encR encO;rw[h,if_neg (by simp),if_pos h1]
 rw[j];obtain⟨z,Y⟩:=Ab ((r:Int):Int);rw[<-Y]at b ⊢;have g0:0<=z:=by omega
 have gh:z<=1114111:=by omega
 have g1:z<128:=by omega
 replace h1:=Aa h1;replace a:=Aa a;replace Y:=Aa Y;obtain⟨l,H⟩:=Ab ([u8 r]);rw[<-H];replace H:=Aa H;replace hn:=Aa hn;replace hb:=Aa hb;replace j:=Aa j;replace h:=Aa h;replace T:=Aa T
 go_in
 go_wp2_with fail;refine(b.out _).mono ?_;rintro e w2 ⟨rfl,rfl⟩;go_wp2_with (at_builtin;refine Au Aw hb.out (.tmp 39) (.tmp 42) rfl rfl rfl rfl (Az rfl) (by simp;omega) O (fun A3 c3 w4 U J=>?_));go_ret;exact BO hn.out (by rw[H.out,Y.out];simp only[List.map_cons,List.map_nil,Bi (show r<256 by have:=h1.out;omega),Int.natCast_add,Int.natCast_ediv];try rfl) U J
theorem PN (L:List UInt8) (A:Option Addr) (c base r:Nat) (w:World) (hb:Buf w base 5 A L.length c (L.map B8)) (I:L.length<=4000000000) (Z:base<=w.heap.size) (h:badR r=false) (h1:¬ r<128) (h2:r<2048) :
 Calls prog 223 #[.slice A L.length c,.int .i64 (r:Int)] w (PutB w base (L++encR r)):=by
 have a:=Aa (fun W=>C3 (r:Int) W);obtain⟨n,hn⟩:=Ab L.length;rw[<-hn]at hb I ⊢;have G:(decide (55296<=(r:Int))&&decide ((r:Int)<=57343))=false:=by
  unfold badR at h;simp only[Bool.or_eq_false_iff,Bool.and_eq_false_iff,decide_eq_false_iff_not]at h ⊢;omega
 have H:r<=1114111:=by
  unfold badR at h;simp only[Bool.or_eq_false_iff,decide_eq_false_iff_not]at h;omega
 rw[G]at a;have j:encR r = [u8 (192+r / 64),u8 (128+r%64)]:=by unfold encR encO;rw[h,if_neg (by simp),if_neg h1,if_pos h2]
 rw[j];have Y:=FS (r) (by omega);obtain⟨y0,b⟩:∃y,y=128+r%64:=⟨_,rfl⟩
 rw[<-b]at Y ⊢;replace b:=Aa b;obtain⟨z,U⟩:=Ab ((r:Int):Int);rw[<-U]at a Y ⊢;have g0:0<=z:=by omega
 have gh:z<=1114111:=by omega
 have g1:¬ z<128:=by omega
 have g2:z<2048:=by omega
 replace h1:=Aa h1;replace h2:=Aa h2;replace H:=Aa H;replace U:=Aa U;obtain⟨l,J⟩:=Ab ([u8 (192+r / 64),u8 (y0)]);rw[<-J];replace J:=Aa J;replace hn:=Aa hn;replace hb:=Aa hb;replace j:=Aa j;replace h:=Aa h;replace G:=Aa G
 go_in
 go_wp2_with fail;refine(a.out _).mono ?_;rintro e w2 ⟨rfl,rfl⟩;go_wp2_with (at_builtin;refine Au Aw hb.out (.tmp 47) (.tmp 56) rfl rfl rfl rfl (Az rfl) (by simp;omega) Z (fun A3 c3 w4 T O=>?_));go_ret;exact BO hn.out (by rw[J.out,U.out];simp only[List.map_cons,List.map_nil,Bi (show 192+r / 64<256 by have:=h2.out;omega),Bi (show y0<256 by have:=b.out;omega),Int.natCast_add,Int.natCast_ediv];try rfl) T O
theorem PO (L:List UInt8) (A:Option Addr) (c base r:Nat) (w:World) (hb:Buf w base 5 A L.length c (L.map B8)) (hL:L.length<=4000000000) (h0:base<=w.heap.size) (h:badR r=false) (h1:¬ r<128) (h2:¬ r<2048) (O:r<65536) :
 Calls prog 223 #[.slice A L.length c,.int .i64 (r:Int)] w (PutB w base (L++encR r)):=by
 have H:=Aa (fun W=>C3 (r:Int) W);obtain⟨n,hn⟩:=Ab L.length;rw[<-hn]at hb hL ⊢;have hv:(decide (55296<=(r:Int))&&decide ((r:Int)<=57343))=false:=by
  unfold badR at h;simp only[Bool.or_eq_false_iff,Bool.and_eq_false_iff,decide_eq_false_iff_not]at h ⊢;omega
 have J:r<=1114111:=by
  unfold badR at h;simp only[Bool.or_eq_false_iff,decide_eq_false_iff_not]at h;omega
 rw[hv]at H;have j:encR r = [u8 (224+r / 4096),u8 (128+r / 64%64),u8 (128+r%64)]:=by unfold encR encO;rw[h,if_neg (by simp),if_neg h1,if_neg h2,if_pos O]
 rw[j];have U:=FS (r) (by omega);obtain⟨y0,b⟩:∃y,y=128+r%64:=⟨_,rfl⟩
 rw[<-b]at U ⊢;replace b:=Aa b;have Y:=FS (r / 64) (by omega);obtain⟨y1,a⟩:∃y,y=128+r / 64%64:=⟨_,rfl⟩
 rw[<-a]at Y ⊢;rw[show ((r / 64:Nat):Int)=(r:Int) / 64 by omega]at Y;replace a:=Aa a;obtain⟨z,Z⟩:=Ab ((r:Int):Int);rw[<-Z]at H U Y ⊢;have g0:0<=z:=by omega
 have gh:z<=1114111:=by omega
 have g1:¬ z<128:=by omega
 have g2:¬ z<2048:=by omega
 have g3:z<65536:=by omega
 replace h1:=Aa h1;replace h2:=Aa h2;replace O:=Aa O;replace J:=Aa J;replace Z:=Aa Z;obtain⟨l,T⟩:=Ab ([u8 (224+r / 4096),u8 (y1),u8 (y0)]);rw[<-T];replace T:=Aa T;replace hn:=Aa hn;replace hb:=Aa hb;replace j:=Aa j;replace h:=Aa h;replace hv:=Aa hv
 go_in
 go_wp2_with fail;refine(H.out _).mono ?_;rintro e w2 ⟨rfl,rfl⟩;go_wp2_with (at_builtin;refine Au Aw hb.out (.tmp 61) (.tmp 75) rfl rfl rfl rfl (Az rfl) (by simp;omega) h0 (fun A3 c3 w4 I G=>?_));go_ret;exact BO hn.out (by rw[T.out,Z.out];simp only[List.map_cons,List.map_nil,Bi (show 224+r / 4096<256 by have:=O.out;omega),Bi (show y0<256 by have:=b.out;omega),Bi (show y1<256 by have:=a.out;omega),Int.natCast_add,Int.natCast_ediv];try rfl) I G
theorem PP (L:List UInt8) (A:Option Addr) (c base r:Nat) (w:World) (hb:Buf w base 5 A L.length c (L.map B8)) (hL:L.length<=4000000000) (p0:base<=w.heap.size) (h:badR r=false) (h1:¬ r<128) (h2:¬ r<2048) (I:¬ r<65536) :
 Calls prog 223 #[.slice A L.length c,.int .i64 (r:Int)] w (PutB w base (L++encR r)):=by
 have Y:=Aa (fun W=>C3 (r:Int) W);obtain⟨n,hn⟩:=Ab L.length;rw[<-hn]at hb hL ⊢;have hv:(decide (55296<=(r:Int))&&decide ((r:Int)<=57343))=false:=by
  unfold badR at h;simp only[Bool.or_eq_false_iff,Bool.and_eq_false_iff,decide_eq_false_iff_not]at h ⊢;omega
 have J:r<=1114111:=by
  unfold badR at h;simp only[Bool.or_eq_false_iff,decide_eq_false_iff_not]at h;omega
 rw[hv]at Y;have j:encR r = [u8 (240+r / 262144),u8 (128+r / 4096%64),u8 (128+r / 64%64),u8 (128+r%64)]:=by unfold encR encO;rw[h,if_neg (by simp),if_neg h1,if_neg h2,if_neg I]
 rw[j];have T:=FS (r) (by omega);obtain⟨y0,b⟩:∃y,y=128+r%64:=⟨_,rfl⟩
 rw[<-b]at T ⊢;replace b:=Aa b;have U:=FS (r / 64) (by omega);obtain⟨y1,a⟩:∃y,y=128+r / 64%64:=⟨_,rfl⟩
 rw[<-a]at U ⊢;rw[show ((r / 64:Nat):Int)=(r:Int) / 64 by omega]at U;replace a:=Aa a;have O:=FS (r / 4096) (by omega);obtain⟨y2,H⟩:∃y,y=128+r / 4096%64:=⟨_,rfl⟩
 rw[<-H]at O ⊢;rw[show ((r / 4096:Nat):Int)=(r:Int) / 4096 by omega]at O;replace H:=Aa H;obtain⟨z,G⟩:=Ab ((r:Int):Int);rw[<-G]at Y T U O ⊢;have g0:0<=z:=by omega
 have gh:z<=1114111:=by omega
 have g1:¬ z<128:=by omega
 have g2:¬ z<2048:=by omega
 have g3:¬ z<65536:=by omega
 replace h1:=Aa h1;replace h2:=Aa h2;replace I:=Aa I;replace J:=Aa J;replace G:=Aa G;obtain⟨l,Z⟩:=Ab ([u8 (240+r / 262144),u8 (y2),u8 (y1),u8 (y0)]);rw[<-Z];replace Z:=Aa Z;replace hn:=Aa hn;replace hb:=Aa hb;replace j:=Aa j;replace h:=Aa h;replace hv:=Aa hv
 go_in
 go_wp2_with fail;refine(Y.out _).mono ?_;rintro e w2 ⟨rfl,rfl⟩;go_wp2_with (at_builtin;refine Au Aw hb.out (.tmp 15) (.tmp 34) rfl rfl rfl rfl (Az rfl) (by simp;omega) p0 (fun A3 c3 w4 q0 h0=>?_));go_ret;exact BO hn.out (by rw[Z.out,G.out];simp only[List.map_cons,List.map_nil,Bi (show 240+r / 262144<256 by have:=J.out;omega),Bi (show y0<256 by have:=b.out;omega),Bi (show y1<256 by have:=a.out;omega),Bi (show y2<256 by have:=H.out;omega),Int.natCast_add,Int.natCast_ediv];try rfl) q0 h0
theorem PL (L:List UInt8) (A:Option Addr) (c base r:Nat) (w:World) (hb:Buf w base 5 A L.length c (L.map B8)) (I:L.length<=4000000000) (U:base<=w.heap.size) (h:badR r=true) (Z:r<=1200000) :
 Calls prog 223 #[.slice A L.length c,.int .i64 (r:Int)] w (PutB w base (L++encR r)):=by
 have Y:=Aa (fun W=>C3 (r:Int) W);obtain⟨n,hn⟩:=Ab L.length;rw[<-hn]at hb I ⊢;have j:encR r = [u8 239,u8 191,u8 189]:=by unfold encR;rw[h,if_pos rfl];rfl
 rw[j];have J:1114111<r\/(55296<=r/\r<=57343):=by
  unfold badR at h;simpa using h
 obtain⟨z,O⟩:=Ab ((r:Int):Int);rw[<-O]at Y ⊢;have g0:0<=z:=by omega
 obtain⟨l,T⟩:=Ab ([u8 239,u8 191,u8 189]);rw[<-T];have b : [Value.int .u8 239,.int .u8 191,.int .u8 189]=l.map B8:=by rw[T];rfl
 replace b:=Aa b;replace T:=Aa T;replace hn:=Aa hn;replace hb:=Aa hb;replace j:=Aa j;replace h:=Aa h;rcases J with J | J
 ·have g1:¬ z<=1114111:=by omega
  replace J:=Aa J;replace O:=Aa O;replace Z:=Aa Z
  go_in
  go_wp2_with (at_builtin;refine Au Aw hb.out (.tmp 61) (.tmp 75) rfl rfl rfl rfl (Az rfl) (by simp;omega) U (fun A3 c3 w4 H a=>?_));go_ret;exact BO hn.out b.out H a
 ·have g1:z<=1114111:=by omega
  have G:(decide (55296<=z)&&decide (z<=57343))=true:=by simp;omega
  rw[G]at Y;replace G:=Aa G;replace J:=Aa J;replace O:=Aa O;replace Z:=Aa Z
  go_in
  go_wp2_with fail;refine(Y.out _).mono ?_;rintro e w2 ⟨rfl,rfl⟩;go_wp2_with (at_builtin;refine Au Aw hb.out (.tmp 61) (.tmp 75) rfl rfl rfl rfl (Az rfl) (by simp;omega) U (fun A3 c3 w4 H a=>?_));go_ret;exact BO hn.out b.out H a
theorem Qh (L:List UInt8) (A:Option Addr) (c base r:Nat) (w:World) (hb:Buf w base 5 A L.length c (L.map B8)) (b:L.length<=4000000000) (j:base<=w.heap.size) (H:r<=1200000) :
 Calls prog 223 #[.slice A L.length c,.int .i64 (r:Int)] w (PutB w base (L++encR r)):=by
 cases h:badR r with
 | true=>exact PL L A c base r w hb b j h H
 | false =>
  by_cases h1:r<128
  ·exact PM L A c base r w hb b j h h1
  ·by_cases h2:r<2048
   ·exact PN L A c base r w hb b j h h1 h2
   ·by_cases a:r<65536
    ·exact PO L A c base r w hb b j h h1 h2 a
    ·exact PP L A c base r w hb b j h h1 h2 a
def encL (rs:List Nat):List UInt8:=rs.flatMap encR
theorem D8 (rs:List Nat) (r:Nat):encL (rs ++ [r])=encL rs++encR r:=by
 unfold encL;rw[List.flatMap_append];simp
theorem Lz (rs:List Nat) (A:Option Addr) (n c:Nat) (w:World) (hn:n=rs.length) (hc:Cells w A (rs.map NV)) (I:∀r∈rs,r<=1200000) (t0:n<=500000000) :
 Calls prog 196 #[.slice A n c] w fun e w'=>e = .returned (.string ⟨(encL rs).toArray⟩)/\Ext w w':=by
 have G:=Aa (fun L A c base r W hb hL q0 I=>Qh L A c base r W hb hL q0 I);replace I:=Aa I;replace hc:=Aa hc;replace hn:=Aa hn
 go_in
 go_wp2_with fail
 go_loopw [3,8] (fun s3 s8 wr=>∃(i n1 c1:Nat) (A1:Option Addr),s3 = .slice A1 n1 c1/\s8 = .int .i64 (i:Int)/\i<=n/\Hid (n1=(encL (rs.take i)).length/\n1<=4*i)/\Hid (Buf wr w.heap.size 5 A1 n1 c1 ((encL (rs.take i)).map B8))/\Hid (Ext w wr)) (fun _ s8 _=>n - (intOf s8).toNat)
 case atStart=>exact⟨0,0,0,none,rfl,rfl,by omega,Aa ⟨rfl,by omega⟩,Aa (Buf.nil _ _ _),Aa (Ext.refl w)⟩
 case round =>
  obtain⟨i,n1,c1,A1,rfl,rfl,hi,j,hb,hE⟩:=hrel;by_cases h:i<n
  ·obtain⟨r,b⟩:∃r,rs[i]? = some r:=⟨_,List.getElem?_eq_getElem (by rw[<-hn.out];exact h)⟩
   obtain⟨g,o,hA,J⟩:=hc.out.at_ (by rw[List.length_map,<-hn.out];omega);subst hA;have k0:=hE.out.cell (J i (NV r) (by rw[List.getElem?_map,b];rfl));unfold NV at k0;have T:=I.out r (List.mem_of_getElem? b);have Z:=G.out (encL (rs.take i)) A1 c1 w.heap.size r wr (by rw[<-j.out.1];exact hb.out) (by have:=j.out;omega) hE.out.size T;rw[<-j.out.1]at Z;have a:rs.take (i+1)=rs.take i ++ [r]:=by rw[List.take_add_one,b];rfl
   rw[<-D8,<-a]at Z;have O:=(ES r).2;replace Z:=Aa Z;replace J:=Aa J;replace b:=Aa b;replace a:=Aa a;replace T:=Aa T;replace O:=Aa O;go_wp2_with fail;refine Z.out.mono ?_;rintro e w2 ⟨A2,c2,rfl,Y,H⟩;have U:(encL (rs.take (i+1))).length<=4*(i+1):=by
    rw[a.out,D8,List.length_append];have:=j.out;have:=O.out;omega
   replace Y:=Aa Y;replace H:=Aa (H w hE.out (Nat.le_refl _));replace U:=Aa U;go_wp2_with fail;exact⟨⟨i+1,_,c2,A2,rfl,rfl,by omega,Aa ⟨rfl,U.out⟩,Y,H⟩,by simp only[intOf];omega⟩
  ·obtain rfl:i=n:=by omega
   have hT:rs.take i=rs:=List.take_of_length_le (by rw[hn.out];exact Nat.le_refl _);rw[hT]at hb j;have v0:=CT (Buf.cells hb.out) n1 c1 j.out.1;replace j:=Aa j.out.1;go_wp2_with fail;go_ret;exact⟨rfl,hE.out⟩
end
end Go.Proofs.YtfifdilapbeiiaaGreat
namespace Go.Proofs
open Go.Shelf
def Tryz.bren166:Go.Shelf.Ren:=⟨fun | 166=>199 | 240=>224 | 276=>233 | n=>n,fun | 0=>0 | 3=>3 | 4=>4 | 9=>9 | 20=>20 | 37=>24 | 70=>265 | 72=>267 | 75=>270 | 80=>235 | 164=>303 | n=>n,fun | n=>n⟩
theorem Tryz.blays166:Go.Proofs.Lays.n166 prog Tryz.bren166:= {
 mixed:=by kernel_rfl
 f166:=func199.trans (congrArg some (by kernel_rfl))
 f240:=func224.trans (congrArg some (by kernel_rfl))
 f276:=func233.trans (congrArg some (by kernel_rfl))
 t0:=underlying0
 a0:=isAgg0
 z0:=sizeOf0
 v0:=Tryz.zeroValue0
 t3:=underlying3
 a3:=isAgg3
 z3:=sizeOf3
 v3:=Tryz.zeroValue3
 t4:=underlying4
 a4:=isAgg4
 z4:=sizeOf4
 v4:=Tryz.zeroValue4
 t9:=underlying9
 a9:=isAgg9
 z9:=sizeOf9
 v9:=Tryz.zeroValue9
 t20:=underlying20
 a20:=isAgg20
 z20:=sizeOf20
 v20:=Tryz.zeroValue20
 t37:=underlying24
 a37:=isAgg24
 z37:=sizeOf24
 v37:=Tryz.zeroValue24
 t70:=underlying265
 a70:=isAgg265
 z70:=sizeOf265
 v70:=Tryz.zeroValue265
 t72:=underlying267
 a72:=isAgg267
 z72:=sizeOf267
 v72:=Tryz.zeroValue267
 t75:=underlying270
 a75:=isAgg270
 z75:=sizeOf270
 v75:=Tryz.zeroValue270
 t164:=underlying303
 a164:=isAgg303
 z164:=sizeOf303
 v164:=Tryz.zeroValue303 }
theorem Tryz.bE166:Builder.Extra prog Tryz.bren166:= {
 sizeBuilder:=by kernel_rfl
 liesBuilder:=by kernel_rfl
 t5:=underlying5
 a5:=isAgg5
 z5:=sizeOf5
 v5:=Tryz.zeroValue5
 infoByte:=by kernel_rfl
 cellsByte:=by kernel_rfl
 sizeByte:=by kernel_rfl
 neB5:=by decide }
open Go.RowKit in
theorem Tryz.Builder_WriteString (B b:Nat) (bs:List Value) (s:ByteArray) (w:World) (h:Lib.IsBuilder 267 5 B b bs w) (hlen:bs.length+s.size<=140737488355328) (j:B<=w.heap.size) :
    Calls prog 199 #[.pointer (some ⟨b,0,none⟩),.string s] w fun e w'=>e = .returned (.tuple #[.int .i64 s.size,.nilIface])/\(Lib.BuilderAt 267 5 B b (.pointer (some ⟨b,0,none⟩)) (bs++Lib.strCells s) w'/\Below B w w'):=Any.Builder_WriteString Tryz.blays166 Tryz.bE166 B b bs s w h hlen j
end Go.Proofs
namespace Go.Proofs.YtfifdilapbeiiaaGreat
open _root_.Go.Proofs.Tryz
variable {ops:Array Oper} {cs:Array Value} {Q:Exit → Act → World → Prop} {rs:List Nat} {L l r s:List UInt8} {news us xs:List Value} {c d g i k m n p1 p2 x y:Nat} {S:Nat → Prop} {o:Oper} {A:Option Addr} {P:Program} {e t:TypeId} {v:Value} {W W1 w w' w0 w1 wr:World}
section
open Go.RowKit
theorem K1 (l:List UInt8):Lib.strCells ⟨l.toArray⟩=l.map B8:=rfl
def Bd (w:World) (b:Nat) (l:List UInt8):Prop:=Lib.IsBuilder 267 5 b b (l.map B8) w
theorem Bd.ext {b:Nat} (h:Bd w b l) (a:Ext w w1):Bd w1 b l:=by
 rcases h with ⟨h1,v,h2,j⟩ | ⟨h1,v,h2,j⟩
 ·exact .inl ⟨h1,v,a.block h2,a.owns j.1,j.2⟩
 ·exact .inr ⟨h1,v,a.block h2,a.owns j.1,j.2⟩
theorem Bd.fresh (w:World):Bd (w.alloc (.cells #[.pointer none,.slice none 0 0] 267)) w.heap.size []:=Lib.fresh_isBuilder _ _ w
theorem Bd.lt {b:Nat} (h:Bd w b l):b<w.heap.size:=by
 rcases h with ⟨h1,v,h2,j⟩ | ⟨h1,v,h2,j⟩
 ·exact(Array.getElem?_eq_some_iff.1 h2).1
 ·exact(Array.getElem?_eq_some_iff.1 h2).1
theorem Lj (b:Nat) (l s:List UInt8) (w:World) (h:Bd w b l) (hlen:l.length+s.length<=100000000):Calls prog 199 #[.pointer (some ⟨b,0,none⟩),.string ⟨s.toArray⟩] w fun e w'=>e = .returned (.tuple #[.int .i64 s.length,.nilIface])/\Bd w' b (l++s)/\Below b w w':=by
 have j:(⟨s.toArray⟩:ByteArray).size=s.length:=ByteArray.size_mk_toArray s;refine(Tryz.Builder_WriteString b b (l.map B8) ⟨s.toArray⟩ w h (by rw[j,List.length_map];omega) (Nat.le_of_lt h.lt)).mono fun e w' ⟨H,hb,a⟩=>⟨by rw[H,j],.inr (by rw[K1,<-List.map_append]at hb;exact hb),a⟩
theorem JS (b:Nat) (l:List UInt8) (w:World) (h:Bd w b l):Calls prog 200 #[.pointer (some ⟨b,0,none⟩)] w fun e w'=>e = .returned (.string ⟨l.toArray⟩)/\Below b w w' :=
 Tryz.Builder_String_any b b l w h (Nat.le_of_lt h.lt)
theorem O0 (b:Nat) (l:List UInt8) (w:World) (h:Bd w b l):Calls prog 198 #[.pointer (some ⟨b,0,none⟩)] w fun e w'=>e = .returned (.int .i64 l.length)/\w'=w:=by
 have:=Tryz.Builder_Len b b (l.map B8) w h;rw[List.length_map]at this;exact this
theorem MP {r:Nat} (h:¬ 32<s.length+(encR (lowerR r)).length):cutW s (r::rs)=cutW (s++encR (lowerR r)) rs:=by
 rw[cutW,if_neg h]
theorem JY {r:Nat} (h:32<s.length+(encR (lowerR r)).length):cutW s (r::rs)=s:=by
 rw[cutW,if_pos h]
theorem J5 (r:Nat):encL [r]=encR r:=by
 unfold encL;simp
theorem Ql (rs:List Nat) (A:Option Addr) (n c:Nat) (w:World) (hn:n=rs.length) (hc:Cells w A (rs.map NV)) (hr:∀r∈rs,r<=1114111) (a2:n<=1073741824) :
 Calls prog 175 #[.slice A n c] w fun e w'=>e = .returned (.string ⟨(cutW [] rs).toArray⟩)/\Ext w w':=by
 obtain⟨b,hb⟩:=Ab w.heap.size;obtain⟨W,hW⟩:=Ab (w.alloc (.cells #[.pointer none,.slice none 0 0] 267));have g0:Ext w W:=by rw[hW];exact(Ext.refl w).alloc _
 have p0:Bd W b []:=by rw[hW,hb];exact Bd.fresh w
 have o0:=Aa (fun r W h=>NZ r W h);have n0:=Aa (fun r A n c W h1 h2 h3 h4=>Lz [r] A n c W h1 h2 h3 h4);have hlen:=Aa (fun s W h=>O0 b s W h);have i1:=Aa (fun s t W h hl=>Lj b s t W h hl);have q0:=Aa (fun s W h=>JS b s W h);obtain⟨Z,hZ⟩:=Ab (cutW [] rs);rw[<-hZ];replace hr:=Aa hr;replace hc:=Aa hc;replace hn:=Aa hn;replace hZ:=Aa hZ;replace g0:=Aa g0;replace p0:=Aa p0;replace hW:=Aa hW;replace hb:=Aa hb
 go_in
 go_wp2_with fail;rw[<-hW.out,<-hb.out]
 go_loopw [9] (fun s9 wr=>∃(i:Nat) (s:List UInt8),s9 = .int .i64 (i:Int)/\i<=n/\Hid (Z=cutW s (rs.drop i))/\Hid (s.length<=32)/\Hid (Bd wr b s)/\Hid (Ext w wr)) (fun s9 _=>n - (intOf s9).toNat)
 case atStart=>exact⟨0,[],rfl,by omega,Aa (by rw[hZ.out];rfl),Aa (by simp),p0,g0⟩
 case round =>
  obtain⟨i,s,rfl,hi,i0,h0,hB,hE⟩:=hrel;by_cases h:i<n
  ·obtain⟨r,J⟩:∃r,rs[i]? = some r:=⟨_,List.getElem?_eq_getElem (by rw[<-hn.out];exact h)⟩
   obtain⟨g,o,hA,t0⟩:=hc.out.at_ (by rw[List.length_map,<-hn.out];omega);subst hA;have y1:=hE.out.cell (t0 i (NV r) (by rw[List.getElem?_map,J];rfl));unfold NV at y1;have G:=hr.out r (List.mem_of_getElem? J);have v0:rs.drop i=r::rs.drop (i+1):=by
    rw[List.drop_eq_getElem_cons (List.getElem?_eq_some_iff.1 J).1];congr 1;exact(List.getElem?_eq_some_iff.1 J).2
   have r0:=Aa (fun W=>o0.out r W G);have c0:=IJ G;obtain⟨t,ht⟩:=Ab (encR (lowerR r));have f1:t.length<=4:=by rw[ht];exact(ES _).2
   have x0:=Aa (fun hh=>MP (s:=s) (r:=r) (rs:=rs.drop (i+1)) hh);have T:=Aa (fun hh=>JY (s:=s) (r:=r) (rs:=rs.drop (i+1)) hh);rw[<-ht,<-v0,<-i0.out]at x0 T;obtain⟨y,hy⟩:=Ab (lowerR r);rw[<-hy]at ht r0 c0;have l0:=Aa (fun A W hh=>n0.out y A 1 1 W rfl hh (by simp;omega) (by omega));rw[J5,<-ht]at l0;obtain⟨tn,Y⟩:=Ab t.length;have k2:(⟨t.toArray⟩:ByteArray).size=tn:=by rw[Y];exact ByteArray.size_mk_toArray t
   obtain⟨sn,H⟩:=Ab s.length;rw[<-H,<-Y]at x0 T;rw[<-Y]at f1;rw[<-H]at h0;have d1:=h0.out;have I:=Aa (fun W hh=>hlen.out s W hh);rw[<-H]at I;replace t0:=Aa t0;replace J:=Aa J;replace G:=Aa G;replace v0:=Aa v0;replace hy:=Aa hy;replace ht:=Aa ht;replace Y:=Aa Y;replace H:=Aa H;replace c0:=Aa c0;go_wp2_with fail;refine(r0.out _).mono ?_;rintro e w2 ⟨rfl,j0⟩;go_wp2_with fail;refine(l0.out _ _ (.inr ⟨w2.heap.size,0,rfl,fun j u hu=>?_⟩)).mono ?_
   ·rw[Nat.zero_add,cell_of_row _ _ _ _ _ _ (heap_alloc_new w2 _)];simpa [NV]using hu
   rintro e w3 ⟨rfl,m1⟩;have U:=Aa ((j0.alloc (.cells #[Value.int .i64 (y:Int)] 3)).trans m1);have k0:=Aa (hB.out.ext U.out);go_wp2_with fail;refine(I.out _ k0.out).mono ?_;rintro e w4 ⟨rfl,rfl⟩;by_cases d0:32<sn+tn
   ·have a:=Aa (T.out d0);have e0:(32:Int)<(sn:Int)+(tn:Int):=by omega
    go_wp2_with fail;refine(q0.out s _ k0.out).mono ?_;rintro e w5 ⟨rfl,O⟩;go_wp2_with fail;go_ret;refine⟨by rw[a.out];rfl,?_⟩;have m0:=hb.out;rw[m0]at O;exact Below.trans (hE.out.trans U.out) O
   ·have a:=Aa (x0.out d0);have e0:¬ (32:Int)<(sn:Int)+(tn:Int):=by omega
    go_wp2_with fail;refine(i1.out s t _ k0.out (by rw[<-H.out,<-Y.out];omega)).mono ?_;rintro e w5 ⟨rfl,j1,O⟩;go_wp2_with fail;refine⟨⟨i+1,s++t,rfl,by omega,a,Aa (by rw[List.length_append,<-H.out,<-Y.out];omega),Aa j1,Aa ?_⟩,by simp only[intOf];omega⟩;have m0:=hb.out;rw[m0]at O;exact Below.trans (hE.out.trans U.out) O
  ·obtain rfl:i=n:=by omega
   have a:Z=s:=by rw[i0.out,List.drop_eq_nil_of_le (by rw[<-hn.out];exact Nat.le_refl _),cutW]
   replace a:=Aa a;go_wp2_with fail;refine(q0.out s _ hB.out).mono ?_;rintro e w2 ⟨rfl,j0⟩;go_wp2_with fail;go_ret;exact⟨by rw[a.out];rfl,by have:=hb.out;subst this;exact Below.trans hE.out j0⟩
theorem Dt {cur rs:List Nat} {r:Nat} (h:wordR r=true):runsW cur (r::rs)=runsW (cur ++ [r]) rs:=by
 rw[runsW,if_pos h]
theorem Cz {r:Nat} (h:wordR r=false):runsW [] (r::rs)=runsW [] rs:=by
 rw[runsW,if_neg (by rw[h];simp),if_pos rfl]
theorem C9 {cur rs:List Nat} {r:Nat} (h:wordR r=false) (j:cur ≠ []):runsW cur (r::rs)=cur::runsW [] rs:=by
 rw[runsW,if_neg (by rw[h];simp),if_neg j]
theorem Eh:∀(L cur:List Nat),runsW cur (L ++ [32])=runsW cur L
 | [],cur=>by
  have h:wordR 32=false:=by decide
  rw[List.nil_append];by_cases j:cur = []
  ·subst j;rw[Cz h]
  ·rw[C9 h j,runsW,if_pos rfl,runsW,if_neg j]
 | r::L,cur=>by
  rw[List.cons_append];cases h:wordR r with
  | true=>rw[Dt h,Dt h,Eh L]
  | false =>
   by_cases j:cur = []
   ·subst j;rw[Cz h,Cz h,Eh L]
   ·rw[C9 h j,C9 h j,Eh L]
def tkV (l:List (List UInt8)):List Value:=l.zipIdx.flatMap fun p=> [.string ⟨p.1.toArray⟩,.int .i64 (p.2:Int)]
theorem HJ (l:List (List UInt8)) (x:List UInt8):tkV (l ++ [x])=tkV l ++ [.string ⟨x.toArray⟩,.int .i64 (l.length:Int)]:=by
 unfold tkV;rw[List.zipIdx_append,List.flatMap_append];simp
theorem Fy (h:Cells w (some ⟨g,0,none⟩) xs) (f i:Nat):Cells w (some ⟨g,f,none⟩) ((xs.take i).drop f):=by
 rcases h with h | ⟨g',o,a,H⟩
 ·subst h;exact .inl (by simp)
 ·cases a;refine .inr ⟨g,f,rfl,fun j v b=>?_⟩;rw[List.getElem?_drop,List.getElem?_take]at b;split at b
  ·have:=H _ v b
   rwa [Nat.zero_add]at this
  ·cases b
theorem Jb {R:List Nat} {st i r:Nat} (hi:R[i]? = some r) (hs:st<=i):(R.take (i+1)).drop st=(R.take i).drop st ++ [r]:=by
 have h1:R.take (i+1)=R.take i ++ [r]:=by rw[List.take_add_one,hi];rfl
 have h:=(List.getElem?_eq_some_iff.1 hi).1;rw[h1,List.drop_append_of_le_length (by rw[List.length_take];omega)]
theorem Db (R:List Nat) (i:Nat):(R.take i).drop i = []:=List.drop_eq_nil_of_le (by rw[List.length_take];omega)
theorem FT {R:List Nat} {st i:Nat} (h:st<i) (hi:i<=R.length):(R.take i).drop st ≠ []:=by
 intro hn;have:=congrArg List.length hn;rw[List.length_drop,List.length_take,List.length_nil]at this;omega
theorem Gs {R:List Nat} {i r:Nat} (hi:R[i]? = some r):R.drop i=r::R.drop (i+1):=by
 rw[List.drop_eq_getElem_cons (List.getElem?_eq_some_iff.1 hi).1];congr 1;exact(List.getElem?_eq_some_iff.1 hi).2
theorem Lw:Elem prog 203 207 2 24:=⟨underlying203,⟨_,_,rfl,rfl,rfl,rfl,rfl⟩,by omega,by omega⟩
def NewTk (w:World) (l:List (List UInt8)) (e:Ending) (w':World):Prop:=∃A c,e = .returned (.slice A l.length c)/\w'.ownsRow w.heap.size 207 2 (.slice A l.length c) l.length (tkV l)/\Ext w w'
theorem HL (l:List UInt8) (w:World) (hl:l.length<=1000000000):Calls prog 130 #[.string ⟨l.toArray⟩] w (NewTk w (tokL l)):=by
 have k2:=Aa (fun W=>OA l W (by omega));have o1:=EG l;have y0:=I4 l;have Y:tokL l=(runsW [] (runesL l)).map (cutW []):=rfl;obtain⟨L,hL⟩:=Ab (runesL l);rw[<-hL]at k2 o1 y0 Y;obtain⟨Z,hZ⟩:=Ab (tokL l);rw[<-hZ]at Y ⊢;obtain⟨R,hR⟩:=Ab (L ++ [32]);rw[<-Eh,<-hR]at Y;have c0:∀r∈R,r<=1114111:=by
  intro r hr;rw[hR]at hr;rcases List.mem_append.1 hr with h | h
  ·exact y0 r h
  ·simp at h;omega
 obtain⟨m,hm⟩:=Ab R.length;have j0:m=L.length+1:=by rw[hm,hR];simp
 have G:R[m - 1]? = some 32:=by rw[hR,show m - 1=L.length by omega];simp
 have t3:=Aa (fun r W h=>LQ r W h);have x3:=Aa (fun rs A n c W h1 h2 h3 h4=>Ql rs A n c W h1 h2 h3 h4);have l3:m<=1000000001:=by omega
 replace G:=Aa G;replace hZ:=Aa hZ;replace hL:=Aa hL;replace Y:=Aa Y;replace c0:=Aa c0;replace hm:=Aa hm;replace y0:=Aa y0;replace hR:=Aa hR;obtain⟨ln,f0⟩:=Ab L.length;rw[<-f0]at j0 o1;replace f0:=Aa f0
 go_in
 go_wp2_with fail;go_step3;go_wp2_with fail;refine(k2.out _).mono ?_;rintro e w1 ⟨A1,c1,rfl,p0,v0⟩;rw[<-f0.out]at p0 ⊢;have x2:=v0.size;replace p0:=Aa p0;replace v0:=Aa v0;go_wp2_with (at_builtin;refine Au FY p0.out (.tmp 9) (.tmp 10) rfl rfl rfl rfl (Az rfl) (by simp;omega) x2 (fun A2 c2 w2 O f1=>?_));have q0:=f1 w v0.out (Nat.le_refl _);have k1:L.map NV ++ [Value.int .i64 32]=R.map NV:=by rw[hR.out,List.map_append];rfl
 simp only[List.length_cons,List.length_nil,Nat.zero_add]at O ⊢;rw[k1,<-j0]at O;rw[<-j0];have o3:=O.2.1;obtain⟨gR,oR,hA,j1⟩:=O.cells.at_ (by rw[List.length_map,<-hm.out];omega);obtain⟨g2,cur2,a2,_⟩:∃g cur,A2=some ⟨g,0,none⟩/\w2.heap.size≥w2.heap.size/\cur=(0:Nat):=by
  rcases O.2.2 with ⟨h,_⟩ | ⟨g,_,h,_⟩
  ·rw[hA]at h;cases h
  ·exact⟨g,0,h,Nat.le_refl _,rfl⟩
 subst a2;cases hA;have i2:=Aa (Buf.cells O);replace j1:=Aa j1;replace O:=Aa O;replace q0:=Aa q0;replace k1:=Aa k1;replace j0:=Aa j0;clear f1 p0;go_wp2_with fail;go_step3;go_wp2_with fail
 go_loopw [3,5,14] (fun s3 s5 s14 wr=>∃(i st k c3:Nat) (A3:Option Addr) (D:List (List Nat)),s3 = .slice A3 k c3/\s5 = .int .i64 (st:Int)/\s14 = .int .i64 (i:Int)/\i<=m/\st<=i/\k<=i/\Hid (k=D.length)/\Hid (i=m->st=i)/\Hid (runsW [] R=D++runsW ((R.take i).drop st) (R.drop i))/\Hid (wr.ownsRow w2.heap.size 207 2 (.slice A3 k c3) k (tkV (D.map (cutW []))))/\Hid (Ext w2 wr)) (fun _ _ s14 _=>m - (intOf s14).toNat)
 case atStart=>exact⟨0,0,0,0,none,[],rfl,rfl,rfl,by omega,by omega,by omega,Aa rfl,Aa (fun _=>rfl),Aa (by simp),Aa (World.ownsRow_nil _ _ _ _),Aa (Ext.refl w2)⟩
 case round =>
  obtain⟨i,st,k,c3,A3,D,rfl,rfl,rfl,him,m3,f3,hk,j3,n0,T,hE⟩:=hrel;by_cases h:i<m
  ·obtain⟨r,h0⟩:∃r,R[i]? = some r:=⟨_,List.getElem?_eq_getElem (by rw[<-hm.out];exact h)⟩
   have e0:=j1.out i (NV r) (by rw[List.getElem?_map,h0];rfl);rw[Nat.zero_add]at e0;replace e0:=hE.out.cell e0;unfold NV at e0;have j2:=c0.out r (List.mem_of_getElem? h0);have J:=Aa (fun W=>t3.out r W (by omega));have y1:=Gs h0;have H:=Jb h0 m3;have a1:i+1=m->r=32:=fun he=>by
    have:=G.out;rw[show m - 1=i by omega,h0]at this;exact Option.some.inj this
   obtain⟨b,hb⟩:=Ab (wordR r);rw[<-hb]at J;have j:=n0.out;rw[y1]at j;replace h0:=Aa h0;replace j2:=Aa j2;replace y1:=Aa y1;replace a1:=Aa a1;cases b with
   | true =>
    rw[Dt hb.symm,<-H]at j;replace j:=Aa j;replace H:=Aa H;replace hb:=Aa hb;go_wp2_with fail;refine(J.out _).mono ?_;rintro e w4 ⟨rfl,U⟩;go_wp2_with fail;refine⟨⟨i+1,st,k,c3,A3,D,rfl,rfl,rfl,by omega,by omega,by omega,hk,Aa (fun he=>?_),j,Aa (U.owns T.out),Aa (hE.out.trans U)⟩,by simp only[intOf];omega⟩;have:=hb.out;rw[a1.out he]at this;exact absurd this (by decide)
   | false =>
    by_cases m2:st<i
    ·rw[C9 hb.symm (FT m2 (by rw[<-hm.out];omega))]at j;have a:runsW [] R=(D ++ [(R.take i).drop st])++runsW ((R.take (i+1)).drop (i+1)) (R.drop (i+1)):=by
      rw[Db,j,List.append_assoc];rfl
     replace a:=Aa a;clear j;replace H:=Aa H;replace hb:=Aa hb;have m0:∀x∈(R.take i).drop st,x<=1114111:=fun x hx=>c0.out x (List.mem_of_mem_take (List.mem_of_mem_drop hx));have I:i - st=((R.take i).drop st).length:=by rw[List.length_drop,List.length_take,<-hm.out];omega
     have x1:=Aa (fun c W (hh:Cells W (some ⟨gR,st,none⟩) (((R.take i).drop st).map NV))=>x3.out ((R.take i).drop st) (some ⟨gR,st,none⟩) (i - st) c W I hh m0 (by omega));have k0:=Fy i2.out st i;rw[<-List.map_take,<-List.map_drop]at k0;obtain⟨t,ht⟩:=Ab (cutW [] ((R.take i).drop st));rw[<-ht]at x1;have t0:(D ++ [(R.take i).drop st]).map (cutW [])=D.map (cutW []) ++ [t]:=by rw[List.map_append,ht];rfl
     obtain⟨cu,m1⟩:=Ab ((R.take i).drop st);rw[<-m1]at x1 k0 a t0;replace m0:=Aa m0;replace I:=Aa I;replace k0:=Aa k0;replace ht:=Aa ht;replace t0:=Aa t0;replace m1:=Aa m1;go_wp2_with fail;refine(J.out _).mono ?_;rintro e w4 ⟨rfl,U⟩;have i0:=Aa (hE.out.trans U);have q2:=Aa (k0.out.ext i0.out);go_wp2_with fail;refine(x1.out _ _ q2.out).mono ?_;rintro e w5 ⟨rfl,x0⟩;have l0:=Aa (i0.out.trans x0);have g0:=Aa (x0.owns (U.owns T.out));have y2:=l0.out.size;replace x0:=Aa x0;go_wp2_with (at_builtin;refine Ch (m:=1) Lw g0.out (.tmp 24) (.tmp 33) rfl rfl rfl rfl rfl (Az rfl) (by omega) y2 (fun A6 c6 w6 p3 o2 i3=>?_));have i1:=l0.out.grown o2 (fun q hq=>(g0.out.lt q hq).1);refine⟨⟨i+1,i+1,k+1,c6,A6,D ++ [cu],rfl,rfl,rfl,by omega,by omega,by omega,Aa (by rw[List.length_append,<-hk.out];rfl),Aa (fun _=>rfl),a,Aa ?_,Aa i1⟩,by simp only[intOf];omega⟩;rw[t0.out,HJ,List.length_map,<-hk.out];exact p3
    ·obtain rfl:st=i:=by omega
     rw[Db,Cz hb.symm]at j;have a:runsW [] R=D++runsW ((R.take (st+1)).drop (st+1)) (R.drop (st+1)):=by rw[Db];exact j
     clear j;replace a:=Aa a;replace H:=Aa H;replace hb:=Aa hb;go_wp2_with fail;refine(J.out _).mono ?_;rintro e w4 ⟨rfl,U⟩;go_wp2_with fail;exact⟨⟨st+1,st+1,k,c3,A3,D,rfl,rfl,rfl,by omega,by omega,by omega,hk,Aa (fun _=>rfl),a,Aa (U.owns T.out),Aa (hE.out.trans U)⟩,by simp only[intOf];omega⟩
  ·obtain rfl:i=m:=by omega
   have k3:=j3.out rfl;subst k3;have r0:runsW [] R=D:=by
    rw[n0.out,Db,List.drop_eq_nil_of_le (by rw[<-hm.out];exact Nat.le_refl _),runsW,if_pos rfl,List.append_nil]
   have d0:Z=D.map (cutW []):=by rw[Y.out,r0]
   have q3:k=Z.length:=by rw[d0,List.length_map];exact hk.out
   rw[<-d0]at T;replace r0:=Aa r0;replace d0:=Aa d0;subst q3;go_wp2_with fail;go_ret;exact⟨A3,c3,rfl,World.ownsRow.mono T.out q0.out.size,q0.out.trans hE.out⟩
end
section
open Go.RowKit
section
variable {β:Type}
def valsOf (ps:List (List UInt8×β)) (s:List UInt8):List β:=(ps.filter fun p=>decide (p.1=s)).map Prod.snd
theorem AK (ps qs:List (List UInt8×β)) (s:List UInt8):valsOf (ps++qs) s=valsOf ps s++valsOf qs s:=by unfold valsOf;rw[List.filter_append,List.map_append]
theorem Dz (p:List UInt8×β) (s:List UInt8):valsOf [p] s=if p.1=s then [p.2] else []:=by
 unfold valsOf;rw[List.filter_cons];by_cases h:p.1=s
 ·simp[h]
 ·simp[h]
theorem K7 (p:List UInt8×β) (ps:List (List UInt8×β)) (s:List UInt8):valsOf (p::ps) s=(if p.1=s then [p.2] else [])++valsOf ps s:=by
 rw[<-Dz,<-AK];rfl
def Ris {α:Type} (l:List (List UInt8×α)):Prop:=l.Pairwise fun a b=>a.1<b.1
structure Grp (ps:List (List UInt8×β)) (r:List (List UInt8×List β)):Prop where
  up:Ris r
  mem:∀x,x∈r↔x.2=valsOf ps x.1/\x.2 ≠ []
theorem Ris.nodup {α:Type} {l:List (List UInt8×α)} (h:Ris l):l.Nodup:=by
 refine List.Pairwise.imp ?_ h;intro a b hab e;rw[e]at hab;exact List.lt_irrefl _ hab
theorem Ris.ext {α:Type} {a b:List (List UInt8×α)} (j:Ris a) (hb:Ris b) (h:∀x,x∈a↔x∈b):a=b :=
 List.Perm.eq_of_pairwise (le:=fun(x y:List UInt8×α)=>x.1<y.1) (fun x y _ _ h k=>(List.lt_irrefl _ (List.lt_trans h k)).elim) j hb ((List.perm_ext_iff_of_nodup j.nodup hb.nodup).2 h)
theorem Grp.uniq {ps:List (List UInt8×β)} {r q:List (List UInt8×List β)} (h:Grp ps r) (k:Grp ps q):r=q :=
 h.up.ext k.up fun x=>(h.mem x).trans (k.mem x).symm
theorem Grp.same {ps qs:List (List UInt8×β)} {r:List (List UInt8×List β)} (h:Grp ps r) (k:∀s,valsOf ps s=valsOf qs s):Grp qs r :=
 ⟨h.up,fun x=>by rw[h.mem x,k]⟩
theorem Grp.nil:Grp ([]:List (List UInt8×β)) []:=⟨List.Pairwise.nil,fun x=>by simp[valsOf]⟩
def addG (p:List UInt8×β):List (List UInt8×List β)->List (List UInt8×List β)
 | []=> [(p.1,[p.2])]
 | x::xs=>if x.1<p.1 then x::addG p xs else if x.1=p.1 then (x.1,x.2 ++ [p.2])::xs else (p.1,[p.2])::x::xs
theorem Ig (p:List UInt8×β):∀(l:List (List UInt8×List β)) (y:List UInt8×List β),y∈addG p l->y.1=p.1\/y∈l
 | [],y,h=>by simp only[addG,List.mem_singleton]at h;rw[h];exact .inl rfl
 | x::xs,y,h=>by
  unfold addG at h;split at h
  ·rcases List.mem_cons.1 h with rfl | h
   ·exact .inr (List.mem_cons_self ..)
   ·rcases Ig p xs y h with h | h
    ·exact .inl h
    ·exact .inr (List.mem_cons_of_mem _ h)
  ·split at h
   ·rename_i j;rcases List.mem_cons.1 h with rfl | h
    ·exact .inl j
    ·exact .inr (List.mem_cons_of_mem _ h)
   ·rcases List.mem_cons.1 h with rfl | h
    ·exact .inl rfl
    ·exact .inr h
theorem Ex {a b:List UInt8} (h:¬ a<b) (j:¬ a=b):b<a :=
 Decidable.byContradiction fun h2=>j (List.le_antisymm (List.not_lt.1 h2) (List.not_lt.1 h))
theorem JK (p:List UInt8×β):∀(l:List (List UInt8×List β)),Ris l->Ris (addG p l)
 | [],_=>List.pairwise_singleton ..
 | x::xs,h=>by
  obtain⟨h1,h2⟩:=List.pairwise_cons.1 h;unfold addG;split
  ·rename_i a;refine List.pairwise_cons.2 ⟨fun y j=>?_,JK p xs h2⟩;rcases Ig p xs y j with e | j
   ·rw[e];exact a
   ·exact h1 y j
  ·rename_i Y;split
   ·exact List.pairwise_cons.2 ⟨h1,h2⟩
   ·rename_i H;have b:=Ex Y H;refine List.pairwise_cons.2 ⟨fun y j=>?_,h⟩;rcases List.mem_cons.1 j with rfl | j
    ·exact b
    ·exact List.lt_trans b (h1 y j)
theorem Ris.notMem {α:Type} {x:List UInt8×α} {xs:List (List UInt8×α)} (h:Ris (x::xs)):∀y∈xs,¬ y.1=x.1:=fun y j e=>by
 have:=(List.pairwise_cons.1 h).1 y j;rw[e]at this;exact List.lt_irrefl _ this
theorem JJ (p:List UInt8×β):∀(l:List (List UInt8×List β)),Ris l->∀y,y∈addG p l↔(¬ y.1=p.1/\y∈l)\/(y.1=p.1/\((∃v,(p.1,v)∈l/\y.2=v ++ [p.2])\/((∀v,(p.1,v)∉l)/\y.2 = [p.2])))
 | [],_,y=>by
  constructor
  ·intro h;simp only[addG,List.mem_singleton]at h;rw[h];exact .inr ⟨rfl,.inr ⟨fun v=>List.not_mem_nil,rfl⟩⟩
  ·rintro(⟨_,h⟩ | ⟨h,(⟨v,h2,_⟩ | ⟨_,h2⟩)⟩)
   ·cases h
   ·cases h2
   ·obtain⟨a,b⟩:=y;simp only at h h2;rw[h,h2];exact List.mem_singleton.2 rfl
 | x::xs,hr,y=>by
  have q0:=(List.pairwise_cons.1 hr).2;have ih:=JJ p xs q0 y;unfold addG;split
  ·rename_i U;have Z:¬ x.1=p.1:=fun e=>by rw[e]at U;exact List.lt_irrefl _ U
   have T:∀v,¬ (p.1,v)=x:=fun v e=>Z (by rw[<-e]);rw[List.mem_cons,ih];simp only[List.mem_cons];constructor
   ·rintro(rfl | ⟨h1,h2⟩ | ⟨h1,(⟨v,h2,j⟩ | ⟨h2,j⟩)⟩)
    ·exact .inl ⟨Z,.inl rfl⟩
    ·exact .inl ⟨h1,.inr h2⟩
    ·exact .inr ⟨h1,.inl ⟨v,.inr h2,j⟩⟩
    ·exact .inr ⟨h1,.inr ⟨fun v J=>J.elim (T v) (h2 v),j⟩⟩
   ·rintro(⟨h1,(h2 | h2)⟩ | ⟨h1,(⟨v,(h2 | h2),j⟩ | ⟨h2,j⟩)⟩)
    ·exact .inl h2
    ·exact .inr (.inl ⟨h1,h2⟩)
    ·exact absurd h2 (T v)
    ·exact .inr (.inr ⟨h1,.inl ⟨v,h2,j⟩⟩)
    ·exact .inr (.inr ⟨h1,.inr ⟨fun v J=>h2 v (.inr J),j⟩⟩)
  ·rename_i G;split
   ·rename_i Y;have H:=hr.notMem;rw[List.mem_cons];simp only[List.mem_cons];constructor
    ·rintro(rfl | h)
     ·exact .inr ⟨Y,.inl ⟨x.2,.inl (by rw[<-Y]),rfl⟩⟩
     ·exact .inl ⟨fun e=>H y h (e.trans Y.symm),.inr h⟩
    ·rintro(⟨h1,(rfl | h2)⟩ | ⟨h1,(⟨v,(h2 | h2),j⟩ | ⟨h2,j⟩)⟩)
     ·exact absurd Y h1
     ·exact .inr h2
     ·refine .inl ?_;obtain⟨a,b⟩:=y;simp only at h1 j;rw[h1,j,Y,<-h2]
     ·exact absurd Y.symm (H _ h2)
     ·exact absurd (.inl (by rw[<-Y])) (h2 x.2)
   ·rename_i O;have I:=Ex G O;have H:∀v,(p.1,v)∉x::xs:=fun v J=>by
     rcases List.mem_cons.1 J with e | J
     ·exact O (by rw[<-e])
     ·exact List.lt_irrefl _ (List.lt_trans I ((List.pairwise_cons.1 hr).1 _ J))
    rw[List.mem_cons];constructor
    ·rintro(rfl | h)
     ·exact .inr ⟨rfl,.inr ⟨H,rfl⟩⟩
     ·exact .inl ⟨fun e=>H y.2 (by rw[<-e];exact h),h⟩
    ·rintro(⟨_,h⟩ | ⟨h1,(⟨v,h2,_⟩ | ⟨_,j⟩)⟩)
     ·exact .inr h
     ·exact absurd h2 (H v)
     ·refine .inl ?_;obtain⟨a,b⟩:=y;simp only at h1 j;rw[h1,j]
theorem Grp.add {ps:List (List UInt8×β)} {r:List (List UInt8×List β)} (h:Grp ps r) (p:List UInt8×β):Grp (ps ++ [p]) (addG p r):=by
 refine⟨JK p r h.up,fun y=>?_⟩;rw[JJ p r h.up y,AK,Dz];by_cases hk:p.1=y.1
 ·rw[if_pos hk];have j:∀v,(p.1,v)∈r↔v=valsOf ps p.1/\v ≠ []:=fun v=>h.mem (p.1,v);constructor
  ·rintro(⟨h1,_⟩ | ⟨_,(⟨v,h2,a⟩ | ⟨h2,a⟩)⟩)
   ·exact absurd hk.symm h1
   ·rw[a,<-hk,((j v).1 h2).1];exact⟨rfl,by simp⟩
   ·have:valsOf ps p.1 = []:=Decidable.byContradiction fun H=>h2 _ ((j _).2 ⟨rfl,H⟩);rw[a,<-hk,this];exact⟨rfl,by simp⟩
  ·rintro⟨h1,_⟩;refine .inr ⟨hk.symm,?_⟩;by_cases Y:valsOf ps p.1 = []
   ·exact .inr ⟨fun v b=>((j v).1 b).2 (((j v).1 b).1.trans Y),by rw[h1,<-hk,Y];rfl⟩
   ·exact .inl ⟨_,(j _).2 ⟨rfl,Y⟩,by rw[h1,<-hk]⟩
 ·rw[if_neg hk,List.append_nil,<-h.mem y];constructor
  ·rintro(⟨_,h2⟩ | ⟨h1,_⟩)
   ·exact h2
   ·exact absurd h1.symm hk
  ·exact fun h2=> .inl ⟨fun e=>hk e.symm,h2⟩
def grp (ps:List (List UInt8×β)):List (List UInt8×List β):=ps.foldl (fun l p=>addG p l) []
theorem EY (ps:List (List UInt8×β)) (p:List UInt8×β):grp (ps ++ [p])=addG p (grp ps):=by unfold grp;rw[List.foldl_append];rfl
theorem BM (ps:List (List UInt8×β)):Grp ps (grp ps):=by
 have key:∀(qs:List (List UInt8×β)) (ps:List (List UInt8×β)) (r:List (List UInt8×List β)),Grp ps r->Grp (ps++qs) (qs.foldl (fun l p=>addG p l) r):=by
  intro qs
  induction qs with
  | nil=>intro ps r h;rw[List.append_nil];exact h
  | cons q qs ih =>
   intro ps r h;have:=ih _ _ (h.add q);rw[List.append_assoc]at this;exact this
 exact key ps [] [] Grp.nil
def joinS (r:List (List UInt8×List β)) (p:List UInt8×β):List (List UInt8×List β):=match r.getLast? with
 | some x=>if x.1=p.1 then r.dropLast ++ [(x.1,x.2 ++ [p.2])] else r ++ [(p.1,[p.2])]
 | none=> [(p.1,[p.2])]
theorem Ih (p:List UInt8×β):∀(r:List (List UInt8×List β)),Ris r->(∀x∈r,¬ p.1<x.1)->addG p r=joinS r p
 | [],_,_=>rfl
 | [x],_,h=>by
  have h1:=h x (List.mem_singleton.2 rfl);unfold addG joinS;simp only[List.getLast?_singleton];by_cases j:x.1=p.1
  ·have:¬ x.1<p.1:=fun J=>by rw[j]at J;exact List.lt_irrefl _ J
   rw[if_neg this,if_pos j,if_pos j];rfl
  ·rw[if_pos (Ex h1 fun e=>j e.symm),if_neg j];rfl
 | x::y::ys,U,h=>by
  have a:=(List.pairwise_cons.1 U).2;have ih:=Ih p (y::ys) a fun z T=>h z (List.mem_cons_of_mem _ T);have b:=(List.pairwise_cons.1 U).1 y (List.mem_cons_self ..);have Y:=h y (List.mem_cons_of_mem _ (List.mem_cons_self ..));have H:x.1<p.1:=by
   by_cases j:y.1=p.1
   ·rw[<-j];exact b
   ·exact List.lt_trans b (Ex Y fun e=>j e.symm)
  rw[addG,if_pos H,ih];unfold joinS;rw[List.getLast?_cons_cons];cases O:(y::ys).getLast? with
  | none=>simp at O
  | some z =>
   simp only;split
   ·rw[List.dropLast_cons_cons];rfl
   ·rfl
structure Stab (ps l:List (List UInt8×β)):Prop where
  up:l.Pairwise fun a b=>¬ b.1<a.1
  vals:∀s,valsOf l s=valsOf ps s
theorem IG:∀(done l:List (List UInt8×β)),(done++l).Pairwise (fun a b=>¬ b.1<a.1)->l.foldl joinS (grp done)=grp (done++l)
 | done,[],_=>by rw[List.append_nil];rfl
 | done,p::l,h=>by
  have j:joinS (grp done) p=grp (done ++ [p]):=by
   rw[EY];refine(Ih p _ (BM done).up fun x T=>?_).symm;have O:=((BM done).mem x).1 T;obtain⟨q,J,U⟩:∃q∈done,q.1=x.1:=by
    have H:valsOf done x.1 ≠ []:=O.1 ▸ O.2;unfold valsOf at H;have Y:(done.filter fun(p:List UInt8×β)=>decide (p.1=x.1)) ≠ []:=fun e=>H (by rw[e];rfl);obtain⟨q,J⟩:=List.exists_mem_of_ne_nil _ Y;exact⟨q,(List.mem_filter.1 J).1,of_decide_eq_true (List.mem_filter.1 J).2⟩
   rw[<-U];exact(List.pairwise_append.1 h).2.2 q J p (List.mem_cons_self ..)
  rw[List.foldl_cons,j];have:=IG (done ++ [p]) l (by rw[List.append_assoc];exact h);rw[List.append_assoc]at this;exact this
theorem Stab.grp {ps l:List (List UInt8×β)} (h:Stab ps l):l.foldl joinS []=grp ps:=by
 have h1:=IG [] l h.up;rw[List.nil_append]at h1;exact h1.trans ((BM l).same h.vals |>.uniq (BM ps))
end
end
section
def fieldT (base:Nat) (f:Fd):List (List UInt8×Int):=(tokL f.2).zipIdx.map fun p=>(f.1++58::p.1,((base+p.2:Nat):Int))
def nextT (base:Nat) (f:Fd):Nat:=base+(64+(tokL f.2).length)
def rawT:Nat->List Fd->List (List UInt8×Int)
 | _,[]=> []
 | b,f::fs=>fieldT b f++rawT (nextT b f) fs
def baseT:Nat->List Fd->Nat
 | b,[]=>b
 | b,f::fs=>baseT (nextT b f) fs
theorem He:∀(a c:List Fd) (b:Nat),rawT b (a++c)=rawT b a++rawT (baseT b a) c
 | [],c,b=>rfl
 | f::a,c,b=>by
  show fieldT b f++rawT (nextT b f) (a++c)=(fieldT b f++rawT (nextT b f) a)++_;rw[He a c,List.append_assoc];rfl
theorem Fx:∀(a c:List Fd) (b:Nat),baseT b (a++c)=baseT (baseT b a) c
 | [],c,b=>rfl
 | f::a,c,b=>Fx a c (nextT b f)
theorem CB (base:Nat) (f:Fd):(fieldT base f).length=(tokL f.2).length:=by unfold fieldT;rw[List.length_map,List.length_zipIdx]
def termsL (e:Ev):List (List UInt8×List Int):=if checkE e.fs=0 then grp (rawT 0 e.fs) else []
end
section
abbrev Dc:=Int×Ev
def okD (p:Dc):Bool:=decide (checkE p.2.fs=0)
def okDs (l:List Dc):Bool:=decide (l.length<=65536)&&(risB 1099511627777 0 (l.map (·.1))&&l.all okD)
def oneD (last:Int) (p:Dc):List UInt8:=vb (p.1 - last - 1).toNat++putE p.2
def blockD:Int->List Dc->List UInt8
 | _,[]=> []
 | last,p::t=>oneD last p++blockD p.1 t
def lastD:Int->List Dc->Int
 | last,[]=>last
 | _,p::t=>lastD p.1 t
def headD:Int->List (List Dc)->List UInt8
 | _,[]=> []
 | last,b::bs=>vb (lastD last b).toNat++vb (blockD last b).length++headD (lastD last b) bs
def encDs (l:List Dc):List UInt8:=vb l.length++headD 0 (chunkL 16 l)++blockD 0 l
theorem Bj:∀(a b:List Dc) (last:Int),blockD last (a++b)=blockD last a++blockD (lastD last a) b
 | [],b,last=>rfl
 | p::t,b,last=>by
  show oneD last p++blockD p.1 (t++b)=_;rw[Bj t b];show _=(oneD last p++blockD p.1 t)++blockD (lastD p.1 t) b;rw[List.append_assoc]
theorem C4:∀(a b:List Dc) (last:Int),lastD last (a++b)=lastD (lastD last a) b
 | [],b,last=>rfl
 | p::t,b,last=>C4 t b p.1
theorem FD:∀(a b:List (List Dc)) (last:Int),headD last (a++b)=headD last a++headD (lastD last (a.flatMap id)) b
 | [],b,last=>rfl
 | p::t,b,last=>by
  show vb (lastD last p).toNat++vb (blockD last p).length++headD (lastD last p) (t++b)=_;rw[FD t b,List.flatMap_cons];show _=(vb (lastD last p).toNat++vb (blockD last p).length++headD (lastD last p) t)++headD (lastD last (p++t.flatMap id)) b;rw[C4,List.append_assoc _ _ (headD _ b)]
theorem IY {n:Int}:∀ {l:List Dc} {lo:Int} (k:Nat),risB n lo (l.map (·.1))=true->risB n (lastD lo (l.take k)) ((l.drop k).map (·.1))=true
 | [],lo,k,h=>by rw[List.drop_nil,List.take_nil];exact h
 | x::t,lo,0,h=>h
 | x::t,lo,k+1,h=>by
  rw[List.map_cons,risB,Bool.and_eq_true,Bool.and_eq_true]at h;exact IY k h.2
theorem Uy {n:Int}:∀ {l:List Dc} {lo:Int},risB n lo (l.map (·.1))=true->lo<n->lo<=lastD lo l/\lastD lo l<n
 | [],lo,_,h=>⟨Int.le_refl _,h⟩
 | x::t,lo,h,_=>by
  rw[List.map_cons,risB,Bool.and_eq_true,Bool.and_eq_true]at h;have h1:=of_decide_eq_true h.1.1;have h2:=of_decide_eq_true h.1.2;have:=Uy h.2 h2;exact⟨by show lo<=lastD x.1 t;omega,this.2⟩
theorem ID:∀(bs:List (List Dc)) (lo:Int),(∀k:Nat,lastD lo ((bs.take k).flatMap id)<9223372036854775808/\(blockD lo ((bs.take k).flatMap id)).length<9223372036854775808)->(headD lo bs).length<=20*bs.length
 | [],lo,_=>by simp[headD]
 | b::bs,lo,h=>by
  have h1:=h 1;rw[List.take_succ_cons,List.take_zero,List.flatMap_cons,List.flatMap_nil,List.append_nil]at h1;have a:=Ag (n:=(lastD lo b).toNat) (by have:=h1.1;simp only[id]at this;omega);have j:=Ag (n:=(blockD lo b).length) (by have:=h1.2;simp only[id]at this;omega);have ih:=ID bs (lastD lo b) fun k=>by
   have:=h (k+1);rw[List.take_succ_cons,List.flatMap_cons,C4,Bj,List.length_append]at this;exact⟨this.1,by simp only[id]at this ⊢;omega⟩
  show (vb _++vb _++headD _ bs).length<=_;rw[List.length_append,List.length_append,List.length_cons];omega
structure SdRound (P:List Dc) (r:Nat) (bP:List Dc) (lst:Int):Prop where
  part:bP=(P.drop (r*16)).take 16
  lo:0<=lst
  hi:lst<1099511627777
  ris:risB 1099511627777 lst (bP.map (·.1))=true
  pos:∀p∈bP,okD p=true
  hi2:0<=lastD lst bP/\lastD lst bP<1099511627777
  ne:0<=lastD lst bP
  head:headD 0 ((chunkL 16 P).take (r+1))=headD 0 ((chunkL 16 P).take r)++(vb (lastD lst bP).toNat++vb (blockD lst bP).length)
  body:blockD 0 (P.take ((r+1)*16))=blockD 0 (P.take (r*16))++blockD lst bP
  last:lastD 0 (P.take (r*16))=lst
  last2:lastD 0 (P.take ((r+1)*16))=lastD lst bP
  len:(blockD 0 (P.take (r*16))).length+(blockD lst bP).length<=(blockD 0 P).length
  hlen:(headD 0 ((chunkL 16 P).take r)).length<=20*r
theorem CV (P:List Dc) (k:Nat):(blockD 0 (P.take k)).length<=(blockD 0 P).length:=by
 conv=>rhs;rw[<-List.take_append_drop k P,Bj,List.length_append]
 omega
theorem Gy {P:List Dc} (h:okDs P=true) (j:(blockD 0 P).length<=50000000) (r:Nat):(headD 0 ((chunkL 16 P).take r)).length<=20*r:=by
 unfold okDs at h;rw[Bool.and_eq_true,Bool.and_eq_true]at h;replace h:=h.2;refine Nat.le_trans (ID _ _ fun k=>?_) (Nat.mul_le_mul_left _ (List.length_take_le _ _));rw[List.take_take,BF (by omega)];have h1:=(Uy (l:=P.take (min k r*16)) (lo:=0) (n:=1099511627777) (by rw[List.map_take];exact Bp _ h.1) (by omega)).2;have h2:=CV P (min k r*16);omega
theorem Ho {P:List Dc} (j:okDs P=true) (O:(blockD 0 P).length<=50000000) {r:Nat} (G:r*16<P.length):SdRound P r ((P.drop (r*16)).take 16) (lastD 0 (P.take (r*16))):=by
 have H:=j;unfold okDs at j;rw[Bool.and_eq_true,Bool.and_eq_true]at j;replace j:=j.2;obtain⟨h1,h2⟩:=j;have a:=Uy (l:=P.take (r*16)) (lo:=0) (n:=1099511627777) (by rw[List.map_take];exact Bp _ h1) (by omega);have U:=IY (r*16) h1;have h:risB 1099511627777 (lastD 0 (P.take (r*16))) (((P.drop (r*16)).take 16).map (·.1))=true:=by rw[List.map_take];exact Bp _ U
 have Y:=Uy h (by omega);have b:P.take ((r+1)*16)=P.take (r*16)++(P.drop (r*16)).take 16:=by rw[Nat.succ_mul,List.take_add]
 have J:0<=lastD (lastD 0 (P.take (r*16))) ((P.drop (r*16)).take 16):=by
  cases hd:(P.drop (r*16)).take 16 with
  | nil =>
   have:=congrArg List.length hd;rw[List.length_take,List.length_drop,List.length_nil]at this;omega
  | cons x t =>
   rw[hd,List.map_cons]at h;rw[risB,Bool.and_eq_true,Bool.and_eq_true]at h;have I:=of_decide_eq_true h.1.1;have T:=of_decide_eq_true h.1.2;have h5:=Uy h.2 T;show 0<=lastD x.1 t;omega
 refine⟨rfl,a.1,a.2,h,fun p Z=>List.all_eq_true.1 h2 p (List.mem_of_mem_drop (List.mem_of_mem_take Z)),⟨by omega,Y.2⟩,J,?_,?_,rfl,?_,?_,Gy H O r⟩
 ·rw[List.take_add_one,BQ (by omega) r P G,FD,BF (by omega)];show _++(vb _++vb _++headD _ [])=_;rw[show ∀lo,headD lo [] = [] from fun _=>rfl,List.append_nil]
 ·rw[b,Bj]
 ·rw[b,C4]
 ·have:=CV P ((r+1)*16);rw[b,Bj,List.length_append]at this;exact this
theorem Ir (P:List Dc) (r:Nat) (h:P.length<=r*16):encDs P=vb P.length++headD 0 ((chunkL 16 P).take r)++blockD 0 (P.take (r*16)):=by
 have:=Cb (by omega) r P h;rw[List.take_of_length_le this,List.take_of_length_le h];rfl
end
section
structure En where
  t:List UInt8
  off:Nat
  len:Nat
  n:Nat
def cpl:List UInt8->List UInt8->Nat
 | x::a,y::b=>if x=y then cpl a b+1 else 0
 | _,_=>0
theorem DC:∀(a b:List UInt8),cpl a b<=a.length/\cpl a b<=b.length
 | [],b=>by unfold cpl;simp
 | x::a,[]=>by unfold cpl;simp
 | x::a,y::b=>by
  unfold cpl;have:=DC a b;split
  ·simp only[List.length_cons];omega
  ·simp
theorem JX:∀(a b:List UInt8),a.take (cpl a b)=b.take (cpl a b)
 | [],b=>by unfold cpl;simp
 | x::a,[]=>by unfold cpl;simp
 | x::a,y::b=>by
  unfold cpl;split
  ·rename_i h;rw[List.take_succ_cons,List.take_succ_cons,JX a b,h]
  ·simp
theorem GD:∀(i:Nat) (a b:List UInt8),a.take i=b.take i->i<=a.length->i<=b.length->cpl a b=i+cpl (a.drop i) (b.drop i)
 | 0,a,b,_,_,_=>by simp
 | i+1,[],b,_,h,_=>by simp at h
 | i+1,x::a,[],_,_,h=>by simp at h
 | i+1,x::a,y::b,h,h1,h2=>by
  rw[List.take_succ_cons,List.take_succ_cons]at h;injection h with h3 h4;rw[cpl,if_pos h3,GD i a b h4 (by simpa using h1) (by simpa using h2),List.drop_succ_cons,List.drop_succ_cons];omega
def okEn (e:En):Prop:=e.t.length<=65/\e.off<=67108864/\e.len<=67108864/\e.n<=67108864
structure OkEs (l:List En):Prop where
  few:l.length<=262144
  each:∀e∈l,okEn e/\e.t ≠ []
  up:l.Pairwise fun a b=>a.t<b.t
def enB (last:List UInt8) (e:En):List UInt8:=vb (cpl last e.t)++txL (e.t.drop (cpl last e.t))++(vb e.off++vb e.len++vb e.n)
def blockE:List UInt8->List En->List UInt8
 | _,[]=> []
 | last,e::t=>enB last e++blockE e.t t
def partsE:List (List En)->List UInt8
 | []=> []
 | c::cs=>vb (blockE [] c).length++blockE [] c++partsE cs
def encEs (l:List En):List UInt8:=vb l.length++partsE (chunkL 16 l)
theorem G7:∀(a b:List (List En)),partsE (a++b)=partsE a++partsE b
 | [],b=>rfl
 | c::cs,b=>by
  show vb _++blockE [] c++partsE (cs++b)=_;rw[G7 cs b,<-List.append_assoc];rfl
theorem MS {last:List UInt8} {e:En} (h:okEn e):(enB last e).length<=200:=by
 obtain⟨h1,h2,j,b⟩:=h;have a:=DC last e.t;have v1:=Ag (n:=cpl last e.t) (by omega);have v2:=Ag (n:=e.off) (by omega);have v3:=Ag (n:=e.len) (by omega);have v4:=Ag (n:=e.n) (by omega);have v5:=Dy (s:=e.t.drop (cpl last e.t)) (by rw[List.length_drop];omega);have v6:(e.t.drop (cpl last e.t)).length<=e.t.length:=by rw[List.length_drop];omega
 unfold enB;simp only[List.length_append];omega
theorem Di:∀ {l:List En} {last:List UInt8},(∀e∈l,okEn e)->(blockE last l).length<=200*l.length
 | [],_,_=>by simp[blockE]
 | e::t,last,h=>by
  have h1:=MS (last:=last) (h e (List.mem_cons_self ..));have h2:=Di (l:=t) (last:=e.t) fun x j=>h x (List.mem_cons_of_mem _ j);show (enB last e++blockE e.t t).length<=_;rw[List.length_append,List.length_cons];omega
theorem EE:∀ {cs:List (List En)},(∀c∈cs,(∀e∈c,okEn e)/\c.length<=16)->(partsE cs).length<=3300*cs.length
 | [],_=>by simp[partsE]
 | c::cs,h=>by
  obtain⟨h1,h2⟩:=h c (List.mem_cons_self ..);have b:=Di (last:= []) h1;have a:=EE (cs:=cs) fun x j=>h x (List.mem_cons_of_mem _ j);have H:=Ag (n:=(blockE [] c).length) (by omega);show (vb _++blockE [] c++partsE cs).length<=_;rw[List.length_append,List.length_append,List.length_cons];omega
theorem F8 {l:List En} (h:∀e∈l,okEn e) (a:l.length<=262144) (r:Nat):(partsE ((chunkL 16 l).take r)).length<=60000000:=by
 have h1:=EE (cs:=(chunkL 16 l).take r) fun c j=>⟨fun e b=>h e (GB (by omega) (List.mem_of_mem_take j) e b),(Fz (by omega) (List.mem_of_mem_take j)).2⟩
 have h2:((chunkL 16 l).take r).length<=(chunkL 16 l).length:=List.length_take_le' ..;rw[AO (by omega)]at h2;omega
theorem It (l:List En) (r:Nat) (h:l.length<=r*16):encEs l=vb l.length++partsE ((chunkL 16 l).take r):=by
 have:=Cb (by omega) r l h;rw[List.take_of_length_le this];rfl
theorem F7 {l:List En} {r:Nat} (h:r*16<l.length):partsE ((chunkL 16 l).take (r+1))=partsE ((chunkL 16 l).take r)++(vb (blockE [] ((l.drop (r*16)).take 16)).length++blockE [] ((l.drop (r*16)).take 16)):=by
 rw[List.take_add_one,BQ (by omega) r l h,G7];show _++(vb _++blockE [] _++partsE [])=_;rw[show partsE [] = [] from rfl,List.append_nil]
end
section
def fnvS (h:Nat) (c:UInt8):Nat:=(h ^^^ c.toNat)*1099511628211%18446744073709551616
def fnv (s:List UInt8):Nat:=s.foldl fnvS 14695981039346656037
theorem Kb (s:List UInt8) (c:UInt8):fnv (s ++ [c])=fnvS (fnv s) c:=by unfold fnv;rw[List.foldl_append,List.foldl_cons,List.foldl_nil]
theorem Jk (h:Nat) (c:UInt8):fnvS h c<18446744073709551616:=by unfold fnvS;exact Nat.mod_lt _ (by omega)
theorem RC (s:List UInt8):fnv s<18446744073709551616:=by
 have key:∀(l:List UInt8) (h:Nat),h<18446744073709551616->l.foldl fnvS h<18446744073709551616:=by
  intro l
  induction l with
  | nil=>exact fun h j=>j
  | cons c l ih=>exact fun h _=>ih _ (Jk h c)
 exact key s _ (by omega)
def fpl (s:List UInt8) (m i:Nat):Nat:=(fnv s%4294967296+i*(fnv s / 4294967296 ||| 1))%m
def hasB (f:List UInt8) (k:Nat):Bool:=decide ((f.getD (k / 8) 0).toNat / 2^(k%8)%2=1)
def setB (f:List UInt8) (k:Nat):List UInt8:=f.set (k / 8) (UInt8.ofNat ((f.getD (k / 8) 0).toNat ||| 2^(k%8)))
def addB (f:List UInt8) (s:List UInt8):List UInt8:=setB (setB (setB (setB f (fpl s (8*f.length) 0)) (fpl s (8*f.length) 1)) (fpl s (8*f.length) 2)) (fpl s (8*f.length) 3)
def filL (n:Nat):Nat:=(min (max (10*n) 64) 1048576+7) / 8
def ofB (ts:List (List UInt8)):List UInt8:=ts.foldl addB (List.replicate (filL (min ts.length 262144)) 0)
theorem Ce (f:List UInt8) (k:Nat):(setB f k).length=f.length:=List.length_set ..
theorem EL (f:List UInt8) (s:List UInt8):(addB f s).length=f.length:=by unfold addB;rw[Ce,Ce,Ce,Ce]
theorem EU (n:Nat):8<=filL n/\filL n<=131072:=by unfold filL;omega
theorem QW (ts:List (List UInt8)):(ofB ts).length=filL (min ts.length 262144):=by
 have key:∀(l:List (List UInt8)) (f:List UInt8),(l.foldl addB f).length=f.length:=by
  intro l
  induction l with
  | nil=>exact fun f=>rfl
  | cons c l ih=>exact fun f=>by rw[List.foldl_cons,ih,EL]
 unfold ofB;rw[key,List.length_replicate]
theorem Rg (h:x<256) (hk:k<8):x ||| 2^k<256:=by
 have:2^k<2^8:=Nat.pow_lt_pow_right (by omega) hk;exact Nat.or_lt_two_pow (n:=8) h this
theorem FC (s:List UInt8) (i:Nat) (h:0<m):fpl s m i<m:=Nat.mod_lt _ h
end
section
def cstep (y:Nat):Nat:=if y%2=1 then (y / 2) ^^^ 3988292384 else y / 2
def c8 (y:Nat):Nat:=cstep (cstep (cstep (cstep (cstep (cstep (cstep (cstep y)))))))
def con (x:Nat) (c:UInt8):Nat:=c8 (x ^^^ c.toNat)
def cnot (x:Nat):Nat:=4294967295 - x
def cnext (s:Nat) (l:List UInt8):Nat:=cnot (l.foldl con (cnot s))
theorem To (a b:Nat):(a ^^^ b) / 2=(a / 2) ^^^ (b / 2):=by
 have:=Nat.shiftRight_xor_distrib (a:=a) (b:=b) (i:=1);simpa [Nat.shiftRight_eq_div_pow]using this
theorem QV (a b:Nat):(a ^^^ b)%2=(a%2) ^^^ (b%2):=by
 have:=Nat.xor_mod_two_pow (a:=a) (b:=b) (n:=1);simpa using this
theorem Nv (a b:Nat):cstep (a ^^^ b)=cstep a ^^^ cstep b:=by
 unfold cstep;rw[To,QV];rcases Nat.mod_two_eq_zero_or_one a with h | h <;> rcases Nat.mod_two_eq_zero_or_one b with hb | hb <;> rw[h,hb]
 ·rfl
 ·show (a / 2 ^^^ b / 2) ^^^ 3988292384=(a / 2) ^^^ (b / 2 ^^^ 3988292384);rw[Nat.xor_assoc]
 ·show (a / 2 ^^^ b / 2) ^^^ 3988292384=(a / 2 ^^^ 3988292384) ^^^ (b / 2);rw[Nat.xor_assoc,Nat.xor_assoc,Nat.xor_comm (b / 2)]
 ·show (a / 2 ^^^ b / 2)=(a / 2 ^^^ 3988292384) ^^^ (b / 2 ^^^ 3988292384);rw[Nat.xor_assoc,<-Nat.xor_assoc 3988292384,Nat.xor_comm 3988292384 (b / 2),Nat.xor_assoc (b / 2),Nat.xor_self,Nat.xor_zero]
theorem Rv (a b:Nat):c8 (a ^^^ b)=c8 a ^^^ c8 b:=by
 unfold c8;simp only[Nv]
theorem Nu (z:Nat):cstep (z*2)=z:=by
 unfold cstep;rw[if_neg (by omega)];omega
theorem QD (z:Nat):c8 (z*256)=z:=by
 unfold c8;rw[show z*256=z*2*2*2*2*2*2*2*2 by omega];simp only[Nu]
theorem OD (y:Nat):y=(y%256) ^^^ (y / 256*256):=by
 have h:y / 256*256 ||| y%256=y / 256*256+y%256:=by
  have:=Nat.shiftLeft_add_eq_or_of_lt (b:=y%256) (i:=8) (Nat.mod_lt _ (by decide)) (y / 256);rw[Nat.shiftLeft_eq]at this;exact this.symm
 apply Nat.eq_of_testBit_eq;intro i;rw[Nat.testBit_xor];have h1:(y%256).testBit i=(decide (i<8)&&y.testBit i):=Nat.testBit_mod_two_pow y 8 i;have h2:(y / 256*256).testBit i=(decide (8<=i)&&y.testBit i):=by
  have e:y / 256*256=(y >>> 8) <<< 8:=by rw[Nat.shiftRight_eq_div_pow,Nat.shiftLeft_eq]
  rw[e,Nat.testBit_shiftLeft,Nat.testBit_shiftRight];by_cases j:8<=i
  ·rw[show 8+(i - 8)=i by omega]
  ·simp[j]
 rw[h1,h2];by_cases j:i<8
 ·simp[j,show ¬ 8<=i by omega]
 ·simp[j,show 8<=i by omega]
theorem Nt (x:Nat) (c:UInt8):con x c=c8 ((x ^^^ c.toNat)%256) ^^^ (x / 256):=by
 unfold con;have j:c.toNat / 256=0:=by have:=c.toNat_lt;omega
 have h:=Nat.shiftRight_xor_distrib (a:=x) (b:=c.toNat) (i:=8);rw[Nat.shiftRight_eq_div_pow,Nat.shiftRight_eq_div_pow,Nat.shiftRight_eq_div_pow]at h;have h2:(x ^^^ c.toNat) / 256=x / 256:=by
  have:(2:Nat)^8=256:=rfl;rw[this,j,Nat.xor_zero]at h;exact h
 conv=>lhs;rw[OD (x ^^^ c.toNat)]
 rw[Rv,QD,h2]
theorem BB (h:y<4294967296):cstep y<4294967296:=by
 unfold cstep;split
 ·exact Nat.xor_lt_two_pow (n:=32) (by omega) (by omega)
 ·omega
theorem Re (h:y<4294967296):c8 y<4294967296:=by
 unfold c8;exact BB (BB (BB (BB (BB (BB (BB (BB h)))))))
theorem Lq (c:UInt8) (h:x<4294967296):con x c<4294967296:=by
 unfold con;have:=c.toNat_lt;exact Re (Nat.xor_lt_two_pow (n:=32) (by omega) (by omega))
theorem MX:∀(l:List UInt8) {x:Nat},x<4294967296->l.foldl con x<4294967296
 | [],_,h=>h
 | c::l,_,h=>MX l (Lq c h)
theorem EP (s:Nat) (l:List UInt8):cnext s l<4294967296:=by
 unfold cnext cnot;omega
end
section
open Go.RowKit
def citer:Nat->Nat->Nat
 | 0,y=>y
 | k+1,y=>citer k (cstep y)
theorem O5 (y:Nat):c8 y=citer 8 y:=rfl
theorem GC {z v j:Nat} (h:z=citer (8 - j) v) (b:j<8):z=citer (8 - (j+1)) (cstep v):=by
 rw[h,show 8 - j=(8 - (j+1))+1 by omega];rfl
theorem Im {z v j:Nat} (h:z=citer (8 - j) v) (b:8<=j):z=v:=by
 rw[h,show 8 - j=0 by omega];rfl
theorem Ip {v:Nat} (h:v%2=1):cstep v=(v / 2) ^^^ 3988292384:=by unfold cstep;rw[if_pos h]
theorem GE {v:Nat} (h:v%2=0):cstep v=v / 2:=by unfold cstep;rw[if_neg (by omega)]
theorem Lc (h:d<4294967296):bits .xor .u32 (d:Int) 3988292384=((d ^^^ 3988292384:Nat):Int):=by
 rw[show (3988292384:Int)=((3988292384:Nat):Int)from rfl,u32_xor_nat _ _ h (by omega)]
theorem RP (x c:Nat) (w:World) (G:x<4294967296) (hc:c<256):Calls prog 216 #[.int .u32 x,.int .u8 c] w fun e w'=>e = .returned (.int .u32 (c8 (x ^^^ c):Nat))/\w'=w:=by
 have Y:bits .xor .u32 (x:Int) (c:Int)=((x ^^^ c:Nat):Int):=u32_xor_nat _ _ G (by omega);have a:x ^^^ c<4294967296:=Nat.xor_lt_two_pow (n:=32) G (by omega);obtain⟨y,I⟩:=Ab (x ^^^ c);rw[<-I]at Y a ⊢;obtain⟨z,J⟩:=Ab (c8 y);rw[<-J];rw[O5]at J;replace J:=Aa J;clear I
 go_in
 go_wp2_with fail
 go_loop [0,5] (fun s0 s5=>∃(j v:Nat),s5 = .int .i64 j/\j<=8/\s0 = .int .u32 v/\v<4294967296/\Hid (z=citer (8 - j) v)) (fun _ s5=>8 - (intOf s5).toNat)
 case atStart=>exact⟨0,y,rfl,by omega,rfl,a,J⟩
 case round =>
  obtain⟨j,v,rfl,hj,rfl,hv,b⟩:=hrel;by_cases U:j<8
  ·have hn:=GC b.out U;have h:=BB hv;replace hn:=Aa hn;rcases Nat.mod_two_eq_zero_or_one v with H | H
   ·have hs:=GE H;have O:(v:Int)%2=0:=by omega
    rw[hs]at hn h;clear H hs b;go_wp2_with fail
    go_round
    case rel=>exact⟨j+1,v / 2,by go_num,by omega,by go_num,h,hn⟩
    case measure=>simp[intOf];omega
   ·have hs:=Ip H;have O:(v:Int)%2=1:=by omega
    obtain⟨d,hd⟩:=Ab (v / 2);have h0:(v:Int) / 2=(d:Int):=by omega
    have T:=Lc (d:=d) (by omega);rw[hs,<-hd]at hn h;obtain⟨q,Z⟩:=Ab (d ^^^ 3988292384);rw[<-Z]at hn h T;clear H hs b hd Z;go_wp2_with fail
    go_round
    case rel=>exact⟨j+1,q,by go_num,by omega,rfl,h,hn⟩
    case measure=>simp[intOf];omega
  ·have hn:=Im b.out (by omega);replace hn:=Aa hn;clear b;go_wp2_with fail;go_ret;exact⟨by rw[hn.out];rfl,rfl⟩
theorem Om (A:Option Addr) (s n c:Nat) (l:List UInt8) (w0 w:World) (hb:In8 w0 A n c l) (hw:Ext w0 w) (hs:s<4294967296) (h0:n<=1000000000) :
 Calls prog 185 #[.int .u32 s,.slice A n c] w fun e w'=>e = .returned (.int .u32 (cnext s l:Nat))/\w'=w:=by
 have j:=Dh s hs;have a:cnot s<4294967296:=by unfold cnot;omega
 rw[show 4294967295 - s=cnot s from rfl]at j;obtain⟨y,Z⟩:=Ab (cnot s);rw[<-Z]at j a;have O:cnext s l=4294967295 - l.foldl con y:=by unfold cnext;rw[<-Z];rfl
 replace O:=Aa O;clear Z;replace hb:=Aa hb
 go_in
 go_wp2_with fail
 go_loop [0,5] (fun s0 s5=>∃(i v:Nat),s5 = .int .i64 i/\i<=n/\s0 = .int .u32 v/\v<4294967296/\Hid (l.foldl con y=(l.drop i).foldl con v)) (fun _ s5=>n - (intOf s5).toNat)
 case atStart=>exact⟨0,y,rfl,by omega,rfl,a,rfl⟩
 case round =>
  obtain⟨i,v,rfl,hi,rfl,T,Y⟩:=hrel;by_cases I:i<n
  ·have H:i<l.length:=by rw[<-hb.out.len];omega
   obtain⟨g,o,rfl,G⟩:=hb.out.bytes.at_ (by omega);have J:=hw.cell (G i H);have U:=Aa (fun w=>RP v l[i].toNat w T l[i].toNat_lt);have hn:l.foldl con y=(l.drop (i+1)).foldl con (con v l[i]):=by rw[Y.out,List.drop_eq_getElem_cons H];rfl
   have h:=Lq l[i] T;unfold con at hn h;replace hn:=Aa hn;clear G Y;go_wp2_with fail;refine(U.out _).mono ?_;rintro e w1 ⟨rfl,rfl⟩;go_wp2_with fail
   go_round
   case rel=>exact⟨i+1,_,by go_num,by omega,rfl,h,hn⟩
   case measure=>simp[intOf];omega
  ·have b:l.foldl con y=v:=by rw[Y.out,List.drop_of_length_le (by rw[<-hb.out.len];omega)];rfl
   have q0:=Dh v T;replace b:=Aa b;clear Y;go_wp2_with fail;go_ret;exact⟨Fb (by rw[O.out,b.out]),rfl⟩
theorem RO (A:Option Addr) (n c:Nat) (l:List UInt8) (w0 w:World) (h:In8 w0 A n c l) (b:Ext w0 w) (j:n<=1000000000) :
 Calls prog 158 #[.slice A n c] w fun e w'=>e = .returned (.int .u32 (cnext 0 l:Nat))/\w'=w:=by
 have hn:=Aa (Om A 0 n c l w0 w h b (show 0<4294967296 by decide) j);clear h
 go_in
 go_wp2_with fail;refine hn.out.mono ?_;rintro e w1 ⟨rfl,rfl⟩;go_wp2_with fail;go_ret;exact⟨rfl,rfl⟩
def tabA (i:Nat):Array Value:=((List.range 256).map fun k=>if k<i then Value.int .u32 (c8 k:Nat) else .int .u32 0).toArray
theorem Fr (hk:k<256):(tabA i)[k]? = some (if k<i then Value.int .u32 (c8 k:Nat) else .int .u32 0):=by
 unfold tabA;simp[hk]
theorem Qd (hi:i<256):(tabA i).setIfInBounds i (.int .u32 (c8 i:Nat))=tabA (i+1):=by
 apply Array.ext_getElem?;intro k;rw[Array.getElem?_setIfInBounds];by_cases hk:k<256
 ·rw[Fr hk,Fr hk];have hs:i<(tabA i).size:=by unfold tabA;simp;omega
  by_cases h:i=k
  ·subst h;rw[if_pos rfl,if_pos hs,if_pos (by omega)]
  ·rw[if_neg h];by_cases h1:k<i
   ·rw[if_pos h1,if_pos (by omega)]
   ·rw[if_neg h1,if_neg (by omega)]
 ·have h1:(tabA i)[k]? = none:=by unfold tabA;simp;omega
  have h2:(tabA (i+1))[k]? = none:=by unfold tabA;simp;omega
  rw[h1,h2,if_neg (by omega)]
theorem OM:Tryz.zeroCells301=tabA 0:=by kernel_rfl
theorem Ts {v:Nat} (h:v<4294967296):bits .and .u32 (v:Int) 1=((v%2:Nat):Int):=by
 rw[show (1:Int)=((1:Nat):Int)from rfl,u32_and_nat _ _ h (by omega),Nat.and_one_is_mod]
theorem ON (w:World):Calls prog 215 #[] w fun e w'=>e = .returned (.pointer (some ⟨w.heap.size,0,none⟩))/\Row w' w.heap.size 301 (tabA 256)/\Ext w w':=by
 have hz:Row (w.alloc (.cells Tryz.zeroCells301 301)) w.heap.size 301 (tabA 0):=by rw[OM];exact Row.new w _ _
 have Y:Ext w (w.alloc (.cells Tryz.zeroCells301 301)):=(Ext.refl w).alloc _;replace hz:=Aa hz;replace Y:=Aa Y
 go_in
 go_wp2_with fail
 go_loopw [2,3,4,5] (fun _ _ _ s5 wr=>∃(i:Nat),s5 = .int .i64 i/\i<=256/\Hid (Row wr w.heap.size 301 (tabA i))/\Hid (Ext w wr)) (fun _ _ _ s5 _=>256 - (intOf s5).toNat)
 case atStart=>exact⟨0,rfl,by omega,hz,Y⟩
 case round =>
  obtain⟨i,rfl,hi,G,hE⟩:=hrel;by_cases O:i<256
  ·obtain⟨z,h⟩:=Ab (c8 i);have I:=Aa h;rw[O5]at h;replace h:=Aa h;obtain⟨wo,rfl⟩:=Ab (wr:World);go_wp2_with fail
   go_loop [3,4,10] (fun s3 _ s10=>∃(j v:Nat),s10 = .int .i64 j/\j<=8/\s3 = .int .u32 v/\v<4294967296/\Hid (z=citer (8 - j) v)) (fun _ _ s10=>8 - (intOf s10).toNat)
   case atStart=>exact⟨0,i,rfl,by omega,by go_num,by omega,h⟩
   case round =>
    obtain⟨j,v,rfl,hj,rfl,hv,b⟩:=hrel;by_cases p0:j<8
    ·have hn:=GC b.out p0;have a:=BB hv;have U:=Ts hv;obtain⟨q,Z⟩:=Ab (v%2);obtain⟨d,hd⟩:=Ab (v / 2);have v0:(v:Int) / 2=(d:Int):=by omega
     have H:d<4294967296:=by omega
     have k0:=Lc H;rw[<-Z]at U;rcases (show q=0\/q=1 by omega)with rfl | rfl
     ·rw[GE Z.symm,<-hd]at hn;replace hn:=Aa hn;clear Z hd b a;go_wp2_with fail
      go_round
      case rel=>exact⟨j+1,d,by go_num,by omega,rfl,H,hn⟩
      case measure=>simp[intOf];omega
     ·rw[Ip Z.symm,<-hd]at hn a;obtain⟨y,hy⟩:=Ab (d ^^^ 3988292384);rw[<-hy]at hn a k0;replace hn:=Aa hn;clear Z hd b hy;go_wp2_with fail
      go_round
      case rel=>exact⟨j+1,y,by go_num,by omega,rfl,a,hn⟩
      case measure=>simp[intOf];omega
    ·have hn:=Im b.out (by omega);have J:=G.out.cell i (Fr O);have x0:=G.out.free i;have y0:=G.out.lt;rw[if_neg (by omega)]at J;have hp:=G.out.put i (.int .u32 (v:Nat));rw[<-hn,I.out,Qd O]at hp;have T:=Aa (I.out.symm.trans hn);replace hp:=Aa hp;have q0:=Aa (hE.out.setCell (p:=⟨w.heap.size,i,none⟩) (Nat.le_refl _) (.int .u32 ((c8 i:Nat):Int)));clear b hn;go_wp2_with fail;go_roundw
     case rel=>exact⟨i+1,by go_num,by omega,by rw[<-T.out];exact hp,by rw[<-T.out];exact q0⟩
     case measure=>simp[intOf];omega
  ·obtain rfl:i=256:=by omega
   go_wp2_with fail;go_ret;exact⟨rfl,G.out,hE.out⟩
end
end Go.Proofs.YtfifdilapbeiiaaGreat
