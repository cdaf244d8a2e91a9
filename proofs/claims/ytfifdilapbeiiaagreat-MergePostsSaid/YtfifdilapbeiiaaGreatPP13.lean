/- Texts of one proof, joined. -/
import Derived.Test.YtfifdilapbeiiaaGreatPP12
import Derived.Deep.RegionLaw
set_option linter.unusedSimpArgs false
set_option linter.unusedVariables false
set_option maxRecDepth 100000
set_option maxHeartbeats 16000000
namespace Go.Proofs.YtfifdilapbeiiaaGreat
open _root_.Go.Proofs.Tryz
variable {ops:Array Oper} {Q:Exit → Act → World → Prop} {news xs:List Value} {c i m n n2:Nat} {o:Oper} {A:Option Addr} {P:Program} {v:Value} {W w w' w8:World}
section
open Go.RowKit Go.Maps
theorem AddA.of {R:List (List UInt8×List Int)} {D:List TmC} (h:w8.ownsRow w.heap.size 148 2 (.slice A n c) n2 (tmcells D)) (hn:n=n2) (U:n=D.length) (H:tmR D=R) (b:Ext w w8) (J:∀x∈D,Buf w8 0 3 x.A x.pos.length x.c (x.pos.map IV)/\x.s.length<=9223372036854775807):AddA w R (.returned (.slice A n c)) w8:=by
 subst hn;have j:=BN h;exact⟨D,A,n,c,rfl,H,⟨U,Cells.of_own h,j.1,j.2,J,fun a Y=>by obtain⟨cs,O,_⟩:=Ae h (g:=a.block) (by rw[Y];rfl);exact⟨cs,O⟩⟩,b⟩
theorem PV (D:List TmC) (A:Option Addr) (n c:Nat) (s:List UInt8) (z:Int) (w:World) (h:TmsR w A n c D) (hs:s.length<=9223372036854775807) (n4:n<=1000000) (a3:∀x∈D,x.pos.length<=1000000) :
 Calls prog 124 #[.slice A n c,.string ⟨s.toArray⟩,.int .i64 z] w fun e w'=>AddA w (addG (s,z) (tmR D)) e w':=by
 have y3:=Aa (fun(a b:List UInt8) W (ha:a.length<=9223372036854775807) (hb:b.length<=9223372036854775807)=>NA a b W ha hb);have hlen:=h.len;have l3:=h.cap;obtain⟨Z,hZ⟩:=Ab (addG (s,z) (tmR D));rw[<-hZ];have m4:=Aa (show Z=(tmR D).take 0++addG (s,z) ((tmR D).drop 0)from hZ);have d3:(tmR D).length=n:=by unfold tmR;rw[List.length_map,hlen]
 have i2:=fun(k:Nat) (hk:k<=c)=>I1 underlying145 (fun W:World=>(by kernel_rfl:(sizeOf 148).run prog W = .ok 2 W)) (n:=n) (c:=c) (k:=k) (A:=A) hk h.spot (z:=(k:Int)) rfl;have k2:=fun(k:Nat) (hk:k<=n)=>I0 underlying145 (fun W:World=>(by kernel_rfl:(sizeOf 148).run prog W = .ok 2 W)) (n:=n) (c:=c) (k:=k) (A:=A) hk l3 h.spot (z:=(k:Int)) rfl;have q1:(tmcells D).length=n*2:=by rw[Cg,hlen]
 replace i2:=Aa i2;replace k2:=Aa k2;replace hlen:=Aa hlen;replace a3:=Aa a3;replace h:=Aa h;replace d3:=Aa d3;replace q1:=Aa q1;clear hZ
 go_in
 go_wp2_with fail
 go_loopw [7] (fun s7 wr=>∃k:Nat,s7 = .int .i64 (k:Int)/\k<=n/\Hid (Z=(tmR D).take k++addG (s,z) ((tmR D).drop k))/\Hid (Ext w wr)) (fun s7 _=>n - (intOf s7).toNat)
 case atStart=>exact⟨0,rfl,by omega,m4,Aa (Ext.refl _)⟩
 case round =>
  clear m4;obtain⟨k,rfl,hk,hz,hE⟩:=hrel;have o3:=Aa (h.out.cells.ext hE.out);by_cases a4:k<n
  ·obtain⟨x,hx⟩:∃x,D[k]? = some x:=⟨_,List.getElem?_eq_getElem (by rw[<-hlen.out];exact a4)⟩
   have q3:(tmR D)[k]? = some x.tm:=by unfold tmR;rw[List.getElem?_map,hx];rfl
   obtain⟨h3,g4⟩:=h.out.each x (List.mem_of_getElem? hx);have j4:=a3.out x (List.mem_of_getElem? hx);obtain⟨g,o,hA,r0⟩:=HK o3.out hx;have a2:=Aa (fun hl=>MJ (s,z) q3 hl);have f1:=Aa (fun hl he=>MH (s,z) q3 hl he);have o1:=Aa (fun hl he=>MI (s,z) q3 hl he);obtain⟨l0,l1⟩:=r0 wr (Ext.refl _);have a1:=y3.out x.s s wr g4 hs;obtain⟨xs,pos,xA,xc⟩:=x;unfold TmC.tm at a2 f1 o1;simp only at a2 f1 o1 l0 l1 a1 h3 g4 j4 r0;obtain⟨m,hm⟩:=Ab pos.length;rw[<-hm]at l1 r0 j4;replace a1:=Aa a1;replace r0:=Aa r0;replace h3:=Aa h3;replace hm:=Aa hm;replace hx:=Aa hx;clear q3;by_cases v0:xs<s
   ·have f4:=Aa (show Z=(tmR D).take (k+1)++addG (s,z) ((tmR D).drop (k+1))by rw[hz.out,a2.out v0]);have hd:decide (xs<s)=true:=decide_eq_true v0;rw[hd]at a1;subst hA;clear f1 o1 hd hz;go_wp2_with fail;refine a1.out.mono ?_;rintro e w3 ⟨rfl,i0⟩;go_wp2_with fail;go_roundw
    case rel=>exact⟨k+1,by go_num,by omega,f4,Aa (hE.out.trans i0)⟩
    case measure=>simp only[intOf];omega
   ·have hd:decide (xs<s)=false:=decide_eq_false v0;rw[hd]at a1;have e4:=i2.out k (by omega);by_cases d0:xs=s
    ·have f2:=Aa (show Z=(tmR D).take k++(xs,pos ++ [z])::(tmR D).drop (k+1)by rw[hz.out,f1.out v0 d0]);have hq:(xs==s)=true:=beq_iff_eq.2 d0;obtain⟨A8,i1,j0,_⟩:=k2.out (k+1) (by omega);rw[show (((k+1:Nat)):Int)=(k:Int)+1 by omega]at i1;have i4:wrap64 ((k:Int)+1)=(k:Int)+1:=by unfold wrap64;omega
     obtain⟨r,hr⟩:=Ab (n - (k+1));obtain⟨cr,g0⟩:=Ab (c - (k+1));rw[<-hr,<-g0]at i1;replace hr:=Aa hr;replace g0:=Aa g0;replace j0:=Aa j0;replace d0:=Aa d0;subst hA;clear a2 o1 f1 hd hz v0;go_wp2_with fail;refine a1.out.mono ?_;rintro e w3 ⟨rfl,i0⟩;have H:=Aa (hE.out.trans i0);have y0:Cells (w3.alloc (.cells #[] 148)) (some ⟨g,o,none⟩) (tmcells (D.take k)):=by
      rw[CZ];have h1:=(h.out.cells.ext H.out).ext ((Ext.refl w3).alloc (.cells #[] 148));exact CQ h1 _
     have G:(tmcells (D.take k)).length=k*2:=by rw[Cg,List.length_take,<-hlen.out];omega
     have h0:w3.heap.size<=(w3.alloc (.cells #[] 148)).heap.size:=((Ext.refl w3).alloc _).size;clear l0 l1;go_wp2_with (at_builtin;first
      | (refine AV (m:=k) Dk (CF w3 148) y0 (.tmp 24) (.tmp 27) rfl rfl rfl rfl rfl G (BI _) (by omega) h0 (fun A4 c4 w4 c0 x1 j2=>?_);rw[Nat.zero_add,List.nil_append]at c0;have Y:Ext w3 w4:=((Ext.refl w3).alloc _).grown x1 (fun k hk=>by cases hk;exact Nat.le_refl _);clear x1 j2 y0 G h0;obtain⟨l0,l1⟩:=r0.out w4 (i0.trans Y);have l1':=((Ext.refl w4).alloc (.cells #[] 3)).cell l1;have r3:Cells (w4.alloc (.cells #[] 3)) xA (pos.map IV):=((h3.out.ext (H.out.trans Y)).ext ((Ext.refl w4).alloc _)).cells;have k3:(pos.map IV).length=m*1:=(by rw[List.length_map,hm.out];omega);have j3:w4.heap.size<=(w4.alloc (.cells #[] 3)).heap.size:=((Ext.refl w4).alloc _).size;replace c0:=Aa c0;replace Y:=Aa Y)
      | (refine AV (m:=m) FY (IN w4 3) r3 (.tmp 44) (.tmp 49) rfl rfl rfl rfl rfl k3 (Rh _) (by omega) j3 (fun A5 c5 w5 z3 h4 b4=>?_);rw[Nat.zero_add,List.nil_append]at z3;have p3:Ext w4 w5:=((Ext.refl w4).alloc _).grown h4 (fun k hk=>by cases hk;exact Nat.le_refl _);have m3:=p3.size;clear h4 b4 r3 k3 j3 l0 l1 l1')
      | (refine AS (us:= [.int .i64 z]) (m:=1) FY z3 rfl (.tmp 50) (.tmp 52) rfl rfl rfl rfl rfl (Az rfl) (by omega) m3 (fun A6 c6 w6 o2 q4 d4=>?_);have o0:Ext w4 w6:=p3.grown q4 (fun k hk=>by obtain⟨_,_,hb⟩:=Ae z3 hk;exact hb);have J:=o0.owns c0.out;have q0:=(Y.out.trans o0).size;clear q4 d4 m3;replace o2:=Aa o2;replace o0:=Aa o0)
      | (refine AS (us:= [.string ⟨s.toArray⟩,.slice A6 (m+1) c6]) (m:=1) Dk J rfl (.tmp 42) (.tmp 55) rfl rfl rfl rfl rfl (Az rfl) (by omega) q0 (fun A7 c7 w7 x0 m0 m2=>?_);have j:Ext w3 w7:=(Y.out.trans o0.out).grown m0 (fun k hk=>by obtain⟨_,_,hb⟩:=Ae J hk;exact hb);have d1:=(Chg.of_grown (S:=fun k'=>(Value.slice A4 k c4).ownBlock=some k') m0 (fun k' _ x3=>x3)).owns o2.out (fun g hg hn=>by obtain⟨cs,hr,_⟩:=Ae o2.out hg;exact Am J hr (by decide) hn);have q2:=j0.out w7 _ q1.out (h.out.cells.ext (H.out.trans j));have k1:((tmcells D).drop ((k+1)*2)).length=r*2:=(by rw[List.length_drop,q1.out,hr.out];omega);have p0:=j.size;clear m0 m2 q0;replace d1:=Aa d1;replace j:=Aa j)
      | (refine AV (m:=r) Dk x0 q2 (.tmp 57) (.tmp 61) rfl rfl rfl rfl rfl k1 (by rw[<-Bt];exact BI _) (by have:=hr.out;omega) p0 (fun A9 c9 w9 y1 t0 x2=>?_);have n0:Ext w3 w9:=j.out.grown t0 (fun k hk=>by obtain⟨_,_,hb⟩:=Ae x0 hk;exact hb);have k4:=(Chg.of_grown (S:=fun k'=>(Value.slice A7 (k+1) c7).ownBlock=some k') t0 (fun k' _ x3=>x3)).owns d1.out (fun g hg hn=>by obtain⟨cs,hr,_⟩:=Ae d1.out hg;exact Am x0 hr (by decide) hn);clear t0 x2 p0))
     have hmid:=DY (D.take k) (D.drop (k+1)) ⟨s,pos ++ [z],A6,c6⟩;have d2:(⟨s,pos ++ [z],A6,c6⟩:TmC).cells = [.string ⟨s.toArray⟩,.slice A6 (m+1) c6]:=by unfold TmC.cells;simp only;rw[List.length_append,<-hm.out];rfl
     rw[d2,Bt]at hmid;rw[<-hmid]at y1;have y2:k+1+r=(D.take k++(⟨s,pos ++ [z],A6,c6⟩:TmC)::D.drop (k+1)).length:=by
      rw[List.length_append,List.length_cons,List.length_take,List.length_drop,<-hlen.out,hr.out];omega
     have T:=H.out.trans n0;have h2:tmR (D.take k++(⟨s,pos ++ [z],A6,c6⟩:TmC)::D.drop (k+1))=Z:=by rw[JG,f2.out,d0.out];rfl
     have j1:∀y∈D.take k++(⟨s,pos ++ [z],A6,c6⟩:TmC)::D.drop (k+1),Buf w9 0 3 y.A y.pos.length y.c (y.pos.map IV)/\y.s.length<=9223372036854775807:=fun y O=>by
      have I:=fun(O:y∈D)=>((h.out.ext T).each y O)
      rcases List.mem_append.1 O with O | O
      ·exact I (List.mem_of_mem_take O)
      ·rcases List.mem_cons.1 O with rfl | O
       ·refine⟨?_,hs⟩;have t4:=(Buf.of_own k4).lower (Nat.zero_le _);simp only[List.length_append,List.length_cons,List.length_nil,List.map_append];rw[<-hm.out];exact t4
       ·exact I (List.mem_of_mem_drop O)
     have m1:=Aa (AddA.of (w:=w) (R:=Z) (AD y1 H.out.size) rfl y2 h2 T j1);go_ret;exact m1.out
    ·have f2:=Aa (show Z=(tmR D).take k++(s,[z])::(tmR D).drop k by rw[hz.out,o1.out v0 d0]);have hq:(xs==s)=false:=beq_eq_false_iff_ne.2 d0;replace d0:=Aa d0;subst hA;clear a2 o1 f1 hd hz v0;obtain⟨A8,i1,j0,_⟩:=k2.out k hk;obtain⟨r,hr⟩:=Ab (n - k);obtain⟨cr,g0⟩:=Ab (c - k);rw[<-hr,<-g0]at i1;replace hr:=Aa hr;replace g0:=Aa g0;replace j0:=Aa j0;go_wp2_with fail;refine a1.out.mono ?_;rintro e w3 ⟨rfl,i0⟩;have H:=Aa (hE.out.trans i0);clear l0 l1;have y0:=CQ ((h.out.cells.ext H.out).ext ((Ext.refl w3).alloc (.cells #[] 148))) (k*2);rw[<-CZ]at y0;have G:(tmcells (D.take k)).length=k*2:=by rw[Cg,List.length_take,<-hlen.out];omega
     have h0:w3.heap.size<=(w3.alloc (.cells #[] 148)).heap.size:=((Ext.refl w3).alloc _).size;go_wp2_with (at_builtin;first
      | (refine AV (m:=k) Dk (CF w3 148) y0 (.tmp 24) (.tmp 27) rfl rfl rfl rfl rfl G (BI _) (by omega) h0 (fun A4 c4 w4 c0 x1 j2=>?_);rw[Nat.zero_add,List.nil_append]at c0;have Y:Ext w3 w4:=((Ext.refl w3).alloc _).grown x1 (fun k hk=>by cases hk;exact Nat.le_refl _);clear x1 j2 y0 G h0;(try obtain⟨l0,l1⟩:=r0.out w4 (i0.trans Y));have J:=((Ext.refl w4).alloc (.cells #[.int .i64 z] 3)).owns c0;have f0:=Row.new w4 3 #[.int .i64 z];have U:Ext w3 (w4.alloc (.cells #[.int .i64 z] 3)):=Y.alloc _;have q0:=U.size;replace f0:=Aa f0;replace U:=Aa U)
      | (refine AS (us:= [.string ⟨s.toArray⟩,.slice (some ⟨w4.heap.size,0,none⟩) 1 1]) (m:=1) Dk J (by simp) (.tmp 63) (.tmp 68) rfl rfl rfl rfl rfl (Az rfl) (by omega) q0 (fun A7 c7 w7 x0 m0 m2=>?_);have j:Ext w3 w7:=U.out.grown m0 (fun k hk=>by obtain⟨_,_,hb⟩:=Ae J hk;exact hb);have e0:=f0.out.grown m0 (fun e=>Am J f0.out (by decide) e.symm);have q2:=j0.out w7 _ q1.out (h.out.cells.ext (H.out.trans j));have k1:((tmcells D).drop (k*2)).length=r*2:=(by rw[List.length_drop,q1.out,hr.out];omega);have p0:=j.size;clear m0 m2 q0;replace e0:=Aa e0;replace j:=Aa j)
      | (refine AV (m:=r) Dk x0 q2 (.tmp 70) (.tmp 73) rfl rfl rfl rfl rfl k1 (by rw[<-Bt];exact BI _) (by have:=hr.out;omega) p0 (fun A9 c9 w9 y1 t0 x2=>?_);have n0:Ext w3 w9:=j.out.grown t0 (fun k hk=>by obtain⟨_,_,hb⟩:=Ae x0 hk;exact hb);have b3:=e0.out.grown t0 (fun e=>Am x0 e0.out (by decide) e.symm);clear t0 x2 p0))
     have hmid:=DY (D.take k) (D.drop k) ⟨s,[z],some ⟨w4.heap.size,0,none⟩,1⟩;have d2:(⟨s,[z],some ⟨w4.heap.size,0,none⟩,1⟩:TmC).cells = [.string ⟨s.toArray⟩,.slice (some ⟨w4.heap.size,0,none⟩) 1 1]:=rfl;rw[d2,Bt]at hmid;rw[<-hmid]at y1;have y2:k+1+r=(D.take k++(⟨s,[z],some ⟨w4.heap.size,0,none⟩,1⟩:TmC)::D.drop k).length:=by
      rw[List.length_append,List.length_cons,List.length_take,List.length_drop,<-hlen.out,hr.out];omega
     have T:=H.out.trans n0;have h2:tmR (D.take k++(⟨s,[z],some ⟨w4.heap.size,0,none⟩,1⟩:TmC)::D.drop k)=Z:=by rw[JG,f2.out];rfl
     have j1:∀y∈D.take k++(⟨s,[z],some ⟨w4.heap.size,0,none⟩,1⟩:TmC)::D.drop k,Buf w9 0 3 y.A y.pos.length y.c (y.pos.map IV)/\y.s.length<=9223372036854775807:=fun y O=>by
      have I:=fun(O:y∈D)=>((h.out.ext T).each y O)
      rcases List.mem_append.1 O with O | O
      ·exact I (List.mem_of_mem_take O)
      ·rcases List.mem_cons.1 O with rfl | O
       ·exact⟨⟨rfl,Nat.le_refl _,.inr ⟨w4.heap.size,_,rfl,Nat.zero_le _,b3,Nat.le_refl _,rfl⟩⟩,hs⟩
       ·exact I (List.mem_of_mem_drop O)
     have m1:=Aa (AddA.of (w:=w) (R:=Z) (AD y1 H.out.size) rfl y2 h2 T j1);go_ret;exact m1.out
  ·have f2:=Aa (show Z=(tmR D).take k++(s,[z])::(tmR D).drop k by
    rw[hz.out,List.drop_of_length_le (by rw[d3.out];omega)];rfl)
   have e4:=i2.out k (by omega);obtain⟨A8,i1,j0,_⟩:=k2.out k hk;obtain⟨r,hr⟩:=Ab (n - k);obtain⟨cr,g0⟩:=Ab (c - k);rw[<-hr,<-g0]at i1;replace hr:=Aa hr;replace g0:=Aa g0;replace j0:=Aa j0;clear hz;obtain⟨w3,rfl⟩:=Ab wr;have H:=hE;have y0:=CQ ((h.out.cells.ext H.out).ext ((Ext.refl w3).alloc (.cells #[] 148))) (k*2);rw[<-CZ]at y0;have G:(tmcells (D.take k)).length=k*2:=by rw[Cg,List.length_take,<-hlen.out];omega
   have h0:w3.heap.size<=(w3.alloc (.cells #[] 148)).heap.size:=((Ext.refl w3).alloc _).size;go_wp2_with (at_builtin;first
    | (refine AV (m:=k) Dk (CF w3 148) y0 (.tmp 24) (.tmp 27) rfl rfl rfl rfl rfl G (BI _) (by omega) h0 (fun A4 c4 w4 c0 x1 j2=>?_);rw[Nat.zero_add,List.nil_append]at c0;have Y:Ext w3 w4:=((Ext.refl w3).alloc _).grown x1 (fun k hk=>by cases hk;exact Nat.le_refl _);clear x1 j2 y0 G h0;(try obtain⟨l0,l1⟩:=r0.out w4 (i0.trans Y));have J:=((Ext.refl w4).alloc (.cells #[.int .i64 z] 3)).owns c0;have f0:=Row.new w4 3 #[.int .i64 z];have U:Ext w3 (w4.alloc (.cells #[.int .i64 z] 3)):=Y.alloc _;have q0:=U.size;replace f0:=Aa f0;replace U:=Aa U)
    | (refine AS (us:= [.string ⟨s.toArray⟩,.slice (some ⟨w4.heap.size,0,none⟩) 1 1]) (m:=1) Dk J (by simp) (.tmp 63) (.tmp 68) rfl rfl rfl rfl rfl (Az rfl) (by omega) q0 (fun A7 c7 w7 x0 m0 m2=>?_);have j:Ext w3 w7:=U.out.grown m0 (fun k hk=>by obtain⟨_,_,hb⟩:=Ae J hk;exact hb);have e0:=f0.out.grown m0 (fun e=>Am J f0.out (by decide) e.symm);have q2:=j0.out w7 _ q1.out (h.out.cells.ext (H.out.trans j));have k1:((tmcells D).drop (k*2)).length=r*2:=(by rw[List.length_drop,q1.out,hr.out];omega);have p0:=j.size;clear m0 m2 q0;replace e0:=Aa e0;replace j:=Aa j)
    | (refine AV (m:=r) Dk x0 q2 (.tmp 70) (.tmp 73) rfl rfl rfl rfl rfl k1 (by rw[<-Bt];exact BI _) (by have:=hr.out;omega) p0 (fun A9 c9 w9 y1 t0 x2=>?_);have n0:Ext w3 w9:=j.out.grown t0 (fun k hk=>by obtain⟨_,_,hb⟩:=Ae x0 hk;exact hb);have b3:=e0.out.grown t0 (fun e=>Am x0 e0.out (by decide) e.symm);clear t0 x2 p0))
   have hmid:=DY (D.take k) (D.drop k) ⟨s,[z],some ⟨w4.heap.size,0,none⟩,1⟩;have d2:(⟨s,[z],some ⟨w4.heap.size,0,none⟩,1⟩:TmC).cells = [.string ⟨s.toArray⟩,.slice (some ⟨w4.heap.size,0,none⟩) 1 1]:=rfl;rw[d2,Bt]at hmid;rw[<-hmid]at y1;have y2:k+1+r=(D.take k++(⟨s,[z],some ⟨w4.heap.size,0,none⟩,1⟩:TmC)::D.drop k).length:=by
    rw[List.length_append,List.length_cons,List.length_take,List.length_drop,<-hlen.out,hr.out];omega
   have T:=H.out.trans n0;have h2:tmR (D.take k++(⟨s,[z],some ⟨w4.heap.size,0,none⟩,1⟩:TmC)::D.drop k)=Z:=by rw[JG,f2.out];rfl
   have j1:∀y∈D.take k++(⟨s,[z],some ⟨w4.heap.size,0,none⟩,1⟩:TmC)::D.drop k,Buf w9 0 3 y.A y.pos.length y.c (y.pos.map IV)/\y.s.length<=9223372036854775807:=fun y O=>by
    have I:=fun(O:y∈D)=>((h.out.ext T).each y O)
    rcases List.mem_append.1 O with O | O
    ·exact I (List.mem_of_mem_take O)
    ·rcases List.mem_cons.1 O with rfl | O
     ·exact⟨⟨rfl,Nat.le_refl _,.inr ⟨w4.heap.size,_,rfl,Nat.zero_le _,b3,Nat.le_refl _,rfl⟩⟩,hs⟩
     ·exact I (List.mem_of_mem_drop O)
   have m1:=Aa (AddA.of (w:=w) (R:=Z) (AD y1 H.out.size) rfl y2 h2 T j1);go_ret;exact m1.out
end
section
open Go.RowKit
theorem Ot (L:List UInt8) (A:Option Addr) (c base r:Nat) (w:World) (hb:Buf w base 5 A L.length c (L.map B8)) (T:L.length<=4000000000) (O:base<=w.heap.size) (h:badR r=false) (h1:r<128) :
 Calls prog 220 #[.slice A L.length c,.int .i64 (r:Int)] w (PutB w base (L++encR r)):=by
 obtain⟨n,hn⟩:=Ab L.length;rw[<-hn]at hb T ⊢;have a:r<=1114111:=by
  unfold badR at h;simp only[Bool.or_eq_false_iff,decide_eq_false_iff_not]at h;omega
 have j:encR r = [u8 r]:=by unfold encR encO;rw[h,if_neg (by simp),if_pos h1]
 rw[j];obtain⟨z,Y⟩:=Ab ((r:Int):Int);rw[<-Y];have g0:0<=z:=by omega
 have gh:z<=1114111:=by omega
 have g1:z<128:=by omega
 obtain⟨l,H⟩:=Ab ([u8 r]);have b : [Value.int .u8 z]=l.map B8:=by
  rw[H,Y];simp only[List.map_cons,List.map_nil,Bi (show r<256 by omega)]
  try rfl
 rw[<-H];replace H:=Aa H;replace b:=Aa b;replace a:=Aa a;replace Y:=Aa Y;replace h1:=Aa h1;replace hn:=Aa hn;replace hb:=Aa hb;replace j:=Aa j;replace h:=Aa h
 go_in
 go_wp2_with (at_builtin;refine Au Aw hb.out (.tmp 25) (.tmp 28) rfl rfl rfl rfl (Az rfl) (by simp;omega) O (fun A3 c3 w4 U J=>?_));go_ret;exact BO hn.out b.out U J
theorem Ou (L:List UInt8) (A:Option Addr) (c base r:Nat) (w:World) (hb:Buf w base 5 A L.length c (L.map B8)) (T:L.length<=4000000000) (O:base<=w.heap.size) (h:badR r=false) (h1:¬ r<128) (h2:r<2048) :
 Calls prog 220 #[.slice A L.length c,.int .i64 (r:Int)] w (PutB w base (L++encR r)):=by
 obtain⟨n,hn⟩:=Ab L.length;rw[<-hn]at hb T ⊢;have a:r<=1114111:=by
  unfold badR at h;simp only[Bool.or_eq_false_iff,decide_eq_false_iff_not]at h;omega
 have j:encR r = [u8 (192+r / 64),u8 (128+r%64)]:=by unfold encR encO;rw[h,if_neg (by simp),if_neg h1,if_pos h2]
 rw[j];obtain⟨z,Y⟩:=Ab ((r:Int):Int);rw[<-Y];have g0:0<=z:=by omega
 have gh:z<=1114111:=by omega
 have g1:¬ z<128:=by omega
 have g2:z<2048:=by omega
 obtain⟨l,H⟩:=Ab ([u8 (192+r / 64),u8 (128+r%64)]);have b : [Value.int .u8 (192+z / 64),.int .u8 (128+z%64)]=l.map B8:=by
  rw[H,Y];simp only[List.map_cons,List.map_nil,Bi (show 192+r / 64<256 by omega),Bi (show 128+r%64<256 by omega)]
  try rfl
 rw[<-H];replace H:=Aa H;replace b:=Aa b;replace a:=Aa a;replace Y:=Aa Y;replace h1:=Aa h1;replace h2:=Aa h2;replace hn:=Aa hn;replace hb:=Aa hb;replace j:=Aa j;replace h:=Aa h
 go_in
 go_wp2_with (at_builtin;refine Au Aw hb.out (.tmp 33) (.tmp 42) rfl rfl rfl rfl (Az rfl) (by simp;omega) O (fun A3 c3 w4 U J=>?_));go_ret;exact BO hn.out b.out U J
theorem Ov (L:List UInt8) (A:Option Addr) (c base r:Nat) (w:World) (hb:Buf w base 5 A L.length c (L.map B8)) (Z:L.length<=4000000000) (O:base<=w.heap.size) (h:badR r=false) (h1:¬ r<128) (h2:¬ r<2048) (T:r<55296) :
 Calls prog 220 #[.slice A L.length c,.int .i64 (r:Int)] w (PutB w base (L++encR r)):=by
 obtain⟨n,hn⟩:=Ab L.length;rw[<-hn]at hb Z ⊢;have a:r<=1114111:=by
  unfold badR at h;simp only[Bool.or_eq_false_iff,decide_eq_false_iff_not]at h;omega
 have j:encR r = [u8 (224+r / 4096),u8 (128+r / 64%64),u8 (128+r%64)]:=by unfold encR encO;rw[h,if_neg (by simp),if_neg h1,if_neg h2,if_pos (show r<65536 by omega)]
 rw[j];obtain⟨z,Y⟩:=Ab ((r:Int):Int);rw[<-Y];have g0:0<=z:=by omega
 have gh:z<=1114111:=by omega
 have g1:¬ z<128:=by omega
 have g2:¬ z<2048:=by omega
 have g3:z<65536:=by omega
 have g4:z<55296:=by omega
 obtain⟨l,H⟩:=Ab ([u8 (224+r / 4096),u8 (128+r / 64%64),u8 (128+r%64)]);have b : [Value.int .u8 (224+z / 4096),.int .u8 (128+z / 64%64),.int .u8 (128+z%64)]=l.map B8:=by
  rw[H,Y];simp only[List.map_cons,List.map_nil,Bi (show 224+r / 4096<256 by omega),Bi (show 128+r / 64%64<256 by omega),Bi (show 128+r%64<256 by omega)]
  try rfl
 rw[<-H];replace H:=Aa H;replace b:=Aa b;replace a:=Aa a;replace Y:=Aa Y;replace h1:=Aa h1;replace h2:=Aa h2;replace T:=Aa T;replace hn:=Aa hn;replace hb:=Aa hb;replace j:=Aa j;replace h:=Aa h
 go_in
 go_wp2_with (at_builtin;refine Au Aw hb.out (.tmp 47) (.tmp 61) rfl rfl rfl rfl (Az rfl) (by simp;omega) O (fun A3 c3 w4 U J=>?_));go_ret;exact BO hn.out b.out U J
theorem IZ (L:List UInt8) (A:Option Addr) (c base r:Nat) (w:World) (hb:Buf w base 5 A L.length c (L.map B8)) (Z:L.length<=4000000000) (T:base<=w.heap.size) (h:badR r=false) (h1:¬ r<128) (h2:57343<r) (J:r<65536) :
 Calls prog 220 #[.slice A L.length c,.int .i64 (r:Int)] w (PutB w base (L++encR r)):=by
 obtain⟨n,hn⟩:=Ab L.length;rw[<-hn]at hb Z ⊢;have a:r<=1114111:=by
  unfold badR at h;simp only[Bool.or_eq_false_iff,decide_eq_false_iff_not]at h;omega
 have j:encR r = [u8 (224+r / 4096),u8 (128+r / 64%64),u8 (128+r%64)]:=by unfold encR encO;rw[h,if_neg (by simp),if_neg h1,if_neg (show ¬ r<2048 by omega),if_pos J]
 rw[j];obtain⟨z,Y⟩:=Ab ((r:Int):Int);rw[<-Y];have g0:0<=z:=by omega
 have gh:z<=1114111:=by omega
 have g1:¬ z<128:=by omega
 have g2:¬ z<2048:=by omega
 have g3:z<65536:=by omega
 have g4:¬ z<55296:=by omega
 have g5:57343<z:=by omega
 obtain⟨l,H⟩:=Ab ([u8 (224+r / 4096),u8 (128+r / 64%64),u8 (128+r%64)]);have b : [Value.int .u8 (224+z / 4096),.int .u8 (128+z / 64%64),.int .u8 (128+z%64)]=l.map B8:=by
  rw[H,Y];simp only[List.map_cons,List.map_nil,Bi (show 224+r / 4096<256 by omega),Bi (show 128+r / 64%64<256 by omega),Bi (show 128+r%64<256 by omega)]
  try rfl
 rw[<-H];replace H:=Aa H;replace b:=Aa b;replace a:=Aa a;replace Y:=Aa Y;replace h1:=Aa h1;replace h2:=Aa h2;replace J:=Aa J;replace hn:=Aa hn;replace hb:=Aa hb;replace j:=Aa j;replace h:=Aa h
 go_in
 go_wp2_with (at_builtin;refine Au Aw hb.out (.tmp 47) (.tmp 61) rfl rfl rfl rfl (Az rfl) (by simp;omega) T (fun A3 c3 w4 O U=>?_));go_ret;exact BO hn.out b.out O U
theorem Ow (L:List UInt8) (A:Option Addr) (c base r:Nat) (w:World) (hb:Buf w base 5 A L.length c (L.map B8)) (Z:L.length<=4000000000) (T:base<=w.heap.size) (h:badR r=false) (h1:¬ r<128) (h2:¬ r<2048) (J:¬ r<65536) :
 Calls prog 220 #[.slice A L.length c,.int .i64 (r:Int)] w (PutB w base (L++encR r)):=by
 obtain⟨n,hn⟩:=Ab L.length;rw[<-hn]at hb Z ⊢;have a:r<=1114111:=by
  unfold badR at h;simp only[Bool.or_eq_false_iff,decide_eq_false_iff_not]at h;omega
 have j:encR r = [u8 (240+r / 262144),u8 (128+r / 4096%64),u8 (128+r / 64%64),u8 (128+r%64)]:=by unfold encR encO;rw[h,if_neg (by simp),if_neg h1,if_neg h2,if_neg J]
 rw[j];obtain⟨z,Y⟩:=Ab ((r:Int):Int);rw[<-Y];have g0:0<=z:=by omega
 have gh:z<=1114111:=by omega
 have g1:¬ z<128:=by omega
 have g2:¬ z<2048:=by omega
 have g3:¬ z<65536:=by omega
 have g4:¬ z<55296:=by omega
 have g5:57343<z:=by omega
 obtain⟨l,H⟩:=Ab ([u8 (240+r / 262144),u8 (128+r / 4096%64),u8 (128+r / 64%64),u8 (128+r%64)]);have b : [Value.int .u8 (240+z / 262144),.int .u8 (128+z / 4096%64),.int .u8 (128+z / 64%64),.int .u8 (128+z%64)]=l.map B8:=by
  rw[H,Y];simp only[List.map_cons,List.map_nil,Bi (show 240+r / 262144<256 by omega),Bi (show 128+r / 4096%64<256 by omega),Bi (show 128+r / 64%64<256 by omega),Bi (show 128+r%64<256 by omega)]
  try rfl
 rw[<-H];replace H:=Aa H;replace b:=Aa b;replace a:=Aa a;replace Y:=Aa Y;replace h1:=Aa h1;replace h2:=Aa h2;replace J:=Aa J;replace hn:=Aa hn;replace hb:=Aa hb;replace j:=Aa j;replace h:=Aa h
 go_in
 go_wp2_with (at_builtin;refine Au Aw hb.out (.tmp 63) (.tmp 82) rfl rfl rfl rfl (Az rfl) (by simp;omega) T (fun A3 c3 w4 O U=>?_));go_ret;exact BO hn.out b.out O U
theorem Oo (L:List UInt8) (A:Option Addr) (c base r:Nat) (w:World) (hb:Buf w base 5 A L.length c (L.map B8)) (G:L.length<=4000000000) (T:base<=w.heap.size) (j:badR r=true) (O:r<=1200000) :
 Calls prog 220 #[.slice A L.length c,.int .i64 (r:Int)] w (PutB w base (L++encR r)):=by
 have h:=IZ L A c base 65533 w hb G T (by decide) (by omega) (by omega) (by omega);have b:encR r=encR 65533:=by
  have Z:badR 65533=false:=by decide
  unfold encR;rw[j,Z,if_pos rfl,if_neg (by simp)]
 rw[b];have J:1114111<r\/(55296<=r/\r<=57343):=by
  unfold badR at j;simpa using j
 simp only[show (((65533:Nat):Int))=65533 from rfl]at h;obtain⟨n,hn⟩:=Ab L.length;rw[<-hn]at h ⊢;obtain⟨LL,H⟩:=Ab (L++encR 65533);rw[<-H]at h ⊢;obtain⟨z,U⟩:=Ab ((r:Int):Int);rw[<-U];have g0:0<=z:=by omega
 replace h:=Aa h;replace H:=Aa H;replace hn:=Aa hn;replace hb:=Aa hb;replace b:=Aa b;replace j:=Aa j;rcases J with J | J
 ·have g1:1114111<z:=by omega
  replace J:=Aa J;replace U:=Aa U;replace O:=Aa O
  go_in
  go_wp2_with fail;refine h.out.mono ?_;rintro e w2 ⟨A2,c2,rfl,Y,a⟩;go_wp2_with fail;go_ret;exact⟨A2,c2,rfl,Y,a⟩
 ·have g1:z<=1114111:=by omega
  have g2:55296<=z:=by omega
  have g3:z<=57343:=by omega
  replace J:=Aa J;replace U:=Aa U;replace O:=Aa O
  go_in
  go_wp2_with fail;refine h.out.mono ?_;rintro e w2 ⟨A2,c2,rfl,Y,a⟩;go_wp2_with fail;go_ret;exact⟨A2,c2,rfl,Y,a⟩
theorem P1 (L:List UInt8) (A:Option Addr) (c base r:Nat) (w:World) (hb:Buf w base 5 A L.length c (L.map B8)) (b:L.length<=4000000000) (j:base<=w.heap.size) (Y:r<=1200000) :
 Calls prog 220 #[.slice A L.length c,.int .i64 (r:Int)] w (PutB w base (L++encR r)):=by
 cases h:badR r with
 | true=>exact Oo L A c base r w hb b j h Y
 | false =>
  by_cases h1:r<128
  ·exact Ot L A c base r w hb b j h h1
  ·by_cases h2:r<2048
   ·exact Ou L A c base r w hb b j h h1 h2
   ·by_cases a:r<65536
    ·by_cases H:r<55296
     ·exact Ov L A c base r w hb b j h h1 h2 H
     ·refine IZ L A c base r w hb b j h h1 ?_ a;unfold badR at h;simp only[Bool.or_eq_false_iff,Bool.and_eq_false_iff,decide_eq_false_iff_not]at h;omega
    ·exact Ow L A c base r w hb b j h h1 h2 a
theorem KB (rs:List Nat) (A:Option Addr) (n c:Nat) (w:World) (hn:n=rs.length) (hc:Cells w A (rs.map NV)) (I:∀r∈rs,r<=1200000) (t0:n<=500000000) :
 Calls prog 191 #[.slice A n c] w fun e w'=>e = .returned (.string ⟨(encL rs).toArray⟩)/\Ext w w':=by
 have G:=Aa (fun L A c base r W hb hL q0 I=>P1 L A c base r W hb hL q0 I);replace I:=Aa I;replace hc:=Aa hc;replace hn:=Aa hn
 go_in
 go_wp2_with fail
 go_loopw [3,4] (fun s3 s8 wr=>∃(i n1 c1:Nat) (A1:Option Addr),s3 = .slice A1 n1 c1/\s8 = .int .i64 (i:Int)/\i<=n/\Hid (n1=(encL (rs.take i)).length/\n1<=4*i)/\Hid (Buf wr w.heap.size 5 A1 n1 c1 ((encL (rs.take i)).map B8))/\Hid (Ext w wr)) (fun _ s8 _=>n - (intOf s8).toNat)
 case atStart=>exact⟨0,0,0,none,rfl,rfl,by omega,Aa ⟨rfl,by omega⟩,Aa (Buf.nil _ _ _),Aa (Ext.refl w)⟩
 case round =>
  obtain⟨i,n1,c1,A1,rfl,rfl,hi,j,hb,hE⟩:=hrel;by_cases h:i<n
  ·obtain⟨r,b⟩:∃r,rs[i]? = some r:=⟨_,List.getElem?_eq_getElem (by rw[<-hn.out];exact h)⟩
   obtain⟨g,o,hA,J⟩:=hc.out.at_ (by rw[List.length_map,<-hn.out];omega);subst hA;have k0:=hE.out.cell (J i (NV r) (by rw[List.getElem?_map,b];rfl));unfold NV at k0;have T:=I.out r (List.mem_of_getElem? b);have Z:=G.out (encL (rs.take i)) A1 c1 w.heap.size r wr (by rw[<-j.out.1];exact hb.out) (by have:=j.out;omega) hE.out.size T;rw[<-j.out.1]at Z;have a:rs.take (i+1)=rs.take i ++ [r]:=by rw[List.take_add_one,b];rfl
   rw[<-D8,<-a]at Z;have O:=(ES r).2;replace Z:=Aa Z;replace J:=Aa J;replace b:=Aa b;replace a:=Aa a;replace T:=Aa T;replace O:=Aa O;go_wp2_with fail;refine Z.out.mono ?_;rintro e w2 ⟨A2,c2,rfl,Y,H⟩;have U:(encL (rs.take (i+1))).length<=4*(i+1):=by
    rw[a.out,D8,List.length_append];have:=j.out;have:=O.out;omega
   replace Y:=Aa Y;replace H:=Aa (H w hE.out (Nat.le_refl _));replace U:=Aa U;go_wp2_with fail;exact⟨⟨i+1,_,c2,A2,rfl,rfl,by omega,Aa ⟨rfl,U.out⟩,Y,H⟩,by simp only[intOf];omega⟩
  ·obtain rfl:i=n:=by omega
   have hT:rs.take i=rs:=List.take_of_length_le (by rw[hn.out];exact Nat.le_refl _);rw[hT]at hb j;have v0:=CT (Buf.cells hb.out) n1 c1 j.out.1;replace j:=Aa j.out.1;go_wp2_with fail;go_ret;exact⟨rfl,hE.out⟩
theorem Mk (r:Nat) (w:World) (Y:r<=1114111):Calls prog 192 #[.int .i64 (r:Int)] w fun e w'=>e = .returned (.int .i64 (lowerR r:Int))/\Ext w w':=by
 obtain⟨z,b⟩:=Ab ((r:Int):Int);obtain⟨y,h⟩:=Ab ((lowerR r:Int):Int);have j:y=if (65<=z/\z<=90)\/(192<=z/\z<=222/\z≠215)\/(913<=z/\z<=939/\z≠930)\/(1040<=z/\z<=1071) then z+32 else if 1024<=z/\z<=1039 then z+80 else z:=by
  rw[h,b];unfold lowerR;by_cases h1:(65<=r/\r<=90)\/(192<=r/\r<=222/\r≠215)\/(913<=r/\r<=939/\r≠930)\/(1040<=r/\r<=1071)
  ·have a:(65<=(r:Int)/\(r:Int)<=90)\/(192<=(r:Int)/\(r:Int)<=222/\(r:Int)≠215)\/(913<=(r:Int)/\(r:Int)<=939/\(r:Int)≠930)\/(1040<=(r:Int)/\(r:Int)<=1071):=by clear b h;omega
   rw[if_pos h1,if_pos a];rfl
  ·have a:¬ ((65<=(r:Int)/\(r:Int)<=90)\/(192<=(r:Int)/\(r:Int)<=222/\(r:Int)≠215)\/(913<=(r:Int)/\(r:Int)<=939/\(r:Int)≠930)\/(1040<=(r:Int)/\(r:Int)<=1071)):=by clear b h;omega
   rw[if_neg h1,if_neg a];by_cases h2:1024<=r/\r<=1039
   ·have H:1024<=(r:Int)/\(r:Int)<=1039:=by clear b h;omega
    rw[if_pos h2,if_pos H];rfl
   ·have H:¬ (1024<=(r:Int)/\(r:Int)<=1039):=by clear b h;omega
    rw[if_neg h2,if_neg H]
 rw[<-b,<-h];have g0:0<=z:=by omega
 have g1:z<=1114111:=by omega
 replace b:=Aa b;replace h:=Aa h;replace Y:=Aa Y;replace j:=Aa j
 go_in
 go_wp2_with fail
 all_goals
  go_ret;refine⟨?_,Ext.refl w⟩;show Ending.returned (Value.int .i64 _)=_;refine congrArg (fun v=>Ending.returned (Value.int .i64 v)) ?_;rw[j.out];clear j h b Y
  try simp only[bne_iff_ne,bne_eq_false_iff_eq,Bool.not_eq_true]at *
  first
   | rw[if_pos (by omega)]
   | (rw[if_neg (by omega),if_pos (by omega)])
   | (rw[if_neg (by omega),if_neg (by omega)])
theorem KI (r:Nat) (w:World) (a:r<=1114191):Calls prog 166 #[.int .i64 (r:Int)] w fun e w'=>e = .returned (.bool (wordR r))/\Ext w w':=by
 obtain⟨z,b⟩:=Ab ((r:Int):Int);obtain⟨y,j⟩:=Ab (wordR r);have h:y=decide ((48<=z/\z<=57)\/(65<=z/\z<=90)\/(97<=z/\z<=122)\/(192<=z/\z<=255/\z≠215/\z≠247)\/(913<=z/\z<=974/\z≠930)\/(1024<=z/\z<=1119)):=by
  rw[j,b];unfold wordR;rw[decide_eq_decide];omega
 rw[<-b,<-j];have g0:0<=z:=by omega
 have g1:z<=1114191:=by omega
 replace b:=Aa b;replace j:=Aa j;replace a:=Aa a;replace h:=Aa h
 go_in
 go_wp2_with fail
 all_goals
  go_ret;refine⟨?_,Ext.refl w⟩;show Ending.returned (Value.bool _)=_;refine congrArg (fun v=>Ending.returned (Value.bool v)) ?_;rw[h.out,Bool.eq_iff_iff];clear h j b a
  try simp only[bne_iff_ne,bne_eq_false_iff_eq,Bool.not_eq_true]at *
  try simp only[Bool.or_eq_true,Bool.and_eq_true,decide_eq_true_eq,bne_iff_ne,Bool.true_eq,Bool.false_eq_true,true_iff,false_iff]
  first
   | omega
   | (simp;omega)
theorem PX (rs:List Nat) (A:Option Addr) (n c:Nat) (w:World) (hn:n=rs.length) (hc:Cells w A (rs.map NV)) (hr:∀r∈rs,r<=1114111) (a1:n<=1073741824) :
 Calls prog 167 #[.slice A n c] w fun e w'=>e = .returned (.string ⟨(cutW [] rs).toArray⟩)/\Ext w w':=by
 have v0:=Aa (fun r W h=>Mk r W h);have m0:=Aa (fun r A n c W h1 h2 h3 h4=>KB [r] A n c W h1 h2 h3 h4);obtain⟨Z,hZ⟩:=Ab (cutW [] rs);rw[<-hZ];replace hr:=Aa hr;replace hc:=Aa hc;replace hn:=Aa hn;replace hZ:=Aa hZ
 go_in
 go_wp2_with fail
 go_loopw [3,4] (fun s3 s4 wr=>∃(i:Nat) (s:List UInt8),s3 = .string ⟨s.toArray⟩/\s4 = .int .i64 (i:Int)/\i<=n/\Hid (Z=cutW s (rs.drop i))/\Hid (s.length<=32)/\Hid (Ext w wr)) (fun _ s4 _=>n - (intOf s4).toNat)
 case atStart=>exact⟨0,[],rfl,rfl,by omega,Aa (by rw[hZ.out];rfl),Aa (by simp),Aa (Ext.refl w)⟩
 case round =>
  obtain⟨i,s,rfl,rfl,hi,j0,T,hE⟩:=hrel;by_cases h:i<n
  ·obtain⟨r,a⟩:∃r,rs[i]? = some r:=⟨_,List.getElem?_eq_getElem (by rw[<-hn.out];exact h)⟩
   obtain⟨g,o,hA,G⟩:=hc.out.at_ (by rw[List.length_map,<-hn.out];omega);subst hA;have i0:=hE.out.cell (G i (NV r) (by rw[List.getElem?_map,a];rfl));unfold NV at i0;have U:=hr.out r (List.mem_of_getElem? a);have I:rs.drop i=r::rs.drop (i+1):=by
    rw[List.drop_eq_getElem_cons (List.getElem?_eq_some_iff.1 a).1];congr 1;exact(List.getElem?_eq_some_iff.1 a).2
   have x0:=Aa (fun W=>v0.out r W U);have q0:=IJ U;obtain⟨t,ht⟩:=Ab (encR (lowerR r));have o0:t.length<=4:=by rw[ht];exact(ES _).2
   have h0:=Aa (fun hh=>MP (s:=s) (r:=r) (rs:=rs.drop (i+1)) hh);have J:=Aa (fun hh=>JY (s:=s) (r:=r) (rs:=rs.drop (i+1)) hh);rw[<-ht,<-I,<-j0.out]at h0 J;obtain⟨y,hy⟩:=Ab (lowerR r);rw[<-hy]at ht x0 q0;have g0:=Aa (fun A W hh=>m0.out y A 1 1 W rfl hh (by simp;omega) (by omega));rw[J5,<-ht]at g0;obtain⟨tn,Y⟩:=Ab t.length;have j1:(⟨t.toArray⟩:ByteArray).size=tn:=by rw[Y];exact ByteArray.size_mk_toArray t
   obtain⟨sn,H⟩:=Ab s.length;rw[<-H,<-Y]at h0 J;rw[<-Y]at o0;rw[<-H]at T;have n0:=T.out;have k1:(⟨s.toArray⟩:ByteArray).size=sn:=by rw[H];exact ByteArray.size_mk_toArray s
   have q1:((⟨s.toArray⟩:ByteArray)++⟨t.toArray⟩)=⟨(s++t).toArray⟩:=by
    apply ByteArray.ext;rw[ByteArray.data_append];simp
   replace G:=Aa G;replace a:=Aa a;replace U:=Aa U;replace I:=Aa I;replace hy:=Aa hy;replace ht:=Aa ht;replace Y:=Aa Y;replace H:=Aa H;replace q0:=Aa q0;go_wp2_with fail;refine(x0.out _).mono ?_;rintro e w2 ⟨rfl,d0⟩;go_wp2_with fail;refine(g0.out _ _ (.inr ⟨w2.heap.size,0,rfl,fun j u hu=>?_⟩)).mono ?_
   ·rw[Nat.zero_add,cell_of_row _ _ _ _ _ _ (heap_alloc_new w2 _)];simpa [NV]using hu
   rintro e w3 ⟨rfl,e0⟩;have O:=Aa ((d0.alloc (.cells #[Value.int .i64 (y:Int)] 3)).trans e0);by_cases p0:32<sn+tn
   ·have b:=Aa (J.out p0);have k0:(32:Int)<(sn:Int)+(tn:Int):=by omega
    go_wp2_with fail;go_ret;exact⟨by rw[b.out];rfl,hE.out.trans O.out⟩
   ·have b:=Aa (h0.out p0);have k0:¬ (32:Int)<(sn:Int)+(tn:Int):=by omega
    go_wp2_with fail;exact⟨⟨i+1,s++t,rfl,rfl,by omega,b,Aa (by rw[List.length_append,<-H.out,<-Y.out];omega),Aa (hE.out.trans O.out)⟩,by simp only[intOf];omega⟩
  ·obtain rfl:i=n:=by omega
   have b:Z=s:=by rw[j0.out,List.drop_eq_nil_of_le (by rw[<-hn.out];exact Nat.le_refl _),cutW]
   replace b:=Aa b;go_wp2_with fail;go_ret;exact⟨by rw[b.out];rfl,hE.out⟩
theorem Ol (l:List UInt8) (at_ r:Nat) (w:World) (G:l.length<=1073741824) (I:r<=16777216) (Z:at_<=1073741840):Calls prog 232 #[.string ⟨l.toArray⟩,.int .i64 (at_:Int),.int .i64 (r:Int)] w fun e w'=>(match l[at_]? with
 | some b=>if contB b=true then e = .returned (.tuple #[.int .i64 ((r*64+b.toNat%64:Nat):Int),.bool true]) else e = .returned (.tuple #[.int .i64 0,.bool false])
 | none=>e = .returned (.tuple #[.int .i64 0,.bool false]))/\Ext w w':=by
 cases hb:l[at_]? with
 | none =>
  have O:=List.getElem?_eq_none_iff.1 hb;have J:(l.length:Int)<=(at_:Int):=by omega
  replace hb:=Aa hb
  go_in
  go_wp2_with fail;go_ret2;exact⟨rfl,Ext.refl w⟩
 | some b =>
  have U:=fun W=>AB hb (z:=(at_:Int)) rfl W;have T:=(List.getElem?_eq_some_iff.1 hb).1;have J:¬ (l.length:Int)<=(at_:Int):=by omega
  have j:contB b=true↔b.toNat / 64=2:=by unfold contB;exact beq_iff_eq
  have Y:=b.toNat_lt;obtain⟨x,a⟩:=Ab b.toNat;rw[<-a]at U j Y;simp only;rw[<-a];replace hb:=Aa hb;replace a:=Aa a;by_cases h2:x / 64=2
  ·simp only[if_pos (j.2 h2)];have H:(x:Int) / 64=2:=by omega
   replace j:=Aa j;replace h2:=Aa h2
   go_in
   go_wp2_with fail;go_ret2;refine⟨?_,Ext.refl w⟩;simp
  ·simp only[if_neg (fun h=>h2 (j.1 h))];have H:¬ (x:Int) / 64=2:=by omega
   replace j:=Aa j;replace h2:=Aa h2
   go_in
   go_wp2_with fail;go_ret2;exact⟨rfl,Ext.refl w⟩
def rowOk (t:List UInt8) (kk:Nat):Bool:=decide (kk<=t.length)&&(t.take kk).all contB
theorem Hk (l:List UInt8) (at_ n0 kk:Nat) (w:World) (hl:l.length<=1073741824) (t0:n0<32) (l0:kk<=3) (ha:at_<l.length) :
 Calls prog 219 #[.string ⟨l.toArray⟩,.int .i64 (at_:Int),.int .i64 (n0:Int),.int .i64 ((kk:Int)+1)] w fun e w'=>e = .returned (.tuple #[.int .i64 ((if rowOk (l.drop (at_+1)) kk=true then foldR n0 ((l.drop (at_+1)).take kk) else 0:Nat):Int),.bool (rowOk (l.drop (at_+1)) kk)])/\Ext w w':=by
 have d0:=Aa (fun a r W ha hr=>Ol l a r W hl hr ha);obtain⟨t,ht⟩:=Ab (l.drop (at_+1));rw[<-ht];have j0:∀j,l[at_+(j+1)]? = t[j]? :=fun j=>by rw[ht,List.getElem?_drop];congr 1;omega
 obtain⟨Z,hZ⟩:=Ab ((if rowOk t kk=true then foldR n0 (t.take kk) else 0:Nat));obtain⟨B,hB⟩:=Ab (rowOk t kk);rw[<-hZ,<-hB];replace j0:=Aa j0;replace hZ:=Aa hZ;replace hB:=Aa hB;replace ht:=Aa ht
 go_in
 go_wp2_with fail
 go_loopw [2,10] (fun s2 s10 wr=>∃j X:Nat,s2 = .int .i64 (X:Int)/\s10 = .int .i64 ((j:Int)+1)/\j<=kk/\Hid (X=foldR n0 (t.take j))/\Hid (rowOk t j=true)/\Hid (Ext w wr)) (fun _ s10 _=>10 - (intOf s10).toNat)
 case atStart=>exact⟨0,n0,rfl,rfl,by omega,Aa rfl,Aa (by simp[rowOk]),Aa (Ext.refl w)⟩
 case round =>
  obtain⟨j,X,rfl,rfl,hj,hX,g0,hE⟩:=hrel;by_cases h:j<kk
  ·have H:=g0.out;unfold rowOk at H;simp only[Bool.and_eq_true,decide_eq_true_eq]at H;have f0:X<8388608:=by rw[hX.out];exact Cd t0 (by rw[List.length_take];omega)
   have Y:=fun W=>d0.out (at_+(j+1)) X W (by omega) (by omega);rw[j0.out j]at Y;have k0:((at_+(j+1):Nat):Int)=(at_:Int)+((j:Int)+1):=by omega
   rw[k0]at Y;replace k0:=Aa k0;cases hb:t[j]? with
   | none =>
    rw[hb]at Y;have i0:=List.getElem?_eq_none_iff.1 hb;have O:B=false:=by
     rw[hB.out];unfold rowOk;rw[decide_eq_false (by omega),Bool.false_and]
    have p0:Z=0:=by rw[hZ.out,<-hB.out,O,if_neg (by simp)]
    subst O;subst p0;simp only at Y;replace Y:=Aa Y;replace H:=Aa H;replace hb:=Aa hb;go_wp2_with fail;refine(Y.out _).mono ?_;rintro e w2 ⟨rfl,T⟩;go_wp2_with fail;go_ret2;exact⟨rfl,hE.out.trans T⟩
   | some b =>
    rw[hb]at Y;have r0:=(List.getElem?_eq_some_iff.1 hb).1;have U:t.take (j+1)=t.take j ++ [b]:=by rw[List.take_add_one,hb];rfl
    cases J:contB b with
    | true =>
     simp only[J,if_true]at Y;have I:rowOk t (j+1)=true:=by
      unfold rowOk;rw[U,List.all_append,H.2];simp[J];omega
     have h0:X*64+b.toNat%64=foldR n0 (t.take (j+1)):=by rw[U,GN,<-hX.out]
     obtain⟨X2,G⟩:=Ab (X*64+b.toNat%64);rw[<-G]at Y h0;replace G:=Aa G;replace Y:=Aa Y;replace H:=Aa H;replace hb:=Aa hb;replace U:=Aa U;replace h0:=Aa h0;replace I:=Aa I;replace J:=Aa J;go_wp2_with fail;refine(Y.out _).mono ?_;rintro e w2 ⟨rfl,T⟩;go_wp2_with fail;exact⟨⟨j+1,X2,rfl,by go_num,by omega,h0,I,Aa (hE.out.trans T)⟩,by simp only[intOf];omega⟩
    | false =>
     have O:B=false:=by
      rw[hB.out];unfold rowOk;have:(t.take kk).all contB=false:=by
       rw[List.all_eq_false];exact⟨b,List.mem_of_getElem? (i:=j) (by rw[List.getElem?_take,if_pos h];exact hb),by simp[J]⟩
      rw[this,Bool.and_false]
     have p0:Z=0:=by rw[hZ.out,<-hB.out,O,if_neg (by simp)]
     subst O;subst p0;simp only[J,Bool.false_eq_true,if_false]at Y;replace Y:=Aa Y;replace H:=Aa H;replace hb:=Aa hb;replace U:=Aa U;replace J:=Aa J;go_wp2_with fail;refine(Y.out _).mono ?_;rintro e w2 ⟨rfl,T⟩;go_wp2_with fail;go_ret2;exact⟨rfl,hE.out.trans T⟩
  ·obtain rfl:j=kk:=by omega
   have x0:B=true:=by rw[hB.out];exact g0.out
   have c0:Z=X:=by rw[hZ.out,g0.out,if_pos rfl];exact hX.out.symm
   subst x0;subst c0;go_wp2_with fail;go_ret2;exact⟨rfl,hE.out⟩
theorem Jo (lo hi n k:Nat) (t:List UInt8):okR lo hi n k t=(rowOk t k&&decide (lo<=foldR n (t.take k))&&decide (foldR n (t.take k)<=hi) && !(decide (55296<=foldR n (t.take k))&&decide (foldR n (t.take k)<=57343))):=rfl
theorem Sm {b:UInt8} {t:List UInt8} (h:b.toNat / 32=6):decR (b::t)=if rowOk t 1=true/\128<=foldR (b.toNat%32) (t.take 1) then (foldR (b.toNat%32) (t.take 1),2) else (65533,1):=by
 have H:=GM (b.toNat%32) (t.take 1);have J:64^(t.take 1).length<=64^1:=Nat.pow_le_pow_right (by omega) (by rw[List.length_take];omega);have Y:foldR (b.toNat%32) (t.take 1)<32*64^1:=Nat.lt_of_lt_of_le H (Nat.mul_le_mul (by omega) J);have h2:(b.toNat / 16==14)=false:=by rw[beq_eq_false_iff_ne];omega
 have a:(b.toNat / 8==30)=false:=by rw[beq_eq_false_iff_ne];omega
 have h1:(b.toNat / 32==6)=true:=beq_iff_eq.2 h;rw[decR,if_neg (by omega),h1,h2,a,Jo];simp only[Bool.true_and,Bool.false_and,Bool.false_eq_true,if_false];congr 1;simp only[Bool.and_eq_true,Bool.not_eq_true',Bool.and_eq_false_iff,decide_eq_true_eq,decide_eq_false_iff_not,eq_iff_iff];constructor
 ·rintro⟨⟨⟨h,j⟩,U⟩,O⟩;exact⟨h,j⟩
 ·rintro⟨h,j⟩;exact⟨⟨⟨h,j⟩,by omega⟩,by omega⟩
theorem Sn {b:UInt8} {t:List UInt8} (h:b.toNat / 16=14):decR (b::t)=if rowOk t 2=true/\2048<=foldR (b.toNat%16) (t.take 2)/\(foldR (b.toNat%16) (t.take 2)<55296\/57343<foldR (b.toNat%16) (t.take 2)) then (foldR (b.toNat%16) (t.take 2),3) else (65533,1):=by
 have Y:=GM (b.toNat%16) (t.take 2);have U:64^(t.take 2).length<=64^2:=Nat.pow_le_pow_right (by omega) (by rw[List.length_take];omega);have J:foldR (b.toNat%16) (t.take 2)<16*64^2:=Nat.lt_of_lt_of_le Y (Nat.mul_le_mul (by omega) U);have h2:(b.toNat / 32==6)=false:=by rw[beq_eq_false_iff_ne];omega
 have a:(b.toNat / 8==30)=false:=by rw[beq_eq_false_iff_ne];omega
 have h1:(b.toNat / 16==14)=true:=beq_iff_eq.2 h;rw[decR,if_neg (by omega),h1,h2,a,Jo 2048];simp only[Bool.true_and,Bool.false_and,Bool.false_eq_true,if_false];congr 1;simp only[Bool.and_eq_true,Bool.not_eq_true',Bool.and_eq_false_iff,decide_eq_true_eq,decide_eq_false_iff_not,eq_iff_iff];constructor
 ·rintro⟨⟨⟨h,j⟩,H⟩,O⟩;exact⟨h,j,by omega⟩
 ·rintro⟨h,j,H⟩;exact⟨⟨⟨h,j⟩,by omega⟩,by omega⟩
theorem So {b:UInt8} {t:List UInt8} (h:b.toNat / 8=30):decR (b::t)=if rowOk t 3=true/\65536<=foldR (b.toNat%8) (t.take 3)/\foldR (b.toNat%8) (t.take 3)<=1114111 then (foldR (b.toNat%8) (t.take 3),4) else (65533,1):=by
 have h2:(b.toNat / 32==6)=false:=by rw[beq_eq_false_iff_ne];omega
 have H:(b.toNat / 16==14)=false:=by rw[beq_eq_false_iff_ne];omega
 have h1:(b.toNat / 8==30)=true:=beq_iff_eq.2 h;rw[decR,if_neg (by omega),h1,h2,H,Jo 65536];simp only[Bool.true_and,Bool.false_and,Bool.false_eq_true,if_false];congr 1;simp only[Bool.and_eq_true,Bool.not_eq_true',Bool.and_eq_false_iff,decide_eq_true_eq,decide_eq_false_iff_not,eq_iff_iff];constructor
 ·rintro⟨⟨⟨h,j⟩,a⟩,Y⟩;exact⟨h,j,a⟩
 ·rintro⟨h,j,a⟩;exact⟨⟨⟨h,j⟩,a⟩,by omega⟩
theorem Sl {b:UInt8} {t:List UInt8} (h:¬ b.toNat<128) (h1:¬ b.toNat / 32=6) (h2:¬ b.toNat / 16=14) (j:¬ b.toNat / 8=30):decR (b::t)=(65533,1):=by
 rw[decR,if_neg h,beq_eq_false_iff_ne.2 h1,beq_eq_false_iff_ne.2 h2,beq_eq_false_iff_ne.2 j];simp
theorem N9 (l:List UInt8) (at_:Nat) (b:UInt8) (w:World) (hb:l[at_]? = some b) (hl:l.length<=1073741824) (Z:b.toNat / 32=6) :
 Calls prog 190 #[.string ⟨l.toArray⟩,.int .i64 (at_:Int)] w fun e w'=>e = .returned (.tuple #[.int .i64 (decR (l.drop at_)).1,.int .i64 (decR (l.drop at_)).2])/\Ext w w':=by
 have O:=(List.getElem?_eq_some_iff.1 hb).1;have q0:=fun W=>AB hb (z:=(at_:Int)) rfl W;have h:=fun W=>Hk l at_ (b.toNat%32) 1 W hl (by omega) (by omega) O;simp only[show (((1:Nat):Int)+1)=2 from rfl]at h;have J:l.drop at_=b::l.drop (at_+1):=by
  rw[List.drop_eq_getElem_cons O];congr 1;exact(List.getElem?_eq_some_iff.1 hb).2
 rw[J];obtain⟨t,ht⟩:=Ab (l.drop (at_+1));rw[<-ht]at h ⊢;have j:=Sm (t:=t) Z;obtain⟨n0,Y⟩:=Ab (b.toNat%32);obtain⟨F,T⟩:=Ab (foldR (b.toNat%32) (t.take 1));rw[<-T]at j h;rw[<-Y]at h;obtain⟨x,hx⟩:=Ab b.toNat;have h0:=b.toNat_lt;rw[<-hx]at q0 Y Z h0;obtain⟨B,G⟩:=Ab (rowOk t 1);rw[<-G]at h j;have H:F<8388608:=by rw[T];exact Cd (by omega) (by rw[List.length_take];omega)
 obtain⟨R,I⟩:=Ab (decR (b::t));rw[<-I]at j ⊢;have g1:¬ (x:Int)<128:=by omega
 have g2:(x:Int) / 32=6:=by omega
 have g3:¬ (x:Int) / 16=14:=by omega
 have g4:¬ (x:Int) / 8=30:=by omega
 have g5:(x:Int)%32=(n0:Int):=by omega
 replace Y:=Aa Y;replace T:=Aa T;replace hx:=Aa hx;replace hb:=Aa hb;replace G:=Aa G;replace I:=Aa I;replace ht:=Aa ht;replace J:=Aa J;replace Z:=Aa Z;cases B with
 | false =>
  rw[if_neg (by simp)]at j;simp only[Bool.false_eq_true,if_false]at h;replace h:=Aa h;subst j
  go_in
  go_wp2_with fail;refine(h.out _).mono ?_;rintro e w2 ⟨rfl,a⟩;go_wp2_with fail;go_ret2;exact⟨rfl,a⟩
 | true =>
  simp only[if_true]at h;obtain⟨z,U⟩:=Ab ((F:Int):Int);rw[<-U]at h;have gz:0<=z:=by omega
  have gz8:z<8388608:=by omega
  replace h:=Aa h;simp only[true_and]at j;by_cases hc:128<=F
  ·have k0:128<=z:=by omega
   rw[if_pos (by omega)]at j;subst j;replace H:=Aa H;simp only;rw[<-U];replace U:=Aa U
   go_in
   go_wp2_with fail;refine(h.out _).mono ?_;rintro e w2 ⟨rfl,a⟩;go_wp2_with fail;go_ret2;exact⟨rfl,a⟩
  ·have k0:¬ 128<=z:=by omega
   rw[if_neg (by omega)]at j;subst j;replace H:=Aa H;replace U:=Aa U
   go_in
   go_wp2_with fail;refine(h.out _).mono ?_;rintro e w2 ⟨rfl,a⟩;go_wp2_with fail;go_ret2;exact⟨rfl,a⟩
theorem Oa (l:List UInt8) (at_:Nat) (b:UInt8) (w:World) (hb:l[at_]? = some b) (hl:l.length<=1073741824) (Z:b.toNat / 16=14) :
 Calls prog 190 #[.string ⟨l.toArray⟩,.int .i64 (at_:Int)] w fun e w'=>e = .returned (.tuple #[.int .i64 (decR (l.drop at_)).1,.int .i64 (decR (l.drop at_)).2])/\Ext w w':=by
 have O:=(List.getElem?_eq_some_iff.1 hb).1;have q0:=fun W=>AB hb (z:=(at_:Int)) rfl W;have h:=fun W=>Hk l at_ (b.toNat%16) 2 W hl (by omega) (by omega) O;simp only[show (((2:Nat):Int)+1)=3 from rfl]at h;have U:l.drop at_=b::l.drop (at_+1):=by
  rw[List.drop_eq_getElem_cons O];congr 1;exact(List.getElem?_eq_some_iff.1 hb).2
 rw[U];obtain⟨t,ht⟩:=Ab (l.drop (at_+1));rw[<-ht]at h ⊢;have j:=Sn (t:=t) Z;obtain⟨n0,J⟩:=Ab (b.toNat%16);obtain⟨F,T⟩:=Ab (foldR (b.toNat%16) (t.take 2));rw[<-T]at j h;rw[<-J]at h;obtain⟨x,hx⟩:=Ab b.toNat;have h0:=b.toNat_lt;rw[<-hx]at q0 J Z h0;obtain⟨B,G⟩:=Ab (rowOk t 2);rw[<-G]at h j;have H:F<8388608:=by rw[T];exact Cd (by omega) (by rw[List.length_take];omega)
 obtain⟨R,I⟩:=Ab (decR (b::t));rw[<-I]at j ⊢;have g1:¬ (x:Int)<128:=by omega
 have g2:(x:Int) / 16=14:=by omega
 have g3:¬ (x:Int) / 32=6:=by omega
 have g4:¬ (x:Int) / 8=30:=by omega
 have g5:(x:Int)%16=(n0:Int):=by omega
 replace J:=Aa J;replace T:=Aa T;replace hx:=Aa hx;replace hb:=Aa hb;replace G:=Aa G;replace I:=Aa I;replace ht:=Aa ht;replace U:=Aa U;replace Z:=Aa Z;cases B with
 | false =>
  rw[if_neg (by simp)]at j;simp only[Bool.false_eq_true,if_false]at h;replace h:=Aa h;subst j
  go_in
  go_wp2_with fail;refine(h.out _).mono ?_;rintro e w2 ⟨rfl,a⟩;go_wp2_with fail;go_ret2;exact⟨rfl,a⟩
 | true =>
  simp only[if_true]at h;obtain⟨z,Y⟩:=Ab ((F:Int):Int);rw[<-Y]at h;have gz:0<=z:=by omega
  have gz8:z<8388608:=by omega
  replace h:=Aa h;simp only[true_and]at j;by_cases hc:2048<=F
  ·by_cases hs:F<55296
   ·have k0:2048<=z:=by omega
    have k1:z<55296:=by omega
    rw[if_pos (by omega)]at j;subst j;replace H:=Aa H;simp only;rw[<-Y];replace Y:=Aa Y
    go_in
    go_wp2_with fail;refine(h.out _).mono ?_;rintro e w2 ⟨rfl,a⟩;go_wp2_with fail;go_ret2;exact⟨rfl,a⟩
   ·by_cases g0:57343<F
    ·have k0:2048<=z:=by omega
     have k1:¬ z<55296:=by omega
     have k2:57343<z:=by omega
     rw[if_pos (by omega)]at j;subst j;replace H:=Aa H;simp only;rw[<-Y];replace Y:=Aa Y
     go_in
     go_wp2_with fail;refine(h.out _).mono ?_;rintro e w2 ⟨rfl,a⟩;go_wp2_with fail;go_ret2;exact⟨rfl,a⟩
    ·have k0:2048<=z:=by omega
     have k1:¬ z<55296:=by omega
     have k2:¬ 57343<z:=by omega
     rw[if_neg (by omega)]at j;subst j;replace H:=Aa H;replace Y:=Aa Y
     go_in
     go_wp2_with fail;refine(h.out _).mono ?_;rintro e w2 ⟨rfl,a⟩;go_wp2_with fail;go_ret2;exact⟨rfl,a⟩
  ·have k0:¬ 2048<=z:=by omega
   rw[if_neg (by omega)]at j;subst j;replace H:=Aa H;replace Y:=Aa Y
   go_in
   go_wp2_with fail;refine(h.out _).mono ?_;rintro e w2 ⟨rfl,a⟩;go_wp2_with fail;go_ret2;exact⟨rfl,a⟩
theorem Ob (l:List UInt8) (at_:Nat) (b:UInt8) (w:World) (hb:l[at_]? = some b) (hl:l.length<=1073741824) (Z:b.toNat / 8=30) :
 Calls prog 190 #[.string ⟨l.toArray⟩,.int .i64 (at_:Int)] w fun e w'=>e = .returned (.tuple #[.int .i64 (decR (l.drop at_)).1,.int .i64 (decR (l.drop at_)).2])/\Ext w w':=by
 have O:=(List.getElem?_eq_some_iff.1 hb).1;have q0:=fun W=>AB hb (z:=(at_:Int)) rfl W;have h:=fun W=>Hk l at_ (b.toNat%8) 3 W hl (by omega) (by omega) O;simp only[show (((3:Nat):Int)+1)=4 from rfl]at h;have U:l.drop at_=b::l.drop (at_+1):=by
  rw[List.drop_eq_getElem_cons O];congr 1;exact(List.getElem?_eq_some_iff.1 hb).2
 rw[U];obtain⟨t,ht⟩:=Ab (l.drop (at_+1));rw[<-ht]at h ⊢;have j:=So (t:=t) Z;obtain⟨n0,Y⟩:=Ab (b.toNat%8);obtain⟨F,T⟩:=Ab (foldR (b.toNat%8) (t.take 3));rw[<-T]at j h;rw[<-Y]at h;obtain⟨x,hx⟩:=Ab b.toNat;have h0:=b.toNat_lt;rw[<-hx]at q0 Y Z h0;obtain⟨B,G⟩:=Ab (rowOk t 3);rw[<-G]at h j;have H:F<8388608:=by rw[T];exact Cd (by omega) (by rw[List.length_take];omega)
 obtain⟨R,I⟩:=Ab (decR (b::t));rw[<-I]at j ⊢;have g1:¬ (x:Int)<128:=by omega
 have g2:(x:Int) / 8=30:=by omega
 have g3:¬ (x:Int) / 32=6:=by omega
 have g4:¬ (x:Int) / 16=14:=by omega
 have g5:(x:Int)%8=(n0:Int):=by omega
 replace Y:=Aa Y;replace T:=Aa T;replace hx:=Aa hx;replace hb:=Aa hb;replace G:=Aa G;replace I:=Aa I;replace ht:=Aa ht;replace U:=Aa U;replace Z:=Aa Z;cases B with
 | false =>
  rw[if_neg (by simp)]at j;simp only[Bool.false_eq_true,if_false]at h;replace h:=Aa h;subst j
  go_in
  go_wp2_with fail;refine(h.out _).mono ?_;rintro e w2 ⟨rfl,a⟩;go_wp2_with fail;go_ret2;exact⟨rfl,a⟩
 | true =>
  simp only[if_true]at h;obtain⟨z,J⟩:=Ab ((F:Int):Int);rw[<-J]at h;have gz:0<=z:=by omega
  have gz8:z<8388608:=by omega
  replace h:=Aa h;simp only[true_and]at j;by_cases hc:65536<=F
  ·by_cases hs:F<=1114111
   ·have k0:65536<=z:=by omega
    have k1:z<=1114111:=by omega
    rw[if_pos (by omega)]at j;subst j;replace H:=Aa H;simp only;rw[<-J];replace J:=Aa J
    go_in
    go_wp2_with fail;refine(h.out _).mono ?_;rintro e w2 ⟨rfl,a⟩;go_wp2_with fail;go_ret2;exact⟨rfl,a⟩
   ·have k0:65536<=z:=by omega
    have k1:¬ z<=1114111:=by omega
    rw[if_neg (by omega)]at j;subst j;replace H:=Aa H;replace J:=Aa J
    go_in
    go_wp2_with fail;refine(h.out _).mono ?_;rintro e w2 ⟨rfl,a⟩;go_wp2_with fail;go_ret2;exact⟨rfl,a⟩
  ·have k0:¬ 65536<=z:=by omega
   rw[if_neg (by omega)]at j;subst j;replace H:=Aa H;replace J:=Aa J
   go_in
   go_wp2_with fail;refine(h.out _).mono ?_;rintro e w2 ⟨rfl,a⟩;go_wp2_with fail;go_ret2;exact⟨rfl,a⟩
theorem KA (l:List UInt8) (at_:Nat) (w:World) (Y:at_<l.length) (U:l.length<=1073741824) :
 Calls prog 190 #[.string ⟨l.toArray⟩,.int .i64 (at_:Int)] w fun e w'=>e = .returned (.tuple #[.int .i64 (decR (l.drop at_)).1,.int .i64 (decR (l.drop at_)).2])/\Ext w w':=by
 obtain⟨b,hb⟩:∃b,l[at_]? = some b:=⟨_,List.getElem?_eq_getElem Y⟩
 have j:l.drop at_=b::l.drop (at_+1):=by
  rw[List.drop_eq_getElem_cons Y,(List.getElem?_eq_some_iff.1 hb).2]
 by_cases a:b.toNat<128
 ·have h:decR (l.drop at_)=(b.toNat,1):=by
   rw[j,decR,if_pos a]
  rw[h];have J:=fun W=>AB hb (z:=(at_:Int)) rfl W;have Z:(b.toNat:Int)<128:=by omega
  replace hb:=Aa hb;replace h:=Aa h;replace j:=Aa j
  go_in
  go_wp2_with fail
  all_goals
   go_ret2;exact⟨rfl,Ext.refl w⟩
 ·by_cases h1:b.toNat / 32=6
  ·exact N9 l at_ b w hb U h1
  ·by_cases h2:b.toNat / 16=14
   ·exact Oa l at_ b w hb U h2
   ·by_cases H:b.toNat / 8=30
    ·exact Ob l at_ b w hb U H
    ·have h:decR (l.drop at_)=(65533,1):=by
      rw[j,Sl a h1 h2 H]
     rw[h];have J:=fun W=>AB hb (z:=(at_:Int)) rfl W;obtain⟨x,O⟩:=Ab b.toNat;have T:=b.toNat_lt;rw[<-O]at J h1 h2 H a T;have g0:¬ (x:Int)<128:=by omega
     have g1:¬ (x:Int) / 32=6:=by omega
     have g2:¬ (x:Int) / 16=14:=by omega
     have g3:¬ (x:Int) / 8=30:=by omega
     replace h1:=Aa h1;replace h2:=Aa h2;replace H:=Aa H;replace a:=Aa a;replace O:=Aa O;replace hb:=Aa hb;replace h:=Aa h;replace j:=Aa j
     go_in
     go_wp2_with fail
     all_goals
      go_ret2;exact⟨rfl,Ext.refl w⟩
theorem Mn (l:List UInt8) (w:World) (hl:l.length<=1073741824) :
 Calls prog 165 #[.string ⟨l.toArray⟩] w (NewN w (runesL l)):=by
 have a:=Aa (fun at_ W (h:at_<l.length)=>KA l at_ W h hl);obtain⟨n,hn⟩:=Ab l.length;have hlen:(⟨l.toArray⟩:ByteArray).size=n:=by rw[hn];exact ByteArray.size_mk_toArray l
 rw[<-hn]at hl a;replace hn:=Aa hn
 go_in
 go_wp2_with fail
 go_loopw [3,4] (fun s3 s4 wr=>∃(at_ c:Nat) (A:Option Addr) (D:List Nat),s3 = .slice A D.length c/\s4 = .int .i64 (at_:Int)/\at_<=n/\D.length<=at_/\Hid (runesL l=D++runesL (l.drop at_))/\Hid (Buf wr w.heap.size 3 A D.length c (D.map NV))/\Hid (Ext w wr)) (fun _ s4 _=>n - (intOf s4).toNat)
 case atStart=>exact⟨0,0,none,[],rfl,rfl,by omega,by simp,Aa rfl,Aa (Buf.nil _ _ _),Aa (Ext.refl w)⟩
 case round =>
  obtain⟨at_,c,A,D,rfl,rfl,j0,hD,Y,hb,hE⟩:=hrel;by_cases h:at_<n
  ·have j:=I3 (s:=l) (at_:=at_) (by rw[<-hn.out];exact h);obtain⟨r,U⟩:=Ab ((decR (l.drop at_)).1);obtain⟨k,hk⟩:=Ab ((decR (l.drop at_)).2);rw[<-U,<-hk,<-hn.out]at j;have J:=Aa j.1;have p0:=j.2.1;have k0:=j.2.2;clear j;have hd:=Aa (fun W=>a.out at_ W h);rw[<-U,<-hk]at hd;replace U:=Aa U;replace hk:=Aa hk;go_wp2_with fail;refine(hd.out _).mono ?_;rintro e w2 ⟨rfl,H⟩;have Z:=Aa (hb.out.ext H);have b:=hE.out.trans H;have I:=b.size;replace b:=Aa b;go_wp2_with (at_builtin;refine Au FY Z.out (.tmp 17) (.tmp 19) rfl rfl rfl rfl (Az rfl) (by simp;omega) I (fun A3 c3 w4 G T=>?_));go_roundw
   case rel=>exact⟨at_+k,c3,A3,D ++ [r],by simp,by simp,by omega,by simp;omega,Aa (by rw[Y.out,J.out];simp),Aa (by simpa [NV]using G),Aa (T w b.out (Nat.le_refl _))⟩
   case measure=>simp[intOf];omega
  ·obtain rfl:at_=n:=by omega
   have O:D=runesL l:=by
    rw[Y.out,List.drop_eq_nil_of_le (by rw[<-hn.out];exact Nat.le_refl _),Hm,List.append_nil]
   subst O;go_wp2_with fail;go_ret;exact⟨A,c,rfl,hb.out,hE.out⟩
theorem Hn {cur rs:List Nat} (j:cur ≠ []) (h:∀r t,rs=r::t->wordR r=false):runsW cur rs=cur::runsW [] rs:=by
 cases rs with
 | nil=>rw[runsW,if_neg j,runsW,if_pos rfl]
 | cons r t=>rw[C9 (h r t rfl) j,Cz (h r t rfl)]
theorem KM (l:List UInt8) (w:World) (hl:l.length<=1000000000):Calls prog 123 #[.string ⟨l.toArray⟩] w (NewTk w (tokL l)):=by
 have i1:=Aa (fun W=>Mn l W (by omega));have f1:=EG l;have c0:=I4 l;have g0:tokL l=(runsW [] (runesL l)).map (cutW []):=rfl;obtain⟨R,hR⟩:=Ab (runesL l);rw[<-hR]at i1 f1 c0 g0;obtain⟨Z,hZ⟩:=Ab (tokL l);rw[<-hZ]at g0 ⊢;obtain⟨m,hm⟩:=Ab R.length;have x3:m<=1000000001:=by omega
 have o2:=Aa (fun r W h=>KI r W h);have q2:=Aa (fun rs A n c W h1 h2 h3 h4=>PX rs A n c W h1 h2 h3 h4);replace hZ:=Aa hZ;replace hR:=Aa hR;replace g0:=Aa g0;replace c0:=Aa c0;rw[<-hm]at f1;replace hm:=Aa hm
 go_in
 go_wp2_with fail;refine(i1.out _).mono ?_;rintro e w2 ⟨A2,c2,rfl,d0,x0⟩;rw[<-hm.out]at d0 ⊢;have y3:=d0.2.1;have j1:=Aa (Buf.cells d0);replace x0:=Aa x0;replace d0:=Aa d0;go_wp2_with fail
 go_loopw [3,5] (fun s3 s5 wr=>∃(i k c3:Nat) (A3:Option Addr) (D:List (List Nat)),s3 = .slice A3 k c3/\s5 = .int .i64 (i:Int)/\i<=m/\k<=i/\Hid (k=D.length)/\Hid (runsW [] R=D++runsW [] (R.drop i))/\Hid (wr.ownsRow w2.heap.size 207 2 (.slice A3 k c3) k (tkV (D.map (cutW []))))/\Hid (Ext w2 wr)) (fun _ s5 _=>m - (intOf s5).toNat)
 case atStart=>exact⟨0,0,0,none,[],rfl,rfl,by omega,by omega,Aa rfl,Aa (by simp),Aa (World.ownsRow_nil _ _ _ _),Aa (Ext.refl w2)⟩
 case round =>
  obtain⟨i,k,c3,A3,D,rfl,rfl,him,t3,hk,y0,k0,hE⟩:=hrel;by_cases h:i<m
  ·obtain⟨gR,oR,hA,m1⟩:=j1.out.at_ (by rw[List.length_map,<-hm.out];omega);obtain⟨g2,j2⟩:∃g,A2=some ⟨g,0,none⟩:=by
    rcases d0.out.2.2 with ⟨h,_⟩ | ⟨g,_,h,_⟩
    ·rw[hA]at h;cases h
    ·exact⟨g,h⟩
   subst j2;cases hA;replace m1:=Aa m1;go_wp2_with fail
   go_loopw [6] (fun s6 wr2=>∃j:Nat,s6 = .int .i64 (j:Int)/\i<=j/\j<=m/\Hid (runsW [] (R.drop i)=runsW ((R.take j).drop i) (R.drop j))/\Hid (Ext wr wr2)) (fun s6 _=>m - (intOf s6).toNat)
   case atStart=>exact⟨i,rfl,by omega,by omega,Aa (by rw[Db]),Aa (Ext.refl wr)⟩
   case round =>
    obtain⟨j,rfl,a2,m3,y1,h0⟩:=hrel;by_cases hj:j<m
    ·obtain⟨r,j0⟩:∃r,R[j]? = some r:=⟨_,List.getElem?_eq_getElem (by rw[<-hm.out];exact hj)⟩
     have r0:=m1.out j (NV r) (by rw[List.getElem?_map,j0];rfl);rw[Nat.zero_add]at r0;replace r0:=(hE.out.trans h0.out).cell r0;unfold NV at r0;have o1:=c0.out r (List.mem_of_getElem? j0);have I:=Aa (fun W=>o2.out r W (by omega));obtain⟨b,hb⟩:=Ab (wordR r);rw[<-hb]at I;replace o1:=Aa o1;replace hb:=Aa hb;replace j0:=Aa j0;cases b with
     | true =>
      go_wp2_with fail;refine(I.out _).mono ?_;rintro e w4 ⟨rfl,m0⟩;go_wp2_with fail;refine⟨⟨j+1,rfl,by omega,by omega,Aa ?_,Aa (h0.out.trans m0)⟩,by simp only[intOf];omega⟩;rw[y1.out,Gs j0.out,Dt hb.out.symm,Jb j0.out a2]
     | false =>
      have H:∀x t,R.drop j=x::t->wordR x=false:=by
       intro x t hx;rw[Gs j0.out]at hx;injection hx with h1 _;rw[<-h1];exact hb.out.symm
      by_cases l0:i<j
      ·have a:runsW [] R=(D ++ [(R.take j).drop i])++runsW [] (R.drop j):=by
        rw[y0.out,y1.out,Hn (FT l0 (by rw[<-hm.out];omega)) H,List.append_assoc];rfl
       replace a:=Aa a;have O:∀x∈(R.take j).drop i,x<=1114111:=fun x hx=>c0.out x (List.mem_of_mem_take (List.mem_of_mem_drop hx));have Y:j - i=((R.take j).drop i).length:=by rw[List.length_drop,List.length_take,<-hm.out];omega
       have v0:=Aa (fun c W (hh:Cells W (some ⟨gR,i,none⟩) (((R.take j).drop i).map NV))=>q2.out ((R.take j).drop i) (some ⟨gR,i,none⟩) (j - i) c W Y hh O (by omega));have J:=Fy j1.out i j;rw[<-List.map_take,<-List.map_drop]at J;obtain⟨t,ht⟩:=Ab (cutW [] ((R.take j).drop i));rw[<-ht]at v0;have T:(D ++ [(R.take j).drop i]).map (cutW [])=D.map (cutW []) ++ [t]:=by rw[List.map_append,ht];rfl
       obtain⟨cu,t0⟩:=Ab ((R.take j).drop i);rw[<-t0]at v0 J a T;replace H:=Aa H;replace O:=Aa O;replace Y:=Aa Y;replace J:=Aa J;replace ht:=Aa ht;replace T:=Aa T;replace t0:=Aa t0;go_wp2_with fail;refine(I.out _).mono ?_;rintro e w4 ⟨rfl,m0⟩;go_wp2_with fail;have q0:=Aa ((hE.out.trans h0.out).trans m0);have i0:=Aa (J.out.ext q0.out);refine(v0.out _ _ i0.out).mono ?_;rintro e w5 ⟨rfl,G⟩;have p0:=Aa (q0.out.trans G);have U:=Aa (G.owns (m0.owns (h0.out.owns k0.out)));have n0:=p0.out.size;replace G:=Aa G;go_wp2_with (at_builtin;refine Ch (m:=1) Lw U.out (.tmp 32) (.tmp 41) rfl rfl rfl rfl rfl (Az rfl) (by omega) n0 (fun A6 c6 w6 a1 x1 f2=>?_));have f0:=p0.out.grown x1 (fun q hq=>(U.out.lt q hq).1);refine⟨⟨j,k+1,c6,A6,D ++ [cu],rfl,rfl,by omega,by omega,Aa (by rw[List.length_append,<-hk.out];rfl),a,Aa ?_,Aa f0⟩,by simp only[intOf];omega⟩;rw[T.out,HJ,List.length_map,<-hk.out];exact a1
      ·obtain rfl:i=j:=by omega
       have k2:=Aa H;clear H;go_wp2_with fail;refine(I.out _).mono ?_;rintro e w4 ⟨rfl,m0⟩;go_wp2_with fail;refine⟨⟨i+1,k,c3,A3,D,rfl,rfl,by omega,by omega,hk,Aa ?_,Aa (m0.owns (h0.out.owns k0.out)),Aa ((hE.out.trans h0.out).trans m0)⟩,by simp only[intOf];omega⟩;rw[y0.out,Gs j0.out,Cz hb.out.symm]
    ·obtain rfl:j=m:=by omega
     have l0:i<j:=h;have H:∀x t,R.drop j=x::t->wordR x=false:=by
      intro x t hx;rw[List.drop_eq_nil_of_le (by rw[<-hm.out];exact Nat.le_refl _)]at hx;cases hx
     have a:runsW [] R=(D ++ [(R.take j).drop i])++runsW [] (R.drop j):=by
      rw[y0.out,y1.out,Hn (FT l0 (by rw[<-hm.out];omega)) H,List.append_assoc];rfl
     replace a:=Aa a;have O:∀x∈(R.take j).drop i,x<=1114111:=fun x hx=>c0.out x (List.mem_of_mem_take (List.mem_of_mem_drop hx));have Y:j - i=((R.take j).drop i).length:=by rw[List.length_drop,List.length_take,<-hm.out];omega
     have v0:=Aa (fun c W (hh:Cells W (some ⟨gR,i,none⟩) (((R.take j).drop i).map NV))=>q2.out ((R.take j).drop i) (some ⟨gR,i,none⟩) (j - i) c W Y hh O (by omega));have J:=Fy j1.out i j;rw[<-List.map_take,<-List.map_drop]at J;obtain⟨t,ht⟩:=Ab (cutW [] ((R.take j).drop i));rw[<-ht]at v0;have T:(D ++ [(R.take j).drop i]).map (cutW [])=D.map (cutW []) ++ [t]:=by rw[List.map_append,ht];rfl
     obtain⟨cu,t0⟩:=Ab ((R.take j).drop i);rw[<-t0]at v0 J a T;replace H:=Aa H;replace O:=Aa O;replace Y:=Aa Y;replace J:=Aa J;replace ht:=Aa ht;replace T:=Aa T;replace t0:=Aa t0;go_wp2_with fail;have q0:=Aa (hE.out.trans h0.out);have i0:=Aa (J.out.ext q0.out);refine(v0.out _ _ i0.out).mono ?_;rintro e w5 ⟨rfl,G⟩;have p0:=Aa (q0.out.trans G);have U:=Aa (G.owns (h0.out.owns k0.out));have n0:=p0.out.size;replace G:=Aa G;go_wp2_with (at_builtin;refine Ch (m:=1) Lw U.out (.tmp 32) (.tmp 41) rfl rfl rfl rfl rfl (Az rfl) (by omega) n0 (fun A6 c6 w6 a1 x1 f2=>?_));have f0:=p0.out.grown x1 (fun q hq=>(U.out.lt q hq).1);refine⟨⟨j,k+1,c6,A6,D ++ [cu],rfl,rfl,by omega,by omega,Aa (by rw[List.length_append,<-hk.out];rfl),a,Aa ?_,Aa f0⟩,by simp only[intOf];omega⟩;rw[T.out,HJ,List.length_map,<-hk.out];exact a1
  ·obtain rfl:i=m:=by omega
   have k1:runsW [] R=D:=by
    rw[y0.out,List.drop_eq_nil_of_le (by rw[<-hm.out];exact Nat.le_refl _),runsW,if_pos rfl,List.append_nil]
   have o0:Z=D.map (cutW []):=by rw[g0.out,k1]
   have d2:k=Z.length:=by rw[o0,List.length_map];exact hk.out
   rw[<-o0]at k0;replace k1:=Aa k1;replace o0:=Aa o0;subst d2;go_wp2_with fail;go_ret;exact⟨A3,c3,rfl,World.ownsRow.mono k0.out x0.out.size,x0.out.trans hE.out⟩
end
section
open Go.RowKit Go.Maps
theorem RR {D:List TmC} {X:List (List UInt8×Int)} {L:Nat} (h:tmR D=grp X) (a:X.length<=L):D.length<=L/\∀x∈D,x.pos.length<=L:=by
 have h1:=EX X;rw[<-h]at h1;unfold tmR at h1;rw[List.length_map]at h1;refine⟨by omega,fun x H=>?_⟩;have h2:x.tm∈grp X:=by rw[<-h];exact List.mem_map.2 ⟨x,H,rfl⟩
 have b:=((BM X).mem x.tm).1 h2;have j:=HM X x.tm.1;rw[<-b.1]at j;exact Nat.le_trans j a
theorem AddA.nil {R:List (List UInt8×List Int)} (j:R = []) (h:Ext w w'):AddA w R (.returned (.slice none 0 0)) w':=⟨[],none,0,0,rfl,j.symm,TmsR.nil _,h⟩
theorem N8 {fs:List Fd} {f:Fd} (h:fs[i]? = some f):rawT 0 (fs.take (i+1))=rawT 0 (fs.take i)++fieldT (baseT 0 (fs.take i)) f/\baseT 0 (fs.take (i+1))=baseT 0 (fs.take i)+(tokL f.2).length+64:=by
 rw[List.take_add_one,h];refine⟨?_,?_⟩
 ·rw[He];show _++(fieldT _ f ++ [])=_;rw[List.append_nil]
 ·rw[Fx];show nextT _ f=_;unfold nextT;omega
theorem Mo (e:Ev) (A:Option Addr) (c:Nat) (w:World) (h:e.Ok w A):Calls prog 77 #[e.val A c] w fun en w'=>AddA w (termsL e) en w':=by
 obtain⟨at_,fs⟩:=e;unfold Ev.val;simp only;obtain⟨n,hn⟩:=Ab fs.length;rw[<-hn];have m1:Ext w (w.alloc (.cells #[.int .i64 at_,.slice A n c] 69)):=(Ext.refl w).alloc _;have e0:Row (w.alloc (.cells #[.int .i64 at_,.slice A n c] 69)) w.heap.size 69 #[.int .i64 at_,.slice A n c]:=Row.new w _ _;have H:=Gd ⟨at_,fs⟩ A c (w.alloc (.cells #[.int .i64 at_,.slice A n c] 69)) (h.ext m1);unfold Ev.val at H;simp only at H;rw[<-hn]at H;obtain⟨Z,hZ⟩:=Ab (termsL ⟨at_,fs⟩);rw[<-hZ];unfold termsL at hZ;simp only at hZ;obtain⟨q,hq⟩:=Ab (checkE fs);rw[<-hq]at H;have y0:=e0.cell 0 rfl;have y1:=e0.cell 1 rfl;replace H:=Aa H;replace hn:=Aa hn;by_cases d0:q=0
 ·have U:=AM (fs:=fs) (by rw[<-hq];exact d0);rw[if_pos (by rw[<-hq];exact d0)]at hZ;have t4:n<=16:=by rw[hn.out];exact U.1
  have J:∀f∈fs,f.2.length<=4096:=fun f hf=>(U.2 f hf).2;have q3:=CH (k:=4096) fs 0 J;have p0:=fun i=>EN (k:=4096) (fs.take i) 0 fun f hf=>J f (List.mem_of_mem_take hf);have i1:=fun i=>CH (k:=4096) (fs.take i) 0 fun f hf=>J f (List.mem_of_mem_take hf);have x2:=Aa (fun D A n c s z W (h:TmsR W A n c D) (hs:s.length<=9223372036854775807) (p4:n<=1000000) (k4:∀x∈D,x.pos.length<=1000000)=>PV D A n c s z W h hs p4 k4);have p3:=Aa (fun l W (hl:l.length<=1000000000)=>KM l W hl);have l3:=Aa (fun f (hf:f∈fs)=>U.2 f hf);replace hZ:=Aa hZ;replace hq:=Aa hq;replace p0:=Aa p0;replace i1:=Aa i1;replace h:=Aa h;subst d0;clear q3 U J
  go_in
  go_wp2_with fail;refine H.out.mono ?_;rintro e w1 ⟨rfl,a⟩;have h3:=Aa (e0.ext a);have n0:=Aa (m1.trans a);obtain⟨ge,c0⟩:=Ab w.heap.size;rw[<-c0]at h3;clear y0 y1 e0 a;go_wp2_with fail;rw[<-c0];replace c0:=Aa c0
  go_loopw [3,4,5] (fun s3 s4 s5 wr=>∃(i n' c' bs:Nat) (D:List TmC) (A':Option Addr),s3 = .slice A' n' c'/\s4 = .int .i64 (bs:Int)/\s5 = .int .i64 (i:Int)/\i<=n/\Hid (bs=baseT 0 (fs.take i))/\Hid (tmR D=grp (rawT 0 (fs.take i)))/\Hid (TmsR wr A' n' c' D)/\Hid (Ext w1 wr)) (fun _ _ s5 _=>n - (intOf s5).toNat)
  case atStart=>exact⟨0,0,0,0,[],none,rfl,rfl,rfl,by omega,Aa rfl,Aa rfl,Aa (TmsR.nil _),Aa (Ext.refl _)⟩
  case round =>
   obtain⟨i,n',c',bs,D,A',rfl,rfl,rfl,hi,v0,hD,hT,hE⟩:=hrel;have y1:wr.cell? ⟨ge,1,none⟩=some (.slice A n c):=(h3.out.ext hE.out).cell 1 rfl;have d3:=p0.out i;rw[<-v0.out,List.length_take]at d3;by_cases o3:i<n
   ·obtain⟨f,hf⟩:∃f,fs[i]? = some f:=⟨_,List.getElem?_eq_getElem (by rw[<-hn.out];exact o3)⟩
    have i3:=l3.out f (List.mem_of_getElem? hf);obtain⟨g,o,hA,j0,j1⟩:=Bg (h.out.cells.ext (n0.out.trans hE.out)) hf;have Y:=N8 hf;obtain⟨nm,tx⟩:=f;simp only at i3 j0 j1 Y;unfold strV at j0 j1;have O:=p3.out tx wr (by omega);have J:=CK tx;have f0:=fun x hx=>FU (l:=tx) (x:=x) hx;obtain⟨T,I⟩:=Ab (tokL tx);rw[<-I]at O Y J f0;unfold NewTk at O;obtain⟨nt,m0⟩:=Ab T.length;rw[<-m0]at O Y J;rw[<-v0.out]at Y;obtain⟨wo,rfl⟩:=Ab wr;have r3:=Aa (fun W (hE:Ext wo W)=>hE.cell j0);have j4:=Aa (fun W (hE:Ext wo W)=>hE.cell y1);subst hA;replace O:=Aa O;replace I:=Aa I;replace m0:=Aa m0;replace f0:=Aa f0;replace Y:=Aa Y;replace v0:=Aa v0;go_wp2_with fail;refine O.out.mono ?_;rintro e wt ⟨AT,cT,rfl,i2,G⟩;have f3:=Aa (Cells.of_own i2);have m2:=Aa (hT.out.ext G);have y3:=Aa (hE.out.trans G);clear i2 j0 j1 y1 hT;replace G:=Aa G;go_wp2_with fail
    go_loopw [3,7] (fun s3 s7 wi=>∃(k n2 c2:Nat) (D2:List TmC) (A2:Option Addr),s3 = .slice A2 n2 c2/\s7 = .int .i64 (k:Int)/\k<=nt/\Hid (tmR D2=grp (rawT 0 (fs.take i)++(fieldT bs (nm,tx)).take k))/\Hid (TmsR wi A2 n2 c2 D2)/\Hid (Ext wt wi)) (fun _ s7 _=>nt - (intOf s7).toNat)
    case atStart=>exact⟨0,n',c',D,A',rfl,rfl,by omega,Aa (by rw[List.take_zero,List.append_nil];exact hD.out),m2,Aa (Ext.refl _)⟩
    case round =>
     clear m2;obtain⟨k,n2,c2,D2,A2,rfl,rfl,hk,q1,x1,t0⟩:=hrel;by_cases h4:k<nt
     ·obtain⟨x,hx⟩:∃x,T[k]? = some x:=⟨_,List.getElem?_eq_getElem (by rw[<-m0.out];exact h4)⟩
      have z4:=f0.out x (List.mem_of_getElem? hx);have h0:=JF hx (j:=0) (by omega);have h1:=JF hx (j:=1) (by omega);obtain⟨g2,o2,j3,f1⟩:=(f3.out.ext t0.out).at_ (by have:=(List.getElem?_eq_some_iff.1 h0).1;omega);have l0:wr.cell? ⟨g2,o2+k*2,none⟩=some (.string ⟨x.toArray⟩):=by
       have:=f1 _ _ h0;exact this
      have l1:wr.cell? ⟨g2,o2+k*2+1,none⟩=some (.int .i64 (k:Int)):=by
       have:=f1 _ _ h1;rw[Nat.add_assoc];exact this
      have x0:=Iv (base:=bs) (f:=(nm,tx)) (i:=k) (x:=x) (by rw[<-I.out];exact hx);simp only at x0;obtain⟨S,hS⟩:=Ab (nm++58::x);rw[<-hS]at x0;have z3:S.length<=9223372036854775807:=by rw[hS,List.length_append,List.length_cons];omega
      have k0:ByteArray.mk nm.toArray++ByteArray.mk #[58]++ByteArray.mk x.toArray=⟨S.toArray⟩:=by
       have h1:=Jg nm [58];have h2:=Jg (nm ++ [58]) x;rw[hS,h1,h2];simp
      have hX:(rawT 0 (fs.take i)++(fieldT bs (nm,tx)).take k).length<=100000:=by
       have a1:=i1.out i;rw[List.length_take]at a1;rw[List.length_append,List.length_take,CB];have a2:=CK tx;omega
      obtain⟨b3,y2⟩:=RR q1.out hX;have q4:n2<=1000000:=by rw[x1.out.len];omega
      have b:=x2.out D2 A2 n2 c2 S ((bs:Int)+(k:Int)) wr.drew (x1.out.ext (Ext.refl wr).drew) z3 q4 (fun y hy=>by have:=y2 y hy;omega);have f2:addG (S,(bs:Int)+(k:Int)) (tmR D2)=grp (rawT 0 (fs.take i)++(fieldT bs (nm,tx)).take (k+1)):=by
       rw[q1.out,<-EY,List.append_assoc,List.take_add_one,x0];rfl
      rw[f2]at b;have k2:=G.out.trans t0.out;have y1:=j4.out wr k2;have j0:=r3.out wr k2;subst j3;replace b:=Aa b;replace k0:=Aa k0;clear f1 h0 h1 x0 f2 b3 y2 hX hx;replace hS:=Aa hS;go_wp2_with fail;refine AE (fun K hK=>?_);go_wp2_with fail;rw[k0.out];refine b.out.mono ?_;rintro e w5 ⟨D5,A5,n5,c5,rfl,k1,d1,x3⟩;have k1:=Aa k1;have d1:=Aa d1;have q2:=Aa (t0.out.trans ((Ext.refl _).drew.trans x3));clear l0 l1 y1 j0;go_wp2_with fail;refine⟨by kernel_rfl,?_⟩;go_wp2_with fail;go_roundw
      case rel=>exact⟨k+1,n5,c5,D5,A5,rfl,by go_num,by omega,k1,d1,q2⟩
      case measure=>simp only[intOf];omega
     ·obtain rfl:k=nt:=by omega
      have o0:(fieldT bs (nm,tx)).take k=fieldT bs (nm,tx):=List.take_of_length_le (by rw[CB];simp only;rw[<-I.out,<-m0.out];exact Nat.le_refl _);have m3:=Aa (show tmR D2=grp (rawT 0 (fs.take (i+1)))by rw[q1.out,o0,Y.out.1]);have e3:((bs+k+64:Nat):Int)=(bs:Int)+(k:Int)+64:=by omega
      have t3:=Aa (y3.out.trans t0.out);clear o0;go_wp2_with fail;go_roundw
      case rel=>exact⟨i+1,n2,c2,bs+k+64,D2,A2,rfl,by rw[e3],by go_num,by omega,Aa Y.out.2.symm,m3,x1,t3⟩
      case measure=>simp only[intOf];omega
   ·obtain rfl:i=n:=by omega
    have d2:=Aa (show tmR D=Z by rw[hD.out,hZ.out,hn.out,List.take_length]);go_wp2_with fail;go_ret;exact⟨D,A',n',c',rfl,d2.out,hT.out,n0.out.trans hE.out⟩
 ·rw[if_neg (by rw[<-hq];exact d0)]at hZ;have y4:((q:Int) != 0)=true:=by simp;omega
  replace hZ:=Aa hZ;replace hq:=Aa hq
  go_in
  go_wp2_with fail;refine H.out.mono ?_;rintro e w1 ⟨rfl,a⟩;go_wp2_with fail;go_ret;exact AddA.nil hZ.out (m1.trans a)
end
section
open Go.RowKit Go.Maps
def kRy13 (b0:Nat) (B BT:Option Addr) (n c k i j m yc gt ot gp:Nat) (At yA:Option Addr) (nt ct:Nat) (s:List UInt8) (pre post:List Value):OwnK:=ownK [(kO b0 129 2 0 [],some 4),(kV (.slice B n c),none),(kV (.int .i64 (k:Int)),none),(kV (.slice B k c),none),(kO b0 129 2 k pre,some 14),(kV (.slice At nt ct),none),(kV (.int .i64 (j:Int)),none),(kV (.pointer (some ⟨gt,ot+j*2,none⟩)),none),(kV (.pointer (some ⟨gt,ot+j*2,none⟩)),none),(kV (.string ⟨s.toArray⟩),none),(kV (.agg #[.int .i64 (i:Int),.slice yA m yc]),none),(kO b0 89 2 1 [.int .i64 (i:Int),.slice yA m yc],some 12),(kR1 b0 s [.int .i64 (i:Int),.slice yA m yc],some 13),(kR2 b0 s [.int .i64 (i:Int),.slice yA m yc],some 14),(kR3 b0 (k+1) s [.int .i64 (i:Int),.slice yA m yc] pre [],some 18),(kV (.slice B n c),none),(kV (.int .i64 (k:Int)),none),(kV (.slice BT (n - k) (c - k)),none),(kR3 b0 (n+1) s [.int .i64 (i:Int),.slice yA m yc] pre post,some 19),(kR3 b0 (n+1) s [.int .i64 (i:Int),.slice yA m yc] pre post,none)] (fun w=>True) (fun _=>False) 99
theorem OF {a:Act} {K:Act->World->Prop} {E0:Prop} {t e size bytes:Nat} (E:Elem P t e size bytes) (J:o.guard=none)
 {base:Nat} (H:w.ownsRow base e size v n xs) (G:Cells w A news) (s x:Operand)
 (Z:o.op = .call { callee:= .builtin .append,args:=#[s,x],argTypes:=#[t,t] })
 (hs:a.eval s=v) (I:a.eval x = .slice A m c) (T:news.length=m*size) (h1:∀u∈news,u.oneCell'=true) (U:n+m<=4294967296) (j:base<=w.heap.size)
 (h:∀A1 c1 w',w'.ownsRow base e size (.slice A1 (n+m) c1) (n+m) (xs++news)->w.grownBy w' v.ownBlock->((Value.slice A1 (n+m) c1).ownBlock=v.ownBlock\/∃q,(Value.slice A1 (n+m) c1).ownBlock=some q/\w.heap.size<=q)->K (a.put o.dst (.slice A1 (n+m) c1)) w') :
 if Region.wanted o (yielded ops a.tmps)=true then Oper.wp P o a w K Q else E0:=by
 rw[if_pos (by simp[Region.wanted,J])];obtain⟨A1,c1,w',Y,h2,O,b⟩:=Ds (P:=P) E w o.type H (c:=c) G T h1 U j;unfold Oper.wp execOp;simp only[Z,resolve,invoke,builtin,Sem.run_bind,Sem.run_pure,Result.andThen_ok,List.map_toArray,List.map_cons,List.map_nil,hs,I,Y];refine h A1 c1 w' h2 O ?_;rcases b with b | b
 ·exact .inl b
 ·exact .inr ⟨_,b,Nat.le_refl _⟩
theorem Kh {β:Type} {ps:List (List UInt8×β)} {r:List UInt8×List β} (h:r∈grp ps):r.2.length<=ps.length:=by
 have h1:=EZ (fun _=>1) ps;rw[GR,JE]at h1;have h2:=Dq (f:=fun x:List UInt8×List β=>x.2.length) h;omega
theorem RowsO.few {base:Nat} {B:Option Addr} {E:List IdE} {done:List (List UInt8×Po)} (h:RowsO base W B n c E done):n<=done.length/\∀x∈E,x.ps.length<=done.length:=by
 refine⟨?_,fun x b=>?_⟩
 ·have:=EX done;rw[<-h.rows,Dn,<-h.len]at this;exact this
 ·have j:x.rw'∈grp done:=by rw[<-h.rows];exact List.mem_map.2 ⟨x,b,rfl⟩
  have:=Kh j;have h2:x.rw'.2.length=x.ps.length:=List.length_map ..;omega
theorem RowsO.start {base:Nat} {B:Option Addr} {E:List IdE} {done:List (List UInt8×Po)} (h:RowsO base W B n c E done) (hn:0<n):∃g,B=some ⟨g,0,none⟩:=by
 obtain⟨_,h2⟩:=h.own;rcases h2 with ⟨_,j⟩ | ⟨g,cap,cur,b,_⟩
 ·exact absurd j (by omega)
 ·cases b;exact⟨g,rfl⟩
theorem RowsO.cap {base:Nat} {B:Option Addr} {E:List IdE} {done:List (List UInt8×Po)} (h:RowsO base W B n c E done):n<=c/\∀a,B=some a->a.spot=none:=BN h.own
theorem IS (ds:List DocC) (A:Option Addr) (nd c0:Nat) (w:World) (hm:nd=ds.length) (h:DocsOk w A ds) (j7:nd<=1000000) (y3:(pairsD 0 (dcs ds)).length<=1000000) :
 Calls prog 40 #[.slice A nd c0] w fun e w'=>∃(E:List IdE) (B:Option Addr) (n c:Nat),e = .returned (.slice B n c)/\RowsO w.heap.size w' B n c E (pairsD 0 (dcs ds))/\Ext w w':=by
 have c5:=Aa (fun e A c W (h:Ev.Ok e W A)=>Mo e A c W h);have b5:=Aa (fun E B n c s W (hn:n=List.length E) (h:Cells W B (idcells E)) (O:n<=1000000000)=>Fc E B n c s W hn h O);have o2:∀i,(pairsD 0 (dcs (ds.take i))).length<=1000000:=fun i=>by
  have e:dcs ds=dcs (ds.take i)++dcs (ds.drop i):=by unfold dcs;rw[<-List.map_append,List.take_append_drop]
  rw[e,CG,List.length_append]at y3;omega
 replace o2:=Aa o2;replace h:=Aa h;replace hm:=Aa hm;clear y3
 go_in
 go_wp2_with fail
 go_loopw [3,4] (fun s3 s4 wr=>∃(i n c:Nat) (B:Option Addr) (E:List IdE),s4 = .int .i64 (i:Int)/\s3 = .slice B n c/\i<=nd/\Hid (RowsO w.heap.size wr B n c E (pairsD 0 (dcs (ds.take i))))/\Hid (Ext w wr)) (fun _ s4 _=>nd - (intOf s4).toNat)
 case atStart=>exact⟨0,0,0,none,[],rfl,rfl,by omega,Aa (RowsO.nil _ _),Aa (Ext.refl _)⟩
 case round =>
  obtain⟨i,n0,cc0,B0,E0,rfl,rfl,hi,J,hE⟩:=hrel;obtain⟨wo,rfl⟩:=Ab wr;by_cases m6:i<nd
  ·obtain⟨x,Z⟩:∃x,ds[i]? = some x:=⟨_,List.getElem?_eq_getElem (by rw[<-hm.out];exact m6)⟩
   obtain⟨m0,c6,d6⟩:=h.out.each x (List.mem_of_getElem? Z);obtain⟨g,o,hA,l0,l1,l2⟩:=AR (h.out.cells.ext hE.out) Z;have g5:dcs (ds.take (i+1))=dcs (ds.take i) ++ [x.dc]:=by
    rw[List.take_add_one,Z];exact BJ _ _
   have d1:pairsD 0 (dcs (ds.take (i+1)))=pairsD 0 (dcs (ds.take i))++(termsL x.e).map (fun p=>(p.1,((i:Int),p.2))):=by
    rw[g5,CG];have hl:(dcs (ds.take i)).length=i:=by unfold dcs;rw[List.length_map,List.length_take,<-hm.out];omega
    rw[hl,Nat.zero_add];show _++(_ ++ [])=_;rw[List.append_nil];rfl
   have x3:=o2.out (i+1);rw[d1]at x3;have e0:=c5.out x.e x.A x.c wo (m0.ext hE.out);have r0:=fun p (hp:p∈termsL x.e)=>Jd hp;obtain⟨T,hT⟩:=Ab (termsL x.e);obtain⟨P0,w4⟩:=Ab (pairsD 0 (dcs (ds.take i)));rw[<-hT]at d1 x3 e0 r0;rw[<-w4]at d1 x3 J;unfold Ev.val at e0;obtain⟨sq,⟨at_,fs⟩,xA,xc⟩:=x;simp only at e0 l1 l2;obtain⟨fl,v4⟩:=Ab fs.length;rw[<-v4]at e0 l2;subst hA;replace e0:=Aa e0;replace d1:=Aa d1;replace r0:=Aa r0;replace v4:=Aa v4;clear Z g5 m0 c6 d6 hT w4;go_wp2_with fail;refine e0.out.mono ?_;rintro e w1 ⟨D,At,nt,ct,rfl,q3,q0,r3⟩;have m3:T.length=nt:=by rw[<-q3,q0.len];exact List.length_map ..
   have b3:=Aa (hE.out.trans r3);have i3:=Aa (J.out.ext r3);rw[List.length_append,List.length_map,m3]at x3;have w5:=Aa q0.len;replace q0:=Aa q0;replace q3:=Aa q3;replace m3:=Aa m3;clear r3 J hE e0;go_wp2_with fail
   go_loopw [3,6] (fun s3 s6 wr=>∃(j n c:Nat) (B:Option Addr) (E:List IdE),s6 = .int .i64 (j:Int)/\s3 = .slice B n c/\j<=nt/\Hid (RowsO w.heap.size wr B n c E (P0++(T.take j).map (fun p=>(p.1,((i:Int),p.2)))))/\Hid (TmsR wr At nt ct D)/\Hid (Ext w wr)) (fun _ s6 _=>nt - (intOf s6).toNat)
   case atStart=>exact⟨0,n0,cc0,B0,E0,rfl,rfl,by omega,Aa (by rw[List.take_zero,List.map_nil,List.append_nil];exact i3.out),q0,b3⟩
   case round =>
    clear i3 q0 b3;obtain⟨j,n,c,B,E,rfl,rfl,hj,J,q0,hE⟩:=hrel;by_cases x5:j<nt
    ·obtain⟨y,hy⟩:∃y,D[j]? = some y:=⟨_,List.getElem?_eq_getElem (by rw[<-w5.out];exact x5)⟩
     have e4:T[j]? = some y.tm:=by rw[<-q3.out];unfold tmR;rw[List.getElem?_map,hy];rfl
     have f4:=r0.out _ (List.mem_of_getElem? e4);obtain⟨o1,e6⟩:=q0.out.each y (List.mem_of_getElem? hy);obtain⟨gt,ot,o5,d0⟩:=HK q0.out.cells hy;obtain⟨l0,l1⟩:=d0 wr (Ext.refl _);have i1:P0++(T.take (j+1)).map (fun p=>(p.1,((i:Int),p.2)))=(P0++(T.take j).map (fun p=>(p.1,((i:Int),p.2)))) ++ [(y.s,((i:Int),y.pos))]:=by
      rw[List.take_add_one,e4,List.map_append,List.append_assoc];rfl
     have x4:=J.out.few;have j5:(P0++(T.take j).map (fun p=>(p.1,((i:Int),p.2)))).length<=1000000:=by
      rw[List.length_append,List.length_map,List.length_take];omega
     obtain⟨done,i0⟩:=Ab (P0++(T.take j).map (fun p=>(p.1,((i:Int),p.2))));rw[<-i0]at i1 J x4 j5;obtain⟨s,pos,yA,yc⟩:=y;unfold TmC.tm at f4;simp only at f4 o1 e6 d0 l0 l1 i1;have m1:=o1;obtain⟨m,a1⟩:=Ab pos.length;rw[<-a1]at d0 l1 o1 f4;subst o5;have O:n<=1000000:=by omega
     have d2:∀x∈E,x.ps.length<=1000000:=fun x Z=>Nat.le_trans (x4.2 x Z) j5;have x2:=J.out.cap;have f0:=Aa J.out.len;have y3:=Aa (b5.out E B n c s wr f0.out (Cells.of_own J.out.own) (by omega));replace d0:=Aa d0;replace i1:=Aa i1;replace o1:=Aa o1;replace m1:=Aa m1;replace a1:=Aa a1;replace d2:=Aa d2;replace i0:=Aa i0;clear hy e4 x4;go_wp2_with fail;refine y3.out.mono ?_;rintro e w2 ⟨k,rfl,hP,j0⟩;have p7:k<=n:=by have:=hP.le;rw[Dn,<-f0.out]at this;exact this
     obtain⟨l0,l1⟩:=d0.out w2 j0;have Y:=J.out.ext j0;obtain⟨gp,k3⟩:=Ab w2.heap.size;obtain⟨W3,j2⟩:=Ab (w2.alloc (.cells #[.int .i64 (i:Int),.slice yA m yc] 89));have k0:Ext w2 W3:=by rw[j2];exact(Ext.refl w2).alloc _
     have rp:Row W3 gp 89 #[.int .i64 (i:Int),.slice yA m yc]:=by rw[j2,k3];exact Row.new w2 _ _
     have I:=Aa (Y.ext k0);have e5:=Aa (fun x (Z:x∈E)=>Y.each x Z);have t0:=Aa ((hE.out.trans j0).trans k0);have d3:=Aa (q0.out.ext (j0.trans k0));have m2:=Aa (fun W (hW:Ext W3 W)=>d0.out W ((j0.trans k0).trans hW));have f5:=Aa (m1.out.ext (j0.trans k0));replace j2:=Aa j2;replace k3:=Aa k3;replace rp:=Aa rp;replace hP:=Aa hP;have z3:=Aa (show posAt 0 W3 ⟨(i:Int),pos,yA,yc⟩from⟨f5.out,by show pos.length<=_;rw[<-a1.out];omega⟩);clear Y j0 k0 d0 o1 m1 J hE q0;go_wp2_with fail;rw[<-j2.out,<-k3.out];by_cases q1:∃x,E[k]? = some x/\x.s=s
     ·obtain⟨x,Z,y2⟩:=q1;have e3:k<n:=by rw[f0.out];exact(List.getElem?_eq_some_iff.1 Z).1
      obtain⟨g,y4⟩:=I.out.start (by omega);subst y4;obtain⟨g',o',o3,p0⟩:=CC (Cells.of_own I.out.own) Z;cases o3;have f3:=d2.out x (List.mem_of_getElem? Z);have k5:decide ((k:Int)<n)=true:=decide_eq_true (by omega);obtain⟨y0,y1⟩:=p0 W3 (Ext.refl _);obtain⟨l0,l1⟩:=m2.out W3 (Ext.refl _);obtain⟨xs,ps,xA,xc⟩:=x;simp only at p0 y0 y1 f3 y2;rw[Nat.zero_add]at p0 y0 y1;obtain⟨np,g0⟩:=Ab ps.length;rw[<-g0]at p0 y1 f3;have d4:=Aa (e5.out _ (List.mem_of_getElem? Z));unfold IdE.own at d4;simp only at d4;rw[<-g0]at d4;replace p0:=Aa p0;replace g0:=Aa g0;replace Z:=Aa Z;have b:(xs==s)=true:=beq_iff_eq.2 y2;replace y2:=Aa y2;go_quiet (fail);obtain⟨W4,p3⟩:=Ab (W3.drewN nq);rw[<-p3];have G:Ext W3 W4:=by rw[p3];exact(Ext.refl W3).drewN _
      replace p3:=Aa p3;obtain⟨W6,x1⟩:=Ab ((W4.alloc (.cells #[.int .i64 (i:Int),.slice yA m yc] 89)).drew);have U:Ext W3 W6:=by rw[x1];exact(G.alloc _).drew
      have k1:=I.out.ext U;have m0:W6.ownsRow w.heap.size 89 2 (.slice xA np xc) np (pcells ps):=by
       have:=k1.each _ (List.mem_of_getElem? Z.out);unfold IdE.own at this;simp only at this;rw[<-g0.out]at this;exact this
      have z4:Cells W6 (some ⟨W4.heap.size,0,none⟩) [.int .i64 (i:Int),.slice yA m yc]:=by rw[x1];exact(AN W4 [.int .i64 (i:Int),.slice yA m yc] _).ext (Ext.refl _).drew
      obtain⟨csg,f1,g6⟩:=Ae k1.own (g:=g) rfl;have i5:=(p0.out W6 U).2;have v5:∀q,(Value.slice xA np xc).ownBlock=some q->q≠g:=fun q b e=>Am m0 f1 (by decide) (by rw[b,e]);have j1:=fun w8 (h0:W6.grownBy w8 (Value.slice xA np xc).ownBlock)=>Row.grown (w:=W6) f1 h0 (fun e=>v5 _ e.symm rfl);have x6:=Aa (fun w8 (h0:W6.grownBy w8 (Value.slice xA np xc).ownBlock)=>show w8.cell? ⟨g,k*2+1,none⟩=some (.slice xA np xc)by rw[<-i5,(j1 w8 h0).get,f1.get]);have g7:=(p0.out W4.drew G.drew).2;have r4:=rp.out.ext G.drew;have r40:=r4.cell 0 rfl;have r41:=r4.cell 1 rfl;have r60:=(rp.out.ext U).cell 0 rfl;have r61:=(rp.out.ext U).cell 1 rfl;rw[x1]at i5 r60 r61;have l3:=t0.out.size;have i2:=U.size;have b6:w.heap.size<=W6.heap.size:=Nat.le_trans l3 i2;have a2:=Aa (fun A1 c1 w8 h0 t3 j3=>k1.put (w1:=w8) (A1:=A1) (c1:=c1) (y:=⟨(i:Int),pos,yA,yc⟩) hP.out Z.out y2.out h0 t3 j3 ⟨z3.out.1.ext U,z3.out.2⟩);have h5:=Aa (d3.out.ext U);have l4:=Aa (t0.out.trans U);replace m0:=Aa m0;replace z4:=Aa z4;replace j1:=Aa j1;replace a2:=Aa a2;replace f1:=Aa f1;replace x1:=Aa x1;clear v5 r4 k1 G U l3 i2;go_wp2_with fail
      go_region_law (rw[<-x1.out];refine OF (n:=np) (m:=1) Pb rfl m0.out z4.out (.tmp 64) (.tmp 66) rfl rfl rfl rfl (Az rfl) (by omega) b6 (fun A1 c1 w8 t3 h0 j3=>?_);have y6:=x6.out w8 h0;have k6:=(j1.out w8 h0).free (k*2+1))
      all_goals
       have a5:w8.ownsRow w.heap.size 89 2 (.slice A1 (ps.length+1) c1) (ps.length+1) (pcells ps ++ [.int .i64 (i:Int),.slice yA pos.length yc]):=by rw[<-g0.out,<-a1.out];exact t3
       have j6:W6.grownBy w8 (Value.slice xA ps.length xc).ownBlock:=by rw[<-g0.out];exact h0
       have t6:(Value.slice A1 (ps.length+1) c1).ownBlock=(Value.slice xA ps.length xc).ownBlock\/∃q,(Value.slice A1 (ps.length+1) c1).ownBlock=some q/\W6.heap.size<=q:=by rw[<-g0.out];exact j3
       have O:=a2.out A1 c1 w8 j6 a5 t6
       try simp only at O
       rw[<-g0.out]at O;have i4:Chg (fun q=>(Value.slice xA np xc).ownBlock=some q\/q=g) W6 (w8.setCell ⟨g,k*2+1,none⟩ (.slice A1 (np+1) c1)):=(Chg.of_grown (S:=fun q=>(Value.slice xA np xc).ownBlock=some q\/q=g) h0 (fun _ _ e=> .inl e)).trans (Chg.of_set (S:=fun q=>(Value.slice xA np xc).ownBlock=some q\/q=g) w8 _ (.inr rfl)) (fun _ _ e=>e);have k2:=h5.out.chg i4 (fun q b=>by
        rcases b with b | rfl
        ·obtain⟨cs,z6,_⟩:=Ae m0.out b;exact⟨_,cs,z6,by decide,by decide⟩
        ·exact⟨_,csg,f1.out,by decide,by decide⟩)
       have v0:=(l4.out.grown h0 (fun q b=>by obtain⟨_,_,hb⟩:=Ae m0.out b;exact hb)).setCell (p:=⟨g,k*2+1,none⟩) g6 (.slice A1 (np+1) c1);rw[show (⟨(i:Int),pos,yA,yc⟩:PoC).po=((i:Int),pos)from rfl,<-i1.out]at O;replace O:=Aa O;replace k2:=Aa k2;replace v0:=Aa v0;clear i4 a5 t3 h0 j3 y6 k6;go_wp2_with fail;go_roundw
       case rel=>exact⟨j+1,n,c,_,_,by go_num,rfl,by omega,O,k2,v0⟩
       case measure=>simp only[intOf];omega
     ·have z5:=Aa (fun x' (h':E[k]? = some x')=>show ¬ x'.s=s from fun e=>q1 ⟨x',h',e⟩);replace q1:=Aa q1
      go_cut [57] from 41 to 57 (fun s57 wy=>s57 = .bool false/\Hid (Ext W3 wy))
      case first =>
       by_cases e3:k<n
       ·obtain⟨x,Z⟩:∃x,E[k]? = some x:=⟨_,List.getElem?_eq_getElem (by rw[<-f0.out];exact e3)⟩
        obtain⟨g,y4⟩:=I.out.start (by omega);subst y4;obtain⟨g',o',o3,p0⟩:=CC (Cells.of_own I.out.own) Z;cases o3;have k5:decide ((k:Int)<n)=true:=decide_eq_true (by omega);obtain⟨y0,y1⟩:=p0 W3 (Ext.refl _);obtain⟨l0,l1⟩:=m2.out W3 (Ext.refl _);have b:(x.s==s)=false:=beq_eq_false_iff_ne.2 (z5.out x Z);rw[Nat.zero_add]at y0 y1;go_quiet (fail);go_wp2_with fail
        go_meet
        case rel=>exact⟨rfl,Aa ((Ext.refl W3).drewN _)⟩
       ·have k5:decide ((k:Int)<n)=false:=decide_eq_false (by omega);go_quiet (fail);go_wp2_with fail
        go_meet
        case rel=>exact⟨rfl,Aa ((Ext.refl W3).drewN _)⟩
      case rest =>
       obtain⟨rfl,G⟩:=hcut;have a6:=Aa (fun(W:World)=>I1 underlying86 (fun W:World=>(by kernel_rfl:(sizeOf 129).run prog W = .ok 2 W)) (n:=n) (c:=c) (k:=k) (A:=B) (by omega) x2.2 (z:=(k:Int)) rfl W);obtain⟨BT,c4,t4,_⟩:=I0 underlying86 (fun W:World=>(by kernel_rfl:(sizeOf 129).run prog W = .ok 2 W)) (n:=n) (c:=c) (k:=k) (A:=B) (by omega) x2.1 x2.2 (z:=(k:Int)) rfl;have t4:=Aa (show Cells W3 BT (idcells (E.drop k))by rw[Jl];exact t4 W3 _ (by rw[Bl,<-f0.out]) (Cells.of_own I.out.own));have p6:=Aa (show Cells W3 B (idcells (E.take k))by rw[Jm];exact CQ (Cells.of_own I.out.own) _);have q5:=Aa (show (idcells (E.take k)).length=k*2 by rw[Bl,List.length_take,<-f0.out];omega);have p5:=Aa (show (idcells (E.drop k)).length=(n - k)*2 by rw[Bl,List.length_drop,<-f0.out]);replace c4:=Aa c4;replace G:=Aa G.out.drew;go_wp2_with fail;refine wp_region_held_drew (S:=fun _=>True) (by kernel_rfl) trivial (fun _=>?_);refine EK (base:=Array.replicate 20 false) (w0:=W3) ⟨by kernel_rfl,of_decide_eq_true (by kernel_rfl),by kernel_rfl,by kernel_rfl⟩ (kRy13 (W3.heap.size) B BT n c k i j m yc gt ot gp (some ⟨gt,ot,none⟩) yA nt ct s (idcells (E.take k)) (idcells (E.drop k))) (FJ ?mono) ?mono0 (fun _=>trivial) ?hstep ?fin _ _ (fun _ _=>False) _ _ (by kernel_rfl) (Nat.le_of_eq (by kernel_rfl)) (fun _ h=>h) ⟨rfl,rfl,fun _ _=>rfl,G.out,fun j h1 h2=>absurd (h1.symm.trans h2) (by simp)⟩ (OwnI.start (fun _ h=>h) ⟨trivial,fun _ h=>h.elim⟩)
       case mono =>
        intro p hp;simp only[List.mem_cons,List.not_mem_nil,or_false]at hp;rcases hp with rfl | rfl | rfl | rfl | rfl | rfl | rfl | rfl | rfl | rfl | rfl | rfl | rfl | rfl | rfl | rfl | rfl | rfl | rfl | rfl <;> first | exact RH _ _ _ | exact RF _ _ _ _ | exact RG _ _ _ _ _ _ _ | exact R6 _ _ _ _ _ | exact R7 _ _ _ _ _ | exact R8 _ _ _ _ _ _ _ _
       case mono0=>exact fun _ _ _ _ _ _ _=>trivial
       case hstep =>
        apply OSteps.all (K:=(kRy13 (W3.heap.size) B BT n c k i j m yc gt ot gp (some ⟨gt,ot,none⟩) yA nt ct s (idcells (E.take k)) (idcells (E.drop k)))) (l:= [0,1,2,3,4,5,6,7,8,9,10,11,12,13,14,15,16,17,18,19]);rotate_left
        ·kernel_rfl
        refine OSteps.cons rfl (fun F a wq H hd=>?_) ?_
        ·exact Nf (C0 (vs:=#[]) rfl (by simp) (QB wq)) rfl (S:=fun q=>q=wq.heap.size) ⟨some ⟨wq.heap.size,0,none⟩,0,rfl,AD (CF wq 129) H.ext.size,fun q=>⟨fun e=>by rw[e];rfl,fun e=>by cases e;rfl⟩⟩ ((Ext.refl wq).alloc _) (fun q e=>⟨by rw[e];simp,by rw[e];exact Nat.le_refl _⟩)
        refine OSteps.cons rfl (fun F a wq H hd=>?_) ?_
        ·exact Aj (Ah (v:= .slice B n c) (.inl rfl) (Af (H.same 3))) rfl ⟨rfl,fun _ h=>h⟩
        refine OSteps.cons rfl (fun F a wq H hd=>?_) ?_
        ·exact Aj (Ah (v:= .int .i64 (k:Int)) (.inl rfl) (Af (H.same 7))) rfl ⟨rfl,fun _ h=>h⟩
        refine OSteps.cons rfl (fun F a wq H hd=>?_) ?_
        ·exact Aj (ET (q:= .slice B n c) (v:= .slice B k c) (l:=none) (h:=some (.int .i64 (k:Int))) (m:=none) rfl (Ac (hd.one 1 71).1.1) rfl (congrArg some (Ac (hd.one 2 72).1.1)) rfl (a6.out wq)) rfl ⟨rfl,fun _ h=>h⟩
        refine OSteps.cons rfl (fun F a wq H hd=>?_) ?_
        ·obtain⟨⟨As,cs,qs,hb,hS⟩,h6⟩:(kO W3.heap.size 129 2 0 []) (a.tmps.getD 70 undef) (F 0) wq/\_:=hd.one 0 70;have qx:a.eval (.tmp 73) = .slice B k c:=(Ac (hd.one 3 73).1.1)
         rw[qs]at hb;refine Q9 Lv rfl hb ((p6.out.ext H.ext)) (.tmp 70) (.tmp 73) rfl qs qx q5.out (F1 _) (by omega) H.ext.size (fun q b=>Em (j:=0) (d:=70) rfl (by kernel_rfl) (by kernel_rfl) (by kernel_rfl) (by kernel_rfl) ((hS q).2 (by rw[qs];exact b))) (fun u S w' hu=>?_);rw[Nat.zero_add,List.nil_append]at hu;exact hu
        refine OSteps.cons rfl (fun F a wq H hd=>?_) ?_
        ·exact Aj (Ah (v:= .slice (some ⟨gt,ot,none⟩) nt ct) (.inl rfl) (Af (H.same 5))) rfl ⟨rfl,fun _ h=>h⟩
        refine OSteps.cons rfl (fun F a wq H hd=>?_) ?_
        ·exact Aj (Ah (v:= .int .i64 (j:Int)) (.inl rfl) (Af (H.same 6))) rfl ⟨rfl,fun _ h=>h⟩
        refine OSteps.cons rfl (fun F a wq H hd=>?_) ?_
        ·exact Aj (DF (q:= .slice (some ⟨gt,ot,none⟩) nt ct) (z:= .int .i64 (j:Int)) (v:= .pointer (some ⟨gt,ot+j*2,none⟩)) rfl (Ac (hd.one 5 75).1.1) (Ac (hd.one 6 76).1.1) (RW wq gt ot nt ct j x5)) rfl ⟨rfl,fun _ h=>h⟩
        refine OSteps.cons rfl (fun F a wq H hd=>?_) ?_
        ·exact Aj (Ao (q:= .pointer (some ⟨gt,ot+j*2,none⟩)) (v:= .pointer (some ⟨gt,ot+j*2,none⟩)) rfl (Ac (hd.one 7 77).1.1) (RV wq gt (ot+j*2))) rfl ⟨rfl,fun _ h=>h⟩
        refine OSteps.cons rfl (fun F a wq H hd=>?_) ?_
        ·exact Aj (AI (q:= .pointer (some ⟨gt,ot+j*2,none⟩)) (v:= .string ⟨s.toArray⟩) rfl (Ac (hd.one 8 78).1.1) (QP (m2.out wq H.ext).1)) rfl ⟨rfl,fun _ h=>h⟩
        refine OSteps.cons rfl (fun F a wq H hd=>?_) ?_
        ·exact Aj (AI (q:= .pointer (some ⟨gp,0,none⟩)) (v:= .agg #[.int .i64 (i:Int),.slice yA m yc]) rfl (Af (H.same 8)) (QO ((rp.out.ext H.ext).cell 0 rfl) ((rp.out.ext H.ext).cell 1 rfl))) rfl ⟨rfl,fun _ h=>h⟩
        refine OSteps.cons rfl (fun F a wq H hd=>?_) ?_
        ·have q80:a.tmps.getD 80 undef = .agg #[.int .i64 (i:Int),.slice yA m yc]:=(hd.one 10 80).1.1;exact Nf (C0 rfl (by simp only[List.map_toArray,List.map_cons,List.map_nil];exact congrArg (fun v=>#[(0,v)]) q80) (O1 wq (i:Int) yA m yc)) rfl (S:=fun q=>q=wq.heap.size) ⟨some ⟨wq.heap.size,0,none⟩,1,rfl,AD (PJ wq (i:Int) yA m yc) H.ext.size,fun q=>⟨fun e=>by rw[e];rfl,fun e=>by cases e;rfl⟩⟩ ((Ext.refl wq).alloc _) (fun q e=>⟨by rw[e];simp,by rw[e];exact Nat.le_refl _⟩)
        refine OSteps.cons rfl (fun F a wq H hd=>?_) ?_
        ·have q79:a.tmps.getD 79 undef = .string ⟨s.toArray⟩:=(hd.one 9 79).1.1;obtain⟨⟨As,cs,qs,hb,hS⟩,p4⟩:(kO W3.heap.size 89 2 1 [.int .i64 (i:Int),.slice yA m yc]) (a.tmps.getD 81 undef) (F 11) wq/\_:=hd.one 11 81;rw[qs]at hb hS;refine Fk (S:=F 11) (Ry rfl (by simp only[List.map_toArray,List.map_cons,List.map_nil];exact congrArg (fun v=>#[v.1,v.2]) (Prod.ext (congrArg (fun v=>(0,v)) q79) (congrArg (fun v=>(1,v)) qs):((0,a.eval (.tmp 79)),(1,a.eval (.tmp 81)))=((0,Value.string ⟨s.toArray⟩),(1,Value.slice As 1 cs)))) (Qy wq ⟨s.toArray⟩ As 1 cs)) rfl ⟨As,cs,rfl,hb,hS⟩ (Ext.refl _) (fun q b=> .inr ⟨(p4 q b).2,Em (j:=11) (d:=81) rfl (by kernel_rfl) (by kernel_rfl) (by kernel_rfl) (by kernel_rfl) b⟩)
        refine OSteps.cons rfl (fun F a wq H hd=>?_) ?_
        ·obtain⟨⟨Ax,cx,qs,hb,hS⟩,k4⟩:(kR1 W3.heap.size s [.int .i64 (i:Int),.slice yA m yc]) (a.tmps.getD 82 undef) (F 12) wq/\_:=hd.one 12 82;refine Fk (S:=fun q=>q=wq.heap.size\/(Value.slice Ax 1 cx).ownBlock=some q) (C0 rfl (by simp only[List.map_toArray,List.map_cons,List.map_nil];exact congrArg (fun v=>#[(0,v)]) qs) (QC wq ⟨s.toArray⟩ Ax 1 cx)) rfl ⟨wq.heap.size,Ax,cx,rfl,AN wq [.string ⟨s.toArray⟩,.slice Ax 1 cx] _,((Ext.refl wq).alloc _).owns hb,fun q=>Iff.rfl⟩ ((Ext.refl wq).alloc _) (fun q b=>?_);rcases b with b | b
         ·exact .inl ⟨by rw[b];simp,by rw[b];exact Nat.le_refl _⟩
         ·exact .inr ⟨(k4 q ((hS q).2 b)).2,Em (j:=12) (d:=82) rfl (by kernel_rfl) (by kernel_rfl) (by kernel_rfl) (by kernel_rfl) ((hS q).2 b)⟩
        refine OSteps.cons rfl (fun F a wq H hd=>?_) ?_
        ·obtain⟨⟨As,cs,qs,hb,hS⟩,q6⟩:(kO W3.heap.size 129 2 k (idcells (E.take k))) (a.tmps.getD 74 undef) (F 4) wq/\_:=hd.one 4 74;obtain⟨⟨gx,Ax,cx,qx,hc,Z,r5⟩,j4⟩:(kR2 W3.heap.size s [.int .i64 (i:Int),.slice yA m yc]) (a.tmps.getD 83 undef) (F 13) wq/\_:=hd.one 13 83;rw[qs]at hb hS;refine Mu Lv rfl hb hc (.tmp 74) (.tmp 83) rfl qs qx rfl (Az rfl) (by omega) H.ext.size (fun q b=>Em (j:=4) (d:=74) rfl (by kernel_rfl) (by kernel_rfl) (by kernel_rfl) (by kernel_rfl) ((hS q).2 b)) (fun A1 c1 w' ho hg h4=>?_);refine⟨fun q=>(Value.slice A1 (k+1) c1).ownBlock=some q\/(Value.slice Ax 1 cx).ownBlock=some q,⟨A1,c1,Ax,cx,rfl,by rw[List.append_nil];exact ho,(Chg.of_grown (S:=fun q=>(Value.slice As k cs).ownBlock=some q) hg (fun _ _ e=>e)).owns Z (fun q b e=>?_),fun q=>Iff.rfl⟩,fun q b=>?_⟩
         ·obtain⟨cu,hr,_⟩:=Ae hb e;exact Am Z hr (by decide) b
         ·rcases b with b | b
          ·refine⟨by obtain⟨cu,hr,_⟩:=Ae ho b;exact hr.lt,?_⟩;rcases h4 with h4 | h4
           ·exact .inr (Em (j:=4) (d:=74) rfl (by kernel_rfl) (by kernel_rfl) (by kernel_rfl) (by kernel_rfl) ((hS q).2 (by rw[<-h4];exact b)))
           ·rw[h4]at b;cases b;exact .inl (Nat.le_refl _)
          ·have f2:=(r5 q).2 (.inr b);exact⟨Nat.lt_of_lt_of_le (j4 q f2).2 hg.size,.inr (Em (j:=13) (d:=83) rfl (by kernel_rfl) (by kernel_rfl) (by kernel_rfl) (by kernel_rfl) f2)⟩
        refine OSteps.cons rfl (fun F a wq H hd=>?_) ?_
        ·exact Aj (Ah (v:= .slice B n c) (.inl rfl) (Af (H.same 3))) rfl ⟨rfl,fun _ h=>h⟩
        refine OSteps.cons rfl (fun F a wq H hd=>?_) ?_
        ·exact Aj (Ah (v:= .int .i64 (k:Int)) (.inl rfl) (Af (H.same 7))) rfl ⟨rfl,fun _ h=>h⟩
        refine OSteps.cons rfl (fun F a wq H hd=>?_) ?_
        ·exact Aj (ET (q:= .slice B n c) (v:= .slice BT (n - k) (c - k)) (l:=some (.int .i64 (k:Int))) (h:=none) (m:=none) rfl (Ac (hd.one 15 85).1.1) (congrArg some (Ac (hd.one 16 86).1.1)) rfl rfl (c4.out wq)) rfl ⟨rfl,fun _ h=>h⟩
        refine OSteps.cons rfl (fun F a wq H hd=>?_) ?_
        ·obtain⟨⟨As,cs,Ax,cx,qs,hb,Z,hS⟩,g4⟩:(kR3 W3.heap.size (k+1) s [.int .i64 (i:Int),.slice yA m yc] (idcells (E.take k)) []) (a.tmps.getD 84 undef) (F 14) wq/\_:=hd.one 14 84;have qx:a.eval (.tmp 87) = .slice BT (n - k) (c - k):=(Ac (hd.one 17 87).1.1)
         refine Mu Lv rfl hb (t4.out.ext H.ext) (.tmp 84) (.tmp 87) rfl qs qx p5.out (F1 _) (by omega) H.ext.size (fun q b=>Em (j:=14) (d:=84) rfl (by kernel_rfl) (by kernel_rfl) (by kernel_rfl) (by kernel_rfl) ((hS q).2 (.inl b))) (fun A1 c1 w' ho hg h4=>?_);have v6:k+1+(n - k)=n+1:=by omega
         rw[v6]at ho h4 ⊢;rw[List.append_nil]at ho;refine⟨fun q=>(Value.slice A1 (n+1) c1).ownBlock=some q\/(Value.slice Ax 1 cx).ownBlock=some q,⟨A1,c1,Ax,cx,rfl,ho,(Chg.of_grown (S:=fun q=>(Value.slice As (k+1) cs).ownBlock=some q) hg (fun _ _ e=>e)).owns Z (fun q b e=>?_),fun q=>Iff.rfl⟩,fun q b=>?_⟩
         ·obtain⟨cu,hr,_⟩:=Ae hb e;exact Am Z hr (by decide) b
         ·rcases b with b | b
          ·refine⟨by obtain⟨cu,hr,_⟩:=Ae ho b;exact hr.lt,?_⟩;rcases h4 with h4 | h4
           ·exact .inr (Em (j:=14) (d:=84) rfl (by kernel_rfl) (by kernel_rfl) (by kernel_rfl) (by kernel_rfl) ((hS q).2 (.inl (by rw[<-h4];exact b))))
           ·rw[h4]at b;cases b;exact .inl (Nat.le_refl _)
          ·have f2:=(hS q).2 (.inr b);exact⟨Nat.lt_of_lt_of_le (g4 q f2).2 hg.size,.inr (Em (j:=14) (d:=84) rfl (by kernel_rfl) (by kernel_rfl) (by kernel_rfl) (by kernel_rfl) f2)⟩
        refine OSteps.cons rfl (fun F a wq H hd=>?_) ?_
        ·obtain⟨⟨As,cs,Ax,cx,qs,hb,Z,hS⟩,m4⟩:(kR3 W3.heap.size (n+1) s [.int .i64 (i:Int),.slice yA m yc] (idcells (E.take k)) (idcells (E.drop k))) (a.tmps.getD 88 undef) (F 18) wq/\_:=hd.one 18 88;exact Fk (S:=F 18) (Ah (.inr rfl) qs) rfl ⟨As,cs,Ax,cx,rfl,hb,Z,hS⟩ (Ext.refl _) (fun q b=> .inr ⟨(m4 q b).2,Em (j:=18) (d:=88) rfl (by kernel_rfl) (by kernel_rfl) (by kernel_rfl) (by kernel_rfl) b⟩)
        exact OSteps.nil
       case fin =>
        intro F a w9 H hh;obtain⟨⟨A9,c9,Ax,cx,q9,q4,a3,w6⟩,i6⟩:(kR3 W3.heap.size (n+1) s [.int .i64 (i:Int),.slice yA m yc] (idcells (E.take k)) (idcells (E.drop k))) (a.tmps.getD 3 undef) (F 19) w9/\_:=hh 19 3 (by kernel_rfl) (by kernel_rfl) (by kernel_rfl);have o0:=H.act [70,71,72,73,74,75,76,77,78,79,80,81,82,83,84,85,86,87,88,3] (by kernel_rfl);have v0:=Aa H.ext;simp only[List.foldl_cons,List.foldl_nil]at o0;rw[q9]at o0;replace q4:=Aa q4;replace a3:=Aa a3;clear H hh q9;obtain⟨fv,m5⟩:∃f:Nat->Value,∀d,a.tmps.getD d undef=f d:=⟨_,fun _=>rfl⟩
        simp only[m5]at o0;clear m5;subst o0;simp only[Bv,Bw,By];have O:=I.out.ins (w1:=w9) (s:=s) (k:=k) hP.out z5.out (y:=⟨(i:Int),pos,yA,yc⟩) (A1:=A9) (c1:=c9) (Ax:=Ax) (cx:=cx) v0.out (AD q4.out t0.out.size) (by show w9.ownsRow _ _ _ _ _ [.int .i64 (i:Int),.slice yA pos.length yc];rw[<-a1.out];exact AD a3.out t0.out.size) (fun a H=>by obtain⟨_,_,hb⟩:=Ae a3.out (g:=a.block) (by rw[H];rfl);exact hb) ⟨z3.out.1.ext v0.out,z3.out.2⟩;rw[show (⟨(i:Int),pos,yA,yc⟩:PoC).po=((i:Int),pos)from rfl,<-i1.out]at O;replace O:=Aa O;have k2:=Aa (d3.out.ext v0.out);have n4:=Aa (t0.out.trans v0.out);go_wp2_with fail;go_roundw
        case rel=>exact⟨j+1,_,c9,A9,_,by go_num,rfl,by omega,O,k2,n4⟩
        case measure=>simp only[intOf];omega
    ·obtain rfl:j=nt:=by omega
     have d5:T.take j=T:=List.take_of_length_le (by rw[m3.out];exact Nat.le_refl _);have Y:=J.out;rw[d5,<-d1.out]at Y;have j0:=Aa hE.out;replace Y:=Aa Y;clear d5 J hE;go_wp2_with fail;go_roundw
     case rel=>exact⟨i+1,n,c,B,E,by go_num,rfl,by omega,Y,j0⟩
     case measure=>simp only[intOf];omega
  ·obtain rfl:i=nd:=by omega
   have Y:=J.out;rw[List.take_of_length_le (by rw[<-hm.out];exact Nat.le_refl _)]at Y;replace Y:=Aa Y;clear J;go_wp2_with fail;go_ret;exact⟨E0,B0,n0,cc0,rfl,Y.out,hE.out⟩
end
section
open Go.RowKit Go.Maps
theorem Mp (ds:List DocC) (A:Option Addr) (m c:Nat) (w:World) (hm:m=ds.length) (h:DocsOk w A ds) (m1:m<=1000000) :
 Calls prog 67 #[.slice A m c] w fun e w'=>NewB w (timesD 0 (dcs ds)) e w':=by
 have f0:=Aa (fun x W (h1 : -9223372036854775808<=x) (h2:x<=9223372036854775807)=>Hh x W h1 h2);have k0:∀i,(timesD 0 (dcs (ds.take i))).length<=10*i:=fun i=>by
  have:=Dx (dcs (ds.take i)) 0;have h2:(dcs (ds.take i)).length<=i:=by unfold dcs;rw[List.length_map,List.length_take];omega
  omega
 replace k0:=Aa k0;replace h:=Aa h;replace hm:=Aa hm
 go_in
 go_wp2_with fail
 go_loopw [3,4,5] (fun s3 s4 s5 wr=>∃(i n:Nat) (B:Option Addr) (k:Nat) (a:Int),s5 = .int .i64 (i:Int)/\s3 = .slice B n k/\s4 = .int .i64 a/\i<=m/\n<=10*i/\Hid (a=lastAt 0 (dcs (ds.take i)))/\Hid (n=(timesD 0 (dcs (ds.take i))).length)/\Hid (Buf wr w.heap.size 5 B n k ((timesD 0 (dcs (ds.take i))).map B8))/\Hid (Ext w wr)) (fun _ _ s5 _=>m - (intOf s5).toNat)
 case atStart=>exact⟨0,0,none,0,0,rfl,rfl,rfl,by omega,by omega,Aa rfl,Aa rfl,Aa (Buf.nil _ _ _),Aa (Ext.refl _)⟩
 case round =>
  obtain⟨i,n,B,k,a,rfl,rfl,rfl,hi,x1,ha,hn,hb,hE⟩:=hrel;by_cases him:i<m
  ·obtain⟨x,hx⟩:∃x,ds[i]? = some x:=⟨_,List.getElem?_eq_getElem (by rw[<-hm.out];exact him)⟩
   obtain⟨g,o,hA,l0,l1,l2⟩:=AR h.out.cells hx;have b:∀W,Ext w W->W.cell? ⟨g,o+i*3+1,none⟩=some (.int .i64 x.e.at_):=fun W v0=>v0.cell l1;have r0:=(h.out.each x (List.mem_of_getElem? hx)).2.1;have h0:dcs (ds.take (i+1))=dcs (ds.take i) ++ [x.dc]:=by
    rw[List.take_add_one,hx];exact BJ _ _
   have H:timesD 0 (dcs (ds.take (i+1)))=timesD 0 (dcs (ds.take i))++vb (zig (wrap64 (x.e.at_ - a))):=by
    rw[h0,EI,<-ha.out];show _++(_ ++ [])=_;rw[List.append_nil];rfl
   have U:lastAt 0 (dcs (ds.take (i+1)))=x.e.at_:=by rw[h0,Ez];rfl
   have j:=Fw (x.e.at_ - a);have hv:=Ag (CM j.1 j.2);obtain⟨at_,Z⟩:=Ab x.e.at_;rw[<-Z]at l1 b H U j hv;have I:=f0.out (wrap64 (at_ - a)) wr j.1 j.2;obtain⟨V,hV⟩:=Ab (vb (zig (wrap64 (at_ - a))));rw[<-hV]at I H hv;obtain⟨nv,J⟩:=Ab V.length;unfold NewB at I;rw[<-J]at I hv;have y0:(V.map B8).length=nv:=by rw[List.length_map,J]
   subst hA;replace I:=Aa I;replace H:=Aa H;replace U:=Aa U;replace b:=Aa b;replace hV:=Aa hV;replace J:=Aa J;replace Z:=Aa Z;replace j:=Aa j;clear hx h0 l0 l1 l2 ha r0;have l1:=b.out wr hE.out;go_wp2_with fail;refine I.out.mono ?_;rintro e w2 ⟨A2,c2,rfl,p0,T⟩;have c0:=hb.out.ext T;have d0:=p0.cells;have Y:=Aa (hE.out.trans T);have i0:=Y.out.size;have l1:=b.out w2 Y.out;clear T p0 I;go_wp2_with (at_builtin;refine Al Aw c0 d0 (.tmp 12) (.tmp 21) rfl rfl rfl rfl rfl y0 (Ai _) (by omega) i0 (fun B6 d6 w6 G e0 q0 m0=>?_);replace G:=Aa G;have O:=q0 w Y.out (Nat.le_refl _);have l1:=b.out w6 O;clear e0 q0 m0);refine⟨⟨i+1,n+nv,B6,d6,at_,by go_num,rfl,rfl,by omega,by omega,Aa U.out.symm,Aa (by rw[H.out,List.length_append,<-hn.out,<-J.out]),Aa (by rw[H.out,List.map_append];exact G.out),Aa O⟩,by simp only[intOf];omega⟩
  ·obtain rfl:i=m:=by omega
   have n0:ds.take i=ds:=List.take_of_length_le (by rw[<-hm.out];exact Nat.le_refl _);rw[n0]at hn hb;go_wp2_with fail;go_ret;have hl:=hn.out;subst hl;exact⟨B,k,rfl,hb.out,hE.out⟩
end
end Go.Proofs.YtfifdilapbeiiaaGreat
