/- Texts of one proof, joined. -/
import Derived.Test.YtfifdilapbeiiaaGreatPO10
import Derived.Lib.SliceRun
import Derived.Deep.RegionLaw
set_option linter.unusedSimpArgs false
set_option linter.unusedVariables false
set_option maxRecDepth 100000
set_option maxHeartbeats 16000000
namespace Go.Proofs.YtfifdilapbeiiaaGreat
open _root_.Go.Proofs.Tryz
variable {d fl z:Int} {bs:List (List UInt8)} {l l1 l2 l3:List UInt8} {xs:List Value} {c c1 c2 c3 fr g i k m n n1 n2 n3:Nat} {S:Nat → Prop} {A A' A1 A2 A3:Option Addr} {e:TypeId} {w w' w1 w3 w8:World}
section
open Go.RowKit Go.Maps
theorem Uh (A B:Option Addr) (n c c2:Nat) (xs:List Int) (w:World) (hn:n=xs.length) (J:Cells w A (xs.map IV)) (U:Cells w B (xs.map IV)) (O:n<=9223372036854775807) :
 Calls prog 16 #[.slice A n c,.slice B n c2] w fun e w'=>e = .returned (.bool true)/\Ext w w':=by
 replace hn:=Aa hn
 go_in
 go_wp2_with fail
 go_loopw [5] (fun s5 wr=>∃i:Nat,s5 = .int .i64 i/\i<=n/\Ext w wr) (fun s5 _=>n - (intOf s5).toNat)
 case atStart=>exact⟨0,rfl,by omega,Ext.refl _⟩
 case round =>
  obtain⟨i,rfl,hi,b⟩:=hrel;by_cases a:i<n
  ·have Y:i<xs.length:=by rw[<-hn.out];exact a
   obtain⟨g,o,rfl,H⟩:=J.at_ (by rw[List.length_map];omega);obtain⟨g2,o2,rfl,j⟩:=U.at_ (by rw[List.length_map];omega);obtain⟨x,h⟩:=Ab (xs[i]);have k1:wr.cell? ⟨g,o+i,none⟩=some (.int .i64 x):=b.cell (H i _ (by rw[List.getElem?_map,List.getElem?_eq_getElem Y,h];rfl));have k2:wr.cell? ⟨g2,o2+i,none⟩=some (.int .i64 x):=b.cell (j i _ (by rw[List.getElem?_map,List.getElem?_eq_getElem Y,h];rfl));clear H j;replace h:=Aa h;go_wp2_with fail;refine AE (fun K T=>?_);go_wp2_with fail;refine⟨by kernel_rfl,?_⟩;go_wp2_with fail;go_roundw
   case rel=>exact⟨i+1,by go_num,by omega,b.drew⟩
   case measure=>simp[intOf];omega
  ·go_wp2_with fail;go_ret;exact⟨rfl,b⟩
def opensD (bs:List (List UInt8)):Option (List (List Dc)):=if bs.all (fun b=>(openD b).isSome)=true then some (bs.filterMap openD) else none
def fstD:List Dc->Int
 | []=>0
 | d::_=>d.1
def chainD:Int->List (List Dc)->Bool
 | _,[]=>true
 | la,P::t=>decide (la<fstD P)&&chainD (lastD 0 P) t
def mergeD (bs:List (List UInt8)):Option (List (List Dc)):=match opensD bs with
 | some Ps=>if 0<Ps.length/\chainD 0 Ps=true then some Ps else none
 | none=>none
theorem Tf {b:List UInt8} (h:bs[i]? = some b) (a:openD b=none):opensD bs=none:=by
 unfold opensD;rw[if_neg];intro j;have:=List.all_eq_true.1 j b (List.mem_of_getElem? h);rw[a]at this;cases this
theorem T3 {b:List UInt8} {P:List Dc} (h:bs[i]? = some b) (j:openD b=some P):(bs.take (i+1)).filterMap openD=(bs.take i).filterMap openD ++ [P]:=by
 rw[List.take_add_one,h,List.filterMap_append];congr 1;show List.filterMap openD [b]=_;rw[List.filterMap_cons,j];rfl
theorem Td {Ps:List (List Dc)} {P:List Dc} (h:Ps[i]? = some P) (la:Int):chainD la (Ps.drop i)=(decide (la<fstD P)&&chainD (lastD 0 P) (Ps.drop (i+1))):=by
 obtain⟨hi,rfl⟩:=List.getElem?_eq_some_iff.1 h;rw[List.drop_eq_getElem_cons hi];rfl
theorem Tr {P:List Dc} (h:0<P.length):∃lo hi n,partD P = [lo,hi,fstD P,lastD 0 P,n]:=by
 cases P with
 | nil=>cases h
 | cons d t=>exact⟨_,_,_,rfl⟩
end
section
open Go.RowKit Go.Maps
structure BsC where
  b:List UInt8
  A:Option Addr
  c:Nat
def BsC.val (x:BsC):Value:= .slice x.A x.b.length x.c
def In8e (w:World) (A:Option Addr) (n c:Nat) (b:List UInt8):Prop:=In8 w A n c b\/(b = []/\n=0/\c=0)
theorem In8e.ext {b:List UInt8} (h:In8e w A n c b) (j:Ext w w'):In8e w' A n c b:=h.imp (·.ext j) id
def OpnB (b:List UInt8):Prop:=b.length<=1000000000/\∀Q,(splitF (b.drop 4)).2=0->decDs ((splitF (b.drop 4)).1.headD [])=some Q->(blockD 0 Q).length<=70000
theorem OpnB.few {b:List UInt8} (h:b.length<=60000):OpnB b:=⟨by omega,fun Q _ j=>NJ h Q j⟩
theorem OpnB.seg {b:List UInt8} {P:List Dc} (h:OpnB b) (j:openD b=some P):SegP P:=by
 obtain⟨h1,_,a⟩:=SB j;refine⟨⟨a,?_⟩,h1⟩;unfold openD at j;split at j
 ·split at j
  ·rename_i Y;split at j
   ·rename_i Q H;split at j
    ·injection j with j;rw[<-j];exact h.2 Q Y.1 H
    ·cases j
   ·cases j
  ·cases j
 ·cases j
structure BssR (w:World) (A:Option Addr) (l:List BsC):Prop where
  cells:Cells w A (l.map BsC.val)
  each:∀x∈l,In8e w x.A x.b.length x.c x.b/\OpnB x.b
theorem BssR.ext {l:List BsC} (h:BssR w A l) (j:Ext w w'):BssR w' A l:=⟨h.cells.ext j,fun x b=>⟨(h.each x b).1.ext j,(h.each x b).2⟩⟩
theorem SegRB.ext {base:Nat} {P:List Dc} (h:SegRB base w g P) (j:Ext w w1):SegRB base w1 g P:=by
 obtain⟨ds,A,c,lo,hi,fi,la,B,cB,gd,gf,h1,h2,b,a,H,Y,J⟩:=h;exact⟨ds,A,c,lo,hi,fi,la,B,cB,gd,gf,h1.ext j,h2,b,a.ext j,H.ext j,Y.ext j,J.ext j⟩
theorem SegRB.low {base:Nat} {P:List Dc} (h:SegRB base w g P):SegRB 0 w g P:=by
 obtain⟨ds,A,c,lo,hi,fi,la,B,cB,gd,gf,h1,h2,j,b,a,H,Y⟩:=h;exact⟨ds,A,c,lo,hi,fi,la,B,cB,gd,gf,h1,h2,j,b.lower (Nat.zero_le _),a.lower (Nat.zero_le _),H.lower (Nat.zero_le _),Y.lower (Nat.zero_le _)⟩
theorem SegRB.unl {base:Nat} {P:List Dc} (h:SegRB base w g P) (H:Chg S w w1) (J:∀k,S k->∃cs,Row w k 56 cs):SegRB base w1 g P:=by
 obtain⟨ds,A,c,lo,hi,fi,la,B,cB,gd,gf,h1,h2,O,T,Z,U,b,cf,cc,f1,f2,f3,f4⟩:=h;have j:∀ {k t cs},Row w k t cs->t≠56->¬ S k:=fun hk ht e=>by
  obtain⟨_,Y⟩:=J _ e;exact Row.unlike hk Y ht rfl
 refine⟨ds,A,c,lo,hi,fi,la,B,cB,gd,gf,H.row h1 (j h1 (by decide)),h2,O,T.chg H (fun k t cs hk ht _=>j hk (by rcases ht with rfl | rfl <;> decide)),Z.chg H (fun k e=>?_),U.chg H (fun a G e=>?_),b,cf,cc,H.row f1 (j f1 (by decide)),f2,H.row f3 (j f3 (by decide)),f4⟩
 ·obtain⟨cs,Y⟩:=J k e;exact⟨_,cs,Y,by decide,by decide⟩
 ·obtain⟨cs,Y⟩:=J _ e;exact U.unlike Y (by decide) a G rfl
abbrev Sg:=Nat×List Dc
def Sg.val (x:Sg):Value:= .pointer (some ⟨x.1,0,none⟩)
def SgsR (w:World) (A:Option Addr) (l:List Sg):Prop:=Cells w A (l.map Sg.val)/\∀x∈l,SegR w x.1 x.2/\SegP x.2
theorem SgsR.ext {l:List Sg} (h:SgsR w A l) (j:Ext w w'):SgsR w' A l:=⟨h.1.ext j,fun x b=>⟨(h.2 x b).1.ext j,(h.2 x b).2⟩⟩
theorem TD (W:World):(Instr.sliceAt 24 (.slice A 0 0) none (some (.int .i64 0)) none).run prog W = .ok (.slice A 0 0) W:=by
 have ht:=underlying24;have h:prog.elem 24=5:=by unfold Program.elem;rw[ht]
 have hs:∀W:World,(sizeOf 5).run prog W = .ok 1 W:=fun W=>by kernel_rfl
 rw[run_sliceAt_slice W _ _ _ _ _ (by rw[ht,h]),run_slice_h W _ A 0 0 (by rw[ht,h]) .i64 0 (by omega) (by omega),h,hs];rfl
theorem TC (A:Option Addr) (w:World):Calls prog 24 #[.slice A 0 0] w fun e w'=>SegOB w [] e w':=by
 have j:=fun(W:World)=>AQ (P:=prog) #[3,3] 3 (x:=0) (y:=4) (m:=0) rfl W;have a:=fun W=>TD (A:=A) W;have b:=fun(W:World)=>CT (A:=A) (l:= []) (w:=W) (.inl rfl) 0 0 rfl;have h:=Tryz.strings_HasPrefix ⟨#[]⟩ ⟨#[76,83,69,71]⟩ w;replace h:=Aa h
 go_in
 go_wp2_with fail;refine h.out.mono ?_;rintro e w1 ⟨rfl,rfl⟩;go_wp2_with fail;go_ret2;exact SegOB.no (Ext.refl _) rfl
theorem TE (A:Option Addr) (n c:Nat) (b:List UInt8) (w:World) (h:In8e w A n c b) (j:OpnB b):Calls prog 24 #[.slice A n c] w fun e w'=>SegOB w b e w':=by
 rcases h with h | ⟨rfl,rfl,rfl⟩
 ·exact Ff A n c b w h (by have:=h.len;have:=j.1;omega) j.2
 ·exact TC A w
def EachA (w:World) (r:Option (List (List Dc))) (e:Ending) (w':World):Prop:=Ext w w'/\match r with
 | some Ps=>∃(l:List Sg) (A:Option Addr) (n c:Nat),l.map (·.2)=Ps/\n=l.length/\e = .returned (.tuple #[.slice A n c,.bool (decide (0<n))])/\SgsR w' A l
 | none=>e = .returned (.tuple #[.slice none 0 0,.bool false])
theorem EachA.no {r:Option (List (List Dc))} (j:Ext w w') (h:r=none):EachA w r (.returned (.tuple #[.slice none 0 0,.bool false])) w':=by subst h;exact⟨j,rfl⟩
theorem Tw:Elem prog 62 56 1 8:=⟨underlying62,⟨_,_,rfl,rfl,rfl,rfl,rfl⟩,by omega,by omega⟩
theorem Tk (bs:List BsC) (A:Option Addr) (n c:Nat) (w:World) (hn:n=bs.length) (h:BssR w A bs) (q1:n<=1000000) :
 Calls prog 69 #[.slice A n c,.func (.func 24) #[] #[]] w (EachA w (opensD (bs.map BsC.b))):=by
 obtain⟨Z,hZ⟩:=Ab (opensD (bs.map BsC.b));rw[<-hZ];replace hZ:=Aa hZ;have e0:=Aa TE;replace hn:=Aa hn;replace h:=Aa h
 go_in
 go_wp2_with fail
 go_loopw [6,13] (fun s6 s13 wr=>∃(i d:Nat) (B:Option Addr) (l:List Sg),s6 = .slice B i d/\s13 = .int .i64 (i:Int)/\i<=n/\Hid (l.length=i)/\Hid (((bs.map BsC.b).take i).all (fun b=>(openD b).isSome)=true/\l.map (·.2)=((bs.map BsC.b).take i).filterMap openD)/\Hid (wr.ownsRow w.heap.size 56 1 (.slice B i d) i (l.map Sg.val))/\Hid (∀x∈l,SegRB 0 wr x.1 x.2/\SegP x.2)/\Hid (Ext w wr)) (fun _ s13 _=>n - (intOf s13).toNat)
 case atStart=>exact⟨0,0,none,[],rfl,rfl,by omega,Aa rfl,Aa ⟨rfl,rfl⟩,Aa ⟨rfl,.inl ⟨rfl,rfl⟩⟩,Aa nofun,Aa (Ext.refl _)⟩
 case round =>
  obtain⟨i,d,B,l,rfl,rfl,hi,hl,J,ho,hs,hE⟩:=hrel;by_cases c0:i<n
  ·obtain⟨x,a⟩:∃x,bs[i]? = some x:=⟨_,List.getElem?_eq_getElem (by rw[<-hn.out];exact c0)⟩
   obtain⟨v0,U⟩:=h.out.each x (List.mem_of_getElem? a);obtain⟨g,o,rfl,hc⟩:=(h.out.cells.ext hE.out).at_ (by rw[List.length_map,<-hn.out];omega);have k0:=hc i x.val (by rw[List.getElem?_map,a];rfl);have Y:(bs.map BsC.b)[i]? = some x.b:=by rw[List.getElem?_map,a];rfl
   have H:=e0.out x.A x.b.length x.c x.b wr (v0.ext hE.out) U;unfold BsC.val at k0;obtain⟨xb,xA,xc⟩:=x;simp only at k0 H Y U;obtain⟨xn,g0⟩:=Ab xb.length;rw[<-g0]at k0 H;replace U:=Aa U;replace H:=Aa H;replace Y:=Aa Y;replace g0:=Aa g0;clear hc a v0;cases O:openD xb with
   | none =>
    have hz:=Aa (Tf Y.out O);replace O:=Aa O;go_wp2_with fail;refine(H.out).mono ?_;rintro e w4 ⟨j,G⟩;rw[O.out]at G;simp only at G;subst G;go_wp2_with fail;go_ret2;exact EachA.no (hE.out.trans j) (by rw[hZ.out,hz.out])
   | some P =>
    have hP:=Aa (U.out.seg O);have h0:=T3 Y.out O;have I:((bs.map BsC.b).take (i+1)).all (fun b=>(openD b).isSome)=true:=by rw[List.take_add_one,Y.out,List.all_append,J.out.1];show (openD xb).isSome&&true=true;rw[O];rfl
    replace O:=Aa O;replace h0:=Aa h0;replace I:=Aa I;go_wp2_with fail;refine(H.out).mono ?_;rintro e w4 ⟨j,G⟩;rw[O.out]at G;obtain⟨g4,rfl,j0⟩:=G;have q0:=Aa (j.owns ho.out);have i0:w.heap.size<=w4.heap.size:=(hE.out.trans j).size;replace j0:=Aa j0;replace j:=Aa j;go_wp2_with (at_builtin;refine AS (us:= [.pointer (some ⟨g4,0,none⟩)]) (m:=1) Tw q0.out rfl (.tmp 25) (.tmp 27) rfl rfl rfl rfl rfl (Az rfl) (by omega) i0 (fun A8 c8 w8 p0 T d0=>?_);replace p0:=Aa p0;replace T:=Aa T;clear d0);have x0:Ext w w8:=(hE.out.trans j.out).grown T.out fun k hk=>by obtain⟨_,_,hb⟩:=Ae q0.out hk;exact hb
    have f0:∀x∈l ++ [(g4,P)],SegRB 0 w8 x.1 x.2/\SegP x.2:=fun x a=>by
     have hk:∀k,(Value.slice B i d).ownBlock=some k->∃cs,Row w4 k 56 cs:=fun k hk=>by obtain⟨cs,G,_⟩:=Ae q0.out hk;exact⟨cs,G⟩
     have hC:Chg (fun k=>(Value.slice B i d).ownBlock=some k) w4 w8:=Chg.of_grown T.out fun _ _ h=>h;rcases List.mem_append.1 a with a | a
     ·exact⟨((hs.out x a).1.ext j.out).unl hC hk,(hs.out x a).2⟩
     ·rw[List.mem_singleton.1 a];exact⟨j0.out.low.unl hC hk,hP.out⟩
    go_roundw
    case rel=>exact⟨i+1,c8,A8,l ++ [(g4,P)],rfl,by go_num,by omega,Aa (by rw[List.length_append,hl.out];rfl),Aa ⟨I.out,by rw[List.map_append,J.out.2,h0.out];rfl⟩,Aa (by rw[List.map_append];exact p0.out),Aa f0,Aa x0⟩
    case measure=>simp only[intOf];omega
  ·have b0:(bs.map BsC.b).take i=bs.map BsC.b:=List.take_of_length_le (by rw[List.length_map,<-hn.out];omega);have ha:=J.out;rw[b0]at ha;go_wp2_with fail;go_ret2;refine⟨hE.out,?_⟩;rw[hZ.out];unfold opensD;rw[if_pos ha.1];exact⟨l,B,i,d,ha.2,hl.out.symm,by congr 3,Cells.of_own ho.out,fun x a=>⟨(hs.out x a).1.seg,(hs.out x a).2⟩⟩
def OpA (w:World) (r:Option (List (List Dc))) (e:Ending) (w':World):Prop:=Ext w w'/\match r with
 | some Ps=>∃(l:List Sg) (A:Option Addr) (n c:Nat),l.map (·.2)=Ps/\n=l.length/\e = .returned (.tuple #[.slice A n c,.int .i64 0])/\SgsR w' A l
 | none=>e = .returned (.tuple #[.slice none 0 0,.int .i64 330])
theorem OpA.no {r:Option (List (List Dc))} (j:Ext w w') (h:r=none):OpA w r (.returned (.tuple #[.slice none 0 0,.int .i64 330])) w':=by subst h;exact⟨j,rfl⟩
theorem TJ {Ps:List (List Dc)} (h:opensD bs=some Ps):Ps.length<=bs.length:=by
 unfold opensD at h;split at h
 ·injection h with h;rw[<-h];exact List.length_filterMap_le ..
 ·cases h
theorem S7 (bs:List BsC) (A:Option Addr) (n c:Nat) (w:World) (hn:n=bs.length) (h:BssR w A bs) (d0:n<=1000000) :
 Calls prog 27 #[.slice A n c] w (OpA w (mergeD (bs.map BsC.b))):=by
 obtain⟨Z,U⟩:=Ab (mergeD (bs.map BsC.b));rw[<-U];unfold mergeD at U;have I:=Aa (Tk bs A n c w hn h d0);have hlen:∀Ps,opensD (bs.map BsC.b)=some Ps->Ps.length<=1000000:=fun Ps hp=>by
  have:=TJ hp;rw[List.length_map,<-hn]at this;omega
 obtain⟨O,hO⟩:=Ab (opensD (bs.map BsC.b));rw[<-hO]at I U hlen;replace hlen:=Aa hlen;replace U:=Aa U;clear h hn hO
 go_in
 go_wp2_with fail;refine I.out.mono ?_;rintro e w1 ⟨H,hr⟩;clear I;cases O with
 | none =>
  simp only at hr;subst hr;go_wp2_with fail;go_ret2;exact OpA.no H U.out
 | some Ps =>
  obtain⟨l,B,k,d,hl,hk,rfl,hs⟩:=hr;have Y:Ps.length=k:=by rw[<-hl,hk,List.length_map]
  have l0:k<=1000000:=by rw[<-Y];exact hlen.out _ rfl
  by_cases h0:0<k
  ·have hd:decide (0<k)=true:=decide_eq_true h0;have T:Z=if chainD 0 (Ps.drop 0)=true then some Ps else none:=by
    rw[U.out];simp only[Y,h0,true_and,List.drop_zero]
   rw[hd];replace T:=Aa T;replace hs:=Aa hs;replace hl:=Aa hl;replace hk:=Aa hk;replace Y:=Aa Y;replace H:=Aa H;clear hd U hlen;go_wp2_with fail
   go_loopw [6,19] (fun s6 s19 wr=>∃(i:Nat) (la:Int),s6 = .int .i64 la/\s19 = .int .i64 (i:Int)/\i<=k/\Hid (Z=if chainD la (Ps.drop i)=true then some Ps else none)/\Hid (Ext w1 wr)) (fun _ s19 _=>k - (intOf s19).toNat)
   case atStart=>exact⟨0,0,rfl,rfl,by omega,T,Aa (Ext.refl _)⟩
   case round =>
    clear T;obtain⟨i,la,rfl,rfl,hi,T,hE⟩:=hrel;by_cases c0:i<k
    ·obtain⟨x,hx⟩:∃x,l[i]? = some x:=⟨_,List.getElem?_eq_getElem (by rw[<-hk.out];exact c0)⟩
     obtain⟨x0,j0⟩:=(hs.out.ext hE.out).2 x (List.mem_of_getElem? hx);obtain⟨g,o,rfl,hc⟩:=(hs.out.ext hE.out).1.at_ (by rw[List.length_map,<-hk.out];omega);have k0:=hc i x.val (by rw[List.getElem?_map,hx];rfl);have v0:Ps[i]? = some x.2:=by rw[<-hl.out,List.getElem?_map,hx];rfl
     have J:=Td v0 la;obtain⟨lo,hh,nn,t0⟩:=Tr j0.ne;have a:=I8 x.1 x.2 wr x0 j0;rw[t0]at a;unfold prtA at a;unfold Sg.val at k0;obtain⟨fi,q0⟩:=Ab (fstD x.2);obtain⟨lx,p0⟩:=Ab (lastD 0 x.2);rw[<-q0,<-p0]at a;rw[<-q0,<-p0]at J;replace a:=Aa a;clear hc hx x0 j0 v0 t0 q0 p0;by_cases n0:fi<=la
     ·have j:=T.out;rw[J,decide_eq_false (show ¬ la<fi by omega),Bool.false_and,if_neg (by simp)]at j;replace j:=Aa j;clear J;go_wp2_with fail;refine a.out.mono ?_;rintro e w4 ⟨rfl,G⟩;go_wp2_with fail;go_ret2;exact OpA.no (((H.out.trans hE.out).trans G).alloc _) j.out
     ·have j:=T.out;rw[J,decide_eq_true (show la<fi by omega),Bool.true_and]at j;replace j:=Aa j;clear J;go_wp2_with fail;refine a.out.mono ?_;rintro e w4 ⟨rfl,G⟩;go_wp2_with fail;go_roundw
      case rel=>exact⟨i+1,lx,rfl,by go_num,by omega,j,Aa ((hE.out.trans G).alloc _)⟩
      case measure=>simp only[intOf];omega
    ·have j:=T.out;rw[List.drop_of_length_le (by rw[Y.out];omega)]at j;replace j:=Aa j;go_wp2_with fail;go_ret2;refine⟨H.out.trans hE.out,?_⟩;rw[j.out];exact⟨l,B,k,d,hl.out,hk.out,rfl,hs.out.ext hE.out⟩
  ·have hd:decide (0<k)=false:=decide_eq_false h0;rw[hd];have j:Z=none:=by rw[U.out];simp only[Y,h0,false_and,if_false]
   replace j:=Aa j;clear U hd;go_wp2_with fail;go_ret2;exact OpA.no H j.out
end
section
open Go.RowKit Go.Maps
def keepD (fl:Int) (x:DocC):Bool:= !decide (x.e.at_<fl)
theorem SZ (x:DocC) (fb:Nat) (fl:Int) (w:World) (h:Row w fb 3 #[.int .i64 fl]) :
 Calls prog 30 #[.agg #[.int .i64 x.seq,.int .i64 x.e.at_,.slice x.A x.e.fs.length x.c],.pointer (some ⟨fb,0,none⟩)] w fun e w'=>e = .returned (.bool (decide (x.e.at_<fl)))/\Ext w w':=by
 have k0:=(h.ext ((Ext.refl w).alloc (Obj.cells #[.int .i64 x.seq,.int .i64 x.e.at_,.slice x.A x.e.fs.length x.c] 71))).cell 0 rfl;obtain⟨sq,⟨at_,fs⟩,A,c⟩:=x;simp only at k0 ⊢;obtain⟨m,j⟩:=Ab fs.length;rw[<-j]at k0 ⊢;clear j h
 go_in
 go_wp2_with fail;go_ret;exact⟨rfl,(Ext.refl w).alloc _⟩
def IdxA (w:World) (fl:Int) (l:List DocC) (e:Ending) (w':World):Prop:=Ext w w'/\((e = .returned (.int .i64 (-1))/\l.all (keepD fl)=true)\/∃i:Nat,e = .returned (.int .i64 (i:Int))/\i<l.length/\(l.take i).all (keepD fl)=true/\∃x,l[i]? = some x/\keepD fl x=false)
theorem Tp (l:List DocC) (A:Option Addr) (n c fb:Nat) (fl:Int) (w:World) (hn:n=l.length) (h:Cells w A (dcells l)) (hb:Row w fb 3 #[.int .i64 fl]) (G:n<=1000000) :
 Calls prog 72 #[.slice A n c,.func (.func 30) #[] #[.pointer (some ⟨fb,0,none⟩)]] w (IdxA w fl l):=by
 have hd:=Aa SZ;replace hn:=Aa hn;replace h:=Aa h;replace hb:=Aa hb
 go_in
 go_wp2_with fail
 go_loopw [8] (fun s8 wr=>∃i:Nat,s8 = .int .i64 (i:Int)/\i<=n/\Hid ((l.take i).all (keepD fl)=true)/\Hid (Ext w wr)) (fun s8 _=>n - (intOf s8).toNat)
 case atStart=>exact⟨0,rfl,by omega,Aa rfl,Aa (Ext.refl _)⟩
 case round =>
  obtain⟨i,rfl,hi,j,J⟩:=hrel;by_cases O:i<n
  ·obtain⟨x,Z⟩:∃x,l[i]? = some x:=⟨_,List.getElem?_eq_getElem (by rw[<-hn.out];exact O)⟩
   obtain⟨g,o,rfl,k0,k1,k2⟩:=AR (h.out.ext J.out) Z;have b:=hd.out x fb fl wr (hb.out.ext J.out);obtain⟨v,T⟩:=Ab (decide (x.e.at_<fl));rw[<-T]at b;have Y:(l.take (i+1)).all (keepD fl) = !v:=by
    rw[List.take_add_one,Z,List.all_append,j.out,T];show (keepD fl x&&true)=_;rw[Bool.and_true];rfl
   replace Y:=Aa Y;have H:keepD fl x = !v:=by rw[T];rfl
   replace H:=Aa H;replace T:=Aa T;replace Z:=Aa Z;replace b:=Aa b;cases v with
   | true =>
    go_wp2_with fail;refine b.out.mono ?_;rintro e w4 ⟨rfl,a⟩;go_wp2_with fail;go_ret;exact⟨J.out.trans a,.inr ⟨i,rfl,by rw[<-hn.out];exact O,j.out,x,Z.out,H.out⟩⟩
   | false =>
    go_wp2_with fail;refine b.out.mono ?_;rintro e w4 ⟨rfl,a⟩;go_wp2_with fail;go_roundw
    case rel=>exact⟨i+1,by go_num,by omega,Y,Aa (J.out.trans a)⟩
    case measure=>simp only[intOf];omega
  ·have U:=j.out;rw[List.take_of_length_le (by rw[<-hn.out];omega)]at U;go_wp2_with fail;go_ret;exact⟨J.out,.inl ⟨rfl,U⟩⟩
theorem TM:∀(D:List DocC) (i:Nat) (x:DocC),i<D.length->(((dcells D).set (i*3) (.int .i64 x.seq)).set (i*3+1) (.int .i64 x.e.at_)).set (i*3+2) (.slice x.A x.e.fs.length x.c)=dcells (D.set i x)
 | y::D,0,x,_=>rfl
 | y::D,i+1,x,h=>by
  have ih:=TM D i x (by simpa using h);have e1:(i+1)*3=i*3+1+1+1:=by omega
  rw[e1,List.set_cons_succ];show _=y.cells++dcells (D.set i x);rw[<-ih];rfl
theorem TY {base g n c size:Nat}:∀(vs:List Value) (o:Nat) (w:World),w.ownsRow base e size (.slice (some ⟨g,0,none⟩) n c) n xs->n*size<=o->(w.setCells g o vs).ownsRow base e size (.slice (some ⟨g,0,none⟩) n c) n xs
 | [],o,w,h,_=>h
 | v::vs,o,w,h,j=>by
  have h2:=M7 h o v;rw[List.set_eq_of_length_le (by rw[h.1];exact j)]at h2;exact TY vs (o+1) _ h2 (by omega)
theorem TT:∀(vs:List Value) (o:Nat) (w:World),Chg (fun k=>k=g) w (w.setCells g o vs)
 | [],_,w=>Chg.refl _ w
 | v::vs,o,w=>(Chg.of_set (S:=fun k=>k=g) w (a:=⟨g,o,none⟩) v rfl).trans (TT vs (o+1) _) fun _ _ h=>h
theorem Tq {base n c i size:Nat} (h:w.ownsRow base e size (.slice A n c) n xs) (hi:i<=n) (b:A≠none):w.ownsRow base e size (.slice A i c) i (xs.take (i*size)):=by
 obtain⟨Y,U⟩:=h;have J:i*size<=n*size:=Nat.mul_le_mul_right _ hi;refine⟨by rw[List.length_take,Y];omega,?_⟩;rcases U with ⟨j,_⟩ | ⟨g,cap,cur,j,hb,H,hn,a,hs,ht⟩
 ·cases j;exact absurd rfl b
 ·cases j;exact .inr ⟨g,_,cur,rfl,hb,H,by omega,a,hs,by rw[<-ht,List.take_take,Nat.min_eq_left J]⟩
theorem S3 (w:World) (b o n c:Nat) (hn:0<n) (U:∀j,j<n*3->(w.cell? ⟨b,o+j,none⟩).isSome=true) (O:∀j,j<n*3->w.frozen? ⟨b,o+j,none⟩=false) :
 ∃vs,∀ty,(Builtin.clear_ #[30] ty #[.slice (some ⟨b,o,none⟩) n c]).run prog w = .ok (.tuple #[]) (w.setCells b o vs):=by
 have ht:=underlying30;have T:∀W:World,(zeroValue 71).run prog W = .ok (.agg #[.int .i64 0,.int .i64 0,.slice none 0 0]) W:=fun W=>by kernel_rfl
 obtain⟨vs,a⟩:=Ab ((Builtin.zeroCells (Value.agg #[.int .i64 0,.int .i64 0,.slice none 0 0]).cells n).toList);have hlen:vs.length=n*3:=by rw[a];simp[Builtin.zeroCells,Value.cells]
 have H:∀v∈vs,v.oneCell'=true:=fun v J=>by
  rw[a]at J;unfold Builtin.zeroCells at J;rw[Array.toList_map]at J;obtain⟨i,_,rfl⟩:=List.mem_map.1 J;show Value.oneCell' ((#[.int .i64 0,.int .i64 0,.slice none 0 0]:Array Value)[i%3]!)=true;have:=Nat.mod_lt i (show 0<3 by omega);obtain h | h | h:i%3=0\/i%3=1\/i%3=2:=by omega
  all_goals rw[h];rfl
 have Y:=run_storeCells_cells (P:=prog) b o vs 0 w (by rw[hlen];simpa using U) (by rw[hlen];simpa using O) H;simp only[Nat.add_zero]at Y;obtain⟨m,rfl⟩:∃m,n=m+1:=⟨n - 1,by omega⟩
 refine⟨vs,fun ty=>?_⟩;simp[Builtin.clear_,run_underlying ht,T,<-a,Y]
theorem Tg (h:k<n) (hn:n<=c) (W:World) :
 (Instr.sliceAt 30 (.slice (some ⟨g,0,none⟩) n c) (some (.int .i64 (k:Int))) none none).run prog W = .ok (.slice (some ⟨g,k*3,none⟩) (n - k) (c - k)) W:=by
 have ht:=underlying30;have j:prog.elem 30=71:=by unfold Program.elem;rw[ht]
 have hs:∀W:World,(sizeOf 71).run prog W = .ok 3 W:=fun W=>by kernel_rfl
 have b:((k:Int)).toNat=k:=by omega
 rw[run_sliceAt_slice W _ _ _ _ _ (by rw[ht,j]),run_slice_l W _ _ n c (by rw[ht,j]) .i64 k (by omega) (by omega),j,hs];simp only[Result.andThen_ok];unfold sliced;rw[if_neg (by omega),b];simp[Addr.add_lit]
def DelA (base:Nat) (fl:Int) (l:List DocC) (w:World) (e:Ending) (w':World):Prop:=∃(A:Option Addr) (n c:Nat),e = .returned (.slice A n c)/\n=(l.filter (keepD fl)).length/\DocsOwn w' base A c (l.filter (keepD fl))/\Chg (fun k=>base<=k) w w'
theorem Ay {l:List DocC} {j:Nat} {x:DocC} (h:l[j]? = some x) (p:DocC->Bool):(l.take (j+1)).filter p=(l.take j).filter p++if p x=true then [x] else []:=by
 rw[List.take_add_one,h,List.filter_append];congr 1;show List.filter p [x]=_;rw[List.filter_cons];rfl
theorem Ti (l:List DocC) (A:Option Addr) (n c fb base:Nat) (fl:Int) (w:World) (hn:n=l.length) (h:DocsOwn w base A c l) (hb:Row w fb 3 #[.int .i64 fl]) (o3:base<=w.heap.size) (z3:n<=1000000) :
 Calls prog 29 #[.slice A n c,.func (.func 30) #[] #[.pointer (some ⟨fb,0,none⟩)]] w (DelA base fl l w):=by
 have t3:=Aa (Tp l A n c fb fl w hn h.ok.cells hb z3);have hd:=Aa SZ;have l0:=h.cap;rw[<-hn]at l0;have Y:=h.own;rw[<-hn]at Y;replace hn:=Aa hn;replace hb:=Aa hb
 go_in
 go_wp2_with fail;refine t3.out.mono ?_;rintro e w1 ⟨U,hr⟩;rcases hr with ⟨rfl,O⟩ | ⟨i0,rfl,d2,O,x0,q3,t0⟩
 ·have Z:l.filter (keepD fl)=l:=List.filter_eq_self.2 (List.all_eq_true.1 O);replace Z:=Aa Z;replace h:=Aa h;clear O Y;go_wp2_with fail;go_ret;exact⟨A,n,c,rfl,by rw[Z.out];exact hn.out,by rw[Z.out];exact h.out.ext U,Chg.of_ext U _⟩
 ·have i3:i0<n:=by rw[hn.out];exact d2
  obtain⟨g,rfl⟩:∃g,A=some ⟨g,0,none⟩:=by
   rcases Y.2 with ⟨_,h0⟩ | ⟨g,_,_,hv,_⟩
   ·omega
   ·cases hv;exact⟨g,rfl⟩
  obtain⟨_,_,a2⟩:=Ae Y rfl;have e1:l.take i0=(l.take (i0+1)).filter (keepD fl):=by
   rw[Ay q3,if_neg (by rw[t0];simp),List.append_nil];exact(List.filter_eq_self.2 (List.all_eq_true.1 O)).symm
  have a3:=Aa (U.owns Y);have j3:=Aa fun x J=>((h.ext U).each x J)
  have f1:=Aa h.ints;have k3:=Aa (Chg.of_ext U fun k=>base<=k);have j4:((i0:Int) == -1)=false:=beq_eq_false_iff_ne.2 (by omega);replace U:=Aa U;replace e1:=Aa e1;clear q3 t0 O h Y d2;go_wp2_with fail
  go_loopw [5,6] (fun s5 s6 wr=>∃(i j:Nat) (D:List DocC),s5 = .int .i64 (i:Int)/\s6 = .int .i64 (j:Int)/\i<j/\j<=n/\Hid (D.length=n/\D.take i=(l.take j).filter (keepD fl)/\∀k,j<=k->D[k]? = l[k]?)/\Hid (wr.ownsRow base 71 3 (.slice (some ⟨g,0,none⟩) n c) n (dcells D))/\Hid (∀x∈l,x.e.Own wr base x.A x.c)/\Hid (Row wr fb 3 #[.int .i64 fl])/\Hid (Chg (fun k=>base<=k) w wr)) (fun _ s6 _=>n - (intOf s6).toNat)
  case atStart=>exact⟨i0,i0+1,l,rfl,by go_num,by omega,by omega,Aa ⟨hn.out.symm,e1.out,fun _ _=>rfl⟩,a3,j3,Aa (hb.out.ext U.out),k3⟩
  case round =>
   obtain⟨i,j,D,rfl,rfl,q4,k4,hD,ho,hs,e0,hC⟩:=hrel;obtain⟨j1,m1,h1⟩:=hD.out;have o2:=Ae ho.out rfl;obtain⟨cur,H,_⟩:=o2;by_cases hj:j<n
   ·obtain⟨x,J⟩:∃x,l[j]? = some x:=⟨_,List.getElem?_eq_getElem (by rw[<-hn.out];exact hj)⟩
    obtain⟨y,hy⟩:∃y,D[i]? = some y:=⟨_,List.getElem?_eq_getElem (by omega)⟩
    obtain⟨g',o',n0,k0,k1,k2⟩:=AR (Cells.of_own ho.out) ((h1 j (Nat.le_refl _)).trans J);cases n0;rw[Nat.zero_add]at k0 k1 k2;have g0:=Ay J (keepD fl);have T:=hd.out x fb fl (wr.alloc (Obj.cells #[.int .i64 x.seq,.int .i64 x.e.at_,.slice x.A x.e.fs.length x.c] 71)) (e0.out.ext ((Ext.refl wr).alloc _));obtain⟨v,hv⟩:=Ab (decide (x.e.at_<fl));have t0:keepD fl x = !v:=by rw[hv];rfl
    rw[<-hv]at T;rw[t0]at g0;have G:=TM D i x (by omega);obtain⟨sq,⟨at_,fs⟩,xA,xc⟩:=x;simp only at k0 k1 k2 T G;obtain⟨m,hm⟩:=Ab fs.length;rw[<-hm]at k2 T G;obtain⟨W,hW⟩:=Ab (wr.alloc (Obj.cells #[Value.int .i64 sq,.int .i64 at_,.slice xA m xc] 71));have d0:Ext wr W:=by rw[hW];exact(Ext.refl wr).alloc _
    have p0:Row W wr.heap.size 71 #[.int .i64 sq,.int .i64 at_,.slice xA m xc]:=by rw[hW];exact Row.new wr _ _
    obtain⟨gq,m0⟩:=Ab wr.heap.size;rw[<-m0]at p0;have h4:g≠gq:=by have hl:g<wr.heap.size:=H.lt;omega
    have q0:=p0.cell 0 rfl;have q1:=p0.cell 1 rfl;have q2:=p0.cell 2 rfl;rw[<-hW]at T;replace T:=Aa T;replace g0:=Aa g0;replace G:=Aa G;replace hm:=Aa hm;replace hv:=Aa hv;replace d0:=Aa d0;replace p0:=Aa p0;replace H:=Aa H;replace hD:=Aa hD;clear t0 j1 m1 h1 hd;cases v with
    | true =>
     go_wp2_with fail;rw[<-hW,<-m0];clear hW m0;refine T.out.mono ?_;rintro e w4 ⟨rfl,b⟩;replace b:=Aa (d0.out.trans b);go_wp2_with fail;go_roundw
     case rel=>exact⟨i,j+1,D,rfl,by go_num,by omega,by omega,Aa ⟨hD.out.1,by rw[hD.out.2.1,g0.out];simp,fun k hk=>hD.out.2.2 k (by omega)⟩,Aa (b.out.owns ho.out),Aa (fun x J=>⟨b.out.owns (hs.out x J).1,(hs.out x J).2⟩),Aa (e0.out.ext b.out),Aa (hC.out.trans (Chg.of_ext b.out _) fun _ _ h=>h)⟩
     case measure=>simp only[intOf];omega
    | false =>
     go_wp2_with fail;rw[<-hW,<-m0];clear hW m0;refine T.out.mono ?_;rintro e w4 ⟨rfl,b⟩;have x0:=b.cell q0;have x1:=b.cell q1;have x2:=b.cell q2;replace b:=Aa (d0.out.trans b);have f2:=Aa (b.out.owns ho.out);obtain⟨g',o',n0,y0,y1,y2⟩:=AR (Cells.of_own f2.out) hy;cases n0;rw[Nat.zero_add]at y0 y1 y2;have r3:=(H.out.ext b.out).free;go_wp2_with fail;go_roundw
     case rel =>
      obtain⟨w5,o1⟩:=Ab (((w4.setCell ⟨g,i*3,none⟩ (.int .i64 sq)).setCell ⟨g,i*3+1,none⟩ (.int .i64 at_)).setCell ⟨g,i*3+2,none⟩ (.slice xA m xc));have o0:Chg (fun k=>k=g) w4 w5:=by
       rw[o1];exact((Chg.of_set (S:=fun k=>k=g) w4 (a:=⟨g,i*3,none⟩) _ rfl).trans (Chg.of_set (S:=fun k=>k=g) _ (a:=⟨g,i*3+1,none⟩) _ rfl) fun _ _ h=>h).trans (Chg.of_set (S:=fun k=>k=g) _ (a:=⟨g,i*3+2,none⟩) _ rfl) fun _ _ h=>h
      have b3:w5.ownsRow base 71 3 (.slice (some ⟨g,0,none⟩) n c) n (dcells (D.set i ⟨sq,⟨at_,fs⟩,xA,xc⟩)):=by
       rw[o1,<-G.out];exact M7 (M7 (M7 f2.out _ _) _ _) _ _
      have h3:∀k t cs,Row w4 k t cs->t≠71->¬ k=g:=fun k t cs hk ht=>Row.unlike hk (H.out.ext b.out) ht;rw[<-o1];have I:i<D.length:=by rw[hD.out.1];omega
      refine⟨i+1,j+1,D.set i ⟨sq,⟨at_,fs⟩,xA,xc⟩,rfl,by go_num,by omega,by omega,Aa ⟨by rw[List.length_set];exact hD.out.1,?_,fun k hk=>by rw[List.getElem?_set,if_neg (by omega)];exact hD.out.2.2 k (by omega)⟩,Aa b3,Aa fun x J=>⟨o0.owns (b.out.owns (hs.out x J).1) fun k hk=>?_,(hs.out x J).2⟩,Aa (o0.row (e0.out.ext b.out) (h3 _ _ _ (e0.out.ext b.out) (by decide))),Aa ((hC.out.trans (Chg.of_ext b.out _) fun _ _ h=>h).trans o0 fun k _ h=>by rw[h];exact a2)⟩
      ·rw[g0.out,<-hD.out.2.1,List.take_add_one,List.getElem?_set,if_pos rfl,if_pos I,List.take_set,List.set_eq_of_length_le (by rw[List.length_take];omega)];rfl
      ·obtain⟨cs,hr,_⟩:=Ae (b.out.owns (hs.out x J).1) hk;exact h3 _ _ _ hr (by decide)
     case measure=>simp only[intOf];omega
   ·obtain rfl:j=n:=by omega
    have Z:D.take i=l.filter (keepD fl):=by rw[m1,List.take_of_length_le (by rw[<-hn.out];exact Nat.le_refl _)]
    have f3:cur.size=c*3:=by
     rcases ho.out.2 with ⟨hv,_⟩ | ⟨_,_,cur',hv,_,m3,_,_,d3,_⟩
     ·cases hv
     ·cases hv;have:=H.symm.trans m3;injection this with this;injection this with this;rw[this];exact d3
    have x3:=l0.1;obtain⟨vs,m2⟩:=S3 wr g (i*3) (j - i) (c - i) (by omega) (fun q hq=>by rw[H.get,Array.getElem?_eq_getElem (by omega)];rfl) (fun q _=>H.free _);have v0:=TY vs (i*3) wr (Tq ho.out (i:=i) (by omega) (by simp)) (Nat.le_refl _);rw[show (dcells D).take (i*3)=dcells (D.take i)from(Bh (f:=DocC.cells) (k:=3) (fun _=>rfl) D i).symm,Z]at v0;have I:i=(l.filter (keepD fl)).length:=by rw[<-Z,List.length_take,j1];omega
    have r0:=TT (g:=g) vs (i*3) wr;have f0:∀x∈l.filter (keepD fl),x.e.Own (wr.setCells g (i*3) vs) base x.A x.c:=fun x J=>by
     have J:=(List.mem_filter.1 J).1;refine⟨r0.owns (hs.out x J).1 fun k hk=>?_,(hs.out x J).2⟩;obtain⟨cs,hr,_⟩:=Ae (hs.out x J).1 hk;exact Row.unlike hr H (by decide)
    have c0:Chg (fun k=>base<=k) w (wr.setCells g (i*3) vs):=hC.out.trans r0 fun k _ h=>by rw[h];exact a2
    obtain⟨Wc,j2⟩:=Ab (wr.setCells g (i*3) vs);rw[<-j2]at m2 v0 f0 c0;have e3:=fun W:World=>Tg (g:=g) (n:=j) (c:=c) (k:=i) (by omega) x3 W;obtain⟨ji,i1⟩:=Ab (j - i);obtain⟨ci,d1⟩:=Ab (c - i);rw[<-i1,<-d1]at m2 e3;replace v0:=Aa v0;replace f0:=Aa f0;replace c0:=Aa c0;replace H:=Aa H;replace I:=Aa I;replace hD:=Aa hD;replace i1:=Aa i1;replace d1:=Aa d1;clear j2 r0 Z j1 m1 h1 f3;go_wp2_with fail;go_ret;exact⟨some ⟨g,0,none⟩,i,c,rfl,I.out,⟨by rw[<-I.out];exact v0.out,f0.out,fun x J=>f1.out x (List.mem_filter.1 J).1⟩,c0.out⟩
end
section
open Go.RowKit Go.Maps
def keepP (fl:Int) (d:Dc):Bool:= !decide (d.2.at_<fl)
def docsM (fl:Int) (Ps:List (List Dc)):List Dc:=Ps.flatten.filter (keepP fl)
theorem S5 (fl:Int) (l:List DocC):dcs (l.filter (keepD fl))=(dcs l).filter (keepP fl):=by
 unfold dcs;rw[List.filter_map];rfl
theorem DocsOwn.app {base c c2 c8:Nat} {B A2 A8:Option Addr} {l l2:List DocC} (h:DocsOwn w base B c l) (h2:DocsOwn w base A2 c2 l2)
 (U:w8.ownsRow base 71 3 (.slice A8 (l.length+l2.length) c8) (l.length+l2.length) (dcells l++dcells l2)) (J:w.grownBy w8 (Value.slice B l.length c).ownBlock):DocsOwn w8 base A8 c8 (l++l2):=by
 have a:Chg (fun k'=>(Value.slice B l.length c).ownBlock=some k') w w8:=Chg.of_grown J fun k' _ Y=>Y;refine⟨by rw[List.length_append];unfold dcells;rw[List.flatMap_append];exact U,fun y j=>?_,fun y j=>?_⟩
 ·have b:y.e.Own w base y.A y.c:=by rcases List.mem_append.1 j with j | j;exact h.each y j;exact h2.each y j
  exact⟨a.owns b.1 fun g' H=>by obtain⟨cs,O,_⟩:=Ae b.1 H;exact Am h.own O (by decide),b.2⟩
 ·rcases List.mem_append.1 j with j | j
  ·exact h.ints y j
  ·exact h2.ints y j
theorem S4 (l:List DocC):∀u∈dcells l,u.oneCell'=true:=fun u j=>by
 unfold dcells at j;obtain⟨x,_,h⟩:=List.mem_flatMap.1 j;unfold DocC.cells at h;simp only[List.mem_cons,List.not_mem_nil,or_false]at h;rcases h with rfl | rfl | rfl <;> rfl
def MdA (w:World) (fl:Int) (r:Option (List (List Dc))) (e:Ending) (w':World):Prop:=Ext w w'/\match r with
 | some Ps=>∃(l:List DocC) (A:Option Addr) (n c:Nat),dcs l=docsM fl Ps/\n=l.length/\e = .returned (.tuple #[.slice A n c,.int .i64 0])/\DocsOwn w' w.heap.size A c l
 | none=>e = .returned (.tuple #[.slice none 0 0,.int .i64 330])
theorem MdA.no {r:Option (List (List Dc))} (j:Ext w w') (h:r=none):MdA w fl r (.returned (.tuple #[.slice none 0 0,.int .i64 330])) w':=by subst h;exact⟨j,rfl⟩
theorem S6 {Ps:List (List Dc)} (h:mergeD bs=some Ps):Ps.length<=bs.length:=by
 unfold mergeD at h;split at h
 ·rename_i Qs j;split at h
  ·injection h with h;subst h;exact TJ j
  ·cases h
 ·cases h
theorem Te (bs:List BsC) (A:Option Addr) (n c:Nat) (fl:Int) (w:World) (hn:n=bs.length) (h:BssR w A bs) (m2:n<=10) :
 Calls prog 10 #[.int .i64 fl,.slice A n c] w (MdA w fl (mergeD (bs.map BsC.b))):=by
 obtain⟨W,hW⟩:=Ab (w.alloc (.cells #[.int .i64 fl] 3));have Y:Ext w W:=by rw[hW];exact(Ext.refl w).alloc _
 have T:Row W w.heap.size 3 #[.int .i64 fl]:=by rw[hW];exact Row.new w _ _
 have O:=S7 bs A n c W hn (h.ext Y) (by omega);obtain⟨Z,hZ⟩:=Ab (mergeD (bs.map BsC.b));rw[<-hZ]at O ⊢;have hlen:∀Ps,Z=some Ps->Ps.length<=10:=fun Ps hp=>by
  have:=S6 (hZ.symm.trans hp);rw[List.length_map,<-hn]at this;omega
 obtain⟨fb,G⟩:=Ab w.heap.size;rw[<-G]at T;have h2:=Aa G;replace O:=Aa O;replace hlen:=Aa hlen;replace T:=Aa T;replace Y:=Aa Y;clear hZ h hn
 go_in
 go_wp2_with fail;rw[<-hW,<-G];clear hW G;refine O.out.mono ?_;rintro e w1 ⟨H,hr⟩;cases Z with
 | none =>
  simp only at hr;subst hr;go_wp2_with fail;go_ret2;exact MdA.no (Y.out.trans H) rfl
 | some Ps =>
  obtain⟨l,B,k,d,hl,hk,rfl,hs⟩:=hr;have k2:k<=10:=by rw[hk];have:=hlen.out Ps rfl;rw[<-hl,List.length_map]at this;exact this
  have e1:=Aa SS;have d0:=Aa Ti;have f0:=Aa (T.out.ext H);replace H:=Aa (Y.out.trans H);have y1:=hk;replace hs:=Aa hs;replace hl:=Aa hl;replace hk:=Aa hk;clear hlen T Y O y1;go_wp2_with fail
  go_loopw [8,21] (fun s8 s21 wr=>∃(i m q:Nat) (C:Option Addr) (D:List DocC),s8 = .slice C m q/\s21 = .int .i64 (i:Int)/\i<=k/\m<=i*65536/\Hid (m=D.length)/\Hid (dcs D=((l.take i).map (·.2)).flatten)/\Hid (DocsOwn wr w1.heap.size C q D)/\Hid (Ext w1 wr)) (fun _ s21 _=>k - (intOf s21).toNat)
  case atStart=>exact⟨0,0,0,none,[],rfl,rfl,by omega,by omega,Aa rfl,Aa rfl,Aa (DocsOwn.nil _ _),Aa (Ext.refl _)⟩
  case round =>
   obtain⟨i,m,q,C,D,rfl,rfl,hi,hm,U,hD,ho,hE⟩:=hrel;by_cases x1:i<k
   ·obtain⟨x,hx⟩:∃x,l[i]? = some x:=⟨_,List.getElem?_eq_getElem (by rw[<-hk.out];exact x1)⟩
    obtain⟨i0,b0⟩:=(hs.out.ext hE.out).2 x (List.mem_of_getElem? hx);obtain⟨g,o,rfl,hc⟩:=(hs.out.ext hE.out).1.at_ (by rw[List.length_map,<-hk.out];omega);have k0:=hc i x.val (by rw[List.getElem?_map,hx];rfl);have y0:=e1.out x.1 x.2 wr i0 b0;have y2:=b0.sm.seg.n;have x0:((l.take (i+1)).map (·.2)).flatten=((l.take i).map (·.2)).flatten++x.2:=by
     rw[List.take_add_one,hx,List.map_append,List.flatten_append];congr 1;show [x.2].flatten=_;rw[List.flatten_cons,List.flatten_nil,List.append_nil]
    unfold Sg.val at k0;replace y0:=Aa y0;replace x0:=Aa x0;clear hc hx i0 b0;go_wp2_with fail;refine y0.out.mono ?_;rintro e w4 ⟨J,l4,A4,c4,h0,rfl,q0⟩;obtain⟨m4,a⟩:=Ab l4.length;have j2:m4<=65536:=by rw[a];have:(dcs l4).length=l4.length:=List.length_map ..;rw[h0]at this;omega
    rw[<-a];have e0:=Aa (ho.out.ext J);have j:=e0.out.own;rw[<-U.out]at j;replace q0:=Aa (q0.lower hE.out.size);have g0:(dcells l4).length=m4*3:=by rw[Er,a]
    have j1:m+m4<=4294967296:=by omega
    have f1:w1.heap.size<=w4.heap.size:=(hE.out.trans J).size;replace J:=Aa (hE.out.trans J);replace j:=Aa j;replace g0:=Aa g0;replace a:=Aa a;replace h0:=Aa h0;go_wp2_with (at_builtin;refine AV (m:=m4) MQ j.out q0.out.ok.cells (.tmp 25) (.tmp 27) rfl rfl rfl rfl rfl g0.out (S4 _) j1 f1 (fun A8 c8 w8 v0 I a1=>?_);replace v0:=Aa v0;replace I:=Aa I;clear a1);have q1:Ext w1 w8:=J.out.grown I.out fun k hk=>by obtain⟨_,_,hb⟩:=Ae j.out hk;exact hb
    have c0:=e0.out.app q0.out (A8:=A8) (c8:=c8) (w8:=w8) (by rw[<-U.out,<-a.out];exact v0.out) (by rw[<-U.out];exact I.out);go_roundw
    case rel=>exact⟨i+1,m+m4,c8,A8,D++l4,rfl,by go_num,by omega,by omega,Aa (by rw[List.length_append,<-U.out,<-a.out]),Aa (by rw[x0.out,<-hD.out,<-h0.out];unfold dcs;rw[List.map_append]),Aa c0,Aa q1⟩
    case measure=>simp only[intOf];omega
   ·have j0:dcs D=Ps.flatten:=by rw[hD.out,List.take_of_length_le (by rw[<-hk.out];omega),hl.out]
    have m1:=Aa (d0.out D C m q fb w1.heap.size fl wr U.out ho.out (f0.out.ext hE.out) hE.out.size (by omega));replace j0:=Aa j0;clear d0;go_wp2_with fail;refine m1.out.mono ?_;rintro e w5 ⟨A5,n5,c5,rfl,m0,t0,r0⟩;replace m0:=Aa m0;replace t0:=Aa t0;go_wp2_with fail;go_ret2;have h1:Ext w1 w5:=hE.out.chg r0 fun k hk h=>by omega
    exact⟨H.out.trans h1,D.filter (keepD fl),A5,n5,c5,by rw[S5,j0.out];rfl,m0.out,rfl,t0.out.lower H.out.size⟩
def MrA (w:World) (fl:Int) (r:Option (List (List Dc))) (e:Ending) (w':World):Prop:=match r with
 | some Ps=>if docsM fl Ps = [] then e = .returned (.tuple #[.slice none 0 0,.int .i64 7])/\Ext w w' else OkB w (segL (docsM fl Ps)) e w'
 | none=>e = .returned (.tuple #[.slice none 0 0,.int .i64 330])/\Ext w w'
theorem TK (bs:List BsC) (A:Option Addr) (n c:Nat) (fl:Int) (w:World) (hn:n=bs.length) (h:BssR w A bs) (k0:n<=10) (J:∀Ps,mergeD (bs.map BsC.b)=some Ps->docsM fl Ps ≠ []->SmP (docsM fl Ps)) :
 Calls prog 8 #[.int .i64 fl,.slice A n c] w (MrA w fl (mergeD (bs.map BsC.b))):=by
 have G:=Aa (Te bs A n c fl w hn h k0);obtain⟨Z,hZ⟩:=Ab (mergeD (bs.map BsC.b));rw[<-hZ]at G J ⊢;have T:=Aa CY;replace J:=Aa J;clear hZ h hn
 go_in
 go_wp2_with fail;refine G.out.mono ?_;rintro e w1 ⟨Y,hr⟩;cases Z with
 | none =>
  simp only at hr;subst hr;go_wp2_with fail;go_ret2;exact⟨rfl,Y⟩
 | some Ps =>
  obtain⟨l,B,k,d,U,hk,rfl,O⟩:=hr;by_cases h0:k=0
  ·have j:docsM fl Ps = []:=by rw[<-U,List.length_eq_zero_iff.1 (hk.symm.trans h0)];rfl
   subst h0;replace j:=Aa j;replace U:=Aa U;replace hk:=Aa hk;replace O:=Aa O;go_wp2_with fail;go_ret2;unfold MrA;simp only;rw[if_pos j.out];exact⟨rfl,Y⟩
  ·have j:¬ docsM fl Ps = []:=fun e=>h0 (by rw[<-U]at e;rw[hk];have:=congrArg List.length e;unfold dcs at this;rw[List.length_map]at this;exact this);have m0:((k:Int)==0)=false:=beq_eq_false_iff_ne.2 (by omega);have H:=O.cap;rw[<-hk]at H;have a:=T.out l B k d w1 hk O.ok H.2 H.1 (by rw[U];exact J.out Ps rfl j) (by omega);rw[U]at a;replace a:=Aa a;replace j:=Aa j;replace U:=Aa U;replace hk:=Aa hk;replace O:=Aa O;clear T;go_wp2_with fail;refine a.out.mono ?_;rintro e w2 ⟨A2,c2,rfl,I,p0⟩;go_wp2_with fail;go_ret2;unfold MrA;simp only;rw[if_neg j.out];exact⟨A2,c2,rfl,⟨I.1,I.2.lower Y.size⟩,Y.trans p0⟩
end
section
open Go.RowKit Go.Maps
abbrev risP (lo:Int) (l:List Dc):Bool:=risB 1099511627777 lo (l.map (·.1))
theorem TF {lo:Int} {x:Dc} {t:List Dc}:risP lo (x::t)=true↔(lo<x.1/\x.1<1099511627777)/\risP x.1 t=true:=by
 unfold risP;rw[List.map_cons,risB];simp only[Bool.and_eq_true,decide_eq_true_eq]
theorem Un:∀ {l:List Dc} {a b:Int},a<=b->risP b l=true->risP a l=true
 | [],_,_,_,_=>rfl
 | x::t,a,b,h,j=>by
  rw[TF]at j ⊢;exact⟨⟨by omega,j.1.2⟩,j.2⟩
end
section
open Go.RowKit
structure Pg where
  id:Int
  st:Int
  lo:Int
  hi:Int
  fi:Int
  la:Int
  n:Int
def Pg.cells (p:Pg):List Value:= [.int .i64 p.id,.int .i64 p.st,.int .i64 p.lo,.int .i64 p.hi,.int .i64 p.fi,.int .i64 p.la,.int .i64 p.n]
def gcells (ps:List Pg):List Value:=ps.flatMap Pg.cells
theorem TV (R:List Pg) (i:Nat) (r:Pg) (k:Nat) (h:R[i]? = some r) (hk:k<7):(gcells R)[i*7+k]? = r.cells[k]? :=AW (cellsA:=Pg.cells) (k:=7) (fun _=>rfl) R i r k h hk
structure GS (w:World) (A:Option Addr) (n c:Nat) (ps:List Pg):Prop where
  len:n=ps.length
  cells:Cells w A (gcells ps)
  cap:n<=c
  most:n<=9223372036854775807
  ok:∀p∈ps,I64ok' p.n
theorem GS.ext {ps:List Pg} (h:GS w A n c ps) (j:Ext w w1):GS w1 A n c ps:=⟨h.len,h.cells.ext j,h.cap,h.most,h.ok⟩
def Pg.val (p:Pg):Value:= .agg #[.int .i64 p.id,.int .i64 p.st,.int .i64 p.lo,.int .i64 p.hi,.int .i64 p.fi,.int .i64 p.la,.int .i64 p.n]
def PgAt (w:World) (g o:Nat) (p:Pg):Prop:=w.cell? ⟨g,o,none⟩=some (.int .i64 p.id)/\w.cell? ⟨g,o+1,none⟩=some (.int .i64 p.st)/\w.cell? ⟨g,o+2,none⟩=some (.int .i64 p.lo)/\w.cell? ⟨g,o+3,none⟩=some (.int .i64 p.hi)/\w.cell? ⟨g,o+4,none⟩=some (.int .i64 p.fi)/\w.cell? ⟨g,o+5,none⟩=some (.int .i64 p.la)/\w.cell? ⟨g,o+6,none⟩=some (.int .i64 p.n)
theorem GS.at_ {ps:List Pg} (h:GS w A n c ps) (hi:i<n):∃g s p,A=some ⟨g,s,none⟩/\ps[i]? = some p/\I64ok' p.n/\∀W,Ext w W->PgAt W g (s+i*7) p:=by
 obtain⟨p,b⟩:∃p,ps[i]? = some p:=⟨_,List.getElem?_eq_getElem (by rw[<-h.len];exact hi)⟩
 have H:=TV ps i p 0 b (by omega);obtain⟨g,s,Y,J⟩:=h.cells.at_ (by have:=(List.getElem?_eq_some_iff.1 H).1;omega);have q:∀k v W,Ext w W->p.cells[k]? = some v->W.cell? ⟨g,s+i*7+k,none⟩=some v:=fun k v W j a=>by
  rw[Nat.add_assoc];exact j.cell (J _ _ ((TV ps i p k b (List.getElem?_eq_some_iff.1 a).1).trans a))
 exact⟨g,s,p,Y,b,h.ok p (List.mem_of_getElem? b),fun W j=>⟨q 0 _ W j rfl,q 1 _ W j rfl,q 2 _ W j rfl,q 3 _ W j rfl,q 4 _ W j rfl,q 5 _ W j rfl,q 6 _ W j rfl⟩⟩
theorem GS.drop {g s n c:Nat} {ps:List Pg} (h:GS w (some ⟨g,s,none⟩) n c ps) (hk:k<=n):GS w (some ⟨g,s+k*7,none⟩) (n - k) (c - k) (ps.drop k):=by
 refine⟨by rw[List.length_drop,<-h.len],?_,by have:=h.cap;omega,by have:=h.most;omega,fun p Y=>h.ok p (List.mem_of_mem_drop Y)⟩;rw[show gcells (ps.drop k)=(gcells ps).drop (k*7)from Bo (f:=Pg.cells) (k:=7) (fun _=>rfl) ps k];rcases h.cells with b | ⟨g',o,a,H⟩
 ·exact .inl (by rw[b,List.drop_nil])
 ·cases a;exact .inr ⟨g,s+k*7,rfl,fun i v j=>by rw[List.getElem?_drop]at j;rw[Nat.add_assoc];exact H _ _ j⟩
def docsP (p:Pg):Int:=max 0 p.n
def takeG:Int->List Pg->Nat
 | _,[]=>0
 | m,p::t=>if p.st=2/\docsP p<=m then takeG (m - docsP p) t+1 else 0
theorem Ub:∀(l:List Pg) (m:Int),takeG m l<=l.length
 | [],_=>Nat.le_refl _
 | p::t,m=>by
  unfold takeG;have:=Ub t (m - docsP p);split
  ·rw[List.length_cons];omega
  ·exact Nat.zero_le _
theorem Up {l:List Pg} {p:Pg} {m:Int} (h:l[i]? = some p) (h1:p.st=2) (h2:docsP p<=m):takeG m (l.drop i)=takeG (m - docsP p) (l.drop (i+1))+1:=by
 obtain⟨hi,rfl⟩:=List.getElem?_eq_some_iff.1 h;rw[List.drop_eq_getElem_cons hi];exact if_pos ⟨h1,h2⟩
theorem Uc {l:List Pg} {p:Pg} {m:Int} (h:l[i]? = some p) (h1:¬ (p.st=2/\docsP p<=m)):takeG m (l.drop i)=0:=by
 obtain⟨hi,rfl⟩:=List.getElem?_eq_some_iff.1 h;rw[List.drop_eq_getElem_cons hi];exact if_neg h1
def rowG (a k:Nat):List Int:=(List.range k).map fun i=>((a+i:Nat):Int)
def grpG (m:Int) (a:Nat) (l:List Pg):List (List Int) :=
 if h:l = [] then [] else if takeG m l<2 then grpG m (a+1) (l.drop 1) else rowG a (takeG m l)::grpG m (a+takeG m l) (l.drop (takeG m l))
termination_by l.length
decreasing_by
 all_goals (have:=List.length_pos_iff.2 h;simp only[List.length_drop];omega)
theorem T5 {m:Int} {l:List Pg} {a n:Nat} (h:n<=a) (hn:n=l.length):grpG m a (l.drop a) = []:=by
 rw[grpG,dif_pos (List.drop_of_length_le (by omega))]
section
variable {m:Int} {l:List Pg} {a n:Nat} (h:a<n) (hn:n=l.length)
include h hn
theorem TX (h2:takeG m (l.drop a)<2):grpG m a (l.drop a)=grpG m (a+1) (l.drop (a+1)):=by
 rw[grpG,dif_neg (fun e=>by have:=congrArg List.length e;simp only[List.length_drop,List.length_nil]at this;omega),if_pos h2,List.drop_drop]
theorem T6 (h2:¬ takeG m (l.drop a)<2):grpG m a (l.drop a)=rowG a (takeG m (l.drop a))::grpG m (a+takeG m (l.drop a)) (l.drop (a+takeG m (l.drop a))):=by
 conv=>lhs;rw[grpG]
 rw[dif_neg (fun e=>by have:=congrArg List.length e;simp only[List.length_drop,List.length_nil]at this;omega),if_neg h2,List.drop_drop]
end
def costG:Int->List Pg->Int
 | s,[]=>s
 | s,p::t=>costG (min (s+docsP p) 1099511627776) t
structure IsC where
  xs:List Int
  A:Option Addr
  c:Nat
def IsC.val (x:IsC):Value:= .slice x.A x.xs.length x.c
structure IsOwn (w:World) (base:Nat) (A:Option Addr) (n c:Nat) (l:List IsC):Prop where
  own:w.ownsRow base 43 1 (.slice A n c) n (l.map IsC.val)
  each:∀x∈l,w.ownsRow base 3 1 x.val x.xs.length (x.xs.map IV)
theorem IsOwn.nil (w:World) (base:Nat):IsOwn w base none 0 0 []:=⟨⟨rfl,.inl ⟨rfl,rfl⟩⟩,nofun⟩
theorem IsOwn.ext {base n c:Nat} {l:List IsC} (h:IsOwn w base A n c l) (j:Ext w w'):IsOwn w' base A n c l:=⟨j.owns h.own,fun x b=>j.owns (h.each x b)⟩
theorem IsOwn.chg {base n c:Nat} {l:List IsC} (h:IsOwn w base A n c l) (j:Chg S w w') (a:∀g,(Value.slice A n c).ownBlock=some g->¬ S g) (H:∀x∈l,∀g,x.val.ownBlock=some g->¬ S g):IsOwn w' base A n c l:=⟨j.owns h.own a,fun x b=>j.owns (h.each x b) (H x b)⟩
theorem IsOwn.push {base n c c8:Nat} {B A8:Option Addr} {l:List IsC} {x:IsC} (h:IsOwn w base B n c l) (J:w.ownsRow base 3 1 x.val x.xs.length (x.xs.map IV))
 (O:w8.ownsRow base 43 1 (.slice A8 (n+1) c8) (n+1) (l.map IsC.val ++ [x.val])) (U:w.grownBy w8 (Value.slice B n c).ownBlock):IsOwn w8 base A8 (n+1) c8 (l ++ [x]):=by
 have b:Chg (fun k'=>(Value.slice B n c).ownBlock=some k') w w8:=Chg.of_grown U fun k' _ Y=>Y;have a:∀y:IsC,w.ownsRow base 3 1 y.val y.xs.length (y.xs.map IV)->∀g,y.val.ownBlock=some g->¬ (Value.slice B n c).ownBlock=some g:=fun y j g H=>by
  obtain⟨cs,T,_⟩:=Ae j H;exact Am h.own T (by decide)
 refine⟨by rw[List.map_append];exact O,fun y j=>?_⟩;rcases List.mem_append.1 j with j | j
 ·exact b.owns (h.each y j) (a y (h.each y j))
 ·rw[List.mem_singleton.1 j];exact b.owns J (a x J)
end
section
open Go.RowKit
theorem TW (p:Pg) (w:World):Calls prog 37 #[p.val] w fun e w'=>e = .returned (.int .i64 (docsP p))/\Ext w w':=by
 have h:=fun(W:World)=>Eg (P:=prog) #[3,3] 3 (x:=0) (y:=p.n) (m:=docsP p) rfl W;unfold Pg.val
 go_in
 go_wp2_with fail;go_ret;exact⟨rfl,(Ext.refl w).alloc _⟩
theorem TU (p:Pg) (h:I64ok' p.n):0<=docsP p/\docsP p<=9223372036854775807:=by unfold docsP I64ok' at *;omega
theorem Tn (A:Option Addr) (n c:Nat) (m:Int) (ps:List Pg) (w:World) (h:GS w A n c ps) (hm:I64ok' m) :
 Calls prog 35 #[.int .i64 m,.slice A n c] w fun e w'=>e = .returned (.int .i64 (takeG m ps:Nat))/\Ext w w':=by
 have hd:=Aa TW;have h0:=Aa h.len;have v0:=h.most;replace h:=Aa h
 go_in
 go_wp2_with fail
 go_loopw [0,5] (fun s0 s5 wr=>∃(i:Nat) (m':Int),s0 = .int .i64 m'/\s5 = .int .i64 (i:Int)/\i<=n/\I64ok' m'/\Hid (takeG m ps=i+takeG m' (ps.drop i))/\Hid (Ext w wr)) (fun _ s5 _=>n - (intOf s5).toNat)
 case atStart=>exact⟨0,m,rfl,rfl,by omega,hm,Aa (by rw[Nat.zero_add];rfl),Aa (Ext.refl _)⟩
 case round =>
  obtain⟨i,m',rfl,rfl,hi,p0,J,O⟩:=hrel;unfold I64ok' at p0;by_cases I:i<n
  ·obtain⟨g,s,p,rfl,hp,g0,T⟩:=h.out.at_ I;have G:=TU p g0;obtain⟨k0,k1,k2,k3,k4,k5,k6⟩:=T wr O.out;replace T:=Aa T;obtain⟨d,a⟩:=Ab (docsP p);have Y:=Aa (hd.out p);unfold Pg.val at Y;rw[<-a]at Y G;replace a:=Aa a;by_cases b:p.st=2
   ·have m0:((p.st:Int)==2)=true:=by rw[b];rfl
    replace b:=Aa b;go_wp2_with fail;refine(Y.out _).mono ?_;rintro e w4 ⟨rfl,H⟩;replace H:=Aa (O.out.trans H);obtain⟨q0,q1,q2,q3,q4,q5,q6⟩:=T.out w4 H.out;by_cases U:d<=m'
    ·have j:=Up hp b.out (by rw[<-a.out];exact U);rw[<-a.out]at j;replace j:=Aa j;go_wp2_with fail;refine(Y.out _).mono ?_;rintro e w5 ⟨rfl,Z⟩;go_wp2_with fail;go_roundw
     case rel=>exact⟨i+1,m' - d,rfl,by go_num,by omega,by unfold I64ok';omega,Aa (by rw[J.out,j.out];omega),Aa (H.out.trans Z)⟩
     case measure=>simp only[intOf];omega
    ·have j:=Aa (Uc hp (m:=m') fun q=>U (by rw[a.out];exact q.2));go_wp2_with fail;go_ret;exact⟨by rw[J.out,j.out];rfl,H.out⟩
   ·have j:=Aa (Uc hp (m:=m') fun q=>b q.1);have m0:((p.st:Int)==2)=false:=beq_eq_false_iff_ne.2 b;replace b:=Aa b;go_wp2_with fail;go_ret;exact⟨by rw[J.out,j.out];rfl,O.out⟩
  ·go_wp2_with fail;go_ret;exact⟨by rw[J.out,List.drop_of_length_le (by rw[<-h0.out];omega)];rfl,O.out⟩
theorem SY {l:List Pg} {p:Pg} (h:l[i]? = some p) (s:Int):costG s (l.drop i)=costG (min (s+docsP p) 1099511627776) (l.drop (i+1)):=by
 obtain⟨hi,rfl⟩:=List.getElem?_eq_some_iff.1 h;rw[List.drop_eq_getElem_cons hi];rfl
theorem Uk (A:Option Addr) (n c:Nat) (ps:List Pg) (w:World) (h:GS w A n c ps) :
 Calls prog 17 #[.slice A n c] w fun e w'=>e = .returned (.int .i64 (costG 0 ps))/\Ext w w':=by
 have hd:=Aa TW;have p0:=Aa h.len;have y0:=h.most;replace h:=Aa h;obtain⟨Z,T⟩:=Ab (costG 0 ps);rw[<-T];replace T:=Aa (show Z=costG 0 (ps.drop 0)from T)
 go_in
 go_wp2_with fail
 go_loopw [3,8] (fun s3 s8 wr=>∃(i:Nat) (m:Int),s3 = .int .i64 m/\s8 = .int .i64 (i:Int)/\i<=n/\0<=m/\m<=1099511627776/\Hid (Z=costG m (ps.drop i))/\Hid (Ext w wr)) (fun _ s8 _=>n - (intOf s8).toNat)
 case atStart=>exact⟨0,0,rfl,rfl,by omega,by omega,by omega,T,Aa (Ext.refl _)⟩
 case round =>
  obtain⟨i,m,rfl,rfl,hi,hm,x0,U,G⟩:=hrel;by_cases q0:i<n
  ·obtain⟨g,s,p,rfl,hp,j0,hc⟩:=h.out.at_ q0;have h0:=TU p j0;obtain⟨k0,k1,k2,k3,k4,k5,k6⟩:=hc wr G.out;obtain⟨d,J⟩:=Ab (docsP p);have b:=SY hp m;have H:=Aa (hd.out p);unfold Pg.val at H;rw[<-J]at H h0 b;obtain⟨r,hr⟩:=Ab (min d (1099511627776 - m));have Y:0<=r/\m+r=min (m+d) 1099511627776:=by omega
   have v0:=fun(W:World)=>AQ (P:=prog) #[3,3] 3 hr W;rw[<-Y.2]at b;have m0:m+r<=1099511627776:=by omega
   have c0:=Y.1;replace b:=Aa b;replace hr:=Aa hr;clear J Y hc;go_wp2_with fail;obtain⟨W,O⟩:=Ab (wr.alloc (Obj.cells #[.int .i64 p.id,.int .i64 p.st,.int .i64 p.lo,.int .i64 p.hi,.int .i64 p.fi,.int .i64 p.la,.int .i64 p.n] 79));have a:Ext wr W:=by rw[O];exact(Ext.refl wr).alloc _
   rw[<-O];replace a:=Aa a;replace O:=Aa O;refine(H.out _).mono ?_;rintro e w4 ⟨rfl,I⟩;go_wp2_with fail;go_roundw
   case rel=>exact⟨i+1,m+r,rfl,by go_num,by omega,by omega,m0,Aa (by rw[U.out,b.out]),Aa ((G.out.trans a.out).trans I)⟩
   case measure=>simp only[intOf];omega
  ·have j:Z=m:=by rw[U.out,List.drop_of_length_le (by rw[<-p0.out];omega)];rfl
   replace j:=Aa j;go_wp2_with fail;go_ret;rw[j.out];exact⟨rfl,G.out⟩
theorem Tl:Elem prog 39 43 1 24:=⟨underlying39,⟨_,_,rfl,rfl,rfl,rfl,rfl⟩,by omega,by omega⟩
theorem Th {g s n c k:Nat} (h:k<n) (hn:n<=c) (W:World) :
 (Instr.sliceAt 38 (.slice (some ⟨g,s,none⟩) n c) (some (.int .i64 (k:Int))) none none).run prog W = .ok (.slice (some ⟨g,s+k*7,none⟩) (n - k) (c - k)) W:=by
 have ht:=underlying38;have j:prog.elem 38=79:=by unfold Program.elem;rw[ht]
 have hs:∀W:World,(sizeOf 79).run prog W = .ok 7 W:=fun W=>by kernel_rfl
 have b:((k:Int)).toNat=k:=by omega
 rw[run_sliceAt_slice W _ _ _ _ _ (by rw[ht,j]),run_slice_l W _ _ n c (by rw[ht,j]) .i64 k (by omega) (by omega),j,hs];simp only[Result.andThen_ok];unfold sliced;rw[if_neg (by omega),b];simp[Addr.add_lit]
theorem Uo (a k:Nat):rowG a (k+1)=rowG a k ++ [((a+k:Nat):Int)]:=by
 unfold rowG;rw[List.range_succ,List.map_append];rfl
theorem S1 (a k:Nat):(rowG a k).length=k:=by unfold rowG;rw[List.length_map,List.length_range]
def GrpA (w:World) (L:List (List Int)) (e:Ending) (w':World):Prop:=Ext w w'/\∃(l:List IsC) (A:Option Addr) (n c:Nat),l.map IsC.xs=L/\e = .returned (.slice A n c)/\n=l.length/\IsOwn w' w.heap.size A n c l
theorem Uf (A:Option Addr) (n c:Nat) (m:Int) (ps:List Pg) (w:World) (h:GS w A n c ps) (hm:I64ok' m) (m1:n<=1000000) :
 Calls prog 14 #[.int .i64 m,.slice A n c] w (GrpA w (grpG m 0 ps)):=by
 obtain⟨Z,hZ⟩:=Ab (grpG m 0 ps);rw[<-hZ];replace hZ:=Aa (show Z=grpG m 0 (ps.drop 0)from hZ);have T:=Aa h.len;have t0:=h.cap;have r0:=Aa Tn;replace hm:=Aa hm;replace h:=Aa h
 go_in
 go_wp2_with fail
 go_loopw [5,6] (fun s5 s6 wr=>∃(a k d:Nat) (B:Option Addr) (l:List IsC),s5 = .slice B k d/\s6 = .int .i64 (a:Int)/\a<=n/\k<=a/\Hid (k=l.length)/\Hid (IsOwn wr w.heap.size B k d l)/\Hid (Z=l.map IsC.xs++grpG m a (ps.drop a))/\Hid (Ext w wr)) (fun _ s6 _=>n - (intOf s6).toNat)
 case atStart=>exact⟨0,0,0,none,[],rfl,rfl,by omega,by omega,Aa rfl,Aa (IsOwn.nil _ _),hZ,Aa (Ext.refl _)⟩
 case round =>
  obtain⟨a,k,d,B,l,rfl,rfl,ha,hk,q0,hB,hz,hE⟩:=hrel;by_cases O:a<n
  ·obtain⟨g,s,p,rfl,hp,o0,hc⟩:=h.out.at_ O;clear hp o0 hc;have y0:=fun W=>Th (g:=g) (s:=s) (k:=a) (n:=n) (c:=c) O t0 W;obtain⟨t,ht⟩:=Ab (takeG m (ps.drop a));have y1:t<=n - a:=by rw[ht];exact Nat.le_trans (Ub _ _) (by rw[List.length_drop,<-T.out];exact Nat.le_refl _)
   have J:=r0.out _ _ _ m _ wr ((h.out.ext hE.out).drop (k:=a) ha) hm.out;rw[<-ht]at J;replace J:=Aa J;obtain⟨n3,k0⟩:=Ab (n - a);obtain⟨c3,h0⟩:=Ab (c - a);rw[<-k0,<-h0]at J y0;replace k0:=Aa k0;replace h0:=Aa h0;by_cases h2:t<2
   ·have b:=hz.out;rw[TX O T.out (by rw[<-ht];exact h2)]at b;replace b:=Aa b;replace ht:=Aa ht;go_wp2_with fail;refine(J.out).mono ?_;rintro e w4 ⟨rfl,j⟩;go_wp2_with fail;go_roundw
    case rel=>exact⟨a+1,k,d,B,l,rfl,by go_num,by omega,by omega,q0,Aa (hB.out.ext j),b,Aa (hE.out.trans j)⟩
    case measure=>simp only[intOf];omega
   ·have b:=hz.out;rw[T6 O T.out (by rw[<-ht];exact h2),<-ht]at b;replace b:=Aa b;replace ht:=Aa ht;clear hz;go_wp2_with fail;refine(J.out).mono ?_;rintro e w4 ⟨rfl,j⟩;have f0:=Aa (hB.out.ext j);replace j:=Aa (hE.out.trans j);clear hE hB J y0;go_wp2_with fail
    go_loopw [8,24] (fun s8 s24 wi=>∃(i q:Nat) (C:Option Addr),s8 = .slice C i q/\s24 = .int .i64 (i:Int)/\i<=t/\Hid (wi.ownsRow w4.heap.size 3 1 (.slice C i q) i ((rowG a i).map IV))/\Hid (Ext w4 wi)) (fun _ s24 _=>t - (intOf s24).toNat)
    case atStart=>exact⟨0,0,none,rfl,rfl,by omega,Aa ⟨rfl,.inl ⟨rfl,rfl⟩⟩,Aa (Ext.refl _)⟩
    case round =>
     obtain⟨i,q,C,rfl,rfl,hi,ho,U⟩:=hrel;by_cases j1:i<t
     ·have b0:=Aa (Uo a i);obtain⟨y,hy⟩:=Ab (a+i);have d1:(a:Int)+(i:Int)=(y:Int):=by omega
      rw[<-hy]at b0;have a1:y<=1000000:=by omega
      have g0:=U.out.size;replace hy:=Aa hy;go_wp2_with (at_builtin;refine AS (us:= [.int .i64 (y:Int)]) (m:=1) FY ho.out rfl (.tmp 27) (.tmp 31) rfl rfl rfl rfl rfl (Az rfl) (by omega) g0 (fun A8 c8 w8 Y H p0=>?_);have I:=Aa (U.out.grown H (fun k hk=>by obtain⟨_,_,hb⟩:=Ae ho.out hk;exact hb));replace Y:=Aa Y;clear H p0);go_roundw
      case rel=>exact⟨i+1,c8,A8,rfl,by go_num,by omega,Aa (by rw[b0.out,List.map_append];exact Y.out),I⟩
      case measure=>simp only[intOf];omega
     ·obtain rfl:i=t:=by omega
      have G:=Aa (f0.out.ext U.out);have g0:w.heap.size<=wr.heap.size:=(j.out.trans U.out).size;have i0:k+1<=4294967296:=by omega
      go_wp2_with (at_builtin;refine AS (us:= [.slice C i q]) (m:=1) Tl G.out.own rfl (.tmp 34) (.tmp 36) rfl rfl rfl rfl rfl (Az rfl) i0 g0 (fun A8 c8 w8 Y H p0=>?_);replace Y:=Aa Y;replace H:=Aa H;clear p0);have v0:w.heap.size<=w4.heap.size:=j.out.size;have x0:=S1 a i;have j0:=G.out.push (x:=⟨rowG a i,C,q⟩) (by show World.ownsRow _ _ _ _ (.slice C (rowG a i).length q) _ _;rw[x0];exact AD ho.out v0) (by show World.ownsRow _ _ _ _ _ _ (_ ++ [.slice C (rowG a i).length q]);rw[x0];exact Y.out) H.out;have I:Ext w w8:=(j.out.trans U.out).grown H.out fun k hk=>by obtain⟨_,_,hb⟩:=Ae G.out.own hk;exact hb
      go_roundw
      case rel=>exact⟨a+i,k+1,c8,A8,_,rfl,by go_num,by omega,by omega,Aa (by rw[List.length_append,<-q0.out];rfl),Aa j0,Aa (by rw[b.out,List.map_append,List.append_assoc];rfl),Aa I⟩
      case measure=>simp only[intOf];omega
  ·go_wp2_with fail;go_ret;refine⟨hE.out,l,B,k,d,?_,rfl,q0.out,hB.out⟩;rw[hz.out,T5 (by omega) T.out,List.append_nil]
end
section
open Go.RowKit Go.Maps
def awo (k:Int):List Dc:= [(k,⟨k,[([109,115,103],[97])]⟩)]
def awm:List Dc:= [(3,⟨3,[([109,115,103],[97])]⟩),(5,⟨5,[([109,115,103],[97])]⟩)]
def awB (P:List Dc):Bool:=okDs P&&decide ((blockD 0 P).length<=70000)&&decide (0<P.length)&&(framesD P).all (fun p=>decide (p.length<=16777216))&&decide ((segL P).length<=60000)&&P.all fun d=>decide (-9223372036854775808<=d.2.at_)&&decide (d.2.at_<=9223372036854775807)
structure AwP (P:List Dc):Prop where
  seg:SegP P
  opn:openD (segL P)=some P
  len:(segL P).length<=60000
theorem S2 {P:List Dc} (h:awB P=true):AwP P:=by
 unfold awB at h;simp only[Bool.and_eq_true,decide_eq_true_eq,List.all_eq_true]at h;obtain⟨⟨⟨⟨⟨h1,h2⟩,j⟩,b⟩,a⟩,H⟩:=h;have hs:SegP P:=⟨⟨h1,h2⟩,j⟩
 exact⟨hs,FI hs b fun d hd=>H d hd,a⟩
theorem Tu:AwP (awo 3):=S2 (by kernel_rfl)
theorem Tv:AwP (awo 5):=S2 (by kernel_rfl)
theorem Tt:AwP awm:=S2 (by kernel_rfl)
theorem Ta:mergeD [segL (awo 3),segL (awo 5)]=some [awo 3,awo 5]:=by
 have h:opensD [segL (awo 3),segL (awo 5)]=some [awo 3,awo 5]:=by
  unfold opensD;rw[if_pos (by simp[Tu.opn,Tv.opn])];simp[List.filterMap_cons,Tu.opn,Tv.opn]
 unfold mergeD;rw[h];exact if_pos ⟨by decide,by decide⟩
theorem Tb:mergeD [segL (awo 5),segL (awo 3)]=none:=by
 have j:opensD [segL (awo 5),segL (awo 3)]=some [awo 5,awo 3]:=by
  unfold opensD;rw[if_pos (by simp[Tu.opn,Tv.opn])];simp[List.filterMap_cons,Tu.opn,Tv.opn]
 unfold mergeD;rw[j];exact if_neg fun h=>absurd h.2 (by decide)
theorem Tj:docsM 0 [awo 3,awo 5]=awm:=by kernel_rfl
theorem Tc (k : Int) (w : World) (hk : AwP (awo k)) (T : I64ok' k) :
    Calls prog 33 #[.int .i64 k] w fun e w' => ∃ A n c, e = .returned (.slice A n c) ∧ Own8 w' w.heap.size A n c (segL (awo k)) ∧ Ext w w' := by
  obtain ⟨W, H⟩ := Ab ((w.alloc (Obj.cells #[.string ⟨#[109, 115, 103]⟩, .string ⟨#[97]⟩] 91)).alloc (Obj.cells #[.int .i64 k, .int .i64 k, .slice (some ⟨w.heap.size, 0, none⟩) 1 1] 71))
  have Y : Ext w W := by rw [H]; exact ((Ext.refl w).alloc _).alloc _
  have J : Cells W (some ⟨w.heap.size, 0, none⟩) (fcells [([109, 115, 103], [97])]) := by
    rw [H]
    exact (AN w [.string ⟨#[109, 115, 103]⟩, .string ⟨#[97]⟩] _).ext ((Ext.refl _).alloc _)
  have U : Cells W (some ⟨w.heap.size + 1, 0, none⟩) (dcells [⟨k, ⟨k, [([109, 115, 103], [97])]⟩, some ⟨w.heap.size, 0, none⟩, 1⟩]) := by
    have h1 := AN (w.alloc (Obj.cells #[.string ⟨#[109, 115, 103]⟩, .string ⟨#[97]⟩] 91)) [.int .i64 k, .int .i64 k, .slice (some ⟨w.heap.size, 0, none⟩) 1 1] 71
    rw [World.size_alloc] at h1
    rw [H]
    exact h1
  have O : DocsOk W (some ⟨w.heap.size + 1, 0, none⟩) [⟨k, ⟨k, [([109, 115, 103], [97])]⟩, some ⟨w.heap.size, 0, none⟩, 1⟩] := ⟨U, fun x hx => by
    rw [List.mem_singleton.1 hx]
    exact ⟨⟨J, by show (1 : Nat) ≤ _; omega, fun f hf => by
      rw [List.mem_singleton.1 hf]
      exact ⟨by show (3 : Nat) ≤ _; omega, by show (1 : Nat) ≤ _; omega⟩⟩, T, T⟩⟩
  have j := CY [⟨k, ⟨k, [([109, 115, 103], [97])]⟩, some ⟨w.heap.size, 0, none⟩, 1⟩] (some ⟨w.heap.size + 1, 0, none⟩) 1 1 W rfl O (fun a I => by cases I; rfl) (by omega) hk.seg.sm (by omega)
  replace j := Aa j
  replace H := Aa H
  clear J U O hk
  go_in
  go_wp2_with fail
  rw [← H.out]
  refine j.out.mono ?_
  rintro e w1 ⟨A1, c1, rfl, h, G⟩
  have Z : segL (dcs [⟨k, ⟨k, [([109, 115, 103], [97])]⟩, some ⟨w.heap.size, 0, none⟩, 1⟩]) = segL (awo k) := rfl
  rw [Z] at h ⊢
  obtain ⟨n1, b⟩ := Ab ((segL (awo k)).length)
  rw [← b] at h ⊢
  replace b := Aa b
  replace h := Aa h
  clear Z
  go_wp2_with fail
  go_ret
  exact ⟨A1, n1, c1, rfl, ⟨h.out.1, h.out.2.lower Y.size⟩, Y.trans G⟩
end
section
open Go.RowKit Go.Maps
def awG (n:Int):Pg:=⟨0,2,0,0,0,0,n⟩
theorem TB:grpG 10 0 [awG 4,awG 5,awG 6] = [[0,1]]:=by
 have h1:=T6 (m:=10) (l:= [awG 4,awG 5,awG 6]) (a:=0) (n:=3) (by omega) rfl (by decide);have h2:=TX (m:=10) (l:= [awG 4,awG 5,awG 6]) (a:=2) (n:=3) (by omega) rfl (by decide);have h:=T5 (m:=10) (l:= [awG 4,awG 5,awG 6]) (a:=3) (n:=3) (by omega) rfl;have j:takeG 10 ([awG 4,awG 5,awG 6].drop 0)=2:=by decide
 rw[j]at h1;rw[show [awG 4,awG 5,awG 6] = [awG 4,awG 5,awG 6].drop 0 from rfl,h1];rw[show 0+2=2 from rfl,h2,show 2+1=3 from rfl,h];rfl
theorem Own8.low {base n c:Nat} (h:Own8 w base A n c l):Own8 w 0 A n c l:=⟨h.1,h.2.lower (Nat.zero_le _)⟩
theorem Tz (h1:Own8 w 0 A1 n1 c1 l1) (h2:Own8 w 0 A2 n2 c2 l2) (q1:OpnB l1) (q2:OpnB l2) (T:TypeId) :
 BssR (w.alloc (Obj.cells #[.slice A1 n1 c1,.slice A2 n2 c2] T)) (some ⟨w.heap.size,0,none⟩) [⟨l1,A1,c1⟩,⟨l2,A2,c2⟩]:=by
 obtain⟨rfl,b1⟩:=h1;obtain⟨rfl,b2⟩:=h2;refine⟨AN w [.slice A1 l1.length c1,.slice A2 l2.length c2] T,fun x h=>?_⟩;simp only[List.mem_cons,List.not_mem_nil,or_false]at h;rcases h with rfl | rfl
 ·exact⟨.inl (b1.in8.ext ((Ext.refl w).alloc _)),q1⟩
 ·exact⟨.inl (b2.in8.ext ((Ext.refl w).alloc _)),q2⟩
theorem AT (w : World) : Calls prog 13 #[] w fun e w' => e = .returned (.bool true) ∧ Ext w w' := by
  have h0 := Aa fun W => Tc 3 W Tu (by unfold I64ok'; omega)
  have c0 := Aa fun W => Tc 5 W Tv (by unfold I64ok'; omega)
  obtain ⟨W, hW⟩ := Ab (w.alloc (Obj.cells #[.int .i64 0, .int .i64 2, .int .i64 0, .int .i64 0, .int .i64 0, .int .i64 0, .int .i64 4, .int .i64 0, .int .i64 2, .int .i64 0, .int .i64 0, .int .i64 0, .int .i64 0, .int .i64 5, .int .i64 0, .int .i64 2, .int .i64 0, .int .i64 0, .int .i64 0, .int .i64 0, .int .i64 6] 79))
  have r0 : Ext w W := by rw [hW]; exact (Ext.refl w).alloc _
  have i1 : GS W (some ⟨w.heap.size, 0, none⟩) 3 3 [awG 4, awG 5, awG 6] := ⟨rfl, by rw [hW]; exact AN w _ _, by omega, by omega, fun p hp => by
    simp only [List.mem_cons, List.not_mem_nil, or_false] at hp
    unfold I64ok'
    rcases hp with rfl | rfl | rfl <;> decide⟩
  have Z := Uf _ 3 3 10 _ W i1 (by unfold I64ok'; omega) (by omega)
  rw [TB] at Z
  replace Z := Aa Z
  replace r0 := Aa r0
  clear i1
  go_in
  go_wp2_with fail
  rw [← hW]
  clear hW
  refine Z.out.mono ?_
  rintro e w1 ⟨d0, l1, B1, k1, d1, b0, rfl, j2, h1⟩
  obtain ⟨x1, x2⟩ : ∃ x1, l1 = [x1] ∧ x1.xs = [0, 1] := by
    cases l1 with
    | nil => cases b0
    | cons x t =>
      cases t with
      | nil => exact ⟨x, rfl, by injection b0⟩
      | cons y u => exact absurd (congrArg List.length b0) (by simp)
  obtain ⟨rfl, y2⟩ := x2
  obtain rfl : k1 = 1 := j2
  replace h1 := Aa h1
  replace d0 := Aa (r0.out.trans d0)
  clear b0 Z
  go_wp2_with fail
  refine (h0.out w1).mono ?_
  rintro e w2 ⟨A2, n2, c2, rfl, v0, e0⟩
  replace v0 := Aa v0.low
  replace e0 := Aa e0
  go_wp2_with fail
  refine (c0.out w2).mono ?_
  rintro e w3 ⟨A3, n3, c3, rfl, y1, f0⟩
  obtain ⟨W4, m0⟩ := Ab (w3.alloc (Obj.cells #[.slice A2 n2 c2, .slice A3 n3 c3] 24))
  have i0 : Ext w1 W4 := by rw [m0]; exact (e0.out.trans f0).alloc _
  have h := TK _ _ 2 2 0 W4 rfl (by rw [m0]; exact Tz (v0.out.ext f0) y1.low (.few Tu.len) (.few Tv.len) _) (by omega) (fun Ps T _ => by rw [show List.map BsC.b _ = [segL (awo 3), segL (awo 5)] from rfl, Ta] at T; rw [← Option.some.inj T, Tj]; exact Tt.seg.sm)
  rw [show List.map BsC.b _ = [segL (awo 3), segL (awo 5)] from rfl, Ta] at h
  unfold MrA at h
  simp only [Tj, if_neg (show ¬ awm = [] from nofun)] at h
  obtain ⟨nm, G⟩ := Ab ((segL awm).length)
  unfold OkB at h
  rw [← G] at h
  replace h := Aa h
  replace i0 := Aa i0
  replace G := Aa G
  clear v0 y1 f0
  go_wp2_with fail
  rw [← m0]
  clear m0
  refine h.out.mono ?_
  rintro e w5 ⟨A5, c5, rfl, a1, l0⟩
  have q0 := J8 awm Tt.seg Tt.opn Tt.len A5 c5 w5 (by rw [← G.out]; exact a1.low)
  rw [← G.out] at q0
  replace q0 := Aa q0
  replace l0 := Aa (i0.out.trans l0)
  clear a1 h
  go_wp2_with fail
  refine q0.out.mono ?_
  rintro e w6 ⟨g6, rfl, H, n0⟩
  replace H := Aa H
  replace n0 := Aa (l0.out.trans n0)
  clear q0
  go_wp2_with fail
  refine (c0.out w6).mono ?_
  rintro e w7 ⟨A7, n7, c7, rfl, x0, j0⟩
  replace x0 := Aa x0.low
  replace H := Aa (H.out.ext j0)
  replace j0 := Aa (n0.out.trans j0)
  go_wp2_with fail
  refine (h0.out w7).mono ?_
  rintro e w8 ⟨A8, n8, c8, rfl, e1, o0⟩
  obtain ⟨W9, t0⟩ := Ab (w8.alloc (Obj.cells #[.slice A7 n7 c7, .slice A8 n8 c8] 24))
  have g0 : Ext w7 W9 := by rw [t0]; exact o0.alloc _
  have h := TK _ _ 2 2 0 W9 rfl (by rw [t0]; exact Tz (x0.out.ext o0) e1.low (.few Tv.len) (.few Tu.len) _) (by omega) (fun Ps T _ => by rw [show List.map BsC.b _ = [segL (awo 5), segL (awo 3)] from rfl, Tb] at T; cases T)
  rw [show List.map BsC.b _ = [segL (awo 5), segL (awo 3)] from rfl, Tb] at h
  unfold MrA at h
  simp only at h
  replace h := Aa h
  replace g0 := Aa g0
  clear x0 e1 o0
  go_wp2_with fail
  rw [← t0]
  clear t0
  refine h.out.mono ?_
  rintro e w10 ⟨rfl, j⟩
  replace H := Aa (H.out.ext (g0.out.trans j))
  replace j := Aa ((j0.out.trans g0.out).trans j)
  have I := h1.out.ext j.out
  obtain ⟨gB, oB, rfl, f1⟩ := (Cells.of_own I.own).at_ (by show 0 < 1; omega)
  have k0 := f1 0 x1.val rfl
  have p0 := Cells.of_own (I.each x1 (List.mem_singleton.2 rfl))
  rw [Nat.add_zero] at k0
  unfold IsC.val at k0
  rw [y2] at k0 p0
  have m2 := Fh g6 awm w10 H.out (by decide) (by decide)
  have j1 := fun W (hE : Ext w10 W) B hB => Uh x1.A B 2 x1.c 2 [0, 1] W rfl (p0.ext hE) hB (by omega)
  replace j1 := Aa j1
  clear f1 p0 I
  have k0' : w10.cell? ⟨gB, oB, none⟩ = some (.slice x1.A 2 x1.c) := k0
  clear k0
  replace h0 := Aa True.intro
  obtain ⟨W11, a⟩ := Ab (w10.alloc (Obj.cells #[.int .i64 0, .int .i64 1] 3))
  have q1 := j1.out W11 (by rw [a]; exact (Ext.refl _).alloc _) (some ⟨w10.heap.size, 0, none⟩) (by rw [a]; exact AN w10 _ _)
  have U : Ext w10 W11 := by rw [a]; exact (Ext.refl _).alloc _
  replace q1 := Aa q1
  replace U := Aa U
  go_wp2_with fail
  rw [← a]
  clear a
  refine q1.out.mono ?_
  rintro e w12 ⟨rfl, Y⟩
  replace Y := Aa (U.out.trans Y)
  have o1 := Aa (Fh g6 awm w12 (H.out.ext Y.out) (by decide) (by decide))
  clear m2
  go_wp2_with fail
  refine o1.out.mono ?_
  rintro e w13 ⟨rfl, h2⟩
  obtain rfl := h2.symm
  obtain ⟨W14, J⟩ := Ab (w12.alloc (Obj.cells #[.int .i64 0, .int .i64 0, .int .i64 0, .int .i64 0, .int .i64 0, .int .i64 0, .int .i64 7] 79))
  have O : Ext w12 W14 := by rw [J]; exact (Ext.refl _).alloc _
  have y0 := Uk (some ⟨w12.heap.size, 0, none⟩) 1 1 [⟨0, 0, 0, 0, 0, 0, 7⟩] W14 ⟨rfl, by rw [J]; exact AN w12 _ _, by omega, by omega, fun p hp => by rw [List.mem_singleton.1 hp]; unfold I64ok'; decide⟩
  rw [show costG 0 [⟨0, 0, 0, 0, 0, 0, 7⟩] = 7 by decide] at y0
  replace y0 := Aa y0
  replace O := Aa O
  go_wp2_with fail
  rw [← J]
  clear J
  refine y0.out.mono ?_
  rintro e w15 ⟨rfl, m1⟩
  go_wp2_with fail
  go_ret
  exact ⟨rfl, (((d0.out.trans j.out).trans Y.out).trans O.out).trans m1⟩
end
section
open Go.RowKit Go.Maps
theorem Ax:∀ {a b:List Dc} {lo:Int},risP lo (a++b)=true->risP lo a=true/\risP (lastD lo a) b=true
 | [],_,_,h=>⟨rfl,h⟩
 | x::t,b,lo,h=>by
  have j:risP lo (x::(t++b))=true:=h;rw[TF]at j ⊢;have ih:=Ax j.2;exact⟨⟨j.1,ih.1⟩,ih.2⟩
structure Sm3 (P:List Dc):Prop where
  few:Few8 P
  ok:okDs P=true
  ne:0<P.length
theorem Sm3.seg {P:List Dc} (h:Sm3 P):SegP P:=⟨h.few.sm h.ok,h.ne⟩
theorem AZ {P:List Dc} (h:okDs P=true):risP 0 P=true/\P.all okD=true:=by
 unfold okDs at h;rw[Bool.and_eq_true,Bool.and_eq_true]at h;exact h.2
theorem B3 {P:List Dc} (hn:P.length<=65536) (h1:risP 0 P=true) (h2:P.all okD=true):okDs P=true:=by
 unfold okDs;rw[Bool.and_eq_true,Bool.and_eq_true];exact⟨decide_eq_true hn,h1,h2⟩
theorem Sm3.cut {a b:List Dc} (h:Sm3 (a++b)) (j:0<a.length) (hb:0<b.length):Sm3 a/\Sm3 b/\lastD 0 a<fstD b:=by
 obtain⟨h1,h2⟩:=AZ h.ok;obtain⟨r1,r2⟩:=Ax h1;rw[List.all_append,Bool.and_eq_true]at h2;have H:=(Uy r1 (by omega)).1;have hn:=h.few.n;rw[List.length_append]at hn;refine⟨⟨⟨by omega,fun d hd=>h.few.each d (List.mem_append_left _ hd)⟩,B3 (by omega) r1 h2.1,j⟩,⟨⟨by omega,fun d hd=>h.few.each d (List.mem_append_right _ hd)⟩,B3 (by omega) (Un H r2) h2.2,hb⟩,?_⟩;cases b with
 | nil=>simp at hb
 | cons x t=>exact(TF.1 r2).1.1
theorem Sm3.at_ {P:List Dc} (h:Sm3 P):∀d∈P,I64ok' d.2.at_:=fun d hd=>(h.few.each d hd).1
structure Opn (P:List Dc):Prop where
  sm:Sm3 P
  opn:openD (segL P)=some P
  by_:OpnB (segL P)
theorem At {P:List Dc} (h:Sm3 P) (b:∀p∈framesD P,p.length<=16777216):Opn P:=by
 refine⟨h,FI h.seg b h.at_,?_,fun Q _ H=>?_⟩
 ·have h1:=Cv b;have h2:(segL P).length=4+(joinL (framesD P)).length:=by unfold segL;rw[List.length_append];rfl
  have a:(framesD P).length=6:=rfl;omega
 ·rw[show (segL P).drop 4=joinL (framesD P)from rfl,CW _ b]at H;have a:=J1 h.ok h.at_ (by have:=h.seg.sm.sz;omega);have j:decDs (encDs P)=some Q:=H;rw[a]at j;rw[<-Option.some.inj j];exact h.seg.sm.sz
theorem Ar:∀ {Ps:List (List Dc)},(∀P∈Ps,openD (segL P)=some P)->0<Ps.length->chainD 0 Ps=true->mergeD (Ps.map segL)=some Ps:=fun {Ps} h hn J=>by
 have h2:∀Qs:List (List Dc),(∀P∈Qs,openD (segL P)=some P)->(Qs.map segL).all (fun b=>(openD b).isSome)=true/\(Qs.map segL).filterMap openD=Qs:=by
  intro Qs
  induction Qs with
  | nil=>intro _;exact⟨rfl,rfl⟩
  | cons P t ih =>
   intro h;obtain⟨i1,i2⟩:=ih fun Q Y=>h Q (List.mem_cons_of_mem _ Y);have j:=h P (List.mem_cons_self ..);rw[List.map_cons,List.all_cons,List.filterMap_cons,j,i1,i2];exact⟨rfl,rfl⟩
 obtain⟨a,H⟩:=h2 Ps h;unfold mergeD opensD;rw[if_pos a,H];exact if_pos ⟨hn,J⟩
theorem As {Ps:List (List Dc)} (h:∀d∈Ps.flatten,I64ok' d.2.at_):docsM (-9223372036854775808) Ps=Ps.flatten:=List.filter_eq_self.2 fun d hd=>by
 have:=(h d hd).1;unfold keepP;rw[decide_eq_false (by omega)];rfl
abbrev frB (P:List Dc):Prop:=∀p∈framesD P,p.length<=16777216
theorem Sm3.fst {P:List Dc} (h:Sm3 P):0<fstD P:=by
 have h1:=(AZ h.ok).1;cases P with
 | nil=>exact absurd h.ne (by simp)
 | cons x t=>exact(TF.1 h1).1.1
theorem D2 {a b:List Dc} (h:0<a.length):fstD (a++b)=fstD a:=by cases a with | nil=>simp at h | cons x t=>rfl
theorem B7 {α:Type} {l:List α} (h:i<=k) (j:k<=n) (hn:n=l.length):l.take i++((l.drop i).take (k - i)++(l.drop k).take (n - k))=l/\l.take k=l.take i++(l.drop i).take (k - i):=by
 have e1:(l.drop k).take (n - k)=l.drop k:=List.take_of_length_le (by rw[List.length_drop];omega);have e2:(l.drop i).take (k - i)++l.drop k=l.drop i:=by
  have:=List.take_append_drop (k - i) (l.drop i);rw[List.drop_drop,show i+(k - i)=k by omega]at this;exact this
 refine⟨by rw[e1,e2,List.take_append_drop],?_⟩
 conv=>lhs;rw[show k=i+(k - i)by omega,List.take_add]
structure Cut3 (F a b c:List Dc):Prop where
  oa:Opn a
  ob:Opn b
  oc:Opn c
  oab:Opn (a++b)
  oF:Opn F
  m3:mergeD [segL a,segL b,segL c]=some [a,b,c]
  m2:mergeD [segL a,segL b]=some [a,b]
  m1:mergeD [segL (a++b),segL c]=some [a++b,c]
  d3:docsM (-9223372036854775808) [a,b,c]=F
  d2:docsM (-9223372036854775808) [a,b]=a++b
  d1:docsM (-9223372036854775808) [a++b,c]=F
  fl : [a,b,c].flatten=F
theorem F2 {F a b c:List Dc} (h:Sm3 F) (J:F=a++(b++c)) (Z:0<a.length) (hb:0<b.length) (O:0<c.length) (fa:SmP a->frB a) (fb:SmP b->frB b) (fc:SmP c->frB c) (fab:SmP (a++b)->frB (a++b)) (fF:SmP F->frB F):Cut3 F a b c:=by
 have Y:=h;rw[J]at h;obtain⟨sa,sbc,h1⟩:=h.cut Z (by rw[List.length_append];omega);obtain⟨sb,sc,h2⟩:=sbc.cut hb O;have U:=h;rw[<-List.append_assoc]at U;obtain⟨sab,_,T⟩:=U.cut (by rw[List.length_append];omega) O;rw[D2 hb]at h1;have oa:=At sa (fa sa.seg.sm);have ob:=At sb (fb sb.seg.sm);have oc:=At sc (fc sc.seg.sm);have oab:=At sab (fab sab.seg.sm);have e3 : [a,b,c].flatten=F:=by rw[J];simp
 have e1 : [a++b,c].flatten=F:=by rw[J];simp
 have e2 : [a,b].flatten=a++b:=by simp
 have H:=Y.at_;refine⟨oa,ob,oc,oab,At Y (fF Y.seg.sm),?_,?_,?_,?_,?_,?_,e3⟩
 ·refine Ar (Ps:= [a,b,c]) (fun P j=>?_) (by simp) ?_
  ·simp only[List.mem_cons,List.not_mem_nil,or_false]at j;rcases j with rfl | rfl | rfl
   ·exact oa.opn
   ·exact ob.opn
   ·exact oc.opn
  ·unfold chainD chainD chainD chainD;rw[decide_eq_true sa.fst,decide_eq_true h1,decide_eq_true h2];rfl
 ·refine Ar (Ps:= [a,b]) (fun P j=>?_) (by simp) ?_
  ·simp only[List.mem_cons,List.not_mem_nil,or_false]at j;rcases j with rfl | rfl
   ·exact oa.opn
   ·exact ob.opn
  ·unfold chainD chainD chainD;rw[decide_eq_true sa.fst,decide_eq_true h1];rfl
 ·refine Ar (Ps:= [a++b,c]) (fun P j=>?_) (by simp) ?_
  ·simp only[List.mem_cons,List.not_mem_nil,or_false]at j;rcases j with rfl | rfl
   ·exact oab.opn
   ·exact oc.opn
  ·unfold chainD chainD chainD;rw[decide_eq_true sab.fst,decide_eq_true T];rfl
 ·rw[As (by rw[e3];exact H),e3]
 ·rw[As (by rw[e2];exact sab.at_),e2]
 ·rw[As (by rw[e1];exact H),e1]
theorem DocsOk.mid {ds:List DocC} (h:DocsOk w (some ⟨g,0,none⟩) ds) (a m:Nat):DocsOk w (some ⟨g,a*3,none⟩) ((ds.drop a).take m):=by
 refine⟨?_,fun x J=>h.each x (List.mem_of_mem_drop (List.mem_of_mem_take J))⟩;rcases h.cells with b | ⟨g',o,Y,b⟩
 ·have H:ds = []:=List.eq_nil_of_length_eq_zero (by have:=congrArg List.length b;rw[Er,List.length_nil]at this;omega);subst H;exact .inl (by simp[dcells])
 ·cases Y;refine .inr ⟨g,a*3,rfl,fun i v j=>?_⟩;unfold dcells at j;rw[Bh (f:=DocC.cells) (k:=3) (fun _=>rfl),Bo (f:=DocC.cells) (k:=3) (fun _=>rfl),List.getElem?_take]at j;split at j
  ·rw[List.getElem?_drop]at j;have:=b _ _ j;rw[Nat.zero_add]at this;exact this
  ·cases j
theorem EB (h:k<=m) (hn:m<=n) (a:n<=c) (hk:k<c) (W:World) :
 (Instr.sliceAt 30 (.slice (some ⟨g,0,none⟩) n c) (some (.int .i64 (k:Int))) (some (.int .i64 (m:Int))) none).run prog W = .ok (.slice (some ⟨g,k*3,none⟩) (m - k) (c - k)) W:=by
 have ht:=underlying30;have j:prog.elem 30=71:=by unfold Program.elem;rw[ht]
 have hs:∀W:World,(sizeOf 71).run prog W = .ok 3 W:=fun W=>by kernel_rfl
 have b:((k:Int)).toNat=k:=by omega
 have H:((m:Int) - (k:Int)).toNat=m - k:=by omega
 rw[run_sliceAt_slice W _ _ _ _ _ (by rw[ht,j]),run_slice_lh W _ _ n c (by rw[ht,j]) .i64 .i64 k m (by omega) (by omega) (by omega),j,hs];simp only[Result.andThen_ok];unfold sliced;rw[if_neg (by omega),b];simp[Addr.add_lit]
 try omega
theorem H4 (h1:Own8 w 0 A1 n1 c1 l1) (h2:Own8 w 0 A2 n2 c2 l2) (j:Own8 w 0 A3 n3 c3 l3) (q1:OpnB l1) (q2:OpnB l2) (q3:OpnB l3) (T:TypeId) :
 BssR (w.alloc (Obj.cells #[.slice A1 n1 c1,.slice A2 n2 c2,.slice A3 n3 c3] T)) (some ⟨w.heap.size,0,none⟩) [⟨l1,A1,c1⟩,⟨l2,A2,c2⟩,⟨l3,A3,c3⟩]:=by
 obtain⟨rfl,b1⟩:=h1;obtain⟨rfl,b2⟩:=h2;obtain⟨rfl,b3⟩:=j;refine⟨AN w [.slice A1 l1.length c1,.slice A2 l2.length c2,.slice A3 l3.length c3] T,fun x h=>?_⟩;simp only[List.mem_cons,List.not_mem_nil,or_false]at h;rcases h with rfl | rfl | rfl
 ·exact⟨.inl (b1.in8.ext ((Ext.refl w).alloc _)),q1⟩
 ·exact⟨.inl (b2.in8.ext ((Ext.refl w).alloc _)),q2⟩
 ·exact⟨.inl (b3.in8.ext ((Ext.refl w).alloc _)),q3⟩
end
section
open Go.RowKit Go.Maps
theorem UP (a:Addr) (n c:Nat) (l:List Int) (w:World) (hn:n=l.length) (J:Cells w (some a) (l.map IV)) (O:n<=1073741824) :
 Calls prog 75 #[.slice (some a) n c] w fun e w'=>∃A1 c1,e = .returned (.slice A1 n c1)/\w'.ownsRow w.heap.size 3 1 (.slice A1 n c1) n (l.map IV)/\Ext w w':=by
 have G:=fun W=>Lib.run_eql_slice_nil (P:=prog) W 43 3 (some a) n c 0 0 underlying43;have T:=IN w 3;have h:Ext w (w.alloc (.cells #[] 3)):=(Ext.refl w).alloc _;have hb:=J.ext h;have j:(l.map IV).length=n*1:=by rw[List.length_map,hn];omega
 have h1:∀u∈l.map IV,u.oneCell'=true:=fun u Z=>by obtain⟨x,_,rfl⟩:=List.mem_map.1 Z;rfl
 have Y:w.heap.size<=(w.alloc (.cells #[] 3)).heap.size:=h.size;replace j:=Aa j;replace hn:=Aa hn
 go_in
 go_wp2_with (at_builtin;refine AV (m:=n) FY T hb (.tmp 5) (.tmp 6) rfl rfl rfl rfl rfl j.out h1 (by omega) Y (fun A1 c1 w3 b H U=>?_));go_ret;rw[Nat.zero_add]at b;exact⟨A1,c1,by simp,b,h.grown H (fun k hk=>by cases hk;exact Nat.le_refl _)⟩
end
section
open Go.RowKit Go.Maps
def shiftP (k:Int) (l:List Po):List Po:=l.map fun p=>(p.1+k,p.2)
def JoinA (w:World) (L:List Po) (e:Ending) (w':World):Prop:=∃(D:List PoC) (C:Option Addr) (n q:Nat),e = .returned (.tuple #[.slice C n q,.int .i64 0])/\n=D.length/\psP D=L/\PosOk w' C D/\Ext w w'
theorem Done.add {C A1 A8:Option Addr} {i q c1 c8 n:Nat} {D:List PoC} {p:List Int} (h:Done w w3 C i q D) (hn:n=p.length) (b:n<=1000000000) (J:Buf w3 w.heap.size 3 A1 n c1 (p.map IV))
 (O:w8.ownsRow w.heap.size 89 2 (.slice A8 (i+1) c8) (i+1) (pcells D ++ [.int .i64 d,.slice A1 n c1])) (U:w3.grownBy w8 (Value.slice C i q).ownBlock):Done w w8 A8 (i+1) c8 (D ++ [⟨d,p,A1,c1⟩]):=by
 have H:Chg (fun k=>(Value.slice C i q).ownBlock=some k) w3 w8:=Chg.of_grown U fun _ _ h=>h;refine⟨by rw[List.length_append,h.len];rfl,by rw[F9];show World.ownsRow _ _ _ _ _ _ (_ ++ [.int .i64 d,.slice A1 p.length c1]);rw[<-hn];exact O,fun x j=>?_⟩;have hb:Buf w3 w.heap.size 3 x.A x.pos.length x.c (x.pos.map IV)/\x.pos.length<=1000000000:=by
  rcases List.mem_append.1 j with j | j
  ·exact h.each x j
  ·rw[List.mem_singleton.1 j];exact⟨by rw[<-hn];exact J,by rw[<-hn];exact b⟩
 exact⟨hb.1.chg H fun a Y hs=>by
  obtain⟨cs,T,_⟩:=Ae h.own hs;exact hb.1.unlike T (by decide) a Y rfl,hb.2⟩
theorem UL {l:List PoC} (h:okPs (psP l)=true) {x:PoC} (j:x∈l):0<x.pos.length:=by
 unfold okPs at h;rw[Bool.and_eq_true,List.all_eq_true]at h;have:=h.2 x.po (List.mem_map.2 ⟨x,j,rfl⟩);rw[Bool.and_eq_true]at this;exact of_decide_eq_true this.1
theorem UU (pa pb:List PoC) (A B:Option Addr) (m c k b:Nat) (by_:Nat) (w:World) (hm:m=pa.length) (hk:k=pb.length) (ha:PosOk w A pa) (hb:PosOk w B pb) (h1:okPs (psP pa)=true) (h2:okPs (psP pb)=true)
 (y3:by_<=65536) (h3:okPs (psP pa++shiftP by_ (psP pb))=true) (z3:m+k<=1000000) (d1:∀x∈pb,-65536<=x.doc/\x.doc<=65536) :
 Calls prog 38 #[.slice A m c,.slice B k b,.int .i64 (by_:Int)] w (JoinA w (psP pa++shiftP by_ (psP pb))):=by
 have a1:=Aa (Ku pa A m c w hm ha (by omega));have f0:=Aa fun W (hE:Ext w W)=>Ku pb B k b W hk (hb.ext hE) (by omega);have q3:=Aa fun D C n q W (hn:n=List.length D) h9 h=>Ku D C n q W hn h h9;rw[show pa.map PoC.po=psP pa from rfl,h1,if_pos rfl]at a1;rw[show pb.map PoC.po=psP pb from rfl,h2,if_pos rfl]at f0;have y2:=Aa UP;obtain⟨Z,hZ⟩:=Ab (psP pa++shiftP by_ (psP pb));rw[<-hZ]at h3 ⊢;have j3:=Aa fun x (H:x∈pa)=>UL h1 H;have m3:=Aa fun x (H:x∈pb)=>UL h2 H;replace hZ:=Aa hZ;replace h3:=Aa h3;replace hm:=Aa hm;replace hk:=Aa hk;replace ha:=Aa ha;replace hb:=Aa hb;replace d1:=Aa d1;clear h1 h2
 go_in
 go_wp2_with fail;refine a1.out.mono ?_;rintro e w1 ⟨rfl,d0⟩;replace f0:=Aa (f0.out w1 d0);replace d0:=Aa d0;go_wp2_with fail;refine f0.out.mono ?_;rintro e w2 ⟨rfl,j1⟩;replace j1:=Aa (d0.out.trans j1);clear a1 f0 d0;go_wp2_with fail
 go_loopw [8,32] (fun s8 s32 wr=>∃(i r q:Nat) (C:Option Addr) (D:List PoC),s8 = .slice C r q/\s32 = .int .i64 (i:Int)/\i<=m/\r<=0+i/\Hid (psP D=(psP (pa.take i)))/\Hid (Done w wr C r q D)/\Hid (Ext w wr)) (fun _ s32 _=>m - (intOf s32).toNat)
 case atStart=>exact⟨0,0,0,none,[],rfl,rfl,by omega,by omega,Aa rfl,Aa ⟨rfl,⟨rfl,.inl ⟨rfl,rfl⟩⟩,nofun⟩,j1⟩
 case round =>
  obtain⟨i,r,q,C,D,rfl,rfl,hi,hr,hD,ho,hE⟩:=hrel;by_cases f1:i<m
  ·obtain⟨x,H⟩:∃x,pa[i]? = some x:=⟨_,List.getElem?_eq_getElem (by rw[<-hm.out];exact f1)⟩
   have y0:=List.mem_of_getElem? H;obtain⟨g,o,rfl,k0,k1⟩:=Bc (ha.out.cells.ext hE.out) H;obtain⟨h0,l0⟩:=ha.out.each x y0;have i0:=j3.out x y0;have t0:psP (pa.take (i+1))=psP (pa.take i) ++ [x.po]:=by
    rw[List.take_add_one,H];exact Kw _ _
   obtain⟨d,p,xA,xc⟩:=x;simp only at k0 k1 h0 i0 l0;obtain⟨xa,rfl⟩:∃xa,xA=some xa:=by
    obtain⟨g',o',h',_⟩:=h0.at_ (by rw[List.length_map];exact i0);exact⟨_,h'⟩
   obtain⟨n,hn⟩:=Ab p.length;rw[<-hn]at k1 l0;obtain⟨W,hW⟩:=Ab (wr.alloc (Obj.cells #[.int .i64 d,.slice (some xa) n xc] 89));have j:Ext wr W:=by rw[hW];exact(Ext.refl wr).alloc _
   have a:Row W wr.heap.size 89 #[.int .i64 d,.slice (some xa) n xc]:=by rw[hW];exact Row.new wr _ _
   obtain⟨bq,J⟩:=Ab wr.heap.size;rw[<-J]at a;have Y:=hE.out.trans j;have G:(W.cell? ⟨bq,0,none⟩=some (.int .i64 d)/\W.cell? ⟨bq,1,none⟩=some (.slice (some xa) n xc)/\Ext w W):=⟨a.cell 0 rfl,a.cell 1 rfl,Y⟩
   have T:(W.drew.cell? ⟨bq,0,none⟩=some (.int .i64 d)/\W.drew.cell? ⟨bq,1,none⟩=some (.slice (some xa) n xc)/\Ext w W.drew):=⟨a.cell 0 rfl,a.cell 1 rfl,Y.drew⟩
   have m0:=j.owns ho.out.own;have j0:∀x,Ext W x->(x.cell? ⟨bq,0,none⟩=some (.int .i64 d)/\x.cell? ⟨bq,1,none⟩=some (.slice (some xa) n xc)/\Ext w x)->Calls prog 75 #[.slice (some xa) n xc] x fun e w'=>∃A1 c1,e = .returned (.slice A1 n c1)/\w'.ownsRow w.heap.size 3 1 (.slice A1 n c1) n (p.map IV)/\Ext W w'/\((w'.cell? ⟨bq,0,none⟩=some (.int .i64 d)/\w'.cell? ⟨bq,1,none⟩=some (.slice (some xa) n xc)/\Ext w w')):=fun x m1 H=>(y2.out xa n xc p x hn (h0.ext H.2.2) (by omega)).mono (by
    rintro e w' ⟨A1,c1,rfl,x1,h1⟩;exact⟨A1,c1,rfl,AD x1 H.2.2.size,m1.trans h1,h1.cell H.1,h1.cell H.2.1,H.2.2.trans h1⟩)
   have O:=j0 W (Ext.refl _) G;have U:=j0 W.drew (Ext.refl _).drew T;have p0:∀(y:World) o,(y.cell? ⟨bq,0,none⟩=some (.int .i64 d)/\y.cell? ⟨bq,1,none⟩=some (.slice (some xa) n xc)/\Ext w y)->((y.alloc o).cell? ⟨bq,0,none⟩=some (.int .i64 d)/\(y.alloc o).cell? ⟨bq,1,none⟩=some (.slice (some xa) n xc)/\Ext w (y.alloc o)):=fun y o hy=>⟨((Ext.refl y).alloc o).cell hy.1,((Ext.refl y).alloc o).cell hy.2.1,hy.2.2.alloc o⟩
   have I:∀y y8,(y.cell? ⟨bq,0,none⟩=some (.int .i64 d)/\y.cell? ⟨bq,1,none⟩=some (.slice (some xa) n xc)/\Ext w y)->y.grownBy y8 (Value.slice C r q).ownBlock->(y8.cell? ⟨bq,0,none⟩=some (.int .i64 d)/\y8.cell? ⟨bq,1,none⟩=some (.slice (some xa) n xc)/\Ext w y8):=fun y y8 hy hg=>by
    have hb:∀k,(Value.slice C r q).ownBlock=some k->w.heap.size<=k/\k<wr.heap.size:=fun k hk=>by obtain⟨_,hr,hb⟩:=Ae ho.out.own hk;exact⟨hb,hr.lt⟩
    have hC:Chg (fun k=>(Value.slice C r q).ownBlock=some k) y y8:=Chg.of_grown hg fun _ _ h=>h;exact⟨hC.cell hy.1 fun h=>by have:=(hb _ h).2;rw[J]at this;simp at this,hC.cell hy.2.1 fun h=>by have:=(hb _ h).2;rw[J]at this;simp at this,hy.2.2.grown hg fun k hk=>(hb k hk).1⟩
   replace m0:=Aa m0;replace p0:=Aa p0;replace I:=Aa I;replace O:=Aa O;replace U:=Aa U;have o1:=(hE.out.trans j).size;replace T:=Aa T;replace G:=Aa G;replace j:=Aa j;replace t0:=Aa t0;replace hn:=Aa hn;clear h0 H a j0 Y;go_wp2_with fail;rw[<-hW,<-J];clear hW J
   go_region_held3 (fun x=>(x.cell? ⟨bq,0,none⟩=some (.int .i64 d)/\x.cell? ⟨bq,1,none⟩=some (.slice (some xa) n xc)/\Ext w x)) (first | exact T.out | exact G.out | exact p0.out _ _ ‹_› | exact I.out _ _ e0 g0 | exact ‹_›) (first
    | (go_at_call 75;first | refine O.out.mono ?_ | refine U.out.mono ?_;rintro e w3 ⟨A1,c1,rfl,y1,q0,e0⟩)
    | (refine OH (us:= [.int .i64 d,.slice A1 n c1]) (m:=1) Pb rfl (q0.owns m0.out) rfl (.tmp 36) (.tmp 43) rfl rfl rfl rfl (Az rfl) (by omega) (Nat.le_trans o1 q0.size) (fun A8 c8 w8 i1 g0=>?_)))
   have q1:=ho.out.chg (Chg.of_ext (j.out.trans q0) (fun _=>False)) fun _ h=>h.elim;have e1:=q1.add (p:=p) (d:=d) hn.out (by omega) (Buf.of_own y1) i1 g0;go_wp2_with fail;go_roundw
   case rel=>exact⟨i+1,r+1,c8,A8,D ++ [⟨d,p,A1,c1⟩],rfl,by go_num,by omega,by omega,Aa (by rw[Kw,hD.out,t0.out];rfl),Aa e1,Aa (I.out _ _ e0 g0).2.2⟩
   case measure=>simp only[intOf];omega
  ·have r0:psP D=psP pa++shiftP by_ (psP (pb.take 0)):=by
    rw[hD.out,List.take_of_length_le (by rw[<-hm.out];omega)];show _=_ ++ [];rw[List.append_nil]
   replace r0:=Aa r0;clear hD;obtain⟨wo,rfl⟩:=Ab wr;go_wp2_with fail
   go_loopw [8,48] (fun s8 s48 wr=>∃(i r q:Nat) (C:Option Addr) (D:List PoC),s8 = .slice C r q/\s48 = .int .i64 (i:Int)/\i<=k/\r<=m+i/\Hid (psP D=psP pa++shiftP by_ (psP (pb.take i)))/\Hid (Done w wr C r q D)/\Hid (Ext w wr)) (fun _ s48 _=>k - (intOf s48).toNat)
   case atStart=>exact⟨0,r,q,C,D,rfl,rfl,by omega,by omega,r0,ho,hE⟩
   case round =>
    obtain⟨i,r,q,C,D,rfl,rfl,hi,hr,hD,ho,hE⟩:=hrel;by_cases f1:i<k
    ·obtain⟨x,H⟩:∃x,pb[i]? = some x:=⟨_,List.getElem?_eq_getElem (by rw[<-hk.out];exact f1)⟩
     have y0:=List.mem_of_getElem? H;obtain⟨g,o,rfl,k0,k1⟩:=Bc (hb.out.cells.ext hE.out) H;obtain⟨h0,l0⟩:=hb.out.each x y0;have i0:=m3.out x y0;have k3:=d1.out x y0;have t0:psP (pb.take (i+1))=psP (pb.take i) ++ [x.po]:=by
      rw[List.take_add_one,H];exact Kw _ _
     obtain⟨d,p,xA,xc⟩:=x;simp only at k0 k1 h0 i0 l0 k3;obtain⟨xa,rfl⟩:∃xa,xA=some xa:=by
      obtain⟨g',o',h',_⟩:=h0.at_ (by rw[List.length_map];exact i0);exact⟨_,h'⟩
     obtain⟨dd,p3⟩:∃dd,d+(by_:Int)=dd:=⟨_,rfl⟩
     have t3 : -9223372036854775808<=dd/\dd<=9223372036854775807:=by omega
     have a3:IntKind.i64.wrap dd=dd:=by rw[IntKind.wrap_i64];omega
     obtain⟨n,hn⟩:=Ab p.length;rw[<-hn]at k1 l0;obtain⟨W,hW⟩:=Ab (wr.alloc (Obj.cells #[.int .i64 d,.slice (some xa) n xc] 89));have j:Ext wr W:=by rw[hW];exact(Ext.refl wr).alloc _
     have a:Row W wr.heap.size 89 #[.int .i64 d,.slice (some xa) n xc]:=by rw[hW];exact Row.new wr _ _
     obtain⟨bq,J⟩:=Ab wr.heap.size;rw[<-J]at a;have Y:=hE.out.trans j;have G:(W.cell? ⟨bq,0,none⟩=some (.int .i64 d)/\W.cell? ⟨bq,1,none⟩=some (.slice (some xa) n xc)/\Ext w W):=⟨a.cell 0 rfl,a.cell 1 rfl,Y⟩
     have T:(W.drew.cell? ⟨bq,0,none⟩=some (.int .i64 d)/\W.drew.cell? ⟨bq,1,none⟩=some (.slice (some xa) n xc)/\Ext w W.drew):=⟨a.cell 0 rfl,a.cell 1 rfl,Y.drew⟩
     have m0:=j.owns ho.out.own;have j0:∀x,Ext W x->(x.cell? ⟨bq,0,none⟩=some (.int .i64 d)/\x.cell? ⟨bq,1,none⟩=some (.slice (some xa) n xc)/\Ext w x)->Calls prog 75 #[.slice (some xa) n xc] x fun e w'=>∃A1 c1,e = .returned (.slice A1 n c1)/\w'.ownsRow w.heap.size 3 1 (.slice A1 n c1) n (p.map IV)/\Ext W w'/\((w'.cell? ⟨bq,0,none⟩=some (.int .i64 d)/\w'.cell? ⟨bq,1,none⟩=some (.slice (some xa) n xc)/\Ext w w')):=fun x m1 H=>(y2.out xa n xc p x hn (h0.ext H.2.2) (by omega)).mono (by
      rintro e w' ⟨A1,c1,rfl,x1,h1⟩;exact⟨A1,c1,rfl,AD x1 H.2.2.size,m1.trans h1,h1.cell H.1,h1.cell H.2.1,H.2.2.trans h1⟩)
     have O:=j0 W (Ext.refl _) G;have U:=j0 W.drew (Ext.refl _).drew T;have p0:∀(y:World) o,(y.cell? ⟨bq,0,none⟩=some (.int .i64 d)/\y.cell? ⟨bq,1,none⟩=some (.slice (some xa) n xc)/\Ext w y)->((y.alloc o).cell? ⟨bq,0,none⟩=some (.int .i64 d)/\(y.alloc o).cell? ⟨bq,1,none⟩=some (.slice (some xa) n xc)/\Ext w (y.alloc o)):=fun y o hy=>⟨((Ext.refl y).alloc o).cell hy.1,((Ext.refl y).alloc o).cell hy.2.1,hy.2.2.alloc o⟩
     have I:∀y y8,(y.cell? ⟨bq,0,none⟩=some (.int .i64 d)/\y.cell? ⟨bq,1,none⟩=some (.slice (some xa) n xc)/\Ext w y)->y.grownBy y8 (Value.slice C r q).ownBlock->(y8.cell? ⟨bq,0,none⟩=some (.int .i64 d)/\y8.cell? ⟨bq,1,none⟩=some (.slice (some xa) n xc)/\Ext w y8):=fun y y8 hy hg=>by
      have hb:∀k,(Value.slice C r q).ownBlock=some k->w.heap.size<=k/\k<wr.heap.size:=fun k hk=>by obtain⟨_,hr,hb⟩:=Ae ho.out.own hk;exact⟨hb,hr.lt⟩
      have hC:Chg (fun k=>(Value.slice C r q).ownBlock=some k) y y8:=Chg.of_grown hg fun _ _ h=>h;exact⟨hC.cell hy.1 fun h=>by have:=(hb _ h).2;rw[J]at this;simp at this,hC.cell hy.2.1 fun h=>by have:=(hb _ h).2;rw[J]at this;simp at this,hy.2.2.grown hg fun k hk=>(hb k hk).1⟩
     replace m0:=Aa m0;replace p0:=Aa p0;replace I:=Aa I;replace O:=Aa O;replace U:=Aa U;have o1:=(hE.out.trans j).size;replace T:=Aa T;replace G:=Aa G;replace j:=Aa j;replace t0:=Aa t0;replace hn:=Aa hn;clear h0 H a j0 Y;go_wp2_with fail;rw[<-hW,<-J];clear hW J
     go_region_held3 (fun x=>(x.cell? ⟨bq,0,none⟩=some (.int .i64 d)/\x.cell? ⟨bq,1,none⟩=some (.slice (some xa) n xc)/\Ext w x)) (first | exact T.out | exact G.out | exact p0.out _ _ ‹_› | exact I.out _ _ e0 g0 | exact ‹_›) (first
      | (go_at_call 75;first | refine O.out.mono ?_ | refine U.out.mono ?_;rintro e w3 ⟨A1,c1,rfl,y1,q0,e0⟩)
      | (refine OH (us:= [.int .i64 dd,.slice A1 n c1]) (m:=1) Pb rfl (q0.owns m0.out) rfl (.tmp 52) (.tmp 61) rfl rfl rfl rfl (Az rfl) (by omega) (Nat.le_trans o1 q0.size) (fun A8 c8 w8 i1 g0=>?_)))
     have q1:=ho.out.chg (Chg.of_ext (j.out.trans q0) (fun _=>False)) fun _ h=>h.elim;have e1:=q1.add (p:=p) (d:=dd) hn.out (by omega) (Buf.of_own y1) i1 g0;go_wp2_with fail;go_roundw
     case rel=>exact⟨i+1,r+1,c8,A8,D ++ [⟨dd,p,A1,c1⟩],rfl,by go_num,by omega,by omega,Aa (by rw[Kw,hD.out,t0.out];unfold shiftP;rw[List.map_append,List.append_assoc,<-p3];rfl),Aa e1,Aa (I.out _ _ e0 g0).2.2⟩
     case measure=>simp only[intOf];omega
    ·have x0:psP D=Z:=by rw[hD.out,List.take_of_length_le (by rw[<-hk.out];omega),hZ.out]
     have o0:=q3.out D C r q wr ho.out.len.symm (by omega) ho.out.pos;rw[show D.map PoC.po=psP D from rfl,x0,h3.out,if_pos rfl]at o0;replace o0:=Aa o0;replace x0:=Aa x0;go_wp2_with fail;refine o0.out.mono ?_;rintro e w5 ⟨rfl,j2⟩;go_wp2_with fail;go_ret2;exact⟨D,C,r,q,rfl,ho.out.len.symm,x0.out,ho.out.pos.ext j2,hE.out.trans j2⟩
end
section
open Go.RowKit Go.Maps
def postsV (t:List UInt8) (P:List Dc):List Po:=valsOf (pairsD 0 P) t
theorem UD (k:Nat):∀(P:List Dc) (i:Nat),pairsD (i+k) P=(pairsD i P).map fun q=>(q.1,(q.2.1+(k:Int),q.2.2))
 | [],i=>rfl
 | d::t,i=>by
  have ih:=UD k t (i+1);rw[show i+1+k=i+k+1 by omega]at ih;show (termsL d.2).map (fun p=>(p.1,(((i+k:Nat):Int),p.2)))++pairsD (i+k+1) t=_;show _=((termsL d.2).map (fun p=>(p.1,((i:Int),p.2)))++pairsD (i+1) t).map _;rw[ih,List.map_append,List.map_map];congr 1
theorem US (k:Nat) (P:List Dc) (t:List UInt8):valsOf (pairsD k P) t=shiftP k (postsV t P):=by
 have:=UD k P 0;rw[Nat.zero_add]at this;rw[this];unfold postsV shiftP valsOf;rw[List.filter_map,List.map_map,List.map_map];rfl
theorem UH (t:List UInt8) (F P:List Dc):postsV t (F++P)=postsV t F++shiftP F.length (postsV t P):=by
 rw[<-US];unfold postsV;rw[CG,AK,Nat.zero_add]
theorem UG {t:List UInt8} {F:List Dc} (h:F.length<=65536):okPs (postsV t F)=true:=by
 obtain⟨h1,h2⟩:=ED t F 0 (-1) (by omega) (by omega);unfold okPs postsV;rw[Bool.and_eq_true];exact⟨h1,List.all_eq_true.2 h2⟩
theorem UB {t:List UInt8} {F:List Dc} (h:F.length<=65536):∀x∈postsV t F,-1<x.1/\x.1<65536:=fun x j=>UN (ED t F 0 (-1) (by omega) (by omega)).1 x.1 (List.mem_map.2 ⟨x,j,rfl⟩)
theorem UI (t:List UInt8) (F:List Dc) (lo:Int):(postsV t F).length<=(blockD lo F).length:=Nat.le_trans (HM _ _) (G4 F 0 lo)
theorem UJ:∀(Ps:List (List Dc)),(∀P∈Ps,P.length<=k)->Ps.flatten.length<=Ps.length*k
 | [],_=>Nat.zero_le _
 | P::Ps,h=>by
  have ih:=UJ Ps fun Q j=>h Q (List.mem_cons_of_mem _ j);have h1:=h P (List.mem_cons_self ..);rw[List.flatten_cons,List.length_append,List.length_cons,Nat.add_mul];omega
theorem UE {Ps:List (List Dc)} {P:List Dc} (h:Ps[i]? = some P):(Ps.take (i+1)).flatten=(Ps.take i).flatten++P:=by
 rw[List.take_add_one,h,List.flatten_append];show _ ++ [P].flatten=_;rw[List.flatten_cons,List.flatten_nil,List.append_nil]
end
section
open Go.ChangeShapes Go.WideShapes Go.ChangeAt Go.Deep Go.RowKit
section
variable {H:Type} {enc:TypeId×Value->H} {w:World} {base:Nat} {held:Bool}
end
theorem In8e.head {b:List UInt8} (h:In8e w A n c b) (hk:k<=n) (j:z=(k:Int)) :
 (∀W:World,(Instr.sliceAt 24 (.slice A n c) none (some (.int .i64 z)) none).run prog W = .ok (.slice A k c) W)/\In8e w A k c (b.take k):=by
 rcases h with h | ⟨rfl,rfl,rfl⟩
 ·obtain⟨h1,h2⟩:=h.headk .i64 hk j;exact⟨h1,.inl h2⟩
 ·obtain rfl:k=0:=by omega
  subst j;exact⟨fun W=>TD W,.inr ⟨rfl,rfl,rfl⟩⟩
end
section
open Go.RowKit Go.Maps
def IdE.cells (x:IdE):List Value:= [.string ⟨x.s.toArray⟩,.slice x.A x.ps.length x.c]
theorem IdE.far_symm {x y:IdE} (h:IdE.far x y):IdE.far y x:=fun a b j hb e=>h b a hb j e.symm
end
section
open Go.RowKit
structure OwnK where
  H:Nat->(Nat->Prop)->Value->World->Prop
  use:Nat->Option Nat
  H0:World->Prop
  own0:Nat->Prop
  use0:Nat
def OwnK.T (K:OwnK) (md:Region.Mode) (ops:Array Oper) (base:Array Bool) (F:Nat->Nat->Prop) (i:Nat) (k:Nat):Prop :=
 (∃o e d,ops[i]? = some o/\e∈o.after/\Region.binds md e=true/\base.getD e.on true=false/\dstOf ops e.on=some d/\K.use e.on=some i/\F e.on k)\/(K.use0=i/\K.own0 k)
end
section
open Go.RowKit Go.Maps
theorem Push.grow (j:w.grownBy w' (Value.slice A n c).ownBlock) (h:A1=A\/A1=some ⟨w.heap.size,0,none⟩):Push w A A1 w':=by
 refine⟨Chg.of_grown j fun k _ hk=>?_,?_⟩
 ·cases A with
  | none=>simp[Value.ownBlock]at hk
  | some b=>exact⟨b,rfl,by simpa [Value.ownBlock]using hk⟩
 ·rcases h with rfl | rfl
  ·exact .inl rfl
  ·exact .inr ⟨_,rfl,Nat.le_refl _⟩
theorem Buf.base {base:Nat} (h:Buf w base e A n c xs):∀a,A=some a->base<=a.block:=fun a j=>by
 obtain⟨_,_,⟨h1,_⟩ | ⟨g,cur,b,hb,_⟩⟩:=h
 ·rw[h1]at j;cases j
 ·rw[b]at j;cases j;exact hb
end
section
open Go.RowKit Go.Maps
theorem PosOk.sub {ps:List PoC} (h:PosOk w A ps) (hn:n=ps.length) (j:∀(w:World) (xs:List Value),xs.length=n*2->Cells w A xs->Cells w A' ((xs.drop (fr*2)).take (k*2))):PosOk w A' ((ps.drop fr).take k):=by
 refine⟨?_,fun x b=>h.each x (List.mem_of_mem_drop (List.mem_of_mem_take b))⟩;have h1:=j w (pcells ps) (by rw[G9,hn]) h.cells;unfold pcells at h1 ⊢;rw[Bh (f:=PoC.cells) (k:=2) (fun _=>rfl),Bo (f:=PoC.cells) (k:=2) (fun _=>rfl)];exact h1
theorem Ee (ps:List PoC):(psP ps).length=ps.length:=List.length_map ..
def Apart (A B:Option Addr):Prop:=∀a b,A=some a->B=some b->a.block≠b.block
theorem Apart.symm {A B:Option Addr} (h:Apart A B):Apart B A:=fun a b j hb e=>h b a hb j e.symm
theorem Push.apart {A A1 B:Option Addr} (h:Push w A A1 w1) (Y:∀b,B=some b->b.block<w.heap.size) (hn:Apart A B):Apart A1 B:=fun a b j hb=>by
 rcases h.new with rfl | ⟨q,H,J⟩
 ·exact hn a b j hb
 ·rw[j]at H;cases H;have:=Y b hb;omega
theorem Buf.push {base n c:Nat} {A A1 B:Option Addr} (hb:Buf w base e B n c xs) (h:Push w A A1 w1) (hn:Apart A B):Buf w1 base e B n c xs:=by
 obtain⟨h1,h2,⟨b,H⟩ | ⟨g,cur,j,U,O,Y⟩⟩:=hb
 ·exact⟨h1,h2,.inl ⟨b,H⟩⟩
 ·exact⟨h1,h2,.inr ⟨g,cur,j,U,h.row O fun a J=>hn a _ J j,Y⟩⟩
end
end Go.Proofs.YtfifdilapbeiiaaGreat
