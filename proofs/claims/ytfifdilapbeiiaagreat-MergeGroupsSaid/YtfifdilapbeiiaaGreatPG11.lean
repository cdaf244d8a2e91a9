/- Texts of one proof, joined. -/
import Derived.Test.YtfifdilapbeiiaaGreatPG10
set_option linter.unusedSimpArgs false
set_option linter.unusedVariables false
set_option maxRecDepth 100000
set_option maxHeartbeats 16000000
namespace Go.Proofs.YtfifdilapbeiiaaGreat
open _root_.Go.Proofs.Tryz
variable {a a' a0:Act} {listed:Array Bool} {ops:Array Oper} {cs cs' lb vs:Array Value} {Q R:Exit → Act → World → Prop} {fl la la0 z z0 z1 z2:Int} {bs ks ns ps:List (List UInt8)} {L':List (Value × Value)} {ms rs:List Nat} {Hd Hd' L f l l1 l2 nm p pre r r1 r2 s tx:List UInt8} {news us xs ys:List Value} {B B1 M N X acc b b1 b2 base bytes c c' c1 c2 c3 cl fr fuel g g' g1 g2 g3 gd gf i j k lo m m' n n1 n2 n3 off q x:Nat} {S:Nat → Prop} {o y:Oper} {A A' A1 A2 A3 A8:Option Addr} {P:Program} {md:Region.Mode} {E T e t t' t1 t2 tp tq tr ty:TypeId} {V V1 u u0 v v1 v2 v3:Value} {C W W' W1 W6 w w' w0 w1 w2 w8 w9 wx:World}
section
open Go.RowKit
structure Pg where
  id:Int
  st:Int
  lo:Int
  hi:Int
  fi:Int
  la:Int
  n:Int
def Pg.cells (p:Pg):List Value:= [.int .i64 p.id,.int .i64 p.st,.int .i64 p.lo,.int .i64 p.hi,.int .i64 p.fi,.int .i64 p.la,.int .i64 p.n]
def gcells (ps:List Pg):List Value:=ps.flatMap Pg.cells
theorem TV (R:List Pg) (i:Nat) (r:Pg) (k:Nat) (h:R[i]? = some r) (hk:k<7):(gcells R)[i*7+k]? = r.cells[k]? :=AW (cellsA:=Pg.cells) (k:=7) (fun _=>rfl) R i r k h hk
structure GS (w:World) (A:Option Addr) (n c:Nat) (ps:List Pg):Prop where
  len:n=ps.length
  cells:Cells w A (gcells ps)
  cap:n<=c
  most:n<=9223372036854775807
  ok:∀p∈ps,I64ok' p.n
theorem GS.ext {ps:List Pg} (h:GS w A n c ps) (d:Ext w w1):GS w1 A n c ps:=⟨h.len,h.cells.ext d,h.cap,h.most,h.ok⟩
def Pg.val (p:Pg):Value:= .agg #[.int .i64 p.id,.int .i64 p.st,.int .i64 p.lo,.int .i64 p.hi,.int .i64 p.fi,.int .i64 p.la,.int .i64 p.n]
def PgAt (w:World) (g o:Nat) (p:Pg):Prop:=w.cell? ⟨g,o,none⟩=some (.int .i64 p.id)/\w.cell? ⟨g,o+1,none⟩=some (.int .i64 p.st)/\w.cell? ⟨g,o+2,none⟩=some (.int .i64 p.lo)/\w.cell? ⟨g,o+3,none⟩=some (.int .i64 p.hi)/\w.cell? ⟨g,o+4,none⟩=some (.int .i64 p.fi)/\w.cell? ⟨g,o+5,none⟩=some (.int .i64 p.la)/\w.cell? ⟨g,o+6,none⟩=some (.int .i64 p.n)
theorem GS.at_ {ps:List Pg} (h:GS w A n c ps) (hi:i<n):∃g s p,A=some ⟨g,s,none⟩/\ps[i]? = some p/\I64ok' p.n/\∀W,Ext w W->PgAt W g (s+i*7) p:=by
 obtain⟨p,H⟩:∃p,ps[i]? = some p:=⟨_,List.getElem?_eq_getElem (by rw[<-h.len];exact hi)⟩
 have J:=TV ps i p 0 H (by omega);obtain⟨g,s,U,O⟩:=h.cells.at_ (by have:=(List.getElem?_eq_some_iff.1 J).1;omega);have q:∀k v W,Ext w W->p.cells[k]? = some v->W.cell? ⟨g,s+i*7+k,none⟩=some v:=fun k v W d Y=>by
  rw[Nat.add_assoc];exact d.cell (O _ _ ((TV ps i p k H (List.getElem?_eq_some_iff.1 Y).1).trans Y))
 exact⟨g,s,p,U,H,h.ok p (List.mem_of_getElem? H),fun W d=>⟨q 0 _ W d rfl,q 1 _ W d rfl,q 2 _ W d rfl,q 3 _ W d rfl,q 4 _ W d rfl,q 5 _ W d rfl,q 6 _ W d rfl⟩⟩
theorem GS.drop {g s n c:Nat} {ps:List Pg} (h:GS w (some ⟨g,s,none⟩) n c ps) (hk:k<=n):GS w (some ⟨g,s+k*7,none⟩) (n - k) (c - k) (ps.drop k):=by
 refine⟨by rw[List.length_drop,<-h.len],?_,by have:=h.cap;omega,by have:=h.most;omega,fun p U=>h.ok p (List.mem_of_mem_drop U)⟩;rw[show gcells (ps.drop k)=(gcells ps).drop (k*7)from Bo (f:=Pg.cells) (k:=7) (fun _=>rfl) ps k];rcases h.cells with H | ⟨g',o,Y,J⟩
 ·exact .inl (by rw[H,List.drop_nil])
 ·cases Y;exact .inr ⟨g,s+k*7,rfl,fun i v d=>by rw[List.getElem?_drop]at d;rw[Nat.add_assoc];exact J _ _ d⟩
def docsP (p:Pg):Int:=max 0 p.n
def takeG:Int->List Pg->Nat
 | _,[]=>0
 | m,p::t=>if p.st=2/\docsP p<=m then takeG (m - docsP p) t+1 else 0
theorem Ub:∀(l:List Pg) (m:Int),takeG m l<=l.length
 | [],_=>Nat.le_refl _
 | p::t,m=>by
  unfold takeG;have:=Ub t (m - docsP p);split
  ·rw[List.length_cons];omega
  ·exact Nat.zero_le _
theorem Up {l:List Pg} {p:Pg} {m:Int} (h:l[i]? = some p) (h1:p.st=2) (h2:docsP p<=m):takeG m (l.drop i)=takeG (m - docsP p) (l.drop (i+1))+1:=by
 obtain⟨hi,rfl⟩:=List.getElem?_eq_some_iff.1 h;rw[List.drop_eq_getElem_cons hi];exact if_pos ⟨h1,h2⟩
theorem Uc {l:List Pg} {p:Pg} {m:Int} (h:l[i]? = some p) (h1:¬ (p.st=2/\docsP p<=m)):takeG m (l.drop i)=0:=by
 obtain⟨hi,rfl⟩:=List.getElem?_eq_some_iff.1 h;rw[List.drop_eq_getElem_cons hi];exact if_neg h1
def rowG (a k:Nat):List Int:=(List.range k).map fun i=>((a+i:Nat):Int)
def grpG (m:Int) (a:Nat) (l:List Pg):List (List Int) :=
 if h:l = [] then [] else if takeG m l<2 then grpG m (a+1) (l.drop 1) else rowG a (takeG m l)::grpG m (a+takeG m l) (l.drop (takeG m l))
termination_by l.length
decreasing_by
 all_goals (have:=List.length_pos_iff.2 h;simp only[List.length_drop];omega)
theorem T5 {m:Int} {l:List Pg} {a n:Nat} (h:n<=a) (hn:n=l.length):grpG m a (l.drop a) = []:=by
 rw[grpG,dif_pos (List.drop_of_length_le (by omega))]
section
variable {m:Int} {l:List Pg} {a n:Nat} (h:a<n) (hn:n=l.length)
include h hn
theorem TX (h2:takeG m (l.drop a)<2):grpG m a (l.drop a)=grpG m (a+1) (l.drop (a+1)):=by
 rw[grpG,dif_neg (fun e=>by have:=congrArg List.length e;simp only[List.length_drop,List.length_nil]at this;omega),if_pos h2,List.drop_drop]
theorem T6 (h2:¬ takeG m (l.drop a)<2):grpG m a (l.drop a)=rowG a (takeG m (l.drop a))::grpG m (a+takeG m (l.drop a)) (l.drop (a+takeG m (l.drop a))):=by
 conv=>lhs;rw[grpG]
 rw[dif_neg (fun e=>by have:=congrArg List.length e;simp only[List.length_drop,List.length_nil]at this;omega),if_neg h2,List.drop_drop]
end
def costG:Int->List Pg->Int
 | s,[]=>s
 | s,p::t=>costG (min (s+docsP p) 1099511627776) t
structure IsC where
  xs:List Int
  A:Option Addr
  c:Nat
def IsC.val (x:IsC):Value:= .slice x.A x.xs.length x.c
structure IsOwn (w:World) (base:Nat) (A:Option Addr) (n c:Nat) (l:List IsC):Prop where
  own:w.ownsRow base 43 1 (.slice A n c) n (l.map IsC.val)
  each:∀x∈l,w.ownsRow base 3 1 x.val x.xs.length (x.xs.map IV)
theorem IsOwn.nil (w:World) (base:Nat):IsOwn w base none 0 0 []:=⟨⟨rfl,.inl ⟨rfl,rfl⟩⟩,nofun⟩
theorem IsOwn.ext {l:List IsC} (h:IsOwn w base A n c l) (d:Ext w w'):IsOwn w' base A n c l:=⟨d.owns h.own,fun x H=>d.owns (h.each x H)⟩
theorem IsOwn.chg {l:List IsC} (h:IsOwn w base A n c l) (d:Chg S w w') (Y:∀g,(Value.slice A n c).ownBlock=some g->¬ S g) (J:∀x∈l,∀g,x.val.ownBlock=some g->¬ S g):IsOwn w' base A n c l:=⟨d.owns h.own Y,fun x H=>d.owns (h.each x H) (J x H)⟩
theorem IsOwn.push {base n c c8:Nat} {B A8:Option Addr} {l:List IsC} {x:IsC} (h:IsOwn w base B n c l) (O:w.ownsRow base 3 1 x.val x.xs.length (x.xs.map IV))
 (G:w8.ownsRow base 43 1 (.slice A8 (n+1) c8) (n+1) (l.map IsC.val ++ [x.val])) (Z:w.grownBy w8 (Value.slice B n c).ownBlock):IsOwn w8 base A8 (n+1) c8 (l ++ [x]):=by
 have H:Chg (fun k'=>(Value.slice B n c).ownBlock=some k') w w8:=Chg.of_grown Z fun k' _ U=>U;have Y:∀y:IsC,w.ownsRow base 3 1 y.val y.xs.length (y.xs.map IV)->∀g,y.val.ownBlock=some g->¬ (Value.slice B n c).ownBlock=some g:=fun y d g J=>by
  obtain⟨cs,I,_⟩:=Ae d J;exact Am h.own I (by decide)
 refine⟨by rw[List.map_append];exact G,fun y d=>?_⟩;rcases List.mem_append.1 d with d | d
 ·exact H.owns (h.each y d) (Y y (h.each y d))
 ·rw[List.mem_singleton.1 d];exact H.owns O (Y x O)
end
section
open Go.RowKit
theorem TW (p:Pg) (w:World):Calls prog 37 #[p.val] w fun e w'=>e = .returned (.int .i64 (docsP p))/\Ext w w':=by
 have h:=fun(W:World)=>Eg (P:=prog) #[3,3] 3 (x:=0) (y:=p.n) (m:=docsP p) rfl W;unfold Pg.val
 go_in
 go_wp2_with fail;go_ret;exact⟨rfl,(Ext.refl w).alloc _⟩
theorem D5 (p:Pg) (w:World):Calls prog 36 #[p.val] w fun e w'=>e = .returned (.int .i64 (docsP p))/\Ext w w':=by
 have h:=fun(W:World)=>Eg (P:=prog) #[3,3] 3 (x:=0) (y:=p.n) (m:=docsP p) rfl W;unfold Pg.val
 go_in
 go_wp2_with fail;go_ret;exact⟨rfl,(Ext.refl w).alloc _⟩
theorem TU (p:Pg) (h:I64ok' p.n):0<=docsP p/\docsP p<=9223372036854775807:=by unfold docsP I64ok' at *;omega
theorem Tn (A:Option Addr) (n c:Nat) (m:Int) (ps:List Pg) (w:World) (h:GS w A n c ps) (hm:I64ok' m) :
 Calls prog 35 #[.int .i64 m,.slice A n c] w fun e w'=>e = .returned (.int .i64 (takeG m ps:Nat))/\Ext w w':=by
 have hd:=Aa TW;have m0:=Aa h.len;have c0:=h.most;replace h:=Aa h
 go_in
 go_wp2_with fail
 go_loopw [0,5] (fun s0 s5 wr=>∃(i:Nat) (m':Int),s0 = .int .i64 m'/\s5 = .int .i64 (i:Int)/\i<=n/\I64ok' m'/\Hid (takeG m ps=i+takeG m' (ps.drop i))/\Hid (Ext w wr)) (fun _ s5 _=>n - (intOf s5).toNat)
 case atStart=>exact⟨0,m,rfl,rfl,by omega,hm,Aa (by rw[Nat.zero_add];rfl),Aa (Ext.refl _)⟩
 case round =>
  obtain⟨i,m',rfl,rfl,hi,t0,Z,I⟩:=hrel;unfold I64ok' at t0;by_cases g0:i<n
  ·obtain⟨g,s,p,rfl,hp,x0,hc⟩:=h.out.at_ g0;have j0:=TU p x0;obtain⟨k0,k1,k2,k3,k4,k5,k6⟩:=hc wr I.out;replace hc:=Aa hc;obtain⟨d,J⟩:=Ab (docsP p);have O:=Aa (hd.out p);unfold Pg.val at O;rw[<-J]at O j0;replace J:=Aa J;by_cases Y:p.st=2
   ·have y0:((p.st:Int)==2)=true:=by rw[Y];rfl
    replace Y:=Aa Y;go_wp2_with fail;refine(O.out _).mono ?_;rintro e w4 ⟨rfl,U⟩;replace U:=Aa (I.out.trans U);obtain⟨q0,q1,q2,q3,q4,q5,q6⟩:=hc.out w4 U.out;by_cases G:d<=m'
    ·have H:=Up hp Y.out (by rw[<-J.out];exact G);rw[<-J.out]at H;replace H:=Aa H;go_wp2_with fail;refine(O.out _).mono ?_;rintro e w5 ⟨rfl,p0⟩;go_wp2_with fail;go_roundw
     case rel=>exact⟨i+1,m' - d,rfl,by go_num,by omega,by unfold I64ok';omega,Aa (by rw[Z.out,H.out];omega),Aa (U.out.trans p0)⟩
     case measure=>simp only[intOf];omega
    ·have H:=Aa (Uc hp (m:=m') fun q=>G (by rw[J.out];exact q.2));go_wp2_with fail;go_ret;exact⟨by rw[Z.out,H.out];rfl,U.out⟩
   ·have H:=Aa (Uc hp (m:=m') fun q=>Y q.1);have y0:((p.st:Int)==2)=false:=beq_eq_false_iff_ne.2 Y;replace Y:=Aa Y;go_wp2_with fail;go_ret;exact⟨by rw[Z.out,H.out];rfl,I.out⟩
  ·go_wp2_with fail;go_ret;exact⟨by rw[Z.out,List.drop_of_length_le (by rw[<-m0.out];omega)];rfl,I.out⟩
theorem SY {l:List Pg} {p:Pg} (h:l[i]? = some p) (s:Int):costG s (l.drop i)=costG (min (s+docsP p) 1099511627776) (l.drop (i+1)):=by
 obtain⟨hi,rfl⟩:=List.getElem?_eq_some_iff.1 h;rw[List.drop_eq_getElem_cons hi];rfl
theorem Uk (A:Option Addr) (n c:Nat) (ps:List Pg) (w:World) (h:GS w A n c ps) :
 Calls prog 17 #[.slice A n c] w fun e w'=>e = .returned (.int .i64 (costG 0 ps))/\Ext w w':=by
 have hd:=Aa TW;have t0:=Aa h.len;have e0:=h.most;replace h:=Aa h;obtain⟨Z,hZ⟩:=Ab (costG 0 ps);rw[<-hZ];replace hZ:=Aa (show Z=costG 0 (ps.drop 0)from hZ)
 go_in
 go_wp2_with fail
 go_loopw [3,8] (fun s3 s8 wr=>∃(i:Nat) (m:Int),s3 = .int .i64 m/\s8 = .int .i64 (i:Int)/\i<=n/\0<=m/\m<=1099511627776/\Hid (Z=costG m (ps.drop i))/\Hid (Ext w wr)) (fun _ s8 _=>n - (intOf s8).toNat)
 case atStart=>exact⟨0,0,rfl,rfl,by omega,by omega,by omega,hZ,Aa (Ext.refl _)⟩
 case round =>
  obtain⟨i,m,rfl,rfl,hi,hm,d0,I,hE⟩:=hrel;by_cases m0:i<n
  ·obtain⟨g,s,p,rfl,hp,v0,hc⟩:=h.out.at_ m0;have g0:=TU p v0;obtain⟨k0,k1,k2,k3,k4,k5,k6⟩:=hc wr hE.out;obtain⟨d,G⟩:=Ab (docsP p);have Y:=SY hp m;have U:=Aa (hd.out p);unfold Pg.val at U;rw[<-G]at U g0 Y;obtain⟨r,hr⟩:=Ab (min d (1099511627776 - m));have O:0<=r/\m+r=min (m+d) 1099511627776:=by omega
   have c0:=fun(W:World)=>AQ (P:=prog) #[3,3] 3 hr W;rw[<-O.2]at Y;have y0:m+r<=1099511627776:=by omega
   have i0:=O.1;replace Y:=Aa Y;replace hr:=Aa hr;clear G O hc;go_wp2_with fail;obtain⟨W,hW⟩:=Ab (wr.alloc (Obj.cells #[.int .i64 p.id,.int .i64 p.st,.int .i64 p.lo,.int .i64 p.hi,.int .i64 p.fi,.int .i64 p.la,.int .i64 p.n] 79));have J:Ext wr W:=by rw[hW];exact(Ext.refl wr).alloc _
   rw[<-hW];replace J:=Aa J;replace hW:=Aa hW;refine(U.out _).mono ?_;rintro e w4 ⟨rfl,j0⟩;go_wp2_with fail;go_roundw
   case rel=>exact⟨i+1,m+r,rfl,by go_num,by omega,by omega,y0,Aa (by rw[I.out,Y.out]),Aa ((hE.out.trans J.out).trans j0)⟩
   case measure=>simp only[intOf];omega
  ·have H:Z=m:=by rw[I.out,List.drop_of_length_le (by rw[<-t0.out];omega)];rfl
   replace H:=Aa H;go_wp2_with fail;go_ret;rw[H.out];exact⟨rfl,hE.out⟩
theorem S8 (A:Option Addr) (n c:Nat) (ps:List Pg) (w:World) (h:GS w A n c ps) :
 Calls prog 18 #[.slice A n c] w fun e w'=>e = .returned (.int .i64 (costG 0 ps))/\Ext w w':=by
 have hd:=Aa D5;have m0:=Aa h.len;have e0:=h.most;replace h:=Aa h;obtain⟨Z,hZ⟩:=Ab (costG 0 ps);rw[<-hZ];replace hZ:=Aa (show Z=costG 0 (ps.drop 0)from hZ)
 go_in
 go_wp2_with fail
 go_loopw [3,4] (fun s3 s4 wr=>∃(i:Nat) (m:Int),s3 = .int .i64 m/\s4 = .int .i64 (i:Int)/\i<=n/\0<=m/\m<=1099511627776/\Hid (Z=costG m (ps.drop i))/\Hid (Ext w wr)) (fun _ s4 _=>n - (intOf s4).toNat)
 case atStart=>exact⟨0,0,rfl,rfl,by omega,by omega,by omega,hZ,Aa (Ext.refl _)⟩
 case round =>
  obtain⟨i,m,rfl,rfl,hi,hm,d0,I,hE⟩:=hrel;by_cases g0:i<n
  ·obtain⟨g,s,p,rfl,hp,v0,hc⟩:=h.out.at_ g0;have j0:=TU p v0;obtain⟨k0,k1,k2,k3,k4,k5,k6⟩:=hc wr hE.out;obtain⟨d,U⟩:=Ab (docsP p);have Y:=SY hp m;have J:=Aa (hd.out p);unfold Pg.val at J;rw[<-U]at J j0 Y;obtain⟨r,hr⟩:=Ab (min 1099511627776 d);obtain⟨z,hz⟩:=Ab (min 1099511627776 (m+r));have O:z=min (m+d) 1099511627776:=by omega
   have c0:=fun(W:World)=>AQ (P:=prog) #[3,3] 3 hr W;have t0:=fun(W:World)=>AQ (P:=prog) #[3,3] 3 hz W;rw[<-O]at Y;have G:0<=z/\z<=1099511627776:=by omega
   have i0:0<=r/\r<=1099511627776:=by omega
   replace Y:=Aa Y;replace hr:=Aa hr;replace hz:=Aa hz;clear U O hc;go_wp2_with fail;refine(J.out _).mono ?_;rintro e w4 ⟨rfl,p0⟩;go_wp2_with fail;go_roundw
   case rel=>exact⟨i+1,z,rfl,by go_num,by omega,G.1,G.2,Aa (by rw[I.out,Y.out]),Aa (hE.out.trans p0)⟩
   case measure=>simp only[intOf];omega
  ·have H:Z=m:=by rw[I.out,List.drop_of_length_le (by rw[<-m0.out];omega)];rfl
   replace H:=Aa H;go_wp2_with fail;go_ret;rw[H.out];exact⟨rfl,hE.out⟩
theorem Tl:Elem prog 39 43 1 24:=⟨underlying39,⟨_,_,rfl,rfl,rfl,rfl,rfl⟩,by omega,by omega⟩
theorem Th {g s n c k:Nat} (h:k<n) (hn:n<=c) (W:World) :
 (Instr.sliceAt 38 (.slice (some ⟨g,s,none⟩) n c) (some (.int .i64 (k:Int))) none none).run prog W = .ok (.slice (some ⟨g,s+k*7,none⟩) (n - k) (c - k)) W:=by
 have ht:=underlying38;have d:prog.elem 38=79:=by unfold Program.elem;rw[ht]
 have hs:∀W:World,(sizeOf 79).run prog W = .ok 7 W:=fun W=>by kernel_rfl
 have H:((k:Int)).toNat=k:=by omega
 rw[run_sliceAt_slice W _ _ _ _ _ (by rw[ht,d]),run_slice_l W _ _ n c (by rw[ht,d]) .i64 k (by omega) (by omega),d,hs];simp only[Result.andThen_ok];unfold sliced;rw[if_neg (by omega),H];simp[Addr.add_lit]
theorem Uo (a k:Nat):rowG a (k+1)=rowG a k ++ [((a+k:Nat):Int)]:=by
 unfold rowG;rw[List.range_succ,List.map_append];rfl
theorem S1 (a k:Nat):(rowG a k).length=k:=by unfold rowG;rw[List.length_map,List.length_range]
def GrpA (w:World) (L:List (List Int)) (e:Ending) (w':World):Prop:=Ext w w'/\∃(l:List IsC) (A:Option Addr) (n c:Nat),l.map IsC.xs=L/\e = .returned (.slice A n c)/\n=l.length/\IsOwn w' w.heap.size A n c l
theorem Uf (A:Option Addr) (n c:Nat) (m:Int) (ps:List Pg) (w:World) (h:GS w A n c ps) (hm:I64ok' m) (y1:n<=1000000) :
 Calls prog 14 #[.int .i64 m,.slice A n c] w (GrpA w (grpG m 0 ps)):=by
 obtain⟨Z,hZ⟩:=Ab (grpG m 0 ps);rw[<-hZ];replace hZ:=Aa (show Z=grpG m 0 (ps.drop 0)from hZ);have h0:=Aa h.len;have y0:=h.cap;have p1:=Aa Tn;replace hm:=Aa hm;replace h:=Aa h
 go_in
 go_wp2_with fail
 go_loopw [5,6] (fun s5 s6 wr=>∃(a k d:Nat) (B:Option Addr) (l:List IsC),s5 = .slice B k d/\s6 = .int .i64 (a:Int)/\a<=n/\k<=a/\Hid (k=l.length)/\Hid (IsOwn wr w.heap.size B k d l)/\Hid (Z=l.map IsC.xs++grpG m a (ps.drop a))/\Hid (Ext w wr)) (fun _ s6 _=>n - (intOf s6).toNat)
 case atStart=>exact⟨0,0,0,none,[],rfl,rfl,by omega,by omega,Aa rfl,Aa (IsOwn.nil _ _),hZ,Aa (Ext.refl _)⟩
 case round =>
  obtain⟨a,k,d,B,l,rfl,rfl,ha,hk,j0,hB,hz,hE⟩:=hrel;by_cases I:a<n
  ·obtain⟨g,s,p,rfl,hp,q1,hc⟩:=h.out.at_ I;clear hp q1 hc;have d0:=fun W=>Th (g:=g) (s:=s) (k:=a) (n:=n) (c:=c) I y0 W;obtain⟨t,ht⟩:=Ab (takeG m (ps.drop a));have d1:t<=n - a:=by rw[ht];exact Nat.le_trans (Ub _ _) (by rw[List.length_drop,<-h0.out];exact Nat.le_refl _)
   have O:=p1.out _ _ _ m _ wr ((h.out.ext hE.out).drop (k:=a) ha) hm.out;rw[<-ht]at O;replace O:=Aa O;obtain⟨n3,m0⟩:=Ab (n - a);obtain⟨c3,k0⟩:=Ab (c - a);rw[<-m0,<-k0]at O d0;replace m0:=Aa m0;replace k0:=Aa k0;by_cases h2:t<2
   ·have Y:=hz.out;rw[TX I h0.out (by rw[<-ht];exact h2)]at Y;replace Y:=Aa Y;replace ht:=Aa ht;go_wp2_with fail;refine(O.out).mono ?_;rintro e w4 ⟨rfl,H⟩;go_wp2_with fail;go_roundw
    case rel=>exact⟨a+1,k,d,B,l,rfl,by go_num,by omega,by omega,j0,Aa (hB.out.ext H),Y,Aa (hE.out.trans H)⟩
    case measure=>simp only[intOf];omega
   ·have Y:=hz.out;rw[T6 I h0.out (by rw[<-ht];exact h2),<-ht]at Y;replace Y:=Aa Y;replace ht:=Aa ht;clear hz;go_wp2_with fail;refine(O.out).mono ?_;rintro e w4 ⟨rfl,H⟩;have n0:=Aa (hB.out.ext H);replace H:=Aa (hE.out.trans H);clear hE hB O d0;go_wp2_with fail
    go_loopw [8,24] (fun s8 s24 wi=>∃(i q:Nat) (C:Option Addr),s8 = .slice C i q/\s24 = .int .i64 (i:Int)/\i<=t/\Hid (wi.ownsRow w4.heap.size 3 1 (.slice C i q) i ((rowG a i).map IV))/\Hid (Ext w4 wi)) (fun _ s24 _=>t - (intOf s24).toNat)
    case atStart=>exact⟨0,0,none,rfl,rfl,by omega,Aa ⟨rfl,.inl ⟨rfl,rfl⟩⟩,Aa (Ext.refl _)⟩
    case round =>
     obtain⟨i,q,C,rfl,rfl,hi,ho,G⟩:=hrel;by_cases x1:i<t
     ·have e0:=Aa (Uo a i);obtain⟨y,hy⟩:=Ab (a+i);have f1:(a:Int)+(i:Int)=(y:Int):=by omega
      rw[<-hy]at e0;have e1:y<=1000000:=by omega
      have v0:=G.out.size;replace hy:=Aa hy;go_wp2_with (at_builtin;refine AS (us:= [.int .i64 (y:Int)]) (m:=1) FY ho.out rfl (.tmp 27) (.tmp 31) rfl rfl rfl rfl rfl (Az rfl) (by omega) v0 (fun A8 c8 w8 U J g0=>?_);have p0:=Aa (G.out.grown J (fun k hk=>by obtain⟨_,_,hb⟩:=Ae ho.out hk;exact hb));replace U:=Aa U;clear J g0);go_roundw
      case rel=>exact⟨i+1,c8,A8,rfl,by go_num,by omega,Aa (by rw[e0.out,List.map_append];exact U.out),p0⟩
      case measure=>simp only[intOf];omega
     ·obtain rfl:i=t:=by omega
      have q0:=Aa (n0.out.ext G.out);have v0:w.heap.size<=wr.heap.size:=(H.out.trans G.out).size;have o0:k+1<=4294967296:=by omega
      go_wp2_with (at_builtin;refine AS (us:= [.slice C i q]) (m:=1) Tl q0.out.own rfl (.tmp 34) (.tmp 36) rfl rfl rfl rfl rfl (Az rfl) o0 v0 (fun A8 c8 w8 U J g0=>?_);replace U:=Aa U;replace J:=Aa J;clear g0);have b0:w.heap.size<=w4.heap.size:=H.out.size;have c0:=S1 a i;have t0:=q0.out.push (x:=⟨rowG a i,C,q⟩) (by show World.ownsRow _ _ _ _ (.slice C (rowG a i).length q) _ _;rw[c0];exact AD ho.out b0) (by show World.ownsRow _ _ _ _ _ _ (_ ++ [.slice C (rowG a i).length q]);rw[c0];exact U.out) J.out;have p0:Ext w w8:=(H.out.trans G.out).grown J.out fun k hk=>by obtain⟨_,_,hb⟩:=Ae q0.out.own hk;exact hb
      go_roundw
      case rel=>exact⟨a+i,k+1,c8,A8,_,rfl,by go_num,by omega,by omega,Aa (by rw[List.length_append,<-j0.out];rfl),Aa t0,Aa (by rw[Y.out,List.map_append,List.append_assoc];rfl),Aa p0⟩
      case measure=>simp only[intOf];omega
  ·go_wp2_with fail;go_ret;refine⟨hE.out,l,B,k,d,?_,rfl,j0.out,hB.out⟩;rw[hz.out,T5 (by omega) h0.out,List.append_nil]
theorem S0 (A:Option Addr) (n c:Nat) (m:Int) (ps:List Pg) (w:World) (h:GS w A n c ps) (hm:I64ok' m) (e2:n<=1000000) :
 Calls prog 15 #[.int .i64 m,.slice A n c] w (GrpA w (grpG m 0 ps)):=by
 obtain⟨Z,hZ⟩:=Ab (grpG m 0 ps);rw[<-hZ];replace hZ:=Aa (show Z=grpG m 0 (ps.drop 0)from hZ);have v0:=Aa h.len;have m2:=h.cap;have hd:=Aa D5;unfold I64ok' at hm;replace h:=Aa h
 go_in
 go_wp2_with fail
 go_loopw [5,6] (fun s5 s6 wr=>∃(a k d:Nat) (B:Option Addr) (l:List IsC),s5 = .slice B k d/\s6 = .int .i64 (a:Int)/\a<=n/\k<=a/\Hid (k=l.length)/\Hid (IsOwn wr w.heap.size B k d l)/\Hid (Z=l.map IsC.xs++grpG m a (ps.drop a))/\Hid (Ext w wr)) (fun _ s6 _=>n - (intOf s6).toNat)
 case atStart=>exact⟨0,0,0,none,[],rfl,rfl,by omega,by omega,Aa rfl,Aa (IsOwn.nil _ _),hZ,Aa (Ext.refl _)⟩
 case round =>
  obtain⟨a,k,d,B,l,rfl,rfl,ha,hk,f0,hB,hz,hE⟩:=hrel;by_cases p1:a<n
  ·obtain⟨t,ht⟩:=Ab (takeG m (ps.drop a));have f2:t<=n - a:=by rw[ht];exact Nat.le_trans (Ub _ _) (by rw[List.length_drop,<-v0.out];exact Nat.le_refl _)
   replace ht:=Aa ht;obtain⟨wo,rfl⟩:=Ab wr;go_wp2_with fail
   go_loopw [7,8] (fun s7 s8 wi=>∃(y:Nat) (z:Int),s7 = .int .i64 z/\s8 = .int .i64 (y:Int)/\a<=y/\y<=n/\0<=z /\ -9223372036854775808<=m - z/\m - z<=9223372036854775807/\Hid (t=(y - a)+takeG (m - z) (ps.drop y))/\Hid (Ext wo wi)) (fun _ s8 _=>n - (intOf s8).toNat)
   case atStart=>exact⟨a,0,rfl,rfl,by omega,by omega,by omega,by omega,by omega,Aa (by rw[Int.sub_zero,Nat.sub_self,Nat.zero_add];exact ht.out),Aa (Ext.refl _)⟩
   case round =>
    obtain⟨y,z,rfl,rfl,x2,o2,h3,q3,p3,q0,J⟩:=hrel;have hg:=h.out.ext (hE.out.trans J.out);replace hg:=Aa hg;go_upto_region 5 with (fail)
    go_cut [38] from 16 to 47 (fun s38 wx=>s38 = .bool (decide (y - a<t))/\Ext wr wx)
    case first =>
     by_cases d0:y<n
     ·obtain⟨g,s,p,rfl,hp,l0,hc⟩:=hg.out.at_ d0;have c0:=TU p l0;obtain⟨k0,k1,k2,k3,k4,k5,k6⟩:=hc wr (Ext.refl _);obtain⟨x,hx⟩:=Ab (docsP p);have G:=Aa (hd.out p);unfold Pg.val at G;rw[<-hx]at G c0;replace hx:=Aa hx;clear hc;by_cases H:p.st=2
      ·have j2:((p.st:Int)==2)=true:=by rw[H];rfl
       have U:decide (y - a<t)=decide (x<=m - z):=by
        by_cases hq:x<=m - z
        ·have:=Up hp H (by rw[<-hx.out];exact hq);rw[decide_eq_true hq,decide_eq_true (show y - a<t by rw[q0.out,this];omega)]
        ·have:=Uc hp (m:=m - z) fun q=>hq (by rw[hx.out];exact q.2);rw[decide_eq_false hq,decide_eq_false (show ¬ y - a<t by rw[q0.out,this];omega)]
       replace U:=Aa U;replace H:=Aa H;go_wp2_with fail;refine(G.out _).mono ?_;rintro e w4 ⟨rfl,y0⟩;go_wp2_with fail
       go_meet
       case rel=>exact⟨by rw[U.out],y0⟩
      ·have j2:((p.st:Int)==2)=false:=beq_eq_false_iff_ne.2 H;have U:=Aa (Uc hp (m:=m - z) fun q=>H q.1);replace H:=Aa H;go_wp2_with fail
       go_meet
       case rel=>exact⟨by rw[decide_eq_false (show ¬ y - a<t by rw[q0.out,U.out];omega)],Ext.refl _⟩
     ·have U:takeG (m - z) (ps.drop y)=0:=by rw[List.drop_of_length_le (by rw[<-v0.out];omega)];rfl
      replace U:=Aa U;go_wp2_with fail
      go_meet
      case rel=>exact⟨by rw[decide_eq_false (show ¬ y - a<t by rw[q0.out,U.out];omega)],Ext.refl _⟩
    case rest =>
     obtain⟨g0,O⟩:=hcut;replace O:=Aa (J.out.trans O);clear J hg;by_cases e0:y - a<t
     ·rw[decide_eq_true e0]at g0;subst g0;have d0:y<n:=by omega
      obtain⟨g,s,p,rfl,hp,l0,hc⟩:=h.out.at_ d0;have c0:=TU p l0;obtain⟨k0,k1,k2,k3,k4,k5,k6⟩:=hc wc (hE.out.trans O.out);obtain⟨x,hx⟩:=Ab (docsP p);have G:=Aa (hd.out p);unfold Pg.val at G;rw[<-hx]at G c0;have hq:p.st=2/\x<=m - z:=by
       by_cases hq:p.st=2/\x<=m - z
       ·exact hq
       ·have:=Uc hp (m:=m - z) fun q=>hq ⟨q.1,by rw[hx];exact q.2⟩;rw[q0.out,this]at e0;omega
      have H:=Up hp hq.1 (by rw[<-hx];exact hq.2);rw[<-hx,Int.sub_sub]at H;have i2:=hq.2;replace H:=Aa H;replace hx:=Aa hx;clear hc hq;go_wp2_with fail;refine(G.out _).mono ?_;rintro e w4 ⟨rfl,y0⟩;go_wp2_with fail;go_roundw
      case rel=>exact⟨y+1,z+x,rfl,by go_num,by omega,by omega,by omega,by omega,by omega,Aa (by have:=q0.out;rw[H.out]at this;omega),Aa (O.out.trans y0)⟩
      case measure=>simp only[intOf];omega
     ·rw[decide_eq_false e0]at g0;subst g0;have p0:t=y - a:=by have:=q0.out;omega
      have h1:=Aa (hB.out.ext O.out);have j0:=Aa (hE.out.trans O.out);by_cases h2:t<2
      ·have Y:=hz.out;rw[TX p1 v0.out (by rw[<-ht.out];exact h2)]at Y;replace Y:=Aa Y;have i1:(y:Int) - (a:Int)<2:=by omega
       replace p0:=Aa p0;go_wp2_with fail;go_roundw
       case rel=>exact⟨a+1,k,d,B,l,rfl,by go_num,by omega,by omega,f0,h1,Y,j0⟩
       case measure=>simp only[intOf];omega
      ·have Y:=hz.out;rw[T6 p1 v0.out (by rw[<-ht.out];exact h2),<-ht.out]at Y;replace Y:=Aa Y;have i1:¬ (y:Int) - (a:Int)<2:=by omega
       replace p0:=Aa p0;clear hz hB hE O;go_wp2_with fail
       go_loopw [9,10] (fun s9 s10 wi=>∃(i b q:Nat) (C:Option Addr),s9 = .slice C i q/\s10 = .int .i64 (b:Int)/\i<=t/\b<=y/\Hid (b=a+i)/\Hid (wi.ownsRow wc.heap.size 3 1 (.slice C i q) i ((rowG a i).map IV))/\Hid (Ext wc wi)) (fun _ s10 _=>y - (intOf s10).toNat)
       case atStart=>exact⟨0,a,0,none,rfl,rfl,by omega,by omega,Aa rfl,Aa ⟨rfl,.inl ⟨rfl,rfl⟩⟩,Aa (Ext.refl _)⟩
       case round =>
        obtain⟨i,b,q,C,rfl,rfl,hi,a2,hb,ho,J⟩:=hrel;by_cases y2:b<y
        ·have H:=Uo a i;rw[<-hb.out]at H;replace H:=Aa H;have o1:i+1<=t:=by have:=hb.out;have:=p0.out;omega
         have o0:=J.out.size;go_wp2_with (at_builtin;refine AS (us:= [.int .i64 (b:Int)]) (m:=1) FY ho.out rfl (.tmp 60) (.tmp 62) rfl rfl rfl rfl rfl (Az rfl) (by omega) o0 (fun A8 c8 w8 h0 I i0=>?_);have b0:=Aa (J.out.grown I (fun k hk=>by obtain⟨_,_,hb⟩:=Ae ho.out hk;exact hb));replace h0:=Aa h0;clear I i0);go_roundw
         case rel=>exact⟨i+1,b+1,c8,A8,rfl,by go_num,o1,by omega,Aa (by rw[hb.out];rfl),Aa (by rw[H.out,List.map_append];exact h0.out),b0⟩
         case measure=>simp only[intOf];omega
        ·obtain rfl:i=t:=by have:=hb.out;have:=p0.out;omega
         have x0:=Aa (h1.out.ext J.out);have o0:w.heap.size<=wr.heap.size:=(j0.out.trans J.out).size;have q2:k+1<=4294967296:=by omega
         go_wp2_with (at_builtin;refine AS (us:= [.slice C i q]) (m:=1) Tl x0.out.own rfl (.tmp 64) (.tmp 66) rfl rfl rfl rfl rfl (Az rfl) q2 o0 (fun A8 c8 w8 h0 I i0=>?_);replace h0:=Aa h0;replace I:=Aa I;clear i0);have x1:w.heap.size<=wc.heap.size:=j0.out.size;have y1:=S1 a i;have n0:=x0.out.push (x:=⟨rowG a i,C,q⟩) (by show World.ownsRow _ _ _ _ (.slice C (rowG a i).length q) _ _;rw[y1];exact AD ho.out x1) (by show World.ownsRow _ _ _ _ _ _ (_ ++ [.slice C (rowG a i).length q]);rw[y1];exact h0.out) I.out;have b0:Ext w w8:=(j0.out.trans J.out).grown I.out fun k hk=>by obtain⟨_,_,hb⟩:=Ae x0.out.own hk;exact hb
         have j1:a+i=y:=by have:=p0.out;omega
         rw[j1]at Y;go_roundw
         case rel=>exact⟨y,k+1,c8,A8,_,rfl,rfl,by omega,by omega,Aa (by rw[List.length_append,<-f0.out];rfl),Aa n0,Aa (by rw[Y.out,List.map_append,List.append_assoc];rfl),Aa b0⟩
         case measure=>simp only[intOf];omega
  ·go_wp2_with fail;go_ret;refine⟨hE.out,l,B,k,d,?_,rfl,f0.out,hB.out⟩;rw[hz.out,T5 (by omega) v0.out,List.append_nil]
end
section
open Go.RowKit Go.Maps
def awo (k:Int):List Dc:= [(k,⟨k,[([109,115,103],[97])]⟩)]
def awm:List Dc:= [(3,⟨3,[([109,115,103],[97])]⟩),(5,⟨5,[([109,115,103],[97])]⟩)]
def awB (P:List Dc):Bool:=okDs P&&decide ((blockD 0 P).length<=70000)&&decide (0<P.length)&&(framesD P).all (fun p=>decide (p.length<=16777216))&&decide ((segL P).length<=60000)&&P.all fun d=>decide (-9223372036854775808<=d.2.at_)&&decide (d.2.at_<=9223372036854775807)
structure AwP (P:List Dc):Prop where
  seg:SegP P
  opn:openD (segL P)=some P
  len:(segL P).length<=60000
theorem S2 {P:List Dc} (h:awB P=true):AwP P:=by
 unfold awB at h;simp only[Bool.and_eq_true,decide_eq_true_eq,List.all_eq_true]at h;obtain⟨⟨⟨⟨⟨h1,h2⟩,H⟩,Y⟩,J⟩,U⟩:=h;have hs:SegP P:=⟨⟨h1,h2⟩,H⟩
 exact⟨hs,FI hs Y fun d hd=>U d hd,J⟩
theorem Tu:AwP (awo 3):=S2 (by kernel_rfl)
theorem Tv:AwP (awo 5):=S2 (by kernel_rfl)
theorem Tt:AwP awm:=S2 (by kernel_rfl)
theorem Ta:mergeD [segL (awo 3),segL (awo 5)]=some [awo 3,awo 5]:=by
 have h:opensD [segL (awo 3),segL (awo 5)]=some [awo 3,awo 5]:=by
  unfold opensD;rw[if_pos (by simp[Tu.opn,Tv.opn])];simp[List.filterMap_cons,Tu.opn,Tv.opn]
 unfold mergeD;rw[h];exact if_pos ⟨by decide,by decide⟩
theorem Tb:mergeD [segL (awo 5),segL (awo 3)]=none:=by
 have d:opensD [segL (awo 5),segL (awo 3)]=some [awo 5,awo 3]:=by
  unfold opensD;rw[if_pos (by simp[Tu.opn,Tv.opn])];simp[List.filterMap_cons,Tu.opn,Tv.opn]
 unfold mergeD;rw[d];exact if_neg fun h=>absurd h.2 (by decide)
theorem Tj:docsM 0 [awo 3,awo 5]=awm:=by kernel_rfl
theorem Tc (k : Int) (w : World) (hk : AwP (awo k)) (G : I64ok' k) :
    Calls prog 33 #[.int .i64 k] w fun e w' => ∃ A n c, e = .returned (.slice A n c) ∧ Own8 w' w.heap.size A n c (segL (awo k)) ∧ Ext w w' := by
  obtain ⟨W, Y⟩ := Ab ((w.alloc (Obj.cells #[.string ⟨#[109, 115, 103]⟩, .string ⟨#[97]⟩] 91)).alloc (Obj.cells #[.int .i64 k, .int .i64 k, .slice (some ⟨w.heap.size, 0, none⟩) 1 1] 71))
  have J : Ext w W := by rw [Y]; exact ((Ext.refl w).alloc _).alloc _
  have U : Cells W (some ⟨w.heap.size, 0, none⟩) (fcells [([109, 115, 103], [97])]) := by
    rw [Y]
    exact (AN w [.string ⟨#[109, 115, 103]⟩, .string ⟨#[97]⟩] _).ext ((Ext.refl _).alloc _)
  have O : Cells W (some ⟨w.heap.size + 1, 0, none⟩) (dcells [⟨k, ⟨k, [([109, 115, 103], [97])]⟩, some ⟨w.heap.size, 0, none⟩, 1⟩]) := by
    have h1 := AN (w.alloc (Obj.cells #[.string ⟨#[109, 115, 103]⟩, .string ⟨#[97]⟩] 91)) [.int .i64 k, .int .i64 k, .slice (some ⟨w.heap.size, 0, none⟩) 1 1] 71
    rw [World.size_alloc] at h1
    rw [Y]
    exact h1
  have Z : DocsOk W (some ⟨w.heap.size + 1, 0, none⟩) [⟨k, ⟨k, [([109, 115, 103], [97])]⟩, some ⟨w.heap.size, 0, none⟩, 1⟩] := ⟨O, fun x hx => by
    rw [List.mem_singleton.1 hx]
    exact ⟨⟨U, by show (1 : Nat) ≤ _; omega, fun f hf => by
      rw [List.mem_singleton.1 hf]
      exact ⟨by show (3 : Nat) ≤ _; omega, by show (1 : Nat) ≤ _; omega⟩⟩, G, G⟩⟩
  have d := CY [⟨k, ⟨k, [([109, 115, 103], [97])]⟩, some ⟨w.heap.size, 0, none⟩, 1⟩] (some ⟨w.heap.size + 1, 0, none⟩) 1 1 W rfl Z (fun a ha => by cases ha; rfl) (by omega) hk.seg.sm (by omega)
  replace d := Aa d
  replace Y := Aa Y
  clear U O Z hk
  go_in
  go_wp2_with fail
  rw [← Y.out]
  refine d.out.mono ?_
  rintro e w1 ⟨A1, c1, rfl, h, h0⟩
  have I : segL (dcs [⟨k, ⟨k, [([109, 115, 103], [97])]⟩, some ⟨w.heap.size, 0, none⟩, 1⟩]) = segL (awo k) := rfl
  rw [I] at h ⊢
  obtain ⟨n1, H⟩ := Ab ((segL (awo k)).length)
  rw [← H] at h ⊢
  replace H := Aa H
  replace h := Aa h
  clear I
  go_wp2_with fail
  go_ret
  exact ⟨A1, n1, c1, rfl, ⟨h.out.1, h.out.2.lower J.size⟩, J.trans h0⟩
end
section
open Go.RowKit Go.Maps
def awG (n:Int):Pg:=⟨0,2,0,0,0,0,n⟩
theorem TB:grpG 10 0 [awG 4,awG 5,awG 6] = [[0,1]]:=by
 have h1:=T6 (m:=10) (l:= [awG 4,awG 5,awG 6]) (a:=0) (n:=3) (by omega) rfl (by decide);have h2:=TX (m:=10) (l:= [awG 4,awG 5,awG 6]) (a:=2) (n:=3) (by omega) rfl (by decide);have h:=T5 (m:=10) (l:= [awG 4,awG 5,awG 6]) (a:=3) (n:=3) (by omega) rfl;have d:takeG 10 ([awG 4,awG 5,awG 6].drop 0)=2:=by decide
 rw[d]at h1;rw[show [awG 4,awG 5,awG 6] = [awG 4,awG 5,awG 6].drop 0 from rfl,h1];rw[show 0+2=2 from rfl,h2,show 2+1=3 from rfl,h];rfl
theorem Own8.low (h:Own8 w base A n c l):Own8 w 0 A n c l:=⟨h.1,h.2.lower (Nat.zero_le _)⟩
theorem Tz (h1:Own8 w 0 A1 n1 c1 l1) (h2:Own8 w 0 A2 n2 c2 l2) (q1:l1.length<=60000) (q2:l2.length<=60000) (T:TypeId) :
 BssR (w.alloc (Obj.cells #[.slice A1 n1 c1,.slice A2 n2 c2] T)) (some ⟨w.heap.size,0,none⟩) [⟨l1,A1,c1⟩,⟨l2,A2,c2⟩]:=by
 obtain⟨rfl,b1⟩:=h1;obtain⟨rfl,b2⟩:=h2;refine⟨AN w [.slice A1 l1.length c1,.slice A2 l2.length c2] T,fun x h=>?_⟩;simp only[List.mem_cons,List.not_mem_nil,or_false]at h;rcases h with rfl | rfl
 ·exact⟨.inl (b1.in8.ext ((Ext.refl w).alloc _)),q1⟩
 ·exact⟨.inl (b2.in8.ext ((Ext.refl w).alloc _)),q2⟩
theorem PF (w : World) : Calls prog 13 #[] w fun e w' => e = .returned (.bool true) ∧ Ext w w' := by
  have p0 := Aa fun W => Tc 3 W Tu (by unfold I64ok'; omega)
  have e0 := Aa fun W => Tc 5 W Tv (by unfold I64ok'; omega)
  obtain ⟨W, hW⟩ := Ab (w.alloc (Obj.cells #[.int .i64 0, .int .i64 2, .int .i64 0, .int .i64 0, .int .i64 0, .int .i64 0, .int .i64 4, .int .i64 0, .int .i64 2, .int .i64 0, .int .i64 0, .int .i64 0, .int .i64 0, .int .i64 5, .int .i64 0, .int .i64 2, .int .i64 0, .int .i64 0, .int .i64 0, .int .i64 0, .int .i64 6] 79))
  have q1 : Ext w W := by rw [hW]; exact (Ext.refl w).alloc _
  have o1 : GS W (some ⟨w.heap.size, 0, none⟩) 3 3 [awG 4, awG 5, awG 6] := ⟨rfl, by rw [hW]; exact AN w _ _, by omega, by omega, fun p hp => by
    simp only [List.mem_cons, List.not_mem_nil, or_false] at hp
    unfold I64ok'
    rcases hp with rfl | rfl | rfl <;> decide⟩
  have I := Uf _ 3 3 10 _ W o1 (by unfold I64ok'; omega) (by omega)
  rw [TB] at I
  replace I := Aa I
  replace q1 := Aa q1
  clear o1
  go_in
  go_wp2_with fail
  rw [← hW]
  clear hW
  refine I.out.mono ?_
  rintro e w1 ⟨f0, l1, B1, k1, d1, d0, rfl, j2, p1⟩
  obtain ⟨x1, x2⟩ : ∃ x1, l1 = [x1] ∧ x1.xs = [0, 1] := by
    cases l1 with
    | nil => cases d0
    | cons x t =>
      cases t with
      | nil => exact ⟨x, rfl, by injection d0⟩
      | cons y u => exact absurd (congrArg List.length d0) (by simp)
  obtain ⟨rfl, y2⟩ := x2
  obtain rfl : k1 = 1 := j2
  replace p1 := Aa p1
  replace f0 := Aa (q1.out.trans f0)
  clear d0 I
  go_wp2_with fail
  refine (p0.out w1).mono ?_
  rintro e w2 ⟨A2, n2, c2, rfl, y0, i0⟩
  replace y0 := Aa y0.low
  replace i0 := Aa i0
  go_wp2_with fail
  refine (e0.out w2).mono ?_
  rintro e w3 ⟨A3, n3, c3, rfl, a1, l0⟩
  obtain ⟨W4, v0⟩ := Ab (w3.alloc (Obj.cells #[.slice A2 n2 c2, .slice A3 n3 c3] 24))
  have n0 : Ext w1 W4 := by rw [v0]; exact (i0.out.trans l0).alloc _
  have h := TK _ _ 2 2 0 W4 rfl (by rw [v0]; exact Tz (y0.out.ext l0) a1.low Tu.len Tv.len _) (by omega) (fun Ps G _ => by rw [show List.map BsC.b _ = [segL (awo 3), segL (awo 5)] from rfl, Ta] at G; rw [← Option.some.inj G, Tj]; exact Tt.seg.sm)
  rw [show List.map BsC.b _ = [segL (awo 3), segL (awo 5)] from rfl, Ta] at h
  unfold MrA at h
  simp only [Tj, if_neg (show ¬ awm = [] from nofun)] at h
  obtain ⟨nm, h0⟩ := Ab ((segL awm).length)
  unfold OkB at h
  rw [← h0] at h
  replace h := Aa h
  replace n0 := Aa n0
  replace h0 := Aa h0
  clear y0 a1 l0
  go_wp2_with fail
  rw [← v0]
  clear v0
  refine h.out.mono ?_
  rintro e w5 ⟨A5, c5, rfl, e1, o0⟩
  have j0 := J8 awm Tt.seg Tt.opn Tt.len A5 c5 w5 (by rw [← h0.out]; exact e1.low)
  rw [← h0.out] at j0
  replace j0 := Aa j0
  replace o0 := Aa (n0.out.trans o0)
  clear e1 h
  go_wp2_with fail
  refine j0.out.mono ?_
  rintro e w6 ⟨g6, rfl, Y, r0⟩
  replace Y := Aa Y
  replace r0 := Aa (o0.out.trans r0)
  clear j0
  go_wp2_with fail
  refine (e0.out w6).mono ?_
  rintro e w7 ⟨A7, n7, c7, rfl, b0, m0⟩
  replace b0 := Aa b0.low
  replace Y := Aa (Y.out.ext m0)
  replace m0 := Aa (r0.out.trans m0)
  go_wp2_with fail
  refine (p0.out w7).mono ?_
  rintro e w8 ⟨A8, n8, c8, rfl, f1, h1⟩
  obtain ⟨W9, x0⟩ := Ab (w8.alloc (Obj.cells #[.slice A7 n7 c7, .slice A8 n8 c8] 24))
  have t0 : Ext w7 W9 := by rw [x0]; exact h1.alloc _
  have h := TK _ _ 2 2 0 W9 rfl (by rw [x0]; exact Tz (b0.out.ext h1) f1.low Tv.len Tu.len _) (by omega) (fun Ps G _ => by rw [show List.map BsC.b _ = [segL (awo 5), segL (awo 3)] from rfl, Tb] at G; cases G)
  rw [show List.map BsC.b _ = [segL (awo 5), segL (awo 3)] from rfl, Tb] at h
  unfold MrA at h
  simp only at h
  replace h := Aa h
  replace t0 := Aa t0
  clear b0 f1 h1
  go_wp2_with fail
  rw [← x0]
  clear x0
  refine h.out.mono ?_
  rintro e w10 ⟨rfl, d⟩
  replace Y := Aa (Y.out.ext (t0.out.trans d))
  replace d := Aa ((m0.out.trans t0.out).trans d)
  have q0 := p1.out.ext d.out
  obtain ⟨gB, oB, rfl, i1⟩ := (Cells.of_own q0.own).at_ (by show 0 < 1; omega)
  have k0 := i1 0 x1.val rfl
  have g0 := Cells.of_own (q0.each x1 (List.mem_singleton.2 rfl))
  rw [Nat.add_zero] at k0
  unfold IsC.val at k0
  rw [y2] at k0 g0
  have m2 := Fh g6 awm w10 Y.out (by decide) (by decide)
  have m1 := fun W (hE : Ext w10 W) B hB => Uh x1.A B 2 x1.c 2 [0, 1] W rfl (g0.ext hE) hB (by omega)
  replace m1 := Aa m1
  clear i1 g0 q0
  have k0' : w10.cell? ⟨gB, oB, none⟩ = some (.slice x1.A 2 x1.c) := k0
  clear k0
  replace p0 := Aa True.intro
  obtain ⟨W11, H⟩ := Ab (w10.alloc (Obj.cells #[.int .i64 0, .int .i64 1] 3))
  have j1 := m1.out W11 (by rw [H]; exact (Ext.refl _).alloc _) (some ⟨w10.heap.size, 0, none⟩) (by rw [H]; exact AN w10 _ _)
  have O : Ext w10 W11 := by rw [H]; exact (Ext.refl _).alloc _
  replace j1 := Aa j1
  replace O := Aa O
  go_wp2_with fail
  rw [← H]
  clear H
  refine j1.out.mono ?_
  rintro e w12 ⟨rfl, J⟩
  replace J := Aa (O.out.trans J)
  have h2 := Aa (Fh g6 awm w12 (Y.out.ext J.out) (by decide) (by decide))
  clear m2
  go_wp2_with fail
  refine h2.out.mono ?_
  rintro e w13 ⟨rfl, q2⟩
  obtain rfl := q2.symm
  obtain ⟨W14, U⟩ := Ab (w12.alloc (Obj.cells #[.int .i64 0, .int .i64 0, .int .i64 0, .int .i64 0, .int .i64 0, .int .i64 0, .int .i64 7] 79))
  have Z : Ext w12 W14 := by rw [U]; exact (Ext.refl _).alloc _
  have c0 := Uk (some ⟨w12.heap.size, 0, none⟩) 1 1 [⟨0, 0, 0, 0, 0, 0, 7⟩] W14 ⟨rfl, by rw [U]; exact AN w12 _ _, by omega, by omega, fun p hp => by rw [List.mem_singleton.1 hp]; unfold I64ok'; decide⟩
  rw [show costG 0 [⟨0, 0, 0, 0, 0, 0, 7⟩] = 7 by decide] at c0
  replace c0 := Aa c0
  replace Z := Aa Z
  go_wp2_with fail
  rw [← U]
  clear U
  refine c0.out.mono ?_
  rintro e w15 ⟨rfl, y1⟩
  go_wp2_with fail
  go_ret
  exact ⟨rfl, (((f0.out.trans d.out).trans J.out).trans Z.out).trans y1⟩
end
section
open Go.RowKit Go.Maps
theorem S9 (h:k<=c) :
 ∃A',(∀W:World,(Instr.sliceAt 38 (.slice A n c) none (some (.int .i64 k)) none).run prog W = .ok (.slice A' k c) W)/\((∀a,A=some a->a.spot=none)->A'=A):=by
 have ht:=underlying38;have d:prog.elem 38=79:=by unfold Program.elem;rw[ht]
 have hs:∀W:World,(sizeOf 79).run prog W = .ok 7 W:=fun W=>by kernel_rfl
 refine⟨if c=0 then A else A.map fun x=>x.add (0*7),fun W=>?_,fun H=>?_⟩
 ·rw[run_sliceAt_slice W _ _ _ _ _ (by rw[ht,d]),run_slice_h W _ A n c (by rw[ht,d]) .i64 k (by omega) (by omega),d,hs];simp only[Result.andThen_ok];congr 1
 ·cases A with
  | none=>simp
  | some a =>
   obtain⟨b,o,sp⟩:=a;obtain rfl:sp=none:=H _ rfl;simp[Addr.add_lit]
theorem GS.take {ps:List Pg} (h:GS w A n c ps) (hk:k<=n) (Y:(∀a,A=some a->a.spot=none)->A'=A):GS w A' k c (ps.take k):=by
 refine⟨by rw[List.length_take,<-h.len];omega,?_,by have:=h.cap;omega,by have:=h.most;omega,fun p O=>h.ok p (List.mem_of_mem_take O)⟩;rw[show gcells (ps.take k)=(gcells ps).take (k*7)from Bh (f:=Pg.cells) (k:=7) (fun _=>rfl) ps k];rcases h.cells with H | ⟨g,o,rfl,U⟩
 ·exact .inl (by rw[H,List.take_nil])
 ·refine .inr ⟨g,o,Y (fun a J=>by cases J;rfl),fun i v d=>?_⟩;rw[List.getElem?_take]at d;split at d
  ·exact U i v d
  ·cases d
theorem L0 {base e size n c:Nat} (h:w.ownsRow base e size (.slice A n c) n xs):n<=9223372036854775807:=by
 rcases h.2 with ⟨_,h⟩ | ⟨g,cap,cur,d,_,_,h1,h2,_⟩
 ·omega
 ·unfold maxLen at h2;omega
theorem AA (m:Int) (A:Option Addr) (n0 c:Nat) (ps0:List Pg) (w:World) (hm:I64ok' m) (h0:GS w A n0 c ps0) :
 Calls prog 4 #[.int .i64 m,.slice A n0 c] w fun e w'=>e = .returned (.bool true)/\Ext w w':=by
 obtain⟨n,hn⟩:=Ab (min n0 60);have x2:=AQ (P:=prog) #[3,3] 3 (x:=(n0:Int)) (y:=60) (m:=(n:Int)) (by omega);have f0:=h0.cap;obtain⟨A',i2,hA⟩:=S9 (n:=n0) (c:=c) (k:=n) (A:=A) (by omega);have h:=h0.take (k:=n) (by omega) hA;have f2:n<=60:=by omega
 obtain⟨ps,l0⟩:=Ab (ps0.take n);rw[<-l0]at h;have y0:=Aa (Uf A' n c m ps w h hm (by omega));have Z:=Aa fun W (Y:Ext w W)=>S0 A' n c m ps W (h.ext Y) hm (by omega);have p0:=Aa fun W (Y:Ext w W)=>Uk A' n c ps W (h.ext Y);have m0:=Aa fun W (Y:Ext w W)=>S8 A' n c ps W (h.ext Y);have f1:=Aa PF;obtain⟨L,hL⟩:=Ab (grpG m 0 ps);obtain⟨C,hC⟩:=Ab (costG 0 ps);rw[<-hL]at y0 Z;rw[<-hC]at p0 m0;replace hn:=Aa hn;clear h h0 hA f0 l0 hm hL hC
 go_in
 go_wp2_with fail;refine y0.out.mono ?_;rintro e w1 ⟨t0,l1,B1,k1,d1,k0,rfl,J,O⟩;replace Z:=Aa (Z.out w1 t0);replace k0:=Aa k0;replace J:=Aa J;replace O:=Aa O;clear y0;go_wp2_with fail;refine Z.out.mono ?_;rintro e w2 ⟨H,l2,B2,k2,d2,j0,rfl,U,g0⟩;have i1:k2=k1:=by rw[J.out,U,<-List.length_map (f:=IsC.xs),j0,<-k0.out,List.length_map]
 subst i1;have y2:=L0 g0.own;replace O:=Aa (O.out.ext H);replace g0:=Aa g0;replace j0:=Aa j0;replace U:=Aa U;replace H:=Aa (t0.trans H);clear Z t0;have o0:=Aa Uh;go_wp2_with fail
 go_loopw [7] (fun s7 wr=>∃i:Nat,s7 = .int .i64 (i:Int)/\i<=k2/\Hid (Ext w2 wr)) (fun s7 _=>k2 - (intOf s7).toNat)
 case atStart=>exact⟨0,rfl,by omega,Aa (Ext.refl _)⟩
 case round =>
  obtain⟨i,rfl,hi,Y⟩:=hrel;by_cases i0:i<k2
  ·obtain⟨x,G⟩:∃x,l1[i]? = some x:=⟨_,List.getElem?_eq_getElem (by rw[<-J.out];exact i0)⟩
   obtain⟨y,hy⟩:∃y,l2[i]? = some y:=⟨_,List.getElem?_eq_getElem (by rw[<-U.out];exact i0)⟩
   have r0:x.xs=y.xs:=by
    have e1:(l1.map IsC.xs)[i]? = some x.xs:=by rw[List.getElem?_map,G];rfl
    have e2:(l2.map IsC.xs)[i]? = some y.xs:=by rw[List.getElem?_map,hy];rfl
    rw[k0.out]at e1;rw[j0.out,e1]at e2;exact Option.some.inj e2
   have o1:=O.out.ext Y.out;have o2:=g0.out.ext Y.out;obtain⟨g1,a1,rfl,d0⟩:=(Cells.of_own o1.own).at_ (by rw[List.length_map,<-J.out];omega);obtain⟨g2,a2,rfl,e0⟩:=(Cells.of_own o2.own).at_ (by rw[List.length_map,<-U.out];omega);have q1:=d0 i x.val (by rw[List.getElem?_map,G];rfl);have q2:=e0 i y.val (by rw[List.getElem?_map,hy];rfl);have e1:=o1.each x (List.mem_of_getElem? G);have e2:=o2.each y (List.mem_of_getElem? hy);have c0:=L0 e1;obtain⟨xs,xA,xc⟩:=x;obtain⟨ys,yA,yc⟩:=y;unfold IsC.val at q1 q2 e1 e2;simp only at r0 q1 q2 c0 e1 e2;subst r0;have r1:=Cells.of_own e1;have r2:=Cells.of_own e2;obtain⟨xl,d⟩:=Ab xs.length;rw[<-d]at q1 q2 c0;have b0:∀x,(x.cell? ⟨g1,a1+i,none⟩=some (.slice xA xl xc)/\x.cell? ⟨g2,a2+i,none⟩=some (.slice yA xl yc)/\Ext wr x)->Calls prog 16 #[.slice xA xl xc,.slice yA xl yc] x fun e w'=>e = .returned (.bool true)/\((w'.cell? ⟨g1,a1+i,none⟩=some (.slice xA xl xc)/\w'.cell? ⟨g2,a2+i,none⟩=some (.slice yA xl yc)/\Ext wr w')):=fun x G=>(o0.out xA yA xl xc yc xs x d (r1.ext G.2.2) (r2.ext G.2.2) c0).mono (by
    rintro e w' ⟨rfl,h1⟩;exact⟨rfl,h1.cell G.1,h1.cell G.2.1,G.2.2.trans h1⟩)
   have x0:(wr.cell? ⟨g1,a1+i,none⟩=some (.slice xA xl xc)/\wr.cell? ⟨g2,a2+i,none⟩=some (.slice yA xl yc)/\Ext wr wr):=⟨q1,q2,Ext.refl _⟩
   have v0:(wr.drew.cell? ⟨g1,a1+i,none⟩=some (.slice xA xl xc)/\wr.drew.cell? ⟨g2,a2+i,none⟩=some (.slice yA xl yc)/\Ext wr wr.drew):=⟨(Ext.refl wr).drew.cell q1,(Ext.refl wr).drew.cell q2,(Ext.refl wr).drew⟩
   replace b0:=Aa b0;replace v0:=Aa v0;replace x0:=Aa x0;replace d:=Aa d;clear d0 e0 r1 r2 o1 o2 G hy q1 q2 e1 e2 o0;go_wp2_with fail
   go_cut [39] (fun s39 wy=>s39 = .bool false/\Hid (Ext wr wy))
   case first =>
    go_region_held3 (fun x=>(x.cell? ⟨g1,a1+i,none⟩=some (.slice xA xl xc)/\x.cell? ⟨g2,a2+i,none⟩=some (.slice yA xl yc)/\Ext wr x)) (first | exact v0.out | exact x0.out | exact ‹_›) (first | (go_at_call 16;refine(b0.out _ ‹_›).mono ?_;rintro e w3 ⟨rfl,y1⟩))
    all_goals
     go_wp2_with fail
     go_meet
     case rel=>exact⟨rfl,Aa y1.2.2⟩
   case rest =>
    obtain⟨rfl,H⟩:=hcut;go_wp2_with fail;go_roundw
    case rel=>exact⟨i+1,by go_num,by omega,Aa (Y.out.trans H.out)⟩
    case measure=>simp only[intOf];omega
  ·have q0:=H.out.trans Y.out;replace p0:=Aa (p0.out wr q0);replace q0:=Aa q0;clear Y;go_wp2_with fail;refine p0.out.mono ?_;rintro e w4 ⟨rfl,I⟩;replace I:=Aa (q0.out.trans I);replace m0:=Aa (m0.out w4 I.out);go_wp2_with fail;refine m0.out.mono ?_;rintro e w5 ⟨rfl,m1⟩;go_wp2_with fail;refine(f1.out _).mono ?_;rintro e w6 ⟨rfl,x1⟩;go_wp2_with fail;go_ret;exact⟨rfl,(I.out.trans m1).trans x1⟩
end
section
open Go.ChangeShapes Go.WideShapes Go.Deep Go.RowKit
section
variable {H:Type} {enc:TypeId×Value->H} {w:World} {base:Nat} {spare:Nat->Bool} {held:Bool}
theorem TA {cs:List Value} {y:DataW H×List MemPlace} (d:cs.length=7) (h:DataW.trod enc prog w base spare held fuel 79 cs=some y) :
 ∃p:Pg,I64ok' p.n/\p.cells=cs:=by
 obtain⟨n,one⟩:=IE underlying79 (by kernel_rfl) (show _=#[3,77,3,3,3,3,3] by kernel_rfl) h;have q:∀(j:Nat) (t:TypeId) (v:Value),(#[3,77,3,3,3,3,3]:Array TypeId)[j]? = some t->prog.underlying t=some (.int .i64)->cs[j]? = some v->∃k:Int,v = .int .i64 k/\I64ok' k:=fun j t v ht J U=>by
  obtain⟨z,Z⟩:=one j t v ht U;obtain⟨k,e,_,O⟩:=DataW.trod_int J Z;exact⟨k,by simpa using e,HN O⟩
 match cs,d with
 | [v0,v1,v2,v3,v4,v5,v6],_ =>
  obtain⟨k0,rfl,_⟩:=q 0 _ v0 rfl underlying3 rfl;obtain⟨k1,rfl,_⟩:=q 1 _ v1 rfl underlying77 rfl;obtain⟨k2,rfl,_⟩:=q 2 _ v2 rfl underlying3 rfl;obtain⟨k3,rfl,_⟩:=q 3 _ v3 rfl underlying3 rfl;obtain⟨k4,rfl,_⟩:=q 4 _ v4 rfl underlying3 rfl;obtain⟨k5,rfl,_⟩:=q 5 _ v5 rfl underlying3 rfl;obtain⟨k6,rfl,Y⟩:=q 6 _ v6 rfl underlying3 rfl;exact⟨⟨k0,k1,k2,k3,k4,k5,k6⟩,Y,rfl⟩
theorem Tx {x:DataW H×List MemPlace} (h:DataW.trod enc prog w base spare held fuel 38 [v]=some x) :
 ∃(A:Option Addr) (c:Nat) (ps:List Pg),v = .slice A ps.length c/\GS w A ps.length c ps:=by
 obtain⟨A,c,l,rfl,Y,hs,d,J,U⟩:=IF (cellsA:=Pg.cells) (Q:=fun p:Pg=>I64ok' p.n) underlying38 (by kernel_rfl) (by omega:0<7) (fun _=>rfl) (fun _ _ _ a b=>TA a b) h;exact⟨A,c,l,rfl,rfl,Y,d,J,U⟩
end
end
end Go.Proofs.YtfifdilapbeiiaaGreat
