/- Texts of one proof, joined. -/
import Derived.Test.YtfifdilapbeiiaaGreatPY10
set_option linter.unusedSimpArgs false
set_option linter.unusedVariables false
set_option maxRecDepth 100000
set_option maxHeartbeats 16000000
namespace Go.Proofs.YtfifdilapbeiiaaGreat
open _root_.Go.Proofs.Tryz
variable {a0:Act} {listed:Array Bool} {ops:Array Oper} {vs:Array Value} {Q:Exit → Act → World → Prop} {z:Int} {D D1 D2 s:List UInt8} {news xs:List Value} {b0 c c' c1 cx fuel g i k m n n2 use0:Nat} {S own0:Nat → Prop} {o:Oper} {A A1 Ax:Option Addr} {P:Program} {md:Region.Mode} {e t:TypeId} {q v:Value} {W W1 X w w' w0 w1 w8 wx:World} {H0:World → Prop}
section
open Go.ChangeShapes Go.WideShapes Go.ChangeAt Go.Deep Go.RowKit
structure BssE (w:World) (A:Option Addr) (l:List BsC):Prop where
  cells:Cells w A (l.map BsC.val)
  each:∀x∈l,In8e w x.A x.b.length x.c x.b
  most:l.length<=9223372036854775807
section
variable {H:Type} {enc:TypeId×Value->H} {w:World} {base:Nat} {held:Bool}
theorem Ux {cs:List Value} {y:DataW H×List MemPlace} (G:cs.length=1) (h:DataW.trod enc prog w base (fun _=>true) held fuel 24 cs=some y):∃x:BsC,In8e w x.A x.b.length x.c x.b /\ [x.val]=cs:=by
 rcases open_ints underlying24 underlying5 (by kernel_rfl) h with ⟨rfl,_⟩ | ⟨a,m,c,zs,rfl,_,I,hm,hz,_,j,O⟩
 ·exact⟨⟨[],none,0⟩,.inr ⟨rfl,rfl,rfl⟩,rfl⟩
 ·rw[if_pos rfl]at hz;have Y:((zs.take m).map fun n=>UInt8.ofNat n.toNat).length=m:=by rw[List.length_map,List.length_take];omega
  refine⟨⟨(zs.take m).map fun n=>UInt8.ofNat n.toNat,some a,c⟩,?_,by unfold BsC.val;rw[Y]⟩;by_cases U:c=0
  ·exact .inr ⟨List.eq_nil_of_length_eq_zero (by rw[Y];omega),by show List.length _=0;rw[Y];omega,U⟩
  ·obtain⟨h1,h2⟩:=Jh (j 0 (by omega));obtain⟨g,o,s⟩:=a;obtain rfl:s=none:=h2;refine .inl ⟨rfl,.inr ⟨g,o,rfl,fun i v J=>?_⟩,by show List.length _<=c;rw[Y];exact I,nofun,fun a Z=>by cases Z;exact⟨rfl,h1⟩⟩;rw[List.getElem?_map,List.getElem?_map,List.getElem?_take]at J;split at J
   ·have hi2:i<zs.length:=by omega
    rw[List.getElem?_eq_getElem hi2]at J;simp only[Option.map_some]at J;have h1:=j i hi2;have h2:=O zs[i] (List.getElem_mem hi2);rw[Addr.add_lit]at h1;rw[h1];injection J with J;rw[<-J];have T:zs.getD i 0=zs[i]:=by simp[List.getD,hi2]
    rw[T];simp[Lit.wf,IntKind.has,IntKind.min,IntKind.max,IntKind.bits,IntKind.signed]at h2;unfold B8;rw[UInt8.toNat_ofNat'];congr 2;omega
   ·simp at J
theorem Uw {x:DataW H×List MemPlace} (h:DataW.trod enc prog w base (fun _=>true) held fuel 22 [v]=some x) :
 ∃(A:Option Addr) (c:Nat) (l:List BsC),v = .slice A l.length c/\BssE w A l:=by
 obtain⟨A,c,l,rfl,j,hs,J,Y,U⟩:=IF (cellsA:=fun x:BsC=> [x.val]) (Q:=fun x:BsC=>In8e w x.A x.b.length x.c x.b) underlying22 (by kernel_rfl) (by omega:0<1) (fun _=>rfl) (fun _ _ _ a b=>Ux a b) h;rw[show l.flatMap (fun x:BsC=> [x.val])=l.map BsC.val by rw[List.map_eq_flatMap]]at j;exact⟨A,c,l,rfl,j,U,Y⟩
end
theorem Uu:Elem prog 22 24 1 24:=⟨underlying22,⟨_,_,rfl,rfl,rfl,rfl,rfl⟩,by omega,by omega⟩
theorem In8e.head {b:List UInt8} (h:In8e w A n c b) (hk:k<=n) (j:z=(k:Int)) :
 (∀W:World,(Instr.sliceAt 24 (.slice A n c) none (some (.int .i64 z)) none).run prog W = .ok (.slice A k c) W)/\In8e w A k c (b.take k):=by
 rcases h with h | ⟨rfl,rfl,rfl⟩
 ·obtain⟨h1,h2⟩:=h.headk .i64 hk j;exact⟨h1,.inl h2⟩
 ·obtain rfl:k=0:=by omega
  subst j;exact⟨fun W=>TD W,.inr ⟨rfl,rfl,rfl⟩⟩
def cut5 (b:List UInt8):List UInt8:=b.take 5000
def Few33 (w:World) (bs:List (List UInt8)) (e:Ending) (w':World):Prop:=Ext w w'/\∃(l:List BsC) (A:Option Addr) (n c:Nat),l.map BsC.b=(bs.take 5).map cut5/\n=l.length/\n<=5/\e = .returned (.slice A n c)/\BssR w' A l
theorem Uj (bs:List BsC) (A:Option Addr) (n c:Nat) (w:World) (hn:n=bs.length) (h:BssE w A bs) :
 Calls prog 7 #[.slice A n c] w (Few33 w (bs.map BsC.b)):=by
 have q1:n<=9223372036854775807:=by rw[hn];exact h.most
 replace hn:=Aa hn;replace h:=Aa h
 go_in
 go_wp2_with fail
 go_loopw [3,4] (fun s3 s4 wr=>∃(i q:Nat) (C:Option Addr) (l:List BsC),s3 = .slice C i q/\s4 = .int .i64 (i:Int)/\i<=n/\i<=5/\Hid (i=l.length)/\Hid (l.map BsC.b=((bs.map BsC.b).take i).map cut5)/\Hid (∀x∈l,In8e w x.A x.b.length x.c x.b/\x.b.length<=5000)/\Hid (wr.ownsRow w.heap.size 24 1 (.slice C i q) i (l.map BsC.val))/\Hid (Ext w wr)) (fun _ s4 _=>n - (intOf s4).toNat)
 case atStart=>exact⟨0,0,none,[],rfl,rfl,by omega,by omega,Aa rfl,Aa rfl,Aa nofun,Aa ⟨rfl,.inl ⟨rfl,rfl⟩⟩,Aa (Ext.refl _)⟩
 case round =>
  obtain⟨i,q,C,l,rfl,rfl,hi,v0,hl,hm,hs,ho,hE⟩:=hrel;have j:(¬ i<n\/¬ i<5)->Few33 w (bs.map BsC.b) (.returned (.slice C i q)) wr:=fun hq=>by
   refine⟨hE.out,l,C,i,q,?_,hl.out,v0,rfl,Cells.of_own ho.out,fun x a=>⟨((hs.out x a).1).ext hE.out,by have:=(hs.out x a).2;omega⟩⟩;rw[hm.out];rcases hq with hq | hq
   ·rw[List.take_of_length_le (by rw[List.length_map,<-hn.out];omega),List.take_of_length_le (by rw[List.length_map,<-hn.out];omega)]
   ·rw[show i=5 by omega]
  replace j:=Aa j;by_cases m0:i<n
  ·by_cases h5:i<5
   ·obtain⟨x,a⟩:∃x,bs[i]? = some x:=⟨_,List.getElem?_eq_getElem (by rw[<-hn.out];exact m0)⟩
    have T:=h.out.each x (List.mem_of_getElem? a);obtain⟨g,o,rfl,hc⟩:=h.out.cells.at_ (by rw[List.length_map,<-hn.out];omega);have k0:=hc i x.val (by rw[List.getElem?_map,a];rfl);have O:((bs.map BsC.b).take (i+1)).map cut5=((bs.map BsC.b).take i).map cut5 ++ [cut5 x.b]:=by
     rw[List.take_add_one,List.getElem?_map,a,List.map_append];rfl
    obtain⟨xb,xA,xc⟩:=x;unfold BsC.val at k0;simp only at k0 T O;obtain⟨xn,j0⟩:=Ab xb.length;rw[<-j0]at k0 T;have k00:=k0;obtain⟨k,hk⟩:=Ab (min xn 5000);have o0:=fun(W:World)=>AQ (P:=prog) #[3,3] 3 (x:=(xn:Int)) (y:=5000) (m:=(k:Int)) (by omega) W;obtain⟨p1,Z⟩:=T.head (k:=k) (by omega) (z:=(k:Int)) rfl;have p0:xb.take k=cut5 xb:=by
     unfold cut5;rcases Nat.le_total xn 5000 with h9 | h9
     ·rw[List.take_of_length_le (by omega),List.take_of_length_le (by omega)]
     ·rw[hk,Nat.min_eq_right h9]
    have Y:(cut5 xb).length=k:=by rw[<-p0,List.length_take];omega
    have x0:k<=5000:=by omega
    rw[p0]at Z;have H:Ext w wr.drew:=hE.out.drew;have U:=(Ext.refl wr).drew.owns ho.out;have G:Ext w (wr.drew.alloc (Obj.cells #[.slice xA k xc] 24)):=H.alloc _;have I:(wr.drew.cell? ⟨g,o+i,none⟩=some (.slice xA xn xc)/\Ext w wr.drew):=⟨H.cell k00,H⟩
    have h0:((wr.drew.alloc (Obj.cells #[.slice xA k xc] 24)).cell? ⟨g,o+i,none⟩=some (.slice xA xn xc)/\Ext w (wr.drew.alloc (Obj.cells #[.slice xA k xc] 24))):=⟨G.cell k00,G⟩
    have J:∀w8,wr.drew.grownBy w8 (Value.slice C i q).ownBlock->(w8.cell? ⟨g,o+i,none⟩=some (.slice xA xn xc)/\Ext w w8):=fun w8 q0=>by
     have g0:=H.grown q0 fun k hk=>by obtain⟨_,_,hb⟩:=Ae U hk;exact hb
     exact⟨g0.cell k00,g0⟩
    replace I:=Aa I;replace h0:=Aa h0;replace J:=Aa J;replace U:=Aa U;have e0:=hE.out.size;replace Z:=Aa Z;replace Y:=Aa Y;replace hk:=Aa hk;replace j0:=Aa j0;replace O:=Aa O;clear hc T p0 a k0 k00 H G;go_wp2_with fail
    go_region_held3 (fun x=>(x.cell? ⟨g,o+i,none⟩=some (.slice xA xn xc)/\Ext w x)) (first | exact I.out | exact h0.out | exact J.out _ ‹_›) (first | (refine OH (us:= [.slice xA k xc]) (m:=1) Uu rfl U.out rfl (.tmp 15) (.tmp 27) rfl rfl rfl rfl (Az rfl) (by omega) e0 (fun A8 c8 w8 y0 q0=>?_)))
    have d0:∀x∈l ++ [(⟨cut5 xb,xA,xc⟩:BsC)],In8e w x.A x.b.length x.c x.b/\x.b.length<=5000:=fun x a=>by
     rcases List.mem_append.1 a with a | a
     ·exact hs.out x a
     ·rw[List.mem_singleton.1 a];exact⟨by rw[Y.out];exact Z.out,by rw[Y.out];exact x0⟩
    go_wp2_with fail;go_roundw
    case rel=>exact⟨i+1,c8,A8,l ++ [⟨cut5 xb,xA,xc⟩],rfl,by go_num,by omega,by omega,Aa (by rw[List.length_append,<-hl.out];rfl),Aa (by rw[List.map_append,hm.out,O.out];rfl),Aa d0,Aa (by rw[List.map_append];show World.ownsRow _ _ _ _ _ _ (_ ++ [.slice xA (cut5 xb).length xc]);rw[Y.out];exact y0),Aa (J.out _ q0).2⟩
    case measure=>simp only[intOf];omega
   ·go_wp2_with fail;go_ret;exact j.out (.inr h5)
  ·go_wp2_with fail;go_ret;exact j.out (.inl m0)
end
section
open Go.RowKit
theorem O6 (x y:UInt8) (a b:List UInt8):decide (x::a<y::b)=if x=y then decide (a<b) else decide (x.toNat<y.toNat):=by
 by_cases h:x=y
 ·rw[if_pos h];subst h;congr 1;apply propext;rw[List.cons_lt_cons_iff];constructor
  ·rintro(h | ⟨_,h⟩)
   ·exact(UInt8.lt_irrefl _ h).elim
   ·exact h
  ·exact fun h=> .inr ⟨rfl,h⟩
 ·rw[if_neg h];congr 1;apply propext;rw[List.cons_lt_cons_iff];constructor
  ·rintro(h1 | ⟨h1,_⟩)
   ·exact h1
   ·exact(h h1).elim
  ·exact fun h1=> .inl h1
theorem NA (s t:List UInt8) (w:World) (hs:s.length<=9223372036854775807) (ht:t.length<=9223372036854775807) :
 Calls prog 168 #[.string ⟨s.toArray⟩,.string ⟨t.toArray⟩] w fun e w'=>e = .returned (.bool (decide (s<t)))/\Ext w w':=by
 obtain⟨n,hn⟩:=Ab s.length;obtain⟨m,J⟩:=Ab t.length;have k0:(⟨s.toArray⟩:ByteArray).size=n:=by rw[hn];exact ByteArray.size_mk_toArray s
 have j0:(⟨t.toArray⟩:ByteArray).size=m:=by rw[J];exact ByteArray.size_mk_toArray t
 rw[<-hn]at hs;rw[<-J]at ht;obtain⟨b,hb⟩:=Ab (decide (s<t));rw[<-hb];replace hn:=Aa hn;replace J:=Aa J;replace hb:=Aa hb
 go_in
 go_wp2_with fail
 go_loopw [5] (fun s5 wr=>∃i:Nat,s5 = .int .i64 i/\i<=n/\i<=m/\Hid (b=decide (s.drop i<t.drop i))/\Ext w wr) (fun s5 _=>n - (intOf s5).toNat)
 case atStart=>exact⟨0,rfl,by omega,by omega,hb,Ext.refl w⟩
 case round =>
  obtain⟨i,rfl,hi,hi2,U,I⟩:=hrel;by_cases G:i<n
  ·by_cases him:i<m
   ·have p0:i<s.length:=by rw[<-hn.out];exact G
    have Z:i<t.length:=by rw[<-J.out];exact him
    obtain⟨x,hx⟩:=Ab (s[i]);obtain⟨y,hy⟩:=Ab (t[i]);have j:b=if x=y then decide (s.drop (i+1)<t.drop (i+1)) else decide (x.toNat<y.toNat):=by
     rw[U.out,List.drop_eq_getElem_cons p0,List.drop_eq_getElem_cons Z,O6,hx,hy]
    obtain⟨c,O⟩:=Ab x.toNat;obtain⟨e,T⟩:=Ab y.toNat;have m0:((⟨s.toArray⟩:ByteArray)[i]'(by rw[k0];exact G)).toNat=c:=by rw[O,hx];rfl
    have t0:((⟨t.toArray⟩:ByteArray)[i]'(by rw[j0];exact him)).toNat=e:=by rw[T,hy];rfl
    have Y:x=y↔c=e:=by rw[O,T];exact⟨fun h=>by rw[h],fun h=>UInt8.toNat_inj.1 h⟩
    rw[<-O,<-T]at j;replace j:=Aa j;replace hx:=Aa hx;replace hy:=Aa hy;replace O:=Aa O;replace T:=Aa T;replace Y:=Aa Y;by_cases a:c=e
    ·have H:Hid (b=decide (s.drop (i+1)<t.drop (i+1))):=Aa (by rw[j.out,if_pos (Y.out.2 a)]);have q1:((c:Int)==e)=true:=by rw[a];exact beq_self_eq_true _
     have q2:((c:Int) != e)=false:=by rw[a];simp
     replace a:=Aa a;go_wp2_with fail;refine AE (fun K hK=>?_);go_wp2_with fail;refine⟨by kernel_rfl,?_⟩;go_wp2_with fail;go_roundw
     case rel=>exact⟨i+1,by go_num,by omega,by omega,H,I.drew⟩
     case measure=>simp[intOf];omega
    ·have H:Hid (b=decide (c<e)):=Aa (by rw[j.out,if_neg fun h=>a (Y.out.1 h)]);have q1:((c:Int)==e)=false:=beq_eq_false_iff_ne.2 (by omega);have q2:((c:Int) != e)=true:=by simp[bne,q1]
     replace a:=Aa a;go_wp2_with fail;refine AE (fun K hK=>?_);go_wp2_with fail;refine⟨by kernel_rfl,?_⟩;go_wp2_with fail;refine AE (fun K hK=>?_);go_wp2_with fail;refine⟨by kernel_rfl,?_⟩;go_wp2_with fail;go_ret;rw[H.out];exact⟨Bf (by first | rfl | (simp;done) | (simp;omega)),I.drew.drew⟩
   ·have H:Hid (b=decide (n<m)):=Aa (by
     rw[U.out,List.drop_eq_nil_of_le (show t.length<=i by rw[<-J.out];omega)];rw[decide_eq_false (show ¬ n<m by omega),decide_eq_false (List.not_lt_nil _)])
    have q1:decide (n<m)=false:=decide_eq_false (by omega);go_wp2_with fail;go_ret;rw[H.out];exact⟨Bf (by first | rfl | (simp;done) | (simp;omega)),I⟩
  ·have H:Hid (b=decide (n<m)):=Aa (by
    rw[U.out,List.drop_eq_nil_of_le (show s.length<=i by rw[<-hn.out];omega)];by_cases h:n<m
    ·rw[decide_eq_true h];apply decide_eq_true;have:i<t.length:=by rw[<-J.out];omega
     rw[List.drop_eq_getElem_cons this];exact List.nil_lt_cons _ _
    ·rw[decide_eq_false h];apply decide_eq_false;rw[List.drop_eq_nil_of_le (show t.length<=i by rw[<-J.out];omega)];exact List.not_lt_nil _)
   go_wp2_with fail;go_ret;rw[H.out];exact⟨Bf (by first | rfl | (simp;done) | (simp;omega)),I⟩
end
section
open Go.RowKit Go.Maps
structure TmC where
  s:List UInt8
  pos:List Int
  A:Option Addr
  c:Nat
def TmC.cells (x:TmC):List Value:= [.string ⟨x.s.toArray⟩,.slice x.A x.pos.length x.c]
def TmC.tm (x:TmC):List UInt8×List Int:=(x.s,x.pos)
def tmcells (l:List TmC):List Value:=l.flatMap TmC.cells
def tmR (l:List TmC):List (List UInt8×List Int):=l.map TmC.tm
theorem Cg (l:List TmC):(tmcells l).length=l.length*2:=AU (cellsA:=TmC.cells) (k:=2) (fun _=>rfl) l
theorem CZ (l:List TmC) (i:Nat):tmcells (l.take i)=(tmcells l).take (i*2):=Bh (f:=TmC.cells) (k:=2) (fun _=>rfl) l i
theorem Bt (l:List TmC) (i:Nat):tmcells (l.drop i)=(tmcells l).drop (i*2):=Bo (f:=TmC.cells) (k:=2) (fun _=>rfl) l i
theorem BI (l:List TmC):∀u∈tmcells l,u.oneCell'=true:=fun u j=>by
 unfold tmcells at j;obtain⟨x,_,h⟩:=List.mem_flatMap.1 j;unfold TmC.cells at h;simp only[List.mem_cons,List.not_mem_nil,or_false]at h;rcases h with rfl | rfl <;> rfl
theorem Gm {l:List TmC} {x:TmC} (h:l[i]? = some x) {j:Nat} (b:j<2):(tmcells l)[i*2+j]? = x.cells[j]? :=AW (cellsA:=TmC.cells) (k:=2) (fun _=>rfl) l i x j h b
theorem HK {l:List TmC} (h:Cells w A (tmcells l)) {x:TmC} (j:l[i]? = some x):∃g o,A=some ⟨g,o,none⟩/\∀W,Ext w W->W.cell? ⟨g,o+i*2,none⟩=some (.string ⟨x.s.toArray⟩)/\W.cell? ⟨g,o+i*2+1,none⟩=some (.slice x.A x.pos.length x.c):=by
 obtain⟨g,o,H,a⟩:=h.at_ (by rw[Cg];have:=(List.getElem?_eq_some_iff.1 j).1;omega);refine⟨g,o,H,fun W b=>⟨?_,?_⟩⟩
 ·have:=b.cell (a (i*2+0) _ (by rw[Gm j (by omega)];rfl));exact this
 ·have:=b.cell (a (i*2+1) _ (by rw[Gm j (by omega)];rfl));exact this
structure TmsR (w:World) (A:Option Addr) (n c:Nat) (l:List TmC):Prop where
  len:n=l.length
  cells:Cells w A (tmcells l)
  cap:n<=c
  spot:∀a,A=some a->a.spot=none
  each:∀x∈l,Buf w 0 3 x.A x.pos.length x.c (x.pos.map IV)/\x.s.length<=9223372036854775807
  typ:∀a,A=some a->∃cs,Row w a.block 148 cs
theorem TmsR.ext {l:List TmC} (h:TmsR w A n c l) (j:Ext w w1):TmsR w1 A n c l:=⟨h.len,h.cells.ext j,h.cap,h.spot,fun x b=>⟨(h.each x b).1.ext j,(h.each x b).2⟩,fun a H=>by obtain⟨cs,Y⟩:=h.typ a H;exact⟨cs,Y.ext j⟩⟩
theorem TmsR.nil (w:World):TmsR w none 0 0 []:=⟨rfl,.inl rfl,Nat.le_refl _,nofun,nofun,nofun⟩
theorem TmsR.chg {l:List TmC} (h:TmsR w A n c l) (Y:Chg S w w1) (O:∀g,S g->∃t cs,Row w g t cs/\t≠148/\t≠3):TmsR w1 A n c l:=by
 have U:∀a,A=some a->¬ S a.block:=fun a b hs=>by
  obtain⟨cs,H⟩:=h.typ a b;obtain⟨t,cs2,j,h1,_⟩:=O _ hs;exact Row.unlike j H h1 rfl
 refine⟨h.len,Y.cells h.cells U,h.cap,h.spot,fun x J=>⟨(h.each x J).1.chg Y fun a b hs=>?_,(h.each x J).2⟩,fun a b=>?_⟩
 ·obtain⟨t,cs2,j,_,h2⟩:=O _ hs;exact(h.each x J).1.unlike j (fun e=>h2 e.symm) a b rfl
 ·obtain⟨cs,H⟩:=h.typ a b;exact⟨cs,H.keep (Y.block _ H.lt (U a b))⟩
theorem Dk:Elem prog 145 148 2 40:=⟨underlying145,⟨_,_,rfl,rfl,rfl,rfl,rfl⟩,by omega,by omega⟩
section
variable {β:Type} (p:List UInt8×β) {R:List (List UInt8×List β)} {k:Nat} {r:List UInt8×List β} (h:R[k]? = some r)
include h
theorem MJ (j:r.1<p.1):R.take k++addG p (R.drop k)=R.take (k+1)++addG p (R.drop (k+1)):=by
 obtain⟨hk,rfl⟩:=List.getElem?_eq_some_iff.1 h;rw[List.drop_eq_getElem_cons hk,List.take_succ_eq_append_getElem hk,List.append_assoc]
 conv=>lhs;rw[addG]
 rw[if_pos j];rfl
theorem MH (b:¬ r.1<p.1) (j:r.1=p.1):addG p (R.drop k)=(r.1,r.2 ++ [p.2])::R.drop (k+1):=by
 obtain⟨hk,rfl⟩:=List.getElem?_eq_some_iff.1 h;rw[List.drop_eq_getElem_cons hk,addG,if_neg b,if_pos j]
theorem MI (b:¬ r.1<p.1) (j:¬ r.1=p.1):addG p (R.drop k)=(p.1,[p.2])::R.drop k:=by
 obtain⟨hk,rfl⟩:=List.getElem?_eq_some_iff.1 h;rw[List.drop_eq_getElem_cons hk,addG,if_neg b,if_neg j]
end
theorem CQ (h:Cells w A xs) (k:Nat):Cells w A (xs.take k):=by
 rcases h with h | ⟨g,o,b,a⟩
 ·left;rw[h];exact List.take_nil
 ·refine .inr ⟨g,o,b,fun i v j=>a i v ?_⟩;rw[List.getElem?_take]at j;split at j
  ·exact j
  ·cases j
theorem Rh (l:List Int):∀u∈l.map IV,u.oneCell'=true:=fun u h=>by
 obtain⟨x,_,rfl⟩:=List.mem_map.1 h;rfl
theorem DY (a b:List TmC) (x:TmC):tmcells (a++x::b)=(tmcells a++x.cells)++tmcells b:=by
 unfold tmcells;rw[List.flatMap_append,List.flatMap_cons,List.append_assoc]
theorem JG (D:List TmC) (i j:Nat) (x:TmC):tmR (D.take i++x::D.drop j)=(tmR D).take i++x.tm::(tmR D).drop j:=by
 unfold tmR;rw[List.map_append,List.map_cons,List.map_take,List.map_drop]
def AddA (w:World) (R:List (List UInt8×List Int)) (e:Ending) (w':World):Prop:=∃(D:List TmC) (A:Option Addr) (n c:Nat),e = .returned (.slice A n c)/\tmR D=R/\TmsR w' A n c D/\Ext w w'
end
section
open Go.RowKit Go.Maps
def IdE.cells (x:IdE):List Value:= [.string ⟨x.s.toArray⟩,.slice x.A x.ps.length x.c]
def IdE.rw' (x:IdE):List UInt8×List Po:=(x.s,psP x.ps)
def idcells (l:List IdE):List Value:=l.flatMap IdE.cells
def idR (l:List IdE):List (List UInt8×List Po):=l.map IdE.rw'
theorem Bl (l:List IdE):(idcells l).length=l.length*2:=AU (cellsA:=IdE.cells) (k:=2) (fun _=>rfl) l
theorem Jm (l:List IdE) (i:Nat):idcells (l.take i)=(idcells l).take (i*2):=Bh (f:=IdE.cells) (k:=2) (fun _=>rfl) l i
theorem Jl (l:List IdE) (i:Nat):idcells (l.drop i)=(idcells l).drop (i*2):=Bo (f:=IdE.cells) (k:=2) (fun _=>rfl) l i
theorem BG {l:List IdE} {x:IdE} (h:l[i]? = some x) {j:Nat} (b:j<2):(idcells l)[i*2+j]? = x.cells[j]? :=AW (cellsA:=IdE.cells) (k:=2) (fun _=>rfl) l i x j h b
theorem F1 (l:List IdE):∀u∈idcells l,u.oneCell'=true:=fun u j=>by
 unfold idcells at j;obtain⟨x,_,h⟩:=List.mem_flatMap.1 j;unfold IdE.cells at h;simp only[List.mem_cons,List.not_mem_nil,or_false]at h;rcases h with rfl | rfl <;> rfl
theorem Kj (a b:List IdE) (x:IdE):idcells (a++x::b)=(idcells a++x.cells)++idcells b:=by
 unfold idcells;rw[List.flatMap_append,List.flatMap_cons,List.append_assoc]
theorem CC {l:List IdE} (h:Cells w A (idcells l)) {x:IdE} (j:l[i]? = some x):∃g o,A=some ⟨g,o,none⟩/\∀W,Ext w W->W.cell? ⟨g,o+i*2,none⟩=some (.string ⟨x.s.toArray⟩)/\W.cell? ⟨g,o+i*2+1,none⟩=some (.slice x.A x.ps.length x.c):=by
 obtain⟨g,o,H,a⟩:=h.at_ (by rw[Bl];have:=(List.getElem?_eq_some_iff.1 j).1;omega);refine⟨g,o,H,fun W b=>⟨?_,?_⟩⟩
 ·have:=b.cell (a (i*2+0) _ (by rw[BG j (by omega)];rfl));exact this
 ·have:=b.cell (a (i*2+1) _ (by rw[BG j (by omega)];rfl));exact this
theorem IdE.far_symm {x y:IdE} (h:IdE.far x y):IdE.far y x:=fun a b j hb e=>h b a hb j e.symm
structure RowsO (base:Nat) (W:World) (B:Option Addr) (n c:Nat) (E:List IdE) (done:List (List UInt8×Po)):Prop where
  len:n=E.length
  own:W.ownsRow base 129 2 (.slice B n c) n (idcells E)
  each:∀x∈E,x.own base W
  pos:∀x∈E,∀y∈x.ps,posAt 0 W y
  apart:E.Pairwise IdE.far
  rows:idR E=grp done
theorem RowsO.nil (base:Nat) (W:World):RowsO base W none 0 0 [] []:=⟨rfl,⟨rfl,.inl ⟨rfl,rfl⟩⟩,nofun,nofun,List.Pairwise.nil,rfl⟩
theorem RowsO.ext {base:Nat} {B:Option Addr} {E:List IdE} {done:List (List UInt8×Po)} (h:RowsO base W B n c E done) (b:Ext W W1):RowsO base W1 B n c E done :=
 ⟨h.len,b.owns h.own,fun x j=>b.owns (h.each x j),fun x j y a=>⟨(h.pos x j y a).1.ext b,(h.pos x j y a).2⟩,h.apart,h.rows⟩
structure PlaP (R:List (List UInt8×List Po)) (s:List UInt8) (k:Nat):Prop where
  le:k<=R.length
  low:∀i x,i<k->R[i]? = some x->x.1<s
  high:∀x,R[k]? = some x->¬ x.1<s
theorem PlaP.add {R:List (List UInt8×List Po)} (h:PlaP R s k) (p:Po):addG (s,p) R=R.take k++addG (s,p) (R.drop k):=by
 have key:∀j,j<=k->addG (s,p) R=R.take j++addG (s,p) (R.drop j):=by
  intro j
  induction j with
  | zero=>intro _;rfl
  | succ j ih =>
   intro a;rw[ih (by omega)];obtain⟨x,b⟩:∃x,R[j]? = some x:=⟨_,List.getElem?_eq_getElem (by have:=h.le;omega)⟩
   exact MJ (s,p) b (h.low j x (by omega) b)
 exact key k (Nat.le_refl _)
theorem PlaP.put {R:List (List UInt8×List Po)} (h:PlaP R s k) (p:Po) {v:List Po} (j:R[k]? = some (s,v)):addG (s,p) R=R.take k++(s,v ++ [p])::R.drop (k+1):=by
 rw[h.add p,MH (s,p) j (h.high _ j) rfl]
theorem PlaP.ins {R:List (List UInt8×List Po)} (h:PlaP R s k) (p:Po) (hn:∀x,R[k]? = some x->¬ x.1=s):addG (s,p) R=R.take k++(s,[p])::R.drop k:=by
 rw[h.add p];cases j:R[k]? with
 | none =>
  rw[List.drop_of_length_le (by rwa [List.getElem?_eq_none_iff]at j)];rfl
 | some x=>rw[MI (s,p) j (h.high x j) (hn x j)]
theorem Eb {E:List IdE} {x:IdE} (h:E[i]? = some x):(idR E)[i]? = some (x.s,psP x.ps):=by unfold idR;rw[List.getElem?_map,h];rfl
theorem Pt {E:List IdE} (h:E[i]? = none):(idR E)[i]? = none:=by unfold idR;rw[List.getElem?_map,h];rfl
theorem Dn (E:List IdE):(idR E).length=E.length:=by unfold idR;rw[List.length_map]
theorem Q0 {base:Nat} {x z:IdE} (T:z.own base W) (J:IdE.far z x) (O:v = .slice x.A x.ps.length x.c) (U:W.grownBy w1 v.ownBlock):z.own base w1 :=
 (Chg.of_grown (S:=fun k=>v.ownBlock=some k) U (fun _ _ e=>e)).owns T fun g j h=>by
  subst O;cases Y:z.A with
  | none=>rw[Y]at j;simp[Value.ownBlock]at j
  | some b =>
   cases H:x.A with
   | none=>rw[H]at h;simp[Value.ownBlock]at h
   | some a =>
    rw[Y]at j;rw[H]at h;simp[Value.ownBlock]at j h;exact J b a Y H (j.trans h.symm)
theorem RowsO.put {base:Nat} {E:List IdE} {done:List (List UInt8×Po)} (h:RowsO base W (some ⟨g,0,none⟩) n c E done) (hp:PlaP (idR E) s k) {x:IdE} (hx:E[k]? = some x) (hs:x.s=s)
 {y:PoC} (hg:W.grownBy w1 (Value.slice x.A x.ps.length x.c).ownBlock) (ho:w1.ownsRow base 89 2 (.slice A1 (x.ps.length+1) c1) (x.ps.length+1) (pcells x.ps++y.cells))
 (O:(Value.slice A1 (x.ps.length+1) c1).ownBlock=(Value.slice x.A x.ps.length x.c).ownBlock\/∃k,(Value.slice A1 (x.ps.length+1) c1).ownBlock=some k/\W.heap.size<=k) (hy:posAt 0 W y) :
 RowsO base (w1.setCell ⟨g,k*2+1,none⟩ (.slice A1 (x.ps.length+1) c1)) (some ⟨g,0,none⟩) n c (E.set k ⟨s,x.ps ++ [y],A1,c1⟩) (done ++ [(s,y.po)]):=by
 have hk:=(List.getElem?_eq_some_iff.1 hx).1;have y0:=h.each x (List.mem_of_getElem? hx);have g0:w1.ownsRow base 129 2 (.slice (some ⟨g,0,none⟩) n c) n (idcells E):=(Chg.of_grown (S:=fun k=>(Value.slice x.A x.ps.length x.c).ownBlock=some k) hg (fun _ _ e=>e)).owns h.own fun g' q0 hS=>by
  obtain⟨cur,hc,_⟩:=Ae h.own q0;exact Am y0 hc (by decide) hS
 have i0:(Value.slice (some ⟨g,0,none⟩) n c).ownBlock=some g:=rfl;obtain⟨curB,m0,_⟩:=Ae g0 i0;have G:Chg (fun k=>k=g) w1 (w1.setCell ⟨g,k*2+1,none⟩ (.slice A1 (x.ps.length+1) c1)):=Chg.of_set w1 _ rfl;have J:∀ {b e size n:Nat} {v:Value} {xs:List Value},e≠129->w1.ownsRow b e size v n xs->(w1.setCell ⟨g,k*2+1,none⟩ (.slice A1 (x.ps.length+1) c1)).ownsRow b e size v n xs:=fun H hh=>G.owns hh fun g' q0 e=>Am hh m0 H (by rw[q0,e]);have Y:∀i j z u,E[i]? = some z->E[j]? = some u->i≠j->IdE.far z u:=fun i j z u hi hj H=>by
  obtain⟨hi1,rfl⟩:=List.getElem?_eq_some_iff.1 hi;obtain⟨t0,rfl⟩:=List.getElem?_eq_some_iff.1 hj;rcases Nat.lt_or_gt_of_ne H with hl | hl
  ·exact List.pairwise_iff_getElem.1 h.apart i j hi1 t0 hl
  ·exact IdE.far_symm (List.pairwise_iff_getElem.1 h.apart j i t0 hi1 hl)
 have Z:∀z∈E.set k ⟨s,x.ps ++ [y],A1,c1⟩,z=⟨s,x.ps ++ [y],A1,c1⟩\/∃i,E[i]? = some z/\i≠k:=fun z I=>by
  obtain⟨i,hi⟩:=List.mem_iff_getElem?.1 I;rw[List.getElem?_set]at hi;split at hi
  ·exact .inl (Option.some.inj hi).symm
  ·rename_i H;exact .inr ⟨i,hi,fun e=>H e.symm⟩
 have U:∀u,posAt 0 W u->posAt 0 (w1.setCell ⟨g,k*2+1,none⟩ (.slice A1 (x.ps.length+1) c1)) u:=fun u T=>by
  have q:=Ci y0 hg T.1 (by decide);exact⟨q.chg G fun a ha e=>q.unlike m0 (by decide) a ha e,T.2⟩
 have hlen:(x.ps ++ [y]).length=x.ps.length+1:=by rw[List.length_append];rfl
 refine⟨by rw[List.length_set];exact h.len,?_,fun z I=>?_,fun z I u T=>?_,?_,?_⟩
 ·have h1:=M7 g0 (k*2+1) (.slice A1 (x.ps.length+1) c1);have h2:(idcells E).set (k*2+1) (.slice A1 (x.ps.length+1) c1)=idcells (E.set k ⟨s,x.ps ++ [y],A1,c1⟩):=by
   apply List.ext_getElem?;intro j;by_cases hj:j<E.length*2
   ·have o0:j=(j / 2)*2+j%2:=by omega
    have x0:j / 2<E.length:=by omega
    rw[o0,List.getElem?_set];by_cases v0:j / 2=k
    ·subst v0;have q1:(E.set (j / 2) ⟨s,x.ps ++ [y],A1,c1⟩)[j / 2]? = some ⟨s,x.ps ++ [y],A1,c1⟩:=by rw[List.getElem?_set,if_pos rfl,if_pos x0]
     rw[BG q1 (by omega),BG hx (by omega),Bl];rcases (show j%2=0\/j%2=1 by omega)with h0 | h0
     ·rw[h0,if_neg (by omega)];unfold IdE.cells;rw[hs];rfl
     ·rw[h0,if_pos rfl,if_pos (by omega)];unfold IdE.cells;simp only[hlen];rfl
    ·obtain⟨z,I⟩:∃z,E[j / 2]? = some z:=⟨_,List.getElem?_eq_getElem x0⟩
     have p1:(E.set k ⟨s,x.ps ++ [y],A1,c1⟩)[j / 2]? = some z:=by rw[List.getElem?_set,if_neg (fun e=>v0 e.symm)];exact I
     rw[if_neg (by omega),BG p1 (by omega),BG I (by omega)]
   ·rw[List.getElem?_eq_none (by rw[List.length_set,Bl];omega),List.getElem?_eq_none (by rw[Bl,List.length_set];omega)]
  rw[h2]at h1;exact h1
 ·rcases Z z I with rfl | ⟨i,hi,H⟩
  ·show World.ownsRow _ base _ 2 (.slice A1 (x.ps ++ [y]).length c1) (x.ps ++ [y]).length (pcells (x.ps ++ [y]));rw[hlen,F9];exact J (by decide) ho
  ·exact J (by decide) (Q0 (h.each z (List.mem_of_getElem? hi)) (Y i k z x hi hx H) rfl hg)
 ·rcases Z z I with rfl | ⟨i,hi,H⟩
  ·rcases List.mem_append.1 T with T | T
   ·exact U u (h.pos x (List.mem_of_getElem? hx) u T)
   ·rw[List.mem_singleton.1 T];exact U y hy
  ·exact U u (h.pos z (List.mem_of_getElem? hi) u T)
 ·have key:∀i z,E[i]? = some z->i≠k->IdE.far z ⟨s,x.ps ++ [y],A1,c1⟩:=fun i z hi H a b ha hb e=>by
   simp only at hb;subst hb;rcases O with O | ⟨q,O,hq⟩
   ·cases k0:x.A with
    | none=>rw[k0]at O;simp[Value.ownBlock]at O
    | some a' =>
     rw[k0]at O;simp[Value.ownBlock]at O;exact Y i k z x hi hx H a a' ha k0 (e.trans O)
   ·simp[Value.ownBlock]at O;obtain⟨cur,hc,_⟩:=Ae (h.each z (List.mem_of_getElem? hi)) (g:=a.block) (by rw[ha];rfl);have:=hc.lt;omega
  rw[List.pairwise_iff_getElem];intro i j hi hj l0;rw[List.length_set]at hi hj;rw[List.getElem_set,List.getElem_set];split
  ·rename_i n0;rw[if_neg (by omega)];exact IdE.far_symm (key j _ (List.getElem?_eq_getElem hj) (by omega))
  ·rename_i n0;split
   ·exact key i _ (List.getElem?_eq_getElem hi) (by omega)
   ·exact List.pairwise_iff_getElem.1 h.apart i j hi hj l0
 ·rw[EY,<-h.rows,hp.put y.po (v:=psP x.ps) (by rw[Eb hx,hs])];unfold idR;rw[List.map_set,List.set_eq_take_append_cons_drop,if_pos (by rw[List.length_map];exact hk)];show _=_;unfold IdE.rw';rw[Kw]
theorem RowsO.ins {base:Nat} {B:Option Addr} {E:List IdE} {done:List (List UInt8×Po)} (h:RowsO base W B n c E done) (Z:PlaP (idR E) s k) (hn:∀x,E[k]? = some x->¬ x.s=s)
 {y:PoC} (U:Ext W w1) (ho:w1.ownsRow base 129 2 (.slice A1 (n+1) c1) (n+1) ((idcells (E.take k) ++ [.string ⟨s.toArray⟩,.slice Ax 1 cx])++idcells (E.drop k))) (J:w1.ownsRow base 89 2 (.slice Ax 1 cx) 1 y.cells) (T:∀a,Ax=some a->W.heap.size<=a.block) (hy:posAt 0 w1 y) :
 RowsO base w1 A1 (n+1) c1 (E.take k++⟨s,[y],Ax,cx⟩::E.drop k) (done ++ [(s,y.po)]):=by
 have hk:k<=E.length:=by have:=Z.le;rw[Dn]at this;exact this
 have h1:=h.ext U;have H:∀z∈E.take k++(⟨s,[y],Ax,cx⟩:IdE)::E.drop k,z=⟨s,[y],Ax,cx⟩\/z∈E:=fun z j=>by
  rcases List.mem_append.1 j with j | j
  ·exact .inr (List.mem_of_mem_take j)
  ·rcases List.mem_cons.1 j with rfl | j
   ·exact .inl rfl
   ·exact .inr (List.mem_of_mem_drop j)
 have key:∀z∈E,IdE.far z ⟨s,[y],Ax,cx⟩:=fun z j a b G hb e=>by
  have h2:=T b hb;obtain⟨cur,I,_⟩:=Ae (h.each z j) (g:=a.block) (by rw[G];rfl);have:=I.lt;omega
 refine⟨?_,?_,fun z j=>?_,fun z j u Y=>?_,?_,?_⟩
 ·rw[List.length_append,List.length_cons,List.length_take,List.length_drop,h.len];omega
 ·rw[Kj];exact ho
 ·rcases H z j with rfl | j
  ·show World.ownsRow _ base _ 2 (.slice Ax 1 cx) 1 (pcells [y]);have:pcells [y]=y.cells:=by unfold pcells;simp
   rw[this];exact J
  ·exact h1.each z j
 ·rcases H z j with rfl | j
  ·rw[List.mem_singleton.1 Y];exact hy
  ·exact h1.pos z j u Y
 ·have O:=h.apart;rw[<-List.take_append_drop k E]at O;obtain⟨q1,q2,q3⟩:=List.pairwise_append.1 O;refine List.pairwise_append.2 ⟨q1,List.pairwise_cons.2 ⟨fun z j=>IdE.far_symm (key z (List.mem_of_mem_drop j)),q2⟩,fun z j u Y=>?_⟩;rcases List.mem_cons.1 Y with rfl | Y
  ·exact key z (List.mem_of_mem_take j)
  ·exact q3 z j u Y
 ·rw[EY,<-h.rows,Z.ins y.po fun x J=>by
   cases U:E[k]? with
   | none=>rw[Pt U]at J;cases J
   | some z=>rw[Eb U]at J;cases J;exact hn z U]
  unfold idR;rw[List.map_append,List.map_cons,List.map_take,List.map_drop];rfl
theorem Fc (E:List IdE) (B:Option Addr) (n c:Nat) (s:List UInt8) (w:World) (hn:n=E.length) (h:Cells w B (idcells E)) (h0:n<=1000000000) :
 Calls prog 76 #[.slice B n c,.string ⟨s.toArray⟩] w fun e w'=>∃k:Nat,e = .returned (.int .i64 (k:Int))/\PlaP (idR E) s k/\Ext w w':=by
 have a:(idR E).length=n:=by rw[Dn,hn]
 replace hn:=Aa hn;replace h:=Aa h;replace a:=Aa a
 go_in
 go_wp2_with fail
 go_loopw [5] (fun s5 wr=>∃k:Nat,s5 = .int .i64 (k:Int)/\k<=n/\Hid (∀i x,i<k->(idR E)[i]? = some x->x.1<s)/\Hid (Ext w wr)) (fun s5 _=>n - (intOf s5).toNat)
 case atStart=>exact⟨0,rfl,by omega,Aa (fun i x hi=>absurd hi (Nat.not_lt_zero _)),Aa (Ext.refl _)⟩
 case round =>
  obtain⟨k,rfl,hk,Y,T⟩:=hrel;by_cases Z:k<n
  ·obtain⟨x,b⟩:∃x,E[k]? = some x:=⟨_,List.getElem?_eq_getElem (by rw[<-hn.out];exact Z)⟩
   obtain⟨g,o,G,U⟩:=CC (h.out.ext T.out) b;obtain⟨l0,l1⟩:=U wr (Ext.refl _);have j:=Eb b;obtain⟨xs,ps,xA,xc⟩:=x;simp only at l0 l1 j;subst G;have I:decide ((k:Int)<n)=true:=decide_eq_true (by omega);clear U b;by_cases H:xs<s
   ·have O:=Aa (show ∀i x,i<k+1->(idR E)[i]? = some x->x.1<s from fun i x hi b=>by
     rcases Nat.lt_succ_iff_lt_or_eq.1 hi with hi | rfl
     ·exact Y.out i x hi b
     ·rw[j]at b;cases b;exact H)
    have hd:Op.bytesLess xs s=true:=by rw[Bm];exact decide_eq_true H
    replace j:=Aa j;go_wp2_with fail;exact⟨⟨k+1,by go_num,by omega,O,Aa T.out⟩,by simp only[intOf];omega⟩
   ·have hd:Op.bytesLess xs s=false:=by rw[Bm];exact decide_eq_false H
    have J:=Aa (show PlaP (idR E) s k from⟨by rw[a.out];exact hk,Y.out,fun x b=>by rw[j]at b;cases b;exact H⟩);replace j:=Aa j;go_wp2_with fail;go_ret;exact⟨k,rfl,J.out,T.out⟩
  ·obtain rfl:k=n:=by omega
   have J:=Aa (show PlaP (idR E) s k from⟨by rw[a.out];exact hk,Y.out,fun x b=>by rw[List.getElem?_eq_none (by rw[a.out];exact Nat.le_refl _)]at b;cases b⟩);go_wp2_with fail;go_ret;exact⟨k,rfl,J.out,T.out⟩
end
section
open Go.RowKit
theorem Hz {a:Act} {K:Act->World->Prop} {E0:Prop} {t e bytes:Nat} (E:Elem P t e 1 bytes) (H:o.guard=none)
 {base:Nat} {A B:Option Addr} (hb:Buf w base e A n c xs) (T:Cells w B news) (s x:Operand)
 (O:o.op = .call { callee:= .builtin .append,args:=#[s,x],argTypes:=#[t,t] })
 (hs:a.eval s = .slice A n c) (Z:a.eval x = .slice B m c') (U:news.length=m) (h1:∀u∈news,u.oneCell'=true) (Y:n+m<=4294967296) (j:base<=w.heap.size)
 (h:∀A1 c1 w',Buf w' base e A1 (n+m) c1 (xs++news)->w.grownBy w' (Value.slice A n c).ownBlock->K (a.put o.dst (.slice A1 (n+m) c1)) w') :
 if Region.wanted o (yielded ops a.tmps)=true then Oper.wp P o a w K Q else E0:=by
 rw[if_pos (by simp[Region.wanted,H])];obtain⟨A1,c1,w',b,h2,J,_⟩:=Gx (P:=P) E w o.type hb (c':=c') T U h1 Y j;unfold Oper.wp execOp;simp only[O,resolve,invoke,builtin,Sem.run_bind,Sem.run_pure,Result.andThen_ok,List.map_toArray,List.map_cons,List.map_nil,hs,Z,b];exact h A1 c1 w' h2 J
theorem Buf.own_le {base:Nat} (h:Buf w base e A n c xs) (hk:(Value.slice A n c).ownBlock=some k):base<=k:=by
 have j:=h.base_le;cases A with
 | none=>simp[Value.ownBlock]at hk
 | some b =>
  have:=j b rfl;simp[Value.ownBlock]at hk;omega
theorem FL (s:List UInt8) (w:World) (h:s.length<=1000000000):Calls prog 153 #[.string ⟨s.toArray⟩] w fun e w'=>NewB w (txL s) e w':=by
 have a:=Aa (fun W=>rbytes s.length W (by omega));have Z:=Co (n:=s.length) (by omega);have G:=AH (m:=s.length) (by omega);obtain⟨n,hn⟩:=Ab s.length;obtain⟨V,b⟩:=Ab (vb s.length);have H:txL s=V++s:=by rw[b];rfl
 rw[<-b,<-hn]at a;rw[<-b]at Z;rw[<-hn]at G h;rw[H];have hlen:(⟨s.toArray⟩:ByteArray).size=n:=by rw[hn];exact ByteArray.size_mk_toArray s
 replace hn:=Aa hn;replace b:=Aa b;clear H
 go_in
 go_wp2_with fail;refine(a.out w).mono ?_;rintro e w1 ⟨A1,c1,rfl,J,j⟩;have O:=j.size;go_wp2_with (at_builtin;refine D0 J (.tmp 6) (.tmp 7) rfl rfl rfl rfl (by have:=hn.out;omega) O (fun A2 c2 w2 U T Y=>?_));go_ret;exact⟨A2,c2,Cy (by rw[List.length_append]),by rw[List.length_append,List.map_append];exact U,Y w j (Nat.le_refl _)⟩
theorem Ox (e:Ev) (B:Option Addr) (d:Nat) (w:World) (h:e.Ok w B) (hk:checkE e.fs=0) (ha:I64ok' e.at_) :
 Calls prog 104 #[e.val B d] w fun en w'=>NewB w (putE e) en w':=by
 obtain⟨i2,p0⟩:=AM hk;have a1:putE e=(vb (zig e.at_)++vb e.fs.length)++putFs (e.fs.take e.fs.length):=by unfold putE;rw[List.take_length]
 rw[a1];obtain⟨at_,fs⟩:=e;obtain⟨hc,_,_⟩:=h;unfold Ev.val;simp only at hc i2 p0 ha ⊢;have r0:=DQ p0;obtain⟨m,hm⟩:=Ab fs.length;rw[<-hm]at i2 r0 ⊢;obtain⟨W,hW⟩:=Ab (w.alloc (.cells #[.int .i64 at_,.slice B m d] 69));have m0:Ext w W:=by rw[hW];exact(Ext.refl w).alloc _
 have hr:Row W w.heap.size 69 #[.int .i64 at_,.slice B m d]:=by rw[hW];exact Row.new w _ _
 obtain⟨b,hb⟩:=Ab w.heap.size;rw[<-hb]at hr;have f2:=Co (CM ha.1 ha.2);have q1:=Co (n:=m) (by omega);obtain⟨L1,y0⟩:=Ab (vb (zig at_));obtain⟨L2,c0⟩:=Ab (vb m);rw[<-y0]at f2;rw[<-c0]at q1;rw[<-y0,<-c0];have I:W.cell? ⟨b,0,none⟩=some (.int .i64 at_)/\W.cell? ⟨b,1,none⟩=some (.slice B m d)/\Ext W W:=⟨hr.cell 0 rfl,hr.cell 1 rfl,Ext.refl W⟩
 have d0:W.drew.cell? ⟨b,0,none⟩=some (.int .i64 at_)/\W.drew.cell? ⟨b,1,none⟩=some (.slice B m d)/\Ext W W.drew:=⟨hr.cell 0 rfl,hr.cell 1 rfl,(Ext.refl W).drew⟩
 have n0:∀x,(x.cell? ⟨b,0,none⟩=some (.int .i64 at_)/\x.cell? ⟨b,1,none⟩=some (.slice B m d)/\Ext W x)->Calls prog 111 #[.int .i64 at_] x fun e y=>∃A1 c1,e = .returned (.slice A1 L1.length c1)/\Own8 y W.heap.size A1 L1.length c1 L1/\(y.cell? ⟨b,0,none⟩=some (.int .i64 at_)/\y.cell? ⟨b,1,none⟩=some (.slice B m d)/\Ext W y):=fun x ⟨h0,h1,hE⟩ =>
  (Hh at_ x ha.1 ha.2).mono fun e y hy=>by
   obtain⟨A1,c1,he,i0,Y⟩:=NewB.own hy hE.size;rw[<-y0]at he i0;exact⟨A1,c1,he,i0,Y.cell h0,Y.cell h1,hE.trans Y⟩
 have o0:∀x A1 c1,Own8 x W.heap.size A1 L1.length c1 L1->(x.cell? ⟨b,0,none⟩=some (.int .i64 at_)/\x.cell? ⟨b,1,none⟩=some (.slice B m d)/\Ext W x)->Calls prog 152 #[.int .u64 (m:Int)] x fun e y=>∃A2 c2,e = .returned (.slice A2 L2.length c2)/\Own8 y W.heap.size A1 L1.length c1 L1/\Own8 y W.heap.size A2 L2.length c2 L2/\(y.cell? ⟨b,0,none⟩=some (.int .i64 at_)/\y.cell? ⟨b,1,none⟩=some (.slice B m d)/\Ext W y):=fun x A1 c1 i0 ⟨h0,h1,hE⟩ =>
  (rbytes m x (by omega)).mono fun e y hy=>by
   obtain⟨A2,c2,he,H,Y⟩:=NewB.own hy hE.size;rw[<-c0]at he H;exact⟨A2,c2,he,⟨rfl,i0.2.ext Y⟩,H,Y.cell h0,Y.cell h1,hE.trans Y⟩
 replace n0:=Aa n0;replace o0:=Aa o0;replace I:=Aa I;replace d0:=Aa d0;have l4:=AH (m:=m) (by omega);replace hW:=Aa hW;replace hm:=Aa hm;replace p0:=Aa p0;replace r0:=Aa r0;replace hb:=Aa hb;clear y0 c0 a1
 go_in
 go_wp2_with fail;rw[<-hW.out,<-hb.out];refine wp_region_held_drew (S:=fun x=>x.cell? ⟨b,0,none⟩=some (.int .i64 at_)/\x.cell? ⟨b,1,none⟩=some (.slice B m d)/\Ext W x) (by kernel_rfl) d0.out (fun f1=>?_);refine wpAnyH_take (i:=0) (v:= .pointer (some ⟨b,0,none⟩)) rfl (by kernel_rfl) (by kernel_rfl) (by kernel_rfl) (fun _ _ _ h=>h) (Or.inl ⟨by rfl,?_⟩) (by assumption) ?_
 ·intro w' j
  (try dsimp only at j)
  obtain⟨z1,z2,z3⟩:=j;go_simp
  try with_reducible rfl
  all_goals omega
 (try simp only[Act.put,Bv,Bw,By,CN,CO,CP])
 refine wpAnyH_take (i:=1) (v:= .int .i64 at_) rfl (by kernel_rfl) (by kernel_rfl) (by kernel_rfl) (fun _ _ _ h=>h) (Or.inl ⟨by rfl,?_⟩) (by assumption) ?_
 ·intro w' j
  (try dsimp only at j)
  obtain⟨z1,z2,z3⟩:=j;go_simp
  try with_reducible rfl
  all_goals omega
 (try simp only[Act.put,Bv,Bw,By,CN,CO,CP])
 refine wpAnyH_take (i:=3) (v:= .pointer (some ⟨b,1,none⟩)) rfl (by kernel_rfl) (by kernel_rfl) (by kernel_rfl) (fun _ _ _ h=>h) (Or.inl ⟨by rfl,?_⟩) (by assumption) ?_
 ·intro w' j
  (try dsimp only at j)
  obtain⟨z1,z2,z3⟩:=j;go_simp
  try with_reducible rfl
  all_goals omega
 (try simp only[Act.put,Bv,Bw,By,CN,CO,CP])
 refine wpAnyH_take (i:=4) (v:= .slice B m d) rfl (by kernel_rfl) (by kernel_rfl) (by kernel_rfl) (fun _ _ _ h=>h) (Or.inl ⟨by rfl,?_⟩) (by assumption) ?_
 ·intro w' j
  (try dsimp only at j)
  obtain⟨z1,z2,z3⟩:=j;go_simp
  try with_reducible rfl
  all_goals omega
 (try simp only[Act.put,Bv,Bw,By,CN,CO,CP])
 refine wpAnyH_take (i:=5) (v:= .int .i64 (m:Int)) rfl (by kernel_rfl) (by kernel_rfl) (by kernel_rfl) (fun _ _ _ h=>h) (Or.inl ⟨by rfl,?_⟩) (by assumption) ?_
 ·intro w' j
  (try dsimp only at j)
  obtain⟨z1,z2,z3⟩:=j;go_simp
  try with_reducible rfl
  all_goals omega
 (try simp only[Act.put,Bv,Bw,By,CN,CO,CP])
 refine wpAnyH_take (i:=6) (v:= .int .u64 (m:Int)) rfl (by kernel_rfl) (by kernel_rfl) (by kernel_rfl) (fun _ _ _ h=>h) (Or.inl ⟨by rfl,?_⟩) (by assumption) ?_
 ·intro w' j
  (try dsimp only at j)
  obtain⟨z1,z2,z3⟩:=j;go_simp
  try with_reducible rfl
  all_goals omega
 (try simp only[Act.put,Bv,Bw,By,CN,CO,CP])
 refine wpAnyH_ready (rs:= [2]) (by kernel_rfl) (by simp) ?_;refine AllReadyH.cons rfl (fun K hK=>?_) AllReadyH.nil
 (first | go_at_call 111 | (go_simp;go_at_call 111));(refine(n0.out _ ‹_›).mono ?_;rintro en w2 ⟨A2,c2,rfl,H,o1⟩)
 refine hK.out _ _ ?_ (fun t0=>?_)
 ·exact o1
 clear hK K
 (try simp only[Act.put,Bv,Bw,By,CN,CO,CP])
 refine wpAnyH_ready (rs:= [7]) (by kernel_rfl) (by simp) ?_;refine AllReadyH.cons rfl (fun K hK=>?_) AllReadyH.nil
 (first | go_at_call 152 | (go_simp;go_at_call 152));(refine(o0.out _ _ _ H o1).mono ?_;rintro en w3 ⟨A3,c3,rfl,H,p2,J⟩)
 refine hK.out _ _ ?_ (fun v0=>?_)
 ·exact J
 clear hK K
 (try simp only[Act.put,Bv,Bw,By,CN,CO,CP])
 refine wpAnyH_ready (rs:= [8]) (by kernel_rfl) (by simp) ?_;refine AllReadyH.cons rfl (fun K hK=>?_) AllReadyH.nil
 first | (refine Hz Aw rfl H.2 p2.2.cells (.tmp 7) (.tmp 12) rfl rfl rfl (by rw[List.length_map]) (Ai _) (by omega) (Ext.size J.2.2) (fun A4 c4 w4 k2 x2=>?_)) | (go_simp;refine Hz Aw rfl H.2 p2.2.cells (.tmp 7) (.tmp 12) rfl rfl rfl (by rw[List.length_map]) (Ai _) (by omega) (Ext.size J.2.2) (fun A4 c4 w4 k2 x2=>?_))
 have g0:=Ext.grown J.2.2 x2 (fun k hk=>H.2.own_le hk);have i1:=And.intro (g0.cell I.out.1) (And.intro (g0.cell I.out.2.1) g0);refine hK.out _ _ ?_ (fun x0=>?_)
 ·exact i1
 clear hK K
 (try simp only[Act.put,Bv,Bw,By,CN,CO,CP])
 refine wpAnyH_take (i:=9) (v:= .slice A4 (L1.length+L2.length) c4) rfl (by kernel_rfl) (by kernel_rfl) (by kernel_rfl) (fun _ _ _ h=>h) (Or.inl ⟨by rfl,?_⟩) (by assumption) ?_
 ·intro w' j
  (try dsimp only at j)
  obtain⟨z1,z2,z3⟩:=j;go_simp
  try with_reducible rfl
  all_goals omega
 (try simp only[Act.put,Bv,Bw,By,CN,CO,CP])
 refine wpAnyH_done (by kernel_rfl) ?_ _;have p1:=Aa i1.2.2;obtain⟨LL,Z⟩:=Ab (L1++L2);obtain⟨k4,G⟩:=Ab (L1.length+L2.length);have a:Own8 w4 W.heap.size A4 k4 c4 LL:=⟨by rw[Z,G,List.length_append],by rw[Z,G,List.map_append];exact k2⟩
 have a4:k4<=20:=by omega
 rw[<-G];replace a:=Aa a;replace Z:=Aa Z;replace G:=Aa G;have a2:=Aa hr;clear o1 J H p2 k2 x2 g0 i1 n0 o0 I d0 f1 t0 v0 x0 hr f2 q1;go_wp2_with fail
 go_loopw [3,4] (fun s3 s4 wr=>∃(i n5 c5:Nat) (A5:Option Addr) (L:List UInt8),s3 = .slice A5 n5 c5/\s4 = .int .i64 (i:Int)/\i<=m/\n5<=100000/\Hid (L=LL++putFs (fs.take i))/\Hid (Own8 wr W.heap.size A5 n5 c5 L)/\Hid (Ext W wr)) (fun _ s4 _=>m - (intOf s4).toNat)
 case atStart=>exact⟨0,k4,c4,A4,LL,rfl,rfl,by omega,by omega,Aa (by simp[putFs]),a,p1⟩
 case round =>
  clear a p1;obtain⟨i,n5,c5,A5,L,rfl,rfl,hi,f4,hL,a,hE⟩:=hrel;have y1:=(a2.out.ext hE.out).cell 1 rfl;by_cases him:i<m
  ·obtain⟨f,hf⟩:∃f,fs[i]? = some f:=⟨_,List.getElem?_eq_getElem (by rw[<-hm.out];exact him)⟩
   obtain⟨g,o,rfl,k0,k1⟩:=Bg ((hc.ext m0).ext hE.out) hf;have q0:∀W2,Ext W W2->W2.cell? ⟨g,o+i*2+1,none⟩=some (strV f.2):=fun W2 h2=>by
    obtain⟨g',o',he,_,k1'⟩:=Bg ((hc.ext m0).ext h2) hf;injection he with he;injection he with he1 he2;subst he1 he2;exact k1'
   have y3:=p0.out f (List.mem_of_getElem? hf);have d2:=Hc hf;obtain⟨nm,tx⟩:=f;unfold strV at k0 k1 q0;simp only at k0 k1 y3 d2 q0;obtain⟨b4,d4⟩:=y3;obtain⟨L5,U⟩:=Ab (L++txL nm);obtain⟨L6,O⟩:=Ab (L5++txL tx);have o3:L.length=n5:=a.out.1.symm;have x4:=Dy (s:=nm) (by omega);have y4:=Dy (s:=tx) (by omega);have x1:Hid (L6=LL++putFs (fs.take (i+1))):=Aa (by rw[O,U,hL.out,d2];simp);have t4:L6.length<=100000:=by
    rw[x1.out,List.length_append];have:=r0.out (i+1);have:=G.out;have:=congrArg List.length Z.out;rw[List.length_append]at this;omega
   have b3:=Aa (fun x=>FL nm x (by omega));have d3:=Aa (fun x=>FL tx x (by omega));obtain⟨T1,e0⟩:∃T,T=txL nm:=⟨_,rfl⟩
   obtain⟨T2,f0⟩:∃T,T=txL tx:=⟨_,rfl⟩
   have i4:n5+T1.length+T2.length<=100000:=by
    rw[O,U,List.length_append,List.length_append,<-e0,<-f0]at t4;omega
   rw[<-e0]at b3 U x4;rw[<-f0]at d3 O y4;replace e0:=Aa e0;replace f0:=Aa f0;replace U:=Aa U;replace O:=Aa O;have q0':=Aa q0;clear o3 d2 hf q0;go_wp2_with fail;refine(b3.out wr).mono ?_;rintro en w5 ⟨B5,d5,rfl,p4,o2⟩;have h4:=a.out.2.ext o2;have d1:=hE.out.trans o2;have v4:=d1.size;have y1':=(a2.out.ext d1).cell 1 rfl;go_wp2_with (at_builtin;refine Al Aw h4 p4.cells (.tmp 21) (.tmp 28) rfl rfl rfl rfl rfl (by rw[List.length_map]) (Ai _) (by omega) v4 (fun A6 c6 w6 j2 g4 h3 _=>?_);have q2:=Aa (h3 W d1 (Nat.le_refl _));have y1q:=(a2.out.ext q2.out).cell 1 rfl;have q1q:=q0'.out w6 q2.out;replace j2:=Aa j2;clear h3 g4 y1 y1' k0 k1);refine(d3.out w6).mono ?_;rintro en w7 ⟨B7,d7,rfl,j4,q3⟩;have m3:=j2.out.ext q3;have j1:=q2.out.trans q3;have e3:=j1.size;clear y1q q1q;go_wp2_with (at_builtin;refine Al Aw m3 j4.cells (.tmp 30) (.tmp 37) rfl rfl rfl rfl rfl (by rw[List.length_map]) (Ai _) (by omega) e3 (fun A8 c8 w8 m2 m4 p3 _=>?_);have r3:=Aa (p3 W j1 (Nat.le_refl _));replace m2:=Aa m2;clear p3 m4);exact⟨⟨i+1,n5+T1.length+T2.length,c8,A8,L6,rfl,by go_num,by omega,by omega,x1,Aa ⟨by rw[O.out,U.out,List.length_append,List.length_append,<-a.out.1],by rw[O.out,U.out,List.map_append,List.map_append];exact m2.out⟩,r3⟩,by simp[intOf];omega⟩
  ·obtain rfl:i=m:=by omega
   have e4:Hid (L=LL++putFs (fs.take i)):=hL;go_wp2_with fail;go_ret;have a3:n5=L.length:=a.out.1;refine⟨A5,c5,?_,?_,m0.trans hE.out⟩
   ·rw[a3,hL.out,Z.out];rfl
   ·have t3:=a.out.2.lower m0.size;rw[a3]at t3;rw[<-Z.out,<-hL.out];exact t3
structure OwnK where
  H:Nat->(Nat->Prop)->Value->World->Prop
  use:Nat->Option Nat
  H0:World->Prop
  own0:Nat->Prop
  use0:Nat
def OwnK.T (K:OwnK) (md:Region.Mode) (ops:Array Oper) (base:Array Bool) (F:Nat->Nat->Prop) (i:Nat) (k:Nat):Prop :=
 (∃o e d,ops[i]? = some o/\e∈o.after/\Region.binds md e=true/\base.getD e.on true=false/\dstOf ops e.on=some d/\K.use e.on=some i/\F e.on k)\/(K.use0=i/\K.own0 k)
def OwnK.live (K:OwnK) (listed:Array Bool) (j:Nat):Prop:=∀u,K.use j=some u->listed.getD u true=false
structure OwnI (K:OwnK) (ops:Array Oper) (base:Array Bool) (w0:World) (F:Nat->Nat->Prop) (listed:Array Bool) (a:Act) (w:World):Prop where
  one:∀j d,base.getD j true=false->listed.getD j true=true->dstOf ops j=some d->K.live listed j->K.H j (F j) (a.tmps.getD d undef) w/\∀k,F j k->w0.heap.size<=k/\k<w.heap.size
  two:∀j j' d d',base.getD j true=false->base.getD j' true=false->listed.getD j true=true->listed.getD j' true=true->dstOf ops j=some d->dstOf ops j'=some d'->K.live listed j->K.live listed j'->j≠j'->∀k,F j k->¬ F j' k
  zero:listed.getD K.use0 true=false->K.H0 w/\(∀k,K.own0 k->w0.heap.size<=k/\k<w.heap.size)/\∀j d,base.getD j true=false->listed.getD j true=true->dstOf ops j=some d->K.live listed j->∀k,F j k->¬ K.own0 k
structure OwnD (K:OwnK) (md:Region.Mode) (ops:Array Oper) (base:Array Bool) (w0:World) (F:Nat->Nat->Prop) (i:Nat) (o:Oper) (a:Act) (w:World):Prop where
  one:∀e∈o.after,Region.binds md e=true->base.getD e.on true=false->∀d,dstOf ops e.on=some d->(K.use e.on=none\/K.use e.on=some i)->K.H e.on (F e.on) (a.tmps.getD d undef) w/\∀k,F e.on k->w0.heap.size<=k/\k<w.heap.size
  two:∀e∈o.after,∀e'∈o.after,Region.binds md e=true->Region.binds md e'=true->base.getD e.on true=false->base.getD e'.on true=false->∀d d',dstOf ops e.on=some d->dstOf ops e'.on=some d'->(K.use e.on=none\/K.use e.on=some i)->(K.use e'.on=none\/K.use e'.on=some i)->e.on≠e'.on->∀k,F e.on k->¬ F e'.on k
  zero:K.use0=i->K.H0 w/\(∀k,K.own0 k->w0.heap.size<=k/\k<w.heap.size)/\∀e∈o.after,Region.binds md e=true->base.getD e.on true=false->∀d,dstOf ops e.on=some d->(K.use e.on=none\/K.use e.on=some i)->∀k,F e.on k->¬ K.own0 k
def aboveK (md:Region.Mode) (ops:Array Oper) (base:Array Bool) (i:Nat):List Nat :=
 (List.range ops.size).foldl (fun acc j=>if base.getD j true=false/\((ops[j]?).map fun o=>o.after.any fun e=>Region.binds md e&&acc.contains e.on).getD false=true then j::acc else acc) [i]
theorem Ej {base listed:Array Bool} (Y:∀j,base.getD j true=false->listed.getD j true=true->∀o,ops[j]? = some o->∀e∈o.after,Region.binds md e=true->listed.getD e.on true=true) :
 ∀j∈aboveK md ops base i,listed.getD j true=true->listed.getD i true=true:=by
 unfold aboveK;have key:∀(l acc:List Nat),(∀j∈acc,listed.getD j true=true->listed.getD i true=true)->∀j∈l.foldl (fun acc j=>if base.getD j true=false/\((ops[j]?).map fun o=>o.after.any fun e=>Region.binds md e&&acc.contains e.on).getD false=true then j::acc else acc) acc,listed.getD j true=true->listed.getD i true=true:=by
  intro l
  induction l with
  | nil=>intro acc h;exact h
  | cons x t ih =>
   intro acc h;rw[List.foldl_cons];refine ih _ fun j a H=>?_;split at a
   ·rename_i b;rcases List.mem_cons.1 a with rfl | a
    ·obtain⟨hb,b⟩:=b;cases J:ops[j]? with
     | none=>rw[J]at b;simp at b
     | some o =>
      rw[J]at b;simp only[Option.map_some,Option.getD_some]at b;rw[Array.any_eq_true']at b;obtain⟨e,U,b⟩:=b;rw[Bool.and_eq_true]at b;exact h e.on (by simpa using b.2) (Y j hb H o J e U b.1)
    ·exact h j a H
   ·exact h j a H
 exact key _ _ fun j a H=>by
  rw[List.mem_singleton.1 a]at H;exact H
structure KnowB (md:Region.Mode) (ops:Array Oper) (base:Array Bool) (a0:Act) (wx:World) (i:Nat) (a:Act) (w:World):Prop where
  size:a.tmps.size=a0.tmps.size
  defers:a.defers=a0.defers
  same:∀(d:Nat) (_:(List.range ops.size).all (fun j=>base.getD j true || decide (dstOf ops j≠some d) || (aboveK md ops base i).contains j)=true:=by kernel_rfl),a.tmps[d]? = a0.tmps[d]?
  ext:Ext wx w
structure KnowC (md:Region.Mode) (ops:Array Oper) (base:Array Bool) (a0:Act) (wx:World) (listed:Array Bool) (a:Act) (w:World):Prop where
  size:a.tmps.size=a0.tmps.size
  defers:a.defers=a0.defers
  same:∀d,(∀j,base.getD j true=false->listed.getD j true=true->dstOf ops j≠some d)->a.tmps[d]? = a0.tmps[d]?
  ext:Ext wx w
  closed:∀j,base.getD j true=false->listed.getD j true=true->∀o,ops[j]? = some o->∀e∈o.after,Region.binds md e=true->listed.getD e.on true=true
theorem KnowC.a {base:Array Bool} {a:Act} (h:KnowC md ops base a0 wx listed a w):KnowA ops base a0 wx a w :=
 ⟨h.size,h.defers,fun d hd=>h.same d fun j hb _ b=>by
  rw[List.all_eq_true]at hd;have H:j<ops.size:=by
   unfold dstOf at b;obtain⟨o,Y,_⟩:=Option.bind_eq_some_iff.1 b;exact(Array.getElem?_eq_some_iff.1 Y).1
  have:=hd j (List.mem_range.2 H);rw[hb,Bool.false_or]at this;exact of_decide_eq_true this b,h.ext⟩
theorem KnowC.b {base:Array Bool} {a:Act} (h:KnowC md ops base a0 wx listed a w) (hi:listed.getD i true=false):KnowB md ops base a0 wx i a w :=
 ⟨h.size,h.defers,fun d hd=>h.same d fun j hb J H=>by
  rw[List.all_eq_true]at hd;have Y:j<ops.size:=by
   unfold dstOf at H;obtain⟨o,U,_⟩:=Option.bind_eq_some_iff.1 H;exact(Array.getElem?_eq_some_iff.1 U).1
  have:=hd j (List.mem_range.2 Y);rw[hb,Bool.false_or,Bool.or_eq_true]at this;rcases this with h1 | h1
  ·exact of_decide_eq_true h1 H
  ·have:=Ej h.closed j (by simpa using h1) J;exact absurd (hi.symm.trans this) (by simp),h.ext⟩
theorem EK {S:World->Prop} {base:Array Bool} (hk:KnowOps md ops base a0.tmps.size) (K:OwnK)
 (hm:∀j S v w w' (T:Nat->Prop),K.H j S v w->Chg T w w'->(∀k,T k->w0.heap.size<=k)->(∀k,S k->¬ T k)->K.H j S v w')
 (o3:∀w w' (T:Nat->Prop),K.H0 w->Chg T w w'->(∀k,T k->w0.heap.size<=k)->(∀k,K.own0 k->¬ T k)->K.H0 w') (hS:∀w,S w)
 (y2:∀i o,ops[i]? = some o->base.getD i true=false->∀(F:Nat->Nat->Prop) a w,KnowB md ops base a0 w0 i a w->OwnD K md ops base w0 F i o a w ->
  if Region.wanted o (yielded ops a.tmps)=true then Oper.wp P o a w (fun a' w'=>∃v S,a'=a.put o.dst v/\K.H i S v w'/\Chg (K.T md ops base F i) w w'/\∀k,S k->k<w'.heap.size/\(w.heap.size<=k\/K.T md ops base F i k)) Q else K.H i (fun _=>False) undef w)
 (m3:∀(F:Nat->Nat->Prop) a w,KnowA ops base a0 w0 a w->(∀j d,base.getD j true=false->dstOf ops j=some d->K.use j=none->K.H j (F j) (a.tmps.getD d undef) w/\∀k,F j k->w0.heap.size<=k/\k<w.heap.size)->Q .normal a w) :
 ∀(fuel:Nat) (listed:Array Bool) (F:Nat->Nat->Prop) (a:Act) (w:World),listed.size=ops.size->(lack ops listed).length<=fuel->(∀j,base.getD j true=true->listed.getD j true=true)->KnowC md ops base a0 w0 listed a w->OwnI K ops base w0 F listed a w->wpAnyH P md ops Q S fuel listed a w:=by
 have f1:∀(listed:Array Bool) (F:Nat->Nat->Prop) (a:Act) (w:World),lack ops listed = []->listed.size=ops.size->KnowC md ops base a0 w0 listed a w->OwnI K ops base w0 F listed a w->Q .normal a w:=fun listed F a w hl hs ha hI=>m3 F a w ha.a fun j d hb hd hu=>hI.one j d hb (by
  apply Decidable.byContradiction;intro hn;have hj:j<ops.size:=by
   unfold dstOf at hd;obtain⟨o,ho,_⟩:=Option.bind_eq_some_iff.1 hd;exact(Array.getElem?_eq_some_iff.1 ho).1
  have:j∈lack ops listed:=List.mem_filter.2 ⟨List.mem_range.2 hj,by simpa using hn⟩;rw[hl]at this;cases this) hd fun u h=>by rw[hu]at h;cases h
 intro fuel
 induction fuel with
 | zero =>
  intro listed F a w hs hf hb ha hI;have h0:lack ops listed = []:=List.length_eq_zero_iff.1 (by omega);refine⟨?_,f1 listed F a w h0 hs ha hI⟩;cases hr:Region.ready md ops listed with
  | nil=>rfl
  | cons i t =>
   have:=(BU (md:=md) (ops:=ops) (listed:=listed) (i:=i) (by rw[hr];exact List.mem_cons_self ..)).1;rw[h0]at this;cases this
 | succ fuel ih =>
  intro listed F a w hs hf hb ha hI;refine⟨fun h0=>f1 listed F a w (Ey hk hs h0) hs ha hI,fun i hi=>?_⟩;obtain⟨k2,o,ho,j3⟩:=BU hi;have j2:=(List.mem_filter.1 k2).2;have t3:i<listed.size:=by rw[hs];exact List.mem_range.1 (List.mem_filter.1 k2).1
  have m1:listed.getD i true=false:=by simpa using j2
  have k3:base.getD i true=false:=by
   apply Decidable.byContradiction;intro hn;have:=hb i (by simpa using hn);rw[this]at j2;cases j2
  have g0:∀e∈o.after,Region.binds md e=true->listed.getD e.on true=true:=fun e he U=>by
   have h1:=j3 e he U;rw[Array.getD_eq_getD_getElem?]at h1 ⊢;cases hx:listed[e.on]? with
   | none=>simp
   | some b=>rw[hx]at h1;simpa using h1
  have o0:∀j,(K.use j=none\/K.use j=some i)->K.live listed j:=fun j hj u hu=>by
   rcases hj with hj | hj
   ·rw[hj]at hu;cases hu
   ·rw[hj]at hu;cases hu;exact m1
  have y1:=y2 i o ho k3 F a w (ha.b m1) ⟨fun e he U k0 d hd hu=>hI.one e.on d k0 (g0 e he U) hd (o0 _ hu),fun e he e' d3 U q3 k0 p3 d d' hd j1 hu q4 J=>hI.two e.on e'.on d d' k0 p3 (g0 e he U) (g0 e' d3 q3) hd j1 (o0 _ hu) (o0 _ q4) J,fun h=>by
   obtain⟨h1,h2,h3⟩:=hI.zero (by rw[h];exact m1);exact⟨h1,h2,fun e he U k0 d hd hu=>h3 e.on d k0 (g0 e he U) hd (o0 _ hu)⟩⟩
  have hT:∀k,K.T md ops base F i k->w0.heap.size<=k/\k<w.heap.size/\(∀j d,base.getD j true=false->listed.getD j true=true->dstOf ops j=some d->K.live listed j->K.use j≠some i->¬ F j k)/\(K.use0≠i->listed.getD K.use0 true=false->¬ K.own0 k):=fun k hk=>by
   rcases hk with ⟨o',e,d,i0,he,U,k0,hd,hu,hw⟩ | ⟨hu,hw⟩
   ·rw[ho]at i0;cases i0;have hl:=o0 e.on (.inr hu);have h1:=(hI.one e.on d k0 (g0 e he U) hd hl).2 k hw;refine⟨h1.1,h1.2,fun j d' O Y d0 G J=>?_,fun J h0=>?_⟩
    ·exact hI.two e.on j d d' k0 O (g0 e he U) Y hd d0 hl G (fun h=>J (by rw[<-h];exact hu)) k hw
    ·exact(hI.zero h0).2.2 e.on d k0 (g0 e he U) hd hl k hw
   ·obtain⟨_,h1,h2⟩:=hI.zero (by rw[hu];exact m1);exact⟨(h1 k hw).1,(h1 k hw).2,fun j d' O Y d0 G J x1=>h2 j d' O Y d0 G k x1 hw,fun J=>absurd hu J⟩
  have I:∀j,j≠i->(listed.setIfInBounds i true).getD j true=listed.getD j true:=fun j hj=>by
   rw[Array.getD_eq_getD_getElem?,Array.getElem?_setIfInBounds_ne (fun h=>hj h.symm),<-Array.getD_eq_getD_getElem?]
  have e0:(listed.setIfInBounds i true).getD i true=true:=by
   rw[Array.getD_eq_getD_getElem?,Array.getElem?_setIfInBounds,if_pos rfl,if_pos t3];rfl
  have v0:∀j,K.live (listed.setIfInBounds i true) j->K.live listed j/\K.use j≠some i:=fun j h=>by
   have J:K.use j≠some i:=fun hu=>by
    have:=h i hu;rw[e0]at this;cases this
   refine⟨fun u hu=>?_,J⟩;have h1:=h u hu;rw[I u (fun e=>J (by rw[<-e];exact hu))]at h1;exact h1
  have r0:∀v (Z:Nat->Prop) w',K.H i Z v w'->Chg (K.T md ops base F i) w w'->(∀k,Z k->k<w'.heap.size/\(w.heap.size<=k\/K.T md ops base F i k))->S w'/\wpAnyH P md ops Q S fuel (listed.setIfInBounds i true) (a.put o.dst v) w':=fun v Z w' hv hC hO=>by
   have o1:∀d,o.dst≠some d->(a.put o.dst v).tmps[d]? = a.tmps[d]? :=fun d hd=>by
    unfold Act.put;cases w3:o.dst with
    | none=>rfl
    | some d' =>
     simp only;rw[Array.getElem?_setIfInBounds_ne];intro e;exact hd (by rw[w3,e])
   have h4:(a.put o.dst v).tmps.size=a.tmps.size:=by
    unfold Act.put;cases o.dst with
    | none=>rfl
    | some d'=>simp
   have b3:(a.put o.dst v).defers=a.defers:=by
    unfold Act.put;cases o.dst <;> rfl
   have p2:dstOf ops i=o.dst:=by unfold dstOf;rw[ho];rfl
   have a3:Ext w0 w':=ha.ext.chg hC fun k hk n0=>by have:=(hT k n0).1;omega
   have f3:∀j d,j≠i->dstOf ops j=some d->(a.put o.dst v).tmps.getD d undef=a.tmps.getD d undef:=fun j d e hd=>by
    have J:o.dst≠some d:=fun h=>e (FB hk.nodup hd (p2.trans h));rw[Array.getD_eq_getD_getElem?,o1 d J,<-Array.getD_eq_getD_getElem?]
   have i3:∀d,dstOf ops i=some d->(a.put o.dst v).tmps.getD d undef=v:=fun d hd=>by
    rw[p2]at hd;have l3:d<a.tmps.size:=by
     have o2:=hk.bound;rw[List.all_eq_true]at o2;have:=o2 o (by simpa using Array.mem_of_getElem? ho);rw[hd]at this;rw[ha.size];exact of_decide_eq_true this
    unfold Act.put;rw[hd,Array.getD_eq_getD_getElem?,Array.getElem?_setIfInBounds,if_pos rfl,if_pos l3];rfl
   have r3:∀k,Z k->w0.heap.size<=k:=fun k hk=>by
    rcases (hO k hk).2 with h | h
    ·exact Nat.le_trans ha.ext.size h
    ·exact(hT k h).1
   have x3:∀k,Z k->∀j d,base.getD j true=false->listed.getD j true=true->dstOf ops j=some d->K.live listed j->K.use j≠some i->¬ F j k:=fun k hk j d O Y d0 G J x1=>by
    rcases (hO k hk).2 with h | h
    ·have:=((hI.one j d O Y d0 G).2 k x1).2;omega
    ·exact(hT k h).2.2.1 j d O Y d0 G J x1
   obtain⟨F',i2⟩:=Ab (fun j=>if j=i then Z else F j:Nat->Nat->Prop);have k1:F' i=Z:=by rw[i2];exact if_pos rfl
   have l0:∀j,j≠i->F' j=F j:=fun j hj=>by rw[i2];exact if_neg hj
   refine⟨hS _,ih _ F' _ _ (by simpa using hs) (by have:=GW k2;omega) (fun j hj=>?_) ⟨by rw[h4];exact ha.size,by rw[b3];exact ha.defers,fun d hd=>?_,a3,fun j O Y o' i0 e he U=>?_⟩ ⟨fun j d O Y hd G=>?_,fun j j' d d' O d1 Y t0 hd j1 G y3 J k h1 h2=>?_,fun h0=>?_⟩⟩
   ·have:=hb j hj;by_cases e:j=i
    ·subst e;exact e0
    ·rw[I j e];exact this
   ·rw[o1 d (by
     rw[<-p2];exact hd i k3 e0)]
    exact ha.same d fun j hb hl=>hd j hb (by
     by_cases e:j=i
     ·subst e;exact e0
     ·rw[I j e];exact hl)
   ·have e3:∀e∈o'.after,Region.binds md e=true->listed.getD e.on true=true:=fun e he U=>by
     by_cases e1:j=i
     ·subst e1;rw[ho]at i0;cases i0;exact g0 e he U
     ·rw[I j e1]at Y;exact ha.closed j O Y o' i0 e he U
    by_cases e2:e.on=i
    ·rw[e2];exact e0
    ·rw[I _ e2];exact e3 e he U
   ·by_cases e:j=i
    ·subst e;rw[i3 d hd,k1];exact⟨hv,fun k hk=>⟨r3 k hk,(hO k hk).1⟩⟩
    ·rw[I j e]at Y;obtain⟨p0,x0⟩:=v0 j G;obtain⟨h1,h2⟩:=hI.one j d O Y hd p0;rw[f3 j d e hd,l0 j e];exact⟨hm j _ _ _ _ _ h1 hC (fun k hk=>(hT k hk).1) fun k hk n0=>(hT k n0).2.2.1 j d O Y hd p0 x0 hk,fun k hk=>⟨(h2 k hk).1,Nat.lt_of_lt_of_le (h2 k hk).2 hC.size⟩⟩
   ·obtain⟨p0,x0⟩:=v0 j G;obtain⟨q1,d2⟩:=v0 j' y3;by_cases e:j=i
    ·subst e;have e':j'≠j:=fun h=>J h.symm;rw[k1]at h1;rw[l0 j' e']at h2;rw[I j' e']at t0;exact x3 k h1 j' d' d1 t0 j1 q1 d2 h2
    ·rw[l0 j e]at h1;rw[I j e]at Y;by_cases e':j'=i
     ·subst e';rw[k1]at h2;exact x3 k h2 j d O Y hd p0 x0 h1
     ·rw[l0 j' e']at h2;rw[I j' e']at t0;exact hI.two j j' d d' O d1 Y t0 hd j1 p0 q1 J k h1 h2
   ·have a2:K.use0≠i:=fun e=>by rw[e,e0]at h0;cases h0
    rw[I _ a2]at h0;obtain⟨h1,h2,h3⟩:=hI.zero h0;refine⟨o3 _ _ _ h1 hC (fun k hk=>(hT k hk).1) fun k hk n0=>(hT k n0).2.2.2 a2 h0 hk,fun k hk=>⟨(h2 k hk).1,Nat.lt_of_lt_of_le (h2 k hk).2 hC.size⟩,fun j d O Y hd G k hk m2=>?_⟩;obtain⟨p0,x0⟩:=v0 j G;by_cases e:j=i
    ·subst e;rw[k1]at hk;rcases (hO k hk).2 with h | h
     ·have:=(h2 k m2).2;omega
     ·exact(hT k h).2.2.2 a2 h0 m2
    ·rw[l0 j e]at hk;rw[I j e]at Y;exact h3 j d O Y hd p0 k hk m2
  unfold wpOp;rw[ho];simp only;split
  ·rename_i hw;rw[if_pos hw]at y1;exact .inl (Oper.wp_mono (fun a' w' ⟨v,Z,he,hv,hC,hO⟩=>by rw[he];exact r0 v Z w' hv hC hO) y1)
  ·rename_i hw;rw[if_neg hw]at y1;exact r0 undef _ w y1 (Chg.refl _ _) fun k hk=>hk.elim
end
section
open Go.RowKit
abbrev KE:=(Value->(Nat->Prop)->World->Prop)×Option Nat
def kV (u:Value) (v:Value) (S:Nat->Prop) (_:World):Prop:=v=u/\∀k,¬ S k
def kB (base:Nat) (D:List UInt8) (v:Value) (S:Nat->Prop) (w:World):Prop:=∃A c,v = .slice A D.length c/\Buf w base 5 A D.length c (D.map B8)/\∀k,S k↔v.ownBlock=some k
def kO (base T size n:Nat) (xs:List Value) (v:Value) (S:Nat->Prop) (w:World):Prop:=∃A c,v = .slice A n c/\w.ownsRow base T size v n xs/\∀k,S k↔v.ownBlock=some k
def ownK (l:List KE) (H0:World->Prop) (own0:Nat->Prop) (use0:Nat):OwnK where
 H j S v w:=(l.getD j (fun _ _ _=>True,none)).1 v S w
 use j:=(l.getD j (fun _ _ _=>True,none)).2
 H0:=H0
 own0:=own0
 use0:=use0
def KKept (b0:Nat) (p:KE):Prop:=∀v S w w' (T:Nat->Prop),p.1 v S w->Chg T w w'->(∀k,T k->b0<=k)->(∀k,S k->¬ T k)->p.1 v S w'
theorem FJ {l:List KE} (h:∀p∈l,KKept b0 p) (j:Nat) (S:Nat->Prop) (v:Value) (w w':World) (T:Nat->Prop) (b:(ownK l H0 own0 use0).H j S v w) (Y:Chg T w w') (U:∀k,T k->b0<=k) (J:∀k,S k->¬ T k):(ownK l H0 own0 use0).H j S v w':=by
 unfold ownK at b ⊢;simp only[List.getD_eq_getElem?_getD]at b ⊢;cases a:l[j]? with
 | none=>trivial
 | some p =>
  rw[a]at b;exact h p (List.mem_of_getElem? a) v S w w' T b Y U J
theorem RH (b0:Nat) (u:Value) (n:Option Nat):KKept b0 (kV u,n):=fun _ _ _ _ _ h _ _ _=>h
theorem RF (b0 base:Nat) (D:List UInt8) (n:Option Nat):KKept b0 (kB base D,n):=fun v S w w' T h b _ H=>by
 obtain⟨A,c,rfl,hb,j⟩:=h;refine⟨A,c,rfl,hb.chg b fun a Y=>H a.block ((j _).2 ?_),j⟩;subst Y;rfl
theorem RG (b0 base T size m:Nat) (xs:List Value) (n:Option Nat):KKept b0 (kO base T size m xs,n):=fun v S w w' Z h b _ a=>by
 obtain⟨A,c,rfl,hb,j⟩:=h;exact⟨A,c,rfl,b.owns hb fun g H=>a g ((j _).2 H),j⟩
structure OwnJ (K:OwnK) (md:Region.Mode) (ops:Array Oper) (base:Array Bool) (w0:World) (F:Nat->Nat->Prop) (i:Nat) (o:Oper) (a:Act) (w:World):Prop where
  one:∀(j d:Nat) (_:(o.after.any fun e=>e.on==j&&Region.binds md e)=true:=by kernel_rfl) (_:base.getD j true=false:=by kernel_rfl) (_:dstOf ops j=some d:=by kernel_rfl) (_:(K.use j==none || K.use j==some i)=true:=by kernel_rfl),K.H j (F j) (a.tmps.getD d undef) w/\∀k,F j k->w0.heap.size<=k/\k<w.heap.size
  two:∀j j' d d',(o.after.any fun e=>e.on==j&&Region.binds md e)=true->(o.after.any fun e=>e.on==j'&&Region.binds md e)=true->base.getD j true=false->base.getD j' true=false->dstOf ops j=some d->dstOf ops j'=some d'->(K.use j==none || K.use j==some i)=true->(K.use j'==none || K.use j'==some i)=true->(j != j')=true->∀k,F j k->¬ F j' k
  zero:K.use0=i->K.H0 w/\(∀k,K.own0 k->w0.heap.size<=k/\k<w.heap.size)/\∀j d,(o.after.any fun e=>e.on==j&&Region.binds md e)=true->base.getD j true=false->dstOf ops j=some d->(K.use j==none || K.use j==some i)=true->∀k,F j k->¬ K.own0 k
theorem OwnD.j {K:OwnK} {base:Array Bool} {F:Nat->Nat->Prop} {a:Act} (h:OwnD K md ops base w0 F i o a w):OwnJ K md ops base w0 F i o a w:=by
 have key:∀j,(o.after.any fun e=>e.on==j&&Region.binds md e)=true->∃e∈o.after,Region.binds md e=true/\e.on=j:=fun j J=>by
  rw[Array.any_eq_true']at J;obtain⟨e,U,O⟩:=J;rw[Bool.and_eq_true]at O;exact⟨e,U,O.2,by simpa using O.1⟩
 have Y:∀j,(K.use j==none || K.use j==some i)=true->K.use j=none\/K.use j=some i:=fun j b=>by
  rw[Bool.or_eq_true]at b;rcases b with b | b
  ·exact .inl (by simpa using b)
  ·exact .inr (by simpa using b)
 refine⟨fun j d J hb hd b=>?_,fun j j' d d' J h0 hb Z hd G b p0 q0=>?_,fun hz=>?_⟩
 ·obtain⟨e,U,H,rfl⟩:=key j J;exact h.one e U H hb d hd (Y _ b)
 ·obtain⟨e,U,H,rfl⟩:=key j J;obtain⟨e',I,T,rfl⟩:=key j' h0;exact h.two e U e' I H T hb Z d d' hd G (Y _ b) (Y _ p0) (by simpa using q0)
 ·obtain⟨h1,h2,h3⟩:=h.zero hz;refine⟨h1,h2,fun j d J hb hd b=>?_⟩;obtain⟨e,U,H,rfl⟩:=key j J;exact h3 e U H hb d hd (Y _ b)
def OGoal (P:Program) (md:Region.Mode) (ops:Array Oper) (Q:Exit->Act->World->Prop) (base:Array Bool) (K:OwnK) (F:Nat->Nat->Prop) (i:Nat) (o:Oper) (a:Act) (w:World):Prop :=
 if Region.wanted o (yielded ops a.tmps)=true then Oper.wp P o a w (fun a' w'=>∃v S,a'=a.put o.dst v/\K.H i S v w'/\Chg (K.T md ops base F i) w w'/\∀k,S k->k<w'.heap.size/\(w.heap.size<=k\/K.T md ops base F i k)) Q else K.H i (fun _=>False) undef w
def OStep (P:Program) (md:Region.Mode) (ops:Array Oper) (Q:Exit->Act->World->Prop) (base:Array Bool) (a0:Act) (w0:World) (K:OwnK) (i:Nat) (o:Oper):Prop :=
 ∀F a w,KnowB md ops base a0 w0 i a w->OwnJ K md ops base w0 F i o a w->OGoal P md ops Q base K F i o a w
def OSteps (P:Program) (md:Region.Mode) (ops:Array Oper) (Q:Exit->Act->World->Prop) (base:Array Bool) (a0:Act) (w0:World) (K:OwnK) (l:List Nat):Prop :=
 ∀i∈l,∀o,ops[i]? = some o->OStep P md ops Q base a0 w0 K i o
section
variable {P:Program} {md:Region.Mode} {ops:Array Oper} {Q:Exit->Act->World->Prop} {base:Array Bool} {a0:Act} {w0:World} {K:OwnK}
theorem OSteps.nil:OSteps P md ops Q base a0 w0 K []:=fun _ h=>absurd h List.not_mem_nil
theorem OSteps.cons {l:List Nat} (H:ops[i]? = some o) (h:OStep P md ops Q base a0 w0 K i o) (hs:OSteps P md ops Q base a0 w0 K l):OSteps P md ops Q base a0 w0 K (i::l):=fun j a o' b=>by
 rcases List.mem_cons.1 a with rfl | a
 ·rw[H]at b;cases b;exact h
 ·exact hs j a o' b
theorem OSteps.all {l:List Nat} (hs:OSteps P md ops Q base a0 w0 K l) (h:(List.range ops.size).all (fun i=>base.getD i true || l.contains i)=true) :
 ∀i o,ops[i]? = some o->base.getD i true=false->∀(F:Nat->Nat->Prop) a w,KnowB md ops base a0 w0 i a w->OwnD K md ops base w0 F i o a w ->
  if Region.wanted o (yielded ops a.tmps)=true then Oper.wp P o a w (fun a' w'=>∃v S,a'=a.put o.dst v/\K.H i S v w'/\Chg (K.T md ops base F i) w w'/\∀k,S k->k<w'.heap.size/\(w.heap.size<=k\/K.T md ops base F i k)) Q else K.H i (fun _=>False) undef w:=fun i o b hb F a w Y hd=>by
 rw[List.all_eq_true]at h;have h1:=h i (List.mem_range.2 (Array.getElem?_eq_some_iff.1 b).1);rw[hb,Bool.false_or]at h1;exact hs i (by simpa using h1) o b F a w Y hd.j
variable {F:Nat->Nat->Prop} {o:Oper} {a:Act} {w:World} {i:Nat}
theorem Aj (b:(execOp a.eval o).run P w = .ok (.value v) w) (j:o.guard=none) (h:K.H i (fun _=>False) v w):OGoal P md ops Q base K F i o a w:=by
 unfold OGoal;rw[if_pos (by simp[Region.wanted,j])];unfold Oper.wp;rw[b,Oper.upon_value];exact⟨v,_,rfl,h,Chg.refl _ _,fun k hk=>hk.elim⟩
theorem Nf (Y:(execOp a.eval o).run P w = .ok (.value v) w') (j:o.guard=none) (h:K.H i S v w') (b:Ext w w') (hn:∀k,S k->k<w'.heap.size/\w.heap.size<=k):OGoal P md ops Q base K F i o a w:=by
 unfold OGoal;rw[if_pos (by simp[Region.wanted,j])];unfold Oper.wp;rw[Y,Oper.upon_value];exact⟨v,S,rfl,h,Chg.of_ext b _,fun k hk=>⟨(hn k hk).1,.inl (hn k hk).2⟩⟩
theorem Em {j d k:Nat} (J:ops[i]? = some o) (H:(o.after.any fun e=>e.on==j&&Region.binds md e)=true) (hb:base.getD j true=false) (hd:dstOf ops j=some d) (U:K.use j=some i) (h:F j k):K.T md ops base F i k:=by
 rw[Array.any_eq_true']at H;obtain⟨e,Y,b⟩:=H;rw[Bool.and_eq_true]at b;have a:e.on=j:=by simpa using b.1
 subst a;exact .inl ⟨o,e,d,J,Y,b.2,hb,hd,U,h⟩
theorem OU (j:K.use0=i) (h:K.own0 k):K.T md ops base F i k:= .inr ⟨j,h⟩
theorem Fk (Y:(execOp a.eval o).run P w = .ok (.value v) w') (j:o.guard=none) (h:K.H i S v w') (b:Ext w w') (hn:∀k,S k->(k<w'.heap.size/\w.heap.size<=k)\/(k<w.heap.size/\K.T md ops base F i k)):OGoal P md ops Q base K F i o a w:=by
 unfold OGoal;rw[if_pos (by simp[Region.wanted,j])];unfold Oper.wp;rw[Y,Oper.upon_value];refine⟨v,S,rfl,h,Chg.of_ext b _,fun k hk=>?_⟩;rcases hn k hk with h1 | h1
 ·exact⟨h1.1,.inl h1.2⟩
 ·exact⟨Nat.lt_of_lt_of_le h1.1 b.size,.inr h1.2⟩
theorem Fj {f:Nat} {xs:Array Operand} {ts:Array TypeId} (U:o.op = .call { callee:= .value (.func f),args:=xs,argTypes:=ts }) (j:o.guard=none) (eg:∀args w,(callFunc f args).run P w = .ok (.enter f args) w) (T:xs.map a.eval=vs)
 (J:Calls P f vs w fun e w'=>∃u S,e = .returned u/\K.H i S u w'/\Ext w w'/\∀k,S k->k<w'.heap.size/\w.heap.size<=k):OGoal P md ops Q base K F i o a w:=by
 unfold OGoal;rw[if_pos (by simp[Region.wanted,j])];have O:(execOp a.eval o).run P w = .ok (.enter f vs) w:=by
  unfold execOp;simp[U,resolve,invoke,go_sem,eg,T]
 unfold Oper.wp;rw[O,Oper.upon_enter];refine J.mono ?_;rintro e w' ⟨u,S,rfl,h,Y,b⟩;exact⟨u,S,rfl,h,Chg.of_ext Y _,fun k hk=>⟨(b k hk).1,.inl (b k hk).2⟩⟩
theorem Mu {t e size bytes:Nat} (E:Elem P t e size bytes) (U:o.guard=none) {b:Nat} (Y:w.ownsRow b e size v n xs) (hr:Cells w A news) (s x:Operand)
 (ho:o.op = .call { callee:= .builtin .append,args:=#[s,x],argTypes:=#[t,t] })
 (hs:a.eval s=v) (hx:a.eval x = .slice A m c) (hl:news.length=m*size) (h1:∀u∈news,u.oneCell'=true) (O:n+m<=4294967296) (j:b<=w.heap.size)
 (hT:∀k,v.ownBlock=some k->K.T md ops base F i k)
 (h:∀A1 c1 w',w'.ownsRow b e size (.slice A1 (n+m) c1) (n+m) (xs++news)->w.grownBy w' v.ownBlock->((Value.slice A1 (n+m) c1).ownBlock=v.ownBlock\/(Value.slice A1 (n+m) c1).ownBlock=some w.heap.size)->∃S,K.H i S (.slice A1 (n+m) c1) w'/\∀k,S k->k<w'.heap.size/\(w.heap.size<=k\/K.T md ops base F i k)):OGoal P md ops Q base K F i o a w:=by
 unfold OGoal;rw[if_pos (by simp[Region.wanted,U])];obtain⟨A1,c1,w',J,h2,Z,G⟩:=Ds (P:=P) E w o.type Y (c:=c) hr hl h1 O j;unfold Oper.wp execOp;simp only[ho,resolve,invoke,builtin,Sem.run_bind,Sem.run_pure,Result.andThen_ok,List.map_toArray,List.map_cons,List.map_nil,hs,hx,J];obtain⟨S,hS,I⟩:=h A1 c1 w' h2 Z G;exact⟨_,S,rfl,hS,Chg.of_grown Z fun k _ hk=>hT k hk,I⟩
theorem Q9 {t e size bytes:Nat} (E:Elem P t e size bytes) (U:o.guard=none) {b:Nat} (J:w.ownsRow b e size v n xs) (hr:Cells w A news) (s x:Operand)
 (ho:o.op = .call { callee:= .builtin .append,args:=#[s,x],argTypes:=#[t,t] })
 (hs:a.eval s=v) (hx:a.eval x = .slice A m c) (I:news.length=m*size) (h1:∀u∈news,u.oneCell'=true) (O:n+m<=4294967296) (j:b<=w.heap.size)
 (Z:∀k,v.ownBlock=some k->K.T md ops base F i k) (h:∀u S w',kO b e size (n+m) (xs++news) u S w'->K.H i S u w'):OGoal P md ops Q base K F i o a w :=
 Mu E U J hr s x ho hs hx I h1 O j Z fun A1 c1 w' h2 h3 Y=>⟨fun k=>(Value.slice A1 (n+m) c1).ownBlock=some k,h _ _ _ ⟨A1,c1,rfl,h2,fun _=>Iff.rfl⟩,fun k hk=>⟨by
  obtain⟨cur,G,_⟩:=Ae h2 hk;exact G.lt,by
  rcases Y with Y | Y
  ·exact .inr (Z k (by rw[<-Y];exact hk))
  ·rw[Y]at hk;injection hk with hk;exact .inl (by omega)⟩⟩
theorem DF {x ix:Operand} {q z v:Value} (h:o.op = .indexAddr t x ix) (b:a.eval x=q) (H:a.eval ix=z) (j:(Instr.indexAt t q z).run P w = .ok v w):(execOp a.eval o).run P w = .ok (.value v) w:=by
 unfold execOp;simp[h,b,H,j,Result.andThen]
theorem ET {x:Operand} {lo hi mx:Option Operand} {l h m:Option Value} (Y:o.op = .slice t x lo hi mx) (U:a.eval x=q) (b:lo.map a.eval=l) (j:hi.map a.eval=h) (H:mx.map a.eval=m) (J:(Instr.sliceAt t q l h m).run P w = .ok v w):(execOp a.eval o).run P w = .ok (.value v) w:=by
 unfold execOp;simp[Y,U,b,j,H,J,Result.andThen]
theorem Ry {parts:Array (Nat×Operand)} {vs:Array (Nat×Value)} (h:o.op = .build t parts) (b:parts.map (fun p=>(p.1,a.eval p.2))=vs) (j:(Instr.build t vs).run P w = .ok v w):(execOp a.eval o).run P w = .ok (.value v) w:=by
 unfold execOp;simp[h,b,j,Result.andThen]
theorem OwnI.start {F:Nat->Nat->Prop} {a:Act} (b:∀j,base.getD j true=false->listed.getD j true=false) (H:K.H0 w/\∀k,K.own0 k->w0.heap.size<=k/\k<w.heap.size):OwnI K ops base w0 F listed a w :=
 ⟨fun j d hb h _ _=>absurd ((b j hb).symm.trans h) (by simp),fun j _ d _ hb _ h _ _ _ _ _ _=>absurd ((b j hb).symm.trans h) (by simp),fun _=>⟨H.1,H.2,fun j d hb h _ _=>absurd ((b j hb).symm.trans h) (by simp)⟩⟩
end
section
variable {md:Region.Mode} {ops:Array Oper} {Q:Exit->Act->World->Prop} {base:Array Bool} {a0:Act} {w0:World} {K:OwnK} {F:Nat->Nat->Prop} {o:Oper} {a:Act} {w:World} {i:Nat}
theorem Fi (U:o.guard=none) {b b' c c':Nat} {A B:Option Addr} (hb:Buf w b 5 A D1.length c (D1.map B8)) (hr:Buf w b' 5 B D2.length c' (D2.map B8)) (s x:Operand)
 (ho:o.op = .call { callee:= .builtin .append,args:=#[s,x],argTypes:=#[24,24] })
 (hs:a.eval s = .slice A D1.length c) (hx:a.eval x = .slice B D2.length c') (Z:D1.length+D2.length<=4294967296) (j:b<=w.heap.size)
 (I:∀k,(Value.slice A D1.length c).ownBlock=some k->K.T md ops base F i k)
 (h:∀v S w',kB b (D1++D2) v S w'->K.H i S v w'):OGoal prog md ops Q base K F i o a w:=by
 unfold OGoal;rw[if_pos (by simp[Region.wanted,U])];obtain⟨A1,c1,w',J,h2,h3,Y⟩:=Gx (P:=prog) Aw w o.type hb (c':=c') hr.cells (by rw[List.length_map]) (Ai _) Z j;unfold Oper.wp execOp;simp only[ho,resolve,invoke,builtin,Sem.run_bind,Sem.run_pure,Result.andThen_ok,List.map_toArray,List.map_cons,List.map_nil,hs,hx,J];refine⟨_,fun k=>(Value.slice A1 (D1.length+D2.length) c1).ownBlock=some k,rfl,h _ _ _ ⟨A1,c1,by rw[List.length_append],by rw[List.length_append,List.map_append];exact h2,fun _=>Iff.rfl⟩,Chg.of_grown h3 fun k _ hk=>I k hk,fun k hk=>?_⟩;cases A1 with
 | none=>simp[Value.ownBlock]at hk
 | some q =>
  have O:q.block=k:=by simpa [Value.ownBlock]using hk
  have G:=h2.lt q rfl;rw[O]at G;refine⟨G,?_⟩;rcases Y with Y | Y
  ·exact .inr (I k (by rw[<-Y];simp[Value.ownBlock,O]))
  ·cases Y;exact .inl (by rw[<-O];exact Nat.le_refl _)
end
theorem L8 {b:Nat} (h:Buf w b e A n c xs) (k:Nat) (hk:(Value.slice A n c).ownBlock=some k):k<w.heap.size:=by
 cases A with
 | none=>simp[Value.ownBlock]at hk
 | some q =>
  have j:q.block=k:=by simpa [Value.ownBlock]using hk
  rw[<-j];exact h.lt q rfl
theorem G1 {f:Nat} {b:Nat} (hb:b<=X.heap.size) (h:Calls prog f vs X fun e w'=>NewB X D e w'):Calls prog f vs X fun e w'=>∃u S,e = .returned u/\kB b D u S w'/\Ext X w'/\∀k,S k->k<w'.heap.size/\X.heap.size<=k:=h.mono (by
 rintro e w' ⟨A,c,rfl,j,a⟩;refine⟨_,fun k=>(Value.slice A D.length c).ownBlock=some k,rfl,⟨A,c,rfl,j.lower hb,fun _=>Iff.rfl⟩,a,fun k hk=>⟨L8 j k hk,?_⟩⟩;cases A with
 | none=>simp[Value.ownBlock]at hk
 | some q =>
  have H:q.block=k:=by simpa [Value.ownBlock]using hk
  rw[<-H];exact j.base_le q rfl)
end
section
open Go.RowKit Go.Maps
theorem QB (w:World):(Instr.buildSlice 86 0 #[]).run prog w = .ok (.slice (some ⟨w.heap.size,0,none⟩) 0 0) (w.alloc (.cells #[] 129)):=by
 go_simp
theorem QC (w:World) (s:ByteArray) (A:Option Addr) (n c:Nat):(Instr.buildSlice 86 1 #[(0,.agg #[.string s,.slice A n c])]).run prog w = .ok (.slice (some ⟨w.heap.size,0,none⟩) 1 1) (w.alloc (.cells #[.string s,.slice A n c] 129)):=by
 go_simp
theorem O1 (w:World) (d:Int) (A:Option Addr) (n c:Nat):(Instr.buildSlice 47 1 #[(0,.agg #[.int .i64 d,.slice A n c])]).run prog w = .ok (.slice (some ⟨w.heap.size,0,none⟩) 1 1) (w.alloc (.cells #[.int .i64 d,.slice A n c] 89)):=by
 go_simp
theorem Qy (w:World) (s:ByteArray) (A:Option Addr) (n c:Nat):(Instr.build 129 #[(0,.string s),(1,.slice A n c)]).run prog w = .ok (.agg #[.string s,.slice A n c]) w:=by
 go_simp
theorem QO {b:Nat} {d:Int} (h:w.cell? ⟨b,0,none⟩=some (.int .i64 d)) (h1:w.cell? ⟨b,1,none⟩=some (.slice A n c)):(Instr.loadAt 89 (.pointer (some ⟨b,0,none⟩))).run prog w = .ok (.agg #[.int .i64 d,.slice A n c]) w:=by
 go_simp
theorem RW (w:World) (g o n c i:Nat) (hi:i<n):(Instr.indexAt 145 (.slice (some ⟨g,o,none⟩) n c) (.int .i64 (i:Int))).run prog w = .ok (.pointer (some ⟨g,o+i*2,none⟩)) w:=by
 have h1:(i:Int)<n:=by omega
 go_simp
theorem RV (w:World) (g o:Nat):(Instr.fieldAt 148 (.pointer (some ⟨g,o,none⟩)) 0).run prog w = .ok (.pointer (some ⟨g,o,none⟩)) w:=by
 go_simp
theorem QP {b k:Nat} (h:w.cell? ⟨b,k,none⟩=some v):(Instr.loadAt 9 (.pointer (some ⟨b,k,none⟩))).run prog w = .ok v w:=by
 go_simp
theorem Lv:Elem prog 86 129 2 40:=⟨underlying86,⟨_,_,rfl,rfl,rfl,rfl,rfl⟩,by omega,by omega⟩
def kR1 (base:Nat) (s:List UInt8) (ys:List Value) (v:Value) (S:Nat->Prop) (w:World):Prop:=∃Ax cx,v = .agg #[.string ⟨s.toArray⟩,.slice Ax 1 cx]/\w.ownsRow base 89 2 (.slice Ax 1 cx) 1 ys/\∀k,S k↔(Value.slice Ax 1 cx).ownBlock=some k
def kR2 (base:Nat) (s:List UInt8) (ys:List Value) (v:Value) (S:Nat->Prop) (w:World):Prop:=∃g Ax cx,v = .slice (some ⟨g,0,none⟩) 1 1/\Cells w (some ⟨g,0,none⟩) [.string ⟨s.toArray⟩,.slice Ax 1 cx]/\w.ownsRow base 89 2 (.slice Ax 1 cx) 1 ys/\∀k,S k↔(k=g\/(Value.slice Ax 1 cx).ownBlock=some k)
def kR3 (base n:Nat) (s:List UInt8) (ys pre post:List Value) (v:Value) (S:Nat->Prop) (w:World):Prop:=∃A c Ax cx,v = .slice A n c/\w.ownsRow base 129 2 (.slice A n c) n ((pre ++ [.string ⟨s.toArray⟩,.slice Ax 1 cx])++post)/\w.ownsRow base 89 2 (.slice Ax 1 cx) 1 ys/\∀k,S k↔((Value.slice A n c).ownBlock=some k\/(Value.slice Ax 1 cx).ownBlock=some k)
theorem R6 (b0 base:Nat) (s:List UInt8) (ys:List Value) (u:Option Nat):KKept b0 (kR1 base s ys,u):=fun v S w w' T h b _ a=>by
 obtain⟨Ax,cx,rfl,Y,j⟩:=h;exact⟨Ax,cx,rfl,b.owns Y fun g H=>a g ((j _).2 H),j⟩
theorem R7 (b0 base:Nat) (s:List UInt8) (ys:List Value) (u:Option Nat):KKept b0 (kR2 base s ys,u):=fun v S w w' T h b _ H=>by
 obtain⟨g,Ax,cx,rfl,J,O,j⟩:=h;exact⟨g,Ax,cx,rfl,b.cells J fun a Y=>H a.block ((j _).2 (by cases Y;exact .inl rfl)),b.owns O fun g U=>H g ((j _).2 (.inr U)),j⟩
theorem R8 (b0 base n:Nat) (s:List UInt8) (ys pre post:List Value) (u:Option Nat):KKept b0 (kR3 base n s ys pre post,u):=fun v S w w' T h a _ H=>by
 obtain⟨A,c,Ax,cx,rfl,Y,J,j⟩:=h;exact⟨A,c,Ax,cx,rfl,a.owns Y fun g b=>H g ((j _).2 (.inl b)),a.owns J fun g b=>H g ((j _).2 (.inr b)),j⟩
theorem PJ (w:World) (d:Int) (A:Option Addr) (n c:Nat):(w.alloc (.cells #[.int .i64 d,.slice A n c] 89)).ownsRow w.heap.size 89 2 (.slice (some ⟨w.heap.size,0,none⟩) 1 1) 1 [.int .i64 d,.slice A n c] :=
 ⟨rfl,.inr ⟨w.heap.size,1,#[.int .i64 d,.slice A n c],rfl,Nat.le_refl _,heap_alloc_new w _,Nat.le_refl _,by unfold maxLen;omega,rfl,rfl⟩⟩
end
section
open Go.RowKit Go.Maps
theorem AddA.of {R:List (List UInt8×List Int)} {D:List TmC} (h:w8.ownsRow w.heap.size 148 2 (.slice A n c) n2 (tmcells D)) (hn:n=n2) (U:n=D.length) (H:tmR D=R) (b:Ext w w8) (J:∀x∈D,Buf w8 0 3 x.A x.pos.length x.c (x.pos.map IV)/\x.s.length<=9223372036854775807):AddA w R (.returned (.slice A n c)) w8:=by
 subst hn;have j:=BN h;exact⟨D,A,n,c,rfl,H,⟨U,Cells.of_own h,j.1,j.2,J,fun a Y=>by obtain⟨cs,O,_⟩:=Ae h (g:=a.block) (by rw[Y];rfl);exact⟨cs,O⟩⟩,b⟩
theorem PV (D:List TmC) (A:Option Addr) (n c:Nat) (s:List UInt8) (z:Int) (w:World) (h:TmsR w A n c D) (hs:s.length<=9223372036854775807) (i4:n<=1000000) (y3:∀x∈D,x.pos.length<=1000000) :
 Calls prog 124 #[.slice A n c,.string ⟨s.toArray⟩,.int .i64 z] w fun e w'=>AddA w (addG (s,z) (tmR D)) e w':=by
 have t3:=Aa (fun(a b:List UInt8) W (ha:a.length<=9223372036854775807) (hb:b.length<=9223372036854775807)=>NA a b W ha hb);have hlen:=h.len;have f3:=h.cap;obtain⟨Z,hZ⟩:=Ab (addG (s,z) (tmR D));rw[<-hZ];have j4:=Aa (show Z=(tmR D).take 0++addG (s,z) ((tmR D).drop 0)from hZ);have a3:(tmR D).length=n:=by unfold tmR;rw[List.length_map,hlen]
 have d2:=fun(k:Nat) (hk:k<=c)=>I1 underlying145 (fun W:World=>(by kernel_rfl:(sizeOf 148).run prog W = .ok 2 W)) (n:=n) (c:=c) (k:=k) (A:=A) hk h.spot (z:=(k:Int)) rfl;have q2:=fun(k:Nat) (hk:k<=n)=>I0 underlying145 (fun W:World=>(by kernel_rfl:(sizeOf 148).run prog W = .ok 2 W)) (n:=n) (c:=c) (k:=k) (A:=A) hk f3 h.spot (z:=(k:Int)) rfl;have q1:(tmcells D).length=n*2:=by rw[Cg,hlen]
 replace d2:=Aa d2;replace q2:=Aa q2;replace hlen:=Aa hlen;replace y3:=Aa y3;replace h:=Aa h;replace a3:=Aa a3;replace q1:=Aa q1;clear hZ
 go_in
 go_wp2_with fail
 go_loopw [7] (fun s7 wr=>∃k:Nat,s7 = .int .i64 (k:Int)/\k<=n/\Hid (Z=(tmR D).take k++addG (s,z) ((tmR D).drop k))/\Hid (Ext w wr)) (fun s7 _=>n - (intOf s7).toNat)
 case atStart=>exact⟨0,rfl,by omega,j4,Aa (Ext.refl _)⟩
 case round =>
  clear j4;obtain⟨k,rfl,hk,hz,hE⟩:=hrel;have i3:=Aa (h.out.cells.ext hE.out);by_cases y4:k<n
  ·obtain⟨x,hx⟩:∃x,D[k]? = some x:=⟨_,List.getElem?_eq_getElem (by rw[<-hlen.out];exact y4)⟩
   have o2:(tmR D)[k]? = some x.tm:=by unfold tmR;rw[List.getElem?_map,hx];rfl
   obtain⟨i2,k4⟩:=h.out.each x (List.mem_of_getElem? hx);have p4:=y3.out x (List.mem_of_getElem? hx);obtain⟨g,o,hA,r0⟩:=HK i3.out hx;have x2:=Aa (fun hl=>MJ (s,z) o2 hl);have d1:=Aa (fun hl he=>MH (s,z) o2 hl he);have i1:=Aa (fun hl he=>MI (s,z) o2 hl he);obtain⟨l0,l1⟩:=r0 wr (Ext.refl _);have y1:=t3.out x.s s wr k4 hs;obtain⟨xs,pos,xA,xc⟩:=x;unfold TmC.tm at x2 d1 i1;simp only at x2 d1 i1 l0 l1 y1 i2 k4 p4 r0;obtain⟨m,hm⟩:=Ab pos.length;rw[<-hm]at l1 r0 p4;replace y1:=Aa y1;replace r0:=Aa r0;replace i2:=Aa i2;replace hm:=Aa hm;replace hx:=Aa hx;clear o2;by_cases v0:xs<s
   ·have d4:=Aa (show Z=(tmR D).take (k+1)++addG (s,z) ((tmR D).drop (k+1))by rw[hz.out,x2.out v0]);have hd:decide (xs<s)=true:=decide_eq_true v0;rw[hd]at y1;subst hA;clear d1 i1 hd hz;go_wp2_with fail;refine y1.out.mono ?_;rintro e w3 ⟨rfl,i0⟩;go_wp2_with fail;go_roundw
    case rel=>exact⟨k+1,by go_num,by omega,d4,Aa (hE.out.trans i0)⟩
    case measure=>simp only[intOf];omega
   ·have hd:decide (xs<s)=false:=decide_eq_false v0;rw[hd]at y1;have b4:=d2.out k (by omega);by_cases d0:xs=s
    ·have a2:=Aa (show Z=(tmR D).take k++(xs,pos ++ [z])::(tmR D).drop (k+1)by rw[hz.out,d1.out v0 d0]);have hq:(xs==s)=true:=beq_iff_eq.2 d0;obtain⟨A8,f1,j0,_⟩:=q2.out (k+1) (by omega);rw[show (((k+1:Nat)):Int)=(k:Int)+1 by omega]at f1;have e4:wrap64 ((k:Int)+1)=(k:Int)+1:=by unfold wrap64;omega
     obtain⟨r,hr⟩:=Ab (n - (k+1));obtain⟨cr,g0⟩:=Ab (c - (k+1));rw[<-hr,<-g0]at f1;replace hr:=Aa hr;replace g0:=Aa g0;replace j0:=Aa j0;replace d0:=Aa d0;subst hA;clear x2 i1 d1 hd hz v0;go_wp2_with fail;refine y1.out.mono ?_;rintro e w3 ⟨rfl,i0⟩;have H:=Aa (hE.out.trans i0);have y0:Cells (w3.alloc (.cells #[] 148)) (some ⟨g,o,none⟩) (tmcells (D.take k)):=by
      rw[CZ];have h1:=(h.out.cells.ext H.out).ext ((Ext.refl w3).alloc (.cells #[] 148));exact CQ h1 _
     have G:(tmcells (D.take k)).length=k*2:=by rw[Cg,List.length_take,<-hlen.out];omega
     have h0:w3.heap.size<=(w3.alloc (.cells #[] 148)).heap.size:=((Ext.refl w3).alloc _).size;clear l0 l1;go_wp2_with (at_builtin;first
      | (refine AV (m:=k) Dk (CF w3 148) y0 (.tmp 24) (.tmp 27) rfl rfl rfl rfl rfl G (BI _) (by omega) h0 (fun A4 c4 w4 c0 m1 p2=>?_);rw[Nat.zero_add,List.nil_append]at c0;have Y:Ext w3 w4:=((Ext.refl w3).alloc _).grown m1 (fun k hk=>by cases hk;exact Nat.le_refl _);clear m1 p2 y0 G h0;obtain⟨l0,l1⟩:=r0.out w4 (i0.trans Y);have l1':=((Ext.refl w4).alloc (.cells #[] 3)).cell l1;have l3:Cells (w4.alloc (.cells #[] 3)) xA (pos.map IV):=((i2.out.ext (H.out.trans Y)).ext ((Ext.refl w4).alloc _)).cells;have q3:(pos.map IV).length=m*1:=(by rw[List.length_map,hm.out];omega);have p3:w4.heap.size<=(w4.alloc (.cells #[] 3)).heap.size:=((Ext.refl w4).alloc _).size;replace c0:=Aa c0;replace Y:=Aa Y)
      | (refine AV (m:=m) FY (IN w4 3) l3 (.tmp 44) (.tmp 49) rfl rfl rfl rfl rfl q3 (Rh _) (by omega) p3 (fun A5 c5 w5 x3 o3 z4=>?_);rw[Nat.zero_add,List.nil_append]at x3;have h3:Ext w4 w5:=((Ext.refl w4).alloc _).grown o3 (fun k hk=>by cases hk;exact Nat.le_refl _);have k3:=h3.size;clear o3 z4 l3 q3 p3 l0 l1 l1')
      | (refine AS (us:= [.int .i64 z]) (m:=1) FY x3 rfl (.tmp 50) (.tmp 52) rfl rfl rfl rfl rfl (Az rfl) (by omega) k3 (fun A6 c6 w6 f2 r3 a4=>?_);have o0:Ext w4 w6:=h3.grown r3 (fun k hk=>by obtain⟨_,_,hb⟩:=Ae x3 hk;exact hb);have J:=o0.owns c0.out;have q0:=(Y.out.trans o0).size;clear r3 a4 k3;replace f2:=Aa f2;replace o0:=Aa o0)
      | (refine AS (us:= [.string ⟨s.toArray⟩,.slice A6 (m+1) c6]) (m:=1) Dk J rfl (.tmp 42) (.tmp 55) rfl rfl rfl rfl rfl (Az rfl) (by omega) q0 (fun A7 c7 w7 x0 m0 k2=>?_);have j:Ext w3 w7:=(Y.out.trans o0.out).grown m0 (fun k hk=>by obtain⟨_,_,hb⟩:=Ae J hk;exact hb);have a1:=(Chg.of_grown (S:=fun k'=>(Value.slice A4 k c4).ownBlock=some k') m0 (fun k' _ m3=>m3)).owns f2.out (fun g hg hn=>by obtain⟨cs,hr,_⟩:=Ae f2.out hg;exact Am J hr (by decide) hn);have h2:=j0.out w7 _ q1.out (h.out.cells.ext (H.out.trans j));have p1:((tmcells D).drop ((k+1)*2)).length=r*2:=(by rw[List.length_drop,q1.out,hr.out];omega);have p0:=j.size;clear m0 k2 q0;replace a1:=Aa a1;replace j:=Aa j)
      | (refine AV (m:=r) Dk x0 h2 (.tmp 57) (.tmp 61) rfl rfl rfl rfl rfl p1 (by rw[<-Bt];exact BI _) (by have:=hr.out;omega) p0 (fun A9 c9 w9 x1 t0 j2=>?_);have n0:Ext w3 w9:=j.out.grown t0 (fun k hk=>by obtain⟨_,_,hb⟩:=Ae x0 hk;exact hb);have q4:=(Chg.of_grown (S:=fun k'=>(Value.slice A7 (k+1) c7).ownBlock=some k') t0 (fun k' _ m3=>m3)).owns a1.out (fun g hg hn=>by obtain⟨cs,hr,_⟩:=Ae a1.out hg;exact Am x0 hr (by decide) hn);clear t0 j2 p0))
     have hmid:=DY (D.take k) (D.drop (k+1)) ⟨s,pos ++ [z],A6,c6⟩;have y2:(⟨s,pos ++ [z],A6,c6⟩:TmC).cells = [.string ⟨s.toArray⟩,.slice A6 (m+1) c6]:=by unfold TmC.cells;simp only;rw[List.length_append,<-hm.out];rfl
     rw[y2,Bt]at hmid;rw[<-hmid]at x1;have m2:k+1+r=(D.take k++(⟨s,pos ++ [z],A6,c6⟩:TmC)::D.drop (k+1)).length:=by
      rw[List.length_append,List.length_cons,List.length_take,List.length_drop,<-hlen.out,hr.out];omega
     have T:=H.out.trans n0;have o1:tmR (D.take k++(⟨s,pos ++ [z],A6,c6⟩:TmC)::D.drop (k+1))=Z:=by rw[JG,a2.out,d0.out];rfl
     have k1:∀y∈D.take k++(⟨s,pos ++ [z],A6,c6⟩:TmC)::D.drop (k+1),Buf w9 0 3 y.A y.pos.length y.c (y.pos.map IV)/\y.s.length<=9223372036854775807:=fun y O=>by
      have I:=fun(O:y∈D)=>((h.out.ext T).each y O)
      rcases List.mem_append.1 O with O | O
      ·exact I (List.mem_of_mem_take O)
      ·rcases List.mem_cons.1 O with rfl | O
       ·refine⟨?_,hs⟩;have g4:=(Buf.of_own q4).lower (Nat.zero_le _);simp only[List.length_append,List.length_cons,List.length_nil,List.map_append];rw[<-hm.out];exact g4
       ·exact I (List.mem_of_mem_drop O)
     have j1:=Aa (AddA.of (w:=w) (R:=Z) (AD x1 H.out.size) rfl m2 o1 T k1);go_ret;exact j1.out
    ·have a2:=Aa (show Z=(tmR D).take k++(s,[z])::(tmR D).drop k by rw[hz.out,i1.out v0 d0]);have hq:(xs==s)=false:=beq_eq_false_iff_ne.2 d0;replace d0:=Aa d0;subst hA;clear x2 i1 d1 hd hz v0;obtain⟨A8,f1,j0,_⟩:=q2.out k hk;obtain⟨r,hr⟩:=Ab (n - k);obtain⟨cr,g0⟩:=Ab (c - k);rw[<-hr,<-g0]at f1;replace hr:=Aa hr;replace g0:=Aa g0;replace j0:=Aa j0;go_wp2_with fail;refine y1.out.mono ?_;rintro e w3 ⟨rfl,i0⟩;have H:=Aa (hE.out.trans i0);clear l0 l1;have y0:=CQ ((h.out.cells.ext H.out).ext ((Ext.refl w3).alloc (.cells #[] 148))) (k*2);rw[<-CZ]at y0;have G:(tmcells (D.take k)).length=k*2:=by rw[Cg,List.length_take,<-hlen.out];omega
     have h0:w3.heap.size<=(w3.alloc (.cells #[] 148)).heap.size:=((Ext.refl w3).alloc _).size;go_wp2_with (at_builtin;first
      | (refine AV (m:=k) Dk (CF w3 148) y0 (.tmp 24) (.tmp 27) rfl rfl rfl rfl rfl G (BI _) (by omega) h0 (fun A4 c4 w4 c0 m1 p2=>?_);rw[Nat.zero_add,List.nil_append]at c0;have Y:Ext w3 w4:=((Ext.refl w3).alloc _).grown m1 (fun k hk=>by cases hk;exact Nat.le_refl _);clear m1 p2 y0 G h0;(try obtain⟨l0,l1⟩:=r0.out w4 (i0.trans Y));have J:=((Ext.refl w4).alloc (.cells #[.int .i64 z] 3)).owns c0;have f0:=Row.new w4 3 #[.int .i64 z];have U:Ext w3 (w4.alloc (.cells #[.int .i64 z] 3)):=Y.alloc _;have q0:=U.size;replace f0:=Aa f0;replace U:=Aa U)
      | (refine AS (us:= [.string ⟨s.toArray⟩,.slice (some ⟨w4.heap.size,0,none⟩) 1 1]) (m:=1) Dk J (by simp) (.tmp 63) (.tmp 68) rfl rfl rfl rfl rfl (Az rfl) (by omega) q0 (fun A7 c7 w7 x0 m0 k2=>?_);have j:Ext w3 w7:=U.out.grown m0 (fun k hk=>by obtain⟨_,_,hb⟩:=Ae J hk;exact hb);have e0:=f0.out.grown m0 (fun e=>Am J f0.out (by decide) e.symm);have h2:=j0.out w7 _ q1.out (h.out.cells.ext (H.out.trans j));have p1:((tmcells D).drop (k*2)).length=r*2:=(by rw[List.length_drop,q1.out,hr.out];omega);have p0:=j.size;clear m0 k2 q0;replace e0:=Aa e0;replace j:=Aa j)
      | (refine AV (m:=r) Dk x0 h2 (.tmp 70) (.tmp 73) rfl rfl rfl rfl rfl p1 (by rw[<-Bt];exact BI _) (by have:=hr.out;omega) p0 (fun A9 c9 w9 x1 t0 j2=>?_);have n0:Ext w3 w9:=j.out.grown t0 (fun k hk=>by obtain⟨_,_,hb⟩:=Ae x0 hk;exact hb);have z3:=e0.out.grown t0 (fun e=>Am x0 e0.out (by decide) e.symm);clear t0 j2 p0))
     have hmid:=DY (D.take k) (D.drop k) ⟨s,[z],some ⟨w4.heap.size,0,none⟩,1⟩;have y2:(⟨s,[z],some ⟨w4.heap.size,0,none⟩,1⟩:TmC).cells = [.string ⟨s.toArray⟩,.slice (some ⟨w4.heap.size,0,none⟩) 1 1]:=rfl;rw[y2,Bt]at hmid;rw[<-hmid]at x1;have m2:k+1+r=(D.take k++(⟨s,[z],some ⟨w4.heap.size,0,none⟩,1⟩:TmC)::D.drop k).length:=by
      rw[List.length_append,List.length_cons,List.length_take,List.length_drop,<-hlen.out,hr.out];omega
     have T:=H.out.trans n0;have o1:tmR (D.take k++(⟨s,[z],some ⟨w4.heap.size,0,none⟩,1⟩:TmC)::D.drop k)=Z:=by rw[JG,a2.out];rfl
     have k1:∀y∈D.take k++(⟨s,[z],some ⟨w4.heap.size,0,none⟩,1⟩:TmC)::D.drop k,Buf w9 0 3 y.A y.pos.length y.c (y.pos.map IV)/\y.s.length<=9223372036854775807:=fun y O=>by
      have I:=fun(O:y∈D)=>((h.out.ext T).each y O)
      rcases List.mem_append.1 O with O | O
      ·exact I (List.mem_of_mem_take O)
      ·rcases List.mem_cons.1 O with rfl | O
       ·exact⟨⟨rfl,Nat.le_refl _,.inr ⟨w4.heap.size,_,rfl,Nat.zero_le _,z3,Nat.le_refl _,rfl⟩⟩,hs⟩
       ·exact I (List.mem_of_mem_drop O)
     have j1:=Aa (AddA.of (w:=w) (R:=Z) (AD x1 H.out.size) rfl m2 o1 T k1);go_ret;exact j1.out
  ·have a2:=Aa (show Z=(tmR D).take k++(s,[z])::(tmR D).drop k by
    rw[hz.out,List.drop_of_length_le (by rw[a3.out];omega)];rfl)
   have b4:=d2.out k (by omega);obtain⟨A8,f1,j0,_⟩:=q2.out k hk;obtain⟨r,hr⟩:=Ab (n - k);obtain⟨cr,g0⟩:=Ab (c - k);rw[<-hr,<-g0]at f1;replace hr:=Aa hr;replace g0:=Aa g0;replace j0:=Aa j0;clear hz;obtain⟨w3,rfl⟩:=Ab wr;have H:=hE;have y0:=CQ ((h.out.cells.ext H.out).ext ((Ext.refl w3).alloc (.cells #[] 148))) (k*2);rw[<-CZ]at y0;have G:(tmcells (D.take k)).length=k*2:=by rw[Cg,List.length_take,<-hlen.out];omega
   have h0:w3.heap.size<=(w3.alloc (.cells #[] 148)).heap.size:=((Ext.refl w3).alloc _).size;go_wp2_with (at_builtin;first
    | (refine AV (m:=k) Dk (CF w3 148) y0 (.tmp 24) (.tmp 27) rfl rfl rfl rfl rfl G (BI _) (by omega) h0 (fun A4 c4 w4 c0 m1 p2=>?_);rw[Nat.zero_add,List.nil_append]at c0;have Y:Ext w3 w4:=((Ext.refl w3).alloc _).grown m1 (fun k hk=>by cases hk;exact Nat.le_refl _);clear m1 p2 y0 G h0;(try obtain⟨l0,l1⟩:=r0.out w4 (i0.trans Y));have J:=((Ext.refl w4).alloc (.cells #[.int .i64 z] 3)).owns c0;have f0:=Row.new w4 3 #[.int .i64 z];have U:Ext w3 (w4.alloc (.cells #[.int .i64 z] 3)):=Y.alloc _;have q0:=U.size;replace f0:=Aa f0;replace U:=Aa U)
    | (refine AS (us:= [.string ⟨s.toArray⟩,.slice (some ⟨w4.heap.size,0,none⟩) 1 1]) (m:=1) Dk J (by simp) (.tmp 63) (.tmp 68) rfl rfl rfl rfl rfl (Az rfl) (by omega) q0 (fun A7 c7 w7 x0 m0 k2=>?_);have j:Ext w3 w7:=U.out.grown m0 (fun k hk=>by obtain⟨_,_,hb⟩:=Ae J hk;exact hb);have e0:=f0.out.grown m0 (fun e=>Am J f0.out (by decide) e.symm);have h2:=j0.out w7 _ q1.out (h.out.cells.ext (H.out.trans j));have p1:((tmcells D).drop (k*2)).length=r*2:=(by rw[List.length_drop,q1.out,hr.out];omega);have p0:=j.size;clear m0 k2 q0;replace e0:=Aa e0;replace j:=Aa j)
    | (refine AV (m:=r) Dk x0 h2 (.tmp 70) (.tmp 73) rfl rfl rfl rfl rfl p1 (by rw[<-Bt];exact BI _) (by have:=hr.out;omega) p0 (fun A9 c9 w9 x1 t0 j2=>?_);have n0:Ext w3 w9:=j.out.grown t0 (fun k hk=>by obtain⟨_,_,hb⟩:=Ae x0 hk;exact hb);have z3:=e0.out.grown t0 (fun e=>Am x0 e0.out (by decide) e.symm);clear t0 j2 p0))
   have hmid:=DY (D.take k) (D.drop k) ⟨s,[z],some ⟨w4.heap.size,0,none⟩,1⟩;have y2:(⟨s,[z],some ⟨w4.heap.size,0,none⟩,1⟩:TmC).cells = [.string ⟨s.toArray⟩,.slice (some ⟨w4.heap.size,0,none⟩) 1 1]:=rfl;rw[y2,Bt]at hmid;rw[<-hmid]at x1;have m2:k+1+r=(D.take k++(⟨s,[z],some ⟨w4.heap.size,0,none⟩,1⟩:TmC)::D.drop k).length:=by
    rw[List.length_append,List.length_cons,List.length_take,List.length_drop,<-hlen.out,hr.out];omega
   have T:=H.out.trans n0;have o1:tmR (D.take k++(⟨s,[z],some ⟨w4.heap.size,0,none⟩,1⟩:TmC)::D.drop k)=Z:=by rw[JG,a2.out];rfl
   have k1:∀y∈D.take k++(⟨s,[z],some ⟨w4.heap.size,0,none⟩,1⟩:TmC)::D.drop k,Buf w9 0 3 y.A y.pos.length y.c (y.pos.map IV)/\y.s.length<=9223372036854775807:=fun y O=>by
    have I:=fun(O:y∈D)=>((h.out.ext T).each y O)
    rcases List.mem_append.1 O with O | O
    ·exact I (List.mem_of_mem_take O)
    ·rcases List.mem_cons.1 O with rfl | O
     ·exact⟨⟨rfl,Nat.le_refl _,.inr ⟨w4.heap.size,_,rfl,Nat.zero_le _,z3,Nat.le_refl _,rfl⟩⟩,hs⟩
     ·exact I (List.mem_of_mem_drop O)
   have j1:=Aa (AddA.of (w:=w) (R:=Z) (AD x1 H.out.size) rfl m2 o1 T k1);go_ret;exact j1.out
end
section
open Go.RowKit
theorem Ot (L:List UInt8) (A:Option Addr) (c base r:Nat) (w:World) (hb:Buf w base 5 A L.length c (L.map B8)) (T:L.length<=4000000000) (O:base<=w.heap.size) (h:badR r=false) (h1:r<128) :
 Calls prog 220 #[.slice A L.length c,.int .i64 (r:Int)] w (PutB w base (L++encR r)):=by
 obtain⟨n,hn⟩:=Ab L.length;rw[<-hn]at hb T ⊢;have a:r<=1114111:=by
  unfold badR at h;simp only[Bool.or_eq_false_iff,decide_eq_false_iff_not]at h;omega
 have j:encR r = [u8 r]:=by unfold encR encO;rw[h,if_neg (by simp),if_pos h1]
 rw[j];obtain⟨z,Y⟩:=Ab ((r:Int):Int);rw[<-Y];have g0:0<=z:=by omega
 have gh:z<=1114111:=by omega
 have g1:z<128:=by omega
 obtain⟨l,H⟩:=Ab ([u8 r]);have b : [Value.int .u8 z]=l.map B8:=by
  rw[H,Y];simp only[List.map_cons,List.map_nil,Bi (show r<256 by omega)]
  try rfl
 rw[<-H];replace H:=Aa H;replace b:=Aa b;replace a:=Aa a;replace Y:=Aa Y;replace h1:=Aa h1;replace hn:=Aa hn;replace hb:=Aa hb;replace j:=Aa j;replace h:=Aa h
 go_in
 go_wp2_with (at_builtin;refine Au Aw hb.out (.tmp 25) (.tmp 28) rfl rfl rfl rfl (Az rfl) (by simp;omega) O (fun A3 c3 w4 U J=>?_));go_ret;exact BO hn.out b.out U J
theorem Ou (L:List UInt8) (A:Option Addr) (c base r:Nat) (w:World) (hb:Buf w base 5 A L.length c (L.map B8)) (T:L.length<=4000000000) (O:base<=w.heap.size) (h:badR r=false) (h1:¬ r<128) (h2:r<2048) :
 Calls prog 220 #[.slice A L.length c,.int .i64 (r:Int)] w (PutB w base (L++encR r)):=by
 obtain⟨n,hn⟩:=Ab L.length;rw[<-hn]at hb T ⊢;have a:r<=1114111:=by
  unfold badR at h;simp only[Bool.or_eq_false_iff,decide_eq_false_iff_not]at h;omega
 have j:encR r = [u8 (192+r / 64),u8 (128+r%64)]:=by unfold encR encO;rw[h,if_neg (by simp),if_neg h1,if_pos h2]
 rw[j];obtain⟨z,Y⟩:=Ab ((r:Int):Int);rw[<-Y];have g0:0<=z:=by omega
 have gh:z<=1114111:=by omega
 have g1:¬ z<128:=by omega
 have g2:z<2048:=by omega
 obtain⟨l,H⟩:=Ab ([u8 (192+r / 64),u8 (128+r%64)]);have b : [Value.int .u8 (192+z / 64),.int .u8 (128+z%64)]=l.map B8:=by
  rw[H,Y];simp only[List.map_cons,List.map_nil,Bi (show 192+r / 64<256 by omega),Bi (show 128+r%64<256 by omega)]
  try rfl
 rw[<-H];replace H:=Aa H;replace b:=Aa b;replace a:=Aa a;replace Y:=Aa Y;replace h1:=Aa h1;replace h2:=Aa h2;replace hn:=Aa hn;replace hb:=Aa hb;replace j:=Aa j;replace h:=Aa h
 go_in
 go_wp2_with (at_builtin;refine Au Aw hb.out (.tmp 33) (.tmp 42) rfl rfl rfl rfl (Az rfl) (by simp;omega) O (fun A3 c3 w4 U J=>?_));go_ret;exact BO hn.out b.out U J
theorem Ov (L:List UInt8) (A:Option Addr) (c base r:Nat) (w:World) (hb:Buf w base 5 A L.length c (L.map B8)) (Z:L.length<=4000000000) (O:base<=w.heap.size) (h:badR r=false) (h1:¬ r<128) (h2:¬ r<2048) (T:r<55296) :
 Calls prog 220 #[.slice A L.length c,.int .i64 (r:Int)] w (PutB w base (L++encR r)):=by
 obtain⟨n,hn⟩:=Ab L.length;rw[<-hn]at hb Z ⊢;have a:r<=1114111:=by
  unfold badR at h;simp only[Bool.or_eq_false_iff,decide_eq_false_iff_not]at h;omega
 have j:encR r = [u8 (224+r / 4096),u8 (128+r / 64%64),u8 (128+r%64)]:=by unfold encR encO;rw[h,if_neg (by simp),if_neg h1,if_neg h2,if_pos (show r<65536 by omega)]
 rw[j];obtain⟨z,Y⟩:=Ab ((r:Int):Int);rw[<-Y];have g0:0<=z:=by omega
 have gh:z<=1114111:=by omega
 have g1:¬ z<128:=by omega
 have g2:¬ z<2048:=by omega
 have g3:z<65536:=by omega
 have g4:z<55296:=by omega
 obtain⟨l,H⟩:=Ab ([u8 (224+r / 4096),u8 (128+r / 64%64),u8 (128+r%64)]);have b : [Value.int .u8 (224+z / 4096),.int .u8 (128+z / 64%64),.int .u8 (128+z%64)]=l.map B8:=by
  rw[H,Y];simp only[List.map_cons,List.map_nil,Bi (show 224+r / 4096<256 by omega),Bi (show 128+r / 64%64<256 by omega),Bi (show 128+r%64<256 by omega)]
  try rfl
 rw[<-H];replace H:=Aa H;replace b:=Aa b;replace a:=Aa a;replace Y:=Aa Y;replace h1:=Aa h1;replace h2:=Aa h2;replace T:=Aa T;replace hn:=Aa hn;replace hb:=Aa hb;replace j:=Aa j;replace h:=Aa h
 go_in
 go_wp2_with (at_builtin;refine Au Aw hb.out (.tmp 47) (.tmp 61) rfl rfl rfl rfl (Az rfl) (by simp;omega) O (fun A3 c3 w4 U J=>?_));go_ret;exact BO hn.out b.out U J
theorem IZ (L:List UInt8) (A:Option Addr) (c base r:Nat) (w:World) (hb:Buf w base 5 A L.length c (L.map B8)) (Z:L.length<=4000000000) (T:base<=w.heap.size) (h:badR r=false) (h1:¬ r<128) (h2:57343<r) (J:r<65536) :
 Calls prog 220 #[.slice A L.length c,.int .i64 (r:Int)] w (PutB w base (L++encR r)):=by
 obtain⟨n,hn⟩:=Ab L.length;rw[<-hn]at hb Z ⊢;have a:r<=1114111:=by
  unfold badR at h;simp only[Bool.or_eq_false_iff,decide_eq_false_iff_not]at h;omega
 have j:encR r = [u8 (224+r / 4096),u8 (128+r / 64%64),u8 (128+r%64)]:=by unfold encR encO;rw[h,if_neg (by simp),if_neg h1,if_neg (show ¬ r<2048 by omega),if_pos J]
 rw[j];obtain⟨z,Y⟩:=Ab ((r:Int):Int);rw[<-Y];have g0:0<=z:=by omega
 have gh:z<=1114111:=by omega
 have g1:¬ z<128:=by omega
 have g2:¬ z<2048:=by omega
 have g3:z<65536:=by omega
 have g4:¬ z<55296:=by omega
 have g5:57343<z:=by omega
 obtain⟨l,H⟩:=Ab ([u8 (224+r / 4096),u8 (128+r / 64%64),u8 (128+r%64)]);have b : [Value.int .u8 (224+z / 4096),.int .u8 (128+z / 64%64),.int .u8 (128+z%64)]=l.map B8:=by
  rw[H,Y];simp only[List.map_cons,List.map_nil,Bi (show 224+r / 4096<256 by omega),Bi (show 128+r / 64%64<256 by omega),Bi (show 128+r%64<256 by omega)]
  try rfl
 rw[<-H];replace H:=Aa H;replace b:=Aa b;replace a:=Aa a;replace Y:=Aa Y;replace h1:=Aa h1;replace h2:=Aa h2;replace J:=Aa J;replace hn:=Aa hn;replace hb:=Aa hb;replace j:=Aa j;replace h:=Aa h
 go_in
 go_wp2_with (at_builtin;refine Au Aw hb.out (.tmp 47) (.tmp 61) rfl rfl rfl rfl (Az rfl) (by simp;omega) T (fun A3 c3 w4 O U=>?_));go_ret;exact BO hn.out b.out O U
theorem Ow (L:List UInt8) (A:Option Addr) (c base r:Nat) (w:World) (hb:Buf w base 5 A L.length c (L.map B8)) (Z:L.length<=4000000000) (T:base<=w.heap.size) (h:badR r=false) (h1:¬ r<128) (h2:¬ r<2048) (J:¬ r<65536) :
 Calls prog 220 #[.slice A L.length c,.int .i64 (r:Int)] w (PutB w base (L++encR r)):=by
 obtain⟨n,hn⟩:=Ab L.length;rw[<-hn]at hb Z ⊢;have a:r<=1114111:=by
  unfold badR at h;simp only[Bool.or_eq_false_iff,decide_eq_false_iff_not]at h;omega
 have j:encR r = [u8 (240+r / 262144),u8 (128+r / 4096%64),u8 (128+r / 64%64),u8 (128+r%64)]:=by unfold encR encO;rw[h,if_neg (by simp),if_neg h1,if_neg h2,if_neg J]
 rw[j];obtain⟨z,Y⟩:=Ab ((r:Int):Int);rw[<-Y];have g0:0<=z:=by omega
 have gh:z<=1114111:=by omega
 have g1:¬ z<128:=by omega
 have g2:¬ z<2048:=by omega
 have g3:¬ z<65536:=by omega
 have g4:¬ z<55296:=by omega
 have g5:57343<z:=by omega
 obtain⟨l,H⟩:=Ab ([u8 (240+r / 262144),u8 (128+r / 4096%64),u8 (128+r / 64%64),u8 (128+r%64)]);have b : [Value.int .u8 (240+z / 262144),.int .u8 (128+z / 4096%64),.int .u8 (128+z / 64%64),.int .u8 (128+z%64)]=l.map B8:=by
  rw[H,Y];simp only[List.map_cons,List.map_nil,Bi (show 240+r / 262144<256 by omega),Bi (show 128+r / 4096%64<256 by omega),Bi (show 128+r / 64%64<256 by omega),Bi (show 128+r%64<256 by omega)]
  try rfl
 rw[<-H];replace H:=Aa H;replace b:=Aa b;replace a:=Aa a;replace Y:=Aa Y;replace h1:=Aa h1;replace h2:=Aa h2;replace J:=Aa J;replace hn:=Aa hn;replace hb:=Aa hb;replace j:=Aa j;replace h:=Aa h
 go_in
 go_wp2_with (at_builtin;refine Au Aw hb.out (.tmp 63) (.tmp 82) rfl rfl rfl rfl (Az rfl) (by simp;omega) T (fun A3 c3 w4 O U=>?_));go_ret;exact BO hn.out b.out O U
end
end Go.Proofs.YtfifdilapbeiiaaGreat
