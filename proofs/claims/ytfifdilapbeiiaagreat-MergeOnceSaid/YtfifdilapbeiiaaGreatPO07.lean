/- Texts of one proof, joined. -/
import Derived.Test.YtfifdilapbeiiaaGreatPO06
import Derived.StringKeys
import Derived.BigRegion
import Derived.Maps.RangeRun
import Derived.Maps.Range
import Derived.Laws.IdiomRangeMap
set_option linter.unusedSimpArgs false
set_option linter.unusedVariables false
set_option maxRecDepth 100000
set_option maxHeartbeats 16000000
namespace Go.Proofs.YtfifdilapbeiiaaGreat
open _root_.Go.Proofs.Tryz
variable {ops:Array Oper} {cs lb:Array Value} {Q:Exit → Act → World → Prop} {ks ns:List (List UInt8)} {s:List UInt8} {news us xs ys:List Value} {M c c1 gf i k m n:Nat} {o:Oper} {A A1:Option Addr} {P:Program} {E e t ty:TypeId} {v:Value} {W W1 w w0 w1 w8 w9:World}
section
open Go.RowKit
theorem HX (w:World):Calls prog 201 #[.slice none 0 0,.int .i64 0,.int .i64 0,cmpV] w fun e w'=>e = .returned (.tuple #[])/\w'=w:=by
 unfold cmpV
 go_in
 go_wp2_with fail
 go_loopw [8] (fun s8 wr=>s8 = .int .i64 1/\wr=w) (fun _ _=>0)
 case atStart=>exact⟨rfl,rfl⟩
 case round =>
  obtain⟨rfl,rfl⟩:=hrel;go_wp2_with fail
  go_end0
  exact⟨rfl,rfl⟩
theorem MB (w:World):Calls prog 176 #[.slice none 0 0,.int .i64 0,cmpV] w fun e w'=>e = .returned (.tuple #[])/\w'=w:=by
 have h:=Aa (HX w);unfold cmpV at h ⊢
 go_in
 go_wp2_with fail
 go_loopw [7,8] (fun s7 s8 wr=>s7 = .int .i64 0/\s8 = .int .i64 20/\wr=w) (fun _ _ _=>0)
 case atStart=>exact⟨rfl,rfl,rfl⟩
 case round =>
  obtain⟨rfl,rfl,rfl⟩:=hrel;go_wp2_with fail;refine h.out.mono ?_;rintro e w1 ⟨rfl,rfl⟩;go_wp2_with fail
  go_loopw [6] (fun s6 wr2=>s6 = .int .i64 20/\wr2=w1) (fun _ _=>0)
  case atStart=>exact⟨rfl,rfl⟩
  case round =>
   obtain⟨rfl,rfl⟩:=hrel;go_wp2_with fail
   go_end0
   exact⟨rfl,rfl⟩
theorem Hx (w:World):Calls prog 131 #[.slice none 0 0,cmpV] w fun e w'=>e = .returned (.tuple #[])/\w'=w:=by
 have h:=Aa (MB w);unfold cmpV at h ⊢
 go_in
 go_wp2_with fail;refine h.out.mono ?_;rintro e w1 ⟨rfl,rfl⟩;go_wp2_with fail
 go_end0
 exact⟨rfl,rfl⟩
theorem Mv (base:Nat) (L:Option Addr) (n c:Nat) (D:List TmV) (w:World) (h:w.ownsRow base 157 2 (.slice L n c) n (tcs D)) (hn:n=D.length) (j:n<=268435456) :
 Calls prog 131 #[.slice L n c,cmpV] w fun e w'=>e = .returned (.tuple #[])/\∃E,Std D E/\(n≠0->∃g,L=some ⟨g,0,none⟩/\base<=g/\TR w' g E)/\Chg (fun k=>(Value.slice L n c).ownBlock=some k) w w':=by
 rcases h with ⟨T,⟨b,O⟩ | ⟨g,cap,cur,b,hb,J,U,Y,hs,ht⟩⟩
 ·cases b;obtain rfl:D = []:=List.length_eq_zero_iff.1 hn.symm;exact(Hx w).mono fun e w' ⟨h1,h2⟩=>⟨h1,[],⟨List.Pairwise.nil,Stb.refl _⟩,fun h=>absurd rfl h,by rw[h2];exact Chg.refl _ _⟩
 ·cases b;subst hn;refine(Hw g c D w ⟨cur,J,fun i v hi=>?_⟩ j).mono ?_
  ·rw[<-ht,List.getElem?_take]at hi;split at hi
   ·simpa using hi
   ·cases hi
  ·rintro e w' ⟨h1,E,h2,a,H⟩;exact⟨h1,E,h2,fun _=>⟨g,rfl,hb,a⟩,H.mono fun k _ hk=>by rw[hk];rfl⟩
abbrev TmP:=TmV×(List UInt8×List Int)
def TmP.far (x y:TmP):Prop:=∀a b,x.1.2.1=some a->y.1.2.1=some b->a.block≠b.block
theorem TmP.far_symm {x y:TmP} (h:TmP.far x y):TmP.far y x:=fun a b j hb e=>h b a hb j e.symm
def TmP.ok (w:World) (base:Nat) (z:TmP):Prop:=z.1.1=z.2.1/\Buf w base 3 z.1.2.1 z.1.2.2.1 z.1.2.2.2 (z.2.2.map IV)
structure TZ (w:World) (base:Nat) (l:List TmP):Prop where
  each:∀z∈l,TmP.ok w base z
  apart:l.Pairwise TmP.far
theorem TZ.perm {base:Nat} {l m:List TmP} (h:TZ w base l) (j:m.Perm l):TZ w base m :=
 ⟨fun z b=>h.each z (j.mem_iff.1 b),(j.symm.pairwise_iff (fun {x y} h=>TmP.far_symm h)).1 h.apart⟩
theorem TZ.keep {base:Nat} {l:List TmP} (h:TZ w base l) (hk:∀A n c xs,Buf w base 3 A n c xs->Buf w1 base 3 A n c xs):TZ w1 base l :=
 ⟨fun z j=>⟨(h.each z j).1,hk _ _ _ _ (h.each z j).2⟩,h.apart⟩
theorem TmsOk.tz {base:Nat} {D:List TmV} {Z:List (List UInt8×Int)} (h:TmsOk w base D (oneT Z)) :
 TZ w base (D.map fun x=>(x,(x.1,ptsOf w x.2)))/\(∀x∈D,ptsOf w x.2 = [(ptsOf w x.2).headD 0])/\D.map (fun x=>(x.1,(ptsOf w x.2).headD 0))=Z:=by
 have hl:D.length=Z.length:=by have:=h.len;unfold oneT at this;rwa [List.length_map]at this
 have Y:∀(i:Nat) (x:TmV),D[i]? = some x->∃p,Z[i]? = some p/\x.1=p.1/\Buf w base 3 x.2.1 x.2.2.1 x.2.2.2 ([p.2].map IV)/\ptsOf w x.2 = [p.2]:=fun i x H=>by
  have hi:=(List.getElem?_eq_some_iff.1 H).1;obtain⟨p,J⟩:∃p,Z[i]? = some p:=⟨_,List.getElem?_eq_getElem (by omega)⟩
  have:=h.each i x (p.1,[p.2]) H (by unfold oneT;rw[List.getElem?_map,J];rfl);exact⟨p,J,this.1,this.2,N6 this.2⟩
 refine⟨⟨fun z I=>?_,?_⟩,fun x H=>?_,?_⟩
 ·obtain⟨x,H,rfl⟩:=List.mem_map.1 I;obtain⟨i,hi⟩:=List.mem_iff_getElem?.1 H;obtain⟨p,J,h1,h2,U⟩:=Y i x hi;exact⟨rfl,by simp only[U];exact h2⟩
 ·rw[List.pairwise_map,List.pairwise_iff_getElem];intro i j hi G T a b O hb;exact h.apart i j _ _ (List.getElem?_eq_getElem hi) (List.getElem?_eq_getElem G) (by omega) a b O hb
 ·obtain⟨i,hi⟩:=List.mem_iff_getElem?.1 H;obtain⟨p,J,h1,h2,U⟩:=Y i x hi;rw[U];rfl
 ·apply List.ext_getElem?;intro i;rw[List.getElem?_map];cases H:D[i]? with
  | none=>rw[List.getElem?_eq_none_iff]at H;rw[List.getElem?_eq_none (by omega)];rfl
  | some x =>
   obtain⟨p,J,h1,h2,U⟩:=Y i x H;rw[J,Option.map_some,U,h1];rfl
theorem TZ.tms {base:Nat} {l:List TmP} (h:TZ w base l):TmsOk w base (l.map Prod.fst) (l.map Prod.snd):=by
 refine⟨by rw[List.length_map,List.length_map],fun i x p Y O=>?_,fun i j x y Y G U a b T hb=>?_⟩
 ·rw[List.getElem?_map]at Y O;obtain⟨z,J,rfl⟩:=Option.map_eq_some_iff.1 Y;rw[J]at O;cases O;exact h.each z (List.mem_of_getElem? J)
 ·rw[List.getElem?_map]at Y G;obtain⟨z,J,rfl⟩:=Option.map_eq_some_iff.1 Y;obtain⟨u,I,rfl⟩:=Option.map_eq_some_iff.1 G;obtain⟨hi,rfl⟩:=List.getElem?_eq_some_iff.1 J;obtain⟨Z,rfl⟩:=List.getElem?_eq_some_iff.1 I;rcases Nat.lt_or_gt_of_ne U with H | H
  ·exact List.pairwise_iff_getElem.1 h.apart i j hi Z H a b T hb
  ·exact(List.pairwise_iff_getElem.1 h.apart j i Z hi H b a hb T).symm
theorem TZ.join {base:Nat} {a r:List TmP} {x y:TmP} (h:TZ w base (a++x::y::r)) (x':TmP) (hk:∀z∈a++r,TmP.far z x->TmP.ok w base z->TmP.ok w1 base z) (hx:TmP.ok w1 base x') (hn:x'.1.2.1=x.1.2.1\/∃b,x'.1.2.1=some b/\w.heap.size<=b.block):TZ w1 base (a++x'::r):=by
 have U:∀z∈a++r,z∈a++x::y::r:=fun z j=>by
  rcases List.mem_append.1 j with h | h
  ·exact List.mem_append_left _ h
  ·exact List.mem_append_right _ (List.mem_cons_of_mem _ (List.mem_cons_of_mem _ h))
 have H:∀z∈a++r,(TmP.far z x->TmP.far z x'):=fun z j G p q Y O=>by
  rcases hn with hn | ⟨b,hb,I⟩
  ·rw[hn]at O;exact G p q Y O
  ·rw[hb]at O;cases O;have:=(h.each z (U z j)).2.lt p Y;omega
 have Y:=List.pairwise_append.1 h.apart;have J:=List.pairwise_cons.1 Y.2.1;have T:=List.pairwise_cons.1 J.2;refine⟨fun z j=>?_,List.pairwise_append.2 ⟨Y.1,List.pairwise_cons.2 ⟨fun z j=>?_,T.2⟩,fun z j u Z=>?_⟩⟩
 ·rcases List.mem_append.1 j with j | j
  ·exact hk z (List.mem_append_left _ j) (Y.2.2 z j x (List.mem_cons_self ..)) (h.each z (List.mem_append_left _ j))
  ·rcases List.mem_cons.1 j with rfl | j
   ·exact hx
   ·exact hk z (List.mem_append_right _ j) (TmP.far_symm (J.1 z (List.mem_cons_of_mem _ j))) (h.each z (U z (List.mem_append_right _ j)))
 ·exact TmP.far_symm (H z (List.mem_append_right _ j) (TmP.far_symm (J.1 z (List.mem_cons_of_mem _ j))))
 ·rcases List.mem_cons.1 Z with rfl | Z
  ·exact H z (List.mem_append_left _ j) (Y.2.2 z j x (List.mem_cons_self ..))
  ·exact Y.2.2 z j u (List.mem_cons_of_mem _ (List.mem_cons_of_mem _ Z))
theorem M7 {base g n c size:Nat} (h:w.ownsRow base e size (.slice (some ⟨g,0,none⟩) n c) n xs) (j:Nat) (u:Value) :
 (w.setCell ⟨g,j,none⟩ u).ownsRow base e size (.slice (some ⟨g,0,none⟩) n c) n (xs.set j u):=by
 rcases h with ⟨H,⟨h2,_⟩ | ⟨g',cap,cur,Y,hb,a,hn,b,hs,ht⟩⟩
 ·cases h2
 ·cases Y;refine⟨by rw[List.length_set];exact H,.inr ⟨g,_,cur.setIfInBounds j u,rfl,hb,Row.put (w:=w) a j u,hn,b,by rw[Array.size_setIfInBounds];exact hs,?_⟩⟩;rw[Array.toList_setIfInBounds,List.take_set,ht]
theorem Qf (D:List TmV) (x:TmV) (y:Option Addr×Nat×Nat):(tcs (D ++ [x])).set (D.length*2+1) (.slice y.1 y.2.1 y.2.2)=tcs (D ++ [(x.1,y)]):=by
 rw[DX,DX,List.set_append_right _ _ (by rw[Ft];omega),Ft,show D.length*2+1 - D.length*2=1 by omega];rfl
theorem GU {β:Type} (r:List (List UInt8×List β)) (x:List UInt8×List β) (p:List UInt8×β):joinS (r ++ [x]) p=if x.1=p.1 then r ++ [(x.1,x.2 ++ [p.2])] else r ++ [x] ++ [(p.1,[p.2])]:=by
 unfold joinS;rw[List.getLast?_concat,List.dropLast_concat]
theorem Qe {base n c:Nat} {D:List TmV} (h:w.ownsRow base 157 2 (.slice A n c) n (tcs D)) {x:TmV} (H:D[i]? = some x) :
 ∃g cur,A=some ⟨g,0,none⟩/\base<=g/\Row w g 157 cur/\w.cell? ⟨g,i*2,none⟩=some (.string ⟨x.1.toArray⟩)/\w.cell? ⟨g,i*2+1,none⟩=some (.slice x.2.1 x.2.2.1 x.2.2.2):=by
 have hi:=(List.getElem?_eq_some_iff.1 H).1;rcases h with ⟨J,⟨_,h2⟩ | ⟨g,cap,cur,U,hb,a,hn,O,hs,ht⟩⟩
 ·rw[Ft]at J;omega
 ·cases U;have Y:TR w g D:=⟨cur,a,fun j v b=>by
   rw[<-ht,List.getElem?_take]at b;split at b
   ·simpa using b
   ·cases b⟩
  have:=Y.at_ H;exact⟨g,cur,rfl,hb,a,this.1,this.2⟩
theorem Pu {β:Type} {r:List (List UInt8×List β)} (h:∀z∈r,z.2.length<=k) (p:List UInt8×β):∀z∈joinS r p,z.2.length<=k+1:=by
 intro z j;rcases List.eq_nil_or_concat r with rfl | ⟨r0,x,b⟩
 ·unfold joinS at j;simp only[List.getLast?_nil,List.mem_singleton]at j;rw[j];simp
 ·rw[List.concat_eq_append]at b;subst b;rw[GU]at j;have a:=h x (by simp);split at j
  ·rcases List.mem_append.1 j with j | j
   ·have:=h z (List.mem_append_left _ j);omega
   ·rw[List.mem_singleton.1 j,List.length_append];simp;omega
  ·rcases List.mem_append.1 j with j | j
   ·have:=h z j;omega
   ·rw[List.mem_singleton.1 j];simp
theorem Kc {β:Type}:∀(l:List (List UInt8×β)) (r:List (List UInt8×List β)) (k:Nat),(∀z∈r,z.2.length<=k)->∀z∈l.foldl joinS r,z.2.length<=k+l.length
 | [],r,k,h=>h
 | p::l,r,k,h=>fun z j=>by
  have:=Kc l (joinS r p) (k+1) (Pu h p) z j;rw[List.length_cons];omega
theorem Gr {base n c b m size:Nat} (hb:Buf w base e A n c xs) (Y:w.grownBy w1 (Value.slice A n c).ownBlock) (J:w.ownsRow b t size v m ys) (ht:t≠e):w1.ownsRow b t size v m ys :=
 (Chg.of_grown (S:=fun j=>(Value.slice A n c).ownBlock=some j) Y (fun k _ h=>h)).owns J fun g Y H=>by
  obtain⟨cur,U,_⟩:=Ae J Y;cases A with
  | none=>simp[Value.ownBlock]at H
  | some a =>
   simp[Value.ownBlock]at H;exact hb.unlike U (fun h=>ht h.symm) a rfl H
theorem Rs {n c b n2 c2:Nat} {A B:Option Addr} (J:w.grownBy w1 (Value.slice A n c).ownBlock) (h:Buf w b t B n2 c2 ys) (Y:∀p q,B=some p->A=some q->p.block≠q.block):Buf w1 b t B n2 c2 ys :=
 h.grown J fun a H j=>by
  cases A with
  | none=>simp[Value.ownBlock]at j
  | some q =>
   simp[Value.ownBlock]at j;exact Y a q H rfl j.symm
end
section
open Go.RowKit Go.Maps
structure IdE where
  s:List UInt8
  ps:List PoC
  A:Option Addr
  c:Nat
def IdE.val (x:IdE):Value:= .slice x.A x.ps.length x.c
def IdE.own (x:IdE) (base:Nat) (W:World):Prop:=W.ownsRow base 89 2 (.slice x.A x.ps.length x.c) x.ps.length (pcells x.ps)
def IdE.far (x y:IdE):Prop:=∀a b,x.A=some a->y.A=some b->a.block≠b.block
def posAt (base:Nat) (W:World) (y:PoC):Prop:=Buf W base 3 y.A y.pos.length y.c (y.pos.map IV)/\y.pos.length<=1000000000
structure IX (base M:Nat) (done:List (List UInt8×Po)) (E:List IdE) (W:World):Prop where
  map:∃L,MapL prog 9 W M L/\∀p,p∈L↔∃x∈E,p=(strV x.s,x.val)
  own:∀x∈E,x.own base W/\psP x.ps=valsOf done x.s/\x.ps ≠ []
  pos:∀x∈E,∀y∈x.ps,posAt base W y
  uniq:∀x∈E,∀y∈E,x.s=y.s->x=y
  apart:∀x∈E,∀y∈E,x.s≠y.s->IdE.far x y
  all:∀p∈done,∃x∈E,x.s=p.1
theorem HG {a b:List UInt8} (h:strV a=strV b):a=b:=by
 unfold strV at h;injection h with h;injection h with h;simpa using h
theorem IX.new {base:Nat}:IX base w.heap.size [] [] (w.alloc (.map #[] 0)) :=
 ⟨⟨[],MapL.made w,fun p=>by simp⟩,nofun,nofun,nofun,nofun,nofun⟩
theorem IX.ext {base M:Nat} {done:List (List UInt8×Po)} {E:List IdE} (h:IX base M done E W) (a:Ext W W1):IX base M done E W1:=by
 obtain⟨⟨L,U,T⟩,H,Y,Z,O,j⟩:=h;exact⟨⟨L,U.ext a,T⟩,fun x b=>⟨a.owns (H x b).1,(H x b).2⟩,fun x b y J=>⟨(Y x b y J).1.ext a,(Y x b y J).2⟩,Z,O,j⟩
theorem Kk:Keyed prog 9:=string_keyed underlying9
theorem DJ (hs:s.length<=9223372036854775807):keyOf prog 9 (strV s)=some (.string s):=by
 have h:=WideMaps.keyOf_string_mk (P:=prog) underlying9 (s:=⟨s.toArray⟩) (by show s.toArray.size<=9223372036854775807;simpa using hs);simpa [strV]using h
def IdG (E:List IdE) (s:List UInt8) (x:IdE):Prop:=x.s=s/\(x∈E\/(x.A=none/\x.c=0/\x.ps = []/\∀y∈E,y.s≠s))
theorem IX.get {base M:Nat} {done:List (List UInt8×Po)} {E:List IdE} (h:IX base M done E W) (s:List UInt8) (hs:s.length<=9223372036854775807) :
 ∃x,IdG E s x/\x.own base W/\psP x.ps=valsOf done s/\∀W1,Ext W W1->(Instr.lookup 94 (.map (some M)) (strV s) false).run prog W1 = .ok (.slice x.A x.ps.length x.c) W1:=by
 obtain⟨L,a,I⟩:=h.map;have G:∀W,(zeroValue 47).run prog W = .ok (.slice none 0 0) W:=fun W=>by kernel_rfl
 rcases a.look Kk underlying94 (DJ hs) (G W) false with ⟨v,U,_⟩ | ⟨j,_⟩
 ·obtain⟨x,hx,he⟩:=(I _).1 U;injection he with h1 h2;have O:=HG h1;subst O;have:=h.own x hx;refine⟨x,⟨rfl,.inl hx⟩,this.1,this.2.1,fun W1 H=>?_⟩;rcases (a.ext H).look Kk underlying94 (DJ hs) (G W1) false with ⟨u,J,Y⟩ | ⟨j,_⟩
  ·rw[Y,a.unique J U,h2];rfl
  ·exact absurd rfl (j _ U)
 ·have b:∀y∈E,y.s≠s:=fun y T e=>j (strV y.s,y.val) ((I _).2 ⟨y,T,rfl⟩) (by rw[e]);refine⟨⟨s,[],none,0⟩,⟨rfl,.inr ⟨rfl,rfl,rfl,b⟩⟩,World.ownsRow_nil _ _ _ _,?_,fun W1 H=>?_⟩
  ·show []=_;exact(Df fun p hp e=>by
    obtain⟨y,T,Z⟩:=h.all p hp;exact b y T (Z.trans e)).symm
  ·rcases (a.ext H).look Kk underlying94 (DJ hs) (G W1) false with ⟨u,J,_⟩ | ⟨_,Y⟩
   ·exact absurd rfl (j _ J)
   ·exact Y
theorem DK {base M:Nat} {L:List (Value×Value)} (h:MapL prog 9 W M L) {e size n:Nat} (a:W.ownsRow base e size v n xs):v.ownBlock≠some M:=fun b=>by
 obtain⟨cur,j,_⟩:=Ae a b;obtain⟨⟨es,cl,h1,_⟩,_⟩:=h;unfold Row at j;rw[h1]at j;cases j
theorem DL {L:List (Value×Value)} (h:MapL prog 9 W M L) {g t:Nat} (j:Row W g t cs):g≠M:=fun b=>by
 obtain⟨⟨es,cl,h1,_⟩,_⟩:=h;unfold Row at j;rw[b,h1]at j;cases j
theorem MapL.same {k:TypeId} {L L':List (Value×Value)} (h:MapL prog k w m L) (a:MapL prog k w m L'):L=L':=by
 obtain⟨⟨es,cl,h1,h2,_⟩,_⟩:=h;obtain⟨⟨es',cl',j,b,_⟩,_⟩:=a;rw[h1]at j;cases j;exact h2.symm.trans b
theorem Kw (l:List PoC) (x:PoC):psP (l ++ [x])=psP l ++ [x.po]:=by unfold psP;rw[List.map_append];rfl
theorem F9 (l:List PoC) (x:PoC):pcells (l ++ [x])=pcells l++x.cells:=by
 unfold pcells;rw[List.flatMap_append];simp
theorem IX.put {base M:Nat} {done:List (List UInt8×Po)} {E:List IdE} (h:IX base M done E W) {x:IdE} (hx:IdG E s x) (d0:x.own base W) (x1:psP x.ps=valsOf done s)
 {y:PoC} (hg:W.grownBy w8 (Value.slice x.A x.ps.length x.c).ownBlock) (ho:w8.ownsRow base 89 2 (.slice A1 (x.ps.length+1) c1) (x.ps.length+1) (pcells x.ps++y.cells))
 (Z:(Value.slice A1 (x.ps.length+1) c1).ownBlock=(Value.slice x.A x.ps.length x.c).ownBlock\/∃k,(Value.slice A1 (x.ps.length+1) c1).ownBlock=some k/\W.heap.size<=k) (hy:posAt base W y)
 (h9:∀L,MapL prog 9 w8 M L->(∀p,p∈L↔∃x∈E,p=(strV x.s,x.val))->∃L',MapL prog 9 w9 M L'/\Put L (strV s) (.slice A1 (x.ps.length+1) c1) L'/\w8.grownBy w9 (some M)) :
 IX base M (done ++ [(s,y.po)]) (⟨s,x.ps ++ [y],A1,c1⟩::E.filter fun z=>decide (z.s≠s)) w9:=by
 obtain⟨L,hL,hm⟩:=h.map;have g0:MapL prog 9 w8 M L:=hL.grown hg (DK hL d0);obtain⟨L',l0,c0,v0⟩:=h9 L g0 hm;have hlen:(x.ps ++ [y]).length=x.ps.length+1:=by rw[List.length_append];rfl
 have j:∀z,z∈(E.filter fun z=>decide (z.s≠s))↔z∈E/\z.s≠s:=fun z=>by rw[List.mem_filter];simp
 have q1:∀g t cs,Row w8 g t cs->Row w9 g t cs:=fun g t cs hr=>hr.grown v0 fun e=>DL g0 hr (by injection e);have k0:∀ {b e size n:Nat} {v:Value} {xs:List Value},w8.ownsRow b e size v n xs->w9.ownsRow b e size v n xs:=fun hh =>
  (Chg.of_grown (S:=fun k=>k=M) v0 (fun k _ e=>by injection e with e;exact e.symm)).owns hh fun g o0 e=>DK g0 hh (by rw[o0,e])
 have I:∀z∈E,z.s≠s->∀a,x.A=some a->∀b,z.A=some b->b.block≠a.block:=fun z H U a J b hb=>by
  rcases hx.2 with y0 | ⟨hn,_⟩
  ·exact h.apart z H x y0 (fun e=>U (e.trans hx.1)) b a hb J
  ·rw[hn]at J;cases J
 have m0:∀z∈E,z.s≠s->z.own base w9:=fun z H U=>by
  refine k0 ?_;refine(Chg.of_grown (S:=fun k=>(Value.slice x.A x.ps.length x.c).ownBlock=some k) hg (fun k _ e=>e)).owns (h.own z H).1 fun g p0 q0=>?_;cases b0:z.A with
  | none=>rw[b0]at p0;simp[Value.ownBlock]at p0
  | some b =>
   cases T:x.A with
   | none=>rw[T]at q0;simp[Value.ownBlock]at q0
   | some a =>
    rw[b0]at p0;rw[T]at q0;simp[Value.ownBlock]at p0 q0;exact I z H U a T b b0 (p0.trans q0.symm)
 have O:∀u,posAt base W u->posAt base w9 u:=fun u Y=>by
  have q:=Ci d0 hg Y.1 (by decide);exact⟨q.grown v0 fun a J e=>by
   injection e with e;rcases q.2.2 with ⟨h0,_⟩ | ⟨g',cur,i0,_,hr,_⟩
   ·rw[h0]at J;cases J
   ·rw[i0]at J;cases J;exact DL g0 hr e.symm,Y.2⟩
 have k1:valsOf (done ++ [(s,y.po)]) s=valsOf done s ++ [y.po]:=by rw[AK,Dz,if_pos rfl]
 have j1:∀t,t≠s->valsOf (done ++ [(s,y.po)]) t=valsOf done t:=fun t ht=>by rw[AK,Dz,if_neg (fun e=>ht e.symm),List.append_nil]
 refine⟨⟨L',l0,fun p=>?_⟩,fun z H=>?_,fun z H u Y=>?_,fun z H u Y G=>?_,fun z H u Y G=>?_,fun p hp=>?_⟩
 ·rw[c0.mem];constructor
  ·rintro(rfl | ⟨hp,U⟩)
   ·exact⟨_,List.mem_cons_self ..,by unfold IdE.val;simp only[hlen]⟩
   ·obtain⟨z,H,rfl⟩:=(hm _).1 hp;exact⟨z,List.mem_cons_of_mem _ ((j z).2 ⟨H,fun e=>U (by rw[e])⟩),rfl⟩
  ·rintro⟨z,H,rfl⟩;rcases List.mem_cons.1 H with rfl | H
   ·exact .inl (by unfold IdE.val;simp only[hlen])
   ·obtain⟨j0,t0⟩:=(j z).1 H;exact .inr ⟨(hm _).2 ⟨z,j0,rfl⟩,fun e=>t0 (HG e)⟩
 ·rcases List.mem_cons.1 H with rfl | H
  ·refine⟨?_,?_,by simp⟩
   ·show w9.ownsRow base _ 2 (.slice A1 (x.ps ++ [y]).length c1) (x.ps ++ [y]).length (pcells (x.ps ++ [y]));rw[hlen,F9];exact k0 ho
   ·show psP (x.ps ++ [y])=valsOf _ s;rw[Kw,x1,k1]
  ·obtain⟨j0,t0⟩:=(j z).1 H;exact⟨m0 z j0 t0,by rw[j1 _ t0];exact(h.own z j0).2.1,(h.own z j0).2.2⟩
 ·rcases List.mem_cons.1 H with rfl | H
  ·rcases List.mem_append.1 Y with Y | Y
   ·rcases hx.2 with y0 | ⟨_,_,hn,_⟩
    ·exact O u (h.pos x y0 u Y)
    ·rw[hn]at Y;cases Y
   ·rw[List.mem_singleton.1 Y];exact O y hy
  ·exact O u (h.pos z ((j z).1 H).1 u Y)
 ·rcases List.mem_cons.1 H with rfl | H <;> rcases List.mem_cons.1 Y with rfl | Y
  ·rfl
  ·exact absurd G.symm ((j u).1 Y).2
  ·exact absurd G ((j z).1 H).2
  ·exact h.uniq z ((j z).1 H).1 u ((j u).1 Y).1 G
 ·have key:∀z∈E,z.s≠s->∀a b,A1=some a->z.A=some b->b.block≠a.block:=fun z H U a b J hb e=>by
   rcases Z with Z | Z
   ·rw[J]at Z;cases T:x.A with
    | none=>rw[T]at Z;simp[Value.ownBlock]at Z
    | some a' =>
     rw[T]at Z;simp[Value.ownBlock]at Z;exact I z H U a' T b hb (e.trans Z)
   ·obtain⟨k,Z,h1⟩:=Z;rw[J]at Z;simp[Value.ownBlock]at Z;obtain⟨cur,hc,_⟩:=Ae (h.own z H).1 (g:=b.block) (by rw[hb];rfl);have:=hc.lt;omega
  rcases List.mem_cons.1 H with rfl | H <;> rcases List.mem_cons.1 Y with rfl | Y
  ·exact absurd rfl G
  ·exact fun a b J hb e=>key u ((j u).1 Y).1 ((j u).1 Y).2 a b J hb e.symm
  ·exact fun a b J hb=>key z ((j z).1 H).1 ((j z).1 H).2 b a hb J
  ·exact h.apart z ((j z).1 H).1 u ((j u).1 Y).1 G
 ·rcases List.mem_append.1 hp with hp | hp
  ·obtain⟨z,H,e0⟩:=h.all p hp;by_cases hs:p.1=s
   ·exact⟨_,List.mem_cons_self ..,hs.symm⟩
   ·exact⟨z,List.mem_cons_of_mem _ ((j z).2 ⟨H,by rw[e0];exact hs⟩),e0⟩
  ·rw[List.mem_singleton.1 hp];exact⟨_,List.mem_cons_self ..,rfl⟩
end
section
open Go.RowKit
structure DocC where
  seq:Int
  e:Ev
  A:Option Addr
  c:Nat
def DocC.cells (x:DocC):List Value:= [.int .i64 x.seq,.int .i64 x.e.at_,.slice x.A x.e.fs.length x.c]
def DocC.val (x:DocC):Value:= .agg #[.int .i64 x.seq,.int .i64 x.e.at_,.slice x.A x.e.fs.length x.c]
def DocC.dc (x:DocC):Dc:=(x.seq,x.e)
def dcells (l:List DocC):List Value:=l.flatMap DocC.cells
def dcs (l:List DocC):List Dc:=l.map DocC.dc
theorem Er (l:List DocC):(dcells l).length=l.length*3:=AU (cellsA:=DocC.cells) (k:=3) (fun _=>rfl) l
theorem Ep {l:List DocC} {x:DocC} (h:l[i]? = some x) {j:Nat} (b:j<3):(dcells l)[i*3+j]? = x.cells[j]? :=AW (cellsA:=DocC.cells) (k:=3) (fun _=>rfl) l i x j h b
theorem AR {l:List DocC} (h:Cells w A (dcells l)) {x:DocC} (j:l[i]? = some x):∃g o,A=some ⟨g,o,none⟩/\w.cell? ⟨g,o+i*3,none⟩=some (.int .i64 x.seq)/\w.cell? ⟨g,o+i*3+1,none⟩=some (.int .i64 x.e.at_)/\w.cell? ⟨g,o+i*3+2,none⟩=some (.slice x.A x.e.fs.length x.c):=by
 obtain⟨g,o,a,b⟩:=h.at_ (by rw[Er];have:=(List.getElem?_eq_some_iff.1 j).1;omega);refine⟨g,o,a,?_,?_,?_⟩
 ·have:=b (i*3+0) _ (by rw[Ep j (by omega)];rfl);exact this
 ·have:=b (i*3+1) _ (by rw[Ep j (by omega)];rfl);exact this
 ·have:=b (i*3+2) _ (by rw[Ep j (by omega)];rfl);exact this
structure DocsOk (w:World) (A:Option Addr) (l:List DocC):Prop where
  cells:Cells w A (dcells l)
  each:∀x∈l,x.e.Ok w x.A/\I64ok' x.e.at_/\I64ok' x.seq
theorem DocsOk.ext {l:List DocC} (h:DocsOk w A l) (j:Ext w w1):DocsOk w1 A l:=⟨h.cells.ext j,fun x b=>⟨(h.each x b).1.ext j,(h.each x b).2⟩⟩
theorem DocsOk.nil (w:World) (A:Option Addr):DocsOk w A []:=⟨.inl rfl,nofun⟩
theorem DocsOk.part {ps:List DocC} (h:DocsOk w A ps) (j:∀a,A=some a->a.spot=none) (i m:Nat):DocsOk w (A.map fun a=>a.add (i*3)) ((ps.drop i).take m):=by
 refine⟨?_,fun x b=>h.each x (List.mem_of_mem_drop (List.mem_of_mem_take b))⟩;unfold dcells;rw[Bh (f:=DocC.cells) (k:=3) (fun _=>rfl),Bo (f:=DocC.cells) (k:=3) (fun _=>rfl)];exact h.cells.part j _ _
def ckD (lo:Int) (l:List Dc):Bool:=risB 1099511627777 lo (l.map (·.1))&&l.all okD
theorem JW (lo:Int) (x:Dc) (t:List Dc):ckD lo (x::t)=(decide (lo<x.1)&&decide (x.1<1099511627777)&&decide (checkE x.2.fs=0)&&ckD x.1 t):=by
 unfold ckD;rw[List.map_cons,risB,List.all_cons];unfold okD;cases decide (lo<x.1) <;> cases decide (x.1<1099511627777) <;> cases decide (checkE x.2.fs=0) <;> simp
theorem Gg (ds:List DocC) (A:Option Addr) (m c:Nat) (w:World) (hm:m=ds.length) (h:DocsOk w A ds) (i0:m<=1000000000) :
 Calls prog 78 #[.slice A m c] w fun e w'=>e = .returned (.int .i64 (if okDs (dcs ds) then 0 else 120))/\Ext w w':=by
 have p0:=Aa (fun(e:Ev) B d W h=>Dj e B d W h);obtain⟨Z,G⟩:=Ab (okDs (dcs ds));rw[<-G];have hlen:(dcs ds).length=m:=by unfold dcs;rw[List.length_map,hm]
 by_cases d0:65536<m
 ·have t0:Z=false:=by
   rw[G];unfold okDs;rw[hlen,decide_eq_false (by omega)];rfl
  subst t0;have v0:(65536:Int)<m:=by omega
  clear G p0 h
  go_in
  go_wp2_with fail;go_ret;exact⟨rfl,Ext.refl _⟩
 ·have v0:¬ (65536:Int)<m:=by omega
  have I:Z=ckD 0 (dcs ds):=by
   rw[G];unfold okDs;rw[hlen,decide_eq_true (by omega)];rfl
  replace G:=Aa I;clear I;replace hm:=Aa hm;replace h:=Aa h;replace hlen:=Aa hlen
  go_in
  go_wp2_with fail
  go_loopw [3,11] (fun s3 s11 wr=>∃(i:Nat) (la:Int),s3 = .int .i64 la/\s11 = .int .i64 (i:Int)/\i<=m/\Hid (Z=ckD la (dcs (ds.drop i)))/\Hid (Ext w wr)) (fun _ s11 _=>m - (intOf s11).toNat)
  case atStart=>exact⟨0,0,rfl,rfl,by omega,Aa (by rw[G.out];rfl),Aa (Ext.refl w)⟩
  case round =>
   obtain⟨i,la,rfl,rfl,hi,hb,hE⟩:=hrel;by_cases b0:i<m
   ·obtain⟨x,U⟩:∃x,ds[i]? = some x:=⟨_,List.getElem?_eq_getElem (by rw[<-hm.out];exact b0)⟩
    obtain⟨g,o,hA,x0,y0,h0⟩:=AR (h.out.cells.ext hE.out) U;subst hA;have hx:=h.out.each x (List.mem_of_getElem? U);have j:=hb.out;rw[AY U]at j;unfold dcs at j;rw[List.map_cons,JW]at j;obtain⟨W2,b⟩:=Ab (wr.alloc (.cells #[.int .i64 x.seq,.int .i64 x.e.at_,.slice x.A x.e.fs.length x.c] 71));have Y:Ext w W2:=by rw[b];exact hE.out.alloc _
    have a:=p0.out x.e x.A x.c W2 (hx.1.ext Y);have H:Row W2 wr.heap.size 71 #[.int .i64 x.seq,.int .i64 x.e.at_,.slice x.A x.e.fs.length x.c]:=by rw[b];exact Row.new wr _ _
    obtain⟨g2,J⟩:=Ab wr.heap.size;rw[<-J]at H;have r0:=H.cell 0 rfl;have r1:=H.cell 1 rfl;have r2:=H.cell 2 rfl;unfold Ev.val at a;obtain⟨seq,⟨at_,fs⟩,B,cB⟩:=x;change Z=(decide (la<seq)&&decide (seq<1099511627777)&&decide (checkE fs=0)&&ckD seq (dcs (ds.drop (i+1))))at j;simp only at x0 y0 h0 a b r0 r1 r2;obtain⟨fl,T⟩:=Ab fs.length;rw[<-T]at h0 a b H r2;replace a:=Aa a;replace H:=Aa H;replace J:=Aa J;replace Y:=Aa Y;replace b:=Aa b;replace T:=Aa T;replace hx:=Aa hx;replace U:=Aa U;clear hb;by_cases h1:seq<=la
    ·rw[decide_eq_false (by omega),Bool.false_and,Bool.false_and,Bool.false_and]at j;subst j;go_upto_region 7 with fail;rw[<-b.out,<-J.out];go_wp2_with fail;go_ret;exact⟨rfl,Y.out⟩
    ·by_cases h2:1099511627776<seq
     ·rw[decide_eq_false (p:=seq<1099511627777) (by omega),Bool.and_false,Bool.false_and,Bool.false_and]at j;subst j;go_upto_region 7 with fail;rw[<-b.out,<-J.out];go_wp2_with fail;go_ret;exact⟨rfl,Y.out⟩
     ·rw[decide_eq_true (p:=la<seq) (by omega),decide_eq_true (p:=seq<1099511627777) (by omega),Bool.true_and,Bool.true_and]at j;by_cases h3:checkE fs=0
      ·rw[decide_eq_true h3,Bool.true_and]at j;rw[h3]at a;replace j:=Aa j;go_upto_region 7 with fail;rw[<-b.out,<-J.out];go_wp2_with fail;refine a.out.mono ?_;rintro e w3 ⟨rfl,O⟩;have q0:=(H.out.ext O).cell 0 rfl;go_wp2_with fail;exact⟨⟨i+1,seq,rfl,rfl,by omega,j,Aa (Y.out.trans O)⟩,by simp only[intOf];omega⟩
      ·rw[decide_eq_false h3,Bool.false_and]at j;subst j;obtain⟨k,hk⟩:=Ab (checkE fs);rw[<-hk]at a h3;have e0:¬ (k:Int)=0:=by omega
       replace hk:=Aa hk;go_upto_region 7 with fail;rw[<-b.out,<-J.out];go_wp2_with fail;refine a.out.mono ?_;rintro e w3 ⟨rfl,O⟩;go_wp2_with fail;go_ret;exact⟨rfl,Y.out.trans O⟩
   ·obtain rfl:i=m:=by omega
    have m0:Z=true:=by rw[hb.out,List.drop_eq_nil_of_le (by rw[<-hm.out];exact Nat.le_refl _)];rfl
    subst m0;go_wp2_with fail;go_ret;exact⟨rfl,hE.out⟩
theorem MN {base n c:Nat} (h:Buf w base e A n c xs):A=none->c=0:=fun j=>by
 rcases h.2.2 with ⟨_,h⟩ | ⟨g,_,h,_⟩
 ·exact h
 ·rw[h]at j;cases j
theorem OQ (ds:List DocC) (A:Option Addr) (m c:Nat) (w:World) (hm:m=ds.length) (h:DocsOk w A ds) (o0:m<=1000000) :
 Calls prog 48 #[.slice A m c] w fun e w'=>NewB w (timesD 0 (dcs ds)) e w':=by
 have c0:=Aa (fun A n c x l W h1 h2 h3 h4 h5 h6=>EF A n c x l W h1 h2 h3 h4 h5 h6);have h0:∀i,(timesD 0 (dcs (ds.take i))).length<=10*i:=fun i=>by
  have:=Dx (dcs (ds.take i)) 0;have h2:(dcs (ds.take i)).length<=i:=by unfold dcs;rw[List.length_map,List.length_take];omega
  omega
 replace h0:=Aa h0;replace h:=Aa h;replace hm:=Aa hm
 go_in
 go_wp2_with fail
 go_loopw [3,4,9] (fun s3 s4 s9 wr=>∃(i n:Nat) (B:Option Addr) (k:Nat) (a:Int),s9 = .int .i64 (i:Int)/\s3 = .slice B n k/\s4 = .int .i64 a/\i<=m/\n<=10*i/\Hid (a=lastAt 0 (dcs (ds.take i)))/\Hid (n=(timesD 0 (dcs (ds.take i))).length)/\Hid (Buf wr w.heap.size 5 B n k ((timesD 0 (dcs (ds.take i))).map B8))/\Hid (Ext w wr)) (fun _ _ s9 _=>m - (intOf s9).toNat)
 case atStart=>exact⟨0,0,none,0,0,rfl,rfl,rfl,by omega,by omega,Aa rfl,Aa rfl,Aa (Buf.nil _ _ _),Aa (Ext.refl w)⟩
 case round =>
  obtain⟨i,n,B,k,a,rfl,rfl,rfl,hi,hn,ha,J,hB,hE⟩:=hrel;by_cases b0:i<m
  ·obtain⟨x,hx⟩:∃x,ds[i]? = some x:=⟨_,List.getElem?_eq_getElem (by rw[<-hm.out];exact b0)⟩
   have j0:=h.out.ext hE.out;obtain⟨g,o,hA,x0,x1,x2⟩:=AR j0.cells hx;subst hA;have U:dcs (ds.take (i+1))=dcs (ds.take i) ++ [x.dc]:=by rw[List.take_add_one,hx];unfold dcs;rw[List.map_append];rfl
   have I:lastAt 0 (dcs (ds.take (i+1)))=x.e.at_:=by rw[U,Ez];rfl
   have O:timesD 0 (dcs (ds.take (i+1)))=timesD 0 (dcs (ds.take i))++vb (zig (wrap64 (x.e.at_ - a))):=by
    rw[U,EI,<-ha.out];show _++(_ ++ [])=_;rw[List.append_nil];rfl
   obtain⟨d,hd⟩:=Ab (wrap64 (x.e.at_ - a));have Z:=Fw (x.e.at_ - a);rw[<-hd]at O Z;have k0:=h0.out (i+1);replace U:=Aa U;replace I:=Aa I;replace O:=Aa O;replace hx:=Aa hx;clear j0;go_wp2_with fail;obtain⟨W5,H⟩:=Ab (wr.alloc (Obj.cells #[Value.int IntKind.i64 x.seq,Value.int IntKind.i64 x.e.at_,Value.slice x.A x.e.fs.length x.c] 71));have T:Ext wr W5:=by rw[H];exact(Ext.refl wr).alloc _
   have r5:Row W5 wr.heap.size 71 #[Value.int IntKind.i64 x.seq,Value.int IntKind.i64 x.e.at_,Value.slice x.A x.e.fs.length x.c]:=by rw[H];exact Row.new wr _ _
   obtain⟨g5,G⟩:=Ab wr.heap.size;rw[<-H,<-G,<-hd];rw[<-G]at r5;have q0:=hB.out.ext T;refine(c0.out B n k d _ W5 J.out q0.cells (MN q0) (by omega) Z.1 Z.2).mono ?_;rintro e w6 ⟨A6,c6,rfl,j,b⟩;rw[<-O.out]at j ⊢;have r6:=r5.ext b;have y1:=r6.cell 1 rfl;have g0:w.heap.size<=W5.heap.size:=(hE.out.trans T).size;obtain⟨n6,Y⟩:=Ab ((timesD 0 (dcs (ds.take (i+1)))).length);rw[<-Y]at j k0 ⊢;replace Y:=Aa Y;replace j:=Aa (j.lower g0);replace b:=Aa (T.trans b);clear H G hd r5 r6;go_wp2_with fail;go_roundw
   case rel=>exact⟨i+1,n6,A6,c6,_,rfl,rfl,rfl,by omega,k0,Aa I.out.symm,Y,j,Aa (hE.out.trans b.out)⟩
   case measure=>simp only[intOf];omega
  ·have r0:m=i:=by omega
   have p0:ds.take i=ds:=List.take_of_length_le (by rw[<-hm.out];omega);rw[p0]at hB J;go_wp2_with fail;go_ret;exact⟨B,k,by rw[J.out];rfl,by rw[<-J.out];exact hB.out,hE.out⟩
def prtA:List Int->Array Value
 | [a,b,c,d,e]=>#[.int .i64 0,.int .i64 0,.int .i64 a,.int .i64 b,.int .i64 c,.int .i64 d,.int .i64 e]
 | _=>#[]
theorem E5:∀(l:List Dc) (m:Int),I64ok' m->(∀d∈l,I64ok' d.2.at_)->I64ok' (lowD m l)
 | [],m,j,_=>j
 | d::t,m,j,h=>by
  have h1:=h d (List.mem_cons_self ..);refine E5 t _ ?_ fun x b=>h x (List.mem_cons_of_mem _ b);unfold I64ok' at *;omega
theorem Ea:∀(l:List Dc) (m:Int),I64ok' m->(∀d∈l,I64ok' d.2.at_)->I64ok' (highD m l)
 | [],m,j,_=>j
 | d::t,m,j,h=>by
  have h1:=h d (List.mem_cons_self ..);refine Ea t _ ?_ fun x b=>h x (List.mem_cons_of_mem _ b);unfold I64ok' at *;omega
theorem IH:∀(l:List Dc) (d:Dc),lastD d.1 l=((d::l)[l.length]?.map (·.1)).getD 0
 | [],d=>rfl
 | p::t,d=>by
  show lastD p.1 t=_;rw[IH t p];rfl
theorem C7 {ds:List DocC} {x0 xl:DocC} (b:m=ds.length) (h:ds[0]? = some x0) (j:ds[m - 1]? = some xl):partD (dcs ds) = [lowD x0.e.at_ (dcs ds),highD x0.e.at_ (dcs ds),x0.seq,xl.seq,(m:Int)]:=by
 cases ds with
 | nil=>simp at h
 | cons y t =>
  obtain rfl:y=x0:=by simpa using h
  have h1:=IH (dcs t) y.dc;have hk:(dcs t).length=t.length:=by unfold dcs;rw[List.length_map]
  have h2:(y.dc::dcs t)[t.length]? = some xl.dc:=by
   show (dcs (y::t))[t.length]? = _;unfold dcs;rw[List.getElem?_map];rw[b,List.length_cons,Nat.add_sub_cancel]at j;rw[j];rfl
  rw[hk,h2]at h1;show [lowD y.e.at_ (dcs (y::t)),highD y.e.at_ (dcs (y::t)),y.seq,lastD y.dc.1 (dcs t),((dcs (y::t)).length:Int)]=_;rw[h1];have a:(dcs (y::t)).length=m:=by rw[b];unfold dcs;rw[List.length_map]
  rw[a];rfl
theorem Fa {fn:Func} {p:Tmp} (h:fn.results=#[.cell p ty]) (tmps:Array Value) (w:World) (g:Nat) (cs:Array Value)
 (j:tmps.getD p undef = .pointer (some ⟨g,0,none⟩)) (b:(loadVar ty ⟨g,0,none⟩).run P w = .ok (.agg cs) w) :
 (results fn tmps).run P w = .ok (.agg cs) w:=by
 rw[Array.getD_eq_getD_getElem?]at j;simp only[results,h];simp[Sem.run_bind,Result.andThen,j,asAddr,b]
theorem K4 (ds:List DocC) (A:Option Addr) (m c:Nat) (w:World) (hm:m=ds.length) (h:DocsOk w A ds) (k2:m<=1000000) (h0:0<m) :
 Calls prog 46 #[.slice A m c] w fun e w'=>e = .returned (.agg (prtA (partD (dcs ds))))/\Ext w w':=by
 obtain⟨x0,I⟩:∃x,ds[0]? = some x:=⟨_,List.getElem?_eq_getElem (by omega)⟩
 obtain⟨xl,q0⟩:∃x,ds[m - 1]? = some x:=⟨_,List.getElem?_eq_getElem (by omega)⟩
 obtain⟨g,o,hA,a0,a1,a2⟩:=AR h.cells I;obtain⟨g',o',b,b0,b1,b2⟩:=AR h.cells q0;rw[hA]at b;injection b with b;injection b with hg ho;subst hg;subst ho;rw[Nat.zero_mul,Nat.add_zero]at a0 a1 a2;have a:partD (dcs ds) = [lowD x0.e.at_ (dcs ds),highD x0.e.at_ (dcs ds),x0.seq,xl.seq,(m:Int)]:=C7 hm I q0;subst hA;replace h:=Aa h;replace hm:=Aa hm;replace I:=Aa I;replace q0:=Aa q0;obtain⟨k,hk⟩:∃k,m=k+1:=⟨m - 1,by omega⟩
 subst hk;rw[show k+1 - 1=k by omega]at b0 b1 b2;have p0:∀d∈dcs ds,I64ok' d.2.at_:=fun d hd=>by
  unfold dcs at hd;obtain⟨x,hx,rfl⟩:=List.mem_map.1 hd;exact(h.out.each x hx).2.1
 replace p0:=Aa p0;replace a:=Aa a
 go_in
 go_wp2_with fail;obtain⟨W1,Y⟩:=Ab (w.alloc (Obj.cells #[Value.int IntKind.i64 0,Value.int IntKind.i64 0,Value.int IntKind.i64 0,Value.int IntKind.i64 0,Value.int IntKind.i64 0,Value.int IntKind.i64 0,Value.int IntKind.i64 0] 79));rw[<-Y];have H:Ext w W1:=by rw[Y];exact(Ext.refl w).alloc _
 have r1:Row W1 w.heap.size 79 #[Value.int IntKind.i64 0,Value.int IntKind.i64 0,Value.int IntKind.i64 0,Value.int IntKind.i64 0,Value.int IntKind.i64 0,Value.int IntKind.i64 0,Value.int IntKind.i64 0]:=by rw[Y];exact Row.new w _ _
 have c1:=H.cell a1;have c0:=H.cell a0;have d0:=H.cell b0;replace Y:=Aa Y;refine AE (fun K hK=>?_);go_wp2_with fail;refine⟨by kernel_rfl,?_⟩;go_wp2_with fail;obtain⟨W2,J⟩:=Ab ((W1.alloc (Obj.cells #[Value.int IntKind.i64 0,Value.int IntKind.i64 0,Value.int IntKind.i64 x0.e.at_,Value.int IntKind.i64 x0.e.at_,Value.int IntKind.i64 x0.seq,Value.int IntKind.i64 xl.seq,Value.int IntKind.i64 ((k:Int)+1)] 79)).drew);rw[<-J];obtain⟨b1,O⟩:=Ab w.heap.size;obtain⟨b2,T⟩:=Ab W1.heap.size;have l0:Ext W1 W2:=by rw[J];exact((Ext.refl W1).alloc _).drew
 have r2:Row W2 b2 79 #[Value.int IntKind.i64 0,Value.int IntKind.i64 0,Value.int IntKind.i64 x0.e.at_,Value.int IntKind.i64 x0.e.at_,Value.int IntKind.i64 x0.seq,Value.int IntKind.i64 xl.seq,Value.int IntKind.i64 ((k:Int)+1)]:=by rw[J,T];exact Row.new W1 _ _
 have r12:=r1.ext l0;rw[<-O]at r12;have o1:b1<b2:=by have:=r1.lt;omega
 rw[<-O,<-T];have hE:=Aa (H.trans l0);replace r2:=Aa r2;replace r12:=Aa r12;replace J:=Aa J;replace O:=Aa O;replace T:=Aa T;clear r1 c0 c1 d0
 go_loopw [32] (fun s32 wr=>∃(i:Nat) (lo hi:Int),s32 = .int .i64 (i:Int)/\i<=k+1/\Hid (lo=lowD x0.e.at_ (dcs (ds.take i)))/\Hid (hi=highD x0.e.at_ (dcs (ds.take i)))/\Hid (Row wr b2 79 #[Value.int IntKind.i64 0,Value.int IntKind.i64 0,Value.int IntKind.i64 lo,Value.int IntKind.i64 hi,Value.int IntKind.i64 x0.seq,Value.int IntKind.i64 xl.seq,Value.int IntKind.i64 ((k:Int)+1)])/\Hid (Row wr b1 79 #[Value.int IntKind.i64 0,Value.int IntKind.i64 0,Value.int IntKind.i64 0,Value.int IntKind.i64 0,Value.int IntKind.i64 0,Value.int IntKind.i64 0,Value.int IntKind.i64 0])/\Hid (Ext w wr)) (fun s32 _=>k+1 - (intOf s32).toNat)
 case atStart=>exact⟨0,x0.e.at_,x0.e.at_,rfl,by omega,Aa rfl,Aa rfl,r2,r12,hE⟩
 case round =>
  obtain⟨i,lo,hi,rfl,h2,m0,g0,q2,q1,hE⟩:=hrel;by_cases d1:i<k+1
  ·obtain⟨x,hx⟩:∃x,ds[i]? = some x:=⟨_,List.getElem?_eq_getElem (by rw[<-hm.out];exact d1)⟩
   obtain⟨g',o',b,x0',x1',x2'⟩:=AR (h.out.ext hE.out).cells hx;injection b with b;injection b with hg ho;subst hg;subst ho;have G:dcs (ds.take (i+1))=dcs (ds.take i) ++ [x.dc]:=by rw[List.take_add_one,hx];unfold dcs;rw[List.map_append];rfl
   have h1:Hid (min lo x.e.at_=lowD x0.e.at_ (dcs (ds.take (i+1)))):=Aa (by rw[G,GY,<-m0.out];rfl);have r0:Hid (max hi x.e.at_=highD x0.e.at_ (dcs (ds.take (i+1)))):=Aa (by rw[G,FE,<-g0.out];rfl);replace G:=Aa G;replace hx:=Aa hx;have j1:=q2.out.lt;have k1:=q1.out.lt;go_wp2_with fail;obtain⟨W5,U⟩:=Ab (wr.alloc (Obj.cells #[Value.int IntKind.i64 x.seq,Value.int IntKind.i64 x.e.at_,Value.slice x.A x.e.fs.length x.c] 71));have k0:Ext wr W5:=by rw[U];exact(Ext.refl wr).alloc _
   have r5:Row W5 wr.heap.size 71 #[Value.int IntKind.i64 x.seq,Value.int IntKind.i64 x.e.at_,Value.slice x.A x.e.fs.length x.c]:=by rw[U];exact Row.new wr _ _
   obtain⟨g5,Z⟩:=Ab wr.heap.size;rw[<-U,<-Z];rw[<-Z]at r5;have p2:=q2.out.ext k0;have v2:=p2.cell 2 rfl;have v3:=p2.cell 3 rfl;have f2:=p2.free 2;have f3:=p2.free 3;have u1:=r5.cell 1 rfl;have j2:g5≠b2:=by omega
   replace p2:=Aa p2;replace r5:=Aa r5;replace U:=Aa U;replace Z:=Aa Z;clear x0' x1' x2' k1 j1;go_region;have y1:∀g t cs,g≠b2->Row W5 g t cs->Row (((W5.setCell ⟨b2,2,none⟩ (.int .i64 (min lo x.e.at_))).setCell ⟨b2,3,none⟩ (.int .i64 (max hi x.e.at_))).drew) g t cs:=fun g t cs hg hr=>(hr.away (p:=⟨b2,2,none⟩) hg _).away (p:=⟨b2,3,none⟩) hg _;have o0:w.heap.size<=b2:=by rw[T.out];exact H.size
   have j0:Ext w (((W5.setCell ⟨b2,2,none⟩ (.int .i64 (min lo x.e.at_))).setCell ⟨b2,3,none⟩ (.int .i64 (max hi x.e.at_))).drew):=(((hE.out.trans k0).setCell (p:=⟨b2,2,none⟩) o0 _).setCell (p:=⟨b2,3,none⟩) o0 _).drew;have p9:Row (((W5.setCell ⟨b2,2,none⟩ (.int .i64 (min lo x.e.at_))).setCell ⟨b2,3,none⟩ (.int .i64 (max hi x.e.at_))).drew) b2 79 #[Value.int IntKind.i64 0,Value.int IntKind.i64 0,Value.int IntKind.i64 (min lo x.e.at_),Value.int IntKind.i64 (max hi x.e.at_),Value.int IntKind.i64 x0.seq,Value.int IntKind.i64 xl.seq,Value.int IntKind.i64 ((k:Int)+1)]:=(p2.out.put 2 _).put 3 _;have q19:=y1 b1 _ _ (by omega) (q1.out.ext k0);replace j0:=Aa j0;replace p9:=Aa p9;replace q19:=Aa q19;go_wp2_with fail;go_roundw
   case rel=>exact⟨i+1,_,_,rfl,by omega,h1,r0,p9,q19,j0⟩
   case measure=>simp only[intOf];omega
  ·have n0:ds.take i=ds:=List.take_of_length_le (by rw[<-hm.out];omega);rw[n0]at m0 g0;have v0:=q2.out.cell 0 rfl;have v1:=q2.out.cell 1 rfl;have v2:=q2.out.cell 2 rfl;have v3:=q2.out.cell 3 rfl;have v4:=q2.out.cell 4 rfl;have v5:=q2.out.cell 5 rfl;have v6:=q2.out.cell 6 rfl;have f0:=q1.out.free 0;have f1:=q1.out.free 1;have f2:=q1.out.free 2;have f3:=q1.out.free 3;have f4:=q1.out.free 4;have f5:=q1.out.free 5;have f6:=q1.out.free 6;have t0:=q1.out.cell 0 rfl;have t1:=q1.out.cell 1 rfl;have t2:=q1.out.cell 2 rfl;have t3:=q1.out.cell 3 rfl;have t4:=q1.out.cell 4 rfl;have t5:=q1.out.cell 5 rfl;have t6:=q1.out.cell 6 rfl;go_wp2_with fail;have j:w.heap.size<=b1:=by rw[O.out];exact Nat.le_refl _
   have e1:=((((((q1.out.put 0 (.int .i64 0)).put 1 (.int .i64 0)).put 2 (.int .i64 lo)).put 3 (.int .i64 hi)).put 4 (.int .i64 x0.seq)).put 5 (.int .i64 xl.seq)).put 6 (.int .i64 ((k:Int)+1));have x1:=((((((hE.out.setCell (p:=⟨b1,0,none⟩) j (.int .i64 0)).setCell (p:=⟨b1,1,none⟩) j (.int .i64 0)).setCell (p:=⟨b1,2,none⟩) j (.int .i64 lo)).setCell (p:=⟨b1,3,none⟩) j (.int .i64 hi)).setCell (p:=⟨b1,4,none⟩) j (.int .i64 x0.seq)).setCell (p:=⟨b1,5,none⟩) j (.int .i64 xl.seq)).setCell (p:=⟨b1,6,none⟩) j (.int .i64 ((k:Int)+1));refine bodyPost_ret (Fa rfl _ _ b1 #[.int .i64 0,.int .i64 0,.int .i64 lo,.int .i64 hi,.int .i64 x0.seq,.int .i64 xl.seq,.int .i64 ((k:Int)+1)] rfl (run_loadVar_row _ b1 79 79 _ (0,0) _ e1 underlying79 rfl (by kernel_rfl))) rfl ⟨?_,x1⟩;rw[a.out,<-m0.out,<-g0.out];rfl
def IterS {α:Type} (P:Program) (gf:Nat) (lb:Array Value) (encs:α->Array Value) (St:World->World->World->Prop) (Nx:List α->α->World->Prop) (Kp:World->World->Prop) (Fin:List α->World->World->Prop) (w:World):Prop :=
 ∀(l:Nat) (J:List α->World->Prop) (W:World),Ext w W->(∀pre A B,J pre A->St W A B->J pre B) ->
  (∀pre x W1,J pre W1->Nx pre x W1->YieldAt Fence.wide 0 P l (encs x) W1 fun e W'=>e = .returned (.bool true)/\J (pre ++ [x]) W'/\Kp W1 W'/\KeepsOthers W1 W')->J [] W ->
  Calls P gf (#[.func (.yield l) #[] #[]]++lb) W fun e W'=>(∃v,e = .returned v)/\∃xs W2,J xs W2/\Fin xs W2 W'
theorem Md {α:Type} {g:Operand} {ps:Array Tmp} {assign body:Code} {a:Act}
 (hg:a.eval g = .func (.func gf) #[] lb) (eg:∀args w,(callFunc gf args).run P w = .ok (.enter gf args) w)
 {encs:α->Array Value} {St:World->World->World->Prop} {Nx:List α->α->World->Prop} {Kp:World->World->Prop} {Fin:List α->World->World->Prop} (o0:IterS P gf lb encs St Nx Kp Fin w)
 (x1:∀x,(encs x).size=ps.size) (b0:∀W A B,St W A B->∀k o,k<W.heap.size->A.heap[k]? = some o->o.isCells=false->B.heap[k]? = some o) (G:∀xs A B,Fin xs A B->KeepsOthers A B)
 (p0:∀A B C,Kp A B->Kp B C->Kp A C) (x0:∀A B,Alike w.heap.size A B->Kp A B)
 (I:List α->World->Prop) (hI:∀pre A B,I pre A->Alike w.heap.size A B->I pre B) (e0:∀W pre A B,Ext w W->I pre A->St W A B->I pre B) (h0:∀W,Alike w.heap.size w W->I [] W)
 (Z:∀(l:Nat) (pre:List α) (x:α) (W:World),I pre W->Nx pre x W->assign.wpIn (Fence.wide.inRound l) 0 P (Exit.then (roundGo w.heap.size P l body Kp I (pre ++ [x]) W) (fun _ _ _=>False)) { tmps:=(ps.zip (encs x)).foldl (fun t (p,v)=>t.setIfInBounds p v) a.tmps,defers:= [] } W)
 (j0:∀(D:Nat) (xs:List α) (W2 W3 W4:World),w.heap.size<=D->I xs W2->Fin xs W2 W3->Alike w.heap.size W3 W4->W4.heap[D]? = some (.deferred (some []))->Q .normal { a with defers:= { target:= .collected D,args:=#[] }::a.defers } W4) :
 (Code.rangeFunc g ps assign body).wpIn Fence.wide 0 P Q a w:=by
 refine wpIn_rangeFunc ?_;intro fn l0;show ∃_,_;obtain⟨rec,j⟩:=Ab (fun st pe=> { state:=st,pending:=pe,fn,tmps:=a.tmps,params:=ps,assign,body,defers:=w.heap.size }:LoopState->Option Code->Loop);obtain⟨W1,J⟩:∃W1,(w.alloc (.deferred (some []))).alloc (.loop (rec .ready none))=W1:=⟨_,rfl⟩
 have y0:W1.heap[w.heap.size+1]? = some (.loop (rec .ready none)):=by
  rw[<-J];have:=World.alloc_heap_new (w.alloc (.deferred (some []))) (.loop (rec .ready none));rwa [World.size_alloc]at this
 have v0:W1.heap[w.heap.size]? = some (.deferred (some [])):=by
  rw[<-J];exact(Below.heap_alloc _ _ _ (by simp)).trans (World.alloc_heap_new w _)
 have q0:Ext w W1:=by rw[<-J];exact((Ext.refl w).alloc _).alloc _
 refine⟨w.heap.size+1,[{ target:= .collected w.heap.size,args:=#[] }],W1,{ target:= .fn (.func gf) lb,args:=#[.func (.yield (w.heap.size+1)) #[] #[]] },W1,gf,
  #[.func (.yield (w.heap.size+1)) #[] #[]]++lb,W1,?_,?_,?_,?_,fun h=>(by cases h),?_⟩
 ·rw[<-J,j];exact run_enterLoop_outer _ _ _ _ _
 ·simp only[resolve,hg];simp[go_sem]
 ·intro f' _;trivial
 ·simp[invoke,go_sem,eg]
 ·refine callsIn_wide.2 ((o0 (w.heap.size+1)
   (fun pre W=>I pre W/\W.heap[w.heap.size+1]? = some (.loop (rec .ready none))/\W.heap[w.heap.size]? = some (.deferred (some [])))
   W1 q0 (fun pre A B h hs=>⟨e0 W1 pre A B q0 h.1 hs,b0 W1 A B hs _ _ (Array.getElem?_eq_some_iff.1 y0).1 h.2.1 rfl,b0 W1 A B hs _ _ (Array.getElem?_eq_some_iff.1 v0).1 h.2.2 rfl⟩)
   ?_ ⟨h0 W1 (Chg.of_ext q0 _),y0,v0⟩).mono ?_)
  ·rintro pre x W ⟨hi,hl,hk⟩ j1;have h2:w.heap.size+1<W.heap.size:=(Array.getElem?_eq_some_iff.1 hl).1;have hy:=run_yield (P:=P) (args:=encs x) hl (by rw[j];exact x1 x);rw[j]at hy;refine⟨fn,_,assign,body,hy,roundIn_of_wpIn l0 ?_⟩;refine wpIn_mono (Z _ pre x W hi j1) ?_;rintro e a1 W2 Y;cases e with
   | normal =>
    obtain⟨O,q1,k0⟩:=Y;have b:=O.same _ _ hl rfl;have g0:=O.same _ _ hk rfl;have d0:w.heap.size+1<W2.heap.size:=(Array.getElem?_eq_some_iff.1 b).1;refine⟨W2.putObj (w.heap.size+1) (.loop { rec .ready none with state:= .busy }),run_beginRound b (by rw[j]),?_⟩;have ha:=Alike.others (B:=w.heap.size) b rfl (by omega) (.loop { rec .ready none with state:= .busy });have k1:(W2.putObj (w.heap.size+1) (.loop { rec .ready none with state:= .busy })).heap[w.heap.size+1]? = some (.loop { rec .ready none with state:= .busy }):=World.putObj_heap_same d0;have r0:(W2.putObj (w.heap.size+1) (.loop { rec .ready none with state:= .busy })).heap[w.heap.size]? = some (.deferred (some [])):=(World.putObj_heap_other (by omega)).trans g0;refine wpIn_mono (k0 _ ha) ?_;rintro e a3 W3 hp;cases e with
    | normal =>
     obtain⟨H,c0,n0⟩:=hp;have T:=H.same _ _ k1 rfl;have h1:=H.same _ _ r0 rfl;have hr:=run_endRound (P:=P) none T;rw[j]at hr;have U:=Alike.others (B:=w.heap.size) T rfl (by omega) (.loop (rec .ready none));rw[j]at U;refine⟨_,_,hr,rfl,⟨hI _ _ _ n0 U,?_,?_⟩,p0 _ _ _ (p0 _ _ _ q1 (x0 _ _ ha)) (p0 _ _ _ c0 (x0 _ _ U)),?_⟩
     ·rw[j];exact World.putObj_heap_same (Array.getElem?_eq_some_iff.1 T).1
     ·exact(World.putObj_heap_other (by omega)).trans h1
     ·refine⟨Nat.le_trans O.size (Nat.le_trans ha.size (Nat.le_trans H.size U.size)),fun q o ho hc=>?_⟩;by_cases Y:q=w.heap.size+1
      ·subst Y;rw[hl,j]at ho;rw[<-ho];exact World.putObj_heap_same (Array.getElem?_eq_some_iff.1 T).1
      ·refine(World.putObj_heap_other Y).trans (H.same q o ?_ hc);exact(World.putObj_heap_other Y).trans (O.same q o ho hc)
    | ret=>exact hp.elim
    | exit id=>exact hp.elim
    | goto t=>exact hp.elim
    | panic ch=>exact hp.elim
    | outgrown=>exact hp.elim
   | ret=>exact Y.elim
   | exit id=>exact Y.elim
   | goto t=>exact Y.elim
   | panic ch=>exact Y.elim
   | outgrown=>exact Y.elim
  ·rintro e W2 ⟨⟨v,rfl⟩,xs,W3,⟨hi,hl,hk⟩,hf⟩;have b:=(G _ _ _ hf).same _ _ hl rfl;have g0:=(G _ _ _ hf).same _ _ hk rfl;refine⟨none,_,by have:=run_endLoop (P:=P) b (by rw[j];simp);rw[j]at this;exact this,j0 _ xs W3 W2 _ (Nat.le_refl _) hi hf ?_ ((World.putObj_heap_other (by omega)).trans g0)⟩;rw[j]at b;exact Alike.others b rfl (by omega) _
end
section
open Go.RowKit
attribute [local go_sem] Oper.semAt_some AP Cp
def NewTm (w:World) (R:List (List UInt8×List Int)) (e:Ending) (w':World):Prop :=
 ∃L c D,e = .returned (.slice L D.length c)/\w'.ownsRow w.heap.size 157 2 (.slice L D.length c) D.length (tcs D)/\TmsOk w' w.heap.size D R/\Ext w w'
theorem OO (e:Ev) (A:Option Addr) (c:Nat) (w:World) (h:e.Ok w A) :
 Calls prog 81 #[e.val A c] w (NewTm w (termsL e)):=by
 have a3:=Aa (fun W (hE:Ext w W)=>Dj e A c W (h.ext hE));have y2:termsL e=if checkE e.fs=0 then grp (rawT 0 e.fs) else []:=rfl;have b3:=@AM e.fs;obtain⟨T,hT⟩:=Ab (termsL e);rw[<-hT]at y2 ⊢;obtain⟨at_,fs⟩:=e;have h5:=h.cells;unfold Ev.val at a3 ⊢;simp only at y2 a3 b3 h5 ⊢;obtain⟨z,hz⟩:=Ab (checkE fs);rw[<-hz]at y2 a3 b3;obtain⟨n,hn⟩:=Ab fs.length;rw[<-hn]at a3 b3 ⊢;replace y2:=Aa y2;replace b3:=Aa b3;replace h5:=Aa h5;replace hz:=Aa hz;replace hn:=Aa hn;clear h hT;refine(callsIn_wide (n:=0)).1 ?_;refine callsIn_of_wp_marks func81 rfl trivial ?_;simp only[ntmps81,List.size_toArray,List.length_cons,List.length_nil,Nat.reduceAdd,Nat.reduceSub,Array.replicate_succ,Array.replicate_zero,List.push_toArray,List.append_toArray,List.nil_append,List.cons_append];gi_wp2_with fail;obtain⟨W0,o3⟩:=Ab (w.alloc (Obj.cells #[.int .i64 at_,.slice A n c] 69));rw[<-o3];have l5:Ext w W0:=by rw[o3];exact(Ext.refl w).alloc _
 refine(callsIn_wide.2 (a3.out W0 l5)).mono ?_;rintro e w1 ⟨rfl,j3⟩;have r0:Row w1 w.heap.size 69 #[.int .i64 at_,.slice A n c]:=by
  refine Row.ext ?_ j3;rw[o3];exact Row.new w _ _
 have k0:=r0.cell 0 rfl;have k1:=r0.cell 1 rfl;replace j3:=Aa (l5.trans j3);replace r0:=Aa r0;replace o3:=Aa o3;clear l5 a3;by_cases d6:z=0
 ·obtain⟨i9,g4⟩:=b3.out d6;subst d6;have hT:=y2.out;rw[if_pos rfl]at hT;replace hT:=Aa hT;have d9:=r0.out.lt;gi_wp2_with fail;obtain⟨W2,h4⟩:=Ab (w1.alloc (Obj.cells #[Value.slice none 0 0] 155));rw[<-h4];obtain⟨h1,t4⟩:=Ab w1.heap.size;have q1:Row W2 h1 155 #[.slice none 0 0]:=by rw[h4,t4];exact Row.new w1 _ _
  have n6:Ext w1 W2:=by rw[h4];exact(Ext.refl w1).alloc _
  rw[<-t4];replace h4:=Aa h4;replace t4:=Aa t4;refine(callsIn_wide.2 (Nk at_ A n c W2)).mono ?_;rintro e w4 ⟨b0,rfl,rb0,qa,o0⟩;have n5:Ext w w4:=(j3.out.trans n6).trans o0;have o5:TI w.heap.size h1 [] w w4:=⟨none,0,[],q1.ext o0,World.ownsRow_nil _ _ _ _,TmsOk.nil _ _,n5⟩
  have e0:w.heap.size<=w4.heap.size:=n5.size;have m5:=Lf at_ fs A n c b0 w.heap.size w w4 hn.out h5.out (Nat.le_refl _) n5 (by omega) (fun f hf=>by have:=g4 f hf;omega) rb0;have b9:w.heap.size<=h1:=by rw[t4.out];exact j3.out.size
  replace o5:=Aa o5;replace m5:=Aa m5;clear q1 n6 o0 rb0;gi_wp2_with fail;unfold BsIter at m5;have t6:∀b,baseT 0 (fs.take b)<=1000000000:=fun b=>by
   have:=EN (k:=4096) (fs.take b) 0 (fun f hf=>(g4 f (List.mem_of_mem_take hf)).2);have h2:(fs.take b).length<=16:=by rw[List.length_take,<-hn.out];omega
   omega
  replace t6:=Aa t6;refine C8 (gf:=172) (lb:=#[.pointer (some ⟨b0,0,none⟩)]) rfl (enters_of func172 (by kernel_rfl) rfl) m5.out (fun _=>rfl) (fun _ _ h=>h.others) (fun _ _ _ h=>h.2.others) (KpT.trans w.heap.size) (KpT.alike e0)
   (fun pre W=>TI w.heap.size h1 (rawT 0 (fs.take pre.length)) w W) (fun pre A B hi ha=>hi.alike ha e0) (fun pre A B hi hE=>hi.ext hE) ?h0 ?hround ?hdone
  case h0 =>
   intro W ha;have:=o5.out.alike ha e0;simpa [rawT]using this
  case hround =>
   rintro l pre ⟨bs,nm,tx⟩ W hI ⟨hf,r4⟩;simp only at hf r4;unfold fdV;simp only;have f8:=g4 _ (List.mem_of_getElem? hf);simp only at f8;have z7:=t6.out pre.length;rw[<-r4]at z7;have g9:=CK tx;have a1:rawT 0 (fs.take (pre ++ [(bs,nm,tx)]).length)=rawT 0 (fs.take pre.length)++fieldT bs (nm,tx):=by
    rw[List.length_append,List.length_singleton,List.take_add_one,hf,He,<-r4];simp[rawT]
   obtain⟨Z,hZ⟩:=Ab (rawT 0 (fs.take pre.length));rw[<-hZ]at hI a1;obtain⟨Y,hY⟩:=Ab (fieldT bs (nm,tx));rw[<-hY]at a1;have r9:Z.length<=65536:=by
    have:=CH (k:=4096) (fs.take pre.length) 0 (fun f hf=>(g4 f (List.mem_of_mem_take hf)).2);have h2:(fs.take pre.length).length<=16:=by rw[List.length_take,<-hn.out];omega
    rw[hZ];omega
   clear hZ r4 hf;replace a1:=Aa a1;obtain⟨nt,d3⟩:=Ab ((tokL tx).length);obtain⟨W5,q4⟩:=Ab (W.alloc (Obj.cells #[.string ⟨nm.toArray⟩,.string ⟨tx.toArray⟩] 91));have f0:Ext W W5:=by rw[q4];exact(Ext.refl W).alloc _
   have q5:Row W5 W.heap.size 91 #[.string ⟨nm.toArray⟩,.string ⟨tx.toArray⟩]:=by rw[q4];exact Row.new W _ _
   have d1:=Aa (fun W=>HL tx W (by omega));rw[<-d3]at g9;replace d3:=Aa d3;replace hY:=Aa hY;replace hI:=Aa hI;gi_wp2_with fail;rw[<-q4];obtain⟨g5,i1⟩:=Ab W.heap.size;rw[<-i1]at q5 ⊢;refine⟨f0.others,KpT.ext f0,fun W6 i5=>?_⟩;have e4:=(hI.out.ext f0).alike i5 e0;have r6:=i5.row q5;have y0:=r6.cell 0 rfl;have y1:=r6.cell 1 rfl;replace e4:=Aa e4;replace q4:=Aa q4;replace i1:=Aa i1;clear hI q5 f0 i5;gi_wp2_with fail;refine(Bb (d1.out W6)).mono ?_;rintro e w7 ⟨A7,c7,rfl,U,H⟩;rw[<-d3.out]at U ⊢;have x8:=Aa (e4.out.ext H);have q8:=Aa (fun(W:World) (h:KpT w.heap.size w7 W) (i:Nat) (x:List UInt8) (hx:(tokL tx)[i]? = some x)=>Si U (w1:=W) (fun g cs hr=>h.2 g _ cs (by decide) (by decide) hr) hx);replace U:=Aa U;have r7:=Aa (r6.ext H);clear y0 y1 e4;gi_wp2_with fail
   gi_loopw [23] (fun s23 wr=>∃(i:Nat),s23 = .int .i64 (i:Int)/\i<=nt/\Hid (TI w.heap.size h1 (Z++Y.take i) w wr)/\Hid (KpT w.heap.size w7 wr)/\Hid (KeepsOthers w7 wr)) (fun s23 _=>nt - (intOf s23).toNat)
   case atStart=>exact⟨0,rfl,by omega,by rw[List.take_zero,List.append_nil];exact x8,Aa (KpT.ext (Ext.refl _)),Aa (KeepsOthers.refl _)⟩
   case round =>
    obtain⟨i,rfl,hi,q6,f4,k7⟩:=hrel;by_cases j5:i<nt
    ·obtain⟨wd,c4⟩:∃wd,(tokL tx)[i]? = some wd:=⟨_,List.getElem?_eq_getElem (by rw[<-d3.out];exact j5)⟩
     obtain⟨g7,o7,t8,x0,x1⟩:=q8.out wr f4.out i wd c4;subst t8;obtain⟨L,cl,D,r3,G,q3,m0⟩:=q6.out;have r5:=f4.out.2 _ _ _ (by decide) (by decide) r7.out;have z0:=r5.cell 0 rfl;have z3:=r3.cell 0 rfl;have e9:=r3.lt;have f9:=r5.lt;replace r3:=Aa r3;replace r5:=Aa r5;replace G:=Aa G;replace q3:=Aa q3;replace m0:=Aa m0;have ja:D.length<=100000:=by
      have:=q3.out.len;unfold oneT at this;rw[List.length_map,List.length_append,List.length_take]at this;omega
     have k6:Y[i]? = some (nm++58::wd,((bs+i:Nat):Int)):=by rw[hY.out];exact Iv c4
     replace k6:=Aa k6;have ta:=FU (List.mem_of_getElem? c4);replace c4:=Aa c4;have j6:(Z++Y.take (i+1))=(Z++Y.take i) ++ [(nm++58::wd,((bs+i:Nat):Int))]:=by rw[List.take_add_one,k6.out,List.append_assoc];rfl
     replace j6:=Aa j6;obtain⟨S,hS⟩:=Ab (nm++58::wd);have j4:ByteArray.mk nm.toArray++ByteArray.mk #[58]++ByteArray.mk wd.toArray=⟨S.toArray⟩:=by
      have h1:=Jg nm [58];have h2:=Jg (nm ++ [58]) wd;rw[hS,h1,h2];simp
     obtain⟨Wb,y3⟩:=Ab ((wr.alloc (Obj.cells #[Value.string ⟨wd.toArray⟩,Value.int IntKind.i64 (i:Int)] 207)).alloc (Obj.cells #[Value.int IntKind.i64 ((bs:Int)+(i:Int))] 3));obtain⟨Wa,x3⟩:=Ab (Wb.alloc (Obj.cells #[Value.string ⟨S.toArray⟩,Value.slice (some ⟨wr.heap.size+1,0,none⟩) 1 1] 157));have o6:Ext wr Wb:=by rw[y3];exact((Ext.refl wr).alloc _).alloc _
     have f5:Wb.heap.size=wr.heap.size+2:=by rw[y3];simp
     have i0:Ext wr Wa:=by rw[x3];exact o6.alloc _
     have qi:Row Wb (wr.heap.size+1) 3 #[Value.int IntKind.i64 ((bs:Int)+(i:Int))]:=by
      rw[y3];have:=Row.new (wr.alloc (Obj.cells #[Value.string ⟨wd.toArray⟩,Value.int IntKind.i64 (i:Int)] 207)) 3 #[Value.int IntKind.i64 ((bs:Int)+(i:Int))]
      rwa [World.size_alloc]at this
     have qi2:Row Wa (wr.heap.size+1) 3 #[Value.int IntKind.i64 ((bs:Int)+(i:Int))]:=by rw[x3];exact qi.alloc _
     have a6:Cells Wa (some ⟨wr.heap.size+2,0,none⟩) (tcell (S,some ⟨wr.heap.size+1,0,none⟩,1,1)):=by
      have:=AN Wb [Value.string ⟨S.toArray⟩,Value.slice (some ⟨wr.heap.size+1,0,none⟩) 1 1] 157;rw[f5]at this;rw[x3];exact this
     have j0:=i0.owns G.out;have h8:w.heap.size<=Wa.heap.size:=(m0.out.trans i0).size;replace qi2:=Aa qi2;replace a6:=Aa a6;replace j0:=Aa j0;replace i0:=Aa i0;have t7:Hid (((wr.alloc (Obj.cells #[Value.string ⟨wd.toArray⟩,Value.int IntKind.i64 (i:Int)] 207)).alloc (Obj.cells #[Value.int IntKind.i64 ((bs:Int)+(i:Int))] 3)).alloc (Obj.cells #[Value.string (ByteArray.mk nm.toArray++ByteArray.mk #[58]++ByteArray.mk wd.toArray),Value.slice (some ⟨wr.heap.size+1,0,none⟩) 1 1] 157)=Wa):=Aa (by rw[x3,y3,j4]);replace x3:=Aa x3;replace y3:=Aa y3;replace j4:=Aa j4;clear qi o6 f5;have ogr:=Aa (fun(w6:World) (J:Wa.grownBy w6 (Value.slice L D.length cl).ownBlock)=>Jn j0.out J (r3.out.ext i0.out) (by decide));gi_wp2_with (gi_at_builtin;rw[t7.out];refine DA Lx j0.out a6.out (.tmp 27) (.tmp 40) rfl rfl rfl rfl rfl rfl (by simp[tcell,Value.oneCell']) (by omega) h8 (fun A1 c1 w6 v5 J f7=>?_);have r16:=ogr.out w6 J;have u1:=r16.cell 0 rfl;have u2:=r16.free 0;replace r16:=Aa r16;replace v5:=Aa v5;replace J:=Aa J;replace f7:=Aa f7);have j8:∀w0:World,w0.heap.size<=w.heap.size->Ext w0 wr->Ext w0 (w6.setCell ⟨h1,0,none⟩ (.slice A1 (D.length+1) c1)):=fun w0 h0 hE=>(CX j0.out J.out (hE.trans i0.out) h0).setCell (p:=⟨h1,0,none⟩) (by show w0.heap.size<=h1;omega) _;have e8:∀A n c xs,Buf wr w.heap.size 3 A n c xs->Buf (w6.setCell ⟨h1,0,none⟩ (.slice A1 (D.length+1) c1)) w.heap.size 3 A n c xs:=fun A n c xs hb=>by
      have q:=Ci j0.out J.out (hb.ext i0.out) (by decide);exact q.setCell (q.unlike r16.out (by decide)) _
     have m6:Buf (w6.setCell ⟨h1,0,none⟩ (.slice A1 (D.length+1) c1)) w.heap.size 3 (some ⟨wr.heap.size+1,0,none⟩) 1 1 ([((bs+i:Nat):Int)].map IV):=by
      have q0:Buf Wa w.heap.size 3 (some ⟨wr.heap.size+1,0,none⟩) 1 1 ([((bs+i:Nat):Int)].map IV):=⟨rfl,Nat.le_refl _,.inr ⟨_,_,rfl,by have:=m0.out.size;omega,qi2.out,by simp,by simp[IV]⟩⟩
      have q:=Ci j0.out J.out q0 (by decide);exact q.setCell (q.unlike r16.out (by decide)) _
     have j9:∀g t cs,t≠155->t≠157->Row wr g t cs->Row (w6.setCell ⟨h1,0,none⟩ (.slice A1 (D.length+1) c1)) g t cs:=fun g t cs n1 n2 hr=>by
      have q:=Jn j0.out J.out (hr.ext i0.out) n2;exact q.away (q.unlike r16.out n1) _
     have k9:(w6.setCell ⟨h1,0,none⟩ (.slice A1 (D.length+1) c1)).ownsRow w.heap.size 157 2 (.slice A1 (D.length+1) c1) (D.length+1) (tcs D++tcell (S,some ⟨wr.heap.size+1,0,none⟩,1,1)) :=
      (Chg.of_set (S:=fun k=>k=h1) w6 _ rfl).owns v5.out fun g hg i8=>by
       obtain⟨cur,hc,_⟩:=Ae v5.out hg;exact hc.unlike r16.out (by decide) i8
     have d7:(D ++ [(S,(some ⟨wr.heap.size+1,0,none⟩:Option Addr),1,1)]).length=D.length+1:=by rw[List.length_append];rfl
     refine⟨⟨i+1,by first | rfl | (congr 1;omega),by omega,Aa ⟨A1,c1,D ++ [(S,some ⟨wr.heap.size+1,0,none⟩,1,1)],?_,?_,?_,j8 w (Nat.le_refl _) m0.out⟩,Aa (KpT.trans _ _ _ _ f4.out ⟨j8,j9⟩),Aa (k7.out.trans ((i0.out.others.trans (FH j0.out J.out)).trans (KeepsOthers.setCell _ _ _)))⟩,by simp only[intOf];omega⟩
     ·rw[d7];exact r16.out.put 0 _
     ·rw[d7,DX];exact k9
     ·rw[j6.out,N2];exact q3.out.snoc e8 hS m6 (fun a ha=>by cases ha;show wr.heap.size<=wr.heap.size+1;omega)
    ·have b8:Y.take i=Y:=by
      rw[List.take_of_length_le];rw[hY.out,CB,<-d3.out];omega
     rw[b8,<-a1.out]at q6;gi_wp2_with fail;exact⟨(H.others).trans k7.out,KpT.trans _ _ _ _ (KpT.ext H) f4.out,q6.out⟩
  case hdone =>
   rintro Dm xs W2' W3 W4 hD hI ⟨h7,q7⟩ i6 hk;have p7:=(hI.ext q7).alike i6 e0;rw[h7,List.take_length]at p7;obtain⟨L,cl,D,r3,G,b4,o0⟩:=p7;have v8:D.length<=65536:=by
    have h1:=b4.len;have h2:=CH (k:=4096) fs 0 (fun f hf=>(g4 f hf).2);unfold oneT at h1;rw[List.length_map]at h1;rw[<-hn.out]at h2;omega
   obtain⟨l4,o2,d4⟩:=b4.tz;have g0:=Mv w.heap.size L D.length cl D W4 G rfl (by omega);unfold cmpV at g0;obtain⟨n4,t5⟩:=Ab D.length;rw[<-t5]at g0 v8 G r3;have z3:=r3.cell 0 rfl;have y6:=o0.size;replace g0:=Aa g0;replace r3:=Aa r3;replace G:=Aa G;replace l4:=Aa l4;replace o2:=Aa o2;replace d4:=Aa d4;replace o0:=Aa o0;replace hk:=Aa hk;replace t5:=Aa t5;clear hI h7 q7 i6 b4;gi_wp2_with fail;refine(callsIn_wide.2 g0.out).mono ?_;rintro e w5 ⟨rfl,E,f2,i1,k3⟩;have d5:∀g t cs,t≠157->Row W4 g t cs->Row w5 g t cs:=fun g t cs ht hr=>k3.row hr fun hg=>by
    obtain⟨cur,hc,_⟩:=Ae G.out hg;exact hr.unlike hc ht rfl
   have x7:∀A n c xs,Buf W4 w.heap.size 3 A n c xs->Buf w5 w.heap.size 3 A n c xs:=fun A n c xs hb=>hb.chg k3 fun a ha hg=>by
    obtain⟨cur,hc,_⟩:=Ae G.out hg;exact hb.unlike hc (by decide) a ha rfl
   have f0:Ext w w5:=o0.out.chg k3 fun i hi hg=>by
    obtain⟨_,_,hl⟩:=Ae G.out hg;omega
   have j7:KeepsOthers W4 w5:=⟨k3.size,fun k o hk p9=>by
    refine(k3.block k (Array.getElem?_eq_some_iff.1 hk).1 fun hg=>?_).trans hk;obtain⟨cur,hc,_⟩:=Ae G.out hg;unfold Row at hc;rw[hc]at hk;injection hk with hk;subst hk;cases p9⟩
   have o8:=Aa (j7.same _ _ hk.out rfl);have r35:=d5 _ _ _ (by decide) r3.out;have z35:=r35.cell 0 rfl;have t3:E.length=n4:=by rw[t5.out];exact f2.2.len
   have j2:=f2.2.perm;have p6:TZ w5 w.heap.size (E.map fun x=>(x,(x.1,ptsOf W4 x.2))):=(l4.out.perm (j2.map _)).keep x7;have k2:∀x∈E,ptsOf W4 x.2 = [(ptsOf W4 x.2).headD 0]:=fun x hx=>o2.out x (j2.mem_iff.1 hx);have m4:(E.map fun x=>(x.1,(ptsOf W4 x.2).headD 0)).foldl joinS []=T:=by
    have h1:=(f2.stabM fun x=>(ptsOf W4 x).headD 0).grp;rw[h1,d4.out];exact hT.out.symm
   have f3:(E.map fun x=>(x.1,(ptsOf W4 x.2).headD 0)).length=n4:=by rw[List.length_map,t3]
   obtain⟨b5,j1⟩:=Ab w5.heap.size;have p3:w.heap.size<=b5:=by rw[j1];exact f0.size
   replace p6:=Aa p6;replace k2:=Aa k2;replace m4:=Aa m4;replace t3:=Aa t3;replace f3:=Aa f3;replace f0:=Aa f0;replace i1:=Aa i1;replace r35:=Aa r35;replace j1:=Aa j1;clear k3 d5 x7 j7 f2 j2 g0 l4 o2 d4 hk y6;gi_wp2_with fail
   gi_loopw [8,47] (fun s8 s47 wr=>∃(i m c:Nat) (O:Option Addr) (P:List TmP),s47 = .int .i64 (i:Int)/\s8 = .slice O m c/\i<=n4/\m<=i/\Hid (m=P.length)/\Hid (wr.ownsRow b5 157 2 (.slice O m c) m (tcs (P.map Prod.fst)))/\Hid (P.map Prod.snd=((E.map fun x=>(x.1,(ptsOf W4 x.2).headD 0)).take i).foldl joinS [])/\Hid (TZ wr w.heap.size (P++(E.map fun x=>(x,(x.1,ptsOf W4 x.2))).drop i))/\Hid (Ext w wr)/\Hid (∀g cs,g<b5->Row w5 g 157 cs->Row wr g 157 cs)/\Hid (KeepsOthers w5 wr)/\b5<=wr.heap.size) (fun _ s47 _=>n4 - (intOf s47).toNat)
   case atStart=>exact⟨0,0,0,none,[],rfl,rfl,by omega,by omega,Aa rfl,Aa (World.ownsRow_nil _ _ _ _),Aa rfl,Aa (by rw[List.drop_zero];exact p6.out),f0,Aa (fun _ _ _ h=>h),Aa (KeepsOthers.refl _),by rw[j1.out];exact Nat.le_refl _⟩
   case round =>
    obtain⟨i,m,c,O,P,rfl,rfl,hi,ka,v4,y4,i4,f1,m0,k5,x5,y7⟩:=hrel;by_cases j5:i<n4
    ·obtain⟨⟨ys,yA,yn,yc⟩,hy⟩:∃y,E[i]? = some y:=⟨_,List.getElem?_eq_getElem (by rw[t3.out];exact j5)⟩
     obtain⟨g,hL,pa,cs,a4,a7⟩:=i1.out (by omega);subst hL;have m2:=k5.out g cs (by rw[j1.out];exact a4.lt) a4;obtain⟨x0,x1⟩:=TR.at_ (w:=wr) (g:=g) (D:=E) ⟨cs,m2,a7⟩ hy;simp only at x0 x1;obtain⟨yz,b6⟩:=Ab ((ptsOf W4 (yA,yn,yc)).headD 0);have g8:ptsOf W4 (yA,yn,yc) = [yz]:=by rw[b6];exact k2.out _ (List.mem_of_getElem? hy)
     have e7:(E.map fun x=>(x,(x.1,ptsOf W4 x.2))).drop i=((ys,yA,yn,yc),(ys,[yz]))::(E.map fun x=>(x,(x.1,ptsOf W4 x.2))).drop (i+1):=by
      rw[List.drop_eq_getElem_cons (by rw[List.length_map,t3.out];exact j5),List.getElem_map];have:=(List.getElem?_eq_some_iff.1 hy).2;rw[this];simp only[g8]
     have d1:((E.map fun x=>(x.1,(ptsOf W4 x.2).headD 0)).take (i+1)).foldl joinS []=joinS (((E.map fun x=>(x.1,(ptsOf W4 x.2).headD 0)).take i).foldl joinS []) (ys,yz):=by
      rw[List.take_add_one,List.foldl_append,List.getElem?_map,hy,b6];rfl
     rw[e7]at f1;rw[<-i4.out]at d1;obtain⟨R,hR⟩:=Ab ((E.map fun x=>(x,(x.1,ptsOf W4 x.2))).drop (i+1));rw[<-hR]at f1;have i3:∀z∈P.map Prod.snd,z.2.length<=i:=fun z hz=>by
      rw[i4.out]at hz;have:=Kc _ [] 0 nofun z hz;rw[List.length_take]at this;omega
     replace i3:=Aa i3;replace hR:=Aa hR;replace d1:=Aa d1;replace hy:=Aa hy;replace m2:=Aa m2;clear e7 b6 g8 a4 a7 i4;rcases List.eq_nil_or_concat P with p0 | ⟨P0,x,p0⟩
     ·have q9:m=0:=by rw[v4.out,p0];rfl
      subst q9;have x4:Hid (joinS (P.map Prod.snd) (ys,yz)=P.map Prod.snd ++ [(ys,[yz])]):=Aa (by rw[p0];rfl);replace p0:=Aa p0;gi_wp2_with fail;obtain⟨W6,c0⟩:=Ab (wr.alloc (Obj.cells #[Value.string ⟨ys.toArray⟩,Value.slice yA yn yc] 157));rw[<-c0];obtain⟨g6,J⟩:=Ab wr.heap.size;have r6:Row W6 g6 157 #[Value.string ⟨ys.toArray⟩,Value.slice yA yn yc]:=by rw[c0,J];exact Row.new wr _ _
      rw[<-J];have I:Ext wr W6:=by rw[c0];exact(Ext.refl wr).alloc _
      have t0:=r6.cell 0 rfl;have t1:=r6.cell 1 rfl;replace r6:=Aa r6;replace I:=Aa I;replace c0:=Aa c0;replace J:=Aa J;refine wpIn_wide.2 (AE (fun K hK=>?_));go_wp2_with fail;refine⟨by kernel_rfl,?_⟩;obtain⟨W7,d0⟩:=Ab ((W6.alloc (Obj.cells #[Value.string ⟨ys.toArray⟩,Value.slice yA yn yc] 157)).drew);have H:Ext wr W7:=by rw[d0];exact(I.out.alloc _).drew
      have U:=H.owns y4.out;have a2:Cells W7 (some ⟨W6.heap.size,0,none⟩) (tcell (ys,yA,yn,yc)):=by rw[d0];exact AN W6 [Value.string ⟨ys.toArray⟩,Value.slice yA yn yc] _
      have k4:b5<=W7.heap.size:=Nat.le_trans y7 H.size;replace H:=Aa H;replace U:=Aa U;replace a2:=Aa a2;replace d0:=Aa d0;gi_wp2_with (gi_at_builtin;rw[<-d0.out];refine DA Lx U.out a2.out (.tmp 78) (.tmp 80) rfl rfl rfl rfl rfl rfl (by simp[tcell,Value.oneCell']) (by omega) k4 (fun A1 c1 w8 q2 j l0=>?_);replace q2:=Aa q2;replace j:=Aa j;replace l0:=Aa l0);have x2:∀g cs,g<b5->Row wr g 157 cs->Row w8 g 157 cs:=fun g cs n0 hr=>(hr.ext H.out).grown j.out fun h=>by obtain⟨_,_,hl⟩:=Ae U.out h.symm;omega
      refine⟨⟨i+1,_,c1,A1,P ++ [((ys,yA,yn,yc),(ys,[yz]))],by first | rfl | (congr 1;omega),rfl,by omega,by omega,Aa (by rw[List.length_append,<-v4.out];rfl),Aa ?_,Aa ?_,Aa ?_,Aa (CX U.out j.out (m0.out.trans H.out) p3),Aa (fun g cs n0 hr=>x2 g cs n0 (k5.out g cs n0 hr)),Aa (x5.out.trans (H.out.others.trans (FH U.out j.out))),Nat.le_trans k4 j.out.size⟩,by simp only[intOf];omega⟩
      ·rw[List.map_append,List.map_singleton,DX];exact q2.out
      ·rw[d1.out,x4.out,List.map_append,List.map_singleton]
      ·rw[List.append_assoc,<-hR.out];exact f1.out.keep fun A n c xs hb=>Ci U.out j.out (hb.ext H.out) (by decide)
     ·rw[List.concat_eq_append]at p0;have i7:m=P0.length+1:=by rw[v4.out,p0,List.length_append];rfl
      obtain⟨k,hk⟩:=Ab P0.length;rw[<-hk]at i7;subst i7;obtain⟨⟨xs',xA,xn,xc⟩,xk,xl⟩:=x;obtain⟨go,cur,z8,l8,h3,v0,v1⟩:=Qe y4.out (i:=k) (x:=(xs',xA,xn,xc)) (by rw[p0,List.map_append,List.getElem?_append_right (by rw[List.length_map];omega),List.length_map,hk,Nat.sub_self];rfl);subst z8;simp only at v0 v1;have n8:=h3.lt;have t9:xs'=xk:=(f1.out.each ((xs',xA,xn,xc),xk,xl) (by rw[p0];simp)).1;have o1:joinS (P.map Prod.snd) (ys,yz)=if xk=ys then P0.map Prod.snd ++ [(xk,xl ++ [yz])] else P.map Prod.snd ++ [(ys,[yz])]:=by
       rw[p0,List.map_append,List.map_singleton,GU]
      subst t9;replace h3:=Aa h3;replace hk:=Aa hk;replace p0:=Aa p0;gi_wp2_with fail;obtain⟨W6,c0⟩:=Ab (wr.alloc (Obj.cells #[Value.string ⟨ys.toArray⟩,Value.slice yA yn yc] 157));rw[<-c0];obtain⟨g6,J⟩:=Ab wr.heap.size;have r6:Row W6 g6 157 #[Value.string ⟨ys.toArray⟩,Value.slice yA yn yc]:=by rw[c0,J];exact Row.new wr _ _
      rw[<-J];have I:Ext wr W6:=by rw[c0];exact(Ext.refl wr).alloc _
      have t0:=r6.cell 0 rfl;have t1:=r6.cell 1 rfl;replace r6:=Aa r6;replace I:=Aa I;replace c0:=Aa c0;replace J:=Aa J;have u0:=I.out.cell v0;have u1:=I.out.cell v1;by_cases y5:xs'=ys
      ·subst y5;rw[if_pos rfl]at o1;replace o1:=Aa o1;refine wpIn_wide.2 (AE (fun K hK=>?_));go_wp2_with fail;refine⟨by kernel_rfl,?_⟩;gi_wp2_with fail;have d2:=f1.out;rw[p0.out,List.append_assoc,List.singleton_append]at d2;have v6:=(d2.each ((xs',xA,xn,xc),xs',xl) (by simp)).2;have x6:=(d2.each ((xs',yA,yn,yc),xs',[yz]) (by simp)).2;simp only at v6 x6;have v9:xl.length=xn:=by have:=v6.1;rwa [List.length_map]at this
       have va:xn<=i:=by
        have:=i3.out (xs',xl) (by rw[p0.out];simp);rw[<-v9];exact this
       have x9:1=yn:=by have:=x6.1;simpa using this
       subst x9;have m1:Hid (Buf W6.drew.drew w.heap.size 3 xA xn xc (xl.map IV)):=Aa (v6.ext I.out.drew.drew);have b7:Hid (Cells W6.drew.drew yA ([yz].map IV)):=Aa (x6.ext I.out.drew.drew).cells;have e5:Hid (Row W6.drew.drew go 157 cur):=Aa (h3.out.ext I.out.drew.drew);have k8:w.heap.size<=W6.drew.drew.heap.size:=(m0.out.trans I.out.drew.drew).size;have n7:Hid (W6.drew.drew.ownsRow b5 157 2 (.slice (some ⟨go,0,none⟩) (k+1) c) (k+1) (tcs (P.map Prod.fst))):=Aa (I.out.drew.drew.owns y4.out);have u19:=Aa (I.out.drew.drew.cell v1);refine wpIn_wide.2 (AE (fun K hK=>?_));go_wp2_with (at_builtin;refine Al FY m1.out b7.out (.tmp 72) (.tmp 74) rfl rfl rfl rfl rfl rfl (by simp[IV,Value.oneCell']) (by omega) k8 (fun A1 c1 w8 o4 j z6 l0=>?_);have r18:=Cu m1.out j e5.out (by decide);have v2:=r18.free (k*2+1);have v3:=(r18.get (k*2+1)).trans ((e5.out.get (k*2+1)).symm.trans u19.out);replace r18:=Aa r18;replace o4:=Aa o4;replace j:=Aa j;replace z6:=Aa z6;replace l0:=Aa l0);refine⟨by kernel_rfl,?_⟩;gi_wp2_with fail;have m3:=I.out.drew.drew;have h9:∀z∈P0++R,TmP.far z ((xs',xA,xn,xc),xs',xl)->TmP.ok wr w.heap.size z->TmP.ok (w8.setCell ⟨go,k*2+1,none⟩ (.slice A1 (xn+1) c1)) w.heap.size z:=fun z hz hf ho=>by
        have q:=Rs j.out (ho.2.ext m3) (fun p q hp hq=>hf p q hp hq);exact⟨ho.1,q.setCell (q.unlike r18.out (by decide)) _⟩
       have m6:Buf (w8.setCell ⟨go,k*2+1,none⟩ (.slice A1 (xn+1) c1)) w.heap.size 3 A1 (xn+1) c1 ((xl ++ [yz]).map IV):=by
        rw[List.map_append];exact o4.out.setCell (o4.out.unlike r18.out (by decide)) _
       have m7:=d2.join ((xs',A1,xn+1,c1),xs',xl ++ [yz]) h9 ⟨rfl,m6⟩ (by
        rcases l0.out with h | h
        ·exact .inl h
        ·exact .inr ⟨_,h,m3.size⟩)
       have z4:=M7 (Gr m1.out j.out n7.out (by decide)) (k*2+1) (.slice A1 (xn+1) c1);have p8:=Qf (P0.map Prod.fst) (xs',xA,xn,xc) (A1,xn+1,c1);rw[List.length_map,<-hk.out]at p8;have a8:P.map Prod.fst=P0.map Prod.fst ++ [(xs',xA,xn,xc)]:=by rw[p0.out,List.map_append];rfl
       rw[a8,p8]at z4;refine⟨⟨i+1,k+1,c,some ⟨go,0,none⟩,P0 ++ [((xs',A1,xn+1,c1),xs',xl ++ [yz])],by first | rfl | (congr 1;omega),rfl,by omega,by omega,Aa (by rw[List.length_append,<-hk.out];rfl),Aa ?_,Aa ?_,Aa ?_,Aa ?_,Aa (fun g cs n0 hr=>?_),Aa (x5.out.trans (m3.others.trans ((BL m1.out j.out).trans (KeepsOthers.setCell _ _ _)))),?_⟩,by simp only[intOf];omega⟩
       ·rw[List.map_append];exact z4
       ·rw[d1.out,o1.out,List.map_append];rfl
       ·rw[List.append_assoc,<-hR.out];exact m7
       ·exact(z6.out w (m0.out.trans m3) (Nat.le_refl _)).setCell (p:=⟨go,k*2+1,none⟩) (Nat.le_trans p3 l8) _
       ·exact(Cu m1.out j.out ((k5.out g cs n0 hr).ext m3) (by decide)).away (by show g≠go;omega) _
       ·have h1:=j.out.size;have h2:=m3.size;show b5<=(w8.setCell _ _).heap.size;simp only[World.setCell,Array.size_modify];omega
      ·rw[if_neg y5]at o1;have x4:Hid (joinS (P.map Prod.snd) (ys,yz)=P.map Prod.snd ++ [(ys,[yz])]):=Aa o1;have a9:¬ (ByteArray.mk xs'.toArray=ByteArray.mk ys.toArray):=fun h=>y5 (by injection h with h;simpa using h);clear o1;have z9:(xs'==ys)=false:=beq_eq_false_iff_ne.2 y5;refine wpIn_wide.2 (AE (fun K hK=>?_));go_wp2_with fail;refine⟨by kernel_rfl,?_⟩;obtain⟨W7,d0⟩:=Ab ((W6.alloc (Obj.cells #[Value.string ⟨ys.toArray⟩,Value.slice yA yn yc] 157)).drew);have H:Ext wr W7:=by rw[d0];exact(I.out.alloc _).drew
       have U:=H.owns y4.out;have a2:Cells W7 (some ⟨W6.heap.size,0,none⟩) (tcell (ys,yA,yn,yc)):=by rw[d0];exact AN W6 [Value.string ⟨ys.toArray⟩,Value.slice yA yn yc] _
       have k4:b5<=W7.heap.size:=Nat.le_trans y7 H.size;replace H:=Aa H;replace U:=Aa U;replace a2:=Aa a2;replace d0:=Aa d0;gi_wp2_with (gi_at_builtin;rw[<-d0.out];refine DA Lx U.out a2.out (.tmp 78) (.tmp 80) rfl rfl rfl rfl rfl rfl (by simp[tcell,Value.oneCell']) (by omega) k4 (fun A1 c1 w8 q2 j l0=>?_);replace q2:=Aa q2;replace j:=Aa j;replace l0:=Aa l0);have x2:∀g cs,g<b5->Row wr g 157 cs->Row w8 g 157 cs:=fun g cs n0 hr=>(hr.ext H.out).grown j.out fun h=>by obtain⟨_,_,hl⟩:=Ae U.out h.symm;omega
       refine⟨⟨i+1,_,c1,A1,P ++ [((ys,yA,yn,yc),(ys,[yz]))],by first | rfl | (congr 1;omega),rfl,by omega,by omega,Aa (by rw[List.length_append,<-v4.out];rfl),Aa ?_,Aa ?_,Aa ?_,Aa (CX U.out j.out (m0.out.trans H.out) p3),Aa (fun g cs n0 hr=>x2 g cs n0 (k5.out g cs n0 hr)),Aa (x5.out.trans (H.out.others.trans (FH U.out j.out))),Nat.le_trans k4 j.out.size⟩,by simp only[intOf];omega⟩
       ·rw[List.map_append,List.map_singleton,DX];exact q2.out
       ·rw[d1.out,x4.out,List.map_append,List.map_singleton]
       ·rw[List.append_assoc,<-hR.out];exact f1.out.keep fun A n c xs hb=>Ci U.out j.out (hb.ext H.out) (by decide)
    ·have h6:P.map Prod.snd=T:=by
      rw[i4.out,List.take_of_length_le (by rw[f3.out];omega)];exact m4.out
     replace h6:=Aa h6;gi_wp2_with fail;have r8:=x5.out.same _ _ o8.out rfl;refine BR (B:=w4.heap.size) rfl r8 hD fun W ha=>⟨_,results_tmp rfl _ _ _,?_⟩
     have a5:=f1.out;rw[List.drop_eq_nil_of_le (by rw[List.length_map,t3.out];omega),List.append_nil]at a5;have l7:m=(P.map Prod.fst).length:=by rw[List.length_map];exact v4.out
     rw[<-h6.out];refine⟨O,c,P.map Prod.fst,?_,?_,(a5.keep fun _ _ _ _ hb=>ha.buf hb).tms,ha.ext m0.out e0⟩
     ·rw[<-l7];rfl
     ·rw[<-l7];exact ha.owns (AD y4.out p3)
 ·have hT:=y2.out;rw[if_neg d6]at hT;replace hT:=Aa hT;gi_wp2_with fail;rw[hT.out];exact F3 rfl (results_tmp rfl _ _ _) ⟨none,0,[],rfl,World.ownsRow_nil _ _ _ _,TmsOk.nil _ _,j3.out⟩
end
section
open Go.RowKit
theorem Qb {a:Act} {K:Act->World->Prop} {E0:Prop} {t e size bytes:Nat} (E:Elem P t e size bytes) (Y:o.guard=none)
 {base:Nat} (b:w.ownsRow base e size v n xs) (Z:Cells w A news) (s x:Operand)
 (T:o.op = .call { callee:= .builtin .append,args:=#[s,x],argTypes:=#[t,t] })
 (hs:a.eval s=v) (G:a.eval x = .slice A m c) (O:news.length=m*size) (h1:∀u∈news,u.oneCell'=true) (J:n+m<=4294967296) (j:base<=w.heap.size)
 (h:∀A1 c1 w',w'.ownsRow base e size (.slice A1 (n+m) c1) (n+m) (xs++news)->w.grownBy w' v.ownBlock->K (a.put o.dst (.slice A1 (n+m) c1)) w') :
 if Region.wanted o (yielded ops a.tmps)=true then Oper.wp P o a w K Q else E0:=by
 rw[if_pos (by simp[Region.wanted,Y])];obtain⟨A1,c1,w',H,h2,U,I⟩:=Ds (P:=P) E w o.type b (c:=c) Z O h1 J j;unfold Oper.wp execOp;simp only[T,resolve,invoke,builtin,Sem.run_bind,Sem.run_pure,Result.andThen_ok,List.map_toArray,List.map_cons,List.map_nil,hs,G,H];exact h A1 c1 w' h2 U
theorem OH {a:Act} {K:Act->World->Prop} {E0:Prop} {T:TypeId} {t e size bytes m k:Nat} (E:Elem P t e size bytes) (Y:o.guard=none)
 {base:Nat} (b:w0.ownsRow base e size v n xs) (hk:k=w0.heap.size) (s x:Operand)
 (Z:o.op = .call { callee:= .builtin .append,args:=#[s,x],argTypes:=#[t,t] })
 (hs:a.eval s=v) (I:a.eval x = .slice (some ⟨k,0,none⟩) m m) (O:us.length=m*size) (h1:∀u∈us,u.oneCell'=true) (U:n+m<=4294967296) (H:base<=w0.heap.size)
 (h:∀A1 c1 w',w'.ownsRow base e size (.slice A1 (n+m) c1) (n+m) (xs++us)->w0.grownBy w' v.ownBlock->K (a.put o.dst (.slice A1 (n+m) c1)) w') :
 if Region.wanted o (yielded ops a.tmps)=true then Oper.wp P o a (w0.alloc (.cells us.toArray T)) K Q else E0:=by
 subst hk;refine Qb E Y (((Ext.refl w0).alloc _).owns b) (A:=some ⟨w0.heap.size,0,none⟩) (news:=us) (.inr ⟨w0.heap.size,0,rfl,fun i u G=>?_⟩) s x Z hs I O h1 U (by simp;omega) fun A1 c1 w' h2 j=>?_
 ·rw[Nat.zero_add,cell_of_row _ _ _ _ _ _ (heap_alloc_new w0 _)];simpa using G
 ·exact h A1 c1 w' h2 ⟨j.os,j.tape,j.output,Nat.le_trans (by simp) j.size,fun k hk J=>(j.block k (by simp;omega) J).trans (Below.heap_alloc w0 _ k hk)⟩
end
section
open Go.RowKit Go.Maps Go.Sort
def sortK (ns:List (List UInt8)):List (List UInt8):=ns.mergeSort fun x y=>decide (x<=y)
theorem Hv (ns:List (List UInt8)):(sortK ns).Perm ns:=List.mergeSort_perm _ _
theorem Qa (ns:List (List UInt8)):(sortK ns).Pairwise (fun a b=>a<=b):=by
 have:=List.pairwise_mergeSort (le:=fun(x y:List UInt8)=>decide (x<=y)) (fun a b c h k=>decide_eq_true (List.le_trans (of_decide_eq_true h) (of_decide_eq_true k))) (fun a b=>by rcases List.le_total a b with h | h <;> simp[h]) ns;exact this.imp fun h=>of_decide_eq_true h
theorem P9 (h:ns.Perm ks) (hk:ks.Pairwise fun a b=>a<b):sortK ns=ks :=
 List.Perm.eq_of_pairwise (le:=fun(x y:List UInt8)=>x<=y) (fun x y _ _ h k=>List.le_antisymm h k) (Qa ns) (hk.imp fun h=>List.le_of_lt h) ((Hv ns).trans h)
theorem Mz (base:Nat) (A:Option Addr) (n c:Nat) (ns:List (List UInt8)) (w:World) (hn:n=ns.length) (hb:Buf w base 9 A n c (ns.map strV)) (q0:n<=1073741824) :
 Calls prog 134 #[.slice A n c] w fun e w'=>e = .returned (.tuple #[])/\Buf w' base 9 A n c ((sortK ns).map strV)/\Chg (fun k=>∃x,A=some x/\x.block=k) w w':=by
 subst hn;obtain⟨h1,h2,G⟩:=hb;unfold sortK;rcases G with ⟨rfl,rfl⟩ | ⟨g,cur,rfl,Y,b,hs,ht⟩
 ·have Z:ns = []:=List.eq_nil_of_length_eq_zero (by omega);subst Z;refine(Tryz.slices_Sort_string_none none 0 w).mono ?_;rintro e w' ⟨rfl,rfl⟩;exact⟨rfl,by simpa using Buf.nil _ _ _,Chg.refl _ _⟩
 ·have I:Holds encStr w g 0 ns.toArray:=by
   intro j h;simp at h;refine⟨?_,b.free _⟩;rw[Nat.zero_add,cell_of_row w g j cur 9 (0,0) b];have:(cur.toList.take ns.length)[j]? = (ns.map strV)[j]? :=by rw[ht]
   rw[List.getElem?_take,if_pos h]at this;simp[h]at this;simpa [h,encStr,strV]using this
  refine(Tryz.slices_Sort_string g 0 c ns w I b.lt (by omega)).mono ?_;rintro e w' ⟨rfl,k,os,rfl⟩;obtain⟨so,H⟩:=Ab ((ns.mergeSort fun x y=>decide (x<=y)));have T:so.length=ns.length:=by rw[H];exact List.length_mergeSort _
  rw[<-H];have a:Row (grow (putRow encStr (Sort.ahead w k) g 0 so.toArray) os) g 9 (putCells encStr 0 so.toArray cur):=by
   show ((w.heap.modify g (onCells (putCells encStr 0 so.toArray)))++os)[g]? = _;rw[Array.getElem?_append_left (by simpa using b.lt),Array.getElem?_modify,if_pos rfl];have:w.heap[g]? = some (.cells cur 9 (0,0)):=b;rw[this];rfl
  refine⟨rfl,⟨by simp[T],h2,.inr ⟨g,_,rfl,Y,a,?_,?_⟩⟩,⟨rfl,rfl,rfl,?_,?_⟩⟩
  ·simp[putCells];exact hs
  ·apply List.ext_getElem?;intro i;rw[List.getElem?_take];split
   ·rename_i hi;have J:i<cur.size:=by
     rw[List.length_map]at h1;omega
    have U:i<so.length:=by omega
    rw[Array.getElem?_toList];unfold putCells;rw[Array.getElem?_mapIdx,Array.getElem?_eq_getElem J];simp[U,encStr,strV]
   ·rename_i hi;rw[List.getElem?_eq_none (by rw[List.length_map];omega)]
  ·show w.heap.size<=((w.heap.modify g (onCells (putCells encStr 0 so.toArray)))++os).size;simp
  ·intro j h O;show ((w.heap.modify g (onCells (putCells encStr 0 so.toArray)))++os)[j]? = _;rw[Array.getElem?_append_left (by simpa using h),Array.getElem?_modify,if_neg (fun e=>O ⟨_,rfl,e⟩)]
theorem OE (base:Nat) (A:Option Addr) (n c:Nat) (ns:List (List UInt8)) (w:World) (hn:n=ns.length) (hb:Buf w base 9 A n c (ns.map strV)) (j:n<=1073741824) :
 Calls prog 82 #[.slice A n c] w fun e w'=>e = .returned (.tuple #[])/\Buf w' base 9 A n c ((sortK ns).map strV)/\Chg (fun k=>∃x,A=some x/\x.block=k) w w':=by
 have h:=Aa (Mz base A n c ns w hn hb j);clear hb hn
 go_in
 go_wp2_with fail;refine h.out.mono ?_;rintro e w1 ⟨rfl,h1,h2⟩;go_wp2_with fail
 go_end0
 exact⟨rfl,h1,h2⟩
end
section
open Go.RowKit Go.Maps
open Go
structure RangeL (P:Program) (k:TypeId) (w:World) (m r:Nat) (L:List (Value×Value)) (done:List Value):Prop where
  ex:∃es clock since seen c0,w.heap[m]? = some (.map es clock)/\es.toList.map (fun e=>(e.key,e.val))=L/\es.toList.Pairwise (fun a b=>a.born≠b.born)/\(∀e∈es.toList,e.born<clock) /\
    w.heap[r]? = some (.mapIter (some m) since seen c0)/\(∀e∈es.toList,e.born<since)/\since<=c0/\since<=clock/\∀e∈es.toList,(seen.contains e.born=true↔e.key∈done)
  keys:∀p∈L,∃l,keyOf P k p.1=some l
  nodup:(L.map Prod.fst).Nodup
  dn:done.Nodup
  sub:∀x∈done,x∈L.map Prod.fst
section
variable {P:Program} {k:TypeId} {w w1:World} {m r:Nat} {L:List (Value×Value)} {done:List Value}
theorem RangeL.map (h:RangeL P k w m r L done):MapL P k w m L:=by
 obtain⟨es,cl,since,seen,c0,h1,h2,j,b,_⟩:=h.ex;exact⟨⟨es,cl,h1,h2,j,b⟩,h.keys,h.nodup⟩
theorem RangeL.keep (h:RangeL P k w m r L done) (Y:w1.heap[m]? = w.heap[m]?) (J:w1.heap[r]? = w.heap[r]?):RangeL P k w1 m r L done:=by
 obtain⟨⟨es,cl,since,seen,c0,h1,h2,j,b,a,H⟩,hk,hn,hd,hs⟩:=h;exact⟨⟨es,cl,since,seen,c0,Y.trans h1,h2,j,b,J.trans a,H⟩,hk,hn,hd,hs⟩
theorem RangeL.lt (h:RangeL P k w m r L done):r<w.heap.size:=by
 obtain⟨es,cl,since,seen,c0,_,_,_,_,j,_⟩:=h.ex;exact(Array.getElem?_eq_some_iff.1 j).1
theorem RangeL.ne (h:RangeL P k w m r L done):r≠m:=by
 obtain⟨es,cl,since,seen,c0,h1,_,_,_,j,_⟩:=h.ex;rintro rfl;rw[h1]at j;cases j
theorem RangeL.grown {row:Option Nat} (h:RangeL P k w m r L done) (j:w.grownBy w1 row) (h1:row≠some m) (h2:row≠some r):RangeL P k w1 m r L done :=
 h.keep (j.block m h.map.lt (fun e=>h1 e.symm)) (j.block r h.lt (fun e=>h2 e.symm))
theorem RangeL.drew (h:RangeL P k w m r L done):RangeL P k w.drew m r L done:=h.keep rfl rfl
theorem RangeL.alloc (h:RangeL P k w m r L done) (o:Obj):RangeL P k (w.alloc o) m r L done:=h.keep (Below.heap_alloc w o m h.map.lt) (Below.heap_alloc w o r h.lt)
theorem MapL.range (h:MapL P k w m L) (ht:P.underlying t=some (.map k E)) :
 ∃o,(Instr.range t (.map (some m))).run P w = .ok (.pointer (some ⟨w.heap.size,0,none⟩)) (w.alloc o)/\RangeL P k (w.alloc o) m w.heap.size L []:=by
 obtain⟨⟨es,cl,h1,h2,b,j⟩,hk,hn⟩:=h;refine⟨_,run_range_map w t k E m es cl ht h1,⟨⟨es,cl,cl,#[],cl,?_,h2,b,j,heap_alloc_new w _,j,Nat.le_refl _,Nat.le_refl _,fun e _=>by simp⟩,hk,hn,List.nodup_nil,by simp⟩⟩;exact(Below.heap_alloc w _ m (Array.getElem?_eq_some_iff.1 h1).1).trans h1
theorem Hq (w : World) (r : Nat) (o : Obj) : w.grownBy (ChangeMaps.setBlock w r o) (some r) :=
  ⟨rfl, rfl, rfl, by simp [ChangeMaps.setBlock], fun k _ h => by
    show (w.heap.setIfInBounds r o)[k]? = _
    rw [Array.getElem?_setIfInBounds_ne (fun e => h (by rw [e]))]⟩
theorem LS {es:Array MapEntry} {seen:Array Nat} {e:MapEntry} (j:e∈(leftOf es seen).toList):(leftOf es (seen.push e.born)).size<(leftOf es seen).size:=by
 have h1:leftOf es (seen.push e.born)=(leftOf es seen).filter (fun x=> !(x.born==e.born)):=by
  unfold leftOf;rw[Array.filter_filter];congr 1;funext x;rw[Array.contains_push];cases seen.contains x.born <;> cases (x.born==e.born) <;> rfl
 have h2:(leftOf es (seen.push e.born)).toList=(leftOf es seen).toList.filter (fun x=> !(x.born==e.born)):=by rw[h1,Array.toList_filter]
 have h:((leftOf es seen).toList.filter (fun x=> !(x.born==e.born))).length<(leftOf es seen).toList.length:=List.length_filter_lt_length_iff_exists.2 ⟨e,j,by simp⟩;rw[<-h2]at h;exact h
theorem RangeL.next (h:RangeL P k w m r L done) (ty:TypeId) :
 ((Instr.next (.pointer (some ⟨r,0,none⟩)) false ty).run P w = .ok (.tuple #[.bool false]) w/\∀p∈L,p.1∈done) \/
 ∃x v w1,(x,v)∈L/\x∉done/\(Instr.next (.pointer (some ⟨r,0,none⟩)) false ty).run P w = .ok (.tuple #[.bool true,x,v]) w1/\RangeL P k w1 m r L (done ++ [x])/\w.grownBy w1 (some r)/\w1.heap.size=w.heap.size /\
  (Instr.entry (.pointer (some ⟨r,0,none⟩))).run P w1 = .ok (.tuple #[x,v]) w1/\w1.rangeLeft m r<w.rangeLeft m r:=by
 have x0:=h.lt;have b0:=h.ne;obtain⟨⟨es,cl,since,seen,c0,h1,h2,h3,h4,h5,h6,h7,p0,h8⟩,hk,hn,hd,hs⟩:=h;rcases run_next_at (P:=P) w ty r m since c0 seen es cl h5 h1 h6 h7 with ⟨h0,J⟩ | ⟨e,I,w0,j0,J⟩
 ·refine .inl ⟨J,fun p hp=>?_⟩;rw[<-h2]at hp;obtain⟨e,I,rfl⟩:=List.mem_map.1 hp;rw[<-h8 e I];by_cases G:seen.contains e.born=true
  ·exact G
  ·exfalso;have:e∈leftOf es seen:=by
    unfold leftOf;rw[Array.mem_filter];exact⟨by simpa using I,by simpa using G⟩
   have h9:=Array.size_pos_of_mem this;omega
 ·have Y:e∈es.toList/\seen.contains e.born=false:=by
   unfold leftOf at I;have H:=Array.mem_toList_iff.1 I;rw[Array.mem_filter]at H;exact⟨by simpa using H.1,by simpa using H.2⟩
  have U:w0.heap=w.heap:=by rcases j0 with rfl | rfl <;> rfl
  have g0:w.grownBy w0 (some r):=by
   rcases j0 with rfl | rfl
   ·exact⟨rfl,rfl,rfl,Nat.le_refl _,fun _ _ _=>rfl⟩
   ·exact⟨rfl,rfl,rfl,Nat.le_refl _,fun _ _ _=>rfl⟩
  have k0:e.key∉done:=fun G=>by
   rw[<-h8 e Y.1]at G;rw[Y.2]at G;cases G
  have Z:(ChangeMaps.setBlock w0 r (.mapIter (some m) since (seen.push e.born) cl)).heap[r]? = some (.mapIter (some m) since (seen.push e.born) cl):=by
   show (w0.heap.setIfInBounds r _)[r]? = _;rw[Array.getElem?_setIfInBounds,if_pos rfl,if_pos (by rw[U];exact x0)]
  have T:(ChangeMaps.setBlock w0 r (.mapIter (some m) since (seen.push e.born) cl)).heap[m]? = some (.map es cl):=by
   show (w0.heap.setIfInBounds r _)[m]? = _;rw[Array.getElem?_setIfInBounds_ne b0,U,h1]
  have y0:(es.toList.map (fun x=>x.born)).Nodup:=by
   rw[List.Nodup,List.pairwise_map];exact h3
  refine .inr ⟨e.key,e.val,_,by rw[<-h2];exact List.mem_map.2 ⟨e,Y.1,rfl⟩,k0,J,⟨⟨es,cl,since,seen.push e.born,cl,T,h2,h3,h4,Z,h6,p0,p0,?_⟩,hk,hn,?_,?_⟩,g0.trans (Hq w0 r _),by simp[ChangeMaps.setBlock,U],run_entry_at _ r m since seen es cl e Z T Y.1 y0,by unfold World.rangeLeft;rw[T,Z,h1,h5];exact LS I⟩
  ·intro e' H;have d0:(es.toList.map (·.key)).Nodup:=by rw[<-h2,List.map_map]at hn;exact hn
   obtain⟨i,hi⟩:=List.getElem?_of_mem Y.1;obtain⟨j,O⟩:=List.getElem?_of_mem H;rw[Array.getElem?_toList]at hi O;have v0:e'.born=e.born↔e'.key=e.key:=by
    constructor
    ·intro hb;obtain rfl:=MM h3 O hi hb;rw[hi]at O;cases O;rfl
    ·intro hb;obtain rfl:=Kr d0 O hi hb;rw[hi]at O;cases O;rfl
   rw[Array.contains_push,Bool.or_eq_true,beq_iff_eq,h8 e' H,List.mem_append,List.mem_singleton,<-v0]
  ·rw[List.nodup_append];refine⟨hd,by simp,?_⟩;intro a ha b hb;simp at hb;rintro rfl;subst hb;exact k0 ha
  ·intro x hx;rcases List.mem_append.1 hx with hx | hx
   ·exact hs x hx
   ·simp at hx;subst hx;rw[<-h2,List.map_map];exact List.mem_map.2 ⟨e,Y.1,rfl⟩
theorem MapL.len (h:MapL P k w m L) (ht:P.underlying t=some (.map k E)) (ty:TypeId):(Builtin.len_ #[t] ty #[.map (some m)]).run P w = .ok (.int .i64 L.length) w:=by
 obtain⟨⟨es,cl,h1,h2,_⟩,_,_⟩:=h;have j:(getObj m).run P w = .ok (.map es cl) w:=by simp[getObj,Sem.run,h1]
 have b:L.length=es.size:=by rw[<-h2];simp
 simp only[Builtin.len_,List.getElem?_toArray,List.getElem?_cons_zero,Sem.run_bind,run_underlying ht,Result.andThen_ok,j,Sem.run_pure];rw[b];rfl
end
end
end Go.Proofs.YtfifdilapbeiiaaGreat
