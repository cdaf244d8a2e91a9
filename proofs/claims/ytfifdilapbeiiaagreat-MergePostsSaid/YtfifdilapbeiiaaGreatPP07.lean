/- Texts of one proof, joined. -/
import Derived.Test.YtfifdilapbeiiaaGreatPP06
import Derived.RegionTactic
import Derived.ChangeAlike
import Derived.StringKeys
import Derived.BigRegion
set_option linter.unusedSimpArgs false
set_option linter.unusedVariables false
set_option maxRecDepth 100000
set_option maxHeartbeats 16000000
namespace Go.Proofs.YtfifdilapbeiiaaGreat
open _root_.Go.Proofs.Tryz
variable {cs lb:Array Value} {Q:Exit → Act → World → Prop} {s:List UInt8} {xs ys:List Value} {B M c c1 g g1 g2 g3 gf i k m n:Nat} {A A1:Option Addr} {P:Program} {e t tp tq tr ty:TypeId} {V1 v v1 v2 v3:Value} {W W1 w w1 w3 w8 w9:World}
section
open Go.RowKit
attribute [local go_sem] Oper.semAt_some AP Cp
theorem BX {d:TypeDesc} (h:w.cell? ⟨g,0,none⟩=some v) (j:P.underlying ty=some d) (hd:(match d with | .struct _ | .array _ _=>false | _=>true)=true):(loadVar ty ⟨g,0,none⟩).run P w = .ok v w:=by
 have hi:(isAgg ty).run P w = .ok false w:=by
  unfold isAgg;simp only[Sem.run_bind,run_underlying j,Result.andThen_ok];cases d <;> first | rfl | (cases hd)
 unfold loadVar;simp only[Sem.run_bind,hi,Result.andThen_ok];simp[h]
theorem Row.same (h:Row w g t cs) (H:cs[i]? = some v):w.setCell ⟨g,i,none⟩ v=w:=by
 have a:=h.put i v;have Y:cs.setIfInBounds i v=cs:=by
  apply Array.ext_getElem?;intro j;rw[Array.getElem?_setIfInBounds];split
  ·rename_i e;subst e;rw[H,if_pos (Array.getElem?_eq_some_iff.1 H).1]
  ·rfl
 rw[Y]at a;have b:(w.setCell ⟨g,i,none⟩ v).heap=w.heap:=by
  apply Array.ext_getElem?;intro k;by_cases e:k=g
  ·subst e;exact a.trans (Eq.symm h)
  ·exact Below.heap_setCell w ⟨g,i,none⟩ v k e
 obtain⟨heap,os,tape,output⟩:=w;simp only[World.setCell]at b ⊢;rw[b]
theorem Hg {fn:Func} {p q r:Tmp} (j:fn.results=#[.cell p tp,.cell q tq,.cell r tr]) (tmps:Array Value) (w:World)
 (h1:tmps.getD p undef = .pointer (some ⟨g1,0,none⟩)) (h2:tmps.getD q undef = .pointer (some ⟨g2,0,none⟩)) (h:tmps.getD r undef = .pointer (some ⟨g3,0,none⟩))
 (l1:(loadVar tp ⟨g1,0,none⟩).run P w = .ok v1 w) (l2:(loadVar tq ⟨g2,0,none⟩).run P w = .ok v2 w) (l3:(loadVar tr ⟨g3,0,none⟩).run P w = .ok v3 w) :
 (results fn tmps).run P w = .ok (.tuple #[v1,v2,v3]) w:=by
 rw[Array.getD_eq_getD_getElem?]at h1 h2 h;simp only[results,j];simp[Sem.run_bind,Result.andThen,h1,h2,h,asAddr,l1,l2,l3]
theorem Rw:Elem prog 22 24 1 24:=⟨underlying22,⟨_,_,rfl,rfl,rfl,rfl,rfl⟩,by omega,by omega⟩
theorem LG (A:Option Addr) (n c:Nat) (ew:Nat) (w:World) :
 Calls prog 93 #[.slice A n c,.pointer (some ⟨ew,0,none⟩)] w fun e w'=>∃b1 b2,e = .returned (.func (.func 144) #[] #[.pointer (some ⟨b1,0,none⟩),.pointer (some ⟨b2,0,none⟩)])/\Row w' b1 24 #[.slice A n c]/\Row w' b2 174 #[.pointer (some ⟨ew,0,none⟩)]/\w.heap.size<=b1/\w.heap.size<=b2/\b1<b2/\Ext w w':=by
 go_in
 go_wp2_with fail;go_ret;have h1:=Row.new w 24 #[.slice A n c];have h2:=Row.new (w.alloc (.cells #[.slice A n c] 24)) 174 #[.pointer (some ⟨ew,0,none⟩)];rw[World.size_alloc]at h2;exact⟨w.heap.size,w.heap.size+1,rfl,h1.alloc _,h2,Nat.le_refl _,by omega,by omega,((Ext.refl w).alloc _).alloc _⟩
theorem NU {base n c:Nat} (hb:Buf w base e A n c xs) (b:w.grownBy w1 (Value.slice A n c).ownBlock) (hk:k<base) (j:k<w.heap.size):w1.heap[k]? = w.heap[k]? :=
 b.block k j fun h=>by
  cases A with
  | none=>simp[Value.ownBlock]at h
  | some a =>
   have:=hb.base_le a rfl;simp[Value.ownBlock]at h;omega
theorem PayOk.grown {x:Pay} {base n c:Nat} (h:PayOk w x) (hb:Buf w base e A n c xs) (T:w.grownBy w1 (Value.slice A n c).ownBlock) (O:5≠e):PayOk w1 x:=by
 obtain⟨b,Y⟩:=h;refine⟨b,Y.grown T fun a U j=>?_⟩;rcases hb.2.2 with ⟨J,_⟩ | ⟨g',cur,H,_,Z,_⟩
 ·subst J;simp[Value.ownBlock]at j
 ·subst H;simp[Value.ownBlock]at j;exact Y.unlike Z O a U j.symm
theorem PayOk.set {x:Pay} (h:PayOk w x) (a:Row w g t cs) (ht:5≠t) (i:Nat) (u:Value):PayOk (w.setCell ⟨g,i,none⟩ u) x:=by
 obtain⟨b,j⟩:=h;exact⟨b,j.setCell (j.unlike a ht) u⟩
def SpI (h bs b1 b2:Nat) (V1:Value) (w:World) (pre:List Pay) (W:World):Prop :=
 ∃L c z,Row W h 22 #[.slice L pre.length c]/\Row W (h+1) 3 #[.int .i64 z]/\Row W (h+2) 25 #[.int .i64 0]/\Buf W bs 24 L pre.length c (pre.map Pay.val)/\(∀x∈pre,PayOk W x)/\Row W b1 24 #[V1]/\Row W b2 174 #[.pointer (some ⟨h+2,0,none⟩)]/\Ext w W/\bs<=W.heap.size
theorem PayOk.ext {x:Pay} (h:PayOk W x) (j:Ext W W1):PayOk W1 x:=by obtain⟨b,hb⟩:=h;exact⟨b,hb.ext j⟩
theorem PayOk.alike {x:Pay} (h:PayOk W x) (j:Alike B W W1):PayOk W1 x:=by obtain⟨b,hb⟩:=h;exact⟨b,j.buf hb⟩
theorem SpI.ext {h bs b1 b2:Nat} {pre:List Pay} (hi:SpI h bs b1 b2 V1 w pre W) (j:Ext W W1):SpI h bs b1 b2 V1 w pre W1:=by
 obtain⟨L,c,z,r1,r2,r3,hb,a,q1,q2,b,hs⟩:=hi;exact⟨L,c,z,r1.ext j,r2.ext j,r3.ext j,hb.ext j,fun x H=>(a x H).ext j,q1.ext j,q2.ext j,b.trans j,Nat.le_trans hs j.size⟩
theorem SpI.alike {h bs b1 b2 B:Nat} {pre:List Pay} (hi:SpI h bs b1 b2 V1 w pre W) (j:Alike B W W1) (b:w.heap.size<=B):SpI h bs b1 b2 V1 w pre W1:=by
 obtain⟨L,c,z,r1,r2,r3,hb,H,q1,q2,a,hs⟩:=hi;exact⟨L,c,z,j.row r1,j.row r2,j.row r3,j.buf hb,fun x Y=>(H x Y).alike j,j.row q1,j.row q2,j.ext a b,Nat.le_trans hs j.size⟩
def SplitW (w:World) (b:List UInt8) (e:Ending) (w':World):Prop:=∃L c z,∃ps:List Pay,e = .returned (.tuple #[.slice L ps.length c,.int .i64 z,.int .i64 ((splitF b).2:Int)])/\Cells w' L (ps.map Pay.val)/\pays ps=(splitF b).1/\(∀x∈ps,PayOk w' x)/\Ext w w'
theorem OC (A:Option Addr) (n c:Nat) (b:List UInt8) (w:World) (h:In8 w A n c b) (i2:n<=1000000000) :
 Calls prog 53 #[.slice A n c] w fun e w'=>SplitW w b e w':=by
 replace h:=Aa h;refine(callsIn_wide (n:=0)).1 ?_;refine callsIn_of_wp_marks func53 rfl trivial ?_;simp only[ntmps53,List.size_toArray,List.length_cons,List.length_nil,Nat.reduceAdd,Nat.reduceSub,Array.replicate_succ,Array.replicate_zero,List.push_toArray,List.append_toArray,List.nil_append,List.cons_append];gi_wp2_with fail;obtain⟨W3,Y⟩:=Ab (((w.alloc (Obj.cells #[Value.slice none 0 0] 22)).alloc (Obj.cells #[Value.int IntKind.i64 0] 3)).alloc (Obj.cells #[Value.int IntKind.i64 0] 25));rw[<-Y];obtain⟨h1,H⟩:=Ab w.heap.size;have q1:Row W3 h1 22 #[.slice none 0 0]:=by rw[Y,H];exact((Row.new w _ _).alloc _).alloc _
 have q2:Row W3 (h1+1) 3 #[.int .i64 0]:=by
  have:=Row.new (w.alloc (Obj.cells #[Value.slice none 0 0] 22)) 3 #[.int .i64 0];rw[World.size_alloc,<-H]at this;rw[Y];exact this.alloc _
 have q3:Row W3 (h1+2) 25 #[.int .i64 0]:=by
  have:=Row.new ((w.alloc (Obj.cells #[Value.slice none 0 0] 22)).alloc (Obj.cells #[Value.int IntKind.i64 0] 3)) 25 #[.int .i64 0];rw[World.size_alloc,World.size_alloc,<-H]at this;rw[Y];exact this
 have k0:Ext w W3:=by rw[Y];exact(((Ext.refl w).alloc _).alloc _).alloc _
 have e0:W3.heap.size=h1+3:=by rw[Y,H];simp
 rw[<-H];refine(callsIn_wide.2 (LG A n c (h1+2) W3)).mono ?_;rintro e w4 ⟨b1,b2,rfl,rb1,rb2,m2,x2,j3,a⟩;obtain⟨bs,z3⟩:=Ab w4.heap.size;have i0:SpI h1 bs b1 b2 (.slice A n c) w [] w4:=⟨none,0,0,q1.ext a,q2.ext a,q3.ext a,Buf.nil _ _ _,nofun,rb1,rb2,k0.trans a,by omega⟩
 have v0:=Kd A n c b h1 b1 b2 (h1+2) w w4 h.out (by omega) (k0.trans a) i2 rb1 rb2 (q3.ext a);rw[e0]at m2 x2;have j:w.heap.size<=w4.heap.size:=(k0.trans a).size;have m3:=rb2.lt;have x3:=(q3.ext a).lt;have t3:w.heap.size<=bs:=by omega
 replace i0:=Aa i0;replace v0:=Aa v0;replace Y:=Aa Y;replace H:=Aa H;clear q1 q2 q3 k0 a rb1 rb2 e0;gi_wp2_with fail;unfold FrIter at v0;refine C8 (gf:=144) (lb:=#[.pointer (some ⟨b1,0,none⟩),.pointer (some ⟨b2,0,none⟩)]) rfl (enters_of func144 (by kernel_rfl) rfl) v0.out (fun _=>rfl) (fun _ _ h=>h.others) ?fin (KeepS.trans h1 _) ?kb
  (fun pre W=>SpI h1 bs b1 b2 (.slice A n c) w pre W) (fun pre A B h ha=>h.alike ha j) (fun pre A B h T=>h.ext T) ?h0 ?hround ?hdone
 case fin =>
  rintro xs A B (⟨_,T⟩ | ⟨k,W3,_,_,T,rfl⟩)
  ·exact T.others
  ·exact T.others.trans (KeepsOthers.setCell _ _ _)
 case kb=>exact KeepS.alike (by omega) (fun k hk=>by omega)
 case h0=>exact fun W ha=>i0.out.alike ha j
 case hround =>
  rintro l pre ⟨P,cp,p,z⟩ W hI ⟨x0,r,n0⟩;unfold Pay.val;simp only;obtain⟨pl,y0⟩:=Ab p.length;rw[<-y0];replace y0:=Aa y0;replace hI:=Aa hI;replace x0:=Aa x0;replace n0:=Aa n0;gi_wp2_with fail;refine⟨KeepsOthers.refl _,KeepS.refl _ _ _,fun W2 f0=>?_⟩;have h2:=hI.out.alike f0 j;have j1:=Aa (x0.out.alike f0);clear f0 hI x0;obtain⟨L,cl,z0,r1,r2,r3,hb,I,g1,g2,G,x1⟩:=h2;have m1:pre.length<=4000000000:=by
   have h1:=JC b;rw[n0.out]at h1;simp only[pays,List.length_append,List.length_map,List.length_cons]at h1;have:=h.out.len;omega
  have k1:=r1.cell 0 rfl;have J:=Aa (hb.alloc (.cells #[.slice P pl cp] 24));have d1:=Aa (AN W2 [.slice P pl cp] 24);have y1:bs<=(W2.alloc (.cells #[.slice P pl cp] 24)).heap.size:=by rw[World.size_alloc];omega
  obtain⟨m,hm⟩:=Ab pre.length;rw[<-hm]at m1 k1 J r1 hb;replace hm:=Aa hm;replace r1:=Aa r1;replace r2:=Aa r2;replace r3:=Aa r3;replace hb:=Aa hb;replace I:=Aa I;replace g1:=Aa g1;replace g2:=Aa g2;replace G:=Aa G;obtain⟨Wa,Z⟩:=Ab (W2.alloc (.cells #[.slice P pl cp] 24));have j0:Ext W2 Wa:=by rw[Z];exact(Ext.refl W2).alloc _
  have m0:=Aa j0;have ra1:=Aa (r1.out.ext j0);have ra2:=Aa (r2.out.ext j0);rw[<-Z]at J d1 y1;replace Z:=Aa Z;clear j0;gi_wp2_with (gi_at_builtin;rw[<-Z.out];refine Bu Rw J.out d1.out (.tmp 11) (.tmp 13) rfl rfl rfl rfl rfl rfl (by simp[Value.oneCell']) (by omega) y1 (fun A6 c6 w6 g0 U o0 r0=>?_);have r16:=Cu J.out U ra1.out (by decide);have r26:=Cu J.out U ra2.out (by decide);have u1:=r16.cell 0 rfl;have u2:=r16.free 0;have r27:=r26.away (p:=⟨h1,0,none⟩) (by simp) (.slice A6 (m+1) c6);have u3:=r27.cell 0 rfl;have u4:=r27.free 0;replace r16:=Aa r16;replace r26:=Aa r26;replace r27:=Aa r27;replace g0:=Aa g0;replace U:=Aa U;replace o0:=Aa o0;replace r0:=Aa r0);have O:∀k,k<h1+3\/k=b1\/k=b2->k≠h1->k≠h1+1->((w6.setCell ⟨h1,0,none⟩ (.slice A6 (m+1) c6)).setCell ⟨h1+1,0,none⟩ (.int .i64 z)).heap[k]? = W2.heap[k]? :=fun k hk n1 n2=>by
   have d2:k<bs:=by omega
   rw[Below.heap_setCell _ _ _ k n2,Below.heap_setCell _ _ _ k n1,NU J.out U.out d2 (by omega)];exact Below.block m0.out k (by omega)
  have i1:∀w0:World,w0.heap.size<=h1->Ext w0 W2->Ext w0 ((w6.setCell ⟨h1,0,none⟩ (.slice A6 (m+1) c6)).setCell ⟨h1+1,0,none⟩ (.int .i64 z)):=fun w0 h0 T=>((o0.out w0 (T.trans m0.out) (by omega)).setCell (p:=⟨h1,0,none⟩) h0 _).setCell (p:=⟨h1+1,0,none⟩) (by show w0.heap.size<=h1+1;omega) _;have d3:=U.out.size;have y2:Buf ((w6.setCell ⟨h1,0,none⟩ (.slice A6 (m+1) c6)).setCell ⟨h1+1,0,none⟩ (.int .i64 z)) bs 24 A6 (m+1) c6 (pre.map Pay.val ++ [.slice P pl cp]):=by
   have q:=g0.out.setCell (p:=⟨h1,0,none⟩) (g0.out.unlike r16.out (by decide)) (.slice A6 (m+1) c6);exact q.setCell (p:=⟨h1+1,0,none⟩) (q.unlike r27.out (by decide)) _
  have o2:∀x∈pre ++ [(P,cp,p,z)],PayOk ((w6.setCell ⟨h1,0,none⟩ (.slice A6 (m+1) c6)).setCell ⟨h1+1,0,none⟩ (.int .i64 z)) x:=fun x hx=>by
   have h3:PayOk W2 x:=by
    rcases List.mem_append.1 hx with h | h
    ·exact I.out x h
    ·rw[List.mem_singleton.1 h];exact j1.out
   exact(((h3.ext m0.out).grown J.out U.out (by decide)).set r16.out (by decide) 0 _).set r27.out (by decide) 0 _
  refine⟨((m0.out.others.trans (BL J.out U.out)).trans (KeepsOthers.setCell _ _ _)).trans (KeepsOthers.setCell _ _ _),⟨i1,fun k hk o ho=>?_⟩,A6,c6,z,?_,?_,?_,?_,o2,?_,?_,i1 w (by have:=H.out;omega) G.out,?_⟩
  ·rw[O k (by omega) (by omega) (by omega)];exact ho
  ·rw[List.length_append,<-hm.out];exact(r16.out.put 0 _).away (by simp) _
  ·exact r27.out.put 0 _
  ·unfold Row;rw[O _ (by omega) (by omega) (by omega)];exact r3.out
  ·rw[List.length_append,<-hm.out,List.map_append];unfold Pay.val;simp only[List.map_cons,List.map_nil];rw[<-y0.out];exact y2
  ·unfold Row;rw[O _ (by omega) (by omega) (by omega)];exact g1.out
  ·unfold Row;rw[O _ (by omega) (by omega) (by omega)];exact g2.out
  ·simp;omega
 case hdone =>
  rintro D xs W2 W3 W4 hD hI hF hA hk;have j2:∃L c z,Row W4 h1 22 #[.slice L xs.length c]/\Row W4 (h1+1) 3 #[.int .i64 z]/\Row W4 (h1+2) 25 #[.int .i64 ((splitF b).2:Int)]/\Buf W4 bs 24 L xs.length c (xs.map Pay.val)/\(∀x∈xs,PayOk W4 x)/\Ext w W4/\pays xs=(splitF b).1:=by
   rcases hF with ⟨hs,T⟩ | ⟨k,W5,a3,hs,T,rfl⟩
   ·obtain⟨L,c,z,r1,r2,r3,hb,I,q1,q2,G,x1⟩:=(hI.ext T).alike hA j;rw[hs];exact⟨L,c,z,r1,r2,r3,hb,I,G,rfl⟩
   ·obtain⟨L,c,z,r1,r2,r3,hb,I,q1,q2,G,x1⟩:=hI.ext T;rw[hs];refine⟨L,c,z,hA.row (r1.away (by simp) _),hA.row (r2.away (by simp) _),hA.row (r3.put 0 _),hA.buf (hb.setCell (hb.unlike r3 (by decide)) _),fun x hx=>((I x hx).set r3 (by decide) 0 _).alike hA,hA.ext (G.setCell (by show w.heap.size<=h1+2;have:=H.out;omega) _) j,rfl⟩
  obtain⟨L,cl,z,r1,r2,r3,hb,I,G,l0⟩:=j2;have k1:=r1.cell 0 rfl;have k2:=r2.cell 0 rfl;have k3:=r3.cell 0 rfl;have f1:=r1.free 0;have f2:=r2.free 0;have f3:=r3.free 0;obtain⟨m,hm⟩:=Ab xs.length;rw[<-hm]at r1 k1 hb;obtain⟨ec,t0⟩:=Ab ((splitF b).2);rw[<-t0]at r3 k3;replace r1:=Aa r1;replace r2:=Aa r2;replace r3:=Aa r3;replace hb:=Aa hb;replace I:=Aa I;replace G:=Aa G;replace hm:=Aa hm;replace t0:=Aa t0;replace l0:=Aa l0;replace hk:=Aa hk;clear hI hF hA;gi_wp2_with fail;refine wpIn_wide.2 ?_;go_region;rw[show h1+1+1=h1+2 from rfl,r1.out.same rfl,r2.out.same rfl,r3.out.same rfl];gi_wp2_with fail;have a2:W4.drew.heap[D]? = some (.deferred (some [])):=hk.out;refine BR (B:=w4.heap.size) rfl a2 hD fun W ha=>⟨_,Hg rfl _ _ rfl rfl rfl (BX ((ha.row r1.out).cell 0 rfl) underlying22 rfl) (BX ((ha.row r2.out).cell 0 rfl) underlying3 rfl) (BX ((ha.row r3.out).cell 0 rfl) underlying25 rfl),L,cl,z,xs,?_,?_,l0.out,?_,?_⟩
  ·rw[<-hm.out,<-t0.out];rfl
  ·exact(ha.buf hb.out.drew).cells
  ·exact fun x hx=>((I.out x hx).ext (Ext.refl W4).drew).alike ha
  ·exact ha.ext G.out.drew j
end
section
open Go.RowKit
attribute [local go_sem] Oper.semAt_some AP Cp
theorem Jg (a b:List UInt8):(ByteArray.mk a.toArray++ByteArray.mk b.toArray)=⟨(a++b).toArray⟩:=by
 apply ByteArray.ext;rw[ByteArray.data_append];simp
theorem Lx:Elem prog 155 157 2 40:=⟨underlying155,⟨_,_,rfl,rfl,rfl,rfl,rfl⟩,by omega,by omega⟩
theorem DX (D:List TmV) (x:TmV):tcs (D ++ [x])=tcs D++tcell x:=by
 unfold tcs;rw[List.flatMap_append];simp
def oneT (l:List (List UInt8×Int)):List (List UInt8×List Int):=l.map fun p=>(p.1,[p.2])
theorem N2 (l:List (List UInt8×Int)) (p:List UInt8×Int):oneT (l ++ [p])=oneT l ++ [(p.1,[p.2])]:=by unfold oneT;rw[List.map_append];rfl
section
variable {w w1 w0:World} {base n:Nat} {e:TypeId} {size:Nat} {v:Value} {xs:List Value}
theorem Jn (H:w.ownsRow base e size v n xs) (a:w.grownBy w1 v.ownBlock) (j:Row w g t cs) (ht:t≠e):Row w1 g t cs :=
 j.grown a fun h=>by
  obtain⟨cur,b,_⟩:=Ae H h.symm;exact j.unlike b ht rfl
theorem FH (Y:w.ownsRow base e size v n xs) (a:w.grownBy w1 v.ownBlock):KeepsOthers w w1 :=
 KeepsOthers.of_grownBy a fun j o H h=>by
  obtain⟨cur,b,_⟩:=Ae Y H;unfold Row at b;rw[b]at h;injection h with h;subst h;rfl
theorem CX (b:w.ownsRow base e size v n xs) (j:w.grownBy w1 v.ownBlock) (h:Ext w0 w) (hb:w0.heap.size<=base):Ext w0 w1 :=
 h.grown j fun k hk=>by obtain⟨_,_,a⟩:=Ae b hk;omega
theorem Ci (J:w.ownsRow base e size v n xs) (Y:w.grownBy w1 v.ownBlock) {b:Nat} (hb:Buf w b t A m c ys) (ht:t≠e):Buf w1 b t A m c ys :=
 hb.grown Y fun a j h=>by
  obtain⟨cur,H,_⟩:=Ae J h;exact hb.unlike H ht a j rfl
end
theorem FU {l x:List UInt8} (h:x∈tokL l):x.length<=32:=by
 unfold tokL at h;obtain⟨y,_,rfl⟩:=List.mem_map.1 h;exact JZ y [] (by simp)
theorem Iv {base:Nat} {f:Fd} {x:List UInt8} (h:(tokL f.2)[i]? = some x):(fieldT base f)[i]? = some (f.1++58::x,((base+i:Nat):Int)):=by
 unfold fieldT;rw[List.getElem?_map,List.getElem?_zipIdx,h];simp
theorem CH:∀(fs:List Fd) (b:Nat),(∀f∈fs,f.2.length<=k)->(rawT b fs).length<=k*fs.length
 | [],b,_=>by simp[rawT]
 | f::fs,b,h=>by
  have h1:=CH fs (nextT b f) fun g j=>h g (List.mem_cons_of_mem _ j);have h2:=CK f.2;have a:=h f (List.mem_cons_self ..);unfold rawT;rw[List.length_append,CB,List.length_cons,Nat.mul_add];omega
theorem EN:∀(fs:List Fd) (b:Nat),(∀f∈fs,f.2.length<=k)->baseT b fs<=b+(64+k)*fs.length
 | [],b,_=>by simp[baseT]
 | f::fs,b,h=>by
  have h1:=EN fs (nextT b f) fun g j=>h g (List.mem_cons_of_mem _ j);have h2:=CK f.2;have a:=h f (List.mem_cons_self ..);unfold baseT;unfold nextT at h1 ⊢;rw[List.length_cons,Nat.mul_add];omega
theorem JF {l:List (List UInt8)} {x:List UInt8} (b:l[i]? = some x) {j:Nat} (h:j<2):(tkV l)[i*2+j]? = [Value.string ⟨x.toArray⟩,.int .i64 (i:Int)][j]? :=by
 unfold tkV;refine AW (cellsA:=fun p:List UInt8×Nat=> [Value.string ⟨p.1.toArray⟩,.int .i64 (p.2:Int)]) (k:=2) (fun _=>rfl) l.zipIdx i (x,i) j ?_ h;rw[List.getElem?_zipIdx,b];simp
theorem Si {base n c:Nat} {l:List (List UInt8)} (h:w.ownsRow base 207 2 (.slice A n c) n (tkV l)) (hk:∀g cs,Row w g 207 cs->Row w1 g 207 cs) {x:List UInt8} (a:l[i]? = some x) :
 ∃g o,A=some ⟨g,o,none⟩/\w1.cell? ⟨g,o+i*2,none⟩=some (.string ⟨x.toArray⟩)/\w1.cell? ⟨g,o+i*2+1,none⟩=some (.int .i64 (i:Int)):=by
 have H:=JF a (j:=0) (by omega);have h1:=JF a (j:=1) (by omega);rcases h with ⟨T,⟨_,h2⟩ | ⟨g,cap,cur,J,hb,Y,hn,U,hs,ht⟩⟩
 ·have:=(List.getElem?_eq_some_iff.1 a).1;have O:(tkV l).length=l.length*2:=by unfold tkV;rw[AU (cellsA:=fun p:List UInt8×Nat=> [Value.string ⟨p.1.toArray⟩,.int .i64 (p.2:Int)]) (k:=2) (fun _=>rfl),List.length_zipIdx]
  omega
 ·cases J;have key:∀(j:Nat) (v:Value),(tkV l)[j]? = some v->w1.cell? ⟨g,j,none⟩=some v:=fun j v b=>by
   rw[(hk g cur Y).get];rw[<-ht,List.getElem?_take]at b;split at b
   ·simpa using b
   ·cases b
  exact⟨g,0,rfl,by rw[Nat.zero_add];exact key _ _ H,by rw[Nat.zero_add];exact key _ _ h1⟩
def TI (base h:Nat) (Z:List (List UInt8×Int)) (w W:World):Prop :=
 ∃L c D,Row W h 155 #[.slice L D.length c]/\W.ownsRow base 157 2 (.slice L D.length c) D.length (tcs D)/\TmsOk W base D (oneT Z)/\Ext w W
theorem TI.ext {base h:Nat} {Z:List (List UInt8×Int)} (hi:TI base h Z w W) (j:Ext W W1):TI base h Z w W1:=by
 obtain⟨L,c,D,r,o,t,e⟩:=hi;exact⟨L,c,D,r.ext j,j.owns o,t.ext j,e.trans j⟩
theorem TI.alike {base h B:Nat} {Z:List (List UInt8×Int)} (hi:TI base h Z w W) (j:Alike B W W1) (b:w.heap.size<=B):TI base h Z w W1:=by
 obtain⟨L,c,D,r,o,t,e⟩:=hi;exact⟨L,c,D,j.row r,j.owns o,t.keep fun _ _ _ _ hb=>j.buf hb,j.ext e b⟩
def ptsOf (w:World) (x:Option Addr×Nat×Nat):List Int:=match x.1 with
 | none=> []
 | some a=>(List.range x.2.1).map fun i=>match w.cell? ⟨a.block,a.off+i,none⟩with
  | some (.int _ z)=>z
  | _=>0
theorem N6 {base:Nat} {l:List Int} (h:Buf w base t A n c (l.map IV)):ptsOf w (A,n,c)=l:=by
 have j:=h.cells;have H:=h.1;rw[List.length_map]at H;unfold ptsOf;rcases j with j | ⟨g,o,rfl,j⟩
 ·have:l = []:=List.map_eq_nil_iff.1 j;subst this;cases A with
  | none=>rfl
  | some a =>
   simp only;simp at H;rw[<-H];rfl
 ·simp only;apply List.ext_getElem?;intro i;rw[List.getElem?_map];show Option.map _ ((List.range n)[i]?)=_;by_cases hi:i<n
  ·rw[List.getElem?_range hi];have b:i<l.length:=by omega
   have:=j i (IV l[i]) (by rw[List.getElem?_map,List.getElem?_eq_getElem b];rfl);simp only[Option.map_some,this,IV];rw[List.getElem?_eq_getElem b]
  ·rw[List.getElem?_eq_none (by rw[List.length_range];omega),List.getElem?_eq_none (by omega)];rfl
end
section
open Go.RowKit
theorem HX (w:World):Calls prog 201 #[.slice none 0 0,.int .i64 0,.int .i64 0,cmpV] w fun e w'=>e = .returned (.tuple #[])/\w'=w:=by
 unfold cmpV
 go_in
 go_wp2_with fail
 go_loopw [8] (fun s8 wr=>s8 = .int .i64 1/\wr=w) (fun _ _=>0)
 case atStart=>exact⟨rfl,rfl⟩
 case round =>
  obtain⟨rfl,rfl⟩:=hrel;go_wp2_with fail
  go_end0
  exact⟨rfl,rfl⟩
theorem MB (w:World):Calls prog 176 #[.slice none 0 0,.int .i64 0,cmpV] w fun e w'=>e = .returned (.tuple #[])/\w'=w:=by
 have h:=Aa (HX w);unfold cmpV at h ⊢
 go_in
 go_wp2_with fail
 go_loopw [7,8] (fun s7 s8 wr=>s7 = .int .i64 0/\s8 = .int .i64 20/\wr=w) (fun _ _ _=>0)
 case atStart=>exact⟨rfl,rfl,rfl⟩
 case round =>
  obtain⟨rfl,rfl,rfl⟩:=hrel;go_wp2_with fail;refine h.out.mono ?_;rintro e w1 ⟨rfl,rfl⟩;go_wp2_with fail
  go_loopw [6] (fun s6 wr2=>s6 = .int .i64 20/\wr2=w1) (fun _ _=>0)
  case atStart=>exact⟨rfl,rfl⟩
  case round =>
   obtain⟨rfl,rfl⟩:=hrel;go_wp2_with fail
   go_end0
   exact⟨rfl,rfl⟩
theorem Hx (w:World):Calls prog 131 #[.slice none 0 0,cmpV] w fun e w'=>e = .returned (.tuple #[])/\w'=w:=by
 have h:=Aa (MB w);unfold cmpV at h ⊢
 go_in
 go_wp2_with fail;refine h.out.mono ?_;rintro e w1 ⟨rfl,rfl⟩;go_wp2_with fail
 go_end0
 exact⟨rfl,rfl⟩
theorem Mv (base:Nat) (L:Option Addr) (n c:Nat) (D:List TmV) (w:World) (h:w.ownsRow base 157 2 (.slice L n c) n (tcs D)) (hn:n=D.length) (j:n<=268435456) :
 Calls prog 131 #[.slice L n c,cmpV] w fun e w'=>e = .returned (.tuple #[])/\∃E,Std D E/\(n≠0->∃g,L=some ⟨g,0,none⟩/\base<=g/\TR w' g E)/\Chg (fun k=>(Value.slice L n c).ownBlock=some k) w w':=by
 rcases h with ⟨T,⟨b,O⟩ | ⟨g,cap,cur,b,hb,J,U,Y,hs,ht⟩⟩
 ·cases b;obtain rfl:D = []:=List.length_eq_zero_iff.1 hn.symm;exact(Hx w).mono fun e w' ⟨h1,h2⟩=>⟨h1,[],⟨List.Pairwise.nil,Stb.refl _⟩,fun h=>absurd rfl h,by rw[h2];exact Chg.refl _ _⟩
 ·cases b;subst hn;refine(Hw g c D w ⟨cur,J,fun i v hi=>?_⟩ j).mono ?_
  ·rw[<-ht,List.getElem?_take]at hi;split at hi
   ·simpa using hi
   ·cases hi
  ·rintro e w' ⟨h1,E,h2,a,H⟩;exact⟨h1,E,h2,fun _=>⟨g,rfl,hb,a⟩,H.mono fun k _ hk=>by rw[hk];rfl⟩
abbrev TmP:=TmV×(List UInt8×List Int)
def TmP.far (x y:TmP):Prop:=∀a b,x.1.2.1=some a->y.1.2.1=some b->a.block≠b.block
theorem TmP.far_symm {x y:TmP} (h:TmP.far x y):TmP.far y x:=fun a b j hb e=>h b a hb j e.symm
def TmP.ok (w:World) (base:Nat) (z:TmP):Prop:=z.1.1=z.2.1/\Buf w base 3 z.1.2.1 z.1.2.2.1 z.1.2.2.2 (z.2.2.map IV)
structure TZ (w:World) (base:Nat) (l:List TmP):Prop where
  each:∀z∈l,TmP.ok w base z
  apart:l.Pairwise TmP.far
theorem TZ.perm {base:Nat} {l m:List TmP} (h:TZ w base l) (j:m.Perm l):TZ w base m :=
 ⟨fun z b=>h.each z (j.mem_iff.1 b),(j.symm.pairwise_iff (fun {x y} h=>TmP.far_symm h)).1 h.apart⟩
theorem TZ.keep {base:Nat} {l:List TmP} (h:TZ w base l) (hk:∀A n c xs,Buf w base 3 A n c xs->Buf w1 base 3 A n c xs):TZ w1 base l :=
 ⟨fun z j=>⟨(h.each z j).1,hk _ _ _ _ (h.each z j).2⟩,h.apart⟩
theorem TmsOk.tz {base:Nat} {D:List TmV} {Z:List (List UInt8×Int)} (h:TmsOk w base D (oneT Z)) :
 TZ w base (D.map fun x=>(x,(x.1,ptsOf w x.2)))/\(∀x∈D,ptsOf w x.2 = [(ptsOf w x.2).headD 0])/\D.map (fun x=>(x.1,(ptsOf w x.2).headD 0))=Z:=by
 have hl:D.length=Z.length:=by have:=h.len;unfold oneT at this;rwa [List.length_map]at this
 have Y:∀(i:Nat) (x:TmV),D[i]? = some x->∃p,Z[i]? = some p/\x.1=p.1/\Buf w base 3 x.2.1 x.2.2.1 x.2.2.2 ([p.2].map IV)/\ptsOf w x.2 = [p.2]:=fun i x H=>by
  have hi:=(List.getElem?_eq_some_iff.1 H).1;obtain⟨p,J⟩:∃p,Z[i]? = some p:=⟨_,List.getElem?_eq_getElem (by omega)⟩
  have:=h.each i x (p.1,[p.2]) H (by unfold oneT;rw[List.getElem?_map,J];rfl);exact⟨p,J,this.1,this.2,N6 this.2⟩
 refine⟨⟨fun z I=>?_,?_⟩,fun x H=>?_,?_⟩
 ·obtain⟨x,H,rfl⟩:=List.mem_map.1 I;obtain⟨i,hi⟩:=List.mem_iff_getElem?.1 H;obtain⟨p,J,h1,h2,U⟩:=Y i x hi;exact⟨rfl,by simp only[U];exact h2⟩
 ·rw[List.pairwise_map,List.pairwise_iff_getElem];intro i j hi G T a b O hb;exact h.apart i j _ _ (List.getElem?_eq_getElem hi) (List.getElem?_eq_getElem G) (by omega) a b O hb
 ·obtain⟨i,hi⟩:=List.mem_iff_getElem?.1 H;obtain⟨p,J,h1,h2,U⟩:=Y i x hi;rw[U];rfl
 ·apply List.ext_getElem?;intro i;rw[List.getElem?_map];cases H:D[i]? with
  | none=>rw[List.getElem?_eq_none_iff]at H;rw[List.getElem?_eq_none (by omega)];rfl
  | some x =>
   obtain⟨p,J,h1,h2,U⟩:=Y i x H;rw[J,Option.map_some,U,h1];rfl
theorem TZ.tms {base:Nat} {l:List TmP} (h:TZ w base l):TmsOk w base (l.map Prod.fst) (l.map Prod.snd):=by
 refine⟨by rw[List.length_map,List.length_map],fun i x p Y O=>?_,fun i j x y Y G U a b T hb=>?_⟩
 ·rw[List.getElem?_map]at Y O;obtain⟨z,J,rfl⟩:=Option.map_eq_some_iff.1 Y;rw[J]at O;cases O;exact h.each z (List.mem_of_getElem? J)
 ·rw[List.getElem?_map]at Y G;obtain⟨z,J,rfl⟩:=Option.map_eq_some_iff.1 Y;obtain⟨u,I,rfl⟩:=Option.map_eq_some_iff.1 G;obtain⟨hi,rfl⟩:=List.getElem?_eq_some_iff.1 J;obtain⟨Z,rfl⟩:=List.getElem?_eq_some_iff.1 I;rcases Nat.lt_or_gt_of_ne U with H | H
  ·exact List.pairwise_iff_getElem.1 h.apart i j hi Z H a b T hb
  ·exact(List.pairwise_iff_getElem.1 h.apart j i Z hi H b a hb T).symm
theorem TZ.join {base:Nat} {a r:List TmP} {x y:TmP} (h:TZ w base (a++x::y::r)) (x':TmP) (hk:∀z∈a++r,TmP.far z x->TmP.ok w base z->TmP.ok w1 base z) (hx:TmP.ok w1 base x') (hn:x'.1.2.1=x.1.2.1\/∃b,x'.1.2.1=some b/\w.heap.size<=b.block):TZ w1 base (a++x'::r):=by
 have U:∀z∈a++r,z∈a++x::y::r:=fun z j=>by
  rcases List.mem_append.1 j with h | h
  ·exact List.mem_append_left _ h
  ·exact List.mem_append_right _ (List.mem_cons_of_mem _ (List.mem_cons_of_mem _ h))
 have H:∀z∈a++r,(TmP.far z x->TmP.far z x'):=fun z j G p q Y O=>by
  rcases hn with hn | ⟨b,hb,I⟩
  ·rw[hn]at O;exact G p q Y O
  ·rw[hb]at O;cases O;have:=(h.each z (U z j)).2.lt p Y;omega
 have Y:=List.pairwise_append.1 h.apart;have J:=List.pairwise_cons.1 Y.2.1;have T:=List.pairwise_cons.1 J.2;refine⟨fun z j=>?_,List.pairwise_append.2 ⟨Y.1,List.pairwise_cons.2 ⟨fun z j=>?_,T.2⟩,fun z j u Z=>?_⟩⟩
 ·rcases List.mem_append.1 j with j | j
  ·exact hk z (List.mem_append_left _ j) (Y.2.2 z j x (List.mem_cons_self ..)) (h.each z (List.mem_append_left _ j))
  ·rcases List.mem_cons.1 j with rfl | j
   ·exact hx
   ·exact hk z (List.mem_append_right _ j) (TmP.far_symm (J.1 z (List.mem_cons_of_mem _ j))) (h.each z (U z (List.mem_append_right _ j)))
 ·exact TmP.far_symm (H z (List.mem_append_right _ j) (TmP.far_symm (J.1 z (List.mem_cons_of_mem _ j))))
 ·rcases List.mem_cons.1 Z with rfl | Z
  ·exact H z (List.mem_append_left _ j) (Y.2.2 z j x (List.mem_cons_self ..))
  ·exact Y.2.2 z j u (List.mem_cons_of_mem _ (List.mem_cons_of_mem _ Z))
theorem M7 {base g n c size:Nat} (h:w.ownsRow base e size (.slice (some ⟨g,0,none⟩) n c) n xs) (j:Nat) (u:Value) :
 (w.setCell ⟨g,j,none⟩ u).ownsRow base e size (.slice (some ⟨g,0,none⟩) n c) n (xs.set j u):=by
 rcases h with ⟨H,⟨h2,_⟩ | ⟨g',cap,cur,Y,hb,a,hn,b,hs,ht⟩⟩
 ·cases h2
 ·cases Y;refine⟨by rw[List.length_set];exact H,.inr ⟨g,_,cur.setIfInBounds j u,rfl,hb,Row.put (w:=w) a j u,hn,b,by rw[Array.size_setIfInBounds];exact hs,?_⟩⟩;rw[Array.toList_setIfInBounds,List.take_set,ht]
theorem Qf (D:List TmV) (x:TmV) (y:Option Addr×Nat×Nat):(tcs (D ++ [x])).set (D.length*2+1) (.slice y.1 y.2.1 y.2.2)=tcs (D ++ [(x.1,y)]):=by
 rw[DX,DX,List.set_append_right _ _ (by rw[Ft];omega),Ft,show D.length*2+1 - D.length*2=1 by omega];rfl
theorem GU {β:Type} (r:List (List UInt8×List β)) (x:List UInt8×List β) (p:List UInt8×β):joinS (r ++ [x]) p=if x.1=p.1 then r ++ [(x.1,x.2 ++ [p.2])] else r ++ [x] ++ [(p.1,[p.2])]:=by
 unfold joinS;rw[List.getLast?_concat,List.dropLast_concat]
theorem Qe {base n c:Nat} {D:List TmV} (h:w.ownsRow base 157 2 (.slice A n c) n (tcs D)) {x:TmV} (H:D[i]? = some x) :
 ∃g cur,A=some ⟨g,0,none⟩/\base<=g/\Row w g 157 cur/\w.cell? ⟨g,i*2,none⟩=some (.string ⟨x.1.toArray⟩)/\w.cell? ⟨g,i*2+1,none⟩=some (.slice x.2.1 x.2.2.1 x.2.2.2):=by
 have hi:=(List.getElem?_eq_some_iff.1 H).1;rcases h with ⟨J,⟨_,h2⟩ | ⟨g,cap,cur,U,hb,a,hn,O,hs,ht⟩⟩
 ·rw[Ft]at J;omega
 ·cases U;have Y:TR w g D:=⟨cur,a,fun j v b=>by
   rw[<-ht,List.getElem?_take]at b;split at b
   ·simpa using b
   ·cases b⟩
  have:=Y.at_ H;exact⟨g,cur,rfl,hb,a,this.1,this.2⟩
theorem Pu {β:Type} {r:List (List UInt8×List β)} (h:∀z∈r,z.2.length<=k) (p:List UInt8×β):∀z∈joinS r p,z.2.length<=k+1:=by
 intro z j;rcases List.eq_nil_or_concat r with rfl | ⟨r0,x,b⟩
 ·unfold joinS at j;simp only[List.getLast?_nil,List.mem_singleton]at j;rw[j];simp
 ·rw[List.concat_eq_append]at b;subst b;rw[GU]at j;have a:=h x (by simp);split at j
  ·rcases List.mem_append.1 j with j | j
   ·have:=h z (List.mem_append_left _ j);omega
   ·rw[List.mem_singleton.1 j,List.length_append];simp;omega
  ·rcases List.mem_append.1 j with j | j
   ·have:=h z j;omega
   ·rw[List.mem_singleton.1 j];simp
theorem Kc {β:Type}:∀(l:List (List UInt8×β)) (r:List (List UInt8×List β)) (k:Nat),(∀z∈r,z.2.length<=k)->∀z∈l.foldl joinS r,z.2.length<=k+l.length
 | [],r,k,h=>h
 | p::l,r,k,h=>fun z j=>by
  have:=Kc l (joinS r p) (k+1) (Pu h p) z j;rw[List.length_cons];omega
theorem Gr {base n c b m size:Nat} (hb:Buf w base e A n c xs) (Y:w.grownBy w1 (Value.slice A n c).ownBlock) (J:w.ownsRow b t size v m ys) (ht:t≠e):w1.ownsRow b t size v m ys :=
 (Chg.of_grown (S:=fun j=>(Value.slice A n c).ownBlock=some j) Y (fun k _ h=>h)).owns J fun g Y H=>by
  obtain⟨cur,U,_⟩:=Ae J Y;cases A with
  | none=>simp[Value.ownBlock]at H
  | some a =>
   simp[Value.ownBlock]at H;exact hb.unlike U (fun h=>ht h.symm) a rfl H
theorem Rs {n c b n2 c2:Nat} {A B:Option Addr} (J:w.grownBy w1 (Value.slice A n c).ownBlock) (h:Buf w b t B n2 c2 ys) (Y:∀p q,B=some p->A=some q->p.block≠q.block):Buf w1 b t B n2 c2 ys :=
 h.grown J fun a H j=>by
  cases A with
  | none=>simp[Value.ownBlock]at j
  | some q =>
   simp[Value.ownBlock]at j;exact Y a q H rfl j.symm
end
section
open Go.RowKit Go.Maps
structure IdE where
  s:List UInt8
  ps:List PoC
  A:Option Addr
  c:Nat
def IdE.val (x:IdE):Value:= .slice x.A x.ps.length x.c
def IdE.own (x:IdE) (base:Nat) (W:World):Prop:=W.ownsRow base 89 2 (.slice x.A x.ps.length x.c) x.ps.length (pcells x.ps)
def IdE.far (x y:IdE):Prop:=∀a b,x.A=some a->y.A=some b->a.block≠b.block
def posAt (base:Nat) (W:World) (y:PoC):Prop:=Buf W base 3 y.A y.pos.length y.c (y.pos.map IV)/\y.pos.length<=1000000000
structure IX (base M:Nat) (done:List (List UInt8×Po)) (E:List IdE) (W:World):Prop where
  map:∃L,MapL prog 9 W M L/\∀p,p∈L↔∃x∈E,p=(strV x.s,x.val)
  own:∀x∈E,x.own base W/\psP x.ps=valsOf done x.s/\x.ps ≠ []
  pos:∀x∈E,∀y∈x.ps,posAt base W y
  uniq:∀x∈E,∀y∈E,x.s=y.s->x=y
  apart:∀x∈E,∀y∈E,x.s≠y.s->IdE.far x y
  all:∀p∈done,∃x∈E,x.s=p.1
theorem HG {a b:List UInt8} (h:strV a=strV b):a=b:=by
 unfold strV at h;injection h with h;injection h with h;simpa using h
theorem IX.new {base:Nat}:IX base w.heap.size [] [] (w.alloc (.map #[] 0)) :=
 ⟨⟨[],MapL.made w,fun p=>by simp⟩,nofun,nofun,nofun,nofun,nofun⟩
theorem IX.ext {base M:Nat} {done:List (List UInt8×Po)} {E:List IdE} (h:IX base M done E W) (a:Ext W W1):IX base M done E W1:=by
 obtain⟨⟨L,U,T⟩,H,Y,Z,O,j⟩:=h;exact⟨⟨L,U.ext a,T⟩,fun x b=>⟨a.owns (H x b).1,(H x b).2⟩,fun x b y J=>⟨(Y x b y J).1.ext a,(Y x b y J).2⟩,Z,O,j⟩
theorem Kk:Keyed prog 9:=string_keyed underlying9
theorem DJ (hs:s.length<=9223372036854775807):keyOf prog 9 (strV s)=some (.string s):=by
 have h:=WideMaps.keyOf_string_mk (P:=prog) underlying9 (s:=⟨s.toArray⟩) (by show s.toArray.size<=9223372036854775807;simpa using hs);simpa [strV]using h
def IdG (E:List IdE) (s:List UInt8) (x:IdE):Prop:=x.s=s/\(x∈E\/(x.A=none/\x.c=0/\x.ps = []/\∀y∈E,y.s≠s))
theorem IX.get {base M:Nat} {done:List (List UInt8×Po)} {E:List IdE} (h:IX base M done E W) (s:List UInt8) (hs:s.length<=9223372036854775807) :
 ∃x,IdG E s x/\x.own base W/\psP x.ps=valsOf done s/\∀W1,Ext W W1->(Instr.lookup 94 (.map (some M)) (strV s) false).run prog W1 = .ok (.slice x.A x.ps.length x.c) W1:=by
 obtain⟨L,a,I⟩:=h.map;have G:∀W,(zeroValue 47).run prog W = .ok (.slice none 0 0) W:=fun W=>by kernel_rfl
 rcases a.look Kk underlying94 (DJ hs) (G W) false with ⟨v,U,_⟩ | ⟨j,_⟩
 ·obtain⟨x,hx,he⟩:=(I _).1 U;injection he with h1 h2;have O:=HG h1;subst O;have:=h.own x hx;refine⟨x,⟨rfl,.inl hx⟩,this.1,this.2.1,fun W1 H=>?_⟩;rcases (a.ext H).look Kk underlying94 (DJ hs) (G W1) false with ⟨u,J,Y⟩ | ⟨j,_⟩
  ·rw[Y,a.unique J U,h2];rfl
  ·exact absurd rfl (j _ U)
 ·have b:∀y∈E,y.s≠s:=fun y T e=>j (strV y.s,y.val) ((I _).2 ⟨y,T,rfl⟩) (by rw[e]);refine⟨⟨s,[],none,0⟩,⟨rfl,.inr ⟨rfl,rfl,rfl,b⟩⟩,World.ownsRow_nil _ _ _ _,?_,fun W1 H=>?_⟩
  ·show []=_;exact(Df fun p hp e=>by
    obtain⟨y,T,Z⟩:=h.all p hp;exact b y T (Z.trans e)).symm
  ·rcases (a.ext H).look Kk underlying94 (DJ hs) (G W1) false with ⟨u,J,_⟩ | ⟨_,Y⟩
   ·exact absurd rfl (j _ J)
   ·exact Y
theorem DK {base M:Nat} {L:List (Value×Value)} (h:MapL prog 9 W M L) {e size n:Nat} (a:W.ownsRow base e size v n xs):v.ownBlock≠some M:=fun b=>by
 obtain⟨cur,j,_⟩:=Ae a b;obtain⟨⟨es,cl,h1,_⟩,_⟩:=h;unfold Row at j;rw[h1]at j;cases j
theorem DL {L:List (Value×Value)} (h:MapL prog 9 W M L) {g t:Nat} (j:Row W g t cs):g≠M:=fun b=>by
 obtain⟨⟨es,cl,h1,_⟩,_⟩:=h;unfold Row at j;rw[b,h1]at j;cases j
theorem MapL.same {k:TypeId} {L L':List (Value×Value)} (h:MapL prog k w m L) (a:MapL prog k w m L'):L=L':=by
 obtain⟨⟨es,cl,h1,h2,_⟩,_⟩:=h;obtain⟨⟨es',cl',j,b,_⟩,_⟩:=a;rw[h1]at j;cases j;exact h2.symm.trans b
theorem Kw (l:List PoC) (x:PoC):psP (l ++ [x])=psP l ++ [x.po]:=by unfold psP;rw[List.map_append];rfl
theorem F9 (l:List PoC) (x:PoC):pcells (l ++ [x])=pcells l++x.cells:=by
 unfold pcells;rw[List.flatMap_append];simp
theorem IX.put {base M:Nat} {done:List (List UInt8×Po)} {E:List IdE} (h:IX base M done E W) {x:IdE} (hx:IdG E s x) (e0:x.own base W) (y1:psP x.ps=valsOf done s)
 {y:PoC} (hg:W.grownBy w8 (Value.slice x.A x.ps.length x.c).ownBlock) (ho:w8.ownsRow base 89 2 (.slice A1 (x.ps.length+1) c1) (x.ps.length+1) (pcells x.ps++y.cells))
 (Z:(Value.slice A1 (x.ps.length+1) c1).ownBlock=(Value.slice x.A x.ps.length x.c).ownBlock\/∃k,(Value.slice A1 (x.ps.length+1) c1).ownBlock=some k/\W.heap.size<=k) (hy:posAt base W y)
 (h9:∀L,MapL prog 9 w8 M L->(∀p,p∈L↔∃x∈E,p=(strV x.s,x.val))->∃L',MapL prog 9 w9 M L'/\Put L (strV s) (.slice A1 (x.ps.length+1) c1) L'/\w8.grownBy w9 (some M)) :
 IX base M (done ++ [(s,y.po)]) (⟨s,x.ps ++ [y],A1,c1⟩::E.filter fun z=>decide (z.s≠s)) w9:=by
 obtain⟨L,hL,hm⟩:=h.map;have g0:MapL prog 9 w8 M L:=hL.grown hg (DK hL e0);obtain⟨L',n0,d0,v0⟩:=h9 L g0 hm;have hlen:(x.ps ++ [y]).length=x.ps.length+1:=by rw[List.length_append];rfl
 have j:∀z,z∈(E.filter fun z=>decide (z.s≠s))↔z∈E/\z.s≠s:=fun z=>by rw[List.mem_filter];simp
 have k1:∀g t cs,Row w8 g t cs->Row w9 g t cs:=fun g t cs hr=>hr.grown v0 fun e=>DL g0 hr (by injection e);have k0:∀ {b e size n:Nat} {v:Value} {xs:List Value},w8.ownsRow b e size v n xs->w9.ownsRow b e size v n xs:=fun hh =>
  (Chg.of_grown (S:=fun k=>k=M) v0 (fun k _ e=>by injection e with e;exact e.symm)).owns hh fun g r0 e=>DK g0 hh (by rw[r0,e])
 have I:∀z∈E,z.s≠s->∀a,x.A=some a->∀b,z.A=some b->b.block≠a.block:=fun z H U a J b hb=>by
  rcases hx.2 with y0 | ⟨hn,_⟩
  ·exact h.apart z H x y0 (fun e=>U (e.trans hx.1)) b a hb J
  ·rw[hn]at J;cases J
 have m0:∀z∈E,z.s≠s->z.own base w9:=fun z H U=>by
  refine k0 ?_;refine(Chg.of_grown (S:=fun k=>(Value.slice x.A x.ps.length x.c).ownBlock=some k) hg (fun k _ e=>e)).owns (h.own z H).1 fun g p0 q0=>?_;cases c0:z.A with
  | none=>rw[c0]at p0;simp[Value.ownBlock]at p0
  | some b =>
   cases T:x.A with
   | none=>rw[T]at q0;simp[Value.ownBlock]at q0
   | some a =>
    rw[c0]at p0;rw[T]at q0;simp[Value.ownBlock]at p0 q0;exact I z H U a T b c0 (p0.trans q0.symm)
 have O:∀u,posAt base W u->posAt base w9 u:=fun u Y=>by
  have q:=Ci e0 hg Y.1 (by decide);exact⟨q.grown v0 fun a J e=>by
   injection e with e;rcases q.2.2 with ⟨h0,_⟩ | ⟨g',cur,l0,_,hr,_⟩
   ·rw[h0]at J;cases J
   ·rw[l0]at J;cases J;exact DL g0 hr e.symm,Y.2⟩
 have j1:valsOf (done ++ [(s,y.po)]) s=valsOf done s ++ [y.po]:=by rw[AK,Dz,if_pos rfl]
 have m1:∀t,t≠s->valsOf (done ++ [(s,y.po)]) t=valsOf done t:=fun t ht=>by rw[AK,Dz,if_neg (fun e=>ht e.symm),List.append_nil]
 refine⟨⟨L',n0,fun p=>?_⟩,fun z H=>?_,fun z H u Y=>?_,fun z H u Y G=>?_,fun z H u Y G=>?_,fun p hp=>?_⟩
 ·rw[d0.mem];constructor
  ·rintro(rfl | ⟨hp,U⟩)
   ·exact⟨_,List.mem_cons_self ..,by unfold IdE.val;simp only[hlen]⟩
   ·obtain⟨z,H,rfl⟩:=(hm _).1 hp;exact⟨z,List.mem_cons_of_mem _ ((j z).2 ⟨H,fun e=>U (by rw[e])⟩),rfl⟩
  ·rintro⟨z,H,rfl⟩;rcases List.mem_cons.1 H with rfl | H
   ·exact .inl (by unfold IdE.val;simp only[hlen])
   ·obtain⟨j0,t0⟩:=(j z).1 H;exact .inr ⟨(hm _).2 ⟨z,j0,rfl⟩,fun e=>t0 (HG e)⟩
 ·rcases List.mem_cons.1 H with rfl | H
  ·refine⟨?_,?_,by simp⟩
   ·show w9.ownsRow base _ 2 (.slice A1 (x.ps ++ [y]).length c1) (x.ps ++ [y]).length (pcells (x.ps ++ [y]));rw[hlen,F9];exact k0 ho
   ·show psP (x.ps ++ [y])=valsOf _ s;rw[Kw,y1,j1]
  ·obtain⟨j0,t0⟩:=(j z).1 H;exact⟨m0 z j0 t0,by rw[m1 _ t0];exact(h.own z j0).2.1,(h.own z j0).2.2⟩
 ·rcases List.mem_cons.1 H with rfl | H
  ·rcases List.mem_append.1 Y with Y | Y
   ·rcases hx.2 with y0 | ⟨_,_,hn,_⟩
    ·exact O u (h.pos x y0 u Y)
    ·rw[hn]at Y;cases Y
   ·rw[List.mem_singleton.1 Y];exact O y hy
  ·exact O u (h.pos z ((j z).1 H).1 u Y)
 ·rcases List.mem_cons.1 H with rfl | H <;> rcases List.mem_cons.1 Y with rfl | Y
  ·rfl
  ·exact absurd G.symm ((j u).1 Y).2
  ·exact absurd G ((j z).1 H).2
  ·exact h.uniq z ((j z).1 H).1 u ((j u).1 Y).1 G
 ·have key:∀z∈E,z.s≠s->∀a b,A1=some a->z.A=some b->b.block≠a.block:=fun z H U a b J hb e=>by
   rcases Z with Z | Z
   ·rw[J]at Z;cases T:x.A with
    | none=>rw[T]at Z;simp[Value.ownBlock]at Z
    | some a' =>
     rw[T]at Z;simp[Value.ownBlock]at Z;exact I z H U a' T b hb (e.trans Z)
   ·obtain⟨k,Z,h1⟩:=Z;rw[J]at Z;simp[Value.ownBlock]at Z;obtain⟨cur,hc,_⟩:=Ae (h.own z H).1 (g:=b.block) (by rw[hb];rfl);have:=hc.lt;omega
  rcases List.mem_cons.1 H with rfl | H <;> rcases List.mem_cons.1 Y with rfl | Y
  ·exact absurd rfl G
  ·exact fun a b J hb e=>key u ((j u).1 Y).1 ((j u).1 Y).2 a b J hb e.symm
  ·exact fun a b J hb=>key z ((j z).1 H).1 ((j z).1 H).2 b a hb J
  ·exact h.apart z ((j z).1 H).1 u ((j u).1 Y).1 G
 ·rcases List.mem_append.1 hp with hp | hp
  ·obtain⟨z,H,f0⟩:=h.all p hp;by_cases hs:p.1=s
   ·exact⟨_,List.mem_cons_self ..,hs.symm⟩
   ·exact⟨z,List.mem_cons_of_mem _ ((j z).2 ⟨H,by rw[f0];exact hs⟩),f0⟩
  ·rw[List.mem_singleton.1 hp];exact⟨_,List.mem_cons_self ..,rfl⟩
end
section
open Go.RowKit Go.Maps
def shiftP (k:Int) (l:List Po):List Po:=l.map fun p=>(p.1+k,p.2)
def JoinA (w:World) (L:List Po) (e:Ending) (w':World):Prop:=∃(D:List PoC) (C:Option Addr) (n q:Nat),e = .returned (.tuple #[.slice C n q,.int .i64 0])/\n=D.length/\psP D=L/\PosOk w' C D/\Ext w w'
theorem Done.add {C A1 A8:Option Addr} {i q c1 c8 n:Nat} {D:List PoC} {d:Int} {p:List Int} (h:Done w w3 C i q D) (hn:n=p.length) (b:n<=1000000000) (J:Buf w3 w.heap.size 3 A1 n c1 (p.map IV))
 (O:w8.ownsRow w.heap.size 89 2 (.slice A8 (i+1) c8) (i+1) (pcells D ++ [.int .i64 d,.slice A1 n c1])) (U:w3.grownBy w8 (Value.slice C i q).ownBlock):Done w w8 A8 (i+1) c8 (D ++ [⟨d,p,A1,c1⟩]):=by
 have H:Chg (fun k=>(Value.slice C i q).ownBlock=some k) w3 w8:=Chg.of_grown U fun _ _ h=>h;refine⟨by rw[List.length_append,h.len];rfl,by rw[F9];show World.ownsRow _ _ _ _ _ _ (_ ++ [.int .i64 d,.slice A1 p.length c1]);rw[<-hn];exact O,fun x j=>?_⟩;have hb:Buf w3 w.heap.size 3 x.A x.pos.length x.c (x.pos.map IV)/\x.pos.length<=1000000000:=by
  rcases List.mem_append.1 j with j | j
  ·exact h.each x j
  ·rw[List.mem_singleton.1 j];exact⟨by rw[<-hn];exact J,by rw[<-hn];exact b⟩
 exact⟨hb.1.chg H fun a Y hs=>by
  obtain⟨cs,T,_⟩:=Ae h.own hs;exact hb.1.unlike T (by decide) a Y rfl,hb.2⟩
theorem UL {l:List PoC} (h:okPs (psP l)=true) {x:PoC} (j:x∈l):0<x.pos.length:=by
 unfold okPs at h;rw[Bool.and_eq_true,List.all_eq_true]at h;have:=h.2 x.po (List.mem_map.2 ⟨x,j,rfl⟩);rw[Bool.and_eq_true]at this;exact of_decide_eq_true this.1
theorem UU (pa pb:List PoC) (A B:Option Addr) (m c k b:Nat) (by_:Nat) (w:World) (hm:m=pa.length) (hk:k=pb.length) (ha:PosOk w A pa) (hb:PosOk w B pb) (h1:okPs (psP pa)=true) (h2:okPs (psP pb)=true)
 (a3:by_<=65536) (h3:okPs (psP pa++shiftP by_ (psP pb))=true) (b3:m+k<=1000000) (f1:∀x∈pb,-65536<=x.doc/\x.doc<=65536) :
 Calls prog 38 #[.slice A m c,.slice B k b,.int .i64 (by_:Int)] w (JoinA w (psP pa++shiftP by_ (psP pb))):=by
 have d1:=Aa (Ku pa A m c w hm ha (by omega));have i0:=Aa fun W (hE:Ext w W)=>Ku pb B k b W hk (hb.ext hE) (by omega);have k3:=Aa fun D C n q W (hn:n=List.length D) h9 h=>Ku D C n q W hn h h9;rw[show pa.map PoC.po=psP pa from rfl,h1,if_pos rfl]at d1;rw[show pb.map PoC.po=psP pb from rfl,h2,if_pos rfl]at i0;have d2:=Aa UP;obtain⟨Z,hZ⟩:=Ab (psP pa++shiftP by_ (psP pb));rw[<-hZ]at h3 ⊢;have t3:=Aa fun x (H:x∈pa)=>UL h1 H;have x3:=Aa fun x (H:x∈pb)=>UL h2 H;replace hZ:=Aa hZ;replace h3:=Aa h3;replace hm:=Aa hm;replace hk:=Aa hk;replace ha:=Aa ha;replace hb:=Aa hb;replace f1:=Aa f1;clear h1 h2
 go_in
 go_wp2_with fail;refine d1.out.mono ?_;rintro e w1 ⟨rfl,e0⟩;replace i0:=Aa (i0.out w1 e0);replace e0:=Aa e0;go_wp2_with fail;refine i0.out.mono ?_;rintro e w2 ⟨rfl,m1⟩;replace m1:=Aa (e0.out.trans m1);clear d1 i0 e0;go_wp2_with fail
 go_loopw [8,32] (fun s8 s32 wr=>∃(i r q:Nat) (C:Option Addr) (D:List PoC),s8 = .slice C r q/\s32 = .int .i64 (i:Int)/\i<=m/\r<=0+i/\Hid (psP D=(psP (pa.take i)))/\Hid (Done w wr C r q D)/\Hid (Ext w wr)) (fun _ s32 _=>m - (intOf s32).toNat)
 case atStart=>exact⟨0,0,0,none,[],rfl,rfl,by omega,by omega,Aa rfl,Aa ⟨rfl,⟨rfl,.inl ⟨rfl,rfl⟩⟩,nofun⟩,m1⟩
 case round =>
  obtain⟨i,r,q,C,D,rfl,rfl,hi,hr,hD,ho,hE⟩:=hrel;by_cases o1:i<m
  ·obtain⟨x,H⟩:∃x,pa[i]? = some x:=⟨_,List.getElem?_eq_getElem (by rw[<-hm.out];exact o1)⟩
   have y0:=List.mem_of_getElem? H;obtain⟨g,o,rfl,k0,k1⟩:=Bc (ha.out.cells.ext hE.out) H;obtain⟨h0,n0⟩:=ha.out.each x y0;have l0:=t3.out x y0;have t0:psP (pa.take (i+1))=psP (pa.take i) ++ [x.po]:=by
    rw[List.take_add_one,H];exact Kw _ _
   obtain⟨d,p,xA,xc⟩:=x;simp only at k0 k1 h0 l0 n0;obtain⟨xa,rfl⟩:∃xa,xA=some xa:=by
    obtain⟨g',o',h',_⟩:=h0.at_ (by rw[List.length_map];exact l0);exact⟨_,h'⟩
   obtain⟨n,hn⟩:=Ab p.length;rw[<-hn]at k1 n0;obtain⟨W,hW⟩:=Ab (wr.alloc (Obj.cells #[.int .i64 d,.slice (some xa) n xc] 89));have j:Ext wr W:=by rw[hW];exact(Ext.refl wr).alloc _
   have a:Row W wr.heap.size 89 #[.int .i64 d,.slice (some xa) n xc]:=by rw[hW];exact Row.new wr _ _
   obtain⟨bq,J⟩:=Ab wr.heap.size;rw[<-J]at a;have Y:=hE.out.trans j;have G:(W.cell? ⟨bq,0,none⟩=some (.int .i64 d)/\W.cell? ⟨bq,1,none⟩=some (.slice (some xa) n xc)/\Ext w W):=⟨a.cell 0 rfl,a.cell 1 rfl,Y⟩
   have T:(W.drew.cell? ⟨bq,0,none⟩=some (.int .i64 d)/\W.drew.cell? ⟨bq,1,none⟩=some (.slice (some xa) n xc)/\Ext w W.drew):=⟨a.cell 0 rfl,a.cell 1 rfl,Y.drew⟩
   have m0:=j.owns ho.out.own;have j0:∀x,Ext W x->(x.cell? ⟨bq,0,none⟩=some (.int .i64 d)/\x.cell? ⟨bq,1,none⟩=some (.slice (some xa) n xc)/\Ext w x)->Calls prog 75 #[.slice (some xa) n xc] x fun e w'=>∃A1 c1,e = .returned (.slice A1 n c1)/\w'.ownsRow w.heap.size 3 1 (.slice A1 n c1) n (p.map IV)/\Ext W w'/\((w'.cell? ⟨bq,0,none⟩=some (.int .i64 d)/\w'.cell? ⟨bq,1,none⟩=some (.slice (some xa) n xc)/\Ext w w')):=fun x x1 H=>(d2.out xa n xc p x hn (h0.ext H.2.2) (by omega)).mono (by
    rintro e w' ⟨A1,c1,rfl,y1,h1⟩;exact⟨A1,c1,rfl,AD y1 H.2.2.size,x1.trans h1,h1.cell H.1,h1.cell H.2.1,H.2.2.trans h1⟩)
   have O:=j0 W (Ext.refl _) G;have U:=j0 W.drew (Ext.refl _).drew T;have p0:∀(y:World) o,(y.cell? ⟨bq,0,none⟩=some (.int .i64 d)/\y.cell? ⟨bq,1,none⟩=some (.slice (some xa) n xc)/\Ext w y)->((y.alloc o).cell? ⟨bq,0,none⟩=some (.int .i64 d)/\(y.alloc o).cell? ⟨bq,1,none⟩=some (.slice (some xa) n xc)/\Ext w (y.alloc o)):=fun y o hy=>⟨((Ext.refl y).alloc o).cell hy.1,((Ext.refl y).alloc o).cell hy.2.1,hy.2.2.alloc o⟩
   have I:∀y y8,(y.cell? ⟨bq,0,none⟩=some (.int .i64 d)/\y.cell? ⟨bq,1,none⟩=some (.slice (some xa) n xc)/\Ext w y)->y.grownBy y8 (Value.slice C r q).ownBlock->(y8.cell? ⟨bq,0,none⟩=some (.int .i64 d)/\y8.cell? ⟨bq,1,none⟩=some (.slice (some xa) n xc)/\Ext w y8):=fun y y8 hy hg=>by
    have hb:∀k,(Value.slice C r q).ownBlock=some k->w.heap.size<=k/\k<wr.heap.size:=fun k hk=>by obtain⟨_,hr,hb⟩:=Ae ho.out.own hk;exact⟨hb,hr.lt⟩
    have hC:Chg (fun k=>(Value.slice C r q).ownBlock=some k) y y8:=Chg.of_grown hg fun _ _ h=>h;exact⟨hC.cell hy.1 fun h=>by have:=(hb _ h).2;rw[J]at this;simp at this,hC.cell hy.2.1 fun h=>by have:=(hb _ h).2;rw[J]at this;simp at this,hy.2.2.grown hg fun k hk=>(hb k hk).1⟩
   replace m0:=Aa m0;replace p0:=Aa p0;replace I:=Aa I;replace O:=Aa O;replace U:=Aa U;have k2:=(hE.out.trans j).size;replace T:=Aa T;replace G:=Aa G;replace j:=Aa j;replace t0:=Aa t0;replace hn:=Aa hn;clear h0 H a j0 Y;go_wp2_with fail;rw[<-hW,<-J];clear hW J
   go_region_held3 (fun x=>(x.cell? ⟨bq,0,none⟩=some (.int .i64 d)/\x.cell? ⟨bq,1,none⟩=some (.slice (some xa) n xc)/\Ext w x)) (first | exact T.out | exact G.out | exact p0.out _ _ ‹_› | exact I.out _ _ f0 g0 | exact ‹_›) (first
    | (go_at_call 75;first | refine O.out.mono ?_ | refine U.out.mono ?_;rintro e w3 ⟨A1,c1,rfl,a1,q0,f0⟩)
    | (refine OH (us:= [.int .i64 d,.slice A1 n c1]) (m:=1) Pb rfl (q0.owns m0.out) rfl (.tmp 36) (.tmp 43) rfl rfl rfl rfl (Az rfl) (by omega) (Nat.le_trans k2 q0.size) (fun A8 c8 w8 q2 g0=>?_)))
   have j1:=ho.out.chg (Chg.of_ext (j.out.trans q0) (fun _=>False)) fun _ h=>h.elim;have i1:=j1.add (p:=p) (d:=d) hn.out (by omega) (Buf.of_own a1) q2 g0;go_wp2_with fail;go_roundw
   case rel=>exact⟨i+1,r+1,c8,A8,D ++ [⟨d,p,A1,c1⟩],rfl,by go_num,by omega,by omega,Aa (by rw[Kw,hD.out,t0.out];rfl),Aa i1,Aa (I.out _ _ f0 g0).2.2⟩
   case measure=>simp only[intOf];omega
  ·have q1:psP D=psP pa++shiftP by_ (psP (pb.take 0)):=by
    rw[hD.out,List.take_of_length_le (by rw[<-hm.out];omega)];show _=_ ++ [];rw[List.append_nil]
   replace q1:=Aa q1;clear hD;obtain⟨wo,rfl⟩:=Ab wr;go_wp2_with fail
   go_loopw [8,48] (fun s8 s48 wr=>∃(i r q:Nat) (C:Option Addr) (D:List PoC),s8 = .slice C r q/\s48 = .int .i64 (i:Int)/\i<=k/\r<=m+i/\Hid (psP D=psP pa++shiftP by_ (psP (pb.take i)))/\Hid (Done w wr C r q D)/\Hid (Ext w wr)) (fun _ s48 _=>k - (intOf s48).toNat)
   case atStart=>exact⟨0,r,q,C,D,rfl,rfl,by omega,by omega,q1,ho,hE⟩
   case round =>
    obtain⟨i,r,q,C,D,rfl,rfl,hi,hr,hD,ho,hE⟩:=hrel;by_cases o1:i<k
    ·obtain⟨x,H⟩:∃x,pb[i]? = some x:=⟨_,List.getElem?_eq_getElem (by rw[<-hk.out];exact o1)⟩
     have y0:=List.mem_of_getElem? H;obtain⟨g,o,rfl,k0,k1⟩:=Bc (hb.out.cells.ext hE.out) H;obtain⟨h0,n0⟩:=hb.out.each x y0;have l0:=x3.out x y0;have m3:=f1.out x y0;have t0:psP (pb.take (i+1))=psP (pb.take i) ++ [x.po]:=by
      rw[List.take_add_one,H];exact Kw _ _
     obtain⟨d,p,xA,xc⟩:=x;simp only at k0 k1 h0 l0 n0 m3;obtain⟨xa,rfl⟩:∃xa,xA=some xa:=by
      obtain⟨g',o',h',_⟩:=h0.at_ (by rw[List.length_map];exact l0);exact⟨_,h'⟩
     obtain⟨dd,j3⟩:∃dd,d+(by_:Int)=dd:=⟨_,rfl⟩
     have y3 : -9223372036854775808<=dd/\dd<=9223372036854775807:=by omega
     have d3:IntKind.i64.wrap dd=dd:=by rw[IntKind.wrap_i64];omega
     obtain⟨n,hn⟩:=Ab p.length;rw[<-hn]at k1 n0;obtain⟨W,hW⟩:=Ab (wr.alloc (Obj.cells #[.int .i64 d,.slice (some xa) n xc] 89));have j:Ext wr W:=by rw[hW];exact(Ext.refl wr).alloc _
     have a:Row W wr.heap.size 89 #[.int .i64 d,.slice (some xa) n xc]:=by rw[hW];exact Row.new wr _ _
     obtain⟨bq,J⟩:=Ab wr.heap.size;rw[<-J]at a;have Y:=hE.out.trans j;have G:(W.cell? ⟨bq,0,none⟩=some (.int .i64 d)/\W.cell? ⟨bq,1,none⟩=some (.slice (some xa) n xc)/\Ext w W):=⟨a.cell 0 rfl,a.cell 1 rfl,Y⟩
     have T:(W.drew.cell? ⟨bq,0,none⟩=some (.int .i64 d)/\W.drew.cell? ⟨bq,1,none⟩=some (.slice (some xa) n xc)/\Ext w W.drew):=⟨a.cell 0 rfl,a.cell 1 rfl,Y.drew⟩
     have m0:=j.owns ho.out.own;have j0:∀x,Ext W x->(x.cell? ⟨bq,0,none⟩=some (.int .i64 d)/\x.cell? ⟨bq,1,none⟩=some (.slice (some xa) n xc)/\Ext w x)->Calls prog 75 #[.slice (some xa) n xc] x fun e w'=>∃A1 c1,e = .returned (.slice A1 n c1)/\w'.ownsRow w.heap.size 3 1 (.slice A1 n c1) n (p.map IV)/\Ext W w'/\((w'.cell? ⟨bq,0,none⟩=some (.int .i64 d)/\w'.cell? ⟨bq,1,none⟩=some (.slice (some xa) n xc)/\Ext w w')):=fun x x1 H=>(d2.out xa n xc p x hn (h0.ext H.2.2) (by omega)).mono (by
      rintro e w' ⟨A1,c1,rfl,y1,h1⟩;exact⟨A1,c1,rfl,AD y1 H.2.2.size,x1.trans h1,h1.cell H.1,h1.cell H.2.1,H.2.2.trans h1⟩)
     have O:=j0 W (Ext.refl _) G;have U:=j0 W.drew (Ext.refl _).drew T;have p0:∀(y:World) o,(y.cell? ⟨bq,0,none⟩=some (.int .i64 d)/\y.cell? ⟨bq,1,none⟩=some (.slice (some xa) n xc)/\Ext w y)->((y.alloc o).cell? ⟨bq,0,none⟩=some (.int .i64 d)/\(y.alloc o).cell? ⟨bq,1,none⟩=some (.slice (some xa) n xc)/\Ext w (y.alloc o)):=fun y o hy=>⟨((Ext.refl y).alloc o).cell hy.1,((Ext.refl y).alloc o).cell hy.2.1,hy.2.2.alloc o⟩
     have I:∀y y8,(y.cell? ⟨bq,0,none⟩=some (.int .i64 d)/\y.cell? ⟨bq,1,none⟩=some (.slice (some xa) n xc)/\Ext w y)->y.grownBy y8 (Value.slice C r q).ownBlock->(y8.cell? ⟨bq,0,none⟩=some (.int .i64 d)/\y8.cell? ⟨bq,1,none⟩=some (.slice (some xa) n xc)/\Ext w y8):=fun y y8 hy hg=>by
      have hb:∀k,(Value.slice C r q).ownBlock=some k->w.heap.size<=k/\k<wr.heap.size:=fun k hk=>by obtain⟨_,hr,hb⟩:=Ae ho.out.own hk;exact⟨hb,hr.lt⟩
      have hC:Chg (fun k=>(Value.slice C r q).ownBlock=some k) y y8:=Chg.of_grown hg fun _ _ h=>h;exact⟨hC.cell hy.1 fun h=>by have:=(hb _ h).2;rw[J]at this;simp at this,hC.cell hy.2.1 fun h=>by have:=(hb _ h).2;rw[J]at this;simp at this,hy.2.2.grown hg fun k hk=>(hb k hk).1⟩
     replace m0:=Aa m0;replace p0:=Aa p0;replace I:=Aa I;replace O:=Aa O;replace U:=Aa U;have k2:=(hE.out.trans j).size;replace T:=Aa T;replace G:=Aa G;replace j:=Aa j;replace t0:=Aa t0;replace hn:=Aa hn;clear h0 H a j0 Y;go_wp2_with fail;rw[<-hW,<-J];clear hW J
     go_region_held3 (fun x=>(x.cell? ⟨bq,0,none⟩=some (.int .i64 d)/\x.cell? ⟨bq,1,none⟩=some (.slice (some xa) n xc)/\Ext w x)) (first | exact T.out | exact G.out | exact p0.out _ _ ‹_› | exact I.out _ _ f0 g0 | exact ‹_›) (first
      | (go_at_call 75;first | refine O.out.mono ?_ | refine U.out.mono ?_;rintro e w3 ⟨A1,c1,rfl,a1,q0,f0⟩)
      | (refine OH (us:= [.int .i64 dd,.slice A1 n c1]) (m:=1) Pb rfl (q0.owns m0.out) rfl (.tmp 52) (.tmp 61) rfl rfl rfl rfl (Az rfl) (by omega) (Nat.le_trans k2 q0.size) (fun A8 c8 w8 q2 g0=>?_)))
     have j1:=ho.out.chg (Chg.of_ext (j.out.trans q0) (fun _=>False)) fun _ h=>h.elim;have i1:=j1.add (p:=p) (d:=dd) hn.out (by omega) (Buf.of_own a1) q2 g0;go_wp2_with fail;go_roundw
     case rel=>exact⟨i+1,r+1,c8,A8,D ++ [⟨dd,p,A1,c1⟩],rfl,by go_num,by omega,by omega,Aa (by rw[Kw,hD.out,t0.out];unfold shiftP;rw[List.map_append,List.append_assoc,<-j3];rfl),Aa i1,Aa (I.out _ _ f0 g0).2.2⟩
     case measure=>simp only[intOf];omega
    ·have x0:psP D=Z:=by rw[hD.out,List.take_of_length_le (by rw[<-hk.out];omega),hZ.out]
     have r0:=k3.out D C r q wr ho.out.len.symm (by omega) ho.out.pos;rw[show D.map PoC.po=psP D from rfl,x0,h3.out,if_pos rfl]at r0;replace r0:=Aa r0;replace x0:=Aa x0;go_wp2_with fail;refine r0.out.mono ?_;rintro e w5 ⟨rfl,x2⟩;go_wp2_with fail;go_ret2;exact⟨D,C,r,q,rfl,ho.out.len.symm,x0.out,ho.out.pos.ext x2,hE.out.trans x2⟩
end
section
open Go.RowKit
theorem Dw {e:Ev} {p:List UInt8×List Int} (h:p∈termsL e):checkE e.fs=0/\p.2=valsOf (rawT 0 e.fs) p.1/\p.2 ≠ []:=by
 unfold termsL at h;split at h
 ·rename_i j;exact⟨j,((BM _).mem p).1 h⟩
 ·cases h
theorem Ky:∀(fs:List Fd) (b:Nat) (q:List UInt8×Int),q∈rawT b fs->∃f∈fs,∃w∈tokL f.2,q.1=f.1++58::w
 | [],b,q,h=>by cases h
 | f::fs,b,q,h=>by
  unfold rawT at h;rcases List.mem_append.1 h with h | h
  ·unfold fieldT at h;obtain⟨p,H,rfl⟩:=List.mem_map.1 h;obtain⟨w,i⟩:=p;have:=List.mem_zipIdx H;exact⟨f,List.mem_cons_self ..,w,by rw[this.2.2];exact List.getElem_mem _,rfl⟩
  ·obtain⟨g,a,w,Y,j⟩:=Ky fs _ q h;exact⟨g,List.mem_cons_of_mem _ a,w,Y,j⟩
theorem Fv {β:Type} {ps:List (List UInt8×β)} (h:valsOf ps s ≠ []):∃p∈ps,p.1=s:=Decidable.byContradiction fun hn=>h (Df fun p j e=>hn ⟨p,j,e⟩)
theorem HM {β:Type} (ps:List (List UInt8×β)) (s:List UInt8):(valsOf ps s).length<=ps.length:=by
 unfold valsOf;rw[List.length_map];exact List.length_filter_le ..
theorem EH {e:Ev} {p:List UInt8×List Int} (h:p∈termsL e):1<=p.1.length/\p.1.length<=65:=by
 obtain⟨b,h1,h2⟩:=Dw h;rw[h1]at h2;obtain⟨q,J,j⟩:=Fv h2;obtain⟨f,H,w,U,a⟩:=Ky _ _ q J;have Y:=(AM b).2 f H;have O:=FU U;rw[<-j,a,List.length_append,List.length_cons];omega
theorem Jd {e:Ev} {p:List UInt8×List Int} (h:p∈termsL e):p.2.length<=65536:=by
 obtain⟨j,h1,h2⟩:=Dw h;have a:=HM (rawT 0 e.fs) p.1;have H:=CH (k:=4096) e.fs 0 fun f b=>((AM j).2 f b).2;have Y:=(AM j).1;rw[h1];omega
theorem JI {β:Type} (p:List UInt8×β):∀(l:List (List UInt8×List β)),(addG p l).length<=l.length+1
 | []=>by simp[addG]
 | x::xs=>by
  have:=JI p xs;unfold addG;split
  ·simp only[List.length_cons];omega
  ·split
   ·simp only[List.length_cons];omega
   ·simp only[List.length_cons];omega
theorem Iy {β:Type}:∀(ps:List (List UInt8×β)) (l:List (List UInt8×List β)),(ps.foldl (fun l p=>addG p l) l).length<=l.length+ps.length
 | [],l=>by simp
 | p::ps,l=>by
  have h1:=Iy ps (addG p l);have h2:=JI p l;rw[List.foldl_cons,List.length_cons];omega
theorem EX {β:Type} (ps:List (List UInt8×β)):(grp ps).length<=ps.length:=by
 have:=Iy ps [];unfold grp;simpa using this
theorem MD (e:Ev):(termsL e).length<=65536:=by
 unfold termsL;split
 ·rename_i h;have b:=EX (rawT 0 e.fs);have a:=CH (k:=4096) e.fs 0 fun f j=>((AM h).2 f j).2;have H:=(AM h).1;omega
 ·simp
end
section
open Go.RowKit
section
variable {β:Type}
def gsum (f:β->Nat) (r:List (List UInt8×List β)):Nat:=(r.map fun x=>(x.2.map f).sum).sum
theorem Ki (f:β->Nat) (p:List UInt8×β):∀(l:List (List UInt8×List β)),gsum f (addG p l)=gsum f l+f p.2
 | []=>by simp[addG,gsum]
 | x::xs=>by
  have ih:=Ki f p xs;unfold gsum at ih ⊢;unfold addG;split
  ·simp only[List.map_cons,List.sum_cons];omega
  ·split
   ·simp only[List.map_cons,List.sum_cons,List.map_append,List.sum_append,List.map_nil,List.sum_nil];omega
   ·simp only[List.map_cons,List.sum_cons,List.map_nil,List.sum_nil];omega
theorem IC (f:β->Nat):∀(ps:List (List UInt8×β)) (l:List (List UInt8×List β)),gsum f (ps.foldl (fun l p=>addG p l) l)=gsum f l+(ps.map fun p=>f p.2).sum
 | [],l=>by simp
 | p::ps,l=>by
  rw[List.foldl_cons,IC f ps,Ki,List.map_cons,List.sum_cons];omega
theorem EZ (f:β->Nat) (ps:List (List UInt8×β)):gsum f (grp ps)=(ps.map fun p=>f p.2).sum:=by
 unfold grp;rw[IC];simp[gsum]
theorem GR (r:List (List UInt8×List β)):gsum (fun _=>1) r=(r.map fun x=>x.2.length).sum:=by
 unfold gsum;congr 1;refine List.map_congr_left fun x _=>?_
 induction x.2 with
 | nil=>rfl
 | cons y ys ih=>rw[List.map_cons,List.sum_cons,ih,List.length_cons];omega
theorem JE (ps:List β):(ps.map fun _=>1).sum=ps.length:=by
 induction ps with
 | nil=>rfl
 | cons y ys ih=>rw[List.map_cons,List.sum_cons,ih,List.length_cons];omega
end
theorem Hf:∀(fs:List Fd) (b:Nat),(rawT b fs).length<=(putFs fs).length
 | [],b=>by simp[rawT]
 | f::fs,b=>by
  have h1:=Hf fs (nextT b f);have h2:=CK f.2;have j:f.2.length<=(putF f).length:=by unfold putF txL;simp only[List.length_append];omega
  have h:putFs (f::fs)=putF f++putFs fs:=rfl;unfold rawT;rw[h,List.length_append,CB,List.length_append];omega
theorem MF (e:Ev):((termsL e).map fun p=>p.2.length).sum<=(putE e).length:=by
 unfold termsL;split
 ·have h1:=EZ (fun _=>1) (rawT 0 e.fs);rw[GR,JE]at h1;rw[h1];have h2:=Hf e.fs 0;unfold putE;simp only[List.length_append];omega
 ·simp
theorem K3 (e:Ev):(termsL e).length<=(putE e).length:=by
 unfold termsL;split
 ·have h1:=EX (rawT 0 e.fs);have h2:=Hf e.fs 0;unfold putE;simp only[List.length_append];omega
 ·simp
theorem G6:∀(P:List Dc) (i:Nat) (lo:Int),((pairsD i P).map fun p=>p.2.2.length).sum<=(blockD lo P).length
 | [],i,lo=>by simp[pairsD]
 | d::t,i,lo=>by
  have h1:=G6 t (i+1) d.1;have h2:=MF d.2;unfold pairsD blockD oneD;rw[List.map_append,List.sum_append,List.map_map];simp only[List.length_append];have h:(((termsL d.2).map ((fun(p:List UInt8×Po)=>p.2.2.length)∘fun p=>(p.1,((i:Int),p.2))))).sum=((termsL d.2).map fun p=>p.2.length).sum:=rfl;omega
theorem G4:∀(P:List Dc) (i:Nat) (lo:Int),(pairsD i P).length<=(blockD lo P).length
 | [],i,lo=>by simp[pairsD]
 | d::t,i,lo=>by
  have h1:=G4 t (i+1) d.1;have h2:=K3 d.2;unfold pairsD blockD oneD;rw[List.length_append,List.length_map];simp only[List.length_append];omega
theorem Nc {n:Int}:∀ {l:List Int} {lo:Int},l.Pairwise (fun a b=>a<b)->(∀x∈l,lo<x/\x<n)->risB n lo l=true
 | [],lo,_,_=>rfl
 | x::t,lo,Y,h=>by
  obtain⟨h1,h2⟩:=List.pairwise_cons.1 Y;have j:=h x (List.mem_cons_self ..);unfold risB;rw[Nc h2 fun y H=>⟨h1 y H,(h y (List.mem_cons_of_mem _ H)).2⟩];simp[j.1,j.2]
theorem Nb:∀(fs:List Fd) (b:Nat),(rawT b fs).Pairwise (fun x y=>x.2<y.2)/\∀x∈rawT b fs,(b:Int)<=x.2/\x.2<(baseT b fs:Nat)
 | [],b=>⟨List.Pairwise.nil,nofun⟩
 | f::fs,b=>by
  obtain⟨h1,h2⟩:=Nb fs (nextT b f);have Y:nextT b f<=baseT (nextT b f) fs:=by
   have key:∀(fs:List Fd) (b:Nat),b<=baseT b fs:=fun fs=>by
    induction fs with
    | nil=>exact fun b=>Nat.le_refl _
    | cons g gs ih=>exact fun b=>Nat.le_trans (by unfold nextT;omega) (ih (nextT b g))
   exact key _ _
  have U:nextT b f=b+(64+(tokL f.2).length):=rfl;have a:∀x∈fieldT b f,(b:Int)<=x.2/\x.2<(b+(tokL f.2).length:Nat):=fun x h=>by
   unfold fieldT at h;obtain⟨p,O,rfl⟩:=List.mem_map.1 h;have:=List.mem_zipIdx O;simp only;omega
  have H:(fieldT b f).Pairwise (fun x y=>x.2<y.2):=by
   unfold fieldT;rw[List.pairwise_map];rw[List.pairwise_iff_getElem];intro i j hi Z J;simp only[List.getElem_zipIdx];omega
  unfold rawT baseT;refine⟨List.pairwise_append.2 ⟨H,h1,fun x h y T=>?_⟩,fun x h=>?_⟩
  ·have a1:=a x h;have a2:=h2 y T;omega
  ·rcases List.mem_append.1 h with h | h
   ·have a1:=a x h;omega
   ·have a2:=h2 x h;omega
theorem ME {e:Ev} {p:List UInt8×List Int} (h:p∈termsL e):risB 1048576 (-1) p.2=true:=by
 obtain⟨j,h1,h2⟩:=Dw h;obtain⟨r1,r2⟩:=Nb e.fs 0;have hb:=EN (k:=4096) e.fs 0 fun f b=>((AM j).2 f b).2;have Y:=(AM j).1;rw[h1];unfold valsOf;refine Nc ?_ fun x H=>?_
 ·rw[List.pairwise_map];exact r1.sublist List.filter_sublist
 ·obtain⟨q,a,rfl⟩:=List.mem_map.1 H;have:=r2 q (List.mem_filter.1 a).1;omega
theorem KD {β:Type} {s:List UInt8}:∀ {l:List (List UInt8×β)},Ris l->(valsOf l s).length<=1
 | [],_=>by simp[valsOf]
 | x::t,h=>by
  obtain⟨h1,h2⟩:=List.pairwise_cons.1 h;have ih:=KD (s:=s) h2;rw[K7];split
  ·rename_i j;rw[Df fun y b e=>by
    have:=h1 y b;rw[e,j]at this;exact List.lt_irrefl _ this]
   simp
  ·simpa using ih
theorem ED (s:List UInt8):∀(P:List Dc) (i:Nat) (lo:Int),lo<i->i+P.length<=65536 ->
 risB 65536 lo ((valsOf (pairsD i P) s).map (·.1))=true/\∀x∈valsOf (pairsD i P) s,(decide (0<x.2.length)&&risB 1048576 (-1) x.2)=true
 | [],i,lo,_,_=>⟨rfl,nofun⟩
 | d::t,i,lo,h1,h2=>by
  rw[List.length_cons]at h2;unfold pairsD;rw[AK,EJ (fun x:List Int=>((i:Int),x))];have J:Ris (termsL d.2):=by
   unfold termsL;split
   ·exact(BM _).up
   ·exact List.Pairwise.nil
  have j:=KD (s:=s) J;have h:∀x∈valsOf (termsL d.2) s,(decide (0<x.length)&&risB 1048576 (-1) x)=true:=fun x Y=>by
   unfold valsOf at Y;obtain⟨p,b,rfl⟩:=List.mem_map.1 Y;have b:=(List.mem_filter.1 b).1;rw[ME b,Bool.and_true];exact decide_eq_true (List.length_pos_iff.2 (Dw b).2.2)
  cases U:valsOf (termsL d.2) s with
  | nil =>
   have ih:=ED s t (i+1) lo (by omega) (by omega);simpa using ih
  | cons x xs =>
   rw[U]at j h;have a:xs = []:=by
    cases xs with
    | nil=>rfl
    | cons y ys=>simp at j
   subst a;have ih:=ED s t (i+1) i (by omega) (by omega);refine⟨?_,fun y H=>?_⟩
   ·show risB 65536 lo ((i:Int)::(valsOf (pairsD (i+1) t) s).map (·.1))=true;unfold risB;rw[ih.1];simp[h1];omega
   ·rcases List.mem_cons.1 H with rfl | H
    ·exact h x (List.mem_cons_self ..)
    ·exact ih.2 y H
theorem Q5 {P:List Dc} (a:P.length<=65536) {r:List UInt8×List Po} (b:r∈rowsD P):okPs r.2=true/\r.2 ≠ []/\r.2=valsOf (pairsD 0 P) r.1:=by
 have h:=((BM (pairsD 0 P)).mem r).1 b;have j:=ED r.1 P 0 (-1) (by omega) (by omega);rw[<-h.1]at j;refine⟨?_,h.2,h.1⟩;unfold okPs;rw[j.1,Bool.true_and];exact List.all_eq_true.2 j.2
theorem G5:∀ {P:List Dc} {i:Nat} {q:List UInt8×Po},q∈pairsD i P->∃d∈P,∃p∈termsL d.2,p.1=q.1
 | [],i,q,h=>by cases h
 | d::t,i,q,h=>by
  unfold pairsD at h;rcases List.mem_append.1 h with h | h
  ·obtain⟨p,j,rfl⟩:=List.mem_map.1 h;exact⟨d,List.mem_cons_self ..,p,j,rfl⟩
  ·obtain⟨d',hd,r⟩:=G5 h;exact⟨d',List.mem_cons_of_mem _ hd,r⟩
theorem DW {P:List Dc} {r:List UInt8×List Po} (Y:r∈rowsD P):1<=r.1.length/\r.1.length<=65:=by
 have h:=((BM (pairsD 0 P)).mem r).1 Y;have h2:=h.2;rw[h.1]at h2;obtain⟨q,H,b⟩:=Fv h2;obtain⟨d,_,p,a,j⟩:=G5 H;have:=EH a;rw[j,b]at this;exact this
theorem Jx (P:List Dc):Ris (rowsD P):=(BM (pairsD 0 P)).up
theorem Ja:∀(l:List Int) (lo:Int),-1<=lo->risB 1048576 lo l=true->(stepsL lo l).length<=10*l.length
 | [],lo,_,_=>by simp[stepsL]
 | n::t,lo,b,h=>by
  obtain⟨h1,h2,j⟩:=BW h;have ih:=Ja t n (by omega) j;have a:=Ag (n:=(n - lo - 1).toNat) (by omega);unfold stepsL;rw[List.length_append,List.length_cons];omega
theorem Gz:∀(L:List Po) (lo:Int),-1<=lo->risB 65536 lo (L.map (·.1))=true->(∀x∈L,(decide (0<x.2.length)&&risB 1048576 (-1) x.2)=true)->(blockPo lo L).length<=20*L.length+10*(L.map fun x=>x.2.length).sum
 | [],lo,_,_,_=>by simp[blockPo]
 | p::t,lo,U,h,b=>by
  rw[List.map_cons]at h;obtain⟨h1,h2,a⟩:=BW h;have j:=b p (List.mem_cons_self ..);rw[Bool.and_eq_true]at j;have ih:=Gz t p.1 (by omega) a fun x J=>b x (List.mem_cons_of_mem _ J);have hs:=Ja p.2 (-1) (by omega) j.2;have O:=DU j.2 (by omega);have H:=Ag (n:=(p.1 - lo - 1).toNat) (by omega);have Y:=Ag (n:=p.2.length) (by omega);unfold blockPo onePo;simp only[List.length_append,List.length_cons,List.map_cons,List.sum_cons];omega
theorem GA {L:List Po} (h:okPs L=true):(blockPo (-1) L).length<=20*L.length+10*(L.map fun x=>x.2.length).sum:=by
 unfold okPs at h;rw[Bool.and_eq_true]at h;exact Gz L (-1) (by omega) h.1 (List.all_eq_true.1 h.2)
theorem J7 {L:List Po} (h:okPs L=true) (hs:20*L.length+10*(L.map fun x=>x.2.length).sum<=50000000):(encPs L).length<=10+40*L.length+10*(L.map fun x=>x.2.length).sum:=by
 have h1:=GA h;have h2:=E8 h (by omega) (chunkL 32 L).length;rw[List.take_length]at h2;have j:=AO (k:=32) (by omega) L;have b:=Ag (n:=L.length) (by omega);unfold encPs;simp only[List.length_append];omega
end
section
open Go.RowKit
theorem F5 {α:Type} {f g:α->Nat}:∀(l:List α),(∀x∈l,f x<=g x)->(l.map f).sum<=(l.map g).sum
 | [],_=>Nat.le_refl _
 | x::t,h=>by
  have h1:=h x (List.mem_cons_self ..);have h2:=F5 t fun y j=>h y (List.mem_cons_of_mem _ j);simp only[List.map_cons,List.sum_cons];omega
theorem Dq {α:Type} {f:α->Nat}:∀ {l:List α} {x:α},x∈l->f x<=(l.map f).sum
 | y::t,x,h=>by
  rw[List.map_cons,List.sum_cons];rcases List.mem_cons.1 h with rfl | h
  ·omega
  ·have:=Dq (f:=f) h;omega
theorem Nh {α:Type} (f g:α->Nat) (a b c:Nat):∀(l:List α),(l.map fun x=>a+b*f x+c*g x).sum=a*l.length+b*(l.map f).sum+c*(l.map g).sum
 | []=>by simp
 | x::t=>by
  have ih:=Nh f g a b c t;simp only[List.map_cons,List.sum_cons,List.length_cons,Nat.mul_add];omega
theorem N5 (rs:List (List UInt8×List Po)):(postB rs).length=(rs.map fun r=>(encPs r.2).length).sum:=by
 unfold postB
 induction rs with
 | nil=>rfl
 | cons r t ih=>rw[List.flatMap_cons,List.length_append,ih,List.map_cons,List.sum_cons]
theorem Cc:∀(rs:List (List UInt8×List Po)) (o:Nat),(enOf o rs).length=rs.length
 | [],o=>rfl
 | r::t,o=>by
  unfold enOf;rw[List.length_cons,Cc t,List.length_cons]
theorem GH:∀(rs:List (List UInt8×List Po)) (o:Nat) (e:En),e∈enOf o rs->∃r∈rs,e.t=r.1/\o<=e.off/\e.off+e.len<=o+(postB rs).length/\e.len=(encPs r.2).length/\e.n=r.2.length
 | [],o,e,h=>by cases h
 | r::t,o,e,h=>by
  unfold enOf at h;have b:(postB (r::t)).length=(encPs r.2).length+(postB t).length:=by unfold postB;rw[List.flatMap_cons,List.length_append]
  rcases List.mem_cons.1 h with rfl | h
  ·exact⟨r,List.mem_cons_self ..,rfl,Nat.le_refl _,by simp only[b];omega,rfl,rfl⟩
  ·obtain⟨r',j,h1,h2,Y,a,H⟩:=GH t _ e h;exact⟨r',List.mem_cons_of_mem _ j,h1,by omega,by rw[b];omega,a,H⟩
theorem MU:∀(rs:List (List UInt8×List Po)) (o:Nat),Ris rs->(enOf o rs).Pairwise fun a b=>a.t<b.t
 | [],o,_=>List.Pairwise.nil
 | r::t,o,h=>by
  obtain⟨h1,h2⟩:=List.pairwise_cons.1 h;unfold enOf;refine List.pairwise_cons.2 ⟨fun e Y=>?_,MU t _ h2⟩;obtain⟨r',j,H,_⟩:=GH t _ e Y;rw[H];exact h1 r' j
structure SmP (P:List Dc):Prop where
  ok:okDs P=true
  sz:(blockD 0 P).length<=70000
structure SegB (P:List Dc):Prop where
  n:P.length<=65536
  pairs:(pairsD 0 P).length<=70000
  rows:(rowsD P).length<=70000
  each:∀r∈rowsD P,okPs r.2=true/\r.2 ≠ []/\r.2.length<=70000/\(blockPo (-1) r.2).length<=50000000/\(encPs r.2).length<=5000000
  posts:(postB (rowsD P)).length<=5000000
  ens:OkEs (enOf 0 (rowsD P))
  dic:(encEs (enOf 0 (rowsD P))).length<=16777216
  docs:(encDs P).length<=16777216
  times:(timesD 0 P).length<=16777216
  bits:8<=(ofB ((rowsD P).map (·.1))).length/\(ofB ((rowsD P).map (·.1))).length<=131072
theorem SmP.seg {P:List Dc} (h:SmP P):SegB P:=by
 have b:=h.ok;have k0:=h.sz;have hn:P.length<=65536:=by
  unfold okDs at b;rw[Bool.and_eq_true]at b;exact of_decide_eq_true b.1
 have I:=G4 P 0 0;have h0:=G6 P 0 0;have p0:(rowsD P).length<=(pairsD 0 P).length:=EX _;have Y:=EZ (fun _=>1) (pairsD 0 P);rw[GR,JE]at Y;have J:=EZ (fun x:Po=>x.2.length) (pairsD 0 P);unfold gsum at J;have Z:grp (pairsD 0 P)=rowsD P:=rfl;rw[Z]at Y J;have H:∀r∈rowsD P,okPs r.2=true/\r.2 ≠ []/\r.2.length<=70000/\(r.2.map fun x=>x.2.length).sum<=70000:=fun r j=>by
  have h1:=Q5 hn j;have h2:=Dq (f:=fun x:List UInt8×List Po=>x.2.length) j;have U:=Dq (f:=fun x:List UInt8×List Po=>(x.2.map fun(y:Po)=>y.2.length).sum) j;exact⟨h1.1,h1.2.1,by omega,by omega⟩
 have T:(postB (rowsD P)).length<=5000000:=by
  rw[N5];refine Nat.le_trans (F5 (g:=fun r:List UInt8×List Po=>10+40*r.2.length+10*(r.2.map fun(x:Po)=>x.2.length).sum) _ fun r j=>?_) ?_
  ·have:=H r j;exact J7 this.1 (by omega)
  ·rw[Nh (fun r:List UInt8×List Po=>r.2.length) (fun r:List UInt8×List Po=>(r.2.map fun(x:Po)=>x.2.length).sum)];omega
 have a:∀e∈enOf 0 (rowsD P),okEn e/\e.t ≠ []:=fun e O=>by
  obtain⟨r,j,h1,h2,U,h4,h5⟩:=GH _ _ e O;have hk:=DW j;have q0:=H r j;refine⟨⟨by rw[h1];exact hk.2,by omega,by omega,by omega⟩,fun e0=>?_⟩;rw[h1]at e0;rw[e0]at hk;simp at hk
 refine⟨hn,by omega,by omega,fun r j=>?_,T,⟨by rw[Cc];omega,a,MU _ _ (Jx P)⟩,?_,?_,?_,?_⟩
 ·have h1:=H r j;have h2:=GA h1.1;have U:=J7 h1.1 (by omega);exact⟨h1.1,h1.2.1,h1.2.2.1,by omega,by omega⟩
 ·have h1:=EE (cs:=chunkL 16 (enOf 0 (rowsD P))) fun c G=>⟨fun e O=>(a e (GB (by omega) G e O)).1,(Fz (by omega) G).2⟩
  have h2:=AO (k:=16) (by omega) (enOf 0 (rowsD P));rw[Cc]at h2;have U:=Ag (n:=(enOf 0 (rowsD P)).length) (by rw[Cc];omega);unfold encEs;rw[List.length_append];omega
 ·have h1:=Gy b (by omega) (chunkL 16 P).length;rw[List.take_length]at h1;have h2:=AO (k:=16) (by omega) P;have U:=Ag (n:=P.length) (by omega);unfold encDs;simp only[List.length_append];omega
 ·have:=Dx P 0;omega
 ·rw[QW];exact EU _
structure DocC where
  seq:Int
  e:Ev
  A:Option Addr
  c:Nat
def DocC.cells (x:DocC):List Value:= [.int .i64 x.seq,.int .i64 x.e.at_,.slice x.A x.e.fs.length x.c]
def DocC.val (x:DocC):Value:= .agg #[.int .i64 x.seq,.int .i64 x.e.at_,.slice x.A x.e.fs.length x.c]
def DocC.dc (x:DocC):Dc:=(x.seq,x.e)
def dcells (l:List DocC):List Value:=l.flatMap DocC.cells
def dcs (l:List DocC):List Dc:=l.map DocC.dc
theorem Er (l:List DocC):(dcells l).length=l.length*3:=AU (cellsA:=DocC.cells) (k:=3) (fun _=>rfl) l
theorem Ep {l:List DocC} {x:DocC} (h:l[i]? = some x) {j:Nat} (b:j<3):(dcells l)[i*3+j]? = x.cells[j]? :=AW (cellsA:=DocC.cells) (k:=3) (fun _=>rfl) l i x j h b
theorem AR {l:List DocC} (h:Cells w A (dcells l)) {x:DocC} (j:l[i]? = some x):∃g o,A=some ⟨g,o,none⟩/\w.cell? ⟨g,o+i*3,none⟩=some (.int .i64 x.seq)/\w.cell? ⟨g,o+i*3+1,none⟩=some (.int .i64 x.e.at_)/\w.cell? ⟨g,o+i*3+2,none⟩=some (.slice x.A x.e.fs.length x.c):=by
 obtain⟨g,o,a,b⟩:=h.at_ (by rw[Er];have:=(List.getElem?_eq_some_iff.1 j).1;omega);refine⟨g,o,a,?_,?_,?_⟩
 ·have:=b (i*3+0) _ (by rw[Ep j (by omega)];rfl);exact this
 ·have:=b (i*3+1) _ (by rw[Ep j (by omega)];rfl);exact this
 ·have:=b (i*3+2) _ (by rw[Ep j (by omega)];rfl);exact this
structure DocsOk (w:World) (A:Option Addr) (l:List DocC):Prop where
  cells:Cells w A (dcells l)
  each:∀x∈l,x.e.Ok w x.A/\I64ok' x.e.at_/\I64ok' x.seq
theorem DocsOk.ext {l:List DocC} (h:DocsOk w A l) (j:Ext w w1):DocsOk w1 A l:=⟨h.cells.ext j,fun x b=>⟨(h.each x b).1.ext j,(h.each x b).2⟩⟩
theorem DocsOk.nil (w:World) (A:Option Addr):DocsOk w A []:=⟨.inl rfl,nofun⟩
theorem DocsOk.part {ps:List DocC} (h:DocsOk w A ps) (j:∀a,A=some a->a.spot=none) (i m:Nat):DocsOk w (A.map fun a=>a.add (i*3)) ((ps.drop i).take m):=by
 refine⟨?_,fun x b=>h.each x (List.mem_of_mem_drop (List.mem_of_mem_take b))⟩;unfold dcells;rw[Bh (f:=DocC.cells) (k:=3) (fun _=>rfl),Bo (f:=DocC.cells) (k:=3) (fun _=>rfl)];exact h.cells.part j _ _
def ckD (lo:Int) (l:List Dc):Bool:=risB 1099511627777 lo (l.map (·.1))&&l.all okD
theorem JW (lo:Int) (x:Dc) (t:List Dc):ckD lo (x::t)=(decide (lo<x.1)&&decide (x.1<1099511627777)&&decide (checkE x.2.fs=0)&&ckD x.1 t):=by
 unfold ckD;rw[List.map_cons,risB,List.all_cons];unfold okD;cases decide (lo<x.1) <;> cases decide (x.1<1099511627777) <;> cases decide (checkE x.2.fs=0) <;> simp
theorem Gg (ds:List DocC) (A:Option Addr) (m c:Nat) (w:World) (hm:m=ds.length) (h:DocsOk w A ds) (l0:m<=1000000000) :
 Calls prog 78 #[.slice A m c] w fun e w'=>e = .returned (.int .i64 (if okDs (dcs ds) then 0 else 120))/\Ext w w':=by
 have p0:=Aa (fun(e:Ev) B d W h=>Dj e B d W h);obtain⟨Z,G⟩:=Ab (okDs (dcs ds));rw[<-G];have hlen:(dcs ds).length=m:=by unfold dcs;rw[List.length_map,hm]
 by_cases e0:65536<m
 ·have t0:Z=false:=by
   rw[G];unfold okDs;rw[hlen,decide_eq_false (by omega)];rfl
  subst t0;have v0:(65536:Int)<m:=by omega
  clear G p0 h
  go_in
  go_wp2_with fail;go_ret;exact⟨rfl,Ext.refl _⟩
 ·have v0:¬ (65536:Int)<m:=by omega
  have I:Z=ckD 0 (dcs ds):=by
   rw[G];unfold okDs;rw[hlen,decide_eq_true (by omega)];rfl
  replace G:=Aa I;clear I;replace hm:=Aa hm;replace h:=Aa h;replace hlen:=Aa hlen
  go_in
  go_wp2_with fail
  go_loopw [3,11] (fun s3 s11 wr=>∃(i:Nat) (la:Int),s3 = .int .i64 la/\s11 = .int .i64 (i:Int)/\i<=m/\Hid (Z=ckD la (dcs (ds.drop i)))/\Hid (Ext w wr)) (fun _ s11 _=>m - (intOf s11).toNat)
  case atStart=>exact⟨0,0,rfl,rfl,by omega,Aa (by rw[G.out];rfl),Aa (Ext.refl w)⟩
  case round =>
   obtain⟨i,la,rfl,rfl,hi,hb,hE⟩:=hrel;by_cases c0:i<m
   ·obtain⟨x,U⟩:∃x,ds[i]? = some x:=⟨_,List.getElem?_eq_getElem (by rw[<-hm.out];exact c0)⟩
    obtain⟨g,o,hA,x0,y0,h0⟩:=AR (h.out.cells.ext hE.out) U;subst hA;have hx:=h.out.each x (List.mem_of_getElem? U);have j:=hb.out;rw[AY U]at j;unfold dcs at j;rw[List.map_cons,JW]at j;obtain⟨W2,b⟩:=Ab (wr.alloc (.cells #[.int .i64 x.seq,.int .i64 x.e.at_,.slice x.A x.e.fs.length x.c] 71));have Y:Ext w W2:=by rw[b];exact hE.out.alloc _
    have a:=p0.out x.e x.A x.c W2 (hx.1.ext Y);have H:Row W2 wr.heap.size 71 #[.int .i64 x.seq,.int .i64 x.e.at_,.slice x.A x.e.fs.length x.c]:=by rw[b];exact Row.new wr _ _
    obtain⟨g2,J⟩:=Ab wr.heap.size;rw[<-J]at H;have r0:=H.cell 0 rfl;have r1:=H.cell 1 rfl;have r2:=H.cell 2 rfl;unfold Ev.val at a;obtain⟨seq,⟨at_,fs⟩,B,cB⟩:=x;change Z=(decide (la<seq)&&decide (seq<1099511627777)&&decide (checkE fs=0)&&ckD seq (dcs (ds.drop (i+1))))at j;simp only at x0 y0 h0 a b r0 r1 r2;obtain⟨fl,T⟩:=Ab fs.length;rw[<-T]at h0 a b H r2;replace a:=Aa a;replace H:=Aa H;replace J:=Aa J;replace Y:=Aa Y;replace b:=Aa b;replace T:=Aa T;replace hx:=Aa hx;replace U:=Aa U;clear hb;by_cases h1:seq<=la
    ·rw[decide_eq_false (by omega),Bool.false_and,Bool.false_and,Bool.false_and]at j;subst j;go_upto_region 7 with fail;rw[<-b.out,<-J.out];go_wp2_with fail;go_ret;exact⟨rfl,Y.out⟩
    ·by_cases h2:1099511627776<seq
     ·rw[decide_eq_false (p:=seq<1099511627777) (by omega),Bool.and_false,Bool.false_and,Bool.false_and]at j;subst j;go_upto_region 7 with fail;rw[<-b.out,<-J.out];go_wp2_with fail;go_ret;exact⟨rfl,Y.out⟩
     ·rw[decide_eq_true (p:=la<seq) (by omega),decide_eq_true (p:=seq<1099511627777) (by omega),Bool.true_and,Bool.true_and]at j;by_cases h3:checkE fs=0
      ·rw[decide_eq_true h3,Bool.true_and]at j;rw[h3]at a;replace j:=Aa j;go_upto_region 7 with fail;rw[<-b.out,<-J.out];go_wp2_with fail;refine a.out.mono ?_;rintro e w3 ⟨rfl,O⟩;have q0:=(H.out.ext O).cell 0 rfl;go_wp2_with fail;exact⟨⟨i+1,seq,rfl,rfl,by omega,j,Aa (Y.out.trans O)⟩,by simp only[intOf];omega⟩
      ·rw[decide_eq_false h3,Bool.false_and]at j;subst j;obtain⟨k,hk⟩:=Ab (checkE fs);rw[<-hk]at a h3;have f0:¬ (k:Int)=0:=by omega
       replace hk:=Aa hk;go_upto_region 7 with fail;rw[<-b.out,<-J.out];go_wp2_with fail;refine a.out.mono ?_;rintro e w3 ⟨rfl,O⟩;go_wp2_with fail;go_ret;exact⟨rfl,Y.out.trans O⟩
   ·obtain rfl:i=m:=by omega
    have m0:Z=true:=by rw[hb.out,List.drop_eq_nil_of_le (by rw[<-hm.out];exact Nat.le_refl _)];rfl
    subst m0;go_wp2_with fail;go_ret;exact⟨rfl,hE.out⟩
theorem MN {base n c:Nat} (h:Buf w base e A n c xs):A=none->c=0:=fun j=>by
 rcases h.2.2 with ⟨_,h⟩ | ⟨g,_,h,_⟩
 ·exact h
 ·rw[h]at j;cases j
theorem OQ (ds:List DocC) (A:Option Addr) (m c:Nat) (w:World) (hm:m=ds.length) (h:DocsOk w A ds) (r0:m<=1000000) :
 Calls prog 48 #[.slice A m c] w fun e w'=>NewB w (timesD 0 (dcs ds)) e w':=by
 have d0:=Aa (fun A n c x l W h1 h2 h3 h4 h5 h6=>EF A n c x l W h1 h2 h3 h4 h5 h6);have h0:∀i,(timesD 0 (dcs (ds.take i))).length<=10*i:=fun i=>by
  have:=Dx (dcs (ds.take i)) 0;have h2:(dcs (ds.take i)).length<=i:=by unfold dcs;rw[List.length_map,List.length_take];omega
  omega
 replace h0:=Aa h0;replace h:=Aa h;replace hm:=Aa hm
 go_in
 go_wp2_with fail
 go_loopw [3,4,9] (fun s3 s4 s9 wr=>∃(i n:Nat) (B:Option Addr) (k:Nat) (a:Int),s9 = .int .i64 (i:Int)/\s3 = .slice B n k/\s4 = .int .i64 a/\i<=m/\n<=10*i/\Hid (a=lastAt 0 (dcs (ds.take i)))/\Hid (n=(timesD 0 (dcs (ds.take i))).length)/\Hid (Buf wr w.heap.size 5 B n k ((timesD 0 (dcs (ds.take i))).map B8))/\Hid (Ext w wr)) (fun _ _ s9 _=>m - (intOf s9).toNat)
 case atStart=>exact⟨0,0,none,0,0,rfl,rfl,rfl,by omega,by omega,Aa rfl,Aa rfl,Aa (Buf.nil _ _ _),Aa (Ext.refl w)⟩
 case round =>
  obtain⟨i,n,B,k,a,rfl,rfl,rfl,hi,hn,ha,J,hB,hE⟩:=hrel;by_cases c0:i<m
  ·obtain⟨x,hx⟩:∃x,ds[i]? = some x:=⟨_,List.getElem?_eq_getElem (by rw[<-hm.out];exact c0)⟩
   have j0:=h.out.ext hE.out;obtain⟨g,o,hA,x0,x1,x2⟩:=AR j0.cells hx;subst hA;have U:dcs (ds.take (i+1))=dcs (ds.take i) ++ [x.dc]:=by rw[List.take_add_one,hx];unfold dcs;rw[List.map_append];rfl
   have I:lastAt 0 (dcs (ds.take (i+1)))=x.e.at_:=by rw[U,Ez];rfl
   have O:timesD 0 (dcs (ds.take (i+1)))=timesD 0 (dcs (ds.take i))++vb (zig (wrap64 (x.e.at_ - a))):=by
    rw[U,EI,<-ha.out];show _++(_ ++ [])=_;rw[List.append_nil];rfl
   obtain⟨d,hd⟩:=Ab (wrap64 (x.e.at_ - a));have Z:=Fw (x.e.at_ - a);rw[<-hd]at O Z;have k0:=h0.out (i+1);replace U:=Aa U;replace I:=Aa I;replace O:=Aa O;replace hx:=Aa hx;clear j0;go_wp2_with fail;obtain⟨W5,H⟩:=Ab (wr.alloc (Obj.cells #[Value.int IntKind.i64 x.seq,Value.int IntKind.i64 x.e.at_,Value.slice x.A x.e.fs.length x.c] 71));have T:Ext wr W5:=by rw[H];exact(Ext.refl wr).alloc _
   have r5:Row W5 wr.heap.size 71 #[Value.int IntKind.i64 x.seq,Value.int IntKind.i64 x.e.at_,Value.slice x.A x.e.fs.length x.c]:=by rw[H];exact Row.new wr _ _
   obtain⟨g5,G⟩:=Ab wr.heap.size;rw[<-H,<-G,<-hd];rw[<-G]at r5;have q0:=hB.out.ext T;refine(d0.out B n k d _ W5 J.out q0.cells (MN q0) (by omega) Z.1 Z.2).mono ?_;rintro e w6 ⟨A6,c6,rfl,j,b⟩;rw[<-O.out]at j ⊢;have r6:=r5.ext b;have y1:=r6.cell 1 rfl;have g0:w.heap.size<=W5.heap.size:=(hE.out.trans T).size;obtain⟨n6,Y⟩:=Ab ((timesD 0 (dcs (ds.take (i+1)))).length);rw[<-Y]at j k0 ⊢;replace Y:=Aa Y;replace j:=Aa (j.lower g0);replace b:=Aa (T.trans b);clear H G hd r5 r6;go_wp2_with fail;go_roundw
   case rel=>exact⟨i+1,n6,A6,c6,_,rfl,rfl,rfl,by omega,k0,Aa I.out.symm,Y,j,Aa (hE.out.trans b.out)⟩
   case measure=>simp only[intOf];omega
  ·have q1:m=i:=by omega
   have p0:ds.take i=ds:=List.take_of_length_le (by rw[<-hm.out];omega);rw[p0]at hB J;go_wp2_with fail;go_ret;exact⟨B,k,by rw[J.out];rfl,by rw[<-J.out];exact hB.out,hE.out⟩
def prtA:List Int->Array Value
 | [a,b,c,d,e]=>#[.int .i64 0,.int .i64 0,.int .i64 a,.int .i64 b,.int .i64 c,.int .i64 d,.int .i64 e]
 | _=>#[]
theorem E5:∀(l:List Dc) (m:Int),I64ok' m->(∀d∈l,I64ok' d.2.at_)->I64ok' (lowD m l)
 | [],m,j,_=>j
 | d::t,m,j,h=>by
  have h1:=h d (List.mem_cons_self ..);refine E5 t _ ?_ fun x b=>h x (List.mem_cons_of_mem _ b);unfold I64ok' at *;omega
theorem Ea:∀(l:List Dc) (m:Int),I64ok' m->(∀d∈l,I64ok' d.2.at_)->I64ok' (highD m l)
 | [],m,j,_=>j
 | d::t,m,j,h=>by
  have h1:=h d (List.mem_cons_self ..);refine Ea t _ ?_ fun x b=>h x (List.mem_cons_of_mem _ b);unfold I64ok' at *;omega
theorem IH:∀(l:List Dc) (d:Dc),lastD d.1 l=((d::l)[l.length]?.map (·.1)).getD 0
 | [],d=>rfl
 | p::t,d=>by
  show lastD p.1 t=_;rw[IH t p];rfl
theorem C7 {ds:List DocC} {x0 xl:DocC} (b:m=ds.length) (h:ds[0]? = some x0) (j:ds[m - 1]? = some xl):partD (dcs ds) = [lowD x0.e.at_ (dcs ds),highD x0.e.at_ (dcs ds),x0.seq,xl.seq,(m:Int)]:=by
 cases ds with
 | nil=>simp at h
 | cons y t =>
  obtain rfl:y=x0:=by simpa using h
  have h1:=IH (dcs t) y.dc;have hk:(dcs t).length=t.length:=by unfold dcs;rw[List.length_map]
  have h2:(y.dc::dcs t)[t.length]? = some xl.dc:=by
   show (dcs (y::t))[t.length]? = _;unfold dcs;rw[List.getElem?_map];rw[b,List.length_cons,Nat.add_sub_cancel]at j;rw[j];rfl
  rw[hk,h2]at h1;show [lowD y.e.at_ (dcs (y::t)),highD y.e.at_ (dcs (y::t)),y.seq,lastD y.dc.1 (dcs t),((dcs (y::t)).length:Int)]=_;rw[h1];have a:(dcs (y::t)).length=m:=by rw[b];unfold dcs;rw[List.length_map]
  rw[a];rfl
theorem Fa {fn:Func} {p:Tmp} (h:fn.results=#[.cell p ty]) (tmps:Array Value) (w:World) (g:Nat) (cs:Array Value)
 (j:tmps.getD p undef = .pointer (some ⟨g,0,none⟩)) (b:(loadVar ty ⟨g,0,none⟩).run P w = .ok (.agg cs) w) :
 (results fn tmps).run P w = .ok (.agg cs) w:=by
 rw[Array.getD_eq_getD_getElem?]at j;simp only[results,h];simp[Sem.run_bind,Result.andThen,j,asAddr,b]
theorem K4 (ds:List DocC) (A:Option Addr) (m c:Nat) (w:World) (hm:m=ds.length) (h:DocsOk w A ds) (j2:m<=1000000) (h0:0<m) :
 Calls prog 46 #[.slice A m c] w fun e w'=>e = .returned (.agg (prtA (partD (dcs ds))))/\Ext w w':=by
 obtain⟨x0,I⟩:∃x,ds[0]? = some x:=⟨_,List.getElem?_eq_getElem (by omega)⟩
 obtain⟨xl,q0⟩:∃x,ds[m - 1]? = some x:=⟨_,List.getElem?_eq_getElem (by omega)⟩
 obtain⟨g,o,hA,a0,a1,a2⟩:=AR h.cells I;obtain⟨g',o',b,b0,b1,b2⟩:=AR h.cells q0;rw[hA]at b;injection b with b;injection b with hg ho;subst hg;subst ho;rw[Nat.zero_mul,Nat.add_zero]at a0 a1 a2;have a:partD (dcs ds) = [lowD x0.e.at_ (dcs ds),highD x0.e.at_ (dcs ds),x0.seq,xl.seq,(m:Int)]:=C7 hm I q0;subst hA;replace h:=Aa h;replace hm:=Aa hm;replace I:=Aa I;replace q0:=Aa q0;obtain⟨k,hk⟩:∃k,m=k+1:=⟨m - 1,by omega⟩
 subst hk;rw[show k+1 - 1=k by omega]at b0 b1 b2;have p0:∀d∈dcs ds,I64ok' d.2.at_:=fun d hd=>by
  unfold dcs at hd;obtain⟨x,hx,rfl⟩:=List.mem_map.1 hd;exact(h.out.each x hx).2.1
 replace p0:=Aa p0;replace a:=Aa a
 go_in
 go_wp2_with fail;obtain⟨W1,Y⟩:=Ab (w.alloc (Obj.cells #[Value.int IntKind.i64 0,Value.int IntKind.i64 0,Value.int IntKind.i64 0,Value.int IntKind.i64 0,Value.int IntKind.i64 0,Value.int IntKind.i64 0,Value.int IntKind.i64 0] 79));rw[<-Y];have H:Ext w W1:=by rw[Y];exact(Ext.refl w).alloc _
 have r1:Row W1 w.heap.size 79 #[Value.int IntKind.i64 0,Value.int IntKind.i64 0,Value.int IntKind.i64 0,Value.int IntKind.i64 0,Value.int IntKind.i64 0,Value.int IntKind.i64 0,Value.int IntKind.i64 0]:=by rw[Y];exact Row.new w _ _
 have c1:=H.cell a1;have c0:=H.cell a0;have d0:=H.cell b0;replace Y:=Aa Y;refine AE (fun K hK=>?_);go_wp2_with fail;refine⟨by kernel_rfl,?_⟩;go_wp2_with fail;obtain⟨W2,J⟩:=Ab ((W1.alloc (Obj.cells #[Value.int IntKind.i64 0,Value.int IntKind.i64 0,Value.int IntKind.i64 x0.e.at_,Value.int IntKind.i64 x0.e.at_,Value.int IntKind.i64 x0.seq,Value.int IntKind.i64 xl.seq,Value.int IntKind.i64 ((k:Int)+1)] 79)).drew);rw[<-J];obtain⟨b1,O⟩:=Ab w.heap.size;obtain⟨b2,T⟩:=Ab W1.heap.size;have l0:Ext W1 W2:=by rw[J];exact((Ext.refl W1).alloc _).drew
 have r2:Row W2 b2 79 #[Value.int IntKind.i64 0,Value.int IntKind.i64 0,Value.int IntKind.i64 x0.e.at_,Value.int IntKind.i64 x0.e.at_,Value.int IntKind.i64 x0.seq,Value.int IntKind.i64 xl.seq,Value.int IntKind.i64 ((k:Int)+1)]:=by rw[J,T];exact Row.new W1 _ _
 have r12:=r1.ext l0;rw[<-O]at r12;have h2:b1<b2:=by have:=r1.lt;omega
 rw[<-O,<-T];have hE:=Aa (H.trans l0);replace r2:=Aa r2;replace r12:=Aa r12;replace J:=Aa J;replace O:=Aa O;replace T:=Aa T;clear r1 c0 c1 d0
 go_loopw [32] (fun s32 wr=>∃(i:Nat) (lo hi:Int),s32 = .int .i64 (i:Int)/\i<=k+1/\Hid (lo=lowD x0.e.at_ (dcs (ds.take i)))/\Hid (hi=highD x0.e.at_ (dcs (ds.take i)))/\Hid (Row wr b2 79 #[Value.int IntKind.i64 0,Value.int IntKind.i64 0,Value.int IntKind.i64 lo,Value.int IntKind.i64 hi,Value.int IntKind.i64 x0.seq,Value.int IntKind.i64 xl.seq,Value.int IntKind.i64 ((k:Int)+1)])/\Hid (Row wr b1 79 #[Value.int IntKind.i64 0,Value.int IntKind.i64 0,Value.int IntKind.i64 0,Value.int IntKind.i64 0,Value.int IntKind.i64 0,Value.int IntKind.i64 0,Value.int IntKind.i64 0])/\Hid (Ext w wr)) (fun s32 _=>k+1 - (intOf s32).toNat)
 case atStart=>exact⟨0,x0.e.at_,x0.e.at_,rfl,by omega,Aa rfl,Aa rfl,r2,r12,hE⟩
 case round =>
  obtain⟨i,lo,hi,rfl,k2,m0,g0,q2,q1,hE⟩:=hrel;by_cases d1:i<k+1
  ·obtain⟨x,hx⟩:∃x,ds[i]? = some x:=⟨_,List.getElem?_eq_getElem (by rw[<-hm.out];exact d1)⟩
   obtain⟨g',o',b,x0',x1',x2'⟩:=AR (h.out.ext hE.out).cells hx;injection b with b;injection b with hg ho;subst hg;subst ho;have G:dcs (ds.take (i+1))=dcs (ds.take i) ++ [x.dc]:=by rw[List.take_add_one,hx];unfold dcs;rw[List.map_append];rfl
   have h1:Hid (min lo x.e.at_=lowD x0.e.at_ (dcs (ds.take (i+1)))):=Aa (by rw[G,GY,<-m0.out];rfl);have r0:Hid (max hi x.e.at_=highD x0.e.at_ (dcs (ds.take (i+1)))):=Aa (by rw[G,FE,<-g0.out];rfl);replace G:=Aa G;replace hx:=Aa hx;have j1:=q2.out.lt;have k1:=q1.out.lt;go_wp2_with fail;obtain⟨W5,U⟩:=Ab (wr.alloc (Obj.cells #[Value.int IntKind.i64 x.seq,Value.int IntKind.i64 x.e.at_,Value.slice x.A x.e.fs.length x.c] 71));have k0:Ext wr W5:=by rw[U];exact(Ext.refl wr).alloc _
   have r5:Row W5 wr.heap.size 71 #[Value.int IntKind.i64 x.seq,Value.int IntKind.i64 x.e.at_,Value.slice x.A x.e.fs.length x.c]:=by rw[U];exact Row.new wr _ _
   obtain⟨g5,Z⟩:=Ab wr.heap.size;rw[<-U,<-Z];rw[<-Z]at r5;have p2:=q2.out.ext k0;have v2:=p2.cell 2 rfl;have v3:=p2.cell 3 rfl;have f2:=p2.free 2;have f3:=p2.free 3;have u1:=r5.cell 1 rfl;have m2:g5≠b2:=by omega
   replace p2:=Aa p2;replace r5:=Aa r5;replace U:=Aa U;replace Z:=Aa Z;clear x0' x1' x2' k1 j1;go_region;have y1:∀g t cs,g≠b2->Row W5 g t cs->Row (((W5.setCell ⟨b2,2,none⟩ (.int .i64 (min lo x.e.at_))).setCell ⟨b2,3,none⟩ (.int .i64 (max hi x.e.at_))).drew) g t cs:=fun g t cs hg hr=>(hr.away (p:=⟨b2,2,none⟩) hg _).away (p:=⟨b2,3,none⟩) hg _;have o0:w.heap.size<=b2:=by rw[T.out];exact H.size
   have j0:Ext w (((W5.setCell ⟨b2,2,none⟩ (.int .i64 (min lo x.e.at_))).setCell ⟨b2,3,none⟩ (.int .i64 (max hi x.e.at_))).drew):=(((hE.out.trans k0).setCell (p:=⟨b2,2,none⟩) o0 _).setCell (p:=⟨b2,3,none⟩) o0 _).drew;have p9:Row (((W5.setCell ⟨b2,2,none⟩ (.int .i64 (min lo x.e.at_))).setCell ⟨b2,3,none⟩ (.int .i64 (max hi x.e.at_))).drew) b2 79 #[Value.int IntKind.i64 0,Value.int IntKind.i64 0,Value.int IntKind.i64 (min lo x.e.at_),Value.int IntKind.i64 (max hi x.e.at_),Value.int IntKind.i64 x0.seq,Value.int IntKind.i64 xl.seq,Value.int IntKind.i64 ((k:Int)+1)]:=(p2.out.put 2 _).put 3 _;have q19:=y1 b1 _ _ (by omega) (q1.out.ext k0);replace j0:=Aa j0;replace p9:=Aa p9;replace q19:=Aa q19;go_wp2_with fail;go_roundw
   case rel=>exact⟨i+1,_,_,rfl,by omega,h1,r0,p9,q19,j0⟩
   case measure=>simp only[intOf];omega
  ·have n0:ds.take i=ds:=List.take_of_length_le (by rw[<-hm.out];omega);rw[n0]at m0 g0;have v0:=q2.out.cell 0 rfl;have v1:=q2.out.cell 1 rfl;have v2:=q2.out.cell 2 rfl;have v3:=q2.out.cell 3 rfl;have v4:=q2.out.cell 4 rfl;have v5:=q2.out.cell 5 rfl;have v6:=q2.out.cell 6 rfl;have f0:=q1.out.free 0;have f1:=q1.out.free 1;have f2:=q1.out.free 2;have f3:=q1.out.free 3;have f4:=q1.out.free 4;have f5:=q1.out.free 5;have f6:=q1.out.free 6;have t0:=q1.out.cell 0 rfl;have t1:=q1.out.cell 1 rfl;have t2:=q1.out.cell 2 rfl;have t3:=q1.out.cell 3 rfl;have t4:=q1.out.cell 4 rfl;have t5:=q1.out.cell 5 rfl;have t6:=q1.out.cell 6 rfl;go_wp2_with fail;have j:w.heap.size<=b1:=by rw[O.out];exact Nat.le_refl _
   have i1:=((((((q1.out.put 0 (.int .i64 0)).put 1 (.int .i64 0)).put 2 (.int .i64 lo)).put 3 (.int .i64 hi)).put 4 (.int .i64 x0.seq)).put 5 (.int .i64 xl.seq)).put 6 (.int .i64 ((k:Int)+1));have x1:=((((((hE.out.setCell (p:=⟨b1,0,none⟩) j (.int .i64 0)).setCell (p:=⟨b1,1,none⟩) j (.int .i64 0)).setCell (p:=⟨b1,2,none⟩) j (.int .i64 lo)).setCell (p:=⟨b1,3,none⟩) j (.int .i64 hi)).setCell (p:=⟨b1,4,none⟩) j (.int .i64 x0.seq)).setCell (p:=⟨b1,5,none⟩) j (.int .i64 xl.seq)).setCell (p:=⟨b1,6,none⟩) j (.int .i64 ((k:Int)+1));refine bodyPost_ret (Fa rfl _ _ b1 #[.int .i64 0,.int .i64 0,.int .i64 lo,.int .i64 hi,.int .i64 x0.seq,.int .i64 xl.seq,.int .i64 ((k:Int)+1)] rfl (run_loadVar_row _ b1 79 79 _ (0,0) _ i1 underlying79 rfl (by kernel_rfl))) rfl ⟨?_,x1⟩;rw[a.out,<-m0.out,<-g0.out];rfl
def IterS {α:Type} (P:Program) (gf:Nat) (lb:Array Value) (encs:α->Array Value) (St:World->World->World->Prop) (Nx:List α->α->World->Prop) (Kp:World->World->Prop) (Fin:List α->World->World->Prop) (w:World):Prop :=
 ∀(l:Nat) (J:List α->World->Prop) (W:World),Ext w W->(∀pre A B,J pre A->St W A B->J pre B) ->
  (∀pre x W1,J pre W1->Nx pre x W1->YieldAt Fence.wide 0 P l (encs x) W1 fun e W'=>e = .returned (.bool true)/\J (pre ++ [x]) W'/\Kp W1 W'/\KeepsOthers W1 W')->J [] W ->
  Calls P gf (#[.func (.yield l) #[] #[]]++lb) W fun e W'=>(∃v,e = .returned v)/\∃xs W2,J xs W2/\Fin xs W2 W'
theorem Md {α:Type} {g:Operand} {ps:Array Tmp} {assign body:Code} {a:Act}
 (hg:a.eval g = .func (.func gf) #[] lb) (eg:∀args w,(callFunc gf args).run P w = .ok (.enter gf args) w)
 {encs:α->Array Value} {St:World->World->World->Prop} {Nx:List α->α->World->Prop} {Kp:World->World->Prop} {Fin:List α->World->World->Prop} (r0:IterS P gf lb encs St Nx Kp Fin w)
 (y1:∀x,(encs x).size=ps.size) (c0:∀W A B,St W A B->∀k o,k<W.heap.size->A.heap[k]? = some o->o.isCells=false->B.heap[k]? = some o) (G:∀xs A B,Fin xs A B->KeepsOthers A B)
 (p0:∀A B C,Kp A B->Kp B C->Kp A C) (x0:∀A B,Alike w.heap.size A B->Kp A B)
 (I:List α->World->Prop) (hI:∀pre A B,I pre A->Alike w.heap.size A B->I pre B) (f0:∀W pre A B,Ext w W->I pre A->St W A B->I pre B) (h0:∀W,Alike w.heap.size w W->I [] W)
 (Z:∀(l:Nat) (pre:List α) (x:α) (W:World),I pre W->Nx pre x W->assign.wpIn (Fence.wide.inRound l) 0 P (Exit.then (roundGo w.heap.size P l body Kp I (pre ++ [x]) W) (fun _ _ _=>False)) { tmps:=(ps.zip (encs x)).foldl (fun t (p,v)=>t.setIfInBounds p v) a.tmps,defers:= [] } W)
 (j0:∀(D:Nat) (xs:List α) (W2 W3 W4:World),w.heap.size<=D->I xs W2->Fin xs W2 W3->Alike w.heap.size W3 W4->W4.heap[D]? = some (.deferred (some []))->Q .normal { a with defers:= { target:= .collected D,args:=#[] }::a.defers } W4) :
 (Code.rangeFunc g ps assign body).wpIn Fence.wide 0 P Q a w:=by
 refine wpIn_rangeFunc ?_;intro fn n0;show ∃_,_;obtain⟨rec,j⟩:=Ab (fun st pe=> { state:=st,pending:=pe,fn,tmps:=a.tmps,params:=ps,assign,body,defers:=w.heap.size }:LoopState->Option Code->Loop);obtain⟨W1,J⟩:∃W1,(w.alloc (.deferred (some []))).alloc (.loop (rec .ready none))=W1:=⟨_,rfl⟩
 have y0:W1.heap[w.heap.size+1]? = some (.loop (rec .ready none)):=by
  rw[<-J];have:=World.alloc_heap_new (w.alloc (.deferred (some []))) (.loop (rec .ready none));rwa [World.size_alloc]at this
 have v0:W1.heap[w.heap.size]? = some (.deferred (some [])):=by
  rw[<-J];exact(Below.heap_alloc _ _ _ (by simp)).trans (World.alloc_heap_new w _)
 have q0:Ext w W1:=by rw[<-J];exact((Ext.refl w).alloc _).alloc _
 refine⟨w.heap.size+1,[{ target:= .collected w.heap.size,args:=#[] }],W1,{ target:= .fn (.func gf) lb,args:=#[.func (.yield (w.heap.size+1)) #[] #[]] },W1,gf,
  #[.func (.yield (w.heap.size+1)) #[] #[]]++lb,W1,?_,?_,?_,?_,fun h=>(by cases h),?_⟩
 ·rw[<-J,j];exact run_enterLoop_outer _ _ _ _ _
 ·simp only[resolve,hg];simp[go_sem]
 ·intro f' _;trivial
 ·simp[invoke,go_sem,eg]
 ·refine callsIn_wide.2 ((r0 (w.heap.size+1)
   (fun pre W=>I pre W/\W.heap[w.heap.size+1]? = some (.loop (rec .ready none))/\W.heap[w.heap.size]? = some (.deferred (some [])))
   W1 q0 (fun pre A B h hs=>⟨f0 W1 pre A B q0 h.1 hs,c0 W1 A B hs _ _ (Array.getElem?_eq_some_iff.1 y0).1 h.2.1 rfl,c0 W1 A B hs _ _ (Array.getElem?_eq_some_iff.1 v0).1 h.2.2 rfl⟩)
   ?_ ⟨h0 W1 (Chg.of_ext q0 _),y0,v0⟩).mono ?_)
  ·rintro pre x W ⟨hi,hl,hk⟩ m1;have k2:w.heap.size+1<W.heap.size:=(Array.getElem?_eq_some_iff.1 hl).1;have hy:=run_yield (P:=P) (args:=encs x) hl (by rw[j];exact y1 x);rw[j]at hy;refine⟨fn,_,assign,body,hy,roundIn_of_wpIn n0 ?_⟩;refine wpIn_mono (Z _ pre x W hi m1) ?_;rintro e a1 W2 Y;cases e with
   | normal =>
    obtain⟨O,k1,k0⟩:=Y;have b:=O.same _ _ hl rfl;have g0:=O.same _ _ hk rfl;have e0:w.heap.size+1<W2.heap.size:=(Array.getElem?_eq_some_iff.1 b).1;refine⟨W2.putObj (w.heap.size+1) (.loop { rec .ready none with state:= .busy }),run_beginRound b (by rw[j]),?_⟩;have ha:=Alike.others (B:=w.heap.size) b rfl (by omega) (.loop { rec .ready none with state:= .busy });have j1:(W2.putObj (w.heap.size+1) (.loop { rec .ready none with state:= .busy })).heap[w.heap.size+1]? = some (.loop { rec .ready none with state:= .busy }):=World.putObj_heap_same e0;have h1:(W2.putObj (w.heap.size+1) (.loop { rec .ready none with state:= .busy })).heap[w.heap.size]? = some (.deferred (some [])):=(World.putObj_heap_other (by omega)).trans g0;refine wpIn_mono (k0 _ ha) ?_;rintro e a3 W3 hp;cases e with
    | normal =>
     obtain⟨H,d0,o0⟩:=hp;have T:=H.same _ _ j1 rfl;have q1:=H.same _ _ h1 rfl;have hr:=run_endRound (P:=P) none T;rw[j]at hr;have U:=Alike.others (B:=w.heap.size) T rfl (by omega) (.loop (rec .ready none));rw[j]at U;refine⟨_,_,hr,rfl,⟨hI _ _ _ o0 U,?_,?_⟩,p0 _ _ _ (p0 _ _ _ k1 (x0 _ _ ha)) (p0 _ _ _ d0 (x0 _ _ U)),?_⟩
     ·rw[j];exact World.putObj_heap_same (Array.getElem?_eq_some_iff.1 T).1
     ·exact(World.putObj_heap_other (by omega)).trans q1
     ·refine⟨Nat.le_trans O.size (Nat.le_trans ha.size (Nat.le_trans H.size U.size)),fun q o ho hc=>?_⟩;by_cases Y:q=w.heap.size+1
      ·subst Y;rw[hl,j]at ho;rw[<-ho];exact World.putObj_heap_same (Array.getElem?_eq_some_iff.1 T).1
      ·refine(World.putObj_heap_other Y).trans (H.same q o ?_ hc);exact(World.putObj_heap_other Y).trans (O.same q o ho hc)
    | ret=>exact hp.elim
    | exit id=>exact hp.elim
    | goto t=>exact hp.elim
    | panic ch=>exact hp.elim
    | outgrown=>exact hp.elim
   | ret=>exact Y.elim
   | exit id=>exact Y.elim
   | goto t=>exact Y.elim
   | panic ch=>exact Y.elim
   | outgrown=>exact Y.elim
  ·rintro e W2 ⟨⟨v,rfl⟩,xs,W3,⟨hi,hl,hk⟩,hf⟩;have b:=(G _ _ _ hf).same _ _ hl rfl;have g0:=(G _ _ _ hf).same _ _ hk rfl;refine⟨none,_,by have:=run_endLoop (P:=P) b (by rw[j];simp);rw[j]at this;exact this,j0 _ xs W3 W2 _ (Nat.le_refl _) hi hf ?_ ((World.putObj_heap_other (by omega)).trans g0)⟩;rw[j]at b;exact Alike.others b rfl (by omega) _
end
end Go.Proofs.YtfifdilapbeiiaaGreat
