/- Texts of one proof, joined. -/
import Derived.Test.YtpnlihgcboepeaaGreatPN04
import Derived.IntWalk
set_option linter.unusedSimpArgs false
set_option linter.unusedVariables false
set_option maxRecDepth 100000
set_option maxHeartbeats 16000000
namespace Go.Proofs.YtpnlihgcboepeaaGreat
open _root_.Go.Proofs.Tryz
variable {l p r s:List UInt8} {base i j k m:Nat} {w w1:World}
section
open Go.RowKit
section
variable {β:Type}
def Srt (l:List (List UInt8×β)):Prop:=l.Pairwise fun x y=>¬ y.1<x.1
structure Stb (l m:List (List UInt8×β)):Prop where
  perm:m.Perm l
  vals:∀s,valsOf m s=valsOf l s
theorem Stb.refl (l:List (List UInt8×β)):Stb l l:=⟨List.Perm.refl _,fun _=>rfl⟩
variable {l m k A B A1 A2 B1 B2 M1 M2:List (List UInt8×β)}
theorem Stb.trans (h:Stb l m) (h2:Stb m k):Stb l k:=⟨h2.perm.trans h.perm,fun s=>(h2.vals s).trans (h.vals s)⟩
theorem Stb.app (h:Stb A M1) (h2:Stb B M2):Stb (A++B) (M1++M2):=⟨h.perm.append h2.perm,fun s=>by rw[AK,AK,h.vals,h2.vals]⟩
theorem Stb.mem (h:Stb l m) {x:List UInt8×β} (d:x∈m):x∈l:=h.perm.mem_iff.1 d
theorem Stb.len (h:Stb l m):m.length=l.length:=h.perm.length_eq
theorem Df {l:List (List UInt8×β)} (h:∀x∈l,¬ x.1=s):valsOf l s = []:=by
 unfold valsOf;rw[List.filter_eq_nil_iff.2 fun x d=>by simpa using h x d];rfl
theorem Stb.swap (h:∀x∈A,∀y∈B,¬ x.1=y.1):Stb (A++B) (B++A):=by
 refine⟨List.perm_append_comm,fun s=>?_⟩;rw[AK,AK];by_cases H:∃x∈A,x.1=s
 ·obtain⟨x,d,rfl⟩:=H;rw[Df fun y Y e=>h x d y Y e.symm,List.nil_append,List.append_nil]
 ·rw[Df fun x d e=>H ⟨x,d,e⟩,List.nil_append,List.append_nil]
theorem C6 {a b c:List UInt8} (h:¬ b<a) (k:¬ c<b):¬ c<a:=fun d=>h (by
 by_cases e:c=b
 ·rw[<-e];exact d
 ·exact List.lt_trans (Ex k e) d)
theorem Py {a b c:List UInt8} (h:a<b) (k:¬ c<b):a<c:=by
 by_cases e:c=b
 ·rw[e];exact h
 ·exact List.lt_trans h (Ex k e)
theorem PH {a b c:List UInt8} (h:¬ b<a) (k:b<c):a<c:=by
 by_cases e:b=a
 ·rw[<-e];exact k
 ·exact List.lt_trans (Ex h e) k
theorem RN {a b:List UInt8} (h:a<b):¬ b<a:=fun k=>List.lt_irrefl _ (List.lt_trans h k)
theorem Srt.left (h:Srt (A++B)):Srt A:=(List.pairwise_append.1 h).1
theorem Srt.right (h:Srt (A++B)):Srt B:=(List.pairwise_append.1 h).2.1
theorem HI (Y:Srt (A1++A2)) (J:Srt (B1++B2)) (h1:∀x∈A1,∀y∈B2,¬ y.1<x.1) (h2:∀x∈B1,∀y∈A2,x.1<y.1) (s1:Stb (A1++B1) M1) (r1:Srt M1) (s2:Stb (A2++B2) M2) (r2:Srt M2) :
 Srt (M1++M2)/\Stb ((A1++A2)++(B1++B2)) (M1++M2):=by
 constructor
 ·refine List.pairwise_append.2 ⟨r1,r2,fun x d y h=>?_⟩;have d:=List.mem_append.1 (s1.mem d);have h:=List.mem_append.1 (s2.mem h);rcases d with d | d
  ·rcases h with h | h
   ·exact(List.pairwise_append.1 Y).2.2 x d y h
   ·exact h1 x d y h
  ·rcases h with h | h
   ·exact RN (h2 x d y h)
   ·exact(List.pairwise_append.1 J).2.2 x d y h
 ·have hs:Stb (A2++B1) (B1++A2):=Stb.swap fun x d y h e=>by
   have:=h2 y h x d;rw[e]at this;exact List.lt_irrefl _ this
  have H:Stb ((A1++A2)++(B1++B2)) ((A1++B1)++(A2++B2)):=by
   have:=((Stb.refl A1).app hs).app (Stb.refl B2);simpa only[List.append_assoc]using this
  exact H.trans (s1.app s2)
theorem Srt.take_le (h:Srt l) {z:List UInt8×β} (Z:l[i]? = some z):∀x∈l.take (i+1),¬ z.1<x.1:=by
 intro x O;obtain⟨j,Y⟩:=List.getElem?_of_mem O;rw[List.getElem?_take]at Y;split at Y
 ·rename_i U;obtain⟨hi,d⟩:=List.getElem?_eq_some_iff.1 Z;obtain⟨J,H⟩:=List.getElem?_eq_some_iff.1 Y;by_cases e:j=i
  ·subst e;rw[<-d,<-H];exact List.lt_irrefl _
  ·have:=List.pairwise_iff_getElem.1 h j i J hi (by omega);rw[H,d]at this;exact this
 ·cases Y
theorem Srt.drop_ge (h:Srt l) {z:List UInt8×β} (O:l[i]? = some z):∀x∈l.drop i,¬ x.1<z.1:=by
 intro x U;obtain⟨j,J⟩:=List.getElem?_of_mem U;rw[List.getElem?_drop]at J;obtain⟨hi,d⟩:=List.getElem?_eq_some_iff.1 O;obtain⟨Y,H⟩:=List.getElem?_eq_some_iff.1 J;by_cases e:j=0
 ·subst e;rw[<-d,<-H];exact List.lt_irrefl _
 ·have:=List.pairwise_iff_getElem.1 h i (i+j) hi Y (by omega);rw[H,d]at this;exact this
structure CutP (A B:List (List UInt8×β)) (i j:Nat):Prop where
  ile:i<=A.length
  jle:j<=B.length
  lo:i=0\/j=B.length\/∃x y,A[i - 1]? = some x/\B[j]? = some y/\¬ y.1<x.1
  hi:i=A.length\/j=0\/∃x y,A[i]? = some x/\B[j - 1]? = some y/\y.1<x.1
theorem CutP.le (h:CutP A B i j) (O:Srt A) (Z:Srt B):(∀x∈A.take i,∀y∈B.drop j,¬ y.1<x.1)/\(∀x∈B.take j,∀y∈A.drop i,x.1<y.1):=by
 constructor
 ·intro x d y Y;rcases h.lo with e | e | ⟨u,v,J,U,H⟩
  ·rw[e]at d;cases d
  ·rw[e,List.drop_length]at Y;cases Y
  ·by_cases e:i=0
   ·rw[e]at d;cases d
   ·have h1:=O.take_le J x (by rw[show i - 1+1=i by omega];exact d);have h2:=Z.drop_ge U y Y;exact C6 h1 (C6 H h2)
 ·intro x d y Y;rcases h.hi with e | e | ⟨u,v,J,U,H⟩
  ·rw[e,List.drop_length]at Y;cases Y
  ·rw[e]at d;cases d
  ·by_cases e:j=0
   ·rw[e]at d;cases d
   ·have h1:=Z.take_le U x (by rw[show j - 1+1=j by omega];exact d);have h2:=O.drop_ge J y Y;exact PH h1 (Py H h2)
def Mrg (A B M:List (List UInt8×β)):Prop:=Srt M/\Stb (A++B) M
theorem CutP.mrg (h:CutP A B i j) (J:Srt A) (U:Srt B) (m1:Mrg (A.take i) (B.take j) M1) (m2:Mrg (A.drop i) (B.drop j) M2):Mrg A B (M1++M2):=by
 have Y:=h.le J U;have d:=J;have H:=U;rw[<-List.take_append_drop i A]at d;rw[<-List.take_append_drop j B]at H;have:=HI d H Y.1 Y.2 m1.2 m1.1 m2.2 m2.1;rw[List.take_append_drop,List.take_append_drop]at this;exact this
theorem Mrg.nil_left (h:Srt B):Mrg [] B B:=⟨h,Stb.refl _⟩
theorem Mrg.nil_right (h:Srt A):Mrg A [] A:=⟨h,by rw[List.append_nil];exact Stb.refl _⟩
theorem PI {x:List UInt8×β} (J:Srt B) (H:∀y∈B.take i,y.1<x.1) (d:∀y∈B.drop i,¬ y.1<x.1):Mrg [x] B (B.take i++x::B.drop i):=by
 have h:=J;rw[<-List.take_append_drop i B]at h;have hs:Srt ([] ++ [x]:List (List UInt8×β)):=List.pairwise_singleton ..;have:=HI (A1:= []) (A2:= [x]) hs h (by simp) (fun y Y z U=>by rw[List.mem_singleton.1 U];exact H y Y) (M1:=B.take i) (by rw[List.nil_append];exact Stb.refl _) h.left (M2:=x::B.drop i) (Stb.refl _)
  (List.pairwise_cons.2 ⟨fun y Y=>d y Y,h.right⟩)
 rw[List.take_append_drop]at this;exact this
theorem IM {y:List UInt8×β} (U:Srt A) (H:∀x∈A.take i,¬ y.1<x.1) (d:∀x∈A.drop i,y.1<x.1):Mrg A [y] (A.take i++y::A.drop i):=by
 have h:=U;rw[<-List.take_append_drop i A]at h;have hs:Srt ([y] ++ []:List (List UInt8×β)):=List.pairwise_singleton ..;have:=HI (B1:= [y]) (B2:= []) h hs (by simp) (fun x Y z J=>by rw[List.mem_singleton.1 Y];exact d z J) (M1:=A.take i ++ [y]) (Stb.refl _)
  (List.pairwise_append.2 ⟨h.left,List.pairwise_singleton ..,fun x Y z J=>by rw[List.mem_singleton.1 J];exact H x Y⟩) (M2:=A.drop i) (by rw[List.append_nil];exact Stb.refl _) h.right
 rw[List.take_append_drop]at this;unfold Mrg;simpa only[List.append_assoc,List.singleton_append]using this
def Std (l m:List (List UInt8×β)):Prop:=Srt m/\Stb l m
theorem Std.mrg {l l' A B M:List (List UInt8×β)} (h:Std l A) (h2:Std l' B) (d:Mrg A B M):Std (l++l') M:=⟨d.1,(h.2.app h2.2).trans d.2⟩
end
end
section
open Go.RowKit
abbrev TmV:=List UInt8×(Option Addr×Nat×Nat)
def tcell (x:TmV):List Value:= [.string ⟨x.1.toArray⟩,.slice x.2.1 x.2.2.1 x.2.2.2]
def tcs (D:List TmV):List Value:=D.flatMap tcell
theorem Ft (D:List TmV):(tcs D).length=D.length*2:=AU (cellsA:=tcell) (k:=2) (fun _=>rfl) D
theorem Dv {D:List TmV} {x:TmV} (h:D[i]? = some x) (d:j<2):(tcs D)[i*2+j]? = (tcell x)[j]? :=AW (cellsA:=tcell) (k:=2) (fun _=>rfl) D i x j h d
def TR (w:World) (g:Nat) (D:List TmV):Prop:=∃cs:Array Value,Row w g 125 cs/\∀(i:Nat) (v:Value),(tcs D)[i]? = some v->cs[i]? = some v
section
variable {w w1:World} {g:Nat} {D:List TmV}
theorem TR.lt (h:TR w g D):g<w.heap.size:=by obtain⟨cs,d,_⟩:=h;exact d.lt
theorem TR.free (h:TR w g D) (i:Nat):w.frozen? ⟨g,i,none⟩=false:=by obtain⟨cs,d,_⟩:=h;exact d.free i
theorem TR.at_ (h:TR w g D) {x:TmV} (Y:D[i]? = some x):w.cell? ⟨g,i*2,none⟩=some (.string ⟨x.1.toArray⟩)/\w.cell? ⟨g,i*2+1,none⟩=some (.slice x.2.1 x.2.2.1 x.2.2.2):=by
 obtain⟨cs,H,d⟩:=h;exact⟨H.cell (i*2) (d _ _ (by have:=Dv Y (j:=0) (by omega);rw[Nat.add_zero]at this;rw[this];rfl)),H.cell (i*2+1) (d _ _ (by rw[Dv Y (j:=1) (by omega)];rfl))⟩
theorem TR.ext (h:TR w g D) (d:Ext w w1):TR w1 g D:=by obtain⟨cs,Y,H⟩:=h;exact⟨cs,Y.ext d,H⟩
theorem TR.drew (h:TR w g D):TR w.drew g D:=h.ext (Ext.refl w).drew
theorem Rc (D:List TmV) (i:Nat) (y:TmV) (hi:i<D.length) (k:Nat):(tcs (D.set i y))[k]? = if k=i*2 then some (.string ⟨y.1.toArray⟩) else if k=i*2+1 then some (.slice y.2.1 y.2.2.1 y.2.2.2) else (tcs D)[k]? :=by
 have hk:k=k / 2*2+k%2:=by omega
 by_cases d:k / 2<D.length
 ·have Y:D[k / 2]? = some D[k / 2]:=List.getElem?_eq_getElem d;by_cases H:k / 2=i
  ·have h1:(D.set i y)[k / 2]? = some y:=by rw[List.getElem?_set,if_pos H.symm,if_pos (by omega)]
   rw[hk,Dv h1 (Nat.mod_lt _ (by omega))];rcases Nat.mod_two_eq_zero_or_one k with h | h
   ·rw[h,if_pos (by omega)];rfl
   ·rw[h,if_neg (by omega),if_pos (by omega)];rfl
  ·have h1:(D.set i y)[k / 2]? = some D[k / 2]:=by rw[List.getElem?_set,if_neg (fun e=>H e.symm),Y]
   rw[hk,Dv h1 (Nat.mod_lt _ (by omega)),Dv Y (Nat.mod_lt _ (by omega)),if_neg (by omega),if_neg (by omega)]
 ·rw[if_neg (by omega),if_neg (by omega),List.getElem?_eq_none (by rw[Ft,List.length_set];omega),List.getElem?_eq_none (by rw[Ft];omega)]
abbrev setT (w:World) (g i:Nat) (y:TmV):World:=(w.setCell ⟨g,i*2,none⟩ (.string ⟨y.1.toArray⟩)).setCell ⟨g,i*2+1,none⟩ (.slice y.2.1 y.2.2.1 y.2.2.2)
theorem TR.put (h:TR w g D) (hi:i<D.length) (y:TmV):TR (setT w g i y) g (D.set i y):=by
 obtain⟨cs,I,H⟩:=h;refine⟨_,(I.put (i*2) _).put (i*2+1) _,fun k v d=>?_⟩;have O:D[i]? = some D[i]:=List.getElem?_eq_getElem hi;have J:i*2<cs.size:=by
  have Z:=H (i*2) _ (by have:=Dv O (j:=0) (by omega);rw[Nat.add_zero]at this;exact this);exact(Array.getElem?_eq_some_iff.1 Z).1
 have U:i*2+1<cs.size:=(Array.getElem?_eq_some_iff.1 (H (i*2+1) _ (Dv O (j:=1) (by omega)))).1;rw[Rc D i y hi]at d;rw[Array.getElem?_setIfInBounds,Array.getElem?_setIfInBounds];split at d
 ·rename_i Y;subst Y;rw[if_neg (by omega),if_pos rfl,if_pos J];exact d
 ·split at d
  ·rename_i G Y;subst Y;rw[if_pos rfl,if_pos (by rw[Array.size_setIfInBounds];exact U)];exact d
  ·rename_i h1 h2;rw[if_neg (by omega),if_neg (by omega)];exact H k v d
theorem Cf (w:World) (g i:Nat) (y:TmV):Chg (fun k=>k=g) w (setT w g i y) :=
 (Chg.of_set (S:=fun k=>k=g) w (a:=⟨g,i*2,none⟩) _ rfl).trans (Chg.of_set (S:=fun k=>k=g) _ (a:=⟨g,i*2+1,none⟩) _ rfl) fun _ _ h=>h
end
def SwK (D D':List TmV) (a b k:Nat):Prop:=D'.length=D.length/\∀i,D'[i]? = if a<=i/\i<a+k then D[i - a+b]? else if b<=i/\i<b+k then D[i - b+a]? else D[i]?
theorem SwK.zero (D:List TmV) (a b:Nat):SwK D D a b 0:=⟨rfl,fun i=>by rw[if_neg (by omega),if_neg (by omega)]⟩
theorem SwK.next {D D':List TmV} {a b k n:Nat} {x y:TmV} (h:SwK D D' a b k) (hk:k<n) (hab:a+n<=b) (U:D'[a+k]? = some x) (O:D'[b+k]? = some y):SwK D ((D'.set (a+k) y).set (b+k) x) a b (k+1):=by
 obtain⟨Z,d⟩:=h;refine⟨by rw[List.length_set,List.length_set,Z],fun i=>?_⟩;have J:=d (a+k);rw[if_neg (by omega),if_neg (by omega),U]at J;have hb:=d (b+k);rw[if_neg (by omega),if_neg (by omega),O]at hb;have H:=(List.getElem?_eq_some_iff.1 U).1;have Y:=(List.getElem?_eq_some_iff.1 O).1;rw[List.getElem?_set,List.getElem?_set,List.length_set];by_cases e1:b+k=i
 ·subst e1;rw[if_pos rfl,if_pos Y,if_neg (by omega),if_pos (by omega),show b+k - b+a=a+k by omega];exact J
 ·rw[if_neg e1];by_cases e2:a+k=i
  ·subst e2;rw[if_pos rfl,if_pos H,if_pos (by omega),show a+k - a+b=b+k by omega];exact hb
  ·rw[if_neg e2,d i];by_cases c1:a<=i/\i<a+k
   ·rw[if_pos c1,if_pos (show a<=i/\i<a+(k+1)by omega)]
   ·rw[if_neg c1,if_neg (show ¬ (a<=i/\i<a+(k+1))by omega)];by_cases c2:b<=i/\i<b+k
    ·rw[if_pos c2,if_pos (show b<=i/\i<b+(k+1)by omega)]
    ·rw[if_neg c2,if_neg (show ¬ (b<=i/\i<b+(k+1))by omega)]
theorem Ic (g c a b n:Nat) (D:List TmV) (f:Value) (w:World) (h:TR w g D) (hab:a+n<=b) (hb:b+n<=D.length) (hD:D.length<=1073741824) :
 Calls prog 290 #[.slice (some ⟨g,0,none⟩) D.length c,.int .i64 (a:Int),.int .i64 (b:Int),.int .i64 (n:Int),f] w fun e w'=>e = .returned (.tuple #[])/\∃D',SwK D D' a b n/\TR w' g D'/\Chg (fun k=>k=g) w w':=by
 obtain⟨dl,d⟩:∃n,n=D.length:=⟨_,rfl⟩
 rw[<-d]at hb hD ⊢;replace h:=Aa h;replace d:=Aa d
 go_in
 go_wp2_with fail
 go_loopw [10] (fun s10 wr=>∃(k:Nat) (E:List TmV),s10 = .int .i64 (k:Int)/\k<=n/\Hid (SwK D E a b k/\TR wr g E/\Chg (fun k=>k=g) w wr)) (fun s10 _=>n - (intOf s10).toNat)
 case atStart=>exact⟨0,D,rfl,by omega,Aa ⟨SwK.zero D a b,h.out,Chg.refl _ _⟩⟩
 case round =>
  obtain⟨k,E,rfl,hk,H⟩:=hrel;by_cases h0:k<n
  ·have hl:=H.out.1.1;have U:=d.out;obtain⟨x,G⟩:∃x,E[a+k]? = some x:=⟨_,List.getElem?_eq_getElem (by omega)⟩
   obtain⟨y,I⟩:∃y,E[b+k]? = some y:=⟨_,List.getElem?_eq_getElem (by omega)⟩
   have Y:=H.out.2.1.at_ G;have J:=H.out.2.1.at_ I;have x0:=Y.1;have x1:=Y.2;have y0:=J.1;have y1:=J.2;have fr:=H.out.2.1.free;clear hl U Y J;replace G:=Aa G;replace I:=Aa I;go_wp2_with fail;refine AE (fun K hK=>?_);go_wp2_with fail;refine⟨by kernel_rfl,?_⟩;go_wp2_with fail;have O:=G.out;have Z:=I.out;have hN:=H.out.1.next h0 hab O Z;have h1:=H.out.2.1.put (i:=a+k) (List.getElem?_eq_some_iff.1 O).1 y;have h2:=h1.put (i:=b+k) (by rw[List.length_set];exact(List.getElem?_eq_some_iff.1 Z).1) x;have hc:=(H.out.2.2.trans (Cf wr g (a+k) y) fun _ _ h=>h).trans (Cf _ g (b+k) x) fun _ _ h=>h;go_roundw
   case rel=>exact⟨k+1,_,by go_num,by omega,Aa ⟨hN,h2.drew,hc.trans (Chg.of_ext (Ext.refl _).drew _) fun _ _ h=>h⟩⟩
   case measure=>simp[intOf];omega
  ·go_wp2_with fail
   go_end0
   obtain rfl:k=n:=by omega
   exact⟨rfl,E,H.out⟩
end
section
open Go.RowKit
theorem MC {E E' P X Y Z Q:List TmV} {a b n:Nat} (h:SwK E E' a b n) (O:E=P++(X++(Y++(Z++Q)))) (d:X.length=n) (H:Z.length=n) (G:a=P.length) (hb:b=P.length+X.length+Y.length):E'=P++(Z++(Y++(X++Q))):=by
 refine List.ext_getElem? fun i=>?_;rw[h.2 i,O];simp only[List.getElem?_append];subst G hb;by_cases h1:i<P.length
 ·rw[if_neg (show ¬ (P.length<=i/\i<P.length+n)by omega),if_neg (show ¬ (P.length+X.length+Y.length<=i/\i<P.length+X.length+Y.length+n)by omega)];simp only[if_pos h1]
 ·by_cases h2:i - P.length<n
  ·rw[if_pos (show P.length<=i/\i<P.length+n by omega)];simp only[if_neg h1,d,H,if_pos h2];rw[if_neg (by omega),if_neg (by omega),if_neg (by omega),if_pos (by omega)];congr 1;omega
  ·rw[if_neg (show ¬ (P.length<=i/\i<P.length+n)by omega)];by_cases J:i - P.length - n<Y.length
   ·rw[if_neg (show ¬ (P.length+X.length+Y.length<=i/\i<P.length+X.length+Y.length+n)by omega)];simp only[if_neg h1,d,H,if_neg h2,if_pos J]
   ·by_cases U:i - P.length - n - Y.length<n
    ·rw[if_pos (show P.length+X.length+Y.length<=i/\i<P.length+X.length+Y.length+n by omega)];simp only[if_neg h1,d,H,if_neg h2,if_neg J,if_pos U];rw[if_neg (by omega),if_pos (by omega)];congr 1;omega
    ·rw[if_neg (show ¬ (P.length+X.length+Y.length<=i/\i<P.length+X.length+Y.length+n)by omega)];simp only[if_neg h1,d,H,if_neg h2,if_neg J,if_neg U]
structure RotI (T E:List TmV) (m i j:Nat):Prop where
  ex:∃P U V Q:List TmV,E=P++(U++(V++Q))/\P.length+i=m/\U.length=i/\V.length=j/\T=P++(V++(U++Q))
  i0:0<i
  j0:0<j
theorem RotI.len {T E:List TmV} (h:RotI T E m i j):i<=m/\m+j<=E.length/\E.length=T.length:=by
 obtain⟨P,U,V,Q,d,Y,J,O,H⟩:=h.ex;rw[d,H];simp only[List.length_append];omega
theorem RotI.left {T E E':List TmV} (h:RotI T E m i j) (G:j<i) (hs:SwK E E' (m - i) m j):RotI T E' m (i - j) j:=by
 obtain⟨P,U,V,Q,H,I,hU,O,J⟩:=h.ex;have d:=MC (P:=P) (X:=U.take j) (Y:=U.drop j) (Z:=V) (Q:=Q) hs (by rw[H,<-List.append_assoc (U.take j),List.take_append_drop]) (by rw[List.length_take];omega) O (by omega) (by rw[List.length_take,List.length_drop];omega);refine⟨⟨P++V,U.drop j,U.take j,Q,?_,?_,?_,?_,?_⟩,by omega,h.j0⟩
 ·rw[d];simp only[List.append_assoc]
 ·rw[List.length_append];omega
 ·rw[List.length_drop];omega
 ·rw[List.length_take];omega
 ·rw[J,List.append_assoc,<-List.append_assoc (U.take j),List.take_append_drop]
theorem RotI.right {T E E':List TmV} (h:RotI T E m i j) (I:i<j) (hs:SwK E E' (m - i) (m+j - i) i):RotI T E' m i (j - i):=by
 obtain⟨P,U,V,Q,H,J,G,hV,O⟩:=h.ex;have d:=MC (P:=P) (X:=U) (Y:=V.take (j - i)) (Z:=V.drop (j - i)) (Q:=Q) hs (by rw[H,<-List.append_assoc (V.take (j - i)),List.take_append_drop]) G (by rw[List.length_drop];omega) (by omega) (by rw[List.length_take];omega);refine⟨⟨P,V.drop (j - i),V.take (j - i),U++Q,?_,J,?_,?_,?_⟩,h.i0,by omega⟩
 ·rw[d]
 ·rw[List.length_drop];omega
 ·rw[List.length_take];omega
 ·rw[O,<-List.append_assoc (V.take (j - i)),List.take_append_drop]
theorem RotI.last {T E E':List TmV} (h:RotI T E m i i) (hs:SwK E E' (m - i) m i):E'=T:=by
 obtain⟨P,U,V,Q,H,I,O,G,J⟩:=h.ex;have d:=MC (P:=P) (X:=U) (Y:= []) (Z:=V) (Q:=Q) hs (by rw[H];rfl) O G (by omega) (by simp;omega);rw[d,J];rfl
theorem Ml (g c a m b:Nat) (D T:List TmV) (f:Value) (w:World) (h:TR w g D) (hR:RotI T D m (m - a) (b - m)) (y0:a<m) (f0:m<b) (hD:D.length<=1073741824) :
 Calls prog 257 #[.slice (some ⟨g,0,none⟩) D.length c,.int .i64 (a:Int),.int .i64 (m:Int),.int .i64 (b:Int),f] w fun e w'=>e = .returned (.tuple #[])/\TR w' g T/\Chg (fun k=>k=g) w w':=by
 have hlen:=hR.len;obtain⟨dl,G⟩:∃n,n=D.length:=⟨_,rfl⟩
 rw[<-G]at hD hlen ⊢;have O:∀(a b n:Nat) (E:List TmV) (x:World),TR x g E->E.length=dl->a+n<=b->b+n<=dl->Calls prog 290 #[.slice (some ⟨g,0,none⟩) dl c,.int .i64 (a:Int),.int .i64 (b:Int),.int .i64 (n:Int),f] x fun e w'=>e = .returned (.tuple #[])/\∃D',SwK E D' a b n/\TR w' g D'/\Chg (fun k=>k=g) x w':=fun a b n E x hx hE hab hb=>by
  have:=Ic g c a b n E f x hx hab (by omega) (by omega);rw[hE]at this;exact this
 have hT:T.length=dl:=hlen.2.2.symm;have l0:m<=1073741824:=by omega
 have b0:b<=1073741824:=by omega
 have Z:((b:Int) - (m:Int))=((b - m:Nat):Int):=by omega
 have I:((m:Int) - (a:Int))=((m - a:Nat):Int):=by omega
 replace h:=Aa h;replace hR:=Aa hR;replace O:=Aa O;replace G:=Aa G;replace hlen:=Aa hlen;replace hT:=Aa hT;replace Z:=Aa Z;replace I:=Aa I
 go_in
 go_wp2_with fail;rw[I.out,Z.out]
 go_loopw [10,11] (fun s10 s11 wr=>∃(i j:Nat) (E:List TmV),s10 = .int .i64 (i:Int)/\s11 = .int .i64 (j:Int)/\i<=1073741824/\j<=1073741824/\Hid (RotI T E m i j/\TR wr g E/\Chg (fun k=>k=g) w wr)) (fun s10 s11 _=>(intOf s10).toNat+(intOf s11).toNat)
 case atStart=>exact⟨m - a,b - m,D,rfl,rfl,by omega,by omega,Aa ⟨hR.out,h.out,Chg.refl _ _⟩⟩
 case round =>
  obtain⟨i,j,E,rfl,rfl,hi,hj,U⟩:=hrel;have hl:=U.out.1.len;have c0:=U.out.1.i0;have e0:=U.out.1.j0;have H:E.length=dl:=by have:=hT.out;omega
  have Y:((m:Int) - (i:Int))=((m - i:Nat):Int):=by omega
  have J:((m:Int)+(j:Int) - (i:Int))=((m+j - i:Nat):Int):=by omega
  by_cases m0:i=j
  ·subst m0;have hs:=Aa (O.out (m - i) m i E wr U.out.2.1 H (by omega) (by omega));replace Y:=Aa Y;replace J:=Aa J;replace H:=Aa H;go_wp2_with fail;rw[Y.out];refine hs.out.mono ?_;rintro e w1 ⟨rfl,E',hk,hr,hc⟩;obtain rfl:=U.out.1.last hk;go_wp2_with fail
   go_end0
   exact⟨rfl,hr,U.out.2.2.trans hc fun _ _ h=>h⟩
  ·have n0:¬ (i:Int)=(j:Int):=by omega
   by_cases t0:j<i
   ·have hs:=Aa (O.out (m - i) m j E wr U.out.2.1 H (by omega) (by omega));have d:((i:Int) - (j:Int))=((i - j:Nat):Int):=by omega
    replace Y:=Aa Y;replace J:=Aa J;replace H:=Aa H;replace d:=Aa d;go_wp2_with fail;rw[Y.out];refine hs.out.mono ?_;rintro e w1 ⟨rfl,E',hk,hr,hc⟩;have hN:=U.out.1.left t0 hk;replace hk:=Aa hk;go_wp2_with fail;go_roundw
    case rel=>exact⟨i - j,j,E',by rw[d.out],rfl,by omega,hj,Aa ⟨hN,hr,U.out.2.2.trans hc fun _ _ h=>h⟩⟩
    case measure=>simp[intOf];omega
   ·have hs:=Aa (O.out (m - i) (m+j - i) i E wr U.out.2.1 H (by omega) (by omega));have d:((j:Int) - (i:Int))=((j - i:Nat):Int):=by omega
    replace Y:=Aa Y;replace J:=Aa J;replace H:=Aa H;replace d:=Aa d;go_wp2_with fail;rw[Y.out,J.out];refine hs.out.mono ?_;rintro e w1 ⟨rfl,E',hk,hr,hc⟩;have hN:=U.out.1.right (by omega) hk;replace hk:=Aa hk;go_wp2_with fail;go_roundw
    case rel=>exact⟨i,j - i,E',rfl,by rw[d.out],hi,by omega,Aa ⟨hN,hr,U.out.2.2.trans hc fun _ _ h=>h⟩⟩
    case measure=>simp[intOf];omega
theorem MO:∀(a b:List UInt8),(Lib.compareBytes a b<0↔a<b) /\ -1<=Lib.compareBytes a b/\Lib.compareBytes a b<=1
 | [],[]=>⟨by simp[Lib.compareBytes],by simp[Lib.compareBytes],by simp[Lib.compareBytes]⟩
 | [],_::_=>⟨by simp[Lib.compareBytes],by simp[Lib.compareBytes],by simp[Lib.compareBytes]⟩
 | _::_,[]=>⟨by simp[Lib.compareBytes],by simp[Lib.compareBytes],by simp[Lib.compareBytes]⟩
 | x::xs,y::ys=>by
  have ih:=MO xs ys;rw[Lib.compareBytes,List.cons_lt_cons_iff];by_cases h1:x<y
  ·rw[if_pos h1];exact⟨⟨fun _=> .inl h1,fun _=>by decide⟩,by decide,by decide⟩
  ·rw[if_neg h1];by_cases h2:y<x
   ·rw[if_pos h2];refine⟨⟨fun h=>absurd h (by decide),fun h=>?_⟩,by decide,by decide⟩;rcases h with h | ⟨h,_⟩
    ·exact absurd h h1
    ·rw[h]at h2;exact absurd h2 (UInt8.lt_irrefl _)
   ·rw[if_neg h2];have d:x=y:=UInt8.le_antisymm (UInt8.not_lt.1 h2) (UInt8.not_lt.1 h1);refine⟨⟨fun h=> .inr ⟨d,ih.1.1 h⟩,fun h=>?_⟩,ih.2⟩;rcases h with h | ⟨_,h⟩
    ·exact absurd h h1
    ·exact ih.1.2 h
def tagg (x:TmV):Value:= .agg #[.string ⟨x.1.toArray⟩,.slice x.2.1 x.2.2.1 x.2.2.2]
def cmpV:Value:= .func (.func 101) #[] #[]
def CmpP (x y:TmV) (w:World) (e:Ending) (w':World):Prop:=∃z:Int,e = .returned (.int .i64 z)/\(z<0↔x.1<y.1) /\ -1<=z/\z<=1/\Ext w w'
theorem Fs (x y:TmV) (w:World):Calls prog 101 #[tagg x,tagg y] w (CmpP x y w):=by
 have d:=Aa (fun W=>Tryz.strings_Compare ⟨x.1.toArray⟩ ⟨y.1.toArray⟩ W);unfold tagg
 go_in
 go_wp2_with fail;refine(d.out _).mono ?_;rintro e w1 ⟨rfl,rfl⟩;go_wp2_with fail;go_ret;have h:=MO x.1 y.1;exact⟨_,rfl,h.1,h.2.1,h.2.2,((Ext.refl w).alloc _).alloc _⟩
structure InsI (D E P X Q:List TmV) (i:Nat):Prop where
  hi:P.length<=i/\i<=P.length+X.length
  ex:∃S,E=P++(S++(X.drop (i - P.length)++Q))/\Std (X.take (i - P.length)) S
structure InsJ (E P S R:List TmV) (z:TmV) (k:Nat):Prop where
  hk:k<=S.length
  eq:E=P++(S.take k++z::(S.drop k++R))
  gt:∀y∈S.drop k,z.1<y.1
theorem InsJ.len {E P S R:List TmV} {z:TmV} (h:InsJ E P S R z k):E.length=P.length+S.length+1+R.length:=by
 rw[h.eq];simp only[List.length_append,List.length_cons,List.length_take,List.length_drop];have:=h.hk;omega
theorem InsJ.here {E P S R:List TmV} {z:TmV} (h:InsJ E P S R z k):E[P.length+k]? = some z:=by
 have:=h.hk;rw[h.eq,List.getElem?_append_right (by omega),List.getElem?_append_right (by rw[List.length_take];omega),List.length_take,show P.length+k - P.length - min k S.length=0 by omega];rfl
theorem InsJ.ahead {E P S R:List TmV} {z:TmV} (h:InsJ E P S R z (k+1)):∃y,E[P.length+k]? = some y/\S[k]? = some y:=by
 have:=h.hk;obtain⟨y,d⟩:∃y,S[k]? = some y:=⟨_,List.getElem?_eq_getElem (by omega)⟩
 refine⟨y,?_,d⟩;rw[h.eq,List.getElem?_append_right (by omega),List.getElem?_append_left (by rw[List.length_take];omega),show P.length+k - P.length=k by omega,List.getElem?_take,if_pos (by omega)];exact d
theorem Hr {α:Type} (y z:α) (B:List α):∀A:List α,((A++y::z::B).set (A.length+1) y).set A.length z=A++z::y::B
 | []=>rfl
 | a::A=>by simp[Hr y z B A]
theorem InsJ.next {E P S R:List TmV} {z y:TmV} (h:InsJ E P S R z (k+1)) (J:S[k]? = some y) (H:z.1<y.1):InsJ ((E.set (P.length+(k+1)) y).set (P.length+k) z) P S R z k:=by
 have hk:=h.hk;have hd:S.drop k=y::S.drop (k+1):=by
  obtain⟨d,U⟩:=List.getElem?_eq_some_iff.1 J;rw[List.drop_eq_getElem_cons d,U]
 have ht:S.take (k+1)=S.take k ++ [y]:=by rw[List.take_succ_eq_append_getElem (by omega)];congr 2;exact(List.getElem?_eq_some_iff.1 J).2
 refine⟨by omega,?_,?_⟩
 ·have d:(P++S.take k).length=P.length+k:=by rw[List.length_append,List.length_take];omega
  have:=Hr y z (S.drop (k+1)++R) (P++S.take k);rw[d]at this;rw[h.eq,ht,hd,show P++(S.take k ++ [y]++z::(S.drop (k+1)++R))=(P++S.take k)++y::z::(S.drop (k+1)++R)by simp,<-Nat.add_assoc,this];simp
 ·rw[hd];intro x Y;rcases List.mem_cons.1 Y with rfl | Y
  ·exact H
  ·exact h.gt x Y
theorem InsJ.start {D E P X Q S:List TmV} {z:TmV} (h:E=P++(S++(X.drop (i - P.length)++Q))) (J:Std (X.take (i - P.length)) S) (Y:X[i - P.length]? = some z):InsJ E P S (X.drop (i - P.length+1)++Q) z S.length:=by
 obtain⟨H,d⟩:=List.getElem?_eq_some_iff.1 Y;refine⟨Nat.le_refl _,?_,by rw[List.drop_length];nofun⟩;rw[h,List.take_length,List.drop_length,List.nil_append,List.drop_eq_getElem_cons H,d];rfl
theorem InsJ.done {D E P X Q S:List TmV} {z:TmV} (h:InsJ E P S (X.drop (i - P.length+1)++Q) z k) (H:Std (X.take (i - P.length)) S) (I:X[i - P.length]? = some z) (U:P.length<=i) (Y:k=0\/∃y,S[k - 1]? = some y/\¬ z.1<y.1):InsI D E P X Q (i+1):=by
 obtain⟨Z,O⟩:=List.getElem?_eq_some_iff.1 I;refine⟨⟨by omega,by omega⟩,S.take k++z::S.drop k,?_,?_⟩
 ·rw[h.eq,show i+1 - P.length=i - P.length+1 by omega];simp only[List.append_assoc,List.cons_append]
 ·rw[show i+1 - P.length=i - P.length+1 by omega,List.take_succ_eq_append_getElem Z,O];have h1:Std [z] [z]:=⟨List.pairwise_singleton ..,Stb.refl _⟩
  refine H.mrg h1 (IM H.1 (fun x d=>?_) h.gt);rcases Y with rfl | ⟨y,G,J⟩
  ·cases d
  ·by_cases e:k=0
   ·rw[e]at d;cases d
   ·exact C6 (H.1.take_le G x (by rw[show k - 1+1=k by omega];exact d)) J
theorem HW (g c a b : Nat) (D P X Q : List TmV) (w : World) (h : TR w g D) (hD : D = P ++ (X ++ Q)) (ha : a = P.length) (hb : b = P.length + X.length) (n0 : D.length ≤ 1073741824) :
    Calls prog 210 #[.slice (some ⟨g, 0, none⟩) D.length c, .int .i64 (a : Int), .int .i64 (b : Int), cmpV] w fun e w' => e = .returned (.tuple #[]) ∧ ∃ S, Std X S ∧ TR w' g (P ++ (S ++ Q)) ∧ Chg (fun k => k = g) w w' := by
  obtain ⟨dl, I⟩ : ∃ n, n = D.length := ⟨_, rfl⟩
  have a3 : b ≤ dl := by rw [I, hD]; simp only [List.length_append]; omega
  rw [← I] at n0 ⊢
  have t3 : a ≤ 1073741824 := by omega
  have x3 : b ≤ 1073741824 := by omega
  unfold cmpV
  by_cases hX : X = []
  · have i2 : b = a := by rw [hb, ha, hX]; rfl
    subst i2
    have H : TR w g (P ++ ([] ++ Q)) := by rw [← hX, ← hD]; exact h
    have j0 : Std X [] := by rw [hX]; exact ⟨List.Pairwise.nil, Stb.refl _⟩
    replace H := Aa H
    replace j0 := Aa j0
    clear hX hD ha hb h I
    go_in
    go_wp2_with fail
    go_loopw [8] (fun s8 wr => s8 = .int .i64 ((b : Int) + 1) ∧ wr = w) (fun _ _ => 0)
    case atStart => exact ⟨rfl, rfl⟩
    case round =>
      obtain ⟨rfl, rfl⟩ := hrel
      have p0 : ¬ ((b : Int) + 1 < (b : Int)) := by omega
      go_wp2_with fail
      go_end0
      exact ⟨rfl, [], j0.out, H.out, Chg.refl _ _⟩
  · have z3 : 0 < X.length := List.length_pos_iff.2 hX
    have hI : InsI D D P X Q (a + 1) := ⟨⟨by omega, by omega⟩, X.take 1, by
      rw [show a + 1 - P.length = 1 by omega, ← List.append_assoc (X.take 1), List.take_append_drop]; exact hD, by
      rw [show a + 1 - P.length = 1 by omega]
      refine ⟨?_, Stb.refl _⟩
      cases X with
      | nil => exact absurd rfl hX
      | cons x X => exact List.pairwise_singleton ..⟩
    replace h := Aa h
    replace hD := Aa hD
    replace I := Aa I
    replace hI := Aa hI
    replace ha := Aa ha
    replace hb := Aa hb
    have G := fun x y W => Fs x y W
    unfold tagg at G
    replace G := Aa G
    clear hX
    go_in
    go_wp2_with fail
    go_loopw [8] (fun s8 wr => ∃ (i : Nat) (E : List TmV), s8 = .int .i64 (i : Int) ∧ i ≤ b ∧ Hid (a < i ∧ InsI D E P X Q i ∧ TR wr g E ∧ Chg (fun k => k = g) w wr)) (fun s8 _ => b - (intOf s8).toNat)
    case atStart => exact ⟨a + 1, D, by go_num, by have := hb.out; have := ha.out; omega, Aa ⟨by omega, hI.out, h.out, Chg.refl _ _⟩⟩
    case round =>
      obtain ⟨i, E, rfl, hi, hJ⟩ := hrel
      obtain ⟨wo, rfl⟩ := Ab wr
      by_cases e3 : i < b
      · obtain ⟨e2, ⟨i0, S, hE, hS⟩, hT, hC⟩ := hJ.out
        have Y := ha.out
        have f2 := hb.out
        obtain ⟨z, hz⟩ : ∃ z, X[i - P.length]? = some z := ⟨_, List.getElem?_eq_getElem (by omega)⟩
        have d2 : S.length = i - P.length := by rw [hS.2.len, List.length_take]; omega
        have k0 := InsJ.start (D := D) hE hS hz
        have d := fun (E' : List TmV) (k : Nat) (h : InsJ E' P S (X.drop (i - P.length + 1) ++ Q) z k) (n0 : k = 0 ∨ ∃ y, S[k - 1]? = some y ∧ ¬ z.1 < y.1) => h.done (D := D) hS hz i0.1 n0
        have hlen := k0.len
        have p2 : E.length = dl := by rw [I.out, hD.out, hlen]; simp only [List.length_append, List.length_drop]; omega
        obtain ⟨R, hR⟩ := Ab (X.drop (i - P.length + 1) ++ Q)
        rw [← hR] at k0 d hlen
        have t0 : P.length + S.length + 1 + R.length = dl := by omega
        have e0 : i = a + S.length := by omega
        replace k0 := Aa k0
        replace d := Aa d
        replace hT := Aa hT
        replace hC := Aa hC
        replace t0 := Aa t0
        replace e0 := Aa e0
        replace Y := Aa Y
        clear hE hS hz hlen p2 hR hJ hI h f2 d2 i0
        go_wp2_with fail
        go_loopw [9] (fun s9 wr => ∃ (j k : Nat) (E : List TmV), s9 = .int .i64 (j : Int) ∧ j ≤ i ∧ Hid (j = a + k ∧ InsJ E P S R z k ∧ TR wr g E ∧ Chg (fun k => k = g) w wr)) (fun s9 _ => (intOf s9).toNat)
        case atStart => exact ⟨i, S.length, E, rfl, Nat.le_refl _, Aa ⟨e0.out, k0.out, hT.out, hC.out⟩⟩
        case round =>
          obtain ⟨j, k, E, rfl, i3, O⟩ := hrel
          by_cases l0 : k = 0
          · have l2 : ¬ (a : Int) < (j : Int) := by have := O.out.1; omega
            have q3 : decide ((a : Int) < (j : Int)) = false := decide_eq_false l2
            have f3 : decide (a < j) = false := decide_eq_false (by omega)
            replace l0 := Aa l0
            go_wp2_with fail
            go_quiet (fail)
            go_wp2_with fail
            go_roundw
            case rel => exact ⟨i + 1, E, by go_num, by omega, Aa ⟨by omega, d.out E k O.out.2.1 (.inl l0.out), O.out.2.2.1.ext ((Ext.refl wr).drewN _), O.out.2.2.2.trans (Chg.of_ext ((Ext.refl wr).drewN _) _) fun _ _ h => h⟩⟩
            case measure => simp [intOf]; omega
          · obtain ⟨k1, rfl⟩ : ∃ k1, k = k1 + 1 := ⟨k - 1, by omega⟩
            obtain ⟨j1, Z⟩ : ∃ j1, j = j1 + 1 := ⟨j - 1, by have := O.out.1; omega⟩
            obtain ⟨y, hy, v0⟩ := O.out.2.1.ahead
            have J := O.out.2.1.here
            have U : j1 = a + k1 := by have := O.out.1; omega
            have o0 := O.out.2.2.1.at_ (i := j) (x := z) (by rw [Z, U, Y.out]; exact J)
            have r0 := O.out.2.2.1.at_ (i := j1) (x := y) (by rw [U, Y.out]; exact hy)
            have g0 : wr.cell? ⟨g, j * 2, none⟩ = some (.string ⟨z.1.toArray⟩) ∧ wr.cell? ⟨g, j * 2 + 1, none⟩ = some (.slice z.2.1 z.2.2.1 z.2.2.2) ∧ wr.cell? ⟨g, j1 * 2, none⟩ = some (.string ⟨y.1.toArray⟩) ∧ wr.cell? ⟨g, j1 * 2 + 1, none⟩ = some (.slice y.2.1 y.2.2.1 y.2.2.2) ∧ Ext wr wr := ⟨o0.1, o0.2, r0.1, r0.2, Ext.refl wr⟩
            have m0 : ∀ w0 w1 : World, (w0.cell? ⟨g, j * 2, none⟩ = some (.string ⟨z.1.toArray⟩) ∧ w0.cell? ⟨g, j * 2 + 1, none⟩ = some (.slice z.2.1 z.2.2.1 z.2.2.2) ∧ w0.cell? ⟨g, j1 * 2, none⟩ = some (.string ⟨y.1.toArray⟩) ∧ w0.cell? ⟨g, j1 * 2 + 1, none⟩ = some (.slice y.2.1 y.2.2.1 y.2.2.2) ∧ Ext wr w0) → Ext w0 w1 → (w1.cell? ⟨g, j * 2, none⟩ = some (.string ⟨z.1.toArray⟩) ∧ w1.cell? ⟨g, j * 2 + 1, none⟩ = some (.slice z.2.1 z.2.2.1 z.2.2.2) ∧ w1.cell? ⟨g, j1 * 2, none⟩ = some (.string ⟨y.1.toArray⟩) ∧ w1.cell? ⟨g, j1 * 2 + 1, none⟩ = some (.slice y.2.1 y.2.2.1 y.2.2.2) ∧ Ext wr w1) := fun w0 w1 h1 h3 => ⟨h3.cell h1.1, h3.cell h1.2.1, h3.cell h1.2.2.1, h3.cell h1.2.2.2.1, h1.2.2.2.2.trans h3⟩
            have d0 := m0 _ _ g0 (Ext.refl wr).drew
            have l3 : j < dl := by have := t0.out; have := O.out.2.1.hk; have := Y.out; omega
            have q3 : decide (a < j) = true := decide_eq_true (by omega)
            have b1 : (j : Int) < (dl : Int) := by omega
            have b2 : (j1 : Int) < (dl : Int) := by omega
            have b3 : (0 : Int) ≤ (j : Int) - 1 := by omega
            have b4 : IntKind.i64.wrap ((j : Int) - 1) = (j1 : Int) := by rw [IntWalk.i64_in _ (by omega)]; omega
            replace Z := Aa Z
            have fr := O.out.2.2.1.free
            replace g0 := Aa g0
            replace d0 := Aa d0
            replace m0 := Aa m0
            replace hy := Aa hy
            replace v0 := Aa v0
            replace J := Aa J
            replace U := Aa U
            clear o0 r0
            go_wp2_with fail
            go_region_held3 (fun x => x.cell? ⟨g, j * 2, none⟩ = some (.string ⟨z.1.toArray⟩) ∧ x.cell? ⟨g, j * 2 + 1, none⟩ = some (.slice z.2.1 z.2.2.1 z.2.2.2) ∧ x.cell? ⟨g, j1 * 2, none⟩ = some (.string ⟨y.1.toArray⟩) ∧ x.cell? ⟨g, j1 * 2 + 1, none⟩ = some (.slice y.2.1 y.2.2.1 y.2.2.2) ∧ Ext wr x) (first | exact d0.out | exact g0.out | exact ‹_› | exact m0.out _ _ ‹_› ‹_›) (first
              | (go_at_call 101; refine (G.out z y _).mono ?_; rintro e w5 ⟨zc, rfl, h0, o3, r3, m2⟩))
            have i1 := (Ext.refl wr).drew.trans m2
            have q0 := O.out.2.2.1.ext i1
            have e1 := O.out.2.2.2.trans (Chg.of_ext i1 (fun k => k = g)) fun _ _ h => h
            by_cases p0 : z.1 < y.1
            · have p1 := h0.2 p0
              have k3 : decide (zc < 0) = true := decide_eq_true p1
              have q1 := q0.at_ (i := j) (x := z) (by rw [Z.out, U.out, Y.out]; exact J.out)
              have q2 := q0.at_ (i := j1) (x := y) (by rw [U.out, Y.out]; exact hy.out)
              have x0 := q1.1
              have x1 := q1.2
              have y0 := q2.1
              have y1 := q2.2
              have fr5 := q0.free
              have o1 : j1 < j := by have := Z.out; omega
              have o2 : j ≤ j1 + 1 := by have := Z.out; omega
              replace h0 := Aa h0
              clear q1 q2 fr
              go_wp2_with fail
              refine AE (fun K O => ?_)
              go_wp2_with fail
              refine ⟨by kernel_rfl, ?_⟩
              go_wp2_with fail
              have a2 : P.length + (k1 + 1) = j := by have := Z.out; have := U.out; have := Y.out; omega
              have y2 : P.length + k1 = j1 := by have := U.out; have := Y.out; omega
              have hN := O.out.2.1.next v0.out p0
              rw [a2, y2] at hN
              have p2 := O.out.2.1.len
              have y3 := t0.out
              have h1 := q0.put (i := j) (by omega) y
              have h2 := h1.put (i := j1) (by rw [List.length_set]; omega) z
              have hc := (e1.trans (Cf w5 g j y) fun _ _ h => h).trans (Cf _ g j1 z) fun _ _ h => h
              go_roundw
              case rel => exact ⟨j1, k1, _, rfl, by omega, Aa ⟨U.out, hN, h2.drew, hc.trans (Chg.of_ext (Ext.refl _).drew _) fun _ _ h => h⟩⟩
              case measure => simp [intOf]; omega
            · have p1 : ¬ zc < 0 := fun h => p0 (h0.1 h)
              have k3 : decide (zc < 0) = false := decide_eq_false p1
              have H := d.out E (k1 + 1) O.out.2.1 (.inr ⟨y, v0.out, p0⟩)
              replace h0 := Aa h0
              replace H := Aa H
              go_wp2_with fail
              go_roundw
              case rel => exact ⟨i + 1, E, by go_num, by omega, Aa ⟨by omega, H.out, q0, e1⟩⟩
              case measure => simp [intOf]; omega
      · go_wp2_with fail
        go_end0
        obtain ⟨e2, ⟨i0, S, hE, hS⟩, hT, hC⟩ := hJ.out
        have n1 : i - P.length = X.length := by have := hb.out; omega
        rw [n1, List.take_length] at hS
        rw [n1, List.drop_length, List.nil_append] at hE
        exact ⟨rfl, S, hS, hE ▸ hT, hC⟩
theorem I6 {α:Type} (y z:α) (B:List α):∀A:List α,((A++z::y::B).set A.length y).set (A.length+1) z=A++y::z::B
 | []=>rfl
 | a::A=>by simp[I6 y z B A]
theorem Hp {α:Type} {P A R:List α} (h:i<A.length):(P++(A++R))[P.length+i]? = A[i]? :=by
 rw[List.getElem?_append_right (by omega),show P.length+i - P.length=i by omega,List.getElem?_append_left h]
theorem FP {α:Type} {P A B R:List α} (h:i<B.length):(P++(A++(B++R)))[P.length+A.length+i]? = B[i]? :=by
 rw[List.getElem?_append_right (by omega),List.getElem?_append_right (by omega),show P.length+A.length+i - P.length - A.length=i by omega,List.getElem?_append_left h]
def SymP (g:Nat) (P A B Q:List TmV) (w:World) (e:Ending) (w':World):Prop:=e = .returned (.tuple #[])/\∃M,Mrg A B M/\TR w' g (P++(M++Q))/\Chg (fun k=>k=g) w w'
theorem Qc (g c a m b:Nat) (D P B Q:List TmV) (z:TmV) (w:World) (G:TR w g D) (hD:D=P++([z]++(B++Q))) (ha:a=P.length) (hm:m=a+1) (hb:b=m+B.length) (hB:Srt B) (a2:D.length<=1073741824) :
 Calls prog 211 #[.slice (some ⟨g,0,none⟩) D.length c,.int .i64 (a:Int),.int .i64 (m:Int),.int .i64 (b:Int),cmpV] w (SymP g P [z] B Q w):=by
 obtain⟨dl,I⟩:∃n,n=D.length:=⟨_,rfl⟩
 have k3:b<=dl:=by rw[I,hD];simp only[List.length_append,List.length_singleton];omega
 rw[<-I]at a2 ⊢;have hz:D[a]? = some z:=by rw[hD,ha];exact Hp (P:=P) (A:= [z]) (i:=0) (by simp)
 have hy:∀i,i<B.length->D[m+i]? = B[i]? :=fun i hi=>by rw[hD,hm,ha];exact FP (P:=P) (A:= [z]) hi
 have y3:(m:Int) - (a:Int)=1:=by omega
 have hab:a<b:=by omega
 have e2:m<=b:=by omega
 have Y:=fun x y W=>Fs x y W;unfold tagg at Y;unfold cmpV;replace Y:=Aa Y;replace G:=Aa G;replace hD:=Aa hD;replace I:=Aa I;replace hz:=Aa hz;replace hy:=Aa hy;replace hB:=Aa hB;replace ha:=Aa ha;replace hm:=Aa hm;replace hb:=Aa hb
 go_in
 go_wp2_with fail
 go_loopw [10,11] (fun s10 s11 wr=>∃i j:Nat,s10 = .int .i64 (i:Int)/\s11 = .int .i64 (j:Int)/\m<=i/\i<=j/\j<=b/\Hid ((∀y∈B.take (i - m),y.1<z.1)/\(∀y∈B.drop (j - m),¬ y.1<z.1)/\Ext w wr)) (fun s10 s11 _=>(intOf s11).toNat - (intOf s10).toNat)
 case atStart=>exact⟨m,b,rfl,rfl,Nat.le_refl _,e2,Nat.le_refl _,Aa ⟨by rw[Nat.sub_self];nofun,by rw[show b - m=B.length by have:=hb.out;omega,List.drop_length];nofun,Ext.refl _⟩⟩
 case round =>
  obtain⟨i,j,rfl,rfl,f2,t3,x2,hI⟩:=hrel;by_cases d2:i<j
  ·obtain⟨h,hh⟩:∃h:Nat,((i:Int)+(j:Int)) / 2=(h:Int):=⟨(i+j) / 2,by omega⟩
   have m2:i<=h:=by omega
   have j3:h<j:=by omega
   obtain⟨y,d⟩:∃y,B[h - m]? = some y:=⟨_,List.getElem?_eq_getElem (by have:=hb.out;omega)⟩
   have o0:D[h]? = some y:=by have:=hy.out (h - m) (by have:=hb.out;omega);rw[show m+(h - m)=h by omega]at this;rw[this];exact d
   have f0:=(G.out.ext hI.out.2.2).at_ o0;have i0:=(G.out.ext hI.out.2.2).at_ hz.out;have g0:wr.cell? ⟨g,h*2,none⟩=some (.string ⟨y.1.toArray⟩)/\wr.cell? ⟨g,h*2+1,none⟩=some (.slice y.2.1 y.2.2.1 y.2.2.2)/\wr.cell? ⟨g,a*2,none⟩=some (.string ⟨z.1.toArray⟩)/\wr.cell? ⟨g,a*2+1,none⟩=some (.slice z.2.1 z.2.2.1 z.2.2.2)/\Ext wr wr:=⟨f0.1,f0.2,i0.1,i0.2,Ext.refl wr⟩
   have t0:∀w0 w1:World,(w0.cell? ⟨g,h*2,none⟩=some (.string ⟨y.1.toArray⟩)/\w0.cell? ⟨g,h*2+1,none⟩=some (.slice y.2.1 y.2.2.1 y.2.2.2)/\w0.cell? ⟨g,a*2,none⟩=some (.string ⟨z.1.toArray⟩)/\w0.cell? ⟨g,a*2+1,none⟩=some (.slice z.2.1 z.2.2.1 z.2.2.2)/\Ext wr w0)->Ext w0 w1->(w1.cell? ⟨g,h*2,none⟩=some (.string ⟨y.1.toArray⟩)/\w1.cell? ⟨g,h*2+1,none⟩=some (.slice y.2.1 y.2.2.1 y.2.2.2)/\w1.cell? ⟨g,a*2,none⟩=some (.string ⟨z.1.toArray⟩)/\w1.cell? ⟨g,a*2+1,none⟩=some (.slice z.2.1 z.2.2.1 z.2.2.2)/\Ext wr w1):=fun w0 w1 h1 h3=>⟨h3.cell h1.1,h3.cell h1.2.1,h3.cell h1.2.2.1,h3.cell h1.2.2.2.1,h1.2.2.2.2.trans h3⟩
   have d0:=t0 _ _ g0 (Ext.refl wr).drew;have b1:(h:Int)<(dl:Int):=by omega
   have b2:(a:Int)<(dl:Int):=by omega
   replace g0:=Aa g0;replace d0:=Aa d0;replace t0:=Aa t0;replace d:=Aa d;replace o0:=Aa o0;replace hh:=Aa hh;clear f0 i0;go_upto_region 5 with (fail)
   rw[hh.out]
   go_region_held3 (fun x=>x.cell? ⟨g,h*2,none⟩=some (.string ⟨y.1.toArray⟩)/\x.cell? ⟨g,h*2+1,none⟩=some (.slice y.2.1 y.2.2.1 y.2.2.2)/\x.cell? ⟨g,a*2,none⟩=some (.string ⟨z.1.toArray⟩)/\x.cell? ⟨g,a*2+1,none⟩=some (.slice z.2.1 z.2.2.1 z.2.2.2)/\Ext wr x) (first | exact d0.out | exact g0.out | exact ‹_› | exact t0.out _ _ ‹_› ‹_›) (first
    | (go_at_call 101;refine(Y.out y z _).mono ?_;rintro e w5 ⟨zc,rfl,H,b0,z3,n1⟩))
   have a1:=hI.out.2.2.trans ((Ext.refl wr).drew.trans n1);by_cases q0:y.1<z.1
   ·have q3:decide (zc<0)=true:=decide_eq_true (H.2 q0);have i1:=H.2 q0;replace H:=Aa H;go_wp2_with fail;go_roundw
    case rel=>exact⟨h+1,j,by go_num,rfl,by omega,by omega,x2,Aa ⟨fun x hx=>PH (hB.out.take_le d.out x (by rw[show h - m+1=h+1 - m by omega];exact hx)) q0,hI.out.2.1,a1⟩⟩
    case measure=>simp[intOf];omega
   ·have i1:¬ zc<0:=fun hc=>q0 (H.1 hc);have q3:decide (zc<0)=false:=decide_eq_false i1;replace H:=Aa H;go_wp2_with fail;go_roundw
    case rel=>exact⟨i,h,rfl,rfl,f2,m2,by omega,Aa ⟨hI.out.1,fun x hx=>C6 q0 (hB.out.drop_ge d.out x hx),a1⟩⟩
    case measure=>simp[intOf];omega
  ·obtain rfl:i=j:=by omega
   have m3:i<=dl:=by omega
   have e1:(i:Int) - 1=((i - 1:Nat):Int):=by have:=hm.out;omega
   have hM:Mrg [z] B (B.take (i - m)++z::B.drop (i - m)):=PI hB.out hI.out.1 hI.out.2.1;have hT:=G.out.ext hI.out.2.2;have hC:=Chg.of_ext hI.out.2.2 (fun k=>k=g);have e0:=hm.out;obtain⟨wo,rfl⟩:=Ab wr;replace hT:=Aa hT;replace hC:=Aa hC;replace hM:=Aa hM;replace e1:=Aa e1;replace e0:=Aa e0;go_wp2_with fail
   go_loopw [13] (fun s13 wr=>∃(k:Nat) (E:List TmV),s13 = .int .i64 (k:Int)/\a<=k/\k+1<=i/\Hid (E=P++(B.take (k - a)++z::(B.drop (k - a)++Q))/\TR wr g E/\Chg (fun k=>k=g) w wr)) (fun s13 _=>i - (intOf s13).toNat)
   case atStart=>exact⟨a,D,rfl,Nat.le_refl _,by have:=e0.out;omega,Aa ⟨by rw[Nat.sub_self];exact hD.out,hT.out,hC.out⟩⟩
   case round =>
    obtain⟨k,E,rfl,p3,x3,O⟩:=hrel;have j0:=ha.out;have v0:=hm.out;have m0:=hb.out;by_cases d2:k+1<i
    ·have f1:(k:Int)<(i:Int) - 1:=by omega
     obtain⟨y,d⟩:∃y,B[k - a]? = some y:=⟨_,List.getElem?_eq_getElem (by omega)⟩
     have hd:B.drop (k - a)=y::B.drop (k - a+1):=by
      obtain⟨hl,he⟩:=List.getElem?_eq_some_iff.1 d;rw[List.drop_eq_getElem_cons hl,he]
     have l0:B.take (k - a+1)=B.take (k - a) ++ [y]:=by
      obtain⟨hl,he⟩:=List.getElem?_eq_some_iff.1 d;rw[List.take_succ_eq_append_getElem hl,he]
     have Z:(P++B.take (k - a)).length=k:=by rw[List.length_append,List.length_take];omega
     have U:E=(P++B.take (k - a))++z::y::(B.drop (k - a+1)++Q):=by rw[O.out.1,hd];simp
     have p0:E.length=dl:=by rw[O.out.1,I.out,hD.out];simp only[List.length_append,List.length_cons,List.length_take,List.length_drop,List.length_nil];omega
     have b0:E[k]? = some z:=by rw[U,List.getElem?_append_right (by omega),Z,Nat.sub_self];rfl
     have n0:E[k+1]? = some y:=by rw[U,List.getElem?_append_right (by omega),Z,show k+1 - k=1 by omega];rfl
     have J:=I6 y z (B.drop (k - a+1)++Q) (P++B.take (k - a));rw[Z,<-U]at J;have q1:=O.out.2.1.at_ b0;have q2:=O.out.2.1.at_ n0;have x0:=q1.1;have x1:=q1.2;have y0:=q2.1;have y1:=q2.2;have fr:=O.out.2.1.free;replace J:=Aa J;replace U:=Aa U;replace p0:=Aa p0;replace hd:=Aa hd;replace l0:=Aa l0;replace Z:=Aa Z;replace b0:=Aa b0;replace n0:=Aa n0;replace d:=Aa d;replace j0:=Aa j0;replace v0:=Aa v0;replace m0:=Aa m0;clear q1 q2;go_wp2_with fail;refine AE (fun K O=>?_);go_wp2_with fail;refine⟨by kernel_rfl,?_⟩;go_wp2_with fail;have h1:=O.out.2.1.put (i:=k) (by have:=p0.out;omega) y;have h2:=h1.put (i:=k+1) (by rw[List.length_set];have:=p0.out;omega) z;have hc:=(O.out.2.2.trans (Cf wr g k y) fun _ _ h=>h).trans (Cf _ g (k+1) z) fun _ _ h=>h;rw[J.out]at h2;go_roundw
     case rel=>exact⟨k+1,_,by go_num,by omega,by omega,Aa ⟨by rw[show k+1 - a=k - a+1 by omega,l0.out];simp,h2.drew,hc.trans (Chg.of_ext (Ext.refl _).drew _) fun _ _ h=>h⟩⟩
     case measure=>simp[intOf];omega
    ·have f1:¬ (k:Int)<(i:Int) - 1:=by omega
     have h0:SymP g P [z] B Q w (.returned (.tuple #[])) wr:=by
      refine⟨rfl,_,hM.out,?_,O.out.2.2⟩;have he:=O.out.1;rw[show k - a=i - m by omega]at he;rw[show P++(B.take (i - m)++z::B.drop (i - m)++Q)=E by rw[he];simp];exact O.out.2.1
     replace h0:=Aa h0;replace j0:=Aa j0;replace v0:=Aa v0;replace m0:=Aa m0;go_wp2_with fail
     go_end0
     exact h0.out
theorem OL (g c a m b:Nat) (D P A Q:List TmV) (z:TmV) (w:World) (h0:TR w g D) (hD:D=P++(A++([z]++Q))) (ha:a=P.length) (hm:m=a+A.length) (hb:b=m+1) (hA:Srt A) (t3:1<A.length) (d2:D.length<=1073741824) :
 Calls prog 211 #[.slice (some ⟨g,0,none⟩) D.length c,.int .i64 (a:Int),.int .i64 (m:Int),.int .i64 (b:Int),cmpV] w (SymP g P A [z] Q w):=by
 obtain⟨dl,q0⟩:∃n,n=D.length:=⟨_,rfl⟩
 have y3:b<=dl:=by rw[q0,hD];simp only[List.length_append,List.length_singleton];omega
 rw[<-q0]at d2 ⊢;have hz:D[m]? = some z:=by rw[hD,hm,ha];exact FP (P:=P) (B:= [z]) (i:=0) (by simp)
 have hy:∀i,i<A.length->D[a+i]? = A[i]? :=fun i hi=>by rw[hD,ha];exact Hp hi
 have f2:¬ (m:Int) - (a:Int)=1:=by omega
 have m3:((m:Int) - (a:Int)==1)=false:=beq_eq_false_iff_ne.2 f2;have z3:(b:Int) - (m:Int)=1:=by omega
 have x3:a<m:=by omega
 have f3:m<b:=by omega
 have H:=fun x y W=>Fs x y W;unfold tagg at H;unfold cmpV;replace H:=Aa H;replace h0:=Aa h0;replace hD:=Aa hD;replace q0:=Aa q0;replace hz:=Aa hz;replace hy:=Aa hy;replace hA:=Aa hA;replace ha:=Aa ha;replace hm:=Aa hm;replace hb:=Aa hb
 go_in
 go_wp2_with fail
 go_loopw [14,15] (fun s14 s15 wr=>∃i j:Nat,s14 = .int .i64 (i:Int)/\s15 = .int .i64 (j:Int)/\a<=i/\i<=j/\j<=m/\Hid ((∀x∈A.take (i - a),¬ z.1<x.1)/\(∀x∈A.drop (j - a),z.1<x.1)/\Ext w wr)) (fun s14 s15 _=>(intOf s15).toNat - (intOf s14).toNat)
 case atStart=>exact⟨a,m,rfl,rfl,Nat.le_refl _,by omega,Nat.le_refl _,Aa ⟨by rw[Nat.sub_self];nofun,by rw[show m - a=A.length by have:=hm.out;omega,List.drop_length];nofun,Ext.refl _⟩⟩
 case round =>
  obtain⟨i,j,rfl,rfl,k2,b3,y2,hI⟩:=hrel;by_cases e2:i<j
  ·obtain⟨h,hh⟩:∃h:Nat,((i:Int)+(j:Int)) / 2=(h:Int):=⟨(i+j) / 2,by omega⟩
   have x2:i<=h:=by omega
   have a3:h<j:=by omega
   obtain⟨y,d⟩:∃y,A[h - a]? = some y:=⟨_,List.getElem?_eq_getElem (by have:=hm.out;omega)⟩
   have m1:D[h]? = some y:=by have:=hy.out (h - a) (by have:=hm.out;omega);rw[show a+(h - a)=h by omega]at this;rw[this];exact d
   have o0:=(h0.out.ext hI.out.2.2).at_ hz.out;have r0:=(h0.out.ext hI.out.2.2).at_ m1;have I:wr.cell? ⟨g,m*2,none⟩=some (.string ⟨z.1.toArray⟩)/\wr.cell? ⟨g,m*2+1,none⟩=some (.slice z.2.1 z.2.2.1 z.2.2.2)/\wr.cell? ⟨g,h*2,none⟩=some (.string ⟨y.1.toArray⟩)/\wr.cell? ⟨g,h*2+1,none⟩=some (.slice y.2.1 y.2.2.1 y.2.2.2)/\Ext wr wr:=⟨o0.1,o0.2,r0.1,r0.2,Ext.refl wr⟩
   have k0:∀w0 w1:World,(w0.cell? ⟨g,m*2,none⟩=some (.string ⟨z.1.toArray⟩)/\w0.cell? ⟨g,m*2+1,none⟩=some (.slice z.2.1 z.2.2.1 z.2.2.2)/\w0.cell? ⟨g,h*2,none⟩=some (.string ⟨y.1.toArray⟩)/\w0.cell? ⟨g,h*2+1,none⟩=some (.slice y.2.1 y.2.2.1 y.2.2.2)/\Ext wr w0)->Ext w0 w1->(w1.cell? ⟨g,m*2,none⟩=some (.string ⟨z.1.toArray⟩)/\w1.cell? ⟨g,m*2+1,none⟩=some (.slice z.2.1 z.2.2.1 z.2.2.2)/\w1.cell? ⟨g,h*2,none⟩=some (.string ⟨y.1.toArray⟩)/\w1.cell? ⟨g,h*2+1,none⟩=some (.slice y.2.1 y.2.2.1 y.2.2.2)/\Ext wr w1):=fun w0 w1 h1 h3=>⟨h3.cell h1.1,h3.cell h1.2.1,h3.cell h1.2.2.1,h3.cell h1.2.2.2.1,h1.2.2.2.2.trans h3⟩
   have b0:=k0 _ _ I (Ext.refl wr).drew;have b1:(h:Int)<(dl:Int):=by omega
   have b2:(m:Int)<(dl:Int):=by omega
   replace I:=Aa I;replace b0:=Aa b0;replace k0:=Aa k0;replace d:=Aa d;replace m1:=Aa m1;replace hh:=Aa hh;clear o0 r0;go_upto_region 17 with (fail)
   rw[hh.out];by_cases d0:z.1<y.1
   ·have j0:=Aa d0
    go_region_held3 (fun x=>x.cell? ⟨g,m*2,none⟩=some (.string ⟨z.1.toArray⟩)/\x.cell? ⟨g,m*2+1,none⟩=some (.slice z.2.1 z.2.2.1 z.2.2.2)/\x.cell? ⟨g,h*2,none⟩=some (.string ⟨y.1.toArray⟩)/\x.cell? ⟨g,h*2+1,none⟩=some (.slice y.2.1 y.2.2.1 y.2.2.2)/\Ext wr x) (first | exact b0.out | exact I.out | exact ‹_› | exact k0.out _ _ ‹_› ‹_›) (first
     | (go_at_call 101;refine(H.out z y _).mono ?_;rintro e w5 ⟨zc,rfl,J,g0,p3,i0⟩;have a1:=J.2 j0.out;have k3:decide (zc<0)=true:=decide_eq_true a1;replace J:=Aa J))
    have l0:=hI.out.2.2.trans ((Ext.refl wr).drew.trans i0);go_wp2_with fail;go_roundw
    case rel=>exact⟨i,h,rfl,rfl,k2,x2,by omega,Aa ⟨hI.out.1,fun x hx=>Py d0 (hA.out.drop_ge d.out x hx),l0⟩⟩
    case measure=>simp[intOf];omega
   ·have j0:=Aa d0
    go_region_held3 (fun x=>x.cell? ⟨g,m*2,none⟩=some (.string ⟨z.1.toArray⟩)/\x.cell? ⟨g,m*2+1,none⟩=some (.slice z.2.1 z.2.2.1 z.2.2.2)/\x.cell? ⟨g,h*2,none⟩=some (.string ⟨y.1.toArray⟩)/\x.cell? ⟨g,h*2+1,none⟩=some (.slice y.2.1 y.2.2.1 y.2.2.2)/\Ext wr x) (first | exact b0.out | exact I.out | exact ‹_› | exact k0.out _ _ ‹_› ‹_›) (first
     | (go_at_call 101;refine(H.out z y _).mono ?_;rintro e w5 ⟨zc,rfl,J,g0,p3,i0⟩;have a1:¬ zc<0:=fun hc=>j0.out (J.1 hc);have k3:decide (zc<0)=false:=decide_eq_false a1;replace J:=Aa J))
    have l0:=hI.out.2.2.trans ((Ext.refl wr).drew.trans i0);go_wp2_with fail;go_roundw
    case rel=>exact⟨h+1,j,by go_num,rfl,by omega,by omega,y2,Aa ⟨fun x hx=>C6 (hA.out.take_le d.out x (by rw[show h - a+1=h+1 - a by omega];exact hx)) d0,hI.out.2.1,l0⟩⟩
    case measure=>simp[intOf];omega
  ·obtain rfl:i=j:=by omega
   have hM:Mrg A [z] (A.take (i - a)++z::A.drop (i - a)):=IM hA.out hI.out.1 hI.out.2.1;have hT:=h0.out.ext hI.out.2.2;have hC:=Chg.of_ext hI.out.2.2 (fun k=>k=g);have Y:=hm.out;obtain⟨wo,rfl⟩:=Ab wr;replace hT:=Aa hT;replace hC:=Aa hC;replace hM:=Aa hM;replace Y:=Aa Y;go_wp2_with fail
   go_loopw [17] (fun s17 wr=>∃(k:Nat) (E:List TmV),s17 = .int .i64 (k:Int)/\i<=k/\k<=m/\Hid (E=P++(A.take (k - a)++z::(A.drop (k - a)++Q))/\TR wr g E/\Chg (fun k=>k=g) w wr)) (fun s17 _=>(intOf s17).toNat)
   case atStart=>exact⟨m,D,rfl,by omega,Nat.le_refl _,Aa ⟨by rw[show m - a=A.length by have:=Y.out;omega,List.take_length,List.drop_length];exact hD.out,hT.out,hC.out⟩⟩
   case round =>
    obtain⟨k,E,rfl,d3,e3,Z⟩:=hrel;have v0:=ha.out;have Y:=hm.out;have c0:=hb.out;by_cases e2:i<k
    ·obtain⟨k1,n0⟩:∃k1,k=k1+1:=⟨k - 1,by omega⟩
     obtain⟨y,d⟩:∃y,A[k1 - a]? = some y:=⟨_,List.getElem?_eq_getElem (by omega)⟩
     have hd:A.drop (k1 - a)=y::A.drop (k - a):=by
      obtain⟨hl,he⟩:=List.getElem?_eq_some_iff.1 d;rw[List.drop_eq_getElem_cons hl,he,show k1 - a+1=k - a by omega]
     have p1:A.take (k - a)=A.take (k1 - a) ++ [y]:=by
      obtain⟨hl,he⟩:=List.getElem?_eq_some_iff.1 d;rw[show k - a=k1 - a+1 by omega,List.take_succ_eq_append_getElem hl,he]
     have G:(P++A.take (k1 - a)).length=k1:=by rw[List.length_append,List.length_take];omega
     have O:E=(P++A.take (k1 - a))++y::z::(A.drop (k - a)++Q):=by rw[Z.out.1,p1];simp
     have t0:E.length=dl:=by rw[Z.out.1,q0.out,hD.out];simp only[List.length_append,List.length_cons,List.length_take,List.length_drop,List.length_nil];omega
     have g0:E[k]? = some z:=by rw[O,List.getElem?_append_right (by omega),G,show k - k1=1 by omega];rfl
     have j1:E[k1]? = some y:=by rw[O,List.getElem?_append_right (by omega),G,Nat.sub_self];rfl
     have U:=Hr y z (A.drop (k - a)++Q) (P++A.take (k1 - a));rw[G,<-O,<-n0]at U;have q1:=Z.out.2.1.at_ g0;have q2:=Z.out.2.1.at_ j1;have x0:=q1.1;have x1:=q1.2;have y0:=q2.1;have y1:=q2.2;have fr:=Z.out.2.1.free;have o1:k1<k:=by omega
     have o2:k<=k1+1:=by omega
     have o3:i<=k1:=by omega
     have b4:IntKind.i64.wrap ((k:Int) - 1)=(k1:Int):=by rw[IntWalk.i64_in _ (by omega)];omega
     have b1:(k:Int)<(dl:Int):=by omega
     have b2:(k1:Int)<(dl:Int):=by omega
     replace U:=Aa U;replace O:=Aa O;replace t0:=Aa t0;replace hd:=Aa hd;replace p1:=Aa p1;replace G:=Aa G;replace g0:=Aa g0;replace j1:=Aa j1;replace d:=Aa d;replace v0:=Aa v0;replace Y:=Aa Y;replace c0:=Aa c0;replace n0:=Aa n0;clear q1 q2;go_wp2_with fail;refine AE (fun K Z=>?_);go_wp2_with fail;refine⟨by kernel_rfl,?_⟩;go_wp2_with fail;have h1:=Z.out.2.1.put (i:=k) (by have:=t0.out;omega) y;have h2:=h1.put (i:=k1) (by rw[List.length_set];have:=t0.out;omega) z;have hc:=(Z.out.2.2.trans (Cf wr g k y) fun _ _ h=>h).trans (Cf _ g k1 z) fun _ _ h=>h;rw[U.out]at h2;go_roundw
     case rel=>exact⟨k1,_,rfl,o3,by omega,Aa ⟨by rw[hd.out];simp,h2.drew,hc.trans (Chg.of_ext (Ext.refl _).drew _) fun _ _ h=>h⟩⟩
     case measure=>simp[intOf];omega
    ·have j3:¬ (i:Int)<(k:Int):=by omega
     obtain rfl:i=k:=by omega
     have p0:SymP g P A [z] Q w (.returned (.tuple #[])) wr:=by
      refine⟨rfl,_,hM.out,?_,Z.out.2.2⟩;have he:=Z.out.1;rw[show P++(A.take (i - a)++z::A.drop (i - a)++Q)=E by rw[he];simp];exact Z.out.2.1
     replace p0:=Aa p0;replace v0:=Aa v0;replace Y:=Aa Y;replace c0:=Aa c0;go_wp2_with fail
     go_end0
     exact p0.out
structure LoHi (a m b mid N lo hi:Nat):Prop where
  le:lo<=hi
  alo:a<=lo
  him:hi<=m
  hmid:hi<=mid
  nhi:m+hi<=N
  nlo:N<=b+lo
  one:lo=a\/N=b+lo
  two:hi=m\/N=m+hi
theorem NX {a m b mid N:Nat} (H:N=mid+m) (h1:mid<m) (h2:a<m) (h:m<b) (d:mid=(a+b) / 2):LoHi a m b mid N (N - b) mid:=⟨by omega,by omega,by omega,by omega,by omega,by omega,.inr (by omega),.inr (by omega)⟩
theorem LU {a m b mid N:Nat} (H:N=mid+m) (h1:¬ mid<m) (h2:a<m) (h:m<b) (d:mid=(a+b) / 2):LoHi a m b mid N a m:=⟨by omega,by omega,by omega,by omega,by omega,by omega,.inl rfl,.inl rfl⟩
structure SeaI (D:List TmV) (N lo hi s r:Nat):Prop where
  ls:lo<=s
  sr:s<=r
  rh:r<=hi
  lo:s=lo\/∃x y,D[s - 1]? = some x/\D[N - s]? = some y/\¬ y.1<x.1
  hi:r=hi\/∃x y,D[r]? = some x/\D[N - 1 - r]? = some y/\y.1<x.1
theorem SeaI.cut {D P A B Q:List TmV} {a m b mid N lo hi s:Nat} (h:SeaI D N lo hi s s) (d:LoHi a m b mid N lo hi) (U:D=P++(A++(B++Q))) (O:a=P.length) (Z:m=a+A.length) (hb:b=m+B.length):CutP A B (s - a) (N - s - m):=by
 have gA:∀i,a<=i->i<m->D[i]? = A[i - a]? :=fun i h1 h2=>by
  rw[U,<-Hp (P:=P) (A:=A) (R:=B++Q) (i:=i - a) (by omega),<-O,show a+(i - a)=i by omega]
 have gB:∀i,m<=i->i<b->D[i]? = B[i - m]? :=fun i h1 h2=>by
  rw[U,<-FP (P:=P) (A:=A) (B:=B) (R:=Q) (i:=i - m) (by omega),<-O,<-Z,show m+(i - m)=i by omega]
 have:=h.ls;have:=h.sr;have:=h.rh;have:=d.le;have:=d.alo;have:=d.him;have:=d.nhi;have:=d.nlo;refine⟨by omega,by omega,?_,?_⟩
 ·by_cases e1:s - a=0
  ·exact .inl e1
  ·by_cases e2:N - s - m=B.length
   ·exact .inr (.inl e2)
   ·rcases h.lo with e | ⟨x,y,Y,J,H⟩
    ·rcases d.one with f | f
     ·omega
     ·omega
    ·refine .inr (.inr ⟨x,y,?_,?_,H⟩)
     ·rw[show s - a - 1=s - 1 - a by omega,<-gA (s - 1) (by omega) (by omega)];exact Y
     ·rw[<-gB (N - s) (by omega) (by omega)];exact J
 ·by_cases e1:s - a=A.length
  ·exact .inl e1
  ·by_cases e2:N - s - m=0
   ·exact .inr (.inl e2)
   ·rcases h.hi with e | ⟨x,y,Y,J,H⟩
    ·rcases d.two with f | f
     ·omega
     ·omega
    ·refine .inr (.inr ⟨x,y,?_,?_,H⟩)
     ·rw[<-gA s (by omega) (by omega)];exact Y
     ·rw[show N - s - m - 1=N - 1 - s - m by omega,<-gB (N - 1 - s) (by omega) (by omega)];exact J
theorem Rb (g c a m b:Nat) (D P A B Q:List TmV) (w:World) (i0:TR w g D) (hD:D=P++(A++(B++Q))) (ha:a=P.length) (hm:m=a+A.length) (hb:b=m+B.length) (hA:Srt A) (hB:Srt B) (y5:1<A.length) (z5:1<B.length) (b3:D.length<=1073741824)
 (ih:∀(a m b:Nat) (D P A' B' Q:List TmV) (w:World),A'.length+B'.length<A.length+B.length->TR w g D->D=P++(A'++(B'++Q))->a=P.length->m=a+A'.length->b=m+B'.length->Srt A'->Srt B'->0<A'.length->0<B'.length->D.length<=1073741824->Calls prog 211 #[.slice (some ⟨g,0,none⟩) D.length c,.int .i64 (a:Int),.int .i64 (m:Int),.int .i64 (b:Int),cmpV] w (SymP g P A' B' Q w)) :
 Calls prog 211 #[.slice (some ⟨g,0,none⟩) D.length c,.int .i64 (a:Int),.int .i64 (m:Int),.int .i64 (b:Int),cmpV] w (SymP g P A B Q w):=by
 obtain⟨dl,J⟩:∃n,n=D.length:=⟨_,rfl⟩
 have b5:b<=dl:=by rw[J,hD];simp only[List.length_append];omega
 have O:∀(s e:Nat) (T:List TmV) (x:World),TR x g D->RotI T D m (m - s) (e - m)->s<m->m<e->Calls prog 257 #[.slice (some ⟨g,0,none⟩) dl c,.int .i64 (s:Int),.int .i64 (m:Int),.int .i64 (e:Int),cmpV] x fun en w'=>en = .returned (.tuple #[])/\TR w' g T/\Chg (fun k=>k=g) x w':=fun s e T x h1 h2 h3 h4=>by
  have:=Ml g c s m e D T cmpV x h1 h2 h3 h4 b3;rw[<-J]at this;exact this
 have ih':∀(a m b:Nat) (E P A' B' Q:List TmV) (w:World),A'.length+B'.length<A.length+B.length->TR w g E->E.length=dl->E=P++(A'++(B'++Q))->a=P.length->m=a+A'.length->b=m+B'.length->Srt A'->Srt B'->0<A'.length->0<B'.length->Calls prog 211 #[.slice (some ⟨g,0,none⟩) dl c,.int .i64 (a:Int),.int .i64 (m:Int),.int .i64 (b:Int),cmpV] w (SymP g P A' B' Q w):=fun a m b E P A' B' Q w h1 h2 h3 h4 h5 h6 h7 h8 h9 t4 v4=>by
  have:=ih a m b E P A' B' Q w h1 h2 h4 h5 h6 h7 h8 h9 t4 v4 (by omega);rw[h3]at this;exact this
 rw[<-J]at b3 ⊢;have r4:((m:Int) - (a:Int)==1)=false:=beq_eq_false_iff_ne.2 (by omega);have n4:((b:Int) - (m:Int)==1)=false:=beq_eq_false_iff_ne.2 (by omega);have y3:a<m:=by omega
 have f3:m<b:=by omega
 obtain⟨mid,hmid⟩:∃k,k=(a+b) / 2:=⟨_,rfl⟩
 obtain⟨N,hN⟩:∃k,k=mid+m:=⟨_,rfl⟩
 have Z:((a:Int)+(b:Int)) / 2=(mid:Int):=by omega
 have f2:(mid:Int)+(m:Int)=(N:Int):=by omega
 have e4:mid<b:=by omega
 have d4:a<mid:=by omega
 have a5:N<=2147483648:=by omega
 have Y:=fun x y W=>Fs x y W;unfold tagg at Y;unfold cmpV at O ih' ⊢;clear ih;replace Y:=Aa Y;replace i0:=Aa i0;replace hD:=Aa hD;replace J:=Aa J;replace hA:=Aa hA;replace hB:=Aa hB;replace ha:=Aa ha;replace hm:=Aa hm;replace hb:=Aa hb;replace O:=Aa O;replace ih':=Aa ih';replace hmid:=Aa hmid;replace hN:=Aa hN;replace Z:=Aa Z;replace f2:=Aa f2
 go_in
 go_upto_if 140 with (fail)
 rw[Z.out,f2.out]
 go_cut [20,21] from 138 to 146 (fun s20 s21 wv=>∃lo hi:Nat,s20 = .int .i64 (lo:Int)/\s21 = .int .i64 (hi:Int)/\Hid (LoHi a m b mid N lo hi)/\wv=w)
 case first =>
  by_cases i3:mid<m
  ·have hl:=Aa (NX hN.out i3 y3 f3 hmid.out);have j3:(N:Int) - (b:Int)=((N - b:Nat):Int):=by have:=hmid.out;have:=hN.out;omega
   replace j3:=Aa j3;go_wp2_with fail
   go_meet
   case rel=>exact⟨N - b,mid,by rw[j3.out],rfl,hl,rfl⟩
  ·have hl:=Aa (LU hN.out i3 y3 f3 hmid.out);go_wp2_with fail
   go_meet
   case rel=>exact⟨a,m,rfl,rfl,hl,rfl⟩
 case rest =>
  obtain⟨lo,hi,rfl,rfl,hL,rfl⟩:=hcut;have d3:=hL.out.le;have i5:=hL.out.alo;have e5:=hL.out.him;have o5:=hL.out.nhi;have r5:=hL.out.nlo;obtain⟨wo,rfl⟩:=Ab wc;go_wp2_with fail
  go_loopw [20,21] (fun s20 s21 wr=>∃s r:Nat,s20 = .int .i64 (s:Int)/\s21 = .int .i64 (r:Int)/\lo<=s/\s<=r/\r<=hi/\Hid (SeaI D N lo hi s r/\Ext wo wr)) (fun s20 s21 _=>(intOf s21).toNat - (intOf s20).toNat)
  case atStart=>exact⟨lo,hi,rfl,rfl,Nat.le_refl _,d3,Nat.le_refl _,Aa ⟨⟨Nat.le_refl _,d3,Nat.le_refl _,.inl rfl,.inl rfl⟩,Ext.refl _⟩⟩
  case round =>
   obtain⟨s,r,rfl,rfl,e3,p6,o3,hI⟩:=hrel;by_cases l5:s<r
   ·obtain⟨h,hh⟩:∃h:Nat,((s:Int)+(r:Int)) / 2=(h:Int):=⟨(s+r) / 2,by omega⟩
    have r3:s<=h:=by omega
    have f5:h<r:=by omega
    obtain⟨e,he⟩:=Ab (N - 1 - h);have z3:(N:Int) - 1 - (h:Int)=(e:Int):=by omega
    have d5:IntKind.i64.wrap ((N:Int) - 1 - (h:Int))=(e:Int):=by rw[IntWalk.i64_in _ (by omega)];omega
    have c5:e<dl:=by omega
    obtain⟨x0,x1⟩:∃x,D[h]? = some x:=⟨_,List.getElem?_eq_getElem (by have:=J.out;omega)⟩
    obtain⟨y,hy⟩:∃y,D[e]? = some y:=⟨_,List.getElem?_eq_getElem (by have:=J.out;omega)⟩
    have d:=(i0.out.ext hI.out.2).at_ hy;have H:=(i0.out.ext hI.out.2).at_ x1;have e0:wr.cell? ⟨g,e*2,none⟩=some (.string ⟨y.1.toArray⟩)/\wr.cell? ⟨g,e*2+1,none⟩=some (.slice y.2.1 y.2.2.1 y.2.2.2)/\wr.cell? ⟨g,h*2,none⟩=some (.string ⟨x0.1.toArray⟩)/\wr.cell? ⟨g,h*2+1,none⟩=some (.slice x0.2.1 x0.2.2.1 x0.2.2.2)/\Ext wr wr:=⟨d.1,d.2,H.1,H.2,Ext.refl wr⟩
    have p1:∀w0 w1:World,(w0.cell? ⟨g,e*2,none⟩=some (.string ⟨y.1.toArray⟩)/\w0.cell? ⟨g,e*2+1,none⟩=some (.slice y.2.1 y.2.2.1 y.2.2.2)/\w0.cell? ⟨g,h*2,none⟩=some (.string ⟨x0.1.toArray⟩)/\w0.cell? ⟨g,h*2+1,none⟩=some (.slice x0.2.1 x0.2.2.1 x0.2.2.2)/\Ext wr w0)->Ext w0 w1->(w1.cell? ⟨g,e*2,none⟩=some (.string ⟨y.1.toArray⟩)/\w1.cell? ⟨g,e*2+1,none⟩=some (.slice y.2.1 y.2.2.1 y.2.2.2)/\w1.cell? ⟨g,h*2,none⟩=some (.string ⟨x0.1.toArray⟩)/\w1.cell? ⟨g,h*2+1,none⟩=some (.slice x0.2.1 x0.2.2.1 x0.2.2.2)/\Ext wr w1):=fun w0 w1 h1 h3=>⟨h3.cell h1.1,h3.cell h1.2.1,h3.cell h1.2.2.1,h3.cell h1.2.2.2.1,h1.2.2.2.2.trans h3⟩
    have e1:=p1 _ _ e0 (Ext.refl wr).drew;have b1:(h:Int)<(dl:Int):=by omega
    have b2:(e:Int)<(dl:Int):=by omega
    replace e0:=Aa e0;replace e1:=Aa e1;replace p1:=Aa p1;replace x1:=Aa x1;replace hy:=Aa hy;replace hh:=Aa hh;replace he:=Aa he;replace z3:=Aa z3;clear d H;go_upto_region 35 with (fail)
    rw[hh.out];by_cases m2:y.1<x0.1
    ·have y1:=Aa m2
     go_region_held3 (fun x=>x.cell? ⟨g,e*2,none⟩=some (.string ⟨y.1.toArray⟩)/\x.cell? ⟨g,e*2+1,none⟩=some (.slice y.2.1 y.2.2.1 y.2.2.2)/\x.cell? ⟨g,h*2,none⟩=some (.string ⟨x0.1.toArray⟩)/\x.cell? ⟨g,h*2+1,none⟩=some (.slice x0.2.1 x0.2.2.1 x0.2.2.2)/\Ext wr x) (first | exact e1.out | exact e0.out | exact ‹_› | exact p1.out _ _ ‹_› ‹_›) (first
      | (go_at_call 101;refine(Y.out y x0 _).mono ?_;rintro e w5 ⟨zc,rfl,h0,f4,i4,a2⟩;have m3:=h0.2 y1.out;have l4:decide (zc<0)=true:=decide_eq_true m3;replace h0:=Aa h0))
     have d2:=hI.out.2.trans ((Ext.refl wr).drew.trans a2);go_wp2_with fail;go_roundw
     case rel=>exact⟨s,h,rfl,rfl,e3,r3,by omega,Aa ⟨⟨e3,r3,by omega,hI.out.1.lo,.inr ⟨x0,y,x1.out,by rw[<-he.out];exact hy.out,m2⟩⟩,d2⟩⟩
     case measure=>simp[intOf];omega
    ·have y1:=Aa m2
     go_region_held3 (fun x=>x.cell? ⟨g,e*2,none⟩=some (.string ⟨y.1.toArray⟩)/\x.cell? ⟨g,e*2+1,none⟩=some (.slice y.2.1 y.2.2.1 y.2.2.2)/\x.cell? ⟨g,h*2,none⟩=some (.string ⟨x0.1.toArray⟩)/\x.cell? ⟨g,h*2+1,none⟩=some (.slice x0.2.1 x0.2.2.1 x0.2.2.2)/\Ext wr x) (first | exact e1.out | exact e0.out | exact ‹_› | exact p1.out _ _ ‹_› ‹_›) (first
      | (go_at_call 101;refine(Y.out y x0 _).mono ?_;rintro e w5 ⟨zc,rfl,h0,f4,i4,a2⟩;have m3:¬ zc<0:=fun hc=>y1.out (h0.1 hc);have l4:decide (zc<0)=false:=decide_eq_false m3;replace h0:=Aa h0))
     have d2:=hI.out.2.trans ((Ext.refl wr).drew.trans a2);go_wp2_with fail;go_roundw
     case rel=>exact⟨h+1,r,by go_num,rfl,by omega,by omega,o3,Aa ⟨⟨by omega,by omega,o3,.inr ⟨x0,y,by rw[show h+1 - 1=h by omega];exact x1.out,by rw[show N - (h+1)=e by have:=he.out;omega];exact hy.out,m2⟩,hI.out.1.hi⟩,d2⟩⟩
     case measure=>simp[intOf];omega
   ·obtain rfl:s=r:=by omega
    have r0:=hI.out.1.cut hL.out hD.out ha.out hm.out hb.out;obtain⟨p,hp⟩:=Ab (s - a);obtain⟨q,hq⟩:=Ab (N - s - m);obtain⟨en,a3⟩:=Ab (N - s);rw[<-hp,<-hq]at r0;obtain⟨A1,q0⟩:∃x,x=A.take p:=⟨_,rfl⟩
    obtain⟨A2,g0⟩:∃x,x=A.drop p:=⟨_,rfl⟩
    obtain⟨B1,p0⟩:∃x,x=B.take q:=⟨_,rfl⟩
    obtain⟨B2,t0⟩:∃x,x=B.drop q:=⟨_,rfl⟩
    have p3:=fun M1 M2 (h1:Mrg A1 B1 M1) (h2:Mrg A2 B2 M2)=>r0.mrg hA.out hB.out (M1:=M1) (M2:=M2) (by rw[<-q0,<-p0];exact h1) (by rw[<-g0,<-t0];exact h2);have m0:A=A1++A2:=by rw[q0,g0,List.take_append_drop]
    have v0:B=B1++B2:=by rw[p0,t0,List.take_append_drop]
    have G:=hA.out;have I:=hB.out;have n0:=hm.out;have o0:=hb.out;have o1:=ha.out;rw[m0]at G n0;rw[v0]at I o0;rw[List.length_append]at n0 o0;have l1:A1.length=p:=by rw[q0,List.length_take];have:=r0.ile;omega
    have l2:B1.length=q:=by rw[p0,List.length_take];have:=r0.jle;omega
    have c0:D=P++(A1++(A2++(B1++(B2++Q)))):=by rw[hD.out,m0,v0];simp
    obtain⟨T,hT⟩:=Ab (P++(A1++(B1++(A2++(B2++Q)))));have i1:T.length=dl:=by rw[J.out,c0,hT];simp only[List.length_append];omega
    have q1:(N:Int) - (s:Int)=(en:Int):=by omega
    have p2:s<m->m<en->RotI T D m (m - s) (en - m):=fun h1 h2=>⟨⟨P++A1,A2,B1,B2++Q,by rw[c0];simp,by rw[List.length_append];omega,by omega,by omega,by rw[hT];simp⟩,by omega,by omega⟩
    have q2:¬ (s<m/\m<en)->D=T:=fun h=>by
     rw[c0,hT];by_cases h1:s<m
     ·have:B1 = []:=List.length_eq_zero_iff.1 (by have:=fun h2=>h ⟨h1,h2⟩;omega);rw[this];rfl
     ·have:A2 = []:=List.length_eq_zero_iff.1 (by omega);rw[this];rfl
    have o2:A1.length+B1.length<A.length+B.length:=by rw[m0,v0,List.length_append,List.length_append];have:=hmid.out;have:=hN.out;omega
    have q3:A2.length+B2.length<A.length+B.length:=by rw[m0,v0,List.length_append,List.length_append];have:=hmid.out;have:=hN.out;omega
    have k1:mid=s+B1.length:=by have:=hN.out;omega
    have k2:en=mid+A2.length:=by have:=hN.out;omega
    have k3:b=en+B2.length:=by have:=hN.out;omega
    have k4:s=a+A1.length:=by omega
    have l0:=i0.out.ext hI.out.2;have b0:=Chg.of_ext hI.out.2 (fun k=>k=g);have j5:s<b:=by omega
    have o4:en<=b:=by omega
    have w4:m<=en:=by omega
    obtain⟨we,rfl⟩:=Ab wr;replace p2:=Aa p2;replace q2:=Aa q2;replace p3:=Aa p3;replace hT:=Aa hT;replace i1:=Aa i1;replace c0:=Aa c0;replace q1:=Aa q1;replace o2:=Aa o2;replace q3:=Aa q3;replace G:=Aa G;replace I:=Aa I;replace k1:=Aa k1;replace k2:=Aa k2;replace k3:=Aa k3;replace k4:=Aa k4;replace l0:=Aa l0;replace b0:=Aa b0;replace o1:=Aa o1;replace a3:=Aa a3;clear hp hq r0 q0 g0 p0 t0 m0 v0 n0 o0 l1 l2;obtain⟨t1,d⟩:∃t:Bool,t=(decide (s<m)&&decide (m<en)):=⟨_,rfl⟩
    replace d:=Aa d;go_upto_region 39 with (fail)
    rw[q1.out]
    go_cut [185] from 178 to 185 (fun sx wv=>sx = .bool t1/\wv=we)
    case first =>
     by_cases c1:s<m
     ·have c1b:decide (s<m)=true:=decide_eq_true c1;by_cases c2:m<en
      ·have c2b:decide (m<en)=true:=decide_eq_true c2;have ht:=d.out;rw[c1b,c2b]at ht;replace ht:=Aa ht;go_wp2_with fail
       go_meet
       case rel=>exact⟨by rw[ht.out];rfl,rfl⟩
      ·have c2b:decide (m<en)=false:=decide_eq_false c2;have ht:=d.out;rw[c1b,c2b]at ht;replace ht:=Aa ht;go_wp2_with fail
       go_meet
       case rel=>exact⟨by rw[ht.out];rfl,rfl⟩
     ·have c1b:decide (s<m)=false:=decide_eq_false c1;have ht:=d.out;rw[c1b]at ht;replace ht:=Aa ht;go_wp2_with fail
      go_meet
      case rel=>exact⟨by rw[ht.out];rfl,rfl⟩
    case' rest=>obtain⟨rfl,rfl⟩:=hcut
    go_upto_if 185 with (fail)
    go_cut [24] from 186 to 191 (fun s24 wv=>s24 = .int .i64 (en:Int)/\Hid (TR wv g T/\Chg (fun k=>k=g) wo wv))
    case first =>
     cases t1 with
     | true =>
      have hc:=d.out.symm;simp only[Bool.and_eq_true,decide_eq_true_eq]at hc;have hr:=Aa (O.out s en T wc l0.out (p2.out hc.1 hc.2) hc.1 hc.2);clear hc;go_wp2_with fail;refine hr.out.mono ?_;rintro e w6 ⟨rfl,f0,y0⟩;go_wp2_with fail
      go_meet
      case rel=>exact⟨rfl,Aa ⟨f0,b0.out.trans y0 fun _ _ h=>h⟩⟩
     | false =>
      have y4:=Aa (q2.out fun h=>by have:=d.out;rw[decide_eq_true h.1,decide_eq_true h.2]at this;cases this);go_wp2_with fail
      go_meet
      case rel=>exact⟨rfl,Aa ⟨by rw[<-y4.out];exact l0.out,b0.out⟩⟩
    case rest =>
     obtain⟨rfl,f1⟩:=hcut;obtain⟨wf,rfl⟩:=Ab wc;clear p2 q2 l0 b0 O Y;have j1:a<s->s<mid->Calls prog 211 #[.slice (some ⟨g,0,none⟩) dl c,.int .i64 (a:Int),.int .i64 (s:Int),.int .i64 (mid:Int),cmpV] wf (SymP g P A1 B1 (A2++(B2++Q)) wf):=fun h1 h2 =>
      ih'.out a s mid T P A1 B1 (A2++(B2++Q)) wf o2.out f1.out.1 i1.out hT.out o1.out k4.out k1.out G.out.left I.out.left (by have:=k4.out;omega) (by have:=k1.out;omega)
     have n1:¬ (a<s/\s<mid)->Mrg A1 B1 (A1++B1):=fun h=>by
      by_cases h1:a<s
      ·have:B1 = []:=List.length_eq_zero_iff.1 (by have:=k1.out;have:=fun h2=>h ⟨h1,h2⟩;omega);rw[this,List.append_nil];exact Mrg.nil_right G.out.left
      ·have:A1 = []:=List.length_eq_zero_iff.1 (by have:=k4.out;omega);rw[this];exact Mrg.nil_left I.out.left
     have q6:s<=mid:=by have:=k1.out;omega
     have n5:mid<=en:=by have:=k2.out;omega
     unfold cmpV at j1;replace j1:=Aa j1;replace n1:=Aa n1;obtain⟨t2,H⟩:∃t:Bool,t=(decide (a<s)&&decide (s<mid)):=⟨_,rfl⟩
     replace H:=Aa H;go_upto_region 41 with (fail)
     go_cut [199] from 192 to 199 (fun sx wv=>sx = .bool t2/\wv=wf)
     case first =>
      by_cases c1:a<s
      ·have c1b:decide (a<s)=true:=decide_eq_true c1;by_cases c2:s<mid
       ·have c2b:decide (s<mid)=true:=decide_eq_true c2;have ht:=H.out;rw[c1b,c2b]at ht;replace ht:=Aa ht;go_wp2_with fail
        go_meet
        case rel=>exact⟨by rw[ht.out];rfl,rfl⟩
       ·have c2b:decide (s<mid)=false:=decide_eq_false c2;have ht:=H.out;rw[c1b,c2b]at ht;replace ht:=Aa ht;go_wp2_with fail
        go_meet
        case rel=>exact⟨by rw[ht.out];rfl,rfl⟩
      ·have c1b:decide (a<s)=false:=decide_eq_false c1;have ht:=H.out;rw[c1b]at ht;replace ht:=Aa ht;go_wp2_with fail
       go_meet
       case rel=>exact⟨by rw[ht.out];rfl,rfl⟩
     case' rest=>obtain⟨rfl,rfl⟩:=hcut
     go_upto_if 199 with (fail)
     go_cut [24] from 200 to 205 (fun s24 wv=>s24 = .int .i64 (en:Int)/\∃M1,Hid (Mrg A1 B1 M1/\TR wv g (P++(M1++(A2++(B2++Q))))/\Chg (fun k=>k=g) wo wv))
     case first =>
      cases t2 with
      | true =>
       have hc:=H.out.symm;simp only[Bool.and_eq_true,decide_eq_true_eq]at hc;have hr:=Aa (j1.out hc.1 hc.2);clear hc;go_wp2_with fail;refine hr.out.mono ?_;rintro e w6 ⟨rfl,M1,z4,f0,y0⟩;go_wp2_with fail
       go_meet
       case rel=>exact⟨rfl,M1,Aa ⟨z4,f0,f1.out.2.trans y0 fun _ _ h=>h⟩⟩
      | false =>
       have m1:=Aa (n1.out fun h=>by have:=H.out;rw[decide_eq_true h.1,decide_eq_true h.2]at this;cases this);go_wp2_with fail
       go_meet
       case rel=>exact⟨rfl,_,Aa ⟨m1.out,by rw[List.append_assoc,<-hT.out];exact f1.out.1,f1.out.2⟩⟩
     case rest =>
      obtain⟨rfl,M1,hM⟩:=hcut;obtain⟨wg,rfl⟩:=Ab wc;have d0:=hM.out.1.2.len;rw[List.length_append]at d0;have i2:(P++M1).length=mid:=by rw[List.length_append];have:=k1.out;have:=k4.out;have:=o1.out;omega
      have e2:(P++(M1++(A2++(B2++Q)))).length=dl:=by rw[<-i1.out,hT.out];simp only[List.length_append];omega
      have j2:mid<en->en<b->Calls prog 211 #[.slice (some ⟨g,0,none⟩) dl c,.int .i64 (mid:Int),.int .i64 (en:Int),.int .i64 (b:Int),cmpV] wg (SymP g (P++M1) A2 B2 Q wg):=fun h1 h2 =>
       ih'.out mid en b _ (P++M1) A2 B2 Q wg q3.out hM.out.2.1 e2 (by simp) i2.symm k2.out k3.out G.out.right I.out.right (by have:=k2.out;omega) (by have:=k3.out;omega)
      have n2:¬ (mid<en/\en<b)->Mrg A2 B2 (A2++B2):=fun h=>by
       by_cases h1:mid<en
       ·have:B2 = []:=List.length_eq_zero_iff.1 (by have:=k3.out;have:=fun h2=>h ⟨h1,h2⟩;omega);rw[this,List.append_nil];exact Mrg.nil_right G.out.right
       ·have:A2 = []:=List.length_eq_zero_iff.1 (by have:=k2.out;omega);rw[this];exact Mrg.nil_left I.out.right
      have U:∀(M2:List TmV) (x:World),Mrg A2 B2 M2->TR x g ((P++M1)++(M2++Q))->Chg (fun k=>k=g) wo x->SymP g P A B Q wo (.returned (.tuple #[])) x:=fun M2 x h1 h2 h3 =>
       ⟨rfl,M1++M2,p3.out M1 M2 hM.out.1 h1,by rw[List.append_assoc,<-List.append_assoc P];exact h2,h3⟩
      unfold cmpV at j2;replace j2:=Aa j2;replace n2:=Aa n2;replace U:=Aa U;replace d0:=Aa d0;replace i2:=Aa i2;replace e2:=Aa e2;by_cases c1:mid<en
      ·by_cases c2:en<b
       ·have hr:=Aa (j2.out c1 c2);have c1b:decide (mid<en)=true:=decide_eq_true c1;have c2b:decide (en<b)=true:=decide_eq_true c2;go_wp2_with fail;refine hr.out.mono ?_;rintro e w6 ⟨rfl,M2,a4,f0,y0⟩;go_wp2_with fail
        go_end0
        exact U.out M2 w6 a4 f0 (hM.out.2.2.trans y0 fun _ _ h=>h)
       ·have c1b:decide (mid<en)=true:=decide_eq_true c1;have c2b:decide (en<b)=false:=decide_eq_false c2;have m1:=Aa (n2.out fun h=>c2 h.2);go_wp2_with fail
        go_end0
        exact U.out _ wg m1.out (by have:=hM.out.2.1;simpa only[List.append_assoc]using this) hM.out.2.2
      ·have c1b:decide (mid<en)=false:=decide_eq_false c1;have m1:=Aa (n2.out fun h=>c1 h.1);go_wp2_with fail
       go_end0
       exact U.out _ wg m1.out (by have:=hM.out.2.1;simpa only[List.append_assoc]using this) hM.out.2.2
theorem Fq (g c:Nat):∀(n a m b:Nat) (D P A B Q:List TmV) (w:World),A.length+B.length<n->TR w g D->D=P++(A++(B++Q))->a=P.length->m=a+A.length->b=m+B.length->Srt A->Srt B->0<A.length->0<B.length->D.length<=1073741824 ->
 Calls prog 211 #[.slice (some ⟨g,0,none⟩) D.length c,.int .i64 (a:Int),.int .i64 (m:Int),.int .i64 (b:Int),cmpV] w (SymP g P A B Q w)
 | 0,_,_,_,_,_,_,_,_,_,h,_,_,_,_,_,_,_,_,_,_=>absurd h (Nat.not_lt_zero _)
 | n+1,a,m,b,D,P,A,B,Q,w,h,U,J,O,Z,hb,G,I,h0,q0,d=>by
  by_cases H:A.length=1
  ·obtain⟨z,rfl⟩:=List.length_eq_one_iff.1 H;exact Qc g c a m b D P B Q z w U J O Z hb I d
  ·by_cases Y:B.length=1
   ·obtain⟨z,rfl⟩:=List.length_eq_one_iff.1 Y;exact OL g c a m b D P A Q z w U J O Z hb G (by omega) d
   ·exact Rb g c a m b D P A B Q w U J O Z hb G I (by omega) (by omega) d fun a m b D P A' B' Q w p0=>Fq g c n a m b D P A' B' Q w (by omega)
inductive Bk (k:Nat):List TmV->List TmV->Prop
  | nil:Bk k [] []
  | last (X S:List TmV):0<X.length->X.length<=k->Std X S->Bk k X S
  | cons (X S d e:List TmV):X.length=k->Std X S->0<d.length->Bk k d e->Bk k (X++d) (S++e)
inductive BdS (k:Nat):List TmV->List TmV->Prop
  | nil:BdS k [] []
  | snoc (d e X S:List TmV):BdS k d e->X.length=k->Std X S->BdS k (d++X) (e++S)
theorem Bk.len {d e:List TmV} (h:Bk k d e):e.length=d.length:=by
 induction h with
 | nil=>rfl
 | last X S _ _ h=>exact h.2.len
 | cons X S d e _ h _ _ ih=>rw[List.length_append,List.length_append,ih,h.2.len]
theorem BdS.len {d e:List TmV} (h:BdS k d e):e.length=d.length:=by
 induction h with
 | nil=>rfl
 | snoc d e X S _ _ h ih=>rw[List.length_append,List.length_append,ih,h.2.len]
theorem Bk.empty {e:List TmV} (h:Bk k [] e):e = []:=List.length_eq_zero_iff.1 h.len
theorem Bk.push {X S d e:List TmV} (hk:0<k) (Y:X.length=k) (H:Std X S) (h:Bk k d e):Bk k (X++d) (S++e):=by
 by_cases hd:d = []
 ·subst hd;rw[h.empty,List.append_nil,List.append_nil];exact .last X S (by omega) (by omega) H
 ·exact .cons X S d e Y H (List.length_pos_iff.2 hd) h
theorem BdS.bk {d e:List TmV} (hk:0<k) (h:BdS k d e):∀ {d' e':List TmV},Bk k d' e'->Bk k (d++d') (e++e'):=by
 induction h with
 | nil=>exact fun h=>h
 | snoc d e X S _ Y H ih =>
  intro d' e' h;rw[List.append_assoc,List.append_assoc];exact ih (Bk.push hk Y H h)
theorem Bk.two {d e:List TmV} (h:Bk k d e) (hk:0<k) (O:2*k<=d.length):∃X S Y T d' e',d=X++(Y++d')/\e=S++(T++e')/\X.length=k/\Y.length=k/\Std X S/\Std Y T/\Bk k d' e':=by
 cases h with
 | nil=>simp at O;omega
 | last X S h1 h2 H=>omega
 | cons X S d e U J hd h2 =>
  rw[List.length_append]at O;cases h2 with
  | nil=>simp at hd
  | last Y T h1 H Z=>exact⟨X,S,d,e,[],[],by simp,by simp,U,by omega,J,Z,.nil⟩
  | cons Y T d' e' I G h0 H=>exact⟨X,S,Y,T,d',e',rfl,rfl,U,I,J,G,H⟩
theorem Bk.few {d e:List TmV} (h:Bk k d e) (J:d.length<2*k):(d.length<=k/\Bk (2*k) d e)\/(∃X S Y T,d=X++Y/\e=S++T/\X.length=k/\0<Y.length/\Std X S/\Std Y T):=by
 cases h with
 | nil=>exact .inl ⟨Nat.zero_le _,.nil⟩
 | last X S h1 h2 H=>exact .inl ⟨h2,.last _ _ h1 (by omega) H⟩
 | cons X S d e Z O hd h2 =>
  rw[List.length_append]at J;cases h2 with
  | nil=>simp at hd
  | last Y T h1 H U=>exact .inr ⟨X,S,d,e,rfl,rfl,Z,h1,O,U⟩
  | cons Y T d' e' hY I G H=>rw[List.length_append]at J;omega
theorem Bk.whole {d e:List TmV} (h:Bk k d e) (Y:d.length<=k):Std d e:=by
 cases h with
 | nil=>exact⟨List.Pairwise.nil,Stb.refl _⟩
 | last X S h1 h2 H=>exact H
 | cons X S d e U J hd h2=>rw[List.length_append]at Y;omega
theorem MA (g c:Nat) (D:List TmV) (w:World) (y1:TR w g D) (i2:D.length<=268435456) :
 Calls prog 154 #[.slice (some ⟨g,0,none⟩) D.length c,.int .i64 (D.length:Int),cmpV] w fun e w'=>e = .returned (.tuple #[])/\∃E,Std D E/\TR w' g E/\Chg (fun k=>k=g) w w':=by
 obtain⟨n,hn⟩:=Ab D.length;have p0:∀(a b:Nat) (E P X Q:List TmV) (x:World),TR x g E->E.length=n->E=P++(X++Q)->a=P.length->b=P.length+X.length->Calls prog 210 #[.slice (some ⟨g,0,none⟩) n c,.int .i64 (a:Int),.int .i64 (b:Int),cmpV] x fun e w'=>e = .returned (.tuple #[])/\∃S,Std X S/\TR w' g (P++(S++Q))/\Chg (fun k=>k=g) x w':=fun a b E P X Q x h1 h2 h3 h4 h5=>by
  have:=HW g c a b E P X Q x h1 h3 h4 h5 (by omega);rw[h2]at this;exact this
 have k0:∀(a m b:Nat) (E P A B Q:List TmV) (x:World),TR x g E->E.length=n->E=P++(A++(B++Q))->a=P.length->m=a+A.length->b=m+B.length->Srt A->Srt B->0<A.length->0<B.length->Calls prog 211 #[.slice (some ⟨g,0,none⟩) n c,.int .i64 (a:Int),.int .i64 (m:Int),.int .i64 (b:Int),cmpV] x (SymP g P A B Q x):=fun a m b E P A B Q x h1 h2 h3 h4 h5 h6 h7 h8 h9 p2=>by
  have:=Fq g c _ a m b E P A B Q x (Nat.lt_succ_self _) h1 h3 h4 h5 h6 h7 h8 h9 p2 (by omega);rw[h2]at this;exact this
 rw[<-hn]at i2 ⊢;unfold cmpV at p0 k0 ⊢;replace p0:=Aa p0;replace k0:=Aa k0;replace y1:=Aa y1;replace hn:=Aa hn
 go_in
 go_wp2_with fail
 go_loopw [7,8] (fun s7 s8 wr=>∃(a:Nat) (d:List TmV),s7 = .int .i64 (a:Int)/\s8 = .int .i64 ((a:Int)+20)/\a<=n/\Hid (BdS 20 (D.take a) d/\TR wr g (d++D.drop a)/\Chg (fun k=>k=g) w wr)) (fun s7 _ _=>n - (intOf s7).toNat)
 case atStart=>exact⟨0,[],rfl,rfl,Nat.zero_le _,Aa ⟨.nil,y1.out,Chg.refl _ _⟩⟩
 case round =>
  obtain⟨a,d,rfl,rfl,x2,hI⟩:=hrel;have y0:d.length=a:=by rw[hI.out.1.len,List.length_take];have:=hn.out;omega
  have O:(d++D.drop a).length=n:=by rw[List.length_append,List.length_drop];have:=hn.out;omega
  by_cases hb:a+20<=n
  ·have a2:(a:Int)+20<=(n:Int):=by omega
   have h1:=p0.out a (a+20) _ d ((D.drop a).take 20) (D.drop (a+20)) wr hI.out.2.1 O (by rw[<-List.drop_drop,List.take_append_drop]) y0.symm (by rw[List.length_take,List.length_drop];have:=hn.out;omega);have d1:((a+20:Nat):Int)=(a:Int)+20:=by omega
   rw[d1]at h1;have d0:((D.drop a).take 20).length=20:=by rw[List.length_take,List.length_drop];have:=hn.out;omega
   have i1:D.take (a+20)=D.take a++(D.drop a).take 20:=by rw[List.take_add]
   replace h1:=Aa h1;replace y0:=Aa y0;replace O:=Aa O;replace i1:=Aa i1;replace d0:=Aa d0;replace d1:=Aa d1;go_wp2_with fail;refine h1.out.mono ?_;rintro e w1 ⟨rfl,S,hS,hT,hC⟩;replace hT:=Aa hT;replace hC:=Aa hC;replace hS:=Aa hS;go_wp2_with fail;go_roundw
   case rel=>exact⟨a+20,d++S,by go_num,by go_num,hb,Aa ⟨by rw[i1.out];exact .snoc _ _ _ _ hI.out.1 d0.out hS.out,by rw[List.append_assoc];exact hT.out,hI.out.2.2.trans hC.out fun _ _ h=>h⟩⟩
   case measure=>simp[intOf];omega
  ·have a2:¬ (a:Int)+20<=(n:Int):=by omega
   have h1:=Aa (p0.out a n _ d (D.drop a) [] wr hI.out.2.1 O (by rw[List.append_nil]) y0.symm (by rw[List.length_drop];have:=hn.out;omega));have Z:(D.drop a).length<=20:=by rw[List.length_drop];have:=hn.out;omega
   have m1:=List.take_append_drop a D;obtain⟨wo,rfl⟩:=Ab wr;replace y0:=Aa y0;replace O:=Aa O;replace Z:=Aa Z;replace m1:=Aa m1;go_wp2_with fail;refine h1.out.mono ?_;rintro e w1 ⟨rfl,S,hS,hT,hC⟩;have q1:Bk 20 D (d++S):=by
    rw[<-m1.out];refine hI.out.1.bk (by omega) ?_;by_cases he:D.drop a = []
    ·have:=hS.2.len;rw[he]at this ⊢;rw[List.length_eq_zero_iff.1 this];exact .nil
    ·exact .last _ _ (List.length_pos_iff.2 he) Z.out hS
   rw[List.append_nil]at hT;have p1:=hI.out.2.2.trans hC fun _ _ h=>h;replace q1:=Aa q1;replace hT:=Aa hT;replace p1:=Aa p1;replace hS:=Aa hS;replace hC:=Aa hC;clear h1;go_wp2_with fail
   go_loopw [6] (fun s6 wr=>∃(k:Nat) (E:List TmV),s6 = .int .i64 (k:Int)/\20<=k/\k<=2*n+20/\Hid (Bk k D E/\TR wr g E/\Chg (fun k=>k=g) w wr)) (fun s6 _=>n - (intOf s6).toNat)
   case atStart=>exact⟨20,d++S,rfl,Nat.le_refl _,by omega,Aa ⟨q1.out,hT.out,p1.out⟩⟩
   case round =>
    obtain⟨k,E,rfl,q3,x3,hJ⟩:=hrel;obtain⟨wq,rfl⟩:=Ab wr;by_cases y3:k<n
    ·have f1:Bk k D E:=hJ.out.1;have a1:=hJ.out.2.1;have j1:=hJ.out.2.2;replace f1:=Aa f1;replace a1:=Aa a1;replace j1:=Aa j1;go_wp2_with fail
     go_loopw [7,8] (fun s7 s8 wr=>∃(a b:Nat) (d e d' e':List TmV),s7 = .int .i64 (a:Int)/\s8 = .int .i64 (b:Int)/\a<=n/\b<=n+2*k/\Hid (b=a+2*k/\d.length=a/\BdS (2*k) d e/\Bk k d' e'/\D=d++d'/\TR wr g (e++e')/\Chg (fun k=>k=g) w wr)) (fun s7 _ _=>n - (intOf s7).toNat)
     case atStart=>exact⟨0,2*k,[],[],D,E,rfl,by congr 1,Nat.zero_le _,by omega,Aa ⟨by omega,rfl,.nil,f1.out,rfl,a1.out,j1.out⟩⟩
     case round =>
      obtain⟨a,b,d,e,d',e',rfl,rfl,x2,t3,hK⟩:=hrel;obtain⟨x0,f0,h0,G,q0,hT,hC⟩:=hK.out;have e1:=h0.len;have i0:=G.len;have c0:=hn.out;rw[q0,List.length_append]at c0;have O:(e++e').length=n:=by rw[List.length_append];omega
      have e0:((a+k:Nat):Int)=(a:Int)+(k:Int):=by omega
      by_cases y2:b<=n
      ·obtain⟨X,S,Y,T,d2,e2,I,b0,Z,m0,J,U,r0⟩:=G.two (by omega) (by omega);have h1:=k0.out a (a+k) b _ e S T e2 wr hT O (by rw[b0]) (by omega) (by rw[J.2.len];omega) (by rw[U.2.len];omega) J.1 U.1 (by rw[J.2.len];omega) (by rw[U.2.len];omega);rw[e0]at h1;replace h1:=Aa h1;replace x0:=Aa x0;replace f0:=Aa f0;replace h0:=Aa h0;replace q0:=Aa q0;replace hC:=Aa hC;replace I:=Aa I;replace Z:=Aa Z;replace m0:=Aa m0;replace J:=Aa J;replace U:=Aa U;replace r0:=Aa r0;clear hT G e1 i0 c0 O e0 b0;go_wp2_with fail;refine h1.out.mono ?_;rintro en w1 ⟨rfl,M,hM,v0,t0⟩;replace hM:=Aa hM;replace v0:=Aa v0;replace t0:=Aa t0;go_wp2_with fail;go_roundw
       case rel=>exact⟨b,b+2*k,d++(X++Y),e++M,d2,e2,rfl,by congr 1,y2,by omega,Aa ⟨rfl,by rw[List.length_append,List.length_append];have:=x0.out;have:=f0.out;have:=Z.out;have:=m0.out;omega,.snoc _ _ _ _ h0.out (by rw[List.length_append];have:=Z.out;have:=m0.out;omega) (J.out.mrg U.out hM.out),r0.out,by rw[q0.out,I.out];simp,by rw[List.append_assoc];exact v0.out,hC.out.trans t0.out fun _ _ h=>h⟩⟩
       case measure=>have:=x0.out;simp[intOf];omega
      ·have l0:=G.few (by omega);by_cases hm:a+k<n
       ·rcases l0 with ⟨h1,h2⟩ | ⟨X,S,Y,T,I,b0,Z,m0,J,U⟩
        ·omega
        ·have m2:n=a+k+Y.length:=by rw[I,List.length_append]at c0;omega
         have h1:=k0.out a (a+k) n _ e S T [] wr hT O (by rw[b0,List.append_nil]) (by omega) (by rw[J.2.len];omega) (by rw[U.2.len];omega) J.1 U.1 (by rw[J.2.len];omega) (by rw[U.2.len];omega);rw[e0]at h1;have H:∀(M:List TmV) (x:World),Mrg S T M->TR x g (e++(M ++ []))->Chg (fun k=>k=g) wr x->Bk (2*k) D (e++M)/\TR x g (e++M)/\Chg (fun k=>k=g) w x:=fun M x h2 h3 h4 =>
          ⟨by rw[q0];exact h0.bk (by omega) (by rw[I];exact .last _ _ (by rw[List.length_append];omega) (by rw[List.length_append];omega) (J.mrg U h2)),by rw[List.append_nil]at h3;exact h3,hC.trans h4 fun _ _ h=>h⟩
         have l2:(a:Int)+(k:Int)<(n:Int):=by omega
         replace h1:=Aa h1;replace H:=Aa H;clear x0 f0 h0 G q0 hT hC I b0 Z m0 J U m2 hK e1 i0 c0 O e0;go_wp2_with fail;refine h1.out.mono ?_;rintro en w1 ⟨rfl,M,hM,v0,t0⟩;have hf:=Aa (H.out M w1 hM v0 t0);clear hM v0 t0;go_wp2_with fail;go_roundw
         case rel=>exact⟨2*k,e++M,by congr 1;omega,by omega,by omega,hf⟩
         case measure=>simp[intOf];omega
       ·have H:Bk (2*k) D (e++e'):=by
         rcases l0 with ⟨h1,h2⟩ | ⟨X,S,Y,T,I,b0,Z,m0,J,U⟩
         ·rw[q0];exact h0.bk (by omega) h2
         ·rw[I,List.length_append]at c0;omega
        have l2:¬ (a:Int)+(k:Int)<(n:Int):=by omega
        have hf:=Aa (And.intro H (And.intro hT hC));clear x0 f0 h0 G q0 hT hC hK e1 i0 c0 O e0 l0 H;go_wp2_with fail;go_roundw
        case rel=>exact⟨2*k,e++e',by congr 1;omega,by omega,by omega,hf⟩
        case measure=>simp[intOf];omega
    ·have H:Std D E:=hJ.out.1.whole (by have:=hn.out;omega);replace H:=Aa H;go_wp2_with fail
     go_end0
     exact⟨rfl,E,H.out,hJ.out.2.1,hJ.out.2.2⟩
theorem Hw (g c:Nat) (D:List TmV) (w:World) (H:TR w g D) (d:D.length<=268435456) :
 Calls prog 100 #[.slice (some ⟨g,0,none⟩) D.length c,cmpV] w fun e w'=>e = .returned (.tuple #[])/\∃E,Std D E/\TR w' g E/\Chg (fun k=>k=g) w w':=by
 have h:=MA g c D w H d;obtain⟨n,Y⟩:=Ab D.length;rw[<-Y]at h d ⊢;unfold cmpV at h ⊢;replace h:=Aa h;replace Y:=Aa Y
 go_in
 go_wp2_with fail;refine h.out.mono ?_;rintro e w1 ⟨rfl,E,U,O,J⟩;go_wp2_with fail
 go_end0
 exact⟨rfl,E,U,O,J⟩
theorem EJ {β γ:Type} (g:β->γ) (l:List (List UInt8×β)) (s:List UInt8):valsOf (l.map fun x=>(x.1,g x.2)) s=(valsOf l s).map g:=by
 unfold valsOf;rw[List.filter_map,List.map_map,List.map_map];rfl
theorem Std.stabM {β γ:Type} {D E:List (List UInt8×β)} (h:Std D E) (g:β->γ):Stab (D.map fun x=>(x.1,g x.2)) (E.map fun x=>(x.1,g x.2)):=by
 refine⟨?_,fun s=>by rw[EJ,EJ,h.2.vals]⟩;rw[List.pairwise_map];exact h.1
structure TmsOk (w:World) (base:Nat) (D:List TmV) (R:List (List UInt8×List Int)):Prop where
  len:D.length=R.length
  each:∀(i:Nat) (x:TmV) (p:List UInt8×List Int),D[i]? = some x->R[i]? = some p->x.1=p.1/\Buf w base 3 x.2.1 x.2.2.1 x.2.2.2 (p.2.map IV)
  apart:∀(i j:Nat) (x y:TmV),D[i]? = some x->D[j]? = some y->i≠j->∀a b,x.2.1=some a->y.2.1=some b->a.block≠b.block
theorem TmsOk.nil (w:World) (base:Nat):TmsOk w base [] []:=⟨rfl,nofun,nofun⟩
theorem TmsOk.keep {D:List TmV} {R:List (List UInt8×List Int)} (h:TmsOk w base D R) (hk:∀A n c xs,Buf w base 3 A n c xs->Buf w1 base 3 A n c xs):TmsOk w1 base D R :=
 ⟨h.len,fun i x p H d=>⟨(h.each i x p H d).1,hk _ _ _ _ (h.each i x p H d).2⟩,h.apart⟩
theorem TmsOk.ext {D:List TmV} {R:List (List UInt8×List Int)} (h:TmsOk w base D R) (d:Ext w w1):TmsOk w1 base D R:=h.keep fun _ _ _ _ hb=>hb.ext d
theorem TmsOk.snoc {D:List TmV} {R:List (List UInt8×List Int)} (h:TmsOk w base D R) (hk:∀A n c xs,Buf w base 3 A n c xs->Buf w1 base 3 A n c xs) {x:TmV} {p:List UInt8×List Int} (hx:x.1=p.1) (hb:Buf w1 base 3 x.2.1 x.2.2.1 x.2.2.2 (p.2.map IV)) (hn:∀a,x.2.1=some a->w.heap.size<=a.block):TmsOk w1 base (D ++ [x]) (R ++ [p]):=by
 have U:∀(i:Nat) (y:TmV),D[i]? = some y->∀b,y.2.1=some b->b.block<w.heap.size:=fun i y d b hb=>by
  have hi:=(List.getElem?_eq_some_iff.1 d).1;obtain⟨q,J⟩:∃q,R[i]? = some q:=⟨_,List.getElem?_eq_getElem (by rw[<-h.len];exact hi)⟩
  exact(h.each i y q d J).2.lt b hb
 have H:∀(i:Nat) (y:TmV),(D ++ [x])[i]? = some y->D[i]? = some y\/(i=D.length/\y=x):=fun i y d=>by
  by_cases hi:i<D.length
  ·rw[List.getElem?_append_left hi]at d;exact .inl d
  ·rw[List.getElem?_append_right (by omega)]at d;have h2:=(List.getElem?_eq_some_iff.1 d).1;rw[List.length_singleton]at h2;have h3:i - D.length=0:=by omega
   rw[h3]at d;exact .inr ⟨by omega,by simpa using d.symm⟩
 refine⟨by rw[List.length_append,List.length_append,h.len];rfl,fun i y q d J=>?_,fun i j y z d hz I a b G Y=>?_⟩
 ·rcases H i y d with d | ⟨hi,rfl⟩
  ·have hi:=(List.getElem?_eq_some_iff.1 d).1;rw[List.getElem?_append_left (by rw[<-h.len];exact hi)]at J;have:=h.each i y q d J;exact⟨this.1,hk _ _ _ _ this.2⟩
  ·rw[List.getElem?_append_right (by rw[hi,h.len];exact Nat.le_refl _),hi,h.len,Nat.sub_self]at J;obtain rfl:p=q:=by simpa using J
   exact⟨hx,hb⟩
 ·rcases H i y d with O | ⟨hi,rfl⟩ <;> rcases H j z hz with Z | ⟨hj,rfl⟩
  ·exact h.apart i j y z O Z I a b G Y
  ·have:=U i y O a G;have:=hn b Y;omega
  ·have:=U j z Z b Y;have:=hn a G;omega
  ·omega
def splitG:Nat->List UInt8->List (List UInt8)×Nat
 | 0,_=>([],0)
 | f+1,l=>if l = [] then ([],0) else match getF l with
  | .error k=>([],k)
  | .ok (p,r)=>(p::(splitG f r).1,(splitG f r).2)
def splitF (l:List UInt8):List (List UInt8)×Nat:=splitG l.length l
theorem Gj (f:Nat) (l:List UInt8):splitG (f+1) l=if l = [] then ([],0) else match getF l with
 | .error k=>([],k)
 | .ok (p,r)=>(p::(splitG f r).1,(splitG f r).2):=rfl
theorem Gi:∀(f g:Nat) (l:List UInt8),l.length<=f->l.length<=g->splitG f l=splitG g l
 | 0,0,l,_,_=>rfl
 | 0,g+1,l,h,_=>by
  have:l = []:=List.length_eq_zero_iff.1 (by omega);subst this;rfl
 | f+1,0,l,_,h=>by
  have:l = []:=List.length_eq_zero_iff.1 (by omega);subst this;rfl
 | f+1,g+1,l,h1,h2=>by
  unfold splitG;split
  ·rfl
  ·cases d:getF l with
   | error k=>rfl
   | ok q =>
    obtain⟨p,r⟩:=q;have:=(C1 d).1;simp only;rw[Gi f g r (by omega) (by omega)]
theorem Mx:splitF []=([],0):=rfl
theorem Mw (d:l ≠ []) (h:getF l = .error k):splitF l=([],k):=by
 have H:=List.length_pos_iff.2 d;unfold splitF;rw[show l.length=l.length - 1+1 by omega,Gj,if_neg d,h]
theorem I9 (d:l ≠ []) (h:getF l = .ok (p,r)):splitF l=(p::(splitF r).1,(splitF r).2):=by
 have H:=List.length_pos_iff.2 d;have Y:=(C1 h).1;unfold splitF;rw[show l.length=l.length - 1+1 by omega,Gj,if_neg d,h];simp only;rw[Gi (l.length - 1) r.length r (by omega) (by omega)]
theorem CW:∀(ps:List (List UInt8)),(∀p∈ps,p.length<=16777216)->splitF (joinL ps)=(ps,0)
 | [],_=>rfl
 | p::ps,h=>by
  have d:getF (joinL (p::ps)) = .ok (p,joinL ps):=Pn (h p (List.mem_cons_self ..)) _;have H:joinL (p::ps) ≠ []:=by
   intro e;rw[e]at d;have:=(C1 d).1;simp at this
  rw[I9 H d,CW ps fun q Y=>h q (List.mem_cons_of_mem _ Y)]
theorem Fo:∀(f:Nat) (l:List UInt8),∀p∈(splitG f l).1,p.length<=16777216/\p.length<=l.length
 | 0,l,p,h=>by cases h
 | f+1,l,p,h=>by
  unfold splitG at h;split at h
  ·cases h
  ·cases d:getF l with
   | error k=>rw[d]at h;cases h
   | ok q =>
    obtain⟨p1,r⟩:=q;have H:=C1 d;rw[d]at h;rcases List.mem_cons.1 h with rfl | h
    ·exact⟨H.2.1,H.2.2⟩
    ·have:=Fo f r p h;exact⟨this.1,by omega⟩
theorem Fl (h:p∈(splitF l).1):p.length<=16777216/\p.length<=l.length:=Fo _ l p h
theorem Fm:∀(f:Nat) (l:List UInt8),(splitG f l).1.length<=f
 | 0,l=>Nat.le_refl _
 | f+1,l=>by
  unfold splitG;split
  ·exact Nat.zero_le _
  ·cases h:getF l with
   | error k=>exact Nat.zero_le _
   | ok q =>
    obtain⟨p1,r⟩:=q;have:=Fm f r;simp only[List.length_cons];omega
theorem JC (l:List UInt8):(splitF l).1.length<=l.length:=Fm _ l
end
end Go.Proofs.YtpnlihgcboepeaaGreat
