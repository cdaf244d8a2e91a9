/- Texts of one proof, joined. -/
import Derived.Test.YtfifdilapbeiiaaGreatPY14
import Derived.Lib.SliceRun
set_option linter.unusedSimpArgs false
set_option linter.unusedVariables false
set_option maxRecDepth 100000
set_option maxHeartbeats 16000000
namespace Go.Proofs.YtfifdilapbeiiaaGreat
open _root_.Go.Proofs.Tryz
variable {fl lo:Int} {bs:List (List UInt8)} {l l1 l2:List UInt8} {xs:List Value} {c c1 c2 g i k n n1 n2:Nat} {S:Nat → Prop} {A A1 A2:Option Addr} {e:TypeId} {v:Value} {w w' w1 w8:World}
section
open Go.RowKit
theorem SR (A : Option Addr) (n c : Nat) (l : List UInt8) (w0 w : World) (h : In8 w0 A n c l) (hw : Ext w0 w) (o2 : n ≤ 1000000000) :
    Calls prog 116 #[.slice A n c] w fun e w' => GotF w0 w (getF l) e w' := by
  have H := Bq A n c l w0 w h hw o2
  have j0 := Aa h.len
  obtain ⟨Z, b⟩ := Ab (getF l)
  rw [← b]
  unfold getF at b
  cases hv : getV 0 l with
  | error k =>
    rw [hv] at H b
    simp only at b
    rcases IB l 0 k hv with rfl | rfl
    · rw [if_pos rfl] at b
      replace b := Aa b
      replace H := Aa H
      clear h hv
      go_in
      go_wp2_with fail
      refine H.out.mono ?_
      rintro e w1 ⟨a, rfl⟩
      go_wp2_with fail
      go_ret3
      exact GotF.no a b.out
    · rw [if_neg (by omega)] at b
      replace b := Aa b
      replace H := Aa H
      clear h hv
      go_in
      go_wp2_with fail
      refine H.out.mono ?_
      rintro e w1 ⟨a, rfl⟩
      go_wp2_with fail
      go_ret3
      exact GotF.no a b.out
  | ok p =>
    obtain ⟨m, r⟩ := p
    have z3 := Ct hv
    have p3 := Cs hv
    obtain ⟨hd, k0, f2⟩ := Eu l 0 m r [] hv
    have T : l.length - r.length = hd.length := by rw [k0, List.length_append]; omega
    rw [hv] at H b
    simp only at b
    unfold Got at H
    simp only at H
    replace H := Aa H
    clear hv f2
    by_cases n0 : 16777216 < m
    · rw [if_pos n0] at b
      replace b := Aa b
      have a2 : (16777216 : Int) < m := by omega
      clear h
      go_in
      go_wp2_with fail
      refine H.out.mono ?_
      rintro e w1 ⟨a, A1, c1, rfl, hi1⟩
      go_wp2_with fail
      go_ret3
      exact GotF.no a b.out
    · rw [if_neg n0] at b
      have a2 : ¬ (16777216 : Int) < m := by omega
      have w3 : IntKind.i64.wrap (m : Int) = (m : Int) := by
        simp [IntKind.wrap, IntKind.bits, IntKind.signed]
        omega
      by_cases j2 : r.length < 4 + m
      · rw [if_pos j2] at b
        replace b := Aa b
        clear h
        by_cases o3 : r.length < 4
        · have k2 : (r.length : Int) < 4 := by omega
          go_in
          go_wp2_with fail
          refine H.out.mono ?_
          rintro e w1 ⟨a, A1, c1, rfl, hi1⟩
          go_wp2_with fail
          go_ret3
          exact GotF.no a b.out
        · have k2 : ¬ (r.length : Int) < 4 := by omega
          have k3 : (r.length : Int) - 4 < (m : Int) := by omega
          have i3 : r.length ≤ 1000000000 := by have := j0.out; omega
          go_in
          go_wp2_with fail
          refine H.out.mono ?_
          rintro e w1 ⟨a, A1, c1, rfl, hi1⟩
          go_wp2_with fail
          go_ret3
          exact GotF.no a b.out
      · rw [if_neg j2] at b
        have k2 : ¬ (r.length : Int) < 4 := by omega
        have k3 : ¬ (r.length : Int) - 4 < (m : Int) := by omega
        obtain ⟨i2, t0⟩ := h.headk .i64 (k := l.length - r.length) (by have := j0.out; omega) (z := (n : Int) - (r.length : Int)) (by have := j0.out; omega)
        rw [T] at i2 t0
        have l3 : r.length ≤ n := by have := j0.out; omega
        have a3 : r.length ≤ 1000000000 := by omega
        replace b := Aa b
        replace t0 := Aa t0
        replace T := Aa T
        replace k0 := Aa k0
        clear h p3
        go_in
        go_wp2_with fail
        refine H.out.mono ?_
        rintro e w1 ⟨a, A1, c1, rfl, hi1⟩
        obtain ⟨A2, c2, f3, h1⟩ := hi1.subk .i64 .i64 (fr := 4) (k := m) (by omega) (z0 := 4) (z := 4 + (m : Int)) rfl rfl
        obtain ⟨A3, c3, r3, q1⟩ := hi1.fromk .i64 (fr := 4 + m) (by omega) (z := 4 + (m : Int)) (by omega)
        have h0 := hw.trans a
        have G : Ext w1 (w1.alloc (.cells #[] 5)) := (Ext.refl w1).alloc _
        have r0 : Buf (w1.alloc (.cells #[] 5)) w1.heap.size 5 (some ⟨w1.heap.size, 0, none⟩) 0 0 [] := EO w1 [] 5 (by simp)
        have j3 := G.size
        have I : ((r.drop 4).take m).length = m := by rw [List.length_take, List.length_drop]; omega
        have v0 : (l.take hd.length).length = hd.length := by rw [List.length_take, k0.out, List.length_append]; omega
        have U := t0.out.ext (h0.trans G)
        have Y := h1
        obtain ⟨hh, J⟩ := Ab (l.take hd.length)
        obtain ⟨pl, O⟩ := Ab ((r.drop 4).take m)
        have e0 := b.out
        rw [T.out, ← J, ← O] at e0
        rw [← J] at v0 U
        rw [← O] at I Y
        have m0 : (r.drop (4 + m)).length = r.length - (4 + m) := List.length_drop
        have q3 := Aa (hi1.bytes)
        have t3 : hd.length + m ≤ 1000000000 := by have := j0.out; have := congrArg List.length k0.out; rw [List.length_append] at this; omega
        replace e0 := Aa e0
        replace O := Aa O
        replace J := Aa J
        replace I := Aa I
        replace v0 := Aa v0
        replace m0 := Aa m0
        replace h1 := Aa h1
        replace q1 := Aa q1
        replace hi1 := Aa hi1
        replace r0 := Aa r0
        replace U := Aa U
        replace Y := Aa Y
        replace G := Aa G
        go_wp2_with (at_builtin; first
          | (refine Al Aw r0.out U.out.bytes (.tmp 47) (.tmp 50) rfl rfl rfl rfl rfl (by rw [List.length_map]; exact v0.out) (Ai _) (by omega) j3 (fun A4 c4 w4 p0 _ o0 _ => ?_)
             have i0 := Aa (o0 w1 G.out (Nat.le_refl _))
             have f0 := Aa (o0 w0 (h0.trans G.out) h0.size)
             rw [Nat.zero_add, List.nil_append] at p0
             replace p0 := Aa p0
             clear o0)
          | (refine Al Aw p0.out ((Y.out.ext f0.out).bytes) (.tmp 51) (.tmp 52) rfl rfl rfl rfl rfl (by rw [List.length_map]; exact I.out) (Ai _) (by omega) i0.out.size (fun A5 c5 w5 g0 _ o1 _ => ?_)
             have l0 := Aa (o1 w1 i0.out (Nat.le_refl _))
             rw [← List.map_append] at g0
             have h3 := Aa (RO A5 _ c5 _ w5 w5 g0.in8 (Ext.refl w5) (by omega))
             replace g0 := Aa g0
             clear o1 f0 p0))
        refine h3.out.mono ?_
        rintro e w6 ⟨rfl, rfl⟩
        obtain ⟨g, H⟩ := Ab (cnext 0 (hh ++ pl))
        have j := e0.out
        rw [← H] at j
        obtain ⟨x0, p1⟩ : ∃ x, r[0]? = some x := ⟨_, List.getElem?_eq_getElem (by omega)⟩
        obtain ⟨x1, k1⟩ : ∃ x, r[1]? = some x := ⟨_, List.getElem?_eq_getElem (by omega)⟩
        obtain ⟨x2, j1⟩ : ∃ x, r[2]? = some x := ⟨_, List.getElem?_eq_getElem (by omega)⟩
        obtain ⟨x3, m1⟩ : ∃ x, r[3]? = some x := ⟨_, List.getElem?_eq_getElem (by omega)⟩
        have h2 : be (r.take 4) = x0.toNat * 16777216 + x1.toNat * 65536 + x2.toNat * 256 + x3.toNat := by
          rw [Ei m1, Qx, Ei j1, Qx, Ei k1, Qx, Ei p1, Qx]
          simp only [List.take_zero, be, List.foldl_nil]
          omega
        rw [h2] at j
        obtain ⟨q, o, m2, hc⟩ := Cells.at_ (xs := r.map B8) (q3.out.ext (h0.trans l0.out).drew) (by rw [List.length_map]; omega)
        have c0 := hc 0 (B8 x0) (by rw [List.getElem?_map, p1]; rfl)
        have c1' := hc 1 (B8 x1) (by rw [List.getElem?_map, k1]; rfl)
        have c2' := hc 2 (B8 x2) (by rw [List.getElem?_map, j1]; rfl)
        have c3' := hc 3 (B8 x3) (by rw [List.getElem?_map, m1]; rfl)
        unfold B8 at c0 c1' c2' c3'
        simp [Addr.add] at c0 c1' c2' c3'
        have b0 := x0.toNat_lt
        have b1 := x1.toNat_lt
        have b2 := x2.toNat_lt
        have b3 := x3.toNat_lt
        subst m2
        obtain ⟨y0, a1⟩ : ∃ y, y = x0.toNat := ⟨_, rfl⟩
        obtain ⟨y1, d1⟩ : ∃ y, y = x1.toNat := ⟨_, rfl⟩
        obtain ⟨y2, f1⟩ : ∃ y, y = x2.toNat := ⟨_, rfl⟩
        obtain ⟨y3, i1⟩ : ∃ y, y = x3.toNat := ⟨_, rfl⟩
        rw [← a1] at j c0 b0
        rw [← d1] at j c1' b1
        rw [← f1] at j c2' b2
        rw [← i1] at j c3' b3
        replace a1 := Aa a1
        replace d1 := Aa d1
        replace f1 := Aa f1
        replace i1 := Aa i1
        clear p1 k1 j1 m1 h2 hc
        have q0 := Aa l0.out
        by_cases p2 : g = y0 * 16777216 + y1 * 65536 + y2 * 256 + y3
        · rw [if_pos p2] at j
          have d2 : (g : Int) = (y0 : Int) * 16777216 + (y1 : Int) * 65536 + (y2 : Int) * 256 + (y3 : Int) := by omega
          replace j := Aa j
          go_wp2_with fail
          refine AE (fun K hK => ?_)
          go_wp2_with fail
          refine ⟨by kernel_rfl, ?_⟩
          go_wp2_with fail
          refine AE (fun K hK => ?_)
          go_wp2_with fail
          refine ⟨by kernel_rfl, ?_⟩
          go_wp2_with fail
          go_ret3
          rw [j.out]
          exact ⟨(a.trans q0.out).drew.drew, A2, c2, A3, c3, by rw [I.out, m0.out]; rfl, by rw [I.out]; exact Y.out.ext (h0.trans q0.out).drew.drew, by rw [m0.out]; exact q1.out⟩
        · rw [if_neg p2] at j
          have d2 : ¬ (g : Int) = (y0 : Int) * 16777216 + (y1 : Int) * 65536 + (y2 : Int) * 256 + (y3 : Int) := by omega
          replace j := Aa j
          go_wp2_with fail
          refine AE (fun K hK => ?_)
          go_wp2_with fail
          refine ⟨by kernel_rfl, ?_⟩
          go_wp2_with fail
          go_ret3
          exact GotF.no (a.trans q0.out).drew j.out
end
section
open Go.RowKit Go.Maps
def DecA (w:World) (res:Option (List Dc)) (e:Ending) (w':World):Prop:=Ext w w'/\match res with
 | some P=>∃(l:List DocC) (A:Option Addr) (c:Nat),dcs l=P/\e = .returned (.tuple #[.slice A l.length c,.int .i64 0])/\DocsOwn w' w.heap.size A c l
 | none=>e = .returned (.tuple #[.slice none 0 0,.int .i64 130])
theorem DecA.no {res:Option (List Dc)} (j:Ext w w') (h:res=none):DecA w res (.returned (.tuple #[.slice none 0 0,.int .i64 130])) w':=by
 subst h;exact⟨j,rfl⟩
theorem Sz (A:Option Addr) (n c:Nat) (b:List UInt8) (w:World) (h:In8 w A n c b) (hb:b.length<=60000) :
 Calls prog 73 #[.slice A n c] w fun e w'=>DecA w (openD b) e w':=by
 obtain⟨Z,j⟩:=Ab (openD b);rw[<-j];rw[<-SX b hb]at j;unfold decG at j;have c0:=h.len;by_cases l0:b.length<4
 ·rw[if_pos l0]at j;have hd:(n:Int)<4:=by omega
  replace j:=Aa j;clear h c0
  go_in
  go_wp2_with fail;go_ret2;exact DecA.no (Ext.refl _) j.out
 ·rw[if_neg l0]at j;have hd:¬ (n:Int)<4:=by omega
  obtain⟨A4,c4,n0,x0⟩:=h.from_ (fr:=4) (by omega) (z:=4) rfl;have a:=SR A4 (n - 4) c4 (b.drop 4) w w x0 (Ext.refl w) (by omega);obtain⟨n4,d0⟩:=Ab (n - 4);rw[<-d0]at n0 a;replace d0:=Aa d0;have h1:=Aa c0;clear c0;cases hg:getF (b.drop 4)with
  | error k =>
   rw[hg]at a j;have hk:=NQ hg;have y1:((k:Int) != 0)=true:=by simp;omega
   replace j:=Aa j;replace a:=Aa a;clear hg hk x0 h
   go_in
   go_wp2_with fail;refine a.out.mono ?_;rintro e w1 ⟨H,rfl⟩;go_wp2_with fail;go_ret2;exact DecA.no H j.out
  | ok q =>
   obtain⟨p,r⟩:=q;have p1:=(C1 hg).2.2;rw[List.length_drop]at p1;rw[hg]at a j;simp only at j;unfold GotF at a;simp only at a;replace a:=Aa a;clear hg x0;cases Y:decDs p with
   | none =>
    rw[Y]at j;have q0:=Aa (fun A n c W (h:In8 W A n c p) (y0:n<=50000000)=>LX A n c p W h y0);rw[SO p (by omega),Y]at q0;replace j:=Aa j;clear Y
    go_in
    go_wp2_with fail;refine a.out.mono ?_;rintro e w1 ⟨H,Ap,cp,Ar,cr,rfl,j0,_⟩;have I:=Aa (q0.out Ap p.length cp w1 j0 (by omega));go_wp2_with fail;refine I.out.mono ?_;rintro e w2 ⟨G,hr⟩;simp only at hr;subst hr;go_wp2_with fail;go_ret2;exact DecA.no (H.trans G) j.out
   | some P =>
    rw[Y]at j;simp only at j;have q0:=Aa (fun A n c W (h:In8 W A n c p) (y0:n<=50000000)=>LX A n c p W h y0);rw[SO p (by omega),Y]at q0;have x1:=(SE Y).1;have q1:=(Iq Y).1;have t0:SmP P:=⟨q1,by omega⟩
    replace t0:=Aa t0;clear Y
    go_in
    go_wp2_with fail;refine a.out.mono ?_;rintro e w1 ⟨H,Ap,cp,Ar,cr,rfl,j0,_⟩;have I:=Aa (q0.out Ap p.length cp w1 j0 (by omega));replace H:=Aa H;clear j0;go_wp2_with fail;refine I.out.mono ?_;rintro e w2 ⟨G,l,A2,c2,g0,rfl,J⟩;have T:=Aa (H.out.trans G);obtain⟨m,hm⟩:=Ab l.length;have a1:P.length=m:=by rw[<-g0,hm];exact List.length_map ..
    have m1:P.length<=65536:=t0.out.seg.n;by_cases h0:0<m
    ·have O:=H7 l A2 m c2 w2 hm J.ok (by rw[g0];exact t0.out) h0;rw[g0]at O;rw[<-hm];replace O:=Aa O;have p0:=Aa (J.lower H.out.size);replace hm:=Aa hm;clear G J I;go_wp2_with fail;refine O.out.mono ?_;rintro e w3 ⟨A3,c3,rfl,i0,U⟩;obtain⟨n3,m0⟩:=Ab ((segL P).length);have d1:=CT (A:=A3) (l:=segL P) (w:=w3) i0.2.cells n3 c3 m0;have f1:=CT (A:=A) (l:=b) (w:=w3) ((h.ext (T.out.trans U)).bytes) n c h1.out;rw[<-m0];replace m0:=Aa m0;have v0:=Aa (T.out.trans U);have e0:=Aa (p0.out.ext U);clear i0 U p0;by_cases he:segL P=b
     ·rw[if_pos ⟨by omega,he⟩]at j;have r0:(!(segL P==b))=false:=by rw[he];simp
      replace j:=Aa j;go_wp2_with fail;go_ret2;rw[j.out];exact⟨v0.out,l,A2,c2,g0,by rw[<-hm.out];rfl,e0.out⟩
     ·rw[if_neg (fun x=>he x.2)]at j;have r0:(!(segL P==b))=true:=by simp[he]
      replace j:=Aa j;go_wp2_with fail;go_ret2;exact DecA.no v0.out j.out
    ·have O:=Aa (Jr l A2 m c2 w2 hm J.ok (by omega) (.inr (by omega)));rw[if_neg (by omega)]at j;rw[<-hm];replace j:=Aa j;replace hm:=Aa hm;clear G J I;go_wp2_with fail;refine O.out.mono ?_;rintro e w3 ⟨rfl,U⟩;go_wp2_with fail;go_ret2;exact DecA.no (T.out.trans U) j.out
end
section
open Go.RowKit Go.Maps
def rowsM:Int->List (List UInt8)->Option (List (List Dc))
 | _,[]=>some []
 | la,b::t=>match openD b with
  | none=>none
  | some P=>if la<fstD P then (rowsM (lastD 0 P) t).map (P :: ·) else none
theorem Ua:∀(bs:List (List UInt8)) (la:Int),(match opensD bs with | some Ps=>if chainD la Ps=true then some Ps else none | none=>none)=rowsM la bs
 | [],la=>rfl
 | b::t,la=>by
  unfold rowsM;cases hb:openD b with
  | none =>
   have:opensD (b::t)=none:=Tf (i:=0) rfl hb;rw[this]
  | some P =>
   have h:opensD (b::t)=(opensD t).map (P :: ·):=by
    unfold opensD;simp only[List.all_cons,hb,Option.isSome_some,Bool.true_and,List.filterMap_cons];split <;> rfl
   rw[h];simp only;rw[<-Ua t];cases opensD t with
   | none=>simp
   | some Ps =>
    show (if (decide (la<fstD P)&&chainD (lastD 0 P) Ps)=true then some (P::Ps) else none)=_;by_cases h1:la<fstD P
    ·rw[decide_eq_true h1,Bool.true_and,if_pos h1];simp only;split <;> rfl
    ·rw[decide_eq_false h1,Bool.false_and,if_neg h1];rfl
theorem T7 (bs:List (List UInt8)):mergeD bs=if bs = [] then none else rowsM 0 bs:=by
 rw[<-Ua];unfold mergeD;cases bs with
 | nil=>rfl
 | cons b t =>
  rw[if_neg (by simp)];cases h:opensD (b::t)with
  | none=>rfl
  | some Ps =>
   have H:0<Ps.length:=by
    unfold opensD at h;split at h
    ·rename_i j;injection h with h;rw[<-h];rw[List.all_cons,Bool.and_eq_true]at j;obtain⟨P,a⟩:=Option.isSome_iff_exists.1 j.1;rw[List.filterMap_cons,a];simp
    ·cases h
   simp[H]
theorem Ur {b:List UInt8} (h:bs[i]? = some b) (la:Int):rowsM la (bs.drop i)=match openD b with | none=>none | some P=>if la<fstD P then (rowsM (lastD 0 P) (bs.drop (i+1))).map (P :: ·) else none:=by
 obtain⟨hi,rfl⟩:=List.getElem?_eq_some_iff.1 h;rw[List.drop_eq_getElem_cons hi];rfl
structure DrC where
  l:List DocC
  A:Option Addr
  c:Nat
def DrC.val (x:DrC):Value:= .slice x.A x.l.length x.c
def DrC.ds (x:DrC):List Dc:=dcs x.l
def RowA (w:World) (r:Option (List (List Dc))) (e:Ending) (w':World):Prop:=Ext w w'/\match r with
 | some Ps=>∃(l:List DrC) (A:Option Addr) (n c:Nat),l.map DrC.ds=Ps/\n=l.length/\e = .returned (.tuple #[.slice A n c,.bool true])/\Cells w' A (l.map DrC.val)/\∀x∈l,DocsOk w' x.A x.l/\x.l.length<=65536
 | none=>∃v,e = .returned (.tuple #[v,.bool false])
theorem RowA.no {r:Option (List (List Dc))} (j:Ext w w') (h:r=none):RowA w r (.returned (.tuple #[v,.bool false])) w':=by subst h;exact⟨j,v,rfl⟩
theorem Uv:Elem prog 73 30 1 24:=⟨underlying73,⟨_,_,rfl,rfl,rfl,rfl,rfl⟩,by omega,by omega⟩
theorem Uq (A:Option Addr) (n c:Nat) (b:List UInt8) (w:World) (h:In8e w A n c b) (j:b.length<=60000):Calls prog 73 #[.slice A n c] w (DecA w (openD b)):=by
 rcases h with h | ⟨rfl,rfl,rfl⟩
 ·exact Sz A n c b w h j
 ·go_in
  go_wp2_with fail;go_ret2;exact DecA.no (Ext.refl _) rfl
theorem Ug (bs:List BsC) (A:Option Addr) (n c:Nat) (w:World) (hn:n=bs.length) (h:BssR w A bs) (x3:n<=1000000) :
 Calls prog 31 #[.slice A n c] w (RowA w (mergeD (bs.map BsC.b))):=by
 have n0:=T7 (bs.map BsC.b);obtain⟨Z,hZ⟩:=Ab (rowsM 0 (bs.map BsC.b));rw[<-hZ]at n0;rw[n0];obtain⟨Y,hY⟩:=Ab (if bs.map BsC.b = [] then none else Z);rw[<-hY];replace hY:=Aa hY;have k2:=Aa Uq;replace hn:=Aa hn;replace h:=Aa h;replace hZ:=Aa (show Z=(rowsM 0 ((bs.map BsC.b).drop 0)).map (fun t=> []++t)by rw[hZ,List.drop_zero];cases rowsM 0 (bs.map BsC.b) <;> rfl);clear n0
 go_in
 go_wp2_with fail
 go_loopw [4,5,6] (fun s4 s5 s6 wr=>∃(i d:Nat) (la:Int) (B:Option Addr) (l:List DrC),s4 = .slice B i d/\s5 = .int .i64 la/\s6 = .int .i64 (i:Int)/\i<=n/\Hid (l.length=i)/\Hid (Z=(rowsM la ((bs.map BsC.b).drop i)).map (fun t=>l.map DrC.ds++t))/\Hid (wr.ownsRow w.heap.size 30 1 (.slice B i d) i (l.map DrC.val))/\Hid (∀x∈l,DocsOwn wr 0 x.A x.c x.l/\x.l.length<=65536)/\Hid (Ext w wr)) (fun _ _ s6 _=>n - (intOf s6).toNat)
 case atStart=>exact⟨0,0,0,none,[],rfl,rfl,rfl,by omega,Aa rfl,hZ,Aa ⟨rfl,.inl ⟨rfl,rfl⟩⟩,Aa nofun,Aa (Ext.refl _)⟩
 case round =>
  obtain⟨i,d,la,B,l,rfl,rfl,rfl,hi,hl,hz,ho,hs,hE⟩:=hrel;by_cases j2:i<n
  ·obtain⟨x,O⟩:∃x,bs[i]? = some x:=⟨_,List.getElem?_eq_getElem (by rw[<-hn.out];exact j2)⟩
   obtain⟨d1,p1⟩:=h.out.each x (List.mem_of_getElem? O);obtain⟨g,o,rfl,hc⟩:=(h.out.cells.ext hE.out).at_ (by rw[List.length_map,<-hn.out];omega);have k0:=hc i x.val (by rw[List.getElem?_map,O];rfl);have a1:(bs.map BsC.b)[i]? = some x.b:=by rw[List.getElem?_map,O];rfl
   have T:=k2.out x.A x.b.length x.c x.b wr (d1.ext hE.out) p1;have j:=Ur a1 la;have y0:∀r,rowsM la ((bs.map BsC.b).drop i)=r->r=none->Y=none:=fun r hr h0=>by
    rw[hY.out,hz.out,hr,h0];split <;> rfl
   unfold BsC.val at k0;obtain⟨xb,xA,xc⟩:=x;simp only at k0 T p1 j;obtain⟨xn,k1⟩:=Ab xb.length;rw[<-k1]at k0 T;replace T:=Aa T;replace k1:=Aa k1;replace y0:=Aa y0;clear hc O d1 a1;cases hq:openD xb with
   | none =>
    rw[hq]at j;have f0:=Aa (y0.out _ j rfl);replace hq:=Aa hq;clear j;go_wp2_with fail;refine(T.out).mono ?_;rintro e w4 ⟨a,hr⟩;rw[hq.out]at hr;simp only at hr;subst hr;go_wp2_with fail;go_ret2;exact RowA.no (hE.out.trans a) f0.out
   | some P =>
    have hP:=SF hq p1;rw[hq]at j;simp only at j;have p2:=hP.sm.seg.n;replace hq:=Aa hq;replace j:=Aa j;go_wp2_with fail;refine(T.out).mono ?_;rintro e w4 ⟨a,hr⟩;rw[hq.out]at hr;obtain⟨l4,A4,c4,G,rfl,p0⟩:=hr;obtain⟨m,hm⟩:=Ab l4.length;have q2:P.length=m:=by rw[<-G,hm];exact List.length_map ..
    have y1:=hP.ne;obtain⟨x0,q1⟩:∃x,l4[0]? = some x:=⟨_,List.getElem?_eq_getElem (by omega)⟩
    obtain⟨xl,j0⟩:∃x,l4[m - 1]? = some x:=⟨_,List.getElem?_eq_getElem (by omega)⟩
    have r0:=C7 hm q1 j0;rw[G]at r0;obtain⟨lo,hh,nn,H⟩:=Tr y1;rw[r0]at H;injection H with _ H;injection H with _ H;injection H with e1 H;injection H with e2 _;obtain⟨g4,o4,i1,q0,_⟩:=AR p0.ok.cells q1;obtain⟨g4',o4',x1,ql,_⟩:=AR p0.ok.cells j0;subst i1;cases x1;rw[Nat.zero_mul,Nat.add_zero,e1]at q0;rw[e2]at ql;obtain⟨m1,l0⟩:=Ab (m - 1);have m3:(m:Int) - 1=(m1:Int):=by omega
    have t3:((m:Int)==0)=false:=beq_eq_false_iff_ne.2 (by omega);have q3:m1<m:=by omega
    have j3:0<m:=by omega
    rw[<-l0]at ql;rw[<-hm];obtain⟨fi,t0⟩:=Ab (fstD P);obtain⟨lx,I⟩:=Ab (lastD 0 P);rw[<-t0]at q0;rw[<-I]at ql;have J:=j.out;rw[<-t0,<-I]at J;replace J:=Aa J;have x2:m<=65536:=by omega
    replace hm:=Aa hm;replace l0:=Aa l0;replace G:=Aa G;replace p0:=Aa p0;replace t0:=Aa t0;replace I:=Aa I;replace a:=Aa a;clear r0 q1 j0 j q2 y1 p2 hP e1 e2;by_cases k3:fi<=la
    ·have f0:=Aa (y0.out _ J.out (if_neg (by omega)));go_wp2_with fail;go_ret2;exact RowA.no (hE.out.trans a.out) f0.out
    ·have d0:=hz.out;rw[J.out,if_pos (by omega)]at d0;replace d0:=Aa d0;have h1:=Aa (a.out.owns ho.out);have a2:w.heap.size<=w4.heap.size:=(hE.out.trans a.out).size;go_wp2_with (at_builtin;refine AS (us:= [.slice (some ⟨g4,o4,none⟩) m c4]) (m:=1) Uv h1.out rfl (.tmp 45) (.tmp 47) rfl rfl rfl rfl rfl (Az rfl) (by omega) a2 (fun A8 c8 w8 o0 v0 m2=>?_);replace o0:=Aa o0;replace v0:=Aa v0;clear m2);have o1:Ext w w8:=(hE.out.trans a.out).grown v0.out fun k hk=>by obtain⟨_,_,hb⟩:=Ae h1.out hk;exact hb
     have hC:Chg (fun k=>(Value.slice B i d).ownBlock=some k) w4 w8:=Chg.of_grown v0.out fun _ _ h=>h;have hk:∀g t cs,Row w4 g t cs->t=91\/t=71->0<=g->¬ (Value.slice B i d).ownBlock=some g:=fun g t cs hr ht _=>Am h1.out hr (by rcases ht with rfl | rfl <;> decide);have y2:∀x∈l ++ [(⟨l4,some ⟨g4,o4,none⟩,c4⟩:DrC)],DocsOwn w8 0 x.A x.c x.l/\x.l.length<=65536:=fun x O=>by
      rcases List.mem_append.1 O with O | O
      ·exact⟨((hs.out x O).1.ext a.out).chg hC hk,(hs.out x O).2⟩
      ·rw[List.mem_singleton.1 O];exact⟨(p0.out.lower (Nat.zero_le _)).chg hC hk,by show l4.length<=_;rw[<-hm.out];exact x2⟩
     go_roundw
     case rel=>exact⟨i+1,c8,lx,A8,l ++ [⟨l4,some ⟨g4,o4,none⟩,c4⟩],rfl,rfl,by go_num,by omega,Aa (by rw[List.length_append,hl.out];rfl),Aa (by rw[d0.out,Option.map_map,List.map_append];unfold DrC.ds;rw[show lx=lastD 0 P from I.out];congr 1;funext t;simp[G.out]),Aa (by rw[List.map_append];show World.ownsRow _ _ _ _ _ _ (_ ++ [.slice _ l4.length c4]);rw[<-hm.out];exact o0.out),Aa y2,Aa o1⟩
     case measure=>simp only[intOf];omega
  ·have g0:Z=some (l.map DrC.ds):=by
    rw[hz.out,List.drop_of_length_le (by rw[List.length_map,<-hn.out];omega)];show some (l.map DrC.ds ++ [])=_;rw[List.append_nil]
   by_cases h0:0<n
   ·have U:Y=some (l.map DrC.ds):=by
     rw[hY.out,if_neg,g0];intro e;have:=congrArg List.length e;rw[List.length_map,<-hn.out]at this;exact absurd this (by show ¬ n=0;omega)
    replace U:=Aa U;have hd:decide ((0:Int)<(n:Int))=true:=decide_eq_true (by omega);replace g0:=Aa g0;go_wp2_with fail;go_ret2;refine⟨hE.out,?_⟩;rw[U.out];exact⟨l,B,i,d,rfl,hl.out.symm,by first | rfl | (rw[hd]),Cells.of_own ho.out,fun x O=>⟨(hs.out x O).1.ok,(hs.out x O).2⟩⟩
   ·have U:Y=none:=by
     rw[hY.out,if_pos];exact List.eq_nil_of_length_eq_zero (by rw[List.length_map,<-hn.out];omega)
    replace U:=Aa U;have hd:decide ((0:Int)<(n:Int))=false:=decide_eq_false (by omega);replace g0:=Aa g0;go_wp2_with fail;go_ret2;exact RowA.no hE.out U.out
end
section
open Go.RowKit Go.Maps
def keepD (fl:Int) (x:DocC):Bool:= !decide (x.e.at_<fl)
theorem SZ (x:DocC) (fb:Nat) (fl:Int) (w:World) (h:Row w fb 3 #[.int .i64 fl]) :
 Calls prog 30 #[.agg #[.int .i64 x.seq,.int .i64 x.e.at_,.slice x.A x.e.fs.length x.c],.pointer (some ⟨fb,0,none⟩)] w fun e w'=>e = .returned (.bool (decide (x.e.at_<fl)))/\Ext w w':=by
 have k0:=(h.ext ((Ext.refl w).alloc (Obj.cells #[.int .i64 x.seq,.int .i64 x.e.at_,.slice x.A x.e.fs.length x.c] 71))).cell 0 rfl;obtain⟨sq,⟨at_,fs⟩,A,c⟩:=x;simp only at k0 ⊢;obtain⟨m,j⟩:=Ab fs.length;rw[<-j]at k0 ⊢;clear j h
 go_in
 go_wp2_with fail;go_ret;exact⟨rfl,(Ext.refl w).alloc _⟩
def IdxA (w:World) (fl:Int) (l:List DocC) (e:Ending) (w':World):Prop:=Ext w w'/\((e = .returned (.int .i64 (-1))/\l.all (keepD fl)=true)\/∃i:Nat,e = .returned (.int .i64 (i:Int))/\i<l.length/\(l.take i).all (keepD fl)=true/\∃x,l[i]? = some x/\keepD fl x=false)
theorem Tp (l:List DocC) (A:Option Addr) (n c fb:Nat) (fl:Int) (w:World) (hn:n=l.length) (h:Cells w A (dcells l)) (hb:Row w fb 3 #[.int .i64 fl]) (G:n<=1000000) :
 Calls prog 72 #[.slice A n c,.func (.func 30) #[] #[.pointer (some ⟨fb,0,none⟩)]] w (IdxA w fl l):=by
 have hd:=Aa SZ;replace hn:=Aa hn;replace h:=Aa h;replace hb:=Aa hb
 go_in
 go_wp2_with fail
 go_loopw [8] (fun s8 wr=>∃i:Nat,s8 = .int .i64 (i:Int)/\i<=n/\Hid ((l.take i).all (keepD fl)=true)/\Hid (Ext w wr)) (fun s8 _=>n - (intOf s8).toNat)
 case atStart=>exact⟨0,rfl,by omega,Aa rfl,Aa (Ext.refl _)⟩
 case round =>
  obtain⟨i,rfl,hi,j,J⟩:=hrel;by_cases O:i<n
  ·obtain⟨x,Z⟩:∃x,l[i]? = some x:=⟨_,List.getElem?_eq_getElem (by rw[<-hn.out];exact O)⟩
   obtain⟨g,o,rfl,k0,k1,k2⟩:=AR (h.out.ext J.out) Z;have b:=hd.out x fb fl wr (hb.out.ext J.out);obtain⟨v,T⟩:=Ab (decide (x.e.at_<fl));rw[<-T]at b;have Y:(l.take (i+1)).all (keepD fl) = !v:=by
    rw[List.take_add_one,Z,List.all_append,j.out,T];show (keepD fl x&&true)=_;rw[Bool.and_true];rfl
   replace Y:=Aa Y;have H:keepD fl x = !v:=by rw[T];rfl
   replace H:=Aa H;replace T:=Aa T;replace Z:=Aa Z;replace b:=Aa b;cases v with
   | true =>
    go_wp2_with fail;refine b.out.mono ?_;rintro e w4 ⟨rfl,a⟩;go_wp2_with fail;go_ret;exact⟨J.out.trans a,.inr ⟨i,rfl,by rw[<-hn.out];exact O,j.out,x,Z.out,H.out⟩⟩
   | false =>
    go_wp2_with fail;refine b.out.mono ?_;rintro e w4 ⟨rfl,a⟩;go_wp2_with fail;go_roundw
    case rel=>exact⟨i+1,by go_num,by omega,Y,Aa (J.out.trans a)⟩
    case measure=>simp only[intOf];omega
  ·have U:=j.out;rw[List.take_of_length_le (by rw[<-hn.out];omega)]at U;go_wp2_with fail;go_ret;exact⟨J.out,.inl ⟨rfl,U⟩⟩
theorem TM:∀(D:List DocC) (i:Nat) (x:DocC),i<D.length->(((dcells D).set (i*3) (.int .i64 x.seq)).set (i*3+1) (.int .i64 x.e.at_)).set (i*3+2) (.slice x.A x.e.fs.length x.c)=dcells (D.set i x)
 | y::D,0,x,_=>rfl
 | y::D,i+1,x,h=>by
  have ih:=TM D i x (by simpa using h);have e1:(i+1)*3=i*3+1+1+1:=by omega
  rw[e1,List.set_cons_succ];show _=y.cells++dcells (D.set i x);rw[<-ih];rfl
theorem TY {base g n c size:Nat}:∀(vs:List Value) (o:Nat) (w:World),w.ownsRow base e size (.slice (some ⟨g,0,none⟩) n c) n xs->n*size<=o->(w.setCells g o vs).ownsRow base e size (.slice (some ⟨g,0,none⟩) n c) n xs
 | [],o,w,h,_=>h
 | v::vs,o,w,h,j=>by
  have h2:=M7 h o v;rw[List.set_eq_of_length_le (by rw[h.1];exact j)]at h2;exact TY vs (o+1) _ h2 (by omega)
theorem TT:∀(vs:List Value) (o:Nat) (w:World),Chg (fun k=>k=g) w (w.setCells g o vs)
 | [],_,w=>Chg.refl _ w
 | v::vs,o,w=>(Chg.of_set (S:=fun k=>k=g) w (a:=⟨g,o,none⟩) v rfl).trans (TT vs (o+1) _) fun _ _ h=>h
theorem Tq {base n c i size:Nat} (h:w.ownsRow base e size (.slice A n c) n xs) (hi:i<=n) (b:A≠none):w.ownsRow base e size (.slice A i c) i (xs.take (i*size)):=by
 obtain⟨Y,U⟩:=h;have J:i*size<=n*size:=Nat.mul_le_mul_right _ hi;refine⟨by rw[List.length_take,Y];omega,?_⟩;rcases U with ⟨j,_⟩ | ⟨g,cap,cur,j,hb,H,hn,a,hs,ht⟩
 ·cases j;exact absurd rfl b
 ·cases j;exact .inr ⟨g,_,cur,rfl,hb,H,by omega,a,hs,by rw[<-ht,List.take_take,Nat.min_eq_left J]⟩
theorem S3 (w:World) (b o n c:Nat) (hn:0<n) (U:∀j,j<n*3->(w.cell? ⟨b,o+j,none⟩).isSome=true) (O:∀j,j<n*3->w.frozen? ⟨b,o+j,none⟩=false) :
 ∃vs,∀ty,(Builtin.clear_ #[30] ty #[.slice (some ⟨b,o,none⟩) n c]).run prog w = .ok (.tuple #[]) (w.setCells b o vs):=by
 have ht:=underlying30;have T:∀W:World,(zeroValue 71).run prog W = .ok (.agg #[.int .i64 0,.int .i64 0,.slice none 0 0]) W:=fun W=>by kernel_rfl
 obtain⟨vs,a⟩:=Ab ((Builtin.zeroCells (Value.agg #[.int .i64 0,.int .i64 0,.slice none 0 0]).cells n).toList);have hlen:vs.length=n*3:=by rw[a];simp[Builtin.zeroCells,Value.cells]
 have H:∀v∈vs,v.oneCell'=true:=fun v J=>by
  rw[a]at J;unfold Builtin.zeroCells at J;rw[Array.toList_map]at J;obtain⟨i,_,rfl⟩:=List.mem_map.1 J;show Value.oneCell' ((#[.int .i64 0,.int .i64 0,.slice none 0 0]:Array Value)[i%3]!)=true;have:=Nat.mod_lt i (show 0<3 by omega);obtain h | h | h:i%3=0\/i%3=1\/i%3=2:=by omega
  all_goals rw[h];rfl
 have Y:=run_storeCells_cells (P:=prog) b o vs 0 w (by rw[hlen];simpa using U) (by rw[hlen];simpa using O) H;simp only[Nat.add_zero]at Y;obtain⟨m,rfl⟩:∃m,n=m+1:=⟨n - 1,by omega⟩
 refine⟨vs,fun ty=>?_⟩;simp[Builtin.clear_,run_underlying ht,T,<-a,Y]
theorem Tg (h:k<n) (hn:n<=c) (W:World) :
 (Instr.sliceAt 30 (.slice (some ⟨g,0,none⟩) n c) (some (.int .i64 (k:Int))) none none).run prog W = .ok (.slice (some ⟨g,k*3,none⟩) (n - k) (c - k)) W:=by
 have ht:=underlying30;have j:prog.elem 30=71:=by unfold Program.elem;rw[ht]
 have hs:∀W:World,(sizeOf 71).run prog W = .ok 3 W:=fun W=>by kernel_rfl
 have b:((k:Int)).toNat=k:=by omega
 rw[run_sliceAt_slice W _ _ _ _ _ (by rw[ht,j]),run_slice_l W _ _ n c (by rw[ht,j]) .i64 k (by omega) (by omega),j,hs];simp only[Result.andThen_ok];unfold sliced;rw[if_neg (by omega),b];simp[Addr.add_lit]
def DelA (base:Nat) (fl:Int) (l:List DocC) (w:World) (e:Ending) (w':World):Prop:=∃(A:Option Addr) (n c:Nat),e = .returned (.slice A n c)/\n=(l.filter (keepD fl)).length/\DocsOwn w' base A c (l.filter (keepD fl))/\Chg (fun k=>base<=k) w w'
theorem Ay {l:List DocC} {j:Nat} {x:DocC} (h:l[j]? = some x) (p:DocC->Bool):(l.take (j+1)).filter p=(l.take j).filter p++if p x=true then [x] else []:=by
 rw[List.take_add_one,h,List.filter_append];congr 1;show List.filter p [x]=_;rw[List.filter_cons];rfl
theorem Ti (l:List DocC) (A:Option Addr) (n c fb base:Nat) (fl:Int) (w:World) (hn:n=l.length) (h:DocsOwn w base A c l) (hb:Row w fb 3 #[.int .i64 fl]) (l3:base<=w.heap.size) (z3:n<=1000000) :
 Calls prog 29 #[.slice A n c,.func (.func 30) #[] #[.pointer (some ⟨fb,0,none⟩)]] w (DelA base fl l w):=by
 have t3:=Aa (Tp l A n c fb fl w hn h.ok.cells hb z3);have hd:=Aa SZ;have n0:=h.cap;rw[<-hn]at n0;have Y:=h.own;rw[<-hn]at Y;replace hn:=Aa hn;replace hb:=Aa hb
 go_in
 go_wp2_with fail;refine t3.out.mono ?_;rintro e w1 ⟨U,hr⟩;rcases hr with ⟨rfl,O⟩ | ⟨i0,rfl,d2,O,x0,q3,t0⟩
 ·have Z:l.filter (keepD fl)=l:=List.filter_eq_self.2 (List.all_eq_true.1 O);replace Z:=Aa Z;replace h:=Aa h;clear O Y;go_wp2_with fail;go_ret;exact⟨A,n,c,rfl,by rw[Z.out];exact hn.out,by rw[Z.out];exact h.out.ext U,Chg.of_ext U _⟩
 ·have i3:i0<n:=by rw[hn.out];exact d2
  obtain⟨g,rfl⟩:∃g,A=some ⟨g,0,none⟩:=by
   rcases Y.2 with ⟨_,h0⟩ | ⟨g,_,_,hv,_⟩
   ·omega
   ·cases hv;exact⟨g,rfl⟩
  obtain⟨_,_,a2⟩:=Ae Y rfl;have f1:l.take i0=(l.take (i0+1)).filter (keepD fl):=by
   rw[Ay q3,if_neg (by rw[t0];simp),List.append_nil];exact(List.filter_eq_self.2 (List.all_eq_true.1 O)).symm
  have a3:=Aa (U.owns Y);have j3:=Aa fun x J=>((h.ext U).each x J)
  have i1:=Aa h.ints;have k3:=Aa (Chg.of_ext U fun k=>base<=k);have p4:((i0:Int) == -1)=false:=beq_eq_false_iff_ne.2 (by omega);replace U:=Aa U;replace f1:=Aa f1;clear q3 t0 O h Y d2;go_wp2_with fail
  go_loopw [5,6] (fun s5 s6 wr=>∃(i j:Nat) (D:List DocC),s5 = .int .i64 (i:Int)/\s6 = .int .i64 (j:Int)/\i<j/\j<=n/\Hid (D.length=n/\D.take i=(l.take j).filter (keepD fl)/\∀k,j<=k->D[k]? = l[k]?)/\Hid (wr.ownsRow base 71 3 (.slice (some ⟨g,0,none⟩) n c) n (dcells D))/\Hid (∀x∈l,x.e.Own wr base x.A x.c)/\Hid (Row wr fb 3 #[.int .i64 fl])/\Hid (Chg (fun k=>base<=k) w wr)) (fun _ s6 _=>n - (intOf s6).toNat)
  case atStart=>exact⟨i0,i0+1,l,rfl,by go_num,by omega,by omega,Aa ⟨hn.out.symm,f1.out,fun _ _=>rfl⟩,a3,j3,Aa (hb.out.ext U.out),k3⟩
  case round =>
   obtain⟨i,j,D,rfl,rfl,w3,q4,hD,ho,hs,f0,hC⟩:=hrel;obtain⟨j1,m1,p1⟩:=hD.out;have o2:=Ae ho.out rfl;obtain⟨cur,H,_⟩:=o2;by_cases hj:j<n
   ·obtain⟨x,J⟩:∃x,l[j]? = some x:=⟨_,List.getElem?_eq_getElem (by rw[<-hn.out];exact hj)⟩
    obtain⟨y,hy⟩:∃y,D[i]? = some y:=⟨_,List.getElem?_eq_getElem (by omega)⟩
    obtain⟨g',o',o0,k0,k1,k2⟩:=AR (Cells.of_own ho.out) ((p1 j (Nat.le_refl _)).trans J);cases o0;rw[Nat.zero_add]at k0 k1 k2;have g0:=Ay J (keepD fl);have T:=hd.out x fb fl (wr.alloc (Obj.cells #[.int .i64 x.seq,.int .i64 x.e.at_,.slice x.A x.e.fs.length x.c] 71)) (f0.out.ext ((Ext.refl wr).alloc _));obtain⟨v,hv⟩:=Ab (decide (x.e.at_<fl));have t0:keepD fl x = !v:=by rw[hv];rfl
    rw[<-hv]at T;rw[t0]at g0;have G:=TM D i x (by omega);obtain⟨sq,⟨at_,fs⟩,xA,xc⟩:=x;simp only at k0 k1 k2 T G;obtain⟨m,hm⟩:=Ab fs.length;rw[<-hm]at k2 T G;obtain⟨W,hW⟩:=Ab (wr.alloc (Obj.cells #[Value.int .i64 sq,.int .i64 at_,.slice xA m xc] 71));have e0:Ext wr W:=by rw[hW];exact(Ext.refl wr).alloc _
    have p0:Row W wr.heap.size 71 #[.int .i64 sq,.int .i64 at_,.slice xA m xc]:=by rw[hW];exact Row.new wr _ _
    obtain⟨gq,m0⟩:=Ab wr.heap.size;rw[<-m0]at p0;have r3:g≠gq:=by have hl:g<wr.heap.size:=H.lt;omega
    have q0:=p0.cell 0 rfl;have q1:=p0.cell 1 rfl;have q2:=p0.cell 2 rfl;rw[<-hW]at T;replace T:=Aa T;replace g0:=Aa g0;replace G:=Aa G;replace hm:=Aa hm;replace hv:=Aa hv;replace e0:=Aa e0;replace p0:=Aa p0;replace H:=Aa H;replace hD:=Aa hD;clear t0 j1 m1 p1 hd;cases v with
    | true =>
     go_wp2_with fail;rw[<-hW,<-m0];clear hW m0;refine T.out.mono ?_;rintro e w4 ⟨rfl,b⟩;replace b:=Aa (e0.out.trans b);go_wp2_with fail;go_roundw
     case rel=>exact⟨i,j+1,D,rfl,by go_num,by omega,by omega,Aa ⟨hD.out.1,by rw[hD.out.2.1,g0.out];simp,fun k hk=>hD.out.2.2 k (by omega)⟩,Aa (b.out.owns ho.out),Aa (fun x J=>⟨b.out.owns (hs.out x J).1,(hs.out x J).2⟩),Aa (f0.out.ext b.out),Aa (hC.out.trans (Chg.of_ext b.out _) fun _ _ h=>h)⟩
     case measure=>simp only[intOf];omega
    | false =>
     go_wp2_with fail;rw[<-hW,<-m0];clear hW m0;refine T.out.mono ?_;rintro e w4 ⟨rfl,b⟩;have x0:=b.cell q0;have x1:=b.cell q1;have x2:=b.cell q2;replace b:=Aa (e0.out.trans b);have f2:=Aa (b.out.owns ho.out);obtain⟨g',o',o0,y0,y1,y2⟩:=AR (Cells.of_own f2.out) hy;cases o0;rw[Nat.zero_add]at y0 y1 y2;have o3:=(H.out.ext b.out).free;go_wp2_with fail;go_roundw
     case rel =>
      obtain⟨w5,h2⟩:=Ab (((w4.setCell ⟨g,i*3,none⟩ (.int .i64 sq)).setCell ⟨g,i*3+1,none⟩ (.int .i64 at_)).setCell ⟨g,i*3+2,none⟩ (.slice xA m xc));have r0:Chg (fun k=>k=g) w4 w5:=by
       rw[h2];exact((Chg.of_set (S:=fun k=>k=g) w4 (a:=⟨g,i*3,none⟩) _ rfl).trans (Chg.of_set (S:=fun k=>k=g) _ (a:=⟨g,i*3+1,none⟩) _ rfl) fun _ _ h=>h).trans (Chg.of_set (S:=fun k=>k=g) _ (a:=⟨g,i*3+2,none⟩) _ rfl) fun _ _ h=>h
      have b3:w5.ownsRow base 71 3 (.slice (some ⟨g,0,none⟩) n c) n (dcells (D.set i ⟨sq,⟨at_,fs⟩,xA,xc⟩)):=by
       rw[h2,<-G.out];exact M7 (M7 (M7 f2.out _ _) _ _) _ _
      have h3:∀k t cs,Row w4 k t cs->t≠71->¬ k=g:=fun k t cs hk ht=>Row.unlike hk (H.out.ext b.out) ht;rw[<-h2];have I:i<D.length:=by rw[hD.out.1];omega
      refine⟨i+1,j+1,D.set i ⟨sq,⟨at_,fs⟩,xA,xc⟩,rfl,by go_num,by omega,by omega,Aa ⟨by rw[List.length_set];exact hD.out.1,?_,fun k hk=>by rw[List.getElem?_set,if_neg (by omega)];exact hD.out.2.2 k (by omega)⟩,Aa b3,Aa fun x J=>⟨r0.owns (b.out.owns (hs.out x J).1) fun k hk=>?_,(hs.out x J).2⟩,Aa (r0.row (f0.out.ext b.out) (h3 _ _ _ (f0.out.ext b.out) (by decide))),Aa ((hC.out.trans (Chg.of_ext b.out _) fun _ _ h=>h).trans r0 fun k _ h=>by rw[h];exact a2)⟩
      ·rw[g0.out,<-hD.out.2.1,List.take_add_one,List.getElem?_set,if_pos rfl,if_pos I,List.take_set,List.set_eq_of_length_le (by rw[List.length_take];omega)];rfl
      ·obtain⟨cs,hr,_⟩:=Ae (b.out.owns (hs.out x J).1) hk;exact h3 _ _ _ hr (by decide)
     case measure=>simp only[intOf];omega
   ·obtain rfl:j=n:=by omega
    have Z:D.take i=l.filter (keepD fl):=by rw[m1,List.take_of_length_le (by rw[<-hn.out];exact Nat.le_refl _)]
    have f3:cur.size=c*3:=by
     rcases ho.out.2 with ⟨hv,_⟩ | ⟨_,_,cur',hv,_,m3,_,_,d3,_⟩
     ·cases hv
     ·cases hv;have:=H.symm.trans m3;injection this with this;injection this with this;rw[this];exact d3
    have x3:=n0.1;obtain⟨vs,m2⟩:=S3 wr g (i*3) (j - i) (c - i) (by omega) (fun q hq=>by rw[H.get,Array.getElem?_eq_getElem (by omega)];rfl) (fun q _=>H.free _);have v0:=TY vs (i*3) wr (Tq ho.out (i:=i) (by omega) (by simp)) (Nat.le_refl _);rw[show (dcells D).take (i*3)=dcells (D.take i)from(Bh (f:=DocC.cells) (k:=3) (fun _=>rfl) D i).symm,Z]at v0;have I:i=(l.filter (keepD fl)).length:=by rw[<-Z,List.length_take,j1];omega
    have h1:=TT (g:=g) vs (i*3) wr;have l0:∀x∈l.filter (keepD fl),x.e.Own (wr.setCells g (i*3) vs) base x.A x.c:=fun x J=>by
     have J:=(List.mem_filter.1 J).1;refine⟨h1.owns (hs.out x J).1 fun k hk=>?_,(hs.out x J).2⟩;obtain⟨cs,hr,_⟩:=Ae (hs.out x J).1 hk;exact Row.unlike hr H (by decide)
    have d0:Chg (fun k=>base<=k) w (wr.setCells g (i*3) vs):=hC.out.trans h1 fun k _ h=>by rw[h];exact a2
    obtain⟨Wc,j2⟩:=Ab (wr.setCells g (i*3) vs);rw[<-j2]at m2 v0 l0 d0;have e3:=fun W:World=>Tg (g:=g) (n:=j) (c:=c) (k:=i) (by omega) x3 W;obtain⟨ji,o1⟩:=Ab (j - i);obtain⟨ci,d1⟩:=Ab (c - i);rw[<-o1,<-d1]at m2 e3;replace v0:=Aa v0;replace l0:=Aa l0;replace d0:=Aa d0;replace H:=Aa H;replace I:=Aa I;replace hD:=Aa hD;replace o1:=Aa o1;replace d1:=Aa d1;clear j2 h1 Z j1 m1 p1 f3;go_wp2_with fail;go_ret;exact⟨some ⟨g,0,none⟩,i,c,rfl,I.out,⟨by rw[<-I.out];exact v0.out,l0.out,fun x J=>i1.out x (List.mem_filter.1 J).1⟩,d0.out⟩
end
section
open Go.RowKit Go.Maps
def keepP (fl:Int) (d:Dc):Bool:= !decide (d.2.at_<fl)
def docsM (fl:Int) (Ps:List (List Dc)):List Dc:=Ps.flatten.filter (keepP fl)
theorem S5 (fl:Int) (l:List DocC):dcs (l.filter (keepD fl))=(dcs l).filter (keepP fl):=by
 unfold dcs;rw[List.filter_map];rfl
theorem DocsOwn.app {base c c2 c8:Nat} {B A2 A8:Option Addr} {l l2:List DocC} (h:DocsOwn w base B c l) (h2:DocsOwn w base A2 c2 l2)
 (U:w8.ownsRow base 71 3 (.slice A8 (l.length+l2.length) c8) (l.length+l2.length) (dcells l++dcells l2)) (J:w.grownBy w8 (Value.slice B l.length c).ownBlock):DocsOwn w8 base A8 c8 (l++l2):=by
 have a:Chg (fun k'=>(Value.slice B l.length c).ownBlock=some k') w w8:=Chg.of_grown J fun k' _ Y=>Y;refine⟨by rw[List.length_append];unfold dcells;rw[List.flatMap_append];exact U,fun y j=>?_,fun y j=>?_⟩
 ·have b:y.e.Own w base y.A y.c:=by rcases List.mem_append.1 j with j | j;exact h.each y j;exact h2.each y j
  exact⟨a.owns b.1 fun g' H=>by obtain⟨cs,O,_⟩:=Ae b.1 H;exact Am h.own O (by decide),b.2⟩
 ·rcases List.mem_append.1 j with j | j
  ·exact h.ints y j
  ·exact h2.ints y j
theorem S4 (l:List DocC):∀u∈dcells l,u.oneCell'=true:=fun u j=>by
 unfold dcells at j;obtain⟨x,_,h⟩:=List.mem_flatMap.1 j;unfold DocC.cells at h;simp only[List.mem_cons,List.not_mem_nil,or_false]at h;rcases h with rfl | rfl | rfl <;> rfl
def MdA (w:World) (fl:Int) (r:Option (List (List Dc))) (e:Ending) (w':World):Prop:=Ext w w'/\match r with
 | some Ps=>∃(l:List DocC) (A:Option Addr) (n c:Nat),dcs l=docsM fl Ps/\n=l.length/\e = .returned (.tuple #[.slice A n c,.int .i64 0])/\DocsOwn w' w.heap.size A c l
 | none=>e = .returned (.tuple #[.slice none 0 0,.int .i64 330])
theorem MdA.no {r:Option (List (List Dc))} (j:Ext w w') (h:r=none):MdA w fl r (.returned (.tuple #[.slice none 0 0,.int .i64 330])) w':=by subst h;exact⟨j,rfl⟩
theorem S6 {Ps:List (List Dc)} (h:mergeD bs=some Ps):Ps.length<=bs.length:=by
 unfold mergeD at h;split at h
 ·rename_i Qs j;split at h
  ·injection h with h;subst h;exact TJ j
  ·cases h
 ·cases h
theorem Te (bs:List BsC) (A:Option Addr) (n c:Nat) (fl:Int) (w:World) (hn:n=bs.length) (h:BssR w A bs) (m2:n<=10) :
 Calls prog 10 #[.int .i64 fl,.slice A n c] w (MdA w fl (mergeD (bs.map BsC.b))):=by
 obtain⟨W,hW⟩:=Ab (w.alloc (.cells #[.int .i64 fl] 3));have Y:Ext w W:=by rw[hW];exact(Ext.refl w).alloc _
 have T:Row W w.heap.size 3 #[.int .i64 fl]:=by rw[hW];exact Row.new w _ _
 have O:=S7 bs A n c W hn (h.ext Y) (by omega);obtain⟨Z,hZ⟩:=Ab (mergeD (bs.map BsC.b));rw[<-hZ]at O ⊢;have hlen:∀Ps,Z=some Ps->Ps.length<=10:=fun Ps hp=>by
  have:=S6 (hZ.symm.trans hp);rw[List.length_map,<-hn]at this;omega
 obtain⟨fb,G⟩:=Ab w.heap.size;rw[<-G]at T;have q2:=Aa G;replace O:=Aa O;replace hlen:=Aa hlen;replace T:=Aa T;replace Y:=Aa Y;clear hZ h hn
 go_in
 go_wp2_with fail;rw[<-hW,<-G];clear hW G;refine O.out.mono ?_;rintro e w1 ⟨H,hr⟩;cases Z with
 | none =>
  simp only at hr;subst hr;go_wp2_with fail;go_ret2;exact MdA.no (Y.out.trans H) rfl
 | some Ps =>
  obtain⟨l,B,k,d,hl,hk,rfl,hs⟩:=hr;have k2:k<=10:=by rw[hk];have:=hlen.out Ps rfl;rw[<-hl,List.length_map]at this;exact this
  have f1:=Aa SS;have e0:=Aa Ti;have i0:=Aa (T.out.ext H);replace H:=Aa (Y.out.trans H);have y1:=hk;replace hs:=Aa hs;replace hl:=Aa hl;replace hk:=Aa hk;clear hlen T Y O y1;go_wp2_with fail
  go_loopw [8,21] (fun s8 s21 wr=>∃(i m q:Nat) (C:Option Addr) (D:List DocC),s8 = .slice C m q/\s21 = .int .i64 (i:Int)/\i<=k/\m<=i*65536/\Hid (m=D.length)/\Hid (dcs D=((l.take i).map (·.2)).flatten)/\Hid (DocsOwn wr w1.heap.size C q D)/\Hid (Ext w1 wr)) (fun _ s21 _=>k - (intOf s21).toNat)
  case atStart=>exact⟨0,0,0,none,[],rfl,rfl,by omega,by omega,Aa rfl,Aa rfl,Aa (DocsOwn.nil _ _),Aa (Ext.refl _)⟩
  case round =>
   obtain⟨i,m,q,C,D,rfl,rfl,hi,hm,U,hD,ho,hE⟩:=hrel;by_cases x1:i<k
   ·obtain⟨x,hx⟩:∃x,l[i]? = some x:=⟨_,List.getElem?_eq_getElem (by rw[<-hk.out];exact x1)⟩
    obtain⟨l0,c0⟩:=(hs.out.ext hE.out).2 x (List.mem_of_getElem? hx);obtain⟨g,o,rfl,hc⟩:=(hs.out.ext hE.out).1.at_ (by rw[List.length_map,<-hk.out];omega);have k0:=hc i x.val (by rw[List.getElem?_map,hx];rfl);have y0:=f1.out x.1 x.2 wr l0 c0;have y2:=c0.sm.seg.n;have x0:((l.take (i+1)).map (·.2)).flatten=((l.take i).map (·.2)).flatten++x.2:=by
     rw[List.take_add_one,hx,List.map_append,List.flatten_append];congr 1;show [x.2].flatten=_;rw[List.flatten_cons,List.flatten_nil,List.append_nil]
    unfold Sg.val at k0;replace y0:=Aa y0;replace x0:=Aa x0;clear hc hx l0 c0;go_wp2_with fail;refine y0.out.mono ?_;rintro e w4 ⟨J,l4,A4,c4,h0,rfl,q0⟩;obtain⟨m4,a⟩:=Ab l4.length;have j2:m4<=65536:=by rw[a];have:(dcs l4).length=l4.length:=List.length_map ..;rw[h0]at this;omega
    rw[<-a];have f0:=Aa (ho.out.ext J);have j:=f0.out.own;rw[<-U.out]at j;replace q0:=Aa (q0.lower hE.out.size);have g0:(dcells l4).length=m4*3:=by rw[Er,a]
    have j1:m+m4<=4294967296:=by omega
    have i1:w1.heap.size<=w4.heap.size:=(hE.out.trans J).size;replace J:=Aa (hE.out.trans J);replace j:=Aa j;replace g0:=Aa g0;replace a:=Aa a;replace h0:=Aa h0;go_wp2_with (at_builtin;refine AV (m:=m4) MQ j.out q0.out.ok.cells (.tmp 25) (.tmp 27) rfl rfl rfl rfl rfl g0.out (S4 _) j1 i1 (fun A8 c8 w8 v0 I a1=>?_);replace v0:=Aa v0;replace I:=Aa I;clear a1);have p1:Ext w1 w8:=J.out.grown I.out fun k hk=>by obtain⟨_,_,hb⟩:=Ae j.out hk;exact hb
    have d0:=f0.out.app q0.out (A8:=A8) (c8:=c8) (w8:=w8) (by rw[<-U.out,<-a.out];exact v0.out) (by rw[<-U.out];exact I.out);go_roundw
    case rel=>exact⟨i+1,m+m4,c8,A8,D++l4,rfl,by go_num,by omega,by omega,Aa (by rw[List.length_append,<-U.out,<-a.out]),Aa (by rw[x0.out,<-hD.out,<-h0.out];unfold dcs;rw[List.map_append]),Aa d0,Aa p1⟩
    case measure=>simp only[intOf];omega
   ·have j0:dcs D=Ps.flatten:=by rw[hD.out,List.take_of_length_le (by rw[<-hk.out];omega),hl.out]
    have m1:=Aa (e0.out D C m q fb w1.heap.size fl wr U.out ho.out (i0.out.ext hE.out) hE.out.size (by omega));replace j0:=Aa j0;clear e0;go_wp2_with fail;refine m1.out.mono ?_;rintro e w5 ⟨A5,n5,c5,rfl,m0,t0,h1⟩;replace m0:=Aa m0;replace t0:=Aa t0;go_wp2_with fail;go_ret2;have q1:Ext w1 w5:=hE.out.chg h1 fun k hk h=>by omega
    exact⟨H.out.trans q1,D.filter (keepD fl),A5,n5,c5,by rw[S5,j0.out];rfl,m0.out,rfl,t0.out.lower H.out.size⟩
def MrA (w:World) (fl:Int) (r:Option (List (List Dc))) (e:Ending) (w':World):Prop:=match r with
 | some Ps=>if docsM fl Ps = [] then e = .returned (.tuple #[.slice none 0 0,.int .i64 7])/\Ext w w' else OkB w (segL (docsM fl Ps)) e w'
 | none=>e = .returned (.tuple #[.slice none 0 0,.int .i64 330])/\Ext w w'
theorem TK (bs:List BsC) (A:Option Addr) (n c:Nat) (fl:Int) (w:World) (hn:n=bs.length) (h:BssR w A bs) (k0:n<=10) (J:∀Ps,mergeD (bs.map BsC.b)=some Ps->docsM fl Ps ≠ []->SmP (docsM fl Ps)) :
 Calls prog 8 #[.int .i64 fl,.slice A n c] w (MrA w fl (mergeD (bs.map BsC.b))):=by
 have G:=Aa (Te bs A n c fl w hn h k0);obtain⟨Z,hZ⟩:=Ab (mergeD (bs.map BsC.b));rw[<-hZ]at G J ⊢;have T:=Aa CY;replace J:=Aa J;clear hZ h hn
 go_in
 go_wp2_with fail;refine G.out.mono ?_;rintro e w1 ⟨Y,hr⟩;cases Z with
 | none =>
  simp only at hr;subst hr;go_wp2_with fail;go_ret2;exact⟨rfl,Y⟩
 | some Ps =>
  obtain⟨l,B,k,d,U,hk,rfl,O⟩:=hr;by_cases h0:k=0
  ·have j:docsM fl Ps = []:=by rw[<-U,List.length_eq_zero_iff.1 (hk.symm.trans h0)];rfl
   subst h0;replace j:=Aa j;replace U:=Aa U;replace hk:=Aa hk;replace O:=Aa O;go_wp2_with fail;go_ret2;unfold MrA;simp only;rw[if_pos j.out];exact⟨rfl,Y⟩
  ·have j:¬ docsM fl Ps = []:=fun e=>h0 (by rw[<-U]at e;rw[hk];have:=congrArg List.length e;unfold dcs at this;rw[List.length_map]at this;exact this);have m0:((k:Int)==0)=false:=beq_eq_false_iff_ne.2 (by omega);have H:=O.cap;rw[<-hk]at H;have a:=T.out l B k d w1 hk O.ok H.2 H.1 (by rw[U];exact J.out Ps rfl j) (by omega);rw[U]at a;replace a:=Aa a;replace j:=Aa j;replace U:=Aa U;replace hk:=Aa hk;replace O:=Aa O;clear T;go_wp2_with fail;refine a.out.mono ?_;rintro e w2 ⟨A2,c2,rfl,I,p0⟩;go_wp2_with fail;go_ret2;unfold MrA;simp only;rw[if_neg j.out];exact⟨A2,c2,rfl,⟨I.1,I.2.lower Y.size⟩,Y.trans p0⟩
end
section
open Go.RowKit Go.Maps
theorem Ue {P:List Dc} {d:Dc} (h:P[k]? = some d) (fl:Int):(P.take (k+1)).filter (keepP fl)=(P.take k).filter (keepP fl)++if keepP fl d=true then [d] else []:=by
 rw[List.take_add_one,h,List.filter_append];congr 1;show List.filter (keepP fl) [d]=_;rw[List.filter_cons];rfl
def RdA (w:World) (fl:Int) (r:Option (List (List Dc))) (e:Ending) (w':World):Prop:=Ext w w'/\match r with
 | some Ps=>∃(l:List DocC) (A:Option Addr) (n c:Nat),dcs l=docsM fl Ps/\n=l.length/\e = .returned (.tuple #[.slice A n c,.int .i64 0])/\DocsOk w' A l/\n<=1000000
 | none=>e = .returned (.tuple #[.slice none 0 0,.int .i64 330])
theorem RdA.no {r:Option (List (List Dc))} (j:Ext w w') (h:r=none):RdA w fl r (.returned (.tuple #[.slice none 0 0,.int .i64 330])) w':=by subst h;exact⟨j,rfl⟩
theorem TL (bs:List BsC) (A:Option Addr) (n c:Nat) (fl:Int) (w:World) (hn:n=bs.length) (h:BssR w A bs) (p2:n<=10) :
 Calls prog 11 #[.int .i64 fl,.slice A n c] w (RdA w fl (mergeD (bs.map BsC.b))):=by
 have T:=Ug bs A n c w hn h (by omega);obtain⟨Z,hZ⟩:=Ab (mergeD (bs.map BsC.b));rw[<-hZ]at T ⊢;have hlen:∀Ps,Z=some Ps->Ps.length<=10:=fun Ps hp=>by
  have:=S6 (hZ.symm.trans hp);rw[List.length_map,<-hn]at this;omega
 replace T:=Aa T;replace hlen:=Aa hlen;clear hZ h hn
 go_in
 go_wp2_with fail;refine T.out.mono ?_;rintro e w1 ⟨I,hr⟩;clear T;cases Z with
 | none =>
  obtain⟨v,rfl⟩:=hr;go_wp2_with fail;go_ret2;exact RdA.no I rfl
 | some Ps =>
  obtain⟨l,B,k,d,hl,hk,rfl,t0,h0⟩:=hr;have o1:k<=10:=by rw[hk];have:=hlen.out Ps rfl;rw[<-hl,List.length_map]at this;exact this
  replace hl:=Aa hl;replace hk:=Aa hk;replace t0:=Aa t0;replace h0:=Aa h0;replace I:=Aa I;clear hlen;go_wp2_with fail
  go_loopw [8,9] (fun s8 s9 wr=>∃(i m q:Nat) (C:Option Addr) (D:List DocC),s8 = .slice C m q/\s9 = .int .i64 (i:Int)/\i<=k/\m<=i*65536/\Hid (m=D.length)/\Hid (dcs D=docsM fl ((l.take i).map DrC.ds))/\Hid (wr.ownsRow w1.heap.size 71 3 (.slice C m q) m (dcells D))/\Hid (∀x∈D,∃y∈l,x∈y.l)/\Hid (Ext w1 wr)) (fun _ s9 _=>k - (intOf s9).toNat)
  case atStart=>exact⟨0,0,0,none,[],rfl,rfl,by omega,by omega,Aa rfl,Aa rfl,Aa ⟨rfl,.inl ⟨rfl,rfl⟩⟩,Aa nofun,Aa (Ext.refl _)⟩
  case round =>
   obtain⟨i,m,q,C,D,rfl,rfl,hi,hm,J,hD,ho,Y,O⟩:=hrel;by_cases j1:i<k
   ·obtain⟨x,hx⟩:∃x,l[i]? = some x:=⟨_,List.getElem?_eq_getElem (by rw[<-hk.out];exact j1)⟩
    have n0:=List.mem_of_getElem? hx;obtain⟨p0,d1⟩:=h0.out x n0;obtain⟨g,o,rfl,hc⟩:=t0.out.at_ (by rw[List.length_map,<-hk.out];omega);have k0:=hc i x.val (by rw[List.getElem?_map,hx];rfl);unfold DrC.val at k0;have y0:docsM fl ((l.take (i+1)).map DrC.ds)=docsM fl ((l.take i).map DrC.ds)++x.ds.filter (keepP fl):=by
     unfold docsM;rw[List.take_add_one,hx,List.map_append,List.flatten_append,List.filter_append];congr 2;show [x.ds].flatten=_;rw[List.flatten_cons,List.flatten_nil,List.append_nil]
    obtain⟨xn,U⟩:=Ab x.l.length;rw[<-U]at k0 d1;obtain⟨xl,xA,xc⟩:=x;simp only at k0 p0 U;have f0:=Aa (show dcs D=docsM fl ((l.take i).map DrC.ds)++((dcs xl).take 0).filter (keepP fl)by rw[List.take_zero];show _=_ ++ [];rw[List.append_nil];exact hD.out);replace y0:=Aa y0;replace U:=Aa U;replace p0:=Aa p0;replace hx:=Aa hx;have k00:=Aa k0;clear hc hD k0;obtain⟨wo,rfl⟩:=Ab wr;go_wp2_with fail
    go_loopw [8,10] (fun s8 s10 wi=>∃(j m' q:Nat) (C:Option Addr) (D:List DocC),s8 = .slice C m' q/\s10 = .int .i64 (j:Int)/\j<=xn/\m'<=m+j/\Hid (m'=D.length)/\Hid (dcs D=docsM fl ((l.take i).map DrC.ds)++((dcs xl).take j).filter (keepP fl))/\Hid (wi.ownsRow w1.heap.size 71 3 (.slice C m' q) m' (dcells D))/\Hid (∀x∈D,∃y∈l,x∈y.l)/\Hid (Ext w1 wi)) (fun _ s10 _=>xn - (intOf s10).toNat)
    case atStart=>exact⟨0,m,q,C,D,rfl,rfl,by omega,by omega,J,f0,ho,Y,O⟩
    case round =>
     clear J f0 ho Y O;obtain⟨j,m',q,C,D,rfl,rfl,hj,h2,J,hD,ho,Y,O⟩:=hrel;have k0:=O.out.cell k00.out;by_cases m1:j<xn
     ·obtain⟨y,hy⟩:∃y,xl[j]? = some y:=⟨_,List.getElem?_eq_getElem (by rw[<-U.out];exact m1)⟩
      obtain⟨gy,oy,rfl,q0,q1,q2⟩:=AR (p0.out.cells.ext O.out) hy;have o0:(dcs xl)[j]? = some y.dc:=by unfold dcs;rw[List.getElem?_map,hy];rfl
      have H:=Ue o0 fl;have G:y∈xl:=List.mem_of_getElem? hy;have d0:keepP fl y.dc = !decide (y.e.at_<fl):=rfl;obtain⟨sq,⟨at_,fs⟩,yA,yc⟩:=y;simp only at q0 q1 q2 d0;obtain⟨yn,j0⟩:=Ab fs.length;rw[<-j0]at q2;replace j0:=Aa j0;replace G:=Aa G;rw[d0]at H;clear hy o0 d0;by_cases l0:at_<fl
      ·rw[decide_eq_true l0]at H;replace H:=Aa H;go_wp2_with fail;go_roundw
       case rel=>exact⟨j+1,m',q,C,D,rfl,by go_num,by omega,by omega,J,Aa (by rw[hD.out,H.out];simp),ho,Y,O⟩
       case measure=>simp only[intOf];omega
      ·rw[decide_eq_false l0]at H;replace H:=Aa H;have y1:=O.out.size;go_wp2_with (at_builtin;refine AS (us:= [.int .i64 sq,.int .i64 at_,.slice yA yn yc]) (m:=1) MQ ho.out rfl (.tmp 44) (.tmp 52) rfl rfl rfl rfl rfl (Az rfl) (by omega) y1 (fun A8 c8 w8 x0 v0 x1=>?_);replace x0:=Aa x0;replace v0:=Aa v0;clear x1);have p1:Ext w1 w8:=O.out.grown v0.out fun k hk=>by obtain⟨_,_,hb⟩:=Ae ho.out hk;exact hb
       have i0:∀z∈D ++ [(⟨sq,⟨at_,fs⟩,yA,yc⟩:DocC)],∃y∈l,z∈y.l:=fun z hz=>by
        rcases List.mem_append.1 hz with hz | hz
        ·exact Y.out z hz
        ·rw[List.mem_singleton.1 hz];exact⟨_,n0,G.out⟩
       go_roundw
       case rel=>exact⟨j+1,m'+1,c8,A8,D ++ [⟨sq,⟨at_,fs⟩,yA,yc⟩],rfl,by go_num,by omega,by omega,Aa (by rw[List.length_append,<-J.out];rfl),Aa (by rw[BJ,hD.out,H.out,List.append_assoc];rfl),Aa (by rw[FX];show World.ownsRow _ _ _ _ _ _ (_ ++ [.int .i64 sq,.int .i64 at_,.slice yA fs.length yc]);rw[<-j0.out];exact x0.out),Aa i0,Aa p1⟩
       case measure=>simp only[intOf];omega
     ·have a:dcs D=docsM fl ((l.take (i+1)).map DrC.ds):=by
       have a1:(dcs xl).take j=dcs xl:=List.take_of_length_le (by unfold dcs;rw[List.length_map,<-U.out];omega);rw[hD.out,y0.out,a1];rfl
      replace a:=Aa a;go_wp2_with fail;go_roundw
      case rel=>exact⟨i+1,m',q,C,D,rfl,by go_num,by omega,by omega,J,a,ho,Y,O⟩
      case measure=>simp only[intOf];omega
   ·have a:dcs D=docsM fl Ps:=by rw[hD.out,List.take_of_length_le (by rw[<-hk.out];omega),hl.out]
    replace a:=Aa a;go_wp2_with fail;go_ret2;refine⟨I.out.trans O.out,D,C,m,q,a.out,J.out,rfl,⟨Cells.of_own ho.out,fun x hx=>?_⟩,by omega⟩;obtain⟨y,hy,G⟩:=Y.out x hx;have:=((h0.out y hy).1.ext O.out).each x G;exact this
theorem T4 (bs:List BsC) (A:Option Addr) (n c:Nat) (fl:Int) (w:World) (hn:n=bs.length) (h:BssR w A bs) (p0:n<=10) (Y:∀Ps,mergeD (bs.map BsC.b)=some Ps->docsM fl Ps ≠ []->SmP (docsM fl Ps)) :
 Calls prog 9 #[.int .i64 fl,.slice A n c] w (MrA w fl (mergeD (bs.map BsC.b))):=by
 have O:=Aa (TL bs A n c fl w hn h p0);obtain⟨Z,hZ⟩:=Ab (mergeD (bs.map BsC.b));rw[<-hZ]at O Y ⊢;have U:=Aa H7;replace Y:=Aa Y;clear hZ h hn
 go_in
 go_wp2_with fail;refine O.out.mono ?_;rintro e w1 ⟨H,hr⟩;cases Z with
 | none =>
  simp only at hr;subst hr;go_wp2_with fail;go_ret2;exact⟨rfl,H⟩
 | some Ps =>
  obtain⟨l,B,k,d,J,hk,rfl,T,m0⟩:=hr;by_cases I:k=0
  ·have j:docsM fl Ps = []:=by rw[<-J,List.length_eq_zero_iff.1 (hk.symm.trans I)];rfl
   subst I;replace j:=Aa j;replace J:=Aa J;replace hk:=Aa hk;replace T:=Aa T;go_wp2_with fail;go_ret2;unfold MrA;simp only;rw[if_pos j.out];exact⟨rfl,H⟩
  ·have j:¬ docsM fl Ps = []:=fun e=>I (by rw[<-J]at e;rw[hk];have:=congrArg List.length e;unfold dcs at this;rw[List.length_map]at this;exact this);have g0:((k:Int)==0)=false:=beq_eq_false_iff_ne.2 (by omega);have a:=U.out l B k d w1 hk T (by rw[J];exact Y.out Ps rfl j) (by omega);rw[J]at a;replace a:=Aa a;replace j:=Aa j;replace J:=Aa J;replace hk:=Aa hk;replace T:=Aa T;clear U;go_wp2_with fail;refine a.out.mono ?_;rintro e w2 ⟨A2,c2,rfl,G,q0⟩;go_wp2_with fail;go_ret2;unfold MrA;simp only;rw[if_neg j.out];exact⟨A2,c2,rfl,⟨G.1,G.2.lower H.size⟩,H.trans q0⟩
end
section
open Go.RowKit Go.Maps
abbrev risP (lo:Int) (l:List Dc):Bool:=risB 1099511627777 lo (l.map (·.1))
theorem TF {x:Dc} {t:List Dc}:risP lo (x::t)=true↔(lo<x.1/\x.1<1099511627777)/\risP x.1 t=true:=by
 unfold risP;rw[List.map_cons,risB];simp only[Bool.and_eq_true,decide_eq_true_eq]
theorem Un:∀ {l:List Dc} {a b:Int},a<=b->risP b l=true->risP a l=true
 | [],_,_,_,_=>rfl
 | x::t,a,b,h,j=>by
  rw[TF]at j ⊢;exact⟨⟨by omega,j.1.2⟩,j.2⟩
theorem T9:∀ {a b:List Dc} {lo:Int},risP lo a=true->risP (lastD lo a) b=true->risP lo (a++b)=true
 | [],_,_,_,h=>h
 | x::t,b,lo,j,hb=>by
  rw[TF]at j;show risP lo (x::(t++b))=true;rw[TF];exact⟨j.1,T9 j.2 hb⟩
theorem TG (p:Dc->Bool):∀ {l:List Dc} {lo:Int},risP lo l=true->risP lo (l.filter p)=true
 | [],_,_=>rfl
 | x::t,lo,h=>by
  rw[TF]at h;rw[List.filter_cons];split
  ·rw[TF];exact⟨h.1,TG p h.2⟩
  ·exact Un (by omega) (TG p h.2)
theorem T0:∀ {Ps:List (List Dc)} {la:Int},(∀P∈Ps,risP 0 P=true/\0<P.length)->chainD la Ps=true->risP la Ps.flatten=true
 | [],_,_,_=>rfl
 | []::Ps,_,h,_=>absurd (h [] (List.mem_cons_self ..)).2 (by simp)
 | (x::t)::Ps,la,h,hc=>by
  have h1:=(h _ (List.mem_cons_self ..)).1;rw[TF]at h1;unfold chainD at hc;rw[Bool.and_eq_true,decide_eq_true_eq]at hc;rw[List.flatten_cons];exact T9 (by rw[TF];exact⟨⟨hc.1,h1.1.2⟩,h1.2⟩) (T0 (fun P j=>h P (List.mem_cons_of_mem _ j)) hc.2)
def wtD (l:List Dc):Nat:=(l.map fun d=>(putE d.2).length).sum
theorem TH (x:Dc) (t:List Dc):wtD (x::t)=(putE x.2).length+wtD t:=by unfold wtD;rw[List.map_cons,List.sum_cons]
theorem TQ:∀(l:List Dc) (lo:Int),l.length+wtD l<=(blockD lo l).length
 | [],lo=>Nat.le_refl _
 | x::t,lo=>by
  have ih:=TQ t x.1;have:=Qi (x.1 - lo - 1).toNat;show _<=(oneD lo x++blockD x.1 t).length;unfold oneD;rw[TH,List.length_append,List.length_append,List.length_cons];omega
theorem TS:∀(l:List Dc) (lo:Int),-1<=lo->risP lo l=true->(blockD lo l).length<=6*l.length+wtD l
 | [],lo,_,_=>Nat.zero_le _
 | x::t,lo,j,h=>by
  rw[TF]at h;have ih:=TS t x.1 (by omega) h.2;have:=Qj (n:=(x.1 - lo - 1).toNat) (k:=6) (by have:(128:Nat)^6=4398046511104:=rfl;omega) (by omega);show (oneD lo x++blockD x.1 t).length<=_;unfold oneD;rw[TH,List.length_append,List.length_append,List.length_cons];omega
theorem Ui:∀(l:List Dc),2*l.length<=wtD l
 | []=>Nat.zero_le _
 | x::t=>by
  have ih:=Ui t;have h1:=Qi (zig x.2.at_);have h2:=Qi x.2.fs.length;rw[TH,List.length_cons];unfold putE;rw[List.length_append,List.length_append];omega
theorem Ut (a b:List Dc):wtD (a++b)=wtD a+wtD b:=by unfold wtD;rw[List.map_append,List.sum_append]
theorem TP (p:Dc->Bool):∀(l:List Dc),(l.filter p).length<=l.length/\wtD (l.filter p)<=wtD l
 | []=>⟨Nat.le_refl _,Nat.le_refl _⟩
 | x::t=>by
  have ih:=TP p t;rw[List.filter_cons,TH];split
  ·rw[TH,List.length_cons,List.length_cons];omega
  ·rw[List.length_cons];omega
theorem Ud:∀(Ps:List (List Dc)),(∀P∈Ps,P.length+wtD P<=k)->Ps.flatten.length+wtD Ps.flatten<=Ps.length*k
 | [],_=>Nat.zero_le _
 | P::Ps,h=>by
  have ih:=Ud Ps fun Q j=>h Q (List.mem_cons_of_mem _ j);have h1:=h P (List.mem_cons_self ..);rw[List.flatten_cons,Ut,List.length_append,List.length_cons,Nat.add_mul];omega
theorem Us {P:List Dc}:(blockD 0 P).length<=(segL P).length:=by
 have h1:=Ss (framesD P) (encDs P) (List.mem_cons_self ..);have h2:(segL P).length=4+(joinL (framesD P)).length:=by unfold segL;rw[List.length_append];rfl
 unfold encDs at h1;rw[List.length_append]at h1;omega
theorem Um {Ps:List (List Dc)} (h:opensD bs=some Ps):∀P∈Ps,∃b∈bs,openD b=some P:=fun P j=>by
 unfold opensD at h;split at h
 ·injection h with h;rw[<-h]at j;exact List.mem_filterMap.1 j
 ·cases h
theorem Ul {Ps:List (List Dc)} (h:mergeD bs=some Ps):opensD bs=some Ps/\chainD 0 Ps=true:=by
 unfold mergeD at h;split at h
 ·rename_i Qs b;split at h
  ·rename_i j;injection h with h;subst h;exact⟨b,j.2⟩
  ·cases h
 ·cases h
theorem T8 {Ps:List (List Dc)} (fl:Int) (hb:∀b∈bs,b.length<=5000) (hn:bs.length<=5) (h:mergeD bs=some Ps):SmP (docsM fl Ps):=by
 obtain⟨T,I⟩:=Ul h;have hl:=TJ T;have a:∀P∈Ps,(risP 0 P=true/\P.all okD=true)/\0<P.length/\P.length+wtD P<=5000:=fun P j=>by
  obtain⟨b,J,O⟩:=Um T P j;obtain⟨h1,h2,H⟩:=SB O;have G:=hb b J;rw[<-h2]at G;have h5:=TQ P 0;have h6:=Us (P:=P);unfold okDs at H;rw[Bool.and_eq_true,Bool.and_eq_true]at H;exact⟨H.2,h1,by omega⟩
 have hw:=Ud Ps fun P j=>(a P j).2.2;have Z:=TG (keepP fl) (T0 (fun P j=>⟨(a P j).1.1,(a P j).2.1⟩) I);have h2:=Ui Ps.flatten;have hf:=TP (keepP fl) Ps.flatten;have hs:=TS _ 0 (by omega) Z;have j:Ps.length*5000<=5*5000:=Nat.mul_le_mul_right _ (by omega);refine⟨?_,by unfold docsM;omega⟩;unfold okDs docsM;rw[Bool.and_eq_true,Bool.and_eq_true];refine⟨decide_eq_true (by omega),Z,List.all_eq_true.2 fun d hd=>?_⟩;obtain⟨P,Y,U⟩:=List.mem_flatten.1 (List.mem_filter.1 hd).1;exact List.all_eq_true.1 (a P Y).1.2 d U
end
section
open Go.RowKit
structure Pg where
  id:Int
  st:Int
  lo:Int
  hi:Int
  fi:Int
  la:Int
  n:Int
def Pg.cells (p:Pg):List Value:= [.int .i64 p.id,.int .i64 p.st,.int .i64 p.lo,.int .i64 p.hi,.int .i64 p.fi,.int .i64 p.la,.int .i64 p.n]
def gcells (ps:List Pg):List Value:=ps.flatMap Pg.cells
theorem TV (R:List Pg) (i:Nat) (r:Pg) (k:Nat) (h:R[i]? = some r) (hk:k<7):(gcells R)[i*7+k]? = r.cells[k]? :=AW (cellsA:=Pg.cells) (k:=7) (fun _=>rfl) R i r k h hk
structure GS (w:World) (A:Option Addr) (n c:Nat) (ps:List Pg):Prop where
  len:n=ps.length
  cells:Cells w A (gcells ps)
  cap:n<=c
  most:n<=9223372036854775807
  ok:∀p∈ps,I64ok' p.n
theorem GS.ext {ps:List Pg} (h:GS w A n c ps) (j:Ext w w1):GS w1 A n c ps:=⟨h.len,h.cells.ext j,h.cap,h.most,h.ok⟩
def Pg.val (p:Pg):Value:= .agg #[.int .i64 p.id,.int .i64 p.st,.int .i64 p.lo,.int .i64 p.hi,.int .i64 p.fi,.int .i64 p.la,.int .i64 p.n]
def PgAt (w:World) (g o:Nat) (p:Pg):Prop:=w.cell? ⟨g,o,none⟩=some (.int .i64 p.id)/\w.cell? ⟨g,o+1,none⟩=some (.int .i64 p.st)/\w.cell? ⟨g,o+2,none⟩=some (.int .i64 p.lo)/\w.cell? ⟨g,o+3,none⟩=some (.int .i64 p.hi)/\w.cell? ⟨g,o+4,none⟩=some (.int .i64 p.fi)/\w.cell? ⟨g,o+5,none⟩=some (.int .i64 p.la)/\w.cell? ⟨g,o+6,none⟩=some (.int .i64 p.n)
theorem GS.at_ {ps:List Pg} (h:GS w A n c ps) (hi:i<n):∃g s p,A=some ⟨g,s,none⟩/\ps[i]? = some p/\I64ok' p.n/\∀W,Ext w W->PgAt W g (s+i*7) p:=by
 obtain⟨p,b⟩:∃p,ps[i]? = some p:=⟨_,List.getElem?_eq_getElem (by rw[<-h.len];exact hi)⟩
 have H:=TV ps i p 0 b (by omega);obtain⟨g,s,Y,J⟩:=h.cells.at_ (by have:=(List.getElem?_eq_some_iff.1 H).1;omega);have q:∀k v W,Ext w W->p.cells[k]? = some v->W.cell? ⟨g,s+i*7+k,none⟩=some v:=fun k v W j a=>by
  rw[Nat.add_assoc];exact j.cell (J _ _ ((TV ps i p k b (List.getElem?_eq_some_iff.1 a).1).trans a))
 exact⟨g,s,p,Y,b,h.ok p (List.mem_of_getElem? b),fun W j=>⟨q 0 _ W j rfl,q 1 _ W j rfl,q 2 _ W j rfl,q 3 _ W j rfl,q 4 _ W j rfl,q 5 _ W j rfl,q 6 _ W j rfl⟩⟩
theorem GS.drop {g s n c:Nat} {ps:List Pg} (h:GS w (some ⟨g,s,none⟩) n c ps) (hk:k<=n):GS w (some ⟨g,s+k*7,none⟩) (n - k) (c - k) (ps.drop k):=by
 refine⟨by rw[List.length_drop,<-h.len],?_,by have:=h.cap;omega,by have:=h.most;omega,fun p Y=>h.ok p (List.mem_of_mem_drop Y)⟩;rw[show gcells (ps.drop k)=(gcells ps).drop (k*7)from Bo (f:=Pg.cells) (k:=7) (fun _=>rfl) ps k];rcases h.cells with b | ⟨g',o,a,H⟩
 ·exact .inl (by rw[b,List.drop_nil])
 ·cases a;exact .inr ⟨g,s+k*7,rfl,fun i v j=>by rw[List.getElem?_drop]at j;rw[Nat.add_assoc];exact H _ _ j⟩
def docsP (p:Pg):Int:=max 0 p.n
def takeG:Int->List Pg->Nat
 | _,[]=>0
 | m,p::t=>if p.st=2/\docsP p<=m then takeG (m - docsP p) t+1 else 0
theorem Ub:∀(l:List Pg) (m:Int),takeG m l<=l.length
 | [],_=>Nat.le_refl _
 | p::t,m=>by
  unfold takeG;have:=Ub t (m - docsP p);split
  ·rw[List.length_cons];omega
  ·exact Nat.zero_le _
theorem Up {l:List Pg} {p:Pg} {m:Int} (h:l[i]? = some p) (h1:p.st=2) (h2:docsP p<=m):takeG m (l.drop i)=takeG (m - docsP p) (l.drop (i+1))+1:=by
 obtain⟨hi,rfl⟩:=List.getElem?_eq_some_iff.1 h;rw[List.drop_eq_getElem_cons hi];exact if_pos ⟨h1,h2⟩
theorem Uc {l:List Pg} {p:Pg} {m:Int} (h:l[i]? = some p) (h1:¬ (p.st=2/\docsP p<=m)):takeG m (l.drop i)=0:=by
 obtain⟨hi,rfl⟩:=List.getElem?_eq_some_iff.1 h;rw[List.drop_eq_getElem_cons hi];exact if_neg h1
def rowG (a k:Nat):List Int:=(List.range k).map fun i=>((a+i:Nat):Int)
def grpG (m:Int) (a:Nat) (l:List Pg):List (List Int) :=
 if h:l = [] then [] else if takeG m l<2 then grpG m (a+1) (l.drop 1) else rowG a (takeG m l)::grpG m (a+takeG m l) (l.drop (takeG m l))
termination_by l.length
decreasing_by
 all_goals (have:=List.length_pos_iff.2 h;simp only[List.length_drop];omega)
theorem T5 {m:Int} {l:List Pg} {a n:Nat} (h:n<=a) (hn:n=l.length):grpG m a (l.drop a) = []:=by
 rw[grpG,dif_pos (List.drop_of_length_le (by omega))]
section
variable {m:Int} {l:List Pg} {a n:Nat} (h:a<n) (hn:n=l.length)
include h hn
theorem TX (h2:takeG m (l.drop a)<2):grpG m a (l.drop a)=grpG m (a+1) (l.drop (a+1)):=by
 rw[grpG,dif_neg (fun e=>by have:=congrArg List.length e;simp only[List.length_drop,List.length_nil]at this;omega),if_pos h2,List.drop_drop]
theorem T6 (h2:¬ takeG m (l.drop a)<2):grpG m a (l.drop a)=rowG a (takeG m (l.drop a))::grpG m (a+takeG m (l.drop a)) (l.drop (a+takeG m (l.drop a))):=by
 conv=>lhs;rw[grpG]
 rw[dif_neg (fun e=>by have:=congrArg List.length e;simp only[List.length_drop,List.length_nil]at this;omega),if_neg h2,List.drop_drop]
end
def costG:Int->List Pg->Int
 | s,[]=>s
 | s,p::t=>costG (min (s+docsP p) 1099511627776) t
structure IsC where
  xs:List Int
  A:Option Addr
  c:Nat
def IsC.val (x:IsC):Value:= .slice x.A x.xs.length x.c
structure IsOwn (w:World) (base:Nat) (A:Option Addr) (n c:Nat) (l:List IsC):Prop where
  own:w.ownsRow base 43 1 (.slice A n c) n (l.map IsC.val)
  each:∀x∈l,w.ownsRow base 3 1 x.val x.xs.length (x.xs.map IV)
theorem IsOwn.nil (w:World) (base:Nat):IsOwn w base none 0 0 []:=⟨⟨rfl,.inl ⟨rfl,rfl⟩⟩,nofun⟩
theorem IsOwn.ext {base n c:Nat} {l:List IsC} (h:IsOwn w base A n c l) (j:Ext w w'):IsOwn w' base A n c l:=⟨j.owns h.own,fun x b=>j.owns (h.each x b)⟩
theorem IsOwn.chg {base n c:Nat} {l:List IsC} (h:IsOwn w base A n c l) (j:Chg S w w') (a:∀g,(Value.slice A n c).ownBlock=some g->¬ S g) (H:∀x∈l,∀g,x.val.ownBlock=some g->¬ S g):IsOwn w' base A n c l:=⟨j.owns h.own a,fun x b=>j.owns (h.each x b) (H x b)⟩
theorem IsOwn.push {base n c c8:Nat} {B A8:Option Addr} {l:List IsC} {x:IsC} (h:IsOwn w base B n c l) (J:w.ownsRow base 3 1 x.val x.xs.length (x.xs.map IV))
 (O:w8.ownsRow base 43 1 (.slice A8 (n+1) c8) (n+1) (l.map IsC.val ++ [x.val])) (U:w.grownBy w8 (Value.slice B n c).ownBlock):IsOwn w8 base A8 (n+1) c8 (l ++ [x]):=by
 have b:Chg (fun k'=>(Value.slice B n c).ownBlock=some k') w w8:=Chg.of_grown U fun k' _ Y=>Y;have a:∀y:IsC,w.ownsRow base 3 1 y.val y.xs.length (y.xs.map IV)->∀g,y.val.ownBlock=some g->¬ (Value.slice B n c).ownBlock=some g:=fun y j g H=>by
  obtain⟨cs,T,_⟩:=Ae j H;exact Am h.own T (by decide)
 refine⟨by rw[List.map_append];exact O,fun y j=>?_⟩;rcases List.mem_append.1 j with j | j
 ·exact b.owns (h.each y j) (a y (h.each y j))
 ·rw[List.mem_singleton.1 j];exact b.owns J (a x J)
end
section
open Go.RowKit
theorem TW (p:Pg) (w:World):Calls prog 37 #[p.val] w fun e w'=>e = .returned (.int .i64 (docsP p))/\Ext w w':=by
 have h:=fun(W:World)=>Eg (P:=prog) #[3,3] 3 (x:=0) (y:=p.n) (m:=docsP p) rfl W;unfold Pg.val
 go_in
 go_wp2_with fail;go_ret;exact⟨rfl,(Ext.refl w).alloc _⟩
theorem TU (p:Pg) (h:I64ok' p.n):0<=docsP p/\docsP p<=9223372036854775807:=by unfold docsP I64ok' at *;omega
theorem Tn (A:Option Addr) (n c:Nat) (m:Int) (ps:List Pg) (w:World) (h:GS w A n c ps) (hm:I64ok' m) :
 Calls prog 35 #[.int .i64 m,.slice A n c] w fun e w'=>e = .returned (.int .i64 (takeG m ps:Nat))/\Ext w w':=by
 have hd:=Aa TW;have h0:=Aa h.len;have v0:=h.most;replace h:=Aa h
 go_in
 go_wp2_with fail
 go_loopw [0,5] (fun s0 s5 wr=>∃(i:Nat) (m':Int),s0 = .int .i64 m'/\s5 = .int .i64 (i:Int)/\i<=n/\I64ok' m'/\Hid (takeG m ps=i+takeG m' (ps.drop i))/\Hid (Ext w wr)) (fun _ s5 _=>n - (intOf s5).toNat)
 case atStart=>exact⟨0,m,rfl,rfl,by omega,hm,Aa (by rw[Nat.zero_add];rfl),Aa (Ext.refl _)⟩
 case round =>
  obtain⟨i,m',rfl,rfl,hi,p0,J,O⟩:=hrel;unfold I64ok' at p0;by_cases I:i<n
  ·obtain⟨g,s,p,rfl,hp,g0,T⟩:=h.out.at_ I;have G:=TU p g0;obtain⟨k0,k1,k2,k3,k4,k5,k6⟩:=T wr O.out;replace T:=Aa T;obtain⟨d,a⟩:=Ab (docsP p);have Y:=Aa (hd.out p);unfold Pg.val at Y;rw[<-a]at Y G;replace a:=Aa a;by_cases b:p.st=2
   ·have m0:((p.st:Int)==2)=true:=by rw[b];rfl
    replace b:=Aa b;go_wp2_with fail;refine(Y.out _).mono ?_;rintro e w4 ⟨rfl,H⟩;replace H:=Aa (O.out.trans H);obtain⟨q0,q1,q2,q3,q4,q5,q6⟩:=T.out w4 H.out;by_cases U:d<=m'
    ·have j:=Up hp b.out (by rw[<-a.out];exact U);rw[<-a.out]at j;replace j:=Aa j;go_wp2_with fail;refine(Y.out _).mono ?_;rintro e w5 ⟨rfl,Z⟩;go_wp2_with fail;go_roundw
     case rel=>exact⟨i+1,m' - d,rfl,by go_num,by omega,by unfold I64ok';omega,Aa (by rw[J.out,j.out];omega),Aa (H.out.trans Z)⟩
     case measure=>simp only[intOf];omega
    ·have j:=Aa (Uc hp (m:=m') fun q=>U (by rw[a.out];exact q.2));go_wp2_with fail;go_ret;exact⟨by rw[J.out,j.out];rfl,H.out⟩
   ·have j:=Aa (Uc hp (m:=m') fun q=>b q.1);have m0:((p.st:Int)==2)=false:=beq_eq_false_iff_ne.2 b;replace b:=Aa b;go_wp2_with fail;go_ret;exact⟨by rw[J.out,j.out];rfl,O.out⟩
  ·go_wp2_with fail;go_ret;exact⟨by rw[J.out,List.drop_of_length_le (by rw[<-h0.out];omega)];rfl,O.out⟩
theorem SY {l:List Pg} {p:Pg} (h:l[i]? = some p) (s:Int):costG s (l.drop i)=costG (min (s+docsP p) 1099511627776) (l.drop (i+1)):=by
 obtain⟨hi,rfl⟩:=List.getElem?_eq_some_iff.1 h;rw[List.drop_eq_getElem_cons hi];rfl
theorem Uk (A:Option Addr) (n c:Nat) (ps:List Pg) (w:World) (h:GS w A n c ps) :
 Calls prog 17 #[.slice A n c] w fun e w'=>e = .returned (.int .i64 (costG 0 ps))/\Ext w w':=by
 have hd:=Aa TW;have p0:=Aa h.len;have y0:=h.most;replace h:=Aa h;obtain⟨Z,T⟩:=Ab (costG 0 ps);rw[<-T];replace T:=Aa (show Z=costG 0 (ps.drop 0)from T)
 go_in
 go_wp2_with fail
 go_loopw [3,8] (fun s3 s8 wr=>∃(i:Nat) (m:Int),s3 = .int .i64 m/\s8 = .int .i64 (i:Int)/\i<=n/\0<=m/\m<=1099511627776/\Hid (Z=costG m (ps.drop i))/\Hid (Ext w wr)) (fun _ s8 _=>n - (intOf s8).toNat)
 case atStart=>exact⟨0,0,rfl,rfl,by omega,by omega,by omega,T,Aa (Ext.refl _)⟩
 case round =>
  obtain⟨i,m,rfl,rfl,hi,hm,x0,U,G⟩:=hrel;by_cases q0:i<n
  ·obtain⟨g,s,p,rfl,hp,j0,hc⟩:=h.out.at_ q0;have h0:=TU p j0;obtain⟨k0,k1,k2,k3,k4,k5,k6⟩:=hc wr G.out;obtain⟨d,J⟩:=Ab (docsP p);have b:=SY hp m;have H:=Aa (hd.out p);unfold Pg.val at H;rw[<-J]at H h0 b;obtain⟨r,hr⟩:=Ab (min d (1099511627776 - m));have Y:0<=r/\m+r=min (m+d) 1099511627776:=by omega
   have v0:=fun(W:World)=>AQ (P:=prog) #[3,3] 3 hr W;rw[<-Y.2]at b;have m0:m+r<=1099511627776:=by omega
   have d0:=Y.1;replace b:=Aa b;replace hr:=Aa hr;clear J Y hc;go_wp2_with fail;obtain⟨W,O⟩:=Ab (wr.alloc (Obj.cells #[.int .i64 p.id,.int .i64 p.st,.int .i64 p.lo,.int .i64 p.hi,.int .i64 p.fi,.int .i64 p.la,.int .i64 p.n] 79));have a:Ext wr W:=by rw[O];exact(Ext.refl wr).alloc _
   rw[<-O];replace a:=Aa a;replace O:=Aa O;refine(H.out _).mono ?_;rintro e w4 ⟨rfl,I⟩;go_wp2_with fail;go_roundw
   case rel=>exact⟨i+1,m+r,rfl,by go_num,by omega,by omega,m0,Aa (by rw[U.out,b.out]),Aa ((G.out.trans a.out).trans I)⟩
   case measure=>simp only[intOf];omega
  ·have j:Z=m:=by rw[U.out,List.drop_of_length_le (by rw[<-p0.out];omega)];rfl
   replace j:=Aa j;go_wp2_with fail;go_ret;rw[j.out];exact⟨rfl,G.out⟩
theorem Tl:Elem prog 39 43 1 24:=⟨underlying39,⟨_,_,rfl,rfl,rfl,rfl,rfl⟩,by omega,by omega⟩
theorem Th {g s n c k:Nat} (h:k<n) (hn:n<=c) (W:World) :
 (Instr.sliceAt 38 (.slice (some ⟨g,s,none⟩) n c) (some (.int .i64 (k:Int))) none none).run prog W = .ok (.slice (some ⟨g,s+k*7,none⟩) (n - k) (c - k)) W:=by
 have ht:=underlying38;have j:prog.elem 38=79:=by unfold Program.elem;rw[ht]
 have hs:∀W:World,(sizeOf 79).run prog W = .ok 7 W:=fun W=>by kernel_rfl
 have b:((k:Int)).toNat=k:=by omega
 rw[run_sliceAt_slice W _ _ _ _ _ (by rw[ht,j]),run_slice_l W _ _ n c (by rw[ht,j]) .i64 k (by omega) (by omega),j,hs];simp only[Result.andThen_ok];unfold sliced;rw[if_neg (by omega),b];simp[Addr.add_lit]
theorem Uo (a k:Nat):rowG a (k+1)=rowG a k ++ [((a+k:Nat):Int)]:=by
 unfold rowG;rw[List.range_succ,List.map_append];rfl
theorem S1 (a k:Nat):(rowG a k).length=k:=by unfold rowG;rw[List.length_map,List.length_range]
def GrpA (w:World) (L:List (List Int)) (e:Ending) (w':World):Prop:=Ext w w'/\∃(l:List IsC) (A:Option Addr) (n c:Nat),l.map IsC.xs=L/\e = .returned (.slice A n c)/\n=l.length/\IsOwn w' w.heap.size A n c l
theorem Uf (A:Option Addr) (n c:Nat) (m:Int) (ps:List Pg) (w:World) (h:GS w A n c ps) (hm:I64ok' m) (m1:n<=1000000) :
 Calls prog 14 #[.int .i64 m,.slice A n c] w (GrpA w (grpG m 0 ps)):=by
 obtain⟨Z,hZ⟩:=Ab (grpG m 0 ps);rw[<-hZ];replace hZ:=Aa (show Z=grpG m 0 (ps.drop 0)from hZ);have T:=Aa h.len;have t0:=h.cap;have h1:=Aa Tn;replace hm:=Aa hm;replace h:=Aa h
 go_in
 go_wp2_with fail
 go_loopw [5,6] (fun s5 s6 wr=>∃(a k d:Nat) (B:Option Addr) (l:List IsC),s5 = .slice B k d/\s6 = .int .i64 (a:Int)/\a<=n/\k<=a/\Hid (k=l.length)/\Hid (IsOwn wr w.heap.size B k d l)/\Hid (Z=l.map IsC.xs++grpG m a (ps.drop a))/\Hid (Ext w wr)) (fun _ s6 _=>n - (intOf s6).toNat)
 case atStart=>exact⟨0,0,0,none,[],rfl,rfl,by omega,by omega,Aa rfl,Aa (IsOwn.nil _ _),hZ,Aa (Ext.refl _)⟩
 case round =>
  obtain⟨a,k,d,B,l,rfl,rfl,ha,hk,q0,hB,hz,hE⟩:=hrel;by_cases O:a<n
  ·obtain⟨g,s,p,rfl,hp,r0,hc⟩:=h.out.at_ O;clear hp r0 hc;have y0:=fun W=>Th (g:=g) (s:=s) (k:=a) (n:=n) (c:=c) O t0 W;obtain⟨t,ht⟩:=Ab (takeG m (ps.drop a));have y1:t<=n - a:=by rw[ht];exact Nat.le_trans (Ub _ _) (by rw[List.length_drop,<-T.out];exact Nat.le_refl _)
   have J:=h1.out _ _ _ m _ wr ((h.out.ext hE.out).drop (k:=a) ha) hm.out;rw[<-ht]at J;replace J:=Aa J;obtain⟨n3,k0⟩:=Ab (n - a);obtain⟨c3,h0⟩:=Ab (c - a);rw[<-k0,<-h0]at J y0;replace k0:=Aa k0;replace h0:=Aa h0;by_cases h2:t<2
   ·have b:=hz.out;rw[TX O T.out (by rw[<-ht];exact h2)]at b;replace b:=Aa b;replace ht:=Aa ht;go_wp2_with fail;refine(J.out).mono ?_;rintro e w4 ⟨rfl,j⟩;go_wp2_with fail;go_roundw
    case rel=>exact⟨a+1,k,d,B,l,rfl,by go_num,by omega,by omega,q0,Aa (hB.out.ext j),b,Aa (hE.out.trans j)⟩
    case measure=>simp only[intOf];omega
   ·have b:=hz.out;rw[T6 O T.out (by rw[<-ht];exact h2),<-ht]at b;replace b:=Aa b;replace ht:=Aa ht;clear hz;go_wp2_with fail;refine(J.out).mono ?_;rintro e w4 ⟨rfl,j⟩;have i0:=Aa (hB.out.ext j);replace j:=Aa (hE.out.trans j);clear hE hB J y0;go_wp2_with fail
    go_loopw [8,24] (fun s8 s24 wi=>∃(i q:Nat) (C:Option Addr),s8 = .slice C i q/\s24 = .int .i64 (i:Int)/\i<=t/\Hid (wi.ownsRow w4.heap.size 3 1 (.slice C i q) i ((rowG a i).map IV))/\Hid (Ext w4 wi)) (fun _ s24 _=>t - (intOf s24).toNat)
    case atStart=>exact⟨0,0,none,rfl,rfl,by omega,Aa ⟨rfl,.inl ⟨rfl,rfl⟩⟩,Aa (Ext.refl _)⟩
    case round =>
     obtain⟨i,q,C,rfl,rfl,hi,ho,U⟩:=hrel;by_cases j1:i<t
     ·have c0:=Aa (Uo a i);obtain⟨y,hy⟩:=Ab (a+i);have d1:(a:Int)+(i:Int)=(y:Int):=by omega
      rw[<-hy]at c0;have a1:y<=1000000:=by omega
      have g0:=U.out.size;replace hy:=Aa hy;go_wp2_with (at_builtin;refine AS (us:= [.int .i64 (y:Int)]) (m:=1) FY ho.out rfl (.tmp 27) (.tmp 31) rfl rfl rfl rfl rfl (Az rfl) (by omega) g0 (fun A8 c8 w8 Y H p0=>?_);have I:=Aa (U.out.grown H (fun k hk=>by obtain⟨_,_,hb⟩:=Ae ho.out hk;exact hb));replace Y:=Aa Y;clear H p0);go_roundw
      case rel=>exact⟨i+1,c8,A8,rfl,by go_num,by omega,Aa (by rw[c0.out,List.map_append];exact Y.out),I⟩
      case measure=>simp only[intOf];omega
     ·obtain rfl:i=t:=by omega
      have G:=Aa (i0.out.ext U.out);have g0:w.heap.size<=wr.heap.size:=(j.out.trans U.out).size;have l0:k+1<=4294967296:=by omega
      go_wp2_with (at_builtin;refine AS (us:= [.slice C i q]) (m:=1) Tl G.out.own rfl (.tmp 34) (.tmp 36) rfl rfl rfl rfl rfl (Az rfl) l0 g0 (fun A8 c8 w8 Y H p0=>?_);replace Y:=Aa Y;replace H:=Aa H;clear p0);have v0:w.heap.size<=w4.heap.size:=j.out.size;have x0:=S1 a i;have j0:=G.out.push (x:=⟨rowG a i,C,q⟩) (by show World.ownsRow _ _ _ _ (.slice C (rowG a i).length q) _ _;rw[x0];exact AD ho.out v0) (by show World.ownsRow _ _ _ _ _ _ (_ ++ [.slice C (rowG a i).length q]);rw[x0];exact Y.out) H.out;have I:Ext w w8:=(j.out.trans U.out).grown H.out fun k hk=>by obtain⟨_,_,hb⟩:=Ae G.out.own hk;exact hb
      go_roundw
      case rel=>exact⟨a+i,k+1,c8,A8,_,rfl,by go_num,by omega,by omega,Aa (by rw[List.length_append,<-q0.out];rfl),Aa j0,Aa (by rw[b.out,List.map_append,List.append_assoc];rfl),Aa I⟩
      case measure=>simp only[intOf];omega
  ·go_wp2_with fail;go_ret;refine⟨hE.out,l,B,k,d,?_,rfl,q0.out,hB.out⟩;rw[hz.out,T5 (by omega) T.out,List.append_nil]
end
section
open Go.RowKit Go.Maps
def awo (k:Int):List Dc:= [(k,⟨k,[([109,115,103],[97])]⟩)]
def awm:List Dc:= [(3,⟨3,[([109,115,103],[97])]⟩),(5,⟨5,[([109,115,103],[97])]⟩)]
def awB (P:List Dc):Bool:=okDs P&&decide ((blockD 0 P).length<=70000)&&decide (0<P.length)&&(framesD P).all (fun p=>decide (p.length<=16777216))&&decide ((segL P).length<=60000)&&P.all fun d=>decide (-9223372036854775808<=d.2.at_)&&decide (d.2.at_<=9223372036854775807)
structure AwP (P:List Dc):Prop where
  seg:SegP P
  opn:openD (segL P)=some P
  len:(segL P).length<=60000
theorem S2 {P:List Dc} (h:awB P=true):AwP P:=by
 unfold awB at h;simp only[Bool.and_eq_true,decide_eq_true_eq,List.all_eq_true]at h;obtain⟨⟨⟨⟨⟨h1,h2⟩,j⟩,b⟩,a⟩,H⟩:=h;have hs:SegP P:=⟨⟨h1,h2⟩,j⟩
 exact⟨hs,FI hs b fun d hd=>H d hd,a⟩
theorem Tu:AwP (awo 3):=S2 (by kernel_rfl)
theorem Tv:AwP (awo 5):=S2 (by kernel_rfl)
theorem Tt:AwP awm:=S2 (by kernel_rfl)
theorem Ta:mergeD [segL (awo 3),segL (awo 5)]=some [awo 3,awo 5]:=by
 have h:opensD [segL (awo 3),segL (awo 5)]=some [awo 3,awo 5]:=by
  unfold opensD;rw[if_pos (by simp[Tu.opn,Tv.opn])];simp[List.filterMap_cons,Tu.opn,Tv.opn]
 unfold mergeD;rw[h];exact if_pos ⟨by decide,by decide⟩
theorem Tb:mergeD [segL (awo 5),segL (awo 3)]=none:=by
 have j:opensD [segL (awo 5),segL (awo 3)]=some [awo 5,awo 3]:=by
  unfold opensD;rw[if_pos (by simp[Tu.opn,Tv.opn])];simp[List.filterMap_cons,Tu.opn,Tv.opn]
 unfold mergeD;rw[j];exact if_neg fun h=>absurd h.2 (by decide)
theorem Tj:docsM 0 [awo 3,awo 5]=awm:=by kernel_rfl
theorem Tc (k : Int) (w : World) (hk : AwP (awo k)) (T : I64ok' k) :
    Calls prog 33 #[.int .i64 k] w fun e w' => ∃ A n c, e = .returned (.slice A n c) ∧ Own8 w' w.heap.size A n c (segL (awo k)) ∧ Ext w w' := by
  obtain ⟨W, H⟩ := Ab ((w.alloc (Obj.cells #[.string ⟨#[109, 115, 103]⟩, .string ⟨#[97]⟩] 91)).alloc (Obj.cells #[.int .i64 k, .int .i64 k, .slice (some ⟨w.heap.size, 0, none⟩) 1 1] 71))
  have Y : Ext w W := by rw [H]; exact ((Ext.refl w).alloc _).alloc _
  have J : Cells W (some ⟨w.heap.size, 0, none⟩) (fcells [([109, 115, 103], [97])]) := by
    rw [H]
    exact (AN w [.string ⟨#[109, 115, 103]⟩, .string ⟨#[97]⟩] _).ext ((Ext.refl _).alloc _)
  have U : Cells W (some ⟨w.heap.size + 1, 0, none⟩) (dcells [⟨k, ⟨k, [([109, 115, 103], [97])]⟩, some ⟨w.heap.size, 0, none⟩, 1⟩]) := by
    have h1 := AN (w.alloc (Obj.cells #[.string ⟨#[109, 115, 103]⟩, .string ⟨#[97]⟩] 91)) [.int .i64 k, .int .i64 k, .slice (some ⟨w.heap.size, 0, none⟩) 1 1] 71
    rw [World.size_alloc] at h1
    rw [H]
    exact h1
  have O : DocsOk W (some ⟨w.heap.size + 1, 0, none⟩) [⟨k, ⟨k, [([109, 115, 103], [97])]⟩, some ⟨w.heap.size, 0, none⟩, 1⟩] := ⟨U, fun x hx => by
    rw [List.mem_singleton.1 hx]
    exact ⟨⟨J, by show (1 : Nat) ≤ _; omega, fun f hf => by
      rw [List.mem_singleton.1 hf]
      exact ⟨by show (3 : Nat) ≤ _; omega, by show (1 : Nat) ≤ _; omega⟩⟩, T, T⟩⟩
  have j := CY [⟨k, ⟨k, [([109, 115, 103], [97])]⟩, some ⟨w.heap.size, 0, none⟩, 1⟩] (some ⟨w.heap.size + 1, 0, none⟩) 1 1 W rfl O (fun a I => by cases I; rfl) (by omega) hk.seg.sm (by omega)
  replace j := Aa j
  replace H := Aa H
  clear J U O hk
  go_in
  go_wp2_with fail
  rw [← H.out]
  refine j.out.mono ?_
  rintro e w1 ⟨A1, c1, rfl, h, G⟩
  have Z : segL (dcs [⟨k, ⟨k, [([109, 115, 103], [97])]⟩, some ⟨w.heap.size, 0, none⟩, 1⟩]) = segL (awo k) := rfl
  rw [Z] at h ⊢
  obtain ⟨n1, b⟩ := Ab ((segL (awo k)).length)
  rw [← b] at h ⊢
  replace b := Aa b
  replace h := Aa h
  clear Z
  go_wp2_with fail
  go_ret
  exact ⟨A1, n1, c1, rfl, ⟨h.out.1, h.out.2.lower Y.size⟩, Y.trans G⟩
end
section
open Go.RowKit Go.Maps
def awG (n:Int):Pg:=⟨0,2,0,0,0,0,n⟩
theorem TB:grpG 10 0 [awG 4,awG 5,awG 6] = [[0,1]]:=by
 have h1:=T6 (m:=10) (l:= [awG 4,awG 5,awG 6]) (a:=0) (n:=3) (by omega) rfl (by decide);have h2:=TX (m:=10) (l:= [awG 4,awG 5,awG 6]) (a:=2) (n:=3) (by omega) rfl (by decide);have h:=T5 (m:=10) (l:= [awG 4,awG 5,awG 6]) (a:=3) (n:=3) (by omega) rfl;have j:takeG 10 ([awG 4,awG 5,awG 6].drop 0)=2:=by decide
 rw[j]at h1;rw[show [awG 4,awG 5,awG 6] = [awG 4,awG 5,awG 6].drop 0 from rfl,h1];rw[show 0+2=2 from rfl,h2,show 2+1=3 from rfl,h];rfl
theorem Own8.low {base n c:Nat} (h:Own8 w base A n c l):Own8 w 0 A n c l:=⟨h.1,h.2.lower (Nat.zero_le _)⟩
theorem Tz (h1:Own8 w 0 A1 n1 c1 l1) (h2:Own8 w 0 A2 n2 c2 l2) (q1:l1.length<=60000) (q2:l2.length<=60000) (T:TypeId) :
 BssR (w.alloc (Obj.cells #[.slice A1 n1 c1,.slice A2 n2 c2] T)) (some ⟨w.heap.size,0,none⟩) [⟨l1,A1,c1⟩,⟨l2,A2,c2⟩]:=by
 obtain⟨rfl,b1⟩:=h1;obtain⟨rfl,b2⟩:=h2;refine⟨AN w [.slice A1 l1.length c1,.slice A2 l2.length c2] T,fun x h=>?_⟩;simp only[List.mem_cons,List.not_mem_nil,or_false]at h;rcases h with rfl | rfl
 ·exact⟨.inl (b1.in8.ext ((Ext.refl w).alloc _)),q1⟩
 ·exact⟨.inl (b2.in8.ext ((Ext.refl w).alloc _)),q2⟩
theorem PF (w : World) : Calls prog 13 #[] w fun e w' => e = .returned (.bool true) ∧ Ext w w' := by
  have h0 := Aa fun W => Tc 3 W Tu (by unfold I64ok'; omega)
  have d0 := Aa fun W => Tc 5 W Tv (by unfold I64ok'; omega)
  obtain ⟨W, hW⟩ := Ab (w.alloc (Obj.cells #[.int .i64 0, .int .i64 2, .int .i64 0, .int .i64 0, .int .i64 0, .int .i64 0, .int .i64 4, .int .i64 0, .int .i64 2, .int .i64 0, .int .i64 0, .int .i64 0, .int .i64 0, .int .i64 5, .int .i64 0, .int .i64 2, .int .i64 0, .int .i64 0, .int .i64 0, .int .i64 0, .int .i64 6] 79))
  have h1 : Ext w W := by rw [hW]; exact (Ext.refl w).alloc _
  have o1 : GS W (some ⟨w.heap.size, 0, none⟩) 3 3 [awG 4, awG 5, awG 6] := ⟨rfl, by rw [hW]; exact AN w _ _, by omega, by omega, fun p hp => by
    simp only [List.mem_cons, List.not_mem_nil, or_false] at hp
    unfold I64ok'
    rcases hp with rfl | rfl | rfl <;> decide⟩
  have Z := Uf _ 3 3 10 _ W o1 (by unfold I64ok'; omega) (by omega)
  rw [TB] at Z
  replace Z := Aa Z
  replace h1 := Aa h1
  clear o1
  go_in
  go_wp2_with fail
  rw [← hW]
  clear hW
  refine Z.out.mono ?_
  rintro e w1 ⟨e0, l1, B1, k1, d1, c0, rfl, j2, q1⟩
  obtain ⟨x1, x2⟩ : ∃ x1, l1 = [x1] ∧ x1.xs = [0, 1] := by
    cases l1 with
    | nil => cases c0
    | cons x t =>
      cases t with
      | nil => exact ⟨x, rfl, by injection c0⟩
      | cons y u => exact absurd (congrArg List.length c0) (by simp)
  obtain ⟨rfl, y2⟩ := x2
  obtain rfl : k1 = 1 := j2
  replace q1 := Aa q1
  replace e0 := Aa (h1.out.trans e0)
  clear c0 Z
  go_wp2_with fail
  refine (h0.out w1).mono ?_
  rintro e w2 ⟨A2, n2, c2, rfl, v0, f0⟩
  replace v0 := Aa v0.low
  replace f0 := Aa f0
  go_wp2_with fail
  refine (d0.out w2).mono ?_
  rintro e w3 ⟨A3, n3, c3, rfl, y1, i0⟩
  obtain ⟨W4, m0⟩ := Ab (w3.alloc (Obj.cells #[.slice A2 n2 c2, .slice A3 n3 c3] 24))
  have l0 : Ext w1 W4 := by rw [m0]; exact (f0.out.trans i0).alloc _
  have h := TK _ _ 2 2 0 W4 rfl (by rw [m0]; exact Tz (v0.out.ext i0) y1.low Tu.len Tv.len _) (by omega) (fun Ps T _ => by rw [show List.map BsC.b _ = [segL (awo 3), segL (awo 5)] from rfl, Ta] at T; rw [← Option.some.inj T, Tj]; exact Tt.seg.sm)
  rw [show List.map BsC.b _ = [segL (awo 3), segL (awo 5)] from rfl, Ta] at h
  unfold MrA at h
  simp only [Tj, if_neg (show ¬ awm = [] from nofun)] at h
  obtain ⟨nm, G⟩ := Ab ((segL awm).length)
  unfold OkB at h
  rw [← G] at h
  replace h := Aa h
  replace l0 := Aa l0
  replace G := Aa G
  clear v0 y1 i0
  go_wp2_with fail
  rw [← m0]
  clear m0
  refine h.out.mono ?_
  rintro e w5 ⟨A5, c5, rfl, a1, n0⟩
  have q0 := J8 awm Tt.seg Tt.opn Tt.len A5 c5 w5 (by rw [← G.out]; exact a1.low)
  rw [← G.out] at q0
  replace q0 := Aa q0
  replace n0 := Aa (l0.out.trans n0)
  clear a1 h
  go_wp2_with fail
  refine q0.out.mono ?_
  rintro e w6 ⟨g6, rfl, H, o0⟩
  replace H := Aa H
  replace o0 := Aa (n0.out.trans o0)
  clear q0
  go_wp2_with fail
  refine (d0.out w6).mono ?_
  rintro e w7 ⟨A7, n7, c7, rfl, x0, j0⟩
  replace x0 := Aa x0.low
  replace H := Aa (H.out.ext j0)
  replace j0 := Aa (o0.out.trans j0)
  go_wp2_with fail
  refine (h0.out w7).mono ?_
  rintro e w8 ⟨A8, n8, c8, rfl, f1, r0⟩
  obtain ⟨W9, t0⟩ := Ab (w8.alloc (Obj.cells #[.slice A7 n7 c7, .slice A8 n8 c8] 24))
  have g0 : Ext w7 W9 := by rw [t0]; exact r0.alloc _
  have h := TK _ _ 2 2 0 W9 rfl (by rw [t0]; exact Tz (x0.out.ext r0) f1.low Tv.len Tu.len _) (by omega) (fun Ps T _ => by rw [show List.map BsC.b _ = [segL (awo 5), segL (awo 3)] from rfl, Tb] at T; cases T)
  rw [show List.map BsC.b _ = [segL (awo 5), segL (awo 3)] from rfl, Tb] at h
  unfold MrA at h
  simp only at h
  replace h := Aa h
  replace g0 := Aa g0
  clear x0 f1 r0
  go_wp2_with fail
  rw [← t0]
  clear t0
  refine h.out.mono ?_
  rintro e w10 ⟨rfl, j⟩
  replace H := Aa (H.out.ext (g0.out.trans j))
  replace j := Aa ((j0.out.trans g0.out).trans j)
  have I := q1.out.ext j.out
  obtain ⟨gB, oB, rfl, i1⟩ := (Cells.of_own I.own).at_ (by show 0 < 1; omega)
  have k0 := i1 0 x1.val rfl
  have p0 := Cells.of_own (I.each x1 (List.mem_singleton.2 rfl))
  rw [Nat.add_zero] at k0
  unfold IsC.val at k0
  rw [y2] at k0 p0
  have m2 := Fh g6 awm w10 H.out (by decide) (by decide)
  have j1 := fun W (hE : Ext w10 W) B hB => Uh x1.A B 2 x1.c 2 [0, 1] W rfl (p0.ext hE) hB (by omega)
  replace j1 := Aa j1
  clear i1 p0 I
  have k0' : w10.cell? ⟨gB, oB, none⟩ = some (.slice x1.A 2 x1.c) := k0
  clear k0
  replace h0 := Aa True.intro
  obtain ⟨W11, a⟩ := Ab (w10.alloc (Obj.cells #[.int .i64 0, .int .i64 1] 3))
  have p1 := j1.out W11 (by rw [a]; exact (Ext.refl _).alloc _) (some ⟨w10.heap.size, 0, none⟩) (by rw [a]; exact AN w10 _ _)
  have U : Ext w10 W11 := by rw [a]; exact (Ext.refl _).alloc _
  replace p1 := Aa p1
  replace U := Aa U
  go_wp2_with fail
  rw [← a]
  clear a
  refine p1.out.mono ?_
  rintro e w12 ⟨rfl, Y⟩
  replace Y := Aa (U.out.trans Y)
  have h2 := Aa (Fh g6 awm w12 (H.out.ext Y.out) (by decide) (by decide))
  clear m2
  go_wp2_with fail
  refine h2.out.mono ?_
  rintro e w13 ⟨rfl, q2⟩
  obtain rfl := q2.symm
  obtain ⟨W14, J⟩ := Ab (w12.alloc (Obj.cells #[.int .i64 0, .int .i64 0, .int .i64 0, .int .i64 0, .int .i64 0, .int .i64 0, .int .i64 7] 79))
  have O : Ext w12 W14 := by rw [J]; exact (Ext.refl _).alloc _
  have y0 := Uk (some ⟨w12.heap.size, 0, none⟩) 1 1 [⟨0, 0, 0, 0, 0, 0, 7⟩] W14 ⟨rfl, by rw [J]; exact AN w12 _ _, by omega, by omega, fun p hp => by rw [List.mem_singleton.1 hp]; unfold I64ok'; decide⟩
  rw [show costG 0 [⟨0, 0, 0, 0, 0, 0, 7⟩] = 7 by decide] at y0
  replace y0 := Aa y0
  replace O := Aa O
  go_wp2_with fail
  rw [← J]
  clear J
  refine y0.out.mono ?_
  rintro e w15 ⟨rfl, m1⟩
  go_wp2_with fail
  go_ret
  exact ⟨rfl, (((e0.out.trans j.out).trans Y.out).trans O.out).trans m1⟩
end
section
open Go.RowKit Go.Maps
def mrX (fl:Int):Option (List (List Dc))->List UInt8
 | none=> []
 | some Ps=>if docsM fl Ps = [] then [] else segL (docsM fl Ps)
def mrC (fl:Int):Option (List (List Dc))->Int
 | none=>330
 | some Ps=>if docsM fl Ps = [] then 7 else 0
def mdL (fl:Int):Option (List (List Dc))->List Dc
 | none=> []
 | some Ps=>docsM fl Ps
def mdC:Option (List (List Dc))->Int
 | none=>330
 | some _=>0
def MrB (w:World) (fl:Int) (r:Option (List (List Dc))) (e:Ending) (w':World):Prop:=∃(A:Option Addr) (n c:Nat),e = .returned (.tuple #[.slice A n c,.int .i64 (mrC fl r)])/\n=(mrX fl r).length/\Bs w' A (mrX fl r)/\Ext w w'
theorem MrA.b {r:Option (List (List Dc))} {e:Ending} (h:MrA w fl r e w'):MrB w fl r e w':=by
 cases r with
 | none =>
  obtain⟨rfl,j⟩:=h;exact⟨none,0,0,rfl,rfl,.inl rfl,j⟩
 | some Ps =>
  unfold MrA at h;simp only at h;unfold MrB mrX mrC;simp only;by_cases hd:docsM fl Ps = []
  ·simp only[if_pos hd]at h ⊢;obtain⟨rfl,j⟩:=h;exact⟨none,0,0,rfl,rfl,.inl rfl,j⟩
  ·simp only[if_neg hd]at h ⊢;obtain⟨A,c,rfl,a,j⟩:=h;exact⟨A,_,c,rfl,rfl,a.2.cells,j⟩
def MdB (w:World) (fl:Int) (r:Option (List (List Dc))) (e:Ending) (w':World):Prop:=∃(l:List DocC) (A:Option Addr) (n c:Nat),e = .returned (.tuple #[.slice A n c,.int .i64 (mdC r)])/\n=l.length/\dcs l=mdL fl r/\DocsOk w' A l/\Ext w w'
theorem MdA.b {r:Option (List (List Dc))} {e:Ending} (h:MdA w fl r e w'):MdB w fl r e w':=by
 obtain⟨j,h⟩:=h;cases r with
 | none =>
  simp only at h;subst h;exact⟨[],none,0,0,rfl,rfl,rfl,⟨.inl rfl,nofun⟩,j⟩
 | some Ps =>
  obtain⟨l,A,n,c,h1,h2,rfl,a⟩:=h;exact⟨l,A,n,c,rfl,h2,h1,a.ok,j⟩
theorem RdA.b {r:Option (List (List Dc))} {e:Ending} (h:RdA w fl r e w'):MdB w fl r e w'/\(mdL fl r).length<=1000000:=by
 obtain⟨j,h⟩:=h;cases r with
 | none =>
  simp only at h;subst h;exact⟨⟨[],none,0,0,rfl,rfl,rfl,⟨.inl rfl,nofun⟩,j⟩,Nat.zero_le _⟩
 | some Ps =>
  obtain⟨l,A,n,c,h1,h2,rfl,a,H⟩:=h;exact⟨⟨l,A,n,c,rfl,h2,h1,a,j⟩,by show (docsM fl Ps).length<=_;rw[<-h1];unfold dcs;rw[List.length_map,<-h2];exact H⟩
theorem TO (fl:Int) (bs:List BsC) (A:Option Addr) (n c:Nat) (w:World) (hn:n=bs.length) (h:BssE w A bs) :
 Calls prog 3 #[.int .i64 fl,.slice A n c] w fun e w'=>e = .returned (.bool true)/\Ext w w':=by
 have p0:=Aa (Uj bs A n c w hn h);have l0:=Aa PF;clear hn h
 go_in
 go_wp2_with fail;refine p0.out.mono ?_;rintro e w1 ⟨k0,l,B,k,d,hl,hk,n0,rfl,hb⟩;have c0:∀Ps,mergeD (l.map BsC.b)=some Ps->docsM fl Ps ≠ []->SmP (docsM fl Ps):=fun Ps hP _=>T8 fl (by
  rw[hl];intro b hb;obtain⟨x,_,rfl⟩:=List.mem_map.1 hb;unfold cut5;rw[List.length_take];omega) (by rw[List.length_map,<-hk];exact n0) hP
 have U:=(TK l B k d fl w1 hk hb (by omega) c0).mono fun _ _ h=>h.b;have H:=fun W (hE:Ext w1 W)=>(T4 l B k d fl W hk (hb.ext hE) (by omega) c0).mono fun _ _ h=>h.b;have j:=fun W (hE:Ext w1 W)=>(Te l B k d fl W hk (hb.ext hE) (by omega)).mono fun _ _ h=>h.b;have a:=fun W (hE:Ext w1 W)=>(TL l B k d fl W hk (hb.ext hE) (by omega)).mono fun _ _ h=>h.b;obtain⟨Z,hZ⟩:=Ab (mergeD (l.map BsC.b));rw[<-hZ]at U H j a;unfold MrB at U H;unfold MdB at j a;obtain⟨X,hX⟩:=Ab (mrX fl Z);obtain⟨C,hC⟩:=Ab (mrC fl Z);obtain⟨L,hL⟩:=Ab (mdL fl Z);obtain⟨D,hD⟩:=Ab (mdC Z);rw[<-hX,<-hC]at U H;rw[<-hD,<-hL]at j a;replace U:=Aa U;replace H:=Aa H;replace j:=Aa j;replace a:=Aa a;replace k0:=Aa k0;clear p0 hl hk c0 hb hZ hX hC hL hD;go_wp2_with fail;refine U.out.mono ?_;rintro e w2 ⟨A2,n2,c2,rfl,g0,J,G⟩;replace g0:=Aa g0;replace J:=Aa J;replace H:=Aa (H.out w2 G);replace G:=Aa G;go_wp2_with fail;refine H.out.mono ?_;rintro e w3 ⟨A3,n3,c3,rfl,m0,I,O⟩;replace m0:=Aa m0;replace J:=Aa (J.out.ext O);replace I:=Aa I;replace O:=Aa (G.out.trans O);replace j:=Aa (j.out w3 O.out);clear H U G;go_wp2_with fail;refine j.out.mono ?_;rintro e w4 ⟨l4,A4,n4,c4,rfl,t0,h0,x0,Y⟩;replace t0:=Aa t0;replace h0:=Aa h0;replace x0:=Aa x0;replace J:=Aa (J.out.ext Y);replace I:=Aa (I.out.ext Y);replace Y:=Aa (O.out.trans Y);replace a:=Aa (a.out w4 Y.out);clear j O;go_wp2_with fail;refine a.out.mono ?_;rintro e w5 ⟨⟨l5,A5,n5,c5,rfl,v0,j0,y0,T⟩,i0⟩;have j1:=CT (A:=A2) (l:=X) (w:=w5) (J.out.ext T) n2 c2 g0.out;have m1:=CT (A:=A3) (l:=X) (w:=w5) (I.out.ext T) n3 c3 m0.out;have q0:=Jz l4 l5 A4 A5 c4 c5 w5 (x0.out.ext T) y0 (h0.out.trans j0.symm) (by have:=congrArg List.length h0.out;unfold dcs at this;rw[List.length_map]at this;omega);rw[<-t0.out,<-v0]at q0;replace q0:=Aa q0;replace v0:=Aa v0;replace j0:=Aa j0;replace y0:=Aa y0;replace T:=Aa (Y.out.trans T);clear a Y i0;go_wp2_with fail;refine q0.out.mono ?_;rintro e w6 ⟨rfl,e0⟩;go_wp2_with fail;refine(l0.out _).mono ?_;rintro e w7 ⟨rfl,f0⟩;go_wp2_with fail;go_ret;exact⟨rfl,((k0.out.trans T.out).trans e0).trans f0⟩
end
end Go.Proofs.YtfifdilapbeiiaaGreat
