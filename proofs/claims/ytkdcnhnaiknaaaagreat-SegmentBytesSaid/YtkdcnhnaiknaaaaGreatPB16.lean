/- Texts of one proof, joined. -/
import Derived.Test.YtkdcnhnaiknaaaaGreatPB15
import Derived.Test.YtkdcnhnaiknaaaaGreatPB05
import Derived.Test.YtkdcnhnaiknaaaaGreatPB07
import Derived.Test.YtkdcnhnaiknaaaaGreatPB04
import Derived.Test.YtkdcnhnaiknaaaaGreatPB02
import Derived.Test.YtkdcnhnaiknaaaaGreatPB03
import Derived.Test.YtkdcnhnaiknaaaaGreatPB09
import Derived.ChangeSame
set_option linter.unusedSimpArgs false
set_option linter.unusedVariables false
set_option maxRecDepth 100000
set_option maxHeartbeats 16000000
namespace Go.Proofs.YtkdcnhnaiknaaaaGreat
section
open Go.RowKit Go.Maps
theorem ZME (W:World):(Instr.field 74 (.agg #[.int .i64 0,.int .i64 0,.int .i64 7,.int .i64 7,.int .i64 1,.int .i64 1,.int .i64 1]) 2).run Tryz.prog W = .ok (.int .i64 7) W:=by
 unfold Instr.field;simp only[Sem.run_bind,run_underlying Tryz.underlying74,Result.andThen_ok]
 kernel_rfl
theorem ZIM (P:List Dc) (hP:SegP P) (ho:openD (segL P)=some P) (hl:(segL P).length<=60000) (A:Option Addr) (c:Nat) (w:World) (h:Own8 w 0 A (segL P).length c (segL P)) :
 Calls Tryz.prog 11 #[.slice A (segL P).length c] w fun e w'=>∃g,e = .returned (.tuple #[.pointer (some ⟨g,0,none⟩),.int .i64 0])/\SegR w' g P/\Ext w w':=by
 refine(ZD6 A _ c (segL P) w h.2.in8 (by omega) (fun Q _ hQ=>ZC5 hl Q hQ)).mono ?_;rintro e w' ⟨hE,hr⟩;rw[ho]at hr;obtain⟨g,rfl,hs⟩:=hr;exact⟨g,rfl,hs,hE⟩
theorem ZHq (w : World) : Calls Tryz.prog 10 #[] w fun e w' => e = .returned (.bool true) ∧ Ext w w' := by
  obtain ⟨W, hW⟩ : ∃ W, W = (w.alloc (Obj.cells #[.string ⟨#[109, 115, 103]⟩, .string ⟨#[120]⟩] 105)).alloc (Obj.cells #[.int .i64 1, .int .i64 7, .slice (some ⟨w.heap.size, 0, none⟩) 1 1] 39) := ⟨_, rfl⟩
  have b1 : Ext w W := by rw [hW]; exact ((Ext.refl w).alloc _).alloc _
  have p1 : Cells W (some ⟨w.heap.size, 0, none⟩) (fcells [([109, 115, 103], [120])]) := by
    rw [hW]
    exact (Zg w [.string ⟨#[109, 115, 103]⟩, .string ⟨#[120]⟩] _).ext ((Ext.refl _).alloc _)
  have k1 : Cells W (some ⟨w.heap.size + 1, 0, none⟩) (dcells [⟨1, ⟨7, [([109, 115, 103], [120])]⟩, some ⟨w.heap.size, 0, none⟩, 1⟩]) := by
    have h1 := Zg (w.alloc (Obj.cells #[.string ⟨#[109, 115, 103]⟩, .string ⟨#[120]⟩] 105)) [.int .i64 1, .int .i64 7, .slice (some ⟨w.heap.size, 0, none⟩) 1 1] 39
    rw [World.size_alloc] at h1
    rw [hW]
    exact h1
  have j1 : DocsOk W (some ⟨w.heap.size + 1, 0, none⟩) [⟨1, ⟨7, [([109, 115, 103], [120])]⟩, some ⟨w.heap.size, 0, none⟩, 1⟩] := ⟨k1, fun x hx => by
    rw [List.mem_singleton.1 hx]
    exact ⟨⟨p1, by show (1 : Nat) ≤ _; omega, fun f hf => by
      rw [List.mem_singleton.1 hf]
      exact ⟨by show (3 : Nat) ≤ _; omega, by show (1 : Nat) ≤ _; omega⟩⟩, ⟨by show _ ≤ (7 : Int); omega, by show (7 : Int) ≤ _; omega⟩, ⟨by show _ ≤ (1 : Int); omega, by show (1 : Int) ≤ _; omega⟩⟩⟩
  have f0 := ZAM [⟨1, ⟨7, [([109, 115, 103], [120])]⟩, some ⟨w.heap.size, 0, none⟩, 1⟩] (some ⟨w.heap.size + 1, 0, none⟩) 1 1 W rfl j1 (fun a ha => by cases ha; rfl) (by omega) ZCd.sm (by omega)
  replace f0 := ZA f0
  replace hW := ZA hW
  clear p1 k1 j1
  go_enter Tryz.func10, Tryz.ntmps10
  go_wp2_with fail
  rw [← hW.out]
  refine f0.out.mono ?_
  rintro e w1 ⟨A1, c1, rfl, d1, y1⟩
  have z0 := ZIM aw1 ZCd ZL0 (of_decide_eq_true ZOO) A1 c1 w1 ⟨rfl, d1.2.lower (Nat.zero_le _)⟩
  have r1 : segL (dcs [⟨1, ⟨7, [([109, 115, 103], [120])]⟩, some ⟨w.heap.size, 0, none⟩, 1⟩]) = segL aw1 := rfl
  rw [r1]
  obtain ⟨n1, i0⟩ : ∃ n1, n1 = (segL aw1).length := ⟨_, rfl⟩
  rw [← i0] at z0 ⊢
  replace z0 := ZA z0
  replace i0 := ZA i0
  go_wp2_with fail
  refine z0.out.mono ?_
  rintro e w2 ⟨g1, rfl, o1, z1⟩
  go_wp2_with fail
  obtain ⟨W2, v0⟩ : ∃ W2, W2 = w2.alloc (Obj.cells #[.int .i64 4, .int .i64 0, .slice none 0 0] 39) := ⟨_, rfl⟩
  rw [← v0]
  have t0 : Ext w2 W2 := by rw [v0]; exact (Ext.refl w2).alloc _
  have u0 : DocsOk W2 (some ⟨w2.heap.size, 0, none⟩) [⟨4, ⟨0, []⟩, none, 0⟩] := ⟨by rw [v0]; exact Zg w2 [.int .i64 4, .int .i64 0, .slice none 0 0] _, fun x hx => by
    rw [List.mem_singleton.1 hx]
    exact ⟨⟨.inl rfl, by show (0 : Nat) ≤ _; omega, fun f hf => by cases hf⟩, ⟨by show _ ≤ (0 : Int); omega, by show (0 : Int) ≤ _; omega⟩, ⟨by show _ ≤ (4 : Int); omega, by show (4 : Int) ≤ _; omega⟩⟩⟩
  have j0 := ZAM [⟨4, ⟨0, []⟩, none, 0⟩] (some ⟨w2.heap.size, 0, none⟩) 1 1 W2 rfl u0 (fun a ha => by cases ha; rfl) (by omega) ZDm.sm (by omega)
  replace j0 := ZA j0
  replace v0 := ZA v0
  clear u0
  refine j0.out.mono ?_
  rintro e w3 ⟨A3, c3, rfl, e1, s0⟩
  have k0 := ZIM aw2 ZDm ZMv (of_decide_eq_true ZOG) A3 c3 w3 ⟨rfl, e1.2.lower (Nat.zero_le _)⟩
  have r0 : segL (dcs [⟨4, ⟨0, []⟩, none, 0⟩]) = segL aw2 := rfl
  rw [r0]
  obtain ⟨n3, l0⟩ : ∃ n3, n3 = (segL aw2).length := ⟨_, rfl⟩
  rw [← l0] at k0 ⊢
  replace k0 := ZA k0
  replace l0 := ZA l0
  go_wp2_with fail
  refine k0.out.mono ?_
  rintro e w4 ⟨g2, rfl, b0, w0⟩
  have p0 := o1.ext ((t0.trans s0).trans w0)
  have c0 := ((b1.trans y1).trans z1).trans ((t0.trans s0).trans w0)
  have o0 := ZJA g1 aw1 [109, 115, 103, 58, 120] w4 p0 ZCd
  replace o0 := ZA o0
  replace p0 := ZA p0
  replace b0 := ZA b0
  go_wp2_with fail
  refine o0.out.mono ?_
  rintro e w5 ⟨a1, y0⟩
  rw [ZIF] at y0
  rcases y0 with ⟨r, hr, p2, ps, A5, c5, a0, rfl, n0⟩ | ⟨i1, _⟩
  · rw [List.mem_singleton.1 hr] at a0 ⊢
    obtain ⟨x0, s1, h2⟩ : ∃ x0 : PoC, ps = [x0] ∧ x0.doc = 0 := by
      cases ps with
      | nil => cases a0
      | cons x0 t =>
        cases t with
        | nil =>
          refine ⟨x0, rfl, ?_⟩
          have h1 : [x0.po] = [((0 : Int), [(0 : Int)])] := a0
          injection h1 with h1
          exact congrArg Prod.fst h1
        | cons y u => exact absurd (congrArg List.length a0) (by simp [psP])
    subst s1
    obtain ⟨gp, op, x1, q0, _⟩ := Z5 n0.cells (i := 0) (x := x0) rfl
    subst x1
    rw [h2, Nat.zero_mul, Nat.add_zero] at q0
    have v1 := ZA (fun W (hE : Ext w4 W) => ZLY g1 aw1 W (p0.out.ext hE) ZCd)
    have f1 := ZA (fun W (hE : Ext w4 W) => ZH2 g1 aw1 W (p0.out.ext hE) (by decide) (by decide))
    have m1 := ZA (fun W (hE : Ext w4 W) => ZIB g1 aw1 [109, 115, 103, 58, 120] W (p0.out.ext hE) ZCd (by decide))
    have u1 := ZA (fun W (hE : Ext w4 W) => ZJV g2 aw2 W (b0.out.ext hE) ZDm)
    have t1 := ZA (fun W (hE : Ext w4 W) => ZIB g2 aw2 [109, 115, 103, 58, 120] W (b0.out.ext hE) ZDm (by decide))
    have l1 : prtA [7, 7, 1, 1, 1] = #[.int .i64 0, .int .i64 0, .int .i64 7, .int .i64 7, .int .i64 1, .int .i64 1, .int .i64 1] := rfl
    rw [ZMs, l1] at v1
    rw [ZNk] at m1
    rw [ZNL] at t1
    rw [ZIU] at u1
    have g0 := ZBM [] none 0 0 w5 rfl ⟨.inl rfl, nofun⟩ (fun a ha => by cases ha) (by omega) (by omega) (.inr rfl)
    replace g0 := ZA g0
    go_wp2_with fail
    refine g0.out.mono ?_
    rintro e w6 ⟨rfl, q1⟩
    have h0 := a1.trans q1
    have q06 := q1.cell q0
    replace n0 := ZA n0
    go_wp2_with fail
    refine (v1.out w6 h0).mono ?_
    rintro e w7 ⟨rfl, m0⟩
    have q2 := ZME w7
    go_wp2_with fail
    refine (f1.out w7 (h0.trans m0)).mono ?_
    rintro e w8 ⟨rfl, rfl⟩
    go_wp2_with fail
    refine (m1.out w8 (h0.trans m0)).mono ?_
    rintro e w9 ⟨rfl, e0⟩
    go_wp2_with fail
    refine (u1.out w9 ((h0.trans m0).trans e0)).mono ?_
    rintro e w10 ⟨rfl, rfl⟩
    go_wp2_with fail
    refine (t1.out w10 ((h0.trans m0).trans e0)).mono ?_
    rintro e w11 ⟨rfl, d0⟩
    go_wp2_with fail
    go_ret
    exact ⟨rfl, c0.trans (((h0.trans m0).trans e0).trans d0)⟩
  · exact absurd rfl (i1 _ (List.mem_singleton.2 rfl))
end
section
open Go.RowKit Go.Maps
theorem ZG7 {b:List UInt8} {P:List Dc} (h:openD b=some P) (hb:b.length<=60000):SegP P:=by
 obtain⟨h1,_,h3⟩:=ZGR h;refine⟨⟨h3,ZC5 hb P ?_⟩,h1⟩;unfold openD at h;split at h
 ·split at h
  ·split at h
   ·rename_i Q hQ;split at h
    ·injection h with h;rw[<-h];exact hQ
    ·cases h
   ·cases h
  ·cases h
 ·cases h
theorem ZKX {n c k:Nat} {A:Option Addr} (h:k<=c) :
 ∃A',(∀W:World,(Instr.sliceAt 22 (.slice A n c) none (some (.int .i64 k)) none).run Tryz.prog W = .ok (.slice A' k c) W)/\((∀a,A=some a->a.spot=none)->A'=A):=by
 have ht:=Tryz.underlying22;have he:Tryz.prog.elem 22=39:=by unfold Program.elem;rw[ht]
 have hs:∀W:World,(sizeOf 39).run Tryz.prog W = .ok 3 W:=fun W=>by kernel_rfl
 refine⟨if c=0 then A else A.map fun x=>x.add (0*3),fun W=>?_,fun hA=>?_⟩
 ·rw[run_sliceAt_slice W _ _ _ _ _ (by rw[ht,he]),run_slice_h W _ A n c (by rw[ht,he]) .i64 k (by omega) (by omega),he,hs];simp only[Result.andThen_ok];congr 1
 ·cases A with
  | none=>simp
  | some a =>
   obtain⟨b,o,sp⟩:=a;obtain rfl:sp=none:=hA _ rfl;simp[Addr.add_lit]
theorem DocsOk.take {w:World} {A A':Option Addr} {ds:List DocC} (h:DocsOk w A ds) (k:Nat) (hA:ds ≠ []->A'=A):DocsOk w A' (ds.take k):=by
 refine⟨?_,fun x hx=>h.each x (List.mem_of_mem_take hx)⟩;by_cases q0:ds = []
 ·left;rw[q0];simp[dcells]
 ·rw[hA q0];rcases h.cells with hc | ⟨g,o,hg,hc⟩
  ·left;have h0:ds.length=0:=by
    have:=congrArg List.length hc;rw[ZEc,List.length_nil]at this;omega
   exact absurd (List.length_eq_zero_iff.1 h0) q0
  ·refine .inr ⟨g,o,hg,fun i v hv=>hc i v ?_⟩;unfold dcells at hv ⊢;rw[Z4 (f:=DocC.cells) (k:=3) (fun _=>rfl),List.getElem?_take]at hv;split at hv
   ·exact hv
   ·cases hv
theorem ZKG (A:Option Addr) (n c:Nat) (ds:List DocC) (w:World) (hn:n=ds.length) (hc:n<=c) (h:DocsOk w A ds) (k0:ds ≠ []->∀a,A=some a->a.spot=none) :
 Calls Tryz.prog 8 #[.slice A n c] w fun e w'=>DocsA (fewD ((dcs ds).take 25)) w e w':=by
 obtain⟨k,hk⟩:∃k,k=min n 25:=⟨_,rfl⟩
 have j0:=Zf (P:=Tryz.prog) #[3,3] 3 (x:=(n:Int)) (y:=25) (m:=(k:Int)) (by omega);obtain⟨A',m0,hA⟩:=ZKX (n:=n) (c:=c) (k:=k) (A:=A) (by omega);have hd:=h.take (A':=A') 25 (fun g0=>hA (k0 g0));have hlen:k=(ds.take 25).length:=by rw[List.length_take,<-hn];omega
 have h0:=ZKf A' c k (ds.take 25) w hlen hd;have p0:dcs (ds.take 25)=(dcs ds).take 25:=by unfold dcs;rw[List.map_take]
 rw[p0]at h0;obtain⟨PF,q0⟩:∃PF,PF=fewD ((dcs ds).take 25):=⟨_,rfl⟩
 rw[<-q0]at h0 ⊢;replace h0:=ZA h0;replace hk:=ZA hk;replace hn:=ZA hn;clear hd hlen p0 q0 h k0 hA;go_enter Tryz.func8,Tryz.ntmps8;go_wp2_with fail;refine h0.out.mono ?_;rintro e w1 ⟨hE,l,B,d,hl,rfl,ho⟩;go_wp2_with fail;go_ret;exact⟨hE,l,B,d,hl,rfl,ho⟩
theorem ZLB (A:Option Addr) (n c:Nat) (l:List UInt8) (w:World) (h:In8 w A n c l):Calls Tryz.prog 17 #[.slice A n c] w fun e w'=>∃n',e = .returned (.slice A n' c)/\n'<=9000/\In8 w A n' c (l.take 9000)/\w'=w:=by
 have q0:=h.cap;have hl:=h.len;obtain⟨k,hk⟩:∃k,k=min n 9000:=⟨_,rfl⟩
 have k0:=Zf (P:=Tryz.prog) #[3,3] 3 (x:=(n:Int)) (y:=9000) (m:=(k:Int)) (by omega);obtain⟨j0,h0⟩:=h.headk .i64 (k:=k) (by omega) (z:=(k:Int)) rfl;have ht:l.take k=l.take 9000:=by
  rcases Nat.le_total n 9000 with h9 | h9
  ·rw[List.take_of_length_le (by omega),List.take_of_length_le (by omega)]
  ·rw[hk,Nat.min_eq_right h9]
 rw[ht]at h0;have p0:k<=9000:=by omega
 replace hk:=ZA hk;replace h0:=ZA h0;clear hl ht;go_enter Tryz.func17,Tryz.ntmps17;go_wp2_with fail;go_ret;exact⟨k,rfl,p0,h0.out,rfl⟩
end
section
open Go.RowKit
def decG (b:List UInt8):Option (List Dc):=if b.length<4 then none else match getF (b.drop 4)with
 | .error _=>none
 | .ok (p,_)=>match decDs p with
  | none=>none
  | some P=>if 0<P.length/\segL P=b then some P else none
theorem ZEd:∀(ps:List (List UInt8)),∀p∈ps,p.length<=(joinL ps).length
 | q::ps,p,h=>by
  have hl:(joinL (q::ps)).length=(frameL q).length+(joinL ps).length:=by unfold joinL;rw[List.flatMap_cons,List.length_append]
  have hq:q.length<=(frameL q).length:=by unfold frameL;rw[List.length_append];omega
  rcases List.mem_cons.1 h with rfl | h
  ·omega
  ·have:=ZEd ps p h;omega
theorem ZIN {b:List UInt8} {P:List Dc} (h:decDs b=some P):(blockD 0 P).length<=b.length/\∀d∈P,I64ok' d.2.at_:=by
 have h0:=ZAV h;unfold decDs at h;split at h
 ·cases h
 ·split at h
  ·cases h
  ·split at h
   ·cases h
   ·split at h
    ·cases h
    ·rename_i ds e3;split at h
     ·injection h with h;subst h;have q:=ZB5 _ _ _ _ e3;refine⟨?_,fun d hd=>(q.2.2 d hd).1⟩;have:(encDs ds).length=b.length:=by rw[h0.2]
      unfold encDs at this;rw[List.length_append]at this;omega
     ·cases h
theorem ZN0 (b:List UInt8) (hb:b.length<=60000):decG b=openD b:=by
 cases h:decG b with
 | some P =>
  unfold decG at h;split at h
  ·cases h
  ·split at h
   ·cases h
   ·rename_i p r hg;split at h
    ·cases h
    ·rename_i Q hQ;split at h
     ·rename_i hc;injection h with h;subst h;have h1:=ZIN hQ;have h2:=(ZAT hg).2.2;rw[List.length_drop]at h2;have hP:SegP Q:=⟨⟨(ZAV hQ).1,by omega⟩,hc.1⟩
      have j0:∀p∈framesD Q,p.length<=16777216:=fun x hx=>by
       have h3:=ZEd _ x hx;have h4:(segL Q).length=4+(joinL (framesD Q)).length:=by unfold segL;rw[List.length_append];rfl
       rw[hc.2]at h4;omega
      have h5:=ZDp hP j0 h1.2;rw[hc.2]at h5;exact h5.symm
     ·cases h
 | none =>
  cases h2:openD b with
  | none=>rfl
  | some P =>
   obtain⟨p0,k0,g0⟩:=ZGR h2;unfold openD at h2;split at h2
   ·split at h2
    ·rename_i hs;split at h2
     ·rename_i Q hQ;split at h2
      ·injection h2 with h2;subst h2;have h0:b.drop 4 ≠ []:=fun e=>by rw[e,ZEE]at hs;simp at hs
       have q0:¬ b.length<4:=fun hl=>h0 (List.drop_of_length_le (by omega));unfold decG at h;rw[if_neg q0]at h;cases hg:getF (b.drop 4)with
       | error k =>
        rw[ZEV h0 hg]at hs;simp at hs
       | ok q =>
        obtain⟨p,r⟩:=q;rw[ZDO h0 hg]at hQ;simp only[List.headD_cons]at hQ;rw[hg]at h;simp only at h;rw[hQ]at h;simp only at h;rw[if_pos ⟨p0,k0⟩]at h;cases h
      ·cases h2
     ·cases h2
    ·cases h2
   ·cases h2
theorem ZLm (A : Option Addr) (n c : Nat) (l : List UInt8) (w0 w : World) (h : In8 w0 A n c l) (hw : Ext w0 w) (j2 : n ≤ 1000000000) :
    Calls Tryz.prog 68 #[.slice A n c] w fun e w' => GotF w0 w (getF l) e w' := by
  have hg := ZBX A n c l w0 w h hw j2
  have o0 := ZA h.len
  obtain ⟨Z, hZ⟩ : ∃ Z, Z = getF l := ⟨_, rfl⟩
  rw [← hZ]
  unfold getF at hZ
  cases hv : getV 0 l with
  | error k =>
    rw [hv] at hg hZ
    simp only at hZ
    rcases ZDu l 0 k hv with rfl | rfl
    · rw [if_pos rfl] at hZ
      replace hZ := ZA hZ
      replace hg := ZA hg
      clear h hv
      go_enter Tryz.func68, Tryz.ntmps68
      go_wp2_with fail
      refine hg.out.mono ?_
      rintro e w1 ⟨q0, rfl⟩
      go_wp2_with fail
      go_ret3
      exact GotF.no q0 hZ.out
    · rw [if_neg (by omega)] at hZ
      replace hZ := ZA hZ
      replace hg := ZA hg
      clear h hv
      go_enter Tryz.func68, Tryz.ntmps68
      go_wp2_with fail
      refine hg.out.mono ?_
      rintro e w1 ⟨q0, rfl⟩
      go_wp2_with fail
      go_ret3
      exact GotF.no q0 hZ.out
  | ok p =>
    obtain ⟨m, r⟩ := p
    have m2 := Zp hv
    have u2 := Zk hv
    obtain ⟨hd, n0, p2⟩ := ZBO l 0 m r [] hv
    have m0 : l.length - r.length = hd.length := by rw [n0, List.length_append]; omega
    rw [hv] at hg hZ
    simp only at hZ
    unfold Got at hg
    simp only at hg
    replace hg := ZA hg
    clear hv p2
    by_cases l0 : 16777216 < m
    · rw [if_pos l0] at hZ
      replace hZ := ZA hZ
      have h2 : (16777216 : Int) < m := by omega
      clear h
      go_enter Tryz.func68, Tryz.ntmps68
      go_wp2_with fail
      refine hg.out.mono ?_
      rintro e w1 ⟨q0, A1, c1, rfl, hi1⟩
      go_wp2_with fail
      go_ret3
      exact GotF.no q0 hZ.out
    · rw [if_neg l0] at hZ
      have h2 : ¬ (16777216 : Int) < m := by omega
      have o2 : IntKind.i64.wrap (m : Int) = (m : Int) := by
        simp [IntKind.wrap, IntKind.bits, IntKind.signed]
        omega
      by_cases r1 : r.length < 4 + m
      · rw [if_pos r1] at hZ
        replace hZ := ZA hZ
        clear h
        by_cases l2 : r.length < 4
        · have o1 : (r.length : Int) < 4 := by omega
          go_enter Tryz.func68, Tryz.ntmps68
          go_wp2_with fail
          refine hg.out.mono ?_
          rintro e w1 ⟨q0, A1, c1, rfl, hi1⟩
          go_wp2_with fail
          go_ret3
          exact GotF.no q0 hZ.out
        · have o1 : ¬ (r.length : Int) < 4 := by omega
          have a2 : (r.length : Int) - 4 < (m : Int) := by omega
          have f2 : r.length ≤ 1000000000 := by have := o0.out; omega
          go_enter Tryz.func68, Tryz.ntmps68
          go_wp2_with fail
          refine hg.out.mono ?_
          rintro e w1 ⟨q0, A1, c1, rfl, hi1⟩
          go_wp2_with fail
          go_ret3
          exact GotF.no q0 hZ.out
      · rw [if_neg r1] at hZ
        have o1 : ¬ (r.length : Int) < 4 := by omega
        have a2 : ¬ (r.length : Int) - 4 < (m : Int) := by omega
        obtain ⟨k2, h1⟩ := h.headk .i64 (k := l.length - r.length) (by have := o0.out; omega) (z := (n : Int) - (r.length : Int)) (by have := o0.out; omega)
        rw [m0] at k2 h1
        have i2 : r.length ≤ n := by have := o0.out; omega
        have z2 : r.length ≤ 1000000000 := by omega
        replace hZ := ZA hZ
        replace h1 := ZA h1
        replace m0 := ZA m0
        replace n0 := ZA n0
        clear h u2
        go_enter Tryz.func68, Tryz.ntmps68
        go_wp2_with fail
        refine hg.out.mono ?_
        rintro e w1 ⟨q0, A1, c1, rfl, hi1⟩
        obtain ⟨A2, c2, e2, g1⟩ := hi1.subk .i64 .i64 (fr := 4) (k := m) (by omega) (z0 := 4) (z := 4 + (m : Int)) rfl rfl
        obtain ⟨A3, c3, n2, m1⟩ := hi1.fromk .i64 (fr := 4 + m) (by omega) (z := 4 + (m : Int)) (by omega)
        have a0 := hw.trans q0
        have v0 : Ext w1 (w1.alloc (.cells #[] 5)) := (Ext.refl w1).alloc _
        have j1 : Buf (w1.alloc (.cells #[] 5)) w1.heap.size 5 (some ⟨w1.heap.size, 0, none⟩) 0 0 [] := ZCT w1 [] 5 (by simp)
        have d2 := v0.size
        have u0 : ((r.drop 4).take m).length = m := by rw [List.length_take, List.length_drop]; omega
        have q1 : (l.take hd.length).length = hd.length := by rw [List.length_take, n0.out, List.length_append]; omega
        have j0 := h1.out.ext (a0.trans v0)
        have p0 := g1
        obtain ⟨hh, k0⟩ : ∃ hh, hh = l.take hd.length := ⟨_, rfl⟩
        obtain ⟨pl, g0⟩ : ∃ pl, pl = (r.drop 4).take m := ⟨_, rfl⟩
        have p1 := hZ.out
        rw [m0.out, ← k0, ← g0] at p1
        rw [← k0] at q1 j0
        rw [← g0] at u0 p0
        have s0 : (r.drop (4 + m)).length = r.length - (4 + m) := List.length_drop
        have v2 := ZA (hi1.bytes)
        have g2 : hd.length + m ≤ 1000000000 := by have := o0.out; have := congrArg List.length n0.out; rw [List.length_append] at this; omega
        replace p1 := ZA p1
        replace g0 := ZA g0
        replace k0 := ZA k0
        replace u0 := ZA u0
        replace q1 := ZA q1
        replace s0 := ZA s0
        replace g1 := ZA g1
        replace m1 := ZA m1
        replace hi1 := ZA hi1
        replace j1 := ZA j1
        replace j0 := ZA j0
        replace p0 := ZA p0
        replace v0 := ZA v0
        go_wp2_with (at_builtin; first
          | (refine ZG ZV j1.out j0.out.bytes (.tmp 47) (.tmp 50) rfl rfl rfl rfl rfl (by rw [List.length_map]; exact q1.out) (ZF _) (by omega) d2 (fun A4 c4 w4 i0 _ k1 _ => ?_)
             have e0 := ZA (k1 w1 v0.out (Nat.le_refl _))
             have d0 := ZA (k1 w0 (a0.trans v0.out) a0.size)
             rw [Nat.zero_add, List.nil_append] at i0
             replace i0 := ZA i0
             clear k1)
          | (refine ZG ZV i0.out ((p0.out.ext d0.out).bytes) (.tmp 51) (.tmp 52) rfl rfl rfl rfl rfl (by rw [List.length_map]; exact u0.out) (ZF _) (by omega) e0.out.size (fun A5 c5 w5 r0 _ i1 _ => ?_)
             have f0 := ZA (i1 w1 e0.out (Nat.le_refl _))
             rw [← List.map_append] at r0
             have t2 := ZA (ZNB A5 _ c5 _ w5 w5 r0.in8 (Ext.refl w5) (by omega))
             replace r0 := ZA r0
             clear i1 d0 i0))
        refine t2.out.mono ?_
        rintro e w6 ⟨rfl, rfl⟩
        obtain ⟨g, hg⟩ : ∃ g, g = cnext 0 (hh ++ pl) := ⟨_, rfl⟩
        have h0 := p1.out
        rw [← hg] at h0
        obtain ⟨x0, t1⟩ : ∃ x, r[0]? = some x := ⟨_, List.getElem?_eq_getElem (by omega)⟩
        obtain ⟨x1, v1⟩ : ∃ x, r[1]? = some x := ⟨_, List.getElem?_eq_getElem (by omega)⟩
        obtain ⟨x2, u1⟩ : ∃ x, r[2]? = some x := ⟨_, List.getElem?_eq_getElem (by omega)⟩
        obtain ⟨x3, z1⟩ : ∃ x, r[3]? = some x := ⟨_, List.getElem?_eq_getElem (by omega)⟩
        have l1 : be (r.take 4) = x0.toNat * 16777216 + x1.toNat * 65536 + x2.toNat * 256 + x3.toNat := by
          rw [ZAG z1, ZDo, ZAG u1, ZDo, ZAG v1, ZDo, ZAG t1, ZDo]
          simp only [List.take_zero, be, List.foldl_nil]
          omega
        rw [l1] at h0
        obtain ⟨q, o, s1, hc⟩ := Cells.at_ (xs := r.map B8) (v2.out.ext (a0.trans f0.out).drew) (by rw [List.length_map]; omega)
        have c0 := hc 0 (B8 x0) (by rw [List.getElem?_map, t1]; rfl)
        have c1' := hc 1 (B8 x1) (by rw [List.getElem?_map, v1]; rfl)
        have c2' := hc 2 (B8 x2) (by rw [List.getElem?_map, u1]; rfl)
        have c3' := hc 3 (B8 x3) (by rw [List.getElem?_map, z1]; rfl)
        unfold B8 at c0 c1' c2' c3'
        simp [Addr.add] at c0 c1' c2' c3'
        have b0 := x0.toNat_lt
        have b1 := x1.toNat_lt
        have b2 := x2.toNat_lt
        have b3 := x3.toNat_lt
        subst s1
        obtain ⟨y0, a1⟩ : ∃ y, y = x0.toNat := ⟨_, rfl⟩
        obtain ⟨y1, d1⟩ : ∃ y, y = x1.toNat := ⟨_, rfl⟩
        obtain ⟨y2, e1⟩ : ∃ y, y = x2.toNat := ⟨_, rfl⟩
        obtain ⟨y3, f1⟩ : ∃ y, y = x3.toNat := ⟨_, rfl⟩
        rw [← a1] at h0 c0 b0
        rw [← d1] at h0 c1' b1
        rw [← e1] at h0 c2' b2
        rw [← f1] at h0 c3' b3
        replace a1 := ZA a1
        replace d1 := ZA d1
        replace e1 := ZA e1
        replace f1 := ZA f1
        clear t1 v1 u1 z1 l1 hc
        have t0 := ZA f0.out
        by_cases n1 : g = y0 * 16777216 + y1 * 65536 + y2 * 256 + y3
        · rw [if_pos n1] at h0
          have q2 : (g : Int) = (y0 : Int) * 16777216 + (y1 : Int) * 65536 + (y2 : Int) * 256 + (y3 : Int) := by omega
          replace h0 := ZA h0
          go_wp2_with fail
          refine ZB follows (by kernel_rfl) (by kernel_rfl) (fun K hK => ?_)
          go_wp2_with fail
          refine ⟨by kernel_rfl, ?_⟩
          go_wp2_with fail
          refine ZB follows (by kernel_rfl) (by kernel_rfl) (fun K hK => ?_)
          go_wp2_with fail
          refine ⟨by kernel_rfl, ?_⟩
          go_wp2_with fail
          go_ret3
          rw [h0.out]
          exact ⟨(q0.trans t0.out).drew.drew, A2, c2, A3, c3, by rw [u0.out, s0.out]; rfl, by rw [u0.out]; exact p0.out.ext (a0.trans t0.out).drew.drew, by rw [s0.out]; exact m1.out⟩
        · rw [if_neg n1] at h0
          have q2 : ¬ (g : Int) = (y0 : Int) * 16777216 + (y1 : Int) * 65536 + (y2 : Int) * 256 + (y3 : Int) := by omega
          replace h0 := ZA h0
          go_wp2_with fail
          refine ZB follows (by kernel_rfl) (by kernel_rfl) (fun K hK => ?_)
          go_wp2_with fail
          refine ⟨by kernel_rfl, ?_⟩
          go_wp2_with fail
          go_ret3
          exact GotF.no (q0.trans t0.out).drew h0.out
end
section
open Go.RowKit Go.Maps
def DecA (w:World) (res:Option (List Dc)) (e:Ending) (w':World):Prop:=Ext w w'/\match res with
 | some P=>∃(l:List DocC) (A:Option Addr) (c:Nat),dcs l=P/\e = .returned (.tuple #[.slice A l.length c,.int .i64 0])/\DocsOwn w' w.heap.size A c l
 | none=>e = .returned (.tuple #[.slice none 0 0,.int .i64 130])
theorem DecA.no {w w':World} {res:Option (List Dc)} (hE:Ext w w') (h:res=none):DecA w res (.returned (.tuple #[.slice none 0 0,.int .i64 130])) w':=by
 subst h;exact⟨hE,rfl⟩
theorem ZFT (A:Option Addr) (n c:Nat) (b:List UInt8) (w:World) (h:In8 w A n c b) (hb:b.length<=60000) :
 Calls Tryz.prog 19 #[.slice A n c] w fun e w'=>DecA w (openD b) e w':=by
 obtain⟨Z,hZ⟩:∃Z,Z=openD b:=⟨_,rfl⟩
 rw[<-hZ];rw[<-ZN0 b hb]at hZ;unfold decG at hZ;have l0:=h.len;by_cases s0:b.length<4
 ·rw[if_pos s0]at hZ;have hd:(n:Int)<4:=by omega
  replace hZ:=ZA hZ;clear h l0;go_enter Tryz.func19,Tryz.ntmps19;go_wp2_with fail;go_ret2;exact DecA.no (Ext.refl _) hZ.out
 ·rw[if_neg s0]at hZ;have hd:¬ (n:Int)<4:=by omega
  obtain⟨A4,c4,o0,f0⟩:=h.from_ (fr:=4) (by omega) (z:=4) rfl;have q0:=ZLm A4 (n - 4) c4 (b.drop 4) w w f0 (Ext.refl w) (by omega);obtain⟨n4,n0⟩:∃n4,n4=n - 4:=⟨_,rfl⟩
  rw[<-n0]at o0 q0;replace n0:=ZA n0;have h1:=ZA l0;clear l0;cases hg:getF (b.drop 4)with
  | error k =>
   rw[hg]at q0 hZ;have hk:=ZGL hg;have g1:((k:Int) != 0)=true:=by simp;omega
   replace hZ:=ZA hZ;replace q0:=ZA q0;clear hg hk f0 h;go_enter Tryz.func19,Tryz.ntmps19;go_wp2_with fail;refine q0.out.mono ?_;rintro e w1 ⟨k0,rfl⟩;go_wp2_with fail;go_ret2;exact DecA.no k0 hZ.out
  | ok q =>
   obtain⟨p,r⟩:=q;have p1:=(ZAT hg).2.2;rw[List.length_drop]at p1;rw[hg]at q0 hZ;simp only at hZ;unfold GotF at q0;simp only at q0;replace q0:=ZA q0;clear hg f0;cases j0:decDs p with
   | none =>
    rw[j0]at hZ;have z0:=ZA (fun A n c W (h:In8 W A n c p) (i0:n<=50000000)=>ZB9 A n c p W h i0);rw[ZKd p (by omega),j0]at z0;replace hZ:=ZA hZ;clear j0;go_enter Tryz.func19,Tryz.ntmps19;go_wp2_with fail;refine q0.out.mono ?_;rintro e w1 ⟨k0,Ap,cp,Ar,cr,rfl,b0,_⟩;have y0:=ZA (z0.out Ap p.length cp w1 b0 (by omega));go_wp2_with fail;refine y0.out.mono ?_;rintro e w2 ⟨x0,hr⟩;simp only at hr;subst hr;go_wp2_with fail;go_ret2;exact DecA.no (k0.trans x0) hZ.out
   | some P =>
    rw[j0]at hZ;simp only at hZ;have z0:=ZA (fun A n c W (h:In8 W A n c p) (i0:n<=50000000)=>ZB9 A n c p W h i0);rw[ZKd p (by omega),j0]at z0;have j1:=(ZIN j0).1;have q1:=(ZAV j0).1;have e0:SmP P:=⟨q1,by omega⟩
    replace e0:=ZA e0;clear j0;go_enter Tryz.func19,Tryz.ntmps19;go_wp2_with fail;refine q0.out.mono ?_;rintro e w1 ⟨k0,Ap,cp,Ar,cr,rfl,b0,_⟩;have y0:=ZA (z0.out Ap p.length cp w1 b0 (by omega));replace k0:=ZA k0;clear b0;go_wp2_with fail;refine y0.out.mono ?_;rintro e w2 ⟨x0,l,A2,c2,c0,rfl,p0⟩;have m0:=ZA (k0.out.trans x0);obtain⟨m,hm⟩:∃m,m=l.length:=⟨_,rfl⟩
    have m1:P.length=m:=by rw[<-c0,hm];exact List.length_map ..
    have k1:P.length<=65536:=e0.out.seg.n;by_cases h0:0<m
    ·have v0:=ZB2 l A2 m c2 w2 hm p0.ok (by rw[c0];exact e0.out) h0;rw[c0]at v0;rw[<-hm];replace v0:=ZA v0;have g0:=ZA (p0.lower k0.out.size);replace hm:=ZA hm;clear x0 p0 y0;go_wp2_with fail;refine v0.out.mono ?_;rintro e w3 ⟨A3,c3,rfl,r0,t0⟩;obtain⟨n3,d0⟩:∃n3,n3=(segL P).length:=⟨_,rfl⟩
     have t1:=Zr (A:=A3) (l:=segL P) (w:=w3) r0.2.cells n3 c3 d0;have v1:=Zr (A:=A) (l:=b) (w:=w3) ((h.ext (m0.out.trans t0)).bytes) n c h1.out;rw[<-d0];replace d0:=ZA d0;have u0:=ZA (m0.out.trans t0);have a0:=ZA (g0.out.ext t0);clear r0 t0 g0;by_cases he:segL P=b
     ·rw[if_pos ⟨by omega,he⟩]at hZ;have w0:(!(segL P==b))=false:=by rw[he];simp
      replace hZ:=ZA hZ;go_wp2_with fail;go_ret2;rw[hZ.out];exact⟨u0.out,l,A2,c2,c0,by rw[<-hm.out];rfl,a0.out⟩
     ·rw[if_neg (fun x=>he x.2)]at hZ;have w0:(!(segL P==b))=true:=by simp[he]
      replace hZ:=ZA hZ;go_wp2_with fail;go_ret2;exact DecA.no u0.out hZ.out
    ·have v0:=ZA (ZCl l A2 m c2 w2 hm p0.ok (by omega) (.inr (by omega)));rw[if_neg (by omega)]at hZ;rw[<-hm];replace hZ:=ZA hZ;replace hm:=ZA hm;clear x0 p0 y0;go_wp2_with fail;refine v0.out.mono ?_;rintro e w3 ⟨rfl,t0⟩;go_wp2_with fail;go_ret2;exact DecA.no (m0.out.trans t0) hZ.out
end
section
open Go.RowKit Go.Maps
def segX (P:List Dc):List UInt8:=if okDs P=true/\0<P.length then segL P else []
def segC (P:List Dc):Int:=if okDs P=true/\0<P.length then 0 else 130
def EncA (w:World) (P:List Dc) (e:Ending) (w':World):Prop:=∃(A:Option Addr) (n c:Nat),e = .returned (.tuple #[.slice A n c,.int .i64 (segC P)])/\n=(segX P).length/\Bs w' A (segX P)/\Ext w w'
theorem EncA.ok {w:World} {P:List Dc} (h:okDs P=true/\0<P.length) {e:Ending} {w':World} (ho:OkB w (segL P) e w'):EncA w P e w':=by
 obtain⟨A,c,rfl,hO,hE⟩:=ho;have e1:segX P=segL P:=if_pos h;have e2:segC P=0:=if_pos h;exact⟨A,_,c,by rw[e2],by rw[e1],by rw[e1];exact hO.2.cells,hE⟩
theorem EncA.no {w:World} {P:List Dc} (h:¬ (okDs P=true/\0<P.length)) {e:Ending} {w':World} (ho:e = .returned (.tuple #[.slice none 0 0,.int .i64 130])/\Ext w w'):EncA w P e w':=by
 obtain⟨rfl,hE⟩:=ho;have e1:segX P = []:=if_neg h;have e2:segC P=130:=if_neg h;exact⟨none,0,0,by rw[e2],by rw[e1];rfl,by rw[e1];exact .inl rfl,hE⟩
theorem ZED (ds:List DocC) (A:Option Addr) (m c:Nat) (w:World) (hm:m=ds.length) (h:DocsOk w A ds) (hA:∀a,A=some a->a.spot=none) (q0:m<=c) (hs:okDs (dcs ds)=true->SmP (dcs ds)) (p0:m<=1000000) :
 Calls Tryz.prog 9 #[.slice A m c] w fun e w'=>EncA w (dcs ds) e w':=by
 have hl:(dcs ds).length=m:=by unfold dcs;rw[List.length_map,hm]
 by_cases hk:okDs (dcs ds)=true/\0<(dcs ds).length
 ·exact(ZAM ds A m c w hm h hA q0 (hs hk.1) (by omega)).mono fun _ _=>EncA.ok hk
 ·exact(ZBM ds A m c w hm h hA q0 (by omega) (by
   by_cases h0:m=0
   ·exact .inr h0
   ·exact .inl (by
     cases e:okDs (dcs ds)with
     | false=>rfl
     | true=>exact absurd ⟨e,by omega⟩ hk))).mono fun _ _=>EncA.no hk
theorem ZD8 (ds:List DocC) (A:Option Addr) (m c:Nat) (w:World) (hm:m=ds.length) (h:DocsOk w A ds) (hs:okDs (dcs ds)=true->SmP (dcs ds)) (q0:m<=1000000) :
 Calls Tryz.prog 18 #[.slice A m c] w fun e w'=>EncA w (dcs ds) e w':=by
 have hl:(dcs ds).length=m:=by unfold dcs;rw[List.length_map,hm]
 by_cases hk:okDs (dcs ds)=true/\0<(dcs ds).length
 ·exact(ZB2 ds A m c w hm h (hs hk.1) (by omega)).mono fun _ _=>EncA.ok hk
 ·exact(ZCl ds A m c w hm h (by omega) (by
   by_cases h0:m=0
   ·exact .inr h0
   ·exact .inl (by
     cases e:okDs (dcs ds)with
     | false=>rfl
     | true=>exact absurd ⟨e,by omega⟩ hk))).mono fun _ _=>EncA.no hk
theorem ZGF (A0 A1:Option Addr) (n0 c0 n1 c1:Nat) (ds:List DocC) (b0:List UInt8) (w:World) (hn:n0=ds.length) (hc:n0<=c0) (h:DocsOk w A0 ds) (q2:ds ≠ []->∀a,A0=some a->a.spot=none) (hb:In8 w A1 n1 c1 b0) :
 Calls Tryz.prog 4 #[.slice A0 n0 c0,.slice A1 n1 c1] w fun e w'=>e = .returned (.bool true)/\Ext w w':=by
 have f0:=ZA (ZKG A0 n0 c0 ds w hn hc h q2);have h8:=ZNP (P:=dcs ds) fun d hd=>by
  unfold dcs at hd;obtain⟨x,hx,rfl⟩:=List.mem_map.1 hd;exact(h.each x hx).2.1
 obtain⟨PF,l1⟩:∃PF,PF=fewD ((dcs ds).take 25):=⟨_,rfl⟩
 rw[<-l1]at f0 h8;have o1:=ZA (fun W=>ZHq W);clear l1 h hn hc q2;go_enter Tryz.func4,Tryz.ntmps4;go_wp2_with fail;refine f0.out.mono ?_;rintro e w1 ⟨g1,l,A,c,hl,rfl,i0⟩;have hcut:=ZA (ZLB A1 n1 c1 b0 w1 (hb.ext g1));have k1:=i0.ok;have y0:=i0.cap;obtain⟨m,hm⟩:∃m,m=l.length:=⟨_,rfl⟩
 rw[<-hm]at y0 ⊢;have j2:PF.length=m:=by rw[<-hl,hm];exact List.length_map ..
 have k2:m<=25:=by rw[<-j2];exact h8.n
 replace hm:=ZA hm;replace k1:=ZA k1;clear hb;go_wp2_with fail;refine hcut.out.mono ?_;rintro e w0 ⟨n,rfl,t2,d0,g2⟩;obtain rfl:=g2.symm;obtain⟨b,t0⟩:∃b,b=b0.take 9000:=⟨_,rfl⟩
 rw[<-t0]at d0;have r1:=d0.len;have y1:b.length<=60000:=by omega
 replace d0:=ZA d0;replace r1:=ZA r1;clear t0 hcut;have z0:=ZED l A m c w1 hm.out k1.out y0.2 y0.1 (by rw[hl];exact fun hk=>h8.sm hk) (by omega);have l0:=ZA (fun W (hE:Ext w1 W)=>ZD8 l A m c W hm.out (k1.out.ext hE) (by rw[hl];exact fun hk=>h8.sm hk) (by omega));rw[hl]at z0 l0;obtain⟨X,hX⟩:∃X,X=segX PF:=⟨_,rfl⟩
 obtain⟨C,hC⟩:∃C,C=segC PF:=⟨_,rfl⟩
 unfold EncA at z0 l0;rw[<-hX,<-hC]at z0 l0;replace hX:=ZA hX;replace hC:=ZA hC;replace z0:=ZA z0;go_wp2_with fail;refine z0.out.mono ?_;rintro e w2 ⟨Ax,nx,cx,rfl,a0,z1,r0⟩;replace a0:=ZA a0;replace z1:=ZA z1;replace r0:=ZA r0;have o0:=ZA (l0.out w2 r0.out);clear z0;go_wp2_with fail;refine o0.out.mono ?_;rintro e w3 ⟨Ay,ny,cy,rfl,h2,h1,u1⟩;obtain rfl:nx=ny:=a0.out.trans h2.symm;have e0:=ZA (z1.out.ext u1);have k0:=ZA (r0.out.trans u1);have p0:=ZD6 A1 n c1 b w3 (d0.out.ext k0.out) (by omega) (fun Q _ hQ=>ZC5 y1 Q hQ);have g0:=ZA (fun W (hE:Ext w3 W)=>ZFT A1 n c1 b W (d0.out.ext (k0.out.trans hE)) y1);clear h2 o0 l0 u1;replace h1:=ZA h1;cases m0:openD b with
 | none =>
  rw[m0]at g0;replace p0:=ZA p0;replace m0:=ZA m0;go_wp2_with fail;refine p0.out.mono ?_;rintro e w6 ⟨j0,h0⟩;rw[m0.out]at h0;simp only at h0;subst h0;have q1:=ZA (g0.out w6 j0);replace j0:=ZA j0;go_wp2_with fail;refine q1.out.mono ?_;rintro e w7 ⟨s0,h0⟩;simp only at h0;subst h0;have q0:=j0.out.trans s0;have e1:=Zr (A:=Ax) (l:=X) (w:=w7) (e0.out.ext q0) nx cx a0.out;have f1:=Zr (A:=Ay) (l:=X) (w:=w7) (h1.out.ext q0) nx cy a0.out;have x0:=ZA ((g1.trans k0.out).trans q0);go_wp2_with fail;refine(o1.out _).mono ?_;rintro e w9 ⟨rfl,x1⟩;go_wp2_with fail;go_ret;exact⟨rfl,x0.out.trans x1⟩
 | some Q =>
  have hQ:=ZG7 m0 y1;have m2:Q.length<=1000000000:=by have:=hQ.sm.seg.n;omega
  rw[m0]at g0;replace p0:=ZA p0;replace m0:=ZA m0;replace hQ:=ZA hQ;go_wp2_with fail;refine p0.out.mono ?_;rintro e w6 ⟨j0,h0⟩;rw[m0.out]at h0;simp only at h0;obtain⟨gq,rfl,d1⟩:=h0;have q1:=ZA (g0.out w6 j0);replace j0:=ZA j0;replace d1:=ZA d1;go_wp2_with fail;refine q1.out.mono ?_;rintro e w7 ⟨s0,l7,A7,c7,a1,rfl,v0⟩;have q0:=j0.out.trans s0;have e1:=Zr (A:=Ax) (l:=X) (w:=w7) (e0.out.ext q0) nx cx a0.out;have f1:=Zr (A:=Ay) (l:=X) (w:=w7) (h1.out.ext q0) nx cy a0.out;have x0:=ZA ((g1.trans k0.out).trans q0);have p2:=ZA (fun W (hE:Ext w7 W)=>ZLr gq Q W (d1.out.ext (s0.trans hE)) hQ.out);have b1:=ZA v0.ok;obtain⟨n7,p1⟩:∃n7,n7=l7.length:=⟨_,rfl⟩
  rw[<-p1];replace p1:=ZA p1;replace a1:=ZA a1;clear v0 q1;go_wp2_with fail;refine(p2.out w7 (Ext.refl _)).mono ?_;rintro e w8 ⟨i1,l8,A8,c8,s1,rfl,u0⟩;have j1:=ZGe l8 l7 A8 A7 c8 c7 w8 u0.ok (b1.out.ext i1) (by rw[s1,a1.out]) (by
   have:l8.length=Q.length:=by rw[<-s1];exact(List.length_map ..).symm
   omega)
  rw[<-p1.out]at j1;have t1:=ZA (x0.out.trans i1);replace j1:=ZA j1;clear u0;go_wp2_with fail;refine j1.out.mono ?_;rintro e w9 ⟨rfl,x1⟩;have v1:=ZA (t1.out.trans x1);go_wp2_with fail;refine(o1.out _).mono ?_;rintro e w10 ⟨rfl,m1⟩;go_wp2_with fail;go_ret;exact⟨rfl,v1.out.trans m1⟩
end
section
open Go.ChangeShapes Go.WideShapes Go.Deep Go.RowKit
section
variable {H:Type} {enc:TypeId×Value->H} {w:World} {base:Nat} {spare:Nat->Bool} {held:Bool}
theorem ZOu {fuel:Nat} {cs:List Value} {y:DataW H×List MemPlace} (q0:cs.length=2) (h:DataW.trod enc Tryz.prog w base spare held fuel 105 cs=some y) :
 ∃f:Fd,(f.1.length<=9223372036854775807/\f.2.length<=9223372036854775807)/\f.cells=cs:=by
 obtain⟨n,one⟩:=ZGN (tys:=#[9,9]) Tryz.underlying105 (by kernel_rfl) (by kernel_rfl) h
 match cs,q0 with
 | [v0,v1],_ =>
  obtain⟨z0,h0⟩:=one 0 _ v0 rfl rfl;obtain⟨s0,e0,_,w0⟩:=DataW.trod_string Tryz.underlying9 h0;obtain rfl:v0 = .string s0:=by simpa using e0
  obtain⟨z1,h1⟩:=one 1 _ v1 rfl rfl;obtain⟨s1,e1,_,w1⟩:=DataW.trod_string Tryz.underlying9 h1;obtain rfl:v1 = .string s1:=by simpa using e1
  refine⟨(s0.data.toList,s1.data.toList),⟨(ZCv w0).2,(ZCv w1).2⟩,?_⟩;unfold Fd.cells;rw[(ZCv w0).1,(ZCv w1).1]
theorem ZOz {fuel:Nat} {cs:List Value} {y:DataW H×List MemPlace} (q0:cs.length=2) (h:DataW.trod enc Tryz.prog w base spare held fuel 37 cs=some y) :
 ∃x:EvC,(x.e.Ok w x.A/\I64ok' x.e.at_)/\x.cells=cs:=by
 obtain⟨n,one⟩:=ZGN (tys:=#[3,35]) Tryz.underlying37 (by kernel_rfl) (by kernel_rfl) h
 match cs,q0 with
 | [v0,v1],_ =>
  obtain⟨z0,h0⟩:=one 0 _ v0 rfl rfl;obtain⟨k0,e0,_,w0⟩:=DataW.trod_int Tryz.underlying3 h0;obtain rfl:v0 = .int .i64 k0:=by simpa using e0
  obtain⟨z1,h1⟩:=one 1 _ v1 rfl rfl;obtain⟨A,c,fs,rfl,hc,_,_,hl,p0⟩:=ZF9 (cellsA:=Fd.cells) Tryz.underlying35 (by kernel_rfl) (by omega:0<2) (fun _=>rfl) (fun _ _ _ a b=>ZOu a b) h1;exact⟨⟨⟨k0,fs⟩,A,c⟩,⟨⟨hc,hl,p0⟩,ZM9 w0⟩,rfl⟩
end
end
section
open Go.ChangeShapes Go.WideShapes Go.ChangeAt Go.RowKit
theorem ZMl {H:Type} {enc:TypeId×Value->H} {w:World} {r:Go.Reach} {base base':Nat} {t e:TypeId} {fuel:Nat} {a:Option Addr} {len cap:Nat} {x:DataW H×List MemPlace} {spare:Nat->Bool} {held:Bool}
 (ht:Tryz.prog.underlying t=some (.slice e)) (he:Tryz.prog.underlying e=some (.int .u8)) (hc:Tryz.prog.cellsOf e=1) (hv:Value.okWide Tryz.prog w r base t (.slice a len cap))
 (h:DataW.trod enc Tryz.prog w base' spare held fuel t (Value.slice a len cap).cells.toList=some x):∃l,In8 w a len cap l:=by
 obtain⟨l,hl⟩:=ZIl ht he hc hv h;refine⟨l,hl.len,hl.bytes,hl.cap,fun ha=>?_,fun y hy=>?_⟩
 ·subst ha;rcases open_ints ht he hc h with ⟨h0,_⟩ | ⟨y,m,c,zs,h0,_⟩
  ·simp[Value.cells]at h0;exact h0.2
  ·simp[Value.cells]at h0
 ·subst hy;exact ZGi ht hv
end
section
open Go.ChangeShapes Go.WideShapes Go.Deep Go.RowKit
section
variable {H:Type} {enc:TypeId×Value->H} {w:World} {base:Nat} {spare:Nat->Bool} {held:Bool}
theorem ZN7 {fuel:Nat} {cs:List Value} {y:DataW H×List MemPlace} (t0:cs.length=3) (h:DataW.trod enc Tryz.prog w base spare held fuel 39 cs=some y) :
 ∃x:DocC,(x.e.Ok w x.A/\I64ok' x.e.at_/\I64ok' x.seq)/\x.cells=cs:=by
 obtain⟨y0,y1,n,_,_,h0,h1⟩:=trod_struct2 Tryz.underlying39 h
 match cs,t0 with
 | [v0,v1,v2],_ =>
  have g0:Tryz.prog.cellsOf 3=1:=by kernel_rfl
  have m0:Tryz.prog.cellsOf 37=2:=by kernel_rfl
  have p0:DataW.trod enc Tryz.prog w base spare held n 3 [v0]=some y0:=by
   have h2:=h0;simp only[g0]at h2;exact h2
  have j0:DataW.trod enc Tryz.prog w base spare held n 37 [v1,v2]=some y1:=by
   have h2:=h1;simp only[m0]at h2;exact h2
  obtain⟨k0,e0,_,w0⟩:=DataW.trod_int Tryz.underlying3 p0;obtain rfl:v0 = .int .i64 k0:=by simpa using e0
  obtain⟨x,⟨u0,x0⟩,q0⟩:=ZOz rfl j0;refine⟨⟨k0,x.e,x.A,x.c⟩,⟨u0,x0,ZM9 w0⟩,?_⟩;unfold EvC.cells at q0;unfold DocC.cells;rw[<-q0]
theorem ZNS {fuel:Nat} {v:Value} {x:DataW H×List MemPlace} (h:DataW.trod enc Tryz.prog w base spare held fuel 22 [v]=some x) :
 ∃(A:Option Addr) (c:Nat) (l:List DocC),v = .slice A l.length c/\DocsOk w A l/\l.length<=c/\l.length<=9223372036854775807/\(l ≠ []->∀a,A=some a->a.spot=none):=by
 obtain⟨A,c,l,rfl,hc,hs,h0,hl,hx⟩:=ZF9 (cellsA:=DocC.cells) (Q:=fun x:DocC=>x.e.Ok w x.A/\I64ok' x.e.at_/\I64ok' x.seq) Tryz.underlying22 (by kernel_rfl) (by omega:0<3) (fun _=>rfl) (fun _ _ _ a b=>ZN7 a b) h;exact⟨A,c,l,rfl,⟨hc,hx⟩,h0,hl,fun q0 a ha=>(hs q0 a ha).2⟩
end
end
end Go.Proofs.YtkdcnhnaiknaaaaGreat
