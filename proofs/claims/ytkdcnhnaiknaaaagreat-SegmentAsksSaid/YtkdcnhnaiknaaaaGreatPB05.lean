/- Texts of one proof, joined. -/
import Derived.Test.YtkdcnhnaiknaaaaGreatPB04
import Derived.IntWalk
import Derived.Test.YtkdcnhnaiknaaaaGreatPB03
set_option linter.unusedSimpArgs false
set_option linter.unusedVariables false
set_option maxRecDepth 100000
set_option maxHeartbeats 16000000
namespace Go.Proofs.YtkdcnhnaiknaaaaGreat
section
open Go.RowKit
theorem ZFA (g c a b : Nat) (D P X Q : List TmV) (w : World) (h : TR w g D) (hD : D = P ++ (X ++ Q)) (ha : a = P.length) (hb : b = P.length + X.length) (o0 : D.length ≤ 1073741824) :
    Calls Tryz.prog 198 #[.slice (some ⟨g, 0, none⟩) D.length c, .int .i64 (a : Int), .int .i64 (b : Int), cmpV] w fun e w' => e = .returned (.tuple #[]) ∧ ∃ S, Std X S ∧ TR w' g (P ++ (S ++ Q)) ∧ Chg (fun k => k = g) w w' := by
  obtain ⟨dl, v0⟩ : ∃ n, n = D.length := ⟨_, rfl⟩
  have j2 : b ≤ dl := by rw [v0, hD]; simp only [List.length_append]; omega
  rw [← v0] at o0 ⊢
  have e1 : a ≤ 1073741824 := by omega
  have l1 : b ≤ 1073741824 := by omega
  unfold cmpV
  by_cases hX : X = []
  · have i1 : b = a := by rw [hb, ha, hX]; rfl
    subst i1
    have q0 : TR w g (P ++ ([] ++ Q)) := by rw [← hX, ← hD]; exact h
    have t0 : Std X [] := by rw [hX]; exact ⟨List.Pairwise.nil, Stb.refl _⟩
    replace q0 := ZA q0
    replace t0 := ZA t0
    clear hX hD ha hb h v0
    go_enter Tryz.func198, Tryz.ntmps198
    go_wp2_with fail
    go_loopw [8] (fun s8 wr => s8 = .int .i64 ((b : Int) + 1) ∧ wr = w) (fun _ _ => 0)
    case atStart => exact ⟨rfl, rfl⟩
    case round =>
      obtain ⟨rfl, rfl⟩ := hrel
      have a0 : ¬ ((b : Int) + 1 < (b : Int)) := by omega
      go_wp2_with fail
      go_end0
      exact ⟨rfl, [], t0.out, q0.out, Chg.refl _ _⟩
  · have k2 : 0 < X.length := List.length_pos_iff.2 hX
    have hI : InsI D D P X Q (a + 1) := ⟨⟨by omega, by omega⟩, X.take 1, by
      rw [show a + 1 - P.length = 1 by omega, ← List.append_assoc (X.take 1), List.take_append_drop]; exact hD, by
      rw [show a + 1 - P.length = 1 by omega]
      refine ⟨?_, Stb.refl _⟩
      cases X with
      | nil => exact absurd rfl hX
      | cons x X => exact List.pairwise_singleton ..⟩
    replace h := ZA h
    replace hD := ZA hD
    replace v0 := ZA v0
    replace hI := ZA hI
    replace ha := ZA ha
    replace hb := ZA hb
    have j0 := fun x y W => ZCw x y W
    unfold tagg at j0
    replace j0 := ZA j0
    clear hX
    go_enter Tryz.func198, Tryz.ntmps198
    go_wp2_with fail
    go_loopw [8] (fun s8 wr => ∃ (i : Nat) (E : List TmV), s8 = .int .i64 (i : Int) ∧ i ≤ b ∧ Hid (a < i ∧ InsI D E P X Q i ∧ TR wr g E ∧ Chg (fun k => k = g) w wr)) (fun s8 _ => b - (intOf s8).toNat)
    case atStart => exact ⟨a + 1, D, by go_num, by have := hb.out; have := ha.out; omega, ZA ⟨by omega, hI.out, h.out, Chg.refl _ _⟩⟩
    case round =>
      obtain ⟨i, E, rfl, hi, hJ⟩ := hrel
      obtain ⟨wo, rfl⟩ : ∃ wo, wo = wr := ⟨_, rfl⟩
      by_cases g2 : i < b
      · obtain ⟨d1, ⟨hi1, S, hE, hS⟩, hT, hC⟩ := hJ.out
        have k0 := ha.out
        have f1 := hb.out
        obtain ⟨z, hz⟩ : ∃ z, X[i - P.length]? = some z := ⟨_, List.getElem?_eq_getElem (by omega)⟩
        have c1 : S.length = i - P.length := by rw [hS.2.len, List.length_take]; omega
        have b0 := InsJ.start (D := D) hE hS hz
        have h0 := fun (E' : List TmV) (k : Nat) (h : InsJ E' P S (X.drop (i - P.length + 1) ++ Q) z k) (o0 : k = 0 ∨ ∃ y, S[k - 1]? = some y ∧ ¬ z.1 < y.1) => h.done (D := D) hS hz hi1.1 o0
        have hlen := b0.len
        have v1 : E.length = dl := by rw [v0.out, hD.out, hlen]; simp only [List.length_append, List.length_drop]; omega
        obtain ⟨R, hR⟩ : ∃ R, R = X.drop (i - P.length + 1) ++ Q := ⟨_, rfl⟩
        rw [← hR] at b0 h0 hlen
        have e0 : P.length + S.length + 1 + R.length = dl := by omega
        have l0 : i = a + S.length := by omega
        replace b0 := ZA b0
        replace h0 := ZA h0
        replace hT := ZA hT
        replace hC := ZA hC
        replace e0 := ZA e0
        replace l0 := ZA l0
        replace k0 := ZA k0
        clear hE hS hz hlen v1 hR hJ hI h f1 c1 hi1
        go_wp2_with fail
        go_loopw [9] (fun s9 wr => ∃ (j k : Nat) (E : List TmV), s9 = .int .i64 (j : Int) ∧ j ≤ i ∧ Hid (j = a + k ∧ InsJ E P S R z k ∧ TR wr g E ∧ Chg (fun k => k = g) w wr)) (fun s9 _ => (intOf s9).toNat)
        case atStart => exact ⟨i, S.length, E, rfl, Nat.le_refl _, ZA ⟨l0.out, b0.out, hT.out, hC.out⟩⟩
        case round =>
          obtain ⟨j, k, E, rfl, t2, hK⟩ := hrel
          by_cases n0 : k = 0
          · have n1 : ¬ (a : Int) < (j : Int) := by have := hK.out.1; omega
            have r1 : decide ((a : Int) < (j : Int)) = false := decide_eq_false n1
            have m2 : decide (a < j) = false := decide_eq_false (by omega)
            replace n0 := ZA n0
            go_wp2_with fail
            go_quiet (fail)
            go_wp2_with fail
            go_roundw
            case rel => exact ⟨i + 1, E, by go_num, by omega, ZA ⟨by omega, h0.out E k hK.out.2.1 (.inl n0.out), hK.out.2.2.1.ext ((Ext.refl wr).drewN _), hK.out.2.2.2.trans (Chg.of_ext ((Ext.refl wr).drewN _) _) fun _ _ h => h⟩⟩
            case measure => simp [intOf]; omega
          · obtain ⟨k1, rfl⟩ : ∃ k1, k = k1 + 1 := ⟨k - 1, by omega⟩
            obtain ⟨j1, m0⟩ : ∃ j1, j = j1 + 1 := ⟨j - 1, by have := hK.out.1; omega⟩
            obtain ⟨y, hy, f0⟩ := hK.out.2.1.ahead
            have p0 := hK.out.2.1.here
            have g0 : j1 = a + k1 := by have := hK.out.1; omega
            have r0 := hK.out.2.2.1.at_ (i := j) (x := z) (by rw [m0, g0, k0.out]; exact p0)
            have s0 := hK.out.2.2.1.at_ (i := j1) (x := y) (by rw [g0, k0.out]; exact hy)
            have c0 : wr.cell? ⟨g, j * 2, none⟩ = some (.string ⟨z.1.toArray⟩) ∧ wr.cell? ⟨g, j * 2 + 1, none⟩ = some (.slice z.2.1 z.2.2.1 z.2.2.2) ∧ wr.cell? ⟨g, j1 * 2, none⟩ = some (.string ⟨y.1.toArray⟩) ∧ wr.cell? ⟨g, j1 * 2 + 1, none⟩ = some (.slice y.2.1 y.2.2.1 y.2.2.2) ∧ Ext wr wr := ⟨r0.1, r0.2, s0.1, s0.2, Ext.refl wr⟩
            have d0 : ∀ w0 w1 : World, (w0.cell? ⟨g, j * 2, none⟩ = some (.string ⟨z.1.toArray⟩) ∧ w0.cell? ⟨g, j * 2 + 1, none⟩ = some (.slice z.2.1 z.2.2.1 z.2.2.2) ∧ w0.cell? ⟨g, j1 * 2, none⟩ = some (.string ⟨y.1.toArray⟩) ∧ w0.cell? ⟨g, j1 * 2 + 1, none⟩ = some (.slice y.2.1 y.2.2.1 y.2.2.2) ∧ Ext wr w0) → Ext w0 w1 → (w1.cell? ⟨g, j * 2, none⟩ = some (.string ⟨z.1.toArray⟩) ∧ w1.cell? ⟨g, j * 2 + 1, none⟩ = some (.slice z.2.1 z.2.2.1 z.2.2.2) ∧ w1.cell? ⟨g, j1 * 2, none⟩ = some (.string ⟨y.1.toArray⟩) ∧ w1.cell? ⟨g, j1 * 2 + 1, none⟩ = some (.slice y.2.1 y.2.2.1 y.2.2.2) ∧ Ext wr w1) := fun w0 w1 h1 h3 => ⟨h3.cell h1.1, h3.cell h1.2.1, h3.cell h1.2.2.1, h3.cell h1.2.2.2.1, h1.2.2.2.2.trans h3⟩
            have i0 := d0 _ _ c0 (Ext.refl wr).drew
            have v2 : j < dl := by have := e0.out; have := hK.out.2.1.hk; have := k0.out; omega
            have r1 : decide (a < j) = true := decide_eq_true (by omega)
            have b1 : (j : Int) < (dl : Int) := by omega
            have b2 : (j1 : Int) < (dl : Int) := by omega
            have b3 : (0 : Int) ≤ (j : Int) - 1 := by omega
            have b4 : IntKind.i64.wrap ((j : Int) - 1) = (j1 : Int) := by rw [IntWalk.i64_in _ (by omega)]; omega
            replace m0 := ZA m0
            have fr := hK.out.2.2.1.free
            replace c0 := ZA c0
            replace i0 := ZA i0
            replace d0 := ZA d0
            replace hy := ZA hy
            replace f0 := ZA f0
            replace p0 := ZA p0
            replace g0 := ZA g0
            clear r0 s0
            go_wp2_with fail
            go_region_held3 (fun x => x.cell? ⟨g, j * 2, none⟩ = some (.string ⟨z.1.toArray⟩) ∧ x.cell? ⟨g, j * 2 + 1, none⟩ = some (.slice z.2.1 z.2.2.1 z.2.2.2) ∧ x.cell? ⟨g, j1 * 2, none⟩ = some (.string ⟨y.1.toArray⟩) ∧ x.cell? ⟨g, j1 * 2 + 1, none⟩ = some (.slice y.2.1 y.2.2.1 y.2.2.2) ∧ Ext wr x) (first | exact i0.out | exact c0.out | exact ‹_› | exact d0.out _ _ ‹_› ‹_›) (first
              | (go_at_call 137; refine (j0.out z y _).mono ?_; rintro e w5 ⟨zc, rfl, u0, u2, x2, u1⟩))
            have m1 := (Ext.refl wr).drew.trans u1
            have z0 := hK.out.2.2.1.ext m1
            have g1 := hK.out.2.2.2.trans (Chg.of_ext m1 (fun k => k = g)) fun _ _ h => h
            by_cases a0 : z.1 < y.1
            · have p1 := u0.2 a0
              have p2 : decide (zc < 0) = true := decide_eq_true p1
              have q1 := z0.at_ (i := j) (x := z) (by rw [m0.out, g0.out, k0.out]; exact p0.out)
              have q2 := z0.at_ (i := j1) (x := y) (by rw [g0.out, k0.out]; exact hy.out)
              have x0 := q1.1
              have x1 := q1.2
              have y0 := q2.1
              have y1 := q2.2
              have fr5 := z0.free
              have o1 : j1 < j := by have := m0.out; omega
              have o2 : j ≤ j1 + 1 := by have := m0.out; omega
              replace u0 := ZA u0
              clear q1 q2 fr
              go_wp2_with fail
              refine ZPw (fun K hK => ?_)
              go_wp2_with fail
              refine ⟨by kernel_rfl, ?_⟩
              go_wp2_with fail
              have a1 : P.length + (k1 + 1) = j := by have := m0.out; have := g0.out; have := k0.out; omega
              have z1 : P.length + k1 = j1 := by have := g0.out; have := k0.out; omega
              have hN := hK.out.2.1.next f0.out a0
              rw [a1, z1] at hN
              have v1 := hK.out.2.1.len
              have s1 := e0.out
              have h1 := z0.put (i := j) (by omega) y
              have h2 := h1.put (i := j1) (by rw [List.length_set]; omega) z
              have hc := (g1.trans (ZAb w5 g j y) fun _ _ h => h).trans (ZAb _ g j1 z) fun _ _ h => h
              go_roundw
              case rel => exact ⟨j1, k1, _, rfl, by omega, ZA ⟨g0.out, hN, h2.drew, hc.trans (Chg.of_ext (Ext.refl _).drew _) fun _ _ h => h⟩⟩
              case measure => simp [intOf]; omega
            · have p1 : ¬ zc < 0 := fun h => a0 (u0.1 h)
              have p2 : decide (zc < 0) = false := decide_eq_false p1
              have q0 := h0.out E (k1 + 1) hK.out.2.1 (.inr ⟨y, f0.out, a0⟩)
              replace u0 := ZA u0
              replace q0 := ZA q0
              go_wp2_with fail
              go_roundw
              case rel => exact ⟨i + 1, E, by go_num, by omega, ZA ⟨by omega, q0.out, z0, g1⟩⟩
              case measure => simp [intOf]; omega
      · go_wp2_with fail
        go_end0
        obtain ⟨d1, ⟨hi1, S, hE, hS⟩, hT, hC⟩ := hJ.out
        have t1 : i - P.length = X.length := by have := hb.out; omega
        rw [t1, List.take_length] at hS
        rw [t1, List.drop_length, List.nil_append] at hE
        exact ⟨rfl, S, hS, hE ▸ hT, hC⟩
theorem ZGY {α:Type} (y z:α) (B:List α):∀A:List α,((A++z::y::B).set A.length y).set (A.length+1) z=A++y::z::B
 | []=>rfl
 | a::A=>by simp[ZGY y z B A]
theorem ZFC {α:Type} {P A R:List α} {i:Nat} (h:i<A.length):(P++(A++R))[P.length+i]? = A[i]? :=by
 rw[List.getElem?_append_right (by omega),show P.length+i - P.length=i by omega,List.getElem?_append_left h]
theorem ZDi {α:Type} {P A B R:List α} {i:Nat} (h:i<B.length):(P++(A++(B++R)))[P.length+A.length+i]? = B[i]? :=by
 rw[List.getElem?_append_right (by omega),List.getElem?_append_right (by omega),show P.length+A.length+i - P.length - A.length=i by omega,List.getElem?_append_left h]
def SymP (g:Nat) (P A B Q:List TmV) (w:World) (e:Ending) (w':World):Prop:=e = .returned (.tuple #[])/\∃M,Mrg A B M/\TR w' g (P++(M++Q))/\Chg (fun k=>k=g) w w'
theorem ZL2 (g c a m b:Nat) (D P B Q:List TmV) (z:TmV) (w:World) (t0:TR w g D) (hD:D=P++([z]++(B++Q))) (ha:a=P.length) (hm:m=a+1) (hb:b=m+B.length) (hB:Srt B) (z1:D.length<=1073741824) :
 Calls Tryz.prog 199 #[.slice (some ⟨g,0,none⟩) D.length c,.int .i64 (a:Int),.int .i64 (m:Int),.int .i64 (b:Int),cmpV] w (SymP g P [z] B Q w):=by
 obtain⟨dl,v0⟩:∃n,n=D.length:=⟨_,rfl⟩
 have i1:b<=dl:=by rw[v0,hD];simp only[List.length_append,List.length_singleton];omega
 rw[<-v0]at z1 ⊢;have hz:D[a]? = some z:=by rw[hD,ha];exact ZFC (P:=P) (A:= [z]) (i:=0) (by simp)
 have hy:∀i,i<B.length->D[m+i]? = B[i]? :=fun i hi=>by rw[hD,hm,ha];exact ZDi (P:=P) (A:= [z]) hi
 have s1:(m:Int) - (a:Int)=1:=by omega
 have hab:a<b:=by omega
 have c1:m<=b:=by omega
 have q0:=fun x y W=>ZCw x y W;unfold tagg at q0;unfold cmpV;replace q0:=ZA q0;replace t0:=ZA t0;replace hD:=ZA hD;replace v0:=ZA v0;replace hz:=ZA hz;replace hy:=ZA hy;replace hB:=ZA hB;replace ha:=ZA ha;replace hm:=ZA hm;replace hb:=ZA hb;go_enter Tryz.func199,Tryz.ntmps199;go_wp2_with fail
 go_loopw [10,11] (fun s10 s11 wr=>∃i j:Nat,s10 = .int .i64 (i:Int)/\s11 = .int .i64 (j:Int)/\m<=i/\i<=j/\j<=b/\Hid ((∀y∈B.take (i - m),y.1<z.1)/\(∀y∈B.drop (j - m),¬ y.1<z.1)/\Ext w wr)) (fun s10 s11 _=>(intOf s11).toNat - (intOf s10).toNat)
 case atStart=>exact⟨m,b,rfl,rfl,Nat.le_refl _,c1,Nat.le_refl _,ZA ⟨by rw[Nat.sub_self];nofun,by rw[show b - m=B.length by have:=hb.out;omega,List.drop_length];nofun,Ext.refl _⟩⟩
 case round =>
  obtain⟨i,j,rfl,rfl,d1,o1,u1,hI⟩:=hrel;by_cases a1:i<j
  ·obtain⟨h,hh⟩:∃h:Nat,((i:Int)+(j:Int)) / 2=(h:Int):=⟨(i+j) / 2,by omega⟩
   have v1:i<=h:=by omega
   have l1:h<j:=by omega
   obtain⟨y,h0⟩:∃y,B[h - m]? = some y:=⟨_,List.getElem?_eq_getElem (by have:=hb.out;omega)⟩
   have k1:D[h]? = some y:=by have:=hy.out (h - m) (by have:=hb.out;omega);rw[show m+(h - m)=h by omega]at this;rw[this];exact h0
   have o0:=(t0.out.ext hI.out.2.2).at_ k1;have r0:=(t0.out.ext hI.out.2.2).at_ hz.out;have b0:wr.cell? ⟨g,h*2,none⟩=some (.string ⟨y.1.toArray⟩)/\wr.cell? ⟨g,h*2+1,none⟩=some (.slice y.2.1 y.2.2.1 y.2.2.2)/\wr.cell? ⟨g,a*2,none⟩=some (.string ⟨z.1.toArray⟩)/\wr.cell? ⟨g,a*2+1,none⟩=some (.slice z.2.1 z.2.2.1 z.2.2.2)/\Ext wr wr:=⟨o0.1,o0.2,r0.1,r0.2,Ext.refl wr⟩
   have d0:∀w0 w1:World,(w0.cell? ⟨g,h*2,none⟩=some (.string ⟨y.1.toArray⟩)/\w0.cell? ⟨g,h*2+1,none⟩=some (.slice y.2.1 y.2.2.1 y.2.2.2)/\w0.cell? ⟨g,a*2,none⟩=some (.string ⟨z.1.toArray⟩)/\w0.cell? ⟨g,a*2+1,none⟩=some (.slice z.2.1 z.2.2.1 z.2.2.2)/\Ext wr w0)->Ext w0 w1->(w1.cell? ⟨g,h*2,none⟩=some (.string ⟨y.1.toArray⟩)/\w1.cell? ⟨g,h*2+1,none⟩=some (.slice y.2.1 y.2.2.1 y.2.2.2)/\w1.cell? ⟨g,a*2,none⟩=some (.string ⟨z.1.toArray⟩)/\w1.cell? ⟨g,a*2+1,none⟩=some (.slice z.2.1 z.2.2.1 z.2.2.2)/\Ext wr w1):=fun w0 w1 h1 h3=>⟨h3.cell h1.1,h3.cell h1.2.1,h3.cell h1.2.2.1,h3.cell h1.2.2.2.1,h1.2.2.2.2.trans h3⟩
   have i0:=d0 _ _ b0 (Ext.refl wr).drew;have b1:(h:Int)<(dl:Int):=by omega
   have b2:(a:Int)<(dl:Int):=by omega
   replace b0:=ZA b0;replace i0:=ZA i0;replace d0:=ZA d0;replace h0:=ZA h0;replace k1:=ZA k1;replace hh:=ZA hh;clear o0 r0;go_upto_region 5 with (fail)
   rw[hh.out]
   go_region_held3 (fun x=>x.cell? ⟨g,h*2,none⟩=some (.string ⟨y.1.toArray⟩)/\x.cell? ⟨g,h*2+1,none⟩=some (.slice y.2.1 y.2.2.1 y.2.2.2)/\x.cell? ⟨g,a*2,none⟩=some (.string ⟨z.1.toArray⟩)/\x.cell? ⟨g,a*2+1,none⟩=some (.slice z.2.1 z.2.2.1 z.2.2.2)/\Ext wr x) (first | exact i0.out | exact b0.out | exact ‹_› | exact d0.out _ _ ‹_› ‹_›) (first
    | (go_at_call 137;refine(q0.out y z _).mono ?_;rintro e w5 ⟨zc,rfl,j0,f0,p2,t1⟩))
   have j1:=hI.out.2.2.trans ((Ext.refl wr).drew.trans t1);by_cases u0:y.1<z.1
   ·have e1:decide (zc<0)=true:=decide_eq_true (j0.2 u0);have m1:=j0.2 u0;replace j0:=ZA j0;go_wp2_with fail;go_roundw
    case rel=>exact⟨h+1,j,by go_num,rfl,by omega,by omega,u1,ZA ⟨fun x hx=>ZM8 (hB.out.take_le h0.out x (by rw[show h - m+1=h+1 - m by omega];exact hx)) u0,hI.out.2.1,j1⟩⟩
    case measure=>simp[intOf];omega
   ·have m1:¬ zc<0:=fun hc=>u0 (j0.1 hc);have e1:decide (zc<0)=false:=decide_eq_false m1;replace j0:=ZA j0;go_wp2_with fail;go_roundw
    case rel=>exact⟨i,h,rfl,rfl,d1,v1,by omega,ZA ⟨hI.out.1,fun x hx=>ZA8 u0 (hB.out.drop_ge h0.out x hx),j1⟩⟩
    case measure=>simp[intOf];omega
  ·obtain rfl:i=j:=by omega
   have n1:i<=dl:=by omega
   have g1:(i:Int) - 1=((i - 1:Nat):Int):=by have:=hm.out;omega
   have hM:Mrg [z] B (B.take (i - m)++z::B.drop (i - m)):=ZMm hB.out hI.out.1 hI.out.2.1;have hT:=t0.out.ext hI.out.2.2;have hC:=Chg.of_ext hI.out.2.2 (fun k=>k=g);have l0:=hm.out;obtain⟨wo,rfl⟩:∃wo,wo=wr:=⟨_,rfl⟩
   replace hT:=ZA hT;replace hC:=ZA hC;replace hM:=ZA hM;replace g1:=ZA g1;replace l0:=ZA l0;go_wp2_with fail
   go_loopw [13] (fun s13 wr=>∃(k:Nat) (E:List TmV),s13 = .int .i64 (k:Int)/\a<=k/\k+1<=i/\Hid (E=P++(B.take (k - a)++z::(B.drop (k - a)++Q))/\TR wr g E/\Chg (fun k=>k=g) w wr)) (fun s13 _=>i - (intOf s13).toNat)
   case atStart=>exact⟨a,D,rfl,Nat.le_refl _,by have:=l0.out;omega,ZA ⟨by rw[Nat.sub_self];exact hD.out,hT.out,hC.out⟩⟩
   case round =>
    obtain⟨k,E,rfl,f1,r1,hK⟩:=hrel;have a0:=ha.out;have e0:=hm.out;have c0:=hb.out;by_cases a1:k+1<i
    ·have n0:(k:Int)<(i:Int) - 1:=by omega
     obtain⟨y,h0⟩:∃y,B[k - a]? = some y:=⟨_,List.getElem?_eq_getElem (by omega)⟩
     have hd:B.drop (k - a)=y::B.drop (k - a+1):=by
      obtain⟨hl,he⟩:=List.getElem?_eq_some_iff.1 h0;rw[List.drop_eq_getElem_cons hl,he]
     have s0:B.take (k - a+1)=B.take (k - a) ++ [y]:=by
      obtain⟨hl,he⟩:=List.getElem?_eq_some_iff.1 h0;rw[List.take_succ_eq_append_getElem hl,he]
     have m0:(P++B.take (k - a)).length=k:=by rw[List.length_append,List.length_take];omega
     have g0:E=(P++B.take (k - a))++z::y::(B.drop (k - a+1)++Q):=by rw[hK.out.1,hd];simp
     have z0:E.length=dl:=by rw[hK.out.1,v0.out,hD.out];simp only[List.length_append,List.length_cons,List.length_take,List.length_drop,List.length_nil];omega
     have f0:E[k]? = some z:=by rw[g0,List.getElem?_append_right (by omega),m0,Nat.sub_self];rfl
     have p1:E[k+1]? = some y:=by rw[g0,List.getElem?_append_right (by omega),m0,show k+1 - k=1 by omega];rfl
     have p0:=ZGY y z (B.drop (k - a+1)++Q) (P++B.take (k - a));rw[m0,<-g0]at p0;have q1:=hK.out.2.1.at_ f0;have q2:=hK.out.2.1.at_ p1;have x0:=q1.1;have x1:=q1.2;have y0:=q2.1;have y1:=q2.2;have fr:=hK.out.2.1.free;replace p0:=ZA p0;replace g0:=ZA g0;replace z0:=ZA z0;replace hd:=ZA hd;replace s0:=ZA s0;replace m0:=ZA m0;replace f0:=ZA f0;replace p1:=ZA p1;replace h0:=ZA h0;replace a0:=ZA a0;replace e0:=ZA e0;replace c0:=ZA c0;clear q1 q2;go_wp2_with fail;refine ZPw (fun K hK=>?_);go_wp2_with fail;refine⟨by kernel_rfl,?_⟩;go_wp2_with fail;have h1:=hK.out.2.1.put (i:=k) (by have:=z0.out;omega) y;have h2:=h1.put (i:=k+1) (by rw[List.length_set];have:=z0.out;omega) z;have hc:=(hK.out.2.2.trans (ZAb wr g k y) fun _ _ h=>h).trans (ZAb _ g (k+1) z) fun _ _ h=>h;rw[p0.out]at h2;go_roundw
     case rel=>exact⟨k+1,_,by go_num,by omega,by omega,ZA ⟨by rw[show k+1 - a=k - a+1 by omega,s0.out];simp,h2.drew,hc.trans (Chg.of_ext (Ext.refl _).drew _) fun _ _ h=>h⟩⟩
     case measure=>simp[intOf];omega
    ·have n0:¬ (k:Int)<(i:Int) - 1:=by omega
     have k0:SymP g P [z] B Q w (.returned (.tuple #[])) wr:=by
      refine⟨rfl,_,hM.out,?_,hK.out.2.2⟩;have he:=hK.out.1;rw[show k - a=i - m by omega]at he;rw[show P++(B.take (i - m)++z::B.drop (i - m)++Q)=E by rw[he];simp];exact hK.out.2.1
     replace k0:=ZA k0;replace a0:=ZA a0;replace e0:=ZA e0;replace c0:=ZA c0;go_wp2_with fail
     go_end0
     exact k0.out
theorem ZKE (g c a m b:Nat) (D P A Q:List TmV) (z:TmV) (w:World) (z0:TR w g D) (hD:D=P++(A++([z]++Q))) (ha:a=P.length) (hm:m=a+A.length) (hb:b=m+1) (hA:Srt A) (n1:1<A.length) (c1:D.length<=1073741824) :
 Calls Tryz.prog 199 #[.slice (some ⟨g,0,none⟩) D.length c,.int .i64 (a:Int),.int .i64 (m:Int),.int .i64 (b:Int),cmpV] w (SymP g P A [z] Q w):=by
 obtain⟨dl,a0⟩:∃n,n=D.length:=⟨_,rfl⟩
 have s1:b<=dl:=by rw[a0,hD];simp only[List.length_append,List.length_singleton];omega
 rw[<-a0]at c1 ⊢;have hz:D[m]? = some z:=by rw[hD,hm,ha];exact ZDi (P:=P) (B:= [z]) (i:=0) (by simp)
 have hy:∀i,i<A.length->D[a+i]? = A[i]? :=fun i hi=>by rw[hD,ha];exact ZFC hi
 have e1:¬ (m:Int) - (a:Int)=1:=by omega
 have f1:((m:Int) - (a:Int)==1)=false:=beq_eq_false_iff_ne.2 e1;have p2:(b:Int) - (m:Int)=1:=by omega
 have r1:a<m:=by omega
 have t2:m<b:=by omega
 have h0:=fun x y W=>ZCw x y W;unfold tagg at h0;unfold cmpV;replace h0:=ZA h0;replace z0:=ZA z0;replace hD:=ZA hD;replace a0:=ZA a0;replace hz:=ZA hz;replace hy:=ZA hy;replace hA:=ZA hA;replace ha:=ZA ha;replace hm:=ZA hm;replace hb:=ZA hb;go_enter Tryz.func199,Tryz.ntmps199;go_wp2_with fail
 go_loopw [14,15] (fun s14 s15 wr=>∃i j:Nat,s14 = .int .i64 (i:Int)/\s15 = .int .i64 (j:Int)/\a<=i/\i<=j/\j<=m/\Hid ((∀x∈A.take (i - a),¬ z.1<x.1)/\(∀x∈A.drop (j - a),z.1<x.1)/\Ext w wr)) (fun s14 s15 _=>(intOf s15).toNat - (intOf s14).toNat)
 case atStart=>exact⟨a,m,rfl,rfl,Nat.le_refl _,by omega,Nat.le_refl _,ZA ⟨by rw[Nat.sub_self];nofun,by rw[show m - a=A.length by have:=hm.out;omega,List.drop_length];nofun,Ext.refl _⟩⟩
 case round =>
  obtain⟨i,j,rfl,rfl,v1,j2,z1,hI⟩:=hrel;by_cases d1:i<j
  ·obtain⟨h,hh⟩:∃h:Nat,((i:Int)+(j:Int)) / 2=(h:Int):=⟨(i+j) / 2,by omega⟩
   have u1:i<=h:=by omega
   have k2:h<j:=by omega
   obtain⟨y,q0⟩:∃y,A[h - a]? = some y:=⟨_,List.getElem?_eq_getElem (by have:=hm.out;omega)⟩
   have m1:D[h]? = some y:=by have:=hy.out (h - a) (by have:=hm.out;omega);rw[show a+(h - a)=h by omega]at this;rw[this];exact q0
   have s0:=(z0.out.ext hI.out.2.2).at_ hz.out;have p1:=(z0.out.ext hI.out.2.2).at_ m1;have u0:wr.cell? ⟨g,m*2,none⟩=some (.string ⟨z.1.toArray⟩)/\wr.cell? ⟨g,m*2+1,none⟩=some (.slice z.2.1 z.2.2.1 z.2.2.2)/\wr.cell? ⟨g,h*2,none⟩=some (.string ⟨y.1.toArray⟩)/\wr.cell? ⟨g,h*2+1,none⟩=some (.slice y.2.1 y.2.2.1 y.2.2.2)/\Ext wr wr:=⟨s0.1,s0.2,p1.1,p1.2,Ext.refl wr⟩
   have b0:∀w0 w1:World,(w0.cell? ⟨g,m*2,none⟩=some (.string ⟨z.1.toArray⟩)/\w0.cell? ⟨g,m*2+1,none⟩=some (.slice z.2.1 z.2.2.1 z.2.2.2)/\w0.cell? ⟨g,h*2,none⟩=some (.string ⟨y.1.toArray⟩)/\w0.cell? ⟨g,h*2+1,none⟩=some (.slice y.2.1 y.2.2.1 y.2.2.2)/\Ext wr w0)->Ext w0 w1->(w1.cell? ⟨g,m*2,none⟩=some (.string ⟨z.1.toArray⟩)/\w1.cell? ⟨g,m*2+1,none⟩=some (.slice z.2.1 z.2.2.1 z.2.2.2)/\w1.cell? ⟨g,h*2,none⟩=some (.string ⟨y.1.toArray⟩)/\w1.cell? ⟨g,h*2+1,none⟩=some (.slice y.2.1 y.2.2.1 y.2.2.2)/\Ext wr w1):=fun w0 w1 h1 h3=>⟨h3.cell h1.1,h3.cell h1.2.1,h3.cell h1.2.2.1,h3.cell h1.2.2.2.1,h1.2.2.2.2.trans h3⟩
   have f0:=b0 _ _ u0 (Ext.refl wr).drew;have b1:(h:Int)<(dl:Int):=by omega
   have b2:(m:Int)<(dl:Int):=by omega
   replace u0:=ZA u0;replace f0:=ZA f0;replace b0:=ZA b0;replace q0:=ZA q0;replace m1:=ZA m1;replace hh:=ZA hh;clear s0 p1;go_upto_region 17 with (fail)
   rw[hh.out];by_cases l0:z.1<y.1
   ·have g0:=ZA l0
    go_region_held3 (fun x=>x.cell? ⟨g,m*2,none⟩=some (.string ⟨z.1.toArray⟩)/\x.cell? ⟨g,m*2+1,none⟩=some (.slice z.2.1 z.2.2.1 z.2.2.2)/\x.cell? ⟨g,h*2,none⟩=some (.string ⟨y.1.toArray⟩)/\x.cell? ⟨g,h*2+1,none⟩=some (.slice y.2.1 y.2.2.1 y.2.2.2)/\Ext wr x) (first | exact f0.out | exact u0.out | exact ‹_› | exact b0.out _ _ ‹_› ‹_›) (first
     | (go_at_call 137;refine(h0.out z y _).mono ?_;rintro e w5 ⟨zc,rfl,m0,c0,i1,n0⟩;have t1:=m0.2 g0.out;have l1:decide (zc<0)=true:=decide_eq_true t1;replace m0:=ZA m0))
    have o0:=hI.out.2.2.trans ((Ext.refl wr).drew.trans n0);go_wp2_with fail;go_roundw
    case rel=>exact⟨i,h,rfl,rfl,v1,u1,by omega,ZA ⟨hI.out.1,fun x hx=>ZM5 l0 (hA.out.drop_ge q0.out x hx),o0⟩⟩
    case measure=>simp[intOf];omega
   ·have g0:=ZA l0
    go_region_held3 (fun x=>x.cell? ⟨g,m*2,none⟩=some (.string ⟨z.1.toArray⟩)/\x.cell? ⟨g,m*2+1,none⟩=some (.slice z.2.1 z.2.2.1 z.2.2.2)/\x.cell? ⟨g,h*2,none⟩=some (.string ⟨y.1.toArray⟩)/\x.cell? ⟨g,h*2+1,none⟩=some (.slice y.2.1 y.2.2.1 y.2.2.2)/\Ext wr x) (first | exact f0.out | exact u0.out | exact ‹_› | exact b0.out _ _ ‹_› ‹_›) (first
     | (go_at_call 137;refine(h0.out z y _).mono ?_;rintro e w5 ⟨zc,rfl,m0,c0,i1,n0⟩;have t1:¬ zc<0:=fun hc=>g0.out (m0.1 hc);have l1:decide (zc<0)=false:=decide_eq_false t1;replace m0:=ZA m0))
    have o0:=hI.out.2.2.trans ((Ext.refl wr).drew.trans n0);go_wp2_with fail;go_roundw
    case rel=>exact⟨h+1,j,by go_num,rfl,by omega,by omega,z1,ZA ⟨fun x hx=>ZA8 (hA.out.take_le q0.out x (by rw[show h - a+1=h+1 - a by omega];exact hx)) l0,hI.out.2.1,o0⟩⟩
    case measure=>simp[intOf];omega
  ·obtain rfl:i=j:=by omega
   have hM:Mrg A [z] (A.take (i - a)++z::A.drop (i - a)):=ZGs hA.out hI.out.1 hI.out.2.1;have hT:=z0.out.ext hI.out.2.2;have hC:=Chg.of_ext hI.out.2.2 (fun k=>k=g);have k0:=hm.out;obtain⟨wo,rfl⟩:∃wo,wo=wr:=⟨_,rfl⟩
   replace hT:=ZA hT;replace hC:=ZA hC;replace hM:=ZA hM;replace k0:=ZA k0;go_wp2_with fail
   go_loopw [17] (fun s17 wr=>∃(k:Nat) (E:List TmV),s17 = .int .i64 (k:Int)/\i<=k/\k<=m/\Hid (E=P++(A.take (k - a)++z::(A.drop (k - a)++Q))/\TR wr g E/\Chg (fun k=>k=g) w wr)) (fun s17 _=>(intOf s17).toNat)
   case atStart=>exact⟨m,D,rfl,by omega,Nat.le_refl _,ZA ⟨by rw[show m - a=A.length by have:=k0.out;omega,List.take_length,List.drop_length];exact hD.out,hT.out,hC.out⟩⟩
   case round =>
    obtain⟨k,E,rfl,g2,m2,hK⟩:=hrel;have e0:=ha.out;have k0:=hm.out;have i0:=hb.out;by_cases d1:i<k
    ·obtain⟨k1,r0⟩:∃k1,k=k1+1:=⟨k - 1,by omega⟩
     obtain⟨y,q0⟩:∃y,A[k1 - a]? = some y:=⟨_,List.getElem?_eq_getElem (by omega)⟩
     have hd:A.drop (k1 - a)=y::A.drop (k - a):=by
      obtain⟨hl,he⟩:=List.getElem?_eq_some_iff.1 q0;rw[List.drop_eq_getElem_cons hl,he,show k1 - a+1=k - a by omega]
     have j1:A.take (k - a)=A.take (k1 - a) ++ [y]:=by
      obtain⟨hl,he⟩:=List.getElem?_eq_some_iff.1 q0;rw[show k - a=k1 - a+1 by omega,List.take_succ_eq_append_getElem hl,he]
     have v0:(P++A.take (k1 - a)).length=k1:=by rw[List.length_append,List.length_take];omega
     have t0:E=(P++A.take (k1 - a))++y::z::(A.drop (k - a)++Q):=by rw[hK.out.1,j1];simp
     have d0:E.length=dl:=by rw[hK.out.1,a0.out,hD.out];simp only[List.length_append,List.length_cons,List.length_take,List.length_drop,List.length_nil];omega
     have c0:E[k]? = some z:=by rw[t0,List.getElem?_append_right (by omega),v0,show k - k1=1 by omega];rfl
     have g1:E[k1]? = some y:=by rw[t0,List.getElem?_append_right (by omega),v0,Nat.sub_self];rfl
     have p0:=ZFK y z (A.drop (k - a)++Q) (P++A.take (k1 - a));rw[v0,<-t0,<-r0]at p0;have q1:=hK.out.2.1.at_ c0;have q2:=hK.out.2.1.at_ g1;have x0:=q1.1;have x1:=q1.2;have y0:=q2.1;have y1:=q2.2;have fr:=hK.out.2.1.free;have o1:k1<k:=by omega
     have o2:k<=k1+1:=by omega
     have o3:i<=k1:=by omega
     have b4:IntKind.i64.wrap ((k:Int) - 1)=(k1:Int):=by rw[IntWalk.i64_in _ (by omega)];omega
     have b1:(k:Int)<(dl:Int):=by omega
     have b2:(k1:Int)<(dl:Int):=by omega
     replace p0:=ZA p0;replace t0:=ZA t0;replace d0:=ZA d0;replace hd:=ZA hd;replace j1:=ZA j1;replace v0:=ZA v0;replace c0:=ZA c0;replace g1:=ZA g1;replace q0:=ZA q0;replace e0:=ZA e0;replace k0:=ZA k0;replace i0:=ZA i0;replace r0:=ZA r0;clear q1 q2;go_wp2_with fail;refine ZPw (fun K hK=>?_);go_wp2_with fail;refine⟨by kernel_rfl,?_⟩;go_wp2_with fail;have h1:=hK.out.2.1.put (i:=k) (by have:=d0.out;omega) y;have h2:=h1.put (i:=k1) (by rw[List.length_set];have:=d0.out;omega) z;have hc:=(hK.out.2.2.trans (ZAb wr g k y) fun _ _ h=>h).trans (ZAb _ g k1 z) fun _ _ h=>h;rw[p0.out]at h2;go_roundw
     case rel=>exact⟨k1,_,rfl,o3,by omega,ZA ⟨by rw[hd.out];simp,h2.drew,hc.trans (Chg.of_ext (Ext.refl _).drew _) fun _ _ h=>h⟩⟩
     case measure=>simp[intOf];omega
    ·have a1:¬ (i:Int)<(k:Int):=by omega
     obtain rfl:i=k:=by omega
     have j0:SymP g P A [z] Q w (.returned (.tuple #[])) wr:=by
      refine⟨rfl,_,hM.out,?_,hK.out.2.2⟩;have he:=hK.out.1;rw[show P++(A.take (i - a)++z::A.drop (i - a)++Q)=E by rw[he];simp];exact hK.out.2.1
     replace j0:=ZA j0;replace e0:=ZA e0;replace k0:=ZA k0;replace i0:=ZA i0;go_wp2_with fail
     go_end0
     exact j0.out
structure LoHi (a m b mid N lo hi:Nat):Prop where
  le:lo<=hi
  alo:a<=lo
  him:hi<=m
  hmid:hi<=mid
  nhi:m+hi<=N
  nlo:N<=b+lo
  one:lo=a\/N=b+lo
  two:hi=m\/N=m+hi
theorem ZJ8 {a m b mid N:Nat} (hN:N=mid+m) (h1:mid<m) (h2:a<m) (h3:m<b) (h4:mid=(a+b) / 2):LoHi a m b mid N (N - b) mid:=⟨by omega,by omega,by omega,by omega,by omega,by omega,.inr (by omega),.inr (by omega)⟩
theorem ZJl {a m b mid N:Nat} (hN:N=mid+m) (h1:¬ mid<m) (h2:a<m) (h3:m<b) (h4:mid=(a+b) / 2):LoHi a m b mid N a m:=⟨by omega,by omega,by omega,by omega,by omega,by omega,.inl rfl,.inl rfl⟩
structure SeaI (D:List TmV) (N lo hi s r:Nat):Prop where
  ls:lo<=s
  sr:s<=r
  rh:r<=hi
  lo:s=lo\/∃x y,D[s - 1]? = some x/\D[N - s]? = some y/\¬ y.1<x.1
  hi:r=hi\/∃x y,D[r]? = some x/\D[N - 1 - r]? = some y/\y.1<x.1
theorem SeaI.cut {D P A B Q:List TmV} {a m b mid N lo hi s:Nat} (h:SeaI D N lo hi s s) (hL:LoHi a m b mid N lo hi) (hD:D=P++(A++(B++Q))) (ha:a=P.length) (hm:m=a+A.length) (hb:b=m+B.length):CutP A B (s - a) (N - s - m):=by
 have gA:∀i,a<=i->i<m->D[i]? = A[i - a]? :=fun i h1 h2=>by
  rw[hD,<-ZFC (P:=P) (A:=A) (R:=B++Q) (i:=i - a) (by omega),<-ha,show a+(i - a)=i by omega]
 have gB:∀i,m<=i->i<b->D[i]? = B[i - m]? :=fun i h1 h2=>by
  rw[hD,<-ZDi (P:=P) (A:=A) (B:=B) (R:=Q) (i:=i - m) (by omega),<-ha,<-hm,show m+(i - m)=i by omega]
 have:=h.ls;have:=h.sr;have:=h.rh;have:=hL.le;have:=hL.alo;have:=hL.him;have:=hL.nhi;have:=hL.nlo;refine⟨by omega,by omega,?_,?_⟩
 ·by_cases e1:s - a=0
  ·exact .inl e1
  ·by_cases e2:N - s - m=B.length
   ·exact .inr (.inl e2)
   ·rcases h.lo with e | ⟨x,y,hx,hy,h0⟩
    ·rcases hL.one with f | f
     ·omega
     ·omega
    ·refine .inr (.inr ⟨x,y,?_,?_,h0⟩)
     ·rw[show s - a - 1=s - 1 - a by omega,<-gA (s - 1) (by omega) (by omega)];exact hx
     ·rw[<-gB (N - s) (by omega) (by omega)];exact hy
 ·by_cases e1:s - a=A.length
  ·exact .inl e1
  ·by_cases e2:N - s - m=0
   ·exact .inr (.inl e2)
   ·rcases h.hi with e | ⟨x,y,hx,hy,h0⟩
    ·rcases hL.two with f | f
     ·omega
     ·omega
    ·refine .inr (.inr ⟨x,y,?_,?_,h0⟩)
     ·rw[<-gA s (by omega) (by omega)];exact hx
     ·rw[show N - s - m - 1=N - 1 - s - m by omega,<-gB (N - 1 - s) (by omega) (by omega)];exact hy
theorem ZNM (g c a m b:Nat) (D P A B Q:List TmV) (w:World) (g1:TR w g D) (hD:D=P++(A++(B++Q))) (ha:a=P.length) (hm:m=a+A.length) (hb:b=m+B.length) (hA:Srt A) (hB:Srt B) (e3:1<A.length) (f3:1<B.length) (e2:D.length<=1073741824)
 (ih:∀(a m b:Nat) (D P A' B' Q:List TmV) (w:World),A'.length+B'.length<A.length+B.length->TR w g D->D=P++(A'++(B'++Q))->a=P.length->m=a+A'.length->b=m+B'.length->Srt A'->Srt B'->0<A'.length->0<B'.length->D.length<=1073741824->Calls Tryz.prog 199 #[.slice (some ⟨g,0,none⟩) D.length c,.int .i64 (a:Int),.int .i64 (m:Int),.int .i64 (b:Int),cmpV] w (SymP g P A' B' Q w)) :
 Calls Tryz.prog 199 #[.slice (some ⟨g,0,none⟩) D.length c,.int .i64 (a:Int),.int .i64 (m:Int),.int .i64 (b:Int),cmpV] w (SymP g P A B Q w):=by
 obtain⟨dl,v0⟩:∃n,n=D.length:=⟨_,rfl⟩
 have l3:b<=dl:=by rw[v0,hD];simp only[List.length_append];omega
 have k0:∀(s e:Nat) (T:List TmV) (x:World),TR x g D->RotI T D m (m - s) (e - m)->s<m->m<e->Calls Tryz.prog 218 #[.slice (some ⟨g,0,none⟩) dl c,.int .i64 (s:Int),.int .i64 (m:Int),.int .i64 (e:Int),cmpV] x fun en w'=>en = .returned (.tuple #[])/\TR w' g T/\Chg (fun k=>k=g) x w':=fun s e T x h1 h2 h3 h4=>by
  have:=ZJf g c s m e D T cmpV x h1 h2 h3 h4 e2;rw[<-v0]at this;exact this
 have ih':∀(a m b:Nat) (E P A' B' Q:List TmV) (w:World),A'.length+B'.length<A.length+B.length->TR w g E->E.length=dl->E=P++(A'++(B'++Q))->a=P.length->m=a+A'.length->b=m+B'.length->Srt A'->Srt B'->0<A'.length->0<B'.length->Calls Tryz.prog 199 #[.slice (some ⟨g,0,none⟩) dl c,.int .i64 (a:Int),.int .i64 (m:Int),.int .i64 (b:Int),cmpV] w (SymP g P A' B' Q w):=fun a m b E P A' B' Q w h1 h2 h3 h4 h5 h6 h7 h8 h9 j3 g3=>by
  have:=ih a m b E P A' B' Q w h1 h2 h4 h5 h6 h7 h8 h9 j3 g3 (by omega);rw[h3]at this;exact this
 rw[<-v0]at e2 ⊢;have y3:((m:Int) - (a:Int)==1)=false:=beq_eq_false_iff_ne.2 (by omega);have u3:((b:Int) - (m:Int)==1)=false:=beq_eq_false_iff_ne.2 (by omega);have z2:a<m:=by omega
 have o2:m<b:=by omega
 obtain⟨mid,hmid⟩:∃k,k=(a+b) / 2:=⟨_,rfl⟩
 obtain⟨N,hN⟩:∃k,k=mid+m:=⟨_,rfl⟩
 have p0:((a:Int)+(b:Int)) / 2=(mid:Int):=by omega
 have p2:(mid:Int)+(m:Int)=(N:Int):=by omega
 have s2:mid<b:=by omega
 have r2:a<mid:=by omega
 have i3:N<=2147483648:=by omega
 have h0:=fun x y W=>ZCw x y W;unfold tagg at h0;unfold cmpV at k0 ih' ⊢;clear ih;replace h0:=ZA h0;replace g1:=ZA g1;replace hD:=ZA hD;replace v0:=ZA v0;replace hA:=ZA hA;replace hB:=ZA hB;replace ha:=ZA ha;replace hm:=ZA hm;replace hb:=ZA hb;replace k0:=ZA k0;replace ih':=ZA ih';replace hmid:=ZA hmid;replace hN:=ZA hN;replace p0:=ZA p0;replace p2:=ZA p2;go_enter Tryz.func199,Tryz.ntmps199;go_upto_if 140 with (fail)
 rw[p0.out,p2.out]
 go_cut [20,21] from 138 to 146 (fun s20 s21 wv=>∃lo hi:Nat,s20 = .int .i64 (lo:Int)/\s21 = .int .i64 (hi:Int)/\Hid (LoHi a m b mid N lo hi)/\wv=w)
 case first =>
  by_cases w2:mid<m
  ·have hl:=ZA (ZJ8 hN.out w2 z2 o2 hmid.out);have x2:(N:Int) - (b:Int)=((N - b:Nat):Int):=by have:=hmid.out;have:=hN.out;omega
   replace x2:=ZA x2;go_wp2_with fail
   go_meet
   case rel=>exact⟨N - b,mid,by rw[x2.out],rfl,hl,rfl⟩
  ·have hl:=ZA (ZJl hN.out w2 z2 o2 hmid.out);go_wp2_with fail
   go_meet
   case rel=>exact⟨a,m,rfl,rfl,hl,rfl⟩
 case rest =>
  obtain⟨lo,hi,rfl,rfl,hL,rfl⟩:=hcut;have f2:=hL.out.le;have w3:=hL.out.alo;have r3:=hL.out.him;have j4:=hL.out.nhi;have g4:=hL.out.nlo;obtain⟨wo,rfl⟩:∃wo,wo=wc:=⟨_,rfl⟩
  go_wp2_with fail
  go_loopw [20,21] (fun s20 s21 wr=>∃s r:Nat,s20 = .int .i64 (s:Int)/\s21 = .int .i64 (r:Int)/\lo<=s/\s<=r/\r<=hi/\Hid (SeaI D N lo hi s r/\Ext wo wr)) (fun s20 s21 _=>(intOf s21).toNat - (intOf s20).toNat)
  case atStart=>exact⟨lo,hi,rfl,rfl,Nat.le_refl _,f2,Nat.le_refl _,ZA ⟨⟨Nat.le_refl _,f2,Nat.le_refl _,.inl rfl,.inl rfl⟩,Ext.refl _⟩⟩
  case round =>
   obtain⟨s,r,rfl,rfl,i2,t4,q3,hI⟩:=hrel;by_cases q4:s<r
   ·obtain⟨h,hh⟩:∃h:Nat,((s:Int)+(r:Int)) / 2=(h:Int):=⟨(s+r) / 2,by omega⟩
    have p3:s<=h:=by omega
    have s3:h<r:=by omega
    obtain⟨e,he⟩:∃e,e=N - 1 - h:=⟨_,rfl⟩
    have a2:(N:Int) - 1 - (h:Int)=(e:Int):=by omega
    have o3:IntKind.i64.wrap ((N:Int) - 1 - (h:Int))=(e:Int):=by rw[IntWalk.i64_in _ (by omega)];omega
    have n3:e<dl:=by omega
    obtain⟨x0,y1⟩:∃x,D[h]? = some x:=⟨_,List.getElem?_eq_getElem (by have:=v0.out;omega)⟩
    obtain⟨y,hy⟩:∃y,D[e]? = some y:=⟨_,List.getElem?_eq_getElem (by have:=v0.out;omega)⟩
    have j0:=(g1.out.ext hI.out.2).at_ hy;have g0:=(g1.out.ext hI.out.2).at_ y1;have q1:wr.cell? ⟨g,e*2,none⟩=some (.string ⟨y.1.toArray⟩)/\wr.cell? ⟨g,e*2+1,none⟩=some (.slice y.2.1 y.2.2.1 y.2.2.2)/\wr.cell? ⟨g,h*2,none⟩=some (.string ⟨x0.1.toArray⟩)/\wr.cell? ⟨g,h*2+1,none⟩=some (.slice x0.2.1 x0.2.2.1 x0.2.2.2)/\Ext wr wr:=⟨j0.1,j0.2,g0.1,g0.2,Ext.refl wr⟩
    have u1:∀w0 w1:World,(w0.cell? ⟨g,e*2,none⟩=some (.string ⟨y.1.toArray⟩)/\w0.cell? ⟨g,e*2+1,none⟩=some (.slice y.2.1 y.2.2.1 y.2.2.2)/\w0.cell? ⟨g,h*2,none⟩=some (.string ⟨x0.1.toArray⟩)/\w0.cell? ⟨g,h*2+1,none⟩=some (.slice x0.2.1 x0.2.2.1 x0.2.2.2)/\Ext wr w0)->Ext w0 w1->(w1.cell? ⟨g,e*2,none⟩=some (.string ⟨y.1.toArray⟩)/\w1.cell? ⟨g,e*2+1,none⟩=some (.slice y.2.1 y.2.2.1 y.2.2.2)/\w1.cell? ⟨g,h*2,none⟩=some (.string ⟨x0.1.toArray⟩)/\w1.cell? ⟨g,h*2+1,none⟩=some (.slice x0.2.1 x0.2.2.1 x0.2.2.2)/\Ext wr w1):=fun w0 w1 h1 h3=>⟨h3.cell h1.1,h3.cell h1.2.1,h3.cell h1.2.2.1,h3.cell h1.2.2.2.1,h1.2.2.2.2.trans h3⟩
    have z1:=u1 _ _ q1 (Ext.refl wr).drew;have b1:(h:Int)<(dl:Int):=by omega
    have b2:(e:Int)<(dl:Int):=by omega
    replace q1:=ZA q1;replace z1:=ZA z1;replace u1:=ZA u1;replace y1:=ZA y1;replace hy:=ZA hy;replace hh:=ZA hh;replace he:=ZA he;replace a2:=ZA a2;clear j0 g0;go_upto_region 35 with (fail)
    rw[hh.out];by_cases o1:y.1<x0.1
    ·have f0:=ZA o1
     go_region_held3 (fun x=>x.cell? ⟨g,e*2,none⟩=some (.string ⟨y.1.toArray⟩)/\x.cell? ⟨g,e*2+1,none⟩=some (.slice y.2.1 y.2.2.1 y.2.2.2)/\x.cell? ⟨g,h*2,none⟩=some (.string ⟨x0.1.toArray⟩)/\x.cell? ⟨g,h*2+1,none⟩=some (.slice x0.2.1 x0.2.2.1 x0.2.2.2)/\Ext wr x) (first | exact z1.out | exact q1.out | exact ‹_› | exact u1.out _ _ ‹_› ‹_›) (first
      | (go_at_call 137;refine(h0.out y x0 _).mono ?_;rintro e w5 ⟨zc,rfl,i0,b3,c3,r1⟩;have y2:=i0.2 f0.out;have d3:decide (zc<0)=true:=decide_eq_true y2;replace i0:=ZA i0))
     have s1:=hI.out.2.trans ((Ext.refl wr).drew.trans r1);go_wp2_with fail;go_roundw
     case rel=>exact⟨s,h,rfl,rfl,i2,p3,by omega,ZA ⟨⟨i2,p3,by omega,hI.out.1.lo,.inr ⟨x0,y,y1.out,by rw[<-he.out];exact hy.out,o1⟩⟩,s1⟩⟩
     case measure=>simp[intOf];omega
    ·have f0:=ZA o1
     go_region_held3 (fun x=>x.cell? ⟨g,e*2,none⟩=some (.string ⟨y.1.toArray⟩)/\x.cell? ⟨g,e*2+1,none⟩=some (.slice y.2.1 y.2.2.1 y.2.2.2)/\x.cell? ⟨g,h*2,none⟩=some (.string ⟨x0.1.toArray⟩)/\x.cell? ⟨g,h*2+1,none⟩=some (.slice x0.2.1 x0.2.2.1 x0.2.2.2)/\Ext wr x) (first | exact z1.out | exact q1.out | exact ‹_› | exact u1.out _ _ ‹_› ‹_›) (first
      | (go_at_call 137;refine(h0.out y x0 _).mono ?_;rintro e w5 ⟨zc,rfl,i0,b3,c3,r1⟩;have y2:¬ zc<0:=fun hc=>f0.out (i0.1 hc);have d3:decide (zc<0)=false:=decide_eq_false y2;replace i0:=ZA i0))
     have s1:=hI.out.2.trans ((Ext.refl wr).drew.trans r1);go_wp2_with fail;go_roundw
     case rel=>exact⟨h+1,r,by go_num,rfl,by omega,by omega,q3,ZA ⟨⟨by omega,by omega,q3,.inr ⟨x0,y,by rw[show h+1 - 1=h by omega];exact y1.out,by rw[show N - (h+1)=e by have:=he.out;omega];exact hy.out,o1⟩,hI.out.1.hi⟩,s1⟩⟩
     case measure=>simp[intOf];omega
   ·obtain rfl:s=r:=by omega
    have v1:=hI.out.1.cut hL.out hD.out ha.out hm.out hb.out;obtain⟨p,hp⟩:∃p,p=s - a:=⟨_,rfl⟩
    obtain⟨q,hq⟩:∃q,q=N - s - m:=⟨_,rfl⟩
    obtain⟨en,d2⟩:∃en,en=N - s:=⟨_,rfl⟩
    rw[<-hp,<-hq]at v1;obtain⟨A1,m0⟩:∃x,x=A.take p:=⟨_,rfl⟩
    obtain⟨A2,u0⟩:∃x,x=A.drop p:=⟨_,rfl⟩
    obtain⟨B1,t0⟩:∃x,x=B.take q:=⟨_,rfl⟩
    obtain⟨B2,y0⟩:∃x,x=B.drop q:=⟨_,rfl⟩
    have u2:=fun M1 M2 (h1:Mrg A1 B1 M1) (h2:Mrg A2 B2 M2)=>v1.mrg hA.out hB.out (M1:=M1) (M2:=M2) (by rw[<-m0,<-t0];exact h1) (by rw[<-u0,<-y0];exact h2);have l0:A=A1++A2:=by rw[m0,u0,List.take_append_drop]
    have n0:B=B1++B2:=by rw[t0,y0,List.take_append_drop]
    have d0:=hA.out;have e0:=hB.out;have a0:=hm.out;have b0:=hb.out;have e1:=ha.out;rw[l0]at d0 a0;rw[n0]at e0 b0;rw[List.length_append]at a0 b0;have l1:A1.length=p:=by rw[m0,List.length_take];have:=v1.ile;omega
    have l2:B1.length=q:=by rw[t0,List.length_take];have:=v1.jle;omega
    have s0:D=P++(A1++(A2++(B1++(B2++Q)))):=by rw[hD.out,l0,n0];simp
    obtain⟨T,hT⟩:∃T,T=P++(A1++(B1++(A2++(B2++Q)))):=⟨_,rfl⟩
    have d1:T.length=dl:=by rw[v0.out,s0,hT];simp only[List.length_append];omega
    have c0:(N:Int) - (s:Int)=(en:Int):=by omega
    have i1:s<m->m<en->RotI T D m (m - s) (en - m):=fun h1 h2=>⟨⟨P++A1,A2,B1,B2++Q,by rw[s0];simp,by rw[List.length_append];omega,by omega,by omega,by rw[hT];simp⟩,by omega,by omega⟩
    have f1:¬ (s<m/\m<en)->D=T:=fun h=>by
     rw[s0,hT];by_cases h1:s<m
     ·have:B1 = []:=List.length_eq_zero_iff.1 (by have:=fun h2=>h ⟨h1,h2⟩;omega);rw[this];rfl
     ·have:A2 = []:=List.length_eq_zero_iff.1 (by omega);rw[this];rfl
    have m2:A1.length+B1.length<A.length+B.length:=by rw[l0,n0,List.length_append,List.length_append];have:=hmid.out;have:=hN.out;omega
    have v2:A2.length+B2.length<A.length+B.length:=by rw[l0,n0,List.length_append,List.length_append];have:=hmid.out;have:=hN.out;omega
    have k1:mid=s+B1.length:=by have:=hN.out;omega
    have k2:en=mid+A2.length:=by have:=hN.out;omega
    have k3:b=en+B2.length:=by have:=hN.out;omega
    have k4:s=a+A1.length:=by omega
    have m1:=g1.out.ext hI.out.2;have r0:=Chg.of_ext hI.out.2 (fun k=>k=g);have a3:s<b:=by omega
    have x3:en<=b:=by omega
    have z3:m<=en:=by omega
    obtain⟨we,rfl⟩:∃we,we=wr:=⟨_,rfl⟩
    replace i1:=ZA i1;replace f1:=ZA f1;replace u2:=ZA u2;replace hT:=ZA hT;replace d1:=ZA d1;replace s0:=ZA s0;replace c0:=ZA c0;replace m2:=ZA m2;replace v2:=ZA v2;replace d0:=ZA d0;replace e0:=ZA e0;replace k1:=ZA k1;replace k2:=ZA k2;replace k3:=ZA k3;replace k4:=ZA k4;replace m1:=ZA m1;replace r0:=ZA r0;replace e1:=ZA e1;replace d2:=ZA d2;clear hp hq v1 m0 u0 t0 y0 l0 n0 a0 b0 l1 l2;obtain⟨t1,j0⟩:∃t:Bool,t=(decide (s<m)&&decide (m<en)):=⟨_,rfl⟩
    replace j0:=ZA j0;go_upto_region 39 with (fail)
    rw[c0.out]
    go_cut [185] from 178 to 185 (fun sx wv=>sx = .bool t1/\wv=we)
    case first =>
     by_cases c1:s<m
     ·have c1b:decide (s<m)=true:=decide_eq_true c1;by_cases c2:m<en
      ·have c2b:decide (m<en)=true:=decide_eq_true c2;have ht:=j0.out;rw[c1b,c2b]at ht;replace ht:=ZA ht;go_wp2_with fail
       go_meet
       case rel=>exact⟨by rw[ht.out];rfl,rfl⟩
      ·have c2b:decide (m<en)=false:=decide_eq_false c2;have ht:=j0.out;rw[c1b,c2b]at ht;replace ht:=ZA ht;go_wp2_with fail
       go_meet
       case rel=>exact⟨by rw[ht.out];rfl,rfl⟩
     ·have c1b:decide (s<m)=false:=decide_eq_false c1;have ht:=j0.out;rw[c1b]at ht;replace ht:=ZA ht;go_wp2_with fail
      go_meet
      case rel=>exact⟨by rw[ht.out];rfl,rfl⟩
    case' rest=>obtain⟨rfl,rfl⟩:=hcut
    go_upto_if 185 with (fail)
    go_cut [24] from 186 to 191 (fun s24 wv=>s24 = .int .i64 (en:Int)/\Hid (TR wv g T/\Chg (fun k=>k=g) wo wv))
    case first =>
     cases t1 with
     | true =>
      have hc:=j0.out.symm;simp only[Bool.and_eq_true,decide_eq_true_eq]at hc;have hr:=ZA (k0.out s en T wc m1.out (i1.out hc.1 hc.2) hc.1 hc.2);clear hc;go_wp2_with fail;refine hr.out.mono ?_;rintro e w6 ⟨rfl,p1,o0⟩;go_wp2_with fail
      go_meet
      case rel=>exact⟨rfl,ZA ⟨p1,r0.out.trans o0 fun _ _ h=>h⟩⟩
     | false =>
      have m3:=ZA (f1.out fun h=>by have:=j0.out;rw[decide_eq_true h.1,decide_eq_true h.2]at this;cases this);go_wp2_with fail
      go_meet
      case rel=>exact⟨rfl,ZA ⟨by rw[<-m3.out];exact m1.out,r0.out⟩⟩
    case rest =>
     obtain⟨rfl,a1⟩:=hcut;obtain⟨wf,rfl⟩:∃wf,wf=wc:=⟨_,rfl⟩
     clear i1 f1 m1 r0 k0 h0;have j1:a<s->s<mid->Calls Tryz.prog 199 #[.slice (some ⟨g,0,none⟩) dl c,.int .i64 (a:Int),.int .i64 (s:Int),.int .i64 (mid:Int),cmpV] wf (SymP g P A1 B1 (A2++(B2++Q)) wf):=fun h1 h2 =>
      ih'.out a s mid T P A1 B1 (A2++(B2++Q)) wf m2.out a1.out.1 d1.out hT.out e1.out k4.out k1.out d0.out.left e0.out.left (by have:=k4.out;omega) (by have:=k1.out;omega)
     have n1:¬ (a<s/\s<mid)->Mrg A1 B1 (A1++B1):=fun h=>by
      by_cases h1:a<s
      ·have:B1 = []:=List.length_eq_zero_iff.1 (by have:=k1.out;have:=fun h2=>h ⟨h1,h2⟩;omega);rw[this,List.append_nil];exact Mrg.nil_right d0.out.left
      ·have:A1 = []:=List.length_eq_zero_iff.1 (by have:=k4.out;omega);rw[this];exact Mrg.nil_left e0.out.left
     have m4:s<=mid:=by have:=k1.out;omega
     have p4:mid<=en:=by have:=k2.out;omega
     unfold cmpV at j1;replace j1:=ZA j1;replace n1:=ZA n1;obtain⟨t2,g0⟩:∃t:Bool,t=(decide (a<s)&&decide (s<mid)):=⟨_,rfl⟩
     replace g0:=ZA g0;go_upto_region 41 with (fail)
     go_cut [199] from 192 to 199 (fun sx wv=>sx = .bool t2/\wv=wf)
     case first =>
      by_cases c1:a<s
      ·have c1b:decide (a<s)=true:=decide_eq_true c1;by_cases c2:s<mid
       ·have c2b:decide (s<mid)=true:=decide_eq_true c2;have ht:=g0.out;rw[c1b,c2b]at ht;replace ht:=ZA ht;go_wp2_with fail
        go_meet
        case rel=>exact⟨by rw[ht.out];rfl,rfl⟩
       ·have c2b:decide (s<mid)=false:=decide_eq_false c2;have ht:=g0.out;rw[c1b,c2b]at ht;replace ht:=ZA ht;go_wp2_with fail
        go_meet
        case rel=>exact⟨by rw[ht.out];rfl,rfl⟩
      ·have c1b:decide (a<s)=false:=decide_eq_false c1;have ht:=g0.out;rw[c1b]at ht;replace ht:=ZA ht;go_wp2_with fail
       go_meet
       case rel=>exact⟨by rw[ht.out];rfl,rfl⟩
     case' rest=>obtain⟨rfl,rfl⟩:=hcut
     go_upto_if 199 with (fail)
     go_cut [24] from 200 to 205 (fun s24 wv=>s24 = .int .i64 (en:Int)/\∃M1,Hid (Mrg A1 B1 M1/\TR wv g (P++(M1++(A2++(B2++Q))))/\Chg (fun k=>k=g) wo wv))
     case first =>
      cases t2 with
      | true =>
       have hc:=g0.out.symm;simp only[Bool.and_eq_true,decide_eq_true_eq]at hc;have hr:=ZA (j1.out hc.1 hc.2);clear hc;go_wp2_with fail;refine hr.out.mono ?_;rintro e w6 ⟨rfl,M1,t3,p1,o0⟩;go_wp2_with fail
       go_meet
       case rel=>exact⟨rfl,M1,ZA ⟨t3,p1,a1.out.2.trans o0 fun _ _ h=>h⟩⟩
      | false =>
       have x1:=ZA (n1.out fun h=>by have:=g0.out;rw[decide_eq_true h.1,decide_eq_true h.2]at this;cases this);go_wp2_with fail
       go_meet
       case rel=>exact⟨rfl,_,ZA ⟨x1.out,by rw[List.append_assoc,<-hT.out];exact a1.out.1,a1.out.2⟩⟩
     case rest =>
      obtain⟨rfl,M1,hM⟩:=hcut;obtain⟨wg,rfl⟩:∃wg,wg=wc:=⟨_,rfl⟩
      have z0:=hM.out.1.2.len;rw[List.length_append]at z0;have g2:(P++M1).length=mid:=by rw[List.length_append];have:=k1.out;have:=k4.out;have:=e1.out;omega
      have q2:(P++(M1++(A2++(B2++Q)))).length=dl:=by rw[<-d1.out,hT.out];simp only[List.length_append];omega
      have j2:mid<en->en<b->Calls Tryz.prog 199 #[.slice (some ⟨g,0,none⟩) dl c,.int .i64 (mid:Int),.int .i64 (en:Int),.int .i64 (b:Int),cmpV] wg (SymP g (P++M1) A2 B2 Q wg):=fun h1 h2 =>
       ih'.out mid en b _ (P++M1) A2 B2 Q wg v2.out hM.out.2.1 q2 (by simp) g2.symm k2.out k3.out d0.out.right e0.out.right (by have:=k2.out;omega) (by have:=k3.out;omega)
      have n2:¬ (mid<en/\en<b)->Mrg A2 B2 (A2++B2):=fun h=>by
       by_cases h1:mid<en
       ·have:B2 = []:=List.length_eq_zero_iff.1 (by have:=k3.out;have:=fun h2=>h ⟨h1,h2⟩;omega);rw[this,List.append_nil];exact Mrg.nil_right d0.out.right
       ·have:A2 = []:=List.length_eq_zero_iff.1 (by have:=k2.out;omega);rw[this];exact Mrg.nil_left e0.out.right
      have q0:∀(M2:List TmV) (x:World),Mrg A2 B2 M2->TR x g ((P++M1)++(M2++Q))->Chg (fun k=>k=g) wo x->SymP g P A B Q wo (.returned (.tuple #[])) x:=fun M2 x h1 h2 h3 =>
       ⟨rfl,M1++M2,u2.out M1 M2 hM.out.1 h1,by rw[List.append_assoc,<-List.append_assoc P];exact h2,h3⟩
      unfold cmpV at j2;replace j2:=ZA j2;replace n2:=ZA n2;replace q0:=ZA q0;replace z0:=ZA z0;replace g2:=ZA g2;replace q2:=ZA q2;by_cases c1:mid<en
      ·by_cases c2:en<b
       ·have hr:=ZA (j2.out c1 c2);have c1b:decide (mid<en)=true:=decide_eq_true c1;have c2b:decide (en<b)=true:=decide_eq_true c2;go_wp2_with fail;refine hr.out.mono ?_;rintro e w6 ⟨rfl,M2,v3,p1,o0⟩;go_wp2_with fail
        go_end0
        exact q0.out M2 w6 v3 p1 (hM.out.2.2.trans o0 fun _ _ h=>h)
       ·have c1b:decide (mid<en)=true:=decide_eq_true c1;have c2b:decide (en<b)=false:=decide_eq_false c2;have x1:=ZA (n2.out fun h=>c2 h.2);go_wp2_with fail
        go_end0
        exact q0.out _ wg x1.out (by have:=hM.out.2.1;simpa only[List.append_assoc]using this) hM.out.2.2
      ·have c1b:decide (mid<en)=false:=decide_eq_false c1;have x1:=ZA (n2.out fun h=>c1 h.1);go_wp2_with fail
       go_end0
       exact q0.out _ wg x1.out (by have:=hM.out.2.1;simpa only[List.append_assoc]using this) hM.out.2.2
theorem ZCn (g c:Nat):∀(n a m b:Nat) (D P A B Q:List TmV) (w:World),A.length+B.length<n->TR w g D->D=P++(A++(B++Q))->a=P.length->m=a+A.length->b=m+B.length->Srt A->Srt B->0<A.length->0<B.length->D.length<=1073741824 ->
 Calls Tryz.prog 199 #[.slice (some ⟨g,0,none⟩) D.length c,.int .i64 (a:Int),.int .i64 (m:Int),.int .i64 (b:Int),cmpV] w (SymP g P A B Q w)
 | 0,_,_,_,_,_,_,_,_,_,h,_,_,_,_,_,_,_,_,_,_=>absurd h (Nat.not_lt_zero _)
 | n+1,a,m,b,D,P,A,B,Q,w,h,hT,hD,ha,hm,hb,hA,hB,k0,j0,h0=>by
  by_cases q0:A.length=1
  ·obtain⟨z,rfl⟩:=List.length_eq_one_iff.1 q0;exact ZL2 g c a m b D P B Q z w hT hD ha hm hb hB h0
  ·by_cases p0:B.length=1
   ·obtain⟨z,rfl⟩:=List.length_eq_one_iff.1 p0;exact ZKE g c a m b D P A Q z w hT hD ha hm hb hA (by omega) h0
   ·exact ZNM g c a m b D P A B Q w hT hD ha hm hb hA hB (by omega) (by omega) h0 fun a m b D P A' B' Q w g0=>ZCn g c n a m b D P A' B' Q w (by omega)
inductive Bk (k:Nat):List TmV->List TmV->Prop
  | nil:Bk k [] []
  | last (X S:List TmV):0<X.length->X.length<=k->Std X S->Bk k X S
  | cons (X S d e:List TmV):X.length=k->Std X S->0<d.length->Bk k d e->Bk k (X++d) (S++e)
inductive BdS (k:Nat):List TmV->List TmV->Prop
  | nil:BdS k [] []
  | snoc (d e X S:List TmV):BdS k d e->X.length=k->Std X S->BdS k (d++X) (e++S)
theorem Bk.len {k:Nat} {d e:List TmV} (h:Bk k d e):e.length=d.length:=by
 induction h with
 | nil=>rfl
 | last X S _ _ h=>exact h.2.len
 | cons X S d e _ h _ _ ih=>rw[List.length_append,List.length_append,ih,h.2.len]
theorem BdS.len {k:Nat} {d e:List TmV} (h:BdS k d e):e.length=d.length:=by
 induction h with
 | nil=>rfl
 | snoc d e X S _ _ h ih=>rw[List.length_append,List.length_append,ih,h.2.len]
theorem Bk.empty {k:Nat} {e:List TmV} (h:Bk k [] e):e = []:=List.length_eq_zero_iff.1 h.len
theorem Bk.push {k:Nat} {X S d e:List TmV} (hk:0<k) (hX:X.length=k) (hS:Std X S) (h:Bk k d e):Bk k (X++d) (S++e):=by
 by_cases hd:d = []
 ·subst hd;rw[h.empty,List.append_nil,List.append_nil];exact .last X S (by omega) (by omega) hS
 ·exact .cons X S d e hX hS (List.length_pos_iff.2 hd) h
theorem BdS.bk {k:Nat} {d e:List TmV} (hk:0<k) (h:BdS k d e):∀ {d' e':List TmV},Bk k d' e'->Bk k (d++d') (e++e'):=by
 induction h with
 | nil=>exact fun h=>h
 | snoc d e X S _ hX hS ih =>
  intro d' e' h;rw[List.append_assoc,List.append_assoc];exact ih (Bk.push hk hX hS h)
theorem Bk.two {k:Nat} {d e:List TmV} (h:Bk k d e) (hk:0<k) (hl:2*k<=d.length):∃X S Y T d' e',d=X++(Y++d')/\e=S++(T++e')/\X.length=k/\Y.length=k/\Std X S/\Std Y T/\Bk k d' e':=by
 cases h with
 | nil=>simp at hl;omega
 | last X S h1 h2 h3=>omega
 | cons X S d e hX hS hd h2 =>
  rw[List.length_append]at hl;cases h2 with
  | nil=>simp at hd
  | last Y T h1 h3 h4=>exact⟨X,S,d,e,[],[],by simp,by simp,hX,by omega,hS,h4,.nil⟩
  | cons Y T d' e' hY hT h0 h3=>exact⟨X,S,Y,T,d',e',rfl,rfl,hX,hY,hS,hT,h3⟩
theorem Bk.few {k:Nat} {d e:List TmV} (h:Bk k d e) (hl:d.length<2*k):(d.length<=k/\Bk (2*k) d e)\/(∃X S Y T,d=X++Y/\e=S++T/\X.length=k/\0<Y.length/\Std X S/\Std Y T):=by
 cases h with
 | nil=>exact .inl ⟨Nat.zero_le _,.nil⟩
 | last X S h1 h2 h3=>exact .inl ⟨h2,.last _ _ h1 (by omega) h3⟩
 | cons X S d e hX hS hd h2 =>
  rw[List.length_append]at hl;cases h2 with
  | nil=>simp at hd
  | last Y T h1 h3 h4=>exact .inr ⟨X,S,d,e,rfl,rfl,hX,h1,hS,h4⟩
  | cons Y T d' e' hY hT h0 h3=>rw[List.length_append]at hl;omega
theorem Bk.whole {k:Nat} {d e:List TmV} (h:Bk k d e) (hl:d.length<=k):Std d e:=by
 cases h with
 | nil=>exact⟨List.Pairwise.nil,Stb.refl _⟩
 | last X S h1 h2 h3=>exact h3
 | cons X S d e hX hS hd h2=>rw[List.length_append]at hl;omega
theorem ZI2 (g c:Nat) (D:List TmV) (w:World) (k1:TR w g D) (c1:D.length<=268435456) :
 Calls Tryz.prog 179 #[.slice (some ⟨g,0,none⟩) D.length c,.int .i64 (D.length:Int),cmpV] w fun e w'=>e = .returned (.tuple #[])/\∃E,Std D E/\TR w' g E/\Chg (fun k=>k=g) w w':=by
 obtain⟨n,hn⟩:∃n,n=D.length:=⟨_,rfl⟩
 have m0:∀(a b:Nat) (E P X Q:List TmV) (x:World),TR x g E->E.length=n->E=P++(X++Q)->a=P.length->b=P.length+X.length->Calls Tryz.prog 198 #[.slice (some ⟨g,0,none⟩) n c,.int .i64 (a:Int),.int .i64 (b:Int),cmpV] x fun e w'=>e = .returned (.tuple #[])/\∃S,Std X S/\TR w' g (P++(S++Q))/\Chg (fun k=>k=g) x w':=fun a b E P X Q x h1 h2 h3 h4 h5=>by
  have:=ZFA g c a b E P X Q x h1 h3 h4 h5 (by omega);rw[h2]at this;exact this
 have t0:∀(a m b:Nat) (E P A B Q:List TmV) (x:World),TR x g E->E.length=n->E=P++(A++(B++Q))->a=P.length->m=a+A.length->b=m+B.length->Srt A->Srt B->0<A.length->0<B.length->Calls Tryz.prog 199 #[.slice (some ⟨g,0,none⟩) n c,.int .i64 (a:Int),.int .i64 (m:Int),.int .i64 (b:Int),cmpV] x (SymP g P A B Q x):=fun a m b E P A B Q x h1 h2 h3 h4 h5 h6 h7 h8 h9 u1=>by
  have:=ZCn g c _ a m b E P A B Q x (Nat.lt_succ_self _) h1 h3 h4 h5 h6 h7 h8 h9 u1 (by omega);rw[h2]at this;exact this
 rw[<-hn]at c1 ⊢;unfold cmpV at m0 t0 ⊢;replace m0:=ZA m0;replace t0:=ZA t0;replace k1:=ZA k1;replace hn:=ZA hn;go_enter Tryz.func179,Tryz.ntmps179;go_wp2_with fail
 go_loopw [7,8] (fun s7 s8 wr=>∃(a:Nat) (d:List TmV),s7 = .int .i64 (a:Int)/\s8 = .int .i64 ((a:Int)+20)/\a<=n/\Hid (BdS 20 (D.take a) d/\TR wr g (d++D.drop a)/\Chg (fun k=>k=g) w wr)) (fun s7 _ _=>n - (intOf s7).toNat)
 case atStart=>exact⟨0,[],rfl,rfl,Nat.zero_le _,ZA ⟨.nil,k1.out,Chg.refl _ _⟩⟩
 case round =>
  obtain⟨a,d,rfl,rfl,y1,hI⟩:=hrel;have f0:d.length=a:=by rw[hI.out.1.len,List.length_take];have:=hn.out;omega
  have j0:(d++D.drop a).length=n:=by rw[List.length_append,List.length_drop];have:=hn.out;omega
  by_cases hb:a+20<=n
  ·have a1:(a:Int)+20<=(n:Int):=by omega
   have h1:=m0.out a (a+20) _ d ((D.drop a).take 20) (D.drop (a+20)) wr hI.out.2.1 j0 (by rw[<-List.drop_drop,List.take_append_drop]) f0.symm (by rw[List.length_take,List.length_drop];have:=hn.out;omega);have g1:((a+20:Nat):Int)=(a:Int)+20:=by omega
   rw[g1]at h1;have y0:((D.drop a).take 20).length=20:=by rw[List.length_take,List.length_drop];have:=hn.out;omega
   have v1:D.take (a+20)=D.take a++(D.drop a).take 20:=by rw[List.take_add]
   replace h1:=ZA h1;replace f0:=ZA f0;replace j0:=ZA j0;replace v1:=ZA v1;replace y0:=ZA y0;replace g1:=ZA g1;go_wp2_with fail;refine h1.out.mono ?_;rintro e w1 ⟨rfl,S,hS,hT,hC⟩;replace hT:=ZA hT;replace hC:=ZA hC;replace hS:=ZA hS;go_wp2_with fail;go_roundw
   case rel=>exact⟨a+20,d++S,by go_num,by go_num,hb,ZA ⟨by rw[v1.out];exact .snoc _ _ _ _ hI.out.1 y0.out hS.out,by rw[List.append_assoc];exact hT.out,hI.out.2.2.trans hC.out fun _ _ h=>h⟩⟩
   case measure=>simp[intOf];omega
  ·have a1:¬ (a:Int)+20<=(n:Int):=by omega
   have h1:=ZA (m0.out a n _ d (D.drop a) [] wr hI.out.2.1 j0 (by rw[List.append_nil]) f0.symm (by rw[List.length_drop];have:=hn.out;omega));have g0:(D.drop a).length<=20:=by rw[List.length_drop];have:=hn.out;omega
   have p1:=List.take_append_drop a D;obtain⟨wo,rfl⟩:∃wo,wo=wr:=⟨_,rfl⟩
   replace f0:=ZA f0;replace j0:=ZA j0;replace g0:=ZA g0;replace p1:=ZA p1;go_wp2_with fail;refine h1.out.mono ?_;rintro e w1 ⟨rfl,S,hS,hT,hC⟩;have s0:Bk 20 D (d++S):=by
    rw[<-p1.out];refine hI.out.1.bk (by omega) ?_;by_cases he:D.drop a = []
    ·have:=hS.2.len;rw[he]at this ⊢;rw[List.length_eq_zero_iff.1 this];exact .nil
    ·exact .last _ _ (List.length_pos_iff.2 he) g0.out hS
   rw[List.append_nil]at hT;have w0:=hI.out.2.2.trans hC fun _ _ h=>h;replace s0:=ZA s0;replace hT:=ZA hT;replace w0:=ZA w0;replace hS:=ZA hS;replace hC:=ZA hC;clear h1;go_wp2_with fail
   go_loopw [6] (fun s6 wr=>∃(k:Nat) (E:List TmV),s6 = .int .i64 (k:Int)/\20<=k/\k<=2*n+20/\Hid (Bk k D E/\TR wr g E/\Chg (fun k=>k=g) w wr)) (fun s6 _=>n - (intOf s6).toNat)
   case atStart=>exact⟨20,d++S,rfl,Nat.le_refl _,by omega,ZA ⟨s0.out,hT.out,w0.out⟩⟩
   case round =>
    obtain⟨k,E,rfl,b1,f1,hJ⟩:=hrel;obtain⟨wq,rfl⟩:∃wq,wq=wr:=⟨_,rfl⟩
    by_cases i1:k<n
    ·have t1:Bk k D E:=hJ.out.1;have j1:=hJ.out.2.1;have q1:=hJ.out.2.2;replace t1:=ZA t1;replace j1:=ZA j1;replace q1:=ZA q1;go_wp2_with fail
     go_loopw [7,8] (fun s7 s8 wr=>∃(a b:Nat) (d e d' e':List TmV),s7 = .int .i64 (a:Int)/\s8 = .int .i64 (b:Int)/\a<=n/\b<=n+2*k/\Hid (b=a+2*k/\d.length=a/\BdS (2*k) d e/\Bk k d' e'/\D=d++d'/\TR wr g (e++e')/\Chg (fun k=>k=g) w wr)) (fun s7 _ _=>n - (intOf s7).toNat)
     case atStart=>exact⟨0,2*k,[],[],D,E,rfl,by congr 1,Nat.zero_le _,by omega,ZA ⟨by omega,rfl,.nil,t1.out,rfl,j1.out,q1.out⟩⟩
     case round =>
      obtain⟨a,b,d,e,d',e',rfl,rfl,y1,e1,hK⟩:=hrel;obtain⟨e0,o0,u0,q0,x0,hT,hC⟩:=hK.out;have m1:=u0.len;have a0:=q0.len;have l0:=hn.out;rw[x0,List.length_append]at l0;have j0:(e++e').length=n:=by rw[List.length_append];omega
      have n0:((a+k:Nat):Int)=(a:Int)+(k:Int):=by omega
      by_cases z1:b<=n
      ·obtain⟨X,S,Y,T,d2,e2,v0,i0,g0,z0,p0,k0,r0⟩:=q0.two (by omega) (by omega);have h1:=t0.out a (a+k) b _ e S T e2 wr hT j0 (by rw[i0]) (by omega) (by rw[p0.2.len];omega) (by rw[k0.2.len];omega) p0.1 k0.1 (by rw[p0.2.len];omega) (by rw[k0.2.len];omega);rw[n0]at h1;replace h1:=ZA h1;replace e0:=ZA e0;replace o0:=ZA o0;replace u0:=ZA u0;replace x0:=ZA x0;replace hC:=ZA hC;replace v0:=ZA v0;replace g0:=ZA g0;replace z0:=ZA z0;replace p0:=ZA p0;replace k0:=ZA k0;replace r0:=ZA r0;clear hT q0 m1 a0 l0 j0 n0 i0;go_wp2_with fail;refine h1.out.mono ?_;rintro en w1 ⟨rfl,M,hM,d0,c0⟩;replace hM:=ZA hM;replace d0:=ZA d0;replace c0:=ZA c0;go_wp2_with fail;go_roundw
       case rel=>exact⟨b,b+2*k,d++(X++Y),e++M,d2,e2,rfl,by congr 1,z1,by omega,ZA ⟨rfl,by rw[List.length_append,List.length_append];have:=e0.out;have:=o0.out;have:=g0.out;have:=z0.out;omega,.snoc _ _ _ _ u0.out (by rw[List.length_append];have:=g0.out;have:=z0.out;omega) (p0.out.mrg k0.out hM.out),r0.out,by rw[x0.out,v0.out];simp,by rw[List.append_assoc];exact d0.out,hC.out.trans c0.out fun _ _ h=>h⟩⟩
       case measure=>have:=e0.out;simp[intOf];omega
      ·have b0:=q0.few (by omega);by_cases hm:a+k<n
       ·rcases b0 with ⟨h1,h2⟩ | ⟨X,S,Y,T,v0,i0,g0,z0,p0,k0⟩
        ·omega
        ·have x1:n=a+k+Y.length:=by rw[v0,List.length_append]at l0;omega
         have h1:=t0.out a (a+k) n _ e S T [] wr hT j0 (by rw[i0,List.append_nil]) (by omega) (by rw[p0.2.len];omega) (by rw[k0.2.len];omega) p0.1 k0.1 (by rw[p0.2.len];omega) (by rw[k0.2.len];omega);rw[n0]at h1;have h0:∀(M:List TmV) (x:World),Mrg S T M->TR x g (e++(M ++ []))->Chg (fun k=>k=g) wr x->Bk (2*k) D (e++M)/\TR x g (e++M)/\Chg (fun k=>k=g) w x:=fun M x h2 h3 h4 =>
          ⟨by rw[x0];exact u0.bk (by omega) (by rw[v0];exact .last _ _ (by rw[List.length_append];omega) (by rw[List.length_append];omega) (p0.mrg k0 h2)),by rw[List.append_nil]at h3;exact h3,hC.trans h4 fun _ _ h=>h⟩
         have d1:(a:Int)+(k:Int)<(n:Int):=by omega
         replace h1:=ZA h1;replace h0:=ZA h0;clear e0 o0 u0 q0 x0 hT hC v0 i0 g0 z0 p0 k0 x1 hK m1 a0 l0 j0 n0;go_wp2_with fail;refine h1.out.mono ?_;rintro en w1 ⟨rfl,M,hM,d0,c0⟩;have hf:=ZA (h0.out M w1 hM d0 c0);clear hM d0 c0;go_wp2_with fail;go_roundw
         case rel=>exact⟨2*k,e++M,by congr 1;omega,by omega,by omega,hf⟩
         case measure=>simp[intOf];omega
       ·have h0:Bk (2*k) D (e++e'):=by
         rcases b0 with ⟨h1,h2⟩ | ⟨X,S,Y,T,v0,i0,g0,z0,p0,k0⟩
         ·rw[x0];exact u0.bk (by omega) h2
         ·rw[v0,List.length_append]at l0;omega
        have d1:¬ (a:Int)+(k:Int)<(n:Int):=by omega
        have hf:=ZA (And.intro h0 (And.intro hT hC));clear e0 o0 u0 q0 x0 hT hC hK m1 a0 l0 j0 n0 b0 h0;go_wp2_with fail;go_roundw
        case rel=>exact⟨2*k,e++e',by congr 1;omega,by omega,by omega,hf⟩
        case measure=>simp[intOf];omega
    ·have h0:Std D E:=hJ.out.1.whole (by have:=hn.out;omega);replace h0:=ZA h0;go_wp2_with fail
     go_end0
     exact⟨rfl,E,h0.out,hJ.out.2.1,hJ.out.2.2⟩
theorem ZD9 (g c:Nat) (D:List TmV) (w:World) (q0:TR w g D) (h0:D.length<=268435456) :
 Calls Tryz.prog 136 #[.slice (some ⟨g,0,none⟩) D.length c,cmpV] w fun e w'=>e = .returned (.tuple #[])/\∃E,Std D E/\TR w' g E/\Chg (fun k=>k=g) w w':=by
 have h:=ZI2 g c D w q0 h0;obtain⟨n,hn⟩:∃n,n=D.length:=⟨_,rfl⟩
 rw[<-hn]at h h0 ⊢;unfold cmpV at h ⊢;replace h:=ZA h;replace hn:=ZA hn;go_enter Tryz.func136,Tryz.ntmps136;go_wp2_with fail;refine h.out.mono ?_;rintro e w1 ⟨rfl,E,hE,hT,hC⟩;go_wp2_with fail
 go_end0
 exact⟨rfl,E,hE,hT,hC⟩
def OwnB (w:World) (base:Nat) (l:List UInt8) (e:Ending) (w':World):Prop:=∃A c,e = .returned (.slice A l.length c)/\Own8 w' base A l.length c l/\Ext w w'
theorem Own8.ext {w w1:World} {base:Nat} {A:Option Addr} {n c:Nat} {l:List UInt8} (h:Own8 w base A n c l) (hE:Ext w w1):Own8 w1 base A n c l:=⟨h.1,h.2.ext hE⟩
theorem ZOH {z:Int} {q:Nat} (h:z=(q:Int)) (hq:q<18446744073709551616):IntKind.u64.wrap z=(q:Int):=by rw[h];exact ZX hq
theorem Zo {α:Type} {l:List α} {i:Nat} {x:α} (h:l[i]? = some x):l.drop i=x::l.drop (i+1):=by
 obtain⟨hi,rfl⟩:=List.getElem?_eq_some_iff.1 h;exact List.drop_eq_getElem_cons hi
theorem ZAS {n lo x:Int} {t:List Int} (h:risB n lo (x::t)=true):lo<x/\x<n/\risB n x t=true:=by
 unfold risB at h;rw[Bool.and_eq_true,Bool.and_eq_true]at h;exact⟨of_decide_eq_true h.1.1,of_decide_eq_true h.1.2,h.2⟩
theorem ZK8 (base:Nat) (A B:Option Addr) (n c k c2:Nat) (l:List UInt8) (last N:Int) (xs:List Int) (w:World) (hb:Own8 w base A n c l) (j0:base<=w.heap.size) (hk:k=xs.length) (hx:Cells w B (xs.map IV))
 (hr:risB N last xs=true) (g0 : -1<=last) (q0:last<=1099511627776) (hN:N<=1099511627776) (p1:n+10*k<=1000000000) :
 Calls Tryz.prog 84 #[.slice A n c,.int .i64 last,.slice B k c2] w fun e w'=>OwnB w base (l++stepsL last xs) e w':=by
 have c0:=ZA (fun A n c x l W h1 h2 h3 h4 h5=>ZA3 A n c x l W h1 h2 h3 h4 h5);obtain⟨Z,hZ⟩:∃Z,Z=l++stepsL last xs:=⟨_,rfl⟩
 rw[<-hZ];replace hZ:=ZA hZ;replace hb:=ZA hb;replace hk:=ZA hk;replace hx:=ZA hx;replace hr:=ZA hr;go_enter Tryz.func84,Tryz.ntmps84;go_wp2_with fail
 go_loopw [0,1,11] (fun s0 s1 s11 wr=>∃(i n1 c1:Nat) (A1:Option Addr) (L:List UInt8) (p:Int),s0 = .slice A1 n1 c1/\s1 = .int .i64 p/\s11 = .int .i64 (i:Int)/\i<=k /\ -1<=p/\p<=1099511627776/\n1<=n+10*i/\Hid (Z=L++stepsL p (xs.drop i))/\Hid (risB N p (xs.drop i)=true)/\Hid (Own8 wr base A1 n1 c1 L)/\Hid (Ext w wr)) (fun _ _ s11 _=>k - (intOf s11).toNat)
 case atStart=>exact⟨0,n,c,A,l,last,rfl,rfl,rfl,by omega,g0,q0,by omega,ZA (by rw[hZ.out];rfl),hr,hb,ZA (Ext.refl w)⟩
 case round =>
  obtain⟨i,n1,c1,A1,L,p,rfl,rfl,rfl,hi,j1,g1,k1,e0,q1,h0,hE⟩:=hrel;by_cases h:i<k
  ·obtain⟨x,m0⟩:∃x,xs[i]? = some x:=⟨_,List.getElem?_eq_getElem (by rw[<-hk.out];exact h)⟩
   obtain⟨g,o,hA,y0⟩:=hx.out.at_ (by rw[List.length_map,<-hk.out];omega);subst hA;have w0:=hE.out.cell (y0 i (IV x) (by rw[List.getElem?_map,m0];rfl));unfold IV at w0;have z0:=Zo m0;have p0:=q1.out;have u0:=e0.out;rw[z0]at p0 u0;obtain⟨m1,v1,k0⟩:=ZAS p0;obtain⟨q,hq⟩:∃q:Nat,(q:Int)=x - p - 1:=⟨(x - p - 1).toNat,by omega⟩
   have t1:=ZOH (z:=x - p - 1) hq.symm (by omega);have i0:q<18446744073709551616:=by omega
   have n0:Hid (Z=(L++vb q)++stepsL x (xs.drop (i+1))):=ZA (by
    rw[u0,List.append_assoc];show _++(vb (x - p - 1).toNat++_)=_;rw[<-hq];rfl)
   have a0:=ZD i0;have r0:=ZA (c0.out A1 n1 c1 q L wr h0.out.1 h0.out.2.cells (h0.out.nil_) (by omega) i0);have v0:L.length=n1:=h0.out.1.symm;have o0:=Nat.le_trans j0 hE.out.size;have hlen:(L++vb q).length<=n+10*(i+1):=by rw[List.length_append,v0];omega
   replace y0:=ZA y0;replace m0:=ZA m0;replace z0:=ZA z0;replace v0:=ZA v0;replace k0:=ZA k0;clear p0 u0 a0;replace hq:=ZA hq;go_wp2_with fail;refine r0.out.mono ?_;rintro e w2 l0;obtain⟨A2,c2,rfl,d0,t0⟩:=l0;have f0:Hid (Own8 w2 base A2 (L++vb q).length c2 (L++vb q)):=ZA ⟨rfl,d0.lower o0⟩;obtain⟨n2,b0⟩:∃n2,n2=(L++vb q).length:=⟨_,rfl⟩
   rw[<-b0]at f0 hlen ⊢;replace b0:=ZA b0;replace t0:=ZA (hE.out.trans t0);clear d0;go_wp2_with fail;exact⟨⟨i+1,n2,c2,A2,L++vb q,x,rfl,rfl,rfl,by omega,by omega,by omega,by omega,n0,k0,f0,t0⟩,by simp only[intOf];omega⟩
  ·obtain rfl:i=k:=by omega
   have x0:Z=L:=by rw[e0.out,List.drop_eq_nil_of_le (by rw[<-hk.out];exact Nat.le_refl _),stepsL,List.append_nil]
   replace x0:=ZA x0;go_wp2_with fail;go_ret;have ho:=h0.out;have hl:=ho.1;rw[x0.out];subst hl;exact⟨A1,c1,rfl,ho,hE.out⟩
theorem ZCZ {β γ:Type} (g:β->γ) (l:List (List UInt8×β)) (s:List UInt8):valsOf (l.map fun x=>(x.1,g x.2)) s=(valsOf l s).map g:=by
 unfold valsOf;rw[List.filter_map,List.map_map,List.map_map];rfl
theorem Std.stabM {β γ:Type} {D E:List (List UInt8×β)} (h:Std D E) (g:β->γ):Stab (D.map fun x=>(x.1,g x.2)) (E.map fun x=>(x.1,g x.2)):=by
 refine⟨?_,fun s=>by rw[ZCZ,ZCZ,h.2.vals]⟩;rw[List.pairwise_map];exact h.1
structure TmsOk (w:World) (base:Nat) (D:List TmV) (R:List (List UInt8×List Int)):Prop where
  len:D.length=R.length
  each:∀(i:Nat) (x:TmV) (p:List UInt8×List Int),D[i]? = some x->R[i]? = some p->x.1=p.1/\Buf w base 3 x.2.1 x.2.2.1 x.2.2.2 (p.2.map IV)
  apart:∀(i j:Nat) (x y:TmV),D[i]? = some x->D[j]? = some y->i≠j->∀a b,x.2.1=some a->y.2.1=some b->a.block≠b.block
theorem TmsOk.nil (w:World) (base:Nat):TmsOk w base [] []:=⟨rfl,nofun,nofun⟩
theorem TmsOk.keep {w w1:World} {base:Nat} {D:List TmV} {R:List (List UInt8×List Int)} (h:TmsOk w base D R) (hk:∀A n c xs,Buf w base 3 A n c xs->Buf w1 base 3 A n c xs):TmsOk w1 base D R :=
 ⟨h.len,fun i x p hx hp=>⟨(h.each i x p hx hp).1,hk _ _ _ _ (h.each i x p hx hp).2⟩,h.apart⟩
theorem TmsOk.ext {w w1:World} {base:Nat} {D:List TmV} {R:List (List UInt8×List Int)} (h:TmsOk w base D R) (hE:Ext w w1):TmsOk w1 base D R:=h.keep fun _ _ _ _ hb=>hb.ext hE
theorem TmsOk.snoc {w w1:World} {base:Nat} {D:List TmV} {R:List (List UInt8×List Int)} (h:TmsOk w base D R) (hk:∀A n c xs,Buf w base 3 A n c xs->Buf w1 base 3 A n c xs) {x:TmV} {p:List UInt8×List Int} (hx:x.1=p.1) (hb:Buf w1 base 3 x.2.1 x.2.2.1 x.2.2.2 (p.2.map IV)) (hn:∀a,x.2.1=some a->w.heap.size<=a.block):TmsOk w1 base (D ++ [x]) (R ++ [p]):=by
 have p0:∀(i:Nat) (y:TmV),D[i]? = some y->∀b,y.2.1=some b->b.block<w.heap.size:=fun i y hy b hb=>by
  have hi:=(List.getElem?_eq_some_iff.1 hy).1;obtain⟨q,hq⟩:∃q,R[i]? = some q:=⟨_,List.getElem?_eq_getElem (by rw[<-h.len];exact hi)⟩
  exact(h.each i y q hy hq).2.lt b hb
 have h0:∀(i:Nat) (y:TmV),(D ++ [x])[i]? = some y->D[i]? = some y\/(i=D.length/\y=x):=fun i y hy=>by
  by_cases hi:i<D.length
  ·rw[List.getElem?_append_left hi]at hy;exact .inl hy
  ·rw[List.getElem?_append_right (by omega)]at hy;have h2:=(List.getElem?_eq_some_iff.1 hy).1;rw[List.length_singleton]at h2;have h3:i - D.length=0:=by omega
   rw[h3]at hy;exact .inr ⟨by omega,by simpa using hy.symm⟩
 refine⟨by rw[List.length_append,List.length_append,h.len];rfl,fun i y q hy hq=>?_,fun i j y z hy hz g0 a b ha q0=>?_⟩
 ·rcases h0 i y hy with hy | ⟨hi,rfl⟩
  ·have hi:=(List.getElem?_eq_some_iff.1 hy).1;rw[List.getElem?_append_left (by rw[<-h.len];exact hi)]at hq;have:=h.each i y q hy hq;exact⟨this.1,hk _ _ _ _ this.2⟩
  ·rw[List.getElem?_append_right (by rw[hi,h.len];exact Nat.le_refl _),hi,h.len,Nat.sub_self]at hq;obtain rfl:p=q:=by simpa using hq
   exact⟨hx,hb⟩
 ·rcases h0 i y hy with k0 | ⟨hi,rfl⟩ <;> rcases h0 j z hz with j0 | ⟨hj,rfl⟩
  ·exact h.apart i j y z k0 j0 g0 a b ha q0
  ·have:=p0 i y k0 a ha;have:=hn b q0;omega
  ·have:=p0 j z j0 b q0;have:=hn a ha;omega
  ·omega
end
section
open Go.RowKit
theorem Cells.part {w:World} {A:Option Addr} {xs:List Value} (h:Cells w A xs) (hA:∀a,A=some a->a.spot=none) (k m:Nat):Cells w (A.map fun a=>a.add k) ((xs.drop k).take m):=by
 rcases h with h | ⟨g,o,rfl,hc⟩
 ·subst h;exact .inl (by simp)
 ·refine .inr ⟨g,o+k,by rw[Option.map_some,Addr.add_lit],fun j v hv=>?_⟩;rw[List.getElem?_take]at hv;split at hv
  ·rw[List.getElem?_drop]at hv;have:=hc _ v hv
   rwa [Nat.add_assoc]
  ·cases hv
theorem Chg.others {S:Nat->Prop} {w w1:World} (h:Chg S w w1) (hS:∀k,S k->∃t cs,Row w k t cs):KeepsOthers w w1 :=
 ⟨h.size,fun k o hk ho=>(h.block k (Array.getElem?_eq_some_iff.1 hk).1 fun hs=>by
  obtain⟨t,cs,hr⟩:=hS k hs;unfold Row at hr;rw[hr]at hk;injection hk with hk;subst hk;cases ho).trans hk⟩
theorem ZAE {α:Type} {f:α->List Value} {k:Nat} (hf:∀x,(f x).length=k):∀(l:List α) (i:Nat),(l.drop i).flatMap f=(l.flatMap f).drop (i*k)
 | [],i=>by simp
 | x::l,0=>by simp
 | x::l,i+1=>by
  rw[List.drop_succ_cons,List.flatMap_cons,ZAE hf l i,Nat.succ_mul,Nat.add_comm,<-List.drop_drop,List.drop_left' (hf x)]
theorem Z4 {α:Type} {f:α->List Value} {k:Nat} (hf:∀x,(f x).length=k):∀(l:List α) (i:Nat),(l.take i).flatMap f=(l.flatMap f).take (i*k)
 | [],i=>by simp
 | x::l,0=>by simp
 | x::l,i+1=>by
  rw[List.take_succ_cons,List.flatMap_cons,Z4 hf l i,List.flatMap_cons,Nat.succ_mul,Nat.add_comm,show k+i*k=(f x).length+i*k by rw[hf x],List.take_length_add_append]
theorem ZJw {W:World} {b1 b2 k size n c:Nat} {e e2:TypeId} {A:Option Addr} {v:Value} {xs ys:List Value} (hb:Buf W b1 e A n c xs) (ho:W.ownsRow b2 e2 size v k ys) (q0:e2≠e):∀a,A=some a->v.ownBlock≠some a.block:=fun a ha=>by
 rcases hb.2.2 with ⟨h0,_⟩ | ⟨g,cur,hA,_,hr,_⟩
 ·rw[h0]at ha;cases ha
 ·rw[hA]at ha;cases ha;exact ZJ ho hr q0
theorem ZAL {w:World} {base:Nat} {e:TypeId} {size n c:Nat} {A:Option Addr} {xs:List Value} (h:w.ownsRow base e size (.slice A n c) n xs):n<=c/\∀a,A=some a->a.spot=none:=by
 rcases h.2 with ⟨hv,h0⟩ | ⟨g,cap,cur,hv,_,_,q0,_⟩
 ·injection hv with h1 h2 h3;subst h1 h3;exact⟨by omega,nofun⟩
 ·injection hv with h1 h2 h3;subst h1 h3;exact⟨q0,fun a ha=>by cases ha;rfl⟩
def HB (base h1 h2:Nat) (Hd Bd:List UInt8) (W:World):Prop:=∃(A1 A2:Option Addr) (c1 c2:Nat),Row W h1 25 #[.slice A1 Hd.length c1]/\Row W h2 25 #[.slice A2 Bd.length c2]/\Own8 W base A1 Hd.length c1 Hd/\Own8 W base A2 Bd.length c2 Bd/\∀a1 a2,A1=some a1->A2=some a2->a1.block≠a2.block
section
variable {base h1 h2:Nat} {Hd Bd:List UInt8} {W W1:World}
theorem HB.ext (h:HB base h1 h2 Hd Bd W) (hE:Ext W W1):HB base h1 h2 Hd Bd W1:=by
 obtain⟨A1,A2,c1,c2,r1,r2,o1,o2,h0⟩:=h;exact⟨A1,A2,c1,c2,r1.ext hE,r2.ext hE,o1.ext hE,o2.ext hE,h0⟩
theorem HB.alike {B:Nat} (h:HB base h1 h2 Hd Bd W) (hE:Alike B W W1):HB base h1 h2 Hd Bd W1:=by
 obtain⟨A1,A2,c1,c2,r1,r2,o1,o2,h0⟩:=h;exact⟨A1,A2,c1,c2,hE.row r1,hE.row r2,⟨o1.1,hE.buf o1.2⟩,⟨o2.1,hE.buf o2.2⟩,h0⟩
theorem HB.chg {S:Nat->Prop} (h:HB base h1 h2 Hd Bd W) (hE:Chg S W W1) (hS:∀k,S k->∃t cs,Row W k t cs/\t≠25/\t≠5):HB base h1 h2 Hd Bd W1:=by
 obtain⟨A1,A2,c1,c2,r1,r2,o1,o2,q0⟩:=h;have hn:∀ {g:Nat} {cs:Array Value},Row W g 25 cs->¬ S g:=fun hr hs=>by
  obtain⟨t,cs,h0,ht,_⟩:=hS _ hs;exact Row.unlike hr h0 (fun e=>ht e.symm) rfl
 have hb:∀ {A:Option Addr} {n c:Nat} {xs:List Value},Buf W base 5 A n c xs->∀a,A=some a->¬ S a.block:=fun hb a ha hs=>by
  obtain⟨t,cs,h0,_,ht⟩:=hS _ hs;exact hb.unlike h0 (fun e=>ht e.symm) a ha rfl
 exact⟨A1,A2,c1,c2,hE.row r1 (hn r1),hE.row r2 (hn r2),⟨o1.1,o1.2.chg hE (hb o1.2)⟩,⟨o2.1,o2.2.chg hE (hb o2.2)⟩,q0⟩
theorem HB.head {W6:World} {B1:Nat} {Hd':List UInt8} {A:Option Addr} {n c:Nat} (h:HB base h1 h2 Hd Bd W) (q0:h1≠h2) (hE:Ext W W6) (hn:n=Hd'.length) (hb:Buf W6 B1 5 A n c (Hd'.map B8)) (hB:W.heap.size<=B1) (h0:base<=B1) :
 HB base h1 h2 Hd' Bd (W6.setCell ⟨h1,0,none⟩ (.slice A n c)):=by
 subst hn;obtain⟨A1,A2,c1,c2,r1,r2,o1,o2,hd⟩:=h;have r16:=r1.ext hE;refine⟨A,A2,c,c2,r16.put 0 _,(r2.ext hE).away (fun e=>q0 e.symm) _,⟨rfl,(hb.lower h0).setCell (hb.unlike r16 (by decide)) _⟩,⟨o2.1,(o2.2.ext hE).setCell ((o2.2.ext hE).unlike r16 (by decide)) _⟩,fun a1 a2 e1 e2 e=>?_⟩;have h3:=hb.base_le a1 e1;have h4:=o2.2.lt a2 e2;omega
theorem HB.rows {W1:World} {A2:Option Addr} {c2:Nat} (h:HB base h1 h2 Hd Bd W) (h0:Row W h2 25 #[.slice A2 Bd.length c2]) (hg:W.grownBy W1 (Value.slice A2 Bd.length c2).ownBlock) {g:Nat} {t:TypeId} {cs:Array Value} (hr:Row W g t cs) (ht:t≠5):Row W1 g t cs:=by
 obtain⟨A1,A2',c1,c2',r1,r2,o1,o2,hd⟩:=h;have he:A2'=A2/\c2'=c2:=by
  have e:=r2.cell 0 rfl;rw[h0.cell 0 rfl]at e;injection e with e;injection e with e1 _ e2;exact⟨e1.symm,e2.symm⟩
 obtain⟨rfl,rfl⟩:=he;refine hr.grown hg fun e=>?_;cases A2' with
 | none=>simp[Value.ownBlock]at e
 | some a=>exact o2.2.unlike hr (fun e=>ht e.symm) a rfl (by simpa [Value.ownBlock]using e.symm)
theorem HB.body {W1:World} {A2 A3:Option Addr} {c2 n3 c3:Nat} {x:List UInt8} (h:HB base h1 h2 Hd Bd W) (j0:h1≠h2) (g0:Row W h2 25 #[.slice A2 Bd.length c2]) (hg:W.grownBy W1 (Value.slice A2 Bd.length c2).ownBlock) (hn:n3=(Bd++x).length) (hb:Buf W1 base 5 A3 n3 c3 ((Bd++x).map B8))
 (hA:A3=A2\/A3=some ⟨W.heap.size,0,none⟩) :
 HB base h1 h2 Hd (Bd++x) (W1.setCell ⟨h2,0,none⟩ (.slice A3 n3 c3))/\KeepsOthers W (W1.setCell ⟨h2,0,none⟩ (.slice A3 n3 c3))/\(∀g t cs,Row W g t cs->t≠5->g≠h2->Row (W1.setCell ⟨h2,0,none⟩ (.slice A3 n3 c3)) g t cs) /\
  (∀w0,Ext w0 W->w0.heap.size<=base->w0.heap.size<=h2->Ext w0 (W1.setCell ⟨h2,0,none⟩ (.slice A3 n3 c3))):=by
 subst hn;obtain⟨A1,A2',c1,c2',r1,r2,o1,o2,hd⟩:=h;have he:A2'=A2/\c2'=c2:=by
  have e:=r2.cell 0 rfl;rw[g0.cell 0 rfl]at e;injection e with e;injection e with e1 _ e2;exact⟨e1.symm,e2.symm⟩
 obtain⟨rfl,rfl⟩:=he;have h0:∀k,(Value.slice A2' Bd.length c2').ownBlock=some k->∃a,A2'=some a/\a.block=k:=fun k hk=>by
  cases A2' with
  | none=>simp[Value.ownBlock]at hk
  | some a=>exact⟨a,rfl,by simpa [Value.ownBlock]using hk⟩
 have q0:∀g t cs,Row W g t cs->t≠5->Row W1 g t cs:=fun g t cs hr ht=>hr.grown hg fun e=>by
  obtain⟨a,ha,hk⟩:=h0 g e.symm;exact o2.2.unlike hr (fun e=>ht e.symm) a ha hk
 have r1':=q0 _ _ _ r1 (by decide);have r2':=q0 _ _ _ r2 (by decide);have o1':Buf W1 base 5 A1 Hd.length c1 (Hd.map B8):=o1.2.grown hg fun a ha e=>by
  obtain⟨a2,p0,hk⟩:=h0 _ e;exact hd a a2 ha p0 hk.symm
 refine⟨⟨A1,A3,c1,c3,r1'.away j0 _,r2'.put 0 _,⟨rfl,o1'.setCell (o1'.unlike r2' (by decide)) _⟩,⟨rfl,hb.setCell (hb.unlike r2' (by decide)) _⟩,fun a1 a3 e1 e3 e=>?_⟩,(ZAF o2.2 hg).trans (KeepsOthers.setCell _ _ _),fun g t cs hr ht k0=>(q0 g t cs hr ht).away k0 _,fun w0 hE m0 hh=>(hE.grown hg fun k hk=>?_).setCell hh _⟩
 ·rcases hA with rfl | rfl
  ·exact hd a1 a3 e1 e3 e
  ·have:=o1.2.lt a1 e1;injection e3 with e3;subst e3;simp only at e;omega
 ·obtain⟨a2,p0,rfl⟩:=h0 _ hk;have:=o2.2.base_le a2 p0;omega
end
end
section
open Go.RowKit
def splitG:Nat->List UInt8->List (List UInt8)×Nat
 | 0,_=>([],0)
 | f+1,l=>if l = [] then ([],0) else match getF l with
  | .error k=>([],k)
  | .ok (p,r)=>(p::(splitG f r).1,(splitG f r).2)
def splitF (l:List UInt8):List (List UInt8)×Nat:=splitG l.length l
theorem ZDM (f:Nat) (l:List UInt8):splitG (f+1) l=if l = [] then ([],0) else match getF l with
 | .error k=>([],k)
 | .ok (p,r)=>(p::(splitG f r).1,(splitG f r).2):=rfl
theorem ZDL:∀(f g:Nat) (l:List UInt8),l.length<=f->l.length<=g->splitG f l=splitG g l
 | 0,0,l,_,_=>rfl
 | 0,g+1,l,h,_=>by
  have:l = []:=List.length_eq_zero_iff.1 (by omega);subst this;rfl
 | f+1,0,l,_,h=>by
  have:l = []:=List.length_eq_zero_iff.1 (by omega);subst this;rfl
 | f+1,g+1,l,h1,h2=>by
  unfold splitG;split
  ·rfl
  ·cases hg:getF l with
   | error k=>rfl
   | ok q =>
    obtain⟨p,r⟩:=q;have:=(ZAT hg).1;simp only;rw[ZDL f g r (by omega) (by omega)]
theorem ZEE:splitF []=([],0):=rfl
theorem ZEV {l:List UInt8} {k:Nat} (hl:l ≠ []) (h:getF l = .error k):splitF l=([],k):=by
 have hp:=List.length_pos_iff.2 hl;unfold splitF;rw[show l.length=l.length - 1+1 by omega,ZDM,if_neg hl,h]
theorem ZDO {l p r:List UInt8} (hl:l ≠ []) (h:getF l = .ok (p,r)):splitF l=(p::(splitF r).1,(splitF r).2):=by
 have hp:=List.length_pos_iff.2 hl;have hr:=(ZAT h).1;unfold splitF;rw[show l.length=l.length - 1+1 by omega,ZDM,if_neg hl,h];simp only;rw[ZDL (l.length - 1) r.length r (by omega) (by omega)]
theorem ZBy:∀(ps:List (List UInt8)),(∀p∈ps,p.length<=16777216)->splitF (joinL ps)=(ps,0)
 | [],_=>rfl
 | p::ps,h=>by
  have hg:getF (joinL (p::ps)) = .ok (p,joinL ps):=ZMR (h p (List.mem_cons_self ..)) _;have h0:joinL (p::ps) ≠ []:=by
   intro e;rw[e]at hg;have:=(ZAT hg).1;simp at this
  rw[ZDO h0 hg,ZBy ps fun q hq=>h q (List.mem_cons_of_mem _ hq)]
theorem ZCh:∀(f:Nat) (l:List UInt8),∀p∈(splitG f l).1,p.length<=16777216/\p.length<=l.length
 | 0,l,p,h=>by cases h
 | f+1,l,p,h=>by
  unfold splitG at h;split at h
  ·cases h
  ·cases hg:getF l with
   | error k=>rw[hg]at h;cases h
   | ok q =>
    obtain⟨p1,r⟩:=q;have hl:=ZAT hg;rw[hg]at h;rcases List.mem_cons.1 h with rfl | h
    ·exact⟨hl.2.1,hl.2.2⟩
    ·have:=ZCh f r p h;exact⟨this.1,by omega⟩
theorem ZCm {l p:List UInt8} (h:p∈(splitF l).1):p.length<=16777216/\p.length<=l.length:=ZCh _ l p h
theorem ZCo:∀(f:Nat) (l:List UInt8),(splitG f l).1.length<=f
 | 0,l=>Nat.le_refl _
 | f+1,l=>by
  unfold splitG;split
  ·exact Nat.zero_le _
  ·cases hg:getF l with
   | error k=>exact Nat.zero_le _
   | ok q =>
    obtain⟨p1,r⟩:=q;have:=ZCo f r;simp only[List.length_cons];omega
theorem ZGW (l:List UInt8):(splitF l).1.length<=l.length:=ZCo _ l
def GotE (w0 w:World) (res:Option (Ev×List UInt8)) (e:Ending) (w':World):Prop:=Ext w w'/\match res with
 | some (ev,r)=>∃B d A c,e = .returned (.tuple #[ev.val B d,.slice A r.length c,.int .i64 0])/\ev.Own w' w.heap.size B d/\In8 w0 A r.length c r/\I64ok' ev.at_
 | none=>e = .returned (.tuple #[.agg #[.int .i64 0,.slice none 0 0],.slice none 0 0,.int .i64 100])
theorem GotE.no {w0 w w':World} {res:Option (Ev×List UInt8)} (hE:Ext w w') (h:res=none):GotE w0 w res (.returned (.tuple #[.agg #[.int .i64 0,.slice none 0 0],.slice none 0 0,.int .i64 100])) w':=by
 subst h;exact⟨hE,rfl⟩
def aheadF (read:List Fd):Option (List Fd×List UInt8)->Option (List Fd×List UInt8)
 | none=>none
 | some (fs,r)=>some (read++fs,r)
theorem ZEo (x:Option (List Fd×List UInt8)):aheadF [] x=x:=by cases x <;> rfl
theorem ZEm {k i:Nat} {read:List Fd} {L r r1 r2 nm tx:List UInt8} (h:getFs k L=aheadF read (getFs (k - i) r)) (hi:i<k) (h1:getT 32 r = .ok (nm,r1)) (h2:getT 4096 r1 = .ok (tx,r2)):getFs k L=aheadF (read ++ [(nm,tx)]) (getFs (k - (i+1)) r2):=by
 obtain⟨j,hj⟩:∃j,k - i=j+1:=⟨k - i - 1,by omega⟩
 rw[h,hj,show k - (i+1)=j by omega]
 conv=>lhs;unfold getFs
 rw[h1];simp only;rw[h2];simp only;cases getFs j r2 with
 | none=>rfl
 | some p=>obtain⟨fs,r3⟩:=p;simp[aheadF]
theorem ZGO {k i:Nat} {read:List Fd} {L r:List UInt8} {x:Nat} (h:getFs k L=aheadF read (getFs (k - i) r)) (hi:i<k) (h1:getT 32 r = .error x):getFs k L=none:=by
 obtain⟨j,hj⟩:∃j,k - i=j+1:=⟨k - i - 1,by omega⟩
 rw[h,hj];unfold getFs;rw[h1];rfl
theorem ZGC {k i:Nat} {read:List Fd} {L r r1 nm:List UInt8} {x:Nat} (h:getFs k L=aheadF read (getFs (k - i) r)) (hi:i<k) (h1:getT 32 r = .ok (nm,r1)) (h2:getT 4096 r1 = .error x):getFs k L=none:=by
 obtain⟨j,hj⟩:∃j,k - i=j+1:=⟨k - i - 1,by omega⟩
 rw[h,hj];unfold getFs;rw[h1];simp only;rw[h2];rfl
theorem ZGq {k i:Nat} {read:List Fd} {L r:List UInt8} (h:getFs k L=aheadF read (getFs (k - i) r)) (hi:k<=i):getFs k L=some (read,r):=by
 rw[h,show k - i=0 by omega];unfold getFs aheadF;simp
theorem ZCs {most k:Nat} {l:List UInt8} (h:getT most l = .error k):0<k:=by
 unfold getT at h;split at h
 ·rename_i hg;injection h with h;rw[<-h];exact Zl _ _ _ hg
 ·split at h
  ·injection h with h;omega
  ·split at h
   ·injection h with h;omega
   ·cases h
def setEv (w:World) (g:Nat) (at_:Int) (A:Option Addr) (n c:Nat):World:=(w.setCell ⟨g,0,none⟩ (.int .i64 at_)).setCell ⟨g,1,none⟩ (.slice A n c)
theorem Zc {w:World} {g:Nat} {T:TypeId} {x y:Value} (h:Row w g T #[x,y]) (at_:Int) (A:Option Addr) (n c:Nat):Row (setEv w g at_ A n c) g T #[.int .i64 at_,.slice A n c]:=(h.put 0 _).put 1 _
theorem ZDx (w:World) (g:Nat) (at_:Int) (A:Option Addr) (n c:Nat):Chg (fun k=>k=g) w (setEv w g at_ A n c):=(Chg.of_set (S:=fun k=>k=g) w _ rfl).trans (Chg.of_set (S:=fun k=>k=g) _ _ rfl) fun _ _ h=>h
theorem Zb {w0 w:World} (h:Ext w0 w) {g:Nat} (hg:w0.heap.size<=g) (at_:Int) (A:Option Addr) (n c:Nat):Ext w0 (setEv w g at_ A n c):=h.chg (ZDx w g at_ A n c) fun i hi he=>by omega
theorem ZJo (A:Option Addr) (n c:Nat) (l:List UInt8) (w0 w:World) (h:In8 w0 A n c l) (hw:Ext w0 w) (t3:n<=1000000000) :
 Calls Tryz.prog 95 #[.slice A n c] w fun e w'=>GotE w0 w (getE l) e w':=by
 obtain⟨W,hW⟩:∃W,W=w.alloc (.cells #[.int .i64 0,.slice none 0 0] 37):=⟨_,rfl⟩
 have t1:Ext w W:=by rw[hW];exact(Ext.refl w).alloc _
 obtain⟨b,hb⟩:∃b,b=w.heap.size:=⟨_,rfl⟩
 have hr:Row W b 37 #[.int .i64 0,.slice none 0 0]:=by rw[hW,hb];exact Row.new w _ _
 have b0:=ZA (Nat.le_of_eq hb.symm);have o1:=ZJk A n c l w0 W h (hw.trans t1) t3;have n3:l.length<=1000000000:=by rw[<-h.len];exact t3
 obtain⟨Z,hZ⟩:∃Z,Z=getE l:=⟨_,rfl⟩
 rw[<-hZ];unfold getE at hZ;replace hW:=ZA hW;replace hb:=ZA hb;clear h;cases i1:getV 0 l with
 | error k =>
  rw[i1]at o1 hZ;have hk:=Zl l 0 k i1;have i2:((k:Int) != 0)=true:=by simp;omega
  have hg:=ZA o1;clear i1 hk o1;go_enter Tryz.func95,Tryz.ntmps95;go_wp2_with fail;rw[<-hW.out,<-hb.out];refine hg.out.mono ?_;rintro e w1 ⟨c0,rfl⟩;have p0:=hr.ext c0;have f1:=fun i=>p0.free i;have d0:=p0.cell 0 rfl;have d1:=p0.cell 1 rfl;replace p0:=ZA p0;have y0:=ZA (t1.trans c0);replace hZ:=ZA hZ;go_wp2_with fail;obtain⟨wz,h0⟩:∃wz,wz=setEv w1 b 0 none 0 0:=⟨_,rfl⟩;have hk:=Zc p0.out 0 none 0 0;rw[<-h0]at hk;have v0:=Zb y0.out b0.out 0 none 0 0;rw[<-h0]at v0;unfold setEv at h0;rw[<-h0];have k0:wz.cell? ⟨b,0,none⟩=some (.int .i64 0):=hk.cell 0 rfl;have k1:wz.cell? ⟨b,1,none⟩=some (.slice none 0 0):=hk.cell 1 rfl;clear h0 hk;exact bodyPost_ret (v:= .tuple #[.agg #[.int .i64 0,.slice none 0 0],.slice none 0 0,.int .i64 100]) (by simp[results,Tryz.results95,go_sem,k0,k1]) rfl (GotE.no v0 hZ.out)
 | ok p =>
  obtain⟨u,r⟩:=p;have hu:=Zp i1;have h3:r.length<=1000000000:=by
   obtain⟨_,_,q,hq,_⟩:=ZAH l 0 u r i1;rw[hq,List.length_append]at n3;omega
  rw[i1]at o1 hZ;simp only at hZ;have hg:=ZA o1;have b3:=ZFH hu;obtain⟨at_,j3⟩:∃at_,at_=unzig u:=⟨_,rfl⟩
  unfold GotI at hg;simp only at hg;rw[<-j3]at hg hZ b3;clear i1 o1 j3 hu;cases h1:getV 0 r with
  | error k =>
   rw[h1]at hZ;have hk:=Zl r 0 k h1;have i2:((k:Int) != 0)=true:=by simp;omega
   have e0:=fun A c W h hE=>ZA1 A r.length c r w0 W h hE h3;rw[h1]at e0;replace e0:=ZA e0;replace hZ:=ZA hZ;clear h1 hk;go_enter Tryz.func95,Tryz.ntmps95;go_wp2_with fail;rw[<-hW.out,<-hb.out];refine hg.out.mono ?_;rintro e w1 ⟨c0,A1,c1,rfl,hi1⟩;have r0:=ZA (e0.out A1 c1 w1 hi1 ((hw.trans t1).trans c0));go_wp2_with fail;refine r0.out.mono ?_;rintro e w2 ⟨j1,rfl⟩;have p0:=hr.ext (c0.trans j1);have f1:=fun i=>p0.free i;have d0:=p0.cell 0 rfl;have d1:=p0.cell 1 rfl;replace p0:=ZA p0;have y0:=ZA (t1.trans (c0.trans j1));go_wp2_with fail;obtain⟨wz,h0⟩:∃wz,wz=setEv w2 b 0 none 0 0:=⟨_,rfl⟩;have hk:=Zc p0.out 0 none 0 0;rw[<-h0]at hk;have v0:=Zb y0.out b0.out 0 none 0 0;rw[<-h0]at v0;unfold setEv at h0;rw[<-h0];have k0:wz.cell? ⟨b,0,none⟩=some (.int .i64 0):=hk.cell 0 rfl;have k1:wz.cell? ⟨b,1,none⟩=some (.slice none 0 0):=hk.cell 1 rfl;clear h0 hk;exact bodyPost_ret (v:= .tuple #[.agg #[.int .i64 0,.slice none 0 0],.slice none 0 0,.int .i64 100]) (by simp[results,Tryz.results95,go_sem,k0,k1]) rfl (GotE.no v0 hZ.out)
  | ok p =>
   obtain⟨m,r2⟩:=p;have q3:r2.length<=1000000000:=by
    obtain⟨_,_,q,hq,_⟩:=ZAH r 0 m r2 h1;rw[hq,List.length_append]at h3;omega
   have r3:=Zp h1;rw[h1]at hZ;simp only at hZ;have e0:=fun A c W h hE=>ZA1 A r.length c r w0 W h hE h3;rw[h1]at e0;unfold Got at e0;simp only at e0;replace e0:=ZA e0;clear h1;by_cases q2:16<m
   ·rw[if_pos q2]at hZ;have o3:(16:Int)<m:=by omega
    replace hZ:=ZA hZ;go_enter Tryz.func95,Tryz.ntmps95;go_wp2_with fail;rw[<-hW.out,<-hb.out];refine hg.out.mono ?_;rintro e w1 ⟨c0,A1,c1,rfl,hi1⟩;have r0:=ZA (e0.out A1 c1 w1 hi1 ((hw.trans t1).trans c0));go_wp2_with fail;refine r0.out.mono ?_;rintro e w2 ⟨j1,A2,c2,rfl,hi2⟩;have p0:=hr.ext (c0.trans j1);have f1:=fun i=>p0.free i;have d0:=p0.cell 0 rfl;have d1:=p0.cell 1 rfl;replace p0:=ZA p0;have y0:=ZA (t1.trans (c0.trans j1));go_wp2_with fail;obtain⟨wz,h0⟩:∃wz,wz=setEv w2 b 0 none 0 0:=⟨_,rfl⟩;have hk:=Zc p0.out 0 none 0 0;rw[<-h0]at hk;have v0:=Zb y0.out b0.out 0 none 0 0;rw[<-h0]at v0;unfold setEv at h0;rw[<-h0];have k0:wz.cell? ⟨b,0,none⟩=some (.int .i64 0):=hk.cell 0 rfl;have k1:wz.cell? ⟨b,1,none⟩=some (.slice none 0 0):=hk.cell 1 rfl;clear h0 hk;exact bodyPost_ret (v:= .tuple #[.agg #[.int .i64 0,.slice none 0 0],.slice none 0 0,.int .i64 100]) (by simp[results,Tryz.results95,go_sem,k0,k1]) rfl (GotE.no v0 hZ.out)
   ·rw[if_neg q2]at hZ;have o3:¬ (16:Int)<m:=by omega
    replace hZ:=ZA hZ;go_enter Tryz.func95,Tryz.ntmps95;go_wp2_with fail;rw[<-hW.out,<-hb.out];refine hg.out.mono ?_;rintro e w1 ⟨c0,A1,c1,rfl,hi1⟩;have r0:=ZA (e0.out A1 c1 w1 hi1 ((hw.trans t1).trans c0));go_wp2_with fail;refine r0.out.mono ?_;rintro e w2 ⟨j1,A2,c2,rfl,hi2⟩;have p0:=hr.ext (c0.trans j1);have f1:=fun i=>p0.free i;have d0:=p0.cell 0 rfl;have d1:=p0.cell 1 rfl;replace p0:=ZA p0;have y0:=ZA (t1.trans (c0.trans j1));go_wp2_with fail;have a3:=p0.out.put 0 (.int .i64 at_);obtain⟨W3,u2⟩:∃W3,W3=w2.setCell ⟨b,0,none⟩ (.int .i64 at_):=⟨_,rfl⟩
    have z2:Ext w W3:=by rw[u2];exact y0.out.setCell b0.out _
    have q4:Row W3 b 37 #[.int .i64 at_,.slice none 0 0]:=by rw[u2];exact a3
    rw[<-u2];clear a3 p0 y0 f1 d0 d1 r0 hg e0 u2
    go_loopw [3,33] (fun s3 s33 wr=>∃(i:Nat) (read:List Fd) (rr:List UInt8) (B A3:Option Addr) (d c3:Nat),s33 = .int .u64 (i:Int)/\s3 = .slice A3 rr.length c3/\i<=m/\rr.length<=1000000000/\Hid (i=read.length)/\Hid (getFs m r2=aheadF read (getFs (m - i) rr))/\Hid (∀f∈read,f.1.length<=1000000000/\f.2.length<=1000000000)/\Hid (Row wr b 37 #[.int .i64 at_,.slice B i d])/\Hid (wr.ownsRow (b+1) 105 2 (.slice B i d) i (fcells read))/\Hid (In8 w0 A3 rr.length c3 rr)/\Hid (Ext w wr)) (fun _ s33 _=>m - (intOf s33).toNat)
    case atStart=>exact⟨0,[],r2,none,A2,0,c2,rfl,rfl,by omega,q3,ZA rfl,ZA (by rw[ZEo];rfl),ZA nofun,ZA q4,ZA ⟨rfl,.inl ⟨rfl,rfl⟩⟩,ZA hi2,ZA z2⟩
    case round =>
     obtain⟨i,read,rr,B,A3,d,c3,rfl,rfl,hi,p4,s1,x2,v3,a0,e1,h2,hE⟩:=hrel;have q0:wr.cell? ⟨b,0,none⟩=some (.int .i64 at_):=a0.out.cell 0 rfl;have q1:wr.cell? ⟨b,1,none⟩=some (.slice B i d):=a0.out.cell 1 rfl;by_cases him:i<m
     ·have hi1:(i:Int)<m:=by omega
      obtain⟨fb,u1⟩:∃fb,fb=wr.heap.size:=⟨_,rfl⟩
      obtain⟨Wf,b1⟩:∃Wf,Wf=wr.alloc (.cells #[.string ⟨#[]⟩,.string ⟨#[]⟩] 105):=⟨_,rfl⟩
      have n1:Ext wr Wf:=by rw[b1];exact(Ext.refl wr).alloc _
      have s2:Row Wf fb 105 #[.string ⟨#[]⟩,.string ⟨#[]⟩]:=by rw[b1,u1];exact Row.new wr _ _
      have k4:b<fb:=by rw[u1];exact a0.out.lt
      have e2:=fun A c W h hE=>ZBr A rr.length c 32 rr w0 W h hE p4 (by omega);have j0:=e2 A3 c3 Wf h2.out (hw.trans (hE.out.trans n1));have a1:=ZA (hE.out.trans n1);replace b1:=ZA b1;replace u1:=ZA u1;cases s0:getT 32 rr with
      | error k =>
       have hk:=ZCs s0;have i2:((k:Int) != 0)=true:=by simp;omega
       have l0:=ZA (ZGO x2.out him s0);rw[s0]at j0;replace j0:=ZA j0;clear s0 hk e2;go_wp2_with fail;rw[<-b1.out,<-u1.out];refine j0.out.mono ?_;rintro e w4 ⟨t0,rfl⟩;have m0:=s2.ext t0;have x0:=(a0.out.ext n1).ext t0;have f4:=fun i=>m0.free i;have d4:=m0.cell 0 rfl;have i0:=x0.away (p:=⟨fb,0,none⟩) (by simp only;omega) (.string ⟨#[]⟩);have f5:=fun i=>i0.free i;have e5:=i0.cell 0 rfl;have e6:=i0.cell 1 rfl;have u0:=ZA ((a1.out.trans t0).setCell (p:=⟨fb,0,none⟩) (by simp only;have:=b0.out;omega) (.string ⟨#[]⟩));have v2:Hid (Z=none):=ZA (by rw[hZ.out,l0.out]);replace i0:=ZA i0;go_wp2_with fail;obtain⟨wz,h0⟩:∃wz,wz=setEv (w4.setCell ⟨fb,0,none⟩ (.string ⟨#[]⟩)) b 0 none 0 0:=⟨_,rfl⟩;have hk:=Zc i0.out 0 none 0 0;rw[<-h0]at hk;have v0:=Zb u0.out b0.out 0 none 0 0;rw[<-h0]at v0;unfold setEv at h0;rw[<-h0];have k0:wz.cell? ⟨b,0,none⟩=some (.int .i64 0):=hk.cell 0 rfl;have k1:wz.cell? ⟨b,1,none⟩=some (.slice none 0 0):=hk.cell 1 rfl;clear h0 hk;exact bodyPost_ret (v:= .tuple #[.agg #[.int .i64 0,.slice none 0 0],.slice none 0 0,.int .i64 100]) (by simp[results,Tryz.results95,go_sem,k0,k1]) rfl (GotE.no v0 v2.out)
      | ok p =>
       obtain⟨nm,rn⟩:=p;obtain⟨j4,g4,_⟩:=ZCW s0;rw[s0]at j0;unfold GotT at j0;simp only at j0;replace j0:=ZA j0;have p3:rn.length<=1000000000:=by omega
       have z0:=ZA (fun A c W h hE=>ZBr A rn.length c 4096 rn w0 W h hE p3 (by omega));clear e2;cases x1:getT 4096 rn with
       | error k =>
        have hk:=ZCs x1;have i2:((k:Int) != 0)=true:=by simp;omega
        have l0:=ZA (ZGC x2.out him s0 x1);rw[x1]at z0;clear s0 x1 hk;go_wp2_with fail;rw[<-b1.out,<-u1.out];refine j0.out.mono ?_;rintro e w4 ⟨t0,A4,c4,rfl,f2⟩;have m0:=s2.ext t0;have x0:=(a0.out.ext n1).ext t0;have f4:=fun i=>m0.free i;have d4:=m0.cell 0 rfl;obtain⟨w5,p1⟩:∃w5,w5=w4.setCell ⟨fb,0,none⟩ (.string ⟨nm.toArray⟩):=⟨_,rfl⟩
        have u0:=(a1.out.trans t0).setCell (p:=⟨fb,0,none⟩) (by simp only;have:=b0.out;omega) (.string ⟨nm.toArray⟩);have o0:=m0.put 0 (.string ⟨nm.toArray⟩);have i0:=x0.away (p:=⟨fb,0,none⟩) (by simp only;omega) (.string ⟨nm.toArray⟩);rw[<-p1]at u0 o0 i0;have r0:=ZA (z0.out A4 c4 w5 f2 (hw.trans u0));replace p1:=ZA p1;go_wp2_with fail;rw[<-p1.out];refine r0.out.mono ?_;rintro e w6 ⟨m1,rfl⟩;have f0:=o0.ext m1;have n2:=i0.ext m1;have f6:=fun i=>f0.free i;have d6:=f0.cell 1 rfl;have n0:=n2.away (p:=⟨fb,1,none⟩) (by simp only;omega) (.string ⟨#[]⟩);have f7:=fun i=>n0.free i;have e5:=n0.cell 0 rfl;have e6:=n0.cell 1 rfl;have z1:=ZA ((u0.trans m1).setCell (p:=⟨fb,1,none⟩) (by simp only;have:=b0.out;omega) (.string ⟨#[]⟩));have v2:Hid (Z=none):=ZA (by rw[hZ.out,l0.out]);replace n0:=ZA n0;go_wp2_with fail;obtain⟨wz,h0⟩:∃wz,wz=setEv (w6.setCell ⟨fb,1,none⟩ (.string ⟨#[]⟩)) b 0 none 0 0:=⟨_,rfl⟩;have hk:=Zc n0.out 0 none 0 0;rw[<-h0]at hk;have v0:=Zb z1.out b0.out 0 none 0 0;rw[<-h0]at v0;unfold setEv at h0;rw[<-h0];have k0:wz.cell? ⟨b,0,none⟩=some (.int .i64 0):=hk.cell 0 rfl;have k1:wz.cell? ⟨b,1,none⟩=some (.slice none 0 0):=hk.cell 1 rfl;clear h0 hk;exact bodyPost_ret (v:= .tuple #[.agg #[.int .i64 0,.slice none 0 0],.slice none 0 0,.int .i64 100]) (by simp[results,Tryz.results95,go_sem,k0,k1]) rfl (GotE.no v0 v2.out)
       | ok p =>
        obtain⟨tx,rt⟩:=p;obtain⟨t4,m4,_⟩:=ZCW x1;rw[x1]at z0;unfold GotT at z0;simp only at z0;replace z0:=ZA z0;have t2:=ZA (ZEm x2.out him s0 x1);clear s0 x1;go_wp2_with fail;rw[<-b1.out,<-u1.out];refine j0.out.mono ?_;rintro e w4 ⟨t0,A4,c4,rfl,f2⟩;have m0:=s2.ext t0;have x0:=(a0.out.ext n1).ext t0;have w3:=t0.owns (n1.owns e1.out);have f4:=fun i=>m0.free i;have d4:=m0.cell 0 rfl;obtain⟨w5,p1⟩:∃w5,w5=w4.setCell ⟨fb,0,none⟩ (.string ⟨nm.toArray⟩):=⟨_,rfl⟩
        have u0:=(a1.out.trans t0).setCell (p:=⟨fb,0,none⟩) (by simp only;have:=b0.out;omega) (.string ⟨nm.toArray⟩);have o0:=m0.put 0 (.string ⟨nm.toArray⟩);have i0:=x0.away (p:=⟨fb,0,none⟩) (by simp only;omega) (.string ⟨nm.toArray⟩);have z3:(Value.slice B i d).ownBlock≠some fb:=by
         have j2:=e1.out;intro e3;obtain⟨_,m2,_⟩:=ZC j2 e3;have:=m2.lt;have:=u1.out;omega
        have u3:=ZC3 w3 (a:=⟨fb,0,none⟩) z3 (.string ⟨nm.toArray⟩);rw[<-p1]at u0 o0 i0 u3;have r0:=ZA (z0.out A4 c4 w5 f2 (hw.trans u0));replace p1:=ZA p1;go_wp2_with fail;rw[<-p1.out];refine r0.out.mono ?_;rintro e w6 ⟨m1,A6,c6,rfl,f3⟩;have f0:=o0.ext m1;have n2:=i0.ext m1;have h4:=m1.owns u3;have f6:=fun i=>f0.free i;have d6:=f0.cell 1 rfl;obtain⟨w7,v4⟩:∃w7,w7=w6.setCell ⟨fb,1,none⟩ (.string ⟨tx.toArray⟩):=⟨_,rfl⟩
        have n0:=n2.away (p:=⟨fb,1,none⟩) (by simp only;omega) (.string ⟨tx.toArray⟩);have g2:Row (w6.setCell ⟨fb,1,none⟩ (.string ⟨tx.toArray⟩)) fb 105 #[.string ⟨nm.toArray⟩,.string ⟨tx.toArray⟩]:=f0.put 1 (.string ⟨tx.toArray⟩);have x3:=ZC3 h4 (a:=⟨fb,1,none⟩) z3 (.string ⟨tx.toArray⟩);have z1:=(u0.trans m1).setCell (p:=⟨fb,1,none⟩) (by simp only;have:=b0.out;omega) (.string ⟨tx.toArray⟩);have f7:=n0.free 1;have e6:=n0.cell 1 rfl;have g0:=g2.cell 0 rfl;have g1:=g2.cell 1 rfl;have k3:b+1<=(w6.setCell ⟨fb,1,none⟩ (.string ⟨tx.toArray⟩)).heap.size:=n0.lt;go_wp2_with (at_builtin;refine ZR (us:= [.string ⟨nm.toArray⟩,.string ⟨tx.toArray⟩]) (m:=1) ZIZ x3 (by simp[World.setCell]) (.tmp 56) (.tmp 58) rfl rfl rfl rfl rfl (ZS rfl) (by omega) k3 (fun A8 c8 w8 y3 d2 l3=>?_);have p2:∀k,(Value.slice B i d).ownBlock=some k->b+1<=k:=(fun k hk=>by obtain⟨_,_,hb⟩:=ZC x3 hk;exact hb);have y2:=Row.grown n0 d2 (fun e=>by have:=p2 _ e.symm;omega);have f8:=y2.free 1;have e8:w8.cell? ⟨b,1,none⟩=some (.slice B i d):=y2.cell 1 rfl;have o2:=ZA y2;have k2:=ZA y3;have a2:=ZA (z1.grown d2 fun k hk=>by have:=p2 k hk;have:=b0.out;omega);clear y2 y3 d2 l3);have l2:(Value.slice A8 (i+1) c8).ownBlock≠some b:=fun e=>by
         obtain⟨_,_,hb⟩:=ZC k2.out e;omega
        refine⟨⟨i+1,read ++ [(nm,tx)],rt,A8,A6,c8,c6,by go_num,rfl,by omega,by omega,ZA (by rw[List.length_append,<-s1.out];rfl),t2,ZA ?_,ZA (o2.out.put 1 _),ZA (by rw[ZBi];exact ZC3 k2.out l2 _),ZA f3,ZA (a2.out.setCell b0.out _)⟩,?_⟩
        ·intro f hf;rcases List.mem_append.1 hf with hf | hf
         ·exact v3.out f hf
         ·rw[List.mem_singleton.1 hf];simp only;omega
        ·simp[intOf];omega
     ·obtain rfl:i=m:=by omega
      have b2:=ZGq x2.out (Nat.le_refl _);have l1:=hZ.out;rw[b2]at l1;simp only at l1;have r1:Ev.Own ⟨at_,read⟩ wr (b+1) B d:=⟨by simp only;rw[<-s1.out];exact e1.out,fun f hf=>by have:=v3.out f hf;omega,by simp only;have:=s1.out;omega⟩
      have v1:=ZBQ ⟨at_,read⟩ B d wr r1.ok;unfold Ev.val at v1;simp only at v1;rw[<-s1.out]at v1;obtain⟨j,hj⟩:∃j,j=checkE read:=⟨_,rfl⟩
      rw[<-hj]at v1 l1;replace hj:=ZA hj;replace v1:=ZA v1;replace r1:=ZA r1;replace l1:=ZA l1;by_cases m3:j=0
      ·subst m3;go_wp2_with fail;refine v1.out.mono ?_;rintro e w4 ⟨rfl,t0⟩;have x0:=a0.out.ext t0;have f4:=fun k=>x0.free k;have g0:=x0.cell 0 rfl;have g1:=x0.cell 1 rfl;replace x0:=ZA x0;have y1:=ZA (hE.out.trans t0);clear q0 q1;go_wp2_with fail;obtain⟨wz,h0⟩:∃wz,wz=setEv w4 b at_ B i d:=⟨_,rfl⟩
       have hk:=Zc x0.out at_ B i d;have g3:=(ZDx w4 b at_ B i d).owns (t0.owns r1.out.1) (fun k hk h=>by obtain⟨_,_,hb⟩:=ZC (t0.owns r1.out.1) hk;omega);have v0:=Zb y1.out b0.out at_ B i d;rw[<-h0]at hk g3 v0;unfold setEv at h0;rw[<-h0];have k0:wz.cell? ⟨b,0,none⟩=some (.int .i64 at_):=hk.cell 0 rfl;have k1:wz.cell? ⟨b,1,none⟩=some (.slice B i d):=hk.cell 1 rfl;clear h0 hk;have d3:=l1.out;rw[if_pos trivial]at d3;exact bodyPost_ret (v:= .tuple #[.agg #[.int .i64 at_,.slice B i d],.slice A3 rr.length c3,.int .i64 0]) (by simp[results,Tryz.results95,go_sem,k0,k1]) rfl (by rw[d3];exact⟨v0,B,d,A3,c3,by unfold Ev.val;simp only;rw[<-s1.out],⟨ZN g3 (by have:=b0.out;omega),r1.out.2⟩,h2.out,b3⟩)
      ·have i3:¬ (j:Int)=0:=by omega
       have v2:Hid (Z=none):=ZA (by rw[l1.out,if_neg m3]);go_wp2_with fail;refine v1.out.mono ?_;rintro e w4 ⟨rfl,t0⟩;have x0:=a0.out.ext t0;have f4:=fun k=>x0.free k;have g0:=x0.cell 0 rfl;have g1:=x0.cell 1 rfl;replace x0:=ZA x0;have y1:=ZA (hE.out.trans t0);clear q0 q1;go_wp2_with fail;obtain⟨wz,h0⟩:∃wz,wz=setEv w4 b 0 none 0 0:=⟨_,rfl⟩;have hk:=Zc x0.out 0 none 0 0;rw[<-h0]at hk;have v0:=Zb y1.out b0.out 0 none 0 0;rw[<-h0]at v0;unfold setEv at h0;rw[<-h0];have k0:wz.cell? ⟨b,0,none⟩=some (.int .i64 0):=hk.cell 0 rfl;have k1:wz.cell? ⟨b,1,none⟩=some (.slice none 0 0):=hk.cell 1 rfl;clear h0 hk;exact bodyPost_ret (v:= .tuple #[.agg #[.int .i64 0,.slice none 0 0],.slice none 0 0,.int .i64 100]) (by simp[results,Tryz.results95,go_sem,k0,k1]) rfl (GotE.no v0 v2.out)
theorem ZEQ:∀ {k:Nat} {l r:List UInt8} {fs:List Fd},getFs k l=some (fs,r)->r.length<=l.length
 | 0,l,r,fs,h=>by unfold getFs at h;cases h;exact Nat.le_refl _
 | k+1,l,r,fs,h=>by
  unfold getFs at h;split at h
  ·cases h
  ·rename_i nm r1 h1;split at h
   ·cases h
   ·rename_i tx r2 h2;split at h
    ·cases h
    ·rename_i fs' r3 h3;cases h;have a1:=(ZCW h1).2.1;have a2:=(ZCW h2).2.1;have a3:=ZEQ h3;omega
theorem Zk {l r:List UInt8} {n:Nat} (h:getV 0 l = .ok (n,r)):r.length<l.length:=by
 obtain⟨_,_,q,hq,h0⟩:=ZAH l 0 n r h;have:=List.length_pos_iff.2 h0;rw[hq,List.length_append];omega
theorem ZF1 {l r:List UInt8} {e:Ev} (h:getE l=some (e,r)):r.length<l.length:=by
 unfold getE at h;split at h
 ·cases h
 ·rename_i u r1 h1;split at h
  ·cases h
  ·rename_i n r2 h2;split at h
   ·cases h
   ·split at h
    ·cases h
    ·rename_i fs r3 h3;split at h
     ·cases h;have a1:=Zk h1;have a2:=Zk h2;have a3:=ZEQ h3;omega
     ·cases h
end
end Go.Proofs.YtkdcnhnaiknaaaaGreat
