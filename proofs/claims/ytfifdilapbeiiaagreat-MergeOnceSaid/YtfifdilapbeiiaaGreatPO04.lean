/- Texts of one proof, joined. -/
import Derived.Test.YtfifdilapbeiiaaGreatPO03
import Derived.RangeFuncNested
import Derived.RangeFuncBound
import Derived.RangeFuncCalls
import Derived.RangeFuncLeaves
import Derived.OwnWalkIn
import Derived.TacticsInMore
import Derived.LoopNIn
import Derived.LoopIn
import Derived.Shelf.Abstract
import Derived.IntWalk
set_option linter.unusedSimpArgs false
set_option linter.unusedVariables false
set_option maxRecDepth 100000
set_option maxHeartbeats 16000000
namespace Go.Proofs.YtfifdilapbeiiaaGreat
open _root_.Go.Proofs.Tryz
variable {ops:Array Oper} {cs lb:Array Value} {Q:Exit → Act → World → Prop} {ps:List (List UInt8)} {l p s:List UInt8} {news xs:List Value} {B X c c' g gf i k m m' n:Nat} {o:Oper} {A:Option Addr} {P:Program} {e t:TypeId} {v:Value} {W W' w w' w0:World}
section
open Go.RowKit
def Own8 (w:World) (base:Nat) (A:Option Addr) (n c:Nat) (l:List UInt8):Prop:=n=l.length/\Buf w base 5 A n c (l.map B8)
theorem Own8.nil_ {base:Nat} (h:Own8 w base A n c l):A=none->c=0:=fun a=>by
 obtain⟨_,_,_,j⟩:=h;rcases j with ⟨_,j⟩ | ⟨g,cur,b,_⟩
 ·exact j
 ·rw[a]at b;cases b
theorem NewB.own {e:Ending} (h:NewB w l e w') (hb:w0.heap.size<=w.heap.size):∃A c,e = .returned (.slice A l.length c)/\Own8 w' w0.heap.size A l.length c l/\Ext w w':=by
 obtain⟨A,c,a,j,b⟩:=h;exact⟨A,c,a,⟨rfl,j.lower hb⟩,b⟩
theorem AH (h:m<18446744073709551616):IntKind.u64.wrap (m:Int)=(m:Int):=by
 simp[IntKind.wrap,IntKind.bits,IntKind.signed];omega
theorem Hc {fs:List Fd} {f:Fd} (h:fs[i]? = some f):putFs (fs.take (i+1))=putFs (fs.take i)++txL f.1++txL f.2:=by
 unfold putFs;rw[Ei h,List.flatMap_append];simp[putF]
theorem DQ {fs:List Fd} (h:∀f∈fs,f.1.length<=32/\f.2.length<=4096) (i:Nat):(putFs (fs.take i)).length<=5000*fs.length:=by
 have h1:=IR (fs:=fs.take i) fun f j=>h f (List.mem_of_mem_take j);have h2:=I7 (fs:=fs.take i) fun f j=>h f (List.mem_of_mem_take j);have Y:=List.length_take_le i fs;have a:∀ {gs:List Fd},(∀f∈gs,f.1.length<=32/\f.2.length<=4096)->sizeFs gs<=4128*gs.length:=by
  intro gs
  induction gs with
  | nil=>intro _;simp[sizeFs]
  | cons f gs ih =>
   intro h;have h1:=ih fun x H=>h x (by simp[H]);have j:=h f (by simp);have b:sizeFs (f::gs)=f.1.length+f.2.length+sizeFs gs:=by unfold sizeFs;rw[List.map_cons,List.sum_cons];rfl
   rw[b,List.length_cons];omega
 have b:=a (gs:=fs.take i) fun f j=>h f (List.mem_of_mem_take j);have J:(fs.take i).length<=fs.length:=by rw[List.length_take];omega
 omega
theorem NG (A:Option Addr) (n c:Nat) (l:List UInt8) (e:Ev) (B:Option Addr) (d:Nat) (w:World) (hn:n=l.length) (hl:Bs w A l) (hz:A=none->c=0) (q4:n<=100000000) (h:e.Ok w B) (hk:checkE e.fs=0) (ha:I64ok' e.at_) :
 Calls prog 171 #[.slice A n c,e.val B d] w fun en w'=>NewB w (l++putE e) en w':=by
 obtain⟨y2,t0⟩:=AM hk;have o0:l++putE e=(l++vb (zig e.at_)++vb e.fs.length)++putFs (e.fs.take e.fs.length):=by unfold putE;rw[List.take_length];simp
 rw[o0];obtain⟨at_,fs⟩:=e;obtain⟨hc,_,_⟩:=h;unfold Ev.val;simp only at hc y2 t0 ha ⊢;have i0:=DQ t0;obtain⟨m,hm⟩:=Ab fs.length;rw[<-hm]at y2 i0 ⊢;obtain⟨W,hW⟩:=Ab (w.alloc (.cells #[.int .i64 at_,.slice B m d] 69));have G:Ext w W:=by rw[hW];exact(Ext.refl w).alloc _
 have hr:Row W w.heap.size 69 #[.int .i64 at_,.slice B m d]:=by rw[hW];exact Row.new w _ _
 obtain⟨b,hb⟩:=Ab w.heap.size;rw[<-hb]at hr;have k3:=Co (CM ha.1 ha.2);have x2:=Co (n:=m) (by omega);obtain⟨L1,v0⟩:=Ab (l++vb (zig at_));obtain⟨L2,x0⟩:=Ab (L1++vb m);have o1:L1.length<=100000010:=by rw[v0,List.length_append];omega
 have o3:L2.length<=100000020:=by rw[x0,List.length_append];omega
 rw[<-v0,<-x0];have d1:W.cell? ⟨b,0,none⟩=some (.int .i64 at_)/\W.cell? ⟨b,1,none⟩=some (.slice B m d)/\Ext W W:=⟨hr.cell 0 rfl,hr.cell 1 rfl,Ext.refl W⟩
 have b0:W.drew.cell? ⟨b,0,none⟩=some (.int .i64 at_)/\W.drew.cell? ⟨b,1,none⟩=some (.slice B m d)/\Ext W W.drew:=⟨hr.cell 0 rfl,hr.cell 1 rfl,(Ext.refl W).drew⟩
 have e0:∀x,(x.cell? ⟨b,0,none⟩=some (.int .i64 at_)/\x.cell? ⟨b,1,none⟩=some (.slice B m d)/\Ext W x)->Calls prog 88 #[.slice A n c,.int .i64 at_] x fun e y=>∃A1 c1,e = .returned (.slice A1 L1.length c1)/\Own8 y w.heap.size A1 L1.length c1 L1/\(y.cell? ⟨b,0,none⟩=some (.int .i64 at_)/\y.cell? ⟨b,1,none⟩=some (.slice B m d)/\Ext W y):=fun x ⟨h0,h1,Z⟩ =>
  (EF A n c at_ l x hn (hl.ext (G.trans Z)) hz (by omega) ha.1 ha.2).mono fun e y hy=>by
   obtain⟨A1,c1,he,H,a⟩:=NewB.own hy (G.trans Z).size;rw[<-v0]at he H;exact⟨A1,c1,he,H,a.cell h0,a.cell h1,Z.trans a⟩
 have f0:∀x A1 c1,Own8 x w.heap.size A1 L1.length c1 L1->(x.cell? ⟨b,0,none⟩=some (.int .i64 at_)/\x.cell? ⟨b,1,none⟩=some (.slice B m d)/\Ext W x)->Calls prog 79 #[.slice A1 L1.length c1,.int .u64 (m:Int)] x fun e y=>∃A2 c2,e = .returned (.slice A2 L2.length c2)/\Own8 y w.heap.size A2 L2.length c2 L2/\(y.cell? ⟨b,0,none⟩=some (.int .i64 at_)/\y.cell? ⟨b,1,none⟩=some (.slice B m d)/\Ext W y):=fun x A1 c1 H ⟨h0,h1,Z⟩ =>
  (Cm A1 L1.length c1 m L1 x rfl H.2.cells H.nil_ (by omega) (by omega)).mono fun e y hy=>by
   obtain⟨A2,c2,he,T,a⟩:=NewB.own hy (G.trans Z).size;rw[<-x0]at he T;exact⟨A2,c2,he,T,a.cell h0,a.cell h1,Z.trans a⟩
 replace e0:=Aa e0;replace f0:=Aa f0;replace d1:=Aa d1;replace b0:=Aa b0;have k4:=AH (m:=m) (by omega);replace hW:=Aa hW;replace hm:=Aa hm;replace t0:=Aa t0;replace i0:=Aa i0;replace hb:=Aa hb;clear v0 x0 o0 k3 x2 hl hz hn
 go_in
 go_wp2_with fail;rw[<-hW.out,<-hb.out];refine wp_region_held_drew (S:=fun x=>x.cell? ⟨b,0,none⟩=some (.int .i64 at_)/\x.cell? ⟨b,1,none⟩=some (.slice B m d)/\Ext W x) (by kernel_rfl) b0.out (fun I=>?_);refine wpAnyH_take (i:=0) (v:= .slice A n c) rfl (by kernel_rfl) (by kernel_rfl) (by kernel_rfl) (fun _ _ _ h=>h) (Or.inl ⟨by rfl,?_⟩) (by assumption) ?_
 ·intro w' j
  (try dsimp only at j)
  obtain⟨z1,z2,z3⟩:=j;go_simp
  try with_reducible rfl
  all_goals omega
 (try simp only[Act.put,Bv,Bw,By,CN,CO,CP])
 refine wpAnyH_take (i:=1) (v:= .pointer (some ⟨b,0,none⟩)) rfl (by kernel_rfl) (by kernel_rfl) (by kernel_rfl) (fun _ _ _ h=>h) (Or.inl ⟨by rfl,?_⟩) (by assumption) ?_
 ·intro w' j
  (try dsimp only at j)
  obtain⟨z1,z2,z3⟩:=j;go_simp
  try with_reducible rfl
  all_goals omega
 (try simp only[Act.put,Bv,Bw,By,CN,CO,CP])
 refine wpAnyH_take (i:=2) (v:= .int .i64 at_) rfl (by kernel_rfl) (by kernel_rfl) (by kernel_rfl) (fun _ _ _ h=>h) (Or.inl ⟨by rfl,?_⟩) (by assumption) ?_
 ·intro w' j
  (try dsimp only at j)
  obtain⟨z1,z2,z3⟩:=j;go_simp
  try with_reducible rfl
  all_goals omega
 (try simp only[Act.put,Bv,Bw,By,CN,CO,CP])
 refine wpAnyH_take (i:=4) (v:= .pointer (some ⟨b,1,none⟩)) rfl (by kernel_rfl) (by kernel_rfl) (by kernel_rfl) (fun _ _ _ h=>h) (Or.inl ⟨by rfl,?_⟩) (by assumption) ?_
 ·intro w' j
  (try dsimp only at j)
  obtain⟨z1,z2,z3⟩:=j;go_simp
  try with_reducible rfl
  all_goals omega
 (try simp only[Act.put,Bv,Bw,By,CN,CO,CP])
 refine wpAnyH_take (i:=5) (v:= .slice B m d) rfl (by kernel_rfl) (by kernel_rfl) (by kernel_rfl) (fun _ _ _ h=>h) (Or.inl ⟨by rfl,?_⟩) (by assumption) ?_
 ·intro w' j
  (try dsimp only at j)
  obtain⟨z1,z2,z3⟩:=j;go_simp
  try with_reducible rfl
  all_goals omega
 (try simp only[Act.put,Bv,Bw,By,CN,CO,CP])
 refine wpAnyH_take (i:=6) (v:= .int .i64 (m:Int)) rfl (by kernel_rfl) (by kernel_rfl) (by kernel_rfl) (fun _ _ _ h=>h) (Or.inl ⟨by rfl,?_⟩) (by assumption) ?_
 ·intro w' j
  (try dsimp only at j)
  obtain⟨z1,z2,z3⟩:=j;go_simp
  try with_reducible rfl
  all_goals omega
 (try simp only[Act.put,Bv,Bw,By,CN,CO,CP])
 refine wpAnyH_take (i:=7) (v:= .int .u64 (m:Int)) rfl (by kernel_rfl) (by kernel_rfl) (by kernel_rfl) (fun _ _ _ h=>h) (Or.inl ⟨by rfl,?_⟩) (by assumption) ?_
 ·intro w' j
  (try dsimp only at j)
  obtain⟨z1,z2,z3⟩:=j;go_simp
  try with_reducible rfl
  all_goals omega
 (try simp only[Act.put,Bv,Bw,By,CN,CO,CP])
 refine wpAnyH_ready (rs:= [3]) (by kernel_rfl) (by simp) ?_;refine AllReadyH.cons rfl (fun K hK=>?_) AllReadyH.nil
 (first | go_at_call 88 | (go_simp;go_at_call 88));(refine(e0.out _ ‹_›).mono ?_;rintro en w3 ⟨A1,c1,rfl,H,q0⟩)
 refine hK.out _ _ ?_ (fun U=>?_)
 ·exact q0
 clear hK K
 (try simp only[Act.put,Bv,Bw,By,CN,CO,CP])
 refine wpAnyH_ready (rs:= [8]) (by kernel_rfl) (by simp) ?_;refine AllReadyH.cons rfl (fun K hK=>?_) AllReadyH.nil
 (first | go_at_call 79 | (go_simp;go_at_call 79));(refine(f0.out _ _ _ H q0).mono ?_;rintro en w4 ⟨A2,c2,rfl,T,Y⟩)
 refine hK.out _ _ ?_ (fun O=>?_)
 ·exact Y
 clear hK K
 (try simp only[Act.put,Bv,Bw,By,CN,CO,CP])
 refine wpAnyH_take (i:=9) (v:= .slice A2 L2.length c2) rfl (by kernel_rfl) (by kernel_rfl) (by kernel_rfl) (fun _ _ _ h=>h) (Or.inl ⟨by rfl,?_⟩) (by assumption) ?_
 ·intro w' j
  (try dsimp only at j)
  obtain⟨z1,z2,z3⟩:=j;go_simp
  try with_reducible rfl
  all_goals omega
 (try simp only[Act.put,Bv,Bw,By,CN,CO,CP])
 refine wpAnyH_done (by kernel_rfl) ?_ _;clear I U O q0 H e0 f0 d1 b0;have J:Ext W w4:=Y.2.2;have y1:w4.cell? ⟨b,1,none⟩=some (.slice B m d):=Y.2.1;have e3:w.heap.size<=w4.heap.size:=(G.trans J).size;replace T:=Aa T;replace J:=Aa J;clear Y;go_wp2_with fail
 go_loopw [0,19] (fun s0 s19 wr=>∃(i n4 c4:Nat) (A4:Option Addr) (L:List UInt8),s19 = .int .i64 (i:Int)/\s0 = .slice A4 n4 c4/\i<=m/\n4<=100100000/\Hid (L=L2++putFs (fs.take i))/\Hid (Own8 wr w.heap.size A4 n4 c4 L)/\Hid (Ext w4 wr)) (fun _ s19 _=>m - (intOf s19).toNat)
 case atStart=>exact⟨0,L2.length,c2,A2,L2,rfl,rfl,by omega,by omega,Aa (by simp[putFs]),T,Aa (Ext.refl w4)⟩
 case round =>
  obtain⟨i,n4,c4,A4,L,rfl,rfl,hi,p4,hL,c0,Z⟩:=hrel;by_cases him:i<m
  ·obtain⟨f,hf⟩:∃f,fs[i]? = some f:=⟨_,List.getElem?_eq_getElem (by rw[<-hm.out];exact him)⟩
   obtain⟨g,o,rfl,k0,k1⟩:=Bg (((hc.ext G).ext J.out).ext Z.out) hf;have o1:=t0.out f (List.mem_of_getElem? hf);have j2:=Hc hf;obtain⟨nm,tx⟩:=f;unfold strV at k0 k1;simp only at k0 k1 o1 j2;obtain⟨b3,d3⟩:=o1;obtain⟨g2,d0⟩:=Ab wr.heap.size;obtain⟨Wf,j0⟩:=Ab (wr.alloc (.cells #[.string ⟨nm.toArray⟩,.string ⟨tx.toArray⟩] 91));have j1:Ext wr Wf:=by rw[j0];exact(Ext.refl wr).alloc _
   have k2:Row Wf g2 91 #[.string ⟨nm.toArray⟩,.string ⟨tx.toArray⟩]:=by rw[j0,d0];exact Row.new wr _ _
   obtain⟨L5,y0⟩:=Ab (L++txL nm);obtain⟨L6,x1⟩:=Ab (L5++txL tx);have a1:L.length=n4:=c0.out.1.symm;have t3:=Dy (s:=nm) (by omega);have x3:=Dy (s:=tx) (by omega);have r3:L5.length<=100200000:=by rw[y0,List.length_append];omega
   have l0:Hid (L6=L2++putFs (fs.take (i+1))):=Aa (by rw[x1,y0,hL.out,j2];simp);have h4:L6.length<=100100000:=by
    rw[l0.out,List.length_append];have:=i0.out (i+1);omega
   have q1:Ext w Wf:=(G.trans J.out).trans (Z.out.trans j1);have e1:Wf.drew.cell? ⟨g2,0,none⟩=some (.string ⟨nm.toArray⟩)/\Wf.drew.cell? ⟨g2,1,none⟩=some (.string ⟨tx.toArray⟩)/\Ext Wf Wf.drew:=⟨k2.cell 0 rfl,k2.cell 1 rfl,(Ext.refl Wf).drew⟩
   have n0:Buf Wf w.heap.size 5 A4 n4 c4 (L.map B8):=c0.out.2.ext j1;have h2:∀x,(x.cell? ⟨g2,0,none⟩=some (.string ⟨nm.toArray⟩)/\x.cell? ⟨g2,1,none⟩=some (.string ⟨tx.toArray⟩)/\Ext Wf x)->Calls prog 138 #[.slice A4 n4 c4,.string ⟨nm.toArray⟩] x fun e y=>∃A5 c5,e = .returned (.slice A5 L5.length c5)/\Own8 y w.heap.size A5 L5.length c5 L5/\(y.cell? ⟨g2,0,none⟩=some (.string ⟨nm.toArray⟩)/\y.cell? ⟨g2,1,none⟩=some (.string ⟨tx.toArray⟩)/\Ext Wf y):=fun x ⟨h0,h1,Z⟩ =>
    (DR A4 n4 c4 L nm x a1.symm (n0.cells.ext Z) c0.out.nil_ (by omega) (by omega)).mono fun e y hy=>by
     obtain⟨A1,c1,he,H,a⟩:=NewB.own hy (q1.trans Z).size;rw[<-y0]at he H;exact⟨A1,c1,he,H,a.cell h0,a.cell h1,Z.trans a⟩
   have q2:∀x A5 c5,Own8 x w.heap.size A5 L5.length c5 L5->(x.cell? ⟨g2,0,none⟩=some (.string ⟨nm.toArray⟩)/\x.cell? ⟨g2,1,none⟩=some (.string ⟨tx.toArray⟩)/\Ext Wf x)->Calls prog 138 #[.slice A5 L5.length c5,.string ⟨tx.toArray⟩] x fun e y=>∃A6 c6,e = .returned (.slice A6 L6.length c6)/\Own8 y w.heap.size A6 L6.length c6 L6/\(y.cell? ⟨g2,0,none⟩=some (.string ⟨nm.toArray⟩)/\y.cell? ⟨g2,1,none⟩=some (.string ⟨tx.toArray⟩)/\Ext Wf y):=fun x A5 c5 H ⟨h0,h1,Z⟩ =>
    (DR A5 L5.length c5 L5 tx x rfl H.2.cells H.nil_ (by omega) (by omega)).mono fun e y hy=>by
     obtain⟨A2,c2,he,T,a⟩:=NewB.own hy (q1.trans Z).size;rw[<-x1]at he T;exact⟨A2,c2,he,T,a.cell h0,a.cell h1,Z.trans a⟩
   have i3:(0:Int)<=i:=by omega
   have hi1:(i:Int)<m:=by omega
   have a2:=Aa (Z.out.trans j1);replace h2:=Aa h2;replace q2:=Aa q2;replace e1:=Aa e1;replace d0:=Aa d0;replace a1:=Aa a1;replace j0:=Aa j0;clear hf y0 x1 j2 t3 x3 k2 q1 n0;go_wp2_with fail;rw[<-j0.out,<-d0.out];refine wp_region_held_drew (S:=fun x=>x.cell? ⟨g2,0,none⟩=some (.string ⟨nm.toArray⟩)/\x.cell? ⟨g2,1,none⟩=some (.string ⟨tx.toArray⟩)/\Ext Wf x) (by kernel_rfl) e1.out (fun I=>?_);refine wpAnyH_take (i:=0) (v:= .slice A4 n4 c4) rfl (by kernel_rfl) (by kernel_rfl) (by kernel_rfl) (fun _ _ _ h=>h) (Or.inl ⟨by rfl,?_⟩) (by assumption) ?_
   ·intro w' j
    (try dsimp only at j)
    obtain⟨z1,z2,z3⟩:=j;go_simp
    try with_reducible rfl
    all_goals omega
   (try simp only[Act.put,Bv,Bw,By,CN,CO,CP])
   refine wpAnyH_take (i:=1) (v:= .pointer (some ⟨g2,0,none⟩)) rfl (by kernel_rfl) (by kernel_rfl) (by kernel_rfl) (fun _ _ _ h=>h) (Or.inl ⟨by rfl,?_⟩) (by assumption) ?_
   ·intro w' j
    (try dsimp only at j)
    obtain⟨z1,z2,z3⟩:=j;go_simp
    try with_reducible rfl
    all_goals omega
   (try simp only[Act.put,Bv,Bw,By,CN,CO,CP])
   refine wpAnyH_take (i:=2) (v:= .string ⟨nm.toArray⟩) rfl (by kernel_rfl) (by kernel_rfl) (by kernel_rfl) (fun _ _ _ h=>h) (Or.inl ⟨by rfl,?_⟩) (by assumption) ?_
   ·intro w' j
    (try dsimp only at j)
    obtain⟨z1,z2,z3⟩:=j;go_simp
    try with_reducible rfl
    all_goals omega
   (try simp only[Act.put,Bv,Bw,By,CN,CO,CP])
   refine wpAnyH_take (i:=4) (v:= .pointer (some ⟨g2,1,none⟩)) rfl (by kernel_rfl) (by kernel_rfl) (by kernel_rfl) (fun _ _ _ h=>h) (Or.inl ⟨by rfl,?_⟩) (by assumption) ?_
   ·intro w' j
    (try dsimp only at j)
    obtain⟨z1,z2,z3⟩:=j;go_simp
    try with_reducible rfl
    all_goals omega
   (try simp only[Act.put,Bv,Bw,By,CN,CO,CP])
   refine wpAnyH_take (i:=5) (v:= .string ⟨tx.toArray⟩) rfl (by kernel_rfl) (by kernel_rfl) (by kernel_rfl) (fun _ _ _ h=>h) (Or.inl ⟨by rfl,?_⟩) (by assumption) ?_
   ·intro w' j
    (try dsimp only at j)
    obtain⟨z1,z2,z3⟩:=j;go_simp
    try with_reducible rfl
    all_goals omega
   (try simp only[Act.put,Bv,Bw,By,CN,CO,CP])
   refine wpAnyH_ready (rs:= [3]) (by kernel_rfl) (by simp) ?_;refine AllReadyH.cons rfl (fun K hK=>?_) AllReadyH.nil
   (first | go_at_call 138 | (go_simp;go_at_call 138));(refine(h2.out _ ‹_›).mono ?_;rintro en w5 ⟨A5,c5,rfl,i2,q0⟩)
   refine hK.out _ _ ?_ (fun U=>?_)
   ·exact q0
   clear hK K
   (try simp only[Act.put,Bv,Bw,By,CN,CO,CP])
   refine wpAnyH_ready (rs:= [6]) (by kernel_rfl) (by simp) ?_;refine AllReadyH.cons rfl (fun K hK=>?_) AllReadyH.nil
   (first | go_at_call 138 | (go_simp;go_at_call 138));(refine(q2.out _ _ _ i2 q0).mono ?_;rintro en w6 ⟨A6,c6,rfl,f1,Y⟩)
   refine hK.out _ _ ?_ (fun O=>?_)
   ·exact Y
   clear hK K
   (try simp only[Act.put,Bv,Bw,By,CN,CO,CP])
   refine wpAnyH_take (i:=7) (v:= .slice A6 L6.length c6) rfl (by kernel_rfl) (by kernel_rfl) (by kernel_rfl) (fun _ _ _ h=>h) (Or.inl ⟨by rfl,?_⟩) (by assumption) ?_
   ·intro w' j
    (try dsimp only at j)
    obtain⟨z1,z2,z3⟩:=j;go_simp
    try with_reducible rfl
    all_goals omega
   (try simp only[Act.put,Bv,Bw,By,CN,CO,CP])
   refine wpAnyH_done (by kernel_rfl) ?_ _;have j3:=Aa (a2.out.trans Y.2.2);replace f1:=Aa f1;clear I U O q0 Y i2;go_wp2_with fail;go_roundw
   case rel=>exact⟨i+1,L6.length,c6,A6,L6,by go_num,rfl,by omega,by omega,l0,f1,j3⟩
   case measure=>simp[intOf];omega
  ·obtain rfl:i=m:=by omega
   obtain⟨i1,o2⟩:=c0.out;have m1:=Aa ((G.trans J.out).trans Z.out);have m0:NewB w (L2++putFs (fs.take i)) (.returned (.slice A4 n4 c4)) wr:=⟨A4,c4,by rw[<-hL.out,i1],by rw[<-hL.out,<-i1];exact o2,m1.out⟩
   replace m0:=Aa m0;clear o2 i1;go_wp2_with fail;go_ret;exact m0.out
def joinL (ps:List (List UInt8)):List UInt8:=ps.flatMap frameL
theorem Et (h:p.length<=16777216):(frameL p).length<=p.length+20:=by
 have h1:=Ag (n:=p.length) (by omega);have h2:(be4 (cnext 0 (vb p.length++p))).length=4:=rfl;unfold frameL;rw[List.length_append,List.length_append,h2];omega
theorem Cv:∀ {ps:List (List UInt8)},(∀p∈ps,p.length<=16777216)->(joinL ps).length<=16777236*ps.length
 | [],_=>by simp[joinL]
 | p::ps,h=>by
  have h1:=Et (h p (List.mem_cons_self ..));have h2:=Cv (ps:=ps) fun q j=>h q (List.mem_cons_of_mem _ j);have b:=h p (List.mem_cons_self ..);show (frameL p++joinL ps).length<=_;rw[List.length_append,List.length_cons];omega
theorem GT (h:ps[i]? = some p):joinL (ps.take (i+1))=joinL (ps.take i)++frameL p:=by
 unfold joinL;rw[List.take_add_one,h,List.flatMap_append];simp
def OkB' (w:World) (l:List UInt8) (e:Ending) (w':World):Prop:=∃A c,e = .returned (.tuple #[.slice A l.length c,.int .i64 0])/\Own8 w' w.heap.size A l.length c l/\Ext w w'
theorem NL (B:Option Addr) (k c2:Nat) (ps:List (Option Addr×Nat×List UInt8)) (w:World) (hk:k=ps.length) (hB:Cells w B (ps.map fun p=> .slice p.1 p.2.2.length p.2.1)) (J:∀p∈ps,In8 w p.1 p.2.2.length p.2.1 p.2.2/\p.2.2.length<=16777216) (l0:k<=50) :
 Calls prog 47 #[.slice B k c2] w fun e w'=>OkB' w (joinL (ps.map (·.2.2))) e w':=by
 have j0:=Aa (fun A n c l B m d p W h1 h2 h3 h4=>Ph A n c l B m d p W h1 h2 h3 h4);obtain⟨P,I⟩:=Ab (ps.map (·.2.2));rw[<-I];have O:∀p∈P,p.length<=16777216:=fun p hp=>by
  rw[I]at hp;obtain⟨q,hq,rfl⟩:=List.mem_map.1 hp;exact(J q hq).2
 have Y:P.length=k:=by rw[I,List.length_map,hk]
 replace hk:=Aa hk;replace hB:=Aa hB;replace J:=Aa J;replace I:=Aa I;replace O:=Aa O;replace Y:=Aa Y
 go_in
 go_wp2_with fail
 go_loopw [4,11] (fun s4 s11 wr=>∃(i n c:Nat) (A:Option Addr),s4 = .slice A n c/\s11 = .int .i64 (i:Int)/\i<=k/\n<=16777236*i/\Hid (Own8 wr w.heap.size A n c (joinL (P.take i)))/\Hid (Ext w wr)) (fun _ s11 _=>k - (intOf s11).toNat)
 case atStart=>exact⟨0,0,0,none,rfl,rfl,by omega,by omega,Aa ⟨rfl,Buf.nil _ _ _⟩,Aa (Ext.refl w)⟩
 case round =>
  obtain⟨i,n,c,A,rfl,rfl,hi,hn,ho,hE⟩:=hrel;by_cases b0:i<k
  ·obtain⟨x,hx⟩:∃x,ps[i]? = some x:=⟨_,List.getElem?_eq_getElem (by rw[<-hk.out];exact b0)⟩
   obtain⟨g,o,hA,p0⟩:=hB.out.at_ (by rw[List.length_map,<-hk.out];omega);subst hA;have k0:=hE.out.cell (p0 i _ (by rw[List.getElem?_map,hx];rfl));have j:=J.out x (List.mem_of_getElem? hx);have T:P[i]? = some x.2.2:=by rw[I.out,List.getElem?_map,hx];rfl
   have a:=GT T;obtain⟨XA,xc,xl⟩:=x;simp only at k0 j a;have y0:=Et j.2;have Z:=Cv (ps:=P.take (i+1)) fun p hp=>O.out p (List.mem_of_mem_take hp);have m0:(P.take (i+1)).length=i+1:=by rw[List.length_take,Y.out];omega
   rw[m0]at Z;obtain⟨L2,H⟩:=Ab (joinL (P.take (i+1)));rw[<-H]at a Z;have b:=j0.out A n c (joinL (P.take i)) XA xl.length xc xl wr (by have:=ho.out.2.in8;rwa [ho.out.1]at this ⊢) (j.1.ext hE.out) (by omega) j.2;rw[<-a]at b;obtain⟨m,hm⟩:=Ab xl.length;rw[<-hm]at b k0;have g0:=hE.out.size;replace b:=Aa b;replace hm:=Aa hm;replace hx:=Aa hx;replace j:=Aa j;replace T:=Aa T;replace a:=Aa a;replace H:=Aa H;clear p0 y0 m0;go_wp2_with fail;refine b.out.mono ?_;rintro e w2 ⟨A2,c3,rfl,h0,U⟩;have h:Hid (Own8 w2 w.heap.size A2 L2.length c3 (joinL (P.take (i+1)))):=Aa (by rw[<-H.out];exact⟨rfl,h0.lower g0⟩);obtain⟨n2,G⟩:=Ab L2.length;rw[<-G]at h Z ⊢;replace G:=Aa G;replace U:=Aa (hE.out.trans U);clear h0;go_wp2_with fail;exact⟨⟨i+1,n2,c3,A2,rfl,rfl,by omega,by omega,h,U⟩,by simp only[intOf];omega⟩
  ·obtain rfl:i=k:=by omega
   have h:=ho.out;rw[List.take_of_length_le (by rw[Y.out];exact Nat.le_refl _)]at h;replace h:=Aa h;go_wp2_with fail;go_ret2;have hl:=h.out.1;subst hl;exact⟨A,c,rfl,h.out,hE.out⟩
theorem ND (A:Option Addr) (n c:Nat) (l:List UInt8) (e:Ev) (B:Option Addr) (d:Nat) (w:World) (hn:n=l.length) (I:Bs w A l) (hz:A=none->c=0) (h0:n<=100000000) (h:e.Ok w B) (hk:checkE e.fs=0) (ha:I64ok' e.at_) :
 Calls prog 128 #[.slice A n c,e.val B d] w fun en w'=>OkB' w (l++putE e) en w':=by
 obtain⟨W1,b⟩:=Ab (w.alloc (.cells #[.int .i64 e.at_,.slice B e.fs.length d] 69));obtain⟨g,T⟩:=Ab w.heap.size;have O:Row W1 g 69 #[.int .i64 e.at_,.slice B e.fs.length d]:=by rw[b,T];exact Row.new w _ _
 have H:Ext w W1:=by rw[b];exact(Ext.refl w).alloc _
 have J:=Aa (Dj e B d W1 (h.ext H));rw[hk]at J;have a:=Aa (fun W (hE:Ext w W)=>NG A n c l e B d W hn (I.ext hE) hz h0 (h.ext hE) hk ha);obtain⟨L,Z⟩:=Ab (l++putE e);rw[<-Z]at a ⊢;unfold Ev.val at J a ⊢;have k0:=O.cell 0 rfl;have k1:=O.cell 1 rfl;replace O:=Aa O;replace H:=Aa H;replace b:=Aa b;replace T:=Aa T;replace Z:=Aa Z;replace hk:=Aa hk;replace h:=Aa h;replace hn:=Aa hn;replace I:=Aa I;clear hz
 go_in
 go_upto_region 1 with (fail)
 rw[<-b.out,<-T.out];go_wp2_with fail;refine J.out.mono ?_;rintro en w2 ⟨rfl,j⟩;have r2:=O.out.ext j;have q0:=r2.cell 0 rfl;have q1:=r2.cell 1 rfl;replace r2:=Aa r2;replace j:=Aa (H.out.trans j);go_wp2_with fail;refine(a.out w2 j.out).mono ?_;rintro en w3 G;obtain⟨A3,c3,rfl,U,Y⟩:=G;have ho:=Aa (show Own8 w3 w.heap.size A3 L.length c3 L from⟨rfl,U.lower j.out.size⟩);replace Y:=Aa (j.out.trans Y);clear U;go_wp2_with fail;go_ret2;exact⟨A3,c3,rfl,ho.out,Y.out⟩
def timesD:Int->List Dc->List UInt8
 | _,[]=> []
 | a,d::t=>vb (zig (wrap64 (d.2.at_ - a)))++timesD d.2.at_ t
def lastAt:Int->List Dc->Int
 | a,[]=>a
 | _,d::t=>lastAt d.2.at_ t
def lowD:Int->List Dc->Int
 | m,[]=>m
 | m,d::t=>lowD (min m d.2.at_) t
def highD:Int->List Dc->Int
 | m,[]=>m
 | m,d::t=>highD (max m d.2.at_) t
def partD:List Dc->List Int
 | []=> [0,0,0,0,0]
 | d::t=> [lowD d.2.at_ (d::t),highD d.2.at_ (d::t),d.1,lastD d.1 t,((d::t).length:Int)]
def pairsD:Nat->List Dc->List (List UInt8×Po)
 | _,[]=> []
 | i,d::t=>(termsL d.2).map (fun p=>(p.1,((i:Int),p.2)))++pairsD (i+1) t
def rowsD (l:List Dc):List (List UInt8×List Po):=grp (pairsD 0 l)
def enOf:Nat->List (List UInt8×List Po)->List En
 | _,[]=> []
 | o,r::t=>⟨r.1,o,(encPs r.2).length,r.2.length⟩::enOf (o+(encPs r.2).length) t
def postB (rs:List (List UInt8×List Po)):List UInt8:=rs.flatMap fun r=>encPs r.2
def framesD (l:List Dc):List (List UInt8):= [encDs l,timesD 0 l,postB (rowsD l),encEs (enOf 0 (rowsD l)),ofB ((rowsD l).map (·.1)),vall (partD l)]
def segL (l:List Dc):List UInt8:= [76,83,69,71]++joinL (framesD l)
theorem EI:∀(a b:List Dc) (x:Int),timesD x (a++b)=timesD x a++timesD (lastAt x a) b
 | [],b,x=>rfl
 | d::t,b,x=>by
  show _++timesD d.2.at_ (t++b)=(_++timesD d.2.at_ t)++_;rw[EI t b,List.append_assoc];rfl
theorem Ez:∀(a b:List Dc) (x:Int),lastAt x (a++b)=lastAt (lastAt x a) b
 | [],b,x=>rfl
 | d::t,b,x=>Ez t b d.2.at_
theorem GY:∀(a b:List Dc) (x:Int),lowD x (a++b)=lowD (lowD x a) b
 | [],b,x=>rfl
 | d::t,b,x=>GY t b _
theorem FE:∀(a b:List Dc) (x:Int),highD x (a++b)=highD (highD x a) b
 | [],b,x=>rfl
 | d::t,b,x=>FE t b _
theorem CG:∀(a b:List Dc) (i:Nat),pairsD i (a++b)=pairsD i a++pairsD (i+a.length) b
 | [],b,i=>rfl
 | d::t,b,i=>by
  show _++pairsD (i+1) (t++b)=(_++pairsD (i+1) t)++_;rw[CG t b,List.append_assoc,List.length_cons,show i+1+t.length=i+(t.length+1)by omega]
theorem GG:∀(a b:List (List UInt8×List Po)) (o:Nat),enOf o (a++b)=enOf o a++enOf (o+(postB a).length) b
 | [],b,o=>rfl
 | r::t,b,o=>by
  show _::enOf _ (t++b)=_::enOf _ t++_;rw[GG t b];unfold postB;rw[List.flatMap_cons,List.length_append,Nat.add_assoc];rfl
theorem Cx (a b:List (List UInt8×List Po)):postB (a++b)=postB a++postB b:=by unfold postB;rw[List.flatMap_append]
theorem Fw (n:Int) : -9223372036854775808<=wrap64 n/\wrap64 n<=9223372036854775807:=by
 unfold wrap64;omega
theorem Dx:∀(l:List Dc) (a:Int),(timesD a l).length<=10*l.length
 | [],a=>by simp[timesD]
 | d::t,a=>by
  have h1:=Dx t d.2.at_;have h2:=CM (Fw (d.2.at_ - a)).1 (Fw (d.2.at_ - a)).2;have h:=Ag h2;unfold timesD;rw[List.length_append,List.length_cons];omega
end
section
open Go.RowKit
theorem AP:Fence.wide.depth=none:=rfl
theorem Cp (f:FuncId):Fence.wide.fn f=True:=rfl
def NC (B:Nat) (W:World) (k:Nat):Prop:=B<=k/\∃o,W.heap[k]? = some o/\o.isCells=false
theorem NC.not_row (h:Row W g t cs):¬ NC B W g:=fun⟨_,o,j,b⟩=>by
 unfold Row at h;rw[h]at j;injection j with j;subst j;cases b
def Alike (B:Nat) (W W':World):Prop:=Chg (NC B W) W W'
theorem Alike.refl (B:Nat) (W:World):Alike B W W:=Chg.refl _ _
theorem Alike.row (h:Alike B W W') (j:Row W g t cs):Row W' g t cs:=Chg.row h j (NC.not_row j)
theorem Alike.ext (h:Alike B W W') (j:Ext w W) (b:w.heap.size<=B):Ext w W':=j.chg h fun i hi hn=>by have:=hn.1;omega
theorem Alike.owns (h:Alike B W W') {base:Nat} {size:Nat} (j:W.ownsRow base e size v n xs):W'.ownsRow base e size v n xs :=
 Chg.owns h j fun g b=>by obtain⟨cur,a,_⟩:=Ae j b;exact NC.not_row a
theorem Alike.buf (h:Alike B W W') {base:Nat} (hb:Buf W base e A n c xs):Buf W' base e A n c xs :=
 hb.keep fun g j=>by
  rcases hb.2.2 with ⟨H,_⟩ | ⟨g',cur,b,_,a,_⟩
  ·rw[H]at j;cases j
  ·rw[b]at j;cases j;exact h.block _ a.lt (NC.not_row a)
theorem Alike.others {o:Obj} (hk:W.heap[k]? = some o) (h:o.isCells=false) (b:B<=k) (o':Obj):Alike B W (W.putObj k o') :=
 ⟨rfl,rfl,rfl,by simp,fun j _ hn=>World.putObj_heap_other (fun e=>hn ⟨by omega,o,by rw[e];exact hk,h⟩)⟩
def Iter {α:Type} (P:Program) (gf:Nat) (lb:Array Value) (encs:α->Array Value) (St:World->World->Prop) (Nx:List α->α->World->Prop) (Kp:World->World->Prop) (Fin:List α->World->World->Prop) (w:World):Prop :=
 ∀(l:Nat) (J:List α->World->Prop) (W:World),Ext w W->(∀pre A B,J pre A->St A B->J pre B) ->
  (∀pre x W1,J pre W1->Nx pre x W1->YieldAt Fence.wide 0 P l (encs x) W1 fun e W'=>e = .returned (.bool true)/\J (pre ++ [x]) W'/\Kp W1 W')->J [] W ->
  Calls P gf (#[.func (.yield l) #[] #[]]++lb) W fun e W'=>(∃v,e = .returned v)/\∃xs W2,J xs W2/\Fin xs W2 W'
def roundDone {α:Type} (Kp:World->World->Prop) (I:List α->World->Prop) (xs:List α) (W:World):Exit->Act->World->Prop
 | .normal,_,W'=>KeepsOthers W W'/\Kp W W'/\I xs W'
 | _,_,_=>False
def roundGo {α:Type} (B:Nat) (P:Program) (l:Nat) (body:Code) (Kp:World->World->Prop) (I:List α->World->Prop) (xs:List α) (W:World) (a:Act) (W1:World):Prop :=
 KeepsOthers W W1/\Kp W W1/\∀W2,Alike B W1 W2->body.wpIn (Fence.wide.inRound l) 0 P (roundDone Kp I xs W2) a W2
theorem C8 {α:Type} {g:Operand} {ps:Array Tmp} {assign body:Code} {a:Act}
 (hg:a.eval g = .func (.func gf) #[] lb) (eg:∀args w,(callFunc gf args).run P w = .ok (.enter gf args) w)
 {encs:α->Array Value} {St:World->World->Prop} {Nx:List α->α->World->Prop} {Kp:World->World->Prop} {Fin:List α->World->World->Prop} (n0:Iter P gf lb encs St Nx Kp Fin w)
 (j1:∀x,(encs x).size=ps.size) (t0:∀A B,St A B->KeepsOthers A B) (J:∀xs A B,Fin xs A B->KeepsOthers A B)
 (O:∀A B C,Kp A B->Kp B C->Kp A C) (m0:∀A B,Alike w.heap.size A B->Kp A B)
 (I:List α->World->Prop) (hI:∀pre A B,I pre A->Alike w.heap.size A B->I pre B) (c0:∀pre A B,I pre A->St A B->I pre B) (h0:∀W,Alike w.heap.size w W->I [] W)
 (Y:∀(l:Nat) (pre:List α) (x:α) (W:World),I pre W->Nx pre x W->assign.wpIn (Fence.wide.inRound l) 0 P (Exit.then (roundGo w.heap.size P l body Kp I (pre ++ [x]) W) (fun _ _ _=>False)) { tmps:=(ps.zip (encs x)).foldl (fun t (p,v)=>t.setIfInBounds p v) a.tmps,defers:= [] } W)
 (G:∀(D:Nat) (xs:List α) (W2 W3 W4:World),w.heap.size<=D->I xs W2->Fin xs W2 W3->Alike w.heap.size W3 W4->W4.heap[D]? = some (.deferred (some []))->Q .normal { a with defers:= { target:= .collected D,args:=#[] }::a.defers } W4) :
 (Code.rangeFunc g ps assign body).wpIn Fence.wide 0 P Q a w:=by
 refine wpIn_rangeFunc ?_;intro fn i0;show ∃_,_;obtain⟨rec,j⟩:=Ab (fun st pe=> { state:=st,pending:=pe,fn,tmps:=a.tmps,params:=ps,assign,body,defers:=w.heap.size }:LoopState->Option Code->Loop);obtain⟨W1,H⟩:∃W1,(w.alloc (.deferred (some []))).alloc (.loop (rec .ready none))=W1:=⟨_,rfl⟩
 have e0:W1.heap[w.heap.size+1]? = some (.loop (rec .ready none)):=by
  rw[<-H];have:=World.alloc_heap_new (w.alloc (.deferred (some []))) (.loop (rec .ready none));rwa [World.size_alloc]at this
 have d0:W1.heap[w.heap.size]? = some (.deferred (some [])):=by
  rw[<-H];exact(Below.heap_alloc _ _ _ (by simp)).trans (World.alloc_heap_new w _)
 have g0:Ext w W1:=by rw[<-H];exact((Ext.refl w).alloc _).alloc _
 refine⟨w.heap.size+1,[{ target:= .collected w.heap.size,args:=#[] }],W1,{ target:= .fn (.func gf) lb,args:=#[.func (.yield (w.heap.size+1)) #[] #[]] },W1,gf,
  #[.func (.yield (w.heap.size+1)) #[] #[]]++lb,W1,?_,?_,?_,?_,fun h=>(by cases h),?_⟩
 ·rw[<-H,j];exact run_enterLoop_outer _ _ _ _ _
 ·simp only[resolve,hg];simp[go_sem]
 ·intro f' _;trivial
 ·simp[invoke,go_sem,eg]
 ·refine callsIn_wide.2 ((n0 (w.heap.size+1)
   (fun pre W=>I pre W/\W.heap[w.heap.size+1]? = some (.loop (rec .ready none))/\W.heap[w.heap.size]? = some (.deferred (some [])))
   W1 g0 (fun pre A B h hs=>⟨c0 pre A B h.1 hs,(t0 A B hs).same _ _ h.2.1 rfl,(t0 A B hs).same _ _ h.2.2 rfl⟩)
   ?_ ⟨h0 W1 (Chg.of_ext g0 _),e0,d0⟩).mono ?_)
  ·rintro pre x W ⟨hi,hl,hk⟩ k1;have i1:w.heap.size+1<W.heap.size:=(Array.getElem?_eq_some_iff.1 hl).1;have hy:=run_yield (P:=P) (args:=encs x) hl (by rw[j];exact j1 x);rw[j]at hy;refine⟨fn,_,assign,body,hy,roundIn_of_wpIn i0 ?_⟩;refine wpIn_mono (Y _ pre x W hi k1) ?_;rintro e a1 W2 hq;cases e with
   | normal =>
    obtain⟨v0,h1,Z⟩:=hq;have b:=v0.same _ _ hl rfl;have q0:=v0.same _ _ hk rfl;have b0:w.heap.size+1<W2.heap.size:=(Array.getElem?_eq_some_iff.1 b).1;refine⟨W2.putObj (w.heap.size+1) (.loop { rec .ready none with state:= .busy }),run_beginRound b (by rw[j]),?_⟩;have ha:=Alike.others (B:=w.heap.size) b rfl (by omega) (.loop { rec .ready none with state:= .busy });have q1:(W2.putObj (w.heap.size+1) (.loop { rec .ready none with state:= .busy })).heap[w.heap.size+1]? = some (.loop { rec .ready none with state:= .busy }):=World.putObj_heap_same b0;have o0:(W2.putObj (w.heap.size+1) (.loop { rec .ready none with state:= .busy })).heap[w.heap.size]? = some (.deferred (some [])):=(World.putObj_heap_other (by omega)).trans q0;refine wpIn_mono (Z _ ha) ?_;rintro e a3 W3 hp;cases e with
    | normal =>
     obtain⟨U,x0,l0⟩:=hp;have p0:=U.same _ _ q1 rfl;have r0:=U.same _ _ o0 rfl;have hr:=run_endRound (P:=P) none p0;rw[j]at hr;have T:=Alike.others (B:=w.heap.size) p0 rfl (by omega) (.loop (rec .ready none));rw[j]at T;refine⟨_,_,hr,rfl,⟨hI _ _ _ l0 T,?_,?_⟩,O _ _ _ (O _ _ _ h1 (m0 _ _ ha)) (O _ _ _ x0 (m0 _ _ T))⟩
     ·rw[j];exact World.putObj_heap_same (Array.getElem?_eq_some_iff.1 p0).1
     ·exact(World.putObj_heap_other (by omega)).trans r0
    | ret=>exact hp.elim
    | exit id=>exact hp.elim
    | goto t=>exact hp.elim
    | panic ch=>exact hp.elim
    | outgrown=>exact hp.elim
   | ret=>exact hq.elim
   | exit id=>exact hq.elim
   | goto t=>exact hq.elim
   | panic ch=>exact hq.elim
   | outgrown=>exact hq.elim
  ·rintro e W2 ⟨⟨v,rfl⟩,xs,W3,⟨hi,hl,hk⟩,hf⟩;have b:=(J _ _ _ hf).same _ _ hl rfl;have q0:=(J _ _ _ hf).same _ _ hk rfl;refine⟨none,_,by have:=run_endLoop (P:=P) b (by rw[j];simp);rw[j]at this;exact this,G _ xs W3 W2 _ (Nat.le_refl _) hi hf ?_ ((World.putObj_heap_other (by omega)).trans q0)⟩;rw[j]at b;exact Alike.others b rfl (by omega) _
section
variable {F:Fence} {n:Nat} {P:Program}
theorem DA {rest:List Oper} {a:Act} {t e size bytes:Nat} (E:Elem P t e size bytes)
 {base:Nat} (b:w.ownsRow base e size v k xs) (hr:Cells w A news) (s x:Operand)
 (U:o.op = .call { callee:= .builtin .append,args:=#[s,x],argTypes:=#[t,t] }) (J:o.guard=none)
 (hs:a.eval s=v) (hx:a.eval x = .slice A m' c) (hm:m'=m) (I:news.length=m*size) (h1:∀u∈news,u.oneCell'=true) (O:k+m<=4294967296) (j:base<=w.heap.size)
 (h:∀A1 c1 w',w'.ownsRow base e size (.slice A1 (k+m) c1) (k+m) (xs++news)->w.grownBy w' v.ownBlock->((Value.slice A1 (k+m) c1).ownBlock=v.ownBlock\/(Value.slice A1 (k+m) c1).ownBlock=some w.heap.size)->wpListIn F n P ops Q rest (a.put o.dst (.slice A1 (k+m) c1)) w'):wpListIn F n P ops Q (o::rest) a w :=
 wpListIn_plain J fun K G=>by
  subst hm;obtain⟨A1,c1,w',H,h2,T,Z⟩:=Ds (P:=P) E w o.type b (c:=c) hr I h1 O j;unfold Oper.wpIn;refine⟨by simp[Oper.about,U,resolve,Target.leads,Sem.run_pure],?_⟩;rw[Oper.semAt_plain F _ _ (by rw[U];intro c Y;cases Y)];unfold execOp;simp only[U,resolve,invoke,builtin,Sem.run_bind,Sem.run_pure,Result.andThen_ok,List.map_toArray,List.map_cons,List.map_nil,hs,hx,H];exact G _ _ (h A1 c1 w' h2 T Z)
theorem Bu {rest:List Oper} {a:Act} {t e bytes:Nat} (E:Elem P t e 1 bytes)
 {base:Nat} {A B:Option Addr} (hb:Buf w base e A k c xs) (hr:Cells w B news) (s x:Operand)
 (O:o.op = .call { callee:= .builtin .append,args:=#[s,x],argTypes:=#[t,t] }) (U:o.guard=none)
 (hs:a.eval s = .slice A k c) (hx:a.eval x = .slice B m' c') (hm:m'=m) (hl:news.length=m) (h1:∀u∈news,u.oneCell'=true) (T:k+m<=4294967296) (j:base<=w.heap.size)
 (h:∀A1 c1 w',Buf w' base e A1 (k+m) c1 (xs++news)->w.grownBy w' (Value.slice A k c).ownBlock->(∀w0,Ext w0 w->w0.heap.size<=base->Ext w0 w')->(A1=A\/A1=some ⟨w.heap.size,0,none⟩)->wpListIn F n P ops Q rest (a.put o.dst (.slice A1 (k+m) c1)) w'):wpListIn F n P ops Q (o::rest) a w :=
 wpListIn_plain U fun K hK=>by
  subst hm;obtain⟨A1,c1,w',H,h2,Z,G⟩:=Gx (P:=P) E w o.type hb (c':=c') hr hl h1 T j;unfold Oper.wpIn;refine⟨by simp[Oper.about,O,resolve,Target.leads,Sem.run_pure],?_⟩;rw[Oper.semAt_plain F _ _ (by rw[O];intro c J;cases J)];unfold execOp;simp only[O,resolve,invoke,builtin,Sem.run_bind,Sem.run_pure,Result.andThen_ok,List.map_toArray,List.map_cons,List.map_nil,hs,hx,H];refine hK _ _ (h A1 c1 w' h2 Z (fun w0 I hw=>I.grown Z fun k hk=>?_) G);have Y:=hb.base_le;cases A with
  | none=>simp[Value.ownBlock]at hk
  | some b =>
   have:=Y b rfl;simp[Value.ownBlock]at hk;omega
end
theorem Bb {l n f:Nat} {args:Array Value} {R:Ending->World->Prop} (h:Calls P f args w R):CallsIn (Fence.wide.inRound l) n P f args w R:=CallsIn.inRound l (callsIn_wide.2 h)
theorem F3 {fn:Func} {R:Ending->World->Prop} {a:Act} (hd:a.defers = []) (j:(results fn a.tmps).run P w = .ok v w) (h:R (.returned v) w):bodyPostM Fence.wide 0 P fn R .ret a w:=by
 show LeavesInM _ _ _ _ _ _ a.defers _ _;rw[hd];exact⟨v,j,h⟩
theorem BR {fn:Func} {R:Ending->World->Prop} {a:Act} {B D:Nat} (hd:a.defers = [{ target:= .collected D,args:=#[] }]) (hk:w.heap[D]? = some (.deferred (some []))) (j:B<=D)
 (h:∀W,Alike B w W->∃v,(results fn a.tmps).run P W = .ok v W/\R (.returned v) W):bodyPostM Fence.wide 0 P fn R .ret a w:=by
 show LeavesInM _ _ _ _ _ _ a.defers _ _;rw[hd];exact⟨by simp,.inl ⟨D,_,rfl,run_takeDeferred hk,h _ (Alike.others hk rfl j _)⟩⟩
theorem BL {base:Nat} (hb:Buf w base e A k c xs) (J:w.grownBy w' (Value.slice A k c).ownBlock):KeepsOthers w w' :=
 KeepsOthers.of_grownBy J fun j o a h=>by
  rcases hb.2.2 with ⟨Y,_⟩ | ⟨g',cur,b,_,H,_⟩
  ·subst Y;simp[Value.ownBlock]at a
  ·subst b;simp[Value.ownBlock]at a;subst a;unfold Row at H;rw[H]at h;injection h with h;subst h;rfl
theorem Ext.others (h:Ext w w'):KeepsOthers w w':=⟨h.size,fun _ _ hk _=>h.block hk⟩
end
section
open Go.RowKit
attribute [local go_sem] Oper.semAt_some AP Cp
def KpT (B:Nat) (W W':World):Prop:=(∀w0:World,w0.heap.size<=B->Ext w0 W->Ext w0 W')/\∀g t cs,t≠155->t≠157->Row W g t cs->Row W' g t cs
theorem KpT.trans (B:Nat) (A C D:World) (h:KpT B A C) (k:KpT B C D):KpT B A D:=⟨fun w0 j b=>k.1 w0 j (h.1 w0 j b),fun g t cs h1 h2 a=>k.2 g t cs h1 h2 (h.2 g t cs h1 h2 a)⟩
theorem KpT.alike (a:B<=X) (A C:World) (h:Alike X A C):KpT B A C:=⟨fun _ hs j=>h.ext j (by omega),fun _ _ _ _ _ b=>h.row b⟩
theorem KpT.ext {A C:World} (h:Ext A C):KpT B A C:=⟨fun _ _ j=>j.trans h,fun _ _ _ _ _ b=>b.ext h⟩
def fdV (f:Fd):Value:= .agg #[.string ⟨f.1.toArray⟩,.string ⟨f.2.toArray⟩]
def BsIter (fs:List Fd) (B b0:Nat) (w:World):Prop :=
 Iter prog 172 #[.pointer (some ⟨b0,0,none⟩)] (fun x:Nat×Fd=>#[.int .i64 (x.1:Int),fdV x.2]) Ext (fun pre x _=>fs[pre.length]? = some x.2/\x.1=baseT 0 (fs.take pre.length)) (KpT B) (fun xs A C=>xs.length=fs.length/\Ext A C) w
theorem Nk (at_:Int) (A:Option Addr) (n c:Nat) (w:World) :
 Calls prog 129 #[.agg #[.int .i64 at_,.slice A n c]] w fun e w'=>∃b0,e = .returned (.func (.func 172) #[] #[.pointer (some ⟨b0,0,none⟩)])/\Row w' b0 69 #[.int .i64 at_,.slice A n c]/\w.heap.size<=b0/\Ext w w':=by
 go_in
 go_wp2_with fail;go_ret;exact⟨w.heap.size,rfl,Row.new w _ _,Nat.le_refl _,(Ext.refl w).alloc _⟩
theorem Lf (at_:Int) (fs:List Fd) (A:Option Addr) (n c b0 B:Nat) (w0 w:World) (hn:n=fs.length) (hc:Cells w0 A (fcells fs)) (hB:w0.heap.size<=B) (hw:Ext w0 w) (e1:n<=1000) (G:∀f∈fs,f.2.length<=1000000)
 (H:Row w b0 69 #[.int .i64 at_,.slice A n c]):BsIter fs B b0 w:=by
 intro l J W I T hY h0;have n0:=Aa (fun l W h=>HL l W h);replace H:=Aa (H.ext I);replace hw:=Aa (hw.trans I);clear I;replace hY:=Aa hY;replace T:=Aa T;replace h0:=Aa h0;replace hn:=Aa hn;replace hc:=Aa hc;replace G:=Aa G;refine(callsIn_wide (n:=0)).1 ?_;refine callsIn_of_wp func172 rfl trivial ?_;simp only[ntmps172,List.size_toArray,List.length_cons,List.length_nil,Nat.reduceAdd,Nat.reduceSub,Array.replicate_succ,Array.replicate_zero,List.push_toArray,List.append_toArray,List.nil_append,List.cons_append];have k0:=H.out.cell 0 rfl;have k1:=H.out.cell 1 rfl;gi_wp2_with fail
 gi_loopw [3,9] (fun s3 s9 wr=>∃(i bs:Nat) (pre:List (Nat×Fd)),s3 = .int .i64 (bs:Int)/\s9 = .int .i64 (i:Int)/\i<=n/\bs<=i*1000100/\Hid (pre.length=i)/\Hid (bs=baseT 0 (fs.take i))/\Hid (J pre wr)/\Hid (Ext w0 wr)) (fun _ s9 _=>n - (intOf s9).toNat)
 case atStart=>exact⟨0,0,[],rfl,rfl,by omega,by omega,Aa rfl,Aa rfl,h0,hw⟩
 case round =>
  obtain⟨i,bs,pre,rfl,rfl,hi,d1,O,m0,hJ,I⟩:=hrel;by_cases l0:i<n
  ·obtain⟨f,hf⟩:∃f,fs[i]? = some f:=⟨_,List.getElem?_eq_getElem (by rw[<-hn.out];exact l0)⟩
   obtain⟨g,o,hA,x0,x1⟩:=Bg (hc.out.ext I.out) hf;subst hA;have i0:=G.out f (List.mem_of_getElem? hf);obtain⟨W2,j⟩:=Ab (wr.alloc (.cells #[.string ⟨f.1.toArray⟩,.string ⟨f.2.toArray⟩] 91));have a:Ext wr W2:=by rw[j];exact(Ext.refl wr).alloc _
   have r2:Row W2 wr.heap.size 91 #[.string ⟨f.1.toArray⟩,.string ⟨f.2.toArray⟩]:=by rw[j];exact Row.new wr _ _
   obtain⟨gd,Y⟩:=Ab wr.heap.size;rw[<-Y]at r2;have p0:=r2.cell 0 rfl;have p1:=r2.cell 1 rfl;have h1:=hY.out pre (bs,f) W2 (T.out _ _ _ hJ.out a) ⟨by rw[O.out];exact hf,by rw[O.out];exact m0.out⟩;obtain⟨fn,tmps,assign,body,hy,g0⟩:=h1;simp only[fdV]at hy g0;have v0:=CK f.2;have b:baseT 0 (fs.take (i+1))=bs+(64+(tokL f.2).length):=by
    rw[List.take_add_one,hf,Fx,<-m0.out];rfl
   obtain⟨nm,tx⟩:=f;simp only at x0 x1 i0 j r2 p0 p1 hy v0 b;unfold strV at x0 x1;obtain⟨nt,U⟩:=Ab ((tokL tx).length);rw[<-U]at v0 b;rw[j]at hy;replace hf:=Aa hf;replace j:=Aa j;replace Y:=Aa Y;replace r2:=Aa r2;replace a:=Aa (I.out.trans a);replace U:=Aa U;replace b:=Aa b;clear hY;gi_wp2_with fail;rw[<-j.out,<-Y.out];refine g0.mono ?_;rintro e W3 ⟨rfl,Z,t0⟩;have r3:=t0.2 _ _ _ (by decide) (by decide) r2.out;have q1:=r3.cell 1 rfl;have d0:=Aa (t0.1 w0 hB a.out);have f0:=Aa (n0.out tx W3 (by omega));replace Z:=Aa Z;gi_wp2_with fail;refine(callsIn_wide.2 f0.out).mono ?_;rintro e w4 hT;obtain⟨A4,c4,rfl,_,j0⟩:=hT;rw[<-U.out];gi_wp2_with fail;exact⟨⟨i+1,bs+(64+nt),pre ++ [(bs,(nm,tx))],by first | rfl | (congr 1;omega),by go_num,by omega,by omega,Aa (by rw[List.length_append,O.out];rfl),Aa b.out.symm,Aa (T.out _ _ _ Z.out j0),Aa (d0.out.trans j0)⟩,by simp only[intOf];omega⟩
  ·gi_wp2_with fail
   go_end0
   exact⟨⟨_,rfl⟩,pre,_,hJ.out,by rw[O.out,<-hn.out];omega,Ext.refl _⟩
end
section
open Go.RowKit
section
variable {β:Type}
def Srt (l:List (List UInt8×β)):Prop:=l.Pairwise fun x y=>¬ y.1<x.1
structure Stb (l m:List (List UInt8×β)):Prop where
  perm:m.Perm l
  vals:∀s,valsOf m s=valsOf l s
theorem Stb.refl (l:List (List UInt8×β)):Stb l l:=⟨List.Perm.refl _,fun _=>rfl⟩
variable {l m k A B A1 A2 B1 B2 M1 M2:List (List UInt8×β)}
theorem Stb.trans (h:Stb l m) (h2:Stb m k):Stb l k:=⟨h2.perm.trans h.perm,fun s=>(h2.vals s).trans (h.vals s)⟩
theorem Stb.app (h:Stb A M1) (h2:Stb B M2):Stb (A++B) (M1++M2):=⟨h.perm.append h2.perm,fun s=>by rw[AK,AK,h.vals,h2.vals]⟩
theorem Stb.mem (h:Stb l m) {x:List UInt8×β} (j:x∈m):x∈l:=h.perm.mem_iff.1 j
theorem Stb.len (h:Stb l m):m.length=l.length:=h.perm.length_eq
theorem Df {l:List (List UInt8×β)} (h:∀x∈l,¬ x.1=s):valsOf l s = []:=by
 unfold valsOf;rw[List.filter_eq_nil_iff.2 fun x j=>by simpa using h x j];rfl
theorem Stb.swap (h:∀x∈A,∀y∈B,¬ x.1=y.1):Stb (A++B) (B++A):=by
 refine⟨List.perm_append_comm,fun s=>?_⟩;rw[AK,AK];by_cases b:∃x∈A,x.1=s
 ·obtain⟨x,j,rfl⟩:=b;rw[Df fun y a e=>h x j y a e.symm,List.nil_append,List.append_nil]
 ·rw[Df fun x j e=>b ⟨x,j,e⟩,List.nil_append,List.append_nil]
theorem C6 {a b c:List UInt8} (h:¬ b<a) (k:¬ c<b):¬ c<a:=fun j=>h (by
 by_cases e:c=b
 ·rw[<-e];exact j
 ·exact List.lt_trans (Ex k e) j)
theorem Py {a b c:List UInt8} (h:a<b) (k:¬ c<b):a<c:=by
 by_cases e:c=b
 ·rw[e];exact h
 ·exact List.lt_trans h (Ex k e)
theorem PH {a b c:List UInt8} (h:¬ b<a) (k:b<c):a<c:=by
 by_cases e:b=a
 ·rw[<-e];exact k
 ·exact List.lt_trans (Ex h e) k
theorem RN {a b:List UInt8} (h:a<b):¬ b<a:=fun k=>List.lt_irrefl _ (List.lt_trans h k)
theorem Srt.left (h:Srt (A++B)):Srt A:=(List.pairwise_append.1 h).1
theorem Srt.right (h:Srt (A++B)):Srt B:=(List.pairwise_append.1 h).2.1
theorem HI (a:Srt (A1++A2)) (H:Srt (B1++B2)) (h1:∀x∈A1,∀y∈B2,¬ y.1<x.1) (h2:∀x∈B1,∀y∈A2,x.1<y.1) (s1:Stb (A1++B1) M1) (r1:Srt M1) (s2:Stb (A2++B2) M2) (r2:Srt M2) :
 Srt (M1++M2)/\Stb ((A1++A2)++(B1++B2)) (M1++M2):=by
 constructor
 ·refine List.pairwise_append.2 ⟨r1,r2,fun x j y h=>?_⟩;have j:=List.mem_append.1 (s1.mem j);have h:=List.mem_append.1 (s2.mem h);rcases j with j | j
  ·rcases h with h | h
   ·exact(List.pairwise_append.1 a).2.2 x j y h
   ·exact h1 x j y h
  ·rcases h with h | h
   ·exact RN (h2 x j y h)
   ·exact(List.pairwise_append.1 H).2.2 x j y h
 ·have hs:Stb (A2++B1) (B1++A2):=Stb.swap fun x j y h e=>by
   have:=h2 y h x j;rw[e]at this;exact List.lt_irrefl _ this
  have b:Stb ((A1++A2)++(B1++B2)) ((A1++B1)++(A2++B2)):=by
   have:=((Stb.refl A1).app hs).app (Stb.refl B2);simpa only[List.append_assoc]using this
  exact b.trans (s1.app s2)
theorem Srt.take_le (h:Srt l) {z:List UInt8×β} (O:l[i]? = some z):∀x∈l.take (i+1),¬ z.1<x.1:=by
 intro x U;obtain⟨j,H⟩:=List.getElem?_of_mem U;rw[List.getElem?_take]at H;split at H
 ·rename_i J;obtain⟨hi,b⟩:=List.getElem?_eq_some_iff.1 O;obtain⟨Y,a⟩:=List.getElem?_eq_some_iff.1 H;by_cases e:j=i
  ·subst e;rw[<-b,<-a];exact List.lt_irrefl _
  ·have:=List.pairwise_iff_getElem.1 h j i Y hi (by omega);rw[a,b]at this;exact this
 ·cases H
theorem Srt.drop_ge (h:Srt l) {z:List UInt8×β} (U:l[i]? = some z):∀x∈l.drop i,¬ x.1<z.1:=by
 intro x J;obtain⟨j,Y⟩:=List.getElem?_of_mem J;rw[List.getElem?_drop]at Y;obtain⟨hi,b⟩:=List.getElem?_eq_some_iff.1 U;obtain⟨H,a⟩:=List.getElem?_eq_some_iff.1 Y;by_cases e:j=0
 ·subst e;rw[<-b,<-a];exact List.lt_irrefl _
 ·have:=List.pairwise_iff_getElem.1 h i (i+j) hi H (by omega);rw[a,b]at this;exact this
structure CutP (A B:List (List UInt8×β)) (i j:Nat):Prop where
  ile:i<=A.length
  jle:j<=B.length
  lo:i=0\/j=B.length\/∃x y,A[i - 1]? = some x/\B[j]? = some y/\¬ y.1<x.1
  hi:i=A.length\/j=0\/∃x y,A[i]? = some x/\B[j - 1]? = some y/\y.1<x.1
theorem CutP.le {i j:Nat} (h:CutP A B i j) (U:Srt A) (O:Srt B):(∀x∈A.take i,∀y∈B.drop j,¬ y.1<x.1)/\(∀x∈B.take j,∀y∈A.drop i,x.1<y.1):=by
 constructor
 ·intro x b y H;rcases h.lo with e | e | ⟨u,v,Y,J,a⟩
  ·rw[e]at b;cases b
  ·rw[e,List.drop_length]at H;cases H
  ·by_cases e:i=0
   ·rw[e]at b;cases b
   ·have h1:=U.take_le Y x (by rw[show i - 1+1=i by omega];exact b);have h2:=O.drop_ge J y H;exact C6 h1 (C6 a h2)
 ·intro x b y H;rcases h.hi with e | e | ⟨u,v,Y,J,a⟩
  ·rw[e,List.drop_length]at H;cases H
  ·rw[e]at b;cases b
  ·by_cases e:j=0
   ·rw[e]at b;cases b
   ·have h1:=O.take_le J x (by rw[show j - 1+1=j by omega];exact b);have h2:=U.drop_ge Y y H;exact PH h1 (Py a h2)
def Mrg (A B M:List (List UInt8×β)):Prop:=Srt M/\Stb (A++B) M
theorem CutP.mrg {i j:Nat} (h:CutP A B i j) (Y:Srt A) (J:Srt B) (m1:Mrg (A.take i) (B.take j) M1) (m2:Mrg (A.drop i) (B.drop j) M2):Mrg A B (M1++M2):=by
 have H:=h.le Y J;have b:=Y;have a:=J;rw[<-List.take_append_drop i A]at b;rw[<-List.take_append_drop j B]at a;have:=HI b a H.1 H.2 m1.2 m1.1 m2.2 m2.1;rw[List.take_append_drop,List.take_append_drop]at this;exact this
theorem Mrg.nil_left (h:Srt B):Mrg [] B B:=⟨h,Stb.refl _⟩
theorem Mrg.nil_right (h:Srt A):Mrg A [] A:=⟨h,by rw[List.append_nil];exact Stb.refl _⟩
theorem PI {x:List UInt8×β} (H:Srt B) (b:∀y∈B.take i,y.1<x.1) (j:∀y∈B.drop i,¬ y.1<x.1):Mrg [x] B (B.take i++x::B.drop i):=by
 have h:=H;rw[<-List.take_append_drop i B]at h;have hs:Srt ([] ++ [x]:List (List UInt8×β)):=List.pairwise_singleton ..;have:=HI (A1:= []) (A2:= [x]) hs h (by simp) (fun y a z Y=>by rw[List.mem_singleton.1 Y];exact b y a) (M1:=B.take i) (by rw[List.nil_append];exact Stb.refl _) h.left (M2:=x::B.drop i) (Stb.refl _)
  (List.pairwise_cons.2 ⟨fun y a=>j y a,h.right⟩)
 rw[List.take_append_drop]at this;exact this
theorem IM {y:List UInt8×β} (Y:Srt A) (b:∀x∈A.take i,¬ y.1<x.1) (j:∀x∈A.drop i,y.1<x.1):Mrg A [y] (A.take i++y::A.drop i):=by
 have h:=Y;rw[<-List.take_append_drop i A]at h;have hs:Srt ([y] ++ []:List (List UInt8×β)):=List.pairwise_singleton ..;have:=HI (B1:= [y]) (B2:= []) h hs (by simp) (fun x a z H=>by rw[List.mem_singleton.1 a];exact j z H) (M1:=A.take i ++ [y]) (Stb.refl _)
  (List.pairwise_append.2 ⟨h.left,List.pairwise_singleton ..,fun x a z H=>by rw[List.mem_singleton.1 H];exact b x a⟩) (M2:=A.drop i) (by rw[List.append_nil];exact Stb.refl _) h.right
 rw[List.take_append_drop]at this;unfold Mrg;simpa only[List.append_assoc,List.singleton_append]using this
def Std (l m:List (List UInt8×β)):Prop:=Srt m/\Stb l m
theorem Std.mrg {l l' A B M:List (List UInt8×β)} (h:Std l A) (h2:Std l' B) (j:Mrg A B M):Std (l++l') M:=⟨j.1,(h.2.app h2.2).trans j.2⟩
end
end
section
open Go.RowKit
abbrev TmV:=List UInt8×(Option Addr×Nat×Nat)
def tcell (x:TmV):List Value:= [.string ⟨x.1.toArray⟩,.slice x.2.1 x.2.2.1 x.2.2.2]
def tcs (D:List TmV):List Value:=D.flatMap tcell
theorem Ft (D:List TmV):(tcs D).length=D.length*2:=AU (cellsA:=tcell) (k:=2) (fun _=>rfl) D
theorem Dv {D:List TmV} {x:TmV} (h:D[i]? = some x) {j:Nat} (b:j<2):(tcs D)[i*2+j]? = (tcell x)[j]? :=AW (cellsA:=tcell) (k:=2) (fun _=>rfl) D i x j h b
def TR (w:World) (g:Nat) (D:List TmV):Prop:=∃cs:Array Value,Row w g 157 cs/\∀(i:Nat) (v:Value),(tcs D)[i]? = some v->cs[i]? = some v
section
variable {w w1:World} {g:Nat} {D:List TmV}
theorem TR.lt (h:TR w g D):g<w.heap.size:=by obtain⟨cs,j,_⟩:=h;exact j.lt
theorem TR.free (h:TR w g D) (i:Nat):w.frozen? ⟨g,i,none⟩=false:=by obtain⟨cs,j,_⟩:=h;exact j.free i
theorem TR.at_ (h:TR w g D) {x:TmV} (H:D[i]? = some x):w.cell? ⟨g,i*2,none⟩=some (.string ⟨x.1.toArray⟩)/\w.cell? ⟨g,i*2+1,none⟩=some (.slice x.2.1 x.2.2.1 x.2.2.2):=by
 obtain⟨cs,a,b⟩:=h;exact⟨a.cell (i*2) (b _ _ (by have:=Dv H (j:=0) (by omega);rw[Nat.add_zero]at this;rw[this];rfl)),a.cell (i*2+1) (b _ _ (by rw[Dv H (j:=1) (by omega)];rfl))⟩
theorem TR.ext (h:TR w g D) (j:Ext w w1):TR w1 g D:=by obtain⟨cs,a,b⟩:=h;exact⟨cs,a.ext j,b⟩
theorem TR.drew (h:TR w g D):TR w.drew g D:=h.ext (Ext.refl w).drew
theorem Rc (D:List TmV) (i:Nat) (y:TmV) (hi:i<D.length) (k:Nat):(tcs (D.set i y))[k]? = if k=i*2 then some (.string ⟨y.1.toArray⟩) else if k=i*2+1 then some (.slice y.2.1 y.2.2.1 y.2.2.2) else (tcs D)[k]? :=by
 have hk:k=k / 2*2+k%2:=by omega
 by_cases j:k / 2<D.length
 ·have a:D[k / 2]? = some D[k / 2]:=List.getElem?_eq_getElem j;by_cases b:k / 2=i
  ·have h1:(D.set i y)[k / 2]? = some y:=by rw[List.getElem?_set,if_pos b.symm,if_pos (by omega)]
   rw[hk,Dv h1 (Nat.mod_lt _ (by omega))];rcases Nat.mod_two_eq_zero_or_one k with h | h
   ·rw[h,if_pos (by omega)];rfl
   ·rw[h,if_neg (by omega),if_pos (by omega)];rfl
  ·have h1:(D.set i y)[k / 2]? = some D[k / 2]:=by rw[List.getElem?_set,if_neg (fun e=>b e.symm),a]
   rw[hk,Dv h1 (Nat.mod_lt _ (by omega)),Dv a (Nat.mod_lt _ (by omega)),if_neg (by omega),if_neg (by omega)]
 ·rw[if_neg (by omega),if_neg (by omega),List.getElem?_eq_none (by rw[Ft,List.length_set];omega),List.getElem?_eq_none (by rw[Ft];omega)]
abbrev setT (w:World) (g i:Nat) (y:TmV):World:=(w.setCell ⟨g,i*2,none⟩ (.string ⟨y.1.toArray⟩)).setCell ⟨g,i*2+1,none⟩ (.slice y.2.1 y.2.2.1 y.2.2.2)
theorem TR.put (h:TR w g D) (hi:i<D.length) (y:TmV):TR (setT w g i y) g (D.set i y):=by
 obtain⟨cs,Z,a⟩:=h;refine⟨_,(Z.put (i*2) _).put (i*2+1) _,fun k v b=>?_⟩;have U:D[i]? = some D[i]:=List.getElem?_eq_getElem hi;have Y:i*2<cs.size:=by
  have O:=a (i*2) _ (by have:=Dv U (j:=0) (by omega);rw[Nat.add_zero]at this;exact this);exact(Array.getElem?_eq_some_iff.1 O).1
 have J:i*2+1<cs.size:=(Array.getElem?_eq_some_iff.1 (a (i*2+1) _ (Dv U (j:=1) (by omega)))).1;rw[Rc D i y hi]at b;rw[Array.getElem?_setIfInBounds,Array.getElem?_setIfInBounds];split at b
 ·rename_i H;subst H;rw[if_neg (by omega),if_pos rfl,if_pos Y];exact b
 ·split at b
  ·rename_i T H;subst H;rw[if_pos rfl,if_pos (by rw[Array.size_setIfInBounds];exact J)];exact b
  ·rename_i h1 h2;rw[if_neg (by omega),if_neg (by omega)];exact a k v b
theorem Cf (w:World) (g i:Nat) (y:TmV):Chg (fun k=>k=g) w (setT w g i y) :=
 (Chg.of_set (S:=fun k=>k=g) w (a:=⟨g,i*2,none⟩) _ rfl).trans (Chg.of_set (S:=fun k=>k=g) _ (a:=⟨g,i*2+1,none⟩) _ rfl) fun _ _ h=>h
end
def SwK (D D':List TmV) (a b k:Nat):Prop:=D'.length=D.length/\∀i,D'[i]? = if a<=i/\i<a+k then D[i - a+b]? else if b<=i/\i<b+k then D[i - b+a]? else D[i]?
theorem SwK.zero (D:List TmV) (a b:Nat):SwK D D a b 0:=⟨rfl,fun i=>by rw[if_neg (by omega),if_neg (by omega)]⟩
theorem SwK.next {D D':List TmV} {a b k n:Nat} {x y:TmV} (h:SwK D D' a b k) (hk:k<n) (hab:a+n<=b) (U:D'[a+k]? = some x) (O:D'[b+k]? = some y):SwK D ((D'.set (a+k) y).set (b+k) x) a b (k+1):=by
 obtain⟨T,j⟩:=h;refine⟨by rw[List.length_set,List.length_set,T],fun i=>?_⟩;have J:=j (a+k);rw[if_neg (by omega),if_neg (by omega),U]at J;have hb:=j (b+k);rw[if_neg (by omega),if_neg (by omega),O]at hb;have H:=(List.getElem?_eq_some_iff.1 U).1;have Y:=(List.getElem?_eq_some_iff.1 O).1;rw[List.getElem?_set,List.getElem?_set,List.length_set];by_cases e1:b+k=i
 ·subst e1;rw[if_pos rfl,if_pos Y,if_neg (by omega),if_pos (by omega),show b+k - b+a=a+k by omega];exact J
 ·rw[if_neg e1];by_cases e2:a+k=i
  ·subst e2;rw[if_pos rfl,if_pos H,if_pos (by omega),show a+k - a+b=b+k by omega];exact hb
  ·rw[if_neg e2,j i];by_cases c1:a<=i/\i<a+k
   ·rw[if_pos c1,if_pos (show a<=i/\i<a+(k+1)by omega)]
   ·rw[if_neg c1,if_neg (show ¬ (a<=i/\i<a+(k+1))by omega)];by_cases c2:b<=i/\i<b+k
    ·rw[if_pos c2,if_pos (show b<=i/\i<b+(k+1)by omega)]
    ·rw[if_neg c2,if_neg (show ¬ (b<=i/\i<b+(k+1))by omega)]
theorem Ic (g c a b n:Nat) (D:List TmV) (f:Value) (w:World) (h:TR w g D) (hab:a+n<=b) (hb:b+n<=D.length) (hD:D.length<=1073741824) :
 Calls prog 234 #[.slice (some ⟨g,0,none⟩) D.length c,.int .i64 (a:Int),.int .i64 (b:Int),.int .i64 (n:Int),f] w fun e w'=>e = .returned (.tuple #[])/\∃D',SwK D D' a b n/\TR w' g D'/\Chg (fun k=>k=g) w w':=by
 obtain⟨dl,j⟩:∃n,n=D.length:=⟨_,rfl⟩
 rw[<-j]at hb hD ⊢;replace h:=Aa h;replace j:=Aa j
 go_in
 go_wp2_with fail
 go_loopw [10] (fun s10 wr=>∃(k:Nat) (E:List TmV),s10 = .int .i64 (k:Int)/\k<=n/\Hid (SwK D E a b k/\TR wr g E/\Chg (fun k=>k=g) w wr)) (fun s10 _=>n - (intOf s10).toNat)
 case atStart=>exact⟨0,D,rfl,by omega,Aa ⟨SwK.zero D a b,h.out,Chg.refl _ _⟩⟩
 case round =>
  obtain⟨k,E,rfl,hk,H⟩:=hrel;by_cases I:k<n
  ·have hl:=H.out.1.1;have U:=j.out;obtain⟨x,Z⟩:∃x,E[a+k]? = some x:=⟨_,List.getElem?_eq_getElem (by omega)⟩
   obtain⟨y,G⟩:∃y,E[b+k]? = some y:=⟨_,List.getElem?_eq_getElem (by omega)⟩
   have Y:=H.out.2.1.at_ Z;have J:=H.out.2.1.at_ G;have x0:=Y.1;have x1:=Y.2;have y0:=J.1;have y1:=J.2;have fr:=H.out.2.1.free;clear hl U Y J;replace Z:=Aa Z;replace G:=Aa G;go_wp2_with fail;refine AE (fun K hK=>?_);go_wp2_with fail;refine⟨by kernel_rfl,?_⟩;go_wp2_with fail;have O:=Z.out;have T:=G.out;have hN:=H.out.1.next I hab O T;have h1:=H.out.2.1.put (i:=a+k) (List.getElem?_eq_some_iff.1 O).1 y;have h2:=h1.put (i:=b+k) (by rw[List.length_set];exact(List.getElem?_eq_some_iff.1 T).1) x;have hc:=(H.out.2.2.trans (Cf wr g (a+k) y) fun _ _ h=>h).trans (Cf _ g (b+k) x) fun _ _ h=>h;go_roundw
   case rel=>exact⟨k+1,_,by go_num,by omega,Aa ⟨hN,h2.drew,hc.trans (Chg.of_ext (Ext.refl _).drew _) fun _ _ h=>h⟩⟩
   case measure=>simp[intOf];omega
  ·go_wp2_with fail
   go_end0
   obtain rfl:k=n:=by omega
   exact⟨rfl,E,H.out⟩
end
section
open Go.RowKit
theorem MC {E E' P X Y Z Q:List TmV} {a b n:Nat} (h:SwK E E' a b n) (O:E=P++(X++(Y++(Z++Q)))) (j:X.length=n) (H:Z.length=n) (T:a=P.length) (hb:b=P.length+X.length+Y.length):E'=P++(Z++(Y++(X++Q))):=by
 refine List.ext_getElem? fun i=>?_;rw[h.2 i,O];simp only[List.getElem?_append];subst T hb;by_cases h1:i<P.length
 ·rw[if_neg (show ¬ (P.length<=i/\i<P.length+n)by omega),if_neg (show ¬ (P.length+X.length+Y.length<=i/\i<P.length+X.length+Y.length+n)by omega)];simp only[if_pos h1]
 ·by_cases h2:i - P.length<n
  ·rw[if_pos (show P.length<=i/\i<P.length+n by omega)];simp only[if_neg h1,j,H,if_pos h2];rw[if_neg (by omega),if_neg (by omega),if_neg (by omega),if_pos (by omega)];congr 1;omega
  ·rw[if_neg (show ¬ (P.length<=i/\i<P.length+n)by omega)];by_cases J:i - P.length - n<Y.length
   ·rw[if_neg (show ¬ (P.length+X.length+Y.length<=i/\i<P.length+X.length+Y.length+n)by omega)];simp only[if_neg h1,j,H,if_neg h2,if_pos J]
   ·by_cases U:i - P.length - n - Y.length<n
    ·rw[if_pos (show P.length+X.length+Y.length<=i/\i<P.length+X.length+Y.length+n by omega)];simp only[if_neg h1,j,H,if_neg h2,if_neg J,if_pos U];rw[if_neg (by omega),if_pos (by omega)];congr 1;omega
    ·rw[if_neg (show ¬ (P.length+X.length+Y.length<=i/\i<P.length+X.length+Y.length+n)by omega)];simp only[if_neg h1,j,H,if_neg h2,if_neg J,if_neg U]
structure RotI (T E:List TmV) (m i j:Nat):Prop where
  ex:∃P U V Q:List TmV,E=P++(U++(V++Q))/\P.length+i=m/\U.length=i/\V.length=j/\T=P++(V++(U++Q))
  i0:0<i
  j0:0<j
theorem RotI.len {T E:List TmV} {m i j:Nat} (h:RotI T E m i j):i<=m/\m+j<=E.length/\E.length=T.length:=by
 obtain⟨P,U,V,Q,b,H,Y,J,a⟩:=h.ex;rw[b,a];simp only[List.length_append];omega
theorem RotI.left {T E E':List TmV} {m i j:Nat} (h:RotI T E m i j) (O:j<i) (hs:SwK E E' (m - i) m j):RotI T E' m (i - j) j:=by
 obtain⟨P,U,V,Q,a,G,I,J,H⟩:=h.ex;have b:=MC (P:=P) (X:=U.take j) (Y:=U.drop j) (Z:=V) (Q:=Q) hs (by rw[a,<-List.append_assoc (U.take j),List.take_append_drop]) (by rw[List.length_take];omega) J (by omega) (by rw[List.length_take,List.length_drop];omega);refine⟨⟨P++V,U.drop j,U.take j,Q,?_,?_,?_,?_,?_⟩,by omega,h.j0⟩
 ·rw[b];simp only[List.append_assoc]
 ·rw[List.length_append];omega
 ·rw[List.length_drop];omega
 ·rw[List.length_take];omega
 ·rw[H,List.append_assoc,<-List.append_assoc (U.take j),List.take_append_drop]
theorem RotI.right {T E E':List TmV} {m i j:Nat} (h:RotI T E m i j) (G:i<j) (hs:SwK E E' (m - i) (m+j - i) i):RotI T E' m i (j - i):=by
 obtain⟨P,U,V,Q,a,H,O,I,J⟩:=h.ex;have b:=MC (P:=P) (X:=U) (Y:=V.take (j - i)) (Z:=V.drop (j - i)) (Q:=Q) hs (by rw[a,<-List.append_assoc (V.take (j - i)),List.take_append_drop]) O (by rw[List.length_drop];omega) (by omega) (by rw[List.length_take];omega);refine⟨⟨P,V.drop (j - i),V.take (j - i),U++Q,?_,H,?_,?_,?_⟩,h.i0,by omega⟩
 ·rw[b]
 ·rw[List.length_drop];omega
 ·rw[List.length_take];omega
 ·rw[J,<-List.append_assoc (V.take (j - i)),List.take_append_drop]
theorem RotI.last {T E E':List TmV} (h:RotI T E m i i) (hs:SwK E E' (m - i) m i):E'=T:=by
 obtain⟨P,U,V,Q,b,O,H,J,a⟩:=h.ex;have j:=MC (P:=P) (X:=U) (Y:= []) (Z:=V) (Q:=Q) hs (by rw[b];rfl) H J (by omega) (by simp;omega);rw[j,a];rfl
theorem Ml (g c a m b:Nat) (D T:List TmV) (f:Value) (w:World) (h:TR w g D) (hR:RotI T D m (m - a) (b - m)) (b0:a<m) (l0:m<b) (hD:D.length<=1073741824) :
 Calls prog 225 #[.slice (some ⟨g,0,none⟩) D.length c,.int .i64 (a:Int),.int .i64 (m:Int),.int .i64 (b:Int),f] w fun e w'=>e = .returned (.tuple #[])/\TR w' g T/\Chg (fun k=>k=g) w w':=by
 have hlen:=hR.len;obtain⟨dl,I⟩:∃n,n=D.length:=⟨_,rfl⟩
 rw[<-I]at hD hlen ⊢;have Z:∀(a b n:Nat) (E:List TmV) (x:World),TR x g E->E.length=dl->a+n<=b->b+n<=dl->Calls prog 234 #[.slice (some ⟨g,0,none⟩) dl c,.int .i64 (a:Int),.int .i64 (b:Int),.int .i64 (n:Int),f] x fun e w'=>e = .returned (.tuple #[])/\∃D',SwK E D' a b n/\TR w' g D'/\Chg (fun k=>k=g) x w':=fun a b n E x hx hE hab hb=>by
  have:=Ic g c a b n E f x hx hab (by omega) (by omega);rw[hE]at this;exact this
 have hT:T.length=dl:=hlen.2.2.symm;have n0:m<=1073741824:=by omega
 have c0:b<=1073741824:=by omega
 have G:((b:Int) - (m:Int))=((b - m:Nat):Int):=by omega
 have h0:((m:Int) - (a:Int))=((m - a:Nat):Int):=by omega
 replace h:=Aa h;replace hR:=Aa hR;replace Z:=Aa Z;replace I:=Aa I;replace hlen:=Aa hlen;replace hT:=Aa hT;replace G:=Aa G;replace h0:=Aa h0
 go_in
 go_wp2_with fail;rw[h0.out,G.out]
 go_loopw [10,11] (fun s10 s11 wr=>∃(i j:Nat) (E:List TmV),s10 = .int .i64 (i:Int)/\s11 = .int .i64 (j:Int)/\i<=1073741824/\j<=1073741824/\Hid (RotI T E m i j/\TR wr g E/\Chg (fun k=>k=g) w wr)) (fun s10 s11 _=>(intOf s10).toNat+(intOf s11).toNat)
 case atStart=>exact⟨m - a,b - m,D,rfl,rfl,by omega,by omega,Aa ⟨hR.out,h.out,Chg.refl _ _⟩⟩
 case round =>
  obtain⟨i,j,E,rfl,rfl,hi,hj,O⟩:=hrel;have hl:=O.out.1.len;have d0:=O.out.1.i0;have f0:=O.out.1.j0;have Y:E.length=dl:=by have:=hT.out;omega
  have J:((m:Int) - (i:Int))=((m - i:Nat):Int):=by omega
  have U:((m:Int)+(j:Int) - (i:Int))=((m+j - i:Nat):Int):=by omega
  by_cases t0:i=j
  ·subst t0;have hs:=Aa (Z.out (m - i) m i E wr O.out.2.1 Y (by omega) (by omega));replace J:=Aa J;replace U:=Aa U;replace Y:=Aa Y;go_wp2_with fail;rw[J.out];refine hs.out.mono ?_;rintro e w1 ⟨rfl,E',hk,hr,hc⟩;obtain rfl:=O.out.1.last hk;go_wp2_with fail
   go_end0
   exact⟨rfl,hr,O.out.2.2.trans hc fun _ _ h=>h⟩
  ·have o0:¬ (i:Int)=(j:Int):=by omega
   by_cases v0:j<i
   ·have hs:=Aa (Z.out (m - i) m j E wr O.out.2.1 Y (by omega) (by omega));have H:((i:Int) - (j:Int))=((i - j:Nat):Int):=by omega
    replace J:=Aa J;replace U:=Aa U;replace Y:=Aa Y;replace H:=Aa H;go_wp2_with fail;rw[J.out];refine hs.out.mono ?_;rintro e w1 ⟨rfl,E',hk,hr,hc⟩;have hN:=O.out.1.left v0 hk;replace hk:=Aa hk;go_wp2_with fail;go_roundw
    case rel=>exact⟨i - j,j,E',by rw[H.out],rfl,by omega,hj,Aa ⟨hN,hr,O.out.2.2.trans hc fun _ _ h=>h⟩⟩
    case measure=>simp[intOf];omega
   ·have hs:=Aa (Z.out (m - i) (m+j - i) i E wr O.out.2.1 Y (by omega) (by omega));have H:((j:Int) - (i:Int))=((j - i:Nat):Int):=by omega
    replace J:=Aa J;replace U:=Aa U;replace Y:=Aa Y;replace H:=Aa H;go_wp2_with fail;rw[J.out,U.out];refine hs.out.mono ?_;rintro e w1 ⟨rfl,E',hk,hr,hc⟩;have hN:=O.out.1.right (by omega) hk;replace hk:=Aa hk;go_wp2_with fail;go_roundw
    case rel=>exact⟨i,j - i,E',rfl,by rw[H.out],hi,by omega,Aa ⟨hN,hr,O.out.2.2.trans hc fun _ _ h=>h⟩⟩
    case measure=>simp[intOf];omega
theorem MO:∀(a b:List UInt8),(Lib.compareBytes a b<0↔a<b) /\ -1<=Lib.compareBytes a b/\Lib.compareBytes a b<=1
 | [],[]=>⟨by simp[Lib.compareBytes],by simp[Lib.compareBytes],by simp[Lib.compareBytes]⟩
 | [],_::_=>⟨by simp[Lib.compareBytes],by simp[Lib.compareBytes],by simp[Lib.compareBytes]⟩
 | _::_,[]=>⟨by simp[Lib.compareBytes],by simp[Lib.compareBytes],by simp[Lib.compareBytes]⟩
 | x::xs,y::ys=>by
  have ih:=MO xs ys;rw[Lib.compareBytes,List.cons_lt_cons_iff];by_cases h1:x<y
  ·rw[if_pos h1];exact⟨⟨fun _=> .inl h1,fun _=>by decide⟩,by decide,by decide⟩
  ·rw[if_neg h1];by_cases h2:y<x
   ·rw[if_pos h2];refine⟨⟨fun h=>absurd h (by decide),fun h=>?_⟩,by decide,by decide⟩;rcases h with h | ⟨h,_⟩
    ·exact absurd h h1
    ·rw[h]at h2;exact absurd h2 (UInt8.lt_irrefl _)
   ·rw[if_neg h2];have j:x=y:=UInt8.le_antisymm (UInt8.not_lt.1 h2) (UInt8.not_lt.1 h1);refine⟨⟨fun h=> .inr ⟨j,ih.1.1 h⟩,fun h=>?_⟩,ih.2⟩;rcases h with h | ⟨_,h⟩
    ·exact absurd h h1
    ·exact ih.1.2 h
def tagg (x:TmV):Value:= .agg #[.string ⟨x.1.toArray⟩,.slice x.2.1 x.2.2.1 x.2.2.2]
def cmpV:Value:= .func (.func 132) #[] #[]
def CmpP (x y:TmV) (w:World) (e:Ending) (w':World):Prop:=∃z:Int,e = .returned (.int .i64 z)/\(z<0↔x.1<y.1) /\ -1<=z/\z<=1/\Ext w w'
theorem Fs (x y:TmV) (w:World):Calls prog 132 #[tagg x,tagg y] w (CmpP x y w):=by
 have j:=Aa (fun W=>Tryz.strings_Compare ⟨x.1.toArray⟩ ⟨y.1.toArray⟩ W);unfold tagg
 go_in
 go_wp2_with fail;refine(j.out _).mono ?_;rintro e w1 ⟨rfl,rfl⟩;go_wp2_with fail;go_ret;have h:=MO x.1 y.1;exact⟨_,rfl,h.1,h.2.1,h.2.2,((Ext.refl w).alloc _).alloc _⟩
structure InsI (D E P X Q:List TmV) (i:Nat):Prop where
  hi:P.length<=i/\i<=P.length+X.length
  ex:∃S,E=P++(S++(X.drop (i - P.length)++Q))/\Std (X.take (i - P.length)) S
structure InsJ (E P S R:List TmV) (z:TmV) (k:Nat):Prop where
  hk:k<=S.length
  eq:E=P++(S.take k++z::(S.drop k++R))
  gt:∀y∈S.drop k,z.1<y.1
theorem InsJ.len {E P S R:List TmV} {z:TmV} (h:InsJ E P S R z k):E.length=P.length+S.length+1+R.length:=by
 rw[h.eq];simp only[List.length_append,List.length_cons,List.length_take,List.length_drop];have:=h.hk;omega
theorem InsJ.here {E P S R:List TmV} {z:TmV} (h:InsJ E P S R z k):E[P.length+k]? = some z:=by
 have:=h.hk;rw[h.eq,List.getElem?_append_right (by omega),List.getElem?_append_right (by rw[List.length_take];omega),List.length_take,show P.length+k - P.length - min k S.length=0 by omega];rfl
theorem InsJ.ahead {E P S R:List TmV} {z:TmV} (h:InsJ E P S R z (k+1)):∃y,E[P.length+k]? = some y/\S[k]? = some y:=by
 have:=h.hk;obtain⟨y,j⟩:∃y,S[k]? = some y:=⟨_,List.getElem?_eq_getElem (by omega)⟩
 refine⟨y,?_,j⟩;rw[h.eq,List.getElem?_append_right (by omega),List.getElem?_append_left (by rw[List.length_take];omega),show P.length+k - P.length=k by omega,List.getElem?_take,if_pos (by omega)];exact j
theorem Hr {α:Type} (y z:α) (B:List α):∀A:List α,((A++y::z::B).set (A.length+1) y).set A.length z=A++z::y::B
 | []=>rfl
 | a::A=>by simp[Hr y z B A]
theorem InsJ.next {E P S R:List TmV} {z y:TmV} (h:InsJ E P S R z (k+1)) (H:S[k]? = some y) (b:z.1<y.1):InsJ ((E.set (P.length+(k+1)) y).set (P.length+k) z) P S R z k:=by
 have hk:=h.hk;have hd:S.drop k=y::S.drop (k+1):=by
  obtain⟨j,Y⟩:=List.getElem?_eq_some_iff.1 H;rw[List.drop_eq_getElem_cons j,Y]
 have ht:S.take (k+1)=S.take k ++ [y]:=by rw[List.take_succ_eq_append_getElem (by omega)];congr 2;exact(List.getElem?_eq_some_iff.1 H).2
 refine⟨by omega,?_,?_⟩
 ·have j:(P++S.take k).length=P.length+k:=by rw[List.length_append,List.length_take];omega
  have:=Hr y z (S.drop (k+1)++R) (P++S.take k);rw[j]at this;rw[h.eq,ht,hd,show P++(S.take k ++ [y]++z::(S.drop (k+1)++R))=(P++S.take k)++y::z::(S.drop (k+1)++R)by simp,<-Nat.add_assoc,this];simp
 ·rw[hd];intro x a;rcases List.mem_cons.1 a with rfl | a
  ·exact b
  ·exact h.gt x a
theorem InsJ.start {D E P X Q S:List TmV} {z:TmV} (h:E=P++(S++(X.drop (i - P.length)++Q))) (H:Std (X.take (i - P.length)) S) (a:X[i - P.length]? = some z):InsJ E P S (X.drop (i - P.length+1)++Q) z S.length:=by
 obtain⟨b,j⟩:=List.getElem?_eq_some_iff.1 a;refine⟨Nat.le_refl _,?_,by rw[List.drop_length];nofun⟩;rw[h,List.take_length,List.drop_length,List.nil_append,List.drop_eq_getElem_cons b,j];rfl
theorem InsJ.done {D E P X Q S:List TmV} {z:TmV} (h:InsJ E P S (X.drop (i - P.length+1)++Q) z k) (b:Std (X.take (i - P.length)) S) (T:X[i - P.length]? = some z) (Y:P.length<=i) (a:k=0\/∃y,S[k - 1]? = some y/\¬ z.1<y.1):InsI D E P X Q (i+1):=by
 obtain⟨U,J⟩:=List.getElem?_eq_some_iff.1 T;refine⟨⟨by omega,by omega⟩,S.take k++z::S.drop k,?_,?_⟩
 ·rw[h.eq,show i+1 - P.length=i - P.length+1 by omega];simp only[List.append_assoc,List.cons_append]
 ·rw[show i+1 - P.length=i - P.length+1 by omega,List.take_succ_eq_append_getElem U,J];have h1:Std [z] [z]:=⟨List.pairwise_singleton ..,Stb.refl _⟩
  refine b.mrg h1 (IM b.1 (fun x j=>?_) h.gt);rcases a with rfl | ⟨y,O,H⟩
  ·cases j
  ·by_cases e:k=0
   ·rw[e]at j;cases j
   ·exact C6 (b.1.take_le O x (by rw[show k - 1+1=k by omega];exact j)) H
theorem HW (g c a b : Nat) (D P X Q : List TmV) (w : World) (h : TR w g D) (hD : D = P ++ (X ++ Q)) (ha : a = P.length) (hb : b = P.length + X.length) (l0 : D.length ≤ 1073741824) :
    Calls prog 201 #[.slice (some ⟨g, 0, none⟩) D.length c, .int .i64 (a : Int), .int .i64 (b : Int), cmpV] w fun e w' => e = .returned (.tuple #[]) ∧ ∃ S, Std X S ∧ TR w' g (P ++ (S ++ Q)) ∧ Chg (fun k => k = g) w w' := by
  obtain ⟨dl, I⟩ : ∃ n, n = D.length := ⟨_, rfl⟩
  have o3 : b ≤ dl := by rw [I, hD]; simp only [List.length_append]; omega
  rw [← I] at l0 ⊢
  have d3 : a ≤ 1073741824 := by omega
  have e3 : b ≤ 1073741824 := by omega
  unfold cmpV
  by_cases hX : X = []
  · have j3 : b = a := by rw [hb, ha, hX]; rfl
    subst j3
    have Y : TR w g (P ++ ([] ++ Q)) := by rw [← hX, ← hD]; exact h
    have j0 : Std X [] := by rw [hX]; exact ⟨List.Pairwise.nil, Stb.refl _⟩
    replace Y := Aa Y
    replace j0 := Aa j0
    clear hX hD ha hb h I
    go_in
    go_wp2_with fail
    go_loopw [8] (fun s8 wr => s8 = .int .i64 ((b : Int) + 1) ∧ wr = w) (fun _ _ => 0)
    case atStart => exact ⟨rfl, rfl⟩
    case round =>
      obtain ⟨rfl, rfl⟩ := hrel
      have p0 : ¬ ((b : Int) + 1 < (b : Int)) := by omega
      go_wp2_with fail
      go_end0
      exact ⟨rfl, [], j0.out, Y.out, Chg.refl _ _⟩
  · have i3 : 0 < X.length := List.length_pos_iff.2 hX
    have hI : InsI D D P X Q (a + 1) := ⟨⟨by omega, by omega⟩, X.take 1, by
      rw [show a + 1 - P.length = 1 by omega, ← List.append_assoc (X.take 1), List.take_append_drop]; exact hD, by
      rw [show a + 1 - P.length = 1 by omega]
      refine ⟨?_, Stb.refl _⟩
      cases X with
      | nil => exact absurd rfl hX
      | cons x X => exact List.pairwise_singleton ..⟩
    replace h := Aa h
    replace hD := Aa hD
    replace I := Aa I
    replace hI := Aa hI
    replace ha := Aa ha
    replace hb := Aa hb
    have G := fun x y W => Fs x y W
    unfold tagg at G
    replace G := Aa G
    clear hX
    go_in
    go_wp2_with fail
    go_loopw [8] (fun s8 wr => ∃ (i : Nat) (E : List TmV), s8 = .int .i64 (i : Int) ∧ i ≤ b ∧ Hid (a < i ∧ InsI D E P X Q i ∧ TR wr g E ∧ Chg (fun k => k = g) w wr)) (fun s8 _ => b - (intOf s8).toNat)
    case atStart => exact ⟨a + 1, D, by go_num, by have := hb.out; have := ha.out; omega, Aa ⟨by omega, hI.out, h.out, Chg.refl _ _⟩⟩
    case round =>
      obtain ⟨i, E, rfl, hi, hJ⟩ := hrel
      obtain ⟨wo, rfl⟩ := Ab wr
      by_cases h4 : i < b
      · obtain ⟨p3, ⟨hi1, S, hE, hS⟩, hT, hC⟩ := hJ.out
        have J := ha.out
        have k3 := hb.out
        obtain ⟨z, hz⟩ : ∃ z, X[i - P.length]? = some z := ⟨_, List.getElem?_eq_getElem (by omega)⟩
        have q3 : S.length = i - P.length := by rw [hS.2.len, List.length_take]; omega
        have k0 := InsJ.start (D := D) hE hS hz
        have H := fun (E' : List TmV) (k : Nat) (h : InsJ E' P S (X.drop (i - P.length + 1) ++ Q) z k) (l0 : k = 0 ∨ ∃ y, S[k - 1]? = some y ∧ ¬ z.1 < y.1) => h.done (D := D) hS hz hi1.1 l0
        have hlen := k0.len
        have m2 : E.length = dl := by rw [I.out, hD.out, hlen]; simp only [List.length_append, List.length_drop]; omega
        obtain ⟨R, hR⟩ := Ab (X.drop (i - P.length + 1) ++ Q)
        rw [← hR] at k0 H hlen
        have t0 : P.length + S.length + 1 + R.length = dl := by omega
        have e0 : i = a + S.length := by omega
        replace k0 := Aa k0
        replace H := Aa H
        replace hT := Aa hT
        replace hC := Aa hC
        replace t0 := Aa t0
        replace e0 := Aa e0
        replace J := Aa J
        clear hE hS hz hlen m2 hR hJ hI h k3 q3 hi1
        go_wp2_with fail
        go_loopw [9] (fun s9 wr => ∃ (j k : Nat) (E : List TmV), s9 = .int .i64 (j : Int) ∧ j ≤ i ∧ Hid (j = a + k ∧ InsJ E P S R z k ∧ TR wr g E ∧ Chg (fun k => k = g) w wr)) (fun s9 _ => (intOf s9).toNat)
        case atStart => exact ⟨i, S.length, E, rfl, Nat.le_refl _, Aa ⟨e0.out, k0.out, hT.out, hC.out⟩⟩
        case round =>
          obtain ⟨j, k, E, rfl, p4, T⟩ := hrel
          by_cases i0 : k = 0
          · have m3 : ¬ (a : Int) < (j : Int) := by have := T.out.1; omega
            have t3 : decide ((a : Int) < (j : Int)) = false := decide_eq_false m3
            have q4 : decide (a < j) = false := decide_eq_false (by omega)
            replace i0 := Aa i0
            go_wp2_with fail
            go_quiet (fail)
            go_wp2_with fail
            go_roundw
            case rel => exact ⟨i + 1, E, by go_num, by omega, Aa ⟨by omega, H.out E k T.out.2.1 (.inl i0.out), T.out.2.2.1.ext ((Ext.refl wr).drewN _), T.out.2.2.2.trans (Chg.of_ext ((Ext.refl wr).drewN _) _) fun _ _ h => h⟩⟩
            case measure => simp [intOf]; omega
          · obtain ⟨k1, rfl⟩ : ∃ k1, k = k1 + 1 := ⟨k - 1, by omega⟩
            obtain ⟨j1, Z⟩ : ∃ j1, j = j1 + 1 := ⟨j - 1, by have := T.out.1; omega⟩
            obtain ⟨y, hy, v0⟩ := T.out.2.1.ahead
            have U := T.out.2.1.here
            have O : j1 = a + k1 := by have := T.out.1; omega
            have n0 := T.out.2.2.1.at_ (i := j) (x := z) (by rw [Z, O, J.out]; exact U)
            have o0 := T.out.2.2.1.at_ (i := j1) (x := y) (by rw [O, J.out]; exact hy)
            have g0 : wr.cell? ⟨g, j * 2, none⟩ = some (.string ⟨z.1.toArray⟩) ∧ wr.cell? ⟨g, j * 2 + 1, none⟩ = some (.slice z.2.1 z.2.2.1 z.2.2.2) ∧ wr.cell? ⟨g, j1 * 2, none⟩ = some (.string ⟨y.1.toArray⟩) ∧ wr.cell? ⟨g, j1 * 2 + 1, none⟩ = some (.slice y.2.1 y.2.2.1 y.2.2.2) ∧ Ext wr wr := ⟨n0.1, n0.2, o0.1, o0.2, Ext.refl wr⟩
            have m0 : ∀ w0 w1 : World, (w0.cell? ⟨g, j * 2, none⟩ = some (.string ⟨z.1.toArray⟩) ∧ w0.cell? ⟨g, j * 2 + 1, none⟩ = some (.slice z.2.1 z.2.2.1 z.2.2.2) ∧ w0.cell? ⟨g, j1 * 2, none⟩ = some (.string ⟨y.1.toArray⟩) ∧ w0.cell? ⟨g, j1 * 2 + 1, none⟩ = some (.slice y.2.1 y.2.2.1 y.2.2.2) ∧ Ext wr w0) → Ext w0 w1 → (w1.cell? ⟨g, j * 2, none⟩ = some (.string ⟨z.1.toArray⟩) ∧ w1.cell? ⟨g, j * 2 + 1, none⟩ = some (.slice z.2.1 z.2.2.1 z.2.2.2) ∧ w1.cell? ⟨g, j1 * 2, none⟩ = some (.string ⟨y.1.toArray⟩) ∧ w1.cell? ⟨g, j1 * 2 + 1, none⟩ = some (.slice y.2.1 y.2.2.1 y.2.2.2) ∧ Ext wr w1) := fun w0 w1 h1 h3 => ⟨h3.cell h1.1, h3.cell h1.2.1, h3.cell h1.2.2.1, h3.cell h1.2.2.2.1, h1.2.2.2.2.trans h3⟩
            have d0 := m0 _ _ g0 (Ext.refl wr).drew
            have k4 : j < dl := by have := t0.out; have := T.out.2.1.hk; have := J.out; omega
            have t3 : decide (a < j) = true := decide_eq_true (by omega)
            have b1 : (j : Int) < (dl : Int) := by omega
            have b2 : (j1 : Int) < (dl : Int) := by omega
            have b3 : (0 : Int) ≤ (j : Int) - 1 := by omega
            have b4 : IntKind.i64.wrap ((j : Int) - 1) = (j1 : Int) := by rw [IntWalk.i64_in _ (by omega)]; omega
            replace Z := Aa Z
            have fr := T.out.2.2.1.free
            replace g0 := Aa g0
            replace d0 := Aa d0
            replace m0 := Aa m0
            replace hy := Aa hy
            replace v0 := Aa v0
            replace U := Aa U
            replace O := Aa O
            clear n0 o0
            go_wp2_with fail
            go_region_held3 (fun x => x.cell? ⟨g, j * 2, none⟩ = some (.string ⟨z.1.toArray⟩) ∧ x.cell? ⟨g, j * 2 + 1, none⟩ = some (.slice z.2.1 z.2.2.1 z.2.2.2) ∧ x.cell? ⟨g, j1 * 2, none⟩ = some (.string ⟨y.1.toArray⟩) ∧ x.cell? ⟨g, j1 * 2 + 1, none⟩ = some (.slice y.2.1 y.2.2.1 y.2.2.2) ∧ Ext wr x) (first | exact d0.out | exact g0.out | exact ‹_› | exact m0.out _ _ ‹_› ‹_›) (first
              | (go_at_call 132; refine (G.out z y _).mono ?_; rintro e w5 ⟨zc, rfl, h0, j4, g4, a2⟩))
            have i1 := (Ext.refl wr).drew.trans a2
            have q0 := T.out.2.2.1.ext i1
            have e1 := T.out.2.2.2.trans (Chg.of_ext i1 (fun k => k = g)) fun _ _ h => h
            by_cases p0 : z.1 < y.1
            · have r0 := h0.2 p0
              have y3 : decide (zc < 0) = true := decide_eq_true r0
              have q1 := q0.at_ (i := j) (x := z) (by rw [Z.out, O.out, J.out]; exact U.out)
              have q2 := q0.at_ (i := j1) (x := y) (by rw [O.out, J.out]; exact hy.out)
              have x0 := q1.1
              have x1 := q1.2
              have y0 := q2.1
              have y1 := q2.2
              have fr5 := q0.free
              have o1 : j1 < j := by have := Z.out; omega
              have o2 : j ≤ j1 + 1 := by have := Z.out; omega
              replace h0 := Aa h0
              clear q1 q2 fr
              go_wp2_with fail
              refine AE (fun K T => ?_)
              go_wp2_with fail
              refine ⟨by kernel_rfl, ?_⟩
              go_wp2_with fail
              have i2 : P.length + (k1 + 1) = j := by have := Z.out; have := O.out; have := J.out; omega
              have f2 : P.length + k1 = j1 := by have := O.out; have := J.out; omega
              have hN := T.out.2.1.next v0.out p0
              rw [i2, f2] at hN
              have m2 := T.out.2.1.len
              have f3 := t0.out
              have h1 := q0.put (i := j) (by omega) y
              have h2 := h1.put (i := j1) (by rw [List.length_set]; omega) z
              have hc := (e1.trans (Cf w5 g j y) fun _ _ h => h).trans (Cf _ g j1 z) fun _ _ h => h
              go_roundw
              case rel => exact ⟨j1, k1, _, rfl, by omega, Aa ⟨O.out, hN, h2.drew, hc.trans (Chg.of_ext (Ext.refl _).drew _) fun _ _ h => h⟩⟩
              case measure => simp [intOf]; omega
            · have r0 : ¬ zc < 0 := fun h => p0 (h0.1 h)
              have y3 : decide (zc < 0) = false := decide_eq_false r0
              have Y := H.out E (k1 + 1) T.out.2.1 (.inr ⟨y, v0.out, p0⟩)
              replace h0 := Aa h0
              replace Y := Aa Y
              go_wp2_with fail
              go_roundw
              case rel => exact ⟨i + 1, E, by go_num, by omega, Aa ⟨by omega, Y.out, q0, e1⟩⟩
              case measure => simp [intOf]; omega
      · go_wp2_with fail
        go_end0
        obtain ⟨p3, ⟨hi1, S, hE, hS⟩, hT, hC⟩ := hJ.out
        have j2 : i - P.length = X.length := by have := hb.out; omega
        rw [j2, List.take_length] at hS
        rw [j2, List.drop_length, List.nil_append] at hE
        exact ⟨rfl, S, hS, hE ▸ hT, hC⟩
theorem I6 {α:Type} (y z:α) (B:List α):∀A:List α,((A++z::y::B).set A.length y).set (A.length+1) z=A++y::z::B
 | []=>rfl
 | a::A=>by simp[I6 y z B A]
theorem Hp {α:Type} {P A R:List α} (h:i<A.length):(P++(A++R))[P.length+i]? = A[i]? :=by
 rw[List.getElem?_append_right (by omega),show P.length+i - P.length=i by omega,List.getElem?_append_left h]
theorem FP {α:Type} {P A B R:List α} (h:i<B.length):(P++(A++(B++R)))[P.length+A.length+i]? = B[i]? :=by
 rw[List.getElem?_append_right (by omega),List.getElem?_append_right (by omega),show P.length+A.length+i - P.length - A.length=i by omega,List.getElem?_append_left h]
def SymP (g:Nat) (P A B Q:List TmV) (w:World) (e:Ending) (w':World):Prop:=e = .returned (.tuple #[])/\∃M,Mrg A B M/\TR w' g (P++(M++Q))/\Chg (fun k=>k=g) w w'
theorem Qc (g c a m b:Nat) (D P B Q:List TmV) (z:TmV) (w:World) (G:TR w g D) (hD:D=P++([z]++(B++Q))) (ha:a=P.length) (hm:m=a+1) (hb:b=m+B.length) (hB:Srt B) (i2:D.length<=1073741824) :
 Calls prog 202 #[.slice (some ⟨g,0,none⟩) D.length c,.int .i64 (a:Int),.int .i64 (m:Int),.int .i64 (b:Int),cmpV] w (SymP g P [z] B Q w):=by
 obtain⟨dl,I⟩:∃n,n=D.length:=⟨_,rfl⟩
 have y3:b<=dl:=by rw[I,hD];simp only[List.length_append,List.length_singleton];omega
 rw[<-I]at i2 ⊢;have hz:D[a]? = some z:=by rw[hD,ha];exact Hp (P:=P) (A:= [z]) (i:=0) (by simp)
 have hy:∀i,i<B.length->D[m+i]? = B[i]? :=fun i hi=>by rw[hD,hm,ha];exact FP (P:=P) (A:= [z]) hi
 have e3:(m:Int) - (a:Int)=1:=by omega
 have hab:a<b:=by omega
 have q3:m<=b:=by omega
 have J:=fun x y W=>Fs x y W;unfold tagg at J;unfold cmpV;replace J:=Aa J;replace G:=Aa G;replace hD:=Aa hD;replace I:=Aa I;replace hz:=Aa hz;replace hy:=Aa hy;replace hB:=Aa hB;replace ha:=Aa ha;replace hm:=Aa hm;replace hb:=Aa hb
 go_in
 go_wp2_with fail
 go_loopw [10,11] (fun s10 s11 wr=>∃i j:Nat,s10 = .int .i64 (i:Int)/\s11 = .int .i64 (j:Int)/\m<=i/\i<=j/\j<=b/\Hid ((∀y∈B.take (i - m),y.1<z.1)/\(∀y∈B.drop (j - m),¬ y.1<z.1)/\Ext w wr)) (fun s10 s11 _=>(intOf s11).toNat - (intOf s10).toNat)
 case atStart=>exact⟨m,b,rfl,rfl,Nat.le_refl _,q3,Nat.le_refl _,Aa ⟨by rw[Nat.sub_self];nofun,by rw[show b - m=B.length by have:=hb.out;omega,List.drop_length];nofun,Ext.refl _⟩⟩
 case round =>
  obtain⟨i,j,rfl,rfl,p3,b3,d2,hI⟩:=hrel;by_cases o2:i<j
  ·obtain⟨h,hh⟩:∃h:Nat,((i:Int)+(j:Int)) / 2=(h:Int):=⟨(i+j) / 2,by omega⟩
   have a2:i<=h:=by omega
   have z3:h<j:=by omega
   obtain⟨y,H⟩:∃y,B[h - m]? = some y:=⟨_,List.getElem?_eq_getElem (by have:=hb.out;omega)⟩
   have o0:D[h]? = some y:=by have:=hy.out (h - m) (by have:=hb.out;omega);rw[show m+(h - m)=h by omega]at this;rw[this];exact H
   have f0:=(G.out.ext hI.out.2.2).at_ o0;have i0:=(G.out.ext hI.out.2.2).at_ hz.out;have g0:wr.cell? ⟨g,h*2,none⟩=some (.string ⟨y.1.toArray⟩)/\wr.cell? ⟨g,h*2+1,none⟩=some (.slice y.2.1 y.2.2.1 y.2.2.2)/\wr.cell? ⟨g,a*2,none⟩=some (.string ⟨z.1.toArray⟩)/\wr.cell? ⟨g,a*2+1,none⟩=some (.slice z.2.1 z.2.2.1 z.2.2.2)/\Ext wr wr:=⟨f0.1,f0.2,i0.1,i0.2,Ext.refl wr⟩
   have t0:∀w0 w1:World,(w0.cell? ⟨g,h*2,none⟩=some (.string ⟨y.1.toArray⟩)/\w0.cell? ⟨g,h*2+1,none⟩=some (.slice y.2.1 y.2.2.1 y.2.2.2)/\w0.cell? ⟨g,a*2,none⟩=some (.string ⟨z.1.toArray⟩)/\w0.cell? ⟨g,a*2+1,none⟩=some (.slice z.2.1 z.2.2.1 z.2.2.2)/\Ext wr w0)->Ext w0 w1->(w1.cell? ⟨g,h*2,none⟩=some (.string ⟨y.1.toArray⟩)/\w1.cell? ⟨g,h*2+1,none⟩=some (.slice y.2.1 y.2.2.1 y.2.2.2)/\w1.cell? ⟨g,a*2,none⟩=some (.string ⟨z.1.toArray⟩)/\w1.cell? ⟨g,a*2+1,none⟩=some (.slice z.2.1 z.2.2.1 z.2.2.2)/\Ext wr w1):=fun w0 w1 h1 h3=>⟨h3.cell h1.1,h3.cell h1.2.1,h3.cell h1.2.2.1,h3.cell h1.2.2.2.1,h1.2.2.2.2.trans h3⟩
   have d0:=t0 _ _ g0 (Ext.refl wr).drew;have b1:(h:Int)<(dl:Int):=by omega
   have b2:(a:Int)<(dl:Int):=by omega
   replace g0:=Aa g0;replace d0:=Aa d0;replace t0:=Aa t0;replace H:=Aa H;replace o0:=Aa o0;replace hh:=Aa hh;clear f0 i0;go_upto_region 5 with (fail)
   rw[hh.out]
   go_region_held3 (fun x=>x.cell? ⟨g,h*2,none⟩=some (.string ⟨y.1.toArray⟩)/\x.cell? ⟨g,h*2+1,none⟩=some (.slice y.2.1 y.2.2.1 y.2.2.2)/\x.cell? ⟨g,a*2,none⟩=some (.string ⟨z.1.toArray⟩)/\x.cell? ⟨g,a*2+1,none⟩=some (.slice z.2.1 z.2.2.1 z.2.2.2)/\Ext wr x) (first | exact d0.out | exact g0.out | exact ‹_› | exact t0.out _ _ ‹_› ‹_›) (first
    | (go_at_call 132;refine(J.out y z _).mono ?_;rintro e w5 ⟨zc,rfl,Y,b0,f3,k2⟩))
   have a1:=hI.out.2.2.trans ((Ext.refl wr).drew.trans k2);by_cases q0:y.1<z.1
   ·have t3:decide (zc<0)=true:=decide_eq_true (Y.2 q0);have i1:=Y.2 q0;replace Y:=Aa Y;go_wp2_with fail;go_roundw
    case rel=>exact⟨h+1,j,by go_num,rfl,by omega,by omega,d2,Aa ⟨fun x hx=>PH (hB.out.take_le H.out x (by rw[show h - m+1=h+1 - m by omega];exact hx)) q0,hI.out.2.1,a1⟩⟩
    case measure=>simp[intOf];omega
   ·have i1:¬ zc<0:=fun hc=>q0 (Y.1 hc);have t3:decide (zc<0)=false:=decide_eq_false i1;replace Y:=Aa Y;go_wp2_with fail;go_roundw
    case rel=>exact⟨i,h,rfl,rfl,p3,a2,by omega,Aa ⟨hI.out.1,fun x hx=>C6 q0 (hB.out.drop_ge H.out x hx),a1⟩⟩
    case measure=>simp[intOf];omega
  ·obtain rfl:i=j:=by omega
   have a3:i<=dl:=by omega
   have e1:(i:Int) - 1=((i - 1:Nat):Int):=by have:=hm.out;omega
   have hM:Mrg [z] B (B.take (i - m)++z::B.drop (i - m)):=PI hB.out hI.out.1 hI.out.2.1;have hT:=G.out.ext hI.out.2.2;have hC:=Chg.of_ext hI.out.2.2 (fun k=>k=g);have e0:=hm.out;obtain⟨wo,rfl⟩:=Ab wr;replace hT:=Aa hT;replace hC:=Aa hC;replace hM:=Aa hM;replace e1:=Aa e1;replace e0:=Aa e0;go_wp2_with fail
   go_loopw [13] (fun s13 wr=>∃(k:Nat) (E:List TmV),s13 = .int .i64 (k:Int)/\a<=k/\k+1<=i/\Hid (E=P++(B.take (k - a)++z::(B.drop (k - a)++Q))/\TR wr g E/\Chg (fun k=>k=g) w wr)) (fun s13 _=>i - (intOf s13).toNat)
   case atStart=>exact⟨a,D,rfl,Nat.le_refl _,by have:=e0.out;omega,Aa ⟨by rw[Nat.sub_self];exact hD.out,hT.out,hC.out⟩⟩
   case round =>
    obtain⟨k,E,rfl,x3,d3,T⟩:=hrel;have j0:=ha.out;have v0:=hm.out;have m0:=hb.out;by_cases o2:k+1<i
    ·have f1:(k:Int)<(i:Int) - 1:=by omega
     obtain⟨y,H⟩:∃y,B[k - a]? = some y:=⟨_,List.getElem?_eq_getElem (by omega)⟩
     have hd:B.drop (k - a)=y::B.drop (k - a+1):=by
      obtain⟨hl,he⟩:=List.getElem?_eq_some_iff.1 H;rw[List.drop_eq_getElem_cons hl,he]
     have l0:B.take (k - a+1)=B.take (k - a) ++ [y]:=by
      obtain⟨hl,he⟩:=List.getElem?_eq_some_iff.1 H;rw[List.take_succ_eq_append_getElem hl,he]
     have Z:(P++B.take (k - a)).length=k:=by rw[List.length_append,List.length_take];omega
     have O:E=(P++B.take (k - a))++z::y::(B.drop (k - a+1)++Q):=by rw[T.out.1,hd];simp
     have p0:E.length=dl:=by rw[T.out.1,I.out,hD.out];simp only[List.length_append,List.length_cons,List.length_take,List.length_drop,List.length_nil];omega
     have b0:E[k]? = some z:=by rw[O,List.getElem?_append_right (by omega),Z,Nat.sub_self];rfl
     have n0:E[k+1]? = some y:=by rw[O,List.getElem?_append_right (by omega),Z,show k+1 - k=1 by omega];rfl
     have U:=I6 y z (B.drop (k - a+1)++Q) (P++B.take (k - a));rw[Z,<-O]at U;have q1:=T.out.2.1.at_ b0;have q2:=T.out.2.1.at_ n0;have x0:=q1.1;have x1:=q1.2;have y0:=q2.1;have y1:=q2.2;have fr:=T.out.2.1.free;replace U:=Aa U;replace O:=Aa O;replace p0:=Aa p0;replace hd:=Aa hd;replace l0:=Aa l0;replace Z:=Aa Z;replace b0:=Aa b0;replace n0:=Aa n0;replace H:=Aa H;replace j0:=Aa j0;replace v0:=Aa v0;replace m0:=Aa m0;clear q1 q2;go_wp2_with fail;refine AE (fun K T=>?_);go_wp2_with fail;refine⟨by kernel_rfl,?_⟩;go_wp2_with fail;have h1:=T.out.2.1.put (i:=k) (by have:=p0.out;omega) y;have h2:=h1.put (i:=k+1) (by rw[List.length_set];have:=p0.out;omega) z;have hc:=(T.out.2.2.trans (Cf wr g k y) fun _ _ h=>h).trans (Cf _ g (k+1) z) fun _ _ h=>h;rw[U.out]at h2;go_roundw
     case rel=>exact⟨k+1,_,by go_num,by omega,by omega,Aa ⟨by rw[show k+1 - a=k - a+1 by omega,l0.out];simp,h2.drew,hc.trans (Chg.of_ext (Ext.refl _).drew _) fun _ _ h=>h⟩⟩
     case measure=>simp[intOf];omega
    ·have f1:¬ (k:Int)<(i:Int) - 1:=by omega
     have h0:SymP g P [z] B Q w (.returned (.tuple #[])) wr:=by
      refine⟨rfl,_,hM.out,?_,T.out.2.2⟩;have he:=T.out.1;rw[show k - a=i - m by omega]at he;rw[show P++(B.take (i - m)++z::B.drop (i - m)++Q)=E by rw[he];simp];exact T.out.2.1
     replace h0:=Aa h0;replace j0:=Aa j0;replace v0:=Aa v0;replace m0:=Aa m0;go_wp2_with fail
     go_end0
     exact h0.out
theorem OL (g c a m b:Nat) (D P A Q:List TmV) (z:TmV) (w:World) (h0:TR w g D) (hD:D=P++(A++([z]++Q))) (ha:a=P.length) (hm:m=a+A.length) (hb:b=m+1) (hA:Srt A) (d3:1<A.length) (p3:D.length<=1073741824) :
 Calls prog 202 #[.slice (some ⟨g,0,none⟩) D.length c,.int .i64 (a:Int),.int .i64 (m:Int),.int .i64 (b:Int),cmpV] w (SymP g P A [z] Q w):=by
 obtain⟨dl,q0⟩:∃n,n=D.length:=⟨_,rfl⟩
 have f3:b<=dl:=by rw[q0,hD];simp only[List.length_append,List.length_singleton];omega
 rw[<-q0]at p3 ⊢;have hz:D[m]? = some z:=by rw[hD,hm,ha];exact FP (P:=P) (B:= [z]) (i:=0) (by simp)
 have hy:∀i,i<A.length->D[a+i]? = A[i]? :=fun i hi=>by rw[hD,ha];exact Hp hi
 have j3:¬ (m:Int) - (a:Int)=1:=by omega
 have b3:((m:Int) - (a:Int)==1)=false:=beq_eq_false_iff_ne.2 j3;have i3:(b:Int) - (m:Int)=1:=by omega
 have e3:a<m:=by omega
 have k4:m<b:=by omega
 have Y:=fun x y W=>Fs x y W;unfold tagg at Y;unfold cmpV;replace Y:=Aa Y;replace h0:=Aa h0;replace hD:=Aa hD;replace q0:=Aa q0;replace hz:=Aa hz;replace hy:=Aa hy;replace hA:=Aa hA;replace ha:=Aa ha;replace hm:=Aa hm;replace hb:=Aa hb
 go_in
 go_wp2_with fail
 go_loopw [14,15] (fun s14 s15 wr=>∃i j:Nat,s14 = .int .i64 (i:Int)/\s15 = .int .i64 (j:Int)/\a<=i/\i<=j/\j<=m/\Hid ((∀x∈A.take (i - a),¬ z.1<x.1)/\(∀x∈A.drop (j - a),z.1<x.1)/\Ext w wr)) (fun s14 s15 _=>(intOf s15).toNat - (intOf s14).toNat)
 case atStart=>exact⟨a,m,rfl,rfl,Nat.le_refl _,by omega,Nat.le_refl _,Aa ⟨by rw[Nat.sub_self];nofun,by rw[show m - a=A.length by have:=hm.out;omega,List.drop_length];nofun,Ext.refl _⟩⟩
 case round =>
  obtain⟨i,j,rfl,rfl,y2,h4,i2,hI⟩:=hrel;by_cases k3:i<j
  ·obtain⟨h,hh⟩:∃h:Nat,((i:Int)+(j:Int)) / 2=(h:Int):=⟨(i+j) / 2,by omega⟩
   have f2:i<=h:=by omega
   have r3:h<j:=by omega
   obtain⟨y,H⟩:∃y,A[h - a]? = some y:=⟨_,List.getElem?_eq_getElem (by have:=hm.out;omega)⟩
   have a1:D[h]? = some y:=by have:=hy.out (h - a) (by have:=hm.out;omega);rw[show a+(h - a)=h by omega]at this;rw[this];exact H
   have o0:=(h0.out.ext hI.out.2.2).at_ hz.out;have r0:=(h0.out.ext hI.out.2.2).at_ a1;have I:wr.cell? ⟨g,m*2,none⟩=some (.string ⟨z.1.toArray⟩)/\wr.cell? ⟨g,m*2+1,none⟩=some (.slice z.2.1 z.2.2.1 z.2.2.2)/\wr.cell? ⟨g,h*2,none⟩=some (.string ⟨y.1.toArray⟩)/\wr.cell? ⟨g,h*2+1,none⟩=some (.slice y.2.1 y.2.2.1 y.2.2.2)/\Ext wr wr:=⟨o0.1,o0.2,r0.1,r0.2,Ext.refl wr⟩
   have k0:∀w0 w1:World,(w0.cell? ⟨g,m*2,none⟩=some (.string ⟨z.1.toArray⟩)/\w0.cell? ⟨g,m*2+1,none⟩=some (.slice z.2.1 z.2.2.1 z.2.2.2)/\w0.cell? ⟨g,h*2,none⟩=some (.string ⟨y.1.toArray⟩)/\w0.cell? ⟨g,h*2+1,none⟩=some (.slice y.2.1 y.2.2.1 y.2.2.2)/\Ext wr w0)->Ext w0 w1->(w1.cell? ⟨g,m*2,none⟩=some (.string ⟨z.1.toArray⟩)/\w1.cell? ⟨g,m*2+1,none⟩=some (.slice z.2.1 z.2.2.1 z.2.2.2)/\w1.cell? ⟨g,h*2,none⟩=some (.string ⟨y.1.toArray⟩)/\w1.cell? ⟨g,h*2+1,none⟩=some (.slice y.2.1 y.2.2.1 y.2.2.2)/\Ext wr w1):=fun w0 w1 h1 h3=>⟨h3.cell h1.1,h3.cell h1.2.1,h3.cell h1.2.2.1,h3.cell h1.2.2.2.1,h1.2.2.2.2.trans h3⟩
   have b0:=k0 _ _ I (Ext.refl wr).drew;have b1:(h:Int)<(dl:Int):=by omega
   have b2:(m:Int)<(dl:Int):=by omega
   replace I:=Aa I;replace b0:=Aa b0;replace k0:=Aa k0;replace H:=Aa H;replace a1:=Aa a1;replace hh:=Aa hh;clear o0 r0;go_upto_region 17 with (fail)
   rw[hh.out];by_cases d0:z.1<y.1
   ·have j0:=Aa d0
    go_region_held3 (fun x=>x.cell? ⟨g,m*2,none⟩=some (.string ⟨z.1.toArray⟩)/\x.cell? ⟨g,m*2+1,none⟩=some (.slice z.2.1 z.2.2.1 z.2.2.2)/\x.cell? ⟨g,h*2,none⟩=some (.string ⟨y.1.toArray⟩)/\x.cell? ⟨g,h*2+1,none⟩=some (.slice y.2.1 y.2.2.1 y.2.2.2)/\Ext wr x) (first | exact b0.out | exact I.out | exact ‹_› | exact k0.out _ _ ‹_› ‹_›) (first
     | (go_at_call 132;refine(Y.out z y _).mono ?_;rintro e w5 ⟨zc,rfl,U,g0,y3,i0⟩;have d1:=U.2 j0.out;have z3:decide (zc<0)=true:=decide_eq_true d1;replace U:=Aa U))
    have l0:=hI.out.2.2.trans ((Ext.refl wr).drew.trans i0);go_wp2_with fail;go_roundw
    case rel=>exact⟨i,h,rfl,rfl,y2,f2,by omega,Aa ⟨hI.out.1,fun x hx=>Py d0 (hA.out.drop_ge H.out x hx),l0⟩⟩
    case measure=>simp[intOf];omega
   ·have j0:=Aa d0
    go_region_held3 (fun x=>x.cell? ⟨g,m*2,none⟩=some (.string ⟨z.1.toArray⟩)/\x.cell? ⟨g,m*2+1,none⟩=some (.slice z.2.1 z.2.2.1 z.2.2.2)/\x.cell? ⟨g,h*2,none⟩=some (.string ⟨y.1.toArray⟩)/\x.cell? ⟨g,h*2+1,none⟩=some (.slice y.2.1 y.2.2.1 y.2.2.2)/\Ext wr x) (first | exact b0.out | exact I.out | exact ‹_› | exact k0.out _ _ ‹_› ‹_›) (first
     | (go_at_call 132;refine(Y.out z y _).mono ?_;rintro e w5 ⟨zc,rfl,U,g0,y3,i0⟩;have d1:¬ zc<0:=fun hc=>j0.out (U.1 hc);have z3:decide (zc<0)=false:=decide_eq_false d1;replace U:=Aa U))
    have l0:=hI.out.2.2.trans ((Ext.refl wr).drew.trans i0);go_wp2_with fail;go_roundw
    case rel=>exact⟨h+1,j,by go_num,rfl,by omega,by omega,i2,Aa ⟨fun x hx=>C6 (hA.out.take_le H.out x (by rw[show h - a+1=h+1 - a by omega];exact hx)) d0,hI.out.2.1,l0⟩⟩
    case measure=>simp[intOf];omega
  ·obtain rfl:i=j:=by omega
   have hM:Mrg A [z] (A.take (i - a)++z::A.drop (i - a)):=IM hA.out hI.out.1 hI.out.2.1;have hT:=h0.out.ext hI.out.2.2;have hC:=Chg.of_ext hI.out.2.2 (fun k=>k=g);have J:=hm.out;obtain⟨wo,rfl⟩:=Ab wr;replace hT:=Aa hT;replace hC:=Aa hC;replace hM:=Aa hM;replace J:=Aa J;go_wp2_with fail
   go_loopw [17] (fun s17 wr=>∃(k:Nat) (E:List TmV),s17 = .int .i64 (k:Int)/\i<=k/\k<=m/\Hid (E=P++(A.take (k - a)++z::(A.drop (k - a)++Q))/\TR wr g E/\Chg (fun k=>k=g) w wr)) (fun s17 _=>(intOf s17).toNat)
   case atStart=>exact⟨m,D,rfl,by omega,Nat.le_refl _,Aa ⟨by rw[show m - a=A.length by have:=J.out;omega,List.take_length,List.drop_length];exact hD.out,hT.out,hC.out⟩⟩
   case round =>
    obtain⟨k,E,rfl,q4,p4,Z⟩:=hrel;have v0:=ha.out;have J:=hm.out;have c0:=hb.out;by_cases k3:i<k
    ·obtain⟨k1,n0⟩:∃k1,k=k1+1:=⟨k - 1,by omega⟩
     obtain⟨y,H⟩:∃y,A[k1 - a]? = some y:=⟨_,List.getElem?_eq_getElem (by omega)⟩
     have hd:A.drop (k1 - a)=y::A.drop (k - a):=by
      obtain⟨hl,he⟩:=List.getElem?_eq_some_iff.1 H;rw[List.drop_eq_getElem_cons hl,he,show k1 - a+1=k - a by omega]
     have j1:A.take (k - a)=A.take (k1 - a) ++ [y]:=by
      obtain⟨hl,he⟩:=List.getElem?_eq_some_iff.1 H;rw[show k - a=k1 - a+1 by omega,List.take_succ_eq_append_getElem hl,he]
     have G:(P++A.take (k1 - a)).length=k1:=by rw[List.length_append,List.length_take];omega
     have T:E=(P++A.take (k1 - a))++y::z::(A.drop (k - a)++Q):=by rw[Z.out.1,j1];simp
     have t0:E.length=dl:=by rw[Z.out.1,q0.out,hD.out];simp only[List.length_append,List.length_cons,List.length_take,List.length_drop,List.length_nil];omega
     have g0:E[k]? = some z:=by rw[T,List.getElem?_append_right (by omega),G,show k - k1=1 by omega];rfl
     have m1:E[k1]? = some y:=by rw[T,List.getElem?_append_right (by omega),G,Nat.sub_self];rfl
     have O:=Hr y z (A.drop (k - a)++Q) (P++A.take (k1 - a));rw[G,<-T,<-n0]at O;have q1:=Z.out.2.1.at_ g0;have q2:=Z.out.2.1.at_ m1;have x0:=q1.1;have x1:=q1.2;have y0:=q2.1;have y1:=q2.2;have fr:=Z.out.2.1.free;have o1:k1<k:=by omega
     have o2:k<=k1+1:=by omega
     have o3:i<=k1:=by omega
     have b4:IntKind.i64.wrap ((k:Int) - 1)=(k1:Int):=by rw[IntWalk.i64_in _ (by omega)];omega
     have b1:(k:Int)<(dl:Int):=by omega
     have b2:(k1:Int)<(dl:Int):=by omega
     replace O:=Aa O;replace T:=Aa T;replace t0:=Aa t0;replace hd:=Aa hd;replace j1:=Aa j1;replace G:=Aa G;replace g0:=Aa g0;replace m1:=Aa m1;replace H:=Aa H;replace v0:=Aa v0;replace J:=Aa J;replace c0:=Aa c0;replace n0:=Aa n0;clear q1 q2;go_wp2_with fail;refine AE (fun K Z=>?_);go_wp2_with fail;refine⟨by kernel_rfl,?_⟩;go_wp2_with fail;have h1:=Z.out.2.1.put (i:=k) (by have:=t0.out;omega) y;have h2:=h1.put (i:=k1) (by rw[List.length_set];have:=t0.out;omega) z;have hc:=(Z.out.2.2.trans (Cf wr g k y) fun _ _ h=>h).trans (Cf _ g k1 z) fun _ _ h=>h;rw[O.out]at h2;go_roundw
     case rel=>exact⟨k1,_,rfl,o3,by omega,Aa ⟨by rw[hd.out];simp,h2.drew,hc.trans (Chg.of_ext (Ext.refl _).drew _) fun _ _ h=>h⟩⟩
     case measure=>simp[intOf];omega
    ·have a3:¬ (i:Int)<(k:Int):=by omega
     obtain rfl:i=k:=by omega
     have p0:SymP g P A [z] Q w (.returned (.tuple #[])) wr:=by
      refine⟨rfl,_,hM.out,?_,Z.out.2.2⟩;have he:=Z.out.1;rw[show P++(A.take (i - a)++z::A.drop (i - a)++Q)=E by rw[he];simp];exact Z.out.2.1
     replace p0:=Aa p0;replace v0:=Aa v0;replace J:=Aa J;replace c0:=Aa c0;go_wp2_with fail
     go_end0
     exact p0.out
end
end Go.Proofs.YtfifdilapbeiiaaGreat
