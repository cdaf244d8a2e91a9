/- Texts of one proof, joined. -/
import Derived.Test.YtkdcnhnaiknaaaaGreatPB02
import Derived.Test.YtkdcnhnaiknaaaaGreatPB04
import Derived.Test.YtkdcnhnaiknaaaaGreatPB07
import Derived.Test.YtkdcnhnaiknaaaaGreatPB08
import Derived.Deep.RegionHeld3
import Derived.Test.YtkdcnhnaiknaaaaGreatPB03
set_option linter.unusedSimpArgs false
set_option linter.unusedVariables false
set_option maxRecDepth 100000
set_option maxHeartbeats 16000000
namespace Go.Proofs.YtkdcnhnaiknaaaaGreat
section
open Go.RowKit
theorem ZK6 (L:List UInt8) (A:Option Addr) (c base r:Nat) (w:World) (hb:Buf w base 5 A L.length c (L.map B8)) (hL:L.length<=4000000000) (t0:base<=w.heap.size) (q0:badR r=false) (h1:r<128) :
 Calls Tryz.prog 187 #[.slice A L.length c,.int .i64 (r:Int)] w (PutB w base (L++encR r)):=by
 obtain⟨n,hn⟩:∃n,n=L.length:=⟨_,rfl⟩
 rw[<-hn]at hb hL ⊢;have k0:r<=1114111:=by
  unfold badR at q0;simp only[Bool.or_eq_false_iff,decide_eq_false_iff_not]at q0;omega
 have h0:encR r = [u8 r]:=by unfold encR encO;rw[q0,if_neg (by simp),if_pos h1]
 rw[h0];obtain⟨z,hz⟩:∃z:Int,z=(r:Int):=⟨_,rfl⟩
 rw[<-hz];have g0:0<=z:=by omega
 have gh:z<=1114111:=by omega
 have g1:z<128:=by omega
 obtain⟨l,hl⟩:∃l,l = [u8 r]:=⟨_,rfl⟩
 have p0 : [Value.int .u8 z]=l.map B8:=by
  rw[hl,hz];simp only[List.map_cons,List.map_nil,ZAY (show r<256 by omega)]
  try rfl
 rw[<-hl];replace hl:=ZA hl;replace p0:=ZA p0;replace k0:=ZA k0;replace hz:=ZA hz;replace h1:=ZA h1;replace hn:=ZA hn;replace hb:=ZA hb;replace h0:=ZA h0;replace q0:=ZA q0;go_enter Tryz.func187,Tryz.ntmps187;go_wp2_with (at_builtin;refine ZM ZV hb.out (.tmp 25) (.tmp 28) rfl rfl rfl rfl (ZS rfl) (by simp;omega) t0 (fun A3 c3 w4 m0 j0=>?_));go_ret;exact ZAU hn.out p0.out m0 j0
theorem ZJ1 (L:List UInt8) (A:Option Addr) (c base r:Nat) (w:World) (hb:Buf w base 5 A L.length c (L.map B8)) (hL:L.length<=4000000000) (t0:base<=w.heap.size) (q0:badR r=false) (h1:¬ r<128) (h2:r<2048) :
 Calls Tryz.prog 187 #[.slice A L.length c,.int .i64 (r:Int)] w (PutB w base (L++encR r)):=by
 obtain⟨n,hn⟩:∃n,n=L.length:=⟨_,rfl⟩
 rw[<-hn]at hb hL ⊢;have k0:r<=1114111:=by
  unfold badR at q0;simp only[Bool.or_eq_false_iff,decide_eq_false_iff_not]at q0;omega
 have h0:encR r = [u8 (192+r / 64),u8 (128+r%64)]:=by unfold encR encO;rw[q0,if_neg (by simp),if_neg h1,if_pos h2]
 rw[h0];obtain⟨z,hz⟩:∃z:Int,z=(r:Int):=⟨_,rfl⟩
 rw[<-hz];have g0:0<=z:=by omega
 have gh:z<=1114111:=by omega
 have g1:¬ z<128:=by omega
 have g2:z<2048:=by omega
 obtain⟨l,hl⟩:∃l,l = [u8 (192+r / 64),u8 (128+r%64)]:=⟨_,rfl⟩
 have p0 : [Value.int .u8 (192+z / 64),.int .u8 (128+z%64)]=l.map B8:=by
  rw[hl,hz];simp only[List.map_cons,List.map_nil,ZAY (show 192+r / 64<256 by omega),ZAY (show 128+r%64<256 by omega)]
  try rfl
 rw[<-hl];replace hl:=ZA hl;replace p0:=ZA p0;replace k0:=ZA k0;replace hz:=ZA hz;replace h1:=ZA h1;replace h2:=ZA h2;replace hn:=ZA hn;replace hb:=ZA hb;replace h0:=ZA h0;replace q0:=ZA q0;go_enter Tryz.func187,Tryz.ntmps187;go_wp2_with (at_builtin;refine ZM ZV hb.out (.tmp 33) (.tmp 42) rfl rfl rfl rfl (ZS rfl) (by simp;omega) t0 (fun A3 c3 w4 m0 j0=>?_));go_ret;exact ZAU hn.out p0.out m0 j0
theorem ZLh (L:List UInt8) (A:Option Addr) (c base r:Nat) (w:World) (hb:Buf w base 5 A L.length c (L.map B8)) (hL:L.length<=4000000000) (t0:base<=w.heap.size) (q0:badR r=false) (h1:¬ r<128) (h2:¬ r<2048) (h3:r<55296) :
 Calls Tryz.prog 187 #[.slice A L.length c,.int .i64 (r:Int)] w (PutB w base (L++encR r)):=by
 obtain⟨n,hn⟩:∃n,n=L.length:=⟨_,rfl⟩
 rw[<-hn]at hb hL ⊢;have k0:r<=1114111:=by
  unfold badR at q0;simp only[Bool.or_eq_false_iff,decide_eq_false_iff_not]at q0;omega
 have h0:encR r = [u8 (224+r / 4096),u8 (128+r / 64%64),u8 (128+r%64)]:=by unfold encR encO;rw[q0,if_neg (by simp),if_neg h1,if_neg h2,if_pos (show r<65536 by omega)]
 rw[h0];obtain⟨z,hz⟩:∃z:Int,z=(r:Int):=⟨_,rfl⟩
 rw[<-hz];have g0:0<=z:=by omega
 have gh:z<=1114111:=by omega
 have g1:¬ z<128:=by omega
 have g2:¬ z<2048:=by omega
 have g3:z<65536:=by omega
 have g4:z<55296:=by omega
 obtain⟨l,hl⟩:∃l,l = [u8 (224+r / 4096),u8 (128+r / 64%64),u8 (128+r%64)]:=⟨_,rfl⟩
 have p0 : [Value.int .u8 (224+z / 4096),.int .u8 (128+z / 64%64),.int .u8 (128+z%64)]=l.map B8:=by
  rw[hl,hz];simp only[List.map_cons,List.map_nil,ZAY (show 224+r / 4096<256 by omega),ZAY (show 128+r / 64%64<256 by omega),ZAY (show 128+r%64<256 by omega)]
  try rfl
 rw[<-hl];replace hl:=ZA hl;replace p0:=ZA p0;replace k0:=ZA k0;replace hz:=ZA hz;replace h1:=ZA h1;replace h2:=ZA h2;replace h3:=ZA h3;replace hn:=ZA hn;replace hb:=ZA hb;replace h0:=ZA h0;replace q0:=ZA q0;go_enter Tryz.func187,Tryz.ntmps187;go_wp2_with (at_builtin;refine ZM ZV hb.out (.tmp 47) (.tmp 61) rfl rfl rfl rfl (ZS rfl) (by simp;omega) t0 (fun A3 c3 w4 m0 j0=>?_));go_ret;exact ZAU hn.out p0.out m0 j0
theorem ZGb (L:List UInt8) (A:Option Addr) (c base r:Nat) (w:World) (hb:Buf w base 5 A L.length c (L.map B8)) (hL:L.length<=4000000000) (t0:base<=w.heap.size) (q0:badR r=false) (h1:¬ r<128) (h2:57343<r) (h3:r<65536) :
 Calls Tryz.prog 187 #[.slice A L.length c,.int .i64 (r:Int)] w (PutB w base (L++encR r)):=by
 obtain⟨n,hn⟩:∃n,n=L.length:=⟨_,rfl⟩
 rw[<-hn]at hb hL ⊢;have k0:r<=1114111:=by
  unfold badR at q0;simp only[Bool.or_eq_false_iff,decide_eq_false_iff_not]at q0;omega
 have h0:encR r = [u8 (224+r / 4096),u8 (128+r / 64%64),u8 (128+r%64)]:=by unfold encR encO;rw[q0,if_neg (by simp),if_neg h1,if_neg (show ¬ r<2048 by omega),if_pos h3]
 rw[h0];obtain⟨z,hz⟩:∃z:Int,z=(r:Int):=⟨_,rfl⟩
 rw[<-hz];have g0:0<=z:=by omega
 have gh:z<=1114111:=by omega
 have g1:¬ z<128:=by omega
 have g2:¬ z<2048:=by omega
 have g3:z<65536:=by omega
 have g4:¬ z<55296:=by omega
 have g5:57343<z:=by omega
 obtain⟨l,hl⟩:∃l,l = [u8 (224+r / 4096),u8 (128+r / 64%64),u8 (128+r%64)]:=⟨_,rfl⟩
 have p0 : [Value.int .u8 (224+z / 4096),.int .u8 (128+z / 64%64),.int .u8 (128+z%64)]=l.map B8:=by
  rw[hl,hz];simp only[List.map_cons,List.map_nil,ZAY (show 224+r / 4096<256 by omega),ZAY (show 128+r / 64%64<256 by omega),ZAY (show 128+r%64<256 by omega)]
  try rfl
 rw[<-hl];replace hl:=ZA hl;replace p0:=ZA p0;replace k0:=ZA k0;replace hz:=ZA hz;replace h1:=ZA h1;replace h2:=ZA h2;replace h3:=ZA h3;replace hn:=ZA hn;replace hb:=ZA hb;replace h0:=ZA h0;replace q0:=ZA q0;go_enter Tryz.func187,Tryz.ntmps187;go_wp2_with (at_builtin;refine ZM ZV hb.out (.tmp 47) (.tmp 61) rfl rfl rfl rfl (ZS rfl) (by simp;omega) t0 (fun A3 c3 w4 m0 j0=>?_));go_ret;exact ZAU hn.out p0.out m0 j0
theorem ZKJ (L:List UInt8) (A:Option Addr) (c base r:Nat) (w:World) (hb:Buf w base 5 A L.length c (L.map B8)) (hL:L.length<=4000000000) (t0:base<=w.heap.size) (q0:badR r=false) (h1:¬ r<128) (h2:¬ r<2048) (h3:¬ r<65536) :
 Calls Tryz.prog 187 #[.slice A L.length c,.int .i64 (r:Int)] w (PutB w base (L++encR r)):=by
 obtain⟨n,hn⟩:∃n,n=L.length:=⟨_,rfl⟩
 rw[<-hn]at hb hL ⊢;have k0:r<=1114111:=by
  unfold badR at q0;simp only[Bool.or_eq_false_iff,decide_eq_false_iff_not]at q0;omega
 have h0:encR r = [u8 (240+r / 262144),u8 (128+r / 4096%64),u8 (128+r / 64%64),u8 (128+r%64)]:=by unfold encR encO;rw[q0,if_neg (by simp),if_neg h1,if_neg h2,if_neg h3]
 rw[h0];obtain⟨z,hz⟩:∃z:Int,z=(r:Int):=⟨_,rfl⟩
 rw[<-hz];have g0:0<=z:=by omega
 have gh:z<=1114111:=by omega
 have g1:¬ z<128:=by omega
 have g2:¬ z<2048:=by omega
 have g3:¬ z<65536:=by omega
 have g4:¬ z<55296:=by omega
 have g5:57343<z:=by omega
 obtain⟨l,hl⟩:∃l,l = [u8 (240+r / 262144),u8 (128+r / 4096%64),u8 (128+r / 64%64),u8 (128+r%64)]:=⟨_,rfl⟩
 have p0 : [Value.int .u8 (240+z / 262144),.int .u8 (128+z / 4096%64),.int .u8 (128+z / 64%64),.int .u8 (128+z%64)]=l.map B8:=by
  rw[hl,hz];simp only[List.map_cons,List.map_nil,ZAY (show 240+r / 262144<256 by omega),ZAY (show 128+r / 4096%64<256 by omega),ZAY (show 128+r / 64%64<256 by omega),ZAY (show 128+r%64<256 by omega)]
  try rfl
 rw[<-hl];replace hl:=ZA hl;replace p0:=ZA p0;replace k0:=ZA k0;replace hz:=ZA hz;replace h1:=ZA h1;replace h2:=ZA h2;replace h3:=ZA h3;replace hn:=ZA hn;replace hb:=ZA hb;replace h0:=ZA h0;replace q0:=ZA q0;go_enter Tryz.func187,Tryz.ntmps187;go_wp2_with (at_builtin;refine ZM ZV hb.out (.tmp 63) (.tmp 82) rfl rfl rfl rfl (ZS rfl) (by simp;omega) t0 (fun A3 c3 w4 m0 j0=>?_));go_ret;exact ZAU hn.out p0.out m0 j0
theorem ZLl (L:List UInt8) (A:Option Addr) (c base r:Nat) (w:World) (hb:Buf w base 5 A L.length c (L.map B8)) (hL:L.length<=4000000000) (t0:base<=w.heap.size) (p0:badR r=true) (hr:r<=1200000) :
 Calls Tryz.prog 187 #[.slice A L.length c,.int .i64 (r:Int)] w (PutB w base (L++encR r)):=by
 have h0:=ZGb L A c base 65533 w hb hL t0 (by decide) (by omega) (by omega) (by omega);have q0:encR r=encR 65533:=by
  have h5:badR 65533=false:=by decide
  unfold encR;rw[p0,h5,if_pos rfl,if_neg (by simp)]
 rw[q0];have hq:1114111<r\/(55296<=r/\r<=57343):=by
  unfold badR at p0;simpa using p0
 simp only[show (((65533:Nat):Int))=65533 from rfl]at h0;obtain⟨n,hn⟩:∃n,n=L.length:=⟨_,rfl⟩
 rw[<-hn]at h0 ⊢;obtain⟨LL,j0⟩:∃LL,LL=L++encR 65533:=⟨_,rfl⟩
 rw[<-j0]at h0 ⊢;obtain⟨z,hz⟩:∃z:Int,z=(r:Int):=⟨_,rfl⟩
 rw[<-hz];have g0:0<=z:=by omega
 replace h0:=ZA h0;replace j0:=ZA j0;replace hn:=ZA hn;replace hb:=ZA hb;replace q0:=ZA q0;replace p0:=ZA p0;rcases hq with hq | hq
 ·have g1:1114111<z:=by omega
  replace hq:=ZA hq;replace hz:=ZA hz;replace hr:=ZA hr;go_enter Tryz.func187,Tryz.ntmps187;go_wp2_with fail;refine h0.out.mono ?_;rintro e w2 ⟨A2,c2,rfl,m0,k0⟩;go_wp2_with fail;go_ret;exact⟨A2,c2,rfl,m0,k0⟩
 ·have g1:z<=1114111:=by omega
  have g2:55296<=z:=by omega
  have g3:z<=57343:=by omega
  replace hq:=ZA hq;replace hz:=ZA hz;replace hr:=ZA hr;go_enter Tryz.func187,Tryz.ntmps187;go_wp2_with fail;refine h0.out.mono ?_;rintro e w2 ⟨A2,c2,rfl,m0,k0⟩;go_wp2_with fail;go_ret;exact⟨A2,c2,rfl,m0,k0⟩
theorem ZMt (L:List UInt8) (A:Option Addr) (c base r:Nat) (w:World) (hb:Buf w base 5 A L.length c (L.map B8)) (hL:L.length<=4000000000) (q0:base<=w.heap.size) (hr:r<=1200000) :
 Calls Tryz.prog 187 #[.slice A L.length c,.int .i64 (r:Int)] w (PutB w base (L++encR r)):=by
 cases h0:badR r with
 | true=>exact ZLl L A c base r w hb hL q0 h0 hr
 | false =>
  by_cases h1:r<128
  ·exact ZK6 L A c base r w hb hL q0 h0 h1
  ·by_cases h2:r<2048
   ·exact ZJ1 L A c base r w hb hL q0 h0 h1 h2
   ·by_cases h3:r<65536
    ·by_cases h4:r<55296
     ·exact ZLh L A c base r w hb hL q0 h0 h1 h2 h4
     ·refine ZGb L A c base r w hb hL q0 h0 h1 ?_ h3;unfold badR at h0;simp only[Bool.or_eq_false_iff,Bool.and_eq_false_iff,decide_eq_false_iff_not]at h0;omega
    ·exact ZKJ L A c base r w hb hL q0 h0 h1 h2 h3
theorem ZG9 (rs:List Nat) (A:Option Addr) (n c:Nat) (w:World) (hn:n=rs.length) (hc:Cells w A (rs.map NV)) (hr:∀r∈rs,r<=1200000) (z0:n<=500000000) :
 Calls Tryz.prog 157 #[.slice A n c] w fun e w'=>e = .returned (.string ⟨(encL rs).toArray⟩)/\Ext w w':=by
 have t0:=ZA (fun L A c base r W hb hL x0 hr=>ZMt L A c base r W hb hL x0 hr);replace hr:=ZA hr;replace hc:=ZA hc;replace hn:=ZA hn;go_enter Tryz.func157,Tryz.ntmps157;go_wp2_with fail
 go_loopw [3,4] (fun s3 s8 wr=>∃(i n1 c1:Nat) (A1:Option Addr),s3 = .slice A1 n1 c1/\s8 = .int .i64 (i:Int)/\i<=n/\Hid (n1=(encL (rs.take i)).length/\n1<=4*i)/\Hid (Buf wr w.heap.size 5 A1 n1 c1 ((encL (rs.take i)).map B8))/\Hid (Ext w wr)) (fun _ s8 _=>n - (intOf s8).toNat)
 case atStart=>exact⟨0,0,0,none,rfl,rfl,by omega,ZA ⟨rfl,by omega⟩,ZA (Buf.nil _ _ _),ZA (Ext.refl w)⟩
 case round =>
  obtain⟨i,n1,c1,A1,rfl,rfl,hi,h0,hb,hE⟩:=hrel;by_cases h:i<n
  ·obtain⟨r,q0⟩:∃r,rs[i]? = some r:=⟨_,List.getElem?_eq_getElem (by rw[<-hn.out];exact h)⟩
   obtain⟨g,o,hA,g0⟩:=hc.out.at_ (by rw[List.length_map,<-hn.out];omega);subst hA;have y0:=hE.out.cell (g0 i (NV r) (by rw[List.getElem?_map,q0];rfl));unfold NV at y0;have u0:=hr.out r (List.mem_of_getElem? q0);have hp:=t0.out (encL (rs.take i)) A1 c1 w.heap.size r wr (by rw[<-h0.out.1];exact hb.out) (by have:=h0.out;omega) hE.out.size u0;rw[<-h0.out.1]at hp;have p0:rs.take (i+1)=rs.take i ++ [r]:=by rw[List.take_add_one,q0];rfl
   rw[<-ZB1,<-p0]at hp;have v0:=(ZC2 r).2;replace hp:=ZA hp;replace g0:=ZA g0;replace q0:=ZA q0;replace p0:=ZA p0;replace u0:=ZA u0;replace v0:=ZA v0;go_wp2_with fail;refine hp.out.mono ?_;rintro e w2 ⟨A2,c2,rfl,j0,k0⟩;have m0:(encL (rs.take (i+1))).length<=4*(i+1):=by
    rw[p0.out,ZB1,List.length_append];have:=h0.out;have:=v0.out;omega
   replace j0:=ZA j0;replace k0:=ZA (k0 w hE.out (Nat.le_refl _));replace m0:=ZA m0;go_wp2_with fail;exact⟨⟨i+1,_,c2,A2,rfl,rfl,by omega,ZA ⟨rfl,m0.out⟩,j0,k0⟩,by simp only[intOf];omega⟩
  ·obtain rfl:i=n:=by omega
   have hT:rs.take i=rs:=List.take_of_length_le (by rw[hn.out];exact Nat.le_refl _);rw[hT]at hb h0;have a0:=Zr (Buf.cells hb.out) n1 c1 h0.out.1;replace h0:=ZA h0.out.1;go_wp2_with fail;go_ret;exact⟨rfl,hE.out⟩
theorem ZJY (r:Nat) (w:World) (hr:r<=1114111):Calls Tryz.prog 158 #[.int .i64 (r:Int)] w fun e w'=>e = .returned (.int .i64 (lowerR r:Int))/\Ext w w':=by
 obtain⟨z,hz⟩:∃z:Int,z=(r:Int):=⟨_,rfl⟩
 obtain⟨y,hy⟩:∃y:Int,y=(lowerR r:Int):=⟨_,rfl⟩
 have h0:y=if (65<=z/\z<=90)\/(192<=z/\z<=222/\z≠215)\/(913<=z/\z<=939/\z≠930)\/(1040<=z/\z<=1071) then z+32 else if 1024<=z/\z<=1039 then z+80 else z:=by
  rw[hy,hz];unfold lowerR;by_cases h1:(65<=r/\r<=90)\/(192<=r/\r<=222/\r≠215)\/(913<=r/\r<=939/\r≠930)\/(1040<=r/\r<=1071)
  ·have q0:(65<=(r:Int)/\(r:Int)<=90)\/(192<=(r:Int)/\(r:Int)<=222/\(r:Int)≠215)\/(913<=(r:Int)/\(r:Int)<=939/\(r:Int)≠930)\/(1040<=(r:Int)/\(r:Int)<=1071):=by clear hz hy;omega
   rw[if_pos h1,if_pos q0];rfl
  ·have q0:¬ ((65<=(r:Int)/\(r:Int)<=90)\/(192<=(r:Int)/\(r:Int)<=222/\(r:Int)≠215)\/(913<=(r:Int)/\(r:Int)<=939/\(r:Int)≠930)\/(1040<=(r:Int)/\(r:Int)<=1071)):=by clear hz hy;omega
   rw[if_neg h1,if_neg q0];by_cases h2:1024<=r/\r<=1039
   ·have p0:1024<=(r:Int)/\(r:Int)<=1039:=by clear hz hy;omega
    rw[if_pos h2,if_pos p0];rfl
   ·have p0:¬ (1024<=(r:Int)/\(r:Int)<=1039):=by clear hz hy;omega
    rw[if_neg h2,if_neg p0]
 rw[<-hz,<-hy];have g0:0<=z:=by omega
 have g1:z<=1114111:=by omega
 replace hz:=ZA hz;replace hy:=ZA hy;replace hr:=ZA hr;replace h0:=ZA h0;go_enter Tryz.func158,Tryz.ntmps158;go_wp2_with fail
 all_goals
  go_ret;refine⟨?_,Ext.refl w⟩;show Ending.returned (Value.int .i64 _)=_;refine congrArg (fun v=>Ending.returned (Value.int .i64 v)) ?_;rw[h0.out];clear h0 hy hz hr
  try simp only[bne_iff_ne,bne_eq_false_iff_eq,Bool.not_eq_true]at *
  first
   | rw[if_pos (by omega)]
   | (rw[if_neg (by omega),if_pos (by omega)])
   | (rw[if_neg (by omega),if_neg (by omega)])
theorem ZG2 (r:Nat) (w:World) (hr:r<=1114191):Calls Tryz.prog 101 #[.int .i64 (r:Int)] w fun e w'=>e = .returned (.bool (wordR r))/\Ext w w':=by
 obtain⟨z,hz⟩:∃z:Int,z=(r:Int):=⟨_,rfl⟩
 obtain⟨y,hy⟩:∃y,y=wordR r:=⟨_,rfl⟩
 have h0:y=decide ((48<=z/\z<=57)\/(65<=z/\z<=90)\/(97<=z/\z<=122)\/(192<=z/\z<=255/\z≠215/\z≠247)\/(913<=z/\z<=974/\z≠930)\/(1024<=z/\z<=1119)):=by
  rw[hy,hz];unfold wordR;rw[decide_eq_decide];omega
 rw[<-hz,<-hy];have g0:0<=z:=by omega
 have g1:z<=1114191:=by omega
 replace hz:=ZA hz;replace hy:=ZA hy;replace hr:=ZA hr;replace h0:=ZA h0;go_enter Tryz.func101,Tryz.ntmps101;go_wp2_with fail
 all_goals
  go_ret;refine⟨?_,Ext.refl w⟩;show Ending.returned (Value.bool _)=_;refine congrArg (fun v=>Ending.returned (Value.bool v)) ?_;rw[h0.out,Bool.eq_iff_iff];clear h0 hy hz hr
  try simp only[bne_iff_ne,bne_eq_false_iff_eq,Bool.not_eq_true]at *
  try simp only[Bool.or_eq_true,Bool.and_eq_true,decide_eq_true_eq,bne_iff_ne,Bool.true_eq,Bool.false_eq_true,true_iff,false_iff]
  first
   | omega
   | (simp;omega)
theorem ZLy (rs:List Nat) (A:Option Addr) (n c:Nat) (w:World) (hn:n=rs.length) (hc:Cells w A (rs.map NV)) (hr:∀r∈rs,r<=1114111) (p1:n<=1073741824) :
 Calls Tryz.prog 102 #[.slice A n c] w fun e w'=>e = .returned (.string ⟨(cutW [] rs).toArray⟩)/\Ext w w':=by
 have a0:=ZA (fun r W h=>ZJY r W h);have y0:=ZA (fun r A n c W h1 h2 h3 h4=>ZG9 [r] A n c W h1 h2 h3 h4);obtain⟨Z,hZ⟩:∃Z,Z=cutW [] rs:=⟨_,rfl⟩
 rw[<-hZ];replace hr:=ZA hr;replace hc:=ZA hc;replace hn:=ZA hn;replace hZ:=ZA hZ;go_enter Tryz.func102,Tryz.ntmps102;go_wp2_with fail
 go_loopw [3,4] (fun s3 s4 wr=>∃(i:Nat) (s:List UInt8),s3 = .string ⟨s.toArray⟩/\s4 = .int .i64 (i:Int)/\i<=n/\Hid (Z=cutW s (rs.drop i))/\Hid (s.length<=32)/\Hid (Ext w wr)) (fun _ s4 _=>n - (intOf s4).toNat)
 case atStart=>exact⟨0,[],rfl,rfl,by omega,ZA (by rw[hZ.out];rfl),ZA (by simp),ZA (Ext.refl w)⟩
 case round =>
  obtain⟨i,s,rfl,rfl,hi,d0,m0,hE⟩:=hrel;by_cases h:i<n
  ·obtain⟨r,p0⟩:∃r,rs[i]? = some r:=⟨_,List.getElem?_eq_getElem (by rw[<-hn.out];exact h)⟩
   obtain⟨g,o,hA,u0⟩:=hc.out.at_ (by rw[List.length_map,<-hn.out];omega);subst hA;have r0:=hE.out.cell (u0 i (NV r) (by rw[List.getElem?_map,p0];rfl));unfold NV at r0;have t0:=hr.out r (List.mem_of_getElem? p0);have x0:rs.drop i=r::rs.drop (i+1):=by
    rw[List.drop_eq_getElem_cons (List.getElem?_eq_some_iff.1 p0).1];congr 1;exact(List.getElem?_eq_some_iff.1 p0).2
   have f0:=ZA (fun W=>a0.out r W t0);have b0:=ZFp t0;obtain⟨t,ht⟩:∃t,t=encR (lowerR r):=⟨_,rfl⟩
   have w0:t.length<=4:=by rw[ht];exact(ZC2 _).2
   have z0:=ZA (fun hh=>ZKA (s:=s) (r:=r) (rs:=rs.drop (i+1)) hh);have q0:=ZA (fun hh=>ZIH (s:=s) (r:=r) (rs:=rs.drop (i+1)) hh);rw[<-ht,<-x0,<-d0.out]at z0 q0;obtain⟨y,hy⟩:∃y,y=lowerR r:=⟨_,rfl⟩
   rw[<-hy]at ht f0 b0;have e0:=ZA (fun A W hh=>y0.out y A 1 1 W rfl hh (by simp;omega) (by omega));rw[ZHv,<-ht]at e0;obtain⟨tn,j0⟩:∃tn,tn=t.length:=⟨_,rfl⟩
   have q1:(⟨t.toArray⟩:ByteArray).size=tn:=by rw[j0];exact ByteArray.size_mk_toArray t
   obtain⟨sn,k0⟩:∃sn,sn=s.length:=⟨_,rfl⟩
   rw[<-k0,<-j0]at z0 q0;rw[<-j0]at w0;rw[<-k0]at m0;have i0:=m0.out;have s0:(⟨s.toArray⟩:ByteArray).size=sn:=by rw[k0];exact ByteArray.size_mk_toArray s
   have o0:((⟨s.toArray⟩:ByteArray)++⟨t.toArray⟩)=⟨(s++t).toArray⟩:=by
    apply ByteArray.ext;rw[ByteArray.data_append];simp
   replace u0:=ZA u0;replace p0:=ZA p0;replace t0:=ZA t0;replace x0:=ZA x0;replace hy:=ZA hy;replace ht:=ZA ht;replace j0:=ZA j0;replace k0:=ZA k0;replace b0:=ZA b0;go_wp2_with fail;refine(f0.out _).mono ?_;rintro e w2 ⟨rfl,l0⟩;go_wp2_with fail;refine(e0.out _ _ (.inr ⟨w2.heap.size,0,rfl,fun j u hu=>?_⟩)).mono ?_
   ·rw[Nat.zero_add,cell_of_row _ _ _ _ _ _ (heap_alloc_new w2 _)];simpa [NV]using hu
   rintro e w3 ⟨rfl,n0⟩;have g0:=ZA ((l0.alloc (.cells #[Value.int .i64 (y:Int)] 3)).trans n0);by_cases c0:32<sn+tn
   ·have h0:=ZA (q0.out c0);have v0:(32:Int)<(sn:Int)+(tn:Int):=by omega
    go_wp2_with fail;go_ret;exact⟨by rw[h0.out];rfl,hE.out.trans g0.out⟩
   ·have h0:=ZA (z0.out c0);have v0:¬ (32:Int)<(sn:Int)+(tn:Int):=by omega
    go_wp2_with fail;exact⟨⟨i+1,s++t,rfl,rfl,by omega,h0,ZA (by rw[List.length_append,<-k0.out,<-j0.out];omega),ZA (hE.out.trans g0.out)⟩,by simp only[intOf];omega⟩
  ·obtain rfl:i=n:=by omega
   have h0:Z=s:=by rw[d0.out,List.drop_eq_nil_of_le (by rw[<-hn.out];exact Nat.le_refl _),cutW]
   replace h0:=ZA h0;go_wp2_with fail;go_ret;exact⟨by rw[h0.out];rfl,hE.out⟩
theorem ZKb (l:List UInt8) (at_ r:Nat) (w:World) (hl:l.length<=1073741824) (hr:r<=16777216) (ha:at_<=1073741840):Calls Tryz.prog 213 #[.string ⟨l.toArray⟩,.int .i64 (at_:Int),.int .i64 (r:Int)] w fun e w'=>(match l[at_]? with
 | some b=>if contB b=true then e = .returned (.tuple #[.int .i64 ((r*64+b.toNat%64:Nat):Int),.bool true]) else e = .returned (.tuple #[.int .i64 0,.bool false])
 | none=>e = .returned (.tuple #[.int .i64 0,.bool false]))/\Ext w w':=by
 cases hb:l[at_]? with
 | none =>
  have g0:=List.getElem?_eq_none_iff.1 hb;have k0:(l.length:Int)<=(at_:Int):=by omega
  replace hb:=ZA hb;go_enter Tryz.func213,Tryz.ntmps213;go_wp2_with fail;go_ret2;exact⟨rfl,Ext.refl w⟩
 | some b =>
  have j0:=fun W=>ZO hb (z:=(at_:Int)) rfl W;have m0:=(List.getElem?_eq_some_iff.1 hb).1;have k0:¬ (l.length:Int)<=(at_:Int):=by omega
  have h0:contB b=true↔b.toNat / 64=2:=by unfold contB;exact beq_iff_eq
  have p0:=b.toNat_lt;obtain⟨x,hx⟩:∃x,x=b.toNat:=⟨_,rfl⟩
  rw[<-hx]at j0 h0 p0;simp only;rw[<-hx];replace hb:=ZA hb;replace hx:=ZA hx;by_cases h2:x / 64=2
  ·simp only[if_pos (h0.2 h2)];have q0:(x:Int) / 64=2:=by omega
   replace h0:=ZA h0;replace h2:=ZA h2;go_enter Tryz.func213,Tryz.ntmps213;go_wp2_with fail;go_ret2;refine⟨?_,Ext.refl w⟩;simp
  ·simp only[if_neg (fun h=>h2 (h0.1 h))];have q0:¬ (x:Int) / 64=2:=by omega
   replace h0:=ZA h0;replace h2:=ZA h2;go_enter Tryz.func213,Tryz.ntmps213;go_wp2_with fail;go_ret2;exact⟨rfl,Ext.refl w⟩
def rowOk (t:List UInt8) (kk:Nat):Bool:=decide (kk<=t.length)&&(t.take kk).all contB
theorem ZFD (l:List UInt8) (at_ n0 kk:Nat) (w:World) (hl:l.length<=1073741824) (y0:n0<32) (f0:kk<=3) (ha:at_<l.length) :
 Calls Tryz.prog 186 #[.string ⟨l.toArray⟩,.int .i64 (at_:Int),.int .i64 (n0:Int),.int .i64 ((kk:Int)+1)] w fun e w'=>e = .returned (.tuple #[.int .i64 ((if rowOk (l.drop (at_+1)) kk=true then foldR n0 ((l.drop (at_+1)).take kk) else 0:Nat):Int),.bool (rowOk (l.drop (at_+1)) kk)])/\Ext w w':=by
 have c0:=ZA (fun a r W ha hr=>ZKb l a r W hl hr ha);obtain⟨t,ht⟩:∃t,t=l.drop (at_+1):=⟨_,rfl⟩
 rw[<-ht];have x0:∀j,l[at_+(j+1)]? = t[j]? :=fun j=>by rw[ht,List.getElem?_drop];congr 1;omega
 obtain⟨Z,hZ⟩:∃Z,Z=(if rowOk t kk=true then foldR n0 (t.take kk) else 0:Nat):=⟨_,rfl⟩
 obtain⟨B,hB⟩:∃B,B=rowOk t kk:=⟨_,rfl⟩
 rw[<-hZ,<-hB];replace x0:=ZA x0;replace hZ:=ZA hZ;replace hB:=ZA hB;replace ht:=ZA ht;go_enter Tryz.func186,Tryz.ntmps186;go_wp2_with fail
 go_loopw [2,10] (fun s2 s10 wr=>∃j X:Nat,s2 = .int .i64 (X:Int)/\s10 = .int .i64 ((j:Int)+1)/\j<=kk/\Hid (X=foldR n0 (t.take j))/\Hid (rowOk t j=true)/\Hid (Ext w wr)) (fun _ s10 _=>10 - (intOf s10).toNat)
 case atStart=>exact⟨0,n0,rfl,rfl,by omega,ZA rfl,ZA (by simp[rowOk]),ZA (Ext.refl w)⟩
 case round =>
  obtain⟨j,X,rfl,rfl,hj,hX,z0,hE⟩:=hrel;by_cases h:j<kk
  ·have h0:=z0.out;unfold rowOk at h0;simp only[Bool.and_eq_true,decide_eq_true_eq]at h0;have d0:X<8388608:=by rw[hX.out];exact ZAZ y0 (by rw[List.length_take];omega)
   have hc:=fun W=>c0.out (at_+(j+1)) X W (by omega) (by omega);rw[x0.out j]at hc;have u0:((at_+(j+1):Nat):Int)=(at_:Int)+((j:Int)+1):=by omega
   rw[u0]at hc;replace u0:=ZA u0;cases hb:t[j]? with
   | none =>
    rw[hb]at hc;have e0:=List.getElem?_eq_none_iff.1 hb;have g0:B=false:=by
     rw[hB.out];unfold rowOk;rw[decide_eq_false (by omega),Bool.false_and]
    have v0:Z=0:=by rw[hZ.out,<-hB.out,g0,if_neg (by simp)]
    subst g0;subst v0;simp only at hc;replace hc:=ZA hc;replace h0:=ZA h0;replace hb:=ZA hb;go_wp2_with fail;refine(hc.out _).mono ?_;rintro e w2 ⟨rfl,m0⟩;go_wp2_with fail;go_ret2;exact⟨rfl,hE.out.trans m0⟩
   | some b =>
    rw[hb]at hc;have i0:=(List.getElem?_eq_some_iff.1 hb).1;have j0:t.take (j+1)=t.take j ++ [b]:=by rw[List.take_add_one,hb];rfl
    cases q0:contB b with
    | true =>
     simp only[q0,if_true]at hc;have k0:rowOk t (j+1)=true:=by
      unfold rowOk;rw[j0,List.all_append,h0.2];simp[q0];omega
     have t0:X*64+b.toNat%64=foldR n0 (t.take (j+1)):=by rw[j0,ZEM,<-hX.out]
     obtain⟨X2,p0⟩:∃X2,X2=X*64+b.toNat%64:=⟨_,rfl⟩
     rw[<-p0]at hc t0;replace p0:=ZA p0;replace hc:=ZA hc;replace h0:=ZA h0;replace hb:=ZA hb;replace j0:=ZA j0;replace t0:=ZA t0;replace k0:=ZA k0;replace q0:=ZA q0;go_wp2_with fail;refine(hc.out _).mono ?_;rintro e w2 ⟨rfl,m0⟩;go_wp2_with fail;exact⟨⟨j+1,X2,rfl,by go_num,by omega,t0,k0,ZA (hE.out.trans m0)⟩,by simp only[intOf];omega⟩
    | false =>
     have g0:B=false:=by
      rw[hB.out];unfold rowOk;have:(t.take kk).all contB=false:=by
       rw[List.all_eq_false];exact⟨b,List.mem_of_getElem? (i:=j) (by rw[List.getElem?_take,if_pos h];exact hb),by simp[q0]⟩
      rw[this,Bool.and_false]
     have v0:Z=0:=by rw[hZ.out,<-hB.out,g0,if_neg (by simp)]
     subst g0;subst v0;simp only[q0,Bool.false_eq_true,if_false]at hc;replace hc:=ZA hc;replace h0:=ZA h0;replace hb:=ZA hb;replace j0:=ZA j0;replace q0:=ZA q0;go_wp2_with fail;refine(hc.out _).mono ?_;rintro e w2 ⟨rfl,m0⟩;go_wp2_with fail;go_ret2;exact⟨rfl,hE.out.trans m0⟩
  ·obtain rfl:j=kk:=by omega
   have a0:B=true:=by rw[hB.out];exact z0.out
   have b0:Z=X:=by rw[hZ.out,z0.out,if_pos rfl];exact hX.out.symm
   subst a0;subst b0;go_wp2_with fail;go_ret2;exact⟨rfl,hE.out⟩
theorem ZHK (lo hi n k:Nat) (t:List UInt8):okR lo hi n k t=(rowOk t k&&decide (lo<=foldR n (t.take k))&&decide (foldR n (t.take k)<=hi) && !(decide (55296<=foldR n (t.take k))&&decide (foldR n (t.take k)<=57343))):=rfl
theorem ZO0 {b:UInt8} {t:List UInt8} (h:b.toNat / 32=6):decR (b::t)=if rowOk t 1=true/\128<=foldR (b.toNat%32) (t.take 1) then (foldR (b.toNat%32) (t.take 1),2) else (65533,1):=by
 have hF:=ZFj (b.toNat%32) (t.take 1);have hp:64^(t.take 1).length<=64^1:=Nat.pow_le_pow_right (by omega) (by rw[List.length_take];omega);have h0:foldR (b.toNat%32) (t.take 1)<32*64^1:=Nat.lt_of_lt_of_le hF (Nat.mul_le_mul (by omega) hp);have h2:(b.toNat / 16==14)=false:=by rw[beq_eq_false_iff_ne];omega
 have h3:(b.toNat / 8==30)=false:=by rw[beq_eq_false_iff_ne];omega
 have h1:(b.toNat / 32==6)=true:=beq_iff_eq.2 h;rw[decR,if_neg (by omega),h1,h2,h3,ZHK];simp only[Bool.true_and,Bool.false_and,Bool.false_eq_true,if_false];congr 1;simp only[Bool.and_eq_true,Bool.not_eq_true',Bool.and_eq_false_iff,decide_eq_true_eq,decide_eq_false_iff_not,eq_iff_iff];constructor
 ·rintro⟨⟨⟨h,h4⟩,h5⟩,h6⟩;exact⟨h,h4⟩
 ·rintro⟨h,h4⟩;exact⟨⟨⟨h,h4⟩,by omega⟩,by omega⟩
theorem ZO1 {b:UInt8} {t:List UInt8} (h:b.toNat / 16=14):decR (b::t)=if rowOk t 2=true/\2048<=foldR (b.toNat%16) (t.take 2)/\(foldR (b.toNat%16) (t.take 2)<55296\/57343<foldR (b.toNat%16) (t.take 2)) then (foldR (b.toNat%16) (t.take 2),3) else (65533,1):=by
 have hF:=ZFj (b.toNat%16) (t.take 2);have hp:64^(t.take 2).length<=64^2:=Nat.pow_le_pow_right (by omega) (by rw[List.length_take];omega);have h0:foldR (b.toNat%16) (t.take 2)<16*64^2:=Nat.lt_of_lt_of_le hF (Nat.mul_le_mul (by omega) hp);have h2:(b.toNat / 32==6)=false:=by rw[beq_eq_false_iff_ne];omega
 have h3:(b.toNat / 8==30)=false:=by rw[beq_eq_false_iff_ne];omega
 have h1:(b.toNat / 16==14)=true:=beq_iff_eq.2 h;rw[decR,if_neg (by omega),h1,h2,h3,ZHK 2048];simp only[Bool.true_and,Bool.false_and,Bool.false_eq_true,if_false];congr 1;simp only[Bool.and_eq_true,Bool.not_eq_true',Bool.and_eq_false_iff,decide_eq_true_eq,decide_eq_false_iff_not,eq_iff_iff];constructor
 ·rintro⟨⟨⟨h,h4⟩,h5⟩,h6⟩;exact⟨h,h4,by omega⟩
 ·rintro⟨h,h4,h5⟩;exact⟨⟨⟨h,h4⟩,by omega⟩,by omega⟩
theorem ZO3 {b:UInt8} {t:List UInt8} (h:b.toNat / 8=30):decR (b::t)=if rowOk t 3=true/\65536<=foldR (b.toNat%8) (t.take 3)/\foldR (b.toNat%8) (t.take 3)<=1114111 then (foldR (b.toNat%8) (t.take 3),4) else (65533,1):=by
 have h2:(b.toNat / 32==6)=false:=by rw[beq_eq_false_iff_ne];omega
 have h3:(b.toNat / 16==14)=false:=by rw[beq_eq_false_iff_ne];omega
 have h1:(b.toNat / 8==30)=true:=beq_iff_eq.2 h;rw[decR,if_neg (by omega),h1,h2,h3,ZHK 65536];simp only[Bool.true_and,Bool.false_and,Bool.false_eq_true,if_false];congr 1;simp only[Bool.and_eq_true,Bool.not_eq_true',Bool.and_eq_false_iff,decide_eq_true_eq,decide_eq_false_iff_not,eq_iff_iff];constructor
 ·rintro⟨⟨⟨h,h4⟩,h5⟩,h6⟩;exact⟨h,h4,h5⟩
 ·rintro⟨h,h4,h5⟩;exact⟨⟨⟨h,h4⟩,h5⟩,by omega⟩
theorem ZO2 {b:UInt8} {t:List UInt8} (h:¬ b.toNat<128) (h1:¬ b.toNat / 32=6) (h2:¬ b.toNat / 16=14) (h3:¬ b.toNat / 8=30):decR (b::t)=(65533,1):=by
 rw[decR,if_neg h,beq_eq_false_iff_ne.2 h1,beq_eq_false_iff_ne.2 h2,beq_eq_false_iff_ne.2 h3];simp
theorem ZLT (l:List UInt8) (at_:Nat) (b:UInt8) (w:World) (hb:l[at_]? = some b) (hl:l.length<=1073741824) (hq:b.toNat / 32=6) :
 Calls Tryz.prog 156 #[.string ⟨l.toArray⟩,.int .i64 (at_:Int)] w fun e w'=>e = .returned (.tuple #[.int .i64 (decR (l.drop at_)).1,.int .i64 (decR (l.drop at_)).2])/\Ext w w':=by
 have t0:=(List.getElem?_eq_some_iff.1 hb).1;have u0:=fun W=>ZO hb (z:=(at_:Int)) rfl W;have h0:=fun W=>ZFD l at_ (b.toNat%32) 1 W hl (by omega) (by omega) t0;simp only[show (((1:Nat):Int)+1)=2 from rfl]at h0;have m0:l.drop at_=b::l.drop (at_+1):=by
  rw[List.drop_eq_getElem_cons t0];congr 1;exact(List.getElem?_eq_some_iff.1 hb).2
 rw[m0];obtain⟨t,ht⟩:∃t,t=l.drop (at_+1):=⟨_,rfl⟩
 rw[<-ht]at h0 ⊢;have q0:=ZO0 (t:=t) hq;obtain⟨n0,g0⟩:∃n0,n0=b.toNat%32:=⟨_,rfl⟩
 obtain⟨F,hF⟩:∃F,F=foldR (b.toNat%32) (t.take 1):=⟨_,rfl⟩
 rw[<-hF]at q0 h0;rw[<-g0]at h0;obtain⟨x,hx⟩:∃x,x=b.toNat:=⟨_,rfl⟩
 have v0:=b.toNat_lt;rw[<-hx]at u0 g0 hq v0;obtain⟨B,hB⟩:∃B,B=rowOk t 1:=⟨_,rfl⟩
 rw[<-hB]at h0 q0;have j0:F<8388608:=by rw[hF];exact ZAZ (by omega) (by rw[List.length_take];omega)
 obtain⟨R,hR⟩:∃R,R=decR (b::t):=⟨_,rfl⟩
 rw[<-hR]at q0 ⊢;have g1:¬ (x:Int)<128:=by omega
 have g2:(x:Int) / 32=6:=by omega
 have g3:¬ (x:Int) / 16=14:=by omega
 have g4:¬ (x:Int) / 8=30:=by omega
 have g5:(x:Int)%32=(n0:Int):=by omega
 replace g0:=ZA g0;replace hF:=ZA hF;replace hx:=ZA hx;replace hb:=ZA hb;replace hB:=ZA hB;replace hR:=ZA hR;replace ht:=ZA ht;replace m0:=ZA m0;replace hq:=ZA hq;cases B with
 | false =>
  rw[if_neg (by simp)]at q0;simp only[Bool.false_eq_true,if_false]at h0;replace h0:=ZA h0;subst q0;go_enter Tryz.func156,Tryz.ntmps156;go_wp2_with fail;refine(h0.out _).mono ?_;rintro e w2 ⟨rfl,p0⟩;go_wp2_with fail;go_ret2;exact⟨rfl,p0⟩
 | true =>
  simp only[if_true]at h0;obtain⟨z,hz⟩:∃z:Int,z=(F:Int):=⟨_,rfl⟩
  rw[<-hz]at h0;have gz:0<=z:=by omega
  have gz8:z<8388608:=by omega
  replace h0:=ZA h0;simp only[true_and]at q0;by_cases hc:128<=F
  ·have k0:128<=z:=by omega
   rw[if_pos (by omega)]at q0;subst q0;replace j0:=ZA j0;simp only;rw[<-hz];replace hz:=ZA hz;go_enter Tryz.func156,Tryz.ntmps156;go_wp2_with fail;refine(h0.out _).mono ?_;rintro e w2 ⟨rfl,p0⟩;go_wp2_with fail;go_ret2;exact⟨rfl,p0⟩
  ·have k0:¬ 128<=z:=by omega
   rw[if_neg (by omega)]at q0;subst q0;replace j0:=ZA j0;replace hz:=ZA hz;go_enter Tryz.func156,Tryz.ntmps156;go_wp2_with fail;refine(h0.out _).mono ?_;rintro e w2 ⟨rfl,p0⟩;go_wp2_with fail;go_ret2;exact⟨rfl,p0⟩
theorem ZKa (l:List UInt8) (at_:Nat) (b:UInt8) (w:World) (hb:l[at_]? = some b) (hl:l.length<=1073741824) (hq:b.toNat / 16=14) :
 Calls Tryz.prog 156 #[.string ⟨l.toArray⟩,.int .i64 (at_:Int)] w fun e w'=>e = .returned (.tuple #[.int .i64 (decR (l.drop at_)).1,.int .i64 (decR (l.drop at_)).2])/\Ext w w':=by
 have t0:=(List.getElem?_eq_some_iff.1 hb).1;have u0:=fun W=>ZO hb (z:=(at_:Int)) rfl W;have h0:=fun W=>ZFD l at_ (b.toNat%16) 2 W hl (by omega) (by omega) t0;simp only[show (((2:Nat):Int)+1)=3 from rfl]at h0;have m0:l.drop at_=b::l.drop (at_+1):=by
  rw[List.drop_eq_getElem_cons t0];congr 1;exact(List.getElem?_eq_some_iff.1 hb).2
 rw[m0];obtain⟨t,ht⟩:∃t,t=l.drop (at_+1):=⟨_,rfl⟩
 rw[<-ht]at h0 ⊢;have q0:=ZO1 (t:=t) hq;obtain⟨n0,g0⟩:∃n0,n0=b.toNat%16:=⟨_,rfl⟩
 obtain⟨F,hF⟩:∃F,F=foldR (b.toNat%16) (t.take 2):=⟨_,rfl⟩
 rw[<-hF]at q0 h0;rw[<-g0]at h0;obtain⟨x,hx⟩:∃x,x=b.toNat:=⟨_,rfl⟩
 have v0:=b.toNat_lt;rw[<-hx]at u0 g0 hq v0;obtain⟨B,hB⟩:∃B,B=rowOk t 2:=⟨_,rfl⟩
 rw[<-hB]at h0 q0;have j0:F<8388608:=by rw[hF];exact ZAZ (by omega) (by rw[List.length_take];omega)
 obtain⟨R,hR⟩:∃R,R=decR (b::t):=⟨_,rfl⟩
 rw[<-hR]at q0 ⊢;have g1:¬ (x:Int)<128:=by omega
 have g2:(x:Int) / 16=14:=by omega
 have g3:¬ (x:Int) / 32=6:=by omega
 have g4:¬ (x:Int) / 8=30:=by omega
 have g5:(x:Int)%16=(n0:Int):=by omega
 replace g0:=ZA g0;replace hF:=ZA hF;replace hx:=ZA hx;replace hb:=ZA hb;replace hB:=ZA hB;replace hR:=ZA hR;replace ht:=ZA ht;replace m0:=ZA m0;replace hq:=ZA hq;cases B with
 | false =>
  rw[if_neg (by simp)]at q0;simp only[Bool.false_eq_true,if_false]at h0;replace h0:=ZA h0;subst q0;go_enter Tryz.func156,Tryz.ntmps156;go_wp2_with fail;refine(h0.out _).mono ?_;rintro e w2 ⟨rfl,p0⟩;go_wp2_with fail;go_ret2;exact⟨rfl,p0⟩
 | true =>
  simp only[if_true]at h0;obtain⟨z,hz⟩:∃z:Int,z=(F:Int):=⟨_,rfl⟩
  rw[<-hz]at h0;have gz:0<=z:=by omega
  have gz8:z<8388608:=by omega
  replace h0:=ZA h0;simp only[true_and]at q0;by_cases hc:2048<=F
  ·by_cases hs:F<55296
   ·have k0:2048<=z:=by omega
    have k1:z<55296:=by omega
    rw[if_pos (by omega)]at q0;subst q0;replace j0:=ZA j0;simp only;rw[<-hz];replace hz:=ZA hz;go_enter Tryz.func156,Tryz.ntmps156;go_wp2_with fail;refine(h0.out _).mono ?_;rintro e w2 ⟨rfl,p0⟩;go_wp2_with fail;go_ret2;exact⟨rfl,p0⟩
   ·by_cases x0:57343<F
    ·have k0:2048<=z:=by omega
     have k1:¬ z<55296:=by omega
     have k2:57343<z:=by omega
     rw[if_pos (by omega)]at q0;subst q0;replace j0:=ZA j0;simp only;rw[<-hz];replace hz:=ZA hz;go_enter Tryz.func156,Tryz.ntmps156;go_wp2_with fail;refine(h0.out _).mono ?_;rintro e w2 ⟨rfl,p0⟩;go_wp2_with fail;go_ret2;exact⟨rfl,p0⟩
    ·have k0:2048<=z:=by omega
     have k1:¬ z<55296:=by omega
     have k2:¬ 57343<z:=by omega
     rw[if_neg (by omega)]at q0;subst q0;replace j0:=ZA j0;replace hz:=ZA hz;go_enter Tryz.func156,Tryz.ntmps156;go_wp2_with fail;refine(h0.out _).mono ?_;rintro e w2 ⟨rfl,p0⟩;go_wp2_with fail;go_ret2;exact⟨rfl,p0⟩
  ·have k0:¬ 2048<=z:=by omega
   rw[if_neg (by omega)]at q0;subst q0;replace j0:=ZA j0;replace hz:=ZA hz;go_enter Tryz.func156,Tryz.ntmps156;go_wp2_with fail;refine(h0.out _).mono ?_;rintro e w2 ⟨rfl,p0⟩;go_wp2_with fail;go_ret2;exact⟨rfl,p0⟩
theorem ZKi (l:List UInt8) (at_:Nat) (b:UInt8) (w:World) (hb:l[at_]? = some b) (hl:l.length<=1073741824) (hq:b.toNat / 8=30) :
 Calls Tryz.prog 156 #[.string ⟨l.toArray⟩,.int .i64 (at_:Int)] w fun e w'=>e = .returned (.tuple #[.int .i64 (decR (l.drop at_)).1,.int .i64 (decR (l.drop at_)).2])/\Ext w w':=by
 have t0:=(List.getElem?_eq_some_iff.1 hb).1;have u0:=fun W=>ZO hb (z:=(at_:Int)) rfl W;have h0:=fun W=>ZFD l at_ (b.toNat%8) 3 W hl (by omega) (by omega) t0;simp only[show (((3:Nat):Int)+1)=4 from rfl]at h0;have m0:l.drop at_=b::l.drop (at_+1):=by
  rw[List.drop_eq_getElem_cons t0];congr 1;exact(List.getElem?_eq_some_iff.1 hb).2
 rw[m0];obtain⟨t,ht⟩:∃t,t=l.drop (at_+1):=⟨_,rfl⟩
 rw[<-ht]at h0 ⊢;have q0:=ZO3 (t:=t) hq;obtain⟨n0,g0⟩:∃n0,n0=b.toNat%8:=⟨_,rfl⟩
 obtain⟨F,hF⟩:∃F,F=foldR (b.toNat%8) (t.take 3):=⟨_,rfl⟩
 rw[<-hF]at q0 h0;rw[<-g0]at h0;obtain⟨x,hx⟩:∃x,x=b.toNat:=⟨_,rfl⟩
 have v0:=b.toNat_lt;rw[<-hx]at u0 g0 hq v0;obtain⟨B,hB⟩:∃B,B=rowOk t 3:=⟨_,rfl⟩
 rw[<-hB]at h0 q0;have j0:F<8388608:=by rw[hF];exact ZAZ (by omega) (by rw[List.length_take];omega)
 obtain⟨R,hR⟩:∃R,R=decR (b::t):=⟨_,rfl⟩
 rw[<-hR]at q0 ⊢;have g1:¬ (x:Int)<128:=by omega
 have g2:(x:Int) / 8=30:=by omega
 have g3:¬ (x:Int) / 32=6:=by omega
 have g4:¬ (x:Int) / 16=14:=by omega
 have g5:(x:Int)%8=(n0:Int):=by omega
 replace g0:=ZA g0;replace hF:=ZA hF;replace hx:=ZA hx;replace hb:=ZA hb;replace hB:=ZA hB;replace hR:=ZA hR;replace ht:=ZA ht;replace m0:=ZA m0;replace hq:=ZA hq;cases B with
 | false =>
  rw[if_neg (by simp)]at q0;simp only[Bool.false_eq_true,if_false]at h0;replace h0:=ZA h0;subst q0;go_enter Tryz.func156,Tryz.ntmps156;go_wp2_with fail;refine(h0.out _).mono ?_;rintro e w2 ⟨rfl,p0⟩;go_wp2_with fail;go_ret2;exact⟨rfl,p0⟩
 | true =>
  simp only[if_true]at h0;obtain⟨z,hz⟩:∃z:Int,z=(F:Int):=⟨_,rfl⟩
  rw[<-hz]at h0;have gz:0<=z:=by omega
  have gz8:z<8388608:=by omega
  replace h0:=ZA h0;simp only[true_and]at q0;by_cases hc:65536<=F
  ·by_cases hs:F<=1114111
   ·have k0:65536<=z:=by omega
    have k1:z<=1114111:=by omega
    rw[if_pos (by omega)]at q0;subst q0;replace j0:=ZA j0;simp only;rw[<-hz];replace hz:=ZA hz;go_enter Tryz.func156,Tryz.ntmps156;go_wp2_with fail;refine(h0.out _).mono ?_;rintro e w2 ⟨rfl,p0⟩;go_wp2_with fail;go_ret2;exact⟨rfl,p0⟩
   ·have k0:65536<=z:=by omega
    have k1:¬ z<=1114111:=by omega
    rw[if_neg (by omega)]at q0;subst q0;replace j0:=ZA j0;replace hz:=ZA hz;go_enter Tryz.func156,Tryz.ntmps156;go_wp2_with fail;refine(h0.out _).mono ?_;rintro e w2 ⟨rfl,p0⟩;go_wp2_with fail;go_ret2;exact⟨rfl,p0⟩
  ·have k0:¬ 65536<=z:=by omega
   rw[if_neg (by omega)]at q0;subst q0;replace j0:=ZA j0;replace hz:=ZA hz;go_enter Tryz.func156,Tryz.ntmps156;go_wp2_with fail;refine(h0.out _).mono ?_;rintro e w2 ⟨rfl,p0⟩;go_wp2_with fail;go_ret2;exact⟨rfl,p0⟩
theorem ZHb (l:List UInt8) (at_:Nat) (w:World) (k0:at_<l.length) (hl:l.length<=1073741824) :
 Calls Tryz.prog 156 #[.string ⟨l.toArray⟩,.int .i64 (at_:Int)] w fun e w'=>e = .returned (.tuple #[.int .i64 (decR (l.drop at_)).1,.int .i64 (decR (l.drop at_)).2])/\Ext w w':=by
 obtain⟨b,hb⟩:∃b,l[at_]? = some b:=⟨_,List.getElem?_eq_getElem k0⟩
 have q0:l.drop at_=b::l.drop (at_+1):=by
  rw[List.drop_eq_getElem_cons k0,(List.getElem?_eq_some_iff.1 hb).2]
 by_cases p0:b.toNat<128
 ·have h0:decR (l.drop at_)=(b.toNat,1):=by
   rw[q0,decR,if_pos p0]
  rw[h0];have j0:=fun W=>ZO hb (z:=(at_:Int)) rfl W;have m0:(b.toNat:Int)<128:=by omega
  replace hb:=ZA hb;replace h0:=ZA h0;replace q0:=ZA q0;go_enter Tryz.func156,Tryz.ntmps156;go_wp2_with fail
  all_goals
   go_ret2;exact⟨rfl,Ext.refl w⟩
 ·by_cases h1:b.toNat / 32=6
  ·exact ZLT l at_ b w hb hl h1
  ·by_cases h2:b.toNat / 16=14
   ·exact ZKa l at_ b w hb hl h2
   ·by_cases h3:b.toNat / 8=30
    ·exact ZKi l at_ b w hb hl h3
    ·have h0:decR (l.drop at_)=(65533,1):=by
      rw[q0,ZO2 p0 h1 h2 h3]
     rw[h0];have j0:=fun W=>ZO hb (z:=(at_:Int)) rfl W;obtain⟨x,hx⟩:∃x,x=b.toNat:=⟨_,rfl⟩
     have t0:=b.toNat_lt;rw[<-hx]at j0 h1 h2 h3 p0 t0;have g0:¬ (x:Int)<128:=by omega
     have g1:¬ (x:Int) / 32=6:=by omega
     have g2:¬ (x:Int) / 16=14:=by omega
     have g3:¬ (x:Int) / 8=30:=by omega
     replace h1:=ZA h1;replace h2:=ZA h2;replace h3:=ZA h3;replace p0:=ZA p0;replace hx:=ZA hx;replace hb:=ZA hb;replace h0:=ZA h0;replace q0:=ZA q0;go_enter Tryz.func156,Tryz.ntmps156;go_wp2_with fail
     all_goals
      go_ret2;exact⟨rfl,Ext.refl w⟩
theorem ZJX (l:List UInt8) (w:World) (hl:l.length<=1073741824) :
 Calls Tryz.prog 100 #[.string ⟨l.toArray⟩] w (NewN w (runesL l)):=by
 have h0:=ZA (fun at_ W (h:at_<l.length)=>ZHb l at_ W h hl);obtain⟨n,hn⟩:∃n,n=l.length:=⟨_,rfl⟩
 have hlen:(⟨l.toArray⟩:ByteArray).size=n:=by rw[hn];exact ByteArray.size_mk_toArray l
 rw[<-hn]at hl h0;replace hn:=ZA hn;go_enter Tryz.func100,Tryz.ntmps100;go_wp2_with fail
 go_loopw [3,4] (fun s3 s4 wr=>∃(at_ c:Nat) (A:Option Addr) (D:List Nat),s3 = .slice A D.length c/\s4 = .int .i64 (at_:Int)/\at_<=n/\D.length<=at_/\Hid (runesL l=D++runesL (l.drop at_))/\Hid (Buf wr w.heap.size 3 A D.length c (D.map NV))/\Hid (Ext w wr)) (fun _ s4 _=>n - (intOf s4).toNat)
 case atStart=>exact⟨0,0,none,[],rfl,rfl,by omega,by simp,ZA rfl,ZA (Buf.nil _ _ _),ZA (Ext.refl w)⟩
 case round =>
  obtain⟨at_,c,A,D,rfl,rfl,a0,hD,g0,hb,hE⟩:=hrel;by_cases h:at_<n
  ·have q0:=ZGK (s:=l) (at_:=at_) (by rw[<-hn.out];exact h);obtain⟨r,hr⟩:∃r,r=(decR (l.drop at_)).1:=⟨_,rfl⟩
   obtain⟨k,hk⟩:∃k,k=(decR (l.drop at_)).2:=⟨_,rfl⟩
   rw[<-hr,<-hk,<-hn.out]at q0;have k0:=ZA q0.1;have x0:=q0.2.1;have y0:=q0.2.2;clear q0;have hd:=ZA (fun W=>h0.out at_ W h);rw[<-hr,<-hk]at hd;replace hr:=ZA hr;replace hk:=ZA hk;go_wp2_with fail;refine(hd.out _).mono ?_;rintro e w2 ⟨rfl,j0⟩;have v0:=ZA (hb.out.ext j0);have p0:=hE.out.trans j0;have z0:=p0.size;replace p0:=ZA p0;go_wp2_with (at_builtin;refine ZM ZIu v0.out (.tmp 17) (.tmp 19) rfl rfl rfl rfl (ZS rfl) (by simp;omega) z0 (fun A3 c3 w4 u0 t0=>?_));go_roundw
   case rel=>exact⟨at_+k,c3,A3,D ++ [r],by simp,by simp,by omega,by simp;omega,ZA (by rw[g0.out,k0.out];simp),ZA (by simpa [NV]using u0),ZA (t0 w p0.out (Nat.le_refl _))⟩
   case measure=>simp[intOf];omega
  ·obtain rfl:at_=n:=by omega
   have m0:D=runesL l:=by
    rw[g0.out,List.drop_eq_nil_of_le (by rw[<-hn.out];exact Nat.le_refl _),ZEu,List.append_nil]
   subst m0;go_wp2_with fail;go_ret;exact⟨A,c,rfl,hb.out,hE.out⟩
theorem ZEU {cur rs:List Nat} (hc:cur ≠ []) (h:∀r t,rs=r::t->wordR r=false):runsW cur rs=cur::runsW [] rs:=by
 cases rs with
 | nil=>rw[runsW,if_neg hc,runsW,if_pos rfl]
 | cons r t=>rw[ZBJ (h r t rfl) hc,ZAp (h r t rfl)]
theorem ZHH (l:List UInt8) (w:World) (hl:l.length<=1000000000):Calls Tryz.prog 55 #[.string ⟨l.toArray⟩] w (NewTk w (tokL l)):=by
 have y1:=ZA (fun W=>ZJX l W (by omega));have x1:=ZCO l;have s0:=ZF0 l;have x0:tokL l=(runsW [] (runesL l)).map (cutW []):=rfl;obtain⟨R,hR⟩:∃R,R=runesL l:=⟨_,rfl⟩
 rw[<-hR]at y1 x1 s0 x0;obtain⟨Z,hZ⟩:∃Z,Z=tokL l:=⟨_,rfl⟩
 rw[<-hZ]at x0 ⊢;obtain⟨m,hm⟩:∃m,m=R.length:=⟨_,rfl⟩
 have n1:m<=1000000001:=by omega
 have f1:=ZA (fun r W h=>ZG2 r W h);have a1:=ZA (fun rs A n c W h1 h2 h3 h4=>ZLy rs A n c W h1 h2 h3 h4);replace hZ:=ZA hZ;replace hR:=ZA hR;replace x0:=ZA x0;replace s0:=ZA s0;rw[<-hm]at x1;replace hm:=ZA hm;go_enter Tryz.func55,Tryz.ntmps55;go_wp2_with fail;refine(y1.out _).mono ?_;rintro e w2 ⟨A2,c2,rfl,w0,z0⟩;rw[<-hm.out]at w0 ⊢;have o1:=w0.2.1;have j1:=ZA (Buf.cells w0);replace z0:=ZA z0;replace w0:=ZA w0;go_wp2_with fail
 go_loopw [3,5] (fun s3 s5 wr=>∃(i k c3:Nat) (A3:Option Addr) (D:List (List Nat)),s3 = .slice A3 k c3/\s5 = .int .i64 (i:Int)/\i<=m/\k<=i/\Hid (k=D.length)/\Hid (runsW [] R=D++runsW [] (R.drop i))/\Hid (wr.ownsRow w2.heap.size 123 2 (.slice A3 k c3) k (tkV (D.map (cutW []))))/\Hid (Ext w2 wr)) (fun _ s5 _=>m - (intOf s5).toNat)
 case atStart=>exact⟨0,0,0,none,[],rfl,rfl,by omega,by omega,ZA rfl,ZA (by simp),ZA (World.ownsRow_nil _ _ _ _),ZA (Ext.refl w2)⟩
 case round =>
  obtain⟨i,k,c3,A3,D,rfl,rfl,him,l1,hk,b0,u0,hE⟩:=hrel;by_cases h:i<m
  ·obtain⟨gR,oR,hA,g1⟩:=j1.out.at_ (by rw[List.length_map,<-hm.out];omega);obtain⟨g2,b1⟩:∃g,A2=some ⟨g,0,none⟩:=by
    rcases w0.out.2.2 with ⟨h,_⟩ | ⟨g,_,h,_⟩
    ·rw[hA]at h;cases h
    ·exact⟨g,h⟩
   subst b1;cases hA;replace g1:=ZA g1;go_wp2_with fail
   go_loopw [6] (fun s6 wr2=>∃j:Nat,s6 = .int .i64 (j:Int)/\i<=j/\j<=m/\Hid (runsW [] (R.drop i)=runsW ((R.take j).drop i) (R.drop j))/\Hid (Ext wr wr2)) (fun s6 _=>m - (intOf s6).toNat)
   case atStart=>exact⟨i,rfl,by omega,by omega,ZA (by rw[ZBI]),ZA (Ext.refl wr)⟩
   case round =>
    obtain⟨j,rfl,c1,i1,t1,c0⟩:=hrel;by_cases hj:j<m
    ·obtain⟨r,d0⟩:∃r,R[j]? = some r:=⟨_,List.getElem?_eq_getElem (by rw[<-hm.out];exact hj)⟩
     have p1:=g1.out j (NV r) (by rw[List.getElem?_map,d0];rfl);rw[Nat.zero_add]at p1;replace p1:=(hE.out.trans c0.out).cell p1;unfold NV at p1;have z1:=s0.out r (List.mem_of_getElem? d0);have g0:=ZA (fun W=>f1.out r W (by omega));obtain⟨b,hb⟩:∃b,b=wordR r:=⟨_,rfl⟩
     rw[<-hb]at g0;replace z1:=ZA z1;replace hb:=ZA hb;replace d0:=ZA d0;cases b with
     | true =>
      go_wp2_with fail;refine(g0.out _).mono ?_;rintro e w4 ⟨rfl,f0⟩;go_wp2_with fail;refine⟨⟨j+1,rfl,by omega,by omega,ZA ?_,ZA (c0.out.trans f0)⟩,by simp only[intOf];omega⟩;rw[t1.out,ZE3 d0.out,ZBW hb.out.symm,ZFz d0.out c1]
     | false =>
      have q0:∀x t,R.drop j=x::t->wordR x=false:=by
       intro x t hx;rw[ZE3 d0.out]at hx;injection hx with h1 _;rw[<-h1];exact hb.out.symm
      by_cases o0:i<j
      ·have h0:runsW [] R=(D ++ [(R.take j).drop i])++runsW [] (R.drop j):=by
        rw[b0.out,t1.out,ZEU (ZDS o0 (by rw[<-hm.out];omega)) q0,List.append_assoc];rfl
       replace h0:=ZA h0;have j0:∀x∈(R.take j).drop i,x<=1114111:=fun x hx=>s0.out x (List.mem_of_mem_take (List.mem_of_mem_drop hx));have p0:j - i=((R.take j).drop i).length:=by rw[List.length_drop,List.length_take,<-hm.out];omega
       have n0:=ZA (fun c W (hh:Cells W (some ⟨gR,i,none⟩) (((R.take j).drop i).map NV))=>a1.out ((R.take j).drop i) (some ⟨gR,i,none⟩) (j - i) c W p0 hh j0 (by omega));have v0:=ZDg j1.out i j;rw[<-List.map_take,<-List.map_drop]at v0;obtain⟨t,ht⟩:∃t,t=cutW [] ((R.take j).drop i):=⟨_,rfl⟩
       rw[<-ht]at n0;have y0:(D ++ [(R.take j).drop i]).map (cutW [])=D.map (cutW []) ++ [t]:=by rw[List.map_append,ht];rfl
       obtain⟨cu,l0⟩:∃cu,cu=(R.take j).drop i:=⟨_,rfl⟩
       rw[<-l0]at n0 v0 h0 y0;replace q0:=ZA q0;replace j0:=ZA j0;replace p0:=ZA p0;replace v0:=ZA v0;replace ht:=ZA ht;replace y0:=ZA y0;replace l0:=ZA l0;go_wp2_with fail;refine(g0.out _).mono ?_;rintro e w4 ⟨rfl,f0⟩;go_wp2_with fail;have m0:=ZA ((hE.out.trans c0.out).trans f0);have i0:=ZA (v0.out.ext m0.out);refine(n0.out _ _ i0.out).mono ?_;rintro e w5 ⟨rfl,a0⟩;have t0:=ZA (m0.out.trans a0);have k0:=ZA (a0.owns (f0.owns (c0.out.owns u0.out)));have r0:=t0.out.size;replace a0:=ZA a0;go_wp2_with (at_builtin;refine Z7 (m:=1) ZJt k0.out (.tmp 32) (.tmp 41) rfl rfl rfl rfl rfl (ZS rfl) (by omega) r0 (fun A6 c6 w6 v1 m1 e1=>?_));have e0:=t0.out.grown m1 (fun q hq=>(k0.out.lt q hq).1);refine⟨⟨j,k+1,c6,A6,D ++ [cu],rfl,rfl,by omega,by omega,ZA (by rw[List.length_append,<-hk.out];rfl),h0,ZA ?_,ZA e0⟩,by simp only[intOf];omega⟩;rw[y0.out,ZFE,List.length_map,<-hk.out];exact v1
      ·obtain rfl:i=j:=by omega
       have u1:=ZA q0;clear q0;go_wp2_with fail;refine(g0.out _).mono ?_;rintro e w4 ⟨rfl,f0⟩;go_wp2_with fail;refine⟨⟨i+1,k,c3,A3,D,rfl,rfl,by omega,by omega,hk,ZA ?_,ZA (f0.owns (c0.out.owns u0.out)),ZA ((hE.out.trans c0.out).trans f0)⟩,by simp only[intOf];omega⟩;rw[b0.out,ZE3 d0.out,ZAp hb.out.symm]
    ·obtain rfl:j=m:=by omega
     have o0:i<j:=h;have q0:∀x t,R.drop j=x::t->wordR x=false:=by
      intro x t hx;rw[List.drop_eq_nil_of_le (by rw[<-hm.out];exact Nat.le_refl _)]at hx;cases hx
     have h0:runsW [] R=(D ++ [(R.take j).drop i])++runsW [] (R.drop j):=by
      rw[b0.out,t1.out,ZEU (ZDS o0 (by rw[<-hm.out];omega)) q0,List.append_assoc];rfl
     replace h0:=ZA h0;have j0:∀x∈(R.take j).drop i,x<=1114111:=fun x hx=>s0.out x (List.mem_of_mem_take (List.mem_of_mem_drop hx));have p0:j - i=((R.take j).drop i).length:=by rw[List.length_drop,List.length_take,<-hm.out];omega
     have n0:=ZA (fun c W (hh:Cells W (some ⟨gR,i,none⟩) (((R.take j).drop i).map NV))=>a1.out ((R.take j).drop i) (some ⟨gR,i,none⟩) (j - i) c W p0 hh j0 (by omega));have v0:=ZDg j1.out i j;rw[<-List.map_take,<-List.map_drop]at v0;obtain⟨t,ht⟩:∃t,t=cutW [] ((R.take j).drop i):=⟨_,rfl⟩
     rw[<-ht]at n0;have y0:(D ++ [(R.take j).drop i]).map (cutW [])=D.map (cutW []) ++ [t]:=by rw[List.map_append,ht];rfl
     obtain⟨cu,l0⟩:∃cu,cu=(R.take j).drop i:=⟨_,rfl⟩
     rw[<-l0]at n0 v0 h0 y0;replace q0:=ZA q0;replace j0:=ZA j0;replace p0:=ZA p0;replace v0:=ZA v0;replace ht:=ZA ht;replace y0:=ZA y0;replace l0:=ZA l0;go_wp2_with fail;have m0:=ZA (hE.out.trans c0.out);have i0:=ZA (v0.out.ext m0.out);refine(n0.out _ _ i0.out).mono ?_;rintro e w5 ⟨rfl,a0⟩;have t0:=ZA (m0.out.trans a0);have k0:=ZA (a0.owns (c0.out.owns u0.out));have r0:=t0.out.size;replace a0:=ZA a0;go_wp2_with (at_builtin;refine Z7 (m:=1) ZJt k0.out (.tmp 32) (.tmp 41) rfl rfl rfl rfl rfl (ZS rfl) (by omega) r0 (fun A6 c6 w6 v1 m1 e1=>?_));have e0:=t0.out.grown m1 (fun q hq=>(k0.out.lt q hq).1);refine⟨⟨j,k+1,c6,A6,D ++ [cu],rfl,rfl,by omega,by omega,ZA (by rw[List.length_append,<-hk.out];rfl),h0,ZA ?_,ZA e0⟩,by simp only[intOf];omega⟩;rw[y0.out,ZFE,List.length_map,<-hk.out];exact v1
  ·obtain rfl:i=m:=by omega
   have k1:runsW [] R=D:=by
    rw[b0.out,List.drop_eq_nil_of_le (by rw[<-hm.out];exact Nat.le_refl _),runsW,if_pos rfl,List.append_nil]
   have q1:Z=D.map (cutW []):=by rw[x0.out,k1]
   have d1:k=Z.length:=by rw[q1,List.length_map];exact hk.out
   rw[<-q1]at u0;replace k1:=ZA k1;replace q1:=ZA q1;subst d1;go_wp2_with fail;go_ret;exact⟨A3,c3,rfl,World.ownsRow.mono u0.out z0.out.size,z0.out.trans hE.out⟩
theorem ZBV {e:Ev} {p:List UInt8×List Int} (h:p∈termsL e):checkE e.fs=0/\p.2=valsOf (rawT 0 e.fs) p.1/\p.2 ≠ []:=by
 unfold termsL at h;split at h
 ·rename_i h0;exact⟨h0,((ZA6 _).mem p).1 h⟩
 ·cases h
theorem ZH7:∀(fs:List Fd) (b:Nat) (q:List UInt8×Int),q∈rawT b fs->∃f∈fs,∃w∈tokL f.2,q.1=f.1++58::w
 | [],b,q,h=>by cases h
 | f::fs,b,q,h=>by
  unfold rawT at h;rcases List.mem_append.1 h with h | h
  ·unfold fieldT at h;obtain⟨p,hp,rfl⟩:=List.mem_map.1 h;obtain⟨w,i⟩:=p;have:=List.mem_zipIdx hp;exact⟨f,List.mem_cons_self ..,w,by rw[this.2.2];exact List.getElem_mem _,rfl⟩
  ·obtain⟨g,hg,w,hw,he⟩:=ZH7 fs _ q h;exact⟨g,List.mem_cons_of_mem _ hg,w,hw,he⟩
theorem ZDd {β:Type} {ps:List (List UInt8×β)} {s:List UInt8} (h:valsOf ps s ≠ []):∃p∈ps,p.1=s:=Decidable.byContradiction fun hn=>h (ZBG fun p hp e=>hn ⟨p,hp,e⟩)
theorem ZFf {β:Type} (ps:List (List UInt8×β)) (s:List UInt8):(valsOf ps s).length<=ps.length:=by
 unfold valsOf;rw[List.length_map];exact List.length_filter_le ..
theorem ZCJ {e:Ev} {p:List UInt8×List Int} (h:p∈termsL e):1<=p.1.length/\p.1.length<=65:=by
 obtain⟨h0,h1,h2⟩:=ZBV h;rw[h1]at h2;obtain⟨q,hq,q0⟩:=ZDd h2;obtain⟨f,hf,w,hw,he⟩:=ZH7 _ _ q hq;have p0:=(Zd h0).2 f hf;have k0:=ZDW hw;rw[<-q0,he,List.length_append,List.length_cons];omega
theorem ZGA {e:Ev} {p:List UInt8×List Int} (h:p∈termsL e):p.2.length<=65536:=by
 obtain⟨h0,h1,h2⟩:=ZBV h;have h3:=ZFf (rawT 0 e.fs) p.1;have h4:=ZAy (k:=4096) e.fs 0 fun f hf=>((Zd h0).2 f hf).2;have h5:=(Zd h0).1;rw[h1];omega
theorem ZII {β:Type} (p:List UInt8×β):∀(l:List (List UInt8×List β)),(addG p l).length<=l.length+1
 | []=>by simp[addG]
 | x::xs=>by
  have:=ZII p xs;unfold addG;split
  ·simp only[List.length_cons];omega
  ·split
   ·simp only[List.length_cons];omega
   ·simp only[List.length_cons];omega
theorem ZFs {β:Type}:∀(ps:List (List UInt8×β)) (l:List (List UInt8×List β)),(ps.foldl (fun l p=>addG p l) l).length<=l.length+ps.length
 | [],l=>by simp
 | p::ps,l=>by
  have h1:=ZFs ps (addG p l);have h2:=ZII p l;rw[List.foldl_cons,List.length_cons];omega
theorem ZDH {β:Type} (ps:List (List UInt8×β)):(grp ps).length<=ps.length:=by
 have:=ZFs ps [];unfold grp;simpa using this
theorem ZIy (e:Ev):(termsL e).length<=65536:=by
 unfold termsL;split
 ·rename_i h0;have h3:=ZDH (rawT 0 e.fs);have h4:=ZAy (k:=4096) e.fs 0 fun f hf=>((Zd h0).2 f hf).2;have h5:=(Zd h0).1;omega
 ·simp
end
section
open Go.RowKit Go.Maps
theorem ZOK {D:List TmC} {X:List (List UInt8×Int)} {L:Nat} (h:tmR D=grp X) (hX:X.length<=L):D.length<=L/\∀x∈D,x.pos.length<=L:=by
 have h1:=ZDH X;rw[<-h]at h1;unfold tmR at h1;rw[List.length_map]at h1;refine⟨by omega,fun x hx=>?_⟩;have h2:x.tm∈grp X:=by rw[<-h];exact List.mem_map.2 ⟨x,hx,rfl⟩
 have h3:=((ZA6 X).mem x.tm).1 h2;have h4:=ZFf X x.tm.1;rw[<-h3.1]at h4;exact Nat.le_trans h4 hX
theorem AddA.nil {w w':World} {R:List (List UInt8×List Int)} (hR:R = []) (hE:Ext w w'):AddA w R (.returned (.slice none 0 0)) w':=⟨[],none,0,0,rfl,hR.symm,TmsR.nil _,hE⟩
theorem ZLQ {fs:List Fd} {i:Nat} {f:Fd} (h:fs[i]? = some f):rawT 0 (fs.take (i+1))=rawT 0 (fs.take i)++fieldT (baseT 0 (fs.take i)) f/\baseT 0 (fs.take (i+1))=baseT 0 (fs.take i)+(tokL f.2).length+64:=by
 rw[List.take_add_one,h];refine⟨?_,?_⟩
 ·rw[ZFS];show _++(fieldT _ f ++ [])=_;rw[List.append_nil]
 ·rw[ZDr];show nextT _ f=_;unfold nextT;omega
theorem ZI3 (e:Ev) (A:Option Addr) (c:Nat) (w:World) (h:e.Ok w A):Calls Tryz.prog 12 #[e.val A c] w fun en w'=>AddA w (termsL e) en w':=by
 obtain⟨at_,fs⟩:=e;unfold Ev.val;simp only;obtain⟨n,hn⟩:∃n,n=fs.length:=⟨_,rfl⟩
 rw[<-hn];have p1:Ext w (w.alloc (.cells #[.int .i64 at_,.slice A n c] 37)):=(Ext.refl w).alloc _;have r0:Row (w.alloc (.cells #[.int .i64 at_,.slice A n c] 37)) w.heap.size 37 #[.int .i64 at_,.slice A n c]:=Row.new w _ _;have g0:=ZBm ⟨at_,fs⟩ A c (w.alloc (.cells #[.int .i64 at_,.slice A n c] 37)) (h.ext p1);unfold Ev.val at g0;simp only at g0;rw[<-hn]at g0;obtain⟨Z,hZ⟩:∃Z,Z=termsL ⟨at_,fs⟩:=⟨_,rfl⟩
 rw[<-hZ];unfold termsL at hZ;simp only at hZ;obtain⟨q,hq⟩:∃q,q=checkE fs:=⟨_,rfl⟩
 rw[<-hq]at g0;have y0:=r0.cell 0 rfl;have y1:=r0.cell 1 rfl;replace g0:=ZA g0;replace hn:=ZA hn;by_cases o0:q=0
 ·have k0:=Zd (fs:=fs) (by rw[<-hq];exact o0);rw[if_pos (by rw[<-hq];exact o0)]at hZ;have d2:n<=16:=by rw[hn.out];exact k0.1
  have u0:∀f∈fs,f.2.length<=4096:=fun f hf=>(k0.2 f hf).2;have x1:=ZAy (k:=4096) fs 0 u0;have t0:=fun i=>ZCu (k:=4096) (fs.take i) 0 fun f hf=>u0 f (List.mem_of_mem_take hf);have z1:=fun i=>ZAy (k:=4096) (fs.take i) 0 fun f hf=>u0 f (List.mem_of_mem_take hf);have t1:=ZA (fun D A n c s z W (h:TmsR W A n c D) (hs:s.length<=9223372036854775807) (f2:n<=1000000) (i2:∀x∈D,x.pos.length<=1000000)=>ZMg D A n c s z W h hs f2 i2);have b1:=ZA (fun l W (hl:l.length<=1000000000)=>ZHH l W hl);have x2:=ZA (fun f (hf:f∈fs)=>k0.2 f hf);replace hZ:=ZA hZ;replace hq:=ZA hq;replace t0:=ZA t0;replace z1:=ZA z1;replace h:=ZA h;subst o0;clear x1 k0 u0;go_enter Tryz.func12,Tryz.ntmps12;go_wp2_with fail;refine g0.out.mono ?_;rintro e w1 ⟨rfl,p0⟩;have n1:=ZA (r0.ext p0);have z0:=ZA (p1.trans p0);obtain⟨ge,n0⟩:∃ge,ge=w.heap.size:=⟨_,rfl⟩
  rw[<-n0]at n1;clear y0 y1 r0 p0;go_wp2_with fail;rw[<-n0];replace n0:=ZA n0
  go_loopw [3,4,5] (fun s3 s4 s5 wr=>∃(i n' c' bs:Nat) (D:List TmC) (A':Option Addr),s3 = .slice A' n' c'/\s4 = .int .i64 (bs:Int)/\s5 = .int .i64 (i:Int)/\i<=n/\Hid (bs=baseT 0 (fs.take i))/\Hid (tmR D=grp (rawT 0 (fs.take i)))/\Hid (TmsR wr A' n' c' D)/\Hid (Ext w1 wr)) (fun _ _ s5 _=>n - (intOf s5).toNat)
  case atStart=>exact⟨0,0,0,0,[],none,rfl,rfl,rfl,by omega,ZA rfl,ZA rfl,ZA (TmsR.nil _),ZA (Ext.refl _)⟩
  case round =>
   obtain⟨i,n',c',bs,D,A',rfl,rfl,rfl,hi,f0,hD,hT,hE⟩:=hrel;have y1:wr.cell? ⟨ge,1,none⟩=some (.slice A n c):=(n1.out.ext hE.out).cell 1 rfl;have m2:=t0.out i;rw[<-f0.out,List.length_take]at m2;by_cases y2:i<n
   ·obtain⟨f,hf⟩:∃f,fs[i]? = some f:=⟨_,List.getElem?_eq_getElem (by rw[<-hn.out];exact y2)⟩
    have u2:=x2.out f (List.mem_of_getElem? hf);obtain⟨g,o,hA,j0,j1⟩:=Zu (h.out.cells.ext (z0.out.trans hE.out)) hf;have m0:=ZLQ hf;obtain⟨nm,tx⟩:=f;simp only at u2 j0 j1 m0;unfold strV at j0 j1;have x0:=b1.out tx wr (by omega);have u0:=ZA4 tx;have s0:=fun x hx=>ZDW (l:=tx) (x:=x) hx;obtain⟨T,b0⟩:∃T,T=tokL tx:=⟨_,rfl⟩
    rw[<-b0]at x0 m0 u0 s0;unfold NewTk at x0;obtain⟨nt,d0⟩:∃nt,nt=T.length:=⟨_,rfl⟩
    rw[<-d0]at x0 m0 u0;rw[<-f0.out]at m0;obtain⟨wo,rfl⟩:∃wo,wo=wr:=⟨_,rfl⟩
    have z2:=ZA (fun W (hE:Ext wo W)=>hE.cell j0);have l2:=ZA (fun W (hE:Ext wo W)=>hE.cell y1);subst hA;replace x0:=ZA x0;replace b0:=ZA b0;replace d0:=ZA d0;replace s0:=ZA s0;replace m0:=ZA m0;replace f0:=ZA f0;go_wp2_with fail;refine x0.out.mono ?_;rintro e wt ⟨AT,cT,rfl,i1,a0⟩;have v2:=ZA (Cells.of_own i1);have d1:=ZA (hT.out.ext a0);have p2:=ZA (hE.out.trans a0);clear i1 j0 j1 y1 hT;replace a0:=ZA a0;go_wp2_with fail
    go_loopw [3,7] (fun s3 s7 wi=>∃(k n2 c2:Nat) (D2:List TmC) (A2:Option Addr),s3 = .slice A2 n2 c2/\s7 = .int .i64 (k:Int)/\k<=nt/\Hid (tmR D2=grp (rawT 0 (fs.take i)++(fieldT bs (nm,tx)).take k))/\Hid (TmsR wi A2 n2 c2 D2)/\Hid (Ext wt wi)) (fun _ s7 _=>nt - (intOf s7).toNat)
    case atStart=>exact⟨0,n',c',D,A',rfl,rfl,by omega,ZA (by rw[List.take_zero,List.append_nil];exact hD.out),d1,ZA (Ext.refl _)⟩
    case round =>
     clear d1;obtain⟨k,n2,c2,D2,A2,rfl,rfl,hk,w0,g1,e0⟩:=hrel;by_cases b2:k<nt
     ·obtain⟨x,hx⟩:∃x,T[k]? = some x:=⟨_,List.getElem?_eq_getElem (by rw[<-d0.out];exact b2)⟩
      have s2:=s0.out x (List.mem_of_getElem? hx);have h0:=ZH8 hx (j:=0) (by omega);have h1:=ZH8 hx (j:=1) (by omega);obtain⟨g2,o2,o1,v1⟩:=(v2.out.ext e0.out).at_ (by have:=(List.getElem?_eq_some_iff.1 h0).1;omega);have l0:wr.cell? ⟨g2,o2+k*2,none⟩=some (.string ⟨x.toArray⟩):=by
       have:=v1 _ _ h0;exact this
      have l1:wr.cell? ⟨g2,o2+k*2+1,none⟩=some (.int .i64 (k:Int)):=by
       have:=v1 _ _ h1;rw[Nat.add_assoc];exact this
      have i0:=ZGU (base:=bs) (f:=(nm,tx)) (i:=k) (x:=x) (by rw[<-b0.out];exact hx);simp only at i0;obtain⟨S,hS⟩:∃S,S=nm++58::x:=⟨_,rfl⟩
      rw[<-hS]at i0;have k2:S.length<=9223372036854775807:=by rw[hS,List.length_append,List.length_cons];omega
      have v0:ByteArray.mk nm.toArray++ByteArray.mk #[58]++ByteArray.mk x.toArray=⟨S.toArray⟩:=by
       have h1:=ZIQ nm [58];have h2:=ZIQ (nm ++ [58]) x;rw[hS,h1,h2];simp
      have hX:(rawT 0 (fs.take i)++(fieldT bs (nm,tx)).take k).length<=100000:=by
       have a1:=z1.out i;rw[List.length_take]at a1;rw[List.length_append,List.length_take,ZAf];have a2:=ZA4 tx;omega
      obtain⟨j2,e1⟩:=ZOK w0.out hX;have e2:n2<=1000000:=by rw[g1.out.len];omega
      have q0:=t1.out D2 A2 n2 c2 S ((bs:Int)+(k:Int)) wr.drew (g1.out.ext (Ext.refl wr).drew) k2 e2 (fun y hy=>by have:=e1 y hy;omega);have f1:addG (S,(bs:Int)+(k:Int)) (tmR D2)=grp (rawT 0 (fs.take i)++(fieldT bs (nm,tx)).take (k+1)):=by
       rw[w0.out,<-ZC0,List.append_assoc,List.take_add_one,i0];rfl
      rw[f1]at q0;have c1:=a0.out.trans e0.out;have y1:=l2.out wr c1;have j0:=z2.out wr c1;subst o1;replace q0:=ZA q0;replace v0:=ZA v0;clear v1 h0 h1 i0 f1 j2 e1 hX hx;replace hS:=ZA hS;go_wp2_with fail;refine ZB follows (by kernel_rfl) (by kernel_rfl) (fun K hK=>?_);go_wp2_with fail;rw[v0.out];refine q0.out.mono ?_;rintro e w5 ⟨D5,A5,n5,c5,rfl,q1,m1,q2⟩;have q1:=ZA q1;have m1:=ZA m1;have k1:=ZA (e0.out.trans ((Ext.refl _).drew.trans q2));clear l0 l1 y1 j0;go_wp2_with fail;refine⟨by kernel_rfl,?_⟩;go_wp2_with fail;go_roundw
      case rel=>exact⟨k+1,n5,c5,D5,A5,rfl,by go_num,by omega,q1,m1,k1⟩
      case measure=>simp only[intOf];omega
     ·obtain rfl:k=nt:=by omega
      have c0:(fieldT bs (nm,tx)).take k=fieldT bs (nm,tx):=List.take_of_length_le (by rw[ZAf];simp only;rw[<-b0.out,<-d0.out];exact Nat.le_refl _);have r1:=ZA (show tmR D2=grp (rawT 0 (fs.take (i+1)))by rw[w0.out,c0,m0.out.1]);have t2:((bs+k+64:Nat):Int)=(bs:Int)+(k:Int)+64:=by omega
      have s1:=ZA (p2.out.trans e0.out);clear c0;go_wp2_with fail;go_roundw
      case rel=>exact⟨i+1,n2,c2,bs+k+64,D2,A2,rfl,by rw[t2],by go_num,by omega,ZA m0.out.2.symm,r1,g1,s1⟩
      case measure=>simp only[intOf];omega
   ·obtain rfl:i=n:=by omega
    have u1:=ZA (show tmR D=Z by rw[hD.out,hZ.out,hn.out,List.take_length]);go_wp2_with fail;go_ret;exact⟨D,A',n',c',rfl,u1.out,hT.out,z0.out.trans hE.out⟩
 ·rw[if_neg (by rw[<-hq];exact o0)]at hZ;have r2:((q:Int) != 0)=true:=by simp;omega
  replace hZ:=ZA hZ;replace hq:=ZA hq;go_enter Tryz.func12,Tryz.ntmps12;go_wp2_with fail;refine g0.out.mono ?_;rintro e w1 ⟨rfl,p0⟩;go_wp2_with fail;go_ret;exact AddA.nil hZ.out (p1.trans p0)
end
section
open Go.RowKit
theorem ZMx {P:Program} {ops:Array Oper} {o:Oper} {a:Act} {w:World} {K:Act->World->Prop} {Q:Exit->Act->World->Prop} {E0:Prop} {t e size bytes:Nat} (E:Elem P t e size bytes) (k0:o.guard=none)
 {base:Nat} {v:Value} {n:Nat} {xs:List Value} {A:Option Addr} {m c:Nat} {news:List Value} (q0:w.ownsRow base e size v n xs) (hr:Cells w A news) (s x:Operand)
 (ho:o.op = .call { callee:= .builtin .append,args:=#[s,x],argTypes:=#[t,t] })
 (hs:a.eval s=v) (hx:a.eval x = .slice A m c) (hl:news.length=m*size) (h1:∀u∈news,u.oneCell'=true) (j0:n+m<=4294967296) (h0:base<=w.heap.size)
 (h:∀A1 c1 w',w'.ownsRow base e size (.slice A1 (n+m) c1) (n+m) (xs++news)->w.grownBy w' v.ownBlock->K (a.put o.dst (.slice A1 (n+m) c1)) w') :
 if Region.wanted o (yielded ops a.tmps)=true then Oper.wp P o a w K Q else E0:=by
 rw[if_pos (by simp[Region.wanted,k0])];obtain⟨A1,c1,w',p0,h2,h3,h4⟩:=ZBo (P:=P) E w o.type q0 (c:=c) hr hl h1 j0 h0;unfold Oper.wp execOp;simp only[ho,resolve,invoke,builtin,Sem.run_bind,Sem.run_pure,Result.andThen_ok,List.map_toArray,List.map_cons,List.map_nil,hs,hx,p0];exact h A1 c1 w' h2 h3
theorem ZKV {P:Program} {ops:Array Oper} {o:Oper} {a:Act} {w0:World} {K:Act->World->Prop} {Q:Exit->Act->World->Prop} {E0:Prop} {us:List Value} {T:TypeId} {t e size bytes m k:Nat} (E:Elem P t e size bytes) (p0:o.guard=none)
 {base:Nat} {v:Value} {n:Nat} {xs:List Value} (h0:w0.ownsRow base e size v n xs) (hk:k=w0.heap.size) (s x:Operand)
 (ho:o.op = .call { callee:= .builtin .append,args:=#[s,x],argTypes:=#[t,t] })
 (hs:a.eval s=v) (hx:a.eval x = .slice (some ⟨k,0,none⟩) m m) (hl:us.length=m*size) (h1:∀u∈us,u.oneCell'=true) (j0:n+m<=4294967296) (q0:base<=w0.heap.size)
 (h:∀A1 c1 w',w'.ownsRow base e size (.slice A1 (n+m) c1) (n+m) (xs++us)->w0.grownBy w' v.ownBlock->K (a.put o.dst (.slice A1 (n+m) c1)) w') :
 if Region.wanted o (yielded ops a.tmps)=true then Oper.wp P o a (w0.alloc (.cells us.toArray T)) K Q else E0:=by
 subst hk;refine ZMx E p0 (((Ext.refl w0).alloc _).owns h0) (A:=some ⟨w0.heap.size,0,none⟩) (news:=us) (.inr ⟨w0.heap.size,0,rfl,fun i u hu=>?_⟩) s x ho hs hx hl h1 j0 (by simp;omega) fun A1 c1 w' h2 h3=>?_
 ·rw[Nat.zero_add,cell_of_row _ _ _ _ _ _ (heap_alloc_new w0 _)];simpa using hu
 ·exact h A1 c1 w' h2 ⟨h3.os,h3.tape,h3.output,Nat.le_trans (by simp) h3.size,fun k hk k0=>(h3.block k (by simp;omega) k0).trans (Below.heap_alloc w0 _ k hk)⟩
end
section
open Go.RowKit
section
variable {β:Type}
def gsum (f:β->Nat) (r:List (List UInt8×List β)):Nat:=(r.map fun x=>(x.2.map f).sum).sum
theorem ZHr (f:β->Nat) (p:List UInt8×β):∀(l:List (List UInt8×List β)),gsum f (addG p l)=gsum f l+f p.2
 | []=>by simp[addG,gsum]
 | x::xs=>by
  have ih:=ZHr f p xs;unfold gsum at ih ⊢;unfold addG;split
  ·simp only[List.map_cons,List.sum_cons];omega
  ·split
   ·simp only[List.map_cons,List.sum_cons,List.map_append,List.sum_append,List.map_nil,List.sum_nil];omega
   ·simp only[List.map_cons,List.sum_cons,List.map_nil,List.sum_nil];omega
theorem ZF7 (f:β->Nat):∀(ps:List (List UInt8×β)) (l:List (List UInt8×List β)),gsum f (ps.foldl (fun l p=>addG p l) l)=gsum f l+(ps.map fun p=>f p.2).sum
 | [],l=>by simp
 | p::ps,l=>by
  rw[List.foldl_cons,ZF7 f ps,ZHr,List.map_cons,List.sum_cons];omega
theorem ZC4 (f:β->Nat) (ps:List (List UInt8×β)):gsum f (grp ps)=(ps.map fun p=>f p.2).sum:=by
 unfold grp;rw[ZF7];simp[gsum]
theorem ZFV (r:List (List UInt8×List β)):gsum (fun _=>1) r=(r.map fun x=>x.2.length).sum:=by
 unfold gsum;congr 1;refine List.map_congr_left fun x _=>?_
 induction x.2 with
 | nil=>rfl
 | cons y ys ih=>rw[List.map_cons,List.sum_cons,ih,List.length_cons];omega
theorem ZHT (ps:List β):(ps.map fun _=>1).sum=ps.length:=by
 induction ps with
 | nil=>rfl
 | cons y ys ih=>rw[List.map_cons,List.sum_cons,ih,List.length_cons];omega
end
theorem ZFL:∀(fs:List Fd) (b:Nat),(rawT b fs).length<=(putFs fs).length
 | [],b=>by simp[rawT]
 | f::fs,b=>by
  have h1:=ZFL fs (nextT b f);have h2:=ZA4 f.2;have h3:f.2.length<=(putF f).length:=by unfold putF txL;simp only[List.length_append];omega
  have h4:putFs (f::fs)=putF f++putFs fs:=rfl;unfold rawT;rw[h4,List.length_append,ZAf,List.length_append];omega
theorem ZJc (e:Ev):((termsL e).map fun p=>p.2.length).sum<=(putE e).length:=by
 unfold termsL;split
 ·have h1:=ZC4 (fun _=>1) (rawT 0 e.fs);rw[ZFV,ZHT]at h1;rw[h1];have h2:=ZFL e.fs 0;unfold putE;simp only[List.length_append];omega
 ·simp
theorem ZHn (e:Ev):(termsL e).length<=(putE e).length:=by
 unfold termsL;split
 ·have h1:=ZDH (rawT 0 e.fs);have h2:=ZFL e.fs 0;unfold putE;simp only[List.length_append];omega
 ·simp
theorem ZEP:∀(P:List Dc) (i:Nat) (lo:Int),((pairsD i P).map fun p=>p.2.2.length).sum<=(blockD lo P).length
 | [],i,lo=>by simp[pairsD]
 | d::t,i,lo=>by
  have h1:=ZEP t (i+1) d.1;have h2:=ZJc d.2;unfold pairsD blockD oneD;rw[List.map_append,List.sum_append,List.map_map];simp only[List.length_append];have h3:(((termsL d.2).map ((fun(p:List UInt8×Po)=>p.2.2.length)∘fun p=>(p.1,((i:Int),p.2))))).sum=((termsL d.2).map fun p=>p.2.length).sum:=rfl;omega
theorem ZEy:∀(P:List Dc) (i:Nat) (lo:Int),(pairsD i P).length<=(blockD lo P).length
 | [],i,lo=>by simp[pairsD]
 | d::t,i,lo=>by
  have h1:=ZEy t (i+1) d.1;have h2:=ZHn d.2;unfold pairsD blockD oneD;rw[List.length_append,List.length_map];simp only[List.length_append];omega
theorem ZLk {n:Int}:∀ {l:List Int} {lo:Int},l.Pairwise (fun a b=>a<b)->(∀x∈l,lo<x/\x<n)->risB n lo l=true
 | [],lo,_,_=>rfl
 | x::t,lo,hp,h=>by
  obtain⟨h1,h2⟩:=List.pairwise_cons.1 hp;have hx:=h x (List.mem_cons_self ..);unfold risB;rw[ZLk h2 fun y hy=>⟨h1 y hy,(h y (List.mem_cons_of_mem _ hy)).2⟩];simp[hx.1,hx.2]
theorem ZKg:∀(fs:List Fd) (b:Nat),(rawT b fs).Pairwise (fun x y=>x.2<y.2)/\∀x∈rawT b fs,(b:Int)<=x.2/\x.2<(baseT b fs:Nat)
 | [],b=>⟨List.Pairwise.nil,nofun⟩
 | f::fs,b=>by
  obtain⟨h1,h2⟩:=ZKg fs (nextT b f);have p0:nextT b f<=baseT (nextT b f) fs:=by
   have key:∀(fs:List Fd) (b:Nat),b<=baseT b fs:=fun fs=>by
    induction fs with
    | nil=>exact fun b=>Nat.le_refl _
    | cons g gs ih=>exact fun b=>Nat.le_trans (by unfold nextT;omega) (ih (nextT b g))
   exact key _ _
  have j0:nextT b f=b+(64+(tokL f.2).length):=rfl;have h0:∀x∈fieldT b f,(b:Int)<=x.2/\x.2<(b+(tokL f.2).length:Nat):=fun x hx=>by
   unfold fieldT at hx;obtain⟨p,hp,rfl⟩:=List.mem_map.1 hx;have:=List.mem_zipIdx hp;simp only;omega
  have q0:(fieldT b f).Pairwise (fun x y=>x.2<y.2):=by
   unfold fieldT;rw[List.pairwise_map];rw[List.pairwise_iff_getElem];intro i j hi hj k0;simp only[List.getElem_zipIdx];omega
  unfold rawT baseT;refine⟨List.pairwise_append.2 ⟨q0,h1,fun x hx y hy=>?_⟩,fun x hx=>?_⟩
  ·have a1:=h0 x hx;have a2:=h2 y hy;omega
  ·rcases List.mem_append.1 hx with hx | hx
   ·have a1:=h0 x hx;omega
   ·have a2:=h2 x hx;omega
theorem ZJH {e:Ev} {p:List UInt8×List Int} (h:p∈termsL e):risB 1048576 (-1) p.2=true:=by
 obtain⟨h0,h1,h2⟩:=ZBV h;obtain⟨r1,r2⟩:=ZKg e.fs 0;have hb:=ZCu (k:=4096) e.fs 0 fun f hf=>((Zd h0).2 f hf).2;have h5:=(Zd h0).1;rw[h1];unfold valsOf;refine ZLk ?_ fun x hx=>?_
 ·rw[List.pairwise_map];exact r1.sublist List.filter_sublist
 ·obtain⟨q,hq,rfl⟩:=List.mem_map.1 hx;have:=r2 q (List.mem_filter.1 hq).1;omega
theorem ZHx {β:Type} {s:List UInt8}:∀ {l:List (List UInt8×β)},Ris l->(valsOf l s).length<=1
 | [],_=>by simp[valsOf]
 | x::t,h=>by
  obtain⟨h1,h2⟩:=List.pairwise_cons.1 h;have ih:=ZHx (s:=s) h2;rw[ZHJ];split
  ·rename_i hx;rw[ZBG fun y hy e=>by
    have:=h1 y hy;rw[e,hx]at this;exact List.lt_irrefl _ this]
   simp
  ·simpa using ih
theorem ZCa (s:List UInt8):∀(P:List Dc) (i:Nat) (lo:Int),lo<i->i+P.length<=65536 ->
 risB 65536 lo ((valsOf (pairsD i P) s).map (·.1))=true/\∀x∈valsOf (pairsD i P) s,(decide (0<x.2.length)&&risB 1048576 (-1) x.2)=true
 | [],i,lo,_,_=>⟨rfl,nofun⟩
 | d::t,i,lo,h1,h2=>by
  rw[List.length_cons]at h2;unfold pairsD;rw[ZW,ZCZ (fun x:List Int=>((i:Int),x))];have hr:Ris (termsL d.2):=by
   unfold termsL;split
   ·exact(ZA6 _).up
   ·exact List.Pairwise.nil
  have q0:=ZHx (s:=s) hr;have h0:∀x∈valsOf (termsL d.2) s,(decide (0<x.length)&&risB 1048576 (-1) x)=true:=fun x hx=>by
   unfold valsOf at hx;obtain⟨p,hp,rfl⟩:=List.mem_map.1 hx;have hp:=(List.mem_filter.1 hp).1;rw[ZJH hp,Bool.and_true];exact decide_eq_true (List.length_pos_iff.2 (ZBV hp).2.2)
  cases hv:valsOf (termsL d.2) s with
  | nil =>
   have ih:=ZCa s t (i+1) lo (by omega) (by omega);simpa using ih
  | cons x xs =>
   rw[hv]at q0 h0;have p0:xs = []:=by
    cases xs with
    | nil=>rfl
    | cons y ys=>simp at q0
   subst p0;have ih:=ZCa s t (i+1) i (by omega) (by omega);refine⟨?_,fun y hy=>?_⟩
   ·show risB 65536 lo ((i:Int)::(valsOf (pairsD (i+1) t) s).map (·.1))=true;unfold risB;rw[ih.1];simp[h1];omega
   ·rcases List.mem_cons.1 hy with rfl | hy
    ·exact h0 x (List.mem_cons_self ..)
    ·exact ih.2 y hy
theorem ZNG {P:List Dc} (hP:P.length<=65536) {r:List UInt8×List Po} (hr:r∈rowsD P):okPs r.2=true/\r.2 ≠ []/\r.2=valsOf (pairsD 0 P) r.1:=by
 have h:=((ZA6 (pairsD 0 P)).mem r).1 hr;have hv:=ZCa r.1 P 0 (-1) (by omega) (by omega);rw[<-h.1]at hv;refine⟨?_,h.2,h.1⟩;unfold okPs;rw[hv.1,Bool.true_and];exact List.all_eq_true.2 hv.2
theorem ZEY:∀ {P:List Dc} {i:Nat} {q:List UInt8×Po},q∈pairsD i P->∃d∈P,∃p∈termsL d.2,p.1=q.1
 | [],i,q,h=>by cases h
 | d::t,i,q,h=>by
  unfold pairsD at h;rcases List.mem_append.1 h with h | h
  ·obtain⟨p,hp,rfl⟩:=List.mem_map.1 h;exact⟨d,List.mem_cons_self ..,p,hp,rfl⟩
  ·obtain⟨d',hd,r⟩:=ZEY h;exact⟨d',List.mem_cons_of_mem _ hd,r⟩
theorem ZCq {P:List Dc} {r:List UInt8×List Po} (hr:r∈rowsD P):1<=r.1.length/\r.1.length<=65:=by
 have h:=((ZA6 (pairsD 0 P)).mem r).1 hr;have h2:=h.2;rw[h.1]at h2;obtain⟨q,hq,q0⟩:=ZDd h2;obtain⟨d,_,p,hp,h0⟩:=ZEY hq;have:=ZCJ hp;rw[h0,q0]at this;exact this
theorem ZNn (P:List Dc):Ris (rowsD P):=(ZA6 (pairsD 0 P)).up
theorem ZFn:∀(l:List Int) (lo:Int),-1<=lo->risB 1048576 lo l=true->(stepsL lo l).length<=10*l.length
 | [],lo,_,_=>by simp[stepsL]
 | n::t,lo,h0,h=>by
  obtain⟨h1,h2,h3⟩:=ZAS h;have ih:=ZFn t n (by omega) h3;have hv:=ZD (n:=(n - lo - 1).toNat) (by omega);unfold stepsL;rw[List.length_append,List.length_cons];omega
theorem ZEG:∀(L:List Po) (lo:Int),-1<=lo->risB 65536 lo (L.map (·.1))=true->(∀x∈L,(decide (0<x.2.length)&&risB 1048576 (-1) x.2)=true)->(blockPo lo L).length<=20*L.length+10*(L.map fun x=>x.2.length).sum
 | [],lo,_,_,_=>by simp[blockPo]
 | p::t,lo,h0,h,ha=>by
  rw[List.map_cons]at h;obtain⟨h1,h2,h3⟩:=ZAS h;have hp:=ha p (List.mem_cons_self ..);rw[Bool.and_eq_true]at hp;have ih:=ZEG t p.1 (by omega) h3 fun x hx=>ha x (List.mem_cons_of_mem _ hx);have hs:=ZFn p.2 (-1) (by omega) hp.2;have hl:=ZCH hp.2 (by omega);have q0:=ZD (n:=(p.1 - lo - 1).toNat) (by omega);have p0:=ZD (n:=p.2.length) (by omega);unfold blockPo onePo;simp only[List.length_append,List.length_cons,List.map_cons,List.sum_cons];omega
theorem ZE1 {L:List Po} (h:okPs L=true):(blockPo (-1) L).length<=20*L.length+10*(L.map fun x=>x.2.length).sum:=by
 unfold okPs at h;rw[Bool.and_eq_true]at h;exact ZEG L (-1) (by omega) h.1 (List.all_eq_true.1 h.2)
theorem ZIa {L:List Po} (h:okPs L=true) (hs:20*L.length+10*(L.map fun x=>x.2.length).sum<=50000000):(encPs L).length<=10+40*L.length+10*(L.map fun x=>x.2.length).sum:=by
 have h1:=ZE1 h;have h2:=ZDD h (by omega) (chunkL 32 L).length;rw[List.take_length]at h2;have h3:=ZZ (k:=32) (by omega) L;have h4:=ZD (n:=L.length) (by omega);unfold encPs;simp only[List.length_append];omega
end
section
open Go.RowKit
theorem ZDt {α:Type} {f g:α->Nat}:∀(l:List α),(∀x∈l,f x<=g x)->(l.map f).sum<=(l.map g).sum
 | [],_=>Nat.le_refl _
 | x::t,h=>by
  have h1:=h x (List.mem_cons_self ..);have h2:=ZDt t fun y hy=>h y (List.mem_cons_of_mem _ hy);simp only[List.map_cons,List.sum_cons];omega
theorem ZBR {α:Type} {f:α->Nat}:∀ {l:List α} {x:α},x∈l->f x<=(l.map f).sum
 | y::t,x,h=>by
  rw[List.map_cons,List.sum_cons];rcases List.mem_cons.1 h with rfl | h
  ·omega
  ·have:=ZBR (f:=f) h;omega
theorem ZKk {α:Type} (f g:α->Nat) (a b c:Nat):∀(l:List α),(l.map fun x=>a+b*f x+c*g x).sum=a*l.length+b*(l.map f).sum+c*(l.map g).sum
 | []=>by simp
 | x::t=>by
  have ih:=ZKk f g a b c t;simp only[List.map_cons,List.sum_cons,List.length_cons,Nat.mul_add];omega
theorem ZKF (rs:List (List UInt8×List Po)):(postB rs).length=(rs.map fun r=>(encPs r.2).length).sum:=by
 unfold postB
 induction rs with
 | nil=>rfl
 | cons r t ih=>rw[List.flatMap_cons,List.length_append,ih,List.map_cons,List.sum_cons]
theorem ZA5:∀(rs:List (List UInt8×List Po)) (o:Nat),(enOf o rs).length=rs.length
 | [],o=>rfl
 | r::t,o=>by
  unfold enOf;rw[List.length_cons,ZA5 t,List.length_cons]
theorem ZFg:∀(rs:List (List UInt8×List Po)) (o:Nat) (e:En),e∈enOf o rs->∃r∈rs,e.t=r.1/\o<=e.off/\e.off+e.len<=o+(postB rs).length/\e.len=(encPs r.2).length/\e.n=r.2.length
 | [],o,e,h=>by cases h
 | r::t,o,e,h=>by
  unfold enOf at h;have hp:(postB (r::t)).length=(encPs r.2).length+(postB t).length:=by unfold postB;rw[List.flatMap_cons,List.length_append]
  rcases List.mem_cons.1 h with rfl | h
  ·exact⟨r,List.mem_cons_self ..,rfl,Nat.le_refl _,by simp only[hp];omega,rfl,rfl⟩
  ·obtain⟨r',h0,h1,h2,h3,h4,h5⟩:=ZFg t _ e h;exact⟨r',List.mem_cons_of_mem _ h0,h1,by omega,by rw[hp];omega,h4,h5⟩
theorem ZLc:∀(rs:List (List UInt8×List Po)) (o:Nat),Ris rs->(enOf o rs).Pairwise fun a b=>a.t<b.t
 | [],o,_=>List.Pairwise.nil
 | r::t,o,h=>by
  obtain⟨h1,h2⟩:=List.pairwise_cons.1 h;unfold enOf;refine List.pairwise_cons.2 ⟨fun e he=>?_,ZLc t _ h2⟩;obtain⟨r',h0,h3,_⟩:=ZFg t _ e he;rw[h3];exact h1 r' h0
structure SmP (P:List Dc):Prop where
  ok:okDs P=true
  sz:(blockD 0 P).length<=70000
structure SegB (P:List Dc):Prop where
  n:P.length<=65536
  pairs:(pairsD 0 P).length<=70000
  rows:(rowsD P).length<=70000
  each:∀r∈rowsD P,okPs r.2=true/\r.2 ≠ []/\r.2.length<=70000/\(blockPo (-1) r.2).length<=50000000/\(encPs r.2).length<=5000000
  posts:(postB (rowsD P)).length<=5000000
  ens:OkEs (enOf 0 (rowsD P))
  dic:(encEs (enOf 0 (rowsD P))).length<=16777216
  docs:(encDs P).length<=16777216
  times:(timesD 0 P).length<=16777216
  bits:8<=(ofB ((rowsD P).map (·.1))).length/\(ofB ((rowsD P).map (·.1))).length<=131072
theorem SmP.seg {P:List Dc} (h:SmP P):SegB P:=by
 have q0:=h.ok;have y0:=h.sz;have hn:P.length<=65536:=by
  unfold okDs at q0;rw[Bool.and_eq_true]at q0;exact of_decide_eq_true q0.1
 have t0:=ZEy P 0 0;have v0:=ZEP P 0 0;have x0:(rowsD P).length<=(pairsD 0 P).length:=ZDH _;have k0:=ZC4 (fun _=>1) (pairsD 0 P);rw[ZFV,ZHT]at k0;have j0:=ZC4 (fun x:Po=>x.2.length) (pairsD 0 P);unfold gsum at j0;have m0:grp (pairsD 0 P)=rowsD P:=rfl;rw[m0]at k0 j0;have p0:∀r∈rowsD P,okPs r.2=true/\r.2 ≠ []/\r.2.length<=70000/\(r.2.map fun x=>x.2.length).sum<=70000:=fun r hr=>by
  have h1:=ZNG hn hr;have h2:=ZBR (f:=fun x:List UInt8×List Po=>x.2.length) hr;have h3:=ZBR (f:=fun x:List UInt8×List Po=>(x.2.map fun(y:Po)=>y.2.length).sum) hr;exact⟨h1.1,h1.2.1,by omega,by omega⟩
 have g0:(postB (rowsD P)).length<=5000000:=by
  rw[ZKF];refine Nat.le_trans (ZDt (g:=fun r:List UInt8×List Po=>10+40*r.2.length+10*(r.2.map fun(x:Po)=>x.2.length).sum) _ fun r hr=>?_) ?_
  ·have:=p0 r hr;exact ZIa this.1 (by omega)
  ·rw[ZKk (fun r:List UInt8×List Po=>r.2.length) (fun r:List UInt8×List Po=>(r.2.map fun(x:Po)=>x.2.length).sum)];omega
 have h0:∀e∈enOf 0 (rowsD P),okEn e/\e.t ≠ []:=fun e he=>by
  obtain⟨r,hr,h1,h2,h3,h4,h5⟩:=ZFg _ _ e he;have hk:=ZCq hr;have u0:=p0 r hr;refine⟨⟨by rw[h1];exact hk.2,by omega,by omega,by omega⟩,fun e0=>?_⟩;rw[h1]at e0;rw[e0]at hk;simp at hk
 refine⟨hn,by omega,by omega,fun r hr=>?_,g0,⟨by rw[ZA5];omega,h0,ZLc _ _ (ZNn P)⟩,?_,?_,?_,?_⟩
 ·have h1:=p0 r hr;have h2:=ZE1 h1.1;have h3:=ZIa h1.1 (by omega);exact⟨h1.1,h1.2.1,h1.2.2.1,by omega,by omega⟩
 ·have h1:=ZCR (cs:=chunkL 16 (enOf 0 (rowsD P))) fun c hc=>⟨fun e he=>(h0 e (ZEx (by omega) hc e he)).1,(ZDh (by omega) hc).2⟩
  have h2:=ZZ (k:=16) (by omega) (enOf 0 (rowsD P));rw[ZA5]at h2;have h3:=ZD (n:=(enOf 0 (rowsD P)).length) (by rw[ZA5];omega);unfold encEs;rw[List.length_append];omega
 ·have h1:=ZFM q0 (by omega) (chunkL 16 P).length;rw[List.take_length]at h1;have h2:=ZZ (k:=16) (by omega) P;have h3:=ZD (n:=P.length) (by omega);unfold encDs;simp only[List.length_append];omega
 ·have:=ZBb P 0;omega
 ·rw[ZNu];exact ZDU _
structure DocC where
  seq:Int
  e:Ev
  A:Option Addr
  c:Nat
def DocC.cells (x:DocC):List Value:= [.int .i64 x.seq,.int .i64 x.e.at_,.slice x.A x.e.fs.length x.c]
def DocC.val (x:DocC):Value:= .agg #[.int .i64 x.seq,.int .i64 x.e.at_,.slice x.A x.e.fs.length x.c]
def DocC.dc (x:DocC):Dc:=(x.seq,x.e)
def dcells (l:List DocC):List Value:=l.flatMap DocC.cells
def dcs (l:List DocC):List Dc:=l.map DocC.dc
theorem ZEc (l:List DocC):(dcells l).length=l.length*3:=Ze (cellsA:=DocC.cells) (k:=3) (fun _=>rfl) l
theorem ZCX {l:List DocC} {i:Nat} {x:DocC} (h:l[i]? = some x) {j:Nat} (hj:j<3):(dcells l)[i*3+j]? = x.cells[j]? :=Zj (cellsA:=DocC.cells) (k:=3) (fun _=>rfl) l i x j h hj
theorem ZU {w:World} {A:Option Addr} {l:List DocC} (h:Cells w A (dcells l)) {i:Nat} {x:DocC} (hx:l[i]? = some x):∃g o,A=some ⟨g,o,none⟩/\w.cell? ⟨g,o+i*3,none⟩=some (.int .i64 x.seq)/\w.cell? ⟨g,o+i*3+1,none⟩=some (.int .i64 x.e.at_)/\w.cell? ⟨g,o+i*3+2,none⟩=some (.slice x.A x.e.fs.length x.c):=by
 obtain⟨g,o,hA,hc⟩:=h.at_ (by rw[ZEc];have:=(List.getElem?_eq_some_iff.1 hx).1;omega);refine⟨g,o,hA,?_,?_,?_⟩
 ·have:=hc (i*3+0) _ (by rw[ZCX hx (by omega)];rfl);exact this
 ·have:=hc (i*3+1) _ (by rw[ZCX hx (by omega)];rfl);exact this
 ·have:=hc (i*3+2) _ (by rw[ZCX hx (by omega)];rfl);exact this
structure DocsOk (w:World) (A:Option Addr) (l:List DocC):Prop where
  cells:Cells w A (dcells l)
  each:∀x∈l,x.e.Ok w x.A/\I64ok' x.e.at_/\I64ok' x.seq
theorem DocsOk.ext {w w1:World} {A:Option Addr} {l:List DocC} (h:DocsOk w A l) (hE:Ext w w1):DocsOk w1 A l:=⟨h.cells.ext hE,fun x hx=>⟨(h.each x hx).1.ext hE,(h.each x hx).2⟩⟩
theorem DocsOk.nil (w:World) (A:Option Addr):DocsOk w A []:=⟨.inl rfl,nofun⟩
theorem DocsOk.part {w:World} {A:Option Addr} {ps:List DocC} (h:DocsOk w A ps) (hA:∀a,A=some a->a.spot=none) (i m:Nat):DocsOk w (A.map fun a=>a.add (i*3)) ((ps.drop i).take m):=by
 refine⟨?_,fun x hx=>h.each x (List.mem_of_mem_drop (List.mem_of_mem_take hx))⟩;unfold dcells;rw[Z4 (f:=DocC.cells) (k:=3) (fun _=>rfl),ZAE (f:=DocC.cells) (k:=3) (fun _=>rfl)];exact h.cells.part hA _ _
def ckD (lo:Int) (l:List Dc):Bool:=risB 1099511627777 lo (l.map (·.1))&&l.all okD
theorem ZIS (lo:Int) (x:Dc) (t:List Dc):ckD lo (x::t)=(decide (lo<x.1)&&decide (x.1<1099511627777)&&decide (checkE x.2.fs=0)&&ckD x.1 t):=by
 unfold ckD;rw[List.map_cons,risB,List.all_cons];unfold okD;cases decide (lo<x.1) <;> cases decide (x.1<1099511627777) <;> cases decide (checkE x.2.fs=0) <;> simp
theorem ZDF (ds:List DocC) (A:Option Addr) (m c:Nat) (w:World) (hm:m=ds.length) (h:DocsOk w A ds) (n0:m<=1000000000) :
 Calls Tryz.prog 77 #[.slice A m c] w fun e w'=>e = .returned (.int .i64 (if okDs (dcs ds) then 0 else 120))/\Ext w w':=by
 have z0:=ZA (fun(e:Ev) B d W h=>ZBQ e B d W h);obtain⟨Z,hZ⟩:∃Z,Z=okDs (dcs ds):=⟨_,rfl⟩
 rw[<-hZ];have hlen:(dcs ds).length=m:=by unfold dcs;rw[List.length_map,hm]
 by_cases d0:65536<m
 ·have b0:Z=false:=by
   rw[hZ];unfold okDs;rw[hlen,decide_eq_false (by omega)];rfl
  subst b0;have c0:(65536:Int)<m:=by omega
  clear hZ z0 h;go_enter Tryz.func77,Tryz.ntmps77;go_wp2_with fail;go_ret;exact⟨rfl,Ext.refl _⟩
 ·have c0:¬ (65536:Int)<m:=by omega
  have x0:Z=ckD 0 (dcs ds):=by
   rw[hZ];unfold okDs;rw[hlen,decide_eq_true (by omega)];rfl
  replace hZ:=ZA x0;clear x0;replace hm:=ZA hm;replace h:=ZA h;replace hlen:=ZA hlen;go_enter Tryz.func77,Tryz.ntmps77;go_wp2_with fail
  go_loopw [3,11] (fun s3 s11 wr=>∃(i:Nat) (la:Int),s3 = .int .i64 la/\s11 = .int .i64 (i:Int)/\i<=m/\Hid (Z=ckD la (dcs (ds.drop i)))/\Hid (Ext w wr)) (fun _ s11 _=>m - (intOf s11).toNat)
  case atStart=>exact⟨0,0,rfl,rfl,by omega,ZA (by rw[hZ.out];rfl),ZA (Ext.refl w)⟩
  case round =>
   obtain⟨i,la,rfl,rfl,hi,hb,hE⟩:=hrel;by_cases i0:i<m
   ·obtain⟨x,t0⟩:∃x,ds[i]? = some x:=⟨_,List.getElem?_eq_getElem (by rw[<-hm.out];exact i0)⟩
    obtain⟨g,o,hA,e0,f0,y0⟩:=ZU (h.out.cells.ext hE.out) t0;subst hA;have hx:=h.out.each x (List.mem_of_getElem? t0);have h0:=hb.out;rw[Zo t0]at h0;unfold dcs at h0;rw[List.map_cons,ZIS]at h0;obtain⟨W2,p0⟩:∃W2,W2=wr.alloc (.cells #[.int .i64 x.seq,.int .i64 x.e.at_,.slice x.A x.e.fs.length x.c] 39):=⟨_,rfl⟩
    have g0:Ext w W2:=by rw[p0];exact hE.out.alloc _
    have k0:=z0.out x.e x.A x.c W2 (hx.1.ext g0);have j0:Row W2 wr.heap.size 39 #[.int .i64 x.seq,.int .i64 x.e.at_,.slice x.A x.e.fs.length x.c]:=by rw[p0];exact Row.new wr _ _
    obtain⟨g2,m0⟩:∃g2,g2=wr.heap.size:=⟨_,rfl⟩
    rw[<-m0]at j0;have r0:=j0.cell 0 rfl;have r1:=j0.cell 1 rfl;have r2:=j0.cell 2 rfl;unfold Ev.val at k0;obtain⟨seq,⟨at_,fs⟩,B,cB⟩:=x;change Z=(decide (la<seq)&&decide (seq<1099511627777)&&decide (checkE fs=0)&&ckD seq (dcs (ds.drop (i+1))))at h0;simp only at e0 f0 y0 k0 p0 r0 r1 r2;obtain⟨fl,u0⟩:∃fl,fl=fs.length:=⟨_,rfl⟩
    rw[<-u0]at y0 k0 p0 j0 r2;replace k0:=ZA k0;replace j0:=ZA j0;replace m0:=ZA m0;replace g0:=ZA g0;replace p0:=ZA p0;replace u0:=ZA u0;replace hx:=ZA hx;replace t0:=ZA t0;clear hb;by_cases h1:seq<=la
    ·rw[decide_eq_false (by omega),Bool.false_and,Bool.false_and,Bool.false_and]at h0;subst h0;go_upto_region 7 with fail;rw[<-p0.out,<-m0.out];go_wp2_with fail;go_ret;exact⟨rfl,g0.out⟩
    ·by_cases h2:1099511627776<seq
     ·rw[decide_eq_false (p:=seq<1099511627777) (by omega),Bool.and_false,Bool.false_and,Bool.false_and]at h0;subst h0;go_upto_region 7 with fail;rw[<-p0.out,<-m0.out];go_wp2_with fail;go_ret;exact⟨rfl,g0.out⟩
     ·rw[decide_eq_true (p:=la<seq) (by omega),decide_eq_true (p:=seq<1099511627777) (by omega),Bool.true_and,Bool.true_and]at h0;by_cases h3:checkE fs=0
      ·rw[decide_eq_true h3,Bool.true_and]at h0;rw[h3]at k0;replace h0:=ZA h0;go_upto_region 7 with fail;rw[<-p0.out,<-m0.out];go_wp2_with fail;refine k0.out.mono ?_;rintro e w3 ⟨rfl,v0⟩;have q0:=(j0.out.ext v0).cell 0 rfl;go_wp2_with fail;exact⟨⟨i+1,seq,rfl,rfl,by omega,h0,ZA (g0.out.trans v0)⟩,by simp only[intOf];omega⟩
      ·rw[decide_eq_false h3,Bool.false_and]at h0;subst h0;obtain⟨k,hk⟩:∃k,k=checkE fs:=⟨_,rfl⟩
       rw[<-hk]at k0 h3;have l0:¬ (k:Int)=0:=by omega
       replace hk:=ZA hk;go_upto_region 7 with fail;rw[<-p0.out,<-m0.out];go_wp2_with fail;refine k0.out.mono ?_;rintro e w3 ⟨rfl,v0⟩;go_wp2_with fail;go_ret;exact⟨rfl,g0.out.trans v0⟩
   ·obtain rfl:i=m:=by omega
    have a0:Z=true:=by rw[hb.out,List.drop_eq_nil_of_le (by rw[<-hm.out];exact Nat.le_refl _)];rfl
    subst a0;go_wp2_with fail;go_ret;exact⟨rfl,hE.out⟩
def IterS {α:Type} (P:Program) (gf:Nat) (lb:Array Value) (encs:α->Array Value) (St:World->World->World->Prop) (Nx:List α->α->World->Prop) (Kp:World->World->Prop) (Fin:List α->World->World->Prop) (w:World):Prop :=
 ∀(l:Nat) (J:List α->World->Prop) (W:World),Ext w W->(∀pre A B,J pre A->St W A B->J pre B) ->
  (∀pre x W1,J pre W1->Nx pre x W1->YieldAt Fence.wide 0 P l (encs x) W1 fun e W'=>e = .returned (.bool true)/\J (pre ++ [x]) W'/\Kp W1 W'/\KeepsOthers W1 W')->J [] W ->
  Calls P gf (#[.func (.yield l) #[] #[]]++lb) W fun e W'=>(∃v,e = .returned v)/\∃xs W2,J xs W2/\Fin xs W2 W'
theorem ZIt {α:Type} {P:Program} {g:Operand} {ps:Array Tmp} {assign body:Code} {Q:Exit->Act->World->Prop} {a:Act} {w:World} {gf:Nat} {lb:Array Value}
 (hg:a.eval g = .func (.func gf) #[] lb) (eg:∀args w,(callFunc gf args).run P w = .ok (.enter gf args) w)
 {encs:α->Array Value} {St:World->World->World->Prop} {Nx:List α->α->World->Prop} {Kp:World->World->Prop} {Fin:List α->World->World->Prop} (s0:IterS P gf lb encs St Nx Kp Fin w)
 (j1:∀x,(encs x).size=ps.size) (l0:∀W A B,St W A B->∀k o,k<W.heap.size->A.heap[k]? = some o->o.isCells=false->B.heap[k]? = some o) (g0:∀xs A B,Fin xs A B->KeepsOthers A B)
 (a0:∀A B C,Kp A B->Kp B C->Kp A C) (f0:∀A B,Alike w.heap.size A B->Kp A B)
 (I:List α->World->Prop) (hI:∀pre A B,I pre A->Alike w.heap.size A B->I pre B) (n0:∀W pre A B,Ext w W->I pre A->St W A B->I pre B) (h0:∀W,Alike w.heap.size w W->I [] W)
 (j0:∀(l:Nat) (pre:List α) (x:α) (W:World),I pre W->Nx pre x W->assign.wpIn (Fence.wide.inRound l) 0 P (Exit.then (roundGo w.heap.size P l body Kp I (pre ++ [x]) W) (fun _ _ _=>False)) { tmps:=(ps.zip (encs x)).foldl (fun t (p,v)=>t.setIfInBounds p v) a.tmps,defers:= [] } W)
 (t0:∀(D:Nat) (xs:List α) (W2 W3 W4:World),w.heap.size<=D->I xs W2->Fin xs W2 W3->Alike w.heap.size W3 W4->W4.heap[D]? = some (.deferred (some []))->Q .normal { a with defers:= { target:= .collected D,args:=#[] }::a.defers } W4) :
 (Code.rangeFunc g ps assign body).wpIn Fence.wide 0 P Q a w:=by
 refine wpIn_rangeFunc ?_;intro fn o0;show ∃_,_;obtain⟨rec,q0⟩:∃rec:LoopState->Option Code->Loop,rec=fun st pe=> { state:=st,pending:=pe,fn,tmps:=a.tmps,params:=ps,assign,body,defers:=w.heap.size }:=⟨_,rfl⟩
 obtain⟨W1,v0⟩:∃W1,(w.alloc (.deferred (some []))).alloc (.loop (rec .ready none))=W1:=⟨_,rfl⟩
 have i0:W1.heap[w.heap.size+1]? = some (.loop (rec .ready none)):=by
  rw[<-v0];have:=World.alloc_heap_new (w.alloc (.deferred (some []))) (.loop (rec .ready none));rwa [World.size_alloc]at this
 have e0:W1.heap[w.heap.size]? = some (.deferred (some [])):=by
  rw[<-v0];exact(Below.heap_alloc _ _ _ (by simp)).trans (World.alloc_heap_new w _)
 have z0:Ext w W1:=by rw[<-v0];exact((Ext.refl w).alloc _).alloc _
 refine⟨w.heap.size+1,[{ target:= .collected w.heap.size,args:=#[] }],W1,{ target:= .fn (.func gf) lb,args:=#[.func (.yield (w.heap.size+1)) #[] #[]] },W1,gf,
  #[.func (.yield (w.heap.size+1)) #[] #[]]++lb,W1,?_,?_,?_,?_,fun h=>(by cases h),?_⟩
 ·rw[<-v0,q0];exact run_enterLoop_outer _ _ _ _ _
 ·simp only[resolve,hg];simp[go_sem]
 ·intro f' _;trivial
 ·simp[invoke,go_sem,eg]
 ·refine callsIn_wide.2 ((s0 (w.heap.size+1)
   (fun pre W=>I pre W/\W.heap[w.heap.size+1]? = some (.loop (rec .ready none))/\W.heap[w.heap.size]? = some (.deferred (some [])))
   W1 z0 (fun pre A B h hs=>⟨n0 W1 pre A B z0 h.1 hs,l0 W1 A B hs _ _ (Array.getElem?_eq_some_iff.1 i0).1 h.2.1 rfl,l0 W1 A B hs _ _ (Array.getElem?_eq_some_iff.1 e0).1 h.2.2 rfl⟩)
   ?_ ⟨h0 W1 (Chg.of_ext z0 _),i0,e0⟩).mono ?_)
  ·rintro pre x W ⟨hi,hl,hk⟩ k1;have g1:w.heap.size+1<W.heap.size:=(Array.getElem?_eq_some_iff.1 hl).1;have hy:=run_yield (P:=P) (args:=encs x) hl (by rw[q0];exact j1 x);rw[q0]at hy;refine⟨fn,_,assign,body,hy,roundIn_of_wpIn o0 ?_⟩;refine wpIn_mono (j0 _ pre x W hi k1) ?_;rintro e a1 W2 hq;cases e with
   | normal =>
    obtain⟨x0,q1,m0⟩:=hq;have k0:=x0.same _ _ hl rfl;have b0:=x0.same _ _ hk rfl;have d0:w.heap.size+1<W2.heap.size:=(Array.getElem?_eq_some_iff.1 k0).1;refine⟨W2.putObj (w.heap.size+1) (.loop { rec .ready none with state:= .busy }),run_beginRound k0 (by rw[q0]),?_⟩;have ha:=Alike.others (B:=w.heap.size) k0 rfl (by omega) (.loop { rec .ready none with state:= .busy });have p1:(W2.putObj (w.heap.size+1) (.loop { rec .ready none with state:= .busy })).heap[w.heap.size+1]? = some (.loop { rec .ready none with state:= .busy }):=World.putObj_heap_same d0;have w0:(W2.putObj (w.heap.size+1) (.loop { rec .ready none with state:= .busy })).heap[w.heap.size]? = some (.deferred (some [])):=(World.putObj_heap_other (by omega)).trans b0;refine wpIn_mono (m0 _ ha) ?_;rintro e a3 W3 hp;cases e with
    | normal =>
     obtain⟨p0,c0,r0⟩:=hp;have y0:=p0.same _ _ p1 rfl;have h1:=p0.same _ _ w0 rfl;have hr:=run_endRound (P:=P) none y0;rw[q0]at hr;have u0:=Alike.others (B:=w.heap.size) y0 rfl (by omega) (.loop (rec .ready none));rw[q0]at u0;refine⟨_,_,hr,rfl,⟨hI _ _ _ r0 u0,?_,?_⟩,a0 _ _ _ (a0 _ _ _ q1 (f0 _ _ ha)) (a0 _ _ _ c0 (f0 _ _ u0)),?_⟩
     ·rw[q0];exact World.putObj_heap_same (Array.getElem?_eq_some_iff.1 y0).1
     ·exact(World.putObj_heap_other (by omega)).trans h1
     ·refine⟨Nat.le_trans x0.size (Nat.le_trans ha.size (Nat.le_trans p0.size u0.size)),fun q o ho hc=>?_⟩;by_cases hq:q=w.heap.size+1
      ·subst hq;rw[hl,q0]at ho;rw[<-ho];exact World.putObj_heap_same (Array.getElem?_eq_some_iff.1 y0).1
      ·refine(World.putObj_heap_other hq).trans (p0.same q o ?_ hc);exact(World.putObj_heap_other hq).trans (x0.same q o ho hc)
    | ret=>exact hp.elim
    | exit id=>exact hp.elim
    | goto t=>exact hp.elim
    | panic ch=>exact hp.elim
    | outgrown=>exact hp.elim
   | ret=>exact hq.elim
   | exit id=>exact hq.elim
   | goto t=>exact hq.elim
   | panic ch=>exact hq.elim
   | outgrown=>exact hq.elim
  ·rintro e W2 ⟨⟨v,rfl⟩,xs,W3,⟨hi,hl,hk⟩,hf⟩;have k0:=(g0 _ _ _ hf).same _ _ hl rfl;have b0:=(g0 _ _ _ hf).same _ _ hk rfl;refine⟨none,_,by have:=run_endLoop (P:=P) k0 (by rw[q0];simp);rw[q0]at this;exact this,t0 _ xs W3 W2 _ (Nat.le_refl _) hi hf ?_ ((World.putObj_heap_other (by omega)).trans b0)⟩;rw[q0]at k0;exact Alike.others k0 rfl (by omega) _
end
section
open Go.RowKit
attribute [local go_sem] Oper.semAt_some Za
theorem ZIi (A:Option Addr) (n c k:Nat) (w:World) (hk:1<=k) (h0:k<=1000000) :
 Calls Tryz.prog 132 #[.slice A n c,.int .i64 (k:Int)] w fun e w'=>∃b1 b2,e = .returned (.func (.func 173) #[] #[.pointer (some ⟨b1,0,none⟩),.pointer (some ⟨b2,0,none⟩)])/\Row w' b1 22 #[.slice A n c]/\Row w' b2 3 #[.int .i64 (k:Int)]/\w.heap.size<=b1/\w.heap.size<=b2/\b1<b2/\Ext w w':=by
 go_enter Tryz.func132,Tryz.ntmps132;go_wp2_with fail;go_ret;have h1:=Row.new w 22 #[.slice A n c];have h2:=Row.new (w.alloc (.cells #[.slice A n c] 22)) 3 #[.int .i64 (k:Int)];rw[World.size_alloc]at h2;exact⟨w.heap.size,w.heap.size+1,rfl,h1.alloc _,h2,Nat.le_refl _,by omega,by omega,((Ext.refl w).alloc _).alloc _⟩
theorem ZG6 {A:Option Addr} {n c i:Nat} {z:Int} (hz:z=(i:Int)) (hi:i<=n):∃A' c',∀W:World,(Instr.sliceAt 22 (.slice A n c) (some (.int .i64 z)) none none).run Tryz.prog W = .ok (.slice A' (n - i) c') W:=by
 subst hz;have ht:=Tryz.underlying22;have he:Tryz.prog.elem 22=39:=by unfold Program.elem;rw[ht]
 have hs:∀W:World,(sizeOf 39).run Tryz.prog W = .ok 3 W:=fun W=>by kernel_rfl
 refine⟨if c=i then A else A.map fun a=>a.add (i*3),c - i,fun W=>?_⟩;rw[run_sliceAt_slice W _ _ _ _ _ (by rw[ht,he]),run_slice_l W _ A n c (by rw[ht,he]) .i64 i (by omega) (by omega),he,hs];simp only[Result.andThen_ok,sliced];rfl
theorem ZHp {A:Option Addr} {n c i j:Nat} {z z1 z2:Int} (hz:z=(i:Int)) (h0:z1=((i+j:Nat):Int)) (q0:z2=((i+j:Nat):Int)) (hi:i+j<=c) (hj:0<j) (W:World) :
 (Instr.sliceAt 22 (.slice A n c) (some (.int .i64 z)) (some (.int .i64 z1)) (some (.int .i64 z2))).run Tryz.prog W = .ok (.slice (A.map fun a=>a.add (i*3)) j j) W:=by
 subst hz h0 q0;have ht:=Tryz.underlying22;have he:Tryz.prog.elem 22=39:=by unfold Program.elem;rw[ht]
 have hs:(sizeOf 39).run Tryz.prog W = .ok 3 W:=by kernel_rfl
 rw[run_sliceAt_slice W _ _ _ _ _ (by rw[ht,he]),run_slice_lhm W _ A n c (by rw[ht,he]) .i64 .i64 .i64 i ((i+j:Nat):Int) ((i+j:Nat):Int) (by omega) (by omega) (by omega) (by omega),he,hs];simp only[Result.andThen_ok];congr 1;unfold sliced;rw[if_neg (by omega),show ((i+j:Nat):Int).toNat - (i:Int).toNat=j by omega];rfl
def chunkVB (A:Option Addr) (n k i:Nat):Value:= .slice (A.map fun a=>a.add (i*k*3)) (min k (n - i*k)) (min k (n - i*k))
def ChIterB (A:Option Addr) (n k b1 b2:Nat) (w:World):Prop :=
 Iter Tryz.prog 173 #[.pointer (some ⟨b1,0,none⟩),.pointer (some ⟨b2,0,none⟩)] (fun i:Nat=>#[chunkVB A n k i]) Ext (fun pre i _=>i=pre.length/\i*k<n) (KeepB b1 b2) (fun xs W W'=>n<=xs.length*k/\xs=List.range xs.length/\(∀i∈xs,i*k<n)/\Ext W W') w
theorem ZHP (A:Option Addr) (n c k b1 b2:Nat) (w:World) (p0:Row w b1 22 #[.slice A n c]) (k0:Row w b2 3 #[.int .i64 (k:Int)]) (hk:1<=k) (f0:k<=1000000) (hn:n<=1000000000) (hc:n<=c):ChIterB A n k b1 b2 w:=by
 intro l J W hE g0 hY h0;replace p0:=p0.ext hE;replace k0:=k0.ext hE;clear hE;replace p0:=ZA p0;replace k0:=ZA k0;replace hY:=ZA hY;replace g0:=ZA g0;replace h0:=ZA h0;refine(callsIn_wide (n:=0)).1 ?_;refine callsIn_of_wp Tryz.func173 rfl trivial ?_;simp only[Tryz.ntmps173,List.size_toArray,List.length_cons,List.length_nil,Nat.reduceAdd,Nat.reduceSub,Array.replicate_succ,Array.replicate_zero,List.push_toArray,List.append_toArray,List.nil_append,List.cons_append];gi_wp2_with fail
 gi_loopw [4] (fun s4 wr=>∃(i q:Nat) (pre:List Nat),s4 = .int .i64 (q:Int)/\Hid (q=i*k)/\q<=n+k/\Hid (pre.length=i)/\Hid (pre=List.range i)/\Hid (∀j∈pre,j*k<n)/\Hid (J pre wr)/\Hid (Row wr b1 22 #[.slice A n c])/\Hid (Row wr b2 3 #[.int .i64 (k:Int)])) (fun s4 _=>n - (intOf s4).toNat)
 case atStart=>exact⟨0,0,[],rfl,ZA (by simp),by omega,ZA rfl,ZA rfl,ZA nofun,h0,p0,k0⟩
 case round =>
  obtain⟨i,q,pre,rfl,hq,n0,q0,y0,x0,hJ,r1,r2⟩:=hrel;have k1:=r1.out.cell 0 rfl;have k2:=r2.out.cell 0 rfl;by_cases u0:q<n
  ·obtain⟨m,hm⟩:∃m:Nat,(m:Int)=min (k:Int) ((n - q:Nat):Int):=⟨min k (n - q),by omega⟩
   have b0:0<m:=by omega
   have i0:m<=k:=by omega
   have l0:m<=n - q:=by omega
   have d0:m=k\/m=n - q:=by omega
   have c0:=fun(W:World)=>Zf (P:=Tryz.prog) #[3,3] 3 hm W;have r0:=fun(W:World)=>ZHp (A:=A) (n:=n) (c:=c) (i:=q) (j:=m) (z:=(q:Int)) (z1:=(q:Int)+(m:Int)) (z2:=(q:Int)+(m:Int)) rfl (by omega) (by omega) (by omega) b0 W;obtain⟨A',c',o0⟩:=ZG6 (A:=A) (n:=n) (c:=c) (i:=q) (z:=(q:Int)) rfl (by omega);replace hm:=ZA hm;have z0:=hY.out pre pre.length wr.drew (g0.out _ _ _ hJ.out (Ext.refl wr).drew) ⟨rfl,by rw[q0.out,<-hq.out];exact u0⟩;have j0:chunkVB A n k pre.length = .slice (A.map fun a=>a.add (q*3)) m m:=by
    unfold chunkVB;rw[q0.out,<-hq.out,show min k (n - q)=m by omega]
   rw[j0]at z0;obtain⟨fn,tmps,assign,body,hy,hR⟩:=z0;have m0:Hid (∀j∈pre ++ [pre.length],j*k<n):=ZA fun j hj=>by
    rcases List.mem_append.1 hj with h | h
    ·exact x0.out j h
    ·rw[List.mem_singleton.1 h,q0.out,<-hq.out];exact u0
   have t0:Hid (pre ++ [pre.length]=List.range (i+1)):=ZA (by rw[List.range_succ,q0.out,y0.out]);have e0:Hid (q+k=(i+1)*k):=ZA (by rw[Nat.succ_mul,hq.out]);clear j0 d0 hY g0;gi_wp2_with fail;refine wpIn_wide.2 (ZB follows (by kernel_rfl) (by kernel_rfl) (fun K hK=>?_));go_wp2_with fail;refine⟨by kernel_rfl,?_⟩;gi_wp2_with fail;refine hR.mono ?_;rintro e W3 ⟨rfl,a0,v0⟩;have r13:=ZA (show Row W3 b1 22 #[.slice A n c] from v0.1 _ r1.out);have r23:=ZA (show Row W3 b2 3 #[.int .i64 (k:Int)] from v0.2 _ r2.out);have k23:=r23.out.cell 0 rfl;gi_wp2_with fail;exact⟨⟨i+1,q+k,pre ++ [pre.length],by congr 1,e0,by omega,ZA (by rw[List.length_append,q0.out];rfl),t0,m0,ZA a0,r13,r23⟩,by simp only[intOf];omega⟩
  ·gi_wp2_with fail
   go_end0
   exact⟨⟨_,rfl⟩,pre,_,hJ.out,by rw[q0.out,<-hq.out];omega,by rw[q0.out];exact y0.out,x0.out,Ext.refl _⟩
end
section
open Go.RowKit
def OnlyN (Q:Exit->Act->World->Prop):Exit->Act->World->Prop
 | .normal,a,w=>Q .normal a w
 | _,_,_=>False
theorem OnlyN.imp {Q:Exit->Act->World->Prop} (e:Exit) (a:Act) (w:World) (h:OnlyN Q e a w):Q e a w:=by
 cases e <;> first | exact h | exact h.elim
def calmOps (ops:Array Oper):Bool:=ops.all fun o=>match o.op with | .defer _=>false | _=>true
theorem ZMq {ops:Array Oper} (h:calmOps ops=true) {i:Nat} {o:Oper} (ho:ops[i]? = some o):∀c,o.op ≠ .defer c:=by
 intro c hc;unfold calmOps at h;rw[Array.all_eq_true]at h;obtain⟨hi,he⟩:=Array.getElem?_eq_some_iff.1 ho;have:=h i hi;rw[he,hc]at this;cases this
theorem ZNw {n:Nat} {P:Program} {row:String} {args:Array Value} {w:World} {R:Value->World->Prop} (h:Rows P row args w R):RowsIn Fence.wide n P row args w R :=
 fun c cs _=>let ⟨v,w',r,s⟩:=h c cs;⟨v,w',r,stepsIn_wide.2 s⟩
theorem ZY {P:Program} {md:Region.Mode} {ops:Array Oper} {Q:Exit->Act->World->Prop} {l:Nat} (hc:calmOps ops=true) :
 ∀(fuel:Nat) (listed:Array Bool) (a:Act) (w:World),wpAny P md ops (OnlyN Q) fuel listed a w->wpAnyIn (Fence.wide.inRound l) 0 P md ops (OnlyN Q) fuel listed a w
 | 0,listed,a,w,h=>h
 | fuel+1,listed,a,w,h=>⟨h.1,fun i hi=>by
  have hw:=h.2 i hi;unfold wpOp at hw;unfold wpOpIn;cases ho:ops[i]? with
  | none=>rw[ho]at hw;exact ZY hc fuel _ a w hw
  | some o =>
   rw[ho]at hw;simp only at hw ⊢;split
   ·rename_i h0;rw[if_pos h0]at hw;rcases hw with hw | ⟨_,hl⟩
    ·refine⟨fun _ _=>trivial,?_⟩;rw[Oper.semAt_plain _ _ _ (ZMq hc ho)];unfold Oper.wp at hw;generalize (execOp a.eval o).run P w=r at hw ⊢;cases r with
     | ok nx w' =>
      cases nx with
      | value v=>exact ZY hc fuel _ _ _ hw
      | skip=>exact ZY hc fuel _ _ _ hw
      | defer d=>exact ZY hc fuel _ _ _ hw
      | enter f args =>
       refine⟨fun h=>by simp[Fence.wide]at h,CallsIn.inRound l (callsIn_wide.2 (Calls.mono hw ?_))⟩;intro e w'' he;cases e with
       | returned v=>exact ZY hc fuel _ _ _ he
       | panicked ch=>exact he
       | outgrown=>exact he
      | row row args =>
       exact⟨fun h=>by simp[Fence.wide]at h,ZNw (Rows.mono hw fun v w'' he=>ZY hc fuel _ _ _ he)⟩
      | _=>exact hw.elim
     | halt x w' =>
      cases x with
      | panic v=>exact hw
      | _=>exact hw
    ·obtain⟨a1,w1,hf⟩:=hl;exact hf.elim
   ·rename_i h0;rw[if_neg h0]at hw;exact⟨fun _ _=>trivial,ZY hc fuel _ _ _ hw⟩⟩
theorem ZFc {P:Program} {id:Nat} {ops:Array Oper} {Q:Exit->Act->World->Prop} {a:Act} {w:World} {l:Nat} (S:World->Prop) (hm:P.follows .mixedOrders=true) (hc:calmOps ops=true)
 (h:wpAnyH P .any ops (OnlyN Q) S ops.size (Array.replicate ops.size false) a w.drew):(Code.region id ops true).wpIn (Fence.wide.inRound l) 0 P Q a w :=
 wpIn_mono (wpIn_region_any hm (ZY hc _ _ _ _ (wpAny_of_held _ _ _ _ h))) OnlyN.imp
end
end Go.Proofs.YtkdcnhnaiknaaaaGreat
