/- loggialaw16: ManifestSaves. -/
import Derived.Test.YtaoolpnnomhnoaaGreatDoorS06
import Derived.Test.YtaoolpnnomhnoaaGreatDoorS09
import Derived.Test.YtaoolpnnomhnoaaGreatDoorS08
import Derived.SliceStrings
import Derived.Test.YtaoolpnnomhnoaaGreatDoorS02
set_option linter.unusedSimpArgs false
set_option linter.unusedVariables false
namespace Go.Proofs.YtaoolpnnomhnoaaGreatDoor
open Go.RowKit Go.Maps

/-- The program's disk as P, the document's as PR, away from the blocks B. -/
structure Sv (w0 : World) (base d : Nat) (B : List Nat) (w : World) (P PR : PD) (F : Nat → Prop) (A : Option Addr) (n c : Nat) (R : List RE) : Prop where
  disk : DS w base d P F
  rs : RS w (fun k => F k ∨ k ∈ B) A n c R
  pl : R.map RE.pl = PR.L
  blt : ∀ k ∈ B, w0.heap.size ≤ k ∧ k < w.heap.size
  ext : Ext w0 w
  old : w0.heap.size ≤ base
section
variable {w0 w w1 wx w' w2 w3 : World} {base d n c n1 c1 : Nat} {B : List Nat} {P P' PR PR' : PD} {F F' : Nat → Prop} {A A1 : Option Addr} {R R1 : List RE}
theorem Sv.move (h : Sv w0 base d B w P PR F A n c R) (hE : Ext w w1) : Sv w0 base d B w1 P PR F A n c R := ⟨h.disk.ext hE, h.rs.ext hE, h.pl, fun k hk => ⟨(h.blt k hk).1, Nat.lt_of_lt_of_le (h.blt k hk).2 hE.size⟩, h.ext.trans hE, h.old⟩
theorem Sv.more (h : Sv w0 base d B w P PR F A n c R) (hE : Ext w w1) {b : Nat} (hb : w.heap.size ≤ b) (hb2 : b < w1.heap.size) : Sv w0 base d (b :: B) w1 P PR F A n c R := by
  have k := h.move hE
  refine ⟨k.disk, h.rs.chg (Chg.of_ext hE (fun _ => False)) (fun _ _ h => h.elim) fun j hj hk => ?_, k.pl, fun j hj => ?_, k.ext, k.old⟩
  · rcases hk with hk | hk
    · exact .inl hk
    · rcases List.mem_cons.1 hk with hk | hk
      · omega
      · exact .inr hk
  · rcases List.mem_cons.1 hj with rfl | hj
    · exact ⟨Nat.le_trans h.ext.size hb, hb2⟩
    · exact k.blt j hj
theorem Sv.set (h : Sv w0 base d B w P PR F A n c R) {b : Nat} (hb : b ∈ B) (hF : ¬ F b) (hc : Chg (fun k => k = b) w w1) : Sv w0 base d B w1 P PR F A n c R :=
  ⟨h.disk.chg hc fun k hk hf => hF (hk ▸ hf), h.rs.chg hc (fun k _ hk => .inr (hk ▸ hb)) (fun _ _ h => h), h.pl, fun k hk => ⟨(h.blt k hk).1, Nat.lt_of_lt_of_le (h.blt k hk).2 hc.size⟩, h.ext.chg hc fun i hi hk => by have := (h.blt b hb).1; omega, h.old⟩
theorem Sv.mid (h : Sv w0 base d B w P PR F A n c R) (hE : Ext w wx) (hN : DNext base d F wx P' w') : ∃ F', Sv w0 base d B w' P' PR F' A n c R ∧ ∀ g t cs, Row w g t cs → (t ≠ 56 ∧ t ≠ 79 ∧ t ≠ 5) → Row w' g t cs := by
  obtain ⟨F', h1, h2, h3⟩ := hN
  have k := h.move hE
  refine ⟨F', ⟨h1, k.rs.chg h2 (fun k _ hk => .inl hk) (fun j hj hk2 => ?_), h.pl, fun j hj => ⟨(k.blt j hj).1, Nat.lt_of_lt_of_le (k.blt j hj).2 h2.size⟩, k.ext.chg h2 fun i hi hF => ?_, h.old⟩, fun g t cs hr ht => row_disk (hr.ext hE) k.disk h2 ht⟩
  · rcases hk2 with hk2 | hk2
    · rcases h3 j hk2 with h | h
      · exact .inl h
      · omega
    · exact .inr hk2
  · have := k.disk.base_le hF
    have := h.old
    omega
theorem Sv.lt (h : Sv w0 base d B w P PR F A n c R) : ∀ k, (F k ∨ k ∈ B) → k < w.heap.size := fun k hk => by
  rcases hk with hk | hk
  · exact h.disk.lt hk
  · exact (h.blt k hk).2
theorem Sv.ref (h : Sv w0 base d B w P PR F A n c R) (hR : RS w1 (fun k => F k ∨ k ∈ B) A1 n1 c1 R1) (hp : R1.map RE.pl = PR'.L) (hE : Ext w w1) : Sv w0 base d B w1 P PR' F A1 n1 c1 R1 :=
  { h.move hE with rs := hR, pl := hp }
theorem Sv.armed (h : Sv w0 base d B w P PR F A n c R) : P.armed ≤ 9223372036854775807 := by
  obtain ⟨_, _, hD, _⟩ := h.disk
  exact hD.ha
theorem Sv.quota (h : Sv w0 base d B w P PR F A n c R) : P.quota ≤ 9223372036854775807 := by
  obtain ⟨_, _, hD, _⟩ := h.disk
  exact hD.hq
theorem Sv.away (h : Sv w0 base d B w P PR F A n c R) {b : Nat} {t : TypeId} {cs : Array Value} (hr : Row w b t cs) (ht : t ≠ 56 ∧ t ≠ 79 ∧ t ≠ 5) : ¬ F b := fun hF => by
  rcases h.disk.kind hF hr with h | h | h
  · exact ht.1 h
  · exact ht.2.1 h
  · exact ht.2.2 h
end
theorem DS.base_size {w : World} {base d : Nat} {P : PD} {F : Nat → Prop} (h : DS w base d P F) : base ≤ w.heap.size := by
  have h' := h
  obtain ⟨m', E, hD, hf⟩ := h
  have h1 := h'.base_le ((hf d).2 (.inl rfl))
  have h2 := h'.lt ((hf d).2 (.inl rfl))
  omega
theorem Mf.Ok.up {m : Mf} {w : World} {b b2 : Nat} {A : Option Addr} {c : Nat} (h : m.Ok w b A c) (hb : b ≤ b2) : m.Ok w b2 A c :=
  ⟨⟨h.parts.len, h.parts.cells, fun hne a ha => ⟨Nat.lt_of_lt_of_le (h.parts.away hne a ha).1 hb, (h.parts.away hne a ha).2⟩, h.parts.cap, h.parts.most, h.parts.ok⟩, h.floor, h.done, h.log, h.next, h.now⟩
theorem setM_chg' (w : World) (g : Nat) (m : Mf) (A : Option Addr) (c : Nat) : Chg (fun k => k = g) w (setM w g m A c) := setM_chg w g m A c
set_option maxRecDepth 100000 in
set_option maxHeartbeats 16000000 in
theorem saves_any (x y : Int) (A : Option Addr) (c : Nat) (l : List OpS) (m0 : Mf) (C : Option Addr) (cc : Nat) (w : World) (hx : 0 ≤ x ∧ x < 65536) (hy : 0 ≤ y ∧ y < 256) (hc : Cells w A (oscells l)) (ho : ∀ o ∈ l, o.Ok w) (hm : m0.Ok w w.heap.size C cc) :
    Calls Tryz.prog 4 #[.int .u16 x, .slice A l.length c, m0.val C cc, .int .u8 y] w fun e w' => e = .returned (.bool true) ∧ Ext w w' := by
  have hfa : ∀ W, Ext w W → Calls Tryz.prog 5 #[m0.val C cc] W fun e w' => e = .returned (m0.few.val C cc) ∧ Ext W w' := fun W hE => few_any w.heap.size m0 C cc W (hm.ext hE)
  have hfew := hm.few
  obtain ⟨m, hme⟩ : ∃ m, m = m0.few := ⟨_, rfl⟩
  rw [← hme] at hfa hfew
  obtain ⟨q, hq⟩ : ∃ q : Nat, (q : Int) = x % 4000 := ⟨(x % 4000).toNat, by omega⟩
  have hbg := fun W (hE : Ext w W) => begin_any q A c l W (by omega) (hc.ext hE) fun o h => (ho o h).ext hE
  obtain ⟨W0, hW0⟩ : ∃ W, W = w.alloc (.cells #[.slice C m0.ps.length cc, .int .i64 m0.floor, .int .i64 m0.done, .int .i64 m0.log, .int .i64 m0.next, .int .i64 m0.now] 24) := ⟨_, rfl⟩
  have hE0 : Ext w W0 := by rw [hW0]; exact (Ext.refl w).alloc _
  have hr0 : Row W0 w.heap.size 24 #[.slice C m0.ps.length cc, .int .i64 m0.floor, .int .i64 m0.done, .int .i64 m0.log, .int .i64 m0.next, .int .i64 m0.now] := by rw [hW0]; exact Row.new w _ _
  have haw := hide (fun W => awake_any W)
  have hq7 : 0 ≤ y % 7 ∧ y % 7 < 7 := by omega
  unfold Mf.val at hfa ⊢
  unfold BegP at hbg
  rw [hq] at hbg
  replace hfa := hide hfa
  replace hbg := hide hbg
  replace hfew := hide hfew
  replace hE0 := hide hE0
  replace hme := hide hme
  replace hq := hide hq
  clear hm hc ho
  go_enter Tryz.func4, Tryz.ntmps4
  go_wp2_with fail
  rw [← hW0]
  replace hW0 := hide hW0
  refine (hfa.out _ hE0.out).mono ?_
  rintro e w1 ⟨rfl, hE1⟩
  have hr1 := hr0.ext hE1
  have t := hr1.get
  have f := hr1.free
  obtain ⟨w2, hw2⟩ : ∃ w2, w2 = setM w1 w.heap.size m C cc := ⟨_, rfl⟩
  have hr2 := setM_row hr1 m C cc
  have hE2 := setM_ext (hE0.out.trans hE1) (Nat.le_refl _) m C cc
  rw [← hw2] at hr2 hE2
  unfold Mf.cells at hr2
  unfold setM at hw2
  replace hw2 := hide hw2
  replace hr2 := hide hr2
  replace hE2 := hide hE2
  go_wp2_with fail
  rw [← hw2.out]
  clear t f hr1 hr0 hfa
  refine (hbg.out w2 hE2.out).mono ?_
  rintro e w3 ⟨d, P, F, Q, n, cq, R, base, rfl, hbase, hS3, hR3, hpl3, hNm, hE3⟩
  obtain ⟨w4, hw4⟩ : ∃ W, W = w3.alloc (.cells #[.slice Q n cq, .int .i64 P.quota, .int .i64 P.armed, .bool P.stopped] 44) := ⟨_, rfl⟩
  obtain ⟨rb, hrb⟩ : ∃ r, r = w3.heap.size := ⟨_, rfl⟩
  have hE4 : Ext w3 w4 := by rw [hw4]; exact (Ext.refl w3).alloc _
  have hS : Sv w base d [] w3 P P F Q n cq R := ⟨hS3, hR3.chg (Chg.refl (fun _ => False) _) (fun _ _ h => h.elim) (fun k _ hk => hk.elim id (fun h => by cases h)), hpl3, nofun, hE2.out.trans hE3, Nat.le_trans hE2.out.size hbase⟩
  have hrd4 : Row w4 rb 44 #[.slice Q n cq, .int .i64 P.quota, .int .i64 P.armed, .bool P.stopped] := by rw [hw4, hrb]; exact Row.new w3 _ _
  have hS4 := hS.more hE4 (b := rb) (by omega) hrd4.lt
  have hr4 := hr2.out.ext (hE3.trans hE4)
  have hld := hide (load_any base d P F w4 hS4.disk)
  have hrl := hide (fun W (hE : Ext w4 W) => rload_any _ Q n cq P R W (hS4.move hE).rs hS4.pl)
  unfold LoadP at hld hrl
  obtain ⟨Z, hZ⟩ : ∃ Z, Z = loadM P := ⟨_, rfl⟩
  rw [← hZ] at hld
  simp only [← hZ] at hrl
  obtain ⟨ma, is, er⟩ := Z
  unfold Mf.val at hld
  unfold Mf.val rdisk at hrl
  simp only at hld hrl
  replace hS4 := hide hS4
  replace hw4 := hide hw4
  replace hrb := hide hrb
  replace hr4 := hide hr4
  replace hrd4 := hide hrd4
  replace hNm := hide hNm
  replace hZ := hide hZ
  clear hE4 hS hS3 hR3 hpl3 hE3 hbase hr2 hw2 hbg hE2 hE1
  go_wp2_with fail
  rw [← hrb.out, ← hw4.out]
  refine hld.out.mono ?_
  rintro e w5 ⟨A5, c5, rfl, hm5, hE5⟩
  obtain ⟨w6, hw6⟩ : ∃ W, W = w5.alloc (.cells #[.slice A5 ma.ps.length c5, .int .i64 ma.floor, .int .i64 ma.done, .int .i64 ma.log, .int .i64 ma.next, .int .i64 ma.now] 24) := ⟨_, rfl⟩
  obtain ⟨ab, hab⟩ : ∃ r, r = w5.heap.size := ⟨_, rfl⟩
  have hE6 : Ext w5 w6 := by rw [hw6]; exact (Ext.refl w5).alloc _
  have hra6 : Row w6 ab 24 #[.slice A5 ma.ps.length c5, .int .i64 ma.floor, .int .i64 ma.done, .int .i64 ma.log, .int .i64 ma.next, .int .i64 ma.now] := by rw [hw6, hab]; exact Row.new w5 _ _
  have hS6 := (hS4.out.move hE5).more hE6 (b := ab) (by omega) hra6.lt
  have hr6 := hr4.out.ext (hE5.trans hE6)
  have hrd6 := hrd4.out.ext (hE5.trans hE6)
  have hm6 := hide (hm5.ext hE6)
  have x6 := hrd6.get
  have hE46 := hide (hE5.trans hE6)
  replace hS6 := hide hS6
  replace hw6 := hide hw6
  replace hab := hide hab
  replace hr6 := hide hr6
  replace hra6 := hide hra6
  replace hrd6 := hide hrd6
  clear hE6 hm5 hE5 hld hr4 hrd4 hS4
  go_upto_region 6 with (fail)
  rw [← hab.out, ← hw6.out]
  go_wp2_with fail
  clear x6
  refine (hrl.out w6 hE46.out).mono ?_
  rintro e w7 ⟨A7, c7, rfl, hm7, hE7⟩
  obtain ⟨w8, hw8⟩ : ∃ W, W = w7.alloc (.cells #[.slice A7 ma.ps.length c7, .int .i64 ma.floor, .int .i64 ma.done, .int .i64 ma.log, .int .i64 ma.next, .int .i64 ma.now] 24) := ⟨_, rfl⟩
  obtain ⟨bb, hbb⟩ : ∃ r, r = w7.heap.size := ⟨_, rfl⟩
  have hE8 : Ext w7 w8 := by rw [hw8]; exact (Ext.refl w7).alloc _
  have hrb8 : Row w8 bb 24 #[.slice A7 ma.ps.length c7, .int .i64 ma.floor, .int .i64 ma.done, .int .i64 ma.log, .int .i64 ma.next, .int .i64 ma.now] := by rw [hw8, hbb]; exact Row.new w7 _ _
  have hS8 := (hS6.out.move hE7).more hE8 (b := bb) (by omega) hrb8.lt
  have hr8 := hr6.out.ext (hE7.trans hE8)
  have hra8 := hra6.out.ext (hE7.trans hE8)
  have hrd8 := hrd6.out.ext (hE7.trans hE8)
  have hsm := hide (rsame_any _ _ ma ma A5 A7 c5 c7 w8 ((hm6.out.ext hE7).ext hE8) (hm7.ext hE8))
  rw [sameP_refl ma] at hsm
  unfold Mf.val at hsm
  replace hS8 := hide hS8
  replace hw8 := hide hw8
  replace hbb := hide hbb
  replace hr8 := hide hr8
  replace hra8 := hide hra8
  have hab_bb : ab < bb := by have := hra6.out.lt; have := hE7.size; have := hbb.out; omega
  replace hrb8 := hide hrb8
  replace hrd8 := hide hrd8
  clear hE8 hm7 hE7 hrl hr6 hra6 hrd6 hS6 hm6 hE46
  go_upto_region 7 with (fail)
  rw [← hbb.out, ← hw8.out]
  have x8 := hra8.out.get
  have y8 := hrb8.out.get
  have n1 : (is != is) = false := by cases is <;> rfl
  have n2 : ((er : Int) != (er : Int)) = false := by simp
  go_wp2_with fail
  clear x8 y8
  refine hsm.out.mono ?_
  rintro e w9 ⟨rfl, hE9⟩
  have hS9 := hS8.out.move hE9
  have har := hide (arm_any base d P F (y % 7) w9 hS9.disk (by omega))
  have hr9 := hide (hr8.out.ext hE9)
  have hra9 := hide (hra8.out.ext hE9)
  have hrb9 := hide (hrb8.out.ext hE9)
  have hrd9 := hide (hrd8.out.ext hE9)
  replace hS9 := hide hS9
  clear hsm hE9 hr8 hra8 hrb8 hrd8 hS8
  go_wp2_with fail
  refine har.out.mono ?_
  rintro e w10 ⟨rfl, hN10⟩
  obtain ⟨F10, hS10, hkp⟩ := hS9.out.mid (Ext.refl _) hN10
  have hr10 := hkp _ _ _ hr9.out (by decide)
  have hra10 := hkp _ _ _ hra9.out (by decide)
  have hrb10 := hkp _ _ _ hrb9.out (by decide)
  have hrd10 := hkp _ _ _ hrd9.out (by decide)
  obtain ⟨P', hP'⟩ : ∃ P' : PD, P' = { P with armed := (y % 7).toNat } := ⟨_, rfl⟩
  have hra := rarm_any Q n cq P.quota P.armed P.stopped (y % 7) w10
  have hrv : rdisk Q n cq P.quota (y % 7).toNat P.stopped = .agg #[.slice Q n cq, .int .i64 P'.quota, .int .i64 P'.armed, .bool P'.stopped] := by rw [hP']; rfl
  have hNm' : Nm P' := by rw [hP']; exact hNm.out
  have hPL : P.L = P'.L := by rw [hP']
  rw [hrv] at hra
  rw [← hP'] at hS10
  unfold rdisk at hra
  replace hra := hide hra
  replace hS10 := hide hS10
  replace hPL := hide hPL
  replace hNm' := hide hNm'
  have x := hrd10.get
  replace hr10 := hide hr10
  replace hra10 := hide hra10
  replace hrb10 := hide hrb10
  replace hrd10 := hide hrd10
  replace hP' := hide hP'
  clear hkp hN10 hr9 hra9 hrb9 hrd9 har hS9 hrv hNm
  go_wp2_with fail
  clear x
  refine hra.out.mono ?_
  rintro e w11 ⟨rfl, hE11⟩
  have hrd11 := hrd10.out.ext hE11
  have hne1 := hrd11.unlike (hra10.out.ext hE11) (by decide)
  have hne2 := hrd11.unlike (hrb10.out.ext hE11) (by decide)
  have hne3 := hrd11.unlike (hr10.out.ext hE11) (by decide)
  have hch := put4_chg w11 rb (.slice Q n cq) (.int .i64 P'.quota) (.int .i64 P'.armed) (.bool P'.stopped)
  have hS11 := (hS10.out.move hE11).set (b := rb) (by simp) ((hS10.out.move hE11).away hrd11 (by decide)) hch
  have hS11' := { hS11 with pl := hS11.pl.trans hPL.out : Sv w base d _ _ P' P' F10 Q n cq R }
  have hr11 := hch.row (hr10.out.ext hE11) (Ne.symm hne3)
  have hra11 := hch.row (hra10.out.ext hE11) (Ne.symm hne1)
  have hrb11 := hch.row (hrb10.out.ext hE11) (Ne.symm hne2)
  have hrd11' := put4_row hrd11 (.slice Q n cq) (.int .i64 P'.quota) (.int .i64 P'.armed) (.bool P'.stopped)
  have x := hrd11.get
  have f := hrd11.free
  obtain ⟨v11, hv11⟩ : ∃ v, v = put4 w11 rb (.slice Q n cq) (.int .i64 P'.quota) (.int .i64 P'.armed) (.bool P'.stopped) := ⟨_, rfl⟩
  rw [← hv11] at hS11' hr11 hra11 hrb11 hrd11'
  unfold put4 at hv11
  replace hv11 := hide hv11
  have hsv := hide (save_any base d P' F10 w.heap.size m C cc v11 hS11'.disk (hfew.out.ext hS11'.ext) hS11'.disk.base_size)
  have hrs := fun N w1 (h1 : RS w1 N Q n cq R) (hN : ∀ k, N k → k < w1.heap.size) (hE : Ext w w1) => rsave_any N Q n cq P' R w.heap.size m C cc w1 h1 hS11'.pl hN hS11'.armed hS11'.quota (hfew.out.ext hE)
  have hNm2 := nm_save hNm'.out m
  obtain ⟨Z2, hZ2⟩ : ∃ Z, Z = saveM P' m := ⟨_, rfl⟩
  rw [← hZ2] at hsv hNm2
  simp only [← hZ2] at hrs
  obtain ⟨P2, e2⟩ := Z2
  simp only at hsv hrs hNm2
  unfold RNext at hrs
  unfold rdisk at hrs
  unfold Mf.val at hsv hrs
  replace hrs := hide hrs
  replace hS11' := hide hS11'
  replace hNm2 := hide hNm2
  replace hr11 := hide hr11
  replace hra11 := hide hra11
  replace hrb11 := hide hrb11
  replace hrd11' := hide hrd11'
  replace hZ2 := hide hZ2
  clear hra hch hrd11 hne1 hne2 hne3 hS11 hr10 hra10 hrb10 hrd10 hS10 hE11
  go_upto_region 11 with (fail)
  rw [← hv11.out]
  clear x f
  have x := hr11.out.get
  go_wp2_with fail
  clear x
  refine hsv.out.mono ?_
  rintro e w12 ⟨rfl, wx, hxE, hN12⟩
  obtain ⟨F12, hS12, hkp⟩ := hS11'.out.mid hxE hN12
  have hr12 := hkp _ _ _ hr11.out (by decide)
  have hra12 := hkp _ _ _ hra11.out (by decide)
  have hrb12 := hkp _ _ _ hrb11.out (by decide)
  have hrd12 := hkp _ _ _ hrd11'.out (by decide)
  have x := hr12.get
  have y := hrd12.get
  replace hS12 := hide hS12
  replace hr12 := hide hr12
  replace hra12 := hide hra12
  replace hrb12 := hide hrb12
  clear hkp hN12 hsv hr11 hra11 hrb11 hrd11' hS11' hrd12 hxE
  go_wp2_with fail
  clear x y
  refine (hrs.out _ w12 hS12.out.rs hS12.out.lt hS12.out.ext).mono ?_
  rintro e w13 ⟨A13, n13, c13, R13, rfl, hR13, hP13, hE13⟩
  obtain ⟨w14, hw14⟩ : ∃ W, W = w13.alloc (.cells #[.slice A13 n13 c13, .int .i64 P2.quota, .int .i64 P2.armed, .bool P2.stopped] 44) := ⟨_, rfl⟩
  obtain ⟨nb, hnb⟩ : ∃ r, r = w13.heap.size := ⟨_, rfl⟩
  have hE14 : Ext w13 w14 := by rw [hw14]; exact (Ext.refl w13).alloc _
  have hrn14 : Row w14 nb 44 #[.slice A13 n13 c13, .int .i64 P2.quota, .int .i64 P2.armed, .bool P2.stopped] := by rw [hw14, hnb]; exact Row.new w13 _ _
  have hS14 := (hS12.out.ref hR13 hP13 hE13).more hE14 (b := nb) (by omega) hrn14.lt
  have hra14 := hra12.out.ext (hE13.trans hE14)
  have hrb14 := hrb12.out.ext (hE13.trans hE14)
  have hld := hide (load_any base d P2 F12 w14 hS14.disk)
  have hrl := fun B W F (h : Sv w base d B W P2 P2 F A13 n13 c13 R13) => rload_any _ A13 n13 c13 P2 R13 W h.rs h.pl
  unfold LoadP at hld hrl
  obtain ⟨Z, hZ⟩ : ∃ Z, Z = loadM P2 := ⟨_, rfl⟩
  rw [← hZ] at hld
  simp only [← hZ] at hrl
  obtain ⟨mc, is2, er2⟩ := Z
  unfold Mf.val at hld
  unfold Mf.val rdisk at hrl
  simp only at hld hrl
  replace hrl := hide hrl
  replace hS14 := hide hS14
  replace hw14 := hide hw14
  replace hnb := hide hnb
  replace hrn14 := hide hrn14
  replace hra14 := hide hra14
  replace hrb14 := hide hrb14
  replace hZ := hide hZ
  clear hE14 hR13 hP13 hE13 hrs hS12 hra12 hrb12 hr12
  go_upto_region 13 with (fail)
  rw [← hnb.out, ← hw14.out]
  go_wp2_with fail
  refine hld.out.mono ?_
  rintro e w15 ⟨A15, c15, rfl, hm15, hE15⟩
  have hra15 := hra14.out.ext hE15
  have hrb15 := hrb14.out.ext hE15
  have hrn15 := hrn14.out.ext hE15
  have hch := setM_chg w15 ab mc A15 c15
  have hS15 := (hS14.out.move hE15).set (b := ab) (by simp) ((hS14.out.move hE15).away hra15 (by decide)) hch
  have hra15' := setM_row hra15 mc A15 c15
  have hrb15' := hch.row hrb15 (by omega)
  have hrn15' := hch.row hrn15 (hrn15.unlike hra15 (by decide))
  have hm15' := mf_setM hm15 hra15 mc A15 c15
  unfold Mf.cells at hra15'
  have x := hra15.get
  have f := hra15.free
  obtain ⟨v15, hv15⟩ : ∃ v, v = setM w15 ab mc A15 c15 := ⟨_, rfl⟩
  rw [← hv15] at hS15 hra15' hrb15' hrn15' hm15'
  unfold setM at hv15
  replace hv15 := hide hv15
  replace hS15 := hide hS15
  replace hra15' := hide hra15'
  replace hrb15' := hide hrb15'
  replace hrn15' := hide hrn15'
  replace hm15' := hide hm15'
  clear hch hra15 hrb15 hrn15 hm15 hE15 hld hS14 hrn14 hra14 hrb14
  go_upto_region 14 with (fail)
  rw [← hv15.out]
  clear x f
  have x := hrn15'.out.get
  go_wp2_with fail
  clear x
  refine (hrl.out _ _ _ hS15.out).mono ?_
  rintro e w16 ⟨A16, c16, rfl, hm16, hE16⟩
  have hra16 := hra15'.out.ext hE16
  have hrb16 := hrb15'.out.ext hE16
  have hrn16 := hrn15'.out.ext hE16
  have hch := setM_chg w16 bb mc A16 c16
  have hS16 := (hS15.out.move hE16).set (b := bb) (by simp) ((hS15.out.move hE16).away hrb16 (by decide)) hch
  have hrb16' := setM_row hrb16 mc A16 c16
  have hra16' := hch.row hra16 (by omega)
  have hrn16' := hch.row hrn16 (hrn16.unlike hrb16 (by decide))
  have hm16' := mf_setM hm16 hrb16 mc A16 c16
  have hm15'' := mf_setM ((hm15'.out.ext hE16).up hE16.size) hrb16 mc A16 c16
  unfold Mf.cells at hrb16'
  have x := hrb16.get
  have f := hrb16.free
  obtain ⟨v16, hv16⟩ : ∃ v, v = setM w16 bb mc A16 c16 := ⟨_, rfl⟩
  rw [← hv16] at hS16 hra16' hrb16' hrn16' hm15'' hm16'
  unfold setM at hv16
  have hsm := hide (rsame_any _ _ mc mc A15 A16 c15 c16 v16 hm15'' hm16')
  rw [sameP_refl mc] at hsm
  unfold Mf.val at hsm
  replace hv16 := hide hv16
  replace hS16 := hide hS16
  replace hra16' := hide hra16'
  replace hrb16' := hide hrb16'
  replace hrn16' := hide hrn16'
  clear hch hra16 hrb16 hrn16 hm16 hE16 hrl hS15 hra15' hrb15' hrn15' hm15' hm15'' hm16'
  go_upto_region 15 with (fail)
  rw [← hv16.out]
  clear x f
  have x := hra16'.out.get
  have y := hrb16'.out.get
  have n3 : (is2 != is2) = false := by cases is2 <;> rfl
  have n4 : ((er2 : Int) != (er2 : Int)) = false := by simp
  have n5 : ((e2 : Int) != (e2 : Int)) = false := by simp
  go_wp2_with fail
  clear x y
  refine hsm.out.mono ?_
  rintro e w17 ⟨rfl, hE17⟩
  have hS17 := hS16.out.move hE17
  have hal := hide (alike_any base d P2 F12 _ A13 n13 c13 R13 w17 hS17.disk hS17.rs hS17.pl hNm2.out hS17.lt (fun k hk => .inl hk))
  unfold rdisk at hal
  have x := (hrn16'.out.ext hE17).get
  replace hS17 := hide hS17
  clear hsm hS16 hra16' hrb16' hrn16' hE17
  go_wp2_with fail
  clear x
  refine hal.out.mono ?_
  rintro e w18 ⟨rfl, hN18⟩
  obtain ⟨F18, hS18, _⟩ := hS17.out.mid (Ext.refl _) hN18
  have hld := hide (load_nil w18)
  unfold LoadP at hld
  unfold nilMf Mf.val at hld
  simp only [List.length_nil] at hld
  have hsn := hide (fun W => save_nil newM none 0 W)
  have hnew := hide (fun W => new_any W)
  unfold newM Mf.val at hsn hnew
  simp only [List.length_nil] at hsn hnew
  replace hS18 := hide hS18
  clear hal hS17 hN18
  go_wp2_with fail
  refine hld.out.mono ?_
  rintro e w19 ⟨A19, c19, rfl, _, hE19⟩
  go_wp2_with fail
  refine (hnew.out _).mono ?_
  rintro e w20 ⟨rfl, hE20⟩
  go_wp2_with fail
  refine (hsn.out _).mono ?_
  rintro e w21 ⟨rfl, hE21⟩
  go_wp2_with fail
  refine (haw.out _).mono ?_
  rintro e w22 ⟨rfl, hE22⟩
  go_wp2_with fail
  go_ret
  exact ⟨rfl, (((hS18.out.ext.trans hE19).trans (((Ext.refl w19).alloc _).trans hE20)).trans hE21).trans hE22⟩
end Go.Proofs.YtaoolpnnomhnoaaGreatDoor

/- What came in: rows of strings. -/
namespace Go.Proofs.YtaoolpnnomhnoaaGreatDoor
open Go.ChangeShapes Go.WideShapes Go.Deep Go.RowKit

def strV (l : List UInt8) : Value := .string ⟨l.toArray⟩
theorem strV_bytes (s : ByteArray) : strV s.data.toList = .string s := by
  cases s
  simp [strV]
theorem str_list {s : ByteArray} (h : s.size ≤ maxLen) : Value.string s = strV s.data.toList ∧ s.data.toList.length ≤ 9223372036854775807 := by
  refine ⟨(strV_bytes s).symm, ?_⟩
  unfold maxLen at h
  rw [Array.length_toList]
  exact h
section
variable {H : Type} {enc : TypeId × Value → H} {w : World} {base : Nat} {spare : Nat → Bool} {held : Bool}
set_option maxRecDepth 100000 in
theorem in_strings {t e : TypeId} {fuel : Nat} {v : Value} {x : DataW H × List MemPlace} (ht : Tryz.prog.underlying t = some (.slice e)) (he : Tryz.prog.underlying e = some .string) (hc : Tryz.prog.cellsOf e = 1)
    (h : DataW.trod enc Tryz.prog w base spare held fuel t [v] = some x) :
    ∃ (A : Option Addr) (cap : Nat) (ss : List (List UInt8)), v = .slice A ss.length cap ∧ Cells w A (ss.map strV) ∧ (ss ≠ [] → ∀ a, A = some a → a.block < w.heap.size ∧ a.spot = none) ∧ ss.length ≤ cap ∧ ss.length ≤ 9223372036854775807 ∧ ∀ s ∈ ss, s.length ≤ 9223372036854775807 := by
  rcases open_strings ht he hc h with ⟨hcs, _⟩ | ⟨y, m, c, zs, hcs, _, hl, hm, hz, _, hcell, hwz⟩
  · obtain rfl : v = .slice none 0 0 := by simpa using hcs
    exact ⟨none, 0, [], rfl, .inl rfl, fun h => absurd rfl h, by simp, by simp, nofun⟩
  · obtain rfl : v = .slice (some y) m c := by simpa using hcs
    have hzl : m ≤ zs.length := by rw [hz]; split <;> omega
    have hml : m ≤ 9223372036854775807 := by unfold maxLen at hm; omega
    have hlen : ((zs.take m).map fun s => s.data.toList).length = m := by simp; omega
    refine ⟨some y, c, (zs.take m).map fun s => s.data.toList, by rw [hlen], ?_, ?_, by rw [hlen]; exact hl, by rw [hlen]; exact hml, fun s hs => ?_⟩
    · rcases Nat.eq_zero_or_pos m with rfl | hm0
      · exact .inl rfl
      · have h0 := hcell 0 (by omega)
        have hs := (cell_lt h0).2
        obtain ⟨b, o, s⟩ := y
        obtain rfl : s = none := hs
        refine .inr ⟨b, o, rfl, fun i u hu => ?_⟩
        rw [List.getElem?_map, List.getElem?_map, List.getElem?_take] at hu
        split at hu
        · rename_i hi
          have hi2 : i < zs.length := by omega
          rw [List.getElem?_eq_getElem hi2] at hu
          simp only [Option.map_some] at hu
          have h1 := hcell i hi2
          rw [Addr.add_lit] at h1
          rw [h1, ← hu, strV_bytes]
          simp [List.getD, hi2]
        · simp at hu
    · intro hne a ha
      obtain rfl : y = a := by simpa using ha
      have hm0 : 0 < m := by
        rcases Nat.eq_zero_or_pos m with rfl | hm0
        · exact absurd rfl hne
        · exact hm0
      exact cell_lt (hcell 0 (by omega))
    · obtain ⟨z, hz1, rfl⟩ := List.mem_map.1 hs
      have := hwz z (List.mem_of_mem_take hz1)
      unfold maxLen at this
      rw [Array.length_toList]
      exact this
end
end Go.Proofs.YtaoolpnnomhnoaaGreatDoor

/- loggialaw16: a row of files that came in: opening. -/
namespace Go.Proofs.YtaoolpnnomhnoaaGreatDoor
open Go.ChangeShapes Go.WideShapes Go.Deep Go.RowKit

section
variable {H : Type} {enc : TypeId × Value → H} {w : World} {base : Nat} {spare : Nat → Bool} {held : Bool}
set_option maxRecDepth 100000 in
theorem in_ops {fuel : Nat} {cs : List Value} {y : DataW H × List MemPlace} (hcl : cs.length = 3) (h : DataW.trod enc Tryz.prog w base spare held fuel 84 cs = some y) :
    ∃ o : OpS, o.Ok w ∧ o.cells = cs := by
  obtain ⟨n, one⟩ := in_fields (tys := #[9, 57, 4]) Tryz.underlying84 (by kernel_rfl) (by kernel_rfl) h
  match cs, hcl with
  | [v0, v1, v2], _ =>
    obtain ⟨z0, h0⟩ := one 0 _ v0 rfl rfl
    obtain ⟨z1, h1⟩ := one 1 _ v1 rfl rfl
    obtain ⟨z2, h2⟩ := one 2 _ v2 rfl rfl
    obtain ⟨s0, e0, _, w0⟩ := DataW.trod_string Tryz.underlying9 h0
    obtain rfl : v0 = .string s0 := by simpa using e0
    obtain ⟨A5, n5, c5, b5, rfl, l5, C5, p5, q5, m5, w5⟩ := in_ints Tryz.underlying57 Tryz.underlying5 (by kernel_rfl) h1
    obtain ⟨b2, e2, _⟩ := DataW.trod_bool Tryz.underlying4 h2
    obtain rfl : v2 = .bool b2 := by simpa using e2
    subst l5
    have hbs : ∀ z ∈ b5, Value.int .u8 z = B8 (UInt8.ofNat z.toNat) := by
      intro z hz
      have := wf_u8 (w5 z hz)
      unfold B8
      rw [UInt8.toNat_ofNat']
      congr 1
      omega
    have hbm : (b5.map fun z => UInt8.ofNat z.toNat).map B8 = b5.map (Value.int .u8) := by
      rw [List.map_map]
      exact List.map_congr_left fun z hz => (hbs z hz).symm
    refine ⟨⟨s0.data.toList, b5.map fun z => UInt8.ofNat z.toNat, A5, c5, b2⟩, ⟨(str_list w0).2, ?_, ?_, ?_⟩, ?_⟩
    · show Cells w A5 ((b5.map fun z => UInt8.ofNat z.toNat).map B8)
      rw [hbm]
      exact C5
    · exact fun hne => p5 fun e => hne (by show b5.map _ = []; rw [e]; rfl)
    · show (b5.map _).length ≤ c5
      rw [List.length_map]
      exact q5
    · unfold OpS.cells
      rw [(str_list w0).1]
      simp only [List.length_map]
      rfl
set_option maxRecDepth 100000 in
theorem in_opss {fuel : Nat} {v : Value} {x : DataW H × List MemPlace} (h : DataW.trod enc Tryz.prog w base spare held fuel 41 [v] = some x) :
    ∃ (A : Option Addr) (c : Nat) (l : List OpS), v = .slice A l.length c ∧ Cells w A (oscells l) ∧ ∀ o ∈ l, o.Ok w := by
  obtain ⟨A, c, l, rfl, hc, _, _, hl, hx⟩ := in_row_of (cellsA := OpS.cells) (Q := fun o : OpS => o.Ok w) Tryz.underlying41 (by kernel_rfl) (by omega : 0 < 3) (fun _ => rfl) (fun _ _ _ a b => in_ops a b) h
  exact ⟨A, c, l, rfl, hc, hx⟩
end
end Go.Proofs.YtaoolpnnomhnoaaGreatDoor

/- A Manifest that came in: opening. -/
namespace Go.Proofs.YtaoolpnnomhnoaaGreatDoor
open Go.ChangeShapes Go.WideShapes Go.Deep Go.RowKit

section
variable {H : Type} {enc : TypeId × Value → H} {w : World} {base : Nat} {spare : Nat → Bool} {held : Bool}
set_option maxRecDepth 100000 in
theorem in_part {fuel : Nat} {cs : List Value} {y : DataW H × List MemPlace} (hcl : cs.length = 7) (h : DataW.trod enc Tryz.prog w base spare held fuel 71 cs = some y) :
    ∃ p : Pt, p.Ok ∧ p.cells = cs := by
  obtain ⟨fs, hfs, hone⟩ : ∃ fs, Tryz.prog.underlying 71 = some (.struct fs) ∧ oneCellFields Tryz.prog fs = true ∧ fs.map Field.type = #[3, 69, 3, 3, 3, 3, 3] := ⟨_, Tryz.underlying71, by kernel_rfl, by kernel_rfl⟩
  obtain ⟨hone, hty⟩ := hone
  obtain ⟨ys, n, hn, hy, hlen, hyl, hf⟩ := DataW.trod_struct hfs h
  have one : ∀ (j : Nat) (t : TypeId) (v : Value), (#[3, 69, 3, 3, 3, 3, 3] : Array TypeId)[j]? = some t → cs[j]? = some v → ∃ z, DataW.trod enc Tryz.prog w base spare held n t [v] = some z := by
    intro j t v hj hv
    rw [← hty, Array.getElem?_map] at hj
    obtain ⟨f, hfj, rfl⟩ := Option.map_eq_some_iff.1 hj
    obtain ⟨ho, hk⟩ := hone_of hone j f hfj
    have h1 := hf j f hfj
    have hjl : j < cs.length := (List.getElem?_eq_some_iff.1 hv).1
    rw [ho, hk, List.drop_eq_getElem_cons hjl] at h1
    have hv2 : cs[j] = v := by rw [List.getElem?_eq_getElem hjl] at hv; simpa using hv
    rw [hv2] at h1
    have hjy : j < ys.length := by rw [hyl]; exact (Array.getElem?_eq_some_iff.1 hfj).1
    rw [List.getElem?_eq_getElem hjy] at h1
    exact ⟨_, h1⟩
  match cs, hcl with
  | [v0, v1, v2, v3, v4, v5, v6], _ =>
    obtain ⟨z0, h0⟩ := one 0 _ v0 rfl rfl
    obtain ⟨k0, e0, _, w0⟩ := DataW.trod_int Tryz.underlying3 h0
    obtain rfl : v0 = .int .i64 k0 := by simpa using e0
    obtain ⟨z1, h1⟩ := one 1 _ v1 rfl rfl
    obtain ⟨k1, e1, _, w1⟩ := DataW.trod_int Tryz.underlying69 h1
    obtain rfl : v1 = .int .i64 k1 := by simpa using e1
    obtain ⟨z2, h2⟩ := one 2 _ v2 rfl rfl
    obtain ⟨k2, e2, _, w2⟩ := DataW.trod_int Tryz.underlying3 h2
    obtain rfl : v2 = .int .i64 k2 := by simpa using e2
    obtain ⟨z3, h3⟩ := one 3 _ v3 rfl rfl
    obtain ⟨k3, e3, _, w3⟩ := DataW.trod_int Tryz.underlying3 h3
    obtain rfl : v3 = .int .i64 k3 := by simpa using e3
    obtain ⟨z4, h4⟩ := one 4 _ v4 rfl rfl
    obtain ⟨k4, e4, _, w4⟩ := DataW.trod_int Tryz.underlying3 h4
    obtain rfl : v4 = .int .i64 k4 := by simpa using e4
    obtain ⟨z5, h5⟩ := one 5 _ v5 rfl rfl
    obtain ⟨k5, e5, _, w5⟩ := DataW.trod_int Tryz.underlying3 h5
    obtain rfl : v5 = .int .i64 k5 := by simpa using e5
    obtain ⟨z6, h6⟩ := one 6 _ v6 rfl rfl
    obtain ⟨k6, e6, _, w6⟩ := DataW.trod_int Tryz.underlying3 h6
    obtain rfl : v6 = .int .i64 k6 := by simpa using e6
    exact ⟨⟨k0, k1, k2, k3, k4, k5, k6⟩, ⟨wf_i64 w0, wf_i64 w1, wf_i64 w2, wf_i64 w3, wf_i64 w4, wf_i64 w5, wf_i64 w6⟩, rfl⟩
set_option maxRecDepth 100000 in
theorem in_parts {fuel : Nat} {v : Value} {x : DataW H × List MemPlace} (h : DataW.trod enc Tryz.prog w base spare held fuel 22 [v] = some x) :
    ∃ A c ps, v = .slice A ps.length c ∧ PS w w.heap.size A ps.length c ps := by
  rcases open_slice Tryz.underlying22 h with ⟨hcs, _⟩ | ⟨a, m, c, k, n, D, Pl, hcs, hb, hl, hm, hk, hx, hi⟩
  · obtain rfl : v = .slice none 0 0 := by simpa using hcs
    exact ⟨none, 0, [], rfl, rfl, .inl rfl, fun h => absurd rfl h, Nat.le_refl _, by show 0 ≤ _; omega, nofun⟩
  · obtain rfl : v = .slice (some a) m c := by simpa using hcs
    have hc7 : Tryz.prog.cellsOf 71 = 7 := by kernel_rfl
    rw [hc7] at hi
    have hlk : m ≤ k := by rw [hk]; split <;> omega
    obtain ⟨ps, hpl, hps⟩ := list_of (Q := fun i (p : Pt) => p.Ok ∧ ∀ j v, p.cells[j]? = some v → w.cell? ((a.add (i * 7)).add j) = some v) m fun i hil => by
      obtain ⟨cs, hc, ht⟩ := hi i (by omega)
      obtain ⟨_, hcl, hat⟩ := World.cells?_some hc
      obtain ⟨p, hp, rfl⟩ := in_part hcl ht
      exact ⟨p, hp, fun j v hv => by rw [hat j (List.getElem?_eq_some_iff.1 hv).1]; exact hv⟩
    subst hpl
    have hat : ∀ i v, (pcells ps)[i]? = some v → w.cell? (a.add i) = some v := fun i v hv => by
      have hil : i < (pcells ps).length := (List.getElem?_eq_some_iff.1 hv).1
      rw [pcells_len] at hil
      have hdiv : i / 7 < ps.length := by omega
      have hg := pcells_get ps (i / 7) ps[i / 7] (i % 7) (List.getElem?_eq_getElem hdiv) (Nat.mod_lt _ (by omega))
      have hii : i / 7 * 7 + i % 7 = i := by omega
      rw [hii, hv] at hg
      have := (hps (i / 7) _ (List.getElem?_eq_getElem hdiv)).2 (i % 7) v hg.symm
      rw [Addr.add_add, hii] at this
      exact this
    have hlt : ps ≠ [] → a.block < w.heap.size ∧ a.spot = none := fun hne => by
      have h0 : 0 < (pcells ps).length := by
        rw [pcells_len]
        have := List.length_pos_iff.2 hne
        omega
      have := hat 0 _ (List.getElem?_eq_getElem h0)
      have := cell_lt this
      simpa [Addr.add] using this
    refine ⟨some a, c, ps, rfl, rfl, ?_, fun hne b hb => by cases hb; exact hlt hne, hl, by unfold maxLen at hm; omega, fun p hp => ?_⟩
    · by_cases hne : ps = []
      · rw [hne]; exact .inl rfl
      · obtain ⟨b, o, s⟩ := a
        obtain rfl : s = none := (hlt hne).2
        exact .inr ⟨b, o, rfl, fun i v hv => by have := hat i v hv; rw [Addr.add_lit] at this; exact this⟩
    · obtain ⟨i, hil, rfl⟩ := List.mem_iff_getElem.1 hp
      exact (hps i _ (List.getElem?_eq_getElem hil)).1
set_option maxRecDepth 100000 in
theorem in_mf {fuel : Nat} {cs : List Value} {y : DataW H × List MemPlace} (hcl : cs.length = 6) (h : DataW.trod enc Tryz.prog w base spare held fuel 24 cs = some y) :
    ∃ (m : Mf) (A : Option Addr) (c : Nat), m.Ok w w.heap.size A c ∧ Value.agg cs.toArray = m.val A c := by
  obtain ⟨fs, hfs, hone⟩ : ∃ fs, Tryz.prog.underlying 24 = some (.struct fs) ∧ oneCellFields Tryz.prog fs = true ∧ fs.map Field.type = #[22, 3, 3, 3, 3, 3] := ⟨_, Tryz.underlying24, by kernel_rfl, by kernel_rfl⟩
  obtain ⟨hone, hty⟩ := hone
  obtain ⟨ys, n, hn, hy, hlen, hyl, hf⟩ := DataW.trod_struct hfs h
  have one : ∀ (j : Nat) (t : TypeId) (v : Value), (#[22, 3, 3, 3, 3, 3] : Array TypeId)[j]? = some t → cs[j]? = some v → ∃ z, DataW.trod enc Tryz.prog w base spare held n t [v] = some z := by
    intro j t v hj hv
    rw [← hty, Array.getElem?_map] at hj
    obtain ⟨f, hfj, rfl⟩ := Option.map_eq_some_iff.1 hj
    obtain ⟨ho, hk⟩ := hone_of hone j f hfj
    have h1 := hf j f hfj
    have hjl : j < cs.length := (List.getElem?_eq_some_iff.1 hv).1
    rw [ho, hk, List.drop_eq_getElem_cons hjl] at h1
    have hv2 : cs[j] = v := by rw [List.getElem?_eq_getElem hjl] at hv; simpa using hv
    rw [hv2] at h1
    have hjy : j < ys.length := by rw [hyl]; exact (Array.getElem?_eq_some_iff.1 hfj).1
    rw [List.getElem?_eq_getElem hjy] at h1
    exact ⟨_, h1⟩
  match cs, hcl with
  | [v0, v1, v2, v3, v4, v5], _ =>
    obtain ⟨z0, h0⟩ := one 0 _ v0 rfl rfl
    obtain ⟨A, c, ps, rfl, hps⟩ := in_parts h0
    obtain ⟨z1, h1⟩ := one 1 _ v1 rfl rfl
    obtain ⟨k1, e1, _, w1⟩ := DataW.trod_int Tryz.underlying3 h1
    obtain rfl : v1 = .int .i64 k1 := by simpa using e1
    obtain ⟨z2, h2⟩ := one 2 _ v2 rfl rfl
    obtain ⟨k2, e2, _, w2⟩ := DataW.trod_int Tryz.underlying3 h2
    obtain rfl : v2 = .int .i64 k2 := by simpa using e2
    obtain ⟨z3, h3⟩ := one 3 _ v3 rfl rfl
    obtain ⟨k3, e3, _, w3⟩ := DataW.trod_int Tryz.underlying3 h3
    obtain rfl : v3 = .int .i64 k3 := by simpa using e3
    obtain ⟨z4, h4⟩ := one 4 _ v4 rfl rfl
    obtain ⟨k4, e4, _, w4⟩ := DataW.trod_int Tryz.underlying3 h4
    obtain rfl : v4 = .int .i64 k4 := by simpa using e4
    obtain ⟨z5, h5⟩ := one 5 _ v5 rfl rfl
    obtain ⟨k5, e5, _, w5⟩ := DataW.trod_int Tryz.underlying3 h5
    obtain rfl : v5 = .int .i64 k5 := by simpa using e5
    exact ⟨⟨ps, k1, k2, k3, k4, k5⟩, A, c, ⟨hps, wf_i64 w1, wf_i64 w2, wf_i64 w3, wf_i64 w4, wf_i64 w5⟩, rfl⟩
end
end Go.Proofs.YtaoolpnnomhnoaaGreatDoor

