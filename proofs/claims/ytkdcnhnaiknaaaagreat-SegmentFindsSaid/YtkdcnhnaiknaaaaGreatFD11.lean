/- Texts of one proof, joined. -/
import Derived.Test.YtkdcnhnaiknaaaaGreatFD02
import Derived.Test.YtkdcnhnaiknaaaaGreatFD03
import Derived.Test.YtkdcnhnaiknaaaaGreatFD07
import Derived.Test.YtkdcnhnaiknaaaaGreatFD05
import Derived.Test.YtkdcnhnaiknaaaaGreatFD04
import Derived.Deep.QuietTactic
import Derived.BigQuiet
set_option linter.unusedSimpArgs false
set_option linter.unusedVariables false
namespace Go.Proofs.YtkdcnhnaiknaaaaGreat
section
open Go.RowKit
attribute [local go_sem] Oper.semAt_some wide_depth
def KeepB (b1 b2 : Nat) (W W' : World) : Prop := (∀ o, W.heap[b1]? = some o → W'.heap[b1]? = some o) ∧ ∀ o, W.heap[b2]? = some o → W'.heap[b2]? = some o
theorem KeepB.trans (b1 b2 : Nat) (A B C : World) (h : KeepB b1 b2 A B) (k : KeepB b1 b2 B C) : KeepB b1 b2 A C := ⟨fun o ho => k.1 o (h.1 o ho), fun o ho => k.2 o (h.2 o ho)⟩
theorem KeepB.refl (b1 b2 : Nat) (A : World) : KeepB b1 b2 A A := ⟨fun _ h => h, fun _ h => h⟩
theorem KeepB.of {b1 b2 : Nat} {W W' : World} {t1 t2 : TypeId} {c1 c2 : Array Value} (h1 : Row W b1 t1 c1) (h1' : Row W' b1 t1 c1) (h2 : Row W b2 t2 c2) (h2' : Row W' b2 t2 c2) : KeepB b1 b2 W W' :=
  ⟨fun o ho => by unfold Row at h1 h1'; rw [h1'] ; rw [h1] at ho; exact ho, fun o ho => by unfold Row at h2 h2'; rw [h2']; rw [h2] at ho; exact ho⟩
theorem KeepB.alike {b1 b2 B : Nat} (h1 : b1 < B) (h2 : b2 < B) (A C : World) (h : Alike B A C) : KeepB b1 b2 A C :=
  ⟨fun _ ho => (h.block b1 (Array.getElem?_eq_some_iff.1 ho).1 (fun hn => by have := hn.1; omega)).trans ho, fun _ ho => (h.block b2 (Array.getElem?_eq_some_iff.1 ho).1 (fun hn => by have := hn.1; omega)).trans ho⟩
set_option maxRecDepth 100000 in
theorem chunkA_any (A : Option Addr) (n c k : Nat) (w : World) (hk : 1 ≤ k) (hk2 : k ≤ 1000000) :
    Calls Tryz.prog 83 #[.slice A n c, .int .i64 (k : Int)] w fun e w' => ∃ b1 b2, e = .returned (.func (.func 144) #[] #[.pointer (some ⟨b1, 0, none⟩), .pointer (some ⟨b2, 0, none⟩)]) ∧ Row w' b1 43 #[.slice A n c] ∧ Row w' b2 3 #[.int .i64 (k : Int)] ∧ w.heap.size ≤ b1 ∧ w.heap.size ≤ b2 ∧ b1 < b2 ∧ Ext w w' := by
  go_enter Tryz.func83, Tryz.ntmps83
  go_wp2_with fail
  go_ret
  have h1 := Row.new w 43 #[.slice A n c]
  have h2 := Row.new (w.alloc (.cells #[.slice A n c] 43)) 3 #[.int .i64 (k : Int)]
  rw [World.size_alloc] at h2
  exact ⟨w.heap.size, w.heap.size + 1, rfl, h1.alloc _, h2, Nat.le_refl _, by omega, by omega, ((Ext.refl w).alloc _).alloc _⟩
set_option maxRecDepth 100000 in
theorem run_chunkA1 {A : Option Addr} {n c i : Nat} {z : Int} (hz : z = (i : Int)) (hi : i ≤ n) : ∃ A' c', ∀ W : World, (Instr.sliceAt 43 (.slice A n c) (some (.int .i64 z)) none none).run Tryz.prog W = .ok (.slice A' (n - i) c') W := by
  subst hz
  have ht := Tryz.underlying43
  have he : Tryz.prog.elem 43 = 107 := by unfold Program.elem; rw [ht]
  have hs : ∀ W : World, (sizeOf 107).run Tryz.prog W = .ok 2 W := fun W => by kernel_rfl
  refine ⟨if c = i then A else A.map fun a => a.add (i * 2), c - i, fun W => ?_⟩
  rw [run_sliceAt_slice W _ _ _ _ _ (by rw [ht, he]), run_slice_l W _ A n c (by rw [ht, he]) .i64 i (by omega) (by omega), he, hs]
  simp only [Result.andThen_ok, sliced]
  rfl
set_option maxRecDepth 100000 in
theorem run_chunkA2 {A : Option Addr} {n c i j : Nat} {z z1 z2 : Int} (hz : z = (i : Int)) (hz1 : z1 = ((i + j : Nat) : Int)) (hz2 : z2 = ((i + j : Nat) : Int)) (hi : i + j ≤ c) (hj : 0 < j) (W : World) :
    (Instr.sliceAt 43 (.slice A n c) (some (.int .i64 z)) (some (.int .i64 z1)) (some (.int .i64 z2))).run Tryz.prog W = .ok (.slice (A.map fun a => a.add (i * 2)) j j) W := by
  subst hz hz1 hz2
  have ht := Tryz.underlying43
  have he : Tryz.prog.elem 43 = 107 := by unfold Program.elem; rw [ht]
  have hs : (sizeOf 107).run Tryz.prog W = .ok 2 W := by kernel_rfl
  rw [run_sliceAt_slice W _ _ _ _ _ (by rw [ht, he]), run_slice_lhm W _ A n c (by rw [ht, he]) .i64 .i64 .i64 i ((i + j : Nat) : Int) ((i + j : Nat) : Int) (by omega) (by omega) (by omega) (by omega), he, hs]
  simp only [Result.andThen_ok]
  congr 1
  unfold sliced
  rw [if_neg (by omega), show ((i + j : Nat) : Int).toNat - (i : Int).toNat = j by omega]
  rfl
def chunkVA (A : Option Addr) (n k i : Nat) : Value := .slice (A.map fun a => a.add (i * k * 2)) (min k (n - i * k)) (min k (n - i * k))
def ChIterA (A : Option Addr) (n k b1 b2 : Nat) (w : World) : Prop :=
  Iter Tryz.prog 144 #[.pointer (some ⟨b1, 0, none⟩), .pointer (some ⟨b2, 0, none⟩)] (fun i : Nat => #[chunkVA A n k i]) Ext (fun pre i _ => i = pre.length ∧ i * k < n) (KeepB b1 b2) (fun xs W W' => n ≤ xs.length * k ∧ xs = List.range xs.length ∧ (∀ i ∈ xs, i * k < n) ∧ Ext W W') w
set_option maxRecDepth 100000 in
set_option maxHeartbeats 1000000 in
theorem chunkA_iter (A : Option Addr) (n c k b1 b2 : Nat) (w : World) (hb1 : Row w b1 43 #[.slice A n c]) (hb2 : Row w b2 3 #[.int .i64 (k : Int)]) (hk : 1 ≤ k) (hk2 : k ≤ 1000000) (hn : n ≤ 1000000000) (hc : n ≤ c) : ChIterA A n k b1 b2 w := by
  intro l J W hE hst hY h0
  replace hb1 := hb1.ext hE
  replace hb2 := hb2.ext hE
  clear hE
  replace hb1 := hide hb1
  replace hb2 := hide hb2
  replace hY := hide hY
  replace hst := hide hst
  replace h0 := hide h0
  refine (callsIn_wide (n := 0)).1 ?_
  refine callsIn_of_wp Tryz.func144 rfl trivial ?_
  simp only [Tryz.ntmps144, List.size_toArray, List.length_cons, List.length_nil, Nat.reduceAdd, Nat.reduceSub, Array.replicate_succ, Array.replicate_zero, List.push_toArray, List.append_toArray, List.nil_append, List.cons_append]
  gi_wp2_with fail
  gi_loopw [4] (fun s4 wr => ∃ (i q : Nat) (pre : List Nat), s4 = .int .i64 (q : Int) ∧ Hid (q = i * k) ∧ q ≤ n + k ∧ Hid (pre.length = i) ∧ Hid (pre = List.range i) ∧ Hid (∀ j ∈ pre, j * k < n) ∧ Hid (J pre wr) ∧ Hid (Row wr b1 43 #[.slice A n c]) ∧ Hid (Row wr b2 3 #[.int .i64 (k : Int)])) (fun s4 _ => n - (intOf s4).toNat)
  case atStart => exact ⟨0, 0, [], rfl, hide (by simp), by omega, hide rfl, hide rfl, hide nofun, h0, hb1, hb2⟩
  case round =>
    obtain ⟨i, q, pre, rfl, hq, hqn, hpl, hpr, hpa, hJ, r1, r2⟩ := hrel
    have k1 := r1.out.cell 0 rfl
    have k2 := r2.out.cell 0 rfl
    by_cases hlt : q < n
    · obtain ⟨m, hm⟩ : ∃ m : Nat, (m : Int) = min (k : Int) ((n - q : Nat) : Int) := ⟨min k (n - q), by omega⟩
      have hm0 : 0 < m := by omega
      have hmk : m ≤ k := by omega
      have hmn : m ≤ n - q := by omega
      have hmx : m = k ∨ m = n - q := by omega
      have hmin := fun (W : World) => run_min2 (P := Tryz.prog) #[3, 3] 3 hm W
      have hr2 := fun (W : World) => run_chunkA2 (A := A) (n := n) (c := c) (i := q) (j := m) (z := (q : Int)) (z1 := (q : Int) + (m : Int)) (z2 := (q : Int) + (m : Int)) rfl (by omega) (by omega) (by omega) hm0 W
      obtain ⟨A', c', hr1⟩ := run_chunkA1 (A := A) (n := n) (c := c) (i := q) (z := (q : Int)) rfl (by omega)
      replace hm := hide hm
      have hyx := hY.out pre pre.length wr.drew (hst.out _ _ _ hJ.out (Ext.refl wr).drew) ⟨rfl, by rw [hpl.out, ← hq.out]; exact hlt⟩
      have hval : chunkVA A n k pre.length = .slice (A.map fun a => a.add (q * 2)) m m := by
        unfold chunkVA
        rw [hpl.out, ← hq.out, show min k (n - q) = m by omega]
      rw [hval] at hyx
      obtain ⟨fn, tmps, assign, body, hy, hR⟩ := hyx
      have hpa2 : Hid (∀ j ∈ pre ++ [pre.length], j * k < n) := hide fun j hj => by
        rcases List.mem_append.1 hj with h | h
        · exact hpa.out j h
        · rw [List.mem_singleton.1 h, hpl.out, ← hq.out]; exact hlt
      have hpr2 : Hid (pre ++ [pre.length] = List.range (i + 1)) := hide (by rw [List.range_succ, hpl.out, hpr.out])
      have hq2 : Hid (q + k = (i + 1) * k) := hide (by rw [Nat.succ_mul, hq.out])
      clear hval hmx hY hst
      gi_wp2_with fail
      refine wpIn_wide.2 (wp_region_text follows (by kernel_rfl) (by kernel_rfl) (fun K hK => ?_))
      go_wp2_with fail
      refine ⟨by kernel_rfl, ?_⟩
      gi_wp2_with fail
      refine hR.mono ?_
      rintro e W3 ⟨rfl, hJ3, hk3⟩
      have r13 := hide (show Row W3 b1 43 #[.slice A n c] from hk3.1 _ r1.out)
      have r23 := hide (show Row W3 b2 3 #[.int .i64 (k : Int)] from hk3.2 _ r2.out)
      have k23 := r23.out.cell 0 rfl
      gi_wp2_with fail
      exact ⟨⟨i + 1, q + k, pre ++ [pre.length], by congr 1, hq2, by omega, hide (by rw [List.length_append, hpl.out]; rfl), hpr2, hpa2, hide hJ3, r13, r23⟩, by simp only [intOf]; omega⟩
    · gi_wp2_with fail
      go_end0
      exact ⟨⟨_, rfl⟩, pre, _, hJ.out, by rw [hpl.out, ← hq.out]; omega, by rw [hpl.out]; exact hpr.out, hpa.out, Ext.refl _⟩
end
section
open Go.RowKit Go.Shelf
attribute [local go_sem] Oper.semAt_some wide_depth wide_fn
def psP (ps : List PoC) : List Po := ps.map PoC.po
def OkB (w : World) (l : List UInt8) (e : Ending) (w' : World) : Prop := ∃ A c, e = .returned (.tuple #[.slice A l.length c, .int .i64 0]) ∧ Own8 w' w.heap.size A l.length c l ∧ Ext w w'
theorem okPs_len {l : List Po} (h : okPs l = true) : l.length ≤ 65536 := by
  rw [okPs_eq, Bool.and_eq_true] at h
  have := risB_len h.1 (by omega)
  rw [List.length_map] at this
  omega
theorem PosOk.part {w : World} {A : Option Addr} {ps : List PoC} (h : PosOk w A ps) (hA : ∀ a, A = some a → a.spot = none) (i m : Nat) : PosOk w (A.map fun a => a.add (i * 2)) ((ps.drop i).take m) := by
  refine ⟨?_, fun x hx => h.each x (List.mem_of_mem_drop (List.mem_of_mem_take hx))⟩
  unfold pcells
  rw [flat_take (f := PoC.cells) (k := 2) (fun _ => rfl), flat_part (f := PoC.cells) (k := 2) (fun _ => rfl)]
  exact h.cells.part hA _ _
def PEnc (base h1 h2 h3 b1 b2 : Nat) (V : Value) (Hd Bd : List UInt8) (last : Int) (w W : World) : Prop :=
  HB base h1 h2 Hd Bd W ∧ Row W h3 3 #[.int .i64 last] ∧ Row W b1 43 #[V] ∧ Row W b2 3 #[.int .i64 32] ∧ Ext w W
theorem PEnc.alike {base h1 h2 h3 b1 b2 B : Nat} {V : Value} {Hd Bd : List UInt8} {last : Int} {w W W1 : World} (h : PEnc base h1 h2 h3 b1 b2 V Hd Bd last w W) (ha : Alike B W W1) (hB : w.heap.size ≤ B) : PEnc base h1 h2 h3 b1 b2 V Hd Bd last w W1 :=
  ⟨h.1.alike ha, ha.row h.2.1, ha.row h.2.2.1, ha.row h.2.2.2.1, ha.ext h.2.2.2.2 hB⟩
theorem PEnc.ext {base h1 h2 h3 b1 b2 : Nat} {V : Value} {Hd Bd : List UInt8} {last : Int} {w W W1 : World} (h : PEnc base h1 h2 h3 b1 b2 V Hd Bd last w W) (hE : Ext W W1) : PEnc base h1 h2 h3 b1 b2 V Hd Bd last w W1 :=
  ⟨h.1.ext hE, h.2.1.ext hE, h.2.2.1.ext hE, h.2.2.2.1.ext hE, h.2.2.2.2.trans hE⟩
set_option maxRecDepth 100000 in
set_option maxHeartbeats 4000000 in
theorem poEncode_yes (ps : List PoC) (A : Option Addr) (m c : Nat) (w : World) (hm : m = ps.length) (h : PosOk w A ps) (hA : ∀ a, A = some a → a.spot = none) (hmc : m ≤ c) (hok : okPs (psP ps) = true) (hsz : (blockPo (-1) (psP ps)).length ≤ 50000000) :
    Calls Tryz.prog 40 #[.slice A m c] w fun e w' => OkB w (encPs (psP ps)) e w' := by
  have hml : m ≤ 65536 := by have := okPs_len hok; unfold psP at this; rw [List.length_map] at this; omega
  have hck := poCheck_any ps A m c w hm h (by omega)
  rw [show ps.map PoC.po = psP ps from rfl, hok, if_pos rfl] at hck
  obtain ⟨P, hP⟩ : ∃ P, P = psP ps := ⟨_, rfl⟩
  rw [← hP] at hok hsz ⊢
  have hput := hide (fun A n c x l W h1 h2 h3 h4 h5 => put_any A n c x l W h1 h2 h3 h4 h5)
  have hwm := wrap_u64 (m := m) (by omega)
  replace hck := hide hck
  replace hm := hide hm
  replace h := hide h
  replace hP := hide hP
  replace hok := hide hok
  replace hsz := hide hsz
  replace hA := hide hA
  refine (callsIn_wide (n := 0)).1 ?_
  refine callsIn_of_wp_marks Tryz.func40 rfl trivial ?_
  simp only [Tryz.ntmps40, List.size_toArray, List.length_cons, List.length_nil, Nat.reduceAdd, Nat.reduceSub, Array.replicate_succ, Array.replicate_zero, List.push_toArray, List.append_toArray, List.nil_append, List.cons_append]
  gi_wp2_with fail
  refine (callsIn_wide.2 hck.out).mono ?_
  rintro e w1 ⟨rfl, hE1⟩
  gi_wp2_with fail
  refine (callsIn_wide.2 (hput.out none 0 0 m [] w1 rfl (.inl rfl) (fun _ => rfl) (by omega) (by omega))).mono ?_
  rintro e w2 hNB
  obtain ⟨A2, c2, rfl, hB2, hE2⟩ := hNB
  rw [List.nil_append] at hB2 ⊢
  obtain ⟨k2, hk2⟩ : ∃ k, k = (vb m).length := ⟨_, rfl⟩
  rw [← hk2] at hB2 ⊢
  replace hB2 := hide hB2
  replace hk2 := hide hk2
  replace hE2 := hide (hE1.trans hE2)
  gi_wp2_with fail
  obtain ⟨W3, hW3⟩ : ∃ W3, W3 = ((w2.alloc (Obj.cells #[Value.slice A2 k2 c2] 25)).alloc (Obj.cells #[Value.slice none 0 0] 25)).alloc (Obj.cells #[Value.int IntKind.i64 (-1)] 3) := ⟨_, rfl⟩
  rw [← hW3]
  obtain ⟨h1, hh1⟩ : ∃ h1, h1 = w2.heap.size := ⟨_, rfl⟩
  have q1 : Row W3 h1 25 #[.slice A2 k2 c2] := by rw [hW3, hh1]; exact ((Row.new w2 _ _).alloc _).alloc _
  have q2 : Row W3 (h1 + 1) 25 #[.slice none 0 0] := by
    have := Row.new (w2.alloc (Obj.cells #[Value.slice A2 k2 c2] 25)) 25 #[.slice none 0 0]
    rw [World.size_alloc, ← hh1] at this
    rw [hW3]; exact this.alloc _
  have q3 : Row W3 (h1 + 2) 3 #[.int .i64 (-1)] := by
    have := Row.new ((w2.alloc (Obj.cells #[Value.slice A2 k2 c2] 25)).alloc (Obj.cells #[Value.slice none 0 0] 25)) 3 #[.int .i64 (-1)]
    rw [World.size_alloc, World.size_alloc, ← hh1] at this
    rw [hW3]; exact this
  have hE23 : Ext w2 W3 := by rw [hW3]; exact (((Ext.refl w2).alloc _).alloc _).alloc _
  have hsz3 : W3.heap.size = h1 + 3 := by rw [hW3, hh1]; simp
  have hh1w : w.heap.size ≤ h1 := by rw [hh1]; exact hE2.out.size
  have hHB : HB w.heap.size h1 (h1 + 1) (vb m) [] W3 := ⟨A2, none, c2, 0, by rw [← hk2.out]; exact q1, q2, ⟨rfl, by rw [← hk2.out]; exact (hB2.out.lower hE1.size).ext hE23⟩, ⟨rfl, Buf.nil _ _ _⟩, fun _ _ _ e => by cases e⟩
  replace hE23 := hide (hE2.out.trans hE23)
  rw [← hh1]
  refine (callsIn_wide.2 (chunkA_any A m c 32 W3 (by omega) (by omega))).mono ?_
  rintro e w4 ⟨b1, b2, rfl, rb1, rb2, hb1, hb2, hb12, hE4⟩
  have hP4 : PEnc w.heap.size h1 (h1 + 1) (h1 + 2) b1 b2 (.slice A m c) (vb m) [] (-1) w w4 := ⟨hHB.ext hE4, q3.ext hE4, rb1, rb2, hE23.out.trans hE4⟩
  have hit := chunkA_iter A m c 32 b1 b2 w4 rb1 rb2 (by omega) (by omega) (by omega) hmc
  rw [hsz3] at hb1 hb2
  have hwsz := hP4.2.2.2.2.size
  replace hP4 := hide hP4
  replace hit := hide hit
  replace hW3 := hide hW3
  replace hh1 := hide hh1
  clear q1 q2 q3 hHB hE4 rb1 rb2 hB2 hE23 hE2 hk2 hsz3
  gi_wp2_with fail
  unfold ChIterA at hit
  refine range_all (gf := 144) (lb := #[.pointer (some ⟨b1, 0, none⟩), .pointer (some ⟨b2, 0, none⟩)]) rfl (enters_of Tryz.func144 (by kernel_rfl) rfl) hit.out (fun _ => rfl) (fun _ _ h => h.others) (fun _ _ _ h => h.2.2.2.others) (KeepB.trans b1 b2) ?kb
    (fun pre W => PEnc w.heap.size h1 (h1 + 1) (h1 + 2) b1 b2 (.slice A m c) (vb m ++ headPo (-1) ((chunkL 32 P).take pre.length)) (blockPo (-1) (P.take (pre.length * 32))) (lastPo (-1) (P.take (pre.length * 32))) w W) (fun pre A B h ha => h.alike ha hwsz) (fun pre A B h hE => h.ext hE) ?h0 ?hround ?hdone
  case kb =>
    have hb1w := (hP4.out.2.2.1).lt
    have hb2w := (hP4.out.2.2.2.1).lt
    exact KeepB.alike hb1w hb2w
  case h0 =>
    intro W ha
    have := hP4.out.alike ha hwsz
    simpa [headPo, blockPo, lastPo] using this
  case hround =>
    rintro l pre i W hI ⟨hi, hlt⟩
    subst hi
    have hPl : P.length = m := by rw [hP.out, hm.out]; exact List.length_map ..
    have hR := po_round hok.out hsz.out (r := pre.length) (by rw [hPl]; exact hlt)
    obtain ⟨j, hj⟩ : ∃ j, j = min 32 (m - pre.length * 32) := ⟨_, rfl⟩
    obtain ⟨cb, hcb⟩ : ∃ cb, cb = (ps.drop (pre.length * 32)).take 32 := ⟨_, rfl⟩
    have hcbl : cb.length = j := by rw [hcb, hj, List.length_take, List.length_drop, hm.out]
    obtain ⟨A', hA'⟩ : ∃ A' : Option Addr, A' = A.map fun a => a.add (pre.length * 32 * 2) := ⟨_, rfl⟩
    have hok2 : PosOk w A' cb := by rw [hA', hcb]; exact h.out.part hA.out _ _
    have hval : chunkVA A m 32 pre.length = .slice A' j j := by unfold chunkVA; rw [hA', hj]
    obtain ⟨bP, hbP⟩ : ∃ bP, bP = (P.drop (pre.length * 32)).take 32 := ⟨_, rfl⟩
    have hbPc : bP = cb.map PoC.po := by rw [hbP, hcb, hP.out, psP, ← List.map_drop, ← List.map_take]
    obtain ⟨lst, hlst⟩ : ∃ lst, lst = lastPo (-1) (P.take (pre.length * 32)) := ⟨_, rfl⟩
    rw [← hbP, ← hlst] at hR
    rw [hR.last] at hI
    obtain ⟨Hd, hHd⟩ : ∃ Hd, Hd = vb m ++ headPo (-1) ((chunkL 32 P).take pre.length) := ⟨_, rfl⟩
    obtain ⟨Bd, hBd⟩ : ∃ Bd, Bd = blockPo (-1) (P.take (pre.length * 32)) := ⟨_, rfl⟩
    rw [← hHd, ← hBd] at hI
    have hj32 : j ≤ 32 := by omega
    replace hI := hide hI
    replace hR := hide hR
    rw [hval]
    clear hval
    replace hok2 := hide hok2
    replace hA' := hide hA'
    replace hcb := hide hcb
    replace hj := hide hj
    replace hbP := hide hbP
    replace hlst := hide hlst
    replace hHd := hide hHd
    replace hBd := hide hBd
    replace hcbl := hide hcbl
    replace hbPc := hide hbPc
    replace hPl := hide hPl
    gi_wp2_with fail
    refine ⟨KeepsOthers.refl _, KeepB.refl _ _ _, fun W2 hA2 => ?_⟩
    have hI2 := hide (hI.out.alike hA2 hwsz)
    clear hA2 hI
    obtain ⟨hHB2, hr3, hrb1, hrb2, hEw2⟩ := hI2.out
    obtain ⟨Y, hY⟩ : ∃ Y, Y = blockPo lst bP := ⟨_, rfl⟩
    obtain ⟨lz, hlz⟩ : ∃ lz, lz = lastPo lst bP := ⟨_, rfl⟩
    have hlo := hR.out.lo
    have hhi := hR.out.hi
    have hYl : Y.length ≤ 50000000 := by have := hR.out.len; have := hsz.out; rw [hY]; omega
    have hst := hide (fun base A B n c k c2 l last N xs W h1 h2 h3 h4 h5 h6 h7 h8 h9 => steps_any base A B n c k c2 l last N xs W h1 h2 h3 h4 h5 h6 h7 h8 h9)
    replace hHB2 := hide hHB2
    replace hr3 := hide hr3
    replace hrb1 := hide hrb1
    replace hrb2 := hide hrb2
    replace hEw2 := hide hEw2
    replace hY := hide hY
    replace hlz := hide hlz
    clear hI2
    gi_wp2_with fail
    gi_loopw [9, 26] (fun s9 s26 wr => ∃ (i n9 c9 : Nat) (A9 : Option Addr) (X : List UInt8) (la : Int), s9 = .slice A9 n9 c9 ∧ s26 = .int .i64 (i : Int) ∧ i ≤ j ∧ n9 ≤ 50000000 ∧ -1 ≤ la ∧ la < 65536 ∧ Hid (Y = X ++ blockPo la (bP.drop i)) ∧ Hid (risB 65536 la ((bP.drop i).map (·.1)) = true) ∧ Hid (lastPo la (bP.drop i) = lz) ∧ Hid (Own8 wr w.heap.size A9 n9 c9 X) ∧ Hid (Row wr (h1 + 2) 3 #[.int .i64 la]) ∧ Hid (Chg (fun k => k = h1 + 2) W2 wr)) (fun _ s26 _ => j - (intOf s26).toNat)
    case atStart => exact ⟨0, 0, 0, none, [], lst, rfl, rfl, by omega, by omega, hlo, hhi, hide (by rw [hY.out]; rfl), hide hR.out.ris, hide (by rw [hlz.out]; rfl), hide ⟨rfl, Buf.nil _ _ _⟩, hr3, hide (Chg.refl _ _)⟩
    case round =>
      obtain ⟨i, n9, c9, A9, X, la, rfl, rfl, hij, hn9, hla1, hla2, hYX, hrs, hll, hown, hr3', hch⟩ := hrel
      have hEwr : Hid (Ext w wr) := hide (hEw2.out.chg hch.out fun k hk e => by omega)
      by_cases hin : i < j
      · obtain ⟨x, hxi⟩ : ∃ x, cb[i]? = some x := ⟨_, List.getElem?_eq_getElem (by rw [hcbl.out]; exact hin)⟩
        obtain ⟨g, o, hAe, x0, x1⟩ := pcells_at (hok2.out.cells.ext hEwr.out) hxi
        subst hAe
        have hxp := hok2.out.each x (List.mem_of_getElem? hxi)
        have hbi : bP[i]? = some x.po := by rw [hbPc.out, List.getElem?_map, hxi]; rfl
        have hpo := hR.out.pos x.po (List.mem_of_getElem? hbi)
        have hYX2 := hYX.out
        have hrs2 := hrs.out
        have hll2 := hll.out
        rw [drop_step hbi] at hYX2 hrs2 hll2
        rw [List.map_cons] at hrs2
        obtain ⟨hd1, hd2, hrs3⟩ := risB_cons hrs2
        have hEx := fun o => hEwr.out.alloc o
        have hcx := fun o => hch.out.trans (Chg.of_ext ((Ext.refl wr).alloc o) _) fun _ _ h => h
        have h3x := fun o => hr3'.out.alloc o
        have h3c := fun o => (hr3'.out.alloc o).cell 0 rfl
        replace hxi := hide hxi
        replace hbi := hide hbi
        replace hpo := hide hpo
        replace hYX2 := hide hYX2
        replace hll2 := hide hll2
        replace hrs3 := hide hrs3
        replace hxp := hide hxp
        clear hrs2
        obtain ⟨d, pos, B, cB⟩ := x
        have hd1 : la < d := hd1
        have hd2 : d < 65536 := hd2
        simp only at x0 x1
        obtain ⟨pl, hpl⟩ : ∃ pl, pl = pos.length := ⟨_, rfl⟩
        rw [← hpl] at x1
        replace hpl := hide hpl
        replace hEx := hide hEx
        replace hcx := hide hcx
        replace h3x := hide h3x
        obtain ⟨hok0, hok1⟩ : 0 < pos.length ∧ risB 1048576 (-1) pos = true := by
          have := hpo.out
          unfold okPo at this
          rw [Bool.and_eq_true] at this
          exact ⟨of_decide_eq_true this.1, this.2⟩
        obtain ⟨q, hq⟩ : ∃ q : Nat, (q : Int) = d - la - 1 := ⟨(d - la - 1).toNat, by omega⟩
        obtain ⟨X1, hX1⟩ : ∃ X1, X1 = X ++ stepsL la [d] := ⟨_, rfl⟩
        obtain ⟨X2, hX2⟩ : ∃ X2, X2 = X1 ++ vb pl := ⟨_, rfl⟩
        obtain ⟨X3, hX3⟩ : ∃ X3, X3 = X2 ++ stepsL (-1) pos := ⟨_, rfl⟩
        have hYX3 : Y = X3 ++ blockPo d (bP.drop (i + 1)) := by
          rw [hYX2.out, hX3, hX2, hX1, hpl.out]
          show X ++ ((vb (d - la - 1).toNat ++ vb pos.length ++ stepsL (-1) pos) ++ _) = _
          simp [stepsL, PoC.po]
        have hX3l : X3.length ≤ 50000000 := by rw [hYX3, List.length_append] at hYl; omega
        have hX2l : X2.length ≤ X3.length := by rw [hX3, List.length_append]; omega
        have hX1l : X1.length ≤ X2.length := by rw [hX2, List.length_append]; omega
        have hpl5 : pl ≤ 50000000 := by
          have := stepsL_ge pos (-1)
          rw [hX3, List.length_append, ← hpl.out] at *
          omega
        have hwp := wrap_u64 (m := pl) (by omega)
        replace hX1 := hide hX1
        replace hX2 := hide hX2
        replace hX3 := hide hX3
        replace hYX3 := hide hYX3
        replace hq := hide hq
        replace hok1 := hide hok1
        gi_wp2_with fail
        obtain ⟨W5, hW5⟩ : ∃ W5, W5 = (wr.alloc (Obj.cells #[Value.int IntKind.i64 d, Value.slice B pl cB] 107)).alloc (Obj.cells #[Value.int IntKind.i64 d] 3) := ⟨_, rfl⟩
        have hE5 : Ext wr W5 := by rw [hW5]; exact ((Ext.refl wr).alloc _).alloc _
        have rp : Row W5 wr.heap.size 107 #[Value.int IntKind.i64 d, Value.slice B pl cB] := by rw [hW5]; exact (Row.new wr _ _).alloc _
        have hc5 : Cells W5 (some ⟨wr.heap.size + 1, 0, none⟩) ([d].map IV) := by
          rw [hW5]
          refine .inr ⟨_, 0, rfl, fun u v hv => ?_⟩
          have := heap_alloc_new (wr.alloc (Obj.cells #[Value.int IntKind.i64 d, Value.slice B pl cB] 107)) (Obj.cells #[Value.int IntKind.i64 d] 3)
          rw [World.size_alloc] at this
          rw [Nat.zero_add, cell_of_row _ _ _ _ _ _ this]
          simpa [IV] using hv
        rw [← hW5]
        have hn9X := hown.out.1
        refine (in_round (hst.out w.heap.size A9 _ n9 c9 1 1 X la 65536 [d] W5 (hown.out.ext hE5) (by have := (hEwr.out.trans hE5).size; omega) rfl hc5 (by simp [risB, hd1, hd2]) (by omega) (by omega) (by omega) (by omega))).mono ?_
        rintro e w6 hOB
        obtain ⟨A6, c6, rfl, hB6, hE6⟩ := hOB
        rw [← hX1.out] at hB6 ⊢
        obtain ⟨gp, hgp⟩ : ∃ gp, gp = wr.heap.size := ⟨_, rfl⟩
        rw [← hgp] at rp ⊢
        have rp6 := rp.ext hE6
        have y1 := rp6.cell 1 rfl
        have hsz5 : w.heap.size ≤ W5.heap.size := (hEwr.out.trans hE5).size
        have hEw6 : Hid (Ext wr w6) := hide (hE5.trans hE6)
        have hsz6 : w.heap.size ≤ w6.heap.size := (hEwr.out.trans hEw6.out).size
        obtain ⟨n10, hn10⟩ : ∃ n10, n10 = X1.length := ⟨_, rfl⟩
        rw [← hn10] at hB6 hX1l ⊢
        replace hn10 := hide hn10
        replace rp6 := hide rp6
        replace hB6 := hide hB6
        replace hgp := hide hgp
        clear hW5 hE5 rp hc5 hn9X hE6 hsz5
        gi_wp2_with fail
        refine (in_round (hput.out A6 n10 c6 pl X1 w6 hB6.out.1 hB6.out.2.cells hB6.out.nil_ (by omega) (by omega))).mono ?_
        rintro e w7 hNB
        obtain ⟨A7, c7, rfl, hB7, hE7⟩ := hNB
        rw [← hX2.out] at hB7 ⊢
        have rp7 := rp6.out.ext hE7
        have z1 := rp7.cell 1 rfl
        have z0 := rp7.cell 0 rfl
        have ho7 : Hid (Own8 w7 w.heap.size A7 X2.length c7 X2) := hide ⟨rfl, hB7.lower hsz6⟩
        have hEw7 : Hid (Ext wr w7) := hide (hEw6.out.trans hE7)
        have hsz7 : w.heap.size ≤ w7.heap.size := (hEwr.out.trans hEw7.out).size
        obtain ⟨n11, hn11⟩ : ∃ n11, n11 = X2.length := ⟨_, rfl⟩
        rw [← hn11] at ho7 hX2l ⊢
        replace hn11 := hide hn11
        replace rp7 := hide rp7
        clear hB7 hE7 y1
        gi_wp2_with fail
        refine (in_round (hst.out w.heap.size A7 B n11 c7 pl cB X2 (-1) 1048576 pos w7 ho7.out hsz7 hpl.out ((hxp.out.1.ext hEwr.out).ext hEw7.out) hok1.out (by omega) (by omega) (by omega) (by omega))).mono ?_
        rintro e w8 hOB
        obtain ⟨A8, c8, rfl, hB8, hE8⟩ := hOB
        rw [← hX3.out] at hB8 ⊢
        have rp8 := rp7.out.ext hE8
        have v0 := rp8.cell 0 rfl
        have hEw8 : Hid (Ext wr w8) := hide (hEw7.out.trans hE8)
        have r38 := hr3'.out.ext hEw8.out
        have t0 := r38.cell 0 rfl
        have t1 := r38.free 0
        obtain ⟨n12, hn12⟩ : ∃ n12, n12 = X3.length := ⟨_, rfl⟩
        rw [← hn12] at hB8 hX3l ⊢
        replace hn12 := hide hn12
        replace hB8 := hide hB8
        replace r38 := hide r38
        clear z0 z1 hE8 rp8
        gi_wp2_with fail
        have hrow := r38.out.put 0 (.int .i64 d)
        have hown8 : Own8 (w8.setCell ⟨h1 + 2, 0, none⟩ (.int .i64 d)) w.heap.size A8 n12 c8 X3 := ⟨hB8.out.1, hB8.out.2.setCell (hB8.out.2.unlike r38.out (by decide)) _⟩
        have hchg : Chg (fun k => k = h1 + 2) W2 (w8.setCell ⟨h1 + 2, 0, none⟩ (.int .i64 d)) := (hch.out.trans (Chg.of_ext hEw8.out _) fun _ _ h => h).trans (Chg.of_set (S := fun k => k = h1 + 2) w8 _ rfl) fun _ _ h => h
        exact ⟨⟨i + 1, n12, c8, A8, X3, d, rfl, by congr 1, by omega, by omega, by omega, by omega, hYX3, hrs3, hll2, hide hown8, hide hrow, hide hchg⟩, by simp only [intOf]; omega⟩
      · have hbl : bP.length = j := by rw [hbPc.out, List.length_map]; exact hcbl.out
        have hYe : Y = X := by rw [hYX.out, List.drop_eq_nil_of_le (by rw [hbl]; omega), blockPo, List.append_nil]
        have hlae : la = lz := by rw [← hll.out, List.drop_eq_nil_of_le (by rw [hbl]; omega), lastPo]
        have hHBr : HB w.heap.size h1 (h1 + 1) Hd Bd wr := hHB2.out.chg hch.out fun k hk => ⟨3, #[.int .i64 lst], by rw [hk]; exact hr3.out, by decide, by decide⟩
        have hHBr2 := hHBr
        obtain ⟨A1, B1, c1, d1, r1, r2, o1, o2, hdj⟩ := hHBr
        have f1 := r1.cell 0 rfl
        have f3 := hr3'.out.cell 0 rfl
        obtain ⟨lN, hlN⟩ : ∃ lN : Nat, la = (lN : Int) := ⟨la.toNat, by have := hR.out.ne; rw [hlae, hlz.out]; omega⟩
        have hlN2 : lN < 65536 := by omega
        have hwl := wrap_u64 (m := lN) (by omega)
        have hw9 := wrap_u64 (m := n9) (by omega)
        rw [hlN] at f3
        have hHdl : Hd.length ≤ 100000 := by
          have h1 := hR.out.hlen
          have h2 := vb_len10 (n := m) (by omega)
          rw [hHd.out, List.length_append]
          omega
        obtain ⟨nh, hnh⟩ : ∃ nh, nh = Hd.length := ⟨_, rfl⟩
        rw [← hnh] at f1 hHdl o1
        obtain ⟨H1, hH1⟩ : ∃ H1, H1 = Hd ++ vb lN := ⟨_, rfl⟩
        obtain ⟨H2, hH2⟩ : ∃ H2, H2 = H1 ++ vb n9 := ⟨_, rfl⟩
        have hl1 := vb_len10 (n := lN) (by omega)
        have hl2 := vb_len10 (n := n9) (by omega)
        have hH1l : H1.length ≤ 100010 := by rw [hH1, List.length_append, ← hnh]; omega
        have hH2l : H2.length ≤ 100020 := by rw [hH2, List.length_append]; omega
        have hn9X := hown.out.1
        have hwrs := hEwr.out.size
        replace hnh := hide hnh
        replace hH1 := hide hH1
        replace hH2 := hide hH2
        replace hlN := hide hlN
        replace hYe := hide hYe
        replace hlae := hide hlae
        replace hHBr2 := hide hHBr2
        replace r1 := hide r1
        replace r2 := hide r2
        replace o1 := hide o1
        replace o2 := hide o2
        replace hdj := hide hdj
        replace hn9X := hide hn9X
        replace hbl := hide hbl
        clear hl1 hl2
        gi_wp2_with fail
        refine (in_round (hput.out A1 nh c1 lN Hd wr o1.out.1 o1.out.2.cells o1.out.nil_ (by omega) (by omega))).mono ?_
        rintro e w7 hNB
        obtain ⟨A7, c7, rfl, hB7, hE7⟩ := hNB
        rw [← hH1.out] at hB7 ⊢
        obtain ⟨n7, hn7⟩ : ∃ n7, n7 = H1.length := ⟨_, rfl⟩
        rw [← hn7] at hB7 hH1l ⊢
        have ho7 : Hid (Own8 w7 w.heap.size A7 n7 c7 H1) := hide ⟨hn7, hB7.lower hwrs⟩
        replace hn7 := hide hn7
        replace hE7 := hide hE7
        clear hB7
        gi_wp2_with fail
        refine (in_round (hput.out A7 n7 c7 n9 H1 w7 ho7.out.1 ho7.out.2.cells ho7.out.nil_ (by omega) (by omega))).mono ?_
        rintro e w8 hNB
        obtain ⟨A8, c8, rfl, hB8, hE8⟩ := hNB
        rw [← hH2.out] at hB8 ⊢
        obtain ⟨n8, hn8⟩ : ∃ n8, n8 = H2.length := ⟨_, rfl⟩
        rw [← hn8] at hB8 hH2l ⊢
        have hE78 : Hid (Ext wr w8) := hide (hE7.out.trans hE8)
        have r18 := r1.out.ext hE78.out
        have s0 := r18.cell 0 rfl
        have s1 := r18.free 0
        have hHB8 := hide (hHBr2.out.head (W6 := w8) (B1 := w7.heap.size) (by omega) hE78.out hn8 hB8 hE7.out.size (by have := hE7.out.size; omega))
        replace r18 := hide r18
        replace hn8 := hide hn8
        clear hB8 hE8
        have hown9 : Hid (Own8 (w8.setCell ⟨h1, 0, none⟩ (.slice A8 n8 c8)) w.heap.size A9 n9 c9 X) := hide ⟨hown.out.1, ((hown.out.2.ext hE78.out)).setCell ((hown.out.2.ext hE78.out).unlike r18.out (by decide)) _⟩
        have hko9 : KeepsOthers W2 (w8.setCell ⟨h1, 0, none⟩ (.slice A8 n8 c8)) := ((hch.out.others fun k hk => ⟨3, #[.int .i64 lst], by rw [hk]; exact hr3.out⟩).trans hE78.out.others).trans (KeepsOthers.setCell _ _ _)
        have hb19 : Row (w8.setCell ⟨h1, 0, none⟩ (.slice A8 n8 c8)) b1 43 #[.slice A m c] := (((hch.out.row hrb1.out (by omega)).ext hE78.out)).away (by simp; omega) _
        have hb29 : Row (w8.setCell ⟨h1, 0, none⟩ (.slice A8 n8 c8)) b2 3 #[.int .i64 32] := (((hch.out.row hrb2.out (by omega)).ext hE78.out)).away (by simp; omega) _
        have hr39 : Row (w8.setCell ⟨h1, 0, none⟩ (.slice A8 n8 c8)) (h1 + 2) 3 #[.int .i64 la] := (hr3'.out.ext hE78.out).away (by simp) _
        have hEw9 : Ext w (w8.setCell ⟨h1, 0, none⟩ (.slice A8 n8 c8)) := (hEwr.out.trans hE78.out).setCell (by simpa using hh1w) _
        replace hko9 := hide hko9
        replace hb19 := hide hb19
        replace hb29 := hide hb29
        replace hr39 := hide hr39
        replace hEw9 := hide hEw9
        have hBdl : Bd.length ≤ 50000000 := by have := hR.out.len; have := hsz.out; rw [hBd.out]; omega
        have r28 : Row (w8.setCell ⟨h1, 0, none⟩ (.slice A8 n8 c8)) (h1 + 1) 25 #[.slice B1 Bd.length d1] := (r2.out.ext hE78.out).away (by simp) _
        have s2 := (r2.out.ext hE78.out).cell 0 rfl
        have hb9 : Buf (w8.setCell ⟨h1, 0, none⟩ (.slice A8 n8 c8)) w.heap.size 5 B1 Bd.length d1 (Bd.map B8) := (o2.out.2.ext hE78.out).setCell ((o2.out.2.ext hE78.out).unlike r18.out (by decide)) _
        have hx9 : Cells (w8.setCell ⟨h1, 0, none⟩ (.slice A8 n8 c8)) A9 (X.map B8) := hown9.out.2.cells
        have hXl9 : (X.map B8).length = n9 := by rw [List.length_map]; exact hn9X.out.symm
        have hsz9 := hEw9.out.size
        replace r28 := hide r28
        replace hb9 := hide hb9
        replace hx9 := hide hx9
        replace hXl9 := hide hXl9
        gi_wp2_with (gi_at_builtin; refine wpListIn_buf elemB hb9.out hx9.out (.tmp 57) (.tmp 58) rfl rfl rfl rfl rfl hXl9.out (bytes_one _) (by omega) hsz9 (fun A10 c10 w10 hb10 hg10 hx10 hl10 => ?_); have r210 := HB.rows hHB8.out r28.out hg10 r28.out (by decide); have u0 := r210.cell 0 rfl; have u1 := r210.free 0; replace r210 := hide r210; replace hb10 := hide hb10; replace hg10 := hide hg10; replace hx10 := hide hx10; replace hl10 := hide hl10)
        obtain ⟨g1, g2, g3, g4⟩ := HB.body (x := X) hHB8.out (by omega) r28.out hg10.out (by rw [List.length_append, ← hn9X.out]) (by rw [List.map_append]; exact hb10.out) hl10.out
        refine ⟨hko9.out.trans g2, KeepB.of hrb1.out (g3 _ _ _ hb19.out (by decide) (by omega)) hrb2.out (g3 _ _ _ hb29.out (by decide) (by omega)), ?_, g3 _ _ _ ?_ (by decide) (by omega), g3 _ _ _ hb19.out (by decide) (by omega), g3 _ _ _ hb29.out (by decide) (by omega), g4 _ hEw9.out (Nat.le_refl _) (by omega)⟩
        · rw [List.length_append, List.length_singleton, hR.out.head, hR.out.body, ← hBd.out, ← List.append_assoc, ← List.append_assoc, ← hHd.out, ← hY.out, hYe.out, ← hlz.out, ← hlae.out, ← hn9X.out, hlN.out, Int.toNat_natCast, ← hH1.out, ← hH2.out]
          exact g1
        · rw [List.length_append, List.length_singleton, hR.out.last2, ← hlz.out, ← hlae.out]
          exact hr39.out
  case hdone =>
    rintro D xs W2 W3 W5 hD hI ⟨hF1, hF2, hF3, hF4⟩ hAl hk
    have hPl : P.length = m := by rw [hP.out, hm.out]; exact List.length_map ..
    have henc := encPs_all P xs.length (by rw [hPl]; exact hF1)
    rw [hPl] at henc
    have hI5 := (hI.ext hF4).alike hAl hwsz
    have hHB := hI5.1
    have hE5 := hI5.2.2.2.2
    obtain ⟨A1, B1, c1, d1, r1, r2, o1, o2, hdj⟩ := hHB
    obtain ⟨Hd, hHd⟩ : ∃ Hd, Hd = vb m ++ headPo (-1) ((chunkL 32 P).take xs.length) := ⟨_, rfl⟩
    obtain ⟨Bd, hBd⟩ : ∃ Bd, Bd = blockPo (-1) (P.take (xs.length * 32)) := ⟨_, rfl⟩
    rw [← hHd] at r1 o1 henc
    rw [← hBd] at r2 o2 henc
    have f1 := r1.cell 0 rfl
    have f2 := r2.cell 0 rfl
    have hHl : Hd.length ≤ 50000000 := by
      have h1 := po_hlen hok.out hsz.out xs.length
      have h2 := vb_len10 (n := m) (by omega)
      have h3 : (headPo (-1) ((chunkL 32 P).take xs.length)).length ≤ 20 * (chunkL 32 P).length := by
        have := po_hlen hok.out hsz.out (chunkL 32 P).length
        rw [List.take_length] at this
        refine Nat.le_trans ?_ this
        have h4 := headPo_app ((chunkL 32 P).take xs.length) ((chunkL 32 P).drop xs.length) (-1)
        rw [List.take_append_drop] at h4
        rw [h4, List.length_append]
        omega
      have h5 := chunkL_len (k := 32) (by omega) P
      rw [hHd, List.length_append]
      omega
    have hBl : Bd.length ≤ 50000000 := by have := po_take_len P (xs.length * 32); have := hsz.out; rw [hBd]; omega
    have hsz5 := hE5.size
    have hx5 := o2.2.cells
    have hb5 := o1.2
    have hln : (Bd.map B8).length = Bd.length := List.length_map ..
    replace henc := hide henc
    replace hHd := hide hHd
    replace hBd := hide hBd
    replace r1 := hide r1
    replace r2 := hide r2
    replace hx5 := hide hx5
    replace hb5 := hide hb5
    replace hln := hide hln
    replace hE5 := hide hE5
    replace hk := hide hk
    clear hI hI5 hF1 hF2 hF3 hF4 hAl o1 o2 hdj
    gi_wp2_with (gi_at_builtin; refine wpListIn_buf elemB hb5.out hx5.out (.tmp 60) (.tmp 61) rfl rfl rfl rfl rfl hln.out (bytes_one _) (by omega) hsz5 (fun A6 c6 w6 hb6 hg6 hx6 hl6 => ?_); replace hb6 := hide hb6; replace hg6 := hide hg6; replace hx6 := hide hx6; replace hl6 := hide hl6)
    have hk6 : w6.heap[D]? = some (.deferred (some [])) := (grown_others hb5.out hg6.out).same _ _ hk.out rfl
    refine leave_mark (B := w4.heap.size) rfl hk6 hD fun W ha => ⟨_, results_tmp2 rfl _ _ _, ?_⟩
    refine ⟨A6, c6, ?_, ⟨rfl, ?_⟩, ha.ext (hx6.out w hE5.out (Nat.le_refl _)) hwsz⟩
    · rw [henc.out, List.length_append]; rfl
    · rw [henc.out, List.length_append, List.map_append]
      exact ha.buf hb6.out
end
section
open Go.RowKit
def RdSt (w0 : World) (p1 p2 : Nat) (r : List UInt8) (W : World) : Prop := ∃ A c, Row W p1 25 #[.slice A r.length c] ∧ Row W p2 4 #[.bool false] ∧ In8 w0 A r.length c r ∧ Ext w0 W
theorem RdSt.chg {w0 : World} {p1 p2 : Nat} {r : List UInt8} {W W1 : World} {S : Nat → Prop} (h : RdSt w0 p1 p2 r W) (hc : Chg S W W1) (h1 : ¬ S p1) (h2 : ¬ S p2) (h0 : ∀ k, S k → w0.heap.size ≤ k) : RdSt w0 p1 p2 r W1 := by
  obtain ⟨A, c, r1, r2, hi, hE⟩ := h
  exact ⟨A, c, hc.row r1 h1, hc.row r2 h2, hi, hE.chg hc fun i hi hs => by have := h0 i hs; omega⟩
theorem RdSt.ext {w0 : World} {p1 p2 : Nat} {r : List UInt8} {W W1 : World} (h : RdSt w0 p1 p2 r W) (hE : Ext W W1) : RdSt w0 p1 p2 r W1 := by
  obtain ⟨A, c, r1, r2, hi, h0⟩ := h
  exact ⟨A, c, r1.ext hE, r2.ext hE, hi, h0.trans hE⟩
def NumR (w0 : World) (p1 p2 q : Nat) (r : List UInt8) (W : World) (e : Ending) (W' : World) : Prop := e = .returned (.int .i64 (q : Int)) ∧ RdSt w0 p1 p2 r W' ∧ Chg (fun k => k = p1) W W'
theorem wrap_i64 {q : Nat} (h : q < 9223372036854775808) : IntKind.i64.wrap (q : Int) = (q : Int) := by
  simp [IntKind.wrap, IntKind.bits, IntKind.signed]
  omega
set_option maxRecDepth 100000 in
set_option maxHeartbeats 1000000 in
theorem number_any (w0 W : World) (p1 p2 q : Nat) (r : List UInt8) (z : Int) (h : RdSt w0 p1 p2 (vb q ++ r) W) (hp1 : w0.heap.size ≤ p1) (hp : p1 ≠ p2) (hz : (q : Int) ≤ z) (hz2 : z ≤ 1099511627776) (hle : (vb q ++ r).length ≤ 1000000000) :
    Calls Tryz.prog 106 #[.int .i64 z, .pointer (some ⟨p1, 0, none⟩), .pointer (some ⟨p2, 0, none⟩)] W fun e W' => NumR w0 p1 p2 q r W e W' := by
  obtain ⟨A, c, r1, r2, hi, hE⟩ := h
  have hg := get_any A (vb q ++ r).length c (vb q ++ r) w0 W hi hE hle
  rw [getV_put (by omega)] at hg
  obtain ⟨n, hn⟩ : ∃ n, n = (vb q ++ r).length := ⟨_, rfl⟩
  rw [← hn] at hg r1 hle
  obtain ⟨b, hb⟩ : ∃ b : Nat, z = (b : Int) := ⟨z.toNat, by omega⟩
  subst hb
  have k1 := r1.cell 0 rfl
  have hwb := wrap_u64 (m := b) (by omega)
  have hwq := wrap_i64 (q := q) (by omega)
  have hqb : ¬ (b : Int) < (q : Int) := by omega
  replace hg := hide hg
  replace r1 := hide r1
  replace r2 := hide r2
  replace hi := hide hi
  replace hE := hide hE
  replace hn := hide hn
  go_enter Tryz.func106, Tryz.ntmps106
  go_wp2_with fail
  refine hg.out.mono ?_
  rintro e w1 ⟨hE1, A1, c1, rfl, hi1⟩
  have r11 := r1.out.ext hE1
  have r21 := r2.out.ext hE1
  have k2 := r21.cell 0 rfl
  have k3 := r11.cell 0 rfl
  have k4 := r11.free 0
  have k5 := r21.free 0
  replace r11 := hide r11
  replace r21 := hide r21
  replace hE1 := hide hE1
  replace hi1 := hide hi1
  go_wp2_with fail
  go_ret
  refine ⟨rfl, ⟨A1, c1, r11.out.put 0 _, r21.out.away (by simpa using fun e => hp e.symm) _, hi1.out, (hE.out.trans hE1.out).setCell hp1 _⟩, (Chg.of_ext hE1.out _).trans (Chg.of_set (S := fun k => k = p1) w1 _ rfl) fun _ _ h => h⟩
end
section
open Go.RowKit
set_option maxRecDepth 100000 in
set_option maxHeartbeats 2000000 in
theorem equalB_any (A B : Option Addr) (n m c c2 : Nat) (a b : List UInt8) (w : World) (ha : In8 w A n c a) (hb : In8 w B m c2 b) (hn : n ≤ 1000000000) (hm : m ≤ 1000000000) :
    Calls Tryz.prog 96 #[.slice A n c, .slice B m c2] w fun e w' => e = .returned (.bool (decide (a = b))) ∧ Ext w w' := by
  have hal := ha.len
  have hbl := hb.len
  have hne : ((n : Int) != (m : Int)) = true → decide (a = b) = false := fun h => decide_eq_false fun e => by rw [e] at hal; simp at h; omega
  replace hne := hide hne
  by_cases hnm : n = m
  · subst hnm
    replace hal := hide hal
    replace hbl := hide hbl
    clear hne
    go_enter Tryz.func96, Tryz.ntmps96
    go_wp2_with fail
    go_loopw [13] (fun s13 wr => ∃ i : Nat, s13 = .int .i64 i ∧ i ≤ n ∧ Hid (a.take i = b.take i) ∧ Hid (Ext w wr)) (fun s13 _ => n - (intOf s13).toNat)
    case atStart => exact ⟨0, rfl, by omega, rfl, hide (Ext.refl w)⟩
    case round =>
      obtain ⟨i, rfl, hi, hab, hE⟩ := hrel
      by_cases hin : i < n
      · have hia : i < a.length := by rw [← hal.out]; exact hin
        have hib : i < b.length := by rw [← hbl.out]; exact hin
        obtain ⟨g, o, rfl, hc⟩ := ha.bytes.at_ (by omega)
        obtain ⟨g2, o2, rfl, hc2⟩ := hb.bytes.at_ (by omega)
        have k0 := hE.out.cell (hc i hia)
        have k1 := hE.out.cell (hc2 i hib)
        have hx : a[i] = b[i] → a.take (i + 1) = b.take (i + 1) := fun h => by rw [List.take_succ_eq_append_getElem hia, List.take_succ_eq_append_getElem hib, hab.out, h]
        have hy : a[i] ≠ b[i] → decide (a = b) = false := fun h => decide_eq_false fun e => h (by subst e; rfl)
        obtain ⟨p, hp⟩ : ∃ p, p = a[i] := ⟨_, rfl⟩
        obtain ⟨q, hq⟩ : ∃ q, q = b[i] := ⟨_, rfl⟩
        rw [← hp, ← hq] at hx hy
        rw [← hp] at k0
        rw [← hq] at k1
        have hi0 : (0 : Int) ≤ i := by omega
        have hi1 : (i : Int) < n := by omega
        replace hx := hide hx
        replace hy := hide hy
        clear hp hq hc hc2
        by_cases hpq : p = q
        · subst hpq
          have hx2 := hide (hx.out rfl)
          clear hx hy
          go_wp2_with fail
          go_quiet (fail)
          go_wp2_with fail
          go_roundw
          case rel => exact ⟨i + 1, by go_num, by omega, hx2, by first | exact hide hE.out.drew | exact hide (hE.out.drewN _)⟩
          case measure => simp [intOf]; omega
        · have hy2 := hide (hy.out hpq)
          have hpn : (((p.toNat : Int)) != (q.toNat : Int)) = true := by simp; exact fun h => hpq (UInt8.toNat_inj.1 (by omega))
          clear hx hy
          go_wp2_with fail
          go_quiet (fail)
          go_wp2_with fail
          go_ret
          exact ⟨ret_bool hy2.out.symm, by first | exact hE.out.drew | exact hE.out.drewN _⟩
      · obtain rfl : i = n := by omega
        have hd : decide (a = b) = true := decide_eq_true (by
          have h := hab.out
          rw [List.take_of_length_le (by rw [← hal.out]; exact Nat.le_refl _), List.take_of_length_le (by rw [← hbl.out]; exact Nat.le_refl _)] at h
          exact h)
        replace hd := hide hd
        go_wp2_with fail
        go_ret
        exact ⟨ret_bool hd.out.symm, hE.out⟩
  · have hd := hide (hne.out (by simp; omega))
    clear hne hal hbl ha hb
    go_enter Tryz.func96, Tryz.ntmps96
    go_wp2_with fail
    go_ret
    exact ⟨ret_bool hd.out.symm, Ext.refl w⟩
theorem In8.take {w : World} {A : Option Addr} {n c : Nat} {l : List UInt8} (h : In8 w A n c l) {k : Nat} (hk : k ≤ n) : In8 w A k c (l.take k) := by
  refine ⟨by rw [List.length_take, ← h.len]; omega, ?_, by have := h.cap; omega, h.nil_, h.at_⟩
  rcases h.bytes with hb | ⟨g, o, hA, hb⟩
  · left
    have : l = [] := by simpa using hb
    rw [this]
    simp
  · refine .inr ⟨g, o, hA, fun i v hv => hb i v ?_⟩
    rw [List.getElem?_map] at hv ⊢
    rw [List.getElem?_take] at hv
    split at hv
    · exact hv
    · cases hv
end
section
open Go.RowKit
def NewPs (w : World) (L : List Po) (e : Ending) (w' : World) : Prop := ∃ (ps : List PoC) (A : Option Addr) (c : Nat), psP ps = L ∧ e = .returned (.tuple #[.slice A L.length c, .int .i64 0]) ∧ PosOk w' A ps ∧ (∀ a, A = some a → a.spot = none) ∧ L.length ≤ c ∧ Ext w w'
theorem encPs_len {L : List Po} (hok : okPs L = true) (hsz : (blockPo (-1) L).length ≤ 50000000) : (encPs L).length ≤ 60000000 := by
  have h1 := okPs_len hok
  have h2 := po_hlen hok hsz (chunkL 32 L).length
  rw [List.take_length] at h2
  have h3 := chunkL_len (k := 32) (by omega) L
  have h4 := vb_len10 (n := L.length) (by omega)
  unfold encPs
  rw [List.length_append, List.length_append]
  omega
set_option maxRecDepth 100000 in
theorem elemPo : Elem Tryz.prog 43 107 2 32 := ⟨Tryz.underlying43, ⟨_, _, rfl, rfl, rfl, rfl, rfl⟩, by omega, by omega⟩
structure PoRead (L : List Po) (i : Nat) (p : Po) (la : Int) : Prop where
  eq : la = lastPo (-1) (L.take i)
  lo : -1 ≤ la
  hi : la < 65536
  lt : la < p.1
  lt2 : p.1 < 65536
  pos : 0 < p.2.length
  ris : risB 1048576 (-1) p.2 = true
  len : p.2.length ≤ 1048576
  rest : blockPo la (L.drop i) = vb (p.1 - la - 1).toNat ++ (vb p.2.length ++ (stepsL (-1) p.2 ++ blockPo p.1 (L.drop (i + 1))))
  next : lastPo (-1) (L.take (i + 1)) = p.1
  all : (blockPo la (L.drop i)).length ≤ (blockPo (-1) L).length
theorem po_read {L : List Po} (hok : okPs L = true) {i : Nat} {p : Po} (hp : L[i]? = some p) : PoRead L i p (lastPo (-1) (L.take i)) := by
  rw [okPs_eq, Bool.and_eq_true] at hok
  have h1 := risB_drop i hok.1
  have hb := lastPo_bd (l := L.take i) (lo := -1) (n := 65536) (by rw [List.map_take]; exact risB_take _ hok.1) (by omega)
  rw [drop_step hp, List.map_cons] at h1
  obtain ⟨h2, h3, h4⟩ := risB_cons h1
  have h5 := List.all_eq_true.1 hok.2 p (List.mem_of_getElem? hp)
  unfold okPo at h5
  rw [Bool.and_eq_true] at h5
  have h6 := risB_len h5.2 (by omega)
  refine ⟨rfl, hb.1, hb.2, h2, h3, of_decide_eq_true h5.1, h5.2, by omega, ?_, ?_, ?_⟩
  · rw [drop_step hp]
    show onePo _ p ++ blockPo p.1 _ = _
    unfold onePo
    simp
  · rw [List.take_add_one, hp, lastPo_app]; rfl
  · conv => rhs; rw [← List.take_append_drop i L, blockPo_app, List.length_append]
    omega
structure Done (w wr : World) (A : Option Addr) (i c : Nat) (dn : List PoC) : Prop where
  len : dn.length = i
  own : wr.ownsRow w.heap.size 107 2 (.slice A i c) i (pcells dn)
  each : ∀ x ∈ dn, Buf wr w.heap.size 3 x.A x.pos.length x.c (x.pos.map IV) ∧ x.pos.length ≤ 1000000000
theorem Done.chg {w wr w1 : World} {A : Option Addr} {i c : Nat} {dn : List PoC} {S : Nat → Prop} (h : Done w wr A i c dn) (hc : Chg S wr w1) (hS : ∀ k, S k → ∃ t cs, Row wr k t cs ∧ t ≠ 107 ∧ t ≠ 3) : Done w w1 A i c dn := by
  refine ⟨h.len, hc.owns h.own fun g hg hs => ?_, fun x hx => ⟨(h.each x hx).1.chg hc fun a ha hs => ?_, (h.each x hx).2⟩⟩
  · obtain ⟨t, cs, hr, h1, _⟩ := hS _ hs
    exact owns_unlike h.own hr (fun e => h1 e.symm) hg
  · obtain ⟨t, cs, hr, _, h2⟩ := hS _ hs
    exact (h.each x hx).1.unlike hr (fun e => h2 e.symm) a ha rfl
theorem stepsL_len10 : ∀ {l : List Int} {lo : Int}, risB 1048576 lo l = true → -1 ≤ lo → (stepsL lo l).length ≤ 10 * l.length := fun h h2 => by have := stepsL_len h h2; omega
theorem new_cells (w : World) (us : List Value) (T : TypeId) : Cells (w.alloc (.cells us.toArray T)) (some ⟨w.heap.size, 0, none⟩) us :=
  .inr ⟨w.heap.size, 0, rfl, fun i u hu => by
    rw [Nat.zero_add, cell_of_row _ _ _ _ _ _ (heap_alloc_new w _)]
    simpa using hu⟩
theorem Done.pos {w wr : World} {A : Option Addr} {i c : Nat} {dn : List PoC} (h : Done w wr A i c dn) : PosOk wr A dn := ⟨Cells.of_own h.own, fun x hx => ⟨(h.each x hx).1.cells, (h.each x hx).2⟩⟩
theorem RdSt.rows {w0 : World} {p1 p2 : Nat} {r : List UInt8} {W W1 : World} (h : RdSt w0 p1 p2 r W) (hr : ∀ g t cs, Row W g t cs → t = 25 ∨ t = 4 → Row W1 g t cs) (hE : Ext w0 W1) : RdSt w0 p1 p2 r W1 := by
  obtain ⟨A, c, r1, r2, hi, _⟩ := h
  exact ⟨A, c, hr _ _ _ r1 (.inl rfl), hr _ _ _ r2 (.inr rfl), hi, hE⟩
theorem grown_row {w w1 : World} {base n c : Nat} {e t : TypeId} {A : Option Addr} {xs : List Value} (hb : Buf w base e A n c xs) (hg : w.grownBy w1 (Value.slice A n c).ownBlock) {g : Nat} {cs : Array Value} (hr : Row w g t cs) (ht : t ≠ e) : Row w1 g t cs :=
  hr.grown hg fun h => by
    cases A with
    | none => simp [Value.ownBlock] at h
    | some a => exact hb.unlike hr (fun e => ht e.symm) a rfl (by simpa [Value.ownBlock] using h.symm)
set_option maxRecDepth 100000 in
set_option maxHeartbeats 4000000 in
theorem poDecode_any (A : Option Addr) (n c : Nat) (bs : List UInt8) (w : World) (L : List Po) (h : In8 w A n c bs) (hok : okPs L = true) (hbs : bs = encPs L) (hsz : (blockPo (-1) L).length ≤ 50000000) :
    Calls Tryz.prog 59 #[.slice A n c] w fun e w' => NewPs w L e w' := by
  have hel := encPs_len hok hsz
  rw [← hbs, ← h.len] at hel
  obtain ⟨m, hm⟩ : ∃ m, m = L.length := ⟨_, rfl⟩
  have hm6 : m ≤ 65536 := by rw [hm]; exact okPs_len hok
  obtain ⟨R, hR⟩ : ∃ R, R = headPo (-1) (chunkL 32 L) ++ blockPo (-1) L := ⟨_, rfl⟩
  have hbs2 : bs = vb m ++ R := by rw [hbs, hR, hm]; unfold encPs; rw [List.append_assoc]
  have hRl : n = (vb m ++ R).length := by rw [← hbs2]; exact h.len
  obtain ⟨W0, hW0⟩ : ∃ W0, W0 = (w.alloc (Obj.cells #[.slice A n c] 25)).alloc (Obj.cells #[.bool false] 4) := ⟨_, rfl⟩
  obtain ⟨p1, hp1⟩ : ∃ p1, p1 = w.heap.size := ⟨_, rfl⟩
  have hS0 : RdSt w p1 (p1 + 1) (vb m ++ R) W0 := by
    have r1 : Row W0 p1 25 #[.slice A n c] := by rw [hW0, hp1]; exact (Row.new w _ _).alloc _
    have r2 : Row W0 (p1 + 1) 4 #[.bool false] := by
      have := Row.new (w.alloc (Obj.cells #[.slice A n c] 25)) 4 #[.bool false]
      rw [World.size_alloc, ← hp1] at this
      rw [hW0]; exact this
    refine ⟨A, c, by rw [← hRl]; exact r1, r2, by rw [← hRl, ← hbs2]; exact h, by rw [hW0]; exact ((Ext.refl w).alloc _).alloc _⟩
  have hnum := hide (fun W q r z h1 h2 h3 h4 => number_any w W p1 (p1 + 1) q r z h1 (by omega) (by omega) h2 h3 h4)
  replace hS0 := hide hS0
  replace hok := hide hok
  replace hsz := hide hsz
  replace hbs := hide hbs
  replace hbs2 := hide hbs2
  replace hR := hide hR
  replace hW0 := hide hW0
  replace hp1 := hide hp1
  replace h := hide h
  replace hRl := hide hRl
  replace hm := hide hm
  go_enter Tryz.func59, Tryz.ntmps59
  go_wp2_with fail
  rw [← hW0.out, ← hp1.out]
  refine (hnum.out W0 m R 65536 hS0.out (by omega) (by omega) (by rw [← hRl.out]; omega)).mono ?_
  rintro e w1 ⟨rfl, hS1, hC1⟩
  replace hS1 := hide hS1
  replace hC1 := hide hC1
  obtain ⟨nc, hnc⟩ : ∃ nc, nc = (chunkL 32 L).length := ⟨_, rfl⟩
  have hncz : ((m : Int) + 32 - 1) / 32 = (nc : Int) := by rw [hnc, chunkL_len (by omega), hm.out]; omega
  have hncm : nc ≤ 4096 := by omega
  have hR9 : R.length ≤ 100000000 := by have := hRl.out; rw [List.length_append] at this; omega
  replace hnc := hide hnc
  replace hR9 := hide hR9
  replace hncz := hide hncz
  go_wp2_with fail
  rw [hncz.out]
  go_loopw [24] (fun s24 wr => ∃ (k : Nat) (r : List UInt8), s24 = .int .i64 (k : Int) ∧ k ≤ nc ∧ Hid (r.length ≤ 100000000) ∧ Hid (r = headPo (lastPo (-1) (L.take (k * 32))) ((chunkL 32 L).drop k) ++ blockPo (-1) L) ∧ Hid (RdSt w p1 (p1 + 1) r wr) ∧ Hid (Chg (fun k => k = p1) W0 wr)) (fun s24 _ => nc - (intOf s24).toNat)
  case atStart => exact ⟨0, R, rfl, by omega, hR9, hide (by rw [hR.out]; simp [lastPo]), hS1, hC1⟩
  case round =>
    obtain ⟨k, r, rfl, hk, hr9, hr, hS, hC⟩ := hrel
    by_cases hkn : k < nc
    · have hk32 : k * 32 < L.length := by
        rcases Nat.lt_or_ge (k * 32) L.length with h1 | h1
        · exact h1
        · have := chunkL_none (k := 32) (by omega) k L h1
          rw [← hnc.out] at this
          omega
      have hpr := po_round hok.out hsz.out hk32
      have hcd := drop_step (chunkL_get (k := 32) (by omega) k L hk32)
      obtain ⟨bP, hbP⟩ : ∃ bP, bP = (L.drop (k * 32)).take 32 := ⟨_, rfl⟩
      obtain ⟨lst, hlst⟩ : ∃ lst, lst = lastPo (-1) (L.take (k * 32)) := ⟨_, rfl⟩
      rw [← hbP, ← hlst] at hpr
      rw [← hbP] at hcd
      have hr2 := hr.out
      rw [hcd, ← hlst] at hr2
      obtain ⟨q1, hq1⟩ : ∃ q1 : Nat, q1 = (lastPo lst bP).toNat := ⟨_, rfl⟩
      obtain ⟨q2, hq2⟩ : ∃ q2 : Nat, q2 = (blockPo lst bP).length := ⟨_, rfl⟩
      have hq16 : (q1 : Int) ≤ 65536 := by have := hpr.hi2; omega
      obtain ⟨r2, hr2e⟩ : ∃ r2, r2 = headPo (lastPo lst bP) ((chunkL 32 L).drop (k + 1)) ++ blockPo (-1) L := ⟨_, rfl⟩
      have hr3 : r = vb q1 ++ (vb q2 ++ r2) := by
        rw [hr2, hr2e, hq1, hq2]
        show (vb _ ++ vb _ ++ headPo _ _) ++ _ = _
        simp
      have hq2n : (q2 : Int) ≤ (n : Int) := by
        have h1 := hpr.len
        have h2 := hRl.out
        rw [hR.out] at h2
        simp only [List.length_append] at h2
        omega
      have hl9 : (vb q1 ++ (vb q2 ++ r2)).length ≤ 100000000 := by rw [← hr3]; exact hr9.out
      have hl9b : (vb q2 ++ r2).length ≤ 100000000 := by rw [List.length_append] at hl9; omega
      have hl9c : r2.length ≤ 100000000 := by rw [List.length_append] at hl9b; omega
      have hc1 := hide (fun W h => hnum.out W q1 (vb q2 ++ r2) 65536 h hq16 (by omega) (by omega))
      have hc2 := hide (fun W h => hnum.out W q2 r2 (n : Int) h hq2n (by omega) (by omega))
      have hS' : Hid (RdSt w p1 (p1 + 1) (vb q1 ++ (vb q2 ++ r2)) wr) := hide (by rw [← hr3]; exact hS.out)
      have hr2f : Hid (r2 = headPo (lastPo (-1) (L.take ((k + 1) * 32))) ((chunkL 32 L).drop (k + 1)) ++ blockPo (-1) L) := hide (by rw [hpr.last2]; exact hr2e)
      clear hr2 hr3 hl9 hl9b hpr hcd hr2e hq2n hq16 hk32
      replace hbP := hide hbP
      replace hlst := hide hlst
      replace hq1 := hide hq1
      replace hq2 := hide hq2
      replace hl9c := hide hl9c
      go_wp2_with fail
      refine (hc1.out _ hS'.out).mono ?_
      rintro e w3 ⟨rfl, hS3, hC3⟩
      replace hS3 := hide hS3
      replace hC3 := hide (hC.out.trans hC3 fun _ _ h => h)
      go_wp2_with fail
      refine (hc2.out _ hS3.out).mono ?_
      rintro e w4 ⟨rfl, hS4, hC4⟩
      replace hS4 := hide hS4
      replace hC4 := hide (hC3.out.trans hC4 fun _ _ h => h)
      go_wp2_with fail
      exact ⟨⟨k + 1, r2, by congr 1, by omega, hl9c, hr2f, hS4, hC4⟩, by simp only [intOf]; omega⟩
    · have hrB : r = blockPo (-1) (L.drop 0) := by
        rw [hr.out, List.drop_eq_nil_of_le (by rw [← hnc.out]; omega), headPo, List.nil_append, List.drop_zero]
      have hS' : Hid (RdSt w p1 (p1 + 1) (blockPo (-1) (L.drop 0)) wr) := hide (by rw [← hrB]; exact hS.out)
      clear hrB hr hS hr9
      go_wp2_with fail
      go_loopw [8, 9, 10] (fun s8 s9 s10 wv => ∃ (i c8 : Nat) (A8 : Option Addr) (la : Int) (dn : List PoC), s8 = .slice A8 i c8 ∧ s9 = .int .i64 la ∧ s10 = .int .i64 (i : Int) ∧ i ≤ m ∧ Hid (la = lastPo (-1) (L.take i)) ∧ Hid (RdSt w p1 (p1 + 1) (blockPo la (L.drop i)) wv) ∧ Hid (Done w wv A8 i c8 dn) ∧ Hid (psP dn = L.take i)) (fun _ _ s10 _ => m - (intOf s10).toNat)
      case atStart => exact ⟨0, 0, none, -1, [], rfl, rfl, rfl, by omega, hide rfl, hS', hide ⟨rfl, World.ownsRow_nil _ _ _ _, nofun⟩, hide rfl⟩
      case round =>
        obtain ⟨i, c8, A8, la, dn, rfl, rfl, rfl, him, hla, hS2, hdn, hps⟩ := hrel
        obtain ⟨wv, rfl⟩ : ∃ wv, wv = wr := ⟨_, rfl⟩
        obtain ⟨B0, d0, r10, r20, _, _⟩ := hS2.out
        have kw := r20.cell 0 rfl
        clear r10 r20
        by_cases hin : i < m
        · obtain ⟨p, hpi⟩ : ∃ p, L[i]? = some p := ⟨_, List.getElem?_eq_getElem (by rw [← hm.out]; exact hin)⟩
          have hpr := po_read hok.out hpi
          rw [← hla.out] at hpr
          have hS3 := hS2.out
          rw [hpr.rest] at hS3
          have hl9 := hpr.all
          rw [hpr.rest] at hl9
          obtain ⟨d, pos⟩ := p
          have hd1 : la < d := hpr.lt
          have hd2 : d < 65536 := hpr.lt2
          have hlo := hpr.lo
          have hhi := hpr.hi
          simp only at hS3 hl9
          obtain ⟨q1, hq1⟩ : ∃ q1 : Nat, q1 = (d - la - 1).toNat := ⟨_, rfl⟩
          have hdq : la + 1 + (q1 : Int) = d := by omega
          obtain ⟨pl, hpl⟩ : ∃ pl, pl = pos.length := ⟨_, rfl⟩
          obtain ⟨tl, htl⟩ : ∃ tl, tl = blockPo d (L.drop (i + 1)) := ⟨_, rfl⟩
          rw [← hq1, ← hpl, ← htl] at hS3 hl9
          have hl9' : (vb q1 ++ (vb pl ++ (stepsL (-1) pos ++ tl))).length ≤ 50000000 := Nat.le_trans hl9 hsz.out
          have hl9b : (vb pl ++ (stepsL (-1) pos ++ tl)).length ≤ 50000000 := by rw [List.length_append] at hl9'; omega
          have hl9c : (stepsL (-1) pos ++ tl).length ≤ 50000000 := by rw [List.length_append] at hl9b; omega
          have hpl1 : pl ≤ 1048576 := by have := hpr.len; rw [hpl]; exact this
          obtain ⟨mn, hmn⟩ : ∃ mn : Nat, (mn : Int) = min 1048576 (n : Int) := ⟨min 1048576 n, by omega⟩
          have hplm : (pl : Int) ≤ (mn : Int) := by
            have h1 := stepsL_ge pos (-1)
            have h2 := hpr.all
            have h3 := hRl.out
            rw [hR.out, List.length_append, List.length_append] at h3
            rw [hpr.rest] at h2
            simp only [List.length_append] at h2
            omega
          have hmn2 : (mn : Int) ≤ 1099511627776 := by omega
          have hmin := fun (W : World) => run_min2 (P := Tryz.prog) #[3, 3] 3 hmn W
          have hc1 := hide (fun W h => hnum.out W q1 (vb pl ++ (stepsL (-1) pos ++ tl)) 65536 h (by omega) (by omega) (by omega))
          have hc2 := hide (fun W h => hnum.out W pl (stepsL (-1) pos ++ tl) (mn : Int) h hplm hmn2 (by omega))
          replace hmn := hide hmn
          replace hS3 := hide hS3
          replace hpr := hide hpr
          replace hpi := hide hpi
          replace hq1 := hide hq1
          replace hpl := hide hpl
          replace htl := hide htl
          replace hplm := hide hplm
          clear hl9 hl9' hl9b
          replace hl9c := hide hl9c
          go_wp2_with fail
          refine (hc1.out _ hS3.out).mono ?_
          rintro e w3 ⟨rfl, hS4, hC4⟩
          obtain ⟨g11, hg11⟩ : ∃ g11, g11 = w3.heap.size := ⟨_, rfl⟩
          obtain ⟨W4, hW4⟩ : ∃ W4, W4 = w3.alloc (.cells #[.int .i64 d, .slice none 0 0] 107) := ⟨_, rfl⟩
          have hr4 : Row W4 g11 107 #[.int .i64 d, .slice none 0 0] := by rw [hW4, hg11]; exact Row.new w3 _ _
          have hS5 : RdSt w p1 (p1 + 1) (vb pl ++ (stepsL (-1) pos ++ tl)) W4 := by rw [hW4]; exact hS4.ext ((Ext.refl w3).alloc _)
          have hC5 : Chg (fun k => k = p1) wv W4 := by rw [hW4]; exact hC4.trans (Chg.of_ext ((Ext.refl w3).alloc _) _) fun _ _ h => h
          have hgv : wv.heap.size ≤ g11 := by rw [hg11]; exact hC4.size
          replace hS4 := hide hS4
          replace hC4 := hide hC4
          replace hS5 := hide hS5
          replace hC5 := hide hC5
          replace hr4 := hide hr4
          replace hW4 := hide hW4
          replace hg11 := hide hg11
          go_wp2_with fail
          rw [← hW4.out, ← hg11.out]
          refine (hc2.out _ hS5.out).mono ?_
          rintro e w5 ⟨rfl, hS6, hC6⟩
          have hr5 : Hid (Row w5 g11 107 #[.int .i64 d, .slice none 0 0]) := hide (hC6.row hr4.out (by rintro rfl; have := hS2.out; obtain ⟨_, _, q, _⟩ := this; have := q.lt; omega))
          replace hC6 := hide (hC5.out.trans hC6 fun _ _ h => h)
          replace hS6 := hide hS6
          obtain ⟨sz, hsz0⟩ : ∃ sz, sz = wv.heap.size := ⟨_, rfl⟩
          rw [← hsz0] at hgv
          replace hsz0 := hide hsz0
          go_wp2_with fail
          go_loopw [12, 13] (fun s12 s13 w6 => ∃ (t c3 : Nat) (A3 : Option Addr) (z : Int), s12 = .int .i64 z ∧ s13 = .int .i64 ((pl - t : Nat) : Int) ∧ t ≤ pl ∧ -1 ≤ z ∧ z < 1048576 ∧ Hid (risB 1048576 z (pos.drop t) = true) ∧ Hid (RdSt w p1 (p1 + 1) (stepsL z (pos.drop t) ++ tl) w6) ∧ Hid (Row w6 g11 107 #[.int .i64 d, .slice A3 t c3]) ∧ Hid (Buf w6 sz 3 A3 t c3 ((pos.take t).map IV)) ∧ Hid (Chg (fun k => k = p1) wv w6)) (fun _ s13 _ => (intOf s13).toNat)
          case atStart => exact ⟨0, 0, none, -1, rfl, rfl, by omega, by omega, by omega, hide hpr.out.ris, hS6, hr5, hide (Buf.nil _ _ _), hC6⟩
          case round =>
            obtain ⟨t, c3, A3, z, rfl, rfl, ht, hz1, hz2, hrs, hS7, hr7, hb7, hC7⟩ := hrel
            obtain ⟨B1, d1, r11, r21, _, _⟩ := hS7.out
            have kw2 := r21.cell 0 rfl
            clear r11 r21
            by_cases htp : t < pl
            · obtain ⟨x, hxi⟩ : ∃ x, pos[t]? = some x := ⟨_, List.getElem?_eq_getElem (by rw [← hpl.out]; exact htp)⟩
              have hrs2 := hrs.out
              have hS8 := hS7.out
              rw [drop_step hxi] at hrs2 hS8
              obtain ⟨hx1, hx2, hrs3⟩ := risB_cons hrs2
              obtain ⟨q, hq⟩ : ∃ q : Nat, q = (x - z - 1).toNat := ⟨_, rfl⟩
              have hqx : z + (1 + (q : Int)) = x := by omega
              have hS9 : Hid (RdSt w p1 (p1 + 1) (vb q ++ (stepsL x (pos.drop (t + 1)) ++ tl)) wr) := hide (by
                rw [hq, ← List.append_assoc]; exact hS8)
              have hq2 : (q : Int) ≤ 1048576 := by omega
              have hlen9 : (vb q ++ (stepsL x (pos.drop (t + 1)) ++ tl)).length ≤ 1000000000 := by
                have h1 := hl9c.out
                rw [List.length_append] at h1
                have h3 : (stepsL z (pos.drop t)).length = (vb q).length + (stepsL x (pos.drop (t + 1))).length := by
                  rw [drop_step hxi, hq, ← List.length_append]; rfl
                have h4 : (stepsL z (pos.drop t)).length ≤ 10 * (pos.drop t).length := stepsL_len10 hrs.out hz1
                rw [List.length_drop, ← hpl.out] at h4
                rw [List.length_append, List.length_append]
                omega
              have hc3 := hide (hnum.out wr q (stepsL x (pos.drop (t + 1)) ++ tl) 1048576 hS9.out hq2 (by omega) hlen9)
              have htk : (pos.take (t + 1)).map IV = (pos.take t).map IV ++ [.int .i64 x] := by
                rw [List.take_add_one, hxi, List.map_append]; rfl
              have hgp : g11 ≠ p1 := by rintro rfl; obtain ⟨_, _, q, _⟩ := hS2.out; have := q.lt; have := hsz0.out; omega
              clear hrs2 hS8 hlen9 hS9
              replace hq := hide hq
              replace hxi := hide hxi
              replace hrs3 := hide hrs3
              replace htk := hide htk
              go_wp2_with fail
              refine hc3.out.mono ?_
              rintro e w8 ⟨rfl, hS8, hC8⟩
              have hr8 := hC8.row hr7.out hgp
              have hb8 : Buf w8 sz 3 A3 t c3 ((pos.take t).map IV) := hb7.out.chg hC8 (by
                obtain ⟨_, _, q, _⟩ := hS7.out
                intro a ha e
                exact hb7.out.unlike q (by decide) a ha e)
              have hC9 := hC7.out.trans hC8 fun _ _ h => h
              have y1 := hr8.cell 1 rfl
              have hszw : sz ≤ w8.heap.size := by rw [hsz0.out]; exact hC9.size
              replace hr8 := hide hr8
              replace hb8 := hide hb8
              replace hC9 := hide hC9
              replace hS8 := hide hS8
              replace hC8 := hide hC8
              have hE8 : Ext w w8 := by obtain ⟨_, _, _, _, _, q⟩ := hS8.out; exact q
              replace hE8 := hide hE8
              go_wp2_with (at_builtin; refine wpList_buf elemI (hb8.out.alloc _) (new_cells w8 [.int .i64 x] _) (.tmp 67) (.tmp 69) rfl rfl rfl rfl rfl rfl (one_of rfl) (by omega) (by simp; omega) (fun A9 c9 w9 hb9 hg9 hx9 hl9 => ?_); have r89 := grown_row (hb8.out.alloc _) hg9 (hr8.out.alloc _) (by decide); have u0 := r89.cell 1 rfl; have u1 := r89.free 1; replace r89 := hide r89; replace hb9 := hide hb9; replace hg9 := hide hg9; replace hx9 := hide hx9; replace hl9 := hide hl9)
              obtain ⟨W10, hW10⟩ : ∃ W10, W10 = w8.alloc (.cells #[.int .i64 x] 3) := ⟨_, rfl⟩
              have hgg := hg9.out
              rw [← hW10] at hgg
              have hE810 : Ext w8 W10 := by rw [hW10]; exact (Ext.refl w8).alloc _
              have hb810 : Buf W10 sz 3 A3 t c3 ((pos.take t).map IV) := by rw [hW10]; exact hb8.out.alloc _
              have hE9 : Ext w w9 := hx9.out w ((hE8.out).alloc _) (by rw [hsz0.out]; obtain ⟨_, _, _, _, _, q⟩ := hS2.out; exact q.size)
              have hS11 : RdSt w p1 (p1 + 1) (stepsL x (pos.drop (t + 1)) ++ tl) w9 := (hS8.out.ext hE810).rows (fun g T cs hr hT => grown_row hb810 hgg hr (by rcases hT with rfl | rfl <;> decide)) hE9
              have hg11w : w.heap.size ≤ g11 := by obtain ⟨_, _, _, _, _, q⟩ := hS2.out; have := q.size; have := hsz0.out; omega
              have hS12 : RdSt w p1 (p1 + 1) (stepsL x (pos.drop (t + 1)) ++ tl) (w9.setCell ⟨g11, 1, none⟩ (.slice A9 (t + 1) c9)) := by
                refine hS11.chg (S := fun k => k = g11) (Chg.of_set _ _ rfl) (fun e => hgp e.symm) (fun e => ?_) (fun k hk => by rw [hk]; exact hg11w)
                obtain ⟨_, _, q, q2, _, _⟩ := hS11
                exact Row.unlike q2 r89.out (by decide) e
              have hr12 := r89.out.put 1 (.slice A9 (t + 1) c9)
              have hb12 : Buf (w9.setCell ⟨g11, 1, none⟩ (.slice A9 (t + 1) c9)) sz 3 A9 (t + 1) c9 ((pos.take (t + 1)).map IV) := by
                rw [htk.out]; exact hb9.out.setCell (hb9.out.unlike r89.out (by decide)) _
              have hC12 : Chg (fun k => k = p1) wv (w9.setCell ⟨g11, 1, none⟩ (.slice A9 (t + 1) c9)) := by
                refine ((hC9.out.trans (Chg.of_ext hE810 (fun k => k = p1)) fun _ _ h => h).trans (Chg.of_grown hgg (S := fun k => sz ≤ k) fun k _ hk => ?_) fun i hi h => ?_).trans (Chg.of_set (S := fun k => k = g11) _ _ rfl) fun i hi h => ?_
                · have := hb810.base_le
                  cases A3 with
                  | none => simp [Value.ownBlock] at hk
                  | some a => have := this a rfl; simp [Value.ownBlock] at hk; omega
                · have := hsz0.out; omega
                · have := hsz0.out; omega
              exact ⟨⟨t + 1, c9, A9, x, by congr 1, by congr 1; omega, by omega, by omega, by omega, hrs3, hide hS12, hide hr12, hide hb12, hide hC12⟩, by simp only [intOf]; omega⟩
            · obtain rfl : t = pl := by omega
              have hdr : pos.drop t = [] := List.drop_eq_nil_of_le (by rw [hpl.out]; exact Nat.le_refl _)
              have hS8 := hS7.out
              rw [hdr] at hS8
              have hS8 : RdSt w p1 (p1 + 1) tl wr := hS8
              have hb8 := hb7.out
              rw [List.take_of_length_le (by rw [hpl.out]; exact Nat.le_refl _)] at hb8
              have y0 := hr7.out.cell 0 rfl
              have y1 := hr7.out.cell 1 rfl
              have hg1 := hr7.out.get
              have hd8 : Done w wr A8 i c8 dn := hdn.out.chg hC7.out fun k hk => by
                obtain ⟨_, _, q, _⟩ := hS2.out
                exact ⟨_, _, hk ▸ q, by decide, by decide⟩
              have hw9 : w.heap.size ≤ wr.heap.size := by obtain ⟨_, _, _, _, _, q⟩ := hS8; exact q.size
              have hown8 := hd8.own
              replace hS8 := hide hS8
              replace hb8 := hide hb8
              replace hdr := hide hdr
              replace hd8 := hide hd8
              replace hown8 := hide hown8
              go_wp2_with (at_builtin; refine wpList_appS elemPo hown8.out (.tmp 74) (.tmp 76) rfl rfl rfl rfl rfl (one_of rfl) (by omega) hw9 (fun A9 c9 w9 ho9 hg9 hl9 => ?_); replace ho9 := hide ho9; replace hg9 := hide hg9; replace hl9 := hide hl9)
              have hap : ∀ {n c : Nat} {A : Option Addr} {xs : List Value} {b : Nat}, Buf wr b 3 A n c xs → Buf w9 b 3 A n c xs := fun hb => hb.grown hg9.out fun a ha e => buf_apart hb hown8.out (by decide) a ha e
              have hrw : ∀ g T cs, Row wr g T cs → T ≠ 107 → Row w9 g T cs := fun g T cs hr hT => hr.grown hg9.out fun e => owns_unlike hown8.out hr (fun e => hT e.symm) e.symm
              have hE9 : Ext w w9 := by
                obtain ⟨_, _, _, _, _, q⟩ := hS8.out
                refine q.grown hg9.out fun k hk => ?_
                obtain ⟨_, _, hb⟩ := owns_row hown8.out hk
                exact hb
              have hbx : Buf w9 w.heap.size 3 A3 t c3 (pos.map IV) := (hap hb8.out).lower (by rw [hsz0.out]; obtain ⟨_, _, _, _, _, q⟩ := hS2.out; exact q.size)
              have hS9 : RdSt w p1 (p1 + 1) (blockPo d (L.drop (i + 1))) w9 := by
                rw [← htl.out]
                exact hS8.out.rows (fun g T cs hr hT => hrw g T cs hr (by rcases hT with rfl | rfl <;> decide)) hE9
              have hlp : pos.length = t := hpl.out.symm
              have hdn9 : Done w w9 A9 (i + 1) c9 (dn ++ [⟨d, pos, A3, c3⟩]) := by
                refine ⟨by rw [List.length_append, hdn.out.len]; rfl, ?_, fun y hy => ?_⟩
                · have h := ho9.out
                  have e : pcells (dn ++ [⟨d, pos, A3, c3⟩]) = pcells dn ++ [.int .i64 d, .slice A3 t c3] := by
                    unfold pcells
                    rw [List.flatMap_append]
                    simp [PoC.cells, hlp]
                  rw [e]
                  exact h
                · rcases List.mem_append.1 hy with hy | hy
                  · exact ⟨hap (hd8.out.each y hy).1, (hd8.out.each y hy).2⟩
                  · rw [List.mem_singleton.1 hy]
                    simp only [hlp]
                    exact ⟨hbx, by omega⟩
              have hps9 : psP (dn ++ [⟨d, pos, A3, c3⟩]) = L.take (i + 1) := by
                rw [List.take_add_one, hpi.out, ← hps.out]
                unfold psP
                rw [List.map_append]
                rfl
              exact ⟨⟨i + 1, c9, A9, d, dn ++ [⟨d, pos, A3, c3⟩], rfl, rfl, rfl, by omega, hide hpr.out.next.symm, hide hS9, hide hdn9, hide hps9⟩, by simp only [intOf]; omega⟩
        · obtain rfl : i = m := by omega
          have hps2 := hps.out
          rw [List.take_of_length_le (by rw [hm.out]; exact Nat.le_refl _)] at hps2
          have hcp := owns_cap hdn.out.own
          have henc := poEncode_yes dn A8 i c8 wv hdn.out.len.symm hdn.out.pos hcp.2 hcp.1 (by rw [hps2]; exact hok.out) (by rw [hps2]; exact hsz.out)
          rw [hps2, ← hbs.out] at henc
          replace henc := hide henc
          replace hps2 := hide hps2
          go_wp2_with fail
          refine henc.out.mono ?_
          rintro e w5 hOB
          obtain ⟨A5, c5, rfl, hB5, hE5⟩ := hOB
          have hE5w : Ext w w5 := by obtain ⟨_, _, _, _, _, q⟩ := hS2.out; exact q.trans hE5
          have hS5 := hS2.out.ext hE5
          obtain ⟨B5, d5, _, r25, _, _⟩ := hS5
          have kw5 := r25.cell 0 rfl
          clear r25
          obtain ⟨nb, hnb⟩ : ∃ nb, nb = bs.length := ⟨_, rfl⟩
          rw [← hnb] at hB5 ⊢
          have hnbn : nb = n := by rw [hnb]; exact h.out.len.symm
          have heq := equalB_any A5 A nb n c5 c bs bs w5 hB5.2.in8 (h.out.ext hE5w) (by omega) (by omega)
          rw [decide_eq_true rfl] at heq
          have hdn5 := hdn.out.pos.ext hE5
          replace heq := hide heq
          replace hnb := hide hnb
          replace hdn5 := hide hdn5
          replace hE5w := hide hE5w
          replace hE5 := hide hE5
          replace hB5 := hide hB5
          replace hcp := hide hcp
          replace hnbn := hide hnbn
          go_wp2_with fail
          refine heq.out.mono ?_
          rintro e w6 ⟨rfl, hE6⟩
          go_wp2_with fail
          go_ret2
          exact ⟨dn, A8, c8, hps2.out, by rw [hm.out]; rfl, hdn5.out.ext hE6, hcp.out.2, by rw [← hm.out]; exact hcp.out.1, hE5w.out.trans hE6⟩
end
end Go.Proofs.YtkdcnhnaiknaaaaGreat
