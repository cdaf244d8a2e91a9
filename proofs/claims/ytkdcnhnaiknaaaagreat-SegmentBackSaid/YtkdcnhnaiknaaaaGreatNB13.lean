/- loggia/frame: the iterator of frames. -/
import Derived.Test.YtkdcnhnaiknaaaaGreatNB11
import Derived.Test.YtkdcnhnaiknaaaaGreatNB12
import Derived.Test.YtkdcnhnaiknaaaaGreatNB08
import Derived.Test.YtkdcnhnaiknaaaaGreatNB09
import Derived.RegionTactic
import Derived.ChangeAlike
import Derived.Test.YtkdcnhnaiknaaaaGreatNB10
import Derived.StringKeys
import Derived.Test.YtkdcnhnaiknaaaaGreatNB05
import Derived.Test.YtkdcnhnaiknaaaaGreatNB04
set_option linter.unusedSimpArgs false
set_option linter.unusedVariables false
namespace Go.Proofs.YtkdcnhnaiknaaaaGreat
open Go.RowKit
attribute [local go_sem] Oper.semAt_some wide_depth wide_fn

/-- Some blocks lie as they lay, and what lay in a world of at most B blocks. -/
def KeepS (B : Nat) (S : Nat → Prop) (W W' : World) : Prop := (∀ w0 : World, w0.heap.size ≤ B → Ext w0 W → Ext w0 W') ∧ ∀ k, S k → ∀ o, W.heap[k]? = some o → W'.heap[k]? = some o
theorem KeepS.trans (B : Nat) (S : Nat → Prop) (A C D : World) (h : KeepS B S A C) (k : KeepS B S C D) : KeepS B S A D := ⟨fun w0 h0 he => k.1 w0 h0 (h.1 w0 h0 he), fun i hi o ho => k.2 i hi o (h.2 i hi o ho)⟩
theorem KeepS.refl (B : Nat) (S : Nat → Prop) (A : World) : KeepS B S A A := ⟨fun _ _ h => h, fun _ _ _ h => h⟩
theorem KeepS.alike {H B : Nat} {S : Nat → Prop} (h0 : H ≤ B) (h1 : ∀ k, S k → k < B) (A C : World) (h : Alike B A C) : KeepS H S A C :=
  ⟨fun _ hs he => h.ext he (by omega), fun k hk _ ho => (h.block k (Array.getElem?_eq_some_iff.1 ho).1 (fun hn => by have := hn.1; have := h1 k hk; omega)).trans ho⟩
theorem KeepS.ext {B : Nat} {S : Nat → Prop} {A C : World} (h : Ext A C) : KeepS B S A C :=
  ⟨fun _ _ he => he.trans h, fun k _ _ ho => (Below.block h k (Array.getElem?_eq_some_iff.1 ho).1).trans ho⟩
theorem KeepS.row {B : Nat} {S : Nat → Prop} {A C : World} (h : KeepS B S A C) {k : Nat} (hk : S k) {t : TypeId} {cs : Array Value} (hr : Row A k t cs) : Row C k t cs := h.2 k hk _ hr
/-- A payload as the iterator hands it: where it lies, what it is, and how many bytes stand up to behind it. -/
abbrev Pay := Option Addr × Nat × List UInt8 × Int
def Pay.val (x : Pay) : Value := .slice x.1 x.2.2.1.length x.2.1
def PayOk (W : World) (x : Pay) : Prop := ∃ base, Buf W base 5 x.1 x.2.2.1.length x.2.1 (x.2.2.1.map B8)
def pays (l : List Pay) : List (List UInt8) := l.map fun x => x.2.2.1
/-- The next one that is handed. -/
def NxF (b : List UInt8) (pre : List Pay) (x : Pay) (W : World) : Prop := PayOk W x ∧ ∃ r, splitF b = (pays (pre ++ [x]) ++ (splitF r).1, (splitF r).2)
/-- What it leaves behind the last. -/
def FinF (b : List UInt8) (ew : Nat) (xs : List Pay) (W W' : World) : Prop := (splitF b = (pays xs, 0) ∧ Ext W W') ∨ ∃ k W3, k ≠ 0 ∧ splitF b = (pays xs, k) ∧ Ext W W3 ∧ W' = W3.setCell ⟨ew, 0, none⟩ (.int .i64 (k : Int))
def FrIter (b : List UInt8) (B b1 b2 ew : Nat) (w : World) : Prop :=
  Iter Tryz.prog 151 #[.pointer (some ⟨b1, 0, none⟩), .pointer (some ⟨b2, 0, none⟩)] (fun x : Pay => #[.int .i64 x.2.2.2, x.val]) Ext (NxF b) (KeepS B fun k => k = b1 ∨ k = b2 ∨ k = ew) (FinF b ew) w
set_option maxRecDepth 100000 in
set_option maxHeartbeats 2000000 in
theorem frames_iter (A : Option Addr) (n c : Nat) (b : List UInt8) (B b1 b2 ew : Nat) (w0 w : World) (h : In8 w0 A n c b) (hB : w0.heap.size ≤ B) (hw : Ext w0 w) (hle : n ≤ 1000000000)
    (hb1 : Row w b1 25 #[.slice A n c]) (hb2 : Row w b2 168 #[.pointer (some ⟨ew, 0, none⟩)]) (hb3 : Row w ew 26 #[.int .i64 0]) : FrIter b B b1 b2 ew w := by
  intro l J W hE hst hY h0
  replace hb1 := hide (hb1.ext hE)
  replace hb2 := hide (hb2.ext hE)
  replace hb3 := hide (hb3.ext hE)
  replace hw := hide (hw.trans hE)
  clear hE
  replace hY := hide hY
  replace hst := hide hst
  replace h0 := hide h0
  have hln := hide h.len
  replace h := hide h
  have hget := hide (fun A n c r W (h : In8 w0 A n c r) (hw : Ext w0 W) (hle : n ≤ 1000000000) => fget_anyB A n c r w0 W h hw hle)
  refine (callsIn_wide (n := 0)).1 ?_
  refine callsIn_of_wp Tryz.func151 rfl trivial ?_
  simp only [Tryz.ntmps151, List.size_toArray, List.length_cons, List.length_nil, Nat.reduceAdd, Nat.reduceSub, Array.replicate_succ, Array.replicate_zero, List.push_toArray, List.append_toArray, List.nil_append, List.cons_append]
  have k10 := hb1.out.cell 0 rfl
  gi_wp2_with fail
  gi_loopw [4] (fun s4 wr => ∃ (A4 : Option Addr) (n4 c4 : Nat) (r : List UInt8) (pre : List Pay), s4 = .slice A4 n4 c4 ∧ n4 ≤ n ∧ Hid (In8 w0 A4 n4 c4 r) ∧ Hid (splitF b = (pays pre ++ (splitF r).1, (splitF r).2)) ∧ Hid (J pre wr) ∧ Hid (Ext w0 wr) ∧ Hid (Row wr b1 25 #[.slice A n c]) ∧ Hid (Row wr b2 168 #[.pointer (some ⟨ew, 0, none⟩)]) ∧ Hid (Row wr ew 26 #[.int .i64 0])) (fun s4 _ => match s4 with | .slice _ k _ => k | _ => 0)
  case atStart => exact ⟨A, n, c, b, [], rfl, Nat.le_refl _, h, hide rfl, h0, hw, hb1, hb2, hb3⟩
  case round =>
    obtain ⟨A4, n4, c4, r, pre, rfl, hn4, hi, hsp, hJ, hE, r1, r2, r3⟩ := hrel
    have k1 := r1.out.cell 0 rfl
    have k2 := r2.out.cell 0 rfl
    have hrl := hide hi.out.len
    by_cases hz : n4 = 0
    · have hz' : ¬ (0 : Int) < n4 := by omega
      have hr0 : r = [] := List.length_eq_zero_iff.1 (by rw [← hrl.out]; exact hz)
      subst hr0
      clear hY hget
      gi_wp2_with fail
      go_end0
      refine ⟨⟨_, rfl⟩, pre, _, hJ.out, .inl ⟨?_, Ext.refl _⟩⟩
      have := hsp.out
      rw [splitF_nil, List.append_nil] at this
      exact this
    · have hz' : (0 : Int) < n4 := by omega
      have hrne : r ≠ [] := fun e => by have := hrl.out; rw [e] at this; exact hz this
      have hg := hget.out A4 n4 c4 r wr hi.out hE.out (by omega)
      have hsp2 := hsp.out
      cases hgf : getF r with
      | error k =>
        rw [splitF_err hrne hgf, List.append_nil] at hsp2
        rw [hgf] at hg
        have hk0 : k ≠ 0 := by rcases getF_code hgf with h | h <;> omega
        have hk' : ¬ (k : Int) = 0 := by omega
        replace hsp2 := hide hsp2
        replace hg := hide hg
        clear hgf hY hrne
        gi_wp2_with fail
        refine (callsIn_wide.2 hg.out).mono ?_
        rintro e w2 ⟨hE2, rfl⟩
        have k22 := (r2.out.ext hE2).cell 0 rfl
        have k32 := (r3.out.ext hE2).cell 0 rfl
        have k3f := (r3.out.ext hE2).free 0
        have hJ2 := hide (hst.out _ _ _ hJ.out hE2)
        replace hE2 := hide hE2
        gi_wp2_with fail
        exact bodyPost_ret (results_none rfl _ _ _) rfl ⟨⟨_, rfl⟩, pre, _, hJ.out, .inr ⟨k, _, hk0, hsp2.out, hE2.out, rfl⟩⟩
      | ok q =>
        obtain ⟨p, r'⟩ := q
        rw [splitF_ok hrne hgf] at hsp2
        rw [hgf] at hg
        have hless := (getF_less hgf).1
        have hsp3 : splitF b = (pays (pre ++ [(none, 0, p, 0)]) ++ (splitF r').1, (splitF r').2) := by
          rw [hsp2]
          simp [pays]
        replace hsp2 := hide hsp2
        replace hsp3 := hide hsp3
        replace hg := hide hg
        clear hgf hrne
        gi_wp2_with fail
        refine (callsIn_wide.2 hg.out).mono ?_
        rintro e w2 ⟨hE2, P, cp, A5, c5, base, rfl, hbf, hi5⟩
        have r12 := hide (r1.out.ext hE2)
        have r22 := hide (r2.out.ext hE2)
        have r32 := hide (r3.out.ext hE2)
        have k12 := r12.out.cell 0 rfl
        have hJ2 := hide (hst.out _ _ _ hJ.out hE2)
        have hsp5 : splitF b = (pays (pre ++ [(P, cp, p, ((n : Int) - r'.length))]) ++ (splitF r').1, (splitF r').2) := by
          have := hsp3.out
          simp only [pays, List.map_append, List.map_cons, List.map_nil] at this ⊢
          exact this
        have hyx := hY.out pre (P, cp, p, ((n : Int) - r'.length)) w2 hJ2.out ⟨⟨base, hbf⟩, r', hsp5⟩
        obtain ⟨fn, tmps, assign, body, hy, hR⟩ := hyx
        simp only [Pay.val] at hy hR
        obtain ⟨n5, hn5⟩ : ∃ n5, n5 = r'.length := ⟨_, rfl⟩
        rw [← hn5] at hi5 hy hR hsp5 hless ⊢
        replace hless := Nat.lt_of_lt_of_eq hless hrl.out.symm
        obtain ⟨pl, hpl⟩ : ∃ pl, pl = p.length := ⟨_, rfl⟩
        rw [← hpl] at hbf hy ⊢
        replace hi5 := hide hi5
        replace hE2 := hide (hE.out.trans hE2)
        replace hsp5 := hide hsp5
        replace hbf := hide hbf
        replace hn5 := hide hn5
        replace hpl := hide hpl
        clear hY
        gi_wp2_with fail
        refine hR.mono ?_
        rintro e W3 ⟨rfl, hJ3, hk3⟩
        have r13 := hide (show Row W3 b1 25 #[.slice A n c] from hk3.row (.inl rfl) r12.out)
        have r23 := hide (show Row W3 b2 168 #[.pointer (some ⟨ew, 0, none⟩)] from hk3.row (.inr (.inl rfl)) r22.out)
        have hE3 := hide (hk3.1 w0 hB hE2.out)
        have r33 := hide (hk3.row (.inr (.inr rfl)) r32.out)
        gi_wp2_with fail
        exact ⟨⟨A5, n5, c5, r', _, rfl, by omega, hi5, hsp5, hide hJ3, hE3, r13, r23, r33⟩, by omega⟩
end Go.Proofs.YtkdcnhnaiknaaaaGreat

/- loggia/frame: Split. -/
namespace Go.Proofs.YtkdcnhnaiknaaaaGreat
open Go.RowKit
attribute [local go_sem] Oper.semAt_some wide_depth wide_fn

theorem run_loadVar_cell {P : Program} {w : World} {g : Nat} {ty : TypeId} {v : Value} {d : TypeDesc} (h : w.cell? ⟨g, 0, none⟩ = some v) (hu : P.underlying ty = some d) (hd : (match d with | .struct _ | .array _ _ => false | _ => true) = true) : (loadVar ty ⟨g, 0, none⟩).run P w = .ok v w := by
  have hi : (isAgg ty).run P w = .ok false w := by
    unfold isAgg
    simp only [Sem.run_bind, run_underlying hu, Result.andThen_ok]
    cases d <;> first | rfl | (cases hd)
  unfold loadVar
  simp only [Sem.run_bind, hi, Result.andThen_ok]
  simp [h]
theorem Row.same {w : World} {g : Nat} {t : TypeId} {cs : Array Value} (h : Row w g t cs) {i : Nat} {v : Value} (hv : cs[i]? = some v) : w.setCell ⟨g, i, none⟩ v = w := by
  have hp := h.put i v
  have hc : cs.setIfInBounds i v = cs := by
    apply Array.ext_getElem?
    intro j
    rw [Array.getElem?_setIfInBounds]
    split
    · rename_i e; subst e
      rw [hv, if_pos (Array.getElem?_eq_some_iff.1 hv).1]
    · rfl
  rw [hc] at hp
  have hh : (w.setCell ⟨g, i, none⟩ v).heap = w.heap := by
    apply Array.ext_getElem?
    intro k
    by_cases e : k = g
    · subst e
      exact hp.trans (Eq.symm h)
    · exact Below.heap_setCell w ⟨g, i, none⟩ v k e
  obtain ⟨heap, os, tape, output⟩ := w
  simp only [World.setCell] at hh ⊢
  rw [hh]
theorem results_cells3 {fn : Func} {p q r : Tmp} {tp tq tr : TypeId} {P : Program} (hf : fn.results = #[.cell p tp, .cell q tq, .cell r tr]) (tmps : Array Value) (w : World) {g1 g2 g3 : Nat} {v1 v2 v3 : Value}
    (h1 : tmps.getD p undef = .pointer (some ⟨g1, 0, none⟩)) (h2 : tmps.getD q undef = .pointer (some ⟨g2, 0, none⟩)) (h3 : tmps.getD r undef = .pointer (some ⟨g3, 0, none⟩))
    (l1 : (loadVar tp ⟨g1, 0, none⟩).run P w = .ok v1 w) (l2 : (loadVar tq ⟨g2, 0, none⟩).run P w = .ok v2 w) (l3 : (loadVar tr ⟨g3, 0, none⟩).run P w = .ok v3 w) :
    (results fn tmps).run P w = .ok (.tuple #[v1, v2, v3]) w := by
  rw [Array.getD_eq_getD_getElem?] at h1 h2 h3
  simp only [results, hf]
  simp [Sem.run_bind, Result.andThen, h1, h2, h3, asAddr, l1, l2, l3]
set_option maxRecDepth 100000 in
theorem elemLL : Elem Tryz.prog 109 25 1 24 := ⟨Tryz.underlying109, ⟨_, _, rfl, rfl, rfl, rfl, rfl⟩, by omega, by omega⟩
set_option maxRecDepth 100000 in
theorem frames_any (A : Option Addr) (n c : Nat) (ew : Nat) (w : World) :
    Calls Tryz.prog 93 #[.slice A n c, .pointer (some ⟨ew, 0, none⟩)] w fun e w' => ∃ b1 b2, e = .returned (.func (.func 151) #[] #[.pointer (some ⟨b1, 0, none⟩), .pointer (some ⟨b2, 0, none⟩)]) ∧ Row w' b1 25 #[.slice A n c] ∧ Row w' b2 168 #[.pointer (some ⟨ew, 0, none⟩)] ∧ w.heap.size ≤ b1 ∧ w.heap.size ≤ b2 ∧ b1 < b2 ∧ Ext w w' := by
  go_enter Tryz.func93, Tryz.ntmps93
  go_wp2_with fail
  go_ret
  have h1 := Row.new w 25 #[.slice A n c]
  have h2 := Row.new (w.alloc (.cells #[.slice A n c] 25)) 168 #[.pointer (some ⟨ew, 0, none⟩)]
  rw [World.size_alloc] at h2
  exact ⟨w.heap.size, w.heap.size + 1, rfl, h1.alloc _, h2, Nat.le_refl _, by omega, by omega, ((Ext.refl w).alloc _).alloc _⟩
theorem grown_low {w w1 : World} {base n c : Nat} {e : TypeId} {A : Option Addr} {xs : List Value} (hb : Buf w base e A n c xs) (hg : w.grownBy w1 (Value.slice A n c).ownBlock) {k : Nat} (hk : k < base) (hkw : k < w.heap.size) : w1.heap[k]? = w.heap[k]? :=
  hg.block k hkw fun h => by
    cases A with
    | none => simp [Value.ownBlock] at h
    | some a =>
      have := hb.base_le a rfl
      simp [Value.ownBlock] at h
      omega
theorem PayOk.grown {w w1 : World} {x : Pay} {base n c : Nat} {e : TypeId} {A : Option Addr} {xs : List Value} (h : PayOk w x) (hb : Buf w base e A n c xs) (hg : w.grownBy w1 (Value.slice A n c).ownBlock) (he : 5 ≠ e) : PayOk w1 x := by
  obtain ⟨b, hx⟩ := h
  refine ⟨b, hx.grown hg fun a ha hne => ?_⟩
  rcases hb.2.2 with ⟨h0, _⟩ | ⟨g', cur, hA', _, hr, _⟩
  · subst h0; simp [Value.ownBlock] at hne
  · subst hA'
    simp [Value.ownBlock] at hne
    exact hx.unlike hr he a ha hne.symm
theorem PayOk.set {w : World} {x : Pay} (h : PayOk w x) {g : Nat} {t : TypeId} {cs : Array Value} (hr : Row w g t cs) (ht : 5 ≠ t) (i : Nat) (u : Value) : PayOk (w.setCell ⟨g, i, none⟩ u) x := by
  obtain ⟨b, hx⟩ := h
  exact ⟨b, hx.setCell (hx.unlike hr ht) u⟩
/-- What lies between two rounds. -/
def SpI (h bs b1 b2 : Nat) (V1 : Value) (w : World) (pre : List Pay) (W : World) : Prop :=
  ∃ L c z, Row W h 109 #[.slice L pre.length c] ∧ Row W (h + 1) 3 #[.int .i64 z] ∧ Row W (h + 2) 26 #[.int .i64 0] ∧ Buf W bs 25 L pre.length c (pre.map Pay.val) ∧ (∀ x ∈ pre, PayOk W x) ∧ Row W b1 25 #[V1] ∧ Row W b2 168 #[.pointer (some ⟨h + 2, 0, none⟩)] ∧ Ext w W ∧ bs ≤ W.heap.size
theorem PayOk.ext {W W1 : World} {x : Pay} (h : PayOk W x) (hE : Ext W W1) : PayOk W1 x := by obtain ⟨b, hb⟩ := h; exact ⟨b, hb.ext hE⟩
theorem PayOk.alike {B : Nat} {W W1 : World} {x : Pay} (h : PayOk W x) (ha : Alike B W W1) : PayOk W1 x := by obtain ⟨b, hb⟩ := h; exact ⟨b, ha.buf hb⟩
theorem SpI.ext {h bs b1 b2 : Nat} {V1 : Value} {w W W1 : World} {pre : List Pay} (hi : SpI h bs b1 b2 V1 w pre W) (hE : Ext W W1) : SpI h bs b1 b2 V1 w pre W1 := by
  obtain ⟨L, c, z, r1, r2, r3, hb, hp, q1, q2, he, hs⟩ := hi
  exact ⟨L, c, z, r1.ext hE, r2.ext hE, r3.ext hE, hb.ext hE, fun x hx => (hp x hx).ext hE, q1.ext hE, q2.ext hE, he.trans hE, Nat.le_trans hs hE.size⟩
theorem SpI.alike {h bs b1 b2 B : Nat} {V1 : Value} {w W W1 : World} {pre : List Pay} (hi : SpI h bs b1 b2 V1 w pre W) (ha : Alike B W W1) (hB : w.heap.size ≤ B) : SpI h bs b1 b2 V1 w pre W1 := by
  obtain ⟨L, c, z, r1, r2, r3, hb, hp, q1, q2, he, hs⟩ := hi
  exact ⟨L, c, z, ha.row r1, ha.row r2, ha.row r3, ha.buf hb, fun x hx => (hp x hx).alike ha, ha.row q1, ha.row q2, ha.ext he hB, Nat.le_trans hs ha.size⟩
/-- What a split is told to be. -/
def SplitW (w : World) (b : List UInt8) (e : Ending) (w' : World) : Prop := ∃ L c z, ∃ ps : List Pay, e = .returned (.tuple #[.slice L ps.length c, .int .i64 z, .int .i64 ((splitF b).2 : Int)]) ∧ Cells w' L (ps.map Pay.val) ∧ pays ps = (splitF b).1 ∧ (∀ x ∈ ps, PayOk w' x) ∧ Ext w w'
set_option maxRecDepth 100000 in
set_option maxHeartbeats 4000000 in
theorem split_any (A : Option Addr) (n c : Nat) (b : List UInt8) (w : World) (h : In8 w A n c b) (hle : n ≤ 1000000000) :
    Calls Tryz.prog 49 #[.slice A n c] w fun e w' => SplitW w b e w' := by
  replace h := hide h
  refine (callsIn_wide (n := 0)).1 ?_
  refine callsIn_of_wp_marks Tryz.func49 rfl trivial ?_
  simp only [Tryz.ntmps49, List.size_toArray, List.length_cons, List.length_nil, Nat.reduceAdd, Nat.reduceSub, Array.replicate_succ, Array.replicate_zero, List.push_toArray, List.append_toArray, List.nil_append, List.cons_append]
  gi_wp2_with fail
  obtain ⟨W3, hW3⟩ : ∃ W3, W3 = ((w.alloc (Obj.cells #[Value.slice none 0 0] 109)).alloc (Obj.cells #[Value.int IntKind.i64 0] 3)).alloc (Obj.cells #[Value.int IntKind.i64 0] 26) := ⟨_, rfl⟩
  rw [← hW3]
  obtain ⟨h1, hh1⟩ : ∃ h1, h1 = w.heap.size := ⟨_, rfl⟩
  have q1 : Row W3 h1 109 #[.slice none 0 0] := by rw [hW3, hh1]; exact ((Row.new w _ _).alloc _).alloc _
  have q2 : Row W3 (h1 + 1) 3 #[.int .i64 0] := by
    have := Row.new (w.alloc (Obj.cells #[Value.slice none 0 0] 109)) 3 #[.int .i64 0]
    rw [World.size_alloc, ← hh1] at this
    rw [hW3]; exact this.alloc _
  have q3 : Row W3 (h1 + 2) 26 #[.int .i64 0] := by
    have := Row.new ((w.alloc (Obj.cells #[Value.slice none 0 0] 109)).alloc (Obj.cells #[Value.int IntKind.i64 0] 3)) 26 #[.int .i64 0]
    rw [World.size_alloc, World.size_alloc, ← hh1] at this
    rw [hW3]; exact this
  have hE3 : Ext w W3 := by rw [hW3]; exact (((Ext.refl w).alloc _).alloc _).alloc _
  have hsz3 : W3.heap.size = h1 + 3 := by rw [hW3, hh1]; simp
  rw [← hh1]
  refine (callsIn_wide.2 (frames_any A n c (h1 + 2) W3)).mono ?_
  rintro e w4 ⟨b1, b2, rfl, rb1, rb2, hb1, hb2, hb12, hE4⟩
  obtain ⟨bs, hbs⟩ : ∃ bs, bs = w4.heap.size := ⟨_, rfl⟩
  have hP4 : SpI h1 bs b1 b2 (.slice A n c) w [] w4 := ⟨none, 0, 0, q1.ext hE4, q2.ext hE4, q3.ext hE4, Buf.nil _ _ _, nofun, rb1, rb2, hE3.trans hE4, by omega⟩
  have hit := frames_iter A n c b h1 b1 b2 (h1 + 2) w w4 h.out (by omega) (hE3.trans hE4) hle rb1 rb2 (q3.ext hE4)
  rw [hsz3] at hb1 hb2
  have hwsz : w.heap.size ≤ w4.heap.size := (hE3.trans hE4).size
  have hb2w := rb2.lt
  have h1w := (q3.ext hE4).lt
  have hbsw : w.heap.size ≤ bs := by omega
  replace hP4 := hide hP4
  replace hit := hide hit
  replace hW3 := hide hW3
  replace hh1 := hide hh1
  clear q1 q2 q3 hE3 hE4 rb1 rb2 hsz3
  gi_wp2_with fail
  unfold FrIter at hit
  refine range_all (gf := 151) (lb := #[.pointer (some ⟨b1, 0, none⟩), .pointer (some ⟨b2, 0, none⟩)]) rfl (enters_of Tryz.func151 (by kernel_rfl) rfl) hit.out (fun _ => rfl) (fun _ _ h => h.others) ?fin (KeepS.trans h1 _) ?kb
    (fun pre W => SpI h1 bs b1 b2 (.slice A n c) w pre W) (fun pre A B h ha => h.alike ha hwsz) (fun pre A B h hE => h.ext hE) ?h0 ?hround ?hdone
  case fin =>
    rintro xs A B (⟨_, hE⟩ | ⟨k, W3, _, _, hE, rfl⟩)
    · exact hE.others
    · exact hE.others.trans (KeepsOthers.setCell _ _ _)
  case kb => exact KeepS.alike (by omega) (fun k hk => by omega)
  case h0 => exact fun W ha => hP4.out.alike ha hwsz
  case hround =>
    rintro l pre ⟨P, cp, p, z⟩ W hI ⟨hpk, r, hsp⟩
    unfold Pay.val
    simp only
    obtain ⟨pl, hpl⟩ : ∃ pl, pl = p.length := ⟨_, rfl⟩
    rw [← hpl]
    replace hpl := hide hpl
    replace hI := hide hI
    replace hpk := hide hpk
    replace hsp := hide hsp
    gi_wp2_with fail
    refine ⟨KeepsOthers.refl _, KeepS.refl _ _ _, fun W2 hA2 => ?_⟩
    have hI2 := hI.out.alike hA2 hwsz
    have hpk2 := hide (hpk.out.alike hA2)
    clear hA2 hI hpk
    obtain ⟨L, cl, z0, r1, r2, r3, hb, hp, g1, g2, he, hs2⟩ := hI2
    have hpre : pre.length ≤ 4000000000 := by
      have h1 := splitF_count b
      rw [hsp.out] at h1
      simp only [pays, List.length_append, List.length_map, List.length_cons] at h1
      have := h.out.len
      omega
    have k1 := r1.cell 0 rfl
    have hba := hide (hb.alloc (.cells #[.slice P pl cp] 25))
    have hxa := hide (new_cells W2 [.slice P pl cp] 25)
    have hsa : bs ≤ (W2.alloc (.cells #[.slice P pl cp] 25)).heap.size := by rw [World.size_alloc]; omega
    obtain ⟨m, hm⟩ : ∃ m, m = pre.length := ⟨_, rfl⟩
    rw [← hm] at hpre k1 hba r1 hb
    replace hm := hide hm
    replace r1 := hide r1
    replace r2 := hide r2
    replace r3 := hide r3
    replace hb := hide hb
    replace hp := hide hp
    replace g1 := hide g1
    replace g2 := hide g2
    replace he := hide he
    obtain ⟨Wa, hWa⟩ : ∃ Wa, Wa = W2.alloc (.cells #[.slice P pl cp] 25) := ⟨_, rfl⟩
    have hEa : Ext W2 Wa := by rw [hWa]; exact (Ext.refl W2).alloc _
    have hea := hide hEa
    have ra1 := hide (r1.out.ext hEa)
    have ra2 := hide (r2.out.ext hEa)
    rw [← hWa] at hba hxa hsa
    replace hWa := hide hWa
    clear hEa
    gi_wp2_with (gi_at_builtin; rw [← hWa.out]; refine wpListIn_buf elemLL hba.out hxa.out (.tmp 11) (.tmp 13) rfl rfl rfl rfl rfl rfl (by simp [Value.oneCell']) (by omega) hsa (fun A6 c6 w6 hb6 hg6 hx6 hl6 => ?_); have r16 := grown_row hba.out hg6 ra1.out (by decide); have r26 := grown_row hba.out hg6 ra2.out (by decide); have u1 := r16.cell 0 rfl; have u2 := r16.free 0; have r27 := r26.away (p := ⟨h1, 0, none⟩) (by simp) (.slice A6 (m + 1) c6); have u3 := r27.cell 0 rfl; have u4 := r27.free 0; replace r16 := hide r16; replace r26 := hide r26; replace r27 := hide r27; replace hb6 := hide hb6; replace hg6 := hide hg6; replace hx6 := hide hx6; replace hl6 := hide hl6)
    have hlow : ∀ k, k < h1 + 3 ∨ k = b1 ∨ k = b2 → k ≠ h1 → k ≠ h1 + 1 → ((w6.setCell ⟨h1, 0, none⟩ (.slice A6 (m + 1) c6)).setCell ⟨h1 + 1, 0, none⟩ (.int .i64 z)).heap[k]? = W2.heap[k]? := fun k hk n1 n2 => by
      have hkb : k < bs := by omega
      rw [Below.heap_setCell _ _ _ k n2, Below.heap_setCell _ _ _ k n1, grown_low hba.out hg6.out hkb (by omega)]
      exact Below.block hea.out k (by omega)
    have hxt : ∀ w0 : World, w0.heap.size ≤ h1 → Ext w0 W2 → Ext w0 ((w6.setCell ⟨h1, 0, none⟩ (.slice A6 (m + 1) c6)).setCell ⟨h1 + 1, 0, none⟩ (.int .i64 z)) := fun w0 h0 hE => ((hx6.out w0 (hE.trans hea.out) (by omega)).setCell (p := ⟨h1, 0, none⟩) h0 _).setCell (p := ⟨h1 + 1, 0, none⟩) (by show w0.heap.size ≤ h1 + 1; omega) _
    have hs6 := hg6.out.size
    have hbz : Buf ((w6.setCell ⟨h1, 0, none⟩ (.slice A6 (m + 1) c6)).setCell ⟨h1 + 1, 0, none⟩ (.int .i64 z)) bs 25 A6 (m + 1) c6 (pre.map Pay.val ++ [.slice P pl cp]) := by
      have q := hb6.out.setCell (p := ⟨h1, 0, none⟩) (hb6.out.unlike r16.out (by decide)) (.slice A6 (m + 1) c6)
      exact q.setCell (p := ⟨h1 + 1, 0, none⟩) (q.unlike r27.out (by decide)) _
    have hpz : ∀ x ∈ pre ++ [(P, cp, p, z)], PayOk ((w6.setCell ⟨h1, 0, none⟩ (.slice A6 (m + 1) c6)).setCell ⟨h1 + 1, 0, none⟩ (.int .i64 z)) x := fun x hx => by
      have hx2 : PayOk W2 x := by
        rcases List.mem_append.1 hx with h | h
        · exact hp.out x h
        · rw [List.mem_singleton.1 h]; exact hpk2.out
      exact (((hx2.ext hea.out).grown hba.out hg6.out (by decide)).set r16.out (by decide) 0 _).set r27.out (by decide) 0 _
    refine ⟨((hea.out.others.trans (grown_others hba.out hg6.out)).trans (KeepsOthers.setCell _ _ _)).trans (KeepsOthers.setCell _ _ _), ⟨hxt, fun k hk o ho => ?_⟩, A6, c6, z, ?_, ?_, ?_, ?_, hpz, ?_, ?_, hxt w (by have := hh1.out; omega) he.out, ?_⟩
    · rw [hlow k (by omega) (by omega) (by omega)]; exact ho
    · rw [List.length_append, ← hm.out]; exact (r16.out.put 0 _).away (by simp) _
    · exact r27.out.put 0 _
    · unfold Row; rw [hlow _ (by omega) (by omega) (by omega)]; exact r3.out
    · rw [List.length_append, ← hm.out, List.map_append]; unfold Pay.val; simp only [List.map_cons, List.map_nil]; rw [← hpl.out]; exact hbz
    · unfold Row; rw [hlow _ (by omega) (by omega) (by omega)]; exact g1.out
    · unfold Row; rw [hlow _ (by omega) (by omega) (by omega)]; exact g2.out
    · simp; omega
  case hdone =>
    rintro D xs W2 W3 W4 hD hI hF hA hk
    have hI4 : ∃ L c z, Row W4 h1 109 #[.slice L xs.length c] ∧ Row W4 (h1 + 1) 3 #[.int .i64 z] ∧ Row W4 (h1 + 2) 26 #[.int .i64 ((splitF b).2 : Int)] ∧ Buf W4 bs 25 L xs.length c (xs.map Pay.val) ∧ (∀ x ∈ xs, PayOk W4 x) ∧ Ext w W4 ∧ pays xs = (splitF b).1 := by
      rcases hF with ⟨hs, hE⟩ | ⟨k, W5, hk0, hs, hE, rfl⟩
      · obtain ⟨L, c, z, r1, r2, r3, hb, hp, q1, q2, he, hs2⟩ := (hI.ext hE).alike hA hwsz
        rw [hs]
        exact ⟨L, c, z, r1, r2, r3, hb, hp, he, rfl⟩
      · obtain ⟨L, c, z, r1, r2, r3, hb, hp, q1, q2, he, hs2⟩ := hI.ext hE
        rw [hs]
        refine ⟨L, c, z, hA.row (r1.away (by simp) _), hA.row (r2.away (by simp) _), hA.row (r3.put 0 _), hA.buf (hb.setCell (hb.unlike r3 (by decide)) _), fun x hx => ((hp x hx).set r3 (by decide) 0 _).alike hA, hA.ext (he.setCell (by show w.heap.size ≤ h1 + 2; have := hh1.out; omega) _) hwsz, rfl⟩
    obtain ⟨L, cl, z, r1, r2, r3, hb, hp, he, hps⟩ := hI4
    have k1 := r1.cell 0 rfl
    have k2 := r2.cell 0 rfl
    have k3 := r3.cell 0 rfl
    have f1 := r1.free 0
    have f2 := r2.free 0
    have f3 := r3.free 0
    obtain ⟨m, hm⟩ : ∃ m, m = xs.length := ⟨_, rfl⟩
    rw [← hm] at r1 k1 hb
    obtain ⟨ec, hec⟩ : ∃ ec, ec = (splitF b).2 := ⟨_, rfl⟩
    rw [← hec] at r3 k3
    replace r1 := hide r1
    replace r2 := hide r2
    replace r3 := hide r3
    replace hb := hide hb
    replace hp := hide hp
    replace he := hide he
    replace hm := hide hm
    replace hec := hide hec
    replace hps := hide hps
    replace hk := hide hk
    clear hI hF hA
    gi_wp2_with fail
    refine wpIn_wide.2 ?_
    go_region
    rw [show h1 + 1 + 1 = h1 + 2 from rfl, r1.out.same rfl, r2.out.same rfl, r3.out.same rfl]
    gi_wp2_with fail
    have hk6 : W4.drew.heap[D]? = some (.deferred (some [])) := hk.out
    refine leave_mark (B := w4.heap.size) rfl hk6 hD fun W ha => ⟨_, results_cells3 rfl _ _ rfl rfl rfl (run_loadVar_cell ((ha.row r1.out).cell 0 rfl) Tryz.underlying109 rfl) (run_loadVar_cell ((ha.row r2.out).cell 0 rfl) Tryz.underlying3 rfl) (run_loadVar_cell ((ha.row r3.out).cell 0 rfl) Tryz.underlying26 rfl), L, cl, z, xs, ?_, ?_, hps.out, ?_, ?_⟩
    · rw [← hm.out, ← hec.out]; rfl
    · exact (ha.buf hb.out.drew).cells
    · exact fun x hx => ((hp.out x hx).ext (Ext.refl W4).drew).alike ha
    · exact ha.ext he.out.drew hwsz
end Go.Proofs.YtkdcnhnaiknaaaaGreat

/- loggia/event: Terms, what its loops keep. -/
namespace Go.Proofs.YtkdcnhnaiknaaaaGreat
open Go.RowKit
attribute [local go_sem] Oper.semAt_some wide_depth wide_fn

theorem cat_by (a b : List UInt8) : (ByteArray.mk a.toArray ++ ByteArray.mk b.toArray) = ⟨(a ++ b).toArray⟩ := by
  apply ByteArray.ext
  rw [ByteArray.data_append]
  simp
set_option maxRecDepth 100000 in
theorem elemTm : Elem Tryz.prog 148 150 2 40 := ⟨Tryz.underlying148, ⟨_, _, rfl, rfl, rfl, rfl, rfl⟩, by omega, by omega⟩
theorem tcs_snoc (D : List TmV) (x : TmV) : tcs (D ++ [x]) = tcs D ++ tcell x := by
  unfold tcs
  rw [List.flatMap_append]
  simp
def oneT (l : List (List UInt8 × Int)) : List (List UInt8 × List Int) := l.map fun p => (p.1, [p.2])
theorem oneT_snoc (l : List (List UInt8 × Int)) (p : List UInt8 × Int) : oneT (l ++ [p]) = oneT l ++ [(p.1, [p.2])] := by unfold oneT; rw [List.map_append]; rfl
section
variable {w w1 w0 : World} {base n : Nat} {e : TypeId} {size : Nat} {v : Value} {xs : List Value}
/-- A world that the growth of a row left. -/
theorem og_row (ho : w.ownsRow base e size v n xs) (hg : w.grownBy w1 v.ownBlock) {g : Nat} {t : TypeId} {cs : Array Value} (hr : Row w g t cs) (ht : t ≠ e) : Row w1 g t cs :=
  hr.grown hg fun h => by
    obtain ⟨cur, hc, _⟩ := owns_row ho h.symm
    exact hr.unlike hc ht rfl
theorem og_others (ho : w.ownsRow base e size v n xs) (hg : w.grownBy w1 v.ownBlock) : KeepsOthers w w1 :=
  KeepsOthers.of_grownBy hg fun j o hj hjo => by
    obtain ⟨cur, hc, _⟩ := owns_row ho hj
    unfold Row at hc
    rw [hc] at hjo
    injection hjo with hjo
    subst hjo
    rfl
theorem og_ext (ho : w.ownsRow base e size v n xs) (hg : w.grownBy w1 v.ownBlock) (hE : Ext w0 w) (hb : w0.heap.size ≤ base) : Ext w0 w1 :=
  hE.grown hg fun k hk => by obtain ⟨_, _, hl⟩ := owns_row ho hk; omega
theorem og_buf (ho : w.ownsRow base e size v n xs) (hg : w.grownBy w1 v.ownBlock) {b : Nat} {t : TypeId} {A : Option Addr} {m c : Nat} {ys : List Value} (hb : Buf w b t A m c ys) (ht : t ≠ e) : Buf w1 b t A m c ys :=
  hb.grown hg fun a ha h => by
    obtain ⟨cur, hc, _⟩ := owns_row ho h
    exact hb.unlike hc ht a ha rfl
end
theorem tokL_each {l x : List UInt8} (h : x ∈ tokL l) : x.length ≤ 32 := by
  unfold tokL at h
  obtain ⟨y, _, rfl⟩ := List.mem_map.1 h
  exact cutW_len y [] (by simp)
theorem fieldT_at {base : Nat} {f : Fd} {i : Nat} {x : List UInt8} (hx : (tokL f.2)[i]? = some x) : (fieldT base f)[i]? = some (f.1 ++ 58 :: x, ((base + i : Nat) : Int)) := by
  unfold fieldT
  rw [List.getElem?_map, List.getElem?_zipIdx, hx]
  simp
theorem rawT_len {k : Nat} : ∀ (fs : List Fd) (b : Nat), (∀ f ∈ fs, f.2.length ≤ k) → (rawT b fs).length ≤ k * fs.length
  | [], b, _ => by simp [rawT]
  | f :: fs, b, h => by
    have h1 := rawT_len fs (nextT b f) fun g hg => h g (List.mem_cons_of_mem _ hg)
    have h2 := tokL_len f.2
    have h3 := h f (List.mem_cons_self ..)
    unfold rawT
    rw [List.length_append, fieldT_len, List.length_cons, Nat.mul_add]
    omega
theorem baseT_le {k : Nat} : ∀ (fs : List Fd) (b : Nat), (∀ f ∈ fs, f.2.length ≤ k) → baseT b fs ≤ b + (64 + k) * fs.length
  | [], b, _ => by simp [baseT]
  | f :: fs, b, h => by
    have h1 := baseT_le fs (nextT b f) fun g hg => h g (List.mem_cons_of_mem _ hg)
    have h2 := tokL_len f.2
    have h3 := h f (List.mem_cons_self ..)
    unfold baseT
    unfold nextT at h1 ⊢
    rw [List.length_cons, Nat.mul_add]
    omega
theorem tkV_at {l : List (List UInt8)} {i : Nat} {x : List UInt8} (hx : l[i]? = some x) {j : Nat} (hj : j < 2) : (tkV l)[i * 2 + j]? = [Value.string ⟨x.toArray⟩, .int .i64 (i : Int)][j]? := by
  unfold tkV
  refine flat_get_of (cellsA := fun p : List UInt8 × Nat => [Value.string ⟨p.1.toArray⟩, .int .i64 (p.2 : Int)]) (k := 2) (fun _ => rfl) l.zipIdx i (x, i) j ?_ hj
  rw [List.getElem?_zipIdx, hx]
  simp
/-- A token in a row that is let be. -/
theorem tk_at {w w1 : World} {base n c : Nat} {A : Option Addr} {l : List (List UInt8)} (h : w.ownsRow base 123 2 (.slice A n c) n (tkV l)) (hk : ∀ g cs, Row w g 123 cs → Row w1 g 123 cs) {i : Nat} {x : List UInt8} (hx : l[i]? = some x) :
    ∃ g o, A = some ⟨g, o, none⟩ ∧ w1.cell? ⟨g, o + i * 2, none⟩ = some (.string ⟨x.toArray⟩) ∧ w1.cell? ⟨g, o + i * 2 + 1, none⟩ = some (.int .i64 (i : Int)) := by
  have h0 := tkV_at hx (j := 0) (by omega)
  have h1 := tkV_at hx (j := 1) (by omega)
  rcases h with ⟨hl, ⟨_, h2⟩ | ⟨g, cap, cur, hv, hb, hg, hn, hx', hs, ht⟩⟩
  · have := (List.getElem?_eq_some_iff.1 hx).1
    have h3 : (tkV l).length = l.length * 2 := by unfold tkV; rw [flat_len_of (cellsA := fun p : List UInt8 × Nat => [Value.string ⟨p.1.toArray⟩, .int .i64 (p.2 : Int)]) (k := 2) (fun _ => rfl), List.length_zipIdx]
    omega
  · cases hv
    have key : ∀ (j : Nat) (v : Value), (tkV l)[j]? = some v → w1.cell? ⟨g, j, none⟩ = some v := fun j v hj => by
      rw [(hk g cur hg).get]
      rw [← ht, List.getElem?_take] at hj
      split at hj
      · simpa using hj
      · cases hj
    exact ⟨g, 0, rfl, by rw [Nat.zero_add]; exact key _ _ h0, by rw [Nat.zero_add]; exact key _ _ h1⟩
/-- The terms that have been written: box h. -/
def TI (base h : Nat) (Z : List (List UInt8 × Int)) (w W : World) : Prop :=
  ∃ L c D, Row W h 148 #[.slice L D.length c] ∧ W.ownsRow base 150 2 (.slice L D.length c) D.length (tcs D) ∧ TmsOk W base D (oneT Z) ∧ Ext w W
theorem TI.ext {base h : Nat} {Z : List (List UInt8 × Int)} {w W W1 : World} (hi : TI base h Z w W) (hE : Ext W W1) : TI base h Z w W1 := by
  obtain ⟨L, c, D, r, o, t, e⟩ := hi
  exact ⟨L, c, D, r.ext hE, hE.owns o, t.ext hE, e.trans hE⟩
theorem TI.alike {base h B : Nat} {Z : List (List UInt8 × Int)} {w W W1 : World} (hi : TI base h Z w W) (ha : Alike B W W1) (hB : w.heap.size ≤ B) : TI base h Z w W1 := by
  obtain ⟨L, c, D, r, o, t, e⟩ := hi
  exact ⟨L, c, D, ha.row r, ha.owns o, t.keep fun _ _ _ _ hb => ha.buf hb, ha.ext e hB⟩
/-- A row's places, read from the world. -/
def ptsOf (w : World) (x : Option Addr × Nat × Nat) : List Int := match x.1 with
  | none => []
  | some a => (List.range x.2.1).map fun i => match w.cell? ⟨a.block, a.off + i, none⟩ with
    | some (.int _ z) => z
    | _ => 0
theorem ptsOf_buf {w : World} {base : Nat} {t : TypeId} {A : Option Addr} {n c : Nat} {l : List Int} (h : Buf w base t A n c (l.map IV)) : ptsOf w (A, n, c) = l := by
  have hc := h.cells
  have hl := h.1
  rw [List.length_map] at hl
  unfold ptsOf
  rcases hc with hc | ⟨g, o, rfl, hc⟩
  · have : l = [] := List.map_eq_nil_iff.1 hc
    subst this
    cases A with
    | none => rfl
    | some a =>
      simp only
      simp at hl
      rw [← hl]; rfl
  · simp only
    apply List.ext_getElem?
    intro i
    rw [List.getElem?_map]
    show Option.map _ ((List.range n)[i]?) = _
    by_cases hi : i < n
    · rw [List.getElem?_range hi]
      have hil : i < l.length := by omega
      have := hc i (IV l[i]) (by rw [List.getElem?_map, List.getElem?_eq_getElem hil]; rfl)
      simp only [Option.map_some, this, IV]
      rw [List.getElem?_eq_getElem hil]
    · rw [List.getElem?_eq_none (by rw [List.length_range]; omega), List.getElem?_eq_none (by omega)]
      rfl
end Go.Proofs.YtkdcnhnaiknaaaaGreat

/- SortStableFunc at an empty slice of nothing. -/
namespace Go.Proofs.YtkdcnhnaiknaaaaGreat
open Go.RowKit

set_option maxRecDepth 100000 in
theorem insertion_nil (w : World) : Calls Tryz.prog 198 #[.slice none 0 0, .int .i64 0, .int .i64 0, cmpV] w fun e w' => e = .returned (.tuple #[]) ∧ w' = w := by
  unfold cmpV
  go_enter Tryz.func198, Tryz.ntmps198
  go_wp2_with fail
  go_loopw [8] (fun s8 wr => s8 = .int .i64 1 ∧ wr = w) (fun _ _ => 0)
  case atStart => exact ⟨rfl, rfl⟩
  case round =>
    obtain ⟨rfl, rfl⟩ := hrel
    go_wp2_with fail
    go_end0
    exact ⟨rfl, rfl⟩
set_option maxRecDepth 100000 in
theorem stable_nil (w : World) : Calls Tryz.prog 179 #[.slice none 0 0, .int .i64 0, cmpV] w fun e w' => e = .returned (.tuple #[]) ∧ w' = w := by
  have hin := hide (insertion_nil w)
  unfold cmpV at hin ⊢
  go_enter Tryz.func179, Tryz.ntmps179
  go_wp2_with fail
  go_loopw [7, 8] (fun s7 s8 wr => s7 = .int .i64 0 ∧ s8 = .int .i64 20 ∧ wr = w) (fun _ _ _ => 0)
  case atStart => exact ⟨rfl, rfl, rfl⟩
  case round =>
    obtain ⟨rfl, rfl, rfl⟩ := hrel
    go_wp2_with fail
    refine hin.out.mono ?_
    rintro e w1 ⟨rfl, rfl⟩
    go_wp2_with fail
    go_loopw [6] (fun s6 wr2 => s6 = .int .i64 20 ∧ wr2 = w1) (fun _ _ => 0)
    case atStart => exact ⟨rfl, rfl⟩
    case round =>
      obtain ⟨rfl, rfl⟩ := hrel
      go_wp2_with fail
      go_end0
      exact ⟨rfl, rfl⟩
set_option maxRecDepth 100000 in
theorem sortstable_nil (w : World) : Calls Tryz.prog 136 #[.slice none 0 0, cmpV] w fun e w' => e = .returned (.tuple #[]) ∧ w' = w := by
  have h := hide (stable_nil w)
  unfold cmpV at h ⊢
  go_enter Tryz.func136, Tryz.ntmps136
  go_wp2_with fail
  refine h.out.mono ?_
  rintro e w1 ⟨rfl, rfl⟩
  go_wp2_with fail
  go_end0
  exact ⟨rfl, rfl⟩
/-- A row of terms of a call's own, sorted. -/
theorem sortTm_any (base : Nat) (L : Option Addr) (n c : Nat) (D : List TmV) (w : World) (h : w.ownsRow base 150 2 (.slice L n c) n (tcs D)) (hn : n = D.length) (hle : n ≤ 268435456) :
    Calls Tryz.prog 136 #[.slice L n c, cmpV] w fun e w' => e = .returned (.tuple #[]) ∧ ∃ E, Std D E ∧ (n ≠ 0 → ∃ g, L = some ⟨g, 0, none⟩ ∧ base ≤ g ∧ TR w' g E) ∧ Chg (fun k => (Value.slice L n c).ownBlock = some k) w w' := by
  rcases h with ⟨hl, ⟨hv, h0⟩ | ⟨g, cap, cur, hv, hb, hg, hnc, hcx, hs, ht⟩⟩
  · cases hv
    obtain rfl : D = [] := List.length_eq_zero_iff.1 hn.symm
    exact (sortstable_nil w).mono fun e w' ⟨h1, h2⟩ => ⟨h1, [], ⟨List.Pairwise.nil, Stb.refl _⟩, fun h => absurd rfl h, by rw [h2]; exact Chg.refl _ _⟩
  · cases hv
    subst hn
    refine (sortstable_any g c D w ⟨cur, hg, fun i v hi => ?_⟩ hle).mono ?_
    · rw [← ht, List.getElem?_take] at hi
      split at hi
      · simpa using hi
      · cases hi
    · rintro e w' ⟨h1, E, h2, h3, h4⟩
      exact ⟨h1, E, h2, fun _ => ⟨g, rfl, hb, h3⟩, h4.mono fun k _ hk => by rw [hk]; rfl⟩
end Go.Proofs.YtkdcnhnaiknaaaaGreat

/- Rows of terms with their places, pair by pair. -/
namespace Go.Proofs.YtkdcnhnaiknaaaaGreat
open Go.RowKit

abbrev TmP := TmV × (List UInt8 × List Int)
def TmP.far (x y : TmP) : Prop := ∀ a b, x.1.2.1 = some a → y.1.2.1 = some b → a.block ≠ b.block
theorem TmP.far_symm {x y : TmP} (h : TmP.far x y) : TmP.far y x := fun a b ha hb e => h b a hb ha e.symm
def TmP.ok (w : World) (base : Nat) (z : TmP) : Prop := z.1.1 = z.2.1 ∧ Buf w base 3 z.1.2.1 z.1.2.2.1 z.1.2.2.2 (z.2.2.map IV)
/-- Terms with their places' rows, no two alike. -/
structure TZ (w : World) (base : Nat) (l : List TmP) : Prop where
  each : ∀ z ∈ l, TmP.ok w base z
  apart : l.Pairwise TmP.far
theorem TZ.perm {w : World} {base : Nat} {l m : List TmP} (h : TZ w base l) (hp : m.Perm l) : TZ w base m :=
  ⟨fun z hz => h.each z (hp.mem_iff.1 hz), (hp.symm.pairwise_iff (fun {x y} h => TmP.far_symm h)).1 h.apart⟩
theorem TZ.keep {w w1 : World} {base : Nat} {l : List TmP} (h : TZ w base l) (hk : ∀ A n c xs, Buf w base 3 A n c xs → Buf w1 base 3 A n c xs) : TZ w1 base l :=
  ⟨fun z hz => ⟨(h.each z hz).1, hk _ _ _ _ (h.each z hz).2⟩, h.apart⟩
theorem TmsOk.tz {w : World} {base : Nat} {D : List TmV} {Z : List (List UInt8 × Int)} (h : TmsOk w base D (oneT Z)) :
    TZ w base (D.map fun x => (x, (x.1, ptsOf w x.2))) ∧ (∀ x ∈ D, ptsOf w x.2 = [(ptsOf w x.2).headD 0]) ∧ D.map (fun x => (x.1, (ptsOf w x.2).headD 0)) = Z := by
  have hl : D.length = Z.length := by have := h.len; unfold oneT at this; rwa [List.length_map] at this
  have hat : ∀ (i : Nat) (x : TmV), D[i]? = some x → ∃ p, Z[i]? = some p ∧ x.1 = p.1 ∧ Buf w base 3 x.2.1 x.2.2.1 x.2.2.2 ([p.2].map IV) ∧ ptsOf w x.2 = [p.2] := fun i x hx => by
    have hi := (List.getElem?_eq_some_iff.1 hx).1
    obtain ⟨p, hp⟩ : ∃ p, Z[i]? = some p := ⟨_, List.getElem?_eq_getElem (by omega)⟩
    have := h.each i x (p.1, [p.2]) hx (by unfold oneT; rw [List.getElem?_map, hp]; rfl)
    exact ⟨p, hp, this.1, this.2, ptsOf_buf this.2⟩
  refine ⟨⟨fun z hz => ?_, ?_⟩, fun x hx => ?_, ?_⟩
  · obtain ⟨x, hx, rfl⟩ := List.mem_map.1 hz
    obtain ⟨i, hi⟩ := List.mem_iff_getElem?.1 hx
    obtain ⟨p, hp, h1, h2, h3⟩ := hat i x hi
    exact ⟨rfl, by simp only [h3]; exact h2⟩
  · rw [List.pairwise_map, List.pairwise_iff_getElem]
    intro i j hi hj hij a b ha hb
    exact h.apart i j _ _ (List.getElem?_eq_getElem hi) (List.getElem?_eq_getElem hj) (by omega) a b ha hb
  · obtain ⟨i, hi⟩ := List.mem_iff_getElem?.1 hx
    obtain ⟨p, hp, h1, h2, h3⟩ := hat i x hi
    rw [h3]; rfl
  · apply List.ext_getElem?
    intro i
    rw [List.getElem?_map]
    cases hx : D[i]? with
    | none => rw [List.getElem?_eq_none_iff] at hx; rw [List.getElem?_eq_none (by omega)]; rfl
    | some x =>
      obtain ⟨p, hp, h1, h2, h3⟩ := hat i x hx
      rw [hp, Option.map_some, h3, h1]; rfl
theorem TZ.tms {w : World} {base : Nat} {l : List TmP} (h : TZ w base l) : TmsOk w base (l.map Prod.fst) (l.map Prod.snd) := by
  refine ⟨by rw [List.length_map, List.length_map], fun i x p hx hp => ?_, fun i j x y hx hy hij a b ha hb => ?_⟩
  · rw [List.getElem?_map] at hx hp
    obtain ⟨z, hz, rfl⟩ := Option.map_eq_some_iff.1 hx
    rw [hz] at hp
    cases hp
    exact h.each z (List.mem_of_getElem? hz)
  · rw [List.getElem?_map] at hx hy
    obtain ⟨z, hz, rfl⟩ := Option.map_eq_some_iff.1 hx
    obtain ⟨u, hu, rfl⟩ := Option.map_eq_some_iff.1 hy
    obtain ⟨hi, rfl⟩ := List.getElem?_eq_some_iff.1 hz
    obtain ⟨hj, rfl⟩ := List.getElem?_eq_some_iff.1 hu
    rcases Nat.lt_or_gt_of_ne hij with hlt | hlt
    · exact List.pairwise_iff_getElem.1 h.apart i j hi hj hlt a b ha hb
    · exact (List.pairwise_iff_getElem.1 h.apart j i hj hi hlt b a hb ha).symm
/-- Two that stand side by side are joined. -/
theorem TZ.join {w w1 : World} {base : Nat} {a r : List TmP} {x y : TmP} (h : TZ w base (a ++ x :: y :: r)) (x' : TmP) (hk : ∀ z ∈ a ++ r, TmP.far z x → TmP.ok w base z → TmP.ok w1 base z) (hx : TmP.ok w1 base x') (hn : x'.1.2.1 = x.1.2.1 ∨ ∃ b, x'.1.2.1 = some b ∧ w.heap.size ≤ b.block) : TZ w1 base (a ++ x' :: r) := by
  have hin : ∀ z ∈ a ++ r, z ∈ a ++ x :: y :: r := fun z hz => by
    rcases List.mem_append.1 hz with h | h
    · exact List.mem_append_left _ h
    · exact List.mem_append_right _ (List.mem_cons_of_mem _ (List.mem_cons_of_mem _ h))
  have hfar : ∀ z ∈ a ++ r, (TmP.far z x → TmP.far z x') := fun z hz hf p q hp hq => by
    rcases hn with hn | ⟨b, hb, hlt⟩
    · rw [hn] at hq; exact hf p q hp hq
    · rw [hb] at hq; cases hq
      have := (h.each z (hin z hz)).2.lt p hp
      omega
  have hp := List.pairwise_append.1 h.apart
  have hp2 := List.pairwise_cons.1 hp.2.1
  have hp3 := List.pairwise_cons.1 hp2.2
  refine ⟨fun z hz => ?_, List.pairwise_append.2 ⟨hp.1, List.pairwise_cons.2 ⟨fun z hz => ?_, hp3.2⟩, fun z hz u hu => ?_⟩⟩
  · rcases List.mem_append.1 hz with hz | hz
    · exact hk z (List.mem_append_left _ hz) (hp.2.2 z hz x (List.mem_cons_self ..)) (h.each z (List.mem_append_left _ hz))
    · rcases List.mem_cons.1 hz with rfl | hz
      · exact hx
      · exact hk z (List.mem_append_right _ hz) (TmP.far_symm (hp2.1 z (List.mem_cons_of_mem _ hz))) (h.each z (hin z (List.mem_append_right _ hz)))
  · exact TmP.far_symm (hfar z (List.mem_append_right _ hz) (TmP.far_symm (hp2.1 z (List.mem_cons_of_mem _ hz))))
  · rcases List.mem_cons.1 hu with rfl | hu
    · exact hfar z (List.mem_append_left _ hz) (hp.2.2 z hz x (List.mem_cons_self ..))
    · exact hp.2.2 z hz u (List.mem_cons_of_mem _ (List.mem_cons_of_mem _ hu))
/-- A store into a row of the call's own. -/
theorem own_put {w : World} {base g n c size : Nat} {e : TypeId} {xs : List Value} (h : w.ownsRow base e size (.slice (some ⟨g, 0, none⟩) n c) n xs) (j : Nat) (u : Value) :
    (w.setCell ⟨g, j, none⟩ u).ownsRow base e size (.slice (some ⟨g, 0, none⟩) n c) n (xs.set j u) := by
  rcases h with ⟨hl, ⟨h2, _⟩ | ⟨g', cap, cur, hv, hb, hg, hn, hx', hs, ht⟩⟩
  · cases h2
  · cases hv
    refine ⟨by rw [List.length_set]; exact hl, .inr ⟨g, _, cur.setIfInBounds j u, rfl, hb, Row.put (w := w) hg j u, hn, hx', by rw [Array.size_setIfInBounds]; exact hs, ?_⟩⟩
    rw [Array.toList_setIfInBounds, List.take_set, ht]
theorem tcs_set2 (D : List TmV) (x : TmV) (y : Option Addr × Nat × Nat) : (tcs (D ++ [x])).set (D.length * 2 + 1) (.slice y.1 y.2.1 y.2.2) = tcs (D ++ [(x.1, y)]) := by
  rw [tcs_snoc, tcs_snoc, List.set_append_right _ _ (by rw [tcs_len]; omega), tcs_len, show D.length * 2 + 1 - D.length * 2 = 1 by omega]
  rfl
theorem joinS_last {β : Type} (r : List (List UInt8 × List β)) (x : List UInt8 × List β) (p : List UInt8 × β) : joinS (r ++ [x]) p = if x.1 = p.1 then r ++ [(x.1, x.2 ++ [p.2])] else r ++ [x] ++ [(p.1, [p.2])] := by
  unfold joinS
  rw [List.getLast?_concat, List.dropLast_concat]
theorem tcs_at {w : World} {base n c : Nat} {A : Option Addr} {D : List TmV} (h : w.ownsRow base 150 2 (.slice A n c) n (tcs D)) {i : Nat} {x : TmV} (hx : D[i]? = some x) :
    ∃ g cur, A = some ⟨g, 0, none⟩ ∧ base ≤ g ∧ Row w g 150 cur ∧ w.cell? ⟨g, i * 2, none⟩ = some (.string ⟨x.1.toArray⟩) ∧ w.cell? ⟨g, i * 2 + 1, none⟩ = some (.slice x.2.1 x.2.2.1 x.2.2.2) := by
  have hi := (List.getElem?_eq_some_iff.1 hx).1
  rcases h with ⟨hl, ⟨_, h2⟩ | ⟨g, cap, cur, hv, hb, hg, hn, hx', hs, ht⟩⟩
  · rw [tcs_len] at hl; omega
  · cases hv
    have hT : TR w g D := ⟨cur, hg, fun j v hj => by
      rw [← ht, List.getElem?_take] at hj
      split at hj
      · simpa using hj
      · cases hj⟩
    have := hT.at_ hx
    exact ⟨g, cur, rfl, hb, hg, this.1, this.2⟩
theorem joinS_le {β : Type} {r : List (List UInt8 × List β)} {k : Nat} (h : ∀ z ∈ r, z.2.length ≤ k) (p : List UInt8 × β) : ∀ z ∈ joinS r p, z.2.length ≤ k + 1 := by
  intro z hz
  rcases List.eq_nil_or_concat r with rfl | ⟨r0, x, hr⟩
  · unfold joinS at hz
    simp only [List.getLast?_nil, List.mem_singleton] at hz
    rw [hz]; simp
  · rw [List.concat_eq_append] at hr
    subst hr
    rw [joinS_last] at hz
    have hx := h x (by simp)
    split at hz
    · rcases List.mem_append.1 hz with hz | hz
      · have := h z (List.mem_append_left _ hz); omega
      · rw [List.mem_singleton.1 hz, List.length_append]; simp; omega
    · rcases List.mem_append.1 hz with hz | hz
      · have := h z hz; omega
      · rw [List.mem_singleton.1 hz]; simp
theorem foldS_le {β : Type} : ∀ (l : List (List UInt8 × β)) (r : List (List UInt8 × List β)) (k : Nat), (∀ z ∈ r, z.2.length ≤ k) → ∀ z ∈ l.foldl joinS r, z.2.length ≤ k + l.length
  | [], r, k, h => h
  | p :: l, r, k, h => fun z hz => by
    have := foldS_le l (joinS r p) (k + 1) (joinS_le h p) z hz
    rw [List.length_cons]; omega
theorem bg_owns {w w1 : World} {base n c b m size : Nat} {e t : TypeId} {A : Option Addr} {xs ys : List Value} {v : Value} (hb : Buf w base e A n c xs) (hg : w.grownBy w1 (Value.slice A n c).ownBlock) (ho : w.ownsRow b t size v m ys) (ht : t ≠ e) : w1.ownsRow b t size v m ys :=
  (Chg.of_grown (S := fun j => (Value.slice A n c).ownBlock = some j) hg (fun k _ h => h)).owns ho fun g hg hS => by
    obtain ⟨cur, hc, _⟩ := owns_row ho hg
    cases A with
    | none => simp [Value.ownBlock] at hS
    | some a =>
      simp [Value.ownBlock] at hS
      exact hb.unlike hc (fun h => ht h.symm) a rfl hS
theorem bg_buf {w w1 : World} {n c b n2 c2 : Nat} {t : TypeId} {A B : Option Addr} {ys : List Value} (hg : w.grownBy w1 (Value.slice A n c).ownBlock) (h : Buf w b t B n2 c2 ys) (hf : ∀ p q, B = some p → A = some q → p.block ≠ q.block) : Buf w1 b t B n2 c2 ys :=
  h.grown hg fun a ha hS => by
    cases A with
    | none => simp [Value.ownBlock] at hS
    | some q =>
      simp [Value.ownBlock] at hS
      exact hf a q ha rfl hS.symm
end Go.Proofs.YtkdcnhnaiknaaaaGreat

/- The index of docs: terms and their posts, in a map. -/
namespace Go.Proofs.YtkdcnhnaiknaaaaGreat
open Go.RowKit Go.Maps

structure IdE where
  s : List UInt8
  ps : List PoC
  A : Option Addr
  c : Nat
def IdE.val (x : IdE) : Value := .slice x.A x.ps.length x.c
def IdE.own (x : IdE) (base : Nat) (W : World) : Prop := W.ownsRow base 107 2 (.slice x.A x.ps.length x.c) x.ps.length (pcells x.ps)
def IdE.far (x y : IdE) : Prop := ∀ a b, x.A = some a → y.A = some b → a.block ≠ b.block
def posAt (base : Nat) (W : World) (y : PoC) : Prop := Buf W base 3 y.A y.pos.length y.c (y.pos.map IV) ∧ y.pos.length ≤ 1000000000
/-- Map M holds the posts of 'done'. -/
structure IX (base M : Nat) (done : List (List UInt8 × Po)) (E : List IdE) (W : World) : Prop where
  map : ∃ L, MapL Tryz.prog 9 W M L ∧ ∀ p, p ∈ L ↔ ∃ x ∈ E, p = (strV x.s, x.val)
  own : ∀ x ∈ E, x.own base W ∧ psP x.ps = valsOf done x.s ∧ x.ps ≠ []
  pos : ∀ x ∈ E, ∀ y ∈ x.ps, posAt base W y
  uniq : ∀ x ∈ E, ∀ y ∈ E, x.s = y.s → x = y
  apart : ∀ x ∈ E, ∀ y ∈ E, x.s ≠ y.s → IdE.far x y
  all : ∀ p ∈ done, ∃ x ∈ E, x.s = p.1
theorem strV_inj {a b : List UInt8} (h : strV a = strV b) : a = b := by
  unfold strV at h
  injection h with h
  injection h with h
  simpa using h
theorem IX.new {base : Nat} {w : World} : IX base w.heap.size [] [] (w.alloc (.map #[] 0)) :=
  ⟨⟨[], MapL.made w, fun p => by simp⟩, nofun, nofun, nofun, nofun, nofun⟩
theorem IX.ext {base M : Nat} {done : List (List UInt8 × Po)} {E : List IdE} {W W1 : World} (h : IX base M done E W) (hE : Ext W W1) : IX base M done E W1 := by
  obtain ⟨⟨L, hL, hm⟩, ho, hp, hu, ha, hall⟩ := h
  exact ⟨⟨L, hL.ext hE, hm⟩, fun x hx => ⟨hE.owns (ho x hx).1, (ho x hx).2⟩, fun x hx y hy => ⟨(hp x hx y hy).1.ext hE, (hp x hx y hy).2⟩, hu, ha, hall⟩
theorem keyST : Keyed Tryz.prog 9 := string_keyed Tryz.underlying9
theorem key_strV {s : List UInt8} (hs : s.length ≤ 9223372036854775807) : keyOf Tryz.prog 9 (strV s) = some (.string s) := by
  have h := WideMaps.keyOf_string_mk (P := Tryz.prog) Tryz.underlying9 (s := ⟨s.toArray⟩) (by show s.toArray.size ≤ 9223372036854775807; simpa using hs)
  simpa [strV] using h
/-- What stands at a term: its row, or nothing. -/
def IdG (E : List IdE) (s : List UInt8) (x : IdE) : Prop := x.s = s ∧ (x ∈ E ∨ (x.A = none ∧ x.c = 0 ∧ x.ps = [] ∧ ∀ y ∈ E, y.s ≠ s))
theorem IX.get {base M : Nat} {done : List (List UInt8 × Po)} {E : List IdE} {W : World} (h : IX base M done E W) (s : List UInt8) (hs : s.length ≤ 9223372036854775807) :
    ∃ x, IdG E s x ∧ x.own base W ∧ psP x.ps = valsOf done s ∧ ∀ W1, Ext W W1 → (Instr.lookup 91 (.map (some M)) (strV s) false).run Tryz.prog W1 = .ok (.slice x.A x.ps.length x.c) W1 := by
  obtain ⟨L, hL, hm⟩ := h.map
  have hz : ∀ W, (zeroValue 43).run Tryz.prog W = .ok (.slice none 0 0) W := fun W => by kernel_rfl
  rcases hL.look keyST Tryz.underlying91 (key_strV hs) (hz W) false with ⟨v, hv, _⟩ | ⟨hno, _⟩
  · obtain ⟨x, hx, he⟩ := (hm _).1 hv
    injection he with h1 h2
    have hxs := strV_inj h1
    subst hxs
    have := h.own x hx
    refine ⟨x, ⟨rfl, .inl hx⟩, this.1, this.2.1, fun W1 hE => ?_⟩
    rcases (hL.ext hE).look keyST Tryz.underlying91 (key_strV hs) (hz W1) false with ⟨u, hu, hr⟩ | ⟨hno, _⟩
    · rw [hr, hL.unique hu hv, h2]; rfl
    · exact absurd rfl (hno _ hv)
  · have hne : ∀ y ∈ E, y.s ≠ s := fun y hy e => hno (strV y.s, y.val) ((hm _).2 ⟨y, hy, rfl⟩) (by rw [e])
    refine ⟨⟨s, [], none, 0⟩, ⟨rfl, .inr ⟨rfl, rfl, rfl, hne⟩⟩, World.ownsRow_nil _ _ _ _, ?_, fun W1 hE => ?_⟩
    · show [] = _
      exact (vals_none fun p hp e => by
        obtain ⟨y, hy, hys⟩ := h.all p hp
        exact hne y hy (hys.trans e)).symm
    · rcases (hL.ext hE).look keyST Tryz.underlying91 (key_strV hs) (hz W1) false with ⟨u, hu, _⟩ | ⟨_, hr⟩
      · exact absurd rfl (hno _ hu)
      · exact hr
theorem map_not_own {base M : Nat} {W : World} {L : List (Value × Value)} (h : MapL Tryz.prog 9 W M L) {e size n : Nat} {v : Value} {xs : List Value} (ho : W.ownsRow base e size v n xs) : v.ownBlock ≠ some M := fun hg => by
  obtain ⟨cur, hc, _⟩ := owns_row ho hg
  obtain ⟨⟨es, cl, h1, _⟩, _⟩ := h
  unfold Row at hc
  rw [h1] at hc
  cases hc
theorem map_not_row {M : Nat} {W : World} {L : List (Value × Value)} (h : MapL Tryz.prog 9 W M L) {g t : Nat} {cs : Array Value} (hr : Row W g t cs) : g ≠ M := fun hg => by
  obtain ⟨⟨es, cl, h1, _⟩, _⟩ := h
  unfold Row at hr
  rw [hg, h1] at hr
  cases hr
theorem MapL.same {k : TypeId} {w : World} {m : Nat} {L L' : List (Value × Value)} (h : MapL Tryz.prog k w m L) (h' : MapL Tryz.prog k w m L') : L = L' := by
  obtain ⟨⟨es, cl, h1, h2, _⟩, _⟩ := h
  obtain ⟨⟨es', cl', h1', h2', _⟩, _⟩ := h'
  rw [h1] at h1'
  cases h1'
  exact h2.symm.trans h2'
theorem psP_snoc (l : List PoC) (x : PoC) : psP (l ++ [x]) = psP l ++ [x.po] := by unfold psP; rw [List.map_append]; rfl
theorem pcells_snoc (l : List PoC) (x : PoC) : pcells (l ++ [x]) = pcells l ++ x.cells := by
  unfold pcells
  rw [List.flatMap_append]
  simp
/-- A post more. -/
theorem IX.put {base M : Nat} {done : List (List UInt8 × Po)} {E : List IdE} {W w8 w9 : World} (h : IX base M done E W) {s : List UInt8} {x : IdE} (hx : IdG E s x) (hxo : x.own base W) (hxp : psP x.ps = valsOf done s)
    {y : PoC} {A1 : Option Addr} {c1 : Nat} (hg : W.grownBy w8 (Value.slice x.A x.ps.length x.c).ownBlock) (ho : w8.ownsRow base 107 2 (.slice A1 (x.ps.length + 1) c1) (x.ps.length + 1) (pcells x.ps ++ y.cells))
    (hA : (Value.slice A1 (x.ps.length + 1) c1).ownBlock = (Value.slice x.A x.ps.length x.c).ownBlock ∨ ∃ k, (Value.slice A1 (x.ps.length + 1) c1).ownBlock = some k ∧ W.heap.size ≤ k) (hy : posAt base W y)
    (h9 : ∀ L, MapL Tryz.prog 9 w8 M L → (∀ p, p ∈ L ↔ ∃ x ∈ E, p = (strV x.s, x.val)) → ∃ L', MapL Tryz.prog 9 w9 M L' ∧ Put L (strV s) (.slice A1 (x.ps.length + 1) c1) L' ∧ w8.grownBy w9 (some M)) :
    IX base M (done ++ [(s, y.po)]) (⟨s, x.ps ++ [y], A1, c1⟩ :: E.filter fun z => decide (z.s ≠ s)) w9 := by
  obtain ⟨L, hL, hm⟩ := h.map
  have hL8 : MapL Tryz.prog 9 w8 M L := hL.grown hg (map_not_own hL hxo)
  obtain ⟨L', hL', hput, hg9⟩ := h9 L hL8 hm
  have hlen : (x.ps ++ [y]).length = x.ps.length + 1 := by rw [List.length_append]; rfl
  have hmem : ∀ z, z ∈ (E.filter fun z => decide (z.s ≠ s)) ↔ z ∈ E ∧ z.s ≠ s := fun z => by rw [List.mem_filter]; simp
  -- rows of other terms are let be
  have hrow9 : ∀ g t cs, Row w8 g t cs → Row w9 g t cs := fun g t cs hr => hr.grown hg9 fun e => map_not_row hL8 hr (by injection e)
  have hown9 : ∀ {b e size n : Nat} {v : Value} {xs : List Value}, w8.ownsRow b e size v n xs → w9.ownsRow b e size v n xs := fun hh =>
    (Chg.of_grown (S := fun k => k = M) hg9 (fun k _ e => by injection e with e; exact e.symm)).owns hh fun g hgv e => map_not_own hL8 hh (by rw [hgv, e])
  have hfarx : ∀ z ∈ E, z.s ≠ s → ∀ a, x.A = some a → ∀ b, z.A = some b → b.block ≠ a.block := fun z hz hne a ha b hb => by
    rcases hx.2 with hxE | ⟨hn, _⟩
    · exact h.apart z hz x hxE (fun e => hne (e.trans hx.1)) b a hb ha
    · rw [hn] at ha; cases ha
  have hother : ∀ z ∈ E, z.s ≠ s → z.own base w9 := fun z hz hne => by
    refine hown9 ?_
    refine (Chg.of_grown (S := fun k => (Value.slice x.A x.ps.length x.c).ownBlock = some k) hg (fun k _ e => e)).owns (h.own z hz).1 fun g hgz hgx => ?_
    cases hzA : z.A with
    | none => rw [hzA] at hgz; simp [Value.ownBlock] at hgz
    | some b =>
      cases hxA : x.A with
      | none => rw [hxA] at hgx; simp [Value.ownBlock] at hgx
      | some a =>
        rw [hzA] at hgz; rw [hxA] at hgx
        simp [Value.ownBlock] at hgz hgx
        exact hfarx z hz hne a hxA b hzA (hgz.trans hgx.symm)
  have hpos9 : ∀ u, posAt base W u → posAt base w9 u := fun u hu => by
    have q := og_buf hxo hg hu.1 (by decide)
    exact ⟨q.grown hg9 fun a ha e => by
      injection e with e
      rcases q.2.2 with ⟨h0, _⟩ | ⟨g', cur, hA', _, hr, _⟩
      · rw [h0] at ha; cases ha
      · rw [hA'] at ha
        cases ha
        exact map_not_row hL8 hr e.symm, hu.2⟩
  have hv1 : valsOf (done ++ [(s, y.po)]) s = valsOf done s ++ [y.po] := by rw [valsOf_append, valsOf_one, if_pos rfl]
  have hv2 : ∀ t, t ≠ s → valsOf (done ++ [(s, y.po)]) t = valsOf done t := fun t ht => by rw [valsOf_append, valsOf_one, if_neg (fun e => ht e.symm), List.append_nil]
  refine ⟨⟨L', hL', fun p => ?_⟩, fun z hz => ?_, fun z hz u hu => ?_, fun z hz u hu hzu => ?_, fun z hz u hu hzu => ?_, fun p hp => ?_⟩
  · rw [hput.mem]
    constructor
    · rintro (rfl | ⟨hp, hne⟩)
      · exact ⟨_, List.mem_cons_self .., by unfold IdE.val; simp only [hlen]⟩
      · obtain ⟨z, hz, rfl⟩ := (hm _).1 hp
        exact ⟨z, List.mem_cons_of_mem _ ((hmem z).2 ⟨hz, fun e => hne (by rw [e])⟩), rfl⟩
    · rintro ⟨z, hz, rfl⟩
      rcases List.mem_cons.1 hz with rfl | hz
      · exact .inl (by unfold IdE.val; simp only [hlen])
      · obtain ⟨hz1, hz2⟩ := (hmem z).1 hz
        exact .inr ⟨(hm _).2 ⟨z, hz1, rfl⟩, fun e => hz2 (strV_inj e)⟩
  · rcases List.mem_cons.1 hz with rfl | hz
    · refine ⟨?_, ?_, by simp⟩
      · show w9.ownsRow base _ 2 (.slice A1 (x.ps ++ [y]).length c1) (x.ps ++ [y]).length (pcells (x.ps ++ [y]))
        rw [hlen, pcells_snoc]
        exact hown9 ho
      · show psP (x.ps ++ [y]) = valsOf _ s
        rw [psP_snoc, hxp, hv1]
    · obtain ⟨hz1, hz2⟩ := (hmem z).1 hz
      exact ⟨hother z hz1 hz2, by rw [hv2 _ hz2]; exact (h.own z hz1).2.1, (h.own z hz1).2.2⟩
  · rcases List.mem_cons.1 hz with rfl | hz
    · rcases List.mem_append.1 hu with hu | hu
      · rcases hx.2 with hxE | ⟨_, _, hn, _⟩
        · exact hpos9 u (h.pos x hxE u hu)
        · rw [hn] at hu; cases hu
      · rw [List.mem_singleton.1 hu]; exact hpos9 y hy
    · exact hpos9 u (h.pos z ((hmem z).1 hz).1 u hu)
  · rcases List.mem_cons.1 hz with rfl | hz <;> rcases List.mem_cons.1 hu with rfl | hu
    · rfl
    · exact absurd hzu.symm ((hmem u).1 hu).2
    · exact absurd hzu ((hmem z).1 hz).2
    · exact h.uniq z ((hmem z).1 hz).1 u ((hmem u).1 hu).1 hzu
  · have key : ∀ z ∈ E, z.s ≠ s → ∀ a b, A1 = some a → z.A = some b → b.block ≠ a.block := fun z hz hne a b ha hb e => by
      rcases hA with hA | hA
      · rw [ha] at hA
        cases hxA : x.A with
        | none => rw [hxA] at hA; simp [Value.ownBlock] at hA
        | some a' =>
          rw [hxA] at hA
          simp [Value.ownBlock] at hA
          exact hfarx z hz hne a' hxA b hb (e.trans hA)
      · obtain ⟨k, hA, h1⟩ := hA
        rw [ha] at hA
        simp [Value.ownBlock] at hA
        obtain ⟨cur, hc, _⟩ := owns_row (h.own z hz).1 (g := b.block) (by rw [hb]; rfl)
        have := hc.lt
        omega
    rcases List.mem_cons.1 hz with rfl | hz <;> rcases List.mem_cons.1 hu with rfl | hu
    · exact absurd rfl hzu
    · exact fun a b ha hb e => key u ((hmem u).1 hu).1 ((hmem u).1 hu).2 a b ha hb e.symm
    · exact fun a b ha hb => key z ((hmem z).1 hz).1 ((hmem z).1 hz).2 b a hb ha
    · exact h.apart z ((hmem z).1 hz).1 u ((hmem u).1 hu).1 hzu
  · rcases List.mem_append.1 hp with hp | hp
    · obtain ⟨z, hz, hzs⟩ := h.all p hp
      by_cases hs : p.1 = s
      · exact ⟨_, List.mem_cons_self .., hs.symm⟩
      · exact ⟨z, List.mem_cons_of_mem _ ((hmem z).2 ⟨hz, by rw [hzs]; exact hs⟩), hzs⟩
    · rw [List.mem_singleton.1 hp]
      exact ⟨_, List.mem_cons_self .., rfl⟩
end Go.Proofs.YtkdcnhnaiknaaaaGreat

/- Terms of an event, what may be said of them. -/
namespace Go.Proofs.YtkdcnhnaiknaaaaGreat
open Go.RowKit

theorem termsL_mem {e : Ev} {p : List UInt8 × List Int} (h : p ∈ termsL e) : checkE e.fs = 0 ∧ p.2 = valsOf (rawT 0 e.fs) p.1 ∧ p.2 ≠ [] := by
  unfold termsL at h
  split at h
  · rename_i h0
    exact ⟨h0, ((grp_ok _).mem p).1 h⟩
  · cases h
theorem rawT_mem : ∀ (fs : List Fd) (b : Nat) (q : List UInt8 × Int), q ∈ rawT b fs → ∃ f ∈ fs, ∃ w ∈ tokL f.2, q.1 = f.1 ++ 58 :: w
  | [], b, q, h => by cases h
  | f :: fs, b, q, h => by
    unfold rawT at h
    rcases List.mem_append.1 h with h | h
    · unfold fieldT at h
      obtain ⟨p, hp, rfl⟩ := List.mem_map.1 h
      obtain ⟨w, i⟩ := p
      have := List.mem_zipIdx hp
      exact ⟨f, List.mem_cons_self .., w, by rw [this.2.2]; exact List.getElem_mem _, rfl⟩
    · obtain ⟨g, hg, w, hw, he⟩ := rawT_mem fs _ q h
      exact ⟨g, List.mem_cons_of_mem _ hg, w, hw, he⟩
theorem vals_ne {β : Type} {ps : List (List UInt8 × β)} {s : List UInt8} (h : valsOf ps s ≠ []) : ∃ p ∈ ps, p.1 = s := Decidable.byContradiction fun hn => h (vals_none fun p hp e => hn ⟨p, hp, e⟩)
theorem vals_len {β : Type} (ps : List (List UInt8 × β)) (s : List UInt8) : (valsOf ps s).length ≤ ps.length := by
  unfold valsOf
  rw [List.length_map]
  exact List.length_filter_le ..
theorem termsL_key {e : Ev} {p : List UInt8 × List Int} (h : p ∈ termsL e) : 1 ≤ p.1.length ∧ p.1.length ≤ 65 := by
  obtain ⟨h0, h1, h2⟩ := termsL_mem h
  rw [h1] at h2
  obtain ⟨q, hq, hqp⟩ := vals_ne h2
  obtain ⟨f, hf, w, hw, he⟩ := rawT_mem _ _ q hq
  have hf2 := (checkE_fs h0).2 f hf
  have hw2 := tokL_each hw
  rw [← hqp, he, List.length_append, List.length_cons]
  omega
theorem termsL_pl {e : Ev} {p : List UInt8 × List Int} (h : p ∈ termsL e) : p.2.length ≤ 65536 := by
  obtain ⟨h0, h1, h2⟩ := termsL_mem h
  have h3 := vals_len (rawT 0 e.fs) p.1
  have h4 := rawT_len (k := 4096) e.fs 0 fun f hf => ((checkE_fs h0).2 f hf).2
  have h5 := (checkE_fs h0).1
  rw [h1]
  omega
theorem addG_len {β : Type} (p : List UInt8 × β) : ∀ (l : List (List UInt8 × List β)), (addG p l).length ≤ l.length + 1
  | [] => by simp [addG]
  | x :: xs => by
    have := addG_len p xs
    unfold addG
    split
    · simp only [List.length_cons]; omega
    · split
      · simp only [List.length_cons]; omega
      · simp only [List.length_cons]; omega
theorem foldG_len {β : Type} : ∀ (ps : List (List UInt8 × β)) (l : List (List UInt8 × List β)), (ps.foldl (fun l p => addG p l) l).length ≤ l.length + ps.length
  | [], l => by simp
  | p :: ps, l => by
    have h1 := foldG_len ps (addG p l)
    have h2 := addG_len p l
    rw [List.foldl_cons, List.length_cons]
    omega
theorem grp_len {β : Type} (ps : List (List UInt8 × β)) : (grp ps).length ≤ ps.length := by
  have := foldG_len ps []
  unfold grp
  simpa using this
theorem termsL_len (e : Ev) : (termsL e).length ≤ 65536 := by
  unfold termsL
  split
  · rename_i h0
    have h3 := grp_len (rawT 0 e.fs)
    have h4 := rawT_len (k := 4096) e.fs 0 fun f hf => ((checkE_fs h0).2 f hf).2
    have h5 := (checkE_fs h0).1
    omega
  · simp
end Go.Proofs.YtkdcnhnaiknaaaaGreat

/- Rows of docs; loggia/stored: Check. -/
namespace Go.Proofs.YtkdcnhnaiknaaaaGreat
open Go.RowKit

/-- A doc where it lies: its event's fields' slice. -/
structure DocC where
  seq : Int
  e : Ev
  A : Option Addr
  c : Nat
def DocC.cells (x : DocC) : List Value := [.int .i64 x.seq, .int .i64 x.e.at_, .slice x.A x.e.fs.length x.c]
def DocC.val (x : DocC) : Value := .agg #[.int .i64 x.seq, .int .i64 x.e.at_, .slice x.A x.e.fs.length x.c]
def DocC.dc (x : DocC) : Dc := (x.seq, x.e)
def dcells (l : List DocC) : List Value := l.flatMap DocC.cells
def dcs (l : List DocC) : List Dc := l.map DocC.dc
theorem dcells_len (l : List DocC) : (dcells l).length = l.length * 3 := flat_len_of (cellsA := DocC.cells) (k := 3) (fun _ => rfl) l
theorem dcells_get {l : List DocC} {i : Nat} {x : DocC} (h : l[i]? = some x) {j : Nat} (hj : j < 3) : (dcells l)[i * 3 + j]? = x.cells[j]? := flat_get_of (cellsA := DocC.cells) (k := 3) (fun _ => rfl) l i x j h hj
theorem dcells_at {w : World} {A : Option Addr} {l : List DocC} (h : Cells w A (dcells l)) {i : Nat} {x : DocC} (hx : l[i]? = some x) : ∃ g o, A = some ⟨g, o, none⟩ ∧ w.cell? ⟨g, o + i * 3, none⟩ = some (.int .i64 x.seq) ∧ w.cell? ⟨g, o + i * 3 + 1, none⟩ = some (.int .i64 x.e.at_) ∧ w.cell? ⟨g, o + i * 3 + 2, none⟩ = some (.slice x.A x.e.fs.length x.c) := by
  obtain ⟨g, o, hA, hc⟩ := h.at_ (by rw [dcells_len]; have := (List.getElem?_eq_some_iff.1 hx).1; omega)
  refine ⟨g, o, hA, ?_, ?_, ?_⟩
  · have := hc (i * 3 + 0) _ (by rw [dcells_get hx (by omega)]; rfl)
    exact this
  · have := hc (i * 3 + 1) _ (by rw [dcells_get hx (by omega)]; rfl)
    exact this
  · have := hc (i * 3 + 2) _ (by rw [dcells_get hx (by omega)]; rfl)
    exact this
/-- A row of docs lies at A. -/
structure DocsOk (w : World) (A : Option Addr) (l : List DocC) : Prop where
  cells : Cells w A (dcells l)
  each : ∀ x ∈ l, x.e.Ok w x.A ∧ I64ok' x.e.at_ ∧ I64ok' x.seq
theorem DocsOk.ext {w w1 : World} {A : Option Addr} {l : List DocC} (h : DocsOk w A l) (hE : Ext w w1) : DocsOk w1 A l := ⟨h.cells.ext hE, fun x hx => ⟨(h.each x hx).1.ext hE, (h.each x hx).2⟩⟩
theorem DocsOk.nil (w : World) (A : Option Addr) : DocsOk w A [] := ⟨.inl rfl, nofun⟩
theorem DocsOk.part {w : World} {A : Option Addr} {ps : List DocC} (h : DocsOk w A ps) (hA : ∀ a, A = some a → a.spot = none) (i m : Nat) : DocsOk w (A.map fun a => a.add (i * 3)) ((ps.drop i).take m) := by
  refine ⟨?_, fun x hx => h.each x (List.mem_of_mem_drop (List.mem_of_mem_take hx))⟩
  unfold dcells
  rw [flat_take (f := DocC.cells) (k := 3) (fun _ => rfl), flat_part (f := DocC.cells) (k := 3) (fun _ => rfl)]
  exact h.cells.part hA _ _
def ckD (lo : Int) (l : List Dc) : Bool := risB 1099511627777 lo (l.map (·.1)) && l.all okD
theorem ckD_cons (lo : Int) (x : Dc) (t : List Dc) : ckD lo (x :: t) = (decide (lo < x.1) && decide (x.1 < 1099511627777) && decide (checkE x.2.fs = 0) && ckD x.1 t) := by
  unfold ckD
  rw [List.map_cons, risB, List.all_cons]
  unfold okD
  cases decide (lo < x.1) <;> cases decide (x.1 < 1099511627777) <;> cases decide (checkE x.2.fs = 0) <;> simp
set_option maxRecDepth 100000 in
set_option maxHeartbeats 2000000 in
theorem sdCheck_any (ds : List DocC) (A : Option Addr) (m c : Nat) (w : World) (hm : m = ds.length) (h : DocsOk w A ds) (hm9 : m ≤ 1000000000) :
    Calls Tryz.prog 77 #[.slice A m c] w fun e w' => e = .returned (.int .i64 (if okDs (dcs ds) then 0 else 120)) ∧ Ext w w' := by
  have hck := hide (fun (e : Ev) B d W h => echeck_any e B d W h)
  obtain ⟨Z, hZ⟩ : ∃ Z, Z = okDs (dcs ds) := ⟨_, rfl⟩
  rw [← hZ]
  have hlen : (dcs ds).length = m := by unfold dcs; rw [List.length_map, hm]
  by_cases hbig : 65536 < m
  · have hZf : Z = false := by
      rw [hZ]; unfold okDs; rw [hlen, decide_eq_false (by omega)]; rfl
    subst hZf
    have hb' : (65536 : Int) < m := by omega
    clear hZ hck h
    go_enter Tryz.func77, Tryz.ntmps77
    go_wp2_with fail
    go_ret
    exact ⟨rfl, Ext.refl _⟩
  · have hb' : ¬ (65536 : Int) < m := by omega
    have hZ2 : Z = ckD 0 (dcs ds) := by
      rw [hZ]; unfold okDs; rw [hlen, decide_eq_true (by omega)]; rfl
    replace hZ := hide hZ2
    clear hZ2
    replace hm := hide hm
    replace h := hide h
    replace hlen := hide hlen
    go_enter Tryz.func77, Tryz.ntmps77
    go_wp2_with fail
    go_loopw [3, 11] (fun s3 s11 wr => ∃ (i : Nat) (la : Int), s3 = .int .i64 la ∧ s11 = .int .i64 (i : Int) ∧ i ≤ m ∧ Hid (Z = ckD la (dcs (ds.drop i))) ∧ Hid (Ext w wr)) (fun _ s11 _ => m - (intOf s11).toNat)
    case atStart => exact ⟨0, 0, rfl, rfl, by omega, hide (by rw [hZ.out]; rfl), hide (Ext.refl w)⟩
    case round =>
      obtain ⟨i, la, rfl, rfl, hi, hb, hE⟩ := hrel
      by_cases hlt : i < m
      · obtain ⟨x, hxi⟩ : ∃ x, ds[i]? = some x := ⟨_, List.getElem?_eq_getElem (by rw [← hm.out]; exact hlt)⟩
        obtain ⟨g, o, hA, hc0, hc1, hc2⟩ := dcells_at (h.out.cells.ext hE.out) hxi
        subst hA
        have hx := h.out.each x (List.mem_of_getElem? hxi)
        have hbx := hb.out
        rw [drop_step hxi] at hbx
        unfold dcs at hbx
        rw [List.map_cons, ckD_cons] at hbx
        obtain ⟨W2, hW2⟩ : ∃ W2, W2 = wr.alloc (.cells #[.int .i64 x.seq, .int .i64 x.e.at_, .slice x.A x.e.fs.length x.c] 39) := ⟨_, rfl⟩
        have hE2 : Ext w W2 := by rw [hW2]; exact hE.out.alloc _
        have hca := hck.out x.e x.A x.c W2 (hx.1.ext hE2)
        have hr2 : Row W2 wr.heap.size 39 #[.int .i64 x.seq, .int .i64 x.e.at_, .slice x.A x.e.fs.length x.c] := by rw [hW2]; exact Row.new wr _ _
        obtain ⟨g2, hg2⟩ : ∃ g2, g2 = wr.heap.size := ⟨_, rfl⟩
        rw [← hg2] at hr2
        have r0 := hr2.cell 0 rfl
        have r1 := hr2.cell 1 rfl
        have r2 := hr2.cell 2 rfl
        unfold Ev.val at hca
        obtain ⟨seq, ⟨at_, fs⟩, B, cB⟩ := x
        change Z = (decide (la < seq) && decide (seq < 1099511627777) && decide (checkE fs = 0) && ckD seq (dcs (ds.drop (i + 1)))) at hbx
        simp only at hc0 hc1 hc2 hca hW2 r0 r1 r2
        obtain ⟨fl, hfl⟩ : ∃ fl, fl = fs.length := ⟨_, rfl⟩
        rw [← hfl] at hc2 hca hW2 hr2 r2
        replace hca := hide hca
        replace hr2 := hide hr2
        replace hg2 := hide hg2
        replace hE2 := hide hE2
        replace hW2 := hide hW2
        replace hfl := hide hfl
        replace hx := hide hx
        replace hxi := hide hxi
        clear hb
        by_cases h1 : seq ≤ la
        · rw [decide_eq_false (by omega), Bool.false_and, Bool.false_and, Bool.false_and] at hbx
          subst hbx
          go_upto_region 7 with fail
          rw [← hW2.out, ← hg2.out]
          go_wp2_with fail
          go_ret
          exact ⟨rfl, hE2.out⟩
        · by_cases h2 : 1099511627776 < seq
          · rw [decide_eq_false (p := seq < 1099511627777) (by omega), Bool.and_false, Bool.false_and, Bool.false_and] at hbx
            subst hbx
            go_upto_region 7 with fail
            rw [← hW2.out, ← hg2.out]
            go_wp2_with fail
            go_ret
            exact ⟨rfl, hE2.out⟩
          · rw [decide_eq_true (p := la < seq) (by omega), decide_eq_true (p := seq < 1099511627777) (by omega), Bool.true_and, Bool.true_and] at hbx
            by_cases h3 : checkE fs = 0
            · rw [decide_eq_true h3, Bool.true_and] at hbx
              rw [h3] at hca
              replace hbx := hide hbx
              go_upto_region 7 with fail
              rw [← hW2.out, ← hg2.out]
              go_wp2_with fail
              refine hca.out.mono ?_
              rintro e w3 ⟨rfl, hE3⟩
              have q0 := (hr2.out.ext hE3).cell 0 rfl
              go_wp2_with fail
              exact ⟨⟨i + 1, seq, rfl, rfl, by omega, hbx, hide (hE2.out.trans hE3)⟩, by simp only [intOf]; omega⟩
            · rw [decide_eq_false h3, Bool.false_and] at hbx
              subst hbx
              obtain ⟨k, hk⟩ : ∃ k, k = checkE fs := ⟨_, rfl⟩
              rw [← hk] at hca h3
              have h3' : ¬ (k : Int) = 0 := by omega
              replace hk := hide hk
              go_upto_region 7 with fail
              rw [← hW2.out, ← hg2.out]
              go_wp2_with fail
              refine hca.out.mono ?_
              rintro e w3 ⟨rfl, hE3⟩
              go_wp2_with fail
              go_ret
              exact ⟨rfl, hE2.out.trans hE3⟩
      · obtain rfl : i = m := by omega
        have hZe : Z = true := by rw [hb.out, List.drop_eq_nil_of_le (by rw [← hm.out]; exact Nat.le_refl _)]; rfl
        subst hZe
        go_wp2_with fail
        go_ret
        exact ⟨rfl, hE.out⟩
end Go.Proofs.YtkdcnhnaiknaaaaGreat

