/- Texts of one proof, joined. -/
import Derived.Test.YtkdcnhnaiknaaaaGreatFD10
import Derived.Test.YtkdcnhnaiknaaaaGreatFD11
import Derived.RegionTactic
import Derived.ChangeAlike
import Derived.Test.YtkdcnhnaiknaaaaGreatFD05
import Derived.Test.YtkdcnhnaiknaaaaGreatFD08
import Derived.Test.YtkdcnhnaiknaaaaGreatFD06
import Derived.Test.YtkdcnhnaiknaaaaGreatFD07
import Derived.Test.YtkdcnhnaiknaaaaGreatFD04
import Derived.Test.YtkdcnhnaiknaaaaGreatFD02
import Derived.Maps.Keyed
import Derived.Maps.OwnOps
set_option linter.unusedSimpArgs false
set_option linter.unusedVariables false
namespace Go.Proofs.YtkdcnhnaiknaaaaGreat
section
open Go.RowKit
attribute [local go_sem] Oper.semAt_some wide_depth wide_fn
theorem run_loadVar_cell {P : Program} {w : World} {g : Nat} {ty : TypeId} {v : Value} {d : TypeDesc} (h : w.cell? ⟨g, 0, none⟩ = some v) (hu : P.underlying ty = some d) (hd : (match d with | .struct _ | .array _ _ => false | _ => true) = true) : (loadVar ty ⟨g, 0, none⟩).run P w = .ok v w := by
  have hi : (isAgg ty).run P w = .ok false w := by
    unfold isAgg
    simp only [Sem.run_bind, run_underlying hu, Result.andThen_ok]
    cases d <;> first | rfl | (cases hd)
  unfold loadVar
  simp only [Sem.run_bind, hi, Result.andThen_ok]
  simp [h]
theorem Row.same {w : World} {g : Nat} {t : TypeId} {cs : Array Value} (h : Row w g t cs) {i : Nat} {v : Value} (hv : cs[i]? = some v) : w.setCell ⟨g, i, none⟩ v = w := by
  have hp := h.put i v
  have hc : cs.setIfInBounds i v = cs := by
    apply Array.ext_getElem?
    intro j
    rw [Array.getElem?_setIfInBounds]
    split
    · rename_i e; subst e
      rw [hv, if_pos (Array.getElem?_eq_some_iff.1 hv).1]
    · rfl
  rw [hc] at hp
  have hh : (w.setCell ⟨g, i, none⟩ v).heap = w.heap := by
    apply Array.ext_getElem?
    intro k
    by_cases e : k = g
    · subst e
      exact hp.trans (Eq.symm h)
    · exact Below.heap_setCell w ⟨g, i, none⟩ v k e
  obtain ⟨heap, os, tape, output⟩ := w
  simp only [World.setCell] at hh ⊢
  rw [hh]
theorem results_cells3 {fn : Func} {p q r : Tmp} {tp tq tr : TypeId} {P : Program} (hf : fn.results = #[.cell p tp, .cell q tq, .cell r tr]) (tmps : Array Value) (w : World) {g1 g2 g3 : Nat} {v1 v2 v3 : Value}
    (h1 : tmps.getD p undef = .pointer (some ⟨g1, 0, none⟩)) (h2 : tmps.getD q undef = .pointer (some ⟨g2, 0, none⟩)) (h3 : tmps.getD r undef = .pointer (some ⟨g3, 0, none⟩))
    (l1 : (loadVar tp ⟨g1, 0, none⟩).run P w = .ok v1 w) (l2 : (loadVar tq ⟨g2, 0, none⟩).run P w = .ok v2 w) (l3 : (loadVar tr ⟨g3, 0, none⟩).run P w = .ok v3 w) :
    (results fn tmps).run P w = .ok (.tuple #[v1, v2, v3]) w := by
  rw [Array.getD_eq_getD_getElem?] at h1 h2 h3
  simp only [results, hf]
  simp [Sem.run_bind, Result.andThen, h1, h2, h3, asAddr, l1, l2, l3]
set_option maxRecDepth 100000 in
theorem elemLL : Elem Tryz.prog 109 25 1 24 := ⟨Tryz.underlying109, ⟨_, _, rfl, rfl, rfl, rfl, rfl⟩, by omega, by omega⟩
set_option maxRecDepth 100000 in
theorem frames_any (A : Option Addr) (n c : Nat) (ew : Nat) (w : World) :
    Calls Tryz.prog 93 #[.slice A n c, .pointer (some ⟨ew, 0, none⟩)] w fun e w' => ∃ b1 b2, e = .returned (.func (.func 151) #[] #[.pointer (some ⟨b1, 0, none⟩), .pointer (some ⟨b2, 0, none⟩)]) ∧ Row w' b1 25 #[.slice A n c] ∧ Row w' b2 168 #[.pointer (some ⟨ew, 0, none⟩)] ∧ w.heap.size ≤ b1 ∧ w.heap.size ≤ b2 ∧ b1 < b2 ∧ Ext w w' := by
  go_enter Tryz.func93, Tryz.ntmps93
  go_wp2_with fail
  go_ret
  have h1 := Row.new w 25 #[.slice A n c]
  have h2 := Row.new (w.alloc (.cells #[.slice A n c] 25)) 168 #[.pointer (some ⟨ew, 0, none⟩)]
  rw [World.size_alloc] at h2
  exact ⟨w.heap.size, w.heap.size + 1, rfl, h1.alloc _, h2, Nat.le_refl _, by omega, by omega, ((Ext.refl w).alloc _).alloc _⟩
theorem grown_low {w w1 : World} {base n c : Nat} {e : TypeId} {A : Option Addr} {xs : List Value} (hb : Buf w base e A n c xs) (hg : w.grownBy w1 (Value.slice A n c).ownBlock) {k : Nat} (hk : k < base) (hkw : k < w.heap.size) : w1.heap[k]? = w.heap[k]? :=
  hg.block k hkw fun h => by
    cases A with
    | none => simp [Value.ownBlock] at h
    | some a =>
      have := hb.base_le a rfl
      simp [Value.ownBlock] at h
      omega
theorem PayOk.grown {w w1 : World} {x : Pay} {base n c : Nat} {e : TypeId} {A : Option Addr} {xs : List Value} (h : PayOk w x) (hb : Buf w base e A n c xs) (hg : w.grownBy w1 (Value.slice A n c).ownBlock) (he : 5 ≠ e) : PayOk w1 x := by
  obtain ⟨b, hx⟩ := h
  refine ⟨b, hx.grown hg fun a ha hne => ?_⟩
  rcases hb.2.2 with ⟨h0, _⟩ | ⟨g', cur, hA', _, hr, _⟩
  · subst h0; simp [Value.ownBlock] at hne
  · subst hA'
    simp [Value.ownBlock] at hne
    exact hx.unlike hr he a ha hne.symm
theorem PayOk.set {w : World} {x : Pay} (h : PayOk w x) {g : Nat} {t : TypeId} {cs : Array Value} (hr : Row w g t cs) (ht : 5 ≠ t) (i : Nat) (u : Value) : PayOk (w.setCell ⟨g, i, none⟩ u) x := by
  obtain ⟨b, hx⟩ := h
  exact ⟨b, hx.setCell (hx.unlike hr ht) u⟩
def SpI (h bs b1 b2 : Nat) (V1 : Value) (w : World) (pre : List Pay) (W : World) : Prop :=
  ∃ L c z, Row W h 109 #[.slice L pre.length c] ∧ Row W (h + 1) 3 #[.int .i64 z] ∧ Row W (h + 2) 26 #[.int .i64 0] ∧ Buf W bs 25 L pre.length c (pre.map Pay.val) ∧ (∀ x ∈ pre, PayOk W x) ∧ Row W b1 25 #[V1] ∧ Row W b2 168 #[.pointer (some ⟨h + 2, 0, none⟩)] ∧ Ext w W ∧ bs ≤ W.heap.size
theorem PayOk.ext {W W1 : World} {x : Pay} (h : PayOk W x) (hE : Ext W W1) : PayOk W1 x := by obtain ⟨b, hb⟩ := h; exact ⟨b, hb.ext hE⟩
theorem PayOk.alike {B : Nat} {W W1 : World} {x : Pay} (h : PayOk W x) (ha : Alike B W W1) : PayOk W1 x := by obtain ⟨b, hb⟩ := h; exact ⟨b, ha.buf hb⟩
theorem SpI.ext {h bs b1 b2 : Nat} {V1 : Value} {w W W1 : World} {pre : List Pay} (hi : SpI h bs b1 b2 V1 w pre W) (hE : Ext W W1) : SpI h bs b1 b2 V1 w pre W1 := by
  obtain ⟨L, c, z, r1, r2, r3, hb, hp, q1, q2, he, hs⟩ := hi
  exact ⟨L, c, z, r1.ext hE, r2.ext hE, r3.ext hE, hb.ext hE, fun x hx => (hp x hx).ext hE, q1.ext hE, q2.ext hE, he.trans hE, Nat.le_trans hs hE.size⟩
theorem SpI.alike {h bs b1 b2 B : Nat} {V1 : Value} {w W W1 : World} {pre : List Pay} (hi : SpI h bs b1 b2 V1 w pre W) (ha : Alike B W W1) (hB : w.heap.size ≤ B) : SpI h bs b1 b2 V1 w pre W1 := by
  obtain ⟨L, c, z, r1, r2, r3, hb, hp, q1, q2, he, hs⟩ := hi
  exact ⟨L, c, z, ha.row r1, ha.row r2, ha.row r3, ha.buf hb, fun x hx => (hp x hx).alike ha, ha.row q1, ha.row q2, ha.ext he hB, Nat.le_trans hs ha.size⟩
def SplitW (w : World) (b : List UInt8) (e : Ending) (w' : World) : Prop := ∃ L c z, ∃ ps : List Pay, e = .returned (.tuple #[.slice L ps.length c, .int .i64 z, .int .i64 ((splitF b).2 : Int)]) ∧ Cells w' L (ps.map Pay.val) ∧ pays ps = (splitF b).1 ∧ (∀ x ∈ ps, PayOk w' x) ∧ Ext w w'
set_option maxRecDepth 100000 in
set_option maxHeartbeats 4000000 in
theorem split_any (A : Option Addr) (n c : Nat) (b : List UInt8) (w : World) (h : In8 w A n c b) (hle : n ≤ 1000000000) :
    Calls Tryz.prog 49 #[.slice A n c] w fun e w' => SplitW w b e w' := by
  replace h := hide h
  refine (callsIn_wide (n := 0)).1 ?_
  refine callsIn_of_wp_marks Tryz.func49 rfl trivial ?_
  simp only [Tryz.ntmps49, List.size_toArray, List.length_cons, List.length_nil, Nat.reduceAdd, Nat.reduceSub, Array.replicate_succ, Array.replicate_zero, List.push_toArray, List.append_toArray, List.nil_append, List.cons_append]
  gi_wp2_with fail
  obtain ⟨W3, hW3⟩ : ∃ W3, W3 = ((w.alloc (Obj.cells #[Value.slice none 0 0] 109)).alloc (Obj.cells #[Value.int IntKind.i64 0] 3)).alloc (Obj.cells #[Value.int IntKind.i64 0] 26) := ⟨_, rfl⟩
  rw [← hW3]
  obtain ⟨h1, hh1⟩ : ∃ h1, h1 = w.heap.size := ⟨_, rfl⟩
  have q1 : Row W3 h1 109 #[.slice none 0 0] := by rw [hW3, hh1]; exact ((Row.new w _ _).alloc _).alloc _
  have q2 : Row W3 (h1 + 1) 3 #[.int .i64 0] := by
    have := Row.new (w.alloc (Obj.cells #[Value.slice none 0 0] 109)) 3 #[.int .i64 0]
    rw [World.size_alloc, ← hh1] at this
    rw [hW3]; exact this.alloc _
  have q3 : Row W3 (h1 + 2) 26 #[.int .i64 0] := by
    have := Row.new ((w.alloc (Obj.cells #[Value.slice none 0 0] 109)).alloc (Obj.cells #[Value.int IntKind.i64 0] 3)) 26 #[.int .i64 0]
    rw [World.size_alloc, World.size_alloc, ← hh1] at this
    rw [hW3]; exact this
  have hE3 : Ext w W3 := by rw [hW3]; exact (((Ext.refl w).alloc _).alloc _).alloc _
  have hsz3 : W3.heap.size = h1 + 3 := by rw [hW3, hh1]; simp
  rw [← hh1]
  refine (callsIn_wide.2 (frames_any A n c (h1 + 2) W3)).mono ?_
  rintro e w4 ⟨b1, b2, rfl, rb1, rb2, hb1, hb2, hb12, hE4⟩
  obtain ⟨bs, hbs⟩ : ∃ bs, bs = w4.heap.size := ⟨_, rfl⟩
  have hP4 : SpI h1 bs b1 b2 (.slice A n c) w [] w4 := ⟨none, 0, 0, q1.ext hE4, q2.ext hE4, q3.ext hE4, Buf.nil _ _ _, nofun, rb1, rb2, hE3.trans hE4, by omega⟩
  have hit := frames_iter A n c b h1 b1 b2 (h1 + 2) w w4 h.out (by omega) (hE3.trans hE4) hle rb1 rb2 (q3.ext hE4)
  rw [hsz3] at hb1 hb2
  have hwsz : w.heap.size ≤ w4.heap.size := (hE3.trans hE4).size
  have hb2w := rb2.lt
  have h1w := (q3.ext hE4).lt
  have hbsw : w.heap.size ≤ bs := by omega
  replace hP4 := hide hP4
  replace hit := hide hit
  replace hW3 := hide hW3
  replace hh1 := hide hh1
  clear q1 q2 q3 hE3 hE4 rb1 rb2 hsz3
  gi_wp2_with fail
  unfold FrIter at hit
  refine range_all (gf := 151) (lb := #[.pointer (some ⟨b1, 0, none⟩), .pointer (some ⟨b2, 0, none⟩)]) rfl (enters_of Tryz.func151 (by kernel_rfl) rfl) hit.out (fun _ => rfl) (fun _ _ h => h.others) ?fin (KeepS.trans h1 _) ?kb
    (fun pre W => SpI h1 bs b1 b2 (.slice A n c) w pre W) (fun pre A B h ha => h.alike ha hwsz) (fun pre A B h hE => h.ext hE) ?h0 ?hround ?hdone
  case fin =>
    rintro xs A B (⟨_, hE⟩ | ⟨k, W3, _, _, hE, rfl⟩)
    · exact hE.others
    · exact hE.others.trans (KeepsOthers.setCell _ _ _)
  case kb => exact KeepS.alike (by omega) (fun k hk => by omega)
  case h0 => exact fun W ha => hP4.out.alike ha hwsz
  case hround =>
    rintro l pre ⟨P, cp, p, z⟩ W hI ⟨hpk, r, hsp⟩
    unfold Pay.val
    simp only
    obtain ⟨pl, hpl⟩ : ∃ pl, pl = p.length := ⟨_, rfl⟩
    rw [← hpl]
    replace hpl := hide hpl
    replace hI := hide hI
    replace hpk := hide hpk
    replace hsp := hide hsp
    gi_wp2_with fail
    refine ⟨KeepsOthers.refl _, KeepS.refl _ _ _, fun W2 hA2 => ?_⟩
    have hI2 := hI.out.alike hA2 hwsz
    have hpk2 := hide (hpk.out.alike hA2)
    clear hA2 hI hpk
    obtain ⟨L, cl, z0, r1, r2, r3, hb, hp, g1, g2, he, hs2⟩ := hI2
    have hpre : pre.length ≤ 4000000000 := by
      have h1 := splitF_count b
      rw [hsp.out] at h1
      simp only [pays, List.length_append, List.length_map, List.length_cons] at h1
      have := h.out.len
      omega
    have k1 := r1.cell 0 rfl
    have hba := hide (hb.alloc (.cells #[.slice P pl cp] 25))
    have hxa := hide (new_cells W2 [.slice P pl cp] 25)
    have hsa : bs ≤ (W2.alloc (.cells #[.slice P pl cp] 25)).heap.size := by rw [World.size_alloc]; omega
    obtain ⟨m, hm⟩ : ∃ m, m = pre.length := ⟨_, rfl⟩
    rw [← hm] at hpre k1 hba r1 hb
    replace hm := hide hm
    replace r1 := hide r1
    replace r2 := hide r2
    replace r3 := hide r3
    replace hb := hide hb
    replace hp := hide hp
    replace g1 := hide g1
    replace g2 := hide g2
    replace he := hide he
    obtain ⟨Wa, hWa⟩ : ∃ Wa, Wa = W2.alloc (.cells #[.slice P pl cp] 25) := ⟨_, rfl⟩
    have hEa : Ext W2 Wa := by rw [hWa]; exact (Ext.refl W2).alloc _
    have hea := hide hEa
    have ra1 := hide (r1.out.ext hEa)
    have ra2 := hide (r2.out.ext hEa)
    rw [← hWa] at hba hxa hsa
    replace hWa := hide hWa
    clear hEa
    gi_wp2_with (gi_at_builtin; rw [← hWa.out]; refine wpListIn_buf elemLL hba.out hxa.out (.tmp 11) (.tmp 13) rfl rfl rfl rfl rfl rfl (by simp [Value.oneCell']) (by omega) hsa (fun A6 c6 w6 hb6 hg6 hx6 hl6 => ?_); have r16 := grown_row hba.out hg6 ra1.out (by decide); have r26 := grown_row hba.out hg6 ra2.out (by decide); have u1 := r16.cell 0 rfl; have u2 := r16.free 0; have r27 := r26.away (p := ⟨h1, 0, none⟩) (by simp) (.slice A6 (m + 1) c6); have u3 := r27.cell 0 rfl; have u4 := r27.free 0; replace r16 := hide r16; replace r26 := hide r26; replace r27 := hide r27; replace hb6 := hide hb6; replace hg6 := hide hg6; replace hx6 := hide hx6; replace hl6 := hide hl6)
    have hlow : ∀ k, k < h1 + 3 ∨ k = b1 ∨ k = b2 → k ≠ h1 → k ≠ h1 + 1 → ((w6.setCell ⟨h1, 0, none⟩ (.slice A6 (m + 1) c6)).setCell ⟨h1 + 1, 0, none⟩ (.int .i64 z)).heap[k]? = W2.heap[k]? := fun k hk n1 n2 => by
      have hkb : k < bs := by omega
      rw [Below.heap_setCell _ _ _ k n2, Below.heap_setCell _ _ _ k n1, grown_low hba.out hg6.out hkb (by omega)]
      exact Below.block hea.out k (by omega)
    have hxt : ∀ w0 : World, w0.heap.size ≤ h1 → Ext w0 W2 → Ext w0 ((w6.setCell ⟨h1, 0, none⟩ (.slice A6 (m + 1) c6)).setCell ⟨h1 + 1, 0, none⟩ (.int .i64 z)) := fun w0 h0 hE => ((hx6.out w0 (hE.trans hea.out) (by omega)).setCell (p := ⟨h1, 0, none⟩) h0 _).setCell (p := ⟨h1 + 1, 0, none⟩) (by show w0.heap.size ≤ h1 + 1; omega) _
    have hs6 := hg6.out.size
    have hbz : Buf ((w6.setCell ⟨h1, 0, none⟩ (.slice A6 (m + 1) c6)).setCell ⟨h1 + 1, 0, none⟩ (.int .i64 z)) bs 25 A6 (m + 1) c6 (pre.map Pay.val ++ [.slice P pl cp]) := by
      have q := hb6.out.setCell (p := ⟨h1, 0, none⟩) (hb6.out.unlike r16.out (by decide)) (.slice A6 (m + 1) c6)
      exact q.setCell (p := ⟨h1 + 1, 0, none⟩) (q.unlike r27.out (by decide)) _
    have hpz : ∀ x ∈ pre ++ [(P, cp, p, z)], PayOk ((w6.setCell ⟨h1, 0, none⟩ (.slice A6 (m + 1) c6)).setCell ⟨h1 + 1, 0, none⟩ (.int .i64 z)) x := fun x hx => by
      have hx2 : PayOk W2 x := by
        rcases List.mem_append.1 hx with h | h
        · exact hp.out x h
        · rw [List.mem_singleton.1 h]; exact hpk2.out
      exact (((hx2.ext hea.out).grown hba.out hg6.out (by decide)).set r16.out (by decide) 0 _).set r27.out (by decide) 0 _
    refine ⟨((hea.out.others.trans (grown_others hba.out hg6.out)).trans (KeepsOthers.setCell _ _ _)).trans (KeepsOthers.setCell _ _ _), ⟨hxt, fun k hk o ho => ?_⟩, A6, c6, z, ?_, ?_, ?_, ?_, hpz, ?_, ?_, hxt w (by have := hh1.out; omega) he.out, ?_⟩
    · rw [hlow k (by omega) (by omega) (by omega)]; exact ho
    · rw [List.length_append, ← hm.out]; exact (r16.out.put 0 _).away (by simp) _
    · exact r27.out.put 0 _
    · unfold Row; rw [hlow _ (by omega) (by omega) (by omega)]; exact r3.out
    · rw [List.length_append, ← hm.out, List.map_append]; unfold Pay.val; simp only [List.map_cons, List.map_nil]; rw [← hpl.out]; exact hbz
    · unfold Row; rw [hlow _ (by omega) (by omega) (by omega)]; exact g1.out
    · unfold Row; rw [hlow _ (by omega) (by omega) (by omega)]; exact g2.out
    · simp; omega
  case hdone =>
    rintro D xs W2 W3 W4 hD hI hF hA hk
    have hI4 : ∃ L c z, Row W4 h1 109 #[.slice L xs.length c] ∧ Row W4 (h1 + 1) 3 #[.int .i64 z] ∧ Row W4 (h1 + 2) 26 #[.int .i64 ((splitF b).2 : Int)] ∧ Buf W4 bs 25 L xs.length c (xs.map Pay.val) ∧ (∀ x ∈ xs, PayOk W4 x) ∧ Ext w W4 ∧ pays xs = (splitF b).1 := by
      rcases hF with ⟨hs, hE⟩ | ⟨k, W5, hk0, hs, hE, rfl⟩
      · obtain ⟨L, c, z, r1, r2, r3, hb, hp, q1, q2, he, hs2⟩ := (hI.ext hE).alike hA hwsz
        rw [hs]
        exact ⟨L, c, z, r1, r2, r3, hb, hp, he, rfl⟩
      · obtain ⟨L, c, z, r1, r2, r3, hb, hp, q1, q2, he, hs2⟩ := hI.ext hE
        rw [hs]
        refine ⟨L, c, z, hA.row (r1.away (by simp) _), hA.row (r2.away (by simp) _), hA.row (r3.put 0 _), hA.buf (hb.setCell (hb.unlike r3 (by decide)) _), fun x hx => ((hp x hx).set r3 (by decide) 0 _).alike hA, hA.ext (he.setCell (by show w.heap.size ≤ h1 + 2; have := hh1.out; omega) _) hwsz, rfl⟩
    obtain ⟨L, cl, z, r1, r2, r3, hb, hp, he, hps⟩ := hI4
    have k1 := r1.cell 0 rfl
    have k2 := r2.cell 0 rfl
    have k3 := r3.cell 0 rfl
    have f1 := r1.free 0
    have f2 := r2.free 0
    have f3 := r3.free 0
    obtain ⟨m, hm⟩ : ∃ m, m = xs.length := ⟨_, rfl⟩
    rw [← hm] at r1 k1 hb
    obtain ⟨ec, hec⟩ : ∃ ec, ec = (splitF b).2 := ⟨_, rfl⟩
    rw [← hec] at r3 k3
    replace r1 := hide r1
    replace r2 := hide r2
    replace r3 := hide r3
    replace hb := hide hb
    replace hp := hide hp
    replace he := hide he
    replace hm := hide hm
    replace hec := hide hec
    replace hps := hide hps
    replace hk := hide hk
    clear hI hF hA
    gi_wp2_with fail
    refine wpIn_wide.2 ?_
    go_region
    rw [show h1 + 1 + 1 = h1 + 2 from rfl, r1.out.same rfl, r2.out.same rfl, r3.out.same rfl]
    gi_wp2_with fail
    have hk6 : W4.drew.heap[D]? = some (.deferred (some [])) := hk.out
    refine leave_mark (B := w4.heap.size) rfl hk6 hD fun W ha => ⟨_, results_cells3 rfl _ _ rfl rfl rfl (run_loadVar_cell ((ha.row r1.out).cell 0 rfl) Tryz.underlying109 rfl) (run_loadVar_cell ((ha.row r2.out).cell 0 rfl) Tryz.underlying3 rfl) (run_loadVar_cell ((ha.row r3.out).cell 0 rfl) Tryz.underlying26 rfl), L, cl, z, xs, ?_, ?_, hps.out, ?_, ?_⟩
    · rw [← hm.out, ← hec.out]; rfl
    · exact (ha.buf hb.out.drew).cells
    · exact fun x hx => ((hp.out x hx).ext (Ext.refl W4).drew).alike ha
    · exact ha.ext he.out.drew hwsz
end
section
open Go.RowKit
attribute [local go_sem] Oper.semAt_some wide_depth wide_fn
theorem cat_by (a b : List UInt8) : (ByteArray.mk a.toArray ++ ByteArray.mk b.toArray) = ⟨(a ++ b).toArray⟩ := by
  apply ByteArray.ext
  rw [ByteArray.data_append]
  simp
set_option maxRecDepth 100000 in
theorem elemTm : Elem Tryz.prog 148 150 2 40 := ⟨Tryz.underlying148, ⟨_, _, rfl, rfl, rfl, rfl, rfl⟩, by omega, by omega⟩
theorem tcs_snoc (D : List TmV) (x : TmV) : tcs (D ++ [x]) = tcs D ++ tcell x := by
  unfold tcs
  rw [List.flatMap_append]
  simp
def oneT (l : List (List UInt8 × Int)) : List (List UInt8 × List Int) := l.map fun p => (p.1, [p.2])
theorem oneT_snoc (l : List (List UInt8 × Int)) (p : List UInt8 × Int) : oneT (l ++ [p]) = oneT l ++ [(p.1, [p.2])] := by unfold oneT; rw [List.map_append]; rfl
section
variable {w w1 w0 : World} {base n : Nat} {e : TypeId} {size : Nat} {v : Value} {xs : List Value}
theorem og_row (ho : w.ownsRow base e size v n xs) (hg : w.grownBy w1 v.ownBlock) {g : Nat} {t : TypeId} {cs : Array Value} (hr : Row w g t cs) (ht : t ≠ e) : Row w1 g t cs :=
  hr.grown hg fun h => by
    obtain ⟨cur, hc, _⟩ := owns_row ho h.symm
    exact hr.unlike hc ht rfl
theorem og_others (ho : w.ownsRow base e size v n xs) (hg : w.grownBy w1 v.ownBlock) : KeepsOthers w w1 :=
  KeepsOthers.of_grownBy hg fun j o hj hjo => by
    obtain ⟨cur, hc, _⟩ := owns_row ho hj
    unfold Row at hc
    rw [hc] at hjo
    injection hjo with hjo
    subst hjo
    rfl
theorem og_ext (ho : w.ownsRow base e size v n xs) (hg : w.grownBy w1 v.ownBlock) (hE : Ext w0 w) (hb : w0.heap.size ≤ base) : Ext w0 w1 :=
  hE.grown hg fun k hk => by obtain ⟨_, _, hl⟩ := owns_row ho hk; omega
theorem og_buf (ho : w.ownsRow base e size v n xs) (hg : w.grownBy w1 v.ownBlock) {b : Nat} {t : TypeId} {A : Option Addr} {m c : Nat} {ys : List Value} (hb : Buf w b t A m c ys) (ht : t ≠ e) : Buf w1 b t A m c ys :=
  hb.grown hg fun a ha h => by
    obtain ⟨cur, hc, _⟩ := owns_row ho h
    exact hb.unlike hc ht a ha rfl
end
theorem tokL_each {l x : List UInt8} (h : x ∈ tokL l) : x.length ≤ 32 := by
  unfold tokL at h
  obtain ⟨y, _, rfl⟩ := List.mem_map.1 h
  exact cutW_len y [] (by simp)
theorem fieldT_at {base : Nat} {f : Fd} {i : Nat} {x : List UInt8} (hx : (tokL f.2)[i]? = some x) : (fieldT base f)[i]? = some (f.1 ++ 58 :: x, ((base + i : Nat) : Int)) := by
  unfold fieldT
  rw [List.getElem?_map, List.getElem?_zipIdx, hx]
  simp
theorem rawT_len {k : Nat} : ∀ (fs : List Fd) (b : Nat), (∀ f ∈ fs, f.2.length ≤ k) → (rawT b fs).length ≤ k * fs.length
  | [], b, _ => by simp [rawT]
  | f :: fs, b, h => by
    have h1 := rawT_len fs (nextT b f) fun g hg => h g (List.mem_cons_of_mem _ hg)
    have h2 := tokL_len f.2
    have h3 := h f (List.mem_cons_self ..)
    unfold rawT
    rw [List.length_append, fieldT_len, List.length_cons, Nat.mul_add]
    omega
theorem baseT_le {k : Nat} : ∀ (fs : List Fd) (b : Nat), (∀ f ∈ fs, f.2.length ≤ k) → baseT b fs ≤ b + (64 + k) * fs.length
  | [], b, _ => by simp [baseT]
  | f :: fs, b, h => by
    have h1 := baseT_le fs (nextT b f) fun g hg => h g (List.mem_cons_of_mem _ hg)
    have h2 := tokL_len f.2
    have h3 := h f (List.mem_cons_self ..)
    unfold baseT
    unfold nextT at h1 ⊢
    rw [List.length_cons, Nat.mul_add]
    omega
theorem tkV_at {l : List (List UInt8)} {i : Nat} {x : List UInt8} (hx : l[i]? = some x) {j : Nat} (hj : j < 2) : (tkV l)[i * 2 + j]? = [Value.string ⟨x.toArray⟩, .int .i64 (i : Int)][j]? := by
  unfold tkV
  refine flat_get_of (cellsA := fun p : List UInt8 × Nat => [Value.string ⟨p.1.toArray⟩, .int .i64 (p.2 : Int)]) (k := 2) (fun _ => rfl) l.zipIdx i (x, i) j ?_ hj
  rw [List.getElem?_zipIdx, hx]
  simp
theorem tk_at {w w1 : World} {base n c : Nat} {A : Option Addr} {l : List (List UInt8)} (h : w.ownsRow base 123 2 (.slice A n c) n (tkV l)) (hk : ∀ g cs, Row w g 123 cs → Row w1 g 123 cs) {i : Nat} {x : List UInt8} (hx : l[i]? = some x) :
    ∃ g o, A = some ⟨g, o, none⟩ ∧ w1.cell? ⟨g, o + i * 2, none⟩ = some (.string ⟨x.toArray⟩) ∧ w1.cell? ⟨g, o + i * 2 + 1, none⟩ = some (.int .i64 (i : Int)) := by
  have h0 := tkV_at hx (j := 0) (by omega)
  have h1 := tkV_at hx (j := 1) (by omega)
  rcases h with ⟨hl, ⟨_, h2⟩ | ⟨g, cap, cur, hv, hb, hg, hn, hx', hs, ht⟩⟩
  · have := (List.getElem?_eq_some_iff.1 hx).1
    have h3 : (tkV l).length = l.length * 2 := by unfold tkV; rw [flat_len_of (cellsA := fun p : List UInt8 × Nat => [Value.string ⟨p.1.toArray⟩, .int .i64 (p.2 : Int)]) (k := 2) (fun _ => rfl), List.length_zipIdx]
    omega
  · cases hv
    have key : ∀ (j : Nat) (v : Value), (tkV l)[j]? = some v → w1.cell? ⟨g, j, none⟩ = some v := fun j v hj => by
      rw [(hk g cur hg).get]
      rw [← ht, List.getElem?_take] at hj
      split at hj
      · simpa using hj
      · cases hj
    exact ⟨g, 0, rfl, by rw [Nat.zero_add]; exact key _ _ h0, by rw [Nat.zero_add]; exact key _ _ h1⟩
def TI (base h : Nat) (Z : List (List UInt8 × Int)) (w W : World) : Prop :=
  ∃ L c D, Row W h 148 #[.slice L D.length c] ∧ W.ownsRow base 150 2 (.slice L D.length c) D.length (tcs D) ∧ TmsOk W base D (oneT Z) ∧ Ext w W
theorem TI.ext {base h : Nat} {Z : List (List UInt8 × Int)} {w W W1 : World} (hi : TI base h Z w W) (hE : Ext W W1) : TI base h Z w W1 := by
  obtain ⟨L, c, D, r, o, t, e⟩ := hi
  exact ⟨L, c, D, r.ext hE, hE.owns o, t.ext hE, e.trans hE⟩
theorem TI.alike {base h B : Nat} {Z : List (List UInt8 × Int)} {w W W1 : World} (hi : TI base h Z w W) (ha : Alike B W W1) (hB : w.heap.size ≤ B) : TI base h Z w W1 := by
  obtain ⟨L, c, D, r, o, t, e⟩ := hi
  exact ⟨L, c, D, ha.row r, ha.owns o, t.keep fun _ _ _ _ hb => ha.buf hb, ha.ext e hB⟩
def ptsOf (w : World) (x : Option Addr × Nat × Nat) : List Int := match x.1 with
  | none => []
  | some a => (List.range x.2.1).map fun i => match w.cell? ⟨a.block, a.off + i, none⟩ with
    | some (.int _ z) => z
    | _ => 0
theorem ptsOf_buf {w : World} {base : Nat} {t : TypeId} {A : Option Addr} {n c : Nat} {l : List Int} (h : Buf w base t A n c (l.map IV)) : ptsOf w (A, n, c) = l := by
  have hc := h.cells
  have hl := h.1
  rw [List.length_map] at hl
  unfold ptsOf
  rcases hc with hc | ⟨g, o, rfl, hc⟩
  · have : l = [] := List.map_eq_nil_iff.1 hc
    subst this
    cases A with
    | none => rfl
    | some a =>
      simp only
      simp at hl
      rw [← hl]; rfl
  · simp only
    apply List.ext_getElem?
    intro i
    rw [List.getElem?_map]
    show Option.map _ ((List.range n)[i]?) = _
    by_cases hi : i < n
    · rw [List.getElem?_range hi]
      have hil : i < l.length := by omega
      have := hc i (IV l[i]) (by rw [List.getElem?_map, List.getElem?_eq_getElem hil]; rfl)
      simp only [Option.map_some, this, IV]
      rw [List.getElem?_eq_getElem hil]
    · rw [List.getElem?_eq_none (by rw [List.length_range]; omega), List.getElem?_eq_none (by omega)]
      rfl
end
section
open Go.RowKit
theorem termsL_mem {e : Ev} {p : List UInt8 × List Int} (h : p ∈ termsL e) : checkE e.fs = 0 ∧ p.2 = valsOf (rawT 0 e.fs) p.1 ∧ p.2 ≠ [] := by
  unfold termsL at h
  split at h
  · rename_i h0
    exact ⟨h0, ((grp_ok _).mem p).1 h⟩
  · cases h
theorem rawT_mem : ∀ (fs : List Fd) (b : Nat) (q : List UInt8 × Int), q ∈ rawT b fs → ∃ f ∈ fs, ∃ w ∈ tokL f.2, q.1 = f.1 ++ 58 :: w
  | [], b, q, h => by cases h
  | f :: fs, b, q, h => by
    unfold rawT at h
    rcases List.mem_append.1 h with h | h
    · unfold fieldT at h
      obtain ⟨p, hp, rfl⟩ := List.mem_map.1 h
      obtain ⟨w, i⟩ := p
      have := List.mem_zipIdx hp
      exact ⟨f, List.mem_cons_self .., w, by rw [this.2.2]; exact List.getElem_mem _, rfl⟩
    · obtain ⟨g, hg, w, hw, he⟩ := rawT_mem fs _ q h
      exact ⟨g, List.mem_cons_of_mem _ hg, w, hw, he⟩
theorem vals_ne {β : Type} {ps : List (List UInt8 × β)} {s : List UInt8} (h : valsOf ps s ≠ []) : ∃ p ∈ ps, p.1 = s := Decidable.byContradiction fun hn => h (vals_none fun p hp e => hn ⟨p, hp, e⟩)
theorem vals_len {β : Type} (ps : List (List UInt8 × β)) (s : List UInt8) : (valsOf ps s).length ≤ ps.length := by
  unfold valsOf
  rw [List.length_map]
  exact List.length_filter_le ..
theorem termsL_key {e : Ev} {p : List UInt8 × List Int} (h : p ∈ termsL e) : 1 ≤ p.1.length ∧ p.1.length ≤ 65 := by
  obtain ⟨h0, h1, h2⟩ := termsL_mem h
  rw [h1] at h2
  obtain ⟨q, hq, hqp⟩ := vals_ne h2
  obtain ⟨f, hf, w, hw, he⟩ := rawT_mem _ _ q hq
  have hf2 := (checkE_fs h0).2 f hf
  have hw2 := tokL_each hw
  rw [← hqp, he, List.length_append, List.length_cons]
  omega
theorem termsL_pl {e : Ev} {p : List UInt8 × List Int} (h : p ∈ termsL e) : p.2.length ≤ 65536 := by
  obtain ⟨h0, h1, h2⟩ := termsL_mem h
  have h3 := vals_len (rawT 0 e.fs) p.1
  have h4 := rawT_len (k := 4096) e.fs 0 fun f hf => ((checkE_fs h0).2 f hf).2
  have h5 := (checkE_fs h0).1
  rw [h1]
  omega
theorem addG_len {β : Type} (p : List UInt8 × β) : ∀ (l : List (List UInt8 × List β)), (addG p l).length ≤ l.length + 1
  | [] => by simp [addG]
  | x :: xs => by
    have := addG_len p xs
    unfold addG
    split
    · simp only [List.length_cons]; omega
    · split
      · simp only [List.length_cons]; omega
      · simp only [List.length_cons]; omega
theorem foldG_len {β : Type} : ∀ (ps : List (List UInt8 × β)) (l : List (List UInt8 × List β)), (ps.foldl (fun l p => addG p l) l).length ≤ l.length + ps.length
  | [], l => by simp
  | p :: ps, l => by
    have h1 := foldG_len ps (addG p l)
    have h2 := addG_len p l
    rw [List.foldl_cons, List.length_cons]
    omega
theorem grp_len {β : Type} (ps : List (List UInt8 × β)) : (grp ps).length ≤ ps.length := by
  have := foldG_len ps []
  unfold grp
  simpa using this
theorem termsL_len (e : Ev) : (termsL e).length ≤ 65536 := by
  unfold termsL
  split
  · rename_i h0
    have h3 := grp_len (rawT 0 e.fs)
    have h4 := rawT_len (k := 4096) e.fs 0 fun f hf => ((checkE_fs h0).2 f hf).2
    have h5 := (checkE_fs h0).1
    omega
  · simp
end
section
open Go.RowKit Go.Maps
theorem tms_bd {D : List TmC} {X : List (List UInt8 × Int)} {L : Nat} (h : tmR D = grp X) (hX : X.length ≤ L) : D.length ≤ L ∧ ∀ x ∈ D, x.pos.length ≤ L := by
  have h1 := grp_len X
  rw [← h] at h1
  unfold tmR at h1
  rw [List.length_map] at h1
  refine ⟨by omega, fun x hx => ?_⟩
  have h2 : x.tm ∈ grp X := by rw [← h]; exact List.mem_map.2 ⟨x, hx, rfl⟩
  have h3 := ((grp_ok X).mem x.tm).1 h2
  have h4 := vals_len X x.tm.1
  rw [← h3.1] at h4
  exact Nat.le_trans h4 hX
theorem AddA.nil {w w' : World} {R : List (List UInt8 × List Int)} (hR : R = []) (hE : Ext w w') : AddA w R (.returned (.slice none 0 0)) w' := ⟨[], none, 0, 0, rfl, hR.symm, TmsR.nil _, hE⟩
theorem rawT_take {fs : List Fd} {i : Nat} {f : Fd} (h : fs[i]? = some f) : rawT 0 (fs.take (i + 1)) = rawT 0 (fs.take i) ++ fieldT (baseT 0 (fs.take i)) f ∧ baseT 0 (fs.take (i + 1)) = baseT 0 (fs.take i) + (tokL f.2).length + 64 := by
  rw [List.take_add_one, h]
  refine ⟨?_, ?_⟩
  · rw [rawT_app]
    show _ ++ (fieldT _ f ++ []) = _
    rw [List.append_nil]
  · rw [baseT_app]
    show nextT _ f = _
    unfold nextT
    omega
set_option maxRecDepth 100000 in
set_option maxHeartbeats 4000000 in
theorem rterms_any (e : Ev) (A : Option Addr) (c : Nat) (w : World) (h : e.Ok w A) : Calls Tryz.prog 12 #[e.val A c] w fun en w' => AddA w (termsL e) en w' := by
  obtain ⟨at_, fs⟩ := e
  unfold Ev.val
  simp only
  obtain ⟨n, hn⟩ : ∃ n, n = fs.length := ⟨_, rfl⟩
  rw [← hn]
  have hE1 : Ext w (w.alloc (.cells #[.int .i64 at_, .slice A n c] 37)) := (Ext.refl w).alloc _
  have hr1 : Row (w.alloc (.cells #[.int .i64 at_, .slice A n c] 37)) w.heap.size 37 #[.int .i64 at_, .slice A n c] := Row.new w _ _
  have hck := recheck_any ⟨at_, fs⟩ A c (w.alloc (.cells #[.int .i64 at_, .slice A n c] 37)) (h.ext hE1)
  unfold Ev.val at hck
  simp only at hck
  rw [← hn] at hck
  obtain ⟨Z, hZ⟩ : ∃ Z, Z = termsL ⟨at_, fs⟩ := ⟨_, rfl⟩
  rw [← hZ]
  unfold termsL at hZ
  simp only at hZ
  obtain ⟨q, hq⟩ : ∃ q, q = checkE fs := ⟨_, rfl⟩
  rw [← hq] at hck
  have y0 := hr1.cell 0 rfl
  have y1 := hr1.cell 1 rfl
  replace hck := hide hck
  replace hn := hide hn
  by_cases hq0 : q = 0
  · have hchk := checkE_fs (fs := fs) (by rw [← hq]; exact hq0)
    rw [if_pos (by rw [← hq]; exact hq0)] at hZ
    have hn16 : n ≤ 16 := by rw [hn.out]; exact hchk.1
    have htl : ∀ f ∈ fs, f.2.length ≤ 4096 := fun f hf => (hchk.2 f hf).2
    have hraw := rawT_len (k := 4096) fs 0 htl
    have hbas := fun i => baseT_le (k := 4096) (fs.take i) 0 fun f hf => htl f (List.mem_of_mem_take hf)
    have hrt := fun i => rawT_len (k := 4096) (fs.take i) 0 fun f hf => htl f (List.mem_of_mem_take hf)
    have hadd := hide (fun D A n c s z W (h : TmsR W A n c D) (hs : s.length ≤ 9223372036854775807) (hn9 : n ≤ 1000000) (hpl : ∀ x ∈ D, x.pos.length ≤ 1000000) => radd_any D A n c s z W h hs hn9 hpl)
    have htok := hide (fun l W (hl : l.length ≤ 1000000000) => rtokens_any l W hl)
    have hfl := hide (fun f (hf : f ∈ fs) => hchk.2 f hf)
    replace hZ := hide hZ
    replace hq := hide hq
    replace hbas := hide hbas
    replace hrt := hide hrt
    replace h := hide h
    subst hq0
    clear hraw hchk htl
    go_enter Tryz.func12, Tryz.ntmps12
    go_wp2_with fail
    refine hck.out.mono ?_
    rintro e w1 ⟨rfl, hE01⟩
    have hr2 := hide (hr1.ext hE01)
    have hE02 := hide (hE1.trans hE01)
    obtain ⟨ge, hge⟩ : ∃ ge, ge = w.heap.size := ⟨_, rfl⟩
    rw [← hge] at hr2
    clear y0 y1 hr1 hE01
    go_wp2_with fail
    rw [← hge]
    replace hge := hide hge
    go_loopw [3, 4, 5] (fun s3 s4 s5 wr => ∃ (i n' c' bs : Nat) (D : List TmC) (A' : Option Addr), s3 = .slice A' n' c' ∧ s4 = .int .i64 (bs : Int) ∧ s5 = .int .i64 (i : Int) ∧ i ≤ n ∧ Hid (bs = baseT 0 (fs.take i)) ∧ Hid (tmR D = grp (rawT 0 (fs.take i))) ∧ Hid (TmsR wr A' n' c' D) ∧ Hid (Ext w1 wr)) (fun _ _ s5 _ => n - (intOf s5).toNat)
    case atStart => exact ⟨0, 0, 0, 0, [], none, rfl, rfl, rfl, by omega, hide rfl, hide rfl, hide (TmsR.nil _), hide (Ext.refl _)⟩
    case round =>
      obtain ⟨i, n', c', bs, D, A', rfl, rfl, rfl, hi, hbs, hD, hT, hE⟩ := hrel
      have y1 : wr.cell? ⟨ge, 1, none⟩ = some (.slice A n c) := (hr2.out.ext hE.out).cell 1 rfl
      have hbb := hbas.out i
      rw [← hbs.out, List.length_take] at hbb
      by_cases hin : i < n
      · obtain ⟨f, hf⟩ : ∃ f, fs[i]? = some f := ⟨_, List.getElem?_eq_getElem (by rw [← hn.out]; exact hin)⟩
        have hff := hfl.out f (List.mem_of_getElem? hf)
        obtain ⟨g, o, hA, j0, j1⟩ := fcells_at (h.out.cells.ext (hE02.out.trans hE.out)) hf
        have hrs := rawT_take hf
        obtain ⟨nm, tx⟩ := f
        simp only at hff j0 j1 hrs
        unfold strV at j0 j1
        have htk := htok.out tx wr (by omega)
        have htl := tokL_len tx
        have htf := fun x hx => tokL_each (l := tx) (x := x) hx
        obtain ⟨T, hTd⟩ : ∃ T, T = tokL tx := ⟨_, rfl⟩
        rw [← hTd] at htk hrs htl htf
        unfold NewTk at htk
        obtain ⟨nt, hnt⟩ : ∃ nt, nt = T.length := ⟨_, rfl⟩
        rw [← hnt] at htk hrs htl
        rw [← hbs.out] at hrs
        obtain ⟨wo, rfl⟩ : ∃ wo, wo = wr := ⟨_, rfl⟩
        have hjj := hide (fun W (hE : Ext wo W) => hE.cell j0)
        have hyy := hide (fun W (hE : Ext wo W) => hE.cell y1)
        subst hA
        replace htk := hide htk
        replace hTd := hide hTd
        replace hnt := hide hnt
        replace htf := hide htf
        replace hrs := hide hrs
        replace hbs := hide hbs
        go_wp2_with fail
        refine htk.out.mono ?_
        rintro e wt ⟨AT, cT, rfl, hoT, hEt⟩
        have hcT := hide (Cells.of_own hoT)
        have hTt := hide (hT.out.ext hEt)
        have hEo := hide (hE.out.trans hEt)
        clear hoT j0 j1 y1 hT
        replace hEt := hide hEt
        go_wp2_with fail
        go_loopw [3, 7] (fun s3 s7 wi => ∃ (k n2 c2 : Nat) (D2 : List TmC) (A2 : Option Addr), s3 = .slice A2 n2 c2 ∧ s7 = .int .i64 (k : Int) ∧ k ≤ nt ∧ Hid (tmR D2 = grp (rawT 0 (fs.take i) ++ (fieldT bs (nm, tx)).take k)) ∧ Hid (TmsR wi A2 n2 c2 D2) ∧ Hid (Ext wt wi)) (fun _ s7 _ => nt - (intOf s7).toNat)
        case atStart => exact ⟨0, n', c', D, A', rfl, rfl, by omega, hide (by rw [List.take_zero, List.append_nil]; exact hD.out), hTt, hide (Ext.refl _)⟩
        case round =>
          clear hTt
          obtain ⟨k, n2, c2, D2, A2, rfl, rfl, hk, hD2, hT2, hE2⟩ := hrel
          by_cases hkn : k < nt
          · obtain ⟨x, hx⟩ : ∃ x, T[k]? = some x := ⟨_, List.getElem?_eq_getElem (by rw [← hnt.out]; exact hkn)⟩
            have hxl := htf.out x (List.mem_of_getElem? hx)
            have h0 := tkV_at hx (j := 0) (by omega)
            have h1 := tkV_at hx (j := 1) (by omega)
            obtain ⟨g2, o2, hAT, hct⟩ := (hcT.out.ext hE2.out).at_ (by have := (List.getElem?_eq_some_iff.1 h0).1; omega)
            have l0 : wr.cell? ⟨g2, o2 + k * 2, none⟩ = some (.string ⟨x.toArray⟩) := by
              have := hct _ _ h0
              exact this
            have l1 : wr.cell? ⟨g2, o2 + k * 2 + 1, none⟩ = some (.int .i64 (k : Int)) := by
              have := hct _ _ h1
              rw [Nat.add_assoc]
              exact this
            have hfa := fieldT_at (base := bs) (f := (nm, tx)) (i := k) (x := x) (by rw [← hTd.out]; exact hx)
            simp only at hfa
            obtain ⟨S, hS⟩ : ∃ S, S = nm ++ 58 :: x := ⟨_, rfl⟩
            rw [← hS] at hfa
            have hSl : S.length ≤ 9223372036854775807 := by rw [hS, List.length_append, List.length_cons]; omega
            have hcat : ByteArray.mk nm.toArray ++ ByteArray.mk #[58] ++ ByteArray.mk x.toArray = ⟨S.toArray⟩ := by
              have h1 := cat_by nm [58]
              have h2 := cat_by (nm ++ [58]) x
              rw [hS, h1, h2]
              simp
            have hX : (rawT 0 (fs.take i) ++ (fieldT bs (nm, tx)).take k).length ≤ 100000 := by
              have a1 := hrt.out i
              rw [List.length_take] at a1
              rw [List.length_append, List.length_take, fieldT_len]
              have a2 := tokL_len tx
              omega
            obtain ⟨hb1, hb2⟩ := tms_bd hD2.out hX
            have hn2 : n2 ≤ 1000000 := by rw [hT2.out.len]; omega
            have hcall := hadd.out D2 A2 n2 c2 S ((bs : Int) + (k : Int)) wr.drew (hT2.out.ext (Ext.refl wr).drew) hSl hn2 (fun y hy => by have := hb2 y hy; omega)
            have hnx : addG (S, (bs : Int) + (k : Int)) (tmR D2) = grp (rawT 0 (fs.take i) ++ (fieldT bs (nm, tx)).take (k + 1)) := by
              rw [hD2.out, ← grp_snoc, List.append_assoc, List.take_add_one, hfa]
              rfl
            rw [hnx] at hcall
            have hEi := hEt.out.trans hE2.out
            have y1 := hyy.out wr hEi
            have j0 := hjj.out wr hEi
            subst hAT
            replace hcall := hide hcall
            replace hcat := hide hcat
            clear hct h0 h1 hfa hnx hb1 hb2 hX hx
            replace hS := hide hS
            go_wp2_with fail
            refine wp_region_text follows (by kernel_rfl) (by kernel_rfl) (fun K hK => ?_)
            go_wp2_with fail
            rw [hcat.out]
            refine hcall.out.mono ?_
            rintro e w5 ⟨D5, A5, n5, c5, rfl, hD5, hT5, hE5⟩
            have hD5 := hide hD5
            have hT5 := hide hT5
            have hE25 := hide (hE2.out.trans ((Ext.refl _).drew.trans hE5))
            clear l0 l1 y1 j0
            go_wp2_with fail
            refine ⟨by kernel_rfl, ?_⟩
            go_wp2_with fail
            go_roundw
            case rel => exact ⟨k + 1, n5, c5, D5, A5, rfl, by go_num, by omega, hD5, hT5, hE25⟩
            case measure => simp only [intOf]; omega
          · obtain rfl : k = nt := by omega
            have hall : (fieldT bs (nm, tx)).take k = fieldT bs (nm, tx) := List.take_of_length_le (by rw [fieldT_len]; simp only; rw [← hTd.out, ← hnt.out]; exact Nat.le_refl _)
            have hD3 := hide (show tmR D2 = grp (rawT 0 (fs.take (i + 1))) by rw [hD2.out, hall, hrs.out.1])
            have hbz : ((bs + k + 64 : Nat) : Int) = (bs : Int) + (k : Int) + 64 := by omega
            have hE3 := hide (hEo.out.trans hE2.out)
            clear hall
            go_wp2_with fail
            go_roundw
            case rel => exact ⟨i + 1, n2, c2, bs + k + 64, D2, A2, rfl, by rw [hbz], by go_num, by omega, hide hrs.out.2.symm, hD3, hT2, hE3⟩
            case measure => simp only [intOf]; omega
      · obtain rfl : i = n := by omega
        have hfin := hide (show tmR D = Z by rw [hD.out, hZ.out, hn.out, List.take_length])
        go_wp2_with fail
        go_ret
        exact ⟨D, A', n', c', rfl, hfin.out, hT.out, hE02.out.trans hE.out⟩
  · rw [if_neg (by rw [← hq]; exact hq0)] at hZ
    have hne : ((q : Int) != 0) = true := by simp; omega
    replace hZ := hide hZ
    replace hq := hide hq
    go_enter Tryz.func12, Tryz.ntmps12
    go_wp2_with fail
    refine hck.out.mono ?_
    rintro e w1 ⟨rfl, hE01⟩
    go_wp2_with fail
    go_ret
    exact AddA.nil hZ.out (hE1.trans hE01)
end
section
open Go.RowKit Go.Maps
open Go
structure MapL (P : Program) (k : TypeId) (w : World) (m : Nat) (L : List (Value × Value)) : Prop where
  ex : ∃ es clock, w.heap[m]? = some (.map es clock) ∧ es.toList.map (fun e => (e.key, e.val)) = L ∧ es.toList.Pairwise (fun a b => a.born ≠ b.born) ∧ ∀ e ∈ es.toList, e.born < clock
  keys : ∀ p ∈ L, ∃ l, keyOf P k p.1 = some l
  nodup : (L.map Prod.fst).Nodup
section
variable {P : Program} {k : TypeId} {w w1 : World} {m : Nat} {L : List (Value × Value)}
theorem MapL.keep (h : MapL P k w m L) (hb : w1.heap[m]? = w.heap[m]?) : MapL P k w1 m L := by
  obtain ⟨⟨es, cl, h1, h2⟩, h3, h4⟩ := h
  exact ⟨⟨es, cl, hb.trans h1, h2⟩, h3, h4⟩
theorem MapL.lt (h : MapL P k w m L) : m < w.heap.size := by
  obtain ⟨⟨es, cl, h1, _⟩, _⟩ := h
  exact (Array.getElem?_eq_some_iff.1 h1).1
theorem MapL.ext (h : MapL P k w m L) (he : Ext w w1) : MapL P k w1 m L := h.keep (Below.block he m h.lt)
theorem MapL.grown {row : Option Nat} (h : MapL P k w m L) (hg : w.grownBy w1 row) (hne : row ≠ some m) : MapL P k w1 m L := h.keep (hg.block m h.lt (fun e => hne e.symm))
theorem MapL.drew (h : MapL P k w m L) : MapL P k w.drew m L := h.keep rfl
theorem MapL.alloc (h : MapL P k w m L) (o : Obj) : MapL P k (w.alloc o) m L := h.keep (Below.heap_alloc w o m h.lt)
theorem MapL.made (w : World) : MapL P k (w.alloc (.map #[] 0)) w.heap.size [] :=
  ⟨⟨#[], 0, heap_alloc_new w _, rfl, List.Pairwise.nil, by simp⟩, by simp, by simp⟩
theorem MapL.unique {x u v : Value} (h : MapL P k w m L) (hu : (x, u) ∈ L) (hv : (x, v) ∈ L) : u = v := by
  have hn := h.nodup
  clear h
  induction L with
  | nil => cases hu
  | cons p L ih =>
    simp only [List.map_cons, List.nodup_cons] at hn
    rcases List.mem_cons.1 hu with h1 | h1 <;> rcases List.mem_cons.1 hv with h2 | h2
    · rw [← h1] at h2; exact (Prod.mk.inj h2).2.symm
    · exfalso; apply hn.1; rw [← h1]; exact List.mem_map.2 ⟨_, h2, rfl⟩
    · exfalso; apply hn.1; rw [← h2]; exact List.mem_map.2 ⟨_, h1, rfl⟩
    · exact ih h1 h2 hn.2
theorem MapL.find (h : MapL P k w m L) (K : Keyed P k) {x : Value} {l : Lit} (hx : keyOf P k x = some l) {es : Array MapEntry} {cl : Nat} (hb : w.heap[m]? = some (.map es cl)) (W : World) :
    ((Instr.findKey k x es.toList).run P W = .ok none W ∧ ∀ p ∈ L, p.1 ≠ x) ∨
    ∃ j e, (Instr.findKey k x es.toList).run P W = .ok (some (j, e.val)) W ∧ es[j]? = some e ∧ e.key = x ∧ (x, e.val) ∈ L := by
  obtain ⟨⟨es', cl', h1, h2, _⟩, h3, _⟩ := h
  rw [hb] at h1
  cases h1
  have hk : ∀ e ∈ es.toList, ∃ l, keyOf P k e.key = some l := fun e he => h3 (e.key, e.val) (by rw [← h2]; exact List.mem_map.2 ⟨e, he, rfl⟩)
  rcases K.find W hx es.toList hk with ⟨hr, hno⟩ | ⟨j, e, hr, hj, he⟩
  · refine .inl ⟨hr, fun p hp => ?_⟩
    rw [← h2] at hp
    obtain ⟨e, he, rfl⟩ := List.mem_map.1 hp
    exact hno e he
  · refine .inr ⟨j, e, hr, by simpa using hj, he, ?_⟩
    rw [← h2]
    exact List.mem_map.2 ⟨e, List.mem_of_getElem? hj, by rw [he]⟩
theorem MapL.look (h : MapL P k w m L) (K : Keyed P k) {t E : TypeId} (ht : P.underlying t = some (.map k E)) {x z : Value} {l : Lit} (hx : keyOf P k x = some l) (hz : (zeroValue E).run P w = .ok z w) (ok : Bool) :
    (∃ v, (x, v) ∈ L ∧ (Instr.lookup t (.map (some m)) x ok).run P w = .ok (if ok then .tuple #[v, .bool true] else v) w) ∨
    ((∀ p ∈ L, p.1 ≠ x) ∧ (Instr.lookup t (.map (some m)) x ok).run P w = .ok (if ok then .tuple #[z, .bool false] else z) w) := by
  obtain ⟨es, cl, hb, _⟩ := h.ex
  have hg : (getObj m).run P w = .ok (.map es cl) w := by simp [getObj, Sem.run, hb]
  rcases h.find K hx hb w with ⟨hr, hno⟩ | ⟨j, e, hr, hj, he, hm⟩
  · refine .inr ⟨hno, ?_⟩
    simp only [Instr.lookup, Sem.run_bind, run_underlying ht, Result.andThen_ok, hg, Sem.run_pure, K.check w es.isEmpty hx, hr, hz]
  · refine .inl ⟨e.val, hm, ?_⟩
    simp only [Instr.lookup, Sem.run_bind, run_underlying ht, Result.andThen_ok, hg, Sem.run_pure, K.check w es.isEmpty hx, hr]
structure Put (L : List (Value × Value)) (x v : Value) (L' : List (Value × Value)) : Prop where
  mem : ∀ p, p ∈ L' ↔ p = (x, v) ∨ (p ∈ L ∧ p.1 ≠ x)
  len : (∃ u, (x, u) ∈ L) ∧ L'.length = L.length ∨ (∀ p ∈ L, p.1 ≠ x) ∧ L'.length = L.length + 1
theorem setObj_run {es : Array MapEntry} {cl : Nat} (hb : w.heap[m]? = some (.map es cl)) (o : Obj) : (setObj m o).run P w = .ok () { w with heap := w.heap.setIfInBounds m o } := by
  simp [setObj, Sem.run, hb]
theorem setObj_heap {o : Obj} (hlt : m < w.heap.size) : ({ w with heap := w.heap.setIfInBounds m o } : World).heap[m]? = some o := by
  simp [hlt]
theorem setObj_grown (o : Obj) : w.grownBy { w with heap := w.heap.setIfInBounds m o } (some m) :=
  ⟨rfl, rfl, rfl, by simp, fun i _ hi => by
    have : m ≠ i := fun e => hi (by rw [e])
    simp [Array.getElem?_setIfInBounds_ne this]⟩
theorem mem_modify {es : Array MapEntry} {j : Nat} {e0 : MapEntry} (hj : es[j]? = some e0) (f : MapEntry → MapEntry) (e : MapEntry) :
    e ∈ (es.modify j f).toList ↔ e = f e0 ∨ ∃ i, i ≠ j ∧ es[i]? = some e := by
  have hlt : j < es.size := (Array.getElem?_eq_some_iff.1 hj).1
  constructor
  · intro h
    obtain ⟨i, hi⟩ := List.mem_iff_getElem?.1 h
    rw [Array.getElem?_toList, Array.getElem?_modify] at hi
    split at hi
    · rename_i he
      subst he
      rw [hj] at hi
      exact .inl (Option.some.inj hi).symm
    · rename_i he
      exact .inr ⟨i, fun h => he h.symm, hi⟩
  · rintro (rfl | ⟨i, hi, he⟩)
    · refine List.mem_iff_getElem?.2 ⟨j, ?_⟩
      rw [Array.getElem?_toList, Array.getElem?_modify, if_pos rfl, hj]
      rfl
    · refine List.mem_iff_getElem?.2 ⟨i, ?_⟩
      rw [Array.getElem?_toList, Array.getElem?_modify, if_neg (fun h => hi h.symm)]
      exact he
theorem map_modify {es : Array MapEntry} {j : Nat} {β : Type} (f : MapEntry → MapEntry) (g : MapEntry → β) (hg : ∀ e, es[j]? = some e → g (f e) = g e) : (es.modify j f).toList.map g = es.toList.map g := by
  refine List.ext_getElem? fun i => ?_
  rw [List.getElem?_map, List.getElem?_map, Array.getElem?_toList, Array.getElem?_toList, Array.getElem?_modify]
  split
  · rename_i h
    subst h
    cases he : es[j]? with
    | none => rfl
    | some e => simp [hg e he]
  · rfl
theorem nodup_at {es : Array MapEntry} (hn : (es.toList.map (·.key)).Nodup) {i j : Nat} {a b : MapEntry} (hi : es[i]? = some a) (hj : es[j]? = some b) (hk : a.key = b.key) : i = j := by
  have h1 : (es.toList.map (·.key))[i]? = some a.key := by simp [hi]
  have h2 : (es.toList.map (·.key))[j]? = some b.key := by simp [hj]
  have hlt : i < (es.toList.map (·.key)).length := (List.getElem?_eq_some_iff.1 h1).1
  exact (List.getElem?_inj hlt hn).1 (by rw [h1, h2, hk])
theorem born_at {es : Array MapEntry} (hn : es.toList.Pairwise (fun a b => a.born ≠ b.born)) {i j : Nat} {a b : MapEntry} (hi : es[i]? = some a) (hj : es[j]? = some b) (hk : a.born = b.born) : i = j := by
  have hn' : (es.toList.map (·.born)).Nodup := by rw [List.nodup_iff_pairwise_ne, List.pairwise_map]; exact hn
  have h1 : (es.toList.map (·.born))[i]? = some a.born := by simp [hi]
  have h2 : (es.toList.map (·.born))[j]? = some b.born := by simp [hj]
  have hlt : i < (es.toList.map (·.born)).length := (List.getElem?_eq_some_iff.1 h1).1
  exact (List.getElem?_inj hlt hn').1 (by rw [h1, h2, hk])
theorem MapL.modify (h : MapL P k w m L) {es : Array MapEntry} {cl : Nat} (hb : w.heap[m]? = some (.map es cl)) {j : Nat} {e0 : MapEntry} (hj : es[j]? = some e0) (v : Value) {f : MapEntry → MapEntry}
    (hf1 : (f e0).key = e0.key) (hf2 : (f e0).val = v) (hf3 : (f e0).born = e0.born) (hw : w1.heap[m]? = some (.map (es.modify j f) cl)) : ∃ L', MapL P k w1 m L' ∧ Put L e0.key v L' := by
  obtain ⟨⟨es', cl', h1, h2, h4, h5⟩, h3, h6⟩ := h
  rw [hb] at h1
  cases h1
  have hkeys : (es.toList.map (·.key)).Nodup := by
    rw [← h2, List.map_map] at h6
    exact h6
  refine ⟨(es.modify j f).toList.map (fun e => (e.key, e.val)), ⟨⟨es.modify j f, cl, hw, rfl, ?_, fun e he => ?_⟩, fun p hp => ?_, ?_⟩, fun p => ?_, .inl ⟨⟨e0.val, ?_⟩, ?_⟩⟩
  · have hb' : (es.modify j f).toList.map (·.born) = es.toList.map (·.born) := map_modify f (·.born) (fun e he => by rw [hj] at he; cases he; exact hf3)
    have hn : (es.toList.map (·.born)).Nodup := by rw [List.nodup_iff_pairwise_ne, List.pairwise_map]; exact h4
    rw [← hb', List.nodup_iff_pairwise_ne, List.pairwise_map] at hn
    exact hn
  · rcases (mem_modify hj f e).1 he with rfl | ⟨i, _, hi⟩
    · rw [hf3]; exact h5 e0 (by simpa using Array.mem_of_getElem? hj)
    · exact h5 e (by simpa using Array.mem_of_getElem? hi)
  · obtain ⟨e, he, rfl⟩ := List.mem_map.1 hp
    rcases (mem_modify hj f e).1 he with rfl | ⟨i, _, hi⟩
    · rw [hf1]; exact h3 (e0.key, e0.val) (by rw [← h2]; exact List.mem_map.2 ⟨e0, by simpa using Array.mem_of_getElem? hj, rfl⟩)
    · exact h3 (e.key, e.val) (by rw [← h2]; exact List.mem_map.2 ⟨e, by simpa using Array.mem_of_getElem? hi, rfl⟩)
  · rw [List.map_map]
    have : (es.modify j f).toList.map (Prod.fst ∘ fun e => (e.key, e.val)) = es.toList.map (·.key) := map_modify f _ (fun e he => by rw [hj] at he; cases he; exact hf1)
    rw [this]
    exact hkeys
  · constructor
    · intro hp
      obtain ⟨e, he, rfl⟩ := List.mem_map.1 hp
      rcases (mem_modify hj f e).1 he with rfl | ⟨i, hi, hie⟩
      · exact .inl (by rw [hf1, hf2])
      · refine .inr ⟨by rw [← h2]; exact List.mem_map.2 ⟨e, by simpa using Array.mem_of_getElem? hie, rfl⟩, fun hk => hi (nodup_at hkeys hie hj hk)⟩
    · rintro (rfl | ⟨hp, hne⟩)
      · exact List.mem_map.2 ⟨f e0, (mem_modify hj f _).2 (.inl rfl), by rw [hf1, hf2]⟩
      · rw [← h2] at hp
        obtain ⟨e, he, rfl⟩ := List.mem_map.1 hp
        obtain ⟨i, hi⟩ := List.mem_iff_getElem?.1 he
        rw [Array.getElem?_toList] at hi
        exact List.mem_map.2 ⟨e, (mem_modify hj f e).2 (.inr ⟨i, fun hij => hne (by subst hij; rw [hj] at hi; cases hi; rfl), hi⟩), rfl⟩
  · rw [← h2]; exact List.mem_map.2 ⟨e0, by simpa using Array.mem_of_getElem? hj, rfl⟩
  · rw [← h2]; simp
theorem MapL.push (h : MapL P k w m L) {es : Array MapEntry} {cl : Nat} (hb : w.heap[m]? = some (.map es cl)) {x v : Value} {l : Lit} (hx : keyOf P k x = some l) (hno : ∀ p ∈ L, p.1 ≠ x)
    (hw : w1.heap[m]? = some (.map (es.push { key := x, val := v, born := cl }) (cl + 1))) : ∃ L', MapL P k w1 m L' ∧ Put L x v L' := by
  obtain ⟨⟨es', cl', h1, h2, h4, h5⟩, h3, h6⟩ := h
  rw [hb] at h1
  cases h1
  refine ⟨L ++ [(x, v)], ⟨⟨_, _, hw, by simp [h2], ?_, fun e he => ?_⟩, fun p hp => ?_, ?_⟩, fun p => ?_, .inr ⟨hno, by simp⟩⟩
  · simp only [Array.toList_push]
    rw [List.pairwise_append]
    exact ⟨h4, List.pairwise_singleton .., fun a ha b hb' => by
      obtain rfl := List.mem_singleton.1 hb'
      have := h5 a ha
      simp only
      omega⟩
  · simp only [Array.toList_push] at he
    rcases List.mem_append.1 he with he | he
    · have := h5 e he; omega
    · obtain rfl := List.mem_singleton.1 he
      simp only
      omega
  · rcases List.mem_append.1 hp with hp | hp
    · exact h3 p hp
    · obtain rfl := List.mem_singleton.1 hp
      exact ⟨l, hx⟩
  · rw [List.map_append, List.nodup_append]
    refine ⟨h6, by simp, fun a ha b hb' => ?_⟩
    simp at hb'
    obtain ⟨p, hp, rfl⟩ := List.mem_map.1 ha
    rw [hb']
    exact hno p hp
  · constructor
    · intro hp
      rcases List.mem_append.1 hp with hp | hp
      · exact .inr ⟨hp, hno p hp⟩
      · exact .inl (List.mem_singleton.1 hp)
    · rintro (rfl | ⟨hp, _⟩)
      · simp
      · exact List.mem_append_left _ hp
theorem MapL.update (h : MapL P k w m L) (K : Keyed P k) {t E : TypeId} (ht : P.underlying t = some (.map k E)) {x : Value} {l : Lit} (hx : keyOf P k x = some l) (v : Value) :
    ∃ w' L', (Instr.mapUpdate t (.map (some m)) x v).run P w = .ok () w' ∧ MapL P k w' m L' ∧ Put L x v L' ∧ w.grownBy w' (some m) ∧ w'.heap.size = w.heap.size := by
  obtain ⟨es, cl, hb, _⟩ := h.ex
  have hg : (getObj m).run P w = .ok (.map es cl) w := by simp [getObj, Sem.run, hb]
  rcases h.find K hx hb w with ⟨hr, hno⟩ | ⟨j, e, hr, hj, he, hm⟩
  · obtain ⟨L', h1, h2⟩ := h.push (w1 := { w with heap := w.heap.setIfInBounds m (.map (es.push { key := x, val := v, born := cl }) (cl + 1)) }) hb hx hno (setObj_heap h.lt)
    refine ⟨_, L', ?_, h1, h2, setObj_grown _, by simp⟩
    simp only [Instr.mapUpdate, Sem.run_bind, run_underlying ht, Result.andThen_ok, hg, K.check w false hx, hr, setObj_run hb]
  · subst he
    obtain ⟨L', h1, h2⟩ := h.modify (w1 := { w with heap := w.heap.setIfInBounds m (.map (es.modify j fun e' => { e' with key := e.key, val := v }) cl) }) hb hj v (f := fun e' => { e' with key := e.key, val := v }) rfl rfl rfl (setObj_heap h.lt)
    refine ⟨_, L', ?_, h1, h2, setObj_grown _, by simp⟩
    simp only [Instr.mapUpdate, Sem.run_bind, run_underlying ht, Result.andThen_ok, hg, K.check w false hx, hr, hj, Option.map_some, Option.getD_some, K.stays w hx, setObj_run hb]
theorem MapL.entry (h : MapL P k w m L) (K : Keyed P k) {t E : TypeId} (ht : P.underlying t = some (.map k E)) {x z : Value} {l : Lit} (hx : keyOf P k x = some l) (hz : (zeroValue E).run P w = .ok z w) :
    ∃ w' v n, (Instr.mapEntry t (.map (some m)) x).run P w = .ok (.tuple #[v, .int .i64 n]) w' ∧ ((x, v) ∈ L ∨ (∀ p ∈ L, p.1 ≠ x) ∧ v = z) ∧ w.grownBy w' (some m) ∧ w'.heap.size = w.heap.size ∧ (∃ L1, MapL P k w' m L1) ∧
      ∀ (w2 : World) (u : Value), w2.heap[m]? = w'.heap[m]? →
        ∃ w3 L', (Instr.entryStore t (.map (some m)) (.int .i64 n) u).run P w2 = .ok () w3 ∧ MapL P k w3 m L' ∧ Put L x u L' ∧ w2.grownBy w3 (some m) ∧ w3.heap.size = w2.heap.size := by
  obtain ⟨es, cl, hb, _, hborn, hcl⟩ := h.ex
  have hg : (getObj m).run P w = .ok (.map es cl) w := by simp [getObj, Sem.run, hb]
  have back : ∀ (es2 : Array MapEntry) (cl2 j : Nat) (e0 : MapEntry) (w2 : World) (u : Value), w2.heap[m]? = some (.map es2 cl2) → es2[j]? = some e0 → es2.toList.Pairwise (fun a b => a.born ≠ b.born) →
      (Instr.entryStore t (.map (some m)) (.int .i64 (e0.born : Int)) u).run P w2 = .ok () { w2 with heap := w2.heap.setIfInBounds m (.map (es2.modify j fun e => { e with val := u }) cl2) } := by
    intro es2 cl2 j e0 w2 u hw2 hj2 hn2
    have hg2 : (getObj m).run P w2 = .ok (.map es2 cl2) w2 := by simp [getObj, Sem.run, hw2]
    have hlt2 : j < es2.size := (Array.getElem?_eq_some_iff.1 hj2).1
    have hfi : es2.findIdx? (fun e => (e.born : Int) == (e0.born : Int)) = some j := by
      rw [Array.findIdx?_eq_some_iff_getElem]
      refine ⟨hlt2, ?_, fun i hi => ?_⟩
      · have : es2[j] = e0 := by
          have := Array.getElem?_eq_getElem hlt2
          rw [hj2] at this
          exact (Option.some.inj this).symm
        simp [this]
      · have hne : es2[i].born ≠ e0.born := fun he => by
          have := born_at hn2 (Array.getElem?_eq_getElem (by omega : i < es2.size)) hj2 he
          omega
        simp
        omega
    simp only [Instr.entryStore, Sem.run_bind, hg2, Result.andThen_ok, asInt, asIntOf, Sem.run_pure, hfi, setObj_run hw2]
  rcases h.find K hx hb w with ⟨hr, hno⟩ | ⟨j, e, hr, hj, he, hm⟩
  · let w' : World := { w with heap := w.heap.setIfInBounds m (.map (es.push { key := x, val := z, born := cl }) (cl + 1)) }
    have hw' : w'.heap[m]? = some (.map (es.push { key := x, val := z, born := cl }) (cl + 1)) := setObj_heap h.lt
    obtain ⟨L1, h1, h2⟩ := h.push (w1 := w') hb hx hno hw'
    refine ⟨w', z, (cl : Int), ?_, .inr ⟨hno, rfl⟩, setObj_grown _, by simp [w'], ⟨L1, h1⟩, fun w2 u hw2 => ?_⟩
    · simp only [Instr.mapEntry, Sem.run_bind, run_underlying ht, Result.andThen_ok, hg, K.check w false hx, hr, hz, setObj_run hb, Sem.run_pure, goInt]
      rfl
    · have hj' : (es.push { key := x, val := z, born := cl })[es.size]? = some { key := x, val := z, born := cl } := by simp
      obtain ⟨⟨es1, cl1, hw1, _, hb1, _⟩, _⟩ := id h1
      rw [hw'] at hw1
      cases hw1
      have hr2 := back _ _ _ _ w2 u (hw2.trans hw') hj' hb1
      have hlt2 : m < w2.heap.size := (Array.getElem?_eq_some_iff.1 (hw2.trans hw')).1
      obtain ⟨L2, h3, h4⟩ := (h1.keep hw2).modify (w1 := { w2 with heap := w2.heap.setIfInBounds m (.map ((es.push { key := x, val := z, born := cl }).modify es.size fun e => { e with val := u }) (cl + 1)) }) (hw2.trans hw') hj' u (f := fun e => { e with val := u }) rfl rfl rfl (setObj_heap hlt2)
      refine ⟨_, L2, hr2, h3, ⟨fun p => ?_, ?_⟩, setObj_grown _, by simp⟩
      · rw [h4.mem p]
        constructor
        · rintro (rfl | ⟨hp, hne⟩)
          · exact .inl rfl
          · rcases (h2.mem p).1 hp with rfl | hp
            · exact absurd rfl hne
            · exact .inr hp
        · rintro (rfl | ⟨hp, hne⟩)
          · exact .inl rfl
          · exact .inr ⟨(h2.mem p).2 (.inr ⟨hp, hne⟩), hne⟩
      · refine .inr ⟨hno, ?_⟩
        rcases h2.len with ⟨⟨u', hu'⟩, _⟩ | ⟨_, hl⟩
        · exact absurd rfl (hno _ hu')
        · rcases h4.len with ⟨_, hl'⟩ | ⟨hno', _⟩
          · omega
          · exact absurd rfl (hno' (x, z) ((h2.mem _).2 (.inl rfl)))
  · subst he
    let w' : World := { w with heap := w.heap.setIfInBounds m (.map (es.modify j fun e' => { e' with key := e.key }) cl) }
    have hlt : j < es.size := (Array.getElem?_eq_some_iff.1 hj).1
    have hsame : es.modify j (fun e' => { e' with key := e.key }) = es := by
      apply Array.ext_getElem?
      intro i
      rw [Array.getElem?_modify]
      split
      · rename_i hi
        subst hi
        rw [hj]
        rfl
      · rfl
    have hw' : w'.heap[m]? = some (.map es cl) := by
      have := setObj_heap (w := w) (m := m) (o := .map (es.modify j fun e' => { e' with key := e.key }) cl) h.lt
      rw [hsame] at this
      simpa [w', hsame] using this
    refine ⟨w', e.val, (e.born : Int), ?_, .inl hm, setObj_grown _, by simp [w'], ⟨L, h.keep (hw'.trans hb.symm)⟩, fun w2 u hw2 => ?_⟩
    · simp only [Instr.mapEntry, Sem.run_bind, run_underlying ht, Result.andThen_ok, hg, K.check w false hx, hr, hj, Option.map_some, Option.getD_some, K.stays w hx, setObj_run hb, Sem.run_pure, goInt]
      rfl
    · have hr2 := back es cl j e w2 u (hw2.trans hw') hj hborn
      have hlt2 : m < w2.heap.size := (Array.getElem?_eq_some_iff.1 (hw2.trans hw')).1
      obtain ⟨L2, h3, h4⟩ := (h.keep ((hw2.trans hw').trans hb.symm)).modify (w1 := { w2 with heap := w2.heap.setIfInBounds m (.map (es.modify j fun e => { e with val := u }) cl) }) (hw2.trans hw') hj u (f := fun e => { e with val := u }) rfl rfl rfl (setObj_heap hlt2)
      exact ⟨_, L2, hr2, h3, h4, setObj_grown _, by simp⟩
end
end
section
open Go.RowKit
set_option maxRecDepth 100000 in
theorem insertion_nil (w : World) : Calls Tryz.prog 198 #[.slice none 0 0, .int .i64 0, .int .i64 0, cmpV] w fun e w' => e = .returned (.tuple #[]) ∧ w' = w := by
  unfold cmpV
  go_enter Tryz.func198, Tryz.ntmps198
  go_wp2_with fail
  go_loopw [8] (fun s8 wr => s8 = .int .i64 1 ∧ wr = w) (fun _ _ => 0)
  case atStart => exact ⟨rfl, rfl⟩
  case round =>
    obtain ⟨rfl, rfl⟩ := hrel
    go_wp2_with fail
    go_end0
    exact ⟨rfl, rfl⟩
set_option maxRecDepth 100000 in
theorem stable_nil (w : World) : Calls Tryz.prog 179 #[.slice none 0 0, .int .i64 0, cmpV] w fun e w' => e = .returned (.tuple #[]) ∧ w' = w := by
  have hin := hide (insertion_nil w)
  unfold cmpV at hin ⊢
  go_enter Tryz.func179, Tryz.ntmps179
  go_wp2_with fail
  go_loopw [7, 8] (fun s7 s8 wr => s7 = .int .i64 0 ∧ s8 = .int .i64 20 ∧ wr = w) (fun _ _ _ => 0)
  case atStart => exact ⟨rfl, rfl, rfl⟩
  case round =>
    obtain ⟨rfl, rfl, rfl⟩ := hrel
    go_wp2_with fail
    refine hin.out.mono ?_
    rintro e w1 ⟨rfl, rfl⟩
    go_wp2_with fail
    go_loopw [6] (fun s6 wr2 => s6 = .int .i64 20 ∧ wr2 = w1) (fun _ _ => 0)
    case atStart => exact ⟨rfl, rfl⟩
    case round =>
      obtain ⟨rfl, rfl⟩ := hrel
      go_wp2_with fail
      go_end0
      exact ⟨rfl, rfl⟩
set_option maxRecDepth 100000 in
theorem sortstable_nil (w : World) : Calls Tryz.prog 136 #[.slice none 0 0, cmpV] w fun e w' => e = .returned (.tuple #[]) ∧ w' = w := by
  have h := hide (stable_nil w)
  unfold cmpV at h ⊢
  go_enter Tryz.func136, Tryz.ntmps136
  go_wp2_with fail
  refine h.out.mono ?_
  rintro e w1 ⟨rfl, rfl⟩
  go_wp2_with fail
  go_end0
  exact ⟨rfl, rfl⟩
theorem sortTm_any (base : Nat) (L : Option Addr) (n c : Nat) (D : List TmV) (w : World) (h : w.ownsRow base 150 2 (.slice L n c) n (tcs D)) (hn : n = D.length) (hle : n ≤ 268435456) :
    Calls Tryz.prog 136 #[.slice L n c, cmpV] w fun e w' => e = .returned (.tuple #[]) ∧ ∃ E, Std D E ∧ (n ≠ 0 → ∃ g, L = some ⟨g, 0, none⟩ ∧ base ≤ g ∧ TR w' g E) ∧ Chg (fun k => (Value.slice L n c).ownBlock = some k) w w' := by
  rcases h with ⟨hl, ⟨hv, h0⟩ | ⟨g, cap, cur, hv, hb, hg, hnc, hcx, hs, ht⟩⟩
  · cases hv
    obtain rfl : D = [] := List.length_eq_zero_iff.1 hn.symm
    exact (sortstable_nil w).mono fun e w' ⟨h1, h2⟩ => ⟨h1, [], ⟨List.Pairwise.nil, Stb.refl _⟩, fun h => absurd rfl h, by rw [h2]; exact Chg.refl _ _⟩
  · cases hv
    subst hn
    refine (sortstable_any g c D w ⟨cur, hg, fun i v hi => ?_⟩ hle).mono ?_
    · rw [← ht, List.getElem?_take] at hi
      split at hi
      · simpa using hi
      · cases hi
    · rintro e w' ⟨h1, E, h2, h3, h4⟩
      exact ⟨h1, E, h2, fun _ => ⟨g, rfl, hb, h3⟩, h4.mono fun k _ hk => by rw [hk]; rfl⟩
end
section
open Go.RowKit
abbrev TmP := TmV × (List UInt8 × List Int)
def TmP.far (x y : TmP) : Prop := ∀ a b, x.1.2.1 = some a → y.1.2.1 = some b → a.block ≠ b.block
theorem TmP.far_symm {x y : TmP} (h : TmP.far x y) : TmP.far y x := fun a b ha hb e => h b a hb ha e.symm
def TmP.ok (w : World) (base : Nat) (z : TmP) : Prop := z.1.1 = z.2.1 ∧ Buf w base 3 z.1.2.1 z.1.2.2.1 z.1.2.2.2 (z.2.2.map IV)
structure TZ (w : World) (base : Nat) (l : List TmP) : Prop where
  each : ∀ z ∈ l, TmP.ok w base z
  apart : l.Pairwise TmP.far
theorem TZ.perm {w : World} {base : Nat} {l m : List TmP} (h : TZ w base l) (hp : m.Perm l) : TZ w base m :=
  ⟨fun z hz => h.each z (hp.mem_iff.1 hz), (hp.symm.pairwise_iff (fun {x y} h => TmP.far_symm h)).1 h.apart⟩
theorem TZ.keep {w w1 : World} {base : Nat} {l : List TmP} (h : TZ w base l) (hk : ∀ A n c xs, Buf w base 3 A n c xs → Buf w1 base 3 A n c xs) : TZ w1 base l :=
  ⟨fun z hz => ⟨(h.each z hz).1, hk _ _ _ _ (h.each z hz).2⟩, h.apart⟩
theorem TmsOk.tz {w : World} {base : Nat} {D : List TmV} {Z : List (List UInt8 × Int)} (h : TmsOk w base D (oneT Z)) :
    TZ w base (D.map fun x => (x, (x.1, ptsOf w x.2))) ∧ (∀ x ∈ D, ptsOf w x.2 = [(ptsOf w x.2).headD 0]) ∧ D.map (fun x => (x.1, (ptsOf w x.2).headD 0)) = Z := by
  have hl : D.length = Z.length := by have := h.len; unfold oneT at this; rwa [List.length_map] at this
  have hat : ∀ (i : Nat) (x : TmV), D[i]? = some x → ∃ p, Z[i]? = some p ∧ x.1 = p.1 ∧ Buf w base 3 x.2.1 x.2.2.1 x.2.2.2 ([p.2].map IV) ∧ ptsOf w x.2 = [p.2] := fun i x hx => by
    have hi := (List.getElem?_eq_some_iff.1 hx).1
    obtain ⟨p, hp⟩ : ∃ p, Z[i]? = some p := ⟨_, List.getElem?_eq_getElem (by omega)⟩
    have := h.each i x (p.1, [p.2]) hx (by unfold oneT; rw [List.getElem?_map, hp]; rfl)
    exact ⟨p, hp, this.1, this.2, ptsOf_buf this.2⟩
  refine ⟨⟨fun z hz => ?_, ?_⟩, fun x hx => ?_, ?_⟩
  · obtain ⟨x, hx, rfl⟩ := List.mem_map.1 hz
    obtain ⟨i, hi⟩ := List.mem_iff_getElem?.1 hx
    obtain ⟨p, hp, h1, h2, h3⟩ := hat i x hi
    exact ⟨rfl, by simp only [h3]; exact h2⟩
  · rw [List.pairwise_map, List.pairwise_iff_getElem]
    intro i j hi hj hij a b ha hb
    exact h.apart i j _ _ (List.getElem?_eq_getElem hi) (List.getElem?_eq_getElem hj) (by omega) a b ha hb
  · obtain ⟨i, hi⟩ := List.mem_iff_getElem?.1 hx
    obtain ⟨p, hp, h1, h2, h3⟩ := hat i x hi
    rw [h3]; rfl
  · apply List.ext_getElem?
    intro i
    rw [List.getElem?_map]
    cases hx : D[i]? with
    | none => rw [List.getElem?_eq_none_iff] at hx; rw [List.getElem?_eq_none (by omega)]; rfl
    | some x =>
      obtain ⟨p, hp, h1, h2, h3⟩ := hat i x hx
      rw [hp, Option.map_some, h3, h1]; rfl
theorem TZ.tms {w : World} {base : Nat} {l : List TmP} (h : TZ w base l) : TmsOk w base (l.map Prod.fst) (l.map Prod.snd) := by
  refine ⟨by rw [List.length_map, List.length_map], fun i x p hx hp => ?_, fun i j x y hx hy hij a b ha hb => ?_⟩
  · rw [List.getElem?_map] at hx hp
    obtain ⟨z, hz, rfl⟩ := Option.map_eq_some_iff.1 hx
    rw [hz] at hp
    cases hp
    exact h.each z (List.mem_of_getElem? hz)
  · rw [List.getElem?_map] at hx hy
    obtain ⟨z, hz, rfl⟩ := Option.map_eq_some_iff.1 hx
    obtain ⟨u, hu, rfl⟩ := Option.map_eq_some_iff.1 hy
    obtain ⟨hi, rfl⟩ := List.getElem?_eq_some_iff.1 hz
    obtain ⟨hj, rfl⟩ := List.getElem?_eq_some_iff.1 hu
    rcases Nat.lt_or_gt_of_ne hij with hlt | hlt
    · exact List.pairwise_iff_getElem.1 h.apart i j hi hj hlt a b ha hb
    · exact (List.pairwise_iff_getElem.1 h.apart j i hj hi hlt b a hb ha).symm
theorem TZ.join {w w1 : World} {base : Nat} {a r : List TmP} {x y : TmP} (h : TZ w base (a ++ x :: y :: r)) (x' : TmP) (hk : ∀ z ∈ a ++ r, TmP.far z x → TmP.ok w base z → TmP.ok w1 base z) (hx : TmP.ok w1 base x') (hn : x'.1.2.1 = x.1.2.1 ∨ ∃ b, x'.1.2.1 = some b ∧ w.heap.size ≤ b.block) : TZ w1 base (a ++ x' :: r) := by
  have hin : ∀ z ∈ a ++ r, z ∈ a ++ x :: y :: r := fun z hz => by
    rcases List.mem_append.1 hz with h | h
    · exact List.mem_append_left _ h
    · exact List.mem_append_right _ (List.mem_cons_of_mem _ (List.mem_cons_of_mem _ h))
  have hfar : ∀ z ∈ a ++ r, (TmP.far z x → TmP.far z x') := fun z hz hf p q hp hq => by
    rcases hn with hn | ⟨b, hb, hlt⟩
    · rw [hn] at hq; exact hf p q hp hq
    · rw [hb] at hq; cases hq
      have := (h.each z (hin z hz)).2.lt p hp
      omega
  have hp := List.pairwise_append.1 h.apart
  have hp2 := List.pairwise_cons.1 hp.2.1
  have hp3 := List.pairwise_cons.1 hp2.2
  refine ⟨fun z hz => ?_, List.pairwise_append.2 ⟨hp.1, List.pairwise_cons.2 ⟨fun z hz => ?_, hp3.2⟩, fun z hz u hu => ?_⟩⟩
  · rcases List.mem_append.1 hz with hz | hz
    · exact hk z (List.mem_append_left _ hz) (hp.2.2 z hz x (List.mem_cons_self ..)) (h.each z (List.mem_append_left _ hz))
    · rcases List.mem_cons.1 hz with rfl | hz
      · exact hx
      · exact hk z (List.mem_append_right _ hz) (TmP.far_symm (hp2.1 z (List.mem_cons_of_mem _ hz))) (h.each z (hin z (List.mem_append_right _ hz)))
  · exact TmP.far_symm (hfar z (List.mem_append_right _ hz) (TmP.far_symm (hp2.1 z (List.mem_cons_of_mem _ hz))))
  · rcases List.mem_cons.1 hu with rfl | hu
    · exact hfar z (List.mem_append_left _ hz) (hp.2.2 z hz x (List.mem_cons_self ..))
    · exact hp.2.2 z hz u (List.mem_cons_of_mem _ (List.mem_cons_of_mem _ hu))
theorem own_put {w : World} {base g n c size : Nat} {e : TypeId} {xs : List Value} (h : w.ownsRow base e size (.slice (some ⟨g, 0, none⟩) n c) n xs) (j : Nat) (u : Value) :
    (w.setCell ⟨g, j, none⟩ u).ownsRow base e size (.slice (some ⟨g, 0, none⟩) n c) n (xs.set j u) := by
  rcases h with ⟨hl, ⟨h2, _⟩ | ⟨g', cap, cur, hv, hb, hg, hn, hx', hs, ht⟩⟩
  · cases h2
  · cases hv
    refine ⟨by rw [List.length_set]; exact hl, .inr ⟨g, _, cur.setIfInBounds j u, rfl, hb, Row.put (w := w) hg j u, hn, hx', by rw [Array.size_setIfInBounds]; exact hs, ?_⟩⟩
    rw [Array.toList_setIfInBounds, List.take_set, ht]
theorem tcs_set2 (D : List TmV) (x : TmV) (y : Option Addr × Nat × Nat) : (tcs (D ++ [x])).set (D.length * 2 + 1) (.slice y.1 y.2.1 y.2.2) = tcs (D ++ [(x.1, y)]) := by
  rw [tcs_snoc, tcs_snoc, List.set_append_right _ _ (by rw [tcs_len]; omega), tcs_len, show D.length * 2 + 1 - D.length * 2 = 1 by omega]
  rfl
theorem joinS_last {β : Type} (r : List (List UInt8 × List β)) (x : List UInt8 × List β) (p : List UInt8 × β) : joinS (r ++ [x]) p = if x.1 = p.1 then r ++ [(x.1, x.2 ++ [p.2])] else r ++ [x] ++ [(p.1, [p.2])] := by
  unfold joinS
  rw [List.getLast?_concat, List.dropLast_concat]
theorem tcs_at {w : World} {base n c : Nat} {A : Option Addr} {D : List TmV} (h : w.ownsRow base 150 2 (.slice A n c) n (tcs D)) {i : Nat} {x : TmV} (hx : D[i]? = some x) :
    ∃ g cur, A = some ⟨g, 0, none⟩ ∧ base ≤ g ∧ Row w g 150 cur ∧ w.cell? ⟨g, i * 2, none⟩ = some (.string ⟨x.1.toArray⟩) ∧ w.cell? ⟨g, i * 2 + 1, none⟩ = some (.slice x.2.1 x.2.2.1 x.2.2.2) := by
  have hi := (List.getElem?_eq_some_iff.1 hx).1
  rcases h with ⟨hl, ⟨_, h2⟩ | ⟨g, cap, cur, hv, hb, hg, hn, hx', hs, ht⟩⟩
  · rw [tcs_len] at hl; omega
  · cases hv
    have hT : TR w g D := ⟨cur, hg, fun j v hj => by
      rw [← ht, List.getElem?_take] at hj
      split at hj
      · simpa using hj
      · cases hj⟩
    have := hT.at_ hx
    exact ⟨g, cur, rfl, hb, hg, this.1, this.2⟩
theorem joinS_le {β : Type} {r : List (List UInt8 × List β)} {k : Nat} (h : ∀ z ∈ r, z.2.length ≤ k) (p : List UInt8 × β) : ∀ z ∈ joinS r p, z.2.length ≤ k + 1 := by
  intro z hz
  rcases List.eq_nil_or_concat r with rfl | ⟨r0, x, hr⟩
  · unfold joinS at hz
    simp only [List.getLast?_nil, List.mem_singleton] at hz
    rw [hz]; simp
  · rw [List.concat_eq_append] at hr
    subst hr
    rw [joinS_last] at hz
    have hx := h x (by simp)
    split at hz
    · rcases List.mem_append.1 hz with hz | hz
      · have := h z (List.mem_append_left _ hz); omega
      · rw [List.mem_singleton.1 hz, List.length_append]; simp; omega
    · rcases List.mem_append.1 hz with hz | hz
      · have := h z hz; omega
      · rw [List.mem_singleton.1 hz]; simp
theorem foldS_le {β : Type} : ∀ (l : List (List UInt8 × β)) (r : List (List UInt8 × List β)) (k : Nat), (∀ z ∈ r, z.2.length ≤ k) → ∀ z ∈ l.foldl joinS r, z.2.length ≤ k + l.length
  | [], r, k, h => h
  | p :: l, r, k, h => fun z hz => by
    have := foldS_le l (joinS r p) (k + 1) (joinS_le h p) z hz
    rw [List.length_cons]; omega
theorem bg_owns {w w1 : World} {base n c b m size : Nat} {e t : TypeId} {A : Option Addr} {xs ys : List Value} {v : Value} (hb : Buf w base e A n c xs) (hg : w.grownBy w1 (Value.slice A n c).ownBlock) (ho : w.ownsRow b t size v m ys) (ht : t ≠ e) : w1.ownsRow b t size v m ys :=
  (Chg.of_grown (S := fun j => (Value.slice A n c).ownBlock = some j) hg (fun k _ h => h)).owns ho fun g hg hS => by
    obtain ⟨cur, hc, _⟩ := owns_row ho hg
    cases A with
    | none => simp [Value.ownBlock] at hS
    | some a =>
      simp [Value.ownBlock] at hS
      exact hb.unlike hc (fun h => ht h.symm) a rfl hS
theorem bg_buf {w w1 : World} {n c b n2 c2 : Nat} {t : TypeId} {A B : Option Addr} {ys : List Value} (hg : w.grownBy w1 (Value.slice A n c).ownBlock) (h : Buf w b t B n2 c2 ys) (hf : ∀ p q, B = some p → A = some q → p.block ≠ q.block) : Buf w1 b t B n2 c2 ys :=
  h.grown hg fun a ha hS => by
    cases A with
    | none => simp [Value.ownBlock] at hS
    | some q =>
      simp [Value.ownBlock] at hS
      exact hf a q ha rfl hS.symm
end
end Go.Proofs.YtkdcnhnaiknaaaaGreat
