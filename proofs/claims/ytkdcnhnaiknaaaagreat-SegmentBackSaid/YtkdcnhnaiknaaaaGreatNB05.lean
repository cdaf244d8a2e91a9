/- What came in: structs, rows of structs; the world's shape kept. -/
import Derived.Test.YtkdcnhnaiknaaaaGreatNB04
import Derived.HandedShaped
import Derived.Handed
import Derived.Deep.QuietTactic
import Derived.BigQuiet
import Derived.Test.YtkdcnhnaiknaaaaGreatNB02
import Derived.Laws.BitsAllLaws
set_option linter.unusedSimpArgs false
set_option linter.unusedVariables false
namespace Go.Proofs.YtkdcnhnaiknaaaaGreat
open Go.ChangeShapes Go.WideShapes Go.Deep Go.RowKit

section
variable {H : Type} {enc : TypeId × Value → H} {w : World} {base : Nat} {spare : Nat → Bool} {held : Bool}
/-- A struct's fields, each of one cell. -/
theorem in_fields {t : TypeId} {fs : Array Field} {tys : Array TypeId} {fuel : Nat} {cs : List Value} {y : DataW H × List MemPlace} (hfs : Tryz.prog.underlying t = some (.struct fs)) (hone : oneCellFields Tryz.prog fs = true) (hty : fs.map Field.type = tys)
    (h : DataW.trod enc Tryz.prog w base spare held fuel t cs = some y) : ∃ n, ∀ (j : Nat) (t : TypeId) (v : Value), tys[j]? = some t → cs[j]? = some v → ∃ z, DataW.trod enc Tryz.prog w base spare held n t [v] = some z := by
  obtain ⟨ys, n, hn, hy, hlen, hyl, hf⟩ := DataW.trod_struct hfs h
  refine ⟨n, fun j t v hj hv => ?_⟩
  rw [← hty, Array.getElem?_map] at hj
  obtain ⟨f, hfj, rfl⟩ := Option.map_eq_some_iff.1 hj
  obtain ⟨ho, hk⟩ := hone_of hone j f hfj
  have h1 := hf j f hfj
  have hjl : j < cs.length := (List.getElem?_eq_some_iff.1 hv).1
  rw [ho, hk, List.drop_eq_getElem_cons hjl] at h1
  have hv2 : cs[j] = v := by rw [List.getElem?_eq_getElem hjl] at hv; simpa using hv
  rw [hv2] at h1
  have hjy : j < ys.length := by rw [hyl]; exact (Array.getElem?_eq_some_iff.1 hfj).1
  rw [List.getElem?_eq_getElem hjy] at h1
  exact ⟨_, h1⟩
theorem flat_len_of {α : Type} {k : Nat} {cellsA : α → List Value} (hlen : ∀ x, (cellsA x).length = k) : ∀ xs : List α, (xs.flatMap cellsA).length = xs.length * k
  | [] => by simp
  | x :: xs => by rw [List.flatMap_cons, List.length_append, hlen, flat_len_of hlen xs, List.length_cons, Nat.add_mul, Nat.one_mul, Nat.add_comm]
theorem flat_get_of {α : Type} {k : Nat} {cellsA : α → List Value} (hlen : ∀ x, (cellsA x).length = k) : ∀ (xs : List α) (i : Nat) (x : α) (j : Nat), xs[i]? = some x → j < k → (xs.flatMap cellsA)[i * k + j]? = (cellsA x)[j]?
  | [], i, x, j, h, _ => by simp at h
  | y :: xs, 0, x, j, h, hj => by
    obtain rfl : y = x := by simpa using h
    rw [List.flatMap_cons, List.getElem?_append_left (by rw [hlen]; omega), Nat.zero_mul, Nat.zero_add]
  | y :: xs, i + 1, x, j, h, hj => by
    have h' : xs[i]? = some x := by simpa using h
    rw [List.flatMap_cons, List.getElem?_append_right (by rw [hlen, Nat.add_mul, Nat.one_mul]; omega), hlen, show (i + 1) * k + j - k = i * k + j by rw [Nat.add_mul, Nat.one_mul]; omega]
    exact flat_get_of hlen xs i x j h' hj
/-- A slice that came in: the row of its elements. -/
theorem in_row_of {t e : TypeId} {k fuel : Nat} {v : Value} {x : DataW H × List MemPlace} {α : Type} {cellsA : α → List Value} {Q : α → Prop} (ht : Tryz.prog.underlying t = some (.slice e)) (hc : Tryz.prog.cellsOf e = k) (hk0 : 0 < k) (hlen : ∀ x, (cellsA x).length = k)
    (hel : ∀ (fuel : Nat) (cs : List Value) (y : DataW H × List MemPlace), cs.length = k → DataW.trod enc Tryz.prog w base spare held fuel e cs = some y → ∃ x, Q x ∧ cellsA x = cs) (h : DataW.trod enc Tryz.prog w base spare held fuel t [v] = some x) :
    ∃ (A : Option Addr) (c : Nat) (xs : List α), v = .slice A xs.length c ∧ Cells w A (xs.flatMap cellsA) ∧ (xs ≠ [] → ∀ a, A = some a → a.block < w.heap.size ∧ a.spot = none) ∧ xs.length ≤ c ∧ xs.length ≤ 9223372036854775807 ∧ ∀ x ∈ xs, Q x := by
  rcases open_slice ht h with ⟨hcs, _⟩ | ⟨a, m, c, k', n, D, Pl, hcs, hb, hl, hm, hk, hx, hi⟩
  · obtain rfl : v = .slice none 0 0 := by simpa using hcs
    exact ⟨none, 0, [], rfl, .inl rfl, fun h => absurd rfl h, Nat.le_refl _, by show 0 ≤ _; omega, nofun⟩
  · obtain rfl : v = .slice (some a) m c := by simpa using hcs
    rw [hc] at hi
    have hlk : m ≤ k' := by rw [hk]; split <;> omega
    obtain ⟨xs, hpl, hps⟩ := list_of (Q := fun i (p : α) => Q p ∧ ∀ j v, (cellsA p)[j]? = some v → w.cell? ((a.add (i * k)).add j) = some v) m fun i hil => by
      obtain ⟨cs, hc, ht⟩ := hi i (by omega)
      obtain ⟨_, hcl, hat⟩ := World.cells?_some hc
      obtain ⟨p, hp, rfl⟩ := hel _ _ _ hcl ht
      exact ⟨p, hp, fun j v hv => by rw [hat j (by have := (List.getElem?_eq_some_iff.1 hv).1; omega)]; exact hv⟩
    subst hpl
    have hat : ∀ i v, (xs.flatMap cellsA)[i]? = some v → w.cell? (a.add i) = some v := fun i v hv => by
      have hil : i < (xs.flatMap cellsA).length := (List.getElem?_eq_some_iff.1 hv).1
      rw [flat_len_of hlen] at hil
      have hdiv : i / k < xs.length := Nat.div_lt_of_lt_mul (by rw [Nat.mul_comm]; exact hil)
      have hg := flat_get_of hlen xs (i / k) xs[i / k] (i % k) (List.getElem?_eq_getElem hdiv) (Nat.mod_lt _ hk0)
      have hii : i / k * k + i % k = i := Nat.div_add_mod' i k
      rw [hii, hv] at hg
      have := (hps (i / k) _ (List.getElem?_eq_getElem hdiv)).2 (i % k) v hg.symm
      rw [Addr.add_add, hii] at this
      exact this
    have hlt : xs ≠ [] → a.block < w.heap.size ∧ a.spot = none := fun hne => by
      have h0 : 0 < (xs.flatMap cellsA).length := by
        rw [flat_len_of hlen]
        exact Nat.mul_pos (List.length_pos_iff.2 hne) hk0
      have := hat 0 _ (List.getElem?_eq_getElem h0)
      have := cell_lt this
      simpa [Addr.add] using this
    refine ⟨some a, c, xs, rfl, ?_, fun hne b hb => by cases hb; exact hlt hne, hl, by unfold maxLen at hm; omega, fun p hp => ?_⟩
    · by_cases hne : xs = []
      · rw [hne]; exact .inl rfl
      · obtain ⟨b, o, s⟩ := a
        obtain rfl : s = none := (hlt hne).2
        exact .inr ⟨b, o, rfl, fun i v hv => by have := hat i v hv; rw [Addr.add_lit] at this; exact this⟩
    · obtain ⟨i, hil, rfl⟩ := List.mem_iff_getElem.1 hp
      exact (hps i _ (List.getElem?_eq_getElem hil)).1
end
section
variable {H : Type} {enc : TypeId × Value → H}
/-- A condition on the first world, and its shape, handed to the walk. -/
theorem handed_shaped {a : Assume} {C : Checked} {os : Os} {f : FuncId} {fn : Func} {s : ChangeSpec} {conds : List PathCond} {apart fresh handsOn again : Bool} {X : World → Array Value → Prop}
    (hX : ∀ (w w' : World) (args : Array Value), w.heap = w'.heap → X w args → X w' args)
    (own : ownKnob C.prog.godebug = none) (started : os.Started) (noInit : C.prog.inits.idxOf? f = none) (hfn : C.prog.funcs[f]? = some fn)
    (witness : ∃ (w : World) (tape : Tape) (i : Input), w.os = os ∧ (w.forCall tape i).Shaped C.prog ∧ i.vars = [] ∧ Input.okWide C.prog (w.forCall tape i) .any w.heap.size f i ∧
      ((s.pre enc C.prog fn conds apart (w.forCall tape i).memory i.args ∧ X (w.forCall tape i).memory i.args) ∧ sizedMet enc C.prog fn (OpenSpec.ofChange s) apart (w.forCall tape i).memory i.args) ∧ a.holds C.prog (lone (Frame.enter C.prog f i.args .normal) [] (w.forCall tape i)))
    (contract : ∀ (W : World) (base : Nat) (args : Array Value) (ds gs : List (DataW H)) (before : List MemPlace),
      (∀ (j : Nat) t v, fn.params[j]? = some t → args[j]? = some v → Value.okWide C.prog W .any base t v) →
      DataW.Whole enc C.prog fn.params.toList s.vars apart W args.toList ds gs before → X W args → W.ShapedOpen C.prog →
      Calls C.prog f args W fun e W' => ∃ v, e = .returned v ∧ s.post enc C.prog fn apart fresh handsOn again W args v W') :
    ReturnsInHanded a C os f .any (fun w args => (s.pre enc C.prog fn conds apart w args ∧ X w args) ∧ sizedMet enc C.prog fn (OpenSpec.ofChange s) apart w args) (s.post enc C.prog fn apart fresh handsOn again) := by
  refine returnsInHanded_of_calls own started noInit witness ?_
  rintro w tape i _ hshape _ ⟨_, _, _, fn', hfn', _, _, _, _, hval⟩ ⟨⟨⟨ds, gs, before, hw, _⟩, hx⟩, _⟩ _
  obtain rfl : fn' = fn := Option.some.inj (hfn'.symm.trans hfn)
  refine (contract (w.forCall tape i) w.heap.size i.args ds gs before hval (DataW.Whole.of_heap (by rfl) hw) (hX _ _ _ (by rfl) hx) hshape).mono fun e W' ⟨v, he, hp⟩ => ?_
  subst he
  exact ChangeSpec.post_blind hp
end
end Go.Proofs.YtkdcnhnaiknaaaaGreat

/- loggia/posting: rising of posts; Check. -/
namespace Go.Proofs.YtkdcnhnaiknaaaaGreat
open Go.RowKit

/-- A post where it lies: the row of its places. -/
structure PoC where
  doc : Int
  pos : List Int
  A : Option Addr
  c : Nat
def PoC.val (x : PoC) : Value := .agg #[.int .i64 x.doc, .slice x.A x.pos.length x.c]
def PoC.cells (x : PoC) : List Value := [.int .i64 x.doc, .slice x.A x.pos.length x.c]
def PoC.po (x : PoC) : Po := (x.doc, x.pos)
def pcells (l : List PoC) : List Value := l.flatMap PoC.cells
theorem pcells_len (l : List PoC) : (pcells l).length = l.length * 2 := flat_len_of (cellsA := PoC.cells) (k := 2) (fun _ => rfl) l
theorem pcells_get {l : List PoC} {i : Nat} {x : PoC} (h : l[i]? = some x) {j : Nat} (hj : j < 2) : (pcells l)[i * 2 + j]? = x.cells[j]? := flat_get_of (cellsA := PoC.cells) (k := 2) (fun _ => rfl) l i x j h hj
theorem pcells_at {w : World} {A : Option Addr} {l : List PoC} (h : Cells w A (pcells l)) {i : Nat} {x : PoC} (hx : l[i]? = some x) : ∃ g o, A = some ⟨g, o, none⟩ ∧ w.cell? ⟨g, o + i * 2, none⟩ = some (.int .i64 x.doc) ∧ w.cell? ⟨g, o + i * 2 + 1, none⟩ = some (.slice x.A x.pos.length x.c) := by
  obtain ⟨g, o, hA, hc⟩ := h.at_ (by rw [pcells_len]; have := (List.getElem?_eq_some_iff.1 hx).1; omega)
  refine ⟨g, o, hA, ?_, ?_⟩
  · have := hc (i * 2 + 0) _ (by rw [pcells_get hx (by omega)]; rfl)
    exact this
  · have := hc (i * 2 + 1) _ (by rw [pcells_get hx (by omega)]; rfl)
    exact this
/-- A row of posts lies at A. -/
structure PosOk (w : World) (A : Option Addr) (l : List PoC) : Prop where
  cells : Cells w A (pcells l)
  each : ∀ x ∈ l, Cells w x.A (x.pos.map IV) ∧ x.pos.length ≤ 1000000000
theorem PosOk.ext {w w1 : World} {A : Option Addr} {l : List PoC} (h : PosOk w A l) (hE : Ext w w1) : PosOk w1 A l := ⟨h.cells.ext hE, fun x hx => ⟨(h.each x hx).1.ext hE, (h.each x hx).2⟩⟩
theorem PosOk.nil (w : World) (A : Option Addr) : PosOk w A [] := ⟨.inl rfl, nofun⟩
def docV : Value := .func (.func 141) #[] #[]
set_option maxRecDepth 100000 in
theorem docv_any (x : PoC) (w : World) : Calls Tryz.prog 141 #[x.val] w fun e w' => e = .returned (.int .i64 x.doc) ∧ Ext w w' := by
  obtain ⟨d, p, A, c⟩ := x
  unfold PoC.val
  go_enter Tryz.func141, Tryz.ntmps141
  go_wp2
  go_ret
  exact ⟨rfl, (Ext.refl w).alloc _⟩
set_option maxRecDepth 100000 in
set_option maxHeartbeats 1000000 in
theorem risingP_any (ps : List PoC) (A : Option Addr) (m c : Nat) (n : Int) (w : World) (hm : m = ps.length) (hc : Cells w A (pcells ps)) (hm9 : m ≤ 1000000000) :
    Calls Tryz.prog 140 #[.slice A m c, .int .i64 n, docV] w fun e w' => e = .returned (.bool (risB n (-1) (ps.map (·.doc)))) ∧ Ext w w' := by
  unfold docV
  have hid := hide (fun x W => docv_any x W)
  obtain ⟨Z, hZ⟩ : ∃ Z, Z = risB n (-1) (ps.map (·.doc)) := ⟨_, rfl⟩
  rw [← hZ]
  replace hZ := hide hZ
  replace hc := hide hc
  replace hm := hide hm
  go_enter Tryz.func140, Tryz.ntmps140
  go_wp2_with fail
  go_loopw [7, 13] (fun s7 s13 wr => ∃ (i : Nat) (p : Int), s7 = .int .i64 p ∧ s13 = .int .i64 (i : Int) ∧ i ≤ m ∧ Hid (Z = risB n p ((ps.drop i).map (·.doc))) ∧ Hid (Ext w wr)) (fun _ s13 _ => m - (intOf s13).toNat)
  case atStart => exact ⟨0, -1, rfl, rfl, by omega, hide (by rw [hZ.out]; rfl), hide (Ext.refl w)⟩
  case round =>
    obtain ⟨i, p, rfl, rfl, hi, hin, hE⟩ := hrel
    by_cases h : i < m
    · obtain ⟨x, hxi⟩ : ∃ x, ps[i]? = some x := ⟨_, List.getElem?_eq_getElem (by rw [← hm.out]; exact h)⟩
      obtain ⟨g, o, hA, hc0, hc1⟩ := pcells_at (hc.out.ext hE.out) hxi
      subst hA
      have hdr : ps.drop i = x :: ps.drop (i + 1) := by
        rw [List.drop_eq_getElem_cons (List.getElem?_eq_some_iff.1 hxi).1]
        congr 1
        exact (List.getElem?_eq_some_iff.1 hxi).2
      have hin2 := hin.out
      rw [hdr, List.map_cons, risB] at hin2
      have hca := hide (fun W => hid.out x W)
      have hEx := hide (fun W => (hE.out.alloc (.cells #[.int .i64 x.doc, .slice x.A x.pos.length x.c] W)))
      replace hxi := hide hxi
      replace hdr := hide hdr
      obtain ⟨d, pos, B, cB⟩ := x
      unfold PoC.val at hca
      simp only at hc0 hc1 hin2 hca hEx
      by_cases h1 : p < d
      · by_cases h2 : d < n
        · rw [decide_eq_true h1, decide_eq_true h2, Bool.true_and, Bool.true_and] at hin2
          replace hin2 := hide hin2
          go_wp2_with fail
          refine (hca.out _).mono ?_
          rintro e w2 ⟨rfl, hE2⟩
          go_wp2_with fail
          exact ⟨⟨i + 1, d, rfl, rfl, by omega, hin2, hide ((hEx.out _).trans hE2)⟩, by simp only [intOf]; omega⟩
        · rw [decide_eq_true h1, decide_eq_false h2, Bool.true_and, Bool.false_and] at hin2
          subst hin2
          go_wp2_with fail
          refine (hca.out _).mono ?_
          rintro e w2 ⟨rfl, hE2⟩
          go_wp2_with fail
          go_ret
          exact ⟨rfl, (hEx.out _).trans hE2⟩
      · rw [decide_eq_false h1, Bool.false_and, Bool.false_and] at hin2
        subst hin2
        go_wp2_with fail
        refine (hca.out _).mono ?_
        rintro e w2 ⟨rfl, hE2⟩
        go_wp2_with fail
        go_ret
        exact ⟨rfl, (hEx.out _).trans hE2⟩
    · obtain rfl : i = m := by omega
      have hZe : Z = true := by rw [hin.out, List.drop_eq_nil_of_le (by rw [← hm.out]; exact Nat.le_refl _), List.map_nil, risB]
      subst hZe
      go_wp2_with fail
      go_ret
      exact ⟨rfl, hE.out⟩
end Go.Proofs.YtkdcnhnaiknaaaaGreat

/- loggia/posting: Check. -/
namespace Go.Proofs.YtkdcnhnaiknaaaaGreat
open Go.RowKit

def okPo (p : Po) : Bool := decide (0 < p.2.length) && risB 1048576 (-1) p.2
theorem okPs_eq (l : List Po) : okPs l = (risB 65536 (-1) (l.map (·.1)) && l.all okPo) := rfl
theorem all_take_snoc {α : Type} {l : List α} {f : α → Bool} {i : Nat} {x : α} (h : l[i]? = some x) : (l.take (i + 1)).all f = ((l.take i).all f && f x) := by
  obtain ⟨hi, rfl⟩ := List.getElem?_eq_some_iff.1 h
  rw [List.take_succ_eq_append_getElem hi, List.all_append]
  simp
set_option maxRecDepth 100000 in
set_option maxHeartbeats 1000000 in
theorem poCheck_any (ps : List PoC) (A : Option Addr) (m c : Nat) (w : World) (hm : m = ps.length) (h : PosOk w A ps) (hm9 : m ≤ 1000000000) :
    Calls Tryz.prog 82 #[.slice A m c] w fun e w' => e = .returned (.int .i64 (if okPs (ps.map PoC.po) then 0 else 80)) ∧ Ext w w' := by
  have hrp := hide (fun W hE => risingP_any ps A m c 65536 W hm (Cells.ext h.cells hE) hm9)
  have hri := hide (fun xs A k c W h1 h2 h3 => risingI_any xs A k c 1048576 W h1 h2 h3)
  obtain ⟨R, hR⟩ : ∃ R, R = risB 65536 (-1) (ps.map (·.doc)) := ⟨_, rfl⟩
  obtain ⟨Z, hZ⟩ : ∃ Z : Int, Z = if okPs (ps.map PoC.po) then 0 else 80 := ⟨_, rfl⟩
  have hZR : okPs (ps.map PoC.po) = (R && ps.all fun x => okPo x.po) := by
    rw [okPs_eq, List.map_map, hR, List.all_map]; rfl
  rw [hZR] at hZ
  rw [hZR, ← hZ]
  rw [← hR] at hrp
  unfold docV at hrp
  unfold idV at hri
  replace hZ := hide hZ
  replace hR := hide hR
  replace hm := hide hm
  replace h := hide h
  clear hZR
  go_enter Tryz.func82, Tryz.ntmps82
  go_wp2_with fail
  refine (hrp.out _ (Ext.refl w)).mono ?_
  rintro e w1 ⟨rfl, hE1⟩
  go_wp2_with fail
  go_loopw [3, 10] (fun s3 s10 wr => ∃ (i : Nat) (b : Bool), s3 = .bool b ∧ s10 = .int .i64 (i : Int) ∧ i ≤ m ∧ Hid (b = (R && (ps.take i).all fun x => okPo x.po)) ∧ Hid (Ext w wr)) (fun _ s10 _ => m - (intOf s10).toNat)
  case atStart => exact ⟨0, R, rfl, rfl, by omega, hide (by simp), hide hE1⟩
  case round =>
    obtain ⟨i, b, rfl, rfl, hi, hb, hE⟩ := hrel
    by_cases hlt : i < m
    · obtain ⟨x, hxi⟩ : ∃ x, ps[i]? = some x := ⟨_, List.getElem?_eq_getElem (by rw [← hm.out]; exact hlt)⟩
      obtain ⟨g, o, hA, hc0, hc1⟩ := pcells_at (h.out.cells.ext hE.out) hxi
      subst hA
      have hx := h.out.each x (List.mem_of_getElem? hxi)
      have hst := all_take_snoc (f := fun x : PoC => okPo x.po) hxi
      obtain ⟨W2, hW2⟩ : ∃ W2, W2 = wr.alloc (.cells #[.int .i64 x.doc, .slice x.A x.pos.length x.c] 107) := ⟨_, rfl⟩
      have hE2 : Ext w W2 := by rw [hW2]; exact hE.out.alloc _
      have hca := hide (fun W hE => hri.out x.pos x.A x.pos.length x.c W rfl (Cells.ext hx.1 (Ext.trans hE2 hE)) hx.2)
      have hr2 : Row W2 wr.heap.size 107 #[.int .i64 x.doc, .slice x.A x.pos.length x.c] := by rw [hW2]; exact Row.new wr _ _
      have hst2 : Hid (∀ v : Bool, v = (b && okPo x.po) → v = (R && (ps.take (i + 1)).all fun x => okPo x.po)) := hide (by
        intro v hv; rw [hv, hb.out, hst, Bool.and_assoc])
      have hokx : okPo x.po = (decide (0 < x.pos.length) && risB 1048576 (-1) x.pos) := rfl
      rw [hokx] at hst2
      have hl9 := hx.2
      replace hst := hide hst
      replace hb := hide hb
      replace hxi := hide hxi
      replace hx := hide hx
      clear hokx
      obtain ⟨d, pos, B, cB⟩ := x
      simp only at hc0 hc1 hca hst2 hr2 hl9 hW2
      obtain ⟨pl, hpl⟩ : ∃ pl, pl = pos.length := ⟨_, rfl⟩
      rw [← hpl] at hc1 hca hst2 hr2 hl9 hW2
      replace hpl := hide hpl
      obtain ⟨g2, hg2⟩ : ∃ g2, g2 = wr.heap.size := ⟨_, rfl⟩
      rw [← hg2] at hr2
      have r0 := hr2.cell 0 rfl
      have r1 := hr2.cell 1 rfl
      replace hr2 := hide hr2
      replace hg2 := hide hg2
      replace hE2 := hide hE2
      replace hW2 := hide hW2
      cases b with
      | false =>
        have hv := hide (hst2.out false rfl)
        clear hst2
        go_upto_region 5 with fail
        rw [← hW2.out, ← hg2.out]
        go_wp2_with fail
        exact ⟨⟨i + 1, false, rfl, rfl, by omega, hv, hE2⟩, by simp only [intOf]; omega⟩
      | true =>
        by_cases h0 : 0 < pl
        · obtain ⟨v, hvr⟩ : ∃ v, v = risB 1048576 (-1) pos := ⟨_, rfl⟩
          rw [← hvr] at hca hst2
          have hv := hide (hst2.out v (by rw [decide_eq_true h0, Bool.true_and, Bool.true_and]))
          clear hst2
          replace hvr := hide hvr
          go_upto_region 5 with fail
          rw [← hW2.out, ← hg2.out]
          go_wp2_with fail
          refine (hca.out _ (Ext.refl W2)).mono ?_
          rintro e w3 ⟨rfl, hE3⟩
          go_wp2_with fail
          exact ⟨⟨i + 1, v, rfl, rfl, by omega, hv, hide (hE2.out.trans hE3)⟩, by simp only [intOf]; omega⟩
        · have hv := hide (hst2.out false (by rw [decide_eq_false h0]; rfl))
          clear hst2
          go_upto_region 5 with fail
          rw [← hW2.out, ← hg2.out]
          go_wp2_with fail
          exact ⟨⟨i + 1, false, rfl, rfl, by omega, hv, hE2⟩, by simp only [intOf]; omega⟩
    · obtain rfl : i = m := by omega
      have hbe := hb.out
      rw [List.take_of_length_le (by rw [← hm.out]; exact Nat.le_refl _)] at hbe
      rw [← hbe] at hZ
      cases b with
      | true =>
        obtain rfl : Z = 0 := hZ.out
        clear hbe hb
        go_wp2_with fail
        go_ret
        exact ⟨rfl, hE.out⟩
      | false =>
        obtain rfl : Z = 80 := hZ.out
        clear hbe hb
        go_wp2_with fail
        go_ret
        exact ⟨rfl, hE.out⟩
end Go.Proofs.YtkdcnhnaiknaaaaGreat

/- Posts as bytes, plainly: what a part of them adds. -/
namespace Go.Proofs.YtkdcnhnaiknaaaaGreat

theorem risB_take {n : Int} : ∀ {l : List Int} {lo : Int} (k : Nat), risB n lo l = true → risB n lo (l.take k) = true
  | [], lo, k, h => by rw [List.take_nil]; exact h
  | x :: t, lo, 0, h => rfl
  | x :: t, lo, k + 1, h => by
    unfold risB at h
    rw [Bool.and_eq_true, Bool.and_eq_true] at h
    rw [List.take_succ_cons, risB, h.1.1, h.1.2, risB_take k h.2]
    rfl
theorem risB_drop {n : Int} : ∀ {l : List Po} {lo : Int} (k : Nat), risB n lo (l.map (·.1)) = true → risB n (lastPo lo (l.take k)) ((l.drop k).map (·.1)) = true
  | [], lo, k, h => by rw [List.drop_nil, List.take_nil]; exact h
  | x :: t, lo, 0, h => h
  | x :: t, lo, k + 1, h => by
    rw [List.map_cons, risB, Bool.and_eq_true, Bool.and_eq_true] at h
    exact risB_drop k h.2
theorem lastPo_bd {n : Int} : ∀ {l : List Po} {lo : Int}, risB n lo (l.map (·.1)) = true → lo < n → lo ≤ lastPo lo l ∧ lastPo lo l < n
  | [], lo, _, h => ⟨Int.le_refl _, h⟩
  | x :: t, lo, h, _ => by
    rw [List.map_cons, risB, Bool.and_eq_true, Bool.and_eq_true] at h
    have h1 := of_decide_eq_true h.1.1
    have h2 := of_decide_eq_true h.1.2
    have := lastPo_bd h.2 h2
    exact ⟨by show lo ≤ lastPo x.1 t; omega, this.2⟩
theorem headPo_len : ∀ (bs : List (List Po)) (lo : Int), (∀ k : Nat, lastPo lo ((bs.take k).flatMap id) < 9223372036854775808 ∧ (blockPo lo ((bs.take k).flatMap id)).length < 9223372036854775808) → (headPo lo bs).length ≤ 20 * bs.length
  | [], lo, _ => by simp [headPo]
  | b :: bs, lo, h => by
    have h1 := h 1
    rw [List.take_succ_cons, List.take_zero, List.flatMap_cons, List.flatMap_nil, List.append_nil] at h1
    have hv := vb_len10 (n := (lastPo lo b).toNat) (by have := h1.1; simp only [id] at this; omega)
    have hv2 := vb_len10 (n := (blockPo lo b).length) (by have := h1.2; simp only [id] at this; omega)
    have ih := headPo_len bs (lastPo lo b) fun k => by
      have := h (k + 1)
      rw [List.take_succ_cons, List.flatMap_cons, lastPo_app, blockPo_app, List.length_append] at this
      exact ⟨this.1, by simp only [id] at this ⊢; omega⟩
    show (vb _ ++ vb _ ++ headPo _ bs).length ≤ _
    rw [List.length_append, List.length_append, List.length_cons]
    omega
theorem stepsL_ge : ∀ (l : List Int) (lo : Int), l.length ≤ (stepsL lo l).length
  | [], lo => by simp
  | x :: t, lo => by
    show _ ≤ (vb _ ++ stepsL x t).length
    have := stepsL_ge t x
    have := vb_pos (x - lo - 1).toNat
    rw [List.length_append, List.length_cons]
    omega
/-- A part's round. -/
structure PoRound (P : List Po) (r : Nat) (bP : List Po) (lst : Int) : Prop where
  part : bP = (P.drop (r * 32)).take 32
  lo : -1 ≤ lst
  hi : lst < 65536
  ris : risB 65536 lst (bP.map (·.1)) = true
  pos : ∀ p ∈ bP, okPo p = true
  hi2 : -1 ≤ lastPo lst bP ∧ lastPo lst bP < 65536
  ne : 0 ≤ lastPo lst bP
  head : headPo (-1) ((chunkL 32 P).take (r + 1)) = headPo (-1) ((chunkL 32 P).take r) ++ (vb (lastPo lst bP).toNat ++ vb (blockPo lst bP).length)
  body : blockPo (-1) (P.take ((r + 1) * 32)) = blockPo (-1) (P.take (r * 32)) ++ blockPo lst bP
  last : lastPo (-1) (P.take (r * 32)) = lst
  last2 : lastPo (-1) (P.take ((r + 1) * 32)) = lastPo lst bP
  len : (blockPo (-1) (P.take (r * 32))).length + (blockPo lst bP).length ≤ (blockPo (-1) P).length
  hlen : (headPo (-1) ((chunkL 32 P).take r)).length ≤ 20 * r
theorem po_take_len (P : List Po) (k : Nat) : (blockPo (-1) (P.take k)).length ≤ (blockPo (-1) P).length := by
  conv => rhs; rw [← List.take_append_drop k P, blockPo_app, List.length_append]
  omega
theorem po_hlen {P : List Po} (hok : okPs P = true) (hsz : (blockPo (-1) P).length ≤ 50000000) (r : Nat) : (headPo (-1) ((chunkL 32 P).take r)).length ≤ 20 * r := by
  rw [okPs_eq, Bool.and_eq_true] at hok
  refine Nat.le_trans (headPo_len _ _ fun k => ?_) (Nat.mul_le_mul_left _ (List.length_take_le _ _))
  rw [List.take_take, chunkL_take (by omega)]
  have h1 := (lastPo_bd (l := P.take (min k r * 32)) (lo := -1) (n := 65536) (by rw [List.map_take]; exact risB_take _ hok.1) (by omega)).2
  have h2 := po_take_len P (min k r * 32)
  omega
theorem po_round {P : List Po} (hok : okPs P = true) (hsz : (blockPo (-1) P).length ≤ 50000000) {r : Nat} (hr : r * 32 < P.length) : PoRound P r ((P.drop (r * 32)).take 32) (lastPo (-1) (P.take (r * 32))) := by
  have hok' := hok
  rw [okPs_eq, Bool.and_eq_true] at hok
  obtain ⟨h1, h2⟩ := hok
  have hb1 := lastPo_bd (l := P.take (r * 32)) (lo := -1) (n := 65536) (by rw [List.map_take]; exact risB_take _ h1) (by omega)
  have hrs := risB_drop (r * 32) h1
  have hrb : risB 65536 (lastPo (-1) (P.take (r * 32))) (((P.drop (r * 32)).take 32).map (·.1)) = true := by rw [List.map_take]; exact risB_take _ hrs
  have hb2 := lastPo_bd hrb (by omega)
  have htk : P.take ((r + 1) * 32) = P.take (r * 32) ++ (P.drop (r * 32)).take 32 := by rw [Nat.succ_mul, List.take_add]
  have hne : 0 ≤ lastPo (lastPo (-1) (P.take (r * 32))) ((P.drop (r * 32)).take 32) := by
    cases hd : (P.drop (r * 32)).take 32 with
    | nil =>
      have := congrArg List.length hd
      rw [List.length_take, List.length_drop, List.length_nil] at this
      omega
    | cons x t =>
      rw [hd, List.map_cons] at hrb
      rw [risB, Bool.and_eq_true, Bool.and_eq_true] at hrb
      have h3 := of_decide_eq_true hrb.1.1
      have h4 := of_decide_eq_true hrb.1.2
      have h5 := lastPo_bd hrb.2 h4
      show 0 ≤ lastPo x.1 t
      omega
  refine ⟨rfl, hb1.1, hb1.2, hrb, fun p hp => List.all_eq_true.1 h2 p (List.mem_of_mem_drop (List.mem_of_mem_take hp)), ⟨by omega, hb2.2⟩, hne, ?_, ?_, rfl, ?_, ?_, po_hlen hok' hsz r⟩
  · rw [List.take_add_one, chunkL_get (by omega) r P hr, headPo_app, chunkL_take (by omega)]
    show _ ++ (vb _ ++ vb _ ++ headPo _ []) = _
    rw [show ∀ lo, headPo lo [] = [] from fun _ => rfl, List.append_nil]
  · rw [htk, blockPo_app]
  · rw [htk, lastPo_app]
  · have := po_take_len P ((r + 1) * 32)
    rw [htk, blockPo_app, List.length_append] at this
    exact this
theorem encPs_all (P : List Po) (r : Nat) (h : P.length ≤ r * 32) : encPs P = vb P.length ++ headPo (-1) ((chunkL 32 P).take r) ++ blockPo (-1) (P.take (r * 32)) := by
  have := chunkL_none (by omega) r P h
  rw [List.take_of_length_le this, List.take_of_length_le h]
  rfl
end Go.Proofs.YtkdcnhnaiknaaaaGreat

/- Events and batches as bytes, plainly. -/
namespace Go.Proofs.YtkdcnhnaiknaaaaGreat
open Go.RowKit

/-- A text's bytes, with how many they are. -/
def txL (s : List UInt8) : List UInt8 := vb s.length ++ s
def getT (most : Nat) (l : List UInt8) : Except Nat (List UInt8 × List UInt8) := match getV 0 l with
  | .error k => .error k
  | .ok (n, r) => if most < n then .error 2 else if r.length < n then .error 6 else .ok (r.take n, r.drop n)
theorem getT_put {most : Nat} {s : List UInt8} (h : s.length ≤ most) (h2 : s.length < 18446744073709551616) (r : List UInt8) : getT most (txL s ++ r) = .ok (s, r) := by
  unfold getT txL
  rw [List.append_assoc, getV_put h2]
  simp only
  rw [if_neg (by omega), if_neg (by rw [List.length_append]; omega), List.take_left' rfl, List.drop_left' rfl]
theorem getT_ok {most : Nat} {l s r : List UInt8} (h : getT most l = .ok (s, r)) : s.length ≤ most ∧ r.length + s.length < l.length ∧ ∃ p, l = p ++ r := by
  unfold getT at h
  split at h
  · cases h
  · rename_i n r0 hg
    obtain ⟨_, _, p, rfl, hp⟩ := getV_lt l 0 n r0 hg
    have hp1 : 1 ≤ p.length := List.length_pos_iff.2 hp
    split at h
    · cases h
    · split at h
      · cases h
      · injection h with h
        injection h with h1 h2
        refine ⟨by rw [← h1, List.length_take]; omega, by rw [← h1, ← h2, List.length_take, List.length_drop, List.length_append]; omega, p ++ r0.take n, ?_⟩
        rw [← h2, List.append_assoc, List.take_append_drop]
def putF (f : Fd) : List UInt8 := txL f.1 ++ txL f.2
def putFs (fs : List Fd) : List UInt8 := fs.flatMap putF
/-- An event's bytes. -/
def putE (e : Ev) : List UInt8 := vb (zig e.at_) ++ vb e.fs.length ++ putFs e.fs
def sizeF (f : Fd) : Nat := f.1.length + f.2.length
def sizeFs (fs : List Fd) : Nat := (fs.map sizeF).sum
/-- What an event counts. -/
def sizeE (e : Ev) : Nat := 16 + sizeFs e.fs
/-- The fields that stand first, so many of them. -/
def getFs : Nat → List UInt8 → Option (List Fd × List UInt8)
  | 0, l => some ([], l)
  | k + 1, l => match getT 32 l with
    | .error _ => none
    | .ok (nm, r) => match getT 4096 r with
      | .error _ => none
      | .ok (tx, r2) => match getFs k r2 with
        | none => none
        | some (fs, r3) => some ((nm, tx) :: fs, r3)
/-- The event that stands first. -/
def getE (l : List UInt8) : Option (Ev × List UInt8) := match getV 0 l with
  | .error _ => none
  | .ok (u, r) => match getV 0 r with
    | .error _ => none
    | .ok (n, r2) => if 16 < n then none else match getFs n r2 with
      | none => none
      | some (fs, r3) => if checkE fs = 0 then some (⟨unzig u, fs⟩, r3) else none
/-- A batch: its first number, its events. -/
structure Bt where
  seq : Int
  es : List Ev
def sizeEs (es : List Ev) : Nat := (es.map sizeE).sum
def checkEs : List Ev → Nat
  | [] => 0
  | e :: es => if checkE e.fs = 0 then checkEs es else checkE e.fs
/-- What is told of a batch. -/
def checkB (b : Bt) : Nat := if b.es.length = 0 then 1 else if 64 < b.es.length then 3 else if checkEs b.es ≠ 0 then checkEs b.es else if 65536 < sizeEs b.es then 2 else if b.seq < 1 ∨ 1099511627776 - (b.es.length : Int) + 1 < b.seq then 5 else 0
def putEs (es : List Ev) : List UInt8 := es.flatMap putE
/-- A batch's bytes. -/
def encB (b : Bt) : List UInt8 := vb b.seq.toNat ++ vb b.es.length ++ putEs b.es
def getEs : Nat → List UInt8 → Option (List Ev × List UInt8)
  | 0, l => some ([], l)
  | k + 1, l => match getE l with
    | none => none
    | some (e, r) => match getEs k r with
      | none => none
      | some (es, r2) => some (e :: es, r2)
/-- The batch of bytes. -/
def decB (l : List UInt8) : Option Bt := match getV 0 l with
  | .error _ => none
  | .ok (q, r) => if 1099511627776 < q then none else match getV 0 r with
    | .error _ => none
    | .ok (n, r2) => if 64 < n then none else match getEs n r2 with
      | none => none
      | some (es, r3) => if r3 = [] ∧ checkB ⟨q, es⟩ = 0 then some ⟨q, es⟩ else none
theorem getFs_put : ∀ (fs : List Fd) (r : List UInt8), (∀ f ∈ fs, f.1.length ≤ 32 ∧ f.2.length ≤ 4096) → getFs fs.length (putFs fs ++ r) = some (fs, r)
  | [], r, _ => rfl
  | f :: fs, r, h => by
    have hf := h f (by simp)
    show getFs (fs.length + 1) _ = _
    unfold getFs
    rw [show putFs (f :: fs) ++ r = txL f.1 ++ (txL f.2 ++ (putFs fs ++ r)) by unfold putFs; rw [List.flatMap_cons]; unfold putF; simp, getT_put hf.1 (by omega)]
    simp only
    rw [getT_put hf.2 (by omega)]
    simp only
    rw [getFs_put fs r fun x hx => h x (by simp [hx])]
theorem checkF_fs : ∀ {fs : List Fd}, checkF fs = 0 → ∀ f ∈ fs, f.1.length ≤ 32 ∧ f.2.length ≤ 4096
  | [], _ => nofun
  | f :: fs, h => by
    unfold checkF at h
    split at h
    · cases h
    · rename_i hn
      split at h
      · cases h
      · intro g hg
        rcases List.mem_cons.1 hg with rfl | hg
        · refine ⟨?_, by omega⟩
          unfold nameL at hn
          simp at hn
          omega
        · exact checkF_fs h g hg
theorem checkE_fs {fs : List Fd} (h : checkE fs = 0) : fs.length ≤ 16 ∧ ∀ f ∈ fs, f.1.length ≤ 32 ∧ f.2.length ≤ 4096 := by
  unfold checkE at h
  split at h
  · cases h
  · exact ⟨by omega, checkF_fs h⟩
theorem getE_put {e : Ev} (ha : I64ok' e.at_) (h : checkE e.fs = 0) (r : List UInt8) : getE (putE e ++ r) = some (e, r) := by
  obtain ⟨h16, hfs⟩ := checkE_fs h
  unfold getE putE
  rw [List.append_assoc, List.append_assoc, getV_put (zig_lt ha.1 ha.2)]
  simp only
  rw [getV_put (by omega)]
  simp only
  rw [if_neg (by omega), getFs_put _ _ hfs]
  simp only
  rw [if_pos h, unzig_zig]
theorem checkEs_all : ∀ {es : List Ev}, checkEs es = 0 → ∀ e ∈ es, checkE e.fs = 0
  | [], _ => nofun
  | x :: es, h => by
    unfold checkEs at h
    split at h
    · rename_i hx
      intro e he
      rcases List.mem_cons.1 he with rfl | he
      · exact hx
      · exact checkEs_all h e he
    · rename_i hx
      exact absurd h hx
theorem checkEs_zero : ∀ {es : List Ev}, (∀ e ∈ es, checkE e.fs = 0) → checkEs es = 0
  | [], _ => rfl
  | e :: es, h => by
    unfold checkEs
    rw [if_pos (h e (by simp))]
    exact checkEs_zero fun x hx => h x (by simp [hx])
theorem checkEs_at : ∀ {es : List Ev} {i : Nat} {e : Ev}, es[i]? = some e → (∀ x ∈ es.take i, checkE x.fs = 0) → checkE e.fs ≠ 0 → checkEs es = checkE e.fs
  | [], i, e, h, _, _ => by simp at h
  | x :: es, 0, e, h, _, hne => by
    obtain rfl : x = e := by simpa using h
    unfold checkEs
    rw [if_neg hne]
  | x :: es, i + 1, e, h, hk, hne => by
    unfold checkEs
    rw [if_pos (hk x (by simp))]
    exact checkEs_at (by simpa using h) (fun y hy => hk y (by simp [hy])) hne
theorem checkB_ok {b : Bt} (h : checkB b = 0) : 1 ≤ b.es.length ∧ b.es.length ≤ 64 ∧ (∀ e ∈ b.es, checkE e.fs = 0) ∧ sizeEs b.es ≤ 65536 ∧ 1 ≤ b.seq ∧ b.seq ≤ 1099511627776 := by
  unfold checkB at h
  split at h
  · cases h
  · split at h
    · cases h
    · split at h
      · rename_i h1; exact absurd h h1
      · rename_i h1
        split at h
        · cases h
        · split at h
          · cases h
          · exact ⟨by omega, by omega, checkEs_all (by omega), by omega, by omega, by omega⟩
theorem getEs_put : ∀ (es : List Ev) (r : List UInt8), (∀ e ∈ es, I64ok' e.at_ ∧ checkE e.fs = 0) → getEs es.length (putEs es ++ r) = some (es, r)
  | [], r, _ => rfl
  | e :: es, r, h => by
    have he := h e (by simp)
    show getEs (es.length + 1) _ = _
    unfold getEs
    rw [show putEs (e :: es) ++ r = putE e ++ (putEs es ++ r) by unfold putEs; rw [List.flatMap_cons, List.append_assoc], getE_put he.1 he.2]
    simp only
    rw [getEs_put es r fun x hx => h x (by simp [hx])]
/-- There and back. -/
theorem decB_enc {b : Bt} (h : checkB b = 0) (ha : ∀ e ∈ b.es, I64ok' e.at_) : decB (encB b) = some b := by
  obtain ⟨h1, h64, hck, _, hs1, hs2⟩ := checkB_ok h
  unfold decB encB
  rw [List.append_assoc, getV_put (by omega)]
  simp only
  rw [if_neg (by omega), getV_put (by omega)]
  simp only
  rw [if_neg (by omega)]
  have hg := getEs_put b.es [] fun e he => ⟨ha e he, hck e he⟩
  rw [List.append_nil] at hg
  rw [hg]
  simp only
  have hq : ((b.seq.toNat : Nat) : Int) = b.seq := by omega
  rw [hq, if_pos ⟨trivial, h⟩]
theorem vb_le10 {n : Nat} (h : n < 18446744073709551616) : (vb n).length ≤ 10 := vb_len10 h
theorem txL_len {s : List UInt8} (h : s.length < 18446744073709551616) : (txL s).length ≤ 10 + s.length := by
  unfold txL
  rw [List.length_append]
  have := vb_le10 h
  omega
theorem putFs_len : ∀ {fs : List Fd}, (∀ f ∈ fs, f.1.length ≤ 32 ∧ f.2.length ≤ 4096) → (putFs fs).length ≤ 20 * fs.length + sizeFs fs
  | [], _ => by simp [putFs, sizeFs]
  | f :: fs, h => by
    have h1 := putFs_len (fs := fs) fun x hx => h x (by simp [hx])
    have hf := h f (by simp)
    have h2 := txL_len (s := f.1) (by omega)
    have h3 := txL_len (s := f.2) (by omega)
    have h4 : (putFs (f :: fs)).length = (txL f.1).length + (txL f.2).length + (putFs fs).length := by unfold putFs; rw [List.flatMap_cons, List.length_append]; unfold putF; rw [List.length_append]
    have h5 : sizeFs (f :: fs) = f.1.length + f.2.length + sizeFs fs := by unfold sizeFs; rw [List.map_cons, List.sum_cons]; rfl
    rw [h4, h5, List.length_cons]
    omega
theorem putE_len {e : Ev} (ha : I64ok' e.at_) (h : checkE e.fs = 0) : (putE e).length ≤ 400 + sizeE e := by
  obtain ⟨h16, hfs⟩ := checkE_fs h
  have h1 := putFs_len hfs
  have h2 := vb_le10 (zig_lt ha.1 ha.2)
  have h3 := vb_le10 (n := e.fs.length) (by omega)
  unfold putE sizeE
  rw [List.length_append, List.length_append]
  omega
theorem putEs_len : ∀ {es : List Ev}, (∀ e ∈ es, I64ok' e.at_ ∧ checkE e.fs = 0) → (putEs es).length ≤ 400 * es.length + sizeEs es
  | [], _ => by simp [putEs, sizeEs]
  | e :: es, h => by
    have h1 := putEs_len (es := es) fun x hx => h x (by simp [hx])
    have he := h e (by simp)
    have h2 := putE_len he.1 he.2
    have h4 : (putEs (e :: es)).length = (putE e).length + (putEs es).length := by unfold putEs; rw [List.flatMap_cons, List.length_append]
    have h5 : sizeEs (e :: es) = sizeE e + sizeEs es := by unfold sizeEs; rw [List.map_cons, List.sum_cons]
    rw [h4, h5, List.length_cons]
    omega
theorem encB_len {b : Bt} (h : checkB b = 0) (ha : ∀ e ∈ b.es, I64ok' e.at_) : (encB b).length ≤ 100000 := by
  obtain ⟨h1, h64, hck, hsz, hs1, hs2⟩ := checkB_ok h
  have h2 := putEs_len fun e he => ⟨ha e he, hck e he⟩
  have h3 := vb_le10 (n := b.seq.toNat) (by omega)
  have h4 := vb_le10 (n := b.es.length) (by omega)
  unfold encB
  rw [List.length_append, List.length_append]
  omega
end Go.Proofs.YtkdcnhnaiknaaaaGreat

/- Stored docs as bytes, plainly. -/
namespace Go.Proofs.YtkdcnhnaiknaaaaGreat

/-- A doc: its number, its event. -/
abbrev Dc := Int × Ev
def okD (p : Dc) : Bool := decide (checkE p.2.fs = 0)
/-- May a row of docs be? -/
def okDs (l : List Dc) : Bool := decide (l.length ≤ 65536) && (risB 1099511627777 0 (l.map (·.1)) && l.all okD)
def oneD (last : Int) (p : Dc) : List UInt8 := vb (p.1 - last - 1).toNat ++ putE p.2
def blockD : Int → List Dc → List UInt8
  | _, [] => []
  | last, p :: t => oneD last p ++ blockD p.1 t
def lastD : Int → List Dc → Int
  | last, [] => last
  | _, p :: t => lastD p.1 t
/-- The heads of parts. -/
def headD : Int → List (List Dc) → List UInt8
  | _, [] => []
  | last, b :: bs => vb (lastD last b).toNat ++ vb (blockD last b).length ++ headD (lastD last b) bs
def encDs (l : List Dc) : List UInt8 := vb l.length ++ headD 0 (chunkL 16 l) ++ blockD 0 l
theorem blockD_app : ∀ (a b : List Dc) (last : Int), blockD last (a ++ b) = blockD last a ++ blockD (lastD last a) b
  | [], b, last => rfl
  | p :: t, b, last => by
    show oneD last p ++ blockD p.1 (t ++ b) = _
    rw [blockD_app t b]
    show _ = (oneD last p ++ blockD p.1 t) ++ blockD (lastD p.1 t) b
    rw [List.append_assoc]
theorem lastD_app : ∀ (a b : List Dc) (last : Int), lastD last (a ++ b) = lastD (lastD last a) b
  | [], b, last => rfl
  | p :: t, b, last => lastD_app t b p.1
theorem headD_app : ∀ (a b : List (List Dc)) (last : Int), headD last (a ++ b) = headD last a ++ headD (lastD last (a.flatMap id)) b
  | [], b, last => rfl
  | p :: t, b, last => by
    show vb (lastD last p).toNat ++ vb (blockD last p).length ++ headD (lastD last p) (t ++ b) = _
    rw [headD_app t b, List.flatMap_cons]
    show _ = (vb (lastD last p).toNat ++ vb (blockD last p).length ++ headD (lastD last p) t) ++ headD (lastD last (p ++ t.flatMap id)) b
    rw [lastD_app, List.append_assoc _ _ (headD _ b)]
theorem risD_drop {n : Int} : ∀ {l : List Dc} {lo : Int} (k : Nat), risB n lo (l.map (·.1)) = true → risB n (lastD lo (l.take k)) ((l.drop k).map (·.1)) = true
  | [], lo, k, h => by rw [List.drop_nil, List.take_nil]; exact h
  | x :: t, lo, 0, h => h
  | x :: t, lo, k + 1, h => by
    rw [List.map_cons, risB, Bool.and_eq_true, Bool.and_eq_true] at h
    exact risD_drop k h.2
theorem lastD_bd {n : Int} : ∀ {l : List Dc} {lo : Int}, risB n lo (l.map (·.1)) = true → lo < n → lo ≤ lastD lo l ∧ lastD lo l < n
  | [], lo, _, h => ⟨Int.le_refl _, h⟩
  | x :: t, lo, h, _ => by
    rw [List.map_cons, risB, Bool.and_eq_true, Bool.and_eq_true] at h
    have h1 := of_decide_eq_true h.1.1
    have h2 := of_decide_eq_true h.1.2
    have := lastD_bd h.2 h2
    exact ⟨by show lo ≤ lastD x.1 t; omega, this.2⟩
theorem headD_len : ∀ (bs : List (List Dc)) (lo : Int), (∀ k : Nat, lastD lo ((bs.take k).flatMap id) < 9223372036854775808 ∧ (blockD lo ((bs.take k).flatMap id)).length < 9223372036854775808) → (headD lo bs).length ≤ 20 * bs.length
  | [], lo, _ => by simp [headD]
  | b :: bs, lo, h => by
    have h1 := h 1
    rw [List.take_succ_cons, List.take_zero, List.flatMap_cons, List.flatMap_nil, List.append_nil] at h1
    have hv := vb_len10 (n := (lastD lo b).toNat) (by have := h1.1; simp only [id] at this; omega)
    have hv2 := vb_len10 (n := (blockD lo b).length) (by have := h1.2; simp only [id] at this; omega)
    have ih := headD_len bs (lastD lo b) fun k => by
      have := h (k + 1)
      rw [List.take_succ_cons, List.flatMap_cons, lastD_app, blockD_app, List.length_append] at this
      exact ⟨this.1, by simp only [id] at this ⊢; omega⟩
    show (vb _ ++ vb _ ++ headD _ bs).length ≤ _
    rw [List.length_append, List.length_append, List.length_cons]
    omega
/-- A part's round. -/
structure SdRound (P : List Dc) (r : Nat) (bP : List Dc) (lst : Int) : Prop where
  part : bP = (P.drop (r * 16)).take 16
  lo : 0 ≤ lst
  hi : lst < 1099511627777
  ris : risB 1099511627777 lst (bP.map (·.1)) = true
  pos : ∀ p ∈ bP, okD p = true
  hi2 : 0 ≤ lastD lst bP ∧ lastD lst bP < 1099511627777
  ne : 0 ≤ lastD lst bP
  head : headD 0 ((chunkL 16 P).take (r + 1)) = headD 0 ((chunkL 16 P).take r) ++ (vb (lastD lst bP).toNat ++ vb (blockD lst bP).length)
  body : blockD 0 (P.take ((r + 1) * 16)) = blockD 0 (P.take (r * 16)) ++ blockD lst bP
  last : lastD 0 (P.take (r * 16)) = lst
  last2 : lastD 0 (P.take ((r + 1) * 16)) = lastD lst bP
  len : (blockD 0 (P.take (r * 16))).length + (blockD lst bP).length ≤ (blockD 0 P).length
  hlen : (headD 0 ((chunkL 16 P).take r)).length ≤ 20 * r
theorem sd_take_len (P : List Dc) (k : Nat) : (blockD 0 (P.take k)).length ≤ (blockD 0 P).length := by
  conv => rhs; rw [← List.take_append_drop k P, blockD_app, List.length_append]
  omega
theorem sd_hlen {P : List Dc} (hok : okDs P = true) (hsz : (blockD 0 P).length ≤ 50000000) (r : Nat) : (headD 0 ((chunkL 16 P).take r)).length ≤ 20 * r := by
  unfold okDs at hok; rw [Bool.and_eq_true, Bool.and_eq_true] at hok; replace hok := hok.2
  refine Nat.le_trans (headD_len _ _ fun k => ?_) (Nat.mul_le_mul_left _ (List.length_take_le _ _))
  rw [List.take_take, chunkL_take (by omega)]
  have h1 := (lastD_bd (l := P.take (min k r * 16)) (lo := 0) (n := 1099511627777) (by rw [List.map_take]; exact risB_take _ hok.1) (by omega)).2
  have h2 := sd_take_len P (min k r * 16)
  omega
theorem sd_round {P : List Dc} (hok : okDs P = true) (hsz : (blockD 0 P).length ≤ 50000000) {r : Nat} (hr : r * 16 < P.length) : SdRound P r ((P.drop (r * 16)).take 16) (lastD 0 (P.take (r * 16))) := by
  have hok' := hok
  unfold okDs at hok; rw [Bool.and_eq_true, Bool.and_eq_true] at hok; replace hok := hok.2
  obtain ⟨h1, h2⟩ := hok
  have hb1 := lastD_bd (l := P.take (r * 16)) (lo := 0) (n := 1099511627777) (by rw [List.map_take]; exact risB_take _ h1) (by omega)
  have hrs := risD_drop (r * 16) h1
  have hrb : risB 1099511627777 (lastD 0 (P.take (r * 16))) (((P.drop (r * 16)).take 16).map (·.1)) = true := by rw [List.map_take]; exact risB_take _ hrs
  have hb2 := lastD_bd hrb (by omega)
  have htk : P.take ((r + 1) * 16) = P.take (r * 16) ++ (P.drop (r * 16)).take 16 := by rw [Nat.succ_mul, List.take_add]
  have hne : 0 ≤ lastD (lastD 0 (P.take (r * 16))) ((P.drop (r * 16)).take 16) := by
    cases hd : (P.drop (r * 16)).take 16 with
    | nil =>
      have := congrArg List.length hd
      rw [List.length_take, List.length_drop, List.length_nil] at this
      omega
    | cons x t =>
      rw [hd, List.map_cons] at hrb
      rw [risB, Bool.and_eq_true, Bool.and_eq_true] at hrb
      have h3 := of_decide_eq_true hrb.1.1
      have h4 := of_decide_eq_true hrb.1.2
      have h5 := lastD_bd hrb.2 h4
      show 0 ≤ lastD x.1 t
      omega
  refine ⟨rfl, hb1.1, hb1.2, hrb, fun p hp => List.all_eq_true.1 h2 p (List.mem_of_mem_drop (List.mem_of_mem_take hp)), ⟨by omega, hb2.2⟩, hne, ?_, ?_, rfl, ?_, ?_, sd_hlen hok' hsz r⟩
  · rw [List.take_add_one, chunkL_get (by omega) r P hr, headD_app, chunkL_take (by omega)]
    show _ ++ (vb _ ++ vb _ ++ headD _ []) = _
    rw [show ∀ lo, headD lo [] = [] from fun _ => rfl, List.append_nil]
  · rw [htk, blockD_app]
  · rw [htk, lastD_app]
  · have := sd_take_len P ((r + 1) * 16)
    rw [htk, blockD_app, List.length_append] at this
    exact this
theorem encDs_all (P : List Dc) (r : Nat) (h : P.length ≤ r * 16) : encDs P = vb P.length ++ headD 0 ((chunkL 16 P).take r) ++ blockD 0 (P.take (r * 16)) := by
  have := chunkL_none (by omega) r P h
  rw [List.take_of_length_le this, List.take_of_length_le h]
  rfl
end Go.Proofs.YtkdcnhnaiknaaaaGreat

/- Entries of a dictionary as bytes, plainly. -/
namespace Go.Proofs.YtkdcnhnaiknaaaaGreat

/-- An entry: a term; where something of it stands. -/
structure En where
  t : List UInt8
  off : Nat
  len : Nat
  n : Nat
/-- How many bytes two texts begin with alike. -/
def cpl : List UInt8 → List UInt8 → Nat
  | x :: a, y :: b => if x = y then cpl a b + 1 else 0
  | _, _ => 0
theorem cpl_le : ∀ (a b : List UInt8), cpl a b ≤ a.length ∧ cpl a b ≤ b.length
  | [], b => by unfold cpl; simp
  | x :: a, [] => by unfold cpl; simp
  | x :: a, y :: b => by
    unfold cpl
    have := cpl_le a b
    split
    · simp only [List.length_cons]; omega
    · simp
theorem cpl_take : ∀ (a b : List UInt8), a.take (cpl a b) = b.take (cpl a b)
  | [], b => by unfold cpl; simp
  | x :: a, [] => by unfold cpl; simp
  | x :: a, y :: b => by
    unfold cpl
    split
    · rename_i h
      rw [List.take_succ_cons, List.take_succ_cons, cpl_take a b, h]
    · simp
/-- One byte more. -/
theorem cpl_drop : ∀ (i : Nat) (a b : List UInt8), a.take i = b.take i → i ≤ a.length → i ≤ b.length → cpl a b = i + cpl (a.drop i) (b.drop i)
  | 0, a, b, _, _, _ => by simp
  | i + 1, [], b, _, h, _ => by simp at h
  | i + 1, x :: a, [], _, _, h => by simp at h
  | i + 1, x :: a, y :: b, h, h1, h2 => by
    rw [List.take_succ_cons, List.take_succ_cons] at h
    injection h with h3 h4
    rw [cpl, if_pos h3, cpl_drop i a b h4 (by simpa using h1) (by simpa using h2), List.drop_succ_cons, List.drop_succ_cons]
    omega
def okEn (e : En) : Prop := e.t.length ≤ 65 ∧ e.off ≤ 67108864 ∧ e.len ≤ 67108864 ∧ e.n ≤ 67108864
structure OkEs (l : List En) : Prop where
  few : l.length ≤ 262144
  each : ∀ e ∈ l, okEn e ∧ e.t ≠ []
  up : l.Pairwise fun a b => a.t < b.t
def enB (last : List UInt8) (e : En) : List UInt8 := vb (cpl last e.t) ++ txL (e.t.drop (cpl last e.t)) ++ (vb e.off ++ vb e.len ++ vb e.n)
def blockE : List UInt8 → List En → List UInt8
  | _, [] => []
  | last, e :: t => enB last e ++ blockE e.t t
def partsE : List (List En) → List UInt8
  | [] => []
  | c :: cs => vb (blockE [] c).length ++ blockE [] c ++ partsE cs
def encEs (l : List En) : List UInt8 := vb l.length ++ partsE (chunkL 16 l)
theorem partsE_app : ∀ (a b : List (List En)), partsE (a ++ b) = partsE a ++ partsE b
  | [], b => rfl
  | c :: cs, b => by
    show vb _ ++ blockE [] c ++ partsE (cs ++ b) = _
    rw [partsE_app cs b, ← List.append_assoc]
    rfl
theorem enB_len {last : List UInt8} {e : En} (h : okEn e) : (enB last e).length ≤ 200 := by
  obtain ⟨h1, h2, h3, h4⟩ := h
  have hc := cpl_le last e.t
  have v1 := vb_len10 (n := cpl last e.t) (by omega)
  have v2 := vb_len10 (n := e.off) (by omega)
  have v3 := vb_len10 (n := e.len) (by omega)
  have v4 := vb_len10 (n := e.n) (by omega)
  have v5 := txL_len (s := e.t.drop (cpl last e.t)) (by rw [List.length_drop]; omega)
  have v6 : (e.t.drop (cpl last e.t)).length ≤ e.t.length := by rw [List.length_drop]; omega
  unfold enB
  simp only [List.length_append]
  omega
theorem blockE_len : ∀ {l : List En} {last : List UInt8}, (∀ e ∈ l, okEn e) → (blockE last l).length ≤ 200 * l.length
  | [], _, _ => by simp [blockE]
  | e :: t, last, h => by
    have h1 := enB_len (last := last) (h e (List.mem_cons_self ..))
    have h2 := blockE_len (l := t) (last := e.t) fun x hx => h x (List.mem_cons_of_mem _ hx)
    show (enB last e ++ blockE e.t t).length ≤ _
    rw [List.length_append, List.length_cons]
    omega
theorem partsE_len : ∀ {cs : List (List En)}, (∀ c ∈ cs, (∀ e ∈ c, okEn e) ∧ c.length ≤ 16) → (partsE cs).length ≤ 3300 * cs.length
  | [], _ => by simp [partsE]
  | c :: cs, h => by
    obtain ⟨h1, h2⟩ := h c (List.mem_cons_self ..)
    have h3 := blockE_len (last := []) h1
    have h4 := partsE_len (cs := cs) fun x hx => h x (List.mem_cons_of_mem _ hx)
    have h5 := vb_len10 (n := (blockE [] c).length) (by omega)
    show (vb _ ++ blockE [] c ++ partsE cs).length ≤ _
    rw [List.length_append, List.length_append, List.length_cons]
    omega
theorem partsE_take {l : List En} (h : ∀ e ∈ l, okEn e) (hl : l.length ≤ 262144) (r : Nat) : (partsE ((chunkL 16 l).take r)).length ≤ 60000000 := by
  have h1 := partsE_len (cs := (chunkL 16 l).take r) fun c hc => ⟨fun e he => h e (chunkL_mem (by omega) (List.mem_of_mem_take hc) e he), (chunkL_ne (by omega) (List.mem_of_mem_take hc)).2⟩
  have h2 : ((chunkL 16 l).take r).length ≤ (chunkL 16 l).length := List.length_take_le' ..
  rw [chunkL_len (by omega)] at h2
  omega
theorem encEs_all (l : List En) (r : Nat) (h : l.length ≤ r * 16) : encEs l = vb l.length ++ partsE ((chunkL 16 l).take r) := by
  have := chunkL_none (by omega) r l h
  rw [List.take_of_length_le this]
  rfl
theorem partsE_next {l : List En} {r : Nat} (h : r * 16 < l.length) : partsE ((chunkL 16 l).take (r + 1)) = partsE ((chunkL 16 l).take r) ++ (vb (blockE [] ((l.drop (r * 16)).take 16)).length ++ blockE [] ((l.drop (r * 16)).take 16)) := by
  rw [List.take_add_one, chunkL_get (by omega) r l h, partsE_app]
  show _ ++ (vb _ ++ blockE [] _ ++ partsE []) = _
  rw [show partsE [] = [] from rfl, List.append_nil]
end Go.Proofs.YtkdcnhnaiknaaaaGreat

/- Filters plainly: a text's bits; which are there. -/
namespace Go.Proofs.YtkdcnhnaiknaaaaGreat

/-- A text's number. -/
def fnvS (h : Nat) (c : UInt8) : Nat := (h ^^^ c.toNat) * 1099511628211 % 18446744073709551616
def fnv (s : List UInt8) : Nat := s.foldl fnvS 14695981039346656037
theorem fnv_snoc (s : List UInt8) (c : UInt8) : fnv (s ++ [c]) = fnvS (fnv s) c := by unfold fnv; rw [List.foldl_append, List.foldl_cons, List.foldl_nil]
theorem fnvS_lt (h : Nat) (c : UInt8) : fnvS h c < 18446744073709551616 := by unfold fnvS; exact Nat.mod_lt _ (by omega)
theorem fnv_lt (s : List UInt8) : fnv s < 18446744073709551616 := by
  have key : ∀ (l : List UInt8) (h : Nat), h < 18446744073709551616 → l.foldl fnvS h < 18446744073709551616 := by
    intro l
    induction l with
    | nil => exact fun h hh => hh
    | cons c l ih => exact fun h _ => ih _ (fnvS_lt h c)
  exact key s _ (by omega)
/-- A text's i-th bit among m. -/
def fpl (s : List UInt8) (m i : Nat) : Nat := (fnv s % 4294967296 + i * (fnv s / 4294967296 ||| 1)) % m
/-- Is a bit there? -/
def hasB (f : List UInt8) (k : Nat) : Bool := decide ((f.getD (k / 8) 0).toNat / 2 ^ (k % 8) % 2 = 1)
def setB (f : List UInt8) (k : Nat) : List UInt8 := f.set (k / 8) (UInt8.ofNat ((f.getD (k / 8) 0).toNat ||| 2 ^ (k % 8)))
/-- A text's bits are set. -/
def addB (f : List UInt8) (s : List UInt8) : List UInt8 := setB (setB (setB (setB f (fpl s (8 * f.length) 0)) (fpl s (8 * f.length) 1)) (fpl s (8 * f.length) 2)) (fpl s (8 * f.length) 3)
/-- How many bytes a filter of n texts has. -/
def filL (n : Nat) : Nat := (min (max (10 * n) 64) 1048576 + 7) / 8
def ofB (ts : List (List UInt8)) : List UInt8 := ts.foldl addB (List.replicate (filL (min ts.length 262144)) 0)
def mayB (f : List UInt8) (s : List UInt8) : Bool := hasB f (fpl s (8 * f.length) 0) && hasB f (fpl s (8 * f.length) 1) && hasB f (fpl s (8 * f.length) 2) && hasB f (fpl s (8 * f.length) 3)
theorem setB_len (f : List UInt8) (k : Nat) : (setB f k).length = f.length := List.length_set ..
theorem addB_len (f : List UInt8) (s : List UInt8) : (addB f s).length = f.length := by unfold addB; rw [setB_len, setB_len, setB_len, setB_len]
theorem filL_bd (n : Nat) : 8 ≤ filL n ∧ filL n ≤ 131072 := by unfold filL; omega
theorem ofB_len (ts : List (List UInt8)) : (ofB ts).length = filL (min ts.length 262144) := by
  have key : ∀ (l : List (List UInt8)) (f : List UInt8), (l.foldl addB f).length = f.length := by
    intro l
    induction l with
    | nil => exact fun f => rfl
    | cons c l ih => exact fun f => by rw [List.foldl_cons, ih, addB_len]
  unfold ofB
  rw [key, List.length_replicate]
theorem or_lt {x k : Nat} (hx : x < 256) (hk : k < 8) : x ||| 2 ^ k < 256 := by
  have : 2 ^ k < 2 ^ 8 := Nat.pow_lt_pow_right (by omega) hk
  exact Nat.or_lt_two_pow (n := 8) hx this
/-- What setting a bit does. -/
theorem hasB_set {f : List UInt8} {k : Nat} (hk : k < 8 * f.length) (j : Nat) : hasB (setB f k) j = (decide (j = k) || hasB f j) := by
  have hkl : k / 8 < f.length := by omega
  have hx := (f.getD (k / 8) 0).toNat_lt
  have ho := or_lt hx (Nat.mod_lt k (show 0 < 8 by omega))
  have hn : (UInt8.ofNat ((f.getD (k / 8) 0).toNat ||| 2 ^ (k % 8))).toNat = (f.getD (k / 8) 0).toNat ||| 2 ^ (k % 8) := by rw [UInt8.toNat_ofNat']; exact Nat.mod_eq_of_lt ho
  have htb : ∀ (x i : Nat), decide (x / 2 ^ i % 2 = 1) = x.testBit i := fun x i => by rw [Nat.testBit_eq_decide_div_mod_eq]
  unfold hasB setB
  by_cases hj : j / 8 = k / 8
  · have hg : (f.set (k / 8) (UInt8.ofNat ((f.getD (k / 8) 0).toNat ||| 2 ^ (k % 8)))).getD (j / 8) 0 = UInt8.ofNat ((f.getD (k / 8) 0).toNat ||| 2 ^ (k % 8)) := by
      rw [hj, List.getD_eq_getElem?_getD, List.getElem?_set, if_pos rfl, if_pos hkl]; rfl
    rw [hg, hn, htb, htb, Nat.testBit_or, Nat.testBit_two_pow, hj, Bool.or_comm]
    congr 1
    by_cases e : j = k
    · rw [e, decide_eq_true rfl, decide_eq_true rfl]
    · rw [decide_eq_false e, decide_eq_false (by omega)]
  · have hg : (f.set (k / 8) (UInt8.ofNat ((f.getD (k / 8) 0).toNat ||| 2 ^ (k % 8)))).getD (j / 8) 0 = f.getD (j / 8) 0 := by
      rw [List.getD_eq_getElem?_getD, List.getElem?_set, if_neg (fun e => hj e.symm), ← List.getD_eq_getElem?_getD]
    rw [hg, decide_eq_false (show ¬ j = k by rintro rfl; exact hj rfl), Bool.false_or]
theorem fpl_lt (s : List UInt8) {m : Nat} (i : Nat) (hm : 0 < m) : fpl s m i < m := Nat.mod_lt _ hm
theorem hasB_add {f : List UInt8} (hf : 0 < f.length) (s : List UInt8) (j : Nat) : hasB (addB f s) j = ((decide (j = fpl s (8 * f.length) 3) || (decide (j = fpl s (8 * f.length) 2) || (decide (j = fpl s (8 * f.length) 1) || (decide (j = fpl s (8 * f.length) 0) || hasB f j))))) := by
  unfold addB
  rw [hasB_set (by rw [setB_len, setB_len, setB_len]; exact fpl_lt s _ (by omega)), hasB_set (by rw [setB_len, setB_len]; exact fpl_lt s _ (by omega)), hasB_set (by rw [setB_len]; exact fpl_lt s _ (by omega)), hasB_set (fpl_lt s _ (by omega))]
/-- What was added may be there. -/
theorem mayB_of {ts : List (List UInt8)} {t : List UInt8} (h : t ∈ ts) : mayB (ofB ts) t = true := by
  have grow : ∀ (l : List (List UInt8)) (f : List UInt8), 0 < f.length → ∀ j, hasB f j = true → hasB (l.foldl addB f) j = true := by
    intro l
    induction l with
    | nil => exact fun f _ j h => h
    | cons c l ih => exact fun f hf j h => ih _ (by rw [addB_len]; exact hf) j (by rw [hasB_add hf, h]; simp)
  have key : ∀ (l : List (List UInt8)) (f : List UInt8), 0 < f.length → t ∈ l → ∀ i, i < 4 → hasB (l.foldl addB f) (fpl t (8 * f.length) i) = true := by
    intro l
    induction l with
    | nil => exact fun f _ h => absurd h List.not_mem_nil
    | cons c l ih =>
      intro f hf hm i hi
      rw [List.foldl_cons]
      rcases List.mem_cons.1 hm with rfl | hm
      · refine grow l _ (by rw [addB_len]; exact hf) _ ?_
        rw [hasB_add hf]
        rcases (show i = 0 ∨ i = 1 ∨ i = 2 ∨ i = 3 by omega) with rfl | rfl | rfl | rfl <;> simp
      · have := ih (addB f c) (by rw [addB_len]; exact hf) hm i hi
        rw [addB_len] at this
        exact this
  have hl : 0 < (List.replicate (filL (min ts.length 262144)) (0 : UInt8)).length := by rw [List.length_replicate]; have := filL_bd (min ts.length 262144); omega
  have hk := key ts _ hl h
  have hlen : 8 * (List.replicate (filL (min ts.length 262144)) (0 : UInt8)).length = 8 * (ofB ts).length := by rw [List.length_replicate, ofB_len]
  rw [hlen] at hk
  have hk2 : ∀ i, i < 4 → hasB (ofB ts) (fpl t (8 * (ofB ts).length) i) = true := hk
  unfold mayB
  have h0 := hk2 0 (by omega)
  have h1 := hk2 1 (by omega)
  have h2 := hk2 2 (by omega)
  have h3 := hk2 3 (by omega)
  rw [h0, h1, h2, h3]
  rfl
end Go.Proofs.YtkdcnhnaiknaaaaGreat

/- slices.Clone of bytes. -/
namespace Go.Proofs.YtkdcnhnaiknaaaaGreat
open Go.RowKit Go.Maps

set_option maxRecDepth 100000 in
theorem clone_any (A : Option Addr) (n c : Nat) (l : List UInt8) (w : World) (hn : n = l.length) (hl : Bs w A l) (hz : A = none → c = 0) (hle : n ≤ 1073741824) :
    Calls Tryz.prog 51 #[.slice A n c] w fun e w' => ∃ A1 c1, e = .returned (.slice A1 n c1) ∧ Buf w' w.heap.size 5 A1 n c1 (l.map B8) ∧ Ext w w' := by
  cases A with
  | none =>
    have h0 : l = [] := by
      rcases hl with h | ⟨_, _, h, _⟩
      · simpa using h
      · cases h
    subst h0
    obtain rfl : c = 0 := hz rfl
    obtain rfl : n = 0 := hn
    have hq := nil_eq w
    go_enter Tryz.func51, Tryz.ntmps51
    go_wp2_with fail
    go_ret
    exact ⟨none, 0, rfl, Buf.nil _ _ _, Ext.refl _⟩
  | some a =>
    have hq := nil_ne a n c w
    have ho := own_empty w 5
    have hE0 : Ext w (w.alloc (.cells #[] 5)) := (Ext.refl w).alloc _
    have hb := hl.ext hE0
    have hln : (l.map B8).length = n * 1 := by rw [List.length_map, hn]; omega
    have hsz : w.heap.size ≤ (w.alloc (.cells #[] 5)).heap.size := hE0.size
    replace hln := hide hln
    replace hn := hide hn
    go_enter Tryz.func51, Tryz.ntmps51
    go_wp2_with (at_builtin; refine wpList_app (m := n) elemB ho hb (.tmp 5) (.tmp 6) rfl rfl rfl rfl rfl hln.out (bytes_one _) (by omega) hsz (fun A1 c1 w3 ho3 hg3 hl3 => ?_))
    go_ret
    refine ⟨A1, c1, rfl, ?_, hE0.grown hg3 (fun k hk => by cases hk; exact Nat.le_refl _)⟩
    have := Buf.of_own ho3
    rw [Nat.zero_add] at this
    exact this
end Go.Proofs.YtkdcnhnaiknaaaaGreat

/- loggia/varint: Put, PutInt, PutAll. -/
namespace Go.Proofs.YtkdcnhnaiknaaaaGreat
open Go.RowKit

theorem vb_round {x m : Nat} {pre : List UInt8} (h : vb x = pre ++ vb m) (hm : 128 ≤ m) : vb x = (pre ++ [UInt8.ofNat (m % 128 + 128)]) ++ vb (m / 128) := by
  rw [h, vb_ge (by omega), List.append_assoc]
  rfl
theorem nat_not (k a : Nat) (h : a < 2 ^ k) : (2 ^ k - 1) ^^^ a = 2 ^ k - 1 - a := by
  apply Nat.eq_of_testBit_eq
  intro i
  rw [Nat.testBit_xor, Nat.testBit_two_pow_sub_one, show 2 ^ k - 1 - a = 2 ^ k - (a + 1) by omega, Nat.testBit_two_pow_sub_succ h]
  by_cases hi : i < k
  · simp [hi]
  · have : a.testBit i = false := Nat.testBit_lt_two_pow (Nat.lt_of_lt_of_le h (Nat.pow_le_pow_right (by omega) (by omega)))
    simp [hi, this]
theorem bits_not64 (a : Nat) (h : a < 18446744073709551616) : bits .xor .u64 IntKind.u64.max (a : Int) = ((18446744073709551615 - a : Nat) : Int) := by
  rw [show IntKind.u64.max = ((18446744073709551615 : Nat) : Int) from rfl, u64_xor_nat _ _ (by omega) h]
  exact congrArg _ (nat_not 64 a h)
theorem bits_not32 (a : Nat) (h : a < 4294967296) : bits .xor .u32 IntKind.u32.max (a : Int) = ((4294967295 - a : Nat) : Int) := by
  rw [show IntKind.u32.max = ((4294967295 : Nat) : Int) from rfl, u32_xor_nat _ _ (by omega) h]
  exact congrArg _ (nat_not 32 a h)
theorem wrap_neg (x : Int) (h : x < 0) (h2 : -9223372036854775808 ≤ x) : IntKind.u64.wrap (IntKind.u64.wrap x * 2) = ((18446744073709551615 - (2 * (-1 - x).toNat + 1) : Nat) : Int) := by
  have e : ∀ y : Int, IntKind.u64.wrap y = y % 18446744073709551616 := fun y => by simp [IntKind.wrap, IntKind.bits, IntKind.signed]
  rw [e, e]
  omega
theorem or_more (m : Nat) : bits .or .u8 ((m : Int) % 256) 128 = ((m % 128 + 128 : Nat) : Int) := by
  have h : ∀ k : Fin 256, k.val ||| 128 = k.val % 128 + 128 := by decide +kernel
  have hk := h ⟨m % 256, by omega⟩
  simp only at hk
  rw [show (m : Int) % 256 = ((m % 256 : Nat) : Int) by omega, show (128 : Int) = ((128 : Nat) : Int) from rfl, u8_or_nat _ _ (by omega) (by omega), hk]
  congr 1
  omega
theorem snoc_B8 (l : List UInt8) {k : Nat} (hk : k < 256) : (l ++ [UInt8.ofNat k]).map B8 = l.map B8 ++ [.int .u8 (k : Int)] := by
  rw [List.map_append, List.map_singleton]
  unfold B8
  rw [UInt8.toNat_ofNat', Nat.mod_eq_of_lt hk]
set_option maxRecDepth 100000 in
set_option maxHeartbeats 1000000 in
theorem put_any (A : Option Addr) (n c x : Nat) (l : List UInt8) (w : World) (hn : n = l.length) (hl : Bs w A l) (hz : A = none → c = 0) (hle : n ≤ 1000000000) (hx : x < 18446744073709551616) :
    Calls Tryz.prog 78 #[.slice A n c, .int .u64 x] w fun e w' => NewB w (l ++ vb x) e w' := by
  have hcl := clone_any A n c l w hn hl hz (by omega)
  have h10 := vb_len10 hx
  replace hcl := hide hcl
  replace hn := hide hn
  clear hl hz
  go_enter Tryz.func78, Tryz.ntmps78
  go_wp2_with fail
  refine hcl.out.mono ?_
  rintro e w1 ⟨A1, c1, rfl, hb1, hE1⟩
  go_wp2_with fail
  go_loopw [1, 5] (fun s1 s5 wr => ∃ (m : Nat) (pre : List UInt8) (A2 : Option Addr) (c2 : Nat), s1 = .int .u64 m ∧ s5 = .slice A2 (n + pre.length) c2 ∧ m < 18446744073709551616 ∧ pre.length ≤ 10 ∧ Hid (vb x = pre ++ vb m) ∧ Hid (Buf wr w.heap.size 5 A2 (n + pre.length) c2 ((l ++ pre).map B8)) ∧ Hid (Ext w wr)) (fun s1 _ _ => (intOf s1).toNat)
  case atStart => exact ⟨x, [], A1, c1, rfl, rfl, hx, by simp, rfl, by rw [List.append_nil]; exact hide hb1, hide hE1⟩
  case round =>
    obtain ⟨m, pre, A2, c2, rfl, rfl, hm, hp, hv, hb, hE⟩ := hrel
    have hsz := hE.out.size
    by_cases h128 : 128 ≤ m
    · have hor := or_more m
      go_wp2_with (at_builtin; refine wpList_bufN elemB hb.out (.tmp 10) (.tmp 14) rfl rfl rfl rfl (one_of rfl) (by simp; omega) hsz (fun A3 c3 w3 hb3 hE3 => ?_))
      go_roundw
      case rel => exact ⟨m / 128, pre ++ [UInt8.ofNat (m % 128 + 128)], A3, c3, by go_num, by rw [List.length_append]; rfl, by omega, (by
        have h1 := congrArg List.length (vb_round hv.out h128)
        have h2 := vb_pos (m / 128)
        rw [List.length_append, List.length_append, List.length_singleton] at h1
        rw [List.length_append, List.length_singleton]
        omega), hide (vb_round hv.out h128), hide (by rw [← List.append_assoc, snoc_B8 _ (by omega), List.length_append]; exact hb3), hide (hE3 w hE.out (Nat.le_refl _))⟩
      case measure => simp [intOf]; omega
    · go_wp2_with (at_builtin; refine wpList_bufN elemB hb.out (.tmp 18) (.tmp 21) rfl rfl rfl rfl (one_of rfl) (by simp; omega) hsz (fun A3 c3 w3 hb3 hE3 => ?_))
      go_ret
      have hl : l ++ vb x = (l ++ pre) ++ [UInt8.ofNat m] := by rw [hv.out, vb_lt (by omega), List.append_assoc]
      have hlen : (l ++ vb x).length = n + pre.length + 1 := by rw [hl, hn.out]; simp; omega
      exact ⟨A3, c3, by rw [hlen]; rfl, by rw [hlen, hl, snoc_B8 _ (by omega)]; exact hb3, hE3 w hE.out (Nat.le_refl _)⟩
set_option maxRecDepth 100000 in
set_option maxHeartbeats 1000000 in
theorem putInt_any (A : Option Addr) (n c : Nat) (x : Int) (l : List UInt8) (w : World) (hn : n = l.length) (hl : Bs w A l) (hz : A = none → c = 0) (hle : n ≤ 1000000000) (hx : -9223372036854775808 ≤ x) (hx2 : x ≤ 9223372036854775807) :
    Calls Tryz.prog 88 #[.slice A n c, .int .i64 x] w fun e w' => NewB w (l ++ vb (zig x)) e w' := by
  have hp := put_any A n c (zig x) l w hn hl hz hle (zig_lt hx hx2)
  have hzd : zig x = if 0 ≤ x then 2 * x.toNat else 2 * (-1 - x).toNat + 1 := rfl
  obtain ⟨Z, hZ⟩ : ∃ Z, Z = zig x := ⟨_, rfl⟩
  rw [← hZ] at hp hzd ⊢
  clear hZ hn hl hz
  replace hp := hide hp
  by_cases h0 : 0 ≤ x
  · rw [if_pos h0] at hzd
    replace hzd := hide hzd
    go_enter Tryz.func88, Tryz.ntmps88
    go_wp2_with fail
    rw [show (x * 2 : Int) = (Z : Int) by have := hzd.out; omega]
    refine hp.out.mono ?_
    rintro e w1 ⟨A1, c1, rfl, hb1, hE1⟩
    go_wp2_with fail
    go_ret
    exact ⟨A1, c1, ret_slice (by rw [List.length_append]), hb1, hE1⟩
  · rw [if_neg h0] at hzd
    have hx64 := zig_lt hx hx2
    unfold zig at hx64
    rw [if_neg h0] at hx64
    have hnot := bits_not64 (18446744073709551615 - (2 * (-1 - x).toNat + 1)) (by omega)
    rw [show 18446744073709551615 - (18446744073709551615 - (2 * (-1 - x).toNat + 1)) = 2 * (-1 - x).toNat + 1 by omega, ← wrap_neg x (by omega) hx, ← hzd] at hnot
    clear hx64
    replace hzd := hide hzd
    replace hnot := hide hnot
    go_enter Tryz.func88, Tryz.ntmps88
    go_wp2_with fail
    rw [hnot.out]
    refine hp.out.mono ?_
    rintro e w1 ⟨A1, c1, rfl, hb1, hE1⟩
    go_wp2_with fail
    go_ret
    exact ⟨A1, c1, ret_slice (by rw [List.length_append]), hb1, hE1⟩
theorem vall_take (xs : List Int) (hx : ∀ x ∈ xs, -9223372036854775808 ≤ x ∧ x ≤ 9223372036854775807) : ∀ i, (vall (xs.take i)).length ≤ 10 * i := by
  induction xs with
  | nil => intro i; simp [vall]
  | cons x xs ih =>
    intro i
    cases i with
    | zero => simp [vall]
    | succ i =>
      have h1 := ih (fun y hy => hx y (List.mem_cons_of_mem _ hy)) i
      have h2 := hx x (List.mem_cons_self ..)
      have h3 := vb_len10 (zig_lt h2.1 h2.2)
      unfold vall at h1 ⊢
      rw [List.take_succ_cons, List.flatMap_cons, List.length_append]
      omega
set_option maxRecDepth 100000 in
set_option maxHeartbeats 1000000 in
theorem putAll_any (A B : Option Addr) (n c k c2 : Nat) (xs : List Int) (l : List UInt8) (w : World) (hn : n = l.length) (hl : Bs w A l) (hz : A = none → c = 0) (hk : k = xs.length) (hxs : Cells w B (xs.map (Value.int .i64))) (hle : n + 10 * k ≤ 1000000000) (hx : ∀ x ∈ xs, -9223372036854775808 ≤ x ∧ x ≤ 9223372036854775807) :
    Calls Tryz.prog 47 #[.slice A n c, .slice B k c2] w fun e w' => NewB w (l ++ vall xs) e w' := by
  have hcl := clone_any A n c l w hn hl hz (by omega)
  have hlen : ∀ i, (vall (xs.take i)).length ≤ 10 * i := vall_take xs hx
  replace hcl := hide hcl
  replace hn := hide hn
  replace hk := hide hk
  replace hx := hide hx
  replace hlen := hide hlen
  clear hl hz
  go_enter Tryz.func47, Tryz.ntmps47
  go_wp2_with fail
  refine hcl.out.mono ?_
  rintro e w1 ⟨A1, c1, rfl, hb1, hE1⟩
  go_wp2_with fail
  go_loopw [5, 12] (fun s5 s12 wr => ∃ (i : Nat) (A2 : Option Addr) (m2 c2 : Nat), s12 = .int .i64 i ∧ i ≤ k ∧ s5 = .slice A2 m2 c2 ∧ Hid (m2 = (l ++ vall (xs.take i)).length) ∧ Hid (Buf wr w.heap.size 5 A2 m2 c2 ((l ++ vall (xs.take i)).map B8)) ∧ Hid (Ext w wr)) (fun _ s12 _ => k - (intOf s12).toNat)
  case atStart => exact ⟨0, A1, n, c1, rfl, by omega, rfl, hide (by rw [hn.out]; simp [vall]), hide (by simpa [vall] using hb1), hide hE1⟩
  case round =>
    obtain ⟨i, A2, m2, c3, rfl, hi, rfl, hm2, hb, hE⟩ := hrel
    by_cases hik : i < k
    · have hik' : i < xs.length := by rw [← hk.out]; exact hik
      obtain ⟨g, o, rfl, hc⟩ := hxs.at_ (by rw [List.length_map]; omega)
      have hxi := hx.out xs[i] (List.getElem_mem hik')
      have hcell := hE.out.cell (hc i (.int .i64 xs[i]) (by rw [List.getElem?_map, List.getElem?_eq_getElem hik']; rfl))
      have hl10 := hlen.out i
      have hpi := putInt_any A2 m2 c3 xs[i] (l ++ vall (xs.take i)) wr hm2.out hb.out.cells hb.out.none_cap (by rw [hm2.out, List.length_append, ← hn.out]; omega) hxi.1 hxi.2
      have hnx : (l ++ vall (xs.take i)) ++ vb (zig xs[i]) = l ++ vall (xs.take (i + 1)) := by
        rw [List.append_assoc, List.take_succ_eq_append_getElem hik']
        unfold vall
        rw [List.flatMap_append]
        simp
      rw [hnx] at hpi
      obtain ⟨X, hX⟩ : ∃ X, X = xs[i] := ⟨_, rfl⟩
      rw [← hX] at hcell hpi hxi
      replace hpi := hide hpi
      clear hX hnx hc hl10
      go_wp2_with fail
      refine hpi.out.mono ?_
      rintro e w3 ⟨A3, c4, rfl, hb3, hE3⟩
      go_wp2_with fail
      go_roundw
      case rel => exact ⟨i + 1, A3, _, c4, by go_num, by omega, rfl, hide (by rw [List.length_append]), hide (by rw [← List.length_append]; exact hb3.lower hE.out.size), hide (hE.out.trans hE3)⟩
      case measure => simp [intOf]; omega
    · have hik2 : i = k := by omega
      have htk : xs.take i = xs := List.take_of_length_le (by rw [hik2, hk.out]; exact Nat.le_refl _)
      rw [htk] at hb hm2
      clear htk hik2
      go_wp2_with fail
      go_ret
      exact ⟨A2, c3, by rw [hm2.out]; rfl, by rw [← hm2.out]; exact hb.out, hE.out⟩
end Go.Proofs.YtkdcnhnaiknaaaaGreat

