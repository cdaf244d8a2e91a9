/- Texts of one proof, joined. -/
import Derived.Test.YtkdcnhnaiknaaaaGreatFD08
import Derived.Test.YtkdcnhnaiknaaaaGreatFD11
import Derived.Test.YtkdcnhnaiknaaaaGreatFD12
import Derived.StringKeys
import Derived.Test.YtkdcnhnaiknaaaaGreatFD07
import Derived.Test.YtkdcnhnaiknaaaaGreatFD03
import Derived.Test.YtkdcnhnaiknaaaaGreatFD05
import Derived.RegionTactic
import Derived.BigRegion
import Derived.Test.YtkdcnhnaiknaaaaGreatFD02
set_option linter.unusedSimpArgs false
set_option linter.unusedVariables false
namespace Go.Proofs.YtkdcnhnaiknaaaaGreat
section
open Go.RowKit Go.Maps
structure IdE where
  s : List UInt8
  ps : List PoC
  A : Option Addr
  c : Nat
def IdE.val (x : IdE) : Value := .slice x.A x.ps.length x.c
def IdE.own (x : IdE) (base : Nat) (W : World) : Prop := W.ownsRow base 107 2 (.slice x.A x.ps.length x.c) x.ps.length (pcells x.ps)
def IdE.far (x y : IdE) : Prop := ∀ a b, x.A = some a → y.A = some b → a.block ≠ b.block
def posAt (base : Nat) (W : World) (y : PoC) : Prop := Buf W base 3 y.A y.pos.length y.c (y.pos.map IV) ∧ y.pos.length ≤ 1000000000
structure IX (base M : Nat) (done : List (List UInt8 × Po)) (E : List IdE) (W : World) : Prop where
  map : ∃ L, MapL Tryz.prog 9 W M L ∧ ∀ p, p ∈ L ↔ ∃ x ∈ E, p = (strV x.s, x.val)
  own : ∀ x ∈ E, x.own base W ∧ psP x.ps = valsOf done x.s ∧ x.ps ≠ []
  pos : ∀ x ∈ E, ∀ y ∈ x.ps, posAt base W y
  uniq : ∀ x ∈ E, ∀ y ∈ E, x.s = y.s → x = y
  apart : ∀ x ∈ E, ∀ y ∈ E, x.s ≠ y.s → IdE.far x y
  all : ∀ p ∈ done, ∃ x ∈ E, x.s = p.1
theorem strV_inj {a b : List UInt8} (h : strV a = strV b) : a = b := by
  unfold strV at h
  injection h with h
  injection h with h
  simpa using h
theorem IX.new {base : Nat} {w : World} : IX base w.heap.size [] [] (w.alloc (.map #[] 0)) :=
  ⟨⟨[], MapL.made w, fun p => by simp⟩, nofun, nofun, nofun, nofun, nofun⟩
theorem IX.ext {base M : Nat} {done : List (List UInt8 × Po)} {E : List IdE} {W W1 : World} (h : IX base M done E W) (hE : Ext W W1) : IX base M done E W1 := by
  obtain ⟨⟨L, hL, hm⟩, ho, hp, hu, ha, hall⟩ := h
  exact ⟨⟨L, hL.ext hE, hm⟩, fun x hx => ⟨hE.owns (ho x hx).1, (ho x hx).2⟩, fun x hx y hy => ⟨(hp x hx y hy).1.ext hE, (hp x hx y hy).2⟩, hu, ha, hall⟩
theorem keyST : Keyed Tryz.prog 9 := string_keyed Tryz.underlying9
theorem key_strV {s : List UInt8} (hs : s.length ≤ 9223372036854775807) : keyOf Tryz.prog 9 (strV s) = some (.string s) := by
  have h := WideMaps.keyOf_string_mk (P := Tryz.prog) Tryz.underlying9 (s := ⟨s.toArray⟩) (by show s.toArray.size ≤ 9223372036854775807; simpa using hs)
  simpa [strV] using h
def IdG (E : List IdE) (s : List UInt8) (x : IdE) : Prop := x.s = s ∧ (x ∈ E ∨ (x.A = none ∧ x.c = 0 ∧ x.ps = [] ∧ ∀ y ∈ E, y.s ≠ s))
theorem IX.get {base M : Nat} {done : List (List UInt8 × Po)} {E : List IdE} {W : World} (h : IX base M done E W) (s : List UInt8) (hs : s.length ≤ 9223372036854775807) :
    ∃ x, IdG E s x ∧ x.own base W ∧ psP x.ps = valsOf done s ∧ ∀ W1, Ext W W1 → (Instr.lookup 91 (.map (some M)) (strV s) false).run Tryz.prog W1 = .ok (.slice x.A x.ps.length x.c) W1 := by
  obtain ⟨L, hL, hm⟩ := h.map
  have hz : ∀ W, (zeroValue 43).run Tryz.prog W = .ok (.slice none 0 0) W := fun W => by kernel_rfl
  rcases hL.look keyST Tryz.underlying91 (key_strV hs) (hz W) false with ⟨v, hv, _⟩ | ⟨hno, _⟩
  · obtain ⟨x, hx, he⟩ := (hm _).1 hv
    injection he with h1 h2
    have hxs := strV_inj h1
    subst hxs
    have := h.own x hx
    refine ⟨x, ⟨rfl, .inl hx⟩, this.1, this.2.1, fun W1 hE => ?_⟩
    rcases (hL.ext hE).look keyST Tryz.underlying91 (key_strV hs) (hz W1) false with ⟨u, hu, hr⟩ | ⟨hno, _⟩
    · rw [hr, hL.unique hu hv, h2]; rfl
    · exact absurd rfl (hno _ hv)
  · have hne : ∀ y ∈ E, y.s ≠ s := fun y hy e => hno (strV y.s, y.val) ((hm _).2 ⟨y, hy, rfl⟩) (by rw [e])
    refine ⟨⟨s, [], none, 0⟩, ⟨rfl, .inr ⟨rfl, rfl, rfl, hne⟩⟩, World.ownsRow_nil _ _ _ _, ?_, fun W1 hE => ?_⟩
    · show [] = _
      exact (vals_none fun p hp e => by
        obtain ⟨y, hy, hys⟩ := h.all p hp
        exact hne y hy (hys.trans e)).symm
    · rcases (hL.ext hE).look keyST Tryz.underlying91 (key_strV hs) (hz W1) false with ⟨u, hu, _⟩ | ⟨_, hr⟩
      · exact absurd rfl (hno _ hu)
      · exact hr
theorem map_not_own {base M : Nat} {W : World} {L : List (Value × Value)} (h : MapL Tryz.prog 9 W M L) {e size n : Nat} {v : Value} {xs : List Value} (ho : W.ownsRow base e size v n xs) : v.ownBlock ≠ some M := fun hg => by
  obtain ⟨cur, hc, _⟩ := owns_row ho hg
  obtain ⟨⟨es, cl, h1, _⟩, _⟩ := h
  unfold Row at hc
  rw [h1] at hc
  cases hc
theorem map_not_row {M : Nat} {W : World} {L : List (Value × Value)} (h : MapL Tryz.prog 9 W M L) {g t : Nat} {cs : Array Value} (hr : Row W g t cs) : g ≠ M := fun hg => by
  obtain ⟨⟨es, cl, h1, _⟩, _⟩ := h
  unfold Row at hr
  rw [hg, h1] at hr
  cases hr
theorem MapL.same {k : TypeId} {w : World} {m : Nat} {L L' : List (Value × Value)} (h : MapL Tryz.prog k w m L) (h' : MapL Tryz.prog k w m L') : L = L' := by
  obtain ⟨⟨es, cl, h1, h2, _⟩, _⟩ := h
  obtain ⟨⟨es', cl', h1', h2', _⟩, _⟩ := h'
  rw [h1] at h1'
  cases h1'
  exact h2.symm.trans h2'
theorem psP_snoc (l : List PoC) (x : PoC) : psP (l ++ [x]) = psP l ++ [x.po] := by unfold psP; rw [List.map_append]; rfl
theorem pcells_snoc (l : List PoC) (x : PoC) : pcells (l ++ [x]) = pcells l ++ x.cells := by
  unfold pcells
  rw [List.flatMap_append]
  simp
theorem IX.put {base M : Nat} {done : List (List UInt8 × Po)} {E : List IdE} {W w8 w9 : World} (h : IX base M done E W) {s : List UInt8} {x : IdE} (hx : IdG E s x) (hxo : x.own base W) (hxp : psP x.ps = valsOf done s)
    {y : PoC} {A1 : Option Addr} {c1 : Nat} (hg : W.grownBy w8 (Value.slice x.A x.ps.length x.c).ownBlock) (ho : w8.ownsRow base 107 2 (.slice A1 (x.ps.length + 1) c1) (x.ps.length + 1) (pcells x.ps ++ y.cells))
    (hA : (Value.slice A1 (x.ps.length + 1) c1).ownBlock = (Value.slice x.A x.ps.length x.c).ownBlock ∨ ∃ k, (Value.slice A1 (x.ps.length + 1) c1).ownBlock = some k ∧ W.heap.size ≤ k) (hy : posAt base W y)
    (h9 : ∀ L, MapL Tryz.prog 9 w8 M L → (∀ p, p ∈ L ↔ ∃ x ∈ E, p = (strV x.s, x.val)) → ∃ L', MapL Tryz.prog 9 w9 M L' ∧ Put L (strV s) (.slice A1 (x.ps.length + 1) c1) L' ∧ w8.grownBy w9 (some M)) :
    IX base M (done ++ [(s, y.po)]) (⟨s, x.ps ++ [y], A1, c1⟩ :: E.filter fun z => decide (z.s ≠ s)) w9 := by
  obtain ⟨L, hL, hm⟩ := h.map
  have hL8 : MapL Tryz.prog 9 w8 M L := hL.grown hg (map_not_own hL hxo)
  obtain ⟨L', hL', hput, hg9⟩ := h9 L hL8 hm
  have hlen : (x.ps ++ [y]).length = x.ps.length + 1 := by rw [List.length_append]; rfl
  have hmem : ∀ z, z ∈ (E.filter fun z => decide (z.s ≠ s)) ↔ z ∈ E ∧ z.s ≠ s := fun z => by rw [List.mem_filter]; simp
  have hrow9 : ∀ g t cs, Row w8 g t cs → Row w9 g t cs := fun g t cs hr => hr.grown hg9 fun e => map_not_row hL8 hr (by injection e)
  have hown9 : ∀ {b e size n : Nat} {v : Value} {xs : List Value}, w8.ownsRow b e size v n xs → w9.ownsRow b e size v n xs := fun hh =>
    (Chg.of_grown (S := fun k => k = M) hg9 (fun k _ e => by injection e with e; exact e.symm)).owns hh fun g hgv e => map_not_own hL8 hh (by rw [hgv, e])
  have hfarx : ∀ z ∈ E, z.s ≠ s → ∀ a, x.A = some a → ∀ b, z.A = some b → b.block ≠ a.block := fun z hz hne a ha b hb => by
    rcases hx.2 with hxE | ⟨hn, _⟩
    · exact h.apart z hz x hxE (fun e => hne (e.trans hx.1)) b a hb ha
    · rw [hn] at ha; cases ha
  have hother : ∀ z ∈ E, z.s ≠ s → z.own base w9 := fun z hz hne => by
    refine hown9 ?_
    refine (Chg.of_grown (S := fun k => (Value.slice x.A x.ps.length x.c).ownBlock = some k) hg (fun k _ e => e)).owns (h.own z hz).1 fun g hgz hgx => ?_
    cases hzA : z.A with
    | none => rw [hzA] at hgz; simp [Value.ownBlock] at hgz
    | some b =>
      cases hxA : x.A with
      | none => rw [hxA] at hgx; simp [Value.ownBlock] at hgx
      | some a =>
        rw [hzA] at hgz; rw [hxA] at hgx
        simp [Value.ownBlock] at hgz hgx
        exact hfarx z hz hne a hxA b hzA (hgz.trans hgx.symm)
  have hpos9 : ∀ u, posAt base W u → posAt base w9 u := fun u hu => by
    have q := og_buf hxo hg hu.1 (by decide)
    exact ⟨q.grown hg9 fun a ha e => by
      injection e with e
      rcases q.2.2 with ⟨h0, _⟩ | ⟨g', cur, hA', _, hr, _⟩
      · rw [h0] at ha; cases ha
      · rw [hA'] at ha
        cases ha
        exact map_not_row hL8 hr e.symm, hu.2⟩
  have hv1 : valsOf (done ++ [(s, y.po)]) s = valsOf done s ++ [y.po] := by rw [valsOf_append, valsOf_one, if_pos rfl]
  have hv2 : ∀ t, t ≠ s → valsOf (done ++ [(s, y.po)]) t = valsOf done t := fun t ht => by rw [valsOf_append, valsOf_one, if_neg (fun e => ht e.symm), List.append_nil]
  refine ⟨⟨L', hL', fun p => ?_⟩, fun z hz => ?_, fun z hz u hu => ?_, fun z hz u hu hzu => ?_, fun z hz u hu hzu => ?_, fun p hp => ?_⟩
  · rw [hput.mem]
    constructor
    · rintro (rfl | ⟨hp, hne⟩)
      · exact ⟨_, List.mem_cons_self .., by unfold IdE.val; simp only [hlen]⟩
      · obtain ⟨z, hz, rfl⟩ := (hm _).1 hp
        exact ⟨z, List.mem_cons_of_mem _ ((hmem z).2 ⟨hz, fun e => hne (by rw [e])⟩), rfl⟩
    · rintro ⟨z, hz, rfl⟩
      rcases List.mem_cons.1 hz with rfl | hz
      · exact .inl (by unfold IdE.val; simp only [hlen])
      · obtain ⟨hz1, hz2⟩ := (hmem z).1 hz
        exact .inr ⟨(hm _).2 ⟨z, hz1, rfl⟩, fun e => hz2 (strV_inj e)⟩
  · rcases List.mem_cons.1 hz with rfl | hz
    · refine ⟨?_, ?_, by simp⟩
      · show w9.ownsRow base _ 2 (.slice A1 (x.ps ++ [y]).length c1) (x.ps ++ [y]).length (pcells (x.ps ++ [y]))
        rw [hlen, pcells_snoc]
        exact hown9 ho
      · show psP (x.ps ++ [y]) = valsOf _ s
        rw [psP_snoc, hxp, hv1]
    · obtain ⟨hz1, hz2⟩ := (hmem z).1 hz
      exact ⟨hother z hz1 hz2, by rw [hv2 _ hz2]; exact (h.own z hz1).2.1, (h.own z hz1).2.2⟩
  · rcases List.mem_cons.1 hz with rfl | hz
    · rcases List.mem_append.1 hu with hu | hu
      · rcases hx.2 with hxE | ⟨_, _, hn, _⟩
        · exact hpos9 u (h.pos x hxE u hu)
        · rw [hn] at hu; cases hu
      · rw [List.mem_singleton.1 hu]; exact hpos9 y hy
    · exact hpos9 u (h.pos z ((hmem z).1 hz).1 u hu)
  · rcases List.mem_cons.1 hz with rfl | hz <;> rcases List.mem_cons.1 hu with rfl | hu
    · rfl
    · exact absurd hzu.symm ((hmem u).1 hu).2
    · exact absurd hzu ((hmem z).1 hz).2
    · exact h.uniq z ((hmem z).1 hz).1 u ((hmem u).1 hu).1 hzu
  · have key : ∀ z ∈ E, z.s ≠ s → ∀ a b, A1 = some a → z.A = some b → b.block ≠ a.block := fun z hz hne a b ha hb e => by
      rcases hA with hA | hA
      · rw [ha] at hA
        cases hxA : x.A with
        | none => rw [hxA] at hA; simp [Value.ownBlock] at hA
        | some a' =>
          rw [hxA] at hA
          simp [Value.ownBlock] at hA
          exact hfarx z hz hne a' hxA b hb (e.trans hA)
      · obtain ⟨k, hA, h1⟩ := hA
        rw [ha] at hA
        simp [Value.ownBlock] at hA
        obtain ⟨cur, hc, _⟩ := owns_row (h.own z hz).1 (g := b.block) (by rw [hb]; rfl)
        have := hc.lt
        omega
    rcases List.mem_cons.1 hz with rfl | hz <;> rcases List.mem_cons.1 hu with rfl | hu
    · exact absurd rfl hzu
    · exact fun a b ha hb e => key u ((hmem u).1 hu).1 ((hmem u).1 hu).2 a b ha hb e.symm
    · exact fun a b ha hb => key z ((hmem z).1 hz).1 ((hmem z).1 hz).2 b a hb ha
    · exact h.apart z ((hmem z).1 hz).1 u ((hmem u).1 hu).1 hzu
  · rcases List.mem_append.1 hp with hp | hp
    · obtain ⟨z, hz, hzs⟩ := h.all p hp
      by_cases hs : p.1 = s
      · exact ⟨_, List.mem_cons_self .., hs.symm⟩
      · exact ⟨z, List.mem_cons_of_mem _ ((hmem z).2 ⟨hz, by rw [hzs]; exact hs⟩), hzs⟩
    · rw [List.mem_singleton.1 hp]
      exact ⟨_, List.mem_cons_self .., rfl⟩
end
section
open Go.RowKit
structure DocC where
  seq : Int
  e : Ev
  A : Option Addr
  c : Nat
def DocC.cells (x : DocC) : List Value := [.int .i64 x.seq, .int .i64 x.e.at_, .slice x.A x.e.fs.length x.c]
def DocC.val (x : DocC) : Value := .agg #[.int .i64 x.seq, .int .i64 x.e.at_, .slice x.A x.e.fs.length x.c]
def DocC.dc (x : DocC) : Dc := (x.seq, x.e)
def dcells (l : List DocC) : List Value := l.flatMap DocC.cells
def dcs (l : List DocC) : List Dc := l.map DocC.dc
theorem dcells_len (l : List DocC) : (dcells l).length = l.length * 3 := flat_len_of (cellsA := DocC.cells) (k := 3) (fun _ => rfl) l
theorem dcells_get {l : List DocC} {i : Nat} {x : DocC} (h : l[i]? = some x) {j : Nat} (hj : j < 3) : (dcells l)[i * 3 + j]? = x.cells[j]? := flat_get_of (cellsA := DocC.cells) (k := 3) (fun _ => rfl) l i x j h hj
theorem dcells_at {w : World} {A : Option Addr} {l : List DocC} (h : Cells w A (dcells l)) {i : Nat} {x : DocC} (hx : l[i]? = some x) : ∃ g o, A = some ⟨g, o, none⟩ ∧ w.cell? ⟨g, o + i * 3, none⟩ = some (.int .i64 x.seq) ∧ w.cell? ⟨g, o + i * 3 + 1, none⟩ = some (.int .i64 x.e.at_) ∧ w.cell? ⟨g, o + i * 3 + 2, none⟩ = some (.slice x.A x.e.fs.length x.c) := by
  obtain ⟨g, o, hA, hc⟩ := h.at_ (by rw [dcells_len]; have := (List.getElem?_eq_some_iff.1 hx).1; omega)
  refine ⟨g, o, hA, ?_, ?_, ?_⟩
  · have := hc (i * 3 + 0) _ (by rw [dcells_get hx (by omega)]; rfl)
    exact this
  · have := hc (i * 3 + 1) _ (by rw [dcells_get hx (by omega)]; rfl)
    exact this
  · have := hc (i * 3 + 2) _ (by rw [dcells_get hx (by omega)]; rfl)
    exact this
structure DocsOk (w : World) (A : Option Addr) (l : List DocC) : Prop where
  cells : Cells w A (dcells l)
  each : ∀ x ∈ l, x.e.Ok w x.A ∧ I64ok' x.e.at_ ∧ I64ok' x.seq
theorem DocsOk.ext {w w1 : World} {A : Option Addr} {l : List DocC} (h : DocsOk w A l) (hE : Ext w w1) : DocsOk w1 A l := ⟨h.cells.ext hE, fun x hx => ⟨(h.each x hx).1.ext hE, (h.each x hx).2⟩⟩
theorem DocsOk.nil (w : World) (A : Option Addr) : DocsOk w A [] := ⟨.inl rfl, nofun⟩
theorem DocsOk.part {w : World} {A : Option Addr} {ps : List DocC} (h : DocsOk w A ps) (hA : ∀ a, A = some a → a.spot = none) (i m : Nat) : DocsOk w (A.map fun a => a.add (i * 3)) ((ps.drop i).take m) := by
  refine ⟨?_, fun x hx => h.each x (List.mem_of_mem_drop (List.mem_of_mem_take hx))⟩
  unfold dcells
  rw [flat_take (f := DocC.cells) (k := 3) (fun _ => rfl), flat_part (f := DocC.cells) (k := 3) (fun _ => rfl)]
  exact h.cells.part hA _ _
def ckD (lo : Int) (l : List Dc) : Bool := risB 1099511627777 lo (l.map (·.1)) && l.all okD
theorem ckD_cons (lo : Int) (x : Dc) (t : List Dc) : ckD lo (x :: t) = (decide (lo < x.1) && decide (x.1 < 1099511627777) && decide (checkE x.2.fs = 0) && ckD x.1 t) := by
  unfold ckD
  rw [List.map_cons, risB, List.all_cons]
  unfold okD
  cases decide (lo < x.1) <;> cases decide (x.1 < 1099511627777) <;> cases decide (checkE x.2.fs = 0) <;> simp
set_option maxRecDepth 100000 in
set_option maxHeartbeats 2000000 in
theorem sdCheck_any (ds : List DocC) (A : Option Addr) (m c : Nat) (w : World) (hm : m = ds.length) (h : DocsOk w A ds) (hm9 : m ≤ 1000000000) :
    Calls Tryz.prog 77 #[.slice A m c] w fun e w' => e = .returned (.int .i64 (if okDs (dcs ds) then 0 else 120)) ∧ Ext w w' := by
  have hck := hide (fun (e : Ev) B d W h => echeck_any e B d W h)
  obtain ⟨Z, hZ⟩ : ∃ Z, Z = okDs (dcs ds) := ⟨_, rfl⟩
  rw [← hZ]
  have hlen : (dcs ds).length = m := by unfold dcs; rw [List.length_map, hm]
  by_cases hbig : 65536 < m
  · have hZf : Z = false := by
      rw [hZ]; unfold okDs; rw [hlen, decide_eq_false (by omega)]; rfl
    subst hZf
    have hb' : (65536 : Int) < m := by omega
    clear hZ hck h
    go_enter Tryz.func77, Tryz.ntmps77
    go_wp2_with fail
    go_ret
    exact ⟨rfl, Ext.refl _⟩
  · have hb' : ¬ (65536 : Int) < m := by omega
    have hZ2 : Z = ckD 0 (dcs ds) := by
      rw [hZ]; unfold okDs; rw [hlen, decide_eq_true (by omega)]; rfl
    replace hZ := hide hZ2
    clear hZ2
    replace hm := hide hm
    replace h := hide h
    replace hlen := hide hlen
    go_enter Tryz.func77, Tryz.ntmps77
    go_wp2_with fail
    go_loopw [3, 11] (fun s3 s11 wr => ∃ (i : Nat) (la : Int), s3 = .int .i64 la ∧ s11 = .int .i64 (i : Int) ∧ i ≤ m ∧ Hid (Z = ckD la (dcs (ds.drop i))) ∧ Hid (Ext w wr)) (fun _ s11 _ => m - (intOf s11).toNat)
    case atStart => exact ⟨0, 0, rfl, rfl, by omega, hide (by rw [hZ.out]; rfl), hide (Ext.refl w)⟩
    case round =>
      obtain ⟨i, la, rfl, rfl, hi, hb, hE⟩ := hrel
      by_cases hlt : i < m
      · obtain ⟨x, hxi⟩ : ∃ x, ds[i]? = some x := ⟨_, List.getElem?_eq_getElem (by rw [← hm.out]; exact hlt)⟩
        obtain ⟨g, o, hA, hc0, hc1, hc2⟩ := dcells_at (h.out.cells.ext hE.out) hxi
        subst hA
        have hx := h.out.each x (List.mem_of_getElem? hxi)
        have hbx := hb.out
        rw [drop_step hxi] at hbx
        unfold dcs at hbx
        rw [List.map_cons, ckD_cons] at hbx
        obtain ⟨W2, hW2⟩ : ∃ W2, W2 = wr.alloc (.cells #[.int .i64 x.seq, .int .i64 x.e.at_, .slice x.A x.e.fs.length x.c] 39) := ⟨_, rfl⟩
        have hE2 : Ext w W2 := by rw [hW2]; exact hE.out.alloc _
        have hca := hck.out x.e x.A x.c W2 (hx.1.ext hE2)
        have hr2 : Row W2 wr.heap.size 39 #[.int .i64 x.seq, .int .i64 x.e.at_, .slice x.A x.e.fs.length x.c] := by rw [hW2]; exact Row.new wr _ _
        obtain ⟨g2, hg2⟩ : ∃ g2, g2 = wr.heap.size := ⟨_, rfl⟩
        rw [← hg2] at hr2
        have r0 := hr2.cell 0 rfl
        have r1 := hr2.cell 1 rfl
        have r2 := hr2.cell 2 rfl
        unfold Ev.val at hca
        obtain ⟨seq, ⟨at_, fs⟩, B, cB⟩ := x
        change Z = (decide (la < seq) && decide (seq < 1099511627777) && decide (checkE fs = 0) && ckD seq (dcs (ds.drop (i + 1)))) at hbx
        simp only at hc0 hc1 hc2 hca hW2 r0 r1 r2
        obtain ⟨fl, hfl⟩ : ∃ fl, fl = fs.length := ⟨_, rfl⟩
        rw [← hfl] at hc2 hca hW2 hr2 r2
        replace hca := hide hca
        replace hr2 := hide hr2
        replace hg2 := hide hg2
        replace hE2 := hide hE2
        replace hW2 := hide hW2
        replace hfl := hide hfl
        replace hx := hide hx
        replace hxi := hide hxi
        clear hb
        by_cases h1 : seq ≤ la
        · rw [decide_eq_false (by omega), Bool.false_and, Bool.false_and, Bool.false_and] at hbx
          subst hbx
          go_upto_region 7 with fail
          rw [← hW2.out, ← hg2.out]
          go_wp2_with fail
          go_ret
          exact ⟨rfl, hE2.out⟩
        · by_cases h2 : 1099511627776 < seq
          · rw [decide_eq_false (p := seq < 1099511627777) (by omega), Bool.and_false, Bool.false_and, Bool.false_and] at hbx
            subst hbx
            go_upto_region 7 with fail
            rw [← hW2.out, ← hg2.out]
            go_wp2_with fail
            go_ret
            exact ⟨rfl, hE2.out⟩
          · rw [decide_eq_true (p := la < seq) (by omega), decide_eq_true (p := seq < 1099511627777) (by omega), Bool.true_and, Bool.true_and] at hbx
            by_cases h3 : checkE fs = 0
            · rw [decide_eq_true h3, Bool.true_and] at hbx
              rw [h3] at hca
              replace hbx := hide hbx
              go_upto_region 7 with fail
              rw [← hW2.out, ← hg2.out]
              go_wp2_with fail
              refine hca.out.mono ?_
              rintro e w3 ⟨rfl, hE3⟩
              have q0 := (hr2.out.ext hE3).cell 0 rfl
              go_wp2_with fail
              exact ⟨⟨i + 1, seq, rfl, rfl, by omega, hbx, hide (hE2.out.trans hE3)⟩, by simp only [intOf]; omega⟩
            · rw [decide_eq_false h3, Bool.false_and] at hbx
              subst hbx
              obtain ⟨k, hk⟩ : ∃ k, k = checkE fs := ⟨_, rfl⟩
              rw [← hk] at hca h3
              have h3' : ¬ (k : Int) = 0 := by omega
              replace hk := hide hk
              go_upto_region 7 with fail
              rw [← hW2.out, ← hg2.out]
              go_wp2_with fail
              refine hca.out.mono ?_
              rintro e w3 ⟨rfl, hE3⟩
              go_wp2_with fail
              go_ret
              exact ⟨rfl, hE2.out.trans hE3⟩
      · obtain rfl : i = m := by omega
        have hZe : Z = true := by rw [hb.out, List.drop_eq_nil_of_le (by rw [← hm.out]; exact Nat.le_refl _)]; rfl
        subst hZe
        go_wp2_with fail
        go_ret
        exact ⟨rfl, hE.out⟩
end
section
open Go.RowKit
theorem buf_nil {w : World} {base n c : Nat} {e : TypeId} {A : Option Addr} {xs : List Value} (h : Buf w base e A n c xs) : A = none → c = 0 := fun hA => by
  rcases h.2.2 with ⟨_, h⟩ | ⟨g, _, h, _⟩
  · exact h
  · rw [h] at hA; cases hA
set_option maxRecDepth 100000 in
set_option maxHeartbeats 2000000 in
theorem times_any (ds : List DocC) (A : Option Addr) (m c : Nat) (w : World) (hm : m = ds.length) (h : DocsOk w A ds) (hle : m ≤ 1000000) :
    Calls Tryz.prog 44 #[.slice A m c] w fun e w' => NewB w (timesD 0 (dcs ds)) e w' := by
  have hpi := hide (fun A n c x l W h1 h2 h3 h4 h5 h6 => putInt_any A n c x l W h1 h2 h3 h4 h5 h6)
  have htl : ∀ i, (timesD 0 (dcs (ds.take i))).length ≤ 10 * i := fun i => by
    have := timesD_len (dcs (ds.take i)) 0
    have h2 : (dcs (ds.take i)).length ≤ i := by unfold dcs; rw [List.length_map, List.length_take]; omega
    omega
  replace htl := hide htl
  replace h := hide h
  replace hm := hide hm
  go_enter Tryz.func44, Tryz.ntmps44
  go_wp2_with fail
  go_loopw [3, 4, 9] (fun s3 s4 s9 wr => ∃ (i n : Nat) (B : Option Addr) (k : Nat) (a : Int), s9 = .int .i64 (i : Int) ∧ s3 = .slice B n k ∧ s4 = .int .i64 a ∧ i ≤ m ∧ n ≤ 10 * i ∧ Hid (a = lastAt 0 (dcs (ds.take i))) ∧ Hid (n = (timesD 0 (dcs (ds.take i))).length) ∧ Hid (Buf wr w.heap.size 5 B n k ((timesD 0 (dcs (ds.take i))).map B8)) ∧ Hid (Ext w wr)) (fun _ _ s9 _ => m - (intOf s9).toNat)
  case atStart => exact ⟨0, 0, none, 0, 0, rfl, rfl, rfl, by omega, by omega, hide rfl, hide rfl, hide (Buf.nil _ _ _), hide (Ext.refl w)⟩
  case round =>
    obtain ⟨i, n, B, k, a, rfl, rfl, rfl, hi, hn, ha, hnl, hB, hE⟩ := hrel
    by_cases hin : i < m
    · obtain ⟨x, hx⟩ : ∃ x, ds[i]? = some x := ⟨_, List.getElem?_eq_getElem (by rw [← hm.out]; exact hin)⟩
      have hok := h.out.ext hE.out
      obtain ⟨g, o, hA, x0, x1, x2⟩ := dcells_at hok.cells hx
      subst hA
      have hst : dcs (ds.take (i + 1)) = dcs (ds.take i) ++ [x.dc] := by rw [List.take_add_one, hx]; unfold dcs; rw [List.map_append]; rfl
      have hla : lastAt 0 (dcs (ds.take (i + 1))) = x.e.at_ := by rw [hst, lastAt_app]; rfl
      have hti : timesD 0 (dcs (ds.take (i + 1))) = timesD 0 (dcs (ds.take i)) ++ vb (zig (wrap64 (x.e.at_ - a))) := by
        rw [hst, timesD_app, ← ha.out]
        show _ ++ (_ ++ []) = _
        rw [List.append_nil]
        rfl
      obtain ⟨d, hd⟩ : ∃ d, d = wrap64 (x.e.at_ - a) := ⟨_, rfl⟩
      have hdr := wrap_rng (x.e.at_ - a)
      rw [← hd] at hti hdr
      have hl9 := htl.out (i + 1)
      replace hst := hide hst
      replace hla := hide hla
      replace hti := hide hti
      replace hx := hide hx
      clear hok
      go_wp2_with fail
      obtain ⟨W5, hW5⟩ : ∃ W5, W5 = wr.alloc (Obj.cells #[Value.int IntKind.i64 x.seq, Value.int IntKind.i64 x.e.at_, Value.slice x.A x.e.fs.length x.c] 39) := ⟨_, rfl⟩
      have hE5 : Ext wr W5 := by rw [hW5]; exact (Ext.refl wr).alloc _
      have r5 : Row W5 wr.heap.size 39 #[Value.int IntKind.i64 x.seq, Value.int IntKind.i64 x.e.at_, Value.slice x.A x.e.fs.length x.c] := by rw [hW5]; exact Row.new wr _ _
      obtain ⟨g5, hg5⟩ : ∃ g5, g5 = wr.heap.size := ⟨_, rfl⟩
      rw [← hW5, ← hg5, ← hd]
      rw [← hg5] at r5
      have hB5 := hB.out.ext hE5
      refine (hpi.out B n k d _ W5 hnl.out hB5.cells (buf_nil hB5) (by omega) hdr.1 hdr.2).mono ?_
      rintro e w6 ⟨A6, c6, rfl, hB6, hE6⟩
      rw [← hti.out] at hB6 ⊢
      have r6 := r5.ext hE6
      have y1 := r6.cell 1 rfl
      have hszw : w.heap.size ≤ W5.heap.size := (hE.out.trans hE5).size
      obtain ⟨n6, hn6⟩ : ∃ n6, n6 = (timesD 0 (dcs (ds.take (i + 1)))).length := ⟨_, rfl⟩
      rw [← hn6] at hB6 hl9 ⊢
      replace hn6 := hide hn6
      replace hB6 := hide (hB6.lower hszw)
      replace hE6 := hide (hE5.trans hE6)
      clear hW5 hg5 hd r5 r6
      go_wp2_with fail
      go_roundw
      case rel => exact ⟨i + 1, n6, A6, c6, _, rfl, rfl, rfl, by omega, hl9, hide hla.out.symm, hn6, hB6, hide (hE.out.trans hE6.out)⟩
      case measure => simp only [intOf]; omega
    · have hmi : m = i := by omega
      have hall : ds.take i = ds := List.take_of_length_le (by rw [← hm.out]; omega)
      rw [hall] at hB hnl
      go_wp2_with fail
      go_ret
      exact ⟨B, k, by rw [hnl.out]; rfl, by rw [← hnl.out]; exact hB.out, hE.out⟩
end
section
open Go.RowKit
def prtA : List Int → Array Value
  | [a, b, c, d, e] => #[.int .i64 0, .int .i64 0, .int .i64 a, .int .i64 b, .int .i64 c, .int .i64 d, .int .i64 e]
  | _ => #[]
theorem lowD_rng : ∀ (l : List Dc) (m : Int), I64ok' m → (∀ d ∈ l, I64ok' d.2.at_) → I64ok' (lowD m l)
  | [], m, hm, _ => hm
  | d :: t, m, hm, h => by
    have h1 := h d (List.mem_cons_self ..)
    refine lowD_rng t _ ?_ fun x hx => h x (List.mem_cons_of_mem _ hx)
    unfold I64ok' at *
    omega
theorem highD_rng : ∀ (l : List Dc) (m : Int), I64ok' m → (∀ d ∈ l, I64ok' d.2.at_) → I64ok' (highD m l)
  | [], m, hm, _ => hm
  | d :: t, m, hm, h => by
    have h1 := h d (List.mem_cons_self ..)
    refine highD_rng t _ ?_ fun x hx => h x (List.mem_cons_of_mem _ hx)
    unfold I64ok' at *
    omega
theorem lastD_get : ∀ (l : List Dc) (d : Dc), lastD d.1 l = ((d :: l)[l.length]?.map (·.1)).getD 0
  | [], d => rfl
  | p :: t, d => by
    show lastD p.1 t = _
    rw [lastD_get t p]
    rfl
theorem partD_of {ds : List DocC} {x0 xl : DocC} {m : Nat} (hm : m = ds.length) (h0 : ds[0]? = some x0) (hl : ds[m - 1]? = some xl) : partD (dcs ds) = [lowD x0.e.at_ (dcs ds), highD x0.e.at_ (dcs ds), x0.seq, xl.seq, (m : Int)] := by
  cases ds with
  | nil => simp at h0
  | cons y t =>
    obtain rfl : y = x0 := by simpa using h0
    have h1 := lastD_get (dcs t) y.dc
    have hk : (dcs t).length = t.length := by unfold dcs; rw [List.length_map]
    have h2 : (y.dc :: dcs t)[t.length]? = some xl.dc := by
      show (dcs (y :: t))[t.length]? = _
      unfold dcs
      rw [List.getElem?_map]
      rw [hm, List.length_cons, Nat.add_sub_cancel] at hl
      rw [hl]; rfl
    rw [hk, h2] at h1
    show [lowD y.e.at_ (dcs (y :: t)), highD y.e.at_ (dcs (y :: t)), y.seq, lastD y.dc.1 (dcs t), ((dcs (y :: t)).length : Int)] = _
    rw [h1]
    have h3 : (dcs (y :: t)).length = m := by rw [hm]; unfold dcs; rw [List.length_map]
    rw [h3]
    rfl
theorem results_row1 {fn : Func} {p : Tmp} {ty : TypeId} {P : Program} (h : fn.results = #[.cell p ty]) (tmps : Array Value) (w : World) (g : Nat) (cs : Array Value)
    (hp : tmps.getD p undef = .pointer (some ⟨g, 0, none⟩)) (hl : (loadVar ty ⟨g, 0, none⟩).run P w = .ok (.agg cs) w) :
    (results fn tmps).run P w = .ok (.agg cs) w := by
  rw [Array.getD_eq_getD_getElem?] at hp
  simp only [results, h]
  simp [Sem.run_bind, Result.andThen, hp, asAddr, hl]
set_option maxRecDepth 100000 in
set_option maxHeartbeats 2000000 in
theorem told_any (ds : List DocC) (A : Option Addr) (m c : Nat) (w : World) (hm : m = ds.length) (h : DocsOk w A ds) (hle : m ≤ 1000000) (h0 : 0 < m) :
    Calls Tryz.prog 42 #[.slice A m c] w fun e w' => e = .returned (.agg (prtA (partD (dcs ds)))) ∧ Ext w w' := by
  obtain ⟨x0, hx0⟩ : ∃ x, ds[0]? = some x := ⟨_, List.getElem?_eq_getElem (by omega)⟩
  obtain ⟨xl, hxl⟩ : ∃ x, ds[m - 1]? = some x := ⟨_, List.getElem?_eq_getElem (by omega)⟩
  obtain ⟨g, o, hA, a0, a1, a2⟩ := dcells_at h.cells hx0
  obtain ⟨g', o', hA', b0, b1, b2⟩ := dcells_at h.cells hxl
  rw [hA] at hA'
  injection hA' with hA'
  injection hA' with hg ho
  subst hg
  subst ho
  rw [Nat.zero_mul, Nat.add_zero] at a0 a1 a2
  have hpart : partD (dcs ds) = [lowD x0.e.at_ (dcs ds), highD x0.e.at_ (dcs ds), x0.seq, xl.seq, (m : Int)] := partD_of hm hx0 hxl
  subst hA
  replace h := hide h
  replace hm := hide hm
  replace hx0 := hide hx0
  replace hxl := hide hxl
  obtain ⟨k, hk⟩ : ∃ k, m = k + 1 := ⟨m - 1, by omega⟩
  subst hk
  rw [show k + 1 - 1 = k by omega] at b0 b1 b2
  have hi64 : ∀ d ∈ dcs ds, I64ok' d.2.at_ := fun d hd => by
    unfold dcs at hd
    obtain ⟨x, hx, rfl⟩ := List.mem_map.1 hd
    exact (h.out.each x hx).2.1
  replace hi64 := hide hi64
  replace hpart := hide hpart
  go_enter Tryz.func42, Tryz.ntmps42
  go_wp2_with fail
  obtain ⟨W1, hW1⟩ : ∃ W1, W1 = w.alloc (Obj.cells #[Value.int IntKind.i64 0, Value.int IntKind.i64 0, Value.int IntKind.i64 0, Value.int IntKind.i64 0, Value.int IntKind.i64 0, Value.int IntKind.i64 0, Value.int IntKind.i64 0] 74) := ⟨_, rfl⟩
  rw [← hW1]
  have hE1 : Ext w W1 := by rw [hW1]; exact (Ext.refl w).alloc _
  have r1 : Row W1 w.heap.size 74 #[Value.int IntKind.i64 0, Value.int IntKind.i64 0, Value.int IntKind.i64 0, Value.int IntKind.i64 0, Value.int IntKind.i64 0, Value.int IntKind.i64 0, Value.int IntKind.i64 0] := by rw [hW1]; exact Row.new w _ _
  have c1 := hE1.cell a1
  have c0 := hE1.cell a0
  have d0 := hE1.cell b0
  replace hW1 := hide hW1
  refine wp_region_text follows (by kernel_rfl) (by kernel_rfl) (fun K hK => ?_)
  go_wp2_with fail
  refine ⟨by kernel_rfl, ?_⟩
  go_wp2_with fail
  obtain ⟨W2, hW2⟩ : ∃ W2, W2 = (W1.alloc (Obj.cells #[Value.int IntKind.i64 0, Value.int IntKind.i64 0, Value.int IntKind.i64 x0.e.at_, Value.int IntKind.i64 x0.e.at_, Value.int IntKind.i64 x0.seq, Value.int IntKind.i64 xl.seq, Value.int IntKind.i64 ((k : Int) + 1)] 74)).drew := ⟨_, rfl⟩
  rw [← hW2]
  obtain ⟨b1, hb1⟩ : ∃ b1, b1 = w.heap.size := ⟨_, rfl⟩
  obtain ⟨b2, hb2⟩ : ∃ b2, b2 = W1.heap.size := ⟨_, rfl⟩
  have hE2 : Ext W1 W2 := by rw [hW2]; exact ((Ext.refl W1).alloc _).drew
  have r2 : Row W2 b2 74 #[Value.int IntKind.i64 0, Value.int IntKind.i64 0, Value.int IntKind.i64 x0.e.at_, Value.int IntKind.i64 x0.e.at_, Value.int IntKind.i64 x0.seq, Value.int IntKind.i64 xl.seq, Value.int IntKind.i64 ((k : Int) + 1)] := by rw [hW2, hb2]; exact Row.new W1 _ _
  have r12 := r1.ext hE2
  rw [← hb1] at r12
  have hb12 : b1 < b2 := by have := r1.lt; omega
  rw [← hb1, ← hb2]
  have hE := hide (hE1.trans hE2)
  replace r2 := hide r2
  replace r12 := hide r12
  replace hW2 := hide hW2
  replace hb1 := hide hb1
  replace hb2 := hide hb2
  clear r1 c0 c1 d0
  go_loopw [32] (fun s32 wr => ∃ (i : Nat) (lo hi : Int), s32 = .int .i64 (i : Int) ∧ i ≤ k + 1 ∧ Hid (lo = lowD x0.e.at_ (dcs (ds.take i))) ∧ Hid (hi = highD x0.e.at_ (dcs (ds.take i))) ∧ Hid (Row wr b2 74 #[Value.int IntKind.i64 0, Value.int IntKind.i64 0, Value.int IntKind.i64 lo, Value.int IntKind.i64 hi, Value.int IntKind.i64 x0.seq, Value.int IntKind.i64 xl.seq, Value.int IntKind.i64 ((k : Int) + 1)]) ∧ Hid (Row wr b1 74 #[Value.int IntKind.i64 0, Value.int IntKind.i64 0, Value.int IntKind.i64 0, Value.int IntKind.i64 0, Value.int IntKind.i64 0, Value.int IntKind.i64 0, Value.int IntKind.i64 0]) ∧ Hid (Ext w wr)) (fun s32 _ => k + 1 - (intOf s32).toNat)
  case atStart => exact ⟨0, x0.e.at_, x0.e.at_, rfl, by omega, hide rfl, hide rfl, r2, r12, hE⟩
  case round =>
    obtain ⟨i, lo, hi, rfl, hik, hlo, hhi, q2, q1, hE⟩ := hrel
    by_cases hin : i < k + 1
    · obtain ⟨x, hx⟩ : ∃ x, ds[i]? = some x := ⟨_, List.getElem?_eq_getElem (by rw [← hm.out]; exact hin)⟩
      obtain ⟨g', o', hA', x0', x1', x2'⟩ := dcells_at (h.out.ext hE.out).cells hx
      injection hA' with hA'
      injection hA' with hg ho
      subst hg
      subst ho
      have hst : dcs (ds.take (i + 1)) = dcs (ds.take i) ++ [x.dc] := by rw [List.take_add_one, hx]; unfold dcs; rw [List.map_append]; rfl
      have hlo2 : Hid (min lo x.e.at_ = lowD x0.e.at_ (dcs (ds.take (i + 1)))) := hide (by rw [hst, lowD_app, ← hlo.out]; rfl)
      have hhi2 : Hid (max hi x.e.at_ = highD x0.e.at_ (dcs (ds.take (i + 1)))) := hide (by rw [hst, highD_app, ← hhi.out]; rfl)
      replace hst := hide hst
      replace hx := hide hx
      have hlt2 := q2.out.lt
      have hlt1 := q1.out.lt
      go_wp2_with fail
      obtain ⟨W5, hW5⟩ : ∃ W5, W5 = wr.alloc (Obj.cells #[Value.int IntKind.i64 x.seq, Value.int IntKind.i64 x.e.at_, Value.slice x.A x.e.fs.length x.c] 39) := ⟨_, rfl⟩
      have hE5 : Ext wr W5 := by rw [hW5]; exact (Ext.refl wr).alloc _
      have r5 : Row W5 wr.heap.size 39 #[Value.int IntKind.i64 x.seq, Value.int IntKind.i64 x.e.at_, Value.slice x.A x.e.fs.length x.c] := by rw [hW5]; exact Row.new wr _ _
      obtain ⟨g5, hg5⟩ : ∃ g5, g5 = wr.heap.size := ⟨_, rfl⟩
      rw [← hW5, ← hg5]
      rw [← hg5] at r5
      have p2 := q2.out.ext hE5
      have v2 := p2.cell 2 rfl
      have v3 := p2.cell 3 rfl
      have f2 := p2.free 2
      have f3 := p2.free 3
      have u1 := r5.cell 1 rfl
      have hne : g5 ≠ b2 := by omega
      replace p2 := hide p2
      replace r5 := hide r5
      replace hW5 := hide hW5
      replace hg5 := hide hg5
      clear x0' x1' x2' hlt1 hlt2
      go_region
      have hch : ∀ g t cs, g ≠ b2 → Row W5 g t cs → Row (((W5.setCell ⟨b2, 2, none⟩ (.int .i64 (min lo x.e.at_))).setCell ⟨b2, 3, none⟩ (.int .i64 (max hi x.e.at_))).drew) g t cs := fun g t cs hg hr => (hr.away (p := ⟨b2, 2, none⟩) hg _).away (p := ⟨b2, 3, none⟩) hg _
      have hbw : w.heap.size ≤ b2 := by rw [hb2.out]; exact hE1.size
      have he9 : Ext w (((W5.setCell ⟨b2, 2, none⟩ (.int .i64 (min lo x.e.at_))).setCell ⟨b2, 3, none⟩ (.int .i64 (max hi x.e.at_))).drew) := (((hE.out.trans hE5).setCell (p := ⟨b2, 2, none⟩) hbw _).setCell (p := ⟨b2, 3, none⟩) hbw _).drew
      have p9 : Row (((W5.setCell ⟨b2, 2, none⟩ (.int .i64 (min lo x.e.at_))).setCell ⟨b2, 3, none⟩ (.int .i64 (max hi x.e.at_))).drew) b2 74 #[Value.int IntKind.i64 0, Value.int IntKind.i64 0, Value.int IntKind.i64 (min lo x.e.at_), Value.int IntKind.i64 (max hi x.e.at_), Value.int IntKind.i64 x0.seq, Value.int IntKind.i64 xl.seq, Value.int IntKind.i64 ((k : Int) + 1)] := (p2.out.put 2 _).put 3 _
      have q19 := hch b1 _ _ (by omega) (q1.out.ext hE5)
      replace he9 := hide he9
      replace p9 := hide p9
      replace q19 := hide q19
      go_wp2_with fail
      go_roundw
      case rel => exact ⟨i + 1, _, _, rfl, by omega, hlo2, hhi2, p9, q19, he9⟩
      case measure => simp only [intOf]; omega
    · have hall : ds.take i = ds := List.take_of_length_le (by rw [← hm.out]; omega)
      rw [hall] at hlo hhi
      have v0 := q2.out.cell 0 rfl
      have v1 := q2.out.cell 1 rfl
      have v2 := q2.out.cell 2 rfl
      have v3 := q2.out.cell 3 rfl
      have v4 := q2.out.cell 4 rfl
      have v5 := q2.out.cell 5 rfl
      have v6 := q2.out.cell 6 rfl
      have f0 := q1.out.free 0
      have f1 := q1.out.free 1
      have f2 := q1.out.free 2
      have f3 := q1.out.free 3
      have f4 := q1.out.free 4
      have f5 := q1.out.free 5
      have f6 := q1.out.free 6
      have t0 := q1.out.cell 0 rfl
      have t1 := q1.out.cell 1 rfl
      have t2 := q1.out.cell 2 rfl
      have t3 := q1.out.cell 3 rfl
      have t4 := q1.out.cell 4 rfl
      have t5 := q1.out.cell 5 rfl
      have t6 := q1.out.cell 6 rfl
      go_wp2_with fail
      have hb1w : w.heap.size ≤ b1 := by rw [hb1.out]; exact Nat.le_refl _
      have hrf := ((((((q1.out.put 0 (.int .i64 0)).put 1 (.int .i64 0)).put 2 (.int .i64 lo)).put 3 (.int .i64 hi)).put 4 (.int .i64 x0.seq)).put 5 (.int .i64 xl.seq)).put 6 (.int .i64 ((k : Int) + 1))
      have hEf := ((((((hE.out.setCell (p := ⟨b1, 0, none⟩) hb1w (.int .i64 0)).setCell (p := ⟨b1, 1, none⟩) hb1w (.int .i64 0)).setCell (p := ⟨b1, 2, none⟩) hb1w (.int .i64 lo)).setCell (p := ⟨b1, 3, none⟩) hb1w (.int .i64 hi)).setCell (p := ⟨b1, 4, none⟩) hb1w (.int .i64 x0.seq)).setCell (p := ⟨b1, 5, none⟩) hb1w (.int .i64 xl.seq)).setCell (p := ⟨b1, 6, none⟩) hb1w (.int .i64 ((k : Int) + 1))
      refine bodyPost_ret (results_row1 rfl _ _ b1 #[.int .i64 0, .int .i64 0, .int .i64 lo, .int .i64 hi, .int .i64 x0.seq, .int .i64 xl.seq, .int .i64 ((k : Int) + 1)] rfl (run_loadVar_row _ b1 74 74 _ (0, 0) _ hrf Tryz.underlying74 rfl (by kernel_rfl))) rfl ⟨?_, hEf⟩
      rw [hpart.out, ← hlo.out, ← hhi.out]
      rfl
end
section
open Go.RowKit
def IterS {α : Type} (P : Program) (gf : Nat) (lb : Array Value) (encs : α → Array Value) (St : World → World → World → Prop) (Nx : List α → α → World → Prop) (Kp : World → World → Prop) (Fin : List α → World → World → Prop) (w : World) : Prop :=
  ∀ (l : Nat) (J : List α → World → Prop) (W : World), Ext w W → (∀ pre A B, J pre A → St W A B → J pre B) →
    (∀ pre x W1, J pre W1 → Nx pre x W1 → YieldAt Fence.wide 0 P l (encs x) W1 fun e W' => e = .returned (.bool true) ∧ J (pre ++ [x]) W' ∧ Kp W1 W' ∧ KeepsOthers W1 W') → J [] W →
    Calls P gf (#[.func (.yield l) #[] #[]] ++ lb) W fun e W' => (∃ v, e = .returned v) ∧ ∃ xs W2, J xs W2 ∧ Fin xs W2 W'
theorem range_allS {α : Type} {P : Program} {g : Operand} {ps : Array Tmp} {assign body : Code} {Q : Exit → Act → World → Prop} {a : Act} {w : World} {gf : Nat} {lb : Array Value}
    (hg : a.eval g = .func (.func gf) #[] lb) (eg : ∀ args w, (callFunc gf args).run P w = .ok (.enter gf args) w)
    {encs : α → Array Value} {St : World → World → World → Prop} {Nx : List α → α → World → Prop} {Kp : World → World → Prop} {Fin : List α → World → World → Prop} (hit : IterS P gf lb encs St Nx Kp Fin w)
    (hps : ∀ x, (encs x).size = ps.size) (hSt : ∀ W A B, St W A B → ∀ k o, k < W.heap.size → A.heap[k]? = some o → o.isCells = false → B.heap[k]? = some o) (hFin : ∀ xs A B, Fin xs A B → KeepsOthers A B)
    (hKt : ∀ A B C, Kp A B → Kp B C → Kp A C) (hKb : ∀ A B, Alike w.heap.size A B → Kp A B)
    (I : List α → World → Prop) (hI : ∀ pre A B, I pre A → Alike w.heap.size A B → I pre B) (hIs : ∀ W pre A B, Ext w W → I pre A → St W A B → I pre B) (h0 : ∀ W, Alike w.heap.size w W → I [] W)
    (hround : ∀ (l : Nat) (pre : List α) (x : α) (W : World), I pre W → Nx pre x W → assign.wpIn (Fence.wide.inRound l) 0 P (Exit.then (roundGo w.heap.size P l body Kp I (pre ++ [x]) W) (fun _ _ _ => False)) { tmps := (ps.zip (encs x)).foldl (fun t (p, v) => t.setIfInBounds p v) a.tmps, defers := [] } W)
    (hdone : ∀ (D : Nat) (xs : List α) (W2 W3 W4 : World), w.heap.size ≤ D → I xs W2 → Fin xs W2 W3 → Alike w.heap.size W3 W4 → W4.heap[D]? = some (.deferred (some [])) → Q .normal { a with defers := { target := .collected D, args := #[] } :: a.defers } W4) :
    (Code.rangeFunc g ps assign body).wpIn Fence.wide 0 P Q a w := by
  refine wpIn_rangeFunc ?_
  intro fn hfn
  show ∃ _, _
  obtain ⟨rec, hrec⟩ : ∃ rec : LoopState → Option Code → Loop, rec = fun st pe => { state := st, pending := pe, fn, tmps := a.tmps, params := ps, assign, body, defers := w.heap.size } := ⟨_, rfl⟩
  obtain ⟨W1, hW1⟩ : ∃ W1, (w.alloc (.deferred (some []))).alloc (.loop (rec .ready none)) = W1 := ⟨_, rfl⟩
  have hL1 : W1.heap[w.heap.size + 1]? = some (.loop (rec .ready none)) := by
    rw [← hW1]; have := World.alloc_heap_new (w.alloc (.deferred (some []))) (.loop (rec .ready none)); rwa [World.size_alloc] at this
  have hK1 : W1.heap[w.heap.size]? = some (.deferred (some [])) := by
    rw [← hW1]; exact (Below.heap_alloc _ _ _ (by simp)).trans (World.alloc_heap_new w _)
  have hE1 : Ext w W1 := by rw [← hW1]; exact ((Ext.refl w).alloc _).alloc _
  refine ⟨w.heap.size + 1, [{ target := .collected w.heap.size, args := #[] }], W1, { target := .fn (.func gf) lb, args := #[.func (.yield (w.heap.size + 1)) #[] #[]] }, W1, gf,
    #[.func (.yield (w.heap.size + 1)) #[] #[]] ++ lb, W1, ?_, ?_, ?_, ?_, fun h => (by cases h), ?_⟩
  · rw [← hW1, hrec]; exact run_enterLoop_outer _ _ _ _ _
  · simp only [resolve, hg]
    simp [go_sem]
  · intro f' _; trivial
  · simp [invoke, go_sem, eg]
  · refine callsIn_wide.2 ((hit (w.heap.size + 1)
      (fun pre W => I pre W ∧ W.heap[w.heap.size + 1]? = some (.loop (rec .ready none)) ∧ W.heap[w.heap.size]? = some (.deferred (some [])))
      W1 hE1 (fun pre A B h hs => ⟨hIs W1 pre A B hE1 h.1 hs, hSt W1 A B hs _ _ (Array.getElem?_eq_some_iff.1 hL1).1 h.2.1 rfl, hSt W1 A B hs _ _ (Array.getElem?_eq_some_iff.1 hK1).1 h.2.2 rfl⟩)
      ?_ ⟨h0 W1 (Chg.of_ext hE1 _), hL1, hK1⟩).mono ?_)
    · rintro pre x W ⟨hi, hl, hk⟩ hnx
      have hlt : w.heap.size + 1 < W.heap.size := (Array.getElem?_eq_some_iff.1 hl).1
      have hy := run_yield (P := P) (args := encs x) hl (by rw [hrec]; exact hps x)
      rw [hrec] at hy
      refine ⟨fn, _, assign, body, hy, roundIn_of_wpIn hfn ?_⟩
      refine wpIn_mono (hround _ pre x W hi hnx) ?_
      rintro e a1 W2 hq
      cases e with
      | normal =>
        obtain ⟨hko, hkp, hbody⟩ := hq
        have hl2 := hko.same _ _ hl rfl
        have hk2 := hko.same _ _ hk rfl
        have hlt2 : w.heap.size + 1 < W2.heap.size := (Array.getElem?_eq_some_iff.1 hl2).1
        refine ⟨W2.putObj (w.heap.size + 1) (.loop { rec .ready none with state := .busy }), run_beginRound hl2 (by rw [hrec]), ?_⟩
        have ha := Alike.others (B := w.heap.size) hl2 rfl (by omega) (.loop { rec .ready none with state := .busy })
        have hl3 : (W2.putObj (w.heap.size + 1) (.loop { rec .ready none with state := .busy })).heap[w.heap.size + 1]? = some (.loop { rec .ready none with state := .busy }) := World.putObj_heap_same hlt2
        have hk3 : (W2.putObj (w.heap.size + 1) (.loop { rec .ready none with state := .busy })).heap[w.heap.size]? = some (.deferred (some [])) := (World.putObj_heap_other (by omega)).trans hk2
        refine wpIn_mono (hbody _ ha) ?_
        rintro e a3 W3 hp
        cases e with
        | normal =>
          obtain ⟨hko3, hkp3, hi3⟩ := hp
          have hl4 := hko3.same _ _ hl3 rfl
          have hk4 := hko3.same _ _ hk3 rfl
          have hr := run_endRound (P := P) none hl4
          rw [hrec] at hr
          have ha2 := Alike.others (B := w.heap.size) hl4 rfl (by omega) (.loop (rec .ready none))
          rw [hrec] at ha2
          refine ⟨_, _, hr, rfl, ⟨hI _ _ _ hi3 ha2, ?_, ?_⟩, hKt _ _ _ (hKt _ _ _ hkp (hKb _ _ ha)) (hKt _ _ _ hkp3 (hKb _ _ ha2)), ?_⟩
          · rw [hrec]; exact World.putObj_heap_same (Array.getElem?_eq_some_iff.1 hl4).1
          · exact (World.putObj_heap_other (by omega)).trans hk4
          · refine ⟨Nat.le_trans hko.size (Nat.le_trans ha.size (Nat.le_trans hko3.size ha2.size)), fun q o ho hc => ?_⟩
            by_cases hq : q = w.heap.size + 1
            · subst hq
              rw [hl, hrec] at ho
              rw [← ho]
              exact World.putObj_heap_same (Array.getElem?_eq_some_iff.1 hl4).1
            · refine (World.putObj_heap_other hq).trans (hko3.same q o ?_ hc)
              exact (World.putObj_heap_other hq).trans (hko.same q o ho hc)
        | ret => exact hp.elim
        | exit id => exact hp.elim
        | goto t => exact hp.elim
        | panic ch => exact hp.elim
        | outgrown => exact hp.elim
      | ret => exact hq.elim
      | exit id => exact hq.elim
      | goto t => exact hq.elim
      | panic ch => exact hq.elim
      | outgrown => exact hq.elim
    · rintro e W2 ⟨⟨v, rfl⟩, xs, W3, ⟨hi, hl, hk⟩, hf⟩
      have hl2 := (hFin _ _ _ hf).same _ _ hl rfl
      have hk2 := (hFin _ _ _ hf).same _ _ hk rfl
      refine ⟨none, _, by have := run_endLoop (P := P) hl2 (by rw [hrec]; simp); rw [hrec] at this; exact this, hdone _ xs W3 W2 _ (Nat.le_refl _) hi hf ?_ ((World.putObj_heap_other (by omega)).trans hk2)⟩
      rw [hrec] at hl2
      exact Alike.others hl2 rfl (by omega) _
end
end Go.Proofs.YtkdcnhnaiknaaaaGreat
