/- What came in: structs, rows of structs; the world's shape kept. -/
import Derived.Test.YtpfmjagbjdkdcaaGreatDoorIn
import Derived.HandedShaped
import Derived.Handed
set_option linter.unusedSimpArgs false
set_option linter.unusedVariables false
namespace Go.Proofs.YtpfmjagbjdkdcaaGreatDoor
open Go.ChangeShapes Go.WideShapes Go.Deep Go.RowKit

section
variable {H : Type} {enc : TypeId × Value → H} {w : World} {base : Nat} {spare : Nat → Bool} {held : Bool}
/-- A struct's fields, each of one cell. -/
theorem in_fields {t : TypeId} {fs : Array Field} {tys : Array TypeId} {fuel : Nat} {cs : List Value} {y : DataW H × List MemPlace} (hfs : Tryz.prog.underlying t = some (.struct fs)) (hone : oneCellFields Tryz.prog fs = true) (hty : fs.map Field.type = tys)
    (h : DataW.trod enc Tryz.prog w base spare held fuel t cs = some y) : ∃ n, ∀ (j : Nat) (t : TypeId) (v : Value), tys[j]? = some t → cs[j]? = some v → ∃ z, DataW.trod enc Tryz.prog w base spare held n t [v] = some z := by
  obtain ⟨ys, n, hn, hy, hlen, hyl, hf⟩ := DataW.trod_struct hfs h
  refine ⟨n, fun j t v hj hv => ?_⟩
  rw [← hty, Array.getElem?_map] at hj
  obtain ⟨f, hfj, rfl⟩ := Option.map_eq_some_iff.1 hj
  obtain ⟨ho, hk⟩ := hone_of hone j f hfj
  have h1 := hf j f hfj
  have hjl : j < cs.length := (List.getElem?_eq_some_iff.1 hv).1
  rw [ho, hk, List.drop_eq_getElem_cons hjl] at h1
  have hv2 : cs[j] = v := by rw [List.getElem?_eq_getElem hjl] at hv; simpa using hv
  rw [hv2] at h1
  have hjy : j < ys.length := by rw [hyl]; exact (Array.getElem?_eq_some_iff.1 hfj).1
  rw [List.getElem?_eq_getElem hjy] at h1
  exact ⟨_, h1⟩
theorem flat_len_of {α : Type} {k : Nat} {cellsA : α → List Value} (hlen : ∀ x, (cellsA x).length = k) : ∀ xs : List α, (xs.flatMap cellsA).length = xs.length * k
  | [] => by simp
  | x :: xs => by rw [List.flatMap_cons, List.length_append, hlen, flat_len_of hlen xs, List.length_cons, Nat.add_mul, Nat.one_mul, Nat.add_comm]
theorem flat_get_of {α : Type} {k : Nat} {cellsA : α → List Value} (hlen : ∀ x, (cellsA x).length = k) : ∀ (xs : List α) (i : Nat) (x : α) (j : Nat), xs[i]? = some x → j < k → (xs.flatMap cellsA)[i * k + j]? = (cellsA x)[j]?
  | [], i, x, j, h, _ => by simp at h
  | y :: xs, 0, x, j, h, hj => by
    obtain rfl : y = x := by simpa using h
    rw [List.flatMap_cons, List.getElem?_append_left (by rw [hlen]; omega), Nat.zero_mul, Nat.zero_add]
  | y :: xs, i + 1, x, j, h, hj => by
    have h' : xs[i]? = some x := by simpa using h
    rw [List.flatMap_cons, List.getElem?_append_right (by rw [hlen, Nat.add_mul, Nat.one_mul]; omega), hlen, show (i + 1) * k + j - k = i * k + j by rw [Nat.add_mul, Nat.one_mul]; omega]
    exact flat_get_of hlen xs i x j h' hj
/-- A slice that came in: the row of its elements. -/
theorem in_row_of {t e : TypeId} {k fuel : Nat} {v : Value} {x : DataW H × List MemPlace} {α : Type} {cellsA : α → List Value} {Q : α → Prop} (ht : Tryz.prog.underlying t = some (.slice e)) (hc : Tryz.prog.cellsOf e = k) (hk0 : 0 < k) (hlen : ∀ x, (cellsA x).length = k)
    (hel : ∀ (fuel : Nat) (cs : List Value) (y : DataW H × List MemPlace), cs.length = k → DataW.trod enc Tryz.prog w base spare held fuel e cs = some y → ∃ x, Q x ∧ cellsA x = cs) (h : DataW.trod enc Tryz.prog w base spare held fuel t [v] = some x) :
    ∃ (A : Option Addr) (c : Nat) (xs : List α), v = .slice A xs.length c ∧ Cells w A (xs.flatMap cellsA) ∧ (xs ≠ [] → ∀ a, A = some a → a.block < w.heap.size ∧ a.spot = none) ∧ xs.length ≤ c ∧ xs.length ≤ 9223372036854775807 ∧ ∀ x ∈ xs, Q x := by
  rcases open_slice ht h with ⟨hcs, _⟩ | ⟨a, m, c, k', n, D, Pl, hcs, hb, hl, hm, hk, hx, hi⟩
  · obtain rfl : v = .slice none 0 0 := by simpa using hcs
    exact ⟨none, 0, [], rfl, .inl rfl, fun h => absurd rfl h, Nat.le_refl _, by show 0 ≤ _; omega, nofun⟩
  · obtain rfl : v = .slice (some a) m c := by simpa using hcs
    rw [hc] at hi
    have hlk : m ≤ k' := by rw [hk]; split <;> omega
    obtain ⟨xs, hpl, hps⟩ := list_of (Q := fun i (p : α) => Q p ∧ ∀ j v, (cellsA p)[j]? = some v → w.cell? ((a.add (i * k)).add j) = some v) m fun i hil => by
      obtain ⟨cs, hc, ht⟩ := hi i (by omega)
      obtain ⟨_, hcl, hat⟩ := World.cells?_some hc
      obtain ⟨p, hp, rfl⟩ := hel _ _ _ hcl ht
      exact ⟨p, hp, fun j v hv => by rw [hat j (by have := (List.getElem?_eq_some_iff.1 hv).1; omega)]; exact hv⟩
    subst hpl
    have hat : ∀ i v, (xs.flatMap cellsA)[i]? = some v → w.cell? (a.add i) = some v := fun i v hv => by
      have hil : i < (xs.flatMap cellsA).length := (List.getElem?_eq_some_iff.1 hv).1
      rw [flat_len_of hlen] at hil
      have hdiv : i / k < xs.length := Nat.div_lt_of_lt_mul (by rw [Nat.mul_comm]; exact hil)
      have hg := flat_get_of hlen xs (i / k) xs[i / k] (i % k) (List.getElem?_eq_getElem hdiv) (Nat.mod_lt _ hk0)
      have hii : i / k * k + i % k = i := Nat.div_add_mod' i k
      rw [hii, hv] at hg
      have := (hps (i / k) _ (List.getElem?_eq_getElem hdiv)).2 (i % k) v hg.symm
      rw [Addr.add_add, hii] at this
      exact this
    have hlt : xs ≠ [] → a.block < w.heap.size ∧ a.spot = none := fun hne => by
      have h0 : 0 < (xs.flatMap cellsA).length := by
        rw [flat_len_of hlen]
        exact Nat.mul_pos (List.length_pos_iff.2 hne) hk0
      have := hat 0 _ (List.getElem?_eq_getElem h0)
      have := cell_lt this
      simpa [Addr.add] using this
    refine ⟨some a, c, xs, rfl, ?_, fun hne b hb => by cases hb; exact hlt hne, hl, by unfold maxLen at hm; omega, fun p hp => ?_⟩
    · by_cases hne : xs = []
      · rw [hne]; exact .inl rfl
      · obtain ⟨b, o, s⟩ := a
        obtain rfl : s = none := (hlt hne).2
        exact .inr ⟨b, o, rfl, fun i v hv => by have := hat i v hv; rw [Addr.add_lit] at this; exact this⟩
    · obtain ⟨i, hil, rfl⟩ := List.mem_iff_getElem.1 hp
      exact (hps i _ (List.getElem?_eq_getElem hil)).1
end
section
variable {H : Type} {enc : TypeId × Value → H}
/-- A condition on the first world, and its shape, handed to the walk. -/
theorem handed_shaped {a : Assume} {C : Checked} {os : Os} {f : FuncId} {fn : Func} {s : ChangeSpec} {conds : List PathCond} {apart fresh handsOn again : Bool} {X : World → Array Value → Prop}
    (hX : ∀ (w w' : World) (args : Array Value), w.heap = w'.heap → X w args → X w' args)
    (own : ownKnob C.prog.godebug = none) (started : os.Started) (noInit : C.prog.inits.idxOf? f = none) (hfn : C.prog.funcs[f]? = some fn)
    (witness : ∃ (w : World) (tape : Tape) (i : Input), w.os = os ∧ (w.forCall tape i).Shaped C.prog ∧ i.vars = [] ∧ Input.okWide C.prog (w.forCall tape i) .any w.heap.size f i ∧
      ((s.pre enc C.prog fn conds apart (w.forCall tape i).memory i.args ∧ X (w.forCall tape i).memory i.args) ∧ sizedMet enc C.prog fn (OpenSpec.ofChange s) apart (w.forCall tape i).memory i.args) ∧ a.holds C.prog (lone (Frame.enter C.prog f i.args .normal) [] (w.forCall tape i)))
    (contract : ∀ (W : World) (base : Nat) (args : Array Value) (ds gs : List (DataW H)) (before : List MemPlace),
      (∀ (j : Nat) t v, fn.params[j]? = some t → args[j]? = some v → Value.okWide C.prog W .any base t v) →
      DataW.Whole enc C.prog fn.params.toList s.vars apart W args.toList ds gs before → X W args → W.ShapedOpen C.prog →
      Calls C.prog f args W fun e W' => ∃ v, e = .returned v ∧ s.post enc C.prog fn apart fresh handsOn again W args v W') :
    ReturnsInHanded a C os f .any (fun w args => (s.pre enc C.prog fn conds apart w args ∧ X w args) ∧ sizedMet enc C.prog fn (OpenSpec.ofChange s) apart w args) (s.post enc C.prog fn apart fresh handsOn again) := by
  refine returnsInHanded_of_calls own started noInit witness ?_
  rintro w tape i _ hshape _ ⟨_, _, _, fn', hfn', _, _, _, _, hval⟩ ⟨⟨⟨ds, gs, before, hw, _⟩, hx⟩, _⟩ _
  obtain rfl : fn' = fn := Option.some.inj (hfn'.symm.trans hfn)
  refine (contract (w.forCall tape i) w.heap.size i.args ds gs before hval (DataW.Whole.of_heap (by rfl) hw) (hX _ _ _ (by rfl) hx) hshape).mono fun e W' ⟨v, he, hp⟩ => ?_
  subst he
  exact ChangeSpec.post_blind hp
end
end Go.Proofs.YtpfmjagbjdkdcaaGreatDoor
