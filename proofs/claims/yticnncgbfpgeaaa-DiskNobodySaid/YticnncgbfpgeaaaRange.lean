/- Maps as lists: a range over one, a deletion, how many there are. -/
import Derived.Test.YticnncgbfpgeaaaMap
import Derived.Maps.RangeRun
import Derived.Maps.Range
import Derived.Laws.IdiomRangeMap
namespace Go.Proofs.Yticnncgbfpgeaaa
open Go.RowKit Go.Maps
open Go

/-- A range over the map m is under way (its block: r); the keys 'done' have come. -/
structure RangeL (P : Program) (k : TypeId) (w : World) (m r : Nat) (L : List (Value × Value)) (done : List Value) : Prop where
  ex : ∃ es clock since seen c0, w.heap[m]? = some (.map es clock) ∧ es.toList.map (fun e => (e.key, e.val)) = L ∧ es.toList.Pairwise (fun a b => a.born ≠ b.born) ∧ (∀ e ∈ es.toList, e.born < clock) ∧
    w.heap[r]? = some (.mapIter (some m) since seen c0) ∧ (∀ e ∈ es.toList, e.born < since) ∧ since ≤ c0 ∧ since ≤ clock ∧ ∀ e ∈ es.toList, (seen.contains e.born = true ↔ e.key ∈ done)
  keys : ∀ p ∈ L, ∃ l, keyOf P k p.1 = some l
  nodup : (L.map Prod.fst).Nodup
  dn : done.Nodup
  sub : ∀ x ∈ done, x ∈ L.map Prod.fst
section
variable {P : Program} {k : TypeId} {w w1 : World} {m r : Nat} {L : List (Value × Value)} {done : List Value}
theorem RangeL.map (h : RangeL P k w m r L done) : MapL P k w m L := by
  obtain ⟨es, cl, since, seen, c0, h1, h2, h3, h4, _⟩ := h.ex
  exact ⟨⟨es, cl, h1, h2, h3, h4⟩, h.keys, h.nodup⟩
theorem RangeL.keep (h : RangeL P k w m r L done) (hm : w1.heap[m]? = w.heap[m]?) (hr : w1.heap[r]? = w.heap[r]?) : RangeL P k w1 m r L done := by
  obtain ⟨⟨es, cl, since, seen, c0, h1, h2, h3, h4, h5, h6⟩, hk, hn, hd, hs⟩ := h
  exact ⟨⟨es, cl, since, seen, c0, hm.trans h1, h2, h3, h4, hr.trans h5, h6⟩, hk, hn, hd, hs⟩
theorem RangeL.lt (h : RangeL P k w m r L done) : r < w.heap.size := by
  obtain ⟨es, cl, since, seen, c0, _, _, _, _, h5, _⟩ := h.ex
  exact (Array.getElem?_eq_some_iff.1 h5).1
theorem RangeL.ne (h : RangeL P k w m r L done) : r ≠ m := by
  obtain ⟨es, cl, since, seen, c0, h1, _, _, _, h5, _⟩ := h.ex
  rintro rfl
  rw [h1] at h5
  cases h5
theorem RangeL.grown {row : Option Nat} (h : RangeL P k w m r L done) (hg : w.grownBy w1 row) (h1 : row ≠ some m) (h2 : row ≠ some r) : RangeL P k w1 m r L done :=
  h.keep (hg.block m h.map.lt (fun e => h1 e.symm)) (hg.block r h.lt (fun e => h2 e.symm))
theorem RangeL.drew (h : RangeL P k w m r L done) : RangeL P k w.drew m r L done := h.keep rfl rfl
theorem RangeL.alloc (h : RangeL P k w m r L done) (o : Obj) : RangeL P k (w.alloc o) m r L done := h.keep (Below.heap_alloc w o m h.map.lt) (Below.heap_alloc w o r h.lt)
theorem RangeL.set_ (h : RangeL P k w m r L done) {a : Addr} (v : Value) (h1 : m ≠ a.block) (h2 : r ≠ a.block) : RangeL P k (w.setCell a v) m r L done :=
  h.keep (Below.heap_setCell w a v m h1) (Below.heap_setCell w a v r h2)

theorem MapL.range (h : MapL P k w m L) {t E : TypeId} (ht : P.underlying t = some (.map k E)) :
    ∃ o, (Instr.range t (.map (some m))).run P w = .ok (.pointer (some ⟨w.heap.size, 0, none⟩)) (w.alloc o) ∧ RangeL P k (w.alloc o) m w.heap.size L [] := by
  obtain ⟨⟨es, cl, h1, h2, h3, h4⟩, hk, hn⟩ := h
  refine ⟨_, run_range_map w t k E m es cl ht h1, ⟨⟨es, cl, cl, #[], cl, ?_, h2, h3, h4, heap_alloc_new w _, h4, Nat.le_refl _, Nat.le_refl _, fun e _ => by simp⟩, hk, hn, List.nodup_nil, by simp⟩⟩
  exact (Below.heap_alloc w _ m (Array.getElem?_eq_some_iff.1 h1).1).trans h1
theorem setBlock_grown (w : World) (r : Nat) (o : Obj) : w.grownBy (ChangeMaps.setBlock w r o) (some r) :=
  ⟨rfl, rfl, rfl, by simp [ChangeMaps.setBlock], fun k _ hne => by
    show (w.heap.setIfInBounds r o)[k]? = _
    rw [Array.getElem?_setIfInBounds_ne (fun e => hne (by rw [e]))]⟩
/-- A step leaves fewer to come. -/
theorem left_falls {es : Array MapEntry} {seen : Array Nat} {e : MapEntry} (he : e ∈ (leftOf es seen).toList) : (leftOf es (seen.push e.born)).size < (leftOf es seen).size := by
  have h1 : leftOf es (seen.push e.born) = (leftOf es seen).filter (fun x => !(x.born == e.born)) := by
    unfold leftOf
    rw [Array.filter_filter]
    congr 1
    funext x
    rw [Array.contains_push]
    cases seen.contains x.born <;> cases (x.born == e.born) <;> rfl
  have h2 : (leftOf es (seen.push e.born)).toList = (leftOf es seen).toList.filter (fun x => !(x.born == e.born)) := by rw [h1, Array.toList_filter]
  have h3 : ((leftOf es seen).toList.filter (fun x => !(x.born == e.born))).length < (leftOf es seen).toList.length := List.length_filter_lt_length_iff_exists.2 ⟨e, he, by simp⟩
  rw [← h2] at h3
  exact h3
theorem RangeL.next (h : RangeL P k w m r L done) (ty : TypeId) :
    ((Instr.next (.pointer (some ⟨r, 0, none⟩)) false ty).run P w = .ok (.tuple #[.bool false]) w ∧ ∀ p ∈ L, p.1 ∈ done) ∨
    ∃ x v w1, (x, v) ∈ L ∧ x ∉ done ∧ (Instr.next (.pointer (some ⟨r, 0, none⟩)) false ty).run P w = .ok (.tuple #[.bool true, x, v]) w1 ∧ RangeL P k w1 m r L (done ++ [x]) ∧ w.grownBy w1 (some r) ∧ w1.heap.size = w.heap.size ∧
      (Instr.entry (.pointer (some ⟨r, 0, none⟩))).run P w1 = .ok (.tuple #[x, v]) w1 ∧ w1.rangeLeft m r < w.rangeLeft m r := by
  have hlt := h.lt
  have hne := h.ne
  obtain ⟨⟨es, cl, since, seen, c0, h1, h2, h3, h4, h5, h6, h7, h7', h8⟩, hk, hn, hd, hs⟩ := h
  rcases run_next_at (P := P) w ty r m since c0 seen es cl h5 h1 h6 h7 with ⟨h0, hrun⟩ | ⟨e, he, w0, hw0, hrun⟩
  · refine .inl ⟨hrun, fun p hp => ?_⟩
    rw [← h2] at hp
    obtain ⟨e, he, rfl⟩ := List.mem_map.1 hp
    rw [← h8 e he]
    by_cases hc : seen.contains e.born = true
    · exact hc
    · exfalso
      have : e ∈ leftOf es seen := by
        unfold leftOf
        rw [Array.mem_filter]
        exact ⟨by simpa using he, by simpa using hc⟩
      have h9 := Array.size_pos_of_mem this
      omega
  · have hel : e ∈ es.toList ∧ seen.contains e.born = false := by
      unfold leftOf at he
      have he' := Array.mem_toList_iff.1 he
      rw [Array.mem_filter] at he'
      exact ⟨by simpa using he'.1, by simpa using he'.2⟩
    have hb0 : w0.heap = w.heap := by rcases hw0 with rfl | rfl <;> rfl
    have hw0g : w.grownBy w0 (some r) := by
      rcases hw0 with rfl | rfl
      · exact ⟨rfl, rfl, rfl, Nat.le_refl _, fun _ _ _ => rfl⟩
      · exact ⟨rfl, rfl, rfl, Nat.le_refl _, fun _ _ _ => rfl⟩
    have hnd : e.key ∉ done := fun hc => by
      rw [← h8 e hel.1] at hc
      rw [hel.2] at hc
      cases hc
    have hr1 : (ChangeMaps.setBlock w0 r (.mapIter (some m) since (seen.push e.born) cl)).heap[r]? = some (.mapIter (some m) since (seen.push e.born) cl) := by
      show (w0.heap.setIfInBounds r _)[r]? = _
      rw [Array.getElem?_setIfInBounds, if_pos rfl, if_pos (by rw [hb0]; exact hlt)]
    have hm1 : (ChangeMaps.setBlock w0 r (.mapIter (some m) since (seen.push e.born) cl)).heap[m]? = some (.map es cl) := by
      show (w0.heap.setIfInBounds r _)[m]? = _
      rw [Array.getElem?_setIfInBounds_ne hne, hb0, h1]
    have hnb : (es.toList.map (fun x => x.born)).Nodup := by
      rw [List.Nodup, List.pairwise_map]
      exact h3
    refine .inr ⟨e.key, e.val, _, by rw [← h2]; exact List.mem_map.2 ⟨e, hel.1, rfl⟩, hnd, hrun, ⟨⟨es, cl, since, seen.push e.born, cl, hm1, h2, h3, h4, hr1, h6, h7', h7', ?_⟩, hk, hn, ?_, ?_⟩, hw0g.trans (setBlock_grown w0 r _), by simp [ChangeMaps.setBlock, hb0], run_entry_at _ r m since seen es cl e hr1 hm1 hel.1 hnb, by unfold World.rangeLeft; rw [hm1, hr1, h1, h5]; exact left_falls he⟩
    · intro e' he'
      have hnk : (es.toList.map (·.key)).Nodup := by rw [← h2, List.map_map] at hn; exact hn
      obtain ⟨i, hi⟩ := List.getElem?_of_mem hel.1
      obtain ⟨j, hj⟩ := List.getElem?_of_mem he'
      rw [Array.getElem?_toList] at hi hj
      have hkb : e'.born = e.born ↔ e'.key = e.key := by
        constructor
        · intro hb
          obtain rfl := born_at h3 hj hi hb
          rw [hi] at hj
          cases hj
          rfl
        · intro hb
          obtain rfl := nodup_at hnk hj hi hb
          rw [hi] at hj
          cases hj
          rfl
      rw [Array.contains_push, Bool.or_eq_true, beq_iff_eq, h8 e' he', List.mem_append, List.mem_singleton, ← hkb]
    · rw [List.nodup_append]
      refine ⟨hd, by simp, ?_⟩
      intro a ha b hb
      simp at hb
      rintro rfl
      subst hb
      exact hnd ha
    · intro x hx
      rcases List.mem_append.1 hx with hx | hx
      · exact hs x hx
      · simp at hx
        subst hx
        rw [← h2, List.map_map]
        exact List.mem_map.2 ⟨e, hel.1, rfl⟩
theorem MapL.len (h : MapL P k w m L) {t E : TypeId} (ht : P.underlying t = some (.map k E)) (ty : TypeId) : (Builtin.len_ #[t] ty #[.map (some m)]).run P w = .ok (.int .i64 L.length) w := by
  obtain ⟨⟨es, cl, h1, h2, _⟩, _, _⟩ := h
  have hg : (getObj m).run P w = .ok (.map es cl) w := by simp [getObj, Sem.run, h1]
  have hl : L.length = es.size := by rw [← h2]; simp
  simp only [Builtin.len_, List.getElem?_toArray, List.getElem?_cons_zero, Sem.run_bind, run_underlying ht, Result.andThen_ok, hg, Sem.run_pure]
  rw [hl]
  rfl
theorem MapL.delete (h : MapL P k w m L) (K : Keyed P k) {t E : TypeId} (ht : P.underlying t = some (.map k E)) {x : Value} {l : Lit} (hx : keyOf P k x = some l) (kt ty : TypeId) :
    ∃ L' w1, (Builtin.delete_ #[t, kt] ty #[.map (some m), x]).run P w = .ok (.tuple #[]) w1 ∧ MapL P k w1 m L' ∧ (∀ p, p ∈ L' ↔ p ∈ L ∧ p.1 ≠ x) ∧ w.grownBy w1 (some m) ∧ L'.Sublist L := by
  have h' := h
  obtain ⟨⟨es, cl, h1, h2, h3, h4⟩, hk, hn⟩ := h
  have hg : (getObj m).run P w = .ok (.map es cl) w := by simp [getObj, Sem.run, h1]
  have hlt := h'.lt
  rcases h'.find K hx h1 w with ⟨hr, hno⟩ | ⟨j, e, hr, hj, he, hm⟩
  · refine ⟨L, _, ?_, ⟨⟨es, cl, setObj_heap hlt, h2, h3, h4⟩, hk, hn⟩, fun p => ⟨fun hp => ⟨hp, hno p hp⟩, fun hp => hp.1⟩, setObj_grown _, List.Sublist.refl _⟩
    simp only [Builtin.delete_, List.getElem?_toArray, List.getElem?_cons_zero, List.getElem?_cons_succ, Sem.run_bind, run_underlying ht, Result.andThen_ok, hg, Sem.run_pure, K.check w es.isEmpty hx, hr, setObj_run h1]
  · have hjs : j < es.size := (Array.getElem?_eq_some_iff.1 hj).1
    have hel : (es.eraseIdxIfInBounds j).toList = es.toList.eraseIdx j := by
      unfold Array.eraseIdxIfInBounds
      rw [dif_pos hjs, Array.toList_eraseIdx]
    have hsub : ((es.eraseIdxIfInBounds j).toList.map (fun e => (e.key, e.val))).Sublist L := by
      rw [hel, ← h2]
      exact (List.eraseIdx_sublist _ _).map _
    have hnk : (es.toList.map (·.key)).Nodup := by rw [← h2, List.map_map] at hn; exact hn
    refine ⟨(es.eraseIdxIfInBounds j).toList.map (fun e => (e.key, e.val)), _, ?_, ⟨⟨_, cl, setObj_heap hlt, rfl, ?_, ?_⟩, ?_, ?_⟩, ?_, setObj_grown _, hsub⟩
    · simp only [Builtin.delete_, List.getElem?_toArray, List.getElem?_cons_zero, List.getElem?_cons_succ, Sem.run_bind, run_underlying ht, Result.andThen_ok, hg, Sem.run_pure, K.check w es.isEmpty hx, hr, setObj_run h1]
    · rw [hel]
      exact h3.sublist (List.eraseIdx_sublist _ _)
    · intro e he
      rw [hel] at he
      exact h4 e ((List.eraseIdx_sublist _ _).subset he)
    · exact fun p hp => hk p (hsub.subset hp)
    · exact hn.sublist (hsub.map _)
    · intro p
      constructor
      · intro hp
        refine ⟨hsub.subset hp, ?_⟩
        rw [hel] at hp
        obtain ⟨e', he', rfl⟩ := List.mem_map.1 hp
        intro hkx
        obtain ⟨i, hi, hie⟩ := List.mem_eraseIdx_iff_getElem?.1 he'
        have := nodup_at hnk (by rw [← Array.getElem?_toList]; exact hie) hj (by rw [he]; exact hkx)
        exact hi this
      · rintro ⟨hp, hkx⟩
        rw [← h2] at hp
        obtain ⟨e', he', rfl⟩ := List.mem_map.1 hp
        rw [hel]
        refine List.mem_map.2 ⟨e', ?_, rfl⟩
        obtain ⟨i, hi⟩ := List.getElem?_of_mem he'
        refine List.mem_eraseIdx_iff_getElem?.2 ⟨i, ?_, hi⟩
        rintro rfl
        rw [Array.getElem?_toList, hj] at hi
        cases hi
        exact hkx he
end
end Go.Proofs.Yticnncgbfpgeaaa
