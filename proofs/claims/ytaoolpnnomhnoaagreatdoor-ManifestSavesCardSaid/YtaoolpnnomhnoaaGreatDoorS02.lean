/- Maps as lists: a range over one, a deletion, how many there are. -/
import Derived.Test.YtaoolpnnomhnoaaGreatDoorS01
import Derived.Maps.RangeRun
import Derived.Maps.Range
import Derived.Laws.IdiomRangeMap
import Derived.Test.YtaoolpnnomhnoaaGreatDoorRows
import Derived.Laws.BytesArg
import Derived.Test.YtaoolpnnomhnoaaGreatDoorShelf
import Derived.WalkKit
import Derived.ProofKit
import Derived.OpenShut
import Derived.ShutString
import Derived.ChangeOld
import Derived.Below
import Derived.Deep.Slices
import Derived.Deep.Fields
import Derived.ChangeSame
import Derived.Deep.CutRange
set_option linter.unusedSimpArgs false
set_option linter.unusedVariables false
namespace Go.Proofs.YtaoolpnnomhnoaaGreatDoor
open Go.RowKit Go.Maps
open Go

/-- A range over the map m is under way (its block: r); the keys 'done' have come. -/
structure RangeL (P : Program) (k : TypeId) (w : World) (m r : Nat) (L : List (Value × Value)) (done : List Value) : Prop where
  ex : ∃ es clock since seen c0, w.heap[m]? = some (.map es clock) ∧ es.toList.map (fun e => (e.key, e.val)) = L ∧ es.toList.Pairwise (fun a b => a.born ≠ b.born) ∧ (∀ e ∈ es.toList, e.born < clock) ∧
    w.heap[r]? = some (.mapIter (some m) since seen c0) ∧ (∀ e ∈ es.toList, e.born < since) ∧ since ≤ c0 ∧ since ≤ clock ∧ ∀ e ∈ es.toList, (seen.contains e.born = true ↔ e.key ∈ done)
  keys : ∀ p ∈ L, ∃ l, keyOf P k p.1 = some l
  nodup : (L.map Prod.fst).Nodup
  dn : done.Nodup
  sub : ∀ x ∈ done, x ∈ L.map Prod.fst
section
variable {P : Program} {k : TypeId} {w w1 : World} {m r : Nat} {L : List (Value × Value)} {done : List Value}
theorem RangeL.map (h : RangeL P k w m r L done) : MapL P k w m L := by
  obtain ⟨es, cl, since, seen, c0, h1, h2, h3, h4, _⟩ := h.ex
  exact ⟨⟨es, cl, h1, h2, h3, h4⟩, h.keys, h.nodup⟩
theorem RangeL.keep (h : RangeL P k w m r L done) (hm : w1.heap[m]? = w.heap[m]?) (hr : w1.heap[r]? = w.heap[r]?) : RangeL P k w1 m r L done := by
  obtain ⟨⟨es, cl, since, seen, c0, h1, h2, h3, h4, h5, h6⟩, hk, hn, hd, hs⟩ := h
  exact ⟨⟨es, cl, since, seen, c0, hm.trans h1, h2, h3, h4, hr.trans h5, h6⟩, hk, hn, hd, hs⟩
theorem RangeL.lt (h : RangeL P k w m r L done) : r < w.heap.size := by
  obtain ⟨es, cl, since, seen, c0, _, _, _, _, h5, _⟩ := h.ex
  exact (Array.getElem?_eq_some_iff.1 h5).1
theorem RangeL.ne (h : RangeL P k w m r L done) : r ≠ m := by
  obtain ⟨es, cl, since, seen, c0, h1, _, _, _, h5, _⟩ := h.ex
  rintro rfl
  rw [h1] at h5
  cases h5
theorem RangeL.grown {row : Option Nat} (h : RangeL P k w m r L done) (hg : w.grownBy w1 row) (h1 : row ≠ some m) (h2 : row ≠ some r) : RangeL P k w1 m r L done :=
  h.keep (hg.block m h.map.lt (fun e => h1 e.symm)) (hg.block r h.lt (fun e => h2 e.symm))
theorem RangeL.drew (h : RangeL P k w m r L done) : RangeL P k w.drew m r L done := h.keep rfl rfl
theorem RangeL.alloc (h : RangeL P k w m r L done) (o : Obj) : RangeL P k (w.alloc o) m r L done := h.keep (Below.heap_alloc w o m h.map.lt) (Below.heap_alloc w o r h.lt)
theorem RangeL.set_ (h : RangeL P k w m r L done) {a : Addr} (v : Value) (h1 : m ≠ a.block) (h2 : r ≠ a.block) : RangeL P k (w.setCell a v) m r L done :=
  h.keep (Below.heap_setCell w a v m h1) (Below.heap_setCell w a v r h2)

theorem MapL.range (h : MapL P k w m L) {t E : TypeId} (ht : P.underlying t = some (.map k E)) :
    ∃ o, (Instr.range t (.map (some m))).run P w = .ok (.pointer (some ⟨w.heap.size, 0, none⟩)) (w.alloc o) ∧ RangeL P k (w.alloc o) m w.heap.size L [] := by
  obtain ⟨⟨es, cl, h1, h2, h3, h4⟩, hk, hn⟩ := h
  refine ⟨_, run_range_map w t k E m es cl ht h1, ⟨⟨es, cl, cl, #[], cl, ?_, h2, h3, h4, heap_alloc_new w _, h4, Nat.le_refl _, Nat.le_refl _, fun e _ => by simp⟩, hk, hn, List.nodup_nil, by simp⟩⟩
  exact (Below.heap_alloc w _ m (Array.getElem?_eq_some_iff.1 h1).1).trans h1
theorem setBlock_grown (w : World) (r : Nat) (o : Obj) : w.grownBy (ChangeMaps.setBlock w r o) (some r) :=
  ⟨rfl, rfl, rfl, by simp [ChangeMaps.setBlock], fun k _ hne => by
    show (w.heap.setIfInBounds r o)[k]? = _
    rw [Array.getElem?_setIfInBounds_ne (fun e => hne (by rw [e]))]⟩
/-- A step leaves fewer to come. -/
theorem left_falls {es : Array MapEntry} {seen : Array Nat} {e : MapEntry} (he : e ∈ (leftOf es seen).toList) : (leftOf es (seen.push e.born)).size < (leftOf es seen).size := by
  have h1 : leftOf es (seen.push e.born) = (leftOf es seen).filter (fun x => !(x.born == e.born)) := by
    unfold leftOf
    rw [Array.filter_filter]
    congr 1
    funext x
    rw [Array.contains_push]
    cases seen.contains x.born <;> cases (x.born == e.born) <;> rfl
  have h2 : (leftOf es (seen.push e.born)).toList = (leftOf es seen).toList.filter (fun x => !(x.born == e.born)) := by rw [h1, Array.toList_filter]
  have h3 : ((leftOf es seen).toList.filter (fun x => !(x.born == e.born))).length < (leftOf es seen).toList.length := List.length_filter_lt_length_iff_exists.2 ⟨e, he, by simp⟩
  rw [← h2] at h3
  exact h3
theorem RangeL.next (h : RangeL P k w m r L done) (ty : TypeId) :
    ((Instr.next (.pointer (some ⟨r, 0, none⟩)) false ty).run P w = .ok (.tuple #[.bool false]) w ∧ ∀ p ∈ L, p.1 ∈ done) ∨
    ∃ x v w1, (x, v) ∈ L ∧ x ∉ done ∧ (Instr.next (.pointer (some ⟨r, 0, none⟩)) false ty).run P w = .ok (.tuple #[.bool true, x, v]) w1 ∧ RangeL P k w1 m r L (done ++ [x]) ∧ w.grownBy w1 (some r) ∧ w1.heap.size = w.heap.size ∧
      (Instr.entry (.pointer (some ⟨r, 0, none⟩))).run P w1 = .ok (.tuple #[x, v]) w1 ∧ w1.rangeLeft m r < w.rangeLeft m r := by
  have hlt := h.lt
  have hne := h.ne
  obtain ⟨⟨es, cl, since, seen, c0, h1, h2, h3, h4, h5, h6, h7, h7', h8⟩, hk, hn, hd, hs⟩ := h
  rcases run_next_at (P := P) w ty r m since c0 seen es cl h5 h1 h6 h7 with ⟨h0, hrun⟩ | ⟨e, he, w0, hw0, hrun⟩
  · refine .inl ⟨hrun, fun p hp => ?_⟩
    rw [← h2] at hp
    obtain ⟨e, he, rfl⟩ := List.mem_map.1 hp
    rw [← h8 e he]
    by_cases hc : seen.contains e.born = true
    · exact hc
    · exfalso
      have : e ∈ leftOf es seen := by
        unfold leftOf
        rw [Array.mem_filter]
        exact ⟨by simpa using he, by simpa using hc⟩
      have h9 := Array.size_pos_of_mem this
      omega
  · have hel : e ∈ es.toList ∧ seen.contains e.born = false := by
      unfold leftOf at he
      have he' := Array.mem_toList_iff.1 he
      rw [Array.mem_filter] at he'
      exact ⟨by simpa using he'.1, by simpa using he'.2⟩
    have hb0 : w0.heap = w.heap := by rcases hw0 with rfl | rfl <;> rfl
    have hw0g : w.grownBy w0 (some r) := by
      rcases hw0 with rfl | rfl
      · exact ⟨rfl, rfl, rfl, Nat.le_refl _, fun _ _ _ => rfl⟩
      · exact ⟨rfl, rfl, rfl, Nat.le_refl _, fun _ _ _ => rfl⟩
    have hnd : e.key ∉ done := fun hc => by
      rw [← h8 e hel.1] at hc
      rw [hel.2] at hc
      cases hc
    have hr1 : (ChangeMaps.setBlock w0 r (.mapIter (some m) since (seen.push e.born) cl)).heap[r]? = some (.mapIter (some m) since (seen.push e.born) cl) := by
      show (w0.heap.setIfInBounds r _)[r]? = _
      rw [Array.getElem?_setIfInBounds, if_pos rfl, if_pos (by rw [hb0]; exact hlt)]
    have hm1 : (ChangeMaps.setBlock w0 r (.mapIter (some m) since (seen.push e.born) cl)).heap[m]? = some (.map es cl) := by
      show (w0.heap.setIfInBounds r _)[m]? = _
      rw [Array.getElem?_setIfInBounds_ne hne, hb0, h1]
    have hnb : (es.toList.map (fun x => x.born)).Nodup := by
      rw [List.Nodup, List.pairwise_map]
      exact h3
    refine .inr ⟨e.key, e.val, _, by rw [← h2]; exact List.mem_map.2 ⟨e, hel.1, rfl⟩, hnd, hrun, ⟨⟨es, cl, since, seen.push e.born, cl, hm1, h2, h3, h4, hr1, h6, h7', h7', ?_⟩, hk, hn, ?_, ?_⟩, hw0g.trans (setBlock_grown w0 r _), by simp [ChangeMaps.setBlock, hb0], run_entry_at _ r m since seen es cl e hr1 hm1 hel.1 hnb, by unfold World.rangeLeft; rw [hm1, hr1, h1, h5]; exact left_falls he⟩
    · intro e' he'
      have hnk : (es.toList.map (·.key)).Nodup := by rw [← h2, List.map_map] at hn; exact hn
      obtain ⟨i, hi⟩ := List.getElem?_of_mem hel.1
      obtain ⟨j, hj⟩ := List.getElem?_of_mem he'
      rw [Array.getElem?_toList] at hi hj
      have hkb : e'.born = e.born ↔ e'.key = e.key := by
        constructor
        · intro hb
          obtain rfl := born_at h3 hj hi hb
          rw [hi] at hj
          cases hj
          rfl
        · intro hb
          obtain rfl := nodup_at hnk hj hi hb
          rw [hi] at hj
          cases hj
          rfl
      rw [Array.contains_push, Bool.or_eq_true, beq_iff_eq, h8 e' he', List.mem_append, List.mem_singleton, ← hkb]
    · rw [List.nodup_append]
      refine ⟨hd, by simp, ?_⟩
      intro a ha b hb
      simp at hb
      rintro rfl
      subst hb
      exact hnd ha
    · intro x hx
      rcases List.mem_append.1 hx with hx | hx
      · exact hs x hx
      · simp at hx
        subst hx
        rw [← h2, List.map_map]
        exact List.mem_map.2 ⟨e, hel.1, rfl⟩
theorem MapL.len (h : MapL P k w m L) {t E : TypeId} (ht : P.underlying t = some (.map k E)) (ty : TypeId) : (Builtin.len_ #[t] ty #[.map (some m)]).run P w = .ok (.int .i64 L.length) w := by
  obtain ⟨⟨es, cl, h1, h2, _⟩, _, _⟩ := h
  have hg : (getObj m).run P w = .ok (.map es cl) w := by simp [getObj, Sem.run, h1]
  have hl : L.length = es.size := by rw [← h2]; simp
  simp only [Builtin.len_, List.getElem?_toArray, List.getElem?_cons_zero, Sem.run_bind, run_underlying ht, Result.andThen_ok, hg, Sem.run_pure]
  rw [hl]
  rfl
theorem MapL.delete (h : MapL P k w m L) (K : Keyed P k) {t E : TypeId} (ht : P.underlying t = some (.map k E)) {x : Value} {l : Lit} (hx : keyOf P k x = some l) (kt ty : TypeId) :
    ∃ L' w1, (Builtin.delete_ #[t, kt] ty #[.map (some m), x]).run P w = .ok (.tuple #[]) w1 ∧ MapL P k w1 m L' ∧ (∀ p, p ∈ L' ↔ p ∈ L ∧ p.1 ≠ x) ∧ w.grownBy w1 (some m) ∧ L'.Sublist L := by
  have h' := h
  obtain ⟨⟨es, cl, h1, h2, h3, h4⟩, hk, hn⟩ := h
  have hg : (getObj m).run P w = .ok (.map es cl) w := by simp [getObj, Sem.run, h1]
  have hlt := h'.lt
  rcases h'.find K hx h1 w with ⟨hr, hno⟩ | ⟨j, e, hr, hj, he, hm⟩
  · refine ⟨L, _, ?_, ⟨⟨es, cl, setObj_heap hlt, h2, h3, h4⟩, hk, hn⟩, fun p => ⟨fun hp => ⟨hp, hno p hp⟩, fun hp => hp.1⟩, setObj_grown _, List.Sublist.refl _⟩
    simp only [Builtin.delete_, List.getElem?_toArray, List.getElem?_cons_zero, List.getElem?_cons_succ, Sem.run_bind, run_underlying ht, Result.andThen_ok, hg, Sem.run_pure, K.check w es.isEmpty hx, hr, setObj_run h1]
  · have hjs : j < es.size := (Array.getElem?_eq_some_iff.1 hj).1
    have hel : (es.eraseIdxIfInBounds j).toList = es.toList.eraseIdx j := by
      unfold Array.eraseIdxIfInBounds
      rw [dif_pos hjs, Array.toList_eraseIdx]
    have hsub : ((es.eraseIdxIfInBounds j).toList.map (fun e => (e.key, e.val))).Sublist L := by
      rw [hel, ← h2]
      exact (List.eraseIdx_sublist _ _).map _
    have hnk : (es.toList.map (·.key)).Nodup := by rw [← h2, List.map_map] at hn; exact hn
    refine ⟨(es.eraseIdxIfInBounds j).toList.map (fun e => (e.key, e.val)), _, ?_, ⟨⟨_, cl, setObj_heap hlt, rfl, ?_, ?_⟩, ?_, ?_⟩, ?_, setObj_grown _, hsub⟩
    · simp only [Builtin.delete_, List.getElem?_toArray, List.getElem?_cons_zero, List.getElem?_cons_succ, Sem.run_bind, run_underlying ht, Result.andThen_ok, hg, Sem.run_pure, K.check w es.isEmpty hx, hr, setObj_run h1]
    · rw [hel]
      exact h3.sublist (List.eraseIdx_sublist _ _)
    · intro e he
      rw [hel] at he
      exact h4 e ((List.eraseIdx_sublist _ _).subset he)
    · exact fun p hp => hk p (hsub.subset hp)
    · exact hn.sublist (hsub.map _)
    · intro p
      constructor
      · intro hp
        refine ⟨hsub.subset hp, ?_⟩
        rw [hel] at hp
        obtain ⟨e', he', rfl⟩ := List.mem_map.1 hp
        intro hkx
        obtain ⟨i, hi, hie⟩ := List.mem_eraseIdx_iff_getElem?.1 he'
        have := nodup_at hnk (by rw [← Array.getElem?_toList]; exact hie) hj (by rw [he]; exact hkx)
        exact hi this
      · rintro ⟨hp, hkx⟩
        rw [← h2] at hp
        obtain ⟨e', he', rfl⟩ := List.mem_map.1 hp
        rw [hel]
        refine List.mem_map.2 ⟨e', ?_, rfl⟩
        obtain ⟨i, hi⟩ := List.getElem?_of_mem he'
        refine List.mem_eraseIdx_iff_getElem?.2 ⟨i, ?_, hi⟩
        rintro rfl
        rw [Array.getElem?_toList, hj] at hi
        cases hi
        exact hkx he
end
end Go.Proofs.YtaoolpnnomhnoaaGreatDoor

/- Rows of one-cell elements that may be longer than their slice's capacity (behind x[:n:n]), and what append makes of them. -/
namespace Go.Proofs.YtaoolpnnomhnoaaGreatDoor
open Go.RowKit

/-- The slice (A, n, c) holds xs in a row from block base on, at its beginning; the row may be longer. -/
def Buf (w : World) (base : Nat) (e : TypeId) (A : Option Addr) (n c : Nat) (xs : List Value) : Prop :=
  xs.length = n ∧ n ≤ c ∧ ((A = none ∧ c = 0) ∨ ∃ g cur, A = some ⟨g, 0, none⟩ ∧ base ≤ g ∧ Row w g e cur ∧ c ≤ cur.size ∧ cur.toList.take n = xs)
section
variable {w w1 : World} {base : Nat} {e : TypeId} {A : Option Addr} {n c : Nat} {xs : List Value}
theorem Buf.nil (w : World) (base : Nat) (e : TypeId) : Buf w base e none 0 0 [] := ⟨rfl, Nat.le_refl _, .inl ⟨rfl, rfl⟩⟩
theorem Buf.of_own (h : w.ownsRow base e 1 (.slice A n c) n xs) : Buf w base e A n c xs := by
  obtain ⟨h1, h2⟩ := h
  rcases h2 with ⟨hv, rfl⟩ | ⟨g, cap, cur, hv, hb, hg, hn, _, hs, ht⟩
  · cases hv
    exact ⟨by simpa using h1, Nat.le_refl _, .inl ⟨rfl, rfl⟩⟩
  · cases hv
    exact ⟨by simpa using h1, hn, .inr ⟨g, cur, rfl, hb, hg, by omega, by simpa using ht⟩⟩
theorem Buf.cells (h : Buf w base e A n c xs) : Cells w A xs := by
  obtain ⟨h1, h2, h3⟩ := h
  rcases h3 with ⟨rfl, rfl⟩ | ⟨g, cur, rfl, hb, hg, hs, ht⟩
  · exact .inl (List.eq_nil_of_length_eq_zero (by omega))
  · refine .inr ⟨g, 0, rfl, fun i v hv => ?_⟩
    rw [Nat.zero_add, cell_of_row w g i cur e (0, 0) hg]
    rw [← ht, List.getElem?_take] at hv
    split at hv
    · simpa using hv
    · cases hv
theorem Buf.keep (h : Buf w base e A n c xs) (hk : ∀ g, A = some ⟨g, 0, none⟩ → w1.heap[g]? = w.heap[g]?) : Buf w1 base e A n c xs := by
  obtain ⟨h1, h2, h3⟩ := h
  refine ⟨h1, h2, ?_⟩
  rcases h3 with h3 | ⟨g, cur, hA, hb, hg, r⟩
  · exact .inl h3
  · exact .inr ⟨g, cur, hA, hb, hg.keep (hk g hA), r⟩
theorem Buf.lt (h : Buf w base e A n c xs) : ∀ a, A = some a → a.block < w.heap.size := by
  rintro a rfl
  obtain ⟨_, _, h3⟩ := h
  rcases h3 with ⟨h3, _⟩ | ⟨g, cur, hA, hb, hg, r⟩
  · cases h3
  · cases hA
    exact hg.lt
theorem Buf.base_le (h : Buf w base e A n c xs) : ∀ a, A = some a → base ≤ a.block := by
  rintro a rfl
  obtain ⟨_, _, h3⟩ := h
  rcases h3 with ⟨h3, _⟩ | ⟨g, cur, hA, hb, hg, r⟩
  · cases h3
  · cases hA
    exact hb
theorem Buf.chg {S : Nat → Prop} (h : Buf w base e A n c xs) (hc : Chg S w w1) (hn : ∀ a, A = some a → ¬ S a.block) : Buf w1 base e A n c xs :=
  h.keep fun g hA => hc.block g (h.lt _ hA) (hn _ hA)
theorem Buf.grown {row : Option Nat} (h : Buf w base e A n c xs) (hg : w.grownBy w1 row) (hne : ∀ a, A = some a → row ≠ some a.block) : Buf w1 base e A n c xs :=
  h.keep fun g hA => hg.block g (h.lt _ hA) (fun e => hne _ hA e.symm)
theorem Buf.ext (h : Buf w base e A n c xs) (he : Ext w w1) : Buf w1 base e A n c xs := h.keep fun g hA => Below.block he g (h.lt _ hA)
theorem Buf.alloc (h : Buf w base e A n c xs) (o : Obj) : Buf (w.alloc o) base e A n c xs := h.ext ((Ext.refl w).alloc o)
theorem Buf.drew (h : Buf w base e A n c xs) : Buf w.drew base e A n c xs := h.keep fun _ _ => rfl
theorem Buf.setCell (h : Buf w base e A n c xs) {p : Addr} (hp : ∀ a, A = some a → a.block ≠ p.block) (u : Value) : Buf (w.setCell p u) base e A n c xs :=
  h.keep fun g hA => Below.heap_setCell w p u g (hp _ hA)
theorem Buf.unlike (h : Buf w base e A n c xs) {g : Nat} {t : TypeId} {cs : Array Value} (hr : Row w g t cs) (hne : e ≠ t) : ∀ a, A = some a → a.block ≠ g := by
  rintro a rfl
  obtain ⟨_, _, h3⟩ := h
  rcases h3 with ⟨h3, _⟩ | ⟨k, cur, hA, hb, hg, r⟩
  · cases h3
  · cases hA
    exact hg.unlike hr hne
/-- x[:m:m] -/
theorem Buf.cut (h : Buf w base e A n c xs) {m k : Nat} (hm : m ≤ n) (hk : m ≤ k) (hkc : k ≤ c) : Buf w base e A m k (xs.take m) := by
  obtain ⟨h1, h2, h3⟩ := h
  refine ⟨by rw [List.length_take]; omega, hk, ?_⟩
  rcases h3 with ⟨hA, h3⟩ | ⟨g, cur, hA, hb, hg, hs, ht⟩
  · exact .inl ⟨hA, by omega⟩
  · refine .inr ⟨g, cur, hA, hb, hg, by omega, ?_⟩
    rw [← ht, List.take_take, Nat.min_eq_left hm]
theorem Buf.lower (h : Buf w base e A n c xs) {b : Nat} (hb : b ≤ base) : Buf w b e A n c xs := by
  obtain ⟨h1, h2, h3⟩ := h
  refine ⟨h1, h2, ?_⟩
  rcases h3 with h3 | ⟨g, cur, hA, hb', r⟩
  · exact .inl h3
  · exact .inr ⟨g, cur, hA, by omega, r⟩
end
theorem grown_setRow (w : World) (g : Nat) (cs : Array Value) : w.grownBy (w.setRow g cs) (some g) :=
  ⟨rfl, rfl, rfl, by simp [World.setRow], fun k _ hne => setRow_other w g k cs (fun e => hne (by rw [e]))⟩
theorem run_buf {P : Program} {t e bytes : Nat} (E : Elem P t e 1 bytes) (w : World) (ty : TypeId) {base : Nat} {A : Option Addr} {n c : Nat} {xs : List Value} (hb : Buf w base e A n c xs)
    {B : Option Addr} {m c' : Nat} {news : List Value} (hr : Cells w B news) (hl : news.length = m) (h1 : ∀ u ∈ news, u.oneCell' = true) (hsz : n + m ≤ 4294967296) (hbase : base ≤ w.heap.size) :
    ∃ A1 c1 w', (Builtin.append_ #[t, t] ty #[.slice A n c, .slice B m c']).run P w = .ok (.slice A1 (n + m) c1) w' ∧ Buf w' base e A1 (n + m) c1 (xs ++ news) ∧ w.grownBy w' (Value.slice A n c).ownBlock ∧
      (A1 = A ∨ A1 = some ⟨w.heap.size, 0, none⟩) := by
  obtain ⟨i, z, hi, hz, h3, h4, h5⟩ := E.hi
  have hbytes : (n + m) * bytes ≤ 4398046511104 := Nat.le_trans (Nat.mul_le_mul hsz E.hb) (by omega)
  obtain ⟨hx, hnc, hA⟩ := hb
  rcases hA with ⟨rfl, rfl⟩ | ⟨g, cur, rfl, hbg, hg, hs, ht⟩
  · obtain rfl : n = 0 := by omega
    obtain rfl : xs = [] := List.eq_nil_of_length_eq_zero hx
    obtain ⟨A1, c1, w', hrun, ho, hgr, hloc⟩ := run_app E w ty (base := base) (v := .slice none 0 0) (n := 0) (xs := []) ⟨rfl, .inl ⟨rfl, rfl⟩⟩ (c := c') hr (by omega) h1 hsz hbase
    refine ⟨A1, c1, w', hrun, Buf.of_own ho, hgr, ?_⟩
    rcases ho.2 with ⟨hv, _⟩ | ⟨g, cap, cur, hv, _⟩
    · injection hv with hA1 _ _
      exact .inl hA1
    · injection hv with hA1 _ _
      subst hA1
      rcases hloc with hloc | hloc
      · simp [Value.ownBlock] at hloc
      · simp [Value.ownBlock] at hloc
        subst hloc
        exact .inr rfl
  · cases B with
    | none =>
      have hnil : news = [] := by
        rcases hr with hr | ⟨_, _, hB, _⟩
        · exact hr
        · cases hB
      subst hnil
      obtain rfl : m = 0 := by simpa using hl.symm
      refine ⟨some ⟨g, 0, none⟩, c, w, ?_, ⟨by simpa using hx, by omega, .inr ⟨g, cur, rfl, hbg, hg, hs, by simpa using ht⟩⟩, World.grownBy.refl w _, .inl rfl⟩
      simp [Builtin.append_, run_underlying E.ht, sizeOf, typeInfo, hi, Builtin.lenOf, Builtin.firstCells, hnc, storeCells]
    | some a =>
      have hc : ∀ j u, news[j]? = some u → w.cell? (a.add j) = some u := by
        intro j u hu
        rcases hr with hr | ⟨g', o', hB, hc⟩
        · subst hr; simp at hu
        · cases hB
          rw [Addr.add_lit]
          exact hc j u hu
      by_cases hroom : n + m ≤ c
      · refine ⟨some ⟨g, 0, none⟩, c, _, run_append_room w t ty e i E.ht hi g n c cur hg a m c' news (by rw [h3]; omega) hc h1 hroom (by rw [h3]; omega), ⟨by rw [List.length_append]; omega, hroom, .inr ⟨g, _, rfl, hbg, setRow_heap w g cur _ e (0, 0) hg, ?_, ?_⟩⟩, grown_setRow w g _, .inl rfl⟩
        · simp [h3]
          omega
        · have hxl : (List.take (n * i.size) cur.toList) = xs := by rw [h3, Nat.mul_one]; exact ht
          simp only [hxl]
          rw [List.take_append_of_le_length (by rw [List.length_append]; omega), List.take_of_length_le (by rw [List.length_append]; omega)]
      · have hb2 := nextslicecap_le (need := n + m) (old := c) (by omega)
        have hb3 : Builtin.nextslicecap (n + m) c * bytes ≤ 2 * (n + m) * bytes := Nat.mul_le_mul_right _ hb2
        have hb4 : 2 * (n + m) * bytes = 2 * ((n + m) * bytes) := Nat.mul_assoc _ _ _
        have hge := grownCap_ge w (n + m) c e
        have holds : ∀ (j : Nat) (v : Value), xs[j]? = some v → w.cell? (Addr.add ⟨g, 0, none⟩ j) = some v := by
          intro j v hv
          rw [Addr.add_lit, Nat.zero_add, cell_of_row w g j cur e (0, 0) hg]
          rw [← ht, List.getElem?_take] at hv
          split at hv
          · simpa using hv
          · cases hv
        refine ⟨some ⟨w.heap.size, 0, none⟩, grownCap w (n + m) c e, _, run_append_grow w t ty e i z E.ht hi hz ⟨g, 0, none⟩ n c xs (by rw [h3]; omega) holds a m c' news (by rw [h3]; omega) hc (by omega) (by omega) (by rw [h4]; omega), ⟨by rw [List.length_append]; omega, hge, .inr ⟨w.heap.size, _, rfl, hbase, heap_alloc_new w.drew _, ?_, ?_⟩⟩, ?_, .inr rfl⟩
        · simp only [Array.size_append, List.size_toArray, size_zeroCells, h5]
          omega
        · simp only [Array.toList_append]
          rw [List.take_append_of_le_length (by rw [List.length_append]; omega), List.take_of_length_le (by rw [List.length_append]; omega)]
        · exact (Ext.refl w |>.drew.alloc _) |> fun h => ⟨Below.os h, Below.tape h, Below.output h, Below.size h, fun k hk _ => Below.block h k hk⟩
end Go.Proofs.YtaoolpnnomhnoaaGreatDoor

/- Bytes: what a clone, a part, a string of them is. -/
namespace Go.Proofs.YtaoolpnnomhnoaaGreatDoor
open Go.RowKit

theorem follows : Tryz.prog.follows .mixedOrders = true := by kernel_rfl
theorem modify_push {α : Type} (h : Array α) (x : α) (f : α → α) : (h.push x).modify h.size f = h.push (f x) := by
  apply Array.ext
  · simp
  · intro i h1 h2
    simp only [Array.getElem_modify, Array.getElem_push]
    simp only [Array.size_push] at h2
    split
    · rename_i he
      subst he
      rw [dif_neg (by omega), dif_neg (by omega)]
    · rename_i he
      rw [dif_pos (by omega), dif_pos (by omega)]
theorem freeze_new (w : World) (cs : Array Value) (t : TypeId) (n : Nat) : (w.alloc (.cells cs t)).freeze ⟨w.heap.size, n, none⟩ 1 = w.alloc (.cells cs t (n, n + 1)) := by
  unfold World.freeze World.alloc
  rw [if_neg (by omega)]
  simp only [modify_push]
  rfl
/-- Bytes that were laid and marked. -/
theorem marked_bytes (w : World) (l : List UInt8) (t : TypeId) (f : Nat × Nat) : Bs (w.alloc (.cells (l.map B8).toArray t f)) (some ⟨w.heap.size, 0, none⟩) l :=
  .inr ⟨w.heap.size, 0, rfl, fun i v hv => by
    rw [Nat.zero_add, cell_of_row _ _ _ _ _ _ (heap_alloc_new w _)]
    simpa using hv⟩
set_option maxRecDepth 100000 in
theorem elemB : Elem Tryz.prog 57 5 1 1 := ⟨Tryz.underlying57, ⟨_, _, rfl, rfl, rfl, rfl, rfl⟩, by omega, by omega⟩
set_option maxRecDepth 100000 in
theorem nil_eq (w : World) : (binOp .eql 57 (.slice none 0 0) (.slice none 0 0)).run Tryz.prog w = .ok (.bool true) w := by kernel_rfl
set_option maxRecDepth 100000 in
theorem nil_ne (a : Addr) (n c : Nat) (w : World) : (binOp .eql 57 (.slice (some a) n c) (.slice none 0 0)).run Tryz.prog w = .ok (.bool false) w := by kernel_rfl
theorem ret_slice {A : Option Addr} {n m c : Nat} (h : n = m) : Ending.returned (.slice A n c) = .returned (.slice A m c) := by rw [h]
theorem own_empty (w : World) (t : TypeId) : (w.alloc (.cells #[] t)).ownsRow w.heap.size t 1 (.slice (some ⟨w.heap.size, 0, none⟩) 0 0) 0 [] :=
  ⟨rfl, .inr ⟨w.heap.size, 0, #[], rfl, Nat.le_refl _, heap_alloc_new w _, Nat.le_refl _, by unfold maxLen; omega, rfl, rfl⟩⟩
/-- x[fr:fr+k] -/
theorem run_sub {t e n c fr k : Nat} {A : Option Addr} (ht : Tryz.prog.underlying t = some (.slice e)) (hs : ∀ W : World, (sizeOf e).run Tryz.prog W = .ok 1 W) (h : fr + k ≤ n) (hc : n ≤ c) (hA : A = none → c = 0) (hp : ∀ a, A = some a → a.spot = none) :
    ∃ A' c', (∀ W : World, (Instr.sliceAt t (.slice A n c) (some (.int .i64 fr)) (some (.int .i64 ((fr : Int) + k))) none).run Tryz.prog W = .ok (.slice A' k c') W) ∧ (∀ (w : World) (xs : List Value), xs.length = n → Cells w A xs → Cells w A' ((xs.drop fr).take k)) ∧ (A' = none → c' = 0) ∧ (∀ a', A' = some a' → ∃ a, A = some a ∧ a'.block = a.block) ∧ k ≤ c' := by
  have he : Tryz.prog.elem t = e := by unfold Program.elem; rw [ht]
  have hrun : ∀ W : World, (Instr.sliceAt t (.slice A n c) (some (.int .i64 fr)) (some (.int .i64 ((fr : Int) + k))) none).run Tryz.prog W = .ok (sliced A fr (fr + k) c 1) W := by
    intro W
    rw [run_sliceAt_slice W t _ _ _ _ (by rw [ht, he]), run_slice_lh W t A n c (by rw [ht, he]) .i64 .i64 fr ((fr : Int) + k) (by omega) (by omega) (by omega), he, hs]
    simp only [Result.andThen_ok]
    congr 1
  unfold sliced at hrun
  rw [Nat.add_sub_cancel_left] at hrun
  refine ⟨_, c - fr, hrun, ?_, ?_, ?_, by omega⟩
  · intro w xs hx hcl
    rcases hcl with hcl | ⟨g, o, hg, hcl⟩
    · subst hcl
      exact .inl (by simp)
    · subst hg
      by_cases hcf : c = fr
      · rw [if_pos hcf]
        have h0 : k = 0 := by omega
        subst h0
        exact .inl (by simp)
      · rw [if_neg hcf]
        refine .inr ⟨g, o + fr, by simp [Addr.add, Nat.mul_one], fun i v hv => ?_⟩
        rw [List.getElem?_take] at hv
        split at hv
        · rw [List.getElem?_drop] at hv
          rw [Nat.add_assoc]
          exact hcl _ _ hv
        · cases hv
  · intro hn
    cases A with
    | none => have := hA rfl; omega
    | some a =>
      split at hn
      · cases hn
      · cases hn
  · intro a' ha
    cases A with
    | none =>
      split at ha
      · cases ha
      · cases ha
    | some a =>
      refine ⟨a, rfl, ?_⟩
      split at ha
      · cases ha; rfl
      · cases ha
        obtain ⟨b, o, sp⟩ := a
        obtain rfl : sp = none := hp _ rfl
        show (Addr.add ⟨b, o, none⟩ (fr * 1)).block = b
        rw [Addr.add_lit]
set_option maxRecDepth 100000 in
theorem run_same (w : World) (cs : Array Value) (n c : Nat) : (convert 57 57 (.slice (some ⟨w.heap.size, 0, none⟩) n c)).run Tryz.prog (w.alloc (.cells cs 5)) = .ok (.slice (some ⟨w.heap.size, 0, none⟩) n c) (w.alloc (.cells cs 5 (cs.size, cs.size + 1))) := by
  have hs : (w.alloc (.cells cs 5)).shape? w.heap.size = some (5, cs.size) := by
    unfold World.shape?
    rw [heap_alloc_new w _]
  unfold convert
  simp only [Sem.run_bind, run_underlying Tryz.underlying57, Result.andThen_ok]
  show Sem.run _ (do
      let __do_lift ← underlying 5
      match (57 : TypeId) == 57, __do_lift with
        | true, TypeDesc.int IntKind.u8 => do
          markStringish ⟨w.heap.size, 0, none⟩
          pure (Value.slice (some ⟨w.heap.size, 0, none⟩) n c)
        | x, x_1 => unsupported (Unsupported.noEntry "convert/other")) _ = _
  simp only [Sem.run_bind, run_underlying Tryz.underlying5, Result.andThen_ok]
  show Sem.run _ (do
          markStringish ⟨w.heap.size, 0, none⟩
          pure (Value.slice (some ⟨w.heap.size, 0, none⟩) n c)) _ = _
  unfold markStringish
  simp only [Sem.run_bind, run_shape, Result.andThen_ok, hs, run_freeze, freeze_new, Sem.run_pure]
set_option maxRecDepth 100000 in
theorem run_str {A : Option Addr} {l : List UInt8} {w : World} (h : Bs w A l) (n c : Nat) (hn : n = l.length) : (convert 57 9 (.slice A n c)).run Tryz.prog w = .ok (.string ⟨l.toArray⟩) w := by
  subst hn
  rcases Nat.eq_zero_or_pos l.length with h0 | h0
  · obtain rfl := List.eq_nil_of_length_eq_zero h0
    show (convert 57 9 (.slice A 0 c)).run Tryz.prog w = _
    rw [run_convert_bytes_string w 57 9 5 A 0 c Tryz.underlying57 Tryz.underlying5 Tryz.underlying9]
    cases A with
    | none => rfl
    | some a => exact run_bytesToString w a 0 c [] rfl
  · obtain ⟨g, o, rfl, hc⟩ := h.at_ h0
    have := run_convert_bytes_arg (P := Tryz.prog) w 57 5 Tryz.underlying57 Tryz.underlying5 g o l.length c (l.map fun x => (x.toNat : Int)) (by simp) (fun i hi => by rw [hc i hi]; simp [List.getD, hi]) 9 Tryz.underlying9
    rw [this]
    unfold strOfNums
    have e : (l.map fun x => (x.toNat : Int)).map (fun n => UInt8.ofNat n.toNat) = l := by
      rw [List.map_map]
      conv => rhs; rw [← List.map_id l]
      exact List.map_congr_left (fun x _ => by simp)
    rw [e]
/-- 'append' onto a row of the call's own, at the operation. -/
theorem wpList_buf {P : Program} {ops : Array Oper} {rest : List Oper} {o : Oper} {a : Act} {Q : Exit → Act → World → Prop} {w : World} {t e bytes : Nat} (E : Elem P t e 1 bytes)
    {base : Nat} {A B : Option Addr} {n c m m' c' : Nat} {xs news : List Value} (hb : Buf w base e A n c xs) (hr : Cells w B news) (s x : Operand)
    (ho : o.op = .call { callee := .builtin .append, args := #[s, x], argTypes := #[t, t] }) (hgd : o.guard = none)
    (hs : a.eval s = .slice A n c) (hx : a.eval x = .slice B m' c') (hm : m' = m) (hl : news.length = m) (h1 : ∀ u ∈ news, u.oneCell' = true) (hsz : n + m ≤ 4294967296) (hbase : base ≤ w.heap.size)
    (h : ∀ A1 c1 w', Buf w' base e A1 (n + m) c1 (xs ++ news) → w.grownBy w' (Value.slice A n c).ownBlock → (∀ w0, Ext w0 w → w0.heap.size ≤ base → Ext w0 w') → (A1 = A ∨ A1 = some ⟨w.heap.size, 0, none⟩) → wpList P ops Q rest (a.put o.dst (.slice A1 (n + m) c1)) w') : wpList P ops Q (o :: rest) a w :=
  wpList_plain hgd fun K hK => by
    subst hm
    obtain ⟨A1, c1, w', hrun, h2, h3, h4⟩ := run_buf (P := P) E w o.type hb (c' := c') hr hl h1 hsz hbase
    unfold Oper.wp execOp
    simp only [ho, resolve, invoke, builtin, Sem.run_bind, Sem.run_pure, Result.andThen_ok, List.map_toArray, List.map_cons, List.map_nil, hs, hx, hrun]
    refine hK _ _ (h A1 c1 w' h2 h3 (fun w0 hE hw => hE.grown h3 fun k hk => ?_) h4)
    have hbl := hb.base_le
    cases A with
    | none => simp [Value.ownBlock] at hk
    | some b =>
      have := hbl b rfl
      simp [Value.ownBlock] at hk
      omega
/-- 'append' of values that the statement has just laid in a new block. -/
theorem wpList_bufN {P : Program} {ops : Array Oper} {rest : List Oper} {o : Oper} {a : Act} {Q : Exit → Act → World → Prop} {w0 : World} {us : List Value} {T : TypeId} {t e bytes : Nat} (E : Elem P t e 1 bytes)
    {base : Nat} {A : Option Addr} {n c : Nat} {xs : List Value} (hb : Buf w0 base e A n c xs) (s x : Operand)
    (ho : o.op = .call { callee := .builtin .append, args := #[s, x], argTypes := #[t, t] }) (hgd : o.guard = none)
    (hs : a.eval s = .slice A n c) (hx : a.eval x = .slice (some ⟨w0.heap.size, 0, none⟩) us.length us.length) (h1 : ∀ u ∈ us, u.oneCell' = true) (hsz : n + us.length ≤ 4294967296) (hbase : base ≤ w0.heap.size)
    (h : ∀ A1 c1 w', Buf w' base e A1 (n + us.length) c1 (xs ++ us) → (∀ w00, Ext w00 w0 → w00.heap.size ≤ base → Ext w00 w') → wpList P ops Q rest (a.put o.dst (.slice A1 (n + us.length) c1)) w') :
    wpList P ops Q (o :: rest) a (w0.alloc (.cells us.toArray T)) := by
  refine wpList_buf E (hb.alloc _) (B := some ⟨w0.heap.size, 0, none⟩) (news := us) (.inr ⟨w0.heap.size, 0, rfl, fun i u hu => ?_⟩) s x ho hgd hs hx rfl rfl h1 hsz (by simp; omega) fun A1 c1 w' h2 _ h3 _ => h A1 c1 w' h2 fun w00 hE hle => h3 w00 (hE.alloc _) hle
  rw [Nat.zero_add, cell_of_row _ _ _ _ _ _ (heap_alloc_new w0 _)]
  simpa using hu
theorem Buf.none_cap {w : World} {base : Nat} {e : TypeId} {A : Option Addr} {n c : Nat} {xs : List Value} (h : Buf w base e A n c xs) (hA : A = none) : c = 0 := by
  rcases h.2.2 with ⟨_, h⟩ | ⟨g, _, h, _⟩
  · exact h
  · rw [h] at hA; cases hA
/-- New bytes. -/
def NewB (w : World) (l : List UInt8) (e : Ending) (w' : World) : Prop := ∃ A c, e = .returned (.slice A l.length c) ∧ Buf w' w.heap.size 5 A l.length c (l.map B8) ∧ Ext w w'
end Go.Proofs.YtaoolpnnomhnoaaGreatDoor

/- loggia/disk: names. -/
namespace Go.Proofs.YtaoolpnnomhnoaaGreatDoor
open Go.RowKit Go.Maps

set_option maxRecDepth 100000 in
theorem elemS : Elem Tryz.prog 73 9 1 16 := ⟨Tryz.underlying73, ⟨_, _, rfl, rfl, rfl, rfl, rfl⟩, by omega, by omega⟩
/-- May the letter be in a name? -/
def okb (c : UInt8) : Bool := (97 ≤ c.toNat && c.toNat ≤ 122) || (48 ≤ c.toNat && c.toNat ≤ 57) || c.toNat == 45 || c.toNat == 46
def letters : List UInt8 := [97, 98, 99, 100, 101, 102, 103, 104, 105, 106, 107, 108, 109, 110, 111, 112, 113, 114, 115, 116, 117, 118, 119, 120, 121, 122, 48, 49, 50, 51, 52, 53, 54, 55, 56, 57, 45, 46]
/-- May the name be? -/
def namedM (s : List UInt8) : Bool := 1 ≤ s.length && s.length ≤ 64 && s.all okb
theorem okb_is (c : UInt8) : decide (Lib.indexByte letters c < 0) = !okb c := by
  have h : ∀ n : Fin 256, decide (Lib.indexByte letters (UInt8.ofNat n.val) < 0) = !okb (UInt8.ofNat n.val) := by decide +kernel
  have := h ⟨c.toNat, c.toNat_lt⟩
  simpa using this
theorem letter_any (y : UInt8) (w : World) : Calls Tryz.prog 105 #[.string ⟨letters.toArray⟩, .int .u8 y.toNat] w fun e w' => ∃ v : Int, e = .returned (.int .i64 v) ∧ decide (v < 0) = !okb y ∧ w' = w := by
  refine (Tryz.strings_IndexByte ⟨letters.toArray⟩ y.toNat w).mono ?_
  rintro e w' ⟨rfl, rfl⟩
  have hcy : ((y.toNat : Int)).toNat.toUInt8 = y := by simp
  rw [hcy]
  exact ⟨_, rfl, okb_is y, rfl⟩
set_option maxRecDepth 100000 in
set_option maxHeartbeats 1000000 in
theorem named_any (s : List UInt8) (w : World) (hs : s.length ≤ 9223372036854775807) :
    Calls Tryz.prog 89 #[.string ⟨s.toArray⟩] w fun e w' => e = .returned (.bool (namedM s)) ∧ w' = w := by
  obtain ⟨n, hn⟩ : ∃ n, n = s.length := ⟨_, rfl⟩
  have hsz : (⟨s.toArray⟩ : ByteArray).size = n := by rw [hn]; exact ByteArray.size_mk_toArray s
  by_cases h1 : n < 1
  · have hm : namedM s = false := by unfold namedM; rw [← hn]; simp; omega
    rw [hm]
    replace hn := hide hn
    go_enter Tryz.func89, Tryz.ntmps89
    go_wp2_with fail
    go_ret
    exact ⟨rfl, rfl⟩
  · by_cases h2 : 64 < n
    · have hm : namedM s = false := by unfold namedM; rw [← hn]; simp; omega
      rw [hm]
      replace hn := hide hn
      go_enter Tryz.func89, Tryz.ntmps89
      go_wp2_with fail
      go_ret
      exact ⟨rfl, rfl⟩
    · have hm : namedM s = s.all okb := by unfold namedM; rw [← hn]; simp; omega
      rw [hm]
      replace hn := hide hn
      go_enter Tryz.func89, Tryz.ntmps89
      go_wp2_with fail
      go_loopw [14] (fun s14 wr => ∃ i : Nat, s14 = .int .i64 i ∧ i ≤ n ∧ Hid (s.all okb = (s.drop i).all okb) ∧ wr = w) (fun s14 _ => n - (intOf s14).toNat)
      case atStart => exact ⟨0, rfl, by omega, hide rfl, rfl⟩
      case round =>
        obtain ⟨i, rfl, hi, hall, rfl⟩ := hrel
        by_cases hin : i < n
        · go_wp2_with fail
          have hil : i < s.length := by rw [← hn.out]; exact hin
          obtain ⟨x, hx⟩ : ∃ x, x = s[i] := ⟨_, rfl⟩
          have hdr : (s.drop i).all okb = (okb x && (s.drop (i + 1)).all okb) := by rw [List.drop_eq_getElem_cons hil, List.all_cons, hx]
          generalize hgx : (⟨s.toArray⟩ : ByteArray)[i]'(by rw [hsz]; exact hin) = y
          have hyx : y = x := by rw [hx, ← hgx]; rfl
          subst hyx
          replace hdr := hide hdr
          replace hgx := hide hgx
          replace hx := hide hx
          refine (letter_any y wr).mono ?_
          rintro e w2 ⟨v, rfl, hv, rfl⟩
          cases hok : okb y with
          | true =>
            rw [hok] at hv hdr
            have hv' : decide (v < 0) = false := hv
            have hd2 : Hid (s.all okb = (s.drop (i + 1)).all okb) := by rw [hall.out, hdr.out]; exact Bool.true_and _
            replace hok := hide hok
            clear hv hdr
            go_wp2_with fail
            go_roundw
            case rel => exact ⟨i + 1, by go_num, by omega, hd2, trivial⟩
            case measure => simp [intOf]; omega
          | false =>
            rw [hok] at hv hdr
            have hv' : decide (v < 0) = true := hv
            have hd2 : Hid (s.all okb = false) := by rw [hall.out, hdr.out]; exact Bool.false_and _
            replace hok := hide hok
            clear hv hdr
            go_wp2_with fail
            go_ret
            rw [hd2.out]
            exact ⟨rfl, rfl⟩
        · have hd2 : s.all okb = true := by
            rw [hall.out, List.drop_eq_nil_of_le (by rw [← hn.out]; omega)]
            rfl
          replace hd2 := hide hd2
          go_wp2_with fail
          go_ret
          rw [hd2.out]
          exact ⟨rfl, rfl⟩
end Go.Proofs.YtaoolpnnomhnoaaGreatDoor

/- loggia/disk: may a call be? -/
namespace Go.Proofs.YtaoolpnnomhnoaaGreatDoor
open Go.RowKit Go.Maps

def str (s : List UInt8) : Value := .string ⟨s.toArray⟩
set_option maxRecDepth 100000 in
theorem may1_any (s : List UInt8) (w : World) (hs : s.length ≤ 9223372036854775807) :
    Calls Tryz.prog 88 #[str s] w fun e w' => e = .returned (.bool (!namedM s)) ∧ w' = w := by
  unfold str
  have h := named_any s w hs
  obtain ⟨b, hb⟩ : ∃ b, b = namedM s := ⟨_, rfl⟩
  rw [← hb] at h ⊢
  replace hb := hide hb
  replace h := hide h
  go_enter Tryz.func88, Tryz.ntmps88
  go_wp2_with fail
  refine h.out.mono ?_
  rintro e w1 ⟨rfl, rfl⟩
  go_wp2_with fail
  go_ret
  exact ⟨rfl, rfl⟩
set_option maxRecDepth 100000 in
set_option maxHeartbeats 1000000 in
theorem indexF_any (A : Option Addr) (n c : Nat) (ns : List (List UInt8)) (w : World) (hn : n = ns.length) (hA : Cells w A (ns.map str)) (hn2 : n ≤ 1000) (hs : ∀ s ∈ ns, s.length ≤ 9223372036854775807) :
    Calls Tryz.prog 104 #[.slice A n c, .func (.func 88) #[] #[]] w fun e w' => ∃ v : Int, e = .returned (.int .i64 v) ∧ decide (0 ≤ v) = !(ns.all namedM) ∧ w' = w := by
  replace hn := hide hn
  go_enter Tryz.func104, Tryz.ntmps104
  go_wp2_with fail
  go_loopw [8] (fun s8 wr => ∃ i : Nat, s8 = .int .i64 i ∧ i ≤ n ∧ Hid (ns.all namedM = (ns.drop i).all namedM) ∧ wr = w) (fun s8 _ => n - (intOf s8).toNat)
  case atStart => exact ⟨0, rfl, by omega, hide rfl, rfl⟩
  case round =>
    obtain ⟨i, rfl, hi, hall, rfl⟩ := hrel
    by_cases hin : i < n
    · have hil : i < ns.length := by rw [← hn.out]; exact hin
      obtain ⟨g, o, rfl, hc⟩ := hA.at_ (by rw [List.length_map]; omega)
      have hci := hc i (str ns[i]) (by simp [hil])
      obtain ⟨x, hx⟩ : ∃ x, x = ns[i] := ⟨_, rfl⟩
      have hxs : x.length ≤ 9223372036854775807 := by rw [hx]; exact hs _ (List.getElem_mem hil)
      have hdr : (ns.drop i).all namedM = (namedM x && (ns.drop (i + 1)).all namedM) := by rw [List.drop_eq_getElem_cons hil, List.all_cons, hx]
      rw [← hx] at hci
      clear hc
      replace hdr := hide hdr
      replace hx := hide hx
      go_wp2_with fail
      refine (may1_any x wr hxs).mono ?_
      rintro e w2 ⟨rfl, rfl⟩
      cases hok : namedM x with
      | true =>
        rw [hok] at hdr
        have hd2 : Hid (ns.all namedM = (ns.drop (i + 1)).all namedM) := by rw [hall.out, hdr.out]; exact Bool.true_and _
        replace hok := hide hok
        clear hdr
        go_wp2_with fail
        go_roundw
        case rel => exact ⟨i + 1, by go_num, by omega, hd2, trivial⟩
        case measure => simp [intOf]; omega
      | false =>
        rw [hok] at hdr
        have hd2 : Hid (ns.all namedM = false) := by rw [hall.out, hdr.out]; exact Bool.false_and _
        replace hok := hide hok
        clear hdr
        go_wp2_with fail
        go_ret
        rw [hd2.out]
        exact ⟨_, rfl, decide_eq_true (by omega), rfl⟩
    · have hd2 : ns.all namedM = true := by
        rw [hall.out, List.drop_eq_nil_of_le (by rw [← hn.out]; omega)]
        rfl
      replace hd2 := hide hd2
      go_wp2_with fail
      go_ret
      rw [hd2.out]
      exact ⟨-1, rfl, rfl, rfl⟩
end Go.Proofs.YtaoolpnnomhnoaaGreatDoor

/- loggia/disk: none, may, call. -/
namespace Go.Proofs.YtaoolpnnomhnoaaGreatDoor
open Go.RowKit Go.Maps

set_option maxRecDepth 100000 in
theorem containsF_any (A : Option Addr) (n c : Nat) (ns : List (List UInt8)) (w : World) (hn : n = ns.length) (hA : Cells w A (ns.map str)) (hn2 : n ≤ 1000) (hs : ∀ s ∈ ns, s.length ≤ 9223372036854775807) :
    Calls Tryz.prog 87 #[.slice A n c, .func (.func 88) #[] #[]] w fun e w' => e = .returned (.bool (!(ns.all namedM))) ∧ w' = w := by
  have h := indexF_any A n c ns w hn hA hn2 hs
  obtain ⟨b, hb⟩ : ∃ b, b = ns.all namedM := ⟨_, rfl⟩
  rw [← hb] at h ⊢
  replace h := hide h
  replace hb := hide hb
  clear hn hA
  go_enter Tryz.func87, Tryz.ntmps87
  go_wp2_with fail
  refine h.out.mono ?_
  rintro e w1 ⟨v, rfl, hv, rfl⟩
  replace hv := hide hv
  go_wp2_with fail
  go_ret
  exact ⟨ret_bool hv.out, rfl⟩
/-- The disk's own block. -/
def DRow (w : World) (d m quota armed : Nat) (stopped : Bool) : Prop := Row w d 56 #[.map (some m), .int .i64 quota, .int .i64 armed, .bool stopped]
set_option maxRecDepth 100000 in
theorem map_nil (m : Nat) (w : World) : (binOp .eql 54 (.map (some m)) (.map none)).run Tryz.prog w = .ok (.bool false) w := by kernel_rfl
set_option maxRecDepth 100000 in
theorem none_any (d m quota armed : Nat) (stopped : Bool) (w : World) (h : DRow w d m quota armed stopped) :
    Calls Tryz.prog 35 #[.pointer (some ⟨d, 0, none⟩)] w fun e w' => e = .returned (.bool false) ∧ w' = w := by
  have c0 : w.cell? ⟨d, 0, none⟩ = some (.map (some m)) := Row.cell h 0 rfl
  have hq := map_nil m w
  go_enter Tryz.func35, Tryz.ntmps35
  go_wp2_with fail
  go_ret
  exact ⟨rfl, rfl⟩
def mayM (ns : List (List UInt8)) (stopped : Bool) : Nat := if ns.all namedM then (if stopped then 63 else 0) else 60
set_option maxRecDepth 100000 in
set_option maxHeartbeats 1000000 in
theorem may_any (d m quota armed : Nat) (stopped : Bool) (A : Option Addr) (n c : Nat) (ns : List (List UInt8)) (w : World) (h : DRow w d m quota armed stopped) (hn : n = ns.length) (hA : Cells w A (ns.map str)) (hn2 : n ≤ 1000)
    (hs : ∀ s ∈ ns, s.length ≤ 9223372036854775807) :
    Calls Tryz.prog 52 #[.pointer (some ⟨d, 0, none⟩), .slice A n c] w fun e w' => e = .returned (.int .i64 (mayM ns stopped)) ∧ w' = w := by
  have hc := containsF_any A n c ns w hn hA hn2 hs
  have h0 := none_any d m quota armed stopped w h
  have c3 : w.cell? ⟨d, 3, none⟩ = some (.bool stopped) := Row.cell h 3 rfl
  obtain ⟨b, hb⟩ : ∃ b, b = ns.all namedM := ⟨_, rfl⟩
  have hm : mayM ns stopped = if b then (if stopped then 63 else 0) else 60 := by unfold mayM; rw [← hb]
  rw [hm]
  rw [← hb] at hc
  replace hc := hide hc
  replace h0 := hide h0
  replace hb := hide hb
  clear hn hA hm h
  cases b <;> cases stopped
  all_goals
    go_enter Tryz.func52, Tryz.ntmps52
    go_wp2_with fail
    refine h0.out.mono ?_
    rintro e w1 ⟨rfl, rfl⟩
    go_wp2_with fail
    refine hc.out.mono ?_
    rintro e w1 ⟨rfl, rfl⟩
    go_wp2_with fail
    go_ret
    exact ⟨rfl, rfl⟩
end Go.Proofs.YtaoolpnnomhnoaaGreatDoor

/- loggia/disk: call. -/
namespace Go.Proofs.YtaoolpnnomhnoaaGreatDoor
open Go.RowKit Go.Maps

/-- A writing call is counted: how many are left, does it stop? -/
def callM (armed : Nat) : Nat × Bool := (armed - 1, armed == 1)
set_option maxRecDepth 100000 in
set_option maxHeartbeats 1000000 in
theorem call_any (d m quota armed : Nat) (w : World) (hD : DRow w d m quota armed false) (ha : armed ≤ 9223372036854775807) :
    Calls Tryz.prog 60 #[.pointer (some ⟨d, 0, none⟩)] w fun e w' => e = .returned (.int .i64 (if armed = 1 then 63 else 0)) ∧ DRow w' d m quota (armed - 1) (decide (armed = 1)) ∧ Chg (fun k => k = d) w w' ∧ w'.heap.size = w.heap.size := by
  have c2 : w.cell? ⟨d, 2, none⟩ = some (.int .i64 armed) := Row.cell hD 2 rfl
  have f2 := Row.free hD 2
  have c3 : w.cell? ⟨d, 3, none⟩ = some (.bool false) := Row.cell hD 3 rfl
  have f3 := Row.free hD 3
  by_cases h0 : armed = 0
  · subst h0
    go_enter Tryz.func60, Tryz.ntmps60
    go_wp2_with fail
    go_ret
    exact ⟨rfl, hD, Chg.refl _ _, rfl⟩
  · by_cases h1 : armed = 1
    · subst h1
      have hp := (Row.put hD 2 (.int .i64 0)).put 3 (.bool true)
      go_enter Tryz.func60, Tryz.ntmps60
      go_wp2_with fail
      go_ret
      exact ⟨rfl, hp, (Chg.of_set (S := fun k => k = d) w (a := ⟨d, 2, none⟩) _ rfl).trans (Chg.of_set (S := fun k => k = d) _ (a := ⟨d, 3, none⟩) _ rfl) (fun _ _ h => h), by simp [World.setCell]⟩
    · obtain ⟨a, rfl⟩ : ∃ a, armed = a + 2 := ⟨armed - 2, by omega⟩
      have hp := Row.put hD 2 (.int .i64 ((a : Int) + 2 - 1))
      go_enter Tryz.func60, Tryz.ntmps60
      go_wp2_with fail
      go_ret
      refine ⟨rfl, ?_, Chg.of_set (S := fun k => k = d) w (a := ⟨d, 2, none⟩) _ rfl, by simp [World.setCell]⟩
      have e3 : ((a + 1 : Nat) : Int) = (a : Int) + 2 - 1 := by omega
      unfold DRow
      rw [e3]
      exact hp
end Go.Proofs.YtaoolpnnomhnoaaGreatDoor

/- loggia/disk: how a disk lies in memory. -/
namespace Go.Proofs.YtaoolpnnomhnoaaGreatDoor
open Go.RowKit Go.Maps

theorem keyS : Keyed Tryz.prog 9 := string_keyed Tryz.underlying9
/-- A file: its name, its block, its bytes, how many are durable, where they lie. -/
structure Ent where
  name : List UInt8
  f : Nat
  b : List UInt8
  sure : Nat
  A : Option Addr
  c : Nat
def Ent.kv (e : Ent) : Value × Value := (str e.name, .pointer (some ⟨e.f, 0, none⟩))
/-- What the document says of it. -/
def Ent.pl (e : Ent) : List UInt8 × List UInt8 × Nat := (e.name, e.b, e.sure)
structure EOk (w : World) (base : Nat) (e : Ent) : Prop where
  row : Row w e.f 79 #[.slice e.A e.b.length e.c, .int .i64 e.sure]
  buf : Buf w base 5 e.A e.b.length e.c (e.b.map B8)
  low : base ≤ e.f
  sure : e.sure ≤ e.b.length
/-- The map m has just the files E. -/
structure FS (w : World) (base m : Nat) (E : List Ent) : Prop where
  map : ∃ L, MapL Tryz.prog 9 w m L ∧ (∀ p, p ∈ L ↔ ∃ e ∈ E, p = e.kv) ∧ L.length = E.length
  ok : ∀ e ∈ E, EOk w base e
  low : base ≤ m
  names : (E.map Ent.name).Nodup
  short : ∀ e ∈ E, e.name.length ≤ 9223372036854775807
  fd : E.Pairwise (fun a b => a.f ≠ b.f)
  ad : E.Pairwise (fun a b => ∀ x y, a.A = some x → b.A = some y → x.block ≠ y.block)
end Go.Proofs.YtaoolpnnomhnoaaGreatDoor

/- loggia/disk: Used. -/
namespace Go.Proofs.YtaoolpnnomhnoaaGreatDoor
open Go.RowKit Go.Maps

theorem str_inj {a b : List UInt8} (h : str a = str b) : a = b := by
  unfold str at h
  injection h with h
  injection h with h
  simpa using h
theorem nodup_of_map {α β : Type} (f : α → β) : ∀ {l : List α}, (l.map f).Nodup → l.Nodup
  | [], _ => List.nodup_nil
  | a :: l, h => by
    rw [List.map_cons, List.nodup_cons] at h
    rw [List.nodup_cons]
    exact ⟨fun ha => h.1 (List.mem_map.2 ⟨a, ha, rfl⟩), nodup_of_map f h.2⟩
theorem inj_of_map {α β : Type} (f : α → β) : ∀ {l : List α}, (l.map f).Nodup → ∀ {a b : α}, a ∈ l → b ∈ l → f a = f b → a = b
  | [], _, _, _, h, _, _ => by cases h
  | x :: l, h, a, b, ha, hb, he => by
    rw [List.map_cons, List.nodup_cons] at h
    rcases List.mem_cons.1 ha with h1 | h1 <;> rcases List.mem_cons.1 hb with h2 | h2
    · rw [h1, h2]
    · exact (h.1 (List.mem_map.2 ⟨b, h2, by rw [← he, h1]⟩)).elim
    · exact (h.1 (List.mem_map.2 ⟨a, h1, by rw [he, h2]⟩)).elim
    · exact inj_of_map f h.2 h1 h2 he
def usedM (E : List Ent) : Nat := (E.map fun e => e.b.length).sum
/-- The entries that a range has brought, when it has brought all. -/
theorem all_came {E D : List Ent} (hE : (E.map Ent.name).Nodup) (hD : (D.map fun e => str e.name).Nodup) (hs : ∀ e ∈ D, e ∈ E) (ha : ∀ e ∈ E, str e.name ∈ D.map fun e => str e.name) : D.Perm E := by
  have hEn : E.Nodup := nodup_of_map _ hE
  have hDn : D.Nodup := nodup_of_map _ hD
  refine (List.perm_ext_iff_of_nodup hDn hEn).2 fun e => ⟨hs e, fun he => ?_⟩
  obtain ⟨e', he', hk⟩ := List.mem_map.1 (ha e he)
  have hn : e'.name = e.name := str_inj hk
  have : e' = e := by
    have h1 := hs e' he'
    exact inj_of_map Ent.name hE h1 he hn
  rw [← this]
  exact he'
theorem used_le : ∀ (D E : List Ent), D.Nodup → (∀ e ∈ D, e ∈ E) → usedM D ≤ usedM E
  | [], E, _, _ => Nat.zero_le _
  | a :: D, E, hn, hs => by
    rw [List.nodup_cons] at hn
    obtain ⟨E1, E2, rfl⟩ := List.append_of_mem (hs a (by simp))
    have := used_le D (E1 ++ E2) hn.2 fun e he => by
      have h1 := hs e (List.mem_cons_of_mem _ he)
      rcases List.mem_append.1 h1 with h2 | h2
      · exact List.mem_append_left _ h2
      · rcases List.mem_cons.1 h2 with h3 | h3
        · exact absurd (h3 ▸ he) hn.1
        · exact List.mem_append_right _ h3
    unfold usedM at *
    simp only [List.map_append, List.map_cons, List.sum_append, List.sum_cons] at *
    omega
end Go.Proofs.YtaoolpnnomhnoaaGreatDoor

/- loggia/disk: Used, the walk. -/
namespace Go.Proofs.YtaoolpnnomhnoaaGreatDoor
open Go.RowKit Go.Maps

set_option maxRecDepth 100000 in
set_option maxHeartbeats 1000000 in
theorem used_any (base d m quota armed : Nat) (stopped : Bool) (E : List Ent) (w : World) (h : DRow w d m quota armed stopped) (hF : FS w base m E) (hu : usedM E ≤ 1099511627776) :
    Calls Tryz.prog 59 #[.pointer (some ⟨d, 0, none⟩)] w fun e w' => e = .returned (.int .i64 (usedM E)) ∧ Ext w w' := by
  have h0 := none_any d m quota armed stopped w h
  replace h0 := hide h0
  have c0 : w.cell? ⟨d, 0, none⟩ = some (.map (some m)) := Row.cell h 0 rfl
  obtain ⟨L, hL, hmem, hlen⟩ := hF.map
  obtain ⟨o, hrange, hRL⟩ := hL.range Tryz.underlying54
  go_enter Tryz.func59, Tryz.ntmps59
  go_wp2_with fail
  refine h0.out.mono ?_
  rintro e w1 ⟨rfl, rfl⟩
  go_wp2_with fail
  have hE0 : Ext w1 (w1.alloc o) := (Ext.refl w1).alloc o
  go_loopw [3] (fun s3 wr => ∃ (D : List Ent) (n : Nat), s3 = .int .i64 n ∧ n ≤ 1099511627776 ∧ Hid (n = usedM D) ∧ Hid (RangeL Tryz.prog 9 wr m w1.heap.size L (D.map fun e => str e.name)) ∧ Hid (∀ e ∈ D, e ∈ E) ∧ Ext w1 wr) (fun _ wr => wr.rangeLeft m w1.heap.size)
  case atStart => exact ⟨[], 0, rfl, by omega, rfl, hRL, hide (by simp), hE0⟩
  case round =>
    obtain ⟨D, n, rfl, hn, hnD, hR, hD, hE⟩ := hrel
    rcases hR.out.next 0 with ⟨hrun, hall⟩ | ⟨x, v, w2, hxv, hxd, hrun, hR2, hg2, hs2, hent, hleft⟩
    · have hperm : D.Perm E := all_came hF.names hR.out.dn hD.out (fun e he => by
        have := hall e.kv ((hmem _).2 ⟨e, he, rfl⟩)
        exact this)
      have hfin : n = usedM E := by
        rw [hnD.out]
        unfold usedM
        exact (hperm.map _).sum_nat
      replace hfin := hide hfin
      go_wp2_with fail
      go_ret
      rw [hfin.out]
      exact ⟨rfl, hE⟩
    · obtain ⟨e0, he0, hkv⟩ := (hmem _).1 hxv
      unfold Ent.kv at hkv
      injection hkv with hx1 hv1
      subst hx1
      subst hv1
      have hok := (hF.ok e0 he0).row
      have hE2 : Ext w1 w2 := hE.grown hg2 (fun k hk => by cases hk; exact Nat.le_refl _)
      have cf : w2.cell? ⟨e0.f, 0, none⟩ = some (.slice e0.A e0.b.length e0.c) := hE2.cell (hok.cell 0 rfl)
      obtain ⟨bl, hbl⟩ : ∃ x, x = e0.b.length := ⟨_, rfl⟩
      rw [← hbl] at cf
      have hsum : usedM (D ++ [e0]) = n + bl := by
        unfold usedM
        rw [List.map_append, List.sum_append, hbl]
        simp
        exact hnD.out.symm
      have hle : n + bl ≤ 1099511627776 := by
        rw [← hsum]
        refine Nat.le_trans (used_le _ E ?_ ?_) hu
        · refine nodup_of_map (fun e => str e.name) ?_
          rw [List.map_append]
          exact hR2.dn
        · intro e he
          rcases List.mem_append.1 he with he | he
          · exact hD.out e he
          · simp at he; subst he; exact he0
      replace hsum := hide hsum.symm
      replace hbl := hide hbl
      go_wp2_with fail
      go_roundw
      case rel => exact ⟨D ++ [e0], n + bl, by go_num, by omega, hsum, hide (by rw [List.map_append]; exact hR2), hide (fun e he => by
        rcases List.mem_append.1 he with he | he
        · exact hD.out e he
        · simp at he; subst he; exact he0), hE2⟩
      case measure => exact hleft
end Go.Proofs.YtaoolpnnomhnoaaGreatDoor

/- Sorting names. -/
namespace Go.Proofs.YtaoolpnnomhnoaaGreatDoor
open Go.RowKit Go.Maps Go.Sort

theorem sort_any (base : Nat) (A : Option Addr) (n c : Nat) (ns : List (List UInt8)) (w : World) (hn : n = ns.length) (hb : Buf w base 9 A n c (ns.map str)) (hsz : n ≤ 1048576) :
    Calls Tryz.prog 69 #[.slice A n c] w fun e w' => e = .returned (.tuple #[]) ∧ Buf w' base 9 A n c ((ns.mergeSort fun x y => decide (x ≤ y)).map str) ∧ Chg (fun k => ∃ x, A = some x ∧ x.block = k) w w' := by
  subst hn
  obtain ⟨h1, h2, h3⟩ := hb
  rcases h3 with ⟨rfl, rfl⟩ | ⟨g, cur, rfl, hbg, hg, hs, ht⟩
  · have h0 : ns = [] := List.eq_nil_of_length_eq_zero (by omega)
    subst h0
    refine (Tryz.slices_Sort_string_none none 0 w).mono ?_
    rintro e w' ⟨rfl, rfl⟩
    exact ⟨rfl, by simpa using Buf.nil _ _ _, Chg.refl _ _⟩
  · have hH : Holds encStr w g 0 ns.toArray := by
      intro j hj
      simp at hj
      refine ⟨?_, hg.free _⟩
      rw [Nat.zero_add, cell_of_row w g j cur 9 (0, 0) hg]
      have : (cur.toList.take ns.length)[j]? = (ns.map str)[j]? := by rw [ht]
      rw [List.getElem?_take, if_pos hj] at this
      simp [hj] at this
      simpa [hj, encStr, str] using this
    refine (Tryz.slices_Sort_string g 0 c ns w hH hg.lt (by omega)).mono ?_
    rintro e w' ⟨rfl, k, os, rfl⟩
    obtain ⟨so, hso⟩ : ∃ so, so = (ns.mergeSort fun x y => decide (x ≤ y)) := ⟨_, rfl⟩
    have hsl : so.length = ns.length := by rw [hso]; exact List.length_mergeSort _
    rw [← hso]
    have hrow : Row (grow (putRow encStr (Sort.ahead w k) g 0 so.toArray) os) g 9 (putCells encStr 0 so.toArray cur) := by
      show ((w.heap.modify g (onCells (putCells encStr 0 so.toArray))) ++ os)[g]? = _
      rw [Array.getElem?_append_left (by simpa using hg.lt), Array.getElem?_modify, if_pos rfl]
      have : w.heap[g]? = some (.cells cur 9 (0, 0)) := hg
      rw [this]
      rfl
    refine ⟨rfl, ⟨by simp [hsl], h2, .inr ⟨g, _, rfl, hbg, hrow, ?_, ?_⟩⟩, ⟨rfl, rfl, rfl, ?_, ?_⟩⟩
    · simp [putCells]
      exact hs
    · apply List.ext_getElem?
      intro i
      rw [List.getElem?_take]
      split
      · rename_i hi
        have hic : i < cur.size := by
          rw [List.length_map] at h1
          omega
        have his : i < so.length := by omega
        rw [Array.getElem?_toList]
        unfold putCells
        rw [Array.getElem?_mapIdx, Array.getElem?_eq_getElem hic]
        simp [his, encStr, str]
      · rename_i hi
        rw [List.getElem?_eq_none (by rw [List.length_map]; omega)]
    · show w.heap.size ≤ ((w.heap.modify g (onCells (putCells encStr 0 so.toArray))) ++ os).size
      simp
    · intro j hj hne
      show ((w.heap.modify g (onCells (putCells encStr 0 so.toArray))) ++ os)[j]? = _
      rw [Array.getElem?_append_left (by simpa using hj), Array.getElem?_modify, if_neg (fun e => hne ⟨_, rfl, e⟩)]
end Go.Proofs.YtaoolpnnomhnoaaGreatDoor

/- loggia/disk: names. -/
namespace Go.Proofs.YtaoolpnnomhnoaaGreatDoor
open Go.RowKit Go.Maps

def sortN (ns : List (List UInt8)) : List (List UInt8) := ns.mergeSort fun x y => decide (x ≤ y)
theorem sortN_perm (ns : List (List UInt8)) : (sortN ns).Perm ns := List.mergeSort_perm _ _
theorem bytes_le_trans {a b c : List UInt8} (h : decide (a ≤ b) = true) (k : decide (b ≤ c) = true) : decide (a ≤ c) = true := decide_eq_true (List.le_trans (of_decide_eq_true h) (of_decide_eq_true k))
theorem bytes_le_total (a b : List UInt8) : (decide (a ≤ b) || decide (b ≤ a)) = true := by
  rcases List.le_total a b with h | h
  · simp [h]
  · simp [h]
theorem sortN_pw (ns : List (List UInt8)) : (sortN ns).Pairwise (fun a b => a ≤ b) := by
  have := List.pairwise_mergeSort (le := fun (x y : List UInt8) => decide (x ≤ y)) (fun a b c => bytes_le_trans) (fun a b => bytes_le_total a b) ns
  exact this.imp fun h => of_decide_eq_true h
/-- Rows of alike members that both rise are alike. -/
theorem sorted_eq : ∀ {a b : List (List UInt8)}, a.Perm b → a.Pairwise (fun x y => x ≤ y) → b.Pairwise (fun x y => x ≤ y) → a = b
  | a, b, hp, ha, hb => List.Perm.eq_of_pairwise (fun x y _ _ h k => List.le_antisymm h k) ha hb hp
theorem sortN_eq {ns : List (List UInt8)} (h : ns.Pairwise (fun x y => x ≤ y)) : sortN ns = ns := sorted_eq (sortN_perm ns) (sortN_pw ns) h
theorem sortN_of {ns ks : List (List UInt8)} (h : ns.Perm ks) : sortN ns = sortN ks := sorted_eq ((sortN_perm ns).trans (h.trans (sortN_perm ks).symm)) (sortN_pw ns) (sortN_pw ks)
theorem sub_len {α : Type} : ∀ (D E : List α), D.Nodup → (∀ e ∈ D, e ∈ E) → D.length ≤ E.length
  | [], E, _, _ => Nat.zero_le _
  | a :: D, E, hn, hs => by
    rw [List.nodup_cons] at hn
    obtain ⟨E1, E2, rfl⟩ := List.append_of_mem (hs a (by simp))
    have := sub_len D (E1 ++ E2) hn.2 fun e he => by
      have h1 := hs e (List.mem_cons_of_mem _ he)
      rcases List.mem_append.1 h1 with h2 | h2
      · exact List.mem_append_left _ h2
      · rcases List.mem_cons.1 h2 with h3 | h3
        · exact absurd (h3 ▸ he) hn.1
        · exact List.mem_append_right _ h3
    simp only [List.length_append, List.length_cons] at *
    omega
set_option maxRecDepth 100000 in
set_option maxHeartbeats 1000000 in
theorem names_any (base d m quota armed : Nat) (stopped : Bool) (E : List Ent) (w : World) (h : DRow w d m quota armed stopped) (hF : FS w base m E) (hu : E.length ≤ 1024) :
    Calls Tryz.prog 36 #[.pointer (some ⟨d, 0, none⟩)] w fun e w' => ∃ A n c, e = .returned (.slice A n c) ∧ n = E.length ∧ Buf w' w.heap.size 9 A n c ((sortN (E.map Ent.name)).map str) ∧ Ext w w' := by
  have c0 : w.cell? ⟨d, 0, none⟩ = some (.map (some m)) := Row.cell h 0 rfl
  obtain ⟨L, hL, hmem, hlen⟩ := hF.map
  have hml := hL.lt
  obtain ⟨o, hrange, hRL⟩ := hL.range Tryz.underlying54
  go_enter Tryz.func36, Tryz.ntmps36
  go_wp2_with fail
  have hE0 : Ext w (w.alloc o) := (Ext.refl w).alloc o
  have hsz0 : w.heap.size + 1 ≤ (w.alloc o).heap.size := by simp
  go_loopw [3] (fun s3 wr => ∃ (D : List Ent) (n : Nat) (A : Option Addr) (c : Nat), s3 = .slice A n c ∧ Hid (n = D.length) ∧ Hid (wr.ownsRow (w.heap.size + 1) 9 1 (.slice A n c) n (D.map fun e => str e.name)) ∧ Hid (RangeL Tryz.prog 9 wr m w.heap.size L (D.map fun e => str e.name)) ∧ Hid (∀ e ∈ D, e ∈ E) ∧ w.heap.size + 1 ≤ wr.heap.size ∧ Ext w wr) (fun _ wr => wr.rangeLeft m w.heap.size)
  case atStart => exact ⟨[], 0, none, 0, rfl, hide rfl, hide (World.ownsRow_nil _ _ _ _), hRL, hide (by simp), hsz0, hE0⟩
  case round =>
    obtain ⟨D, n, A, c, rfl, hnD, hO, hR, hD, hsz, hE⟩ := hrel
    have hDn : D.Nodup := nodup_of_map (fun e => str e.name) hR.out.dn
    have hDle : D.length ≤ E.length := by
      exact sub_len D E hDn hD.out
    replace hDle := hide hDle
    rcases hR.out.next 0 with ⟨hrun, hall⟩ | ⟨x, v, w2, hxv, hxd, hrun, hR2, hg2, hs2, hent, hleft⟩
    · have hperm : D.Perm E := all_came hF.names hR.out.dn hD.out (fun e he => by
        have := hall e.kv ((hmem _).2 ⟨e, he, rfl⟩)
        exact this)
      have hbuf : Buf wr (w.heap.size + 1) 9 A n c ((D.map Ent.name).map str) := by
        rw [List.map_map]
        exact Buf.of_own hO.out
      have hn : n = E.length := hnD.out.trans hperm.length_eq
      replace hn := hide hn
      have hn2 : n ≤ 1048576 := by rw [hn.out]; omega
      have hss : sortN (D.map Ent.name) = sortN (E.map Ent.name) := sortN_of (hperm.map _)
      replace hss := hide hss
      have hs := sort_any (w.heap.size + 1) A n c (D.map Ent.name) wr (by rw [List.length_map]; exact hnD.out) hbuf hn2
      go_wp2_with fail
      refine hs.mono ?_
      rintro e w3 ⟨rfl, hb3, hc3⟩
      have hE3 : Ext w w3 := hE.chg hc3 (by
        rintro i hi ⟨a, ha, hk⟩
        have := hbuf.base_le a ha
        omega)
      go_wp2_with fail
      go_ret
      refine ⟨A, n, c, rfl, hn.out, ?_, hE3⟩
      rw [← hss.out]
      obtain ⟨b1, b2, b3⟩ := hb3
      refine ⟨b1, b2, ?_⟩
      rcases b3 with b3 | ⟨g, cur, r1, r2, r3⟩
      · exact .inl b3
      · exact .inr ⟨g, cur, r1, by omega, r3⟩
    · obtain ⟨e0, he0, hkv⟩ := (hmem _).1 hxv
      unfold Ent.kv at hkv
      injection hkv with hx1 hv1
      subst hx1
      subst hv1
      have hE2 : Ext w w2 := hE.grown hg2 (fun k hk => by cases hk; exact Nat.le_refl _)
      have hsz2 : w.heap.size + 1 ≤ w2.heap.size := by rw [hs2]; exact hsz
      have hb0 := (Buf.of_own hO.out).base_le
      have hO2 : w2.ownsRow (w.heap.size + 1) 9 1 (.slice A n c) n (D.map fun e => str e.name) := by
        refine (Chg.of_grown (S := fun k => k = w.heap.size) hg2 (fun k _ hk => by cases hk; rfl)).owns hO.out ?_
        rintro g hg hgk
        obtain ⟨cur, _, h9⟩ := owns_row hO.out hg
        omega
      have hnl : n + 1 ≤ 1025 := by rw [hnD.out]; have := hDle.out; omega
      have hgb : (Value.slice A n c).ownBlock ≠ some m ∧ (Value.slice A n c).ownBlock ≠ some w.heap.size := by
        constructor
        · intro hg
          obtain ⟨cur, _, h9⟩ := owns_row hO.out hg
          omega
        · intro hg
          obtain ⟨cur, _, h9⟩ := owns_row hO.out hg
          omega
      have hgo : ∀ k, (Value.slice A n c).ownBlock = some k → w.heap.size ≤ k := by
        intro k hg
        obtain ⟨cur, _, h9⟩ := owns_row hO.out hg
        omega
      replace hgb := hide hgb
      replace hgo := hide hgo
      replace hs2 := hide hs2
      replace hb0 := hide hb0
      clear hml
      obtain ⟨s0, hs0⟩ : ∃ s0, str e0.name = .string s0 := ⟨_, rfl⟩
      rw [hs0] at hrun hent hR2
      replace hs0 := hide hs0
      go_wp2_with (at_builtin; refine wpList_appN (us := [.string s0]) elemS hO2 (.tmp 14) (.tmp 16) rfl rfl rfl rfl (one_of rfl) (by simp; omega) (by omega) (fun A3 c3 w3 ho3 hg3 hl3 => ?_))
      have hE3 : Ext w w3 := hE2.grown hg3 hgo.out
      have hR3 : RangeL Tryz.prog 9 w3 m w.heap.size L ((D ++ [e0]).map fun e => str e.name) := by
        rw [List.map_append, List.map_cons, List.map_nil, hs0.out]
        exact hR2.grown hg3 hgb.out.1 hgb.out.2
      have ho3' : w3.ownsRow (w.heap.size + 1) 9 1 (.slice A3 (n + 1) c3) (n + 1) ((D ++ [e0]).map fun e => str e.name) := by
        rw [List.map_append, List.map_cons, List.map_nil, hs0.out]
        exact ho3
      have hsz3 : w.heap.size + 1 ≤ w3.heap.size := Nat.le_trans hsz2 hg3.size
      have hl3' : w3.rangeLeft m w.heap.size < wr.rangeLeft m w.heap.size := by
        have h1 : w3.heap[m]? = w2.heap[m]? := hg3.block m hR2.map.lt (fun e => hgb.out.1 e.symm)
        have h2 : w3.heap[w.heap.size]? = w2.heap[w.heap.size]? := hg3.block _ hR2.lt (fun e => hgb.out.2 e.symm)
        have h3 : w3.rangeLeft m w.heap.size = w2.rangeLeft m w.heap.size := by unfold World.rangeLeft; rw [h1, h2]
        rw [h3]
        exact hleft
      go_roundw
      case rel => exact ⟨D ++ [e0], n + 1, A3, c3, rfl, hide (by rw [List.length_append]; simp; exact hnD.out), ho3', hR3, hide (fun e he => by
        rcases List.mem_append.1 he with he | he
        · exact hD.out e he
        · simp at he; subst he; exact he0), hsz3, hE3⟩
      case measure => exact hl3'
end Go.Proofs.YtaoolpnnomhnoaaGreatDoor

/- A disk, plainly: what the document says of each call. -/
namespace Go.Proofs.YtaoolpnnomhnoaaGreatDoor
open Go.RowKit Go.Maps

/-- Without the one of a name; with one put at its place. -/
def withoutG {α : Type} (nm : α → List UInt8) (s : List UInt8) (l : List α) : List α := l.filter fun x => !decide (nm x = s)
def insG {α : Type} (nm : α → List UInt8) (f : α) : List α → List α
  | [] => [f]
  | x :: xs => if decide (nm f < nm x) then f :: x :: xs else x :: insG nm f xs
def withG {α : Type} (nm : α → List UInt8) (f : α) (l : List α) : List α := insG nm f (withoutG nm (nm f) l)
section
variable {α β : Type} {nm : α → List UInt8}
theorem mem_without {s : List UInt8} {l : List α} {x : α} : x ∈ withoutG nm s l ↔ x ∈ l ∧ nm x ≠ s := by
  unfold withoutG
  rw [List.mem_filter]
  simp
theorem mem_ins {f x : α} : ∀ {l : List α}, x ∈ insG nm f l ↔ x = f ∨ x ∈ l
  | [] => by simp [insG]
  | y :: ys => by
    unfold insG
    split
    · simp
    · rw [List.mem_cons, mem_ins, List.mem_cons]
      constructor
      · rintro (h | h | h)
        · exact .inr (.inl h)
        · exact .inl h
        · exact .inr (.inr h)
      · rintro (h | h | h)
        · exact .inr (.inl h)
        · exact .inl h
        · exact .inr (.inr h)
theorem mem_with {f x : α} {l : List α} : x ∈ withG nm f l ↔ x = f ∨ (x ∈ l ∧ nm x ≠ nm f) := by
  unfold withG
  rw [mem_ins, mem_without]
def Up (nm : α → List UInt8) (l : List α) : Prop := l.Pairwise fun a b => nm a < nm b
theorem Up.without {l : List α} (h : Up nm l) (s : List UInt8) : Up nm (withoutG nm s l) := List.Pairwise.filter _ h
theorem lt_of_not {a b : List UInt8} (h : ¬ a < b) (hne : a ≠ b) : b < a :=
  Decidable.byContradiction fun h2 => hne (List.le_antisymm (List.not_lt.1 h2) (List.not_lt.1 h))
theorem Up.ins {f : α} : ∀ {l : List α}, Up nm l → (∀ x ∈ l, nm x ≠ nm f) → Up nm (insG nm f l)
  | [], _, _ => by unfold insG Up; simp
  | y :: ys, h, hne => by
    unfold Up at h
    rw [List.pairwise_cons] at h
    unfold insG
    split
    · rename_i hlt
      have hlt := of_decide_eq_true hlt
      unfold Up
      rw [List.pairwise_cons, List.pairwise_cons]
      refine ⟨fun z hz => ?_, h⟩
      rcases List.mem_cons.1 hz with rfl | hz
      · exact hlt
      · exact List.lt_trans hlt (h.1 z hz)
    · rename_i hlt
      have hlt : ¬ nm f < nm y := fun hh => hlt (decide_eq_true hh)
      unfold Up
      rw [List.pairwise_cons]
      refine ⟨fun z hz => ?_, Up.ins h.2 fun x hx => hne x (List.mem_cons_of_mem _ hx)⟩
      rcases mem_ins.1 hz with rfl | hz
      · exact lt_of_not hlt (fun e => hne y (List.mem_cons_self ..) e.symm)
      · exact h.1 z hz
theorem Up.with {f : α} {l : List α} (h : Up nm l) : Up nm (withG nm f l) := (h.without _).ins fun x hx => (mem_without.1 hx).2
theorem Up.nodup {l : List α} (h : Up nm l) : (l.map nm).Nodup := by
  unfold Up at h
  rw [List.Nodup, List.pairwise_map]
  refine List.Pairwise.imp ?_ h
  intro a b h e
  rw [e] at h
  exact List.lt_irrefl _ h
theorem Up.le {l : List α} (h : Up nm l) : (l.map nm).Pairwise fun x y => x ≤ y := by
  rw [List.pairwise_map]
  exact List.Pairwise.imp (fun h => List.le_of_lt h) h
theorem Up.uniq {l : List α} (h : Up nm l) {x y : α} (hx : x ∈ l) (hy : y ∈ l) (he : nm x = nm y) : x = y := inj_of_map nm h.nodup hx hy he
/-- Rising lists with the same members are one. -/
theorem Up.ext {a b : List α} (ha : Up nm a) (hb : Up nm b) (h : ∀ x, x ∈ a ↔ x ∈ b) : a = b := by
  have hp : a.Perm b := (List.perm_ext_iff_of_nodup (nodup_of_map nm ha.nodup) (nodup_of_map nm hb.nodup)).2 h
  exact List.Perm.eq_of_pairwise (fun x y hx hy h k => (List.lt_irrefl _ (List.lt_trans h k)).elim) ha hb hp
theorem map_without {nm' : β → List UInt8} {g : α → β} (hg : ∀ x, nm' (g x) = nm x) (s : List UInt8) (l : List α) : (withoutG nm s l).map g = withoutG nm' s (l.map g) := by
  unfold withoutG
  rw [List.filter_map]
  congr 1
  apply List.filter_congr
  intro x _
  simp [hg]
theorem map_ins {nm' : β → List UInt8} {g : α → β} (hg : ∀ x, nm' (g x) = nm x) (f : α) : ∀ l : List α, (insG nm f l).map g = insG nm' (g f) (l.map g)
  | [] => rfl
  | y :: ys => by
    unfold insG
    rw [List.map_cons]
    simp only [hg]
    split
    · rfl
    · rw [List.map_cons, map_ins hg f ys]
theorem map_with {nm' : β → List UInt8} {g : α → β} (hg : ∀ x, nm' (g x) = nm x) (f : α) (l : List α) : (withG nm f l).map g = withG nm' (g f) (l.map g) := by
  unfold withG
  rw [map_ins hg, map_without hg, hg]
theorem len_ins {f : α} : ∀ {l : List α}, (insG nm f l).length = l.length + 1
  | [] => rfl
  | y :: ys => by
    unfold insG
    split
    · rfl
    · rw [List.length_cons, len_ins, List.length_cons]
theorem len_without_le (s : List UInt8) (l : List α) : (withoutG nm s l).length ≤ l.length := List.length_filter_le _ _
theorem len_without_lt {s : List UInt8} {l : List α} {x : α} (hx : x ∈ l) (hs : nm x = s) : (withoutG nm s l).length < l.length :=
  List.length_filter_lt_length_iff_exists.2 ⟨x, hx, by simp [hs]⟩
theorem without_no {s : List UInt8} {l : List α} (h : ∀ x ∈ l, nm x ≠ s) : withoutG nm s l = l := by
  unfold withoutG
  rw [List.filter_eq_self]
  intro x hx
  simp [h x hx]
theorem len_with_in {f x : α} {l : List α} (hx : x ∈ l) (hs : nm x = nm f) : (withG nm f l).length ≤ l.length := by
  unfold withG
  rw [len_ins]
  exact len_without_lt hx hs
theorem len_with_le (f : α) (l : List α) : (withG nm f l).length ≤ l.length + 1 := by
  unfold withG
  rw [len_ins]
  exact Nat.add_le_add_right (len_without_le _ _) 1
end

/-- A file, plainly: its name, its bytes, how many are durable. -/
abbrev PF := List UInt8 × List UInt8 × Nat
structure PD where
  L : List PF
  quota : Nat
  armed : Nat
  stopped : Bool
def fname (f : PF) : List UInt8 := f.1
def PD.find (P : PD) (s : List UInt8) : Option PF := P.L.find? fun f => decide (fname f = s)
def usedP (L : List PF) : Nat := (L.map fun f => f.2.1.length).sum
/-- What is left of a disk whose writing call stops it, or does not. -/
def PD.stops (P : PD) : PD := { P with armed := 0, stopped := true }
def PD.goes (P : PD) (L : List PF) : PD := { P with armed := P.armed - 1, L := L }
def fullM (P : PD) (n : Nat) : Bool := decide (0 < P.quota) && decide (0 < n) && decide ((P.quota : Int) - usedP P.L < n)
def putM (P : PD) (f : PF) (b : List UInt8) : PD × Nat :=
  if 67108864 < f.2.1.length + b.length then (P, 2) else if fullM P b.length then (P, 62) else if P.armed = 1 then (P.stops, 63) else (P.goes (withG fname (f.1, f.2.1 ++ b, f.2.2) P.L), 0)
def appendM (P : PD) (s b : List UInt8) : PD × Nat :=
  if namedM s then if P.stopped then (P, 63) else match P.find s with
    | some f => putM P f b
    | none => if 1024 ≤ P.L.length then (P, 3) else putM P (s, [], 0) b
  else (P, 60)
def writesM (P : PD) (ns : List (List UInt8)) (s : List UInt8) (k : PF → List PF) : PD × Nat :=
  if ns.all namedM then if P.stopped then (P, 63) else match P.find s with
    | some f => if P.armed = 1 then (P.stops, 63) else (P.goes (k f), 0)
    | none => (P, 61)
  else (P, 60)
def syncM (P : PD) (s : List UInt8) : PD × Nat := writesM P [s] s fun f => withG fname (f.1, f.2.1, f.2.1.length) P.L
def renameM (P : PD) (s t : List UInt8) : PD × Nat := writesM P [t, s] s fun f => withG fname (t, f.2.1, f.2.2) (withoutG fname s P.L)
def removeM (P : PD) (s : List UInt8) : PD × Nat := writesM P [s] s fun _ => withoutG fname s P.L
def readM (P : PD) (s : List UInt8) (fr n : Int) : List UInt8 × Nat :=
  if namedM s then if P.stopped then ([], 63) else match P.find s with
    | some f => if fr < 0 ∨ f.2.1.length < fr ∨ n < 0 then ([], 5) else ((f.2.1.drop fr.toNat).take n.toNat, 0)
    | none => ([], 61)
  else ([], 60)
def sizeM (P : PD) (s : List UInt8) : Nat × Bool := if P.stopped then (0, false) else match P.find s with
  | some f => (f.2.1.length, true)
  | none => (0, false)
def durM (P : PD) (s : List UInt8) : Nat := match P.find s with
  | some f => f.2.2
  | none => 0
def listM (P : PD) : List (List UInt8) := if P.stopped then [] else P.L.map fname
def leftM (f : PF) (k : Option Int) : Nat := match k with
  | some k => f.2.2 + (k % ((f.2.1.length : Int) - f.2.2 + 1)).toNat
  | none => f.2.2
def cutM (f : PF) (n : Nat) : PF := (f.1, f.2.1.take n, n)
def keptM (L : List PF) (keep : List Int) : List PF := L.mapIdx fun j f => cutM f (leftM f keep[j]?)
def restartM (P : PD) (keep : List Int) : PD := ⟨keptM P.L keep, P.quota, 0, false⟩
theorem find_some {P : PD} {s : List UInt8} {f : PF} (h : P.find s = some f) : f ∈ P.L ∧ f.1 = s := by
  unfold PD.find at h
  have h2 := List.find?_some h
  exact ⟨List.mem_of_find?_eq_some h, of_decide_eq_true h2⟩
theorem find_none {P : PD} {s : List UInt8} (h : P.find s = none) : ∀ f ∈ P.L, f.1 ≠ s := by
  unfold PD.find at h
  intro f hf
  intro he
  exact List.find?_eq_none.1 h f hf (decide_eq_true he)
theorem find_of {P : PD} (hu : Up fname P.L) {f : PF} (h : f ∈ P.L) : P.find f.1 = some f := by
  cases hf : P.find f.1 with
  | none => exact (find_none hf f h rfl).elim
  | some g =>
    obtain ⟨h1, h2⟩ := find_some hf
    rw [hu.uniq h1 h h2]
theorem find_no {P : PD} {s : List UInt8} (h : ∀ f ∈ P.L, f.1 ≠ s) : P.find s = none := by
  cases hf : P.find s with
  | none => rfl
  | some g =>
    obtain ⟨h1, h2⟩ := find_some hf
    exact (h g h1 h2).elim
end Go.Proofs.YtaoolpnnomhnoaaGreatDoor

/- Slices of bytes that came in. -/
namespace Go.Proofs.YtaoolpnnomhnoaaGreatDoor
open Go.ChangeShapes Go.WideShapes Go.ChangeAt Go.RowKit
open Go.ChangeMaps (open_string shut_string)

theorem slice_has {P : Program} {w : World} {r : Go.Reach} {base : Nat} {t e : TypeId} {a : Addr} {len cap : Nat} (ht : P.underlying t = some (.slice e)) (h : Value.okWide P w r base t (.slice (some a) len cap)) : a.spot = none ∧ a.block < w.heap.size := by
  unfold Value.okWide at h
  rw [ht] at h
  unfold Cell.okWide at h
  rw [ht] at h
  unfold Cell.ok at h
  rw [ht] at h
  obtain ⟨_, _, _, hs, row, cells, hsh, _⟩ := h
  refine ⟨hs, ?_⟩
  unfold World.shape? at hsh
  split at hsh
  · rename_i hh
    exact (Array.getElem?_eq_some_iff.1 hh).1
  · cases hsh
theorem wf_i64 {a : Int} (h : (Lit.int .i64 a).wf = true) : -9223372036854775808 ≤ a ∧ a ≤ 9223372036854775807 := by
  simp [Lit.wf, IntKind.has, IntKind.min, IntKind.max, IntKind.bits, IntKind.signed] at h
  omega
theorem wf_u8 {a : Int} (h : (Lit.int .u8 a).wf = true) : 0 ≤ a ∧ a < 256 := by
  simp [Lit.wf, IntKind.has, IntKind.min, IntKind.max, IntKind.bits, IntKind.signed] at h
  omega
theorem wf_u16 {a : Int} (h : (Lit.int .u16 a).wf = true) : 0 ≤ a ∧ a < 65536 := by
  simp [Lit.wf, IntKind.has, IntKind.min, IntKind.max, IntKind.bits, IntKind.signed] at h
  omega
/-- What a slice of bytes that came in is told to be. -/
structure Came (w : World) (A : Option Addr) (n c : Nat) (l : List UInt8) : Prop where
  len : n = l.length
  bytes : Bs w A l
  lt : ∀ a, A = some a → a.block < w.heap.size
  cap : n ≤ c
  most : n ≤ 9223372036854775807
set_option maxRecDepth 100000 in
theorem open_bytes {H : Type} {enc : TypeId × Value → H} {w : World} {r : Go.Reach} {base base' : Nat} {t e : TypeId} {fuel : Nat} {a : Option Addr} {len cap : Nat} {x : DataW H × List MemPlace} {spare : Nat → Bool} {held : Bool}
    (ht : Tryz.prog.underlying t = some (.slice e)) (he : Tryz.prog.underlying e = some (.int .u8)) (hc : Tryz.prog.cellsOf e = 1) (hv : Value.okWide Tryz.prog w r base t (.slice a len cap))
    (h : DataW.trod enc Tryz.prog w base' spare held fuel t (Value.slice a len cap).cells.toList = some x) : ∃ l, Came w a len cap l := by
  rcases open_ints ht he hc h with ⟨hcs, _⟩ | ⟨y, m, c, zs, hcs, _, hl, hm, hz, _, hcell, hwz⟩
  · simp [Value.cells] at hcs
    obtain ⟨rfl, rfl, rfl⟩ := hcs
    exact ⟨[], rfl, .inl rfl, nofun, by omega, by omega⟩
  · simp [Value.cells] at hcs
    obtain ⟨rfl, rfl, rfl⟩ := hcs
    obtain ⟨hs, hlt⟩ := slice_has ht hv
    obtain ⟨b, o, s⟩ := y
    simp only at hs
    subst hs
    have hzl : len ≤ zs.length := by rw [hz]; split <;> omega
    refine ⟨(zs.take len).map (fun n => UInt8.ofNat n.toNat), ?_, .inr ⟨b, o, rfl, fun i v hv => ?_⟩, fun a h => (by cases h; exact hlt), hl, ?_⟩
    · simp
      omega
    · rw [List.getElem?_map, List.getElem?_map, List.getElem?_take] at hv
      split at hv
      · rename_i hi
        have hi2 : i < zs.length := by omega
        rw [List.getElem?_eq_getElem hi2] at hv
        simp only [Option.map_some] at hv
        have h1 := hcell i hi2
        have h2 := hwz zs[i] (List.getElem_mem hi2)
        rw [Addr.add_lit] at h1
        rw [h1]
        injection hv with hv
        rw [← hv]
        have h3 : zs.getD i 0 = zs[i] := by simp [List.getD, hi2]
        rw [h3]
        simp [Lit.wf, IntKind.has, IntKind.min, IntKind.max, IntKind.bits, IntKind.signed] at h2
        unfold B8
        rw [UInt8.toNat_ofNat']
        congr 2
        omega
      · simp at hv
    · unfold maxLen at hm
      omega
end Go.Proofs.YtaoolpnnomhnoaaGreatDoor

/- loggia/api: a Manifest that came in. -/
namespace Go.Proofs.YtaoolpnnomhnoaaGreatDoor
open Go.ChangeShapes Go.WideShapes Go.Deep Go.RowKit

def J64 (z : Int) : Value := .int .i64 z
/-- A partition, plainly. -/
structure Pt where
  id : Int
  st : Int
  lo : Int
  hi : Int
  fi : Int
  la : Int
  n : Int
deriving DecidableEq
def Pt.cells (p : Pt) : List Value := [.int .i64 p.id, .int .i64 p.st, .int .i64 p.lo, .int .i64 p.hi, .int .i64 p.fi, .int .i64 p.la, .int .i64 p.n]
def I64ok (z : Int) : Prop := -9223372036854775808 ≤ z ∧ z ≤ 9223372036854775807
structure Pt.Ok (p : Pt) : Prop where
  id : I64ok p.id
  st : I64ok p.st
  lo : I64ok p.lo
  hi : I64ok p.hi
  fi : I64ok p.fi
  la : I64ok p.la
  n : I64ok p.n
def pcells (ps : List Pt) : List Value := ps.flatMap Pt.cells
theorem pcells_len (R : List Pt) : (pcells R).length = R.length * 7 := by
  unfold pcells
  induction R with
  | nil => rfl
  | cons r R ih => rw [List.flatMap_cons, List.length_append, ih, List.length_cons]; simp [Pt.cells]; omega
theorem pcells_get : ∀ (R : List Pt) (i : Nat) (r : Pt) (k : Nat), R[i]? = some r → k < 7 → (pcells R)[i * 7 + k]? = r.cells[k]?
  | [], i, r, k, h, _ => by simp at h
  | x :: R, 0, r, k, h, hk => by
    obtain rfl : x = r := by simpa using h
    unfold pcells
    rw [List.flatMap_cons, List.getElem?_append_left (by simp [Pt.cells]; omega), Nat.zero_mul, Nat.zero_add]
  | x :: R, i + 1, r, k, h, hk => by
    have h' : R[i]? = some r := by simpa using h
    have ih := pcells_get R i r k h' hk
    unfold pcells at ih ⊢
    rw [List.flatMap_cons, List.getElem?_append_right (by simp [Pt.cells]; omega)]
    have : (i + 1) * 7 + k - x.cells.length = i * 7 + k := by
      have : x.cells.length = 7 := rfl
      omega
    rw [this]
    exact ih
/-- A row of partitions lies below base. -/
structure PS (w : World) (base : Nat) (A : Option Addr) (n c : Nat) (ps : List Pt) : Prop where
  len : n = ps.length
  cells : Cells w A (pcells ps)
  away : ps ≠ [] → ∀ a, A = some a → a.block < base ∧ a.spot = none
  cap : n ≤ c
  most : n ≤ 9223372036854775807
  ok : ∀ p ∈ ps, p.Ok
theorem PS.chg {w w1 : World} {base : Nat} {A : Option Addr} {n c : Nat} {ps : List Pt} {S : Nat → Prop} (h : PS w base A n c ps) (hc : Chg S w w1) (hs : ∀ k, k < base → ¬ S k) : PS w1 base A n c ps := by
  refine ⟨h.len, ?_, h.away, h.cap, h.most, h.ok⟩
  by_cases hz : ps = []
  · subst hz; exact .inl rfl
  · exact hc.cells h.cells fun a ha => hs _ (h.away hz a ha).1
theorem PS.ext {w w1 : World} {base : Nat} {A : Option Addr} {n c : Nat} {ps : List Pt} (h : PS w base A n c ps) (hE : Ext w w1) : PS w1 base A n c ps := h.chg (Chg.of_ext hE (fun _ => False)) fun _ _ h => h
theorem pcells_take (k : Nat) : ∀ ps : List Pt, pcells (ps.take k) = (pcells ps).take (k * 7) := by
  induction k with
  | zero => intro ps; rw [List.take_zero, Nat.zero_mul, List.take_zero]; rfl
  | succ k ih =>
    intro ps
    cases ps with
    | nil => rw [List.take_nil]; unfold pcells; rw [List.flatMap_nil, List.take_nil]
    | cons p ps =>
      have h1 : (k + 1) * 7 = p.cells.length + k * 7 := by
        have : p.cells.length = 7 := rfl
        omega
      show pcells (p :: ps.take k) = _
      unfold pcells
      rw [List.flatMap_cons, List.flatMap_cons, h1, List.take_length_add_append]
      have := ih ps
      unfold pcells at this
      rw [this]
theorem PS.take {w : World} {base : Nat} {A : Option Addr} {n c : Nat} {ps : List Pt} (h : PS w base A n c ps) (k : Nat) (hk : k ≤ n) : PS w base A k c (ps.take k) := by
  refine ⟨by rw [List.length_take, ← h.len]; omega, ?_, fun hz => h.away fun e => hz (by rw [e, List.take_nil]), by have := h.cap; omega, by have := h.most; omega, fun z hz => h.ok z (List.mem_of_mem_take hz)⟩
  rw [pcells_take]
  rcases h.cells with h0 | ⟨g, o, hA, hc⟩
  · exact .inl (by rw [h0, List.take_nil])
  · refine .inr ⟨g, o, hA, fun i v hv => ?_⟩
    rw [List.getElem?_take] at hv
    split at hv
    · exact hc i v hv
    · cases hv
/-- Where a partition's cells lie. -/
theorem PS.at_ {w : World} {base : Nat} {A : Option Addr} {n c : Nat} {ps : List Pt} (h : PS w base A n c ps) {i : Nat} (hi : i < n) : ∃ g s p, A = some ⟨g, s, none⟩ ∧ ps[i]? = some p ∧ p.Ok ∧ w.cell? ⟨g, s + i * 7, none⟩ = some (.int .i64 p.id) ∧ w.cell? ⟨g, s + i * 7 + 1, none⟩ = some (.int .i64 p.st) ∧ w.cell? ⟨g, s + i * 7 + 2, none⟩ = some (.int .i64 p.lo) ∧
    w.cell? ⟨g, s + i * 7 + 3, none⟩ = some (.int .i64 p.hi) ∧ w.cell? ⟨g, s + i * 7 + 4, none⟩ = some (.int .i64 p.fi) ∧ w.cell? ⟨g, s + i * 7 + 5, none⟩ = some (.int .i64 p.la) ∧ w.cell? ⟨g, s + i * 7 + 6, none⟩ = some (.int .i64 p.n) := by
  have hl : i < ps.length := by rw [← h.len]; exact hi
  obtain ⟨g, s, hA, hc⟩ := h.cells.at_ (by rw [pcells_len]; omega)
  have hr : ps[i]? = some ps[i] := List.getElem?_eq_getElem hl
  refine ⟨g, s, ps[i], hA, hr, h.ok _ (List.getElem_mem hl), ?_, ?_, ?_, ?_, ?_, ?_, ?_⟩
  · exact hc (i * 7 + 0) _ (by rw [pcells_get ps i _ 0 hr (by omega)]; rfl)
  · rw [Nat.add_assoc]; exact hc (i * 7 + 1) _ (by rw [pcells_get ps i _ 1 hr (by omega)]; rfl)
  · rw [Nat.add_assoc]; exact hc (i * 7 + 2) _ (by rw [pcells_get ps i _ 2 hr (by omega)]; rfl)
  · rw [Nat.add_assoc]; exact hc (i * 7 + 3) _ (by rw [pcells_get ps i _ 3 hr (by omega)]; rfl)
  · rw [Nat.add_assoc]; exact hc (i * 7 + 4) _ (by rw [pcells_get ps i _ 4 hr (by omega)]; rfl)
  · rw [Nat.add_assoc]; exact hc (i * 7 + 5) _ (by rw [pcells_get ps i _ 5 hr (by omega)]; rfl)
  · rw [Nat.add_assoc]; exact hc (i * 7 + 6) _ (by rw [pcells_get ps i _ 6 hr (by omega)]; rfl)
/-- A manifest, plainly. -/
structure Mf where
  ps : List Pt
  floor : Int
  done : Int
  log : Int
  next : Int
  now : Int
def Mf.val (m : Mf) (A : Option Addr) (c : Nat) : Value := .agg #[.slice A m.ps.length c, .int .i64 m.floor, .int .i64 m.done, .int .i64 m.log, .int .i64 m.next, .int .i64 m.now]
structure Mf.Ok (m : Mf) (w : World) (base : Nat) (A : Option Addr) (c : Nat) : Prop where
  parts : PS w base A m.ps.length c m.ps
  floor : I64ok m.floor
  done : I64ok m.done
  log : I64ok m.log
  next : I64ok m.next
  now : I64ok m.now
theorem Mf.Ok.ext {m : Mf} {w w1 : World} {base : Nat} {A : Option Addr} {c : Nat} (h : m.Ok w base A c) (hE : Ext w w1) : m.Ok w1 base A c := ⟨h.parts.ext hE, h.floor, h.done, h.log, h.next, h.now⟩
def Mf.few (m : Mf) : Mf := { m with ps := m.ps.take 40 }
theorem Mf.Ok.few {m : Mf} {w : World} {base : Nat} {A : Option Addr} {c : Nat} (h : m.Ok w base A c) : m.few.Ok w base A c := by
  refine ⟨?_, h.floor, h.done, h.log, h.next, h.now⟩
  show PS w base A (m.ps.take 40).length c (m.ps.take 40)
  by_cases h40 : m.ps.length ≤ 40
  · rw [List.take_of_length_le h40]
    exact h.parts
  · have := h.parts.take 40 (by omega)
    rw [List.length_take, Nat.min_eq_left (by omega)]
    exact this
end Go.Proofs.YtaoolpnnomhnoaaGreatDoor

/- loggia/manifest, loggiaref16: which numbers and partitions may be. -/
namespace Go.Proofs.YtaoolpnnomhnoaaGreatDoor
open Go.RowKit

def numP (n : Int) : Bool := decide (1 ≤ n) && decide (n ≤ 99999999)
def partP (p : Pt) : Bool := numP p.id && (decide (p.st = 2) || decide (p.st = 3)) && decide (p.lo ≤ p.hi) && decide (1 ≤ p.fi) && decide (p.fi ≤ p.la) && decide (p.la ≤ 1099511627776) && decide (p.n = p.la - p.fi + 1)
def Pt.val (p : Pt) : Value := .agg #[.int .i64 p.id, .int .i64 p.st, .int .i64 p.lo, .int .i64 p.hi, .int .i64 p.fi, .int .i64 p.la, .int .i64 p.n]
set_option maxRecDepth 100000 in
theorem numbered_any (n : Int) (w : World) : Calls Tryz.prog 66 #[.int .i64 n] w fun e w' => e = .returned (.bool (numP n)) ∧ w' = w := by
  go_enter Tryz.func66, Tryz.ntmps66
  go_wp2_with fail
  all_goals go_ret
  all_goals exact ⟨ret_bool (by rw [Bool.eq_iff_iff]; simp [numP] <;> omega), rfl⟩
set_option maxRecDepth 100000 in
theorem eight_any (n : Int) (w : World) : Calls Tryz.prog 65 #[.int .i64 n] w fun e w' => e = .returned (.bool (numP n)) ∧ w' = w := by
  go_enter Tryz.func65, Tryz.ntmps65
  go_wp2_with fail
  all_goals go_ret
  all_goals exact ⟨ret_bool (by rw [Bool.eq_iff_iff]; simp [numP] <;> omega), rfl⟩
set_option maxRecDepth 100000 in
set_option maxHeartbeats 2000000 in
theorem part_any (p : Pt) (w : World) (h : p.Ok) : Calls Tryz.prog 68 #[p.val] w fun e w' => e = .returned (.bool (partP p)) ∧ Ext w w' := by
  have hnum : ∀ W, Calls Tryz.prog 66 #[.int .i64 p.id] W fun e w' => e = .returned (.bool (numP p.id)) ∧ w' = W := numbered_any p.id
  obtain ⟨b1, b2, b3, b4, b5, b6, b7⟩ := h
  unfold I64ok at b1 b2 b3 b4 b5 b6 b7
  unfold Pt.val
  replace hnum := hide hnum
  go_enter Tryz.func68, Tryz.ntmps68
  go_wp2_with (go_at_call 66; refine (hnum.out _).mono ?_; rintro e w1 ⟨rfl, rfl⟩)
  all_goals go_ret
  all_goals exact ⟨ret_bool (by clear b1 b2 b3 b4 b5 b6 b7 hnum; unfold partP; rw [Bool.eq_iff_iff]; simp_all <;> (intros; omega)), (Ext.refl w).alloc _⟩
set_option maxRecDepth 100000 in
set_option maxHeartbeats 2000000 in
theorem rpart_any (p : Pt) (w : World) (h : p.Ok) : Calls Tryz.prog 64 #[p.val] w fun e w' => e = .returned (.bool (partP p)) ∧ Ext w w' := by
  have hnum : ∀ W, Calls Tryz.prog 65 #[.int .i64 p.id] W fun e w' => e = .returned (.bool (numP p.id)) ∧ w' = W := eight_any p.id
  obtain ⟨b1, b2, b3, b4, b5, b6, b7⟩ := h
  unfold I64ok at b1 b2 b3 b4 b5 b6 b7
  unfold Pt.val
  replace hnum := hide hnum
  go_enter Tryz.func64, Tryz.ntmps64
  go_wp2_with (go_at_call 65; refine (hnum.out _).mono ?_; rintro e w1 ⟨rfl, rfl⟩)
  all_goals go_ret
  all_goals exact ⟨ret_bool (by clear b1 b2 b3 b4 b5 b6 b7 hnum; unfold partP; rw [Bool.eq_iff_iff]; simp_all <;> (intros; omega)), (Ext.refl w).alloc _⟩
end Go.Proofs.YtaoolpnnomhnoaaGreatDoor

/- loggia/manifest: Check. -/
namespace Go.Proofs.YtaoolpnnomhnoaaGreatDoor
open Go.RowKit

/-- The last partition's number and last event, if all may be. -/
def goP : List Pt → Int → Int → Option (Int × Int)
  | [], id, last => some (id, last)
  | p :: ps, id, last => if partP p = true ∧ id < p.id ∧ last < p.fi then goP ps p.id p.la else none
def endP (m : Mf) (id last : Int) : Bool := decide (last ≤ m.done) && decide (m.done ≤ 1099511627776) && numP m.log && numP m.next && decide (id < m.next)
def isP (m : Mf) : Bool := match goP m.ps 0 0 with
  | none => false
  | some (id, last) => endP m id last
def checkP (m : Mf) : Nat := if 512 < m.ps.length then 3 else if isP m then 0 else 160
theorem goP_at {ps : List Pt} {i : Nat} {p : Pt} (h : ps[i]? = some p) (id last : Int) : goP (ps.drop i) id last = if partP p = true ∧ id < p.id ∧ last < p.fi then goP (ps.drop (i + 1)) p.id p.la else none := by
  have hi := (List.getElem?_eq_some_iff.1 h).1
  have h2 := (List.getElem?_eq_some_iff.1 h).2
  rw [List.drop_eq_getElem_cons hi, h2]
  rfl
theorem checkP_bad {m : Mf} (h1 : ¬ 512 < m.ps.length) (h : goP m.ps 0 0 = none) : checkP m = 160 := by
  unfold checkP isP
  rw [if_neg h1, h]
  rfl
theorem checkP_end {m : Mf} {id last : Int} (h1 : ¬ 512 < m.ps.length) (h : goP m.ps 0 0 = some (id, last)) : checkP m = if endP m id last then 0 else 160 := by
  unfold checkP isP
  rw [if_neg h1, h]
set_option maxRecDepth 100000 in
set_option maxHeartbeats 4000000 in
theorem check_any (base : Nat) (m : Mf) (A : Option Addr) (c : Nat) (w : World) (h : m.Ok w base A c) : Calls Tryz.prog 34 #[m.val A c] w fun e w' => e = .returned (.int .i64 (checkP m)) ∧ Ext w w' := by
  have hparts := h.parts
  have hmost := hparts.most
  have hf := h.done
  have hlg := h.log
  have hnx := h.next
  unfold I64ok at hf hlg hnx
  have hln : ∀ W, Calls Tryz.prog 66 #[.int .i64 m.log] W fun e w' => e = .returned (.bool (numP m.log)) ∧ w' = W := numbered_any m.log
  have hnn : ∀ W, Calls Tryz.prog 66 #[.int .i64 m.next] W fun e w' => e = .returned (.bool (numP m.next)) ∧ w' = W := numbered_any m.next
  unfold Mf.val
  replace hln := hide hln
  replace hnn := hide hnn
  by_cases h5 : 512 < m.ps.length
  · have hc : checkP m = 3 := by unfold checkP; rw [if_pos h5]
    rw [hc]
    clear hc
    go_enter Tryz.func34, Tryz.ntmps34
    go_wp2_with fail
    go_ret
    exact ⟨rfl, (Ext.refl w).alloc _⟩
  · have hb : Row (w.alloc (.cells #[.slice A m.ps.length c, .int .i64 m.floor, .int .i64 m.done, .int .i64 m.log, .int .i64 m.next, .int .i64 m.now] 24)) w.heap.size 24 #[.slice A m.ps.length c, .int .i64 m.floor, .int .i64 m.done, .int .i64 m.log, .int .i64 m.next, .int .i64 m.now] := Row.new w _ _
    have hE0 : Ext w (w.alloc (.cells #[.slice A m.ps.length c, .int .i64 m.floor, .int .i64 m.done, .int .i64 m.log, .int .i64 m.next, .int .i64 m.now] 24)) := (Ext.refl w).alloc _
    go_enter Tryz.func34, Tryz.ntmps34
    go_wp2_with fail
    obtain ⟨W, hW⟩ : ∃ W, W = w.alloc (.cells #[.slice A m.ps.length c, .int .i64 m.floor, .int .i64 m.done, .int .i64 m.log, .int .i64 m.next, .int .i64 m.now] 24) := ⟨_, rfl⟩
    rw [← hW] at hb hE0
    try rw [← hW]
    clear hW
    go_loopw [3, 4, 14] (fun s3 s4 s14 wr => ∃ (i : Nat) (id last : Int), s3 = .int .i64 id ∧ s4 = .int .i64 last ∧ s14 = .int .i64 i ∧ i ≤ m.ps.length ∧ I64ok id ∧ I64ok last ∧ Hid (goP m.ps 0 0 = goP (m.ps.drop i) id last) ∧ Hid (Ext W wr)) (fun _ _ s14 _ => m.ps.length - (intOf s14).toNat)
    case atStart => exact ⟨0, 0, 0, rfl, rfl, rfl, by omega, by unfold I64ok; omega, by unfold I64ok; omega, rfl, hide (Ext.refl W)⟩
    case round =>
      obtain ⟨i, id, last, rfl, rfl, rfl, hi, hid, hla, hgo, hE⟩ := hrel
      unfold I64ok at hid hla
      by_cases hin : i < m.ps.length
      · obtain ⟨g, s, p, rfl, hp, hpo, k0, k1, k2, k3, k4, k5, k6⟩ := (hparts.ext (hE0.trans hE.out)).at_ hin
        have hpc := part_any p (wr.alloc (.cells #[.int .i64 p.id, .int .i64 p.st, .int .i64 p.lo, .int .i64 p.hi, .int .i64 p.fi, .int .i64 p.la, .int .i64 p.n] 71)) hpo
        have hbx : Row (wr.alloc (.cells #[.int .i64 p.id, .int .i64 p.st, .int .i64 p.lo, .int .i64 p.hi, .int .i64 p.fi, .int .i64 p.la, .int .i64 p.n] 71)) wr.heap.size 71 #[.int .i64 p.id, .int .i64 p.st, .int .i64 p.lo, .int .i64 p.hi, .int .i64 p.fi, .int .i64 p.la, .int .i64 p.n] := Row.new wr _ _
        have hEa : Ext W (wr.alloc (.cells #[.int .i64 p.id, .int .i64 p.st, .int .i64 p.lo, .int .i64 p.hi, .int .i64 p.fi, .int .i64 p.la, .int .i64 p.n] 71)) := hE.out.alloc _
        obtain ⟨q1, q2, q3, q4, q5, q6, q7⟩ := hpo
        unfold I64ok at q1 q2 q3 q4 q5 q6 q7
        have hga := goP_at hp id last
        rw [← hgo.out] at hga
        unfold Pt.val at hpc
        replace hga := hide hga
        replace hbx := hide hbx
        replace hEa := hide hEa
        cases hpp : partP p with
        | false =>
          rw [hpp] at hpc
          replace hpc := hide hpc
          have hbad : checkP m = 160 := checkP_bad h5 (by rw [hga.out, if_neg (by rw [hpp]; simp)])
          replace hbad := hide hbad
          go_wp2_with fail
          refine hpc.out.mono ?_
          rintro e w4 ⟨rfl, hE4⟩
          go_wp2_with fail
          go_ret
          rw [hbad.out]
          exact ⟨rfl, (hE0.trans hEa.out).trans hE4⟩
        | true =>
          rw [hpp] at hpc
          replace hpc := hide hpc
          by_cases hx1 : id < p.id
          · by_cases hx2 : last < p.fi
            · have hnext := hga.out
              rw [if_pos ⟨hpp, hx1, hx2⟩] at hnext
              replace hnext := hide hnext
              go_wp2_with fail
              refine hpc.out.mono ?_
              rintro e w4 ⟨rfl, hE4⟩
              have hb4 := hbx.out.ext hE4
              have x0 := hb4.cell 0 rfl
              have x4 := hb4.cell 4 rfl
              have x5 := hb4.cell 5 rfl
              go_wp2_with fail
              refine wp_region_text follows (by kernel_rfl) (by kernel_rfl) (fun K hK => ?_)
              go_wp2_with fail
              refine ⟨by kernel_rfl, ?_⟩
              go_wp2_with fail
              go_roundw
              case rel => exact ⟨i + 1, p.id, p.la, rfl, rfl, by go_num, by omega, by unfold I64ok; omega, by unfold I64ok; omega, hnext, hide ((hEa.out.trans hE4).drew)⟩
              case measure => simp [intOf]; omega
            · have hbad : checkP m = 160 := checkP_bad h5 (by rw [hga.out, if_neg (fun hh => hx2 hh.2.2)])
              replace hbad := hide hbad
              go_wp2_with fail
              refine hpc.out.mono ?_
              rintro e w4 ⟨rfl, hE4⟩
              have hb4 := hbx.out.ext hE4
              have x0 := hb4.cell 0 rfl
              have x4 := hb4.cell 4 rfl
              go_wp2_with fail
              go_ret
              rw [hbad.out]
              exact ⟨rfl, (hE0.trans hEa.out).trans hE4⟩
          · have hbad : checkP m = 160 := checkP_bad h5 (by rw [hga.out, if_neg (fun hh => hx1 hh.2.1)])
            replace hbad := hide hbad
            go_wp2_with fail
            refine hpc.out.mono ?_
            rintro e w4 ⟨rfl, hE4⟩
            have hb4 := hbx.out.ext hE4
            have x0 := hb4.cell 0 rfl
            have x4 := hb4.cell 4 rfl
            go_wp2_with fail
            go_ret
            rw [hbad.out]
            exact ⟨rfl, (hE0.trans hEa.out).trans hE4⟩
      · have hii : i = m.ps.length := by omega
        have hb1 : decide ((i : Int) < (m.ps.length : Int)) = false := decide_eq_false (by omega)
        have hend : goP m.ps 0 0 = some (id, last) := by
          rw [hgo.out, List.drop_of_length_le (by omega)]
          rfl
        have hce := checkP_end h5 hend
        have hbr := hb.ext hE.out
        have x2 := hbr.cell 2 rfl
        have x3 := hbr.cell 3 rfl
        have x4 := hbr.cell 4 rfl
        have hEr := hide (hE0.trans hE.out)
        clear hii
        replace hce := hide hce
        replace hend := hide hend
        by_cases e1 : last ≤ m.done
        · by_cases e2 : m.done ≤ 1099511627776
          · cases e3 : numP m.log with
            | false =>
              rw [e3] at hln
              have hv : endP m id last = false := by unfold endP; simp [e1, e2, e3]
              have hres : checkP m = 160 := by rw [hce.out, hv]; rfl
              clear hv
              replace hres := hide hres
              go_wp2_with fail
              refine (hln.out _).mono ?_
              rintro e w5 ⟨rfl, rfl⟩
              go_wp2_with fail
              go_ret
              rw [hres.out]
              exact ⟨by first | rfl | simp [e1, e2, e3], hEr.out⟩
            | true =>
              rw [e3] at hln
              cases e4 : numP m.next with
              | false =>
                rw [e4] at hnn
                have hv : endP m id last = false := by unfold endP; simp [e1, e2, e3, e4]
                have hres : checkP m = 160 := by rw [hce.out, hv]; rfl
                clear hv
                replace hres := hide hres
                go_wp2_with fail
                refine (hln.out _).mono ?_
                rintro e w5 ⟨rfl, rfl⟩
                go_wp2_with fail
                refine (hnn.out _).mono ?_
                rintro e w6 ⟨rfl, rfl⟩
                go_wp2_with fail
                go_ret
                rw [hres.out]
                exact ⟨by first | rfl | simp [e1, e2, e3, e4], hEr.out⟩
              | true =>
                rw [e4] at hnn
                by_cases e5 : id < m.next
                · have hv : endP m id last = true := by unfold endP; simp [e1, e2, e3, e4, e5]
                  have hres : checkP m = 0 := by rw [hce.out, hv]; rfl
                  clear hv
                  replace hres := hide hres
                  go_wp2_with fail
                  refine (hln.out _).mono ?_
                  rintro e w5 ⟨rfl, rfl⟩
                  go_wp2_with fail
                  refine (hnn.out _).mono ?_
                  rintro e w6 ⟨rfl, rfl⟩
                  go_wp2_with fail
                  go_ret
                  rw [hres.out]
                  exact ⟨by first | rfl | simp [e1, e2, e3, e4, e5], hEr.out⟩
                · have hv : endP m id last = false := by unfold endP; simp [e1, e2, e3, e4, e5]
                  have hres : checkP m = 160 := by rw [hce.out, hv]; rfl
                  clear hv
                  replace hres := hide hres
                  go_wp2_with fail
                  refine (hln.out _).mono ?_
                  rintro e w5 ⟨rfl, rfl⟩
                  go_wp2_with fail
                  refine (hnn.out _).mono ?_
                  rintro e w6 ⟨rfl, rfl⟩
                  go_wp2_with fail
                  go_ret
                  rw [hres.out]
                  exact ⟨by first | rfl | simp [e1, e2, e3, e4, e5], hEr.out⟩
          · have hv : endP m id last = false := by unfold endP; simp [e1, e2]
            have hres : checkP m = 160 := by rw [hce.out, hv]; rfl
            clear hv
            replace hres := hide hres
            go_wp2_with fail
            go_ret
            rw [hres.out]
            exact ⟨by first | rfl | simp [e1, e2], hEr.out⟩
        · have hv : endP m id last = false := by unfold endP; simp [e1]
          have hres : checkP m = 160 := by rw [hce.out, hv]; rfl
          clear hv
          replace hres := hide hres
          go_wp2_with fail
          go_ret
          rw [hres.out]
          exact ⟨by first | rfl | simp [e1], hEr.out⟩
end Go.Proofs.YtaoolpnnomhnoaaGreatDoor

/- Numbers in bytes, plainly: seven bits a byte, the lowest first. -/
namespace Go.Proofs.YtaoolpnnomhnoaaGreatDoor

/-- A number's bytes. -/
def vb (n : Nat) : List UInt8 := if _h : n < 128 then [UInt8.ofNat n] else UInt8.ofNat (n % 128 + 128) :: vb (n / 128)
termination_by n
decreasing_by omega
theorem vb_lt {n : Nat} (h : n < 128) : vb n = [UInt8.ofNat n] := by rw [vb, dif_pos h]
theorem vb_ge {n : Nat} (h : ¬ n < 128) : vb n = UInt8.ofNat (n % 128 + 128) :: vb (n / 128) := by rw [vb, dif_neg h]
theorem vb_len : ∀ (k n : Nat), n < 128 ^ k → (vb n).length ≤ max k 1
  | 0, n, h => by
    have : n = 0 := by simpa using h
    subst this
    rw [vb_lt (by omega)]
    simp
  | k + 1, n, h => by
    by_cases hn : n < 128
    · rw [vb_lt hn]; simp
    · rw [vb_ge hn, List.length_cons]
      have ih := vb_len k (n / 128) (by rw [Nat.pow_succ] at h; omega)
      have : 1 ≤ k := by
        rcases Nat.eq_zero_or_pos k with rfl | hk
        · simp at h; omega
        · exact hk
      omega
theorem vb_len10 {n : Nat} (h : n < 18446744073709551616) : (vb n).length ≤ 10 := vb_len 10 n (by omega)
theorem vb_pos (n : Nat) : 1 ≤ (vb n).length := by
  by_cases hn : n < 128
  · rw [vb_lt hn]; simp
  · rw [vb_ge hn]; simp
/-- The number that bytes begin with, and what is left; or the error. i bytes have been read. -/
def getV (i : Nat) : List UInt8 → Except Nat (Nat × List UInt8)
  | [] => .error 6
  | x :: l => if 10 ≤ i then .error 6 else if (i = 9 ∧ 1 < x.toNat) ∨ (0 < i ∧ x.toNat = 0) then .error 20 else
    if x.toNat < 128 then .ok (x.toNat, l) else match getV (i + 1) l with
      | .ok (n, r) => .ok (x.toNat - 128 + 128 * n, r)
      | .error e => .error e
theorem getV_lt : ∀ (l : List UInt8) (i n : Nat) (r : List UInt8), getV i l = .ok (n, r) → i ≤ 9 ∧ n < 2 * 128 ^ (9 - i) ∧ ∃ p, l = p ++ r ∧ p ≠ []
  | [], i, n, r, h => by simp [getV] at h
  | x :: l, i, n, r, h => by
    unfold getV at h
    by_cases h10 : 10 ≤ i
    · rw [if_pos h10] at h; cases h
    rw [if_neg h10] at h
    by_cases hb : (i = 9 ∧ 1 < x.toNat) ∨ (0 < i ∧ x.toNat = 0)
    · rw [if_pos hb] at h; cases h
    rw [if_neg hb] at h
    have hx := x.toNat_lt
    by_cases h128 : x.toNat < 128
    · rw [if_pos h128] at h
      injection h with h
      injection h with h1 h2
      subst h1 h2
      refine ⟨by omega, ?_, [x], rfl, by simp⟩
      by_cases h9 : i = 9
      · subst h9
        simp only [Nat.sub_self, Nat.pow_zero]
        omega
      · have : 128 ^ 1 ≤ 128 ^ (9 - i) := Nat.pow_le_pow_right (by omega) (by omega)
        omega
    · rw [if_neg h128] at h
      split at h
      · rename_i m r' hg
        injection h with h
        injection h with h1 h2
        subst h1 h2
        obtain ⟨h3, h4, p, hp, _⟩ := getV_lt l (i + 1) m r' hg
        refine ⟨by omega, ?_, x :: p, by rw [hp]; rfl, by simp⟩
        have : 9 - i = (9 - (i + 1)) + 1 := by omega
        rw [this, Nat.pow_succ]
        omega
      · cases h
theorem getV_lt64 {l : List UInt8} {n : Nat} {r : List UInt8} (h : getV 0 l = .ok (n, r)) : n < 18446744073709551616 := by
  have := (getV_lt l 0 n r h).2.1
  omega
/-- What was put is got. -/
theorem getV_vb : ∀ (k i n : Nat) (r : List UInt8), k + i = 9 → n < 2 * 128 ^ k → (0 < i → 0 < n) → getV i (vb n ++ r) = .ok (n, r)
  | k, i, n, r, hk, hn, h0 => by
    by_cases h128 : n < 128
    · rw [vb_lt h128]
      have hx : (UInt8.ofNat n).toNat = n := by rw [UInt8.toNat_ofNat']; omega
      show getV i (UInt8.ofNat n :: r) = _
      unfold getV
      rw [if_neg (by omega), hx, if_neg, if_pos h128]
      rintro (⟨rfl, h1⟩ | ⟨h1, h2⟩)
      · obtain rfl : k = 0 := by omega
        simp at hn
        omega
      · have := h0 h1; omega
    · rw [vb_ge h128]
      have hx : (UInt8.ofNat (n % 128 + 128)).toNat = n % 128 + 128 := by rw [UInt8.toNat_ofNat']; omega
      show getV i (UInt8.ofNat (n % 128 + 128) :: (vb (n / 128) ++ r)) = _
      have hk0 : 1 ≤ k := by
        rcases Nat.eq_zero_or_pos k with rfl | h
        · simp at hn; omega
        · exact h
      obtain ⟨k, rfl⟩ : ∃ j, k = j + 1 := ⟨k - 1, by omega⟩
      have ih := getV_vb k (i + 1) (n / 128) r (by omega) (by rw [Nat.pow_succ] at hn; omega) (fun _ => by omega)
      unfold getV
      rw [if_neg (by omega), hx, if_neg (by omega), if_neg (by omega), ih]
      simp only
      rw [show n % 128 + 128 - 128 + 128 * (n / 128) = n by omega]
theorem getV_put {n : Nat} (h : n < 18446744073709551616) (r : List UInt8) : getV 0 (vb n ++ r) = .ok (n, r) := getV_vb 9 0 n r rfl (by omega) (by omega)
/-- Whole numbers, zigzag. -/
def zig (n : Int) : Nat := if 0 ≤ n then 2 * n.toNat else 2 * (-1 - n).toNat + 1
def unzig (u : Nat) : Int := if u % 2 = 0 then ((u / 2 : Nat) : Int) else -1 - ((u / 2 : Nat) : Int)
theorem unzig_zig (n : Int) : unzig (zig n) = n := by
  unfold unzig zig
  split <;> split <;> omega
theorem zig_lt {n : Int} (h1 : -9223372036854775808 ≤ n) (h2 : n ≤ 9223372036854775807) : zig n < 18446744073709551616 := by
  unfold zig
  split <;> omega
theorem unzig_ok {u : Nat} (h : u < 18446744073709551616) : -9223372036854775808 ≤ unzig u ∧ unzig u ≤ 9223372036854775807 := by
  unfold unzig
  split <;> omega
def vall (l : List Int) : List UInt8 := l.flatMap fun n => vb (zig n)
/-- So many whole numbers, and what is left. -/
def getAll : Nat → List UInt8 → Except Nat (List Int × List UInt8)
  | 0, l => .ok ([], l)
  | k + 1, l => match getV 0 l with
    | .error e => .error e
    | .ok (u, r) => match getAll k r with
      | .error e => .error e
      | .ok (ns, r') => .ok (unzig u :: ns, r')
theorem getAll_put : ∀ (ns : List Int) (r : List UInt8), (∀ n ∈ ns, -9223372036854775808 ≤ n ∧ n ≤ 9223372036854775807) → getAll ns.length (vall ns ++ r) = .ok (ns, r)
  | [], r, _ => rfl
  | n :: ns, r, h => by
    have hn := h n (List.mem_cons_self ..)
    have ih := getAll_put ns r fun m hm => h m (List.mem_cons_of_mem _ hm)
    show getAll (ns.length + 1) ((vb (zig n) ++ vall ns) ++ r) = _
    unfold getAll
    have e := getV_put (zig_lt hn.1 hn.2) (vall ns ++ r)
    rw [List.append_assoc, e]
    simp only [ih, unzig_zig]
theorem getAll_len : ∀ (k : Nat) (l : List UInt8) (ns : List Int) (r : List UInt8), getAll k l = .ok (ns, r) → ns.length = k ∧ (∀ n ∈ ns, -9223372036854775808 ≤ n ∧ n ≤ 9223372036854775807) ∧ ∃ p, l = p ++ r
  | 0, l, ns, r, h => by
    unfold getAll at h
    injection h with h
    injection h with h1 h2
    subst h1 h2
    exact ⟨rfl, nofun, [], rfl⟩
  | k + 1, l, ns, r, h => by
    unfold getAll at h
    split at h
    · cases h
    · rename_i u r1 hu
      split at h
      · cases h
      · rename_i ns1 r2 hr
        injection h with h
        injection h with h1 h2
        subst h1 h2
        obtain ⟨h3, h4, p2, h5⟩ := getAll_len k r1 ns1 r2 hr
        obtain ⟨_, _, p1, h6, _⟩ := getV_lt l 0 u r1 hu
        refine ⟨by rw [List.length_cons, h3], fun n hn => ?_, p1 ++ p2, by rw [h6, h5, List.append_assoc]⟩
        rcases List.mem_cons.1 hn with rfl | hn
        · exact unzig_ok (getV_lt64 hu)
        · exact h4 n hn
end Go.Proofs.YtaoolpnnomhnoaaGreatDoor

