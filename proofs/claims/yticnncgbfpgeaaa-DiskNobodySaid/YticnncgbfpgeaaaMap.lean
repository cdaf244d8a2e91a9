/- Maps as lists of keys and values: what a look-up, a store, a deletion come to. -/
import Derived.Test.YticnncgbfpgeaaaLib
import Derived.Maps.Keyed
import Derived.Maps.OwnOps
namespace Go.Proofs.Yticnncgbfpgeaaa
open Go.RowKit Go.Maps
open Go

/-- Block m is a map with the entries L, each key once. -/
structure MapL (P : Program) (k : TypeId) (w : World) (m : Nat) (L : List (Value × Value)) : Prop where
  ex : ∃ es clock, w.heap[m]? = some (.map es clock) ∧ es.toList.map (fun e => (e.key, e.val)) = L ∧ es.toList.Pairwise (fun a b => a.born ≠ b.born) ∧ ∀ e ∈ es.toList, e.born < clock
  keys : ∀ p ∈ L, ∃ l, keyOf P k p.1 = some l
  nodup : (L.map Prod.fst).Nodup

section
variable {P : Program} {k : TypeId} {w w1 : World} {m : Nat} {L : List (Value × Value)}
theorem MapL.keep (h : MapL P k w m L) (hb : w1.heap[m]? = w.heap[m]?) : MapL P k w1 m L := by
  obtain ⟨⟨es, cl, h1, h2⟩, h3, h4⟩ := h
  exact ⟨⟨es, cl, hb.trans h1, h2⟩, h3, h4⟩
theorem MapL.lt (h : MapL P k w m L) : m < w.heap.size := by
  obtain ⟨⟨es, cl, h1, _⟩, _⟩ := h
  exact (Array.getElem?_eq_some_iff.1 h1).1
theorem MapL.ext (h : MapL P k w m L) (he : Ext w w1) : MapL P k w1 m L := h.keep (Below.block he m h.lt)
theorem MapL.grown {row : Option Nat} (h : MapL P k w m L) (hg : w.grownBy w1 row) (hne : row ≠ some m) : MapL P k w1 m L := h.keep (hg.block m h.lt (fun e => hne e.symm))
theorem MapL.drew (h : MapL P k w m L) : MapL P k w.drew m L := h.keep rfl
theorem MapL.alloc (h : MapL P k w m L) (o : Obj) : MapL P k (w.alloc o) m L := h.keep (Below.heap_alloc w o m h.lt)
theorem MapL.set_ (h : MapL P k w m L) {a : Addr} (v : Value) (hne : m ≠ a.block) : MapL P k (w.setCell a v) m L := h.keep (Below.heap_setCell w a v m hne)
theorem MapL.made (w : World) : MapL P k (w.alloc (.map #[] 0)) w.heap.size [] :=
  ⟨⟨#[], 0, heap_alloc_new w _, rfl, List.Pairwise.nil, by simp⟩, by simp, by simp⟩
theorem MapL.unique {x u v : Value} (h : MapL P k w m L) (hu : (x, u) ∈ L) (hv : (x, v) ∈ L) : u = v := by
  have hn := h.nodup
  clear h
  induction L with
  | nil => cases hu
  | cons p L ih =>
    simp only [List.map_cons, List.nodup_cons] at hn
    rcases List.mem_cons.1 hu with h1 | h1 <;> rcases List.mem_cons.1 hv with h2 | h2
    · rw [← h1] at h2; exact (Prod.mk.inj h2).2.symm
    · exfalso; apply hn.1; rw [← h1]; exact List.mem_map.2 ⟨_, h2, rfl⟩
    · exfalso; apply hn.1; rw [← h2]; exact List.mem_map.2 ⟨_, h1, rfl⟩
    · exact ih h1 h2 hn.2

/-- Where a key lies. -/
theorem MapL.find (h : MapL P k w m L) (K : Keyed P k) {x : Value} {l : Lit} (hx : keyOf P k x = some l) {es : Array MapEntry} {cl : Nat} (hb : w.heap[m]? = some (.map es cl)) (W : World) :
    ((Instr.findKey k x es.toList).run P W = .ok none W ∧ ∀ p ∈ L, p.1 ≠ x) ∨
    ∃ j e, (Instr.findKey k x es.toList).run P W = .ok (some (j, e.val)) W ∧ es[j]? = some e ∧ e.key = x ∧ (x, e.val) ∈ L := by
  obtain ⟨⟨es', cl', h1, h2, _⟩, h3, _⟩ := h
  rw [hb] at h1
  cases h1
  have hk : ∀ e ∈ es.toList, ∃ l, keyOf P k e.key = some l := fun e he => h3 (e.key, e.val) (by rw [← h2]; exact List.mem_map.2 ⟨e, he, rfl⟩)
  rcases K.find W hx es.toList hk with ⟨hr, hno⟩ | ⟨j, e, hr, hj, he⟩
  · refine .inl ⟨hr, fun p hp => ?_⟩
    rw [← h2] at hp
    obtain ⟨e, he, rfl⟩ := List.mem_map.1 hp
    exact hno e he
  · refine .inr ⟨j, e, hr, by simpa using hj, he, ?_⟩
    rw [← h2]
    exact List.mem_map.2 ⟨e, List.mem_of_getElem? hj, by rw [he]⟩

theorem MapL.look (h : MapL P k w m L) (K : Keyed P k) {t E : TypeId} (ht : P.underlying t = some (.map k E)) {x z : Value} {l : Lit} (hx : keyOf P k x = some l) (hz : (zeroValue E).run P w = .ok z w) (ok : Bool) :
    (∃ v, (x, v) ∈ L ∧ (Instr.lookup t (.map (some m)) x ok).run P w = .ok (if ok then .tuple #[v, .bool true] else v) w) ∨
    ((∀ p ∈ L, p.1 ≠ x) ∧ (Instr.lookup t (.map (some m)) x ok).run P w = .ok (if ok then .tuple #[z, .bool false] else z) w) := by
  obtain ⟨es, cl, hb, _⟩ := h.ex
  have hg : (getObj m).run P w = .ok (.map es cl) w := by simp [getObj, Sem.run, hb]
  rcases h.find K hx hb w with ⟨hr, hno⟩ | ⟨j, e, hr, hj, he, hm⟩
  · refine .inr ⟨hno, ?_⟩
    simp only [Instr.lookup, Sem.run_bind, run_underlying ht, Result.andThen_ok, hg, Sem.run_pure, K.check w es.isEmpty hx, hr, hz]
  · refine .inl ⟨e.val, hm, ?_⟩
    simp only [Instr.lookup, Sem.run_bind, run_underlying ht, Result.andThen_ok, hg, Sem.run_pure, K.check w es.isEmpty hx, hr]

/-- L' is L with v at x. -/
structure Put (L : List (Value × Value)) (x v : Value) (L' : List (Value × Value)) : Prop where
  mem : ∀ p, p ∈ L' ↔ p = (x, v) ∨ (p ∈ L ∧ p.1 ≠ x)
  len : (∃ u, (x, u) ∈ L) ∧ L'.length = L.length ∨ (∀ p ∈ L, p.1 ≠ x) ∧ L'.length = L.length + 1

theorem setObj_run {es : Array MapEntry} {cl : Nat} (hb : w.heap[m]? = some (.map es cl)) (o : Obj) : (setObj m o).run P w = .ok () { w with heap := w.heap.setIfInBounds m o } := by
  simp [setObj, Sem.run, hb]
theorem setObj_heap {o : Obj} (hlt : m < w.heap.size) : ({ w with heap := w.heap.setIfInBounds m o } : World).heap[m]? = some o := by
  simp [hlt]
theorem setObj_grown (o : Obj) : w.grownBy { w with heap := w.heap.setIfInBounds m o } (some m) :=
  ⟨rfl, rfl, rfl, by simp, fun i _ hi => by
    have : m ≠ i := fun e => hi (by rw [e])
    simp [Array.getElem?_setIfInBounds_ne this]⟩

theorem mem_modify {es : Array MapEntry} {j : Nat} {e0 : MapEntry} (hj : es[j]? = some e0) (f : MapEntry → MapEntry) (e : MapEntry) :
    e ∈ (es.modify j f).toList ↔ e = f e0 ∨ ∃ i, i ≠ j ∧ es[i]? = some e := by
  have hlt : j < es.size := (Array.getElem?_eq_some_iff.1 hj).1
  constructor
  · intro h
    obtain ⟨i, hi⟩ := List.mem_iff_getElem?.1 h
    rw [Array.getElem?_toList, Array.getElem?_modify] at hi
    split at hi
    · rename_i he
      subst he
      rw [hj] at hi
      exact .inl (Option.some.inj hi).symm
    · rename_i he
      exact .inr ⟨i, fun h => he h.symm, hi⟩
  · rintro (rfl | ⟨i, hi, he⟩)
    · refine List.mem_iff_getElem?.2 ⟨j, ?_⟩
      rw [Array.getElem?_toList, Array.getElem?_modify, if_pos rfl, hj]
      rfl
    · refine List.mem_iff_getElem?.2 ⟨i, ?_⟩
      rw [Array.getElem?_toList, Array.getElem?_modify, if_neg (fun h => hi h.symm)]
      exact he
theorem map_modify {es : Array MapEntry} {j : Nat} {β : Type} (f : MapEntry → MapEntry) (g : MapEntry → β) (hg : ∀ e, es[j]? = some e → g (f e) = g e) : (es.modify j f).toList.map g = es.toList.map g := by
  refine List.ext_getElem? fun i => ?_
  rw [List.getElem?_map, List.getElem?_map, Array.getElem?_toList, Array.getElem?_toList, Array.getElem?_modify]
  split
  · rename_i h
    subst h
    cases he : es[j]? with
    | none => rfl
    | some e => simp [hg e he]
  · rfl
theorem nodup_at {es : Array MapEntry} (hn : (es.toList.map (·.key)).Nodup) {i j : Nat} {a b : MapEntry} (hi : es[i]? = some a) (hj : es[j]? = some b) (hk : a.key = b.key) : i = j := by
  have h1 : (es.toList.map (·.key))[i]? = some a.key := by simp [hi]
  have h2 : (es.toList.map (·.key))[j]? = some b.key := by simp [hj]
  have hlt : i < (es.toList.map (·.key)).length := (List.getElem?_eq_some_iff.1 h1).1
  exact (List.getElem?_inj hlt hn).1 (by rw [h1, h2, hk])
theorem born_at {es : Array MapEntry} (hn : es.toList.Pairwise (fun a b => a.born ≠ b.born)) {i j : Nat} {a b : MapEntry} (hi : es[i]? = some a) (hj : es[j]? = some b) (hk : a.born = b.born) : i = j := by
  have hn' : (es.toList.map (·.born)).Nodup := by rw [List.nodup_iff_pairwise_ne, List.pairwise_map]; exact hn
  have h1 : (es.toList.map (·.born))[i]? = some a.born := by simp [hi]
  have h2 : (es.toList.map (·.born))[j]? = some b.born := by simp [hj]
  have hlt : i < (es.toList.map (·.born)).length := (List.getElem?_eq_some_iff.1 h1).1
  exact (List.getElem?_inj hlt hn').1 (by rw [h1, h2, hk])

/-- Entry j, whose key is x, gets the value v: the block's new entries. -/
theorem MapL.modify (h : MapL P k w m L) {es : Array MapEntry} {cl : Nat} (hb : w.heap[m]? = some (.map es cl)) {j : Nat} {e0 : MapEntry} (hj : es[j]? = some e0) (v : Value) {f : MapEntry → MapEntry}
    (hf1 : (f e0).key = e0.key) (hf2 : (f e0).val = v) (hf3 : (f e0).born = e0.born) (hw : w1.heap[m]? = some (.map (es.modify j f) cl)) : ∃ L', MapL P k w1 m L' ∧ Put L e0.key v L' := by
  obtain ⟨⟨es', cl', h1, h2, h4, h5⟩, h3, h6⟩ := h
  rw [hb] at h1
  cases h1
  have hkeys : (es.toList.map (·.key)).Nodup := by
    rw [← h2, List.map_map] at h6
    exact h6
  refine ⟨(es.modify j f).toList.map (fun e => (e.key, e.val)), ⟨⟨es.modify j f, cl, hw, rfl, ?_, fun e he => ?_⟩, fun p hp => ?_, ?_⟩, fun p => ?_, .inl ⟨⟨e0.val, ?_⟩, ?_⟩⟩
  · have hb' : (es.modify j f).toList.map (·.born) = es.toList.map (·.born) := map_modify f (·.born) (fun e he => by rw [hj] at he; cases he; exact hf3)
    have hn : (es.toList.map (·.born)).Nodup := by rw [List.nodup_iff_pairwise_ne, List.pairwise_map]; exact h4
    rw [← hb', List.nodup_iff_pairwise_ne, List.pairwise_map] at hn
    exact hn
  · rcases (mem_modify hj f e).1 he with rfl | ⟨i, _, hi⟩
    · rw [hf3]; exact h5 e0 (by simpa using Array.mem_of_getElem? hj)
    · exact h5 e (by simpa using Array.mem_of_getElem? hi)
  · obtain ⟨e, he, rfl⟩ := List.mem_map.1 hp
    rcases (mem_modify hj f e).1 he with rfl | ⟨i, _, hi⟩
    · rw [hf1]; exact h3 (e0.key, e0.val) (by rw [← h2]; exact List.mem_map.2 ⟨e0, by simpa using Array.mem_of_getElem? hj, rfl⟩)
    · exact h3 (e.key, e.val) (by rw [← h2]; exact List.mem_map.2 ⟨e, by simpa using Array.mem_of_getElem? hi, rfl⟩)
  · rw [List.map_map]
    have : (es.modify j f).toList.map (Prod.fst ∘ fun e => (e.key, e.val)) = es.toList.map (·.key) := map_modify f _ (fun e he => by rw [hj] at he; cases he; exact hf1)
    rw [this]
    exact hkeys
  · constructor
    · intro hp
      obtain ⟨e, he, rfl⟩ := List.mem_map.1 hp
      rcases (mem_modify hj f e).1 he with rfl | ⟨i, hi, hie⟩
      · exact .inl (by rw [hf1, hf2])
      · refine .inr ⟨by rw [← h2]; exact List.mem_map.2 ⟨e, by simpa using Array.mem_of_getElem? hie, rfl⟩, fun hk => hi (nodup_at hkeys hie hj hk)⟩
    · rintro (rfl | ⟨hp, hne⟩)
      · exact List.mem_map.2 ⟨f e0, (mem_modify hj f _).2 (.inl rfl), by rw [hf1, hf2]⟩
      · rw [← h2] at hp
        obtain ⟨e, he, rfl⟩ := List.mem_map.1 hp
        obtain ⟨i, hi⟩ := List.mem_iff_getElem?.1 he
        rw [Array.getElem?_toList] at hi
        exact List.mem_map.2 ⟨e, (mem_modify hj f e).2 (.inr ⟨i, fun hij => hne (by subst hij; rw [hj] at hi; cases hi; rfl), hi⟩), rfl⟩
  · rw [← h2]; exact List.mem_map.2 ⟨e0, by simpa using Array.mem_of_getElem? hj, rfl⟩
  · rw [← h2]; simp
/-- A new entry. -/
theorem MapL.push (h : MapL P k w m L) {es : Array MapEntry} {cl : Nat} (hb : w.heap[m]? = some (.map es cl)) {x v : Value} {l : Lit} (hx : keyOf P k x = some l) (hno : ∀ p ∈ L, p.1 ≠ x)
    (hw : w1.heap[m]? = some (.map (es.push { key := x, val := v, born := cl }) (cl + 1))) : ∃ L', MapL P k w1 m L' ∧ Put L x v L' := by
  obtain ⟨⟨es', cl', h1, h2, h4, h5⟩, h3, h6⟩ := h
  rw [hb] at h1
  cases h1
  refine ⟨L ++ [(x, v)], ⟨⟨_, _, hw, by simp [h2], ?_, fun e he => ?_⟩, fun p hp => ?_, ?_⟩, fun p => ?_, .inr ⟨hno, by simp⟩⟩
  · simp only [Array.toList_push]
    rw [List.pairwise_append]
    exact ⟨h4, List.pairwise_singleton .., fun a ha b hb' => by
      obtain rfl := List.mem_singleton.1 hb'
      have := h5 a ha
      simp only
      omega⟩
  · simp only [Array.toList_push] at he
    rcases List.mem_append.1 he with he | he
    · have := h5 e he; omega
    · obtain rfl := List.mem_singleton.1 he
      simp only
      omega
  · rcases List.mem_append.1 hp with hp | hp
    · exact h3 p hp
    · obtain rfl := List.mem_singleton.1 hp
      exact ⟨l, hx⟩
  · rw [List.map_append, List.nodup_append]
    refine ⟨h6, by simp, fun a ha b hb' => ?_⟩
    simp at hb'
    obtain ⟨p, hp, rfl⟩ := List.mem_map.1 ha
    rw [hb']
    exact hno p hp
  · constructor
    · intro hp
      rcases List.mem_append.1 hp with hp | hp
      · exact .inr ⟨hp, hno p hp⟩
      · exact .inl (List.mem_singleton.1 hp)
    · rintro (rfl | ⟨hp, _⟩)
      · simp
      · exact List.mem_append_left _ hp

/-- m[x] = v -/
theorem MapL.update (h : MapL P k w m L) (K : Keyed P k) {t E : TypeId} (ht : P.underlying t = some (.map k E)) {x : Value} {l : Lit} (hx : keyOf P k x = some l) (v : Value) :
    ∃ w' L', (Instr.mapUpdate t (.map (some m)) x v).run P w = .ok () w' ∧ MapL P k w' m L' ∧ Put L x v L' ∧ w.grownBy w' (some m) ∧ w'.heap.size = w.heap.size := by
  obtain ⟨es, cl, hb, _⟩ := h.ex
  have hg : (getObj m).run P w = .ok (.map es cl) w := by simp [getObj, Sem.run, hb]
  rcases h.find K hx hb w with ⟨hr, hno⟩ | ⟨j, e, hr, hj, he, hm⟩
  · obtain ⟨L', h1, h2⟩ := h.push (w1 := { w with heap := w.heap.setIfInBounds m (.map (es.push { key := x, val := v, born := cl }) (cl + 1)) }) hb hx hno (setObj_heap h.lt)
    refine ⟨_, L', ?_, h1, h2, setObj_grown _, by simp⟩
    simp only [Instr.mapUpdate, Sem.run_bind, run_underlying ht, Result.andThen_ok, hg, K.check w false hx, hr, setObj_run hb]
  · subst he
    obtain ⟨L', h1, h2⟩ := h.modify (w1 := { w with heap := w.heap.setIfInBounds m (.map (es.modify j fun e' => { e' with key := e.key, val := v }) cl) }) hb hj v (f := fun e' => { e' with key := e.key, val := v }) rfl rfl rfl (setObj_heap h.lt)
    refine ⟨_, L', ?_, h1, h2, setObj_grown _, by simp⟩
    simp only [Instr.mapUpdate, Sem.run_bind, run_underlying ht, Result.andThen_ok, hg, K.check w false hx, hr, hj, Option.map_some, Option.getD_some, K.stays w hx, setObj_run hb]

/-- m[x] = .. m[x] ..: the entry is found, or made with its type's zero; then it is written. -/
theorem MapL.entry (h : MapL P k w m L) (K : Keyed P k) {t E : TypeId} (ht : P.underlying t = some (.map k E)) {x z : Value} {l : Lit} (hx : keyOf P k x = some l) (hz : (zeroValue E).run P w = .ok z w) :
    ∃ w' v n, (Instr.mapEntry t (.map (some m)) x).run P w = .ok (.tuple #[v, .int .i64 n]) w' ∧ ((x, v) ∈ L ∨ (∀ p ∈ L, p.1 ≠ x) ∧ v = z) ∧ w.grownBy w' (some m) ∧ w'.heap.size = w.heap.size ∧ (∃ L1, MapL P k w' m L1) ∧
      ∀ (w2 : World) (u : Value), w2.heap[m]? = w'.heap[m]? →
        ∃ w3 L', (Instr.entryStore t (.map (some m)) (.int .i64 n) u).run P w2 = .ok () w3 ∧ MapL P k w3 m L' ∧ Put L x u L' ∧ w2.grownBy w3 (some m) ∧ w3.heap.size = w2.heap.size := by
  obtain ⟨es, cl, hb, _, hborn, hcl⟩ := h.ex
  have hg : (getObj m).run P w = .ok (.map es cl) w := by simp [getObj, Sem.run, hb]
  -- the second half, at whatever entries in which one bears the stamp
  have back : ∀ (es2 : Array MapEntry) (cl2 j : Nat) (e0 : MapEntry) (w2 : World) (u : Value), w2.heap[m]? = some (.map es2 cl2) → es2[j]? = some e0 → es2.toList.Pairwise (fun a b => a.born ≠ b.born) →
      (Instr.entryStore t (.map (some m)) (.int .i64 (e0.born : Int)) u).run P w2 = .ok () { w2 with heap := w2.heap.setIfInBounds m (.map (es2.modify j fun e => { e with val := u }) cl2) } := by
    intro es2 cl2 j e0 w2 u hw2 hj2 hn2
    have hg2 : (getObj m).run P w2 = .ok (.map es2 cl2) w2 := by simp [getObj, Sem.run, hw2]
    have hlt2 : j < es2.size := (Array.getElem?_eq_some_iff.1 hj2).1
    have hfi : es2.findIdx? (fun e => (e.born : Int) == (e0.born : Int)) = some j := by
      rw [Array.findIdx?_eq_some_iff_getElem]
      refine ⟨hlt2, ?_, fun i hi => ?_⟩
      · have : es2[j] = e0 := by
          have := Array.getElem?_eq_getElem hlt2
          rw [hj2] at this
          exact (Option.some.inj this).symm
        simp [this]
      · have hne : es2[i].born ≠ e0.born := fun he => by
          have := born_at hn2 (Array.getElem?_eq_getElem (by omega : i < es2.size)) hj2 he
          omega
        simp
        omega
    simp only [Instr.entryStore, Sem.run_bind, hg2, Result.andThen_ok, asInt, asIntOf, Sem.run_pure, hfi, setObj_run hw2]
  rcases h.find K hx hb w with ⟨hr, hno⟩ | ⟨j, e, hr, hj, he, hm⟩
  · let w' : World := { w with heap := w.heap.setIfInBounds m (.map (es.push { key := x, val := z, born := cl }) (cl + 1)) }
    have hw' : w'.heap[m]? = some (.map (es.push { key := x, val := z, born := cl }) (cl + 1)) := setObj_heap h.lt
    obtain ⟨L1, h1, h2⟩ := h.push (w1 := w') hb hx hno hw'
    refine ⟨w', z, (cl : Int), ?_, .inr ⟨hno, rfl⟩, setObj_grown _, by simp [w'], ⟨L1, h1⟩, fun w2 u hw2 => ?_⟩
    · simp only [Instr.mapEntry, Sem.run_bind, run_underlying ht, Result.andThen_ok, hg, K.check w false hx, hr, hz, setObj_run hb, Sem.run_pure, goInt]
      rfl
    · have hj' : (es.push { key := x, val := z, born := cl })[es.size]? = some { key := x, val := z, born := cl } := by simp
      obtain ⟨⟨es1, cl1, hw1, _, hb1, _⟩, _⟩ := id h1
      rw [hw'] at hw1
      cases hw1
      have hr2 := back _ _ _ _ w2 u (hw2.trans hw') hj' hb1
      have hlt2 : m < w2.heap.size := (Array.getElem?_eq_some_iff.1 (hw2.trans hw')).1
      obtain ⟨L2, h3, h4⟩ := (h1.keep hw2).modify (w1 := { w2 with heap := w2.heap.setIfInBounds m (.map ((es.push { key := x, val := z, born := cl }).modify es.size fun e => { e with val := u }) (cl + 1)) }) (hw2.trans hw') hj' u (f := fun e => { e with val := u }) rfl rfl rfl (setObj_heap hlt2)
      refine ⟨_, L2, hr2, h3, ⟨fun p => ?_, ?_⟩, setObj_grown _, by simp⟩
      · rw [h4.mem p]
        constructor
        · rintro (rfl | ⟨hp, hne⟩)
          · exact .inl rfl
          · rcases (h2.mem p).1 hp with rfl | hp
            · exact absurd rfl hne
            · exact .inr hp
        · rintro (rfl | ⟨hp, hne⟩)
          · exact .inl rfl
          · exact .inr ⟨(h2.mem p).2 (.inr ⟨hp, hne⟩), hne⟩
      · refine .inr ⟨hno, ?_⟩
        rcases h2.len with ⟨⟨u', hu'⟩, _⟩ | ⟨_, hl⟩
        · exact absurd rfl (hno _ hu')
        · rcases h4.len with ⟨_, hl'⟩ | ⟨hno', _⟩
          · omega
          · exact absurd rfl (hno' (x, z) ((h2.mem _).2 (.inl rfl)))
  · subst he
    let w' : World := { w with heap := w.heap.setIfInBounds m (.map (es.modify j fun e' => { e' with key := e.key }) cl) }
    have hlt : j < es.size := (Array.getElem?_eq_some_iff.1 hj).1
    have hsame : es.modify j (fun e' => { e' with key := e.key }) = es := by
      apply Array.ext_getElem?
      intro i
      rw [Array.getElem?_modify]
      split
      · rename_i hi
        subst hi
        rw [hj]
        rfl
      · rfl
    have hw' : w'.heap[m]? = some (.map es cl) := by
      have := setObj_heap (w := w) (m := m) (o := .map (es.modify j fun e' => { e' with key := e.key }) cl) h.lt
      rw [hsame] at this
      simpa [w', hsame] using this
    refine ⟨w', e.val, (e.born : Int), ?_, .inl hm, setObj_grown _, by simp [w'], ⟨L, h.keep (hw'.trans hb.symm)⟩, fun w2 u hw2 => ?_⟩
    · simp only [Instr.mapEntry, Sem.run_bind, run_underlying ht, Result.andThen_ok, hg, K.check w false hx, hr, hj, Option.map_some, Option.getD_some, K.stays w hx, setObj_run hb, Sem.run_pure, goInt]
      rfl
    · have hr2 := back es cl j e w2 u (hw2.trans hw') hj hborn
      have hlt2 : m < w2.heap.size := (Array.getElem?_eq_some_iff.1 (hw2.trans hw')).1
      obtain ⟨L2, h3, h4⟩ := (h.keep ((hw2.trans hw').trans hb.symm)).modify (w1 := { w2 with heap := w2.heap.setIfInBounds m (.map (es.modify j fun e => { e with val := u }) cl) }) (hw2.trans hw') hj u (f := fun e => { e with val := u }) rfl rfl rfl (setObj_heap hlt2)
      exact ⟨_, L2, hr2, h3, h4, setObj_grown _, by simp⟩
end
end Go.Proofs.Yticnncgbfpgeaaa
