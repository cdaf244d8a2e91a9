/- Maps as lists of keys and values: what a look-up, a store, a deletion come to. -/
import Derived.Test.YtkdcnhnaiknaaaaGreatNB02
import Derived.Maps.Keyed
import Derived.Maps.OwnOps
import Derived.Test.YtkdcnhnaiknaaaaGreatNB04
import Derived.Test.YtkdcnhnaiknaaaaGreatNB08
import Derived.Test.YtkdcnhnaiknaaaaGreatNB01
import Derived.Test.YtkdcnhnaiknaaaaGreatNB05
import Derived.Test.YtkdcnhnaiknaaaaGreatShelf
import Derived.Deep.CutRange
import Derived.Deep.DeepCutAuto
import Derived.Deep.RegionHeld3
import Derived.Deep.QuietTactic
import Derived.BigQuiet
import Derived.IntWalk
set_option linter.unusedSimpArgs false
set_option linter.unusedVariables false
namespace Go.Proofs.YtkdcnhnaiknaaaaGreat
open Go.RowKit Go.Maps
open Go

/-- Block m is a map with the entries L, each key once. -/
structure MapL (P : Program) (k : TypeId) (w : World) (m : Nat) (L : List (Value × Value)) : Prop where
  ex : ∃ es clock, w.heap[m]? = some (.map es clock) ∧ es.toList.map (fun e => (e.key, e.val)) = L ∧ es.toList.Pairwise (fun a b => a.born ≠ b.born) ∧ ∀ e ∈ es.toList, e.born < clock
  keys : ∀ p ∈ L, ∃ l, keyOf P k p.1 = some l
  nodup : (L.map Prod.fst).Nodup

section
variable {P : Program} {k : TypeId} {w w1 : World} {m : Nat} {L : List (Value × Value)}
theorem MapL.keep (h : MapL P k w m L) (hb : w1.heap[m]? = w.heap[m]?) : MapL P k w1 m L := by
  obtain ⟨⟨es, cl, h1, h2⟩, h3, h4⟩ := h
  exact ⟨⟨es, cl, hb.trans h1, h2⟩, h3, h4⟩
theorem MapL.lt (h : MapL P k w m L) : m < w.heap.size := by
  obtain ⟨⟨es, cl, h1, _⟩, _⟩ := h
  exact (Array.getElem?_eq_some_iff.1 h1).1
theorem MapL.ext (h : MapL P k w m L) (he : Ext w w1) : MapL P k w1 m L := h.keep (Below.block he m h.lt)
theorem MapL.grown {row : Option Nat} (h : MapL P k w m L) (hg : w.grownBy w1 row) (hne : row ≠ some m) : MapL P k w1 m L := h.keep (hg.block m h.lt (fun e => hne e.symm))
theorem MapL.drew (h : MapL P k w m L) : MapL P k w.drew m L := h.keep rfl
theorem MapL.alloc (h : MapL P k w m L) (o : Obj) : MapL P k (w.alloc o) m L := h.keep (Below.heap_alloc w o m h.lt)
theorem MapL.set_ (h : MapL P k w m L) {a : Addr} (v : Value) (hne : m ≠ a.block) : MapL P k (w.setCell a v) m L := h.keep (Below.heap_setCell w a v m hne)
theorem MapL.made (w : World) : MapL P k (w.alloc (.map #[] 0)) w.heap.size [] :=
  ⟨⟨#[], 0, heap_alloc_new w _, rfl, List.Pairwise.nil, by simp⟩, by simp, by simp⟩
theorem MapL.unique {x u v : Value} (h : MapL P k w m L) (hu : (x, u) ∈ L) (hv : (x, v) ∈ L) : u = v := by
  have hn := h.nodup
  clear h
  induction L with
  | nil => cases hu
  | cons p L ih =>
    simp only [List.map_cons, List.nodup_cons] at hn
    rcases List.mem_cons.1 hu with h1 | h1 <;> rcases List.mem_cons.1 hv with h2 | h2
    · rw [← h1] at h2; exact (Prod.mk.inj h2).2.symm
    · exfalso; apply hn.1; rw [← h1]; exact List.mem_map.2 ⟨_, h2, rfl⟩
    · exfalso; apply hn.1; rw [← h2]; exact List.mem_map.2 ⟨_, h1, rfl⟩
    · exact ih h1 h2 hn.2

/-- Where a key lies. -/
theorem MapL.find (h : MapL P k w m L) (K : Keyed P k) {x : Value} {l : Lit} (hx : keyOf P k x = some l) {es : Array MapEntry} {cl : Nat} (hb : w.heap[m]? = some (.map es cl)) (W : World) :
    ((Instr.findKey k x es.toList).run P W = .ok none W ∧ ∀ p ∈ L, p.1 ≠ x) ∨
    ∃ j e, (Instr.findKey k x es.toList).run P W = .ok (some (j, e.val)) W ∧ es[j]? = some e ∧ e.key = x ∧ (x, e.val) ∈ L := by
  obtain ⟨⟨es', cl', h1, h2, _⟩, h3, _⟩ := h
  rw [hb] at h1
  cases h1
  have hk : ∀ e ∈ es.toList, ∃ l, keyOf P k e.key = some l := fun e he => h3 (e.key, e.val) (by rw [← h2]; exact List.mem_map.2 ⟨e, he, rfl⟩)
  rcases K.find W hx es.toList hk with ⟨hr, hno⟩ | ⟨j, e, hr, hj, he⟩
  · refine .inl ⟨hr, fun p hp => ?_⟩
    rw [← h2] at hp
    obtain ⟨e, he, rfl⟩ := List.mem_map.1 hp
    exact hno e he
  · refine .inr ⟨j, e, hr, by simpa using hj, he, ?_⟩
    rw [← h2]
    exact List.mem_map.2 ⟨e, List.mem_of_getElem? hj, by rw [he]⟩

theorem MapL.look (h : MapL P k w m L) (K : Keyed P k) {t E : TypeId} (ht : P.underlying t = some (.map k E)) {x z : Value} {l : Lit} (hx : keyOf P k x = some l) (hz : (zeroValue E).run P w = .ok z w) (ok : Bool) :
    (∃ v, (x, v) ∈ L ∧ (Instr.lookup t (.map (some m)) x ok).run P w = .ok (if ok then .tuple #[v, .bool true] else v) w) ∨
    ((∀ p ∈ L, p.1 ≠ x) ∧ (Instr.lookup t (.map (some m)) x ok).run P w = .ok (if ok then .tuple #[z, .bool false] else z) w) := by
  obtain ⟨es, cl, hb, _⟩ := h.ex
  have hg : (getObj m).run P w = .ok (.map es cl) w := by simp [getObj, Sem.run, hb]
  rcases h.find K hx hb w with ⟨hr, hno⟩ | ⟨j, e, hr, hj, he, hm⟩
  · refine .inr ⟨hno, ?_⟩
    simp only [Instr.lookup, Sem.run_bind, run_underlying ht, Result.andThen_ok, hg, Sem.run_pure, K.check w es.isEmpty hx, hr, hz]
  · refine .inl ⟨e.val, hm, ?_⟩
    simp only [Instr.lookup, Sem.run_bind, run_underlying ht, Result.andThen_ok, hg, Sem.run_pure, K.check w es.isEmpty hx, hr]

/-- L' is L with v at x. -/
structure Put (L : List (Value × Value)) (x v : Value) (L' : List (Value × Value)) : Prop where
  mem : ∀ p, p ∈ L' ↔ p = (x, v) ∨ (p ∈ L ∧ p.1 ≠ x)
  len : (∃ u, (x, u) ∈ L) ∧ L'.length = L.length ∨ (∀ p ∈ L, p.1 ≠ x) ∧ L'.length = L.length + 1

theorem setObj_run {es : Array MapEntry} {cl : Nat} (hb : w.heap[m]? = some (.map es cl)) (o : Obj) : (setObj m o).run P w = .ok () { w with heap := w.heap.setIfInBounds m o } := by
  simp [setObj, Sem.run, hb]
theorem setObj_heap {o : Obj} (hlt : m < w.heap.size) : ({ w with heap := w.heap.setIfInBounds m o } : World).heap[m]? = some o := by
  simp [hlt]
theorem setObj_grown (o : Obj) : w.grownBy { w with heap := w.heap.setIfInBounds m o } (some m) :=
  ⟨rfl, rfl, rfl, by simp, fun i _ hi => by
    have : m ≠ i := fun e => hi (by rw [e])
    simp [Array.getElem?_setIfInBounds_ne this]⟩

theorem mem_modify {es : Array MapEntry} {j : Nat} {e0 : MapEntry} (hj : es[j]? = some e0) (f : MapEntry → MapEntry) (e : MapEntry) :
    e ∈ (es.modify j f).toList ↔ e = f e0 ∨ ∃ i, i ≠ j ∧ es[i]? = some e := by
  have hlt : j < es.size := (Array.getElem?_eq_some_iff.1 hj).1
  constructor
  · intro h
    obtain ⟨i, hi⟩ := List.mem_iff_getElem?.1 h
    rw [Array.getElem?_toList, Array.getElem?_modify] at hi
    split at hi
    · rename_i he
      subst he
      rw [hj] at hi
      exact .inl (Option.some.inj hi).symm
    · rename_i he
      exact .inr ⟨i, fun h => he h.symm, hi⟩
  · rintro (rfl | ⟨i, hi, he⟩)
    · refine List.mem_iff_getElem?.2 ⟨j, ?_⟩
      rw [Array.getElem?_toList, Array.getElem?_modify, if_pos rfl, hj]
      rfl
    · refine List.mem_iff_getElem?.2 ⟨i, ?_⟩
      rw [Array.getElem?_toList, Array.getElem?_modify, if_neg (fun h => hi h.symm)]
      exact he
theorem map_modify {es : Array MapEntry} {j : Nat} {β : Type} (f : MapEntry → MapEntry) (g : MapEntry → β) (hg : ∀ e, es[j]? = some e → g (f e) = g e) : (es.modify j f).toList.map g = es.toList.map g := by
  refine List.ext_getElem? fun i => ?_
  rw [List.getElem?_map, List.getElem?_map, Array.getElem?_toList, Array.getElem?_toList, Array.getElem?_modify]
  split
  · rename_i h
    subst h
    cases he : es[j]? with
    | none => rfl
    | some e => simp [hg e he]
  · rfl
theorem nodup_at {es : Array MapEntry} (hn : (es.toList.map (·.key)).Nodup) {i j : Nat} {a b : MapEntry} (hi : es[i]? = some a) (hj : es[j]? = some b) (hk : a.key = b.key) : i = j := by
  have h1 : (es.toList.map (·.key))[i]? = some a.key := by simp [hi]
  have h2 : (es.toList.map (·.key))[j]? = some b.key := by simp [hj]
  have hlt : i < (es.toList.map (·.key)).length := (List.getElem?_eq_some_iff.1 h1).1
  exact (List.getElem?_inj hlt hn).1 (by rw [h1, h2, hk])
theorem born_at {es : Array MapEntry} (hn : es.toList.Pairwise (fun a b => a.born ≠ b.born)) {i j : Nat} {a b : MapEntry} (hi : es[i]? = some a) (hj : es[j]? = some b) (hk : a.born = b.born) : i = j := by
  have hn' : (es.toList.map (·.born)).Nodup := by rw [List.nodup_iff_pairwise_ne, List.pairwise_map]; exact hn
  have h1 : (es.toList.map (·.born))[i]? = some a.born := by simp [hi]
  have h2 : (es.toList.map (·.born))[j]? = some b.born := by simp [hj]
  have hlt : i < (es.toList.map (·.born)).length := (List.getElem?_eq_some_iff.1 h1).1
  exact (List.getElem?_inj hlt hn').1 (by rw [h1, h2, hk])

/-- Entry j, whose key is x, gets the value v: the block's new entries. -/
theorem MapL.modify (h : MapL P k w m L) {es : Array MapEntry} {cl : Nat} (hb : w.heap[m]? = some (.map es cl)) {j : Nat} {e0 : MapEntry} (hj : es[j]? = some e0) (v : Value) {f : MapEntry → MapEntry}
    (hf1 : (f e0).key = e0.key) (hf2 : (f e0).val = v) (hf3 : (f e0).born = e0.born) (hw : w1.heap[m]? = some (.map (es.modify j f) cl)) : ∃ L', MapL P k w1 m L' ∧ Put L e0.key v L' := by
  obtain ⟨⟨es', cl', h1, h2, h4, h5⟩, h3, h6⟩ := h
  rw [hb] at h1
  cases h1
  have hkeys : (es.toList.map (·.key)).Nodup := by
    rw [← h2, List.map_map] at h6
    exact h6
  refine ⟨(es.modify j f).toList.map (fun e => (e.key, e.val)), ⟨⟨es.modify j f, cl, hw, rfl, ?_, fun e he => ?_⟩, fun p hp => ?_, ?_⟩, fun p => ?_, .inl ⟨⟨e0.val, ?_⟩, ?_⟩⟩
  · have hb' : (es.modify j f).toList.map (·.born) = es.toList.map (·.born) := map_modify f (·.born) (fun e he => by rw [hj] at he; cases he; exact hf3)
    have hn : (es.toList.map (·.born)).Nodup := by rw [List.nodup_iff_pairwise_ne, List.pairwise_map]; exact h4
    rw [← hb', List.nodup_iff_pairwise_ne, List.pairwise_map] at hn
    exact hn
  · rcases (mem_modify hj f e).1 he with rfl | ⟨i, _, hi⟩
    · rw [hf3]; exact h5 e0 (by simpa using Array.mem_of_getElem? hj)
    · exact h5 e (by simpa using Array.mem_of_getElem? hi)
  · obtain ⟨e, he, rfl⟩ := List.mem_map.1 hp
    rcases (mem_modify hj f e).1 he with rfl | ⟨i, _, hi⟩
    · rw [hf1]; exact h3 (e0.key, e0.val) (by rw [← h2]; exact List.mem_map.2 ⟨e0, by simpa using Array.mem_of_getElem? hj, rfl⟩)
    · exact h3 (e.key, e.val) (by rw [← h2]; exact List.mem_map.2 ⟨e, by simpa using Array.mem_of_getElem? hi, rfl⟩)
  · rw [List.map_map]
    have : (es.modify j f).toList.map (Prod.fst ∘ fun e => (e.key, e.val)) = es.toList.map (·.key) := map_modify f _ (fun e he => by rw [hj] at he; cases he; exact hf1)
    rw [this]
    exact hkeys
  · constructor
    · intro hp
      obtain ⟨e, he, rfl⟩ := List.mem_map.1 hp
      rcases (mem_modify hj f e).1 he with rfl | ⟨i, hi, hie⟩
      · exact .inl (by rw [hf1, hf2])
      · refine .inr ⟨by rw [← h2]; exact List.mem_map.2 ⟨e, by simpa using Array.mem_of_getElem? hie, rfl⟩, fun hk => hi (nodup_at hkeys hie hj hk)⟩
    · rintro (rfl | ⟨hp, hne⟩)
      · exact List.mem_map.2 ⟨f e0, (mem_modify hj f _).2 (.inl rfl), by rw [hf1, hf2]⟩
      · rw [← h2] at hp
        obtain ⟨e, he, rfl⟩ := List.mem_map.1 hp
        obtain ⟨i, hi⟩ := List.mem_iff_getElem?.1 he
        rw [Array.getElem?_toList] at hi
        exact List.mem_map.2 ⟨e, (mem_modify hj f e).2 (.inr ⟨i, fun hij => hne (by subst hij; rw [hj] at hi; cases hi; rfl), hi⟩), rfl⟩
  · rw [← h2]; exact List.mem_map.2 ⟨e0, by simpa using Array.mem_of_getElem? hj, rfl⟩
  · rw [← h2]; simp
/-- A new entry. -/
theorem MapL.push (h : MapL P k w m L) {es : Array MapEntry} {cl : Nat} (hb : w.heap[m]? = some (.map es cl)) {x v : Value} {l : Lit} (hx : keyOf P k x = some l) (hno : ∀ p ∈ L, p.1 ≠ x)
    (hw : w1.heap[m]? = some (.map (es.push { key := x, val := v, born := cl }) (cl + 1))) : ∃ L', MapL P k w1 m L' ∧ Put L x v L' := by
  obtain ⟨⟨es', cl', h1, h2, h4, h5⟩, h3, h6⟩ := h
  rw [hb] at h1
  cases h1
  refine ⟨L ++ [(x, v)], ⟨⟨_, _, hw, by simp [h2], ?_, fun e he => ?_⟩, fun p hp => ?_, ?_⟩, fun p => ?_, .inr ⟨hno, by simp⟩⟩
  · simp only [Array.toList_push]
    rw [List.pairwise_append]
    exact ⟨h4, List.pairwise_singleton .., fun a ha b hb' => by
      obtain rfl := List.mem_singleton.1 hb'
      have := h5 a ha
      simp only
      omega⟩
  · simp only [Array.toList_push] at he
    rcases List.mem_append.1 he with he | he
    · have := h5 e he; omega
    · obtain rfl := List.mem_singleton.1 he
      simp only
      omega
  · rcases List.mem_append.1 hp with hp | hp
    · exact h3 p hp
    · obtain rfl := List.mem_singleton.1 hp
      exact ⟨l, hx⟩
  · rw [List.map_append, List.nodup_append]
    refine ⟨h6, by simp, fun a ha b hb' => ?_⟩
    simp at hb'
    obtain ⟨p, hp, rfl⟩ := List.mem_map.1 ha
    rw [hb']
    exact hno p hp
  · constructor
    · intro hp
      rcases List.mem_append.1 hp with hp | hp
      · exact .inr ⟨hp, hno p hp⟩
      · exact .inl (List.mem_singleton.1 hp)
    · rintro (rfl | ⟨hp, _⟩)
      · simp
      · exact List.mem_append_left _ hp

/-- m[x] = v -/
theorem MapL.update (h : MapL P k w m L) (K : Keyed P k) {t E : TypeId} (ht : P.underlying t = some (.map k E)) {x : Value} {l : Lit} (hx : keyOf P k x = some l) (v : Value) :
    ∃ w' L', (Instr.mapUpdate t (.map (some m)) x v).run P w = .ok () w' ∧ MapL P k w' m L' ∧ Put L x v L' ∧ w.grownBy w' (some m) ∧ w'.heap.size = w.heap.size := by
  obtain ⟨es, cl, hb, _⟩ := h.ex
  have hg : (getObj m).run P w = .ok (.map es cl) w := by simp [getObj, Sem.run, hb]
  rcases h.find K hx hb w with ⟨hr, hno⟩ | ⟨j, e, hr, hj, he, hm⟩
  · obtain ⟨L', h1, h2⟩ := h.push (w1 := { w with heap := w.heap.setIfInBounds m (.map (es.push { key := x, val := v, born := cl }) (cl + 1)) }) hb hx hno (setObj_heap h.lt)
    refine ⟨_, L', ?_, h1, h2, setObj_grown _, by simp⟩
    simp only [Instr.mapUpdate, Sem.run_bind, run_underlying ht, Result.andThen_ok, hg, K.check w false hx, hr, setObj_run hb]
  · subst he
    obtain ⟨L', h1, h2⟩ := h.modify (w1 := { w with heap := w.heap.setIfInBounds m (.map (es.modify j fun e' => { e' with key := e.key, val := v }) cl) }) hb hj v (f := fun e' => { e' with key := e.key, val := v }) rfl rfl rfl (setObj_heap h.lt)
    refine ⟨_, L', ?_, h1, h2, setObj_grown _, by simp⟩
    simp only [Instr.mapUpdate, Sem.run_bind, run_underlying ht, Result.andThen_ok, hg, K.check w false hx, hr, hj, Option.map_some, Option.getD_some, K.stays w hx, setObj_run hb]

/-- m[x] = .. m[x] ..: the entry is found, or made with its type's zero; then it is written. -/
theorem MapL.entry (h : MapL P k w m L) (K : Keyed P k) {t E : TypeId} (ht : P.underlying t = some (.map k E)) {x z : Value} {l : Lit} (hx : keyOf P k x = some l) (hz : (zeroValue E).run P w = .ok z w) :
    ∃ w' v n, (Instr.mapEntry t (.map (some m)) x).run P w = .ok (.tuple #[v, .int .i64 n]) w' ∧ ((x, v) ∈ L ∨ (∀ p ∈ L, p.1 ≠ x) ∧ v = z) ∧ w.grownBy w' (some m) ∧ w'.heap.size = w.heap.size ∧ (∃ L1, MapL P k w' m L1) ∧
      ∀ (w2 : World) (u : Value), w2.heap[m]? = w'.heap[m]? →
        ∃ w3 L', (Instr.entryStore t (.map (some m)) (.int .i64 n) u).run P w2 = .ok () w3 ∧ MapL P k w3 m L' ∧ Put L x u L' ∧ w2.grownBy w3 (some m) ∧ w3.heap.size = w2.heap.size := by
  obtain ⟨es, cl, hb, _, hborn, hcl⟩ := h.ex
  have hg : (getObj m).run P w = .ok (.map es cl) w := by simp [getObj, Sem.run, hb]
  -- the second half, at whatever entries in which one bears the stamp
  have back : ∀ (es2 : Array MapEntry) (cl2 j : Nat) (e0 : MapEntry) (w2 : World) (u : Value), w2.heap[m]? = some (.map es2 cl2) → es2[j]? = some e0 → es2.toList.Pairwise (fun a b => a.born ≠ b.born) →
      (Instr.entryStore t (.map (some m)) (.int .i64 (e0.born : Int)) u).run P w2 = .ok () { w2 with heap := w2.heap.setIfInBounds m (.map (es2.modify j fun e => { e with val := u }) cl2) } := by
    intro es2 cl2 j e0 w2 u hw2 hj2 hn2
    have hg2 : (getObj m).run P w2 = .ok (.map es2 cl2) w2 := by simp [getObj, Sem.run, hw2]
    have hlt2 : j < es2.size := (Array.getElem?_eq_some_iff.1 hj2).1
    have hfi : es2.findIdx? (fun e => (e.born : Int) == (e0.born : Int)) = some j := by
      rw [Array.findIdx?_eq_some_iff_getElem]
      refine ⟨hlt2, ?_, fun i hi => ?_⟩
      · have : es2[j] = e0 := by
          have := Array.getElem?_eq_getElem hlt2
          rw [hj2] at this
          exact (Option.some.inj this).symm
        simp [this]
      · have hne : es2[i].born ≠ e0.born := fun he => by
          have := born_at hn2 (Array.getElem?_eq_getElem (by omega : i < es2.size)) hj2 he
          omega
        simp
        omega
    simp only [Instr.entryStore, Sem.run_bind, hg2, Result.andThen_ok, asInt, asIntOf, Sem.run_pure, hfi, setObj_run hw2]
  rcases h.find K hx hb w with ⟨hr, hno⟩ | ⟨j, e, hr, hj, he, hm⟩
  · let w' : World := { w with heap := w.heap.setIfInBounds m (.map (es.push { key := x, val := z, born := cl }) (cl + 1)) }
    have hw' : w'.heap[m]? = some (.map (es.push { key := x, val := z, born := cl }) (cl + 1)) := setObj_heap h.lt
    obtain ⟨L1, h1, h2⟩ := h.push (w1 := w') hb hx hno hw'
    refine ⟨w', z, (cl : Int), ?_, .inr ⟨hno, rfl⟩, setObj_grown _, by simp [w'], ⟨L1, h1⟩, fun w2 u hw2 => ?_⟩
    · simp only [Instr.mapEntry, Sem.run_bind, run_underlying ht, Result.andThen_ok, hg, K.check w false hx, hr, hz, setObj_run hb, Sem.run_pure, goInt]
      rfl
    · have hj' : (es.push { key := x, val := z, born := cl })[es.size]? = some { key := x, val := z, born := cl } := by simp
      obtain ⟨⟨es1, cl1, hw1, _, hb1, _⟩, _⟩ := id h1
      rw [hw'] at hw1
      cases hw1
      have hr2 := back _ _ _ _ w2 u (hw2.trans hw') hj' hb1
      have hlt2 : m < w2.heap.size := (Array.getElem?_eq_some_iff.1 (hw2.trans hw')).1
      obtain ⟨L2, h3, h4⟩ := (h1.keep hw2).modify (w1 := { w2 with heap := w2.heap.setIfInBounds m (.map ((es.push { key := x, val := z, born := cl }).modify es.size fun e => { e with val := u }) (cl + 1)) }) (hw2.trans hw') hj' u (f := fun e => { e with val := u }) rfl rfl rfl (setObj_heap hlt2)
      refine ⟨_, L2, hr2, h3, ⟨fun p => ?_, ?_⟩, setObj_grown _, by simp⟩
      · rw [h4.mem p]
        constructor
        · rintro (rfl | ⟨hp, hne⟩)
          · exact .inl rfl
          · rcases (h2.mem p).1 hp with rfl | hp
            · exact absurd rfl hne
            · exact .inr hp
        · rintro (rfl | ⟨hp, hne⟩)
          · exact .inl rfl
          · exact .inr ⟨(h2.mem p).2 (.inr ⟨hp, hne⟩), hne⟩
      · refine .inr ⟨hno, ?_⟩
        rcases h2.len with ⟨⟨u', hu'⟩, _⟩ | ⟨_, hl⟩
        · exact absurd rfl (hno _ hu')
        · rcases h4.len with ⟨_, hl'⟩ | ⟨hno', _⟩
          · omega
          · exact absurd rfl (hno' (x, z) ((h2.mem _).2 (.inl rfl)))
  · subst he
    let w' : World := { w with heap := w.heap.setIfInBounds m (.map (es.modify j fun e' => { e' with key := e.key }) cl) }
    have hlt : j < es.size := (Array.getElem?_eq_some_iff.1 hj).1
    have hsame : es.modify j (fun e' => { e' with key := e.key }) = es := by
      apply Array.ext_getElem?
      intro i
      rw [Array.getElem?_modify]
      split
      · rename_i hi
        subst hi
        rw [hj]
        rfl
      · rfl
    have hw' : w'.heap[m]? = some (.map es cl) := by
      have := setObj_heap (w := w) (m := m) (o := .map (es.modify j fun e' => { e' with key := e.key }) cl) h.lt
      rw [hsame] at this
      simpa [w', hsame] using this
    refine ⟨w', e.val, (e.born : Int), ?_, .inl hm, setObj_grown _, by simp [w'], ⟨L, h.keep (hw'.trans hb.symm)⟩, fun w2 u hw2 => ?_⟩
    · simp only [Instr.mapEntry, Sem.run_bind, run_underlying ht, Result.andThen_ok, hg, K.check w false hx, hr, hj, Option.map_some, Option.getD_some, K.stays w hx, setObj_run hb, Sem.run_pure, goInt]
      rfl
    · have hr2 := back es cl j e w2 u (hw2.trans hw') hj hborn
      have hlt2 : m < w2.heap.size := (Array.getElem?_eq_some_iff.1 (hw2.trans hw')).1
      obtain ⟨L2, h3, h4⟩ := (h.keep ((hw2.trans hw').trans hb.symm)).modify (w1 := { w2 with heap := w2.heap.setIfInBounds m (.map (es.modify j fun e => { e with val := u }) cl) }) (hw2.trans hw') hj u (f := fun e => { e with val := u }) rfl rfl rfl (setObj_heap hlt2)
      exact ⟨_, L2, hr2, h3, h4, setObj_grown _, by simp⟩
end
end Go.Proofs.YtkdcnhnaiknaaaaGreat

/- loggia/event: the iterator of fields with their bases. -/
namespace Go.Proofs.YtkdcnhnaiknaaaaGreat
open Go.RowKit
attribute [local go_sem] Oper.semAt_some wide_depth wide_fn

/-- What a round keeps: all rows but terms' and their variable, what lay ahead of block B. -/
def KpT (B : Nat) (W W' : World) : Prop := (∀ w0 : World, w0.heap.size ≤ B → Ext w0 W → Ext w0 W') ∧ ∀ g t cs, t ≠ 148 → t ≠ 150 → Row W g t cs → Row W' g t cs
theorem KpT.trans (B : Nat) (A C D : World) (h : KpT B A C) (k : KpT B C D) : KpT B A D := ⟨fun w0 h0 he => k.1 w0 h0 (h.1 w0 h0 he), fun g t cs h1 h2 hr => k.2 g t cs h1 h2 (h.2 g t cs h1 h2 hr)⟩
theorem KpT.alike {B X : Nat} (hX : B ≤ X) (A C : World) (h : Alike X A C) : KpT B A C := ⟨fun _ hs he => h.ext he (by omega), fun _ _ _ _ _ hr => h.row hr⟩
theorem KpT.ext {B : Nat} {A C : World} (h : Ext A C) : KpT B A C := ⟨fun _ _ he => he.trans h, fun _ _ _ _ _ hr => hr.ext h⟩
def fdV (f : Fd) : Value := .agg #[.string ⟨f.1.toArray⟩, .string ⟨f.2.toArray⟩]
def BsIter (fs : List Fd) (B b0 : Nat) (w : World) : Prop :=
  Iter Tryz.prog 175 #[.pointer (some ⟨b0, 0, none⟩)] (fun x : Nat × Fd => #[.int .i64 (x.1 : Int), fdV x.2]) Ext (fun pre x _ => fs[pre.length]? = some x.2 ∧ x.1 = baseT 0 (fs.take pre.length)) (KpT B) (fun xs A C => xs.length = fs.length ∧ Ext A C) w
set_option maxRecDepth 100000 in
theorem based_any (at_ : Int) (A : Option Addr) (n c : Nat) (w : World) :
    Calls Tryz.prog 134 #[.agg #[.int .i64 at_, .slice A n c]] w fun e w' => ∃ b0, e = .returned (.func (.func 175) #[] #[.pointer (some ⟨b0, 0, none⟩)]) ∧ Row w' b0 37 #[.int .i64 at_, .slice A n c] ∧ w.heap.size ≤ b0 ∧ Ext w w' := by
  go_enter Tryz.func134, Tryz.ntmps134
  go_wp2_with fail
  go_ret
  exact ⟨w.heap.size, rfl, Row.new w _ _, Nat.le_refl _, (Ext.refl w).alloc _⟩
set_option maxRecDepth 100000 in
set_option maxHeartbeats 4000000 in
theorem based_iter (at_ : Int) (fs : List Fd) (A : Option Addr) (n c b0 B : Nat) (w0 w : World) (hn : n = fs.length) (hc : Cells w0 A (fcells fs)) (hB : w0.heap.size ≤ B) (hw : Ext w0 w) (hn9 : n ≤ 1000) (hl9 : ∀ f ∈ fs, f.2.length ≤ 1000000)
    (hb0 : Row w b0 37 #[.int .i64 at_, .slice A n c]) : BsIter fs B b0 w := by
  intro l J W hE hst hY h0
  have htk := hide (fun l W h => tokens_any l W h)
  replace hb0 := hide (hb0.ext hE)
  replace hw := hide (hw.trans hE)
  clear hE
  replace hY := hide hY
  replace hst := hide hst
  replace h0 := hide h0
  replace hn := hide hn
  replace hc := hide hc
  replace hl9 := hide hl9
  refine (callsIn_wide (n := 0)).1 ?_
  refine callsIn_of_wp Tryz.func175 rfl trivial ?_
  simp only [Tryz.ntmps175, List.size_toArray, List.length_cons, List.length_nil, Nat.reduceAdd, Nat.reduceSub, Array.replicate_succ, Array.replicate_zero, List.push_toArray, List.append_toArray, List.nil_append, List.cons_append]
  have k0 := hb0.out.cell 0 rfl
  have k1 := hb0.out.cell 1 rfl
  gi_wp2_with fail
  gi_loopw [3, 9] (fun s3 s9 wr => ∃ (i bs : Nat) (pre : List (Nat × Fd)), s3 = .int .i64 (bs : Int) ∧ s9 = .int .i64 (i : Int) ∧ i ≤ n ∧ bs ≤ i * 1000100 ∧ Hid (pre.length = i) ∧ Hid (bs = baseT 0 (fs.take i)) ∧ Hid (J pre wr) ∧ Hid (Ext w0 wr)) (fun _ s9 _ => n - (intOf s9).toNat)
  case atStart => exact ⟨0, 0, [], rfl, rfl, by omega, by omega, hide rfl, hide rfl, h0, hw⟩
  case round =>
    obtain ⟨i, bs, pre, rfl, rfl, hi, hbs, hpl, hbe, hJ, hE⟩ := hrel
    by_cases hin : i < n
    · obtain ⟨f, hf⟩ : ∃ f, fs[i]? = some f := ⟨_, List.getElem?_eq_getElem (by rw [← hn.out]; exact hin)⟩
      obtain ⟨g, o, hA, x0, x1⟩ := fcells_at (hc.out.ext hE.out) hf
      subst hA
      have hf9 := hl9.out f (List.mem_of_getElem? hf)
      obtain ⟨W2, hW2⟩ : ∃ W2, W2 = wr.alloc (.cells #[.string ⟨f.1.toArray⟩, .string ⟨f.2.toArray⟩] 105) := ⟨_, rfl⟩
      have hE2 : Ext wr W2 := by rw [hW2]; exact (Ext.refl wr).alloc _
      have r2 : Row W2 wr.heap.size 105 #[.string ⟨f.1.toArray⟩, .string ⟨f.2.toArray⟩] := by rw [hW2]; exact Row.new wr _ _
      obtain ⟨gd, hgd⟩ : ∃ gd, gd = wr.heap.size := ⟨_, rfl⟩
      rw [← hgd] at r2
      have p0 := r2.cell 0 rfl
      have p1 := r2.cell 1 rfl
      have hyx := hY.out pre (bs, f) W2 (hst.out _ _ _ hJ.out hE2) ⟨by rw [hpl.out]; exact hf, by rw [hpl.out]; exact hbe.out⟩
      obtain ⟨fn, tmps, assign, body, hy, hRn⟩ := hyx
      simp only [fdV] at hy hRn
      have htl := tokL_len f.2
      have hbn : baseT 0 (fs.take (i + 1)) = bs + (64 + (tokL f.2).length) := by
        rw [List.take_add_one, hf, baseT_app, ← hbe.out]
        rfl
      obtain ⟨nm, tx⟩ := f
      simp only at x0 x1 hf9 hW2 r2 p0 p1 hy htl hbn
      unfold strV at x0 x1
      obtain ⟨nt, hnt⟩ : ∃ nt, nt = (tokL tx).length := ⟨_, rfl⟩
      rw [← hnt] at htl hbn
      rw [hW2] at hy
      replace hf := hide hf
      replace hW2 := hide hW2
      replace hgd := hide hgd
      replace r2 := hide r2
      replace hE2 := hide (hE.out.trans hE2)
      replace hnt := hide hnt
      replace hbn := hide hbn
      clear hY
      gi_wp2_with fail
      rw [← hW2.out, ← hgd.out]
      refine hRn.mono ?_
      rintro e W3 ⟨rfl, hJ3, hk3⟩
      have r3 := hk3.2 _ _ _ (by decide) (by decide) r2.out
      have q1 := r3.cell 1 rfl
      have hE3 := hide (hk3.1 w0 hB hE2.out)
      have hct := hide (htk.out tx W3 (by omega))
      replace hJ3 := hide hJ3
      gi_wp2_with fail
      refine (callsIn_wide.2 hct.out).mono ?_
      rintro e w4 hT
      obtain ⟨A4, c4, rfl, _, hE4⟩ := hT
      rw [← hnt.out]
      gi_wp2_with fail
      exact ⟨⟨i + 1, bs + (64 + nt), pre ++ [(bs, (nm, tx))], by first | rfl | (congr 1; omega), by go_num, by omega, by omega, hide (by rw [List.length_append, hpl.out]; rfl), hide hbn.out.symm, hide (hst.out _ _ _ hJ3.out hE4), hide (hE3.out.trans hE4)⟩, by simp only [intOf]; omega⟩
    · gi_wp2_with fail
      go_end0
      exact ⟨⟨_, rfl⟩, pre, _, hJ.out, by rw [hpl.out, ← hn.out]; omega, Ext.refl _⟩
end Go.Proofs.YtkdcnhnaiknaaaaGreat

/- A stable sort, plainly. -/
namespace Go.Proofs.YtkdcnhnaiknaaaaGreat
open Go.RowKit

section
variable {β : Type}
/-- Rising, alike keys let be. -/
def Srt (l : List (List UInt8 × β)) : Prop := l.Pairwise fun x y => ¬ y.1 < x.1
/-- The same pairs, those of a key in the same order. -/
structure Stb (l m : List (List UInt8 × β)) : Prop where
  perm : m.Perm l
  vals : ∀ s, valsOf m s = valsOf l s
theorem Stb.refl (l : List (List UInt8 × β)) : Stb l l := ⟨List.Perm.refl _, fun _ => rfl⟩
variable {l m k A B A1 A2 B1 B2 M1 M2 : List (List UInt8 × β)}
theorem Stb.trans (h : Stb l m) (h2 : Stb m k) : Stb l k := ⟨h2.perm.trans h.perm, fun s => (h2.vals s).trans (h.vals s)⟩
theorem Stb.app (h : Stb A M1) (h2 : Stb B M2) : Stb (A ++ B) (M1 ++ M2) := ⟨h.perm.append h2.perm, fun s => by rw [valsOf_append, valsOf_append, h.vals, h2.vals]⟩
theorem Stb.mem (h : Stb l m) {x : List UInt8 × β} (hx : x ∈ m) : x ∈ l := h.perm.mem_iff.1 hx
theorem Stb.len (h : Stb l m) : m.length = l.length := h.perm.length_eq
theorem vals_none {l : List (List UInt8 × β)} {s : List UInt8} (h : ∀ x ∈ l, ¬ x.1 = s) : valsOf l s = [] := by
  unfold valsOf
  rw [List.filter_eq_nil_iff.2 fun x hx => by simpa using h x hx]
  rfl
theorem Stb.swap (h : ∀ x ∈ A, ∀ y ∈ B, ¬ x.1 = y.1) : Stb (A ++ B) (B ++ A) := by
  refine ⟨List.perm_append_comm, fun s => ?_⟩
  rw [valsOf_append, valsOf_append]
  by_cases hA : ∃ x ∈ A, x.1 = s
  · obtain ⟨x, hx, rfl⟩ := hA
    rw [vals_none fun y hy e => h x hx y hy e.symm, List.nil_append, List.append_nil]
  · rw [vals_none fun x hx e => hA ⟨x, hx, e⟩, List.nil_append, List.append_nil]
theorem nlt_trans {a b c : List UInt8} (h : ¬ b < a) (k : ¬ c < b) : ¬ c < a := fun hh => h (by
  by_cases e : c = b
  · rw [← e]; exact hh
  · exact List.lt_trans (key_lt k e) hh)
theorem lt_nlt {a b c : List UInt8} (h : a < b) (k : ¬ c < b) : a < c := by
  by_cases e : c = b
  · rw [e]; exact h
  · exact List.lt_trans h (key_lt k e)
theorem nlt_lt {a b c : List UInt8} (h : ¬ b < a) (k : b < c) : a < c := by
  by_cases e : b = a
  · rw [← e]; exact k
  · exact List.lt_trans (key_lt h e) k
theorem nlt_of {a b : List UInt8} (h : a < b) : ¬ b < a := fun k => List.lt_irrefl _ (List.lt_trans h k)
theorem Srt.left (h : Srt (A ++ B)) : Srt A := (List.pairwise_append.1 h).1
theorem Srt.right (h : Srt (A ++ B)) : Srt B := (List.pairwise_append.1 h).2.1
/-- One step of the merging. -/
theorem sym_step (hA : Srt (A1 ++ A2)) (hB : Srt (B1 ++ B2)) (h1 : ∀ x ∈ A1, ∀ y ∈ B2, ¬ y.1 < x.1) (h2 : ∀ x ∈ B1, ∀ y ∈ A2, x.1 < y.1) (s1 : Stb (A1 ++ B1) M1) (r1 : Srt M1) (s2 : Stb (A2 ++ B2) M2) (r2 : Srt M2) :
    Srt (M1 ++ M2) ∧ Stb ((A1 ++ A2) ++ (B1 ++ B2)) (M1 ++ M2) := by
  constructor
  · refine List.pairwise_append.2 ⟨r1, r2, fun x hx y hy => ?_⟩
    have hx := List.mem_append.1 (s1.mem hx)
    have hy := List.mem_append.1 (s2.mem hy)
    rcases hx with hx | hx
    · rcases hy with hy | hy
      · exact (List.pairwise_append.1 hA).2.2 x hx y hy
      · exact h1 x hx y hy
    · rcases hy with hy | hy
      · exact nlt_of (h2 x hx y hy)
      · exact (List.pairwise_append.1 hB).2.2 x hx y hy
  · have hs : Stb (A2 ++ B1) (B1 ++ A2) := Stb.swap fun x hx y hy e => by
      have := h2 y hy x hx
      rw [e] at this
      exact List.lt_irrefl _ this
    have h3 : Stb ((A1 ++ A2) ++ (B1 ++ B2)) ((A1 ++ B1) ++ (A2 ++ B2)) := by
      have := ((Stb.refl A1).app hs).app (Stb.refl B2)
      simpa only [List.append_assoc] using this
    exact h3.trans (s1.app s2)
theorem Srt.take_le (h : Srt l) {i : Nat} {z : List UInt8 × β} (hz : l[i]? = some z) : ∀ x ∈ l.take (i + 1), ¬ z.1 < x.1 := by
  intro x hx
  obtain ⟨j, hj⟩ := List.getElem?_of_mem hx
  rw [List.getElem?_take] at hj
  split at hj
  · rename_i hji
    obtain ⟨hi, hiz⟩ := List.getElem?_eq_some_iff.1 hz
    obtain ⟨hjl, hjx⟩ := List.getElem?_eq_some_iff.1 hj
    by_cases e : j = i
    · subst e
      rw [← hiz, ← hjx]
      exact List.lt_irrefl _
    · have := List.pairwise_iff_getElem.1 h j i hjl hi (by omega)
      rw [hjx, hiz] at this
      exact this
  · cases hj
theorem Srt.drop_ge (h : Srt l) {i : Nat} {z : List UInt8 × β} (hz : l[i]? = some z) : ∀ x ∈ l.drop i, ¬ x.1 < z.1 := by
  intro x hx
  obtain ⟨j, hj⟩ := List.getElem?_of_mem hx
  rw [List.getElem?_drop] at hj
  obtain ⟨hi, hiz⟩ := List.getElem?_eq_some_iff.1 hz
  obtain ⟨hjl, hjx⟩ := List.getElem?_eq_some_iff.1 hj
  by_cases e : j = 0
  · subst e
    rw [← hiz, ← hjx]
    exact List.lt_irrefl _
  · have := List.pairwise_iff_getElem.1 h i (i + j) hi hjl (by omega)
    rw [hjx, hiz] at this
    exact this
/-- Where two sorted rows are cut. -/
structure CutP (A B : List (List UInt8 × β)) (i j : Nat) : Prop where
  ile : i ≤ A.length
  jle : j ≤ B.length
  lo : i = 0 ∨ j = B.length ∨ ∃ x y, A[i - 1]? = some x ∧ B[j]? = some y ∧ ¬ y.1 < x.1
  hi : i = A.length ∨ j = 0 ∨ ∃ x y, A[i]? = some x ∧ B[j - 1]? = some y ∧ y.1 < x.1
theorem CutP.le {i j : Nat} (h : CutP A B i j) (hA : Srt A) (hB : Srt B) : (∀ x ∈ A.take i, ∀ y ∈ B.drop j, ¬ y.1 < x.1) ∧ (∀ x ∈ B.take j, ∀ y ∈ A.drop i, x.1 < y.1) := by
  constructor
  · intro x hx y hy
    rcases h.lo with e | e | ⟨u, v, hu, hv, huv⟩
    · rw [e] at hx; cases hx
    · rw [e, List.drop_length] at hy; cases hy
    · by_cases e : i = 0
      · rw [e] at hx; cases hx
      · have h1 := hA.take_le hu x (by rw [show i - 1 + 1 = i by omega]; exact hx)
        have h2 := hB.drop_ge hv y hy
        exact nlt_trans h1 (nlt_trans huv h2)
  · intro x hx y hy
    rcases h.hi with e | e | ⟨u, v, hu, hv, huv⟩
    · rw [e, List.drop_length] at hy; cases hy
    · rw [e] at hx; cases hx
    · by_cases e : j = 0
      · rw [e] at hx; cases hx
      · have h1 := hB.take_le hv x (by rw [show j - 1 + 1 = j by omega]; exact hx)
        have h2 := hA.drop_ge hu y hy
        exact nlt_lt h1 (lt_nlt huv h2)
/-- Merging in place: what is asked of the row behind. -/
def Mrg (A B M : List (List UInt8 × β)) : Prop := Srt M ∧ Stb (A ++ B) M
theorem CutP.mrg {i j : Nat} (h : CutP A B i j) (hA : Srt A) (hB : Srt B) (m1 : Mrg (A.take i) (B.take j) M1) (m2 : Mrg (A.drop i) (B.drop j) M2) : Mrg A B (M1 ++ M2) := by
  have hle := h.le hA hB
  have hA' := hA
  have hB' := hB
  rw [← List.take_append_drop i A] at hA'
  rw [← List.take_append_drop j B] at hB'
  have := sym_step hA' hB' hle.1 hle.2 m1.2 m1.1 m2.2 m2.1
  rw [List.take_append_drop, List.take_append_drop] at this
  exact this
theorem Mrg.nil_left (hB : Srt B) : Mrg [] B B := ⟨hB, Stb.refl _⟩
theorem Mrg.nil_right (hA : Srt A) : Mrg A [] A := ⟨hA, by rw [List.append_nil]; exact Stb.refl _⟩
/-- One element goes to its place. -/
theorem one_left {i : Nat} {x : List UInt8 × β} (hB : Srt B) (hlt : ∀ y ∈ B.take i, y.1 < x.1) (hge : ∀ y ∈ B.drop i, ¬ y.1 < x.1) : Mrg [x] B (B.take i ++ x :: B.drop i) := by
  have hB' := hB
  rw [← List.take_append_drop i B] at hB'
  have hs : Srt ([] ++ [x] : List (List UInt8 × β)) := List.pairwise_singleton ..
  have := sym_step (A1 := []) (A2 := [x]) hs hB' (by simp) (fun y hy z hz => by rw [List.mem_singleton.1 hz]; exact hlt y hy) (M1 := B.take i) (by rw [List.nil_append]; exact Stb.refl _) hB'.left (M2 := x :: B.drop i) (Stb.refl _)
    (List.pairwise_cons.2 ⟨fun y hy => hge y hy, hB'.right⟩)
  rw [List.take_append_drop] at this
  exact this
theorem one_right {i : Nat} {y : List UInt8 × β} (hA : Srt A) (hle : ∀ x ∈ A.take i, ¬ y.1 < x.1) (hgt : ∀ x ∈ A.drop i, y.1 < x.1) : Mrg A [y] (A.take i ++ y :: A.drop i) := by
  have hA' := hA
  rw [← List.take_append_drop i A] at hA'
  have hs : Srt ([y] ++ [] : List (List UInt8 × β)) := List.pairwise_singleton ..
  have := sym_step (B1 := [y]) (B2 := []) hA' hs (by simp) (fun x hx z hz => by rw [List.mem_singleton.1 hx]; exact hgt z hz) (M1 := A.take i ++ [y]) (Stb.refl _)
    (List.pairwise_append.2 ⟨hA'.left, List.pairwise_singleton .., fun x hx z hz => by rw [List.mem_singleton.1 hz]; exact hle x hx⟩) (M2 := A.drop i) (by rw [List.append_nil]; exact Stb.refl _) hA'.right
  rw [List.take_append_drop] at this
  unfold Mrg
  simpa only [List.append_assoc, List.singleton_append] using this
/-- A stable sort of a row. -/
def Std (l m : List (List UInt8 × β)) : Prop := Srt m ∧ Stb l m
theorem Std.stab {l m : List (List UInt8 × β)} (h : Std l m) : Stab l m := ⟨h.1, h.2.vals⟩
theorem Std.mrg {l l' A B M : List (List UInt8 × β)} (h : Std l A) (h2 : Std l' B) (hm : Mrg A B M) : Std (l ++ l') M := ⟨hm.1, (h.2.app h2.2).trans hm.2⟩
end
end Go.Proofs.YtkdcnhnaiknaaaaGreat

/- A row of terms that is sorted: its cells; swapRange. -/
namespace Go.Proofs.YtkdcnhnaiknaaaaGreat
open Go.RowKit

/-- A term as it lies: its bytes; the row of its places. -/
abbrev TmV := List UInt8 × (Option Addr × Nat × Nat)
def tcell (x : TmV) : List Value := [.string ⟨x.1.toArray⟩, .slice x.2.1 x.2.2.1 x.2.2.2]
def tcs (D : List TmV) : List Value := D.flatMap tcell
theorem tcs_len (D : List TmV) : (tcs D).length = D.length * 2 := flat_len_of (cellsA := tcell) (k := 2) (fun _ => rfl) D
theorem tcs_get {D : List TmV} {i : Nat} {x : TmV} (h : D[i]? = some x) {j : Nat} (hj : j < 2) : (tcs D)[i * 2 + j]? = (tcell x)[j]? := flat_get_of (cellsA := tcell) (k := 2) (fun _ => rfl) D i x j h hj
/-- The row lies in a block of its own. -/
def TR (w : World) (g : Nat) (D : List TmV) : Prop := ∃ cs : Array Value, Row w g 150 cs ∧ ∀ (i : Nat) (v : Value), (tcs D)[i]? = some v → cs[i]? = some v
section
variable {w w1 : World} {g : Nat} {D : List TmV}
theorem TR.lt (h : TR w g D) : g < w.heap.size := by obtain ⟨cs, hr, _⟩ := h; exact hr.lt
theorem TR.free (h : TR w g D) (i : Nat) : w.frozen? ⟨g, i, none⟩ = false := by obtain ⟨cs, hr, _⟩ := h; exact hr.free i
theorem TR.at_ (h : TR w g D) {i : Nat} {x : TmV} (hx : D[i]? = some x) : w.cell? ⟨g, i * 2, none⟩ = some (.string ⟨x.1.toArray⟩) ∧ w.cell? ⟨g, i * 2 + 1, none⟩ = some (.slice x.2.1 x.2.2.1 x.2.2.2) := by
  obtain ⟨cs, hr, hc⟩ := h
  exact ⟨hr.cell (i * 2) (hc _ _ (by have := tcs_get hx (j := 0) (by omega); rw [Nat.add_zero] at this; rw [this]; rfl)), hr.cell (i * 2 + 1) (hc _ _ (by rw [tcs_get hx (j := 1) (by omega)]; rfl))⟩
theorem TR.ext (h : TR w g D) (hE : Ext w w1) : TR w1 g D := by obtain ⟨cs, hr, hc⟩ := h; exact ⟨cs, hr.ext hE, hc⟩
theorem TR.drew (h : TR w g D) : TR w.drew g D := h.ext (Ext.refl w).drew
theorem tcs_set (D : List TmV) (i : Nat) (y : TmV) (hi : i < D.length) (k : Nat) : (tcs (D.set i y))[k]? = if k = i * 2 then some (.string ⟨y.1.toArray⟩) else if k = i * 2 + 1 then some (.slice y.2.1 y.2.2.1 y.2.2.2) else (tcs D)[k]? := by
  have hk : k = k / 2 * 2 + k % 2 := by omega
  by_cases hkl : k / 2 < D.length
  · have hx : D[k / 2]? = some D[k / 2] := List.getElem?_eq_getElem hkl
    by_cases he : k / 2 = i
    · have h1 : (D.set i y)[k / 2]? = some y := by rw [List.getElem?_set, if_pos he.symm, if_pos (by omega)]
      rw [hk, tcs_get h1 (Nat.mod_lt _ (by omega))]
      rcases Nat.mod_two_eq_zero_or_one k with h0 | h0
      · rw [h0, if_pos (by omega)]; rfl
      · rw [h0, if_neg (by omega), if_pos (by omega)]; rfl
    · have h1 : (D.set i y)[k / 2]? = some D[k / 2] := by rw [List.getElem?_set, if_neg (fun e => he e.symm), hx]
      rw [hk, tcs_get h1 (Nat.mod_lt _ (by omega)), tcs_get hx (Nat.mod_lt _ (by omega)), if_neg (by omega), if_neg (by omega)]
  · rw [if_neg (by omega), if_neg (by omega), List.getElem?_eq_none (by rw [tcs_len, List.length_set]; omega), List.getElem?_eq_none (by rw [tcs_len]; omega)]
/-- A term laid over the i-th. -/
abbrev setT (w : World) (g i : Nat) (y : TmV) : World := (w.setCell ⟨g, i * 2, none⟩ (.string ⟨y.1.toArray⟩)).setCell ⟨g, i * 2 + 1, none⟩ (.slice y.2.1 y.2.2.1 y.2.2.2)
theorem TR.put (h : TR w g D) {i : Nat} (hi : i < D.length) (y : TmV) : TR (setT w g i y) g (D.set i y) := by
  obtain ⟨cs, hr, hc⟩ := h
  refine ⟨_, (hr.put (i * 2) _).put (i * 2 + 1) _, fun k v hv => ?_⟩
  have hx : D[i]? = some D[i] := List.getElem?_eq_getElem hi
  have hs0 : i * 2 < cs.size := by
    have h0 := hc (i * 2) _ (by have := tcs_get hx (j := 0) (by omega); rw [Nat.add_zero] at this; exact this)
    exact (Array.getElem?_eq_some_iff.1 h0).1
  have hs1 : i * 2 + 1 < cs.size := (Array.getElem?_eq_some_iff.1 (hc (i * 2 + 1) _ (tcs_get hx (j := 1) (by omega)))).1
  rw [tcs_set D i y hi] at hv
  rw [Array.getElem?_setIfInBounds, Array.getElem?_setIfInBounds]
  split at hv
  · rename_i he
    subst he
    rw [if_neg (by omega), if_pos rfl, if_pos hs0]
    exact hv
  · split at hv
    · rename_i hne he
      subst he
      rw [if_pos rfl, if_pos (by rw [Array.size_setIfInBounds]; exact hs1)]
      exact hv
    · rename_i h1 h2
      rw [if_neg (by omega), if_neg (by omega)]
      exact hc k v hv
theorem setT_chg (w : World) (g i : Nat) (y : TmV) : Chg (fun k => k = g) w (setT w g i y) :=
  (Chg.of_set (S := fun k => k = g) w (a := ⟨g, i * 2, none⟩) _ rfl).trans (Chg.of_set (S := fun k => k = g) _ (a := ⟨g, i * 2 + 1, none⟩) _ rfl) fun _ _ h => h
end
/-- k pairs have been swapped. -/
def SwK (D D' : List TmV) (a b k : Nat) : Prop := D'.length = D.length ∧ ∀ i, D'[i]? = if a ≤ i ∧ i < a + k then D[i - a + b]? else if b ≤ i ∧ i < b + k then D[i - b + a]? else D[i]?
theorem SwK.zero (D : List TmV) (a b : Nat) : SwK D D a b 0 := ⟨rfl, fun i => by rw [if_neg (by omega), if_neg (by omega)]⟩
theorem SwK.next {D D' : List TmV} {a b k n : Nat} {x y : TmV} (h : SwK D D' a b k) (hk : k < n) (hab : a + n ≤ b) (hx : D'[a + k]? = some x) (hy : D'[b + k]? = some y) : SwK D ((D'.set (a + k) y).set (b + k) x) a b (k + 1) := by
  obtain ⟨hl, hg⟩ := h
  refine ⟨by rw [List.length_set, List.length_set, hl], fun i => ?_⟩
  have ha := hg (a + k)
  rw [if_neg (by omega), if_neg (by omega), hx] at ha
  have hb := hg (b + k)
  rw [if_neg (by omega), if_neg (by omega), hy] at hb
  have hla := (List.getElem?_eq_some_iff.1 hx).1
  have hlb := (List.getElem?_eq_some_iff.1 hy).1
  rw [List.getElem?_set, List.getElem?_set, List.length_set]
  by_cases e1 : b + k = i
  · subst e1
    rw [if_pos rfl, if_pos hlb, if_neg (by omega), if_pos (by omega), show b + k - b + a = a + k by omega]
    exact ha
  · rw [if_neg e1]
    by_cases e2 : a + k = i
    · subst e2
      rw [if_pos rfl, if_pos hla, if_pos (by omega), show a + k - a + b = b + k by omega]
      exact hb
    · rw [if_neg e2, hg i]
      by_cases c1 : a ≤ i ∧ i < a + k
      · rw [if_pos c1, if_pos (show a ≤ i ∧ i < a + (k + 1) by omega)]
      · rw [if_neg c1, if_neg (show ¬ (a ≤ i ∧ i < a + (k + 1)) by omega)]
        by_cases c2 : b ≤ i ∧ i < b + k
        · rw [if_pos c2, if_pos (show b ≤ i ∧ i < b + (k + 1) by omega)]
        · rw [if_neg c2, if_neg (show ¬ (b ≤ i ∧ i < b + (k + 1)) by omega)]
set_option maxRecDepth 100000 in
set_option maxHeartbeats 1000000 in
theorem swaprange_any (g c a b n : Nat) (D : List TmV) (f : Value) (w : World) (h : TR w g D) (hab : a + n ≤ b) (hb : b + n ≤ D.length) (hD : D.length ≤ 1073741824) :
    Calls Tryz.prog 226 #[.slice (some ⟨g, 0, none⟩) D.length c, .int .i64 (a : Int), .int .i64 (b : Int), .int .i64 (n : Int), f] w fun e w' => e = .returned (.tuple #[]) ∧ ∃ D', SwK D D' a b n ∧ TR w' g D' ∧ Chg (fun k => k = g) w w' := by
  obtain ⟨dl, hdl⟩ : ∃ n, n = D.length := ⟨_, rfl⟩
  rw [← hdl] at hb hD ⊢
  replace h := hide h
  replace hdl := hide hdl
  go_enter Tryz.func226, Tryz.ntmps226
  go_wp2_with fail
  go_loopw [10] (fun s10 wr => ∃ (k : Nat) (E : List TmV), s10 = .int .i64 (k : Int) ∧ k ≤ n ∧ Hid (SwK D E a b k ∧ TR wr g E ∧ Chg (fun k => k = g) w wr)) (fun s10 _ => n - (intOf s10).toNat)
  case atStart => exact ⟨0, D, rfl, by omega, hide ⟨SwK.zero D a b, h.out, Chg.refl _ _⟩⟩
  case round =>
    obtain ⟨k, E, rfl, hk, hI⟩ := hrel
    by_cases hkn : k < n
    · have hl := hI.out.1.1
      have hdl' := hdl.out
      obtain ⟨x, hx⟩ : ∃ x, E[a + k]? = some x := ⟨_, List.getElem?_eq_getElem (by omega)⟩
      obtain ⟨y, hy⟩ : ∃ y, E[b + k]? = some y := ⟨_, List.getElem?_eq_getElem (by omega)⟩
      have hx2 := hI.out.2.1.at_ hx
      have hy2 := hI.out.2.1.at_ hy
      have x0 := hx2.1
      have x1 := hx2.2
      have y0 := hy2.1
      have y1 := hy2.2
      have fr := hI.out.2.1.free
      clear hl hdl' hx2 hy2
      replace hx := hide hx
      replace hy := hide hy
      go_wp2_with fail
      refine wp_region_text follows (by kernel_rfl) (by kernel_rfl) (fun K hK => ?_)
      go_wp2_with fail
      refine ⟨by kernel_rfl, ?_⟩
      go_wp2_with fail
      have hx' := hx.out
      have hy' := hy.out
      have hN := hI.out.1.next hkn hab hx' hy'
      have h1 := hI.out.2.1.put (i := a + k) (List.getElem?_eq_some_iff.1 hx').1 y
      have h2 := h1.put (i := b + k) (by rw [List.length_set]; exact (List.getElem?_eq_some_iff.1 hy').1) x
      have hc := (hI.out.2.2.trans (setT_chg wr g (a + k) y) fun _ _ h => h).trans (setT_chg _ g (b + k) x) fun _ _ h => h
      go_roundw
      case rel => exact ⟨k + 1, _, by go_num, by omega, hide ⟨hN, h2.drew, hc.trans (Chg.of_ext (Ext.refl _).drew _) fun _ _ h => h⟩⟩
      case measure => simp [intOf]; omega
    · go_wp2_with fail
      go_end0
      obtain rfl : k = n := by omega
      exact ⟨rfl, E, hI.out⟩
end Go.Proofs.YtkdcnhnaiknaaaaGreat

/- A row of terms that is sorted: rotate. -/
namespace Go.Proofs.YtkdcnhnaiknaaaaGreat
open Go.RowKit

theorem swk_eq {E E' P X Y Z Q : List TmV} {a b n : Nat} (h : SwK E E' a b n) (hE : E = P ++ (X ++ (Y ++ (Z ++ Q)))) (hX : X.length = n) (hZ : Z.length = n) (ha : a = P.length) (hb : b = P.length + X.length + Y.length) : E' = P ++ (Z ++ (Y ++ (X ++ Q))) := by
  refine List.ext_getElem? fun i => ?_
  rw [h.2 i, hE]
  simp only [List.getElem?_append]
  subst ha hb
  by_cases h1 : i < P.length
  · rw [if_neg (show ¬ (P.length ≤ i ∧ i < P.length + n) by omega), if_neg (show ¬ (P.length + X.length + Y.length ≤ i ∧ i < P.length + X.length + Y.length + n) by omega)]
    simp only [if_pos h1]
  · by_cases h2 : i - P.length < n
    · rw [if_pos (show P.length ≤ i ∧ i < P.length + n by omega)]
      simp only [if_neg h1, hX, hZ, if_pos h2]
      rw [if_neg (by omega), if_neg (by omega), if_neg (by omega), if_pos (by omega)]
      congr 1; omega
    · rw [if_neg (show ¬ (P.length ≤ i ∧ i < P.length + n) by omega)]
      by_cases h3 : i - P.length - n < Y.length
      · rw [if_neg (show ¬ (P.length + X.length + Y.length ≤ i ∧ i < P.length + X.length + Y.length + n) by omega)]
        simp only [if_neg h1, hX, hZ, if_neg h2, if_pos h3]
      · by_cases h4 : i - P.length - n - Y.length < n
        · rw [if_pos (show P.length + X.length + Y.length ≤ i ∧ i < P.length + X.length + Y.length + n by omega)]
          simp only [if_neg h1, hX, hZ, if_neg h2, if_neg h3, if_pos h4]
          rw [if_neg (by omega), if_pos (by omega)]
          congr 1; omega
        · rw [if_neg (show ¬ (P.length + X.length + Y.length ≤ i ∧ i < P.length + X.length + Y.length + n) by omega)]
          simp only [if_neg h1, hX, hZ, if_neg h2, if_neg h3, if_neg h4]
/-- What is still to be turned round, where the left part has i, the right one j elements. -/
structure RotI (T E : List TmV) (m i j : Nat) : Prop where
  ex : ∃ P U V Q : List TmV, E = P ++ (U ++ (V ++ Q)) ∧ P.length + i = m ∧ U.length = i ∧ V.length = j ∧ T = P ++ (V ++ (U ++ Q))
  i0 : 0 < i
  j0 : 0 < j
theorem RotI.len {T E : List TmV} {m i j : Nat} (h : RotI T E m i j) : i ≤ m ∧ m + j ≤ E.length ∧ E.length = T.length := by
  obtain ⟨P, U, V, Q, hE, hP, hU, hV, hT⟩ := h.ex
  rw [hE, hT]
  simp only [List.length_append]
  omega
theorem RotI.left {T E E' : List TmV} {m i j : Nat} (h : RotI T E m i j) (hij : j < i) (hs : SwK E E' (m - i) m j) : RotI T E' m (i - j) j := by
  obtain ⟨P, U, V, Q, hE, hP, hU, hV, hT⟩ := h.ex
  have hs' := swk_eq (P := P) (X := U.take j) (Y := U.drop j) (Z := V) (Q := Q) hs (by rw [hE, ← List.append_assoc (U.take j), List.take_append_drop]) (by rw [List.length_take]; omega) hV (by omega) (by rw [List.length_take, List.length_drop]; omega)
  refine ⟨⟨P ++ V, U.drop j, U.take j, Q, ?_, ?_, ?_, ?_, ?_⟩, by omega, h.j0⟩
  · rw [hs']; simp only [List.append_assoc]
  · rw [List.length_append]; omega
  · rw [List.length_drop]; omega
  · rw [List.length_take]; omega
  · rw [hT, List.append_assoc, ← List.append_assoc (U.take j), List.take_append_drop]
theorem RotI.right {T E E' : List TmV} {m i j : Nat} (h : RotI T E m i j) (hij : i < j) (hs : SwK E E' (m - i) (m + j - i) i) : RotI T E' m i (j - i) := by
  obtain ⟨P, U, V, Q, hE, hP, hU, hV, hT⟩ := h.ex
  have hs' := swk_eq (P := P) (X := U) (Y := V.take (j - i)) (Z := V.drop (j - i)) (Q := Q) hs (by rw [hE, ← List.append_assoc (V.take (j - i)), List.take_append_drop]) hU (by rw [List.length_drop]; omega) (by omega) (by rw [List.length_take]; omega)
  refine ⟨⟨P, V.drop (j - i), V.take (j - i), U ++ Q, ?_, hP, ?_, ?_, ?_⟩, h.i0, by omega⟩
  · rw [hs']
  · rw [List.length_drop]; omega
  · rw [List.length_take]; omega
  · rw [hT, ← List.append_assoc (V.take (j - i)), List.take_append_drop]
theorem RotI.last {T E E' : List TmV} {m i : Nat} (h : RotI T E m i i) (hs : SwK E E' (m - i) m i) : E' = T := by
  obtain ⟨P, U, V, Q, hE, hP, hU, hV, hT⟩ := h.ex
  have hs' := swk_eq (P := P) (X := U) (Y := []) (Z := V) (Q := Q) hs (by rw [hE]; rfl) hU hV (by omega) (by simp; omega)
  rw [hs', hT]; rfl
set_option maxRecDepth 100000 in
set_option maxHeartbeats 1000000 in
theorem rotate_any (g c a m b : Nat) (D T : List TmV) (f : Value) (w : World) (h : TR w g D) (hR : RotI T D m (m - a) (b - m)) (ham : a < m) (hmb : m < b) (hD : D.length ≤ 1073741824) :
    Calls Tryz.prog 218 #[.slice (some ⟨g, 0, none⟩) D.length c, .int .i64 (a : Int), .int .i64 (m : Int), .int .i64 (b : Int), f] w fun e w' => e = .returned (.tuple #[]) ∧ TR w' g T ∧ Chg (fun k => k = g) w w' := by
  have hlen := hR.len
  obtain ⟨dl, hdl⟩ : ∃ n, n = D.length := ⟨_, rfl⟩
  rw [← hdl] at hD hlen ⊢
  have hsw : ∀ (a b n : Nat) (E : List TmV) (x : World), TR x g E → E.length = dl → a + n ≤ b → b + n ≤ dl → Calls Tryz.prog 226 #[.slice (some ⟨g, 0, none⟩) dl c, .int .i64 (a : Int), .int .i64 (b : Int), .int .i64 (n : Int), f] x fun e w' => e = .returned (.tuple #[]) ∧ ∃ D', SwK E D' a b n ∧ TR w' g D' ∧ Chg (fun k => k = g) x w' := fun a b n E x hx hE hab hb => by
    have := swaprange_any g c a b n E f x hx hab (by omega) (by omega)
    rw [hE] at this
    exact this
  have hT : T.length = dl := hlen.2.2.symm
  have hmd : m ≤ 1073741824 := by omega
  have hbd : b ≤ 1073741824 := by omega
  have hbm : ((b : Int) - (m : Int)) = ((b - m : Nat) : Int) := by omega
  have hma : ((m : Int) - (a : Int)) = ((m - a : Nat) : Int) := by omega
  replace h := hide h
  replace hR := hide hR
  replace hsw := hide hsw
  replace hdl := hide hdl
  replace hlen := hide hlen
  replace hT := hide hT
  replace hbm := hide hbm
  replace hma := hide hma
  go_enter Tryz.func218, Tryz.ntmps218
  go_wp2_with fail
  rw [hma.out, hbm.out]
  go_loopw [10, 11] (fun s10 s11 wr => ∃ (i j : Nat) (E : List TmV), s10 = .int .i64 (i : Int) ∧ s11 = .int .i64 (j : Int) ∧ i ≤ 1073741824 ∧ j ≤ 1073741824 ∧ Hid (RotI T E m i j ∧ TR wr g E ∧ Chg (fun k => k = g) w wr)) (fun s10 s11 _ => (intOf s10).toNat + (intOf s11).toNat)
  case atStart => exact ⟨m - a, b - m, D, rfl, rfl, by omega, by omega, hide ⟨hR.out, h.out, Chg.refl _ _⟩⟩
  case round =>
    obtain ⟨i, j, E, rfl, rfl, hi, hj, hI⟩ := hrel
    have hl := hI.out.1.len
    have hi0 := hI.out.1.i0
    have hj0 := hI.out.1.j0
    have hEl : E.length = dl := by have := hT.out; omega
    have hmi : ((m : Int) - (i : Int)) = ((m - i : Nat) : Int) := by omega
    have hmj : ((m : Int) + (j : Int) - (i : Int)) = ((m + j - i : Nat) : Int) := by omega
    by_cases hij : i = j
    · subst hij
      have hs := hide (hsw.out (m - i) m i E wr hI.out.2.1 hEl (by omega) (by omega))
      replace hmi := hide hmi
      replace hmj := hide hmj
      replace hEl := hide hEl
      go_wp2_with fail
      rw [hmi.out]
      refine hs.out.mono ?_
      rintro e w1 ⟨rfl, E', hk, hr, hc⟩
      obtain rfl := hI.out.1.last hk
      go_wp2_with fail
      go_end0
      exact ⟨rfl, hr, hI.out.2.2.trans hc fun _ _ h => h⟩
    · have hne : ¬ (i : Int) = (j : Int) := by omega
      by_cases hlt : j < i
      · have hs := hide (hsw.out (m - i) m j E wr hI.out.2.1 hEl (by omega) (by omega))
        have hij2 : ((i : Int) - (j : Int)) = ((i - j : Nat) : Int) := by omega
        replace hmi := hide hmi
        replace hmj := hide hmj
        replace hEl := hide hEl
        replace hij2 := hide hij2
        go_wp2_with fail
        rw [hmi.out]
        refine hs.out.mono ?_
        rintro e w1 ⟨rfl, E', hk, hr, hc⟩
        have hN := hI.out.1.left hlt hk
        replace hk := hide hk
        go_wp2_with fail
        go_roundw
        case rel => exact ⟨i - j, j, E', by rw [hij2.out], rfl, by omega, hj, hide ⟨hN, hr, hI.out.2.2.trans hc fun _ _ h => h⟩⟩
        case measure => simp [intOf]; omega
      · have hs := hide (hsw.out (m - i) (m + j - i) i E wr hI.out.2.1 hEl (by omega) (by omega))
        have hij2 : ((j : Int) - (i : Int)) = ((j - i : Nat) : Int) := by omega
        replace hmi := hide hmi
        replace hmj := hide hmj
        replace hEl := hide hEl
        replace hij2 := hide hij2
        go_wp2_with fail
        rw [hmi.out, hmj.out]
        refine hs.out.mono ?_
        rintro e w1 ⟨rfl, E', hk, hr, hc⟩
        have hN := hI.out.1.right (by omega) hk
        replace hk := hide hk
        go_wp2_with fail
        go_roundw
        case rel => exact ⟨i, j - i, E', rfl, by rw [hij2.out], hi, by omega, hide ⟨hN, hr, hI.out.2.2.trans hc fun _ _ h => h⟩⟩
        case measure => simp [intOf]; omega
end Go.Proofs.YtkdcnhnaiknaaaaGreat

/- A row of terms that is sorted: the comparison, insertionSort. -/
namespace Go.Proofs.YtkdcnhnaiknaaaaGreat
open Go.RowKit

theorem comp_lt : ∀ (a b : List UInt8), (Lib.compareBytes a b < 0 ↔ a < b) ∧ -1 ≤ Lib.compareBytes a b ∧ Lib.compareBytes a b ≤ 1
  | [], [] => ⟨by simp [Lib.compareBytes], by simp [Lib.compareBytes], by simp [Lib.compareBytes]⟩
  | [], _ :: _ => ⟨by simp [Lib.compareBytes], by simp [Lib.compareBytes], by simp [Lib.compareBytes]⟩
  | _ :: _, [] => ⟨by simp [Lib.compareBytes], by simp [Lib.compareBytes], by simp [Lib.compareBytes]⟩
  | x :: xs, y :: ys => by
    have ih := comp_lt xs ys
    rw [Lib.compareBytes, List.cons_lt_cons_iff]
    by_cases h1 : x < y
    · rw [if_pos h1]; exact ⟨⟨fun _ => .inl h1, fun _ => by decide⟩, by decide, by decide⟩
    · rw [if_neg h1]
      by_cases h2 : y < x
      · rw [if_pos h2]
        refine ⟨⟨fun h => absurd h (by decide), fun h => ?_⟩, by decide, by decide⟩
        rcases h with h | ⟨h, _⟩
        · exact absurd h h1
        · rw [h] at h2; exact absurd h2 (UInt8.lt_irrefl _)
      · rw [if_neg h2]
        have he : x = y := UInt8.le_antisymm (UInt8.not_lt.1 h2) (UInt8.not_lt.1 h1)
        refine ⟨⟨fun h => .inr ⟨he, ih.1.1 h⟩, fun h => ?_⟩, ih.2⟩
        rcases h with h | ⟨_, h⟩
        · exact absurd h h1
        · exact ih.1.2 h
def tagg (x : TmV) : Value := .agg #[.string ⟨x.1.toArray⟩, .slice x.2.1 x.2.2.1 x.2.2.2]
/-- The comparison's value. -/
def cmpV : Value := .func (.func 137) #[] #[]
def CmpP (x y : TmV) (w : World) (e : Ending) (w' : World) : Prop := ∃ z : Int, e = .returned (.int .i64 z) ∧ (z < 0 ↔ x.1 < y.1) ∧ -1 ≤ z ∧ z ≤ 1 ∧ Ext w w'
set_option maxRecDepth 100000 in
theorem tcmp_any (x y : TmV) (w : World) : Calls Tryz.prog 137 #[tagg x, tagg y] w (CmpP x y w) := by
  have hcmp := hide (fun W => Tryz.strings_Compare ⟨x.1.toArray⟩ ⟨y.1.toArray⟩ W)
  unfold tagg
  go_enter Tryz.func137, Tryz.ntmps137
  go_wp2_with fail
  refine (hcmp.out _).mono ?_
  rintro e w1 ⟨rfl, rfl⟩
  go_wp2_with fail
  go_ret
  have h := comp_lt x.1 y.1
  exact ⟨_, rfl, h.1, h.2.1, h.2.2, ((Ext.refl w).alloc _).alloc _⟩
/-- The row P, a sorted beginning S of X, the rest of X, Q. -/
structure InsI (D E P X Q : List TmV) (i : Nat) : Prop where
  hi : P.length ≤ i ∧ i ≤ P.length + X.length
  ex : ∃ S, E = P ++ (S ++ (X.drop (i - P.length) ++ Q)) ∧ Std (X.take (i - P.length)) S
/-- The element z on its way down: k elements of S stand ahead of it. -/
structure InsJ (E P S R : List TmV) (z : TmV) (k : Nat) : Prop where
  hk : k ≤ S.length
  eq : E = P ++ (S.take k ++ z :: (S.drop k ++ R))
  gt : ∀ y ∈ S.drop k, z.1 < y.1
theorem InsJ.len {E P S R : List TmV} {z : TmV} {k : Nat} (h : InsJ E P S R z k) : E.length = P.length + S.length + 1 + R.length := by
  rw [h.eq]
  simp only [List.length_append, List.length_cons, List.length_take, List.length_drop]
  have := h.hk
  omega
theorem InsJ.here {E P S R : List TmV} {z : TmV} {k : Nat} (h : InsJ E P S R z k) : E[P.length + k]? = some z := by
  have := h.hk
  rw [h.eq, List.getElem?_append_right (by omega), List.getElem?_append_right (by rw [List.length_take]; omega), List.length_take, show P.length + k - P.length - min k S.length = 0 by omega]
  rfl
theorem InsJ.ahead {E P S R : List TmV} {z : TmV} {k : Nat} (h : InsJ E P S R z (k + 1)) : ∃ y, E[P.length + k]? = some y ∧ S[k]? = some y := by
  have := h.hk
  obtain ⟨y, hy⟩ : ∃ y, S[k]? = some y := ⟨_, List.getElem?_eq_getElem (by omega)⟩
  refine ⟨y, ?_, hy⟩
  rw [h.eq, List.getElem?_append_right (by omega), List.getElem?_append_left (by rw [List.length_take]; omega), show P.length + k - P.length = k by omega, List.getElem?_take, if_pos (by omega)]
  exact hy
theorem set_swap {α : Type} (y z : α) (B : List α) : ∀ A : List α, ((A ++ y :: z :: B).set (A.length + 1) y).set A.length z = A ++ z :: y :: B
  | [] => rfl
  | a :: A => by simp [set_swap y z B A]
theorem InsJ.next {E P S R : List TmV} {z y : TmV} {k : Nat} (h : InsJ E P S R z (k + 1)) (hy : S[k]? = some y) (hlt : z.1 < y.1) : InsJ ((E.set (P.length + (k + 1)) y).set (P.length + k) z) P S R z k := by
  have hk := h.hk
  have hd : S.drop k = y :: S.drop (k + 1) := by
    obtain ⟨hl, he⟩ := List.getElem?_eq_some_iff.1 hy
    rw [List.drop_eq_getElem_cons hl, he]
  have ht : S.take (k + 1) = S.take k ++ [y] := by rw [List.take_succ_eq_append_getElem (by omega)]; congr 2; exact (List.getElem?_eq_some_iff.1 hy).2
  refine ⟨by omega, ?_, ?_⟩
  · have hl : (P ++ S.take k).length = P.length + k := by rw [List.length_append, List.length_take]; omega
    have := set_swap y z (S.drop (k + 1) ++ R) (P ++ S.take k)
    rw [hl] at this
    rw [h.eq, ht, hd, show P ++ (S.take k ++ [y] ++ z :: (S.drop (k + 1) ++ R)) = (P ++ S.take k) ++ y :: z :: (S.drop (k + 1) ++ R) by simp, ← Nat.add_assoc, this]
    simp
  · rw [hd]
    intro x hx
    rcases List.mem_cons.1 hx with rfl | hx
    · exact hlt
    · exact h.gt x hx
theorem InsJ.start {D E P X Q S : List TmV} {i : Nat} {z : TmV} (hE : E = P ++ (S ++ (X.drop (i - P.length) ++ Q))) (hS : Std (X.take (i - P.length)) S) (hz : X[i - P.length]? = some z) : InsJ E P S (X.drop (i - P.length + 1) ++ Q) z S.length := by
  obtain ⟨hl, he⟩ := List.getElem?_eq_some_iff.1 hz
  refine ⟨Nat.le_refl _, ?_, by rw [List.drop_length]; nofun⟩
  rw [hE, List.take_length, List.drop_length, List.nil_append, List.drop_eq_getElem_cons hl, he]
  rfl
theorem InsJ.done {D E P X Q S : List TmV} {i k : Nat} {z : TmV} (h : InsJ E P S (X.drop (i - P.length + 1) ++ Q) z k) (hS : Std (X.take (i - P.length)) S) (hz : X[i - P.length]? = some z) (hPi : P.length ≤ i) (hle : k = 0 ∨ ∃ y, S[k - 1]? = some y ∧ ¬ z.1 < y.1) : InsI D E P X Q (i + 1) := by
  obtain ⟨hl, he⟩ := List.getElem?_eq_some_iff.1 hz
  refine ⟨⟨by omega, by omega⟩, S.take k ++ z :: S.drop k, ?_, ?_⟩
  · rw [h.eq, show i + 1 - P.length = i - P.length + 1 by omega]
    simp only [List.append_assoc, List.cons_append]
  · rw [show i + 1 - P.length = i - P.length + 1 by omega, List.take_succ_eq_append_getElem hl, he]
    have h1 : Std [z] [z] := ⟨List.pairwise_singleton .., Stb.refl _⟩
    refine hS.mrg h1 (one_right hS.1 (fun x hx => ?_) h.gt)
    rcases hle with rfl | ⟨y, hy, hyz⟩
    · cases hx
    · by_cases e : k = 0
      · rw [e] at hx; cases hx
      · exact nlt_trans (hS.1.take_le hy x (by rw [show k - 1 + 1 = k by omega]; exact hx)) hyz
end Go.Proofs.YtkdcnhnaiknaaaaGreat

/- A row of terms that is sorted: insertionSort. -/
namespace Go.Proofs.YtkdcnhnaiknaaaaGreat
open Go.RowKit

set_option maxRecDepth 100000 in
set_option maxHeartbeats 2000000 in
theorem insertion_any (g c a b : Nat) (D P X Q : List TmV) (w : World) (h : TR w g D) (hD : D = P ++ (X ++ Q)) (ha : a = P.length) (hb : b = P.length + X.length) (hle : D.length ≤ 1073741824) :
    Calls Tryz.prog 198 #[.slice (some ⟨g, 0, none⟩) D.length c, .int .i64 (a : Int), .int .i64 (b : Int), cmpV] w fun e w' => e = .returned (.tuple #[]) ∧ ∃ S, Std X S ∧ TR w' g (P ++ (S ++ Q)) ∧ Chg (fun k => k = g) w w' := by
  obtain ⟨dl, hdl⟩ : ∃ n, n = D.length := ⟨_, rfl⟩
  have hbd : b ≤ dl := by rw [hdl, hD]; simp only [List.length_append]; omega
  rw [← hdl] at hle ⊢
  have hale : a ≤ 1073741824 := by omega
  have hble : b ≤ 1073741824 := by omega
  unfold cmpV
  by_cases hX : X = []
  · have hba : b = a := by rw [hb, ha, hX]; rfl
    subst hba
    have hfin : TR w g (P ++ ([] ++ Q)) := by rw [← hX, ← hD]; exact h
    have hstd : Std X [] := by rw [hX]; exact ⟨List.Pairwise.nil, Stb.refl _⟩
    replace hfin := hide hfin
    replace hstd := hide hstd
    clear hX hD ha hb h hdl
    go_enter Tryz.func198, Tryz.ntmps198
    go_wp2_with fail
    go_loopw [8] (fun s8 wr => s8 = .int .i64 ((b : Int) + 1) ∧ wr = w) (fun _ _ => 0)
    case atStart => exact ⟨rfl, rfl⟩
    case round =>
      obtain ⟨rfl, rfl⟩ := hrel
      have hlt : ¬ ((b : Int) + 1 < (b : Int)) := by omega
      go_wp2_with fail
      go_end0
      exact ⟨rfl, [], hstd.out, hfin.out, Chg.refl _ _⟩
  · have hXl : 0 < X.length := List.length_pos_iff.2 hX
    have hI : InsI D D P X Q (a + 1) := ⟨⟨by omega, by omega⟩, X.take 1, by
      rw [show a + 1 - P.length = 1 by omega, ← List.append_assoc (X.take 1), List.take_append_drop]; exact hD, by
      rw [show a + 1 - P.length = 1 by omega]
      refine ⟨?_, Stb.refl _⟩
      cases X with
      | nil => exact absurd rfl hX
      | cons x X => exact List.pairwise_singleton ..⟩
    replace h := hide h
    replace hD := hide hD
    replace hdl := hide hdl
    replace hI := hide hI
    replace ha := hide ha
    replace hb := hide hb
    have hcmp := fun x y W => tcmp_any x y W
    unfold tagg at hcmp
    replace hcmp := hide hcmp
    clear hX
    go_enter Tryz.func198, Tryz.ntmps198
    go_wp2_with fail
    go_loopw [8] (fun s8 wr => ∃ (i : Nat) (E : List TmV), s8 = .int .i64 (i : Int) ∧ i ≤ b ∧ Hid (a < i ∧ InsI D E P X Q i ∧ TR wr g E ∧ Chg (fun k => k = g) w wr)) (fun s8 _ => b - (intOf s8).toNat)
    case atStart => exact ⟨a + 1, D, by go_num, by have := hb.out; have := ha.out; omega, hide ⟨by omega, hI.out, h.out, Chg.refl _ _⟩⟩
    case round =>
      obtain ⟨i, E, rfl, hi, hJ⟩ := hrel
      obtain ⟨wo, rfl⟩ : ∃ wo, wo = wr := ⟨_, rfl⟩
      by_cases hib : i < b
      · obtain ⟨hai, ⟨hi1, S, hE, hS⟩, hT, hC⟩ := hJ.out
        have ha' := ha.out
        have hb' := hb.out
        obtain ⟨z, hz⟩ : ∃ z, X[i - P.length]? = some z := ⟨_, List.getElem?_eq_getElem (by omega)⟩
        have hSl : S.length = i - P.length := by rw [hS.2.len, List.length_take]; omega
        have hst := InsJ.start (D := D) hE hS hz
        have hdone := fun (E' : List TmV) (k : Nat) (h : InsJ E' P S (X.drop (i - P.length + 1) ++ Q) z k) (hle : k = 0 ∨ ∃ y, S[k - 1]? = some y ∧ ¬ z.1 < y.1) => h.done (D := D) hS hz hi1.1 hle
        have hlen := hst.len
        have hlE : E.length = dl := by rw [hdl.out, hD.out, hlen]; simp only [List.length_append, List.length_drop]; omega
        obtain ⟨R, hR⟩ : ∃ R, R = X.drop (i - P.length + 1) ++ Q := ⟨_, rfl⟩
        rw [← hR] at hst hdone hlen
        have hlR : P.length + S.length + 1 + R.length = dl := by omega
        have hSi : i = a + S.length := by omega
        replace hst := hide hst
        replace hdone := hide hdone
        replace hT := hide hT
        replace hC := hide hC
        replace hlR := hide hlR
        replace hSi := hide hSi
        replace ha' := hide ha'
        clear hE hS hz hlen hlE hR hJ hI h hb' hSl hi1
        go_wp2_with fail
        go_loopw [9] (fun s9 wr => ∃ (j k : Nat) (E : List TmV), s9 = .int .i64 (j : Int) ∧ j ≤ i ∧ Hid (j = a + k ∧ InsJ E P S R z k ∧ TR wr g E ∧ Chg (fun k => k = g) w wr)) (fun s9 _ => (intOf s9).toNat)
        case atStart => exact ⟨i, S.length, E, rfl, Nat.le_refl _, hide ⟨hSi.out, hst.out, hT.out, hC.out⟩⟩
        case round =>
          obtain ⟨j, k, E, rfl, hji, hK⟩ := hrel
          by_cases hk0 : k = 0
          · have hja : ¬ (a : Int) < (j : Int) := by have := hK.out.1; omega
            have hjb : decide ((a : Int) < (j : Int)) = false := decide_eq_false hja
            have hjc : decide (a < j) = false := decide_eq_false (by omega)
            replace hk0 := hide hk0
            go_wp2_with fail
            go_quiet (fail)
            go_wp2_with fail
            go_roundw
            case rel => exact ⟨i + 1, E, by go_num, by omega, hide ⟨by omega, hdone.out E k hK.out.2.1 (.inl hk0.out), hK.out.2.2.1.ext ((Ext.refl wr).drewN _), hK.out.2.2.2.trans (Chg.of_ext ((Ext.refl wr).drewN _) _) fun _ _ h => h⟩⟩
            case measure => simp [intOf]; omega
          · obtain ⟨k1, rfl⟩ : ∃ k1, k = k1 + 1 := ⟨k - 1, by omega⟩
            obtain ⟨j1, hj1⟩ : ∃ j1, j = j1 + 1 := ⟨j - 1, by have := hK.out.1; omega⟩
            obtain ⟨y, hy, hyS⟩ := hK.out.2.1.ahead
            have hhere := hK.out.2.1.here
            have hjk : j1 = a + k1 := by have := hK.out.1; omega
            have ht1 := hK.out.2.2.1.at_ (i := j) (x := z) (by rw [hj1, hjk, ha'.out]; exact hhere)
            have ht2 := hK.out.2.2.1.at_ (i := j1) (x := y) (by rw [hjk, ha'.out]; exact hy)
            have hS1 : wr.cell? ⟨g, j * 2, none⟩ = some (.string ⟨z.1.toArray⟩) ∧ wr.cell? ⟨g, j * 2 + 1, none⟩ = some (.slice z.2.1 z.2.2.1 z.2.2.2) ∧ wr.cell? ⟨g, j1 * 2, none⟩ = some (.string ⟨y.1.toArray⟩) ∧ wr.cell? ⟨g, j1 * 2 + 1, none⟩ = some (.slice y.2.1 y.2.2.1 y.2.2.2) ∧ Ext wr wr := ⟨ht1.1, ht1.2, ht2.1, ht2.2, Ext.refl wr⟩
            have hkp : ∀ w0 w1 : World, (w0.cell? ⟨g, j * 2, none⟩ = some (.string ⟨z.1.toArray⟩) ∧ w0.cell? ⟨g, j * 2 + 1, none⟩ = some (.slice z.2.1 z.2.2.1 z.2.2.2) ∧ w0.cell? ⟨g, j1 * 2, none⟩ = some (.string ⟨y.1.toArray⟩) ∧ w0.cell? ⟨g, j1 * 2 + 1, none⟩ = some (.slice y.2.1 y.2.2.1 y.2.2.2) ∧ Ext wr w0) → Ext w0 w1 → (w1.cell? ⟨g, j * 2, none⟩ = some (.string ⟨z.1.toArray⟩) ∧ w1.cell? ⟨g, j * 2 + 1, none⟩ = some (.slice z.2.1 z.2.2.1 z.2.2.2) ∧ w1.cell? ⟨g, j1 * 2, none⟩ = some (.string ⟨y.1.toArray⟩) ∧ w1.cell? ⟨g, j1 * 2 + 1, none⟩ = some (.slice y.2.1 y.2.2.1 y.2.2.2) ∧ Ext wr w1) := fun w0 w1 h1 h3 => ⟨h3.cell h1.1, h3.cell h1.2.1, h3.cell h1.2.2.1, h3.cell h1.2.2.2.1, h1.2.2.2.2.trans h3⟩
            have hS0 := hkp _ _ hS1 (Ext.refl wr).drew
            have hlj : j < dl := by have := hlR.out; have := hK.out.2.1.hk; have := ha'.out; omega
            have hjb : decide (a < j) = true := decide_eq_true (by omega)
            have b1 : (j : Int) < (dl : Int) := by omega
            have b2 : (j1 : Int) < (dl : Int) := by omega
            have b3 : (0 : Int) ≤ (j : Int) - 1 := by omega
            have b4 : IntKind.i64.wrap ((j : Int) - 1) = (j1 : Int) := by rw [IntWalk.i64_in _ (by omega)]; omega
            replace hj1 := hide hj1
            have fr := hK.out.2.2.1.free
            replace hS1 := hide hS1
            replace hS0 := hide hS0
            replace hkp := hide hkp
            replace hy := hide hy
            replace hyS := hide hyS
            replace hhere := hide hhere
            replace hjk := hide hjk
            clear ht1 ht2
            go_wp2_with fail
            go_region_held3 (fun x => x.cell? ⟨g, j * 2, none⟩ = some (.string ⟨z.1.toArray⟩) ∧ x.cell? ⟨g, j * 2 + 1, none⟩ = some (.slice z.2.1 z.2.2.1 z.2.2.2) ∧ x.cell? ⟨g, j1 * 2, none⟩ = some (.string ⟨y.1.toArray⟩) ∧ x.cell? ⟨g, j1 * 2 + 1, none⟩ = some (.slice y.2.1 y.2.2.1 y.2.2.2) ∧ Ext wr x) (first | exact hS0.out | exact hS1.out | exact ‹_› | exact hkp.out _ _ ‹_› ‹_›) (first
              | (go_at_call 137; refine (hcmp.out z y _).mono ?_; rintro e w5 ⟨zc, rfl, hzc, hz1, hz2, hE5⟩))
            have hE6 := (Ext.refl wr).drew.trans hE5
            have hT5 := hK.out.2.2.1.ext hE6
            have hC5 := hK.out.2.2.2.trans (Chg.of_ext hE6 (fun k => k = g)) fun _ _ h => h
            by_cases hlt : z.1 < y.1
            · have hzn := hzc.2 hlt
              have hzb : decide (zc < 0) = true := decide_eq_true hzn
              have q1 := hT5.at_ (i := j) (x := z) (by rw [hj1.out, hjk.out, ha'.out]; exact hhere.out)
              have q2 := hT5.at_ (i := j1) (x := y) (by rw [hjk.out, ha'.out]; exact hy.out)
              have x0 := q1.1
              have x1 := q1.2
              have y0 := q2.1
              have y1 := q2.2
              have fr5 := hT5.free
              have o1 : j1 < j := by have := hj1.out; omega
              have o2 : j ≤ j1 + 1 := by have := hj1.out; omega
              replace hzc := hide hzc
              clear q1 q2 fr
              go_wp2_with fail
              refine wp_region_text follows (by kernel_rfl) (by kernel_rfl) (fun K hK => ?_)
              go_wp2_with fail
              refine ⟨by kernel_rfl, ?_⟩
              go_wp2_with fail
              have hP1 : P.length + (k1 + 1) = j := by have := hj1.out; have := hjk.out; have := ha'.out; omega
              have hP0 : P.length + k1 = j1 := by have := hjk.out; have := ha'.out; omega
              have hN := hK.out.2.1.next hyS.out hlt
              rw [hP1, hP0] at hN
              have hlE := hK.out.2.1.len
              have hlR' := hlR.out
              have h1 := hT5.put (i := j) (by omega) y
              have h2 := h1.put (i := j1) (by rw [List.length_set]; omega) z
              have hc := (hC5.trans (setT_chg w5 g j y) fun _ _ h => h).trans (setT_chg _ g j1 z) fun _ _ h => h
              go_roundw
              case rel => exact ⟨j1, k1, _, rfl, by omega, hide ⟨hjk.out, hN, h2.drew, hc.trans (Chg.of_ext (Ext.refl _).drew _) fun _ _ h => h⟩⟩
              case measure => simp [intOf]; omega
            · have hzn : ¬ zc < 0 := fun h => hlt (hzc.1 h)
              have hzb : decide (zc < 0) = false := decide_eq_false hzn
              have hfin := hdone.out E (k1 + 1) hK.out.2.1 (.inr ⟨y, hyS.out, hlt⟩)
              replace hzc := hide hzc
              replace hfin := hide hfin
              go_wp2_with fail
              go_roundw
              case rel => exact ⟨i + 1, E, by go_num, by omega, hide ⟨by omega, hfin.out, hT5, hC5⟩⟩
              case measure => simp [intOf]; omega
      · go_wp2_with fail
        go_end0
        obtain ⟨hai, ⟨hi1, S, hE, hS⟩, hT, hC⟩ := hJ.out
        have hie : i - P.length = X.length := by have := hb.out; omega
        rw [hie, List.take_length] at hS
        rw [hie, List.drop_length, List.nil_append] at hE
        exact ⟨rfl, S, hS, hE ▸ hT, hC⟩
end Go.Proofs.YtkdcnhnaiknaaaaGreat

