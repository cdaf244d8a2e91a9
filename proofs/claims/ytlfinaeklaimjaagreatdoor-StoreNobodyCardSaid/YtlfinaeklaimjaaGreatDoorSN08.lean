/- Texts of one proof, joined. -/
import Derived.Test.YtlfinaeklaimjaaGreatDoorSN07
import Derived.Maps.RangeRun
import Derived.Maps.Range
import Derived.Laws.IdiomRangeMap
import Derived.Test.YtlfinaeklaimjaaGreatDoorSN02
import Derived.Test.YtlfinaeklaimjaaGreatDoorShelf
import Derived.Test.YtlfinaeklaimjaaGreatDoorRows
set_option linter.unusedSimpArgs false
set_option linter.unusedVariables false
namespace Go.Proofs.YtlfinaeklaimjaaGreatDoor
noncomputable section
section
open Go.RowKit Go.Maps
open Go
structure RangeL (P : Program) (k : TypeId) (w : World) (m r : Nat) (L : List (Value × Value)) (done : List Value) : Prop where
  ex : ∃ es clock since seen c0, w.heap[m]? = some (.map es clock) ∧ es.toList.map (fun e => (e.key, e.val)) = L ∧ es.toList.Pairwise (fun a b => a.born ≠ b.born) ∧ (∀ e ∈ es.toList, e.born < clock) ∧
    w.heap[r]? = some (.mapIter (some m) since seen c0) ∧ (∀ e ∈ es.toList, e.born < since) ∧ since ≤ c0 ∧ since ≤ clock ∧ ∀ e ∈ es.toList, (seen.contains e.born = true ↔ e.key ∈ done)
  keys : ∀ p ∈ L, ∃ l, keyOf P k p.1 = some l
  nodup : (L.map Prod.fst).Nodup
  dn : done.Nodup
  sub : ∀ x ∈ done, x ∈ L.map Prod.fst
section
variable {P : Program} {k : TypeId} {w w1 : World} {m r : Nat} {L : List (Value × Value)} {done : List Value}
theorem RangeL.map (h : RangeL P k w m r L done) : MapL P k w m L := by
  obtain ⟨es, cl, since, seen, c0, h1, h2, h3, h4, _⟩ := h.ex
  exact ⟨⟨es, cl, h1, h2, h3, h4⟩, h.keys, h.nodup⟩
theorem RangeL.keep (h : RangeL P k w m r L done) (hm : w1.heap[m]? = w.heap[m]?) (hr : w1.heap[r]? = w.heap[r]?) : RangeL P k w1 m r L done := by
  obtain ⟨⟨es, cl, since, seen, c0, h1, h2, h3, h4, h5, h6⟩, hk, hn, hd, hs⟩ := h
  exact ⟨⟨es, cl, since, seen, c0, hm.trans h1, h2, h3, h4, hr.trans h5, h6⟩, hk, hn, hd, hs⟩
theorem RangeL.lt (h : RangeL P k w m r L done) : r < w.heap.size := by
  obtain ⟨es, cl, since, seen, c0, _, _, _, _, h5, _⟩ := h.ex
  exact (Array.getElem?_eq_some_iff.1 h5).1
theorem RangeL.ne (h : RangeL P k w m r L done) : r ≠ m := by
  obtain ⟨es, cl, since, seen, c0, h1, _, _, _, h5, _⟩ := h.ex
  rintro rfl
  rw [h1] at h5
  cases h5
theorem RangeL.grown {row : Option Nat} (h : RangeL P k w m r L done) (hg : w.grownBy w1 row) (h1 : row ≠ some m) (h2 : row ≠ some r) : RangeL P k w1 m r L done :=
  h.keep (hg.block m h.map.lt (fun e => h1 e.symm)) (hg.block r h.lt (fun e => h2 e.symm))
theorem RangeL.drew (h : RangeL P k w m r L done) : RangeL P k w.drew m r L done := h.keep rfl rfl
theorem RangeL.alloc (h : RangeL P k w m r L done) (o : Obj) : RangeL P k (w.alloc o) m r L done := h.keep (Below.heap_alloc w o m h.map.lt) (Below.heap_alloc w o r h.lt)
theorem MapL.range (h : MapL P k w m L) {t E : TypeId} (ht : P.underlying t = some (.map k E)) :
    ∃ o, (Instr.range t (.map (some m))).run P w = .ok (.pointer (some ⟨w.heap.size, 0, none⟩)) (w.alloc o) ∧ RangeL P k (w.alloc o) m w.heap.size L [] := by
  obtain ⟨⟨es, cl, h1, h2, h3, h4⟩, hk, hn⟩ := h
  refine ⟨_, run_range_map w t k E m es cl ht h1, ⟨⟨es, cl, cl, #[], cl, ?_, h2, h3, h4, heap_alloc_new w _, h4, Nat.le_refl _, Nat.le_refl _, fun e _ => by simp⟩, hk, hn, List.nodup_nil, by simp⟩⟩
  exact (Below.heap_alloc w _ m (Array.getElem?_eq_some_iff.1 h1).1).trans h1
theorem setBlock_grown (w : World) (r : Nat) (o : Obj) : w.grownBy (ChangeMaps.setBlock w r o) (some r) :=
  ⟨rfl, rfl, rfl, by simp [ChangeMaps.setBlock], fun k _ hne => by
    show (w.heap.setIfInBounds r o)[k]? = _
    rw [Array.getElem?_setIfInBounds_ne (fun e => hne (by rw [e]))]⟩
theorem left_falls {es : Array MapEntry} {seen : Array Nat} {e : MapEntry} (he : e ∈ (leftOf es seen).toList) : (leftOf es (seen.push e.born)).size < (leftOf es seen).size := by
  have h1 : leftOf es (seen.push e.born) = (leftOf es seen).filter (fun x => !(x.born == e.born)) := by
    unfold leftOf
    rw [Array.filter_filter]
    congr 1
    funext x
    rw [Array.contains_push]
    cases seen.contains x.born <;> cases (x.born == e.born) <;> rfl
  have h2 : (leftOf es (seen.push e.born)).toList = (leftOf es seen).toList.filter (fun x => !(x.born == e.born)) := by rw [h1, Array.toList_filter]
  have h3 : ((leftOf es seen).toList.filter (fun x => !(x.born == e.born))).length < (leftOf es seen).toList.length := List.length_filter_lt_length_iff_exists.2 ⟨e, he, by simp⟩
  rw [← h2] at h3
  exact h3
theorem RangeL.next (h : RangeL P k w m r L done) (ty : TypeId) :
    ((Instr.next (.pointer (some ⟨r, 0, none⟩)) false ty).run P w = .ok (.tuple #[.bool false]) w ∧ ∀ p ∈ L, p.1 ∈ done) ∨
    ∃ x v w1, (x, v) ∈ L ∧ x ∉ done ∧ (Instr.next (.pointer (some ⟨r, 0, none⟩)) false ty).run P w = .ok (.tuple #[.bool true, x, v]) w1 ∧ RangeL P k w1 m r L (done ++ [x]) ∧ w.grownBy w1 (some r) ∧ w1.heap.size = w.heap.size ∧
      (Instr.entry (.pointer (some ⟨r, 0, none⟩))).run P w1 = .ok (.tuple #[x, v]) w1 ∧ w1.rangeLeft m r < w.rangeLeft m r := by
  have hlt := h.lt
  have hne := h.ne
  obtain ⟨⟨es, cl, since, seen, c0, h1, h2, h3, h4, h5, h6, h7, h7', h8⟩, hk, hn, hd, hs⟩ := h
  rcases run_next_at (P := P) w ty r m since c0 seen es cl h5 h1 h6 h7 with ⟨h0, hrun⟩ | ⟨e, he, w0, hw0, hrun⟩
  · refine .inl ⟨hrun, fun p hp => ?_⟩
    rw [← h2] at hp
    obtain ⟨e, he, rfl⟩ := List.mem_map.1 hp
    rw [← h8 e he]
    by_cases hc : seen.contains e.born = true
    · exact hc
    · exfalso
      have : e ∈ leftOf es seen := by
        unfold leftOf
        rw [Array.mem_filter]
        exact ⟨by simpa using he, by simpa using hc⟩
      have h9 := Array.size_pos_of_mem this
      omega
  · have hel : e ∈ es.toList ∧ seen.contains e.born = false := by
      unfold leftOf at he
      have he' := Array.mem_toList_iff.1 he
      rw [Array.mem_filter] at he'
      exact ⟨by simpa using he'.1, by simpa using he'.2⟩
    have hb0 : w0.heap = w.heap := by rcases hw0 with rfl | rfl <;> rfl
    have hw0g : w.grownBy w0 (some r) := by
      rcases hw0 with rfl | rfl
      · exact ⟨rfl, rfl, rfl, Nat.le_refl _, fun _ _ _ => rfl⟩
      · exact ⟨rfl, rfl, rfl, Nat.le_refl _, fun _ _ _ => rfl⟩
    have hnd : e.key ∉ done := fun hc => by
      rw [← h8 e hel.1] at hc
      rw [hel.2] at hc
      cases hc
    have hr1 : (ChangeMaps.setBlock w0 r (.mapIter (some m) since (seen.push e.born) cl)).heap[r]? = some (.mapIter (some m) since (seen.push e.born) cl) := by
      show (w0.heap.setIfInBounds r _)[r]? = _
      rw [Array.getElem?_setIfInBounds, if_pos rfl, if_pos (by rw [hb0]; exact hlt)]
    have hm1 : (ChangeMaps.setBlock w0 r (.mapIter (some m) since (seen.push e.born) cl)).heap[m]? = some (.map es cl) := by
      show (w0.heap.setIfInBounds r _)[m]? = _
      rw [Array.getElem?_setIfInBounds_ne hne, hb0, h1]
    have hnb : (es.toList.map (fun x => x.born)).Nodup := by
      rw [List.Nodup, List.pairwise_map]
      exact h3
    refine .inr ⟨e.key, e.val, _, by rw [← h2]; exact List.mem_map.2 ⟨e, hel.1, rfl⟩, hnd, hrun, ⟨⟨es, cl, since, seen.push e.born, cl, hm1, h2, h3, h4, hr1, h6, h7', h7', ?_⟩, hk, hn, ?_, ?_⟩, hw0g.trans (setBlock_grown w0 r _), by simp [ChangeMaps.setBlock, hb0], run_entry_at _ r m since seen es cl e hr1 hm1 hel.1 hnb, by unfold World.rangeLeft; rw [hm1, hr1, h1, h5]; exact left_falls he⟩
    · intro e' he'
      have hnk : (es.toList.map (·.key)).Nodup := by rw [← h2, List.map_map] at hn; exact hn
      obtain ⟨i, hi⟩ := List.getElem?_of_mem hel.1
      obtain ⟨j, hj⟩ := List.getElem?_of_mem he'
      rw [Array.getElem?_toList] at hi hj
      have hkb : e'.born = e.born ↔ e'.key = e.key := by
        constructor
        · intro hb
          obtain rfl := born_at h3 hj hi hb
          rw [hi] at hj
          cases hj
          rfl
        · intro hb
          obtain rfl := nodup_at hnk hj hi hb
          rw [hi] at hj
          cases hj
          rfl
      rw [Array.contains_push, Bool.or_eq_true, beq_iff_eq, h8 e' he', List.mem_append, List.mem_singleton, ← hkb]
    · rw [List.nodup_append]
      refine ⟨hd, by simp, ?_⟩
      intro a ha b hb
      simp at hb
      rintro rfl
      subst hb
      exact hnd ha
    · intro x hx
      rcases List.mem_append.1 hx with hx | hx
      · exact hs x hx
      · simp at hx
        subst hx
        rw [← h2, List.map_map]
        exact List.mem_map.2 ⟨e, hel.1, rfl⟩
theorem MapL.len (h : MapL P k w m L) {t E : TypeId} (ht : P.underlying t = some (.map k E)) (ty : TypeId) : (Builtin.len_ #[t] ty #[.map (some m)]).run P w = .ok (.int .i64 L.length) w := by
  obtain ⟨⟨es, cl, h1, h2, _⟩, _, _⟩ := h
  have hg : (getObj m).run P w = .ok (.map es cl) w := by simp [getObj, Sem.run, h1]
  have hl : L.length = es.size := by rw [← h2]; simp
  simp only [Builtin.len_, List.getElem?_toArray, List.getElem?_cons_zero, Sem.run_bind, run_underlying ht, Result.andThen_ok, hg, Sem.run_pure]
  rw [hl]
  rfl
theorem MapL.delete (h : MapL P k w m L) (K : Keyed P k) {t E : TypeId} (ht : P.underlying t = some (.map k E)) {x : Value} {l : Lit} (hx : keyOf P k x = some l) (kt ty : TypeId) :
    ∃ L' w1, (Builtin.delete_ #[t, kt] ty #[.map (some m), x]).run P w = .ok (.tuple #[]) w1 ∧ MapL P k w1 m L' ∧ (∀ p, p ∈ L' ↔ p ∈ L ∧ p.1 ≠ x) ∧ w.grownBy w1 (some m) ∧ L'.Sublist L := by
  have h' := h
  obtain ⟨⟨es, cl, h1, h2, h3, h4⟩, hk, hn⟩ := h
  have hg : (getObj m).run P w = .ok (.map es cl) w := by simp [getObj, Sem.run, h1]
  have hlt := h'.lt
  rcases h'.find K hx h1 w with ⟨hr, hno⟩ | ⟨j, e, hr, hj, he, hm⟩
  · refine ⟨L, _, ?_, ⟨⟨es, cl, setObj_heap hlt, h2, h3, h4⟩, hk, hn⟩, fun p => ⟨fun hp => ⟨hp, hno p hp⟩, fun hp => hp.1⟩, setObj_grown _, List.Sublist.refl _⟩
    simp only [Builtin.delete_, List.getElem?_toArray, List.getElem?_cons_zero, List.getElem?_cons_succ, Sem.run_bind, run_underlying ht, Result.andThen_ok, hg, Sem.run_pure, K.check w es.isEmpty hx, hr, setObj_run h1]
  · have hjs : j < es.size := (Array.getElem?_eq_some_iff.1 hj).1
    have hel : (es.eraseIdxIfInBounds j).toList = es.toList.eraseIdx j := by
      unfold Array.eraseIdxIfInBounds
      rw [dif_pos hjs, Array.toList_eraseIdx]
    have hsub : ((es.eraseIdxIfInBounds j).toList.map (fun e => (e.key, e.val))).Sublist L := by
      rw [hel, ← h2]
      exact (List.eraseIdx_sublist _ _).map _
    have hnk : (es.toList.map (·.key)).Nodup := by rw [← h2, List.map_map] at hn; exact hn
    refine ⟨(es.eraseIdxIfInBounds j).toList.map (fun e => (e.key, e.val)), _, ?_, ⟨⟨_, cl, setObj_heap hlt, rfl, ?_, ?_⟩, ?_, ?_⟩, ?_, setObj_grown _, hsub⟩
    · simp only [Builtin.delete_, List.getElem?_toArray, List.getElem?_cons_zero, List.getElem?_cons_succ, Sem.run_bind, run_underlying ht, Result.andThen_ok, hg, Sem.run_pure, K.check w es.isEmpty hx, hr, setObj_run h1]
    · rw [hel]
      exact h3.sublist (List.eraseIdx_sublist _ _)
    · intro e he
      rw [hel] at he
      exact h4 e ((List.eraseIdx_sublist _ _).subset he)
    · exact fun p hp => hk p (hsub.subset hp)
    · exact hn.sublist (hsub.map _)
    · intro p
      constructor
      · intro hp
        refine ⟨hsub.subset hp, ?_⟩
        rw [hel] at hp
        obtain ⟨e', he', rfl⟩ := List.mem_map.1 hp
        intro hkx
        obtain ⟨i, hi, hie⟩ := List.mem_eraseIdx_iff_getElem?.1 he'
        have := nodup_at hnk (by rw [← Array.getElem?_toList]; exact hie) hj (by rw [he]; exact hkx)
        exact hi this
      · rintro ⟨hp, hkx⟩
        rw [← h2] at hp
        obtain ⟨e', he', rfl⟩ := List.mem_map.1 hp
        rw [hel]
        refine List.mem_map.2 ⟨e', ?_, rfl⟩
        obtain ⟨i, hi⟩ := List.getElem?_of_mem he'
        refine List.mem_eraseIdx_iff_getElem?.2 ⟨i, ?_, hi⟩
        rintro rfl
        rw [Array.getElem?_toList, hj] at hi
        cases hi
        exact hkx he
end
end
section
open Go.RowKit Go.Maps
set_option maxRecDepth 100000 in
theorem elemS : Elem Tryz.prog 24 9 1 16 := ⟨Tryz.underlying24, ⟨_, _, rfl, rfl, rfl, rfl, rfl⟩, by omega, by omega⟩
def okb (c : UInt8) : Bool := (97 ≤ c.toNat && c.toNat ≤ 122) || (48 ≤ c.toNat && c.toNat ≤ 57) || c.toNat == 45 || c.toNat == 46
def letters : List UInt8 := [97, 98, 99, 100, 101, 102, 103, 104, 105, 106, 107, 108, 109, 110, 111, 112, 113, 114, 115, 116, 117, 118, 119, 120, 121, 122, 48, 49, 50, 51, 52, 53, 54, 55, 56, 57, 45, 46]
def namedM (s : List UInt8) : Bool := 1 ≤ s.length && s.length ≤ 64 && s.all okb
theorem okb_is (c : UInt8) : decide (Lib.indexByte letters c < 0) = !okb c := by
  have h : ∀ n : Fin 256, decide (Lib.indexByte letters (UInt8.ofNat n.val) < 0) = !okb (UInt8.ofNat n.val) := by decide +kernel
  have := h ⟨c.toNat, c.toNat_lt⟩
  simpa using this
theorem letter_any (y : UInt8) (w : World) : Calls Tryz.prog 173 #[.string ⟨letters.toArray⟩, .int .u8 y.toNat] w fun e w' => ∃ v : Int, e = .returned (.int .i64 v) ∧ decide (v < 0) = !okb y ∧ w' = w := by
  refine (Tryz.strings_IndexByte ⟨letters.toArray⟩ y.toNat w).mono ?_
  rintro e w' ⟨rfl, rfl⟩
  have hcy : ((y.toNat : Int)).toNat.toUInt8 = y := by simp
  rw [hcy]
  exact ⟨_, rfl, okb_is y, rfl⟩
set_option maxRecDepth 100000 in
set_option maxHeartbeats 1000000 in
theorem named_any (s : List UInt8) (w : World) (hs : s.length ≤ 9223372036854775807) :
    Calls Tryz.prog 110 #[.string ⟨s.toArray⟩] w fun e w' => e = .returned (.bool (namedM s)) ∧ w' = w := by
  obtain ⟨n, hn⟩ : ∃ n, n = s.length := ⟨_, rfl⟩
  have hsz : (⟨s.toArray⟩ : ByteArray).size = n := by rw [hn]; exact ByteArray.size_mk_toArray s
  by_cases h1 : n < 1
  · have hm : namedM s = false := by unfold namedM; rw [← hn]; simp; omega
    rw [hm]
    replace hn := hide hn
    go_enter Tryz.func110, Tryz.ntmps110
    go_wp2_with fail
    go_ret
    exact ⟨rfl, rfl⟩
  · by_cases h2 : 64 < n
    · have hm : namedM s = false := by unfold namedM; rw [← hn]; simp; omega
      rw [hm]
      replace hn := hide hn
      go_enter Tryz.func110, Tryz.ntmps110
      go_wp2_with fail
      go_ret
      exact ⟨rfl, rfl⟩
    · have hm : namedM s = s.all okb := by unfold namedM; rw [← hn]; simp; omega
      rw [hm]
      replace hn := hide hn
      go_enter Tryz.func110, Tryz.ntmps110
      go_wp2_with fail
      go_loopw [14] (fun s14 wr => ∃ i : Nat, s14 = .int .i64 i ∧ i ≤ n ∧ Hid (s.all okb = (s.drop i).all okb) ∧ wr = w) (fun s14 _ => n - (intOf s14).toNat)
      case atStart => exact ⟨0, rfl, by omega, hide rfl, rfl⟩
      case round =>
        obtain ⟨i, rfl, hi, hall, rfl⟩ := hrel
        by_cases hin : i < n
        · go_wp2_with fail
          have hil : i < s.length := by rw [← hn.out]; exact hin
          obtain ⟨x, hx⟩ : ∃ x, x = s[i] := ⟨_, rfl⟩
          have hdr : (s.drop i).all okb = (okb x && (s.drop (i + 1)).all okb) := by rw [List.drop_eq_getElem_cons hil, List.all_cons, hx]
          generalize hgx : (⟨s.toArray⟩ : ByteArray)[i]'(by rw [hsz]; exact hin) = y
          have hyx : y = x := by rw [hx, ← hgx]; rfl
          subst hyx
          replace hdr := hide hdr
          replace hgx := hide hgx
          replace hx := hide hx
          refine (letter_any y wr).mono ?_
          rintro e w2 ⟨v, rfl, hv, rfl⟩
          cases hok : okb y with
          | true =>
            rw [hok] at hv hdr
            have hv' : decide (v < 0) = false := hv
            have hd2 : Hid (s.all okb = (s.drop (i + 1)).all okb) := by rw [hall.out, hdr.out]; exact Bool.true_and _
            replace hok := hide hok
            clear hv hdr
            go_wp2_with fail
            go_roundw
            case rel => exact ⟨i + 1, by go_num, by omega, hd2, trivial⟩
            case measure => simp [intOf]; omega
          | false =>
            rw [hok] at hv hdr
            have hv' : decide (v < 0) = true := hv
            have hd2 : Hid (s.all okb = false) := by rw [hall.out, hdr.out]; exact Bool.false_and _
            replace hok := hide hok
            clear hv hdr
            go_wp2_with fail
            go_ret
            rw [hd2.out]
            exact ⟨rfl, rfl⟩
        · have hd2 : s.all okb = true := by
            rw [hall.out, List.drop_eq_nil_of_le (by rw [← hn.out]; omega)]
            rfl
          replace hd2 := hide hd2
          go_wp2_with fail
          go_ret
          rw [hd2.out]
          exact ⟨rfl, rfl⟩
end
section
open Go.RowKit Go.Maps
def str (s : List UInt8) : Value := .string ⟨s.toArray⟩
end
section
open Go.RowKit Go.Maps
set_option maxRecDepth 100000 in
theorem map_nil (m : Nat) (w : World) : (binOp .eql 98 (.map (some m)) (.map none)).run Tryz.prog w = .ok (.bool false) w := by kernel_rfl
end
section
open Go.RowKit Go.Maps
theorem str_inj {a b : List UInt8} (h : str a = str b) : a = b := by
  unfold str at h
  injection h with h
  injection h with h
  simpa using h
theorem nodup_of_map {α β : Type} (f : α → β) : ∀ {l : List α}, (l.map f).Nodup → l.Nodup
  | [], _ => List.nodup_nil
  | a :: l, h => by
    rw [List.map_cons, List.nodup_cons] at h
    rw [List.nodup_cons]
    exact ⟨fun ha => h.1 (List.mem_map.2 ⟨a, ha, rfl⟩), nodup_of_map f h.2⟩
end
section
open Go.RowKit Go.Maps
def sortN (ns : List (List UInt8)) : List (List UInt8) := ns.mergeSort fun x y => decide (x ≤ y)
theorem sortN_perm (ns : List (List UInt8)) : (sortN ns).Perm ns := List.mergeSort_perm _ _
theorem bytes_le_trans {a b c : List UInt8} (h : decide (a ≤ b) = true) (k : decide (b ≤ c) = true) : decide (a ≤ c) = true := decide_eq_true (List.le_trans (of_decide_eq_true h) (of_decide_eq_true k))
theorem bytes_le_total (a b : List UInt8) : (decide (a ≤ b) || decide (b ≤ a)) = true := by
  rcases List.le_total a b with h | h
  · simp [h]
  · simp [h]
theorem sortN_pw (ns : List (List UInt8)) : (sortN ns).Pairwise (fun a b => a ≤ b) := by
  have := List.pairwise_mergeSort (le := fun (x y : List UInt8) => decide (x ≤ y)) (fun a b c => bytes_le_trans) (fun a b => bytes_le_total a b) ns
  exact this.imp fun h => of_decide_eq_true h
theorem sorted_eq : ∀ {a b : List (List UInt8)}, a.Perm b → a.Pairwise (fun x y => x ≤ y) → b.Pairwise (fun x y => x ≤ y) → a = b
  | a, b, hp, ha, hb => List.Perm.eq_of_pairwise (fun x y _ _ h k => List.le_antisymm h k) ha hb hp
theorem sortN_of {ns ks : List (List UInt8)} (h : ns.Perm ks) : sortN ns = sortN ks := sorted_eq ((sortN_perm ns).trans (h.trans (sortN_perm ks).symm)) (sortN_pw ns) (sortN_pw ks)
theorem sub_len {α : Type} : ∀ (D E : List α), D.Nodup → (∀ e ∈ D, e ∈ E) → D.length ≤ E.length
  | [], E, _, _ => Nat.zero_le _
  | a :: D, E, hn, hs => by
    rw [List.nodup_cons] at hn
    obtain ⟨E1, E2, rfl⟩ := List.append_of_mem (hs a (by simp))
    have := sub_len D (E1 ++ E2) hn.2 fun e he => by
      have h1 := hs e (List.mem_cons_of_mem _ he)
      rcases List.mem_append.1 h1 with h2 | h2
      · exact List.mem_append_left _ h2
      · rcases List.mem_cons.1 h2 with h3 | h3
        · exact absurd (h3 ▸ he) hn.1
        · exact List.mem_append_right _ h3
    simp only [List.length_append, List.length_cons] at *
    omega
end
section
open Go.RowKit Go.Maps Go.Sort
theorem sort_own (base : Nat) (A : Option Addr) (n c : Nat) (ns : List (List UInt8)) (w : World) (hn : n = ns.length) (hb : w.ownsRow base 9 1 (.slice A n c) n (ns.map str)) (hsz : n ≤ 1048576) :
    Calls Tryz.prog 171 #[.slice A n c] w fun e w' => e = .returned (.tuple #[]) ∧ w'.ownsRow base 9 1 (.slice A n c) n ((ns.mergeSort fun x y => decide (x ≤ y)).map str) ∧ Chg (fun k => ∃ x, A = some x ∧ x.block = k) w w' := by
  subst hn
  obtain ⟨h1, h3⟩ := hb
  rcases h3 with ⟨hv, h0⟩ | ⟨g, cap, cur, hv, hbg, hg, hnc, hcm, hs, ht⟩
  · have h0 : ns = [] := List.eq_nil_of_length_eq_zero h0
    subst h0
    cases hv
    refine (Tryz.slices_Sort_string_none none 0 w).mono ?_
    rintro e w' ⟨rfl, rfl⟩
    exact ⟨rfl, by simpa using World.ownsRow_nil _ _ _ _, Chg.refl _ _⟩
  · cases hv
    have hg : Row w g 9 cur := hg
    rw [Nat.mul_one] at ht hs
    have hH : Holds encStr w g 0 ns.toArray := by
      intro j hj
      simp at hj
      refine ⟨?_, hg.free _⟩
      rw [Nat.zero_add, cell_of_row w g j cur 9 (0, 0) hg]
      have : (cur.toList.take ns.length)[j]? = (ns.map str)[j]? := by rw [ht]
      rw [List.getElem?_take, if_pos hj] at this
      simp [hj] at this
      simpa [hj, encStr, str] using this
    refine (Tryz.slices_Sort_string g 0 c ns w hH hg.lt (by omega)).mono ?_
    rintro e w' ⟨rfl, k, os, rfl⟩
    obtain ⟨so, hso⟩ : ∃ so, so = (ns.mergeSort fun x y => decide (x ≤ y)) := ⟨_, rfl⟩
    have hsl : so.length = ns.length := by rw [hso]; exact List.length_mergeSort _
    rw [← hso]
    have hrow : Row (grow (putRow encStr (Sort.ahead w k) g 0 so.toArray) os) g 9 (putCells encStr 0 so.toArray cur) := by
      show ((w.heap.modify g (onCells (putCells encStr 0 so.toArray))) ++ os)[g]? = _
      rw [Array.getElem?_append_left (by simpa using hg.lt), Array.getElem?_modify, if_pos rfl]
      have : w.heap[g]? = some (.cells cur 9 (0, 0)) := hg
      rw [this]
      rfl
    refine ⟨rfl, ⟨by simp [hsl], .inr ⟨g, c, _, rfl, hbg, hrow, hnc, hcm, ?_, ?_⟩⟩, ⟨rfl, rfl, rfl, ?_, ?_⟩⟩
    · simp [putCells]
      exact hs
    · rw [Nat.mul_one]
      apply List.ext_getElem?
      intro i
      rw [List.getElem?_take]
      split
      · rename_i hi
        have hic : i < cur.size := by
          rw [List.length_map] at h1
          omega
        have his : i < so.length := by omega
        rw [Array.getElem?_toList]
        unfold putCells
        rw [Array.getElem?_mapIdx, Array.getElem?_eq_getElem hic]
        simp [his, encStr, str]
      · rename_i hi
        rw [List.getElem?_eq_none (by rw [List.length_map]; omega)]
    · show w.heap.size ≤ ((w.heap.modify g (onCells (putCells encStr 0 so.toArray))) ++ os).size
      simp
    · intro j hj hne
      show ((w.heap.modify g (onCells (putCells encStr 0 so.toArray))) ++ os)[j]? = _
      rw [Array.getElem?_append_left (by simpa using hj), Array.getElem?_modify, if_neg (fun e => hne ⟨_, rfl, e⟩)]
set_option maxRecDepth 100000 in
set_option maxHeartbeats 1000000 in
theorem names_keys (d m : Nat) (E : List (List UInt8)) (L : List (Value × Value)) (w : World) (c0 : w.cell? ⟨d, 0, none⟩ = some (.map (some m))) (hL : MapL Tryz.prog 9 w m L) (hkeys : L.map Prod.fst = E.map str) (hu : E.length ≤ 1024) :
    Calls Tryz.prog 107 #[.pointer (some ⟨d, 0, none⟩)] w fun e w' => ∃ A n c, e = .returned (.slice A n c) ∧ n = E.length ∧ w'.ownsRow w.heap.size 9 1 (.slice A n c) n ((sortN E).map str) ∧ Ext w w' := by
  have hEn : E.Nodup := nodup_of_map str (by rw [← hkeys]; exact hL.nodup)
  have hmem : ∀ x v, (x, v) ∈ L → ∃ e ∈ E, x = str e := fun x v hx => by
    have : x ∈ E.map str := by rw [← hkeys]; exact List.mem_map.2 ⟨_, hx, rfl⟩
    obtain ⟨e, he, rfl⟩ := List.mem_map.1 this
    exact ⟨e, he, rfl⟩
  have hback : ∀ e ∈ E, ∃ v, (str e, v) ∈ L := fun e he => by
    have : str e ∈ L.map Prod.fst := by rw [hkeys]; exact List.mem_map.2 ⟨e, he, rfl⟩
    obtain ⟨p, hp, h2⟩ := List.mem_map.1 this
    obtain ⟨a, b⟩ := p
    simp only at h2
    subst h2
    exact ⟨b, hp⟩
  have hml := hL.lt
  obtain ⟨o, hrange, hRL⟩ := hL.range Tryz.underlying98
  go_enter Tryz.func107, Tryz.ntmps107
  go_wp2_with fail
  have hE0 : Ext w (w.alloc o) := (Ext.refl w).alloc o
  have hsz0 : w.heap.size + 1 ≤ (w.alloc o).heap.size := by simp
  go_loopw [3] (fun s3 wr => ∃ (D : List (List UInt8)) (n : Nat) (A : Option Addr) (c : Nat), s3 = .slice A n c ∧ Hid (n = D.length) ∧ Hid (wr.ownsRow (w.heap.size + 1) 9 1 (.slice A n c) n (D.map str)) ∧ Hid (RangeL Tryz.prog 9 wr m w.heap.size L (D.map str)) ∧ Hid (∀ e ∈ D, e ∈ E) ∧ w.heap.size + 1 ≤ wr.heap.size ∧ Ext w wr) (fun _ wr => wr.rangeLeft m w.heap.size)
  case atStart => exact ⟨[], 0, none, 0, rfl, hide rfl, hide (World.ownsRow_nil _ _ _ _), hRL, hide (by simp), hsz0, hE0⟩
  case round =>
    obtain ⟨D, n, A, c, rfl, hnD, hO, hR, hD, hsz, hE⟩ := hrel
    have hDn : D.Nodup := nodup_of_map (str) hR.out.dn
    have hDle : D.length ≤ E.length := by
      exact sub_len D E hDn hD.out
    replace hDle := hide hDle
    rcases hR.out.next 0 with ⟨hrun, hall⟩ | ⟨x, v, w2, hxv, hxd, hrun, hR2, hg2, hs2, hent, hleft⟩
    · have hperm : D.Perm E := (List.perm_ext_iff_of_nodup hDn hEn).2 fun a => ⟨fun h => hD.out a h, fun h => by
        obtain ⟨v, hv⟩ := hback a h
        have := hall _ hv
        obtain ⟨b, hb, hbe⟩ := List.mem_map.1 this
        rw [← str_inj hbe]
        exact hb⟩
      have hn : n = E.length := hnD.out.trans hperm.length_eq
      replace hn := hide hn
      have hn2 : n ≤ 1048576 := by rw [hn.out]; omega
      have hss : sortN D = sortN E := sortN_of hperm
      replace hss := hide hss
      have hs := sort_own (w.heap.size + 1) A n c D wr hnD.out hO.out hn2
      go_wp2_with fail
      refine hs.mono ?_
      rintro e w3 ⟨rfl, hb3, hc3⟩
      have hE3 : Ext w w3 := hE.chg hc3 (by
        rintro i hi ⟨a, ha, hk⟩
        have := (Buf.of_own hO.out).base_le a ha
        omega)
      go_wp2_with fail
      go_ret
      refine ⟨A, n, c, rfl, hn.out, ?_, hE3⟩
      rw [← hss.out]
      obtain ⟨b1, b3⟩ := hb3
      refine ⟨b1, ?_⟩
      rcases b3 with b3 | ⟨g, cp, cur, r1, r2, r3⟩
      · exact .inl b3
      · exact .inr ⟨g, cp, cur, r1, by omega, r3⟩
    · obtain ⟨e0, he0, rfl⟩ := hmem _ _ hxv
      have hE2 : Ext w w2 := hE.grown hg2 (fun k hk => by cases hk; exact Nat.le_refl _)
      have hsz2 : w.heap.size + 1 ≤ w2.heap.size := by rw [hs2]; exact hsz
      have hb0 := (Buf.of_own hO.out).base_le
      have hO2 : w2.ownsRow (w.heap.size + 1) 9 1 (.slice A n c) n (D.map str) := by
        refine (Chg.of_grown (S := fun k => k = w.heap.size) hg2 (fun k _ hk => by cases hk; rfl)).owns hO.out ?_
        rintro g hg hgk
        obtain ⟨cur, _, h9⟩ := owns_row hO.out hg
        omega
      have hnl : n + 1 ≤ 1025 := by rw [hnD.out]; have := hDle.out; omega
      have hgb : (Value.slice A n c).ownBlock ≠ some m ∧ (Value.slice A n c).ownBlock ≠ some w.heap.size := by
        constructor
        · intro hg
          obtain ⟨cur, _, h9⟩ := owns_row hO.out hg
          omega
        · intro hg
          obtain ⟨cur, _, h9⟩ := owns_row hO.out hg
          omega
      have hgo : ∀ k, (Value.slice A n c).ownBlock = some k → w.heap.size ≤ k := by
        intro k hg
        obtain ⟨cur, _, h9⟩ := owns_row hO.out hg
        omega
      replace hgb := hide hgb
      replace hgo := hide hgo
      replace hs2 := hide hs2
      replace hb0 := hide hb0
      clear hml
      obtain ⟨s0, hs0⟩ : ∃ s0, str e0 = .string s0 := ⟨_, rfl⟩
      rw [hs0] at hrun hent hR2
      replace hs0 := hide hs0
      go_wp2_with (at_builtin; refine wpList_appN (us := [.string s0]) elemS hO2 (.tmp 14) (.tmp 16) rfl rfl rfl rfl (one_of rfl) (by simp; omega) (by omega) (fun A3 c3 w3 ho3 hg3 hl3 => ?_))
      have hE3 : Ext w w3 := hE2.grown hg3 hgo.out
      have hR3 : RangeL Tryz.prog 9 w3 m w.heap.size L ((D ++ [e0]).map str) := by
        rw [List.map_append, List.map_cons, List.map_nil, hs0.out]
        exact hR2.grown hg3 hgb.out.1 hgb.out.2
      have ho3' : w3.ownsRow (w.heap.size + 1) 9 1 (.slice A3 (n + 1) c3) (n + 1) ((D ++ [e0]).map str) := by
        rw [List.map_append, List.map_cons, List.map_nil, hs0.out]
        exact ho3
      have hsz3 : w.heap.size + 1 ≤ w3.heap.size := Nat.le_trans hsz2 hg3.size
      have hl3' : w3.rangeLeft m w.heap.size < wr.rangeLeft m w.heap.size := by
        have h1 : w3.heap[m]? = w2.heap[m]? := hg3.block m hR2.map.lt (fun e => hgb.out.1 e.symm)
        have h2 : w3.heap[w.heap.size]? = w2.heap[w.heap.size]? := hg3.block _ hR2.lt (fun e => hgb.out.2 e.symm)
        have h3 : w3.rangeLeft m w.heap.size = w2.rangeLeft m w.heap.size := by unfold World.rangeLeft; rw [h1, h2]
        rw [h3]
        exact hleft
      go_roundw
      case rel => exact ⟨D ++ [e0], n + 1, A3, c3, rfl, hide (by rw [List.length_append]; simp; exact hnD.out), ho3', hR3, hide (fun e he => by
        rcases List.mem_append.1 he with he | he
        · exact hD.out e he
        · simp at he; subst he; exact he0), hsz3, hE3⟩
      case measure => exact hl3'
end
end
end Go.Proofs.YtlfinaeklaimjaaGreatDoor
namespace Go.Proofs.YtlfinaeklaimjaaGreatDoor.Am
noncomputable section
open Go.Proofs.YtlfinaeklaimjaaGreatDoor Go.RowKit Go.Maps
section
variable {base gm : Nat} {f : Ren} {A : AS} {w w1 : World}
theorem Step.fresh (hW : WR base gm f A w) (hlt : A.nx < 1000000000) (hE : Ext w w1) {o : AObj} {l : Loc} (hge : w.heap.size ≤ l.blk) (ho : ObR (f.put A.nx l) w1 o l) :
    Step base gm f A w (f.put A.nx l) ⟨HT.set 64 A.h A.nx (some o), A.nx + 1⟩ w1 := by
  have hnone := hW.fr A.nx (Nat.le_refl _)
  have hle := Ren.le_put l hnone
  have hw1 : WR base gm (f.put A.nx l) ⟨A.h, A.nx + 1⟩ w1 := by
    have h2 : WR base gm f ⟨A.h, A.nx + 1⟩ w := ⟨hW.ob, hW.inj, hW.low, fun k o hk => by have := hW.lt k o hk; show k < A.nx + 1; omega, fun k hk => hW.fr k (by have : A.nx + 1 ≤ k := hk; omega), hW.gl, Nat.le_succ_of_le hW.gm, hW.sz, by show A.nx + 1 < _; omega⟩
    refine h2.widen hle (fun k o hk => ?_) (fun k hk => ?_) hE.size (fun b hb => Below.block hE b hb)
    · have := hW.lt k o hk
      exact Ren.put_other f l (by omega)
    · have hk : A.nx + 1 ≤ k := hk
      rw [Ren.put_other f l (by omega)]
      exact hW.fr k (by omega)
  have hg0 : A.h.get A.nx = none := by
    cases hh : A.h.get A.nx with
    | none => rfl
    | some o2 => have := hW.lt _ _ hh; omega
  have hget : ∀ m, (HT.set 64 A.h A.nx (some o)).get m = if m = A.nx then some o else A.h.get m := fun m => HT.get_set 64 A.h A.nx m _ (Nat.lt_trans (by omega : A.nx + 1 < 1000000001) (by decide))
  refine ⟨fun k hk => Ren.put_other f l (by omega), Nat.le_succ _, Chg.of_ext hE _, fun b ⟨k, o2, l2, hgk, hk, hk2, e⟩ => ?_, ?_⟩
  · have hk : (HT.set 64 A.h A.nx (some o)).get k = some o2 := hk
    rw [hget] at hk
    by_cases hkk : k = A.nx
    · subst hkk
      rw [Ren.put_same] at hk2
      cases hk2
      left
      omega
    · rw [if_neg hkk] at hk
      rw [Ren.put_other f l hkk] at hk2
      exact .inr ⟨k, o2, l2, hgk, hk, hk2, e⟩
  · refine hw1.insert (id := A.nx) (Nat.lt_succ_self _) hg0 (Ren.put_same f _ l) ho (Nat.le_trans hW.sz hge) hW.gm (fun k o2 l2 hk e2 heq => ?_)
    have hk' := hW.lt k o2 hk
    rw [Ren.put_other f l (by omega)] at e2
    obtain ⟨l3, e3, h3⟩ := hW.ob k o2 hk
    rw [e2] at e3
    cases e3
    have := h3.lt
    omega
end
def leN : List UInt8 → List UInt8 → Bool
  | [], _ => true
  | _ :: _, [] => false
  | a :: x, b :: y => match Nat.blt a.toNat b.toNat with
    | true => true
    | false => match Nat.blt b.toNat a.toNat with
      | true => false
      | false => leN x y
theorem leN_spec : ∀ a b : List UInt8, (leN a b = true → ¬ b < a) ∧ (leN a b = false → ¬ a < b)
  | [], b => ⟨fun _ => List.not_lt_nil b, fun h => by cases h⟩
  | a :: x, [] => ⟨fun h => (by cases h), fun _ => List.not_lt_nil _⟩
  | a :: x, b :: y => by
    have ih := leN_spec x y
    have e1 : (a < b) ↔ a.toNat < b.toNat := UInt8.lt_iff_toNat_lt
    have e2 : (b < a) ↔ b.toNat < a.toNat := UInt8.lt_iff_toNat_lt
    rw [leN, List.cons_lt_cons_iff, List.cons_lt_cons_iff]
    cases h1 : Nat.blt a.toNat b.toNat with
    | true =>
      have := blt_lt h1
      refine ⟨fun _ h => ?_, fun h => by cases h⟩
      rcases h with h | ⟨h, _⟩
      · have := e2.1 h; omega
      · rw [h] at this; omega
    | false =>
      have n1 : ¬ a.toNat < b.toNat := fun h => by rw [show Nat.blt a.toNat b.toNat = true from Nat.ble_eq_true_of_le h] at h1; cases h1
      cases h2 : Nat.blt b.toNat a.toNat with
      | true =>
        have := blt_lt h2
        refine ⟨fun h => (by cases h), fun _ h => ?_⟩
        rcases h with h | ⟨h, _⟩
        · exact n1 (e1.1 h)
        · rw [h] at this; omega
      | false =>
        have n2 : ¬ b.toNat < a.toNat := fun h => by rw [show Nat.blt b.toNat a.toNat = true from Nat.ble_eq_true_of_le h] at h2; cases h2
        refine ⟨fun h hh => ?_, fun h hh => ?_⟩
        · rcases hh with hh | ⟨_, hh⟩
          · exact n2 (e2.1 hh)
          · exact ih.1 h hh
        · rcases hh with hh | ⟨_, hh⟩
          · exact n1 (e1.1 hh)
          · exact ih.2 h hh
def insN (x : List UInt8) : List (List UInt8) → List (List UInt8)
  | [] => [x]
  | y :: r => match leN x y with
    | true => x :: y :: r
    | false => y :: insN x r
def insS : List (List UInt8) → List (List UInt8)
  | [] => []
  | x :: r => insN x (insS r)
theorem insN_perm (x : List UInt8) : ∀ l, (insN x l).Perm (x :: l)
  | [] => .refl _
  | y :: r => by
    rw [insN]
    cases leN x y with
    | true => exact .refl _
    | false => exact ((insN_perm x r).cons y).trans (.swap x y r)
theorem insS_perm : ∀ l, (insS l).Perm l
  | [] => .refl _
  | x :: r => (insN_perm x (insS r)).trans ((insS_perm r).cons x)
theorem insN_pw (x : List UInt8) : ∀ l : List (List UInt8), l.Pairwise (fun a b => a ≤ b) → (insN x l).Pairwise fun a b => a ≤ b
  | [], _ => List.pairwise_singleton _ _
  | y :: r, h => by
    have h2 := List.pairwise_cons.1 h
    rw [insN]
    cases e : leN x y with
    | true =>
      have hxy : x ≤ y := (leN_spec x y).1 e
      refine List.pairwise_cons.2 ⟨fun z hz => ?_, h⟩
      rcases List.mem_cons.1 hz with rfl | hz
      · exact hxy
      · exact List.le_trans hxy (h2.1 z hz)
    | false =>
      have hyx : y ≤ x := (leN_spec x y).2 e
      refine List.pairwise_cons.2 ⟨fun z hz => ?_, insN_pw x r h2.2⟩
      have := (insN_perm x r).mem_iff.1 hz
      rcases List.mem_cons.1 this with rfl | hz
      · exact hyx
      · exact h2.1 z hz
theorem insS_pw : ∀ l, (insS l).Pairwise fun a b => a ≤ b
  | [] => List.Pairwise.nil
  | x :: r => insN_pw x _ (insS_pw r)
theorem insS_eq (l : List (List UInt8)) : insS l = sortN l := sorted_eq ((insS_perm l).trans (sortN_perm l).symm) (insS_pw l) (sortN_pw l)
def keysOf : List (Value × Value × Nat) → Option (List (List UInt8))
  | [] => some []
  | (.string s, _, _) :: r => match keysOf r with
    | some l => some (s.data.toList :: l)
    | none => none
  | _ => none
def bornOk (c : Nat) : List (Value × Value × Nat) → Bool
  | [] => true
  | e :: r => Nat.blt e.2.2 c && r.all (fun x => !(Nat.beq e.2.2 x.2.2)) && bornOk c r
def nodN : List (List UInt8) → Bool
  | [] => true
  | a :: r => r.all (fun b => !(decide (a = b))) && nodN r
theorem nodN_ok : ∀ l, nodN l = true → l.Nodup
  | [], _ => List.nodup_nil
  | a :: r, h => by
    simp only [nodN, Bool.and_eq_true] at h
    refine List.nodup_cons.2 ⟨fun hm => ?_, nodN_ok r h.2⟩
    have := List.all_eq_true.1 h.1 a hm
    simp at this
theorem keysOf_ok {f : Ren} : ∀ (es : List (Value × Value × Nat)) (es' : List MapEntry) (ks : List (List UInt8)), keysOf es = some ks → es.length = es'.length → (∀ (i : Nat) e e', es[i]? = some e → es'[i]? = some e' → VR f e.1 e'.key ∧ VR f e.2.1 e'.val ∧ e.2.2 = e'.born) →
    es'.map (·.key) = ks.map str ∧ es'.map (·.born) = es.map (·.2.2)
  | [], es', ks, h, hl, _ => by
    cases h
    have : es' = [] := List.length_eq_zero_iff.1 hl.symm
    subst this
    exact ⟨rfl, rfl⟩
  | e :: es, [], ks, h, hl, _ => by simp at hl
  | e :: es, e' :: es', ks, h, hl, hr => by
    unfold keysOf at h
    split at h
    · rename_i e1
      cases e1
    · rename_i s x y r e1
      cases e1
      split at h
      · rename_i l hk
        cases h
        obtain ⟨h1, h2⟩ := keysOf_ok es es' l hk (by simpa using hl) (fun i a b ha hb => hr (i + 1) a b (by simpa using ha) (by simpa using hb))
        obtain ⟨r1, _, r3⟩ := hr 0 _ _ rfl rfl
        refine ⟨?_, ?_⟩
        · rw [List.map_cons, List.map_cons, h1]
          congr 1
          generalize e'.key = z at r1
          cases r1
          rfl
        · rw [List.map_cons, List.map_cons, h2, ← r3]
      · cases h
    · cases h
theorem bornOk_ok (c : Nat) : ∀ (es : List (Value × Value × Nat)) (es' : List MapEntry), bornOk c es = true → es'.map (·.born) = es.map (·.2.2) → es'.Pairwise (fun a b => a.born ≠ b.born) ∧ ∀ e ∈ es', e.born < c
  | [], es', _, h => by
    have : es' = [] := by simpa using h
    subst this
    exact ⟨List.Pairwise.nil, nofun⟩
  | e :: es, [], _, h => by simp at h
  | e :: es, e' :: es', hb, h => by
    simp only [bornOk, Bool.and_eq_true] at hb
    obtain ⟨⟨h1, h2⟩, h3⟩ := hb
    simp only [List.map_cons, List.cons.injEq] at h
    obtain ⟨i1, i2⟩ := bornOk_ok c es es' h3 h.2
    refine ⟨List.pairwise_cons.2 ⟨fun x hx => ?_, i1⟩, fun x hx => ?_⟩
    · have hm : x.born ∈ es'.map (·.born) := List.mem_map.2 ⟨x, hx, rfl⟩
      rw [h.2] at hm
      obtain ⟨y, hy, hyx⟩ := List.mem_map.1 hm
      have := List.all_eq_true.1 h2 y hy
      rw [h.1, ← hyx]
      intro he
      rw [he] at this
      rw [show Nat.beq y.2.2 y.2.2 = true from Nat.beq_refl _] at this
      cases this
    · rcases List.mem_cons.1 hx with rfl | hx
      · rw [h.1]; exact blt_lt h1
      · exact i2 x hx
def nmO : Orc := fun g args A => match Nat.beq g 107, args with
  | true, [.pointer (some ⟨k, 0, none⟩)] => match A.h.get k with
    | some (.cells (.map (some m) :: _) _ _ 0) => match A.h.get m with
      | some (.map es c) => match keysOf es with
        | some ks => match Nat.blt 0 ks.length && Nat.ble ks.length 1024 && ks.all (fun k => Nat.ble k.length 1000) && nodN ks && bornOk c es && Nat.blt A.nx 1000000000 with
          | true => some (.slice (some ⟨A.nx, 0, some 0⟩) ks.length ks.length, ⟨HT.set 64 A.h A.nx (some (.cells ((insS ks).map str) 9 (0, 0) 1)), A.nx + 1⟩)
          | false => none
        | none => none
      | _ => none
    | _ => none
  | _, _ => none
theorem key_strN {s : List UInt8} (hs : s.length ≤ 9223372036854775807) : keyOf Tryz.prog 9 (str s) = some (.string s) := WideMaps.keyOf_string_mk (P := Tryz.prog) Tryz.underlying9 (s := ⟨s.toArray⟩) (by rw [ByteArray.size_mk_toArray]; exact hs)
set_option maxRecDepth 100000 in
theorem nmO_ok {base gm : Nat} : OrcOk Tryz.prog base gm nmO := by
  intro g args args' v A A1 f w h hW ha
  unfold nmO at h
  split at h
  · rename_i k hg
    obtain rfl : g = 107 := beq_t hg
    split at h
    · rename_i m rest t fz hk
      split at h
      · rename_i es c hm
        split at h
        · rename_i ks hks
          split at h
          · rename_i hck
            cases h
            simp only [Bool.and_eq_true] at hck
            obtain ⟨⟨⟨⟨⟨h1, h2⟩, h6⟩, h3⟩, h4⟩, h5⟩ := hck
            have h1 := blt_lt h1
            have h2 := Nat.le_of_ble_eq_true h2
            have h5 := blt_lt h5
            obtain ⟨hl, hv⟩ := ha
            match args', hl, hv with
            | [x], _, hv =>
              have hx := hv 0 _ _ rfl rfl
              obtain ⟨a', rfl, l, hfl, rfl⟩ := hx.ptr_inv
              obtain ⟨l2, hf2, hob⟩ := hW.ob _ _ hk
              have hfl : f k = some l := hfl
              rw [hfl] at hf2
              cases hf2
              cases hob with
              | obj hw ho => cases ho
              | soft hw hs => omega
              | @hard _ cs' _ _ b hw hL =>
                obtain ⟨lm, es', hlm, hlm0, hwm, hM1, hM2⟩ := mapObj hW hm
                obtain ⟨v', e1, e2⟩ := hL.get (i := 0) (v := .map (some m)) rfl
                have e1 : cs'[0]? = some v' := by simpa using e1
                obtain rfl : v' = .map (some lm.blk) := by
                  generalize v' = z at e2
                  cases e2 with
                  | map hr => rw [hlm] at hr; cases hr; rfl
                obtain ⟨k1, k2⟩ := keysOf_ok es es'.toList ks hks (by simpa using hM1) (fun i e e' ha hb => hM2 i e e' ha (by simpa using hb))
                obtain ⟨b1, b2⟩ := bornOk_ok c es es'.toList h4 k2
                have hnd : (ks.map str).Nodup := List.Pairwise.map str (fun a b hab h => hab (str_inj h)) (nodN_ok ks h3)
                have hfst : (es'.toList.map fun e => (e.key, e.val)).map Prod.fst = ks.map str := by rw [List.map_map, ← k1]; rfl
                have hML : MapL Tryz.prog 9 w lm.blk (es'.toList.map fun e => (e.key, e.val)) :=
                  ⟨⟨es', c, hwm, rfl, b1, b2⟩, fun p hp => by
                    have : p.1 ∈ ks.map str := by rw [← hfst]; exact List.mem_map.2 ⟨p, hp, rfl⟩
                    obtain ⟨s, hsm, hs⟩ := List.mem_map.1 this
                    rw [← hs]
                    have := Nat.le_of_ble_eq_true (List.all_eq_true.1 h6 s hsm)
                    exact ⟨_, key_strN (s := s) (by omega)⟩, by rw [hfst]; exact hnd⟩
                have hcell : w.cell? ⟨b, 0, none⟩ = some (.map (some lm.blk)) := by simp [World.cell?, hw, e1]
                refine ⟨⟨_, _, Tryz.func107, rfl⟩, callsIn_wide.2 ((names_keys b lm.blk ks _ w hcell hML hfst h2).mono fun e w' ⟨B, n, cp, he, hn, hB, hE⟩ => ?_)⟩
                subst hn
                obtain ⟨p1, p3⟩ := hB
                rcases p3 with ⟨_, p3⟩ | ⟨g, cq, cur, p4, hbg, hg, hle, _, hs, ht⟩
                · omega
                · cases p4
                  rw [Nat.mul_one] at ht hs
                  have hlen : ((insS ks).map str).length = ks.length := by rw [List.length_map, (insS_perm ks).length_eq]
                  have hcs : cur.size = cp := hs
                  refine ⟨f.put A.nx ⟨g, 0, some (1, ks.length, cp)⟩, _, he, Step.fresh hW h5 hE hbg ?_, ?_⟩
                  · refine .soft hg Nat.one_pos hlen hcs (by omega) (fun i _ => by omega) fun i v hv => ?_
                    have hi := (List.getElem?_eq_some_iff.1 hv).1
                    rw [insS_eq, ← ht, List.getElem?_take] at hv
                    split at hv
                    · refine ⟨v, by simpa using hv, ?_⟩
                      have : v ∈ (sortN ks).map str := by
                        rw [← ht]
                        refine List.mem_of_getElem? (i := i) ?_
                        rw [List.getElem?_take, if_pos (by assumption)]
                        exact hv
                      obtain ⟨s, _, rfl⟩ := List.mem_map.1 this
                      exact .str _
                    · cases hv
                  · exact VR.soft (a := ⟨A.nx, 0, some 0⟩) (l := ⟨g, 0, some (1, ks.length, cp)⟩) (sz := 1) (T := ks.length) (T' := cp) (Ren.put_same f A.nx _) rfl (by show 0 + ks.length * 1 = ks.length; omega) (by show 0 + 0 + cp * 1 = cp; omega) hle rfl
          · cases h
        · cases h
      · cases h
    · cases h
  · cases h
end
end Go.Proofs.YtlfinaeklaimjaaGreatDoor.Am
namespace Go.Proofs.YtlfinaeklaimjaaGreatDoor
noncomputable section
end
end Go.Proofs.YtlfinaeklaimjaaGreatDoor
