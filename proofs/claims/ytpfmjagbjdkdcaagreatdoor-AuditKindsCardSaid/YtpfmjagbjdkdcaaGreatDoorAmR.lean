/- The next of an iterator. -/
import Derived.Test.YtpfmjagbjdkdcaaGreatDoorAmQ
set_option linter.unusedSimpArgs false
set_option linter.unusedVariables false
namespace Go.Proofs.YtpfmjagbjdkdcaaGreatDoor.Am
open Go.Proofs.YtpfmjagbjdkdcaaGreatDoor Go.RowKit

section
variable {P : Program} {base gm : Nat} {f : Ren} {A : AS} {w w1 : World}
abbrev ML (f : Ren) (l : List (Value × Value × Nat)) (l' : List MapEntry) : Prop := l.length = l'.length ∧ ∀ (i : Nat) (e : Value × Value × Nat) (e' : MapEntry), l[i]? = some e → l'[i]? = some e' → ER f e e'
theorem ML.tail {e : Value × Value × Nat} {e' : MapEntry} {l : List (Value × Value × Nat)} {l' : List MapEntry} (h : ML f (e :: l) (e' :: l')) : ER f e e' ∧ ML f l l' :=
  ⟨h.2 0 e e' rfl rfl, by have := h.1; simpa using this, fun i a b ha hb => h.2 (i + 1) a b (by simpa using ha) (by simpa using hb)⟩
theorem ML.cons {e : Value × Value × Nat} {e' : MapEntry} {l : List (Value × Value × Nat)} {l' : List MapEntry} (he : ER f e e') (h : ML f l l') : ML f (e :: l) (e' :: l') := ⟨by simp [h.1], fun i a b ha hb => by
  cases i with
  | zero => simp at ha hb; subst ha hb; exact he
  | succ i => exact h.2 i a b (by simpa using ha) (by simpa using hb)⟩
theorem ML.filter {p : Nat → Bool} : ∀ {l : List (Value × Value × Nat)} {l' : List MapEntry}, ML f l l' → ML f (l.filter fun e => p e.2.2) (l'.filter fun e => p e.born)
  | [], [], _ => ⟨rfl, fun i a b h => by simp at h⟩
  | [], _ :: _, h => by have := h.1; simp at this
  | _ :: _, [], h => by have := h.1; simp at this
  | e :: l, e' :: l', h => by
    obtain ⟨he, ht⟩ := h.tail
    rw [List.filter_cons, List.filter_cons, he.2.2]
    split
    · exact .cons he (ML.filter ht)
    · exact ML.filter ht
theorem ML.all {p : Nat → Bool} : ∀ {l : List (Value × Value × Nat)} {l' : List MapEntry}, ML f l l' → (l.all fun e => p e.2.2) = l'.all fun e => p e.born
  | [], [], _ => rfl
  | [], _ :: _, h => by have := h.1; simp at this
  | _ :: _, [], h => by have := h.1; simp at this
  | e :: l, e' :: l', h => by
    obtain ⟨he, ht⟩ := h.tail
    rw [List.all_cons, List.all_cons, he.2.2, ML.all ht]
theorem itObj (hW : WR base gm f A w) {r : Nat} {o : AObj} (hg : A.h.get r = some o) (hn : ∀ cs t fz so, o ≠ .cells cs t fz so) : ∃ l o', f r = some l ∧ l = ⟨l.blk, 0, none⟩ ∧ w.heap[l.blk]? = some o' ∧ OR f o o' := by
  obtain ⟨l, hl, ho⟩ := hW.ob _ _ hg
  cases ho with
  | hard _ _ => exact absurd rfl (hn _ _ _ _)
  | soft _ _ _ _ _ _ _ => exact absurd rfl (hn _ _ _ _)
  | obj hw ho => exact ⟨_, _, hl, rfl, hw, ho⟩
theorem over_ok (hW : WR base gm f A w) : VR f (.tuple #[.bool false]) (.tuple #[.bool false]) := .tuple' (.cons (.bool _) (.nil f))
theorem eNext_ok (hW : WR base gm f A w) {x x' : Value} {isS : Bool} {ty : TypeId} (hx : VR f x x') {L : List (Value × AS)} (h : eNext gm x isS A = some L) :
    ∃ p ∈ L, ∃ v' w', (Instr.next x' isS ty).run P w = .ok v' w' ∧ Step base gm f A w f p.2 w' ∧ VR f p.1 v' := by
  unfold eNext at h
  split at h
  · rename_i r
    obtain ⟨a', rfl, l, hl, rfl⟩ := hx.ptr_inv
    dsimp only at hl
    split at h
    · rename_i s pos hg hgr
      have hgr := Nat.le_of_ble_eq_true hgr
      obtain ⟨l2, o', hl2, hl0, hw, ho⟩ := itObj hW hg (by simp)
      rw [hl] at hl2
      cases hl2
      cases ho
      have hd : l.dlt = 0 := by rw [hl0]
      have hgo : (getObj l.blk).run P w = .ok (.stringIter s pos) w := by simp [getObj, Sem.run, hw]
      split at h
      · rename_i hlt
        have hlt := blt_lt hlt
        cases h
        have hso : ∀ o, (setObj l.blk o).run P w = .ok () { w with heap := w.heap.setIfInBounds l.blk o } := fun o => by simp [setObj, Sem.run, hw]
        refine ⟨_, List.mem_singleton.2 rfl, _, _, ?_, Step.obj hW hg hl hl0 hgr (Array.getElem?_eq_some_iff.1 hw).1 (.siter s _), .tuple' (.cons (.bool _) (.cons (.int _ _) (.cons (.int _ _) (.nil f))))⟩
        simp only [Instr.next, hd, Nat.add_zero, Sem.run_bind, hgo, Result.andThen_ok, if_pos hlt, hso, Sem.run_pure]
        rfl
      · rename_i hlt
        have hlt := ble_f hlt
        cases h
        refine ⟨_, List.mem_singleton.2 rfl, _, w, ?_, Step.refl hW, over_ok hW⟩
        have : ¬ pos < s.size := by omega
        simp only [Instr.next, hd, Nat.add_zero, Sem.run_bind, hgo, Result.andThen_ok, if_neg this, Sem.run_pure]
    · rename_i s0 s1 s2 hg
      cases h
      obtain ⟨l2, o', hl2, hl0, hw, ho⟩ := itObj hW hg (by simp)
      rw [hl] at hl2
      cases hl2
      cases ho
      have hd : l.dlt = 0 := by rw [hl0]
      have hgo : (getObj l.blk).run P w = .ok (.mapIter none s0 s1.toArray s2) w := by simp [getObj, Sem.run, hw]
      refine ⟨_, List.mem_singleton.2 rfl, _, w, ?_, Step.refl hW, over_ok hW⟩
      simp only [Instr.next, hd, Nat.add_zero, Sem.run_bind, hgo, Result.andThen_ok, Sem.run_pure]
    · rename_i m since seen last hg hgr
      have hgr := Nat.le_of_ble_eq_true hgr
      obtain ⟨l2, o', hl2, hl0, hw, ho⟩ := itObj hW hg (by simp)
      rw [hl] at hl2
      cases hl2
      have hd : l.dlt = 0 := by rw [hl0]
      cases ho with
      | miter _ _ _ hm =>
        rename_i lm
        have hgo : (getObj l.blk).run P w = .ok (.mapIter (some lm.blk) since seen.toArray last) w := by simp [getObj, Sem.run, hw]
        have hso : ∀ (w2 : World) o, w2.heap = w.heap → (setObj l.blk o).run P w2 = .ok () { w2 with heap := w2.heap.setIfInBounds l.blk o } := fun w2 o e => by simp [setObj, Sem.run, e, hw]
        split at h
        · rename_i es c hgm
          obtain ⟨lm2, es', hlm, hlm0, hwm, hM⟩ := mapObj hW hgm
          rw [hm] at hlm
          cases hlm
          have hML : ML f es es'.toList := ⟨by simpa using hM.1, fun i a b ha hb => hM.2 i a b ha (by simpa using hb)⟩
          split at h
          · rename_i hcond
            simp only [Bool.and_eq_true, Bool.or_eq_true] at hcond
            obtain ⟨hc1, hc2⟩ := hcond
            have hF := hML.filter (p := fun b => !(seen.contains b))
            obtain ⟨l', hl'⟩ : ∃ l', l' = es'.toList.filter fun e => !(seen.contains e.born) := ⟨_, rfl⟩
            rw [← hl'] at hF
            have hall : ∀ e' ∈ es'.toList, e'.born < since ∧ (seen = [] ∨ e'.born < last) := fun e' he' => by
              rw [hML.all (p := fun b => Nat.blt b since && (seen.isEmpty || Nat.blt b last))] at hc2
              have := List.all_eq_true.1 hc2 e' he'
              simp only [Bool.and_eq_true, Bool.or_eq_true, List.isEmpty_iff] at this
              exact ⟨blt_lt this.1, this.2.imp id blt_lt⟩
            have hleft : (es'.filter fun e => !(seen.toArray.contains e.born)) = l'.toArray := by
              apply Array.ext'
              rw [Array.toList_filter, hl']
              simp
            have hsub : ∀ e' ∈ l', e' ∈ es'.toList := fun e' h => by rw [hl'] at h; exact (List.mem_filter.1 h).1
            have hold : l'.toArray.filter (fun e => decide (e.born < since)) = l'.toArray := by
              apply Array.ext'
              rw [Array.toList_filter]
              exact List.filter_eq_self.2 fun e he => decide_eq_true (hall e (hsub e he)).1
            have hnew : l'.toArray.filter (fun e => decide (e.born ≥ since)) = #[] := by
              apply Array.ext'
              rw [Array.toList_filter]
              exact List.filter_eq_nil_iff.2 fun e he => by have := (hall e (hsub e he)).1; simp; omega
            have hcond2 : (!seen.toArray.isEmpty && !es'.isEmpty && es'.all fun e => decide (e.born ≥ last)) = false := by
              cases hs : seen with
              | nil => rfl
              | cons b bs =>
                cases he : es'.toList with
                | nil =>
                  have : es' = #[] := Array.ext' he
                  rw [this]
                  simp
                | cons e0 er =>
                  have h0 := hall e0 (by rw [he]; simp)
                  have h1 : e0.born < last := h0.2.resolve_left (by rw [hs]; simp)
                  have : (es'.all fun e => decide (e.born ≥ last)) = false := by
                    rw [← Array.all_toList, he, List.all_cons]
                    simp
                    omega
                  rw [this, Bool.and_false]
            have hgm' : (getObj lm.blk).run P w = .ok (.map es' c) w := getObj_map hwm
            have hchoose : ∀ n, 0 < n → ∃ k w2, k < n ∧ (choose (.mapNext n)).run P w = .ok k w2 ∧ w2.heap = w.heap ∧ w2.os = w.os ∧ w2.tape = w.tape ∧ w2.output = w.output := fun n hn => by
              rw [run_choose]
              by_cases h1 : n ≤ 1
              · exact ⟨0, w, hn, by rw [if_pos (by simp [Question.forced, h1])], rfl, rfl, rfl, rfl⟩
              · exact ⟨w.tape w.drawn (.mapNext n) % n, { w with drawn := w.drawn + 1 }, Nat.mod_lt _ hn, by rw [if_neg (by simp [Question.forced]; omega)]; rfl, rfl, rfl, rfl, rfl⟩
            cases hcase : l' with
            | nil =>
              rw [hcase] at hF
              have hnil : (es.filter fun e => !(seen.contains e.2.2)) = [] := List.eq_nil_of_length_eq_zero hF.1
              rw [hnil] at h
              cases h
              obtain ⟨k, w2, hk, hrun, hh, h3, h4, h5⟩ := hchoose 1 (by omega)
              have hk0 : k = 0 := by omega
              subst hk0
              refine ⟨_, List.mem_singleton.2 rfl, _, w2, ?_, ⟨fun _ _ => rfl, Nat.le_refl _, ⟨h3, h4, h5, by rw [hh]; exact Nat.le_refl _, fun b _ _ => by rw [hh]⟩, fun _ h => .inr h, hW.heap hh⟩, over_ok hW⟩
              have hcand : ((if ([] : List MapEntry).toArray.isEmpty then #[none] else #[]) ++ (([] : List MapEntry).toArray ++ #[]).map some : Array (Option MapEntry)) = #[none] := by simp
              rw [hcase] at hleft hold hnew
              simp only [Instr.next, hd, Nat.add_zero, Sem.run_bind, hgo, Result.andThen_ok, hgm', hcond2, Bool.false_eq_true, if_false, hleft, hold, hnew, hcand]
              rw [show (#[none] : Array (Option MapEntry)).size = 1 from rfl, hrun]
              rfl
            | cons e1 er =>
              have hne : (es.filter fun e => !(seen.contains e.2.2)) ≠ [] := fun e => by
                have := hF.1
                rw [e, hcase] at this
                simp at this
              obtain ⟨k, w2, hk, hrun, hh, h3, h4, h5⟩ := hchoose l'.length (by rw [hcase]; simp)
              have hk1 : k < (es.filter fun e => !(seen.contains e.2.2)).length := by rw [hF.1]; exact hk
              have hE := hF.2 k _ _ (List.getElem?_eq_getElem hk1) (List.getElem?_eq_getElem hk)
              obtain ⟨ek, hek⟩ : ∃ ek, ek = (es.filter fun e => !(seen.contains e.2.2))[k]'hk1 := ⟨_, rfl⟩
              have hmem : ek ∈ es.filter fun e => !(seen.contains e.2.2) := by rw [hek]; exact List.getElem_mem _
              rw [← hek] at hE
              have hL : L = (es.filter fun e => !(seen.contains e.2.2)).map fun e => (.tuple #[.bool true, e.1, e.2.1], Am.put A r (some (.miter (some m) since (seen ++ [e.2.2]) c))) := by
                split at h
                · rename_i e; exact absurd e hne
                · cases h; rfl
              rw [hL]
              refine ⟨_, List.mem_map.2 ⟨ek, hmem, rfl⟩, .tuple #[.bool true, l'[k].key, l'[k].val], { w2 with heap := w2.heap.setIfInBounds l.blk (.mapIter (some lm.blk) since (seen.toArray.push l'[k].born) c) }, ?_, ?_, .tuple' (.cons (.bool _) (.cons hE.1 (.cons hE.2.1 (.nil f))))⟩
              · have hcand : ((if l'.toArray.isEmpty then #[none] else #[]) ++ (l'.toArray ++ #[]).map some : Array (Option MapEntry)) = (l'.map some).toArray := by
                  rw [hcase]
                  simp
                have hidx : (l'.map some).toArray[k]? = some (some l'[k]) := by simp [hk]
                simp only [Instr.next, hd, Nat.add_zero, Sem.run_bind, hgo, Result.andThen_ok, hgm', hcond2, Bool.false_eq_true, if_false, hleft, hold, hnew, hcand]
                simp only [List.size_toArray, List.length_map, hrun, Result.andThen_ok, hidx, hso w2 _ hh, Sem.run_pure, Sem.run_bind]
              · have := Step.obj (f := f) (base := base) (gm := gm) (A := A) (w := w2) (o1 := .miter (some m) since (seen ++ [ek.2.2]) c) (o' := .mapIter (some lm.blk) since (seen.toArray.push l'[k].born) c) (hW.heap hh) hg hl hl0 hgr (by rw [hh]; exact (Array.getElem?_eq_some_iff.1 hw).1) (by
                  have e2 : seen.toArray.push l'[k].born = (seen ++ [ek.2.2]).toArray := by rw [hE.2.2]; simp
                  rw [e2]
                  exact .miter _ _ _ hm)
                exact ⟨this.ren, this.nx, ⟨this.chg.os.trans h3, this.chg.tape.trans h4, this.chg.output.trans h5, by have h6 := this.chg.size; exact Nat.le_trans (Nat.le_of_eq (by rw [hh])) h6, fun b hb hn => (this.chg.block b (by rw [hh]; exact hb) hn).trans (by rw [hh])⟩, fun b hb => by have := this.im b hb; rw [hh] at this; exact this, this.wr⟩
          · cases h
        · cases h
    · cases h
  · cases h
end
end Go.Proofs.YtpfmjagbjdkdcaaGreatDoor.Am
