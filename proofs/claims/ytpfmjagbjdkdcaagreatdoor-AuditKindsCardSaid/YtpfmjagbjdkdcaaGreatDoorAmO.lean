/- Appends, copies. -/
import Derived.Test.YtpfmjagbjdkdcaaGreatDoorAmN
set_option linter.unusedSimpArgs false
set_option linter.unusedVariables false
namespace Go.Proofs.YtpfmjagbjdkdcaaGreatDoor.Am
open Go.Proofs.YtpfmjagbjdkdcaaGreatDoor Go.RowKit

section
variable {P : Program} {base gm : Nat} {f : Ren} {A : AS} {w w1 : World}
theorem setL_lt : ∀ (vs cs : List Value) (o i : Nat), i < o → (setL cs o vs)[i]? = cs[i]?
  | [], _, _, _, _ => rfl
  | v :: vs, cs, o, i, h => by rw [setL, setL_lt vs _ _ _ (by omega), List.getElem?_set, if_neg (by omega)]
theorem setL_in : ∀ (vs cs : List Value) (o j : Nat), j < vs.length → o + j < cs.length → (setL cs o vs)[o + j]? = vs[j]?
  | [], _, _, _, h, _ => by simp at h
  | v :: vs, cs, o, 0, _, h => by
    show (setL (cs.set o v) (o + 1) vs)[o]? = some v
    rw [setL_lt vs _ _ _ (by omega), List.getElem?_set, if_pos rfl, if_pos (by omega)]
  | v :: vs, cs, o, j + 1, h1, h2 => by
    have h3 : j < vs.length := by simpa using h1
    have := setL_in vs (cs.set o v) (o + 1) j h3 (by rw [List.length_set]; omega)
    rw [setL, show o + (j + 1) = o + 1 + j by omega, this]
    rfl
theorem Step.kill (hW : WR base gm f A w) {k : Nat} {o : AObj} (hk : A.h.get k = some o) : Step base gm f A w f ⟨HT.set 64 A.h k none, A.nx⟩ w := by
  refine ⟨fun _ _ => rfl, Nat.le_refl _, Chg.refl _ _, fun b ⟨m, o2, l2, h1, h2, h3, h4⟩ => ?_, hW.kill hk⟩
  have h2 : (HT.set 64 A.h k none).get m = some o2 := h2
  rw [hW.get_set hk none] at h2
  split at h2
  · cases h2
  · exact .inr ⟨m, o2, l2, h1, h2, h3, h4⟩
theorem oneC_list {vs vs' : List Value} (hv : LR f vs vs') (h : vs.all oneC = true) (x : Value) (hx : x ∈ vs') : x.oneCell' = true := by
  obtain ⟨i, hi, e⟩ := List.mem_iff_getElem.1 hx
  have hi2 : i < vs.length := by rw [hv.1]; exact hi
  rw [← e]
  exact oneC_ok (hv.2 i _ _ (List.getElem?_eq_getElem hi2) (List.getElem?_eq_getElem hi)) (List.all_eq_true.1 h _ (List.getElem_mem _))
/-- The row that append lays anew. -/
theorem FOut.row {id : Nat} {e : TypeId} {sz : Nat} (hz : 0 < sz) {old old' cs cs' : List Value} (zs : Array Value) {n k : Nat} (hid : f id = none) (ho : LR f old old') (hc : LR f cs cs') (hl : old.length + cs.length = n * sz) (hk : zs.size = (k - n) * sz) (hn : n ≤ k)
    (hw : w1.heap = w.heap.push (.cells (old'.toArray ++ cs'.toArray ++ zs) e)) (hos : w1.os = w.os ∧ w1.tape = w.tape ∧ w1.output = w.output) :
    FOut f id w (.slice (some ⟨id, 0, some 0⟩) n n) (some (.cells (old ++ cs) e (0, 0) sz)) (.slice (some ⟨w.heap.size, 0, none⟩) n k) w1 := by
  have hol := ho.1
  have hcl := hc.1
  have hsz : (old'.toArray ++ cs'.toArray ++ zs).size = k * sz := by
    simp only [Array.size_append, List.size_toArray, hk]
    rw [← hol, ← hcl, hl, ← Nat.add_mul]
    congr 1
    omega
  refine ⟨hos, ⟨w.heap.size, 0, some (sz, n * sz, k * sz)⟩, _, rfl, hw, ?_, ?_⟩
  · refine .soft (cs' := old'.toArray ++ cs'.toArray ++ zs) (fz' := (0, 0)) (by rw [hw]; simp) hz (by rw [List.length_append]; exact hl) hsz (by simp; exact Nat.mul_le_mul_right _ hn) (fun i _ h => by omega) fun i v hv => ?_
    obtain ⟨v', h1, h2⟩ := (ho.app hc).get hv
    refine ⟨v', ?_, h2.mono (Ren.le_put _ hid)⟩
    rw [Nat.add_zero]
    have hlt : i < (old' ++ cs').length := (List.getElem?_eq_some_iff.1 h1).1
    rw [Array.getElem?_append_left (by simpa using hlt)]
    simpa using h1
  · exact .soft (l := ⟨w.heap.size, 0, some (sz, n * sz, k * sz)⟩) (a := ⟨id, 0, some 0⟩) (Ren.put_same _ _ _) rfl (by show 0 + n * sz = n * sz; omega) (by show 0 + 0 + k * sz = k * sz; omega) hn rfl
theorem VR.relen {a a' : Addr} {n c c' m : Nat} (h : VR f (.slice (some a) n c) (.slice (some a') n c')) (hm : n + m ≤ c) : VR f (.slice (some a) (n + m) c) (.slice (some a') (n + m) c') := by
  cases h with
  | sl ha hp => exact .sl ha hp
  | soft e hs h1 h2 hc hp => exact .soft e hs h1 h2 hc hp
  | emp e hs hb hp hq hc =>
    obtain rfl : m = 0 := by omega
    exact .emp e hs hb hp hq hc
theorem VR.ar {a a' : Addr} {n c c' : Nat} (h : VR f (.slice (some a) n c) (.slice (some a') n c')) (hc : c ≠ 0) : AR f (Am.strip a) a' := by
  cases h with
  | sl ha hp => exact ha.strip hp
  | soft e hs h1 h2 hc hp => exact ⟨_, e, rfl⟩
  | emp _ _ _ _ _ _ => exact absurd rfl hc
/-- An append that finds room behind a row of unsure room. -/
theorem Step.onto (hW : WR base gm f A w) (hnx : A.nx < 1000000000) {k : Nat} {l : Loc} {cs0 : List Value} {arr : Array Value} {e : TypeId} {fz0 fz' : Nat × Nat} {so0 : Nat} (hk : A.h.get k = some (.cells cs0 e fz0 so0)) (hl : f k = some l) (hg : gm ≤ k)
    (harr : w.heap[l.blk]? = some (.cells arr e fz')) (hfz : ∀ i, i < arr.size → ¬ (fz'.1 ≤ i ∧ i < fz'.2)) {sz n m off c' : Nat} (hz : 0 < sz) {old cs cs' : List Value} (hol : old.length = n * sz) (hcl : cs.length = m * sz) (hcs : LR f cs cs')
    (hold : ∀ i v, old[i]? = some v → ∃ v', arr[off + i]? = some v' ∧ VR f v v') (hc : n + m ≤ c') (hT : off + c' * sz = arr.size) :
    Step base gm f A w (f.put A.nx ⟨l.blk, off, some (sz, (n + m) * sz, arr.size)⟩) (bump ⟨HT.set 64 A.h k none, A.nx⟩ A.nx (some (.cells (old ++ cs) e (0, 0) sz)))
      { w with heap := w.heap.setIfInBounds l.blk (.cells (setL arr.toList (off + n * sz) cs').toArray e fz') } := by
  have hnone := hW.fr A.nx (Nat.le_refl _)
  have hle := Ren.le_put ⟨l.blk, off, some (sz, (n + m) * sz, arr.size)⟩ hnone
  have hWk := hW.kill hk
  have hlt := (Array.getElem?_eq_some_iff.1 harr).1
  have hmul : (n + m) * sz ≤ c' * sz := Nat.mul_le_mul_right _ hc
  have hnm : (n + m) * sz = n * sz + m * sz := Nat.add_mul _ _ _
  have hget : ∀ j, (HT.set 64 (HT.set 64 A.h k none) A.nx (some (AObj.cells (old ++ cs) e (0, 0) sz))).get j = if j = A.nx then some (AObj.cells (old ++ cs) e (0, 0) sz) else if j = k then none else A.h.get j := fun j => by
    rw [HT.get_set 64 _ A.nx j _ (Nat.lt_trans (by omega : A.nx + 1 < 1000000001) (by decide)), hW.get_set hk none]
  have hkn : k < A.nx := hW.lt k _ hk
  have hsub : ∀ j o, (HT.set 64 (HT.set 64 A.h k none) A.nx (some (AObj.cells (old ++ cs) e (0, 0) sz))).get j = some o → (j = A.nx ∧ o = .cells (old ++ cs) e (0, 0) sz) ∨ (j ≠ A.nx ∧ j ≠ k ∧ A.h.get j = some o) := fun j o h => by
    rw [hget] at h
    split at h
    · rename_i e; cases h; exact .inl ⟨e, rfl⟩
    · rename_i e
      split at h
      · cases h
      · rename_i e2; exact .inr ⟨e, e2, h⟩
  have hfo : ∀ j, j ≠ A.nx → (f.put A.nx ⟨l.blk, off, some (sz, (n + m) * sz, arr.size)⟩) j = f j := fun j hj => Ren.put_other f _ hj
  refine ⟨fun j hj => hfo j (by omega), Nat.le_succ _, ⟨rfl, rfl, rfl, by simp, fun b hb hn => ?_⟩, fun b ⟨j, o, l2, h1, h2, h3, h4⟩ => ?_, ?_⟩
  · show (w.heap.setIfInBounds l.blk _)[b]? = _
    rw [Array.getElem?_setIfInBounds_ne (fun e => hn ⟨k, _, l, hg, hk, hl, e⟩)]
  · rcases hsub j o h2 with ⟨rfl, _⟩ | ⟨h5, h6, h7⟩
    · rw [Ren.put_same] at h3
      cases h3
      exact .inr ⟨k, _, l, hg, hk, hl, h4⟩
    · rw [hfo j h5] at h3
      exact .inr ⟨j, o, l2, h1, h7, h3, h4⟩
  · have hoth : ∀ j o l2, j ≠ k → A.h.get j = some o → f j = some l2 → l2.blk ≠ l.blk := fun j o l2 hj ho hl2 he => hj (hW.inj j k o _ l2 l ho hk hl2 hl he)
    refine ⟨fun j o h => ?_, fun k1 k2 o1 o2 l1 l2 h1 h2 e1 e2 he => ?_, fun j o l2 h e1 h3 => ?_, fun j o h => ?_, fun j hj => ?_, fun j o h hj => ?_, Nat.le_succ_of_le hW.gm, by show base ≤ (w.heap.setIfInBounds _ _).size; rw [Array.size_setIfInBounds]; exact hW.sz, by show A.nx + 1 < _; omega⟩
    · rcases hsub j o h with ⟨rfl, rfl⟩ | ⟨h5, h6, h7⟩
      · refine ⟨_, Ren.put_same _ _ _, .soft (cs' := (setL arr.toList (off + n * sz) cs').toArray) (fz' := fz') (by show (w.heap.setIfInBounds l.blk _)[l.blk]? = _; rw [Array.getElem?_setIfInBounds]; simp [hlt]) hz (by rw [List.length_append, hol, hcl]; omega) (by simp [setL_len]) (by omega) hfz fun i v hv => ?_⟩
        have hcl' : cs'.length = m * sz := by rw [← hcs.1]; exact hcl
        by_cases hi : i < n * sz
        · rw [List.getElem?_append_left (by omega)] at hv
          obtain ⟨v', h8, h9⟩ := hold i v hv
          refine ⟨v', ?_, h9.mono hle⟩
          simp only [List.getElem?_toArray]
          rw [setL_lt _ _ _ _ (by omega), Nat.add_comm]
          simpa using h8
        · rw [List.getElem?_append_right (by omega), hol] at hv
          have hi2 : i - n * sz < cs.length := (List.getElem?_eq_some_iff.1 hv).1
          obtain ⟨v', h8, h9⟩ := hcs.get hv
          refine ⟨v', ?_, h9.mono hle⟩
          simp only [List.getElem?_toArray]
          rw [show i + off = off + n * sz + (i - n * sz) by omega, setL_in _ _ _ _ (by omega) (by simp; omega)]
          exact h8
      · obtain ⟨l2, h8, h9⟩ := hW.ob j o h7
        refine ⟨l2, by rw [hfo j h5]; exact h8, h9.mono hle ?_⟩
        show (w.heap.setIfInBounds l.blk _)[l2.blk]? = _
        rw [Array.getElem?_setIfInBounds_ne (fun e => hoth j o l2 h6 h7 h8 e.symm)]
    · rcases hsub k1 o1 h1 with ⟨rfl, _⟩ | ⟨h5, h6, h7⟩
      · rcases hsub k2 o2 h2 with ⟨rfl, _⟩ | ⟨h8, h9, h10⟩
        · rfl
        · rw [Ren.put_same] at e1
          cases e1
          rw [hfo k2 h8] at e2
          exact absurd he.symm (hoth k2 o2 l2 h9 h10 e2)
      · rw [hfo k1 h5] at e1
        rcases hsub k2 o2 h2 with ⟨rfl, _⟩ | ⟨h8, h9, h10⟩
        · rw [Ren.put_same] at e2
          cases e2
          exact absurd he (hoth k1 o1 l1 h6 h7 e1)
        · rw [hfo k2 h8] at e2
          exact hW.inj k1 k2 o1 o2 l1 l2 h7 h10 e1 e2 he
    · rcases hsub j o h with ⟨rfl, _⟩ | ⟨h5, h6, h7⟩
      · rw [Ren.put_same] at e1
        cases e1
        exact hW.low k _ l hk hl hg
      · rw [hfo j h5] at e1
        exact hW.low j o l2 h7 e1 h3
    · rcases hsub j o h with ⟨rfl, _⟩ | ⟨h5, h6, h7⟩
      · exact Nat.lt_succ_self _
      · have := hW.lt j o h7
        show j < A.nx + 1
        omega
    · have hj : A.nx + 1 ≤ j := hj
      rw [hfo j (by omega)]
      exact hW.fr j (by omega)
    · rcases hsub j o h with ⟨rfl, _⟩ | ⟨h5, h6, h7⟩
      · have := hW.gm
        omega
      · rw [hfo j h5]
        exact hW.gl j o h7 hj
theorem VR.hard_of {b : Option Addr} {n c : Nat} {s' : Value} (hs : VR f (.slice b n c) s') (hnt : ∀ k off q, b = some ⟨k, off, some q⟩ → False) : ∃ b', s' = .slice b' n c := by
  cases b with
  | none => cases hs; exact ⟨_, rfl⟩
  | some a =>
    have hsp : a.spot = none := by
      cases hsp : a.spot with
      | none => rfl
      | some q => exact (hnt a.block a.off q (by rw [← hsp])).elim
    obtain ⟨a', rfl, _⟩ := hs.hard_inv hsp
    exact ⟨_, rfl⟩
theorem eAppend_ok (hW : WR base gm f A w) (hnx : A.nx < 1000000000) {ts : Array TypeId} {ty : TypeId} {s s' x x' v : Value} (hs : VR f s s') (hx : VR f x x') {A' : AS} (h : eAppend P gm ts s x A = some (v, A')) :
    ∃ f' v' w', (Builtin.append_ ts ty #[s', x']).run P w = .ok v' w' ∧ Step base gm f A w f' A' w' ∧ VR f' v v' := by
  unfold eAppend at h
  split at h
  · rename_i t0 t1 ht0 ht1
    split at h
    · rename_i e b n c hu0
      split at h
      · rename_i i z hi hz
        obtain ⟨hz1, hz2⟩ := zeroA_ok hz
        split at h
        · rename_i m cs hnew hchk hsz0
          have hsz0 := beq_f hsz0
          have hpos : 0 < i.size := by omega
          simp only [Bool.and_eq_true] at hchk
          have hby := Nat.le_of_ble_eq_true hchk.1
          have hzs : z.cells.size = i.size := by rw [← beq_t hchk.2]; simp
          obtain ⟨cs1, hcs1, hN1⟩ := newC_ok (P := P) hW hx hnew
          split at h
          · rename_i hle
            have hle := Nat.le_of_ble_eq_true hle
            split at h
            · cases h
              cases hs
              refine ⟨f, _, w, ?_, Step.refl hW, .nils _ _⟩
              rw [append_in ht0 ht1 hu0 hi hby hN1 hle]
              rfl
            · rename_i a
              obtain ⟨a', c', rfl, _, hc⟩ := hs.slice_inv
              split at h
              · cases h
                obtain rfl : cs1 = [] := by have := hcs1.1; simpa using this.symm
                refine ⟨f, _, w, ?_, Step.refl hW, hs.relen hle⟩
                rw [append_in ht0 ht1 hu0 hi hby hN1 (Nat.le_trans hle hc)]
                simp [storeCells]
              · split at h
                · rename_i A2 hc0 hst
                  have hc0 := beq_f hc0
                  cases h
                  obtain ⟨w', hr, hS, _⟩ := stC_ok (P := P) hW ((hs.ar hc0).add (n * i.size)) hcs1 hst
                  refine ⟨f, _, w', ?_, hS, hs.relen hle⟩
                  rw [append_in ht0 ht1 hu0 hi hby hN1 (Nat.le_trans hle hc)]
                  dsimp only
                  rw [hr]
                  rfl
                · cases h
          · rename_i hgt
            have hgt : c < n + m := by
              cases Nat.lt_or_ge c (n + m) with
              | inl h => exact h
              | inr h => exact absurd (Nat.ble_eq_true_of_le h) (by rw [hgt]; simp)
            split at h
            · rename_i old hold
              obtain ⟨w2, hw2⟩ : ∃ w2 : World, w2 = { w with drawn := w.drawn + 1 } := ⟨_, rfl⟩
              have hWd : WR base gm f A { w with drawn := w.drawn + 1 } := hW.heap rfl
              obtain ⟨cs2, hcs2, hN2⟩ := newC_ok (P := P) hWd hx hnew
              obtain ⟨old', hro, hlo⟩ := srcC_ok (P := P) hWd hs hold
              split at h
              · -- a row of unsure room
                rename_i k off q hchk2
                simp only [Bool.and_eq_true] at hchk2
                have hsm := Nat.le_of_ble_eq_true hchk2.1.1.1
                have hcl := beq_t hchk2.1.1.2
                have hol := beq_t hchk2.1.2
                split at h
                · rename_i hk2
                  simp only [Bool.and_eq_true] at hk2
                  have hgk := Nat.le_of_ble_eq_true hk2.1
                  cases h
                  have hso := hk2.2
                  unfold softOk at hso
                  split at hso
                  · rename_i cs0 t fz so hk
                    simp only [Bool.and_eq_true] at hso
                    obtain rfl := beq_t hso.1
                    have hsoe := beq_t hso.2
                    obtain ⟨l, sz, T, T', hl, hls, hx3⟩ := hs.soft_inv rfl
                    dsimp only at hl
                    obtain ⟨l2, hl2, ho⟩ := hW.ob _ _ hk
                    rw [hl] at hl2
                    cases hl2
                    -- where the row lies
                    have hin : ∃ a' c', s' = .slice (some a') n c' ∧ c ≤ c' ∧ a'.block = l.blk ∧ a'.spot = none ∧ (n ≠ 0 → a'.off = off + l.dlt) ∧ (c' = 0 ∨ a'.off + c' * sz = T') := by
                      rcases hx3 with ⟨c', rfl, hc, h1, h2⟩ | ⟨rfl, rfl, a', c', rfl, hb, hp, hc⟩
                      · exact ⟨_, _, rfl, hc, rfl, rfl, fun _ => rfl, .inr h2⟩
                      · exact ⟨_, _, rfl, Nat.zero_le _, hb, hp, fun h => absurd rfl h, hc⟩
                    obtain ⟨a', c', rfl, hcc, hab, hap, hao, hT⟩ := hin
                    have ea : a' = ⟨l.blk, a'.off, none⟩ := by obtain ⟨b0, o0, s0⟩ := a'; cases hab; cases hap; rfl
                    by_cases hroom : n + m ≤ c'
                    · -- there is room
                      cases ho with
                      | hard _ _ => cases hls
                      | obj _ ho => cases ho
                      | @soft _ arr _ fz' blk d _ _ _ hw hs0 hT1 hT2 hle hfz hr =>
                        cases hls
                        subst hsoe
                        dsimp only at *
                        have hT3 : a'.off + c' * i.size = arr.size := by
                          rcases hT with h | h
                          · omega
                          · rw [hT2]; exact h
                        have hcl1 : cs1.length = m * i.size := by rw [← hcs1.1]; exact hcl
                        have hmul : (n + m) * i.size ≤ c' * i.size := Nat.mul_le_mul_right _ hroom
                        have hnm : (n + m) * i.size = n * i.size + m * i.size := Nat.add_mul _ _ _
                        have hS := Step.onto (cs' := cs1) hW hnx hk hl hgk hw (by rw [hT2]; exact hfz) hpos hol hcl hcs1 (fun j u hu => by
                          have hn0 : n ≠ 0 := fun e => by
                            subst e
                            rw [Nat.zero_mul] at hol
                            have := List.eq_nil_of_length_eq_zero hol
                            subst this
                            simp at hu
                          unfold srcC at hold
                          dsimp only at hold
                          split at hold
                          · rename_i e0; exact absurd (beq_t e0) hn0
                          · unfold cellsN at hold
                            dsimp only [Am.strip] at hold
                            rw [hk] at hold
                            dsimp only at hold
                            split at hold
                            · cases hold
                              rw [List.getElem?_take] at hu
                              split at hu
                              · rw [List.getElem?_drop] at hu
                                obtain ⟨v', h8, h9⟩ := hr _ _ hu
                                exact ⟨v', by rw [hao hn0, Nat.add_right_comm]; exact h8, h9⟩
                              · cases hu
                            · cases hold
                          · cases hold) hroom hT3
                        refine ⟨_, .slice (some a') (n + m) c', _, ?_, hS, ?_⟩
                        · rw [append_in ht0 ht1 hu0 hi hby hN1 hroom]
                          dsimp only
                          rw [ea, addr_add]
                          rw [storeCells_run (P := P) (t := t) (fz := fz') cs1 0 arr w hw (by omega) (by rw [hT2]; exact hfz) (fun x hx => ?_)]
                          · rfl
                          · exact oneC_list hcs1 hchk2.2 x hx
                        · have e2 : (.slice (some a') (n + m) c' : Value) = .slice (some ⟨blk, 0 + a'.off, none⟩) (n + m) c' := by rw [Nat.zero_add, ← ea]
                          rw [e2]
                          exact .soft (l := ⟨blk, a'.off, some (i.size, (n + m) * i.size, arr.size)⟩) (a := ⟨A.nx, 0, some 0⟩) (Ren.put_same _ _ _) rfl (by show 0 + (n + m) * i.size = _; omega) (by show 0 + a'.off + c' * i.size = _; omega) hroom rfl
                    · obtain ⟨k', hk', hrun⟩ := append_out (ty := ty) ht0 ht1 hu0 hi hby hN1 hN2 hro hz1 (by omega) hsm
                      have hF := FOut.row (f := f) (w := w) (id := A.nx) (e := t) hpos (Builtin.zeroCells z.cells (k' - (n + m))) (n := n + m) (k := k') (hW.fr _ (Nat.le_refl _)) hlo hcs2 (by rw [hol, hcl, Nat.add_mul]) (by simp [Builtin.zeroCells, hzs]) hk' (w1 := { w with drawn := w.drawn + 1, heap := w.heap.push (.cells (old'.toArray ++ cs2.toArray ++ Builtin.zeroCells z.cells (k' - (n + m))) t) }) rfl ⟨rfl, rfl, rfl⟩
                      have hKill := Step.kill hW hk
                      obtain ⟨f1, hS, hv⟩ := FOut.step hKill.wr hnx hF
                      exact ⟨f1, _, _, hrun, hKill.trans hS, hv⟩
                  · cases hso
                · cases h
              · rename_i b hchk2 hnt
                simp only [Bool.and_eq_true] at hchk2
                have hsm := Nat.le_of_ble_eq_true hchk2.1.1.1
                have hcl := beq_t hchk2.1.1.2
                have hol := beq_t hchk2.1.2
                cases h
                have hin : ∃ b', s' = .slice b' n c := hs.hard_of (fun k off q e => hnt k off q e)
                obtain ⟨b', rfl⟩ := hin
                obtain ⟨k', hk', hrun⟩ := append_out (ty := ty) ht0 ht1 hu0 hi hby hN1 hN2 hro hz1 hgt hsm
                have hF := FOut.row (f := f) (w := w) (id := A.nx) (e := e) hpos (Builtin.zeroCells z.cells (k' - (n + m))) (n := n + m) (k := k') (hW.fr _ (Nat.le_refl _)) hlo hcs2 (by rw [hol, hcl, Nat.add_mul]) (by simp [Builtin.zeroCells, hzs]) hk' (w1 := { w with drawn := w.drawn + 1, heap := w.heap.push (.cells (old'.toArray ++ cs2.toArray ++ Builtin.zeroCells z.cells (k' - (n + m))) e) }) rfl ⟨rfl, rfl, rfl⟩
                obtain ⟨f1, hS, hv⟩ := FOut.step hW hnx hF
                exact ⟨f1, _, _, hrun, hS, hv⟩
              · cases h
            · cases h
        · cases h
      · cases h
    · cases h
  · cases h
end
end Go.Proofs.YtpfmjagbjdkdcaaGreatDoor.Am
