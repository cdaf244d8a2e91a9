/- Texts of one proof, joined. -/
import Derived.Test.YtkdcnhnaiknaaaaGreatFD02
import Derived.Test.YtkdcnhnaiknaaaaGreatFD05
import Derived.Test.YtkdcnhnaiknaaaaGreatFD03
import Derived.HandedShaped
import Derived.Handed
import Derived.Deep.QuietTactic
import Derived.BigQuiet
set_option linter.unusedSimpArgs false
set_option linter.unusedVariables false
namespace Go.Proofs.YtkdcnhnaiknaaaaGreat
section
open Go.RowKit
section
variable {β : Type}
def valsOf (ps : List (List UInt8 × β)) (s : List UInt8) : List β := (ps.filter fun p => decide (p.1 = s)).map Prod.snd
theorem valsOf_append (ps qs : List (List UInt8 × β)) (s : List UInt8) : valsOf (ps ++ qs) s = valsOf ps s ++ valsOf qs s := by unfold valsOf; rw [List.filter_append, List.map_append]
theorem valsOf_one (p : List UInt8 × β) (s : List UInt8) : valsOf [p] s = if p.1 = s then [p.2] else [] := by
  unfold valsOf
  rw [List.filter_cons]
  by_cases h : p.1 = s
  · simp [h]
  · simp [h]
theorem valsOf_cons (p : List UInt8 × β) (ps : List (List UInt8 × β)) (s : List UInt8) : valsOf (p :: ps) s = (if p.1 = s then [p.2] else []) ++ valsOf ps s := by
  rw [← valsOf_one, ← valsOf_append]; rfl
def Ris {α : Type} (l : List (List UInt8 × α)) : Prop := l.Pairwise fun a b => a.1 < b.1
structure Grp (ps : List (List UInt8 × β)) (r : List (List UInt8 × List β)) : Prop where
  up : Ris r
  mem : ∀ x, x ∈ r ↔ x.2 = valsOf ps x.1 ∧ x.2 ≠ []
theorem Ris.nodup {α : Type} {l : List (List UInt8 × α)} (h : Ris l) : l.Nodup := by
  refine List.Pairwise.imp ?_ h
  intro a b hab e
  rw [e] at hab
  exact List.lt_irrefl _ hab
theorem Ris.ext {α : Type} {a b : List (List UInt8 × α)} (ha : Ris a) (hb : Ris b) (h : ∀ x, x ∈ a ↔ x ∈ b) : a = b :=
  List.Perm.eq_of_pairwise (le := fun (x y : List UInt8 × α) => x.1 < y.1) (fun x y _ _ h k => (List.lt_irrefl _ (List.lt_trans h k)).elim) ha hb ((List.perm_ext_iff_of_nodup ha.nodup hb.nodup).2 h)
theorem Grp.uniq {ps : List (List UInt8 × β)} {r q : List (List UInt8 × List β)} (h : Grp ps r) (k : Grp ps q) : r = q :=
  h.up.ext k.up fun x => (h.mem x).trans (k.mem x).symm
theorem Grp.same {ps qs : List (List UInt8 × β)} {r : List (List UInt8 × List β)} (h : Grp ps r) (k : ∀ s, valsOf ps s = valsOf qs s) : Grp qs r :=
  ⟨h.up, fun x => by rw [h.mem x, k]⟩
theorem Grp.nil : Grp ([] : List (List UInt8 × β)) [] := ⟨List.Pairwise.nil, fun x => by simp [valsOf]⟩
def addG (p : List UInt8 × β) : List (List UInt8 × List β) → List (List UInt8 × List β)
  | [] => [(p.1, [p.2])]
  | x :: xs => if x.1 < p.1 then x :: addG p xs else if x.1 = p.1 then (x.1, x.2 ++ [p.2]) :: xs else (p.1, [p.2]) :: x :: xs
theorem addG_keys (p : List UInt8 × β) : ∀ (l : List (List UInt8 × List β)) (y : List UInt8 × List β), y ∈ addG p l → y.1 = p.1 ∨ y ∈ l
  | [], y, h => by simp only [addG, List.mem_singleton] at h; rw [h]; exact .inl rfl
  | x :: xs, y, h => by
    unfold addG at h
    split at h
    · rcases List.mem_cons.1 h with rfl | h
      · exact .inr (List.mem_cons_self ..)
      · rcases addG_keys p xs y h with h | h
        · exact .inl h
        · exact .inr (List.mem_cons_of_mem _ h)
    · split at h
      · rename_i he
        rcases List.mem_cons.1 h with rfl | h
        · exact .inl he
        · exact .inr (List.mem_cons_of_mem _ h)
      · rcases List.mem_cons.1 h with rfl | h
        · exact .inl rfl
        · exact .inr h
theorem key_lt {a b : List UInt8} (h : ¬ a < b) (hne : ¬ a = b) : b < a :=
  Decidable.byContradiction fun h2 => hne (List.le_antisymm (List.not_lt.1 h2) (List.not_lt.1 h))
theorem addG_ris (p : List UInt8 × β) : ∀ (l : List (List UInt8 × List β)), Ris l → Ris (addG p l)
  | [], _ => List.pairwise_singleton ..
  | x :: xs, h => by
    obtain ⟨h1, h2⟩ := List.pairwise_cons.1 h
    unfold addG
    split
    · rename_i hlt
      refine List.pairwise_cons.2 ⟨fun y hy => ?_, addG_ris p xs h2⟩
      rcases addG_keys p xs y hy with e | hy
      · rw [e]; exact hlt
      · exact h1 y hy
    · rename_i hnl
      split
      · exact List.pairwise_cons.2 ⟨h1, h2⟩
      · rename_i hne
        have hpx := key_lt hnl hne
        refine List.pairwise_cons.2 ⟨fun y hy => ?_, h⟩
        rcases List.mem_cons.1 hy with rfl | hy
        · exact hpx
        · exact List.lt_trans hpx (h1 y hy)
theorem Ris.notMem {α : Type} {x : List UInt8 × α} {xs : List (List UInt8 × α)} (h : Ris (x :: xs)) : ∀ y ∈ xs, ¬ y.1 = x.1 := fun y hy e => by
  have := (List.pairwise_cons.1 h).1 y hy
  rw [e] at this
  exact List.lt_irrefl _ this
theorem addG_mem (p : List UInt8 × β) : ∀ (l : List (List UInt8 × List β)), Ris l → ∀ y, y ∈ addG p l ↔ (¬ y.1 = p.1 ∧ y ∈ l) ∨ (y.1 = p.1 ∧ ((∃ v, (p.1, v) ∈ l ∧ y.2 = v ++ [p.2]) ∨ ((∀ v, (p.1, v) ∉ l) ∧ y.2 = [p.2])))
  | [], _, y => by
    constructor
    · intro h
      simp only [addG, List.mem_singleton] at h
      rw [h]; exact .inr ⟨rfl, .inr ⟨fun v => List.not_mem_nil, rfl⟩⟩
    · rintro (⟨_, h⟩ | ⟨h, (⟨v, h2, _⟩ | ⟨_, h2⟩)⟩)
      · cases h
      · cases h2
      · obtain ⟨a, b⟩ := y
        simp only at h h2
        rw [h, h2]; exact List.mem_singleton.2 rfl
  | x :: xs, hr, y => by
    have hr2 := (List.pairwise_cons.1 hr).2
    have ih := addG_mem p xs hr2 y
    unfold addG
    split
    · rename_i hlt
      have hxp : ¬ x.1 = p.1 := fun e => by rw [e] at hlt; exact List.lt_irrefl _ hlt
      have hnx : ∀ v, ¬ (p.1, v) = x := fun v e => hxp (by rw [← e])
      rw [List.mem_cons, ih]
      simp only [List.mem_cons]
      constructor
      · rintro (rfl | ⟨h1, h2⟩ | ⟨h1, (⟨v, h2, h3⟩ | ⟨h2, h3⟩)⟩)
        · exact .inl ⟨hxp, .inl rfl⟩
        · exact .inl ⟨h1, .inr h2⟩
        · exact .inr ⟨h1, .inl ⟨v, .inr h2, h3⟩⟩
        · exact .inr ⟨h1, .inr ⟨fun v hv => hv.elim (hnx v) (h2 v), h3⟩⟩
      · rintro (⟨h1, (h2 | h2)⟩ | ⟨h1, (⟨v, (h2 | h2), h3⟩ | ⟨h2, h3⟩)⟩)
        · exact .inl h2
        · exact .inr (.inl ⟨h1, h2⟩)
        · exact absurd h2 (hnx v)
        · exact .inr (.inr ⟨h1, .inl ⟨v, h2, h3⟩⟩)
        · exact .inr (.inr ⟨h1, .inr ⟨fun v hv => h2 v (.inr hv), h3⟩⟩)
    · rename_i hnl
      split
      · rename_i he
        have hno := hr.notMem
        rw [List.mem_cons]
        simp only [List.mem_cons]
        constructor
        · rintro (rfl | h)
          · exact .inr ⟨he, .inl ⟨x.2, .inl (by rw [← he]), rfl⟩⟩
          · exact .inl ⟨fun e => hno y h (e.trans he.symm), .inr h⟩
        · rintro (⟨h1, (rfl | h2)⟩ | ⟨h1, (⟨v, (h2 | h2), h3⟩ | ⟨h2, h3⟩)⟩)
          · exact absurd he h1
          · exact .inr h2
          · refine .inl ?_
            obtain ⟨a, b⟩ := y
            simp only at h1 h3
            rw [h1, h3, he, ← h2]
          · exact absurd he.symm (hno _ h2)
          · exact absurd (.inl (by rw [← he])) (h2 x.2)
      · rename_i hne
        have hpx := key_lt hnl hne
        have hno : ∀ v, (p.1, v) ∉ x :: xs := fun v hv => by
          rcases List.mem_cons.1 hv with e | hv
          · exact hne (by rw [← e])
          · exact List.lt_irrefl _ (List.lt_trans hpx ((List.pairwise_cons.1 hr).1 _ hv))
        rw [List.mem_cons]
        constructor
        · rintro (rfl | h)
          · exact .inr ⟨rfl, .inr ⟨hno, rfl⟩⟩
          · exact .inl ⟨fun e => hno y.2 (by rw [← e]; exact h), h⟩
        · rintro (⟨_, h⟩ | ⟨h1, (⟨v, h2, _⟩ | ⟨_, h3⟩)⟩)
          · exact .inr h
          · exact absurd h2 (hno v)
          · refine .inl ?_
            obtain ⟨a, b⟩ := y
            simp only at h1 h3
            rw [h1, h3]
theorem Grp.add {ps : List (List UInt8 × β)} {r : List (List UInt8 × List β)} (h : Grp ps r) (p : List UInt8 × β) : Grp (ps ++ [p]) (addG p r) := by
  refine ⟨addG_ris p r h.up, fun y => ?_⟩
  rw [addG_mem p r h.up y, valsOf_append, valsOf_one]
  by_cases hk : p.1 = y.1
  · rw [if_pos hk]
    have hin : ∀ v, (p.1, v) ∈ r ↔ v = valsOf ps p.1 ∧ v ≠ [] := fun v => h.mem (p.1, v)
    constructor
    · rintro (⟨h1, _⟩ | ⟨_, (⟨v, h2, h3⟩ | ⟨h2, h3⟩)⟩)
      · exact absurd hk.symm h1
      · rw [h3, ← hk, ((hin v).1 h2).1]; exact ⟨rfl, by simp⟩
      · have : valsOf ps p.1 = [] := Decidable.byContradiction fun hne => h2 _ ((hin _).2 ⟨rfl, hne⟩)
        rw [h3, ← hk, this]; exact ⟨rfl, by simp⟩
    · rintro ⟨h1, _⟩
      refine .inr ⟨hk.symm, ?_⟩
      by_cases hv : valsOf ps p.1 = []
      · exact .inr ⟨fun v hin' => ((hin v).1 hin').2 (((hin v).1 hin').1.trans hv), by rw [h1, ← hk, hv]; rfl⟩
      · exact .inl ⟨_, (hin _).2 ⟨rfl, hv⟩, by rw [h1, ← hk]⟩
  · rw [if_neg hk, List.append_nil, ← h.mem y]
    constructor
    · rintro (⟨_, h2⟩ | ⟨h1, _⟩)
      · exact h2
      · exact absurd h1.symm hk
    · exact fun h2 => .inl ⟨fun e => hk e.symm, h2⟩
def grp (ps : List (List UInt8 × β)) : List (List UInt8 × List β) := ps.foldl (fun l p => addG p l) []
theorem grp_snoc (ps : List (List UInt8 × β)) (p : List UInt8 × β) : grp (ps ++ [p]) = addG p (grp ps) := by unfold grp; rw [List.foldl_append]; rfl
theorem grp_ok (ps : List (List UInt8 × β)) : Grp ps (grp ps) := by
  have key : ∀ (qs : List (List UInt8 × β)) (ps : List (List UInt8 × β)) (r : List (List UInt8 × List β)), Grp ps r → Grp (ps ++ qs) (qs.foldl (fun l p => addG p l) r) := by
    intro qs
    induction qs with
    | nil => intro ps r h; rw [List.append_nil]; exact h
    | cons q qs ih =>
      intro ps r h
      have := ih _ _ (h.add q)
      rw [List.append_assoc] at this
      exact this
  exact key ps [] [] Grp.nil
def joinS (r : List (List UInt8 × List β)) (p : List UInt8 × β) : List (List UInt8 × List β) := match r.getLast? with
  | some x => if x.1 = p.1 then r.dropLast ++ [(x.1, x.2 ++ [p.2])] else r ++ [(p.1, [p.2])]
  | none => [(p.1, [p.2])]
theorem addG_last (p : List UInt8 × β) : ∀ (r : List (List UInt8 × List β)), Ris r → (∀ x ∈ r, ¬ p.1 < x.1) → addG p r = joinS r p
  | [], _, _ => rfl
  | [x], _, h => by
    have h1 := h x (List.mem_singleton.2 rfl)
    unfold addG joinS
    simp only [List.getLast?_singleton]
    by_cases he : x.1 = p.1
    · have : ¬ x.1 < p.1 := fun hl => by rw [he] at hl; exact List.lt_irrefl _ hl
      rw [if_neg this, if_pos he, if_pos he]
      rfl
    · rw [if_pos (key_lt h1 fun e => he e.symm), if_neg he]
      rfl
  | x :: y :: ys, hr, h => by
    have hr2 := (List.pairwise_cons.1 hr).2
    have ih := addG_last p (y :: ys) hr2 fun z hz => h z (List.mem_cons_of_mem _ hz)
    have hxy := (List.pairwise_cons.1 hr).1 y (List.mem_cons_self ..)
    have hyp := h y (List.mem_cons_of_mem _ (List.mem_cons_self ..))
    have hxp : x.1 < p.1 := by
      by_cases he : y.1 = p.1
      · rw [← he]; exact hxy
      · exact List.lt_trans hxy (key_lt hyp fun e => he e.symm)
    rw [addG, if_pos hxp, ih]
    unfold joinS
    rw [List.getLast?_cons_cons]
    cases hg : (y :: ys).getLast? with
    | none => simp at hg
    | some z =>
      simp only
      split
      · rw [List.dropLast_cons_cons]; rfl
      · rfl
structure Stab (ps l : List (List UInt8 × β)) : Prop where
  up : l.Pairwise fun a b => ¬ b.1 < a.1
  vals : ∀ s, valsOf l s = valsOf ps s
theorem joinS_grp : ∀ (done l : List (List UInt8 × β)), (done ++ l).Pairwise (fun a b => ¬ b.1 < a.1) → l.foldl joinS (grp done) = grp (done ++ l)
  | done, [], _ => by rw [List.append_nil]; rfl
  | done, p :: l, h => by
    have hstep : joinS (grp done) p = grp (done ++ [p]) := by
      rw [grp_snoc]
      refine (addG_last p _ (grp_ok done).up fun x hx => ?_).symm
      have hv := ((grp_ok done).mem x).1 hx
      obtain ⟨q, hq, hqx⟩ : ∃ q ∈ done, q.1 = x.1 := by
        have hne : valsOf done x.1 ≠ [] := hv.1 ▸ hv.2
        unfold valsOf at hne
        have hne2 : (done.filter fun (p : List UInt8 × β) => decide (p.1 = x.1)) ≠ [] := fun e => hne (by rw [e]; rfl)
        obtain ⟨q, hq⟩ := List.exists_mem_of_ne_nil _ hne2
        exact ⟨q, (List.mem_filter.1 hq).1, of_decide_eq_true (List.mem_filter.1 hq).2⟩
      rw [← hqx]
      exact (List.pairwise_append.1 h).2.2 q hq p (List.mem_cons_self ..)
    rw [List.foldl_cons, hstep]
    have := joinS_grp (done ++ [p]) l (by rw [List.append_assoc]; exact h)
    rw [List.append_assoc] at this
    exact this
theorem Stab.grp {ps l : List (List UInt8 × β)} (h : Stab ps l) : l.foldl joinS [] = grp ps := by
  have h1 := joinS_grp [] l h.up
  rw [List.nil_append] at h1
  exact h1.trans ((grp_ok l).same h.vals |>.uniq (grp_ok ps))
end
end
section
def fieldT (base : Nat) (f : Fd) : List (List UInt8 × Int) := (tokL f.2).zipIdx.map fun p => (f.1 ++ 58 :: p.1, ((base + p.2 : Nat) : Int))
def nextT (base : Nat) (f : Fd) : Nat := base + (64 + (tokL f.2).length)
def rawT : Nat → List Fd → List (List UInt8 × Int)
  | _, [] => []
  | b, f :: fs => fieldT b f ++ rawT (nextT b f) fs
def baseT : Nat → List Fd → Nat
  | b, [] => b
  | b, f :: fs => baseT (nextT b f) fs
theorem rawT_app : ∀ (a c : List Fd) (b : Nat), rawT b (a ++ c) = rawT b a ++ rawT (baseT b a) c
  | [], c, b => rfl
  | f :: a, c, b => by
    show fieldT b f ++ rawT (nextT b f) (a ++ c) = (fieldT b f ++ rawT (nextT b f) a) ++ _
    rw [rawT_app a c, List.append_assoc]
    rfl
theorem baseT_app : ∀ (a c : List Fd) (b : Nat), baseT b (a ++ c) = baseT (baseT b a) c
  | [], c, b => rfl
  | f :: a, c, b => baseT_app a c (nextT b f)
theorem fieldT_len (base : Nat) (f : Fd) : (fieldT base f).length = (tokL f.2).length := by unfold fieldT; rw [List.length_map, List.length_zipIdx]
def termsL (e : Ev) : List (List UInt8 × List Int) := if checkE e.fs = 0 then grp (rawT 0 e.fs) else []
end
section
open Go.ChangeShapes Go.WideShapes Go.Deep Go.RowKit
section
variable {H : Type} {enc : TypeId × Value → H} {w : World} {base : Nat} {spare : Nat → Bool} {held : Bool}
theorem in_fields {t : TypeId} {fs : Array Field} {tys : Array TypeId} {fuel : Nat} {cs : List Value} {y : DataW H × List MemPlace} (hfs : Tryz.prog.underlying t = some (.struct fs)) (hone : oneCellFields Tryz.prog fs = true) (hty : fs.map Field.type = tys)
    (h : DataW.trod enc Tryz.prog w base spare held fuel t cs = some y) : ∃ n, ∀ (j : Nat) (t : TypeId) (v : Value), tys[j]? = some t → cs[j]? = some v → ∃ z, DataW.trod enc Tryz.prog w base spare held n t [v] = some z := by
  obtain ⟨ys, n, hn, hy, hlen, hyl, hf⟩ := DataW.trod_struct hfs h
  refine ⟨n, fun j t v hj hv => ?_⟩
  rw [← hty, Array.getElem?_map] at hj
  obtain ⟨f, hfj, rfl⟩ := Option.map_eq_some_iff.1 hj
  obtain ⟨ho, hk⟩ := hone_of hone j f hfj
  have h1 := hf j f hfj
  have hjl : j < cs.length := (List.getElem?_eq_some_iff.1 hv).1
  rw [ho, hk, List.drop_eq_getElem_cons hjl] at h1
  have hv2 : cs[j] = v := by rw [List.getElem?_eq_getElem hjl] at hv; simpa using hv
  rw [hv2] at h1
  have hjy : j < ys.length := by rw [hyl]; exact (Array.getElem?_eq_some_iff.1 hfj).1
  rw [List.getElem?_eq_getElem hjy] at h1
  exact ⟨_, h1⟩
theorem flat_len_of {α : Type} {k : Nat} {cellsA : α → List Value} (hlen : ∀ x, (cellsA x).length = k) : ∀ xs : List α, (xs.flatMap cellsA).length = xs.length * k
  | [] => by simp
  | x :: xs => by rw [List.flatMap_cons, List.length_append, hlen, flat_len_of hlen xs, List.length_cons, Nat.add_mul, Nat.one_mul, Nat.add_comm]
theorem flat_get_of {α : Type} {k : Nat} {cellsA : α → List Value} (hlen : ∀ x, (cellsA x).length = k) : ∀ (xs : List α) (i : Nat) (x : α) (j : Nat), xs[i]? = some x → j < k → (xs.flatMap cellsA)[i * k + j]? = (cellsA x)[j]?
  | [], i, x, j, h, _ => by simp at h
  | y :: xs, 0, x, j, h, hj => by
    obtain rfl : y = x := by simpa using h
    rw [List.flatMap_cons, List.getElem?_append_left (by rw [hlen]; omega), Nat.zero_mul, Nat.zero_add]
  | y :: xs, i + 1, x, j, h, hj => by
    have h' : xs[i]? = some x := by simpa using h
    rw [List.flatMap_cons, List.getElem?_append_right (by rw [hlen, Nat.add_mul, Nat.one_mul]; omega), hlen, show (i + 1) * k + j - k = i * k + j by rw [Nat.add_mul, Nat.one_mul]; omega]
    exact flat_get_of hlen xs i x j h' hj
theorem in_row_of {t e : TypeId} {k fuel : Nat} {v : Value} {x : DataW H × List MemPlace} {α : Type} {cellsA : α → List Value} {Q : α → Prop} (ht : Tryz.prog.underlying t = some (.slice e)) (hc : Tryz.prog.cellsOf e = k) (hk0 : 0 < k) (hlen : ∀ x, (cellsA x).length = k)
    (hel : ∀ (fuel : Nat) (cs : List Value) (y : DataW H × List MemPlace), cs.length = k → DataW.trod enc Tryz.prog w base spare held fuel e cs = some y → ∃ x, Q x ∧ cellsA x = cs) (h : DataW.trod enc Tryz.prog w base spare held fuel t [v] = some x) :
    ∃ (A : Option Addr) (c : Nat) (xs : List α), v = .slice A xs.length c ∧ Cells w A (xs.flatMap cellsA) ∧ (xs ≠ [] → ∀ a, A = some a → a.block < w.heap.size ∧ a.spot = none) ∧ xs.length ≤ c ∧ xs.length ≤ 9223372036854775807 ∧ ∀ x ∈ xs, Q x := by
  rcases open_slice ht h with ⟨hcs, _⟩ | ⟨a, m, c, k', n, D, Pl, hcs, hb, hl, hm, hk, hx, hi⟩
  · obtain rfl : v = .slice none 0 0 := by simpa using hcs
    exact ⟨none, 0, [], rfl, .inl rfl, fun h => absurd rfl h, Nat.le_refl _, by show 0 ≤ _; omega, nofun⟩
  · obtain rfl : v = .slice (some a) m c := by simpa using hcs
    rw [hc] at hi
    have hlk : m ≤ k' := by rw [hk]; split <;> omega
    obtain ⟨xs, hpl, hps⟩ := list_of (Q := fun i (p : α) => Q p ∧ ∀ j v, (cellsA p)[j]? = some v → w.cell? ((a.add (i * k)).add j) = some v) m fun i hil => by
      obtain ⟨cs, hc, ht⟩ := hi i (by omega)
      obtain ⟨_, hcl, hat⟩ := World.cells?_some hc
      obtain ⟨p, hp, rfl⟩ := hel _ _ _ hcl ht
      exact ⟨p, hp, fun j v hv => by rw [hat j (by have := (List.getElem?_eq_some_iff.1 hv).1; omega)]; exact hv⟩
    subst hpl
    have hat : ∀ i v, (xs.flatMap cellsA)[i]? = some v → w.cell? (a.add i) = some v := fun i v hv => by
      have hil : i < (xs.flatMap cellsA).length := (List.getElem?_eq_some_iff.1 hv).1
      rw [flat_len_of hlen] at hil
      have hdiv : i / k < xs.length := Nat.div_lt_of_lt_mul (by rw [Nat.mul_comm]; exact hil)
      have hg := flat_get_of hlen xs (i / k) xs[i / k] (i % k) (List.getElem?_eq_getElem hdiv) (Nat.mod_lt _ hk0)
      have hii : i / k * k + i % k = i := Nat.div_add_mod' i k
      rw [hii, hv] at hg
      have := (hps (i / k) _ (List.getElem?_eq_getElem hdiv)).2 (i % k) v hg.symm
      rw [Addr.add_add, hii] at this
      exact this
    have hlt : xs ≠ [] → a.block < w.heap.size ∧ a.spot = none := fun hne => by
      have h0 : 0 < (xs.flatMap cellsA).length := by
        rw [flat_len_of hlen]
        exact Nat.mul_pos (List.length_pos_iff.2 hne) hk0
      have := hat 0 _ (List.getElem?_eq_getElem h0)
      have := cell_lt this
      simpa [Addr.add] using this
    refine ⟨some a, c, xs, rfl, ?_, fun hne b hb => by cases hb; exact hlt hne, hl, by unfold maxLen at hm; omega, fun p hp => ?_⟩
    · by_cases hne : xs = []
      · rw [hne]; exact .inl rfl
      · obtain ⟨b, o, s⟩ := a
        obtain rfl : s = none := (hlt hne).2
        exact .inr ⟨b, o, rfl, fun i v hv => by have := hat i v hv; rw [Addr.add_lit] at this; exact this⟩
    · obtain ⟨i, hil, rfl⟩ := List.mem_iff_getElem.1 hp
      exact (hps i _ (List.getElem?_eq_getElem hil)).1
end
section
variable {H : Type} {enc : TypeId × Value → H}
end
end
section
open Go.RowKit
structure PoC where
  doc : Int
  pos : List Int
  A : Option Addr
  c : Nat
def PoC.val (x : PoC) : Value := .agg #[.int .i64 x.doc, .slice x.A x.pos.length x.c]
def PoC.cells (x : PoC) : List Value := [.int .i64 x.doc, .slice x.A x.pos.length x.c]
def PoC.po (x : PoC) : Po := (x.doc, x.pos)
def pcells (l : List PoC) : List Value := l.flatMap PoC.cells
theorem pcells_len (l : List PoC) : (pcells l).length = l.length * 2 := flat_len_of (cellsA := PoC.cells) (k := 2) (fun _ => rfl) l
theorem pcells_get {l : List PoC} {i : Nat} {x : PoC} (h : l[i]? = some x) {j : Nat} (hj : j < 2) : (pcells l)[i * 2 + j]? = x.cells[j]? := flat_get_of (cellsA := PoC.cells) (k := 2) (fun _ => rfl) l i x j h hj
theorem pcells_at {w : World} {A : Option Addr} {l : List PoC} (h : Cells w A (pcells l)) {i : Nat} {x : PoC} (hx : l[i]? = some x) : ∃ g o, A = some ⟨g, o, none⟩ ∧ w.cell? ⟨g, o + i * 2, none⟩ = some (.int .i64 x.doc) ∧ w.cell? ⟨g, o + i * 2 + 1, none⟩ = some (.slice x.A x.pos.length x.c) := by
  obtain ⟨g, o, hA, hc⟩ := h.at_ (by rw [pcells_len]; have := (List.getElem?_eq_some_iff.1 hx).1; omega)
  refine ⟨g, o, hA, ?_, ?_⟩
  · have := hc (i * 2 + 0) _ (by rw [pcells_get hx (by omega)]; rfl)
    exact this
  · have := hc (i * 2 + 1) _ (by rw [pcells_get hx (by omega)]; rfl)
    exact this
structure PosOk (w : World) (A : Option Addr) (l : List PoC) : Prop where
  cells : Cells w A (pcells l)
  each : ∀ x ∈ l, Cells w x.A (x.pos.map IV) ∧ x.pos.length ≤ 1000000000
theorem PosOk.ext {w w1 : World} {A : Option Addr} {l : List PoC} (h : PosOk w A l) (hE : Ext w w1) : PosOk w1 A l := ⟨h.cells.ext hE, fun x hx => ⟨(h.each x hx).1.ext hE, (h.each x hx).2⟩⟩
theorem PosOk.nil (w : World) (A : Option Addr) : PosOk w A [] := ⟨.inl rfl, nofun⟩
def docV : Value := .func (.func 141) #[] #[]
set_option maxRecDepth 100000 in
theorem docv_any (x : PoC) (w : World) : Calls Tryz.prog 141 #[x.val] w fun e w' => e = .returned (.int .i64 x.doc) ∧ Ext w w' := by
  obtain ⟨d, p, A, c⟩ := x
  unfold PoC.val
  go_enter Tryz.func141, Tryz.ntmps141
  go_wp2
  go_ret
  exact ⟨rfl, (Ext.refl w).alloc _⟩
set_option maxRecDepth 100000 in
set_option maxHeartbeats 1000000 in
theorem risingP_any (ps : List PoC) (A : Option Addr) (m c : Nat) (n : Int) (w : World) (hm : m = ps.length) (hc : Cells w A (pcells ps)) (hm9 : m ≤ 1000000000) :
    Calls Tryz.prog 140 #[.slice A m c, .int .i64 n, docV] w fun e w' => e = .returned (.bool (risB n (-1) (ps.map (·.doc)))) ∧ Ext w w' := by
  unfold docV
  have hid := hide (fun x W => docv_any x W)
  obtain ⟨Z, hZ⟩ : ∃ Z, Z = risB n (-1) (ps.map (·.doc)) := ⟨_, rfl⟩
  rw [← hZ]
  replace hZ := hide hZ
  replace hc := hide hc
  replace hm := hide hm
  go_enter Tryz.func140, Tryz.ntmps140
  go_wp2_with fail
  go_loopw [7, 13] (fun s7 s13 wr => ∃ (i : Nat) (p : Int), s7 = .int .i64 p ∧ s13 = .int .i64 (i : Int) ∧ i ≤ m ∧ Hid (Z = risB n p ((ps.drop i).map (·.doc))) ∧ Hid (Ext w wr)) (fun _ s13 _ => m - (intOf s13).toNat)
  case atStart => exact ⟨0, -1, rfl, rfl, by omega, hide (by rw [hZ.out]; rfl), hide (Ext.refl w)⟩
  case round =>
    obtain ⟨i, p, rfl, rfl, hi, hin, hE⟩ := hrel
    by_cases h : i < m
    · obtain ⟨x, hxi⟩ : ∃ x, ps[i]? = some x := ⟨_, List.getElem?_eq_getElem (by rw [← hm.out]; exact h)⟩
      obtain ⟨g, o, hA, hc0, hc1⟩ := pcells_at (hc.out.ext hE.out) hxi
      subst hA
      have hdr : ps.drop i = x :: ps.drop (i + 1) := by
        rw [List.drop_eq_getElem_cons (List.getElem?_eq_some_iff.1 hxi).1]
        congr 1
        exact (List.getElem?_eq_some_iff.1 hxi).2
      have hin2 := hin.out
      rw [hdr, List.map_cons, risB] at hin2
      have hca := hide (fun W => hid.out x W)
      have hEx := hide (fun W => (hE.out.alloc (.cells #[.int .i64 x.doc, .slice x.A x.pos.length x.c] W)))
      replace hxi := hide hxi
      replace hdr := hide hdr
      obtain ⟨d, pos, B, cB⟩ := x
      unfold PoC.val at hca
      simp only at hc0 hc1 hin2 hca hEx
      by_cases h1 : p < d
      · by_cases h2 : d < n
        · rw [decide_eq_true h1, decide_eq_true h2, Bool.true_and, Bool.true_and] at hin2
          replace hin2 := hide hin2
          go_wp2_with fail
          refine (hca.out _).mono ?_
          rintro e w2 ⟨rfl, hE2⟩
          go_wp2_with fail
          exact ⟨⟨i + 1, d, rfl, rfl, by omega, hin2, hide ((hEx.out _).trans hE2)⟩, by simp only [intOf]; omega⟩
        · rw [decide_eq_true h1, decide_eq_false h2, Bool.true_and, Bool.false_and] at hin2
          subst hin2
          go_wp2_with fail
          refine (hca.out _).mono ?_
          rintro e w2 ⟨rfl, hE2⟩
          go_wp2_with fail
          go_ret
          exact ⟨rfl, (hEx.out _).trans hE2⟩
      · rw [decide_eq_false h1, Bool.false_and, Bool.false_and] at hin2
        subst hin2
        go_wp2_with fail
        refine (hca.out _).mono ?_
        rintro e w2 ⟨rfl, hE2⟩
        go_wp2_with fail
        go_ret
        exact ⟨rfl, (hEx.out _).trans hE2⟩
    · obtain rfl : i = m := by omega
      have hZe : Z = true := by rw [hin.out, List.drop_eq_nil_of_le (by rw [← hm.out]; exact Nat.le_refl _), List.map_nil, risB]
      subst hZe
      go_wp2_with fail
      go_ret
      exact ⟨rfl, hE.out⟩
end
section
open Go.RowKit Go.Maps
structure TmC where
  s : List UInt8
  pos : List Int
  A : Option Addr
  c : Nat
def TmC.cells (x : TmC) : List Value := [.string ⟨x.s.toArray⟩, .slice x.A x.pos.length x.c]
def TmC.tm (x : TmC) : List UInt8 × List Int := (x.s, x.pos)
def tmcells (l : List TmC) : List Value := l.flatMap TmC.cells
def tmR (l : List TmC) : List (List UInt8 × List Int) := l.map TmC.tm
theorem tmcells_len (l : List TmC) : (tmcells l).length = l.length * 2 := flat_len_of (cellsA := TmC.cells) (k := 2) (fun _ => rfl) l
theorem tmcells_takeR (l : List TmC) (i : Nat) : tmcells (l.take i) = (tmcells l).take (i * 2) := flat_take (f := TmC.cells) (k := 2) (fun _ => rfl) l i
theorem tmcells_drop (l : List TmC) (i : Nat) : tmcells (l.drop i) = (tmcells l).drop (i * 2) := flat_part (f := TmC.cells) (k := 2) (fun _ => rfl) l i
theorem tmcells_one (l : List TmC) : ∀ u ∈ tmcells l, u.oneCell' = true := fun u hu => by
  unfold tmcells at hu
  obtain ⟨x, _, hx⟩ := List.mem_flatMap.1 hu
  unfold TmC.cells at hx
  simp only [List.mem_cons, List.not_mem_nil, or_false] at hx
  rcases hx with rfl | rfl <;> rfl
theorem tmcells_get {l : List TmC} {i : Nat} {x : TmC} (h : l[i]? = some x) {j : Nat} (hj : j < 2) : (tmcells l)[i * 2 + j]? = x.cells[j]? := flat_get_of (cellsA := TmC.cells) (k := 2) (fun _ => rfl) l i x j h hj
theorem tmcells_at {w : World} {A : Option Addr} {l : List TmC} (h : Cells w A (tmcells l)) {i : Nat} {x : TmC} (hx : l[i]? = some x) : ∃ g o, A = some ⟨g, o, none⟩ ∧ ∀ W, Ext w W → W.cell? ⟨g, o + i * 2, none⟩ = some (.string ⟨x.s.toArray⟩) ∧ W.cell? ⟨g, o + i * 2 + 1, none⟩ = some (.slice x.A x.pos.length x.c) := by
  obtain ⟨g, o, hA, hc⟩ := h.at_ (by rw [tmcells_len]; have := (List.getElem?_eq_some_iff.1 hx).1; omega)
  refine ⟨g, o, hA, fun W hE => ⟨?_, ?_⟩⟩
  · have := hE.cell (hc (i * 2 + 0) _ (by rw [tmcells_get hx (by omega)]; rfl))
    exact this
  · have := hE.cell (hc (i * 2 + 1) _ (by rw [tmcells_get hx (by omega)]; rfl))
    exact this
structure TmsR (w : World) (A : Option Addr) (n c : Nat) (l : List TmC) : Prop where
  len : n = l.length
  cells : Cells w A (tmcells l)
  cap : n ≤ c
  spot : ∀ a, A = some a → a.spot = none
  each : ∀ x ∈ l, Cells w x.A (x.pos.map IV) ∧ x.s.length ≤ 9223372036854775807
theorem TmsR.ext {w w1 : World} {A : Option Addr} {n c : Nat} {l : List TmC} (h : TmsR w A n c l) (hE : Ext w w1) : TmsR w1 A n c l := ⟨h.len, h.cells.ext hE, h.cap, h.spot, fun x hx => ⟨(h.each x hx).1.ext hE, (h.each x hx).2⟩⟩
theorem TmsR.nil (w : World) : TmsR w none 0 0 [] := ⟨rfl, .inl rfl, Nat.le_refl _, nofun, nofun⟩
set_option maxRecDepth 100000 in
theorem elemRt : Elem Tryz.prog 33 46 2 40 := ⟨Tryz.underlying33, ⟨_, _, rfl, rfl, rfl, rfl, rfl⟩, by omega, by omega⟩
section
variable {β : Type} (p : List UInt8 × β) {R : List (List UInt8 × List β)} {k : Nat} {r : List UInt8 × List β} (h : R[k]? = some r)
include h
theorem addG_lt (hl : r.1 < p.1) : R.take k ++ addG p (R.drop k) = R.take (k + 1) ++ addG p (R.drop (k + 1)) := by
  obtain ⟨hk, rfl⟩ := List.getElem?_eq_some_iff.1 h
  rw [List.drop_eq_getElem_cons hk, List.take_succ_eq_append_getElem hk, List.append_assoc]
  conv => lhs; rw [addG]
  rw [if_pos hl]
  rfl
theorem addG_eq (hl : ¬ r.1 < p.1) (he : r.1 = p.1) : addG p (R.drop k) = (r.1, r.2 ++ [p.2]) :: R.drop (k + 1) := by
  obtain ⟨hk, rfl⟩ := List.getElem?_eq_some_iff.1 h
  rw [List.drop_eq_getElem_cons hk, addG, if_neg hl, if_pos he]
theorem addG_gt (hl : ¬ r.1 < p.1) (he : ¬ r.1 = p.1) : addG p (R.drop k) = (p.1, [p.2]) :: R.drop k := by
  obtain ⟨hk, rfl⟩ := List.getElem?_eq_some_iff.1 h
  rw [List.drop_eq_getElem_cons hk, addG, if_neg hl, if_neg he]
end
theorem cells_takeR {w : World} {A : Option Addr} {xs : List Value} (h : Cells w A xs) (k : Nat) : Cells w A (xs.take k) := by
  rcases h with h | ⟨g, o, hA, hc⟩
  · left; rw [h]; exact List.take_nil
  · refine .inr ⟨g, o, hA, fun i v hv => hc i v ?_⟩
    rw [List.getElem?_take] at hv
    split at hv
    · exact hv
    · cases hv
theorem IV_one (l : List Int) : ∀ u ∈ l.map IV, u.oneCell' = true := fun u hu => by
  obtain ⟨x, _, rfl⟩ := List.mem_map.1 hu
  rfl
theorem tmcells_mid (a b : List TmC) (x : TmC) : tmcells (a ++ x :: b) = (tmcells a ++ x.cells) ++ tmcells b := by
  unfold tmcells
  rw [List.flatMap_append, List.flatMap_cons, List.append_assoc]
theorem tmR_mid (D : List TmC) (i j : Nat) (x : TmC) : tmR (D.take i ++ x :: D.drop j) = (tmR D).take i ++ x.tm :: (tmR D).drop j := by
  unfold tmR
  rw [List.map_append, List.map_cons, List.map_take, List.map_drop]
def AddA (w : World) (R : List (List UInt8 × List Int)) (e : Ending) (w' : World) : Prop := ∃ (D : List TmC) (A : Option Addr) (n c : Nat), e = .returned (.slice A n c) ∧ tmR D = R ∧ TmsR w' A n c D ∧ Ext w w'
end
section
open Go.RowKit Go.Maps
theorem AddA.of {w w8 : World} {R : List (List UInt8 × List Int)} {D : List TmC} {A : Option Addr} {n n2 c : Nat} (ho : w8.ownsRow w.heap.size 46 2 (.slice A n c) n2 (tmcells D)) (hn : n = n2) (hl : n = D.length) (hR : tmR D = R) (hE : Ext w w8) (he : ∀ x ∈ D, Cells w8 x.A (x.pos.map IV) ∧ x.s.length ≤ 9223372036854775807) : AddA w R (.returned (.slice A n c)) w8 := by
  subst hn
  have hc := owns_cap ho
  exact ⟨D, A, n, c, rfl, hR, ⟨hl, Cells.of_own ho, hc.1, hc.2, he⟩, hE⟩
set_option maxRecDepth 100000 in
set_option maxHeartbeats 4000000 in
theorem radd_any (D : List TmC) (A : Option Addr) (n c : Nat) (s : List UInt8) (z : Int) (w : World) (h : TmsR w A n c D) (hs : s.length ≤ 9223372036854775807) (hn9 : n ≤ 1000000) (hpl : ∀ x ∈ D, x.pos.length ≤ 1000000) :
    Calls Tryz.prog 56 #[.slice A n c, .string ⟨s.toArray⟩, .int .i64 z] w fun e w' => AddA w (addG (s, z) (tmR D)) e w' := by
  have hless := hide (fun (a b : List UInt8) W (ha : a.length ≤ 9223372036854775807) (hb : b.length ≤ 9223372036854775807) => eless_any a b W ha hb)
  have hlen := h.len
  have hcap := h.cap
  obtain ⟨Z, hZ⟩ : ∃ Z, Z = addG (s, z) (tmR D) := ⟨_, rfl⟩
  rw [← hZ]
  have hz0 := hide (show Z = (tmR D).take 0 ++ addG (s, z) ((tmR D).drop 0) from hZ)
  have htl : (tmR D).length = n := by unfold tmR; rw [List.length_map, hlen]
  have hht := fun (k : Nat) (hk : k ≤ c) => run_headG Tryz.underlying33 (fun W : World => (by kernel_rfl : (sizeOf 46).run Tryz.prog W = .ok 2 W)) (n := n) (c := c) (k := k) (A := A) hk h.spot (z := (k : Int)) rfl
  have hft := fun (k : Nat) (hk : k ≤ n) => run_fromG Tryz.underlying33 (fun W : World => (by kernel_rfl : (sizeOf 46).run Tryz.prog W = .ok 2 W)) (n := n) (c := c) (k := k) (A := A) hk hcap h.spot (z := (k : Int)) rfl
  have hcl : (tmcells D).length = n * 2 := by rw [tmcells_len, hlen]
  replace hht := hide hht
  replace hft := hide hft
  replace hlen := hide hlen
  replace hpl := hide hpl
  replace h := hide h
  replace htl := hide htl
  replace hcl := hide hcl
  clear hZ
  go_enter Tryz.func56, Tryz.ntmps56
  go_wp2_with fail
  go_loopw [7] (fun s7 wr => ∃ k : Nat, s7 = .int .i64 (k : Int) ∧ k ≤ n ∧ Hid (Z = (tmR D).take k ++ addG (s, z) ((tmR D).drop k)) ∧ Hid (Ext w wr)) (fun s7 _ => n - (intOf s7).toNat)
  case atStart => exact ⟨0, rfl, by omega, hz0, hide (Ext.refl _)⟩
  case round =>
    clear hz0
    obtain ⟨k, rfl, hk, hz, hE⟩ := hrel
    have hcol := hide (h.out.cells.ext hE.out)
    by_cases hkn : k < n
    · obtain ⟨x, hx⟩ : ∃ x, D[k]? = some x := ⟨_, List.getElem?_eq_getElem (by rw [← hlen.out]; exact hkn)⟩
      have hxr : (tmR D)[k]? = some x.tm := by unfold tmR; rw [List.getElem?_map, hx]; rfl
      obtain ⟨hxc, hxs⟩ := h.out.each x (List.mem_of_getElem? hx)
      have hxp := hpl.out x (List.mem_of_getElem? hx)
      obtain ⟨g, o, hA, hat⟩ := tmcells_at hcol.out hx
      have hlt := hide (fun hl => addG_lt (s, z) hxr hl)
      have heq := hide (fun hl he => addG_eq (s, z) hxr hl he)
      have hgt := hide (fun hl he => addG_gt (s, z) hxr hl he)
      obtain ⟨l0, l1⟩ := hat wr (Ext.refl _)
      have hxl := hless.out x.s s wr hxs hs
      obtain ⟨xs, pos, xA, xc⟩ := x
      unfold TmC.tm at hlt heq hgt
      simp only at hlt heq hgt l0 l1 hxl hxc hxs hxp hat
      obtain ⟨m, hm⟩ : ∃ m, m = pos.length := ⟨_, rfl⟩
      rw [← hm] at l1 hat hxp
      replace hxl := hide hxl
      replace hat := hide hat
      replace hxc := hide hxc
      replace hm := hide hm
      replace hx := hide hx
      clear hxr
      by_cases hlt1 : xs < s
      · have hz2 := hide (show Z = (tmR D).take (k + 1) ++ addG (s, z) ((tmR D).drop (k + 1)) by rw [hz.out, hlt.out hlt1])
        have hd : decide (xs < s) = true := decide_eq_true hlt1
        rw [hd] at hxl
        subst hA
        clear heq hgt hd hz
        go_wp2_with fail
        refine hxl.out.mono ?_
        rintro e w3 ⟨rfl, hE3⟩
        go_wp2_with fail
        go_roundw
        case rel => exact ⟨k + 1, by go_num, by omega, hz2, hide (hE.out.trans hE3)⟩
        case measure => simp only [intOf]; omega
      · have hd : decide (xs < s) = false := decide_eq_false hlt1
        rw [hd] at hxl
        have hsl := hht.out k (by omega)
        by_cases hes : xs = s
        · have hz3 := hide (show Z = (tmR D).take k ++ (xs, pos ++ [z]) :: (tmR D).drop (k + 1) by rw [hz.out, heq.out hlt1 hes])
          have hq : (xs == s) = true := beq_iff_eq.2 hes
          obtain ⟨A8, hf8, hc8, _⟩ := hft.out (k + 1) (by omega)
          rw [show (((k + 1 : Nat)) : Int) = (k : Int) + 1 by omega] at hf8
          have hk1w : wrap64 ((k : Int) + 1) = (k : Int) + 1 := by unfold wrap64; omega
          obtain ⟨r, hr⟩ : ∃ r, r = n - (k + 1) := ⟨_, rfl⟩
          obtain ⟨cr, hcr⟩ : ∃ cr, cr = c - (k + 1) := ⟨_, rfl⟩
          rw [← hr, ← hcr] at hf8
          replace hr := hide hr
          replace hcr := hide hcr
          replace hc8 := hide hc8
          replace hes := hide hes
          subst hA
          clear hlt hgt heq hd hz hlt1
          go_wp2_with fail
          refine hxl.out.mono ?_
          rintro e w3 ⟨rfl, hE3⟩
          have hE03 := hide (hE.out.trans hE3)
          have hck : Cells (w3.alloc (.cells #[] 46)) (some ⟨g, o, none⟩) (tmcells (D.take k)) := by
            rw [tmcells_takeR]
            have h1 := (h.out.cells.ext hE03.out).ext ((Ext.refl w3).alloc (.cells #[] 46))
            exact cells_takeR h1 _
          have hckl : (tmcells (D.take k)).length = k * 2 := by rw [tmcells_len, List.length_take, ← hlen.out]; omega
          have hsz3 : w3.heap.size ≤ (w3.alloc (.cells #[] 46)).heap.size := ((Ext.refl w3).alloc _).size
          clear l0 l1
          go_wp2_with (at_builtin; first
            | (refine wpList_app (m := k) elemRt (own_empty2 w3 46) hck (.tmp 24) (.tmp 27) rfl rfl rfl rfl rfl hckl (tmcells_one _) (by omega) hsz3 (fun A4 c4 w4 ho4 hg4 hl4 => ?_); rw [Nat.zero_add, List.nil_append] at ho4; have hE34 : Ext w3 w4 := ((Ext.refl w3).alloc _).grown hg4 (fun k hk => by cases hk; exact Nat.le_refl _); clear hg4 hl4 hck hckl hsz3; obtain ⟨l0, l1⟩ := hat.out w4 (hE3.trans hE34); have l1' := ((Ext.refl w4).alloc (.cells #[] 3)).cell l1; have hcp : Cells (w4.alloc (.cells #[] 3)) xA (pos.map IV) := (hxc.out.ext (hE03.out.trans hE34)).ext ((Ext.refl w4).alloc _); have hcpl : (pos.map IV).length = m * 1 := (by rw [List.length_map, hm.out]; omega); have hsz4 : w4.heap.size ≤ (w4.alloc (.cells #[] 3)).heap.size := ((Ext.refl w4).alloc _).size; replace ho4 := hide ho4; replace hE34 := hide hE34)
            | (refine wpList_app (m := m) elemZ (own_empty w4 3) hcp (.tmp 44) (.tmp 49) rfl rfl rfl rfl rfl hcpl (IV_one _) (by omega) hsz4 (fun A5 c5 w5 ho5 hg5 hl5 => ?_); rw [Nat.zero_add, List.nil_append] at ho5; have hE45 : Ext w4 w5 := ((Ext.refl w4).alloc _).grown hg5 (fun k hk => by cases hk; exact Nat.le_refl _); have hsz5 := hE45.size; clear hg5 hl5 hcp hcpl hsz4 l0 l1 l1')
            | (refine wpList_appZ (us := [.int .i64 z]) (m := 1) elemZ ho5 rfl (.tmp 50) (.tmp 52) rfl rfl rfl rfl rfl (one_of rfl) (by omega) hsz5 (fun A6 c6 w6 ho6 hg6 hl6 => ?_); have hE46 : Ext w4 w6 := hE45.grown hg6 (fun k hk => by obtain ⟨_, _, hb⟩ := owns_row ho5 hk; exact hb); have ho46 := hE46.owns ho4.out; have hsz6 := (hE34.out.trans hE46).size; clear hg6 hl6 hsz5; replace ho6 := hide ho6; replace hE46 := hide hE46)
            | (refine wpList_appZ (us := [.string ⟨s.toArray⟩, .slice A6 (m + 1) c6]) (m := 1) elemRt ho46 rfl (.tmp 42) (.tmp 55) rfl rfl rfl rfl rfl (one_of rfl) (by omega) hsz6 (fun A7 c7 w7 ho7 hg7 hl7 => ?_); have hE37 : Ext w3 w7 := (hE34.out.trans hE46.out).grown hg7 (fun k hk => by obtain ⟨_, _, hb⟩ := owns_row ho46 hk; exact hb); have ho67 := (Chg.of_grown (S := fun k' => (Value.slice A4 k c4).ownBlock = some k') hg7 (fun k' _ hk' => hk')).owns ho6.out (fun g hg hn => by obtain ⟨cs, hr, _⟩ := owns_row ho6.out hg; exact owns_unlike ho46 hr (by decide) hn); have hc7 := hc8.out w7 _ hcl.out (h.out.cells.ext (hE03.out.trans hE37)); have hcl7 : ((tmcells D).drop ((k + 1) * 2)).length = r * 2 := (by rw [List.length_drop, hcl.out, hr.out]; omega); have hsz7 := hE37.size; clear hg7 hl7 hsz6; replace ho67 := hide ho67; replace hE37 := hide hE37)
            | (refine wpList_app (m := r) elemRt ho7 hc7 (.tmp 57) (.tmp 61) rfl rfl rfl rfl rfl hcl7 (by rw [← tmcells_drop]; exact tmcells_one _) (by have := hr.out; omega) hsz7 (fun A9 c9 w9 ho9 hg9 hl9 => ?_); have hE39 : Ext w3 w9 := hE37.out.grown hg9 (fun k hk => by obtain ⟨_, _, hb⟩ := owns_row ho7 hk; exact hb); have ho69 := (Chg.of_grown (S := fun k' => (Value.slice A7 (k + 1) c7).ownBlock = some k') hg9 (fun k' _ hk' => hk')).owns ho67.out (fun g hg hn => by obtain ⟨cs, hr, _⟩ := owns_row ho67.out hg; exact owns_unlike ho7 hr (by decide) hn); clear hg9 hl9 hsz7))
          have hmid := tmcells_mid (D.take k) (D.drop (k + 1)) ⟨s, pos ++ [z], A6, c6⟩
          have hnc : (⟨s, pos ++ [z], A6, c6⟩ : TmC).cells = [.string ⟨s.toArray⟩, .slice A6 (m + 1) c6] := by unfold TmC.cells; simp only; rw [List.length_append, ← hm.out]; rfl
          rw [hnc, tmcells_drop] at hmid
          rw [← hmid] at ho9
          have hlD : k + 1 + r = (D.take k ++ (⟨s, pos ++ [z], A6, c6⟩ : TmC) :: D.drop (k + 1)).length := by
            rw [List.length_append, List.length_cons, List.length_take, List.length_drop, ← hlen.out, hr.out]
            omega
          have hE09 := hE03.out.trans hE39
          have hRz : tmR (D.take k ++ (⟨s, pos ++ [z], A6, c6⟩ : TmC) :: D.drop (k + 1)) = Z := by rw [tmR_mid, hz3.out, hes.out]; rfl
          have hech : ∀ y ∈ D.take k ++ (⟨s, pos ++ [z], A6, c6⟩ : TmC) :: D.drop (k + 1), Cells w9 y.A (y.pos.map IV) ∧ y.s.length ≤ 9223372036854775807 := fun y hy => by
            have hold := fun (hy : y ∈ D) => ((h.out.ext hE09).each y hy)
            rcases List.mem_append.1 hy with hy | hy
            · exact hold (List.mem_of_mem_take hy)
            · rcases List.mem_cons.1 hy with rfl | hy
              · refine ⟨?_, hs⟩
                have := Cells.of_own ho69
                rw [List.map_append]
                exact this
              · exact hold (List.mem_of_mem_drop hy)
          have hfin := hide (AddA.of (w := w) (R := Z) (owns_lower ho9 hE03.out.size) rfl hlD hRz hE09 hech)
          go_ret
          exact hfin.out
        · have hz3 := hide (show Z = (tmR D).take k ++ (s, [z]) :: (tmR D).drop k by rw [hz.out, hgt.out hlt1 hes])
          have hq : (xs == s) = false := beq_eq_false_iff_ne.2 hes
          replace hes := hide hes
          subst hA
          clear hlt hgt heq hd hz hlt1
          obtain ⟨A8, hf8, hc8, _⟩ := hft.out k hk
          obtain ⟨r, hr⟩ : ∃ r, r = n - k := ⟨_, rfl⟩
          obtain ⟨cr, hcr⟩ : ∃ cr, cr = c - k := ⟨_, rfl⟩
          rw [← hr, ← hcr] at hf8
          replace hr := hide hr
          replace hcr := hide hcr
          replace hc8 := hide hc8
          go_wp2_with fail
          refine hxl.out.mono ?_
          rintro e w3 ⟨rfl, hE3⟩
          have hE03 := hide (hE.out.trans hE3)
          clear l0 l1
          have hck := cells_takeR ((h.out.cells.ext hE03.out).ext ((Ext.refl w3).alloc (.cells #[] 46))) (k * 2)
          rw [← tmcells_takeR] at hck
          have hckl : (tmcells (D.take k)).length = k * 2 := by rw [tmcells_len, List.length_take, ← hlen.out]; omega
          have hsz3 : w3.heap.size ≤ (w3.alloc (.cells #[] 46)).heap.size := ((Ext.refl w3).alloc _).size
          go_wp2_with (at_builtin; first
            | (refine wpList_app (m := k) elemRt (own_empty2 w3 46) hck (.tmp 24) (.tmp 27) rfl rfl rfl rfl rfl hckl (tmcells_one _) (by omega) hsz3 (fun A4 c4 w4 ho4 hg4 hl4 => ?_); rw [Nat.zero_add, List.nil_append] at ho4; have hE34 : Ext w3 w4 := ((Ext.refl w3).alloc _).grown hg4 (fun k hk => by cases hk; exact Nat.le_refl _); clear hg4 hl4 hck hckl hsz3; (try obtain ⟨l0, l1⟩ := hat.out w4 (hE3.trans hE34)); have ho46 := ((Ext.refl w4).alloc (.cells #[.int .i64 z] 3)).owns ho4; have hrz := Row.new w4 3 #[.int .i64 z]; have hE36 : Ext w3 (w4.alloc (.cells #[.int .i64 z] 3)) := hE34.alloc _; have hsz6 := hE36.size; replace hrz := hide hrz; replace hE36 := hide hE36)
            | (refine wpList_appZ (us := [.string ⟨s.toArray⟩, .slice (some ⟨w4.heap.size, 0, none⟩) 1 1]) (m := 1) elemRt ho46 (by simp) (.tmp 63) (.tmp 68) rfl rfl rfl rfl rfl (one_of rfl) (by omega) hsz6 (fun A7 c7 w7 ho7 hg7 hl7 => ?_); have hE37 : Ext w3 w7 := hE36.out.grown hg7 (fun k hk => by obtain ⟨_, _, hb⟩ := owns_row ho46 hk; exact hb); have hr7 := hrz.out.grown hg7 (fun e => owns_unlike ho46 hrz.out (by decide) e.symm); have hc7 := hc8.out w7 _ hcl.out (h.out.cells.ext (hE03.out.trans hE37)); have hcl7 : ((tmcells D).drop (k * 2)).length = r * 2 := (by rw [List.length_drop, hcl.out, hr.out]; omega); have hsz7 := hE37.size; clear hg7 hl7 hsz6; replace hr7 := hide hr7; replace hE37 := hide hE37)
            | (refine wpList_app (m := r) elemRt ho7 hc7 (.tmp 70) (.tmp 73) rfl rfl rfl rfl rfl hcl7 (by rw [← tmcells_drop]; exact tmcells_one _) (by have := hr.out; omega) hsz7 (fun A9 c9 w9 ho9 hg9 hl9 => ?_); have hE39 : Ext w3 w9 := hE37.out.grown hg9 (fun k hk => by obtain ⟨_, _, hb⟩ := owns_row ho7 hk; exact hb); have hr9 := hr7.out.grown hg9 (fun e => owns_unlike ho7 hr7.out (by decide) e.symm); clear hg9 hl9 hsz7))
          have hmid := tmcells_mid (D.take k) (D.drop k) ⟨s, [z], some ⟨w4.heap.size, 0, none⟩, 1⟩
          have hnc : (⟨s, [z], some ⟨w4.heap.size, 0, none⟩, 1⟩ : TmC).cells = [.string ⟨s.toArray⟩, .slice (some ⟨w4.heap.size, 0, none⟩) 1 1] := rfl
          rw [hnc, tmcells_drop] at hmid
          rw [← hmid] at ho9
          have hlD : k + 1 + r = (D.take k ++ (⟨s, [z], some ⟨w4.heap.size, 0, none⟩, 1⟩ : TmC) :: D.drop k).length := by
            rw [List.length_append, List.length_cons, List.length_take, List.length_drop, ← hlen.out, hr.out]
            omega
          have hE09 := hE03.out.trans hE39
          have hRz : tmR (D.take k ++ (⟨s, [z], some ⟨w4.heap.size, 0, none⟩, 1⟩ : TmC) :: D.drop k) = Z := by rw [tmR_mid, hz3.out]; rfl
          have hech : ∀ y ∈ D.take k ++ (⟨s, [z], some ⟨w4.heap.size, 0, none⟩, 1⟩ : TmC) :: D.drop k, Cells w9 y.A (y.pos.map IV) ∧ y.s.length ≤ 9223372036854775807 := fun y hy => by
            have hold := fun (hy : y ∈ D) => ((h.out.ext hE09).each y hy)
            rcases List.mem_append.1 hy with hy | hy
            · exact hold (List.mem_of_mem_take hy)
            · rcases List.mem_cons.1 hy with rfl | hy
              · exact ⟨.inr ⟨w4.heap.size, 0, rfl, fun i v hv => by
                  rw [Nat.zero_add, hr9.get]
                  have hv2 : [Value.int .i64 z][i]? = some v := hv
                  simpa using hv2⟩, hs⟩
              · exact hold (List.mem_of_mem_drop hy)
          have hfin := hide (AddA.of (w := w) (R := Z) (owns_lower ho9 hE03.out.size) rfl hlD hRz hE09 hech)
          go_ret
          exact hfin.out
    · have hz3 := hide (show Z = (tmR D).take k ++ (s, [z]) :: (tmR D).drop k by
        rw [hz.out, List.drop_of_length_le (by rw [htl.out]; omega)]
        rfl)
      have hsl := hht.out k (by omega)
      obtain ⟨A8, hf8, hc8, _⟩ := hft.out k hk
      obtain ⟨r, hr⟩ : ∃ r, r = n - k := ⟨_, rfl⟩
      obtain ⟨cr, hcr⟩ : ∃ cr, cr = c - k := ⟨_, rfl⟩
      rw [← hr, ← hcr] at hf8
      replace hr := hide hr
      replace hcr := hide hcr
      replace hc8 := hide hc8
      clear hz
      obtain ⟨w3, rfl⟩ : ∃ w3, w3 = wr := ⟨_, rfl⟩
      have hE03 := hE
      have hck := cells_takeR ((h.out.cells.ext hE03.out).ext ((Ext.refl w3).alloc (.cells #[] 46))) (k * 2)
      rw [← tmcells_takeR] at hck
      have hckl : (tmcells (D.take k)).length = k * 2 := by rw [tmcells_len, List.length_take, ← hlen.out]; omega
      have hsz3 : w3.heap.size ≤ (w3.alloc (.cells #[] 46)).heap.size := ((Ext.refl w3).alloc _).size
      go_wp2_with (at_builtin; first
        | (refine wpList_app (m := k) elemRt (own_empty2 w3 46) hck (.tmp 24) (.tmp 27) rfl rfl rfl rfl rfl hckl (tmcells_one _) (by omega) hsz3 (fun A4 c4 w4 ho4 hg4 hl4 => ?_); rw [Nat.zero_add, List.nil_append] at ho4; have hE34 : Ext w3 w4 := ((Ext.refl w3).alloc _).grown hg4 (fun k hk => by cases hk; exact Nat.le_refl _); clear hg4 hl4 hck hckl hsz3; (try obtain ⟨l0, l1⟩ := hat.out w4 (hE3.trans hE34)); have ho46 := ((Ext.refl w4).alloc (.cells #[.int .i64 z] 3)).owns ho4; have hrz := Row.new w4 3 #[.int .i64 z]; have hE36 : Ext w3 (w4.alloc (.cells #[.int .i64 z] 3)) := hE34.alloc _; have hsz6 := hE36.size; replace hrz := hide hrz; replace hE36 := hide hE36)
        | (refine wpList_appZ (us := [.string ⟨s.toArray⟩, .slice (some ⟨w4.heap.size, 0, none⟩) 1 1]) (m := 1) elemRt ho46 (by simp) (.tmp 63) (.tmp 68) rfl rfl rfl rfl rfl (one_of rfl) (by omega) hsz6 (fun A7 c7 w7 ho7 hg7 hl7 => ?_); have hE37 : Ext w3 w7 := hE36.out.grown hg7 (fun k hk => by obtain ⟨_, _, hb⟩ := owns_row ho46 hk; exact hb); have hr7 := hrz.out.grown hg7 (fun e => owns_unlike ho46 hrz.out (by decide) e.symm); have hc7 := hc8.out w7 _ hcl.out (h.out.cells.ext (hE03.out.trans hE37)); have hcl7 : ((tmcells D).drop (k * 2)).length = r * 2 := (by rw [List.length_drop, hcl.out, hr.out]; omega); have hsz7 := hE37.size; clear hg7 hl7 hsz6; replace hr7 := hide hr7; replace hE37 := hide hE37)
        | (refine wpList_app (m := r) elemRt ho7 hc7 (.tmp 70) (.tmp 73) rfl rfl rfl rfl rfl hcl7 (by rw [← tmcells_drop]; exact tmcells_one _) (by have := hr.out; omega) hsz7 (fun A9 c9 w9 ho9 hg9 hl9 => ?_); have hE39 : Ext w3 w9 := hE37.out.grown hg9 (fun k hk => by obtain ⟨_, _, hb⟩ := owns_row ho7 hk; exact hb); have hr9 := hr7.out.grown hg9 (fun e => owns_unlike ho7 hr7.out (by decide) e.symm); clear hg9 hl9 hsz7))
      have hmid := tmcells_mid (D.take k) (D.drop k) ⟨s, [z], some ⟨w4.heap.size, 0, none⟩, 1⟩
      have hnc : (⟨s, [z], some ⟨w4.heap.size, 0, none⟩, 1⟩ : TmC).cells = [.string ⟨s.toArray⟩, .slice (some ⟨w4.heap.size, 0, none⟩) 1 1] := rfl
      rw [hnc, tmcells_drop] at hmid
      rw [← hmid] at ho9
      have hlD : k + 1 + r = (D.take k ++ (⟨s, [z], some ⟨w4.heap.size, 0, none⟩, 1⟩ : TmC) :: D.drop k).length := by
        rw [List.length_append, List.length_cons, List.length_take, List.length_drop, ← hlen.out, hr.out]
        omega
      have hE09 := hE03.out.trans hE39
      have hRz : tmR (D.take k ++ (⟨s, [z], some ⟨w4.heap.size, 0, none⟩, 1⟩ : TmC) :: D.drop k) = Z := by rw [tmR_mid, hz3.out]; rfl
      have hech : ∀ y ∈ D.take k ++ (⟨s, [z], some ⟨w4.heap.size, 0, none⟩, 1⟩ : TmC) :: D.drop k, Cells w9 y.A (y.pos.map IV) ∧ y.s.length ≤ 9223372036854775807 := fun y hy => by
        have hold := fun (hy : y ∈ D) => ((h.out.ext hE09).each y hy)
        rcases List.mem_append.1 hy with hy | hy
        · exact hold (List.mem_of_mem_take hy)
        · rcases List.mem_cons.1 hy with rfl | hy
          · exact ⟨.inr ⟨w4.heap.size, 0, rfl, fun i v hv => by
              rw [Nat.zero_add, hr9.get]
              have hv2 : [Value.int .i64 z][i]? = some v := hv
              simpa using hv2⟩, hs⟩
          · exact hold (List.mem_of_mem_drop hy)
      have hfin := hide (AddA.of (w := w) (R := Z) (owns_lower ho9 hE03.out.size) rfl hlD hRz hE09 hech)
      go_ret
      exact hfin.out
end
section
open Go.RowKit
set_option maxRecDepth 100000 in
set_option maxHeartbeats 1000000 in
theorem rput1_any (L : List UInt8) (A : Option Addr) (c base r : Nat) (w : World) (hb : Buf w base 5 A L.length c (L.map B8)) (hL : L.length ≤ 4000000000) (hbs : base ≤ w.heap.size) (hb0 : badR r = false) (h1 : r < 128) :
    Calls Tryz.prog 187 #[.slice A L.length c, .int .i64 (r : Int)] w (PutB w base (L ++ encR r)) := by
  obtain ⟨n, hn⟩ : ∃ n, n = L.length := ⟨_, rfl⟩
  rw [← hn] at hb hL ⊢
  have hhi : r ≤ 1114111 := by
    unfold badR at hb0
    simp only [Bool.or_eq_false_iff, decide_eq_false_iff_not] at hb0
    omega
  have henc : encR r = [u8 r] := by unfold encR encO; rw [hb0, if_neg (by simp), if_pos h1]
  rw [henc]
  obtain ⟨z, hz⟩ : ∃ z : Int, z = (r : Int) := ⟨_, rfl⟩
  rw [← hz]
  have g0 : 0 ≤ z := by omega
  have gh : z ≤ 1114111 := by omega
  have g1 : z < 128 := by omega
  obtain ⟨l, hl⟩ : ∃ l, l = [u8 r] := ⟨_, rfl⟩
  have hus : [Value.int .u8 z] = l.map B8 := by
    rw [hl, hz]
    simp only [List.map_cons, List.map_nil, B8_u8 (show r < 256 by omega)]
    try rfl
  rw [← hl]
  replace hl := hide hl
  replace hus := hide hus
  replace hhi := hide hhi
  replace hz := hide hz
  replace h1 := hide h1
  replace hn := hide hn
  replace hb := hide hb
  replace henc := hide henc
  replace hb0 := hide hb0
  go_enter Tryz.func187, Tryz.ntmps187
  go_wp2_with (at_builtin; refine wpList_bufN elemB hb.out (.tmp 25) (.tmp 28) rfl rfl rfl rfl (one_of rfl) (by simp; omega) hbs (fun A3 c3 w4 hb4 hE4 => ?_))
  go_ret
  exact putB_of hn.out hus.out hb4 hE4
set_option maxRecDepth 100000 in
set_option maxHeartbeats 1000000 in
theorem rput2_any (L : List UInt8) (A : Option Addr) (c base r : Nat) (w : World) (hb : Buf w base 5 A L.length c (L.map B8)) (hL : L.length ≤ 4000000000) (hbs : base ≤ w.heap.size) (hb0 : badR r = false) (h1 : ¬ r < 128) (h2 : r < 2048) :
    Calls Tryz.prog 187 #[.slice A L.length c, .int .i64 (r : Int)] w (PutB w base (L ++ encR r)) := by
  obtain ⟨n, hn⟩ : ∃ n, n = L.length := ⟨_, rfl⟩
  rw [← hn] at hb hL ⊢
  have hhi : r ≤ 1114111 := by
    unfold badR at hb0
    simp only [Bool.or_eq_false_iff, decide_eq_false_iff_not] at hb0
    omega
  have henc : encR r = [u8 (192 + r / 64), u8 (128 + r % 64)] := by unfold encR encO; rw [hb0, if_neg (by simp), if_neg h1, if_pos h2]
  rw [henc]
  obtain ⟨z, hz⟩ : ∃ z : Int, z = (r : Int) := ⟨_, rfl⟩
  rw [← hz]
  have g0 : 0 ≤ z := by omega
  have gh : z ≤ 1114111 := by omega
  have g1 : ¬ z < 128 := by omega
  have g2 : z < 2048 := by omega
  obtain ⟨l, hl⟩ : ∃ l, l = [u8 (192 + r / 64), u8 (128 + r % 64)] := ⟨_, rfl⟩
  have hus : [Value.int .u8 (192 + z / 64), .int .u8 (128 + z % 64)] = l.map B8 := by
    rw [hl, hz]
    simp only [List.map_cons, List.map_nil, B8_u8 (show 192 + r / 64 < 256 by omega), B8_u8 (show 128 + r % 64 < 256 by omega)]
    try rfl
  rw [← hl]
  replace hl := hide hl
  replace hus := hide hus
  replace hhi := hide hhi
  replace hz := hide hz
  replace h1 := hide h1
  replace h2 := hide h2
  replace hn := hide hn
  replace hb := hide hb
  replace henc := hide henc
  replace hb0 := hide hb0
  go_enter Tryz.func187, Tryz.ntmps187
  go_wp2_with (at_builtin; refine wpList_bufN elemB hb.out (.tmp 33) (.tmp 42) rfl rfl rfl rfl (one_of rfl) (by simp; omega) hbs (fun A3 c3 w4 hb4 hE4 => ?_))
  go_ret
  exact putB_of hn.out hus.out hb4 hE4
set_option maxRecDepth 100000 in
set_option maxHeartbeats 1000000 in
theorem rput3_any (L : List UInt8) (A : Option Addr) (c base r : Nat) (w : World) (hb : Buf w base 5 A L.length c (L.map B8)) (hL : L.length ≤ 4000000000) (hbs : base ≤ w.heap.size) (hb0 : badR r = false) (h1 : ¬ r < 128) (h2 : ¬ r < 2048) (h3 : r < 55296) :
    Calls Tryz.prog 187 #[.slice A L.length c, .int .i64 (r : Int)] w (PutB w base (L ++ encR r)) := by
  obtain ⟨n, hn⟩ : ∃ n, n = L.length := ⟨_, rfl⟩
  rw [← hn] at hb hL ⊢
  have hhi : r ≤ 1114111 := by
    unfold badR at hb0
    simp only [Bool.or_eq_false_iff, decide_eq_false_iff_not] at hb0
    omega
  have henc : encR r = [u8 (224 + r / 4096), u8 (128 + r / 64 % 64), u8 (128 + r % 64)] := by unfold encR encO; rw [hb0, if_neg (by simp), if_neg h1, if_neg h2, if_pos (show r < 65536 by omega)]
  rw [henc]
  obtain ⟨z, hz⟩ : ∃ z : Int, z = (r : Int) := ⟨_, rfl⟩
  rw [← hz]
  have g0 : 0 ≤ z := by omega
  have gh : z ≤ 1114111 := by omega
  have g1 : ¬ z < 128 := by omega
  have g2 : ¬ z < 2048 := by omega
  have g3 : z < 65536 := by omega
  have g4 : z < 55296 := by omega
  obtain ⟨l, hl⟩ : ∃ l, l = [u8 (224 + r / 4096), u8 (128 + r / 64 % 64), u8 (128 + r % 64)] := ⟨_, rfl⟩
  have hus : [Value.int .u8 (224 + z / 4096), .int .u8 (128 + z / 64 % 64), .int .u8 (128 + z % 64)] = l.map B8 := by
    rw [hl, hz]
    simp only [List.map_cons, List.map_nil, B8_u8 (show 224 + r / 4096 < 256 by omega), B8_u8 (show 128 + r / 64 % 64 < 256 by omega), B8_u8 (show 128 + r % 64 < 256 by omega)]
    try rfl
  rw [← hl]
  replace hl := hide hl
  replace hus := hide hus
  replace hhi := hide hhi
  replace hz := hide hz
  replace h1 := hide h1
  replace h2 := hide h2
  replace h3 := hide h3
  replace hn := hide hn
  replace hb := hide hb
  replace henc := hide henc
  replace hb0 := hide hb0
  go_enter Tryz.func187, Tryz.ntmps187
  go_wp2_with (at_builtin; refine wpList_bufN elemB hb.out (.tmp 47) (.tmp 61) rfl rfl rfl rfl (one_of rfl) (by simp; omega) hbs (fun A3 c3 w4 hb4 hE4 => ?_))
  go_ret
  exact putB_of hn.out hus.out hb4 hE4
set_option maxRecDepth 100000 in
set_option maxHeartbeats 1000000 in
theorem rput5_any (L : List UInt8) (A : Option Addr) (c base r : Nat) (w : World) (hb : Buf w base 5 A L.length c (L.map B8)) (hL : L.length ≤ 4000000000) (hbs : base ≤ w.heap.size) (hb0 : badR r = false) (h1 : ¬ r < 128) (h2 : 57343 < r) (h3 : r < 65536) :
    Calls Tryz.prog 187 #[.slice A L.length c, .int .i64 (r : Int)] w (PutB w base (L ++ encR r)) := by
  obtain ⟨n, hn⟩ : ∃ n, n = L.length := ⟨_, rfl⟩
  rw [← hn] at hb hL ⊢
  have hhi : r ≤ 1114111 := by
    unfold badR at hb0
    simp only [Bool.or_eq_false_iff, decide_eq_false_iff_not] at hb0
    omega
  have henc : encR r = [u8 (224 + r / 4096), u8 (128 + r / 64 % 64), u8 (128 + r % 64)] := by unfold encR encO; rw [hb0, if_neg (by simp), if_neg h1, if_neg (show ¬ r < 2048 by omega), if_pos h3]
  rw [henc]
  obtain ⟨z, hz⟩ : ∃ z : Int, z = (r : Int) := ⟨_, rfl⟩
  rw [← hz]
  have g0 : 0 ≤ z := by omega
  have gh : z ≤ 1114111 := by omega
  have g1 : ¬ z < 128 := by omega
  have g2 : ¬ z < 2048 := by omega
  have g3 : z < 65536 := by omega
  have g4 : ¬ z < 55296 := by omega
  have g5 : 57343 < z := by omega
  obtain ⟨l, hl⟩ : ∃ l, l = [u8 (224 + r / 4096), u8 (128 + r / 64 % 64), u8 (128 + r % 64)] := ⟨_, rfl⟩
  have hus : [Value.int .u8 (224 + z / 4096), .int .u8 (128 + z / 64 % 64), .int .u8 (128 + z % 64)] = l.map B8 := by
    rw [hl, hz]
    simp only [List.map_cons, List.map_nil, B8_u8 (show 224 + r / 4096 < 256 by omega), B8_u8 (show 128 + r / 64 % 64 < 256 by omega), B8_u8 (show 128 + r % 64 < 256 by omega)]
    try rfl
  rw [← hl]
  replace hl := hide hl
  replace hus := hide hus
  replace hhi := hide hhi
  replace hz := hide hz
  replace h1 := hide h1
  replace h2 := hide h2
  replace h3 := hide h3
  replace hn := hide hn
  replace hb := hide hb
  replace henc := hide henc
  replace hb0 := hide hb0
  go_enter Tryz.func187, Tryz.ntmps187
  go_wp2_with (at_builtin; refine wpList_bufN elemB hb.out (.tmp 47) (.tmp 61) rfl rfl rfl rfl (one_of rfl) (by simp; omega) hbs (fun A3 c3 w4 hb4 hE4 => ?_))
  go_ret
  exact putB_of hn.out hus.out hb4 hE4
set_option maxRecDepth 100000 in
set_option maxHeartbeats 1000000 in
theorem rput4_any (L : List UInt8) (A : Option Addr) (c base r : Nat) (w : World) (hb : Buf w base 5 A L.length c (L.map B8)) (hL : L.length ≤ 4000000000) (hbs : base ≤ w.heap.size) (hb0 : badR r = false) (h1 : ¬ r < 128) (h2 : ¬ r < 2048) (h3 : ¬ r < 65536) :
    Calls Tryz.prog 187 #[.slice A L.length c, .int .i64 (r : Int)] w (PutB w base (L ++ encR r)) := by
  obtain ⟨n, hn⟩ : ∃ n, n = L.length := ⟨_, rfl⟩
  rw [← hn] at hb hL ⊢
  have hhi : r ≤ 1114111 := by
    unfold badR at hb0
    simp only [Bool.or_eq_false_iff, decide_eq_false_iff_not] at hb0
    omega
  have henc : encR r = [u8 (240 + r / 262144), u8 (128 + r / 4096 % 64), u8 (128 + r / 64 % 64), u8 (128 + r % 64)] := by unfold encR encO; rw [hb0, if_neg (by simp), if_neg h1, if_neg h2, if_neg h3]
  rw [henc]
  obtain ⟨z, hz⟩ : ∃ z : Int, z = (r : Int) := ⟨_, rfl⟩
  rw [← hz]
  have g0 : 0 ≤ z := by omega
  have gh : z ≤ 1114111 := by omega
  have g1 : ¬ z < 128 := by omega
  have g2 : ¬ z < 2048 := by omega
  have g3 : ¬ z < 65536 := by omega
  have g4 : ¬ z < 55296 := by omega
  have g5 : 57343 < z := by omega
  obtain ⟨l, hl⟩ : ∃ l, l = [u8 (240 + r / 262144), u8 (128 + r / 4096 % 64), u8 (128 + r / 64 % 64), u8 (128 + r % 64)] := ⟨_, rfl⟩
  have hus : [Value.int .u8 (240 + z / 262144), .int .u8 (128 + z / 4096 % 64), .int .u8 (128 + z / 64 % 64), .int .u8 (128 + z % 64)] = l.map B8 := by
    rw [hl, hz]
    simp only [List.map_cons, List.map_nil, B8_u8 (show 240 + r / 262144 < 256 by omega), B8_u8 (show 128 + r / 4096 % 64 < 256 by omega), B8_u8 (show 128 + r / 64 % 64 < 256 by omega), B8_u8 (show 128 + r % 64 < 256 by omega)]
    try rfl
  rw [← hl]
  replace hl := hide hl
  replace hus := hide hus
  replace hhi := hide hhi
  replace hz := hide hz
  replace h1 := hide h1
  replace h2 := hide h2
  replace h3 := hide h3
  replace hn := hide hn
  replace hb := hide hb
  replace henc := hide henc
  replace hb0 := hide hb0
  go_enter Tryz.func187, Tryz.ntmps187
  go_wp2_with (at_builtin; refine wpList_bufN elemB hb.out (.tmp 63) (.tmp 82) rfl rfl rfl rfl (one_of rfl) (by simp; omega) hbs (fun A3 c3 w4 hb4 hE4 => ?_))
  go_ret
  exact putB_of hn.out hus.out hb4 hE4
end
section
open Go.RowKit
set_option maxRecDepth 100000 in
set_option maxHeartbeats 1000000 in
theorem rput0_any (L : List UInt8) (A : Option Addr) (c base r : Nat) (w : World) (hb : Buf w base 5 A L.length c (L.map B8)) (hL : L.length ≤ 4000000000) (hbs : base ≤ w.heap.size) (hb0 : badR r = true) (hr : r ≤ 1200000) :
    Calls Tryz.prog 187 #[.slice A L.length c, .int .i64 (r : Int)] w (PutB w base (L ++ encR r)) := by
  have hca := rput5_any L A c base 65533 w hb hL hbs (by decide) (by omega) (by omega) (by omega)
  have henc : encR r = encR 65533 := by
    have h5 : badR 65533 = false := by decide
    unfold encR
    rw [hb0, h5, if_pos rfl, if_neg (by simp)]
  rw [henc]
  have hq : 1114111 < r ∨ (55296 ≤ r ∧ r ≤ 57343) := by
    unfold badR at hb0
    simpa using hb0
  simp only [show (((65533 : Nat) : Int)) = 65533 from rfl] at hca
  obtain ⟨n, hn⟩ : ∃ n, n = L.length := ⟨_, rfl⟩
  rw [← hn] at hca ⊢
  obtain ⟨LL, hLL⟩ : ∃ LL, LL = L ++ encR 65533 := ⟨_, rfl⟩
  rw [← hLL] at hca ⊢
  obtain ⟨z, hz⟩ : ∃ z : Int, z = (r : Int) := ⟨_, rfl⟩
  rw [← hz]
  have g0 : 0 ≤ z := by omega
  replace hca := hide hca
  replace hLL := hide hLL
  replace hn := hide hn
  replace hb := hide hb
  replace henc := hide henc
  replace hb0 := hide hb0
  rcases hq with hq | hq
  · have g1 : 1114111 < z := by omega
    replace hq := hide hq
    replace hz := hide hz
    replace hr := hide hr
    go_enter Tryz.func187, Tryz.ntmps187
    go_wp2_with fail
    refine hca.out.mono ?_
    rintro e w2 ⟨A2, c2, rfl, hb2, hE2⟩
    go_wp2_with fail
    go_ret
    exact ⟨A2, c2, rfl, hb2, hE2⟩
  · have g1 : z ≤ 1114111 := by omega
    have g2 : 55296 ≤ z := by omega
    have g3 : z ≤ 57343 := by omega
    replace hq := hide hq
    replace hz := hide hz
    replace hr := hide hr
    go_enter Tryz.func187, Tryz.ntmps187
    go_wp2_with fail
    refine hca.out.mono ?_
    rintro e w2 ⟨A2, c2, rfl, hb2, hE2⟩
    go_wp2_with fail
    go_ret
    exact ⟨A2, c2, rfl, hb2, hE2⟩
theorem rput_any (L : List UInt8) (A : Option Addr) (c base r : Nat) (w : World) (hb : Buf w base 5 A L.length c (L.map B8)) (hL : L.length ≤ 4000000000) (hbs : base ≤ w.heap.size) (hr : r ≤ 1200000) :
    Calls Tryz.prog 187 #[.slice A L.length c, .int .i64 (r : Int)] w (PutB w base (L ++ encR r)) := by
  cases hb0 : badR r with
  | true => exact rput0_any L A c base r w hb hL hbs hb0 hr
  | false =>
    by_cases h1 : r < 128
    · exact rput1_any L A c base r w hb hL hbs hb0 h1
    · by_cases h2 : r < 2048
      · exact rput2_any L A c base r w hb hL hbs hb0 h1 h2
      · by_cases h3 : r < 65536
        · by_cases h4 : r < 55296
          · exact rput3_any L A c base r w hb hL hbs hb0 h1 h2 h4
          · refine rput5_any L A c base r w hb hL hbs hb0 h1 ?_ h3
            unfold badR at hb0
            simp only [Bool.or_eq_false_iff, Bool.and_eq_false_iff, decide_eq_false_iff_not] at hb0
            omega
        · exact rput4_any L A c base r w hb hL hbs hb0 h1 h2 h3
set_option maxRecDepth 100000 in
set_option maxHeartbeats 1000000 in
theorem rencode_any (rs : List Nat) (A : Option Addr) (n c : Nat) (w : World) (hn : n = rs.length) (hc : Cells w A (rs.map NV)) (hr : ∀ r ∈ rs, r ≤ 1200000) (hle : n ≤ 500000000) :
    Calls Tryz.prog 157 #[.slice A n c] w fun e w' => e = .returned (.string ⟨(encL rs).toArray⟩) ∧ Ext w w' := by
  have hput := hide (fun L A c base r W hb hL hbs hr => rput_any L A c base r W hb hL hbs hr)
  replace hr := hide hr
  replace hc := hide hc
  replace hn := hide hn
  go_enter Tryz.func157, Tryz.ntmps157
  go_wp2_with fail
  go_loopw [3, 4] (fun s3 s8 wr => ∃ (i n1 c1 : Nat) (A1 : Option Addr), s3 = .slice A1 n1 c1 ∧ s8 = .int .i64 (i : Int) ∧ i ≤ n ∧ Hid (n1 = (encL (rs.take i)).length ∧ n1 ≤ 4 * i) ∧ Hid (Buf wr w.heap.size 5 A1 n1 c1 ((encL (rs.take i)).map B8)) ∧ Hid (Ext w wr)) (fun _ s8 _ => n - (intOf s8).toNat)
  case atStart => exact ⟨0, 0, 0, none, rfl, rfl, by omega, hide ⟨rfl, by omega⟩, hide (Buf.nil _ _ _), hide (Ext.refl w)⟩
  case round =>
    obtain ⟨i, n1, c1, A1, rfl, rfl, hi, hn1, hb, hE⟩ := hrel
    by_cases h : i < n
    · obtain ⟨r, hri⟩ : ∃ r, rs[i]? = some r := ⟨_, List.getElem?_eq_getElem (by rw [← hn.out]; exact h)⟩
      obtain ⟨g, o, hA, hcl⟩ := hc.out.at_ (by rw [List.length_map, ← hn.out]; omega)
      subst hA
      have hld := hE.out.cell (hcl i (NV r) (by rw [List.getElem?_map, hri]; rfl))
      unfold NV at hld
      have hrr := hr.out r (List.mem_of_getElem? hri)
      have hp := hput.out (encL (rs.take i)) A1 c1 w.heap.size r wr (by rw [← hn1.out.1]; exact hb.out) (by have := hn1.out; omega) hE.out.size hrr
      rw [← hn1.out.1] at hp
      have hts : rs.take (i + 1) = rs.take i ++ [r] := by rw [List.take_add_one, hri]; rfl
      rw [← encL_snoc, ← hts] at hp
      have hr4 := (encR_len r).2
      replace hp := hide hp
      replace hcl := hide hcl
      replace hri := hide hri
      replace hts := hide hts
      replace hrr := hide hrr
      replace hr4 := hide hr4
      go_wp2_with fail
      refine hp.out.mono ?_
      rintro e w2 ⟨A2, c2, rfl, hb2, hE2⟩
      have hl2 : (encL (rs.take (i + 1))).length ≤ 4 * (i + 1) := by
        rw [hts.out, encL_snoc, List.length_append]
        have := hn1.out
        have := hr4.out
        omega
      replace hb2 := hide hb2
      replace hE2 := hide (hE2 w hE.out (Nat.le_refl _))
      replace hl2 := hide hl2
      go_wp2_with fail
      exact ⟨⟨i + 1, _, c2, A2, rfl, rfl, by omega, hide ⟨rfl, hl2.out⟩, hb2, hE2⟩, by simp only [intOf]; omega⟩
    · obtain rfl : i = n := by omega
      have hT : rs.take i = rs := List.take_of_length_le (by rw [hn.out]; exact Nat.le_refl _)
      rw [hT] at hb hn1
      have hst := run_str (Buf.cells hb.out) n1 c1 hn1.out.1
      replace hn1 := hide hn1.out.1
      go_wp2_with fail
      go_ret
      exact ⟨rfl, hE.out⟩
end
section
open Go.RowKit
set_option maxRecDepth 100000 in
set_option maxHeartbeats 2000000 in
theorem rlower_any (r : Nat) (w : World) (hr : r ≤ 1114111) : Calls Tryz.prog 158 #[.int .i64 (r : Int)] w fun e w' => e = .returned (.int .i64 (lowerR r : Int)) ∧ Ext w w' := by
  obtain ⟨z, hz⟩ : ∃ z : Int, z = (r : Int) := ⟨_, rfl⟩
  obtain ⟨y, hy⟩ : ∃ y : Int, y = (lowerR r : Int) := ⟨_, rfl⟩
  have hyz : y = if (65 ≤ z ∧ z ≤ 90) ∨ (192 ≤ z ∧ z ≤ 222 ∧ z ≠ 215) ∨ (913 ≤ z ∧ z ≤ 939 ∧ z ≠ 930) ∨ (1040 ≤ z ∧ z ≤ 1071) then z + 32 else if 1024 ≤ z ∧ z ≤ 1039 then z + 80 else z := by
    rw [hy, hz]
    unfold lowerR
    by_cases h1 : (65 ≤ r ∧ r ≤ 90) ∨ (192 ≤ r ∧ r ≤ 222 ∧ r ≠ 215) ∨ (913 ≤ r ∧ r ≤ 939 ∧ r ≠ 930) ∨ (1040 ≤ r ∧ r ≤ 1071)
    · have h1' : (65 ≤ (r : Int) ∧ (r : Int) ≤ 90) ∨ (192 ≤ (r : Int) ∧ (r : Int) ≤ 222 ∧ (r : Int) ≠ 215) ∨ (913 ≤ (r : Int) ∧ (r : Int) ≤ 939 ∧ (r : Int) ≠ 930) ∨ (1040 ≤ (r : Int) ∧ (r : Int) ≤ 1071) := by clear hz hy; omega
      rw [if_pos h1, if_pos h1']; rfl
    · have h1' : ¬ ((65 ≤ (r : Int) ∧ (r : Int) ≤ 90) ∨ (192 ≤ (r : Int) ∧ (r : Int) ≤ 222 ∧ (r : Int) ≠ 215) ∨ (913 ≤ (r : Int) ∧ (r : Int) ≤ 939 ∧ (r : Int) ≠ 930) ∨ (1040 ≤ (r : Int) ∧ (r : Int) ≤ 1071)) := by clear hz hy; omega
      rw [if_neg h1, if_neg h1']
      by_cases h2 : 1024 ≤ r ∧ r ≤ 1039
      · have h2' : 1024 ≤ (r : Int) ∧ (r : Int) ≤ 1039 := by clear hz hy; omega
        rw [if_pos h2, if_pos h2']; rfl
      · have h2' : ¬ (1024 ≤ (r : Int) ∧ (r : Int) ≤ 1039) := by clear hz hy; omega
        rw [if_neg h2, if_neg h2']
  rw [← hz, ← hy]
  have g0 : 0 ≤ z := by omega
  have g1 : z ≤ 1114111 := by omega
  replace hz := hide hz
  replace hy := hide hy
  replace hr := hide hr
  replace hyz := hide hyz
  go_enter Tryz.func158, Tryz.ntmps158
  go_wp2_with fail
  all_goals
    go_ret
    refine ⟨?_, Ext.refl w⟩
    show Ending.returned (Value.int .i64 _) = _
    refine congrArg (fun v => Ending.returned (Value.int .i64 v)) ?_
    rw [hyz.out]
    clear hyz hy hz hr
    try simp only [bne_iff_ne, bne_eq_false_iff_eq, Bool.not_eq_true] at *
    first
      | rw [if_pos (by omega)]
      | (rw [if_neg (by omega), if_pos (by omega)])
      | (rw [if_neg (by omega), if_neg (by omega)])
set_option maxRecDepth 100000 in
set_option maxHeartbeats 2000000 in
theorem risword_any (r : Nat) (w : World) (hr : r ≤ 1114191) : Calls Tryz.prog 101 #[.int .i64 (r : Int)] w fun e w' => e = .returned (.bool (wordR r)) ∧ Ext w w' := by
  obtain ⟨z, hz⟩ : ∃ z : Int, z = (r : Int) := ⟨_, rfl⟩
  obtain ⟨y, hy⟩ : ∃ y, y = wordR r := ⟨_, rfl⟩
  have hyz : y = decide ((48 ≤ z ∧ z ≤ 57) ∨ (65 ≤ z ∧ z ≤ 90) ∨ (97 ≤ z ∧ z ≤ 122) ∨ (192 ≤ z ∧ z ≤ 255 ∧ z ≠ 215 ∧ z ≠ 247) ∨ (913 ≤ z ∧ z ≤ 974 ∧ z ≠ 930) ∨ (1024 ≤ z ∧ z ≤ 1119)) := by
    rw [hy, hz]
    unfold wordR
    rw [decide_eq_decide]
    omega
  rw [← hz, ← hy]
  have g0 : 0 ≤ z := by omega
  have g1 : z ≤ 1114191 := by omega
  replace hz := hide hz
  replace hy := hide hy
  replace hr := hide hr
  replace hyz := hide hyz
  go_enter Tryz.func101, Tryz.ntmps101
  go_wp2_with fail
  all_goals
    go_ret
    refine ⟨?_, Ext.refl w⟩
    show Ending.returned (Value.bool _) = _
    refine congrArg (fun v => Ending.returned (Value.bool v)) ?_
    rw [hyz.out, Bool.eq_iff_iff]
    clear hyz hy hz hr
    try simp only [bne_iff_ne, bne_eq_false_iff_eq, Bool.not_eq_true] at *
    try simp only [Bool.or_eq_true, Bool.and_eq_true, decide_eq_true_eq, bne_iff_ne, Bool.true_eq, Bool.false_eq_true, true_iff, false_iff]
    first
      | omega
      | (simp; omega)
end
section
open Go.RowKit
set_option maxRecDepth 100000 in
set_option maxHeartbeats 1000000 in
theorem rcut_any (rs : List Nat) (A : Option Addr) (n c : Nat) (w : World) (hn : n = rs.length) (hc : Cells w A (rs.map NV)) (hr : ∀ r ∈ rs, r ≤ 1114111) (hle : n ≤ 1073741824) :
    Calls Tryz.prog 102 #[.slice A n c] w fun e w' => e = .returned (.string ⟨(cutW [] rs).toArray⟩) ∧ Ext w w' := by
  have hlow := hide (fun r W h => rlower_any r W h)
  have henc := hide (fun r A n c W h1 h2 h3 h4 => rencode_any [r] A n c W h1 h2 h3 h4)
  obtain ⟨Z, hZ⟩ : ∃ Z, Z = cutW [] rs := ⟨_, rfl⟩
  rw [← hZ]
  replace hr := hide hr
  replace hc := hide hc
  replace hn := hide hn
  replace hZ := hide hZ
  go_enter Tryz.func102, Tryz.ntmps102
  go_wp2_with fail
  go_loopw [3, 4] (fun s3 s4 wr => ∃ (i : Nat) (s : List UInt8), s3 = .string ⟨s.toArray⟩ ∧ s4 = .int .i64 (i : Int) ∧ i ≤ n ∧ Hid (Z = cutW s (rs.drop i)) ∧ Hid (s.length ≤ 32) ∧ Hid (Ext w wr)) (fun _ s4 _ => n - (intOf s4).toNat)
  case atStart => exact ⟨0, [], rfl, rfl, by omega, hide (by rw [hZ.out]; rfl), hide (by simp), hide (Ext.refl w)⟩
  case round =>
    obtain ⟨i, s, rfl, rfl, hi, hZs, hs32, hE⟩ := hrel
    by_cases h : i < n
    · obtain ⟨r, hri⟩ : ∃ r, rs[i]? = some r := ⟨_, List.getElem?_eq_getElem (by rw [← hn.out]; exact h)⟩
      obtain ⟨g, o, hA, hcl⟩ := hc.out.at_ (by rw [List.length_map, ← hn.out]; omega)
      subst hA
      have hld := hE.out.cell (hcl i (NV r) (by rw [List.getElem?_map, hri]; rfl))
      unfold NV at hld
      have hrr := hr.out r (List.mem_of_getElem? hri)
      have hdr : rs.drop i = r :: rs.drop (i + 1) := by
        rw [List.drop_eq_getElem_cons (List.getElem?_eq_some_iff.1 hri).1]
        congr 1
        exact (List.getElem?_eq_some_iff.1 hri).2
      have hlw := hide (fun W => hlow.out r W hrr)
      have hyl := lowerR_le hrr
      obtain ⟨t, ht⟩ : ∃ t, t = encR (lowerR r) := ⟨_, rfl⟩
      have ht4 : t.length ≤ 4 := by rw [ht]; exact (encR_len _).2
      have hgo := hide (fun hh => cutW_go (s := s) (r := r) (rs := rs.drop (i + 1)) hh)
      have hend := hide (fun hh => cutW_end (s := s) (r := r) (rs := rs.drop (i + 1)) hh)
      rw [← ht, ← hdr, ← hZs.out] at hgo hend
      obtain ⟨y, hy⟩ : ∃ y, y = lowerR r := ⟨_, rfl⟩
      rw [← hy] at ht hlw hyl
      have hen := hide (fun A W hh => henc.out y A 1 1 W rfl hh (by simp; omega) (by omega))
      rw [encL_one, ← ht] at hen
      obtain ⟨tn, htn⟩ : ∃ tn, tn = t.length := ⟨_, rfl⟩
      have htsz : (⟨t.toArray⟩ : ByteArray).size = tn := by rw [htn]; exact ByteArray.size_mk_toArray t
      obtain ⟨sn, hsn⟩ : ∃ sn, sn = s.length := ⟨_, rfl⟩
      rw [← hsn, ← htn] at hgo hend
      rw [← htn] at ht4
      rw [← hsn] at hs32
      have hs32' := hs32.out
      have hssz : (⟨s.toArray⟩ : ByteArray).size = sn := by rw [hsn]; exact ByteArray.size_mk_toArray s
      have hcat : ((⟨s.toArray⟩ : ByteArray) ++ ⟨t.toArray⟩) = ⟨(s ++ t).toArray⟩ := by
        apply ByteArray.ext
        rw [ByteArray.data_append]
        simp
      replace hcl := hide hcl
      replace hri := hide hri
      replace hrr := hide hrr
      replace hdr := hide hdr
      replace hy := hide hy
      replace ht := hide ht
      replace htn := hide htn
      replace hsn := hide hsn
      replace hyl := hide hyl
      go_wp2_with fail
      refine (hlw.out _).mono ?_
      rintro e w2 ⟨rfl, hE2⟩
      go_wp2_with fail
      refine (hen.out _ _ (.inr ⟨w2.heap.size, 0, rfl, fun j u hu => ?_⟩)).mono ?_
      · rw [Nat.zero_add, cell_of_row _ _ _ _ _ _ (heap_alloc_new w2 _)]
        simpa [NV] using hu
      rintro e w3 ⟨rfl, hE3⟩
      have hE23 := hide ((hE2.alloc (.cells #[Value.int .i64 (y : Int)] 3)).trans hE3)
      by_cases h32 : 32 < sn + tn
      · have hZe := hide (hend.out h32)
        have h32i : (32 : Int) < (sn : Int) + (tn : Int) := by omega
        go_wp2_with fail
        go_ret
        exact ⟨by rw [hZe.out]; rfl, hE.out.trans hE23.out⟩
      · have hZe := hide (hgo.out h32)
        have h32i : ¬ (32 : Int) < (sn : Int) + (tn : Int) := by omega
        go_wp2_with fail
        exact ⟨⟨i + 1, s ++ t, rfl, rfl, by omega, hZe, hide (by rw [List.length_append, ← hsn.out, ← htn.out]; omega), hide (hE.out.trans hE23.out)⟩, by simp only [intOf]; omega⟩
    · obtain rfl : i = n := by omega
      have hZe : Z = s := by rw [hZs.out, List.drop_eq_nil_of_le (by rw [← hn.out]; exact Nat.le_refl _), cutW]
      replace hZe := hide hZe
      go_wp2_with fail
      go_ret
      exact ⟨by rw [hZe.out]; rfl, hE.out⟩
end
end Go.Proofs.YtkdcnhnaiknaaaaGreat
