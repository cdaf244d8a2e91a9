/- Values grouped by their keys, the keys rising. -/
import Derived.Test.YtkdcnhnaiknaaaaGreatNB02
import Derived.Test.YtkdcnhnaiknaaaaGreatRows
import Derived.WalkKit
import Derived.ProofKit
import Derived.OpenShut
import Derived.ShutString
import Derived.ChangeOld
import Derived.Below
import Derived.Deep.Slices
import Derived.Deep.Fields
import Derived.ChangeSame
import Derived.SliceStrings
import Derived.Test.YtkdcnhnaiknaaaaGreatNB03
set_option linter.unusedSimpArgs false
set_option linter.unusedVariables false
namespace Go.Proofs.YtkdcnhnaiknaaaaGreat
open Go.RowKit

section
variable {β : Type}
def valsOf (ps : List (List UInt8 × β)) (s : List UInt8) : List β := (ps.filter fun p => decide (p.1 = s)).map Prod.snd
theorem valsOf_append (ps qs : List (List UInt8 × β)) (s : List UInt8) : valsOf (ps ++ qs) s = valsOf ps s ++ valsOf qs s := by unfold valsOf; rw [List.filter_append, List.map_append]
theorem valsOf_one (p : List UInt8 × β) (s : List UInt8) : valsOf [p] s = if p.1 = s then [p.2] else [] := by
  unfold valsOf
  rw [List.filter_cons]
  by_cases h : p.1 = s
  · simp [h]
  · simp [h]
theorem valsOf_cons (p : List UInt8 × β) (ps : List (List UInt8 × β)) (s : List UInt8) : valsOf (p :: ps) s = (if p.1 = s then [p.2] else []) ++ valsOf ps s := by
  rw [← valsOf_one, ← valsOf_append]; rfl
def Ris {α : Type} (l : List (List UInt8 × α)) : Prop := l.Pairwise fun a b => a.1 < b.1
structure Grp (ps : List (List UInt8 × β)) (r : List (List UInt8 × List β)) : Prop where
  up : Ris r
  mem : ∀ x, x ∈ r ↔ x.2 = valsOf ps x.1 ∧ x.2 ≠ []
theorem Ris.nodup {α : Type} {l : List (List UInt8 × α)} (h : Ris l) : l.Nodup := by
  refine List.Pairwise.imp ?_ h
  intro a b hab e
  rw [e] at hab
  exact List.lt_irrefl _ hab
theorem Ris.ext {α : Type} {a b : List (List UInt8 × α)} (ha : Ris a) (hb : Ris b) (h : ∀ x, x ∈ a ↔ x ∈ b) : a = b :=
  List.Perm.eq_of_pairwise (le := fun (x y : List UInt8 × α) => x.1 < y.1) (fun x y _ _ h k => (List.lt_irrefl _ (List.lt_trans h k)).elim) ha hb ((List.perm_ext_iff_of_nodup ha.nodup hb.nodup).2 h)
theorem Grp.uniq {ps : List (List UInt8 × β)} {r q : List (List UInt8 × List β)} (h : Grp ps r) (k : Grp ps q) : r = q :=
  h.up.ext k.up fun x => (h.mem x).trans (k.mem x).symm
theorem Grp.same {ps qs : List (List UInt8 × β)} {r : List (List UInt8 × List β)} (h : Grp ps r) (k : ∀ s, valsOf ps s = valsOf qs s) : Grp qs r :=
  ⟨h.up, fun x => by rw [h.mem x, k]⟩
theorem Grp.nil : Grp ([] : List (List UInt8 × β)) [] := ⟨List.Pairwise.nil, fun x => by simp [valsOf]⟩
/-- A value more. -/
def addG (p : List UInt8 × β) : List (List UInt8 × List β) → List (List UInt8 × List β)
  | [] => [(p.1, [p.2])]
  | x :: xs => if x.1 < p.1 then x :: addG p xs else if x.1 = p.1 then (x.1, x.2 ++ [p.2]) :: xs else (p.1, [p.2]) :: x :: xs
theorem addG_keys (p : List UInt8 × β) : ∀ (l : List (List UInt8 × List β)) (y : List UInt8 × List β), y ∈ addG p l → y.1 = p.1 ∨ y ∈ l
  | [], y, h => by simp only [addG, List.mem_singleton] at h; rw [h]; exact .inl rfl
  | x :: xs, y, h => by
    unfold addG at h
    split at h
    · rcases List.mem_cons.1 h with rfl | h
      · exact .inr (List.mem_cons_self ..)
      · rcases addG_keys p xs y h with h | h
        · exact .inl h
        · exact .inr (List.mem_cons_of_mem _ h)
    · split at h
      · rename_i he
        rcases List.mem_cons.1 h with rfl | h
        · exact .inl he
        · exact .inr (List.mem_cons_of_mem _ h)
      · rcases List.mem_cons.1 h with rfl | h
        · exact .inl rfl
        · exact .inr h
theorem key_lt {a b : List UInt8} (h : ¬ a < b) (hne : ¬ a = b) : b < a :=
  Decidable.byContradiction fun h2 => hne (List.le_antisymm (List.not_lt.1 h2) (List.not_lt.1 h))
theorem addG_ris (p : List UInt8 × β) : ∀ (l : List (List UInt8 × List β)), Ris l → Ris (addG p l)
  | [], _ => List.pairwise_singleton ..
  | x :: xs, h => by
    obtain ⟨h1, h2⟩ := List.pairwise_cons.1 h
    unfold addG
    split
    · rename_i hlt
      refine List.pairwise_cons.2 ⟨fun y hy => ?_, addG_ris p xs h2⟩
      rcases addG_keys p xs y hy with e | hy
      · rw [e]; exact hlt
      · exact h1 y hy
    · rename_i hnl
      split
      · exact List.pairwise_cons.2 ⟨h1, h2⟩
      · rename_i hne
        have hpx := key_lt hnl hne
        refine List.pairwise_cons.2 ⟨fun y hy => ?_, h⟩
        rcases List.mem_cons.1 hy with rfl | hy
        · exact hpx
        · exact List.lt_trans hpx (h1 y hy)
theorem Ris.notMem {α : Type} {x : List UInt8 × α} {xs : List (List UInt8 × α)} (h : Ris (x :: xs)) : ∀ y ∈ xs, ¬ y.1 = x.1 := fun y hy e => by
  have := (List.pairwise_cons.1 h).1 y hy
  rw [e] at this
  exact List.lt_irrefl _ this
/-- What stands at a key behind a value more. -/
theorem addG_mem (p : List UInt8 × β) : ∀ (l : List (List UInt8 × List β)), Ris l → ∀ y, y ∈ addG p l ↔ (¬ y.1 = p.1 ∧ y ∈ l) ∨ (y.1 = p.1 ∧ ((∃ v, (p.1, v) ∈ l ∧ y.2 = v ++ [p.2]) ∨ ((∀ v, (p.1, v) ∉ l) ∧ y.2 = [p.2])))
  | [], _, y => by
    constructor
    · intro h
      simp only [addG, List.mem_singleton] at h
      rw [h]; exact .inr ⟨rfl, .inr ⟨fun v => List.not_mem_nil, rfl⟩⟩
    · rintro (⟨_, h⟩ | ⟨h, (⟨v, h2, _⟩ | ⟨_, h2⟩)⟩)
      · cases h
      · cases h2
      · obtain ⟨a, b⟩ := y
        simp only at h h2
        rw [h, h2]; exact List.mem_singleton.2 rfl
  | x :: xs, hr, y => by
    have hr2 := (List.pairwise_cons.1 hr).2
    have ih := addG_mem p xs hr2 y
    unfold addG
    split
    · rename_i hlt
      have hxp : ¬ x.1 = p.1 := fun e => by rw [e] at hlt; exact List.lt_irrefl _ hlt
      have hnx : ∀ v, ¬ (p.1, v) = x := fun v e => hxp (by rw [← e])
      rw [List.mem_cons, ih]
      simp only [List.mem_cons]
      constructor
      · rintro (rfl | ⟨h1, h2⟩ | ⟨h1, (⟨v, h2, h3⟩ | ⟨h2, h3⟩)⟩)
        · exact .inl ⟨hxp, .inl rfl⟩
        · exact .inl ⟨h1, .inr h2⟩
        · exact .inr ⟨h1, .inl ⟨v, .inr h2, h3⟩⟩
        · exact .inr ⟨h1, .inr ⟨fun v hv => hv.elim (hnx v) (h2 v), h3⟩⟩
      · rintro (⟨h1, (h2 | h2)⟩ | ⟨h1, (⟨v, (h2 | h2), h3⟩ | ⟨h2, h3⟩)⟩)
        · exact .inl h2
        · exact .inr (.inl ⟨h1, h2⟩)
        · exact absurd h2 (hnx v)
        · exact .inr (.inr ⟨h1, .inl ⟨v, h2, h3⟩⟩)
        · exact .inr (.inr ⟨h1, .inr ⟨fun v hv => h2 v (.inr hv), h3⟩⟩)
    · rename_i hnl
      split
      · rename_i he
        have hno := hr.notMem
        rw [List.mem_cons]
        simp only [List.mem_cons]
        constructor
        · rintro (rfl | h)
          · exact .inr ⟨he, .inl ⟨x.2, .inl (by rw [← he]), rfl⟩⟩
          · exact .inl ⟨fun e => hno y h (e.trans he.symm), .inr h⟩
        · rintro (⟨h1, (rfl | h2)⟩ | ⟨h1, (⟨v, (h2 | h2), h3⟩ | ⟨h2, h3⟩)⟩)
          · exact absurd he h1
          · exact .inr h2
          · refine .inl ?_
            obtain ⟨a, b⟩ := y
            simp only at h1 h3
            rw [h1, h3, he, ← h2]
          · exact absurd he.symm (hno _ h2)
          · exact absurd (.inl (by rw [← he])) (h2 x.2)
      · rename_i hne
        have hpx := key_lt hnl hne
        have hno : ∀ v, (p.1, v) ∉ x :: xs := fun v hv => by
          rcases List.mem_cons.1 hv with e | hv
          · exact hne (by rw [← e])
          · exact List.lt_irrefl _ (List.lt_trans hpx ((List.pairwise_cons.1 hr).1 _ hv))
        rw [List.mem_cons]
        constructor
        · rintro (rfl | h)
          · exact .inr ⟨rfl, .inr ⟨hno, rfl⟩⟩
          · exact .inl ⟨fun e => hno y.2 (by rw [← e]; exact h), h⟩
        · rintro (⟨_, h⟩ | ⟨h1, (⟨v, h2, _⟩ | ⟨_, h3⟩)⟩)
          · exact .inr h
          · exact absurd h2 (hno v)
          · refine .inl ?_
            obtain ⟨a, b⟩ := y
            simp only at h1 h3
            rw [h1, h3]
theorem Grp.add {ps : List (List UInt8 × β)} {r : List (List UInt8 × List β)} (h : Grp ps r) (p : List UInt8 × β) : Grp (ps ++ [p]) (addG p r) := by
  refine ⟨addG_ris p r h.up, fun y => ?_⟩
  rw [addG_mem p r h.up y, valsOf_append, valsOf_one]
  by_cases hk : p.1 = y.1
  · rw [if_pos hk]
    have hin : ∀ v, (p.1, v) ∈ r ↔ v = valsOf ps p.1 ∧ v ≠ [] := fun v => h.mem (p.1, v)
    constructor
    · rintro (⟨h1, _⟩ | ⟨_, (⟨v, h2, h3⟩ | ⟨h2, h3⟩)⟩)
      · exact absurd hk.symm h1
      · rw [h3, ← hk, ((hin v).1 h2).1]; exact ⟨rfl, by simp⟩
      · have : valsOf ps p.1 = [] := Decidable.byContradiction fun hne => h2 _ ((hin _).2 ⟨rfl, hne⟩)
        rw [h3, ← hk, this]; exact ⟨rfl, by simp⟩
    · rintro ⟨h1, _⟩
      refine .inr ⟨hk.symm, ?_⟩
      by_cases hv : valsOf ps p.1 = []
      · exact .inr ⟨fun v hin' => ((hin v).1 hin').2 (((hin v).1 hin').1.trans hv), by rw [h1, ← hk, hv]; rfl⟩
      · exact .inl ⟨_, (hin _).2 ⟨rfl, hv⟩, by rw [h1, ← hk]⟩
  · rw [if_neg hk, List.append_nil, ← h.mem y]
    constructor
    · rintro (⟨_, h2⟩ | ⟨h1, _⟩)
      · exact h2
      · exact absurd h1.symm hk
    · exact fun h2 => .inl ⟨fun e => hk e.symm, h2⟩
def grp (ps : List (List UInt8 × β)) : List (List UInt8 × List β) := ps.foldl (fun l p => addG p l) []
theorem grp_snoc (ps : List (List UInt8 × β)) (p : List UInt8 × β) : grp (ps ++ [p]) = addG p (grp ps) := by unfold grp; rw [List.foldl_append]; rfl
theorem grp_ok (ps : List (List UInt8 × β)) : Grp ps (grp ps) := by
  have key : ∀ (qs : List (List UInt8 × β)) (ps : List (List UInt8 × β)) (r : List (List UInt8 × List β)), Grp ps r → Grp (ps ++ qs) (qs.foldl (fun l p => addG p l) r) := by
    intro qs
    induction qs with
    | nil => intro ps r h; rw [List.append_nil]; exact h
    | cons q qs ih =>
      intro ps r h
      have := ih _ _ (h.add q)
      rw [List.append_assoc] at this
      exact this
  exact key ps [] [] Grp.nil
/-- A value more, behind a row whose last key is not greater. -/
def joinS (r : List (List UInt8 × List β)) (p : List UInt8 × β) : List (List UInt8 × List β) := match r.getLast? with
  | some x => if x.1 = p.1 then r.dropLast ++ [(x.1, x.2 ++ [p.2])] else r ++ [(p.1, [p.2])]
  | none => [(p.1, [p.2])]
theorem addG_last (p : List UInt8 × β) : ∀ (r : List (List UInt8 × List β)), Ris r → (∀ x ∈ r, ¬ p.1 < x.1) → addG p r = joinS r p
  | [], _, _ => rfl
  | [x], _, h => by
    have h1 := h x (List.mem_singleton.2 rfl)
    unfold addG joinS
    simp only [List.getLast?_singleton]
    by_cases he : x.1 = p.1
    · have : ¬ x.1 < p.1 := fun hl => by rw [he] at hl; exact List.lt_irrefl _ hl
      rw [if_neg this, if_pos he, if_pos he]
      rfl
    · rw [if_pos (key_lt h1 fun e => he e.symm), if_neg he]
      rfl
  | x :: y :: ys, hr, h => by
    have hr2 := (List.pairwise_cons.1 hr).2
    have ih := addG_last p (y :: ys) hr2 fun z hz => h z (List.mem_cons_of_mem _ hz)
    have hxy := (List.pairwise_cons.1 hr).1 y (List.mem_cons_self ..)
    have hyp := h y (List.mem_cons_of_mem _ (List.mem_cons_self ..))
    have hxp : x.1 < p.1 := by
      by_cases he : y.1 = p.1
      · rw [← he]; exact hxy
      · exact List.lt_trans hxy (key_lt hyp fun e => he e.symm)
    rw [addG, if_pos hxp, ih]
    unfold joinS
    rw [List.getLast?_cons_cons]
    cases hg : (y :: ys).getLast? with
    | none => simp at hg
    | some z =>
      simp only
      split
      · rw [List.dropLast_cons_cons]; rfl
      · rfl
/-- What a stable sort makes of pairs. -/
structure Stab (ps l : List (List UInt8 × β)) : Prop where
  up : l.Pairwise fun a b => ¬ b.1 < a.1
  vals : ∀ s, valsOf l s = valsOf ps s
theorem joinS_grp : ∀ (done l : List (List UInt8 × β)), (done ++ l).Pairwise (fun a b => ¬ b.1 < a.1) → l.foldl joinS (grp done) = grp (done ++ l)
  | done, [], _ => by rw [List.append_nil]; rfl
  | done, p :: l, h => by
    have hstep : joinS (grp done) p = grp (done ++ [p]) := by
      rw [grp_snoc]
      refine (addG_last p _ (grp_ok done).up fun x hx => ?_).symm
      have hv := ((grp_ok done).mem x).1 hx
      obtain ⟨q, hq, hqx⟩ : ∃ q ∈ done, q.1 = x.1 := by
        have hne : valsOf done x.1 ≠ [] := hv.1 ▸ hv.2
        unfold valsOf at hne
        have hne2 : (done.filter fun (p : List UInt8 × β) => decide (p.1 = x.1)) ≠ [] := fun e => hne (by rw [e]; rfl)
        obtain ⟨q, hq⟩ := List.exists_mem_of_ne_nil _ hne2
        exact ⟨q, (List.mem_filter.1 hq).1, of_decide_eq_true (List.mem_filter.1 hq).2⟩
      rw [← hqx]
      exact (List.pairwise_append.1 h).2.2 q hq p (List.mem_cons_self ..)
    rw [List.foldl_cons, hstep]
    have := joinS_grp (done ++ [p]) l (by rw [List.append_assoc]; exact h)
    rw [List.append_assoc] at this
    exact this
theorem Stab.grp {ps l : List (List UInt8 × β)} (h : Stab ps l) : l.foldl joinS [] = grp ps := by
  have h1 := joinS_grp [] l h.up
  rw [List.nil_append] at h1
  exact h1.trans ((grp_ok l).same h.vals |>.uniq (grp_ok ps))
end
end Go.Proofs.YtkdcnhnaiknaaaaGreat

/- Slices of bytes that came in. -/
namespace Go.Proofs.YtkdcnhnaiknaaaaGreat
open Go.ChangeShapes Go.WideShapes Go.ChangeAt Go.RowKit
open Go.ChangeMaps (open_string shut_string)

theorem slice_has {P : Program} {w : World} {r : Go.Reach} {base : Nat} {t e : TypeId} {a : Addr} {len cap : Nat} (ht : P.underlying t = some (.slice e)) (h : Value.okWide P w r base t (.slice (some a) len cap)) : a.spot = none ∧ a.block < w.heap.size := by
  unfold Value.okWide at h
  rw [ht] at h
  unfold Cell.okWide at h
  rw [ht] at h
  unfold Cell.ok at h
  rw [ht] at h
  obtain ⟨_, _, _, hs, row, cells, hsh, _⟩ := h
  refine ⟨hs, ?_⟩
  unfold World.shape? at hsh
  split at hsh
  · rename_i hh
    exact (Array.getElem?_eq_some_iff.1 hh).1
  · cases hsh
theorem wf_i64 {a : Int} (h : (Lit.int .i64 a).wf = true) : -9223372036854775808 ≤ a ∧ a ≤ 9223372036854775807 := by
  simp [Lit.wf, IntKind.has, IntKind.min, IntKind.max, IntKind.bits, IntKind.signed] at h
  omega
theorem wf_u8 {a : Int} (h : (Lit.int .u8 a).wf = true) : 0 ≤ a ∧ a < 256 := by
  simp [Lit.wf, IntKind.has, IntKind.min, IntKind.max, IntKind.bits, IntKind.signed] at h
  omega
theorem wf_u16 {a : Int} (h : (Lit.int .u16 a).wf = true) : 0 ≤ a ∧ a < 65536 := by
  simp [Lit.wf, IntKind.has, IntKind.min, IntKind.max, IntKind.bits, IntKind.signed] at h
  omega
/-- What a slice of bytes that came in is told to be. -/
structure Came (w : World) (A : Option Addr) (n c : Nat) (l : List UInt8) : Prop where
  len : n = l.length
  bytes : Bs w A l
  lt : ∀ a, A = some a → a.block < w.heap.size
  cap : n ≤ c
  most : n ≤ 9223372036854775807
set_option maxRecDepth 100000 in
theorem open_bytes {H : Type} {enc : TypeId × Value → H} {w : World} {r : Go.Reach} {base base' : Nat} {t e : TypeId} {fuel : Nat} {a : Option Addr} {len cap : Nat} {x : DataW H × List MemPlace} {spare : Nat → Bool} {held : Bool}
    (ht : Tryz.prog.underlying t = some (.slice e)) (he : Tryz.prog.underlying e = some (.int .u8)) (hc : Tryz.prog.cellsOf e = 1) (hv : Value.okWide Tryz.prog w r base t (.slice a len cap))
    (h : DataW.trod enc Tryz.prog w base' spare held fuel t (Value.slice a len cap).cells.toList = some x) : ∃ l, Came w a len cap l := by
  rcases open_ints ht he hc h with ⟨hcs, _⟩ | ⟨y, m, c, zs, hcs, _, hl, hm, hz, _, hcell, hwz⟩
  · simp [Value.cells] at hcs
    obtain ⟨rfl, rfl, rfl⟩ := hcs
    exact ⟨[], rfl, .inl rfl, nofun, by omega, by omega⟩
  · simp [Value.cells] at hcs
    obtain ⟨rfl, rfl, rfl⟩ := hcs
    obtain ⟨hs, hlt⟩ := slice_has ht hv
    obtain ⟨b, o, s⟩ := y
    simp only at hs
    subst hs
    have hzl : len ≤ zs.length := by rw [hz]; split <;> omega
    refine ⟨(zs.take len).map (fun n => UInt8.ofNat n.toNat), ?_, .inr ⟨b, o, rfl, fun i v hv => ?_⟩, fun a h => (by cases h; exact hlt), hl, ?_⟩
    · simp
      omega
    · rw [List.getElem?_map, List.getElem?_map, List.getElem?_take] at hv
      split at hv
      · rename_i hi
        have hi2 : i < zs.length := by omega
        rw [List.getElem?_eq_getElem hi2] at hv
        simp only [Option.map_some] at hv
        have h1 := hcell i hi2
        have h2 := hwz zs[i] (List.getElem_mem hi2)
        rw [Addr.add_lit] at h1
        rw [h1]
        injection hv with hv
        rw [← hv]
        have h3 : zs.getD i 0 = zs[i] := by simp [List.getD, hi2]
        rw [h3]
        simp [Lit.wf, IntKind.has, IntKind.min, IntKind.max, IntKind.bits, IntKind.signed] at h2
        unfold B8
        rw [UInt8.toNat_ofNat']
        congr 2
        omega
      · simp at hv
    · unfold maxLen at hm
      omega
end Go.Proofs.YtkdcnhnaiknaaaaGreat

/- What came in: a cell's place; rows of integers. -/
namespace Go.Proofs.YtkdcnhnaiknaaaaGreat
open Go.ChangeShapes Go.WideShapes Go.Deep Go.RowKit

theorem cell_lt {w : World} {a : Addr} {v : Value} (h : w.cell? a = some v) : a.block < w.heap.size ∧ a.spot = none := by
  unfold World.cell? at h
  split at h
  · rename_i c _ _ hb
    refine ⟨(Array.getElem?_eq_some_iff.1 hb).1, ?_⟩
    cases hs : a.spot with
    | none => rfl
    | some s => rw [hs] at h; simp at h
  · cases h
theorem list_of {α : Type} {Q : Nat → α → Prop} : ∀ (n : Nat), (∀ i, i < n → ∃ x, Q i x) → ∃ l : List α, l.length = n ∧ ∀ i x, l[i]? = some x → Q i x
  | 0, _ => ⟨[], rfl, fun i x h => by simp at h⟩
  | n + 1, h => by
    obtain ⟨l, hl, hq⟩ := list_of n fun i hi => h i (by omega)
    obtain ⟨x, hx⟩ := h n (by omega)
    refine ⟨l ++ [x], by simp [hl], fun i y hy => ?_⟩
    rw [List.getElem?_append] at hy
    split at hy
    · exact hq i y hy
    · rename_i hi
      have : i = n := by
        have := (List.getElem?_eq_some_iff.1 hy).1
        simp at this
        omega
      subst this
      rw [hl] at hy
      simp at hy
      rw [← hy]
      exact hx
section
variable {H : Type} {enc : TypeId × Value → H} {w : World} {base : Nat} {spare : Nat → Bool} {held : Bool}
set_option maxRecDepth 100000 in
theorem in_ints {t e : TypeId} {k : IntKind} {fuel : Nat} {v : Value} {x : DataW H × List MemPlace} (ht : Tryz.prog.underlying t = some (.slice e)) (he : Tryz.prog.underlying e = some (.int k)) (hc : Tryz.prog.cellsOf e = 1)
    (h : DataW.trod enc Tryz.prog w base spare held fuel t [v] = some x) :
    ∃ (A : Option Addr) (len cap : Nat) (zs : List Int), v = .slice A len cap ∧ len = zs.length ∧ Cells w A (zs.map (Value.int k)) ∧ (zs ≠ [] → ∀ a, A = some a → a.block < w.heap.size ∧ a.spot = none) ∧ len ≤ cap ∧ len ≤ 9223372036854775807 ∧ ∀ z ∈ zs, (Lit.int k z).wf = true := by
  rcases open_ints ht he hc h with ⟨hcs, _⟩ | ⟨y, m, c, zs, hcs, _, hl, hm, hz, _, hcell, hwz⟩
  · obtain rfl : v = .slice none 0 0 := by simpa using hcs
    exact ⟨none, 0, 0, [], rfl, rfl, .inl rfl, fun h => absurd rfl h, by omega, by omega, nofun⟩
  · obtain rfl : v = .slice (some y) m c := by simpa using hcs
    have hzl : m ≤ zs.length := by rw [hz]; split <;> omega
    have hml : m ≤ 9223372036854775807 := by unfold maxLen at hm; omega
    refine ⟨some y, m, c, zs.take m, rfl, by simp; omega, ?_, ?_, hl, hml, fun z hz => hwz z (List.mem_of_mem_take hz)⟩
    · rcases Nat.eq_zero_or_pos m with rfl | hm0
      · exact .inl rfl
      · have h0 := hcell 0 (by omega)
        have hs := (cell_lt h0).2
        obtain ⟨b, o, s⟩ := y
        obtain rfl : s = none := hs
        refine .inr ⟨b, o, rfl, fun i u hu => ?_⟩
        rw [List.getElem?_map, List.getElem?_take] at hu
        split at hu
        · rename_i hi
          have hi2 : i < zs.length := by omega
          rw [List.getElem?_eq_getElem hi2] at hu
          simp only [Option.map_some] at hu
          have h1 := hcell i hi2
          rw [Addr.add_lit] at h1
          rw [h1, ← hu]
          simp [List.getD, hi2]
        · simp at hu
    · intro hne a ha
      obtain rfl : y = a := by simpa using ha
      have hm0 : 0 < m := by
        rcases Nat.eq_zero_or_pos m with rfl | hm0
        · exact absurd rfl hne
        · exact hm0
      exact cell_lt (hcell 0 (by omega))
end
end Go.Proofs.YtkdcnhnaiknaaaaGreat

/- What came in: rows of strings. -/
namespace Go.Proofs.YtkdcnhnaiknaaaaGreat
open Go.ChangeShapes Go.WideShapes Go.Deep Go.RowKit

def strV (l : List UInt8) : Value := .string ⟨l.toArray⟩
theorem strV_bytes (s : ByteArray) : strV s.data.toList = .string s := by
  cases s
  simp [strV]
theorem str_list {s : ByteArray} (h : s.size ≤ maxLen) : Value.string s = strV s.data.toList ∧ s.data.toList.length ≤ 9223372036854775807 := by
  refine ⟨(strV_bytes s).symm, ?_⟩
  unfold maxLen at h
  rw [Array.length_toList]
  exact h
section
variable {H : Type} {enc : TypeId × Value → H} {w : World} {base : Nat} {spare : Nat → Bool} {held : Bool}
set_option maxRecDepth 100000 in
theorem in_strings {t e : TypeId} {fuel : Nat} {v : Value} {x : DataW H × List MemPlace} (ht : Tryz.prog.underlying t = some (.slice e)) (he : Tryz.prog.underlying e = some .string) (hc : Tryz.prog.cellsOf e = 1)
    (h : DataW.trod enc Tryz.prog w base spare held fuel t [v] = some x) :
    ∃ (A : Option Addr) (cap : Nat) (ss : List (List UInt8)), v = .slice A ss.length cap ∧ Cells w A (ss.map strV) ∧ (ss ≠ [] → ∀ a, A = some a → a.block < w.heap.size ∧ a.spot = none) ∧ ss.length ≤ cap ∧ ss.length ≤ 9223372036854775807 ∧ ∀ s ∈ ss, s.length ≤ 9223372036854775807 := by
  rcases open_strings ht he hc h with ⟨hcs, _⟩ | ⟨y, m, c, zs, hcs, _, hl, hm, hz, _, hcell, hwz⟩
  · obtain rfl : v = .slice none 0 0 := by simpa using hcs
    exact ⟨none, 0, [], rfl, .inl rfl, fun h => absurd rfl h, by simp, by simp, nofun⟩
  · obtain rfl : v = .slice (some y) m c := by simpa using hcs
    have hzl : m ≤ zs.length := by rw [hz]; split <;> omega
    have hml : m ≤ 9223372036854775807 := by unfold maxLen at hm; omega
    have hlen : ((zs.take m).map fun s => s.data.toList).length = m := by simp; omega
    refine ⟨some y, c, (zs.take m).map fun s => s.data.toList, by rw [hlen], ?_, ?_, by rw [hlen]; exact hl, by rw [hlen]; exact hml, fun s hs => ?_⟩
    · rcases Nat.eq_zero_or_pos m with rfl | hm0
      · exact .inl rfl
      · have h0 := hcell 0 (by omega)
        have hs := (cell_lt h0).2
        obtain ⟨b, o, s⟩ := y
        obtain rfl : s = none := hs
        refine .inr ⟨b, o, rfl, fun i u hu => ?_⟩
        rw [List.getElem?_map, List.getElem?_map, List.getElem?_take] at hu
        split at hu
        · rename_i hi
          have hi2 : i < zs.length := by omega
          rw [List.getElem?_eq_getElem hi2] at hu
          simp only [Option.map_some] at hu
          have h1 := hcell i hi2
          rw [Addr.add_lit] at h1
          rw [h1, ← hu, strV_bytes]
          simp [List.getD, hi2]
        · simp at hu
    · intro hne a ha
      obtain rfl : y = a := by simpa using ha
      have hm0 : 0 < m := by
        rcases Nat.eq_zero_or_pos m with rfl | hm0
        · exact absurd rfl hne
        · exact hm0
      exact cell_lt (hcell 0 (by omega))
    · obtain ⟨z, hz1, rfl⟩ := List.mem_map.1 hs
      have := hwz z (List.mem_of_mem_take hz1)
      unfold maxLen at this
      rw [Array.length_toList]
      exact this
end
end Go.Proofs.YtkdcnhnaiknaaaaGreat

/- Events, plainly; a row of fields. -/
namespace Go.Proofs.YtkdcnhnaiknaaaaGreat
open Go.RowKit

/-- A field: name, text. -/
abbrev Fd := List UInt8 × List UInt8
def Fd.cells (f : Fd) : List Value := [strV f.1, strV f.2]
def fcells (fs : List Fd) : List Value := fs.flatMap Fd.cells
theorem fcells_len : ∀ fs : List Fd, (fcells fs).length = fs.length * 2
  | [] => rfl
  | f :: fs => by
    have := fcells_len fs
    unfold fcells at this ⊢
    rw [List.flatMap_cons, List.length_append, this, List.length_cons]
    simp [Fd.cells]
    omega
theorem fcells_get : ∀ (fs : List Fd) (i : Nat) (f : Fd) (k : Nat), fs[i]? = some f → k < 2 → (fcells fs)[i * 2 + k]? = f.cells[k]?
  | [], i, f, k, h, _ => by simp at h
  | x :: fs, 0, f, k, h, hk => by
    obtain rfl : x = f := by simpa using h
    unfold fcells
    rw [List.flatMap_cons, List.getElem?_append_left (by simp [Fd.cells]; omega), Nat.zero_mul, Nat.zero_add]
  | x :: fs, i + 1, f, k, h, hk => by
    have h' : fs[i]? = some f := by simpa using h
    have ih := fcells_get fs i f k h' hk
    unfold fcells at ih ⊢
    rw [List.flatMap_cons, List.getElem?_append_right (by simp [Fd.cells]; omega)]
    have : (i + 1) * 2 + k - (Fd.cells x).length = i * 2 + k := by
      have : (Fd.cells x).length = 2 := rfl
      omega
    rw [this]
    exact ih
theorem fcells_snoc (fs : List Fd) (f : Fd) : fcells (fs ++ [f]) = fcells fs ++ f.cells := by
  unfold fcells
  rw [List.flatMap_append]
  simp
theorem fcells_take (k : Nat) : ∀ fs : List Fd, fcells (fs.take k) = (fcells fs).take (k * 2) := by
  induction k with
  | zero => intro fs; rw [List.take_zero, Nat.zero_mul, List.take_zero]; rfl
  | succ k ih =>
    intro fs
    cases fs with
    | nil => rw [List.take_nil]; unfold fcells; rw [List.flatMap_nil, List.take_nil]
    | cons f fs =>
      have h1 : (k + 1) * 2 = (Fd.cells f).length + k * 2 := by
        have : (Fd.cells f).length = 2 := rfl
        omega
      show fcells (f :: fs.take k) = _
      unfold fcells
      rw [List.flatMap_cons, List.flatMap_cons, h1, List.take_length_add_append]
      have := ih fs
      unfold fcells at this
      rw [this]
/-- Where a field's cells lie. -/
theorem fcells_at {w : World} {A : Option Addr} {fs : List Fd} (h : Cells w A (fcells fs)) {i : Nat} {f : Fd} (hf : fs[i]? = some f) : ∃ g o, A = some ⟨g, o, none⟩ ∧ w.cell? ⟨g, o + i * 2, none⟩ = some (strV f.1) ∧ w.cell? ⟨g, o + i * 2 + 1, none⟩ = some (strV f.2) := by
  have hi := (List.getElem?_eq_some_iff.1 hf).1
  obtain ⟨g, o, hA, hc⟩ := h.at_ (by rw [fcells_len]; omega)
  refine ⟨g, o, hA, ?_, ?_⟩
  · exact hc (i * 2 + 0) _ (by rw [fcells_get fs i f 0 hf (by omega)]; rfl)
  · rw [Nat.add_assoc]
    exact hc (i * 2 + 1) _ (by rw [fcells_get fs i f 1 hf (by omega)]; rfl)
/-- An event: time, fields. -/
structure Ev where
  at_ : Int
  fs : List Fd
def Ev.val (e : Ev) (A : Option Addr) (c : Nat) : Value := .agg #[.int .i64 e.at_, .slice A e.fs.length c]
/-- May a byte be in a name? -/
def nameC (c : UInt8) : Bool := decide (c.toNat = 95 ∨ (48 ≤ c.toNat ∧ c.toNat ≤ 57) ∨ (97 ≤ c.toNat ∧ c.toNat ≤ 122))
def nameL (s : List UInt8) : Bool := s.all nameC && decide (1 ≤ s.length ∧ s.length ≤ 32)
/-- What is told of fields, one behind the other. -/
def checkF : List Fd → Nat
  | [] => 0
  | f :: fs => if nameL f.1 = false then 100 else if 4096 < f.2.length then 2 else checkF fs
def checkE (fs : List Fd) : Nat := if 16 < fs.length then 3 else checkF fs
theorem checkF_drop {fs : List Fd} {i : Nat} {f : Fd} (h : fs[i]? = some f) : checkF (fs.drop i) = if nameL f.1 = false then 100 else if 4096 < f.2.length then 2 else checkF (fs.drop (i + 1)) := by
  obtain ⟨hi, rfl⟩ := List.getElem?_eq_some_iff.1 h
  rw [List.drop_eq_getElem_cons hi]
  rfl
end Go.Proofs.YtkdcnhnaiknaaaaGreat

/- Names: token.IsName, event.Name, loggiaref07.IsName. -/
namespace Go.Proofs.YtkdcnhnaiknaaaaGreat
open Go.RowKit

theorem nameL_bad {s : List UInt8} {i : Nat} {x : UInt8} (h : s[i]? = some x) (hx : nameC x = false) : nameL s = false := by
  unfold nameL
  have : s.all nameC = false := by
    rw [List.all_eq_false]
    exact ⟨x, List.mem_of_getElem? h, by rw [hx]; simp⟩
  rw [this]
  rfl
theorem nameC_no {x : UInt8} (h : ¬ (x.toNat = 95 ∨ (48 ≤ x.toNat ∧ x.toNat ≤ 57) ∨ (97 ≤ x.toNat ∧ x.toNat ≤ 122))) : nameC x = false := decide_eq_false h
theorem nameC_yes {x : UInt8} (h : x.toNat = 95 ∨ (48 ≤ x.toNat ∧ x.toNat ≤ 57) ∨ (97 ≤ x.toNat ∧ x.toNat ≤ 122)) : nameC x = true := decide_eq_true h
theorem all_snoc {s : List UInt8} {i : Nat} {x : UInt8} (h : s[i]? = some x) (ha : (s.take i).all nameC = true) (hx : nameC x = true) : (s.take (i + 1)).all nameC = true := by
  obtain ⟨hi, rfl⟩ := List.getElem?_eq_some_iff.1 h
  rw [List.take_succ_eq_append_getElem hi, List.all_append, ha]
  simp [hx]
set_option maxRecDepth 100000 in
set_option maxHeartbeats 2000000 in
theorem isname_any (s : List UInt8) (w : World) (hs : s.length ≤ 9223372036854775807) : Calls Tryz.prog 190 #[.string ⟨s.toArray⟩] w fun e w' => e = .returned (.bool (nameL s)) ∧ Ext w w' := by
  obtain ⟨c1, W1, hcv, hB, hE1, hsz⟩ := run_bytes s w
  obtain ⟨z, hz⟩ : ∃ z, z = nameL s := ⟨_, rfl⟩
  rw [← hz]
  have hbad : ∀ i x, s[i]? = some x → nameC x = false → z = false := fun i x h hx => hz.trans (nameL_bad h hx)
  have hend : s.all nameC = true → z = (decide (1 ≤ s.length) && decide (s.length ≤ 32)) := fun h => by rw [hz]; unfold nameL; rw [h]; simp [Bool.decide_and]
  replace hend := hide hend
  replace hbad := hide hbad
  replace hE1 := hide hE1
  clear hz hsz
  go_enter Tryz.func190, Tryz.ntmps190
  go_wp2_with fail
  go_loopw [8] (fun s8 wr => ∃ i : Nat, s8 = .int .i64 i ∧ i ≤ s.length ∧ Hid ((s.take i).all nameC = true) ∧ wr = W1) (fun s8 _ => s.length - (intOf s8).toNat)
  case atStart => exact ⟨0, rfl, by omega, hide rfl, rfl⟩
  case round =>
    obtain ⟨i, rfl, hi, hall, rfl⟩ := hrel
    by_cases hin : i < s.length
    · obtain ⟨g, o, hg, hc⟩ := hB.at_ (by omega)
      injection hg with hg
      injection hg with hg ho
      subst hg
      subst ho
      have k0 := hc i hin
      rw [Nat.zero_add] at k0
      obtain ⟨x, hx⟩ : ∃ x, x = s[i] := ⟨_, rfl⟩
      have hsx : s[i]? = some x := by rw [hx]; exact List.getElem?_eq_getElem hin
      rw [← hx] at k0
      have hb1 : ¬ (x.toNat = 95 ∨ (48 ≤ x.toNat ∧ x.toNat ≤ 57) ∨ (97 ≤ x.toNat ∧ x.toNat ≤ 122)) → z = false := fun h => hbad.out i x hsx (nameC_no h)
      have hg1 : (x.toNat = 95 ∨ (48 ≤ x.toNat ∧ x.toNat ≤ 57) ∨ (97 ≤ x.toNat ∧ x.toNat ≤ 122)) → (s.take (i + 1)).all nameC = true := fun h => all_snoc hsx hall.out (nameC_yes h)
      replace hb1 := hide hb1
      replace hg1 := hide hg1
      clear hc hx hsx
      go_wp2_with fail
      all_goals first
        | (have q := hg1.out (by first | omega | (simp_all; done) | (simp_all; omega))
           replace q := hide q
           go_roundw
           case rel => exact ⟨i + 1, by go_num, by omega, q, trivial⟩
           case measure => simp [intOf]; omega)
        | (have q := hb1.out (by first | omega | (simp_all; done) | (simp_all; omega))
           go_ret
           exact ⟨ret_bool (by rw [q]), hE1.out⟩)
    · have hz := hend.out (by have h := hall.out; rw [List.take_of_length_le (by omega)] at h; exact h)
      replace hz := hide hz
      go_wp2_with fail
      all_goals go_ret
      all_goals refine ⟨ret_bool ?_, hE1.out⟩
      all_goals rw [hz.out]
      all_goals
        rw [Bool.eq_iff_iff]
        simp
        omega
theorem name_any (s : List UInt8) (w : World) (hs : s.length ≤ 9223372036854775807) : Calls Tryz.prog 172 #[.string ⟨s.toArray⟩] w fun e w' => e = .returned (.bool (nameL s)) ∧ Ext w w' := by
  have h := hide (isname_any s w hs)
  go_enter Tryz.func172, Tryz.ntmps172
  go_wp2_with fail
  refine h.out.mono ?_
  rintro e w1 ⟨rfl, hE⟩
  go_wp2_with fail
  go_ret
  exact ⟨rfl, hE⟩
set_option maxRecDepth 100000 in
set_option maxHeartbeats 2000000 in
theorem risname_any (s : List UInt8) (w : World) (hs : s.length ≤ 9223372036854775807) : Calls Tryz.prog 99 #[.string ⟨s.toArray⟩] w fun e w' => e = .returned (.bool (nameL s)) ∧ w' = w := by
  obtain ⟨z, hz⟩ : ∃ z, z = nameL s := ⟨_, rfl⟩
  rw [← hz]
  have hbad : ∀ i x, s[i]? = some x → nameC x = false → z = false := fun i x h hx => hz.trans (nameL_bad h hx)
  have hend : s.all nameC = true → z = (decide (1 ≤ s.length) && decide (s.length ≤ 32)) := fun h => by rw [hz]; unfold nameL; rw [h]; simp [Bool.decide_and]
  have hlen : ¬ (1 ≤ s.length ∧ s.length ≤ 32) → z = false := fun h => by rw [hz]; unfold nameL; rw [decide_eq_false h]; simp
  replace hend := hide hend
  replace hbad := hide hbad
  replace hlen := hide hlen
  clear hz
  by_cases hl : 1 ≤ s.length ∧ s.length ≤ 32
  · obtain ⟨hl1, hl2⟩ := hl
    go_enter Tryz.func99, Tryz.ntmps99
    go_wp2_with fail
    go_loopw [3] (fun s3 wr => ∃ i : Nat, s3 = .int .i64 i ∧ i ≤ s.length ∧ Hid ((s.take i).all nameC = true) ∧ wr = w) (fun s3 _ => s.length - (intOf s3).toNat)
    case atStart => exact ⟨0, rfl, by omega, hide rfl, rfl⟩
    case round =>
      obtain ⟨i, rfl, hi, hall, rfl⟩ := hrel
      by_cases hin : i < s.length
      · obtain ⟨x, hx⟩ : ∃ x, x = s[i] := ⟨_, rfl⟩
        have hsx : s[i]? = some x := by rw [hx]; exact List.getElem?_eq_getElem hin
        have hrun := fun W => run_strindex hsx (z := (i : Int)) rfl W
        have hb1 : ¬ (x.toNat = 95 ∨ (48 ≤ x.toNat ∧ x.toNat ≤ 57) ∨ (97 ≤ x.toNat ∧ x.toNat ≤ 122)) → z = false := fun h => hbad.out i x hsx (nameC_no h)
        have hg1 : (x.toNat = 95 ∨ (48 ≤ x.toNat ∧ x.toNat ≤ 57) ∨ (97 ≤ x.toNat ∧ x.toNat ≤ 122)) → (s.take (i + 1)).all nameC = true := fun h => all_snoc hsx hall.out (nameC_yes h)
        replace hb1 := hide hb1
        replace hg1 := hide hg1
        clear hx hsx
        go_wp2_with fail
        all_goals first
          | (have q := hg1.out (by first | omega | (simp_all; done) | (simp_all; omega))
             replace q := hide q
             go_roundw
             case rel => exact ⟨i + 1, by go_num, by omega, q, trivial⟩
             case measure => simp [intOf]; omega)
          | (have q := hb1.out (by first | omega | (simp_all; done) | (simp_all; omega))
             go_ret
             exact ⟨ret_bool (by rw [q]), rfl⟩)
      · have hz := hend.out (by have h := hall.out; rw [List.take_of_length_le (by omega)] at h; exact h)
        rw [decide_eq_true hl1, decide_eq_true hl2] at hz
        subst hz
        go_wp2_with fail
        go_ret
        exact ⟨rfl, rfl⟩
  · obtain rfl := hlen.out hl
    go_enter Tryz.func99, Tryz.ntmps99
    go_wp2_with fail
    all_goals first
      | (go_ret; exact ⟨rfl, rfl⟩)
      | (exfalso; simp_all; omega)
end Go.Proofs.YtkdcnhnaiknaaaaGreat

/- Events: event.Check. -/
namespace Go.Proofs.YtkdcnhnaiknaaaaGreat
open Go.RowKit

/-- An event that may be looked at. -/
structure Ev.Ok (e : Ev) (w : World) (A : Option Addr) : Prop where
  cells : Cells w A (fcells e.fs)
  many : e.fs.length ≤ 9223372036854775807
  long : ∀ f ∈ e.fs, f.1.length ≤ 9223372036854775807 ∧ f.2.length ≤ 9223372036854775807
theorem Ev.Ok.ext {e : Ev} {w w1 : World} {A : Option Addr} (h : e.Ok w A) (hE : Ext w w1) : e.Ok w1 A := ⟨h.cells.ext hE, h.many, h.long⟩
set_option maxRecDepth 100000 in
set_option maxHeartbeats 2000000 in
theorem echeck_any (e : Ev) (A : Option Addr) (c : Nat) (w : World) (h : e.Ok w A) : Calls Tryz.prog 130 #[e.val A c] w fun en w' => en = .returned (.int .i64 (checkE e.fs : Int)) ∧ Ext w w' := by
  obtain ⟨at_, fs⟩ := e
  obtain ⟨hc, hm, hl⟩ := h
  unfold Ev.val
  simp only at hc hm hl ⊢
  obtain ⟨n, hn⟩ : ∃ n, n = fs.length := ⟨_, rfl⟩
  obtain ⟨z, hz⟩ : ∃ z, z = checkE fs := ⟨_, rfl⟩
  have hmany : 16 < n → z = 3 := fun h => by rw [hz]; unfold checkE; rw [if_pos (by omega)]
  have hgo : n ≤ 16 → z = checkF (fs.drop 0) := fun h => by rw [hz]; unfold checkE; rw [if_neg (by omega)]; rfl
  have hnm := fun s W (hs : s.length ≤ 9223372036854775807) => name_any s W hs
  rw [← hz, ← hn]
  rw [← hn] at hm
  replace hn := hide hn
  replace hl := hide hl
  replace hnm := hide hnm
  replace hgo := hide hgo
  clear hz
  by_cases h16 : 16 < n
  · have hz3 := hmany h16
    subst hz3
    clear hmany
    go_enter Tryz.func130, Tryz.ntmps130
    go_wp2_with fail
    go_ret
    exact ⟨rfl, (Ext.refl w).alloc _⟩
  · clear hmany
    go_enter Tryz.func130, Tryz.ntmps130
    go_wp2_with fail
    have hz0 := hgo.out (by omega)
    replace hz0 := hide hz0
    have hEW : Ext w (w.alloc (.cells #[.int .i64 at_, .slice A n c] 37)) := (Ext.refl w).alloc _
    obtain ⟨W0, hW0⟩ : ∃ W0, W0 = w.alloc (.cells #[.int .i64 at_, .slice A n c] 37) := ⟨_, rfl⟩
    rw [← hW0] at hEW ⊢
    clear hW0
    go_loopw [12] (fun s12 wr => ∃ i : Nat, s12 = .int .i64 i ∧ i ≤ n ∧ Hid (z = checkF (fs.drop i)) ∧ Hid (Ext w wr)) (fun s12 _ => n - (intOf s12).toNat)
    case atStart => exact ⟨0, rfl, by omega, hz0, hide hEW⟩
    case round =>
      obtain ⟨i, rfl, hi, hz, hE⟩ := hrel
      by_cases hin : i < n
      · have hil : i < fs.length := by rw [← hn.out]; exact hin
        obtain ⟨f, hf⟩ : ∃ f, fs[i]? = some f := ⟨_, List.getElem?_eq_getElem hil⟩
        obtain ⟨g, o, rfl, k0, k1⟩ := fcells_at (hc.ext hE.out) hf
        obtain ⟨hl1, hl2⟩ := hl.out f (List.mem_of_getElem? hf)
        have hz2 := hz.out
        rw [checkF_drop hf] at hz2
        unfold strV at k0 k1
        have hglt : g < wr.heap.size := World.block_lt_of_cell? wr _ k0
        obtain ⟨nm, tx⟩ := f
        simp only at k0 k1 hl1 hl2 hz2
        have hnm1 := fun W => hnm.out nm W hl1
        obtain ⟨q, hq⟩ : ∃ q, q = nameL nm := ⟨_, rfl⟩
        rw [← hq] at hnm1 hz2
        replace hnm1 := hide hnm1
        replace hz2 := hide hz2
        clear hf hq
        go_wp2_with fail
        have hrow : Row (wr.alloc (.cells #[.string ⟨nm.toArray⟩, .string ⟨tx.toArray⟩] 105)) wr.heap.size 105 #[.string ⟨nm.toArray⟩, .string ⟨tx.toArray⟩] := Row.new wr _ _
        have hE1 : Ext w (wr.alloc (.cells #[.string ⟨nm.toArray⟩, .string ⟨tx.toArray⟩] 105)) := hE.out.trans ((Ext.refl wr).alloc _)
        refine (hnm1.out _).mono ?_
        rintro e w3 ⟨rfl, hE3⟩
        have k3 : w3.cell? ⟨wr.heap.size, 1, none⟩ = some (.string ⟨tx.toArray⟩) := hE3.cell (hrow.cell 1 rfl)
        have hE4 := hide (hE1.trans hE3)
        clear hrow hE1
        cases q with
        | false =>
          obtain rfl : z = 100 := by rw [hz2.out]; rfl
          go_wp2_with fail
          go_ret
          exact ⟨rfl, hE4.out⟩
        | true =>
          by_cases hlt : 4096 < tx.length
          · obtain rfl : z = 2 := by rw [hz2.out, if_neg (by simp), if_pos hlt]
            go_wp2_with fail
            go_ret
            exact ⟨rfl, hE4.out⟩
          · have hz3 := hide (show z = checkF (fs.drop (i + 1)) by rw [hz2.out, if_neg (by simp), if_neg hlt])
            go_wp2_with fail
            go_roundw
            case rel => exact ⟨i + 1, by go_num, by omega, hz3, hE4⟩
            case measure => simp [intOf]; omega
      · have hz0 := hz.out
        rw [List.drop_of_length_le (by rw [← hn.out]; omega)] at hz0
        have hz1 : z = 0 := hz0
        subst hz1
        go_wp2_with fail
        go_ret
        exact ⟨rfl, hE.out⟩
end Go.Proofs.YtkdcnhnaiknaaaaGreat

/- Rows of events, and whose they are. -/
namespace Go.Proofs.YtkdcnhnaiknaaaaGreat
open Go.RowKit

def I64ok' (z : Int) : Prop := -9223372036854775808 ≤ z ∧ z ≤ 9223372036854775807
theorem owns_lower {w : World} {base b : Nat} {e : TypeId} {size : Nat} {v : Value} {n : Nat} {xs : List Value} (h : w.ownsRow base e size v n xs) (hb : b ≤ base) : w.ownsRow b e size v n xs := by
  refine ⟨h.1, ?_⟩
  rcases h.2 with h2 | ⟨g, cap, cur, hv, hg, r⟩
  · exact .inl h2
  · exact .inr ⟨g, cap, cur, hv, Nat.le_trans hb hg, r⟩
/-- An event whose fields' row is a call's own. -/
def Ev.Own (e : Ev) (w : World) (base : Nat) (A : Option Addr) (c : Nat) : Prop := w.ownsRow base 105 2 (.slice A e.fs.length c) e.fs.length (fcells e.fs) ∧ (∀ f ∈ e.fs, f.1.length ≤ 9223372036854775807 ∧ f.2.length ≤ 9223372036854775807) ∧ e.fs.length ≤ 20
theorem Ev.Own.ok {e : Ev} {w : World} {base c : Nat} {A : Option Addr} (h : e.Own w base A c) : e.Ok w A := ⟨Cells.of_own h.1, by have := h.2.2; omega, h.2.1⟩
theorem Ev.Own.nil (w : World) (base : Nat) (at_ : Int) : Ev.Own ⟨at_, []⟩ w base none 0 := ⟨⟨rfl, .inl ⟨rfl, rfl⟩⟩, nofun, by simp⟩
/-- As wpList_appS; the new block's number is told apart. -/
theorem wpList_appZ {P : Program} {ops : Array Oper} {rest : List Oper} {o : Oper} {a : Act} {Q : Exit → Act → World → Prop} {w0 : World} {us : List Value} {T : TypeId} {t e size bytes m k : Nat} (E : Elem P t e size bytes)
    {base : Nat} {v : Value} {n : Nat} {xs : List Value} (hown : w0.ownsRow base e size v n xs) (hk : k = w0.heap.size) (s x : Operand)
    (ho : o.op = .call { callee := .builtin .append, args := #[s, x], argTypes := #[t, t] }) (hgd : o.guard = none)
    (hs : a.eval s = v) (hx : a.eval x = .slice (some ⟨k, 0, none⟩) m m) (hl : us.length = m * size) (h1 : ∀ u ∈ us, u.oneCell' = true) (hsz : n + m ≤ 4294967296) (hbase : base ≤ w0.heap.size)
    (h : ∀ A1 c1 w', w'.ownsRow base e size (.slice A1 (n + m) c1) (n + m) (xs ++ us) → w0.grownBy w' v.ownBlock → ((Value.slice A1 (n + m) c1).ownBlock = v.ownBlock ∨ (Value.slice A1 (n + m) c1).ownBlock = some (w0.heap.size + 1)) →
      wpList P ops Q rest (a.put o.dst (.slice A1 (n + m) c1)) w') :
    wpList P ops Q (o :: rest) a (w0.alloc (.cells us.toArray T)) := by
  subst hk
  exact wpList_appS E hown s x ho hgd hs hx hl h1 hsz hbase h
set_option maxRecDepth 100000 in
theorem elemFd : Elem Tryz.prog 35 105 2 32 := ⟨Tryz.underlying35, ⟨_, _, rfl, rfl, rfl, rfl, rfl⟩, by omega, by omega⟩
/-- An event where it lies: its fields' slice. -/
structure EvC where
  e : Ev
  A : Option Addr
  c : Nat
def EvC.val (x : EvC) : Value := x.e.val x.A x.c
def EvC.cells (x : EvC) : List Value := [.int .i64 x.e.at_, .slice x.A x.e.fs.length x.c]
def ecells (l : List EvC) : List Value := l.flatMap EvC.cells
theorem ecells_len : ∀ l : List EvC, (ecells l).length = l.length * 2
  | [] => rfl
  | x :: l => by
    have := ecells_len l
    unfold ecells at this ⊢
    rw [List.flatMap_cons, List.length_append, this, List.length_cons]
    simp [EvC.cells]
    omega
theorem ecells_get : ∀ (l : List EvC) (i : Nat) (x : EvC) (k : Nat), l[i]? = some x → k < 2 → (ecells l)[i * 2 + k]? = x.cells[k]?
  | [], i, x, k, h, _ => by simp at h
  | y :: l, 0, x, k, h, hk => by
    obtain rfl : y = x := by simpa using h
    unfold ecells
    rw [List.flatMap_cons, List.getElem?_append_left (by simp [EvC.cells]; omega), Nat.zero_mul, Nat.zero_add]
  | y :: l, i + 1, x, k, h, hk => by
    have h' : l[i]? = some x := by simpa using h
    have ih := ecells_get l i x k h' hk
    unfold ecells at ih ⊢
    rw [List.flatMap_cons, List.getElem?_append_right (by simp [EvC.cells]; omega)]
    have : (i + 1) * 2 + k - (EvC.cells y).length = i * 2 + k := by
      have : (EvC.cells y).length = 2 := rfl
      omega
    rw [this]
    exact ih
theorem ecells_snoc (l : List EvC) (x : EvC) : ecells (l ++ [x]) = ecells l ++ x.cells := by
  unfold ecells
  rw [List.flatMap_append]
  simp
theorem ecells_at {w : World} {A : Option Addr} {l : List EvC} (h : Cells w A (ecells l)) {i : Nat} {x : EvC} (hx : l[i]? = some x) : ∃ g o, A = some ⟨g, o, none⟩ ∧ w.cell? ⟨g, o + i * 2, none⟩ = some (.int .i64 x.e.at_) ∧ w.cell? ⟨g, o + i * 2 + 1, none⟩ = some (.slice x.A x.e.fs.length x.c) := by
  have hi := (List.getElem?_eq_some_iff.1 hx).1
  obtain ⟨g, o, hA, hc⟩ := h.at_ (by rw [ecells_len]; omega)
  refine ⟨g, o, hA, ?_, ?_⟩
  · exact hc (i * 2 + 0) _ (by rw [ecells_get l i x 0 hx (by omega)]; rfl)
  · rw [Nat.add_assoc]
    exact hc (i * 2 + 1) _ (by rw [ecells_get l i x 1 hx (by omega)]; rfl)
/-- A row of events lies at A. -/
structure EvsOk (w : World) (A : Option Addr) (l : List EvC) : Prop where
  cells : Cells w A (ecells l)
  each : ∀ x ∈ l, x.e.Ok w x.A
theorem EvsOk.ext {w w1 : World} {A : Option Addr} {l : List EvC} (h : EvsOk w A l) (hE : Ext w w1) : EvsOk w1 A l := ⟨h.cells.ext hE, fun x hx => (h.each x hx).ext hE⟩
theorem EvsOk.nil (w : World) (A : Option Addr) : EvsOk w A [] := ⟨.inl rfl, nofun⟩
/-- An event whose fields' row is the call's own. -/
def EvC.Own (x : EvC) (w : World) (base : Nat) : Prop := x.e.Own w base x.A x.c
theorem EvC.Own.ok {x : EvC} {w : World} {base : Nat} (h : x.Own w base) : x.e.Ok w x.A := Ev.Own.ok h
theorem EvC.Own.chg {x : EvC} {w w' : World} {base : Nat} {S : Nat → Prop} (h : x.Own w base) (hc : Chg S w w') (hS : ∀ g cs, Row w g 105 cs → ¬ S g) : x.Own w' base :=
  ⟨hc.owns h.1 fun g hg => by obtain ⟨cs, hr, _⟩ := owns_row h.1 hg; exact hS g cs hr, h.2⟩
end Go.Proofs.YtkdcnhnaiknaaaaGreat

/- An event's terms, plainly. -/
namespace Go.Proofs.YtkdcnhnaiknaaaaGreat

/-- A field's words, each with its place. -/
def fieldT (base : Nat) (f : Fd) : List (List UInt8 × Int) := (tokL f.2).zipIdx.map fun p => (f.1 ++ 58 :: p.1, ((base + p.2 : Nat) : Int))
/-- Where the words of the field behind begin. -/
def nextT (base : Nat) (f : Fd) : Nat := base + (64 + (tokL f.2).length)
def rawT : Nat → List Fd → List (List UInt8 × Int)
  | _, [] => []
  | b, f :: fs => fieldT b f ++ rawT (nextT b f) fs
def baseT : Nat → List Fd → Nat
  | b, [] => b
  | b, f :: fs => baseT (nextT b f) fs
theorem rawT_app : ∀ (a c : List Fd) (b : Nat), rawT b (a ++ c) = rawT b a ++ rawT (baseT b a) c
  | [], c, b => rfl
  | f :: a, c, b => by
    show fieldT b f ++ rawT (nextT b f) (a ++ c) = (fieldT b f ++ rawT (nextT b f) a) ++ _
    rw [rawT_app a c, List.append_assoc]
    rfl
theorem baseT_app : ∀ (a c : List Fd) (b : Nat), baseT b (a ++ c) = baseT (baseT b a) c
  | [], c, b => rfl
  | f :: a, c, b => baseT_app a c (nextT b f)
theorem fieldT_len (base : Nat) (f : Fd) : (fieldT base f).length = (tokL f.2).length := by unfold fieldT; rw [List.length_map, List.length_zipIdx]
/-- An event's terms. -/
def termsL (e : Ev) : List (List UInt8 × List Int) := if checkE e.fs = 0 then grp (rawT 0 e.fs) else []
end Go.Proofs.YtkdcnhnaiknaaaaGreat

/- loggia/posting: rising. -/
namespace Go.Proofs.YtkdcnhnaiknaaaaGreat
open Go.RowKit

def risB (n : Int) : Int → List Int → Bool
  | _, [] => true
  | lo, x :: t => decide (lo < x) && decide (x < n) && risB n x t
def IV (x : Int) : Value := .int .i64 x
def idV : Value := .func (.func 143) #[] #[]
set_option maxRecDepth 100000 in
theorem idv_any (x : Int) (w : World) : Calls Tryz.prog 143 #[.int .i64 x] w fun e w' => e = .returned (.int .i64 x) ∧ w' = w := by
  go_enter Tryz.func143, Tryz.ntmps143
  go_wp2
  go_ret
  exact ⟨rfl, rfl⟩
set_option maxRecDepth 100000 in
set_option maxHeartbeats 1000000 in
theorem risingI_any (xs : List Int) (A : Option Addr) (m c : Nat) (n : Int) (w : World) (hm : m = xs.length) (hc : Cells w A (xs.map IV)) (hm9 : m ≤ 1000000000) :
    Calls Tryz.prog 142 #[.slice A m c, .int .i64 n, idV] w fun e w' => e = .returned (.bool (risB n (-1) xs)) ∧ Ext w w' := by
  unfold idV
  have hid := hide (fun x W => idv_any x W)
  obtain ⟨Z, hZ⟩ : ∃ Z, Z = risB n (-1) xs := ⟨_, rfl⟩
  rw [← hZ]
  replace hZ := hide hZ
  replace hc := hide hc
  replace hm := hide hm
  go_enter Tryz.func142, Tryz.ntmps142
  go_wp2_with fail
  go_loopw [7, 13] (fun s7 s13 wr => ∃ (i : Nat) (p : Int), s7 = .int .i64 p ∧ s13 = .int .i64 (i : Int) ∧ i ≤ m ∧ Hid (Z = risB n p (xs.drop i)) ∧ wr = w) (fun _ s13 _ => m - (intOf s13).toNat)
  case atStart => exact ⟨0, -1, rfl, rfl, by omega, hide (by rw [hZ.out]; rfl), rfl⟩
  case round =>
    obtain ⟨i, p, rfl, rfl, hi, hin, rfl⟩ := hrel
    by_cases h : i < m
    · obtain ⟨x, hxi⟩ : ∃ x, xs[i]? = some x := ⟨_, List.getElem?_eq_getElem (by rw [← hm.out]; exact h)⟩
      obtain ⟨g, o, hA, hcl⟩ := hc.out.at_ (by rw [List.length_map, ← hm.out]; omega)
      subst hA
      have hld := hcl i (IV x) (by rw [List.getElem?_map, hxi]; rfl)
      unfold IV at hld
      have hdr : xs.drop i = x :: xs.drop (i + 1) := by
        rw [List.drop_eq_getElem_cons (List.getElem?_eq_some_iff.1 hxi).1]
        congr 1
        exact (List.getElem?_eq_some_iff.1 hxi).2
      have hin2 := hin.out
      rw [hdr, risB] at hin2
      have hca := hide (fun W => hid.out x W)
      replace hcl := hide hcl
      replace hxi := hide hxi
      replace hdr := hide hdr
      by_cases h1 : p < x
      · by_cases h2 : x < n
        · rw [decide_eq_true h1, decide_eq_true h2, Bool.true_and, Bool.true_and] at hin2
          replace hin2 := hide hin2
          go_wp2_with fail
          refine (hca.out _).mono ?_
          rintro e w2 ⟨rfl, rfl⟩
          go_wp2_with fail
          exact ⟨⟨i + 1, x, rfl, rfl, by omega, hin2, trivial⟩, by simp only [intOf]; omega⟩
        · rw [decide_eq_true h1, decide_eq_false h2, Bool.true_and, Bool.false_and] at hin2
          subst hin2
          go_wp2_with fail
          refine (hca.out _).mono ?_
          rintro e w2 ⟨rfl, rfl⟩
          go_wp2_with fail
          go_ret
          exact ⟨rfl, Ext.refl _⟩
      · rw [decide_eq_false h1, Bool.false_and, Bool.false_and] at hin2
        subst hin2
        go_wp2_with fail
        refine (hca.out _).mono ?_
        rintro e w2 ⟨rfl, rfl⟩
        go_wp2_with fail
        go_ret
        exact ⟨rfl, Ext.refl _⟩
    · obtain rfl : i = m := by omega
      have hZe : Z = true := by rw [hin.out, List.drop_eq_nil_of_le (by rw [← hm.out]; exact Nat.le_refl _), risB]
      subst hZe
      go_wp2_with fail
      go_ret
      exact ⟨rfl, Ext.refl _⟩
end Go.Proofs.YtkdcnhnaiknaaaaGreat

/- Rows in parts of so many, plainly. -/
namespace Go.Proofs.YtkdcnhnaiknaaaaGreat

/-- A row's parts of k each; the last may be shorter. -/
def chunkL {α : Type} (k : Nat) (l : List α) : List (List α) := if h : l = [] ∨ k = 0 then [] else l.take k :: chunkL k (l.drop k)
termination_by l.length
decreasing_by
  rw [List.length_drop]
  have : 0 < l.length := List.length_pos_iff.2 (fun e => h (.inl e))
  omega
section
variable {α : Type} {k : Nat}
theorem chunkL_nil : chunkL k ([] : List α) = [] := by rw [chunkL, dif_pos (.inl rfl)]
theorem chunkL_cons {l : List α} (hl : l ≠ []) (hk : 0 < k) : chunkL k l = l.take k :: chunkL k (l.drop k) := by rw [chunkL, dif_neg (fun h => h.elim hl (by omega))]
theorem chunkL_flat (hk : 0 < k) (l : List α) : (chunkL k l).flatMap id = l := by
  by_cases h : l = []
  · rw [h, chunkL_nil]; rfl
  · have : 0 < l.length := List.length_pos_iff.2 h
    rw [chunkL_cons h hk, List.flatMap_cons, chunkL_flat hk (l.drop k)]
    exact List.take_append_drop k l
termination_by l.length
decreasing_by rw [List.length_drop]; omega
theorem chunkL_len (hk : 0 < k) (l : List α) : (chunkL k l).length = (l.length + k - 1) / k := by
  by_cases h : l = []
  · rw [h, chunkL_nil]
    symm
    exact Nat.div_eq_of_lt (by simp; omega)
  · have hl : 0 < l.length := List.length_pos_iff.2 h
    rw [chunkL_cons h hk, List.length_cons, chunkL_len hk (l.drop k), List.length_drop]
    rcases Nat.lt_or_ge k l.length with h1 | h1
    · rw [show l.length + k - 1 = (l.length - k + k - 1) + k by omega, Nat.add_div_right _ hk]
    · rw [show l.length - k + k - 1 = k - 1 by omega, Nat.div_eq_of_lt (by omega), show l.length + k - 1 = (l.length - 1) + k by omega, Nat.add_div_right _ hk, Nat.div_eq_of_lt (by omega)]
termination_by l.length
decreasing_by rw [List.length_drop]; omega
/-- The i-th part. -/
theorem chunkL_get (hk : 0 < k) : ∀ (i : Nat) (l : List α), i * k < l.length → (chunkL k l)[i]? = some ((l.drop (i * k)).take k)
  | 0, l, h => by
    have : l ≠ [] := fun e => by rw [e] at h; simp at h
    rw [chunkL_cons this hk]
    simp
  | i + 1, l, h => by
    have hl : l ≠ [] := fun e => by rw [e] at h; simp at h
    rw [chunkL_cons hl hk, List.getElem?_cons_succ, chunkL_get hk i (l.drop k) (by rw [List.length_drop]; rw [Nat.succ_mul] at h; omega), List.drop_drop]
    congr 3
    rw [Nat.succ_mul]; omega
theorem chunkL_none (hk : 0 < k) (i : Nat) (l : List α) (h : l.length ≤ i * k) : (chunkL k l).length ≤ i := by
  rw [chunkL_len hk, Nat.div_le_iff_le_mul_add_pred hk, Nat.mul_comm]
  omega
theorem chunkL_ne (hk : 0 < k) {l b : List α} (hb : b ∈ chunkL k l) : b ≠ [] ∧ b.length ≤ k := by
  by_cases h : l = []
  · rw [h, chunkL_nil] at hb; cases hb
  · have hl : 0 < l.length := List.length_pos_iff.2 h
    rw [chunkL_cons h hk] at hb
    rcases List.mem_cons.1 hb with rfl | hb
    · refine ⟨fun e => ?_, List.length_take_le ..⟩
      have := congrArg List.length e
      rw [List.length_take, List.length_nil] at this
      omega
    · exact chunkL_ne hk hb
termination_by l.length
decreasing_by rw [List.length_drop]; omega
theorem chunkL_mem (hk : 0 < k) {l b : List α} (hb : b ∈ chunkL k l) : ∀ x ∈ b, x ∈ l := by
  intro x hx
  rw [← chunkL_flat hk l]
  exact List.mem_flatMap.2 ⟨b, hb, hx⟩
theorem chunkL_take (hk : 0 < k) (l : List α) : ∀ i, ((chunkL k l).take i).flatMap id = l.take (i * k)
  | 0 => by simp
  | i + 1 => by
    rcases Nat.lt_or_ge (i * k) l.length with h | h
    · have hg := chunkL_get hk i l h
      have hi := (List.getElem?_eq_some_iff.1 hg)
      rw [List.take_add_one, hg, List.flatMap_append, chunkL_take hk l i]
      show _ ++ [(l.drop (i * k)).take k].flatMap id = _
      rw [List.flatMap_cons, List.flatMap_nil, List.append_nil]
      show _ ++ (l.drop (i * k)).take k = _
      rw [Nat.succ_mul, List.take_add]
    · have h1 := chunkL_none hk i l h
      rw [List.take_of_length_le (by omega), chunkL_flat hk, List.take_of_length_le (by rw [Nat.succ_mul]; omega)]
end
end Go.Proofs.YtkdcnhnaiknaaaaGreat

/- Numbers in bytes, plainly: seven bits a byte, the lowest first. -/
namespace Go.Proofs.YtkdcnhnaiknaaaaGreat

/-- A number's bytes. -/
def vb (n : Nat) : List UInt8 := if _h : n < 128 then [UInt8.ofNat n] else UInt8.ofNat (n % 128 + 128) :: vb (n / 128)
termination_by n
decreasing_by omega
theorem vb_lt {n : Nat} (h : n < 128) : vb n = [UInt8.ofNat n] := by rw [vb, dif_pos h]
theorem vb_ge {n : Nat} (h : ¬ n < 128) : vb n = UInt8.ofNat (n % 128 + 128) :: vb (n / 128) := by rw [vb, dif_neg h]
theorem vb_len : ∀ (k n : Nat), n < 128 ^ k → (vb n).length ≤ max k 1
  | 0, n, h => by
    have : n = 0 := by simpa using h
    subst this
    rw [vb_lt (by omega)]
    simp
  | k + 1, n, h => by
    by_cases hn : n < 128
    · rw [vb_lt hn]; simp
    · rw [vb_ge hn, List.length_cons]
      have ih := vb_len k (n / 128) (by rw [Nat.pow_succ] at h; omega)
      have : 1 ≤ k := by
        rcases Nat.eq_zero_or_pos k with rfl | hk
        · simp at h; omega
        · exact hk
      omega
theorem vb_len10 {n : Nat} (h : n < 18446744073709551616) : (vb n).length ≤ 10 := vb_len 10 n (by omega)
theorem vb_pos (n : Nat) : 1 ≤ (vb n).length := by
  by_cases hn : n < 128
  · rw [vb_lt hn]; simp
  · rw [vb_ge hn]; simp
/-- The number that bytes begin with, and what is left; or the error. i bytes have been read. -/
def getV (i : Nat) : List UInt8 → Except Nat (Nat × List UInt8)
  | [] => .error 6
  | x :: l => if 10 ≤ i then .error 6 else if (i = 9 ∧ 1 < x.toNat) ∨ (0 < i ∧ x.toNat = 0) then .error 20 else
    if x.toNat < 128 then .ok (x.toNat, l) else match getV (i + 1) l with
      | .ok (n, r) => .ok (x.toNat - 128 + 128 * n, r)
      | .error e => .error e
theorem getV_lt : ∀ (l : List UInt8) (i n : Nat) (r : List UInt8), getV i l = .ok (n, r) → i ≤ 9 ∧ n < 2 * 128 ^ (9 - i) ∧ ∃ p, l = p ++ r ∧ p ≠ []
  | [], i, n, r, h => by simp [getV] at h
  | x :: l, i, n, r, h => by
    unfold getV at h
    by_cases h10 : 10 ≤ i
    · rw [if_pos h10] at h; cases h
    rw [if_neg h10] at h
    by_cases hb : (i = 9 ∧ 1 < x.toNat) ∨ (0 < i ∧ x.toNat = 0)
    · rw [if_pos hb] at h; cases h
    rw [if_neg hb] at h
    have hx := x.toNat_lt
    by_cases h128 : x.toNat < 128
    · rw [if_pos h128] at h
      injection h with h
      injection h with h1 h2
      subst h1 h2
      refine ⟨by omega, ?_, [x], rfl, by simp⟩
      by_cases h9 : i = 9
      · subst h9
        simp only [Nat.sub_self, Nat.pow_zero]
        omega
      · have : 128 ^ 1 ≤ 128 ^ (9 - i) := Nat.pow_le_pow_right (by omega) (by omega)
        omega
    · rw [if_neg h128] at h
      split at h
      · rename_i m r' hg
        injection h with h
        injection h with h1 h2
        subst h1 h2
        obtain ⟨h3, h4, p, hp, _⟩ := getV_lt l (i + 1) m r' hg
        refine ⟨by omega, ?_, x :: p, by rw [hp]; rfl, by simp⟩
        have : 9 - i = (9 - (i + 1)) + 1 := by omega
        rw [this, Nat.pow_succ]
        omega
      · cases h
theorem getV_lt64 {l : List UInt8} {n : Nat} {r : List UInt8} (h : getV 0 l = .ok (n, r)) : n < 18446744073709551616 := by
  have := (getV_lt l 0 n r h).2.1
  omega
/-- What was put is got. -/
theorem getV_vb : ∀ (k i n : Nat) (r : List UInt8), k + i = 9 → n < 2 * 128 ^ k → (0 < i → 0 < n) → getV i (vb n ++ r) = .ok (n, r)
  | k, i, n, r, hk, hn, h0 => by
    by_cases h128 : n < 128
    · rw [vb_lt h128]
      have hx : (UInt8.ofNat n).toNat = n := by rw [UInt8.toNat_ofNat']; omega
      show getV i (UInt8.ofNat n :: r) = _
      unfold getV
      rw [if_neg (by omega), hx, if_neg, if_pos h128]
      rintro (⟨rfl, h1⟩ | ⟨h1, h2⟩)
      · obtain rfl : k = 0 := by omega
        simp at hn
        omega
      · have := h0 h1; omega
    · rw [vb_ge h128]
      have hx : (UInt8.ofNat (n % 128 + 128)).toNat = n % 128 + 128 := by rw [UInt8.toNat_ofNat']; omega
      show getV i (UInt8.ofNat (n % 128 + 128) :: (vb (n / 128) ++ r)) = _
      have hk0 : 1 ≤ k := by
        rcases Nat.eq_zero_or_pos k with rfl | h
        · simp at hn; omega
        · exact h
      obtain ⟨k, rfl⟩ : ∃ j, k = j + 1 := ⟨k - 1, by omega⟩
      have ih := getV_vb k (i + 1) (n / 128) r (by omega) (by rw [Nat.pow_succ] at hn; omega) (fun _ => by omega)
      unfold getV
      rw [if_neg (by omega), hx, if_neg (by omega), if_neg (by omega), ih]
      simp only
      rw [show n % 128 + 128 - 128 + 128 * (n / 128) = n by omega]
theorem getV_put {n : Nat} (h : n < 18446744073709551616) (r : List UInt8) : getV 0 (vb n ++ r) = .ok (n, r) := getV_vb 9 0 n r rfl (by omega) (by omega)
/-- Whole numbers, zigzag. -/
def zig (n : Int) : Nat := if 0 ≤ n then 2 * n.toNat else 2 * (-1 - n).toNat + 1
def unzig (u : Nat) : Int := if u % 2 = 0 then ((u / 2 : Nat) : Int) else -1 - ((u / 2 : Nat) : Int)
theorem unzig_zig (n : Int) : unzig (zig n) = n := by
  unfold unzig zig
  split <;> split <;> omega
theorem zig_lt {n : Int} (h1 : -9223372036854775808 ≤ n) (h2 : n ≤ 9223372036854775807) : zig n < 18446744073709551616 := by
  unfold zig
  split <;> omega
theorem unzig_ok {u : Nat} (h : u < 18446744073709551616) : -9223372036854775808 ≤ unzig u ∧ unzig u ≤ 9223372036854775807 := by
  unfold unzig
  split <;> omega
def vall (l : List Int) : List UInt8 := l.flatMap fun n => vb (zig n)
/-- So many whole numbers, and what is left. -/
def getAll : Nat → List UInt8 → Except Nat (List Int × List UInt8)
  | 0, l => .ok ([], l)
  | k + 1, l => match getV 0 l with
    | .error e => .error e
    | .ok (u, r) => match getAll k r with
      | .error e => .error e
      | .ok (ns, r') => .ok (unzig u :: ns, r')
theorem getAll_put : ∀ (ns : List Int) (r : List UInt8), (∀ n ∈ ns, -9223372036854775808 ≤ n ∧ n ≤ 9223372036854775807) → getAll ns.length (vall ns ++ r) = .ok (ns, r)
  | [], r, _ => rfl
  | n :: ns, r, h => by
    have hn := h n (List.mem_cons_self ..)
    have ih := getAll_put ns r fun m hm => h m (List.mem_cons_of_mem _ hm)
    show getAll (ns.length + 1) ((vb (zig n) ++ vall ns) ++ r) = _
    unfold getAll
    have e := getV_put (zig_lt hn.1 hn.2) (vall ns ++ r)
    rw [List.append_assoc, e]
    simp only [ih, unzig_zig]
theorem getAll_len : ∀ (k : Nat) (l : List UInt8) (ns : List Int) (r : List UInt8), getAll k l = .ok (ns, r) → ns.length = k ∧ (∀ n ∈ ns, -9223372036854775808 ≤ n ∧ n ≤ 9223372036854775807) ∧ ∃ p, l = p ++ r
  | 0, l, ns, r, h => by
    unfold getAll at h
    injection h with h
    injection h with h1 h2
    subst h1 h2
    exact ⟨rfl, nofun, [], rfl⟩
  | k + 1, l, ns, r, h => by
    unfold getAll at h
    split at h
    · cases h
    · rename_i u r1 hu
      split at h
      · cases h
      · rename_i ns1 r2 hr
        injection h with h
        injection h with h1 h2
        subst h1 h2
        obtain ⟨h3, h4, p2, h5⟩ := getAll_len k r1 ns1 r2 hr
        obtain ⟨_, _, p1, h6, _⟩ := getV_lt l 0 u r1 hu
        refine ⟨by rw [List.length_cons, h3], fun n hn => ?_, p1 ++ p2, by rw [h6, h5, List.append_assoc]⟩
        rcases List.mem_cons.1 hn with rfl | hn
        · exact unzig_ok (getV_lt64 hu)
        · exact h4 n hn
end Go.Proofs.YtkdcnhnaiknaaaaGreat

/- Posts as bytes, plainly. -/
namespace Go.Proofs.YtkdcnhnaiknaaaaGreat

/-- A post: a document's place, where the term stands in it. -/
abbrev Po := Int × List Int
/-- May a row of posts be? -/
def okPs (l : List Po) : Bool := risB 65536 (-1) (l.map (·.1)) && l.all fun p => decide (0 < p.2.length) && risB 1048576 (-1) p.2
def stepsL : Int → List Int → List UInt8
  | _, [] => []
  | last, n :: t => vb (n - last - 1).toNat ++ stepsL n t
def onePo (last : Int) (p : Po) : List UInt8 := vb (p.1 - last - 1).toNat ++ vb p.2.length ++ stepsL (-1) p.2
def blockPo : Int → List Po → List UInt8
  | _, [] => []
  | last, p :: t => onePo last p ++ blockPo p.1 t
def lastPo : Int → List Po → Int
  | last, [] => last
  | _, p :: t => lastPo p.1 t
/-- The heads of parts. -/
def headPo : Int → List (List Po) → List UInt8
  | _, [] => []
  | last, b :: bs => vb (lastPo last b).toNat ++ vb (blockPo last b).length ++ headPo (lastPo last b) bs
def encPs (l : List Po) : List UInt8 := vb l.length ++ headPo (-1) (chunkL 32 l) ++ blockPo (-1) l
theorem blockPo_app : ∀ (a b : List Po) (last : Int), blockPo last (a ++ b) = blockPo last a ++ blockPo (lastPo last a) b
  | [], b, last => rfl
  | p :: t, b, last => by
    show onePo last p ++ blockPo p.1 (t ++ b) = _
    rw [blockPo_app t b]
    show _ = (onePo last p ++ blockPo p.1 t) ++ blockPo (lastPo p.1 t) b
    rw [List.append_assoc]
theorem lastPo_app : ∀ (a b : List Po) (last : Int), lastPo last (a ++ b) = lastPo (lastPo last a) b
  | [], b, last => rfl
  | p :: t, b, last => lastPo_app t b p.1
theorem headPo_app : ∀ (a b : List (List Po)) (last : Int), headPo last (a ++ b) = headPo last a ++ headPo (lastPo last (a.flatMap id)) b
  | [], b, last => rfl
  | p :: t, b, last => by
    show vb (lastPo last p).toNat ++ vb (blockPo last p).length ++ headPo (lastPo last p) (t ++ b) = _
    rw [headPo_app t b, List.flatMap_cons]
    show _ = (vb (lastPo last p).toNat ++ vb (blockPo last p).length ++ headPo (lastPo last p) t) ++ headPo (lastPo last (p ++ t.flatMap id)) b
    rw [lastPo_app, List.append_assoc _ _ (headPo _ b)]
theorem stepsL_app : ∀ (a : List Int) (x last : Int), stepsL last (a ++ [x]) = stepsL last a ++ vb (x - (a.getLast?.getD last) - 1).toNat
  | [], x, last => by simp [stepsL]
  | y :: t, x, last => by
    show vb _ ++ stepsL y (t ++ [x]) = _
    rw [stepsL_app t x y]
    have : (y :: t).getLast?.getD last = t.getLast?.getD y := by
      cases t with
      | nil => rfl
      | cons z u => rw [List.getLast?_cons_cons]; cases h : (z :: u).getLast? with
        | none => simp at h
        | some v => rfl
    rw [this]
    show _ = (vb _ ++ stepsL y t) ++ _
    rw [List.append_assoc]
theorem risB_all {n : Int} : ∀ {l : List Int} {lo : Int}, risB n lo l = true → ∀ x ∈ l, lo < x ∧ x < n
  | [], lo, _ => nofun
  | y :: t, lo, h => by
    unfold risB at h
    rw [Bool.and_eq_true, Bool.and_eq_true] at h
    have h1 := of_decide_eq_true h.1.1
    have h2 := of_decide_eq_true h.1.2
    intro x hx
    rcases List.mem_cons.1 hx with rfl | hx
    · exact ⟨h1, h2⟩
    · have := risB_all h.2 x hx
      omega
/-- Steps up to a number. -/
theorem risB_len {n : Int} : ∀ {l : List Int} {lo : Int}, risB n lo l = true → lo < n → (l.length : Int) < n - lo
  | [], lo, _, h => by simp; omega
  | y :: t, lo, h, _ => by
    unfold risB at h
    rw [Bool.and_eq_true, Bool.and_eq_true] at h
    have h1 := of_decide_eq_true h.1.1
    have h2 := of_decide_eq_true h.1.2
    have := risB_len h.2 h2
    rw [List.length_cons]
    omega
theorem vb_small {n k : Nat} (h : n < 128 ^ k) (hk : 1 ≤ k) : (vb n).length ≤ k := by
  have := vb_len k n h
  omega
theorem stepsL_len : ∀ {l : List Int} {lo : Int}, risB 1048576 lo l = true → -1 ≤ lo → (stepsL lo l).length ≤ 3 * l.length
  | [], lo, _, _ => by simp [stepsL]
  | y :: t, lo, h, hlo => by
    unfold risB at h
    rw [Bool.and_eq_true, Bool.and_eq_true] at h
    have h1 := of_decide_eq_true h.1.1
    have h2 := of_decide_eq_true h.1.2
    have ih := stepsL_len h.2 (by omega)
    have hv := vb_small (n := (y - lo - 1).toNat) (k := 3) (by have : (128 : Nat) ^ 3 = 2097152 := by decide
                                                               omega) (by omega)
    show (vb _ ++ stepsL y t).length ≤ _
    rw [List.length_append, List.length_cons]
    omega
end Go.Proofs.YtkdcnhnaiknaaaaGreat

