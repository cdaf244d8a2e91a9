/- A disk, plainly: what the document says of each call. -/
import Derived.Test.YticnncgbfpgeaaaDkI
namespace Go.Proofs.Yticnncgbfpgeaaa
open Go.RowKit Go.Maps

/-- Without the one of a name; with one put at its place. -/
def withoutG {α : Type} (nm : α → List UInt8) (s : List UInt8) (l : List α) : List α := l.filter fun x => !decide (nm x = s)
def insG {α : Type} (nm : α → List UInt8) (f : α) : List α → List α
  | [] => [f]
  | x :: xs => if decide (nm f < nm x) then f :: x :: xs else x :: insG nm f xs
def withG {α : Type} (nm : α → List UInt8) (f : α) (l : List α) : List α := insG nm f (withoutG nm (nm f) l)
section
variable {α β : Type} {nm : α → List UInt8}
theorem mem_without {s : List UInt8} {l : List α} {x : α} : x ∈ withoutG nm s l ↔ x ∈ l ∧ nm x ≠ s := by
  unfold withoutG
  rw [List.mem_filter]
  simp
theorem mem_ins {f x : α} : ∀ {l : List α}, x ∈ insG nm f l ↔ x = f ∨ x ∈ l
  | [] => by simp [insG]
  | y :: ys => by
    unfold insG
    split
    · simp
    · rw [List.mem_cons, mem_ins, List.mem_cons]
      constructor
      · rintro (h | h | h)
        · exact .inr (.inl h)
        · exact .inl h
        · exact .inr (.inr h)
      · rintro (h | h | h)
        · exact .inr (.inl h)
        · exact .inl h
        · exact .inr (.inr h)
theorem mem_with {f x : α} {l : List α} : x ∈ withG nm f l ↔ x = f ∨ (x ∈ l ∧ nm x ≠ nm f) := by
  unfold withG
  rw [mem_ins, mem_without]
def Up (nm : α → List UInt8) (l : List α) : Prop := l.Pairwise fun a b => nm a < nm b
theorem Up.without {l : List α} (h : Up nm l) (s : List UInt8) : Up nm (withoutG nm s l) := List.Pairwise.filter _ h
theorem lt_of_not {a b : List UInt8} (h : ¬ a < b) (hne : a ≠ b) : b < a :=
  Decidable.byContradiction fun h2 => hne (List.le_antisymm (List.not_lt.1 h2) (List.not_lt.1 h))
theorem Up.ins {f : α} : ∀ {l : List α}, Up nm l → (∀ x ∈ l, nm x ≠ nm f) → Up nm (insG nm f l)
  | [], _, _ => by unfold insG Up; simp
  | y :: ys, h, hne => by
    unfold Up at h
    rw [List.pairwise_cons] at h
    unfold insG
    split
    · rename_i hlt
      have hlt := of_decide_eq_true hlt
      unfold Up
      rw [List.pairwise_cons, List.pairwise_cons]
      refine ⟨fun z hz => ?_, h⟩
      rcases List.mem_cons.1 hz with rfl | hz
      · exact hlt
      · exact List.lt_trans hlt (h.1 z hz)
    · rename_i hlt
      have hlt : ¬ nm f < nm y := fun hh => hlt (decide_eq_true hh)
      unfold Up
      rw [List.pairwise_cons]
      refine ⟨fun z hz => ?_, Up.ins h.2 fun x hx => hne x (List.mem_cons_of_mem _ hx)⟩
      rcases mem_ins.1 hz with rfl | hz
      · exact lt_of_not hlt (fun e => hne y (List.mem_cons_self ..) e.symm)
      · exact h.1 z hz
theorem Up.with {f : α} {l : List α} (h : Up nm l) : Up nm (withG nm f l) := (h.without _).ins fun x hx => (mem_without.1 hx).2
theorem Up.nodup {l : List α} (h : Up nm l) : (l.map nm).Nodup := by
  unfold Up at h
  rw [List.Nodup, List.pairwise_map]
  refine List.Pairwise.imp ?_ h
  intro a b h e
  rw [e] at h
  exact List.lt_irrefl _ h
theorem Up.le {l : List α} (h : Up nm l) : (l.map nm).Pairwise fun x y => x ≤ y := by
  rw [List.pairwise_map]
  exact List.Pairwise.imp (fun h => List.le_of_lt h) h
theorem Up.uniq {l : List α} (h : Up nm l) {x y : α} (hx : x ∈ l) (hy : y ∈ l) (he : nm x = nm y) : x = y := inj_of_map nm h.nodup hx hy he
/-- Rising lists with the same members are one. -/
theorem Up.ext {a b : List α} (ha : Up nm a) (hb : Up nm b) (h : ∀ x, x ∈ a ↔ x ∈ b) : a = b := by
  have hp : a.Perm b := (List.perm_ext_iff_of_nodup (nodup_of_map nm ha.nodup) (nodup_of_map nm hb.nodup)).2 h
  exact List.Perm.eq_of_pairwise (fun x y hx hy h k => (List.lt_irrefl _ (List.lt_trans h k)).elim) ha hb hp
theorem map_without {nm' : β → List UInt8} {g : α → β} (hg : ∀ x, nm' (g x) = nm x) (s : List UInt8) (l : List α) : (withoutG nm s l).map g = withoutG nm' s (l.map g) := by
  unfold withoutG
  rw [List.filter_map]
  congr 1
  apply List.filter_congr
  intro x _
  simp [hg]
theorem map_ins {nm' : β → List UInt8} {g : α → β} (hg : ∀ x, nm' (g x) = nm x) (f : α) : ∀ l : List α, (insG nm f l).map g = insG nm' (g f) (l.map g)
  | [] => rfl
  | y :: ys => by
    unfold insG
    rw [List.map_cons]
    simp only [hg]
    split
    · rfl
    · rw [List.map_cons, map_ins hg f ys]
theorem map_with {nm' : β → List UInt8} {g : α → β} (hg : ∀ x, nm' (g x) = nm x) (f : α) (l : List α) : (withG nm f l).map g = withG nm' (g f) (l.map g) := by
  unfold withG
  rw [map_ins hg, map_without hg, hg]
theorem len_ins {f : α} : ∀ {l : List α}, (insG nm f l).length = l.length + 1
  | [] => rfl
  | y :: ys => by
    unfold insG
    split
    · rfl
    · rw [List.length_cons, len_ins, List.length_cons]
theorem len_without_le (s : List UInt8) (l : List α) : (withoutG nm s l).length ≤ l.length := List.length_filter_le _ _
theorem len_without_lt {s : List UInt8} {l : List α} {x : α} (hx : x ∈ l) (hs : nm x = s) : (withoutG nm s l).length < l.length :=
  List.length_filter_lt_length_iff_exists.2 ⟨x, hx, by simp [hs]⟩
theorem without_no {s : List UInt8} {l : List α} (h : ∀ x ∈ l, nm x ≠ s) : withoutG nm s l = l := by
  unfold withoutG
  rw [List.filter_eq_self]
  intro x hx
  simp [h x hx]
theorem len_with_in {f x : α} {l : List α} (hx : x ∈ l) (hs : nm x = nm f) : (withG nm f l).length ≤ l.length := by
  unfold withG
  rw [len_ins]
  exact len_without_lt hx hs
theorem len_with_le (f : α) (l : List α) : (withG nm f l).length ≤ l.length + 1 := by
  unfold withG
  rw [len_ins]
  exact Nat.add_le_add_right (len_without_le _ _) 1
end

/-- A file, plainly: its name, its bytes, how many are durable. -/
abbrev PF := List UInt8 × List UInt8 × Nat
structure PD where
  L : List PF
  quota : Nat
  armed : Nat
  stopped : Bool
def fname (f : PF) : List UInt8 := f.1
def PD.find (P : PD) (s : List UInt8) : Option PF := P.L.find? fun f => decide (fname f = s)
def usedP (L : List PF) : Nat := (L.map fun f => f.2.1.length).sum
/-- What is left of a disk whose writing call stops it, or does not. -/
def PD.stops (P : PD) : PD := { P with armed := 0, stopped := true }
def PD.goes (P : PD) (L : List PF) : PD := { P with armed := P.armed - 1, L := L }
def fullM (P : PD) (n : Nat) : Bool := decide (0 < P.quota) && decide (0 < n) && decide ((P.quota : Int) - usedP P.L < n)
def putM (P : PD) (f : PF) (b : List UInt8) : PD × Nat :=
  if 67108864 < f.2.1.length + b.length then (P, 2) else if fullM P b.length then (P, 62) else if P.armed = 1 then (P.stops, 63) else (P.goes (withG fname (f.1, f.2.1 ++ b, f.2.2) P.L), 0)
def appendM (P : PD) (s b : List UInt8) : PD × Nat :=
  if namedM s then if P.stopped then (P, 63) else match P.find s with
    | some f => putM P f b
    | none => if 1024 ≤ P.L.length then (P, 3) else putM P (s, [], 0) b
  else (P, 60)
def writesM (P : PD) (ns : List (List UInt8)) (s : List UInt8) (k : PF → List PF) : PD × Nat :=
  if ns.all namedM then if P.stopped then (P, 63) else match P.find s with
    | some f => if P.armed = 1 then (P.stops, 63) else (P.goes (k f), 0)
    | none => (P, 61)
  else (P, 60)
def syncM (P : PD) (s : List UInt8) : PD × Nat := writesM P [s] s fun f => withG fname (f.1, f.2.1, f.2.1.length) P.L
def renameM (P : PD) (s t : List UInt8) : PD × Nat := writesM P [t, s] s fun f => withG fname (t, f.2.1, f.2.2) (withoutG fname s P.L)
def removeM (P : PD) (s : List UInt8) : PD × Nat := writesM P [s] s fun _ => withoutG fname s P.L
def readM (P : PD) (s : List UInt8) (fr n : Int) : List UInt8 × Nat :=
  if namedM s then if P.stopped then ([], 63) else match P.find s with
    | some f => if fr < 0 ∨ f.2.1.length < fr ∨ n < 0 then ([], 5) else ((f.2.1.drop fr.toNat).take n.toNat, 0)
    | none => ([], 61)
  else ([], 60)
def sizeM (P : PD) (s : List UInt8) : Nat × Bool := if P.stopped then (0, false) else match P.find s with
  | some f => (f.2.1.length, true)
  | none => (0, false)
def durM (P : PD) (s : List UInt8) : Nat := match P.find s with
  | some f => f.2.2
  | none => 0
def listM (P : PD) : List (List UInt8) := if P.stopped then [] else P.L.map fname
def leftM (f : PF) (k : Option Int) : Nat := match k with
  | some k => f.2.2 + (k % ((f.2.1.length : Int) - f.2.2 + 1)).toNat
  | none => f.2.2
def cutM (f : PF) (n : Nat) : PF := (f.1, f.2.1.take n, n)
def keptM (L : List PF) (keep : List Int) : List PF := L.mapIdx fun j f => cutM f (leftM f keep[j]?)
def restartM (P : PD) (keep : List Int) : PD := ⟨keptM P.L keep, P.quota, 0, false⟩
theorem find_some {P : PD} {s : List UInt8} {f : PF} (h : P.find s = some f) : f ∈ P.L ∧ f.1 = s := by
  unfold PD.find at h
  have h2 := List.find?_some h
  exact ⟨List.mem_of_find?_eq_some h, of_decide_eq_true h2⟩
theorem find_none {P : PD} {s : List UInt8} (h : P.find s = none) : ∀ f ∈ P.L, f.1 ≠ s := by
  unfold PD.find at h
  intro f hf
  intro he
  exact List.find?_eq_none.1 h f hf (decide_eq_true he)
theorem find_of {P : PD} (hu : Up fname P.L) {f : PF} (h : f ∈ P.L) : P.find f.1 = some f := by
  cases hf : P.find f.1 with
  | none => exact (find_none hf f h rfl).elim
  | some g =>
    obtain ⟨h1, h2⟩ := find_some hf
    rw [hu.uniq h1 h h2]
theorem find_no {P : PD} {s : List UInt8} (h : ∀ f ∈ P.L, f.1 ≠ s) : P.find s = none := by
  cases hf : P.find s with
  | none => rfl
  | some g =>
    obtain ⟨h1, h2⟩ := find_some hf
    exact (h g h1 h2).elim
end Go.Proofs.Yticnncgbfpgeaaa
