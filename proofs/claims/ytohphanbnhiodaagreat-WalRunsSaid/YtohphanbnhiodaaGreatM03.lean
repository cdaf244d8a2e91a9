/- A disk, plainly: what the document says of each call. -/
import Derived.Test.YtohphanbnhiodaaGreatM02
import Derived.Test.YtohphanbnhiodaaGreatM01
import Derived.Deep.CutRange
import Derived.Deep.DeepCutAuto
import Derived.Deep.RegionHeld3
import Derived.Deep.QuietTactic
import Derived.BigQuiet
set_option linter.unusedSimpArgs false
set_option linter.unusedVariables false
namespace Go.Proofs.YtohphanbnhiodaaGreat
open Go.RowKit Go.Maps

/-- Without the one of a name; with one put at its place. -/
def withoutG {α : Type} (nm : α → List UInt8) (s : List UInt8) (l : List α) : List α := l.filter fun x => !decide (nm x = s)
def insG {α : Type} (nm : α → List UInt8) (f : α) : List α → List α
  | [] => [f]
  | x :: xs => if decide (nm f < nm x) then f :: x :: xs else x :: insG nm f xs
def withG {α : Type} (nm : α → List UInt8) (f : α) (l : List α) : List α := insG nm f (withoutG nm (nm f) l)
section
variable {α β : Type} {nm : α → List UInt8}
theorem mem_without {s : List UInt8} {l : List α} {x : α} : x ∈ withoutG nm s l ↔ x ∈ l ∧ nm x ≠ s := by
  unfold withoutG
  rw [List.mem_filter]
  simp
theorem mem_ins {f x : α} : ∀ {l : List α}, x ∈ insG nm f l ↔ x = f ∨ x ∈ l
  | [] => by simp [insG]
  | y :: ys => by
    unfold insG
    split
    · simp
    · rw [List.mem_cons, mem_ins, List.mem_cons]
      constructor
      · rintro (h | h | h)
        · exact .inr (.inl h)
        · exact .inl h
        · exact .inr (.inr h)
      · rintro (h | h | h)
        · exact .inr (.inl h)
        · exact .inl h
        · exact .inr (.inr h)
theorem mem_with {f x : α} {l : List α} : x ∈ withG nm f l ↔ x = f ∨ (x ∈ l ∧ nm x ≠ nm f) := by
  unfold withG
  rw [mem_ins, mem_without]
def Up (nm : α → List UInt8) (l : List α) : Prop := l.Pairwise fun a b => nm a < nm b
theorem Up.without {l : List α} (h : Up nm l) (s : List UInt8) : Up nm (withoutG nm s l) := List.Pairwise.filter _ h
theorem lt_of_not {a b : List UInt8} (h : ¬ a < b) (hne : a ≠ b) : b < a :=
  Decidable.byContradiction fun h2 => hne (List.le_antisymm (List.not_lt.1 h2) (List.not_lt.1 h))
theorem Up.ins {f : α} : ∀ {l : List α}, Up nm l → (∀ x ∈ l, nm x ≠ nm f) → Up nm (insG nm f l)
  | [], _, _ => by unfold insG Up; simp
  | y :: ys, h, hne => by
    unfold Up at h
    rw [List.pairwise_cons] at h
    unfold insG
    split
    · rename_i hlt
      have hlt := of_decide_eq_true hlt
      unfold Up
      rw [List.pairwise_cons, List.pairwise_cons]
      refine ⟨fun z hz => ?_, h⟩
      rcases List.mem_cons.1 hz with rfl | hz
      · exact hlt
      · exact List.lt_trans hlt (h.1 z hz)
    · rename_i hlt
      have hlt : ¬ nm f < nm y := fun hh => hlt (decide_eq_true hh)
      unfold Up
      rw [List.pairwise_cons]
      refine ⟨fun z hz => ?_, Up.ins h.2 fun x hx => hne x (List.mem_cons_of_mem _ hx)⟩
      rcases mem_ins.1 hz with rfl | hz
      · exact lt_of_not hlt (fun e => hne y (List.mem_cons_self ..) e.symm)
      · exact h.1 z hz
theorem Up.with {f : α} {l : List α} (h : Up nm l) : Up nm (withG nm f l) := (h.without _).ins fun x hx => (mem_without.1 hx).2
theorem Up.nodup {l : List α} (h : Up nm l) : (l.map nm).Nodup := by
  unfold Up at h
  rw [List.Nodup, List.pairwise_map]
  refine List.Pairwise.imp ?_ h
  intro a b h e
  rw [e] at h
  exact List.lt_irrefl _ h
theorem Up.le {l : List α} (h : Up nm l) : (l.map nm).Pairwise fun x y => x ≤ y := by
  rw [List.pairwise_map]
  exact List.Pairwise.imp (fun h => List.le_of_lt h) h
theorem Up.uniq {l : List α} (h : Up nm l) {x y : α} (hx : x ∈ l) (hy : y ∈ l) (he : nm x = nm y) : x = y := inj_of_map nm h.nodup hx hy he
/-- Rising lists with the same members are one. -/
theorem Up.ext {a b : List α} (ha : Up nm a) (hb : Up nm b) (h : ∀ x, x ∈ a ↔ x ∈ b) : a = b := by
  have hp : a.Perm b := (List.perm_ext_iff_of_nodup (nodup_of_map nm ha.nodup) (nodup_of_map nm hb.nodup)).2 h
  exact List.Perm.eq_of_pairwise (fun x y hx hy h k => (List.lt_irrefl _ (List.lt_trans h k)).elim) ha hb hp
theorem map_without {nm' : β → List UInt8} {g : α → β} (hg : ∀ x, nm' (g x) = nm x) (s : List UInt8) (l : List α) : (withoutG nm s l).map g = withoutG nm' s (l.map g) := by
  unfold withoutG
  rw [List.filter_map]
  congr 1
  apply List.filter_congr
  intro x _
  simp [hg]
theorem map_ins {nm' : β → List UInt8} {g : α → β} (hg : ∀ x, nm' (g x) = nm x) (f : α) : ∀ l : List α, (insG nm f l).map g = insG nm' (g f) (l.map g)
  | [] => rfl
  | y :: ys => by
    unfold insG
    rw [List.map_cons]
    simp only [hg]
    split
    · rfl
    · rw [List.map_cons, map_ins hg f ys]
theorem map_with {nm' : β → List UInt8} {g : α → β} (hg : ∀ x, nm' (g x) = nm x) (f : α) (l : List α) : (withG nm f l).map g = withG nm' (g f) (l.map g) := by
  unfold withG
  rw [map_ins hg, map_without hg, hg]
theorem len_ins {f : α} : ∀ {l : List α}, (insG nm f l).length = l.length + 1
  | [] => rfl
  | y :: ys => by
    unfold insG
    split
    · rfl
    · rw [List.length_cons, len_ins, List.length_cons]
theorem len_without_le (s : List UInt8) (l : List α) : (withoutG nm s l).length ≤ l.length := List.length_filter_le _ _
theorem len_without_lt {s : List UInt8} {l : List α} {x : α} (hx : x ∈ l) (hs : nm x = s) : (withoutG nm s l).length < l.length :=
  List.length_filter_lt_length_iff_exists.2 ⟨x, hx, by simp [hs]⟩
theorem without_no {s : List UInt8} {l : List α} (h : ∀ x ∈ l, nm x ≠ s) : withoutG nm s l = l := by
  unfold withoutG
  rw [List.filter_eq_self]
  intro x hx
  simp [h x hx]
theorem len_with_in {f x : α} {l : List α} (hx : x ∈ l) (hs : nm x = nm f) : (withG nm f l).length ≤ l.length := by
  unfold withG
  rw [len_ins]
  exact len_without_lt hx hs
theorem len_with_le (f : α) (l : List α) : (withG nm f l).length ≤ l.length + 1 := by
  unfold withG
  rw [len_ins]
  exact Nat.add_le_add_right (len_without_le _ _) 1
end

/-- A file, plainly: its name, its bytes, how many are durable. -/
abbrev PF := List UInt8 × List UInt8 × Nat
structure PD where
  L : List PF
  quota : Nat
  armed : Nat
  stopped : Bool
def fname (f : PF) : List UInt8 := f.1
def PD.find (P : PD) (s : List UInt8) : Option PF := P.L.find? fun f => decide (fname f = s)
def usedP (L : List PF) : Nat := (L.map fun f => f.2.1.length).sum
/-- What is left of a disk whose writing call stops it, or does not. -/
def PD.stops (P : PD) : PD := { P with armed := 0, stopped := true }
def PD.goes (P : PD) (L : List PF) : PD := { P with armed := P.armed - 1, L := L }
def fullM (P : PD) (n : Nat) : Bool := decide (0 < P.quota) && decide (0 < n) && decide ((P.quota : Int) - usedP P.L < n)
def putM (P : PD) (f : PF) (b : List UInt8) : PD × Nat :=
  if 67108864 < f.2.1.length + b.length then (P, 2) else if fullM P b.length then (P, 62) else if P.armed = 1 then (P.stops, 63) else (P.goes (withG fname (f.1, f.2.1 ++ b, f.2.2) P.L), 0)
def appendM (P : PD) (s b : List UInt8) : PD × Nat :=
  if namedM s then if P.stopped then (P, 63) else match P.find s with
    | some f => putM P f b
    | none => if 1024 ≤ P.L.length then (P, 3) else putM P (s, [], 0) b
  else (P, 60)
def writesM (P : PD) (ns : List (List UInt8)) (s : List UInt8) (k : PF → List PF) : PD × Nat :=
  if ns.all namedM then if P.stopped then (P, 63) else match P.find s with
    | some f => if P.armed = 1 then (P.stops, 63) else (P.goes (k f), 0)
    | none => (P, 61)
  else (P, 60)
def syncM (P : PD) (s : List UInt8) : PD × Nat := writesM P [s] s fun f => withG fname (f.1, f.2.1, f.2.1.length) P.L
def renameM (P : PD) (s t : List UInt8) : PD × Nat := writesM P [t, s] s fun f => withG fname (t, f.2.1, f.2.2) (withoutG fname s P.L)
def removeM (P : PD) (s : List UInt8) : PD × Nat := writesM P [s] s fun _ => withoutG fname s P.L
def readM (P : PD) (s : List UInt8) (fr n : Int) : List UInt8 × Nat :=
  if namedM s then if P.stopped then ([], 63) else match P.find s with
    | some f => if fr < 0 ∨ f.2.1.length < fr ∨ n < 0 then ([], 5) else ((f.2.1.drop fr.toNat).take n.toNat, 0)
    | none => ([], 61)
  else ([], 60)
def sizeM (P : PD) (s : List UInt8) : Nat × Bool := if P.stopped then (0, false) else match P.find s with
  | some f => (f.2.1.length, true)
  | none => (0, false)
def durM (P : PD) (s : List UInt8) : Nat := match P.find s with
  | some f => f.2.2
  | none => 0
def listM (P : PD) : List (List UInt8) := if P.stopped then [] else P.L.map fname
def leftM (f : PF) (k : Option Int) : Nat := match k with
  | some k => f.2.2 + (k % ((f.2.1.length : Int) - f.2.2 + 1)).toNat
  | none => f.2.2
def cutM (f : PF) (n : Nat) : PF := (f.1, f.2.1.take n, n)
def keptM (L : List PF) (keep : List Int) : List PF := L.mapIdx fun j f => cutM f (leftM f keep[j]?)
def restartM (P : PD) (keep : List Int) : PD := ⟨keptM P.L keep, P.quota, 0, false⟩
theorem find_some {P : PD} {s : List UInt8} {f : PF} (h : P.find s = some f) : f ∈ P.L ∧ f.1 = s := by
  unfold PD.find at h
  have h2 := List.find?_some h
  exact ⟨List.mem_of_find?_eq_some h, of_decide_eq_true h2⟩
theorem find_none {P : PD} {s : List UInt8} (h : P.find s = none) : ∀ f ∈ P.L, f.1 ≠ s := by
  unfold PD.find at h
  intro f hf
  intro he
  exact List.find?_eq_none.1 h f hf (decide_eq_true he)
theorem find_of {P : PD} (hu : Up fname P.L) {f : PF} (h : f ∈ P.L) : P.find f.1 = some f := by
  cases hf : P.find f.1 with
  | none => exact (find_none hf f h rfl).elim
  | some g =>
    obtain ⟨h1, h2⟩ := find_some hf
    rw [hu.uniq h1 h h2]
theorem find_no {P : PD} {s : List UInt8} (h : ∀ f ∈ P.L, f.1 ≠ s) : P.find s = none := by
  cases hf : P.find s with
  | none => rfl
  | some g =>
    obtain ⟨h1, h2⟩ := find_some hf
    exact (h g h1 h2).elim
end Go.Proofs.YtohphanbnhiodaaGreat

/- A disk in memory and a disk, plainly; the calls that turn little. -/
namespace Go.Proofs.YtohphanbnhiodaaGreat
open Go.RowKit Go.Maps

/-- The disk at d with the map m and the files E is P. -/
structure DE (w : World) (base d m : Nat) (P : PD) (E : List Ent) : Prop where
  row : DRow w d m P.quota P.armed P.stopped
  fs : FS w base m E
  low : base ≤ d
  up : Up Ent.name E
  cnt : E.length ≤ 1024
  lens : ∀ e ∈ E, e.b.length ≤ 67108864
  pl : E.map Ent.pl = P.L
  hq : P.quota ≤ 9223372036854775807
  ha : P.armed ≤ 9223372036854775807
/-- Its blocks. -/
def Foot (d m : Nat) (E : List Ent) (k : Nat) : Prop := k = d ∨ k = m ∨ ∃ e ∈ E, k = e.f ∨ ∃ a, e.A = some a ∧ a.block = k
/-- The disk at d is P; it has the blocks F. -/
def DS (w : World) (base d : Nat) (P : PD) (F : Nat → Prop) : Prop := ∃ m E, DE w base d m P E ∧ ∀ k, F k ↔ Foot d m E k
/-- A call of the disk at d, of the blocks F, has made P of it. -/
def DNext (base d : Nat) (F : Nat → Prop) (w : World) (P : PD) (w' : World) : Prop := ∃ F', DS w' base d P F' ∧ Chg F w w' ∧ ∀ k, F' k → F k ∨ w.heap.size ≤ k
section
variable {w w1 : World} {base d m : Nat} {P : PD} {E : List Ent} {F : Nat → Prop}
theorem DE.used (h : DE w base d m P E) : usedM E = usedP P.L := by
  rw [← h.pl]
  unfold usedM usedP
  rw [List.map_map]
  rfl
theorem used_bd : ∀ (E : List Ent), (∀ e ∈ E, e.b.length ≤ 67108864) → usedM E ≤ E.length * 67108864
  | [], _ => Nat.zero_le _
  | e :: E, h => by
    have := used_bd E fun x hx => h x (List.mem_cons_of_mem _ hx)
    have := h e (List.mem_cons_self ..)
    unfold usedM at *
    simp only [List.map_cons, List.sum_cons, List.length_cons]
    omega
theorem DE.used_le (h : DE w base d m P E) : usedM E ≤ 68719476736 := Nat.le_trans (used_bd E h.lens) (by have := h.cnt; omega)
theorem DE.find_in (h : DE w base d m P E) {e : Ent} (he : e ∈ E) : P.find e.name = some e.pl := by
  have h2 : Up fname P.L := by
    rw [← h.pl]
    unfold Up
    rw [List.pairwise_map]
    exact h.up
  exact find_of h2 (f := e.pl) (by rw [← h.pl]; exact List.mem_map.2 ⟨e, he, rfl⟩)
theorem DE.find_out (h : DE w base d m P E) {s : List UInt8} (hn : ∀ e ∈ E, e.name ≠ s) : P.find s = none := find_no (fun f hf => by
  rw [← h.pl] at hf
  obtain ⟨e, he, rfl⟩ := List.mem_map.1 hf
  exact hn e he)
set_option maxRecDepth 100000 in
theorem key_str {s : List UInt8} (hs : s.length ≤ 9223372036854775807) : keyOf Tryz.prog 9 (str s) = some (.string s) := WideMaps.keyOf_string_mk (P := Tryz.prog) Tryz.underlying9 (s := ⟨s.toArray⟩) (by rw [ByteArray.size_mk_toArray]; exact hs)
set_option maxRecDepth 100000 in
theorem DE.lookup (h : DE w base d m P E) (s : List UInt8) (hs : s.length ≤ 9223372036854775807) (W : World) (hW : W.heap[m]? = w.heap[m]?) :
    (∃ e ∈ E, e.name = s ∧ (Instr.lookup 71 (.map (some m)) (str s) true).run Tryz.prog W = .ok (.tuple #[.pointer (some ⟨e.f, 0, none⟩), .bool true]) W) ∨
    ((∀ e ∈ E, e.name ≠ s) ∧ (Instr.lookup 71 (.map (some m)) (str s) true).run Tryz.prog W = .ok (.tuple #[.pointer none, .bool false]) W) := by
  obtain ⟨L, hL, hmem, _⟩ := h.fs.map
  rcases (hL.keep hW).look keyS Tryz.underlying71 (x := str s) (key_str hs) (by kernel_rfl : (zeroValue 102).run Tryz.prog W = .ok (.pointer none) W) true with ⟨v, hv, hrun⟩ | ⟨hno, hrun⟩
  · obtain ⟨e, he, hkv⟩ := (hmem _).1 hv
    unfold Ent.kv at hkv
    injection hkv with h1 h2
    subst h2
    exact .inl ⟨e, he, (str_inj h1).symm, hrun⟩
  · refine .inr ⟨fun e he hs => hno e.kv ((hmem _).2 ⟨e, he, rfl⟩) (by rw [← hs]; rfl), hrun⟩
theorem DE.lt (h : DE w base d m P E) {k : Nat} (hk : Foot d m E k) : k < w.heap.size := by
  rcases hk with rfl | rfl | ⟨e, he, rfl | ⟨a, ha, rfl⟩⟩
  · exact Row.lt h.row
  · obtain ⟨L, hL, _⟩ := h.fs.map
    exact hL.lt
  · exact (h.fs.ok e he).row.lt
  · exact (h.fs.ok e he).buf.lt a ha
theorem DE.base_le (h : DE w base d m P E) {k : Nat} (hk : Foot d m E k) : base ≤ k := by
  rcases hk with rfl | rfl | ⟨e, he, rfl | ⟨a, ha, rfl⟩⟩
  · exact h.low
  · exact h.fs.low
  · exact (h.fs.ok e he).low
  · exact (h.fs.ok e he).buf.base_le a ha
theorem DS.lt (h : DS w base d P F) {k : Nat} (hk : F k) : k < w.heap.size := by
  obtain ⟨m, E, hD, hF⟩ := h
  exact hD.lt ((hF k).1 hk)
theorem DS.base_le (h : DS w base d P F) {k : Nat} (hk : F k) : base ≤ k := by
  obtain ⟨m, E, hD, hF⟩ := h
  exact hD.base_le ((hF k).1 hk)
theorem EOk.keep {e : Ent} (h : EOk w base e) (hf : w1.heap[e.f]? = w.heap[e.f]?) (ha : ∀ a, e.A = some a → w1.heap[a.block]? = w.heap[a.block]?) : EOk w1 base e :=
  ⟨h.row.keep hf, h.buf.keep fun g hg => ha ⟨g, 0, none⟩ hg, h.low, h.sure⟩
theorem FS.keep (h : FS w base m E) (hm : w1.heap[m]? = w.heap[m]?) (he : ∀ e ∈ E, w1.heap[e.f]? = w.heap[e.f]? ∧ ∀ a, e.A = some a → w1.heap[a.block]? = w.heap[a.block]?) : FS w1 base m E := by
  obtain ⟨⟨L, hL, hmem⟩, hok, r1, r2, r3, r4, r5⟩ := h
  exact ⟨⟨L, hL.keep hm, hmem⟩, fun e h => (hok e h).keep (he e h).1 (he e h).2, r1, r2, r3, r4, r5⟩
theorem FS.chg {S : Nat → Prop} (h : FS w base m E) (hc : Chg S w w1) (hn : ∀ k, S k → k ≠ m ∧ ∀ e ∈ E, k ≠ e.f ∧ ∀ a, e.A = some a → k ≠ a.block) : FS w1 base m E := by
  have hml : m < w.heap.size := by
    obtain ⟨L, hL, _⟩ := h.map
    exact hL.lt
  exact h.keep (hc.block m hml fun hs => (hn m hs).1 rfl) fun e he => ⟨hc.block _ (h.ok e he).row.lt fun hs => ((hn _ hs).2 e he).1 rfl, fun a ha => hc.block _ ((h.ok e he).buf.lt a ha) fun hs => ((hn _ hs).2 e he).2 a ha rfl⟩
theorem DE.chg {S : Nat → Prop} (h : DE w base d m P E) (hc : Chg S w w1) (hn : ∀ k, S k → ¬ Foot d m E k) : DE w1 base d m P E :=
  ⟨Chg.row hc h.row (fun hs => hn d hs (.inl rfl)), h.fs.chg hc (fun k hs => ⟨fun e => hn k hs (.inr (.inl e)), fun x hx => ⟨fun e => hn k hs (.inr (.inr ⟨x, hx, .inl e⟩)), fun a ha e => hn k hs (.inr (.inr ⟨x, hx, .inr ⟨a, ha, e.symm⟩⟩))⟩⟩), h.low, h.up, h.cnt, h.lens, h.pl, h.hq, h.ha⟩
theorem DS.chg {S : Nat → Prop} (h : DS w base d P F) (hc : Chg S w w1) (hn : ∀ k, S k → ¬ F k) : DS w1 base d P F := by
  obtain ⟨m, E, hD, hF⟩ := h
  exact ⟨m, E, hD.chg hc (fun k hs hk => hn k hs ((hF k).2 hk)), hF⟩
theorem DS.ext (h : DS w base d P F) (hc : Ext w w1) : DS w1 base d P F := h.chg (Chg.of_ext hc (fun _ => False)) (fun _ h => h.elim)
/-- Block d is none of the files', nor the map. -/
theorem DE.apart (h : DE w base d m P E) : d ≠ m ∧ ∀ e ∈ E, d ≠ e.f ∧ ∀ a, e.A = some a → d ≠ a.block := by
  refine ⟨?_, fun e he => ⟨Row.unlike h.row (h.fs.ok e he).row (by decide), fun a ha hd => (h.fs.ok e he).buf.unlike h.row (by decide) a ha hd.symm⟩⟩
  rintro rfl
  obtain ⟨L, hL, _⟩ := h.fs.map
  obtain ⟨es, cl, hm, _⟩ := hL.ex
  have h1 : w.heap[d]? = some (.cells _ _ (0, 0)) := h.row
  rw [h1] at hm
  cases hm
/-- Only its own block has turned. -/
theorem DE.own {P' : PD} (h : DE w base d m P E) (hc : Chg (fun k => k = d) w w1) (hr : DRow w1 d m P'.quota P'.armed P'.stopped) (hL : P'.L = P.L) (hq : P'.quota ≤ 9223372036854775807) (ha : P'.armed ≤ 9223372036854775807) : DE w1 base d m P' E :=
  ⟨hr, h.fs.chg hc (fun k hk => by subst hk; exact h.apart), h.low, h.up, h.cnt, h.lens, by rw [hL]; exact h.pl, hq, ha⟩
theorem DS.next (h : DS w base d P F) {m : Nat} {E E' : List Ent} {P' : PD} (hF : ∀ k, F k ↔ Foot d m E k) (hD : DE w1 base d m P' E') (hc : Chg (Foot d m E) w w1) (hf : ∀ k, Foot d m E' k → Foot d m E k ∨ w.heap.size ≤ k) : DNext base d F w P' w1 :=
  ⟨Foot d m E', ⟨m, E', hD, fun _ => Iff.rfl⟩, hc.mono (fun k _ hk => (hF k).2 hk), fun k hk => (hf k hk).imp_left (hF k).2⟩
end
theorem run_max2 {P : Program} (ts : Array TypeId) (ty : TypeId) {x y m : Int} (hm : m = max x y) (W : World) : (Builtin.max_ ts ty #[.int .i64 x, .int .i64 y]).run P W = .ok (.int .i64 m) W := by
  simp only [Builtin.max_, List.foldlM, Builtin.max2, Sem.run_bind, Sem.run_pure, Result.andThen_ok]
  subst hm
  congr 2
  split <;> omega
set_option maxRecDepth 100000 in
theorem arm_any (base d : Nat) (P : PD) (F : Nat → Prop) (q : Int) (w : World) (h : DS w base d P F) (hq : q ≤ 9223372036854775807) :
    Calls Tryz.prog 21 #[.pointer (some ⟨d, 0, none⟩), .int .i64 q] w fun e w' => e = .returned (.tuple #[]) ∧ DNext base d F w { P with armed := q.toNat } w' := by
  have hS := h
  obtain ⟨m, E, hD, hF⟩ := h
  have h0 := none_any d m P.quota P.armed P.stopped w hD.row
  have f1 := Row.free hD.row 2
  have hp := Row.put hD.row 2 (.int .i64 (q.toNat : Nat))
  have c1 : w.cell? ⟨d, 2, none⟩ = some (.int .i64 P.armed) := Row.cell hD.row 2 rfl
  have hmx : (max q 0 : Int) = (q.toNat : Nat) := by omega
  have hmy : (max 0 q : Int) = (q.toNat : Nat) := by omega
  replace hmx := hide hmx
  replace hmy := hide hmy
  replace h0 := hide h0
  replace hp := hide hp
  go_enter Tryz.func21, Tryz.ntmps21
  go_wp2_with fail
  refine h0.out.mono ?_
  rintro e w1 ⟨rfl, rfl⟩
  go_wp2_with fail
  all_goals
    first | rw [hmx.out] | rw [hmy.out]
    go_end0
    have hc : Chg (fun k => k = d) w1 (w1.setCell ⟨d, 2, none⟩ (.int .i64 (q.toNat : Nat))) := Chg.of_set w1 (a := ⟨d, 2, none⟩) _ rfl
    exact ⟨rfl, hS.next hF (E' := E) (P' := { P with armed := q.toNat }) (hD.own hc hp.out rfl hD.hq (by show q.toNat ≤ _; omega)) (hc.mono (fun k _ hk => .inl hk)) (fun k hk => .inl hk)⟩
end Go.Proofs.YtohphanbnhiodaaGreat

/- loggia/disk: New, Size, Durable, List. -/
namespace Go.Proofs.YtohphanbnhiodaaGreat
open Go.RowKit Go.Maps

theorem new_no (q : Int) (w : World) (hq : q < 0) :
    Calls Tryz.prog 4 #[.int .i64 q] w fun e w' => e = .returned (.tuple #[.pointer none, .int .i64 1]) ∧ w' = w := by
  go_enter Tryz.func4, Tryz.ntmps4
  go_wp2_with fail
  go_ret2
  exact ⟨rfl, rfl⟩
theorem fs_new (w : World) (base m : Nat) (hm : MapL Tryz.prog 9 w m []) (hb : base ≤ m) : FS w base m [] :=
  ⟨⟨[], hm, by simp, rfl⟩, by simp, hb, List.nodup_nil, by simp, List.Pairwise.nil, List.Pairwise.nil⟩
theorem new_yes (base : Nat) (q : Nat) (w : World) (hq : q ≤ 9223372036854775807) (hb : base ≤ w.heap.size) :
    Calls Tryz.prog 4 #[.int .i64 q] w fun e w' => ∃ d F, e = .returned (.tuple #[.pointer (some ⟨d, 0, none⟩), .int .i64 0]) ∧ DS w' base d ⟨[], q, 0, false⟩ F ∧ (∀ k, F k → w.heap.size ≤ k) ∧ Ext w w' := by
  have hm := MapL.made (P := Tryz.prog) (k := 9) w
  have hr := Row.new (w.alloc (.map #[] 0)) 73 #[.map (some w.heap.size), .int .i64 q, .int .i64 0, .bool false]
  have hm2 := hm.alloc (.cells #[.map (some w.heap.size), .int .i64 q, .int .i64 0, .bool false] 73)
  have hE : Ext w ((w.alloc (.map #[] 0)).alloc (.cells #[.map (some w.heap.size), .int .i64 q, .int .i64 0, .bool false] 73)) := ((Ext.refl w).alloc _).alloc _
  replace hr := hide hr
  have hmm := @run_makeMap Tryz.prog
  go_enter Tryz.func4, Tryz.ntmps4
  go_wp2_with fail
  go_ret2
  refine ⟨w.heap.size + 1, Foot (w.heap.size + 1) w.heap.size [], rfl, ⟨w.heap.size, [], ⟨?_, fs_new _ _ _ hm2 hb, by omega, List.Pairwise.nil, by simp, by simp, rfl, hq, by simp⟩, fun _ => Iff.rfl⟩, ?_, hE⟩
  · have h := hr.out
    have hs : (w.alloc (.map #[] 0)).heap.size = w.heap.size + 1 := by simp
    rw [hs] at h
    exact h
  · rintro k (rfl | rfl | ⟨e, he, _⟩)
    · omega
    · omega
    · cases he
set_option maxRecDepth 100000 in
set_option maxHeartbeats 1000000 in
theorem size_any (base d : Nat) (P : PD) (F : Nat → Prop) (s : List UInt8) (w : World) (h : DS w base d P F) (hs : s.length ≤ 9223372036854775807) :
    Calls Tryz.prog 93 #[.pointer (some ⟨d, 0, none⟩), str s] w fun e w' => e = .returned (.tuple #[.int .i64 (sizeM P s).1, .bool (sizeM P s).2]) ∧ w' = w := by
  obtain ⟨m, E, hD, hF⟩ := h
  have h0 := none_any d m P.quota P.armed P.stopped w hD.row
  have c0 : w.cell? ⟨d, 0, none⟩ = some (.map (some m)) := Row.cell hD.row 0 rfl
  have c3 : w.cell? ⟨d, 3, none⟩ = some (.bool P.stopped) := Row.cell hD.row 3 rfl
  replace h0 := hide h0
  cases hb : P.stopped with
  | true =>
    have hm : sizeM P s = (0, false) := by unfold sizeM; rw [hb]; rfl
    rw [hm]
    rw [hb] at c3
    replace hb := hide hb
    clear hm
    go_enter Tryz.func93, Tryz.ntmps93
    go_wp2_with fail
    refine h0.out.mono ?_
    rintro e w1 ⟨rfl, rfl⟩
    go_wp2_with fail
    go_ret2
    exact ⟨rfl, rfl⟩
  | false =>
    rw [hb] at c3
    rcases hD.lookup s hs w rfl with ⟨e0, he0, hn, hrun⟩ | ⟨hno, hrun⟩
    · have hm : sizeM P s = (e0.b.length, true) := by
        unfold sizeM
        rw [hb, ← hn, hD.find_in he0]
        rfl
      rw [hm]
      have cf : w.cell? ⟨e0.f, 0, none⟩ = some (.slice e0.A e0.b.length e0.c) := (hD.fs.ok e0 he0).row.cell 0 rfl
      obtain ⟨n, hnn⟩ : ∃ n, n = e0.b.length := ⟨_, rfl⟩
      rw [← hnn] at cf ⊢
      replace hnn := hide hnn
      replace hb := hide hb
      replace hn := hide hn
      clear hm
      go_enter Tryz.func93, Tryz.ntmps93
      go_wp2_with fail
      refine h0.out.mono ?_
      rintro e w1 ⟨rfl, rfl⟩
      go_wp2_with fail
      go_ret2
      exact ⟨rfl, rfl⟩
    · have hm : sizeM P s = (0, false) := by
        unfold sizeM
        rw [hb, hD.find_out hno]
        rfl
      rw [hm]
      replace hb := hide hb
      clear hm hno
      go_enter Tryz.func93, Tryz.ntmps93
      go_wp2_with fail
      refine h0.out.mono ?_
      rintro e w1 ⟨rfl, rfl⟩
      go_wp2_with fail
      go_ret2
      exact ⟨rfl, rfl⟩
set_option maxRecDepth 100000 in
set_option maxHeartbeats 1000000 in
theorem durable_any (base d : Nat) (P : PD) (F : Nat → Prop) (s : List UInt8) (w : World) (h : DS w base d P F) (hs : s.length ≤ 9223372036854775807) :
    Calls Tryz.prog 65 #[.pointer (some ⟨d, 0, none⟩), str s] w fun e w' => e = .returned (.int .i64 (durM P s)) ∧ w' = w := by
  obtain ⟨m, E, hD, hF⟩ := h
  have h0 := none_any d m P.quota P.armed P.stopped w hD.row
  have c0 : w.cell? ⟨d, 0, none⟩ = some (.map (some m)) := Row.cell hD.row 0 rfl
  replace h0 := hide h0
  rcases hD.lookup s hs w rfl with ⟨e0, he0, hn, hrun⟩ | ⟨hno, hrun⟩
  · have hm : durM P s = e0.sure := by
      unfold durM
      rw [← hn, hD.find_in he0]
      rfl
    rw [hm]
    have cf : w.cell? ⟨e0.f, 1, none⟩ = some (.int .i64 e0.sure) := (hD.fs.ok e0 he0).row.cell 1 rfl
    obtain ⟨n, hnn⟩ : ∃ n, n = e0.sure := ⟨_, rfl⟩
    rw [← hnn] at cf ⊢
    replace hnn := hide hnn
    replace hn := hide hn
    clear hm
    go_enter Tryz.func65, Tryz.ntmps65
    go_wp2_with fail
    refine h0.out.mono ?_
    rintro e w1 ⟨rfl, rfl⟩
    go_wp2_with fail
    go_ret
    exact ⟨rfl, rfl⟩
  · have hm : durM P s = 0 := by
      unfold durM
      rw [hD.find_out hno]
    rw [hm]
    clear hm hno
    go_enter Tryz.func65, Tryz.ntmps65
    go_wp2_with fail
    refine h0.out.mono ?_
    rintro e w1 ⟨rfl, rfl⟩
    go_wp2_with fail
    go_ret
    exact ⟨rfl, rfl⟩
theorem DE.fnames {w : World} {base d m : Nat} {P : PD} {E : List Ent} (h : DE w base d m P E) : sortN (E.map Ent.name) = P.L.map fname := by
  rw [sortN_eq h.up.le, ← h.pl, List.map_map]
  rfl
set_option maxRecDepth 100000 in
set_option maxHeartbeats 1000000 in
theorem list_any (base d : Nat) (P : PD) (F : Nat → Prop) (w : World) (h : DS w base d P F) :
    Calls Tryz.prog 62 #[.pointer (some ⟨d, 0, none⟩)] w fun e w' => ∃ A n c, e = .returned (.slice A n c) ∧ n = (listM P).length ∧ Cells w' A ((listM P).map str) ∧ (∀ a, A = some a → w.heap.size ≤ a.block ∧ a.block < w'.heap.size) ∧ n ≤ 1024 ∧ n ≤ c ∧ Ext w w' := by
  obtain ⟨m, E, hD, hF⟩ := h
  have h0 := none_any d m P.quota P.armed P.stopped w hD.row
  have c3 : w.cell? ⟨d, 3, none⟩ = some (.bool P.stopped) := Row.cell hD.row 3 rfl
  replace h0 := hide h0
  cases hb : P.stopped with
  | true =>
    have hm : listM P = [] := by unfold listM; rw [hb]; rfl
    rw [hm]
    rw [hb] at c3
    replace hb := hide hb
    clear hm
    go_enter Tryz.func62, Tryz.ntmps62
    go_wp2_with fail
    refine h0.out.mono ?_
    rintro e w1 ⟨rfl, rfl⟩
    go_wp2_with fail
    go_ret
    exact ⟨none, 0, 0, rfl, rfl, Cells.nil _ _, nofun, by omega, by omega, Ext.refl _⟩
  | false =>
    rw [hb] at c3
    have hm : listM P = sortN (E.map Ent.name) := by unfold listM; rw [hb, hD.fnames]; rfl
    rw [hm]
    have hnm := names_any base d m P.quota P.armed P.stopped E w hD.row hD.fs hD.cnt
    have hl : (sortN (E.map Ent.name)).length = E.length := by rw [(sortN_perm _).length_eq, List.length_map]
    have hcnt := hD.cnt
    replace hm := hide hm
    replace hb := hide hb
    replace hl := hide hl
    replace hnm := hide hnm
    go_enter Tryz.func62, Tryz.ntmps62
    go_wp2_with fail
    refine h0.out.mono ?_
    rintro e w1 ⟨rfl, rfl⟩
    go_wp2_with fail
    refine hnm.out.mono ?_
    rintro e w2 ⟨A, n, c, rfl, hn, hbuf, hE⟩
    replace hn := hide hn
    go_wp2_with fail
    go_ret
    exact ⟨A, n, c, rfl, by rw [hl.out]; exact hn.out, hbuf.cells, fun a ha => ⟨hbuf.base_le a ha, hbuf.lt a ha⟩, by rw [hn.out]; exact hcnt, hbuf.2.1, hE⟩
end Go.Proofs.YtohphanbnhiodaaGreat

/- slices.Clone of bytes; Read. -/
namespace Go.Proofs.YtohphanbnhiodaaGreat
open Go.RowKit Go.Maps

end Go.Proofs.YtohphanbnhiodaaGreat

/- loggia/disk: Read. -/
namespace Go.Proofs.YtohphanbnhiodaaGreat
open Go.RowKit Go.Maps

/-- Behind the list of one name. -/
abbrev oneW (w : World) (s : List UInt8) : World := w.alloc (.cells #[.string ⟨s.toArray⟩] 9)
theorem may_one (base d : Nat) (P : PD) (F : Nat → Prop) (s : List UInt8) (w : World) (h : DS w base d P F) (hs : s.length ≤ 9223372036854775807) :
    Calls Tryz.prog 50 #[.pointer (some ⟨d, 0, none⟩), .slice (some ⟨w.heap.size, 0, none⟩) 1 1] (oneW w s) fun e w' => e = .returned (.int .i64 (mayM [s] P.stopped)) ∧ oneW w s = w' := by
  have hE : Ext w (oneW w s) := (Ext.refl w).alloc _
  obtain ⟨m, E, hD, hF⟩ := h.ext hE
  refine (may_any d m P.quota P.armed P.stopped (some ⟨w.heap.size, 0, none⟩) 1 1 [s] (oneW w s) hD.row rfl ?_ (by omega) (by simpa using hs)).mono fun e w' h => ⟨h.1, h.2.symm⟩
  refine .inr ⟨w.heap.size, 0, rfl, fun i v hv => ?_⟩
  rw [Nat.zero_add, cell_of_row _ _ _ _ _ _ (heap_alloc_new w _)]
  simpa [str] using hv
theorem may_ok {s : List UInt8} (h : namedM s = true) : mayM [s] false = 0 := by unfold mayM; simp [h]
theorem may_stop {s : List UInt8} (h : namedM s = true) : mayM [s] true = 63 := by unfold mayM; simp [h]
theorem may_bad {s : List UInt8} (b : Bool) (h : namedM s = false) : mayM [s] b = 60 := by unfold mayM; simp [h]
/-- What Read answers. -/
def ReadPost (P : PD) (s : List UInt8) (fr n : Int) (w : World) (e : Ending) (w' : World) : Prop :=
  ∃ A k c, e = .returned (.tuple #[.slice A k c, .int .i64 (readM P s fr n).2]) ∧ Buf w' w.heap.size 5 A k c ((readM P s fr n).1.map B8) ∧ k = (readM P s fr n).1.length ∧ Ext w w'
theorem readPost_err {P : PD} {s : List UInt8} {fr n : Int} {w w' : World} {k : Nat} (h : readM P s fr n = ([], k)) (he : Ext w w') : ReadPost P s fr n w (.returned (.tuple #[.slice none 0 0, .int .i64 k])) w' := by
  unfold ReadPost
  rw [h]
  exact ⟨none, 0, 0, rfl, Buf.nil _ _ _, rfl, he⟩
set_option maxRecDepth 100000 in
set_option maxHeartbeats 1000000 in
theorem read_any (base d : Nat) (P : PD) (F : Nat → Prop) (s : List UInt8) (fr n : Int) (w : World) (h : DS w base d P F) (hs : s.length ≤ 9223372036854775807) (hf1 : -9223372036854775808 ≤ fr) (hf2 : fr ≤ 9223372036854775807)
    (hn1 : -9223372036854775808 ≤ n) (hn2 : n ≤ 9223372036854775807) :
    Calls Tryz.prog 43 #[.pointer (some ⟨d, 0, none⟩), str s, .int .i64 fr, .int .i64 n] w (ReadPost P s fr n w) := by
  have hmay := may_one base d P F s w h hs
  have hE : Ext w (oneW w s) := (Ext.refl w).alloc _
  unfold str
  cases hnm : namedM s with
  | false =>
    have hr : readM P s fr n = ([], 60) := by unfold readM; rw [hnm]; rfl
    rw [may_bad _ hnm] at hmay
    have fin := readPost_err hr hE
    replace fin := hide fin
    replace hmay := hide hmay
    clear hr hnm h
    go_enter Tryz.func43, Tryz.ntmps43
    go_wp2_with fail
    refine hmay.out.mono ?_
    rintro e w1 ⟨rfl, rfl⟩
    go_wp2_with fail
    go_ret2
    exact fin.out
  | true =>
    cases hst : P.stopped with
    | true =>
      have hr : readM P s fr n = ([], 63) := by unfold readM; rw [hnm, hst]; rfl
      rw [hst, may_stop hnm] at hmay
      have fin := readPost_err hr hE
      replace fin := hide fin
      replace hmay := hide hmay
      clear hr hnm h hst
      go_enter Tryz.func43, Tryz.ntmps43
      go_wp2_with fail
      refine hmay.out.mono ?_
      rintro e w1 ⟨rfl, rfl⟩
      go_wp2_with fail
      go_ret2
      exact fin.out
    | false =>
      rw [hst, may_ok hnm] at hmay
      obtain ⟨m, E, hD, hF⟩ := h.ext hE
      have c0 : (oneW w s).cell? ⟨d, 0, none⟩ = some (.map (some m)) := Row.cell hD.row 0 rfl
      rcases hD.lookup s hs (oneW w s) rfl with ⟨e0, he0, hn, hrun⟩ | ⟨hno, hrun⟩
      · have hfd : P.find s = some e0.pl := by rw [← hn]; exact hD.find_in he0
        have cf : (oneW w s).cell? ⟨e0.f, 0, none⟩ = some (.slice e0.A e0.b.length e0.c) := (hD.fs.ok e0 he0).row.cell 0 rfl
        have hbuf := (hD.fs.ok e0 he0).buf
        have hlen := hD.lens e0 he0
        obtain ⟨bl, hbl⟩ : ∃ x, x = e0.b.length := ⟨_, rfl⟩
        rw [← hbl] at cf hbuf hlen
        unfold str at hrun
        by_cases hbad : fr < 0 ∨ (bl : Int) < fr ∨ n < 0
        · have hr : readM P s fr n = ([], 5) := by
            unfold readM
            rw [hnm, hst, hfd]
            simp only [if_true]
            show (if fr < 0 ∨ (e0.b.length : Int) < fr ∨ n < 0 then _ else _) = _
            rw [← hbl, if_pos hbad]
          have fin := readPost_err hr hE
          replace fin := hide fin
          replace hmay := hide hmay
          replace hn := hide hn
          replace hbl := hide hbl
          clear hr hnm h hst hfd hbuf
          rcases Int.lt_or_le fr 0 with h1 | h1
          · go_enter Tryz.func43, Tryz.ntmps43
            go_wp2_with fail
            refine hmay.out.mono ?_
            rintro e w1 ⟨rfl, rfl⟩
            go_wp2_with fail
            go_ret2
            exact fin.out
          · rcases Int.lt_or_le bl fr with h2 | h2
            · go_enter Tryz.func43, Tryz.ntmps43
              go_wp2_with fail
              refine hmay.out.mono ?_
              rintro e w1 ⟨rfl, rfl⟩
              go_wp2_with fail
              go_ret2
              exact fin.out
            · have h3 : n < 0 := by omega
              go_enter Tryz.func43, Tryz.ntmps43
              go_wp2_with fail
              refine hmay.out.mono ?_
              rintro e w1 ⟨rfl, rfl⟩
              go_wp2_with fail
              go_ret2
              exact fin.out
        · obtain ⟨f, rfl⟩ : ∃ f : Nat, fr = f := ⟨fr.toNat, by omega⟩
          obtain ⟨k, rfl⟩ : ∃ k : Nat, n = k := ⟨n.toNat, by omega⟩
          have hfl : f ≤ bl := by omega
          obtain ⟨k2, hk2⟩ : ∃ k2, k2 = min k (bl - f) := ⟨_, rfl⟩
          have hr : readM P s f k = ((e0.b.drop f).take k, 0) := by
            unfold readM
            rw [hnm, hst, hfd]
            simp only [if_true]
            show (if (f : Int) < 0 ∨ (e0.b.length : Int) < f ∨ (k : Int) < 0 then _ else _) = _
            rw [← hbl, if_neg hbad]
            rfl
          have hmin := run_min2 (P := Tryz.prog) #[3, 3] 3 (x := k) (y := (bl : Int) - f) (m := (k2 : Nat)) (by omega)
          have hA0 : e0.A = none → e0.c = 0 := by
            intro hA
            rcases hbuf.2.2 with h | ⟨g, cur, hg, _⟩
            · exact h.2
            · rw [hA] at hg; cases hg
          have hAs : ∀ a, e0.A = some a → a.spot = none := by
            intro a hA
            rcases hbuf.2.2 with h | ⟨g, cur, hg, _⟩
            · rw [hA] at h; cases h.1
            · rw [hA] at hg; cases hg; rfl
          obtain ⟨A', c', hsub, hcl, hz', hbk, hkc⟩ := run_sub (t := 34) (e := 5) (fr := f) (k := k2) Tryz.underlying34 (fun W => by kernel_rfl) (n := bl) (by omega) hbuf.2.1 hA0 hAs
          have hcells : Bs (oneW w s) A' ((e0.b.drop f).take k2) := by
            have := hcl _ _ hbuf.1 hbuf.cells
            unfold Bs
            rw [List.map_take, List.map_drop]
            exact this
          have hl2 : ((e0.b.drop f).take k2).length = k2 := by rw [List.length_take, List.length_drop, ← hbl]; omega
          have htk : (e0.b.drop f).take k2 = (e0.b.drop f).take k := by
            by_cases hc : k ≤ bl - f
            · rw [hk2, Nat.min_eq_left hc]
            · rw [hk2, Nat.min_eq_right (by omega), List.take_of_length_le (i := bl - f) (by rw [List.length_drop, ← hbl]; omega), List.take_of_length_le (i := k) (by rw [List.length_drop, ← hbl]; omega)]
          have hcln := clone_any A' k2 c' ((e0.b.drop f).take k2) (oneW w s).drew hl2.symm hcells hz' (by omega)
          replace htk := hide htk
          replace hl2 := hide hl2
          replace hr := hide hr
          replace hmay := hide hmay
          replace hn := hide hn
          replace hbl := hide hbl
          replace hcln := hide hcln
          replace hk2' := hide hk2
          have hk2b : (f : Int) + k2 ≤ bl := by omega
          clear hnm h hst hfd hbuf hcl hz' hbk hcells hk2
          go_enter Tryz.func43, Tryz.ntmps43
          go_wp2_with fail
          refine hmay.out.mono ?_
          rintro e w1 ⟨rfl, rfl⟩
          go_wp2_with fail
          refine wp_region_text follows (by kernel_rfl) (by kernel_rfl) (fun K hK => ?_)
          go_wp2_with fail
          refine hcln.out.mono ?_
          rintro e w3 ⟨A3, c3, rfl, hb3, hE3⟩
          go_wp2_with fail
          refine ⟨by kernel_rfl, ?_⟩
          go_wp2_with fail
          go_ret2
          unfold ReadPost
          rw [hr.out]
          refine ⟨A3, k2, c3, rfl, ?_, ?_, hE.drew.trans hE3⟩
          · rw [← htk.out]
            exact hb3.lower hE.size
          · rw [← htk.out]
            exact hl2.out.symm
      · have hr : readM P s fr n = ([], 61) := by unfold readM; rw [hnm, hst, hD.find_out hno]; rfl
        have fin := readPost_err hr hE
        unfold str at hrun
        replace fin := hide fin
        replace hmay := hide hmay
        clear hr hnm h hst hno
        go_enter Tryz.func43, Tryz.ntmps43
        go_wp2_with fail
        refine hmay.out.mono ?_
        rintro e w1 ⟨rfl, rfl⟩
        go_wp2_with fail
        go_ret2
        exact fin.out
end Go.Proofs.YtohphanbnhiodaaGreat

/- A file put, a file dropped. -/
namespace Go.Proofs.YtohphanbnhiodaaGreat
open Go.RowKit Go.Maps

section
variable {w w1 : World} {base d m : Nat} {P P' : PD} {E : List Ent} {e1 : Ent}
theorem perm_ins {α : Type} (nm : α → List UInt8) (f : α) : ∀ l : List α, (insG nm f l).Perm (f :: l)
  | [] => List.Perm.refl _
  | y :: ys => by
    unfold insG
    split
    · exact List.Perm.refl _
    · exact ((perm_ins nm f ys).cons y).trans (List.Perm.swap f y ys)
theorem pw_with {α : Type} {nm : α → List UInt8} {R : α → α → Prop} (hs : ∀ {x y}, R x y → R y x) {f : α} {l : List α} (h : l.Pairwise R) (h1 : ∀ x ∈ l, nm x ≠ nm f → R f x) : (withG nm f l).Pairwise R := by
  unfold withG
  refine ((perm_ins nm f _).pairwise_iff hs).2 ?_
  rw [List.pairwise_cons]
  exact ⟨fun x hx => h1 x (mem_without.1 hx).1 (mem_without.1 hx).2, h.filter _⟩
/-- A map has just the files' entries: so it has as many. -/
theorem kv_len {L : List (Value × Value)} (hL : MapL Tryz.prog 9 w m L) (hu : Up Ent.name E) (hmem : ∀ p, p ∈ L ↔ ∃ e ∈ E, p = e.kv) : L.length = E.length := by
  have h1 : L.Nodup := nodup_of_map Prod.fst hL.nodup
  have h2 : (E.map Ent.kv).Nodup := by
    refine nodup_of_map Prod.fst ?_
    rw [List.map_map]
    have : (E.map Ent.name).Nodup := hu.nodup
    rw [List.Nodup, List.pairwise_map] at this ⊢
    exact this.imp fun h e => h (str_inj e)
  have h3 : L.Perm (E.map Ent.kv) := (List.perm_ext_iff_of_nodup h1 h2).2 fun p => by
    rw [hmem, List.mem_map]
    exact ⟨fun ⟨e, he, hp⟩ => ⟨e, he, hp.symm⟩, fun ⟨e, he, hp⟩ => ⟨e, he, hp.symm⟩⟩
  rw [h3.length_eq, List.length_map]
theorem DE.put (h : DE w base d m P E) (hrow : DRow w1 d m P'.quota P'.armed P'.stopped) (hm : ∃ L, MapL Tryz.prog 9 w1 m L ∧ ∀ p, p ∈ L ↔ ∃ e ∈ withG Ent.name e1 E, p = e.kv)
    (ho : ∀ x ∈ E, x.name ≠ e1.name → EOk w1 base x ∧ x.f ≠ e1.f ∧ ∀ a b, x.A = some a → e1.A = some b → a.block ≠ b.block) (hok : EOk w1 base e1) (hs : e1.name.length ≤ 9223372036854775807) (hl : e1.b.length ≤ 67108864)
    (hcnt : (withG Ent.name e1 E).length ≤ 1024) (hL : P'.L = withG fname e1.pl P.L) (hq : P'.quota ≤ 9223372036854775807) (ha : P'.armed ≤ 9223372036854775807) : DE w1 base d m P' (withG Ent.name e1 E) := by
  obtain ⟨L, hL1, hmem⟩ := hm
  refine ⟨hrow, ⟨⟨L, hL1, hmem, kv_len hL1 h.up.with hmem⟩, ?_, h.fs.low, h.up.with.nodup, ?_, ?_, ?_⟩, h.low, h.up.with, hcnt, ?_, ?_, hq, ha⟩
  · intro e he
    rcases mem_with.1 he with rfl | ⟨h1, h2⟩
    · exact hok
    · exact (ho e h1 h2).1
  · intro e he
    rcases mem_with.1 he with rfl | ⟨h1, h2⟩
    · exact hs
    · exact h.fs.short e h1
  · refine pw_with (fun h => h.symm) h.fs.fd fun x hx hn => ((ho x hx hn).2.1).symm
  · refine pw_with (fun h a b ha hb => (h b a hb ha).symm) h.fs.ad fun x hx hn a b ha hb => ((ho x hx hn).2.2 b a hb ha).symm
  · intro e he
    rcases mem_with.1 he with rfl | ⟨h1, h2⟩
    · exact hl
    · exact h.lens e h1
  · rw [hL, ← h.pl]
    exact map_with (nm := Ent.name) (nm' := fname) (g := Ent.pl) (fun _ => rfl) e1 E
theorem foot_with {k : Nat} (h : Foot d m (withG Ent.name e1 E) k) : Foot d m E k ∨ k = e1.f ∨ ∃ a, e1.A = some a ∧ a.block = k := by
  rcases h with h | h | ⟨e, he, h⟩
  · exact .inl (.inl h)
  · exact .inl (.inr (.inl h))
  · rcases mem_with.1 he with rfl | ⟨h1, h2⟩
    · exact .inr h
    · exact .inl (.inr (.inr ⟨e, h1, h⟩))
theorem DE.drop (h : DE w base d m P E) (s : List UInt8) (hrow : DRow w1 d m P'.quota P'.armed P'.stopped) (hm : ∃ L, MapL Tryz.prog 9 w1 m L ∧ ∀ p, p ∈ L ↔ ∃ e ∈ withoutG Ent.name s E, p = e.kv)
    (ho : ∀ x ∈ E, EOk w1 base x) (hL : P'.L = withoutG fname s P.L) (hq : P'.quota ≤ 9223372036854775807) (ha : P'.armed ≤ 9223372036854775807) : DE w1 base d m P' (withoutG Ent.name s E) := by
  obtain ⟨L, hL1, hmem⟩ := hm
  have hsub : ∀ x ∈ withoutG Ent.name s E, x ∈ E := fun x hx => (mem_without.1 hx).1
  refine ⟨hrow, ⟨⟨L, hL1, hmem, kv_len hL1 (h.up.without s) hmem⟩, fun e he => ho e (hsub e he), h.fs.low, (h.up.without s).nodup, fun e he => h.fs.short e (hsub e he), h.fs.fd.filter _, h.fs.ad.filter _⟩, h.low, h.up.without s, Nat.le_trans (len_without_le _ _) h.cnt, fun e he => h.lens e (hsub e he), ?_, hq, ha⟩
  rw [hL, ← h.pl]
  exact map_without (nm := Ent.name) (nm' := fname) (g := Ent.pl) (fun _ => rfl) s E
theorem foot_without {s : List UInt8} {k : Nat} (h : Foot d m (withoutG Ent.name s E) k) : Foot d m E k := by
  rcases h with h | h | ⟨e, he, h⟩
  · exact .inl h
  · exact .inr (.inl h)
  · exact .inr (.inr ⟨e, (mem_without.1 he).1, h⟩)
/-- What a map's block holds when a file is put. -/
theorem DE.mapPut (h : DE w base d m P E) {L L' : List (Value × Value)} (hmem : ∀ p, p ∈ L ↔ ∃ e ∈ E, p = e.kv) (hp : Put L (str e1.name) (.pointer (some ⟨e1.f, 0, none⟩)) L') : ∀ p, p ∈ L' ↔ ∃ e ∈ withG Ent.name e1 E, p = e.kv := by
  intro p
  rw [hp.mem]
  constructor
  · rintro (rfl | ⟨h1, h2⟩)
    · exact ⟨e1, mem_with.2 (.inl rfl), rfl⟩
    · obtain ⟨e, he, rfl⟩ := (hmem p).1 h1
      exact ⟨e, mem_with.2 (.inr ⟨he, fun hn => h2 (by show str e.name = str e1.name; rw [hn])⟩), rfl⟩
  · rintro ⟨e, he, rfl⟩
    rcases mem_with.1 he with rfl | ⟨h1, h2⟩
    · exact .inl rfl
    · exact .inr ⟨(hmem _).2 ⟨e, h1, rfl⟩, fun hn => h2 (str_inj hn)⟩
/-- The same map, when a file's bytes turn. -/
theorem DE.mapSame (h : DE w base d m P E) {L : List (Value × Value)} (hmem : ∀ p, p ∈ L ↔ ∃ e ∈ E, p = e.kv) {e0 : Ent} (h0 : e0 ∈ E) (hn : e1.name = e0.name) (hf : e1.f = e0.f) : ∀ p, p ∈ L ↔ ∃ e ∈ withG Ent.name e1 E, p = e.kv := by
  have hk : e1.kv = e0.kv := by unfold Ent.kv; rw [hn, hf]
  intro p
  rw [hmem]
  constructor
  · rintro ⟨e, he, rfl⟩
    by_cases hne : e.name = e1.name
    · have : e = e0 := h.up.uniq he h0 (hne.trans hn)
      subst this
      exact ⟨e1, mem_with.2 (.inl rfl), hk.symm⟩
    · exact ⟨e, mem_with.2 (.inr ⟨he, hne⟩), rfl⟩
  · rintro ⟨e, he, rfl⟩
    rcases mem_with.1 he with rfl | ⟨h1, h2⟩
    · exact ⟨e0, h0, hk⟩
    · exact ⟨e, h1, rfl⟩
theorem DE.mapDrop {L L' : List (Value × Value)} (hmem : ∀ p, p ∈ L ↔ ∃ e ∈ E, p = e.kv) {s : List UInt8} (hp : ∀ p, p ∈ L' ↔ p ∈ L ∧ p.1 ≠ str s) : ∀ p, p ∈ L' ↔ ∃ e ∈ withoutG Ent.name s E, p = e.kv := by
  intro p
  rw [hp]
  constructor
  · rintro ⟨h1, h2⟩
    obtain ⟨e, he, rfl⟩ := (hmem p).1 h1
    exact ⟨e, mem_without.2 ⟨he, fun hn => h2 (by show str e.name = str s; rw [hn])⟩, rfl⟩
  · rintro ⟨e, he, rfl⟩
    exact ⟨(hmem _).2 ⟨e, (mem_without.1 he).1, rfl⟩, fun hn => (mem_without.1 he).2 (str_inj hn)⟩
end
end Go.Proofs.YtohphanbnhiodaaGreat

/- loggia/disk: Append, what it needs. -/
namespace Go.Proofs.YtohphanbnhiodaaGreat
open Go.RowKit Go.Maps

theorem pw_mem {α : Type} {R : α → α → Prop} (hs : ∀ {x y}, R x y → R y x) : ∀ {l : List α}, l.Pairwise R → ∀ {x y : α}, x ∈ l → y ∈ l → x ≠ y → R x y
  | [], _, _, _, h, _, _ => by cases h
  | a :: l, h, x, y, hx, hy, hne => by
    rw [List.pairwise_cons] at h
    rcases List.mem_cons.1 hx with h1 | h1 <;> rcases List.mem_cons.1 hy with h2 | h2
    · exact (hne (h1.trans h2.symm)).elim
    · subst h1; exact h.1 y h2
    · subst h2; exact hs (h.1 x h1)
    · exact pw_mem hs h.2 h1 h2 hne
section
variable {w W : World} {base d m : Nat} {P : PD} {E : List Ent} {e x : Ent}
theorem row_ne_map {g : Nat} {t : TypeId} {cs : Array Value} {L : List (Value × Value)} (hr : Row w g t cs) (hL : MapL Tryz.prog 9 w m L) : g ≠ m := by
  rintro rfl
  obtain ⟨es, cl, hm, _⟩ := hL.ex
  have h1 : w.heap[g]? = some (.cells cs t (0, 0)) := hr
  rw [h1] at hm
  cases hm
theorem EOk.ne_map {L : List (Value × Value)} (h : EOk w base e) (hL : MapL Tryz.prog 9 w m L) : e.f ≠ m ∧ ∀ a, e.A = some a → a.block ≠ m := by
  refine ⟨row_ne_map h.row hL, ?_⟩
  rintro a ha
  rcases h.buf.2.2 with h1 | ⟨g, cur, hg, _, hr, _⟩
  · rw [ha] at h1; cases h1.1
  · rw [ha] at hg; cases hg
    exact row_ne_map hr hL
theorem EOk.fa (h : EOk w base e) (k : EOk w base x) : ∀ a, x.A = some a → e.f ≠ a.block := fun a ha he => k.buf.unlike h.row (by decide) a ha he.symm
/-- The file that Append has found, or made. -/
structure GotD (w W : World) (base : Nat) (E : List Ent) (s : List UInt8) (ok : Bool) (e0 : Ent) : Prop where
  name : e0.name = s
  has : EOk W base e0
  len : e0.b.length ≤ 67108864
  here : ok = true → e0 ∈ E
  away : ok = false → (∀ e ∈ E, e.name ≠ s) ∧ e0.b = [] ∧ e0.sure = 0 ∧ e0.A = none ∧ w.heap.size ≤ e0.f
theorem GotD.far {s : List UInt8} {ok : Bool} (h : GotD w W base E s ok e) (hD : DE w base d m P E) (hx : x ∈ E) (hn : x.name ≠ s) : x.f ≠ e.f ∧ ∀ a b, x.A = some a → e.A = some b → a.block ≠ b.block := by
  cases ok with
  | true =>
    have he := h.here rfl
    have hne : x ≠ e := fun hh => hn (by rw [hh]; exact h.name)
    exact ⟨pw_mem (fun h => h.symm) hD.fs.fd hx he hne, pw_mem (R := fun a b : Ent => ∀ x y, a.A = some x → b.A = some y → x.block ≠ y.block) (fun h a b ha hb => (h b a hb ha).symm) hD.fs.ad hx he hne⟩
  | false =>
    obtain ⟨_, _, _, hA, hf⟩ := h.away rfl
    refine ⟨fun hh => ?_, fun a b _ hb => by rw [hA] at hb; cases hb⟩
    have := (hD.fs.ok x hx).row.lt
    omega
/-- Where the file lies. -/
theorem GotD.at_ {s : List UInt8} {ok : Bool} (h : GotD w W base E s ok e) : (Foot d m E e.f ∨ w.heap.size ≤ e.f) ∧ ∀ a, e.A = some a → Foot d m E a.block := by
  cases ok with
  | true =>
    have he := h.here rfl
    exact ⟨.inl (.inr (.inr ⟨e, he, .inl rfl⟩)), fun a ha => .inr (.inr ⟨e, he, .inr ⟨a, ha, rfl⟩⟩)⟩
  | false =>
    obtain ⟨_, _, _, hA, hf⟩ := h.away rfl
    exact ⟨.inr hf, fun a ha => by rw [hA] at ha; cases ha⟩
end
/-- The end of Append, plainly: W1 is behind the counting, W2 behind the append, W3 behind the store, W4 behind the map's turn. -/
theorem append_end {w wx W1 W2 W4 : World} {base d m : Nat} {P : PD} {E : List Ent} {s b : List UInt8} {ok : Bool} {e0 : Ent} {A1 : Option Addr} {c1 : Nat}
    (hD : DE w base d m P E) (hs : s.length ≤ 9223372036854775807) (hwx : Ext w wx) (hG : GotD w wx base E s ok e0) (hcnt : ok = false → E.length < 1024)
    (hl : e0.b.length + b.length ≤ 67108864) (hrow1 : DRow W1 d m P.quota (P.armed - 1) false) (hc1 : Chg (fun k => k = d) wx W1) (hst : P.stopped = false)
    (hbuf : Buf W2 base 5 A1 (e0.b.length + b.length) c1 (e0.b.map B8 ++ b.map B8)) (hg2 : W1.grownBy W2 (Value.slice e0.A e0.b.length e0.c).ownBlock) (hA1 : A1 = e0.A ∨ A1 = some ⟨W1.heap.size, 0, none⟩)
    {L L' : List (Value × Value)} (hmem : ∀ p, p ∈ L ↔ ∃ e ∈ E, p = e.kv) (hL : MapL Tryz.prog 9 w m L)
    (hput : Put L (str s) (.pointer (some ⟨e0.f, 0, none⟩)) L') (hL4 : MapL Tryz.prog 9 W4 m L') (hg4 : (W2.setCell ⟨e0.f, 0, none⟩ (.slice A1 (e0.b.length + b.length) c1)).grownBy W4 (some m)) :
    ∃ E', DE W4 base d m (P.goes (withG fname (s, e0.b ++ b, e0.sure) P.L)) E' ∧ Chg (Foot d m E) w W4 ∧ ∀ k, Foot d m E' k → Foot d m E k ∨ w.heap.size ≤ k := by
  obtain ⟨W3, hW3⟩ : ∃ W3, W3 = W2.setCell ⟨e0.f, 0, none⟩ (.slice A1 (e0.b.length + b.length) c1) := ⟨_, rfl⟩
  rw [← hW3] at hg4
  have hDx : DE wx base d m P E := hD.chg (Chg.of_ext hwx (fun _ => False)) (fun _ h => h.elim)
  have hLx := hL.ext hwx
  have hok0 := hG.has
  have hap := hDx.apart
  have hm0 := hok0.ne_map hLx
  have hsz1 : wx.heap.size ≤ W1.heap.size := hc1.size
  have hszx : w.heap.size ≤ wx.heap.size := hwx.size
  -- which blocks may have turned
  have hd0 : d ≠ e0.f ∧ ∀ a, e0.A = some a → d ≠ a.block := ⟨Row.unlike hDx.row hok0.row (by decide), fun a ha hd => hok0.buf.unlike hDx.row (by decide) a ha hd.symm⟩
  have hown : ∀ k, (Value.slice e0.A e0.b.length e0.c).ownBlock = some k → ∃ a, e0.A = some a ∧ a.block = k := by
    intro k hk
    rcases hok0.buf.2.2 with ⟨h1, _⟩ | ⟨g, cur, hg, _⟩
    · rw [h1] at hk; cases hk
    · rw [hg] at hk ⊢
      exact ⟨_, rfl, by simpa [Value.ownBlock] using hk⟩
  have hc2 : Chg (fun k => ∃ a, e0.A = some a ∧ a.block = k) W1 W2 := Chg.of_grown hg2 fun k _ hk => hown k hk
  have hc3 : Chg (fun k => k = e0.f) W2 W3 := by rw [hW3]; exact Chg.of_set W2 (a := ⟨e0.f, 0, none⟩) _ rfl
  have hc4 : Chg (fun k => k = m) W3 W4 := Chg.of_grown hg4 fun k _ hk => by cases hk; rfl
  have hcall : Chg (fun k => k = d ∨ (∃ a, e0.A = some a ∧ a.block = k) ∨ k = e0.f ∨ k = m) wx W4 := by
    refine ((hc1.mono (S' := fun k => k = d ∨ (∃ a, e0.A = some a ∧ a.block = k) ∨ k = e0.f ∨ k = m) fun k _ h => .inl h).trans hc2 fun k _ h => .inr (.inl h)) |>.trans hc3 (fun k _ h => .inr (.inr (.inl h))) |>.trans hc4 fun k _ h => .inr (.inr (.inr h))
  obtain ⟨e1, he1⟩ : ∃ e1 : Ent, e1 = ⟨s, e0.f, e0.b ++ b, e0.sure, A1, c1⟩ := ⟨_, rfl⟩
  have hname : e1.name = s := by rw [he1]
  have hok1 : EOk W4 base e1 := by
    rw [he1]
    have hr1 : Row W1 e0.f 107 #[.slice e0.A e0.b.length e0.c, .int .i64 e0.sure] := hc1.row hok0.row fun h => hd0.1 h.symm
    have hr2 : Row W2 e0.f 107 #[.slice e0.A e0.b.length e0.c, .int .i64 e0.sure] := hc2.row hr1 fun ⟨a, ha, hk⟩ => hok0.fa hok0 a ha hk.symm
    have hr3 : Row W3 e0.f 107 #[.slice A1 (e0.b.length + b.length) c1, .int .i64 e0.sure] := by rw [hW3]; exact hr2.put 0 _
    have hb3 : Buf W3 base 5 A1 (e0.b.length + b.length) c1 (e0.b.map B8 ++ b.map B8) := by
      rw [hW3]
      exact hbuf.setCell (fun a ha => hbuf.unlike hr2 (by decide) a ha) _
    refine ⟨?_, ?_, hok0.low, ?_⟩
    · show Row W4 e0.f _ #[.slice A1 (e0.b ++ b).length c1, .int .i64 e0.sure]
      rw [List.length_append]
      exact hc4.row hr3 hm0.1
    · show Buf W4 base 5 A1 (e0.b ++ b).length c1 ((e0.b ++ b).map B8)
      rw [List.length_append, List.map_append]
      refine hb3.chg hc4 ?_
      intro a ha hk
      rcases hA1 with h | h
      · exact hm0.2 a (by rw [← h]; exact ha) hk
      · rw [h] at ha; cases ha
        have := hLx.lt
        have hk : W1.heap.size = m := hk
        omega
    · show e0.sure ≤ (e0.b ++ b).length
      rw [List.length_append]
      have := hok0.sure
      omega
  refine ⟨withG Ent.name e1 E, DE.put hD ?_ ⟨L', hL4, ?_⟩ ?_ hok1 (by rw [hname]; exact hs) ?_ ?_ ?_ hD.hq ?_, ?_, ?_⟩
  · show DRow W4 d m P.quota (P.armed - 1) P.stopped
    rw [hst]
    refine hc4.row (hc3.row (hc2.row hrow1 fun ⟨a, ha, hk⟩ => hd0.2 a ha hk.symm) fun h => hd0.1 h) hap.1
  · refine hD.mapPut hmem ?_
    rw [he1]
    exact hput
  · intro x hx hn
    rw [hname] at hn
    obtain ⟨h1, h2⟩ := hG.far hD hx hn
    have hokx := hDx.fs.ok x hx
    have hmx := hokx.ne_map hLx
    have hf : ¬ (x.f = d ∨ (∃ a, e0.A = some a ∧ a.block = x.f) ∨ x.f = e0.f ∨ x.f = m) := by
      rintro (h | ⟨a, ha, h⟩ | h | h)
      · exact (hap.2 x hx).1 h.symm
      · exact hokx.fa hok0 a ha h.symm
      · exact h1 h
      · exact hmx.1 h
    have hA : ∀ b, x.A = some b → ¬ (b.block = d ∨ (∃ a, e0.A = some a ∧ a.block = b.block) ∨ b.block = e0.f ∨ b.block = m) := by
      rintro b hb (h | ⟨a, ha, h⟩ | h | h)
      · exact (hap.2 x hx).2 b hb h.symm
      · exact h2 b a hb ha h.symm
      · exact hok0.fa hokx b hb h.symm
      · exact hmx.2 b hb h
    refine ⟨hokx.keep (hcall.block _ hokx.row.lt hf) fun a ha => hcall.block _ (hokx.buf.lt a ha) (hA a ha), by rw [he1]; exact h1, ?_⟩
    intro a a1 ha ha1
    rw [he1] at ha1
    rcases hA1 with h | h
    · exact h2 a a1 ha (by rw [← h]; exact ha1)
    · rw [h] at ha1; cases ha1
      have := hokx.buf.lt a ha
      show a.block ≠ W1.heap.size
      omega
  · rw [he1]
    show (e0.b ++ b).length ≤ _
    rw [List.length_append]
    exact hl
  · cases ok with
    | true => exact Nat.le_trans (len_with_in (hG.here rfl) (by rw [hname]; exact hG.name)) hD.cnt
    | false => exact Nat.le_trans (len_with_le _ _) (hcnt rfl)
  · rw [he1]
    rfl
  · show P.armed - 1 ≤ _
    have := hD.ha
    omega
  · obtain ⟨hf, hA⟩ := hG.at_ (d := d) (m := m)
    refine (Chg.of_ext hwx (Foot d m E)).trans hcall ?_
    rintro k hk (rfl | ⟨a, ha, rfl⟩ | rfl | rfl)
    · exact .inl rfl
    · exact hA a ha
    · rcases hf with hf | hf
      · exact hf
      · omega
    · exact .inr (.inl rfl)
  · obtain ⟨hf, hA⟩ := hG.at_ (d := d) (m := m)
    intro k hk
    rcases foot_with hk with h | h | ⟨a, ha, h⟩
    · exact .inl h
    · rw [he1] at h
      rw [h]
      exact hf
    · rw [he1] at ha
      rcases hA1 with h1 | h1
      · rw [← h]
        exact .inl (hA a (by rw [← h1]; exact ha))
      · rw [h1] at ha; cases ha
        rw [← h]
        exact .inr (by show w.heap.size ≤ W1.heap.size; omega)
end Go.Proofs.YtohphanbnhiodaaGreat

/- loggia/disk: Append. -/
namespace Go.Proofs.YtohphanbnhiodaaGreat
open Go.RowKit Go.Maps

theorem append_no {P : PD} {s b : List UInt8} {k : Nat} (hk : appendM P s b = (P, k)) {base d : Nat} {F : Nat → Prop} {w w1 : World} (h : DS w base d P F) (hE : Ext w w1) : ∀ e, e = Ending.returned (.int .i64 k) → e = .returned (.int .i64 (appendM P s b).2) ∧ DNext base d F w (appendM P s b).1 w1 := by
  rw [hk]
  exact fun e he => ⟨he, F, h.ext hE, Chg.of_ext hE F, fun k hk => .inl hk⟩
set_option maxRecDepth 100000 in
set_option maxHeartbeats 1000000 in
theorem append_bad (base d : Nat) (P : PD) (F : Nat → Prop) (s b : List UInt8) (B : Option Addr) (n c : Nat) (w : World) (h : DS w base d P F) (hs : s.length ≤ 9223372036854775807) (hbad : namedM s = false ∨ P.stopped = true) :
    Calls Tryz.prog 19 #[.pointer (some ⟨d, 0, none⟩), str s, .slice B n c] w fun e w' => e = .returned (.int .i64 (appendM P s b).2) ∧ DNext base d F w (appendM P s b).1 w' := by
  have hmay := may_one base d P F s w h hs
  have hE : Ext w (oneW w s) := (Ext.refl w).alloc _
  obtain ⟨k, hk, hm⟩ : ∃ k : Nat, appendM P s b = (P, k) ∧ mayM [s] P.stopped = k ∧ 0 < k := by
    unfold appendM
    cases hn : namedM s with
    | false => exact ⟨60, rfl, may_bad _ hn, by omega⟩
    | true =>
      rcases hbad with hbad | hbad
      · rw [hn] at hbad; cases hbad
      · rw [hbad]
        exact ⟨63, rfl, may_stop hn, by omega⟩
  rw [hm.1] at hmay
  have hkp := hm.2
  have fin := append_no hk h hE
  have hkd : decide ((k : Int) = 0) = false := decide_eq_false (by omega)
  clear hm hk h
  replace hmay := hide hmay
  replace fin := hide fin
  unfold str
  go_enter Tryz.func19, Tryz.ntmps19
  go_wp2_with fail
  refine hmay.out.mono ?_
  rintro e w1 ⟨rfl, rfl⟩
  go_wp2_with fail
  go_ret
  exact fin.out _ rfl
end Go.Proofs.YtohphanbnhiodaaGreat

/- loggia/disk: Append, the walk. -/
namespace Go.Proofs.YtohphanbnhiodaaGreat
open Go.RowKit Go.Maps

theorem GotD.plain {w W : World} {base d m : Nat} {P : PD} {E : List Ent} {s : List UInt8} {ok : Bool} {e0 : Ent} (hD : DE w base d m P E) (h : GotD w W base E s ok e0) (hn : namedM s = true) (hst : P.stopped = false) (b : List UInt8) :
    appendM P s b = if ok = false ∧ 1024 ≤ E.length then (P, 3) else putM P (s, e0.b, e0.sure) b := by
  unfold appendM
  rw [hn, hst]
  have hl : P.L.length = E.length := by rw [← hD.pl, List.length_map]
  cases ok with
  | true =>
    have : P.find s = some (s, e0.b, e0.sure) := by
      have := hD.find_in (h.here rfl)
      rw [h.name] at this
      rw [this]
      unfold Ent.pl
      rw [h.name]
    rw [this]
    simp
  | false =>
    obtain ⟨h1, h2, h3, _⟩ := h.away rfl
    rw [hD.find_out h1, hl, h2, h3]
    by_cases hc : 1024 ≤ E.length
    · simp [hc]
    · simp [hc]
set_option maxRecDepth 100000 in
set_option maxHeartbeats 2000000 in
theorem append_good (base d : Nat) (P : PD) (F : Nat → Prop) (s b : List UInt8) (B : Option Addr) (n c : Nat) (w : World) (h : DS w base d P F) (hs : s.length ≤ 9223372036854775807) (hb : Bs w B b) (hBF : b ≠ [] → ∀ a, B = some a → ¬ F a.block) (hn : n = b.length) (hn2 : n ≤ 1073741824)
    (hbase : base ≤ w.heap.size) (hnm : namedM s = true) (hst : P.stopped = false) :
    Calls Tryz.prog 19 #[.pointer (some ⟨d, 0, none⟩), str s, .slice B n c] w fun e w' => e = .returned (.int .i64 (appendM P s b).2) ∧ DNext base d F w (appendM P s b).1 w' := by
  have hmay := may_one base d P F s w h hs
  have hE : Ext w (oneW w s) := (Ext.refl w).alloc _
  rw [hst, may_ok hnm] at hmay
  have hS := h
  obtain ⟨m, E, hD0, hF⟩ := h
  have hD : DE (oneW w s) base d m P E := hD0.chg (Chg.of_ext hE (fun _ => False)) (fun _ h => h.elim)
  have c0 : (oneW w s).cell? ⟨d, 0, none⟩ = some (.map (some m)) := Row.cell hD.row 0 rfl
  obtain ⟨fp, ok, hrun, hcase⟩ : ∃ fp ok, (Instr.lookup 71 (.map (some m)) (str s) true).run Tryz.prog (oneW w s) = .ok (.tuple #[fp, .bool ok]) (oneW w s) ∧
      ((∃ e0 ∈ E, e0.name = s ∧ fp = .pointer (some ⟨e0.f, 0, none⟩) ∧ ok = true) ∨ ((∀ e ∈ E, e.name ≠ s) ∧ fp = .pointer none ∧ ok = false)) := by
    rcases hD.lookup s hs (oneW w s) rfl with ⟨e0, he0, hn, hrun⟩ | ⟨hno, hrun⟩
    · exact ⟨_, _, hrun, .inl ⟨e0, he0, hn, rfl, rfl⟩⟩
    · exact ⟨_, _, hrun, .inr ⟨hno, rfl, rfl⟩⟩
  unfold str at hrun ⊢
  replace hcase := hide hcase
  replace hmay := hide hmay
  replace hn := hide hn
  replace hst := hide hst
  replace hnm := hide hnm
  go_enter Tryz.func19, Tryz.ntmps19
  go_wp2_with fail
  refine hmay.out.mono ?_
  rintro e w1 ⟨rfl, rfl⟩
  go_upto_if 28 with (fail)
  go_cut [8, 9] (fun s8 s9 wx => ∃ e0 : Ent, s8 = .pointer (some ⟨e0.f, 0, none⟩) ∧ s9 = .bool ok ∧ Ext w wx ∧ GotD w wx base E s ok e0)
  case first =>
    rcases hcase.out with ⟨e0, he0, hn0, rfl, rfl⟩ | ⟨hno, rfl, rfl⟩
    · go_wp2_with fail
      go_meet
      case rel => exact ⟨e0, rfl, rfl, hE, hn0, hD.fs.ok e0 he0, hD.lens e0 he0, fun _ => he0, nofun⟩
    · have hr := Row.new (oneW w s) 107 #[.slice none 0 0, .int .i64 0]
      have hw1 : (oneW w s).heap.size = w.heap.size + 1 := by simp
      rw [hw1] at hr
      have hE2 := hE.alloc (.cells #[.slice none 0 0, .int .i64 0] 107)
      replace hr := hide hr
      replace hno := hide hno
      go_wp2_with fail
      go_meet
      case rel =>
        refine ⟨⟨s, w.heap.size + 1, [], 0, none, 0⟩, rfl, rfl, hE2, rfl, ⟨hr.out, Buf.nil _ _ _, ?_, by simp⟩, by simp, nofun, fun _ => ⟨hno.out, rfl, rfl, rfl, by simp⟩⟩
        show base ≤ w.heap.size + 1
        omega
  case rest =>
    obtain ⟨e0, rfl, rfl, hwx, hG⟩ := hcut
    obtain ⟨wx, rfl⟩ : ∃ wx, wx = wc := ⟨_, rfl⟩
    have hpl := hG.plain hD0 hnm.out hst.out b
    have hDx : DE wx base d m P E := hD0.chg (Chg.of_ext hwx (fun _ => False)) (fun _ h => h.elim)
    have c0x : wx.cell? ⟨d, 0, none⟩ = some (.map (some m)) := Row.cell hDx.row 0 rfl
    have c1x : wx.cell? ⟨d, 1, none⟩ = some (.int .i64 P.quota) := Row.cell hDx.row 1 rfl
    have cfx : wx.cell? ⟨e0.f, 0, none⟩ = some (.slice e0.A e0.b.length e0.c) := hG.has.row.cell 0 rfl
    have hlen0 := hG.len
    have hcn := hDx.cnt
    obtain ⟨L, hL0, hmem, hlen⟩ := hD0.fs.map
    have hL := hL0.ext hwx
    have hlr := hL.len Tryz.underlying71 3
    obtain ⟨el, hel⟩ : ∃ x, x = E.length := ⟨_, rfl⟩
    obtain ⟨bl, hbl⟩ : ∃ x, x = e0.b.length := ⟨_, rfl⟩
    rw [hlen, ← hel] at hlr
    rw [← hel] at hcn hpl
    rw [← hbl] at cfx hlen0
    have done : ∀ k : Nat, appendM P s b = (P, k) → ∀ e, e = Ending.returned (.int .i64 k) → e = .returned (.int .i64 (appendM P s b).2) ∧ DNext base d F w (appendM P s b).1 wx := fun k hk => append_no hk hS hwx
    replace done := hide done
    replace hel := hide hel
    replace hbl := hide hbl
    replace hmem := hide hmem
    replace hlen := hide hlen
    clear hrun hcase c0
    by_cases hmany : ok = false ∧ 1024 ≤ el
    · rw [if_pos hmany] at hpl
      obtain ⟨rfl, h2⟩ := hmany
      have fin := done.out _ hpl
      replace hpl := hide hpl
      replace fin := hide fin
      go_wp2_with fail
      go_ret
      exact fin.out _ rfl
    · rw [if_neg hmany] at hpl
      unfold putM at hpl
      replace hpl := hide hpl
      go_upto_region 7 with (fail)
      go_cut [31] (fun s31 wy => s31 = .bool false ∧ wy = wx)
      case first =>
        rcases (by cases ok <;> simp : ok = true ∨ ok = false) with hok | hok
        · subst hok
          go_wp2_with fail
          go_meet
          case rel => exact ⟨rfl, rfl⟩
        · subst hok
          have hel2 : el < 1024 := by
            refine Nat.lt_of_not_le fun h => hmany ⟨rfl, h⟩
          go_wp2_with fail
          go_meet
          case rel => exact ⟨congrArg Value.bool (decide_eq_false (by omega)), rfl⟩
      case rest =>
        obtain ⟨rfl, hwy⟩ := hcut
        have hwy3 := hwy.symm
        clear hwy
        subst hwy3
        rw [← hbl.out, ← hn.out] at hpl
        have hpl := hpl.out
        simp only [] at hpl
        by_cases hlong : 67108864 < bl + n
        · rw [if_pos hlong] at hpl
          have fin := done.out _ hpl
          replace hpl := hide hpl
          replace fin := hide fin
          go_wp2_with fail
          go_ret
          exact fin.out _ rfl
        · rw [if_neg hlong] at hpl
          have hlong2 : bl + n ≤ 67108864 := by omega
          have hus := hDx.used_le
          have hup := hDx.used
          have hqb := hDx.hq
          obtain ⟨q, hq⟩ : ∃ q, q = P.quota := ⟨_, rfl⟩
          obtain ⟨us, huse⟩ : ∃ us, us = usedM E := ⟨_, rfl⟩
          have hfull : fullM P n = (decide (0 < q) && decide (0 < n) && decide ((q : Int) - us < n)) := by
            unfold fullM
            rw [hq, huse, hup]
          have hcall : ∀ w0, (w0.cell? ⟨d, 1, none⟩ = some (.int .i64 P.quota) ∧ Ext wx w0) → Calls Tryz.prog 51 #[.pointer (some ⟨d, 0, none⟩)] w0 fun e w' => e = .returned (.int .i64 (usedM E)) ∧ Ext w0 w' := fun w0 hw0 => used_any base d m P.quota P.armed P.stopped E w0 (Row.ext hDx.row hw0.2) (hDx.fs.chg (Chg.of_ext hw0.2 (fun _ => False)) (fun _ h => h.elim)) (by omega)
          rw [← huse] at hus hcall
          rw [← hq] at c1x hqb hcall
          replace hup := hide hup
          replace huse := hide huse
          replace hq := hide hq
          replace hfull := hide hfull
          replace hpl := hide hpl
          replace hcall := hide hcall
          go_upto_region 11 with (fail)
          go_cut [53] (fun s53 wy => s53 = .bool (fullM P n) ∧ Ext wx wy)
          case first =>
            have hS0 : wx.drew.cell? ⟨d, 1, none⟩ = some (.int .i64 q) ∧ Ext wx wx.drew := ⟨c1x, (Ext.refl wx).drew⟩
            have hS1 : wx.cell? ⟨d, 1, none⟩ = some (.int .i64 q) ∧ Ext wx wx := ⟨c1x, Ext.refl wx⟩
            have hkp : ∀ w0 w1 : World, (w0.cell? ⟨d, 1, none⟩ = some (.int .i64 q) ∧ Ext wx w0) → Ext w0 w1 → w1.cell? ⟨d, 1, none⟩ = some (.int .i64 q) ∧ Ext wx w1 := fun w0 w1 h1 h3 => ⟨h3.cell h1.1, h1.2.trans h3⟩
            replace hkp := hide hkp
            replace hS0 := hide hS0
            replace hS1 := hide hS1
            by_cases h1 : 0 < q
            · by_cases h2 : 0 < n
              · go_region_held3 (fun w' => w'.cell? ⟨d, 1, none⟩ = some (.int .i64 q) ∧ Ext wx w') (first | exact hS0.out | exact hS1.out | exact ‹_› | exact hkp.out _ _ ‹_› ‹_›) (first | (go_at_call 51; refine (hcall.out _ ‹_›).mono ?_; rintro e w5 ⟨rfl, hE5⟩))
                go_wp2_with fail
                go_meet
                case rel =>
                  rw [hfull.out]
                  refine ⟨?_, (‹w5.cell? ⟨d, 1, none⟩ = some (.int .i64 q) ∧ Ext wx w5›).2⟩
                  rw [IntWalk.i64_in _ (by omega)]
                  simp [h1, h2]
              · obtain rfl : n = 0 := by omega
                go_quiet (fail)
                go_wp2_with fail
                go_meet
                case rel =>
                  rw [hfull.out]
                  exact ⟨by simp, (Ext.refl wx).drewN _⟩
            · obtain rfl : q = 0 := by omega
              go_quiet (fail)
              go_wp2_with fail
              go_meet
              case rel =>
                rw [hfull.out]
                exact ⟨by simp, (Ext.refl wx).drewN _⟩
          case rest =>
            obtain ⟨hs53, hwy⟩ := hcut
            subst hs53
            have hwy2 : Ext w wc := hwx.trans hwy
            cases hf : fullM P n with
            | true =>
              have hpl2 := hpl.out
              rw [hf, if_pos rfl] at hpl2
              have fin := append_no hpl2 hS hwy2
              replace hpl2 := hide hpl2
              replace hf := hide hf
              replace fin := hide fin
              go_wp2_with fail
              go_ret
              exact fin.out _ rfl
            | false =>
              have hpl2 := hpl.out
              rw [hf, if_neg (by simp)] at hpl2
              have hDy : DE wc base d m P E := hDx.chg (Chg.of_ext hwy (fun _ => False)) (fun _ h => h.elim)
              have hrowy : DRow wc d m P.quota P.armed false := by have := hDy.row; rw [hst.out] at this; exact this
              have hcl := call_any d m P.quota P.armed wc hrowy hDy.ha
              replace hf := hide hf
              replace hpl2 := hide hpl2
              replace hcl := hide hcl
              clear hpl hfull hcall c0x c1x cfx done hlr
              go_wp2_with fail
              refine hcl.out.mono ?_
              rintro e w6 ⟨rfl, hrow6, hc6, hs6⟩
              by_cases ha : P.armed = 1
              · have hpl3 := hpl2.out
                rw [if_pos ha] at hpl3 ⊢
                have hrow6' : DRow w6 d m P.stops.quota P.stops.armed P.stops.stopped := by
                  rw [ha] at hrow6
                  exact hrow6
                have fin : DNext base d F w P.stops w6 := hS.next hF (hDy.own hc6 hrow6' rfl hDy.hq (by show 0 ≤ _; omega)) ((Chg.of_ext hwy2 (Foot d m E)).trans hc6 (fun k _ hk => .inl hk)) (fun k hk => .inl hk)
                replace hpl3 := hide hpl3
                replace fin := hide fin
                replace ha := hide ha
                go_wp2_with fail
                go_ret
                rw [hpl3.out]
                exact ⟨rfl, fin.out⟩
              · have hpl3 := hpl2.out
                rw [if_neg ha] at hpl3 ⊢
                have hrow6' : DRow w6 d m P.quota (P.armed - 1) false := by
                  rw [decide_eq_false ha] at hrow6
                  exact hrow6
                have hG2 : GotD w wc base E s ok e0 := ⟨hG.name, hG.has.keep (Below.block hwy _ hG.has.row.lt) fun a haa => Below.block hwy _ (hG.has.buf.lt a haa), hG.len, hG.here, hG.away⟩
                have hap := hDy.apart
                have hLy := hL.ext hwy
                have hm0 := hG2.has.ne_map hLy
                have hd0 : d ≠ e0.f ∧ ∀ a, e0.A = some a → d ≠ a.block := ⟨Row.unlike hDy.row hG2.has.row (by decide), fun a ha hd => hG2.has.buf.unlike hDy.row (by decide) a ha hd.symm⟩
                have hr6 : Row w6 e0.f 107 #[.slice e0.A e0.b.length e0.c, .int .i64 e0.sure] := hc6.row hG2.has.row fun h => hd0.1 h.symm
                have hb6 : Buf w6 base 5 e0.A e0.b.length e0.c (e0.b.map B8) := hG2.has.buf.chg hc6 fun a haa h => hd0.2 a haa h.symm
                have hB6 : Cells w6 B (b.map B8) := by
                  by_cases hbe : b = []
                  · exact .inl (by rw [hbe]; rfl)
                  · exact hc6.cells (hb.ext hwy2) fun a haa h => hBF hbe a haa ((hF _).2 (.inl h))
                have hL6 : MapL Tryz.prog 9 w6 m L := hLy.keep (hc6.block m hLy.lt fun h => hap.1 h.symm)
                have hsz6 : base ≤ w6.heap.size := Nat.le_trans hbase (Nat.le_trans hwy2.size hc6.size)
                obtain ⟨A1, c1, W2, hrunapp, hbuf2, hg2, hA1⟩ := run_buf elemB w6 34 (c' := c) hb6 hB6 (m := n) (by rw [List.length_map]; exact hn.out.symm) (bytes_one _) (by rw [← hbl.out]; omega) hsz6
                have hown : ∀ g, (∀ a, e0.A = some a → g ≠ a.block) → some g ≠ (Value.slice e0.A e0.b.length e0.c).ownBlock := by
                  intro g hg he
                  rcases hb6.2.2 with ⟨h1, _⟩ | ⟨g', cur, h1, _⟩
                  · rw [h1] at he; cases he
                  · rw [h1] at he
                    exact hg _ h1 (by simpa [Value.ownBlock] using he)
                have hr7 : Row W2 e0.f 107 #[.slice e0.A e0.b.length e0.c, .int .i64 e0.sure] := hr6.grown hg2 (hown _ fun a haa => hG2.has.fa hG2.has a haa)
                have hrow7 : DRow W2 d m P.quota (P.armed - 1) false := Row.grown hrow6' hg2 (hown _ hd0.2)
                have hL7 : MapL Tryz.prog 9 W2 m L := hL6.grown hg2 (fun h => hown m (fun a haa hh => hm0.2 a haa hh.symm) h.symm)
                have hL8 := hL7.set_ (a := ⟨e0.f, 0, none⟩) (.slice A1 (e0.b.length + n) c1) (fun h => hm0.1 h.symm)
                obtain ⟨W4, L', hupd, hL4, hput, hg4, hs4⟩ := hL8.update keyS Tryz.underlying71 (key_str hs) (.pointer (some ⟨e0.f, 0, none⟩))
                have fin : DNext base d F w (P.goes (withG fname (s, e0.b ++ b, e0.sure) P.L)) W4 := by
                  rw [hn.out] at hbuf2 hg4
                  obtain ⟨E', h1, h2, h3⟩ := append_end hD0 hs hwy2 hG2 (fun h => Nat.lt_of_not_le fun h9 => hmany ⟨h, by rw [hel.out]; exact h9⟩) (by rw [← hbl.out, ← hn.out]; exact hlong2) hrow6' hc6 hst.out hbuf2 hg2 hA1 hmem.out hL0 hput hL4 hg4
                  exact hS.next hF h1 h2 h3
                have cf6 : w6.cell? ⟨e0.f, 0, none⟩ = some (.slice e0.A e0.b.length e0.c) := hr6.cell 0 rfl
                have c7 : W2.cell? ⟨e0.f, 0, none⟩ = some (.slice e0.A e0.b.length e0.c) := hr7.cell 0 rfl
                have f7 := hr7.free 0
                have c8 : (W2.setCell ⟨e0.f, 0, none⟩ (.slice A1 (e0.b.length + n) c1)).cell? ⟨d, 0, none⟩ = some (.map (some m)) := (Row.away hrow7 (p := ⟨e0.f, 0, none⟩) hd0.1 _).cell 0 rfl
                unfold str at hupd
                replace hpl3 := hide hpl3
                replace fin := hide fin
                replace ha := hide ha
                replace hname := hide hG.name
                replace hd0 := hide hd0
                replace hap := hide hap
                replace hm0 := hide hm0
                replace hown := hide hown
                replace hA1 := hide hA1
                replace hs4 := hide hs4
                replace hs6 := hide hs6
                replace hkk := hide hwy2
                clear hrow6 hL7 hL8 hL4 hput hg4 hB6 hb6 hbuf2 hr6 hr7 hrow7 hL6 hsz6 hg2 hc6 hLy hL hL0 hG2 hG hDy hDx hD
                go_wp2_with (at_builtin; refine wpList_app_run hrunapp (.tmp 86) (.tmp 87) rfl rfl rfl rfl rfl ?_)
                go_ret
                rw [hpl3.out]
                exact ⟨rfl, fin.out⟩
theorem append_any0 (base d : Nat) (P : PD) (F : Nat → Prop) (s b : List UInt8) (B : Option Addr) (n c : Nat) (w : World) (h : DS w base d P F) (hs : s.length ≤ 9223372036854775807) (hb : Bs w B b) (hBF : b ≠ [] → ∀ a, B = some a → ¬ F a.block) (hn : n = b.length) (hn2 : n ≤ 1073741824)
    (hbase : base ≤ w.heap.size) :
    Calls Tryz.prog 19 #[.pointer (some ⟨d, 0, none⟩), str s, .slice B n c] w fun e w' => e = .returned (.int .i64 (appendM P s b).2) ∧ DNext base d F w (appendM P s b).1 w' := by
  cases hnm : namedM s with
  | false => exact append_bad base d P F s b B n c w h hs (.inl hnm)
  | true =>
    cases hst : P.stopped with
    | true => exact append_bad base d P F s b B n c w h hs (.inr hst)
    | false => exact append_good base d P F s b B n c w h hs hb hBF hn hn2 hbase hnm hst
theorem append_any (base d : Nat) (P : PD) (F : Nat → Prop) (s b : List UInt8) (B : Option Addr) (n c : Nat) (w : World) (h : DS w base d P F) (hs : s.length ≤ 9223372036854775807) (hb : Bs w B b) (hBF : ∀ a, B = some a → ¬ F a.block) (hn : n = b.length) (hn2 : n ≤ 1073741824)
    (hbase : base ≤ w.heap.size) :
    Calls Tryz.prog 19 #[.pointer (some ⟨d, 0, none⟩), str s, .slice B n c] w fun e w' => e = .returned (.int .i64 (appendM P s b).2) ∧ DNext base d F w (appendM P s b).1 w' := append_any0 base d P F s b B n c w h hs hb (fun _ => hBF) hn hn2 hbase
end Go.Proofs.YtohphanbnhiodaaGreat

/- loggia/disk: writes. -/
namespace Go.Proofs.YtohphanbnhiodaaGreat
open Go.RowKit Go.Maps

/-- What a writing call leaves of the disk. -/
def WPost (S : Nat → Prop) (base d m : Nat) (E : List Ent) (P : PD) (w w' : World) : Prop := ∃ E', DE w' base d m P E' ∧ Chg S w w' ∧ ∀ k, Foot d m E' k → Foot d m E k ∨ w.heap.size ≤ k
def WS (d m : Nat) (E : List Ent) (A : Option Addr) (i : Nat) : Prop := Foot d m E i ∨ ∃ a, A = some a ∧ a.block = i
theorem WPost.same {S : Nat → Prop} {base d m : Nat} {E : List Ent} {P : PD} {w w' : World} (hD : DE w' base d m P E) (hc : Chg S w w') : WPost S base d m E P w w' := ⟨E, hD, hc, fun _ h => .inl h⟩
set_option maxRecDepth 100000 in
set_option maxHeartbeats 2000000 in
theorem writes_any (base d m b0 : Nat) (P : PD) (E : List Ent) (s : List UInt8) (ns : List (List UInt8)) (k : Nat) (caps : Array Value) (kk : PF → List PF) (A : Option Addr) (n c : Nat) (w : World) (hD : DE w base d m P E)
    (hs : s.length ≤ 9223372036854775807) (hns : ∀ x ∈ ns, x.length ≤ 9223372036854775807) (hn : n = ns.length) (hn2 : n ≤ 100) (hb0 : b0 ≤ w.heap.size) (ho : w.ownsRow b0 9 1 (.slice A n c) n (ns.map str)) (hA : ∀ a, A = some a → ¬ Foot d m E a.block)
    (hcf : ∀ (args : Array Value) (W : World), (callFunc k args).run Tryz.prog W = .ok (.enter k args) W)
    (hk : ∀ (w1 : World) (e0 : Ent), e0 ∈ E → e0.name = s → Chg (WS d m E A) w w1 → DE w1 base d m (P.goes P.L) E → Calls Tryz.prog k (#[.pointer (some ⟨e0.f, 0, none⟩)] ++ caps) w1 fun e w' => e = .returned (.tuple #[]) ∧ WPost (Foot d m E) base d m E (P.goes (kk e0.pl)) w1 w') :
    Calls Tryz.prog 78 #[.pointer (some ⟨d, 0, none⟩), str s, .func (.func k) #[] caps, .slice A n c] w fun e w' => e = .returned (.int .i64 (writesM P (ns ++ [s]) s kk).2) ∧ WPost (WS d m E A) base d m E (writesM P (ns ++ [s]) s kk).1 w w' := by
  unfold str
  have hown : ∀ g, (Value.slice A n c).ownBlock = some g → ∃ a, A = some a ∧ a.block = g := by
    intro g hg
    cases A with
    | none => cases hg
    | some a =>
      refine ⟨a, rfl, ?_⟩
      rcases ho.2 with ⟨h, _⟩ | ⟨g', cap, cur, h, _⟩
      · cases h
      · cases h
        simpa [Value.ownBlock] using hg
  replace hown := hide hown
  replace hk := hide hk
  replace hcf := hide hcf
  replace hn := hide hn
  go_enter Tryz.func78, Tryz.ntmps78
  go_wp2_with (at_builtin; refine wpList_appN (us := [.string ⟨s.toArray⟩]) elemS ho (.tmp 14) (.tmp 16) rfl rfl rfl rfl (one_of rfl) (by simp; omega) hb0 (fun A1 c1 w3 ho3 hg3 hl3 => ?_))
  have hc3 : Chg (fun i => ∃ a, A = some a ∧ a.block = i) w w3 := Chg.of_grown hg3 fun i _ hi => hown.out i hi
  have hD3 : DE w3 base d m P E := hD.chg hc3 fun i ⟨a, ha, hi⟩ hf => hA a ha (by rw [hi]; exact hf)
  have hc3' : Chg (WS d m E A) w w3 := hc3.mono fun i _ h => .inr h
  have hmay := may_any d m P.quota P.armed P.stopped A1 (n + 1) c1 (ns ++ [s]) w3 hD3.row (by rw [List.length_append, hn.out]; rfl) (by rw [List.map_append]; exact Cells.of_own ho3) (by omega) (by
    intro x hx
    rcases List.mem_append.1 hx with h | h
    · exact hns x h
    · simp at h; rw [h]; exact hs)
  have c0 : w3.cell? ⟨d, 0, none⟩ = some (.map (some m)) := Row.cell hD3.row 0 rfl
  have hl1 : [Value.string ⟨s.toArray⟩].length = 1 := rfl
  simp only [List.length_singleton] at ho3 ⊢
  clear ho3 hl3 hg3 ho hl1
  cases hall : (ns ++ [s]).all namedM with
  | false =>
    have hw : writesM P (ns ++ [s]) s kk = (P, 60) := by unfold writesM; rw [hall]; rfl
    have hm : mayM (ns ++ [s]) P.stopped = 60 := by unfold mayM; rw [hall]; rfl
    rw [hm] at hmay
    have fin : WPost (WS d m E A) base d m E P w w3 := WPost.same hD3 hc3'
    replace hw := hide hw
    replace fin := hide fin
    replace hall := hide hall
    replace hmay := hide hmay
    clear hm
    go_wp2_with fail
    refine hmay.out.mono ?_
    rintro e w1 ⟨rfl, rfl⟩
    go_wp2_with fail
    go_ret
    rw [hw.out]
    exact ⟨rfl, fin.out⟩
  | true =>
    cases hst : P.stopped with
    | true =>
      have hw : writesM P (ns ++ [s]) s kk = (P, 63) := by unfold writesM; rw [hall, hst]; rfl
      have hm : mayM (ns ++ [s]) P.stopped = 63 := by unfold mayM; rw [hall, hst]; rfl
      rw [hm] at hmay
      have fin : WPost (WS d m E A) base d m E P w w3 := WPost.same hD3 hc3'
      replace hw := hide hw
      replace fin := hide fin
      replace hall := hide hall
      replace hst := hide hst
      replace hmay := hide hmay
      clear hm
      go_wp2_with fail
      refine hmay.out.mono ?_
      rintro e w1 ⟨rfl, rfl⟩
      go_wp2_with fail
      go_ret
      rw [hw.out]
      exact ⟨rfl, fin.out⟩
    | false =>
      have hm : mayM (ns ++ [s]) P.stopped = 0 := by unfold mayM; rw [hall, hst]; rfl
      rw [hm] at hmay
      rcases hD3.lookup s hs w3 rfl with ⟨e0, he0, hn0, hrun⟩ | ⟨hno, hrun⟩
      · have hfd : P.find s = some e0.pl := by rw [← hn0]; exact hD3.find_in he0
        have hrow3 : DRow w3 d m P.quota P.armed false := by have := hD3.row; rw [hst] at this; exact this
        have hcl := call_any d m P.quota P.armed w3 hrow3 hD3.ha
        unfold str at hrun
        have hw : writesM P (ns ++ [s]) s kk = if P.armed = 1 then (P.stops, 63) else (P.goes (kk e0.pl), 0) := by unfold writesM; rw [hall, hst, hfd]; rfl
        replace hcl := hide hcl
        replace hw := hide hw
        replace hall := hide hall
        replace hst := hide hst
        replace hmay := hide hmay
        replace hn0 := hide hn0
        clear hm hfd
        go_wp2_with fail
        refine hmay.out.mono ?_
        rintro e w1 ⟨rfl, rfl⟩
        go_wp2_with fail
        refine hcl.out.mono ?_
        rintro e w6 ⟨rfl, hrow6, hc6, hs6⟩
        have hc6' : Chg (WS d m E A) w w6 := hc3'.trans hc6 fun i _ h => .inl (.inl h)
        by_cases ha : P.armed = 1
        · have hw2 := hw.out
          rw [if_pos ha] at hw2 ⊢
          have hrow6' : DRow w6 d m P.stops.quota P.stops.armed P.stops.stopped := by
            rw [ha] at hrow6
            exact hrow6
          have fin : WPost (WS d m E A) base d m E P.stops w w6 := WPost.same (hD3.own hc6 hrow6' rfl hD3.hq (by show 0 ≤ _; omega)) hc6'
          replace hw2 := hide hw2
          replace fin := hide fin
          replace ha := hide ha
          go_wp2_with fail
          go_ret
          rw [hw2.out]
          exact ⟨rfl, fin.out⟩
        · have hw2 := hw.out
          rw [if_neg ha] at hw2 ⊢
          have hrow6' : DRow w6 d m (P.goes P.L).quota (P.goes P.L).armed (P.goes P.L).stopped := by
            rw [decide_eq_false ha] at hrow6
            show DRow w6 d m P.quota (P.armed - 1) P.stopped
            rw [hst.out]
            exact hrow6
          have hDw : DE w6 base d m (P.goes P.L) E := hD3.own hc6 hrow6' rfl hD3.hq (by have := hD3.ha; show P.armed - 1 ≤ _; omega)
          have hkk := hk.out w6 e0 he0 hn0.out hc6' hDw
          replace hw2 := hide hw2
          replace ha := hide ha
          replace hs6 := hide hs6
          replace hkk := hide hkk
          have hcf2 := hcf.out (#[.pointer (some ⟨e0.f, 0, none⟩)] ++ caps) w6
          go_wp2_with fail
          refine hkk.out.mono ?_
          rintro e w7 ⟨rfl, E', h1, h2, h3⟩
          have fin : WPost (WS d m E A) base d m E (P.goes (kk e0.pl)) w w7 := ⟨E', h1, hc6'.trans h2 fun i _ h => .inl h, fun i hi => (h3 i hi).imp_right fun h => Nat.le_trans hc6'.size h⟩
          replace fin := hide fin
          go_wp2_with fail
          go_ret
          rw [hw2.out]
          exact ⟨rfl, fin.out⟩
      · have hw : writesM P (ns ++ [s]) s kk = (P, 61) := by unfold writesM; rw [hall, hst, hD3.find_out hno]; rfl
        unfold str at hrun
        have fin : WPost (WS d m E A) base d m E P w w3 := WPost.same hD3 hc3'
        replace hw := hide hw
        replace fin := hide fin
        replace hall := hide hall
        replace hst := hide hst
        replace hmay := hide hmay
        replace hno := hide hno
        clear hm
        go_wp2_with fail
        refine hmay.out.mono ?_
        rintro e w1 ⟨rfl, rfl⟩
        go_wp2_with fail
        go_ret
        rw [hw.out]
        exact ⟨rfl, fin.out⟩
end Go.Proofs.YtohphanbnhiodaaGreat

/- loggia/disk: Sync, Rename, Remove: what they do to the file. -/
namespace Go.Proofs.YtohphanbnhiodaaGreat
open Go.RowKit Go.Maps

section
variable {w W : World} {base d m : Nat} {P : PD} {E : List Ent} {e0 x : Ent}
theorem DE.got (h : DE w base d m P E) (he : e0 ∈ E) : GotD w w base E e0.name true e0 := ⟨rfl, h.fs.ok e0 he, h.lens e0 he, fun _ => he, nofun⟩
/-- A file whose count of durable bytes has turned. -/
theorem sync_end {L : List PF} (hD : DE w base d m (P.goes P.L) E) (he : e0 ∈ E) :
    WPost (Foot d m E) base d m E (P.goes (withG fname (e0.name, e0.b, e0.b.length) P.L)) w (w.setCell ⟨e0.f, 1, none⟩ (.int .i64 e0.b.length)) := by
  obtain ⟨W, hW⟩ : ∃ W, W = w.setCell ⟨e0.f, 1, none⟩ (.int .i64 e0.b.length) := ⟨_, rfl⟩
  rw [← hW]
  have hc : Chg (fun k => k = e0.f) w W := by rw [hW]; exact Chg.of_set w (a := ⟨e0.f, 1, none⟩) _ rfl
  have hG := hD.got he
  have hok := hD.fs.ok e0 he
  obtain ⟨e1, he1⟩ : ∃ e1 : Ent, e1 = { e0 with sure := e0.b.length } := ⟨_, rfl⟩
  obtain ⟨L, hL, hmem, _⟩ := hD.fs.map
  have hm0 := hok.ne_map hL
  have hok1 : EOk W base e1 := by
    rw [he1]
    refine ⟨?_, hok.buf.chg hc fun a ha h => hok.fa hok a ha h.symm, hok.low, Nat.le_refl _⟩
    rw [hW]
    exact hok.row.put 1 _
  refine ⟨withG Ent.name e1 E, hD.put ?_ ⟨L, hL.keep (hc.block m hL.lt fun h => hm0.1 h.symm), hD.mapSame hmem he (by rw [he1]) (by rw [he1])⟩ ?_ hok1 (by rw [he1]; exact hD.fs.short e0 he) (by rw [he1]; exact hD.lens e0 he) ?_ ?_ hD.hq hD.ha, hc.mono fun k _ hk => .inr (.inr ⟨e0, he, .inl hk⟩), ?_⟩
  · exact hc.row hD.row (Row.unlike hD.row hok.row (by decide))
  · intro x hx hn
    rw [he1] at hn
    obtain ⟨h1, h2⟩ := hG.far hD hx hn
    have hokx := hD.fs.ok x hx
    refine ⟨hokx.keep (hc.block _ hokx.row.lt h1) fun a ha => hc.block _ (hokx.buf.lt a ha) fun h => hok.fa hokx a ha h.symm, by rw [he1]; exact h1, by rw [he1]; exact h2⟩
  · refine Nat.le_trans (len_with_in he (by rw [he1])) hD.cnt
  · rw [he1]
    rfl
  · intro k hk
    rcases foot_with hk with h | h | ⟨a, ha, h⟩
    · exact .inl h
    · rw [he1] at h
      exact .inl (.inr (.inr ⟨e0, he, .inl h⟩))
    · rw [he1] at ha
      exact .inl (.inr (.inr ⟨e0, he, .inr ⟨a, ha, h⟩⟩))
/-- A file dropped from the map. -/
theorem drop_end {s : List UInt8} (hD : DE w base d m (P.goes P.L) E) {L L' : List (Value × Value)} (hmem : ∀ p, p ∈ L ↔ ∃ e ∈ E, p = e.kv) (hL : MapL Tryz.prog 9 w m L)
    (hL' : MapL Tryz.prog 9 W m L') (hp : ∀ p, p ∈ L' ↔ p ∈ L ∧ p.1 ≠ str s) (hg : w.grownBy W (some m)) :
    WPost (Foot d m E) base d m E (P.goes (withoutG fname s P.L)) w W ∧ DE W base d m (P.goes (withoutG fname s P.L)) (withoutG Ent.name s E) ∧ Chg (fun k => k = m) w W := by
  have hc : Chg (fun k => k = m) w W := Chg.of_grown hg fun k _ hk => by cases hk; rfl
  have hDE : DE W base d m (P.goes (withoutG fname s P.L)) (withoutG Ent.name s E) := hD.drop s (hc.row hD.row hD.apart.1) ⟨L', hL', DE.mapDrop hmem hp⟩ (fun x hx => by
    have hokx := hD.fs.ok x hx
    have hmx := hokx.ne_map hL
    exact hokx.keep (hc.block _ hokx.row.lt hmx.1) fun a ha => hc.block _ (hokx.buf.lt a ha) (hmx.2 a ha)) rfl hD.hq hD.ha
  exact ⟨⟨_, hDE, hc.mono fun k _ hk => .inr (.inl hk), fun k hk => .inl (foot_without hk)⟩, hDE, hc⟩
/-- A file dropped, and put under another name. -/
theorem rename_end {w1 w2 : World} {s t : List UInt8} (hD : DE w base d m (P.goes P.L) E) (he : e0 ∈ E) (hn : e0.name = s) (ht : t.length ≤ 9223372036854775807) {L L1 L2 : List (Value × Value)} (hmem : ∀ p, p ∈ L ↔ ∃ e ∈ E, p = e.kv) (hL : MapL Tryz.prog 9 w m L)
    (hL1 : MapL Tryz.prog 9 w1 m L1) (hp : ∀ p, p ∈ L1 ↔ p ∈ L ∧ p.1 ≠ str s) (hg1 : w.grownBy w1 (some m)) (hL2 : MapL Tryz.prog 9 w2 m L2) (hput : Put L1 (str t) (.pointer (some ⟨e0.f, 0, none⟩)) L2) (hg2 : w1.grownBy w2 (some m)) :
    WPost (Foot d m E) base d m E (P.goes (withG fname (t, e0.b, e0.sure) (withoutG fname s P.L))) w w2 := by
  obtain ⟨_, hD1, hc1⟩ := drop_end hD hmem hL hL1 hp hg1
  have hc2 : Chg (fun k => k = m) w1 w2 := Chg.of_grown hg2 fun k _ hk => by cases hk; rfl
  have hmem1 := DE.mapDrop hmem hp
  have hG := hD.got he
  have hok := hD.fs.ok e0 he
  have hm0 := hok.ne_map hL
  obtain ⟨e1, he1⟩ : ∃ e1 : Ent, e1 = { e0 with name := t } := ⟨_, rfl⟩
  have hc : Chg (fun k => k = m) w w2 := hc1.trans hc2 fun _ _ h => h
  have hok1 : EOk w2 base e1 := by
    rw [he1]
    exact ⟨hc.row hok.row hm0.1, hok.buf.chg hc fun a ha h => hm0.2 a ha h, hok.low, hok.sure⟩
  refine ⟨withG Ent.name e1 (withoutG Ent.name s E), hD1.put ?_ ⟨L2, hL2, hD1.mapPut hmem1 ?_⟩ ?_ hok1 (by rw [he1]; exact ht) (by rw [he1]; exact hD.lens e0 he) ?_ ?_ hD.hq hD.ha, hc.mono fun k _ hk => .inr (.inl hk), ?_⟩
  · exact hc.row hD.row hD.apart.1
  · rw [he1]
    exact hput
  · intro x hx hxn
    obtain ⟨hxE, hxs⟩ := mem_without.1 hx
    obtain ⟨h1, h2⟩ := hG.far hD hxE (by rw [hn]; exact hxs)
    have hokx := hD.fs.ok x hxE
    have hmx := hokx.ne_map hL
    refine ⟨hokx.keep (hc.block _ hokx.row.lt hmx.1) fun a ha => hc.block _ (hokx.buf.lt a ha) (hmx.2 a ha), by rw [he1]; exact h1, by rw [he1]; exact h2⟩
  · have h1 := len_with_le (nm := Ent.name) e1 (withoutG Ent.name s E)
    have h2 := len_without_lt (nm := Ent.name) he hn
    have := hD.cnt
    omega
  · rw [he1]
    rfl
  · intro k hk
    rcases foot_with hk with h | h | ⟨a, ha, h⟩
    · exact .inl (foot_without h)
    · rw [he1] at h
      exact .inl (.inr (.inr ⟨e0, he, .inl h⟩))
    · rw [he1] at ha
      exact .inl (.inr (.inr ⟨e0, he, .inr ⟨a, ha, h⟩⟩))
end
end Go.Proofs.YtohphanbnhiodaaGreat

/- loggia/disk: Sync, Rename, Remove. -/
namespace Go.Proofs.YtohphanbnhiodaaGreat
open Go.RowKit Go.Maps

set_option maxRecDepth 100000 in
theorem sync1_any (base d m : Nat) (P : PD) (E : List Ent) (e0 : Ent) (w : World) (hD : DE w base d m (P.goes P.L) E) (he : e0 ∈ E) :
    Calls Tryz.prog 79 #[.pointer (some ⟨e0.f, 0, none⟩)] w fun e w' => e = .returned (.tuple #[]) ∧ WPost (Foot d m E) base d m E (P.goes (withG fname (e0.name, e0.b, e0.b.length) P.L)) w w' := by
  have hr := (hD.fs.ok e0 he).row
  have c0 : w.cell? ⟨e0.f, 0, none⟩ = some (.slice e0.A e0.b.length e0.c) := hr.cell 0 rfl
  have c1 : w.cell? ⟨e0.f, 1, none⟩ = some (.int .i64 e0.sure) := hr.cell 1 rfl
  have f1 := hr.free 1
  have fin := sync_end (L := []) hD he
  replace fin := hide fin
  go_enter Tryz.func79, Tryz.ntmps79
  go_wp2_with fail
  go_end0
  exact ⟨rfl, fin.out⟩
theorem calls_fn (k : Nat) (h : ∀ (args : Array Value) (W : World), (callFunc k args).run Tryz.prog W = .ok (.enter k args) W) : ∀ (args : Array Value) (W : World), (callFunc k args).run Tryz.prog W = .ok (.enter k args) W := h
theorem ws_nil {d m : Nat} {E : List Ent} {i : Nat} (h : WS d m E none i) : Foot d m E i := by
  rcases h with h | ⟨a, ha, _⟩
  · exact h
  · cases ha
theorem WPost.mono {S S' : Nat → Prop} {base d m : Nat} {E : List Ent} {P : PD} {w w' : World} (h : WPost S base d m E P w w') (hs : ∀ i, i < w.heap.size → S i → S' i) : WPost S' base d m E P w w' := by
  obtain ⟨E', h1, h2, h3⟩ := h
  exact ⟨E', h1, h2.mono hs, h3⟩
theorem WPost.next {base d m : Nat} {E : List Ent} {P P' : PD} {F : Nat → Prop} {w w1 w' : World} (h : WPost (Foot d m E) base d m E P' w1 w') (hS : DS w base d P F) (hF : ∀ k, F k ↔ Foot d m E k) (he : Ext w w1) : DNext base d F w P' w' := by
  obtain ⟨E', h1, h2, h3⟩ := h
  exact hS.next hF h1 ((Chg.of_ext he (Foot d m E)).trans h2 fun _ _ h => h) fun k hk => (h3 k hk).imp_right fun h => Nat.le_trans he.size h
set_option maxRecDepth 100000 in
theorem sync_any (base d : Nat) (P : PD) (F : Nat → Prop) (s : List UInt8) (w : World) (h : DS w base d P F) (hs : s.length ≤ 9223372036854775807) :
    Calls Tryz.prog 41 #[.pointer (some ⟨d, 0, none⟩), str s] w fun e w' => e = .returned (.int .i64 (syncM P s).2) ∧ DNext base d F w (syncM P s).1 w' := by
  have hS := h
  obtain ⟨m, E, hD, hF⟩ := h
  have hw := writes_any base d m w.heap.size P E s [] 79 #[] (fun f => withG fname (f.1, f.2.1, f.2.1.length) P.L) none 0 0 w hD hs (by simp) rfl (by omega) (Nat.le_refl _) (World.ownsRow_nil _ _ _ _) nofun (fun args W => by kernel_rfl)
    (fun w1 e0 he hn _ hD1 => sync1_any base d m P E e0 w1 hD1 he)
  have hsy : syncM P s = writesM P ([] ++ [s]) s (fun f => withG fname (f.1, f.2.1, f.2.1.length) P.L) := rfl
  rw [← hsy] at hw
  unfold str at hw ⊢
  replace hw := hide hw
  clear hsy
  go_enter Tryz.func41, Tryz.ntmps41
  go_wp2_with fail
  refine hw.out.mono ?_
  rintro e w1 ⟨rfl, h1⟩
  go_wp2_with fail
  go_ret
  exact ⟨rfl, (h1.mono fun i _ hi => ws_nil hi).next hS hF (Ext.refl _)⟩
theorem grown_of_drew {w w1 : World} {r : Option Nat} (h : w.drew.grownBy w1 r) : w.grownBy w1 r := ⟨h.os, h.tape, h.output, h.size, h.block⟩
set_option maxRecDepth 100000 in
theorem remove1_any (base d m bd bn : Nat) (P : PD) (E : List Ent) (s : List UInt8) (w : World) (hD : DE w base d m (P.goes P.L) E) (hs : s.length ≤ 9223372036854775807) (f : Value) (hd : w.cell? ⟨bd, 0, none⟩ = some (.pointer (some ⟨d, 0, none⟩))) (hn : w.cell? ⟨bn, 0, none⟩ = some (str s)) :
    Calls Tryz.prog 86 #[f, .pointer (some ⟨bd, 0, none⟩), .pointer (some ⟨bn, 0, none⟩)] w fun e w' => e = .returned (.tuple #[]) ∧ WPost (Foot d m E) base d m E (P.goes (withoutG fname s P.L)) w w' := by
  obtain ⟨L, hL, hmem, _⟩ := hD.fs.map
  have c0 : w.cell? ⟨d, 0, none⟩ = some (.map (some m)) := Row.cell hD.row 0 rfl
  obtain ⟨L', w1, hrun, hL', hp, hg, _⟩ := hL.drew.delete keyS Tryz.underlying71 (key_str hs) 9 0
  have fin := (drop_end (W := w1) hD hmem hL hL' hp (grown_of_drew hg)).1
  unfold str at hrun hn
  replace fin := hide fin
  clear hL' hp hg hL
  go_enter Tryz.func86, Tryz.ntmps86
  refine wp_region_text follows (by kernel_rfl) (by kernel_rfl) (fun K hK => ?_)
  go_wp2_with fail
  refine ⟨by kernel_rfl, ?_⟩
  go_wp2_with fail
  go_end0
  exact ⟨rfl, fin.out⟩
end Go.Proofs.YtohphanbnhiodaaGreat

/- loggia/disk: Rename, Remove. -/
namespace Go.Proofs.YtohphanbnhiodaaGreat
open Go.RowKit Go.Maps

theorem cell_alloc (w : World) (v : Value) (t : TypeId) : (w.alloc (.cells #[v] t)).cell? ⟨w.heap.size, 0, none⟩ = some v := by
  rw [cell_of_row _ _ _ _ _ _ (heap_alloc_new w _)]
  rfl
theorem size_alloc (w : World) (o : Obj) : (w.alloc o).heap.size = w.heap.size + 1 := by simp
set_option maxRecDepth 100000 in
theorem remove_any (base d : Nat) (P : PD) (F : Nat → Prop) (s : List UInt8) (w : World) (h : DS w base d P F) (hs : s.length ≤ 9223372036854775807) :
    Calls Tryz.prog 48 #[.pointer (some ⟨d, 0, none⟩), str s] w fun e w' => e = .returned (.int .i64 (removeM P s).2) ∧ DNext base d F w (removeM P s).1 w' := by
  have hS := h
  obtain ⟨m, E, hD0, hF⟩ := h
  obtain ⟨W1, hW1⟩ : ∃ W1, W1 = w.alloc (.cells #[.pointer (some ⟨d, 0, none⟩)] 23) := ⟨_, rfl⟩
  obtain ⟨W2, hW2⟩ : ∃ W2, W2 = W1.alloc (.cells #[str s] 9) := ⟨_, rfl⟩
  have hE1 : Ext w W1 := by rw [hW1]; exact (Ext.refl w).alloc _
  have hE2 : Ext W1 W2 := by rw [hW2]; exact (Ext.refl W1).alloc _
  have hs1 : W1.heap.size = w.heap.size + 1 := by rw [hW1]; exact size_alloc _ _
  have c1 : W1.cell? ⟨w.heap.size, 0, none⟩ = some (.pointer (some ⟨d, 0, none⟩)) := by rw [hW1]; exact cell_alloc _ _ _
  have c2 : W2.cell? ⟨w.heap.size + 1, 0, none⟩ = some (str s) := by rw [hW2, ← hs1]; exact cell_alloc _ _ _
  have c1' := hE2.cell c1
  have hD : DE W2 base d m P E := hD0.chg (Chg.of_ext (hE1.trans hE2) (fun _ => False)) (fun _ h => h.elim)
  have hnf : ∀ k, w.heap.size ≤ k → ¬ Foot d m E k := fun k hk hf => by have := hD0.lt hf; omega
  have hw := writes_any base d m W2.heap.size P E s [] 86 #[.pointer (some ⟨w.heap.size, 0, none⟩), .pointer (some ⟨w.heap.size + 1, 0, none⟩)] (fun _ => withoutG fname s P.L) none 0 0 W2 hD hs (by simp) rfl (by omega) (Nat.le_refl _) (World.ownsRow_nil _ _ _ _) nofun (fun args W => by kernel_rfl)
    (fun w1 e0 he hn hc hD1 => remove1_any base d m _ _ P E s w1 hD1 hs _ (hc.cell c1' fun hk => hnf _ (Nat.le_refl _) (ws_nil hk)) (hc.cell c2 fun hk => hnf _ (Nat.le_succ _) (ws_nil hk)))
  have hsy : removeM P s = writesM P ([] ++ [s]) s (fun _ => withoutG fname s P.L) := rfl
  rw [← hsy] at hw
  have hE := hE1.trans hE2
  rw [hW2, hW1] at hw hE
  unfold str at hw hE ⊢
  replace hw := hide hw
  clear hsy hW1 hW2 c1' c1 c2 hs1 hD hE1 hE2
  go_enter Tryz.func48, Tryz.ntmps48
  go_wp2_with fail
  refine hw.out.mono ?_
  rintro e w1 ⟨rfl, h1⟩
  go_wp2_with fail
  go_ret
  exact ⟨rfl, (h1.mono fun i _ hi => ws_nil hi).next hS hF hE⟩
end Go.Proofs.YtohphanbnhiodaaGreat

/- loggia/disk: Restart, what it needs. -/
namespace Go.Proofs.YtohphanbnhiodaaGreat
open Go.RowKit Go.Maps

/-- How many bytes are left of a file. -/
def Ent.left (e : Ent) (k : Option Int) : Nat := leftM e.pl k
def Ent.cut (e : Ent) (n : Nat) : Ent := { e with b := e.b.take n, sure := n, c := n }
def keptE (E : List Ent) (keep : List Int) : List Ent := E.mapIdx fun j e => e.cut (e.left keep[j]?)
theorem left_le (e : Ent) (h : e.sure ≤ e.b.length) (k : Option Int) : e.left k ≤ e.b.length := by
  cases k with
  | none => exact h
  | some k =>
    show e.sure + (k % ((e.b.length : Int) - e.sure + 1)).toNat ≤ e.b.length
    have h1 := Int.emod_nonneg k (show (e.b.length : Int) - e.sure + 1 ≠ 0 by omega)
    have h2 := Int.emod_lt_of_pos k (show 0 < (e.b.length : Int) - e.sure + 1 by omega)
    omega
theorem kept_get {E : List Ent} {keep : List Int} {j : Nat} {x : Ent} (h : (keptE E keep)[j]? = some x) : ∃ e : Ent, E[j]? = some e ∧ x = e.cut (e.left keep[j]?) := by
  unfold keptE at h
  rw [List.getElem?_mapIdx] at h
  cases he : E[j]? with
  | none => rw [he] at h; cases h
  | some e =>
    rw [he] at h
    exact ⟨e, rfl, (Option.some.inj h).symm⟩
theorem kept_pl (E : List Ent) (keep : List Int) : (keptE E keep).map Ent.pl = keptM (E.map Ent.pl) keep := by
  apply List.ext_getElem?
  intro j
  unfold keptE keptM
  rw [List.getElem?_map, List.getElem?_mapIdx, List.getElem?_mapIdx, List.getElem?_map]
  cases E[j]? <;> rfl
theorem kept_mem {E : List Ent} {keep : List Int} {x : Ent} (h : x ∈ keptE E keep) : ∃ (j : Nat) (e : Ent), E[j]? = some e ∧ x = e.cut (e.left keep[j]?) := by
  obtain ⟨j, hj⟩ := List.getElem?_of_mem h
  obtain ⟨e, he, hx⟩ := kept_get hj
  exact ⟨j, e, he, hx⟩
theorem kept_pw {R : Ent → Ent → Prop} {E : List Ent} {keep : List Int} (h : E.Pairwise R) (hr : ∀ a b i k, R a b → R (a.cut i) (b.cut k)) : (keptE E keep).Pairwise R := by
  rw [List.pairwise_iff_getElem] at h ⊢
  intro i j hi hj hij
  have hl : (keptE E keep).length = E.length := by unfold keptE; simp
  have hg : ∀ (i : Nat) (hi : i < (keptE E keep).length), (keptE E keep)[i] = (E[i]'(by omega)).cut ((E[i]'(by omega)).left keep[i]?) := fun i hi => List.getElem_mapIdx ..
  rw [hg i hi, hg j hj]
  exact hr _ _ _ _ (h i j (by omega) (by omega) hij)
theorem kept_len (E : List Ent) (keep : List Int) : (keptE E keep).length = E.length := by unfold keptE; simp
theorem kept_in {E : List Ent} {keep : List Int} {e : Ent} (h : e ∈ E) : ∃ n, e.cut n ∈ keptE E keep := by
  obtain ⟨j, hj⟩ := List.getElem?_of_mem h
  refine ⟨e.left keep[j]?, List.mem_of_getElem? (i := j) ?_⟩
  unfold keptE
  rw [List.getElem?_mapIdx, hj]
  rfl
/-- Where Restart has come to: the first i files are cut. -/
structure Cut (w wr : World) (base m : Nat) (E : List Ent) (keep : List Int) (i : Nat) : Prop where
  chg : Chg (fun k => ∃ e ∈ E, k = e.f) w wr
  now : ∀ j e, E[j]? = some e → Row wr e.f 107 (if j < i then #[.slice e.A (e.left keep[j]?) (e.left keep[j]?), .int .i64 (e.left keep[j]?)] else #[.slice e.A e.b.length e.c, .int .i64 e.sure])
section
variable {w wr w1 : World} {base d m : Nat} {P : PD} {E : List Ent} {keep : List Int}
theorem Cut.start (hD : DE w base d m P E) : Cut w w base m E keep 0 := ⟨Chg.refl _ _, fun j e h => by
  rw [if_neg (by omega)]
  exact (hD.fs.ok e (List.mem_of_getElem? h)).row⟩
theorem Cut.step {i : Nat} {e : Ent} (hD : DE w base d m P E) (h : Cut w wr base m E keep i) (he : E[i]? = some e) {v : Value} (hv : v = .slice e.A (e.left keep[i]?) (e.left keep[i]?)) {u : Value} (hu : u = .int .i64 (e.left keep[i]?)) :
    Cut w ((wr.setCell ⟨e.f, 0, none⟩ v).setCell ⟨e.f, 1, none⟩ u) base m E keep (i + 1) := by
  subst hv hu
  have hm := List.mem_of_getElem? he
  refine ⟨(h.chg.trans (Chg.of_set (S := fun k => k = e.f) wr (a := ⟨e.f, 0, none⟩) _ rfl) fun k _ hk => ⟨e, hm, hk⟩).trans (Chg.of_set (S := fun k => k = e.f) _ (a := ⟨e.f, 1, none⟩) _ rfl) fun k _ hk => ⟨e, hm, hk⟩, fun j x hx => ?_⟩
  have hr := h.now j x hx
  by_cases hji : j = i
  · subst hji
    obtain rfl : x = e := Option.some.inj (hx.symm.trans he)
    rw [if_neg (by omega)] at hr
    rw [if_pos (by omega)]
    exact (hr.put 0 _).put 1 _
  · have hne : x.f ≠ e.f := by
      have hjl := (List.getElem?_eq_some_iff.1 hx)
      have hil := (List.getElem?_eq_some_iff.1 he)
      obtain ⟨hj1, hj2⟩ := hjl
      obtain ⟨hi1, hi2⟩ := hil
      have hp := List.pairwise_iff_getElem.1 hD.fs.fd
      rcases Nat.lt_or_gt_of_ne hji with hlt | hlt
      · have := hp j i hj1 hi1 hlt
        rw [hj2, hi2] at this
        exact this
      · have := hp i j hi1 hj1 hlt
        rw [hj2, hi2] at this
        exact fun hh => this hh.symm
    by_cases hlt : j < i
    · rw [if_pos hlt] at hr
      rw [if_pos (by omega)]
      exact (hr.away (p := ⟨e.f, 0, none⟩) hne _).away (p := ⟨e.f, 1, none⟩) hne _
    · rw [if_neg hlt] at hr
      rw [if_neg (by omega)]
      exact (hr.away (p := ⟨e.f, 0, none⟩) hne _).away (p := ⟨e.f, 1, none⟩) hne _
theorem cut_end (hD : DE w base d m P E) (h : Cut w wr base m E keep E.length) {wf : World} (hf : wf = (wr.setCell ⟨d, 3, none⟩ (.bool false)).setCell ⟨d, 2, none⟩ (.int .i64 0)) :
    DE wf base d m (restartM P keep) (keptE E keep) ∧ Chg (Foot d m E) w wf ∧ ∀ k, Foot d m (keptE E keep) k → Foot d m E k := by
  have hap := hD.apart
  have hcd : Chg (fun k => k = d) wr wf := by
    rw [hf]
    exact (Chg.of_set (S := fun k => k = d) wr (a := ⟨d, 3, none⟩) _ rfl).trans (Chg.of_set (S := fun k => k = d) _ (a := ⟨d, 2, none⟩) _ rfl) fun _ _ h => h
  obtain ⟨L, hL, hmem, _⟩ := hD.fs.map
  have hrow : DRow wf d m P.quota 0 false := by
    have h1 : Row wr d 73 _ := h.chg.row hD.row fun ⟨e, he, hh⟩ => (hap.2 e he).1 hh
    rw [hf]
    exact (h1.put 3 _).put 2 _
  have hup : Up Ent.name (keptE E keep) := kept_pw hD.up fun _ _ _ _ h => h
  refine ⟨⟨hrow, ⟨⟨L, hL.keep ((hcd.block m (Nat.lt_of_lt_of_le hL.lt h.chg.size) fun hh => hap.1 hh.symm).trans (h.chg.block m hL.lt fun ⟨e, he, hh⟩ => ((hD.fs.ok e he).ne_map hL).1 hh.symm)), ?_, ?_⟩, ?_, hD.fs.low, hup.nodup, ?_, kept_pw hD.fs.fd fun _ _ _ _ h => h, kept_pw hD.fs.ad fun _ _ _ _ h => h⟩, hD.low, hup, by rw [kept_len]; exact hD.cnt, ?_, ?_, hD.hq, by show 0 ≤ _; omega⟩, ?_, ?_⟩
  · intro p
    rw [hmem]
    constructor
    · rintro ⟨e, he, rfl⟩
      obtain ⟨n, hn⟩ := kept_in (keep := keep) he
      exact ⟨_, hn, rfl⟩
    · rintro ⟨x, hx, rfl⟩
      obtain ⟨j, e, he, rfl⟩ := kept_mem hx
      exact ⟨e, List.mem_of_getElem? he, rfl⟩
  · rw [kept_len]
    exact kv_len hL hD.up hmem
  · intro x hx
    obtain ⟨j, e, he, rfl⟩ := kept_mem hx
    have hm := List.mem_of_getElem? he
    have hok := hD.fs.ok e hm
    have hj : j < E.length := (List.getElem?_eq_some_iff.1 he).1
    have hr := h.now j e he
    rw [if_pos hj] at hr
    have hle := left_le e hok.sure keep[j]?
    have hlen : (e.b.take (e.left keep[j]?)).length = e.left keep[j]? := by rw [List.length_take]; omega
    refine ⟨?_, ?_, hok.low, ?_⟩
    · show Row wf e.f _ #[.slice e.A (e.b.take (e.left keep[j]?)).length (e.left keep[j]?), .int .i64 (e.left keep[j]?)]
      rw [hlen]
      exact hcd.row hr fun hh => (hap.2 e hm).1 hh.symm
    · show Buf wf base 5 e.A (e.b.take (e.left keep[j]?)).length (e.left keep[j]?) ((e.b.take (e.left keep[j]?)).map B8)
      rw [hlen, List.map_take]
      have hb := hok.buf.cut (m := e.left keep[j]?) (k := e.left keep[j]?) hle (Nat.le_refl _) (Nat.le_trans hle hok.buf.2.1)
      refine (hb.chg h.chg ?_).chg hcd ?_
      · rintro a ha ⟨e', he', hh⟩
        exact (hD.fs.ok e' he').fa hok a ha hh.symm
      · intro a ha hh
        exact (hap.2 e hm).2 a ha hh.symm
    · show e.left keep[j]? ≤ (e.b.take (e.left keep[j]?)).length
      rw [hlen]
      exact Nat.le_refl _
  · intro x hx
    obtain ⟨j, e, he, rfl⟩ := kept_mem hx
    exact hD.fs.short e (List.mem_of_getElem? he)
  · intro x hx
    obtain ⟨j, e, he, rfl⟩ := kept_mem hx
    show (e.b.take (e.left keep[j]?)).length ≤ 67108864
    rw [List.length_take]
    have := hD.lens e (List.mem_of_getElem? he)
    omega
  · rw [kept_pl, hD.pl]
    rfl
  · refine (h.chg.mono (S' := Foot d m E) fun k _ ⟨e, he, hk⟩ => .inr (.inr ⟨e, he, .inl hk⟩)).trans hcd fun k _ hk => .inl hk
  · rintro k (h | h | ⟨x, hx, h⟩)
    · exact .inl h
    · exact .inr (.inl h)
    · obtain ⟨j, e, he, rfl⟩ := kept_mem hx
      exact .inr (.inr ⟨e, List.mem_of_getElem? he, h⟩)
end
set_option maxRecDepth 100000 in
/-- x[:n:n] -/
theorem run_cut {t e n c k : Nat} {A : Option Addr} (ht : Tryz.prog.underlying t = some (.slice e)) (hs : ∀ W : World, (sizeOf e).run Tryz.prog W = .ok 1 W) (h : k ≤ c) (hA : ∀ a, A = some a → a.spot = none) (W : World) :
    (Instr.sliceAt t (.slice A n c) none (some (.int .i64 k)) (some (.int .i64 k))).run Tryz.prog W = .ok (.slice A k k) W := by
  have he : Tryz.prog.elem t = e := by unfold Program.elem; rw [ht]
  rw [run_sliceAt_slice W t _ _ _ _ (by rw [ht, he]), run_slice_hm W t A n c (by rw [ht, he]) .i64 .i64 k k (by omega) (by omega) (by omega), he, hs]
  simp only [Result.andThen_ok]
  congr 1
  unfold sliced
  have : (if ((k : Int).toNat) = 0 then A else A.map fun x => x.add (0 * 1)) = A := by
    cases A with
    | none => simp
    | some a =>
      obtain ⟨b, o, sp⟩ := a
      obtain rfl : sp = none := hA _ rfl
      simp [Addr.add_lit]
  rw [this]
  simp
end Go.Proofs.YtohphanbnhiodaaGreat

/- loggia/disk: Restart. -/
namespace Go.Proofs.YtohphanbnhiodaaGreat
open Go.RowKit Go.Maps

theorem DE.lookup1 {w : World} {base d m : Nat} {P : PD} {E : List Ent} {e : Ent} (h : DE w base d m P E) (he : e ∈ E) (W : World) (hW : W.heap[m]? = w.heap[m]?) :
    (Instr.lookup 71 (.map (some m)) (str e.name) false).run Tryz.prog W = .ok (.pointer (some ⟨e.f, 0, none⟩)) W := by
  obtain ⟨L, hL, hmem, _⟩ := h.fs.map
  rcases (hL.keep hW).look keyS Tryz.underlying71 (x := str e.name) (z := .pointer none) (key_str (h.fs.short e he)) (by kernel_rfl) false with ⟨v, hv, hrun⟩ | ⟨hno, hrun⟩
  · have : v = .pointer (some ⟨e.f, 0, none⟩) := (hL.keep hW).unique hv ((hmem e.kv).2 ⟨e, he, rfl⟩)
    rw [this] at hrun
    exact hrun
  · exact (hno e.kv ((hmem _).2 ⟨e, he, rfl⟩) rfl).elim
theorem Cut.drew {w wr : World} {base m : Nat} {E : List Ent} {keep : List Int} {i : Nat} (h : Cut w wr base m E keep i) : Cut w wr.drew base m E keep i :=
  ⟨h.chg.trans (Chg.of_ext (Ext.refl wr).drew (fun _ => False)) (fun _ _ h => h.elim), fun j e he => (h.now j e he).drew⟩
def I64 (k : Int) : Value := .int .i64 k
theorem tmod_is (k m : Int) (hm : 0 < m) : k.tmod m = k % m ∨ (k.tmod m = k % m - m ∧ k % m ≠ 0) := by
  rw [Int.tmod_eq_emod]
  have hn : (m.natAbs : Int) = m := by omega
  by_cases h3 : 0 ≤ k ∨ m ∣ k
  · rw [if_pos h3]
    exact .inl (by omega)
  · rw [if_neg h3, hn]
    exact .inr ⟨rfl, fun h => h3 (.inr (Int.dvd_of_emod_eq_zero h))⟩
theorem tmod_bd (k m : Int) (hm : 0 < m) : -m < k.tmod m ∧ k.tmod m < m := by
  have h1 := Int.emod_nonneg k (show m ≠ 0 by omega)
  have h2 := Int.emod_lt_of_pos k hm
  rcases tmod_is k m hm with h | ⟨h, h3⟩ <;> omega
/-- What Go's way of reckoning it gives. -/
theorem go_mod (k m : Int) (hm : 0 < m) : (k.tmod m + m).tmod m = k % m := by
  have hb := tmod_bd k m hm
  rw [Int.tmod_eq_emod_of_nonneg (by omega), Int.add_emod_right]
  rcases tmod_is k m hm with h | ⟨h, _⟩
  · rw [h, Int.emod_emod]
  · rw [h, Int.sub_emod_right, Int.emod_emod]
set_option maxRecDepth 100000 in
set_option maxHeartbeats 2000000 in
theorem restart_any0 (base d : Nat) (P : PD) (F : Nat → Prop) (K : Option Addr) (kn kc : Nat) (keep : List Int) (w : World) (h : DS w base d P F) (hK : Cells w K (keep.map I64)) (hKF : keep ≠ [] → ∀ a, K = some a → ¬ F a.block) (hkn : kn = keep.length)
    (hkb : ∀ k ∈ keep, -9223372036854775808 ≤ k ∧ k ≤ 9223372036854775807) (hkl : kn ≤ 9223372036854775807) :
    Calls Tryz.prog 23 #[.pointer (some ⟨d, 0, none⟩), .slice K kn kc] w fun e w' => e = .returned (.tuple #[]) ∧ DNext base d F w (restartM P keep) w' := by
  have hS := h
  obtain ⟨m, E, hD, hF⟩ := h
  have h0 := none_any d m P.quota P.armed P.stopped w hD.row
  have hnm := names_any base d m P.quota P.armed P.stopped E w hD.row hD.fs hD.cnt
  rw [sortN_eq hD.up.le] at hnm
  replace h0 := hide h0
  replace hnm := hide hnm
  replace hkn := hide hkn
  go_enter Tryz.func23, Tryz.ntmps23
  go_wp2_with fail
  refine h0.out.mono ?_
  rintro e w1 ⟨rfl, rfl⟩
  go_wp2_with fail
  refine hnm.out.mono ?_
  rintro e w2 ⟨A, n, c, rfl, hn, hbuf, hE⟩
  have hD2 : DE w2 base d m P E := hD.chg (Chg.of_ext hE (fun _ => False)) (fun _ h => h.elim)
  have hnc := hD.cnt
  have hn2 : n ≤ 1024 := by omega
  have hst := Cut.start (keep := keep) hD2
  replace hn := hide hn
  go_wp2_with fail
  go_loopw [14] (fun s14 wr => ∃ i : Nat, s14 = .int .i64 i ∧ i ≤ n ∧ Hid (Cut w2 wr base m E keep i)) (fun s14 _ => n - (intOf s14).toNat)
  case atStart => exact ⟨0, rfl, by omega, hide hst⟩
  case round =>
    obtain ⟨i, rfl, hi, hcut⟩ := hrel
    by_cases hin : i < n
    · have hil : i < E.length := by rw [← hn.out]; exact hin
      obtain ⟨e, he⟩ : ∃ e, E[i]? = some e := ⟨_, List.getElem?_eq_getElem hil⟩
      have hm := List.mem_of_getElem? he
      have hc := hcut.out.chg
      have hap := hD2.apart
      obtain ⟨g, o, rfl, hcl⟩ := hbuf.cells.at_ (by rw [List.length_map, List.length_map]; omega)
      have hgb : w1.heap.size ≤ g := hbuf.base_le _ rfl
      have cn : w2.cell? ⟨g, o + i, none⟩ = some (str e.name) := hcl i _ (by simp [he])
      have cnr : wr.cell? ⟨g, o + i, none⟩ = some (str e.name) := hc.cell cn fun ⟨e', he', hh⟩ => by
        have h1 := (hD.fs.ok e' he').row.lt
        have h2 : g = e'.f := hh
        omega
      have c0 : wr.cell? ⟨d, 0, none⟩ = some (.map (some m)) := (Chg.row hc hD2.row fun ⟨e', he', hh⟩ => (hap.2 e' he').1 hh).cell 0 rfl
      have hmb : wr.heap[m]? = w2.heap[m]? := by
        obtain ⟨L, hL, hmem, _⟩ := hD2.fs.map
        exact hc.block m hL.lt fun ⟨e', he', hh⟩ => ((hD2.fs.ok e' he').ne_map hL).1 hh.symm
      have hlk := hD2.lookup1 hm wr hmb
      have hr := hcut.out.now i e he
      rw [if_neg (by omega)] at hr
      have cf0 : wr.cell? ⟨e.f, 0, none⟩ = some (.slice e.A e.b.length e.c) := hr.cell 0 rfl
      have cf1 : wr.cell? ⟨e.f, 1, none⟩ = some (.int .i64 e.sure) := hr.cell 1 rfl
      have f0 := hr.free 0
      have f1 := hr.free 1
      have hok := hD2.fs.ok e hm
      have hsu := hok.sure
      have hbl := hD2.lens e hm
      have hbc := hok.buf.2.1
      have hsp : ∀ a, e.A = some a → a.spot = none := by
        intro a hA
        rcases hok.buf.2.2 with h | ⟨g, cur, hg, _⟩
        · rw [hA] at h; cases h.1
        · rw [hA] at hg; cases hg; rfl
      obtain ⟨left, hleft⟩ : ∃ left, left = e.left keep[i]? := ⟨_, rfl⟩
      have hll := left_le e hsu keep[i]?
      rw [← hleft] at hll
      have hsl := run_cut (t := 34) (e := 5) (n := e.b.length) (c := e.c) (k := left) Tryz.underlying34 (fun W => by kernel_rfl) (by omega) hsp
      have hstep := Cut.step (v := .slice e.A left left) (u := .int .i64 left) hD2 hcut.out he (by rw [hleft]) (by rw [hleft])
      obtain ⟨bl, hbln⟩ : ∃ bl, bl = e.b.length := ⟨_, rfl⟩
      obtain ⟨su, hsun⟩ : ∃ su, su = e.sure := ⟨_, rfl⟩
      rw [← hbln] at cf0 hbl hll hsl hsu
      rw [← hsun] at cf1 hsu
      unfold str at cnr hlk
      replace hstep := hide hstep
      replace hmb := hide hmb
      replace hsp := hide hsp
      by_cases hik : i < kn
      · obtain ⟨kg, ko, rfl, hkc⟩ := hK.at_ (by rw [List.length_map, ← hkn.out]; omega)
        obtain ⟨k, hk⟩ : ∃ k, keep[i]? = some k := ⟨_, List.getElem?_eq_getElem (by rw [← hkn.out]; exact hik)⟩
        have hkne : keep ≠ [] := fun e => by rw [e] at hk; simp at hk
        have ck : w1.cell? ⟨kg, ko + i, none⟩ = some (.int .i64 k) := hkc i (I64 k) (by rw [List.getElem?_map, hk]; rfl)
        have ckr : wr.cell? ⟨kg, ko + i, none⟩ = some (.int .i64 k) := hc.cell (hE.cell ck) fun ⟨e', he', hh⟩ => hKF hkne _ rfl ((hF _).2 (.inr (.inr ⟨e', he', .inl hh⟩)))
        obtain ⟨hk1, hk2⟩ := hkb k (List.mem_of_getElem? hk)
        have hlk2 : (left : Int) = su + (k.tmod ((bl : Int) - su + 1) + ((bl : Int) - su + 1)).tmod ((bl : Int) - su + 1) := by
          rw [go_mod _ _ (by omega), hleft, hk]
          show ((e.sure + (k % ((e.b.length : Int) - e.sure + 1)).toNat : Nat) : Int) = _
          rw [hbln, hsun]
          have := Int.emod_nonneg k (show (e.b.length : Int) - e.sure + 1 ≠ 0 by omega)
          omega
        have hlk3 : (su : Int) + k.tmod ((bl : Int) - su + 1) % ((bl : Int) - su + 1) = left := by
          have hb := tmod_bd k ((bl : Int) - su + 1) (by omega)
          rw [Int.tmod_eq_emod_of_nonneg (by omega), Int.add_emod_right] at hlk2
          exact hlk2.symm
        have htb := tmod_bd k ((bl : Int) - su + 1) (by omega)
        replace hbln := hide hbln
        replace hsun := hide hsun
        replace hleft := hide hleft
        replace hlk2 := hide hlk2
        replace hk := hide hk
        clear hcl hkc hr hst hok hap hD2 ck cn
        go_wp2_with fail
        refine wp_region_text follows (by kernel_rfl) (by kernel_rfl) (fun K hK => ?_)
        go_wp2_with fail
        refine ⟨by kernel_rfl, ?_⟩
        go_wp2_with fail
        go_roundw
        case rel => exact ⟨i + 1, by go_num, by omega, hide (Cut.drew hstep.out)⟩
        case measure => simp [intOf]; omega
      · have hlk2 : left = su := by
          have : keep[i]? = none := List.getElem?_eq_none (by rw [← hkn.out]; omega)
          rw [hleft, this, hsun]
          rfl
        subst hlk2
        replace hbln := hide hbln
        replace hsun := hide hsun
        replace hleft := hide hleft
        clear hcl hr hst hok hap hD2 cn
        go_wp2_with fail
        go_roundw
        case rel => exact ⟨i + 1, by go_num, by omega, hstep⟩
        case measure => simp [intOf]; omega
    · obtain rfl : i = n := by omega
      have hc := hcut.out.chg
      have hap := hD2.apart
      have hrd : DRow wr d m P.quota P.armed P.stopped := Chg.row hc hD2.row fun ⟨e', he', hh⟩ => (hap.2 e' he').1 hh
      have c2 : wr.cell? ⟨d, 2, none⟩ = some (.int .i64 P.armed) := Row.cell hrd 2 rfl
      have c3 : wr.cell? ⟨d, 3, none⟩ = some (.bool P.stopped) := Row.cell hrd 3 rfl
      have f2 := Row.free hrd 2
      have f3 := Row.free hrd 3
      have hcut2 := hcut.out
      rw [hn.out] at hcut2
      obtain ⟨h1, h2, h3⟩ := cut_end hD2 hcut2 rfl
      have fin : DNext base d F w1 (restartM P keep) _ := hS.next hF h1 ((Chg.of_ext hE (Foot d m E)).trans h2 fun _ _ h => h) fun k hk => .inl (h3 k hk)
      replace fin := hide fin
      clear h1 h2 h3 hcut2 hrd hap hc hst
      go_wp2_with fail
      go_end0
      exact ⟨rfl, fin.out⟩
theorem restart_any (base d : Nat) (P : PD) (F : Nat → Prop) (K : Option Addr) (kn kc : Nat) (keep : List Int) (w : World) (h : DS w base d P F) (hK : Cells w K (keep.map I64)) (hKF : ∀ a, K = some a → ¬ F a.block) (hkn : kn = keep.length)
    (hkb : ∀ k ∈ keep, -9223372036854775808 ≤ k ∧ k ≤ 9223372036854775807) (hkl : kn ≤ 9223372036854775807) :
    Calls Tryz.prog 23 #[.pointer (some ⟨d, 0, none⟩), .slice K kn kc] w fun e w' => e = .returned (.tuple #[]) ∧ DNext base d F w (restartM P keep) w' := restart_any0 base d P F K kn kc keep w h hK (fun _ => hKF) hkn hkb hkl
end Go.Proofs.YtohphanbnhiodaaGreat

