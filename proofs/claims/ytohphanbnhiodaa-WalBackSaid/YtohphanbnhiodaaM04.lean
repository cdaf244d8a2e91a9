/- Sorting names. -/
import Derived.Test.YtohphanbnhiodaaM03
import Derived.Test.YtohphanbnhiodaaM02
import Derived.Deep.CutRange
import Derived.Deep.DeepCutAuto
set_option linter.unusedSimpArgs false
set_option linter.unusedVariables false
namespace Go.Proofs.Ytohphanbnhiodaa
open Go.RowKit Go.Maps Go.Sort

theorem sort_any (base : Nat) (A : Option Addr) (n c : Nat) (ns : List (List UInt8)) (w : World) (hn : n = ns.length) (hb : Buf w base 9 A n c (ns.map str)) (hsz : n ≤ 1048576) :
    Calls Try.prog 63 #[.slice A n c] w fun e w' => e = .returned (.tuple #[]) ∧ Buf w' base 9 A n c ((ns.mergeSort fun x y => decide (x ≤ y)).map str) ∧ Chg (fun k => ∃ x, A = some x ∧ x.block = k) w w' := by
  subst hn
  obtain ⟨h1, h2, h3⟩ := hb
  rcases h3 with ⟨rfl, rfl⟩ | ⟨g, cur, rfl, hbg, hg, hs, ht⟩
  · have h0 : ns = [] := List.eq_nil_of_length_eq_zero (by omega)
    subst h0
    refine (Try.slices_Sort_string_none none 0 w).mono ?_
    rintro e w' ⟨rfl, rfl⟩
    exact ⟨rfl, by simpa using Buf.nil _ _ _, Chg.refl _ _⟩
  · have hH : Holds encStr w g 0 ns.toArray := by
      intro j hj
      simp at hj
      refine ⟨?_, hg.free _⟩
      rw [Nat.zero_add, cell_of_row w g j cur 9 (0, 0) hg]
      have : (cur.toList.take ns.length)[j]? = (ns.map str)[j]? := by rw [ht]
      rw [List.getElem?_take, if_pos hj] at this
      simp [hj] at this
      simpa [hj, encStr, str] using this
    refine (Try.slices_Sort_string g 0 c ns w hH hg.lt (by omega)).mono ?_
    rintro e w' ⟨rfl, k, os, rfl⟩
    obtain ⟨so, hso⟩ : ∃ so, so = (ns.mergeSort fun x y => decide (x ≤ y)) := ⟨_, rfl⟩
    have hsl : so.length = ns.length := by rw [hso]; exact List.length_mergeSort _
    rw [← hso]
    have hrow : Row (grow (putRow encStr (Sort.ahead w k) g 0 so.toArray) os) g 9 (putCells encStr 0 so.toArray cur) := by
      show ((w.heap.modify g (onCells (putCells encStr 0 so.toArray))) ++ os)[g]? = _
      rw [Array.getElem?_append_left (by simpa using hg.lt), Array.getElem?_modify, if_pos rfl]
      have : w.heap[g]? = some (.cells cur 9 (0, 0)) := hg
      rw [this]
      rfl
    refine ⟨rfl, ⟨by simp [hsl], h2, .inr ⟨g, _, rfl, hbg, hrow, ?_, ?_⟩⟩, ⟨rfl, rfl, rfl, ?_, ?_⟩⟩
    · simp [putCells]
      exact hs
    · apply List.ext_getElem?
      intro i
      rw [List.getElem?_take]
      split
      · rename_i hi
        have hic : i < cur.size := by
          rw [List.length_map] at h1
          omega
        have his : i < so.length := by omega
        rw [Array.getElem?_toList]
        unfold putCells
        rw [Array.getElem?_mapIdx, Array.getElem?_eq_getElem hic]
        simp [his, encStr, str]
      · rename_i hi
        rw [List.getElem?_eq_none (by rw [List.length_map]; omega)]
    · show w.heap.size ≤ ((w.heap.modify g (onCells (putCells encStr 0 so.toArray))) ++ os).size
      simp
    · intro j hj hne
      show ((w.heap.modify g (onCells (putCells encStr 0 so.toArray))) ++ os)[j]? = _
      rw [Array.getElem?_append_left (by simpa using hj), Array.getElem?_modify, if_neg (fun e => hne ⟨_, rfl, e⟩)]
end Go.Proofs.Ytohphanbnhiodaa

/- loggia/disk: names. -/
namespace Go.Proofs.Ytohphanbnhiodaa
open Go.RowKit Go.Maps

def sortN (ns : List (List UInt8)) : List (List UInt8) := ns.mergeSort fun x y => decide (x ≤ y)
theorem sortN_perm (ns : List (List UInt8)) : (sortN ns).Perm ns := List.mergeSort_perm _ _
theorem bytes_le_trans {a b c : List UInt8} (h : decide (a ≤ b) = true) (k : decide (b ≤ c) = true) : decide (a ≤ c) = true := decide_eq_true (List.le_trans (of_decide_eq_true h) (of_decide_eq_true k))
theorem bytes_le_total (a b : List UInt8) : (decide (a ≤ b) || decide (b ≤ a)) = true := by
  rcases List.le_total a b with h | h
  · simp [h]
  · simp [h]
theorem sortN_pw (ns : List (List UInt8)) : (sortN ns).Pairwise (fun a b => a ≤ b) := by
  have := List.pairwise_mergeSort (le := fun (x y : List UInt8) => decide (x ≤ y)) (fun a b c => bytes_le_trans) (fun a b => bytes_le_total a b) ns
  exact this.imp fun h => of_decide_eq_true h
/-- Rows of alike members that both rise are alike. -/
theorem sorted_eq : ∀ {a b : List (List UInt8)}, a.Perm b → a.Pairwise (fun x y => x ≤ y) → b.Pairwise (fun x y => x ≤ y) → a = b
  | a, b, hp, ha, hb => List.Perm.eq_of_pairwise (fun x y _ _ h k => List.le_antisymm h k) ha hb hp
theorem sortN_eq {ns : List (List UInt8)} (h : ns.Pairwise (fun x y => x ≤ y)) : sortN ns = ns := sorted_eq (sortN_perm ns) (sortN_pw ns) h
theorem sortN_of {ns ks : List (List UInt8)} (h : ns.Perm ks) : sortN ns = sortN ks := sorted_eq ((sortN_perm ns).trans (h.trans (sortN_perm ks).symm)) (sortN_pw ns) (sortN_pw ks)
theorem sub_len {α : Type} : ∀ (D E : List α), D.Nodup → (∀ e ∈ D, e ∈ E) → D.length ≤ E.length
  | [], E, _, _ => Nat.zero_le _
  | a :: D, E, hn, hs => by
    rw [List.nodup_cons] at hn
    obtain ⟨E1, E2, rfl⟩ := List.append_of_mem (hs a (by simp))
    have := sub_len D (E1 ++ E2) hn.2 fun e he => by
      have h1 := hs e (List.mem_cons_of_mem _ he)
      rcases List.mem_append.1 h1 with h2 | h2
      · exact List.mem_append_left _ h2
      · rcases List.mem_cons.1 h2 with h3 | h3
        · exact absurd (h3 ▸ he) hn.1
        · exact List.mem_append_right _ h3
    simp only [List.length_append, List.length_cons] at *
    omega
set_option maxRecDepth 100000 in
set_option maxHeartbeats 1000000 in
theorem names_any (base d m quota armed : Nat) (stopped : Bool) (E : List Ent) (w : World) (h : DRow w d m quota armed stopped) (hF : FS w base m E) (hu : E.length ≤ 1024) :
    Calls Try.prog 40 #[.pointer (some ⟨d, 0, none⟩)] w fun e w' => ∃ A n c, e = .returned (.slice A n c) ∧ n = E.length ∧ Buf w' w.heap.size 9 A n c ((sortN (E.map Ent.name)).map str) ∧ Ext w w' := by
  have c0 : w.cell? ⟨d, 0, none⟩ = some (.map (some m)) := Row.cell h 0 rfl
  obtain ⟨L, hL, hmem, hlen⟩ := hF.map
  have hml := hL.lt
  obtain ⟨o, hrange, hRL⟩ := hL.range Try.underlying78
  go_enter Try.func40, Try.ntmps40
  go_wp2_with fail
  have hE0 : Ext w (w.alloc o) := (Ext.refl w).alloc o
  have hsz0 : w.heap.size + 1 ≤ (w.alloc o).heap.size := by simp
  go_loopw [3] (fun s3 wr => ∃ (D : List Ent) (n : Nat) (A : Option Addr) (c : Nat), s3 = .slice A n c ∧ Hid (n = D.length) ∧ Hid (wr.ownsRow (w.heap.size + 1) 9 1 (.slice A n c) n (D.map fun e => str e.name)) ∧ Hid (RangeL Try.prog 9 wr m w.heap.size L (D.map fun e => str e.name)) ∧ Hid (∀ e ∈ D, e ∈ E) ∧ w.heap.size + 1 ≤ wr.heap.size ∧ Ext w wr) (fun _ wr => wr.rangeLeft m w.heap.size)
  case atStart => exact ⟨[], 0, none, 0, rfl, hide rfl, hide (World.ownsRow_nil _ _ _ _), hRL, hide (by simp), hsz0, hE0⟩
  case round =>
    obtain ⟨D, n, A, c, rfl, hnD, hO, hR, hD, hsz, hE⟩ := hrel
    have hDn : D.Nodup := nodup_of_map (fun e => str e.name) hR.out.dn
    have hDle : D.length ≤ E.length := by
      exact sub_len D E hDn hD.out
    replace hDle := hide hDle
    rcases hR.out.next 0 with ⟨hrun, hall⟩ | ⟨x, v, w2, hxv, hxd, hrun, hR2, hg2, hs2, hent, hleft⟩
    · have hperm : D.Perm E := all_came hF.names hR.out.dn hD.out (fun e he => by
        have := hall e.kv ((hmem _).2 ⟨e, he, rfl⟩)
        exact this)
      have hbuf : Buf wr (w.heap.size + 1) 9 A n c ((D.map Ent.name).map str) := by
        rw [List.map_map]
        exact Buf.of_own hO.out
      have hn : n = E.length := hnD.out.trans hperm.length_eq
      replace hn := hide hn
      have hn2 : n ≤ 1048576 := by rw [hn.out]; omega
      have hss : sortN (D.map Ent.name) = sortN (E.map Ent.name) := sortN_of (hperm.map _)
      replace hss := hide hss
      have hs := sort_any (w.heap.size + 1) A n c (D.map Ent.name) wr (by rw [List.length_map]; exact hnD.out) hbuf hn2
      go_wp2_with fail
      refine hs.mono ?_
      rintro e w3 ⟨rfl, hb3, hc3⟩
      have hE3 : Ext w w3 := hE.chg hc3 (by
        rintro i hi ⟨a, ha, hk⟩
        have := hbuf.base_le a ha
        omega)
      go_wp2_with fail
      go_ret
      refine ⟨A, n, c, rfl, hn.out, ?_, hE3⟩
      rw [← hss.out]
      obtain ⟨b1, b2, b3⟩ := hb3
      refine ⟨b1, b2, ?_⟩
      rcases b3 with b3 | ⟨g, cur, r1, r2, r3⟩
      · exact .inl b3
      · exact .inr ⟨g, cur, r1, by omega, r3⟩
    · obtain ⟨e0, he0, hkv⟩ := (hmem _).1 hxv
      unfold Ent.kv at hkv
      injection hkv with hx1 hv1
      subst hx1
      subst hv1
      have hE2 : Ext w w2 := hE.grown hg2 (fun k hk => by cases hk; exact Nat.le_refl _)
      have hsz2 : w.heap.size + 1 ≤ w2.heap.size := by rw [hs2]; exact hsz
      have hb0 := (Buf.of_own hO.out).base_le
      have hO2 : w2.ownsRow (w.heap.size + 1) 9 1 (.slice A n c) n (D.map fun e => str e.name) := by
        refine (Chg.of_grown (S := fun k => k = w.heap.size) hg2 (fun k _ hk => by cases hk; rfl)).owns hO.out ?_
        rintro g hg hgk
        obtain ⟨cur, _, h9⟩ := owns_row hO.out hg
        omega
      have hnl : n + 1 ≤ 1025 := by rw [hnD.out]; have := hDle.out; omega
      have hgb : (Value.slice A n c).ownBlock ≠ some m ∧ (Value.slice A n c).ownBlock ≠ some w.heap.size := by
        constructor
        · intro hg
          obtain ⟨cur, _, h9⟩ := owns_row hO.out hg
          omega
        · intro hg
          obtain ⟨cur, _, h9⟩ := owns_row hO.out hg
          omega
      have hgo : ∀ k, (Value.slice A n c).ownBlock = some k → w.heap.size ≤ k := by
        intro k hg
        obtain ⟨cur, _, h9⟩ := owns_row hO.out hg
        omega
      replace hgb := hide hgb
      replace hgo := hide hgo
      replace hs2 := hide hs2
      replace hb0 := hide hb0
      clear hml
      obtain ⟨s0, hs0⟩ : ∃ s0, str e0.name = .string s0 := ⟨_, rfl⟩
      rw [hs0] at hrun hent hR2
      replace hs0 := hide hs0
      go_wp2_with (at_builtin; refine wpList_appN (us := [.string s0]) elemS hO2 (.tmp 14) (.tmp 16) rfl rfl rfl rfl (one_of rfl) (by simp; omega) (by omega) (fun A3 c3 w3 ho3 hg3 hl3 => ?_))
      have hE3 : Ext w w3 := hE2.grown hg3 hgo.out
      have hR3 : RangeL Try.prog 9 w3 m w.heap.size L ((D ++ [e0]).map fun e => str e.name) := by
        rw [List.map_append, List.map_cons, List.map_nil, hs0.out]
        exact hR2.grown hg3 hgb.out.1 hgb.out.2
      have ho3' : w3.ownsRow (w.heap.size + 1) 9 1 (.slice A3 (n + 1) c3) (n + 1) ((D ++ [e0]).map fun e => str e.name) := by
        rw [List.map_append, List.map_cons, List.map_nil, hs0.out]
        exact ho3
      have hsz3 : w.heap.size + 1 ≤ w3.heap.size := Nat.le_trans hsz2 hg3.size
      have hl3' : w3.rangeLeft m w.heap.size < wr.rangeLeft m w.heap.size := by
        have h1 : w3.heap[m]? = w2.heap[m]? := hg3.block m hR2.map.lt (fun e => hgb.out.1 e.symm)
        have h2 : w3.heap[w.heap.size]? = w2.heap[w.heap.size]? := hg3.block _ hR2.lt (fun e => hgb.out.2 e.symm)
        have h3 : w3.rangeLeft m w.heap.size = w2.rangeLeft m w.heap.size := by unfold World.rangeLeft; rw [h1, h2]
        rw [h3]
        exact hleft
      go_roundw
      case rel => exact ⟨D ++ [e0], n + 1, A3, c3, rfl, hide (by rw [List.length_append]; simp; exact hnD.out), ho3', hR3, hide (fun e he => by
        rcases List.mem_append.1 he with he | he
        · exact hD.out e he
        · simp at he; subst he; exact he0), hsz3, hE3⟩
      case measure => exact hl3'
end Go.Proofs.Ytohphanbnhiodaa

/- A disk, plainly: what the document says of each call. -/
namespace Go.Proofs.Ytohphanbnhiodaa
open Go.RowKit Go.Maps

/-- Without the one of a name; with one put at its place. -/
def withoutG {α : Type} (nm : α → List UInt8) (s : List UInt8) (l : List α) : List α := l.filter fun x => !decide (nm x = s)
def insG {α : Type} (nm : α → List UInt8) (f : α) : List α → List α
  | [] => [f]
  | x :: xs => if decide (nm f < nm x) then f :: x :: xs else x :: insG nm f xs
def withG {α : Type} (nm : α → List UInt8) (f : α) (l : List α) : List α := insG nm f (withoutG nm (nm f) l)
section
variable {α β : Type} {nm : α → List UInt8}
theorem mem_without {s : List UInt8} {l : List α} {x : α} : x ∈ withoutG nm s l ↔ x ∈ l ∧ nm x ≠ s := by
  unfold withoutG
  rw [List.mem_filter]
  simp
theorem mem_ins {f x : α} : ∀ {l : List α}, x ∈ insG nm f l ↔ x = f ∨ x ∈ l
  | [] => by simp [insG]
  | y :: ys => by
    unfold insG
    split
    · simp
    · rw [List.mem_cons, mem_ins, List.mem_cons]
      constructor
      · rintro (h | h | h)
        · exact .inr (.inl h)
        · exact .inl h
        · exact .inr (.inr h)
      · rintro (h | h | h)
        · exact .inr (.inl h)
        · exact .inl h
        · exact .inr (.inr h)
theorem mem_with {f x : α} {l : List α} : x ∈ withG nm f l ↔ x = f ∨ (x ∈ l ∧ nm x ≠ nm f) := by
  unfold withG
  rw [mem_ins, mem_without]
def Up (nm : α → List UInt8) (l : List α) : Prop := l.Pairwise fun a b => nm a < nm b
theorem Up.without {l : List α} (h : Up nm l) (s : List UInt8) : Up nm (withoutG nm s l) := List.Pairwise.filter _ h
theorem lt_of_not {a b : List UInt8} (h : ¬ a < b) (hne : a ≠ b) : b < a :=
  Decidable.byContradiction fun h2 => hne (List.le_antisymm (List.not_lt.1 h2) (List.not_lt.1 h))
theorem Up.ins {f : α} : ∀ {l : List α}, Up nm l → (∀ x ∈ l, nm x ≠ nm f) → Up nm (insG nm f l)
  | [], _, _ => by unfold insG Up; simp
  | y :: ys, h, hne => by
    unfold Up at h
    rw [List.pairwise_cons] at h
    unfold insG
    split
    · rename_i hlt
      have hlt := of_decide_eq_true hlt
      unfold Up
      rw [List.pairwise_cons, List.pairwise_cons]
      refine ⟨fun z hz => ?_, h⟩
      rcases List.mem_cons.1 hz with rfl | hz
      · exact hlt
      · exact List.lt_trans hlt (h.1 z hz)
    · rename_i hlt
      have hlt : ¬ nm f < nm y := fun hh => hlt (decide_eq_true hh)
      unfold Up
      rw [List.pairwise_cons]
      refine ⟨fun z hz => ?_, Up.ins h.2 fun x hx => hne x (List.mem_cons_of_mem _ hx)⟩
      rcases mem_ins.1 hz with rfl | hz
      · exact lt_of_not hlt (fun e => hne y (List.mem_cons_self ..) e.symm)
      · exact h.1 z hz
theorem Up.with {f : α} {l : List α} (h : Up nm l) : Up nm (withG nm f l) := (h.without _).ins fun x hx => (mem_without.1 hx).2
theorem Up.nodup {l : List α} (h : Up nm l) : (l.map nm).Nodup := by
  unfold Up at h
  rw [List.Nodup, List.pairwise_map]
  refine List.Pairwise.imp ?_ h
  intro a b h e
  rw [e] at h
  exact List.lt_irrefl _ h
theorem Up.le {l : List α} (h : Up nm l) : (l.map nm).Pairwise fun x y => x ≤ y := by
  rw [List.pairwise_map]
  exact List.Pairwise.imp (fun h => List.le_of_lt h) h
theorem Up.uniq {l : List α} (h : Up nm l) {x y : α} (hx : x ∈ l) (hy : y ∈ l) (he : nm x = nm y) : x = y := inj_of_map nm h.nodup hx hy he
/-- Rising lists with the same members are one. -/
theorem Up.ext {a b : List α} (ha : Up nm a) (hb : Up nm b) (h : ∀ x, x ∈ a ↔ x ∈ b) : a = b := by
  have hp : a.Perm b := (List.perm_ext_iff_of_nodup (nodup_of_map nm ha.nodup) (nodup_of_map nm hb.nodup)).2 h
  exact List.Perm.eq_of_pairwise (fun x y hx hy h k => (List.lt_irrefl _ (List.lt_trans h k)).elim) ha hb hp
theorem map_without {nm' : β → List UInt8} {g : α → β} (hg : ∀ x, nm' (g x) = nm x) (s : List UInt8) (l : List α) : (withoutG nm s l).map g = withoutG nm' s (l.map g) := by
  unfold withoutG
  rw [List.filter_map]
  congr 1
  apply List.filter_congr
  intro x _
  simp [hg]
theorem map_ins {nm' : β → List UInt8} {g : α → β} (hg : ∀ x, nm' (g x) = nm x) (f : α) : ∀ l : List α, (insG nm f l).map g = insG nm' (g f) (l.map g)
  | [] => rfl
  | y :: ys => by
    unfold insG
    rw [List.map_cons]
    simp only [hg]
    split
    · rfl
    · rw [List.map_cons, map_ins hg f ys]
theorem map_with {nm' : β → List UInt8} {g : α → β} (hg : ∀ x, nm' (g x) = nm x) (f : α) (l : List α) : (withG nm f l).map g = withG nm' (g f) (l.map g) := by
  unfold withG
  rw [map_ins hg, map_without hg, hg]
theorem len_ins {f : α} : ∀ {l : List α}, (insG nm f l).length = l.length + 1
  | [] => rfl
  | y :: ys => by
    unfold insG
    split
    · rfl
    · rw [List.length_cons, len_ins, List.length_cons]
theorem len_without_le (s : List UInt8) (l : List α) : (withoutG nm s l).length ≤ l.length := List.length_filter_le _ _
theorem len_without_lt {s : List UInt8} {l : List α} {x : α} (hx : x ∈ l) (hs : nm x = s) : (withoutG nm s l).length < l.length :=
  List.length_filter_lt_length_iff_exists.2 ⟨x, hx, by simp [hs]⟩
theorem without_no {s : List UInt8} {l : List α} (h : ∀ x ∈ l, nm x ≠ s) : withoutG nm s l = l := by
  unfold withoutG
  rw [List.filter_eq_self]
  intro x hx
  simp [h x hx]
theorem len_with_in {f x : α} {l : List α} (hx : x ∈ l) (hs : nm x = nm f) : (withG nm f l).length ≤ l.length := by
  unfold withG
  rw [len_ins]
  exact len_without_lt hx hs
theorem len_with_le (f : α) (l : List α) : (withG nm f l).length ≤ l.length + 1 := by
  unfold withG
  rw [len_ins]
  exact Nat.add_le_add_right (len_without_le _ _) 1
end

/-- A file, plainly: its name, its bytes, how many are durable. -/
abbrev PF := List UInt8 × List UInt8 × Nat
structure PD where
  L : List PF
  quota : Nat
  armed : Nat
  stopped : Bool
def fname (f : PF) : List UInt8 := f.1
def PD.find (P : PD) (s : List UInt8) : Option PF := P.L.find? fun f => decide (fname f = s)
def usedP (L : List PF) : Nat := (L.map fun f => f.2.1.length).sum
/-- What is left of a disk whose writing call stops it, or does not. -/
def PD.stops (P : PD) : PD := { P with armed := 0, stopped := true }
def PD.goes (P : PD) (L : List PF) : PD := { P with armed := P.armed - 1, L := L }
def fullM (P : PD) (n : Nat) : Bool := decide (0 < P.quota) && decide (0 < n) && decide ((P.quota : Int) - usedP P.L < n)
def putM (P : PD) (f : PF) (b : List UInt8) : PD × Nat :=
  if 67108864 < f.2.1.length + b.length then (P, 2) else if fullM P b.length then (P, 62) else if P.armed = 1 then (P.stops, 63) else (P.goes (withG fname (f.1, f.2.1 ++ b, f.2.2) P.L), 0)
def appendM (P : PD) (s b : List UInt8) : PD × Nat :=
  if namedM s then if P.stopped then (P, 63) else match P.find s with
    | some f => putM P f b
    | none => if 1024 ≤ P.L.length then (P, 3) else putM P (s, [], 0) b
  else (P, 60)
def writesM (P : PD) (ns : List (List UInt8)) (s : List UInt8) (k : PF → List PF) : PD × Nat :=
  if ns.all namedM then if P.stopped then (P, 63) else match P.find s with
    | some f => if P.armed = 1 then (P.stops, 63) else (P.goes (k f), 0)
    | none => (P, 61)
  else (P, 60)
def syncM (P : PD) (s : List UInt8) : PD × Nat := writesM P [s] s fun f => withG fname (f.1, f.2.1, f.2.1.length) P.L
def renameM (P : PD) (s t : List UInt8) : PD × Nat := writesM P [t, s] s fun f => withG fname (t, f.2.1, f.2.2) (withoutG fname s P.L)
def removeM (P : PD) (s : List UInt8) : PD × Nat := writesM P [s] s fun _ => withoutG fname s P.L
def readM (P : PD) (s : List UInt8) (fr n : Int) : List UInt8 × Nat :=
  if namedM s then if P.stopped then ([], 63) else match P.find s with
    | some f => if fr < 0 ∨ f.2.1.length < fr ∨ n < 0 then ([], 5) else ((f.2.1.drop fr.toNat).take n.toNat, 0)
    | none => ([], 61)
  else ([], 60)
def sizeM (P : PD) (s : List UInt8) : Nat × Bool := if P.stopped then (0, false) else match P.find s with
  | some f => (f.2.1.length, true)
  | none => (0, false)
def durM (P : PD) (s : List UInt8) : Nat := match P.find s with
  | some f => f.2.2
  | none => 0
def listM (P : PD) : List (List UInt8) := if P.stopped then [] else P.L.map fname
def leftM (f : PF) (k : Option Int) : Nat := match k with
  | some k => f.2.2 + (k % ((f.2.1.length : Int) - f.2.2 + 1)).toNat
  | none => f.2.2
def cutM (f : PF) (n : Nat) : PF := (f.1, f.2.1.take n, n)
def keptM (L : List PF) (keep : List Int) : List PF := L.mapIdx fun j f => cutM f (leftM f keep[j]?)
def restartM (P : PD) (keep : List Int) : PD := ⟨keptM P.L keep, P.quota, 0, false⟩
theorem find_some {P : PD} {s : List UInt8} {f : PF} (h : P.find s = some f) : f ∈ P.L ∧ f.1 = s := by
  unfold PD.find at h
  have h2 := List.find?_some h
  exact ⟨List.mem_of_find?_eq_some h, of_decide_eq_true h2⟩
theorem find_none {P : PD} {s : List UInt8} (h : P.find s = none) : ∀ f ∈ P.L, f.1 ≠ s := by
  unfold PD.find at h
  intro f hf
  intro he
  exact List.find?_eq_none.1 h f hf (decide_eq_true he)
theorem find_of {P : PD} (hu : Up fname P.L) {f : PF} (h : f ∈ P.L) : P.find f.1 = some f := by
  cases hf : P.find f.1 with
  | none => exact (find_none hf f h rfl).elim
  | some g =>
    obtain ⟨h1, h2⟩ := find_some hf
    rw [hu.uniq h1 h h2]
theorem find_no {P : PD} {s : List UInt8} (h : ∀ f ∈ P.L, f.1 ≠ s) : P.find s = none := by
  cases hf : P.find s with
  | none => rfl
  | some g =>
    obtain ⟨h1, h2⟩ := find_some hf
    exact (h g h1 h2).elim
end Go.Proofs.Ytohphanbnhiodaa

/- A disk in memory and a disk, plainly; the calls that turn little. -/
namespace Go.Proofs.Ytohphanbnhiodaa
open Go.RowKit Go.Maps

/-- The disk at d with the map m and the files E is P. -/
structure DE (w : World) (base d m : Nat) (P : PD) (E : List Ent) : Prop where
  row : DRow w d m P.quota P.armed P.stopped
  fs : FS w base m E
  low : base ≤ d
  up : Up Ent.name E
  cnt : E.length ≤ 1024
  lens : ∀ e ∈ E, e.b.length ≤ 67108864
  pl : E.map Ent.pl = P.L
  hq : P.quota ≤ 9223372036854775807
  ha : P.armed ≤ 9223372036854775807
/-- Its blocks. -/
def Foot (d m : Nat) (E : List Ent) (k : Nat) : Prop := k = d ∨ k = m ∨ ∃ e ∈ E, k = e.f ∨ ∃ a, e.A = some a ∧ a.block = k
/-- The disk at d is P; it has the blocks F. -/
def DS (w : World) (base d : Nat) (P : PD) (F : Nat → Prop) : Prop := ∃ m E, DE w base d m P E ∧ ∀ k, F k ↔ Foot d m E k
/-- A call of the disk at d, of the blocks F, has made P of it. -/
def DNext (base d : Nat) (F : Nat → Prop) (w : World) (P : PD) (w' : World) : Prop := ∃ F', DS w' base d P F' ∧ Chg F w w' ∧ ∀ k, F' k → F k ∨ w.heap.size ≤ k
section
variable {w w1 : World} {base d m : Nat} {P : PD} {E : List Ent} {F : Nat → Prop}
theorem DE.used (h : DE w base d m P E) : usedM E = usedP P.L := by
  rw [← h.pl]
  unfold usedM usedP
  rw [List.map_map]
  rfl
theorem used_bd : ∀ (E : List Ent), (∀ e ∈ E, e.b.length ≤ 67108864) → usedM E ≤ E.length * 67108864
  | [], _ => Nat.zero_le _
  | e :: E, h => by
    have := used_bd E fun x hx => h x (List.mem_cons_of_mem _ hx)
    have := h e (List.mem_cons_self ..)
    unfold usedM at *
    simp only [List.map_cons, List.sum_cons, List.length_cons]
    omega
theorem DE.used_le (h : DE w base d m P E) : usedM E ≤ 68719476736 := Nat.le_trans (used_bd E h.lens) (by have := h.cnt; omega)
theorem DE.find_in (h : DE w base d m P E) {e : Ent} (he : e ∈ E) : P.find e.name = some e.pl := by
  have h2 : Up fname P.L := by
    rw [← h.pl]
    unfold Up
    rw [List.pairwise_map]
    exact h.up
  exact find_of h2 (f := e.pl) (by rw [← h.pl]; exact List.mem_map.2 ⟨e, he, rfl⟩)
theorem DE.find_out (h : DE w base d m P E) {s : List UInt8} (hn : ∀ e ∈ E, e.name ≠ s) : P.find s = none := find_no (fun f hf => by
  rw [← h.pl] at hf
  obtain ⟨e, he, rfl⟩ := List.mem_map.1 hf
  exact hn e he)
set_option maxRecDepth 100000 in
theorem key_str {s : List UInt8} (hs : s.length ≤ 9223372036854775807) : keyOf Try.prog 9 (str s) = some (.string s) := WideMaps.keyOf_string_mk (P := Try.prog) Try.underlying9 (s := ⟨s.toArray⟩) (by rw [ByteArray.size_mk_toArray]; exact hs)
set_option maxRecDepth 100000 in
theorem DE.lookup (h : DE w base d m P E) (s : List UInt8) (hs : s.length ≤ 9223372036854775807) (W : World) (hW : W.heap[m]? = w.heap[m]?) :
    (∃ e ∈ E, e.name = s ∧ (Instr.lookup 78 (.map (some m)) (str s) true).run Try.prog W = .ok (.tuple #[.pointer (some ⟨e.f, 0, none⟩), .bool true]) W) ∨
    ((∀ e ∈ E, e.name ≠ s) ∧ (Instr.lookup 78 (.map (some m)) (str s) true).run Try.prog W = .ok (.tuple #[.pointer none, .bool false]) W) := by
  obtain ⟨L, hL, hmem, _⟩ := h.fs.map
  rcases (hL.keep hW).look keyS Try.underlying78 (x := str s) (key_str hs) (by kernel_rfl : (zeroValue 90).run Try.prog W = .ok (.pointer none) W) true with ⟨v, hv, hrun⟩ | ⟨hno, hrun⟩
  · obtain ⟨e, he, hkv⟩ := (hmem _).1 hv
    unfold Ent.kv at hkv
    injection hkv with h1 h2
    subst h2
    exact .inl ⟨e, he, (str_inj h1).symm, hrun⟩
  · refine .inr ⟨fun e he hs => hno e.kv ((hmem _).2 ⟨e, he, rfl⟩) (by rw [← hs]; rfl), hrun⟩
theorem DE.lt (h : DE w base d m P E) {k : Nat} (hk : Foot d m E k) : k < w.heap.size := by
  rcases hk with rfl | rfl | ⟨e, he, rfl | ⟨a, ha, rfl⟩⟩
  · exact Row.lt h.row
  · obtain ⟨L, hL, _⟩ := h.fs.map
    exact hL.lt
  · exact (h.fs.ok e he).row.lt
  · exact (h.fs.ok e he).buf.lt a ha
theorem DE.base_le (h : DE w base d m P E) {k : Nat} (hk : Foot d m E k) : base ≤ k := by
  rcases hk with rfl | rfl | ⟨e, he, rfl | ⟨a, ha, rfl⟩⟩
  · exact h.low
  · exact h.fs.low
  · exact (h.fs.ok e he).low
  · exact (h.fs.ok e he).buf.base_le a ha
theorem DS.lt (h : DS w base d P F) {k : Nat} (hk : F k) : k < w.heap.size := by
  obtain ⟨m, E, hD, hF⟩ := h
  exact hD.lt ((hF k).1 hk)
theorem DS.base_le (h : DS w base d P F) {k : Nat} (hk : F k) : base ≤ k := by
  obtain ⟨m, E, hD, hF⟩ := h
  exact hD.base_le ((hF k).1 hk)
theorem EOk.keep {e : Ent} (h : EOk w base e) (hf : w1.heap[e.f]? = w.heap[e.f]?) (ha : ∀ a, e.A = some a → w1.heap[a.block]? = w.heap[a.block]?) : EOk w1 base e :=
  ⟨h.row.keep hf, h.buf.keep fun g hg => ha ⟨g, 0, none⟩ hg, h.low, h.sure⟩
theorem FS.keep (h : FS w base m E) (hm : w1.heap[m]? = w.heap[m]?) (he : ∀ e ∈ E, w1.heap[e.f]? = w.heap[e.f]? ∧ ∀ a, e.A = some a → w1.heap[a.block]? = w.heap[a.block]?) : FS w1 base m E := by
  obtain ⟨⟨L, hL, hmem⟩, hok, r1, r2, r3, r4, r5⟩ := h
  exact ⟨⟨L, hL.keep hm, hmem⟩, fun e h => (hok e h).keep (he e h).1 (he e h).2, r1, r2, r3, r4, r5⟩
theorem FS.chg {S : Nat → Prop} (h : FS w base m E) (hc : Chg S w w1) (hn : ∀ k, S k → k ≠ m ∧ ∀ e ∈ E, k ≠ e.f ∧ ∀ a, e.A = some a → k ≠ a.block) : FS w1 base m E := by
  have hml : m < w.heap.size := by
    obtain ⟨L, hL, _⟩ := h.map
    exact hL.lt
  exact h.keep (hc.block m hml fun hs => (hn m hs).1 rfl) fun e he => ⟨hc.block _ (h.ok e he).row.lt fun hs => ((hn _ hs).2 e he).1 rfl, fun a ha => hc.block _ ((h.ok e he).buf.lt a ha) fun hs => ((hn _ hs).2 e he).2 a ha rfl⟩
theorem DE.chg {S : Nat → Prop} (h : DE w base d m P E) (hc : Chg S w w1) (hn : ∀ k, S k → ¬ Foot d m E k) : DE w1 base d m P E :=
  ⟨Chg.row hc h.row (fun hs => hn d hs (.inl rfl)), h.fs.chg hc (fun k hs => ⟨fun e => hn k hs (.inr (.inl e)), fun x hx => ⟨fun e => hn k hs (.inr (.inr ⟨x, hx, .inl e⟩)), fun a ha e => hn k hs (.inr (.inr ⟨x, hx, .inr ⟨a, ha, e.symm⟩⟩))⟩⟩), h.low, h.up, h.cnt, h.lens, h.pl, h.hq, h.ha⟩
theorem DS.chg {S : Nat → Prop} (h : DS w base d P F) (hc : Chg S w w1) (hn : ∀ k, S k → ¬ F k) : DS w1 base d P F := by
  obtain ⟨m, E, hD, hF⟩ := h
  exact ⟨m, E, hD.chg hc (fun k hs hk => hn k hs ((hF k).2 hk)), hF⟩
theorem DS.ext (h : DS w base d P F) (hc : Ext w w1) : DS w1 base d P F := h.chg (Chg.of_ext hc (fun _ => False)) (fun _ h => h.elim)
/-- Block d is none of the files', nor the map. -/
theorem DE.apart (h : DE w base d m P E) : d ≠ m ∧ ∀ e ∈ E, d ≠ e.f ∧ ∀ a, e.A = some a → d ≠ a.block := by
  refine ⟨?_, fun e he => ⟨Row.unlike h.row (h.fs.ok e he).row (by decide), fun a ha hd => (h.fs.ok e he).buf.unlike h.row (by decide) a ha hd.symm⟩⟩
  rintro rfl
  obtain ⟨L, hL, _⟩ := h.fs.map
  obtain ⟨es, cl, hm, _⟩ := hL.ex
  have h1 : w.heap[d]? = some (.cells _ _ (0, 0)) := h.row
  rw [h1] at hm
  cases hm
/-- Only its own block has turned. -/
theorem DE.own {P' : PD} (h : DE w base d m P E) (hc : Chg (fun k => k = d) w w1) (hr : DRow w1 d m P'.quota P'.armed P'.stopped) (hL : P'.L = P.L) (hq : P'.quota ≤ 9223372036854775807) (ha : P'.armed ≤ 9223372036854775807) : DE w1 base d m P' E :=
  ⟨hr, h.fs.chg hc (fun k hk => by subst hk; exact h.apart), h.low, h.up, h.cnt, h.lens, by rw [hL]; exact h.pl, hq, ha⟩
theorem DS.next (h : DS w base d P F) {m : Nat} {E E' : List Ent} {P' : PD} (hF : ∀ k, F k ↔ Foot d m E k) (hD : DE w1 base d m P' E') (hc : Chg (Foot d m E) w w1) (hf : ∀ k, Foot d m E' k → Foot d m E k ∨ w.heap.size ≤ k) : DNext base d F w P' w1 :=
  ⟨Foot d m E', ⟨m, E', hD, fun _ => Iff.rfl⟩, hc.mono (fun k _ hk => (hF k).2 hk), fun k hk => (hf k hk).imp_left (hF k).2⟩
end
theorem run_max2 {P : Program} (ts : Array TypeId) (ty : TypeId) {x y m : Int} (hm : m = max x y) (W : World) : (Builtin.max_ ts ty #[.int .i64 x, .int .i64 y]).run P W = .ok (.int .i64 m) W := by
  simp only [Builtin.max_, List.foldlM, Builtin.max2, Sem.run_bind, Sem.run_pure, Result.andThen_ok]
  subst hm
  congr 2
  split <;> omega
end Go.Proofs.Ytohphanbnhiodaa

/- loggia/disk: New, Size, Durable, List. -/
namespace Go.Proofs.Ytohphanbnhiodaa
open Go.RowKit Go.Maps

theorem new_no (q : Int) (w : World) (hq : q < 0) :
    Calls Try.prog 15 #[.int .i64 q] w fun e w' => e = .returned (.tuple #[.pointer none, .int .i64 1]) ∧ w' = w := by
  go_enter Try.func15, Try.ntmps15
  go_wp2_with fail
  go_ret2
  exact ⟨rfl, rfl⟩
theorem fs_new (w : World) (base m : Nat) (hm : MapL Try.prog 9 w m []) (hb : base ≤ m) : FS w base m [] :=
  ⟨⟨[], hm, by simp, rfl⟩, by simp, hb, List.nodup_nil, by simp, List.Pairwise.nil, List.Pairwise.nil⟩
theorem new_yes (base : Nat) (q : Nat) (w : World) (hq : q ≤ 9223372036854775807) (hb : base ≤ w.heap.size) :
    Calls Try.prog 15 #[.int .i64 q] w fun e w' => ∃ d F, e = .returned (.tuple #[.pointer (some ⟨d, 0, none⟩), .int .i64 0]) ∧ DS w' base d ⟨[], q, 0, false⟩ F ∧ (∀ k, F k → w.heap.size ≤ k) ∧ Ext w w' := by
  have hm := MapL.made (P := Try.prog) (k := 9) w
  have hr := Row.new (w.alloc (.map #[] 0)) 80 #[.map (some w.heap.size), .int .i64 q, .int .i64 0, .bool false]
  have hm2 := hm.alloc (.cells #[.map (some w.heap.size), .int .i64 q, .int .i64 0, .bool false] 80)
  have hE : Ext w ((w.alloc (.map #[] 0)).alloc (.cells #[.map (some w.heap.size), .int .i64 q, .int .i64 0, .bool false] 80)) := ((Ext.refl w).alloc _).alloc _
  replace hr := hide hr
  have hmm := @run_makeMap Try.prog
  go_enter Try.func15, Try.ntmps15
  go_wp2_with fail
  go_ret2
  refine ⟨w.heap.size + 1, Foot (w.heap.size + 1) w.heap.size [], rfl, ⟨w.heap.size, [], ⟨?_, fs_new _ _ _ hm2 hb, by omega, List.Pairwise.nil, by simp, by simp, rfl, hq, by simp⟩, fun _ => Iff.rfl⟩, ?_, hE⟩
  · have h := hr.out
    have hs : (w.alloc (.map #[] 0)).heap.size = w.heap.size + 1 := by simp
    rw [hs] at h
    exact h
  · rintro k (rfl | rfl | ⟨e, he, _⟩)
    · omega
    · omega
    · cases he
set_option maxRecDepth 100000 in
set_option maxHeartbeats 1000000 in
theorem size_any (base d : Nat) (P : PD) (F : Nat → Prop) (s : List UInt8) (w : World) (h : DS w base d P F) (hs : s.length ≤ 9223372036854775807) :
    Calls Try.prog 65 #[.pointer (some ⟨d, 0, none⟩), str s] w fun e w' => e = .returned (.tuple #[.int .i64 (sizeM P s).1, .bool (sizeM P s).2]) ∧ w' = w := by
  obtain ⟨m, E, hD, hF⟩ := h
  have h0 := none_any d m P.quota P.armed P.stopped w hD.row
  have c0 : w.cell? ⟨d, 0, none⟩ = some (.map (some m)) := Row.cell hD.row 0 rfl
  have c3 : w.cell? ⟨d, 3, none⟩ = some (.bool P.stopped) := Row.cell hD.row 3 rfl
  replace h0 := hide h0
  cases hb : P.stopped with
  | true =>
    have hm : sizeM P s = (0, false) := by unfold sizeM; rw [hb]; rfl
    rw [hm]
    rw [hb] at c3
    replace hb := hide hb
    clear hm
    go_enter Try.func65, Try.ntmps65
    go_wp2_with fail
    refine h0.out.mono ?_
    rintro e w1 ⟨rfl, rfl⟩
    go_wp2_with fail
    go_ret2
    exact ⟨rfl, rfl⟩
  | false =>
    rw [hb] at c3
    rcases hD.lookup s hs w rfl with ⟨e0, he0, hn, hrun⟩ | ⟨hno, hrun⟩
    · have hm : sizeM P s = (e0.b.length, true) := by
        unfold sizeM
        rw [hb, ← hn, hD.find_in he0]
        rfl
      rw [hm]
      have cf : w.cell? ⟨e0.f, 0, none⟩ = some (.slice e0.A e0.b.length e0.c) := (hD.fs.ok e0 he0).row.cell 0 rfl
      obtain ⟨n, hnn⟩ : ∃ n, n = e0.b.length := ⟨_, rfl⟩
      rw [← hnn] at cf ⊢
      replace hnn := hide hnn
      replace hb := hide hb
      replace hn := hide hn
      clear hm
      go_enter Try.func65, Try.ntmps65
      go_wp2_with fail
      refine h0.out.mono ?_
      rintro e w1 ⟨rfl, rfl⟩
      go_wp2_with fail
      go_ret2
      exact ⟨rfl, rfl⟩
    · have hm : sizeM P s = (0, false) := by
        unfold sizeM
        rw [hb, hD.find_out hno]
        rfl
      rw [hm]
      replace hb := hide hb
      clear hm hno
      go_enter Try.func65, Try.ntmps65
      go_wp2_with fail
      refine h0.out.mono ?_
      rintro e w1 ⟨rfl, rfl⟩
      go_wp2_with fail
      go_ret2
      exact ⟨rfl, rfl⟩
theorem DE.fnames {w : World} {base d m : Nat} {P : PD} {E : List Ent} (h : DE w base d m P E) : sortN (E.map Ent.name) = P.L.map fname := by
  rw [sortN_eq h.up.le, ← h.pl, List.map_map]
  rfl
set_option maxRecDepth 100000 in
set_option maxHeartbeats 1000000 in
theorem list_any (base d : Nat) (P : PD) (F : Nat → Prop) (w : World) (h : DS w base d P F) :
    Calls Try.prog 42 #[.pointer (some ⟨d, 0, none⟩)] w fun e w' => ∃ A n c, e = .returned (.slice A n c) ∧ n = (listM P).length ∧ Cells w' A ((listM P).map str) ∧ (∀ a, A = some a → w.heap.size ≤ a.block ∧ a.block < w'.heap.size) ∧ n ≤ 1024 ∧ n ≤ c ∧ Ext w w' := by
  obtain ⟨m, E, hD, hF⟩ := h
  have h0 := none_any d m P.quota P.armed P.stopped w hD.row
  have c3 : w.cell? ⟨d, 3, none⟩ = some (.bool P.stopped) := Row.cell hD.row 3 rfl
  replace h0 := hide h0
  cases hb : P.stopped with
  | true =>
    have hm : listM P = [] := by unfold listM; rw [hb]; rfl
    rw [hm]
    rw [hb] at c3
    replace hb := hide hb
    clear hm
    go_enter Try.func42, Try.ntmps42
    go_wp2_with fail
    refine h0.out.mono ?_
    rintro e w1 ⟨rfl, rfl⟩
    go_wp2_with fail
    go_ret
    exact ⟨none, 0, 0, rfl, rfl, Cells.nil _ _, nofun, by omega, by omega, Ext.refl _⟩
  | false =>
    rw [hb] at c3
    have hm : listM P = sortN (E.map Ent.name) := by unfold listM; rw [hb, hD.fnames]; rfl
    rw [hm]
    have hnm := names_any base d m P.quota P.armed P.stopped E w hD.row hD.fs hD.cnt
    have hl : (sortN (E.map Ent.name)).length = E.length := by rw [(sortN_perm _).length_eq, List.length_map]
    have hcnt := hD.cnt
    replace hm := hide hm
    replace hb := hide hb
    replace hl := hide hl
    replace hnm := hide hnm
    go_enter Try.func42, Try.ntmps42
    go_wp2_with fail
    refine h0.out.mono ?_
    rintro e w1 ⟨rfl, rfl⟩
    go_wp2_with fail
    refine hnm.out.mono ?_
    rintro e w2 ⟨A, n, c, rfl, hn, hbuf, hE⟩
    replace hn := hide hn
    go_wp2_with fail
    go_ret
    exact ⟨A, n, c, rfl, by rw [hl.out]; exact hn.out, hbuf.cells, fun a ha => ⟨hbuf.base_le a ha, hbuf.lt a ha⟩, by rw [hn.out]; exact hcnt, hbuf.2.1, hE⟩
end Go.Proofs.Ytohphanbnhiodaa

/- slices.Clone of bytes; Read. -/
namespace Go.Proofs.Ytohphanbnhiodaa
open Go.RowKit Go.Maps

end Go.Proofs.Ytohphanbnhiodaa

/- loggia/disk: Read. -/
namespace Go.Proofs.Ytohphanbnhiodaa
open Go.RowKit Go.Maps

/-- Behind the list of one name. -/
abbrev oneW (w : World) (s : List UInt8) : World := w.alloc (.cells #[.string ⟨s.toArray⟩] 9)
theorem may_one (base d : Nat) (P : PD) (F : Nat → Prop) (s : List UInt8) (w : World) (h : DS w base d P F) (hs : s.length ≤ 9223372036854775807) :
    Calls Try.prog 60 #[.pointer (some ⟨d, 0, none⟩), .slice (some ⟨w.heap.size, 0, none⟩) 1 1] (oneW w s) fun e w' => e = .returned (.int .i64 (mayM [s] P.stopped)) ∧ oneW w s = w' := by
  have hE : Ext w (oneW w s) := (Ext.refl w).alloc _
  obtain ⟨m, E, hD, hF⟩ := h.ext hE
  refine (may_any d m P.quota P.armed P.stopped (some ⟨w.heap.size, 0, none⟩) 1 1 [s] (oneW w s) hD.row rfl ?_ (by omega) (by simpa using hs)).mono fun e w' h => ⟨h.1, h.2.symm⟩
  refine .inr ⟨w.heap.size, 0, rfl, fun i v hv => ?_⟩
  rw [Nat.zero_add, cell_of_row _ _ _ _ _ _ (heap_alloc_new w _)]
  simpa [str] using hv
theorem may_ok {s : List UInt8} (h : namedM s = true) : mayM [s] false = 0 := by unfold mayM; simp [h]
theorem may_stop {s : List UInt8} (h : namedM s = true) : mayM [s] true = 63 := by unfold mayM; simp [h]
theorem may_bad {s : List UInt8} (b : Bool) (h : namedM s = false) : mayM [s] b = 60 := by unfold mayM; simp [h]
/-- What Read answers. -/
def ReadPost (P : PD) (s : List UInt8) (fr n : Int) (w : World) (e : Ending) (w' : World) : Prop :=
  ∃ A k c, e = .returned (.tuple #[.slice A k c, .int .i64 (readM P s fr n).2]) ∧ Buf w' w.heap.size 5 A k c ((readM P s fr n).1.map B8) ∧ k = (readM P s fr n).1.length ∧ Ext w w'
theorem readPost_err {P : PD} {s : List UInt8} {fr n : Int} {w w' : World} {k : Nat} (h : readM P s fr n = ([], k)) (he : Ext w w') : ReadPost P s fr n w (.returned (.tuple #[.slice none 0 0, .int .i64 k])) w' := by
  unfold ReadPost
  rw [h]
  exact ⟨none, 0, 0, rfl, Buf.nil _ _ _, rfl, he⟩
set_option maxRecDepth 100000 in
set_option maxHeartbeats 1000000 in
theorem read_any (base d : Nat) (P : PD) (F : Nat → Prop) (s : List UInt8) (fr n : Int) (w : World) (h : DS w base d P F) (hs : s.length ≤ 9223372036854775807) (hf1 : -9223372036854775808 ≤ fr) (hf2 : fr ≤ 9223372036854775807)
    (hn1 : -9223372036854775808 ≤ n) (hn2 : n ≤ 9223372036854775807) :
    Calls Try.prog 38 #[.pointer (some ⟨d, 0, none⟩), str s, .int .i64 fr, .int .i64 n] w (ReadPost P s fr n w) := by
  have hmay := may_one base d P F s w h hs
  have hE : Ext w (oneW w s) := (Ext.refl w).alloc _
  unfold str
  cases hnm : namedM s with
  | false =>
    have hr : readM P s fr n = ([], 60) := by unfold readM; rw [hnm]; rfl
    rw [may_bad _ hnm] at hmay
    have fin := readPost_err hr hE
    replace fin := hide fin
    replace hmay := hide hmay
    clear hr hnm h
    go_enter Try.func38, Try.ntmps38
    go_wp2_with fail
    refine hmay.out.mono ?_
    rintro e w1 ⟨rfl, rfl⟩
    go_wp2_with fail
    go_ret2
    exact fin.out
  | true =>
    cases hst : P.stopped with
    | true =>
      have hr : readM P s fr n = ([], 63) := by unfold readM; rw [hnm, hst]; rfl
      rw [hst, may_stop hnm] at hmay
      have fin := readPost_err hr hE
      replace fin := hide fin
      replace hmay := hide hmay
      clear hr hnm h hst
      go_enter Try.func38, Try.ntmps38
      go_wp2_with fail
      refine hmay.out.mono ?_
      rintro e w1 ⟨rfl, rfl⟩
      go_wp2_with fail
      go_ret2
      exact fin.out
    | false =>
      rw [hst, may_ok hnm] at hmay
      obtain ⟨m, E, hD, hF⟩ := h.ext hE
      have c0 : (oneW w s).cell? ⟨d, 0, none⟩ = some (.map (some m)) := Row.cell hD.row 0 rfl
      rcases hD.lookup s hs (oneW w s) rfl with ⟨e0, he0, hn, hrun⟩ | ⟨hno, hrun⟩
      · have hfd : P.find s = some e0.pl := by rw [← hn]; exact hD.find_in he0
        have cf : (oneW w s).cell? ⟨e0.f, 0, none⟩ = some (.slice e0.A e0.b.length e0.c) := (hD.fs.ok e0 he0).row.cell 0 rfl
        have hbuf := (hD.fs.ok e0 he0).buf
        have hlen := hD.lens e0 he0
        obtain ⟨bl, hbl⟩ : ∃ x, x = e0.b.length := ⟨_, rfl⟩
        rw [← hbl] at cf hbuf hlen
        unfold str at hrun
        by_cases hbad : fr < 0 ∨ (bl : Int) < fr ∨ n < 0
        · have hr : readM P s fr n = ([], 5) := by
            unfold readM
            rw [hnm, hst, hfd]
            simp only [if_true]
            show (if fr < 0 ∨ (e0.b.length : Int) < fr ∨ n < 0 then _ else _) = _
            rw [← hbl, if_pos hbad]
          have fin := readPost_err hr hE
          replace fin := hide fin
          replace hmay := hide hmay
          replace hn := hide hn
          replace hbl := hide hbl
          clear hr hnm h hst hfd hbuf
          rcases Int.lt_or_le fr 0 with h1 | h1
          · go_enter Try.func38, Try.ntmps38
            go_wp2_with fail
            refine hmay.out.mono ?_
            rintro e w1 ⟨rfl, rfl⟩
            go_wp2_with fail
            go_ret2
            exact fin.out
          · rcases Int.lt_or_le bl fr with h2 | h2
            · go_enter Try.func38, Try.ntmps38
              go_wp2_with fail
              refine hmay.out.mono ?_
              rintro e w1 ⟨rfl, rfl⟩
              go_wp2_with fail
              go_ret2
              exact fin.out
            · have h3 : n < 0 := by omega
              go_enter Try.func38, Try.ntmps38
              go_wp2_with fail
              refine hmay.out.mono ?_
              rintro e w1 ⟨rfl, rfl⟩
              go_wp2_with fail
              go_ret2
              exact fin.out
        · obtain ⟨f, rfl⟩ : ∃ f : Nat, fr = f := ⟨fr.toNat, by omega⟩
          obtain ⟨k, rfl⟩ : ∃ k : Nat, n = k := ⟨n.toNat, by omega⟩
          have hfl : f ≤ bl := by omega
          obtain ⟨k2, hk2⟩ : ∃ k2, k2 = min k (bl - f) := ⟨_, rfl⟩
          have hr : readM P s f k = ((e0.b.drop f).take k, 0) := by
            unfold readM
            rw [hnm, hst, hfd]
            simp only [if_true]
            show (if (f : Int) < 0 ∨ (e0.b.length : Int) < f ∨ (k : Int) < 0 then _ else _) = _
            rw [← hbl, if_neg hbad]
            rfl
          have hmin := run_min2 (P := Try.prog) #[3, 3] 3 (x := k) (y := (bl : Int) - f) (m := (k2 : Nat)) (by omega)
          have hA0 : e0.A = none → e0.c = 0 := by
            intro hA
            rcases hbuf.2.2 with h | ⟨g, cur, hg, _⟩
            · exact h.2
            · rw [hA] at hg; cases hg
          have hAs : ∀ a, e0.A = some a → a.spot = none := by
            intro a hA
            rcases hbuf.2.2 with h | ⟨g, cur, hg, _⟩
            · rw [hA] at h; cases h.1
            · rw [hA] at hg; cases hg; rfl
          obtain ⟨A', c', hsub, hcl, hz', hbk, hkc⟩ := run_sub (t := 31) (e := 5) (fr := f) (k := k2) Try.underlying31 (fun W => by kernel_rfl) (n := bl) (by omega) hbuf.2.1 hA0 hAs
          have hcells : Bs (oneW w s) A' ((e0.b.drop f).take k2) := by
            have := hcl _ _ hbuf.1 hbuf.cells
            unfold Bs
            rw [List.map_take, List.map_drop]
            exact this
          have hl2 : ((e0.b.drop f).take k2).length = k2 := by rw [List.length_take, List.length_drop, ← hbl]; omega
          have htk : (e0.b.drop f).take k2 = (e0.b.drop f).take k := by
            by_cases hc : k ≤ bl - f
            · rw [hk2, Nat.min_eq_left hc]
            · rw [hk2, Nat.min_eq_right (by omega), List.take_of_length_le (i := bl - f) (by rw [List.length_drop, ← hbl]; omega), List.take_of_length_le (i := k) (by rw [List.length_drop, ← hbl]; omega)]
          have hcln := clone_any A' k2 c' ((e0.b.drop f).take k2) (oneW w s).drew hl2.symm hcells hz' (by omega)
          replace htk := hide htk
          replace hl2 := hide hl2
          replace hr := hide hr
          replace hmay := hide hmay
          replace hn := hide hn
          replace hbl := hide hbl
          replace hcln := hide hcln
          replace hk2' := hide hk2
          have hk2b : (f : Int) + k2 ≤ bl := by omega
          clear hnm h hst hfd hbuf hcl hz' hbk hcells hk2
          go_enter Try.func38, Try.ntmps38
          go_wp2_with fail
          refine hmay.out.mono ?_
          rintro e w1 ⟨rfl, rfl⟩
          go_wp2_with fail
          refine wp_region_text follows (by kernel_rfl) (by kernel_rfl) (fun K hK => ?_)
          go_wp2_with fail
          refine hcln.out.mono ?_
          rintro e w3 ⟨A3, c3, rfl, hb3, hE3⟩
          go_wp2_with fail
          refine ⟨by kernel_rfl, ?_⟩
          go_wp2_with fail
          go_ret2
          unfold ReadPost
          rw [hr.out]
          refine ⟨A3, k2, c3, rfl, ?_, ?_, hE.drew.trans hE3⟩
          · rw [← htk.out]
            exact hb3.lower hE.size
          · rw [← htk.out]
            exact hl2.out.symm
      · have hr : readM P s fr n = ([], 61) := by unfold readM; rw [hnm, hst, hD.find_out hno]; rfl
        have fin := readPost_err hr hE
        unfold str at hrun
        replace fin := hide fin
        replace hmay := hide hmay
        clear hr hnm h hst hno
        go_enter Try.func38, Try.ntmps38
        go_wp2_with fail
        refine hmay.out.mono ?_
        rintro e w1 ⟨rfl, rfl⟩
        go_wp2_with fail
        go_ret2
        exact fin.out
end Go.Proofs.Ytohphanbnhiodaa

/- A file put, a file dropped. -/
namespace Go.Proofs.Ytohphanbnhiodaa
open Go.RowKit Go.Maps

section
variable {w w1 : World} {base d m : Nat} {P P' : PD} {E : List Ent} {e1 : Ent}
theorem perm_ins {α : Type} (nm : α → List UInt8) (f : α) : ∀ l : List α, (insG nm f l).Perm (f :: l)
  | [] => List.Perm.refl _
  | y :: ys => by
    unfold insG
    split
    · exact List.Perm.refl _
    · exact ((perm_ins nm f ys).cons y).trans (List.Perm.swap f y ys)
theorem pw_with {α : Type} {nm : α → List UInt8} {R : α → α → Prop} (hs : ∀ {x y}, R x y → R y x) {f : α} {l : List α} (h : l.Pairwise R) (h1 : ∀ x ∈ l, nm x ≠ nm f → R f x) : (withG nm f l).Pairwise R := by
  unfold withG
  refine ((perm_ins nm f _).pairwise_iff hs).2 ?_
  rw [List.pairwise_cons]
  exact ⟨fun x hx => h1 x (mem_without.1 hx).1 (mem_without.1 hx).2, h.filter _⟩
/-- A map has just the files' entries: so it has as many. -/
theorem kv_len {L : List (Value × Value)} (hL : MapL Try.prog 9 w m L) (hu : Up Ent.name E) (hmem : ∀ p, p ∈ L ↔ ∃ e ∈ E, p = e.kv) : L.length = E.length := by
  have h1 : L.Nodup := nodup_of_map Prod.fst hL.nodup
  have h2 : (E.map Ent.kv).Nodup := by
    refine nodup_of_map Prod.fst ?_
    rw [List.map_map]
    have : (E.map Ent.name).Nodup := hu.nodup
    rw [List.Nodup, List.pairwise_map] at this ⊢
    exact this.imp fun h e => h (str_inj e)
  have h3 : L.Perm (E.map Ent.kv) := (List.perm_ext_iff_of_nodup h1 h2).2 fun p => by
    rw [hmem, List.mem_map]
    exact ⟨fun ⟨e, he, hp⟩ => ⟨e, he, hp.symm⟩, fun ⟨e, he, hp⟩ => ⟨e, he, hp.symm⟩⟩
  rw [h3.length_eq, List.length_map]
theorem DE.put (h : DE w base d m P E) (hrow : DRow w1 d m P'.quota P'.armed P'.stopped) (hm : ∃ L, MapL Try.prog 9 w1 m L ∧ ∀ p, p ∈ L ↔ ∃ e ∈ withG Ent.name e1 E, p = e.kv)
    (ho : ∀ x ∈ E, x.name ≠ e1.name → EOk w1 base x ∧ x.f ≠ e1.f ∧ ∀ a b, x.A = some a → e1.A = some b → a.block ≠ b.block) (hok : EOk w1 base e1) (hs : e1.name.length ≤ 9223372036854775807) (hl : e1.b.length ≤ 67108864)
    (hcnt : (withG Ent.name e1 E).length ≤ 1024) (hL : P'.L = withG fname e1.pl P.L) (hq : P'.quota ≤ 9223372036854775807) (ha : P'.armed ≤ 9223372036854775807) : DE w1 base d m P' (withG Ent.name e1 E) := by
  obtain ⟨L, hL1, hmem⟩ := hm
  refine ⟨hrow, ⟨⟨L, hL1, hmem, kv_len hL1 h.up.with hmem⟩, ?_, h.fs.low, h.up.with.nodup, ?_, ?_, ?_⟩, h.low, h.up.with, hcnt, ?_, ?_, hq, ha⟩
  · intro e he
    rcases mem_with.1 he with rfl | ⟨h1, h2⟩
    · exact hok
    · exact (ho e h1 h2).1
  · intro e he
    rcases mem_with.1 he with rfl | ⟨h1, h2⟩
    · exact hs
    · exact h.fs.short e h1
  · refine pw_with (fun h => h.symm) h.fs.fd fun x hx hn => ((ho x hx hn).2.1).symm
  · refine pw_with (fun h a b ha hb => (h b a hb ha).symm) h.fs.ad fun x hx hn a b ha hb => ((ho x hx hn).2.2 b a hb ha).symm
  · intro e he
    rcases mem_with.1 he with rfl | ⟨h1, h2⟩
    · exact hl
    · exact h.lens e h1
  · rw [hL, ← h.pl]
    exact map_with (nm := Ent.name) (nm' := fname) (g := Ent.pl) (fun _ => rfl) e1 E
theorem foot_with {k : Nat} (h : Foot d m (withG Ent.name e1 E) k) : Foot d m E k ∨ k = e1.f ∨ ∃ a, e1.A = some a ∧ a.block = k := by
  rcases h with h | h | ⟨e, he, h⟩
  · exact .inl (.inl h)
  · exact .inl (.inr (.inl h))
  · rcases mem_with.1 he with rfl | ⟨h1, h2⟩
    · exact .inr h
    · exact .inl (.inr (.inr ⟨e, h1, h⟩))
theorem DE.drop (h : DE w base d m P E) (s : List UInt8) (hrow : DRow w1 d m P'.quota P'.armed P'.stopped) (hm : ∃ L, MapL Try.prog 9 w1 m L ∧ ∀ p, p ∈ L ↔ ∃ e ∈ withoutG Ent.name s E, p = e.kv)
    (ho : ∀ x ∈ E, EOk w1 base x) (hL : P'.L = withoutG fname s P.L) (hq : P'.quota ≤ 9223372036854775807) (ha : P'.armed ≤ 9223372036854775807) : DE w1 base d m P' (withoutG Ent.name s E) := by
  obtain ⟨L, hL1, hmem⟩ := hm
  have hsub : ∀ x ∈ withoutG Ent.name s E, x ∈ E := fun x hx => (mem_without.1 hx).1
  refine ⟨hrow, ⟨⟨L, hL1, hmem, kv_len hL1 (h.up.without s) hmem⟩, fun e he => ho e (hsub e he), h.fs.low, (h.up.without s).nodup, fun e he => h.fs.short e (hsub e he), h.fs.fd.filter _, h.fs.ad.filter _⟩, h.low, h.up.without s, Nat.le_trans (len_without_le _ _) h.cnt, fun e he => h.lens e (hsub e he), ?_, hq, ha⟩
  rw [hL, ← h.pl]
  exact map_without (nm := Ent.name) (nm' := fname) (g := Ent.pl) (fun _ => rfl) s E
theorem foot_without {s : List UInt8} {k : Nat} (h : Foot d m (withoutG Ent.name s E) k) : Foot d m E k := by
  rcases h with h | h | ⟨e, he, h⟩
  · exact .inl h
  · exact .inr (.inl h)
  · exact .inr (.inr ⟨e, (mem_without.1 he).1, h⟩)
/-- What a map's block holds when a file is put. -/
theorem DE.mapPut (h : DE w base d m P E) {L L' : List (Value × Value)} (hmem : ∀ p, p ∈ L ↔ ∃ e ∈ E, p = e.kv) (hp : Put L (str e1.name) (.pointer (some ⟨e1.f, 0, none⟩)) L') : ∀ p, p ∈ L' ↔ ∃ e ∈ withG Ent.name e1 E, p = e.kv := by
  intro p
  rw [hp.mem]
  constructor
  · rintro (rfl | ⟨h1, h2⟩)
    · exact ⟨e1, mem_with.2 (.inl rfl), rfl⟩
    · obtain ⟨e, he, rfl⟩ := (hmem p).1 h1
      exact ⟨e, mem_with.2 (.inr ⟨he, fun hn => h2 (by show str e.name = str e1.name; rw [hn])⟩), rfl⟩
  · rintro ⟨e, he, rfl⟩
    rcases mem_with.1 he with rfl | ⟨h1, h2⟩
    · exact .inl rfl
    · exact .inr ⟨(hmem _).2 ⟨e, h1, rfl⟩, fun hn => h2 (str_inj hn)⟩
/-- The same map, when a file's bytes turn. -/
theorem DE.mapSame (h : DE w base d m P E) {L : List (Value × Value)} (hmem : ∀ p, p ∈ L ↔ ∃ e ∈ E, p = e.kv) {e0 : Ent} (h0 : e0 ∈ E) (hn : e1.name = e0.name) (hf : e1.f = e0.f) : ∀ p, p ∈ L ↔ ∃ e ∈ withG Ent.name e1 E, p = e.kv := by
  have hk : e1.kv = e0.kv := by unfold Ent.kv; rw [hn, hf]
  intro p
  rw [hmem]
  constructor
  · rintro ⟨e, he, rfl⟩
    by_cases hne : e.name = e1.name
    · have : e = e0 := h.up.uniq he h0 (hne.trans hn)
      subst this
      exact ⟨e1, mem_with.2 (.inl rfl), hk.symm⟩
    · exact ⟨e, mem_with.2 (.inr ⟨he, hne⟩), rfl⟩
  · rintro ⟨e, he, rfl⟩
    rcases mem_with.1 he with rfl | ⟨h1, h2⟩
    · exact ⟨e0, h0, hk⟩
    · exact ⟨e, h1, rfl⟩
theorem DE.mapDrop {L L' : List (Value × Value)} (hmem : ∀ p, p ∈ L ↔ ∃ e ∈ E, p = e.kv) {s : List UInt8} (hp : ∀ p, p ∈ L' ↔ p ∈ L ∧ p.1 ≠ str s) : ∀ p, p ∈ L' ↔ ∃ e ∈ withoutG Ent.name s E, p = e.kv := by
  intro p
  rw [hp]
  constructor
  · rintro ⟨h1, h2⟩
    obtain ⟨e, he, rfl⟩ := (hmem p).1 h1
    exact ⟨e, mem_without.2 ⟨he, fun hn => h2 (by show str e.name = str s; rw [hn])⟩, rfl⟩
  · rintro ⟨e, he, rfl⟩
    exact ⟨(hmem _).2 ⟨e, (mem_without.1 he).1, rfl⟩, fun hn => (mem_without.1 he).2 (str_inj hn)⟩
end
end Go.Proofs.Ytohphanbnhiodaa

/- loggia/disk: Append, what it needs. -/
namespace Go.Proofs.Ytohphanbnhiodaa
open Go.RowKit Go.Maps

theorem pw_mem {α : Type} {R : α → α → Prop} (hs : ∀ {x y}, R x y → R y x) : ∀ {l : List α}, l.Pairwise R → ∀ {x y : α}, x ∈ l → y ∈ l → x ≠ y → R x y
  | [], _, _, _, h, _, _ => by cases h
  | a :: l, h, x, y, hx, hy, hne => by
    rw [List.pairwise_cons] at h
    rcases List.mem_cons.1 hx with h1 | h1 <;> rcases List.mem_cons.1 hy with h2 | h2
    · exact (hne (h1.trans h2.symm)).elim
    · subst h1; exact h.1 y h2
    · subst h2; exact hs (h.1 x h1)
    · exact pw_mem hs h.2 h1 h2 hne
section
variable {w W : World} {base d m : Nat} {P : PD} {E : List Ent} {e x : Ent}
theorem row_ne_map {g : Nat} {t : TypeId} {cs : Array Value} {L : List (Value × Value)} (hr : Row w g t cs) (hL : MapL Try.prog 9 w m L) : g ≠ m := by
  rintro rfl
  obtain ⟨es, cl, hm, _⟩ := hL.ex
  have h1 : w.heap[g]? = some (.cells cs t (0, 0)) := hr
  rw [h1] at hm
  cases hm
theorem EOk.ne_map {L : List (Value × Value)} (h : EOk w base e) (hL : MapL Try.prog 9 w m L) : e.f ≠ m ∧ ∀ a, e.A = some a → a.block ≠ m := by
  refine ⟨row_ne_map h.row hL, ?_⟩
  rintro a ha
  rcases h.buf.2.2 with h1 | ⟨g, cur, hg, _, hr, _⟩
  · rw [ha] at h1; cases h1.1
  · rw [ha] at hg; cases hg
    exact row_ne_map hr hL
theorem EOk.fa (h : EOk w base e) (k : EOk w base x) : ∀ a, x.A = some a → e.f ≠ a.block := fun a ha he => k.buf.unlike h.row (by decide) a ha he.symm
/-- The file that Append has found, or made. -/
structure GotD (w W : World) (base : Nat) (E : List Ent) (s : List UInt8) (ok : Bool) (e0 : Ent) : Prop where
  name : e0.name = s
  has : EOk W base e0
  len : e0.b.length ≤ 67108864
  here : ok = true → e0 ∈ E
  away : ok = false → (∀ e ∈ E, e.name ≠ s) ∧ e0.b = [] ∧ e0.sure = 0 ∧ e0.A = none ∧ w.heap.size ≤ e0.f
theorem GotD.far {s : List UInt8} {ok : Bool} (h : GotD w W base E s ok e) (hD : DE w base d m P E) (hx : x ∈ E) (hn : x.name ≠ s) : x.f ≠ e.f ∧ ∀ a b, x.A = some a → e.A = some b → a.block ≠ b.block := by
  cases ok with
  | true =>
    have he := h.here rfl
    have hne : x ≠ e := fun hh => hn (by rw [hh]; exact h.name)
    exact ⟨pw_mem (fun h => h.symm) hD.fs.fd hx he hne, pw_mem (R := fun a b : Ent => ∀ x y, a.A = some x → b.A = some y → x.block ≠ y.block) (fun h a b ha hb => (h b a hb ha).symm) hD.fs.ad hx he hne⟩
  | false =>
    obtain ⟨_, _, _, hA, hf⟩ := h.away rfl
    refine ⟨fun hh => ?_, fun a b _ hb => by rw [hA] at hb; cases hb⟩
    have := (hD.fs.ok x hx).row.lt
    omega
/-- Where the file lies. -/
theorem GotD.at_ {s : List UInt8} {ok : Bool} (h : GotD w W base E s ok e) : (Foot d m E e.f ∨ w.heap.size ≤ e.f) ∧ ∀ a, e.A = some a → Foot d m E a.block := by
  cases ok with
  | true =>
    have he := h.here rfl
    exact ⟨.inl (.inr (.inr ⟨e, he, .inl rfl⟩)), fun a ha => .inr (.inr ⟨e, he, .inr ⟨a, ha, rfl⟩⟩)⟩
  | false =>
    obtain ⟨_, _, _, hA, hf⟩ := h.away rfl
    exact ⟨.inr hf, fun a ha => by rw [hA] at ha; cases ha⟩
end
/-- The end of Append, plainly: W1 is behind the counting, W2 behind the append, W3 behind the store, W4 behind the map's turn. -/
theorem append_end {w wx W1 W2 W4 : World} {base d m : Nat} {P : PD} {E : List Ent} {s b : List UInt8} {ok : Bool} {e0 : Ent} {A1 : Option Addr} {c1 : Nat}
    (hD : DE w base d m P E) (hs : s.length ≤ 9223372036854775807) (hwx : Ext w wx) (hG : GotD w wx base E s ok e0) (hcnt : ok = false → E.length < 1024)
    (hl : e0.b.length + b.length ≤ 67108864) (hrow1 : DRow W1 d m P.quota (P.armed - 1) false) (hc1 : Chg (fun k => k = d) wx W1) (hst : P.stopped = false)
    (hbuf : Buf W2 base 5 A1 (e0.b.length + b.length) c1 (e0.b.map B8 ++ b.map B8)) (hg2 : W1.grownBy W2 (Value.slice e0.A e0.b.length e0.c).ownBlock) (hA1 : A1 = e0.A ∨ A1 = some ⟨W1.heap.size, 0, none⟩)
    {L L' : List (Value × Value)} (hmem : ∀ p, p ∈ L ↔ ∃ e ∈ E, p = e.kv) (hL : MapL Try.prog 9 w m L)
    (hput : Put L (str s) (.pointer (some ⟨e0.f, 0, none⟩)) L') (hL4 : MapL Try.prog 9 W4 m L') (hg4 : (W2.setCell ⟨e0.f, 0, none⟩ (.slice A1 (e0.b.length + b.length) c1)).grownBy W4 (some m)) :
    ∃ E', DE W4 base d m (P.goes (withG fname (s, e0.b ++ b, e0.sure) P.L)) E' ∧ Chg (Foot d m E) w W4 ∧ ∀ k, Foot d m E' k → Foot d m E k ∨ w.heap.size ≤ k := by
  obtain ⟨W3, hW3⟩ : ∃ W3, W3 = W2.setCell ⟨e0.f, 0, none⟩ (.slice A1 (e0.b.length + b.length) c1) := ⟨_, rfl⟩
  rw [← hW3] at hg4
  have hDx : DE wx base d m P E := hD.chg (Chg.of_ext hwx (fun _ => False)) (fun _ h => h.elim)
  have hLx := hL.ext hwx
  have hok0 := hG.has
  have hap := hDx.apart
  have hm0 := hok0.ne_map hLx
  have hsz1 : wx.heap.size ≤ W1.heap.size := hc1.size
  have hszx : w.heap.size ≤ wx.heap.size := hwx.size
  -- which blocks may have turned
  have hd0 : d ≠ e0.f ∧ ∀ a, e0.A = some a → d ≠ a.block := ⟨Row.unlike hDx.row hok0.row (by decide), fun a ha hd => hok0.buf.unlike hDx.row (by decide) a ha hd.symm⟩
  have hown : ∀ k, (Value.slice e0.A e0.b.length e0.c).ownBlock = some k → ∃ a, e0.A = some a ∧ a.block = k := by
    intro k hk
    rcases hok0.buf.2.2 with ⟨h1, _⟩ | ⟨g, cur, hg, _⟩
    · rw [h1] at hk; cases hk
    · rw [hg] at hk ⊢
      exact ⟨_, rfl, by simpa [Value.ownBlock] using hk⟩
  have hc2 : Chg (fun k => ∃ a, e0.A = some a ∧ a.block = k) W1 W2 := Chg.of_grown hg2 fun k _ hk => hown k hk
  have hc3 : Chg (fun k => k = e0.f) W2 W3 := by rw [hW3]; exact Chg.of_set W2 (a := ⟨e0.f, 0, none⟩) _ rfl
  have hc4 : Chg (fun k => k = m) W3 W4 := Chg.of_grown hg4 fun k _ hk => by cases hk; rfl
  have hcall : Chg (fun k => k = d ∨ (∃ a, e0.A = some a ∧ a.block = k) ∨ k = e0.f ∨ k = m) wx W4 := by
    refine ((hc1.mono (S' := fun k => k = d ∨ (∃ a, e0.A = some a ∧ a.block = k) ∨ k = e0.f ∨ k = m) fun k _ h => .inl h).trans hc2 fun k _ h => .inr (.inl h)) |>.trans hc3 (fun k _ h => .inr (.inr (.inl h))) |>.trans hc4 fun k _ h => .inr (.inr (.inr h))
  obtain ⟨e1, he1⟩ : ∃ e1 : Ent, e1 = ⟨s, e0.f, e0.b ++ b, e0.sure, A1, c1⟩ := ⟨_, rfl⟩
  have hname : e1.name = s := by rw [he1]
  have hok1 : EOk W4 base e1 := by
    rw [he1]
    have hr1 : Row W1 e0.f 94 #[.slice e0.A e0.b.length e0.c, .int .i64 e0.sure] := hc1.row hok0.row fun h => hd0.1 h.symm
    have hr2 : Row W2 e0.f 94 #[.slice e0.A e0.b.length e0.c, .int .i64 e0.sure] := hc2.row hr1 fun ⟨a, ha, hk⟩ => hok0.fa hok0 a ha hk.symm
    have hr3 : Row W3 e0.f 94 #[.slice A1 (e0.b.length + b.length) c1, .int .i64 e0.sure] := by rw [hW3]; exact hr2.put 0 _
    have hb3 : Buf W3 base 5 A1 (e0.b.length + b.length) c1 (e0.b.map B8 ++ b.map B8) := by
      rw [hW3]
      exact hbuf.setCell (fun a ha => hbuf.unlike hr2 (by decide) a ha) _
    refine ⟨?_, ?_, hok0.low, ?_⟩
    · show Row W4 e0.f _ #[.slice A1 (e0.b ++ b).length c1, .int .i64 e0.sure]
      rw [List.length_append]
      exact hc4.row hr3 hm0.1
    · show Buf W4 base 5 A1 (e0.b ++ b).length c1 ((e0.b ++ b).map B8)
      rw [List.length_append, List.map_append]
      refine hb3.chg hc4 ?_
      intro a ha hk
      rcases hA1 with h | h
      · exact hm0.2 a (by rw [← h]; exact ha) hk
      · rw [h] at ha; cases ha
        have := hLx.lt
        have hk : W1.heap.size = m := hk
        omega
    · show e0.sure ≤ (e0.b ++ b).length
      rw [List.length_append]
      have := hok0.sure
      omega
  refine ⟨withG Ent.name e1 E, DE.put hD ?_ ⟨L', hL4, ?_⟩ ?_ hok1 (by rw [hname]; exact hs) ?_ ?_ ?_ hD.hq ?_, ?_, ?_⟩
  · show DRow W4 d m P.quota (P.armed - 1) P.stopped
    rw [hst]
    refine hc4.row (hc3.row (hc2.row hrow1 fun ⟨a, ha, hk⟩ => hd0.2 a ha hk.symm) fun h => hd0.1 h) hap.1
  · refine hD.mapPut hmem ?_
    rw [he1]
    exact hput
  · intro x hx hn
    rw [hname] at hn
    obtain ⟨h1, h2⟩ := hG.far hD hx hn
    have hokx := hDx.fs.ok x hx
    have hmx := hokx.ne_map hLx
    have hf : ¬ (x.f = d ∨ (∃ a, e0.A = some a ∧ a.block = x.f) ∨ x.f = e0.f ∨ x.f = m) := by
      rintro (h | ⟨a, ha, h⟩ | h | h)
      · exact (hap.2 x hx).1 h.symm
      · exact hokx.fa hok0 a ha h.symm
      · exact h1 h
      · exact hmx.1 h
    have hA : ∀ b, x.A = some b → ¬ (b.block = d ∨ (∃ a, e0.A = some a ∧ a.block = b.block) ∨ b.block = e0.f ∨ b.block = m) := by
      rintro b hb (h | ⟨a, ha, h⟩ | h | h)
      · exact (hap.2 x hx).2 b hb h.symm
      · exact h2 b a hb ha h.symm
      · exact hok0.fa hokx b hb h.symm
      · exact hmx.2 b hb h
    refine ⟨hokx.keep (hcall.block _ hokx.row.lt hf) fun a ha => hcall.block _ (hokx.buf.lt a ha) (hA a ha), by rw [he1]; exact h1, ?_⟩
    intro a a1 ha ha1
    rw [he1] at ha1
    rcases hA1 with h | h
    · exact h2 a a1 ha (by rw [← h]; exact ha1)
    · rw [h] at ha1; cases ha1
      have := hokx.buf.lt a ha
      show a.block ≠ W1.heap.size
      omega
  · rw [he1]
    show (e0.b ++ b).length ≤ _
    rw [List.length_append]
    exact hl
  · cases ok with
    | true => exact Nat.le_trans (len_with_in (hG.here rfl) (by rw [hname]; exact hG.name)) hD.cnt
    | false => exact Nat.le_trans (len_with_le _ _) (hcnt rfl)
  · rw [he1]
    rfl
  · show P.armed - 1 ≤ _
    have := hD.ha
    omega
  · obtain ⟨hf, hA⟩ := hG.at_ (d := d) (m := m)
    refine (Chg.of_ext hwx (Foot d m E)).trans hcall ?_
    rintro k hk (rfl | ⟨a, ha, rfl⟩ | rfl | rfl)
    · exact .inl rfl
    · exact hA a ha
    · rcases hf with hf | hf
      · exact hf
      · omega
    · exact .inr (.inl rfl)
  · obtain ⟨hf, hA⟩ := hG.at_ (d := d) (m := m)
    intro k hk
    rcases foot_with hk with h | h | ⟨a, ha, h⟩
    · exact .inl h
    · rw [he1] at h
      rw [h]
      exact hf
    · rw [he1] at ha
      rcases hA1 with h1 | h1
      · rw [← h]
        exact .inl (hA a (by rw [← h1]; exact ha))
      · rw [h1] at ha; cases ha
        rw [← h]
        exact .inr (by show w.heap.size ≤ W1.heap.size; omega)
end Go.Proofs.Ytohphanbnhiodaa

/- loggia/disk: Append. -/
namespace Go.Proofs.Ytohphanbnhiodaa
open Go.RowKit Go.Maps

theorem append_no {P : PD} {s b : List UInt8} {k : Nat} (hk : appendM P s b = (P, k)) {base d : Nat} {F : Nat → Prop} {w w1 : World} (h : DS w base d P F) (hE : Ext w w1) : ∀ e, e = Ending.returned (.int .i64 k) → e = .returned (.int .i64 (appendM P s b).2) ∧ DNext base d F w (appendM P s b).1 w1 := by
  rw [hk]
  exact fun e he => ⟨he, F, h.ext hE, Chg.of_ext hE F, fun k hk => .inl hk⟩
set_option maxRecDepth 100000 in
set_option maxHeartbeats 1000000 in
theorem append_bad (base d : Nat) (P : PD) (F : Nat → Prop) (s b : List UInt8) (B : Option Addr) (n c : Nat) (w : World) (h : DS w base d P F) (hs : s.length ≤ 9223372036854775807) (hbad : namedM s = false ∨ P.stopped = true) :
    Calls Try.prog 37 #[.pointer (some ⟨d, 0, none⟩), str s, .slice B n c] w fun e w' => e = .returned (.int .i64 (appendM P s b).2) ∧ DNext base d F w (appendM P s b).1 w' := by
  have hmay := may_one base d P F s w h hs
  have hE : Ext w (oneW w s) := (Ext.refl w).alloc _
  obtain ⟨k, hk, hm⟩ : ∃ k : Nat, appendM P s b = (P, k) ∧ mayM [s] P.stopped = k ∧ 0 < k := by
    unfold appendM
    cases hn : namedM s with
    | false => exact ⟨60, rfl, may_bad _ hn, by omega⟩
    | true =>
      rcases hbad with hbad | hbad
      · rw [hn] at hbad; cases hbad
      · rw [hbad]
        exact ⟨63, rfl, may_stop hn, by omega⟩
  rw [hm.1] at hmay
  have hkp := hm.2
  have fin := append_no hk h hE
  have hkd : decide ((k : Int) = 0) = false := decide_eq_false (by omega)
  clear hm hk h
  replace hmay := hide hmay
  replace fin := hide fin
  unfold str
  go_enter Try.func37, Try.ntmps37
  go_wp2_with fail
  refine hmay.out.mono ?_
  rintro e w1 ⟨rfl, rfl⟩
  go_wp2_with fail
  go_ret
  exact fin.out _ rfl
end Go.Proofs.Ytohphanbnhiodaa

