/- Small words on memory that all the walks share: what came stays, slices read as lists, bytes. -/
import Derived.Test.YtkdcnhnaiknaaaaGreatNB01
import Derived.WalkKit
import Derived.WalkSpells
import Derived.WalkLawsBesides
import Derived.Deep.Draws
import Derived.Maps.AppendAt
import Derived.Test.YtkdcnhnaiknaaaaGreatRows
import Derived.Laws.BytesArg
import Derived.Deep.QuietTactic
import Derived.BigQuiet
import Derived.Laws.Rows
import Derived.Lib.ConvBytes
import Derived.Laws.BitsAllLaws
set_option linter.unusedSimpArgs false
set_option linter.unusedVariables false
namespace Go.Proofs.YtkdcnhnaiknaaaaGreat
open Go.RowKit

theorem hide {p : Prop} (h : p) : Hid p := h

/-- All that there was is as it was; there may be more. -/
def Ext (w w' : World) : Prop := Below w.heap.size w w'
section
variable {w w1 w2 : World}
theorem Ext.refl (w : World) : Ext w w := Below.refl _ _
theorem Ext.size (h : Ext w w1) : w.heap.size ≤ w1.heap.size := Below.size h
theorem Ext.trans (h : Ext w w1) (k : Ext w1 w2) : Ext w w2 := Below.trans h (Below.mono k h.size)
theorem Ext.drew (h : Ext w w1) : Ext w w1.drew := Below.drew h
theorem Ext.drewN (h : Ext w w1) (n : Nat) : Ext w (w1.drewN n) := 
  have hb : Below w.heap.size w w1 := h
  ⟨hb.os, hb.tape, hb.output, hb.size, hb.block⟩
theorem Ext.alloc (h : Ext w w1) (o : Obj) : Ext w (w1.alloc o) := Below.alloc h h.size o
theorem Ext.setCell (h : Ext w w1) {p : Addr} (hp : w.heap.size ≤ p.block) (u : Value) : Ext w (w1.setCell p u) := Below.setCell h hp u
theorem Ext.grown {row : Option Nat} (h : Ext w w1) (hg : w1.grownBy w2 row) (hr : ∀ k, row = some k → w.heap.size ≤ k) : Ext w w2 := Below.grown h hg h.size hr
theorem Ext.cell {a : Addr} {v : Value} (h : Ext w w1) (hc : w.cell? a = some v) : w1.cell? a = some v := (Below.cell h (World.block_lt_of_cell? w a hc)).trans hc
theorem Ext.block {k : Nat} {o : Obj} (h : Ext w w1) (hk : w.heap[k]? = some o) : w1.heap[k]? = some o :=
  (Below.block h k (Array.getElem?_eq_some_iff.1 hk).1).trans hk
theorem Ext.frozen {a : Addr} (h : Ext w w1) (hlt : a.block < w.heap.size) : w1.frozen? a = w.frozen? a := Below.frozen h hlt
theorem Ext.owns {base : Nat} {e : TypeId} {size : Nat} {v : Value} {n : Nat} {xs : List Value} (h : Ext w w1) (ho : w.ownsRow base e size v n xs) : w1.ownsRow base e size v n xs := by
  obtain ⟨h1, h2⟩ := ho
  refine ⟨h1, ?_⟩
  rcases h2 with h2 | ⟨g, cap, cur, hv, hg, hh, r⟩
  · exact .inl h2
  · exact .inr ⟨g, cap, cur, hv, hg, h.block hh, r⟩
end

/-- Block g is whole: the cells cs of type t, all of them writable. -/
def Row (w : World) (g : Nat) (t : TypeId) (cs : Array Value) : Prop := w.heap[g]? = some (.cells cs t (0, 0))
section
variable {w w1 : World} {g : Nat} {t : TypeId} {cs : Array Value}
theorem Row.lt (h : Row w g t cs) : g < w.heap.size := (Array.getElem?_eq_some_iff.1 h).1
theorem Row.cell (h : Row w g t cs) (i : Nat) {v : Value} (hv : cs[i]? = some v) : w.cell? ⟨g, i, none⟩ = some v := (cell_of_row w g i cs t (0, 0) h).trans hv
theorem Row.get (h : Row w g t cs) (i : Nat) : w.cell? ⟨g, i, none⟩ = cs[i]? := cell_of_row w g i cs t (0, 0) h
theorem Row.free (h : Row w g t cs) (i : Nat) : w.frozen? ⟨g, i, none⟩ = false := by
  simp [World.frozen?, show w.heap[g]? = some (.cells cs t (0, 0)) from h]
theorem Row.ext (h : Row w g t cs) (he : Ext w w1) : Row w1 g t cs := he.block h
theorem Row.keep (h : Row w g t cs) (hb : w1.heap[g]? = w.heap[g]?) : Row w1 g t cs := Eq.trans hb h
theorem Row.drew (h : Row w g t cs) : Row w.drew g t cs := h
theorem Row.alloc (h : Row w g t cs) (o : Obj) : Row (w.alloc o) g t cs := h.keep (Below.heap_alloc w o g h.lt)
theorem Row.grown {row : Option Nat} (h : Row w g t cs) (hg : w.grownBy w1 row) (hne : some g ≠ row) : Row w1 g t cs := h.keep (hg.block g h.lt hne)
theorem Row.away (h : Row w g t cs) {p : Addr} (hp : g ≠ p.block) (u : Value) : Row (w.setCell p u) g t cs := h.keep (Below.heap_setCell w p u g hp)
theorem Row.put (h : Row w g t cs) (i : Nat) (u : Value) : Row (w.setCell ⟨g, i, none⟩ u) g t (cs.setIfInBounds i u) := by
  unfold Row at h ⊢
  simp [World.setCell, Array.getElem?_modify, h]
theorem Row.unlike {g' : Nat} {t' : TypeId} {cs' : Array Value} (h : Row w g t cs) (h' : Row w g' t' cs') (hne : t ≠ t') : g ≠ g' := by
  rintro rfl
  unfold Row at h h'
  rw [h] at h'
  injection h' with h'
  injection h' with _ ht
  exact hne ht
theorem Row.new (w : World) (t : TypeId) (cs : Array Value) : Row (w.alloc (.cells cs t)) w.heap.size t cs := heap_alloc_new w _
end

/-- The cells xs lie at A, one behind the other. -/
def Cells (w : World) (A : Option Addr) (xs : List Value) : Prop :=
  xs = [] ∨ ∃ g o, A = some ⟨g, o, none⟩ ∧ ∀ i v, xs[i]? = some v → w.cell? ⟨g, o + i, none⟩ = some v
section
variable {w w1 : World} {A : Option Addr} {xs : List Value}
theorem Cells.nil (w : World) (A : Option Addr) : Cells w A [] := .inl rfl
theorem Cells.ext (h : Cells w A xs) (he : Ext w w1) : Cells w1 A xs := by
  rcases h with h | ⟨g, o, hA, hc⟩
  · exact .inl h
  · exact .inr ⟨g, o, hA, fun i v hv => he.cell (hc i v hv)⟩
theorem Cells.at_ (h : Cells w A xs) (hne : 0 < xs.length) : ∃ g o, A = some ⟨g, o, none⟩ ∧ ∀ i v, xs[i]? = some v → w.cell? ⟨g, o + i, none⟩ = some v := by
  rcases h with h | h
  · rw [h] at hne; simp at hne
  · exact h
theorem Cells.of_own {base : Nat} {e : TypeId} {size n c : Nat} (h : w.ownsRow base e size (.slice A n c) n xs) : Cells w A xs := by
  rcases Nat.eq_zero_or_pos xs.length with h0 | h0
  · exact .inl (List.eq_nil_of_length_eq_zero h0)
  · rcases h.2 with ⟨_, h2⟩ | ⟨g, cap, cur, hv, hb, hg, hn, hc, hs, ht⟩
    · rw [h.1, h2] at h0; simp at h0
    · injection hv with hA _ _
      subst hA
      refine .inr ⟨g, 0, rfl, fun i v hv => ?_⟩
      rw [cell_of_row w g (0 + i) cur e (0, 0) hg, Nat.zero_add]
      rw [← ht, List.getElem?_take] at hv
      split at hv
      · simpa using hv
      · cases hv
end
/-- Only blocks of S have turned; there may be more blocks. -/
structure Chg (S : Nat → Prop) (w w' : World) : Prop where
  os : w'.os = w.os
  tape : w'.tape = w.tape
  output : w'.output = w.output
  size : w.heap.size ≤ w'.heap.size
  block : ∀ k, k < w.heap.size → ¬ S k → w'.heap[k]? = w.heap[k]?
section
variable {S S' : Nat → Prop} {w w1 w2 : World}
theorem Chg.refl (S : Nat → Prop) (w : World) : Chg S w w := ⟨rfl, rfl, rfl, Nat.le_refl _, fun _ _ _ => rfl⟩
theorem Chg.of_ext (h : Ext w w1) (S : Nat → Prop) : Chg S w w1 := ⟨Below.os h, Below.tape h, Below.output h, Below.size h, fun k hk _ => Below.block h k hk⟩
theorem Chg.of_grown {row : Option Nat} (h : w.grownBy w1 row) (hS : ∀ k, k < w.heap.size → row = some k → S k) : Chg S w w1 := ⟨h.os, h.tape, h.output, h.size, fun k hk hn => h.block k hk (fun e => hn (hS k hk e.symm))⟩
theorem Chg.of_set (w : World) {a : Addr} (v : Value) (hS : S a.block) : Chg S w (w.setCell a v) :=
  ⟨rfl, rfl, rfl, by simp [World.setCell], fun k _ hn => Below.heap_setCell w a v k (fun e => hn (by rw [e]; exact hS))⟩
theorem Chg.trans (h : Chg S w w1) (k : Chg S' w1 w2) (hS : ∀ i, i < w.heap.size → S' i → S i) : Chg S w w2 :=
  ⟨k.os.trans h.os, k.tape.trans h.tape, k.output.trans h.output, Nat.le_trans h.size k.size, fun i hi hn => (k.block i (Nat.lt_of_lt_of_le hi h.size) (fun hs => hn (hS i hi hs))).trans (h.block i hi hn)⟩
theorem Chg.mono (h : Chg S w w1) (hS : ∀ i, i < w.heap.size → S i → S' i) : Chg S' w w1 := ⟨h.os, h.tape, h.output, h.size, fun i hi hn => h.block i hi (fun hs => hn (hS i hi hs))⟩
theorem Chg.ext (h : Chg S w w1) (hS : ∀ i, i < w.heap.size → ¬ S i) : Ext w w1 := ⟨h.os, h.tape, h.output, h.size, fun i hi => h.block i hi (hS i hi)⟩
theorem Ext.chg (h : Ext w w1) (k : Chg S w1 w2) (hS : ∀ i, i < w.heap.size → ¬ S i) : Ext w w2 :=
  Below.trans h ⟨k.os, k.tape, k.output, k.size, fun i hi => k.block i (Nat.lt_of_lt_of_le hi h.size) (hS i hi)⟩
theorem Chg.cell (h : Chg S w w1) {a : Addr} {v : Value} (hc : w.cell? a = some v) (hn : ¬ S a.block) : w1.cell? a = some v :=
  (World.cell?_of_block (h.block a.block (World.block_lt_of_cell? w a hc) hn)).trans hc
theorem Chg.row (h : Chg S w w1) {g : Nat} {t : TypeId} {cs : Array Value} (hr : Row w g t cs) (hn : ¬ S g) : Row w1 g t cs := hr.keep (h.block g hr.lt hn)
theorem Chg.owns (h : Chg S w w1) {base : Nat} {e : TypeId} {size : Nat} {v : Value} {n : Nat} {xs : List Value} (ho : w.ownsRow base e size v n xs) (hn : ∀ g, v.ownBlock = some g → ¬ S g) : w1.ownsRow base e size v n xs := by
  obtain ⟨h1, h2⟩ := ho
  refine ⟨h1, ?_⟩
  rcases h2 with h2 | ⟨g, cap, cur, hv, hg, hh, r⟩
  · exact .inl h2
  · exact .inr ⟨g, cap, cur, hv, hg, (h.block g (Array.getElem?_eq_some_iff.1 hh).1 (hn g (by rw [hv]; rfl))).trans hh, r⟩
theorem Chg.cells (h : Chg S w w1) {A : Option Addr} {xs : List Value} (hc : Cells w A xs) (hn : ∀ a, A = some a → ¬ S a.block) : Cells w1 A xs := by
  rcases hc with hc | ⟨g, o, hA, hc⟩
  · exact .inl hc
  · exact .inr ⟨g, o, hA, fun i v hv => h.cell (hc i v hv) (show ¬ S g from hn _ hA)⟩
end
/-- A row of the call's own: its block's type. -/
theorem owns_row {w : World} {base : Nat} {e : TypeId} {size : Nat} {v : Value} {n : Nat} {xs : List Value} (h : w.ownsRow base e size v n xs) {g : Nat} (hg : v.ownBlock = some g) : ∃ cur, Row w g e cur ∧ base ≤ g := by
  rcases h.2 with ⟨rfl, _⟩ | ⟨g', cap, cur, rfl, hb, hh, _⟩
  · simp [Value.ownBlock] at hg
  · simp [Value.ownBlock] at hg
    subst hg
    exact ⟨cur, hh, hb⟩
theorem owns_unlike {w : World} {base : Nat} {e : TypeId} {size : Nat} {v : Value} {n : Nat} {xs : List Value} (h : w.ownsRow base e size v n xs) {g : Nat} {t : TypeId} {cs : Array Value} (hr : Row w g t cs) (hne : e ≠ t) : v.ownBlock ≠ some g := fun hg => by
  obtain ⟨cur, h1, _⟩ := owns_row h hg
  exact Row.unlike h1 hr hne rfl

theorem owns_shape {w : World} {base : Nat} {e : TypeId} {size : Nat} {v : Value} {n : Nat} {xs : List Value} (h : w.ownsRow base e size v n xs) : ∃ A c, v = .slice A n c := by
  rcases h.2 with ⟨rfl, rfl⟩ | ⟨g, cap, cur, rfl, _⟩
  · exact ⟨none, 0, rfl⟩
  · exact ⟨_, cap, rfl⟩
section
variable {S : Nat → Prop} {w w1 : World}
theorem Chg.below (h : Chg S w w1) {B : Nat} (hS : ∀ k, S k → B ≤ k) (hB : B ≤ w.heap.size) : Below B w w1 :=
  ⟨h.os, h.tape, h.output, h.size, fun k hk => h.block k (Nat.lt_of_lt_of_le hk hB) (fun hs => by have := hS k hs; omega)⟩
theorem owns_set {w : World} {base : Nat} {e : TypeId} {size : Nat} {v : Value} {n : Nat} {xs : List Value} (h : w.ownsRow base e size v n xs) {a : Addr} (ha : v.ownBlock ≠ some a.block) (u : Value) : (w.setCell a u).ownsRow base e size v n xs :=
  (Chg.of_set (S := fun k => k = a.block) w u rfl).owns h fun g hg hk => ha (by rw [hg, hk])
theorem Cells.below {B : Nat} {A : Option Addr} {xs : List Value} (h : Cells w A xs) (hb : Below B w w1) (hA : ∀ a, A = some a → a.block < B) : Cells w1 A xs := by
  rcases h with h | ⟨g, o, hA', hc⟩
  · exact .inl h
  · exact .inr ⟨g, o, hA', fun i v hv => (hb.cell (p := ⟨g, o + i, none⟩) (show g < B from hA _ hA')).trans (hc i v hv)⟩
end
/-- What an append must know of a slice's type. -/
structure Elem (P : Program) (t e size bytes : Nat) : Prop where
  ht : P.underlying t = some (.slice e)
  hi : ∃ i z, P.info? e = some i ∧ i.zero = some z ∧ i.size = size ∧ i.bytes = bytes ∧ z.cells.size = size
  hs : 0 < size
  hb : bytes ≤ 1024
theorem run_app {P : Program} {t e size bytes : Nat} (E : Elem P t e size bytes) (w : World) (ty : TypeId) {base : Nat} {v : Value} {n : Nat} {xs : List Value} (hown : w.ownsRow base e size v n xs)
    {A : Option Addr} {m c : Nat} {news : List Value} (hr : Cells w A news) (hl : news.length = m * size) (h1 : ∀ u ∈ news, u.oneCell' = true) (hsz : n + m ≤ 4294967296) (hbase : base ≤ w.heap.size) :
    ∃ A1 c1 w', (Builtin.append_ #[t, t] ty #[v, .slice A m c]).run P w = .ok (.slice A1 (n + m) c1) w' ∧ w'.ownsRow base e size (.slice A1 (n + m) c1) (n + m) (xs ++ news) ∧ w.grownBy w' v.ownBlock ∧
      ((Value.slice A1 (n + m) c1).ownBlock = v.ownBlock ∨ (Value.slice A1 (n + m) c1).ownBlock = some w.heap.size) := by
  suffices hh : ∃ v' w', (Builtin.append_ #[t, t] ty #[v, .slice A m c]).run P w = .ok v' w' ∧ w'.ownsRow base e size v' (n + m) (xs ++ news) ∧ w.grownBy w' v.ownBlock ∧ (v'.ownBlock = v.ownBlock ∨ v'.ownBlock = some w.heap.size) by
    obtain ⟨v', w', h1, h2, h3⟩ := hh
    obtain ⟨A1, c1, rfl⟩ := owns_shape h2
    exact ⟨A1, c1, w', h1, h2, h3⟩
  obtain ⟨i, z, hi, hz, h3, h4, h5⟩ := E.hi
  have hbytes : (n + m) * bytes ≤ 140737488355328 := Nat.le_trans (Nat.mul_le_mul hsz E.hb) (by omega)
  cases A with
  | some a =>
    have hc : ∀ j u, news[j]? = some u → w.cell? (a.add j) = some u := by
      intro j u hu
      rcases hr with hr | ⟨g, o, hA, hc⟩
      · subst hr; simp at hu
      · cases hA
        rw [Addr.add_lit]
        exact hc j u hu
    obtain ⟨v', w', hrun, h6, h7, _, h8⟩ := run_append_own_at (P := P) w base t ty e i z size bytes E.ht hi hz h3 h4 h5 E.hs v n xs hown a m c news hl hc h1 (by unfold maxLen; omega) hbytes hbase
    exact ⟨v', w', hrun, h6, h7, h8⟩
  | none =>
    have hnil : news = [] := by
      rcases hr with hr | ⟨g, o, hA, _⟩
      · exact hr
      · cases hA
    subst hnil
    have hm : m = 0 := by
      have := E.hs
      rcases Nat.mul_eq_zero.1 (show m * size = 0 from hl.symm) with h | h
      · exact h
      · omega
    subst hm
    refine ⟨v, w, ?_, by simpa using hown, World.grownBy.refl w _, .inl rfl⟩
    rcases hown.2 with ⟨rfl, rfl⟩ | ⟨g, cap, cur, rfl, _, _, hnc, _⟩
    · simp [Builtin.append_, run_underlying E.ht, sizeOf, typeInfo, hi, Builtin.lenOf, Builtin.firstCells]
    · simp [Builtin.append_, run_underlying E.ht, sizeOf, typeInfo, hi, Builtin.lenOf, Builtin.firstCells, hnc, storeCells]
/-- 'append' onto a row of the call's own, at the operation. -/
theorem wpList_app {P : Program} {ops : Array Oper} {rest : List Oper} {o : Oper} {a : Act} {Q : Exit → Act → World → Prop} {w : World} {t e size bytes : Nat} (E : Elem P t e size bytes)
    {base : Nat} {v : Value} {n : Nat} {xs : List Value} {A : Option Addr} {m m' c : Nat} {news : List Value} (hown : w.ownsRow base e size v n xs) (hr : Cells w A news) (s x : Operand)
    (ho : o.op = .call { callee := .builtin .append, args := #[s, x], argTypes := #[t, t] }) (hgd : o.guard = none)
    (hs : a.eval s = v) (hx : a.eval x = .slice A m' c) (hm : m' = m) (hl : news.length = m * size) (h1 : ∀ u ∈ news, u.oneCell' = true) (hsz : n + m ≤ 4294967296) (hbase : base ≤ w.heap.size)
    (h : ∀ A1 c1 w', w'.ownsRow base e size (.slice A1 (n + m) c1) (n + m) (xs ++ news) → w.grownBy w' v.ownBlock → ((Value.slice A1 (n + m) c1).ownBlock = v.ownBlock ∨ (Value.slice A1 (n + m) c1).ownBlock = some w.heap.size) → wpList P ops Q rest (a.put o.dst (.slice A1 (n + m) c1)) w') : wpList P ops Q (o :: rest) a w :=
  wpList_plain hgd fun K hK => by
    subst hm
    obtain ⟨A1, c1, w', hrun, h2, h3, h4⟩ := run_app (P := P) E w o.type hown (c := c) hr hl h1 hsz hbase
    unfold Oper.wp execOp
    simp only [ho, resolve, invoke, builtin, Sem.run_bind, Sem.run_pure, Result.andThen_ok, List.map_toArray, List.map_cons, List.map_nil, hs, hx, hrun]
    exact hK _ _ (h A1 c1 w' h2 h3 h4)

/-- 'append' whose run is known. -/
theorem wpList_app_run {P : Program} {ops : Array Oper} {rest : List Oper} {o : Oper} {a : Act} {Q : Exit → Act → World → Prop} {w w' : World} {t ty : TypeId} {v u r : Value} (hrun : (Builtin.append_ #[t, t] ty #[v, u]).run P w = .ok r w') (s x : Operand)
    (ho : o.op = .call { callee := .builtin .append, args := #[s, x], argTypes := #[t, t] }) (hty : o.type = ty) (hgd : o.guard = none) (hs : a.eval s = v) (hx : a.eval x = u) (h : wpList P ops Q rest (a.put o.dst r) w') : wpList P ops Q (o :: rest) a w :=
  wpList_plain hgd fun K hK => by
    subst hty
    unfold Oper.wp execOp
    simp only [ho, resolve, invoke, builtin, Sem.run_bind, Sem.run_pure, Result.andThen_ok, List.map_toArray, List.map_cons, List.map_nil, hs, hx, hrun]
    exact hK _ _ h
/-- 'append' of values that the statement has just laid in a new block. -/
theorem wpList_appN {P : Program} {ops : Array Oper} {rest : List Oper} {o : Oper} {a : Act} {Q : Exit → Act → World → Prop} {w0 : World} {us : List Value} {T : TypeId} {t e bytes : Nat} (E : Elem P t e 1 bytes)
    {base : Nat} {v : Value} {n : Nat} {xs : List Value} (hown : w0.ownsRow base e 1 v n xs) (s x : Operand)
    (ho : o.op = .call { callee := .builtin .append, args := #[s, x], argTypes := #[t, t] }) (hgd : o.guard = none)
    (hs : a.eval s = v) (hx : a.eval x = .slice (some ⟨w0.heap.size, 0, none⟩) us.length us.length) (h1 : ∀ u ∈ us, u.oneCell' = true) (hsz : n + us.length ≤ 4294967296) (hbase : base ≤ w0.heap.size)
    (h : ∀ A1 c1 w', w'.ownsRow base e 1 (.slice A1 (n + us.length) c1) (n + us.length) (xs ++ us) → w0.grownBy w' v.ownBlock → ((Value.slice A1 (n + us.length) c1).ownBlock = v.ownBlock ∨ (Value.slice A1 (n + us.length) c1).ownBlock = some (w0.heap.size + 1)) →
      wpList P ops Q rest (a.put o.dst (.slice A1 (n + us.length) c1)) w') :
    wpList P ops Q (o :: rest) a (w0.alloc (.cells us.toArray T)) := by
  refine wpList_app E (((Ext.refl w0).alloc _).owns hown) (A := some ⟨w0.heap.size, 0, none⟩) (news := us) (.inr ⟨w0.heap.size, 0, rfl, fun i u hu => ?_⟩) s x ho hgd hs hx rfl (by simp) h1 hsz (by simp; omega) fun A1 c1 w' h2 h3 h4 => ?_
  · rw [Nat.zero_add, cell_of_row _ _ _ _ _ _ (heap_alloc_new w0 _)]
    simpa using hu
  · refine h A1 c1 w' h2 ⟨h3.os, h3.tape, h3.output, Nat.le_trans (by simp) h3.size, fun k hk hne => (h3.block k (by simp; omega) hne).trans (Below.heap_alloc w0 _ k hk)⟩ ?_
    simpa using h4

theorem one_of {us : List Value} (h : us.all Value.oneCell' = true) : ∀ u ∈ us, u.oneCell' = true := fun u hu => List.all_eq_true.1 h u hu
/-- A byte as a value. -/
def B8 (c : UInt8) : Value := .int .u8 c.toNat
/-- The bytes l lie at A. -/
def Bs (w : World) (A : Option Addr) (l : List UInt8) : Prop := Cells w A (l.map B8)
theorem Bs.ext {w w1 : World} {A : Option Addr} {l : List UInt8} (h : Bs w A l) (he : Ext w w1) : Bs w1 A l := Cells.ext h he
theorem Bs.at_ {w : World} {A : Option Addr} {l : List UInt8} (h : Bs w A l) (hne : 0 < l.length) :
    ∃ g o, A = some ⟨g, o, none⟩ ∧ ∀ i (hi : i < l.length), w.cell? ⟨g, o + i, none⟩ = some (.int .u8 (l[i].toNat : Int)) := by
  obtain ⟨g, o, hA, hc⟩ := Cells.at_ h (by simpa using hne)
  exact ⟨g, o, hA, fun i hi => hc i _ (by simp [hi, B8])⟩
theorem run_arrayAt {P : Program} {t e n : Nat} (ht : P.underlying t = some (.array n e)) (a : Option Addr) (len cap : Nat) (h : n ≤ len) (W : World) : (Instr.arrayAt t (.slice a len cap)).run P W = .ok (.pointer a) W := by
  simp only [Instr.arrayAt, Sem.run_bind, run_underlying ht, Result.andThen_ok]
  rw [if_neg (by omega)]
  rfl
theorem run_min2 {P : Program} (ts : Array TypeId) (ty : TypeId) {x y m : Int} (hm : m = min x y) (W : World) : (Builtin.min_ ts ty #[.int .i64 x, .int .i64 y]).run P W = .ok (.int .i64 m) W := by
  simp only [Builtin.min_, List.foldlM, Builtin.min2, Sem.run_bind, Sem.run_pure, Result.andThen_ok]
  subst hm
  congr 2
  split <;> omega
theorem Bs.below {w w1 : World} {B : Nat} {A : Option Addr} {l : List UInt8} (h : Bs w A l) (hb : Below B w w1) (hA : ∀ a, A = some a → a.block < B) : Bs w1 A l := Cells.below h hb hA
theorem Bs.cut {w : World} {g o : Nat} {l : List UInt8} (h : Bs w (some ⟨g, o, none⟩) l) (f k : Nat) : Cells w (some ⟨g, o + f, none⟩) (((l.drop f).take k).map B8) := by
  rcases h with h | ⟨g', o', hA, hc⟩
  · have : l = [] := by simpa using h
    subst this
    exact .inl (by simp)
  · cases hA
    refine .inr ⟨g, o + f, rfl, fun i v hv => ?_⟩
    rw [Nat.add_assoc]
    refine hc (f + i) v ?_
    rw [List.getElem?_map] at hv ⊢
    rw [List.getElem?_take] at hv
    split at hv
    · rw [List.getElem?_drop] at hv; exact hv
    · simp at hv
theorem byte_eq {a b : UInt8} (h : ((a.toNat : Int) == (b.toNat : Int)) = true) : a = b := by
  rw [beq_iff_eq] at h
  exact UInt8.toNat_inj.1 (by omega)
theorem byte_ne {a b : UInt8} (h : ((a.toNat : Int) == (b.toNat : Int)) = false) : a ≠ b := by
  rintro rfl
  simp at h
theorem bytes_one (l : List UInt8) : ∀ u ∈ l.map B8, u.oneCell' = true := by
  intro u hu
  obtain ⟨_, _, rfl⟩ := List.mem_map.1 hu
  rfl
theorem ret_bool {a b : Bool} (h : a = b) : Ending.returned (.bool a) = .returned (.bool b) := by rw [h]
theorem ret_int {k : IntKind} {a b : Int} (h : a = b) : Ending.returned (.int k a) = .returned (.int k b) := by rw [h]
end Go.Proofs.YtkdcnhnaiknaaaaGreat

/- Runes, words, plainly. -/
namespace Go.Proofs.YtkdcnhnaiknaaaaGreat
open Go.RowKit

/-- A byte that goes on a rune; the number of such bytes behind a number. -/
def contB (b : UInt8) : Bool := b.toNat / 64 == 2
def foldR (n : Nat) (l : List UInt8) : Nat := l.foldl (fun n b => n * 64 + b.toNat % 64) n
/-- Do the bytes behind a head make a rune of so many bytes? -/
def okR (lo hi n k : Nat) (t : List UInt8) : Bool := decide (k ≤ t.length) && (t.take k).all contB && decide (lo ≤ foldR n (t.take k)) && decide (foldR n (t.take k) ≤ hi) && !(decide (55296 ≤ foldR n (t.take k)) && decide (foldR n (t.take k) ≤ 57343))
/-- The rune that stands first, and how many bytes it has. -/
def decR : List UInt8 → Nat × Nat
  | [] => (0, 0)
  | b :: t =>
    if b.toNat < 128 then (b.toNat, 1)
    else if b.toNat / 32 == 6 && okR 128 2047 (b.toNat % 32) 1 t then (foldR (b.toNat % 32) (t.take 1), 2)
    else if b.toNat / 16 == 14 && okR 2048 65535 (b.toNat % 16) 2 t then (foldR (b.toNat % 16) (t.take 2), 3)
    else if b.toNat / 8 == 30 && okR 65536 1114111 (b.toNat % 8) 3 t then (foldR (b.toNat % 8) (t.take 3), 4)
    else (65533, 1)
def runesF : Nat → List UInt8 → List Nat
  | 0, _ => []
  | _, [] => []
  | k + 1, b :: t => (decR (b :: t)).1 :: runesF k ((b :: t).drop (decR (b :: t)).2)
def runesL (l : List UInt8) : List Nat := runesF l.length l
theorem okR_le {lo hi n k : Nat} {t : List UInt8} (h : okR lo hi n k t = true) : k ≤ t.length := by
  unfold okR at h
  simp only [Bool.and_eq_true, decide_eq_true_eq] at h
  exact h.1.1.1.1
theorem decR_size (b : UInt8) (t : List UInt8) : 1 ≤ (decR (b :: t)).2 ∧ (decR (b :: t)).2 ≤ t.length + 1 := by
  rw [decR]
  split
  · exact ⟨Nat.le_refl _, Nat.le_add_left _ _⟩
  · split
    · rename_i h; simp only [Bool.and_eq_true] at h; have := okR_le h.2; exact ⟨by simp, by simp; omega⟩
    · split
      · rename_i h; simp only [Bool.and_eq_true] at h; have := okR_le h.2; exact ⟨by simp, by simp; omega⟩
      · split
        · rename_i h; simp only [Bool.and_eq_true] at h; have := okR_le h.2; exact ⟨by simp, by simp; omega⟩
        · exact ⟨Nat.le_refl _, Nat.le_add_left _ _⟩
theorem okR_hi {lo hi n k : Nat} {t : List UInt8} (h : okR lo hi n k t = true) : foldR n (t.take k) ≤ hi := by
  unfold okR at h
  simp only [Bool.and_eq_true, decide_eq_true_eq] at h
  exact h.1.2
theorem decR_le (l : List UInt8) : (decR l).1 ≤ 1114111 := by
  cases l with
  | nil => exact Nat.zero_le _
  | cons b t =>
    rw [decR]
    split
    · have := b.toNat_lt; simp; omega
    · split
      · rename_i h; simp only [Bool.and_eq_true] at h; have := okR_hi h.2; simp; omega
      · split
        · rename_i h; simp only [Bool.and_eq_true] at h; have := okR_hi h.2; simp; omega
        · split
          · rename_i h; simp only [Bool.and_eq_true] at h; exact okR_hi h.2
          · decide
theorem runesF_fuel : ∀ (k m : Nat) (l : List UInt8), l.length ≤ k → l.length ≤ m → runesF k l = runesF m l
  | 0, 0, _, _, _ => rfl
  | 0, m + 1, [], _, _ => by simp [runesF]
  | k + 1, 0, [], _, _ => by simp [runesF]
  | k + 1, m + 1, [], _, _ => by simp [runesF]
  | 0, m + 1, b :: t, h, _ => by simp at h
  | k + 1, 0, b :: t, _, h => by simp at h
  | k + 1, m + 1, b :: t, h, h2 => by
    have := decR_size b t
    simp only [List.length_cons] at h h2
    unfold runesF
    rw [runesF_fuel k m _ (by rw [List.length_drop, List.length_cons]; omega) (by rw [List.length_drop, List.length_cons]; omega)]
theorem runesL_nil : runesL [] = [] := rfl
theorem runesL_cons (b : UInt8) (t : List UInt8) : runesL (b :: t) = (decR (b :: t)).1 :: runesL ((b :: t).drop (decR (b :: t)).2) := by
  have := decR_size b t
  unfold runesL
  rw [List.length_cons, runesF]
  congr 1
  exact runesF_fuel _ _ _ (by rw [List.length_drop, List.length_cons]; omega) (Nat.le_refl _)
/-- One step of the loop over a text: `done` stands ahead of the place. -/
theorem runesL_at {s : List UInt8} {at_ : Nat} (h : at_ < s.length) : runesL (s.drop at_) = (decR (s.drop at_)).1 :: runesL (s.drop (at_ + (decR (s.drop at_)).2)) ∧ 1 ≤ (decR (s.drop at_)).2 ∧ at_ + (decR (s.drop at_)).2 ≤ s.length := by
  obtain ⟨b, t, hbt⟩ : ∃ b t, s.drop at_ = b :: t := by
    cases hd : s.drop at_ with
    | nil => rw [List.drop_eq_nil_iff] at hd; omega
    | cons b t => exact ⟨b, t, rfl⟩
  have hs := decR_size b t
  have hl : (b :: t).length = s.length - at_ := by rw [← hbt, List.length_drop]
  simp only [List.length_cons] at hl
  refine ⟨?_, ?_, ?_⟩
  · rw [← List.drop_drop, hbt, runesL_cons]
  · rw [hbt]; exact hs.1
  · rw [hbt]; omega
theorem runesL_le (l : List UInt8) : ∀ r ∈ runesL l, r ≤ 1114111 := by
  have key : ∀ (k : Nat) (l : List UInt8), ∀ r ∈ runesF k l, r ≤ 1114111 := by
    intro k
    induction k with
    | zero => intro l r hr; cases hr
    | succ k ih =>
      intro l r hr
      cases l with
      | nil => cases hr
      | cons b t =>
        rw [runesF, List.mem_cons] at hr
        rcases hr with rfl | hr
        · exact decR_le _
        · exact ih _ r hr
  exact key _ l
theorem runesL_len (l : List UInt8) : (runesL l).length ≤ l.length := by
  have key : ∀ (k : Nat) (l : List UInt8), (runesF k l).length ≤ k := by
    intro k
    induction k with
    | zero => intro l; exact Nat.le_refl _
    | succ k ih =>
      intro l
      cases l with
      | nil => exact Nat.zero_le _
      | cons b t => rw [runesF, List.length_cons]; exact Nat.succ_le_succ (ih _)
  exact key _ l
/-- Lower case; a part of a word; a rune's bytes. -/
def lowerR (r : Nat) : Nat :=
  if (65 ≤ r ∧ r ≤ 90) ∨ (192 ≤ r ∧ r ≤ 222 ∧ r ≠ 215) ∨ (913 ≤ r ∧ r ≤ 939 ∧ r ≠ 930) ∨ (1040 ≤ r ∧ r ≤ 1071) then r + 32 else if 1024 ≤ r ∧ r ≤ 1039 then r + 80 else r
def wordR (r : Nat) : Bool :=
  decide ((48 ≤ r ∧ r ≤ 57) ∨ (65 ≤ r ∧ r ≤ 90) ∨ (97 ≤ r ∧ r ≤ 122) ∨ (192 ≤ r ∧ r ≤ 255 ∧ r ≠ 215 ∧ r ≠ 247) ∨ (913 ≤ r ∧ r ≤ 974 ∧ r ≠ 930) ∨ (1024 ≤ r ∧ r ≤ 1119))
def u8 (n : Nat) : UInt8 := UInt8.ofNat n
def encO (r : Nat) : List UInt8 :=
  if r < 128 then [u8 r] else if r < 2048 then [u8 (192 + r / 64), u8 (128 + r % 64)] else if r < 65536 then [u8 (224 + r / 4096), u8 (128 + r / 64 % 64), u8 (128 + r % 64)]
  else [u8 (240 + r / 262144), u8 (128 + r / 4096 % 64), u8 (128 + r / 64 % 64), u8 (128 + r % 64)]
def badR (r : Nat) : Bool := decide (1114111 < r) || (decide (55296 ≤ r) && decide (r ≤ 57343))
def encR (r : Nat) : List UInt8 := if badR r then encO 65533 else encO r
theorem encO_len (r : Nat) : 1 ≤ (encO r).length ∧ (encO r).length ≤ 4 := by
  unfold encO
  split
  · exact ⟨by simp, by simp⟩
  · split
    · exact ⟨by simp, by simp⟩
    · split
      · exact ⟨by simp, by simp⟩
      · exact ⟨by simp, by simp⟩
theorem encR_len (r : Nat) : 1 ≤ (encR r).length ∧ (encR r).length ≤ 4 := by
  unfold encR
  split
  · exact encO_len _
  · exact encO_len _
theorem lowerR_le {r : Nat} (h : r ≤ 1114111) : lowerR r ≤ 1114191 := by
  unfold lowerR
  split
  · omega
  · split <;> omega
/-- A word's bytes: of its first runes, as far as they are not too many. -/
def cutW (s : List UInt8) : List Nat → List UInt8
  | [] => s
  | r :: rs => if 32 < s.length + (encR (lowerR r)).length then s else cutW (s ++ encR (lowerR r)) rs
theorem cutW_len : ∀ (rs : List Nat) (s : List UInt8), s.length ≤ 32 → (cutW s rs).length ≤ 32
  | [], s, h => h
  | r :: rs, s, h => by
    unfold cutW
    split
    · exact h
    · exact cutW_len rs _ (by rw [List.length_append]; omega)
/-- The runs of a word's runes. -/
def runsW : List Nat → List Nat → List (List Nat)
  | cur, [] => if cur = [] then [] else [cur]
  | cur, r :: rs => if wordR r then runsW (cur ++ [r]) rs else if cur = [] then runsW [] rs else cur :: runsW [] rs
def tokL (s : List UInt8) : List (List UInt8) := (runsW [] (runesL s)).map (cutW [])
theorem runsW_len : ∀ (rs cur : List Nat), (runsW cur rs).length ≤ rs.length + 1 ∧ (cur = [] → (runsW cur rs).length ≤ rs.length)
  | [], cur => by
    unfold runsW
    by_cases h : cur = []
    · simp [h]
    · simp [h]
  | r :: rs, cur => by
    unfold runsW
    have h1 := runsW_len rs (cur ++ [r])
    have h2 := runsW_len rs []
    have h3 := h2.2 rfl
    simp only [List.length_cons]
    split
    · exact ⟨by omega, fun _ => by omega⟩
    · split
      · exact ⟨by omega, fun _ => by omega⟩
      · rename_i hc; exact ⟨by simp only [List.length_cons]; omega, fun h => absurd h hc⟩
theorem tokL_len (s : List UInt8) : (tokL s).length ≤ s.length := by
  unfold tokL
  rw [List.length_map]
  exact Nat.le_trans ((runsW_len _ _).2 rfl) (runesL_len s)
theorem tokL_word (s : List UInt8) : ∀ t ∈ tokL s, t.length ≤ 32 := by
  intro t ht
  obtain ⟨rs, _, rfl⟩ := List.mem_map.1 ht
  exact cutW_len rs [] (by simp)
end Go.Proofs.YtkdcnhnaiknaaaaGreat

/- Rows of one-cell elements that may be longer than their slice's capacity (behind x[:n:n]), and what append makes of them. -/
namespace Go.Proofs.YtkdcnhnaiknaaaaGreat
open Go.RowKit

/-- The slice (A, n, c) holds xs in a row from block base on, at its beginning; the row may be longer. -/
def Buf (w : World) (base : Nat) (e : TypeId) (A : Option Addr) (n c : Nat) (xs : List Value) : Prop :=
  xs.length = n ∧ n ≤ c ∧ ((A = none ∧ c = 0) ∨ ∃ g cur, A = some ⟨g, 0, none⟩ ∧ base ≤ g ∧ Row w g e cur ∧ c ≤ cur.size ∧ cur.toList.take n = xs)
section
variable {w w1 : World} {base : Nat} {e : TypeId} {A : Option Addr} {n c : Nat} {xs : List Value}
theorem Buf.nil (w : World) (base : Nat) (e : TypeId) : Buf w base e none 0 0 [] := ⟨rfl, Nat.le_refl _, .inl ⟨rfl, rfl⟩⟩
theorem Buf.of_own (h : w.ownsRow base e 1 (.slice A n c) n xs) : Buf w base e A n c xs := by
  obtain ⟨h1, h2⟩ := h
  rcases h2 with ⟨hv, rfl⟩ | ⟨g, cap, cur, hv, hb, hg, hn, _, hs, ht⟩
  · cases hv
    exact ⟨by simpa using h1, Nat.le_refl _, .inl ⟨rfl, rfl⟩⟩
  · cases hv
    exact ⟨by simpa using h1, hn, .inr ⟨g, cur, rfl, hb, hg, by omega, by simpa using ht⟩⟩
theorem Buf.cells (h : Buf w base e A n c xs) : Cells w A xs := by
  obtain ⟨h1, h2, h3⟩ := h
  rcases h3 with ⟨rfl, rfl⟩ | ⟨g, cur, rfl, hb, hg, hs, ht⟩
  · exact .inl (List.eq_nil_of_length_eq_zero (by omega))
  · refine .inr ⟨g, 0, rfl, fun i v hv => ?_⟩
    rw [Nat.zero_add, cell_of_row w g i cur e (0, 0) hg]
    rw [← ht, List.getElem?_take] at hv
    split at hv
    · simpa using hv
    · cases hv
theorem Buf.keep (h : Buf w base e A n c xs) (hk : ∀ g, A = some ⟨g, 0, none⟩ → w1.heap[g]? = w.heap[g]?) : Buf w1 base e A n c xs := by
  obtain ⟨h1, h2, h3⟩ := h
  refine ⟨h1, h2, ?_⟩
  rcases h3 with h3 | ⟨g, cur, hA, hb, hg, r⟩
  · exact .inl h3
  · exact .inr ⟨g, cur, hA, hb, hg.keep (hk g hA), r⟩
theorem Buf.lt (h : Buf w base e A n c xs) : ∀ a, A = some a → a.block < w.heap.size := by
  rintro a rfl
  obtain ⟨_, _, h3⟩ := h
  rcases h3 with ⟨h3, _⟩ | ⟨g, cur, hA, hb, hg, r⟩
  · cases h3
  · cases hA
    exact hg.lt
theorem Buf.base_le (h : Buf w base e A n c xs) : ∀ a, A = some a → base ≤ a.block := by
  rintro a rfl
  obtain ⟨_, _, h3⟩ := h
  rcases h3 with ⟨h3, _⟩ | ⟨g, cur, hA, hb, hg, r⟩
  · cases h3
  · cases hA
    exact hb
theorem Buf.chg {S : Nat → Prop} (h : Buf w base e A n c xs) (hc : Chg S w w1) (hn : ∀ a, A = some a → ¬ S a.block) : Buf w1 base e A n c xs :=
  h.keep fun g hA => hc.block g (h.lt _ hA) (hn _ hA)
theorem Buf.grown {row : Option Nat} (h : Buf w base e A n c xs) (hg : w.grownBy w1 row) (hne : ∀ a, A = some a → row ≠ some a.block) : Buf w1 base e A n c xs :=
  h.keep fun g hA => hg.block g (h.lt _ hA) (fun e => hne _ hA e.symm)
theorem Buf.ext (h : Buf w base e A n c xs) (he : Ext w w1) : Buf w1 base e A n c xs := h.keep fun g hA => Below.block he g (h.lt _ hA)
theorem Buf.alloc (h : Buf w base e A n c xs) (o : Obj) : Buf (w.alloc o) base e A n c xs := h.ext ((Ext.refl w).alloc o)
theorem Buf.drew (h : Buf w base e A n c xs) : Buf w.drew base e A n c xs := h.keep fun _ _ => rfl
theorem Buf.setCell (h : Buf w base e A n c xs) {p : Addr} (hp : ∀ a, A = some a → a.block ≠ p.block) (u : Value) : Buf (w.setCell p u) base e A n c xs :=
  h.keep fun g hA => Below.heap_setCell w p u g (hp _ hA)
theorem Buf.unlike (h : Buf w base e A n c xs) {g : Nat} {t : TypeId} {cs : Array Value} (hr : Row w g t cs) (hne : e ≠ t) : ∀ a, A = some a → a.block ≠ g := by
  rintro a rfl
  obtain ⟨_, _, h3⟩ := h
  rcases h3 with ⟨h3, _⟩ | ⟨k, cur, hA, hb, hg, r⟩
  · cases h3
  · cases hA
    exact hg.unlike hr hne
/-- x[:m:m] -/
theorem Buf.cut (h : Buf w base e A n c xs) {m k : Nat} (hm : m ≤ n) (hk : m ≤ k) (hkc : k ≤ c) : Buf w base e A m k (xs.take m) := by
  obtain ⟨h1, h2, h3⟩ := h
  refine ⟨by rw [List.length_take]; omega, hk, ?_⟩
  rcases h3 with ⟨hA, h3⟩ | ⟨g, cur, hA, hb, hg, hs, ht⟩
  · exact .inl ⟨hA, by omega⟩
  · refine .inr ⟨g, cur, hA, hb, hg, by omega, ?_⟩
    rw [← ht, List.take_take, Nat.min_eq_left hm]
theorem Buf.lower (h : Buf w base e A n c xs) {b : Nat} (hb : b ≤ base) : Buf w b e A n c xs := by
  obtain ⟨h1, h2, h3⟩ := h
  refine ⟨h1, h2, ?_⟩
  rcases h3 with h3 | ⟨g, cur, hA, hb', r⟩
  · exact .inl h3
  · exact .inr ⟨g, cur, hA, by omega, r⟩
end
theorem grown_setRow (w : World) (g : Nat) (cs : Array Value) : w.grownBy (w.setRow g cs) (some g) :=
  ⟨rfl, rfl, rfl, by simp [World.setRow], fun k _ hne => setRow_other w g k cs (fun e => hne (by rw [e]))⟩
theorem run_buf {P : Program} {t e bytes : Nat} (E : Elem P t e 1 bytes) (w : World) (ty : TypeId) {base : Nat} {A : Option Addr} {n c : Nat} {xs : List Value} (hb : Buf w base e A n c xs)
    {B : Option Addr} {m c' : Nat} {news : List Value} (hr : Cells w B news) (hl : news.length = m) (h1 : ∀ u ∈ news, u.oneCell' = true) (hsz : n + m ≤ 4294967296) (hbase : base ≤ w.heap.size) :
    ∃ A1 c1 w', (Builtin.append_ #[t, t] ty #[.slice A n c, .slice B m c']).run P w = .ok (.slice A1 (n + m) c1) w' ∧ Buf w' base e A1 (n + m) c1 (xs ++ news) ∧ w.grownBy w' (Value.slice A n c).ownBlock ∧
      (A1 = A ∨ A1 = some ⟨w.heap.size, 0, none⟩) := by
  obtain ⟨i, z, hi, hz, h3, h4, h5⟩ := E.hi
  have hbytes : (n + m) * bytes ≤ 4398046511104 := Nat.le_trans (Nat.mul_le_mul hsz E.hb) (by omega)
  obtain ⟨hx, hnc, hA⟩ := hb
  rcases hA with ⟨rfl, rfl⟩ | ⟨g, cur, rfl, hbg, hg, hs, ht⟩
  · obtain rfl : n = 0 := by omega
    obtain rfl : xs = [] := List.eq_nil_of_length_eq_zero hx
    obtain ⟨A1, c1, w', hrun, ho, hgr, hloc⟩ := run_app E w ty (base := base) (v := .slice none 0 0) (n := 0) (xs := []) ⟨rfl, .inl ⟨rfl, rfl⟩⟩ (c := c') hr (by omega) h1 hsz hbase
    refine ⟨A1, c1, w', hrun, Buf.of_own ho, hgr, ?_⟩
    rcases ho.2 with ⟨hv, _⟩ | ⟨g, cap, cur, hv, _⟩
    · injection hv with hA1 _ _
      exact .inl hA1
    · injection hv with hA1 _ _
      subst hA1
      rcases hloc with hloc | hloc
      · simp [Value.ownBlock] at hloc
      · simp [Value.ownBlock] at hloc
        subst hloc
        exact .inr rfl
  · cases B with
    | none =>
      have hnil : news = [] := by
        rcases hr with hr | ⟨_, _, hB, _⟩
        · exact hr
        · cases hB
      subst hnil
      obtain rfl : m = 0 := by simpa using hl.symm
      refine ⟨some ⟨g, 0, none⟩, c, w, ?_, ⟨by simpa using hx, by omega, .inr ⟨g, cur, rfl, hbg, hg, hs, by simpa using ht⟩⟩, World.grownBy.refl w _, .inl rfl⟩
      simp [Builtin.append_, run_underlying E.ht, sizeOf, typeInfo, hi, Builtin.lenOf, Builtin.firstCells, hnc, storeCells]
    | some a =>
      have hc : ∀ j u, news[j]? = some u → w.cell? (a.add j) = some u := by
        intro j u hu
        rcases hr with hr | ⟨g', o', hB, hc⟩
        · subst hr; simp at hu
        · cases hB
          rw [Addr.add_lit]
          exact hc j u hu
      by_cases hroom : n + m ≤ c
      · refine ⟨some ⟨g, 0, none⟩, c, _, run_append_room w t ty e i E.ht hi g n c cur hg a m c' news (by rw [h3]; omega) hc h1 hroom (by rw [h3]; omega), ⟨by rw [List.length_append]; omega, hroom, .inr ⟨g, _, rfl, hbg, setRow_heap w g cur _ e (0, 0) hg, ?_, ?_⟩⟩, grown_setRow w g _, .inl rfl⟩
        · simp [h3]
          omega
        · have hxl : (List.take (n * i.size) cur.toList) = xs := by rw [h3, Nat.mul_one]; exact ht
          simp only [hxl]
          rw [List.take_append_of_le_length (by rw [List.length_append]; omega), List.take_of_length_le (by rw [List.length_append]; omega)]
      · have hb2 := nextslicecap_le (need := n + m) (old := c) (by omega)
        have hb3 : Builtin.nextslicecap (n + m) c * bytes ≤ 2 * (n + m) * bytes := Nat.mul_le_mul_right _ hb2
        have hb4 : 2 * (n + m) * bytes = 2 * ((n + m) * bytes) := Nat.mul_assoc _ _ _
        have hge := grownCap_ge w (n + m) c e
        have holds : ∀ (j : Nat) (v : Value), xs[j]? = some v → w.cell? (Addr.add ⟨g, 0, none⟩ j) = some v := by
          intro j v hv
          rw [Addr.add_lit, Nat.zero_add, cell_of_row w g j cur e (0, 0) hg]
          rw [← ht, List.getElem?_take] at hv
          split at hv
          · simpa using hv
          · cases hv
        refine ⟨some ⟨w.heap.size, 0, none⟩, grownCap w (n + m) c e, _, run_append_grow w t ty e i z E.ht hi hz ⟨g, 0, none⟩ n c xs (by rw [h3]; omega) holds a m c' news (by rw [h3]; omega) hc (by omega) (by omega) (by rw [h4]; omega), ⟨by rw [List.length_append]; omega, hge, .inr ⟨w.heap.size, _, rfl, hbase, heap_alloc_new w.drew _, ?_, ?_⟩⟩, ?_, .inr rfl⟩
        · simp only [Array.size_append, List.size_toArray, size_zeroCells, h5]
          omega
        · simp only [Array.toList_append]
          rw [List.take_append_of_le_length (by rw [List.length_append]; omega), List.take_of_length_le (by rw [List.length_append]; omega)]
        · exact (Ext.refl w |>.drew.alloc _) |> fun h => ⟨Below.os h, Below.tape h, Below.output h, Below.size h, fun k hk _ => Below.block h k hk⟩
end Go.Proofs.YtkdcnhnaiknaaaaGreat

/- Bytes: what a clone, a part, a string of them is. -/
namespace Go.Proofs.YtkdcnhnaiknaaaaGreat
open Go.RowKit

theorem follows : Tryz.prog.follows .mixedOrders = true := by kernel_rfl
theorem modify_push {α : Type} (h : Array α) (x : α) (f : α → α) : (h.push x).modify h.size f = h.push (f x) := by
  apply Array.ext
  · simp
  · intro i h1 h2
    simp only [Array.getElem_modify, Array.getElem_push]
    simp only [Array.size_push] at h2
    split
    · rename_i he
      subst he
      rw [dif_neg (by omega), dif_neg (by omega)]
    · rename_i he
      rw [dif_pos (by omega), dif_pos (by omega)]
theorem freeze_new (w : World) (cs : Array Value) (t : TypeId) (n : Nat) : (w.alloc (.cells cs t)).freeze ⟨w.heap.size, n, none⟩ 1 = w.alloc (.cells cs t (n, n + 1)) := by
  unfold World.freeze World.alloc
  rw [if_neg (by omega)]
  simp only [modify_push]
  rfl
/-- Bytes that were laid and marked. -/
theorem marked_bytes (w : World) (l : List UInt8) (t : TypeId) (f : Nat × Nat) : Bs (w.alloc (.cells (l.map B8).toArray t f)) (some ⟨w.heap.size, 0, none⟩) l :=
  .inr ⟨w.heap.size, 0, rfl, fun i v hv => by
    rw [Nat.zero_add, cell_of_row _ _ _ _ _ _ (heap_alloc_new w _)]
    simpa using hv⟩
set_option maxRecDepth 100000 in
theorem elemB : Elem Tryz.prog 25 5 1 1 := ⟨Tryz.underlying25, ⟨_, _, rfl, rfl, rfl, rfl, rfl⟩, by omega, by omega⟩
set_option maxRecDepth 100000 in
theorem nil_eq (w : World) : (binOp .eql 25 (.slice none 0 0) (.slice none 0 0)).run Tryz.prog w = .ok (.bool true) w := by kernel_rfl
set_option maxRecDepth 100000 in
theorem nil_ne (a : Addr) (n c : Nat) (w : World) : (binOp .eql 25 (.slice (some a) n c) (.slice none 0 0)).run Tryz.prog w = .ok (.bool false) w := by kernel_rfl
theorem ret_slice {A : Option Addr} {n m c : Nat} (h : n = m) : Ending.returned (.slice A n c) = .returned (.slice A m c) := by rw [h]
theorem own_empty (w : World) (t : TypeId) : (w.alloc (.cells #[] t)).ownsRow w.heap.size t 1 (.slice (some ⟨w.heap.size, 0, none⟩) 0 0) 0 [] :=
  ⟨rfl, .inr ⟨w.heap.size, 0, #[], rfl, Nat.le_refl _, heap_alloc_new w _, Nat.le_refl _, by unfold maxLen; omega, rfl, rfl⟩⟩
/-- x[fr:fr+k] -/
theorem run_sub {t e n c fr k : Nat} {A : Option Addr} (ht : Tryz.prog.underlying t = some (.slice e)) (hs : ∀ W : World, (sizeOf e).run Tryz.prog W = .ok 1 W) (h : fr + k ≤ n) (hc : n ≤ c) (hA : A = none → c = 0) (hp : ∀ a, A = some a → a.spot = none) :
    ∃ A' c', (∀ W : World, (Instr.sliceAt t (.slice A n c) (some (.int .i64 fr)) (some (.int .i64 ((fr : Int) + k))) none).run Tryz.prog W = .ok (.slice A' k c') W) ∧ (∀ (w : World) (xs : List Value), xs.length = n → Cells w A xs → Cells w A' ((xs.drop fr).take k)) ∧ (A' = none → c' = 0) ∧ (∀ a', A' = some a' → ∃ a, A = some a ∧ a'.block = a.block) ∧ k ≤ c' := by
  have he : Tryz.prog.elem t = e := by unfold Program.elem; rw [ht]
  have hrun : ∀ W : World, (Instr.sliceAt t (.slice A n c) (some (.int .i64 fr)) (some (.int .i64 ((fr : Int) + k))) none).run Tryz.prog W = .ok (sliced A fr (fr + k) c 1) W := by
    intro W
    rw [run_sliceAt_slice W t _ _ _ _ (by rw [ht, he]), run_slice_lh W t A n c (by rw [ht, he]) .i64 .i64 fr ((fr : Int) + k) (by omega) (by omega) (by omega), he, hs]
    simp only [Result.andThen_ok]
    congr 1
  unfold sliced at hrun
  rw [Nat.add_sub_cancel_left] at hrun
  refine ⟨_, c - fr, hrun, ?_, ?_, ?_, by omega⟩
  · intro w xs hx hcl
    rcases hcl with hcl | ⟨g, o, hg, hcl⟩
    · subst hcl
      exact .inl (by simp)
    · subst hg
      by_cases hcf : c = fr
      · rw [if_pos hcf]
        have h0 : k = 0 := by omega
        subst h0
        exact .inl (by simp)
      · rw [if_neg hcf]
        refine .inr ⟨g, o + fr, by simp [Addr.add, Nat.mul_one], fun i v hv => ?_⟩
        rw [List.getElem?_take] at hv
        split at hv
        · rw [List.getElem?_drop] at hv
          rw [Nat.add_assoc]
          exact hcl _ _ hv
        · cases hv
  · intro hn
    cases A with
    | none => have := hA rfl; omega
    | some a =>
      split at hn
      · cases hn
      · cases hn
  · intro a' ha
    cases A with
    | none =>
      split at ha
      · cases ha
      · cases ha
    | some a =>
      refine ⟨a, rfl, ?_⟩
      split at ha
      · cases ha; rfl
      · cases ha
        obtain ⟨b, o, sp⟩ := a
        obtain rfl : sp = none := hp _ rfl
        show (Addr.add ⟨b, o, none⟩ (fr * 1)).block = b
        rw [Addr.add_lit]
set_option maxRecDepth 100000 in
theorem run_same (w : World) (cs : Array Value) (n c : Nat) : (convert 25 25 (.slice (some ⟨w.heap.size, 0, none⟩) n c)).run Tryz.prog (w.alloc (.cells cs 5)) = .ok (.slice (some ⟨w.heap.size, 0, none⟩) n c) (w.alloc (.cells cs 5 (cs.size, cs.size + 1))) := by
  have hs : (w.alloc (.cells cs 5)).shape? w.heap.size = some (5, cs.size) := by
    unfold World.shape?
    rw [heap_alloc_new w _]
  unfold convert
  simp only [Sem.run_bind, run_underlying Tryz.underlying25, Result.andThen_ok]
  show Sem.run _ (do
      let __do_lift ← underlying 5
      match (25 : TypeId) == 25, __do_lift with
        | true, TypeDesc.int IntKind.u8 => do
          markStringish ⟨w.heap.size, 0, none⟩
          pure (Value.slice (some ⟨w.heap.size, 0, none⟩) n c)
        | x, x_1 => unsupported (Unsupported.noEntry "convert/other")) _ = _
  simp only [Sem.run_bind, run_underlying Tryz.underlying5, Result.andThen_ok]
  show Sem.run _ (do
          markStringish ⟨w.heap.size, 0, none⟩
          pure (Value.slice (some ⟨w.heap.size, 0, none⟩) n c)) _ = _
  unfold markStringish
  simp only [Sem.run_bind, run_shape, Result.andThen_ok, hs, run_freeze, freeze_new, Sem.run_pure]
set_option maxRecDepth 100000 in
theorem run_str {A : Option Addr} {l : List UInt8} {w : World} (h : Bs w A l) (n c : Nat) (hn : n = l.length) : (convert 25 9 (.slice A n c)).run Tryz.prog w = .ok (.string ⟨l.toArray⟩) w := by
  subst hn
  rcases Nat.eq_zero_or_pos l.length with h0 | h0
  · obtain rfl := List.eq_nil_of_length_eq_zero h0
    show (convert 25 9 (.slice A 0 c)).run Tryz.prog w = _
    rw [run_convert_bytes_string w 25 9 5 A 0 c Tryz.underlying25 Tryz.underlying5 Tryz.underlying9]
    cases A with
    | none => rfl
    | some a => exact run_bytesToString w a 0 c [] rfl
  · obtain ⟨g, o, rfl, hc⟩ := h.at_ h0
    have := run_convert_bytes_arg (P := Tryz.prog) w 25 5 Tryz.underlying25 Tryz.underlying5 g o l.length c (l.map fun x => (x.toNat : Int)) (by simp) (fun i hi => by rw [hc i hi]; simp [List.getD, hi]) 9 Tryz.underlying9
    rw [this]
    unfold strOfNums
    have e : (l.map fun x => (x.toNat : Int)).map (fun n => UInt8.ofNat n.toNat) = l := by
      rw [List.map_map]
      conv => rhs; rw [← List.map_id l]
      exact List.map_congr_left (fun x _ => by simp)
    rw [e]
/-- 'append' onto a row of the call's own, at the operation. -/
theorem wpList_buf {P : Program} {ops : Array Oper} {rest : List Oper} {o : Oper} {a : Act} {Q : Exit → Act → World → Prop} {w : World} {t e bytes : Nat} (E : Elem P t e 1 bytes)
    {base : Nat} {A B : Option Addr} {n c m m' c' : Nat} {xs news : List Value} (hb : Buf w base e A n c xs) (hr : Cells w B news) (s x : Operand)
    (ho : o.op = .call { callee := .builtin .append, args := #[s, x], argTypes := #[t, t] }) (hgd : o.guard = none)
    (hs : a.eval s = .slice A n c) (hx : a.eval x = .slice B m' c') (hm : m' = m) (hl : news.length = m) (h1 : ∀ u ∈ news, u.oneCell' = true) (hsz : n + m ≤ 4294967296) (hbase : base ≤ w.heap.size)
    (h : ∀ A1 c1 w', Buf w' base e A1 (n + m) c1 (xs ++ news) → w.grownBy w' (Value.slice A n c).ownBlock → (∀ w0, Ext w0 w → w0.heap.size ≤ base → Ext w0 w') → (A1 = A ∨ A1 = some ⟨w.heap.size, 0, none⟩) → wpList P ops Q rest (a.put o.dst (.slice A1 (n + m) c1)) w') : wpList P ops Q (o :: rest) a w :=
  wpList_plain hgd fun K hK => by
    subst hm
    obtain ⟨A1, c1, w', hrun, h2, h3, h4⟩ := run_buf (P := P) E w o.type hb (c' := c') hr hl h1 hsz hbase
    unfold Oper.wp execOp
    simp only [ho, resolve, invoke, builtin, Sem.run_bind, Sem.run_pure, Result.andThen_ok, List.map_toArray, List.map_cons, List.map_nil, hs, hx, hrun]
    refine hK _ _ (h A1 c1 w' h2 h3 (fun w0 hE hw => hE.grown h3 fun k hk => ?_) h4)
    have hbl := hb.base_le
    cases A with
    | none => simp [Value.ownBlock] at hk
    | some b =>
      have := hbl b rfl
      simp [Value.ownBlock] at hk
      omega
/-- 'append' of values that the statement has just laid in a new block. -/
theorem wpList_bufN {P : Program} {ops : Array Oper} {rest : List Oper} {o : Oper} {a : Act} {Q : Exit → Act → World → Prop} {w0 : World} {us : List Value} {T : TypeId} {t e bytes : Nat} (E : Elem P t e 1 bytes)
    {base : Nat} {A : Option Addr} {n c : Nat} {xs : List Value} (hb : Buf w0 base e A n c xs) (s x : Operand)
    (ho : o.op = .call { callee := .builtin .append, args := #[s, x], argTypes := #[t, t] }) (hgd : o.guard = none)
    (hs : a.eval s = .slice A n c) (hx : a.eval x = .slice (some ⟨w0.heap.size, 0, none⟩) us.length us.length) (h1 : ∀ u ∈ us, u.oneCell' = true) (hsz : n + us.length ≤ 4294967296) (hbase : base ≤ w0.heap.size)
    (h : ∀ A1 c1 w', Buf w' base e A1 (n + us.length) c1 (xs ++ us) → (∀ w00, Ext w00 w0 → w00.heap.size ≤ base → Ext w00 w') → wpList P ops Q rest (a.put o.dst (.slice A1 (n + us.length) c1)) w') :
    wpList P ops Q (o :: rest) a (w0.alloc (.cells us.toArray T)) := by
  refine wpList_buf E (hb.alloc _) (B := some ⟨w0.heap.size, 0, none⟩) (news := us) (.inr ⟨w0.heap.size, 0, rfl, fun i u hu => ?_⟩) s x ho hgd hs hx rfl rfl h1 hsz (by simp; omega) fun A1 c1 w' h2 _ h3 _ => h A1 c1 w' h2 fun w00 hE hle => h3 w00 (hE.alloc _) hle
  rw [Nat.zero_add, cell_of_row _ _ _ _ _ _ (heap_alloc_new w0 _)]
  simpa using hu
theorem Buf.none_cap {w : World} {base : Nat} {e : TypeId} {A : Option Addr} {n c : Nat} {xs : List Value} (h : Buf w base e A n c xs) (hA : A = none) : c = 0 := by
  rcases h.2.2 with ⟨_, h⟩ | ⟨g, _, h, _⟩
  · exact h
  · rw [h] at hA; cases hA
/-- New bytes. -/
def NewB (w : World) (l : List UInt8) (e : Ending) (w' : World) : Prop := ∃ A c, e = .returned (.slice A l.length c) ∧ Buf w' w.heap.size 5 A l.length c (l.map B8) ∧ Ext w w'
end Go.Proofs.YtkdcnhnaiknaaaaGreat

/- Strings as lists of bytes: a head, a tail, a byte. -/
namespace Go.Proofs.YtkdcnhnaiknaaaaGreat
open Go.RowKit

theorem bytes_take (l : List UInt8) (k : Nat) : (⟨l.toArray⟩ : ByteArray).extract 0 k = ⟨(l.take k).toArray⟩ := by
  have : ((⟨l.toArray⟩ : ByteArray).extract 0 k).data = (l.take k).toArray := by
    simp
  generalize (⟨l.toArray⟩ : ByteArray).extract 0 k = x at this
  cases x
  simp only at this
  rw [this]
set_option maxRecDepth 100000 in
theorem run_strhead (l : List UInt8) (k : Nat) (hk : k ≤ l.length) (W : World) : (Instr.sliceAt 9 (.string ⟨l.toArray⟩) none (some (.int .i64 k)) none).run Tryz.prog W = .ok (.string ⟨(l.take k).toArray⟩) W := by
  rw [run_sliceAt_string W 9 _ _ _ _ Tryz.underlying9]
  have hsz : (⟨l.toArray⟩ : ByteArray).size = l.length := ByteArray.size_mk_toArray l
  simp only [Instr.slice, Sem.run_bind, run_underlying Tryz.underlying9, Result.andThen_ok, Instr.sliceBounds, hsz, Option.isSome_none, Bool.false_eq_true, if_false, Sem.run_pure]
  rw [run_sliceBound W .i64 (k : Int) l.length _ (by omega) (by omega)]
  simp only [Result.andThen_ok, Int.toNat_natCast, bytes_take]
theorem run_strheadz {l : List UInt8} {k : Nat} (hk : k ≤ l.length) {z : Int} (hz : z = (k : Int)) (W : World) : (Instr.sliceAt 9 (.string ⟨l.toArray⟩) none (some (.int .i64 z)) none).run Tryz.prog W = .ok (.string ⟨(l.take k).toArray⟩) W := by
  subst hz
  exact run_strhead l k hk W
set_option maxRecDepth 100000 in
theorem run_strindex {l : List UInt8} {i : Nat} {b : UInt8} (h : l[i]? = some b) {z : Int} (hz : z = (i : Int)) (W : World) : (Instr.index 9 (.string ⟨l.toArray⟩) (.int .i64 z)).run Tryz.prog W = .ok (.int .u8 (b.toNat : Int)) W := by
  subst hz
  have hi := (List.getElem?_eq_some_iff.1 h).1
  have h2 := (List.getElem?_eq_some_iff.1 h).2
  have hsz : (⟨l.toArray⟩ : ByteArray).size = l.length := ByteArray.size_mk_toArray l
  rw [run_index_string W 9 _ .i64 (i : Int) Tryz.underlying9, dif_pos ⟨by omega, by rw [hsz]; omega⟩]
  have : ((⟨l.toArray⟩ : ByteArray)[(i : Int).toNat]'(by rw [hsz]; omega)) = b := by
    rw [← h2]
    simp only [Int.toNat_natCast]
    rfl
  rw [this]
set_option maxRecDepth 100000 in
theorem run_strindexk {l : List UInt8} {k : IntKind} {i : Nat} {b : UInt8} (h : l[i]? = some b) {z : Int} (hz : z = (i : Int)) (W : World) : (Instr.index 9 (.string ⟨l.toArray⟩) (.int k z)).run Tryz.prog W = .ok (.int .u8 (b.toNat : Int)) W := by
  subst hz
  have hi := (List.getElem?_eq_some_iff.1 h).1
  have h2 := (List.getElem?_eq_some_iff.1 h).2
  have hsz : (⟨l.toArray⟩ : ByteArray).size = l.length := ByteArray.size_mk_toArray l
  rw [run_index_string W 9 _ k (i : Int) Tryz.underlying9, dif_pos ⟨by omega, by rw [hsz]; omega⟩]
  have : ((⟨l.toArray⟩ : ByteArray)[(i : Int).toNat]'(by rw [hsz]; omega)) = b := by
    rw [← h2]
    simp only [Int.toNat_natCast]
    rfl
  rw [this]
theorem bytes_drop (l : List UInt8) (k : Nat) : (⟨l.toArray⟩ : ByteArray).extract k l.length = ⟨(l.drop k).toArray⟩ := by
  have : ((⟨l.toArray⟩ : ByteArray).extract k l.length).data = (l.drop k).toArray := by
    simp
    exact List.take_of_length_le (by rw [List.length_drop]; exact Nat.le_refl _)
  generalize (⟨l.toArray⟩ : ByteArray).extract k l.length = x at this
  cases x
  simp only at this
  rw [this]
set_option maxRecDepth 100000 in
theorem run_strtail (l : List UInt8) (k : Nat) (hk : k ≤ l.length) {z : Int} (hz : z = (k : Int)) (W : World) : (Instr.sliceAt 9 (.string ⟨l.toArray⟩) (some (.int .i64 z)) none none).run Tryz.prog W = .ok (.string ⟨(l.drop k).toArray⟩) W := by
  subst hz
  rw [run_sliceAt_string W 9 _ _ _ _ Tryz.underlying9]
  have hsz : (⟨l.toArray⟩ : ByteArray).size = l.length := ByteArray.size_mk_toArray l
  simp only [Instr.slice, Sem.run_bind, run_underlying Tryz.underlying9, Result.andThen_ok, Instr.sliceBounds, hsz, Option.isSome_none, Bool.false_eq_true, if_false, Sem.run_pure]
  rw [run_sliceBound W .i64 (k : Int) l.length _ (by omega) (by omega)]
  simp only [Result.andThen_ok, Int.toNat_natCast, bytes_drop]
end Go.Proofs.YtkdcnhnaiknaaaaGreat

/- loggia/utf: spans, forms, half. -/
namespace Go.Proofs.YtkdcnhnaiknaaaaGreat
open Go.RowKit

def inB (lo hi but r : Int) : Bool := decide (lo ≤ r) && decide (r ≤ hi) && (r != but)
set_option maxRecDepth 100000 in
theorem in_any (lo hi but r : Int) (w : World) : Calls Tryz.prog 192 #[.agg #[.int .i64 lo, .int .i64 hi, .int .i64 but], .int .i64 r] w fun e w' => e = .returned (.bool (inB lo hi but r)) ∧ Ext w w' := by
  unfold inB
  go_enter Tryz.func192, Tryz.ntmps192
  go_wp2
  all_goals
    go_ret
    refine ⟨?_, (Ext.refl w).alloc _⟩
    simp_all
    try (intros; omega)
set_option maxRecDepth 100000 in
theorem half_any (r : Int) (w : World) : Calls Tryz.prog 215 #[.int .i64 r] w fun e w' => e = .returned (.bool (decide (55296 ≤ r) && decide (r ≤ 57343))) ∧ w' = w := by
  go_enter Tryz.func215, Tryz.ntmps215
  go_wp2
  all_goals
    go_ret
    simp_all
    try (intros; omega)
def formC : Array Value := #[.int .i64 2, .int .u8 224, .int .u8 192, .int .i64 128, .int .i64 2047, .int .i64 (-1), .int .i64 3, .int .u8 240, .int .u8 224, .int .i64 2048, .int .i64 65535, .int .i64 (-1), .int .i64 4, .int .u8 248, .int .u8 240, .int .i64 65536, .int .i64 1114111, .int .i64 (-1)]
set_option maxRecDepth 100000 in
theorem forms_any (w : World) : Calls Tryz.prog 214 #[] w fun e w' => e = .returned (.agg formC) ∧ Ext w w' := by
  have hr := Row.new w 277 formC
  have hE : Ext w (w.alloc (.cells formC 277)) := (Ext.refl w).alloc _
  replace hr := hide hr
  replace hE := hide hE
  go_enter Tryz.func214, Tryz.ntmps214
  go_wp2_with fail
  exact bodyPost_ret (results_cell_row rfl _ _ w.heap.size 277 formC (0, 0) _ rfl hr.out Tryz.underlying277 rfl (by kernel_rfl)) rfl ⟨rfl, hE.out⟩
end Go.Proofs.YtkdcnhnaiknaaaaGreat

/- The bytes of a string: a row of the call's own. -/
namespace Go.Proofs.YtkdcnhnaiknaaaaGreat
open Go.RowKit

/-- What an append onto a row of the call's own leaves: only that row may have turned, and the new row is the old one, or lies in a new block. -/
structure Push (w : World) (A A1 : Option Addr) (w' : World) : Prop where
  chg : Chg (fun k => ∃ a, A = some a ∧ a.block = k) w w'
  new : A1 = A ∨ ∃ a, A1 = some a ∧ w.heap.size ≤ a.block
theorem Push.refl (w : World) (A : Option Addr) : Push w A A w := ⟨Chg.refl _ _, .inl rfl⟩
theorem Push.of_ext {w w1 : World} (h : Ext w w1) (A : Option Addr) : Push w A A w1 := ⟨Chg.of_ext h _, .inl rfl⟩
theorem Push.trans {w w1 w2 : World} {A A1 A2 : Option Addr} (h : Push w A A1 w1) (k : Push w1 A1 A2 w2) : Push w A A2 w2 := by
  refine ⟨h.chg.trans k.chg fun i hi ⟨a, ha, hk⟩ => ?_, ?_⟩
  · rcases h.new with rfl | ⟨b, hb, hle⟩
    · exact ⟨a, ha, hk⟩
    · rw [ha] at hb
      cases hb
      omega
  · rcases k.new with rfl | ⟨b, hb, hle⟩
    · exact h.new
    · exact .inr ⟨b, hb, Nat.le_trans h.chg.size hle⟩
theorem Push.ext {w0 w w1 : World} {A A1 : Option Addr} (h : Push w A A1 w1) (hE : Ext w0 w) (hA : ∀ a, A = some a → w0.heap.size ≤ a.block) : Ext w0 w1 :=
  hE.chg h.chg fun i hi ⟨a, ha, hk⟩ => by have := hA a ha; omega
theorem Push.cells {w w1 : World} {A A1 B : Option Addr} {xs : List Value} (h : Push w A A1 w1) (hB : Cells w B xs) (hn : ∀ a b, A = some a → B = some b → a.block ≠ b.block) : Cells w1 B xs :=
  h.chg.cells hB fun b hb ⟨a, ha, hk⟩ => hn a b ha hb hk
theorem Push.row {w w1 : World} {A A1 : Option Addr} {g : Nat} {t : TypeId} {cs : Array Value} (h : Push w A A1 w1) (hr : Row w g t cs) (hn : ∀ a, A = some a → a.block ≠ g) : Row w1 g t cs :=
  h.chg.row hr fun ⟨a, ha, hk⟩ => hn a ha hk
theorem Push.away {w w1 : World} {A A1 : Option Addr} {g : Nat} (h : Push w A A1 w1) (hg : g < w.heap.size) (hn : ∀ a, A = some a → a.block ≠ g) : ∀ a, A1 = some a → a.block ≠ g := fun a ha => by
  rcases h.new with rfl | ⟨b, hb, hle⟩
  · exact hn a ha
  · rw [ha] at hb
    cases hb
    omega
/-- 'append' of values that the statement has just laid in a new block: what it keeps. -/
theorem wpList_bufK {P : Program} {ops : Array Oper} {rest : List Oper} {o : Oper} {a : Act} {Q : Exit → Act → World → Prop} {w0 : World} {us : List Value} {T : TypeId} {t e bytes : Nat} (E : Elem P t e 1 bytes)
    {base : Nat} {A : Option Addr} {n c : Nat} {xs : List Value} (hb : Buf w0 base e A n c xs) (s x : Operand)
    (ho : o.op = .call { callee := .builtin .append, args := #[s, x], argTypes := #[t, t] }) (hgd : o.guard = none)
    (hs : a.eval s = .slice A n c) (hx : a.eval x = .slice (some ⟨w0.heap.size, 0, none⟩) us.length us.length) (h1 : ∀ u ∈ us, u.oneCell' = true) (hsz : n + us.length ≤ 4294967296) (hbase : base ≤ w0.heap.size)
    (h : ∀ A1 c1 w', Buf w' base e A1 (n + us.length) c1 (xs ++ us) → Push w0 A A1 w' → wpList P ops Q rest (a.put o.dst (.slice A1 (n + us.length) c1)) w') :
    wpList P ops Q (o :: rest) a (w0.alloc (.cells us.toArray T)) := by
  refine wpList_buf E (hb.alloc _) (B := some ⟨w0.heap.size, 0, none⟩) (news := us) (.inr ⟨w0.heap.size, 0, rfl, fun i u hu => ?_⟩) s x ho hgd hs hx rfl rfl h1 hsz (by simp; omega) fun A1 c1 w' h2 hg _ h4 => h A1 c1 w' h2 ⟨?_, ?_⟩
  · rw [Nat.zero_add, cell_of_row _ _ _ _ _ _ (heap_alloc_new w0 _)]
    simpa using hu
  · refine (Chg.of_ext ((Ext.refl w0).alloc _) (fun k => ∃ a, A = some a ∧ a.block = k)).trans (Chg.of_grown (S := fun k => ∃ a, A = some a ∧ a.block = k) hg fun k _ hk => ?_) fun _ _ h => h
    cases A with
    | none => simp [Value.ownBlock] at hk
    | some b => exact ⟨b, rfl, by simpa [Value.ownBlock] using hk⟩
  · rcases h4 with rfl | rfl
    · exact .inl rfl
    · exact .inr ⟨_, rfl, by simp⟩
set_option maxRecDepth 100000 in
theorem run_bytes (s : List UInt8) (w : World) : ∃ c w1, (convert 9 25 (.string ⟨s.toArray⟩)).run Tryz.prog w = .ok (.slice (some ⟨w.heap.size, 0, none⟩) s.length c) w1 ∧ Bs w1 (some ⟨w.heap.size, 0, none⟩) s ∧ Ext w w1 ∧ w1.heap.size = w.heap.size + 1 := by
  refine ⟨grownCap w s.length 0 5, Lib.bytesWorld w 5 ⟨s.toArray⟩, ?_, ?_, ?_, Lib.bytesWorld_size _ _ _⟩
  · exact Lib.run_convert_string_bytes w 9 25 5 ⟨s.toArray⟩ Tryz.underlying9 Tryz.underlying25 Tryz.underlying5
  · refine .inr ⟨w.heap.size, 0, rfl, fun i v hv => ?_⟩
    rw [List.getElem?_map] at hv
    obtain ⟨b, hb, rfl⟩ := Option.map_eq_some_iff.1 hv
    have hi := (List.getElem?_eq_some_iff.1 hb).1
    have h := Lib.bytesWorld_cell w 5 ⟨s.toArray⟩ i (by rw [ByteArray.size_mk_toArray]; exact hi)
    rw [Nat.zero_add, h]
    unfold B8
    simp [List.getD, hb]
  · unfold Lib.bytesWorld
    rw [show w.heap.size = w.drew.heap.size from rfl, freeze_new]
    exact (Ext.refl w).drew.alloc _
end Go.Proofs.YtkdcnhnaiknaaaaGreat

/- loggia/utf: forms, heads, bits (plain). -/
namespace Go.Proofs.YtkdcnhnaiknaaaaGreat
open Go.RowKit

/-- A form: how many bytes stand behind the head; the mask; the head; the bounds; what the head is divided by, and gives. -/
structure Frm where
  k : Nat
  msk : Nat
  hd : Nat
  lo : Nat
  hi : Nat
  d : Nat
  q : Nat
def frm (i : Nat) : Frm := if i = 0 then ⟨1, 224, 192, 128, 2047, 32, 6⟩ else if i = 1 then ⟨2, 240, 224, 2048, 65535, 16, 14⟩ else ⟨3, 248, 240, 65536, 1114111, 8, 30⟩
def Frm.cells (f : Frm) : Array Value := #[.int .i64 ((f.k : Int) + 1), .int .u8 (f.msk : Int), .int .u8 (f.hd : Int), .int .i64 (f.lo : Int), .int .i64 (f.hi : Int), .int .i64 (-1)]
theorem three {i : Nat} (h : i < 3) : i = 0 ∨ i = 1 ∨ i = 2 := by omega
set_option maxRecDepth 100000 in
theorem run_form {i : Nat} (hi : i < 3) (W : World) : (Instr.index 277 (.agg formC) (.int .i64 (i : Int))).run Tryz.prog W = .ok (.agg (frm i).cells) W := by
  rcases three hi with rfl | rfl | rfl
  · show _ = _
    kernel_rfl
  · show _ = _
    kernel_rfl
  · show _ = _
    kernel_rfl
set_option maxRecDepth 100000 in
theorem frm_and : ∀ b : Fin 256, ∀ i : Fin 3, bits .and .u8 ((b.val : Nat) : Int) ((frm i.val).msk : Int) = ((b.val / (frm i.val).d * (frm i.val).d : Nat) : Int) := by decide +kernel
set_option maxRecDepth 100000 in
theorem frm_not : ∀ b : Fin 256, ∀ i : Fin 3, bits .andNot .u8 ((b.val : Nat) : Int) ((frm i.val).msk : Int) = ((b.val % (frm i.val).d : Nat) : Int) := by decide +kernel
theorem frm_hd : ∀ i : Fin 3, (frm i.val).hd = (frm i.val).q * (frm i.val).d ∧ 0 < (frm i.val).d ∧ (frm i.val).d ≤ 32 ∧ (frm i.val).k ≤ 3 ∧ (frm i.val).hi ≤ 1114111 := by decide +kernel
theorem frm_head {i : Nat} (hi : i < 3) (b : UInt8) : (bits .and .u8 (b.toNat : Int) ((frm i).msk : Int) = ((frm i).hd : Int)) ↔ b.toNat / (frm i).d = (frm i).q := by
  have h1 := frm_and ⟨b.toNat, b.toNat_lt⟩ ⟨i, hi⟩
  have h2 := frm_hd ⟨i, hi⟩
  simp only at h1 h2
  rw [h1, h2.1]
  constructor
  · intro h
    exact Nat.eq_of_mul_eq_mul_right h2.2.1 (Int.ofNat.inj h)
  · intro h
    rw [h]
theorem and63 (b : UInt8) : bits .and .u8 (b.toNat : Int) 63 = ((b.toNat % 64 : Nat) : Int) := by
  have h : ∀ k : Fin 256, bits .and .u8 ((k.val : Nat) : Int) 63 = ((k.val % 64 : Nat) : Int) := by decide +kernel
  exact h ⟨b.toNat, b.toNat_lt⟩
theorem and192 (b : UInt8) : (bits .and .u8 (b.toNat : Int) 192 = 128) ↔ contB b = true := by
  have h : ∀ k : Fin 256, (bits .and .u8 ((k.val : Nat) : Int) 192 = 128) ↔ k.val / 64 == 2 := by decide +kernel
  exact h ⟨b.toNat, b.toNat_lt⟩
theorem i64_or_nat (a b : Nat) (ha : a < 4611686018427387904) (hb : b < 4611686018427387904) : bits .or .i64 (a : Int) (b : Int) = ((a ||| b : Nat) : Int) := by
  have hx : a ||| b < 2 ^ 62 := Nat.or_lt_two_pow (by omega) (by omega)
  have h1 : (BitVec.ofInt 64 (a : Int)).toNat = a := by
    rw [BitVec.ofInt_natCast, BitVec.toNat_ofNat]; exact Nat.mod_eq_of_lt (by omega)
  have h2 : (BitVec.ofInt 64 (b : Int)).toNat = b := by
    rw [BitVec.ofInt_natCast, BitVec.toNat_ofNat]; exact Nat.mod_eq_of_lt (by omega)
  show IntKind.i64.wrap ((BitVec.ofInt 64 (a : Int) ||| BitVec.ofInt 64 (b : Int)).toNat : Int) = _
  rw [BitVec.toNat_or, h1, h2, IntKind.wrap_i64]
  omega
theorem or6 (x y : Nat) (hx : x < 1073741824) (hy : y < 64) : bits .or .i64 ((x : Int) * 64) (y : Int) = ((x * 64 + y : Nat) : Int) := by
  have := Nat.shiftLeft_add_eq_or_of_lt (i := 6) (b := y) hy x
  rw [Nat.shiftLeft_eq] at this
  rw [show (x : Int) * 64 = ((x * 64 : Nat) : Int) by omega, i64_or_nat _ _ (by omega) (by omega), ← this]
/-- Do the bytes behind a head make a rune of the form? -/
def okF (i : Nat) (b : UInt8) (t : List UInt8) : Bool := b.toNat / (frm i).d == (frm i).q && okR (frm i).lo (frm i).hi (b.toNat % (frm i).d) (frm i).k t
theorem decR_form {i : Nat} {b : UInt8} {t : List UInt8} (hi : i < 3) (hb : ¬ b.toNat < 128) (hn : ∀ j, j < i → okF j b t = false) (h : okF i b t = true) : decR (b :: t) = (foldR (b.toNat % (frm i).d) (t.take (frm i).k), (frm i).k + 1) := by
  rw [decR, if_neg hb]
  rcases three hi with rfl | rfl | rfl
  · exact if_pos h
  · have h0 := hn 0 (by omega)
    rw [if_neg (by rw [show (b.toNat / 32 == 6 && okR 128 2047 (b.toNat % 32) 1 t) = false from h0]; decide)]
    exact if_pos h
  · have h0 := hn 0 (by omega)
    have h1 := hn 1 (by omega)
    rw [if_neg (by rw [show (b.toNat / 32 == 6 && okR 128 2047 (b.toNat % 32) 1 t) = false from h0]; decide), if_neg (by rw [show (b.toNat / 16 == 14 && okR 2048 65535 (b.toNat % 16) 2 t) = false from h1]; decide)]
    exact if_pos h
theorem decR_none {b : UInt8} {t : List UInt8} (hb : ¬ b.toNat < 128) (hn : ∀ j, j < 3 → okF j b t = false) : decR (b :: t) = (65533, 1) := by
  have h0 := hn 0 (by omega)
  have h1 := hn 1 (by omega)
  have h2 := hn 2 (by omega)
  rw [decR, if_neg hb, if_neg (by rw [show (b.toNat / 32 == 6 && okR 128 2047 (b.toNat % 32) 1 t) = false from h0]; decide), if_neg (by rw [show (b.toNat / 16 == 14 && okR 2048 65535 (b.toNat % 16) 2 t) = false from h1]; decide), if_neg (by rw [show (b.toNat / 8 == 30 && okR 65536 1114111 (b.toNat % 8) 3 t) = false from h2]; decide)]
theorem foldR_lt (n : Nat) (l : List UInt8) : foldR n l < (n + 1) * 64 ^ l.length := by
  induction l generalizing n with
  | nil => simp [foldR]
  | cons b l ih =>
    have h := ih (n * 64 + b.toNat % 64)
    rw [List.length_cons, Nat.pow_succ]
    refine Nat.lt_of_lt_of_le (show foldR n (b :: l) < _ from h) ?_
    rw [show (n + 1) * (64 ^ l.length * 64) = (n * 64 + 64) * 64 ^ l.length by rw [Nat.mul_comm (64 ^ l.length) 64, ← Nat.mul_assoc, Nat.add_mul n 1 64]]
    exact Nat.mul_le_mul_right _ (by omega)
theorem foldR_snoc (n : Nat) (l : List UInt8) (b : UInt8) : foldR n (l ++ [b]) = foldR n l * 64 + b.toNat % 64 := by
  unfold foldR
  rw [List.foldl_append]
  rfl
theorem foldR_small {n : Nat} {l : List UInt8} (hn : n < 32) (hl : l.length ≤ 3) : foldR n l < 8388608 := by
  have h := foldR_lt n l
  have h2 : (n + 1) * 64 ^ l.length ≤ 32 * 64 ^ 3 := Nat.mul_le_mul (by omega) (Nat.pow_le_pow_right (by omega) hl)
  omega
theorem bytes_cut (l : List UInt8) (a b : Nat) : (⟨l.toArray⟩ : ByteArray).extract a b = ⟨((l.drop a).take (b - a)).toArray⟩ := by
  have : ((⟨l.toArray⟩ : ByteArray).extract a b).data = ((l.drop a).take (b - a)).toArray := by
    rw [ByteArray.data_extract, List.extract_toArray, List.extract_eq_take_drop]
  generalize (⟨l.toArray⟩ : ByteArray).extract a b = x at this
  cases x
  subst this
  rfl
theorem bs_cell {w : World} {g : Nat} {l : List UInt8} (h : Bs w (some ⟨g, 0, none⟩) l) {j : Nat} {b : UInt8} (hb : l[j]? = some b) : w.cell? ⟨g, j, none⟩ = some (.int .u8 (b.toNat : Int)) := by
  obtain ⟨g', o, hA, hc⟩ := Cells.at_ h (by rw [List.length_map]; exact Nat.lt_of_le_of_lt (Nat.zero_le _) (List.getElem?_eq_some_iff.1 hb).1)
  cases hA
  have := hc j (B8 b) (by rw [List.getElem?_map, hb]; rfl)
  rwa [Nat.zero_add] at this
end Go.Proofs.YtkdcnhnaiknaaaaGreat

