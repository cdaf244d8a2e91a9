/- Small words on memory that all the walks share: what came stays, slices read as lists, bytes. -/
import Derived.Test.YtohphanbnhiodaaM01
import Derived.WalkKit
import Derived.WalkSpells
import Derived.WalkLawsBesides
import Derived.Deep.Draws
import Derived.Maps.AppendAt
import Derived.Test.YtohphanbnhiodaaRows
import Derived.Laws.BytesArg
import Derived.Laws.BitsAllLaws
set_option linter.unusedSimpArgs false
set_option linter.unusedVariables false
namespace Go.Proofs.Ytohphanbnhiodaa
open Go.RowKit

theorem hide {p : Prop} (h : p) : Hid p := h

/-- All that there was is as it was; there may be more. -/
def Ext (w w' : World) : Prop := Below w.heap.size w w'
section
variable {w w1 w2 : World}
theorem Ext.refl (w : World) : Ext w w := Below.refl _ _
theorem Ext.size (h : Ext w w1) : w.heap.size ≤ w1.heap.size := Below.size h
theorem Ext.trans (h : Ext w w1) (k : Ext w1 w2) : Ext w w2 := Below.trans h (Below.mono k h.size)
theorem Ext.drew (h : Ext w w1) : Ext w w1.drew := Below.drew h
theorem Ext.drewN (h : Ext w w1) (n : Nat) : Ext w (w1.drewN n) := 
  have hb : Below w.heap.size w w1 := h
  ⟨hb.os, hb.tape, hb.output, hb.size, hb.block⟩
theorem Ext.alloc (h : Ext w w1) (o : Obj) : Ext w (w1.alloc o) := Below.alloc h h.size o
theorem Ext.setCell (h : Ext w w1) {p : Addr} (hp : w.heap.size ≤ p.block) (u : Value) : Ext w (w1.setCell p u) := Below.setCell h hp u
theorem Ext.grown {row : Option Nat} (h : Ext w w1) (hg : w1.grownBy w2 row) (hr : ∀ k, row = some k → w.heap.size ≤ k) : Ext w w2 := Below.grown h hg h.size hr
theorem Ext.cell {a : Addr} {v : Value} (h : Ext w w1) (hc : w.cell? a = some v) : w1.cell? a = some v := (Below.cell h (World.block_lt_of_cell? w a hc)).trans hc
theorem Ext.block {k : Nat} {o : Obj} (h : Ext w w1) (hk : w.heap[k]? = some o) : w1.heap[k]? = some o :=
  (Below.block h k (Array.getElem?_eq_some_iff.1 hk).1).trans hk
theorem Ext.frozen {a : Addr} (h : Ext w w1) (hlt : a.block < w.heap.size) : w1.frozen? a = w.frozen? a := Below.frozen h hlt
theorem Ext.owns {base : Nat} {e : TypeId} {size : Nat} {v : Value} {n : Nat} {xs : List Value} (h : Ext w w1) (ho : w.ownsRow base e size v n xs) : w1.ownsRow base e size v n xs := by
  obtain ⟨h1, h2⟩ := ho
  refine ⟨h1, ?_⟩
  rcases h2 with h2 | ⟨g, cap, cur, hv, hg, hh, r⟩
  · exact .inl h2
  · exact .inr ⟨g, cap, cur, hv, hg, h.block hh, r⟩
end

/-- Block g is whole: the cells cs of type t, all of them writable. -/
def Row (w : World) (g : Nat) (t : TypeId) (cs : Array Value) : Prop := w.heap[g]? = some (.cells cs t (0, 0))
section
variable {w w1 : World} {g : Nat} {t : TypeId} {cs : Array Value}
theorem Row.lt (h : Row w g t cs) : g < w.heap.size := (Array.getElem?_eq_some_iff.1 h).1
theorem Row.cell (h : Row w g t cs) (i : Nat) {v : Value} (hv : cs[i]? = some v) : w.cell? ⟨g, i, none⟩ = some v := (cell_of_row w g i cs t (0, 0) h).trans hv
theorem Row.free (h : Row w g t cs) (i : Nat) : w.frozen? ⟨g, i, none⟩ = false := by
  simp [World.frozen?, show w.heap[g]? = some (.cells cs t (0, 0)) from h]
theorem Row.ext (h : Row w g t cs) (he : Ext w w1) : Row w1 g t cs := he.block h
theorem Row.keep (h : Row w g t cs) (hb : w1.heap[g]? = w.heap[g]?) : Row w1 g t cs := Eq.trans hb h
theorem Row.drew (h : Row w g t cs) : Row w.drew g t cs := h
theorem Row.alloc (h : Row w g t cs) (o : Obj) : Row (w.alloc o) g t cs := h.keep (Below.heap_alloc w o g h.lt)
theorem Row.grown {row : Option Nat} (h : Row w g t cs) (hg : w.grownBy w1 row) (hne : some g ≠ row) : Row w1 g t cs := h.keep (hg.block g h.lt hne)
theorem Row.away (h : Row w g t cs) {p : Addr} (hp : g ≠ p.block) (u : Value) : Row (w.setCell p u) g t cs := h.keep (Below.heap_setCell w p u g hp)
theorem Row.put (h : Row w g t cs) (i : Nat) (u : Value) : Row (w.setCell ⟨g, i, none⟩ u) g t (cs.setIfInBounds i u) := by
  unfold Row at h ⊢
  simp [World.setCell, Array.getElem?_modify, h]
theorem Row.unlike {g' : Nat} {t' : TypeId} {cs' : Array Value} (h : Row w g t cs) (h' : Row w g' t' cs') (hne : t ≠ t') : g ≠ g' := by
  rintro rfl
  unfold Row at h h'
  rw [h] at h'
  injection h' with h'
  injection h' with _ ht
  exact hne ht
theorem Row.new (w : World) (t : TypeId) (cs : Array Value) : Row (w.alloc (.cells cs t)) w.heap.size t cs := heap_alloc_new w _
end

/-- The cells xs lie at A, one behind the other. -/
def Cells (w : World) (A : Option Addr) (xs : List Value) : Prop :=
  xs = [] ∨ ∃ g o, A = some ⟨g, o, none⟩ ∧ ∀ i v, xs[i]? = some v → w.cell? ⟨g, o + i, none⟩ = some v
section
variable {w w1 : World} {A : Option Addr} {xs : List Value}
theorem Cells.nil (w : World) (A : Option Addr) : Cells w A [] := .inl rfl
theorem Cells.ext (h : Cells w A xs) (he : Ext w w1) : Cells w1 A xs := by
  rcases h with h | ⟨g, o, hA, hc⟩
  · exact .inl h
  · exact .inr ⟨g, o, hA, fun i v hv => he.cell (hc i v hv)⟩
theorem Cells.at_ (h : Cells w A xs) (hne : 0 < xs.length) : ∃ g o, A = some ⟨g, o, none⟩ ∧ ∀ i v, xs[i]? = some v → w.cell? ⟨g, o + i, none⟩ = some v := by
  rcases h with h | h
  · rw [h] at hne; simp at hne
  · exact h
theorem Cells.of_own {base : Nat} {e : TypeId} {size n c : Nat} (h : w.ownsRow base e size (.slice A n c) n xs) : Cells w A xs := by
  rcases Nat.eq_zero_or_pos xs.length with h0 | h0
  · exact .inl (List.eq_nil_of_length_eq_zero h0)
  · rcases h.2 with ⟨_, h2⟩ | ⟨g, cap, cur, hv, hb, hg, hn, hc, hs, ht⟩
    · rw [h.1, h2] at h0; simp at h0
    · injection hv with hA _ _
      subst hA
      refine .inr ⟨g, 0, rfl, fun i v hv => ?_⟩
      rw [cell_of_row w g (0 + i) cur e (0, 0) hg, Nat.zero_add]
      rw [← ht, List.getElem?_take] at hv
      split at hv
      · simpa using hv
      · cases hv
end
/-- Only blocks of S have turned; there may be more blocks. -/
structure Chg (S : Nat → Prop) (w w' : World) : Prop where
  os : w'.os = w.os
  tape : w'.tape = w.tape
  output : w'.output = w.output
  size : w.heap.size ≤ w'.heap.size
  block : ∀ k, k < w.heap.size → ¬ S k → w'.heap[k]? = w.heap[k]?
section
variable {S S' : Nat → Prop} {w w1 w2 : World}
theorem Chg.refl (S : Nat → Prop) (w : World) : Chg S w w := ⟨rfl, rfl, rfl, Nat.le_refl _, fun _ _ _ => rfl⟩
theorem Chg.of_ext (h : Ext w w1) (S : Nat → Prop) : Chg S w w1 := ⟨Below.os h, Below.tape h, Below.output h, Below.size h, fun k hk _ => Below.block h k hk⟩
theorem Chg.of_grown {row : Option Nat} (h : w.grownBy w1 row) (hS : ∀ k, k < w.heap.size → row = some k → S k) : Chg S w w1 := ⟨h.os, h.tape, h.output, h.size, fun k hk hn => h.block k hk (fun e => hn (hS k hk e.symm))⟩
theorem Chg.of_set (w : World) {a : Addr} (v : Value) (hS : S a.block) : Chg S w (w.setCell a v) :=
  ⟨rfl, rfl, rfl, by simp [World.setCell], fun k _ hn => Below.heap_setCell w a v k (fun e => hn (by rw [e]; exact hS))⟩
theorem Chg.trans (h : Chg S w w1) (k : Chg S' w1 w2) (hS : ∀ i, i < w.heap.size → S' i → S i) : Chg S w w2 :=
  ⟨k.os.trans h.os, k.tape.trans h.tape, k.output.trans h.output, Nat.le_trans h.size k.size, fun i hi hn => (k.block i (Nat.lt_of_lt_of_le hi h.size) (fun hs => hn (hS i hi hs))).trans (h.block i hi hn)⟩
theorem Chg.mono (h : Chg S w w1) (hS : ∀ i, i < w.heap.size → S i → S' i) : Chg S' w w1 := ⟨h.os, h.tape, h.output, h.size, fun i hi hn => h.block i hi (fun hs => hn (hS i hi hs))⟩
theorem Chg.ext (h : Chg S w w1) (hS : ∀ i, i < w.heap.size → ¬ S i) : Ext w w1 := ⟨h.os, h.tape, h.output, h.size, fun i hi => h.block i hi (hS i hi)⟩
theorem Ext.chg (h : Ext w w1) (k : Chg S w1 w2) (hS : ∀ i, i < w.heap.size → ¬ S i) : Ext w w2 :=
  Below.trans h ⟨k.os, k.tape, k.output, k.size, fun i hi => k.block i (Nat.lt_of_lt_of_le hi h.size) (hS i hi)⟩
theorem Chg.cell (h : Chg S w w1) {a : Addr} {v : Value} (hc : w.cell? a = some v) (hn : ¬ S a.block) : w1.cell? a = some v :=
  (World.cell?_of_block (h.block a.block (World.block_lt_of_cell? w a hc) hn)).trans hc
theorem Chg.row (h : Chg S w w1) {g : Nat} {t : TypeId} {cs : Array Value} (hr : Row w g t cs) (hn : ¬ S g) : Row w1 g t cs := hr.keep (h.block g hr.lt hn)
theorem Chg.owns (h : Chg S w w1) {base : Nat} {e : TypeId} {size : Nat} {v : Value} {n : Nat} {xs : List Value} (ho : w.ownsRow base e size v n xs) (hn : ∀ g, v.ownBlock = some g → ¬ S g) : w1.ownsRow base e size v n xs := by
  obtain ⟨h1, h2⟩ := ho
  refine ⟨h1, ?_⟩
  rcases h2 with h2 | ⟨g, cap, cur, hv, hg, hh, r⟩
  · exact .inl h2
  · exact .inr ⟨g, cap, cur, hv, hg, (h.block g (Array.getElem?_eq_some_iff.1 hh).1 (hn g (by rw [hv]; rfl))).trans hh, r⟩
theorem Chg.cells (h : Chg S w w1) {A : Option Addr} {xs : List Value} (hc : Cells w A xs) (hn : ∀ a, A = some a → ¬ S a.block) : Cells w1 A xs := by
  rcases hc with hc | ⟨g, o, hA, hc⟩
  · exact .inl hc
  · exact .inr ⟨g, o, hA, fun i v hv => h.cell (hc i v hv) (show ¬ S g from hn _ hA)⟩
end
/-- A row of the call's own: its block's type. -/
theorem owns_row {w : World} {base : Nat} {e : TypeId} {size : Nat} {v : Value} {n : Nat} {xs : List Value} (h : w.ownsRow base e size v n xs) {g : Nat} (hg : v.ownBlock = some g) : ∃ cur, Row w g e cur ∧ base ≤ g := by
  rcases h.2 with ⟨rfl, _⟩ | ⟨g', cap, cur, rfl, hb, hh, _⟩
  · simp [Value.ownBlock] at hg
  · simp [Value.ownBlock] at hg
    subst hg
    exact ⟨cur, hh, hb⟩
theorem owns_unlike {w : World} {base : Nat} {e : TypeId} {size : Nat} {v : Value} {n : Nat} {xs : List Value} (h : w.ownsRow base e size v n xs) {g : Nat} {t : TypeId} {cs : Array Value} (hr : Row w g t cs) (hne : e ≠ t) : v.ownBlock ≠ some g := fun hg => by
  obtain ⟨cur, h1, _⟩ := owns_row h hg
  exact Row.unlike h1 hr hne rfl

theorem owns_shape {w : World} {base : Nat} {e : TypeId} {size : Nat} {v : Value} {n : Nat} {xs : List Value} (h : w.ownsRow base e size v n xs) : ∃ A c, v = .slice A n c := by
  rcases h.2 with ⟨rfl, rfl⟩ | ⟨g, cap, cur, rfl, _⟩
  · exact ⟨none, 0, rfl⟩
  · exact ⟨_, cap, rfl⟩
section
variable {S : Nat → Prop} {w w1 : World}
theorem Chg.below (h : Chg S w w1) {B : Nat} (hS : ∀ k, S k → B ≤ k) (hB : B ≤ w.heap.size) : Below B w w1 :=
  ⟨h.os, h.tape, h.output, h.size, fun k hk => h.block k (Nat.lt_of_lt_of_le hk hB) (fun hs => by have := hS k hs; omega)⟩
theorem owns_set {w : World} {base : Nat} {e : TypeId} {size : Nat} {v : Value} {n : Nat} {xs : List Value} (h : w.ownsRow base e size v n xs) {a : Addr} (ha : v.ownBlock ≠ some a.block) (u : Value) : (w.setCell a u).ownsRow base e size v n xs :=
  (Chg.of_set (S := fun k => k = a.block) w u rfl).owns h fun g hg hk => ha (by rw [hg, hk])
theorem Cells.below {B : Nat} {A : Option Addr} {xs : List Value} (h : Cells w A xs) (hb : Below B w w1) (hA : ∀ a, A = some a → a.block < B) : Cells w1 A xs := by
  rcases h with h | ⟨g, o, hA', hc⟩
  · exact .inl h
  · exact .inr ⟨g, o, hA', fun i v hv => (hb.cell (p := ⟨g, o + i, none⟩) (show g < B from hA _ hA')).trans (hc i v hv)⟩
end
/-- What an append must know of a slice's type. -/
structure Elem (P : Program) (t e size bytes : Nat) : Prop where
  ht : P.underlying t = some (.slice e)
  hi : ∃ i z, P.info? e = some i ∧ i.zero = some z ∧ i.size = size ∧ i.bytes = bytes ∧ z.cells.size = size
  hs : 0 < size
  hb : bytes ≤ 1024
theorem run_app {P : Program} {t e size bytes : Nat} (E : Elem P t e size bytes) (w : World) (ty : TypeId) {base : Nat} {v : Value} {n : Nat} {xs : List Value} (hown : w.ownsRow base e size v n xs)
    {A : Option Addr} {m c : Nat} {news : List Value} (hr : Cells w A news) (hl : news.length = m * size) (h1 : ∀ u ∈ news, u.oneCell' = true) (hsz : n + m ≤ 4294967296) (hbase : base ≤ w.heap.size) :
    ∃ A1 c1 w', (Builtin.append_ #[t, t] ty #[v, .slice A m c]).run P w = .ok (.slice A1 (n + m) c1) w' ∧ w'.ownsRow base e size (.slice A1 (n + m) c1) (n + m) (xs ++ news) ∧ w.grownBy w' v.ownBlock ∧
      ((Value.slice A1 (n + m) c1).ownBlock = v.ownBlock ∨ (Value.slice A1 (n + m) c1).ownBlock = some w.heap.size) := by
  suffices hh : ∃ v' w', (Builtin.append_ #[t, t] ty #[v, .slice A m c]).run P w = .ok v' w' ∧ w'.ownsRow base e size v' (n + m) (xs ++ news) ∧ w.grownBy w' v.ownBlock ∧ (v'.ownBlock = v.ownBlock ∨ v'.ownBlock = some w.heap.size) by
    obtain ⟨v', w', h1, h2, h3⟩ := hh
    obtain ⟨A1, c1, rfl⟩ := owns_shape h2
    exact ⟨A1, c1, w', h1, h2, h3⟩
  obtain ⟨i, z, hi, hz, h3, h4, h5⟩ := E.hi
  have hbytes : (n + m) * bytes ≤ 140737488355328 := Nat.le_trans (Nat.mul_le_mul hsz E.hb) (by omega)
  cases A with
  | some a =>
    have hc : ∀ j u, news[j]? = some u → w.cell? (a.add j) = some u := by
      intro j u hu
      rcases hr with hr | ⟨g, o, hA, hc⟩
      · subst hr; simp at hu
      · cases hA
        rw [Addr.add_lit]
        exact hc j u hu
    obtain ⟨v', w', hrun, h6, h7, _, h8⟩ := run_append_own_at (P := P) w base t ty e i z size bytes E.ht hi hz h3 h4 h5 E.hs v n xs hown a m c news hl hc h1 (by unfold maxLen; omega) hbytes hbase
    exact ⟨v', w', hrun, h6, h7, h8⟩
  | none =>
    have hnil : news = [] := by
      rcases hr with hr | ⟨g, o, hA, _⟩
      · exact hr
      · cases hA
    subst hnil
    have hm : m = 0 := by
      have := E.hs
      rcases Nat.mul_eq_zero.1 (show m * size = 0 from hl.symm) with h | h
      · exact h
      · omega
    subst hm
    refine ⟨v, w, ?_, by simpa using hown, World.grownBy.refl w _, .inl rfl⟩
    rcases hown.2 with ⟨rfl, rfl⟩ | ⟨g, cap, cur, rfl, _, _, hnc, _⟩
    · simp [Builtin.append_, run_underlying E.ht, sizeOf, typeInfo, hi, Builtin.lenOf, Builtin.firstCells]
    · simp [Builtin.append_, run_underlying E.ht, sizeOf, typeInfo, hi, Builtin.lenOf, Builtin.firstCells, hnc, storeCells]
/-- 'append' onto a row of the call's own, at the operation. -/
theorem wpList_app {P : Program} {ops : Array Oper} {rest : List Oper} {o : Oper} {a : Act} {Q : Exit → Act → World → Prop} {w : World} {t e size bytes : Nat} (E : Elem P t e size bytes)
    {base : Nat} {v : Value} {n : Nat} {xs : List Value} {A : Option Addr} {m m' c : Nat} {news : List Value} (hown : w.ownsRow base e size v n xs) (hr : Cells w A news) (s x : Operand)
    (ho : o.op = .call { callee := .builtin .append, args := #[s, x], argTypes := #[t, t] }) (hgd : o.guard = none)
    (hs : a.eval s = v) (hx : a.eval x = .slice A m' c) (hm : m' = m) (hl : news.length = m * size) (h1 : ∀ u ∈ news, u.oneCell' = true) (hsz : n + m ≤ 4294967296) (hbase : base ≤ w.heap.size)
    (h : ∀ A1 c1 w', w'.ownsRow base e size (.slice A1 (n + m) c1) (n + m) (xs ++ news) → w.grownBy w' v.ownBlock → ((Value.slice A1 (n + m) c1).ownBlock = v.ownBlock ∨ (Value.slice A1 (n + m) c1).ownBlock = some w.heap.size) → wpList P ops Q rest (a.put o.dst (.slice A1 (n + m) c1)) w') : wpList P ops Q (o :: rest) a w :=
  wpList_plain hgd fun K hK => by
    subst hm
    obtain ⟨A1, c1, w', hrun, h2, h3, h4⟩ := run_app (P := P) E w o.type hown (c := c) hr hl h1 hsz hbase
    unfold Oper.wp execOp
    simp only [ho, resolve, invoke, builtin, Sem.run_bind, Sem.run_pure, Result.andThen_ok, List.map_toArray, List.map_cons, List.map_nil, hs, hx, hrun]
    exact hK _ _ (h A1 c1 w' h2 h3 h4)

/-- 'append' whose run is known. -/
theorem wpList_app_run {P : Program} {ops : Array Oper} {rest : List Oper} {o : Oper} {a : Act} {Q : Exit → Act → World → Prop} {w w' : World} {t ty : TypeId} {v u r : Value} (hrun : (Builtin.append_ #[t, t] ty #[v, u]).run P w = .ok r w') (s x : Operand)
    (ho : o.op = .call { callee := .builtin .append, args := #[s, x], argTypes := #[t, t] }) (hty : o.type = ty) (hgd : o.guard = none) (hs : a.eval s = v) (hx : a.eval x = u) (h : wpList P ops Q rest (a.put o.dst r) w') : wpList P ops Q (o :: rest) a w :=
  wpList_plain hgd fun K hK => by
    subst hty
    unfold Oper.wp execOp
    simp only [ho, resolve, invoke, builtin, Sem.run_bind, Sem.run_pure, Result.andThen_ok, List.map_toArray, List.map_cons, List.map_nil, hs, hx, hrun]
    exact hK _ _ h
/-- 'append' of values that the statement has just laid in a new block. -/
theorem wpList_appN {P : Program} {ops : Array Oper} {rest : List Oper} {o : Oper} {a : Act} {Q : Exit → Act → World → Prop} {w0 : World} {us : List Value} {T : TypeId} {t e bytes : Nat} (E : Elem P t e 1 bytes)
    {base : Nat} {v : Value} {n : Nat} {xs : List Value} (hown : w0.ownsRow base e 1 v n xs) (s x : Operand)
    (ho : o.op = .call { callee := .builtin .append, args := #[s, x], argTypes := #[t, t] }) (hgd : o.guard = none)
    (hs : a.eval s = v) (hx : a.eval x = .slice (some ⟨w0.heap.size, 0, none⟩) us.length us.length) (h1 : ∀ u ∈ us, u.oneCell' = true) (hsz : n + us.length ≤ 4294967296) (hbase : base ≤ w0.heap.size)
    (h : ∀ A1 c1 w', w'.ownsRow base e 1 (.slice A1 (n + us.length) c1) (n + us.length) (xs ++ us) → w0.grownBy w' v.ownBlock → ((Value.slice A1 (n + us.length) c1).ownBlock = v.ownBlock ∨ (Value.slice A1 (n + us.length) c1).ownBlock = some (w0.heap.size + 1)) →
      wpList P ops Q rest (a.put o.dst (.slice A1 (n + us.length) c1)) w') :
    wpList P ops Q (o :: rest) a (w0.alloc (.cells us.toArray T)) := by
  refine wpList_app E (((Ext.refl w0).alloc _).owns hown) (A := some ⟨w0.heap.size, 0, none⟩) (news := us) (.inr ⟨w0.heap.size, 0, rfl, fun i u hu => ?_⟩) s x ho hgd hs hx rfl (by simp) h1 hsz (by simp; omega) fun A1 c1 w' h2 h3 h4 => ?_
  · rw [Nat.zero_add, cell_of_row _ _ _ _ _ _ (heap_alloc_new w0 _)]
    simpa using hu
  · refine h A1 c1 w' h2 ⟨h3.os, h3.tape, h3.output, Nat.le_trans (by simp) h3.size, fun k hk hne => (h3.block k (by simp; omega) hne).trans (Below.heap_alloc w0 _ k hk)⟩ ?_
    simpa using h4

theorem one_of {us : List Value} (h : us.all Value.oneCell' = true) : ∀ u ∈ us, u.oneCell' = true := fun u hu => List.all_eq_true.1 h u hu
/-- A byte as a value. -/
def B8 (c : UInt8) : Value := .int .u8 c.toNat
/-- The bytes l lie at A. -/
def Bs (w : World) (A : Option Addr) (l : List UInt8) : Prop := Cells w A (l.map B8)
theorem Bs.ext {w w1 : World} {A : Option Addr} {l : List UInt8} (h : Bs w A l) (he : Ext w w1) : Bs w1 A l := Cells.ext h he
theorem Bs.at_ {w : World} {A : Option Addr} {l : List UInt8} (h : Bs w A l) (hne : 0 < l.length) :
    ∃ g o, A = some ⟨g, o, none⟩ ∧ ∀ i (hi : i < l.length), w.cell? ⟨g, o + i, none⟩ = some (.int .u8 (l[i].toNat : Int)) := by
  obtain ⟨g, o, hA, hc⟩ := Cells.at_ h (by simpa using hne)
  exact ⟨g, o, hA, fun i hi => hc i _ (by simp [hi, B8])⟩
theorem run_arrayAt {P : Program} {t e n : Nat} (ht : P.underlying t = some (.array n e)) (a : Option Addr) (len cap : Nat) (h : n ≤ len) (W : World) : (Instr.arrayAt t (.slice a len cap)).run P W = .ok (.pointer a) W := by
  simp only [Instr.arrayAt, Sem.run_bind, run_underlying ht, Result.andThen_ok]
  rw [if_neg (by omega)]
  rfl
theorem run_min2 {P : Program} (ts : Array TypeId) (ty : TypeId) {x y m : Int} (hm : m = min x y) (W : World) : (Builtin.min_ ts ty #[.int .i64 x, .int .i64 y]).run P W = .ok (.int .i64 m) W := by
  simp only [Builtin.min_, List.foldlM, Builtin.min2, Sem.run_bind, Sem.run_pure, Result.andThen_ok]
  subst hm
  congr 2
  split <;> omega
theorem Bs.below {w w1 : World} {B : Nat} {A : Option Addr} {l : List UInt8} (h : Bs w A l) (hb : Below B w w1) (hA : ∀ a, A = some a → a.block < B) : Bs w1 A l := Cells.below h hb hA
theorem Bs.cut {w : World} {g o : Nat} {l : List UInt8} (h : Bs w (some ⟨g, o, none⟩) l) (f k : Nat) : Cells w (some ⟨g, o + f, none⟩) (((l.drop f).take k).map B8) := by
  rcases h with h | ⟨g', o', hA, hc⟩
  · have : l = [] := by simpa using h
    subst this
    exact .inl (by simp)
  · cases hA
    refine .inr ⟨g, o + f, rfl, fun i v hv => ?_⟩
    rw [Nat.add_assoc]
    refine hc (f + i) v ?_
    rw [List.getElem?_map] at hv ⊢
    rw [List.getElem?_take] at hv
    split at hv
    · rw [List.getElem?_drop] at hv; exact hv
    · simp at hv
theorem byte_eq {a b : UInt8} (h : ((a.toNat : Int) == (b.toNat : Int)) = true) : a = b := by
  rw [beq_iff_eq] at h
  exact UInt8.toNat_inj.1 (by omega)
theorem byte_ne {a b : UInt8} (h : ((a.toNat : Int) == (b.toNat : Int)) = false) : a ≠ b := by
  rintro rfl
  simp at h
theorem bytes_one (l : List UInt8) : ∀ u ∈ l.map B8, u.oneCell' = true := by
  intro u hu
  obtain ⟨_, _, rfl⟩ := List.mem_map.1 hu
  rfl
theorem ret_bool {a b : Bool} (h : a = b) : Ending.returned (.bool a) = .returned (.bool b) := by rw [h]
theorem ret_int {k : IntKind} {a b : Int} (h : a = b) : Ending.returned (.int k a) = .returned (.int k b) := by rw [h]
end Go.Proofs.Ytohphanbnhiodaa

/- Names of logs, plainly. -/
namespace Go.Proofs.Ytohphanbnhiodaa
open Go.RowKit

def preW : List UInt8 := [108, 111, 103, 45]
def digs : Nat → Nat → List UInt8
  | 0, _ => []
  | k + 1, n => UInt8.ofNat (48 + n / 10 ^ k % 10) :: digs k n
/-- The name of a log's file. -/
def nameW (n : Nat) : List UInt8 := preW ++ digs 8 n
/-- The name when k digits are written. -/
def midW (k n : Nat) : List UInt8 := (preW ++ List.replicate (8 - k) 48) ++ digs k n
theorem digs_len : ∀ (k n : Nat), (digs k n).length = k
  | 0, _ => rfl
  | k + 1, n => by rw [digs, List.length_cons, digs_len k n]
theorem nameW_len (n : Nat) : (nameW n).length = 12 := by
  unfold nameW
  rw [List.length_append, digs_len]
  rfl
theorem midW_len {k : Nat} (n : Nat) (hk : k ≤ 8) : (midW k n).length = 12 := by
  unfold midW
  rw [List.length_append, List.length_append, digs_len, List.length_replicate, show preW.length = 4 from rfl]
  omega
theorem midW_zero (n : Nat) : midW 0 n = [108, 111, 103, 45, 48, 48, 48, 48, 48, 48, 48, 48] := rfl
theorem midW_set {k : Nat} (n : Nat) (hk : k < 8) : (midW k n).set (11 - k) (UInt8.ofNat (48 + n / 10 ^ k % 10)) = midW (k + 1) n := by
  unfold midW
  have h1 : List.replicate (8 - k) (48 : UInt8) = List.replicate (8 - (k + 1)) 48 ++ [48] := by
    rw [show 8 - k = (8 - (k + 1)) + 1 by omega, List.replicate_succ']
  have hl : (preW ++ List.replicate (8 - (k + 1)) (48 : UInt8)).length = 11 - k := by
    rw [List.length_append, List.length_replicate, show preW.length = 4 from rfl]
    omega
  rw [h1, ← List.append_assoc, List.append_assoc _ [48] (digs k n), ← hl, List.set_append_right _ _ (Nat.le_refl _), Nat.sub_self]
  rfl
theorem digs_zero (k n : Nat) (h : n / 10 ^ k = 0) : ∀ j : Nat, digs (k + j) n = List.replicate j 48 ++ digs k n
  | 0 => rfl
  | j + 1 => by
    rw [show k + (j + 1) = (k + j) + 1 by omega, digs, digs_zero k n h j, Nat.pow_add, ← Nat.div_div_eq_div_mul, h, Nat.zero_div]
    rfl
theorem midW_end {k n : Nat} (hk : k ≤ 8) (h : n / 10 ^ k = 0) : midW k n = nameW n := by
  unfold midW nameW
  have h1 := digs_zero k n h (8 - k)
  rw [show k + (8 - k) = 8 by omega] at h1
  rw [h1, List.append_assoc]
def numD : List UInt8 → Nat → Option Nat
  | [], n => some n
  | c :: l, n => if c.toNat < 48 ∨ 57 < c.toNat then none else numD l (10 * n + (c.toNat - 48))
/-- The number of a log's file. -/
def numW (l : List UInt8) : Option Nat := if l.length = 12 ∧ l.take 4 = preW then numD (l.drop 4) 0 else none
theorem numD_digs : ∀ (k n a : Nat), numD (digs k n) a = some (a * 10 ^ k + n % 10 ^ k)
  | 0, n, a => by
    unfold digs numD
    rw [Nat.pow_zero, Nat.mul_one, Nat.mod_one, Nat.add_zero]
  | k + 1, n, a => by
    have hd : n / 10 ^ k % 10 < 10 := Nat.mod_lt _ (by omega)
    have ht : (UInt8.ofNat (48 + n / 10 ^ k % 10)).toNat = 48 + n / 10 ^ k % 10 := by
      rw [UInt8.toNat_ofNat', Nat.mod_eq_of_lt (by omega)]
    have hm : n % 10 ^ (k + 1) = n % 10 ^ k + 10 ^ k * (n / 10 ^ k % 10) := by rw [Nat.pow_succ, Nat.mod_mul]
    rw [digs, numD, ht, if_neg (by omega), numD_digs k n, hm, Nat.pow_succ]
    congr 1
    rw [show 48 + n / 10 ^ k % 10 - 48 = n / 10 ^ k % 10 by omega, Nat.add_mul, Nat.mul_comm (n / 10 ^ k % 10), Nat.mul_comm 10 a, Nat.mul_assoc, Nat.mul_comm 10]
    omega
theorem numW_name {n : Nat} (h : n < 100000000) : numW (nameW n) = some n := by
  unfold numW
  rw [if_pos ⟨nameW_len n, rfl⟩]
  show numD (digs 8 n) 0 = _
  rw [numD_digs]
  congr 1
  rw [Nat.zero_mul, Nat.zero_add, Nat.mod_eq_of_lt h]
theorem numD_lt : ∀ (l : List UInt8) (a n : Nat), numD l a = some n → n < (a + 1) * 10 ^ l.length
  | [], a, n, h => by
    unfold numD at h
    injection h with h
    simp
    omega
  | c :: l, a, n, h => by
    unfold numD at h
    split at h
    · cases h
    · rename_i hc
      have h1 := numD_lt l _ n h
      rw [List.length_cons, Nat.pow_succ, Nat.mul_comm (10 ^ l.length), ← Nat.mul_assoc]
      exact Nat.lt_of_lt_of_le h1 (Nat.mul_le_mul_right _ (by omega))
theorem numW_lt {l : List UInt8} {n : Nat} (h : numW l = some n) : n < 100000000 := by
  unfold numW at h
  split at h
  · rename_i hl
    have h1 := numD_lt _ _ _ h
    rw [List.length_drop, hl.1] at h1
    omega
  · cases h
end Go.Proofs.Ytohphanbnhiodaa

/- Rows of one-cell elements that may be longer than their slice's capacity (behind x[:n:n]), and what append makes of them. -/
namespace Go.Proofs.Ytohphanbnhiodaa
open Go.RowKit

/-- The slice (A, n, c) holds xs in a row from block base on, at its beginning; the row may be longer. -/
def Buf (w : World) (base : Nat) (e : TypeId) (A : Option Addr) (n c : Nat) (xs : List Value) : Prop :=
  xs.length = n ∧ n ≤ c ∧ ((A = none ∧ c = 0) ∨ ∃ g cur, A = some ⟨g, 0, none⟩ ∧ base ≤ g ∧ Row w g e cur ∧ c ≤ cur.size ∧ cur.toList.take n = xs)
section
variable {w w1 : World} {base : Nat} {e : TypeId} {A : Option Addr} {n c : Nat} {xs : List Value}
theorem Buf.nil (w : World) (base : Nat) (e : TypeId) : Buf w base e none 0 0 [] := ⟨rfl, Nat.le_refl _, .inl ⟨rfl, rfl⟩⟩
theorem Buf.of_own (h : w.ownsRow base e 1 (.slice A n c) n xs) : Buf w base e A n c xs := by
  obtain ⟨h1, h2⟩ := h
  rcases h2 with ⟨hv, rfl⟩ | ⟨g, cap, cur, hv, hb, hg, hn, _, hs, ht⟩
  · cases hv
    exact ⟨by simpa using h1, Nat.le_refl _, .inl ⟨rfl, rfl⟩⟩
  · cases hv
    exact ⟨by simpa using h1, hn, .inr ⟨g, cur, rfl, hb, hg, by omega, by simpa using ht⟩⟩
theorem Buf.cells (h : Buf w base e A n c xs) : Cells w A xs := by
  obtain ⟨h1, h2, h3⟩ := h
  rcases h3 with ⟨rfl, rfl⟩ | ⟨g, cur, rfl, hb, hg, hs, ht⟩
  · exact .inl (List.eq_nil_of_length_eq_zero (by omega))
  · refine .inr ⟨g, 0, rfl, fun i v hv => ?_⟩
    rw [Nat.zero_add, cell_of_row w g i cur e (0, 0) hg]
    rw [← ht, List.getElem?_take] at hv
    split at hv
    · simpa using hv
    · cases hv
theorem Buf.keep (h : Buf w base e A n c xs) (hk : ∀ g, A = some ⟨g, 0, none⟩ → w1.heap[g]? = w.heap[g]?) : Buf w1 base e A n c xs := by
  obtain ⟨h1, h2, h3⟩ := h
  refine ⟨h1, h2, ?_⟩
  rcases h3 with h3 | ⟨g, cur, hA, hb, hg, r⟩
  · exact .inl h3
  · exact .inr ⟨g, cur, hA, hb, hg.keep (hk g hA), r⟩
theorem Buf.lt (h : Buf w base e A n c xs) : ∀ a, A = some a → a.block < w.heap.size := by
  rintro a rfl
  obtain ⟨_, _, h3⟩ := h
  rcases h3 with ⟨h3, _⟩ | ⟨g, cur, hA, hb, hg, r⟩
  · cases h3
  · cases hA
    exact hg.lt
theorem Buf.base_le (h : Buf w base e A n c xs) : ∀ a, A = some a → base ≤ a.block := by
  rintro a rfl
  obtain ⟨_, _, h3⟩ := h
  rcases h3 with ⟨h3, _⟩ | ⟨g, cur, hA, hb, hg, r⟩
  · cases h3
  · cases hA
    exact hb
theorem Buf.chg {S : Nat → Prop} (h : Buf w base e A n c xs) (hc : Chg S w w1) (hn : ∀ a, A = some a → ¬ S a.block) : Buf w1 base e A n c xs :=
  h.keep fun g hA => hc.block g (h.lt _ hA) (hn _ hA)
theorem Buf.grown {row : Option Nat} (h : Buf w base e A n c xs) (hg : w.grownBy w1 row) (hne : ∀ a, A = some a → row ≠ some a.block) : Buf w1 base e A n c xs :=
  h.keep fun g hA => hg.block g (h.lt _ hA) (fun e => hne _ hA e.symm)
theorem Buf.ext (h : Buf w base e A n c xs) (he : Ext w w1) : Buf w1 base e A n c xs := h.keep fun g hA => Below.block he g (h.lt _ hA)
theorem Buf.alloc (h : Buf w base e A n c xs) (o : Obj) : Buf (w.alloc o) base e A n c xs := h.ext ((Ext.refl w).alloc o)
theorem Buf.drew (h : Buf w base e A n c xs) : Buf w.drew base e A n c xs := h.keep fun _ _ => rfl
theorem Buf.setCell (h : Buf w base e A n c xs) {p : Addr} (hp : ∀ a, A = some a → a.block ≠ p.block) (u : Value) : Buf (w.setCell p u) base e A n c xs :=
  h.keep fun g hA => Below.heap_setCell w p u g (hp _ hA)
theorem Buf.unlike (h : Buf w base e A n c xs) {g : Nat} {t : TypeId} {cs : Array Value} (hr : Row w g t cs) (hne : e ≠ t) : ∀ a, A = some a → a.block ≠ g := by
  rintro a rfl
  obtain ⟨_, _, h3⟩ := h
  rcases h3 with ⟨h3, _⟩ | ⟨k, cur, hA, hb, hg, r⟩
  · cases h3
  · cases hA
    exact hg.unlike hr hne
/-- x[:m:m] -/
theorem Buf.cut (h : Buf w base e A n c xs) {m k : Nat} (hm : m ≤ n) (hk : m ≤ k) (hkc : k ≤ c) : Buf w base e A m k (xs.take m) := by
  obtain ⟨h1, h2, h3⟩ := h
  refine ⟨by rw [List.length_take]; omega, hk, ?_⟩
  rcases h3 with ⟨hA, h3⟩ | ⟨g, cur, hA, hb, hg, hs, ht⟩
  · exact .inl ⟨hA, by omega⟩
  · refine .inr ⟨g, cur, hA, hb, hg, by omega, ?_⟩
    rw [← ht, List.take_take, Nat.min_eq_left hm]
theorem Buf.lower (h : Buf w base e A n c xs) {b : Nat} (hb : b ≤ base) : Buf w b e A n c xs := by
  obtain ⟨h1, h2, h3⟩ := h
  refine ⟨h1, h2, ?_⟩
  rcases h3 with h3 | ⟨g, cur, hA, hb', r⟩
  · exact .inl h3
  · exact .inr ⟨g, cur, hA, by omega, r⟩
end
theorem grown_setRow (w : World) (g : Nat) (cs : Array Value) : w.grownBy (w.setRow g cs) (some g) :=
  ⟨rfl, rfl, rfl, by simp [World.setRow], fun k _ hne => setRow_other w g k cs (fun e => hne (by rw [e]))⟩
theorem run_buf {P : Program} {t e bytes : Nat} (E : Elem P t e 1 bytes) (w : World) (ty : TypeId) {base : Nat} {A : Option Addr} {n c : Nat} {xs : List Value} (hb : Buf w base e A n c xs)
    {B : Option Addr} {m c' : Nat} {news : List Value} (hr : Cells w B news) (hl : news.length = m) (h1 : ∀ u ∈ news, u.oneCell' = true) (hsz : n + m ≤ 4294967296) (hbase : base ≤ w.heap.size) :
    ∃ A1 c1 w', (Builtin.append_ #[t, t] ty #[.slice A n c, .slice B m c']).run P w = .ok (.slice A1 (n + m) c1) w' ∧ Buf w' base e A1 (n + m) c1 (xs ++ news) ∧ w.grownBy w' (Value.slice A n c).ownBlock ∧
      (A1 = A ∨ A1 = some ⟨w.heap.size, 0, none⟩) := by
  obtain ⟨i, z, hi, hz, h3, h4, h5⟩ := E.hi
  have hbytes : (n + m) * bytes ≤ 4398046511104 := Nat.le_trans (Nat.mul_le_mul hsz E.hb) (by omega)
  obtain ⟨hx, hnc, hA⟩ := hb
  rcases hA with ⟨rfl, rfl⟩ | ⟨g, cur, rfl, hbg, hg, hs, ht⟩
  · obtain rfl : n = 0 := by omega
    obtain rfl : xs = [] := List.eq_nil_of_length_eq_zero hx
    obtain ⟨A1, c1, w', hrun, ho, hgr, hloc⟩ := run_app E w ty (base := base) (v := .slice none 0 0) (n := 0) (xs := []) ⟨rfl, .inl ⟨rfl, rfl⟩⟩ (c := c') hr (by omega) h1 hsz hbase
    refine ⟨A1, c1, w', hrun, Buf.of_own ho, hgr, ?_⟩
    rcases ho.2 with ⟨hv, _⟩ | ⟨g, cap, cur, hv, _⟩
    · injection hv with hA1 _ _
      exact .inl hA1
    · injection hv with hA1 _ _
      subst hA1
      rcases hloc with hloc | hloc
      · simp [Value.ownBlock] at hloc
      · simp [Value.ownBlock] at hloc
        subst hloc
        exact .inr rfl
  · cases B with
    | none =>
      have hnil : news = [] := by
        rcases hr with hr | ⟨_, _, hB, _⟩
        · exact hr
        · cases hB
      subst hnil
      obtain rfl : m = 0 := by simpa using hl.symm
      refine ⟨some ⟨g, 0, none⟩, c, w, ?_, ⟨by simpa using hx, by omega, .inr ⟨g, cur, rfl, hbg, hg, hs, by simpa using ht⟩⟩, World.grownBy.refl w _, .inl rfl⟩
      simp [Builtin.append_, run_underlying E.ht, sizeOf, typeInfo, hi, Builtin.lenOf, Builtin.firstCells, hnc, storeCells]
    | some a =>
      have hc : ∀ j u, news[j]? = some u → w.cell? (a.add j) = some u := by
        intro j u hu
        rcases hr with hr | ⟨g', o', hB, hc⟩
        · subst hr; simp at hu
        · cases hB
          rw [Addr.add_lit]
          exact hc j u hu
      by_cases hroom : n + m ≤ c
      · refine ⟨some ⟨g, 0, none⟩, c, _, run_append_room w t ty e i E.ht hi g n c cur hg a m c' news (by rw [h3]; omega) hc h1 hroom (by rw [h3]; omega), ⟨by rw [List.length_append]; omega, hroom, .inr ⟨g, _, rfl, hbg, setRow_heap w g cur _ e (0, 0) hg, ?_, ?_⟩⟩, grown_setRow w g _, .inl rfl⟩
        · simp [h3]
          omega
        · have hxl : (List.take (n * i.size) cur.toList) = xs := by rw [h3, Nat.mul_one]; exact ht
          simp only [hxl]
          rw [List.take_append_of_le_length (by rw [List.length_append]; omega), List.take_of_length_le (by rw [List.length_append]; omega)]
      · have hb2 := nextslicecap_le (need := n + m) (old := c) (by omega)
        have hb3 : Builtin.nextslicecap (n + m) c * bytes ≤ 2 * (n + m) * bytes := Nat.mul_le_mul_right _ hb2
        have hb4 : 2 * (n + m) * bytes = 2 * ((n + m) * bytes) := Nat.mul_assoc _ _ _
        have hge := grownCap_ge w (n + m) c e
        have holds : ∀ (j : Nat) (v : Value), xs[j]? = some v → w.cell? (Addr.add ⟨g, 0, none⟩ j) = some v := by
          intro j v hv
          rw [Addr.add_lit, Nat.zero_add, cell_of_row w g j cur e (0, 0) hg]
          rw [← ht, List.getElem?_take] at hv
          split at hv
          · simpa using hv
          · cases hv
        refine ⟨some ⟨w.heap.size, 0, none⟩, grownCap w (n + m) c e, _, run_append_grow w t ty e i z E.ht hi hz ⟨g, 0, none⟩ n c xs (by rw [h3]; omega) holds a m c' news (by rw [h3]; omega) hc (by omega) (by omega) (by rw [h4]; omega), ⟨by rw [List.length_append]; omega, hge, .inr ⟨w.heap.size, _, rfl, hbase, heap_alloc_new w.drew _, ?_, ?_⟩⟩, ?_, .inr rfl⟩
        · simp only [Array.size_append, List.size_toArray, size_zeroCells, h5]
          omega
        · simp only [Array.toList_append]
          rw [List.take_append_of_le_length (by rw [List.length_append]; omega), List.take_of_length_le (by rw [List.length_append]; omega)]
        · exact (Ext.refl w |>.drew.alloc _) |> fun h => ⟨Below.os h, Below.tape h, Below.output h, Below.size h, fun k hk _ => Below.block h k hk⟩
end Go.Proofs.Ytohphanbnhiodaa

/- Bytes: what a clone, a part, a string of them is. -/
namespace Go.Proofs.Ytohphanbnhiodaa
open Go.RowKit

theorem follows : Try.prog.follows .mixedOrders = true := by kernel_rfl
theorem modify_push {α : Type} (h : Array α) (x : α) (f : α → α) : (h.push x).modify h.size f = h.push (f x) := by
  apply Array.ext
  · simp
  · intro i h1 h2
    simp only [Array.getElem_modify, Array.getElem_push]
    simp only [Array.size_push] at h2
    split
    · rename_i he
      subst he
      rw [dif_neg (by omega), dif_neg (by omega)]
    · rename_i he
      rw [dif_pos (by omega), dif_pos (by omega)]
theorem freeze_new (w : World) (cs : Array Value) (t : TypeId) (n : Nat) : (w.alloc (.cells cs t)).freeze ⟨w.heap.size, n, none⟩ 1 = w.alloc (.cells cs t (n, n + 1)) := by
  unfold World.freeze World.alloc
  rw [if_neg (by omega)]
  simp only [modify_push]
  rfl
/-- Bytes that were laid and marked. -/
theorem marked_bytes (w : World) (l : List UInt8) (t : TypeId) (f : Nat × Nat) : Bs (w.alloc (.cells (l.map B8).toArray t f)) (some ⟨w.heap.size, 0, none⟩) l :=
  .inr ⟨w.heap.size, 0, rfl, fun i v hv => by
    rw [Nat.zero_add, cell_of_row _ _ _ _ _ _ (heap_alloc_new w _)]
    simpa using hv⟩
set_option maxRecDepth 100000 in
theorem elemB : Elem Try.prog 31 5 1 1 := ⟨Try.underlying31, ⟨_, _, rfl, rfl, rfl, rfl, rfl⟩, by omega, by omega⟩
set_option maxRecDepth 100000 in
theorem nil_eq (w : World) : (binOp .eql 31 (.slice none 0 0) (.slice none 0 0)).run Try.prog w = .ok (.bool true) w := by kernel_rfl
set_option maxRecDepth 100000 in
theorem nil_ne (a : Addr) (n c : Nat) (w : World) : (binOp .eql 31 (.slice (some a) n c) (.slice none 0 0)).run Try.prog w = .ok (.bool false) w := by kernel_rfl
theorem ret_slice {A : Option Addr} {n m c : Nat} (h : n = m) : Ending.returned (.slice A n c) = .returned (.slice A m c) := by rw [h]
theorem own_empty (w : World) (t : TypeId) : (w.alloc (.cells #[] t)).ownsRow w.heap.size t 1 (.slice (some ⟨w.heap.size, 0, none⟩) 0 0) 0 [] :=
  ⟨rfl, .inr ⟨w.heap.size, 0, #[], rfl, Nat.le_refl _, heap_alloc_new w _, Nat.le_refl _, by unfold maxLen; omega, rfl, rfl⟩⟩
/-- x[fr:fr+k] -/
theorem run_sub {t e n c fr k : Nat} {A : Option Addr} (ht : Try.prog.underlying t = some (.slice e)) (hs : ∀ W : World, (sizeOf e).run Try.prog W = .ok 1 W) (h : fr + k ≤ n) (hc : n ≤ c) (hA : A = none → c = 0) (hp : ∀ a, A = some a → a.spot = none) :
    ∃ A' c', (∀ W : World, (Instr.sliceAt t (.slice A n c) (some (.int .i64 fr)) (some (.int .i64 ((fr : Int) + k))) none).run Try.prog W = .ok (.slice A' k c') W) ∧ (∀ (w : World) (xs : List Value), xs.length = n → Cells w A xs → Cells w A' ((xs.drop fr).take k)) ∧ (A' = none → c' = 0) ∧ (∀ a', A' = some a' → ∃ a, A = some a ∧ a'.block = a.block) ∧ k ≤ c' := by
  have he : Try.prog.elem t = e := by unfold Program.elem; rw [ht]
  have hrun : ∀ W : World, (Instr.sliceAt t (.slice A n c) (some (.int .i64 fr)) (some (.int .i64 ((fr : Int) + k))) none).run Try.prog W = .ok (sliced A fr (fr + k) c 1) W := by
    intro W
    rw [run_sliceAt_slice W t _ _ _ _ (by rw [ht, he]), run_slice_lh W t A n c (by rw [ht, he]) .i64 .i64 fr ((fr : Int) + k) (by omega) (by omega) (by omega), he, hs]
    simp only [Result.andThen_ok]
    congr 1
  unfold sliced at hrun
  rw [Nat.add_sub_cancel_left] at hrun
  refine ⟨_, c - fr, hrun, ?_, ?_, ?_, by omega⟩
  · intro w xs hx hcl
    rcases hcl with hcl | ⟨g, o, hg, hcl⟩
    · subst hcl
      exact .inl (by simp)
    · subst hg
      by_cases hcf : c = fr
      · rw [if_pos hcf]
        have h0 : k = 0 := by omega
        subst h0
        exact .inl (by simp)
      · rw [if_neg hcf]
        refine .inr ⟨g, o + fr, by simp [Addr.add, Nat.mul_one], fun i v hv => ?_⟩
        rw [List.getElem?_take] at hv
        split at hv
        · rw [List.getElem?_drop] at hv
          rw [Nat.add_assoc]
          exact hcl _ _ hv
        · cases hv
  · intro hn
    cases A with
    | none => have := hA rfl; omega
    | some a =>
      split at hn
      · cases hn
      · cases hn
  · intro a' ha
    cases A with
    | none =>
      split at ha
      · cases ha
      · cases ha
    | some a =>
      refine ⟨a, rfl, ?_⟩
      split at ha
      · cases ha; rfl
      · cases ha
        obtain ⟨b, o, sp⟩ := a
        obtain rfl : sp = none := hp _ rfl
        show (Addr.add ⟨b, o, none⟩ (fr * 1)).block = b
        rw [Addr.add_lit]
set_option maxRecDepth 100000 in
theorem run_same (w : World) (cs : Array Value) (n c : Nat) : (convert 31 31 (.slice (some ⟨w.heap.size, 0, none⟩) n c)).run Try.prog (w.alloc (.cells cs 5)) = .ok (.slice (some ⟨w.heap.size, 0, none⟩) n c) (w.alloc (.cells cs 5 (cs.size, cs.size + 1))) := by
  have hs : (w.alloc (.cells cs 5)).shape? w.heap.size = some (5, cs.size) := by
    unfold World.shape?
    rw [heap_alloc_new w _]
  unfold convert
  simp only [Sem.run_bind, run_underlying Try.underlying31, Result.andThen_ok]
  show Sem.run _ (do
      let __do_lift ← underlying 5
      match (31 : TypeId) == 31, __do_lift with
        | true, TypeDesc.int IntKind.u8 => do
          markStringish ⟨w.heap.size, 0, none⟩
          pure (Value.slice (some ⟨w.heap.size, 0, none⟩) n c)
        | x, x_1 => unsupported (Unsupported.noEntry "convert/other")) _ = _
  simp only [Sem.run_bind, run_underlying Try.underlying5, Result.andThen_ok]
  show Sem.run _ (do
          markStringish ⟨w.heap.size, 0, none⟩
          pure (Value.slice (some ⟨w.heap.size, 0, none⟩) n c)) _ = _
  unfold markStringish
  simp only [Sem.run_bind, run_shape, Result.andThen_ok, hs, run_freeze, freeze_new, Sem.run_pure]
set_option maxRecDepth 100000 in
theorem run_str {A : Option Addr} {l : List UInt8} {w : World} (h : Bs w A l) (n c : Nat) (hn : n = l.length) : (convert 31 9 (.slice A n c)).run Try.prog w = .ok (.string ⟨l.toArray⟩) w := by
  subst hn
  rcases Nat.eq_zero_or_pos l.length with h0 | h0
  · obtain rfl := List.eq_nil_of_length_eq_zero h0
    show (convert 31 9 (.slice A 0 c)).run Try.prog w = _
    rw [run_convert_bytes_string w 31 9 5 A 0 c Try.underlying31 Try.underlying5 Try.underlying9]
    cases A with
    | none => rfl
    | some a => exact run_bytesToString w a 0 c [] rfl
  · obtain ⟨g, o, rfl, hc⟩ := h.at_ h0
    have := run_convert_bytes_arg (P := Try.prog) w 31 5 Try.underlying31 Try.underlying5 g o l.length c (l.map fun x => (x.toNat : Int)) (by simp) (fun i hi => by rw [hc i hi]; simp [List.getD, hi]) 9 Try.underlying9
    rw [this]
    unfold strOfNums
    have e : (l.map fun x => (x.toNat : Int)).map (fun n => UInt8.ofNat n.toNat) = l := by
      rw [List.map_map]
      conv => rhs; rw [← List.map_id l]
      exact List.map_congr_left (fun x _ => by simp)
    rw [e]
/-- 'append' onto a row of the call's own, at the operation. -/
theorem wpList_buf {P : Program} {ops : Array Oper} {rest : List Oper} {o : Oper} {a : Act} {Q : Exit → Act → World → Prop} {w : World} {t e bytes : Nat} (E : Elem P t e 1 bytes)
    {base : Nat} {A B : Option Addr} {n c m m' c' : Nat} {xs news : List Value} (hb : Buf w base e A n c xs) (hr : Cells w B news) (s x : Operand)
    (ho : o.op = .call { callee := .builtin .append, args := #[s, x], argTypes := #[t, t] }) (hgd : o.guard = none)
    (hs : a.eval s = .slice A n c) (hx : a.eval x = .slice B m' c') (hm : m' = m) (hl : news.length = m) (h1 : ∀ u ∈ news, u.oneCell' = true) (hsz : n + m ≤ 4294967296) (hbase : base ≤ w.heap.size)
    (h : ∀ A1 c1 w', Buf w' base e A1 (n + m) c1 (xs ++ news) → w.grownBy w' (Value.slice A n c).ownBlock → (∀ w0, Ext w0 w → w0.heap.size ≤ base → Ext w0 w') → (A1 = A ∨ A1 = some ⟨w.heap.size, 0, none⟩) → wpList P ops Q rest (a.put o.dst (.slice A1 (n + m) c1)) w') : wpList P ops Q (o :: rest) a w :=
  wpList_plain hgd fun K hK => by
    subst hm
    obtain ⟨A1, c1, w', hrun, h2, h3, h4⟩ := run_buf (P := P) E w o.type hb (c' := c') hr hl h1 hsz hbase
    unfold Oper.wp execOp
    simp only [ho, resolve, invoke, builtin, Sem.run_bind, Sem.run_pure, Result.andThen_ok, List.map_toArray, List.map_cons, List.map_nil, hs, hx, hrun]
    refine hK _ _ (h A1 c1 w' h2 h3 (fun w0 hE hw => hE.grown h3 fun k hk => ?_) h4)
    have hbl := hb.base_le
    cases A with
    | none => simp [Value.ownBlock] at hk
    | some b =>
      have := hbl b rfl
      simp [Value.ownBlock] at hk
      omega
/-- 'append' of values that the statement has just laid in a new block. -/
theorem wpList_bufN {P : Program} {ops : Array Oper} {rest : List Oper} {o : Oper} {a : Act} {Q : Exit → Act → World → Prop} {w0 : World} {us : List Value} {T : TypeId} {t e bytes : Nat} (E : Elem P t e 1 bytes)
    {base : Nat} {A : Option Addr} {n c : Nat} {xs : List Value} (hb : Buf w0 base e A n c xs) (s x : Operand)
    (ho : o.op = .call { callee := .builtin .append, args := #[s, x], argTypes := #[t, t] }) (hgd : o.guard = none)
    (hs : a.eval s = .slice A n c) (hx : a.eval x = .slice (some ⟨w0.heap.size, 0, none⟩) us.length us.length) (h1 : ∀ u ∈ us, u.oneCell' = true) (hsz : n + us.length ≤ 4294967296) (hbase : base ≤ w0.heap.size)
    (h : ∀ A1 c1 w', Buf w' base e A1 (n + us.length) c1 (xs ++ us) → (∀ w00, Ext w00 w0 → w00.heap.size ≤ base → Ext w00 w') → wpList P ops Q rest (a.put o.dst (.slice A1 (n + us.length) c1)) w') :
    wpList P ops Q (o :: rest) a (w0.alloc (.cells us.toArray T)) := by
  refine wpList_buf E (hb.alloc _) (B := some ⟨w0.heap.size, 0, none⟩) (news := us) (.inr ⟨w0.heap.size, 0, rfl, fun i u hu => ?_⟩) s x ho hgd hs hx rfl rfl h1 hsz (by simp; omega) fun A1 c1 w' h2 _ h3 _ => h A1 c1 w' h2 fun w00 hE hle => h3 w00 (hE.alloc _) hle
  rw [Nat.zero_add, cell_of_row _ _ _ _ _ _ (heap_alloc_new w0 _)]
  simpa using hu
theorem Buf.none_cap {w : World} {base : Nat} {e : TypeId} {A : Option Addr} {n c : Nat} {xs : List Value} (h : Buf w base e A n c xs) (hA : A = none) : c = 0 := by
  rcases h.2.2 with ⟨_, h⟩ | ⟨g, _, h, _⟩
  · exact h
  · rw [h] at hA; cases hA
/-- New bytes. -/
def NewB (w : World) (l : List UInt8) (e : Ending) (w' : World) : Prop := ∃ A c, e = .returned (.slice A l.length c) ∧ Buf w' w.heap.size 5 A l.length c (l.map B8) ∧ Ext w w'
end Go.Proofs.Ytohphanbnhiodaa

/- slices.Clone of bytes. -/
namespace Go.Proofs.Ytohphanbnhiodaa
open Go.RowKit Go.Maps

set_option maxRecDepth 100000 in
theorem clone_any (A : Option Addr) (n c : Nat) (l : List UInt8) (w : World) (hn : n = l.length) (hl : Bs w A l) (hz : A = none → c = 0) (hle : n ≤ 1073741824) :
    Calls Try.prog 46 #[.slice A n c] w fun e w' => ∃ A1 c1, e = .returned (.slice A1 n c1) ∧ Buf w' w.heap.size 5 A1 n c1 (l.map B8) ∧ Ext w w' := by
  cases A with
  | none =>
    have h0 : l = [] := by
      rcases hl with h | ⟨_, _, h, _⟩
      · simpa using h
      · cases h
    subst h0
    obtain rfl : c = 0 := hz rfl
    obtain rfl : n = 0 := hn
    have hq := nil_eq w
    go_enter Try.func46, Try.ntmps46
    go_wp2_with fail
    go_ret
    exact ⟨none, 0, rfl, Buf.nil _ _ _, Ext.refl _⟩
  | some a =>
    have hq := nil_ne a n c w
    have ho := own_empty w 5
    have hE0 : Ext w (w.alloc (.cells #[] 5)) := (Ext.refl w).alloc _
    have hb := hl.ext hE0
    have hln : (l.map B8).length = n * 1 := by rw [List.length_map, hn]; omega
    have hsz : w.heap.size ≤ (w.alloc (.cells #[] 5)).heap.size := hE0.size
    replace hln := hide hln
    replace hn := hide hn
    go_enter Try.func46, Try.ntmps46
    go_wp2_with (at_builtin; refine wpList_app (m := n) elemB ho hb (.tmp 5) (.tmp 6) rfl rfl rfl rfl rfl hln.out (bytes_one _) (by omega) hsz (fun A1 c1 w3 ho3 hg3 hl3 => ?_))
    go_ret
    refine ⟨A1, c1, rfl, ?_, hE0.grown hg3 (fun k hk => by cases hk; exact Nat.le_refl _)⟩
    have := Buf.of_own ho3
    rw [Nat.zero_add] at this
    exact this
end Go.Proofs.Ytohphanbnhiodaa

/- Numbers in bytes, plainly: seven bits a byte, the lowest first. -/
namespace Go.Proofs.Ytohphanbnhiodaa

/-- A number's bytes. -/
def vb (n : Nat) : List UInt8 := if _h : n < 128 then [UInt8.ofNat n] else UInt8.ofNat (n % 128 + 128) :: vb (n / 128)
termination_by n
decreasing_by omega
theorem vb_lt {n : Nat} (h : n < 128) : vb n = [UInt8.ofNat n] := by rw [vb, dif_pos h]
theorem vb_ge {n : Nat} (h : ¬ n < 128) : vb n = UInt8.ofNat (n % 128 + 128) :: vb (n / 128) := by rw [vb, dif_neg h]
theorem vb_len : ∀ (k n : Nat), n < 128 ^ k → (vb n).length ≤ max k 1
  | 0, n, h => by
    have : n = 0 := by simpa using h
    subst this
    rw [vb_lt (by omega)]
    simp
  | k + 1, n, h => by
    by_cases hn : n < 128
    · rw [vb_lt hn]; simp
    · rw [vb_ge hn, List.length_cons]
      have ih := vb_len k (n / 128) (by rw [Nat.pow_succ] at h; omega)
      have : 1 ≤ k := by
        rcases Nat.eq_zero_or_pos k with rfl | hk
        · simp at h; omega
        · exact hk
      omega
theorem vb_len10 {n : Nat} (h : n < 18446744073709551616) : (vb n).length ≤ 10 := vb_len 10 n (by omega)
theorem vb_pos (n : Nat) : 1 ≤ (vb n).length := by
  by_cases hn : n < 128
  · rw [vb_lt hn]; simp
  · rw [vb_ge hn]; simp
/-- The number that bytes begin with, and what is left; or the error. i bytes have been read. -/
def getV (i : Nat) : List UInt8 → Except Nat (Nat × List UInt8)
  | [] => .error 6
  | x :: l => if 10 ≤ i then .error 6 else if (i = 9 ∧ 1 < x.toNat) ∨ (0 < i ∧ x.toNat = 0) then .error 20 else
    if x.toNat < 128 then .ok (x.toNat, l) else match getV (i + 1) l with
      | .ok (n, r) => .ok (x.toNat - 128 + 128 * n, r)
      | .error e => .error e
theorem getV_lt : ∀ (l : List UInt8) (i n : Nat) (r : List UInt8), getV i l = .ok (n, r) → i ≤ 9 ∧ n < 2 * 128 ^ (9 - i) ∧ ∃ p, l = p ++ r ∧ p ≠ []
  | [], i, n, r, h => by simp [getV] at h
  | x :: l, i, n, r, h => by
    unfold getV at h
    by_cases h10 : 10 ≤ i
    · rw [if_pos h10] at h; cases h
    rw [if_neg h10] at h
    by_cases hb : (i = 9 ∧ 1 < x.toNat) ∨ (0 < i ∧ x.toNat = 0)
    · rw [if_pos hb] at h; cases h
    rw [if_neg hb] at h
    have hx := x.toNat_lt
    by_cases h128 : x.toNat < 128
    · rw [if_pos h128] at h
      injection h with h
      injection h with h1 h2
      subst h1 h2
      refine ⟨by omega, ?_, [x], rfl, by simp⟩
      by_cases h9 : i = 9
      · subst h9
        simp only [Nat.sub_self, Nat.pow_zero]
        omega
      · have : 128 ^ 1 ≤ 128 ^ (9 - i) := Nat.pow_le_pow_right (by omega) (by omega)
        omega
    · rw [if_neg h128] at h
      split at h
      · rename_i m r' hg
        injection h with h
        injection h with h1 h2
        subst h1 h2
        obtain ⟨h3, h4, p, hp, _⟩ := getV_lt l (i + 1) m r' hg
        refine ⟨by omega, ?_, x :: p, by rw [hp]; rfl, by simp⟩
        have : 9 - i = (9 - (i + 1)) + 1 := by omega
        rw [this, Nat.pow_succ]
        omega
      · cases h
theorem getV_lt64 {l : List UInt8} {n : Nat} {r : List UInt8} (h : getV 0 l = .ok (n, r)) : n < 18446744073709551616 := by
  have := (getV_lt l 0 n r h).2.1
  omega
/-- What was put is got. -/
theorem getV_vb : ∀ (k i n : Nat) (r : List UInt8), k + i = 9 → n < 2 * 128 ^ k → (0 < i → 0 < n) → getV i (vb n ++ r) = .ok (n, r)
  | k, i, n, r, hk, hn, h0 => by
    by_cases h128 : n < 128
    · rw [vb_lt h128]
      have hx : (UInt8.ofNat n).toNat = n := by rw [UInt8.toNat_ofNat']; omega
      show getV i (UInt8.ofNat n :: r) = _
      unfold getV
      rw [if_neg (by omega), hx, if_neg, if_pos h128]
      rintro (⟨rfl, h1⟩ | ⟨h1, h2⟩)
      · obtain rfl : k = 0 := by omega
        simp at hn
        omega
      · have := h0 h1; omega
    · rw [vb_ge h128]
      have hx : (UInt8.ofNat (n % 128 + 128)).toNat = n % 128 + 128 := by rw [UInt8.toNat_ofNat']; omega
      show getV i (UInt8.ofNat (n % 128 + 128) :: (vb (n / 128) ++ r)) = _
      have hk0 : 1 ≤ k := by
        rcases Nat.eq_zero_or_pos k with rfl | h
        · simp at hn; omega
        · exact h
      obtain ⟨k, rfl⟩ : ∃ j, k = j + 1 := ⟨k - 1, by omega⟩
      have ih := getV_vb k (i + 1) (n / 128) r (by omega) (by rw [Nat.pow_succ] at hn; omega) (fun _ => by omega)
      unfold getV
      rw [if_neg (by omega), hx, if_neg (by omega), if_neg (by omega), ih]
      simp only
      rw [show n % 128 + 128 - 128 + 128 * (n / 128) = n by omega]
theorem getV_put {n : Nat} (h : n < 18446744073709551616) (r : List UInt8) : getV 0 (vb n ++ r) = .ok (n, r) := getV_vb 9 0 n r rfl (by omega) (by omega)
/-- Whole numbers, zigzag. -/
def zig (n : Int) : Nat := if 0 ≤ n then 2 * n.toNat else 2 * (-1 - n).toNat + 1
def unzig (u : Nat) : Int := if u % 2 = 0 then ((u / 2 : Nat) : Int) else -1 - ((u / 2 : Nat) : Int)
theorem unzig_zig (n : Int) : unzig (zig n) = n := by
  unfold unzig zig
  split <;> split <;> omega
theorem zig_lt {n : Int} (h1 : -9223372036854775808 ≤ n) (h2 : n ≤ 9223372036854775807) : zig n < 18446744073709551616 := by
  unfold zig
  split <;> omega
theorem unzig_ok {u : Nat} (h : u < 18446744073709551616) : -9223372036854775808 ≤ unzig u ∧ unzig u ≤ 9223372036854775807 := by
  unfold unzig
  split <;> omega
def vall (l : List Int) : List UInt8 := l.flatMap fun n => vb (zig n)
/-- So many whole numbers, and what is left. -/
def getAll : Nat → List UInt8 → Except Nat (List Int × List UInt8)
  | 0, l => .ok ([], l)
  | k + 1, l => match getV 0 l with
    | .error e => .error e
    | .ok (u, r) => match getAll k r with
      | .error e => .error e
      | .ok (ns, r') => .ok (unzig u :: ns, r')
theorem getAll_put : ∀ (ns : List Int) (r : List UInt8), (∀ n ∈ ns, -9223372036854775808 ≤ n ∧ n ≤ 9223372036854775807) → getAll ns.length (vall ns ++ r) = .ok (ns, r)
  | [], r, _ => rfl
  | n :: ns, r, h => by
    have hn := h n (List.mem_cons_self ..)
    have ih := getAll_put ns r fun m hm => h m (List.mem_cons_of_mem _ hm)
    show getAll (ns.length + 1) ((vb (zig n) ++ vall ns) ++ r) = _
    unfold getAll
    have e := getV_put (zig_lt hn.1 hn.2) (vall ns ++ r)
    rw [List.append_assoc, e]
    simp only [ih, unzig_zig]
theorem getAll_len : ∀ (k : Nat) (l : List UInt8) (ns : List Int) (r : List UInt8), getAll k l = .ok (ns, r) → ns.length = k ∧ (∀ n ∈ ns, -9223372036854775808 ≤ n ∧ n ≤ 9223372036854775807) ∧ ∃ p, l = p ++ r
  | 0, l, ns, r, h => by
    unfold getAll at h
    injection h with h
    injection h with h1 h2
    subst h1 h2
    exact ⟨rfl, nofun, [], rfl⟩
  | k + 1, l, ns, r, h => by
    unfold getAll at h
    split at h
    · cases h
    · rename_i u r1 hu
      split at h
      · cases h
      · rename_i ns1 r2 hr
        injection h with h
        injection h with h1 h2
        subst h1 h2
        obtain ⟨h3, h4, p2, h5⟩ := getAll_len k r1 ns1 r2 hr
        obtain ⟨_, _, p1, h6, _⟩ := getV_lt l 0 u r1 hu
        refine ⟨by rw [List.length_cons, h3], fun n hn => ?_, p1 ++ p2, by rw [h6, h5, List.append_assoc]⟩
        rcases List.mem_cons.1 hn with rfl | hn
        · exact unzig_ok (getV_lt64 hu)
        · exact h4 n hn
end Go.Proofs.Ytohphanbnhiodaa

/- loggia/varint: Put, PutInt, PutAll. -/
namespace Go.Proofs.Ytohphanbnhiodaa
open Go.RowKit

theorem vb_round {x m : Nat} {pre : List UInt8} (h : vb x = pre ++ vb m) (hm : 128 ≤ m) : vb x = (pre ++ [UInt8.ofNat (m % 128 + 128)]) ++ vb (m / 128) := by
  rw [h, vb_ge (by omega), List.append_assoc]
  rfl
theorem nat_not (k a : Nat) (h : a < 2 ^ k) : (2 ^ k - 1) ^^^ a = 2 ^ k - 1 - a := by
  apply Nat.eq_of_testBit_eq
  intro i
  rw [Nat.testBit_xor, Nat.testBit_two_pow_sub_one, show 2 ^ k - 1 - a = 2 ^ k - (a + 1) by omega, Nat.testBit_two_pow_sub_succ h]
  by_cases hi : i < k
  · simp [hi]
  · have : a.testBit i = false := Nat.testBit_lt_two_pow (Nat.lt_of_lt_of_le h (Nat.pow_le_pow_right (by omega) (by omega)))
    simp [hi, this]
theorem bits_not64 (a : Nat) (h : a < 18446744073709551616) : bits .xor .u64 IntKind.u64.max (a : Int) = ((18446744073709551615 - a : Nat) : Int) := by
  rw [show IntKind.u64.max = ((18446744073709551615 : Nat) : Int) from rfl, u64_xor_nat _ _ (by omega) h]
  exact congrArg _ (nat_not 64 a h)
theorem bits_not32 (a : Nat) (h : a < 4294967296) : bits .xor .u32 IntKind.u32.max (a : Int) = ((4294967295 - a : Nat) : Int) := by
  rw [show IntKind.u32.max = ((4294967295 : Nat) : Int) from rfl, u32_xor_nat _ _ (by omega) h]
  exact congrArg _ (nat_not 32 a h)
theorem wrap_neg (x : Int) (h : x < 0) (h2 : -9223372036854775808 ≤ x) : IntKind.u64.wrap (IntKind.u64.wrap x * 2) = ((18446744073709551615 - (2 * (-1 - x).toNat + 1) : Nat) : Int) := by
  have e : ∀ y : Int, IntKind.u64.wrap y = y % 18446744073709551616 := fun y => by simp [IntKind.wrap, IntKind.bits, IntKind.signed]
  rw [e, e]
  omega
theorem or_more (m : Nat) : bits .or .u8 ((m : Int) % 256) 128 = ((m % 128 + 128 : Nat) : Int) := by
  have h : ∀ k : Fin 256, k.val ||| 128 = k.val % 128 + 128 := by decide +kernel
  have hk := h ⟨m % 256, by omega⟩
  simp only at hk
  rw [show (m : Int) % 256 = ((m % 256 : Nat) : Int) by omega, show (128 : Int) = ((128 : Nat) : Int) from rfl, u8_or_nat _ _ (by omega) (by omega), hk]
  congr 1
  omega
theorem snoc_B8 (l : List UInt8) {k : Nat} (hk : k < 256) : (l ++ [UInt8.ofNat k]).map B8 = l.map B8 ++ [.int .u8 (k : Int)] := by
  rw [List.map_append, List.map_singleton]
  unfold B8
  rw [UInt8.toNat_ofNat', Nat.mod_eq_of_lt hk]
set_option maxRecDepth 100000 in
set_option maxHeartbeats 1000000 in
theorem put_any (A : Option Addr) (n c x : Nat) (l : List UInt8) (w : World) (hn : n = l.length) (hl : Bs w A l) (hz : A = none → c = 0) (hle : n ≤ 1000000000) (hx : x < 18446744073709551616) :
    Calls Try.prog 57 #[.slice A n c, .int .u64 x] w fun e w' => NewB w (l ++ vb x) e w' := by
  have hcl := clone_any A n c l w hn hl hz (by omega)
  have h10 := vb_len10 hx
  replace hcl := hide hcl
  replace hn := hide hn
  clear hl hz
  go_enter Try.func57, Try.ntmps57
  go_wp2_with fail
  refine hcl.out.mono ?_
  rintro e w1 ⟨A1, c1, rfl, hb1, hE1⟩
  go_wp2_with fail
  go_loopw [1, 5] (fun s1 s5 wr => ∃ (m : Nat) (pre : List UInt8) (A2 : Option Addr) (c2 : Nat), s1 = .int .u64 m ∧ s5 = .slice A2 (n + pre.length) c2 ∧ m < 18446744073709551616 ∧ pre.length ≤ 10 ∧ Hid (vb x = pre ++ vb m) ∧ Hid (Buf wr w.heap.size 5 A2 (n + pre.length) c2 ((l ++ pre).map B8)) ∧ Hid (Ext w wr)) (fun s1 _ _ => (intOf s1).toNat)
  case atStart => exact ⟨x, [], A1, c1, rfl, rfl, hx, by simp, rfl, by rw [List.append_nil]; exact hide hb1, hide hE1⟩
  case round =>
    obtain ⟨m, pre, A2, c2, rfl, rfl, hm, hp, hv, hb, hE⟩ := hrel
    have hsz := hE.out.size
    by_cases h128 : 128 ≤ m
    · have hor := or_more m
      go_wp2_with (at_builtin; refine wpList_bufN elemB hb.out (.tmp 10) (.tmp 14) rfl rfl rfl rfl (one_of rfl) (by simp; omega) hsz (fun A3 c3 w3 hb3 hE3 => ?_))
      go_roundw
      case rel => exact ⟨m / 128, pre ++ [UInt8.ofNat (m % 128 + 128)], A3, c3, by go_num, by rw [List.length_append]; rfl, by omega, (by
        have h1 := congrArg List.length (vb_round hv.out h128)
        have h2 := vb_pos (m / 128)
        rw [List.length_append, List.length_append, List.length_singleton] at h1
        rw [List.length_append, List.length_singleton]
        omega), hide (vb_round hv.out h128), hide (by rw [← List.append_assoc, snoc_B8 _ (by omega), List.length_append]; exact hb3), hide (hE3 w hE.out (Nat.le_refl _))⟩
      case measure => simp [intOf]; omega
    · go_wp2_with (at_builtin; refine wpList_bufN elemB hb.out (.tmp 18) (.tmp 21) rfl rfl rfl rfl (one_of rfl) (by simp; omega) hsz (fun A3 c3 w3 hb3 hE3 => ?_))
      go_ret
      have hl : l ++ vb x = (l ++ pre) ++ [UInt8.ofNat m] := by rw [hv.out, vb_lt (by omega), List.append_assoc]
      have hlen : (l ++ vb x).length = n + pre.length + 1 := by rw [hl, hn.out]; simp; omega
      exact ⟨A3, c3, by rw [hlen]; rfl, by rw [hlen, hl, snoc_B8 _ (by omega)]; exact hb3, hE3 w hE.out (Nat.le_refl _)⟩
set_option maxRecDepth 100000 in
set_option maxHeartbeats 1000000 in
theorem putInt_any (A : Option Addr) (n c : Nat) (x : Int) (l : List UInt8) (w : World) (hn : n = l.length) (hl : Bs w A l) (hz : A = none → c = 0) (hle : n ≤ 1000000000) (hx : -9223372036854775808 ≤ x) (hx2 : x ≤ 9223372036854775807) :
    Calls Try.prog 77 #[.slice A n c, .int .i64 x] w fun e w' => NewB w (l ++ vb (zig x)) e w' := by
  have hp := put_any A n c (zig x) l w hn hl hz hle (zig_lt hx hx2)
  have hzd : zig x = if 0 ≤ x then 2 * x.toNat else 2 * (-1 - x).toNat + 1 := rfl
  obtain ⟨Z, hZ⟩ : ∃ Z, Z = zig x := ⟨_, rfl⟩
  rw [← hZ] at hp hzd ⊢
  clear hZ hn hl hz
  replace hp := hide hp
  by_cases h0 : 0 ≤ x
  · rw [if_pos h0] at hzd
    replace hzd := hide hzd
    go_enter Try.func77, Try.ntmps77
    go_wp2_with fail
    rw [show (x * 2 : Int) = (Z : Int) by have := hzd.out; omega]
    refine hp.out.mono ?_
    rintro e w1 ⟨A1, c1, rfl, hb1, hE1⟩
    go_wp2_with fail
    go_ret
    exact ⟨A1, c1, ret_slice (by rw [List.length_append]), hb1, hE1⟩
  · rw [if_neg h0] at hzd
    have hx64 := zig_lt hx hx2
    unfold zig at hx64
    rw [if_neg h0] at hx64
    have hnot := bits_not64 (18446744073709551615 - (2 * (-1 - x).toNat + 1)) (by omega)
    rw [show 18446744073709551615 - (18446744073709551615 - (2 * (-1 - x).toNat + 1)) = 2 * (-1 - x).toNat + 1 by omega, ← wrap_neg x (by omega) hx, ← hzd] at hnot
    clear hx64
    replace hzd := hide hzd
    replace hnot := hide hnot
    go_enter Try.func77, Try.ntmps77
    go_wp2_with fail
    rw [hnot.out]
    refine hp.out.mono ?_
    rintro e w1 ⟨A1, c1, rfl, hb1, hE1⟩
    go_wp2_with fail
    go_ret
    exact ⟨A1, c1, ret_slice (by rw [List.length_append]), hb1, hE1⟩
theorem vall_take (xs : List Int) (hx : ∀ x ∈ xs, -9223372036854775808 ≤ x ∧ x ≤ 9223372036854775807) : ∀ i, (vall (xs.take i)).length ≤ 10 * i := by
  induction xs with
  | nil => intro i; simp [vall]
  | cons x xs ih =>
    intro i
    cases i with
    | zero => simp [vall]
    | succ i =>
      have h1 := ih (fun y hy => hx y (List.mem_cons_of_mem _ hy)) i
      have h2 := hx x (List.mem_cons_self ..)
      have h3 := vb_len10 (zig_lt h2.1 h2.2)
      unfold vall at h1 ⊢
      rw [List.take_succ_cons, List.flatMap_cons, List.length_append]
      omega
end Go.Proofs.Ytohphanbnhiodaa

/- loggiaref02: Bytes, Zigzag, Int, All. -/
namespace Go.Proofs.Ytohphanbnhiodaa
open Go.RowKit

theorem buf_new (w : World) (us : List Value) (t : TypeId) (h : us.length ≤ 9223372036854775807) : Buf (w.alloc (.cells us.toArray t)) w.heap.size t (some ⟨w.heap.size, 0, none⟩) us.length us.length us :=
  ⟨rfl, Nat.le_refl _, .inr ⟨w.heap.size, us.toArray, rfl, Nat.le_refl _, heap_alloc_new w _, by simp, by simp⟩⟩
theorem newB_one (w : World) {k : Nat} (hk : k < 256) : NewB w [UInt8.ofNat k] (.returned (.slice (some ⟨w.heap.size, 0, none⟩) 1 1)) (w.alloc (.cells #[.int .u8 (k : Int)] 5)) := by
  have h := snoc_B8 [] hk
  rw [List.nil_append] at h
  refine ⟨_, _, rfl, ?_, (Ext.refl w).alloc _⟩
  rw [h]
  exact buf_new w [.int .u8 (k : Int)] 5 (by simp)
end Go.Proofs.Ytohphanbnhiodaa

/- loggia/wal: Name; loggiaref15: Name. -/
namespace Go.Proofs.Ytohphanbnhiodaa
open Go.RowKit

/-- A row of bytes that was text in the program. -/
def RowM (w : World) (g : Nat) (cs : List Value) : Prop := w.heap[g]? = some (.cells cs.toArray 5 (cs.length, cs.length + 1))
theorem RowM.lt {w : World} {g : Nat} {cs : List Value} (h : RowM w g cs) : g < w.heap.size := (Array.getElem?_eq_some_iff.1 h).1
theorem RowM.cell {w : World} {g : Nat} {cs : List Value} (h : RowM w g cs) {i : Nat} {v : Value} (hv : cs[i]? = some v) : w.cell? ⟨g, i, none⟩ = some v := (cell_of_row w g i _ _ _ h).trans (by simpa using hv)
theorem RowM.free {w : World} {g : Nat} {cs : List Value} (h : RowM w g cs) {i : Nat} (hi : i < cs.length) : w.frozen? ⟨g, i, none⟩ = false := by
  simp [World.frozen?, show w.heap[g]? = some (.cells cs.toArray 5 (cs.length, cs.length + 1)) from h]
  omega
theorem RowM.put {w : World} {g : Nat} {cs : List Value} (h : RowM w g cs) (i : Nat) (v : Value) : RowM (w.setCell ⟨g, i, none⟩ v) g (cs.set i v) := by
  unfold RowM at h ⊢
  simp [World.setCell, Array.getElem?_modify, h]
theorem RowM.bs {w : World} {g : Nat} {l : List UInt8} (h : RowM w g (l.map B8)) : Bs w (some ⟨g, 0, none⟩) l := .inr ⟨g, 0, rfl, fun i v hv => by
  rw [Nat.zero_add]
  exact h.cell hv⟩
theorem RowM.new (w : World) (cs : List Value) : RowM (w.alloc (.cells cs.toArray 5 (cs.length, cs.length + 1))) w.heap.size cs := heap_alloc_new w _
set_option maxRecDepth 100000 in
set_option maxHeartbeats 4000000 in
theorem name_no (n : Int) (w : World) (h : n < 0 ∨ 99999999 < n) : Calls Try.prog 7 #[.int .i64 n] w fun e w' => e = .returned (.tuple #[.string ⟨#[]⟩, .int .i64 1]) ∧ w' = w := by
  by_cases h0 : n < 0
  · clear h
    go_enter Try.func7, Try.ntmps7
    go_wp2_with fail
    go_ret2
    exact ⟨rfl, rfl⟩
  · have h1 : 99999999 < n := by omega
    clear h
    go_enter Try.func7, Try.ntmps7
    go_wp2_with fail
    go_ret2
    exact ⟨rfl, rfl⟩
set_option maxRecDepth 100000 in
set_option maxHeartbeats 4000000 in
theorem name_yes (n : Nat) (w : World) (h : n ≤ 99999999) : Calls Try.prog 7 #[.int .i64 (n : Int)] w fun e w' => e = .returned (.tuple #[.string ⟨(nameW n).toArray⟩, .int .i64 0]) ∧ Ext w w' := by
  obtain ⟨Z, hZ⟩ : ∃ Z, Z = nameW n := ⟨_, rfl⟩
  rw [← hZ]
  replace hZ := hide hZ
  have hb0 := RowM.new w [.int .u8 108, .int .u8 111, .int .u8 103, .int .u8 45, .int .u8 48, .int .u8 48, .int .u8 48, .int .u8 48, .int .u8 48, .int .u8 48, .int .u8 48, .int .u8 48]
  have hsm := run_same w #[.int .u8 108, .int .u8 111, .int .u8 103, .int .u8 45, .int .u8 48, .int .u8 48, .int .u8 48, .int .u8 48, .int .u8 48, .int .u8 48, .int .u8 48, .int .u8 48] 12 12
  replace hb0 := hide hb0
  go_enter Try.func7, Try.ntmps7
  go_wp2_with fail
  go_loopw [0, 5] (fun s0 s5 wr => ∃ (k i m : Nat), s0 = .int .i64 (m : Int) ∧ s5 = .int .i64 (i : Int) ∧ i + k = 11 ∧ Hid (m = n / 10 ^ k) ∧ k ≤ 8 ∧ m ≤ 99999999 ∧ (k = 8 → m = 0) ∧ Hid (RowM wr w.heap.size ((midW k n).map B8)) ∧ Hid (Ext w wr)) (fun _ s5 _ => (intOf s5).toNat)
  case atStart => exact ⟨0, 11, n, rfl, rfl, rfl, hide (by simp), by omega, h, by omega, hide (hb0.out), hide ((Ext.refl w).alloc _)⟩
  case round =>
    obtain ⟨k, i, m, rfl, rfl, hik, hm, hk, hm9, hk8, hb, hE⟩ := hrel
    by_cases hm0 : m = 0
    · subst hm0
      have hzz : midW k n = Z := by rw [hZ.out]; exact midW_end hk hm.out.symm
      have hs := run_str hb.out.bs 12 12 (by rw [midW_len n hk])
      rw [hzz] at hs
      replace hzz := hide hzz
      clear hik hk8
      go_wp2_with fail
      go_ret2
      exact ⟨rfl, hE.out⟩
    · have hk7 : k < 8 := by omega
      obtain ⟨d, hd⟩ : ∃ d, d = m % 10 := ⟨_, rfl⟩
      have hd10 : d < 10 := by omega
      have hdi : (m : Int) % 10 = (d : Int) := by omega
      have hfr := hb.out.free (i := i) (by rw [List.length_map, midW_len n hk]; omega)
      have hcell : ∃ v, wr.cell? ⟨w.heap.size, i, none⟩ = some v := ⟨_, hb.out.cell (List.getElem?_eq_getElem (by rw [List.length_map, midW_len n hk]; omega))⟩
      obtain ⟨v0, hv0⟩ := hcell
      have hi12 : (i : Int) < 12 := by omega
      replace hd := hide hd
      go_wp2_with fail
      have hrow := hb.out.put i (.int .u8 (48 + (d : Int)))
      have hset : ((midW k n).map B8).set i (.int .u8 (48 + (d : Int))) = (midW (k + 1) n).map B8 := by
        rw [← midW_set n hk7, List.map_set, show 11 - k = i by omega]
        congr 1
        unfold B8
        rw [UInt8.toNat_ofNat', ← hm.out, ← hd.out, Nat.mod_eq_of_lt (by omega)]
        rfl
      rw [hset] at hrow
      refine ⟨⟨k + 1, i - 1, m / 10, by rw [show (m : Int) / 10 = ((m / 10 : Nat) : Int) by omega], by rw [show (i : Int) - 1 = ((i - 1 : Nat) : Int) by omega], by omega, hide (by rw [hm.out, Nat.div_div_eq_div_mul, Nat.pow_succ]), by omega, by omega, fun hk1 => ?_, hide hrow, hide (hE.out.setCell (p := ⟨w.heap.size, i, none⟩) (Nat.le_refl _) _)⟩, by simp [intOf]; omega⟩
      obtain rfl : k = 7 := by omega
      have := hm.out
      omega
set_option maxRecDepth 100000 in
set_option maxHeartbeats 4000000 in
theorem rname_no (n : Int) (w : World) (h : n < 0 ∨ 99999999 < n) : Calls Try.prog 8 #[.int .i64 n] w fun e w' => e = .returned (.tuple #[.string ⟨#[]⟩, .int .i64 1]) ∧ w' = w := by
  by_cases h0 : n < 0
  · clear h
    go_enter Try.func8, Try.ntmps8
    go_wp2_with fail
    go_ret2
    exact ⟨rfl, rfl⟩
  · have h1 : 99999999 < n := by omega
    clear h
    go_enter Try.func8, Try.ntmps8
    go_wp2_with fail
    go_ret2
    exact ⟨rfl, rfl⟩
set_option maxRecDepth 100000 in
set_option maxHeartbeats 4000000 in
theorem rname_yes (n : Nat) (w : World) (h : n ≤ 99999999) : Calls Try.prog 8 #[.int .i64 (n : Int)] w fun e w' => e = .returned (.tuple #[.string ⟨(nameW n).toArray⟩, .int .i64 0]) ∧ Ext w w' := by
  obtain ⟨Z, hZ⟩ : ∃ Z, Z = nameW n := ⟨_, rfl⟩
  rw [← hZ]
  replace hZ := hide hZ
  have hb0 := RowM.new w [.int .u8 108, .int .u8 111, .int .u8 103, .int .u8 45, .int .u8 48, .int .u8 48, .int .u8 48, .int .u8 48, .int .u8 48, .int .u8 48, .int .u8 48, .int .u8 48]
  have hsm := run_same w #[.int .u8 108, .int .u8 111, .int .u8 103, .int .u8 45, .int .u8 48, .int .u8 48, .int .u8 48, .int .u8 48, .int .u8 48, .int .u8 48, .int .u8 48, .int .u8 48] 12 12
  replace hb0 := hide hb0
  go_enter Try.func8, Try.ntmps8
  go_wp2_with fail
  go_loopw [0, 5] (fun s0 s5 wr => ∃ (k i m : Nat), s0 = .int .i64 (m : Int) ∧ s5 = .int .i64 (i : Int) ∧ i + k = 11 ∧ Hid (m = n / 10 ^ k) ∧ k ≤ 8 ∧ m ≤ 99999999 ∧ (k = 8 → m = 0) ∧ Hid (RowM wr w.heap.size ((midW k n).map B8)) ∧ Hid (Ext w wr)) (fun _ s5 _ => (intOf s5).toNat)
  case atStart => exact ⟨0, 11, n, rfl, rfl, rfl, hide (by simp), by omega, h, by omega, hide (hb0.out), hide ((Ext.refl w).alloc _)⟩
  case round =>
    obtain ⟨k, i, m, rfl, rfl, hik, hm, hk, hm9, hk8, hb, hE⟩ := hrel
    by_cases hm0 : k = 8
    · subst hm0
      obtain rfl : m = 0 := hk8 rfl
      obtain rfl : i = 3 := by omega
      have hzz : midW 8 n = Z := by rw [hZ.out]; exact midW_end hk hm.out.symm
      have hs := run_str hb.out.bs 12 12 (by rw [midW_len n hk])
      rw [hzz] at hs
      replace hzz := hide hzz
      clear hik hk8
      go_wp2_with fail
      go_ret2
      exact ⟨rfl, hE.out⟩
    · have hk7 : k < 8 := by omega
      obtain ⟨d, hd⟩ : ∃ d, d = m % 10 := ⟨_, rfl⟩
      have hd10 : d < 10 := by omega
      have hdi : (m : Int) % 10 = (d : Int) := by omega
      have hfr := hb.out.free (i := i) (by rw [List.length_map, midW_len n hk]; omega)
      have hcell : ∃ v, wr.cell? ⟨w.heap.size, i, none⟩ = some v := ⟨_, hb.out.cell (List.getElem?_eq_getElem (by rw [List.length_map, midW_len n hk]; omega))⟩
      obtain ⟨v0, hv0⟩ := hcell
      have hi4 : (4 : Int) ≤ (i : Int) := by omega
      have hi12 : (i : Int) < 12 := by omega
      replace hd := hide hd
      go_wp2_with fail
      have hrow := hb.out.put i (.int .u8 (48 + (d : Int)))
      have hset : ((midW k n).map B8).set i (.int .u8 (48 + (d : Int))) = (midW (k + 1) n).map B8 := by
        rw [← midW_set n hk7, List.map_set, show 11 - k = i by omega]
        congr 1
        unfold B8
        rw [UInt8.toNat_ofNat', ← hm.out, ← hd.out, Nat.mod_eq_of_lt (by omega)]
        rfl
      rw [hset] at hrow
      refine ⟨⟨k + 1, i - 1, m / 10, by rw [show (m : Int) / 10 = ((m / 10 : Nat) : Int) by omega], by rw [show (i : Int) - 1 = ((i - 1 : Nat) : Int) by omega], by omega, hide (by rw [hm.out, Nat.div_div_eq_div_mul, Nat.pow_succ]), by omega, by omega, fun hk1 => ?_, hide hrow, hide (hE.out.setCell (p := ⟨w.heap.size, i, none⟩) (Nat.le_refl _) _)⟩, by simp [intOf]; omega⟩
      obtain rfl : k = 7 := by omega
      have := hm.out
      omega
end Go.Proofs.Ytohphanbnhiodaa

