/- Small words on memory that all the walks share: what came stays, slices read as lists, bytes. -/
import Derived.Test.YtpfmjagbjdkdcaaGreatDoorLexb
import Derived.WalkKit
import Derived.WalkSpells
import Derived.WalkLawsBesides
import Derived.Deep.Draws
import Derived.Maps.AppendAt
set_option linter.unusedSimpArgs false
set_option linter.unusedVariables false
namespace Go.Proofs.YtpfmjagbjdkdcaaGreatDoor
open Go.RowKit

theorem hide {p : Prop} (h : p) : Hid p := h

/-- All that there was is as it was; there may be more. -/
def Ext (w w' : World) : Prop := Below w.heap.size w w'
section
variable {w w1 w2 : World}
theorem Ext.refl (w : World) : Ext w w := Below.refl _ _
theorem Ext.size (h : Ext w w1) : w.heap.size ≤ w1.heap.size := Below.size h
theorem Ext.trans (h : Ext w w1) (k : Ext w1 w2) : Ext w w2 := Below.trans h (Below.mono k h.size)
theorem Ext.drew (h : Ext w w1) : Ext w w1.drew := Below.drew h
theorem Ext.drewN (h : Ext w w1) (n : Nat) : Ext w (w1.drewN n) := 
  have hb : Below w.heap.size w w1 := h
  ⟨hb.os, hb.tape, hb.output, hb.size, hb.block⟩
theorem Ext.alloc (h : Ext w w1) (o : Obj) : Ext w (w1.alloc o) := Below.alloc h h.size o
theorem Ext.setCell (h : Ext w w1) {p : Addr} (hp : w.heap.size ≤ p.block) (u : Value) : Ext w (w1.setCell p u) := Below.setCell h hp u
theorem Ext.grown {row : Option Nat} (h : Ext w w1) (hg : w1.grownBy w2 row) (hr : ∀ k, row = some k → w.heap.size ≤ k) : Ext w w2 := Below.grown h hg h.size hr
theorem Ext.cell {a : Addr} {v : Value} (h : Ext w w1) (hc : w.cell? a = some v) : w1.cell? a = some v := (Below.cell h (World.block_lt_of_cell? w a hc)).trans hc
theorem Ext.block {k : Nat} {o : Obj} (h : Ext w w1) (hk : w.heap[k]? = some o) : w1.heap[k]? = some o :=
  (Below.block h k (Array.getElem?_eq_some_iff.1 hk).1).trans hk
theorem Ext.frozen {a : Addr} (h : Ext w w1) (hlt : a.block < w.heap.size) : w1.frozen? a = w.frozen? a := Below.frozen h hlt
theorem Ext.owns {base : Nat} {e : TypeId} {size : Nat} {v : Value} {n : Nat} {xs : List Value} (h : Ext w w1) (ho : w.ownsRow base e size v n xs) : w1.ownsRow base e size v n xs := by
  obtain ⟨h1, h2⟩ := ho
  refine ⟨h1, ?_⟩
  rcases h2 with h2 | ⟨g, cap, cur, hv, hg, hh, r⟩
  · exact .inl h2
  · exact .inr ⟨g, cap, cur, hv, hg, h.block hh, r⟩
end

/-- Block g is whole: the cells cs of type t, all of them writable. -/
def Row (w : World) (g : Nat) (t : TypeId) (cs : Array Value) : Prop := w.heap[g]? = some (.cells cs t (0, 0))
section
variable {w w1 : World} {g : Nat} {t : TypeId} {cs : Array Value}
theorem Row.lt (h : Row w g t cs) : g < w.heap.size := (Array.getElem?_eq_some_iff.1 h).1
theorem Row.cell (h : Row w g t cs) (i : Nat) {v : Value} (hv : cs[i]? = some v) : w.cell? ⟨g, i, none⟩ = some v := (cell_of_row w g i cs t (0, 0) h).trans hv
theorem Row.get (h : Row w g t cs) (i : Nat) : w.cell? ⟨g, i, none⟩ = cs[i]? := cell_of_row w g i cs t (0, 0) h
theorem Row.free (h : Row w g t cs) (i : Nat) : w.frozen? ⟨g, i, none⟩ = false := by
  simp [World.frozen?, show w.heap[g]? = some (.cells cs t (0, 0)) from h]
theorem Row.ext (h : Row w g t cs) (he : Ext w w1) : Row w1 g t cs := he.block h
theorem Row.keep (h : Row w g t cs) (hb : w1.heap[g]? = w.heap[g]?) : Row w1 g t cs := Eq.trans hb h
theorem Row.drew (h : Row w g t cs) : Row w.drew g t cs := h
theorem Row.alloc (h : Row w g t cs) (o : Obj) : Row (w.alloc o) g t cs := h.keep (Below.heap_alloc w o g h.lt)
theorem Row.grown {row : Option Nat} (h : Row w g t cs) (hg : w.grownBy w1 row) (hne : some g ≠ row) : Row w1 g t cs := h.keep (hg.block g h.lt hne)
theorem Row.away (h : Row w g t cs) {p : Addr} (hp : g ≠ p.block) (u : Value) : Row (w.setCell p u) g t cs := h.keep (Below.heap_setCell w p u g hp)
theorem Row.put (h : Row w g t cs) (i : Nat) (u : Value) : Row (w.setCell ⟨g, i, none⟩ u) g t (cs.setIfInBounds i u) := by
  unfold Row at h ⊢
  simp [World.setCell, Array.getElem?_modify, h]
theorem Row.unlike {g' : Nat} {t' : TypeId} {cs' : Array Value} (h : Row w g t cs) (h' : Row w g' t' cs') (hne : t ≠ t') : g ≠ g' := by
  rintro rfl
  unfold Row at h h'
  rw [h] at h'
  injection h' with h'
  injection h' with _ ht
  exact hne ht
theorem Row.new (w : World) (t : TypeId) (cs : Array Value) : Row (w.alloc (.cells cs t)) w.heap.size t cs := heap_alloc_new w _
end

/-- The cells xs lie at A, one behind the other. -/
def Cells (w : World) (A : Option Addr) (xs : List Value) : Prop :=
  xs = [] ∨ ∃ g o, A = some ⟨g, o, none⟩ ∧ ∀ i v, xs[i]? = some v → w.cell? ⟨g, o + i, none⟩ = some v
section
variable {w w1 : World} {A : Option Addr} {xs : List Value}
theorem Cells.nil (w : World) (A : Option Addr) : Cells w A [] := .inl rfl
theorem Cells.ext (h : Cells w A xs) (he : Ext w w1) : Cells w1 A xs := by
  rcases h with h | ⟨g, o, hA, hc⟩
  · exact .inl h
  · exact .inr ⟨g, o, hA, fun i v hv => he.cell (hc i v hv)⟩
theorem Cells.at_ (h : Cells w A xs) (hne : 0 < xs.length) : ∃ g o, A = some ⟨g, o, none⟩ ∧ ∀ i v, xs[i]? = some v → w.cell? ⟨g, o + i, none⟩ = some v := by
  rcases h with h | h
  · rw [h] at hne; simp at hne
  · exact h
theorem Cells.of_own {base : Nat} {e : TypeId} {size n c : Nat} (h : w.ownsRow base e size (.slice A n c) n xs) : Cells w A xs := by
  rcases Nat.eq_zero_or_pos xs.length with h0 | h0
  · exact .inl (List.eq_nil_of_length_eq_zero h0)
  · rcases h.2 with ⟨_, h2⟩ | ⟨g, cap, cur, hv, hb, hg, hn, hc, hs, ht⟩
    · rw [h.1, h2] at h0; simp at h0
    · injection hv with hA _ _
      subst hA
      refine .inr ⟨g, 0, rfl, fun i v hv => ?_⟩
      rw [cell_of_row w g (0 + i) cur e (0, 0) hg, Nat.zero_add]
      rw [← ht, List.getElem?_take] at hv
      split at hv
      · simpa using hv
      · cases hv
end
/-- Only blocks of S have turned; there may be more blocks. -/
structure Chg (S : Nat → Prop) (w w' : World) : Prop where
  os : w'.os = w.os
  tape : w'.tape = w.tape
  output : w'.output = w.output
  size : w.heap.size ≤ w'.heap.size
  block : ∀ k, k < w.heap.size → ¬ S k → w'.heap[k]? = w.heap[k]?
section
variable {S S' : Nat → Prop} {w w1 w2 : World}
theorem Chg.refl (S : Nat → Prop) (w : World) : Chg S w w := ⟨rfl, rfl, rfl, Nat.le_refl _, fun _ _ _ => rfl⟩
theorem Chg.of_ext (h : Ext w w1) (S : Nat → Prop) : Chg S w w1 := ⟨Below.os h, Below.tape h, Below.output h, Below.size h, fun k hk _ => Below.block h k hk⟩
theorem Chg.of_grown {row : Option Nat} (h : w.grownBy w1 row) (hS : ∀ k, k < w.heap.size → row = some k → S k) : Chg S w w1 := ⟨h.os, h.tape, h.output, h.size, fun k hk hn => h.block k hk (fun e => hn (hS k hk e.symm))⟩
theorem Chg.of_set (w : World) {a : Addr} (v : Value) (hS : S a.block) : Chg S w (w.setCell a v) :=
  ⟨rfl, rfl, rfl, by simp [World.setCell], fun k _ hn => Below.heap_setCell w a v k (fun e => hn (by rw [e]; exact hS))⟩
theorem Chg.trans (h : Chg S w w1) (k : Chg S' w1 w2) (hS : ∀ i, i < w.heap.size → S' i → S i) : Chg S w w2 :=
  ⟨k.os.trans h.os, k.tape.trans h.tape, k.output.trans h.output, Nat.le_trans h.size k.size, fun i hi hn => (k.block i (Nat.lt_of_lt_of_le hi h.size) (fun hs => hn (hS i hi hs))).trans (h.block i hi hn)⟩
theorem Chg.mono (h : Chg S w w1) (hS : ∀ i, i < w.heap.size → S i → S' i) : Chg S' w w1 := ⟨h.os, h.tape, h.output, h.size, fun i hi hn => h.block i hi (fun hs => hn (hS i hi hs))⟩
theorem Chg.ext (h : Chg S w w1) (hS : ∀ i, i < w.heap.size → ¬ S i) : Ext w w1 := ⟨h.os, h.tape, h.output, h.size, fun i hi => h.block i hi (hS i hi)⟩
theorem Ext.chg (h : Ext w w1) (k : Chg S w1 w2) (hS : ∀ i, i < w.heap.size → ¬ S i) : Ext w w2 :=
  Below.trans h ⟨k.os, k.tape, k.output, k.size, fun i hi => k.block i (Nat.lt_of_lt_of_le hi h.size) (hS i hi)⟩
theorem Chg.cell (h : Chg S w w1) {a : Addr} {v : Value} (hc : w.cell? a = some v) (hn : ¬ S a.block) : w1.cell? a = some v :=
  (World.cell?_of_block (h.block a.block (World.block_lt_of_cell? w a hc) hn)).trans hc
theorem Chg.row (h : Chg S w w1) {g : Nat} {t : TypeId} {cs : Array Value} (hr : Row w g t cs) (hn : ¬ S g) : Row w1 g t cs := hr.keep (h.block g hr.lt hn)
theorem Chg.owns (h : Chg S w w1) {base : Nat} {e : TypeId} {size : Nat} {v : Value} {n : Nat} {xs : List Value} (ho : w.ownsRow base e size v n xs) (hn : ∀ g, v.ownBlock = some g → ¬ S g) : w1.ownsRow base e size v n xs := by
  obtain ⟨h1, h2⟩ := ho
  refine ⟨h1, ?_⟩
  rcases h2 with h2 | ⟨g, cap, cur, hv, hg, hh, r⟩
  · exact .inl h2
  · exact .inr ⟨g, cap, cur, hv, hg, (h.block g (Array.getElem?_eq_some_iff.1 hh).1 (hn g (by rw [hv]; rfl))).trans hh, r⟩
theorem Chg.cells (h : Chg S w w1) {A : Option Addr} {xs : List Value} (hc : Cells w A xs) (hn : ∀ a, A = some a → ¬ S a.block) : Cells w1 A xs := by
  rcases hc with hc | ⟨g, o, hA, hc⟩
  · exact .inl hc
  · exact .inr ⟨g, o, hA, fun i v hv => h.cell (hc i v hv) (show ¬ S g from hn _ hA)⟩
end
/-- A row of the call's own: its block's type. -/
theorem owns_row {w : World} {base : Nat} {e : TypeId} {size : Nat} {v : Value} {n : Nat} {xs : List Value} (h : w.ownsRow base e size v n xs) {g : Nat} (hg : v.ownBlock = some g) : ∃ cur, Row w g e cur ∧ base ≤ g := by
  rcases h.2 with ⟨rfl, _⟩ | ⟨g', cap, cur, rfl, hb, hh, _⟩
  · simp [Value.ownBlock] at hg
  · simp [Value.ownBlock] at hg
    subst hg
    exact ⟨cur, hh, hb⟩
theorem owns_unlike {w : World} {base : Nat} {e : TypeId} {size : Nat} {v : Value} {n : Nat} {xs : List Value} (h : w.ownsRow base e size v n xs) {g : Nat} {t : TypeId} {cs : Array Value} (hr : Row w g t cs) (hne : e ≠ t) : v.ownBlock ≠ some g := fun hg => by
  obtain ⟨cur, h1, _⟩ := owns_row h hg
  exact Row.unlike h1 hr hne rfl

theorem owns_shape {w : World} {base : Nat} {e : TypeId} {size : Nat} {v : Value} {n : Nat} {xs : List Value} (h : w.ownsRow base e size v n xs) : ∃ A c, v = .slice A n c := by
  rcases h.2 with ⟨rfl, rfl⟩ | ⟨g, cap, cur, rfl, _⟩
  · exact ⟨none, 0, rfl⟩
  · exact ⟨_, cap, rfl⟩
section
variable {S : Nat → Prop} {w w1 : World}
theorem Chg.below (h : Chg S w w1) {B : Nat} (hS : ∀ k, S k → B ≤ k) (hB : B ≤ w.heap.size) : Below B w w1 :=
  ⟨h.os, h.tape, h.output, h.size, fun k hk => h.block k (Nat.lt_of_lt_of_le hk hB) (fun hs => by have := hS k hs; omega)⟩
theorem owns_set {w : World} {base : Nat} {e : TypeId} {size : Nat} {v : Value} {n : Nat} {xs : List Value} (h : w.ownsRow base e size v n xs) {a : Addr} (ha : v.ownBlock ≠ some a.block) (u : Value) : (w.setCell a u).ownsRow base e size v n xs :=
  (Chg.of_set (S := fun k => k = a.block) w u rfl).owns h fun g hg hk => ha (by rw [hg, hk])
theorem Cells.below {B : Nat} {A : Option Addr} {xs : List Value} (h : Cells w A xs) (hb : Below B w w1) (hA : ∀ a, A = some a → a.block < B) : Cells w1 A xs := by
  rcases h with h | ⟨g, o, hA', hc⟩
  · exact .inl h
  · exact .inr ⟨g, o, hA', fun i v hv => (hb.cell (p := ⟨g, o + i, none⟩) (show g < B from hA _ hA')).trans (hc i v hv)⟩
end
/-- What an append must know of a slice's type. -/
structure Elem (P : Program) (t e size bytes : Nat) : Prop where
  ht : P.underlying t = some (.slice e)
  hi : ∃ i z, P.info? e = some i ∧ i.zero = some z ∧ i.size = size ∧ i.bytes = bytes ∧ z.cells.size = size
  hs : 0 < size
  hb : bytes ≤ 1024
theorem run_app {P : Program} {t e size bytes : Nat} (E : Elem P t e size bytes) (w : World) (ty : TypeId) {base : Nat} {v : Value} {n : Nat} {xs : List Value} (hown : w.ownsRow base e size v n xs)
    {A : Option Addr} {m c : Nat} {news : List Value} (hr : Cells w A news) (hl : news.length = m * size) (h1 : ∀ u ∈ news, u.oneCell' = true) (hsz : n + m ≤ 4294967296) (hbase : base ≤ w.heap.size) :
    ∃ A1 c1 w', (Builtin.append_ #[t, t] ty #[v, .slice A m c]).run P w = .ok (.slice A1 (n + m) c1) w' ∧ w'.ownsRow base e size (.slice A1 (n + m) c1) (n + m) (xs ++ news) ∧ w.grownBy w' v.ownBlock ∧
      ((Value.slice A1 (n + m) c1).ownBlock = v.ownBlock ∨ (Value.slice A1 (n + m) c1).ownBlock = some w.heap.size) := by
  suffices hh : ∃ v' w', (Builtin.append_ #[t, t] ty #[v, .slice A m c]).run P w = .ok v' w' ∧ w'.ownsRow base e size v' (n + m) (xs ++ news) ∧ w.grownBy w' v.ownBlock ∧ (v'.ownBlock = v.ownBlock ∨ v'.ownBlock = some w.heap.size) by
    obtain ⟨v', w', h1, h2, h3⟩ := hh
    obtain ⟨A1, c1, rfl⟩ := owns_shape h2
    exact ⟨A1, c1, w', h1, h2, h3⟩
  obtain ⟨i, z, hi, hz, h3, h4, h5⟩ := E.hi
  have hbytes : (n + m) * bytes ≤ 140737488355328 := Nat.le_trans (Nat.mul_le_mul hsz E.hb) (by omega)
  cases A with
  | some a =>
    have hc : ∀ j u, news[j]? = some u → w.cell? (a.add j) = some u := by
      intro j u hu
      rcases hr with hr | ⟨g, o, hA, hc⟩
      · subst hr; simp at hu
      · cases hA
        rw [Addr.add_lit]
        exact hc j u hu
    obtain ⟨v', w', hrun, h6, h7, _, h8⟩ := run_append_own_at (P := P) w base t ty e i z size bytes E.ht hi hz h3 h4 h5 E.hs v n xs hown a m c news hl hc h1 (by unfold maxLen; omega) hbytes hbase
    exact ⟨v', w', hrun, h6, h7, h8⟩
  | none =>
    have hnil : news = [] := by
      rcases hr with hr | ⟨g, o, hA, _⟩
      · exact hr
      · cases hA
    subst hnil
    have hm : m = 0 := by
      have := E.hs
      rcases Nat.mul_eq_zero.1 (show m * size = 0 from hl.symm) with h | h
      · exact h
      · omega
    subst hm
    refine ⟨v, w, ?_, by simpa using hown, World.grownBy.refl w _, .inl rfl⟩
    rcases hown.2 with ⟨rfl, rfl⟩ | ⟨g, cap, cur, rfl, _, _, hnc, _⟩
    · simp [Builtin.append_, run_underlying E.ht, sizeOf, typeInfo, hi, Builtin.lenOf, Builtin.firstCells]
    · simp [Builtin.append_, run_underlying E.ht, sizeOf, typeInfo, hi, Builtin.lenOf, Builtin.firstCells, hnc, storeCells]
/-- 'append' onto a row of the call's own, at the operation. -/
theorem wpList_app {P : Program} {ops : Array Oper} {rest : List Oper} {o : Oper} {a : Act} {Q : Exit → Act → World → Prop} {w : World} {t e size bytes : Nat} (E : Elem P t e size bytes)
    {base : Nat} {v : Value} {n : Nat} {xs : List Value} {A : Option Addr} {m m' c : Nat} {news : List Value} (hown : w.ownsRow base e size v n xs) (hr : Cells w A news) (s x : Operand)
    (ho : o.op = .call { callee := .builtin .append, args := #[s, x], argTypes := #[t, t] }) (hgd : o.guard = none)
    (hs : a.eval s = v) (hx : a.eval x = .slice A m' c) (hm : m' = m) (hl : news.length = m * size) (h1 : ∀ u ∈ news, u.oneCell' = true) (hsz : n + m ≤ 4294967296) (hbase : base ≤ w.heap.size)
    (h : ∀ A1 c1 w', w'.ownsRow base e size (.slice A1 (n + m) c1) (n + m) (xs ++ news) → w.grownBy w' v.ownBlock → ((Value.slice A1 (n + m) c1).ownBlock = v.ownBlock ∨ (Value.slice A1 (n + m) c1).ownBlock = some w.heap.size) → wpList P ops Q rest (a.put o.dst (.slice A1 (n + m) c1)) w') : wpList P ops Q (o :: rest) a w :=
  wpList_plain hgd fun K hK => by
    subst hm
    obtain ⟨A1, c1, w', hrun, h2, h3, h4⟩ := run_app (P := P) E w o.type hown (c := c) hr hl h1 hsz hbase
    unfold Oper.wp execOp
    simp only [ho, resolve, invoke, builtin, Sem.run_bind, Sem.run_pure, Result.andThen_ok, List.map_toArray, List.map_cons, List.map_nil, hs, hx, hrun]
    exact hK _ _ (h A1 c1 w' h2 h3 h4)

/-- 'append' whose run is known. -/
theorem wpList_app_run {P : Program} {ops : Array Oper} {rest : List Oper} {o : Oper} {a : Act} {Q : Exit → Act → World → Prop} {w w' : World} {t ty : TypeId} {v u r : Value} (hrun : (Builtin.append_ #[t, t] ty #[v, u]).run P w = .ok r w') (s x : Operand)
    (ho : o.op = .call { callee := .builtin .append, args := #[s, x], argTypes := #[t, t] }) (hty : o.type = ty) (hgd : o.guard = none) (hs : a.eval s = v) (hx : a.eval x = u) (h : wpList P ops Q rest (a.put o.dst r) w') : wpList P ops Q (o :: rest) a w :=
  wpList_plain hgd fun K hK => by
    subst hty
    unfold Oper.wp execOp
    simp only [ho, resolve, invoke, builtin, Sem.run_bind, Sem.run_pure, Result.andThen_ok, List.map_toArray, List.map_cons, List.map_nil, hs, hx, hrun]
    exact hK _ _ h
/-- 'append' of values that the statement has just laid in a new block. -/
theorem wpList_appN {P : Program} {ops : Array Oper} {rest : List Oper} {o : Oper} {a : Act} {Q : Exit → Act → World → Prop} {w0 : World} {us : List Value} {T : TypeId} {t e bytes : Nat} (E : Elem P t e 1 bytes)
    {base : Nat} {v : Value} {n : Nat} {xs : List Value} (hown : w0.ownsRow base e 1 v n xs) (s x : Operand)
    (ho : o.op = .call { callee := .builtin .append, args := #[s, x], argTypes := #[t, t] }) (hgd : o.guard = none)
    (hs : a.eval s = v) (hx : a.eval x = .slice (some ⟨w0.heap.size, 0, none⟩) us.length us.length) (h1 : ∀ u ∈ us, u.oneCell' = true) (hsz : n + us.length ≤ 4294967296) (hbase : base ≤ w0.heap.size)
    (h : ∀ A1 c1 w', w'.ownsRow base e 1 (.slice A1 (n + us.length) c1) (n + us.length) (xs ++ us) → w0.grownBy w' v.ownBlock → ((Value.slice A1 (n + us.length) c1).ownBlock = v.ownBlock ∨ (Value.slice A1 (n + us.length) c1).ownBlock = some (w0.heap.size + 1)) →
      wpList P ops Q rest (a.put o.dst (.slice A1 (n + us.length) c1)) w') :
    wpList P ops Q (o :: rest) a (w0.alloc (.cells us.toArray T)) := by
  refine wpList_app E (((Ext.refl w0).alloc _).owns hown) (A := some ⟨w0.heap.size, 0, none⟩) (news := us) (.inr ⟨w0.heap.size, 0, rfl, fun i u hu => ?_⟩) s x ho hgd hs hx rfl (by simp) h1 hsz (by simp; omega) fun A1 c1 w' h2 h3 h4 => ?_
  · rw [Nat.zero_add, cell_of_row _ _ _ _ _ _ (heap_alloc_new w0 _)]
    simpa using hu
  · refine h A1 c1 w' h2 ⟨h3.os, h3.tape, h3.output, Nat.le_trans (by simp) h3.size, fun k hk hne => (h3.block k (by simp; omega) hne).trans (Below.heap_alloc w0 _ k hk)⟩ ?_
    simpa using h4

theorem one_of {us : List Value} (h : us.all Value.oneCell' = true) : ∀ u ∈ us, u.oneCell' = true := fun u hu => List.all_eq_true.1 h u hu
/-- A byte as a value. -/
def B8 (c : UInt8) : Value := .int .u8 c.toNat
/-- The bytes l lie at A. -/
def Bs (w : World) (A : Option Addr) (l : List UInt8) : Prop := Cells w A (l.map B8)
theorem Bs.ext {w w1 : World} {A : Option Addr} {l : List UInt8} (h : Bs w A l) (he : Ext w w1) : Bs w1 A l := Cells.ext h he
theorem Bs.at_ {w : World} {A : Option Addr} {l : List UInt8} (h : Bs w A l) (hne : 0 < l.length) :
    ∃ g o, A = some ⟨g, o, none⟩ ∧ ∀ i (hi : i < l.length), w.cell? ⟨g, o + i, none⟩ = some (.int .u8 (l[i].toNat : Int)) := by
  obtain ⟨g, o, hA, hc⟩ := Cells.at_ h (by simpa using hne)
  exact ⟨g, o, hA, fun i hi => hc i _ (by simp [hi, B8])⟩
theorem run_arrayAt {P : Program} {t e n : Nat} (ht : P.underlying t = some (.array n e)) (a : Option Addr) (len cap : Nat) (h : n ≤ len) (W : World) : (Instr.arrayAt t (.slice a len cap)).run P W = .ok (.pointer a) W := by
  simp only [Instr.arrayAt, Sem.run_bind, run_underlying ht, Result.andThen_ok]
  rw [if_neg (by omega)]
  rfl
theorem run_min2 {P : Program} (ts : Array TypeId) (ty : TypeId) {x y m : Int} (hm : m = min x y) (W : World) : (Builtin.min_ ts ty #[.int .i64 x, .int .i64 y]).run P W = .ok (.int .i64 m) W := by
  simp only [Builtin.min_, List.foldlM, Builtin.min2, Sem.run_bind, Sem.run_pure, Result.andThen_ok]
  subst hm
  congr 2
  split <;> omega
theorem Bs.below {w w1 : World} {B : Nat} {A : Option Addr} {l : List UInt8} (h : Bs w A l) (hb : Below B w w1) (hA : ∀ a, A = some a → a.block < B) : Bs w1 A l := Cells.below h hb hA
theorem Bs.cut {w : World} {g o : Nat} {l : List UInt8} (h : Bs w (some ⟨g, o, none⟩) l) (f k : Nat) : Cells w (some ⟨g, o + f, none⟩) (((l.drop f).take k).map B8) := by
  rcases h with h | ⟨g', o', hA, hc⟩
  · have : l = [] := by simpa using h
    subst this
    exact .inl (by simp)
  · cases hA
    refine .inr ⟨g, o + f, rfl, fun i v hv => ?_⟩
    rw [Nat.add_assoc]
    refine hc (f + i) v ?_
    rw [List.getElem?_map] at hv ⊢
    rw [List.getElem?_take] at hv
    split at hv
    · rw [List.getElem?_drop] at hv; exact hv
    · simp at hv
theorem byte_eq {a b : UInt8} (h : ((a.toNat : Int) == (b.toNat : Int)) = true) : a = b := by
  rw [beq_iff_eq] at h
  exact UInt8.toNat_inj.1 (by omega)
theorem byte_ne {a b : UInt8} (h : ((a.toNat : Int) == (b.toNat : Int)) = false) : a ≠ b := by
  rintro rfl
  simp at h
theorem bytes_one (l : List UInt8) : ∀ u ∈ l.map B8, u.oneCell' = true := by
  intro u hu
  obtain ⟨_, _, rfl⟩ := List.mem_map.1 hu
  rfl
theorem ret_bool {a b : Bool} (h : a = b) : Ending.returned (.bool a) = .returned (.bool b) := by rw [h]
theorem ret_int {k : IntKind} {a b : Int} (h : a = b) : Ending.returned (.int k a) = .returned (.int k b) := by rw [h]
end Go.Proofs.YtpfmjagbjdkdcaaGreatDoor
