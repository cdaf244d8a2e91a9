/- Texts of one proof, joined. -/
import Derived.Test.YtkdcnhnaiknaaaaGreatFD01
import Derived.WalkKit
import Derived.WalkSpells
import Derived.WalkLawsBesides
import Derived.Deep.Draws
import Derived.Maps.AppendAt
import Derived.Test.YtkdcnhnaiknaaaaGreatRows
import Derived.Laws.BytesArg
import Derived.RangeFuncNested
import Derived.RangeFuncBound
import Derived.RangeFuncCalls
import Derived.RangeFuncLeaves
import Derived.OwnWalkIn
import Derived.TacticsInMore
import Derived.LoopNIn
import Derived.LoopIn
import Derived.Shelf.Abstract
import Derived.Deep.QuietTactic
import Derived.BigQuiet
import Derived.Laws.Rows
import Derived.Lib.ConvBytes
set_option linter.unusedSimpArgs false
set_option linter.unusedVariables false
namespace Go.Proofs.YtkdcnhnaiknaaaaGreat
section
open Go.RowKit
theorem hide {p : Prop} (h : p) : Hid p := h
def Ext (w w' : World) : Prop := Below w.heap.size w w'
section
variable {w w1 w2 : World}
theorem Ext.refl (w : World) : Ext w w := Below.refl _ _
theorem Ext.size (h : Ext w w1) : w.heap.size ≤ w1.heap.size := Below.size h
theorem Ext.trans (h : Ext w w1) (k : Ext w1 w2) : Ext w w2 := Below.trans h (Below.mono k h.size)
theorem Ext.drew (h : Ext w w1) : Ext w w1.drew := Below.drew h
theorem Ext.drewN (h : Ext w w1) (n : Nat) : Ext w (w1.drewN n) :=
  have hb : Below w.heap.size w w1 := h
  ⟨hb.os, hb.tape, hb.output, hb.size, hb.block⟩
theorem Ext.alloc (h : Ext w w1) (o : Obj) : Ext w (w1.alloc o) := Below.alloc h h.size o
theorem Ext.setCell (h : Ext w w1) {p : Addr} (hp : w.heap.size ≤ p.block) (u : Value) : Ext w (w1.setCell p u) := Below.setCell h hp u
theorem Ext.grown {row : Option Nat} (h : Ext w w1) (hg : w1.grownBy w2 row) (hr : ∀ k, row = some k → w.heap.size ≤ k) : Ext w w2 := Below.grown h hg h.size hr
theorem Ext.cell {a : Addr} {v : Value} (h : Ext w w1) (hc : w.cell? a = some v) : w1.cell? a = some v := (Below.cell h (World.block_lt_of_cell? w a hc)).trans hc
theorem Ext.block {k : Nat} {o : Obj} (h : Ext w w1) (hk : w.heap[k]? = some o) : w1.heap[k]? = some o :=
  (Below.block h k (Array.getElem?_eq_some_iff.1 hk).1).trans hk
theorem Ext.owns {base : Nat} {e : TypeId} {size : Nat} {v : Value} {n : Nat} {xs : List Value} (h : Ext w w1) (ho : w.ownsRow base e size v n xs) : w1.ownsRow base e size v n xs := by
  obtain ⟨h1, h2⟩ := ho
  refine ⟨h1, ?_⟩
  rcases h2 with h2 | ⟨g, cap, cur, hv, hg, hh, r⟩
  · exact .inl h2
  · exact .inr ⟨g, cap, cur, hv, hg, h.block hh, r⟩
end
def Row (w : World) (g : Nat) (t : TypeId) (cs : Array Value) : Prop := w.heap[g]? = some (.cells cs t (0, 0))
section
variable {w w1 : World} {g : Nat} {t : TypeId} {cs : Array Value}
theorem Row.lt (h : Row w g t cs) : g < w.heap.size := (Array.getElem?_eq_some_iff.1 h).1
theorem Row.cell (h : Row w g t cs) (i : Nat) {v : Value} (hv : cs[i]? = some v) : w.cell? ⟨g, i, none⟩ = some v := (cell_of_row w g i cs t (0, 0) h).trans hv
theorem Row.get (h : Row w g t cs) (i : Nat) : w.cell? ⟨g, i, none⟩ = cs[i]? := cell_of_row w g i cs t (0, 0) h
theorem Row.free (h : Row w g t cs) (i : Nat) : w.frozen? ⟨g, i, none⟩ = false := by
  simp [World.frozen?, show w.heap[g]? = some (.cells cs t (0, 0)) from h]
theorem Row.ext (h : Row w g t cs) (he : Ext w w1) : Row w1 g t cs := he.block h
theorem Row.keep (h : Row w g t cs) (hb : w1.heap[g]? = w.heap[g]?) : Row w1 g t cs := Eq.trans hb h
theorem Row.drew (h : Row w g t cs) : Row w.drew g t cs := h
theorem Row.alloc (h : Row w g t cs) (o : Obj) : Row (w.alloc o) g t cs := h.keep (Below.heap_alloc w o g h.lt)
theorem Row.grown {row : Option Nat} (h : Row w g t cs) (hg : w.grownBy w1 row) (hne : some g ≠ row) : Row w1 g t cs := h.keep (hg.block g h.lt hne)
theorem Row.away (h : Row w g t cs) {p : Addr} (hp : g ≠ p.block) (u : Value) : Row (w.setCell p u) g t cs := h.keep (Below.heap_setCell w p u g hp)
theorem Row.put (h : Row w g t cs) (i : Nat) (u : Value) : Row (w.setCell ⟨g, i, none⟩ u) g t (cs.setIfInBounds i u) := by
  unfold Row at h ⊢
  simp [World.setCell, Array.getElem?_modify, h]
theorem Row.unlike {g' : Nat} {t' : TypeId} {cs' : Array Value} (h : Row w g t cs) (h' : Row w g' t' cs') (hne : t ≠ t') : g ≠ g' := by
  rintro rfl
  unfold Row at h h'
  rw [h] at h'
  injection h' with h'
  injection h' with _ ht
  exact hne ht
theorem Row.new (w : World) (t : TypeId) (cs : Array Value) : Row (w.alloc (.cells cs t)) w.heap.size t cs := heap_alloc_new w _
end
def Cells (w : World) (A : Option Addr) (xs : List Value) : Prop :=
  xs = [] ∨ ∃ g o, A = some ⟨g, o, none⟩ ∧ ∀ i v, xs[i]? = some v → w.cell? ⟨g, o + i, none⟩ = some v
section
variable {w w1 : World} {A : Option Addr} {xs : List Value}
theorem Cells.nil (w : World) (A : Option Addr) : Cells w A [] := .inl rfl
theorem Cells.ext (h : Cells w A xs) (he : Ext w w1) : Cells w1 A xs := by
  rcases h with h | ⟨g, o, hA, hc⟩
  · exact .inl h
  · exact .inr ⟨g, o, hA, fun i v hv => he.cell (hc i v hv)⟩
theorem Cells.at_ (h : Cells w A xs) (hne : 0 < xs.length) : ∃ g o, A = some ⟨g, o, none⟩ ∧ ∀ i v, xs[i]? = some v → w.cell? ⟨g, o + i, none⟩ = some v := by
  rcases h with h | h
  · rw [h] at hne; simp at hne
  · exact h
theorem Cells.of_own {base : Nat} {e : TypeId} {size n c : Nat} (h : w.ownsRow base e size (.slice A n c) n xs) : Cells w A xs := by
  rcases Nat.eq_zero_or_pos xs.length with h0 | h0
  · exact .inl (List.eq_nil_of_length_eq_zero h0)
  · rcases h.2 with ⟨_, h2⟩ | ⟨g, cap, cur, hv, hb, hg, hn, hc, hs, ht⟩
    · rw [h.1, h2] at h0; simp at h0
    · injection hv with hA _ _
      subst hA
      refine .inr ⟨g, 0, rfl, fun i v hv => ?_⟩
      rw [cell_of_row w g (0 + i) cur e (0, 0) hg, Nat.zero_add]
      rw [← ht, List.getElem?_take] at hv
      split at hv
      · simpa using hv
      · cases hv
end
structure Chg (S : Nat → Prop) (w w' : World) : Prop where
  os : w'.os = w.os
  tape : w'.tape = w.tape
  output : w'.output = w.output
  size : w.heap.size ≤ w'.heap.size
  block : ∀ k, k < w.heap.size → ¬ S k → w'.heap[k]? = w.heap[k]?
section
variable {S S' : Nat → Prop} {w w1 w2 : World}
theorem Chg.refl (S : Nat → Prop) (w : World) : Chg S w w := ⟨rfl, rfl, rfl, Nat.le_refl _, fun _ _ _ => rfl⟩
theorem Chg.of_ext (h : Ext w w1) (S : Nat → Prop) : Chg S w w1 := ⟨Below.os h, Below.tape h, Below.output h, Below.size h, fun k hk _ => Below.block h k hk⟩
theorem Chg.of_grown {row : Option Nat} (h : w.grownBy w1 row) (hS : ∀ k, k < w.heap.size → row = some k → S k) : Chg S w w1 := ⟨h.os, h.tape, h.output, h.size, fun k hk hn => h.block k hk (fun e => hn (hS k hk e.symm))⟩
theorem Chg.of_set (w : World) {a : Addr} (v : Value) (hS : S a.block) : Chg S w (w.setCell a v) :=
  ⟨rfl, rfl, rfl, by simp [World.setCell], fun k _ hn => Below.heap_setCell w a v k (fun e => hn (by rw [e]; exact hS))⟩
theorem Chg.trans (h : Chg S w w1) (k : Chg S' w1 w2) (hS : ∀ i, i < w.heap.size → S' i → S i) : Chg S w w2 :=
  ⟨k.os.trans h.os, k.tape.trans h.tape, k.output.trans h.output, Nat.le_trans h.size k.size, fun i hi hn => (k.block i (Nat.lt_of_lt_of_le hi h.size) (fun hs => hn (hS i hi hs))).trans (h.block i hi hn)⟩
theorem Chg.mono (h : Chg S w w1) (hS : ∀ i, i < w.heap.size → S i → S' i) : Chg S' w w1 := ⟨h.os, h.tape, h.output, h.size, fun i hi hn => h.block i hi (fun hs => hn (hS i hi hs))⟩
theorem Chg.ext (h : Chg S w w1) (hS : ∀ i, i < w.heap.size → ¬ S i) : Ext w w1 := ⟨h.os, h.tape, h.output, h.size, fun i hi => h.block i hi (hS i hi)⟩
theorem Ext.chg (h : Ext w w1) (k : Chg S w1 w2) (hS : ∀ i, i < w.heap.size → ¬ S i) : Ext w w2 :=
  Below.trans h ⟨k.os, k.tape, k.output, k.size, fun i hi => k.block i (Nat.lt_of_lt_of_le hi h.size) (hS i hi)⟩
theorem Chg.cell (h : Chg S w w1) {a : Addr} {v : Value} (hc : w.cell? a = some v) (hn : ¬ S a.block) : w1.cell? a = some v :=
  (World.cell?_of_block (h.block a.block (World.block_lt_of_cell? w a hc) hn)).trans hc
theorem Chg.row (h : Chg S w w1) {g : Nat} {t : TypeId} {cs : Array Value} (hr : Row w g t cs) (hn : ¬ S g) : Row w1 g t cs := hr.keep (h.block g hr.lt hn)
theorem Chg.owns (h : Chg S w w1) {base : Nat} {e : TypeId} {size : Nat} {v : Value} {n : Nat} {xs : List Value} (ho : w.ownsRow base e size v n xs) (hn : ∀ g, v.ownBlock = some g → ¬ S g) : w1.ownsRow base e size v n xs := by
  obtain ⟨h1, h2⟩ := ho
  refine ⟨h1, ?_⟩
  rcases h2 with h2 | ⟨g, cap, cur, hv, hg, hh, r⟩
  · exact .inl h2
  · exact .inr ⟨g, cap, cur, hv, hg, (h.block g (Array.getElem?_eq_some_iff.1 hh).1 (hn g (by rw [hv]; rfl))).trans hh, r⟩
theorem Chg.cells (h : Chg S w w1) {A : Option Addr} {xs : List Value} (hc : Cells w A xs) (hn : ∀ a, A = some a → ¬ S a.block) : Cells w1 A xs := by
  rcases hc with hc | ⟨g, o, hA, hc⟩
  · exact .inl hc
  · exact .inr ⟨g, o, hA, fun i v hv => h.cell (hc i v hv) (show ¬ S g from hn _ hA)⟩
end
theorem owns_row {w : World} {base : Nat} {e : TypeId} {size : Nat} {v : Value} {n : Nat} {xs : List Value} (h : w.ownsRow base e size v n xs) {g : Nat} (hg : v.ownBlock = some g) : ∃ cur, Row w g e cur ∧ base ≤ g := by
  rcases h.2 with ⟨rfl, _⟩ | ⟨g', cap, cur, rfl, hb, hh, _⟩
  · simp [Value.ownBlock] at hg
  · simp [Value.ownBlock] at hg
    subst hg
    exact ⟨cur, hh, hb⟩
theorem owns_unlike {w : World} {base : Nat} {e : TypeId} {size : Nat} {v : Value} {n : Nat} {xs : List Value} (h : w.ownsRow base e size v n xs) {g : Nat} {t : TypeId} {cs : Array Value} (hr : Row w g t cs) (hne : e ≠ t) : v.ownBlock ≠ some g := fun hg => by
  obtain ⟨cur, h1, _⟩ := owns_row h hg
  exact Row.unlike h1 hr hne rfl
theorem owns_shape {w : World} {base : Nat} {e : TypeId} {size : Nat} {v : Value} {n : Nat} {xs : List Value} (h : w.ownsRow base e size v n xs) : ∃ A c, v = .slice A n c := by
  rcases h.2 with ⟨rfl, rfl⟩ | ⟨g, cap, cur, rfl, _⟩
  · exact ⟨none, 0, rfl⟩
  · exact ⟨_, cap, rfl⟩
section
variable {S : Nat → Prop} {w w1 : World}
theorem owns_set {w : World} {base : Nat} {e : TypeId} {size : Nat} {v : Value} {n : Nat} {xs : List Value} (h : w.ownsRow base e size v n xs) {a : Addr} (ha : v.ownBlock ≠ some a.block) (u : Value) : (w.setCell a u).ownsRow base e size v n xs :=
  (Chg.of_set (S := fun k => k = a.block) w u rfl).owns h fun g hg hk => ha (by rw [hg, hk])
end
structure Elem (P : Program) (t e size bytes : Nat) : Prop where
  ht : P.underlying t = some (.slice e)
  hi : ∃ i z, P.info? e = some i ∧ i.zero = some z ∧ i.size = size ∧ i.bytes = bytes ∧ z.cells.size = size
  hs : 0 < size
  hb : bytes ≤ 1024
theorem run_app {P : Program} {t e size bytes : Nat} (E : Elem P t e size bytes) (w : World) (ty : TypeId) {base : Nat} {v : Value} {n : Nat} {xs : List Value} (hown : w.ownsRow base e size v n xs)
    {A : Option Addr} {m c : Nat} {news : List Value} (hr : Cells w A news) (hl : news.length = m * size) (h1 : ∀ u ∈ news, u.oneCell' = true) (hsz : n + m ≤ 4294967296) (hbase : base ≤ w.heap.size) :
    ∃ A1 c1 w', (Builtin.append_ #[t, t] ty #[v, .slice A m c]).run P w = .ok (.slice A1 (n + m) c1) w' ∧ w'.ownsRow base e size (.slice A1 (n + m) c1) (n + m) (xs ++ news) ∧ w.grownBy w' v.ownBlock ∧
      ((Value.slice A1 (n + m) c1).ownBlock = v.ownBlock ∨ (Value.slice A1 (n + m) c1).ownBlock = some w.heap.size) := by
  suffices hh : ∃ v' w', (Builtin.append_ #[t, t] ty #[v, .slice A m c]).run P w = .ok v' w' ∧ w'.ownsRow base e size v' (n + m) (xs ++ news) ∧ w.grownBy w' v.ownBlock ∧ (v'.ownBlock = v.ownBlock ∨ v'.ownBlock = some w.heap.size) by
    obtain ⟨v', w', h1, h2, h3⟩ := hh
    obtain ⟨A1, c1, rfl⟩ := owns_shape h2
    exact ⟨A1, c1, w', h1, h2, h3⟩
  obtain ⟨i, z, hi, hz, h3, h4, h5⟩ := E.hi
  have hbytes : (n + m) * bytes ≤ 140737488355328 := Nat.le_trans (Nat.mul_le_mul hsz E.hb) (by omega)
  cases A with
  | some a =>
    have hc : ∀ j u, news[j]? = some u → w.cell? (a.add j) = some u := by
      intro j u hu
      rcases hr with hr | ⟨g, o, hA, hc⟩
      · subst hr; simp at hu
      · cases hA
        rw [Addr.add_lit]
        exact hc j u hu
    obtain ⟨v', w', hrun, h6, h7, _, h8⟩ := run_append_own_at (P := P) w base t ty e i z size bytes E.ht hi hz h3 h4 h5 E.hs v n xs hown a m c news hl hc h1 (by unfold maxLen; omega) hbytes hbase
    exact ⟨v', w', hrun, h6, h7, h8⟩
  | none =>
    have hnil : news = [] := by
      rcases hr with hr | ⟨g, o, hA, _⟩
      · exact hr
      · cases hA
    subst hnil
    have hm : m = 0 := by
      have := E.hs
      rcases Nat.mul_eq_zero.1 (show m * size = 0 from hl.symm) with h | h
      · exact h
      · omega
    subst hm
    refine ⟨v, w, ?_, by simpa using hown, World.grownBy.refl w _, .inl rfl⟩
    rcases hown.2 with ⟨rfl, rfl⟩ | ⟨g, cap, cur, rfl, _, _, hnc, _⟩
    · simp [Builtin.append_, run_underlying E.ht, sizeOf, typeInfo, hi, Builtin.lenOf, Builtin.firstCells]
    · simp [Builtin.append_, run_underlying E.ht, sizeOf, typeInfo, hi, Builtin.lenOf, Builtin.firstCells, hnc, storeCells]
theorem wpList_app {P : Program} {ops : Array Oper} {rest : List Oper} {o : Oper} {a : Act} {Q : Exit → Act → World → Prop} {w : World} {t e size bytes : Nat} (E : Elem P t e size bytes)
    {base : Nat} {v : Value} {n : Nat} {xs : List Value} {A : Option Addr} {m m' c : Nat} {news : List Value} (hown : w.ownsRow base e size v n xs) (hr : Cells w A news) (s x : Operand)
    (ho : o.op = .call { callee := .builtin .append, args := #[s, x], argTypes := #[t, t] }) (hgd : o.guard = none)
    (hs : a.eval s = v) (hx : a.eval x = .slice A m' c) (hm : m' = m) (hl : news.length = m * size) (h1 : ∀ u ∈ news, u.oneCell' = true) (hsz : n + m ≤ 4294967296) (hbase : base ≤ w.heap.size)
    (h : ∀ A1 c1 w', w'.ownsRow base e size (.slice A1 (n + m) c1) (n + m) (xs ++ news) → w.grownBy w' v.ownBlock → ((Value.slice A1 (n + m) c1).ownBlock = v.ownBlock ∨ (Value.slice A1 (n + m) c1).ownBlock = some w.heap.size) → wpList P ops Q rest (a.put o.dst (.slice A1 (n + m) c1)) w') : wpList P ops Q (o :: rest) a w :=
  wpList_plain hgd fun K hK => by
    subst hm
    obtain ⟨A1, c1, w', hrun, h2, h3, h4⟩ := run_app (P := P) E w o.type hown (c := c) hr hl h1 hsz hbase
    unfold Oper.wp execOp
    simp only [ho, resolve, invoke, builtin, Sem.run_bind, Sem.run_pure, Result.andThen_ok, List.map_toArray, List.map_cons, List.map_nil, hs, hx, hrun]
    exact hK _ _ (h A1 c1 w' h2 h3 h4)
theorem wpList_appN {P : Program} {ops : Array Oper} {rest : List Oper} {o : Oper} {a : Act} {Q : Exit → Act → World → Prop} {w0 : World} {us : List Value} {T : TypeId} {t e bytes : Nat} (E : Elem P t e 1 bytes)
    {base : Nat} {v : Value} {n : Nat} {xs : List Value} (hown : w0.ownsRow base e 1 v n xs) (s x : Operand)
    (ho : o.op = .call { callee := .builtin .append, args := #[s, x], argTypes := #[t, t] }) (hgd : o.guard = none)
    (hs : a.eval s = v) (hx : a.eval x = .slice (some ⟨w0.heap.size, 0, none⟩) us.length us.length) (h1 : ∀ u ∈ us, u.oneCell' = true) (hsz : n + us.length ≤ 4294967296) (hbase : base ≤ w0.heap.size)
    (h : ∀ A1 c1 w', w'.ownsRow base e 1 (.slice A1 (n + us.length) c1) (n + us.length) (xs ++ us) → w0.grownBy w' v.ownBlock → ((Value.slice A1 (n + us.length) c1).ownBlock = v.ownBlock ∨ (Value.slice A1 (n + us.length) c1).ownBlock = some (w0.heap.size + 1)) →
      wpList P ops Q rest (a.put o.dst (.slice A1 (n + us.length) c1)) w') :
    wpList P ops Q (o :: rest) a (w0.alloc (.cells us.toArray T)) := by
  refine wpList_app E (((Ext.refl w0).alloc _).owns hown) (A := some ⟨w0.heap.size, 0, none⟩) (news := us) (.inr ⟨w0.heap.size, 0, rfl, fun i u hu => ?_⟩) s x ho hgd hs hx rfl (by simp) h1 hsz (by simp; omega) fun A1 c1 w' h2 h3 h4 => ?_
  · rw [Nat.zero_add, cell_of_row _ _ _ _ _ _ (heap_alloc_new w0 _)]
    simpa using hu
  · refine h A1 c1 w' h2 ⟨h3.os, h3.tape, h3.output, Nat.le_trans (by simp) h3.size, fun k hk hne => (h3.block k (by simp; omega) hne).trans (Below.heap_alloc w0 _ k hk)⟩ ?_
    simpa using h4
theorem one_of {us : List Value} (h : us.all Value.oneCell' = true) : ∀ u ∈ us, u.oneCell' = true := fun u hu => List.all_eq_true.1 h u hu
def B8 (c : UInt8) : Value := .int .u8 c.toNat
def Bs (w : World) (A : Option Addr) (l : List UInt8) : Prop := Cells w A (l.map B8)
theorem Bs.ext {w w1 : World} {A : Option Addr} {l : List UInt8} (h : Bs w A l) (he : Ext w w1) : Bs w1 A l := Cells.ext h he
theorem Bs.at_ {w : World} {A : Option Addr} {l : List UInt8} (h : Bs w A l) (hne : 0 < l.length) :
    ∃ g o, A = some ⟨g, o, none⟩ ∧ ∀ i (hi : i < l.length), w.cell? ⟨g, o + i, none⟩ = some (.int .u8 (l[i].toNat : Int)) := by
  obtain ⟨g, o, hA, hc⟩ := Cells.at_ h (by simpa using hne)
  exact ⟨g, o, hA, fun i hi => hc i _ (by simp [hi, B8])⟩
theorem run_min2 {P : Program} (ts : Array TypeId) (ty : TypeId) {x y m : Int} (hm : m = min x y) (W : World) : (Builtin.min_ ts ty #[.int .i64 x, .int .i64 y]).run P W = .ok (.int .i64 m) W := by
  simp only [Builtin.min_, List.foldlM, Builtin.min2, Sem.run_bind, Sem.run_pure, Result.andThen_ok]
  subst hm
  congr 2
  split <;> omega
theorem Bs.cut {w : World} {g o : Nat} {l : List UInt8} (h : Bs w (some ⟨g, o, none⟩) l) (f k : Nat) : Cells w (some ⟨g, o + f, none⟩) (((l.drop f).take k).map B8) := by
  rcases h with h | ⟨g', o', hA, hc⟩
  · have : l = [] := by simpa using h
    subst this
    exact .inl (by simp)
  · cases hA
    refine .inr ⟨g, o + f, rfl, fun i v hv => ?_⟩
    rw [Nat.add_assoc]
    refine hc (f + i) v ?_
    rw [List.getElem?_map] at hv ⊢
    rw [List.getElem?_take] at hv
    split at hv
    · rw [List.getElem?_drop] at hv; exact hv
    · simp at hv
theorem bytes_one (l : List UInt8) : ∀ u ∈ l.map B8, u.oneCell' = true := by
  intro u hu
  obtain ⟨_, _, rfl⟩ := List.mem_map.1 hu
  rfl
theorem ret_bool {a b : Bool} (h : a = b) : Ending.returned (.bool a) = .returned (.bool b) := by rw [h]
theorem ret_int {k : IntKind} {a b : Int} (h : a = b) : Ending.returned (.int k a) = .returned (.int k b) := by rw [h]
end
section
open Go.RowKit
def Buf (w : World) (base : Nat) (e : TypeId) (A : Option Addr) (n c : Nat) (xs : List Value) : Prop :=
  xs.length = n ∧ n ≤ c ∧ ((A = none ∧ c = 0) ∨ ∃ g cur, A = some ⟨g, 0, none⟩ ∧ base ≤ g ∧ Row w g e cur ∧ c ≤ cur.size ∧ cur.toList.take n = xs)
section
variable {w w1 : World} {base : Nat} {e : TypeId} {A : Option Addr} {n c : Nat} {xs : List Value}
theorem Buf.nil (w : World) (base : Nat) (e : TypeId) : Buf w base e none 0 0 [] := ⟨rfl, Nat.le_refl _, .inl ⟨rfl, rfl⟩⟩
theorem Buf.of_own (h : w.ownsRow base e 1 (.slice A n c) n xs) : Buf w base e A n c xs := by
  obtain ⟨h1, h2⟩ := h
  rcases h2 with ⟨hv, rfl⟩ | ⟨g, cap, cur, hv, hb, hg, hn, _, hs, ht⟩
  · cases hv
    exact ⟨by simpa using h1, Nat.le_refl _, .inl ⟨rfl, rfl⟩⟩
  · cases hv
    exact ⟨by simpa using h1, hn, .inr ⟨g, cur, rfl, hb, hg, by omega, by simpa using ht⟩⟩
theorem Buf.cells (h : Buf w base e A n c xs) : Cells w A xs := by
  obtain ⟨h1, h2, h3⟩ := h
  rcases h3 with ⟨rfl, rfl⟩ | ⟨g, cur, rfl, hb, hg, hs, ht⟩
  · exact .inl (List.eq_nil_of_length_eq_zero (by omega))
  · refine .inr ⟨g, 0, rfl, fun i v hv => ?_⟩
    rw [Nat.zero_add, cell_of_row w g i cur e (0, 0) hg]
    rw [← ht, List.getElem?_take] at hv
    split at hv
    · simpa using hv
    · cases hv
theorem Buf.keep (h : Buf w base e A n c xs) (hk : ∀ g, A = some ⟨g, 0, none⟩ → w1.heap[g]? = w.heap[g]?) : Buf w1 base e A n c xs := by
  obtain ⟨h1, h2, h3⟩ := h
  refine ⟨h1, h2, ?_⟩
  rcases h3 with h3 | ⟨g, cur, hA, hb, hg, r⟩
  · exact .inl h3
  · exact .inr ⟨g, cur, hA, hb, hg.keep (hk g hA), r⟩
theorem Buf.lt (h : Buf w base e A n c xs) : ∀ a, A = some a → a.block < w.heap.size := by
  rintro a rfl
  obtain ⟨_, _, h3⟩ := h
  rcases h3 with ⟨h3, _⟩ | ⟨g, cur, hA, hb, hg, r⟩
  · cases h3
  · cases hA
    exact hg.lt
theorem Buf.base_le (h : Buf w base e A n c xs) : ∀ a, A = some a → base ≤ a.block := by
  rintro a rfl
  obtain ⟨_, _, h3⟩ := h
  rcases h3 with ⟨h3, _⟩ | ⟨g, cur, hA, hb, hg, r⟩
  · cases h3
  · cases hA
    exact hb
theorem Buf.chg {S : Nat → Prop} (h : Buf w base e A n c xs) (hc : Chg S w w1) (hn : ∀ a, A = some a → ¬ S a.block) : Buf w1 base e A n c xs :=
  h.keep fun g hA => hc.block g (h.lt _ hA) (hn _ hA)
theorem Buf.grown {row : Option Nat} (h : Buf w base e A n c xs) (hg : w.grownBy w1 row) (hne : ∀ a, A = some a → row ≠ some a.block) : Buf w1 base e A n c xs :=
  h.keep fun g hA => hg.block g (h.lt _ hA) (fun e => hne _ hA e.symm)
theorem Buf.ext (h : Buf w base e A n c xs) (he : Ext w w1) : Buf w1 base e A n c xs := h.keep fun g hA => Below.block he g (h.lt _ hA)
theorem Buf.alloc (h : Buf w base e A n c xs) (o : Obj) : Buf (w.alloc o) base e A n c xs := h.ext ((Ext.refl w).alloc o)
theorem Buf.drew (h : Buf w base e A n c xs) : Buf w.drew base e A n c xs := h.keep fun _ _ => rfl
theorem Buf.setCell (h : Buf w base e A n c xs) {p : Addr} (hp : ∀ a, A = some a → a.block ≠ p.block) (u : Value) : Buf (w.setCell p u) base e A n c xs :=
  h.keep fun g hA => Below.heap_setCell w p u g (hp _ hA)
theorem Buf.unlike (h : Buf w base e A n c xs) {g : Nat} {t : TypeId} {cs : Array Value} (hr : Row w g t cs) (hne : e ≠ t) : ∀ a, A = some a → a.block ≠ g := by
  rintro a rfl
  obtain ⟨_, _, h3⟩ := h
  rcases h3 with ⟨h3, _⟩ | ⟨k, cur, hA, hb, hg, r⟩
  · cases h3
  · cases hA
    exact hg.unlike hr hne
theorem Buf.cut (h : Buf w base e A n c xs) {m k : Nat} (hm : m ≤ n) (hk : m ≤ k) (hkc : k ≤ c) : Buf w base e A m k (xs.take m) := by
  obtain ⟨h1, h2, h3⟩ := h
  refine ⟨by rw [List.length_take]; omega, hk, ?_⟩
  rcases h3 with ⟨hA, h3⟩ | ⟨g, cur, hA, hb, hg, hs, ht⟩
  · exact .inl ⟨hA, by omega⟩
  · refine .inr ⟨g, cur, hA, hb, hg, by omega, ?_⟩
    rw [← ht, List.take_take, Nat.min_eq_left hm]
theorem Buf.lower (h : Buf w base e A n c xs) {b : Nat} (hb : b ≤ base) : Buf w b e A n c xs := by
  obtain ⟨h1, h2, h3⟩ := h
  refine ⟨h1, h2, ?_⟩
  rcases h3 with h3 | ⟨g, cur, hA, hb', r⟩
  · exact .inl h3
  · exact .inr ⟨g, cur, hA, by omega, r⟩
end
theorem grown_setRow (w : World) (g : Nat) (cs : Array Value) : w.grownBy (w.setRow g cs) (some g) :=
  ⟨rfl, rfl, rfl, by simp [World.setRow], fun k _ hne => setRow_other w g k cs (fun e => hne (by rw [e]))⟩
theorem run_buf {P : Program} {t e bytes : Nat} (E : Elem P t e 1 bytes) (w : World) (ty : TypeId) {base : Nat} {A : Option Addr} {n c : Nat} {xs : List Value} (hb : Buf w base e A n c xs)
    {B : Option Addr} {m c' : Nat} {news : List Value} (hr : Cells w B news) (hl : news.length = m) (h1 : ∀ u ∈ news, u.oneCell' = true) (hsz : n + m ≤ 4294967296) (hbase : base ≤ w.heap.size) :
    ∃ A1 c1 w', (Builtin.append_ #[t, t] ty #[.slice A n c, .slice B m c']).run P w = .ok (.slice A1 (n + m) c1) w' ∧ Buf w' base e A1 (n + m) c1 (xs ++ news) ∧ w.grownBy w' (Value.slice A n c).ownBlock ∧
      (A1 = A ∨ A1 = some ⟨w.heap.size, 0, none⟩) := by
  obtain ⟨i, z, hi, hz, h3, h4, h5⟩ := E.hi
  have hbytes : (n + m) * bytes ≤ 4398046511104 := Nat.le_trans (Nat.mul_le_mul hsz E.hb) (by omega)
  obtain ⟨hx, hnc, hA⟩ := hb
  rcases hA with ⟨rfl, rfl⟩ | ⟨g, cur, rfl, hbg, hg, hs, ht⟩
  · obtain rfl : n = 0 := by omega
    obtain rfl : xs = [] := List.eq_nil_of_length_eq_zero hx
    obtain ⟨A1, c1, w', hrun, ho, hgr, hloc⟩ := run_app E w ty (base := base) (v := .slice none 0 0) (n := 0) (xs := []) ⟨rfl, .inl ⟨rfl, rfl⟩⟩ (c := c') hr (by omega) h1 hsz hbase
    refine ⟨A1, c1, w', hrun, Buf.of_own ho, hgr, ?_⟩
    rcases ho.2 with ⟨hv, _⟩ | ⟨g, cap, cur, hv, _⟩
    · injection hv with hA1 _ _
      exact .inl hA1
    · injection hv with hA1 _ _
      subst hA1
      rcases hloc with hloc | hloc
      · simp [Value.ownBlock] at hloc
      · simp [Value.ownBlock] at hloc
        subst hloc
        exact .inr rfl
  · cases B with
    | none =>
      have hnil : news = [] := by
        rcases hr with hr | ⟨_, _, hB, _⟩
        · exact hr
        · cases hB
      subst hnil
      obtain rfl : m = 0 := by simpa using hl.symm
      refine ⟨some ⟨g, 0, none⟩, c, w, ?_, ⟨by simpa using hx, by omega, .inr ⟨g, cur, rfl, hbg, hg, hs, by simpa using ht⟩⟩, World.grownBy.refl w _, .inl rfl⟩
      simp [Builtin.append_, run_underlying E.ht, sizeOf, typeInfo, hi, Builtin.lenOf, Builtin.firstCells, hnc, storeCells]
    | some a =>
      have hc : ∀ j u, news[j]? = some u → w.cell? (a.add j) = some u := by
        intro j u hu
        rcases hr with hr | ⟨g', o', hB, hc⟩
        · subst hr; simp at hu
        · cases hB
          rw [Addr.add_lit]
          exact hc j u hu
      by_cases hroom : n + m ≤ c
      · refine ⟨some ⟨g, 0, none⟩, c, _, run_append_room w t ty e i E.ht hi g n c cur hg a m c' news (by rw [h3]; omega) hc h1 hroom (by rw [h3]; omega), ⟨by rw [List.length_append]; omega, hroom, .inr ⟨g, _, rfl, hbg, setRow_heap w g cur _ e (0, 0) hg, ?_, ?_⟩⟩, grown_setRow w g _, .inl rfl⟩
        · simp [h3]
          omega
        · have hxl : (List.take (n * i.size) cur.toList) = xs := by rw [h3, Nat.mul_one]; exact ht
          simp only [hxl]
          rw [List.take_append_of_le_length (by rw [List.length_append]; omega), List.take_of_length_le (by rw [List.length_append]; omega)]
      · have hb2 := nextslicecap_le (need := n + m) (old := c) (by omega)
        have hb3 : Builtin.nextslicecap (n + m) c * bytes ≤ 2 * (n + m) * bytes := Nat.mul_le_mul_right _ hb2
        have hb4 : 2 * (n + m) * bytes = 2 * ((n + m) * bytes) := Nat.mul_assoc _ _ _
        have hge := grownCap_ge w (n + m) c e
        have holds : ∀ (j : Nat) (v : Value), xs[j]? = some v → w.cell? (Addr.add ⟨g, 0, none⟩ j) = some v := by
          intro j v hv
          rw [Addr.add_lit, Nat.zero_add, cell_of_row w g j cur e (0, 0) hg]
          rw [← ht, List.getElem?_take] at hv
          split at hv
          · simpa using hv
          · cases hv
        refine ⟨some ⟨w.heap.size, 0, none⟩, grownCap w (n + m) c e, _, run_append_grow w t ty e i z E.ht hi hz ⟨g, 0, none⟩ n c xs (by rw [h3]; omega) holds a m c' news (by rw [h3]; omega) hc (by omega) (by omega) (by rw [h4]; omega), ⟨by rw [List.length_append]; omega, hge, .inr ⟨w.heap.size, _, rfl, hbase, heap_alloc_new w.drew _, ?_, ?_⟩⟩, ?_, .inr rfl⟩
        · simp only [Array.size_append, List.size_toArray, size_zeroCells, h5]
          omega
        · simp only [Array.toList_append]
          rw [List.take_append_of_le_length (by rw [List.length_append]; omega), List.take_of_length_le (by rw [List.length_append]; omega)]
        · exact (Ext.refl w |>.drew.alloc _) |> fun h => ⟨Below.os h, Below.tape h, Below.output h, Below.size h, fun k hk _ => Below.block h k hk⟩
end
section
open Go.RowKit
theorem follows : Tryz.prog.follows .mixedOrders = true := by kernel_rfl
theorem modify_push {α : Type} (h : Array α) (x : α) (f : α → α) : (h.push x).modify h.size f = h.push (f x) := by
  apply Array.ext
  · simp
  · intro i h1 h2
    simp only [Array.getElem_modify, Array.getElem_push]
    simp only [Array.size_push] at h2
    split
    · rename_i he
      subst he
      rw [dif_neg (by omega), dif_neg (by omega)]
    · rename_i he
      rw [dif_pos (by omega), dif_pos (by omega)]
theorem freeze_new (w : World) (cs : Array Value) (t : TypeId) (n : Nat) : (w.alloc (.cells cs t)).freeze ⟨w.heap.size, n, none⟩ 1 = w.alloc (.cells cs t (n, n + 1)) := by
  unfold World.freeze World.alloc
  rw [if_neg (by omega)]
  simp only [modify_push]
  rfl
set_option maxRecDepth 100000 in
theorem elemB : Elem Tryz.prog 25 5 1 1 := ⟨Tryz.underlying25, ⟨_, _, rfl, rfl, rfl, rfl, rfl⟩, by omega, by omega⟩
set_option maxRecDepth 100000 in
theorem nil_eq (w : World) : (binOp .eql 25 (.slice none 0 0) (.slice none 0 0)).run Tryz.prog w = .ok (.bool true) w := by kernel_rfl
set_option maxRecDepth 100000 in
theorem nil_ne (a : Addr) (n c : Nat) (w : World) : (binOp .eql 25 (.slice (some a) n c) (.slice none 0 0)).run Tryz.prog w = .ok (.bool false) w := by kernel_rfl
theorem ret_slice {A : Option Addr} {n m c : Nat} (h : n = m) : Ending.returned (.slice A n c) = .returned (.slice A m c) := by rw [h]
theorem own_empty (w : World) (t : TypeId) : (w.alloc (.cells #[] t)).ownsRow w.heap.size t 1 (.slice (some ⟨w.heap.size, 0, none⟩) 0 0) 0 [] :=
  ⟨rfl, .inr ⟨w.heap.size, 0, #[], rfl, Nat.le_refl _, heap_alloc_new w _, Nat.le_refl _, by unfold maxLen; omega, rfl, rfl⟩⟩
set_option maxRecDepth 100000 in
theorem run_same (w : World) (cs : Array Value) (n c : Nat) : (convert 25 25 (.slice (some ⟨w.heap.size, 0, none⟩) n c)).run Tryz.prog (w.alloc (.cells cs 5)) = .ok (.slice (some ⟨w.heap.size, 0, none⟩) n c) (w.alloc (.cells cs 5 (cs.size, cs.size + 1))) := by
  have hs : (w.alloc (.cells cs 5)).shape? w.heap.size = some (5, cs.size) := by
    unfold World.shape?
    rw [heap_alloc_new w _]
  unfold convert
  simp only [Sem.run_bind, run_underlying Tryz.underlying25, Result.andThen_ok]
  show Sem.run _ (do
      let __do_lift ← underlying 5
      match (25 : TypeId) == 25, __do_lift with
        | true, TypeDesc.int IntKind.u8 => do
          markStringish ⟨w.heap.size, 0, none⟩
          pure (Value.slice (some ⟨w.heap.size, 0, none⟩) n c)
        | x, x_1 => unsupported (Unsupported.noEntry "convert/other")) _ = _
  simp only [Sem.run_bind, run_underlying Tryz.underlying5, Result.andThen_ok]
  show Sem.run _ (do
          markStringish ⟨w.heap.size, 0, none⟩
          pure (Value.slice (some ⟨w.heap.size, 0, none⟩) n c)) _ = _
  unfold markStringish
  simp only [Sem.run_bind, run_shape, Result.andThen_ok, hs, run_freeze, freeze_new, Sem.run_pure]
set_option maxRecDepth 100000 in
theorem run_str {A : Option Addr} {l : List UInt8} {w : World} (h : Bs w A l) (n c : Nat) (hn : n = l.length) : (convert 25 9 (.slice A n c)).run Tryz.prog w = .ok (.string ⟨l.toArray⟩) w := by
  subst hn
  rcases Nat.eq_zero_or_pos l.length with h0 | h0
  · obtain rfl := List.eq_nil_of_length_eq_zero h0
    show (convert 25 9 (.slice A 0 c)).run Tryz.prog w = _
    rw [run_convert_bytes_string w 25 9 5 A 0 c Tryz.underlying25 Tryz.underlying5 Tryz.underlying9]
    cases A with
    | none => rfl
    | some a => exact run_bytesToString w a 0 c [] rfl
  · obtain ⟨g, o, rfl, hc⟩ := h.at_ h0
    have := run_convert_bytes_arg (P := Tryz.prog) w 25 5 Tryz.underlying25 Tryz.underlying5 g o l.length c (l.map fun x => (x.toNat : Int)) (by simp) (fun i hi => by rw [hc i hi]; simp [List.getD, hi]) 9 Tryz.underlying9
    rw [this]
    unfold strOfNums
    have e : (l.map fun x => (x.toNat : Int)).map (fun n => UInt8.ofNat n.toNat) = l := by
      rw [List.map_map]
      conv => rhs; rw [← List.map_id l]
      exact List.map_congr_left (fun x _ => by simp)
    rw [e]
theorem wpList_buf {P : Program} {ops : Array Oper} {rest : List Oper} {o : Oper} {a : Act} {Q : Exit → Act → World → Prop} {w : World} {t e bytes : Nat} (E : Elem P t e 1 bytes)
    {base : Nat} {A B : Option Addr} {n c m m' c' : Nat} {xs news : List Value} (hb : Buf w base e A n c xs) (hr : Cells w B news) (s x : Operand)
    (ho : o.op = .call { callee := .builtin .append, args := #[s, x], argTypes := #[t, t] }) (hgd : o.guard = none)
    (hs : a.eval s = .slice A n c) (hx : a.eval x = .slice B m' c') (hm : m' = m) (hl : news.length = m) (h1 : ∀ u ∈ news, u.oneCell' = true) (hsz : n + m ≤ 4294967296) (hbase : base ≤ w.heap.size)
    (h : ∀ A1 c1 w', Buf w' base e A1 (n + m) c1 (xs ++ news) → w.grownBy w' (Value.slice A n c).ownBlock → (∀ w0, Ext w0 w → w0.heap.size ≤ base → Ext w0 w') → (A1 = A ∨ A1 = some ⟨w.heap.size, 0, none⟩) → wpList P ops Q rest (a.put o.dst (.slice A1 (n + m) c1)) w') : wpList P ops Q (o :: rest) a w :=
  wpList_plain hgd fun K hK => by
    subst hm
    obtain ⟨A1, c1, w', hrun, h2, h3, h4⟩ := run_buf (P := P) E w o.type hb (c' := c') hr hl h1 hsz hbase
    unfold Oper.wp execOp
    simp only [ho, resolve, invoke, builtin, Sem.run_bind, Sem.run_pure, Result.andThen_ok, List.map_toArray, List.map_cons, List.map_nil, hs, hx, hrun]
    refine hK _ _ (h A1 c1 w' h2 h3 (fun w0 hE hw => hE.grown h3 fun k hk => ?_) h4)
    have hbl := hb.base_le
    cases A with
    | none => simp [Value.ownBlock] at hk
    | some b =>
      have := hbl b rfl
      simp [Value.ownBlock] at hk
      omega
theorem wpList_bufN {P : Program} {ops : Array Oper} {rest : List Oper} {o : Oper} {a : Act} {Q : Exit → Act → World → Prop} {w0 : World} {us : List Value} {T : TypeId} {t e bytes : Nat} (E : Elem P t e 1 bytes)
    {base : Nat} {A : Option Addr} {n c : Nat} {xs : List Value} (hb : Buf w0 base e A n c xs) (s x : Operand)
    (ho : o.op = .call { callee := .builtin .append, args := #[s, x], argTypes := #[t, t] }) (hgd : o.guard = none)
    (hs : a.eval s = .slice A n c) (hx : a.eval x = .slice (some ⟨w0.heap.size, 0, none⟩) us.length us.length) (h1 : ∀ u ∈ us, u.oneCell' = true) (hsz : n + us.length ≤ 4294967296) (hbase : base ≤ w0.heap.size)
    (h : ∀ A1 c1 w', Buf w' base e A1 (n + us.length) c1 (xs ++ us) → (∀ w00, Ext w00 w0 → w00.heap.size ≤ base → Ext w00 w') → wpList P ops Q rest (a.put o.dst (.slice A1 (n + us.length) c1)) w') :
    wpList P ops Q (o :: rest) a (w0.alloc (.cells us.toArray T)) := by
  refine wpList_buf E (hb.alloc _) (B := some ⟨w0.heap.size, 0, none⟩) (news := us) (.inr ⟨w0.heap.size, 0, rfl, fun i u hu => ?_⟩) s x ho hgd hs hx rfl rfl h1 hsz (by simp; omega) fun A1 c1 w' h2 _ h3 _ => h A1 c1 w' h2 fun w00 hE hle => h3 w00 (hE.alloc _) hle
  rw [Nat.zero_add, cell_of_row _ _ _ _ _ _ (heap_alloc_new w0 _)]
  simpa using hu
theorem Buf.none_cap {w : World} {base : Nat} {e : TypeId} {A : Option Addr} {n c : Nat} {xs : List Value} (h : Buf w base e A n c xs) (hA : A = none) : c = 0 := by
  rcases h.2.2 with ⟨_, h⟩ | ⟨g, _, h, _⟩
  · exact h
  · rw [h] at hA; cases hA
def NewB (w : World) (l : List UInt8) (e : Ending) (w' : World) : Prop := ∃ A c, e = .returned (.slice A l.length c) ∧ Buf w' w.heap.size 5 A l.length c (l.map B8) ∧ Ext w w'
end
section
open Go.RowKit
theorem bytes_take (l : List UInt8) (k : Nat) : (⟨l.toArray⟩ : ByteArray).extract 0 k = ⟨(l.take k).toArray⟩ := by
  have : ((⟨l.toArray⟩ : ByteArray).extract 0 k).data = (l.take k).toArray := by
    simp
  generalize (⟨l.toArray⟩ : ByteArray).extract 0 k = x at this
  cases x
  simp only at this
  rw [this]
set_option maxRecDepth 100000 in
theorem run_strhead (l : List UInt8) (k : Nat) (hk : k ≤ l.length) (W : World) : (Instr.sliceAt 9 (.string ⟨l.toArray⟩) none (some (.int .i64 k)) none).run Tryz.prog W = .ok (.string ⟨(l.take k).toArray⟩) W := by
  rw [run_sliceAt_string W 9 _ _ _ _ Tryz.underlying9]
  have hsz : (⟨l.toArray⟩ : ByteArray).size = l.length := ByteArray.size_mk_toArray l
  simp only [Instr.slice, Sem.run_bind, run_underlying Tryz.underlying9, Result.andThen_ok, Instr.sliceBounds, hsz, Option.isSome_none, Bool.false_eq_true, if_false, Sem.run_pure]
  rw [run_sliceBound W .i64 (k : Int) l.length _ (by omega) (by omega)]
  simp only [Result.andThen_ok, Int.toNat_natCast, bytes_take]
theorem run_strheadz {l : List UInt8} {k : Nat} (hk : k ≤ l.length) {z : Int} (hz : z = (k : Int)) (W : World) : (Instr.sliceAt 9 (.string ⟨l.toArray⟩) none (some (.int .i64 z)) none).run Tryz.prog W = .ok (.string ⟨(l.take k).toArray⟩) W := by
  subst hz
  exact run_strhead l k hk W
set_option maxRecDepth 100000 in
theorem run_strindex {l : List UInt8} {i : Nat} {b : UInt8} (h : l[i]? = some b) {z : Int} (hz : z = (i : Int)) (W : World) : (Instr.index 9 (.string ⟨l.toArray⟩) (.int .i64 z)).run Tryz.prog W = .ok (.int .u8 (b.toNat : Int)) W := by
  subst hz
  have hi := (List.getElem?_eq_some_iff.1 h).1
  have h2 := (List.getElem?_eq_some_iff.1 h).2
  have hsz : (⟨l.toArray⟩ : ByteArray).size = l.length := ByteArray.size_mk_toArray l
  rw [run_index_string W 9 _ .i64 (i : Int) Tryz.underlying9, dif_pos ⟨by omega, by rw [hsz]; omega⟩]
  have : ((⟨l.toArray⟩ : ByteArray)[(i : Int).toNat]'(by rw [hsz]; omega)) = b := by
    rw [← h2]
    simp only [Int.toNat_natCast]
    rfl
  rw [this]
theorem bytes_drop (l : List UInt8) (k : Nat) : (⟨l.toArray⟩ : ByteArray).extract k l.length = ⟨(l.drop k).toArray⟩ := by
  have : ((⟨l.toArray⟩ : ByteArray).extract k l.length).data = (l.drop k).toArray := by
    simp
    exact List.take_of_length_le (by rw [List.length_drop]; exact Nat.le_refl _)
  generalize (⟨l.toArray⟩ : ByteArray).extract k l.length = x at this
  cases x
  simp only at this
  rw [this]
set_option maxRecDepth 100000 in
theorem run_strtail (l : List UInt8) (k : Nat) (hk : k ≤ l.length) {z : Int} (hz : z = (k : Int)) (W : World) : (Instr.sliceAt 9 (.string ⟨l.toArray⟩) (some (.int .i64 z)) none none).run Tryz.prog W = .ok (.string ⟨(l.drop k).toArray⟩) W := by
  subst hz
  rw [run_sliceAt_string W 9 _ _ _ _ Tryz.underlying9]
  have hsz : (⟨l.toArray⟩ : ByteArray).size = l.length := ByteArray.size_mk_toArray l
  simp only [Instr.slice, Sem.run_bind, run_underlying Tryz.underlying9, Result.andThen_ok, Instr.sliceBounds, hsz, Option.isSome_none, Bool.false_eq_true, if_false, Sem.run_pure]
  rw [run_sliceBound W .i64 (k : Int) l.length _ (by omega) (by omega)]
  simp only [Result.andThen_ok, Int.toNat_natCast, bytes_drop]
end
section
open Go.RowKit
theorem cons_ltt (x y : UInt8) (a b : List UInt8) : decide (x :: a < y :: b) = if x = y then decide (a < b) else decide (x.toNat < y.toNat) := by
  by_cases h : x = y
  · rw [if_pos h]
    subst h
    congr 1
    apply propext
    rw [List.cons_lt_cons_iff]
    constructor
    · rintro (h | ⟨_, h⟩)
      · exact (UInt8.lt_irrefl _ h).elim
      · exact h
    · exact fun h => .inr ⟨rfl, h⟩
  · rw [if_neg h]
    congr 1
    apply propext
    rw [List.cons_lt_cons_iff]
    constructor
    · rintro (h1 | ⟨h1, _⟩)
      · exact h1
      · exact (h h1).elim
    · exact fun h1 => .inl h1
set_option maxRecDepth 100000 in
set_option maxHeartbeats 1000000 in
theorem eless_any (s t : List UInt8) (w : World) (hs : s.length ≤ 9223372036854775807) (ht : t.length ≤ 9223372036854775807) :
    Calls Tryz.prog 103 #[.string ⟨s.toArray⟩, .string ⟨t.toArray⟩] w fun e w' => e = .returned (.bool (decide (s < t))) ∧ Ext w w' := by
  obtain ⟨n, hn⟩ : ∃ n, n = s.length := ⟨_, rfl⟩
  obtain ⟨m, hm⟩ : ∃ m, m = t.length := ⟨_, rfl⟩
  have hsz : (⟨s.toArray⟩ : ByteArray).size = n := by rw [hn]; exact ByteArray.size_mk_toArray s
  have htz : (⟨t.toArray⟩ : ByteArray).size = m := by rw [hm]; exact ByteArray.size_mk_toArray t
  rw [← hn] at hs
  rw [← hm] at ht
  obtain ⟨b, hb⟩ : ∃ b, b = decide (s < t) := ⟨_, rfl⟩
  rw [← hb]
  replace hn := hide hn
  replace hm := hide hm
  replace hb := hide hb
  go_enter Tryz.func103, Tryz.ntmps103
  go_wp2_with fail
  go_loopw [5] (fun s5 wr => ∃ i : Nat, s5 = .int .i64 i ∧ i ≤ n ∧ i ≤ m ∧ Hid (b = decide (s.drop i < t.drop i)) ∧ Ext w wr) (fun s5 _ => n - (intOf s5).toNat)
  case atStart => exact ⟨0, rfl, by omega, by omega, hb, Ext.refl w⟩
  case round =>
    obtain ⟨i, rfl, hi, hi2, hbi, hE⟩ := hrel
    by_cases hin : i < n
    · by_cases him : i < m
      · have hil : i < s.length := by rw [← hn.out]; exact hin
        have hil2 : i < t.length := by rw [← hm.out]; exact him
        obtain ⟨x, hx⟩ : ∃ x, x = s[i] := ⟨_, rfl⟩
        obtain ⟨y, hy⟩ : ∃ y, y = t[i] := ⟨_, rfl⟩
        have hstep : b = if x = y then decide (s.drop (i + 1) < t.drop (i + 1)) else decide (x.toNat < y.toNat) := by
          rw [hbi.out, List.drop_eq_getElem_cons hil, List.drop_eq_getElem_cons hil2, cons_ltt, hx, hy]
        obtain ⟨c, hc⟩ : ∃ c, c = x.toNat := ⟨_, rfl⟩
        obtain ⟨e, he⟩ : ∃ e, e = y.toNat := ⟨_, rfl⟩
        have hcx : ((⟨s.toArray⟩ : ByteArray)[i]'(by rw [hsz]; exact hin)).toNat = c := by rw [hc, hx]; rfl
        have hcy : ((⟨t.toArray⟩ : ByteArray)[i]'(by rw [htz]; exact him)).toNat = e := by rw [he, hy]; rfl
        have hxy : x = y ↔ c = e := by rw [hc, he]; exact ⟨fun h => by rw [h], fun h => UInt8.toNat_inj.1 h⟩
        rw [← hc, ← he] at hstep
        replace hstep := hide hstep
        replace hx := hide hx
        replace hy := hide hy
        replace hc := hide hc
        replace he := hide he
        replace hxy := hide hxy
        by_cases hce : c = e
        · have hb2 : Hid (b = decide (s.drop (i + 1) < t.drop (i + 1))) := hide (by rw [hstep.out, if_pos (hxy.out.2 hce)])
          have q1 : ((c : Int) == e) = true := by rw [hce]; exact beq_self_eq_true _
          have q2 : ((c : Int) != e) = false := by rw [hce]; simp
          replace hce := hide hce
          go_wp2_with fail
          refine wp_region_text follows (by kernel_rfl) (by kernel_rfl) (fun K hK => ?_)
          go_wp2_with fail
          refine ⟨by kernel_rfl, ?_⟩
          go_wp2_with fail
          go_roundw
          case rel => exact ⟨i + 1, by go_num, by omega, by omega, hb2, hE.drew⟩
          case measure => simp [intOf]; omega
        · have hb2 : Hid (b = decide (c < e)) := hide (by rw [hstep.out, if_neg fun h => hce (hxy.out.1 h)])
          have q1 : ((c : Int) == e) = false := beq_eq_false_iff_ne.2 (by omega)
          have q2 : ((c : Int) != e) = true := by simp [bne, q1]
          replace hce := hide hce
          go_wp2_with fail
          refine wp_region_text follows (by kernel_rfl) (by kernel_rfl) (fun K hK => ?_)
          go_wp2_with fail
          refine ⟨by kernel_rfl, ?_⟩
          go_wp2_with fail
          refine wp_region_text follows (by kernel_rfl) (by kernel_rfl) (fun K hK => ?_)
          go_wp2_with fail
          refine ⟨by kernel_rfl, ?_⟩
          go_wp2_with fail
          go_ret
          rw [hb2.out]
          exact ⟨ret_bool (by first | rfl | (simp; done) | (simp; omega)), hE.drew.drew⟩
      · have hb2 : Hid (b = decide (n < m)) := hide (by
          rw [hbi.out, List.drop_eq_nil_of_le (show t.length ≤ i by rw [← hm.out]; omega)]
          rw [decide_eq_false (show ¬ n < m by omega), decide_eq_false (List.not_lt_nil _)])
        have q1 : decide (n < m) = false := decide_eq_false (by omega)
        go_wp2_with fail
        go_ret
        rw [hb2.out]
        exact ⟨ret_bool (by first | rfl | (simp; done) | (simp; omega)), hE⟩
    · have hb2 : Hid (b = decide (n < m)) := hide (by
        rw [hbi.out, List.drop_eq_nil_of_le (show s.length ≤ i by rw [← hn.out]; omega)]
        by_cases h : n < m
        · rw [decide_eq_true h]
          apply decide_eq_true
          have : i < t.length := by rw [← hm.out]; omega
          rw [List.drop_eq_getElem_cons this]
          exact List.nil_lt_cons _ _
        · rw [decide_eq_false h]
          apply decide_eq_false
          rw [List.drop_eq_nil_of_le (show t.length ≤ i by rw [← hm.out]; omega)]
          exact List.not_lt_nil _)
      go_wp2_with fail
      go_ret
      rw [hb2.out]
      exact ⟨ret_bool (by first | rfl | (simp; done) | (simp; omega)), hE⟩
end
section
open Go.RowKit
theorem wide_depth : Fence.wide.depth = none := rfl
theorem wide_fn (f : FuncId) : Fence.wide.fn f = True := rfl
def NC (B : Nat) (W : World) (k : Nat) : Prop := B ≤ k ∧ ∃ o, W.heap[k]? = some o ∧ o.isCells = false
theorem NC.not_row {B : Nat} {W : World} {g : Nat} {t : TypeId} {cs : Array Value} (h : Row W g t cs) : ¬ NC B W g := fun ⟨_, o, ho, hc⟩ => by
  unfold Row at h
  rw [h] at ho
  injection ho with ho
  subst ho
  cases hc
def Alike (B : Nat) (W W' : World) : Prop := Chg (NC B W) W W'
theorem Alike.refl (B : Nat) (W : World) : Alike B W W := Chg.refl _ _
theorem Alike.row {B : Nat} {W W' : World} {g : Nat} {t : TypeId} {cs : Array Value} (h : Alike B W W') (hr : Row W g t cs) : Row W' g t cs := Chg.row h hr (NC.not_row hr)
theorem Alike.ext {B : Nat} {w W W' : World} (h : Alike B W W') (hE : Ext w W) (hB : w.heap.size ≤ B) : Ext w W' := hE.chg h fun i hi hn => by have := hn.1; omega
theorem Alike.owns {B : Nat} {W W' : World} (h : Alike B W W') {base : Nat} {e : TypeId} {size : Nat} {v : Value} {n : Nat} {xs : List Value} (ho : W.ownsRow base e size v n xs) : W'.ownsRow base e size v n xs :=
  Chg.owns h ho fun g hg => by obtain ⟨cur, hr, _⟩ := owns_row ho hg; exact NC.not_row hr
theorem Alike.buf {B : Nat} {W W' : World} (h : Alike B W W') {base : Nat} {e : TypeId} {A : Option Addr} {n c : Nat} {xs : List Value} (hb : Buf W base e A n c xs) : Buf W' base e A n c xs :=
  hb.keep fun g hA => by
    rcases hb.2.2 with ⟨h0, _⟩ | ⟨g', cur, hA', _, hr, _⟩
    · rw [h0] at hA; cases hA
    · rw [hA'] at hA
      cases hA
      exact h.block _ hr.lt (NC.not_row hr)
theorem Alike.others {B : Nat} {W : World} {k : Nat} {o : Obj} (hk : W.heap[k]? = some o) (ho : o.isCells = false) (hB : B ≤ k) (o' : Obj) : Alike B W (W.putObj k o') :=
  ⟨rfl, rfl, rfl, by simp, fun j _ hn => World.putObj_heap_other (fun e => hn ⟨by omega, o, by rw [e]; exact hk, ho⟩)⟩
def Iter {α : Type} (P : Program) (gf : Nat) (lb : Array Value) (encs : α → Array Value) (St : World → World → Prop) (Nx : List α → α → World → Prop) (Kp : World → World → Prop) (Fin : List α → World → World → Prop) (w : World) : Prop :=
  ∀ (l : Nat) (J : List α → World → Prop) (W : World), Ext w W → (∀ pre A B, J pre A → St A B → J pre B) →
    (∀ pre x W1, J pre W1 → Nx pre x W1 → YieldAt Fence.wide 0 P l (encs x) W1 fun e W' => e = .returned (.bool true) ∧ J (pre ++ [x]) W' ∧ Kp W1 W') → J [] W →
    Calls P gf (#[.func (.yield l) #[] #[]] ++ lb) W fun e W' => (∃ v, e = .returned v) ∧ ∃ xs W2, J xs W2 ∧ Fin xs W2 W'
def roundDone {α : Type} (Kp : World → World → Prop) (I : List α → World → Prop) (xs : List α) (W : World) : Exit → Act → World → Prop
  | .normal, _, W' => KeepsOthers W W' ∧ Kp W W' ∧ I xs W'
  | _, _, _ => False
def roundGo {α : Type} (B : Nat) (P : Program) (l : Nat) (body : Code) (Kp : World → World → Prop) (I : List α → World → Prop) (xs : List α) (W : World) (a : Act) (W1 : World) : Prop :=
  KeepsOthers W W1 ∧ Kp W W1 ∧ ∀ W2, Alike B W1 W2 → body.wpIn (Fence.wide.inRound l) 0 P (roundDone Kp I xs W2) a W2
theorem range_all {α : Type} {P : Program} {g : Operand} {ps : Array Tmp} {assign body : Code} {Q : Exit → Act → World → Prop} {a : Act} {w : World} {gf : Nat} {lb : Array Value}
    (hg : a.eval g = .func (.func gf) #[] lb) (eg : ∀ args w, (callFunc gf args).run P w = .ok (.enter gf args) w)
    {encs : α → Array Value} {St : World → World → Prop} {Nx : List α → α → World → Prop} {Kp : World → World → Prop} {Fin : List α → World → World → Prop} (hit : Iter P gf lb encs St Nx Kp Fin w)
    (hps : ∀ x, (encs x).size = ps.size) (hSt : ∀ A B, St A B → KeepsOthers A B) (hFin : ∀ xs A B, Fin xs A B → KeepsOthers A B)
    (hKt : ∀ A B C, Kp A B → Kp B C → Kp A C) (hKb : ∀ A B, Alike w.heap.size A B → Kp A B)
    (I : List α → World → Prop) (hI : ∀ pre A B, I pre A → Alike w.heap.size A B → I pre B) (hIs : ∀ pre A B, I pre A → St A B → I pre B) (h0 : ∀ W, Alike w.heap.size w W → I [] W)
    (hround : ∀ (l : Nat) (pre : List α) (x : α) (W : World), I pre W → Nx pre x W → assign.wpIn (Fence.wide.inRound l) 0 P (Exit.then (roundGo w.heap.size P l body Kp I (pre ++ [x]) W) (fun _ _ _ => False)) { tmps := (ps.zip (encs x)).foldl (fun t (p, v) => t.setIfInBounds p v) a.tmps, defers := [] } W)
    (hdone : ∀ (D : Nat) (xs : List α) (W2 W3 W4 : World), w.heap.size ≤ D → I xs W2 → Fin xs W2 W3 → Alike w.heap.size W3 W4 → W4.heap[D]? = some (.deferred (some [])) → Q .normal { a with defers := { target := .collected D, args := #[] } :: a.defers } W4) :
    (Code.rangeFunc g ps assign body).wpIn Fence.wide 0 P Q a w := by
  refine wpIn_rangeFunc ?_
  intro fn hfn
  show ∃ _, _
  obtain ⟨rec, hrec⟩ : ∃ rec : LoopState → Option Code → Loop, rec = fun st pe => { state := st, pending := pe, fn, tmps := a.tmps, params := ps, assign, body, defers := w.heap.size } := ⟨_, rfl⟩
  obtain ⟨W1, hW1⟩ : ∃ W1, (w.alloc (.deferred (some []))).alloc (.loop (rec .ready none)) = W1 := ⟨_, rfl⟩
  have hL1 : W1.heap[w.heap.size + 1]? = some (.loop (rec .ready none)) := by
    rw [← hW1]; have := World.alloc_heap_new (w.alloc (.deferred (some []))) (.loop (rec .ready none)); rwa [World.size_alloc] at this
  have hK1 : W1.heap[w.heap.size]? = some (.deferred (some [])) := by
    rw [← hW1]; exact (Below.heap_alloc _ _ _ (by simp)).trans (World.alloc_heap_new w _)
  have hE1 : Ext w W1 := by rw [← hW1]; exact ((Ext.refl w).alloc _).alloc _
  refine ⟨w.heap.size + 1, [{ target := .collected w.heap.size, args := #[] }], W1, { target := .fn (.func gf) lb, args := #[.func (.yield (w.heap.size + 1)) #[] #[]] }, W1, gf,
    #[.func (.yield (w.heap.size + 1)) #[] #[]] ++ lb, W1, ?_, ?_, ?_, ?_, fun h => (by cases h), ?_⟩
  · rw [← hW1, hrec]; exact run_enterLoop_outer _ _ _ _ _
  · simp only [resolve, hg]
    simp [go_sem]
  · intro f' _; trivial
  · simp [invoke, go_sem, eg]
  · refine callsIn_wide.2 ((hit (w.heap.size + 1)
      (fun pre W => I pre W ∧ W.heap[w.heap.size + 1]? = some (.loop (rec .ready none)) ∧ W.heap[w.heap.size]? = some (.deferred (some [])))
      W1 hE1 (fun pre A B h hs => ⟨hIs pre A B h.1 hs, (hSt A B hs).same _ _ h.2.1 rfl, (hSt A B hs).same _ _ h.2.2 rfl⟩)
      ?_ ⟨h0 W1 (Chg.of_ext hE1 _), hL1, hK1⟩).mono ?_)
    · rintro pre x W ⟨hi, hl, hk⟩ hnx
      have hlt : w.heap.size + 1 < W.heap.size := (Array.getElem?_eq_some_iff.1 hl).1
      have hy := run_yield (P := P) (args := encs x) hl (by rw [hrec]; exact hps x)
      rw [hrec] at hy
      refine ⟨fn, _, assign, body, hy, roundIn_of_wpIn hfn ?_⟩
      refine wpIn_mono (hround _ pre x W hi hnx) ?_
      rintro e a1 W2 hq
      cases e with
      | normal =>
        obtain ⟨hko, hkp, hbody⟩ := hq
        have hl2 := hko.same _ _ hl rfl
        have hk2 := hko.same _ _ hk rfl
        have hlt2 : w.heap.size + 1 < W2.heap.size := (Array.getElem?_eq_some_iff.1 hl2).1
        refine ⟨W2.putObj (w.heap.size + 1) (.loop { rec .ready none with state := .busy }), run_beginRound hl2 (by rw [hrec]), ?_⟩
        have ha := Alike.others (B := w.heap.size) hl2 rfl (by omega) (.loop { rec .ready none with state := .busy })
        have hl3 : (W2.putObj (w.heap.size + 1) (.loop { rec .ready none with state := .busy })).heap[w.heap.size + 1]? = some (.loop { rec .ready none with state := .busy }) := World.putObj_heap_same hlt2
        have hk3 : (W2.putObj (w.heap.size + 1) (.loop { rec .ready none with state := .busy })).heap[w.heap.size]? = some (.deferred (some [])) := (World.putObj_heap_other (by omega)).trans hk2
        refine wpIn_mono (hbody _ ha) ?_
        rintro e a3 W3 hp
        cases e with
        | normal =>
          obtain ⟨hko3, hkp3, hi3⟩ := hp
          have hl4 := hko3.same _ _ hl3 rfl
          have hk4 := hko3.same _ _ hk3 rfl
          have hr := run_endRound (P := P) none hl4
          rw [hrec] at hr
          have ha2 := Alike.others (B := w.heap.size) hl4 rfl (by omega) (.loop (rec .ready none))
          rw [hrec] at ha2
          refine ⟨_, _, hr, rfl, ⟨hI _ _ _ hi3 ha2, ?_, ?_⟩, hKt _ _ _ (hKt _ _ _ hkp (hKb _ _ ha)) (hKt _ _ _ hkp3 (hKb _ _ ha2))⟩
          · rw [hrec]; exact World.putObj_heap_same (Array.getElem?_eq_some_iff.1 hl4).1
          · exact (World.putObj_heap_other (by omega)).trans hk4
        | ret => exact hp.elim
        | exit id => exact hp.elim
        | goto t => exact hp.elim
        | panic ch => exact hp.elim
        | outgrown => exact hp.elim
      | ret => exact hq.elim
      | exit id => exact hq.elim
      | goto t => exact hq.elim
      | panic ch => exact hq.elim
      | outgrown => exact hq.elim
    · rintro e W2 ⟨⟨v, rfl⟩, xs, W3, ⟨hi, hl, hk⟩, hf⟩
      have hl2 := (hFin _ _ _ hf).same _ _ hl rfl
      have hk2 := (hFin _ _ _ hf).same _ _ hk rfl
      refine ⟨none, _, by have := run_endLoop (P := P) hl2 (by rw [hrec]; simp); rw [hrec] at this; exact this, hdone _ xs W3 W2 _ (Nat.le_refl _) hi hf ?_ ((World.putObj_heap_other (by omega)).trans hk2)⟩
      rw [hrec] at hl2
      exact Alike.others hl2 rfl (by omega) _
section
variable {F : Fence} {n : Nat} {P : Program}
theorem wpListIn_app {ops : Array Oper} {rest : List Oper} {o : Oper} {a : Act} {Q : Exit → Act → World → Prop} {w : World} {t e size bytes : Nat} (E : Elem P t e size bytes)
    {base : Nat} {v : Value} {k : Nat} {xs : List Value} {A : Option Addr} {m m' c : Nat} {news : List Value} (hown : w.ownsRow base e size v k xs) (hr : Cells w A news) (s x : Operand)
    (ho : o.op = .call { callee := .builtin .append, args := #[s, x], argTypes := #[t, t] }) (hgd : o.guard = none)
    (hs : a.eval s = v) (hx : a.eval x = .slice A m' c) (hm : m' = m) (hl : news.length = m * size) (h1 : ∀ u ∈ news, u.oneCell' = true) (hsz : k + m ≤ 4294967296) (hbase : base ≤ w.heap.size)
    (h : ∀ A1 c1 w', w'.ownsRow base e size (.slice A1 (k + m) c1) (k + m) (xs ++ news) → w.grownBy w' v.ownBlock → ((Value.slice A1 (k + m) c1).ownBlock = v.ownBlock ∨ (Value.slice A1 (k + m) c1).ownBlock = some w.heap.size) → wpListIn F n P ops Q rest (a.put o.dst (.slice A1 (k + m) c1)) w') : wpListIn F n P ops Q (o :: rest) a w :=
  wpListIn_plain hgd fun K hK => by
    subst hm
    obtain ⟨A1, c1, w', hrun, h2, h3, h4⟩ := run_app (P := P) E w o.type hown (c := c) hr hl h1 hsz hbase
    unfold Oper.wpIn
    refine ⟨by simp [Oper.about, ho, resolve, Target.leads, Sem.run_pure], ?_⟩
    rw [Oper.semAt_plain F _ _ (by rw [ho]; intro c hc'; cases hc')]
    unfold execOp
    simp only [ho, resolve, invoke, builtin, Sem.run_bind, Sem.run_pure, Result.andThen_ok, List.map_toArray, List.map_cons, List.map_nil, hs, hx, hrun]
    exact hK _ _ (h A1 c1 w' h2 h3 h4)
theorem wpListIn_buf {ops : Array Oper} {rest : List Oper} {o : Oper} {a : Act} {Q : Exit → Act → World → Prop} {w : World} {t e bytes : Nat} (E : Elem P t e 1 bytes)
    {base : Nat} {A B : Option Addr} {k c m m' c' : Nat} {xs news : List Value} (hb : Buf w base e A k c xs) (hr : Cells w B news) (s x : Operand)
    (ho : o.op = .call { callee := .builtin .append, args := #[s, x], argTypes := #[t, t] }) (hgd : o.guard = none)
    (hs : a.eval s = .slice A k c) (hx : a.eval x = .slice B m' c') (hm : m' = m) (hl : news.length = m) (h1 : ∀ u ∈ news, u.oneCell' = true) (hsz : k + m ≤ 4294967296) (hbase : base ≤ w.heap.size)
    (h : ∀ A1 c1 w', Buf w' base e A1 (k + m) c1 (xs ++ news) → w.grownBy w' (Value.slice A k c).ownBlock → (∀ w0, Ext w0 w → w0.heap.size ≤ base → Ext w0 w') → (A1 = A ∨ A1 = some ⟨w.heap.size, 0, none⟩) → wpListIn F n P ops Q rest (a.put o.dst (.slice A1 (k + m) c1)) w') : wpListIn F n P ops Q (o :: rest) a w :=
  wpListIn_plain hgd fun K hK => by
    subst hm
    obtain ⟨A1, c1, w', hrun, h2, h3, h4⟩ := run_buf (P := P) E w o.type hb (c' := c') hr hl h1 hsz hbase
    unfold Oper.wpIn
    refine ⟨by simp [Oper.about, ho, resolve, Target.leads, Sem.run_pure], ?_⟩
    rw [Oper.semAt_plain F _ _ (by rw [ho]; intro c hc'; cases hc')]
    unfold execOp
    simp only [ho, resolve, invoke, builtin, Sem.run_bind, Sem.run_pure, Result.andThen_ok, List.map_toArray, List.map_cons, List.map_nil, hs, hx, hrun]
    refine hK _ _ (h A1 c1 w' h2 h3 (fun w0 hE hw => hE.grown h3 fun k hk => ?_) h4)
    have hbl := hb.base_le
    cases A with
    | none => simp [Value.ownBlock] at hk
    | some b =>
      have := hbl b rfl
      simp [Value.ownBlock] at hk
      omega
end
theorem in_round {P : Program} {l n f : Nat} {args : Array Value} {w : World} {R : Ending → World → Prop} (h : Calls P f args w R) : CallsIn (Fence.wide.inRound l) n P f args w R := CallsIn.inRound l (callsIn_wide.2 h)
theorem leave_plain {P : Program} {fn : Func} {R : Ending → World → Prop} {a : Act} {w : World} {v : Value} (hd : a.defers = []) (hr : (results fn a.tmps).run P w = .ok v w) (h : R (.returned v) w) : bodyPostM Fence.wide 0 P fn R .ret a w := by
  show LeavesInM _ _ _ _ _ _ a.defers _ _
  rw [hd]
  exact ⟨v, hr, h⟩
theorem leave_mark {P : Program} {fn : Func} {R : Ending → World → Prop} {a : Act} {w : World} {B D : Nat} (hd : a.defers = [{ target := .collected D, args := #[] }]) (hk : w.heap[D]? = some (.deferred (some []))) (hB : B ≤ D)
    (h : ∀ W, Alike B w W → ∃ v, (results fn a.tmps).run P W = .ok v W ∧ R (.returned v) W) : bodyPostM Fence.wide 0 P fn R .ret a w := by
  show LeavesInM _ _ _ _ _ _ a.defers _ _
  rw [hd]
  exact ⟨by simp, .inl ⟨D, _, rfl, run_takeDeferred hk, h _ (Alike.others hk rfl hB _)⟩⟩
theorem grown_others {w w' : World} {base : Nat} {e : TypeId} {A : Option Addr} {k c : Nat} {xs : List Value} (hb : Buf w base e A k c xs) (hg : w.grownBy w' (Value.slice A k c).ownBlock) : KeepsOthers w w' :=
  KeepsOthers.of_grownBy hg fun j o hj ho => by
    rcases hb.2.2 with ⟨h0, _⟩ | ⟨g', cur, hA', _, hr, _⟩
    · subst h0; simp [Value.ownBlock] at hj
    · subst hA'
      simp [Value.ownBlock] at hj
      subst hj
      unfold Row at hr
      rw [hr] at ho
      injection ho with ho
      subst ho
      rfl
theorem Ext.others {w w' : World} (h : Ext w w') : KeepsOthers w w' := ⟨h.size, fun _ _ hk _ => h.block hk⟩
end
section
open Go.RowKit
def contB (b : UInt8) : Bool := b.toNat / 64 == 2
def foldR (n : Nat) (l : List UInt8) : Nat := l.foldl (fun n b => n * 64 + b.toNat % 64) n
def okR (lo hi n k : Nat) (t : List UInt8) : Bool := decide (k ≤ t.length) && (t.take k).all contB && decide (lo ≤ foldR n (t.take k)) && decide (foldR n (t.take k) ≤ hi) && !(decide (55296 ≤ foldR n (t.take k)) && decide (foldR n (t.take k) ≤ 57343))
def decR : List UInt8 → Nat × Nat
  | [] => (0, 0)
  | b :: t =>
    if b.toNat < 128 then (b.toNat, 1)
    else if b.toNat / 32 == 6 && okR 128 2047 (b.toNat % 32) 1 t then (foldR (b.toNat % 32) (t.take 1), 2)
    else if b.toNat / 16 == 14 && okR 2048 65535 (b.toNat % 16) 2 t then (foldR (b.toNat % 16) (t.take 2), 3)
    else if b.toNat / 8 == 30 && okR 65536 1114111 (b.toNat % 8) 3 t then (foldR (b.toNat % 8) (t.take 3), 4)
    else (65533, 1)
def runesF : Nat → List UInt8 → List Nat
  | 0, _ => []
  | _, [] => []
  | k + 1, b :: t => (decR (b :: t)).1 :: runesF k ((b :: t).drop (decR (b :: t)).2)
def runesL (l : List UInt8) : List Nat := runesF l.length l
theorem okR_le {lo hi n k : Nat} {t : List UInt8} (h : okR lo hi n k t = true) : k ≤ t.length := by
  unfold okR at h
  simp only [Bool.and_eq_true, decide_eq_true_eq] at h
  exact h.1.1.1.1
theorem decR_size (b : UInt8) (t : List UInt8) : 1 ≤ (decR (b :: t)).2 ∧ (decR (b :: t)).2 ≤ t.length + 1 := by
  rw [decR]
  split
  · exact ⟨Nat.le_refl _, Nat.le_add_left _ _⟩
  · split
    · rename_i h; simp only [Bool.and_eq_true] at h; have := okR_le h.2; exact ⟨by simp, by simp; omega⟩
    · split
      · rename_i h; simp only [Bool.and_eq_true] at h; have := okR_le h.2; exact ⟨by simp, by simp; omega⟩
      · split
        · rename_i h; simp only [Bool.and_eq_true] at h; have := okR_le h.2; exact ⟨by simp, by simp; omega⟩
        · exact ⟨Nat.le_refl _, Nat.le_add_left _ _⟩
theorem okR_hi {lo hi n k : Nat} {t : List UInt8} (h : okR lo hi n k t = true) : foldR n (t.take k) ≤ hi := by
  unfold okR at h
  simp only [Bool.and_eq_true, decide_eq_true_eq] at h
  exact h.1.2
theorem decR_le (l : List UInt8) : (decR l).1 ≤ 1114111 := by
  cases l with
  | nil => exact Nat.zero_le _
  | cons b t =>
    rw [decR]
    split
    · have := b.toNat_lt; simp; omega
    · split
      · rename_i h; simp only [Bool.and_eq_true] at h; have := okR_hi h.2; simp; omega
      · split
        · rename_i h; simp only [Bool.and_eq_true] at h; have := okR_hi h.2; simp; omega
        · split
          · rename_i h; simp only [Bool.and_eq_true] at h; exact okR_hi h.2
          · decide
theorem runesF_fuel : ∀ (k m : Nat) (l : List UInt8), l.length ≤ k → l.length ≤ m → runesF k l = runesF m l
  | 0, 0, _, _, _ => rfl
  | 0, m + 1, [], _, _ => by simp [runesF]
  | k + 1, 0, [], _, _ => by simp [runesF]
  | k + 1, m + 1, [], _, _ => by simp [runesF]
  | 0, m + 1, b :: t, h, _ => by simp at h
  | k + 1, 0, b :: t, _, h => by simp at h
  | k + 1, m + 1, b :: t, h, h2 => by
    have := decR_size b t
    simp only [List.length_cons] at h h2
    unfold runesF
    rw [runesF_fuel k m _ (by rw [List.length_drop, List.length_cons]; omega) (by rw [List.length_drop, List.length_cons]; omega)]
theorem runesL_nil : runesL [] = [] := rfl
theorem runesL_cons (b : UInt8) (t : List UInt8) : runesL (b :: t) = (decR (b :: t)).1 :: runesL ((b :: t).drop (decR (b :: t)).2) := by
  have := decR_size b t
  unfold runesL
  rw [List.length_cons, runesF]
  congr 1
  exact runesF_fuel _ _ _ (by rw [List.length_drop, List.length_cons]; omega) (Nat.le_refl _)
theorem runesL_at {s : List UInt8} {at_ : Nat} (h : at_ < s.length) : runesL (s.drop at_) = (decR (s.drop at_)).1 :: runesL (s.drop (at_ + (decR (s.drop at_)).2)) ∧ 1 ≤ (decR (s.drop at_)).2 ∧ at_ + (decR (s.drop at_)).2 ≤ s.length := by
  obtain ⟨b, t, hbt⟩ : ∃ b t, s.drop at_ = b :: t := by
    cases hd : s.drop at_ with
    | nil => rw [List.drop_eq_nil_iff] at hd; omega
    | cons b t => exact ⟨b, t, rfl⟩
  have hs := decR_size b t
  have hl : (b :: t).length = s.length - at_ := by rw [← hbt, List.length_drop]
  simp only [List.length_cons] at hl
  refine ⟨?_, ?_, ?_⟩
  · rw [← List.drop_drop, hbt, runesL_cons]
  · rw [hbt]; exact hs.1
  · rw [hbt]; omega
theorem runesL_le (l : List UInt8) : ∀ r ∈ runesL l, r ≤ 1114111 := by
  have key : ∀ (k : Nat) (l : List UInt8), ∀ r ∈ runesF k l, r ≤ 1114111 := by
    intro k
    induction k with
    | zero => intro l r hr; cases hr
    | succ k ih =>
      intro l r hr
      cases l with
      | nil => cases hr
      | cons b t =>
        rw [runesF, List.mem_cons] at hr
        rcases hr with rfl | hr
        · exact decR_le _
        · exact ih _ r hr
  exact key _ l
theorem runesL_len (l : List UInt8) : (runesL l).length ≤ l.length := by
  have key : ∀ (k : Nat) (l : List UInt8), (runesF k l).length ≤ k := by
    intro k
    induction k with
    | zero => intro l; exact Nat.le_refl _
    | succ k ih =>
      intro l
      cases l with
      | nil => exact Nat.zero_le _
      | cons b t => rw [runesF, List.length_cons]; exact Nat.succ_le_succ (ih _)
  exact key _ l
def lowerR (r : Nat) : Nat :=
  if (65 ≤ r ∧ r ≤ 90) ∨ (192 ≤ r ∧ r ≤ 222 ∧ r ≠ 215) ∨ (913 ≤ r ∧ r ≤ 939 ∧ r ≠ 930) ∨ (1040 ≤ r ∧ r ≤ 1071) then r + 32 else if 1024 ≤ r ∧ r ≤ 1039 then r + 80 else r
def wordR (r : Nat) : Bool :=
  decide ((48 ≤ r ∧ r ≤ 57) ∨ (65 ≤ r ∧ r ≤ 90) ∨ (97 ≤ r ∧ r ≤ 122) ∨ (192 ≤ r ∧ r ≤ 255 ∧ r ≠ 215 ∧ r ≠ 247) ∨ (913 ≤ r ∧ r ≤ 974 ∧ r ≠ 930) ∨ (1024 ≤ r ∧ r ≤ 1119))
def u8 (n : Nat) : UInt8 := UInt8.ofNat n
def encO (r : Nat) : List UInt8 :=
  if r < 128 then [u8 r] else if r < 2048 then [u8 (192 + r / 64), u8 (128 + r % 64)] else if r < 65536 then [u8 (224 + r / 4096), u8 (128 + r / 64 % 64), u8 (128 + r % 64)]
  else [u8 (240 + r / 262144), u8 (128 + r / 4096 % 64), u8 (128 + r / 64 % 64), u8 (128 + r % 64)]
def badR (r : Nat) : Bool := decide (1114111 < r) || (decide (55296 ≤ r) && decide (r ≤ 57343))
def encR (r : Nat) : List UInt8 := if badR r then encO 65533 else encO r
theorem encO_len (r : Nat) : 1 ≤ (encO r).length ∧ (encO r).length ≤ 4 := by
  unfold encO
  split
  · exact ⟨by simp, by simp⟩
  · split
    · exact ⟨by simp, by simp⟩
    · split
      · exact ⟨by simp, by simp⟩
      · exact ⟨by simp, by simp⟩
theorem encR_len (r : Nat) : 1 ≤ (encR r).length ∧ (encR r).length ≤ 4 := by
  unfold encR
  split
  · exact encO_len _
  · exact encO_len _
theorem lowerR_le {r : Nat} (h : r ≤ 1114111) : lowerR r ≤ 1114191 := by
  unfold lowerR
  split
  · omega
  · split <;> omega
def cutW (s : List UInt8) : List Nat → List UInt8
  | [] => s
  | r :: rs => if 32 < s.length + (encR (lowerR r)).length then s else cutW (s ++ encR (lowerR r)) rs
theorem cutW_len : ∀ (rs : List Nat) (s : List UInt8), s.length ≤ 32 → (cutW s rs).length ≤ 32
  | [], s, h => h
  | r :: rs, s, h => by
    unfold cutW
    split
    · exact h
    · exact cutW_len rs _ (by rw [List.length_append]; omega)
def runsW : List Nat → List Nat → List (List Nat)
  | cur, [] => if cur = [] then [] else [cur]
  | cur, r :: rs => if wordR r then runsW (cur ++ [r]) rs else if cur = [] then runsW [] rs else cur :: runsW [] rs
def tokL (s : List UInt8) : List (List UInt8) := (runsW [] (runesL s)).map (cutW [])
theorem runsW_len : ∀ (rs cur : List Nat), (runsW cur rs).length ≤ rs.length + 1 ∧ (cur = [] → (runsW cur rs).length ≤ rs.length)
  | [], cur => by
    unfold runsW
    by_cases h : cur = []
    · simp [h]
    · simp [h]
  | r :: rs, cur => by
    unfold runsW
    have h1 := runsW_len rs (cur ++ [r])
    have h2 := runsW_len rs []
    have h3 := h2.2 rfl
    simp only [List.length_cons]
    split
    · exact ⟨by omega, fun _ => by omega⟩
    · split
      · exact ⟨by omega, fun _ => by omega⟩
      · rename_i hc; exact ⟨by simp only [List.length_cons]; omega, fun h => absurd h hc⟩
theorem tokL_len (s : List UInt8) : (tokL s).length ≤ s.length := by
  unfold tokL
  rw [List.length_map]
  exact Nat.le_trans ((runsW_len _ _).2 rfl) (runesL_len s)
end
section
open Go.RowKit
def inB (lo hi but r : Int) : Bool := decide (lo ≤ r) && decide (r ≤ hi) && (r != but)
set_option maxRecDepth 100000 in
theorem in_any (lo hi but r : Int) (w : World) : Calls Tryz.prog 192 #[.agg #[.int .i64 lo, .int .i64 hi, .int .i64 but], .int .i64 r] w fun e w' => e = .returned (.bool (inB lo hi but r)) ∧ Ext w w' := by
  unfold inB
  go_enter Tryz.func192, Tryz.ntmps192
  go_wp2
  all_goals
    go_ret
    refine ⟨?_, (Ext.refl w).alloc _⟩
    simp_all
    try (intros; omega)
set_option maxRecDepth 100000 in
theorem half_any (r : Int) (w : World) : Calls Tryz.prog 215 #[.int .i64 r] w fun e w' => e = .returned (.bool (decide (55296 ≤ r) && decide (r ≤ 57343))) ∧ w' = w := by
  go_enter Tryz.func215, Tryz.ntmps215
  go_wp2
  all_goals
    go_ret
    simp_all
    try (intros; omega)
def formC : Array Value := #[.int .i64 2, .int .u8 224, .int .u8 192, .int .i64 128, .int .i64 2047, .int .i64 (-1), .int .i64 3, .int .u8 240, .int .u8 224, .int .i64 2048, .int .i64 65535, .int .i64 (-1), .int .i64 4, .int .u8 248, .int .u8 240, .int .i64 65536, .int .i64 1114111, .int .i64 (-1)]
set_option maxRecDepth 100000 in
theorem forms_any (w : World) : Calls Tryz.prog 214 #[] w fun e w' => e = .returned (.agg formC) ∧ Ext w w' := by
  have hr := Row.new w 277 formC
  have hE : Ext w (w.alloc (.cells formC 277)) := (Ext.refl w).alloc _
  replace hr := hide hr
  replace hE := hide hE
  go_enter Tryz.func214, Tryz.ntmps214
  go_wp2_with fail
  exact bodyPost_ret (results_cell_row rfl _ _ w.heap.size 277 formC (0, 0) _ rfl hr.out Tryz.underlying277 rfl (by kernel_rfl)) rfl ⟨rfl, hE.out⟩
end
section
open Go.RowKit
set_option maxRecDepth 100000 in
theorem run_bytes (s : List UInt8) (w : World) : ∃ c w1, (convert 9 25 (.string ⟨s.toArray⟩)).run Tryz.prog w = .ok (.slice (some ⟨w.heap.size, 0, none⟩) s.length c) w1 ∧ Bs w1 (some ⟨w.heap.size, 0, none⟩) s ∧ Ext w w1 ∧ w1.heap.size = w.heap.size + 1 := by
  refine ⟨grownCap w s.length 0 5, Lib.bytesWorld w 5 ⟨s.toArray⟩, ?_, ?_, ?_, Lib.bytesWorld_size _ _ _⟩
  · exact Lib.run_convert_string_bytes w 9 25 5 ⟨s.toArray⟩ Tryz.underlying9 Tryz.underlying25 Tryz.underlying5
  · refine .inr ⟨w.heap.size, 0, rfl, fun i v hv => ?_⟩
    rw [List.getElem?_map] at hv
    obtain ⟨b, hb, rfl⟩ := Option.map_eq_some_iff.1 hv
    have hi := (List.getElem?_eq_some_iff.1 hb).1
    have h := Lib.bytesWorld_cell w 5 ⟨s.toArray⟩ i (by rw [ByteArray.size_mk_toArray]; exact hi)
    rw [Nat.zero_add, h]
    unfold B8
    simp [List.getD, hb]
  · unfold Lib.bytesWorld
    rw [show w.heap.size = w.drew.heap.size from rfl, freeze_new]
    exact (Ext.refl w).drew.alloc _
end
end Go.Proofs.YtkdcnhnaiknaaaaGreat
