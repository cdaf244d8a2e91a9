/- The bytes of a string: a row of the call's own. -/
import Derived.Test.YtpajpdkliohepaaDoorByt
import Derived.Lib.ConvBytes
namespace Go.Proofs.YtpajpdkliohepaaDoor
open Go.RowKit

/-- What an append onto a row of the call's own leaves: only that row may have turned, and the new row is the old one, or lies in a new block. -/
structure Push (w : World) (A A1 : Option Addr) (w' : World) : Prop where
  chg : Chg (fun k => ∃ a, A = some a ∧ a.block = k) w w'
  new : A1 = A ∨ ∃ a, A1 = some a ∧ w.heap.size ≤ a.block
theorem Push.refl (w : World) (A : Option Addr) : Push w A A w := ⟨Chg.refl _ _, .inl rfl⟩
theorem Push.of_ext {w w1 : World} (h : Ext w w1) (A : Option Addr) : Push w A A w1 := ⟨Chg.of_ext h _, .inl rfl⟩
theorem Push.trans {w w1 w2 : World} {A A1 A2 : Option Addr} (h : Push w A A1 w1) (k : Push w1 A1 A2 w2) : Push w A A2 w2 := by
  refine ⟨h.chg.trans k.chg fun i hi ⟨a, ha, hk⟩ => ?_, ?_⟩
  · rcases h.new with rfl | ⟨b, hb, hle⟩
    · exact ⟨a, ha, hk⟩
    · rw [ha] at hb
      cases hb
      omega
  · rcases k.new with rfl | ⟨b, hb, hle⟩
    · exact h.new
    · exact .inr ⟨b, hb, Nat.le_trans h.chg.size hle⟩
theorem Push.ext {w0 w w1 : World} {A A1 : Option Addr} (h : Push w A A1 w1) (hE : Ext w0 w) (hA : ∀ a, A = some a → w0.heap.size ≤ a.block) : Ext w0 w1 :=
  hE.chg h.chg fun i hi ⟨a, ha, hk⟩ => by have := hA a ha; omega
theorem Push.cells {w w1 : World} {A A1 B : Option Addr} {xs : List Value} (h : Push w A A1 w1) (hB : Cells w B xs) (hn : ∀ a b, A = some a → B = some b → a.block ≠ b.block) : Cells w1 B xs :=
  h.chg.cells hB fun b hb ⟨a, ha, hk⟩ => hn a b ha hb hk
theorem Push.row {w w1 : World} {A A1 : Option Addr} {g : Nat} {t : TypeId} {cs : Array Value} (h : Push w A A1 w1) (hr : Row w g t cs) (hn : ∀ a, A = some a → a.block ≠ g) : Row w1 g t cs :=
  h.chg.row hr fun ⟨a, ha, hk⟩ => hn a ha hk
theorem Push.away {w w1 : World} {A A1 : Option Addr} {g : Nat} (h : Push w A A1 w1) (hg : g < w.heap.size) (hn : ∀ a, A = some a → a.block ≠ g) : ∀ a, A1 = some a → a.block ≠ g := fun a ha => by
  rcases h.new with rfl | ⟨b, hb, hle⟩
  · exact hn a ha
  · rw [ha] at hb
    cases hb
    omega
/-- 'append' of values that the statement has just laid in a new block: what it keeps. -/
theorem wpList_bufK {P : Program} {ops : Array Oper} {rest : List Oper} {o : Oper} {a : Act} {Q : Exit → Act → World → Prop} {w0 : World} {us : List Value} {T : TypeId} {t e bytes : Nat} (E : Elem P t e 1 bytes)
    {base : Nat} {A : Option Addr} {n c : Nat} {xs : List Value} (hb : Buf w0 base e A n c xs) (s x : Operand)
    (ho : o.op = .call { callee := .builtin .append, args := #[s, x], argTypes := #[t, t] }) (hgd : o.guard = none)
    (hs : a.eval s = .slice A n c) (hx : a.eval x = .slice (some ⟨w0.heap.size, 0, none⟩) us.length us.length) (h1 : ∀ u ∈ us, u.oneCell' = true) (hsz : n + us.length ≤ 4294967296) (hbase : base ≤ w0.heap.size)
    (h : ∀ A1 c1 w', Buf w' base e A1 (n + us.length) c1 (xs ++ us) → Push w0 A A1 w' → wpList P ops Q rest (a.put o.dst (.slice A1 (n + us.length) c1)) w') :
    wpList P ops Q (o :: rest) a (w0.alloc (.cells us.toArray T)) := by
  refine wpList_buf E (hb.alloc _) (B := some ⟨w0.heap.size, 0, none⟩) (news := us) (.inr ⟨w0.heap.size, 0, rfl, fun i u hu => ?_⟩) s x ho hgd hs hx rfl rfl h1 hsz (by simp; omega) fun A1 c1 w' h2 hg _ h4 => h A1 c1 w' h2 ⟨?_, ?_⟩
  · rw [Nat.zero_add, cell_of_row _ _ _ _ _ _ (heap_alloc_new w0 _)]
    simpa using hu
  · refine (Chg.of_ext ((Ext.refl w0).alloc _) (fun k => ∃ a, A = some a ∧ a.block = k)).trans (Chg.of_grown (S := fun k => ∃ a, A = some a ∧ a.block = k) hg fun k _ hk => ?_) fun _ _ h => h
    cases A with
    | none => simp [Value.ownBlock] at hk
    | some b => exact ⟨b, rfl, by simpa [Value.ownBlock] using hk⟩
  · rcases h4 with rfl | rfl
    · exact .inl rfl
    · exact .inr ⟨_, rfl, by simp⟩
set_option maxRecDepth 100000 in
theorem run_bytes (s : List UInt8) (w : World) : ∃ c w1, (convert 9 55 (.string ⟨s.toArray⟩)).run Tryd.prog w = .ok (.slice (some ⟨w.heap.size, 0, none⟩) s.length c) w1 ∧ Bs w1 (some ⟨w.heap.size, 0, none⟩) s ∧ Ext w w1 ∧ w1.heap.size = w.heap.size + 1 := by
  refine ⟨grownCap w s.length 0 5, Lib.bytesWorld w 5 ⟨s.toArray⟩, ?_, ?_, ?_, Lib.bytesWorld_size _ _ _⟩
  · exact Lib.run_convert_string_bytes w 9 55 5 ⟨s.toArray⟩ Tryd.underlying9 Tryd.underlying55 Tryd.underlying5
  · refine .inr ⟨w.heap.size, 0, rfl, fun i v hv => ?_⟩
    rw [List.getElem?_map] at hv
    obtain ⟨b, hb, rfl⟩ := Option.map_eq_some_iff.1 hv
    have hi := (List.getElem?_eq_some_iff.1 hb).1
    have h := Lib.bytesWorld_cell w 5 ⟨s.toArray⟩ i (by rw [ByteArray.size_mk_toArray]; exact hi)
    rw [Nat.zero_add, h]
    unfold B8
    simp [List.getD, hb]
  · unfold Lib.bytesWorld
    rw [show w.heap.size = w.drew.heap.size from rfl, freeze_new]
    exact (Ext.refl w).drew.alloc _
end Go.Proofs.YtpajpdkliohepaaDoor
