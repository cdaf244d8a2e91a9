/- The bytes of a string: a row of the call's own. -/
import Derived.Test.YtohphanbnhiodaaM02
import Derived.Lib.ConvBytes
import Derived.Test.YtohphanbnhiodaaRows
import Derived.Test.YtohphanbnhiodaaShelf
import Derived.Maps.Keyed
import Derived.Maps.OwnOps
import Derived.Maps.RangeRun
import Derived.Maps.Range
import Derived.Laws.IdiomRangeMap
set_option linter.unusedSimpArgs false
set_option linter.unusedVariables false
namespace Go.Proofs.Ytohphanbnhiodaa
open Go.RowKit

/-- What an append onto a row of the call's own leaves: only that row may have turned, and the new row is the old one, or lies in a new block. -/
structure Push (w : World) (A A1 : Option Addr) (w' : World) : Prop where
  chg : Chg (fun k => ∃ a, A = some a ∧ a.block = k) w w'
  new : A1 = A ∨ ∃ a, A1 = some a ∧ w.heap.size ≤ a.block
theorem Push.refl (w : World) (A : Option Addr) : Push w A A w := ⟨Chg.refl _ _, .inl rfl⟩
theorem Push.of_ext {w w1 : World} (h : Ext w w1) (A : Option Addr) : Push w A A w1 := ⟨Chg.of_ext h _, .inl rfl⟩
theorem Push.trans {w w1 w2 : World} {A A1 A2 : Option Addr} (h : Push w A A1 w1) (k : Push w1 A1 A2 w2) : Push w A A2 w2 := by
  refine ⟨h.chg.trans k.chg fun i hi ⟨a, ha, hk⟩ => ?_, ?_⟩
  · rcases h.new with rfl | ⟨b, hb, hle⟩
    · exact ⟨a, ha, hk⟩
    · rw [ha] at hb
      cases hb
      omega
  · rcases k.new with rfl | ⟨b, hb, hle⟩
    · exact h.new
    · exact .inr ⟨b, hb, Nat.le_trans h.chg.size hle⟩
theorem Push.ext {w0 w w1 : World} {A A1 : Option Addr} (h : Push w A A1 w1) (hE : Ext w0 w) (hA : ∀ a, A = some a → w0.heap.size ≤ a.block) : Ext w0 w1 :=
  hE.chg h.chg fun i hi ⟨a, ha, hk⟩ => by have := hA a ha; omega
theorem Push.cells {w w1 : World} {A A1 B : Option Addr} {xs : List Value} (h : Push w A A1 w1) (hB : Cells w B xs) (hn : ∀ a b, A = some a → B = some b → a.block ≠ b.block) : Cells w1 B xs :=
  h.chg.cells hB fun b hb ⟨a, ha, hk⟩ => hn a b ha hb hk
theorem Push.row {w w1 : World} {A A1 : Option Addr} {g : Nat} {t : TypeId} {cs : Array Value} (h : Push w A A1 w1) (hr : Row w g t cs) (hn : ∀ a, A = some a → a.block ≠ g) : Row w1 g t cs :=
  h.chg.row hr fun ⟨a, ha, hk⟩ => hn a ha hk
theorem Push.away {w w1 : World} {A A1 : Option Addr} {g : Nat} (h : Push w A A1 w1) (hg : g < w.heap.size) (hn : ∀ a, A = some a → a.block ≠ g) : ∀ a, A1 = some a → a.block ≠ g := fun a ha => by
  rcases h.new with rfl | ⟨b, hb, hle⟩
  · exact hn a ha
  · rw [ha] at hb
    cases hb
    omega
/-- 'append' of values that the statement has just laid in a new block: what it keeps. -/
theorem wpList_bufK {P : Program} {ops : Array Oper} {rest : List Oper} {o : Oper} {a : Act} {Q : Exit → Act → World → Prop} {w0 : World} {us : List Value} {T : TypeId} {t e bytes : Nat} (E : Elem P t e 1 bytes)
    {base : Nat} {A : Option Addr} {n c : Nat} {xs : List Value} (hb : Buf w0 base e A n c xs) (s x : Operand)
    (ho : o.op = .call { callee := .builtin .append, args := #[s, x], argTypes := #[t, t] }) (hgd : o.guard = none)
    (hs : a.eval s = .slice A n c) (hx : a.eval x = .slice (some ⟨w0.heap.size, 0, none⟩) us.length us.length) (h1 : ∀ u ∈ us, u.oneCell' = true) (hsz : n + us.length ≤ 4294967296) (hbase : base ≤ w0.heap.size)
    (h : ∀ A1 c1 w', Buf w' base e A1 (n + us.length) c1 (xs ++ us) → Push w0 A A1 w' → wpList P ops Q rest (a.put o.dst (.slice A1 (n + us.length) c1)) w') :
    wpList P ops Q (o :: rest) a (w0.alloc (.cells us.toArray T)) := by
  refine wpList_buf E (hb.alloc _) (B := some ⟨w0.heap.size, 0, none⟩) (news := us) (.inr ⟨w0.heap.size, 0, rfl, fun i u hu => ?_⟩) s x ho hgd hs hx rfl rfl h1 hsz (by simp; omega) fun A1 c1 w' h2 hg _ h4 => h A1 c1 w' h2 ⟨?_, ?_⟩
  · rw [Nat.zero_add, cell_of_row _ _ _ _ _ _ (heap_alloc_new w0 _)]
    simpa using hu
  · refine (Chg.of_ext ((Ext.refl w0).alloc _) (fun k => ∃ a, A = some a ∧ a.block = k)).trans (Chg.of_grown (S := fun k => ∃ a, A = some a ∧ a.block = k) hg fun k _ hk => ?_) fun _ _ h => h
    cases A with
    | none => simp [Value.ownBlock] at hk
    | some b => exact ⟨b, rfl, by simpa [Value.ownBlock] using hk⟩
  · rcases h4 with rfl | rfl
    · exact .inl rfl
    · exact .inr ⟨_, rfl, by simp⟩
set_option maxRecDepth 100000 in
theorem run_bytes (s : List UInt8) (w : World) : ∃ c w1, (convert 9 31 (.string ⟨s.toArray⟩)).run Try.prog w = .ok (.slice (some ⟨w.heap.size, 0, none⟩) s.length c) w1 ∧ Bs w1 (some ⟨w.heap.size, 0, none⟩) s ∧ Ext w w1 ∧ w1.heap.size = w.heap.size + 1 := by
  refine ⟨grownCap w s.length 0 5, Lib.bytesWorld w 5 ⟨s.toArray⟩, ?_, ?_, ?_, Lib.bytesWorld_size _ _ _⟩
  · exact Lib.run_convert_string_bytes w 9 31 5 ⟨s.toArray⟩ Try.underlying9 Try.underlying31 Try.underlying5
  · refine .inr ⟨w.heap.size, 0, rfl, fun i v hv => ?_⟩
    rw [List.getElem?_map] at hv
    obtain ⟨b, hb, rfl⟩ := Option.map_eq_some_iff.1 hv
    have hi := (List.getElem?_eq_some_iff.1 hb).1
    have h := Lib.bytesWorld_cell w 5 ⟨s.toArray⟩ i (by rw [ByteArray.size_mk_toArray]; exact hi)
    rw [Nat.zero_add, h]
    unfold B8
    simp [List.getD, hb]
  · unfold Lib.bytesWorld
    rw [show w.heap.size = w.drew.heap.size from rfl, freeze_new]
    exact (Ext.refl w).drew.alloc _
end Go.Proofs.Ytohphanbnhiodaa

/- Strings as lists of bytes: a head, a tail, a byte. -/
namespace Go.Proofs.Ytohphanbnhiodaa
open Go.RowKit

theorem bytes_take (l : List UInt8) (k : Nat) : (⟨l.toArray⟩ : ByteArray).extract 0 k = ⟨(l.take k).toArray⟩ := by
  have : ((⟨l.toArray⟩ : ByteArray).extract 0 k).data = (l.take k).toArray := by
    simp
  generalize (⟨l.toArray⟩ : ByteArray).extract 0 k = x at this
  cases x
  simp only at this
  rw [this]
set_option maxRecDepth 100000 in
theorem run_strhead (l : List UInt8) (k : Nat) (hk : k ≤ l.length) (W : World) : (Instr.sliceAt 9 (.string ⟨l.toArray⟩) none (some (.int .i64 k)) none).run Try.prog W = .ok (.string ⟨(l.take k).toArray⟩) W := by
  rw [run_sliceAt_string W 9 _ _ _ _ Try.underlying9]
  have hsz : (⟨l.toArray⟩ : ByteArray).size = l.length := ByteArray.size_mk_toArray l
  simp only [Instr.slice, Sem.run_bind, run_underlying Try.underlying9, Result.andThen_ok, Instr.sliceBounds, hsz, Option.isSome_none, Bool.false_eq_true, if_false, Sem.run_pure]
  rw [run_sliceBound W .i64 (k : Int) l.length _ (by omega) (by omega)]
  simp only [Result.andThen_ok, Int.toNat_natCast, bytes_take]
theorem run_strheadz {l : List UInt8} {k : Nat} (hk : k ≤ l.length) {z : Int} (hz : z = (k : Int)) (W : World) : (Instr.sliceAt 9 (.string ⟨l.toArray⟩) none (some (.int .i64 z)) none).run Try.prog W = .ok (.string ⟨(l.take k).toArray⟩) W := by
  subst hz
  exact run_strhead l k hk W
set_option maxRecDepth 100000 in
theorem run_strindex {l : List UInt8} {i : Nat} {b : UInt8} (h : l[i]? = some b) {z : Int} (hz : z = (i : Int)) (W : World) : (Instr.index 9 (.string ⟨l.toArray⟩) (.int .i64 z)).run Try.prog W = .ok (.int .u8 (b.toNat : Int)) W := by
  subst hz
  have hi := (List.getElem?_eq_some_iff.1 h).1
  have h2 := (List.getElem?_eq_some_iff.1 h).2
  have hsz : (⟨l.toArray⟩ : ByteArray).size = l.length := ByteArray.size_mk_toArray l
  rw [run_index_string W 9 _ .i64 (i : Int) Try.underlying9, dif_pos ⟨by omega, by rw [hsz]; omega⟩]
  have : ((⟨l.toArray⟩ : ByteArray)[(i : Int).toNat]'(by rw [hsz]; omega)) = b := by
    rw [← h2]
    simp only [Int.toNat_natCast]
    rfl
  rw [this]
set_option maxRecDepth 100000 in
theorem run_strindexk {l : List UInt8} {k : IntKind} {i : Nat} {b : UInt8} (h : l[i]? = some b) {z : Int} (hz : z = (i : Int)) (W : World) : (Instr.index 9 (.string ⟨l.toArray⟩) (.int k z)).run Try.prog W = .ok (.int .u8 (b.toNat : Int)) W := by
  subst hz
  have hi := (List.getElem?_eq_some_iff.1 h).1
  have h2 := (List.getElem?_eq_some_iff.1 h).2
  have hsz : (⟨l.toArray⟩ : ByteArray).size = l.length := ByteArray.size_mk_toArray l
  rw [run_index_string W 9 _ k (i : Int) Try.underlying9, dif_pos ⟨by omega, by rw [hsz]; omega⟩]
  have : ((⟨l.toArray⟩ : ByteArray)[(i : Int).toNat]'(by rw [hsz]; omega)) = b := by
    rw [← h2]
    simp only [Int.toNat_natCast]
    rfl
  rw [this]
theorem bytes_drop (l : List UInt8) (k : Nat) : (⟨l.toArray⟩ : ByteArray).extract k l.length = ⟨(l.drop k).toArray⟩ := by
  have : ((⟨l.toArray⟩ : ByteArray).extract k l.length).data = (l.drop k).toArray := by
    simp
    exact List.take_of_length_le (by rw [List.length_drop]; exact Nat.le_refl _)
  generalize (⟨l.toArray⟩ : ByteArray).extract k l.length = x at this
  cases x
  simp only at this
  rw [this]
set_option maxRecDepth 100000 in
theorem run_strtail (l : List UInt8) (k : Nat) (hk : k ≤ l.length) {z : Int} (hz : z = (k : Int)) (W : World) : (Instr.sliceAt 9 (.string ⟨l.toArray⟩) (some (.int .i64 z)) none none).run Try.prog W = .ok (.string ⟨(l.drop k).toArray⟩) W := by
  subst hz
  rw [run_sliceAt_string W 9 _ _ _ _ Try.underlying9]
  have hsz : (⟨l.toArray⟩ : ByteArray).size = l.length := ByteArray.size_mk_toArray l
  simp only [Instr.slice, Sem.run_bind, run_underlying Try.underlying9, Result.andThen_ok, Instr.sliceBounds, hsz, Option.isSome_none, Bool.false_eq_true, if_false, Sem.run_pure]
  rw [run_sliceBound W .i64 (k : Int) l.length _ (by omega) (by omega)]
  simp only [Result.andThen_ok, Int.toNat_natCast, bytes_drop]
end Go.Proofs.Ytohphanbnhiodaa

/- loggia/wal: Number; loggiaref15: Number. -/
namespace Go.Proofs.Ytohphanbnhiodaa
open Go.RowKit

/-- What a number is told to be. -/
def NumW (Z : Option Nat) (w : World) (e : Ending) (w' : World) : Prop := Ext w w' ∧ e = .returned (.tuple #[.int .i64 ((Z.getD 0 : Nat) : Int), .bool Z.isSome])
theorem NumW.no {Z : Option Nat} {w w' : World} (hE : Ext w w') (h : Z = none) : NumW Z w (.returned (.tuple #[.int .i64 0, .bool false])) w' := by
  subst h
  exact ⟨hE, rfl⟩
theorem NumW.yes {Z : Option Nat} {n : Nat} {w w' : World} (hE : Ext w w') (h : Z = some n) : NumW Z w (.returned (.tuple #[.int .i64 (n : Int), .bool true])) w' := by
  subst h
  exact ⟨hE, rfl⟩
theorem numD_cons (c : UInt8) (l : List UInt8) (n : Nat) : numD (c :: l) n = if c.toNat < 48 ∨ 57 < c.toNat then none else numD l (10 * n + (c.toNat - 48)) := rfl
theorem drop_one {l : List UInt8} {i : Nat} {x : UInt8} (h : l[i]? = some x) : l.drop i = x :: l.drop (i + 1) := by
  obtain ⟨hi, rfl⟩ := List.getElem?_eq_some_iff.1 h
  exact List.drop_eq_getElem_cons hi
set_option maxRecDepth 100000 in
set_option maxHeartbeats 4000000 in
theorem number_any (s : List UInt8) (w : World) : Calls Try.prog 9 #[.string ⟨s.toArray⟩] w fun e w' => NumW (numW s) w e w' := by
  obtain ⟨Z, hZ⟩ : ∃ Z, Z = numW s := ⟨_, rfl⟩
  rw [← hZ]
  have hcp := Try.strings_CutPrefix ⟨s.toArray⟩ ⟨preW.toArray⟩ w
  unfold Lib.trimPrefix Lib.hasPrefix at hcp
  rw [show (ByteArray.mk s.toArray).data.toList = s from rfl, show (ByteArray.mk preW.toArray).data.toList = preW from rfl] at hcp
  unfold numW at hZ
  cases hp : preW.isPrefixOf s with
  | false =>
    rw [hp, if_neg (by simp)] at hcp
    have hno : Z = none := by
      rw [hZ, if_neg]
      rintro ⟨_, h4⟩
      have hpp : preW <+: s := by rw [← h4]; exact List.take_prefix _ _
      rw [List.isPrefixOf_iff_prefix.2 hpp] at hp
      cases hp
    replace hcp := hide hcp
    replace hno := hide hno
    clear hZ hp
    go_enter Try.func9, Try.ntmps9
    go_wp2_with fail
    refine hcp.out.mono ?_
    rintro e w1 ⟨rfl, rfl⟩
    go_wp2_with fail
    go_ret2
    exact NumW.no (Ext.refl _) hno.out
  | true =>
    obtain ⟨r, rfl⟩ := List.isPrefixOf_iff_prefix.1 hp
    rw [hp, if_pos rfl, show (preW ++ r).drop preW.length = r by simp] at hcp
    have h4 : (preW ++ r).take 4 = preW := by rw [List.take_append_of_le_length (by decide)]; rfl
    have h12 : (preW ++ r).length = 4 + r.length := by rw [List.length_append]; rfl
    have hd4 : (preW ++ r).drop 4 = r := rfl
    rw [h4, h12, hd4] at hZ
    clear hp h4 h12 hd4
    by_cases hr : r.length = 8
    · rw [if_pos ⟨by omega, rfl⟩] at hZ
      obtain ⟨c1, W1, hcv, hB, hE1, hsz⟩ := run_bytes r w
      rw [hr] at hcv
      replace hcp := hide hcp
      replace hZ := hide hZ
      replace hB := hide hB
      replace hE1 := hide hE1
      have hrl := hide hr
      have hri : (r.length : Int) = 8 := by omega
      clear hr
      go_enter Try.func9, Try.ntmps9
      go_wp2_with fail
      refine hcp.out.mono ?_
      rintro e w1 ⟨rfl, rfl⟩
      go_wp2_with fail
      go_loopw [6, 8, 24] (fun s6 _ s24 wr => ∃ (i n : Nat), s24 = .int .i64 (i : Int) ∧ i ≤ 8 ∧ s6 = .int .i64 (n : Int) ∧ n < 10 ^ i ∧ Hid (numD (r.drop i) n = Z) ∧ wr = W1) (fun _ _ s24 _ => 8 - (intOf s24).toNat)
      case atStart => exact ⟨0, 0, rfl, by omega, rfl, by decide, hide hZ.out.symm, rfl⟩
      case round =>
        obtain ⟨i, n, rfl, hi, rfl, hn, hnd, rfl⟩ := hrel
        by_cases hi8 : i < 8
        · obtain ⟨x, hx⟩ : ∃ x, r[i]? = some x := ⟨_, List.getElem?_eq_getElem (by have := hrl.out; omega)⟩
          obtain ⟨g, o, hA1, hc⟩ := Cells.at_ (xs := r.map B8) hB.out (by rw [List.length_map]; have := hrl.out; omega)
          have hcell := hc i (B8 x) (by rw [List.getElem?_map, hx]; rfl)
          unfold B8 at hcell
          injection hA1 with hA1
          injection hA1 with hA1 ho
          subst hA1
          subst ho
          rw [Nat.zero_add] at hcell
          have hz := hnd.out
          rw [drop_one hx, numD_cons] at hz
          have hx8 := x.toNat_lt
          have hpw : (10 : Nat) ^ i ≤ 10 ^ 7 := Nat.pow_le_pow_right (by omega) (by omega)
          have hn7 : n < 10000000 := by omega
          obtain ⟨q, hq⟩ : ∃ q, q = x.toNat := ⟨_, rfl⟩
          rw [← hq] at hz hcell hx8
          replace hq := hide hq
          clear hx hc
          by_cases hlo : q < 48
          · rw [if_pos (.inl hlo)] at hz
            replace hz := hide hz
            go_wp2_with fail
            go_ret2
            exact NumW.no hE1.out hz.out.symm
          · by_cases hhi : 57 < q
            · rw [if_pos (.inr hhi)] at hz
              replace hz := hide hz
              go_wp2_with fail
              go_ret2
              exact NumW.no hE1.out hz.out.symm
            · rw [if_neg (by omega)] at hz
              replace hz := hide hz
              have hlo' : (48 : Int) ≤ (q : Int) := by omega
              have hnext : 10 * n + (q - 48) < 10 ^ (i + 1) := by rw [Nat.pow_succ]; omega
              replace hnext := hide hnext
              go_wp2_with fail
              refine ⟨⟨i + 1, 10 * n + (q - 48), by go_num, by omega, by rw [show 10 * (n : Int) + ((q : Int) - 48) = ((10 * n + (q - 48) : Nat) : Int) by omega], hnext.out, hide hz.out, trivial⟩, by simp [intOf]; omega⟩
        · obtain rfl : i = 8 := by omega
          have hz := hnd.out
          rw [List.drop_of_length_le (by have := hrl.out; omega)] at hz
          unfold numD at hz
          replace hz := hide hz
          go_wp2_with fail
          go_ret2
          exact NumW.yes hE1.out hz.out.symm
    · rw [if_neg (by omega)] at hZ
      have hri : ¬ (r.length : Int) = 8 := by omega
      replace hcp := hide hcp
      replace hZ := hide hZ
      go_enter Try.func9, Try.ntmps9
      go_wp2_with fail
      refine hcp.out.mono ?_
      rintro e w1 ⟨rfl, rfl⟩
      go_wp2_with fail
      go_ret2
      exact NumW.no (Ext.refl _) hZ.out
end Go.Proofs.Ytohphanbnhiodaa

/- loggiaref15: Number. -/
namespace Go.Proofs.Ytohphanbnhiodaa
open Go.RowKit

set_option maxRecDepth 100000 in
set_option maxHeartbeats 4000000 in
theorem rnumber_any (s : List UInt8) (w : World) : Calls Try.prog 10 #[.string ⟨s.toArray⟩] w fun e w' => NumW (numW s) w e w' := by
  obtain ⟨Z, hZ⟩ : ∃ Z, Z = numW s := ⟨_, rfl⟩
  rw [← hZ]
  unfold numW at hZ
  by_cases hl : s.length = 12
  · have hli : (s.length : Int) = 12 := by omega
    have hhd := run_strheadz (l := s) (k := 4) (by omega) (z := 4) rfl
    by_cases hp : s.take 4 = preW
    · rw [if_pos ⟨hl, hp⟩] at hZ
      rw [hp] at hhd
      unfold preW at hhd
      replace hZ := hide hZ
      replace hl := hide hl
      clear hp
      go_enter Try.func10, Try.ntmps10
      go_wp2_with fail
      go_loopw [4, 5] (fun s4 s5 wr => ∃ (i n : Nat), s5 = .int .i64 ((4 + i : Nat) : Int) ∧ i ≤ 8 ∧ s4 = .int .i64 (n : Int) ∧ n < 10 ^ i ∧ Hid (numD (s.drop (4 + i)) n = Z) ∧ wr = w) (fun _ s5 _ => 12 - (intOf s5).toNat)
      case atStart => exact ⟨0, 0, rfl, by omega, rfl, by decide, hide hZ.out.symm, rfl⟩
      case round =>
        obtain ⟨i, n, rfl, hi, rfl, hn, hnd, rfl⟩ := hrel
        by_cases hi8 : i < 8
        · obtain ⟨x, hx⟩ : ∃ x, s[4 + i]? = some x := ⟨_, List.getElem?_eq_getElem (by have := hl.out; omega)⟩
          have hix := run_strindex hx (z := 4 + (i : Int)) (by omega)
          have hz := hnd.out
          rw [drop_one hx, numD_cons] at hz
          have hx8 := x.toNat_lt
          have hpw : (10 : Nat) ^ i ≤ 10 ^ 7 := Nat.pow_le_pow_right (by omega) (by omega)
          have hn7 : n < 10000000 := by omega
          obtain ⟨q, hq⟩ : ∃ q, q = x.toNat := ⟨_, rfl⟩
          rw [← hq] at hz hix hx8
          replace hq := hide hq
          clear hx
          by_cases hlo : q < 48
          · rw [if_pos (.inl hlo)] at hz
            replace hz := hide hz
            go_wp2_with fail
            go_ret2
            exact NumW.no (Ext.refl _) hz.out.symm
          · by_cases hhi : 57 < q
            · rw [if_pos (.inr hhi)] at hz
              replace hz := hide hz
              go_wp2_with fail
              go_ret2
              exact NumW.no (Ext.refl _) hz.out.symm
            · rw [if_neg (by omega)] at hz
              replace hz := hide hz
              have hlo' : (48 : Int) ≤ (q : Int) := by omega
              have hnext : 10 * n + (q - 48) < 10 ^ (i + 1) := by rw [Nat.pow_succ]; omega
              replace hnext := hide hnext
              go_wp2_with fail
              refine ⟨⟨i + 1, 10 * n + (q - 48), by go_num, by omega, by rw [show 10 * (n : Int) + ((q : Int) - 48) = ((10 * n + (q - 48) : Nat) : Int) by omega], hnext.out, hide hz.out, trivial⟩, by simp [intOf]; omega⟩
        · obtain rfl : i = 8 := by omega
          have hz := hnd.out
          rw [List.drop_of_length_le (by have := hl.out; omega)] at hz
          unfold numD at hz
          replace hz := hide hz
          go_wp2_with fail
          go_ret2
          exact NumW.yes (Ext.refl _) hz.out.symm
    · rw [if_neg (fun h => hp h.2)] at hZ
      have hne : (List.take 4 s == [108, 111, 103, 45]) = false := by rw [beq_eq_false_iff_ne]; exact hp
      replace hZ := hide hZ
      clear hl hp
      go_enter Try.func10, Try.ntmps10
      go_wp2_with fail
      go_ret2
      exact NumW.no (Ext.refl _) hZ.out
  · rw [if_neg (fun h => hl h.1)] at hZ
    have hli : ¬ (s.length : Int) = 12 := by omega
    replace hZ := hide hZ
    go_enter Try.func10, Try.ntmps10
    go_wp2_with fail
    go_ret2
    exact NumW.no (Ext.refl _) hZ.out
end Go.Proofs.Ytohphanbnhiodaa

/- Maps as lists of keys and values: what a look-up, a store, a deletion come to. -/
namespace Go.Proofs.Ytohphanbnhiodaa
open Go.RowKit Go.Maps
open Go

/-- Block m is a map with the entries L, each key once. -/
structure MapL (P : Program) (k : TypeId) (w : World) (m : Nat) (L : List (Value × Value)) : Prop where
  ex : ∃ es clock, w.heap[m]? = some (.map es clock) ∧ es.toList.map (fun e => (e.key, e.val)) = L ∧ es.toList.Pairwise (fun a b => a.born ≠ b.born) ∧ ∀ e ∈ es.toList, e.born < clock
  keys : ∀ p ∈ L, ∃ l, keyOf P k p.1 = some l
  nodup : (L.map Prod.fst).Nodup

section
variable {P : Program} {k : TypeId} {w w1 : World} {m : Nat} {L : List (Value × Value)}
theorem MapL.keep (h : MapL P k w m L) (hb : w1.heap[m]? = w.heap[m]?) : MapL P k w1 m L := by
  obtain ⟨⟨es, cl, h1, h2⟩, h3, h4⟩ := h
  exact ⟨⟨es, cl, hb.trans h1, h2⟩, h3, h4⟩
theorem MapL.lt (h : MapL P k w m L) : m < w.heap.size := by
  obtain ⟨⟨es, cl, h1, _⟩, _⟩ := h
  exact (Array.getElem?_eq_some_iff.1 h1).1
theorem MapL.ext (h : MapL P k w m L) (he : Ext w w1) : MapL P k w1 m L := h.keep (Below.block he m h.lt)
theorem MapL.grown {row : Option Nat} (h : MapL P k w m L) (hg : w.grownBy w1 row) (hne : row ≠ some m) : MapL P k w1 m L := h.keep (hg.block m h.lt (fun e => hne e.symm))
theorem MapL.drew (h : MapL P k w m L) : MapL P k w.drew m L := h.keep rfl
theorem MapL.alloc (h : MapL P k w m L) (o : Obj) : MapL P k (w.alloc o) m L := h.keep (Below.heap_alloc w o m h.lt)
theorem MapL.set_ (h : MapL P k w m L) {a : Addr} (v : Value) (hne : m ≠ a.block) : MapL P k (w.setCell a v) m L := h.keep (Below.heap_setCell w a v m hne)
theorem MapL.made (w : World) : MapL P k (w.alloc (.map #[] 0)) w.heap.size [] :=
  ⟨⟨#[], 0, heap_alloc_new w _, rfl, List.Pairwise.nil, by simp⟩, by simp, by simp⟩
theorem MapL.unique {x u v : Value} (h : MapL P k w m L) (hu : (x, u) ∈ L) (hv : (x, v) ∈ L) : u = v := by
  have hn := h.nodup
  clear h
  induction L with
  | nil => cases hu
  | cons p L ih =>
    simp only [List.map_cons, List.nodup_cons] at hn
    rcases List.mem_cons.1 hu with h1 | h1 <;> rcases List.mem_cons.1 hv with h2 | h2
    · rw [← h1] at h2; exact (Prod.mk.inj h2).2.symm
    · exfalso; apply hn.1; rw [← h1]; exact List.mem_map.2 ⟨_, h2, rfl⟩
    · exfalso; apply hn.1; rw [← h2]; exact List.mem_map.2 ⟨_, h1, rfl⟩
    · exact ih h1 h2 hn.2

/-- Where a key lies. -/
theorem MapL.find (h : MapL P k w m L) (K : Keyed P k) {x : Value} {l : Lit} (hx : keyOf P k x = some l) {es : Array MapEntry} {cl : Nat} (hb : w.heap[m]? = some (.map es cl)) (W : World) :
    ((Instr.findKey k x es.toList).run P W = .ok none W ∧ ∀ p ∈ L, p.1 ≠ x) ∨
    ∃ j e, (Instr.findKey k x es.toList).run P W = .ok (some (j, e.val)) W ∧ es[j]? = some e ∧ e.key = x ∧ (x, e.val) ∈ L := by
  obtain ⟨⟨es', cl', h1, h2, _⟩, h3, _⟩ := h
  rw [hb] at h1
  cases h1
  have hk : ∀ e ∈ es.toList, ∃ l, keyOf P k e.key = some l := fun e he => h3 (e.key, e.val) (by rw [← h2]; exact List.mem_map.2 ⟨e, he, rfl⟩)
  rcases K.find W hx es.toList hk with ⟨hr, hno⟩ | ⟨j, e, hr, hj, he⟩
  · refine .inl ⟨hr, fun p hp => ?_⟩
    rw [← h2] at hp
    obtain ⟨e, he, rfl⟩ := List.mem_map.1 hp
    exact hno e he
  · refine .inr ⟨j, e, hr, by simpa using hj, he, ?_⟩
    rw [← h2]
    exact List.mem_map.2 ⟨e, List.mem_of_getElem? hj, by rw [he]⟩

theorem MapL.look (h : MapL P k w m L) (K : Keyed P k) {t E : TypeId} (ht : P.underlying t = some (.map k E)) {x z : Value} {l : Lit} (hx : keyOf P k x = some l) (hz : (zeroValue E).run P w = .ok z w) (ok : Bool) :
    (∃ v, (x, v) ∈ L ∧ (Instr.lookup t (.map (some m)) x ok).run P w = .ok (if ok then .tuple #[v, .bool true] else v) w) ∨
    ((∀ p ∈ L, p.1 ≠ x) ∧ (Instr.lookup t (.map (some m)) x ok).run P w = .ok (if ok then .tuple #[z, .bool false] else z) w) := by
  obtain ⟨es, cl, hb, _⟩ := h.ex
  have hg : (getObj m).run P w = .ok (.map es cl) w := by simp [getObj, Sem.run, hb]
  rcases h.find K hx hb w with ⟨hr, hno⟩ | ⟨j, e, hr, hj, he, hm⟩
  · refine .inr ⟨hno, ?_⟩
    simp only [Instr.lookup, Sem.run_bind, run_underlying ht, Result.andThen_ok, hg, Sem.run_pure, K.check w es.isEmpty hx, hr, hz]
  · refine .inl ⟨e.val, hm, ?_⟩
    simp only [Instr.lookup, Sem.run_bind, run_underlying ht, Result.andThen_ok, hg, Sem.run_pure, K.check w es.isEmpty hx, hr]

/-- L' is L with v at x. -/
structure Put (L : List (Value × Value)) (x v : Value) (L' : List (Value × Value)) : Prop where
  mem : ∀ p, p ∈ L' ↔ p = (x, v) ∨ (p ∈ L ∧ p.1 ≠ x)
  len : (∃ u, (x, u) ∈ L) ∧ L'.length = L.length ∨ (∀ p ∈ L, p.1 ≠ x) ∧ L'.length = L.length + 1

theorem setObj_run {es : Array MapEntry} {cl : Nat} (hb : w.heap[m]? = some (.map es cl)) (o : Obj) : (setObj m o).run P w = .ok () { w with heap := w.heap.setIfInBounds m o } := by
  simp [setObj, Sem.run, hb]
theorem setObj_heap {o : Obj} (hlt : m < w.heap.size) : ({ w with heap := w.heap.setIfInBounds m o } : World).heap[m]? = some o := by
  simp [hlt]
theorem setObj_grown (o : Obj) : w.grownBy { w with heap := w.heap.setIfInBounds m o } (some m) :=
  ⟨rfl, rfl, rfl, by simp, fun i _ hi => by
    have : m ≠ i := fun e => hi (by rw [e])
    simp [Array.getElem?_setIfInBounds_ne this]⟩

theorem mem_modify {es : Array MapEntry} {j : Nat} {e0 : MapEntry} (hj : es[j]? = some e0) (f : MapEntry → MapEntry) (e : MapEntry) :
    e ∈ (es.modify j f).toList ↔ e = f e0 ∨ ∃ i, i ≠ j ∧ es[i]? = some e := by
  have hlt : j < es.size := (Array.getElem?_eq_some_iff.1 hj).1
  constructor
  · intro h
    obtain ⟨i, hi⟩ := List.mem_iff_getElem?.1 h
    rw [Array.getElem?_toList, Array.getElem?_modify] at hi
    split at hi
    · rename_i he
      subst he
      rw [hj] at hi
      exact .inl (Option.some.inj hi).symm
    · rename_i he
      exact .inr ⟨i, fun h => he h.symm, hi⟩
  · rintro (rfl | ⟨i, hi, he⟩)
    · refine List.mem_iff_getElem?.2 ⟨j, ?_⟩
      rw [Array.getElem?_toList, Array.getElem?_modify, if_pos rfl, hj]
      rfl
    · refine List.mem_iff_getElem?.2 ⟨i, ?_⟩
      rw [Array.getElem?_toList, Array.getElem?_modify, if_neg (fun h => hi h.symm)]
      exact he
theorem map_modify {es : Array MapEntry} {j : Nat} {β : Type} (f : MapEntry → MapEntry) (g : MapEntry → β) (hg : ∀ e, es[j]? = some e → g (f e) = g e) : (es.modify j f).toList.map g = es.toList.map g := by
  refine List.ext_getElem? fun i => ?_
  rw [List.getElem?_map, List.getElem?_map, Array.getElem?_toList, Array.getElem?_toList, Array.getElem?_modify]
  split
  · rename_i h
    subst h
    cases he : es[j]? with
    | none => rfl
    | some e => simp [hg e he]
  · rfl
theorem nodup_at {es : Array MapEntry} (hn : (es.toList.map (·.key)).Nodup) {i j : Nat} {a b : MapEntry} (hi : es[i]? = some a) (hj : es[j]? = some b) (hk : a.key = b.key) : i = j := by
  have h1 : (es.toList.map (·.key))[i]? = some a.key := by simp [hi]
  have h2 : (es.toList.map (·.key))[j]? = some b.key := by simp [hj]
  have hlt : i < (es.toList.map (·.key)).length := (List.getElem?_eq_some_iff.1 h1).1
  exact (List.getElem?_inj hlt hn).1 (by rw [h1, h2, hk])
theorem born_at {es : Array MapEntry} (hn : es.toList.Pairwise (fun a b => a.born ≠ b.born)) {i j : Nat} {a b : MapEntry} (hi : es[i]? = some a) (hj : es[j]? = some b) (hk : a.born = b.born) : i = j := by
  have hn' : (es.toList.map (·.born)).Nodup := by rw [List.nodup_iff_pairwise_ne, List.pairwise_map]; exact hn
  have h1 : (es.toList.map (·.born))[i]? = some a.born := by simp [hi]
  have h2 : (es.toList.map (·.born))[j]? = some b.born := by simp [hj]
  have hlt : i < (es.toList.map (·.born)).length := (List.getElem?_eq_some_iff.1 h1).1
  exact (List.getElem?_inj hlt hn').1 (by rw [h1, h2, hk])

/-- Entry j, whose key is x, gets the value v: the block's new entries. -/
theorem MapL.modify (h : MapL P k w m L) {es : Array MapEntry} {cl : Nat} (hb : w.heap[m]? = some (.map es cl)) {j : Nat} {e0 : MapEntry} (hj : es[j]? = some e0) (v : Value) {f : MapEntry → MapEntry}
    (hf1 : (f e0).key = e0.key) (hf2 : (f e0).val = v) (hf3 : (f e0).born = e0.born) (hw : w1.heap[m]? = some (.map (es.modify j f) cl)) : ∃ L', MapL P k w1 m L' ∧ Put L e0.key v L' := by
  obtain ⟨⟨es', cl', h1, h2, h4, h5⟩, h3, h6⟩ := h
  rw [hb] at h1
  cases h1
  have hkeys : (es.toList.map (·.key)).Nodup := by
    rw [← h2, List.map_map] at h6
    exact h6
  refine ⟨(es.modify j f).toList.map (fun e => (e.key, e.val)), ⟨⟨es.modify j f, cl, hw, rfl, ?_, fun e he => ?_⟩, fun p hp => ?_, ?_⟩, fun p => ?_, .inl ⟨⟨e0.val, ?_⟩, ?_⟩⟩
  · have hb' : (es.modify j f).toList.map (·.born) = es.toList.map (·.born) := map_modify f (·.born) (fun e he => by rw [hj] at he; cases he; exact hf3)
    have hn : (es.toList.map (·.born)).Nodup := by rw [List.nodup_iff_pairwise_ne, List.pairwise_map]; exact h4
    rw [← hb', List.nodup_iff_pairwise_ne, List.pairwise_map] at hn
    exact hn
  · rcases (mem_modify hj f e).1 he with rfl | ⟨i, _, hi⟩
    · rw [hf3]; exact h5 e0 (by simpa using Array.mem_of_getElem? hj)
    · exact h5 e (by simpa using Array.mem_of_getElem? hi)
  · obtain ⟨e, he, rfl⟩ := List.mem_map.1 hp
    rcases (mem_modify hj f e).1 he with rfl | ⟨i, _, hi⟩
    · rw [hf1]; exact h3 (e0.key, e0.val) (by rw [← h2]; exact List.mem_map.2 ⟨e0, by simpa using Array.mem_of_getElem? hj, rfl⟩)
    · exact h3 (e.key, e.val) (by rw [← h2]; exact List.mem_map.2 ⟨e, by simpa using Array.mem_of_getElem? hi, rfl⟩)
  · rw [List.map_map]
    have : (es.modify j f).toList.map (Prod.fst ∘ fun e => (e.key, e.val)) = es.toList.map (·.key) := map_modify f _ (fun e he => by rw [hj] at he; cases he; exact hf1)
    rw [this]
    exact hkeys
  · constructor
    · intro hp
      obtain ⟨e, he, rfl⟩ := List.mem_map.1 hp
      rcases (mem_modify hj f e).1 he with rfl | ⟨i, hi, hie⟩
      · exact .inl (by rw [hf1, hf2])
      · refine .inr ⟨by rw [← h2]; exact List.mem_map.2 ⟨e, by simpa using Array.mem_of_getElem? hie, rfl⟩, fun hk => hi (nodup_at hkeys hie hj hk)⟩
    · rintro (rfl | ⟨hp, hne⟩)
      · exact List.mem_map.2 ⟨f e0, (mem_modify hj f _).2 (.inl rfl), by rw [hf1, hf2]⟩
      · rw [← h2] at hp
        obtain ⟨e, he, rfl⟩ := List.mem_map.1 hp
        obtain ⟨i, hi⟩ := List.mem_iff_getElem?.1 he
        rw [Array.getElem?_toList] at hi
        exact List.mem_map.2 ⟨e, (mem_modify hj f e).2 (.inr ⟨i, fun hij => hne (by subst hij; rw [hj] at hi; cases hi; rfl), hi⟩), rfl⟩
  · rw [← h2]; exact List.mem_map.2 ⟨e0, by simpa using Array.mem_of_getElem? hj, rfl⟩
  · rw [← h2]; simp
/-- A new entry. -/
theorem MapL.push (h : MapL P k w m L) {es : Array MapEntry} {cl : Nat} (hb : w.heap[m]? = some (.map es cl)) {x v : Value} {l : Lit} (hx : keyOf P k x = some l) (hno : ∀ p ∈ L, p.1 ≠ x)
    (hw : w1.heap[m]? = some (.map (es.push { key := x, val := v, born := cl }) (cl + 1))) : ∃ L', MapL P k w1 m L' ∧ Put L x v L' := by
  obtain ⟨⟨es', cl', h1, h2, h4, h5⟩, h3, h6⟩ := h
  rw [hb] at h1
  cases h1
  refine ⟨L ++ [(x, v)], ⟨⟨_, _, hw, by simp [h2], ?_, fun e he => ?_⟩, fun p hp => ?_, ?_⟩, fun p => ?_, .inr ⟨hno, by simp⟩⟩
  · simp only [Array.toList_push]
    rw [List.pairwise_append]
    exact ⟨h4, List.pairwise_singleton .., fun a ha b hb' => by
      obtain rfl := List.mem_singleton.1 hb'
      have := h5 a ha
      simp only
      omega⟩
  · simp only [Array.toList_push] at he
    rcases List.mem_append.1 he with he | he
    · have := h5 e he; omega
    · obtain rfl := List.mem_singleton.1 he
      simp only
      omega
  · rcases List.mem_append.1 hp with hp | hp
    · exact h3 p hp
    · obtain rfl := List.mem_singleton.1 hp
      exact ⟨l, hx⟩
  · rw [List.map_append, List.nodup_append]
    refine ⟨h6, by simp, fun a ha b hb' => ?_⟩
    simp at hb'
    obtain ⟨p, hp, rfl⟩ := List.mem_map.1 ha
    rw [hb']
    exact hno p hp
  · constructor
    · intro hp
      rcases List.mem_append.1 hp with hp | hp
      · exact .inr ⟨hp, hno p hp⟩
      · exact .inl (List.mem_singleton.1 hp)
    · rintro (rfl | ⟨hp, _⟩)
      · simp
      · exact List.mem_append_left _ hp

/-- m[x] = v -/
theorem MapL.update (h : MapL P k w m L) (K : Keyed P k) {t E : TypeId} (ht : P.underlying t = some (.map k E)) {x : Value} {l : Lit} (hx : keyOf P k x = some l) (v : Value) :
    ∃ w' L', (Instr.mapUpdate t (.map (some m)) x v).run P w = .ok () w' ∧ MapL P k w' m L' ∧ Put L x v L' ∧ w.grownBy w' (some m) ∧ w'.heap.size = w.heap.size := by
  obtain ⟨es, cl, hb, _⟩ := h.ex
  have hg : (getObj m).run P w = .ok (.map es cl) w := by simp [getObj, Sem.run, hb]
  rcases h.find K hx hb w with ⟨hr, hno⟩ | ⟨j, e, hr, hj, he, hm⟩
  · obtain ⟨L', h1, h2⟩ := h.push (w1 := { w with heap := w.heap.setIfInBounds m (.map (es.push { key := x, val := v, born := cl }) (cl + 1)) }) hb hx hno (setObj_heap h.lt)
    refine ⟨_, L', ?_, h1, h2, setObj_grown _, by simp⟩
    simp only [Instr.mapUpdate, Sem.run_bind, run_underlying ht, Result.andThen_ok, hg, K.check w false hx, hr, setObj_run hb]
  · subst he
    obtain ⟨L', h1, h2⟩ := h.modify (w1 := { w with heap := w.heap.setIfInBounds m (.map (es.modify j fun e' => { e' with key := e.key, val := v }) cl) }) hb hj v (f := fun e' => { e' with key := e.key, val := v }) rfl rfl rfl (setObj_heap h.lt)
    refine ⟨_, L', ?_, h1, h2, setObj_grown _, by simp⟩
    simp only [Instr.mapUpdate, Sem.run_bind, run_underlying ht, Result.andThen_ok, hg, K.check w false hx, hr, hj, Option.map_some, Option.getD_some, K.stays w hx, setObj_run hb]

/-- m[x] = .. m[x] ..: the entry is found, or made with its type's zero; then it is written. -/
theorem MapL.entry (h : MapL P k w m L) (K : Keyed P k) {t E : TypeId} (ht : P.underlying t = some (.map k E)) {x z : Value} {l : Lit} (hx : keyOf P k x = some l) (hz : (zeroValue E).run P w = .ok z w) :
    ∃ w' v n, (Instr.mapEntry t (.map (some m)) x).run P w = .ok (.tuple #[v, .int .i64 n]) w' ∧ ((x, v) ∈ L ∨ (∀ p ∈ L, p.1 ≠ x) ∧ v = z) ∧ w.grownBy w' (some m) ∧ w'.heap.size = w.heap.size ∧ (∃ L1, MapL P k w' m L1) ∧
      ∀ (w2 : World) (u : Value), w2.heap[m]? = w'.heap[m]? →
        ∃ w3 L', (Instr.entryStore t (.map (some m)) (.int .i64 n) u).run P w2 = .ok () w3 ∧ MapL P k w3 m L' ∧ Put L x u L' ∧ w2.grownBy w3 (some m) ∧ w3.heap.size = w2.heap.size := by
  obtain ⟨es, cl, hb, _, hborn, hcl⟩ := h.ex
  have hg : (getObj m).run P w = .ok (.map es cl) w := by simp [getObj, Sem.run, hb]
  -- the second half, at whatever entries in which one bears the stamp
  have back : ∀ (es2 : Array MapEntry) (cl2 j : Nat) (e0 : MapEntry) (w2 : World) (u : Value), w2.heap[m]? = some (.map es2 cl2) → es2[j]? = some e0 → es2.toList.Pairwise (fun a b => a.born ≠ b.born) →
      (Instr.entryStore t (.map (some m)) (.int .i64 (e0.born : Int)) u).run P w2 = .ok () { w2 with heap := w2.heap.setIfInBounds m (.map (es2.modify j fun e => { e with val := u }) cl2) } := by
    intro es2 cl2 j e0 w2 u hw2 hj2 hn2
    have hg2 : (getObj m).run P w2 = .ok (.map es2 cl2) w2 := by simp [getObj, Sem.run, hw2]
    have hlt2 : j < es2.size := (Array.getElem?_eq_some_iff.1 hj2).1
    have hfi : es2.findIdx? (fun e => (e.born : Int) == (e0.born : Int)) = some j := by
      rw [Array.findIdx?_eq_some_iff_getElem]
      refine ⟨hlt2, ?_, fun i hi => ?_⟩
      · have : es2[j] = e0 := by
          have := Array.getElem?_eq_getElem hlt2
          rw [hj2] at this
          exact (Option.some.inj this).symm
        simp [this]
      · have hne : es2[i].born ≠ e0.born := fun he => by
          have := born_at hn2 (Array.getElem?_eq_getElem (by omega : i < es2.size)) hj2 he
          omega
        simp
        omega
    simp only [Instr.entryStore, Sem.run_bind, hg2, Result.andThen_ok, asInt, asIntOf, Sem.run_pure, hfi, setObj_run hw2]
  rcases h.find K hx hb w with ⟨hr, hno⟩ | ⟨j, e, hr, hj, he, hm⟩
  · let w' : World := { w with heap := w.heap.setIfInBounds m (.map (es.push { key := x, val := z, born := cl }) (cl + 1)) }
    have hw' : w'.heap[m]? = some (.map (es.push { key := x, val := z, born := cl }) (cl + 1)) := setObj_heap h.lt
    obtain ⟨L1, h1, h2⟩ := h.push (w1 := w') hb hx hno hw'
    refine ⟨w', z, (cl : Int), ?_, .inr ⟨hno, rfl⟩, setObj_grown _, by simp [w'], ⟨L1, h1⟩, fun w2 u hw2 => ?_⟩
    · simp only [Instr.mapEntry, Sem.run_bind, run_underlying ht, Result.andThen_ok, hg, K.check w false hx, hr, hz, setObj_run hb, Sem.run_pure, goInt]
      rfl
    · have hj' : (es.push { key := x, val := z, born := cl })[es.size]? = some { key := x, val := z, born := cl } := by simp
      obtain ⟨⟨es1, cl1, hw1, _, hb1, _⟩, _⟩ := id h1
      rw [hw'] at hw1
      cases hw1
      have hr2 := back _ _ _ _ w2 u (hw2.trans hw') hj' hb1
      have hlt2 : m < w2.heap.size := (Array.getElem?_eq_some_iff.1 (hw2.trans hw')).1
      obtain ⟨L2, h3, h4⟩ := (h1.keep hw2).modify (w1 := { w2 with heap := w2.heap.setIfInBounds m (.map ((es.push { key := x, val := z, born := cl }).modify es.size fun e => { e with val := u }) (cl + 1)) }) (hw2.trans hw') hj' u (f := fun e => { e with val := u }) rfl rfl rfl (setObj_heap hlt2)
      refine ⟨_, L2, hr2, h3, ⟨fun p => ?_, ?_⟩, setObj_grown _, by simp⟩
      · rw [h4.mem p]
        constructor
        · rintro (rfl | ⟨hp, hne⟩)
          · exact .inl rfl
          · rcases (h2.mem p).1 hp with rfl | hp
            · exact absurd rfl hne
            · exact .inr hp
        · rintro (rfl | ⟨hp, hne⟩)
          · exact .inl rfl
          · exact .inr ⟨(h2.mem p).2 (.inr ⟨hp, hne⟩), hne⟩
      · refine .inr ⟨hno, ?_⟩
        rcases h2.len with ⟨⟨u', hu'⟩, _⟩ | ⟨_, hl⟩
        · exact absurd rfl (hno _ hu')
        · rcases h4.len with ⟨_, hl'⟩ | ⟨hno', _⟩
          · omega
          · exact absurd rfl (hno' (x, z) ((h2.mem _).2 (.inl rfl)))
  · subst he
    let w' : World := { w with heap := w.heap.setIfInBounds m (.map (es.modify j fun e' => { e' with key := e.key }) cl) }
    have hlt : j < es.size := (Array.getElem?_eq_some_iff.1 hj).1
    have hsame : es.modify j (fun e' => { e' with key := e.key }) = es := by
      apply Array.ext_getElem?
      intro i
      rw [Array.getElem?_modify]
      split
      · rename_i hi
        subst hi
        rw [hj]
        rfl
      · rfl
    have hw' : w'.heap[m]? = some (.map es cl) := by
      have := setObj_heap (w := w) (m := m) (o := .map (es.modify j fun e' => { e' with key := e.key }) cl) h.lt
      rw [hsame] at this
      simpa [w', hsame] using this
    refine ⟨w', e.val, (e.born : Int), ?_, .inl hm, setObj_grown _, by simp [w'], ⟨L, h.keep (hw'.trans hb.symm)⟩, fun w2 u hw2 => ?_⟩
    · simp only [Instr.mapEntry, Sem.run_bind, run_underlying ht, Result.andThen_ok, hg, K.check w false hx, hr, hj, Option.map_some, Option.getD_some, K.stays w hx, setObj_run hb, Sem.run_pure, goInt]
      rfl
    · have hr2 := back es cl j e w2 u (hw2.trans hw') hj hborn
      have hlt2 : m < w2.heap.size := (Array.getElem?_eq_some_iff.1 (hw2.trans hw')).1
      obtain ⟨L2, h3, h4⟩ := (h.keep ((hw2.trans hw').trans hb.symm)).modify (w1 := { w2 with heap := w2.heap.setIfInBounds m (.map (es.modify j fun e => { e with val := u }) cl) }) (hw2.trans hw') hj u (f := fun e => { e with val := u }) rfl rfl rfl (setObj_heap hlt2)
      exact ⟨_, L2, hr2, h3, h4, setObj_grown _, by simp⟩
end
end Go.Proofs.Ytohphanbnhiodaa

/- Maps as lists: a range over one, a deletion, how many there are. -/
namespace Go.Proofs.Ytohphanbnhiodaa
open Go.RowKit Go.Maps
open Go

/-- A range over the map m is under way (its block: r); the keys 'done' have come. -/
structure RangeL (P : Program) (k : TypeId) (w : World) (m r : Nat) (L : List (Value × Value)) (done : List Value) : Prop where
  ex : ∃ es clock since seen c0, w.heap[m]? = some (.map es clock) ∧ es.toList.map (fun e => (e.key, e.val)) = L ∧ es.toList.Pairwise (fun a b => a.born ≠ b.born) ∧ (∀ e ∈ es.toList, e.born < clock) ∧
    w.heap[r]? = some (.mapIter (some m) since seen c0) ∧ (∀ e ∈ es.toList, e.born < since) ∧ since ≤ c0 ∧ since ≤ clock ∧ ∀ e ∈ es.toList, (seen.contains e.born = true ↔ e.key ∈ done)
  keys : ∀ p ∈ L, ∃ l, keyOf P k p.1 = some l
  nodup : (L.map Prod.fst).Nodup
  dn : done.Nodup
  sub : ∀ x ∈ done, x ∈ L.map Prod.fst
section
variable {P : Program} {k : TypeId} {w w1 : World} {m r : Nat} {L : List (Value × Value)} {done : List Value}
theorem RangeL.map (h : RangeL P k w m r L done) : MapL P k w m L := by
  obtain ⟨es, cl, since, seen, c0, h1, h2, h3, h4, _⟩ := h.ex
  exact ⟨⟨es, cl, h1, h2, h3, h4⟩, h.keys, h.nodup⟩
theorem RangeL.keep (h : RangeL P k w m r L done) (hm : w1.heap[m]? = w.heap[m]?) (hr : w1.heap[r]? = w.heap[r]?) : RangeL P k w1 m r L done := by
  obtain ⟨⟨es, cl, since, seen, c0, h1, h2, h3, h4, h5, h6⟩, hk, hn, hd, hs⟩ := h
  exact ⟨⟨es, cl, since, seen, c0, hm.trans h1, h2, h3, h4, hr.trans h5, h6⟩, hk, hn, hd, hs⟩
theorem RangeL.lt (h : RangeL P k w m r L done) : r < w.heap.size := by
  obtain ⟨es, cl, since, seen, c0, _, _, _, _, h5, _⟩ := h.ex
  exact (Array.getElem?_eq_some_iff.1 h5).1
theorem RangeL.ne (h : RangeL P k w m r L done) : r ≠ m := by
  obtain ⟨es, cl, since, seen, c0, h1, _, _, _, h5, _⟩ := h.ex
  rintro rfl
  rw [h1] at h5
  cases h5
theorem RangeL.grown {row : Option Nat} (h : RangeL P k w m r L done) (hg : w.grownBy w1 row) (h1 : row ≠ some m) (h2 : row ≠ some r) : RangeL P k w1 m r L done :=
  h.keep (hg.block m h.map.lt (fun e => h1 e.symm)) (hg.block r h.lt (fun e => h2 e.symm))
theorem RangeL.drew (h : RangeL P k w m r L done) : RangeL P k w.drew m r L done := h.keep rfl rfl
theorem RangeL.alloc (h : RangeL P k w m r L done) (o : Obj) : RangeL P k (w.alloc o) m r L done := h.keep (Below.heap_alloc w o m h.map.lt) (Below.heap_alloc w o r h.lt)
theorem RangeL.set_ (h : RangeL P k w m r L done) {a : Addr} (v : Value) (h1 : m ≠ a.block) (h2 : r ≠ a.block) : RangeL P k (w.setCell a v) m r L done :=
  h.keep (Below.heap_setCell w a v m h1) (Below.heap_setCell w a v r h2)

theorem MapL.range (h : MapL P k w m L) {t E : TypeId} (ht : P.underlying t = some (.map k E)) :
    ∃ o, (Instr.range t (.map (some m))).run P w = .ok (.pointer (some ⟨w.heap.size, 0, none⟩)) (w.alloc o) ∧ RangeL P k (w.alloc o) m w.heap.size L [] := by
  obtain ⟨⟨es, cl, h1, h2, h3, h4⟩, hk, hn⟩ := h
  refine ⟨_, run_range_map w t k E m es cl ht h1, ⟨⟨es, cl, cl, #[], cl, ?_, h2, h3, h4, heap_alloc_new w _, h4, Nat.le_refl _, Nat.le_refl _, fun e _ => by simp⟩, hk, hn, List.nodup_nil, by simp⟩⟩
  exact (Below.heap_alloc w _ m (Array.getElem?_eq_some_iff.1 h1).1).trans h1
theorem setBlock_grown (w : World) (r : Nat) (o : Obj) : w.grownBy (ChangeMaps.setBlock w r o) (some r) :=
  ⟨rfl, rfl, rfl, by simp [ChangeMaps.setBlock], fun k _ hne => by
    show (w.heap.setIfInBounds r o)[k]? = _
    rw [Array.getElem?_setIfInBounds_ne (fun e => hne (by rw [e]))]⟩
/-- A step leaves fewer to come. -/
theorem left_falls {es : Array MapEntry} {seen : Array Nat} {e : MapEntry} (he : e ∈ (leftOf es seen).toList) : (leftOf es (seen.push e.born)).size < (leftOf es seen).size := by
  have h1 : leftOf es (seen.push e.born) = (leftOf es seen).filter (fun x => !(x.born == e.born)) := by
    unfold leftOf
    rw [Array.filter_filter]
    congr 1
    funext x
    rw [Array.contains_push]
    cases seen.contains x.born <;> cases (x.born == e.born) <;> rfl
  have h2 : (leftOf es (seen.push e.born)).toList = (leftOf es seen).toList.filter (fun x => !(x.born == e.born)) := by rw [h1, Array.toList_filter]
  have h3 : ((leftOf es seen).toList.filter (fun x => !(x.born == e.born))).length < (leftOf es seen).toList.length := List.length_filter_lt_length_iff_exists.2 ⟨e, he, by simp⟩
  rw [← h2] at h3
  exact h3
theorem RangeL.next (h : RangeL P k w m r L done) (ty : TypeId) :
    ((Instr.next (.pointer (some ⟨r, 0, none⟩)) false ty).run P w = .ok (.tuple #[.bool false]) w ∧ ∀ p ∈ L, p.1 ∈ done) ∨
    ∃ x v w1, (x, v) ∈ L ∧ x ∉ done ∧ (Instr.next (.pointer (some ⟨r, 0, none⟩)) false ty).run P w = .ok (.tuple #[.bool true, x, v]) w1 ∧ RangeL P k w1 m r L (done ++ [x]) ∧ w.grownBy w1 (some r) ∧ w1.heap.size = w.heap.size ∧
      (Instr.entry (.pointer (some ⟨r, 0, none⟩))).run P w1 = .ok (.tuple #[x, v]) w1 ∧ w1.rangeLeft m r < w.rangeLeft m r := by
  have hlt := h.lt
  have hne := h.ne
  obtain ⟨⟨es, cl, since, seen, c0, h1, h2, h3, h4, h5, h6, h7, h7', h8⟩, hk, hn, hd, hs⟩ := h
  rcases run_next_at (P := P) w ty r m since c0 seen es cl h5 h1 h6 h7 with ⟨h0, hrun⟩ | ⟨e, he, w0, hw0, hrun⟩
  · refine .inl ⟨hrun, fun p hp => ?_⟩
    rw [← h2] at hp
    obtain ⟨e, he, rfl⟩ := List.mem_map.1 hp
    rw [← h8 e he]
    by_cases hc : seen.contains e.born = true
    · exact hc
    · exfalso
      have : e ∈ leftOf es seen := by
        unfold leftOf
        rw [Array.mem_filter]
        exact ⟨by simpa using he, by simpa using hc⟩
      have h9 := Array.size_pos_of_mem this
      omega
  · have hel : e ∈ es.toList ∧ seen.contains e.born = false := by
      unfold leftOf at he
      have he' := Array.mem_toList_iff.1 he
      rw [Array.mem_filter] at he'
      exact ⟨by simpa using he'.1, by simpa using he'.2⟩
    have hb0 : w0.heap = w.heap := by rcases hw0 with rfl | rfl <;> rfl
    have hw0g : w.grownBy w0 (some r) := by
      rcases hw0 with rfl | rfl
      · exact ⟨rfl, rfl, rfl, Nat.le_refl _, fun _ _ _ => rfl⟩
      · exact ⟨rfl, rfl, rfl, Nat.le_refl _, fun _ _ _ => rfl⟩
    have hnd : e.key ∉ done := fun hc => by
      rw [← h8 e hel.1] at hc
      rw [hel.2] at hc
      cases hc
    have hr1 : (ChangeMaps.setBlock w0 r (.mapIter (some m) since (seen.push e.born) cl)).heap[r]? = some (.mapIter (some m) since (seen.push e.born) cl) := by
      show (w0.heap.setIfInBounds r _)[r]? = _
      rw [Array.getElem?_setIfInBounds, if_pos rfl, if_pos (by rw [hb0]; exact hlt)]
    have hm1 : (ChangeMaps.setBlock w0 r (.mapIter (some m) since (seen.push e.born) cl)).heap[m]? = some (.map es cl) := by
      show (w0.heap.setIfInBounds r _)[m]? = _
      rw [Array.getElem?_setIfInBounds_ne hne, hb0, h1]
    have hnb : (es.toList.map (fun x => x.born)).Nodup := by
      rw [List.Nodup, List.pairwise_map]
      exact h3
    refine .inr ⟨e.key, e.val, _, by rw [← h2]; exact List.mem_map.2 ⟨e, hel.1, rfl⟩, hnd, hrun, ⟨⟨es, cl, since, seen.push e.born, cl, hm1, h2, h3, h4, hr1, h6, h7', h7', ?_⟩, hk, hn, ?_, ?_⟩, hw0g.trans (setBlock_grown w0 r _), by simp [ChangeMaps.setBlock, hb0], run_entry_at _ r m since seen es cl e hr1 hm1 hel.1 hnb, by unfold World.rangeLeft; rw [hm1, hr1, h1, h5]; exact left_falls he⟩
    · intro e' he'
      have hnk : (es.toList.map (·.key)).Nodup := by rw [← h2, List.map_map] at hn; exact hn
      obtain ⟨i, hi⟩ := List.getElem?_of_mem hel.1
      obtain ⟨j, hj⟩ := List.getElem?_of_mem he'
      rw [Array.getElem?_toList] at hi hj
      have hkb : e'.born = e.born ↔ e'.key = e.key := by
        constructor
        · intro hb
          obtain rfl := born_at h3 hj hi hb
          rw [hi] at hj
          cases hj
          rfl
        · intro hb
          obtain rfl := nodup_at hnk hj hi hb
          rw [hi] at hj
          cases hj
          rfl
      rw [Array.contains_push, Bool.or_eq_true, beq_iff_eq, h8 e' he', List.mem_append, List.mem_singleton, ← hkb]
    · rw [List.nodup_append]
      refine ⟨hd, by simp, ?_⟩
      intro a ha b hb
      simp at hb
      rintro rfl
      subst hb
      exact hnd ha
    · intro x hx
      rcases List.mem_append.1 hx with hx | hx
      · exact hs x hx
      · simp at hx
        subst hx
        rw [← h2, List.map_map]
        exact List.mem_map.2 ⟨e, hel.1, rfl⟩
theorem MapL.len (h : MapL P k w m L) {t E : TypeId} (ht : P.underlying t = some (.map k E)) (ty : TypeId) : (Builtin.len_ #[t] ty #[.map (some m)]).run P w = .ok (.int .i64 L.length) w := by
  obtain ⟨⟨es, cl, h1, h2, _⟩, _, _⟩ := h
  have hg : (getObj m).run P w = .ok (.map es cl) w := by simp [getObj, Sem.run, h1]
  have hl : L.length = es.size := by rw [← h2]; simp
  simp only [Builtin.len_, List.getElem?_toArray, List.getElem?_cons_zero, Sem.run_bind, run_underlying ht, Result.andThen_ok, hg, Sem.run_pure]
  rw [hl]
  rfl
theorem MapL.delete (h : MapL P k w m L) (K : Keyed P k) {t E : TypeId} (ht : P.underlying t = some (.map k E)) {x : Value} {l : Lit} (hx : keyOf P k x = some l) (kt ty : TypeId) :
    ∃ L' w1, (Builtin.delete_ #[t, kt] ty #[.map (some m), x]).run P w = .ok (.tuple #[]) w1 ∧ MapL P k w1 m L' ∧ (∀ p, p ∈ L' ↔ p ∈ L ∧ p.1 ≠ x) ∧ w.grownBy w1 (some m) ∧ L'.Sublist L := by
  have h' := h
  obtain ⟨⟨es, cl, h1, h2, h3, h4⟩, hk, hn⟩ := h
  have hg : (getObj m).run P w = .ok (.map es cl) w := by simp [getObj, Sem.run, h1]
  have hlt := h'.lt
  rcases h'.find K hx h1 w with ⟨hr, hno⟩ | ⟨j, e, hr, hj, he, hm⟩
  · refine ⟨L, _, ?_, ⟨⟨es, cl, setObj_heap hlt, h2, h3, h4⟩, hk, hn⟩, fun p => ⟨fun hp => ⟨hp, hno p hp⟩, fun hp => hp.1⟩, setObj_grown _, List.Sublist.refl _⟩
    simp only [Builtin.delete_, List.getElem?_toArray, List.getElem?_cons_zero, List.getElem?_cons_succ, Sem.run_bind, run_underlying ht, Result.andThen_ok, hg, Sem.run_pure, K.check w es.isEmpty hx, hr, setObj_run h1]
  · have hjs : j < es.size := (Array.getElem?_eq_some_iff.1 hj).1
    have hel : (es.eraseIdxIfInBounds j).toList = es.toList.eraseIdx j := by
      unfold Array.eraseIdxIfInBounds
      rw [dif_pos hjs, Array.toList_eraseIdx]
    have hsub : ((es.eraseIdxIfInBounds j).toList.map (fun e => (e.key, e.val))).Sublist L := by
      rw [hel, ← h2]
      exact (List.eraseIdx_sublist _ _).map _
    have hnk : (es.toList.map (·.key)).Nodup := by rw [← h2, List.map_map] at hn; exact hn
    refine ⟨(es.eraseIdxIfInBounds j).toList.map (fun e => (e.key, e.val)), _, ?_, ⟨⟨_, cl, setObj_heap hlt, rfl, ?_, ?_⟩, ?_, ?_⟩, ?_, setObj_grown _, hsub⟩
    · simp only [Builtin.delete_, List.getElem?_toArray, List.getElem?_cons_zero, List.getElem?_cons_succ, Sem.run_bind, run_underlying ht, Result.andThen_ok, hg, Sem.run_pure, K.check w es.isEmpty hx, hr, setObj_run h1]
    · rw [hel]
      exact h3.sublist (List.eraseIdx_sublist _ _)
    · intro e he
      rw [hel] at he
      exact h4 e ((List.eraseIdx_sublist _ _).subset he)
    · exact fun p hp => hk p (hsub.subset hp)
    · exact hn.sublist (hsub.map _)
    · intro p
      constructor
      · intro hp
        refine ⟨hsub.subset hp, ?_⟩
        rw [hel] at hp
        obtain ⟨e', he', rfl⟩ := List.mem_map.1 hp
        intro hkx
        obtain ⟨i, hi, hie⟩ := List.mem_eraseIdx_iff_getElem?.1 he'
        have := nodup_at hnk (by rw [← Array.getElem?_toList]; exact hie) hj (by rw [he]; exact hkx)
        exact hi this
      · rintro ⟨hp, hkx⟩
        rw [← h2] at hp
        obtain ⟨e', he', rfl⟩ := List.mem_map.1 hp
        rw [hel]
        refine List.mem_map.2 ⟨e', ?_, rfl⟩
        obtain ⟨i, hi⟩ := List.getElem?_of_mem he'
        refine List.mem_eraseIdx_iff_getElem?.2 ⟨i, ?_, hi⟩
        rintro rfl
        rw [Array.getElem?_toList, hj] at hi
        cases hi
        exact hkx he
end
end Go.Proofs.Ytohphanbnhiodaa

/- loggia/disk: names. -/
namespace Go.Proofs.Ytohphanbnhiodaa
open Go.RowKit Go.Maps

set_option maxRecDepth 100000 in
theorem elemS : Elem Try.prog 88 9 1 16 := ⟨Try.underlying88, ⟨_, _, rfl, rfl, rfl, rfl, rfl⟩, by omega, by omega⟩
/-- May the letter be in a name? -/
def okb (c : UInt8) : Bool := (97 ≤ c.toNat && c.toNat ≤ 122) || (48 ≤ c.toNat && c.toNat ≤ 57) || c.toNat == 45 || c.toNat == 46
def letters : List UInt8 := [97, 98, 99, 100, 101, 102, 103, 104, 105, 106, 107, 108, 109, 110, 111, 112, 113, 114, 115, 116, 117, 118, 119, 120, 121, 122, 48, 49, 50, 51, 52, 53, 54, 55, 56, 57, 45, 46]
/-- May the name be? -/
def namedM (s : List UInt8) : Bool := 1 ≤ s.length && s.length ≤ 64 && s.all okb
theorem okb_is (c : UInt8) : decide (Lib.indexByte letters c < 0) = !okb c := by
  have h : ∀ n : Fin 256, decide (Lib.indexByte letters (UInt8.ofNat n.val) < 0) = !okb (UInt8.ofNat n.val) := by decide +kernel
  have := h ⟨c.toNat, c.toNat_lt⟩
  simpa using this
theorem letter_any (y : UInt8) (w : World) : Calls Try.prog 91 #[.string ⟨letters.toArray⟩, .int .u8 y.toNat] w fun e w' => ∃ v : Int, e = .returned (.int .i64 v) ∧ decide (v < 0) = !okb y ∧ w' = w := by
  refine (Try.strings_IndexByte ⟨letters.toArray⟩ y.toNat w).mono ?_
  rintro e w' ⟨rfl, rfl⟩
  have hcy : ((y.toNat : Int)).toNat.toUInt8 = y := by simp
  rw [hcy]
  exact ⟨_, rfl, okb_is y, rfl⟩
set_option maxRecDepth 100000 in
set_option maxHeartbeats 1000000 in
theorem named_any (s : List UInt8) (w : World) (hs : s.length ≤ 9223372036854775807) :
    Calls Try.prog 82 #[.string ⟨s.toArray⟩] w fun e w' => e = .returned (.bool (namedM s)) ∧ w' = w := by
  obtain ⟨n, hn⟩ : ∃ n, n = s.length := ⟨_, rfl⟩
  have hsz : (⟨s.toArray⟩ : ByteArray).size = n := by rw [hn]; exact ByteArray.size_mk_toArray s
  by_cases h1 : n < 1
  · have hm : namedM s = false := by unfold namedM; rw [← hn]; simp; omega
    rw [hm]
    replace hn := hide hn
    go_enter Try.func82, Try.ntmps82
    go_wp2_with fail
    go_ret
    exact ⟨rfl, rfl⟩
  · by_cases h2 : 64 < n
    · have hm : namedM s = false := by unfold namedM; rw [← hn]; simp; omega
      rw [hm]
      replace hn := hide hn
      go_enter Try.func82, Try.ntmps82
      go_wp2_with fail
      go_ret
      exact ⟨rfl, rfl⟩
    · have hm : namedM s = s.all okb := by unfold namedM; rw [← hn]; simp; omega
      rw [hm]
      replace hn := hide hn
      go_enter Try.func82, Try.ntmps82
      go_wp2_with fail
      go_loopw [14] (fun s14 wr => ∃ i : Nat, s14 = .int .i64 i ∧ i ≤ n ∧ Hid (s.all okb = (s.drop i).all okb) ∧ wr = w) (fun s14 _ => n - (intOf s14).toNat)
      case atStart => exact ⟨0, rfl, by omega, hide rfl, rfl⟩
      case round =>
        obtain ⟨i, rfl, hi, hall, rfl⟩ := hrel
        by_cases hin : i < n
        · go_wp2_with fail
          have hil : i < s.length := by rw [← hn.out]; exact hin
          obtain ⟨x, hx⟩ : ∃ x, x = s[i] := ⟨_, rfl⟩
          have hdr : (s.drop i).all okb = (okb x && (s.drop (i + 1)).all okb) := by rw [List.drop_eq_getElem_cons hil, List.all_cons, hx]
          generalize hgx : (⟨s.toArray⟩ : ByteArray)[i]'(by rw [hsz]; exact hin) = y
          have hyx : y = x := by rw [hx, ← hgx]; rfl
          subst hyx
          replace hdr := hide hdr
          replace hgx := hide hgx
          replace hx := hide hx
          refine (letter_any y wr).mono ?_
          rintro e w2 ⟨v, rfl, hv, rfl⟩
          cases hok : okb y with
          | true =>
            rw [hok] at hv hdr
            have hv' : decide (v < 0) = false := hv
            have hd2 : Hid (s.all okb = (s.drop (i + 1)).all okb) := by rw [hall.out, hdr.out]; exact Bool.true_and _
            replace hok := hide hok
            clear hv hdr
            go_wp2_with fail
            go_roundw
            case rel => exact ⟨i + 1, by go_num, by omega, hd2, trivial⟩
            case measure => simp [intOf]; omega
          | false =>
            rw [hok] at hv hdr
            have hv' : decide (v < 0) = true := hv
            have hd2 : Hid (s.all okb = false) := by rw [hall.out, hdr.out]; exact Bool.false_and _
            replace hok := hide hok
            clear hv hdr
            go_wp2_with fail
            go_ret
            rw [hd2.out]
            exact ⟨rfl, rfl⟩
        · have hd2 : s.all okb = true := by
            rw [hall.out, List.drop_eq_nil_of_le (by rw [← hn.out]; omega)]
            rfl
          replace hd2 := hide hd2
          go_wp2_with fail
          go_ret
          rw [hd2.out]
          exact ⟨rfl, rfl⟩
end Go.Proofs.Ytohphanbnhiodaa

/- loggia/disk: may a call be? -/
namespace Go.Proofs.Ytohphanbnhiodaa
open Go.RowKit Go.Maps

def str (s : List UInt8) : Value := .string ⟨s.toArray⟩
set_option maxRecDepth 100000 in
theorem may1_any (s : List UInt8) (w : World) (hs : s.length ≤ 9223372036854775807) :
    Calls Try.prog 81 #[str s] w fun e w' => e = .returned (.bool (!namedM s)) ∧ w' = w := by
  unfold str
  have h := named_any s w hs
  obtain ⟨b, hb⟩ : ∃ b, b = namedM s := ⟨_, rfl⟩
  rw [← hb] at h ⊢
  replace hb := hide hb
  replace h := hide h
  go_enter Try.func81, Try.ntmps81
  go_wp2_with fail
  refine h.out.mono ?_
  rintro e w1 ⟨rfl, rfl⟩
  go_wp2_with fail
  go_ret
  exact ⟨rfl, rfl⟩
set_option maxRecDepth 100000 in
set_option maxHeartbeats 1000000 in
theorem indexF_any (A : Option Addr) (n c : Nat) (ns : List (List UInt8)) (w : World) (hn : n = ns.length) (hA : Cells w A (ns.map str)) (hn2 : n ≤ 1000) (hs : ∀ s ∈ ns, s.length ≤ 9223372036854775807) :
    Calls Try.prog 90 #[.slice A n c, .func (.func 81) #[] #[]] w fun e w' => ∃ v : Int, e = .returned (.int .i64 v) ∧ decide (0 ≤ v) = !(ns.all namedM) ∧ w' = w := by
  replace hn := hide hn
  go_enter Try.func90, Try.ntmps90
  go_wp2_with fail
  go_loopw [8] (fun s8 wr => ∃ i : Nat, s8 = .int .i64 i ∧ i ≤ n ∧ Hid (ns.all namedM = (ns.drop i).all namedM) ∧ wr = w) (fun s8 _ => n - (intOf s8).toNat)
  case atStart => exact ⟨0, rfl, by omega, hide rfl, rfl⟩
  case round =>
    obtain ⟨i, rfl, hi, hall, rfl⟩ := hrel
    by_cases hin : i < n
    · have hil : i < ns.length := by rw [← hn.out]; exact hin
      obtain ⟨g, o, rfl, hc⟩ := hA.at_ (by rw [List.length_map]; omega)
      have hci := hc i (str ns[i]) (by simp [hil])
      obtain ⟨x, hx⟩ : ∃ x, x = ns[i] := ⟨_, rfl⟩
      have hxs : x.length ≤ 9223372036854775807 := by rw [hx]; exact hs _ (List.getElem_mem hil)
      have hdr : (ns.drop i).all namedM = (namedM x && (ns.drop (i + 1)).all namedM) := by rw [List.drop_eq_getElem_cons hil, List.all_cons, hx]
      rw [← hx] at hci
      clear hc
      replace hdr := hide hdr
      replace hx := hide hx
      go_wp2_with fail
      refine (may1_any x wr hxs).mono ?_
      rintro e w2 ⟨rfl, rfl⟩
      cases hok : namedM x with
      | true =>
        rw [hok] at hdr
        have hd2 : Hid (ns.all namedM = (ns.drop (i + 1)).all namedM) := by rw [hall.out, hdr.out]; exact Bool.true_and _
        replace hok := hide hok
        clear hdr
        go_wp2_with fail
        go_roundw
        case rel => exact ⟨i + 1, by go_num, by omega, hd2, trivial⟩
        case measure => simp [intOf]; omega
      | false =>
        rw [hok] at hdr
        have hd2 : Hid (ns.all namedM = false) := by rw [hall.out, hdr.out]; exact Bool.false_and _
        replace hok := hide hok
        clear hdr
        go_wp2_with fail
        go_ret
        rw [hd2.out]
        exact ⟨_, rfl, decide_eq_true (by omega), rfl⟩
    · have hd2 : ns.all namedM = true := by
        rw [hall.out, List.drop_eq_nil_of_le (by rw [← hn.out]; omega)]
        rfl
      replace hd2 := hide hd2
      go_wp2_with fail
      go_ret
      rw [hd2.out]
      exact ⟨-1, rfl, rfl, rfl⟩
end Go.Proofs.Ytohphanbnhiodaa

/- loggia/disk: none, may, call. -/
namespace Go.Proofs.Ytohphanbnhiodaa
open Go.RowKit Go.Maps

set_option maxRecDepth 100000 in
theorem containsF_any (A : Option Addr) (n c : Nat) (ns : List (List UInt8)) (w : World) (hn : n = ns.length) (hA : Cells w A (ns.map str)) (hn2 : n ≤ 1000) (hs : ∀ s ∈ ns, s.length ≤ 9223372036854775807) :
    Calls Try.prog 80 #[.slice A n c, .func (.func 81) #[] #[]] w fun e w' => e = .returned (.bool (!(ns.all namedM))) ∧ w' = w := by
  have h := indexF_any A n c ns w hn hA hn2 hs
  obtain ⟨b, hb⟩ : ∃ b, b = ns.all namedM := ⟨_, rfl⟩
  rw [← hb] at h ⊢
  replace h := hide h
  replace hb := hide hb
  clear hn hA
  go_enter Try.func80, Try.ntmps80
  go_wp2_with fail
  refine h.out.mono ?_
  rintro e w1 ⟨v, rfl, hv, rfl⟩
  replace hv := hide hv
  go_wp2_with fail
  go_ret
  exact ⟨ret_bool hv.out, rfl⟩
/-- The disk's own block. -/
def DRow (w : World) (d m quota armed : Nat) (stopped : Bool) : Prop := Row w d 80 #[.map (some m), .int .i64 quota, .int .i64 armed, .bool stopped]
set_option maxRecDepth 100000 in
theorem map_nil (m : Nat) (w : World) : (binOp .eql 78 (.map (some m)) (.map none)).run Try.prog w = .ok (.bool false) w := by kernel_rfl
set_option maxRecDepth 100000 in
theorem none_any (d m quota armed : Nat) (stopped : Bool) (w : World) (h : DRow w d m quota armed stopped) :
    Calls Try.prog 39 #[.pointer (some ⟨d, 0, none⟩)] w fun e w' => e = .returned (.bool false) ∧ w' = w := by
  have c0 : w.cell? ⟨d, 0, none⟩ = some (.map (some m)) := Row.cell h 0 rfl
  have hq := map_nil m w
  go_enter Try.func39, Try.ntmps39
  go_wp2_with fail
  go_ret
  exact ⟨rfl, rfl⟩
def mayM (ns : List (List UInt8)) (stopped : Bool) : Nat := if ns.all namedM then (if stopped then 63 else 0) else 60
set_option maxRecDepth 100000 in
set_option maxHeartbeats 1000000 in
theorem may_any (d m quota armed : Nat) (stopped : Bool) (A : Option Addr) (n c : Nat) (ns : List (List UInt8)) (w : World) (h : DRow w d m quota armed stopped) (hn : n = ns.length) (hA : Cells w A (ns.map str)) (hn2 : n ≤ 1000)
    (hs : ∀ s ∈ ns, s.length ≤ 9223372036854775807) :
    Calls Try.prog 60 #[.pointer (some ⟨d, 0, none⟩), .slice A n c] w fun e w' => e = .returned (.int .i64 (mayM ns stopped)) ∧ w' = w := by
  have hc := containsF_any A n c ns w hn hA hn2 hs
  have h0 := none_any d m quota armed stopped w h
  have c3 : w.cell? ⟨d, 3, none⟩ = some (.bool stopped) := Row.cell h 3 rfl
  obtain ⟨b, hb⟩ : ∃ b, b = ns.all namedM := ⟨_, rfl⟩
  have hm : mayM ns stopped = if b then (if stopped then 63 else 0) else 60 := by unfold mayM; rw [← hb]
  rw [hm]
  rw [← hb] at hc
  replace hc := hide hc
  replace h0 := hide h0
  replace hb := hide hb
  clear hn hA hm h
  cases b <;> cases stopped
  all_goals
    go_enter Try.func60, Try.ntmps60
    go_wp2_with fail
    refine h0.out.mono ?_
    rintro e w1 ⟨rfl, rfl⟩
    go_wp2_with fail
    refine hc.out.mono ?_
    rintro e w1 ⟨rfl, rfl⟩
    go_wp2_with fail
    go_ret
    exact ⟨rfl, rfl⟩
end Go.Proofs.Ytohphanbnhiodaa

/- loggia/disk: call. -/
namespace Go.Proofs.Ytohphanbnhiodaa
open Go.RowKit Go.Maps

/-- A writing call is counted: how many are left, does it stop? -/
def callM (armed : Nat) : Nat × Bool := (armed - 1, armed == 1)
set_option maxRecDepth 100000 in
set_option maxHeartbeats 1000000 in
theorem call_any (d m quota armed : Nat) (w : World) (hD : DRow w d m quota armed false) (ha : armed ≤ 9223372036854775807) :
    Calls Try.prog 62 #[.pointer (some ⟨d, 0, none⟩)] w fun e w' => e = .returned (.int .i64 (if armed = 1 then 63 else 0)) ∧ DRow w' d m quota (armed - 1) (decide (armed = 1)) ∧ Chg (fun k => k = d) w w' ∧ w'.heap.size = w.heap.size := by
  have c2 : w.cell? ⟨d, 2, none⟩ = some (.int .i64 armed) := Row.cell hD 2 rfl
  have f2 := Row.free hD 2
  have c3 : w.cell? ⟨d, 3, none⟩ = some (.bool false) := Row.cell hD 3 rfl
  have f3 := Row.free hD 3
  by_cases h0 : armed = 0
  · subst h0
    go_enter Try.func62, Try.ntmps62
    go_wp2_with fail
    go_ret
    exact ⟨rfl, hD, Chg.refl _ _, rfl⟩
  · by_cases h1 : armed = 1
    · subst h1
      have hp := (Row.put hD 2 (.int .i64 0)).put 3 (.bool true)
      go_enter Try.func62, Try.ntmps62
      go_wp2_with fail
      go_ret
      exact ⟨rfl, hp, (Chg.of_set (S := fun k => k = d) w (a := ⟨d, 2, none⟩) _ rfl).trans (Chg.of_set (S := fun k => k = d) _ (a := ⟨d, 3, none⟩) _ rfl) (fun _ _ h => h), by simp [World.setCell]⟩
    · obtain ⟨a, rfl⟩ : ∃ a, armed = a + 2 := ⟨armed - 2, by omega⟩
      have hp := Row.put hD 2 (.int .i64 ((a : Int) + 2 - 1))
      go_enter Try.func62, Try.ntmps62
      go_wp2_with fail
      go_ret
      refine ⟨rfl, ?_, Chg.of_set (S := fun k => k = d) w (a := ⟨d, 2, none⟩) _ rfl, by simp [World.setCell]⟩
      have e3 : ((a + 1 : Nat) : Int) = (a : Int) + 2 - 1 := by omega
      unfold DRow
      rw [e3]
      exact hp
end Go.Proofs.Ytohphanbnhiodaa

/- loggia/disk: how a disk lies in memory. -/
namespace Go.Proofs.Ytohphanbnhiodaa
open Go.RowKit Go.Maps

theorem keyS : Keyed Try.prog 9 := string_keyed Try.underlying9
/-- A file: its name, its block, its bytes, how many are durable, where they lie. -/
structure Ent where
  name : List UInt8
  f : Nat
  b : List UInt8
  sure : Nat
  A : Option Addr
  c : Nat
def Ent.kv (e : Ent) : Value × Value := (str e.name, .pointer (some ⟨e.f, 0, none⟩))
/-- What the document says of it. -/
def Ent.pl (e : Ent) : List UInt8 × List UInt8 × Nat := (e.name, e.b, e.sure)
structure EOk (w : World) (base : Nat) (e : Ent) : Prop where
  row : Row w e.f 94 #[.slice e.A e.b.length e.c, .int .i64 e.sure]
  buf : Buf w base 5 e.A e.b.length e.c (e.b.map B8)
  low : base ≤ e.f
  sure : e.sure ≤ e.b.length
/-- The map m has just the files E. -/
structure FS (w : World) (base m : Nat) (E : List Ent) : Prop where
  map : ∃ L, MapL Try.prog 9 w m L ∧ (∀ p, p ∈ L ↔ ∃ e ∈ E, p = e.kv) ∧ L.length = E.length
  ok : ∀ e ∈ E, EOk w base e
  low : base ≤ m
  names : (E.map Ent.name).Nodup
  short : ∀ e ∈ E, e.name.length ≤ 9223372036854775807
  fd : E.Pairwise (fun a b => a.f ≠ b.f)
  ad : E.Pairwise (fun a b => ∀ x y, a.A = some x → b.A = some y → x.block ≠ y.block)
end Go.Proofs.Ytohphanbnhiodaa

/- loggia/disk: Used. -/
namespace Go.Proofs.Ytohphanbnhiodaa
open Go.RowKit Go.Maps

theorem str_inj {a b : List UInt8} (h : str a = str b) : a = b := by
  unfold str at h
  injection h with h
  injection h with h
  simpa using h
theorem nodup_of_map {α β : Type} (f : α → β) : ∀ {l : List α}, (l.map f).Nodup → l.Nodup
  | [], _ => List.nodup_nil
  | a :: l, h => by
    rw [List.map_cons, List.nodup_cons] at h
    rw [List.nodup_cons]
    exact ⟨fun ha => h.1 (List.mem_map.2 ⟨a, ha, rfl⟩), nodup_of_map f h.2⟩
theorem inj_of_map {α β : Type} (f : α → β) : ∀ {l : List α}, (l.map f).Nodup → ∀ {a b : α}, a ∈ l → b ∈ l → f a = f b → a = b
  | [], _, _, _, h, _, _ => by cases h
  | x :: l, h, a, b, ha, hb, he => by
    rw [List.map_cons, List.nodup_cons] at h
    rcases List.mem_cons.1 ha with h1 | h1 <;> rcases List.mem_cons.1 hb with h2 | h2
    · rw [h1, h2]
    · exact (h.1 (List.mem_map.2 ⟨b, h2, by rw [← he, h1]⟩)).elim
    · exact (h.1 (List.mem_map.2 ⟨a, h1, by rw [he, h2]⟩)).elim
    · exact inj_of_map f h.2 h1 h2 he
def usedM (E : List Ent) : Nat := (E.map fun e => e.b.length).sum
/-- The entries that a range has brought, when it has brought all. -/
theorem all_came {E D : List Ent} (hE : (E.map Ent.name).Nodup) (hD : (D.map fun e => str e.name).Nodup) (hs : ∀ e ∈ D, e ∈ E) (ha : ∀ e ∈ E, str e.name ∈ D.map fun e => str e.name) : D.Perm E := by
  have hEn : E.Nodup := nodup_of_map _ hE
  have hDn : D.Nodup := nodup_of_map _ hD
  refine (List.perm_ext_iff_of_nodup hDn hEn).2 fun e => ⟨hs e, fun he => ?_⟩
  obtain ⟨e', he', hk⟩ := List.mem_map.1 (ha e he)
  have hn : e'.name = e.name := str_inj hk
  have : e' = e := by
    have h1 := hs e' he'
    exact inj_of_map Ent.name hE h1 he hn
  rw [← this]
  exact he'
theorem used_le : ∀ (D E : List Ent), D.Nodup → (∀ e ∈ D, e ∈ E) → usedM D ≤ usedM E
  | [], E, _, _ => Nat.zero_le _
  | a :: D, E, hn, hs => by
    rw [List.nodup_cons] at hn
    obtain ⟨E1, E2, rfl⟩ := List.append_of_mem (hs a (by simp))
    have := used_le D (E1 ++ E2) hn.2 fun e he => by
      have h1 := hs e (List.mem_cons_of_mem _ he)
      rcases List.mem_append.1 h1 with h2 | h2
      · exact List.mem_append_left _ h2
      · rcases List.mem_cons.1 h2 with h3 | h3
        · exact absurd (h3 ▸ he) hn.1
        · exact List.mem_append_right _ h3
    unfold usedM at *
    simp only [List.map_append, List.map_cons, List.sum_append, List.sum_cons] at *
    omega
end Go.Proofs.Ytohphanbnhiodaa

/- loggia/disk: Used, the walk. -/
namespace Go.Proofs.Ytohphanbnhiodaa
open Go.RowKit Go.Maps

set_option maxRecDepth 100000 in
set_option maxHeartbeats 1000000 in
theorem used_any (base d m quota armed : Nat) (stopped : Bool) (E : List Ent) (w : World) (h : DRow w d m quota armed stopped) (hF : FS w base m E) (hu : usedM E ≤ 1099511627776) :
    Calls Try.prog 61 #[.pointer (some ⟨d, 0, none⟩)] w fun e w' => e = .returned (.int .i64 (usedM E)) ∧ Ext w w' := by
  have h0 := none_any d m quota armed stopped w h
  replace h0 := hide h0
  have c0 : w.cell? ⟨d, 0, none⟩ = some (.map (some m)) := Row.cell h 0 rfl
  obtain ⟨L, hL, hmem, hlen⟩ := hF.map
  obtain ⟨o, hrange, hRL⟩ := hL.range Try.underlying78
  go_enter Try.func61, Try.ntmps61
  go_wp2_with fail
  refine h0.out.mono ?_
  rintro e w1 ⟨rfl, rfl⟩
  go_wp2_with fail
  have hE0 : Ext w1 (w1.alloc o) := (Ext.refl w1).alloc o
  go_loopw [3] (fun s3 wr => ∃ (D : List Ent) (n : Nat), s3 = .int .i64 n ∧ n ≤ 1099511627776 ∧ Hid (n = usedM D) ∧ Hid (RangeL Try.prog 9 wr m w1.heap.size L (D.map fun e => str e.name)) ∧ Hid (∀ e ∈ D, e ∈ E) ∧ Ext w1 wr) (fun _ wr => wr.rangeLeft m w1.heap.size)
  case atStart => exact ⟨[], 0, rfl, by omega, rfl, hRL, hide (by simp), hE0⟩
  case round =>
    obtain ⟨D, n, rfl, hn, hnD, hR, hD, hE⟩ := hrel
    rcases hR.out.next 0 with ⟨hrun, hall⟩ | ⟨x, v, w2, hxv, hxd, hrun, hR2, hg2, hs2, hent, hleft⟩
    · have hperm : D.Perm E := all_came hF.names hR.out.dn hD.out (fun e he => by
        have := hall e.kv ((hmem _).2 ⟨e, he, rfl⟩)
        exact this)
      have hfin : n = usedM E := by
        rw [hnD.out]
        unfold usedM
        exact (hperm.map _).sum_nat
      replace hfin := hide hfin
      go_wp2_with fail
      go_ret
      rw [hfin.out]
      exact ⟨rfl, hE⟩
    · obtain ⟨e0, he0, hkv⟩ := (hmem _).1 hxv
      unfold Ent.kv at hkv
      injection hkv with hx1 hv1
      subst hx1
      subst hv1
      have hok := (hF.ok e0 he0).row
      have hE2 : Ext w1 w2 := hE.grown hg2 (fun k hk => by cases hk; exact Nat.le_refl _)
      have cf : w2.cell? ⟨e0.f, 0, none⟩ = some (.slice e0.A e0.b.length e0.c) := hE2.cell (hok.cell 0 rfl)
      obtain ⟨bl, hbl⟩ : ∃ x, x = e0.b.length := ⟨_, rfl⟩
      rw [← hbl] at cf
      have hsum : usedM (D ++ [e0]) = n + bl := by
        unfold usedM
        rw [List.map_append, List.sum_append, hbl]
        simp
        exact hnD.out.symm
      have hle : n + bl ≤ 1099511627776 := by
        rw [← hsum]
        refine Nat.le_trans (used_le _ E ?_ ?_) hu
        · refine nodup_of_map (fun e => str e.name) ?_
          rw [List.map_append]
          exact hR2.dn
        · intro e he
          rcases List.mem_append.1 he with he | he
          · exact hD.out e he
          · simp at he; subst he; exact he0
      replace hsum := hide hsum.symm
      replace hbl := hide hbl
      go_wp2_with fail
      go_roundw
      case rel => exact ⟨D ++ [e0], n + bl, by go_num, by omega, hsum, hide (by rw [List.map_append]; exact hR2), hide (fun e he => by
        rcases List.mem_append.1 he with he | he
        · exact hD.out e he
        · simp at he; subst he; exact he0), hE2⟩
      case measure => exact hleft
end Go.Proofs.Ytohphanbnhiodaa

