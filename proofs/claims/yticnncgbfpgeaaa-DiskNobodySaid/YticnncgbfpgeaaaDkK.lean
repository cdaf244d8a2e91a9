/- A disk in memory and a disk, plainly; the calls that turn little. -/
import Derived.Test.YticnncgbfpgeaaaDkJ
namespace Go.Proofs.Yticnncgbfpgeaaa
open Go.RowKit Go.Maps

/-- The disk at d with the map m and the files E is P. -/
structure DE (w : World) (base d m : Nat) (P : PD) (E : List Ent) : Prop where
  row : DRow w d m P.quota P.armed P.stopped
  fs : FS w base m E
  low : base ≤ d
  up : Up Ent.name E
  cnt : E.length ≤ 1024
  lens : ∀ e ∈ E, e.b.length ≤ 67108864
  pl : E.map Ent.pl = P.L
  hq : P.quota ≤ 9223372036854775807
  ha : P.armed ≤ 9223372036854775807
/-- Its blocks. -/
def Foot (d m : Nat) (E : List Ent) (k : Nat) : Prop := k = d ∨ k = m ∨ ∃ e ∈ E, k = e.f ∨ ∃ a, e.A = some a ∧ a.block = k
/-- The disk at d is P; it has the blocks F. -/
def DS (w : World) (base d : Nat) (P : PD) (F : Nat → Prop) : Prop := ∃ m E, DE w base d m P E ∧ ∀ k, F k ↔ Foot d m E k
/-- A call of the disk at d, of the blocks F, has made P of it. -/
def DNext (base d : Nat) (F : Nat → Prop) (w : World) (P : PD) (w' : World) : Prop := ∃ F', DS w' base d P F' ∧ Chg F w w' ∧ ∀ k, F' k → F k ∨ w.heap.size ≤ k
section
variable {w w1 : World} {base d m : Nat} {P : PD} {E : List Ent} {F : Nat → Prop}
theorem DE.used (h : DE w base d m P E) : usedM E = usedP P.L := by
  rw [← h.pl]
  unfold usedM usedP
  rw [List.map_map]
  rfl
theorem used_bd : ∀ (E : List Ent), (∀ e ∈ E, e.b.length ≤ 67108864) → usedM E ≤ E.length * 67108864
  | [], _ => Nat.zero_le _
  | e :: E, h => by
    have := used_bd E fun x hx => h x (List.mem_cons_of_mem _ hx)
    have := h e (List.mem_cons_self ..)
    unfold usedM at *
    simp only [List.map_cons, List.sum_cons, List.length_cons]
    omega
theorem DE.used_le (h : DE w base d m P E) : usedM E ≤ 68719476736 := Nat.le_trans (used_bd E h.lens) (by have := h.cnt; omega)
theorem DE.find_in (h : DE w base d m P E) {e : Ent} (he : e ∈ E) : P.find e.name = some e.pl := by
  have h2 : Up fname P.L := by
    rw [← h.pl]
    unfold Up
    rw [List.pairwise_map]
    exact h.up
  exact find_of h2 (f := e.pl) (by rw [← h.pl]; exact List.mem_map.2 ⟨e, he, rfl⟩)
theorem DE.find_out (h : DE w base d m P E) {s : List UInt8} (hn : ∀ e ∈ E, e.name ≠ s) : P.find s = none := find_no (fun f hf => by
  rw [← h.pl] at hf
  obtain ⟨e, he, rfl⟩ := List.mem_map.1 hf
  exact hn e he)
set_option maxRecDepth 100000 in
theorem key_str {s : List UInt8} (hs : s.length ≤ 9223372036854775807) : keyOf Try.prog 9 (str s) = some (.string s) := WideMaps.keyOf_string_mk (P := Try.prog) Try.underlying9 (s := ⟨s.toArray⟩) (by rw [ByteArray.size_mk_toArray]; exact hs)
set_option maxRecDepth 100000 in
theorem DE.lookup (h : DE w base d m P E) (s : List UInt8) (hs : s.length ≤ 9223372036854775807) (W : World) (hW : W.heap[m]? = w.heap[m]?) :
    (∃ e ∈ E, e.name = s ∧ (Instr.lookup 61 (.map (some m)) (str s) true).run Try.prog W = .ok (.tuple #[.pointer (some ⟨e.f, 0, none⟩), .bool true]) W) ∨
    ((∀ e ∈ E, e.name ≠ s) ∧ (Instr.lookup 61 (.map (some m)) (str s) true).run Try.prog W = .ok (.tuple #[.pointer none, .bool false]) W) := by
  obtain ⟨L, hL, hmem, _⟩ := h.fs.map
  rcases (hL.keep hW).look keyS Try.underlying61 (x := str s) (key_str hs) (by kernel_rfl : (zeroValue 70).run Try.prog W = .ok (.pointer none) W) true with ⟨v, hv, hrun⟩ | ⟨hno, hrun⟩
  · obtain ⟨e, he, hkv⟩ := (hmem _).1 hv
    unfold Ent.kv at hkv
    injection hkv with h1 h2
    subst h2
    exact .inl ⟨e, he, (str_inj h1).symm, hrun⟩
  · refine .inr ⟨fun e he hs => hno e.kv ((hmem _).2 ⟨e, he, rfl⟩) (by rw [← hs]; rfl), hrun⟩
theorem DE.lt (h : DE w base d m P E) {k : Nat} (hk : Foot d m E k) : k < w.heap.size := by
  rcases hk with rfl | rfl | ⟨e, he, rfl | ⟨a, ha, rfl⟩⟩
  · exact Row.lt h.row
  · obtain ⟨L, hL, _⟩ := h.fs.map
    exact hL.lt
  · exact (h.fs.ok e he).row.lt
  · exact (h.fs.ok e he).buf.lt a ha
theorem DE.base_le (h : DE w base d m P E) {k : Nat} (hk : Foot d m E k) : base ≤ k := by
  rcases hk with rfl | rfl | ⟨e, he, rfl | ⟨a, ha, rfl⟩⟩
  · exact h.low
  · exact h.fs.low
  · exact (h.fs.ok e he).low
  · exact (h.fs.ok e he).buf.base_le a ha
theorem DS.lt (h : DS w base d P F) {k : Nat} (hk : F k) : k < w.heap.size := by
  obtain ⟨m, E, hD, hF⟩ := h
  exact hD.lt ((hF k).1 hk)
theorem DS.base_le (h : DS w base d P F) {k : Nat} (hk : F k) : base ≤ k := by
  obtain ⟨m, E, hD, hF⟩ := h
  exact hD.base_le ((hF k).1 hk)
theorem EOk.keep {e : Ent} (h : EOk w base e) (hf : w1.heap[e.f]? = w.heap[e.f]?) (ha : ∀ a, e.A = some a → w1.heap[a.block]? = w.heap[a.block]?) : EOk w1 base e :=
  ⟨h.row.keep hf, h.buf.keep fun g hg => ha ⟨g, 0, none⟩ hg, h.low, h.sure⟩
theorem FS.keep (h : FS w base m E) (hm : w1.heap[m]? = w.heap[m]?) (he : ∀ e ∈ E, w1.heap[e.f]? = w.heap[e.f]? ∧ ∀ a, e.A = some a → w1.heap[a.block]? = w.heap[a.block]?) : FS w1 base m E := by
  obtain ⟨⟨L, hL, hmem⟩, hok, r1, r2, r3, r4, r5⟩ := h
  exact ⟨⟨L, hL.keep hm, hmem⟩, fun e h => (hok e h).keep (he e h).1 (he e h).2, r1, r2, r3, r4, r5⟩
theorem FS.chg {S : Nat → Prop} (h : FS w base m E) (hc : Chg S w w1) (hn : ∀ k, S k → k ≠ m ∧ ∀ e ∈ E, k ≠ e.f ∧ ∀ a, e.A = some a → k ≠ a.block) : FS w1 base m E := by
  have hml : m < w.heap.size := by
    obtain ⟨L, hL, _⟩ := h.map
    exact hL.lt
  exact h.keep (hc.block m hml fun hs => (hn m hs).1 rfl) fun e he => ⟨hc.block _ (h.ok e he).row.lt fun hs => ((hn _ hs).2 e he).1 rfl, fun a ha => hc.block _ ((h.ok e he).buf.lt a ha) fun hs => ((hn _ hs).2 e he).2 a ha rfl⟩
theorem DE.chg {S : Nat → Prop} (h : DE w base d m P E) (hc : Chg S w w1) (hn : ∀ k, S k → ¬ Foot d m E k) : DE w1 base d m P E :=
  ⟨Chg.row hc h.row (fun hs => hn d hs (.inl rfl)), h.fs.chg hc (fun k hs => ⟨fun e => hn k hs (.inr (.inl e)), fun x hx => ⟨fun e => hn k hs (.inr (.inr ⟨x, hx, .inl e⟩)), fun a ha e => hn k hs (.inr (.inr ⟨x, hx, .inr ⟨a, ha, e.symm⟩⟩))⟩⟩), h.low, h.up, h.cnt, h.lens, h.pl, h.hq, h.ha⟩
theorem DS.chg {S : Nat → Prop} (h : DS w base d P F) (hc : Chg S w w1) (hn : ∀ k, S k → ¬ F k) : DS w1 base d P F := by
  obtain ⟨m, E, hD, hF⟩ := h
  exact ⟨m, E, hD.chg hc (fun k hs hk => hn k hs ((hF k).2 hk)), hF⟩
theorem DS.ext (h : DS w base d P F) (hc : Ext w w1) : DS w1 base d P F := h.chg (Chg.of_ext hc (fun _ => False)) (fun _ h => h.elim)
/-- Block d is none of the files', nor the map. -/
theorem DE.apart (h : DE w base d m P E) : d ≠ m ∧ ∀ e ∈ E, d ≠ e.f ∧ ∀ a, e.A = some a → d ≠ a.block := by
  refine ⟨?_, fun e he => ⟨Row.unlike h.row (h.fs.ok e he).row (by decide), fun a ha hd => (h.fs.ok e he).buf.unlike h.row (by decide) a ha hd.symm⟩⟩
  rintro rfl
  obtain ⟨L, hL, _⟩ := h.fs.map
  obtain ⟨es, cl, hm, _⟩ := hL.ex
  have h1 : w.heap[d]? = some (.cells _ _ (0, 0)) := h.row
  rw [h1] at hm
  cases hm
/-- Only its own block has turned. -/
theorem DE.own {P' : PD} (h : DE w base d m P E) (hc : Chg (fun k => k = d) w w1) (hr : DRow w1 d m P'.quota P'.armed P'.stopped) (hL : P'.L = P.L) (hq : P'.quota ≤ 9223372036854775807) (ha : P'.armed ≤ 9223372036854775807) : DE w1 base d m P' E :=
  ⟨hr, h.fs.chg hc (fun k hk => by subst hk; exact h.apart), h.low, h.up, h.cnt, h.lens, by rw [hL]; exact h.pl, hq, ha⟩
theorem DS.next (h : DS w base d P F) {m : Nat} {E E' : List Ent} {P' : PD} (hF : ∀ k, F k ↔ Foot d m E k) (hD : DE w1 base d m P' E') (hc : Chg (Foot d m E) w w1) (hf : ∀ k, Foot d m E' k → Foot d m E k ∨ w.heap.size ≤ k) : DNext base d F w P' w1 :=
  ⟨Foot d m E', ⟨m, E', hD, fun _ => Iff.rfl⟩, hc.mono (fun k _ hk => (hF k).2 hk), fun k hk => (hf k hk).imp_left (hF k).2⟩
end
set_option maxRecDepth 100000 in
theorem quota_any (base d : Nat) (P : PD) (F : Nat → Prop) (q : Int) (w : World) (h : DS w base d P F) (hq : q ≤ 9223372036854775807) :
    Calls Try.prog 28 #[.pointer (some ⟨d, 0, none⟩), .int .i64 q] w fun e w' => e = .returned (.int .i64 (if q < 0 then 1 else 0)) ∧ DNext base d F w (if q < 0 then P else { P with quota := q.toNat }) w' := by
  have hS := h
  obtain ⟨m, E, hD, hF⟩ := h
  have h0 := none_any d m P.quota P.armed P.stopped w hD.row
  have f1 := Row.free hD.row 1
  have hp := Row.put hD.row 1 (.int .i64 q)
  by_cases hq0 : q < 0
  · rw [if_pos hq0, if_pos hq0]
    replace h0 := hide h0
    clear hp f1
    go_enter Try.func28, Try.ntmps28
    go_wp2_with fail
    refine h0.out.mono ?_
    rintro e w1 ⟨rfl, rfl⟩
    go_wp2_with fail
    go_ret
    exact ⟨rfl, hS.next hF hD (Chg.refl _ _) (fun k hk => .inl hk)⟩
  · rw [if_neg hq0, if_neg hq0]
    have c1 : w.cell? ⟨d, 1, none⟩ = some (.int .i64 P.quota) := Row.cell hD.row 1 rfl
    replace h0 := hide h0
    replace hp := hide hp
    go_enter Try.func28, Try.ntmps28
    go_wp2_with fail
    refine h0.out.mono ?_
    rintro e w1 ⟨rfl, rfl⟩
    go_wp2_with fail
    go_ret
    have hc : Chg (fun k => k = d) w1 (w1.setCell ⟨d, 1, none⟩ (.int .i64 q)) := Chg.of_set w1 (a := ⟨d, 1, none⟩) _ rfl
    refine ⟨rfl, hS.next hF (E' := E) (P' := { P with quota := q.toNat }) (hD.own hc ?_ rfl (by show q.toNat ≤ _; omega) hD.ha) (hc.mono (fun k _ hk => .inl hk)) (fun k hk => .inl hk)⟩
    unfold DRow
    rw [show ((q.toNat : Nat) : Int) = q by omega]
    exact hp.out
theorem run_max2 {P : Program} (ts : Array TypeId) (ty : TypeId) {x y m : Int} (hm : m = max x y) (W : World) : (Builtin.max_ ts ty #[.int .i64 x, .int .i64 y]).run P W = .ok (.int .i64 m) W := by
  simp only [Builtin.max_, List.foldlM, Builtin.max2, Sem.run_bind, Sem.run_pure, Result.andThen_ok]
  subst hm
  congr 2
  split <;> omega
set_option maxRecDepth 100000 in
theorem arm_any (base d : Nat) (P : PD) (F : Nat → Prop) (q : Int) (w : World) (h : DS w base d P F) (hq : q ≤ 9223372036854775807) :
    Calls Try.prog 26 #[.pointer (some ⟨d, 0, none⟩), .int .i64 q] w fun e w' => e = .returned (.tuple #[]) ∧ DNext base d F w { P with armed := q.toNat } w' := by
  have hS := h
  obtain ⟨m, E, hD, hF⟩ := h
  have h0 := none_any d m P.quota P.armed P.stopped w hD.row
  have f1 := Row.free hD.row 2
  have hp := Row.put hD.row 2 (.int .i64 (q.toNat : Nat))
  have c1 : w.cell? ⟨d, 2, none⟩ = some (.int .i64 P.armed) := Row.cell hD.row 2 rfl
  have hmx : (max q 0 : Int) = (q.toNat : Nat) := by omega
  have hmy : (max 0 q : Int) = (q.toNat : Nat) := by omega
  replace hmx := hide hmx
  replace hmy := hide hmy
  replace h0 := hide h0
  replace hp := hide hp
  go_enter Try.func26, Try.ntmps26
  go_wp2_with fail
  refine h0.out.mono ?_
  rintro e w1 ⟨rfl, rfl⟩
  go_wp2_with fail
  all_goals
    first | rw [hmx.out] | rw [hmy.out]
    go_end0
    have hc : Chg (fun k => k = d) w1 (w1.setCell ⟨d, 2, none⟩ (.int .i64 (q.toNat : Nat))) := Chg.of_set w1 (a := ⟨d, 2, none⟩) _ rfl
    exact ⟨rfl, hS.next hF (E' := E) (P' := { P with armed := q.toNat }) (hD.own hc hp.out rfl hD.hq (by show q.toNat ≤ _; omega)) (hc.mono (fun k _ hk => .inl hk)) (fun k hk => .inl hk)⟩
set_option maxRecDepth 100000 in
theorem stopped_any (base d : Nat) (P : PD) (F : Nat → Prop) (w : World) (h : DS w base d P F) :
    Calls Try.prog 14 #[.pointer (some ⟨d, 0, none⟩)] w fun e w' => e = .returned (.bool P.stopped) ∧ w' = w := by
  obtain ⟨m, E, hD, hF⟩ := h
  have h0 := none_any d m P.quota P.armed P.stopped w hD.row
  have c1 : w.cell? ⟨d, 3, none⟩ = some (.bool P.stopped) := Row.cell hD.row 3 rfl
  obtain ⟨b, hb⟩ : ∃ b, b = P.stopped := ⟨_, rfl⟩
  rw [← hb] at c1 ⊢
  replace hb := hide hb
  replace h0 := hide h0
  go_enter Try.func14, Try.ntmps14
  go_wp2_with fail
  refine h0.out.mono ?_
  rintro e w1 ⟨rfl, rfl⟩
  go_wp2_with fail
  go_ret
  exact ⟨rfl, rfl⟩
end Go.Proofs.Yticnncgbfpgeaaa
