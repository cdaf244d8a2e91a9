/- loggialaw06: what a quota holds. -/
import Derived.Test.YticnncgbfpgeaaaDlO
import Derived.Deep.CutBlock
namespace Go.Proofs.Yticnncgbfpgeaaa

theorem used_cons (f : PF) (l : List PF) : usedP (f :: l) = f.2.1.length + usedP l := by unfold usedP; rw [List.map_cons, List.sum_cons]
theorem used_ins (f : PF) : ∀ l : List PF, usedP (insG fname f l) = f.2.1.length + usedP l
  | [] => by unfold insG; exact used_cons f []
  | x :: xs => by
    unfold insG
    split
    · exact used_cons f _
    · rw [used_cons, used_ins f xs, used_cons]
      omega
theorem used_without (s : List UInt8) : ∀ l : List PF, usedP (withoutG fname s l) ≤ usedP l
  | [] => Nat.le_refl _
  | x :: xs => by
    have ih := used_without s xs
    unfold withoutG at ih ⊢
    rw [List.filter_cons]
    split
    · rw [used_cons, used_cons]
      omega
    · rw [used_cons]
      omega
theorem used_without_mem {f : PF} : ∀ l : List PF, f ∈ l → usedP (withoutG fname (fname f) l) + f.2.1.length ≤ usedP l
  | [], h => by cases h
  | x :: xs, h => by
    have h0 := used_without (fname f) xs
    rcases List.mem_cons.1 h with rfl | h1
    · unfold withoutG at h0 ⊢
      rw [List.filter_cons, if_neg (by simp), used_cons]
      omega
    · have ih := used_without_mem xs h1
      unfold withoutG at ih ⊢
      rw [List.filter_cons]
      split
      · rw [used_cons, used_cons]
        omega
      · rw [used_cons]
        omega
theorem used_with_mem {f g : PF} {l : List PF} (h : f ∈ l) (hn : fname g = fname f) : usedP (withG fname g l) + f.2.1.length ≤ usedP l + g.2.1.length := by
  unfold withG
  rw [used_ins, hn]
  have := used_without_mem l h
  omega
theorem used_mapIdx : ∀ (l : List PF) (g : Nat → PF → PF), (∀ i f, (g i f).2.1.length ≤ f.2.1.length) → usedP (l.mapIdx g) ≤ usedP l
  | [], g, _ => by rw [List.mapIdx_nil]; exact Nat.le_refl _
  | x :: xs, g, h => by
    rw [List.mapIdx_cons, used_cons, used_cons]
    have h1 := h 0 x
    have h2 := used_mapIdx xs (fun i => g (i + 1)) fun i f => h (i + 1) f
    omega
/-- No more is used than the quota. -/
def Qok (P : PD) : Prop := 0 < P.quota → usedP P.L ≤ P.quota
theorem q_writes {P : PD} (h : Qok P) (ns : List (List UInt8)) (s : List UInt8) (k : PF → List PF) (hk : ∀ f ∈ P.L, f.1 = s → usedP (k f) ≤ usedP P.L) : Qok (writesM P ns s k).1 ∧ (writesM P ns s k).1.quota = P.quota ∧ ((writesM P ns s k).2 ≠ 0 → (writesM P ns s k).2 ≠ 63 → (writesM P ns s k).1.stopped = P.stopped) := by
  unfold writesM
  split
  · split
    · exact ⟨h, rfl, fun _ _ => rfl⟩
    · split
      · rename_i f hf
        split
        · exact ⟨h, rfl, fun _ h2 => absurd rfl h2⟩
        · exact ⟨fun hq => Nat.le_trans (hk f (find_some hf).1 (find_some hf).2) (h hq), rfl, fun h1 _ => absurd rfl h1⟩
      · exact ⟨h, rfl, fun _ _ => rfl⟩
  · exact ⟨h, rfl, fun _ _ => rfl⟩
theorem q_put {P : PD} (h : Qok P) (f : PF) (b : List UInt8) (hf : usedP (withG fname (f.1, f.2.1 ++ b, f.2.2) P.L) ≤ usedP P.L + b.length) : Qok (putM P f b).1 ∧ (putM P f b).1.quota = P.quota ∧ ((putM P f b).2 ≠ 0 → (putM P f b).2 ≠ 63 → (putM P f b).1.stopped = P.stopped) := by
  unfold putM
  split
  · exact ⟨h, rfl, fun _ _ => rfl⟩
  · split
    · exact ⟨h, rfl, fun _ _ => rfl⟩
    · rename_i hfl
      split
      · exact ⟨h, rfl, fun _ h2 => absurd rfl h2⟩
      · refine ⟨fun hq => ?_, rfl, fun h1 _ => absurd rfl h1⟩
        have hq' : 0 < P.quota := hq
        have hu := h hq'
        show usedP (withG fname (f.1, f.2.1 ++ b, f.2.2) P.L) ≤ P.quota
        unfold fullM at hfl
        simp only [hq', decide_true, Bool.true_and, Bool.and_eq_true, decide_eq_true_eq, not_and] at hfl
        rcases Nat.eq_zero_or_pos b.length with h0 | h0
        · omega
        · have := hfl h0
          omega
theorem q_append {P : PD} (h : Qok P) (s b : List UInt8) : Qok (appendM P s b).1 ∧ (appendM P s b).1.quota = P.quota ∧ ((appendM P s b).2 ≠ 0 → (appendM P s b).2 ≠ 63 → (appendM P s b).1.stopped = P.stopped) := by
  unfold appendM
  split
  · split
    · exact ⟨h, rfl, fun _ _ => rfl⟩
    · split
      · rename_i f hf
        refine q_put h f b ?_
        have := used_with_mem (f := f) (g := (f.1, f.2.1 ++ b, f.2.2)) (find_some hf).1 rfl
        simp only [List.length_append] at this
        omega
      · split
        · exact ⟨h, rfl, fun _ _ => rfl⟩
        · refine q_put h (s, [], 0) b ?_
          unfold withG
          rw [used_ins]
          have := used_without (fname ((s, [] ++ b, 0) : PF)) P.L
          simp only [List.nil_append] at this ⊢
          omega
  · exact ⟨h, rfl, fun _ _ => rfl⟩
theorem q_sync {P : PD} (h : Qok P) (s : List UInt8) : Qok (syncM P s).1 ∧ (syncM P s).1.quota = P.quota ∧ ((syncM P s).2 ≠ 0 → (syncM P s).2 ≠ 63 → (syncM P s).1.stopped = P.stopped) := by
  refine q_writes h _ _ _ fun f hf _ => ?_
  have := used_with_mem (f := f) (g := (f.1, f.2.1, f.2.1.length)) hf rfl
  simp only at this
  omega
theorem q_rename {P : PD} (h : Qok P) (s t : List UInt8) : Qok (renameM P s t).1 ∧ (renameM P s t).1.quota = P.quota ∧ ((renameM P s t).2 ≠ 0 → (renameM P s t).2 ≠ 63 → (renameM P s t).1.stopped = P.stopped) := by
  refine q_writes h _ _ _ fun f hf hs => ?_
  unfold withG
  rw [used_ins]
  have h1 := used_without (fname ((t, f.2.1, f.2.2) : PF)) (withoutG fname s P.L)
  have h2 := used_without_mem P.L hf
  have h3 : fname f = s := hs
  rw [h3] at h2
  simp only at h1 ⊢
  omega
theorem q_remove {P : PD} (h : Qok P) (s : List UInt8) : Qok (removeM P s).1 ∧ (removeM P s).1.quota = P.quota ∧ ((removeM P s).2 ≠ 0 → (removeM P s).2 ≠ 63 → (removeM P s).1.stopped = P.stopped) :=
  q_writes h _ _ _ fun _ _ _ => used_without _ _
theorem Qok.step {P : PD} (h : Qok P) (o : Opr) (ho : o.kd % 12 ≠ 10) : Qok (stepM P o) ∧ (stepM P o).quota = P.quota := by
  unfold stepM
  split
  · exact ⟨(q_sync h _).1, (q_sync h _).2.1⟩
  split
  · exact ⟨(q_rename h _ _).1, (q_rename h _ _).2.1⟩
  split
  · exact ⟨(q_remove h _).1, (q_remove h _).2.1⟩
  split
  · exact ⟨h, rfl⟩
  split
  · exact ⟨h, rfl⟩
  split
  · refine ⟨fun hq => Nat.le_trans ?_ (h hq), rfl⟩
    exact used_mapIdx _ _ fun i f => List.length_take_le' _ _
  split
  · exact ⟨h, rfl⟩
  · exact ⟨(q_append h _ _).1, (q_append h _ _).2.1⟩
/-- What an op of a fork answers. -/
def codeM (P : PD) (o : Opr) : Nat :=
  if o.kd % 12 = 4 then (syncM P o.name).2
  else if o.kd % 12 = 5 then (renameM P o.name o.nto).2
  else if o.kd % 12 = 6 then (removeM P o.name).2
  else if o.kd % 12 < 4 then (appendM P o.name o.b).2
  else 0
theorem Qok.code {P : PD} (h : Qok P) (o : Opr) : codeM P o ≠ 0 → codeM P o ≠ 63 → (stepM P o).stopped = P.stopped := by
  unfold codeM stepM
  split
  · exact (q_sync h _).2.2
  split
  · exact (q_rename h _ _).2.2
  split
  · exact (q_remove h _).2.2
  split
  · rename_i h4
    rw [if_neg (by omega), if_neg (by omega), if_neg (by omega), if_neg (by omega), if_neg (by omega)]
    exact (q_append h _ _).2.2
  · intro h0
    exact absurd rfl h0
theorem writes_range (P : PD) (ns : List (List UInt8)) (s : List UInt8) (k : PF → List PF) : (writesM P ns s k).2 = 0 ∨ (writesM P ns s k).2 = 63 ∨ (writesM P ns s k).2 = 60 ∨ (writesM P ns s k).2 = 61 := by
  unfold writesM
  split
  · split
    · simp
    · split
      · split <;> simp
      · simp
  · simp
theorem put_range (P : PD) (f : PF) (b : List UInt8) : (putM P f b).2 = 0 ∨ (putM P f b).2 = 63 ∨ (putM P f b).2 = 2 ∨ (putM P f b).2 = 62 := by
  unfold putM
  split
  · simp
  · split
    · simp
    · split <;> simp
theorem append_range (P : PD) (s b : List UInt8) : (appendM P s b).2 = 0 ∨ (appendM P s b).2 = 63 ∨ (appendM P s b).2 = 2 ∨ (appendM P s b).2 = 3 ∨ (appendM P s b).2 = 60 ∨ (appendM P s b).2 = 62 := by
  unfold appendM
  split
  · split
    · simp
    · split
      · rename_i f _
        have := put_range P f b
        omega
      · split
        · simp
        · have := put_range P (s, [], 0) b
          omega
  · simp
theorem codeM_range (P : PD) (o : Opr) : codeM P o = 0 ∨ codeM P o = 63 ∨ codeM P o = 2 ∨ codeM P o = 3 ∨ codeM P o = 60 ∨ codeM P o = 61 ∨ codeM P o = 62 := by
  unfold codeM
  split
  · have := writes_range P [o.name] o.name fun f => withG fname (f.1, f.2.1, f.2.1.length) P.L
    unfold syncM
    omega
  split
  · have := writes_range P [o.nto, o.name] o.name fun f => withG fname (o.nto, f.2.1, f.2.2) (withoutG fname o.name P.L)
    unfold renameM
    omega
  split
  · have := writes_range P [o.name] o.name fun _ => withoutG fname o.name P.L
    unfold removeM
    omega
  split
  · have := append_range P o.name o.b
    omega
  · exact .inl rfl
end Go.Proofs.Yticnncgbfpgeaaa

/- loggialaw06: DiskRefuses walked. -/
namespace Go.Proofs.Yticnncgbfpgeaaa
open Go.RowKit Go.Maps

section
variable {w w1 w2 : World} {base bb d dW : Nat} {P P2 PW : PD} {F F5 FW Q G : Nat → Prop} {c : Nat}
/-- New blocks have come; the document's rows keep away from them. -/
theorem BS.widen (h : BS w base bb d P F Q) (hE : Ext w w1) (hG : ∀ k, G k → w.heap.size ≤ k ∧ k < w1.heap.size) : BS w1 base bb d P F (fun k => Q k ∨ G k) := by
  obtain ⟨A, n, c, R, hr, hR, hp⟩ := h.ref
  exact ⟨h.disk.ext hE, h.low, h.own, .inl h.mine, fun k hk => hk.elim (fun e => Nat.lt_of_lt_of_le (h.qlt k e) hE.size) fun e => (hG k e).2, A, n, c, R, hr.ext hE,
    hR.chg (Chg.of_ext hE (fun _ => False)) (fun _ _ h => h.elim) fun k hk hk2 => hk2.elim .inl fun e => e.elim .inr fun e => by have := (hG k e).1; omega, hp⟩
/-- Those blocks have turned. -/
theorem BS.turn (h : BS w base bb d P F (fun k => Q k ∨ G k)) (hc : Chg G w w1) (hG : ∀ k, G k → ¬ F k ∧ k ≠ bb) (hm : Q bb) : BS w1 base bb d P F Q := by
  obtain ⟨A, n, c, R, hr, hR, hp⟩ := h.ref
  exact ⟨h.disk.chg hc fun k hk => (hG k hk).1, h.low, h.own, hm, fun k hk => Nat.lt_of_lt_of_le (h.qlt k (.inl hk)) hc.size, A, n, c, R, hc.row hr fun e => (hG bb e).2 rfl,
    hR.chg hc (fun k _ hk => .inr (.inr hk)) fun k _ hk2 => hk2.elim .inl fun e => .inr (.inl e), hp⟩
/-- The fork has made its call. -/
def WasPost (base bb dW d5 : Nat) (P2 : PD) (F5 : Nat → Prop) (c : Nat) (w w2 : World) : Prop := ∃ PW FW, DS w2 base dW PW FW ∧ (c ≠ 0 → PW.L = P2.L) ∧ BS w2 base bb d5 P2 F5 (fun k => k = bb) ∧ Ext w w2
theorem was_fin (hS : DS w1 base dW P FW) (hn : DNext base dW FW w1 PW w2) (hB : BS w1 base bb d P2 F5 (fun k => k = bb ∨ FW k)) (hG : ∀ k, FW k → ¬ F5 k ∧ k ≠ bb) (hE : Ext w w1) (hb : w.heap.size ≤ base) (hL : c ≠ 0 → PW.L = P2.L) : WasPost base bb dW d P2 F5 c w w2 := by
  obtain ⟨FW2, h1, h2⟩ := hn.ext hS hE hb
  obtain ⟨_, _, h3, _⟩ := hn
  exact ⟨PW, FW2, h1, hL, hB.turn h3 hG rfl, h2⟩
theorem was_not (hS : DS w1 base dW P FW) (hB : BS w1 base bb d P2 F5 (fun k => k = bb ∨ FW k)) (hG : ∀ k, FW k → ¬ F5 k ∧ k ≠ bb) (hE : Ext w w1) : WasPost base bb dW d P2 F5 0 w w1 :=
  ⟨P, FW, hS, fun h => absurd rfl h, hB.turn (Chg.refl _ _) hG rfl, hE⟩
end
set_option maxRecDepth 100000 in
set_option maxHeartbeats 4000000 in
theorem refuses_any (os : List Opr) (OA : Option Addr) (n c q : Nat) (w : World) (h : OS w w.heap.size OA n c os) (hq : q < 256) :
    Calls Try.prog 4 #[.int .u8 q, .slice OA n c] w fun e w' => e = .returned (.bool true) ∧ Ext w w' := by
  have haw : ∀ W : World, Calls Try.prog 9 #[] W fun e w' => e = .returned (.bool true) ∧ Ext W w' := awake_any
  replace haw := hide haw
  have hmost := h.most
  have h1 := new_yes w.heap.size q w (by omega) (Nat.le_refl _)
  replace h1 := hide h1
  go_enter Try.func4, Try.ntmps4
  go_wp2_with fail
  refine h1.out.mono ?_
  rintro e w1 ⟨d, F, rfl, hS1, hF1, hE1⟩
  go_wp2_with fail
  refine (haw.out _).mono ?_
  rintro e w3 ⟨rfl, hE3⟩
  go_wp2_with fail
  have hE03 : Ext w w3 := hE1.trans hE3
  obtain ⟨W, hW⟩ : ∃ W, W = w3.alloc (.cells #[.pointer (some ⟨d, 0, none⟩), .slice none 0 0, .int .i64 q, .int .i64 0, .bool false] 38) := ⟨_, rfl⟩
  rw [← hW]
  have hEW : Ext w3 W := by rw [hW]; exact (Ext.refl w3).alloc _
  have hE0 : Ext w W := hE03.trans hEW
  have hS3 : DS w3 w.heap.size d ⟨[], q, 0, false⟩ F := hS1.ext hE3
  have hB0 : BS W w.heap.size w3.heap.size d ⟨[], q, 0, false⟩ F (fun k => k = w3.heap.size) := ⟨hS3.ext hEW, hE03.size, hS3.not_old (Nat.le_refl _), rfl, fun k hk => by subst hk; rw [hW, size_alloc]; omega, none, 0, 0, [], by rw [hW]; exact Row.new _ _ _, RS.nil _ _, rfl⟩
  have hQ0 : Qok ⟨[], q, 0, false⟩ ∧ (⟨[], q, 0, false⟩ : PD).quota = q := ⟨fun _ => Nat.zero_le _, rfl⟩
  clear hW
  obtain ⟨bb, hbb⟩ : ∃ bb, bb = w3.heap.size := ⟨_, rfl⟩
  rw [← hbb] at hB0 ⊢
  clear hbb
  go_loopw [8] (fun s8 wr => ∃ (i : Nat) (P : PD) (F : Nat → Prop) (d' : Nat), s8 = .int .i64 i ∧ i ≤ n ∧ i ≤ 50 ∧ Hid (BS wr w.heap.size bb d' P F (fun k => k = bb)) ∧ Hid (Qok P ∧ P.quota = q) ∧ Ext w wr) (fun s8 _ => 50 - (intOf s8).toNat)
  case atStart => exact ⟨0, _, F, d, rfl, by omega, by omega, hide hB0, hide hQ0, hE0⟩
  case round =>
    obtain ⟨i, P, F', d', rfl, hi, hi6, hB, hQ, hE⟩ := hrel
    clear hB0 hQ0 hE0 hS3 hS1 hEW
    by_cases hin : i < n
    · by_cases h60 : i < 50
      · obtain ⟨g, s, o, rfl, hom, k0, k1, k2, k3, k4, k5, k6⟩ := (h.ext hE).at_ hin
        have hok := (h.ext hE).ok o hom
        have hsh := short_any w.heap.size o wr hok
        have hokw := (h.ok o hom).short.1
        obtain ⟨hok2, l1, l2, l3, l4⟩ := hok.short
        obtain ⟨o2, ho2⟩ : ∃ o2, o2 = o.short := ⟨_, rfl⟩
        rw [← ho2] at hsh hok2 hokw l1 l2 l3 l4
        clear ho2
        unfold Opr.val str at hsh
        unfold str at k1 k2
        replace hsh := hide hsh
        go_wp2_with fail
        refine hsh.out.mono ?_
        rintro e w4 ⟨rfl, hE4⟩
        obtain ⟨W4, hW4⟩ : ∃ W4, W4 = w4.alloc (.cells #[.int .u8 o2.kd, .string ⟨o2.name.toArray⟩, .string ⟨o2.nto.toArray⟩, .slice o2.BA o2.b.length o2.bc, .int .i64 o2.a, .int .i64 o2.n, .slice o2.KA o2.keep.length o2.kc] 41) := ⟨_, rfl⟩
        have hEW4 : Ext wr W4 := by rw [hW4]; exact hE4.alloc _
        have hbx : Row W4 w4.heap.size 41 #[.int .u8 o2.kd, .string ⟨o2.name.toArray⟩, .string ⟨o2.nto.toArray⟩, .slice o2.BA o2.b.length o2.bc, .int .i64 o2.a, .int .i64 o2.n, .slice o2.KA o2.keep.length o2.kc] := by rw [hW4]; exact Row.new _ _ _
        have hw4s : W4.heap.size = w4.heap.size + 1 := by rw [hW4, size_alloc]
        have hBW := hB.out.ext hEW4
        have hFlt : ∀ k, F' k → k < wr.heap.size := fun k hk => hB.out.disk.lt hk
        have hEc : Ext w W4 := hE.trans hEW4
        have hkd := hok2.kd
        have hwx := hE4.size
        have hbl : bb < wr.heap.size := by obtain ⟨_, _, _, _, hr, _⟩ := hB.out.ref; exact hr.lt
        have y0 : W4.cell? ⟨bb, 0, none⟩ = some (.pointer (some ⟨d', 0, none⟩)) := by obtain ⟨_, _, _, _, hr, _⟩ := hBW.ref; exact hr.cell 0 rfl
        have z0 : W4.cell? ⟨w4.heap.size, 0, none⟩ = some (.int .u8 o2.kd) := hbx.cell 0 rfl
        have hfk := fork_any w.heap.size d' P F' W4 hBW.disk hEc.size
        have hWx := hide hW4.symm
        clear hW4 hB k0 k1 k2 k3 k4 k5 k6
        replace hfk := hide hfk
        replace hw4s := hide hw4s
        by_cases hk10 : o2.kd % 12 = 10
        · have hqk : (o2.kd : Int) % 12 = 10 := by omega
          go_wp2_with fail
          rw [hWx.out]
          go_roundw
          case rel => exact ⟨i + 1, P, F', d', by go_num, by omega, by omega, hide hBW, hQ, hEc⟩
          case measure => simp [intOf]; omega
        · have hq10 : decide ((o2.kd : Int) % 12 = 10) = false := decide_eq_false (by omega)
          have y0r := y0
          rw [← hWx.out] at y0r
          go_wp2_with fail
          rw [hWx.out]
          clear y0r
          refine hfk.out.mono ?_
          rintro e w5 ⟨dW, FW, rfl, hSW, hFW, hE5⟩
          have hB5 : BS w5 w.heap.size bb d' P F' (fun k => k = bb ∨ FW k) := hBW.widen hE5 fun k hk => ⟨hFW k hk, hSW.lt hk⟩
          have hbx5 := hbx.ext hE5
          have hG5 : ∀ k, FW k → ¬ F' k ∧ k ≠ bb := fun k hk => ⟨fun hf => by have := hBW.disk.lt hf; have := hFW k hk; omega, fun e => by have := hFW k hk; have := hEW4.size; omega⟩
          have hok5 := (hok2.ext hEW4).ext hE5
          have hE05 := hEc.trans hE5
          have y1 : w5.cell? ⟨bb, 0, none⟩ = some (.pointer (some ⟨d', 0, none⟩)) := hE5.cell y0
          have hst := stopped_any w.heap.size d' P F' w5 hB5.disk
          have hstep := step_any w.heap.size bb d' P F' _ o2 w5 hB5 hok5 (by omega) (by omega)
          obtain ⟨st, hst0⟩ : ∃ st, st = P.stopped := ⟨_, rfl⟩
          rw [← hst0] at hst
          obtain ⟨P2, hP2⟩ : ∃ P2, P2 = stepM P o2 := ⟨_, rfl⟩
          rw [← hP2] at hstep
          have hQ2 := hQ.out.1.step o2 hk10
          have hQc := hQ.out.1.code o2
          rw [← hP2] at hQ2 hQc
          rw [← hst0] at hQc
          have hQ3 : P2.quota = q := by rw [hQ2.2]; exact hQ.out.2
          have hU : 0 < q → usedP P2.L ≤ q := by
            intro h0
            have := hQ2.1 (by omega)
            omega
          unfold Opr.val str at hstep
          replace hstep := hide hstep
          replace hst := hide hst
          replace hst0 := hide hst0
          replace hP2 := hide hP2
          replace hQ2 := hide hQ2
          replace hQc := hide hQc
          replace hU := hide hU
          clear hfk
          have x0 := hbx5.cell 0 rfl
          have x1 := hbx5.cell 1 rfl
          have x2 := hbx5.cell 2 rfl
          have x3 := hbx5.cell 3 rfl
          have x4 := hbx5.cell 4 rfl
          have x5 := hbx5.cell 5 rfl
          have x6 := hbx5.cell 6 rfl
          go_wp2_with fail
          refine hst.out.mono ?_
          rintro e w6 ⟨rfl, rfl⟩
          go_upto_region 12 with (fail)
          go_cut [85] from 35 to 144 (fun s85 wy => s85 = .bool false ∧ ∃ d5 F5, Hid (BS wy w.heap.size bb d5 P2 F5 (fun k => k = bb ∨ FW k)) ∧ Hid (DS wy w.heap.size dW P FW) ∧ Hid (∀ k, FW k → ¬ F5 k ∧ k ≠ bb) ∧ Hid (Row wy w4.heap.size 41 #[.int .u8 o2.kd, .string ⟨o2.name.toArray⟩, .string ⟨o2.nto.toArray⟩, .slice o2.BA o2.b.length o2.bc, .int .i64 o2.a, .int .i64 o2.n, .slice o2.KA o2.keep.length o2.kc]) ∧ Ext w wy)
          case first =>
            go_wp2_with fail
            refine hstep.out.mono ?_
            rintro e w7 ⟨rfl, hSP⟩
            have hE7 := hSP.to_ext hB5 hE05 rfl
            obtain ⟨d5, F5, hB7, hc7, hF7⟩ := hSP
            have hG7 : ∀ k, FW k → ¬ F5 k ∧ k ≠ bb := fun k hk => ⟨fun hf => (hF7 k hf).elim (hG5 k hk).1 fun e => by have := hSW.lt hk; omega, (hG5 k hk).2⟩
            have hSW7 := hSW.chg hc7 fun k hk hf => hk.elim (hG5 k hf).1 (hG5 k hf).2
            have hbx7 := hc7.row hbx5 fun hk => by
              rcases hk with hk | hk
              · have := hFlt _ hk
                omega
              · omega
            have y7 : w7.cell? ⟨bb, 0, none⟩ = some (.pointer (some ⟨d5, 0, none⟩)) := by obtain ⟨_, _, _, _, hr, _⟩ := hB7.ref; exact hr.cell 0 rfl
            replace hc7 := hide hc7
            by_cases hq0 : q = 0
            · subst hq0
              go_wp2_with fail
              go_meet
              case rel => exact ⟨rfl, d5, F5, hide hB7, hide hSW7, hide hG7, hide hbx7, hE7⟩
            · have hus := used2_any hB7.disk
              have hU2 := hU.out (by omega)
              replace hus := hide hus
              go_wp2_with fail
              refine hus.out.mono ?_
              rintro e w8 ⟨rfl, hE8⟩
              go_wp2_with fail
              go_meet
              case rel => exact ⟨by rw [decide_eq_false (Nat.not_lt.2 hU2)], d5, F5, hide (hB7.ext hE8), hide (hSW7.ext hE8), hide hG7, hide (hbx7.ext hE8), hE7.trans hE8⟩
          case rest =>
            obtain ⟨hs85, d5, F5, hB7, hSW7, hG7, hbx7, hE7⟩ := hcut
            subst hs85
            obtain ⟨wy, rfl⟩ : ∃ wy, wy = wc := ⟨_, rfl⟩
            clear x0 x1 x2 x3 x4 x5 x6 y0 y1 z0 hbx hbx5 hB5 hSW hG5 hst hstep hWx hBW
            have hoky : OOk wy w.heap.size o2 := hokw.ext hE7
            have x0 := hbx7.out.cell 0 rfl
            have x1 := hbx7.out.cell 1 rfl
            have x2 := hbx7.out.cell 2 rfl
            have x3 := hbx7.out.cell 3 rfl
            have y7 : wy.cell? ⟨bb, 0, none⟩ = some (.pointer (some ⟨d5, 0, none⟩)) := by obtain ⟨_, _, _, _, hr, _⟩ := hB7.out.ref; exact hr.cell 0 rfl
            go_upto_block 2 with fail
            obtain ⟨cd, hcd⟩ : ∃ cd, cd = codeM P o2 := ⟨_, rfl⟩
            replace hcd := hide hcd
            go_cut [12] from 35 to 144 (fun s12 wz => s12 = .int .i64 cd ∧ Hid (WasPost w.heap.size bb dW d5 P2 F5 cd w wz))
            case first =>
              have hcs : o2.kd % 12 = 4 ∨ o2.kd % 12 = 5 ∨ o2.kd % 12 = 6 ∨ o2.kd % 12 = 0 ∨ o2.kd % 12 = 1 ∨ o2.kd % 12 = 2 ∨ o2.kd % 12 = 3 ∨ o2.kd % 12 = 7 ∨ o2.kd % 12 = 8 ∨ o2.kd % 12 = 9 ∨ o2.kd % 12 = 11 := by omega
              rcases hcs with hk | hk | hk | hk | hk | hk | hk | hk | hk | hk | hk
              · have hqk : (o2.kd : Int) % 12 = 4 := by omega
                have e4 : ((o2.kd : Int) % 12 == 4) = true := by rw [hqk]; rfl
                have hd := sync_any w.heap.size dW P FW o2.name wy hSW7.out hoky.name
                have hc1 : codeM P o2 = (syncM P o2.name).2 := by unfold codeM; rw [if_pos (by omega)]
                have hc2 : stepM P o2 = (syncM P o2.name).1 := by unfold stepM; rw [if_pos (by omega)]
                rw [← hc1, ← hcd.out, ← hc2, ← hP2.out] at hd
                clear hc1 hc2
                unfold str at hd
                replace hd := hide hd
                go_wp2_with fail
                refine hd.out.mono ?_
                rintro e w8 ⟨rfl, hn8⟩
                go_wp2_with fail
                go_meet
                case rel => exact ⟨rfl, hide (was_fin hSW7.out hn8 hB7.out hG7.out hE7 (Nat.le_refl _) fun _ => rfl)⟩
              · have hqk : (o2.kd : Int) % 12 = 5 := by omega
                have e4 : ((o2.kd : Int) % 12 == 4) = false := by rw [hqk]; rfl
                have e5 : ((o2.kd : Int) % 12 == 5) = true := by rw [hqk]; rfl
                have hd := rename_any w.heap.size dW P FW o2.name o2.nto wy hSW7.out hoky.name hoky.nto
                have hc1 : codeM P o2 = (renameM P o2.name o2.nto).2 := by unfold codeM; rw [if_neg (by omega), if_pos (by omega)]
                have hc2 : stepM P o2 = (renameM P o2.name o2.nto).1 := by unfold stepM; rw [if_neg (by omega), if_pos (by omega)]
                rw [← hc1, ← hcd.out, ← hc2, ← hP2.out] at hd
                clear hc1 hc2
                unfold str at hd
                replace hd := hide hd
                go_wp2_with fail
                refine hd.out.mono ?_
                rintro e w8 ⟨rfl, hn8⟩
                go_wp2_with fail
                go_meet
                case rel => exact ⟨rfl, hide (was_fin hSW7.out hn8 hB7.out hG7.out hE7 (Nat.le_refl _) fun _ => rfl)⟩
              · have hqk : (o2.kd : Int) % 12 = 6 := by omega
                have e4 : ((o2.kd : Int) % 12 == 4) = false := by rw [hqk]; rfl
                have e5 : ((o2.kd : Int) % 12 == 5) = false := by rw [hqk]; rfl
                have e6 : ((o2.kd : Int) % 12 == 6) = true := by rw [hqk]; rfl
                have hd := remove_any w.heap.size dW P FW o2.name wy hSW7.out hoky.name
                have hc1 : codeM P o2 = (removeM P o2.name).2 := by unfold codeM; rw [if_neg (by omega), if_neg (by omega), if_pos (by omega)]
                have hc2 : stepM P o2 = (removeM P o2.name).1 := by unfold stepM; rw [if_neg (by omega), if_neg (by omega), if_pos (by omega)]
                rw [← hc1, ← hcd.out, ← hc2, ← hP2.out] at hd
                clear hc1 hc2
                unfold str at hd
                replace hd := hide hd
                go_wp2_with fail
                refine hd.out.mono ?_
                rintro e w8 ⟨rfl, hn8⟩
                go_wp2_with fail
                go_meet
                case rel => exact ⟨rfl, hide (was_fin hSW7.out hn8 hB7.out hG7.out hE7 (Nat.le_refl _) fun _ => rfl)⟩
              · have hqk : (o2.kd : Int) % 12 = 0 := by omega
                have e4 : ((o2.kd : Int) % 12 == 4) = false := by rw [hqk]; rfl
                have e5 : ((o2.kd : Int) % 12 == 5) = false := by rw [hqk]; rfl
                have e6 : ((o2.kd : Int) % 12 == 6) = false := by rw [hqk]; rfl
                have e0 : ((o2.kd : Int) % 12 == 0) = true := by rw [hqk]; rfl
                have hd := append_any0 w.heap.size dW P FW o2.name o2.b o2.BA o2.b.length o2.bc wy hSW7.out hoky.name hoky.bytes (fun hne a ha hf => by have := (hoky.ba hne a ha).1; have := hSW7.out.base_le hf; omega) rfl (by omega) hE7.size
                have hc1 : codeM P o2 = (appendM P o2.name o2.b).2 := by unfold codeM; rw [if_neg (by omega), if_neg (by omega), if_neg (by omega), if_pos (by omega)]
                have hc2 : stepM P o2 = (appendM P o2.name o2.b).1 := by unfold stepM; rw [if_neg (by omega), if_neg (by omega), if_neg (by omega), if_neg (by omega), if_neg (by omega), if_neg (by omega), if_neg (by omega), if_neg (by omega)]
                rw [← hc1, ← hcd.out, ← hc2, ← hP2.out] at hd
                clear hc1 hc2
                unfold str at hd
                replace hd := hide hd
                go_wp2_with fail
                refine hd.out.mono ?_
                rintro e w8 ⟨rfl, hn8⟩
                go_wp2_with fail
                go_meet
                case rel => exact ⟨rfl, hide (was_fin hSW7.out hn8 hB7.out hG7.out hE7 (Nat.le_refl _) fun _ => rfl)⟩
              · have hqk : (o2.kd : Int) % 12 = 1 := by omega
                have e4 : ((o2.kd : Int) % 12 == 4) = false := by rw [hqk]; rfl
                have e5 : ((o2.kd : Int) % 12 == 5) = false := by rw [hqk]; rfl
                have e6 : ((o2.kd : Int) % 12 == 6) = false := by rw [hqk]; rfl
                have e0 : ((o2.kd : Int) % 12 == 0) = false := by rw [hqk]; rfl
                have e1 : ((o2.kd : Int) % 12 == 1) = true := by rw [hqk]; rfl
                have hd := append_any0 w.heap.size dW P FW o2.name o2.b o2.BA o2.b.length o2.bc wy hSW7.out hoky.name hoky.bytes (fun hne a ha hf => by have := (hoky.ba hne a ha).1; have := hSW7.out.base_le hf; omega) rfl (by omega) hE7.size
                have hc1 : codeM P o2 = (appendM P o2.name o2.b).2 := by unfold codeM; rw [if_neg (by omega), if_neg (by omega), if_neg (by omega), if_pos (by omega)]
                have hc2 : stepM P o2 = (appendM P o2.name o2.b).1 := by unfold stepM; rw [if_neg (by omega), if_neg (by omega), if_neg (by omega), if_neg (by omega), if_neg (by omega), if_neg (by omega), if_neg (by omega), if_neg (by omega)]
                rw [← hc1, ← hcd.out, ← hc2, ← hP2.out] at hd
                clear hc1 hc2
                unfold str at hd
                replace hd := hide hd
                go_wp2_with fail
                refine hd.out.mono ?_
                rintro e w8 ⟨rfl, hn8⟩
                go_wp2_with fail
                go_meet
                case rel => exact ⟨rfl, hide (was_fin hSW7.out hn8 hB7.out hG7.out hE7 (Nat.le_refl _) fun _ => rfl)⟩
              · have hqk : (o2.kd : Int) % 12 = 2 := by omega
                have e4 : ((o2.kd : Int) % 12 == 4) = false := by rw [hqk]; rfl
                have e5 : ((o2.kd : Int) % 12 == 5) = false := by rw [hqk]; rfl
                have e6 : ((o2.kd : Int) % 12 == 6) = false := by rw [hqk]; rfl
                have e0 : ((o2.kd : Int) % 12 == 0) = false := by rw [hqk]; rfl
                have e1 : ((o2.kd : Int) % 12 == 1) = false := by rw [hqk]; rfl
                have e2 : ((o2.kd : Int) % 12 == 2) = true := by rw [hqk]; rfl
                have hd := append_any0 w.heap.size dW P FW o2.name o2.b o2.BA o2.b.length o2.bc wy hSW7.out hoky.name hoky.bytes (fun hne a ha hf => by have := (hoky.ba hne a ha).1; have := hSW7.out.base_le hf; omega) rfl (by omega) hE7.size
                have hc1 : codeM P o2 = (appendM P o2.name o2.b).2 := by unfold codeM; rw [if_neg (by omega), if_neg (by omega), if_neg (by omega), if_pos (by omega)]
                have hc2 : stepM P o2 = (appendM P o2.name o2.b).1 := by unfold stepM; rw [if_neg (by omega), if_neg (by omega), if_neg (by omega), if_neg (by omega), if_neg (by omega), if_neg (by omega), if_neg (by omega), if_neg (by omega)]
                rw [← hc1, ← hcd.out, ← hc2, ← hP2.out] at hd
                clear hc1 hc2
                unfold str at hd
                replace hd := hide hd
                go_wp2_with fail
                refine hd.out.mono ?_
                rintro e w8 ⟨rfl, hn8⟩
                go_wp2_with fail
                go_meet
                case rel => exact ⟨rfl, hide (was_fin hSW7.out hn8 hB7.out hG7.out hE7 (Nat.le_refl _) fun _ => rfl)⟩
              · have hqk : (o2.kd : Int) % 12 = 3 := by omega
                have e4 : ((o2.kd : Int) % 12 == 4) = false := by rw [hqk]; rfl
                have e5 : ((o2.kd : Int) % 12 == 5) = false := by rw [hqk]; rfl
                have e6 : ((o2.kd : Int) % 12 == 6) = false := by rw [hqk]; rfl
                have e0 : ((o2.kd : Int) % 12 == 0) = false := by rw [hqk]; rfl
                have e1 : ((o2.kd : Int) % 12 == 1) = false := by rw [hqk]; rfl
                have e2 : ((o2.kd : Int) % 12 == 2) = false := by rw [hqk]; rfl
                have e3 : ((o2.kd : Int) % 12 == 3) = true := by rw [hqk]; rfl
                have hd := append_any0 w.heap.size dW P FW o2.name o2.b o2.BA o2.b.length o2.bc wy hSW7.out hoky.name hoky.bytes (fun hne a ha hf => by have := (hoky.ba hne a ha).1; have := hSW7.out.base_le hf; omega) rfl (by omega) hE7.size
                have hc1 : codeM P o2 = (appendM P o2.name o2.b).2 := by unfold codeM; rw [if_neg (by omega), if_neg (by omega), if_neg (by omega), if_pos (by omega)]
                have hc2 : stepM P o2 = (appendM P o2.name o2.b).1 := by unfold stepM; rw [if_neg (by omega), if_neg (by omega), if_neg (by omega), if_neg (by omega), if_neg (by omega), if_neg (by omega), if_neg (by omega), if_neg (by omega)]
                rw [← hc1, ← hcd.out, ← hc2, ← hP2.out] at hd
                clear hc1 hc2
                unfold str at hd
                replace hd := hide hd
                go_wp2_with fail
                refine hd.out.mono ?_
                rintro e w8 ⟨rfl, hn8⟩
                go_wp2_with fail
                go_meet
                case rel => exact ⟨rfl, hide (was_fin hSW7.out hn8 hB7.out hG7.out hE7 (Nat.le_refl _) fun _ => rfl)⟩
              · have hqk : (o2.kd : Int) % 12 = 7 := by omega
                have e4 : ((o2.kd : Int) % 12 == 4) = false := by rw [hqk]; rfl
                have e5 : ((o2.kd : Int) % 12 == 5) = false := by rw [hqk]; rfl
                have e6 : ((o2.kd : Int) % 12 == 6) = false := by rw [hqk]; rfl
                have e0 : ((o2.kd : Int) % 12 == 0) = false := by rw [hqk]; rfl
                have e1 : ((o2.kd : Int) % 12 == 1) = false := by rw [hqk]; rfl
                have e2 : ((o2.kd : Int) % 12 == 2) = false := by rw [hqk]; rfl
                have e3 : ((o2.kd : Int) % 12 == 3) = false := by rw [hqk]; rfl
                have hc1 : codeM P o2 = 0 := by unfold codeM; rw [if_neg (by omega), if_neg (by omega), if_neg (by omega), if_neg (by omega)]
                rw [← hcd.out] at hc1
                subst hc1
                go_wp2_with fail
                go_meet
                case rel => exact ⟨rfl, hide (was_not hSW7.out hB7.out hG7.out hE7)⟩
              · have hqk : (o2.kd : Int) % 12 = 8 := by omega
                have e4 : ((o2.kd : Int) % 12 == 4) = false := by rw [hqk]; rfl
                have e5 : ((o2.kd : Int) % 12 == 5) = false := by rw [hqk]; rfl
                have e6 : ((o2.kd : Int) % 12 == 6) = false := by rw [hqk]; rfl
                have e0 : ((o2.kd : Int) % 12 == 0) = false := by rw [hqk]; rfl
                have e1 : ((o2.kd : Int) % 12 == 1) = false := by rw [hqk]; rfl
                have e2 : ((o2.kd : Int) % 12 == 2) = false := by rw [hqk]; rfl
                have e3 : ((o2.kd : Int) % 12 == 3) = false := by rw [hqk]; rfl
                have hc1 : codeM P o2 = 0 := by unfold codeM; rw [if_neg (by omega), if_neg (by omega), if_neg (by omega), if_neg (by omega)]
                rw [← hcd.out] at hc1
                subst hc1
                go_wp2_with fail
                go_meet
                case rel => exact ⟨rfl, hide (was_not hSW7.out hB7.out hG7.out hE7)⟩
              · have hqk : (o2.kd : Int) % 12 = 9 := by omega
                have e4 : ((o2.kd : Int) % 12 == 4) = false := by rw [hqk]; rfl
                have e5 : ((o2.kd : Int) % 12 == 5) = false := by rw [hqk]; rfl
                have e6 : ((o2.kd : Int) % 12 == 6) = false := by rw [hqk]; rfl
                have e0 : ((o2.kd : Int) % 12 == 0) = false := by rw [hqk]; rfl
                have e1 : ((o2.kd : Int) % 12 == 1) = false := by rw [hqk]; rfl
                have e2 : ((o2.kd : Int) % 12 == 2) = false := by rw [hqk]; rfl
                have e3 : ((o2.kd : Int) % 12 == 3) = false := by rw [hqk]; rfl
                have hc1 : codeM P o2 = 0 := by unfold codeM; rw [if_neg (by omega), if_neg (by omega), if_neg (by omega), if_neg (by omega)]
                rw [← hcd.out] at hc1
                subst hc1
                go_wp2_with fail
                go_meet
                case rel => exact ⟨rfl, hide (was_not hSW7.out hB7.out hG7.out hE7)⟩
              · have hqk : (o2.kd : Int) % 12 = 11 := by omega
                have e4 : ((o2.kd : Int) % 12 == 4) = false := by rw [hqk]; rfl
                have e5 : ((o2.kd : Int) % 12 == 5) = false := by rw [hqk]; rfl
                have e6 : ((o2.kd : Int) % 12 == 6) = false := by rw [hqk]; rfl
                have e0 : ((o2.kd : Int) % 12 == 0) = false := by rw [hqk]; rfl
                have e1 : ((o2.kd : Int) % 12 == 1) = false := by rw [hqk]; rfl
                have e2 : ((o2.kd : Int) % 12 == 2) = false := by rw [hqk]; rfl
                have e3 : ((o2.kd : Int) % 12 == 3) = false := by rw [hqk]; rfl
                have hc1 : codeM P o2 = 0 := by unfold codeM; rw [if_neg (by omega), if_neg (by omega), if_neg (by omega), if_neg (by omega)]
                rw [← hcd.out] at hc1
                subst hc1
                go_wp2_with fail
                go_meet
                case rel => exact ⟨rfl, hide (was_not hSW7.out hB7.out hG7.out hE7)⟩
            case rest =>
              obtain ⟨hs12, hWP⟩ := hcut
              obtain ⟨cz, hcz⟩ : ∃ cz : Int, cz = (cd : Int) := ⟨_, rfl⟩
              rw [← hcz] at hs12
              subst hs12
              have hcr := codeM_range P o2
              rw [← hcd.out] at hcr
              replace hcr := hide hcr
              replace hcz := hide hcz
              obtain ⟨wz, rfl⟩ : ∃ wz, wz = wc := ⟨_, rfl⟩
              obtain ⟨PW, FW2, hSz, hLz, hBz, hEz⟩ := hWP.out
              clear x0 x1 x2 x3 y7 hSW7 hB7 hbx7 hG7 hoky
              have y8 : wz.cell? ⟨bb, 0, none⟩ = some (.pointer (some ⟨d5, 0, none⟩)) := by obtain ⟨_, _, _, _, hr, _⟩ := hBz.ref; exact hr.cell 0 rfl
              go_upto_region 27 with (fail)
              go_cut [144] from 35 to 144 (fun s144 wv => s144 = .bool false ∧ Ext wz wv)
              case first =>
                have hS0 : wz.drew.cell? ⟨bb, 0, none⟩ = some (.pointer (some ⟨d5, 0, none⟩)) ∧ Ext wz wz.drew := ⟨y8, (Ext.refl wz).drew⟩
                have hS1 : wz.cell? ⟨bb, 0, none⟩ = some (.pointer (some ⟨d5, 0, none⟩)) ∧ Ext wz wz := ⟨y8, Ext.refl wz⟩
                have hkp : ∀ w0 w1 : World, (w0.cell? ⟨bb, 0, none⟩ = some (.pointer (some ⟨d5, 0, none⟩)) ∧ Ext wz w0) → Ext w0 w1 → (w1.cell? ⟨bb, 0, none⟩ = some (.pointer (some ⟨d5, 0, none⟩)) ∧ Ext wz w1) := fun w0 w1 h1 h3 => ⟨h3.cell h1.1, h1.2.trans h3⟩
                have hus : cd ≠ 0 → ∀ (w0 : World) (dd : Nat), (w0.cell? ⟨bb, 0, none⟩ = some (.pointer (some ⟨d5, 0, none⟩)) ∧ Ext wz w0) → (dd = dW ∨ dd = d5) → Calls Try.prog 16 #[.pointer (some ⟨dd, 0, none⟩)] w0 fun e w' => e = .returned (.int .i64 (usedP P2.L)) ∧ Ext w0 w' := fun hc w0 dd h0 hdd => by
                  rcases hdd with rfl | rfl
                  · have := used2_any (hSz.ext h0.2)
                    rw [hLz hc] at this
                    exact this
                  · exact used2_any (hBz.disk.ext h0.2)
                have hstD : cd ≠ 0 → cd ≠ 63 → ∀ w0 : World, (w0.cell? ⟨bb, 0, none⟩ = some (.pointer (some ⟨d5, 0, none⟩)) ∧ Ext wz w0) → Calls Try.prog 14 #[.pointer (some ⟨d5, 0, none⟩)] w0 fun e w' => e = .returned (.bool st) ∧ w' = w0 := fun hc hc3 w0 h0 => by
                  have := stopped_any w.heap.size d5 P2 F5 w0 (hBz.disk.ext h0.2)
                  rw [hQc.out (by rw [← hcd.out]; exact hc) (by rw [← hcd.out]; exact hc3)] at this
                  exact this
                obtain ⟨U, hUe⟩ : ∃ U : Nat, U = usedP P2.L := ⟨_, rfl⟩
                rw [← hUe] at hus
                replace hUe := hide hUe
                replace hS0 := hide hS0
                replace hS1 := hide hS1
                replace hkp := hide hkp
                rcases hcr.out with hc | hc | hc | hc | hc | hc | hc
                · skip
                  obtain rfl : cz = 0 := by rw [hcz.out, hc]; rfl
                  clear hus hstD
                  go_quiet (fail)
                  go_wp2_with fail
                  go_meet
                  case rel => exact ⟨rfl, by first | exact (Ext.refl wz).drew | exact (Ext.refl wz).drewN _ | exact Ext.refl wz⟩
                · skip
                  obtain rfl : cz = 63 := by rw [hcz.out, hc]; rfl
                  replace hus := hide (hus (by omega))
                  clear hstD
                  refine wp_region_held_drew (S := (fun w' => w'.cell? ⟨bb, 0, none⟩ = some (.pointer (some ⟨d5, 0, none⟩)) ∧ Ext wz w')) (by kernel_rfl) hS0.out (fun hHeld => ?_)
                  refine wpAnyH_take (i := 0) (v := .int .i64 63) rfl (by kernel_rfl) (by kernel_rfl) (by kernel_rfl) (fun _ _ _ h => h) (Or.inl ⟨by rfl, ?_⟩) (by assumption) ?_
                  · intro w' hSw
                    (try dsimp only at hSw)
                    go_simp
                    try with_reducible rfl
                  (try simp only [Act.put, List.setIfInBounds_toArray, List.set_cons_zero, List.set_cons_succ, List.getElem_toArray, List.getElem_cons_zero, List.getElem_cons_succ])
                  refine wpAnyH_take (i := 1) (v := .bool true) rfl (by kernel_rfl) (by kernel_rfl) (by kernel_rfl) (fun _ _ _ h => h) (Or.inl ⟨by rfl, ?_⟩) (by assumption) ?_
                  · intro w' hSw
                    (try dsimp only at hSw)
                    go_simp
                    try with_reducible rfl
                  (try simp only [Act.put, List.setIfInBounds_toArray, List.set_cons_zero, List.set_cons_succ, List.getElem_toArray, List.getElem_cons_zero, List.getElem_cons_succ])
                  refine wpAnyH_take (i := 2) (v := .bool true) rfl (by kernel_rfl) (by kernel_rfl) (by kernel_rfl) (fun _ _ _ h => h) (Or.inl ⟨by rfl, ?_⟩) (by assumption) ?_
                  · intro w' hSw
                    (try dsimp only at hSw)
                    go_simp
                    try with_reducible rfl
                  (try simp only [Act.put, List.setIfInBounds_toArray, List.set_cons_zero, List.set_cons_succ, List.getElem_toArray, List.getElem_cons_zero, List.getElem_cons_succ])
                  refine wpAnyH_take (i := 3) (v := .pointer (some ⟨dW, 0, none⟩)) rfl (by kernel_rfl) (by kernel_rfl) (by kernel_rfl) (fun _ _ _ h => h) (Or.inl ⟨by rfl, ?_⟩) (by assumption) ?_
                  · intro w' hSw
                    (try dsimp only at hSw)
                    go_simp
                    try with_reducible rfl
                  (try simp only [Act.put, List.setIfInBounds_toArray, List.set_cons_zero, List.set_cons_succ, List.getElem_toArray, List.getElem_cons_zero, List.getElem_cons_succ])
                  refine wpAnyH_take (i := 5) (v := .pointer (some ⟨bb, 0, none⟩)) rfl (by kernel_rfl) (by kernel_rfl) (by kernel_rfl) (fun _ _ _ h => h) (Or.inl ⟨by rfl, ?_⟩) (by assumption) ?_
                  · intro w' hSw
                    (try dsimp only at hSw)
                    go_simp
                    try with_reducible rfl
                  (try simp only [Act.put, List.setIfInBounds_toArray, List.set_cons_zero, List.set_cons_succ, List.getElem_toArray, List.getElem_cons_zero, List.getElem_cons_succ])
                  refine wpAnyH_take (i := 6) (v := .pointer (some ⟨bb, 0, none⟩)) rfl (by kernel_rfl) (by kernel_rfl) (by kernel_rfl) (fun _ _ _ h => h) (Or.inl ⟨by rfl, ?_⟩) (by assumption) ?_
                  · intro w' hSw
                    (try dsimp only at hSw)
                    go_simp
                    try with_reducible rfl
                  (try simp only [Act.put, List.setIfInBounds_toArray, List.set_cons_zero, List.set_cons_succ, List.getElem_toArray, List.getElem_cons_zero, List.getElem_cons_succ])
                  refine wpAnyH_take (i := 7) (v := .pointer (some ⟨bb, 0, none⟩)) rfl (by kernel_rfl) (by kernel_rfl) (by kernel_rfl) (fun _ _ _ h => h) (Or.inl ⟨by rfl, ?_⟩) (by assumption) ?_
                  · intro w' hSw
                    (try dsimp only at hSw)
                    go_simp
                    try with_reducible rfl
                  (try simp only [Act.put, List.setIfInBounds_toArray, List.set_cons_zero, List.set_cons_succ, List.getElem_toArray, List.getElem_cons_zero, List.getElem_cons_succ])
                  refine wpAnyH_take (i := 8) (v := .pointer (some ⟨d5, 0, none⟩)) rfl (by kernel_rfl) (by kernel_rfl) (by kernel_rfl) (fun _ _ _ h => h) (Or.inl ⟨by rfl, ?_⟩) (by assumption) ?_
                  · intro w' hSw
                    (try dsimp only at hSw)
                    go_simp
                    try with_reducible rfl
                  (try simp only [Act.put, List.setIfInBounds_toArray, List.set_cons_zero, List.set_cons_succ, List.getElem_toArray, List.getElem_cons_zero, List.getElem_cons_succ])
                  refine wpAnyH_ready (rs := [4]) (by kernel_rfl) (by simp) ?_
                  refine AllReadyH.cons rfl (fun K hK => ?_) ?_
                  · (first | go_at_call 16 | (go_simp; go_at_call 16)); (refine (hus.out _ _ ‹_› (by first | exact .inl rfl | exact .inr rfl)).mono ?_; rintro e v1 ⟨rfl, hEv1⟩)
                    refine hK.out _ _ ?_ (fun hHeld2 => ?_)
                    · exact hkp.out _ _ ‹_› hEv1
                    clear hK K
                    (try simp only [Act.put, List.setIfInBounds_toArray, List.set_cons_zero, List.set_cons_succ, List.getElem_toArray, List.getElem_cons_zero, List.getElem_cons_succ])
                    refine wpAnyH_ready (rs := [9]) (by kernel_rfl) (by simp) ?_
                    refine AllReadyH.cons rfl (fun K hK => ?_) AllReadyH.nil
                    (first | go_at_call 16 | (go_simp; go_at_call 16)); (refine (hus.out _ _ ‹_› (by first | exact .inl rfl | exact .inr rfl)).mono ?_; rintro e v2 ⟨rfl, hEv2⟩)
                    refine hK.out _ _ ?_ (fun hHeld3 => ?_)
                    · exact hkp.out _ _ ‹_› hEv2
                    clear hK K
                    (try simp only [Act.put, List.setIfInBounds_toArray, List.set_cons_zero, List.set_cons_succ, List.getElem_toArray, List.getElem_cons_zero, List.getElem_cons_succ])
                    refine wpAnyH_take (i := 10) (v := .bool false) rfl (by kernel_rfl) (by kernel_rfl) (by kernel_rfl) (fun _ _ _ h => h) (Or.inl ⟨by rfl, ?_⟩) (by assumption) ?_
                    · intro w' hSw
                      (try dsimp only at hSw)
                      go_simp
                      try with_reducible rfl
                    (try simp only [Act.put, List.setIfInBounds_toArray, List.set_cons_zero, List.set_cons_succ, List.getElem_toArray, List.getElem_cons_zero, List.getElem_cons_succ])
                    refine wpAnyH_take (i := 11) (v := .bool false) rfl (by kernel_rfl) (by kernel_rfl) (by kernel_rfl) (fun _ _ _ h => h) (Or.inl ⟨by rfl, ?_⟩) (by assumption) ?_
                    · intro w' hSw
                      (try dsimp only at hSw)
                      go_simp
                      try with_reducible rfl
                    (try simp only [Act.put, List.setIfInBounds_toArray, List.set_cons_zero, List.set_cons_succ, List.getElem_toArray, List.getElem_cons_zero, List.getElem_cons_succ])
                    refine wpAnyH_take (i := 12) (v := .int .i64 63) rfl (by kernel_rfl) (by kernel_rfl) (by kernel_rfl) (fun _ _ _ h => h) (Or.inl ⟨by rfl, ?_⟩) (by assumption) ?_
                    · intro w' hSw
                      (try dsimp only at hSw)
                      go_simp
                      try with_reducible rfl
                    (try simp only [Act.put, List.setIfInBounds_toArray, List.set_cons_zero, List.set_cons_succ, List.getElem_toArray, List.getElem_cons_zero, List.getElem_cons_succ])
                    refine wpAnyH_take (i := 13) (v := .bool false) rfl (by kernel_rfl) (by kernel_rfl) (by kernel_rfl) (fun _ _ _ h => h) (Or.inl ⟨by rfl, ?_⟩) (by assumption) ?_
                    · intro w' hSw
                      (try dsimp only at hSw)
                      go_simp
                      try with_reducible rfl
                    (try simp only [Act.put, List.setIfInBounds_toArray, List.set_cons_zero, List.set_cons_succ, List.getElem_toArray, List.getElem_cons_zero, List.getElem_cons_succ])
                    refine wpAnyH_take (i := 14) (v := .bool false) rfl (by kernel_rfl) (by kernel_rfl) (by kernel_rfl) (fun _ _ _ h => h) (Or.inl ⟨by rfl, ?_⟩) (by assumption) ?_
                    · intro w' hSw
                      (try dsimp only at hSw)
                      go_simp
                      try with_reducible rfl
                    (try simp only [Act.put, List.setIfInBounds_toArray, List.set_cons_zero, List.set_cons_succ, List.getElem_toArray, List.getElem_cons_zero, List.getElem_cons_succ])
                    refine wpAnyH_take (i := 15) (v := undef) rfl (by kernel_rfl) (by kernel_rfl) (by kernel_rfl) (fun _ _ _ h => h) (Or.inr ⟨by rfl, rfl⟩) (by assumption) ?_
                    (try simp only [Act.put, List.setIfInBounds_toArray, List.set_cons_zero, List.set_cons_succ, List.getElem_toArray, List.getElem_cons_zero, List.getElem_cons_succ])
                    refine wpAnyH_take (i := 16) (v := undef) rfl (by kernel_rfl) (by kernel_rfl) (by kernel_rfl) (fun _ _ _ h => h) (Or.inr ⟨by rfl, rfl⟩) (by assumption) ?_
                    (try simp only [Act.put, List.setIfInBounds_toArray, List.set_cons_zero, List.set_cons_succ, List.getElem_toArray, List.getElem_cons_zero, List.getElem_cons_succ])
                    refine wpAnyH_take (i := 17) (v := undef) rfl (by kernel_rfl) (by kernel_rfl) (by kernel_rfl) (fun _ _ _ h => h) (Or.inr ⟨by rfl, rfl⟩) (by assumption) ?_
                    (try simp only [Act.put, List.setIfInBounds_toArray, List.set_cons_zero, List.set_cons_succ, List.getElem_toArray, List.getElem_cons_zero, List.getElem_cons_succ])
                    refine wpAnyH_take (i := 18) (v := undef) rfl (by kernel_rfl) (by kernel_rfl) (by kernel_rfl) (fun _ _ _ h => h) (Or.inr ⟨by rfl, rfl⟩) (by assumption) ?_
                    (try simp only [Act.put, List.setIfInBounds_toArray, List.set_cons_zero, List.set_cons_succ, List.getElem_toArray, List.getElem_cons_zero, List.getElem_cons_succ])
                    refine wpAnyH_take (i := 19) (v := undef) rfl (by kernel_rfl) (by kernel_rfl) (by kernel_rfl) (fun _ _ _ h => h) (Or.inr ⟨by rfl, rfl⟩) (by assumption) ?_
                    (try simp only [Act.put, List.setIfInBounds_toArray, List.set_cons_zero, List.set_cons_succ, List.getElem_toArray, List.getElem_cons_zero, List.getElem_cons_succ])
                    refine wpAnyH_take (i := 20) (v := undef) rfl (by kernel_rfl) (by kernel_rfl) (by kernel_rfl) (fun _ _ _ h => h) (Or.inr ⟨by rfl, rfl⟩) (by assumption) ?_
                    (try simp only [Act.put, List.setIfInBounds_toArray, List.set_cons_zero, List.set_cons_succ, List.getElem_toArray, List.getElem_cons_zero, List.getElem_cons_succ])
                    refine wpAnyH_take (i := 21) (v := undef) rfl (by kernel_rfl) (by kernel_rfl) (by kernel_rfl) (fun _ _ _ h => h) (Or.inr ⟨by rfl, rfl⟩) (by assumption) ?_
                    (try simp only [Act.put, List.setIfInBounds_toArray, List.set_cons_zero, List.set_cons_succ, List.getElem_toArray, List.getElem_cons_zero, List.getElem_cons_succ])
                    refine wpAnyH_take (i := 22) (v := .bool false) rfl (by kernel_rfl) (by kernel_rfl) (by kernel_rfl) (fun _ _ _ h => h) (Or.inl ⟨by rfl, ?_⟩) (by assumption) ?_
                    · intro w' hSw
                      (try dsimp only at hSw)
                      go_simp
                      try with_reducible rfl
                    (try simp only [Act.put, List.setIfInBounds_toArray, List.set_cons_zero, List.set_cons_succ, List.getElem_toArray, List.getElem_cons_zero, List.getElem_cons_succ])
                    refine wpAnyH_take (i := 23) (v := .bool false) rfl (by kernel_rfl) (by kernel_rfl) (by kernel_rfl) (fun _ _ _ h => h) (Or.inl ⟨by rfl, ?_⟩) (by assumption) ?_
                    · intro w' hSw
                      (try dsimp only at hSw)
                      go_simp
                      try with_reducible rfl
                    (try simp only [Act.put, List.setIfInBounds_toArray, List.set_cons_zero, List.set_cons_succ, List.getElem_toArray, List.getElem_cons_zero, List.getElem_cons_succ])
                    refine wpAnyH_take (i := 24) (v := .bool false) rfl (by kernel_rfl) (by kernel_rfl) (by kernel_rfl) (fun _ _ _ h => h) (Or.inl ⟨by rfl, ?_⟩) (by assumption) ?_
                    · intro w' hSw
                      (try dsimp only at hSw)
                      go_simp
                      try with_reducible rfl
                    (try simp only [Act.put, List.setIfInBounds_toArray, List.set_cons_zero, List.set_cons_succ, List.getElem_toArray, List.getElem_cons_zero, List.getElem_cons_succ])
                    refine wpAnyH_done (by kernel_rfl) ?_ _
                    go_wp2_with fail
                    go_meet
                    case rel => exact ⟨rfl, hHeld3.2⟩
                  exact AllReadyH.nil
                · skip
                  obtain rfl : cz = 2 := by rw [hcz.out, hc]; rfl
                  replace hus := hide (hus (by omega))
                  replace hstD := hide (hstD (by omega) (by omega))
                  go_region_held3 (fun w' => w'.cell? ⟨bb, 0, none⟩ = some (.pointer (some ⟨d5, 0, none⟩)) ∧ Ext wz w') (first | exact hS0.out | exact hS1.out | exact ‹_› | exact hkp.out _ _ ‹_› ‹_›) (first
                    | (go_at_call 16; refine (hus.out _ _ ‹_› (by first | exact .inl rfl | exact .inr rfl)).mono ?_; rintro e w2 ⟨rfl, hE2⟩)
                    | (go_at_call 14; refine (hstD.out _ ‹_›).mono ?_; rintro e w3' ⟨rfl, rfl⟩))
                  go_wp2_with fail
                  go_meet
                  case rel => exact ⟨rfl, (by refine Ext.trans ?_ hE2; refine Ext.trans (Ext.refl wz).drew ?_; assumption)⟩
                · skip
                  obtain rfl : cz = 3 := by rw [hcz.out, hc]; rfl
                  replace hus := hide (hus (by omega))
                  replace hstD := hide (hstD (by omega) (by omega))
                  go_region_held3 (fun w' => w'.cell? ⟨bb, 0, none⟩ = some (.pointer (some ⟨d5, 0, none⟩)) ∧ Ext wz w') (first | exact hS0.out | exact hS1.out | exact ‹_› | exact hkp.out _ _ ‹_› ‹_›) (first
                    | (go_at_call 16; refine (hus.out _ _ ‹_› (by first | exact .inl rfl | exact .inr rfl)).mono ?_; rintro e w2 ⟨rfl, hE2⟩)
                    | (go_at_call 14; refine (hstD.out _ ‹_›).mono ?_; rintro e w3' ⟨rfl, rfl⟩))
                  go_wp2_with fail
                  go_meet
                  case rel => exact ⟨rfl, (by refine Ext.trans ?_ hE2; refine Ext.trans (Ext.refl wz).drew ?_; assumption)⟩
                · skip
                  obtain rfl : cz = 60 := by rw [hcz.out, hc]; rfl
                  replace hus := hide (hus (by omega))
                  replace hstD := hide (hstD (by omega) (by omega))
                  go_region_held3 (fun w' => w'.cell? ⟨bb, 0, none⟩ = some (.pointer (some ⟨d5, 0, none⟩)) ∧ Ext wz w') (first | exact hS0.out | exact hS1.out | exact ‹_› | exact hkp.out _ _ ‹_› ‹_›) (first
                    | (go_at_call 16; refine (hus.out _ _ ‹_› (by first | exact .inl rfl | exact .inr rfl)).mono ?_; rintro e w2 ⟨rfl, hE2⟩)
                    | (go_at_call 14; refine (hstD.out _ ‹_›).mono ?_; rintro e w3' ⟨rfl, rfl⟩))
                  go_wp2_with fail
                  go_meet
                  case rel => exact ⟨rfl, (by refine Ext.trans ?_ hE2; refine Ext.trans (Ext.refl wz).drew ?_; assumption)⟩
                · skip
                  obtain rfl : cz = 61 := by rw [hcz.out, hc]; rfl
                  replace hus := hide (hus (by omega))
                  replace hstD := hide (hstD (by omega) (by omega))
                  go_region_held3 (fun w' => w'.cell? ⟨bb, 0, none⟩ = some (.pointer (some ⟨d5, 0, none⟩)) ∧ Ext wz w') (first | exact hS0.out | exact hS1.out | exact ‹_› | exact hkp.out _ _ ‹_› ‹_›) (first
                    | (go_at_call 16; refine (hus.out _ _ ‹_› (by first | exact .inl rfl | exact .inr rfl)).mono ?_; rintro e w2 ⟨rfl, hE2⟩)
                    | (go_at_call 14; refine (hstD.out _ ‹_›).mono ?_; rintro e w3' ⟨rfl, rfl⟩))
                  go_wp2_with fail
                  go_meet
                  case rel => exact ⟨rfl, (by refine Ext.trans ?_ hE2; refine Ext.trans (Ext.refl wz).drew ?_; assumption)⟩
                · skip
                  obtain rfl : cz = 62 := by rw [hcz.out, hc]; rfl
                  replace hus := hide (hus (by omega))
                  replace hstD := hide (hstD (by omega) (by omega))
                  go_region_held3 (fun w' => w'.cell? ⟨bb, 0, none⟩ = some (.pointer (some ⟨d5, 0, none⟩)) ∧ Ext wz w') (first | exact hS0.out | exact hS1.out | exact ‹_› | exact hkp.out _ _ ‹_› ‹_›) (first
                    | (go_at_call 16; refine (hus.out _ _ ‹_› (by first | exact .inl rfl | exact .inr rfl)).mono ?_; rintro e w2 ⟨rfl, hE2⟩)
                    | (go_at_call 14; refine (hstD.out _ ‹_›).mono ?_; rintro e w3' ⟨rfl, rfl⟩))
                  go_wp2_with fail
                  go_meet
                  case rel => exact ⟨rfl, (by refine Ext.trans ?_ hE2; refine Ext.trans (Ext.refl wz).drew ?_; assumption)⟩
              case rest =>
                obtain ⟨hs144, hEv⟩ := hcut
                subst hs144
                go_wp2_with fail
                go_roundw
                case rel => first | exact ⟨i + 1, P2, F5, d5, by go_num, by omega, by omega, hide (hBz.ext hEv), hide ⟨hQ2.out.1, hQ3⟩, hEz.trans hEv⟩ | ((repeat apply Exists.intro); exact ⟨⟨i + 1, P2, F5, d5, by go_num, by omega, by omega, hide (hBz.ext hEv), hide ⟨hQ2.out.1, hQ3⟩, hEz.trans hEv⟩, rfl⟩)
                case measure => simp [intOf]; omega
      · obtain rfl : i = 50 := by omega
        go_wp2_with fail
        go_ret
        exact ⟨rfl, hE⟩
    · obtain rfl : i = n := by omega
      go_wp2_with fail
      go_ret
      exact ⟨rfl, hE⟩
end Go.Proofs.Yticnncgbfpgeaaa

