/- loggiaref06: without. -/
import Derived.Test.YticnncgbfpgeaaaDrC
namespace Go.Proofs.Yticnncgbfpgeaaa
open Go.RowKit Go.Maps

/-- 'append' of values that the statement has just laid in a new block; an element has more than one cell. -/
theorem wpList_appS {P : Program} {ops : Array Oper} {rest : List Oper} {o : Oper} {a : Act} {Q : Exit → Act → World → Prop} {w0 : World} {us : List Value} {T : TypeId} {t e size bytes m : Nat} (E : Elem P t e size bytes)
    {base : Nat} {v : Value} {n : Nat} {xs : List Value} (hown : w0.ownsRow base e size v n xs) (s x : Operand)
    (ho : o.op = .call { callee := .builtin .append, args := #[s, x], argTypes := #[t, t] }) (hgd : o.guard = none)
    (hs : a.eval s = v) (hx : a.eval x = .slice (some ⟨w0.heap.size, 0, none⟩) m m) (hl : us.length = m * size) (h1 : ∀ u ∈ us, u.oneCell' = true) (hsz : n + m ≤ 4294967296) (hbase : base ≤ w0.heap.size)
    (h : ∀ A1 c1 w', w'.ownsRow base e size (.slice A1 (n + m) c1) (n + m) (xs ++ us) → w0.grownBy w' v.ownBlock → ((Value.slice A1 (n + m) c1).ownBlock = v.ownBlock ∨ (Value.slice A1 (n + m) c1).ownBlock = some (w0.heap.size + 1)) →
      wpList P ops Q rest (a.put o.dst (.slice A1 (n + m) c1)) w') :
    wpList P ops Q (o :: rest) a (w0.alloc (.cells us.toArray T)) := by
  refine wpList_app E (((Ext.refl w0).alloc _).owns hown) (A := some ⟨w0.heap.size, 0, none⟩) (news := us) (.inr ⟨w0.heap.size, 0, rfl, fun i u hu => ?_⟩) s x ho hgd hs hx rfl hl h1 hsz (by simp; omega) fun A1 c1 w' h2 h3 h4 => ?_
  · rw [Nat.zero_add, cell_of_row _ _ _ _ _ _ (heap_alloc_new w0 _)]
    simpa using hu
  · refine h A1 c1 w' h2 ⟨h3.os, h3.tape, h3.output, Nat.le_trans (by simp) h3.size, fun k hk hne => (h3.block k (by simp; omega) hne).trans (Below.heap_alloc w0 _ k hk)⟩ ?_
    simpa using h4
/-- The same, the block by a name. -/
theorem wpList_appB {P : Program} {ops : Array Oper} {rest : List Oper} {o : Oper} {a : Act} {Q : Exit → Act → World → Prop} {w0 : World} {us : List Value} {T : TypeId} {t e size bytes m : Nat} (b : Nat) (hb : b = w0.heap.size) (E : Elem P t e size bytes)
    {base : Nat} {v : Value} {n : Nat} {xs : List Value} (hown : w0.ownsRow base e size v n xs) (s x : Operand)
    (ho : o.op = .call { callee := .builtin .append, args := #[s, x], argTypes := #[t, t] }) (hgd : o.guard = none)
    (hs : a.eval s = v) (hx : a.eval x = .slice (some ⟨b, 0, none⟩) m m) (hl : us.length = m * size) (h1 : ∀ u ∈ us, u.oneCell' = true) (hsz : n + m ≤ 4294967296) (hbase : base ≤ w0.heap.size)
    (h : ∀ A1 c1 w', w'.ownsRow base e size (.slice A1 (n + m) c1) (n + m) (xs ++ us) → w0.grownBy w' v.ownBlock → wpList P ops Q rest (a.put o.dst (.slice A1 (n + m) c1)) w') :
    wpList P ops Q (o :: rest) a (w0.alloc (.cells us.toArray T)) := by
  subst hb
  exact wpList_appS E hown s x ho hgd hs hx hl h1 hsz hbase fun A1 c1 w' h2 h3 _ => h A1 c1 w' h2 h3
/-- A new row of files. -/
theorem RS.of_own {w w1 : World} {N : Nat → Prop} {base : Nat} {A : Option Addr} {n c : Nat} {R : List RE} (ho : w1.ownsRow base 53 3 (.slice A n c) n (rcells R)) (hb : w.heap.size ≤ base) (hN : ∀ k, N k → k < w.heap.size) (hok : ∀ r ∈ R, ROk w1 N r) (hm : R.length ≤ 1024) : RS w1 N A n c R := by
  have hl : n = R.length := by
    have := ho.1
    rw [rcells_len] at this
    omega
  refine ⟨hl, Cells.of_own ho, fun a ha => ?_, ?_, by omega, hok⟩
  · subst ha
    rcases ho.2 with ⟨h1, _⟩ | ⟨g, cap, cur, h1, h2, h3, _⟩
    · cases h1
    · cases h1
      refine ⟨(Array.getElem?_eq_some_iff.1 h3).1, fun hn => ?_⟩
      have := hN _ hn
      have h2' : base ≤ g := h2
      have : g < w.heap.size := this
      omega
  · rcases ho.2 with ⟨h1, h2⟩ | ⟨g, cap, cur, h1, h2, h3, h4, _⟩
    · cases h1; omega
    · cases h1; omega
theorem own_ge {w : World} {base : Nat} {e : TypeId} {size : Nat} {v : Value} {n : Nat} {xs : List Value} (h : w.ownsRow base e size v n xs) : ∀ k, v.ownBlock = some k → base ≤ k := by
  intro k hk
  obtain ⟨cur, _, h9⟩ := owns_row h hk
  exact h9
theorem take_without (R : List RE) (s : List UInt8) (i : Nat) (r : RE) (h : R[i]? = some r) : withoutG RE.name s (R.take (i + 1)) = withoutG RE.name s (R.take i) ++ (if r.name = s then [] else [r]) := by
  obtain ⟨hi, hr⟩ := List.getElem?_eq_some_iff.1 h
  rw [List.take_succ_eq_append_getElem hi, hr]
  unfold withoutG
  rw [List.filter_append]
  congr 1
  by_cases hs : r.name = s
  · simp [hs]
  · simp [hs]
/-- The end of a function that answers with a disk whose row of files has been made anew: b is the disk's own cell, b + 1 the answer's. -/
theorem rdisk_out {w0 wr : World} {b base n1 c1 q a : Nat} {A1 : Option Addr} {st : Bool} {xs : List Value} {v0 v1 v2 v3 : Value} (hrr : Row wr (b + 1) 36 #[v0, v1, v2, v3]) (ho : wr.ownsRow base 53 3 (.slice A1 n1 c1) n1 xs)
    (hge : ∀ k, (Value.slice A1 n1 c1).ownBlock = some k → b + 2 ≤ k) (hE : Ext w0 wr) (hb : w0.heap.size ≤ b) {wf : World}
    (hwf : wf = (((((wr.setCell ⟨b, 0, none⟩ (.slice A1 n1 c1)).setCell ⟨b + 1, 0, none⟩ (.slice A1 n1 c1)).setCell ⟨b + 1, 1, none⟩ (.int .i64 q)).setCell ⟨b + 1, 2, none⟩ (.int .i64 a)).setCell ⟨b + 1, 3, none⟩ (.bool st)) := by rfl) :
    wf.cell? ⟨b + 1, 0, none⟩ = some (.slice A1 n1 c1) ∧ wf.cell? ⟨b + 1, 1, none⟩ = some (.int .i64 q) ∧ wf.cell? ⟨b + 1, 2, none⟩ = some (.int .i64 a) ∧ wf.cell? ⟨b + 1, 3, none⟩ = some (.bool st) ∧ Ext w0 wf ∧ wf.ownsRow base 53 3 (.slice A1 n1 c1) n1 xs := by
  have hr : Row wf (b + 1) 36 #[.slice A1 n1 c1, .int .i64 q, .int .i64 a, .bool st] := by
    rw [hwf]
    exact ((((Row.away hrr (p := ⟨b, 0, none⟩) (by show b + 1 ≠ b; omega) _).put 0 _).put 1 _).put 2 _).put 3 _
  refine ⟨hr.cell 0 rfl, hr.cell 1 rfl, hr.cell 2 rfl, hr.cell 3 rfl, ?_, ?_⟩
  · rw [hwf]
    have h1 : w0.heap.size ≤ (⟨b + 1, 0, none⟩ : Addr).block := by show w0.heap.size ≤ b + 1; omega
    exact ((((hE.setCell (p := ⟨b, 0, none⟩) hb _).setCell (p := ⟨b + 1, 0, none⟩) h1 _).setCell (p := ⟨b + 1, 1, none⟩) h1 _).setCell (p := ⟨b + 1, 2, none⟩) h1 _).setCell (p := ⟨b + 1, 3, none⟩) h1 _
  · rw [hwf]
    have hk : ∀ (g o : Nat), g < b + 2 → (Value.slice A1 n1 c1).ownBlock ≠ some (⟨g, o, none⟩ : Addr).block := fun g o hg hh => by
      have := hge _ hh
      have : b + 2 ≤ g := this
      omega
    exact owns_set (owns_set (owns_set (owns_set (owns_set ho (hk _ _ (by omega)) _) (hk _ _ (by omega)) _) (hk _ _ (by omega)) _) (hk _ _ (by omega)) _) (hk _ _ (by omega)) _
set_option maxRecDepth 100000 in
set_option maxHeartbeats 2000000 in
theorem rwithout_any (N : Nat → Prop) (A : Option Addr) (n c q a : Nat) (st : Bool) (R : List RE) (s : List UInt8) (w : World) (h : RS w N A n c R) (hN : ∀ k, N k → k < w.heap.size) :
    Calls Try.prog 58 #[rdisk A n c q a st, str s] w fun e w' => ∃ A1 n1 c1, e = .returned (rdisk A1 n1 c1 q a st) ∧ RS w' N A1 n1 c1 (withoutG RE.name s R) ∧ Ext w w' := by
  unfold rdisk str
  have hlen := h.len
  have hmany := h.many
  replace hlen := hide hlen
  go_enter Try.func58, Try.ntmps58
  go_wp2_with fail
  obtain ⟨W, hW⟩ : ∃ W, W = (w.alloc (.cells #[.slice A n c, .int .i64 q, .int .i64 a, .bool st] 36)).alloc (.cells #[.slice none 0 0, .int .i64 0, .int .i64 0, .bool false] 36) := ⟨_, rfl⟩
  rw [← hW]
  have hE : Ext w W := by rw [hW]; exact ((Ext.refl w).alloc _).alloc _
  have hWs : W.heap.size = w.heap.size + 2 := by rw [hW, size_alloc, size_alloc]
  have hd : Row W w.heap.size 36 #[.slice A n c, .int .i64 q, .int .i64 a, .bool st] := by rw [hW]; exact (Row.new w _ _).alloc _
  have hr2 : Row W (w.heap.size + 1) 36 #[.slice none 0 0, .int .i64 0, .int .i64 0, .bool false] := by
    have := Row.new (w.alloc (.cells #[.slice A n c, .int .i64 q, .int .i64 a, .bool st] 36)) 36 #[.slice none 0 0, .int .i64 0, .int .i64 0, .bool false]
    rw [size_alloc] at this
    rw [hW]
    exact this
  have hR := h.ext hE
  replace hW := hide hW
  replace hWs := hide hWs
  go_loopw [5, 6] (fun s5 s6 wr => ∃ (i n1 c1 : Nat) (A1 : Option Addr), s6 = .int .i64 i ∧ s5 = .slice A1 n1 c1 ∧ i ≤ n ∧ n1 ≤ i ∧ Hid (wr.ownsRow (w.heap.size + 2) 53 3 (.slice A1 n1 c1) n1 (rcells (withoutG RE.name s (R.take i)))) ∧ Below (w.heap.size + 2) W wr) (fun _ s6 _ => n - (intOf s6).toNat)
  case atStart => exact ⟨0, 0, 0, none, rfl, rfl, by omega, by omega, hide (World.ownsRow_nil _ _ _ _), Below.refl _ _⟩
  case round =>
    obtain ⟨i, n1, c1, A1, rfl, rfl, hi, hn1, hO, hB⟩ := hrel
    have hEr : Ext W wr := by
      have : Below W.heap.size W wr := by rw [hWs.out]; exact hB
      exact this
    have c0r : wr.cell? ⟨w.heap.size, 0, none⟩ = some (.slice A n c) := (hd.ext hEr).cell 0 rfl
    by_cases hin : i < n
    · obtain ⟨g, o, r, rfl, hr, k0, k1, k2⟩ := (hR.ext hEr).at_ hin
      unfold str at k0
      have htw := take_without R s i r hr
      replace hr := hide hr
      by_cases hs : r.name = s
      · have hb : (r.name == s) = true := by rw [hs]; exact beq_self_eq_true s
        have hb2 : (r.name != s) = false := by rw [hs]; simp
        rw [if_pos hs, List.append_nil] at htw
        have hO2 := hO.out
        rw [← htw] at hO2
        have hO3 := hide hO2
        replace htw := hide htw
        replace hs := hide hs
        clear hO2
        go_wp2_with fail
        go_roundw
        case rel => exact ⟨i + 1, n1, c1, A1, by go_num, rfl, by omega, by omega, hO3, hB⟩
        case measure => simp [intOf]; omega
      · have hb : (r.name == s) = false := beq_eq_false_iff_ne.2 hs
        have hb2 : (r.name != s) = true := bne_iff_ne.2 hs
        rw [if_neg hs] at htw
        have hO2 := hO.out
        have hsz : w.heap.size + 2 ≤ wr.heap.size := by rw [← hWs.out]; exact hEr.size
        have hge := own_ge hO2
        replace hge := hide hge
        replace htw := hide htw
        replace hs := hide hs
        go_wp2_with (at_builtin; refine wpList_appS (us := [.string ⟨r.name.toArray⟩, .slice r.A r.b.length r.c, .int .i64 r.sure]) (m := 1) elemF hO2 (.tmp 22) (.tmp 28) rfl rfl rfl rfl rfl (one_of rfl) (by omega) hsz (fun A2 c2 w3 ho3 hg3 hl3 => ?_))
        have ho4 : Hid (w3.ownsRow (w.heap.size + 2) 53 3 (.slice A2 (n1 + 1) c2) (n1 + 1) (rcells (withoutG RE.name s (R.take (i + 1))))) := hide (by
          rw [htw.out, rcells_append]
          exact ho3)
        have hB3 : Below (w.heap.size + 2) W w3 := hB.grown hg3 hsz hge.out
        go_roundw
        case rel => exact ⟨i + 1, n1 + 1, c2, A2, by go_num, rfl, by omega, by omega, ho4, hB3⟩
        case measure => simp [intOf]; omega
    · obtain rfl : i = n := by omega
      have hO2 := hO.out
      rw [List.take_of_length_le (by rw [← hlen.out]; exact Nat.le_refl _)] at hO2
      have hdr := hd.ext hEr
      have hrr := hr2.ext hEr
      have c1r : wr.cell? ⟨w.heap.size, 1, none⟩ = some (.int .i64 q) := hdr.cell 1 rfl
      have c2r : wr.cell? ⟨w.heap.size, 2, none⟩ = some (.int .i64 a) := hdr.cell 2 rfl
      have c3r : wr.cell? ⟨w.heap.size, 3, none⟩ = some (.bool st) := hdr.cell 3 rfl
      have fd0 := hdr.free 0
      have fr0 := hrr.free 0
      have fr1 := hrr.free 1
      have fr2 := hrr.free 2
      have fr3 := hrr.free 3
      have e0 : wr.cell? ⟨w.heap.size + 1, 0, none⟩ = some (.slice none 0 0) := hrr.cell 0 rfl
      have e1 : wr.cell? ⟨w.heap.size + 1, 1, none⟩ = some (.int .i64 0) := hrr.cell 1 rfl
      have e2 : wr.cell? ⟨w.heap.size + 1, 2, none⟩ = some (.int .i64 0) := hrr.cell 2 rfl
      have e3 : wr.cell? ⟨w.heap.size + 1, 3, none⟩ = some (.bool false) := hrr.cell 3 rfl
      replace hlen := hide hlen
      go_wp2_with fail
      have hge := own_ge hO2
      have hfin := rdisk_out hrr hO2 hge (hE.trans hEr) (Nat.le_refl _) (q := q) (a := a) (st := st)
      obtain ⟨wf, hwf⟩ : ∃ wf, wf = (((((wr.setCell ⟨w.heap.size, 0, none⟩ (.slice A1 n1 c1)).setCell ⟨w.heap.size + 1, 0, none⟩ (.slice A1 n1 c1)).setCell ⟨w.heap.size + 1, 1, none⟩ (.int .i64 q)).setCell ⟨w.heap.size + 1, 2, none⟩ (.int .i64 a)).setCell ⟨w.heap.size + 1, 3, none⟩ (.bool st)) := ⟨_, rfl⟩
      rw [← hwf] at hfin ⊢
      obtain ⟨z0, z1, z2, z3, hEf, hof⟩ := hfin
      refine bodyPost_ret (v := .agg #[.slice A1 n1 c1, .int .i64 q, .int .i64 a, .bool st]) (by simp [results, Try.results58, go_sem, z0, z1, z2, z3]) rfl ⟨A1, n1, c1, rfl, ?_⟩
      exact ⟨RS.of_own (w := w) hof (Nat.le_add_right _ 2) hN (fun r hr => (h.ok r (mem_without.1 hr).1).ext hEf) (Nat.le_trans (len_without_le _ _) (by rw [← h.len]; exact h.many)), hEf⟩
end Go.Proofs.Yticnncgbfpgeaaa
