/- Texts of one proof, joined. -/
import Derived.Test.YtkdcnhnaiknaaaaGreatFD03
import Derived.Test.YtkdcnhnaiknaaaaGreatFD04
import Derived.Test.YtkdcnhnaiknaaaaGreatFD02
import Derived.Test.YtkdcnhnaiknaaaaGreatShelf
import Derived.Deep.Onto
import Derived.WalkMore
set_option linter.unusedSimpArgs false
set_option linter.unusedVariables false
namespace Go.Proofs.YtkdcnhnaiknaaaaGreat
section
open Go.RowKit
def OwnB (w : World) (base : Nat) (l : List UInt8) (e : Ending) (w' : World) : Prop := ∃ A c, e = .returned (.slice A l.length c) ∧ Own8 w' base A l.length c l ∧ Ext w w'
theorem Own8.ext {w w1 : World} {base : Nat} {A : Option Addr} {n c : Nat} {l : List UInt8} (h : Own8 w base A n c l) (hE : Ext w w1) : Own8 w1 base A n c l := ⟨h.1, h.2.ext hE⟩
theorem u64_of {z : Int} {q : Nat} (h : z = (q : Int)) (hq : q < 18446744073709551616) : IntKind.u64.wrap z = (q : Int) := by rw [h]; exact wrap_u64 hq
theorem drop_step {α : Type} {l : List α} {i : Nat} {x : α} (h : l[i]? = some x) : l.drop i = x :: l.drop (i + 1) := by
  obtain ⟨hi, rfl⟩ := List.getElem?_eq_some_iff.1 h
  exact List.drop_eq_getElem_cons hi
theorem risB_cons {n lo x : Int} {t : List Int} (h : risB n lo (x :: t) = true) : lo < x ∧ x < n ∧ risB n x t = true := by
  unfold risB at h
  rw [Bool.and_eq_true, Bool.and_eq_true] at h
  exact ⟨of_decide_eq_true h.1.1, of_decide_eq_true h.1.2, h.2⟩
set_option maxRecDepth 100000 in
set_option maxHeartbeats 1000000 in
theorem steps_any (base : Nat) (A B : Option Addr) (n c k c2 : Nat) (l : List UInt8) (last N : Int) (xs : List Int) (w : World) (hb : Own8 w base A n c l) (hbase : base ≤ w.heap.size) (hk : k = xs.length) (hx : Cells w B (xs.map IV))
    (hr : risB N last xs = true) (hlast : -1 ≤ last) (hlast2 : last ≤ 1099511627776) (hN : N ≤ 1099511627776) (hle : n + 10 * k ≤ 1000000000) :
    Calls Tryz.prog 84 #[.slice A n c, .int .i64 last, .slice B k c2] w fun e w' => OwnB w base (l ++ stepsL last xs) e w' := by
  have hput := hide (fun A n c x l W h1 h2 h3 h4 h5 => put_any A n c x l W h1 h2 h3 h4 h5)
  obtain ⟨Z, hZ⟩ : ∃ Z, Z = l ++ stepsL last xs := ⟨_, rfl⟩
  rw [← hZ]
  replace hZ := hide hZ
  replace hb := hide hb
  replace hk := hide hk
  replace hx := hide hx
  replace hr := hide hr
  go_enter Tryz.func84, Tryz.ntmps84
  go_wp2_with fail
  go_loopw [0, 1, 11] (fun s0 s1 s11 wr => ∃ (i n1 c1 : Nat) (A1 : Option Addr) (L : List UInt8) (p : Int), s0 = .slice A1 n1 c1 ∧ s1 = .int .i64 p ∧ s11 = .int .i64 (i : Int) ∧ i ≤ k ∧ -1 ≤ p ∧ p ≤ 1099511627776 ∧ n1 ≤ n + 10 * i ∧ Hid (Z = L ++ stepsL p (xs.drop i)) ∧ Hid (risB N p (xs.drop i) = true) ∧ Hid (Own8 wr base A1 n1 c1 L) ∧ Hid (Ext w wr)) (fun _ _ s11 _ => k - (intOf s11).toNat)
  case atStart => exact ⟨0, n, c, A, l, last, rfl, rfl, rfl, by omega, hlast, hlast2, by omega, hide (by rw [hZ.out]; rfl), hr, hb, hide (Ext.refl w)⟩
  case round =>
    obtain ⟨i, n1, c1, A1, L, p, rfl, rfl, rfl, hi, hp1, hp2, hn1, hZL, hrs, hown, hE⟩ := hrel
    by_cases h : i < k
    · obtain ⟨x, hxi⟩ : ∃ x, xs[i]? = some x := ⟨_, List.getElem?_eq_getElem (by rw [← hk.out]; exact h)⟩
      obtain ⟨g, o, hA, hcl⟩ := hx.out.at_ (by rw [List.length_map, ← hk.out]; omega)
      subst hA
      have hld := hE.out.cell (hcl i (IV x) (by rw [List.getElem?_map, hxi]; rfl))
      unfold IV at hld
      have hdr := drop_step hxi
      have hrs2 := hrs.out
      have hZ2 := hZL.out
      rw [hdr] at hrs2 hZ2
      obtain ⟨hpx, hxN, hrs3⟩ := risB_cons hrs2
      obtain ⟨q, hq⟩ : ∃ q : Nat, (q : Int) = x - p - 1 := ⟨(x - p - 1).toNat, by omega⟩
      have hqu := u64_of (z := x - p - 1) hq.symm (by omega)
      have hq5 : q < 18446744073709551616 := by omega
      have hZ3 : Hid (Z = (L ++ vb q) ++ stepsL x (xs.drop (i + 1))) := hide (by
        rw [hZ2, List.append_assoc]
        show _ ++ (vb (x - p - 1).toNat ++ _) = _
        rw [← hq]; rfl)
      have hl10 := vb_len10 hq5
      have hcp := hide (hput.out A1 n1 c1 q L wr hown.out.1 hown.out.2.cells (hown.out.nil_) (by omega) hq5)
      have hLl : L.length = n1 := hown.out.1.symm
      have hbs := Nat.le_trans hbase hE.out.size
      have hlen : (L ++ vb q).length ≤ n + 10 * (i + 1) := by rw [List.length_append, hLl]; omega
      replace hcl := hide hcl
      replace hxi := hide hxi
      replace hdr := hide hdr
      replace hLl := hide hLl
      replace hrs3 := hide hrs3
      clear hrs2 hZ2 hl10
      replace hq := hide hq
      go_wp2_with fail
      refine hcp.out.mono ?_
      rintro e w2 hNB
      obtain ⟨A2, c2, rfl, hB2, hE2⟩ := hNB
      have ho2 : Hid (Own8 w2 base A2 (L ++ vb q).length c2 (L ++ vb q)) := hide ⟨rfl, hB2.lower hbs⟩
      obtain ⟨n2, hn2⟩ : ∃ n2, n2 = (L ++ vb q).length := ⟨_, rfl⟩
      rw [← hn2] at ho2 hlen ⊢
      replace hn2 := hide hn2
      replace hE2 := hide (hE.out.trans hE2)
      clear hB2
      go_wp2_with fail
      exact ⟨⟨i + 1, n2, c2, A2, L ++ vb q, x, rfl, rfl, rfl, by omega, by omega, by omega, by omega, hZ3, hrs3, ho2, hE2⟩, by simp only [intOf]; omega⟩
    · obtain rfl : i = k := by omega
      have hZe : Z = L := by rw [hZL.out, List.drop_eq_nil_of_le (by rw [← hk.out]; exact Nat.le_refl _), stepsL, List.append_nil]
      replace hZe := hide hZe
      go_wp2_with fail
      go_ret
      have ho := hown.out
      have hl := ho.1
      rw [hZe.out]
      subst hl
      exact ⟨A1, c1, rfl, ho, hE.out⟩
end
section
open Go.RowKit
theorem Cells.part {w : World} {A : Option Addr} {xs : List Value} (h : Cells w A xs) (hA : ∀ a, A = some a → a.spot = none) (k m : Nat) : Cells w (A.map fun a => a.add k) ((xs.drop k).take m) := by
  rcases h with h | ⟨g, o, rfl, hc⟩
  · subst h; exact .inl (by simp)
  · refine .inr ⟨g, o + k, by rw [Option.map_some, Addr.add_lit], fun j v hv => ?_⟩
    rw [List.getElem?_take] at hv
    split at hv
    · rw [List.getElem?_drop] at hv
      have := hc _ v hv
      rwa [Nat.add_assoc]
    · cases hv
theorem Chg.others {S : Nat → Prop} {w w1 : World} (h : Chg S w w1) (hS : ∀ k, S k → ∃ t cs, Row w k t cs) : KeepsOthers w w1 :=
  ⟨h.size, fun k o hk ho => (h.block k (Array.getElem?_eq_some_iff.1 hk).1 fun hs => by
    obtain ⟨t, cs, hr⟩ := hS k hs
    unfold Row at hr
    rw [hr] at hk
    injection hk with hk
    subst hk
    cases ho).trans hk⟩
theorem flat_part {α : Type} {f : α → List Value} {k : Nat} (hf : ∀ x, (f x).length = k) : ∀ (l : List α) (i : Nat), (l.drop i).flatMap f = (l.flatMap f).drop (i * k)
  | [], i => by simp
  | x :: l, 0 => by simp
  | x :: l, i + 1 => by
    rw [List.drop_succ_cons, List.flatMap_cons, flat_part hf l i, Nat.succ_mul, Nat.add_comm, ← List.drop_drop, List.drop_left' (hf x)]
theorem flat_take {α : Type} {f : α → List Value} {k : Nat} (hf : ∀ x, (f x).length = k) : ∀ (l : List α) (i : Nat), (l.take i).flatMap f = (l.flatMap f).take (i * k)
  | [], i => by simp
  | x :: l, 0 => by simp
  | x :: l, i + 1 => by
    rw [List.take_succ_cons, List.flatMap_cons, flat_take hf l i, List.flatMap_cons, Nat.succ_mul, Nat.add_comm, show k + i * k = (f x).length + i * k by rw [hf x], List.take_length_add_append]
theorem buf_apart {W : World} {b1 b2 k size n c : Nat} {e e2 : TypeId} {A : Option Addr} {v : Value} {xs ys : List Value} (hb : Buf W b1 e A n c xs) (ho : W.ownsRow b2 e2 size v k ys) (hne : e2 ≠ e) : ∀ a, A = some a → v.ownBlock ≠ some a.block := fun a ha => by
  rcases hb.2.2 with ⟨h0, _⟩ | ⟨g, cur, hA, _, hr, _⟩
  · rw [h0] at ha; cases ha
  · rw [hA] at ha
    cases ha
    exact owns_unlike ho hr hne
theorem owns_cap {w : World} {base : Nat} {e : TypeId} {size n c : Nat} {A : Option Addr} {xs : List Value} (h : w.ownsRow base e size (.slice A n c) n xs) : n ≤ c ∧ ∀ a, A = some a → a.spot = none := by
  rcases h.2 with ⟨hv, h0⟩ | ⟨g, cap, cur, hv, _, _, hnc, _⟩
  · injection hv with h1 h2 h3
    subst h1 h3
    exact ⟨by omega, nofun⟩
  · injection hv with h1 h2 h3
    subst h1 h3
    exact ⟨hnc, fun a ha => by cases ha; rfl⟩
def HB (base h1 h2 : Nat) (Hd Bd : List UInt8) (W : World) : Prop := ∃ (A1 A2 : Option Addr) (c1 c2 : Nat), Row W h1 25 #[.slice A1 Hd.length c1] ∧ Row W h2 25 #[.slice A2 Bd.length c2] ∧ Own8 W base A1 Hd.length c1 Hd ∧ Own8 W base A2 Bd.length c2 Bd ∧ ∀ a1 a2, A1 = some a1 → A2 = some a2 → a1.block ≠ a2.block
section
variable {base h1 h2 : Nat} {Hd Bd : List UInt8} {W W1 : World}
theorem HB.ext (h : HB base h1 h2 Hd Bd W) (hE : Ext W W1) : HB base h1 h2 Hd Bd W1 := by
  obtain ⟨A1, A2, c1, c2, r1, r2, o1, o2, hne⟩ := h
  exact ⟨A1, A2, c1, c2, r1.ext hE, r2.ext hE, o1.ext hE, o2.ext hE, hne⟩
theorem HB.alike {B : Nat} (h : HB base h1 h2 Hd Bd W) (hE : Alike B W W1) : HB base h1 h2 Hd Bd W1 := by
  obtain ⟨A1, A2, c1, c2, r1, r2, o1, o2, hne⟩ := h
  exact ⟨A1, A2, c1, c2, hE.row r1, hE.row r2, ⟨o1.1, hE.buf o1.2⟩, ⟨o2.1, hE.buf o2.2⟩, hne⟩
theorem HB.chg {S : Nat → Prop} (h : HB base h1 h2 Hd Bd W) (hE : Chg S W W1) (hS : ∀ k, S k → ∃ t cs, Row W k t cs ∧ t ≠ 25 ∧ t ≠ 5) : HB base h1 h2 Hd Bd W1 := by
  obtain ⟨A1, A2, c1, c2, r1, r2, o1, o2, hne⟩ := h
  have hn : ∀ {g : Nat} {cs : Array Value}, Row W g 25 cs → ¬ S g := fun hr hs => by
    obtain ⟨t, cs, hr2, ht, _⟩ := hS _ hs
    exact Row.unlike hr hr2 (fun e => ht e.symm) rfl
  have hb : ∀ {A : Option Addr} {n c : Nat} {xs : List Value}, Buf W base 5 A n c xs → ∀ a, A = some a → ¬ S a.block := fun hb a ha hs => by
    obtain ⟨t, cs, hr2, _, ht⟩ := hS _ hs
    exact hb.unlike hr2 (fun e => ht e.symm) a ha rfl
  exact ⟨A1, A2, c1, c2, hE.row r1 (hn r1), hE.row r2 (hn r2), ⟨o1.1, o1.2.chg hE (hb o1.2)⟩, ⟨o2.1, o2.2.chg hE (hb o2.2)⟩, hne⟩
theorem HB.head {W6 : World} {B1 : Nat} {Hd' : List UInt8} {A : Option Addr} {n c : Nat} (h : HB base h1 h2 Hd Bd W) (hne : h1 ≠ h2) (hE : Ext W W6) (hn : n = Hd'.length) (hb : Buf W6 B1 5 A n c (Hd'.map B8)) (hB : W.heap.size ≤ B1) (hBase : base ≤ B1) :
    HB base h1 h2 Hd' Bd (W6.setCell ⟨h1, 0, none⟩ (.slice A n c)) := by
  subst hn
  obtain ⟨A1, A2, c1, c2, r1, r2, o1, o2, hd⟩ := h
  have r16 := r1.ext hE
  refine ⟨A, A2, c, c2, r16.put 0 _, (r2.ext hE).away (fun e => hne e.symm) _, ⟨rfl, (hb.lower hBase).setCell (hb.unlike r16 (by decide)) _⟩, ⟨o2.1, (o2.2.ext hE).setCell ((o2.2.ext hE).unlike r16 (by decide)) _⟩, fun a1 a2 e1 e2 e => ?_⟩
  have h3 := hb.base_le a1 e1
  have h4 := o2.2.lt a2 e2
  omega
theorem HB.rows {W1 : World} {A2 : Option Addr} {c2 : Nat} (h : HB base h1 h2 Hd Bd W) (hr2 : Row W h2 25 #[.slice A2 Bd.length c2]) (hg : W.grownBy W1 (Value.slice A2 Bd.length c2).ownBlock) {g : Nat} {t : TypeId} {cs : Array Value} (hr : Row W g t cs) (ht : t ≠ 5) : Row W1 g t cs := by
  obtain ⟨A1, A2', c1, c2', r1, r2, o1, o2, hd⟩ := h
  have he : A2' = A2 ∧ c2' = c2 := by
    have e := r2.cell 0 rfl
    rw [hr2.cell 0 rfl] at e
    injection e with e
    injection e with e1 _ e2
    exact ⟨e1.symm, e2.symm⟩
  obtain ⟨rfl, rfl⟩ := he
  refine hr.grown hg fun e => ?_
  cases A2' with
  | none => simp [Value.ownBlock] at e
  | some a => exact o2.2.unlike hr (fun e => ht e.symm) a rfl (by simpa [Value.ownBlock] using e.symm)
theorem HB.body {W1 : World} {A2 A3 : Option Addr} {c2 n3 c3 : Nat} {x : List UInt8} (h : HB base h1 h2 Hd Bd W) (hne : h1 ≠ h2) (hr2 : Row W h2 25 #[.slice A2 Bd.length c2]) (hg : W.grownBy W1 (Value.slice A2 Bd.length c2).ownBlock) (hn : n3 = (Bd ++ x).length) (hb : Buf W1 base 5 A3 n3 c3 ((Bd ++ x).map B8))
    (hA : A3 = A2 ∨ A3 = some ⟨W.heap.size, 0, none⟩) :
    HB base h1 h2 Hd (Bd ++ x) (W1.setCell ⟨h2, 0, none⟩ (.slice A3 n3 c3)) ∧ KeepsOthers W (W1.setCell ⟨h2, 0, none⟩ (.slice A3 n3 c3)) ∧ (∀ g t cs, Row W g t cs → t ≠ 5 → g ≠ h2 → Row (W1.setCell ⟨h2, 0, none⟩ (.slice A3 n3 c3)) g t cs) ∧
      (∀ w0, Ext w0 W → w0.heap.size ≤ base → w0.heap.size ≤ h2 → Ext w0 (W1.setCell ⟨h2, 0, none⟩ (.slice A3 n3 c3))) := by
  subst hn
  obtain ⟨A1, A2', c1, c2', r1, r2, o1, o2, hd⟩ := h
  have he : A2' = A2 ∧ c2' = c2 := by
    have e := r2.cell 0 rfl
    rw [hr2.cell 0 rfl] at e
    injection e with e
    injection e with e1 _ e2
    exact ⟨e1.symm, e2.symm⟩
  obtain ⟨rfl, rfl⟩ := he
  have hown : ∀ k, (Value.slice A2' Bd.length c2').ownBlock = some k → ∃ a, A2' = some a ∧ a.block = k := fun k hk => by
    cases A2' with
    | none => simp [Value.ownBlock] at hk
    | some a => exact ⟨a, rfl, by simpa [Value.ownBlock] using hk⟩
  have hrow : ∀ g t cs, Row W g t cs → t ≠ 5 → Row W1 g t cs := fun g t cs hr ht => hr.grown hg fun e => by
    obtain ⟨a, ha, hk⟩ := hown g e.symm
    exact o2.2.unlike hr (fun e => ht e.symm) a ha hk
  have r1' := hrow _ _ _ r1 (by decide)
  have r2' := hrow _ _ _ r2 (by decide)
  have o1' : Buf W1 base 5 A1 Hd.length c1 (Hd.map B8) := o1.2.grown hg fun a ha e => by
    obtain ⟨a2, ha2, hk⟩ := hown _ e
    exact hd a a2 ha ha2 hk.symm
  refine ⟨⟨A1, A3, c1, c3, r1'.away hne _, r2'.put 0 _, ⟨rfl, o1'.setCell (o1'.unlike r2' (by decide)) _⟩, ⟨rfl, hb.setCell (hb.unlike r2' (by decide)) _⟩, fun a1 a3 e1 e3 e => ?_⟩, (grown_others o2.2 hg).trans (KeepsOthers.setCell _ _ _), fun g t cs hr ht hg2 => (hrow g t cs hr ht).away hg2 _, fun w0 hE hb0 hh => (hE.grown hg fun k hk => ?_).setCell hh _⟩
  · rcases hA with rfl | rfl
    · exact hd a1 a3 e1 e3 e
    · have := o1.2.lt a1 e1
      injection e3 with e3
      subst e3
      simp only at e
      omega
  · obtain ⟨a2, ha2, rfl⟩ := hown _ hk
    have := o2.2.base_le a2 ha2
    omega
end
end
section
open Go.RowKit
set_option maxRecDepth 100000 in
theorem own_empty2 (w : World) (t : TypeId) : (w.alloc (.cells #[] t)).ownsRow w.heap.size t 2 (.slice (some ⟨w.heap.size, 0, none⟩) 0 0) 0 [] :=
  ⟨rfl, .inr ⟨w.heap.size, 0, #[], rfl, Nat.le_refl _, heap_alloc_new w _, Nat.le_refl _, by unfold maxLen; omega, rfl, rfl⟩⟩
section
variable {t e sz : Nat}
set_option maxRecDepth 100000 in
theorem run_headG (ht : Tryz.prog.underlying t = some (.slice e)) (hs : ∀ W : World, (sizeOf e).run Tryz.prog W = .ok sz W) {n c k : Nat} {A : Option Addr} (h : k ≤ c) (hA : ∀ a, A = some a → a.spot = none) {z : Int} (hz : z = (k : Int)) (W : World) :
    (Instr.sliceAt t (.slice A n c) none (some (.int .i64 z)) none).run Tryz.prog W = .ok (.slice A k c) W := by
  subst hz
  have he : Tryz.prog.elem t = e := by unfold Program.elem; rw [ht]
  rw [run_sliceAt_slice W _ _ _ _ _ (by rw [ht, he]), run_slice_h W _ A n c (by rw [ht, he]) .i64 k (by omega) (by omega), he, hs]
  simp only [Result.andThen_ok]
  congr 1
  unfold sliced
  have : (if c = 0 then A else A.map fun x => x.add (0 * sz)) = A := by
    cases A with
    | none => simp
    | some a =>
      obtain ⟨b, o, sp⟩ := a
      obtain rfl : sp = none := hA _ rfl
      simp [Addr.add_lit]
  rw [this]
  simp
set_option maxRecDepth 100000 in
theorem run_fromG (ht : Tryz.prog.underlying t = some (.slice e)) (hs : ∀ W : World, (sizeOf e).run Tryz.prog W = .ok sz W) {n c k : Nat} {A : Option Addr} (hk : k ≤ n) (hc : n ≤ c) (hA : ∀ a, A = some a → a.spot = none) {z : Int} (hz : z = (k : Int)) :
    ∃ A', (∀ W : World, (Instr.sliceAt t (.slice A n c) (some (.int .i64 z)) none none).run Tryz.prog W = .ok (.slice A' (n - k) (c - k)) W) ∧ (∀ (w : World) (xs : List Value), xs.length = n * sz → Cells w A xs → Cells w A' (xs.drop (k * sz))) ∧ ∀ a, A' = some a → a.spot = none := by
  subst hz
  have he : Tryz.prog.elem t = e := by unfold Program.elem; rw [ht]
  have hrun : ∀ W : World, (Instr.sliceAt t (.slice A n c) (some (.int .i64 k)) none none).run Tryz.prog W = .ok (sliced A k n c sz) W := by
    intro W
    rw [run_sliceAt_slice W _ _ _ _ _ (by rw [ht, he]), run_slice_l W _ A n c (by rw [ht, he]) .i64 k (by omega) (by omega), he, hs]
    simp only [Result.andThen_ok]
    congr 1
  refine ⟨_, hrun, fun w xs hx hcl => ?_, fun a ha => ?_⟩
  · rcases hcl with hb | ⟨g, o, rfl, hb⟩
    · left
      rw [hb]
      simp
    · by_cases hcf : c = k
      · left
        obtain rfl : n = k := by omega
        rw [← hx]
        exact List.drop_length
      · refine .inr ⟨g, o + k * sz, by rw [if_neg hcf]; simp [Addr.add_lit], fun i v hv => ?_⟩
        rw [Nat.add_assoc]
        refine hb (k * sz + i) v ?_
        rw [List.getElem?_drop] at hv
        exact hv
  · cases A with
    | none => split at ha <;> cases ha
    | some a0 =>
      obtain ⟨b, o, sp⟩ := a0
      obtain rfl : sp = none := hA _ rfl
      split at ha
      · cases ha; rfl
      · rw [Option.map_some, Addr.add_lit] at ha
        cases ha; rfl
end
end
section
open Go.RowKit
structure Spn where
  lo : Int
  hi : Int
  but : Int
def Spn.cells (s : Spn) : Array Value := #[.int .i64 s.lo, .int .i64 s.hi, .int .i64 s.but]
def Spn.has (s : Spn) (z : Int) : Bool := inB s.lo s.hi s.but z
def spL (i : Nat) : Spn := if i = 0 then ⟨65, 90, -1⟩ else if i = 1 then ⟨192, 222, 215⟩ else if i = 2 then ⟨913, 939, 930⟩ else ⟨1040, 1071, -1⟩
def spW (i : Nat) : Spn := if i = 0 then ⟨48, 57, -1⟩ else if i = 1 then ⟨65, 90, -1⟩ else if i = 2 then ⟨97, 122, -1⟩ else if i = 3 then ⟨192, 255, 215⟩ else if i = 4 then ⟨913, 974, 930⟩ else ⟨1024, 1119, -1⟩
def LC : Array Value := #[.int .i64 65, .int .i64 90, .int .i64 (-1), .int .i64 192, .int .i64 222, .int .i64 215, .int .i64 913, .int .i64 939, .int .i64 930, .int .i64 1040, .int .i64 1071, .int .i64 (-1)]
def WC : Array Value := #[.int .i64 48, .int .i64 57, .int .i64 (-1), .int .i64 65, .int .i64 90, .int .i64 (-1), .int .i64 97, .int .i64 122, .int .i64 (-1), .int .i64 192, .int .i64 255, .int .i64 215, .int .i64 913, .int .i64 974, .int .i64 930, .int .i64 1024, .int .i64 1119, .int .i64 (-1)]
theorem four {i : Nat} (h : i < 4) : i = 0 ∨ i = 1 ∨ i = 2 ∨ i = 3 := by omega
theorem six {i : Nat} (h : i < 6) : i = 0 ∨ i = 1 ∨ i = 2 ∨ i = 3 ∨ i = 4 ∨ i = 5 := by omega
set_option maxRecDepth 100000 in
theorem run_spL {i : Nat} (hi : i < 4) (W : World) : (Instr.index 279 (.agg LC) (.int .i64 (i : Int))).run Tryz.prog W = .ok (.agg (spL i).cells) W := by
  rcases four hi with rfl | rfl | rfl | rfl
  · show _ = _
    kernel_rfl
  · show _ = _
    kernel_rfl
  · show _ = _
    kernel_rfl
  · show _ = _
    kernel_rfl
set_option maxRecDepth 100000 in
theorem run_spW {i : Nat} (hi : i < 6) (W : World) : (Instr.index 253 (.agg WC) (.int .i64 (i : Int))).run Tryz.prog W = .ok (.agg (spW i).cells) W := by
  rcases six hi with rfl | rfl | rfl | rfl | rfl | rfl
  · show _ = _
    kernel_rfl
  · show _ = _
    kernel_rfl
  · show _ = _
    kernel_rfl
  · show _ = _
    kernel_rfl
  · show _ = _
    kernel_rfl
  · show _ = _
    kernel_rfl
theorem has_iff (lo hi but : Int) (r : Nat) : (Spn.mk lo hi but).has (r : Int) = true ↔ lo ≤ r ∧ (r : Int) ≤ hi ∧ (r : Int) ≠ but := by
  unfold Spn.has inB
  simp only [Bool.and_eq_true, decide_eq_true_eq, bne_iff_ne, and_assoc]
theorem has_not (lo hi but : Int) (r : Nat) : (Spn.mk lo hi but).has (r : Int) = false ↔ ¬ (lo ≤ r ∧ (r : Int) ≤ hi ∧ (r : Int) ≠ but) := by
  rw [← has_iff, Bool.not_eq_true]
theorem lowerR_yes {r i : Nat} (hi : i < 4) (h : (spL i).has (r : Int) = true) : lowerR r = r + 32 := by
  unfold lowerR
  rcases four hi with rfl | rfl | rfl | rfl
  all_goals
    have h := (has_iff _ _ _ r).1 h
    rw [if_pos (by omega)]
theorem lowerR_no {r : Nat} (h : ∀ i, i < 4 → (spL i).has (r : Int) = false) : lowerR r = if inB 1024 1039 (-1) (r : Int) = true then r + 80 else r := by
  have h0 := (has_not 65 90 (-1) r).1 (h 0 (by omega))
  have h1 := (has_not 192 222 215 r).1 (h 1 (by omega))
  have h2 := (has_not 913 939 930 r).1 (h 2 (by omega))
  have h3 := (has_not 1040 1071 (-1) r).1 (h 3 (by omega))
  have h4 := has_iff 1024 1039 (-1) r
  unfold Spn.has at h4
  unfold lowerR
  rw [if_neg (by omega)]
  by_cases h5 : 1024 ≤ r ∧ r ≤ 1039
  · rw [if_pos h5, if_pos (h4.2 (by omega))]
  · rw [if_neg h5, if_neg (fun h => h5 (by have := h4.1 h; omega))]
theorem wordR_yes {r i : Nat} (hi : i < 6) (h : (spW i).has (r : Int) = true) : wordR r = ((r : Int) != 247) := by
  have e : ((r : Int) != 247) = decide (r ≠ 247) := by
    rw [Bool.eq_iff_iff]
    simp only [bne_iff_ne, decide_eq_true_eq]
    omega
  unfold wordR
  rw [e, decide_eq_decide]
  rcases six hi with rfl | rfl | rfl | rfl | rfl | rfl
  all_goals
    have h := (has_iff _ _ _ r).1 h
    omega
theorem wordR_no {r : Nat} (h : ∀ i, i < 6 → (spW i).has (r : Int) = false) : wordR r = false := by
  have h0 := (has_not 48 57 (-1) r).1 (h 0 (by omega))
  have h1 := (has_not 65 90 (-1) r).1 (h 1 (by omega))
  have h2 := (has_not 97 122 (-1) r).1 (h 2 (by omega))
  have h3 := (has_not 192 255 215 r).1 (h 3 (by omega))
  have h4 := (has_not 913 974 930 r).1 (h 4 (by omega))
  have h5 := (has_not 1024 1119 (-1) r).1 (h 5 (by omega))
  unfold wordR
  rw [decide_eq_false_iff_not]
  omega
end
section
open Go.RowKit
set_option maxRecDepth 100000 in
set_option maxHeartbeats 1000000 in
theorem lower_any (r : Nat) (w : World) (hr : r ≤ 1114111) : Calls Tryz.prog 194 #[.int .i64 (r : Int)] w fun e w' => e = .returned (.int .i64 (lowerR r : Int)) ∧ Ext w w' := by
  have hsp := fun i (h : i < 4) W => run_spL h W
  unfold LC Spn.cells at hsp
  replace hsp := hide hsp
  have hr0 := Row.new w 279 LC
  unfold LC at hr0
  replace hr0 := hide hr0
  have hyes := hide (fun i (h : i < 4) hh => lowerR_yes (r := r) h hh)
  have hnon := hide (fun h => lowerR_no (r := r) h)
  obtain ⟨z, hz⟩ : ∃ z : Int, z = (r : Int) := ⟨_, rfl⟩
  have hin := hide (fun lo hi but W => in_any lo hi but z W)
  obtain ⟨y, hy⟩ : ∃ y, y = lowerR r := ⟨_, rfl⟩
  rw [← hz] at hyes hnon ⊢
  rw [← hy] at hyes hnon ⊢
  have g0 : 0 ≤ z := by omega
  have g1 : z ≤ 1114111 := by omega
  replace hz := hide hz
  replace hy := hide hy
  replace hr := hide hr
  go_enter Tryz.func194, Tryz.ntmps194
  go_wp2_with (refine wpList_load_row rfl 279 (.tmp 3) rfl w.heap.size rfl 279 _ (0, 0) _ hr0.out Tryz.underlying279 rfl (by kernel_rfl) ?_)
  go_loopw [12] (fun s12 wr => ∃ i : Nat, s12 = .int .i64 (i : Int) ∧ i ≤ 4 ∧ Hid (Ext w wr) ∧ Hid (∀ j, j < i → (spL j).has z = false)) (fun s12 _ => 4 - (intOf s12).toNat)
  case atStart => exact ⟨0, rfl, by omega, hide ((Ext.refl w).alloc _), hide (fun j hj => absurd hj (by omega))⟩
  case round =>
    obtain ⟨i, rfl, hi4, hE, hno⟩ := hrel
    by_cases hi : i < 4
    · have hx := hsp.out i hi
      obtain ⟨f, hf⟩ : ∃ f, f = spL i := ⟨_, rfl⟩
      rw [← hf] at hx
      have hca := hide (fun W => hin.out f.lo f.hi f.but W)
      obtain ⟨b, hb⟩ : ∃ b, b = f.has z := ⟨_, rfl⟩
      have hb2 := hb
      unfold Spn.has at hb2
      rw [← hb2] at hca
      rw [hf] at hb
      obtain ⟨lo, hi', but⟩ := f
      replace hb := hide hb
      replace hf := hide hf
      clear hb2
      simp only at hx hca
      cases b with
      | true =>
        have hy2 := hyes.out i hi hb.out.symm
        have hy3 : z + 32 = (y : Int) := by rw [hy2]; have := hz.out; omega
        replace hy2 := hide hy2
        go_wp2_with fail
        refine (hca.out _).mono ?_
        rintro e w2 ⟨rfl, hE2⟩
        go_wp2_with fail
        go_ret
        exact ⟨rfl, (hE.out.alloc _).trans hE2⟩
      | false =>
        go_wp2_with fail
        refine (hca.out _).mono ?_
        rintro e w2 ⟨rfl, hE2⟩
        go_wp2_with fail
        refine ⟨⟨i + 1, rfl, by omega, hide ((hE.out.alloc _).trans hE2), hide (fun j hj => ?_)⟩, by simp only [intOf]; omega⟩
        by_cases h : j < i
        · exact hno.out j h
        · obtain rfl : j = i := by omega
          exact hb.out.symm
    · obtain rfl : i = 4 := by omega
      have hn := hnon.out hno.out
      have hca := hide (fun W => hin.out 1024 1039 (-1) W)
      obtain ⟨b, hb⟩ : ∃ b, b = inB 1024 1039 (-1) z := ⟨_, rfl⟩
      rw [← hb] at hca hn
      replace hb := hide hb
      cases b with
      | true =>
        have hy3 : z + 80 = (y : Int) := by rw [hn, if_pos rfl]; have := hz.out; omega
        replace hn := hide hn
        go_wp2_with fail
        refine (hca.out _).mono ?_
        rintro e w2 ⟨rfl, hE2⟩
        go_wp2_with fail
        go_ret
        exact ⟨rfl, hE.out.trans hE2⟩
      | false =>
        have hy3 : z = (y : Int) := by rw [hn, if_neg (by simp)]; exact hz.out
        replace hy3 := hide hy3
        replace hn := hide hn
        go_wp2_with fail
        refine (hca.out _).mono ?_
        rintro e w2 ⟨rfl, hE2⟩
        go_wp2_with fail
        go_ret
        exact ⟨by rw [hy3.out]; rfl, hE.out.trans hE2⟩
set_option maxRecDepth 100000 in
set_option maxHeartbeats 1000000 in
theorem isword_any (r : Nat) (w : World) (hr : r ≤ 1114191) : Calls Tryz.prog 177 #[.int .i64 (r : Int)] w fun e w' => e = .returned (.bool (wordR r)) ∧ Ext w w' := by
  have hsp := fun i (h : i < 6) W => run_spW h W
  unfold WC Spn.cells at hsp
  replace hsp := hide hsp
  have hr0 := Row.new w 253 WC
  unfold WC at hr0
  replace hr0 := hide hr0
  have hyes := hide (fun i (h : i < 6) hh => wordR_yes (r := r) h hh)
  have hnon := hide (fun h => wordR_no (r := r) h)
  obtain ⟨z, hz⟩ : ∃ z : Int, z = (r : Int) := ⟨_, rfl⟩
  have hin := hide (fun lo hi but W => in_any lo hi but z W)
  obtain ⟨y, hy⟩ : ∃ y, y = wordR r := ⟨_, rfl⟩
  rw [← hz] at hyes hnon ⊢
  rw [← hy] at hyes hnon ⊢
  have g0 : 0 ≤ z := by omega
  have g1 : z ≤ 1114191 := by omega
  replace hz := hide hz
  replace hy := hide hy
  replace hr := hide hr
  go_enter Tryz.func177, Tryz.ntmps177
  go_wp2_with (refine wpList_load_row rfl 253 (.tmp 3) rfl w.heap.size rfl 253 _ (0, 0) _ hr0.out Tryz.underlying253 rfl (by kernel_rfl) ?_)
  go_loopw [14] (fun s14 wr => ∃ i : Nat, s14 = .int .i64 (i : Int) ∧ i ≤ 6 ∧ Hid (Ext w wr) ∧ Hid (∀ j, j < i → (spW j).has z = false)) (fun s14 _ => 6 - (intOf s14).toNat)
  case atStart => exact ⟨0, rfl, by omega, hide ((Ext.refl w).alloc _), hide (fun j hj => absurd hj (by omega))⟩
  case round =>
    obtain ⟨i, rfl, hi4, hE, hno⟩ := hrel
    by_cases hi : i < 6
    · have hx := hsp.out i hi
      obtain ⟨f, hf⟩ : ∃ f, f = spW i := ⟨_, rfl⟩
      rw [← hf] at hx
      have hca := hide (fun W => hin.out f.lo f.hi f.but W)
      obtain ⟨b, hb⟩ : ∃ b, b = f.has z := ⟨_, rfl⟩
      have hb2 := hb
      unfold Spn.has at hb2
      rw [← hb2] at hca
      rw [hf] at hb
      obtain ⟨lo, hi', but⟩ := f
      replace hb := hide hb
      replace hf := hide hf
      clear hb2
      simp only at hx hca
      cases b with
      | true =>
        have hy2 := hyes.out i hi hb.out.symm
        replace hy2 := hide hy2
        go_wp2_with fail
        refine (hca.out _).mono ?_
        rintro e w2 ⟨rfl, hE2⟩
        go_wp2_with fail
        go_ret
        exact ⟨by rw [hy2.out]; rfl, (hE.out.alloc _).trans hE2⟩
      | false =>
        go_wp2_with fail
        refine (hca.out _).mono ?_
        rintro e w2 ⟨rfl, hE2⟩
        go_wp2_with fail
        refine ⟨⟨i + 1, rfl, by omega, hide ((hE.out.alloc _).trans hE2), hide (fun j hj => ?_)⟩, by simp only [intOf]; omega⟩
        by_cases h : j < i
        · exact hno.out j h
        · obtain rfl : j = i := by omega
          exact hb.out.symm
    · obtain rfl : i = 6 := by omega
      have hn := hnon.out hno.out
      replace hn := hide hn
      go_wp2_with fail
      go_ret
      exact ⟨by rw [hn.out]; rfl, hE.out⟩
end
section
open Go.RowKit
theorem and63i (x : Nat) (hx : x < 4611686018427387904) : bits .and .i64 (x : Int) 63 = ((x % 64 : Nat) : Int) := by
  have h1 : (BitVec.ofInt 64 (x : Int)).toNat = x := by
    rw [BitVec.ofInt_natCast, BitVec.toNat_ofNat]; exact Nat.mod_eq_of_lt (by omega)
  have h2 : (BitVec.ofInt 64 63).toNat = 63 := by decide
  show IntKind.i64.wrap ((BitVec.ofInt 64 (x : Int) &&& BitVec.ofInt 64 63).toNat : Int) = _
  rw [BitVec.toNat_and, h1, h2, show x &&& 63 = x % 64 from Nat.and_two_pow_sub_one_eq_mod x 6, IntKind.wrap_i64]
  omega
theorem or128 (y : Nat) (hy : y < 64) : bits .or .u8 128 ((y : Int) % 256) = ((128 + y : Nat) : Int) := by
  have h : ∀ k : Fin 64, bits .or .u8 128 (((k.val : Nat) : Int) % 256) = ((128 + k.val : Nat) : Int) := by decide +kernel
  exact h ⟨y, hy⟩
theorem tail_b (x : Nat) (hx : x < 4611686018427387904) : bits .or .u8 128 (bits .and .i64 (x : Int) 63 % 256) = ((128 + x % 64 : Nat) : Int) := by
  rw [and63i x hx, or128 _ (Nat.mod_lt _ (by omega))]
theorem B8_u8 {k : Nat} (h : k < 256) : B8 (u8 k) = .int .u8 (k : Int) := by
  unfold B8 u8
  rw [UInt8.toNat_ofNat', Nat.mod_eq_of_lt h]
def PutB (w : World) (base : Nat) (l : List UInt8) (e : Ending) (w' : World) : Prop := ∃ A c, e = .returned (.slice A l.length c) ∧ Buf w' base 5 A l.length c (l.map B8) ∧ (∀ w00, Ext w00 w → w00.heap.size ≤ base → Ext w00 w')
theorem putB_of {w w' : World} {base n : Nat} {L l : List UInt8} {us : List Value} {A : Option Addr} {c : Nat} (hn : n = L.length) (hu : us = l.map B8) (hb : Buf w' base 5 A (n + us.length) c (L.map B8 ++ us)) (hE : ∀ w00, Ext w00 w → w00.heap.size ≤ base → Ext w00 w') : PutB w base (L ++ l) (.returned (.slice A (n + us.length) c)) w' := by
  subst hu
  rw [← List.map_append, List.length_map, hn, ← List.length_append] at hb
  exact ⟨A, c, by rw [List.length_map, hn, List.length_append], hb, hE⟩
set_option maxRecDepth 100000 in
set_option maxHeartbeats 1000000 in
theorem put1_any (L : List UInt8) (A : Option Addr) (c base r : Nat) (w : World) (hb : Buf w base 5 A L.length c (L.map B8)) (hL : L.length ≤ 4000000000) (hbs : base ≤ w.heap.size) (hb0 : badR r = false) (h1 : r < 128) :
    Calls Tryz.prog 216 #[.slice A L.length c, .int .i64 (r : Int)] w (PutB w base (L ++ encR r)) := by
  have hhf := hide (fun W => half_any (r : Int) W)
  obtain ⟨n, hn⟩ : ∃ n, n = L.length := ⟨_, rfl⟩
  rw [← hn] at hb hL ⊢
  have hv : (decide (55296 ≤ (r : Int)) && decide ((r : Int) ≤ 57343)) = false := by
    unfold badR at hb0
    simp only [Bool.or_eq_false_iff, Bool.and_eq_false_iff, decide_eq_false_iff_not] at hb0 ⊢
    omega
  have hhi : r ≤ 1114111 := by
    unfold badR at hb0
    simp only [Bool.or_eq_false_iff, decide_eq_false_iff_not] at hb0
    omega
  rw [hv] at hhf
  have henc : encR r = [u8 r] := by unfold encR encO; rw [hb0, if_neg (by simp), if_pos h1]
  rw [henc]
  obtain ⟨z, hz⟩ : ∃ z : Int, z = (r : Int) := ⟨_, rfl⟩
  rw [← hz] at hhf ⊢
  have g0 : 0 ≤ z := by omega
  have gh : z ≤ 1114111 := by omega
  have g1 : z < 128 := by omega
  replace h1 := hide h1
  replace hhi := hide hhi
  replace hz := hide hz
  obtain ⟨l, hl⟩ : ∃ l, l = [u8 r] := ⟨_, rfl⟩
  rw [← hl]
  replace hl := hide hl
  replace hn := hide hn
  replace hb := hide hb
  replace henc := hide henc
  replace hb0 := hide hb0
  replace hv := hide hv
  go_enter Tryz.func216, Tryz.ntmps216
  go_wp2_with fail
  refine (hhf.out _).mono ?_
  rintro e w2 ⟨rfl, rfl⟩
  go_wp2_with (at_builtin; refine wpList_bufN elemB hb.out (.tmp 39) (.tmp 42) rfl rfl rfl rfl (one_of rfl) (by simp; omega) hbs (fun A3 c3 w4 hb4 hE4 => ?_))
  go_ret
  exact putB_of hn.out (by rw [hl.out, hz.out]; simp only [List.map_cons, List.map_nil, B8_u8 (show r < 256 by have := h1.out; omega), Int.natCast_add, Int.natCast_ediv]; try rfl) hb4 hE4
set_option maxRecDepth 100000 in
set_option maxHeartbeats 1000000 in
theorem put2_any (L : List UInt8) (A : Option Addr) (c base r : Nat) (w : World) (hb : Buf w base 5 A L.length c (L.map B8)) (hL : L.length ≤ 4000000000) (hbs : base ≤ w.heap.size) (hb0 : badR r = false) (h1 : ¬ r < 128) (h2 : r < 2048) :
    Calls Tryz.prog 216 #[.slice A L.length c, .int .i64 (r : Int)] w (PutB w base (L ++ encR r)) := by
  have hhf := hide (fun W => half_any (r : Int) W)
  obtain ⟨n, hn⟩ : ∃ n, n = L.length := ⟨_, rfl⟩
  rw [← hn] at hb hL ⊢
  have hv : (decide (55296 ≤ (r : Int)) && decide ((r : Int) ≤ 57343)) = false := by
    unfold badR at hb0
    simp only [Bool.or_eq_false_iff, Bool.and_eq_false_iff, decide_eq_false_iff_not] at hb0 ⊢
    omega
  have hhi : r ≤ 1114111 := by
    unfold badR at hb0
    simp only [Bool.or_eq_false_iff, decide_eq_false_iff_not] at hb0
    omega
  rw [hv] at hhf
  have henc : encR r = [u8 (192 + r / 64), u8 (128 + r % 64)] := by unfold encR encO; rw [hb0, if_neg (by simp), if_neg h1, if_pos h2]
  rw [henc]
  have hy0 := tail_b (r) (by omega)
  obtain ⟨y0, hz0⟩ : ∃ y, y = 128 + r % 64 := ⟨_, rfl⟩
  rw [← hz0] at hy0 ⊢
  replace hz0 := hide hz0
  obtain ⟨z, hz⟩ : ∃ z : Int, z = (r : Int) := ⟨_, rfl⟩
  rw [← hz] at hhf hy0 ⊢
  have g0 : 0 ≤ z := by omega
  have gh : z ≤ 1114111 := by omega
  have g1 : ¬ z < 128 := by omega
  have g2 : z < 2048 := by omega
  replace h1 := hide h1
  replace h2 := hide h2
  replace hhi := hide hhi
  replace hz := hide hz
  obtain ⟨l, hl⟩ : ∃ l, l = [u8 (192 + r / 64), u8 (y0)] := ⟨_, rfl⟩
  rw [← hl]
  replace hl := hide hl
  replace hn := hide hn
  replace hb := hide hb
  replace henc := hide henc
  replace hb0 := hide hb0
  replace hv := hide hv
  go_enter Tryz.func216, Tryz.ntmps216
  go_wp2_with fail
  refine (hhf.out _).mono ?_
  rintro e w2 ⟨rfl, rfl⟩
  go_wp2_with (at_builtin; refine wpList_bufN elemB hb.out (.tmp 47) (.tmp 56) rfl rfl rfl rfl (one_of rfl) (by simp; omega) hbs (fun A3 c3 w4 hb4 hE4 => ?_))
  go_ret
  exact putB_of hn.out (by rw [hl.out, hz.out]; simp only [List.map_cons, List.map_nil, B8_u8 (show 192 + r / 64 < 256 by have := h2.out; omega), B8_u8 (show y0 < 256 by have := hz0.out; omega), Int.natCast_add, Int.natCast_ediv]; try rfl) hb4 hE4
set_option maxRecDepth 100000 in
set_option maxHeartbeats 1000000 in
theorem put3_any (L : List UInt8) (A : Option Addr) (c base r : Nat) (w : World) (hb : Buf w base 5 A L.length c (L.map B8)) (hL : L.length ≤ 4000000000) (hbs : base ≤ w.heap.size) (hb0 : badR r = false) (h1 : ¬ r < 128) (h2 : ¬ r < 2048) (h3 : r < 65536) :
    Calls Tryz.prog 216 #[.slice A L.length c, .int .i64 (r : Int)] w (PutB w base (L ++ encR r)) := by
  have hhf := hide (fun W => half_any (r : Int) W)
  obtain ⟨n, hn⟩ : ∃ n, n = L.length := ⟨_, rfl⟩
  rw [← hn] at hb hL ⊢
  have hv : (decide (55296 ≤ (r : Int)) && decide ((r : Int) ≤ 57343)) = false := by
    unfold badR at hb0
    simp only [Bool.or_eq_false_iff, Bool.and_eq_false_iff, decide_eq_false_iff_not] at hb0 ⊢
    omega
  have hhi : r ≤ 1114111 := by
    unfold badR at hb0
    simp only [Bool.or_eq_false_iff, decide_eq_false_iff_not] at hb0
    omega
  rw [hv] at hhf
  have henc : encR r = [u8 (224 + r / 4096), u8 (128 + r / 64 % 64), u8 (128 + r % 64)] := by unfold encR encO; rw [hb0, if_neg (by simp), if_neg h1, if_neg h2, if_pos h3]
  rw [henc]
  have hy0 := tail_b (r) (by omega)
  obtain ⟨y0, hz0⟩ : ∃ y, y = 128 + r % 64 := ⟨_, rfl⟩
  rw [← hz0] at hy0 ⊢
  replace hz0 := hide hz0
  have hy1 := tail_b (r / 64) (by omega)
  obtain ⟨y1, hz1⟩ : ∃ y, y = 128 + r / 64 % 64 := ⟨_, rfl⟩
  rw [← hz1] at hy1 ⊢
  rw [show ((r / 64 : Nat) : Int) = (r : Int) / 64 by omega] at hy1
  replace hz1 := hide hz1
  obtain ⟨z, hz⟩ : ∃ z : Int, z = (r : Int) := ⟨_, rfl⟩
  rw [← hz] at hhf hy0 hy1 ⊢
  have g0 : 0 ≤ z := by omega
  have gh : z ≤ 1114111 := by omega
  have g1 : ¬ z < 128 := by omega
  have g2 : ¬ z < 2048 := by omega
  have g3 : z < 65536 := by omega
  replace h1 := hide h1
  replace h2 := hide h2
  replace h3 := hide h3
  replace hhi := hide hhi
  replace hz := hide hz
  obtain ⟨l, hl⟩ : ∃ l, l = [u8 (224 + r / 4096), u8 (y1), u8 (y0)] := ⟨_, rfl⟩
  rw [← hl]
  replace hl := hide hl
  replace hn := hide hn
  replace hb := hide hb
  replace henc := hide henc
  replace hb0 := hide hb0
  replace hv := hide hv
  go_enter Tryz.func216, Tryz.ntmps216
  go_wp2_with fail
  refine (hhf.out _).mono ?_
  rintro e w2 ⟨rfl, rfl⟩
  go_wp2_with (at_builtin; refine wpList_bufN elemB hb.out (.tmp 61) (.tmp 75) rfl rfl rfl rfl (one_of rfl) (by simp; omega) hbs (fun A3 c3 w4 hb4 hE4 => ?_))
  go_ret
  exact putB_of hn.out (by rw [hl.out, hz.out]; simp only [List.map_cons, List.map_nil, B8_u8 (show 224 + r / 4096 < 256 by have := h3.out; omega), B8_u8 (show y0 < 256 by have := hz0.out; omega), B8_u8 (show y1 < 256 by have := hz1.out; omega), Int.natCast_add, Int.natCast_ediv]; try rfl) hb4 hE4
set_option maxRecDepth 100000 in
set_option maxHeartbeats 1000000 in
theorem put4_any (L : List UInt8) (A : Option Addr) (c base r : Nat) (w : World) (hb : Buf w base 5 A L.length c (L.map B8)) (hL : L.length ≤ 4000000000) (hbs : base ≤ w.heap.size) (hb0 : badR r = false) (h1 : ¬ r < 128) (h2 : ¬ r < 2048) (h3 : ¬ r < 65536) :
    Calls Tryz.prog 216 #[.slice A L.length c, .int .i64 (r : Int)] w (PutB w base (L ++ encR r)) := by
  have hhf := hide (fun W => half_any (r : Int) W)
  obtain ⟨n, hn⟩ : ∃ n, n = L.length := ⟨_, rfl⟩
  rw [← hn] at hb hL ⊢
  have hv : (decide (55296 ≤ (r : Int)) && decide ((r : Int) ≤ 57343)) = false := by
    unfold badR at hb0
    simp only [Bool.or_eq_false_iff, Bool.and_eq_false_iff, decide_eq_false_iff_not] at hb0 ⊢
    omega
  have hhi : r ≤ 1114111 := by
    unfold badR at hb0
    simp only [Bool.or_eq_false_iff, decide_eq_false_iff_not] at hb0
    omega
  rw [hv] at hhf
  have henc : encR r = [u8 (240 + r / 262144), u8 (128 + r / 4096 % 64), u8 (128 + r / 64 % 64), u8 (128 + r % 64)] := by unfold encR encO; rw [hb0, if_neg (by simp), if_neg h1, if_neg h2, if_neg h3]
  rw [henc]
  have hy0 := tail_b (r) (by omega)
  obtain ⟨y0, hz0⟩ : ∃ y, y = 128 + r % 64 := ⟨_, rfl⟩
  rw [← hz0] at hy0 ⊢
  replace hz0 := hide hz0
  have hy1 := tail_b (r / 64) (by omega)
  obtain ⟨y1, hz1⟩ : ∃ y, y = 128 + r / 64 % 64 := ⟨_, rfl⟩
  rw [← hz1] at hy1 ⊢
  rw [show ((r / 64 : Nat) : Int) = (r : Int) / 64 by omega] at hy1
  replace hz1 := hide hz1
  have hy2 := tail_b (r / 4096) (by omega)
  obtain ⟨y2, hz2⟩ : ∃ y, y = 128 + r / 4096 % 64 := ⟨_, rfl⟩
  rw [← hz2] at hy2 ⊢
  rw [show ((r / 4096 : Nat) : Int) = (r : Int) / 4096 by omega] at hy2
  replace hz2 := hide hz2
  obtain ⟨z, hz⟩ : ∃ z : Int, z = (r : Int) := ⟨_, rfl⟩
  rw [← hz] at hhf hy0 hy1 hy2 ⊢
  have g0 : 0 ≤ z := by omega
  have gh : z ≤ 1114111 := by omega
  have g1 : ¬ z < 128 := by omega
  have g2 : ¬ z < 2048 := by omega
  have g3 : ¬ z < 65536 := by omega
  replace h1 := hide h1
  replace h2 := hide h2
  replace h3 := hide h3
  replace hhi := hide hhi
  replace hz := hide hz
  obtain ⟨l, hl⟩ : ∃ l, l = [u8 (240 + r / 262144), u8 (y2), u8 (y1), u8 (y0)] := ⟨_, rfl⟩
  rw [← hl]
  replace hl := hide hl
  replace hn := hide hn
  replace hb := hide hb
  replace henc := hide henc
  replace hb0 := hide hb0
  replace hv := hide hv
  go_enter Tryz.func216, Tryz.ntmps216
  go_wp2_with fail
  refine (hhf.out _).mono ?_
  rintro e w2 ⟨rfl, rfl⟩
  go_wp2_with (at_builtin; refine wpList_bufN elemB hb.out (.tmp 15) (.tmp 34) rfl rfl rfl rfl (one_of rfl) (by simp; omega) hbs (fun A3 c3 w4 hb4 hE4 => ?_))
  go_ret
  exact putB_of hn.out (by rw [hl.out, hz.out]; simp only [List.map_cons, List.map_nil, B8_u8 (show 240 + r / 262144 < 256 by have := hhi.out; omega), B8_u8 (show y0 < 256 by have := hz0.out; omega), B8_u8 (show y1 < 256 by have := hz1.out; omega), B8_u8 (show y2 < 256 by have := hz2.out; omega), Int.natCast_add, Int.natCast_ediv]; try rfl) hb4 hE4
end
section
open Go.RowKit
set_option maxRecDepth 100000 in
set_option maxHeartbeats 1000000 in
theorem put0_any (L : List UInt8) (A : Option Addr) (c base r : Nat) (w : World) (hb : Buf w base 5 A L.length c (L.map B8)) (hL : L.length ≤ 4000000000) (hbs : base ≤ w.heap.size) (hb0 : badR r = true) (hr : r ≤ 1200000) :
    Calls Tryz.prog 216 #[.slice A L.length c, .int .i64 (r : Int)] w (PutB w base (L ++ encR r)) := by
  have hhf := hide (fun W => half_any (r : Int) W)
  obtain ⟨n, hn⟩ : ∃ n, n = L.length := ⟨_, rfl⟩
  rw [← hn] at hb hL ⊢
  have henc : encR r = [u8 239, u8 191, u8 189] := by unfold encR; rw [hb0, if_pos rfl]; rfl
  rw [henc]
  have hq : 1114111 < r ∨ (55296 ≤ r ∧ r ≤ 57343) := by
    unfold badR at hb0
    simpa using hb0
  obtain ⟨z, hz⟩ : ∃ z : Int, z = (r : Int) := ⟨_, rfl⟩
  rw [← hz] at hhf ⊢
  have g0 : 0 ≤ z := by omega
  obtain ⟨l, hl⟩ : ∃ l, l = [u8 239, u8 191, u8 189] := ⟨_, rfl⟩
  rw [← hl]
  have hlm : [Value.int .u8 239, .int .u8 191, .int .u8 189] = l.map B8 := by rw [hl]; rfl
  replace hlm := hide hlm
  replace hl := hide hl
  replace hn := hide hn
  replace hb := hide hb
  replace henc := hide henc
  replace hb0 := hide hb0
  rcases hq with hq | hq
  · have g1 : ¬ z ≤ 1114111 := by omega
    replace hq := hide hq
    replace hz := hide hz
    replace hr := hide hr
    go_enter Tryz.func216, Tryz.ntmps216
    go_wp2_with (at_builtin; refine wpList_bufN elemB hb.out (.tmp 61) (.tmp 75) rfl rfl rfl rfl (one_of rfl) (by simp; omega) hbs (fun A3 c3 w4 hb4 hE4 => ?_))
    go_ret
    exact putB_of hn.out hlm.out hb4 hE4
  · have g1 : z ≤ 1114111 := by omega
    have hv : (decide (55296 ≤ z) && decide (z ≤ 57343)) = true := by simp; omega
    rw [hv] at hhf
    replace hv := hide hv
    replace hq := hide hq
    replace hz := hide hz
    replace hr := hide hr
    go_enter Tryz.func216, Tryz.ntmps216
    go_wp2_with fail
    refine (hhf.out _).mono ?_
    rintro e w2 ⟨rfl, rfl⟩
    go_wp2_with (at_builtin; refine wpList_bufN elemB hb.out (.tmp 61) (.tmp 75) rfl rfl rfl rfl (one_of rfl) (by simp; omega) hbs (fun A3 c3 w4 hb4 hE4 => ?_))
    go_ret
    exact putB_of hn.out hlm.out hb4 hE4
theorem uput_any (L : List UInt8) (A : Option Addr) (c base r : Nat) (w : World) (hb : Buf w base 5 A L.length c (L.map B8)) (hL : L.length ≤ 4000000000) (hbs : base ≤ w.heap.size) (hr : r ≤ 1200000) :
    Calls Tryz.prog 216 #[.slice A L.length c, .int .i64 (r : Int)] w (PutB w base (L ++ encR r)) := by
  cases hb0 : badR r with
  | true => exact put0_any L A c base r w hb hL hbs hb0 hr
  | false =>
    by_cases h1 : r < 128
    · exact put1_any L A c base r w hb hL hbs hb0 h1
    · by_cases h2 : r < 2048
      · exact put2_any L A c base r w hb hL hbs hb0 h1 h2
      · by_cases h3 : r < 65536
        · exact put3_any L A c base r w hb hL hbs hb0 h1 h2 h3
        · exact put4_any L A c base r w hb hL hbs hb0 h1 h2 h3
end
section
open Go.RowKit
def encL (rs : List Nat) : List UInt8 := rs.flatMap encR
theorem encL_snoc (rs : List Nat) (r : Nat) : encL (rs ++ [r]) = encL rs ++ encR r := by
  unfold encL
  rw [List.flatMap_append]
  simp
set_option maxRecDepth 100000 in
set_option maxHeartbeats 1000000 in
theorem encode_any (rs : List Nat) (A : Option Addr) (n c : Nat) (w : World) (hn : n = rs.length) (hc : Cells w A (rs.map NV)) (hr : ∀ r ∈ rs, r ≤ 1200000) (hle : n ≤ 500000000) :
    Calls Tryz.prog 193 #[.slice A n c] w fun e w' => e = .returned (.string ⟨(encL rs).toArray⟩) ∧ Ext w w' := by
  have hput := hide (fun L A c base r W hb hL hbs hr => uput_any L A c base r W hb hL hbs hr)
  replace hr := hide hr
  replace hc := hide hc
  replace hn := hide hn
  go_enter Tryz.func193, Tryz.ntmps193
  go_wp2_with fail
  go_loopw [3, 8] (fun s3 s8 wr => ∃ (i n1 c1 : Nat) (A1 : Option Addr), s3 = .slice A1 n1 c1 ∧ s8 = .int .i64 (i : Int) ∧ i ≤ n ∧ Hid (n1 = (encL (rs.take i)).length ∧ n1 ≤ 4 * i) ∧ Hid (Buf wr w.heap.size 5 A1 n1 c1 ((encL (rs.take i)).map B8)) ∧ Hid (Ext w wr)) (fun _ s8 _ => n - (intOf s8).toNat)
  case atStart => exact ⟨0, 0, 0, none, rfl, rfl, by omega, hide ⟨rfl, by omega⟩, hide (Buf.nil _ _ _), hide (Ext.refl w)⟩
  case round =>
    obtain ⟨i, n1, c1, A1, rfl, rfl, hi, hn1, hb, hE⟩ := hrel
    by_cases h : i < n
    · obtain ⟨r, hri⟩ : ∃ r, rs[i]? = some r := ⟨_, List.getElem?_eq_getElem (by rw [← hn.out]; exact h)⟩
      obtain ⟨g, o, hA, hcl⟩ := hc.out.at_ (by rw [List.length_map, ← hn.out]; omega)
      subst hA
      have hld := hE.out.cell (hcl i (NV r) (by rw [List.getElem?_map, hri]; rfl))
      unfold NV at hld
      have hrr := hr.out r (List.mem_of_getElem? hri)
      have hp := hput.out (encL (rs.take i)) A1 c1 w.heap.size r wr (by rw [← hn1.out.1]; exact hb.out) (by have := hn1.out; omega) hE.out.size hrr
      rw [← hn1.out.1] at hp
      have hts : rs.take (i + 1) = rs.take i ++ [r] := by rw [List.take_add_one, hri]; rfl
      rw [← encL_snoc, ← hts] at hp
      have hr4 := (encR_len r).2
      replace hp := hide hp
      replace hcl := hide hcl
      replace hri := hide hri
      replace hts := hide hts
      replace hrr := hide hrr
      replace hr4 := hide hr4
      go_wp2_with fail
      refine hp.out.mono ?_
      rintro e w2 ⟨A2, c2, rfl, hb2, hE2⟩
      have hl2 : (encL (rs.take (i + 1))).length ≤ 4 * (i + 1) := by
        rw [hts.out, encL_snoc, List.length_append]
        have := hn1.out
        have := hr4.out
        omega
      replace hb2 := hide hb2
      replace hE2 := hide (hE2 w hE.out (Nat.le_refl _))
      replace hl2 := hide hl2
      go_wp2_with fail
      exact ⟨⟨i + 1, _, c2, A2, rfl, rfl, by omega, hide ⟨rfl, hl2.out⟩, hb2, hE2⟩, by simp only [intOf]; omega⟩
    · obtain rfl : i = n := by omega
      have hT : rs.take i = rs := List.take_of_length_le (by rw [hn.out]; exact Nat.le_refl _)
      rw [hT] at hb hn1
      have hst := run_str (Buf.cells hb.out) n1 c1 hn1.out.1
      replace hn1 := hide hn1.out.1
      go_wp2_with fail
      go_ret
      exact ⟨rfl, hE.out⟩
end
end Go.Proofs.YtkdcnhnaiknaaaaGreat
namespace Go.Proofs
open Go.Shelf
def Tryz.bren166 : Go.Shelf.Ren := ⟨fun | 166 => 196 | 240 => 217 | 276 => 225 | n => n, fun | 0 => 0 | 3 => 3 | 4 => 4 | 9 => 9 | 20 => 20 | 37 => 25 | 70 => 254 | 72 => 256 | 75 => 259 | 80 => 229 | 164 => 287 | n => n, fun | n => n⟩
theorem Tryz.blays166 : Go.Proofs.Lays.n166 Tryz.prog Tryz.bren166 := {
  mixed := by kernel_rfl
  f166 := Tryz.func196.trans (congrArg some (by kernel_rfl))
  f240 := Tryz.func217.trans (congrArg some (by kernel_rfl))
  f276 := Tryz.func225.trans (congrArg some (by kernel_rfl))
  t0 := Tryz.underlying0
  a0 := Tryz.isAgg0
  z0 := Tryz.sizeOf0
  v0 := Tryz.zeroValue0
  t3 := Tryz.underlying3
  a3 := Tryz.isAgg3
  z3 := Tryz.sizeOf3
  v3 := Tryz.zeroValue3
  t4 := Tryz.underlying4
  a4 := Tryz.isAgg4
  z4 := Tryz.sizeOf4
  v4 := Tryz.zeroValue4
  t9 := Tryz.underlying9
  a9 := Tryz.isAgg9
  z9 := Tryz.sizeOf9
  v9 := Tryz.zeroValue9
  t20 := Tryz.underlying20
  a20 := Tryz.isAgg20
  z20 := Tryz.sizeOf20
  v20 := Tryz.zeroValue20
  t37 := Tryz.underlying25
  a37 := Tryz.isAgg25
  z37 := Tryz.sizeOf25
  v37 := Tryz.zeroValue25
  t70 := Tryz.underlying254
  a70 := Tryz.isAgg254
  z70 := Tryz.sizeOf254
  v70 := Tryz.zeroValue254
  t72 := Tryz.underlying256
  a72 := Tryz.isAgg256
  z72 := Tryz.sizeOf256
  v72 := Tryz.zeroValue256
  t75 := Tryz.underlying259
  a75 := Tryz.isAgg259
  z75 := Tryz.sizeOf259
  v75 := Tryz.zeroValue259
  t164 := Tryz.underlying287
  a164 := Tryz.isAgg287
  z164 := Tryz.sizeOf287
  v164 := Tryz.zeroValue287 }
theorem Tryz.bE166 : Builder.Extra Tryz.prog Tryz.bren166 := {
  sizeBuilder := by kernel_rfl
  liesBuilder := by kernel_rfl
  t5 := Tryz.underlying5
  a5 := Tryz.isAgg5
  z5 := Tryz.sizeOf5
  v5 := Tryz.zeroValue5
  infoByte := by kernel_rfl
  cellsByte := by kernel_rfl
  sizeByte := by kernel_rfl
  neB5 := by decide }
open Go.RowKit in
theorem Tryz.Builder_WriteString (B b : Nat) (bs : List Value) (s : ByteArray) (w : World) (h : Lib.IsBuilder 256 5 B b bs w) (hlen : bs.length + s.size ≤ 140737488355328) (hBw : B ≤ w.heap.size) :
    Calls Tryz.prog 196 #[.pointer (some ⟨b, 0, none⟩), .string s] w fun e w' => e = .returned (.tuple #[.int .i64 s.size, .nilIface]) ∧ (Lib.BuilderAt 256 5 B b (.pointer (some ⟨b, 0, none⟩)) (bs ++ Lib.strCells s) w' ∧ Below B w w') := Any.Builder_WriteString Tryz.blays166 Tryz.bE166 B b bs s w h hlen hBw
end Go.Proofs
namespace Go.Proofs.YtkdcnhnaiknaaaaGreat
section
open Go.RowKit
theorem strCells_of (l : List UInt8) : Lib.strCells ⟨l.toArray⟩ = l.map B8 := rfl
def Bd (w : World) (b : Nat) (l : List UInt8) : Prop := Lib.IsBuilder 256 5 b b (l.map B8) w
theorem Bd.ext {w w1 : World} {b : Nat} {l : List UInt8} (h : Bd w b l) (hE : Ext w w1) : Bd w1 b l := by
  rcases h with ⟨h1, v, h2, h3⟩ | ⟨h1, v, h2, h3⟩
  · exact .inl ⟨h1, v, hE.block h2, hE.owns h3.1, h3.2⟩
  · exact .inr ⟨h1, v, hE.block h2, hE.owns h3.1, h3.2⟩
theorem Bd.fresh (w : World) : Bd (w.alloc (.cells #[.pointer none, .slice none 0 0] 256)) w.heap.size [] := Lib.fresh_isBuilder _ _ w
theorem Bd.lt {w : World} {b : Nat} {l : List UInt8} (h : Bd w b l) : b < w.heap.size := by
  rcases h with ⟨h1, v, h2, h3⟩ | ⟨h1, v, h2, h3⟩
  · exact (Array.getElem?_eq_some_iff.1 h2).1
  · exact (Array.getElem?_eq_some_iff.1 h2).1
theorem bwrite_any (b : Nat) (l s : List UInt8) (w : World) (h : Bd w b l) (hlen : l.length + s.length ≤ 100000000) : Calls Tryz.prog 196 #[.pointer (some ⟨b, 0, none⟩), .string ⟨s.toArray⟩] w fun e w' => e = .returned (.tuple #[.int .i64 s.length, .nilIface]) ∧ Bd w' b (l ++ s) ∧ Below b w w' := by
  have hsz : (⟨s.toArray⟩ : ByteArray).size = s.length := ByteArray.size_mk_toArray s
  refine (Tryz.Builder_WriteString b b (l.map B8) ⟨s.toArray⟩ w h (by rw [hsz, List.length_map]; omega) (Nat.le_of_lt h.lt)).mono fun e w' ⟨he, hb, hE⟩ => ⟨by rw [he, hsz], .inr (by rw [strCells_of, ← List.map_append] at hb; exact hb), hE⟩
theorem bstring_any (b : Nat) (l : List UInt8) (w : World) (h : Bd w b l) : Calls Tryz.prog 197 #[.pointer (some ⟨b, 0, none⟩)] w fun e w' => e = .returned (.string ⟨l.toArray⟩) ∧ Below b w w' :=
  Tryz.Builder_String_any b b l w h (Nat.le_of_lt h.lt)
theorem blen_any (b : Nat) (l : List UInt8) (w : World) (h : Bd w b l) : Calls Tryz.prog 195 #[.pointer (some ⟨b, 0, none⟩)] w fun e w' => e = .returned (.int .i64 l.length) ∧ w' = w := by
  have := Tryz.Builder_Len b b (l.map B8) w h
  rw [List.length_map] at this
  exact this
theorem cutW_go {s : List UInt8} {r : Nat} {rs : List Nat} (h : ¬ 32 < s.length + (encR (lowerR r)).length) : cutW s (r :: rs) = cutW (s ++ encR (lowerR r)) rs := by
  rw [cutW, if_neg h]
theorem cutW_end {s : List UInt8} {r : Nat} {rs : List Nat} (h : 32 < s.length + (encR (lowerR r)).length) : cutW s (r :: rs) = s := by
  rw [cutW, if_pos h]
theorem encL_one (r : Nat) : encL [r] = encR r := by
  unfold encL
  simp
set_option maxRecDepth 100000 in
set_option maxHeartbeats 1000000 in
theorem word_any (rs : List Nat) (A : Option Addr) (n c : Nat) (w : World) (hn : n = rs.length) (hc : Cells w A (rs.map NV)) (hr : ∀ r ∈ rs, r ≤ 1114111) (hle : n ≤ 1073741824) :
    Calls Tryz.prog 178 #[.slice A n c] w fun e w' => e = .returned (.string ⟨(cutW [] rs).toArray⟩) ∧ Ext w w' := by
  obtain ⟨b, hb⟩ : ∃ b, b = w.heap.size := ⟨_, rfl⟩
  obtain ⟨W, hW⟩ : ∃ W, W = w.alloc (.cells #[.pointer none, .slice none 0 0] 256) := ⟨_, rfl⟩
  have hEW : Ext w W := by rw [hW]; exact (Ext.refl w).alloc _
  have hB0 : Bd W b [] := by rw [hW, hb]; exact Bd.fresh w
  have hlow := hide (fun r W h => lower_any r W h)
  have henc := hide (fun r A n c W h1 h2 h3 h4 => encode_any [r] A n c W h1 h2 h3 h4)
  have hlen := hide (fun s W h => blen_any b s W h)
  have hwr := hide (fun s t W h hl => bwrite_any b s t W h hl)
  have hstr := hide (fun s W h => bstring_any b s W h)
  obtain ⟨Z, hZ⟩ : ∃ Z, Z = cutW [] rs := ⟨_, rfl⟩
  rw [← hZ]
  replace hr := hide hr
  replace hc := hide hc
  replace hn := hide hn
  replace hZ := hide hZ
  replace hEW := hide hEW
  replace hB0 := hide hB0
  replace hW := hide hW
  replace hb := hide hb
  go_enter Tryz.func178, Tryz.ntmps178
  go_wp2_with fail
  rw [← hW.out, ← hb.out]
  go_loopw [9] (fun s9 wr => ∃ (i : Nat) (s : List UInt8), s9 = .int .i64 (i : Int) ∧ i ≤ n ∧ Hid (Z = cutW s (rs.drop i)) ∧ Hid (s.length ≤ 32) ∧ Hid (Bd wr b s) ∧ Hid (Ext w wr)) (fun s9 _ => n - (intOf s9).toNat)
  case atStart => exact ⟨0, [], rfl, by omega, hide (by rw [hZ.out]; rfl), hide (by simp), hB0, hEW⟩
  case round =>
    obtain ⟨i, s, rfl, hi, hZs, hs32, hB, hE⟩ := hrel
    by_cases h : i < n
    · obtain ⟨r, hri⟩ : ∃ r, rs[i]? = some r := ⟨_, List.getElem?_eq_getElem (by rw [← hn.out]; exact h)⟩
      obtain ⟨g, o, hA, hcl⟩ := hc.out.at_ (by rw [List.length_map, ← hn.out]; omega)
      subst hA
      have hld := hE.out.cell (hcl i (NV r) (by rw [List.getElem?_map, hri]; rfl))
      unfold NV at hld
      have hrr := hr.out r (List.mem_of_getElem? hri)
      have hdr : rs.drop i = r :: rs.drop (i + 1) := by
        rw [List.drop_eq_getElem_cons (List.getElem?_eq_some_iff.1 hri).1]
        congr 1
        exact (List.getElem?_eq_some_iff.1 hri).2
      have hlw := hide (fun W => hlow.out r W hrr)
      have hyl := lowerR_le hrr
      obtain ⟨t, ht⟩ : ∃ t, t = encR (lowerR r) := ⟨_, rfl⟩
      have ht4 : t.length ≤ 4 := by rw [ht]; exact (encR_len _).2
      have hgo := hide (fun hh => cutW_go (s := s) (r := r) (rs := rs.drop (i + 1)) hh)
      have hend := hide (fun hh => cutW_end (s := s) (r := r) (rs := rs.drop (i + 1)) hh)
      rw [← ht, ← hdr, ← hZs.out] at hgo hend
      obtain ⟨y, hy⟩ : ∃ y, y = lowerR r := ⟨_, rfl⟩
      rw [← hy] at ht hlw hyl
      have hen := hide (fun A W hh => henc.out y A 1 1 W rfl hh (by simp; omega) (by omega))
      rw [encL_one, ← ht] at hen
      obtain ⟨tn, htn⟩ : ∃ tn, tn = t.length := ⟨_, rfl⟩
      have htsz : (⟨t.toArray⟩ : ByteArray).size = tn := by rw [htn]; exact ByteArray.size_mk_toArray t
      obtain ⟨sn, hsn⟩ : ∃ sn, sn = s.length := ⟨_, rfl⟩
      rw [← hsn, ← htn] at hgo hend
      rw [← htn] at ht4
      rw [← hsn] at hs32
      have hs32' := hs32.out
      have hlw2 := hide (fun W hh => hlen.out s W hh)
      rw [← hsn] at hlw2
      replace hcl := hide hcl
      replace hri := hide hri
      replace hrr := hide hrr
      replace hdr := hide hdr
      replace hy := hide hy
      replace ht := hide ht
      replace htn := hide htn
      replace hsn := hide hsn
      replace hyl := hide hyl
      go_wp2_with fail
      refine (hlw.out _).mono ?_
      rintro e w2 ⟨rfl, hE2⟩
      go_wp2_with fail
      refine (hen.out _ _ (.inr ⟨w2.heap.size, 0, rfl, fun j u hu => ?_⟩)).mono ?_
      · rw [Nat.zero_add, cell_of_row _ _ _ _ _ _ (heap_alloc_new w2 _)]
        simpa [NV] using hu
      rintro e w3 ⟨rfl, hE3⟩
      have hE23 := hide ((hE2.alloc (.cells #[Value.int .i64 (y : Int)] 3)).trans hE3)
      have hB3 := hide (hB.out.ext hE23.out)
      go_wp2_with fail
      refine (hlw2.out _ hB3.out).mono ?_
      rintro e w4 ⟨rfl, rfl⟩
      by_cases h32 : 32 < sn + tn
      · have hZe := hide (hend.out h32)
        have h32i : (32 : Int) < (sn : Int) + (tn : Int) := by omega
        go_wp2_with fail
        refine (hstr.out s _ hB3.out).mono ?_
        rintro e w5 ⟨rfl, hE5⟩
        go_wp2_with fail
        go_ret
        refine ⟨by rw [hZe.out]; rfl, ?_⟩
        have hbb := hb.out
        rw [hbb] at hE5
        exact Below.trans (hE.out.trans hE23.out) hE5
      · have hZe := hide (hgo.out h32)
        have h32i : ¬ (32 : Int) < (sn : Int) + (tn : Int) := by omega
        go_wp2_with fail
        refine (hwr.out s t _ hB3.out (by rw [← hsn.out, ← htn.out]; omega)).mono ?_
        rintro e w5 ⟨rfl, hB5, hE5⟩
        go_wp2_with fail
        refine ⟨⟨i + 1, s ++ t, rfl, by omega, hZe, hide (by rw [List.length_append, ← hsn.out, ← htn.out]; omega), hide hB5, hide ?_⟩, by simp only [intOf]; omega⟩
        have hbb := hb.out
        rw [hbb] at hE5
        exact Below.trans (hE.out.trans hE23.out) hE5
    · obtain rfl : i = n := by omega
      have hZe : Z = s := by rw [hZs.out, List.drop_eq_nil_of_le (by rw [← hn.out]; exact Nat.le_refl _), cutW]
      replace hZe := hide hZe
      go_wp2_with fail
      refine (hstr.out s _ hB.out).mono ?_
      rintro e w2 ⟨rfl, hE2⟩
      go_wp2_with fail
      go_ret
      exact ⟨by rw [hZe.out]; rfl, by have := hb.out; subst this; exact Below.trans hE.out hE2⟩
end
section
open Go.RowKit
theorem runsW_word {cur rs : List Nat} {r : Nat} (h : wordR r = true) : runsW cur (r :: rs) = runsW (cur ++ [r]) rs := by
  rw [runsW, if_pos h]
theorem runsW_gap {rs : List Nat} {r : Nat} (h : wordR r = false) : runsW [] (r :: rs) = runsW [] rs := by
  rw [runsW, if_neg (by rw [h]; simp), if_pos rfl]
theorem runsW_cut {cur rs : List Nat} {r : Nat} (h : wordR r = false) (hc : cur ≠ []) : runsW cur (r :: rs) = cur :: runsW [] rs := by
  rw [runsW, if_neg (by rw [h]; simp), if_neg hc]
theorem runsW_end : ∀ (L cur : List Nat), runsW cur (L ++ [32]) = runsW cur L
  | [], cur => by
    have h : wordR 32 = false := by decide
    rw [List.nil_append]
    by_cases hc : cur = []
    · subst hc; rw [runsW_gap h]
    · rw [runsW_cut h hc, runsW, if_pos rfl, runsW, if_neg hc]
  | r :: L, cur => by
    rw [List.cons_append]
    cases h : wordR r with
    | true => rw [runsW_word h, runsW_word h, runsW_end L]
    | false =>
      by_cases hc : cur = []
      · subst hc; rw [runsW_gap h, runsW_gap h, runsW_end L]
      · rw [runsW_cut h hc, runsW_cut h hc, runsW_end L]
def tkV (l : List (List UInt8)) : List Value := l.zipIdx.flatMap fun p => [.string ⟨p.1.toArray⟩, .int .i64 (p.2 : Int)]
theorem tkV_snoc (l : List (List UInt8)) (x : List UInt8) : tkV (l ++ [x]) = tkV l ++ [.string ⟨x.toArray⟩, .int .i64 (l.length : Int)] := by
  unfold tkV
  rw [List.zipIdx_append, List.flatMap_append]
  simp
theorem cells_cut {w : World} {g : Nat} {xs : List Value} (h : Cells w (some ⟨g, 0, none⟩) xs) (f i : Nat) : Cells w (some ⟨g, f, none⟩) ((xs.take i).drop f) := by
  rcases h with h | ⟨g', o, hA, hc⟩
  · subst h; exact .inl (by simp)
  · cases hA
    refine .inr ⟨g, f, rfl, fun j v hv => ?_⟩
    rw [List.getElem?_drop, List.getElem?_take] at hv
    split at hv
    · have := hc _ v hv
      rwa [Nat.zero_add] at this
    · cases hv
theorem take_more {R : List Nat} {st i r : Nat} (hi : R[i]? = some r) (hs : st ≤ i) : (R.take (i + 1)).drop st = (R.take i).drop st ++ [r] := by
  have h1 : R.take (i + 1) = R.take i ++ [r] := by rw [List.take_add_one, hi]; rfl
  have hl := (List.getElem?_eq_some_iff.1 hi).1
  rw [h1, List.drop_append_of_le_length (by rw [List.length_take]; omega)]
theorem take_none (R : List Nat) (i : Nat) : (R.take i).drop i = [] := List.drop_eq_nil_of_le (by rw [List.length_take]; omega)
theorem take_some {R : List Nat} {st i : Nat} (h : st < i) (hi : i ≤ R.length) : (R.take i).drop st ≠ [] := by
  intro hn
  have := congrArg List.length hn
  rw [List.length_drop, List.length_take, List.length_nil] at this
  omega
theorem drop_at {R : List Nat} {i r : Nat} (hi : R[i]? = some r) : R.drop i = r :: R.drop (i + 1) := by
  rw [List.drop_eq_getElem_cons (List.getElem?_eq_some_iff.1 hi).1]
  congr 1
  exact (List.getElem?_eq_some_iff.1 hi).2
set_option maxRecDepth 100000 in
theorem elemTk : Elem Tryz.prog 119 123 2 24 := ⟨Tryz.underlying119, ⟨_, _, rfl, rfl, rfl, rfl, rfl⟩, by omega, by omega⟩
end
section
open Go.RowKit
def NewTk (w : World) (l : List (List UInt8)) (e : Ending) (w' : World) : Prop := ∃ A c, e = .returned (.slice A l.length c) ∧ w'.ownsRow w.heap.size 123 2 (.slice A l.length c) l.length (tkV l) ∧ Ext w w'
set_option maxRecDepth 100000 in
set_option maxHeartbeats 1000000 in
theorem tokens_any (l : List UInt8) (w : World) (hl : l.length ≤ 1000000000) : Calls Tryz.prog 135 #[.string ⟨l.toArray⟩] w (NewTk w (tokL l)) := by
  have hrn := hide (fun W => runes_any l W (by omega))
  have hLl := runesL_len l
  have hLm := runesL_le l
  have htok : tokL l = (runsW [] (runesL l)).map (cutW []) := rfl
  obtain ⟨L, hL⟩ : ∃ L, L = runesL l := ⟨_, rfl⟩
  rw [← hL] at hrn hLl hLm htok
  obtain ⟨Z, hZ⟩ : ∃ Z, Z = tokL l := ⟨_, rfl⟩
  rw [← hZ] at htok ⊢
  obtain ⟨R, hR⟩ : ∃ R, R = L ++ [32] := ⟨_, rfl⟩
  rw [← runsW_end, ← hR] at htok
  have hRm : ∀ r ∈ R, r ≤ 1114111 := by
    intro r hr
    rw [hR] at hr
    rcases List.mem_append.1 hr with h | h
    · exact hLm r h
    · simp at h; omega
  obtain ⟨m, hm⟩ : ∃ m, m = R.length := ⟨_, rfl⟩
  have hmL : m = L.length + 1 := by rw [hm, hR]; simp
  have hlast : R[m - 1]? = some 32 := by rw [hR, show m - 1 = L.length by omega]; simp
  have hwd := hide (fun r W h => isword_any r W h)
  have hwo := hide (fun rs A n c W h1 h2 h3 h4 => word_any rs A n c W h1 h2 h3 h4)
  have hm9 : m ≤ 1000000001 := by omega
  replace hlast := hide hlast
  replace hZ := hide hZ
  replace hL := hide hL
  replace htok := hide htok
  replace hRm := hide hRm
  replace hm := hide hm
  replace hLm := hide hLm
  replace hR := hide hR
  obtain ⟨ln, hln⟩ : ∃ ln, ln = L.length := ⟨_, rfl⟩
  rw [← hln] at hmL hLl
  replace hln := hide hln
  go_enter Tryz.func135, Tryz.ntmps135
  go_wp2_with fail
  go_step3
  go_wp2_with fail
  refine (hrn.out _).mono ?_
  rintro e w1 ⟨A1, c1, rfl, hb1, hE1⟩
  rw [← hln.out] at hb1 ⊢
  have hsz1 := hE1.size
  replace hb1 := hide hb1
  replace hE1 := hide hE1
  go_wp2_with (at_builtin; refine wpList_bufN elemZ hb1.out (.tmp 9) (.tmp 10) rfl rfl rfl rfl (one_of rfl) (by simp; omega) hsz1 (fun A2 c2 w2 hb2 hE2 => ?_))
  have hE02 := hE2 w hE1.out (Nat.le_refl _)
  have hRv : L.map NV ++ [Value.int .i64 32] = R.map NV := by rw [hR.out, List.map_append]; rfl
  simp only [List.length_cons, List.length_nil, Nat.zero_add] at hb2 ⊢
  rw [hRv, ← hmL] at hb2
  rw [← hmL]
  have hmc := hb2.2.1
  obtain ⟨gR, oR, hA, hcl⟩ := hb2.cells.at_ (by rw [List.length_map, ← hm.out]; omega)
  obtain ⟨g2, cur2, hA2, _⟩ : ∃ g cur, A2 = some ⟨g, 0, none⟩ ∧ w2.heap.size ≥ w2.heap.size ∧ cur = (0 : Nat) := by
    rcases hb2.2.2 with ⟨h, _⟩ | ⟨g, _, h, _⟩
    · rw [hA] at h; cases h
    · exact ⟨g, 0, h, Nat.le_refl _, rfl⟩
  subst hA2
  cases hA
  have hcR := hide (Buf.cells hb2)
  replace hcl := hide hcl
  replace hb2 := hide hb2
  replace hE02 := hide hE02
  replace hRv := hide hRv
  replace hmL := hide hmL
  clear hE2 hb1
  go_wp2_with fail
  go_step3
  go_wp2_with fail
  go_loopw [3, 5, 14] (fun s3 s5 s14 wr => ∃ (i st k c3 : Nat) (A3 : Option Addr) (D : List (List Nat)), s3 = .slice A3 k c3 ∧ s5 = .int .i64 (st : Int) ∧ s14 = .int .i64 (i : Int) ∧ i ≤ m ∧ st ≤ i ∧ k ≤ i ∧ Hid (k = D.length) ∧ Hid (i = m → st = i) ∧ Hid (runsW [] R = D ++ runsW ((R.take i).drop st) (R.drop i)) ∧ Hid (wr.ownsRow w2.heap.size 123 2 (.slice A3 k c3) k (tkV (D.map (cutW [])))) ∧ Hid (Ext w2 wr)) (fun _ _ s14 _ => m - (intOf s14).toNat)
  case atStart => exact ⟨0, 0, 0, 0, none, [], rfl, rfl, rfl, by omega, by omega, by omega, hide rfl, hide (fun _ => rfl), hide (by simp), hide (World.ownsRow_nil _ _ _ _), hide (Ext.refl w2)⟩
  case round =>
    obtain ⟨i, st, k, c3, A3, D, rfl, rfl, rfl, him, hst, hki, hk, hsi, hinv, hown, hE⟩ := hrel
    by_cases h : i < m
    · obtain ⟨r, hri⟩ : ∃ r, R[i]? = some r := ⟨_, List.getElem?_eq_getElem (by rw [← hm.out]; exact h)⟩
      have hld := hcl.out i (NV r) (by rw [List.getElem?_map, hri]; rfl)
      rw [Nat.zero_add] at hld
      replace hld := hE.out.cell hld
      unfold NV at hld
      have hrr := hRm.out r (List.mem_of_getElem? hri)
      have hcall := hide (fun W => hwd.out r W (by omega))
      have hdr := drop_at hri
      have hmore := take_more hri hst
      have hnl : i + 1 = m → r = 32 := fun he => by
        have := hlast.out
        rw [show m - 1 = i by omega, hri] at this
        exact Option.some.inj this
      obtain ⟨b, hb⟩ : ∃ b, b = wordR r := ⟨_, rfl⟩
      rw [← hb] at hcall
      have hinv1 := hinv.out
      rw [hdr] at hinv1
      replace hri := hide hri
      replace hrr := hide hrr
      replace hdr := hide hdr
      replace hnl := hide hnl
      cases b with
      | true =>
        rw [runsW_word hb.symm, ← hmore] at hinv1
        replace hinv1 := hide hinv1
        replace hmore := hide hmore
        replace hb := hide hb
        go_wp2_with fail
        refine (hcall.out _).mono ?_
        rintro e w4 ⟨rfl, hE4⟩
        go_wp2_with fail
        refine ⟨⟨i + 1, st, k, c3, A3, D, rfl, rfl, rfl, by omega, by omega, by omega, hk, hide (fun he => ?_), hinv1, hide (hE4.owns hown.out), hide (hE.out.trans hE4)⟩, by simp only [intOf]; omega⟩
        have := hb.out
        rw [hnl.out he] at this
        exact absurd this (by decide)
      | false =>
        by_cases hsti : st < i
        · rw [runsW_cut hb.symm (take_some hsti (by rw [← hm.out]; omega))] at hinv1
          have hinv2 : runsW [] R = (D ++ [(R.take i).drop st]) ++ runsW ((R.take (i + 1)).drop (i + 1)) (R.drop (i + 1)) := by
            rw [take_none, hinv1, List.append_assoc]
            rfl
          replace hinv2 := hide hinv2
          clear hinv1
          replace hmore := hide hmore
          replace hb := hide hb
          have hrm2 : ∀ x ∈ (R.take i).drop st, x ≤ 1114111 := fun x hx => hRm.out x (List.mem_of_mem_take (List.mem_of_mem_drop hx))
          have hlen2 : i - st = ((R.take i).drop st).length := by rw [List.length_drop, List.length_take, ← hm.out]; omega
          have hcw := hide (fun c W (hh : Cells W (some ⟨gR, st, none⟩) (((R.take i).drop st).map NV)) => hwo.out ((R.take i).drop st) (some ⟨gR, st, none⟩) (i - st) c W hlen2 hh hrm2 (by omega))
          have hcc := cells_cut hcR.out st i
          rw [← List.map_take, ← List.map_drop] at hcc
          obtain ⟨t, ht⟩ : ∃ t, t = cutW [] ((R.take i).drop st) := ⟨_, rfl⟩
          rw [← ht] at hcw
          have hDt : (D ++ [(R.take i).drop st]).map (cutW []) = D.map (cutW []) ++ [t] := by rw [List.map_append, ht]; rfl
          obtain ⟨cu, hcu⟩ : ∃ cu, cu = (R.take i).drop st := ⟨_, rfl⟩
          rw [← hcu] at hcw hcc hinv2 hDt
          replace hrm2 := hide hrm2
          replace hlen2 := hide hlen2
          replace hcc := hide hcc
          replace ht := hide ht
          replace hDt := hide hDt
          replace hcu := hide hcu
          go_wp2_with fail
          refine (hcall.out _).mono ?_
          rintro e w4 ⟨rfl, hE4⟩
          have hE24 := hide (hE.out.trans hE4)
          have hcc4 := hide (hcc.out.ext hE24.out)
          go_wp2_with fail
          refine (hcw.out _ _ hcc4.out).mono ?_
          rintro e w5 ⟨rfl, hE5⟩
          have hE25 := hide (hE24.out.trans hE5)
          have hown5 := hide (hE5.owns (hE4.owns hown.out))
          have hsz5 := hE25.out.size
          replace hE5 := hide hE5
          go_wp2_with (at_builtin; refine wpList_appS (m := 1) elemTk hown5.out (.tmp 24) (.tmp 33) rfl rfl rfl rfl rfl (one_of rfl) (by omega) hsz5 (fun A6 c6 w6 ho6 hg6 hl6 => ?_))
          have hE26 := hE25.out.grown hg6 (fun q hq => (hown5.out.lt q hq).1)
          refine ⟨⟨i + 1, i + 1, k + 1, c6, A6, D ++ [cu], rfl, rfl, rfl, by omega, by omega, by omega, hide (by rw [List.length_append, ← hk.out]; rfl), hide (fun _ => rfl), hinv2, hide ?_, hide hE26⟩, by simp only [intOf]; omega⟩
          rw [hDt.out, tkV_snoc, List.length_map, ← hk.out]
          exact ho6
        · obtain rfl : st = i := by omega
          rw [take_none, runsW_gap hb.symm] at hinv1
          have hinv2 : runsW [] R = D ++ runsW ((R.take (st + 1)).drop (st + 1)) (R.drop (st + 1)) := by rw [take_none]; exact hinv1
          clear hinv1
          replace hinv2 := hide hinv2
          replace hmore := hide hmore
          replace hb := hide hb
          go_wp2_with fail
          refine (hcall.out _).mono ?_
          rintro e w4 ⟨rfl, hE4⟩
          go_wp2_with fail
          exact ⟨⟨st + 1, st + 1, k, c3, A3, D, rfl, rfl, rfl, by omega, by omega, by omega, hk, hide (fun _ => rfl), hinv2, hide (hE4.owns hown.out), hide (hE.out.trans hE4)⟩, by simp only [intOf]; omega⟩
    · obtain rfl : i = m := by omega
      have hse := hsi.out rfl
      subst hse
      have hDe : runsW [] R = D := by
        rw [hinv.out, take_none, List.drop_eq_nil_of_le (by rw [← hm.out]; exact Nat.le_refl _), runsW, if_pos rfl, List.append_nil]
      have hZe : Z = D.map (cutW []) := by rw [htok.out, hDe]
      have hkl : k = Z.length := by rw [hZe, List.length_map]; exact hk.out
      rw [← hZe] at hown
      replace hDe := hide hDe
      replace hZe := hide hZe
      subst hkl
      go_wp2_with fail
      go_ret
      exact ⟨A3, c3, rfl, World.ownsRow.mono hown.out hE02.out.size, hE02.out.trans hE.out⟩
end
end Go.Proofs.YtkdcnhnaiknaaaaGreat
