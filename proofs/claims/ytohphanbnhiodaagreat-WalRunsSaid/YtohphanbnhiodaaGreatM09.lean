/- loggiaref06: Restart. -/
import Derived.Test.YtohphanbnhiodaaGreatM08
import Derived.Test.YtohphanbnhiodaaGreatM07
import Derived.Deep.RegionHeld3
import Derived.Deep.QuietTactic
import Derived.BigQuiet
set_option linter.unusedSimpArgs false
set_option linter.unusedVariables false
namespace Go.Proofs.YtohphanbnhiodaaGreat
open Go.RowKit Go.Maps

def RE.cut (r : RE) (n : Nat) : RE := { r with b := r.b.take n, sure := n }
def keptR (R : List RE) (keep : List Int) : List RE := R.mapIdx fun j r => r.cut (leftM r.pl keep[j]?)
theorem keptR_pl (R : List RE) (keep : List Int) : (keptR R keep).map RE.pl = keptM (R.map RE.pl) keep := by
  apply List.ext_getElem?
  intro j
  unfold keptR keptM
  rw [List.getElem?_map, List.getElem?_mapIdx, List.getElem?_mapIdx, List.getElem?_map]
  cases R[j]? <;> rfl
theorem keptR_len (R : List RE) (keep : List Int) : (keptR R keep).length = R.length := by unfold keptR; simp
theorem keptR_at {R : List RE} {keep : List Int} {j : Nat} {r : RE} (h : R[j]? = some r) : (keptR R keep)[j]? = some (r.cut (leftM r.pl keep[j]?)) := by
  unfold keptR
  rw [List.getElem?_mapIdx, h]
  rfl
theorem rleft_le (r : RE) (h : r.sure ≤ r.b.length) (k : Option Int) : leftM r.pl k ≤ r.b.length := left_le ⟨r.name, 0, r.b, r.sure, none, 0⟩ h k
theorem ROk.cut {w : World} {N : Nat → Prop} {r : RE} (h : ROk w N r) {n : Nat} (hn : n ≤ r.b.length) : ROk w N (r.cut n) := by
  have hl : (r.b.take n).length = n := by rw [List.length_take]; omega
  refine ⟨?_, ?_, h.nil, h.away, ?_, h.name, ?_⟩
  · show Bs w r.A (r.b.take n)
    rcases h.bytes with h1 | ⟨g, o, hA, hc⟩
    · left
      have : r.b = [] := by simpa using h1
      rw [this]
      simp
    · refine .inr ⟨g, o, hA, fun i v hv => hc i v ?_⟩
      rw [List.map_take, List.getElem?_take] at hv
      split at hv
      · exact hv
      · cases hv
  · show (r.b.take n).length ≤ r.c
    rw [hl]
    exact Nat.le_trans hn h.cap
  · show n ≤ (r.b.take n).length
    rw [hl]
    exact Nat.le_refl _
  · show (r.b.take n).length ≤ _
    rw [hl]
    exact Nat.le_trans hn h.len
set_option maxRecDepth 100000 in
/-- x[:n] -/
theorem run_head {t e n c k : Nat} {A : Option Addr} (ht : Tryz.prog.underlying t = some (.slice e)) (hs : ∀ W : World, (sizeOf e).run Tryz.prog W = .ok 1 W) (h : k ≤ c) (hA : ∀ a, A = some a → a.spot = none) (W : World) :
    (Instr.sliceAt t (.slice A n c) none (some (.int .i64 k)) none).run Tryz.prog W = .ok (.slice A k c) W := by
  have he : Tryz.prog.elem t = e := by unfold Program.elem; rw [ht]
  rw [run_sliceAt_slice W t _ _ _ _ (by rw [ht, he]), run_slice_h W t A n c (by rw [ht, he]) .i64 k (by omega) (by omega), he, hs]
  simp only [Result.andThen_ok]
  congr 1
  unfold sliced
  have : (if c = 0 then A else A.map fun x => x.add (0 * 1)) = A := by
    cases A with
    | none => simp
    | some a =>
      obtain ⟨b, o, sp⟩ := a
      obtain rfl : sp = none := hA _ rfl
      simp [Addr.add_lit]
  rw [this]
  simp
theorem rdisk_out3 {w0 wr : World} {r base n1 c1 q a : Nat} {A1 : Option Addr} {st : Bool} {xs : List Value} {v0 v1 v2 v3 : Value} (hrr : Row wr r 29 #[v0, v1, v2, v3]) (ho : wr.ownsRow base 110 3 (.slice A1 n1 c1) n1 xs)
    (hge : ∀ k, (Value.slice A1 n1 c1).ownBlock = some k → k ≠ r) (hE : Ext w0 wr) (hbr : w0.heap.size ≤ r) {wf : World}
    (hwf : wf = ((((wr.setCell ⟨r, 0, none⟩ (.slice A1 n1 c1)).setCell ⟨r, 1, none⟩ (.int .i64 q)).setCell ⟨r, 2, none⟩ (.int .i64 a)).setCell ⟨r, 3, none⟩ (.bool st)) := by rfl) :
    wf.cell? ⟨r, 0, none⟩ = some (.slice A1 n1 c1) ∧ wf.cell? ⟨r, 1, none⟩ = some (.int .i64 q) ∧ wf.cell? ⟨r, 2, none⟩ = some (.int .i64 a) ∧ wf.cell? ⟨r, 3, none⟩ = some (.bool st) ∧ Ext w0 wf ∧ wf.ownsRow base 110 3 (.slice A1 n1 c1) n1 xs := by
  have hr : Row wf r 29 #[.slice A1 n1 c1, .int .i64 q, .int .i64 a, .bool st] := by
    rw [hwf]
    exact (((hrr.put 0 _).put 1 _).put 2 _).put 3 _
  refine ⟨hr.cell 0 rfl, hr.cell 1 rfl, hr.cell 2 rfl, hr.cell 3 rfl, ?_, ?_⟩
  · rw [hwf]
    exact (((hE.setCell (p := ⟨r, 0, none⟩) hbr _).setCell (p := ⟨r, 1, none⟩) hbr _).setCell (p := ⟨r, 2, none⟩) hbr _).setCell (p := ⟨r, 3, none⟩) hbr _
  · rw [hwf]
    have hk2 : ∀ o : Nat, (Value.slice A1 n1 c1).ownBlock ≠ some (⟨r, o, none⟩ : Addr).block := fun o hh => hge _ hh rfl
    exact owns_set (owns_set (owns_set (owns_set ho (hk2 _) _) (hk2 _) _) (hk2 _) _) (hk2 _) _
set_option maxRecDepth 100000 in
set_option maxHeartbeats 2000000 in
theorem rrestart_any (N : Nat → Prop) (A : Option Addr) (n c q a : Nat) (st : Bool) (R : List RE) (K : Option Addr) (kn kc : Nat) (keep : List Int) (w : World) (h : RS w N A n c R) (hN : ∀ k, N k → k < w.heap.size) (hK : Cells w K (keep.map I64)) (hkn : kn = keep.length)
    (hkb : ∀ k ∈ keep, -9223372036854775808 ≤ k ∧ k ≤ 9223372036854775807) (hkl : kn ≤ 1073741824) :
    Calls Tryz.prog 24 #[rdisk A n c q a st, .slice K kn kc] w fun e w' => ∃ A1 n1 c1, e = .returned (rdisk A1 n1 c1 q 0 false) ∧ RS w' N A1 n1 c1 (keptR R keep) ∧ Ext w w' := by
  obtain ⟨W, hW⟩ : ∃ W, W = (w.alloc (.cells #[.slice A n c, .int .i64 q, .int .i64 a, .bool st] 29)).alloc (.cells #[.slice none 0 0, .int .i64 0, .int .i64 0, .bool false] 29) := ⟨_, rfl⟩
  have hE : Ext w W := by rw [hW]; exact ((Ext.refl w).alloc _).alloc _
  have hWs : W.heap.size = w.heap.size + 2 := by rw [hW, size_alloc, size_alloc]
  have hd : Row W w.heap.size 29 #[.slice A n c, .int .i64 q, .int .i64 a, .bool st] := by rw [hW]; exact (Row.new w _ _).alloc _
  have hr2 : Row W (w.heap.size + 1) 29 #[.slice none 0 0, .int .i64 0, .int .i64 0, .bool false] := by
    have := Row.new (w.alloc (.cells #[.slice A n c, .int .i64 q, .int .i64 a, .bool st] 29)) 29 #[.slice none 0 0, .int .i64 0, .int .i64 0, .bool false]
    rw [size_alloc] at this
    rw [hW]
    exact this
  have hR := h.ext hE
  have hlen := h.len
  have hmany := h.many
  have hWx := hide hW.symm
  unfold rdisk
  clear hW
  replace hlen := hide hlen
  replace hWs := hide hWs
  replace hkn := hide hkn
  go_enter Tryz.func24, Tryz.ntmps24
  go_wp2_with fail
  rw [hWx.out]
  go_loopw [5, 6] (fun s5 s6 wr => ∃ (i c1 : Nat) (A1 : Option Addr), s6 = .int .i64 i ∧ s5 = .slice A1 i c1 ∧ i ≤ n ∧ Hid (wr.ownsRow W.heap.size 110 3 (.slice A1 i c1) i (rcells ((keptR R keep).take i))) ∧ Ext W wr) (fun _ s6 _ => n - (intOf s6).toNat)
  case atStart => exact ⟨0, 0, none, rfl, rfl, by omega, hide (World.ownsRow_nil _ _ _ _), Ext.refl _⟩
  case round =>
    obtain ⟨i, c1, A1, rfl, rfl, hi, hO, hEr⟩ := hrel
    have hdr := hd.ext hEr
    have c0r : wr.cell? ⟨w.heap.size, 0, none⟩ = some (.slice A n c) := hdr.cell 0 rfl
    by_cases hin : i < n
    · obtain ⟨g, o, r, rfl, hr, k0, k1, k2⟩ := (hR.ext hEr).at_ hin
      unfold str at k0
      have hok := h.ok r (List.mem_of_getElem? hr)
      have hsp : ∀ a, r.A = some a → a.spot = none := fun a ha => (hok.away a ha).2.2
      have hsu := hok.sure
      have hbl := hok.len
      have hcap := hok.cap
      obtain ⟨left, hleft⟩ : ∃ left, left = leftM r.pl keep[i]? := ⟨_, rfl⟩
      have hll := rleft_le r hsu keep[i]?
      rw [← hleft] at hll
      have hsl := run_head (t := 34) (e := 5) (n := r.b.length) (c := r.c) (k := left) Tryz.underlying34 (fun W => by kernel_rfl) (by omega) hsp
      have htk := take_one (keptR R keep) i _ (keptR_at (keep := keep) hr)
      rw [← hleft] at htk
      have hcl : (r.cut left).cells = [str r.name, .slice r.A left r.c, .int .i64 left] := by
        unfold RE.cells RE.cut
        have : (r.b.take left).length = left := by rw [List.length_take]; omega
        rw [this]
      obtain ⟨bl, hbln⟩ : ∃ bl, bl = r.b.length := ⟨_, rfl⟩
      obtain ⟨su, hsun⟩ : ∃ su, su = r.sure := ⟨_, rfl⟩
      rw [← hbln] at k1 hbl hll hsl hsu hcap
      rw [← hsun] at k2 hsu
      have hO2 := hO.out
      have hge := own_ge hO2
      have hsz : W.heap.size ≤ wr.heap.size := hEr.size
      obtain ⟨o1, ho1⟩ : ∃ o1, o1 = Obj.cells #[.string ⟨r.name.toArray⟩, .slice r.A left r.c, .int .i64 left] 110 := ⟨_, rfl⟩
      have hO3 := ((Ext.refl wr).alloc o1).owns hO2
      have hsz3 : W.heap.size ≤ (wr.alloc o1).heap.size := Nat.le_trans hsz ((Ext.refl wr).alloc o1).size
      have hE3o := hEr.alloc o1
      have hbl3 : wr.heap.size + 1 = (wr.alloc o1).heap.size := (size_alloc _ _).symm
      rw [ho1] at hO3 hsz3 hE3o hbl3
      replace hbl3 := hide hbl3
      replace ho1 := hide ho1
      replace hsp := hide hsp
      replace hge := hide hge
      replace htk := hide htk
      replace hcl := hide hcl
      by_cases hik : i < kn
      · obtain ⟨kg, ko, rfl, hkc⟩ := hK.at_ (by rw [List.length_map, ← hkn.out]; omega)
        obtain ⟨k, hk⟩ : ∃ k, keep[i]? = some k := ⟨_, List.getElem?_eq_getElem (by rw [← hkn.out]; exact hik)⟩
        have ck : w.cell? ⟨kg, ko + i, none⟩ = some (.int .i64 k) := hkc i (I64 k) (by rw [List.getElem?_map, hk]; rfl)
        have ckr : wr.cell? ⟨kg, ko + i, none⟩ = some (.int .i64 k) := (hE.trans hEr).cell ck
        have hkgl : kg < wr.heap.size := World.block_lt_of_cell? wr ⟨kg, ko + i, none⟩ ckr
        obtain ⟨hk1, hk2⟩ := hkb k (List.mem_of_getElem? hk)
        have hlk3 : (su : Int) + k.tmod ((bl : Int) - su + 1) % ((bl : Int) - su + 1) = left := by
          have hb := tmod_bd k ((bl : Int) - su + 1) (by omega)
          have hg := go_mod k ((bl : Int) - su + 1) (by omega)
          rw [Int.tmod_eq_emod_of_nonneg (by omega), Int.add_emod_right] at hg
          rw [hg, hleft, hk]
          show _ = ((r.sure + (k % ((r.b.length : Int) - r.sure + 1)).toNat : Nat) : Int)
          rw [hbln, hsun]
          have := Int.emod_nonneg k (show (r.b.length : Int) - r.sure + 1 ≠ 0 by omega)
          omega
        have hlk4 : (su : Int) + (k.tmod ((bl : Int) - su + 1) + ((bl : Int) - su + 1)) % ((bl : Int) - su + 1) = left := by rw [Int.add_emod_right]; exact hlk3
        have htb := tmod_bd k ((bl : Int) - su + 1) (by omega)
        have hnn := Int.emod_nonneg (k.tmod ((bl : Int) - su + 1)) (show (bl : Int) - su + 1 ≠ 0 by omega)
        replace hbln := hide hbln
        replace hsun := hide hsun
        replace hleft := hide hleft
        replace hk := hide hk
        replace hr := hide hr
        clear hkc ck
        go_wp2_with (at_builtin; refine wpList_appB (us := [.string ⟨r.name.toArray⟩, .slice r.A left r.c, .int .i64 left]) (m := 1) (wr.heap.size + 1) hbl3.out elemF hO3 (.tmp 54) (.tmp 56) rfl rfl rfl rfl rfl (one_of rfl) (by omega) hsz3 (fun A3 c3 w3 ho3 hg3 => ?_))
        have ho4 : Hid (w3.ownsRow W.heap.size 110 3 (.slice A3 (i + 1) c3) (i + 1) (rcells ((keptR R keep).take (i + 1)))) := hide (by
          rw [htk.out, rcells_append]
          show w3.ownsRow _ _ 3 _ _ (_ ++ ((r.cut left).cells ++ []))
          rw [hcl.out, List.append_nil]
          exact ho3)
        have hE3 : Ext W w3 := hE3o.grown hg3 hge.out
        go_roundw
        case rel => exact ⟨i + 1, c3, A3, by go_num, rfl, by omega, ho4, hE3⟩
        case measure => simp [intOf]; omega
      · have hlk2 : left = su := by
          have : keep[i]? = none := List.getElem?_eq_none (by rw [← hkn.out]; omega)
          rw [hleft, this, hsun]
          rfl
        subst hlk2
        replace hbln := hide hbln
        replace hsun := hide hsun
        replace hleft := hide hleft
        replace hr := hide hr
        go_wp2_with (at_builtin; refine wpList_appB (us := [.string ⟨r.name.toArray⟩, .slice r.A left r.c, .int .i64 left]) (m := 1) (wr.heap.size + 1) hbl3.out elemF hO3 (.tmp 54) (.tmp 56) rfl rfl rfl rfl rfl (one_of rfl) (by omega) hsz3 (fun A3 c3 w3 ho3 hg3 => ?_))
        have ho4 : Hid (w3.ownsRow W.heap.size 110 3 (.slice A3 (i + 1) c3) (i + 1) (rcells ((keptR R keep).take (i + 1)))) := hide (by
          rw [htk.out, rcells_append]
          show w3.ownsRow _ _ 3 _ _ (_ ++ ((r.cut left).cells ++ []))
          rw [hcl.out, List.append_nil]
          exact ho3)
        have hE3 : Ext W w3 := hE3o.grown hg3 hge.out
        go_roundw
        case rel => exact ⟨i + 1, c3, A3, by go_num, rfl, by omega, ho4, hE3⟩
        case measure => simp [intOf]; omega
    · obtain rfl : i = n := by omega
      have hO2 := hO.out
      rw [List.take_of_length_le (by rw [keptR_len, ← hlen.out]; exact Nat.le_refl _)] at hO2
      have hrr := hr2.ext hEr
      have c1r : wr.cell? ⟨w.heap.size, 1, none⟩ = some (.int .i64 q) := hdr.cell 1 rfl
      have fr0 := hrr.free 0
      have fr1 := hrr.free 1
      have fr2 := hrr.free 2
      have fr3 := hrr.free 3
      have e0 : wr.cell? ⟨w.heap.size + 1, 0, none⟩ = some (.slice none 0 0) := hrr.cell 0 rfl
      have e1 : wr.cell? ⟨w.heap.size + 1, 1, none⟩ = some (.int .i64 0) := hrr.cell 1 rfl
      have e2 : wr.cell? ⟨w.heap.size + 1, 2, none⟩ = some (.int .i64 0) := hrr.cell 2 rfl
      have e3 : wr.cell? ⟨w.heap.size + 1, 3, none⟩ = some (.bool false) := hrr.cell 3 rfl
      have hgeN : ∀ k, k ≥ W.heap.size → k ≠ w.heap.size ∧ k ≠ w.heap.size + 1 := fun k hk => by rw [hWs.out] at hk; exact ⟨by omega, by omega⟩
      have hmem : ∀ x ∈ keptR R keep, ∀ wf, Ext w wf → ROk wf N x := fun x hx wf hwf => by
        obtain ⟨j, hj⟩ := List.getElem?_of_mem hx
        cases hjr : R[j]? with
        | none =>
          unfold keptR at hj
          rw [List.getElem?_mapIdx, hjr] at hj
          cases hj
        | some r =>
          rw [keptR_at hjr] at hj
          cases hj
          have hok := h.ok r (List.mem_of_getElem? hjr)
          exact (hok.cut (rleft_le r hok.sure _)).ext hwf
      replace hgeN := hide hgeN
      replace hmem := hide hmem
      go_wp2_with fail
      have hfin := rdisk_out3 hrr hO2 (fun k hk => (hgeN.out k (own_ge hO2 k hk)).2) (hE.trans hEr) (Nat.le_succ _) (q := q) (a := 0) (st := false)
      obtain ⟨wf, hwf⟩ : ∃ wf, wf = ((((wr.setCell ⟨w.heap.size + 1, 0, none⟩ (.slice A1 i c1)).setCell ⟨w.heap.size + 1, 1, none⟩ (.int .i64 q)).setCell ⟨w.heap.size + 1, 2, none⟩ (.int .i64 0)).setCell ⟨w.heap.size + 1, 3, none⟩ (.bool false)) := ⟨_, rfl⟩
      have hwf2 : ((((wr.setCell ⟨w.heap.size + 1, 0, none⟩ (.slice A1 i c1)).setCell ⟨w.heap.size + 1, 1, none⟩ (.int .i64 q)).setCell ⟨w.heap.size + 1, 2, none⟩ (.int .i64 ((0 : Nat) : Int))).setCell ⟨w.heap.size + 1, 3, none⟩ (.bool false)) = wf := hwf.symm
      rw [hwf2] at hfin
      rw [← hwf]
      obtain ⟨z0, z1, z2, z3, hEf, hof⟩ := hfin
      refine bodyPost_ret (v := .agg #[.slice A1 i c1, .int .i64 q, .int .i64 ((0 : Nat) : Int), .bool false]) (by simp [results, Tryz.results24, go_sem, z0, z1, z2, z3]) rfl ⟨A1, i, c1, rfl, ?_⟩
      exact ⟨RS.of_own (w := w) hof (by rw [hWs.out]; omega) hN (fun r hr => hmem.out r hr wf hEf) (by rw [keptR_len, ← hlen.out]; exact hmany), hEf⟩
end Go.Proofs.YtohphanbnhiodaaGreat

/- loggiaref06: Sync. -/
namespace Go.Proofs.YtohphanbnhiodaaGreat
open Go.RowKit Go.Maps

theorem tup_out {w0 wr : World} {r n c q a : Nat} {A : Option Addr} {st : Bool} {v0 v1 v2 v3 : Value} (hrr : Row wr r 29 #[v0, v1, v2, v3]) (hE : Ext w0 wr) (hbr : w0.heap.size ≤ r) {wf : World}
    (hwf : wf = ((((wr.setCell ⟨r, 0, none⟩ (.slice A n c)).setCell ⟨r, 1, none⟩ (.int .i64 q)).setCell ⟨r, 2, none⟩ (.int .i64 a)).setCell ⟨r, 3, none⟩ (.bool st)) := by rfl) :
    wf.cell? ⟨r, 0, none⟩ = some (.slice A n c) ∧ wf.cell? ⟨r, 1, none⟩ = some (.int .i64 q) ∧ wf.cell? ⟨r, 2, none⟩ = some (.int .i64 a) ∧ wf.cell? ⟨r, 3, none⟩ = some (.bool st) ∧ Ext w0 wf ∧ Chg (fun k => k = r) wr wf := by
  have hr : Row wf r 29 #[.slice A n c, .int .i64 q, .int .i64 a, .bool st] := by
    rw [hwf]
    exact (((hrr.put 0 _).put 1 _).put 2 _).put 3 _
  refine ⟨hr.cell 0 rfl, hr.cell 1 rfl, hr.cell 2 rfl, hr.cell 3 rfl, ?_, ?_⟩
  · rw [hwf]
    exact (((hE.setCell (p := ⟨r, 0, none⟩) hbr _).setCell (p := ⟨r, 1, none⟩) hbr _).setCell (p := ⟨r, 2, none⟩) hbr _).setCell (p := ⟨r, 3, none⟩) hbr _
  · rw [hwf]
    exact (((Chg.of_set (S := fun k => k = r) wr (a := ⟨r, 0, none⟩) _ rfl).trans (Chg.of_set (S := fun k => k = r) _ (a := ⟨r, 1, none⟩) _ rfl) fun _ _ h => h).trans (Chg.of_set (S := fun k => k = r) _ (a := ⟨r, 2, none⟩) _ rfl) fun _ _ h => h).trans (Chg.of_set (S := fun k => k = r) _ (a := ⟨r, 3, none⟩) _ rfl) fun _ _ h => h
/-- What a call of the document's answers. -/
def RNext (N : Nat → Prop) (P : PD × Nat) (w : World) (e : Ending) (w' : World) : Prop :=
  ∃ A1 n1 c1 R1, e = .returned (.tuple #[rdisk A1 n1 c1 P.1.quota P.1.armed P.1.stopped, .int .i64 P.2]) ∧ RS w' N A1 n1 c1 R1 ∧ R1.map RE.pl = P.1.L ∧ Ext w w'
theorem rnext_same {N : Nat → Prop} {P : PD} {k : Nat} {w w' : World} {A : Option Addr} {n c : Nat} {R : List RE} (h : RS w N A n c R) (hP : R.map RE.pl = P.L) (hE : Ext w w') : RNext N (P, k) w (.returned (.tuple #[rdisk A n c P.quota P.armed P.stopped, .int .i64 k])) w' :=
  ⟨A, n, c, R, rfl, h.ext hE, hP, hE⟩
set_option maxRecDepth 100000 in
set_option maxHeartbeats 4000000 in
theorem rsync_any (N : Nat → Prop) (A : Option Addr) (n c : Nat) (P : PD) (R : List RE) (s : List UInt8) (w : World) (h : RS w N A n c R) (hP : R.map RE.pl = P.L) (hN : ∀ k, N k → k < w.heap.size) (hs : s.length ≤ 9223372036854775807) (ha : P.armed ≤ 9223372036854775807) :
    Calls Tryz.prog 42 #[rdisk A n c P.quota P.armed P.stopped, str s] w (RNext N (syncM P s) w) := by
  obtain ⟨q, hq⟩ : ∃ q, q = P.quota := ⟨_, rfl⟩
  obtain ⟨a, ha'⟩ : ∃ q, q = P.armed := ⟨_, rfl⟩
  obtain ⟨st, hst⟩ : ∃ q, q = P.stopped := ⟨_, rfl⟩
  rw [← hq, ← ha', ← hst]
  rw [← ha'] at ha
  obtain ⟨W, hW⟩ : ∃ W, W = (w.alloc (.cells #[.slice A n c, .int .i64 q, .int .i64 a, .bool st] 29)).alloc (.cells #[.slice none 0 0, .int .i64 0, .int .i64 0, .bool false] 29) := ⟨_, rfl⟩
  have hE : Ext w W := by rw [hW]; exact ((Ext.refl w).alloc _).alloc _
  have hWs : W.heap.size = w.heap.size + 2 := by rw [hW, size_alloc, size_alloc]
  have hd : Row W w.heap.size 29 #[.slice A n c, .int .i64 q, .int .i64 a, .bool st] := by rw [hW]; exact (Row.new w _ _).alloc _
  have hr2 : Row W (w.heap.size + 1) 29 #[.slice none 0 0, .int .i64 0, .int .i64 0, .bool false] := by
    have := Row.new (w.alloc (.cells #[.slice A n c, .int .i64 q, .int .i64 a, .bool st] 29)) 29 #[.slice none 0 0, .int .i64 0, .int .i64 0, .bool false]
    rw [size_alloc] at this
    rw [hW]
    exact this
  have hnm := rnamed_any s W hs
  have hfa := rfind_any N A n c q a st R s W (h.ext hE)
  have hWx := hide hW.symm
  have d0 : W.cell? ⟨w.heap.size, 0, none⟩ = some (.slice A n c) := hd.cell 0 rfl
  have d1 : W.cell? ⟨w.heap.size, 1, none⟩ = some (.int .i64 q) := hd.cell 1 rfl
  have d2 : W.cell? ⟨w.heap.size, 2, none⟩ = some (.int .i64 a) := hd.cell 2 rfl
  have d3 : W.cell? ⟨w.heap.size, 3, none⟩ = some (.bool st) := hd.cell 3 rfl
  have r0 : W.cell? ⟨w.heap.size + 1, 0, none⟩ = some (.slice none 0 0) := hr2.cell 0 rfl
  have r1 : W.cell? ⟨w.heap.size + 1, 1, none⟩ = some (.int .i64 0) := hr2.cell 1 rfl
  have r2 : W.cell? ⟨w.heap.size + 1, 2, none⟩ = some (.int .i64 0) := hr2.cell 2 rfl
  have r3 : W.cell? ⟨w.heap.size + 1, 3, none⟩ = some (.bool false) := hr2.cell 3 rfl
  have f0 := hr2.free 0
  have f1 := hr2.free 1
  have f2 := hr2.free 2
  have f3 := hr2.free 3
  have same : ∀ (k : Nat) (wf : World), syncM P s = (P, k) → Ext w wf → RNext N (syncM P s) w (.returned (.tuple #[.agg #[.slice A n c, .int .i64 q, .int .i64 a, .bool st], .int .i64 k])) wf := by
    intro k wf hk hEf
    rw [hk, hq, ha', hst]
    exact rnext_same h hP hEf
  replace same := hide same
  unfold rdisk str at *
  clear hW
  replace hWs := hide hWs
  replace hfa := hide hfa
  by_cases hb0 : namedM s = false
  · have hres : syncM P s = (P, 60) := by unfold syncM writesM; simp [hb0]
    rw [hb0] at hnm
    replace hnm := hide hnm
    replace hres := hide hres
    replace hq := hide hq
    replace ha' := hide ha'
    replace hst := hide hst
    go_enter Tryz.func42, Tryz.ntmps42
    go_wp2_with fail
    rw [hWx.out]
    refine hnm.out.mono ?_
    rintro e w1 ⟨rfl, hw1⟩
    replace hw1 := hw1.symm
    subst hw1
    go_wp2_with fail
    have hfin := tup_out hr2 hE (Nat.le_succ _) (A := A) (n := n) (c := c) (q := q) (a := a) (st := st)
    obtain ⟨wf, hwf⟩ : ∃ wf, wf = ((((W.setCell ⟨w.heap.size + 1, 0, none⟩ (.slice A n c)).setCell ⟨w.heap.size + 1, 1, none⟩ (.int .i64 q)).setCell ⟨w.heap.size + 1, 2, none⟩ (.int .i64 a)).setCell ⟨w.heap.size + 1, 3, none⟩ (.bool st)) := ⟨_, rfl⟩
    rw [← hwf] at hfin ⊢
    obtain ⟨z0, z1, z2, z3, hEf, _⟩ := hfin
    exact bodyPost_ret (v := .tuple #[.agg #[.slice A n c, .int .i64 q, .int .i64 a, .bool st], .int .i64 60]) (by simp [results, Tryz.results42, go_sem, z0, z1, z2, z3]) rfl (same.out 60 wf hres.out hEf)
  have hnmd : namedM s = true := by simpa using hb0
  rw [hnmd] at hnm
  replace hnm := hide hnm
  cases st with
  | true =>
    have hres : syncM P s = (P, 63) := by unfold syncM writesM; simp only [List.all_cons, List.all_nil, hnmd, Bool.and_self, if_true]; rw [← hst]; rfl
    replace hres := hide hres
    replace hq := hide hq
    replace ha' := hide ha'
    replace hst := hide hst
    go_enter Tryz.func42, Tryz.ntmps42
    go_wp2_with fail
    rw [hWx.out]
    refine hnm.out.mono ?_
    rintro e w1 ⟨rfl, hw1⟩
    replace hw1 := hw1.symm
    subst hw1
    go_wp2_with fail
    have hfin := tup_out hr2 hE (Nat.le_succ _) (A := A) (n := n) (c := c) (q := q) (a := a) (st := true)
    obtain ⟨wf, hwf⟩ : ∃ wf, wf = ((((W.setCell ⟨w.heap.size + 1, 0, none⟩ (.slice A n c)).setCell ⟨w.heap.size + 1, 1, none⟩ (.int .i64 q)).setCell ⟨w.heap.size + 1, 2, none⟩ (.int .i64 a)).setCell ⟨w.heap.size + 1, 3, none⟩ (.bool true)) := ⟨_, rfl⟩
    rw [← hwf] at hfin ⊢
    obtain ⟨z0, z1, z2, z3, hEf, _⟩ := hfin
    exact bodyPost_ret (v := .tuple #[.agg #[.slice A n c, .int .i64 q, .int .i64 a, .bool true], .int .i64 63]) (by simp [results, Tryz.results42, go_sem, z0, z1, z2, z3]) rfl (same.out 63 wf hres.out hEf)
  | false =>
    rcases rfind_pl hP s with ⟨i, r, hf, hr, hn, hfd⟩ | ⟨hf, hfd⟩
    · have hfa2 := hfa.out
      rw [hf] at hfa2
      simp only [Option.getD_some, Option.isSome_some] at hfa2
      replace hfa2 := hide hfa2
      have hin : i < n := by rw [h.len]; exact (List.getElem?_eq_some_iff.1 hr).1
      obtain ⟨g, o, r', hAg, hr', k0, k1, k2⟩ := (h.ext hE).at_ hin
      obtain rfl : r' = r := by rw [hr] at hr'; cases hr'; rfl
      subst hAg
      have hrm := List.mem_of_getElem? hr
      have hok := h.ok r' hrm
      have hcl := rcall_any (some ⟨g, o, none⟩) n c q a
      unfold rdisk at hcl
      unfold str at k0
      have hcl2 := hide hcl
      clear hcl
      have hgl := World.block_lt_of_cell? W ⟨g, o + i * 3, none⟩ k0
      have hmany := h.many
      have hst' := hide hst
      clear hst
      replace hf := hide hf
      replace hr := hide hr
      replace hn := hide hn
      replace hfd := hide hfd
      clear hr'
      by_cases h1 : a = 1
      · have hda : decide (a = 1) = true := decide_eq_true h1
        have hres : syncM P s = (P.stops, 63) := by unfold syncM writesM; simp only [List.all_cons, List.all_nil, hnmd, Bool.and_self, if_true]; rw [← hst'.out, hfd.out]; show (if P.armed = 1 then _ else _) = _; rw [← ha', if_pos h1]
        obtain ⟨a1, ha1⟩ : ∃ a1, a1 = a - 1 := ⟨_, rfl⟩
        have ha10 : a1 = 0 := by omega
        replace ha10 := hide ha10
        replace h1 := hide h1
        replace hres := hide hres
        replace hq := hide hq
        replace ha' := hide ha'
        go_enter Tryz.func42, Tryz.ntmps42
        go_wp2_with fail
        rw [hWx.out]
        refine hnm.out.mono ?_
        rintro e w1 ⟨rfl, hw1⟩
        replace hw1 := hw1.symm
        subst hw1
        go_wp2_with fail
        refine hfa2.out.mono ?_
        rintro e w1 ⟨rfl, hE1⟩
        have d0' := hE1.cell d0
        have d1' := hE1.cell d1
        have d2' := hE1.cell d2
        have d3' := hE1.cell d3
        have hcl3 := hcl2.out w1 ha
        rw [hda, ← ha1] at hcl3
        replace hcl3 := hide hcl3
        replace ha1 := hide ha1
        go_wp2_with fail
        refine hcl3.out.mono ?_
        rintro e w2 ⟨rfl, hE2⟩
        have hE3 := ((hE.trans hE1).trans hE2).alloc (.cells #[.slice (some ⟨g, o, none⟩) n c, .int .i64 q, .int .i64 a1, .bool true] 29)
        have hr3 := ((hr2.ext hE1).ext hE2).alloc (.cells #[.slice (some ⟨g, o, none⟩) n c, .int .i64 q, .int .i64 a1, .bool true] 29)
        have x0 := hr3.cell 0 rfl
        have x1 := hr3.cell 1 rfl
        have x2 := hr3.cell 2 rfl
        have x3 := hr3.cell 3 rfl
        have y0 := hr3.free 0
        have y1 := hr3.free 1
        have y2 := hr3.free 2
        have y3 := hr3.free 3
        go_wp2_with fail
        have hfin := tup_out hr3 hE3 (Nat.le_succ _) (A := some ⟨g, o, none⟩) (n := n) (c := c) (q := q) (a := a1) (st := true)
        obtain ⟨wf, hwf⟩ : ∃ wf, wf = (((((w2.alloc (.cells #[.slice (some ⟨g, o, none⟩) n c, .int .i64 q, .int .i64 a1, .bool true] 29)).setCell ⟨w.heap.size + 1, 0, none⟩ (.slice (some ⟨g, o, none⟩) n c)).setCell ⟨w.heap.size + 1, 1, none⟩ (.int .i64 q)).setCell ⟨w.heap.size + 1, 2, none⟩ (.int .i64 a1)).setCell ⟨w.heap.size + 1, 3, none⟩ (.bool true)) := ⟨_, rfl⟩
        rw [← hwf] at hfin ⊢
        obtain ⟨z0, z1, z2, z3, hEf, _⟩ := hfin
        refine bodyPost_ret (v := .tuple #[.agg #[.slice (some ⟨g, o, none⟩) n c, .int .i64 q, .int .i64 a1, .bool true], .int .i64 63]) (by simp [results, Tryz.results42, go_sem, z0, z1, z2, z3]) rfl ?_
        rw [hres.out, hq.out, ha10.out]
        exact ⟨some ⟨g, o, none⟩, n, c, R, rfl, h.ext hEf, hP, hEf⟩
      · have hda : decide (a = 1) = false := decide_eq_false h1
        have hres : syncM P s = (P.goes (withG fname (r'.pl.1, r'.pl.2.1, r'.pl.2.1.length) P.L), 0) := by unfold syncM writesM; simp only [List.all_cons, List.all_nil, hnmd, Bool.and_self, if_true]; rw [← hst'.out, hfd.out]; show (if P.armed = 1 then _ else _) = _; rw [← ha', if_neg h1]
        have hLp : (withG RE.name { r' with sure := r'.b.length } R).map RE.pl = withG fname (r'.pl.1, r'.pl.2.1, r'.pl.2.1.length) P.L := by
          rw [map_with (nm := RE.name) (nm' := fname) (g := RE.pl) (fun _ => rfl), hP]
          rfl
        obtain ⟨N2, hN2⟩ : ∃ N2 : Nat → Prop, N2 = fun k => N k ∨ (w.heap.size ≤ k ∧ k < w.heap.size + 2) := ⟨_, rfl⟩
        have hsub : ∀ k, k < w.heap.size → N2 k → N k := by
          intro k hk hn
          rw [hN2] at hn
          rcases hn with hn | hn
          · exact hn
          · omega
        have hN2s : ∀ k, N2 k → k < W.heap.size := by
          intro k hn
          rw [hN2] at hn
          rcases hn with hn | hn
          · have := hN k hn
            have := hE.size
            omega
          · rw [hWs.out]; omega
        obtain ⟨a1, ha1⟩ : ∃ a1, a1 = a - 1 := ⟨_, rfl⟩
        replace hres := hide hres
        replace hLp := hide hLp
        replace hq := hide hq
        replace ha' := hide ha'
        replace hN2 := hN2
        go_enter Tryz.func42, Tryz.ntmps42
        go_wp2_with fail
        rw [hWx.out]
        refine hnm.out.mono ?_
        rintro e w1 ⟨rfl, hw1⟩
        replace hw1 := hw1.symm
        subst hw1
        go_wp2_with fail
        refine hfa2.out.mono ?_
        rintro e w1 ⟨rfl, hE1⟩
        have d0' := hE1.cell d0
        have d1' := hE1.cell d1
        have d2' := hE1.cell d2
        have d3' := hE1.cell d3
        have hcl3 := hcl2.out w1 ha
        rw [hda, ← ha1] at hcl3
        replace hcl3 := hide hcl3
        replace ha1 := hide ha1
        go_wp2_with fail
        refine hcl3.out.mono ?_
        rintro e w2 ⟨rfl, hE2⟩
        have hE12 := hE1.trans hE2
        have hE02 := hE.trans hE12
        have hR2 : RS w2 N2 (some ⟨g, o, none⟩) n c R := h.chg (Chg.of_ext hE02 (fun _ => False)) (fun _ _ h => h.elim) hsub
        have hok2 : ROk w2 N2 r' := hok.chg (Chg.of_ext hE02 (fun _ => False)) (fun _ _ h => h.elim) hsub
        have e0 := hE12.cell d0
        have m0 := hE12.cell k0
        have m1 := hE12.cell k1
        have m2 := hE12.cell k2
        have hgl2 : g < w2.heap.size := Nat.lt_of_lt_of_le hgl hE12.size
        have hdl : w.heap.size < w2.heap.size := Nat.lt_of_lt_of_le (by rw [hWs.out]; omega) hE12.size
        have hN3 : ∀ k, N2 k → k < w2.heap.size := fun k hk => Nat.lt_of_lt_of_le (hN2s k hk) hE12.size
        have hrw := hr2.ext hE12
        obtain ⟨W4, hW4⟩ : ∃ W4, W4 = (w2.alloc (.cells #[.slice (some ⟨g, o, none⟩) n c, .int .i64 q, .int .i64 a1, .bool false] 29)).alloc (.cells #[.string ⟨r'.name.toArray⟩, .slice r'.A r'.b.length r'.c, .int .i64 r'.b.length] 110) := ⟨_, rfl⟩
        have hE4 : Ext w2 W4 := by rw [hW4]; exact ((Ext.refl w2).alloc _).alloc _
        have hok4 : ROk W4 N2 { r' with sure := r'.b.length } := by
          have := hok2.ext hE4
          exact ⟨this.bytes, this.cap, this.nil, this.away, Nat.le_refl _, this.name, this.len⟩
        have hwi := rwith_any N2 (some ⟨g, o, none⟩) n c q a1 false R { r' with sure := r'.b.length } W4 (hR2.ext hE4) hok4 (fun k hk => Nat.lt_of_lt_of_le (hN3 k hk) hE4.size) (Nat.le_trans (len_with_in hrm rfl) (by rw [← h.len]; exact hmany))
        unfold rdisk RE.agg str at hwi
        have hW4x := hide hW4.symm
        clear hW4
        replace hwi := hide hwi
        go_wp2_with fail
        rw [hW4x.out]
        refine hwi.out.mono ?_
        rintro e w5 ⟨A5, n5, c5, rfl, hR5, hE5⟩
        have hr5 := (hrw.ext hE4).ext hE5
        have hE05 := (hE02.trans hE4).trans hE5
        have x0 := hr5.cell 0 rfl
        have x1 := hr5.cell 1 rfl
        have x2 := hr5.cell 2 rfl
        have x3 := hr5.cell 3 rfl
        have y0 := hr5.free 0
        have y1 := hr5.free 1
        have y2 := hr5.free 2
        have y3 := hr5.free 3
        go_wp2_with fail
        have hfin := tup_out hr5 hE05 (Nat.le_succ _) (A := A5) (n := n5) (c := c5) (q := q) (a := a1) (st := false)
        obtain ⟨wf, hwf⟩ : ∃ wf, wf = ((((w5.setCell ⟨w.heap.size + 1, 0, none⟩ (.slice A5 n5 c5)).setCell ⟨w.heap.size + 1, 1, none⟩ (.int .i64 q)).setCell ⟨w.heap.size + 1, 2, none⟩ (.int .i64 a1)).setCell ⟨w.heap.size + 1, 3, none⟩ (.bool false)) := ⟨_, rfl⟩
        rw [← hwf] at hfin ⊢
        obtain ⟨z0, z1, z2, z3, hEf, hcf⟩ := hfin
        refine bodyPost_ret (v := .tuple #[.agg #[.slice A5 n5 c5, .int .i64 q, .int .i64 a1, .bool false], .int .i64 0]) (by simp [results, Tryz.results42, go_sem, z0, z1, z2, z3]) rfl ?_
        rw [hres.out]
        exact ⟨A5, n5, c5, _, by rw [hq.out, ha1.out, ha'.out, hst'.out]; rfl, hR5.chg hcf (fun k _ hk => by rw [hN2, hk]; exact .inr ⟨Nat.le_succ _, by omega⟩) (fun k _ hk => by rw [hN2]; exact .inl hk), hLp.out, hEf⟩
    · have hfa2 := hfa.out
      rw [hf] at hfa2
      simp only [Option.getD_none, Option.isSome_none] at hfa2
      have hres : syncM P s = (P, 61) := by unfold syncM writesM; simp only [List.all_cons, List.all_nil, hnmd, Bool.and_self, if_true]; rw [← hst, hfd]; rfl
      replace hfa2 := hide hfa2
      replace hres := hide hres
      replace hq := hide hq
      replace ha' := hide ha'
      replace hst := hide hst
      go_enter Tryz.func42, Tryz.ntmps42
      go_wp2_with fail
      rw [hWx.out]
      refine hnm.out.mono ?_
      rintro e w1 ⟨rfl, hw1⟩
      replace hw1 := hw1.symm
      subst hw1
      go_wp2_with fail
      refine hfa2.out.mono ?_
      rintro e w1 ⟨rfl, hE1⟩
      have hr3 := hr2.ext hE1
      have hE3 := hE.trans hE1
      have d0' := hE1.cell d0
      have d1' := hE1.cell d1
      have d2' := hE1.cell d2
      have d3' := hE1.cell d3
      have x0 := hr3.cell 0 rfl
      have x1 := hr3.cell 1 rfl
      have x2 := hr3.cell 2 rfl
      have x3 := hr3.cell 3 rfl
      have y0 := hr3.free 0
      have y1 := hr3.free 1
      have y2 := hr3.free 2
      have y3 := hr3.free 3
      go_wp2_with fail
      have hfin := tup_out hr3 hE3 (Nat.le_succ _) (A := A) (n := n) (c := c) (q := q) (a := a) (st := false)
      obtain ⟨wf, hwf⟩ : ∃ wf, wf = ((((w1.setCell ⟨w.heap.size + 1, 0, none⟩ (.slice A n c)).setCell ⟨w.heap.size + 1, 1, none⟩ (.int .i64 q)).setCell ⟨w.heap.size + 1, 2, none⟩ (.int .i64 a)).setCell ⟨w.heap.size + 1, 3, none⟩ (.bool false)) := ⟨_, rfl⟩
      rw [← hwf] at hfin ⊢
      obtain ⟨z0, z1, z2, z3, hEf, _⟩ := hfin
      exact bodyPost_ret (v := .tuple #[.agg #[.slice A n c, .int .i64 q, .int .i64 a, .bool false], .int .i64 61]) (by simp [results, Tryz.results42, go_sem, z0, z1, z2, z3]) rfl (same.out 61 wf hres.out hEf)
end Go.Proofs.YtohphanbnhiodaaGreat

/- loggiaref06: Read. -/
namespace Go.Proofs.YtohphanbnhiodaaGreat
open Go.RowKit Go.Maps

/-- What the document's Read answers. -/
def RReadPost (P : PD) (s : List UInt8) (fr n : Int) (w : World) (e : Ending) (w' : World) : Prop :=
  ∃ A k c, e = .returned (.tuple #[.slice A k c, .int .i64 (readM P s fr n).2]) ∧ Bs w' A (readM P s fr n).1 ∧ k = (readM P s fr n).1.length ∧ Ext w w'
theorem rread_err {P : PD} {s : List UInt8} {fr n : Int} {w w' : World} {k : Nat} (h : readM P s fr n = ([], k)) (he : Ext w w') : RReadPost P s fr n w (.returned (.tuple #[.slice none 0 0, .int .i64 k])) w' := by
  unfold RReadPost
  rw [h]
  exact ⟨none, 0, 0, rfl, .inl rfl, rfl, he⟩
set_option maxRecDepth 100000 in
set_option maxHeartbeats 2000000 in
theorem rread_any (N : Nat → Prop) (A : Option Addr) (n c : Nat) (P : PD) (R : List RE) (s : List UInt8) (fr k : Int) (w : World) (h : RS w N A n c R) (hP : R.map RE.pl = P.L) (hs : s.length ≤ 9223372036854775807) (hf1 : -9223372036854775808 ≤ fr) (hf2 : fr ≤ 9223372036854775807)
    (hn1 : -9223372036854775808 ≤ k) (hn2 : k ≤ 9223372036854775807) :
    Calls Tryz.prog 45 #[rdisk A n c P.quota P.armed P.stopped, str s, .int .i64 fr, .int .i64 k] w (RReadPost P s fr k w) := by
  obtain ⟨q, hq⟩ : ∃ q, q = P.quota := ⟨_, rfl⟩
  obtain ⟨a, ha'⟩ : ∃ q, q = P.armed := ⟨_, rfl⟩
  obtain ⟨st, hst⟩ : ∃ q, q = P.stopped := ⟨_, rfl⟩
  rw [← hq, ← ha', ← hst]
  obtain ⟨W, hW⟩ : ∃ W, W = w.alloc (.cells #[.slice A n c, .int .i64 q, .int .i64 a, .bool st] 29) := ⟨_, rfl⟩
  have hE : Ext w W := by rw [hW]; exact (Ext.refl w).alloc _
  have hd : Row W w.heap.size 29 #[.slice A n c, .int .i64 q, .int .i64 a, .bool st] := by rw [hW]; exact Row.new w _ _
  have hnm := rnamed_any s W hs
  have hfa := rfind_any N A n c q a st R s W (h.ext hE)
  have hWx := hide hW.symm
  clear hW
  have d0 : W.cell? ⟨w.heap.size, 0, none⟩ = some (.slice A n c) := hd.cell 0 rfl
  have d1 : W.cell? ⟨w.heap.size, 1, none⟩ = some (.int .i64 q) := hd.cell 1 rfl
  have d2 : W.cell? ⟨w.heap.size, 2, none⟩ = some (.int .i64 a) := hd.cell 2 rfl
  have d3 : W.cell? ⟨w.heap.size, 3, none⟩ = some (.bool st) := hd.cell 3 rfl
  unfold rdisk str at hfa ⊢
  unfold str at hnm
  replace hfa := hide hfa
  replace hq := hide hq
  replace ha' := hide ha'
  cases hnmd : namedM s with
  | false =>
    have hres : readM P s fr k = ([], 60) := by unfold readM; rw [hnmd]; rfl
    have fin := rread_err hres hE
    rw [hnmd] at hnm
    replace hnm := hide hnm
    replace fin := hide fin
    replace hst := hide hst
    clear hres hnmd
    go_enter Tryz.func45, Tryz.ntmps45
    go_wp2_with fail
    rw [hWx.out]
    refine hnm.out.mono ?_
    rintro e w1 ⟨rfl, hw1⟩
    replace hw1 := hw1.symm
    subst hw1
    go_wp2_with fail
    go_ret2
    exact fin.out
  | true =>
    rw [hnmd] at hnm
    replace hnm := hide hnm
    cases st with
    | true =>
      have hres : readM P s fr k = ([], 63) := by unfold readM; rw [hnmd, ← hst]; rfl
      have fin := rread_err hres hE
      replace fin := hide fin
      replace hst := hide hst
      clear hres hnmd
      go_enter Tryz.func45, Tryz.ntmps45
      go_wp2_with fail
      rw [hWx.out]
      refine hnm.out.mono ?_
      rintro e w1 ⟨rfl, hw1⟩
      replace hw1 := hw1.symm
      subst hw1
      go_wp2_with fail
      go_ret2
      exact fin.out
    | false =>
      rcases rfind_pl hP s with ⟨i, r, hf, hr, hn, hfd⟩ | ⟨hf, hfd⟩
      · have hfa2 := hfa.out
        rw [hf] at hfa2
        simp only [Option.getD_some, Option.isSome_some] at hfa2
        replace hfa2 := hide hfa2
        have hin : i < n := by rw [h.len]; exact (List.getElem?_eq_some_iff.1 hr).1
        obtain ⟨g, o, r', hAg, hr', k0, k1, k2⟩ := (h.ext hE).at_ hin
        obtain rfl : r' = r := by rw [hr] at hr'; cases hr'; rfl
        subst hAg
        have hrm := List.mem_of_getElem? hr
        have hok := h.ok r' hrm
        have hgl := World.block_lt_of_cell? W ⟨g, o + i * 3 + 1, none⟩ k1
        have hmany := h.many
        obtain ⟨bl, hbl⟩ : ∃ x, x = r'.b.length := ⟨_, rfl⟩
        have hlen := hok.len
        rw [← hbl] at k1 hlen
        replace hf := hide hf
        replace hr := hide hr
        replace hn := hide hn
        clear hr' k0 k2
        by_cases hbad : fr < 0 ∨ (bl : Int) < fr ∨ k < 0
        · have hres : readM P s fr k = ([], 5) := by
            unfold readM
            rw [hnmd, ← hst, hfd]
            simp only [if_true]
            show (if fr < 0 ∨ (r'.b.length : Int) < fr ∨ k < 0 then _ else _) = _
            rw [← hbl, if_pos hbad]
          have hcs : fr < 0 ∨ (0 ≤ fr ∧ (bl : Int) < fr) ∨ (0 ≤ fr ∧ fr ≤ bl ∧ k < 0) := by omega
          replace hbl := hide hbl
          replace hst := hide hst
          replace hfd := hide hfd
          have fin : ∀ w1, Ext W w1 → RReadPost P s fr k w (.returned (.tuple #[.slice none 0 0, .int .i64 5])) w1 := fun w1 h1 => rread_err hres (hE.trans h1)
          replace fin := hide fin
          clear hres hnmd hbad
          rcases hcs with h1 | ⟨h0, h1⟩ | ⟨h0, h1, h2⟩
          all_goals
            go_enter Tryz.func45, Tryz.ntmps45
            go_wp2_with fail
            rw [hWx.out]
            refine hnm.out.mono ?_
            rintro e w1 ⟨rfl, hw1⟩
            replace hw1 := hw1.symm
            subst hw1
            go_wp2_with fail
            refine hfa2.out.mono ?_
            rintro e w1 ⟨rfl, hE1⟩
            have d0' := hE1.cell d0
            have k1' := hE1.cell k1
            go_wp2_with fail
            go_ret2
            exact fin.out _ hE1
        · obtain ⟨f, rfl⟩ : ∃ f : Nat, fr = f := ⟨fr.toNat, by omega⟩
          obtain ⟨m, rfl⟩ : ∃ m : Nat, k = m := ⟨k.toNat, by omega⟩
          have hfl : f ≤ bl := by omega
          obtain ⟨k2, hk2⟩ : ∃ k2, k2 = min m (bl - f) := ⟨_, rfl⟩
          have hres : readM P s f m = ((r'.b.drop f).take m, 0) := by
            unfold readM
            rw [hnmd, ← hst, hfd]
            simp only [if_true]
            show (if (f : Int) < 0 ∨ (r'.b.length : Int) < f ∨ (m : Int) < 0 then _ else _) = _
            rw [← hbl, if_neg hbad]
            rfl
          have hmin := run_min2 (P := Tryz.prog) #[3, 3] 3 (x := m) (y := (bl : Int) - f) (m := (k2 : Nat)) (by omega)
          have hcap := hok.cap
          rw [← hbl] at hcap
          obtain ⟨A', c', hsub, hcl, hz', hbk, hkc⟩ := run_sub (t := 34) (e := 5) (fr := f) (k := k2) Tryz.underlying34 (fun W => by kernel_rfl) (n := bl) (by omega) hcap hok.nil (fun a ha => (hok.away a ha).2.2)
          have hl2 : ((r'.b.drop f).take k2).length = k2 := by rw [List.length_take, List.length_drop, ← hbl]; omega
          have htk : (r'.b.drop f).take k2 = (r'.b.drop f).take m := by
            by_cases hc : m ≤ bl - f
            · rw [hk2, Nat.min_eq_left hc]
            · rw [hk2, Nat.min_eq_right (by omega), List.take_of_length_le (i := bl - f) (by rw [List.length_drop, ← hbl]; omega), List.take_of_length_le (i := m) (by rw [List.length_drop, ← hbl]; omega)]
          have fin : ∀ w1, Ext W w1 → RReadPost P s f m w (.returned (.tuple #[.slice A' k2 c', .int .i64 0])) w1 := fun w1 h1 => by
            unfold RReadPost
            rw [hres, ← htk]
            refine ⟨A', k2, c', rfl, ?_, hl2.symm, hE.trans h1⟩
            have := hcl w1 (r'.b.map B8) (by rw [List.length_map, hbl]) ((hok.ext (hE.trans h1)).bytes)
            unfold Bs
            rw [List.map_take, List.map_drop]
            exact this
          have hk2b : (f : Int) + k2 ≤ bl := by omega
          replace fin := hide fin
          replace hbl := hide hbl
          replace hst := hide hst
          replace hfd := hide hfd
          clear hres hnmd htk hl2 hcl hz' hbk hk2
          go_enter Tryz.func45, Tryz.ntmps45
          go_wp2_with fail
          rw [hWx.out]
          refine hnm.out.mono ?_
          rintro e w1 ⟨rfl, hw1⟩
          replace hw1 := hw1.symm
          subst hw1
          go_wp2_with fail
          refine hfa2.out.mono ?_
          rintro e w1 ⟨rfl, hE1⟩
          have d0' := hE1.cell d0
          have k1' := hE1.cell k1
          go_wp2_with fail
          go_ret2
          exact fin.out _ hE1
      · have hfa2 := hfa.out
        rw [hf] at hfa2
        simp only [Option.getD_none, Option.isSome_none] at hfa2
        have hres : readM P s fr k = ([], 61) := by unfold readM; rw [hnmd, ← hst, hfd]; rfl
        replace hfa2 := hide hfa2
        replace hst := hide hst
        go_enter Tryz.func45, Tryz.ntmps45
        go_wp2_with fail
        rw [hWx.out]
        refine hnm.out.mono ?_
        rintro e w1 ⟨rfl, hw1⟩
        replace hw1 := hw1.symm
        subst hw1
        go_wp2_with fail
        refine hfa2.out.mono ?_
        rintro e w1 ⟨rfl, hE1⟩
        have fin := rread_err hres (hE.trans hE1)
        replace fin := hide fin
        clear hres
        go_wp2_with fail
        go_ret2
        exact fin.out
end Go.Proofs.YtohphanbnhiodaaGreat

/- loggiaref15: Size, Sync, Append. -/
namespace Go.Proofs.YtohphanbnhiodaaGreat
open Go.RowKit Go.Maps

theorem tup_set {W : World} {r : Nat} {v0 v1 v2 v3 : Value} (hr : Row W r 29 #[v0, v1, v2, v3]) (w : World) (hE : Ext w W) (hle : w.heap.size ≤ r) (u0 u1 u2 u3 : Value) :
    Row ((((W.setCell ⟨r, 0, none⟩ u0).setCell ⟨r, 1, none⟩ u1).setCell ⟨r, 2, none⟩ u2).setCell ⟨r, 3, none⟩ u3) r 29 #[u0, u1, u2, u3] ∧ Ext w ((((W.setCell ⟨r, 0, none⟩ u0).setCell ⟨r, 1, none⟩ u1).setCell ⟨r, 2, none⟩ u2).setCell ⟨r, 3, none⟩ u3) :=
  ⟨(((hr.put 0 _).put 1 _).put 2 _).put 3 _, (((hE.setCell hle _).setCell hle _).setCell hle _).setCell hle _⟩
theorem RS.lower {w : World} {N : Nat → Prop} {A : Option Addr} {n c : Nat} {R : List RE} (h : RS w N A n c R) {w' : World} (hc : Ext w w') : RS w' N A n c R := h.ext hc
theorem away2 {w W : World} {N N2 : Nat → Prop} {A : Option Addr} {n c : Nat} {R : List RE} (h : RS w N A n c R) (hE : Ext w W) (hN2 : N2 = fun k => N k ∨ (w.heap.size ≤ k ∧ k < W.heap.size)) : RS W N2 A n c R :=
  h.chg (Chg.of_ext hE (fun _ => False)) (fun _ _ h => h.elim) fun k hk h2 => by
    rw [hN2] at h2
    rcases h2 with h2 | h2
    · exact h2
    · omega
theorem away2_lt {w W W1 : World} {N N2 : Nat → Prop} (hN : ∀ k, N k → k < w.heap.size) (hE : Ext w W) (hN2 : N2 = fun k => N k ∨ (w.heap.size ≤ k ∧ k < W.heap.size)) (hE1 : Ext W W1) : ∀ k, N2 k → k < W1.heap.size := fun k h2 => by
  rw [hN2] at h2
  have := hE1.size
  have := hE.size
  rcases h2 with h2 | h2
  · have := hN k h2; omega
  · omega
theorem back2 {w W W1 W2 : World} {N N2 : Nat → Prop} {A : Option Addr} {n c r : Nat} {R : List RE} {u0 u1 u2 u3 : Value} (h : RS W1 N2 A n c R) (hN2 : N2 = fun k => N k ∨ (w.heap.size ≤ k ∧ k < W.heap.size)) (hr : w.heap.size ≤ r) (hr2 : r < W.heap.size)
    (h2 : W2 = ((((W1.setCell ⟨r, 0, none⟩ u0).setCell ⟨r, 1, none⟩ u1).setCell ⟨r, 2, none⟩ u2).setCell ⟨r, 3, none⟩ u3)) : RS W2 N A n c R := by
  have hc : Chg (fun k => k = r) W1 W2 := by
    rw [h2]
    exact (((Chg.of_set (S := fun k => k = r) W1 (a := ⟨r, 0, none⟩) _ rfl).trans (Chg.of_set (S := fun k => k = r) _ (a := ⟨r, 1, none⟩) _ rfl) fun _ _ h => h).trans (Chg.of_set (S := fun k => k = r) _ (a := ⟨r, 2, none⟩) _ rfl) fun _ _ h => h).trans (Chg.of_set (S := fun k => k = r) _ (a := ⟨r, 3, none⟩) _ rfl) fun _ _ h => h
  exact h.chg hc (fun k _ hk => by rw [hN2, hk]; exact .inr ⟨hr, hr2⟩) (fun k _ hk => by rw [hN2]; exact .inl hk)
theorem sync_61 {P : PD} {s : List UInt8} (h : (syncM P s).2 = 61) : (syncM P s).1 = P := by
  revert h
  unfold syncM writesM
  split
  · split
    · intro _; rfl
    · split
      · split
        · intro h; cases h
        · intro h; cases h
      · intro _; rfl
  · intro _; rfl
set_option maxRecDepth 100000 in
theorem rwsize_any (N : Nat → Prop) (A : Option Addr) (n c : Nat) (P : PD) (R : List RE) (k : Nat) (w : World) (h : RS w N A n c R) (hP : R.map RE.pl = P.L) (hk : k ≤ 99999999) :
    Calls Tryz.prog 27 #[rdisk A n c P.quota P.armed P.stopped, .int .i64 (k : Int)] w fun e w' => e = .returned (.int .i64 (sizeM P (nameW k)).1) ∧ Ext w w' := by
  have hnm := fun w1 => rname_yes k w1 hk
  have hsz := fun w1 (hE : Ext w w1) => rsize_any N A n c P R (nameW k) w1 (h.ext hE) hP
  obtain ⟨Z, hZ⟩ : ∃ Z, Z = sizeM P (nameW k) := ⟨_, rfl⟩
  obtain ⟨nm, hnn⟩ : ∃ nm, nm = nameW k := ⟨_, rfl⟩
  simp only [← hZ] at hsz ⊢
  simp only [← hnn] at hnm hsz
  obtain ⟨q, hq⟩ : ∃ q, q = P.quota := ⟨_, rfl⟩
  obtain ⟨a, ha'⟩ : ∃ q, q = P.armed := ⟨_, rfl⟩
  obtain ⟨st, hst⟩ : ∃ q, q = P.stopped := ⟨_, rfl⟩
  obtain ⟨W, hW⟩ : ∃ W, W = w.alloc (.cells #[.slice A n c, .int .i64 q, .int .i64 a, .bool st] 29) := ⟨_, rfl⟩
  have hE : Ext w W := by rw [hW]; exact (Ext.refl w).alloc _
  have hd : Row W w.heap.size 29 #[.slice A n c, .int .i64 q, .int .i64 a, .bool st] := by rw [hW]; exact Row.new w _ _
  rw [← hq, ← ha', ← hst]
  simp only [← hq, ← ha', ← hst] at hsz
  unfold rdisk at hsz ⊢
  unfold str at hsz
  replace hnm := hide hnm
  replace hsz := hide hsz
  replace hZ := hide hZ
  replace hnn := hide hnn
  replace hW := hide hW
  clear hq ha' hst
  go_enter Tryz.func27, Tryz.ntmps27
  go_wp2_with fail
  rw [← hW.out]
  refine (hnm.out W).mono ?_
  rintro e w1 ⟨rfl, hE1⟩
  have d0 : (w1).cell? ⟨w.heap.size, 0, none⟩ = some (.slice A n c) := (hd.ext hE1).cell 0 rfl
  have d1 : (w1).cell? ⟨w.heap.size, 1, none⟩ = some (.int .i64 q) := (hd.ext hE1).cell 1 rfl
  have d2 : (w1).cell? ⟨w.heap.size, 2, none⟩ = some (.int .i64 a) := (hd.ext hE1).cell 2 rfl
  have d3 : (w1).cell? ⟨w.heap.size, 3, none⟩ = some (.bool st) := (hd.ext hE1).cell 3 rfl
  go_wp2_with fail
  refine (hsz.out w1 (hE.trans hE1)).mono ?_
  rintro e w2 ⟨rfl, hE2⟩
  go_wp2_with fail
  go_ret
  exact ⟨rfl, (hE.trans hE1).trans hE2⟩
set_option maxRecDepth 100000 in
set_option maxHeartbeats 8000000 in
theorem rwsync_any (N : Nat → Prop) (A : Option Addr) (n c : Nat) (P : PD) (R : List RE) (k : Nat) (w : World) (h : RS w N A n c R) (hP : R.map RE.pl = P.L) (hN : ∀ k, N k → k < w.heap.size) (hk : k ≤ 99999999) (ha : P.armed ≤ 9223372036854775807) :
    Calls Tryz.prog 13 #[rdisk A n c P.quota P.armed P.stopped, .int .i64 (k : Int)] w (RNext N ((syncM P (nameW k)).1, if (syncM P (nameW k)).2 = 61 then 0 else (syncM P (nameW k)).2) w) := by
  have hnm := fun w1 => rname_yes k w1 hk
  have hcall := fun (N2 : Nat → Prop) w1 (h2 : RS w1 N2 A n c R) (hN2 : ∀ k, N2 k → k < w1.heap.size) => rsync_any N2 A n c P R (nameW k) w1 h2 hP hN2 (by rw [nameW_len]; omega) ha
  have h61 := @sync_61 P (nameW k)
  obtain ⟨Z, hZ⟩ : ∃ Z, Z = syncM P (nameW k) := ⟨_, rfl⟩
  obtain ⟨nm, hnn⟩ : ∃ nm, nm = nameW k := ⟨_, rfl⟩
  simp only [← hZ] at hcall h61 ⊢
  simp only [← hnn] at hnm hcall
  obtain ⟨P2, z⟩ := Z
  simp only at h61 ⊢
  obtain ⟨q, hq⟩ : ∃ q, q = P.quota := ⟨_, rfl⟩
  obtain ⟨a, ha'⟩ : ∃ q, q = P.armed := ⟨_, rfl⟩
  obtain ⟨st, hst⟩ : ∃ q, q = P.stopped := ⟨_, rfl⟩
  obtain ⟨W, hW⟩ : ∃ W, W = (w.alloc (.cells #[.slice A n c, .int .i64 q, .int .i64 a, .bool st] 29)).alloc (.cells #[.slice none 0 0, .int .i64 0, .int .i64 0, .bool false] 29) := ⟨_, rfl⟩
  have hE : Ext w W := by rw [hW]; exact ((Ext.refl w).alloc _).alloc _
  have hd : Row W w.heap.size 29 #[.slice A n c, .int .i64 q, .int .i64 a, .bool st] := by rw [hW]; exact (Row.new w _ _).alloc _
  have hr2 : Row W (w.heap.size + 1) 29 #[.slice none 0 0, .int .i64 0, .int .i64 0, .bool false] := by
    have := Row.new (w.alloc (.cells #[.slice A n c, .int .i64 q, .int .i64 a, .bool st] 29)) 29 #[.slice none 0 0, .int .i64 0, .int .i64 0, .bool false]
    rw [size_alloc] at this
    rw [hW]
    exact this
  rw [← hq, ← ha', ← hst]
  obtain ⟨N2, hN2⟩ : ∃ N2 : Nat → Prop, N2 = fun k => N k ∨ (w.heap.size ≤ k ∧ k < W.heap.size) := ⟨_, rfl⟩
  have hsy := fun w1 (hE1 : Ext W w1) => hcall N2 w1 ((away2 h hE hN2).ext hE1) (away2_lt hN hE hN2 hE1)
  have hwlt2 := hide (show w.heap.size + 1 < W.heap.size from hr2.lt)
  clear hcall
  simp only [← hq, ← ha', ← hst] at hsy
  unfold RNext at hsy
  simp only at hsy
  unfold rdisk at hsy ⊢
  unfold str at hsy
  replace hnm := hide hnm
  replace hsy := hide hsy
  replace hZ := hide hZ
  replace hnn := hide hnn
  replace hW := hide hW
  replace hq := hide hq
  replace ha' := hide ha'
  replace hst := hide hst
  by_cases hz : z = 61
  · have hz1 : (z : Int) = 61 := by omega
    have hP2 := hide (h61 hz)
    rw [if_pos hz]
    subst hz
    clear h61 hz1
    go_enter Tryz.func13, Tryz.ntmps13
    go_wp2_with fail
    rw [← hW.out]
    refine (hnm.out W).mono ?_
    rintro e w1 ⟨rfl, hE1⟩
    have d0 : (w1).cell? ⟨w.heap.size, 0, none⟩ = some (.slice A n c) := (hd.ext hE1).cell 0 rfl
    have d1 : (w1).cell? ⟨w.heap.size, 1, none⟩ = some (.int .i64 q) := (hd.ext hE1).cell 1 rfl
    have d2 : (w1).cell? ⟨w.heap.size, 2, none⟩ = some (.int .i64 a) := (hd.ext hE1).cell 2 rfl
    have d3 : (w1).cell? ⟨w.heap.size, 3, none⟩ = some (.bool st) := (hd.ext hE1).cell 3 rfl
    go_wp2_with fail
    refine (hsy.out w1 hE1).mono ?_
    rintro e w2 ⟨A1, n1, c1, R1, rfl, hR1, hP1, hE2⟩
    obtain ⟨W3, hW3⟩ : ∃ W3, W3 = w2.alloc (.cells #[.slice A1 n1 c1, .int .i64 P2.quota, .int .i64 P2.armed, .bool P2.stopped] 29) := ⟨_, rfl⟩
    have hE3 : Ext w2 W3 := by rw [hW3]; exact (Ext.refl w2).alloc _
    have hd3 := hd.ext ((hE1.trans hE2).trans hE3)
    have hr3 := hr2.ext ((hE1.trans hE2).trans hE3)
    have hEf := hE.trans ((hE1.trans hE2).trans hE3)
    obtain ⟨hrf, hEff⟩ := tup_set hr3 w hEf (Nat.le_succ _) (.slice A n c) (.int .i64 q) (.int .i64 a) (.bool st)
    have hfin : RNext N (P2, 0) w (.returned (.tuple #[.agg #[.slice A n c, .int .i64 q, .int .i64 a, .bool st], .int .i64 0])) ((((W3.setCell ⟨w.heap.size + 1, 0, none⟩ (.slice A n c)).setCell ⟨w.heap.size + 1, 1, none⟩ (.int .i64 q)).setCell ⟨w.heap.size + 1, 2, none⟩ (.int .i64 a)).setCell ⟨w.heap.size + 1, 3, none⟩ (.bool st)) := by
      rw [hP2.out, hq.out, ha'.out, hst.out] at *
      exact rnext_same h hP hEff
    replace hfin := hide hfin
    rw [hW3] at hd3 hr3
    have e0 : (w2.alloc (.cells #[.slice A1 n1 c1, .int .i64 P2.quota, .int .i64 P2.armed, .bool P2.stopped] 29)).cell? ⟨w.heap.size, 0, none⟩ = some (.slice A n c) := (hd3).cell 0 rfl
    have e1 : (w2.alloc (.cells #[.slice A1 n1 c1, .int .i64 P2.quota, .int .i64 P2.armed, .bool P2.stopped] 29)).cell? ⟨w.heap.size, 1, none⟩ = some (.int .i64 q) := (hd3).cell 1 rfl
    have e2 : (w2.alloc (.cells #[.slice A1 n1 c1, .int .i64 P2.quota, .int .i64 P2.armed, .bool P2.stopped] 29)).cell? ⟨w.heap.size, 2, none⟩ = some (.int .i64 a) := (hd3).cell 2 rfl
    have e3 : (w2.alloc (.cells #[.slice A1 n1 c1, .int .i64 P2.quota, .int .i64 P2.armed, .bool P2.stopped] 29)).cell? ⟨w.heap.size, 3, none⟩ = some (.bool st) := (hd3).cell 3 rfl
    have g0 : (w2.alloc (.cells #[.slice A1 n1 c1, .int .i64 P2.quota, .int .i64 P2.armed, .bool P2.stopped] 29)).cell? ⟨w.heap.size + 1, 0, none⟩ = some (.slice none 0 0) := (hr3).cell 0 rfl
    have g1 : (w2.alloc (.cells #[.slice A1 n1 c1, .int .i64 P2.quota, .int .i64 P2.armed, .bool P2.stopped] 29)).cell? ⟨w.heap.size + 1, 1, none⟩ = some (.int .i64 0) := (hr3).cell 1 rfl
    have g2 : (w2.alloc (.cells #[.slice A1 n1 c1, .int .i64 P2.quota, .int .i64 P2.armed, .bool P2.stopped] 29)).cell? ⟨w.heap.size + 1, 2, none⟩ = some (.int .i64 0) := (hr3).cell 2 rfl
    have g3 : (w2.alloc (.cells #[.slice A1 n1 c1, .int .i64 P2.quota, .int .i64 P2.armed, .bool P2.stopped] 29)).cell? ⟨w.heap.size + 1, 3, none⟩ = some (.bool false) := (hr3).cell 3 rfl
    have f0 := (hr3).free 0
    have f1 := (hr3).free 1
    have f2 := (hr3).free 2
    have f3 := (hr3).free 3
    clear d0 d1 d2 d3 hR1 hP1 hP2
    replace hW3 := hide hW3
    go_wp2_with fail
    rw [← hW3.out]
    obtain ⟨wf, hwf⟩ : ∃ wf, wf = ((((W3.setCell ⟨w.heap.size + 1, 0, none⟩ (.slice A n c)).setCell ⟨w.heap.size + 1, 1, none⟩ (.int .i64 q)).setCell ⟨w.heap.size + 1, 2, none⟩ (.int .i64 a)).setCell ⟨w.heap.size + 1, 3, none⟩ (.bool st)) := ⟨_, rfl⟩
    rw [← hwf] at hfin hrf ⊢
    have z0 := hrf.cell 0 rfl
    have z1 := hrf.cell 1 rfl
    have z2 := hrf.cell 2 rfl
    have z3 := hrf.cell 3 rfl
    exact bodyPost_ret (v := .tuple #[.agg #[.slice A n c, .int .i64 q, .int .i64 a, .bool st], .int .i64 0]) (by simp [results, Tryz.results13, go_sem, z0, z1, z2, z3]) rfl hfin.out
  · have hz1 : ¬ (z : Int) = 61 := by omega
    rw [if_neg hz]
    clear h61 hz
    go_enter Tryz.func13, Tryz.ntmps13
    go_wp2_with fail
    rw [← hW.out]
    refine (hnm.out W).mono ?_
    rintro e w1 ⟨rfl, hE1⟩
    have d0 : (w1).cell? ⟨w.heap.size, 0, none⟩ = some (.slice A n c) := (hd.ext hE1).cell 0 rfl
    have d1 : (w1).cell? ⟨w.heap.size, 1, none⟩ = some (.int .i64 q) := (hd.ext hE1).cell 1 rfl
    have d2 : (w1).cell? ⟨w.heap.size, 2, none⟩ = some (.int .i64 a) := (hd.ext hE1).cell 2 rfl
    have d3 : (w1).cell? ⟨w.heap.size, 3, none⟩ = some (.bool st) := (hd.ext hE1).cell 3 rfl
    go_wp2_with fail
    refine (hsy.out w1 hE1).mono ?_
    rintro e w2 ⟨A1, n1, c1, R1, rfl, hR1, hP1, hE2⟩
    obtain ⟨W3, hW3⟩ : ∃ W3, W3 = w2.alloc (.cells #[.slice A1 n1 c1, .int .i64 P2.quota, .int .i64 P2.armed, .bool P2.stopped] 29) := ⟨_, rfl⟩
    have hE3 : Ext w2 W3 := by rw [hW3]; exact (Ext.refl w2).alloc _
    have hr3 := hr2.ext ((hE1.trans hE2).trans hE3)
    have hEf := hE.trans ((hE1.trans hE2).trans hE3)
    obtain ⟨hrf, hEff⟩ := tup_set hr3 w hEf (Nat.le_succ _) (.slice A1 n1 c1) (.int .i64 P2.quota) (.int .i64 P2.armed) (.bool P2.stopped)
    have hfin : RNext N (P2, z) w (.returned (.tuple #[.agg #[.slice A1 n1 c1, .int .i64 P2.quota, .int .i64 P2.armed, .bool P2.stopped], .int .i64 z])) ((((W3.setCell ⟨w.heap.size + 1, 0, none⟩ (.slice A1 n1 c1)).setCell ⟨w.heap.size + 1, 1, none⟩ (.int .i64 P2.quota)).setCell ⟨w.heap.size + 1, 2, none⟩ (.int .i64 P2.armed)).setCell ⟨w.heap.size + 1, 3, none⟩ (.bool P2.stopped)) := by
      exact ⟨A1, n1, c1, R1, rfl, back2 (hR1.ext hE3) hN2 (Nat.le_succ _) hwlt2.out rfl, hP1, hEff⟩
    replace hfin := hide hfin
    have hd3 : Row W3 w2.heap.size 29 #[.slice A1 n1 c1, .int .i64 P2.quota, .int .i64 P2.armed, .bool P2.stopped] := by rw [hW3]; exact Row.new w2 _ _
    rw [hW3] at hd3 hr3
    have e0 : (w2.alloc (.cells #[.slice A1 n1 c1, .int .i64 P2.quota, .int .i64 P2.armed, .bool P2.stopped] 29)).cell? ⟨w2.heap.size, 0, none⟩ = some (.slice A1 n1 c1) := (hd3).cell 0 rfl
    have e1 : (w2.alloc (.cells #[.slice A1 n1 c1, .int .i64 P2.quota, .int .i64 P2.armed, .bool P2.stopped] 29)).cell? ⟨w2.heap.size, 1, none⟩ = some (.int .i64 P2.quota) := (hd3).cell 1 rfl
    have e2 : (w2.alloc (.cells #[.slice A1 n1 c1, .int .i64 P2.quota, .int .i64 P2.armed, .bool P2.stopped] 29)).cell? ⟨w2.heap.size, 2, none⟩ = some (.int .i64 P2.armed) := (hd3).cell 2 rfl
    have e3 : (w2.alloc (.cells #[.slice A1 n1 c1, .int .i64 P2.quota, .int .i64 P2.armed, .bool P2.stopped] 29)).cell? ⟨w2.heap.size, 3, none⟩ = some (.bool P2.stopped) := (hd3).cell 3 rfl
    have g0 : (w2.alloc (.cells #[.slice A1 n1 c1, .int .i64 P2.quota, .int .i64 P2.armed, .bool P2.stopped] 29)).cell? ⟨w.heap.size + 1, 0, none⟩ = some (.slice none 0 0) := (hr3).cell 0 rfl
    have g1 : (w2.alloc (.cells #[.slice A1 n1 c1, .int .i64 P2.quota, .int .i64 P2.armed, .bool P2.stopped] 29)).cell? ⟨w.heap.size + 1, 1, none⟩ = some (.int .i64 0) := (hr3).cell 1 rfl
    have g2 : (w2.alloc (.cells #[.slice A1 n1 c1, .int .i64 P2.quota, .int .i64 P2.armed, .bool P2.stopped] 29)).cell? ⟨w.heap.size + 1, 2, none⟩ = some (.int .i64 0) := (hr3).cell 2 rfl
    have g3 : (w2.alloc (.cells #[.slice A1 n1 c1, .int .i64 P2.quota, .int .i64 P2.armed, .bool P2.stopped] 29)).cell? ⟨w.heap.size + 1, 3, none⟩ = some (.bool false) := (hr3).cell 3 rfl
    have f0 := (hr3).free 0
    have f1 := (hr3).free 1
    have f2 := (hr3).free 2
    have f3 := (hr3).free 3
    clear d0 d1 d2 d3 hR1 hP1
    replace hW3 := hide hW3
    go_wp2_with fail
    rw [← hW3.out]
    obtain ⟨wf, hwf⟩ : ∃ wf, wf = ((((W3.setCell ⟨w.heap.size + 1, 0, none⟩ (.slice A1 n1 c1)).setCell ⟨w.heap.size + 1, 1, none⟩ (.int .i64 P2.quota)).setCell ⟨w.heap.size + 1, 2, none⟩ (.int .i64 P2.armed)).setCell ⟨w.heap.size + 1, 3, none⟩ (.bool P2.stopped)) := ⟨_, rfl⟩
    rw [← hwf] at hfin hrf ⊢
    have z0 := hrf.cell 0 rfl
    have z1 := hrf.cell 1 rfl
    have z2 := hrf.cell 2 rfl
    have z3 := hrf.cell 3 rfl
    exact bodyPost_ret (v := .tuple #[.agg #[.slice A1 n1 c1, .int .i64 P2.quota, .int .i64 P2.armed, .bool P2.stopped], .int .i64 z]) (by simp [results, Tryz.results13, go_sem, z0, z1, z2, z3]) rfl hfin.out
end Go.Proofs.YtohphanbnhiodaaGreat

/- loggiaref15: Logs. -/
namespace Go.Proofs.YtohphanbnhiodaaGreat
open Go.RowKit Go.Maps

set_option maxRecDepth 100000 in
set_option maxHeartbeats 4000000 in
theorem rlogs_any (N : Nat → Prop) (A : Option Addr) (n c : Nat) (P : PD) (R : List RE) (w : World) (h : RS w N A n c R) (hP : R.map RE.pl = P.L) :
    Calls Tryz.prog 31 #[rdisk A n c P.quota P.armed P.stopped] w fun e w' => ∃ A c, e = .returned (.slice A (logsM P).length c) ∧ w'.ownsRow w.heap.size 3 1 (.slice A (logsM P).length c) (logsM P).length (nats (logsM P)) ∧ Ext w w' := by
  obtain ⟨W, hW⟩ : ∃ W, W = w.alloc (.cells #[.slice A n c, .int .i64 P.quota, .int .i64 P.armed, .bool P.stopped] 29) := ⟨_, rfl⟩
  have hE0 : Ext w W := by rw [hW]; exact (Ext.refl w).alloc _
  have hd : Row W w.heap.size 29 #[.slice A n c, .int .i64 P.quota, .int .i64 P.armed, .bool P.stopped] := by rw [hW]; exact Row.new w _ _
  have hl := hide (rlist_any N A n c P R W (h.ext hE0) hP)
  have d0 : W.cell? ⟨w.heap.size, 0, none⟩ = some (.slice A n c) := hd.cell 0 rfl
  have d1 : W.cell? ⟨w.heap.size, 1, none⟩ = some (.int .i64 P.quota) := hd.cell 1 rfl
  have d2 : W.cell? ⟨w.heap.size, 2, none⟩ = some (.int .i64 P.armed) := hd.cell 2 rfl
  have d3 : W.cell? ⟨w.heap.size, 3, none⟩ = some (.bool P.stopped) := hd.cell 3 rfl
  unfold rdisk at hl ⊢
  unfold NamesPost at hl
  obtain ⟨L, hL⟩ : ∃ L, L = listM P := ⟨_, rfl⟩
  unfold logsM
  rw [← hL] at hl ⊢
  replace hL := hide hL
  obtain ⟨Z, hZ⟩ : ∃ Z, Z = L.filterMap numW := ⟨_, rfl⟩
  rw [← hZ]
  replace hZ := hide hZ
  replace hW := hide hW
  clear h hP
  go_enter Tryz.func31, Tryz.ntmps31
  go_wp2_with fail
  rw [← hW.out]
  refine hl.out.mono ?_
  rintro e w1 ⟨A, n, c, rfl, hn, hn1, hcells, hE1⟩
  replace hn := hide hn
  replace hcells := hide hcells
  go_wp2_with fail
  go_loopw [3, 5] (fun s3 s11 wr => ∃ (i q dd : Nat) (B : Option Addr) (outs : List Nat), s3 = .slice B q dd ∧ s11 = .int .i64 (i : Int) ∧ i ≤ n ∧ q ≤ i ∧ Hid (q = outs.length) ∧ Hid (outs = (L.take i).filterMap numW) ∧ Hid (wr.ownsRow w1.heap.size 3 1 (.slice B q dd) q (nats outs)) ∧ Hid (Ext w1 wr)) (fun _ s11 _ => n - (intOf s11).toNat)
  case atStart => exact ⟨0, 0, 0, none, [], rfl, rfl, by omega, by omega, hide rfl, hide rfl, hide ⟨rfl, .inl ⟨rfl, rfl⟩⟩, hide (Ext.refl _)⟩
  case round =>
    obtain ⟨i, q, dd, B, outs, rfl, rfl, hi, hqi, hq, ho, hown, hE⟩ := hrel
    by_cases hin : i < n
    · obtain ⟨s, hs⟩ : ∃ s, L[i]? = some s := ⟨_, List.getElem?_eq_getElem (by have := hn.out; omega)⟩
      obtain ⟨g, o, hA, hc⟩ := Cells.at_ (xs := L.map str) (hcells.out.ext hE.out) (by rw [List.length_map]; have := hn.out; omega)
      have hcell := hc i (str s) (by rw [List.getElem?_map, hs]; rfl)
      unfold str at hcell
      subst hA
      have hnum := rnumber_any s wr
      cases hz : numW s with
      | none =>
        rw [hz] at hnum
        have hfm := hide (fm_none hs hz)
        replace hnum := hide hnum
        clear hc hs hz
        go_wp2_with fail
        refine hnum.out.mono ?_
        rintro e w2 ⟨hE2, rfl⟩
        go_wp2_with fail
        exact ⟨⟨i + 1, q, dd, B, outs, rfl, by go_num, by omega, by omega, hq, hide (by rw [hfm.out]; exact ho.out), hide (hE2.owns hown.out), hide (hE.out.trans hE2)⟩, by simp [intOf]; omega⟩
      | some k =>
        rw [hz] at hnum
        have hfm := hide (fm_some hs hz)
        replace hnum := hide hnum
        clear hc hs hz
        go_wp2_with fail
        refine hnum.out.mono ?_
        rintro e w2 ⟨hE2, rfl⟩
        have hown2 := hide (hE2.owns hown.out)
        have hb2 := (hE.out.trans hE2).size
        go_wp2_with (at_builtin; refine wpList_appZ (us := [.int .i64 (k : Int)]) (m := 1) elemN hown2.out rfl (.tmp 25) (.tmp 27) rfl rfl rfl rfl rfl (one_of rfl) (by omega) hb2 (fun A8 c8 w8 ho8 hg8 _ => ?_); replace ho8 := hide ho8; replace hg8 := hide hg8)
        refine ⟨⟨i + 1, q + 1, c8, A8, outs ++ [k], rfl, by go_num, by omega, by omega, hide (by rw [List.length_append, ← hq.out]; rfl), hide (by rw [hfm.out, ho.out]), hide (by unfold nats; rw [List.map_append]; exact ho8.out), hide ((hE.out.trans hE2).grown hg8.out fun k hk => (by obtain ⟨_, _, hb⟩ := owns_row hown2.out hk; exact hb))⟩, by simp [intOf]; omega⟩
    · obtain rfl : i = n := by omega
      have hoo := ho.out
      rw [List.take_of_length_le (by have := hn.out; omega), ← hZ.out] at hoo
      have hqz : q = Z.length := by rw [hq.out, hoo]
      replace hoo := hide hoo
      replace hqz := hide hqz
      go_wp2_with fail
      go_ret
      refine ⟨B, dd, by rw [← hqz.out]; rfl, ?_, (hE0.trans hE1).trans hE.out⟩
      rw [← hqz.out, ← hoo.out]
      exact owns_lower hown.out (hE0.trans hE1).size
end Go.Proofs.YtohphanbnhiodaaGreat

/- loggia/wal: Truncate. -/
namespace Go.Proofs.YtohphanbnhiodaaGreat
open Go.RowKit Go.Maps

/-- Which logs below a number are removed: the disk, how many, the code. -/
def truncM (below : Int) : List Nat → PD → Nat → PD × Nat × Nat
  | [], P, n => (P, n, 0)
  | k :: ks, P, n => if (k : Int) < below then if (removeM P (nameW k)).2 = 0 then truncM below ks (removeM P (nameW k)).1 (n + 1) else ((removeM P (nameW k)).1, n, (removeM P (nameW k)).2) else (P, n, 0)
theorem DNext.seq {w w1 wx w2 : World} {base d : Nat} {P2 : PD} {F F1 : Nat → Prop} (hC : Chg F w w1) (hF : ∀ k, F1 k → F k ∨ w.heap.size ≤ k) (hE : Ext w1 wx) (h2 : DNext base d F1 wx P2 w2) : DNext base d F w P2 w2 := by
  obtain ⟨F2, h3, h4, h5⟩ := h2
  have hs : w.heap.size ≤ wx.heap.size := Nat.le_trans hC.size hE.size
  refine ⟨F2, h3, (hC.trans (Chg.of_ext hE F) fun _ _ h => h).trans h4 fun i hi h => ?_, fun k hk => ?_⟩
  · rcases hF i h with h | h
    · exact h
    · omega
  · rcases h5 k hk with h | h
    · exact hF k h
    · exact .inr (Nat.le_trans hs h)
theorem DNext.of_ext {w w1 : World} {base d : Nat} {P : PD} {F : Nat → Prop} (h : DS w base d P F) (hE : Ext w w1) : DNext base d F w P w1 := ⟨F, h.ext hE, Chg.of_ext hE F, fun _ h => .inl h⟩
theorem owns_disk {w w' : World} {base b0 d size n : Nat} {e : TypeId} {v : Value} {xs : List Value} {P : PD} {F : Nat → Prop} (h : w.ownsRow base e size v n xs) (hD : DS w b0 d P F) (hc : Chg F w w') (he : e ≠ 73 ∧ e ≠ 107 ∧ e ≠ 5) : w'.ownsRow base e size v n xs :=
  hc.owns h fun g hg hF => by
    obtain ⟨cs, hr, _⟩ := owns_row h hg
    rcases hD.kind hF hr with h | h | h
    · exact he.1 h
    · exact he.2.1 h
    · exact he.2.2 h
/-- What Truncate answers. -/
def TruncP (base d : Nat) (F : Nat → Prop) (w : World) (Z : PD × Nat × Nat) (e : Ending) (w' : World) : Prop := e = .returned (.tuple #[.int .i64 (Z.2.1 : Nat), .int .i64 (Z.2.2 : Nat)]) ∧ DNext base d F w Z.1 w'
set_option maxRecDepth 100000 in
set_option maxHeartbeats 8000000 in
theorem trunc_any (base d : Nat) (P : PD) (F : Nat → Prop) (below : Int) (w : World) (h : DS w base d P F) (hb : I64ok' below) (hcnt : (logsM P).length ≤ 2000) (hbase : base ≤ w.heap.size) :
    Calls Tryz.prog 17 #[.pointer (some ⟨d, 0, none⟩), .int .i64 below] w fun e w' => TruncP base d F w (truncM below (logsM P) P 0) e w' := by
  have hmade := hide (made_any base d P F w h)
  obtain ⟨Z, hZ⟩ : ∃ Z, Z = truncM below (logsM P) P 0 := ⟨_, rfl⟩
  rw [← hZ]
  have hlt : ∀ n ∈ logsM P, n ≤ 99999999 := fun n hn => by
    obtain ⟨s, _, hs⟩ := List.mem_filterMap.1 hn
    have := numW_lt hs
    omega
  have hlogs := fun w1 (hE : Ext w w1) => logs_any base d P F w1 (h.ext hE)
  obtain ⟨ns, hns⟩ : ∃ ns, ns = logsM P := ⟨_, rfl⟩
  simp only [← hns] at hZ hlogs hcnt hlt
  obtain ⟨N, hN⟩ : ∃ N, N = ns.length := ⟨_, rfl⟩
  simp only [← hN] at hlogs hcnt
  obtain ⟨hf1, hf2⟩ := hb
  replace hns := hide hns
  replace hN := hide hN
  replace hZ := hide hZ
  replace hlogs := hide hlogs
  replace hlt := hide hlt
  replace h := hide h
  go_enter Tryz.func17, Tryz.ntmps17
  go_wp2_with fail
  refine hmade.out.mono ?_
  rintro e w1 ⟨rfl, hE1⟩
  go_wp2_with fail
  refine (hlogs.out w1 hE1).mono ?_
  rintro e w2 ⟨A, c, rfl, hown, hE2⟩
  have hE02 := hE1.trans hE2
  have hst := hide (DNext.of_ext h.out hE02)
  replace hown := hide hown
  go_wp2_with fail
  go_loopw [6, 18] (fun s6 s18 wr => ∃ (i n : Nat) (Pi : PD), s6 = .int .i64 (n : Int) ∧ s18 = .int .i64 (i : Int) ∧ i ≤ N ∧ n ≤ i ∧ Hid (Z = truncM below (ns.drop i) Pi n) ∧ Hid (DNext base d F w Pi wr) ∧ Hid (wr.ownsRow w1.heap.size 3 1 (.slice A N c) N (nats ns))) (fun _ s18 _ => N - (intOf s18).toNat)
  case atStart => exact ⟨0, 0, P, rfl, rfl, by omega, by omega, hide hZ.out, hst, hown⟩
  case round =>
    clear hst hown
    obtain ⟨i, n, Pi, rfl, rfl, hi, hni, hz, hst, hown⟩ := hrel
    by_cases hin : i < N
    · obtain ⟨k, hk⟩ : ∃ k, ns[i]? = some k := ⟨_, List.getElem?_eq_getElem (by have := hN.out; omega)⟩
      obtain ⟨ga, o, hA, hc⟩ := Cells.at_ (xs := nats ns) (Cells.of_own hown.out) (by unfold nats; rw [List.length_map]; have := hN.out; omega)
      have hcell := hc i (.int .i64 (k : Int)) (by unfold nats; rw [List.getElem?_map, hk]; rfl)
      subst hA
      have hzz := hz.out
      rw [drop_oneN hk, truncM] at hzz
      have hk9 := hlt.out k (List.mem_of_getElem? hk)
      clear hc hk
      by_cases hlow : (k : Int) < below
      · rw [if_pos hlow] at hzz
        obtain ⟨F1, hD1, hC1, hF1⟩ := hst.out
        have hnm := hide (name_yes k wr hk9)
        have hrm := fun w3 (hE3 : Ext wr w3) => remove_any base d Pi F1 (nameW k) w3 (hD1.ext hE3) (by rw [nameW_len]; omega)
        obtain ⟨RR, hRR⟩ : ∃ RR, RR = removeM Pi (nameW k) := ⟨_, rfl⟩
        obtain ⟨nm, hnn⟩ : ∃ nm, nm = nameW k := ⟨_, rfl⟩
        rw [← hRR] at hzz
        simp only [← hRR] at hrm
        rw [← hnn] at hnm
        simp only [← hnn] at hrm
        obtain ⟨P3, z⟩ := RR
        simp only at hzz hrm
        unfold str at hrm
        replace hrm := hide hrm
        replace hRR := hide hRR
        replace hnn := hide hnn
        have hD1' := hide hD1
        have hC1' := hide hC1
        have hF1' := hide hF1
        clear hD1 hC1 hF1
        by_cases hz0 : z = 0
        · rw [if_pos hz0] at hzz
          subst hz0
          replace hzz := hide hzz
          go_wp2_with fail
          refine hnm.out.mono ?_
          rintro e w3 ⟨rfl, hE3⟩
          go_wp2_with fail
          refine (hrm.out w3 hE3).mono ?_
          rintro e w4 ⟨rfl, hN4⟩
          go_wp2_with fail
          have hown4 := owns_disk (hE3.owns hown.out) (hD1'.out.ext hE3) (by obtain ⟨_, _, hC4, _⟩ := hN4; exact hC4) (by decide)
          exact ⟨⟨i + 1, n + 1, P3, by go_num, by go_num, by omega, by omega, hzz, hide (DNext.seq hC1'.out hF1'.out hE3 hN4), hide hown4⟩, by simp [intOf]; omega⟩
        · rw [if_neg hz0] at hzz
          have hz0i : ¬ (z : Int) = 0 := by omega
          replace hzz := hide hzz
          go_wp2_with fail
          refine hnm.out.mono ?_
          rintro e w3 ⟨rfl, hE3⟩
          go_wp2_with fail
          refine (hrm.out w3 hE3).mono ?_
          rintro e w4 ⟨rfl, hN4⟩
          go_wp2_with fail
          go_ret2
          rw [hzz.out]
          exact ⟨rfl, DNext.seq hC1'.out hF1'.out hE3 hN4⟩
      · rw [if_neg hlow] at hzz
        have hlow' : below ≤ (k : Int) := by omega
        replace hzz := hide hzz
        go_wp2_with fail
        go_ret2
        rw [hzz.out]
        exact ⟨rfl, hst.out⟩
    · obtain rfl : i = N := by omega
      have hzz := hz.out
      rw [List.drop_of_length_le (by have := hN.out; omega), truncM] at hzz
      replace hzz := hide hzz
      go_wp2_with fail
      go_ret2
      rw [hzz.out]
      exact ⟨rfl, hst.out⟩
end Go.Proofs.YtohphanbnhiodaaGreat

/- loggiaref06: Append. -/
namespace Go.Proofs.YtohphanbnhiodaaGreat
open Go.RowKit Go.Maps

/-- The file that Append has found, or made. -/
structure RGot (W : World) (N : Nat → Prop) (P : PD) (R : List RE) (s : List UInt8) (ok : Bool) (f : RE) : Prop where
  name : f.name = s
  has : ROk W N f
  here : ok = true → f ∈ R ∧ P.find s = some f.pl
  away : ok = false → P.find s = none ∧ f.b = [] ∧ f.sure = 0
theorem RGot.plain {W : World} {N : Nat → Prop} {P : PD} {R : List RE} {s : List UInt8} {ok : Bool} {f : RE} (h : RGot W N P R s ok f) (hP : R.map RE.pl = P.L) (hn : namedM s = true) (hst : P.stopped = false) (b : List UInt8) :
    appendM P s b = if ok = false ∧ 1024 ≤ R.length then (P, 3) else putM P (s, f.b, f.sure) b := by
  unfold appendM
  rw [hn, hst]
  have hl : P.L.length = R.length := by rw [← hP, List.length_map]
  cases ok with
  | true =>
    rw [(h.here rfl).2]
    have : f.pl = (s, f.b, f.sure) := by unfold RE.pl; rw [h.name]
    rw [this]
    simp
  | false =>
    obtain ⟨h1, h2, h3⟩ := h.away rfl
    rw [h1, hl, h2, h3]
    by_cases hc : 1024 ≤ R.length
    · simp [hc]
    · simp [hc]
def RCut (w1 : World) (bF : Nat) (N : Nat → Prop) (P : PD) (R : List RE) (s : List UInt8) (ok : Bool) (f : RE) (wx : World) : Prop :=
  RGot wx N P R s ok f ∧ Row wx bF 110 #[.string ⟨s.toArray⟩, .slice f.A f.b.length f.c, .int .i64 f.sure] ∧ Chg (fun k => k = bF) w1 wx
theorem own_lt2 {w : World} {base : Nat} {e : TypeId} {size n c : Nat} {A : Option Addr} {xs : List Value} (h : w.ownsRow base e size (.slice A n c) n xs) : ∀ a, A = some a → base ≤ a.block ∧ a.block < w.heap.size ∧ a.spot = none := by
  rintro a rfl
  rcases h.2 with ⟨hv, _⟩ | ⟨g, cap, cur, hv, hb, hg, _⟩
  · cases hv
  · cases hv
    exact ⟨hb, (Array.getElem?_eq_some_iff.1 hg).1, rfl⟩
theorem own_cap2 {w : World} {base : Nat} {e : TypeId} {size n c : Nat} {A : Option Addr} {xs : List Value} (ho : w.ownsRow base e size (.slice A n c) n xs) : n ≤ c := by
  rcases ho.2 with ⟨hv, h0⟩ | ⟨g, cap, cur, hv, hb, hg, hnc, _⟩
  · cases hv; omega
  · cases hv; exact hnc
set_option maxRecDepth 100000 in
set_option maxHeartbeats 4000000 in
theorem rappend_good (N : Nat → Prop) (A : Option Addr) (n c : Nat) (P : PD) (R : List RE) (s b : List UInt8) (B : Option Addr) (bn bc : Nat) (w : World) (h : RS w N A n c R) (hP : R.map RE.pl = P.L) (hN : ∀ k, N k → k < w.heap.size) (hs : s.length ≤ 9223372036854775807) (ha : P.armed ≤ 9223372036854775807)
    (hb : Bs w B b) (hbn : bn = b.length) (hbn2 : bn ≤ 1073741824) (hqb : P.quota ≤ 9223372036854775807) (hnmd : namedM s = true) (hst : P.stopped = false) :
    Calls Tryz.prog 20 #[rdisk A n c P.quota P.armed P.stopped, str s, .slice B bn bc] w (RNext N (appendM P s b) w) := by
  obtain ⟨q, hq⟩ : ∃ q, q = P.quota := ⟨_, rfl⟩
  obtain ⟨a, ha'⟩ : ∃ q, q = P.armed := ⟨_, rfl⟩
  rw [← hq, ← ha', hst]
  rw [← ha'] at ha
  rw [← hq] at hqb
  obtain ⟨W0, hW0⟩ : ∃ W0, W0 = (w.alloc (.cells #[.slice A n c, .int .i64 q, .int .i64 a, .bool false] 29)).alloc (.cells #[.slice none 0 0, .int .i64 0, .int .i64 0, .bool false] 29) := ⟨_, rfl⟩
  obtain ⟨W, hW⟩ : ∃ W, W = W0.alloc (.cells #[.string ⟨s.toArray⟩, .slice none 0 0, .int .i64 0] 110) := ⟨_, rfl⟩
  have hE0 : Ext w W0 := by rw [hW0]; exact ((Ext.refl w).alloc _).alloc _
  have hEo : Ext W0 W := by rw [hW]; exact (Ext.refl W0).alloc _
  have hE := hE0.trans hEo
  have hW0s : W0.heap.size = w.heap.size + 2 := by rw [hW0, size_alloc, size_alloc]
  have hWs : W.heap.size = w.heap.size + 3 := by rw [hW, size_alloc, hW0s]
  have hd : Row W w.heap.size 29 #[.slice A n c, .int .i64 q, .int .i64 a, .bool false] := by
    refine Row.ext ?_ hEo
    rw [hW0]
    exact (Row.new w _ _).alloc _
  have hr2 : Row W (w.heap.size + 1) 29 #[.slice none 0 0, .int .i64 0, .int .i64 0, .bool false] := by
    have := Row.new (w.alloc (.cells #[.slice A n c, .int .i64 q, .int .i64 a, .bool false] 29)) 29 #[.slice none 0 0, .int .i64 0, .int .i64 0, .bool false]
    rw [size_alloc] at this
    refine Row.ext ?_ hEo
    rw [hW0]
    exact this
  obtain ⟨bF, hbF⟩ : ∃ bF, bF = W0.heap.size := ⟨_, rfl⟩
  have hbFs : bF = w.heap.size + 2 := by rw [hbF, hW0s]
  have hfr : Row W bF 110 #[.string ⟨s.toArray⟩, .slice none 0 0, .int .i64 0] := by
    rw [hW, hbF]
    exact Row.new W0 _ _
  obtain ⟨N2, hN2⟩ : ∃ N2 : Nat → Prop, N2 = fun k => N k ∨ (w.heap.size ≤ k ∧ k < w.heap.size + 3) := ⟨_, rfl⟩
  have hsub : ∀ k, k < w.heap.size → N2 k → N k := by
    intro k hk hn
    rw [hN2] at hn
    rcases hn with hn | hn
    · exact hn
    · omega
  have hN2s : ∀ k, N2 k → k < W.heap.size := by
    intro k hn
    rw [hN2] at hn
    rcases hn with hn | hn
    · have := hN k hn
      omega
    · rw [hWs]; omega
  have hN2i : ∀ k, k = w.heap.size ∨ k = w.heap.size + 1 ∨ k = bF → N2 k := by
    intro k hk
    rw [hN2]
    exact .inr (by omega)
  have hRW : RS W N2 A n c R := h.chg (Chg.of_ext hE (fun _ => False)) (fun _ _ h => h.elim) hsub
  have hnm := rnamed_any s W0 hs
  rw [hnmd] at hnm
  have hfa := rfind_any N2 A n c q a false R s W hRW
  have hW0x := hide hW0.symm
  have hWx := hide hW.symm
  clear hW0 hW
  have d0 : W0.cell? ⟨w.heap.size, 3, none⟩ = some (.bool false) := by
    have := hd.cell 3 rfl
    rw [hW0x.out] at *
    have h2 := World.cell?_of_block (a := ⟨w.heap.size, 3, none⟩) (Below.block hEo w.heap.size (by rw [hW0s]; omega))
    rw [← h2]
    exact this
  have e0 : W.cell? ⟨w.heap.size, 0, none⟩ = some (.slice A n c) := hd.cell 0 rfl
  have e1 : W.cell? ⟨w.heap.size, 1, none⟩ = some (.int .i64 q) := hd.cell 1 rfl
  have e2 : W.cell? ⟨w.heap.size, 2, none⟩ = some (.int .i64 a) := hd.cell 2 rfl
  have e3 : W.cell? ⟨w.heap.size, 3, none⟩ = some (.bool false) := hd.cell 3 rfl
  obtain ⟨ix, hix⟩ : ∃ ix, ix = (rfind R s).getD 0 := ⟨_, rfl⟩
  obtain ⟨ok, hok⟩ : ∃ ok, ok = (rfind R s).isSome := ⟨_, rfl⟩
  rw [← hix, ← hok] at hfa
  unfold rdisk str at hfa ⊢
  unfold str at hnm
  replace hfa := hide hfa
  replace hnm := hide hnm
  replace hW0s := hide hW0s
  replace hWs := hide hWs
  replace hix := hide hix
  replace hok := hide hok
  replace hbn := hide hbn
  replace hq := hide hq
  replace ha' := hide ha'
  replace hst := hide hst
  replace hnmd := hide hnmd
  go_enter Tryz.func20, Tryz.ntmps20
  go_wp2_with fail
  rw [hW0x.out]
  refine hnm.out.mono ?_
  rintro e w1 ⟨rfl, hw1⟩
  replace hw1 := hw1.symm
  subst hw1
  have hbFy := hbF.symm
  replace hbF := hide hbF
  replace hbFs := hide hbFs
  go_upto_region 6 with (fail)
  rw [hWx.out]
  replace hbFy := hide hbFy
  go_wp2_with fail
  refine hfa.out.mono ?_
  rintro e w1 ⟨rfl, hE1⟩
  have hd1 := hd.ext hE1
  have hf1 := hfr.ext hE1
  have hR1 := hRW.ext hE1
  have g0 : w1.cell? ⟨w.heap.size, 0, none⟩ = some (.slice A n c) := hd1.cell 0 rfl
  have p0 : w1.cell? ⟨bF, 0, none⟩ = some (.string ⟨s.toArray⟩) := hf1.cell 0 rfl
  have p1 : w1.cell? ⟨bF, 1, none⟩ = some (.slice none 0 0) := hf1.cell 1 rfl
  have p2 : w1.cell? ⟨bF, 2, none⟩ = some (.int .i64 0) := hf1.cell 2 rfl
  have q0 := hf1.free 0
  have q1 := hf1.free 1
  have q2 := hf1.free 2
  have hmany := h.many
  go_upto_if 28 with (fail)
  go_cut [] (fun wx => ∃ f0 : RE, RCut w1 bF N2 P R s ok f0 wx)
  case first =>
    rcases rfind_pl hP s with ⟨i, r, hf, hr, hn, hfd⟩ | ⟨hf, hfd⟩
    · have hok2 : ok = true := by rw [hok.out, hf]; rfl
      have hix2 : ix = i := by rw [hix.out, hf]; rfl
      subst hok2 hix2
      have hin : ix < n := by rw [h.len]; exact (List.getElem?_eq_some_iff.1 hr).1
      obtain ⟨g, o, r', hAg, hr', k0, k1, k2⟩ := hR1.at_ hin
      obtain rfl : r' = r := by rw [hr] at hr'; cases hr'; rfl
      subst hAg
      unfold str at k0
      have hrm := List.mem_of_getElem? hr
      have hokr := hR1.ok r' hrm
      replace hf := hide hf
      replace hr := hide hr
      replace hn := hide hn
      replace hfd := hide hfd
      clear hr'
      go_wp2_with fail
      go_meet
      case rel =>
        have hcx : Chg (fun k => k = bF) w1 (((w1.setCell ⟨bF, 0, none⟩ (.string ⟨r'.name.toArray⟩)).setCell ⟨bF, 1, none⟩ (.slice r'.A r'.b.length r'.c)).setCell ⟨bF, 2, none⟩ (.int .i64 r'.sure)) :=
          ((Chg.of_set (S := fun k => k = bF) w1 (a := ⟨bF, 0, none⟩) _ rfl).trans (Chg.of_set (S := fun k => k = bF) _ (a := ⟨bF, 1, none⟩) _ rfl) fun _ _ h => h).trans (Chg.of_set (S := fun k => k = bF) _ (a := ⟨bF, 2, none⟩) _ rfl) fun _ _ h => h
        refine ⟨r', ⟨hn.out, hokr.chg hcx (fun k _ hk => hN2i k (.inr (.inr hk))) (fun _ _ h => h), fun _ => ⟨hrm, hfd.out⟩, nofun⟩, ?_, hcx⟩
        rw [← hn.out]
        exact ((hf1.put 0 _).put 1 _).put 2 _
    · have hok2 : ok = false := by rw [hok.out, hf]; rfl
      subst hok2
      replace hf := hide hf
      replace hfd := hide hfd
      go_wp2_with fail
      go_meet
      case rel => exact ⟨⟨s, [], 0, none, 0⟩, ⟨rfl, ⟨.inl rfl, by simp, fun _ => rfl, nofun, by simp, hs, by simp⟩, nofun, fun _ => ⟨hfd.out, rfl, rfl⟩⟩, hf1, Chg.refl _ _⟩
  case rest =>
    obtain ⟨f0, hG, hfx, hcx⟩ := hcut
    obtain ⟨wx, rfl⟩ : ∃ wx, wx = wc := ⟨_, rfl⟩
    have hpl := hG.plain hP hnmd.out hst.out b
    rw [← h.len] at hpl
    have hEx : Ext w wx := (hE.trans hE1).chg hcx fun i hi hh => by rw [hbFs.out] at hh; omega
    have hdx : Row wx w.heap.size 29 #[.slice A n c, .int .i64 q, .int .i64 a, .bool false] := hcx.row hd1 (by rw [hbFs.out]; omega)
    have hrx : Row wx (w.heap.size + 1) 29 #[.slice none 0 0, .int .i64 0, .int .i64 0, .bool false] := hcx.row (hr2.ext hE1) (by rw [hbFs.out]; omega)
    have hRx : RS wx N2 A n c R := hR1.chg hcx (fun k _ hk => hN2i k (.inr (.inr hk))) (fun _ _ h => h)
    have c0 : wx.cell? ⟨w.heap.size, 0, none⟩ = some (.slice A n c) := hdx.cell 0 rfl
    have c1 : wx.cell? ⟨w.heap.size, 1, none⟩ = some (.int .i64 q) := hdx.cell 1 rfl
    have c2 : wx.cell? ⟨w.heap.size, 2, none⟩ = some (.int .i64 a) := hdx.cell 2 rfl
    have c3 : wx.cell? ⟨w.heap.size, 3, none⟩ = some (.bool false) := hdx.cell 3 rfl
    have x0 := hrx.cell 0 rfl
    have x1 := hrx.cell 1 rfl
    have x2 := hrx.cell 2 rfl
    have x3 := hrx.cell 3 rfl
    have y0 := hrx.free 0
    have y1 := hrx.free 1
    have y2 := hrx.free 2
    have y3 := hrx.free 3
    have f1x : wx.cell? ⟨bF, 1, none⟩ = some (.slice f0.A f0.b.length f0.c) := hfx.cell 1 rfl
    have hlen0 := hG.has.len
    obtain ⟨bl, hbl⟩ : ∃ x, x = f0.b.length := ⟨_, rfl⟩
    rw [← hbl] at f1x hlen0
    have done : ∀ (k : Nat) (wf : World), appendM P s b = (P, k) → Ext w wf → RNext N (appendM P s b) w (.returned (.tuple #[.agg #[.slice A n c, .int .i64 q, .int .i64 a, .bool false], .int .i64 k])) wf := by
      intro k wf hk hEf
      rw [hk, hq.out, ha'.out, ← hst.out]
      exact rnext_same h hP hEf
    replace done := hide done
    replace hbl := hide hbl
    clear g0 p0 p1 p2 q0 q1 q2 hd1 hf1 hR1 e0 e1 e2 e3 d0
    by_cases hm : ok = false ∧ 1024 ≤ n
    · rw [if_pos hm] at hpl
      obtain ⟨hok2, h2⟩ := hm
      subst hok2
      replace hpl := hide hpl
      go_wp2_with fail
      have hfin := tup_out hrx hEx (Nat.le_succ _) (A := A) (n := n) (c := c) (q := q) (a := a) (st := false)
      obtain ⟨wf, hwf⟩ : ∃ wf, wf = ((((wx.setCell ⟨w.heap.size + 1, 0, none⟩ (.slice A n c)).setCell ⟨w.heap.size + 1, 1, none⟩ (.int .i64 q)).setCell ⟨w.heap.size + 1, 2, none⟩ (.int .i64 a)).setCell ⟨w.heap.size + 1, 3, none⟩ (.bool false)) := ⟨_, rfl⟩
      rw [← hwf] at hfin ⊢
      obtain ⟨z0, z1, z2, z3, hEf, _⟩ := hfin
      exact bodyPost_ret (v := .tuple #[.agg #[.slice A n c, .int .i64 q, .int .i64 a, .bool false], .int .i64 3]) (by simp [results, Tryz.results20, go_sem, z0, z1, z2, z3]) rfl (done.out 3 wf hpl.out hEf)
    · rw [if_neg hm] at hpl
      unfold putM at hpl
      simp only [] at hpl
      rw [← hbl.out, ← hbn.out] at hpl
      replace hpl := hide hpl
      go_upto_region 9 with (fail)
      go_cut [41] (fun s41 wy => s41 = .bool false ∧ wy = wx)
      case first =>
        rcases (by cases ok <;> simp : ok = true ∨ ok = false) with hok2 | hok2
        · subst hok2
          go_wp2_with fail
          go_meet
          case rel => exact ⟨rfl, rfl⟩
        · subst hok2
          have hel2 : n < 1024 := by
            refine Nat.lt_of_not_le fun h => hm ⟨rfl, h⟩
          go_wp2_with fail
          go_meet
          case rel => exact ⟨congrArg Value.bool (decide_eq_false (by omega)), rfl⟩
      case rest =>
        obtain ⟨rfl, hwy⟩ := hcut
        have hwy3 := hwy.symm
        clear hwy
        subst hwy3
        by_cases hlong : 67108864 < bl + bn
        · have hpl2 := hpl.out
          rw [if_pos hlong] at hpl2
          replace hpl2 := hide hpl2
          go_wp2_with fail
          have hfin := tup_out hrx hEx (Nat.le_succ _) (A := A) (n := n) (c := c) (q := q) (a := a) (st := false)
          obtain ⟨wf, hwf⟩ : ∃ wf, wf = ((((wx.setCell ⟨w.heap.size + 1, 0, none⟩ (.slice A n c)).setCell ⟨w.heap.size + 1, 1, none⟩ (.int .i64 q)).setCell ⟨w.heap.size + 1, 2, none⟩ (.int .i64 a)).setCell ⟨w.heap.size + 1, 3, none⟩ (.bool false)) := ⟨_, rfl⟩
          rw [← hwf] at hfin ⊢
          obtain ⟨z0, z1, z2, z3, hEf, _⟩ := hfin
          exact bodyPost_ret (v := .tuple #[.agg #[.slice A n c, .int .i64 q, .int .i64 a, .bool false], .int .i64 2]) (by simp [results, Tryz.results20, go_sem, z0, z1, z2, z3]) rfl (done.out 2 wf hpl2.out hEf)
        · have hpl2 := hpl.out
          rw [if_neg hlong] at hpl2
          have hlong2 : bl + bn ≤ 67108864 := by omega
          obtain ⟨us, hus⟩ : ∃ us, us = usedP P.L := ⟨_, rfl⟩
          have husb : us ≤ 68719476736 := by
            rw [hus, ← hP]
            have := rused_bd h R.length
            rw [List.take_of_length_le (Nat.le_refl _), ← h.len] at this
            omega
          have hfull : fullM P bn = (decide (0 < q) && decide (0 < bn) && decide ((q : Int) - us < bn)) := by
            unfold fullM
            rw [hq.out, hus]
          have hcall : ∀ w0, (fun w' => w'.cell? ⟨w.heap.size, 0, none⟩ = some (.slice A n c) ∧ w'.cell? ⟨w.heap.size, 1, none⟩ = some (.int .i64 q) ∧ w'.cell? ⟨w.heap.size, 2, none⟩ = some (.int .i64 a) ∧ w'.cell? ⟨w.heap.size, 3, none⟩ = some (.bool false) ∧ Ext wx w') w0 → Calls Tryz.prog 55 #[rdisk A n c q a false] w0 fun e w' => e = .returned (.int .i64 us) ∧ Ext w0 w' := fun w0 hw0 => by
            have := rused_any N2 A n c q a false R w0 (hRx.ext hw0.2.2.2.2)
            rw [hP, ← hus] at this
            exact this
          unfold rdisk at hcall
          replace hus := hide hus
          replace hfull := hide hfull
          replace hpl2 := hide hpl2
          replace hcall := hide hcall
          go_upto_region 13 with (fail)
          go_cut [68] (fun s68 wy => s68 = .bool (fullM P bn) ∧ Ext wx wy)
          case first =>
            have hS0 : (fun w' => w'.cell? ⟨w.heap.size, 0, none⟩ = some (.slice A n c) ∧ w'.cell? ⟨w.heap.size, 1, none⟩ = some (.int .i64 q) ∧ w'.cell? ⟨w.heap.size, 2, none⟩ = some (.int .i64 a) ∧ w'.cell? ⟨w.heap.size, 3, none⟩ = some (.bool false) ∧ Ext wx w') wx.drew := ⟨c0, c1, c2, c3, (Ext.refl wx).drew⟩
            have hS1 : (fun w' => w'.cell? ⟨w.heap.size, 0, none⟩ = some (.slice A n c) ∧ w'.cell? ⟨w.heap.size, 1, none⟩ = some (.int .i64 q) ∧ w'.cell? ⟨w.heap.size, 2, none⟩ = some (.int .i64 a) ∧ w'.cell? ⟨w.heap.size, 3, none⟩ = some (.bool false) ∧ Ext wx w') wx := ⟨c0, c1, c2, c3, Ext.refl wx⟩
            have hkp : ∀ w0 w1 : World, (fun w' => w'.cell? ⟨w.heap.size, 0, none⟩ = some (.slice A n c) ∧ w'.cell? ⟨w.heap.size, 1, none⟩ = some (.int .i64 q) ∧ w'.cell? ⟨w.heap.size, 2, none⟩ = some (.int .i64 a) ∧ w'.cell? ⟨w.heap.size, 3, none⟩ = some (.bool false) ∧ Ext wx w') w0 → Ext w0 w1 → (fun w' => w'.cell? ⟨w.heap.size, 0, none⟩ = some (.slice A n c) ∧ w'.cell? ⟨w.heap.size, 1, none⟩ = some (.int .i64 q) ∧ w'.cell? ⟨w.heap.size, 2, none⟩ = some (.int .i64 a) ∧ w'.cell? ⟨w.heap.size, 3, none⟩ = some (.bool false) ∧ Ext wx w') w1 := fun w0 w1 h1 h3 => ⟨h3.cell h1.1, h3.cell h1.2.1, h3.cell h1.2.2.1, h3.cell h1.2.2.2.1, h1.2.2.2.2.trans h3⟩
            replace hkp := hide hkp
            replace hS0 := hide hS0
            replace hS1 := hide hS1
            by_cases h1 : 0 < q
            · by_cases h2 : 0 < bn
              · go_region_held3 (fun w' => w'.cell? ⟨w.heap.size, 0, none⟩ = some (.slice A n c) ∧ w'.cell? ⟨w.heap.size, 1, none⟩ = some (.int .i64 q) ∧ w'.cell? ⟨w.heap.size, 2, none⟩ = some (.int .i64 a) ∧ w'.cell? ⟨w.heap.size, 3, none⟩ = some (.bool false) ∧ Ext wx w') (first | exact hS0.out | exact hS1.out | exact ‹_› | exact hkp.out _ _ ‹_› ‹_›) (first | (go_at_call 55; refine (hcall.out _ ‹_›).mono ?_; rintro e w5 ⟨rfl, hE5⟩))
                go_wp2_with fail
                go_meet
                case rel =>
                  rw [hfull.out]
                  refine ⟨?_, (hkp.out _ w5 hS0.out hE5).2.2.2.2⟩
                  rw [IntWalk.i64_in _ (by omega)]
                  simp [h1, h2]
              · obtain rfl : bn = 0 := by omega
                go_quiet (fail)
                go_wp2_with fail
                go_meet
                case rel =>
                  rw [hfull.out]
                  exact ⟨by simp, (Ext.refl wx).drewN _⟩
            · obtain rfl : q = 0 := by omega
              go_quiet (fail)
              go_wp2_with fail
              go_meet
              case rel =>
                rw [hfull.out]
                exact ⟨by simp, (Ext.refl wx).drewN _⟩
          case rest =>
            obtain ⟨hs68, hwy⟩ := hcut
            subst hs68
            have hEy : Ext w wc := hEx.trans hwy
            have hdy := hdx.ext hwy
            have hry := hrx.ext hwy
            have c0 : wc.cell? ⟨w.heap.size, 0, none⟩ = some (.slice A n c) := hdy.cell 0 rfl
            have c1 : wc.cell? ⟨w.heap.size, 1, none⟩ = some (.int .i64 q) := hdy.cell 1 rfl
            have c2 : wc.cell? ⟨w.heap.size, 2, none⟩ = some (.int .i64 a) := hdy.cell 2 rfl
            have c3 : wc.cell? ⟨w.heap.size, 3, none⟩ = some (.bool false) := hdy.cell 3 rfl
            have x0 := hry.cell 0 rfl
            have x1 := hry.cell 1 rfl
            have x2 := hry.cell 2 rfl
            have x3 := hry.cell 3 rfl
            have y0 := hry.free 0
            have y1 := hry.free 1
            have y2 := hry.free 2
            have y3 := hry.free 3
            have hb41 : w.heap.size + 1 < wc.heap.size := hry.lt
            cases hf : fullM P bn with
            | true =>
              have hpl3 := hpl2.out
              rw [hf, if_pos rfl] at hpl3
              replace hpl3 := hide hpl3
              replace hf := hide hf
              go_wp2_with fail
              have hfin := tup_out hry hEy (Nat.le_succ _) (A := A) (n := n) (c := c) (q := q) (a := a) (st := false)
              obtain ⟨wf, hwf⟩ : ∃ wf, wf = ((((wc.setCell ⟨w.heap.size + 1, 0, none⟩ (.slice A n c)).setCell ⟨w.heap.size + 1, 1, none⟩ (.int .i64 q)).setCell ⟨w.heap.size + 1, 2, none⟩ (.int .i64 a)).setCell ⟨w.heap.size + 1, 3, none⟩ (.bool false)) := ⟨_, rfl⟩
              rw [← hwf] at hfin ⊢
              obtain ⟨z0, z1, z2, z3, hEf, _⟩ := hfin
              exact bodyPost_ret (v := .tuple #[.agg #[.slice A n c, .int .i64 q, .int .i64 a, .bool false], .int .i64 62]) (by simp [results, Tryz.results20, go_sem, z0, z1, z2, z3]) rfl (done.out 62 wf hpl3.out hEf)
            | false =>
              have hpl3 := hpl2.out
              rw [hf, if_neg (by simp)] at hpl3
              have hcl := rcall_any A n c q a wc ha
              unfold rdisk at hcl
              obtain ⟨a1, ha1⟩ : ∃ a1, a1 = a - 1 := ⟨_, rfl⟩
              rw [← ha1] at hcl
              replace hf := hide hf
              by_cases h1 : a = 1
              · rw [decide_eq_true h1] at hcl
                rw [← ha'.out, if_pos h1] at hpl3
                have ha10 : a1 = 0 := by omega
                replace hpl3 := hide hpl3
                replace hcl := hide hcl
                replace ha10 := hide ha10
                replace ha1 := hide ha1
                replace h1 := hide h1
                go_wp2_with fail
                refine hcl.out.mono ?_
                rintro e w2 ⟨rfl, hE2⟩
                have hE3 := (hEy.trans hE2).alloc (.cells #[.slice A n c, .int .i64 q, .int .i64 a1, .bool true] 29)
                have hr3 := (hry.ext hE2).alloc (.cells #[.slice A n c, .int .i64 q, .int .i64 a1, .bool true] 29)
                have x0 := hr3.cell 0 rfl
                have x1 := hr3.cell 1 rfl
                have x2 := hr3.cell 2 rfl
                have x3 := hr3.cell 3 rfl
                have y0 := hr3.free 0
                have y1 := hr3.free 1
                have y2 := hr3.free 2
                have y3 := hr3.free 3
                go_wp2_with fail
                have hfin := tup_out hr3 hE3 (Nat.le_succ _) (A := A) (n := n) (c := c) (q := q) (a := a1) (st := true)
                obtain ⟨wf, hwf⟩ : ∃ wf, wf = (((((w2.alloc (.cells #[.slice A n c, .int .i64 q, .int .i64 a1, .bool true] 29)).setCell ⟨w.heap.size + 1, 0, none⟩ (.slice A n c)).setCell ⟨w.heap.size + 1, 1, none⟩ (.int .i64 q)).setCell ⟨w.heap.size + 1, 2, none⟩ (.int .i64 a1)).setCell ⟨w.heap.size + 1, 3, none⟩ (.bool true)) := ⟨_, rfl⟩
                rw [← hwf] at hfin ⊢
                obtain ⟨z0, z1, z2, z3, hEf, _⟩ := hfin
                refine bodyPost_ret (v := .tuple #[.agg #[.slice A n c, .int .i64 q, .int .i64 a1, .bool true], .int .i64 63]) (by simp [results, Tryz.results20, go_sem, z0, z1, z2, z3]) rfl ?_
                rw [hpl3.out, hq.out, ha10.out]
                exact ⟨A, n, c, R, rfl, h.ext hEf, hP, hEf⟩
              · rw [decide_eq_false h1] at hcl
                rw [← ha'.out, if_neg h1] at hpl3
                replace hpl3 := hide hpl3
                replace hcl := hide hcl
                replace ha1 := hide ha1
                go_wp2_with fail
                refine hcl.out.mono ?_
                rintro e w2 ⟨rfl, hE2⟩
                obtain ⟨W3, hW3⟩ : ∃ W3, W3 = w2.alloc (.cells #[.slice A n c, .int .i64 q, .int .i64 a1, .bool false] 29) := ⟨_, rfl⟩
                have hE23 : Ext w2 W3 := by rw [hW3]; exact (Ext.refl w2).alloc _
                have hnx : Row W3 w2.heap.size 29 #[.slice A n c, .int .i64 q, .int .i64 a1, .bool false] := by rw [hW3]; exact Row.new w2 _ _
                have hEx3 : Ext wx W3 := (hwy.trans hE2).trans hE23
                have hE03 : Ext w W3 := (hEy.trans hE2).trans hE23
                have hf3 := hfx.ext hEx3
                have ho3 := own_empty W3 5
                have hE3o : Ext W3 (W3.alloc (.cells #[] 5)) := (Ext.refl W3).alloc _
                have hsz3 : W3.heap.size ≤ (W3.alloc (.cells #[] 5)).heap.size := hE3o.size
                have hfb := (hG.has.ext hEx3).bytes.ext hE3o
                have hl1 : (f0.b.map B8).length = bl * 1 := by rw [List.length_map, ← hbl.out]; omega
                have hl2 : (b.map B8).length = bn * 1 := by rw [List.length_map, ← hbn.out]; omega
                have hbb := (hb.ext hE03).ext hE3o
                have j0 := hf3.alloc (.cells #[] 5)
                have j1 : (W3.alloc (.cells #[] 5)).cell? ⟨bF, 1, none⟩ = some (.slice f0.A bl f0.c) := by rw [hbl.out]; exact j0.cell 1 rfl
                have hneF : w2.heap.size ≠ bF := by
                  have h1 := hfx.lt
                  have h2 := (hwy.trans hE2).size
                  omega
                replace hneF := hide hneF
                have hW3x := hide hW3.symm
                clear hW3 x0 x1 x2 x3 y0 y1 y2 y3
                replace hl1 := hide hl1
                replace hl2 := hide hl2
                go_upto_region 18 with (fail)
                rw [hW3x.out]
                go_wp2_with (first | (at_builtin; refine wpList_app (m := bl) elemB ho3 hfb (.tmp 77) (.tmp 79) rfl rfl rfl rfl rfl hl1.out (bytes_one _) (by omega) hsz3 (fun A4 c4 w4 ho4 hg4 _ => ?_); have hE4 : Ext W3 w4 := hE3o.grown hg4 (fun k hk => by cases hk; exact Nat.le_refl _); have hsz4 := hE4.size; rw [Nat.zero_add] at ho4; have hbb4 := (hb.ext hE03).ext hE4) | (at_builtin; refine wpList_app (m := bn) elemB ho4 hbb4 (.tmp 80) (.tmp 81) rfl rfl rfl rfl rfl hl2.out (bytes_one _) (by omega) hsz4 (fun A5 c5 w5 ho5 hg5 _ => ?_); have hE5 : Ext W3 w5 := hE4.grown hg5 (own_ge ho4); have hf5 := hf3.ext hE5; have t0 : w5.cell? ⟨bF, 0, none⟩ = some (.string ⟨s.toArray⟩) := hf5.cell 0 rfl; have t1 : w5.cell? ⟨bF, 1, none⟩ = some (.slice f0.A f0.b.length f0.c) := hf5.cell 1 rfl; have t2 : w5.cell? ⟨bF, 2, none⟩ = some (.int .i64 f0.sure) := hf5.cell 2 rfl; have u1 := hf5.free 1; have hn5 := hnx.ext hE5; have hn6 := Row.away hn5 (p := ⟨bF, 1, none⟩) hneF.out (.slice A5 (bl + bn) c5); have v0 : (w5.setCell ⟨bF, 1, none⟩ (.slice A5 (bl + bn) c5)).cell? ⟨w2.heap.size, 0, none⟩ = some (.slice A n c) := hn6.cell 0 rfl; have v1 : (w5.setCell ⟨bF, 1, none⟩ (.slice A5 (bl + bn) c5)).cell? ⟨w2.heap.size, 1, none⟩ = some (.int .i64 q) := hn6.cell 1 rfl; have v2 : (w5.setCell ⟨bF, 1, none⟩ (.slice A5 (bl + bn) c5)).cell? ⟨w2.heap.size, 2, none⟩ = some (.int .i64 a1) := hn6.cell 2 rfl; have v3 : (w5.setCell ⟨bF, 1, none⟩ (.slice A5 (bl + bn) c5)).cell? ⟨w2.heap.size, 3, none⟩ = some (.bool false) := hn6.cell 3 rfl))
                have hE05 := hE03.trans hE5
                obtain ⟨w6, hw6⟩ : ∃ w6, w6 = w5.setCell ⟨bF, 1, none⟩ (.slice A5 (bl + bn) c5) := ⟨_, rfl⟩
                have hc6 : Chg (fun k => k = bF) w5 w6 := by rw [hw6]; exact Chg.of_set w5 (a := ⟨bF, 1, none⟩) _ rfl
                have hE06 : Ext w w6 := hE05.chg hc6 fun i hi hh => by rw [hbFs.out] at hh; omega
                have hR6 : RS w6 N2 A n c R := (hRx.ext (hEx3.trans hE5)).chg hc6 (fun k _ hk => hN2i k (.inr (.inr hk))) (fun _ _ h => h)
                obtain ⟨f1, hf1e⟩ : ∃ f1 : RE, f1 = ⟨s, f0.b ++ b, f0.sure, A5, c5⟩ := ⟨_, rfl⟩
                have hl5 : (f0.b ++ b).length = bl + bn := by rw [List.length_append, ← hbl.out, ← hbn.out]
                have hge5 := own_ge ho5
                have hok6 : ROk w6 N2 f1 := by
                  rw [hf1e]
                  refine ⟨?_, ?_, ?_, ?_, ?_, hs, ?_⟩
                  · have hcc : Cells w5 A5 ((f0.b ++ b).map B8) := by
                      rw [List.map_append]
                      exact Cells.of_own ho5
                    exact hc6.cells hcc fun x hx hh => by
                      have h1 := own_lt2 ho5 x hx
                      rw [hbFs.out] at hh
                      have h2 := hE03.size
                      have h3 := hwy.size
                      have h4 := hfx.lt
                      rw [hbFs.out] at h4
                      have h5 := hE2.size
                      have h6 := hE23.size
                      omega
                  · show (f0.b ++ b).length ≤ c5
                    rw [hl5]
                    exact own_cap2 ho5
                  · intro hA
                    have hA' : A5 = none := hA
                    rcases ho5.2 with ⟨hv, _⟩ | ⟨g, cap, cur, hv, _⟩
                    · injection hv with _ _ h3
                    · rw [hA'] at hv; cases hv
                  · intro x hx
                    have h1 := own_lt2 ho5 x hx
                    refine ⟨Nat.lt_of_lt_of_le h1.2.1 hc6.size, fun hn => ?_, h1.2.2⟩
                    have h2 := hN2s _ hn
                    have h3 : W.heap.size ≤ W3.heap.size := Nat.le_trans hE1.size (Nat.le_trans hcx.size hEx3.size)
                    omega
                  · show f0.sure ≤ (f0.b ++ b).length
                    rw [hl5]
                    have := hG.has.sure
                    rw [← hbl.out] at this
                    omega
                  · show (f0.b ++ b).length ≤ 67108864
                    rw [hl5]
                    exact hlong2
                have hcntw : (withG RE.name f1 R).length ≤ 1024 := by
                  cases hokv : ok with
                  | true =>
                    rw [hokv] at hG
                    refine Nat.le_trans (len_with_in (hG.here rfl).1 (by rw [hf1e]; exact hG.name)) ?_
                    rw [← h.len]
                    exact hmany
                  | false =>
                    refine Nat.le_trans (len_with_le _ _) ?_
                    rw [← h.len]
                    have : ¬ 1024 ≤ n := fun hh => hm ⟨hokv, hh⟩
                    omega
                have hwi := rwith_any N2 A n c q a1 false R f1 w6 hR6 hok6 (fun k hk => Nat.lt_of_lt_of_le (hN2s k hk) (Nat.le_trans hE1.size (Nat.le_trans hcx.size (Nat.le_trans hEx3.size (Nat.le_trans hE5.size hc6.size))))) hcntw
                have hLp : (withG RE.name f1 R).map RE.pl = withG fname (s, f0.b ++ b, f0.sure) P.L := by
                  rw [map_with (nm := RE.name) (nm' := fname) (g := RE.pl) (fun _ => rfl), hP, hf1e]
                  rfl
                have hagg : f1.agg = .agg #[.string ⟨s.toArray⟩, .slice A5 (bl + bn) c5, .int .i64 f0.sure] := by
                  rw [hf1e]
                  unfold RE.agg str
                  rw [hl5]
                rw [hagg, hw6] at hwi
                unfold rdisk at hwi
                have hr6 : Row (w5.setCell ⟨bF, 1, none⟩ (.slice A5 (bl + bn) c5)) (w.heap.size + 1) 29 #[.slice none 0 0, .int .i64 0, .int .i64 0, .bool false] := Row.away (hrx.ext (hEx3.trans hE5)) (p := ⟨bF, 1, none⟩) (by show w.heap.size + 1 ≠ bF; rw [hbFs.out]; omega) _
                rw [hw6] at hE06
                replace hwi := hide hwi
                replace hLp := hide hLp
                replace hl5 := hide hl5
                replace hge5 := hide hge5
                clear hw6 hf1e hagg hok6 hcntw hc6 hR6
                refine hwi.out.mono ?_
                rintro e w7 ⟨A7, n7, c7, rfl, hR7, hE7⟩
                have hr7 := hr6.ext hE7
                have hE07 := hE06.trans hE7
                have x0 := hr7.cell 0 rfl
                have x1 := hr7.cell 1 rfl
                have x2 := hr7.cell 2 rfl
                have x3 := hr7.cell 3 rfl
                have y0 := hr7.free 0
                have y1 := hr7.free 1
                have y2 := hr7.free 2
                have y3 := hr7.free 3
                go_wp2_with fail
                have hfin := tup_out hr7 hE07 (Nat.le_succ _) (A := A7) (n := n7) (c := c7) (q := q) (a := a1) (st := false)
                obtain ⟨wf, hwf⟩ : ∃ wf, wf = ((((w7.setCell ⟨w.heap.size + 1, 0, none⟩ (.slice A7 n7 c7)).setCell ⟨w.heap.size + 1, 1, none⟩ (.int .i64 q)).setCell ⟨w.heap.size + 1, 2, none⟩ (.int .i64 a1)).setCell ⟨w.heap.size + 1, 3, none⟩ (.bool false)) := ⟨_, rfl⟩
                rw [← hwf] at hfin ⊢
                obtain ⟨z0, z1, z2, z3, hEf, hcf⟩ := hfin
                refine bodyPost_ret (v := .tuple #[.agg #[.slice A7 n7 c7, .int .i64 q, .int .i64 a1, .bool false], .int .i64 0]) (by simp [results, Tryz.results20, go_sem, z0, z1, z2, z3]) rfl ?_
                rw [hpl3.out]
                exact ⟨A7, n7, c7, _, by rw [hq.out, ha1.out, ha'.out, ← hst.out]; rfl, hR7.chg hcf (fun k _ hk => hN2i k (.inr (.inl hk))) (fun k _ hk => by rw [hN2]; exact .inl hk), hLp.out, hEf⟩
set_option maxRecDepth 100000 in
set_option maxHeartbeats 4000000 in
theorem rappend_bad (N : Nat → Prop) (A : Option Addr) (n c : Nat) (P : PD) (R : List RE) (s b : List UInt8) (B : Option Addr) (bn bc : Nat) (w : World) (h : RS w N A n c R) (hP : R.map RE.pl = P.L) (hs : s.length ≤ 9223372036854775807) (hbad : namedM s = false ∨ P.stopped = true) :
    Calls Tryz.prog 20 #[rdisk A n c P.quota P.armed P.stopped, str s, .slice B bn bc] w (RNext N (appendM P s b) w) := by
  obtain ⟨q, hq⟩ : ∃ q, q = P.quota := ⟨_, rfl⟩
  obtain ⟨a, ha'⟩ : ∃ q, q = P.armed := ⟨_, rfl⟩
  obtain ⟨st, hst⟩ : ∃ q, q = P.stopped := ⟨_, rfl⟩
  rw [← hq, ← ha', ← hst]
  obtain ⟨W, hW⟩ : ∃ W, W = (w.alloc (.cells #[.slice A n c, .int .i64 q, .int .i64 a, .bool st] 29)).alloc (.cells #[.slice none 0 0, .int .i64 0, .int .i64 0, .bool false] 29) := ⟨_, rfl⟩
  have hE : Ext w W := by rw [hW]; exact ((Ext.refl w).alloc _).alloc _
  have hd : Row W w.heap.size 29 #[.slice A n c, .int .i64 q, .int .i64 a, .bool st] := by rw [hW]; exact (Row.new w _ _).alloc _
  have hr2 : Row W (w.heap.size + 1) 29 #[.slice none 0 0, .int .i64 0, .int .i64 0, .bool false] := by
    have := Row.new (w.alloc (.cells #[.slice A n c, .int .i64 q, .int .i64 a, .bool st] 29)) 29 #[.slice none 0 0, .int .i64 0, .int .i64 0, .bool false]
    rw [size_alloc] at this
    rw [hW]
    exact this
  have hnm := rnamed_any s W hs
  have hWx := hide hW.symm
  have d0 : W.cell? ⟨w.heap.size, 0, none⟩ = some (.slice A n c) := hd.cell 0 rfl
  have d1 : W.cell? ⟨w.heap.size, 1, none⟩ = some (.int .i64 q) := hd.cell 1 rfl
  have d2 : W.cell? ⟨w.heap.size, 2, none⟩ = some (.int .i64 a) := hd.cell 2 rfl
  have d3 : W.cell? ⟨w.heap.size, 3, none⟩ = some (.bool st) := hd.cell 3 rfl
  have r0 := hr2.cell 0 rfl
  have r1 := hr2.cell 1 rfl
  have r2 := hr2.cell 2 rfl
  have r3 := hr2.cell 3 rfl
  have f0 := hr2.free 0
  have f1 := hr2.free 1
  have f2 := hr2.free 2
  have f3 := hr2.free 3
  have same : ∀ (k : Nat) (wf : World), appendM P s b = (P, k) → Ext w wf → RNext N (appendM P s b) w (.returned (.tuple #[.agg #[.slice A n c, .int .i64 q, .int .i64 a, .bool st], .int .i64 k])) wf := by
    intro k wf hk hEf
    rw [hk, hq, ha', hst]
    exact rnext_same h hP hEf
  replace same := hide same
  unfold rdisk str
  unfold str at hnm
  clear hW
  by_cases hb0 : namedM s = false
  · have hres : appendM P s b = (P, 60) := by unfold appendM; rw [hb0]; rfl
    rw [hb0] at hnm
    replace hnm := hide hnm
    replace hres := hide hres
    replace hq := hide hq
    replace ha' := hide ha'
    replace hst := hide hst
    go_enter Tryz.func20, Tryz.ntmps20
    go_wp2_with fail
    rw [hWx.out]
    refine hnm.out.mono ?_
    rintro e w1 ⟨rfl, hw1⟩
    replace hw1 := hw1.symm
    subst hw1
    go_wp2_with fail
    have hfin := tup_out hr2 hE (Nat.le_succ _) (A := A) (n := n) (c := c) (q := q) (a := a) (st := st)
    obtain ⟨wf, hwf⟩ : ∃ wf, wf = ((((W.setCell ⟨w.heap.size + 1, 0, none⟩ (.slice A n c)).setCell ⟨w.heap.size + 1, 1, none⟩ (.int .i64 q)).setCell ⟨w.heap.size + 1, 2, none⟩ (.int .i64 a)).setCell ⟨w.heap.size + 1, 3, none⟩ (.bool st)) := ⟨_, rfl⟩
    rw [← hwf] at hfin ⊢
    obtain ⟨z0, z1, z2, z3, hEf, _⟩ := hfin
    exact bodyPost_ret (v := .tuple #[.agg #[.slice A n c, .int .i64 q, .int .i64 a, .bool st], .int .i64 60]) (by simp [results, Tryz.results20, go_sem, z0, z1, z2, z3]) rfl (same.out 60 wf hres.out hEf)
  · have hnmd : namedM s = true := by simpa using hb0
    have hst2 : st = true := by
      rw [hst]
      rcases hbad with hbad | hbad
      · exact (hb0 hbad).elim
      · exact hbad
    have hres : appendM P s b = (P, 63) := by unfold appendM; rw [hnmd, ← hst, hst2]; rfl
    subst hst2
    rw [hnmd] at hnm
    replace hnm := hide hnm
    replace hres := hide hres
    replace hq := hide hq
    replace ha' := hide ha'
    replace hst := hide hst
    go_enter Tryz.func20, Tryz.ntmps20
    go_wp2_with fail
    rw [hWx.out]
    refine hnm.out.mono ?_
    rintro e w1 ⟨rfl, hw1⟩
    replace hw1 := hw1.symm
    subst hw1
    go_wp2_with fail
    have hfin := tup_out hr2 hE (Nat.le_succ _) (A := A) (n := n) (c := c) (q := q) (a := a) (st := true)
    obtain ⟨wf, hwf⟩ : ∃ wf, wf = ((((W.setCell ⟨w.heap.size + 1, 0, none⟩ (.slice A n c)).setCell ⟨w.heap.size + 1, 1, none⟩ (.int .i64 q)).setCell ⟨w.heap.size + 1, 2, none⟩ (.int .i64 a)).setCell ⟨w.heap.size + 1, 3, none⟩ (.bool true)) := ⟨_, rfl⟩
    rw [← hwf] at hfin ⊢
    obtain ⟨z0, z1, z2, z3, hEf, _⟩ := hfin
    exact bodyPost_ret (v := .tuple #[.agg #[.slice A n c, .int .i64 q, .int .i64 a, .bool true], .int .i64 63]) (by simp [results, Tryz.results20, go_sem, z0, z1, z2, z3]) rfl (same.out 63 wf hres.out hEf)
theorem rappend_any (N : Nat → Prop) (A : Option Addr) (n c : Nat) (P : PD) (R : List RE) (s b : List UInt8) (B : Option Addr) (bn bc : Nat) (w : World) (h : RS w N A n c R) (hP : R.map RE.pl = P.L) (hN : ∀ k, N k → k < w.heap.size) (hs : s.length ≤ 9223372036854775807) (ha : P.armed ≤ 9223372036854775807)
    (hb : Bs w B b) (hbn : bn = b.length) (hbn2 : bn ≤ 1073741824) (hqb : P.quota ≤ 9223372036854775807) :
    Calls Tryz.prog 20 #[rdisk A n c P.quota P.armed P.stopped, str s, .slice B bn bc] w (RNext N (appendM P s b) w) := by
  cases hnm : namedM s with
  | false => exact rappend_bad N A n c P R s b B bn bc w h hP hs (.inl hnm)
  | true =>
    cases hst : P.stopped with
    | true => rw [← hst]; exact rappend_bad N A n c P R s b B bn bc w h hP hs (.inr hst)
    | false => rw [← hst]; exact rappend_good N A n c P R s b B bn bc w h hP hN hs ha hb hbn hbn2 hqb hnm hst
end Go.Proofs.YtohphanbnhiodaaGreat

