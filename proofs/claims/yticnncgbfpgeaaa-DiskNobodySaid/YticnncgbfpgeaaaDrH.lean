/- loggiaref06: Restart. -/
import Derived.Test.YticnncgbfpgeaaaDrF
namespace Go.Proofs.Yticnncgbfpgeaaa
open Go.RowKit Go.Maps

def RE.cut (r : RE) (n : Nat) : RE := { r with b := r.b.take n, sure := n }
def keptR (R : List RE) (keep : List Int) : List RE := R.mapIdx fun j r => r.cut (leftM r.pl keep[j]?)
theorem keptR_pl (R : List RE) (keep : List Int) : (keptR R keep).map RE.pl = keptM (R.map RE.pl) keep := by
  apply List.ext_getElem?
  intro j
  unfold keptR keptM
  rw [List.getElem?_map, List.getElem?_mapIdx, List.getElem?_mapIdx, List.getElem?_map]
  cases R[j]? <;> rfl
theorem keptR_len (R : List RE) (keep : List Int) : (keptR R keep).length = R.length := by unfold keptR; simp
theorem keptR_at {R : List RE} {keep : List Int} {j : Nat} {r : RE} (h : R[j]? = some r) : (keptR R keep)[j]? = some (r.cut (leftM r.pl keep[j]?)) := by
  unfold keptR
  rw [List.getElem?_mapIdx, h]
  rfl
theorem rleft_le (r : RE) (h : r.sure ≤ r.b.length) (k : Option Int) : leftM r.pl k ≤ r.b.length := left_le ⟨r.name, 0, r.b, r.sure, none, 0⟩ h k
theorem ROk.cut {w : World} {N : Nat → Prop} {r : RE} (h : ROk w N r) {n : Nat} (hn : n ≤ r.b.length) : ROk w N (r.cut n) := by
  have hl : (r.b.take n).length = n := by rw [List.length_take]; omega
  refine ⟨?_, ?_, h.nil, h.away, ?_, h.name, ?_⟩
  · show Bs w r.A (r.b.take n)
    rcases h.bytes with h1 | ⟨g, o, hA, hc⟩
    · left
      have : r.b = [] := by simpa using h1
      rw [this]
      simp
    · refine .inr ⟨g, o, hA, fun i v hv => hc i v ?_⟩
      rw [List.map_take, List.getElem?_take] at hv
      split at hv
      · exact hv
      · cases hv
  · show (r.b.take n).length ≤ r.c
    rw [hl]
    exact Nat.le_trans hn h.cap
  · show n ≤ (r.b.take n).length
    rw [hl]
    exact Nat.le_refl _
  · show (r.b.take n).length ≤ _
    rw [hl]
    exact Nat.le_trans hn h.len
set_option maxRecDepth 100000 in
/-- x[:n] -/
theorem run_head {t e n c k : Nat} {A : Option Addr} (ht : Try.prog.underlying t = some (.slice e)) (hs : ∀ W : World, (sizeOf e).run Try.prog W = .ok 1 W) (h : k ≤ c) (hA : ∀ a, A = some a → a.spot = none) (W : World) :
    (Instr.sliceAt t (.slice A n c) none (some (.int .i64 k)) none).run Try.prog W = .ok (.slice A k c) W := by
  have he : Try.prog.elem t = e := by unfold Program.elem; rw [ht]
  rw [run_sliceAt_slice W t _ _ _ _ (by rw [ht, he]), run_slice_h W t A n c (by rw [ht, he]) .i64 k (by omega) (by omega), he, hs]
  simp only [Result.andThen_ok]
  congr 1
  unfold sliced
  have : (if c = 0 then A else A.map fun x => x.add (0 * 1)) = A := by
    cases A with
    | none => simp
    | some a =>
      obtain ⟨b, o, sp⟩ := a
      obtain rfl : sp = none := hA _ rfl
      simp [Addr.add_lit]
  rw [this]
  simp
theorem rdisk_out3 {w0 wr : World} {r base n1 c1 q a : Nat} {A1 : Option Addr} {st : Bool} {xs : List Value} {v0 v1 v2 v3 : Value} (hrr : Row wr r 36 #[v0, v1, v2, v3]) (ho : wr.ownsRow base 53 3 (.slice A1 n1 c1) n1 xs)
    (hge : ∀ k, (Value.slice A1 n1 c1).ownBlock = some k → k ≠ r) (hE : Ext w0 wr) (hbr : w0.heap.size ≤ r) {wf : World}
    (hwf : wf = ((((wr.setCell ⟨r, 0, none⟩ (.slice A1 n1 c1)).setCell ⟨r, 1, none⟩ (.int .i64 q)).setCell ⟨r, 2, none⟩ (.int .i64 a)).setCell ⟨r, 3, none⟩ (.bool st)) := by rfl) :
    wf.cell? ⟨r, 0, none⟩ = some (.slice A1 n1 c1) ∧ wf.cell? ⟨r, 1, none⟩ = some (.int .i64 q) ∧ wf.cell? ⟨r, 2, none⟩ = some (.int .i64 a) ∧ wf.cell? ⟨r, 3, none⟩ = some (.bool st) ∧ Ext w0 wf ∧ wf.ownsRow base 53 3 (.slice A1 n1 c1) n1 xs := by
  have hr : Row wf r 36 #[.slice A1 n1 c1, .int .i64 q, .int .i64 a, .bool st] := by
    rw [hwf]
    exact (((hrr.put 0 _).put 1 _).put 2 _).put 3 _
  refine ⟨hr.cell 0 rfl, hr.cell 1 rfl, hr.cell 2 rfl, hr.cell 3 rfl, ?_, ?_⟩
  · rw [hwf]
    exact (((hE.setCell (p := ⟨r, 0, none⟩) hbr _).setCell (p := ⟨r, 1, none⟩) hbr _).setCell (p := ⟨r, 2, none⟩) hbr _).setCell (p := ⟨r, 3, none⟩) hbr _
  · rw [hwf]
    have hk2 : ∀ o : Nat, (Value.slice A1 n1 c1).ownBlock ≠ some (⟨r, o, none⟩ : Addr).block := fun o hh => hge _ hh rfl
    exact owns_set (owns_set (owns_set (owns_set ho (hk2 _) _) (hk2 _) _) (hk2 _) _) (hk2 _) _
set_option maxRecDepth 100000 in
set_option maxHeartbeats 2000000 in
theorem rrestart_any (N : Nat → Prop) (A : Option Addr) (n c q a : Nat) (st : Bool) (R : List RE) (K : Option Addr) (kn kc : Nat) (keep : List Int) (w : World) (h : RS w N A n c R) (hN : ∀ k, N k → k < w.heap.size) (hK : Cells w K (keep.map I64)) (hkn : kn = keep.length)
    (hkb : ∀ k ∈ keep, -9223372036854775808 ≤ k ∧ k ≤ 9223372036854775807) (hkl : kn ≤ 1073741824) :
    Calls Try.prog 39 #[rdisk A n c q a st, .slice K kn kc] w fun e w' => ∃ A1 n1 c1, e = .returned (rdisk A1 n1 c1 q 0 false) ∧ RS w' N A1 n1 c1 (keptR R keep) ∧ Ext w w' := by
  obtain ⟨W, hW⟩ : ∃ W, W = (w.alloc (.cells #[.slice A n c, .int .i64 q, .int .i64 a, .bool st] 36)).alloc (.cells #[.slice none 0 0, .int .i64 0, .int .i64 0, .bool false] 36) := ⟨_, rfl⟩
  have hE : Ext w W := by rw [hW]; exact ((Ext.refl w).alloc _).alloc _
  have hWs : W.heap.size = w.heap.size + 2 := by rw [hW, size_alloc, size_alloc]
  have hd : Row W w.heap.size 36 #[.slice A n c, .int .i64 q, .int .i64 a, .bool st] := by rw [hW]; exact (Row.new w _ _).alloc _
  have hr2 : Row W (w.heap.size + 1) 36 #[.slice none 0 0, .int .i64 0, .int .i64 0, .bool false] := by
    have := Row.new (w.alloc (.cells #[.slice A n c, .int .i64 q, .int .i64 a, .bool st] 36)) 36 #[.slice none 0 0, .int .i64 0, .int .i64 0, .bool false]
    rw [size_alloc] at this
    rw [hW]
    exact this
  have hR := h.ext hE
  have hlen := h.len
  have hmany := h.many
  have hWx := hide hW.symm
  unfold rdisk
  clear hW
  replace hlen := hide hlen
  replace hWs := hide hWs
  replace hkn := hide hkn
  go_enter Try.func39, Try.ntmps39
  go_wp2_with fail
  rw [hWx.out]
  go_loopw [5, 6] (fun s5 s6 wr => ∃ (i c1 : Nat) (A1 : Option Addr), s6 = .int .i64 i ∧ s5 = .slice A1 i c1 ∧ i ≤ n ∧ Hid (wr.ownsRow W.heap.size 53 3 (.slice A1 i c1) i (rcells ((keptR R keep).take i))) ∧ Ext W wr) (fun _ s6 _ => n - (intOf s6).toNat)
  case atStart => exact ⟨0, 0, none, rfl, rfl, by omega, hide (World.ownsRow_nil _ _ _ _), Ext.refl _⟩
  case round =>
    obtain ⟨i, c1, A1, rfl, rfl, hi, hO, hEr⟩ := hrel
    have hdr := hd.ext hEr
    have c0r : wr.cell? ⟨w.heap.size, 0, none⟩ = some (.slice A n c) := hdr.cell 0 rfl
    by_cases hin : i < n
    · obtain ⟨g, o, r, rfl, hr, k0, k1, k2⟩ := (hR.ext hEr).at_ hin
      unfold str at k0
      have hok := h.ok r (List.mem_of_getElem? hr)
      have hsp : ∀ a, r.A = some a → a.spot = none := fun a ha => (hok.away a ha).2.2
      have hsu := hok.sure
      have hbl := hok.len
      have hcap := hok.cap
      obtain ⟨left, hleft⟩ : ∃ left, left = leftM r.pl keep[i]? := ⟨_, rfl⟩
      have hll := rleft_le r hsu keep[i]?
      rw [← hleft] at hll
      have hsl := run_head (t := 27) (e := 5) (n := r.b.length) (c := r.c) (k := left) Try.underlying27 (fun W => by kernel_rfl) (by omega) hsp
      have htk := take_one (keptR R keep) i _ (keptR_at (keep := keep) hr)
      rw [← hleft] at htk
      have hcl : (r.cut left).cells = [str r.name, .slice r.A left r.c, .int .i64 left] := by
        unfold RE.cells RE.cut
        have : (r.b.take left).length = left := by rw [List.length_take]; omega
        rw [this]
      obtain ⟨bl, hbln⟩ : ∃ bl, bl = r.b.length := ⟨_, rfl⟩
      obtain ⟨su, hsun⟩ : ∃ su, su = r.sure := ⟨_, rfl⟩
      rw [← hbln] at k1 hbl hll hsl hsu hcap
      rw [← hsun] at k2 hsu
      have hO2 := hO.out
      have hge := own_ge hO2
      have hsz : W.heap.size ≤ wr.heap.size := hEr.size
      obtain ⟨o1, ho1⟩ : ∃ o1, o1 = Obj.cells #[.string ⟨r.name.toArray⟩, .slice r.A left r.c, .int .i64 left] 53 := ⟨_, rfl⟩
      have hO3 := ((Ext.refl wr).alloc o1).owns hO2
      have hsz3 : W.heap.size ≤ (wr.alloc o1).heap.size := Nat.le_trans hsz ((Ext.refl wr).alloc o1).size
      have hE3o := hEr.alloc o1
      have hbl3 : wr.heap.size + 1 = (wr.alloc o1).heap.size := (size_alloc _ _).symm
      rw [ho1] at hO3 hsz3 hE3o hbl3
      replace hbl3 := hide hbl3
      replace ho1 := hide ho1
      replace hsp := hide hsp
      replace hge := hide hge
      replace htk := hide htk
      replace hcl := hide hcl
      by_cases hik : i < kn
      · obtain ⟨kg, ko, rfl, hkc⟩ := hK.at_ (by rw [List.length_map, ← hkn.out]; omega)
        obtain ⟨k, hk⟩ : ∃ k, keep[i]? = some k := ⟨_, List.getElem?_eq_getElem (by rw [← hkn.out]; exact hik)⟩
        have ck : w.cell? ⟨kg, ko + i, none⟩ = some (.int .i64 k) := hkc i (I64 k) (by rw [List.getElem?_map, hk]; rfl)
        have ckr : wr.cell? ⟨kg, ko + i, none⟩ = some (.int .i64 k) := (hE.trans hEr).cell ck
        have hkgl : kg < wr.heap.size := World.block_lt_of_cell? wr ⟨kg, ko + i, none⟩ ckr
        obtain ⟨hk1, hk2⟩ := hkb k (List.mem_of_getElem? hk)
        have hlk3 : (su : Int) + k.tmod ((bl : Int) - su + 1) % ((bl : Int) - su + 1) = left := by
          have hb := tmod_bd k ((bl : Int) - su + 1) (by omega)
          have hg := go_mod k ((bl : Int) - su + 1) (by omega)
          rw [Int.tmod_eq_emod_of_nonneg (by omega), Int.add_emod_right] at hg
          rw [hg, hleft, hk]
          show _ = ((r.sure + (k % ((r.b.length : Int) - r.sure + 1)).toNat : Nat) : Int)
          rw [hbln, hsun]
          have := Int.emod_nonneg k (show (r.b.length : Int) - r.sure + 1 ≠ 0 by omega)
          omega
        have hlk4 : (su : Int) + (k.tmod ((bl : Int) - su + 1) + ((bl : Int) - su + 1)) % ((bl : Int) - su + 1) = left := by rw [Int.add_emod_right]; exact hlk3
        have htb := tmod_bd k ((bl : Int) - su + 1) (by omega)
        have hnn := Int.emod_nonneg (k.tmod ((bl : Int) - su + 1)) (show (bl : Int) - su + 1 ≠ 0 by omega)
        replace hbln := hide hbln
        replace hsun := hide hsun
        replace hleft := hide hleft
        replace hk := hide hk
        replace hr := hide hr
        clear hkc ck
        go_wp2_with (at_builtin; refine wpList_appB (us := [.string ⟨r.name.toArray⟩, .slice r.A left r.c, .int .i64 left]) (m := 1) (wr.heap.size + 1) hbl3.out elemF hO3 (.tmp 54) (.tmp 56) rfl rfl rfl rfl rfl (one_of rfl) (by omega) hsz3 (fun A3 c3 w3 ho3 hg3 => ?_))
        have ho4 : Hid (w3.ownsRow W.heap.size 53 3 (.slice A3 (i + 1) c3) (i + 1) (rcells ((keptR R keep).take (i + 1)))) := hide (by
          rw [htk.out, rcells_append]
          show w3.ownsRow _ _ 3 _ _ (_ ++ ((r.cut left).cells ++ []))
          rw [hcl.out, List.append_nil]
          exact ho3)
        have hE3 : Ext W w3 := hE3o.grown hg3 hge.out
        go_roundw
        case rel => exact ⟨i + 1, c3, A3, by go_num, rfl, by omega, ho4, hE3⟩
        case measure => simp [intOf]; omega
      · have hlk2 : left = su := by
          have : keep[i]? = none := List.getElem?_eq_none (by rw [← hkn.out]; omega)
          rw [hleft, this, hsun]
          rfl
        subst hlk2
        replace hbln := hide hbln
        replace hsun := hide hsun
        replace hleft := hide hleft
        replace hr := hide hr
        go_wp2_with (at_builtin; refine wpList_appB (us := [.string ⟨r.name.toArray⟩, .slice r.A left r.c, .int .i64 left]) (m := 1) (wr.heap.size + 1) hbl3.out elemF hO3 (.tmp 54) (.tmp 56) rfl rfl rfl rfl rfl (one_of rfl) (by omega) hsz3 (fun A3 c3 w3 ho3 hg3 => ?_))
        have ho4 : Hid (w3.ownsRow W.heap.size 53 3 (.slice A3 (i + 1) c3) (i + 1) (rcells ((keptR R keep).take (i + 1)))) := hide (by
          rw [htk.out, rcells_append]
          show w3.ownsRow _ _ 3 _ _ (_ ++ ((r.cut left).cells ++ []))
          rw [hcl.out, List.append_nil]
          exact ho3)
        have hE3 : Ext W w3 := hE3o.grown hg3 hge.out
        go_roundw
        case rel => exact ⟨i + 1, c3, A3, by go_num, rfl, by omega, ho4, hE3⟩
        case measure => simp [intOf]; omega
    · obtain rfl : i = n := by omega
      have hO2 := hO.out
      rw [List.take_of_length_le (by rw [keptR_len, ← hlen.out]; exact Nat.le_refl _)] at hO2
      have hrr := hr2.ext hEr
      have c1r : wr.cell? ⟨w.heap.size, 1, none⟩ = some (.int .i64 q) := hdr.cell 1 rfl
      have fr0 := hrr.free 0
      have fr1 := hrr.free 1
      have fr2 := hrr.free 2
      have fr3 := hrr.free 3
      have e0 : wr.cell? ⟨w.heap.size + 1, 0, none⟩ = some (.slice none 0 0) := hrr.cell 0 rfl
      have e1 : wr.cell? ⟨w.heap.size + 1, 1, none⟩ = some (.int .i64 0) := hrr.cell 1 rfl
      have e2 : wr.cell? ⟨w.heap.size + 1, 2, none⟩ = some (.int .i64 0) := hrr.cell 2 rfl
      have e3 : wr.cell? ⟨w.heap.size + 1, 3, none⟩ = some (.bool false) := hrr.cell 3 rfl
      have hgeN : ∀ k, k ≥ W.heap.size → k ≠ w.heap.size ∧ k ≠ w.heap.size + 1 := fun k hk => by rw [hWs.out] at hk; exact ⟨by omega, by omega⟩
      have hmem : ∀ x ∈ keptR R keep, ∀ wf, Ext w wf → ROk wf N x := fun x hx wf hwf => by
        obtain ⟨j, hj⟩ := List.getElem?_of_mem hx
        cases hjr : R[j]? with
        | none =>
          unfold keptR at hj
          rw [List.getElem?_mapIdx, hjr] at hj
          cases hj
        | some r =>
          rw [keptR_at hjr] at hj
          cases hj
          have hok := h.ok r (List.mem_of_getElem? hjr)
          exact (hok.cut (rleft_le r hok.sure _)).ext hwf
      replace hgeN := hide hgeN
      replace hmem := hide hmem
      go_wp2_with fail
      have hfin := rdisk_out3 hrr hO2 (fun k hk => (hgeN.out k (own_ge hO2 k hk)).2) (hE.trans hEr) (Nat.le_succ _) (q := q) (a := 0) (st := false)
      obtain ⟨wf, hwf⟩ : ∃ wf, wf = ((((wr.setCell ⟨w.heap.size + 1, 0, none⟩ (.slice A1 i c1)).setCell ⟨w.heap.size + 1, 1, none⟩ (.int .i64 q)).setCell ⟨w.heap.size + 1, 2, none⟩ (.int .i64 0)).setCell ⟨w.heap.size + 1, 3, none⟩ (.bool false)) := ⟨_, rfl⟩
      have hwf2 : ((((wr.setCell ⟨w.heap.size + 1, 0, none⟩ (.slice A1 i c1)).setCell ⟨w.heap.size + 1, 1, none⟩ (.int .i64 q)).setCell ⟨w.heap.size + 1, 2, none⟩ (.int .i64 ((0 : Nat) : Int))).setCell ⟨w.heap.size + 1, 3, none⟩ (.bool false)) = wf := hwf.symm
      rw [hwf2] at hfin
      rw [← hwf]
      obtain ⟨z0, z1, z2, z3, hEf, hof⟩ := hfin
      refine bodyPost_ret (v := .agg #[.slice A1 i c1, .int .i64 q, .int .i64 ((0 : Nat) : Int), .bool false]) (by simp [results, Try.results39, go_sem, z0, z1, z2, z3]) rfl ⟨A1, i, c1, rfl, ?_⟩
      exact ⟨RS.of_own (w := w) hof (by rw [hWs.out]; omega) hN (fun r hr => hmem.out r hr wf hEf) (by rw [keptR_len, ← hlen.out]; exact hmany), hEf⟩
end Go.Proofs.Yticnncgbfpgeaaa
