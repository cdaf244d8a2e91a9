/- loggia/disk: Restart. -/
import Derived.Test.YticnncgbfpgeaaaDkW
namespace Go.Proofs.Yticnncgbfpgeaaa
open Go.RowKit Go.Maps

theorem DE.lookup1 {w : World} {base d m : Nat} {P : PD} {E : List Ent} {e : Ent} (h : DE w base d m P E) (he : e ∈ E) (W : World) (hW : W.heap[m]? = w.heap[m]?) :
    (Instr.lookup 61 (.map (some m)) (str e.name) false).run Try.prog W = .ok (.pointer (some ⟨e.f, 0, none⟩)) W := by
  obtain ⟨L, hL, hmem, _⟩ := h.fs.map
  rcases (hL.keep hW).look keyS Try.underlying61 (x := str e.name) (z := .pointer none) (key_str (h.fs.short e he)) (by kernel_rfl) false with ⟨v, hv, hrun⟩ | ⟨hno, hrun⟩
  · have : v = .pointer (some ⟨e.f, 0, none⟩) := (hL.keep hW).unique hv ((hmem e.kv).2 ⟨e, he, rfl⟩)
    rw [this] at hrun
    exact hrun
  · exact (hno e.kv ((hmem _).2 ⟨e, he, rfl⟩) rfl).elim
theorem Cut.drew {w wr : World} {base m : Nat} {E : List Ent} {keep : List Int} {i : Nat} (h : Cut w wr base m E keep i) : Cut w wr.drew base m E keep i :=
  ⟨h.chg.trans (Chg.of_ext (Ext.refl wr).drew (fun _ => False)) (fun _ _ h => h.elim), fun j e he => (h.now j e he).drew⟩
def I64 (k : Int) : Value := .int .i64 k
theorem tmod_is (k m : Int) (hm : 0 < m) : k.tmod m = k % m ∨ (k.tmod m = k % m - m ∧ k % m ≠ 0) := by
  rw [Int.tmod_eq_emod]
  have hn : (m.natAbs : Int) = m := by omega
  by_cases h3 : 0 ≤ k ∨ m ∣ k
  · rw [if_pos h3]
    exact .inl (by omega)
  · rw [if_neg h3, hn]
    exact .inr ⟨rfl, fun h => h3 (.inr (Int.dvd_of_emod_eq_zero h))⟩
theorem tmod_bd (k m : Int) (hm : 0 < m) : -m < k.tmod m ∧ k.tmod m < m := by
  have h1 := Int.emod_nonneg k (show m ≠ 0 by omega)
  have h2 := Int.emod_lt_of_pos k hm
  rcases tmod_is k m hm with h | ⟨h, h3⟩ <;> omega
/-- What Go's way of reckoning it gives. -/
theorem go_mod (k m : Int) (hm : 0 < m) : (k.tmod m + m).tmod m = k % m := by
  have hb := tmod_bd k m hm
  rw [Int.tmod_eq_emod_of_nonneg (by omega), Int.add_emod_right]
  rcases tmod_is k m hm with h | ⟨h, _⟩
  · rw [h, Int.emod_emod]
  · rw [h, Int.sub_emod_right, Int.emod_emod]
set_option maxRecDepth 100000 in
set_option maxHeartbeats 2000000 in
theorem restart_any0 (base d : Nat) (P : PD) (F : Nat → Prop) (K : Option Addr) (kn kc : Nat) (keep : List Int) (w : World) (h : DS w base d P F) (hK : Cells w K (keep.map I64)) (hKF : keep ≠ [] → ∀ a, K = some a → ¬ F a.block) (hkn : kn = keep.length)
    (hkb : ∀ k ∈ keep, -9223372036854775808 ≤ k ∧ k ≤ 9223372036854775807) (hkl : kn ≤ 1073741824) :
    Calls Try.prog 20 #[.pointer (some ⟨d, 0, none⟩), .slice K kn kc] w fun e w' => e = .returned (.tuple #[]) ∧ DNext base d F w (restartM P keep) w' := by
  have hS := h
  obtain ⟨m, E, hD, hF⟩ := h
  have h0 := none_any d m P.quota P.armed P.stopped w hD.row
  have hnm := names_any base d m P.quota P.armed P.stopped E w hD.row hD.fs hD.cnt
  rw [sortN_eq hD.up.le] at hnm
  replace h0 := hide h0
  replace hnm := hide hnm
  replace hkn := hide hkn
  go_enter Try.func20, Try.ntmps20
  go_wp2_with fail
  refine h0.out.mono ?_
  rintro e w1 ⟨rfl, rfl⟩
  go_wp2_with fail
  refine hnm.out.mono ?_
  rintro e w2 ⟨A, n, c, rfl, hn, hbuf, hE⟩
  have hD2 : DE w2 base d m P E := hD.chg (Chg.of_ext hE (fun _ => False)) (fun _ h => h.elim)
  have hnc := hD.cnt
  have hn2 : n ≤ 1024 := by omega
  have hst := Cut.start (keep := keep) hD2
  replace hn := hide hn
  go_wp2_with fail
  go_loopw [14] (fun s14 wr => ∃ i : Nat, s14 = .int .i64 i ∧ i ≤ n ∧ Hid (Cut w2 wr base m E keep i)) (fun s14 _ => n - (intOf s14).toNat)
  case atStart => exact ⟨0, rfl, by omega, hide hst⟩
  case round =>
    obtain ⟨i, rfl, hi, hcut⟩ := hrel
    by_cases hin : i < n
    · have hil : i < E.length := by rw [← hn.out]; exact hin
      obtain ⟨e, he⟩ : ∃ e, E[i]? = some e := ⟨_, List.getElem?_eq_getElem hil⟩
      have hm := List.mem_of_getElem? he
      have hc := hcut.out.chg
      have hap := hD2.apart
      obtain ⟨g, o, rfl, hcl⟩ := hbuf.cells.at_ (by rw [List.length_map, List.length_map]; omega)
      have hgb : w1.heap.size ≤ g := hbuf.base_le _ rfl
      have cn : w2.cell? ⟨g, o + i, none⟩ = some (str e.name) := hcl i _ (by simp [he])
      have cnr : wr.cell? ⟨g, o + i, none⟩ = some (str e.name) := hc.cell cn fun ⟨e', he', hh⟩ => by
        have h1 := (hD.fs.ok e' he').row.lt
        have h2 : g = e'.f := hh
        omega
      have c0 : wr.cell? ⟨d, 0, none⟩ = some (.map (some m)) := (Chg.row hc hD2.row fun ⟨e', he', hh⟩ => (hap.2 e' he').1 hh).cell 0 rfl
      have hmb : wr.heap[m]? = w2.heap[m]? := by
        obtain ⟨L, hL, hmem, _⟩ := hD2.fs.map
        exact hc.block m hL.lt fun ⟨e', he', hh⟩ => ((hD2.fs.ok e' he').ne_map hL).1 hh.symm
      have hlk := hD2.lookup1 hm wr hmb
      have hr := hcut.out.now i e he
      rw [if_neg (by omega)] at hr
      have cf0 : wr.cell? ⟨e.f, 0, none⟩ = some (.slice e.A e.b.length e.c) := hr.cell 0 rfl
      have cf1 : wr.cell? ⟨e.f, 1, none⟩ = some (.int .i64 e.sure) := hr.cell 1 rfl
      have f0 := hr.free 0
      have f1 := hr.free 1
      have hok := hD2.fs.ok e hm
      have hsu := hok.sure
      have hbl := hD2.lens e hm
      have hbc := hok.buf.2.1
      have hsp : ∀ a, e.A = some a → a.spot = none := by
        intro a hA
        rcases hok.buf.2.2 with h | ⟨g, cur, hg, _⟩
        · rw [hA] at h; cases h.1
        · rw [hA] at hg; cases hg; rfl
      obtain ⟨left, hleft⟩ : ∃ left, left = e.left keep[i]? := ⟨_, rfl⟩
      have hll := left_le e hsu keep[i]?
      rw [← hleft] at hll
      have hsl := run_cut (t := 27) (e := 5) (n := e.b.length) (c := e.c) (k := left) Try.underlying27 (fun W => by kernel_rfl) (by omega) hsp
      have hstep := Cut.step (v := .slice e.A left left) (u := .int .i64 left) hD2 hcut.out he (by rw [hleft]) (by rw [hleft])
      obtain ⟨bl, hbln⟩ : ∃ bl, bl = e.b.length := ⟨_, rfl⟩
      obtain ⟨su, hsun⟩ : ∃ su, su = e.sure := ⟨_, rfl⟩
      rw [← hbln] at cf0 hbl hll hsl hsu
      rw [← hsun] at cf1 hsu
      unfold str at cnr hlk
      replace hstep := hide hstep
      replace hmb := hide hmb
      replace hsp := hide hsp
      by_cases hik : i < kn
      · obtain ⟨kg, ko, rfl, hkc⟩ := hK.at_ (by rw [List.length_map, ← hkn.out]; omega)
        obtain ⟨k, hk⟩ : ∃ k, keep[i]? = some k := ⟨_, List.getElem?_eq_getElem (by rw [← hkn.out]; exact hik)⟩
        have hkne : keep ≠ [] := fun e => by rw [e] at hk; simp at hk
        have ck : w1.cell? ⟨kg, ko + i, none⟩ = some (.int .i64 k) := hkc i (I64 k) (by rw [List.getElem?_map, hk]; rfl)
        have ckr : wr.cell? ⟨kg, ko + i, none⟩ = some (.int .i64 k) := hc.cell (hE.cell ck) fun ⟨e', he', hh⟩ => hKF hkne _ rfl ((hF _).2 (.inr (.inr ⟨e', he', .inl hh⟩)))
        obtain ⟨hk1, hk2⟩ := hkb k (List.mem_of_getElem? hk)
        have hlk2 : (left : Int) = su + (k.tmod ((bl : Int) - su + 1) + ((bl : Int) - su + 1)).tmod ((bl : Int) - su + 1) := by
          rw [go_mod _ _ (by omega), hleft, hk]
          show ((e.sure + (k % ((e.b.length : Int) - e.sure + 1)).toNat : Nat) : Int) = _
          rw [hbln, hsun]
          have := Int.emod_nonneg k (show (e.b.length : Int) - e.sure + 1 ≠ 0 by omega)
          omega
        have hlk3 : (su : Int) + k.tmod ((bl : Int) - su + 1) % ((bl : Int) - su + 1) = left := by
          have hb := tmod_bd k ((bl : Int) - su + 1) (by omega)
          rw [Int.tmod_eq_emod_of_nonneg (by omega), Int.add_emod_right] at hlk2
          exact hlk2.symm
        have htb := tmod_bd k ((bl : Int) - su + 1) (by omega)
        replace hbln := hide hbln
        replace hsun := hide hsun
        replace hleft := hide hleft
        replace hlk2 := hide hlk2
        replace hk := hide hk
        clear hcl hkc hr hst hok hap hD2 ck cn
        go_wp2_with fail
        refine wp_region_text follows (by kernel_rfl) (by kernel_rfl) (fun K hK => ?_)
        go_wp2_with fail
        refine ⟨by kernel_rfl, ?_⟩
        go_wp2_with fail
        go_roundw
        case rel => exact ⟨i + 1, by go_num, by omega, hide (Cut.drew hstep.out)⟩
        case measure => simp [intOf]; omega
      · have hlk2 : left = su := by
          have : keep[i]? = none := List.getElem?_eq_none (by rw [← hkn.out]; omega)
          rw [hleft, this, hsun]
          rfl
        subst hlk2
        replace hbln := hide hbln
        replace hsun := hide hsun
        replace hleft := hide hleft
        clear hcl hr hst hok hap hD2 cn
        go_wp2_with fail
        go_roundw
        case rel => exact ⟨i + 1, by go_num, by omega, hstep⟩
        case measure => simp [intOf]; omega
    · obtain rfl : i = n := by omega
      have hc := hcut.out.chg
      have hap := hD2.apart
      have hrd : DRow wr d m P.quota P.armed P.stopped := Chg.row hc hD2.row fun ⟨e', he', hh⟩ => (hap.2 e' he').1 hh
      have c2 : wr.cell? ⟨d, 2, none⟩ = some (.int .i64 P.armed) := Row.cell hrd 2 rfl
      have c3 : wr.cell? ⟨d, 3, none⟩ = some (.bool P.stopped) := Row.cell hrd 3 rfl
      have f2 := Row.free hrd 2
      have f3 := Row.free hrd 3
      have hcut2 := hcut.out
      rw [hn.out] at hcut2
      obtain ⟨h1, h2, h3⟩ := cut_end hD2 hcut2 rfl
      have fin : DNext base d F w1 (restartM P keep) _ := hS.next hF h1 ((Chg.of_ext hE (Foot d m E)).trans h2 fun _ _ h => h) fun k hk => .inl (h3 k hk)
      replace fin := hide fin
      clear h1 h2 h3 hcut2 hrd hap hc hst
      go_wp2_with fail
      go_end0
      exact ⟨rfl, fin.out⟩
theorem restart_any (base d : Nat) (P : PD) (F : Nat → Prop) (K : Option Addr) (kn kc : Nat) (keep : List Int) (w : World) (h : DS w base d P F) (hK : Cells w K (keep.map I64)) (hKF : ∀ a, K = some a → ¬ F a.block) (hkn : kn = keep.length)
    (hkb : ∀ k ∈ keep, -9223372036854775808 ≤ k ∧ k ≤ 9223372036854775807) (hkl : kn ≤ 1073741824) :
    Calls Try.prog 20 #[.pointer (some ⟨d, 0, none⟩), .slice K kn kc] w fun e w' => e = .returned (.tuple #[]) ∧ DNext base d F w (restartM P keep) w' := restart_any0 base d P F K kn kc keep w h hK (fun _ => hKF) hkn hkb hkl
end Go.Proofs.Yticnncgbfpgeaaa
