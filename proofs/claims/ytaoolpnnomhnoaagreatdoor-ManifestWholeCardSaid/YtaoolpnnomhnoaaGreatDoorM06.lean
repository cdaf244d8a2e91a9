/- loggia/disk: Restart. -/
import Derived.Test.YtaoolpnnomhnoaaGreatDoorM05
import Derived.Test.YtaoolpnnomhnoaaGreatDoorM04
import Derived.Test.YtaoolpnnomhnoaaGreatDoorM02
import Derived.Deep.Slices
import Derived.Deep.Fields
import Derived.ChangeSame
import Derived.Deep.CutRange
import Derived.Deep.RegionHeld3
set_option linter.unusedSimpArgs false
set_option linter.unusedVariables false
namespace Go.Proofs.YtaoolpnnomhnoaaGreatDoor
open Go.RowKit Go.Maps

theorem DE.lookup1 {w : World} {base d m : Nat} {P : PD} {E : List Ent} {e : Ent} (h : DE w base d m P E) (he : e ∈ E) (W : World) (hW : W.heap[m]? = w.heap[m]?) :
    (Instr.lookup 54 (.map (some m)) (str e.name) false).run Tryz.prog W = .ok (.pointer (some ⟨e.f, 0, none⟩)) W := by
  obtain ⟨L, hL, hmem, _⟩ := h.fs.map
  rcases (hL.keep hW).look keyS Tryz.underlying54 (x := str e.name) (z := .pointer none) (key_str (h.fs.short e he)) (by kernel_rfl) false with ⟨v, hv, hrun⟩ | ⟨hno, hrun⟩
  · have : v = .pointer (some ⟨e.f, 0, none⟩) := (hL.keep hW).unique hv ((hmem e.kv).2 ⟨e, he, rfl⟩)
    rw [this] at hrun
    exact hrun
  · exact (hno e.kv ((hmem _).2 ⟨e, he, rfl⟩) rfl).elim
theorem Cut.drew {w wr : World} {base m : Nat} {E : List Ent} {keep : List Int} {i : Nat} (h : Cut w wr base m E keep i) : Cut w wr.drew base m E keep i :=
  ⟨h.chg.trans (Chg.of_ext (Ext.refl wr).drew (fun _ => False)) (fun _ _ h => h.elim), fun j e he => (h.now j e he).drew⟩
def I64 (k : Int) : Value := .int .i64 k
theorem tmod_is (k m : Int) (hm : 0 < m) : k.tmod m = k % m ∨ (k.tmod m = k % m - m ∧ k % m ≠ 0) := by
  rw [Int.tmod_eq_emod]
  have hn : (m.natAbs : Int) = m := by omega
  by_cases h3 : 0 ≤ k ∨ m ∣ k
  · rw [if_pos h3]
    exact .inl (by omega)
  · rw [if_neg h3, hn]
    exact .inr ⟨rfl, fun h => h3 (.inr (Int.dvd_of_emod_eq_zero h))⟩
theorem tmod_bd (k m : Int) (hm : 0 < m) : -m < k.tmod m ∧ k.tmod m < m := by
  have h1 := Int.emod_nonneg k (show m ≠ 0 by omega)
  have h2 := Int.emod_lt_of_pos k hm
  rcases tmod_is k m hm with h | ⟨h, h3⟩ <;> omega
/-- What Go's way of reckoning it gives. -/
theorem go_mod (k m : Int) (hm : 0 < m) : (k.tmod m + m).tmod m = k % m := by
  have hb := tmod_bd k m hm
  rw [Int.tmod_eq_emod_of_nonneg (by omega), Int.add_emod_right]
  rcases tmod_is k m hm with h | ⟨h, _⟩
  · rw [h, Int.emod_emod]
  · rw [h, Int.sub_emod_right, Int.emod_emod]
set_option maxRecDepth 100000 in
set_option maxHeartbeats 2000000 in
theorem restart_any0 (base d : Nat) (P : PD) (F : Nat → Prop) (K : Option Addr) (kn kc : Nat) (keep : List Int) (w : World) (h : DS w base d P F) (hK : Cells w K (keep.map I64)) (hKF : keep ≠ [] → ∀ a, K = some a → ¬ F a.block) (hkn : kn = keep.length)
    (hkb : ∀ k ∈ keep, -9223372036854775808 ≤ k ∧ k ≤ 9223372036854775807) (hkl : kn ≤ 9223372036854775807) :
    Calls Tryz.prog 11 #[.pointer (some ⟨d, 0, none⟩), .slice K kn kc] w fun e w' => e = .returned (.tuple #[]) ∧ DNext base d F w (restartM P keep) w' := by
  have hS := h
  obtain ⟨m, E, hD, hF⟩ := h
  have h0 := none_any d m P.quota P.armed P.stopped w hD.row
  have hnm := names_any base d m P.quota P.armed P.stopped E w hD.row hD.fs hD.cnt
  rw [sortN_eq hD.up.le] at hnm
  replace h0 := hide h0
  replace hnm := hide hnm
  replace hkn := hide hkn
  go_enter Tryz.func11, Tryz.ntmps11
  go_wp2_with fail
  refine h0.out.mono ?_
  rintro e w1 ⟨rfl, rfl⟩
  go_wp2_with fail
  refine hnm.out.mono ?_
  rintro e w2 ⟨A, n, c, rfl, hn, hbuf, hE⟩
  have hD2 : DE w2 base d m P E := hD.chg (Chg.of_ext hE (fun _ => False)) (fun _ h => h.elim)
  have hnc := hD.cnt
  have hn2 : n ≤ 1024 := by omega
  have hst := Cut.start (keep := keep) hD2
  replace hn := hide hn
  go_wp2_with fail
  go_loopw [14] (fun s14 wr => ∃ i : Nat, s14 = .int .i64 i ∧ i ≤ n ∧ Hid (Cut w2 wr base m E keep i)) (fun s14 _ => n - (intOf s14).toNat)
  case atStart => exact ⟨0, rfl, by omega, hide hst⟩
  case round =>
    obtain ⟨i, rfl, hi, hcut⟩ := hrel
    by_cases hin : i < n
    · have hil : i < E.length := by rw [← hn.out]; exact hin
      obtain ⟨e, he⟩ : ∃ e, E[i]? = some e := ⟨_, List.getElem?_eq_getElem hil⟩
      have hm := List.mem_of_getElem? he
      have hc := hcut.out.chg
      have hap := hD2.apart
      obtain ⟨g, o, rfl, hcl⟩ := hbuf.cells.at_ (by rw [List.length_map, List.length_map]; omega)
      have hgb : w1.heap.size ≤ g := hbuf.base_le _ rfl
      have cn : w2.cell? ⟨g, o + i, none⟩ = some (str e.name) := hcl i _ (by simp [he])
      have cnr : wr.cell? ⟨g, o + i, none⟩ = some (str e.name) := hc.cell cn fun ⟨e', he', hh⟩ => by
        have h1 := (hD.fs.ok e' he').row.lt
        have h2 : g = e'.f := hh
        omega
      have c0 : wr.cell? ⟨d, 0, none⟩ = some (.map (some m)) := (Chg.row hc hD2.row fun ⟨e', he', hh⟩ => (hap.2 e' he').1 hh).cell 0 rfl
      have hmb : wr.heap[m]? = w2.heap[m]? := by
        obtain ⟨L, hL, hmem, _⟩ := hD2.fs.map
        exact hc.block m hL.lt fun ⟨e', he', hh⟩ => ((hD2.fs.ok e' he').ne_map hL).1 hh.symm
      have hlk := hD2.lookup1 hm wr hmb
      have hr := hcut.out.now i e he
      rw [if_neg (by omega)] at hr
      have cf0 : wr.cell? ⟨e.f, 0, none⟩ = some (.slice e.A e.b.length e.c) := hr.cell 0 rfl
      have cf1 : wr.cell? ⟨e.f, 1, none⟩ = some (.int .i64 e.sure) := hr.cell 1 rfl
      have f0 := hr.free 0
      have f1 := hr.free 1
      have hok := hD2.fs.ok e hm
      have hsu := hok.sure
      have hbl := hD2.lens e hm
      have hbc := hok.buf.2.1
      have hsp : ∀ a, e.A = some a → a.spot = none := by
        intro a hA
        rcases hok.buf.2.2 with h | ⟨g, cur, hg, _⟩
        · rw [hA] at h; cases h.1
        · rw [hA] at hg; cases hg; rfl
      obtain ⟨left, hleft⟩ : ∃ left, left = e.left keep[i]? := ⟨_, rfl⟩
      have hll := left_le e hsu keep[i]?
      rw [← hleft] at hll
      have hsl := run_cut (t := 57) (e := 5) (n := e.b.length) (c := e.c) (k := left) Tryz.underlying57 (fun W => by kernel_rfl) (by omega) hsp
      have hstep := Cut.step (v := .slice e.A left left) (u := .int .i64 left) hD2 hcut.out he (by rw [hleft]) (by rw [hleft])
      obtain ⟨bl, hbln⟩ : ∃ bl, bl = e.b.length := ⟨_, rfl⟩
      obtain ⟨su, hsun⟩ : ∃ su, su = e.sure := ⟨_, rfl⟩
      rw [← hbln] at cf0 hbl hll hsl hsu
      rw [← hsun] at cf1 hsu
      unfold str at cnr hlk
      replace hstep := hide hstep
      replace hmb := hide hmb
      replace hsp := hide hsp
      by_cases hik : i < kn
      · obtain ⟨kg, ko, rfl, hkc⟩ := hK.at_ (by rw [List.length_map, ← hkn.out]; omega)
        obtain ⟨k, hk⟩ : ∃ k, keep[i]? = some k := ⟨_, List.getElem?_eq_getElem (by rw [← hkn.out]; exact hik)⟩
        have hkne : keep ≠ [] := fun e => by rw [e] at hk; simp at hk
        have ck : w1.cell? ⟨kg, ko + i, none⟩ = some (.int .i64 k) := hkc i (I64 k) (by rw [List.getElem?_map, hk]; rfl)
        have ckr : wr.cell? ⟨kg, ko + i, none⟩ = some (.int .i64 k) := hc.cell (hE.cell ck) fun ⟨e', he', hh⟩ => hKF hkne _ rfl ((hF _).2 (.inr (.inr ⟨e', he', .inl hh⟩)))
        obtain ⟨hk1, hk2⟩ := hkb k (List.mem_of_getElem? hk)
        have hlk2 : (left : Int) = su + (k.tmod ((bl : Int) - su + 1) + ((bl : Int) - su + 1)).tmod ((bl : Int) - su + 1) := by
          rw [go_mod _ _ (by omega), hleft, hk]
          show ((e.sure + (k % ((e.b.length : Int) - e.sure + 1)).toNat : Nat) : Int) = _
          rw [hbln, hsun]
          have := Int.emod_nonneg k (show (e.b.length : Int) - e.sure + 1 ≠ 0 by omega)
          omega
        have hlk3 : (su : Int) + k.tmod ((bl : Int) - su + 1) % ((bl : Int) - su + 1) = left := by
          have hb := tmod_bd k ((bl : Int) - su + 1) (by omega)
          rw [Int.tmod_eq_emod_of_nonneg (by omega), Int.add_emod_right] at hlk2
          exact hlk2.symm
        have htb := tmod_bd k ((bl : Int) - su + 1) (by omega)
        replace hbln := hide hbln
        replace hsun := hide hsun
        replace hleft := hide hleft
        replace hlk2 := hide hlk2
        replace hk := hide hk
        clear hcl hkc hr hst hok hap hD2 ck cn
        go_wp2_with fail
        refine wp_region_text follows (by kernel_rfl) (by kernel_rfl) (fun K hK => ?_)
        go_wp2_with fail
        refine ⟨by kernel_rfl, ?_⟩
        go_wp2_with fail
        go_roundw
        case rel => exact ⟨i + 1, by go_num, by omega, hide (Cut.drew hstep.out)⟩
        case measure => simp [intOf]; omega
      · have hlk2 : left = su := by
          have : keep[i]? = none := List.getElem?_eq_none (by rw [← hkn.out]; omega)
          rw [hleft, this, hsun]
          rfl
        subst hlk2
        replace hbln := hide hbln
        replace hsun := hide hsun
        replace hleft := hide hleft
        clear hcl hr hst hok hap hD2 cn
        go_wp2_with fail
        go_roundw
        case rel => exact ⟨i + 1, by go_num, by omega, hstep⟩
        case measure => simp [intOf]; omega
    · obtain rfl : i = n := by omega
      have hc := hcut.out.chg
      have hap := hD2.apart
      have hrd : DRow wr d m P.quota P.armed P.stopped := Chg.row hc hD2.row fun ⟨e', he', hh⟩ => (hap.2 e' he').1 hh
      have c2 : wr.cell? ⟨d, 2, none⟩ = some (.int .i64 P.armed) := Row.cell hrd 2 rfl
      have c3 : wr.cell? ⟨d, 3, none⟩ = some (.bool P.stopped) := Row.cell hrd 3 rfl
      have f2 := Row.free hrd 2
      have f3 := Row.free hrd 3
      have hcut2 := hcut.out
      rw [hn.out] at hcut2
      obtain ⟨h1, h2, h3⟩ := cut_end hD2 hcut2 rfl
      have fin : DNext base d F w1 (restartM P keep) _ := hS.next hF h1 ((Chg.of_ext hE (Foot d m E)).trans h2 fun _ _ h => h) fun k hk => .inl (h3 k hk)
      replace fin := hide fin
      clear h1 h2 h3 hcut2 hrd hap hc hst
      go_wp2_with fail
      go_end0
      exact ⟨rfl, fin.out⟩
theorem restart_any (base d : Nat) (P : PD) (F : Nat → Prop) (K : Option Addr) (kn kc : Nat) (keep : List Int) (w : World) (h : DS w base d P F) (hK : Cells w K (keep.map I64)) (hKF : ∀ a, K = some a → ¬ F a.block) (hkn : kn = keep.length)
    (hkb : ∀ k ∈ keep, -9223372036854775808 ≤ k ∧ k ≤ 9223372036854775807) (hkl : kn ≤ 9223372036854775807) :
    Calls Tryz.prog 11 #[.pointer (some ⟨d, 0, none⟩), .slice K kn kc] w fun e w' => e = .returned (.tuple #[]) ∧ DNext base d F w (restartM P keep) w' := restart_any0 base d P F K kn kc keep w h hK (fun _ => hKF) hkn hkb hkl
end Go.Proofs.YtaoolpnnomhnoaaGreatDoor

/- A disk's blocks by their type; calls of a disk one behind the other. -/
namespace Go.Proofs.YtaoolpnnomhnoaaGreatDoor
open Go.RowKit Go.Maps

theorem MapL.notRow {P : Program} {k : TypeId} {w : World} {m : Nat} {L : List (Value × Value)} (h : MapL P k w m L) {t : TypeId} {cs : Array Value} : ¬ Row w m t cs := fun hr => by
  obtain ⟨⟨_, _, h1, _⟩, _, _⟩ := h
  unfold Row at hr
  rw [hr] at h1
  cases h1
theorem DS.kind {w : World} {base d g : Nat} {P : PD} {F : Nat → Prop} (h : DS w base d P F) (hF : F g) {t : TypeId} {cs : Array Value} (hr : Row w g t cs) : t = 56 ∨ t = 79 ∨ t = 5 := by
  obtain ⟨m, E, hD, hf⟩ := h
  have key : ∀ {t2 : TypeId} {cs2 : Array Value}, Row w g t2 cs2 → t = t2 := fun {t2 cs2} h2 => Decidable.byContradiction fun hne => Row.unlike hr h2 hne rfl
  rcases (hf g).1 hF with rfl | rfl | ⟨e, he, rfl | ⟨a, ha, rfl⟩⟩
  · exact .inl (key hD.row)
  · obtain ⟨L, hL, _⟩ := hD.fs.map
    exact (hL.notRow hr).elim
  · exact .inr (.inl (key (hD.fs.ok e he).row))
  · obtain ⟨_, _, hb⟩ := (hD.fs.ok e he).buf
    rcases hb with ⟨h0, _⟩ | ⟨g, cur, hA, _, hrow, _⟩
    · rw [h0] at ha; cases ha
    · rw [hA] at ha
      injection ha with ha
      subst ha
      exact .inr (.inr (key hrow))
theorem row_disk {w w' : World} {g b0 d : Nat} {t : TypeId} {cs : Array Value} {P : PD} {F : Nat → Prop} (h : Row w g t cs) (hD : DS w b0 d P F) (hc : Chg F w w') (he : t ≠ 56 ∧ t ≠ 79 ∧ t ≠ 5) : Row w' g t cs :=
  hc.row h fun hF => by
    rcases hD.kind hF h with h | h | h
    · exact he.1 h
    · exact he.2.1 h
    · exact he.2.2 h
theorem owns_disk {w w' : World} {base b0 d size n : Nat} {e : TypeId} {v : Value} {xs : List Value} {P : PD} {F : Nat → Prop} (h : w.ownsRow base e size v n xs) (hD : DS w b0 d P F) (hc : Chg F w w') (he : e ≠ 56 ∧ e ≠ 79 ∧ e ≠ 5) : w'.ownsRow base e size v n xs :=
  hc.owns h fun g hg hF => by
    obtain ⟨cs, hr, _⟩ := owns_row h hg
    rcases hD.kind hF hr with h | h | h
    · exact he.1 h
    · exact he.2.1 h
    · exact he.2.2 h
theorem DNext.seq {w w1 wx w2 : World} {base d : Nat} {P2 : PD} {F F1 : Nat → Prop} (hC : Chg F w w1) (hF : ∀ k, F1 k → F k ∨ w.heap.size ≤ k) (hE : Ext w1 wx) (h2 : DNext base d F1 wx P2 w2) : DNext base d F w P2 w2 := by
  obtain ⟨F2, h3, h4, h5⟩ := h2
  have hs : w.heap.size ≤ wx.heap.size := Nat.le_trans hC.size hE.size
  refine ⟨F2, h3, (hC.trans (Chg.of_ext hE F) fun _ _ h => h).trans h4 fun i hi h => ?_, fun k hk => ?_⟩
  · rcases hF i h with h | h
    · exact h
    · omega
  · rcases h5 k hk with h | h
    · exact hF k h
    · exact .inr (Nat.le_trans hs h)
theorem DNext.of_ext {w w1 : World} {base d : Nat} {P : PD} {F : Nat → Prop} (h : DS w base d P F) (hE : Ext w w1) : DNext base d F w P w1 := ⟨F, h.ext hE, Chg.of_ext hE F, fun _ h => .inl h⟩
theorem DNext.ext {w0 w w' : World} {base d : Nat} {P P' : PD} {F : Nat → Prop} (h : DNext base d F w P' w') (hS : DS w base d P F) (hE : Ext w0 w) (hb : w0.heap.size ≤ base) : ∃ F', DS w' base d P' F' ∧ Ext w0 w' := by
  obtain ⟨F', h1, h2, _⟩ := h
  exact ⟨F', h1, hE.chg h2 fun i hi hf => by have := hS.base_le hf; omega⟩
theorem DS.not_old {w : World} {base d : Nat} {P : PD} {F : Nat → Prop} (h : DS w base d P F) {k : Nat} (hk : w.heap.size ≤ k) : ¬ F k := fun hf => by have := h.lt hf; omega
end Go.Proofs.YtaoolpnnomhnoaaGreatDoor

/- loggia/manifest: what Save keeps from step to step; its four steps. -/
namespace Go.Proofs.YtaoolpnnomhnoaaGreatDoor
open Go.RowKit Go.Maps

/-- Behind a step of Save: the disk, the blocks of d, of b and of the four functions, the bytes. -/
structure SvS (base d : Nat) (F0 : Nat → Prop) (w0 : World) (b : List UInt8) (dv bv fv : Nat) (A : Option Addr) (c : Nat) (fs : Array Value) (w : World) (P : PD) (F : Nat → Prop) : Prop where
  ds : DS w base d P F
  dr : Row w dv 27 #[.pointer (some ⟨d, 0, none⟩)]
  br : Row w bv 57 #[.slice A b.length c]
  fr : Row w fv 63 fs
  bs : Bs w A b
  at_ : ∀ a, A = some a → ¬ F a.block ∧ a.block < w.heap.size
  low : base ≤ w.heap.size
  chg : Chg F0 w0 w
  new : ∀ k, F k → F0 k ∨ w0.heap.size ≤ k
def SvV (base d : Nat) (F0 : Nat → Prop) (w0 : World) (b : List UInt8) (dv bv fv : Nat) (A : Option Addr) (c : Nat) (fs : Array Value) (w : World) (P : PD) : Prop := ∃ F, SvS base d F0 w0 b dv bv fv A c fs w P F
section
variable {base d : Nat} {F0 : Nat → Prop} {w0 : World} {b : List UInt8} {dv bv fv : Nat} {A : Option Addr} {c : Nat} {fs : Array Value}
theorem SvS.ext {x y : World} {P : PD} {F : Nat → Prop} (h : SvS base d F0 w0 b dv bv fv A c fs x P F) (hE : Ext x y) : SvS base d F0 w0 b dv bv fv A c fs y P F :=
  ⟨h.ds.ext hE, h.dr.ext hE, h.br.ext hE, h.fr.ext hE, h.bs.ext hE, fun a ha => ⟨(h.at_ a ha).1, Nat.lt_of_lt_of_le (h.at_ a ha).2 hE.size⟩, Nat.le_trans h.low hE.size, h.chg.trans (Chg.of_ext hE F0) fun _ _ h => h, h.new⟩
theorem SvS.next {x wx y : World} {P P' : PD} {F : Nat → Prop} (h : SvS base d F0 w0 b dv bv fv A c fs x P F) (hE : Ext x wx) (hN : DNext base d F wx P' y) : SvV base d F0 w0 b dv bv fv A c fs y P' := by
  have k := h.ext hE
  obtain ⟨F', n1, n2, n3⟩ := hN
  have hs0 : w0.heap.size ≤ wx.heap.size := k.chg.size
  refine ⟨F', n1, row_disk k.dr k.ds n2 (by decide), row_disk k.br k.ds n2 (by decide), row_disk k.fr k.ds n2 (by decide), n2.cells k.bs fun a ha => (k.at_ a ha).1, fun a ha => ⟨fun hf => ?_, ?_⟩, Nat.le_trans k.low n2.size, k.chg.trans n2 fun i hi hf => ?_, fun j hj => ?_⟩
  · rcases n3 _ hf with h | h
    · exact (k.at_ a ha).1 h
    · have := (k.at_ a ha).2; omega
  · have := (k.at_ a ha).2; have := n2.size; omega
  · rcases k.new i hf with h | h
    · exact h
    · omega
  · rcases n3 j hj with h | h
    · exact k.new j h
    · exact .inr (by omega)
theorem SvV.done {w : World} {P : PD} (h : SvV base d F0 w0 b dv bv fv A c fs w P) : DNext base d F0 w0 P w := by
  obtain ⟨F, h⟩ := h
  exact ⟨F, h.ds, h.chg, h.new⟩
theorem SvV.ext {x y : World} {P : PD} (h : SvV base d F0 w0 b dv bv fv A c fs x P) (hE : Ext x y) : SvV base d F0 w0 b dv bv fv A c fs y P := by
  obtain ⟨F, h⟩ := h
  exact ⟨F, h.ext hE⟩
set_option maxRecDepth 100000 in
theorem save1_any {x : World} {P : PD} (h : SvV base d F0 w0 b dv bv fv A c fs x P) :
    Calls Tryz.prog 23 #[.pointer (some ⟨dv, 0, none⟩)] x fun e w' => e = .returned (.int .i64 (goneM P).2) ∧ SvV base d F0 w0 b dv bv fv A c fs w' (goneM P).1 := by
  obtain ⟨F, h⟩ := h
  have c0 := h.dr.cell 0 rfl
  have hg := hide (gone_any base d P F x h.ds)
  replace h := hide h
  go_enter Tryz.func23, Tryz.ntmps23
  go_wp2_with fail
  refine hg.out.mono ?_
  rintro e w1 ⟨rfl, wx, hx, hN⟩
  go_wp2_with fail
  go_ret
  exact ⟨rfl, h.out.next hx hN⟩
set_option maxRecDepth 100000 in
theorem save2_any {x : World} {P : PD} (h : SvV base d F0 w0 b dv bv fv A c fs x P) (hb : b.length ≤ 1073741824) :
    Calls Tryz.prog 25 #[.pointer (some ⟨dv, 0, none⟩), .pointer (some ⟨bv, 0, none⟩)] x fun e w' => e = .returned (.int .i64 (appendM P comN b).2) ∧ SvV base d F0 w0 b dv bv fv A c fs w' (appendM P comN b).1 := by
  obtain ⟨F, h⟩ := h
  have c0 := h.dr.cell 0 rfl
  have c1 := h.br.cell 0 rfl
  have hg := append_any base d P F comN b A b.length c x h.ds com_len h.bs (fun a ha => (h.at_ a ha).1) rfl hb h.low
  unfold str at hg
  replace hg := hide hg
  replace h := hide h
  go_enter Tryz.func25, Tryz.ntmps25
  go_wp2_with fail
  refine hg.out.mono ?_
  rintro e w1 ⟨rfl, hN⟩
  go_wp2_with fail
  go_ret
  exact ⟨rfl, h.out.next (Ext.refl _) hN⟩
set_option maxRecDepth 100000 in
theorem save3_any {x : World} {P : PD} (h : SvV base d F0 w0 b dv bv fv A c fs x P) :
    Calls Tryz.prog 27 #[.pointer (some ⟨dv, 0, none⟩)] x fun e w' => e = .returned (.int .i64 (syncM P comN).2) ∧ SvV base d F0 w0 b dv bv fv A c fs w' (syncM P comN).1 := by
  obtain ⟨F, h⟩ := h
  have c0 := h.dr.cell 0 rfl
  have hg := sync_any base d P F comN x h.ds com_len
  unfold str at hg
  replace hg := hide hg
  replace h := hide h
  go_enter Tryz.func27, Tryz.ntmps27
  go_wp2_with fail
  refine hg.out.mono ?_
  rintro e w1 ⟨rfl, hN⟩
  go_wp2_with fail
  go_ret
  exact ⟨rfl, h.out.next (Ext.refl _) hN⟩
set_option maxRecDepth 100000 in
theorem save4_any {x : World} {P : PD} (h : SvV base d F0 w0 b dv bv fv A c fs x P) :
    Calls Tryz.prog 29 #[.pointer (some ⟨dv, 0, none⟩)] x fun e w' => e = .returned (.int .i64 (renameM P comN curN).2) ∧ SvV base d F0 w0 b dv bv fv A c fs w' (renameM P comN curN).1 := by
  obtain ⟨F, h⟩ := h
  have c0 := h.dr.cell 0 rfl
  have hg := rename_any base d P F comN curN x h.ds com_len cur_len
  unfold str at hg
  replace hg := hide hg
  replace h := hide h
  go_enter Tryz.func29, Tryz.ntmps29
  go_wp2_with fail
  refine hg.out.mono ?_
  rintro e w1 ⟨rfl, hN⟩
  go_wp2_with fail
  go_ret
  exact ⟨rfl, h.out.next (Ext.refl _) hN⟩
end
end Go.Proofs.YtaoolpnnomhnoaaGreatDoor

/- loggia/manifest: Save. -/
namespace Go.Proofs.YtaoolpnnomhnoaaGreatDoor
open Go.RowKit Go.Maps

theorem read_ne4 (P : PD) (s : List UInt8) (fr n : Int) : (readM P s fr n).2 ≠ 4 := by
  unfold readM
  split
  · split
    · simp
    · split
      · split <;> simp
      · simp
  · simp
/-- The four steps. -/
def svL (dv bv : Nat) (b : List UInt8) : List Stp := [⟨23, #[.pointer (some ⟨dv, 0, none⟩)], goneM⟩, ⟨25, #[.pointer (some ⟨dv, 0, none⟩), .pointer (some ⟨bv, 0, none⟩)], fun P => appendM P comN b⟩, ⟨27, #[.pointer (some ⟨dv, 0, none⟩)], fun P => syncM P comN⟩, ⟨29, #[.pointer (some ⟨dv, 0, none⟩)], fun P => renameM P comN curN⟩]
theorem svsteps_any {base d : Nat} {F0 : Nat → Prop} {w0 : World} {b : List UInt8} {dv bv fv : Nat} {A : Option Addr} {c : Nat} {w : World} {P : PD} (h : SvV base d F0 w0 b dv bv fv A c ((svL dv bv b).map Stp.val).toArray w P) (hb : b.length ≤ 1073741824) :
    Calls Tryz.prog 22 #[.slice (some ⟨fv, 0, none⟩) 4 4] w fun e w' => e = .returned (.int .i64 (stepsM P b).2) ∧ SvV base d F0 w0 b dv bv fv A c ((svL dv bv b).map Stp.val).toArray w' (stepsM P b).1 := by
  refine steps_any (fun w P => SvV base d F0 w0 b dv bv fv A c ((svL dv bv b).map Stp.val).toArray w P) (svL dv bv b) (some ⟨fv, 0, none⟩) 4 P w h (by show 4 ≤ 100; omega) (fun x Q hx => ?_) (fun x y Q hx hE => hx.ext hE) ?_ ?_
  · obtain ⟨F, hS⟩ := hx
    exact .inr ⟨fv, 0, rfl, fun i v hv => by rw [Nat.zero_add]; exact hS.fr.cell i (by simpa using hv)⟩
  · intro s hs args W
    simp only [svL, List.mem_cons, List.not_mem_nil, or_false] at hs
    rcases hs with rfl | rfl | rfl | rfl <;> kernel_rfl
  · intro s hs x Q hx
    simp only [svL, List.mem_cons, List.not_mem_nil, or_false] at hs
    rcases hs with rfl | rfl | rfl | rfl
    · exact save1_any hx
    · exact save2_any hx hb
    · exact save3_any hx
    · exact save4_any hx
set_option maxRecDepth 100000 in
set_option maxHeartbeats 8000000 in
theorem save_any (base d : Nat) (P : PD) (F : Nat → Prop) (mb : Nat) (m : Mf) (A : Option Addr) (c : Nat) (w : World) (h : DS w base d P F) (hm : m.Ok w mb A c) (hbase : base ≤ w.heap.size) :
    Calls Tryz.prog 7 #[.pointer (some ⟨d, 0, none⟩), m.val A c] w fun e w' => e = .returned (.int .i64 (saveM P m).2) ∧ ∃ wx, Ext w wx ∧ DNext base d F wx (saveM P m).1 w' := by
  have hrd := fun W (hE : Ext w W) => read_any base d P F curN 0 0 W (h.ext hE) cur_len (by omega) (by omega) (by omega) (by omega)
  have henc := fun W (hE : Ext w W) => encode_any mb m A c W (hm.ext hE)
  unfold str at hrd
  unfold Mf.val at henc ⊢
  replace hrd := hide hrd
  replace henc := hide henc
  replace h := hide h
  replace hm := hide hm
  obtain ⟨kr, hkr⟩ : ∃ k, k = (readM P curN 0 0).2 := ⟨_, rfl⟩
  have hk4 : ¬ (kr : Int) = 4 := by have := read_ne4 P curN 0 0; omega
  replace hkr := hide hkr
  obtain ⟨W1, hW1⟩ : ∃ W, W = w.alloc (.cells #[.pointer (some ⟨d, 0, none⟩)] 27) := ⟨_, rfl⟩
  obtain ⟨W2, hW2⟩ : ∃ W, W = W1.alloc (.cells #[.slice A m.ps.length c, .int .i64 m.floor, .int .i64 m.done, .int .i64 m.log, .int .i64 m.next, .int .i64 m.now] 24) := ⟨_, rfl⟩
  have hE1 : Ext w W1 := by rw [hW1]; exact (Ext.refl w).alloc _
  have hE2 : Ext W1 W2 := by rw [hW2]; exact (Ext.refl W1).alloc _
  have hE12 := hide (hE1.trans hE2)
  have hs1 : W1.heap.size = w.heap.size + 1 := by rw [hW1]; exact size_alloc _ _
  have r1 : Row W2 w.heap.size 27 #[.pointer (some ⟨d, 0, none⟩)] := (show Row W1 _ _ _ by rw [hW1]; exact Row.new w _ _).ext hE2
  have r2 : Row W2 (w.heap.size + 1) 24 #[.slice A m.ps.length c, .int .i64 m.floor, .int .i64 m.done, .int .i64 m.log, .int .i64 m.next, .int .i64 m.now] := by rw [hW2, ← hs1]; exact Row.new W1 _ _
  replace r1 := hide r1
  replace r2 := hide r2
  replace hs1 := hide hs1
  clear hE1 hE2
  go_enter Tryz.func7, Tryz.ntmps7
  go_wp2_with fail
  rw [← hW1, ← hW2]
  replace hW1 := hide hW1
  replace hW2 := hide hW2
  have q1 := r2.out.cell 0 rfl
  refine (hrd.out _ hE12.out).mono ?_
  rintro e w3 ⟨A3, k3, c3, rfl, _, _, hE3⟩
  rw [← hkr.out]
  have hE03 := hide (hE12.out.trans hE3)
  have x0 := (r2.out.ext hE3).cell 0 rfl
  have x1 := (r2.out.ext hE3).cell 1 rfl
  have x2 := (r2.out.ext hE3).cell 2 rfl
  have x3 := (r2.out.ext hE3).cell 3 rfl
  have x4 := (r2.out.ext hE3).cell 4 rfl
  have x5 := (r2.out.ext hE3).cell 5 rfl
  go_wp2_with fail
  refine (henc.out _ hE03.out).mono ?_
  rintro e w4 ⟨hE4, he1, he2⟩
  by_cases hc : checkP m = 0
  · obtain ⟨A4, c4, rfl, hb⟩ := he1 hc
    have hb4 := hb.cells
    have hbn := fun a ha => hb.lt a ha
    have hlen := enc_small hm.out.in_ hc
    have hlow : ∀ a, A4 = some a → w3.heap.size ≤ a.block := fun a ha => hb.base_le a ha
    obtain ⟨b, hbe⟩ : ∃ b, b = encM m := ⟨_, rfl⟩
    rw [← hbe] at hb4 hlen ⊢
    have hsv : saveM P m = if (stepsM P b).2 = 0 ∨ (stepsM P b).2 = 63 then stepsM P b else ((goneM (stepsM P b).1).1, (stepsM P b).2) := by unfold saveM; rw [if_pos hc, hbe]
    obtain ⟨w5, hw5⟩ : ∃ W, W = w4.alloc (.cells #[.slice A4 b.length c4] 57) := ⟨_, rfl⟩
    obtain ⟨w6, hw6⟩ : ∃ W, W = w5.alloc (.cells ((svL w.heap.size w4.heap.size b).map Stp.val).toArray 63) := ⟨_, rfl⟩
    have hE5 : Ext w4 w5 := by rw [hw5]; exact (Ext.refl w4).alloc _
    have hE6 : Ext w5 w6 := by rw [hw6]; exact (Ext.refl w5).alloc _
    have hs5 : w5.heap.size = w4.heap.size + 1 := by rw [hw5]; exact size_alloc _ _
    have hE06 := ((hE03.out.trans hE4).trans hE5).trans hE6
    have hV : SvV base d F w6 b w.heap.size w4.heap.size (w4.heap.size + 1) A4 c4 ((svL w.heap.size w4.heap.size b).map Stp.val).toArray w6 P :=
      ⟨F, h.out.ext hE06, r1.out.ext (((hE3.trans hE4).trans hE5).trans hE6), (show Row w5 _ _ _ by rw [hw5]; exact Row.new w4 _ _).ext hE6, by rw [hw6, ← hs5]; exact Row.new w5 _ _, Cells.ext hb4 (hE5.trans hE6), fun a ha => ⟨fun hf => by
        have h1 := h.out.lt hf
        have h2 := hlow a ha
        have h3 := hE03.out.size
        omega, Nat.lt_of_lt_of_le (hbn a ha) (hE5.trans hE6).size⟩, Nat.le_trans hbase hE06.size, Chg.refl _ _, fun _ h => .inl h⟩
    have hst := hide (svsteps_any hV (by omega))
    replace hE06 := hide hE06
    replace hsv := hide hsv
    unfold svL Stp.val at hw6
    simp only [List.map_cons, List.map_nil] at hw6
    replace hbe := hide hbe
    clear hV hE5 hE6 hs5 hb4 hbn hlow hlen hb he1 he2 x0 x1 x2 x3 x4 x5 q1
    go_wp2_with fail
    rw [← hw5, ← hw6]
    replace hw5 := hide hw5
    replace hw6 := hide hw6
    refine hst.out.mono ?_
    rintro e w7 ⟨rfl, hV7⟩
    obtain ⟨Q, hQ⟩ : ∃ Q, Q = stepsM P b := ⟨_, rfl⟩
    have hsv2 := hsv.out
    rw [← hQ] at hV7 hsv2 ⊢
    replace hQ := hide hQ
    obtain ⟨P7, e7⟩ := Q
    simp only at hV7 hsv2 ⊢
    obtain ⟨F7, hS7⟩ := hV7
    have y0 := hS7.dr.cell 0 rfl
    have hg := hide (gone_any base d P7 F7 w7 hS7.ds)
    replace hS7 := hide hS7
    by_cases h0 : e7 = 0
    · have h0i : (e7 : Int) = 0 := by omega
      rw [if_pos (.inl h0)] at hsv2
      replace hsv2 := hide hsv2
      replace h0 := hide h0
      go_wp2_with fail
      go_ret
      rw [hsv2.out]
      exact ⟨rfl, w6, hE06.out, (show SvV _ _ _ _ _ _ _ _ _ _ _ _ _ from ⟨F7, hS7.out⟩).done⟩
    · by_cases h63 : e7 = 63
      · have h0i : ¬ (e7 : Int) = 0 := by omega
        have h6i : (e7 : Int) = 63 := by omega
        rw [if_pos (.inr h63)] at hsv2
        replace hsv2 := hide hsv2
        replace h0 := hide h0
        replace h63 := hide h63
        go_wp2_with fail
        go_ret
        rw [hsv2.out]
        exact ⟨rfl, w6, hE06.out, (show SvV _ _ _ _ _ _ _ _ _ _ _ _ _ from ⟨F7, hS7.out⟩).done⟩
      · have h0i : ¬ (e7 : Int) = 0 := by omega
        have h6i : ¬ (e7 : Int) = 63 := by omega
        rw [if_neg (fun h => h.elim h0 h63)] at hsv2
        replace hsv2 := hide hsv2
        replace h0 := hide h0
        replace h63 := hide h63
        have t0 : ((e7 : Int) != 0) = true := bne_iff_ne.2 h0i
        have t6 : ((e7 : Int) != 63) = true := bne_iff_ne.2 h6i
        go_wp2_with fail
        refine hg.out.mono ?_
        rintro e w8 ⟨rfl, wx, hx, hN⟩
        go_wp2_with fail
        go_ret
        rw [hsv2.out]
        exact ⟨rfl, w6, hE06.out, (hS7.out.next hx hN).done⟩
  · obtain rfl := he2 hc
    have hci : ¬ (checkP m : Int) = 0 := by omega
    go_wp2_with fail
    go_ret
    rw [save_bad hc]
    exact ⟨rfl, _, (hE03.out.trans hE4).alloc _, F, h.out.ext ((hE03.out.trans hE4).alloc _), Chg.refl _ _, fun _ h => .inl h⟩
end Go.Proofs.YtaoolpnnomhnoaaGreatDoor

/- loggia/manifest: Load. -/
namespace Go.Proofs.YtaoolpnnomhnoaaGreatDoor
open Go.RowKit Go.Maps

/-- What Load answers. -/
def LoadP (w : World) (Z : Mf × Bool × Nat) (e : Ending) (w' : World) : Prop := ∃ A c, e = .returned (.tuple #[Z.1.val A c, .bool Z.2.1, .int .i64 (Z.2.2 : Nat)]) ∧ Z.1.Ok w' w'.heap.size A c ∧ Ext w w'
theorem read_stop {P : PD} (h : P.stopped = true) (n : Int) : readM P curN 0 n = ([], 63) := by
  unfold readM
  rw [if_pos cur_named, if_pos h]
theorem read_gone {P : PD} (h : P.stopped = false) (h2 : P.find curN = none) (n : Int) : readM P curN 0 n = ([], 61) := by
  unfold readM
  rw [if_pos cur_named, if_neg (by rw [h]; simp), h2]
theorem read_there {P : PD} {f : PF} (h : P.stopped = false) (h2 : P.find curN = some f) : readM P curN 0 67108864 = (f.2.1.take 67108864, 0) := by
  unfold readM
  rw [if_pos cur_named, if_neg (by rw [h]; simp), h2]
  simp only
  rw [if_neg (by omega)]
  rfl
theorem load_stop {P : PD} (h : P.stopped = true) : loadM P = (nilMf, false, 63) := by unfold loadM; rw [if_pos h]
theorem load_gone {P : PD} (h : P.stopped = false) (h2 : P.find curN = none) : loadM P = (newM, false, 0) := by unfold loadM; rw [if_neg (by rw [h]; simp), h2]
theorem load_bad {P : PD} {f : PF} (h : P.stopped = false) (h2 : P.find curN = some f) (h3 : decM (f.2.1.take 67108864) = none) : loadM P = (nilMf, false, 160) := by unfold loadM; rw [if_neg (by rw [h]; simp), h2]; simp only; rw [h3]
theorem load_good {P : PD} {f : PF} {m : Mf} (h : P.stopped = false) (h2 : P.find curN = some f) (h3 : decM (f.2.1.take 67108864) = some m) : loadM P = (m, true, 0) := by unfold loadM; rw [if_neg (by rw [h]; simp), h2]; simp only; rw [h3]
theorem setM_chg (w : World) (g : Nat) (m : Mf) (A : Option Addr) (c : Nat) : Chg (fun k => k = g) w (setM w g m A c) := by
  have s : ∀ (x : World) (i : Nat) (v : Value), Chg (fun k => k = g) w x → Chg (fun k => k = g) w (x.setCell ⟨g, i, none⟩ v) := fun x i v h => h.trans (Chg.of_set (S := fun k => k = g) x v rfl) fun _ _ h => h
  exact s _ _ _ (s _ _ _ (s _ _ _ (s _ _ _ (s _ _ _ (s _ _ _ (Chg.refl _ w))))))
/-- A manifest's parts lie in no block of six cells. -/
theorem mf_apart {m : Mf} {w : World} {base g : Nat} {A : Option Addr} {c : Nat} {t : TypeId} {x0 x1 x2 x3 x4 x5 : Value} (h : m.Ok w base A c) (hr : Row w g t #[x0, x1, x2, x3, x4, x5]) (hne : m.ps ≠ []) : ∀ a, A = some a → a.block ≠ g := by
  intro a ha he
  obtain ⟨p, ps, hps⟩ := List.exists_cons_of_ne_nil hne
  have hlen : 0 < (pcells m.ps).length := by rw [hps]; exact Nat.succ_pos _
  obtain ⟨g2, o, hA, hc⟩ := h.parts.cells.at_ hlen
  rw [ha] at hA
  injection hA with hA
  subst hA
  subst he
  have h6 := hc 6 (.int .i64 p.n) (by rw [hps]; rfl)
  have h7 := cell_of_row w g2 (o + 6) _ t (0, 0) hr
  rw [h6] at h7
  simp at h7
theorem mf_setM {m : Mf} {w : World} {g : Nat} {A : Option Addr} {c : Nat} {t : TypeId} {x0 x1 x2 x3 x4 x5 : Value} (h : m.Ok w w.heap.size A c) (hr : Row w g t #[x0, x1, x2, x3, x4, x5]) (m2 : Mf) (A2 : Option Addr) (c2 : Nat) : m.Ok (setM w g m2 A2 c2) (setM w g m2 A2 c2).heap.size A c := by
  have hC := setM_chg w g m2 A2 c2
  refine ⟨⟨h.parts.len, ?_, fun hne a ha => ⟨Nat.lt_of_lt_of_le (h.parts.away hne a ha).1 hC.size, (h.parts.away hne a ha).2⟩, h.parts.cap, h.parts.most, h.parts.ok⟩, h.floor, h.done, h.log, h.next, h.now⟩
  by_cases hne : m.ps = []
  · rw [hne]; exact .inl rfl
  · exact hC.cells h.parts.cells fun a ha => mf_apart h hr hne a ha
set_option maxRecDepth 100000 in
set_option maxHeartbeats 8000000 in
theorem load_any (base d : Nat) (P : PD) (F : Nat → Prop) (w : World) (h : DS w base d P F) :
    Calls Tryz.prog 12 #[.pointer (some ⟨d, 0, none⟩)] w (LoadP w (loadM P)) := by
  have hrd := fun W (hE : Ext w W) => read_any base d P F curN 0 67108864 W (h.ext hE) cur_len (by omega) (by omega) (by omega) (by omega)
  unfold str at hrd
  have hnew := fun W => new_any W
  unfold newM Mf.val at hnew
  simp only [List.length_nil] at hnew
  replace hnew := hide hnew
  have hz0 : Row (w.alloc (.cells #[.slice none 0 0, .int .i64 0, .int .i64 0, .int .i64 0, .int .i64 0, .int .i64 0] 24)) w.heap.size 24 #[.slice none 0 0, .int .i64 0, .int .i64 0, .int .i64 0, .int .i64 0, .int .i64 0] := Row.new w _ _
  have hE0 : Ext w (w.alloc (.cells #[.slice none 0 0, .int .i64 0, .int .i64 0, .int .i64 0, .int .i64 0, .int .i64 0] 24)) := (Ext.refl w).alloc _
  replace hz0 := hide hz0
  replace hE0 := hide hE0
  cases hst : P.stopped with
  | true =>
    have hr := read_stop hst 67108864
    have hl := hide (load_stop hst)
    unfold ReadPost at hrd
    rw [hr] at hrd
    replace hrd := hide hrd
    clear h hst hr
    go_enter Tryz.func12, Tryz.ntmps12
    go_wp2_with fail
    refine (hrd.out _ hE0.out).mono ?_
    rintro e w1 ⟨A1, k1, c1, rfl, _, _, hE1⟩
    have hz := hz0.out.ext hE1
    have t0 := hz.cell 0 rfl
    have t1 := hz.cell 1 rfl
    have t2 := hz.cell 2 rfl
    have t3 := hz.cell 3 rfl
    have t4 := hz.cell 4 rfl
    have t5 := hz.cell 5 rfl
    have tf := fun i => hz.free i
    have tl := hz.lt
    go_wp2_with fail
    obtain ⟨w6, hw6⟩ : ∃ w6, w6 = setM w1 w.heap.size nilMf none 0 := ⟨_, rfl⟩
    have hk6 := setM_row hz nilMf none 0
    rw [← hw6] at hk6
    have hE6 := setM_ext (hE0.out.trans hE1) (Nat.le_refl _) nilMf none 0
    rw [← hw6] at hE6
    have ho6 : nilMf.Ok w6 w6.heap.size none 0 := nilMf_ok _ _
    simp only [setM, nilMf, List.length_nil] at hw6
    rw [← hw6]
    have k0 : w6.cell? ⟨w.heap.size, 0, none⟩ = some (.slice none 0 0) := hk6.cell 0 rfl
    have k1 : w6.cell? ⟨w.heap.size, 1, none⟩ = some (.int .i64 0) := hk6.cell 1 rfl
    have k2 : w6.cell? ⟨w.heap.size, 2, none⟩ = some (.int .i64 0) := hk6.cell 2 rfl
    have k3 : w6.cell? ⟨w.heap.size, 3, none⟩ = some (.int .i64 0) := hk6.cell 3 rfl
    have k4 : w6.cell? ⟨w.heap.size, 4, none⟩ = some (.int .i64 0) := hk6.cell 4 rfl
    have k5 : w6.cell? ⟨w.heap.size, 5, none⟩ = some (.int .i64 0) := hk6.cell 5 rfl
    clear hw6 hk6
    exact bodyPost_ret (v := .tuple #[nilMf.val none 0, .bool false, .int .i64 63]) (by simp [results, Tryz.results12, go_sem, nilMf, Mf.val, k0, k1, k2, k3, k4, k5]) rfl (by rw [hl.out]; exact ⟨_, _, rfl, ho6, hE6⟩)
  | false =>
    cases hfd : P.find curN with
    | none =>
      have hr := read_gone hst hfd 67108864
      have hl := hide (load_gone hst hfd)
      unfold ReadPost at hrd
      rw [hr] at hrd
      replace hrd := hide hrd
      clear h hst hr hfd
      go_enter Tryz.func12, Tryz.ntmps12
      go_wp2_with fail
      refine (hrd.out _ hE0.out).mono ?_
      rintro e w1 ⟨A1, k1, c1, rfl, _, _, hE1⟩
      go_wp2_with fail
      refine (hnew.out _).mono ?_
      rintro e w2 ⟨rfl, hE2⟩
      have hz := hz0.out.ext (hE1.trans hE2)
      have t0 := hz.cell 0 rfl
      have t1 := hz.cell 1 rfl
      have t2 := hz.cell 2 rfl
      have t3 := hz.cell 3 rfl
      have t4 := hz.cell 4 rfl
      have t5 := hz.cell 5 rfl
      have tf := fun i => hz.free i
      have tl := hz.lt
      go_wp2_with fail
      obtain ⟨w6, hw6⟩ : ∃ w6, w6 = setM w2 w.heap.size newM none 0 := ⟨_, rfl⟩
      have hk6 := setM_row hz newM none 0
      rw [← hw6] at hk6
      have hE6 := setM_ext (hE0.out.trans (hE1.trans hE2)) (Nat.le_refl _) newM none 0
      rw [← hw6] at hE6
      have ho6 : newM.Ok w6 w6.heap.size none 0 := newM_ok _ _
      simp only [setM, newM, List.length_nil] at hw6
      rw [← hw6]
      have k0 : w6.cell? ⟨w.heap.size, 0, none⟩ = some (.slice none 0 0) := hk6.cell 0 rfl
      have k1 : w6.cell? ⟨w.heap.size, 1, none⟩ = some (.int .i64 (-9223372036854775808)) := hk6.cell 1 rfl
      have k2 : w6.cell? ⟨w.heap.size, 2, none⟩ = some (.int .i64 0) := hk6.cell 2 rfl
      have k3 : w6.cell? ⟨w.heap.size, 3, none⟩ = some (.int .i64 1) := hk6.cell 3 rfl
      have k4 : w6.cell? ⟨w.heap.size, 4, none⟩ = some (.int .i64 1) := hk6.cell 4 rfl
      have k5 : w6.cell? ⟨w.heap.size, 5, none⟩ = some (.int .i64 (-9223372036854775808)) := hk6.cell 5 rfl
      clear hw6 hk6
      exact bodyPost_ret (v := .tuple #[newM.val none 0, .bool false, .int .i64 0]) (by simp [results, Tryz.results12, go_sem, newM, Mf.val, k0, k1, k2, k3, k4, k5]) rfl (by rw [hl.out]; exact ⟨_, _, rfl, ho6, hE6⟩)
    | some f =>
      have hr := read_there hst hfd
      obtain ⟨l, hle⟩ : ∃ l, l = f.2.1.take 67108864 := ⟨_, rfl⟩
      have hll : l.length ≤ 67108864 := by rw [hle, List.length_take]; omega
      unfold ReadPost at hrd
      rw [hr, ← hle] at hrd
      replace hrd := hide hrd
      have hln : decM l = none → loadM P = (nilMf, false, 160) := fun h => load_bad hst hfd (by rw [← hle]; exact h)
      have hls : ∀ m, decM l = some m → loadM P = (m, true, 0) := fun m h => load_good hst hfd (by rw [← hle]; exact h)
      replace hln := hide hln
      replace hls := hide hls
      clear h hst hr hfd hle
      go_enter Tryz.func12, Tryz.ntmps12
      go_wp2_with fail
      refine (hrd.out _ hE0.out).mono ?_
      rintro e w1 ⟨A1, k1, c1, rfl, hb, hk, hE1⟩
      have hdec := hide (decode_any A1 k1 c1 l w1 hb.in8 (by rw [hk]; show l.length ≤ _; omega))
      clear hb hk
      go_wp2_with fail
      refine hdec.out.mono ?_
      rintro e w2 ⟨hE2, hd⟩
      have hz := hz0.out.ext (hE1.trans hE2)
      cases hdm : decM l with
      | none =>
        rw [hdm] at hd
        simp only at hd
        subst hd
        have hl := hide (hln.out hdm)
        have t0 := hz.cell 0 rfl
        have t1 := hz.cell 1 rfl
        have t2 := hz.cell 2 rfl
        have t3 := hz.cell 3 rfl
        have t4 := hz.cell 4 rfl
        have t5 := hz.cell 5 rfl
        have tf := fun i => hz.free i
        have tl := hz.lt
        unfold nilMf Mf.val
        simp only [List.length_nil]
        go_wp2_with fail
        obtain ⟨w6, hw6⟩ : ∃ w6, w6 = setM w2 w.heap.size nilMf none 0 := ⟨_, rfl⟩
        have hk6 := setM_row hz nilMf none 0
        rw [← hw6] at hk6
        have hE6 := setM_ext (hE0.out.trans (hE1.trans hE2)) (Nat.le_refl _) nilMf none 0
        rw [← hw6] at hE6
        have ho6 : nilMf.Ok w6 w6.heap.size none 0 := nilMf_ok _ _
        simp only [setM, nilMf, List.length_nil] at hw6
        rw [← hw6]
        obtain ⟨w7, hw7⟩ : ∃ w7, w7 = w6.alloc (.cells #[.slice none 0 0, .int .i64 0, .int .i64 0, .int .i64 0, .int .i64 0, .int .i64 0] 24) := ⟨_, rfl⟩
        have hE7 : Ext w6 w7 := by rw [hw7]; exact (Ext.refl w6).alloc _
        replace hk6 := hk6.ext hE7
        replace hE6 := hE6.trans hE7
        have ho7 : nilMf.Ok w7 w7.heap.size none 0 := nilMf_ok w7 w7.heap.size
        rw [← hw7]
        have k0 : w7.cell? ⟨w.heap.size, 0, none⟩ = some (.slice none 0 0) := hk6.cell 0 rfl
        have k1 : w7.cell? ⟨w.heap.size, 1, none⟩ = some (.int .i64 0) := hk6.cell 1 rfl
        have k2 : w7.cell? ⟨w.heap.size, 2, none⟩ = some (.int .i64 0) := hk6.cell 2 rfl
        have k3 : w7.cell? ⟨w.heap.size, 3, none⟩ = some (.int .i64 0) := hk6.cell 3 rfl
        have k4 : w7.cell? ⟨w.heap.size, 4, none⟩ = some (.int .i64 0) := hk6.cell 4 rfl
        have k5 : w7.cell? ⟨w.heap.size, 5, none⟩ = some (.int .i64 0) := hk6.cell 5 rfl
        clear hw6 hk6 hw7
        exact bodyPost_ret (v := .tuple #[nilMf.val none 0, .bool false, .int .i64 160]) (by simp [results, Tryz.results12, go_sem, nilMf, Mf.val, k0, k1, k2, k3, k4, k5]) rfl (by rw [hl.out]; exact ⟨_, _, rfl, ho7, hE6⟩)

      | some m =>
        rw [hdm] at hd
        simp only at hd
        obtain ⟨A2, c2, rfl, ho⟩ := hd
        have hl := hide (hls.out m hdm)
        have t0 := hz.cell 0 rfl
        have t1 := hz.cell 1 rfl
        have t2 := hz.cell 2 rfl
        have t3 := hz.cell 3 rfl
        have t4 := hz.cell 4 rfl
        have t5 := hz.cell 5 rfl
        have tf := fun i => hz.free i
        have tl := hz.lt
        unfold Mf.val
        go_wp2_with fail
        obtain ⟨w6, hw6⟩ : ∃ w6, w6 = setM w2 w.heap.size m A2 c2 := ⟨_, rfl⟩
        have hk6 := setM_row hz m A2 c2
        rw [← hw6] at hk6
        have hE6 := setM_ext (hE0.out.trans (hE1.trans hE2)) (Nat.le_refl _) m A2 c2
        rw [← hw6] at hE6
        have ho6 : m.Ok w6 w6.heap.size A2 c2 := by rw [hw6]; exact mf_setM ho hz _ _ _
        unfold setM at hw6
        rw [← hw6]
        obtain ⟨w7, hw7⟩ : ∃ w7, w7 = w6.alloc (.cells #[.slice A2 m.ps.length c2, .int .i64 m.floor, .int .i64 m.done, .int .i64 m.log, .int .i64 m.next, .int .i64 m.now] 24) := ⟨_, rfl⟩
        have hE7 : Ext w6 w7 := by rw [hw7]; exact (Ext.refl w6).alloc _
        replace hk6 := hk6.ext hE7
        replace hE6 := hE6.trans hE7
        have ho7 : m.Ok w7 w7.heap.size A2 c2 := ⟨⟨ho6.parts.len, ho6.parts.cells.ext hE7, fun hne a ha => ⟨Nat.lt_of_lt_of_le (ho6.parts.away hne a ha).1 hE7.size, (ho6.parts.away hne a ha).2⟩, ho6.parts.cap, ho6.parts.most, ho6.parts.ok⟩, ho6.floor, ho6.done, ho6.log, ho6.next, ho6.now⟩
        rw [← hw7]
        have k0 : w7.cell? ⟨w.heap.size, 0, none⟩ = some (.slice A2 m.ps.length c2) := hk6.cell 0 rfl
        have k1 : w7.cell? ⟨w.heap.size, 1, none⟩ = some (.int .i64 m.floor) := hk6.cell 1 rfl
        have k2 : w7.cell? ⟨w.heap.size, 2, none⟩ = some (.int .i64 m.done) := hk6.cell 2 rfl
        have k3 : w7.cell? ⟨w.heap.size, 3, none⟩ = some (.int .i64 m.log) := hk6.cell 3 rfl
        have k4 : w7.cell? ⟨w.heap.size, 4, none⟩ = some (.int .i64 m.next) := hk6.cell 4 rfl
        have k5 : w7.cell? ⟨w.heap.size, 5, none⟩ = some (.int .i64 m.now) := hk6.cell 5 rfl
        clear hw6 hk6 hw7
        exact bodyPost_ret (v := .tuple #[m.val A2 c2, .bool true, .int .i64 0]) (by simp [results, Tryz.results12, go_sem, Mf.val, k0, k1, k2, k3, k4, k5]) rfl (by rw [hl.out]; exact ⟨_, _, rfl, ho7, hE6⟩)

end Go.Proofs.YtaoolpnnomhnoaaGreatDoor

/- What came in: a cell's place; rows of integers. -/
namespace Go.Proofs.YtaoolpnnomhnoaaGreatDoor
open Go.ChangeShapes Go.WideShapes Go.Deep Go.RowKit

theorem cell_lt {w : World} {a : Addr} {v : Value} (h : w.cell? a = some v) : a.block < w.heap.size ∧ a.spot = none := by
  unfold World.cell? at h
  split at h
  · rename_i c _ _ hb
    refine ⟨(Array.getElem?_eq_some_iff.1 hb).1, ?_⟩
    cases hs : a.spot with
    | none => rfl
    | some s => rw [hs] at h; simp at h
  · cases h
theorem list_of {α : Type} {Q : Nat → α → Prop} : ∀ (n : Nat), (∀ i, i < n → ∃ x, Q i x) → ∃ l : List α, l.length = n ∧ ∀ i x, l[i]? = some x → Q i x
  | 0, _ => ⟨[], rfl, fun i x h => by simp at h⟩
  | n + 1, h => by
    obtain ⟨l, hl, hq⟩ := list_of n fun i hi => h i (by omega)
    obtain ⟨x, hx⟩ := h n (by omega)
    refine ⟨l ++ [x], by simp [hl], fun i y hy => ?_⟩
    rw [List.getElem?_append] at hy
    split at hy
    · exact hq i y hy
    · rename_i hi
      have : i = n := by
        have := (List.getElem?_eq_some_iff.1 hy).1
        simp at this
        omega
      subst this
      rw [hl] at hy
      simp at hy
      rw [← hy]
      exact hx
section
variable {H : Type} {enc : TypeId × Value → H} {w : World} {base : Nat} {spare : Nat → Bool} {held : Bool}
set_option maxRecDepth 100000 in
theorem in_ints {t e : TypeId} {k : IntKind} {fuel : Nat} {v : Value} {x : DataW H × List MemPlace} (ht : Tryz.prog.underlying t = some (.slice e)) (he : Tryz.prog.underlying e = some (.int k)) (hc : Tryz.prog.cellsOf e = 1)
    (h : DataW.trod enc Tryz.prog w base spare held fuel t [v] = some x) :
    ∃ (A : Option Addr) (len cap : Nat) (zs : List Int), v = .slice A len cap ∧ len = zs.length ∧ Cells w A (zs.map (Value.int k)) ∧ (zs ≠ [] → ∀ a, A = some a → a.block < w.heap.size ∧ a.spot = none) ∧ len ≤ cap ∧ len ≤ 9223372036854775807 ∧ ∀ z ∈ zs, (Lit.int k z).wf = true := by
  rcases open_ints ht he hc h with ⟨hcs, _⟩ | ⟨y, m, c, zs, hcs, _, hl, hm, hz, _, hcell, hwz⟩
  · obtain rfl : v = .slice none 0 0 := by simpa using hcs
    exact ⟨none, 0, 0, [], rfl, rfl, .inl rfl, fun h => absurd rfl h, by omega, by omega, nofun⟩
  · obtain rfl : v = .slice (some y) m c := by simpa using hcs
    have hzl : m ≤ zs.length := by rw [hz]; split <;> omega
    have hml : m ≤ 9223372036854775807 := by unfold maxLen at hm; omega
    refine ⟨some y, m, c, zs.take m, rfl, by simp; omega, ?_, ?_, hl, hml, fun z hz => hwz z (List.mem_of_mem_take hz)⟩
    · rcases Nat.eq_zero_or_pos m with rfl | hm0
      · exact .inl rfl
      · have h0 := hcell 0 (by omega)
        have hs := (cell_lt h0).2
        obtain ⟨b, o, s⟩ := y
        obtain rfl : s = none := hs
        refine .inr ⟨b, o, rfl, fun i u hu => ?_⟩
        rw [List.getElem?_map, List.getElem?_take] at hu
        split at hu
        · rename_i hi
          have hi2 : i < zs.length := by omega
          rw [List.getElem?_eq_getElem hi2] at hu
          simp only [Option.map_some] at hu
          have h1 := hcell i hi2
          rw [Addr.add_lit] at h1
          rw [h1, ← hu]
          simp [List.getD, hi2]
        · simp at hu
    · intro hne a ha
      obtain rfl : y = a := by simpa using ha
      have hm0 : 0 < m := by
        rcases Nat.eq_zero_or_pos m with rfl | hm0
        · exact absurd rfl hne
        · exact hm0
      exact cell_lt (hcell 0 (by omega))
end
end Go.Proofs.YtaoolpnnomhnoaaGreatDoor

/- loggialaw16: ManifestWhole. -/
namespace Go.Proofs.YtaoolpnnomhnoaaGreatDoor
open Go.RowKit Go.Maps

/-- The row of what is kept, so far as it is looked at. -/
structure KpS (w : World) (K : Option Addr) (kn kc : Nat) (ks : List Int) : Prop where
  cells : Cells w K (ks.map I64)
  len : kn = ks.length
  at_ : ks ≠ [] → ∀ a, K = some a → a.block < w.heap.size ∧ a.spot = none
  each : ∀ k ∈ ks, -9223372036854775808 ≤ k ∧ k ≤ 9223372036854775807
  cap : kn ≤ kc
  most : kn ≤ 9223372036854775807
theorem KpS.head {w : World} {K K' : Option Addr} {kn kc : Nat} {ks : List Int} (h : KpS w K kn kc ks) (k : Nat) (hk : k ≤ kn) (hK : (∀ a, K = some a → a.spot = none) → K' = K) : KpS w K' k kc (ks.take k) := by
  by_cases hne : ks = []
  · have h0 := h.len
    rw [hne] at h0
    have : k = 0 := by simp at h0; omega
    subst this
    exact ⟨.inl rfl, rfl, fun h => absurd rfl h, nofun, Nat.zero_le _, by omega⟩
  · have e := hK fun a ha => (h.at_ hne a ha).2
    subst e
    have h1 := h.len
    refine ⟨?_, by rw [List.length_take]; omega, fun _ => h.at_ hne, fun x hx => h.each x (List.mem_of_mem_take hx), Nat.le_trans hk h.cap, by have := h.most; omega⟩
    rcases h.cells with hc | ⟨g, o, hg, hc⟩
    · exact absurd (List.map_eq_nil_iff.1 hc) hne
    · refine .inr ⟨g, o, hg, fun i v hv => hc i v ?_⟩
      rw [List.map_take, List.getElem?_take] at hv
      split at hv
      · exact hv
      · cases hv
set_option maxRecDepth 100000 in
set_option maxHeartbeats 8000000 in
theorem whole_any (a0 b0 : Mf) (A B K : Option Addr) (c c2 kn kc : Nat) (x : Int) (ks : List Int) (w : World) (ha : a0.Ok w w.heap.size A c) (hb : b0.Ok w w.heap.size B c2) (hx : 0 ≤ x ∧ x < 256) (hk : KpS w K kn kc ks) :
    Calls Tryz.prog 3 #[a0.val A c, b0.val B c2, .int .u8 x, .slice K kn kc] w fun e w' => e = .returned (.bool true) ∧ Ext w w' := by
  have hfa : ∀ W, Ext w W → Calls Tryz.prog 5 #[a0.val A c] W fun e w' => e = .returned (a0.few.val A c) ∧ Ext W w' := fun W hE => few_any w.heap.size a0 A c W (ha.ext hE)
  have hfb : ∀ W, Ext w W → Calls Tryz.prog 5 #[b0.val B c2] W fun e w' => e = .returned (b0.few.val B c2) ∧ Ext W w' := fun W hE => few_any w.heap.size b0 B c2 W (hb.ext hE)
  have hra : Row ((w.alloc (.cells (a0.cells A c) 24)).alloc (.cells (b0.cells B c2) 24)) w.heap.size 24 (a0.cells A c) := (Row.new w _ _).alloc _
  have hrb : Row ((w.alloc (.cells (a0.cells A c) 24)).alloc (.cells (b0.cells B c2) 24)) (w.heap.size + 1) 24 (b0.cells B c2) := by
    have h := Row.new (w.alloc (.cells (a0.cells A c) 24)) 24 (b0.cells B c2)
    simpa using h
  have hE0 : Ext w ((w.alloc (.cells (a0.cells A c) 24)).alloc (.cells (b0.cells B c2) 24)) := ((Ext.refl w).alloc _).alloc _
  have hta := ha.few
  have htb := hb.few
  have haw := hide (fun W => awake_any W)
  unfold Mf.val Mf.cells at *
  obtain ⟨W0, hW0⟩ : ∃ W0, W0 = (w.alloc (.cells #[.slice A a0.ps.length c, .int .i64 a0.floor, .int .i64 a0.done, .int .i64 a0.log, .int .i64 a0.next, .int .i64 a0.now] 24)).alloc (.cells #[.slice B b0.ps.length c2, .int .i64 b0.floor, .int .i64 b0.done, .int .i64 b0.log, .int .i64 b0.next, .int .i64 b0.now] 24) := ⟨_, rfl⟩
  rw [← hW0] at hra hrb hE0
  replace hW0 := hide hW0
  replace hfa := hide hfa
  replace hfb := hide hfb
  replace hk := hide hk
  clear ha hb
  go_enter Tryz.func3, Tryz.ntmps3
  go_wp2_with fail
  rw [← hW0.out]
  refine (hfa.out _ hE0).mono ?_
  rintro e w1 ⟨rfl, hE1⟩
  have ra1 := hra.ext hE1
  have rb1 := hrb.ext hE1
  have q1 := (setM_row ra1 a0.few A c)
  have q2 := (setM_away rb1 (by omega : w.heap.size + 1 ≠ w.heap.size) a0.few A c)
  have q3 := (setM_ext (hE0.trans hE1) (Nat.le_refl _) a0.few A c)
  unfold Mf.cells at q1
  replace q1 := hide q1
  replace q2 := hide q2
  replace q3 := hide q3
  have f0 := fun i => ra1.free i
  have x0 := ra1.cell 0 rfl
  have x1 := ra1.cell 1 rfl
  have x2 := ra1.cell 2 rfl
  have x3 := ra1.cell 3 rfl
  have x4 := ra1.cell 4 rfl
  have x5 := ra1.cell 5 rfl
  have y0 := rb1.cell 0 rfl
  have y1 := rb1.cell 1 rfl
  have y2 := rb1.cell 2 rfl
  have y3 := rb1.cell 3 rfl
  have y4 := rb1.cell 4 rfl
  have y5 := rb1.cell 5 rfl
  replace rb1 := hide rb1
  go_wp2_with fail
  obtain ⟨w2, hw2⟩ : ∃ w2, w2 = setM w1 w.heap.size a0.few A c := ⟨_, rfl⟩
  rw [← hw2] at q1 q2 q3
  unfold setM at hw2
  rw [← hw2]
  clear hw2 f0 x0 x1 x2 x3 x4 x5 y0 y1 y2 y3 y4 y5 ra1 rb1
  refine (hfb.out _ q3.out).mono ?_
  rintro e w3 ⟨rfl, hE3⟩
  have ra3 := q1.out.ext hE3
  have rb3 := q2.out.ext hE3
  have q4 := setM_row rb3 b0.few B c2
  have q5 := setM_away ra3 (by omega : w.heap.size ≠ w.heap.size + 1) b0.few B c2
  have q6 := setM_ext (q3.out.trans hE3) (by omega : w.heap.size ≤ w.heap.size + 1) b0.few B c2
  unfold Mf.cells at q4
  replace q4 := hide q4
  replace q5 := hide q5
  replace q6 := hide q6
  have f0 := fun i => rb3.free i
  have y0 := rb3.cell 0 rfl
  have y1 := rb3.cell 1 rfl
  have y2 := rb3.cell 2 rfl
  have y3 := rb3.cell 3 rfl
  have y4 := rb3.cell 4 rfl
  have y5 := rb3.cell 5 rfl
  clear ra3
  replace rb3 := hide rb3
  go_wp2_with fail
  obtain ⟨w4, hw4⟩ : ∃ w4, w4 = setM w3 (w.heap.size + 1) b0.few B c2 := ⟨_, rfl⟩
  rw [← hw4] at q4 q5 q6
  unfold setM at hw4
  rw [← hw4]
  clear hw4 f0 y0 y1 y2 y3 y4 y5 rb3
  have ha4 := hide (hta.ext q6.out)
  have hb4 := hide (htb.ext q6.out)
  obtain ⟨a, hae⟩ : ∃ a, a = a0.few := ⟨_, rfl⟩
  obtain ⟨b, hbe⟩ : ∃ b, b = b0.few := ⟨_, rfl⟩
  rw [← hae] at q5 ha4
  rw [← hbe] at q4 hb4
  replace hae := hide hae
  replace hbe := hide hbe
  clear q1 q2 q3 hta htb hra hrb hE0 hE1 hE3 hfa hfb hW0
  have hnew := hide (new_yes w4.heap.size 0 w4 (by omega) (Nat.le_refl _))
  refine hnew.out.mono ?_
  rintro e w5 ⟨d, F, rfl, hS5, _, hE5⟩
  replace hS5 := hide hS5
  replace hE5 := hide hE5
  clear hnew
  go_upto_if 31 with (fail)
  go_cut [3] from 29 to 33 (fun s3 wv => ∃ (K1 : Option Addr) (n1 c1 : Nat) (k1 : List Int), s3 = .slice K1 n1 c1 ∧ Hid (KpS w K1 n1 c1 k1) ∧ wv = w5)
  case first =>
    by_cases h5 : 5 < kn
    · have hk' := hide (hk.out.head (K' := K) 5 (by omega) (fun _ => rfl))
      have h5i : (5 : Int) < (kn : Int) := by omega
      have h5c : ¬ (kc : Int) < 5 := by have := hk.out.cap; omega
      go_wp2_with fail
      go_meet
      case rel => exact ⟨K, 5, kc, ks.take 5, rfl, hk', rfl⟩
    · go_wp2_with fail
      go_meet
      case rel => exact ⟨K, kn, kc, ks, rfl, hk, rfl⟩
  case rest =>
    obtain ⟨K1, n1, c1, k1, rfl, hk1, rfl⟩ := hcut
    clear hk
    have x0 := (q5.out.ext hE5.out).cell 0 rfl
    have x1 := (q5.out.ext hE5.out).cell 1 rfl
    have x2 := (q5.out.ext hE5.out).cell 2 rfl
    have x3 := (q5.out.ext hE5.out).cell 3 rfl
    have x4 := (q5.out.ext hE5.out).cell 4 rfl
    have x5 := (q5.out.ext hE5.out).cell 5 rfl
    have hs1 := save_any w4.heap.size d _ F w.heap.size a A c wc hS5.out (ha4.out.ext hE5.out) hE5.out.size
    unfold Mf.val at hs1
    by_cases hca : checkP a = 0
    · have hsv := save0 ha4.out.in_ hca
      rw [hsv] at hs1
      simp only at hs1
      obtain ⟨c1', hc1'⟩ : ∃ k : Nat, (k : Int) = x % 6 := ⟨(x % 6).toNat, by omega⟩
      obtain ⟨m, hlm, hw1, hw2⟩ := whole ha4.out.in_ hb4.out.in_ hca c1' k1
      obtain ⟨Q, hQ⟩ : ∃ Q, Q = saveM (PD1 (encM a) (encM a).length c1') b := ⟨_, rfl⟩
      rw [← hQ] at hlm hw1 hw2
      obtain ⟨Q2, e2⟩ := Q
      simp only at hlm hw1 hw2
      replace hs1 := hide hs1
      replace hlm := hide hlm
      replace hw1 := hide hw1
      replace hw2 := hide hw2
      replace hca := hide hca
      clear hsv
      go_wp2_with fail
      refine hs1.out.mono ?_
      rintro e w6 ⟨rfl, wx, hx, hN⟩
      obtain ⟨F6, hS6, hE6⟩ := hN.ext (hS5.out.ext hx) (hE5.out.trans hx) (Nat.le_refl _)
      have har := arm_any w4.heap.size d _ F6 (x % 6) w6 hS6 (by omega)
      have hpd : ({ PD1 (encM a) (encM a).length 0 with armed := (x % 6).toNat } : PD) = PD1 (encM a) (encM a).length c1' := by rw [show (x % 6).toNat = c1' by omega]; rfl
      rw [hpd] at har
      replace har := hide har
      clear hs1 hN hx hpd
      go_wp2_with fail
      refine har.out.mono ?_
      rintro e w7 ⟨rfl, hN7⟩
      obtain ⟨F7, hS7, hE7⟩ := hN7.ext hS6 hE6 (Nat.le_refl _)
      have hs2 := save_any w4.heap.size d _ F7 w.heap.size b B c2 w7 hS7 (hb4.out.ext hE7) hE7.size
      rw [← hQ] at hs2
      unfold Mf.val at hs2
      simp only at hs2
      replace hs2 := hide hs2
      clear har hN7 hS6 hE6 x0 x1 x2 x3 x4 x5
      have y0 := (q4.out.ext hE7).cell 0 rfl
      have y1 := (q4.out.ext hE7).cell 1 rfl
      have y2 := (q4.out.ext hE7).cell 2 rfl
      have y3 := (q4.out.ext hE7).cell 3 rfl
      have y4 := (q4.out.ext hE7).cell 4 rfl
      have y5 := (q4.out.ext hE7).cell 5 rfl
      go_wp2_with fail
      refine hs2.out.mono ?_
      rintro e w8 ⟨rfl, wx, hx, hN8⟩
      obtain ⟨F8, hS8, hE8⟩ := hN8.ext (hS7.ext hx) (hE7.trans hx) (Nat.le_refl _)
      have hre := restart_any0 w4.heap.size d _ F8 K1 n1 c1 k1 w8 hS8 (hk1.out.cells.ext (q6.out.trans hE8)) (fun hne a ha hF => by have h1 := (hk1.out.at_ hne a ha).1; have h2 := hS8.base_le hF; have h3 := q6.out.size; omega) hk1.out.len hk1.out.each hk1.out.most
      replace hre := hide hre
      clear hs2 hN8 hx y0 y1 y2 y3 y4 y5
      go_wp2_with fail
      refine hre.out.mono ?_
      rintro e w9 ⟨rfl, hN9⟩
      obtain ⟨F9, hS9, hE9⟩ := hN9.ext hS8 hE8 (Nat.le_refl _)
      have hld := load_any w4.heap.size d _ F9 w9 hS9
      rw [hlm.out] at hld
      unfold LoadP at hld
      simp only at hld
      unfold Mf.val at hld
      replace hld := hide hld
      clear hre hN9 hS7 hE7 hS8 hE8 hS9
      go_wp2_with fail
      refine hld.out.mono ?_
      rintro e w10 ⟨A9, c9, rfl, hm9, hE10⟩
      obtain ⟨w11, hw11⟩ : ∃ W, W = w10.alloc (.cells #[.slice A9 m.ps.length c9, .int .i64 m.floor, .int .i64 m.done, .int .i64 m.log, .int .i64 m.next, .int .i64 m.now] 24) := ⟨_, rfl⟩
      have hE11 : Ext w10 w11 := by rw [hw11]; exact (Ext.refl w10).alloc _
      have hXE := (hE9.trans hE10).trans hE11
      have r4 := hide (q4.out.ext hXE)
      have r5 := hide (q5.out.ext hXE)
      have rm : Hid (Row w11 w10.heap.size 24 #[.slice A9 m.ps.length c9, .int .i64 m.floor, .int .i64 m.done, .int .i64 m.log, .int .i64 m.next, .int .i64 m.now]) := hide (by rw [hw11]; exact Row.new w10 _ _)
      have hck := rcheck_any w.heap.size b B c2 w11 (hb4.out.ext hXE)
      have hm11 := hide (hm9.ext hE11)
      unfold Mf.val at hck
      replace hXE := hide hXE
      have y0 := r4.out.cell 0 rfl
      have y1 := r4.out.cell 1 rfl
      have y2 := r4.out.cell 2 rfl
      have y3 := r4.out.cell 3 rfl
      have y4 := r4.out.cell 4 rfl
      have y5 := r4.out.cell 5 rfl
      clear hld hE9 hE10 hE11 q4 q5
      replace hck := hide hck
      subst hw11
      go_wp2_with fail
      refine hck.out.mono ?_
      rintro e w12 ⟨rfl, hE12⟩
      have r4b := hide (r4.out.ext hE12)
      have r5b := hide (r5.out.ext hE12)
      have rmb := hide (rm.out.ext hE12)
      have hm12 := hide (hm11.out.ext hE12)
      have hX12 := hide (hXE.out.trans hE12)
      have ha12 := hide (ha4.out.ext hX12.out)
      have hb12 := hide (hb4.out.ext hX12.out)
      clear hck hE12 y0 y1 y2 y3 y4 y5 r4 r5 rm hm11 hXE ha4 hb4
      by_cases hcb : checkP b = 0
      · have hcbi : (checkP b : Int) = 0 := by omega
        have hsm := rsame_any _ w.heap.size m b A9 B c9 c2 w12 hm12.out hb12.out
        unfold Mf.val at hsm
        have hww := hw2.out hcb
        obtain ⟨t, ht⟩ : ∃ t, t = sameP m b := ⟨_, rfl⟩
        rw [← ht] at hsm
        replace hsm := hide hsm
        replace hcb := hide hcb
        have y0 := r4b.out.cell 0 rfl
        have y1 := r4b.out.cell 1 rfl
        have y2 := r4b.out.cell 2 rfl
        have y3 := r4b.out.cell 3 rfl
        have y4 := r4b.out.cell 4 rfl
        have y5 := r4b.out.cell 5 rfl
        have v0 := rmb.out.cell 0 rfl
        have v1 := rmb.out.cell 1 rfl
        have v2 := rmb.out.cell 2 rfl
        have v3 := rmb.out.cell 3 rfl
        have v4 := rmb.out.cell 4 rfl
        have v5 := rmb.out.cell 5 rfl
        cases t with
        | true =>
          replace ht := hide ht
          go_wp2_with fail
          refine hsm.out.mono ?_
          rintro e w13 ⟨rfl, hE13⟩
          go_wp2_with fail
          refine (haw.out _).mono ?_
          rintro e w14 ⟨rfl, hE14⟩
          go_wp2_with fail
          go_ret
          exact ⟨rfl, q6.out.trans ((hX12.out.trans hE13).trans hE14)⟩
        | false =>
          have hma : e2 ≠ 0 ∧ m = a := by
            rcases hww with h | h
            · rw [h, sameP_refl] at ht; cases ht
            · exact h
          have he2 : ¬ (e2 : Int) = 0 := by have := hma.1; omega
          have t0 : ((e2 : Int) != 0) = true := bne_iff_ne.2 he2
          replace hma := hide hma
          replace hww := hide hww
          replace ht := hide ht
          go_wp2_with fail
          refine hsm.out.mono ?_
          rintro e w13 ⟨rfl, hE13⟩
          have hs2 := rsame_any _ w.heap.size m a A9 A c9 c w13 (hm12.out.ext hE13) (ha12.out.ext hE13)
          rw [show sameP m a = true by rw [hma.out.2]; exact sameP_refl a] at hs2
          unfold Mf.val at hs2
          replace hs2 := hide hs2
          clear y0 y1 y2 y3 y4 y5 v0 v1 v2 v3 v4 v5
          have x0 := (r5b.out.ext hE13).cell 0 rfl
          have x1 := (r5b.out.ext hE13).cell 1 rfl
          have x2 := (r5b.out.ext hE13).cell 2 rfl
          have x3 := (r5b.out.ext hE13).cell 3 rfl
          have x4 := (r5b.out.ext hE13).cell 4 rfl
          have x5 := (r5b.out.ext hE13).cell 5 rfl
          have v0 := (rmb.out.ext hE13).cell 0 rfl
          have v1 := (rmb.out.ext hE13).cell 1 rfl
          have v2 := (rmb.out.ext hE13).cell 2 rfl
          have v3 := (rmb.out.ext hE13).cell 3 rfl
          have v4 := (rmb.out.ext hE13).cell 4 rfl
          have v5 := (rmb.out.ext hE13).cell 5 rfl
          go_wp2_with fail
          refine hs2.out.mono ?_
          rintro e w14 ⟨rfl, hE14⟩
          go_wp2_with fail
          refine (haw.out _).mono ?_
          rintro e w15 ⟨rfl, hE15⟩
          go_wp2_with fail
          go_ret
          exact ⟨rfl, q6.out.trans (((hX12.out.trans hE13).trans hE14).trans hE15)⟩
      · have hcbi : ¬ (checkP b : Int) = 0 := by omega
        have hma := hw1.out hcb
        have he2 : (e2 : Int) = (checkP b : Int) := by rw [hma.1]
        have hma2 := hide hma.2
        have hck := rcheck_any w.heap.size b B c2 w12 hb12.out
        unfold Mf.val at hck
        replace hck := hide hck
        replace hcb := hide hcb
        clear hma
        rw [he2]
        have y0 := r4b.out.cell 0 rfl
        have y1 := r4b.out.cell 1 rfl
        have y2 := r4b.out.cell 2 rfl
        have y3 := r4b.out.cell 3 rfl
        have y4 := r4b.out.cell 4 rfl
        have y5 := r4b.out.cell 5 rfl
        go_wp2_with fail
        refine hck.out.mono ?_
        rintro e w13 ⟨rfl, hE13⟩
        have hs2 := rsame_any _ w.heap.size m a A9 A c9 c w13 (hm12.out.ext hE13) (ha12.out.ext hE13)
        rw [show sameP m a = true by rw [hma2.out]; exact sameP_refl a] at hs2
        unfold Mf.val at hs2
        replace hs2 := hide hs2
        clear y0 y1 y2 y3 y4 y5
        have x0 := (r5b.out.ext hE13).cell 0 rfl
        have x1 := (r5b.out.ext hE13).cell 1 rfl
        have x2 := (r5b.out.ext hE13).cell 2 rfl
        have x3 := (r5b.out.ext hE13).cell 3 rfl
        have x4 := (r5b.out.ext hE13).cell 4 rfl
        have x5 := (r5b.out.ext hE13).cell 5 rfl
        have v0 := (rmb.out.ext hE13).cell 0 rfl
        have v1 := (rmb.out.ext hE13).cell 1 rfl
        have v2 := (rmb.out.ext hE13).cell 2 rfl
        have v3 := (rmb.out.ext hE13).cell 3 rfl
        have v4 := (rmb.out.ext hE13).cell 4 rfl
        have v5 := (rmb.out.ext hE13).cell 5 rfl
        go_wp2_with fail
        refine hs2.out.mono ?_
        rintro e w14 ⟨rfl, hE14⟩
        go_wp2_with fail
        refine (haw.out _).mono ?_
        rintro e w15 ⟨rfl, hE15⟩
        go_wp2_with fail
        go_ret
        exact ⟨rfl, q6.out.trans (((hX12.out.trans hE13).trans hE14).trans hE15)⟩
    · rw [save_bad hca] at hs1
      simp only at hs1
      have hci : ¬ (checkP a : Int) = 0 := by omega
      replace hs1 := hide hs1
      replace hca := hide hca
      go_wp2_with fail
      refine hs1.out.mono ?_
      rintro e w6 ⟨rfl, wx, hx, hN⟩
      obtain ⟨F6, hS6, hE6⟩ := hN.ext (hS5.out.ext hx) (hE5.out.trans hx) (Nat.le_refl _)
      have z0 := (q5.out.ext hE6).cell 0 rfl
      have z1 := (q5.out.ext hE6).cell 1 rfl
      have z2 := (q5.out.ext hE6).cell 2 rfl
      have z3 := (q5.out.ext hE6).cell 3 rfl
      have z4 := (q5.out.ext hE6).cell 4 rfl
      have z5 := (q5.out.ext hE6).cell 5 rfl
      have hck := rcheck_any w.heap.size a A c w6 (ha4.out.ext hE6)
      unfold Mf.val at hck
      replace hck := hide hck
      go_wp2_with fail
      refine hck.out.mono ?_
      rintro e w7 ⟨rfl, hE7⟩
      go_wp2_with fail
      refine (haw.out _).mono ?_
      rintro e w8 ⟨rfl, hE8⟩
      go_wp2_with fail
      go_ret
      exact ⟨rfl, q6.out.trans ((hE6.trans hE7).trans hE8)⟩
end Go.Proofs.YtaoolpnnomhnoaaGreatDoor

/- A Manifest that came in: opening. -/
namespace Go.Proofs.YtaoolpnnomhnoaaGreatDoor
open Go.ChangeShapes Go.WideShapes Go.Deep Go.RowKit

section
variable {H : Type} {enc : TypeId × Value → H} {w : World} {base : Nat} {spare : Nat → Bool} {held : Bool}
set_option maxRecDepth 100000 in
theorem in_part {fuel : Nat} {cs : List Value} {y : DataW H × List MemPlace} (hcl : cs.length = 7) (h : DataW.trod enc Tryz.prog w base spare held fuel 71 cs = some y) :
    ∃ p : Pt, p.Ok ∧ p.cells = cs := by
  obtain ⟨fs, hfs, hone⟩ : ∃ fs, Tryz.prog.underlying 71 = some (.struct fs) ∧ oneCellFields Tryz.prog fs = true ∧ fs.map Field.type = #[3, 69, 3, 3, 3, 3, 3] := ⟨_, Tryz.underlying71, by kernel_rfl, by kernel_rfl⟩
  obtain ⟨hone, hty⟩ := hone
  obtain ⟨ys, n, hn, hy, hlen, hyl, hf⟩ := DataW.trod_struct hfs h
  have one : ∀ (j : Nat) (t : TypeId) (v : Value), (#[3, 69, 3, 3, 3, 3, 3] : Array TypeId)[j]? = some t → cs[j]? = some v → ∃ z, DataW.trod enc Tryz.prog w base spare held n t [v] = some z := by
    intro j t v hj hv
    rw [← hty, Array.getElem?_map] at hj
    obtain ⟨f, hfj, rfl⟩ := Option.map_eq_some_iff.1 hj
    obtain ⟨ho, hk⟩ := hone_of hone j f hfj
    have h1 := hf j f hfj
    have hjl : j < cs.length := (List.getElem?_eq_some_iff.1 hv).1
    rw [ho, hk, List.drop_eq_getElem_cons hjl] at h1
    have hv2 : cs[j] = v := by rw [List.getElem?_eq_getElem hjl] at hv; simpa using hv
    rw [hv2] at h1
    have hjy : j < ys.length := by rw [hyl]; exact (Array.getElem?_eq_some_iff.1 hfj).1
    rw [List.getElem?_eq_getElem hjy] at h1
    exact ⟨_, h1⟩
  match cs, hcl with
  | [v0, v1, v2, v3, v4, v5, v6], _ =>
    obtain ⟨z0, h0⟩ := one 0 _ v0 rfl rfl
    obtain ⟨k0, e0, _, w0⟩ := DataW.trod_int Tryz.underlying3 h0
    obtain rfl : v0 = .int .i64 k0 := by simpa using e0
    obtain ⟨z1, h1⟩ := one 1 _ v1 rfl rfl
    obtain ⟨k1, e1, _, w1⟩ := DataW.trod_int Tryz.underlying69 h1
    obtain rfl : v1 = .int .i64 k1 := by simpa using e1
    obtain ⟨z2, h2⟩ := one 2 _ v2 rfl rfl
    obtain ⟨k2, e2, _, w2⟩ := DataW.trod_int Tryz.underlying3 h2
    obtain rfl : v2 = .int .i64 k2 := by simpa using e2
    obtain ⟨z3, h3⟩ := one 3 _ v3 rfl rfl
    obtain ⟨k3, e3, _, w3⟩ := DataW.trod_int Tryz.underlying3 h3
    obtain rfl : v3 = .int .i64 k3 := by simpa using e3
    obtain ⟨z4, h4⟩ := one 4 _ v4 rfl rfl
    obtain ⟨k4, e4, _, w4⟩ := DataW.trod_int Tryz.underlying3 h4
    obtain rfl : v4 = .int .i64 k4 := by simpa using e4
    obtain ⟨z5, h5⟩ := one 5 _ v5 rfl rfl
    obtain ⟨k5, e5, _, w5⟩ := DataW.trod_int Tryz.underlying3 h5
    obtain rfl : v5 = .int .i64 k5 := by simpa using e5
    obtain ⟨z6, h6⟩ := one 6 _ v6 rfl rfl
    obtain ⟨k6, e6, _, w6⟩ := DataW.trod_int Tryz.underlying3 h6
    obtain rfl : v6 = .int .i64 k6 := by simpa using e6
    exact ⟨⟨k0, k1, k2, k3, k4, k5, k6⟩, ⟨wf_i64 w0, wf_i64 w1, wf_i64 w2, wf_i64 w3, wf_i64 w4, wf_i64 w5, wf_i64 w6⟩, rfl⟩
set_option maxRecDepth 100000 in
theorem in_parts {fuel : Nat} {v : Value} {x : DataW H × List MemPlace} (h : DataW.trod enc Tryz.prog w base spare held fuel 22 [v] = some x) :
    ∃ A c ps, v = .slice A ps.length c ∧ PS w w.heap.size A ps.length c ps := by
  rcases open_slice Tryz.underlying22 h with ⟨hcs, _⟩ | ⟨a, m, c, k, n, D, Pl, hcs, hb, hl, hm, hk, hx, hi⟩
  · obtain rfl : v = .slice none 0 0 := by simpa using hcs
    exact ⟨none, 0, [], rfl, rfl, .inl rfl, fun h => absurd rfl h, Nat.le_refl _, by show 0 ≤ _; omega, nofun⟩
  · obtain rfl : v = .slice (some a) m c := by simpa using hcs
    have hc7 : Tryz.prog.cellsOf 71 = 7 := by kernel_rfl
    rw [hc7] at hi
    have hlk : m ≤ k := by rw [hk]; split <;> omega
    obtain ⟨ps, hpl, hps⟩ := list_of (Q := fun i (p : Pt) => p.Ok ∧ ∀ j v, p.cells[j]? = some v → w.cell? ((a.add (i * 7)).add j) = some v) m fun i hil => by
      obtain ⟨cs, hc, ht⟩ := hi i (by omega)
      obtain ⟨_, hcl, hat⟩ := World.cells?_some hc
      obtain ⟨p, hp, rfl⟩ := in_part hcl ht
      exact ⟨p, hp, fun j v hv => by rw [hat j (List.getElem?_eq_some_iff.1 hv).1]; exact hv⟩
    subst hpl
    have hat : ∀ i v, (pcells ps)[i]? = some v → w.cell? (a.add i) = some v := fun i v hv => by
      have hil : i < (pcells ps).length := (List.getElem?_eq_some_iff.1 hv).1
      rw [pcells_len] at hil
      have hdiv : i / 7 < ps.length := by omega
      have hg := pcells_get ps (i / 7) ps[i / 7] (i % 7) (List.getElem?_eq_getElem hdiv) (Nat.mod_lt _ (by omega))
      have hii : i / 7 * 7 + i % 7 = i := by omega
      rw [hii, hv] at hg
      have := (hps (i / 7) _ (List.getElem?_eq_getElem hdiv)).2 (i % 7) v hg.symm
      rw [Addr.add_add, hii] at this
      exact this
    have hlt : ps ≠ [] → a.block < w.heap.size ∧ a.spot = none := fun hne => by
      have h0 : 0 < (pcells ps).length := by
        rw [pcells_len]
        have := List.length_pos_iff.2 hne
        omega
      have := hat 0 _ (List.getElem?_eq_getElem h0)
      have := cell_lt this
      simpa [Addr.add] using this
    refine ⟨some a, c, ps, rfl, rfl, ?_, fun hne b hb => by cases hb; exact hlt hne, hl, by unfold maxLen at hm; omega, fun p hp => ?_⟩
    · by_cases hne : ps = []
      · rw [hne]; exact .inl rfl
      · obtain ⟨b, o, s⟩ := a
        obtain rfl : s = none := (hlt hne).2
        exact .inr ⟨b, o, rfl, fun i v hv => by have := hat i v hv; rw [Addr.add_lit] at this; exact this⟩
    · obtain ⟨i, hil, rfl⟩ := List.mem_iff_getElem.1 hp
      exact (hps i _ (List.getElem?_eq_getElem hil)).1
set_option maxRecDepth 100000 in
theorem in_mf {fuel : Nat} {cs : List Value} {y : DataW H × List MemPlace} (hcl : cs.length = 6) (h : DataW.trod enc Tryz.prog w base spare held fuel 24 cs = some y) :
    ∃ (m : Mf) (A : Option Addr) (c : Nat), m.Ok w w.heap.size A c ∧ Value.agg cs.toArray = m.val A c := by
  obtain ⟨fs, hfs, hone⟩ : ∃ fs, Tryz.prog.underlying 24 = some (.struct fs) ∧ oneCellFields Tryz.prog fs = true ∧ fs.map Field.type = #[22, 3, 3, 3, 3, 3] := ⟨_, Tryz.underlying24, by kernel_rfl, by kernel_rfl⟩
  obtain ⟨hone, hty⟩ := hone
  obtain ⟨ys, n, hn, hy, hlen, hyl, hf⟩ := DataW.trod_struct hfs h
  have one : ∀ (j : Nat) (t : TypeId) (v : Value), (#[22, 3, 3, 3, 3, 3] : Array TypeId)[j]? = some t → cs[j]? = some v → ∃ z, DataW.trod enc Tryz.prog w base spare held n t [v] = some z := by
    intro j t v hj hv
    rw [← hty, Array.getElem?_map] at hj
    obtain ⟨f, hfj, rfl⟩ := Option.map_eq_some_iff.1 hj
    obtain ⟨ho, hk⟩ := hone_of hone j f hfj
    have h1 := hf j f hfj
    have hjl : j < cs.length := (List.getElem?_eq_some_iff.1 hv).1
    rw [ho, hk, List.drop_eq_getElem_cons hjl] at h1
    have hv2 : cs[j] = v := by rw [List.getElem?_eq_getElem hjl] at hv; simpa using hv
    rw [hv2] at h1
    have hjy : j < ys.length := by rw [hyl]; exact (Array.getElem?_eq_some_iff.1 hfj).1
    rw [List.getElem?_eq_getElem hjy] at h1
    exact ⟨_, h1⟩
  match cs, hcl with
  | [v0, v1, v2, v3, v4, v5], _ =>
    obtain ⟨z0, h0⟩ := one 0 _ v0 rfl rfl
    obtain ⟨A, c, ps, rfl, hps⟩ := in_parts h0
    obtain ⟨z1, h1⟩ := one 1 _ v1 rfl rfl
    obtain ⟨k1, e1, _, w1⟩ := DataW.trod_int Tryz.underlying3 h1
    obtain rfl : v1 = .int .i64 k1 := by simpa using e1
    obtain ⟨z2, h2⟩ := one 2 _ v2 rfl rfl
    obtain ⟨k2, e2, _, w2⟩ := DataW.trod_int Tryz.underlying3 h2
    obtain rfl : v2 = .int .i64 k2 := by simpa using e2
    obtain ⟨z3, h3⟩ := one 3 _ v3 rfl rfl
    obtain ⟨k3, e3, _, w3⟩ := DataW.trod_int Tryz.underlying3 h3
    obtain rfl : v3 = .int .i64 k3 := by simpa using e3
    obtain ⟨z4, h4⟩ := one 4 _ v4 rfl rfl
    obtain ⟨k4, e4, _, w4⟩ := DataW.trod_int Tryz.underlying3 h4
    obtain rfl : v4 = .int .i64 k4 := by simpa using e4
    obtain ⟨z5, h5⟩ := one 5 _ v5 rfl rfl
    obtain ⟨k5, e5, _, w5⟩ := DataW.trod_int Tryz.underlying3 h5
    obtain rfl : v5 = .int .i64 k5 := by simpa using e5
    exact ⟨⟨ps, k1, k2, k3, k4, k5⟩, A, c, ⟨hps, wf_i64 w1, wf_i64 w2, wf_i64 w3, wf_i64 w4, wf_i64 w5⟩, rfl⟩
end
end Go.Proofs.YtaoolpnnomhnoaaGreatDoor

