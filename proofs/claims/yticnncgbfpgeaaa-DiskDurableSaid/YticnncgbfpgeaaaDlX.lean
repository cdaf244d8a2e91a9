/- loggialaw06: what is left behind a restart. -/
import Derived.Test.YticnncgbfpgeaaaDlO
namespace Go.Proofs.Yticnncgbfpgeaaa
open Go.RowKit Go.Maps

theorem pd_left_between (f : PF) (h : f.2.2 ≤ f.2.1.length) (k : Option Int) : f.2.2 ≤ leftM f k ∧ leftM f k ≤ f.2.1.length := by
  unfold leftM
  cases k with
  | none => exact ⟨Nat.le_refl _, h⟩
  | some k =>
    simp only
    have h1 : (0 : Int) < (f.2.1.length : Int) - f.2.2 + 1 := by omega
    have h2 := Int.emod_nonneg k (show (f.2.1.length : Int) - f.2.2 + 1 ≠ 0 by omega)
    have h3 := Int.emod_lt_of_pos k h1
    omega
theorem pd_left_same (f : PF) (h : f.2.2 = f.2.1.length) (k : Option Int) : leftM f k = f.2.2 := by
  have := pd_left_between f (by omega) k
  omega
theorem pd_keptM_length (L : List PF) (keep : List Int) : (keptM L keep).length = L.length := List.length_mapIdx
theorem pd_kept_get (L : List PF) (keep : List Int) (i : Nat) : (keptM L keep)[i]? = L[i]?.map fun f => cutM f (leftM f keep[i]?) := List.getElem?_mapIdx
/-- A file's durable beginning is no longer than it. -/
def Sure (P : PD) : Prop := ∀ f ∈ P.L, f.2.2 ≤ f.2.1.length ∧ f.2.1.length ≤ 67108864
theorem cut_len (f : PF) {n : Nat} (h : n ≤ f.2.1.length) : (cutM f n).2.1.length = n := by
  show (f.2.1.take n).length = n
  rw [List.length_take]
  omega
/-- A second restart changes nothing. -/
theorem restart_again {P : PD} (h : Sure P) (keep again : List Int) : restartM (restartM P keep) again = restartM P keep := by
  have : keptM (keptM P.L keep) again = keptM P.L keep := by
    apply List.ext_getElem?
    intro i
    rw [pd_kept_get, pd_kept_get, Option.map_map]
    cases hi : P.L[i]? with
    | none => rfl
    | some f =>
      have hf := h f (List.mem_of_getElem? hi)
      have hb := pd_left_between f hf.1 keep[i]?
      simp only [Option.map_some, Function.comp_apply]
      congr 1
      have hl := cut_len f hb.2
      rw [pd_left_same (cutM f (leftM f keep[i]?)) (by rw [hl]; rfl)]
      show (f.1, (f.2.1.take (leftM f keep[i]?)).take (leftM f keep[i]?), leftM f keep[i]?) = _
      rw [List.take_take, Nat.min_self]
      rfl
  show (⟨keptM (keptM P.L keep) again, P.quota, 0, false⟩ : PD) = _
  rw [this]
  rfl
theorem pd_kept_names (L : List PF) (keep : List Int) : (keptM L keep).map fname = L.map fname := by
  apply List.ext_getElem?
  intro i
  rw [List.getElem?_map, List.getElem?_map, pd_kept_get, Option.map_map]
  rfl
theorem pd_kept_up {L : List PF} (h : Up fname L) (keep : List Int) : Up fname (keptM L keep) := by
  have h1 : ((keptM L keep).map fname).Pairwise fun a b => a < b := by
    rw [pd_kept_names]
    exact List.pairwise_map.2 h
  exact List.pairwise_map.1 h1
theorem pd_left_read {P : PD} (hN : Nm P) (hU : Up fname P.L) (hS : Sure P) (keep : List Int) {i : Nat} {f : PF} (hf : P.L[i]? = some f) :
    ∃ m, f.2.2 ≤ m ∧ m ≤ f.2.1.length ∧ readM (restartM P keep) f.1 0 67108864 = (f.2.1.take m, 0) ∧ durM (restartM P keep) f.1 = m := by
  have hm := List.mem_of_getElem? hf
  have hb := pd_left_between f (hS f hm).1 keep[i]?
  have hg : (keptM P.L keep)[i]? = some (cutM f (leftM f keep[i]?)) := by rw [pd_kept_get, hf]; rfl
  have hfi : (restartM P keep).find f.1 = some (cutM f (leftM f keep[i]?)) := find_of (P := restartM P keep) (f := cutM f (leftM f keep[i]?)) (pd_kept_up hU keep) (List.mem_of_getElem? hg)
  refine ⟨leftM f keep[i]?, hb.1, hb.2, ?_, ?_⟩
  · have hl := cut_len f hb.2
    unfold readM
    rw [if_pos (hN f hm), if_neg (show ¬ (restartM P keep).stopped = true by show ¬ (false = true); decide), hfi]
    simp only
    have := (hS f hm).2
    rw [if_neg (by omega)]
    show (List.take (67108864 : Int).toNat (List.drop (0 : Int).toNat (f.2.1.take (leftM f keep[i]?))), 0) = _
    rw [Int.toNat_zero, List.drop_zero, List.take_of_length_le (by rw [List.length_take]; omega)]
  · unfold durM
    rw [hfi]
    rfl
set_option maxRecDepth 100000 in
theorem begins_any (s : List UInt8) (k : Nat) (w : World) (hs : s.length ≤ 9223372036854775807) :
    Calls Try.prog 22 #[str s, str (s.take k)] w fun e w' => e = .returned (.bool true) ∧ w' = w := by
  obtain ⟨t, ht⟩ : ∃ t, t = s.take k := ⟨_, rfl⟩
  have hle : t.length ≤ s.length := by rw [ht]; exact List.length_take_le' _ _
  have htk : s.take t.length = t := by
    rw [ht, List.length_take]
    rcases Nat.le_total k s.length with h | h
    · rw [Nat.min_eq_left h]
    · rw [Nat.min_eq_right h, List.take_of_length_le h, List.take_of_length_le (Nat.le_refl _)]
  have hr := run_strhead s t.length hle
  rw [htk] at hr
  rw [← ht]
  unfold str
  have z1 : (⟨s.toArray⟩ : ByteArray).size = s.length := ByteArray.size_mk_toArray s
  have z2 : (⟨t.toArray⟩ : ByteArray).size = t.length := ByteArray.size_mk_toArray t
  obtain ⟨sb, hsb⟩ : ∃ x : ByteArray, x = ⟨s.toArray⟩ := ⟨_, rfl⟩
  obtain ⟨tb, htb⟩ : ∃ x : ByteArray, x = ⟨t.toArray⟩ := ⟨_, rfl⟩
  rw [← hsb] at z1 hr ⊢
  rw [← htb] at z2 hr ⊢
  rw [← z2] at hr
  have hz : tb.size ≤ sb.size := by omega
  have hz2 : sb.size ≤ 9223372036854775807 := by omega
  clear hsb htb z1 z2 htk hle ht
  go_enter Try.func22, Try.ntmps22
  go_wp2_with fail
  go_ret
  exact ⟨rfl, rfl⟩
/-- A row of integers lies below base. -/
structure KS (w : World) (base : Nat) (A : Option Addr) (n c : Nat) (zs : List Int) : Prop where
  len : n = zs.length
  cells : Cells w A (zs.map I64)
  away : zs ≠ [] → ∀ a, A = some a → a.block < base ∧ a.spot = none
  cap : n ≤ c
  most : n ≤ 9223372036854775807
  kb : ∀ k ∈ zs, -9223372036854775808 ≤ k ∧ k ≤ 9223372036854775807
theorem KS.chg {w w1 : World} {base : Nat} {A : Option Addr} {n c : Nat} {zs : List Int} {S : Nat → Prop} (h : KS w base A n c zs) (hc : Chg S w w1) (hs : ∀ k, k < base → ¬ S k) : KS w1 base A n c zs := by
  refine ⟨h.len, ?_, h.away, h.cap, h.most, h.kb⟩
  by_cases hz : zs = []
  · subst hz; exact .inl rfl
  · exact hc.cells h.cells fun a ha => hs _ (h.away hz a ha).1
theorem KS.ext {w w1 : World} {base : Nat} {A : Option Addr} {n c : Nat} {zs : List Int} (h : KS w base A n c zs) (hE : Ext w w1) : KS w1 base A n c zs := h.chg (Chg.of_ext hE (fun _ => False)) fun _ _ h => h
theorem KS.take {w : World} {base : Nat} {A : Option Addr} {n c : Nat} {zs : List Int} (h : KS w base A n c zs) (k : Nat) (hk : k ≤ n) : KS w base A k c (zs.take k) := by
  refine ⟨by rw [List.length_take, ← h.len]; omega, by rw [List.map_take]; exact h.cells.take k, fun hz => h.away fun e => hz (by rw [e, List.take_nil]), by have := h.cap; omega, by have := h.most; omega, fun z hz => h.kb z (List.mem_of_mem_take hz)⟩
theorem ks_restart {w : World} {base d : Nat} {P : PD} {F : Nat → Prop} {A : Option Addr} {n c : Nat} {zs : List Int} (h : DS w base d P F) (hk : KS w base A n c zs) (hn : n ≤ 1073741824) :
    Calls Try.prog 20 #[.pointer (some ⟨d, 0, none⟩), .slice A n c] w fun e w' => e = .returned (.tuple #[]) ∧ DNext base d F w (restartM P zs) w' :=
  restart_any0 base d P F A n c zs w h hk.cells (fun hz a ha hf => by have := (hk.away hz a ha).1; have := h.base_le hf; omega) hk.len hk.kb hn
/-- Behind the first restart: the program's disk, and the row of what there was, away from it. -/
def DurInv (base bb d : Nat) (P : PD) (A : Option Addr) (n c : Nat) (R : List RE) (vs : Array Value) (F : Nat → Prop) (w : World) : Prop := DS w base d P F ∧ RS w F A n c R ∧ Row w bb 38 vs ∧ ¬ F bb
section
variable {w w1 : World} {base bb d n c : Nat} {P P1 : PD} {A : Option Addr} {R : List RE} {vs : Array Value} {F : Nat → Prop}
theorem DurInv.ext (h : DurInv base bb d P A n c R vs F w) (hE : Ext w w1) : DurInv base bb d P A n c R vs F w1 := ⟨h.1.ext hE, h.2.1.ext hE, h.2.2.1.ext hE, h.2.2.2⟩
theorem DurInv.next (h : DurInv base bb d P A n c R vs F w) (hn : DNext base d F w P1 w1) : ∃ F1, DurInv base bb d P1 A n c R vs F1 w1 ∧ Chg F w w1 := by
  obtain ⟨F1, h1, h2, h3⟩ := hn
  exact ⟨F1, ⟨h1, h.2.1.chg h2 (fun k _ hk => hk) fun k hk hk2 => (h3 k hk2).elim id fun e => by omega, h2.row h.2.2.1 h.2.2.2, fun hf => (h3 bb hf).elim h.2.2.2 fun e => by have := h.2.2.1.lt; omega⟩, h2⟩
end
end Go.Proofs.Yticnncgbfpgeaaa

/- loggialaw06: DiskDurable walked. -/
namespace Go.Proofs.Yticnncgbfpgeaaa
open Go.RowKit Go.Maps

set_option maxRecDepth 100000 in
set_option maxHeartbeats 8000000 in
theorem durs_any (os : List Opr) (OA : Option Addr) (n c : Nat) (KA GA : Option Addr) (kn kc gn gc : Nat) (keep again : List Int) (w : World) (h : OS w w.heap.size OA n c os) (hk : KS w w.heap.size KA kn kc keep) (hg : KS w w.heap.size GA gn gc again) :
    Calls Try.prog 5 #[.slice OA n c, .slice KA kn kc, .slice GA gn gc] w fun e w' => e = .returned (.bool true) ∧ Ext w w' := by
  have haw : ∀ W : World, Calls Try.prog 9 #[] W fun e w' => e = .returned (.bool true) ∧ Ext W w' := awake_any
  replace haw := hide haw
  have hmost := h.most
  have hkm := hk.most
  have hgm := hg.most
  have hkc := hk.cap
  have hgc := hg.cap
  obtain ⟨kn1, keep1, hk1, hkn1, hkrun⟩ : ∃ kn1 keep1, KS w w.heap.size KA kn1 kc keep1 ∧ kn1 ≤ 20 ∧ (kn ≤ 20 ∧ kn1 = kn ∨ 20 < kn ∧ kn1 = 20 ∧ ∀ W, (Instr.sliceAt 39 (.slice KA kn kc) none (some (.int .i64 20)) none).run Try.prog W = .ok (.slice KA 20 kc) W) := by
    by_cases h20 : kn ≤ 20
    · exact ⟨kn, keep, hk, h20, .inl ⟨h20, rfl⟩⟩
    · exact ⟨20, keep.take 20, hk.take 20 (by omega), by omega, .inr ⟨by omega, rfl, run_head (t := 39) (e := 3) (k := 20) Try.underlying39 (fun W => by kernel_rfl) (by omega) fun x hx => (hk.away (fun e => by have := hk.len; rw [e] at this; simp at this; omega) x hx).2⟩⟩
  obtain ⟨gn1, again1, hg1, hgn1, hgrun⟩ : ∃ gn1 again1, KS w w.heap.size GA gn1 gc again1 ∧ gn1 ≤ 20 ∧ (gn ≤ 20 ∧ gn1 = gn ∨ 20 < gn ∧ gn1 = 20 ∧ ∀ W, (Instr.sliceAt 39 (.slice GA gn gc) none (some (.int .i64 20)) none).run Try.prog W = .ok (.slice GA 20 gc) W) := by
    by_cases h20 : gn ≤ 20
    · exact ⟨gn, again, hg, h20, .inl ⟨h20, rfl⟩⟩
    · exact ⟨20, again.take 20, hg.take 20 (by omega), by omega, .inr ⟨by omega, rfl, run_head (t := 39) (e := 3) (k := 20) Try.underlying39 (fun W => by kernel_rfl) (by omega) fun x hx => (hg.away (fun e => by have := hg.len; rw [e] at this; simp at this; omega) x hx).2⟩⟩
  replace hkrun := hide hkrun
  replace hgrun := hide hgrun
  have h1 := new_yes w.heap.size 0 w (by omega) (Nat.le_refl _)
  replace h1 := hide h1
  go_enter Try.func5, Try.ntmps5
  go_wp2_with fail
  refine h1.out.mono ?_
  rintro e w1 ⟨d, F, rfl, hS1, hF1, hE1⟩
  go_wp2_with fail
  refine (haw.out _).mono ?_
  rintro e w3 ⟨rfl, hE3⟩
  go_wp2_with fail
  have hE03 : Ext w w3 := hE1.trans hE3
  obtain ⟨W, hW⟩ : ∃ W, W = w3.alloc (.cells #[.pointer (some ⟨d, 0, none⟩), .slice none 0 0, .int .i64 0, .int .i64 0, .bool false] 38) := ⟨_, rfl⟩
  rw [← hW]
  have hEW : Ext w3 W := by rw [hW]; exact (Ext.refl w3).alloc _
  have hE0 : Ext w W := hE03.trans hEW
  have hS3 : DS w3 w.heap.size d ⟨[], 0, 0, false⟩ F := hS1.ext hE3
  have hB0 : BS W w.heap.size w3.heap.size d ⟨[], 0, 0, false⟩ F (fun k => k = w3.heap.size) := ⟨hS3.ext hEW, hE03.size, hS3.not_old (Nat.le_refl _), rfl, fun k hk => by subst hk; rw [hW, size_alloc]; omega, none, 0, 0, [], by rw [hW]; exact Row.new _ _ _, RS.nil _ _, rfl⟩
  have hN0 : Nm ⟨[], 0, 0, false⟩ := nofun
  clear hW
  obtain ⟨bb, hbb⟩ : ∃ bb, bb = w3.heap.size := ⟨_, rfl⟩
  rw [← hbb] at hB0 ⊢
  clear hbb
  go_loopw [10] (fun s10 wr => ∃ (i : Nat) (P : PD) (F : Nat → Prop) (d' : Nat), s10 = .int .i64 i ∧ i ≤ n ∧ i ≤ 40 ∧ Hid (BS wr w.heap.size bb d' P F (fun k => k = bb)) ∧ Hid (Nm P) ∧ Ext w wr) (fun s10 _ => 40 - (intOf s10).toNat)
  case atStart => exact ⟨0, _, F, d, rfl, by omega, by omega, hide hB0, hide hN0, hE0⟩
  case round =>
    obtain ⟨i, P, F', d', rfl, hi, hi6, hB, hN, hE⟩ := hrel
    clear hB0 hN0 hE0 hS3 hS1 hEW
    go_upto_region 6 with (fail)
    go_cut [42] from 35 to 51 (fun s42 wx => s42 = .bool (decide (i < n ∧ i < 40)) ∧ wx = wr)
    case first =>
      by_cases hin : i < n
      · by_cases h60 : i < 40
        · have hd : decide (i < n ∧ i < 40) = true := decide_eq_true ⟨hin, h60⟩
          go_wp2_with fail
          go_meet
          case rel => exact ⟨by rw [hd, decide_eq_true (show (i : Int) < 40 by omega)], rfl⟩
        · have hd : decide (i < n ∧ i < 40) = false := decide_eq_false fun hh => h60 hh.2
          go_wp2_with fail
          go_meet
          case rel => exact ⟨by rw [hd, decide_eq_false (show ¬ (i : Int) < 40 by omega)], rfl⟩
      · have hd : decide (i < n ∧ i < 40) = false := decide_eq_false fun hh => hin hh.1
        go_wp2_with fail
        go_meet
        case rel => exact ⟨by rw [hd], rfl⟩
    case rest =>
      obtain ⟨hs42, hwc⟩ := hcut
      by_cases hcont : i < n ∧ i < 40
      · rw [decide_eq_true hcont] at hs42
        subst hs42 hwc
        obtain ⟨hin, h60⟩ := hcont
        obtain ⟨g, s, o, rfl, hom, k0, k1, k2, k3, k4, k5, k6⟩ := (h.ext hE).at_ hin
        have hok := (h.ext hE).ok o hom
        have hsh := short_any w.heap.size o wc hok
        obtain ⟨hok2, l1, l2, l3, l4⟩ := hok.short
        obtain ⟨o2, ho2⟩ : ∃ o2, o2 = o.short := ⟨_, rfl⟩
        rw [← ho2] at hsh hok2 l1 l2 l3 l4
        clear ho2
        unfold Opr.val str at hsh
        unfold str at k1 k2
        replace hsh := hide hsh
        go_wp2_with fail
        refine hsh.out.mono ?_
        rintro e w4 ⟨rfl, hE4⟩
        have hst := step_any w.heap.size bb d' P F' _ o2 w4 (hB.out.ext hE4) (hok2.ext hE4) (by omega) (by omega)
        unfold Opr.val str at hst
        replace hst := hide hst
        go_wp2_with fail
        refine hst.out.mono ?_
        rintro e w5 ⟨rfl, hSP⟩
        have hEx5 := hSP.to_ext (hB.out.ext hE4) (hE.trans hE4) rfl
        obtain ⟨d5, F5, hB5, hc5, hF5⟩ := hSP
        replace hc5 := hide hc5
        go_wp2_with fail
        go_roundw
        case rel => first | exact ⟨i + 1, stepM P o2, F5, d5, by go_num, by omega, by omega, hide hB5, hide (hN.out.step o2), hEx5⟩ | ((repeat apply Exists.intro); exact ⟨⟨i + 1, stepM P o2, F5, d5, by go_num, by omega, by omega, hide hB5, hide (hN.out.step o2), hEx5⟩, rfl⟩)
        case measure => simp [intOf]; omega
      · rw [decide_eq_false hcont] at hs42
        subst hs42 hwc
        clear hcont hi hi6 h
        obtain ⟨A, rn, rc, R, hrb, hR, hP⟩ := hB.out.ref
        have hSur : Sure P := by
          intro f hf
          rw [← hP] at hf
          obtain ⟨r, hr, rfl⟩ := List.mem_map.1 hf
          exact ⟨(hR.ok r hr).sure, (hR.ok r hr).len⟩
        have hUp := hB.out.disk.upL
        have hrl := hide hR.len
        have hmany := hR.many
        have b0 := hrb.cell 0 rfl
        have b1 := hrb.cell 1 rfl
        have hrs := ks_restart hB.out.disk (hk1.ext hE) (by omega)
        have hown := hB.out.own
        have hi0 : DurInv w.heap.size bb d' P A rn rc R #[.pointer (some ⟨d', 0, none⟩), .slice A rn rc, .int .i64 P.quota, .int .i64 P.armed, .bool P.stopped] F' wc := ⟨hB.out.disk, hR.chg (Chg.refl (fun _ => False) _) (fun _ _ h => h.elim) fun k _ hk => .inl hk, hrb, hown⟩
        obtain ⟨vs, hvs⟩ : ∃ vs : Array Value, vs = #[.pointer (some ⟨d', 0, none⟩), .slice A rn rc, .int .i64 P.quota, .int .i64 P.armed, .bool P.stopped] := ⟨_, rfl⟩
        have hv0 : vs[0]? = some (.pointer (some ⟨d', 0, none⟩)) := by rw [hvs]; rfl
        rw [← hvs] at hi0
        replace hi0 := hide hi0
        replace hrs := hide hrs
        replace hSur := hide hSur
        replace hUp := hide hUp
        replace hP := hide hP
        clear hvs hR hrb
        go_upto_if 59 with (fail)
        go_cut [1] (fun s1 wx => s1 = .slice KA kn1 kc ∧ wx = wc)
        case first =>
          rcases hkrun.out with ⟨c1, e1⟩ | ⟨c1, e1, r1⟩
          all_goals
            subst e1
            go_wp2_with fail
            go_meet
            case rel => exact ⟨rfl, rfl⟩
        case rest =>
          obtain ⟨rfl, hwc2⟩ := hcut
          subst hwc2
          go_upto_if 64 with (fail)
          go_cut [2] (fun s2 wx => s2 = .slice GA gn1 gc ∧ wx = wc)
          case first =>
            rcases hgrun.out with ⟨c2, e2⟩ | ⟨c2, e2, r2⟩
            all_goals
              subst e2
              go_wp2_with fail
              go_meet
              case rel => exact ⟨rfl, rfl⟩
          case' rest => obtain ⟨rfl, hwc3⟩ := hcut
          case' rest => subst hwc3
          go_wp2_with fail
          refine hrs.out.mono ?_
          rintro e w2 ⟨rfl, hn2⟩
          obtain ⟨F2, hi2, hc2⟩ := hi0.out.next hn2
          have hE2 : Ext w w2 := hE.chg hc2 fun i hi hf => by have := hB.out.disk.base_le hf; omega
          obtain ⟨P1, hP1⟩ : ∃ P1, P1 = restartM P keep1 := ⟨_, rfl⟩
          rw [← hP1] at hi2
          have hag : restartM P1 again1 = P1 := by rw [hP1]; exact restart_again hSur.out _ _
          have hst1 : P1.stopped = false := by rw [hP1]; rfl
          have hll : (listM P1).length = rn := by
            have h1 : P1.L = keptM P.L keep1 := by rw [hP1]; rfl
            unfold listM
            rw [hst1, if_neg (by decide), List.length_map, h1, pd_keptM_length, ← hP.out, List.length_map, hrl.out]
          have hrd : ∀ (i : Nat) (r : RE), R[i]? = some r → ∃ m, r.sure ≤ m ∧ m ≤ r.b.length ∧ readM P1 r.name 0 67108864 = (r.b.take m, 0) ∧ durM P1 r.name = m := by
            intro i r hr
            have : P.L[i]? = some r.pl := by rw [← hP.out, List.getElem?_map, hr]; rfl
            rw [hP1]
            exact pd_left_read hN.out hUp.out hSur.out keep1 this
          replace hag := hide hag
          replace hll := hide hll
          replace hrd := hide hrd
          replace hv0 := hide hv0
          clear hst1 hP1 hP hUp hSur hrs hi0 hn2 b0 b1 hown hc2 hN hkrun hgrun
          go_wp2_with fail
          go_loopw [12] (fun s12 wq => ∃ (i : Nat) (Fx : Nat → Prop), s12 = .int .i64 i ∧ i ≤ rn ∧ Hid (DurInv w.heap.size bb d' P1 A rn rc R vs Fx wq) ∧ Ext w wq) (fun s12 _ => rn - (intOf s12).toNat)
          case atStart => exact ⟨0, F2, rfl, by omega, hide hi2, hE2⟩
          case round =>
            obtain ⟨i, Fx, rfl, hi, hI, hEq⟩ := hrel
            obtain ⟨wq, rfl⟩ : ∃ wq, wq = wr := ⟨_, rfl⟩
            clear hi2 hE2 hE hB
            have q0 := hI.out.2.2.1.cell 0 hv0.out
            by_cases hin : i < rn
            · have hb1 : decide ((i : Int) < (rn : Int)) = true := decide_eq_true (by omega)
              have hb2 : decide (i < rn) = true := decide_eq_true hin
              obtain ⟨g, o, r, rfl, hr, k0, k1, k2⟩ := hI.out.2.1.at_ hin
              have hok := hI.out.2.1.ok r (List.mem_of_getElem? hr)
              obtain ⟨m, hm1, hm2, hra, hdm⟩ := hrd.out i r hr
              have hlen := hok.len
              have hnm := hok.name
              obtain ⟨x, hx⟩ : ∃ x, x = r.b.take m := ⟨_, rfl⟩
              have hxl : x.length = m := by rw [hx, List.length_take]; omega
              have hread : ∀ w0 Fy, DS w0 w.heap.size d' P1 Fy → Calls Try.prog 21 #[.pointer (some ⟨d', 0, none⟩), str r.name, .int .i64 0, .int .i64 67108864] w0 fun e w' => ∃ A2 c2, e = .returned (.tuple #[.slice A2 m c2, .int .i64 0]) ∧ Hid (Buf w' w0.heap.size 5 A2 m c2 (x.map B8)) ∧ Ext w0 w' := by
                intro w0 Fy h0
                refine (read_any w.heap.size d' P1 Fy r.name 0 67108864 w0 h0 hnm (by omega) (by omega) (by omega) (by omega)).mono ?_
                rintro e w' ⟨A2, k2, c2, he, hb, hk, hE⟩
                rw [hra] at he hb hk
                simp only at he hb hk
                rw [← hx] at hb hk
                rw [hxl] at hk
                subst hk
                exact ⟨A2, c2, he, hide hb, hE⟩
              have hrd1 := hread wq.drew Fx (hI.out.1.ext (Ext.refl wq).drew)
              have hbg : ∀ w0, Calls Try.prog 22 #[str r.b, str x] w0 fun e w' => e = .returned (.bool true) ∧ w' = w0 := fun w0 => by rw [hx]; exact begins_any r.b m w0 (by omega)
              unfold str at hrd1 k0 hbg
              replace hrd1 := hide hrd1
              replace hread := hide hread
              replace hbg := hide hbg
              replace hr := hide hr
              replace hra := hide hra
              replace hdm := hide hdm
              replace hx := hide hx
              replace hxl := hide hxl
              go_wp2_with fail
              refine wp_region_text follows (by kernel_rfl) (by kernel_rfl) (fun K hK => ?_)
              go_wp2_with fail
              refine hrd1.out.mono ?_
              rintro e w2 ⟨A2, c2, rfl, hb2, hE2⟩
              have hE2' : Ext wq w2 := (Ext.refl wq).drew.trans hE2
              have j0 := hE2'.cell q0
              have j1 := hE2'.cell k0
              have j2 := hE2'.cell k1
              have j3 := hE2'.cell k2
              have hI2 := hide (hI.out.ext hE2')
              go_wp2_with fail
              refine ⟨by kernel_rfl, ?_⟩
              go_upto_region 19 with (fail)
              go_cut [130] from 73 to 158 (fun s130 wv => s130 = .bool false ∧ Ext w2 wv)
              case first =>
                have hs1 : ∀ w0, Ext w2 w0 → (convert 27 9 (.slice A2 m c2)).run Try.prog w0 = .ok (.string ⟨x.toArray⟩) w0 := fun w0 h0 => run_str (l := x) (w := w0) ((Chg.of_ext h0 (fun _ => False)).cells hb2.out.cells fun _ _ h => h) _ c2 hxl.out.symm
                have hs2 : ∀ w0, Ext w2 w0 → (convert 27 9 (.slice r.A r.b.length r.c)).run Try.prog w0 = .ok (.string ⟨r.b.toArray⟩) w0 := fun w0 h0 => run_str (l := r.b) (w := w0) ((Chg.of_ext (hE2'.trans h0) (fun _ => False)).cells hok.bytes fun _ _ h => h) _ r.c rfl
                have hdur : ∀ w0, (w0.cell? ⟨bb, 0, none⟩ = some (.pointer (some ⟨d', 0, none⟩)) ∧ w0.cell? ⟨g, o + i * 3, none⟩ = some (.string ⟨r.name.toArray⟩) ∧ w0.cell? ⟨g, o + i * 3 + 1, none⟩ = some (.slice r.A r.b.length r.c) ∧ w0.cell? ⟨g, o + i * 3 + 2, none⟩ = some (.int .i64 r.sure) ∧ Ext w2 w0) → Calls Try.prog 23 #[.pointer (some ⟨d', 0, none⟩), .string ⟨r.name.toArray⟩] w0 fun e w' => e = .returned (.int .i64 m) ∧ w' = w0 := fun w0 h0 => by
                  have := durable_any w.heap.size d' P1 Fx r.name w0 (hI2.out.1.ext h0.2.2.2.2) hnm
                  rw [hdm.out] at this
                  exact this
                have hS0 : w2.drew.cell? ⟨bb, 0, none⟩ = some (.pointer (some ⟨d', 0, none⟩)) ∧ w2.drew.cell? ⟨g, o + i * 3, none⟩ = some (.string ⟨r.name.toArray⟩) ∧ w2.drew.cell? ⟨g, o + i * 3 + 1, none⟩ = some (.slice r.A r.b.length r.c) ∧ w2.drew.cell? ⟨g, o + i * 3 + 2, none⟩ = some (.int .i64 r.sure) ∧ Ext w2 w2.drew := ⟨j0, j1, j2, j3, (Ext.refl w2).drew⟩
                have hS1 : w2.cell? ⟨bb, 0, none⟩ = some (.pointer (some ⟨d', 0, none⟩)) ∧ w2.cell? ⟨g, o + i * 3, none⟩ = some (.string ⟨r.name.toArray⟩) ∧ w2.cell? ⟨g, o + i * 3 + 1, none⟩ = some (.slice r.A r.b.length r.c) ∧ w2.cell? ⟨g, o + i * 3 + 2, none⟩ = some (.int .i64 r.sure) ∧ Ext w2 w2 := ⟨j0, j1, j2, j3, Ext.refl w2⟩
                have hms : ¬ ((m : Int) < (r.sure : Int)) := by omega
                have hms3 : decide (m < r.sure) = false := decide_eq_false (by omega)
                have hms4 : ¬ m < r.sure := by omega
                have hms2 : decide ((m : Int) < (r.sure : Int)) = false := decide_eq_false hms
                replace hS0 := hide hS0
                replace hS1 := hide hS1
                replace hdur := hide hdur
                go_region_held3 (fun w' => w'.cell? ⟨bb, 0, none⟩ = some (.pointer (some ⟨d', 0, none⟩)) ∧ w'.cell? ⟨g, o + i * 3, none⟩ = some (.string ⟨r.name.toArray⟩) ∧ w'.cell? ⟨g, o + i * 3 + 1, none⟩ = some (.slice r.A r.b.length r.c) ∧ w'.cell? ⟨g, o + i * 3 + 2, none⟩ = some (.int .i64 r.sure) ∧ Ext w2 w') (first | exact hS0.out | exact hS1.out | exact ‹_›) (first | (go_at_call 22; refine (hbg.out _).mono ?_; rintro e w3 ⟨rfl, rfl⟩) | (go_at_call 23; refine (hdur.out _ ‹_›).mono ?_; rintro e w3 ⟨rfl, rfl⟩))
                go_wp2_with fail
                go_meet
                case rel => exact ⟨rfl, (Ext.refl w2).drew⟩
              case rest =>
                obtain ⟨hs130, hEv⟩ := hcut
                subst hs130
                obtain ⟨wv, rfl⟩ : ∃ wv, wv = wc := ⟨_, rfl⟩
                have hIv := hI2.out.ext hEv
                have hEwv : Ext w wv := (hEq.trans hE2').trans hEv
                have hrs2 := ks_restart hIv.1 (hg1.ext hEwv) (by omega)
                rw [hag.out] at hrs2
                have m0 := hEv.cell j0
                clear q0 k0 k1 k2 j0 j1 j2 j3
                replace hrs2 := hide hrs2
                replace hI2 := hide hI2
                go_wp2_with fail
                refine hrs2.out.mono ?_
                rintro e w5 ⟨rfl, hn5⟩
                obtain ⟨F5, hI5, hc5⟩ := hIv.next hn5
                have hE5 : Ext w w5 := hEwv.chg hc5 fun i hi hf => by have := hIv.1.base_le hf; omega
                have hx5 : Bs w5 A2 x := hc5.cells ((Chg.of_ext hEv (fun _ => False)).cells hb2.out.cells fun _ _ h => h) fun a ha hf => by
                  have h1 := hb2.out.base_le a ha
                  have h2 := hI.out.1.lt hf
                  have h3 : wq.drew.heap.size = wq.heap.size := rfl
                  omega
                obtain ⟨g2, o2, r2, he2, hr2, n0, n1, n2⟩ := hI5.2.1.at_ hin
                obtain rfl : r = r2 := by have := hr.out; rw [hr2] at this; exact (Option.some.inj this).symm
                cases he2
                have n3 := hI5.2.2.1.cell 0 hv0.out
                have hrd2 := hread.out w5.drew F5 (hI5.1.ext (Ext.refl w5).drew)
                unfold str at hrd2 n0
                replace hrd2 := hide hrd2
                replace hc5 := hide hc5
                replace hn5 := hide hn5
                go_wp2_with fail
                refine wp_region_text follows (by kernel_rfl) (by kernel_rfl) (fun K2 hK2 => ?_)
                go_wp2_with fail
                refine hrd2.out.mono ?_
                rintro e w6 ⟨A3, c3, rfl, hb3, hE6⟩
                have hE6' : Ext w5 w6 := (Ext.refl w5).drew.trans hE6
                have hs3 : ∀ w0, Ext w6 w0 → (convert 27 9 (.slice A2 m c2)).run Try.prog w0 = .ok (.string ⟨x.toArray⟩) w0 := fun w0 h0 => run_str (l := x) (w := w0) ((Chg.of_ext (hE6'.trans h0) (fun _ => False)).cells hx5 fun _ _ h => h) _ c2 hxl.out.symm
                have hs4 : ∀ w0, Ext w6 w0 → (convert 27 9 (.slice A3 m c3)).run Try.prog w0 = .ok (.string ⟨x.toArray⟩) w0 := fun w0 h0 => run_str (l := x) (w := w0) ((Chg.of_ext h0 (fun _ => False)).cells hb3.out.cells fun _ _ h => h) _ c3 hxl.out.symm
                have hs5 := hs3 w6 (Ext.refl _)
                have hs6 := hs4 w6 (Ext.refl _)
                go_wp2_with fail
                refine ⟨by kernel_rfl, ?_⟩
                go_wp2_with fail
                go_roundw
                case rel => first | exact ⟨i + 1, F5, by go_num, by omega, hide (hI5.ext hE6'), hE5.trans hE6'⟩ | ((repeat apply Exists.intro); exact ⟨⟨i + 1, F5, by go_num, by omega, hide (hI5.ext hE6'), hE5.trans hE6'⟩, rfl⟩)
                case measure => simp [intOf]; omega
            · have hb1 : decide ((i : Int) < (rn : Int)) = false := decide_eq_false (by omega)
              have hb2 : decide (i < rn) = false := decide_eq_false hin
              have hli := list_any w.heap.size d' P1 Fx wq hI.out.1
              rw [hll.out] at hli
              replace hli := hide hli
              go_wp2_with fail
              refine hli.out.mono ?_
              rintro e w6 ⟨A5, n5, c5, rfl, h5, -, -, -, -, hE6⟩
              subst h5
              go_wp2_with fail
              go_ret
              exact ⟨rfl, hEq.trans hE6⟩
end Go.Proofs.Yticnncgbfpgeaaa

