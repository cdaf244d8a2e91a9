/- loggiaref06: Append. -/
import Derived.Test.YtaoolpnnomhnoaaGreatDoorS07
import Derived.Deep.RegionHeld3
import Derived.Deep.QuietTactic
import Derived.BigQuiet
import Derived.Test.YtaoolpnnomhnoaaGreatDoorS04
import Derived.Test.YtaoolpnnomhnoaaGreatDoorS05
import Derived.Test.YtaoolpnnomhnoaaGreatDoorS02
import Derived.Deep.Slices
import Derived.Deep.Fields
import Derived.ChangeSame
import Derived.HandedShaped
import Derived.Handed
set_option linter.unusedSimpArgs false
set_option linter.unusedVariables false
namespace Go.Proofs.YtaoolpnnomhnoaaGreatDoor
open Go.RowKit Go.Maps

/-- The file that Append has found, or made. -/
structure RGot (W : World) (N : Nat → Prop) (P : PD) (R : List RE) (s : List UInt8) (ok : Bool) (f : RE) : Prop where
  name : f.name = s
  has : ROk W N f
  here : ok = true → f ∈ R ∧ P.find s = some f.pl
  away : ok = false → P.find s = none ∧ f.b = [] ∧ f.sure = 0
theorem RGot.plain {W : World} {N : Nat → Prop} {P : PD} {R : List RE} {s : List UInt8} {ok : Bool} {f : RE} (h : RGot W N P R s ok f) (hP : R.map RE.pl = P.L) (hn : namedM s = true) (hst : P.stopped = false) (b : List UInt8) :
    appendM P s b = if ok = false ∧ 1024 ≤ R.length then (P, 3) else putM P (s, f.b, f.sure) b := by
  unfold appendM
  rw [hn, hst]
  have hl : P.L.length = R.length := by rw [← hP, List.length_map]
  cases ok with
  | true =>
    rw [(h.here rfl).2]
    have : f.pl = (s, f.b, f.sure) := by unfold RE.pl; rw [h.name]
    rw [this]
    simp
  | false =>
    obtain ⟨h1, h2, h3⟩ := h.away rfl
    rw [h1, hl, h2, h3]
    by_cases hc : 1024 ≤ R.length
    · simp [hc]
    · simp [hc]
def RCut (w1 : World) (bF : Nat) (N : Nat → Prop) (P : PD) (R : List RE) (s : List UInt8) (ok : Bool) (f : RE) (wx : World) : Prop :=
  RGot wx N P R s ok f ∧ Row wx bF 94 #[.string ⟨s.toArray⟩, .slice f.A f.b.length f.c, .int .i64 f.sure] ∧ Chg (fun k => k = bF) w1 wx
theorem own_lt2 {w : World} {base : Nat} {e : TypeId} {size n c : Nat} {A : Option Addr} {xs : List Value} (h : w.ownsRow base e size (.slice A n c) n xs) : ∀ a, A = some a → base ≤ a.block ∧ a.block < w.heap.size ∧ a.spot = none := by
  rintro a rfl
  rcases h.2 with ⟨hv, _⟩ | ⟨g, cap, cur, hv, hb, hg, _⟩
  · cases hv
  · cases hv
    exact ⟨hb, (Array.getElem?_eq_some_iff.1 hg).1, rfl⟩
theorem own_cap2 {w : World} {base : Nat} {e : TypeId} {size n c : Nat} {A : Option Addr} {xs : List Value} (ho : w.ownsRow base e size (.slice A n c) n xs) : n ≤ c := by
  rcases ho.2 with ⟨hv, h0⟩ | ⟨g, cap, cur, hv, hb, hg, hnc, _⟩
  · cases hv; omega
  · cases hv; exact hnc
set_option maxRecDepth 100000 in
set_option maxHeartbeats 4000000 in
theorem rappend_good (N : Nat → Prop) (A : Option Addr) (n c : Nat) (P : PD) (R : List RE) (s b : List UInt8) (B : Option Addr) (bn bc : Nat) (w : World) (h : RS w N A n c R) (hP : R.map RE.pl = P.L) (hN : ∀ k, N k → k < w.heap.size) (hs : s.length ≤ 9223372036854775807) (ha : P.armed ≤ 9223372036854775807)
    (hb : Bs w B b) (hbn : bn = b.length) (hbn2 : bn ≤ 1073741824) (hqb : P.quota ≤ 9223372036854775807) (hnmd : namedM s = true) (hst : P.stopped = false) :
    Calls Tryz.prog 40 #[rdisk A n c P.quota P.armed P.stopped, str s, .slice B bn bc] w (RNext N (appendM P s b) w) := by
  obtain ⟨q, hq⟩ : ∃ q, q = P.quota := ⟨_, rfl⟩
  obtain ⟨a, ha'⟩ : ∃ q, q = P.armed := ⟨_, rfl⟩
  rw [← hq, ← ha', hst]
  rw [← ha'] at ha
  rw [← hq] at hqb
  obtain ⟨W0, hW0⟩ : ∃ W0, W0 = (w.alloc (.cells #[.slice A n c, .int .i64 q, .int .i64 a, .bool false] 44)).alloc (.cells #[.slice none 0 0, .int .i64 0, .int .i64 0, .bool false] 44) := ⟨_, rfl⟩
  obtain ⟨W, hW⟩ : ∃ W, W = W0.alloc (.cells #[.string ⟨s.toArray⟩, .slice none 0 0, .int .i64 0] 94) := ⟨_, rfl⟩
  have hE0 : Ext w W0 := by rw [hW0]; exact ((Ext.refl w).alloc _).alloc _
  have hEo : Ext W0 W := by rw [hW]; exact (Ext.refl W0).alloc _
  have hE := hE0.trans hEo
  have hW0s : W0.heap.size = w.heap.size + 2 := by rw [hW0, size_alloc, size_alloc]
  have hWs : W.heap.size = w.heap.size + 3 := by rw [hW, size_alloc, hW0s]
  have hd : Row W w.heap.size 44 #[.slice A n c, .int .i64 q, .int .i64 a, .bool false] := by
    refine Row.ext ?_ hEo
    rw [hW0]
    exact (Row.new w _ _).alloc _
  have hr2 : Row W (w.heap.size + 1) 44 #[.slice none 0 0, .int .i64 0, .int .i64 0, .bool false] := by
    have := Row.new (w.alloc (.cells #[.slice A n c, .int .i64 q, .int .i64 a, .bool false] 44)) 44 #[.slice none 0 0, .int .i64 0, .int .i64 0, .bool false]
    rw [size_alloc] at this
    refine Row.ext ?_ hEo
    rw [hW0]
    exact this
  obtain ⟨bF, hbF⟩ : ∃ bF, bF = W0.heap.size := ⟨_, rfl⟩
  have hbFs : bF = w.heap.size + 2 := by rw [hbF, hW0s]
  have hfr : Row W bF 94 #[.string ⟨s.toArray⟩, .slice none 0 0, .int .i64 0] := by
    rw [hW, hbF]
    exact Row.new W0 _ _
  obtain ⟨N2, hN2⟩ : ∃ N2 : Nat → Prop, N2 = fun k => N k ∨ (w.heap.size ≤ k ∧ k < w.heap.size + 3) := ⟨_, rfl⟩
  have hsub : ∀ k, k < w.heap.size → N2 k → N k := by
    intro k hk hn
    rw [hN2] at hn
    rcases hn with hn | hn
    · exact hn
    · omega
  have hN2s : ∀ k, N2 k → k < W.heap.size := by
    intro k hn
    rw [hN2] at hn
    rcases hn with hn | hn
    · have := hN k hn
      omega
    · rw [hWs]; omega
  have hN2i : ∀ k, k = w.heap.size ∨ k = w.heap.size + 1 ∨ k = bF → N2 k := by
    intro k hk
    rw [hN2]
    exact .inr (by omega)
  have hRW : RS W N2 A n c R := h.chg (Chg.of_ext hE (fun _ => False)) (fun _ _ h => h.elim) hsub
  have hnm := rnamed_any s W0 hs
  rw [hnmd] at hnm
  have hfa := rfind_any N2 A n c q a false R s W hRW
  have hW0x := hide hW0.symm
  have hWx := hide hW.symm
  clear hW0 hW
  have d0 : W0.cell? ⟨w.heap.size, 3, none⟩ = some (.bool false) := by
    have := hd.cell 3 rfl
    rw [hW0x.out] at *
    have h2 := World.cell?_of_block (a := ⟨w.heap.size, 3, none⟩) (Below.block hEo w.heap.size (by rw [hW0s]; omega))
    rw [← h2]
    exact this
  have e0 : W.cell? ⟨w.heap.size, 0, none⟩ = some (.slice A n c) := hd.cell 0 rfl
  have e1 : W.cell? ⟨w.heap.size, 1, none⟩ = some (.int .i64 q) := hd.cell 1 rfl
  have e2 : W.cell? ⟨w.heap.size, 2, none⟩ = some (.int .i64 a) := hd.cell 2 rfl
  have e3 : W.cell? ⟨w.heap.size, 3, none⟩ = some (.bool false) := hd.cell 3 rfl
  obtain ⟨ix, hix⟩ : ∃ ix, ix = (rfind R s).getD 0 := ⟨_, rfl⟩
  obtain ⟨ok, hok⟩ : ∃ ok, ok = (rfind R s).isSome := ⟨_, rfl⟩
  rw [← hix, ← hok] at hfa
  unfold rdisk str at hfa ⊢
  unfold str at hnm
  replace hfa := hide hfa
  replace hnm := hide hnm
  replace hW0s := hide hW0s
  replace hWs := hide hWs
  replace hix := hide hix
  replace hok := hide hok
  replace hbn := hide hbn
  replace hq := hide hq
  replace ha' := hide ha'
  replace hst := hide hst
  replace hnmd := hide hnmd
  go_enter Tryz.func40, Tryz.ntmps40
  go_wp2_with fail
  rw [hW0x.out]
  refine hnm.out.mono ?_
  rintro e w1 ⟨rfl, hw1⟩
  replace hw1 := hw1.symm
  subst hw1
  have hbFy := hbF.symm
  replace hbF := hide hbF
  replace hbFs := hide hbFs
  go_upto_region 6 with (fail)
  rw [hWx.out]
  replace hbFy := hide hbFy
  go_wp2_with fail
  refine hfa.out.mono ?_
  rintro e w1 ⟨rfl, hE1⟩
  have hd1 := hd.ext hE1
  have hf1 := hfr.ext hE1
  have hR1 := hRW.ext hE1
  have g0 : w1.cell? ⟨w.heap.size, 0, none⟩ = some (.slice A n c) := hd1.cell 0 rfl
  have p0 : w1.cell? ⟨bF, 0, none⟩ = some (.string ⟨s.toArray⟩) := hf1.cell 0 rfl
  have p1 : w1.cell? ⟨bF, 1, none⟩ = some (.slice none 0 0) := hf1.cell 1 rfl
  have p2 : w1.cell? ⟨bF, 2, none⟩ = some (.int .i64 0) := hf1.cell 2 rfl
  have q0 := hf1.free 0
  have q1 := hf1.free 1
  have q2 := hf1.free 2
  have hmany := h.many
  go_upto_if 28 with (fail)
  go_cut [] (fun wx => ∃ f0 : RE, RCut w1 bF N2 P R s ok f0 wx)
  case first =>
    rcases rfind_pl hP s with ⟨i, r, hf, hr, hn, hfd⟩ | ⟨hf, hfd⟩
    · have hok2 : ok = true := by rw [hok.out, hf]; rfl
      have hix2 : ix = i := by rw [hix.out, hf]; rfl
      subst hok2 hix2
      have hin : ix < n := by rw [h.len]; exact (List.getElem?_eq_some_iff.1 hr).1
      obtain ⟨g, o, r', hAg, hr', k0, k1, k2⟩ := hR1.at_ hin
      obtain rfl : r' = r := by rw [hr] at hr'; cases hr'; rfl
      subst hAg
      unfold str at k0
      have hrm := List.mem_of_getElem? hr
      have hokr := hR1.ok r' hrm
      replace hf := hide hf
      replace hr := hide hr
      replace hn := hide hn
      replace hfd := hide hfd
      clear hr'
      go_wp2_with fail
      go_meet
      case rel =>
        have hcx : Chg (fun k => k = bF) w1 (((w1.setCell ⟨bF, 0, none⟩ (.string ⟨r'.name.toArray⟩)).setCell ⟨bF, 1, none⟩ (.slice r'.A r'.b.length r'.c)).setCell ⟨bF, 2, none⟩ (.int .i64 r'.sure)) :=
          ((Chg.of_set (S := fun k => k = bF) w1 (a := ⟨bF, 0, none⟩) _ rfl).trans (Chg.of_set (S := fun k => k = bF) _ (a := ⟨bF, 1, none⟩) _ rfl) fun _ _ h => h).trans (Chg.of_set (S := fun k => k = bF) _ (a := ⟨bF, 2, none⟩) _ rfl) fun _ _ h => h
        refine ⟨r', ⟨hn.out, hokr.chg hcx (fun k _ hk => hN2i k (.inr (.inr hk))) (fun _ _ h => h), fun _ => ⟨hrm, hfd.out⟩, nofun⟩, ?_, hcx⟩
        rw [← hn.out]
        exact ((hf1.put 0 _).put 1 _).put 2 _
    · have hok2 : ok = false := by rw [hok.out, hf]; rfl
      subst hok2
      replace hf := hide hf
      replace hfd := hide hfd
      go_wp2_with fail
      go_meet
      case rel => exact ⟨⟨s, [], 0, none, 0⟩, ⟨rfl, ⟨.inl rfl, by simp, fun _ => rfl, nofun, by simp, hs, by simp⟩, nofun, fun _ => ⟨hfd.out, rfl, rfl⟩⟩, hf1, Chg.refl _ _⟩
  case rest =>
    obtain ⟨f0, hG, hfx, hcx⟩ := hcut
    obtain ⟨wx, rfl⟩ : ∃ wx, wx = wc := ⟨_, rfl⟩
    have hpl := hG.plain hP hnmd.out hst.out b
    rw [← h.len] at hpl
    have hEx : Ext w wx := (hE.trans hE1).chg hcx fun i hi hh => by rw [hbFs.out] at hh; omega
    have hdx : Row wx w.heap.size 44 #[.slice A n c, .int .i64 q, .int .i64 a, .bool false] := hcx.row hd1 (by rw [hbFs.out]; omega)
    have hrx : Row wx (w.heap.size + 1) 44 #[.slice none 0 0, .int .i64 0, .int .i64 0, .bool false] := hcx.row (hr2.ext hE1) (by rw [hbFs.out]; omega)
    have hRx : RS wx N2 A n c R := hR1.chg hcx (fun k _ hk => hN2i k (.inr (.inr hk))) (fun _ _ h => h)
    have c0 : wx.cell? ⟨w.heap.size, 0, none⟩ = some (.slice A n c) := hdx.cell 0 rfl
    have c1 : wx.cell? ⟨w.heap.size, 1, none⟩ = some (.int .i64 q) := hdx.cell 1 rfl
    have c2 : wx.cell? ⟨w.heap.size, 2, none⟩ = some (.int .i64 a) := hdx.cell 2 rfl
    have c3 : wx.cell? ⟨w.heap.size, 3, none⟩ = some (.bool false) := hdx.cell 3 rfl
    have x0 := hrx.cell 0 rfl
    have x1 := hrx.cell 1 rfl
    have x2 := hrx.cell 2 rfl
    have x3 := hrx.cell 3 rfl
    have y0 := hrx.free 0
    have y1 := hrx.free 1
    have y2 := hrx.free 2
    have y3 := hrx.free 3
    have f1x : wx.cell? ⟨bF, 1, none⟩ = some (.slice f0.A f0.b.length f0.c) := hfx.cell 1 rfl
    have hlen0 := hG.has.len
    obtain ⟨bl, hbl⟩ : ∃ x, x = f0.b.length := ⟨_, rfl⟩
    rw [← hbl] at f1x hlen0
    have done : ∀ (k : Nat) (wf : World), appendM P s b = (P, k) → Ext w wf → RNext N (appendM P s b) w (.returned (.tuple #[.agg #[.slice A n c, .int .i64 q, .int .i64 a, .bool false], .int .i64 k])) wf := by
      intro k wf hk hEf
      rw [hk, hq.out, ha'.out, ← hst.out]
      exact rnext_same h hP hEf
    replace done := hide done
    replace hbl := hide hbl
    clear g0 p0 p1 p2 q0 q1 q2 hd1 hf1 hR1 e0 e1 e2 e3 d0
    by_cases hm : ok = false ∧ 1024 ≤ n
    · rw [if_pos hm] at hpl
      obtain ⟨hok2, h2⟩ := hm
      subst hok2
      replace hpl := hide hpl
      go_wp2_with fail
      have hfin := tup_out hrx hEx (Nat.le_succ _) (A := A) (n := n) (c := c) (q := q) (a := a) (st := false)
      obtain ⟨wf, hwf⟩ : ∃ wf, wf = ((((wx.setCell ⟨w.heap.size + 1, 0, none⟩ (.slice A n c)).setCell ⟨w.heap.size + 1, 1, none⟩ (.int .i64 q)).setCell ⟨w.heap.size + 1, 2, none⟩ (.int .i64 a)).setCell ⟨w.heap.size + 1, 3, none⟩ (.bool false)) := ⟨_, rfl⟩
      rw [← hwf] at hfin ⊢
      obtain ⟨z0, z1, z2, z3, hEf, _⟩ := hfin
      exact bodyPost_ret (v := .tuple #[.agg #[.slice A n c, .int .i64 q, .int .i64 a, .bool false], .int .i64 3]) (by simp [results, Tryz.results40, go_sem, z0, z1, z2, z3]) rfl (done.out 3 wf hpl.out hEf)
    · rw [if_neg hm] at hpl
      unfold putM at hpl
      simp only [] at hpl
      rw [← hbl.out, ← hbn.out] at hpl
      replace hpl := hide hpl
      go_upto_region 9 with (fail)
      go_cut [41] (fun s41 wy => s41 = .bool false ∧ wy = wx)
      case first =>
        rcases (by cases ok <;> simp : ok = true ∨ ok = false) with hok2 | hok2
        · subst hok2
          go_wp2_with fail
          go_meet
          case rel => exact ⟨rfl, rfl⟩
        · subst hok2
          have hel2 : n < 1024 := by
            refine Nat.lt_of_not_le fun h => hm ⟨rfl, h⟩
          go_wp2_with fail
          go_meet
          case rel => exact ⟨congrArg Value.bool (decide_eq_false (by omega)), rfl⟩
      case rest =>
        obtain ⟨rfl, hwy⟩ := hcut
        have hwy3 := hwy.symm
        clear hwy
        subst hwy3
        by_cases hlong : 67108864 < bl + bn
        · have hpl2 := hpl.out
          rw [if_pos hlong] at hpl2
          replace hpl2 := hide hpl2
          go_wp2_with fail
          have hfin := tup_out hrx hEx (Nat.le_succ _) (A := A) (n := n) (c := c) (q := q) (a := a) (st := false)
          obtain ⟨wf, hwf⟩ : ∃ wf, wf = ((((wx.setCell ⟨w.heap.size + 1, 0, none⟩ (.slice A n c)).setCell ⟨w.heap.size + 1, 1, none⟩ (.int .i64 q)).setCell ⟨w.heap.size + 1, 2, none⟩ (.int .i64 a)).setCell ⟨w.heap.size + 1, 3, none⟩ (.bool false)) := ⟨_, rfl⟩
          rw [← hwf] at hfin ⊢
          obtain ⟨z0, z1, z2, z3, hEf, _⟩ := hfin
          exact bodyPost_ret (v := .tuple #[.agg #[.slice A n c, .int .i64 q, .int .i64 a, .bool false], .int .i64 2]) (by simp [results, Tryz.results40, go_sem, z0, z1, z2, z3]) rfl (done.out 2 wf hpl2.out hEf)
        · have hpl2 := hpl.out
          rw [if_neg hlong] at hpl2
          have hlong2 : bl + bn ≤ 67108864 := by omega
          obtain ⟨us, hus⟩ : ∃ us, us = usedP P.L := ⟨_, rfl⟩
          have husb : us ≤ 68719476736 := by
            rw [hus, ← hP]
            have := rused_bd h R.length
            rw [List.take_of_length_le (Nat.le_refl _), ← h.len] at this
            omega
          have hfull : fullM P bn = (decide (0 < q) && decide (0 < bn) && decide ((q : Int) - us < bn)) := by
            unfold fullM
            rw [hq.out, hus]
          have hcall : ∀ w0, (fun w' => w'.cell? ⟨w.heap.size, 0, none⟩ = some (.slice A n c) ∧ w'.cell? ⟨w.heap.size, 1, none⟩ = some (.int .i64 q) ∧ w'.cell? ⟨w.heap.size, 2, none⟩ = some (.int .i64 a) ∧ w'.cell? ⟨w.heap.size, 3, none⟩ = some (.bool false) ∧ Ext wx w') w0 → Calls Tryz.prog 75 #[rdisk A n c q a false] w0 fun e w' => e = .returned (.int .i64 us) ∧ Ext w0 w' := fun w0 hw0 => by
            have := rused_any N2 A n c q a false R w0 (hRx.ext hw0.2.2.2.2)
            rw [hP, ← hus] at this
            exact this
          unfold rdisk at hcall
          replace hus := hide hus
          replace hfull := hide hfull
          replace hpl2 := hide hpl2
          replace hcall := hide hcall
          go_upto_region 13 with (fail)
          go_cut [68] (fun s68 wy => s68 = .bool (fullM P bn) ∧ Ext wx wy)
          case first =>
            have hS0 : (fun w' => w'.cell? ⟨w.heap.size, 0, none⟩ = some (.slice A n c) ∧ w'.cell? ⟨w.heap.size, 1, none⟩ = some (.int .i64 q) ∧ w'.cell? ⟨w.heap.size, 2, none⟩ = some (.int .i64 a) ∧ w'.cell? ⟨w.heap.size, 3, none⟩ = some (.bool false) ∧ Ext wx w') wx.drew := ⟨c0, c1, c2, c3, (Ext.refl wx).drew⟩
            have hS1 : (fun w' => w'.cell? ⟨w.heap.size, 0, none⟩ = some (.slice A n c) ∧ w'.cell? ⟨w.heap.size, 1, none⟩ = some (.int .i64 q) ∧ w'.cell? ⟨w.heap.size, 2, none⟩ = some (.int .i64 a) ∧ w'.cell? ⟨w.heap.size, 3, none⟩ = some (.bool false) ∧ Ext wx w') wx := ⟨c0, c1, c2, c3, Ext.refl wx⟩
            have hkp : ∀ w0 w1 : World, (fun w' => w'.cell? ⟨w.heap.size, 0, none⟩ = some (.slice A n c) ∧ w'.cell? ⟨w.heap.size, 1, none⟩ = some (.int .i64 q) ∧ w'.cell? ⟨w.heap.size, 2, none⟩ = some (.int .i64 a) ∧ w'.cell? ⟨w.heap.size, 3, none⟩ = some (.bool false) ∧ Ext wx w') w0 → Ext w0 w1 → (fun w' => w'.cell? ⟨w.heap.size, 0, none⟩ = some (.slice A n c) ∧ w'.cell? ⟨w.heap.size, 1, none⟩ = some (.int .i64 q) ∧ w'.cell? ⟨w.heap.size, 2, none⟩ = some (.int .i64 a) ∧ w'.cell? ⟨w.heap.size, 3, none⟩ = some (.bool false) ∧ Ext wx w') w1 := fun w0 w1 h1 h3 => ⟨h3.cell h1.1, h3.cell h1.2.1, h3.cell h1.2.2.1, h3.cell h1.2.2.2.1, h1.2.2.2.2.trans h3⟩
            replace hkp := hide hkp
            replace hS0 := hide hS0
            replace hS1 := hide hS1
            by_cases h1 : 0 < q
            · by_cases h2 : 0 < bn
              · go_region_held3 (fun w' => w'.cell? ⟨w.heap.size, 0, none⟩ = some (.slice A n c) ∧ w'.cell? ⟨w.heap.size, 1, none⟩ = some (.int .i64 q) ∧ w'.cell? ⟨w.heap.size, 2, none⟩ = some (.int .i64 a) ∧ w'.cell? ⟨w.heap.size, 3, none⟩ = some (.bool false) ∧ Ext wx w') (first | exact hS0.out | exact hS1.out | exact ‹_› | exact hkp.out _ _ ‹_› ‹_›) (first | (go_at_call 75; refine (hcall.out _ ‹_›).mono ?_; rintro e w5 ⟨rfl, hE5⟩))
                go_wp2_with fail
                go_meet
                case rel =>
                  rw [hfull.out]
                  refine ⟨?_, (hkp.out _ w5 hS0.out hE5).2.2.2.2⟩
                  rw [IntWalk.i64_in _ (by omega)]
                  simp [h1, h2]
              · obtain rfl : bn = 0 := by omega
                go_quiet (fail)
                go_wp2_with fail
                go_meet
                case rel =>
                  rw [hfull.out]
                  exact ⟨by simp, (Ext.refl wx).drewN _⟩
            · obtain rfl : q = 0 := by omega
              go_quiet (fail)
              go_wp2_with fail
              go_meet
              case rel =>
                rw [hfull.out]
                exact ⟨by simp, (Ext.refl wx).drewN _⟩
          case rest =>
            obtain ⟨hs68, hwy⟩ := hcut
            subst hs68
            have hEy : Ext w wc := hEx.trans hwy
            have hdy := hdx.ext hwy
            have hry := hrx.ext hwy
            have c0 : wc.cell? ⟨w.heap.size, 0, none⟩ = some (.slice A n c) := hdy.cell 0 rfl
            have c1 : wc.cell? ⟨w.heap.size, 1, none⟩ = some (.int .i64 q) := hdy.cell 1 rfl
            have c2 : wc.cell? ⟨w.heap.size, 2, none⟩ = some (.int .i64 a) := hdy.cell 2 rfl
            have c3 : wc.cell? ⟨w.heap.size, 3, none⟩ = some (.bool false) := hdy.cell 3 rfl
            have x0 := hry.cell 0 rfl
            have x1 := hry.cell 1 rfl
            have x2 := hry.cell 2 rfl
            have x3 := hry.cell 3 rfl
            have y0 := hry.free 0
            have y1 := hry.free 1
            have y2 := hry.free 2
            have y3 := hry.free 3
            have hb41 : w.heap.size + 1 < wc.heap.size := hry.lt
            cases hf : fullM P bn with
            | true =>
              have hpl3 := hpl2.out
              rw [hf, if_pos rfl] at hpl3
              replace hpl3 := hide hpl3
              replace hf := hide hf
              go_wp2_with fail
              have hfin := tup_out hry hEy (Nat.le_succ _) (A := A) (n := n) (c := c) (q := q) (a := a) (st := false)
              obtain ⟨wf, hwf⟩ : ∃ wf, wf = ((((wc.setCell ⟨w.heap.size + 1, 0, none⟩ (.slice A n c)).setCell ⟨w.heap.size + 1, 1, none⟩ (.int .i64 q)).setCell ⟨w.heap.size + 1, 2, none⟩ (.int .i64 a)).setCell ⟨w.heap.size + 1, 3, none⟩ (.bool false)) := ⟨_, rfl⟩
              rw [← hwf] at hfin ⊢
              obtain ⟨z0, z1, z2, z3, hEf, _⟩ := hfin
              exact bodyPost_ret (v := .tuple #[.agg #[.slice A n c, .int .i64 q, .int .i64 a, .bool false], .int .i64 62]) (by simp [results, Tryz.results40, go_sem, z0, z1, z2, z3]) rfl (done.out 62 wf hpl3.out hEf)
            | false =>
              have hpl3 := hpl2.out
              rw [hf, if_neg (by simp)] at hpl3
              have hcl := rcall_any A n c q a wc ha
              unfold rdisk at hcl
              obtain ⟨a1, ha1⟩ : ∃ a1, a1 = a - 1 := ⟨_, rfl⟩
              rw [← ha1] at hcl
              replace hf := hide hf
              by_cases h1 : a = 1
              · rw [decide_eq_true h1] at hcl
                rw [← ha'.out, if_pos h1] at hpl3
                have ha10 : a1 = 0 := by omega
                replace hpl3 := hide hpl3
                replace hcl := hide hcl
                replace ha10 := hide ha10
                replace ha1 := hide ha1
                replace h1 := hide h1
                go_wp2_with fail
                refine hcl.out.mono ?_
                rintro e w2 ⟨rfl, hE2⟩
                have hE3 := (hEy.trans hE2).alloc (.cells #[.slice A n c, .int .i64 q, .int .i64 a1, .bool true] 44)
                have hr3 := (hry.ext hE2).alloc (.cells #[.slice A n c, .int .i64 q, .int .i64 a1, .bool true] 44)
                have x0 := hr3.cell 0 rfl
                have x1 := hr3.cell 1 rfl
                have x2 := hr3.cell 2 rfl
                have x3 := hr3.cell 3 rfl
                have y0 := hr3.free 0
                have y1 := hr3.free 1
                have y2 := hr3.free 2
                have y3 := hr3.free 3
                go_wp2_with fail
                have hfin := tup_out hr3 hE3 (Nat.le_succ _) (A := A) (n := n) (c := c) (q := q) (a := a1) (st := true)
                obtain ⟨wf, hwf⟩ : ∃ wf, wf = (((((w2.alloc (.cells #[.slice A n c, .int .i64 q, .int .i64 a1, .bool true] 44)).setCell ⟨w.heap.size + 1, 0, none⟩ (.slice A n c)).setCell ⟨w.heap.size + 1, 1, none⟩ (.int .i64 q)).setCell ⟨w.heap.size + 1, 2, none⟩ (.int .i64 a1)).setCell ⟨w.heap.size + 1, 3, none⟩ (.bool true)) := ⟨_, rfl⟩
                rw [← hwf] at hfin ⊢
                obtain ⟨z0, z1, z2, z3, hEf, _⟩ := hfin
                refine bodyPost_ret (v := .tuple #[.agg #[.slice A n c, .int .i64 q, .int .i64 a1, .bool true], .int .i64 63]) (by simp [results, Tryz.results40, go_sem, z0, z1, z2, z3]) rfl ?_
                rw [hpl3.out, hq.out, ha10.out]
                exact ⟨A, n, c, R, rfl, h.ext hEf, hP, hEf⟩
              · rw [decide_eq_false h1] at hcl
                rw [← ha'.out, if_neg h1] at hpl3
                replace hpl3 := hide hpl3
                replace hcl := hide hcl
                replace ha1 := hide ha1
                go_wp2_with fail
                refine hcl.out.mono ?_
                rintro e w2 ⟨rfl, hE2⟩
                obtain ⟨W3, hW3⟩ : ∃ W3, W3 = w2.alloc (.cells #[.slice A n c, .int .i64 q, .int .i64 a1, .bool false] 44) := ⟨_, rfl⟩
                have hE23 : Ext w2 W3 := by rw [hW3]; exact (Ext.refl w2).alloc _
                have hnx : Row W3 w2.heap.size 44 #[.slice A n c, .int .i64 q, .int .i64 a1, .bool false] := by rw [hW3]; exact Row.new w2 _ _
                have hEx3 : Ext wx W3 := (hwy.trans hE2).trans hE23
                have hE03 : Ext w W3 := (hEy.trans hE2).trans hE23
                have hf3 := hfx.ext hEx3
                have ho3 := own_empty W3 5
                have hE3o : Ext W3 (W3.alloc (.cells #[] 5)) := (Ext.refl W3).alloc _
                have hsz3 : W3.heap.size ≤ (W3.alloc (.cells #[] 5)).heap.size := hE3o.size
                have hfb := (hG.has.ext hEx3).bytes.ext hE3o
                have hl1 : (f0.b.map B8).length = bl * 1 := by rw [List.length_map, ← hbl.out]; omega
                have hl2 : (b.map B8).length = bn * 1 := by rw [List.length_map, ← hbn.out]; omega
                have hbb := (hb.ext hE03).ext hE3o
                have j0 := hf3.alloc (.cells #[] 5)
                have j1 : (W3.alloc (.cells #[] 5)).cell? ⟨bF, 1, none⟩ = some (.slice f0.A bl f0.c) := by rw [hbl.out]; exact j0.cell 1 rfl
                have hneF : w2.heap.size ≠ bF := by
                  have h1 := hfx.lt
                  have h2 := (hwy.trans hE2).size
                  omega
                replace hneF := hide hneF
                have hW3x := hide hW3.symm
                clear hW3 x0 x1 x2 x3 y0 y1 y2 y3
                replace hl1 := hide hl1
                replace hl2 := hide hl2
                go_upto_region 18 with (fail)
                rw [hW3x.out]
                go_wp2_with (first | (at_builtin; refine wpList_app (m := bl) elemB ho3 hfb (.tmp 77) (.tmp 79) rfl rfl rfl rfl rfl hl1.out (bytes_one _) (by omega) hsz3 (fun A4 c4 w4 ho4 hg4 _ => ?_); have hE4 : Ext W3 w4 := hE3o.grown hg4 (fun k hk => by cases hk; exact Nat.le_refl _); have hsz4 := hE4.size; rw [Nat.zero_add] at ho4; have hbb4 := (hb.ext hE03).ext hE4) | (at_builtin; refine wpList_app (m := bn) elemB ho4 hbb4 (.tmp 80) (.tmp 81) rfl rfl rfl rfl rfl hl2.out (bytes_one _) (by omega) hsz4 (fun A5 c5 w5 ho5 hg5 _ => ?_); have hE5 : Ext W3 w5 := hE4.grown hg5 (own_ge ho4); have hf5 := hf3.ext hE5; have t0 : w5.cell? ⟨bF, 0, none⟩ = some (.string ⟨s.toArray⟩) := hf5.cell 0 rfl; have t1 : w5.cell? ⟨bF, 1, none⟩ = some (.slice f0.A f0.b.length f0.c) := hf5.cell 1 rfl; have t2 : w5.cell? ⟨bF, 2, none⟩ = some (.int .i64 f0.sure) := hf5.cell 2 rfl; have u1 := hf5.free 1; have hn5 := hnx.ext hE5; have hn6 := Row.away hn5 (p := ⟨bF, 1, none⟩) hneF.out (.slice A5 (bl + bn) c5); have v0 : (w5.setCell ⟨bF, 1, none⟩ (.slice A5 (bl + bn) c5)).cell? ⟨w2.heap.size, 0, none⟩ = some (.slice A n c) := hn6.cell 0 rfl; have v1 : (w5.setCell ⟨bF, 1, none⟩ (.slice A5 (bl + bn) c5)).cell? ⟨w2.heap.size, 1, none⟩ = some (.int .i64 q) := hn6.cell 1 rfl; have v2 : (w5.setCell ⟨bF, 1, none⟩ (.slice A5 (bl + bn) c5)).cell? ⟨w2.heap.size, 2, none⟩ = some (.int .i64 a1) := hn6.cell 2 rfl; have v3 : (w5.setCell ⟨bF, 1, none⟩ (.slice A5 (bl + bn) c5)).cell? ⟨w2.heap.size, 3, none⟩ = some (.bool false) := hn6.cell 3 rfl))
                have hE05 := hE03.trans hE5
                obtain ⟨w6, hw6⟩ : ∃ w6, w6 = w5.setCell ⟨bF, 1, none⟩ (.slice A5 (bl + bn) c5) := ⟨_, rfl⟩
                have hc6 : Chg (fun k => k = bF) w5 w6 := by rw [hw6]; exact Chg.of_set w5 (a := ⟨bF, 1, none⟩) _ rfl
                have hE06 : Ext w w6 := hE05.chg hc6 fun i hi hh => by rw [hbFs.out] at hh; omega
                have hR6 : RS w6 N2 A n c R := (hRx.ext (hEx3.trans hE5)).chg hc6 (fun k _ hk => hN2i k (.inr (.inr hk))) (fun _ _ h => h)
                obtain ⟨f1, hf1e⟩ : ∃ f1 : RE, f1 = ⟨s, f0.b ++ b, f0.sure, A5, c5⟩ := ⟨_, rfl⟩
                have hl5 : (f0.b ++ b).length = bl + bn := by rw [List.length_append, ← hbl.out, ← hbn.out]
                have hge5 := own_ge ho5
                have hok6 : ROk w6 N2 f1 := by
                  rw [hf1e]
                  refine ⟨?_, ?_, ?_, ?_, ?_, hs, ?_⟩
                  · have hcc : Cells w5 A5 ((f0.b ++ b).map B8) := by
                      rw [List.map_append]
                      exact Cells.of_own ho5
                    exact hc6.cells hcc fun x hx hh => by
                      have h1 := own_lt2 ho5 x hx
                      rw [hbFs.out] at hh
                      have h2 := hE03.size
                      have h3 := hwy.size
                      have h4 := hfx.lt
                      rw [hbFs.out] at h4
                      have h5 := hE2.size
                      have h6 := hE23.size
                      omega
                  · show (f0.b ++ b).length ≤ c5
                    rw [hl5]
                    exact own_cap2 ho5
                  · intro hA
                    have hA' : A5 = none := hA
                    rcases ho5.2 with ⟨hv, _⟩ | ⟨g, cap, cur, hv, _⟩
                    · injection hv with _ _ h3
                    · rw [hA'] at hv; cases hv
                  · intro x hx
                    have h1 := own_lt2 ho5 x hx
                    refine ⟨Nat.lt_of_lt_of_le h1.2.1 hc6.size, fun hn => ?_, h1.2.2⟩
                    have h2 := hN2s _ hn
                    have h3 : W.heap.size ≤ W3.heap.size := Nat.le_trans hE1.size (Nat.le_trans hcx.size hEx3.size)
                    omega
                  · show f0.sure ≤ (f0.b ++ b).length
                    rw [hl5]
                    have := hG.has.sure
                    rw [← hbl.out] at this
                    omega
                  · show (f0.b ++ b).length ≤ 67108864
                    rw [hl5]
                    exact hlong2
                have hcntw : (withG RE.name f1 R).length ≤ 1024 := by
                  cases hokv : ok with
                  | true =>
                    rw [hokv] at hG
                    refine Nat.le_trans (len_with_in (hG.here rfl).1 (by rw [hf1e]; exact hG.name)) ?_
                    rw [← h.len]
                    exact hmany
                  | false =>
                    refine Nat.le_trans (len_with_le _ _) ?_
                    rw [← h.len]
                    have : ¬ 1024 ≤ n := fun hh => hm ⟨hokv, hh⟩
                    omega
                have hwi := rwith_any N2 A n c q a1 false R f1 w6 hR6 hok6 (fun k hk => Nat.lt_of_lt_of_le (hN2s k hk) (Nat.le_trans hE1.size (Nat.le_trans hcx.size (Nat.le_trans hEx3.size (Nat.le_trans hE5.size hc6.size))))) hcntw
                have hLp : (withG RE.name f1 R).map RE.pl = withG fname (s, f0.b ++ b, f0.sure) P.L := by
                  rw [map_with (nm := RE.name) (nm' := fname) (g := RE.pl) (fun _ => rfl), hP, hf1e]
                  rfl
                have hagg : f1.agg = .agg #[.string ⟨s.toArray⟩, .slice A5 (bl + bn) c5, .int .i64 f0.sure] := by
                  rw [hf1e]
                  unfold RE.agg str
                  rw [hl5]
                rw [hagg, hw6] at hwi
                unfold rdisk at hwi
                have hr6 : Row (w5.setCell ⟨bF, 1, none⟩ (.slice A5 (bl + bn) c5)) (w.heap.size + 1) 44 #[.slice none 0 0, .int .i64 0, .int .i64 0, .bool false] := Row.away (hrx.ext (hEx3.trans hE5)) (p := ⟨bF, 1, none⟩) (by show w.heap.size + 1 ≠ bF; rw [hbFs.out]; omega) _
                rw [hw6] at hE06
                replace hwi := hide hwi
                replace hLp := hide hLp
                replace hl5 := hide hl5
                replace hge5 := hide hge5
                clear hw6 hf1e hagg hok6 hcntw hc6 hR6
                refine hwi.out.mono ?_
                rintro e w7 ⟨A7, n7, c7, rfl, hR7, hE7⟩
                have hr7 := hr6.ext hE7
                have hE07 := hE06.trans hE7
                have x0 := hr7.cell 0 rfl
                have x1 := hr7.cell 1 rfl
                have x2 := hr7.cell 2 rfl
                have x3 := hr7.cell 3 rfl
                have y0 := hr7.free 0
                have y1 := hr7.free 1
                have y2 := hr7.free 2
                have y3 := hr7.free 3
                go_wp2_with fail
                have hfin := tup_out hr7 hE07 (Nat.le_succ _) (A := A7) (n := n7) (c := c7) (q := q) (a := a1) (st := false)
                obtain ⟨wf, hwf⟩ : ∃ wf, wf = ((((w7.setCell ⟨w.heap.size + 1, 0, none⟩ (.slice A7 n7 c7)).setCell ⟨w.heap.size + 1, 1, none⟩ (.int .i64 q)).setCell ⟨w.heap.size + 1, 2, none⟩ (.int .i64 a1)).setCell ⟨w.heap.size + 1, 3, none⟩ (.bool false)) := ⟨_, rfl⟩
                rw [← hwf] at hfin ⊢
                obtain ⟨z0, z1, z2, z3, hEf, hcf⟩ := hfin
                refine bodyPost_ret (v := .tuple #[.agg #[.slice A7 n7 c7, .int .i64 q, .int .i64 a1, .bool false], .int .i64 0]) (by simp [results, Tryz.results40, go_sem, z0, z1, z2, z3]) rfl ?_
                rw [hpl3.out]
                exact ⟨A7, n7, c7, _, by rw [hq.out, ha1.out, ha'.out, ← hst.out]; rfl, hR7.chg hcf (fun k _ hk => hN2i k (.inr (.inl hk))) (fun k _ hk => by rw [hN2]; exact .inl hk), hLp.out, hEf⟩
set_option maxRecDepth 100000 in
set_option maxHeartbeats 4000000 in
theorem rappend_bad (N : Nat → Prop) (A : Option Addr) (n c : Nat) (P : PD) (R : List RE) (s b : List UInt8) (B : Option Addr) (bn bc : Nat) (w : World) (h : RS w N A n c R) (hP : R.map RE.pl = P.L) (hs : s.length ≤ 9223372036854775807) (hbad : namedM s = false ∨ P.stopped = true) :
    Calls Tryz.prog 40 #[rdisk A n c P.quota P.armed P.stopped, str s, .slice B bn bc] w (RNext N (appendM P s b) w) := by
  obtain ⟨q, hq⟩ : ∃ q, q = P.quota := ⟨_, rfl⟩
  obtain ⟨a, ha'⟩ : ∃ q, q = P.armed := ⟨_, rfl⟩
  obtain ⟨st, hst⟩ : ∃ q, q = P.stopped := ⟨_, rfl⟩
  rw [← hq, ← ha', ← hst]
  obtain ⟨W, hW⟩ : ∃ W, W = (w.alloc (.cells #[.slice A n c, .int .i64 q, .int .i64 a, .bool st] 44)).alloc (.cells #[.slice none 0 0, .int .i64 0, .int .i64 0, .bool false] 44) := ⟨_, rfl⟩
  have hE : Ext w W := by rw [hW]; exact ((Ext.refl w).alloc _).alloc _
  have hd : Row W w.heap.size 44 #[.slice A n c, .int .i64 q, .int .i64 a, .bool st] := by rw [hW]; exact (Row.new w _ _).alloc _
  have hr2 : Row W (w.heap.size + 1) 44 #[.slice none 0 0, .int .i64 0, .int .i64 0, .bool false] := by
    have := Row.new (w.alloc (.cells #[.slice A n c, .int .i64 q, .int .i64 a, .bool st] 44)) 44 #[.slice none 0 0, .int .i64 0, .int .i64 0, .bool false]
    rw [size_alloc] at this
    rw [hW]
    exact this
  have hnm := rnamed_any s W hs
  have hWx := hide hW.symm
  have d0 : W.cell? ⟨w.heap.size, 0, none⟩ = some (.slice A n c) := hd.cell 0 rfl
  have d1 : W.cell? ⟨w.heap.size, 1, none⟩ = some (.int .i64 q) := hd.cell 1 rfl
  have d2 : W.cell? ⟨w.heap.size, 2, none⟩ = some (.int .i64 a) := hd.cell 2 rfl
  have d3 : W.cell? ⟨w.heap.size, 3, none⟩ = some (.bool st) := hd.cell 3 rfl
  have r0 := hr2.cell 0 rfl
  have r1 := hr2.cell 1 rfl
  have r2 := hr2.cell 2 rfl
  have r3 := hr2.cell 3 rfl
  have f0 := hr2.free 0
  have f1 := hr2.free 1
  have f2 := hr2.free 2
  have f3 := hr2.free 3
  have same : ∀ (k : Nat) (wf : World), appendM P s b = (P, k) → Ext w wf → RNext N (appendM P s b) w (.returned (.tuple #[.agg #[.slice A n c, .int .i64 q, .int .i64 a, .bool st], .int .i64 k])) wf := by
    intro k wf hk hEf
    rw [hk, hq, ha', hst]
    exact rnext_same h hP hEf
  replace same := hide same
  unfold rdisk str
  unfold str at hnm
  clear hW
  by_cases hb0 : namedM s = false
  · have hres : appendM P s b = (P, 60) := by unfold appendM; rw [hb0]; rfl
    rw [hb0] at hnm
    replace hnm := hide hnm
    replace hres := hide hres
    replace hq := hide hq
    replace ha' := hide ha'
    replace hst := hide hst
    go_enter Tryz.func40, Tryz.ntmps40
    go_wp2_with fail
    rw [hWx.out]
    refine hnm.out.mono ?_
    rintro e w1 ⟨rfl, hw1⟩
    replace hw1 := hw1.symm
    subst hw1
    go_wp2_with fail
    have hfin := tup_out hr2 hE (Nat.le_succ _) (A := A) (n := n) (c := c) (q := q) (a := a) (st := st)
    obtain ⟨wf, hwf⟩ : ∃ wf, wf = ((((W.setCell ⟨w.heap.size + 1, 0, none⟩ (.slice A n c)).setCell ⟨w.heap.size + 1, 1, none⟩ (.int .i64 q)).setCell ⟨w.heap.size + 1, 2, none⟩ (.int .i64 a)).setCell ⟨w.heap.size + 1, 3, none⟩ (.bool st)) := ⟨_, rfl⟩
    rw [← hwf] at hfin ⊢
    obtain ⟨z0, z1, z2, z3, hEf, _⟩ := hfin
    exact bodyPost_ret (v := .tuple #[.agg #[.slice A n c, .int .i64 q, .int .i64 a, .bool st], .int .i64 60]) (by simp [results, Tryz.results40, go_sem, z0, z1, z2, z3]) rfl (same.out 60 wf hres.out hEf)
  · have hnmd : namedM s = true := by simpa using hb0
    have hst2 : st = true := by
      rw [hst]
      rcases hbad with hbad | hbad
      · exact (hb0 hbad).elim
      · exact hbad
    have hres : appendM P s b = (P, 63) := by unfold appendM; rw [hnmd, ← hst, hst2]; rfl
    subst hst2
    rw [hnmd] at hnm
    replace hnm := hide hnm
    replace hres := hide hres
    replace hq := hide hq
    replace ha' := hide ha'
    replace hst := hide hst
    go_enter Tryz.func40, Tryz.ntmps40
    go_wp2_with fail
    rw [hWx.out]
    refine hnm.out.mono ?_
    rintro e w1 ⟨rfl, hw1⟩
    replace hw1 := hw1.symm
    subst hw1
    go_wp2_with fail
    have hfin := tup_out hr2 hE (Nat.le_succ _) (A := A) (n := n) (c := c) (q := q) (a := a) (st := true)
    obtain ⟨wf, hwf⟩ : ∃ wf, wf = ((((W.setCell ⟨w.heap.size + 1, 0, none⟩ (.slice A n c)).setCell ⟨w.heap.size + 1, 1, none⟩ (.int .i64 q)).setCell ⟨w.heap.size + 1, 2, none⟩ (.int .i64 a)).setCell ⟨w.heap.size + 1, 3, none⟩ (.bool true)) := ⟨_, rfl⟩
    rw [← hwf] at hfin ⊢
    obtain ⟨z0, z1, z2, z3, hEf, _⟩ := hfin
    exact bodyPost_ret (v := .tuple #[.agg #[.slice A n c, .int .i64 q, .int .i64 a, .bool true], .int .i64 63]) (by simp [results, Tryz.results40, go_sem, z0, z1, z2, z3]) rfl (same.out 63 wf hres.out hEf)
theorem rappend_any (N : Nat → Prop) (A : Option Addr) (n c : Nat) (P : PD) (R : List RE) (s b : List UInt8) (B : Option Addr) (bn bc : Nat) (w : World) (h : RS w N A n c R) (hP : R.map RE.pl = P.L) (hN : ∀ k, N k → k < w.heap.size) (hs : s.length ≤ 9223372036854775807) (ha : P.armed ≤ 9223372036854775807)
    (hb : Bs w B b) (hbn : bn = b.length) (hbn2 : bn ≤ 1073741824) (hqb : P.quota ≤ 9223372036854775807) :
    Calls Tryz.prog 40 #[rdisk A n c P.quota P.armed P.stopped, str s, .slice B bn bc] w (RNext N (appendM P s b) w) := by
  cases hnm : namedM s with
  | false => exact rappend_bad N A n c P R s b B bn bc w h hP hs (.inl hnm)
  | true =>
    cases hst : P.stopped with
    | true => rw [← hst]; exact rappend_bad N A n c P R s b B bn bc w h hP hs (.inr hst)
    | false => rw [← hst]; exact rappend_good N A n c P R s b B bn bc w h hP hN hs ha hb hbn hbn2 hqb hnm hst
end Go.Proofs.YtaoolpnnomhnoaaGreatDoor

/- loggiaref06: Rename. -/
namespace Go.Proofs.YtaoolpnnomhnoaaGreatDoor
open Go.RowKit Go.Maps

set_option maxRecDepth 100000 in
set_option maxHeartbeats 4000000 in
theorem rrename_any (N : Nat → Prop) (A : Option Addr) (n c : Nat) (P : PD) (R : List RE) (s t : List UInt8) (w : World) (h : RS w N A n c R) (hP : R.map RE.pl = P.L) (hN : ∀ k, N k → k < w.heap.size) (hs : s.length ≤ 9223372036854775807) (ht : t.length ≤ 9223372036854775807) (ha : P.armed ≤ 9223372036854775807) :
    Calls Tryz.prog 84 #[rdisk A n c P.quota P.armed P.stopped, str s, str t] w (RNext N (renameM P s t) w) := by
  obtain ⟨q, hq⟩ : ∃ q, q = P.quota := ⟨_, rfl⟩
  obtain ⟨a, ha'⟩ : ∃ q, q = P.armed := ⟨_, rfl⟩
  obtain ⟨st, hst⟩ : ∃ q, q = P.stopped := ⟨_, rfl⟩
  rw [← hq, ← ha', ← hst]
  rw [← ha'] at ha
  obtain ⟨W, hW⟩ : ∃ W, W = (w.alloc (.cells #[.slice A n c, .int .i64 q, .int .i64 a, .bool st] 44)).alloc (.cells #[.slice none 0 0, .int .i64 0, .int .i64 0, .bool false] 44) := ⟨_, rfl⟩
  have hE : Ext w W := by rw [hW]; exact ((Ext.refl w).alloc _).alloc _
  have hWs : W.heap.size = w.heap.size + 2 := by rw [hW, size_alloc, size_alloc]
  have hd : Row W w.heap.size 44 #[.slice A n c, .int .i64 q, .int .i64 a, .bool st] := by rw [hW]; exact (Row.new w _ _).alloc _
  have hr2 : Row W (w.heap.size + 1) 44 #[.slice none 0 0, .int .i64 0, .int .i64 0, .bool false] := by
    have := Row.new (w.alloc (.cells #[.slice A n c, .int .i64 q, .int .i64 a, .bool st] 44)) 44 #[.slice none 0 0, .int .i64 0, .int .i64 0, .bool false]
    rw [size_alloc] at this
    rw [hW]
    exact this
  have hnm := rnamed_any s W hs
  have hnt := rnamed_any t W ht
  have hfa := rfind_any N A n c q a st R s W (h.ext hE)
  have hWx := hide hW.symm
  have d0 : W.cell? ⟨w.heap.size, 0, none⟩ = some (.slice A n c) := hd.cell 0 rfl
  have d1 : W.cell? ⟨w.heap.size, 1, none⟩ = some (.int .i64 q) := hd.cell 1 rfl
  have d2 : W.cell? ⟨w.heap.size, 2, none⟩ = some (.int .i64 a) := hd.cell 2 rfl
  have d3 : W.cell? ⟨w.heap.size, 3, none⟩ = some (.bool st) := hd.cell 3 rfl
  have r0 : W.cell? ⟨w.heap.size + 1, 0, none⟩ = some (.slice none 0 0) := hr2.cell 0 rfl
  have r1 : W.cell? ⟨w.heap.size + 1, 1, none⟩ = some (.int .i64 0) := hr2.cell 1 rfl
  have r2 : W.cell? ⟨w.heap.size + 1, 2, none⟩ = some (.int .i64 0) := hr2.cell 2 rfl
  have r3 : W.cell? ⟨w.heap.size + 1, 3, none⟩ = some (.bool false) := hr2.cell 3 rfl
  have f0 := hr2.free 0
  have f1 := hr2.free 1
  have f2 := hr2.free 2
  have f3 := hr2.free 3
  have same : ∀ (k : Nat) (wf : World), renameM P s t = (P, k) → Ext w wf → RNext N (renameM P s t) w (.returned (.tuple #[.agg #[.slice A n c, .int .i64 q, .int .i64 a, .bool st], .int .i64 k])) wf := by
    intro k wf hk hEf
    rw [hk, hq, ha', hst]
    exact rnext_same h hP hEf
  replace same := hide same
  unfold rdisk str at *
  clear hW
  replace hWs := hide hWs
  replace hfa := hide hfa
  by_cases hb0 : namedM s = false
  · have hres : renameM P s t = (P, 60) := by unfold renameM writesM; simp [hb0]
    rw [hb0] at hnm
    replace hnm := hide hnm
    replace hres := hide hres
    replace hq := hide hq
    replace ha' := hide ha'
    replace hst := hide hst
    go_enter Tryz.func84, Tryz.ntmps84
    go_wp2_with fail
    rw [hWx.out]
    refine hnm.out.mono ?_
    rintro e w1 ⟨rfl, hw1⟩
    replace hw1 := hw1.symm
    subst hw1
    go_wp2_with fail
    have hfin := tup_out hr2 hE (Nat.le_succ _) (A := A) (n := n) (c := c) (q := q) (a := a) (st := st)
    obtain ⟨wf, hwf⟩ : ∃ wf, wf = ((((W.setCell ⟨w.heap.size + 1, 0, none⟩ (.slice A n c)).setCell ⟨w.heap.size + 1, 1, none⟩ (.int .i64 q)).setCell ⟨w.heap.size + 1, 2, none⟩ (.int .i64 a)).setCell ⟨w.heap.size + 1, 3, none⟩ (.bool st)) := ⟨_, rfl⟩
    rw [← hwf] at hfin ⊢
    obtain ⟨z0, z1, z2, z3, hEf, _⟩ := hfin
    exact bodyPost_ret (v := .tuple #[.agg #[.slice A n c, .int .i64 q, .int .i64 a, .bool st], .int .i64 60]) (by simp [results, Tryz.results84, go_sem, z0, z1, z2, z3]) rfl (same.out 60 wf hres.out hEf)
  by_cases hb1 : namedM t = false
  · have hres : renameM P s t = (P, 60) := by unfold renameM writesM; simp [hb1]
    have hnmd : namedM s = true := by simpa using hb0
    rw [hnmd] at hnm
    rw [hb1] at hnt
    replace hnm := hide hnm
    replace hnt := hide hnt
    replace hres := hide hres
    replace hq := hide hq
    replace ha' := hide ha'
    replace hst := hide hst
    go_enter Tryz.func84, Tryz.ntmps84
    go_wp2_with fail
    rw [hWx.out]
    refine hnm.out.mono ?_
    rintro e w1 ⟨rfl, hw1⟩
    replace hw1 := hw1.symm
    subst hw1
    go_wp2_with fail
    refine hnt.out.mono ?_
    rintro e w1 ⟨rfl, hw1⟩
    replace hw1 := hw1.symm
    subst hw1
    go_wp2_with fail
    have hfin := tup_out hr2 hE (Nat.le_succ _) (A := A) (n := n) (c := c) (q := q) (a := a) (st := st)
    obtain ⟨wf, hwf⟩ : ∃ wf, wf = ((((W.setCell ⟨w.heap.size + 1, 0, none⟩ (.slice A n c)).setCell ⟨w.heap.size + 1, 1, none⟩ (.int .i64 q)).setCell ⟨w.heap.size + 1, 2, none⟩ (.int .i64 a)).setCell ⟨w.heap.size + 1, 3, none⟩ (.bool st)) := ⟨_, rfl⟩
    rw [← hwf] at hfin ⊢
    obtain ⟨z0, z1, z2, z3, hEf, _⟩ := hfin
    exact bodyPost_ret (v := .tuple #[.agg #[.slice A n c, .int .i64 q, .int .i64 a, .bool st], .int .i64 60]) (by simp [results, Tryz.results84, go_sem, z0, z1, z2, z3]) rfl (same.out 60 wf hres.out hEf)
  have hnmd : namedM s = true := by simpa using hb0
  have hnmt : namedM t = true := by simpa using hb1
  rw [hnmd] at hnm
  rw [hnmt] at hnt
  replace hnm := hide hnm
  replace hnt := hide hnt
  cases st with
  | true =>
    have hres : renameM P s t = (P, 63) := by unfold renameM writesM; simp only [List.all_cons, List.all_nil, hnmd, hnmt, Bool.and_self, if_true]; rw [← hst]; rfl
    replace hres := hide hres
    replace hq := hide hq
    replace ha' := hide ha'
    replace hst := hide hst
    go_enter Tryz.func84, Tryz.ntmps84
    go_wp2_with fail
    rw [hWx.out]
    refine hnm.out.mono ?_
    rintro e w1 ⟨rfl, hw1⟩
    replace hw1 := hw1.symm
    subst hw1
    go_wp2_with fail
    refine hnt.out.mono ?_
    rintro e w1 ⟨rfl, hw1⟩
    replace hw1 := hw1.symm
    subst hw1
    go_wp2_with fail
    have hfin := tup_out hr2 hE (Nat.le_succ _) (A := A) (n := n) (c := c) (q := q) (a := a) (st := true)
    obtain ⟨wf, hwf⟩ : ∃ wf, wf = ((((W.setCell ⟨w.heap.size + 1, 0, none⟩ (.slice A n c)).setCell ⟨w.heap.size + 1, 1, none⟩ (.int .i64 q)).setCell ⟨w.heap.size + 1, 2, none⟩ (.int .i64 a)).setCell ⟨w.heap.size + 1, 3, none⟩ (.bool true)) := ⟨_, rfl⟩
    rw [← hwf] at hfin ⊢
    obtain ⟨z0, z1, z2, z3, hEf, _⟩ := hfin
    exact bodyPost_ret (v := .tuple #[.agg #[.slice A n c, .int .i64 q, .int .i64 a, .bool true], .int .i64 63]) (by simp [results, Tryz.results84, go_sem, z0, z1, z2, z3]) rfl (same.out 63 wf hres.out hEf)
  | false =>
    rcases rfind_pl hP s with ⟨i, r, hf, hr, hn, hfd⟩ | ⟨hf, hfd⟩
    · have hfa2 := hfa.out
      rw [hf] at hfa2
      simp only [Option.getD_some, Option.isSome_some] at hfa2
      replace hfa2 := hide hfa2
      have hin : i < n := by rw [h.len]; exact (List.getElem?_eq_some_iff.1 hr).1
      obtain ⟨g, o, r', hAg, hr', k0, k1, k2⟩ := (h.ext hE).at_ hin
      obtain rfl : r' = r := by rw [hr] at hr'; cases hr'; rfl
      subst hAg
      have hrm := List.mem_of_getElem? hr
      have hok := h.ok r' hrm
      have hcl := rcall_any (some ⟨g, o, none⟩) n c q a
      unfold rdisk at hcl
      unfold str at k0
      have hcl2 := hide hcl
      clear hcl
      have hgl := World.block_lt_of_cell? W ⟨g, o + i * 3, none⟩ k0
      have hmany := h.many
      have hst' := hide hst
      clear hst
      replace hf := hide hf
      replace hr := hide hr
      replace hn := hide hn
      replace hfd := hide hfd
      clear hr'
      by_cases h1 : a = 1
      · have hda : decide (a = 1) = true := decide_eq_true h1
        have hres : renameM P s t = (P.stops, 63) := by unfold renameM writesM; simp only [List.all_cons, List.all_nil, hnmd, hnmt, Bool.and_self, if_true]; rw [← hst'.out, hfd.out]; show (if P.armed = 1 then _ else _) = _; rw [← ha', if_pos h1]
        obtain ⟨a1, ha1⟩ : ∃ a1, a1 = a - 1 := ⟨_, rfl⟩
        have ha10 : a1 = 0 := by omega
        replace ha10 := hide ha10
        replace h1 := hide h1
        replace hres := hide hres
        replace hq := hide hq
        replace ha' := hide ha'
        go_enter Tryz.func84, Tryz.ntmps84
        go_wp2_with fail
        rw [hWx.out]
        refine hnm.out.mono ?_
        rintro e w1 ⟨rfl, hw1⟩
        replace hw1 := hw1.symm
        subst hw1
        go_wp2_with fail
        refine hnt.out.mono ?_
        rintro e w1 ⟨rfl, hw1⟩
        replace hw1 := hw1.symm
        subst hw1
        go_wp2_with fail
        refine hfa2.out.mono ?_
        rintro e w1 ⟨rfl, hE1⟩
        have d0' := hE1.cell d0
        have d1' := hE1.cell d1
        have d2' := hE1.cell d2
        have d3' := hE1.cell d3
        have hcl3 := hcl2.out w1 ha
        rw [hda, ← ha1] at hcl3
        replace hcl3 := hide hcl3
        replace ha1 := hide ha1
        go_wp2_with fail
        refine hcl3.out.mono ?_
        rintro e w2 ⟨rfl, hE2⟩
        have hE3 := ((hE.trans hE1).trans hE2).alloc (.cells #[.slice (some ⟨g, o, none⟩) n c, .int .i64 q, .int .i64 a1, .bool true] 44)
        have hr3 := ((hr2.ext hE1).ext hE2).alloc (.cells #[.slice (some ⟨g, o, none⟩) n c, .int .i64 q, .int .i64 a1, .bool true] 44)
        have x0 := hr3.cell 0 rfl
        have x1 := hr3.cell 1 rfl
        have x2 := hr3.cell 2 rfl
        have x3 := hr3.cell 3 rfl
        have y0 := hr3.free 0
        have y1 := hr3.free 1
        have y2 := hr3.free 2
        have y3 := hr3.free 3
        go_wp2_with fail
        have hfin := tup_out hr3 hE3 (Nat.le_succ _) (A := some ⟨g, o, none⟩) (n := n) (c := c) (q := q) (a := a1) (st := true)
        obtain ⟨wf, hwf⟩ : ∃ wf, wf = (((((w2.alloc (.cells #[.slice (some ⟨g, o, none⟩) n c, .int .i64 q, .int .i64 a1, .bool true] 44)).setCell ⟨w.heap.size + 1, 0, none⟩ (.slice (some ⟨g, o, none⟩) n c)).setCell ⟨w.heap.size + 1, 1, none⟩ (.int .i64 q)).setCell ⟨w.heap.size + 1, 2, none⟩ (.int .i64 a1)).setCell ⟨w.heap.size + 1, 3, none⟩ (.bool true)) := ⟨_, rfl⟩
        rw [← hwf] at hfin ⊢
        obtain ⟨z0, z1, z2, z3, hEf, _⟩ := hfin
        refine bodyPost_ret (v := .tuple #[.agg #[.slice (some ⟨g, o, none⟩) n c, .int .i64 q, .int .i64 a1, .bool true], .int .i64 63]) (by simp [results, Tryz.results84, go_sem, z0, z1, z2, z3]) rfl ?_
        rw [hres.out, hq.out, ha10.out]
        exact ⟨some ⟨g, o, none⟩, n, c, R, rfl, h.ext hEf, hP, hEf⟩
      · have hda : decide (a = 1) = false := decide_eq_false h1
        have hres : renameM P s t = (P.goes (withG fname (t, r'.pl.2.1, r'.pl.2.2) (withoutG fname s P.L)), 0) := by unfold renameM writesM; simp only [List.all_cons, List.all_nil, hnmd, hnmt, Bool.and_self, if_true]; rw [← hst'.out, hfd.out]; show (if P.armed = 1 then _ else _) = _; rw [← ha', if_neg h1]
        have hLp : (withG RE.name { r' with name := t } (withoutG RE.name s R)).map RE.pl = withG fname (t, r'.pl.2.1, r'.pl.2.2) (withoutG fname s P.L) := by
          rw [map_with (nm := RE.name) (nm' := fname) (g := RE.pl) (fun _ => rfl), map_without (nm := RE.name) (nm' := fname) (g := RE.pl) (fun _ => rfl), hP]
          rfl
        obtain ⟨N2, hN2⟩ : ∃ N2 : Nat → Prop, N2 = fun k => N k ∨ (w.heap.size ≤ k ∧ k < w.heap.size + 2) := ⟨_, rfl⟩
        have hsub : ∀ k, k < w.heap.size → N2 k → N k := by
          intro k hk hn
          rw [hN2] at hn
          rcases hn with hn | hn
          · exact hn
          · omega
        have hN2s : ∀ k, N2 k → k < W.heap.size := by
          intro k hn
          rw [hN2] at hn
          rcases hn with hn | hn
          · have := hN k hn
            have := hE.size
            omega
          · rw [hWs.out]; omega
        obtain ⟨a1, ha1⟩ : ∃ a1, a1 = a - 1 := ⟨_, rfl⟩
        replace hres := hide hres
        replace hLp := hide hLp
        replace hq := hide hq
        replace ha' := hide ha'
        replace hN2 := hN2
        go_enter Tryz.func84, Tryz.ntmps84
        go_wp2_with fail
        rw [hWx.out]
        refine hnm.out.mono ?_
        rintro e w1 ⟨rfl, hw1⟩
        replace hw1 := hw1.symm
        subst hw1
        go_wp2_with fail
        refine hnt.out.mono ?_
        rintro e w1 ⟨rfl, hw1⟩
        replace hw1 := hw1.symm
        subst hw1
        go_wp2_with fail
        refine hfa2.out.mono ?_
        rintro e w1 ⟨rfl, hE1⟩
        have d0' := hE1.cell d0
        have d1' := hE1.cell d1
        have d2' := hE1.cell d2
        have d3' := hE1.cell d3
        have hcl3 := hcl2.out w1 ha
        rw [hda, ← ha1] at hcl3
        replace hcl3 := hide hcl3
        replace ha1 := hide ha1
        go_wp2_with fail
        refine hcl3.out.mono ?_
        rintro e w2 ⟨rfl, hE2⟩
        have hE12 := hE1.trans hE2
        have hE02 := hE.trans hE12
        have hR2 : RS w2 N2 (some ⟨g, o, none⟩) n c R := h.chg (Chg.of_ext hE02 (fun _ => False)) (fun _ _ h => h.elim) hsub
        have hok2 : ROk w2 N2 r' := hok.chg (Chg.of_ext hE02 (fun _ => False)) (fun _ _ h => h.elim) hsub
        have e0 := hE12.cell d0
        have m0 := hE12.cell k0
        have m1 := hE12.cell k1
        have m2 := hE12.cell k2
        have hgl2 : g < w2.heap.size := Nat.lt_of_lt_of_le hgl hE12.size
        have hdl : w.heap.size < w2.heap.size := Nat.lt_of_lt_of_le (by rw [hWs.out]; omega) hE12.size
        have hN3 : ∀ k, N2 k → k < w2.heap.size := fun k hk => Nat.lt_of_lt_of_le (hN2s k hk) hE12.size
        have hrw := hr2.ext hE12
        obtain ⟨W4, hW4⟩ : ∃ W4, W4 = (w2.alloc (.cells #[.slice (some ⟨g, o, none⟩) n c, .int .i64 q, .int .i64 a1, .bool false] 44)).alloc (.cells #[.string ⟨t.toArray⟩, .slice r'.A r'.b.length r'.c, .int .i64 r'.sure] 94) := ⟨_, rfl⟩
        have hE4 : Ext w2 W4 := by rw [hW4]; exact ((Ext.refl w2).alloc _).alloc _
        have hok4 : ROk W4 N2 { r' with name := t } := by
          have := hok2.ext hE4
          exact ⟨this.bytes, this.cap, this.nil, this.away, this.sure, ht, this.len⟩
        have hnx4 : Row W4 w2.heap.size 44 #[.slice (some ⟨g, o, none⟩) n c, .int .i64 q, .int .i64 a1, .bool false] := by
          rw [hW4]
          exact (Row.new w2 _ _).alloc _
        have hfx4 : Row W4 (w2.heap.size + 1) 94 #[.string ⟨t.toArray⟩, .slice r'.A r'.b.length r'.c, .int .i64 r'.sure] := by
          have := Row.new (w2.alloc (.cells #[.slice (some ⟨g, o, none⟩) n c, .int .i64 q, .int .i64 a1, .bool false] 44)) 94 #[.string ⟨t.toArray⟩, .slice r'.A r'.b.length r'.c, .int .i64 r'.sure]
          rw [size_alloc] at this
          rw [hW4]
          exact this
        have hwo := rwithout_any N2 (some ⟨g, o, none⟩) n c q a1 false R s W4.drew ((hR2.ext hE4).ext (Ext.refl W4).drew) (fun k hk => Nat.lt_of_lt_of_le (hN3 k hk) hE4.size)
        have hwi : ∀ (w5 : World) (A5 : Option Addr) (n5 c5 : Nat), Ext W4.drew w5 → RS w5 N2 A5 n5 c5 (withoutG RE.name s R) → _ := fun w5 A5 n5 c5 h5 hR5 => rwith_any N2 A5 n5 c5 q a1 false (withoutG RE.name s R) { r' with name := t } w5 hR5 (hok4.ext ((Ext.refl W4).drew.trans h5)) (fun k hk => Nat.lt_of_lt_of_le (hN3 k hk) (Nat.le_trans hE4.size h5.size)) (by
          have h1 := len_with_le (nm := RE.name) { r' with name := t } (withoutG RE.name s R)
          have h2 := len_without_lt (nm := RE.name) hrm hn.out
          rw [← h.len] at h2
          omega)
        have hSk : ∀ w5, Ext W4.drew w5 → (fun w' => w'.cell? ⟨w2.heap.size, 0, none⟩ = some (.slice (some ⟨g, o, none⟩) n c) ∧ w'.cell? ⟨w2.heap.size, 1, none⟩ = some (.int .i64 q) ∧ w'.cell? ⟨w2.heap.size, 2, none⟩ = some (.int .i64 a1) ∧ w'.cell? ⟨w2.heap.size, 3, none⟩ = some (.bool false) ∧ w'.cell? ⟨w2.heap.size + 1, 0, none⟩ = some (.string ⟨t.toArray⟩) ∧ w'.cell? ⟨w2.heap.size + 1, 1, none⟩ = some (.slice r'.A r'.b.length r'.c) ∧ w'.cell? ⟨w2.heap.size + 1, 2, none⟩ = some (.int .i64 r'.sure)) w5 := fun w5 h5 => by
          have ha := (hnx4.drew.ext h5)
          have hb := (hfx4.drew.ext h5)
          exact ⟨ha.cell 0 rfl, ha.cell 1 rfl, ha.cell 2 rfl, ha.cell 3 rfl, hb.cell 0 rfl, hb.cell 1 rfl, hb.cell 2 rfl⟩
        have hSs : ∀ (w5 : World) (A5 : Option Addr) (n5 c5 : Nat), Ext W4.drew w5 → (fun w' => w'.cell? ⟨w2.heap.size, 0, none⟩ = some (.slice (some ⟨g, o, none⟩) n c) ∧ w'.cell? ⟨w2.heap.size, 1, none⟩ = some (.int .i64 q) ∧ w'.cell? ⟨w2.heap.size, 2, none⟩ = some (.int .i64 a1) ∧ w'.cell? ⟨w2.heap.size, 3, none⟩ = some (.bool false) ∧ w'.cell? ⟨w2.heap.size + 1, 0, none⟩ = some (.string ⟨t.toArray⟩) ∧ w'.cell? ⟨w2.heap.size + 1, 1, none⟩ = some (.slice r'.A r'.b.length r'.c) ∧ w'.cell? ⟨w2.heap.size + 1, 2, none⟩ = some (.int .i64 r'.sure)) ((((w5.setCell ⟨w.heap.size + 1, 0, none⟩ (.slice A5 n5 c5)).setCell ⟨w.heap.size + 1, 1, none⟩ (.int .i64 q)).setCell ⟨w.heap.size + 1, 2, none⟩ (.int .i64 a1)).setCell ⟨w.heap.size + 1, 3, none⟩ (.bool false)) := fun w5 A5 n5 c5 h5 => by
          have hbw : w.heap.size + 1 < w2.heap.size := Nat.lt_of_lt_of_le (by rw [hWs.out]; omega) hE12.size
          have hc := (tup_out (w0 := w) ((hrw.ext hE4).ext ((Ext.refl W4).drew.trans h5)) ((hE02.trans hE4).trans ((Ext.refl W4).drew.trans h5)) (Nat.le_succ _) (A := A5) (n := n5) (c := c5) (q := q) (a := a1) (st := false)).2.2.2.2.2
          have ha := hc.row (hnx4.drew.ext h5) (by show ¬ (w2.heap.size = w.heap.size + 1); omega)
          have hb := hc.row (hfx4.drew.ext h5) (by show ¬ (w2.heap.size + 1 = w.heap.size + 1); omega)
          exact ⟨ha.cell 0 rfl, ha.cell 1 rfl, ha.cell 2 rfl, ha.cell 3 rfl, hb.cell 0 rfl, hb.cell 1 rfl, hb.cell 2 rfl⟩
        have hrows : ∀ w5, Ext W4.drew w5 → Row w5 (w.heap.size + 1) 44 #[.slice none 0 0, .int .i64 0, .int .i64 0, .bool false] := fun w5 h5 => (hrw.ext hE4).ext ((Ext.refl W4).drew.trans h5)
        unfold rdisk str at hwo
        unfold rdisk RE.agg str at hwi
        have hW4x := hide hW4.symm
        clear hW4
        have hS0 := hSk W4.drew (Ext.refl _)
        simp only [] at hS0
        replace hwo := hide hwo
        replace hwi := hide hwi
        replace hSk := hide hSk
        replace hSs := hide hSs
        replace hrows := hide hrows
        replace hS0 := hide hS0
        clear hnx4 hfx4
        go_upto_region 13 with (fail)
        rw [hW4x.out]
        go_region_held3 (fun w' => w'.cell? ⟨w2.heap.size, 0, none⟩ = some (.slice (some ⟨g, o, none⟩) n c) ∧ w'.cell? ⟨w2.heap.size, 1, none⟩ = some (.int .i64 q) ∧ w'.cell? ⟨w2.heap.size, 2, none⟩ = some (.int .i64 a1) ∧ w'.cell? ⟨w2.heap.size, 3, none⟩ = some (.bool false) ∧ w'.cell? ⟨w2.heap.size + 1, 0, none⟩ = some (.string ⟨t.toArray⟩) ∧ w'.cell? ⟨w2.heap.size + 1, 1, none⟩ = some (.slice r'.A r'.b.length r'.c) ∧ w'.cell? ⟨w2.heap.size + 1, 2, none⟩ = some (.int .i64 r'.sure)) (first | exact hS0.out | exact ‹_› | exact Hid.out ‹_›) (first | (go_at_call 99; refine hwo.out.mono ?_; rintro e w5 ⟨A5, n5, c5, rfl, hR5, hE5⟩; have hS5 := hide (hSk.out w5 hE5); have hwi2 := hide (hwi.out w5 A5 n5 c5 hE5 hR5)) | (go_at_call 77; refine hwi2.out.mono ?_; rintro e w6 ⟨A6, n6, c6, rfl, hR6, hE6⟩; have hS6 := hide (hSk.out w6 (hE5.trans hE6)); have hS7 := hide (hSs.out w6 A6 n6 c6 (hE5.trans hE6)); have hr6 := hrows.out w6 (hE5.trans hE6); have x0 := hr6.cell 0 rfl; have x1 := hr6.cell 1 rfl; have x2 := hr6.cell 2 rfl; have x3 := hr6.cell 3 rfl; have y0 := hr6.free 0; have y1 := hr6.free 1; have y2 := hr6.free 2; have y3 := hr6.free 3))
        go_wp2_with fail
        have hE06 := (((hE02.trans hE4).trans (Ext.refl W4).drew).trans hE5).trans hE6
        have hfin := tup_out hr6 hE06 (Nat.le_succ _) (A := A6) (n := n6) (c := c6) (q := q) (a := a1) (st := false)
        obtain ⟨wf, hwf⟩ : ∃ wf, wf = ((((w6.setCell ⟨w.heap.size + 1, 0, none⟩ (.slice A6 n6 c6)).setCell ⟨w.heap.size + 1, 1, none⟩ (.int .i64 q)).setCell ⟨w.heap.size + 1, 2, none⟩ (.int .i64 a1)).setCell ⟨w.heap.size + 1, 3, none⟩ (.bool false)) := ⟨_, rfl⟩
        rw [← hwf] at hfin ⊢
        obtain ⟨z0, z1, z2, z3, hEf, hcf⟩ := hfin
        refine bodyPost_ret (v := .tuple #[.agg #[.slice A6 n6 c6, .int .i64 q, .int .i64 a1, .bool false], .int .i64 0]) (by simp [results, Tryz.results84, go_sem, z0, z1, z2, z3]) rfl ?_
        rw [hres.out]
        exact ⟨A6, n6, c6, _, by rw [hq.out, ha1.out, ha'.out, hst'.out]; rfl, hR6.chg hcf (fun k _ hk => by rw [hN2, hk]; exact .inr ⟨Nat.le_succ _, by omega⟩) (fun k _ hk => by rw [hN2]; exact .inl hk), hLp.out, hEf⟩
    · have hfa2 := hfa.out
      rw [hf] at hfa2
      simp only [Option.getD_none, Option.isSome_none] at hfa2
      have hres : renameM P s t = (P, 61) := by unfold renameM writesM; simp only [List.all_cons, List.all_nil, hnmd, hnmt, Bool.and_self, if_true]; rw [← hst, hfd]; rfl
      replace hfa2 := hide hfa2
      replace hres := hide hres
      replace hq := hide hq
      replace ha' := hide ha'
      replace hst := hide hst
      go_enter Tryz.func84, Tryz.ntmps84
      go_wp2_with fail
      rw [hWx.out]
      refine hnm.out.mono ?_
      rintro e w1 ⟨rfl, hw1⟩
      replace hw1 := hw1.symm
      subst hw1
      go_wp2_with fail
      refine hnt.out.mono ?_
      rintro e w1 ⟨rfl, hw1⟩
      replace hw1 := hw1.symm
      subst hw1
      go_wp2_with fail
      refine hfa2.out.mono ?_
      rintro e w1 ⟨rfl, hE1⟩
      have hr3 := hr2.ext hE1
      have hE3 := hE.trans hE1
      have d0' := hE1.cell d0
      have d1' := hE1.cell d1
      have d2' := hE1.cell d2
      have d3' := hE1.cell d3
      have x0 := hr3.cell 0 rfl
      have x1 := hr3.cell 1 rfl
      have x2 := hr3.cell 2 rfl
      have x3 := hr3.cell 3 rfl
      have y0 := hr3.free 0
      have y1 := hr3.free 1
      have y2 := hr3.free 2
      have y3 := hr3.free 3
      go_wp2_with fail
      have hfin := tup_out hr3 hE3 (Nat.le_succ _) (A := A) (n := n) (c := c) (q := q) (a := a) (st := false)
      obtain ⟨wf, hwf⟩ : ∃ wf, wf = ((((w1.setCell ⟨w.heap.size + 1, 0, none⟩ (.slice A n c)).setCell ⟨w.heap.size + 1, 1, none⟩ (.int .i64 q)).setCell ⟨w.heap.size + 1, 2, none⟩ (.int .i64 a)).setCell ⟨w.heap.size + 1, 3, none⟩ (.bool false)) := ⟨_, rfl⟩
      rw [← hwf] at hfin ⊢
      obtain ⟨z0, z1, z2, z3, hEf, _⟩ := hfin
      exact bodyPost_ret (v := .tuple #[.agg #[.slice A n c, .int .i64 q, .int .i64 a, .bool false], .int .i64 61]) (by simp [results, Tryz.results84, go_sem, z0, z1, z2, z3]) rfl (same.out 61 wf hres.out hEf)
end Go.Proofs.YtaoolpnnomhnoaaGreatDoor

/- A disk's quota and what it is armed with behind calls, plainly. -/
namespace Go.Proofs.YtaoolpnnomhnoaaGreatDoor
open Go.RowKit Go.Maps

/-- Nothing grows but the files: the quota stays, what it is armed with does not rise. -/
def Calm (P Q : PD) : Prop := Q.quota = P.quota ∧ Q.armed ≤ P.armed
theorem Calm.refl (P : PD) : Calm P P := ⟨rfl, Nat.le_refl _⟩
theorem Calm.trans {P Q T : PD} (h : Calm P Q) (k : Calm Q T) : Calm P T := ⟨k.1.trans h.1, Nat.le_trans k.2 h.2⟩
theorem Calm.stops (P : PD) : Calm P P.stops := ⟨rfl, Nat.zero_le _⟩
theorem Calm.goes (P : PD) (L : List PF) : Calm P (P.goes L) := ⟨rfl, Nat.sub_le _ _⟩
theorem calm_writes (P : PD) (ns : List (List UInt8)) (s : List UInt8) (k : PF → List PF) : Calm P (writesM P ns s k).1 := by
  unfold writesM
  split
  · split
    · exact Calm.refl P
    · split
      · split
        · exact Calm.stops P
        · exact Calm.goes P _
      · exact Calm.refl P
  · exact Calm.refl P
theorem calm_put (P : PD) (f : PF) (b : List UInt8) : Calm P (putM P f b).1 := by
  unfold putM
  split
  · exact Calm.refl P
  · split
    · exact Calm.refl P
    · split
      · exact Calm.stops P
      · exact Calm.goes P _
theorem calm_append (P : PD) (s b : List UInt8) : Calm P (appendM P s b).1 := by
  unfold appendM
  split
  · split
    · exact Calm.refl P
    · split
      · exact calm_put P _ _
      · split
        · exact Calm.refl P
        · exact calm_put P _ _
  · exact Calm.refl P
theorem calm_gone (P : PD) : Calm P (goneM P).1 := by
  unfold goneM
  split
  · exact calm_writes ..
  · exact Calm.refl P
theorem calm_sync (P : PD) (s : List UInt8) : Calm P (syncM P s).1 := calm_writes ..
theorem calm_chain : ∀ (fs : List (PD → PD × Nat)) (P : PD), (∀ f ∈ fs, ∀ P, Calm P (f P).1) → Calm P (chainM fs P).1
  | [], P, _ => Calm.refl P
  | f :: fs, P, h => by
    have h1 := h f (List.mem_cons_self ..) P
    by_cases h0 : (f P).2 = 0
    · rw [chain_go h0]; exact h1.trans (calm_chain fs _ fun g hg => h g (List.mem_cons_of_mem _ hg))
    · rw [chain_no h0]; exact h1
theorem calm_steps (P : PD) (b : List UInt8) : Calm P (stepsM P b).1 := by
  unfold stepsM
  refine calm_chain _ P fun f hf Q => ?_
  simp only [List.mem_cons, List.not_mem_nil, or_false] at hf
  rcases hf with rfl | rfl | rfl | rfl
  · exact calm_gone Q
  · exact calm_append ..
  · exact calm_writes ..
  · exact calm_writes ..
end Go.Proofs.YtaoolpnnomhnoaaGreatDoor

/- loggiaref06: Read. -/
namespace Go.Proofs.YtaoolpnnomhnoaaGreatDoor
open Go.RowKit Go.Maps

/-- What the document's Read answers. -/
def RReadPost (P : PD) (s : List UInt8) (fr n : Int) (w : World) (e : Ending) (w' : World) : Prop :=
  ∃ A k c, e = .returned (.tuple #[.slice A k c, .int .i64 (readM P s fr n).2]) ∧ Bs w' A (readM P s fr n).1 ∧ k = (readM P s fr n).1.length ∧ Ext w w'
theorem rread_err {P : PD} {s : List UInt8} {fr n : Int} {w w' : World} {k : Nat} (h : readM P s fr n = ([], k)) (he : Ext w w') : RReadPost P s fr n w (.returned (.tuple #[.slice none 0 0, .int .i64 k])) w' := by
  unfold RReadPost
  rw [h]
  exact ⟨none, 0, 0, rfl, .inl rfl, rfl, he⟩
set_option maxRecDepth 100000 in
set_option maxHeartbeats 2000000 in
theorem rread_any (N : Nat → Prop) (A : Option Addr) (n c : Nat) (P : PD) (R : List RE) (s : List UInt8) (fr k : Int) (w : World) (h : RS w N A n c R) (hP : R.map RE.pl = P.L) (hs : s.length ≤ 9223372036854775807) (hf1 : -9223372036854775808 ≤ fr) (hf2 : fr ≤ 9223372036854775807)
    (hn1 : -9223372036854775808 ≤ k) (hn2 : k ≤ 9223372036854775807) :
    Calls Tryz.prog 42 #[rdisk A n c P.quota P.armed P.stopped, str s, .int .i64 fr, .int .i64 k] w (RReadPost P s fr k w) := by
  obtain ⟨q, hq⟩ : ∃ q, q = P.quota := ⟨_, rfl⟩
  obtain ⟨a, ha'⟩ : ∃ q, q = P.armed := ⟨_, rfl⟩
  obtain ⟨st, hst⟩ : ∃ q, q = P.stopped := ⟨_, rfl⟩
  rw [← hq, ← ha', ← hst]
  obtain ⟨W, hW⟩ : ∃ W, W = w.alloc (.cells #[.slice A n c, .int .i64 q, .int .i64 a, .bool st] 44) := ⟨_, rfl⟩
  have hE : Ext w W := by rw [hW]; exact (Ext.refl w).alloc _
  have hd : Row W w.heap.size 44 #[.slice A n c, .int .i64 q, .int .i64 a, .bool st] := by rw [hW]; exact Row.new w _ _
  have hnm := rnamed_any s W hs
  have hfa := rfind_any N A n c q a st R s W (h.ext hE)
  have hWx := hide hW.symm
  clear hW
  have d0 : W.cell? ⟨w.heap.size, 0, none⟩ = some (.slice A n c) := hd.cell 0 rfl
  have d1 : W.cell? ⟨w.heap.size, 1, none⟩ = some (.int .i64 q) := hd.cell 1 rfl
  have d2 : W.cell? ⟨w.heap.size, 2, none⟩ = some (.int .i64 a) := hd.cell 2 rfl
  have d3 : W.cell? ⟨w.heap.size, 3, none⟩ = some (.bool st) := hd.cell 3 rfl
  unfold rdisk str at hfa ⊢
  unfold str at hnm
  replace hfa := hide hfa
  replace hq := hide hq
  replace ha' := hide ha'
  cases hnmd : namedM s with
  | false =>
    have hres : readM P s fr k = ([], 60) := by unfold readM; rw [hnmd]; rfl
    have fin := rread_err hres hE
    rw [hnmd] at hnm
    replace hnm := hide hnm
    replace fin := hide fin
    replace hst := hide hst
    clear hres hnmd
    go_enter Tryz.func42, Tryz.ntmps42
    go_wp2_with fail
    rw [hWx.out]
    refine hnm.out.mono ?_
    rintro e w1 ⟨rfl, hw1⟩
    replace hw1 := hw1.symm
    subst hw1
    go_wp2_with fail
    go_ret2
    exact fin.out
  | true =>
    rw [hnmd] at hnm
    replace hnm := hide hnm
    cases st with
    | true =>
      have hres : readM P s fr k = ([], 63) := by unfold readM; rw [hnmd, ← hst]; rfl
      have fin := rread_err hres hE
      replace fin := hide fin
      replace hst := hide hst
      clear hres hnmd
      go_enter Tryz.func42, Tryz.ntmps42
      go_wp2_with fail
      rw [hWx.out]
      refine hnm.out.mono ?_
      rintro e w1 ⟨rfl, hw1⟩
      replace hw1 := hw1.symm
      subst hw1
      go_wp2_with fail
      go_ret2
      exact fin.out
    | false =>
      rcases rfind_pl hP s with ⟨i, r, hf, hr, hn, hfd⟩ | ⟨hf, hfd⟩
      · have hfa2 := hfa.out
        rw [hf] at hfa2
        simp only [Option.getD_some, Option.isSome_some] at hfa2
        replace hfa2 := hide hfa2
        have hin : i < n := by rw [h.len]; exact (List.getElem?_eq_some_iff.1 hr).1
        obtain ⟨g, o, r', hAg, hr', k0, k1, k2⟩ := (h.ext hE).at_ hin
        obtain rfl : r' = r := by rw [hr] at hr'; cases hr'; rfl
        subst hAg
        have hrm := List.mem_of_getElem? hr
        have hok := h.ok r' hrm
        have hgl := World.block_lt_of_cell? W ⟨g, o + i * 3 + 1, none⟩ k1
        have hmany := h.many
        obtain ⟨bl, hbl⟩ : ∃ x, x = r'.b.length := ⟨_, rfl⟩
        have hlen := hok.len
        rw [← hbl] at k1 hlen
        replace hf := hide hf
        replace hr := hide hr
        replace hn := hide hn
        clear hr' k0 k2
        by_cases hbad : fr < 0 ∨ (bl : Int) < fr ∨ k < 0
        · have hres : readM P s fr k = ([], 5) := by
            unfold readM
            rw [hnmd, ← hst, hfd]
            simp only [if_true]
            show (if fr < 0 ∨ (r'.b.length : Int) < fr ∨ k < 0 then _ else _) = _
            rw [← hbl, if_pos hbad]
          have hcs : fr < 0 ∨ (0 ≤ fr ∧ (bl : Int) < fr) ∨ (0 ≤ fr ∧ fr ≤ bl ∧ k < 0) := by omega
          replace hbl := hide hbl
          replace hst := hide hst
          replace hfd := hide hfd
          have fin : ∀ w1, Ext W w1 → RReadPost P s fr k w (.returned (.tuple #[.slice none 0 0, .int .i64 5])) w1 := fun w1 h1 => rread_err hres (hE.trans h1)
          replace fin := hide fin
          clear hres hnmd hbad
          rcases hcs with h1 | ⟨h0, h1⟩ | ⟨h0, h1, h2⟩
          all_goals
            go_enter Tryz.func42, Tryz.ntmps42
            go_wp2_with fail
            rw [hWx.out]
            refine hnm.out.mono ?_
            rintro e w1 ⟨rfl, hw1⟩
            replace hw1 := hw1.symm
            subst hw1
            go_wp2_with fail
            refine hfa2.out.mono ?_
            rintro e w1 ⟨rfl, hE1⟩
            have d0' := hE1.cell d0
            have k1' := hE1.cell k1
            go_wp2_with fail
            go_ret2
            exact fin.out _ hE1
        · obtain ⟨f, rfl⟩ : ∃ f : Nat, fr = f := ⟨fr.toNat, by omega⟩
          obtain ⟨m, rfl⟩ : ∃ m : Nat, k = m := ⟨k.toNat, by omega⟩
          have hfl : f ≤ bl := by omega
          obtain ⟨k2, hk2⟩ : ∃ k2, k2 = min m (bl - f) := ⟨_, rfl⟩
          have hres : readM P s f m = ((r'.b.drop f).take m, 0) := by
            unfold readM
            rw [hnmd, ← hst, hfd]
            simp only [if_true]
            show (if (f : Int) < 0 ∨ (r'.b.length : Int) < f ∨ (m : Int) < 0 then _ else _) = _
            rw [← hbl, if_neg hbad]
            rfl
          have hmin := run_min2 (P := Tryz.prog) #[3, 3] 3 (x := m) (y := (bl : Int) - f) (m := (k2 : Nat)) (by omega)
          have hcap := hok.cap
          rw [← hbl] at hcap
          obtain ⟨A', c', hsub, hcl, hz', hbk, hkc⟩ := run_sub (t := 57) (e := 5) (fr := f) (k := k2) Tryz.underlying57 (fun W => by kernel_rfl) (n := bl) (by omega) hcap hok.nil (fun a ha => (hok.away a ha).2.2)
          have hl2 : ((r'.b.drop f).take k2).length = k2 := by rw [List.length_take, List.length_drop, ← hbl]; omega
          have htk : (r'.b.drop f).take k2 = (r'.b.drop f).take m := by
            by_cases hc : m ≤ bl - f
            · rw [hk2, Nat.min_eq_left hc]
            · rw [hk2, Nat.min_eq_right (by omega), List.take_of_length_le (i := bl - f) (by rw [List.length_drop, ← hbl]; omega), List.take_of_length_le (i := m) (by rw [List.length_drop, ← hbl]; omega)]
          have fin : ∀ w1, Ext W w1 → RReadPost P s f m w (.returned (.tuple #[.slice A' k2 c', .int .i64 0])) w1 := fun w1 h1 => by
            unfold RReadPost
            rw [hres, ← htk]
            refine ⟨A', k2, c', rfl, ?_, hl2.symm, hE.trans h1⟩
            have := hcl w1 (r'.b.map B8) (by rw [List.length_map, hbl]) ((hok.ext (hE.trans h1)).bytes)
            unfold Bs
            rw [List.map_take, List.map_drop]
            exact this
          have hk2b : (f : Int) + k2 ≤ bl := by omega
          replace fin := hide fin
          replace hbl := hide hbl
          replace hst := hide hst
          replace hfd := hide hfd
          clear hres hnmd htk hl2 hcl hz' hbk hk2
          go_enter Tryz.func42, Tryz.ntmps42
          go_wp2_with fail
          rw [hWx.out]
          refine hnm.out.mono ?_
          rintro e w1 ⟨rfl, hw1⟩
          replace hw1 := hw1.symm
          subst hw1
          go_wp2_with fail
          refine hfa2.out.mono ?_
          rintro e w1 ⟨rfl, hE1⟩
          have d0' := hE1.cell d0
          have k1' := hE1.cell k1
          go_wp2_with fail
          go_ret2
          exact fin.out _ hE1
      · have hfa2 := hfa.out
        rw [hf] at hfa2
        simp only [Option.getD_none, Option.isSome_none] at hfa2
        have hres : readM P s fr k = ([], 61) := by unfold readM; rw [hnmd, ← hst, hfd]; rfl
        replace hfa2 := hide hfa2
        replace hst := hide hst
        go_enter Tryz.func42, Tryz.ntmps42
        go_wp2_with fail
        rw [hWx.out]
        refine hnm.out.mono ?_
        rintro e w1 ⟨rfl, hw1⟩
        replace hw1 := hw1.symm
        subst hw1
        go_wp2_with fail
        refine hfa2.out.mono ?_
        rintro e w1 ⟨rfl, hE1⟩
        have fin := rread_err hres (hE.trans hE1)
        replace fin := hide fin
        clear hres
        go_wp2_with fail
        go_ret2
        exact fin.out
end Go.Proofs.YtaoolpnnomhnoaaGreatDoor

/- loggiaref16: gone, steps. -/
namespace Go.Proofs.YtaoolpnnomhnoaaGreatDoor
open Go.RowKit Go.Maps

theorem Row.get {w : World} {g : Nat} {t : TypeId} {cs : Array Value} (h : Row w g t cs) (i : Nat) : w.cell? ⟨g, i, none⟩ = cs[i]? := cell_of_row w g i cs t (0, 0) h
/-- A document's disk laid into a block. -/
def put4 (W : World) (r : Nat) (u0 u1 u2 u3 : Value) : World := (((W.setCell ⟨r, 0, none⟩ u0).setCell ⟨r, 1, none⟩ u1).setCell ⟨r, 2, none⟩ u2).setCell ⟨r, 3, none⟩ u3
section
variable {w W W1 : World} {N N2 : Nat → Prop} {A : Option Addr} {n c r d : Nat} {R : List RE} {P : PD} {u0 u1 u2 u3 v0 v1 v2 v3 : Value}
theorem put4_chg (W : World) (r : Nat) (u0 u1 u2 u3 : Value) : Chg (fun k => k = r) W (put4 W r u0 u1 u2 u3) :=
  (((Chg.of_set (S := fun k => k = r) W (a := ⟨r, 0, none⟩) _ rfl).trans (Chg.of_set (S := fun k => k = r) _ (a := ⟨r, 1, none⟩) _ rfl) fun _ _ h => h).trans (Chg.of_set (S := fun k => k = r) _ (a := ⟨r, 2, none⟩) _ rfl) fun _ _ h => h).trans (Chg.of_set (S := fun k => k = r) _ (a := ⟨r, 3, none⟩) _ rfl) fun _ _ h => h
theorem put4_row (h : Row W r 44 #[v0, v1, v2, v3]) (u0 u1 u2 u3 : Value) : Row (put4 W r u0 u1 u2 u3) r 44 #[u0, u1, u2, u3] := (((h.put 0 _).put 1 _).put 2 _).put 3 _
theorem put4_ext (h : Ext w W) (hr : w.heap.size ≤ r) (u0 u1 u2 u3 : Value) : Ext w (put4 W r u0 u1 u2 u3) := (((h.setCell hr _).setCell hr _).setCell hr _).setCell hr _
theorem RS.away2 (h : RS w N A n c R) (hE : Ext w W) (hN2 : N2 = fun k => N k ∨ (w.heap.size ≤ k ∧ k < W.heap.size)) : RS W N2 A n c R :=
  h.chg (Chg.of_ext hE (fun _ => False)) (fun _ _ h => h.elim) fun k hk h2 => by
    rw [hN2] at h2
    rcases h2 with h2 | h2
    · exact h2
    · omega
theorem n2_lt (hN : ∀ k, N k → k < w.heap.size) (hE : Ext w W) (hN2 : N2 = fun k => N k ∨ (w.heap.size ≤ k ∧ k < W.heap.size)) (hE1 : Ext W W1) : ∀ k, N2 k → k < W1.heap.size := fun k h2 => by
  rw [hN2] at h2
  have := hE1.size
  have := hE.size
  rcases h2 with h2 | h2
  · have := hN k h2; omega
  · omega
theorem RS.put4 (h : RS W1 N2 A n c R) (hN2 : N2 = fun k => N k ∨ (w.heap.size ≤ k ∧ k < W.heap.size)) (hr : w.heap.size ≤ r) (hr2 : r < W.heap.size) : RS (put4 W1 r u0 u1 u2 u3) N2 A n c R :=
  h.chg (put4_chg ..) (fun k _ hk => by rw [hN2, hk]; exact .inr ⟨hr, hr2⟩) (fun k _ hk => hk)
/-- A result laid into its block. -/
theorem put4_rn (h : RS W1 N2 A n c R) (hP : R.map RE.pl = P.L) (hN2 : N2 = fun k => N k ∨ (w.heap.size ≤ k ∧ k < W.heap.size)) (hr : w.heap.size ≤ r) (hr2 : r < W.heap.size) (hE : Ext w W1) (k : Nat) :
    RNext N (P, k) w (.returned (.tuple #[.agg #[.slice A n c, .int .i64 P.quota, .int .i64 P.armed, .bool P.stopped], .int .i64 k])) (put4 W1 r (.slice A n c) (.int .i64 P.quota) (.int .i64 P.armed) (.bool P.stopped)) :=
  ⟨A, n, c, R, rfl, h.chg (put4_chg ..) (fun k _ hk => by rw [hN2, hk]; exact .inr ⟨hr, hr2⟩) (fun k _ hk => by rw [hN2]; exact .inl hk), hP, put4_ext hE hr ..⟩
end
set_option maxRecDepth 100000 in
set_option maxHeartbeats 4000000 in
theorem rgone_any (N : Nat → Prop) (A : Option Addr) (n c : Nat) (P : PD) (R : List RE) (w : World) (h : RS w N A n c R) (hP : R.map RE.pl = P.L) (hN : ∀ k, N k → k < w.heap.size) (ha : P.armed ≤ 9223372036854775807) :
    Calls Tryz.prog 47 #[rdisk A n c P.quota P.armed P.stopped, str comN] w (RNext N (goneM P) w) := by
  obtain ⟨W, hW⟩ : ∃ W, W = (w.alloc (.cells #[.slice A n c, .int .i64 P.quota, .int .i64 P.armed, .bool P.stopped] 44)).alloc (.cells #[.slice none 0 0, .int .i64 0, .int .i64 0, .bool false] 44) := ⟨_, rfl⟩
  have hE : Ext w W := by rw [hW]; exact ((Ext.refl w).alloc _).alloc _
  have hd : Row W w.heap.size 44 #[.slice A n c, .int .i64 P.quota, .int .i64 P.armed, .bool P.stopped] := by rw [hW]; exact (Row.new w _ _).alloc _
  have hr : Row W (w.heap.size + 1) 44 #[.slice none 0 0, .int .i64 0, .int .i64 0, .bool false] := by
    rw [hW, ← size_alloc w (.cells #[.slice A n c, .int .i64 P.quota, .int .i64 P.armed, .bool P.stopped] 44)]; exact Row.new _ _ _
  obtain ⟨N2, hN2⟩ : ∃ N2 : Nat → Prop, N2 = fun k => N k ∨ (w.heap.size ≤ k ∧ k < W.heap.size) := ⟨_, rfl⟩
  have hR := h.away2 hE hN2
  have hlt := hr.lt
  have hsz := rsize_any N2 A n c P R comN W hR hP
  have hrm := fun w1 (hE1 : Ext W w1) => rremove_any N2 A n c P R comN w1 (hR.ext hE1) hP (n2_lt hN hE hN2 hE1) com_len ha
  obtain ⟨z, hz⟩ : ∃ z, z = (sizeM P comN).1 := ⟨_, rfl⟩
  rw [← hz] at hsz
  unfold rdisk str at hsz hrm ⊢
  unfold RNext rdisk at hrm
  replace hrm := hide hrm
  replace hN2 := hide hN2
  replace hR := hide hR
  replace hP := hide hP
  replace hz := hide hz
  cases hs : (sizeM P comN).2 with
  | false =>
    have hg : goneM P = (P, 0) := by unfold goneM; rw [hs]; rfl
    rw [hs] at hsz
    rw [hg]
    replace hsz := hide hsz
    clear hg hs hrm
    go_enter Tryz.func47, Tryz.ntmps47
    go_wp2_with fail
    rw [← hW]
    replace hW := hide hW
    have d0 := hd.get
    go_wp2_with fail
    refine hsz.out.mono ?_
    rintro e w1 ⟨rfl, hE1⟩
    have d1 := (hd.ext hE1).get
    have hrw := hr.ext hE1
    have r1 := hrw.get
    have f1 := hrw.free
    go_wp2_with fail
    have hfin := put4_rn (hR.out.ext hE1) hP.out hN2.out (Nat.le_succ _) hlt (hE.trans hE1) 0
    have hrf := put4_row hrw (.slice A n c) (.int .i64 P.quota) (.int .i64 P.armed) (.bool P.stopped)
    obtain ⟨wf, hwf⟩ : ∃ wf, wf = put4 w1 (w.heap.size + 1) (.slice A n c) (.int .i64 P.quota) (.int .i64 P.armed) (.bool P.stopped) := ⟨_, rfl⟩
    rw [← hwf] at hfin hrf
    unfold put4 at hwf
    rw [← hwf]
    have z := hrf.get
    clear hwf hrf
    exact bodyPost_ret (v := .tuple #[.agg #[.slice A n c, .int .i64 P.quota, .int .i64 P.armed, .bool P.stopped], .int .i64 0]) (by simp [results, Tryz.results47, go_sem, z]) rfl hfin
  | true =>
    have hg : goneM P = removeM P comN := by unfold goneM; rw [hs]; rfl
    rw [hs] at hsz
    rw [hg]
    obtain ⟨Q, hQ⟩ : ∃ Q, Q = removeM P comN := ⟨_, rfl⟩
    obtain ⟨P1, e1⟩ := Q
    have hrm2 := hrm.out
    rw [← hQ] at hrm2 ⊢
    replace hsz := hide hsz
    replace hrm2 := hide hrm2
    clear hg hs hrm hQ
    go_enter Tryz.func47, Tryz.ntmps47
    go_wp2_with fail
    rw [← hW]
    replace hW := hide hW
    have d0 := hd.get
    go_wp2_with fail
    refine hsz.out.mono ?_
    rintro e w1 ⟨rfl, hE1⟩
    have d1 := (hd.ext hE1).get
    go_wp2_with fail
    refine (hrm2.out w1 hE1).mono ?_
    rintro e w2 ⟨A1, n1, c1, R1, rfl, hR1, hP1, hE2⟩
    have hrw := (hr.ext hE1).ext hE2
    have r1 := hrw.get
    have f1 := hrw.free
    go_wp2_with fail
    have hfin := put4_rn hR1 hP1 hN2.out (Nat.le_succ _) hlt (hE.trans (hE1.trans hE2)) e1
    have hrf := put4_row hrw (.slice A1 n1 c1) (.int .i64 P1.quota) (.int .i64 P1.armed) (.bool P1.stopped)
    obtain ⟨wf, hwf⟩ : ∃ wf, wf = put4 w2 (w.heap.size + 1) (.slice A1 n1 c1) (.int .i64 P1.quota) (.int .i64 P1.armed) (.bool P1.stopped) := ⟨_, rfl⟩
    rw [← hwf] at hfin hrf
    unfold put4 at hwf
    rw [← hwf]
    have z := hrf.get
    clear hwf hrf
    exact bodyPost_ret (v := .tuple #[.agg #[.slice A1 n1 c1, .int .i64 P1.quota, .int .i64 P1.armed, .bool P1.stopped], .int .i64 e1]) (by simp [results, Tryz.results47, go_sem, z]) rfl hfin
theorem steps_eq {P P1 P2 P3 P4 : PD} {e1 e2 e3 e4 : Nat} {b : List UInt8} (h1 : goneM P = (P1, e1)) (h2 : appendM P1 comN b = (P2, e2)) (h3 : syncM P2 comN = (P3, e3)) (h4 : renameM P3 comN curN = (P4, e4)) :
    stepsM P b = if e1 = 0 then if e2 = 0 then if e3 = 0 then (P4, e4) else (P3, e3) else (P2, e2) else (P1, e1) := by
  unfold stepsM
  by_cases z1 : e1 = 0
  · rw [if_pos z1, chain_go (by rw [h1]; exact z1), h1]
    by_cases z2 : e2 = 0
    · rw [if_pos z2, chain_go (by show (appendM P1 comN b).2 = 0; rw [h2]; exact z2)]
      show chainM _ (appendM P1 comN b).1 = _
      rw [h2]
      by_cases z3 : e3 = 0
      · rw [if_pos z3, chain_go (by show (syncM P2 comN).2 = 0; rw [h3]; exact z3)]
        show chainM _ (syncM P2 comN).1 = _
        rw [h3]
        by_cases z4 : e4 = 0
        · rw [chain_go (by show (renameM P3 comN curN).2 = 0; rw [h4]; exact z4)]
          show ((renameM P3 comN curN).1, 0) = _
          rw [h4, z4]
        · rw [chain_no (by show ¬ (renameM P3 comN curN).2 = 0; rw [h4]; exact z4)]
          exact h4
      · rw [if_neg z3, chain_no (by show ¬ (syncM P2 comN).2 = 0; rw [h3]; exact z3)]
        exact h3
    · rw [if_neg z2, chain_no (by show ¬ (appendM P1 comN b).2 = 0; rw [h2]; exact z2)]
      exact h2
  · rw [if_neg z1, chain_no (by rw [h1]; exact z1)]
    exact h1
set_option maxRecDepth 100000 in
set_option maxHeartbeats 4000000 in
theorem rsteps_any (N : Nat → Prop) (A : Option Addr) (n c : Nat) (P : PD) (R : List RE) (b : List UInt8) (B : Option Addr) (bn bc : Nat) (w : World) (h : RS w N A n c R) (hP : R.map RE.pl = P.L) (hN : ∀ k, N k → k < w.heap.size) (ha : P.armed ≤ 9223372036854775807) (hq : P.quota ≤ 9223372036854775807)
    (hb : Bs w B b) (hbn : bn = b.length) (hbn2 : bn ≤ 1073741824) :
    Calls Tryz.prog 46 #[rdisk A n c P.quota P.armed P.stopped, .slice B bn bc] w (RNext N (stepsM P b) w) := by
  obtain ⟨⟨P1, e1⟩, h1⟩ : ∃ Q, goneM P = Q := ⟨_, rfl⟩
  obtain ⟨⟨P2, e2⟩, h2⟩ : ∃ Q, appendM P1 comN b = Q := ⟨_, rfl⟩
  obtain ⟨⟨P3, e3⟩, h3⟩ : ∃ Q, syncM P2 comN = Q := ⟨_, rfl⟩
  obtain ⟨⟨P4, e4⟩, h4⟩ : ∃ Q, renameM P3 comN curN = Q := ⟨_, rfl⟩
  have m1 : Calm P P1 := by have := calm_gone P; rw [h1] at this; exact this
  have m2 : Calm P P2 := m1.trans (by have := calm_append P1 comN b; rw [h2] at this; exact this)
  have m3 : Calm P P3 := m2.trans (by have := calm_sync P2 comN; rw [h3] at this; exact this)
  obtain ⟨Z, hZ⟩ : ∃ Z, Z = stepsM P b := ⟨_, rfl⟩
  rw [← hZ]
  rw [steps_eq h1 h2 h3 h4] at hZ
  replace hZ := hide hZ
  obtain ⟨W, hW⟩ : ∃ W, W = (w.alloc (.cells #[.slice A n c, .int .i64 P.quota, .int .i64 P.armed, .bool P.stopped] 44)).alloc (.cells #[.slice none 0 0, .int .i64 0, .int .i64 0, .bool false] 44) := ⟨_, rfl⟩
  have hE : Ext w W := by rw [hW]; exact ((Ext.refl w).alloc _).alloc _
  have hd : Row W w.heap.size 44 #[.slice A n c, .int .i64 P.quota, .int .i64 P.armed, .bool P.stopped] := by rw [hW]; exact (Row.new w _ _).alloc _
  have hr : Row W (w.heap.size + 1) 44 #[.slice none 0 0, .int .i64 0, .int .i64 0, .bool false] := by
    rw [hW, ← size_alloc w (.cells #[.slice A n c, .int .i64 P.quota, .int .i64 P.armed, .bool P.stopped] 44)]; exact Row.new _ _ _
  obtain ⟨N2, hN2⟩ : ∃ N2 : Nat → Prop, N2 = fun k => N k ∨ (w.heap.size ≤ k ∧ k < W.heap.size) := ⟨_, rfl⟩
  have hR := h.away2 hE hN2
  have hlt := hr.lt
  have c1 := rgone_any N2 A n c P R W hR hP (n2_lt hN hE hN2 (Ext.refl _)) ha
  have c2 := fun A n c R w1 (h1 : RS w1 N2 A n c R) (hP1 : R.map RE.pl = P1.L) (hE1 : Ext w w1) (hs : W.heap.size ≤ w1.heap.size) => rappend_any N2 A n c P1 R comN b B bn bc w1 h1 hP1 (fun k hk => Nat.lt_of_lt_of_le (n2_lt hN hE hN2 (Ext.refl _) k hk) hs) com_len (Nat.le_trans m1.2 ha) (hb.ext hE1) hbn hbn2 (by rw [m1.1]; exact hq)
  have c3 := fun A n c R w1 (h1 : RS w1 N2 A n c R) (hP1 : R.map RE.pl = P2.L) (hs : W.heap.size ≤ w1.heap.size) => rsync_any N2 A n c P2 R comN w1 h1 hP1 (fun k hk => Nat.lt_of_lt_of_le (n2_lt hN hE hN2 (Ext.refl _) k hk) hs) com_len (Nat.le_trans m2.2 ha)
  have c4 := fun A n c R w1 (h1 : RS w1 N2 A n c R) (hP1 : R.map RE.pl = P3.L) (hs : W.heap.size ≤ w1.heap.size) => rrename_any N2 A n c P3 R comN curN w1 h1 hP1 (fun k hk => Nat.lt_of_lt_of_le (n2_lt hN hE hN2 (Ext.refl _) k hk) hs) com_len cur_len (Nat.le_trans m3.2 ha)
  rw [h1] at c1
  rw [h2] at c2
  rw [h3] at c3
  rw [h4] at c4
  unfold RNext at c1 c2 c3 c4
  unfold rdisk str at c1 c2 c3 c4
  unfold rdisk
  replace c1 := hide c1
  replace c2 := hide c2
  replace c3 := hide c3
  replace c4 := hide c4
  replace hN2 := hide hN2
  clear h1 h2 h3 h4 hR hP ha hq hbn hbn2 m1 m2 m3 hb h
  go_enter Tryz.func46, Tryz.ntmps46
  go_wp2_with fail
  rw [← hW]
  replace hW := hide hW
  have d0 := hd.get
  go_wp2_with fail
  refine c1.out.mono ?_
  rintro e w1 ⟨A1, n1, c1, R1, rfl, hR1, hP1, hE1⟩
  have hd1 := hd.ext hE1
  have hr1 := hr.ext hE1
  have x := hd1.get
  have y := hd1.free
  have g1 := put4_row hd1 (.slice A1 n1 c1) (.int .i64 P1.quota) (.int .i64 P1.armed) (.bool P1.stopped)
  have k1 := (put4_chg w1 w.heap.size (.slice A1 n1 c1) (.int .i64 P1.quota) (.int .i64 P1.armed) (.bool P1.stopped)).row hr1 (by omega)
  have m1 := hR1.put4 (u0 := .slice A1 n1 c1) (u1 := .int .i64 P1.quota) (u2 := .int .i64 P1.armed) (u3 := .bool P1.stopped) hN2.out (Nat.le_refl w.heap.size) (by omega)
  have q1 := put4_ext (hE.trans hE1) (Nat.le_refl _) (.slice A1 n1 c1) (.int .i64 P1.quota) (.int .i64 P1.armed) (.bool P1.stopped)
  have s1 := (put4_chg w1 w.heap.size (.slice A1 n1 c1) (.int .i64 P1.quota) (.int .i64 P1.armed) (.bool P1.stopped)).size
  obtain ⟨v1, hv⟩ : ∃ wf, wf = put4 w1 w.heap.size (.slice A1 n1 c1) (.int .i64 P1.quota) (.int .i64 P1.armed) (.bool P1.stopped) := ⟨_, rfl⟩
  rw [← hv] at g1 k1 m1 q1 s1
  unfold put4 at hv
  have s1 := Nat.le_trans (Nat.le_refl _) (Nat.le_trans hE1.size s1)
  have rc := hr1.get
  have rf := hr1.free
  replace hv := hide hv
  replace hd1 := hide g1
  replace hr1 := hide k1
  clear g1 k1
  replace hP1 := hide hP1
  replace hR1 := hide hR1
  replace m1 := hide m1
  replace q1 := hide q1
  by_cases z1 : e1 = 0
  rotate_left
  · have zi : ¬ (e1 : Int) = 0 := by omega
    have zb : ((e1 : Int) != 0) = true := bne_iff_ne.2 zi
    obtain rfl : Z = (P1, e1) := by rw [hZ.out, if_neg z1]
    replace z1 := hide z1
    have hrw := hr1.out
    go_wp2_with fail
    rw [← hv.out]
    clear x y rc rf
    have hfin := put4_rn m1.out hP1.out hN2.out (Nat.le_succ _) hlt q1.out e1
    have hrf := put4_row hrw (.slice A1 n1 c1) (.int .i64 P1.quota) (.int .i64 P1.armed) (.bool P1.stopped)
    obtain ⟨wf, hwf⟩ : ∃ wf, wf = put4 v1 (w.heap.size + 1) (.slice A1 n1 c1) (.int .i64 P1.quota) (.int .i64 P1.armed) (.bool P1.stopped) := ⟨_, rfl⟩
    rw [← hwf] at hfin hrf
    unfold put4 at hwf
    rw [← hwf]
    have z := hrf.get
    clear hwf hrf
    exact bodyPost_ret (v := .tuple #[.agg #[.slice A1 n1 c1, .int .i64 P1.quota, .int .i64 P1.armed, .bool P1.stopped], .int .i64 e1]) (by simp [results, Tryz.results46, go_sem, z]) rfl hfin
  have zi : (e1 : Int) = 0 := by omega
  replace z1 := hide z1
  go_wp2_with fail
  rw [← hv.out]
  clear x y rc rf hv zi
  replace hd1 := hd1.out
  replace hr1 := hr1.out
  replace q1 := q1.out
  refine (c2.out A1 n1 c1 R1 v1 m1.out hP1.out q1 s1).mono ?_
  rintro e w2 ⟨A2, n2, c2, R2, rfl, hR2, hP2, hE2⟩
  have hd2 := hd1.ext hE2
  have hr2 := hr1.ext hE2
  have x := hd2.get
  have y := hd2.free
  have g2 := put4_row hd2 (.slice A2 n2 c2) (.int .i64 P2.quota) (.int .i64 P2.armed) (.bool P2.stopped)
  have k2 := (put4_chg w2 w.heap.size (.slice A2 n2 c2) (.int .i64 P2.quota) (.int .i64 P2.armed) (.bool P2.stopped)).row hr2 (by omega)
  have m2 := hR2.put4 (u0 := .slice A2 n2 c2) (u1 := .int .i64 P2.quota) (u2 := .int .i64 P2.armed) (u3 := .bool P2.stopped) hN2.out (Nat.le_refl w.heap.size) (by omega)
  have q2 := put4_ext (q1.trans hE2) (Nat.le_refl _) (.slice A2 n2 c2) (.int .i64 P2.quota) (.int .i64 P2.armed) (.bool P2.stopped)
  have s2 := (put4_chg w2 w.heap.size (.slice A2 n2 c2) (.int .i64 P2.quota) (.int .i64 P2.armed) (.bool P2.stopped)).size
  obtain ⟨v2, hv⟩ : ∃ wf, wf = put4 w2 w.heap.size (.slice A2 n2 c2) (.int .i64 P2.quota) (.int .i64 P2.armed) (.bool P2.stopped) := ⟨_, rfl⟩
  rw [← hv] at g2 k2 m2 q2 s2
  unfold put4 at hv
  have s2 := Nat.le_trans s1 (Nat.le_trans hE2.size s2)
  have rc := hr2.get
  have rf := hr2.free
  replace hv := hide hv
  replace hd2 := hide g2
  replace hr2 := hide k2
  clear g2 k2
  replace hP2 := hide hP2
  replace hR2 := hide hR2
  replace m2 := hide m2
  replace q2 := hide q2
  by_cases z2 : e2 = 0
  rotate_left
  · have zi : ¬ (e2 : Int) = 0 := by omega
    have zb : ((e2 : Int) != 0) = true := bne_iff_ne.2 zi
    obtain rfl : Z = (P2, e2) := by rw [hZ.out, if_pos z1.out, if_neg z2]
    replace z2 := hide z2
    have hrw := hr2.out
    go_wp2_with fail
    rw [← hv.out]
    clear x y rc rf
    have hfin := put4_rn m2.out hP2.out hN2.out (Nat.le_succ _) hlt q2.out e2
    have hrf := put4_row hrw (.slice A2 n2 c2) (.int .i64 P2.quota) (.int .i64 P2.armed) (.bool P2.stopped)
    obtain ⟨wf, hwf⟩ : ∃ wf, wf = put4 v2 (w.heap.size + 1) (.slice A2 n2 c2) (.int .i64 P2.quota) (.int .i64 P2.armed) (.bool P2.stopped) := ⟨_, rfl⟩
    rw [← hwf] at hfin hrf
    unfold put4 at hwf
    rw [← hwf]
    have z := hrf.get
    clear hwf hrf
    exact bodyPost_ret (v := .tuple #[.agg #[.slice A2 n2 c2, .int .i64 P2.quota, .int .i64 P2.armed, .bool P2.stopped], .int .i64 e2]) (by simp [results, Tryz.results46, go_sem, z]) rfl hfin
  have zi : (e2 : Int) = 0 := by omega
  replace z2 := hide z2
  go_wp2_with fail
  rw [← hv.out]
  clear x y rc rf hv zi
  replace hd2 := hd2.out
  replace hr2 := hr2.out
  replace q2 := q2.out
  refine (c3.out A2 n2 c2 R2 v2 m2.out hP2.out s2).mono ?_
  rintro e w3 ⟨A3, n3, c3, R3, rfl, hR3, hP3, hE3⟩
  have hd3 := hd2.ext hE3
  have hr3 := hr2.ext hE3
  have x := hd3.get
  have y := hd3.free
  have g3 := put4_row hd3 (.slice A3 n3 c3) (.int .i64 P3.quota) (.int .i64 P3.armed) (.bool P3.stopped)
  have k3 := (put4_chg w3 w.heap.size (.slice A3 n3 c3) (.int .i64 P3.quota) (.int .i64 P3.armed) (.bool P3.stopped)).row hr3 (by omega)
  have m3 := hR3.put4 (u0 := .slice A3 n3 c3) (u1 := .int .i64 P3.quota) (u2 := .int .i64 P3.armed) (u3 := .bool P3.stopped) hN2.out (Nat.le_refl w.heap.size) (by omega)
  have q3 := put4_ext (q2.trans hE3) (Nat.le_refl _) (.slice A3 n3 c3) (.int .i64 P3.quota) (.int .i64 P3.armed) (.bool P3.stopped)
  have s3 := (put4_chg w3 w.heap.size (.slice A3 n3 c3) (.int .i64 P3.quota) (.int .i64 P3.armed) (.bool P3.stopped)).size
  obtain ⟨v3, hv⟩ : ∃ wf, wf = put4 w3 w.heap.size (.slice A3 n3 c3) (.int .i64 P3.quota) (.int .i64 P3.armed) (.bool P3.stopped) := ⟨_, rfl⟩
  rw [← hv] at g3 k3 m3 q3 s3
  unfold put4 at hv
  have s3 := Nat.le_trans s2 (Nat.le_trans hE3.size s3)
  have rc := hr3.get
  have rf := hr3.free
  replace hv := hide hv
  replace hd3 := hide g3
  replace hr3 := hide k3
  clear g3 k3
  replace hP3 := hide hP3
  replace hR3 := hide hR3
  replace m3 := hide m3
  replace q3 := hide q3
  by_cases z3 : e3 = 0
  rotate_left
  · have zi : ¬ (e3 : Int) = 0 := by omega
    have zb : ((e3 : Int) != 0) = true := bne_iff_ne.2 zi
    obtain rfl : Z = (P3, e3) := by rw [hZ.out, if_pos z1.out, if_pos z2.out, if_neg z3]
    replace z3 := hide z3
    have hrw := hr3.out
    go_wp2_with fail
    rw [← hv.out]
    clear x y rc rf
    have hfin := put4_rn m3.out hP3.out hN2.out (Nat.le_succ _) hlt q3.out e3
    have hrf := put4_row hrw (.slice A3 n3 c3) (.int .i64 P3.quota) (.int .i64 P3.armed) (.bool P3.stopped)
    obtain ⟨wf, hwf⟩ : ∃ wf, wf = put4 v3 (w.heap.size + 1) (.slice A3 n3 c3) (.int .i64 P3.quota) (.int .i64 P3.armed) (.bool P3.stopped) := ⟨_, rfl⟩
    rw [← hwf] at hfin hrf
    unfold put4 at hwf
    rw [← hwf]
    have z := hrf.get
    clear hwf hrf
    exact bodyPost_ret (v := .tuple #[.agg #[.slice A3 n3 c3, .int .i64 P3.quota, .int .i64 P3.armed, .bool P3.stopped], .int .i64 e3]) (by simp [results, Tryz.results46, go_sem, z]) rfl hfin
  have zi : (e3 : Int) = 0 := by omega
  replace z3 := hide z3
  go_wp2_with fail
  rw [← hv.out]
  clear x y rc rf hv zi
  replace hd3 := hd3.out
  replace hr3 := hr3.out
  replace q3 := q3.out
  refine (c4.out A3 n3 c3 R3 v3 m3.out hP3.out s3).mono ?_
  rintro e w4 ⟨A4, n4, c4', R4, rfl, hR4, hP4, hE4⟩
  have hrw := hr3.ext hE4
  have y := hrw.get
  have f := hrw.free
  obtain rfl : Z = (P4, e4) := by rw [hZ.out, if_pos z1.out, if_pos z2.out, if_pos z3.out]
  go_wp2_with fail
  have hfin := put4_rn hR4 hP4 hN2.out (Nat.le_succ _) hlt (q3.trans hE4) e4
  have hrf := put4_row hrw (.slice A4 n4 c4') (.int .i64 P4.quota) (.int .i64 P4.armed) (.bool P4.stopped)
  obtain ⟨wf, hwf⟩ : ∃ wf, wf = put4 w4 (w.heap.size + 1) (.slice A4 n4 c4') (.int .i64 P4.quota) (.int .i64 P4.armed) (.bool P4.stopped) := ⟨_, rfl⟩
  rw [← hwf] at hfin hrf
  unfold put4 at hwf
  rw [← hwf]
  have z := hrf.get
  clear hwf hrf
  exact bodyPost_ret (v := .tuple #[.agg #[.slice A4 n4 c4', .int .i64 P4.quota, .int .i64 P4.armed, .bool P4.stopped], .int .i64 e4]) (by simp [results, Tryz.results46, go_sem, z]) rfl hfin
end Go.Proofs.YtaoolpnnomhnoaaGreatDoor

/- A disk's names, plainly. -/
namespace Go.Proofs.YtaoolpnnomhnoaaGreatDoor
open Go.RowKit Go.Maps

/-- All names are names. -/
def Nm (P : PD) : Prop := ∀ f ∈ P.L, namedM f.1 = true
theorem read_all {P : PD} (hN : Nm P) (hs : P.stopped = false) {s : List UInt8} {f : PF} (hf : P.find s = some f) : readM P s 0 ((f.2.1.length : Int) + 1) = (f.2.1, 0) := by
  have h1 := find_some hf
  have h2 : namedM s = true := by rw [← h1.2]; exact hN f h1.1
  unfold readM
  rw [if_pos h2, hs, if_neg (by simp), hf]
  have h3 : ¬ ((0 : Int) < 0 ∨ (f.2.1.length : Int) < 0 ∨ (f.2.1.length : Int) + 1 < 0) := by omega
  simp only
  rw [if_neg h3]
  have h4 : ((f.2.1.length : Int) + 1).toNat = f.2.1.length + 1 := by omega
  rw [h4]
  simp only [Int.toNat_zero, List.drop_zero]
  rw [List.take_of_length_le (by omega)]
theorem nm_with {P : PD} (h : Nm P) {f : PF} (hf : namedM f.1 = true) {L : List PF} (hL : ∀ x ∈ L, x ∈ P.L) : ∀ x ∈ withG fname f L, namedM x.1 = true := by
  intro x hx
  rcases mem_with.1 hx with rfl | ⟨hx, _⟩
  · exact hf
  · exact h x (hL x hx)
theorem nm_writes {P : PD} (h : Nm P) (ns : List (List UInt8)) (s : List UInt8) (k : PF → List PF) (hk : ns.all namedM = true → ∀ f ∈ P.L, ∀ x ∈ k f, namedM x.1 = true) : Nm (writesM P ns s k).1 := by
  unfold writesM
  split
  · rename_i ha
    split
    · exact h
    · split
      · rename_i f hf
        split
        · exact h
        · exact hk ha f (find_some hf).1
      · exact h
  · exact h
theorem nm_put {P : PD} (h : Nm P) {f : PF} (hf : namedM f.1 = true) (b : List UInt8) : Nm (putM P f b).1 := by
  unfold putM
  split
  · exact h
  · split
    · exact h
    · split
      · exact h
      · exact nm_with h (f := (f.1, f.2.1 ++ b, f.2.2)) hf fun _ h => h
theorem nm_append {P : PD} (h : Nm P) (s b : List UInt8) : Nm (appendM P s b).1 := by
  unfold appendM
  split
  · rename_i hs
    split
    · exact h
    · split
      · rename_i f hf
        exact nm_put h (h f (find_some hf).1) b
      · split
        · exact h
        · exact nm_put h (f := (s, [], 0)) hs b
  · exact h
theorem nm_sync {P : PD} (h : Nm P) (s : List UInt8) : Nm (syncM P s).1 := nm_writes h _ _ _ fun _ f hf => nm_with h (f := (f.1, f.2.1, f.2.1.length)) (h f hf) fun _ h => h
theorem nm_rename {P : PD} (h : Nm P) (s t : List UInt8) : Nm (renameM P s t).1 := by
  refine nm_writes h _ _ _ fun ha f hf => nm_with h (f := (t, f.2.1, f.2.2)) ?_ fun _ hx => (mem_without.1 hx).1
  simp only [List.all_cons, Bool.and_eq_true] at ha
  exact ha.1
theorem nm_remove {P : PD} (h : Nm P) (s : List UInt8) : Nm (removeM P s).1 := nm_writes h _ _ _ fun _ f hf x hx => h x (mem_without.1 hx).1
theorem nm_restart {P : PD} (h : Nm P) (keep : List Int) : Nm (restartM P keep) := by
  intro f hf
  have hf2 : f ∈ keptM P.L keep := hf
  unfold keptM at hf2
  obtain ⟨i, hi, rfl⟩ := List.mem_mapIdx.1 hf2
  exact h P.L[i] (List.getElem_mem hi)
theorem nm_gone {P : PD} (h : Nm P) : Nm (goneM P).1 := by
  unfold goneM
  split
  · exact nm_remove h _
  · exact h
theorem nm_chain : ∀ (fs : List (PD → PD × Nat)) (P : PD), Nm P → (∀ f ∈ fs, ∀ P, Nm P → Nm (f P).1) → Nm (chainM fs P).1
  | [], P, h, _ => h
  | f :: fs, P, h, hf => by
    have h1 := hf f (List.mem_cons_self ..) P h
    by_cases h0 : (f P).2 = 0
    · rw [chain_go h0]; exact nm_chain fs _ h1 fun g hg => hf g (List.mem_cons_of_mem _ hg)
    · rw [chain_no h0]; exact h1
theorem nm_steps {P : PD} (h : Nm P) (b : List UInt8) : Nm (stepsM P b).1 := by
  unfold stepsM
  refine nm_chain _ P h fun f hf Q hQ => ?_
  simp only [List.mem_cons, List.not_mem_nil, or_false] at hf
  rcases hf with rfl | rfl | rfl | rfl
  · exact nm_gone hQ
  · exact nm_append hQ _ _
  · exact nm_sync hQ _
  · exact nm_rename hQ _ _
theorem nm_save {P : PD} (h : Nm P) (m : Mf) : Nm (saveM P m).1 := by
  unfold saveM
  split
  · split
    · exact nm_steps h _
    · exact nm_gone (nm_steps h _)
  · exact h
end Go.Proofs.YtaoolpnnomhnoaaGreatDoor

/- What came in: a cell's place; rows of integers. -/
namespace Go.Proofs.YtaoolpnnomhnoaaGreatDoor
open Go.ChangeShapes Go.WideShapes Go.Deep Go.RowKit

theorem cell_lt {w : World} {a : Addr} {v : Value} (h : w.cell? a = some v) : a.block < w.heap.size ∧ a.spot = none := by
  unfold World.cell? at h
  split at h
  · rename_i c _ _ hb
    refine ⟨(Array.getElem?_eq_some_iff.1 hb).1, ?_⟩
    cases hs : a.spot with
    | none => rfl
    | some s => rw [hs] at h; simp at h
  · cases h
theorem list_of {α : Type} {Q : Nat → α → Prop} : ∀ (n : Nat), (∀ i, i < n → ∃ x, Q i x) → ∃ l : List α, l.length = n ∧ ∀ i x, l[i]? = some x → Q i x
  | 0, _ => ⟨[], rfl, fun i x h => by simp at h⟩
  | n + 1, h => by
    obtain ⟨l, hl, hq⟩ := list_of n fun i hi => h i (by omega)
    obtain ⟨x, hx⟩ := h n (by omega)
    refine ⟨l ++ [x], by simp [hl], fun i y hy => ?_⟩
    rw [List.getElem?_append] at hy
    split at hy
    · exact hq i y hy
    · rename_i hi
      have : i = n := by
        have := (List.getElem?_eq_some_iff.1 hy).1
        simp at this
        omega
      subst this
      rw [hl] at hy
      simp at hy
      rw [← hy]
      exact hx
section
variable {H : Type} {enc : TypeId × Value → H} {w : World} {base : Nat} {spare : Nat → Bool} {held : Bool}
set_option maxRecDepth 100000 in
theorem in_ints {t e : TypeId} {k : IntKind} {fuel : Nat} {v : Value} {x : DataW H × List MemPlace} (ht : Tryz.prog.underlying t = some (.slice e)) (he : Tryz.prog.underlying e = some (.int k)) (hc : Tryz.prog.cellsOf e = 1)
    (h : DataW.trod enc Tryz.prog w base spare held fuel t [v] = some x) :
    ∃ (A : Option Addr) (len cap : Nat) (zs : List Int), v = .slice A len cap ∧ len = zs.length ∧ Cells w A (zs.map (Value.int k)) ∧ (zs ≠ [] → ∀ a, A = some a → a.block < w.heap.size ∧ a.spot = none) ∧ len ≤ cap ∧ len ≤ 9223372036854775807 ∧ ∀ z ∈ zs, (Lit.int k z).wf = true := by
  rcases open_ints ht he hc h with ⟨hcs, _⟩ | ⟨y, m, c, zs, hcs, _, hl, hm, hz, _, hcell, hwz⟩
  · obtain rfl : v = .slice none 0 0 := by simpa using hcs
    exact ⟨none, 0, 0, [], rfl, rfl, .inl rfl, fun h => absurd rfl h, by omega, by omega, nofun⟩
  · obtain rfl : v = .slice (some y) m c := by simpa using hcs
    have hzl : m ≤ zs.length := by rw [hz]; split <;> omega
    have hml : m ≤ 9223372036854775807 := by unfold maxLen at hm; omega
    refine ⟨some y, m, c, zs.take m, rfl, by simp; omega, ?_, ?_, hl, hml, fun z hz => hwz z (List.mem_of_mem_take hz)⟩
    · rcases Nat.eq_zero_or_pos m with rfl | hm0
      · exact .inl rfl
      · have h0 := hcell 0 (by omega)
        have hs := (cell_lt h0).2
        obtain ⟨b, o, s⟩ := y
        obtain rfl : s = none := hs
        refine .inr ⟨b, o, rfl, fun i u hu => ?_⟩
        rw [List.getElem?_map, List.getElem?_take] at hu
        split at hu
        · rename_i hi
          have hi2 : i < zs.length := by omega
          rw [List.getElem?_eq_getElem hi2] at hu
          simp only [Option.map_some] at hu
          have h1 := hcell i hi2
          rw [Addr.add_lit] at h1
          rw [h1, ← hu]
          simp [List.getD, hi2]
        · simp at hu
    · intro hne a ha
      obtain rfl : y = a := by simpa using ha
      have hm0 : 0 < m := by
        rcases Nat.eq_zero_or_pos m with rfl | hm0
        · exact absurd rfl hne
        · exact hm0
      exact cell_lt (hcell 0 (by omega))
end
end Go.Proofs.YtaoolpnnomhnoaaGreatDoor

/- What came in: structs, rows of structs; the world's shape kept. -/
namespace Go.Proofs.YtaoolpnnomhnoaaGreatDoor
open Go.ChangeShapes Go.WideShapes Go.Deep Go.RowKit

section
variable {H : Type} {enc : TypeId × Value → H} {w : World} {base : Nat} {spare : Nat → Bool} {held : Bool}
/-- A struct's fields, each of one cell. -/
theorem in_fields {t : TypeId} {fs : Array Field} {tys : Array TypeId} {fuel : Nat} {cs : List Value} {y : DataW H × List MemPlace} (hfs : Tryz.prog.underlying t = some (.struct fs)) (hone : oneCellFields Tryz.prog fs = true) (hty : fs.map Field.type = tys)
    (h : DataW.trod enc Tryz.prog w base spare held fuel t cs = some y) : ∃ n, ∀ (j : Nat) (t : TypeId) (v : Value), tys[j]? = some t → cs[j]? = some v → ∃ z, DataW.trod enc Tryz.prog w base spare held n t [v] = some z := by
  obtain ⟨ys, n, hn, hy, hlen, hyl, hf⟩ := DataW.trod_struct hfs h
  refine ⟨n, fun j t v hj hv => ?_⟩
  rw [← hty, Array.getElem?_map] at hj
  obtain ⟨f, hfj, rfl⟩ := Option.map_eq_some_iff.1 hj
  obtain ⟨ho, hk⟩ := hone_of hone j f hfj
  have h1 := hf j f hfj
  have hjl : j < cs.length := (List.getElem?_eq_some_iff.1 hv).1
  rw [ho, hk, List.drop_eq_getElem_cons hjl] at h1
  have hv2 : cs[j] = v := by rw [List.getElem?_eq_getElem hjl] at hv; simpa using hv
  rw [hv2] at h1
  have hjy : j < ys.length := by rw [hyl]; exact (Array.getElem?_eq_some_iff.1 hfj).1
  rw [List.getElem?_eq_getElem hjy] at h1
  exact ⟨_, h1⟩
theorem flat_len_of {α : Type} {k : Nat} {cellsA : α → List Value} (hlen : ∀ x, (cellsA x).length = k) : ∀ xs : List α, (xs.flatMap cellsA).length = xs.length * k
  | [] => by simp
  | x :: xs => by rw [List.flatMap_cons, List.length_append, hlen, flat_len_of hlen xs, List.length_cons, Nat.add_mul, Nat.one_mul, Nat.add_comm]
theorem flat_get_of {α : Type} {k : Nat} {cellsA : α → List Value} (hlen : ∀ x, (cellsA x).length = k) : ∀ (xs : List α) (i : Nat) (x : α) (j : Nat), xs[i]? = some x → j < k → (xs.flatMap cellsA)[i * k + j]? = (cellsA x)[j]?
  | [], i, x, j, h, _ => by simp at h
  | y :: xs, 0, x, j, h, hj => by
    obtain rfl : y = x := by simpa using h
    rw [List.flatMap_cons, List.getElem?_append_left (by rw [hlen]; omega), Nat.zero_mul, Nat.zero_add]
  | y :: xs, i + 1, x, j, h, hj => by
    have h' : xs[i]? = some x := by simpa using h
    rw [List.flatMap_cons, List.getElem?_append_right (by rw [hlen, Nat.add_mul, Nat.one_mul]; omega), hlen, show (i + 1) * k + j - k = i * k + j by rw [Nat.add_mul, Nat.one_mul]; omega]
    exact flat_get_of hlen xs i x j h' hj
/-- A slice that came in: the row of its elements. -/
theorem in_row_of {t e : TypeId} {k fuel : Nat} {v : Value} {x : DataW H × List MemPlace} {α : Type} {cellsA : α → List Value} {Q : α → Prop} (ht : Tryz.prog.underlying t = some (.slice e)) (hc : Tryz.prog.cellsOf e = k) (hk0 : 0 < k) (hlen : ∀ x, (cellsA x).length = k)
    (hel : ∀ (fuel : Nat) (cs : List Value) (y : DataW H × List MemPlace), cs.length = k → DataW.trod enc Tryz.prog w base spare held fuel e cs = some y → ∃ x, Q x ∧ cellsA x = cs) (h : DataW.trod enc Tryz.prog w base spare held fuel t [v] = some x) :
    ∃ (A : Option Addr) (c : Nat) (xs : List α), v = .slice A xs.length c ∧ Cells w A (xs.flatMap cellsA) ∧ (xs ≠ [] → ∀ a, A = some a → a.block < w.heap.size ∧ a.spot = none) ∧ xs.length ≤ c ∧ xs.length ≤ 9223372036854775807 ∧ ∀ x ∈ xs, Q x := by
  rcases open_slice ht h with ⟨hcs, _⟩ | ⟨a, m, c, k', n, D, Pl, hcs, hb, hl, hm, hk, hx, hi⟩
  · obtain rfl : v = .slice none 0 0 := by simpa using hcs
    exact ⟨none, 0, [], rfl, .inl rfl, fun h => absurd rfl h, Nat.le_refl _, by show 0 ≤ _; omega, nofun⟩
  · obtain rfl : v = .slice (some a) m c := by simpa using hcs
    rw [hc] at hi
    have hlk : m ≤ k' := by rw [hk]; split <;> omega
    obtain ⟨xs, hpl, hps⟩ := list_of (Q := fun i (p : α) => Q p ∧ ∀ j v, (cellsA p)[j]? = some v → w.cell? ((a.add (i * k)).add j) = some v) m fun i hil => by
      obtain ⟨cs, hc, ht⟩ := hi i (by omega)
      obtain ⟨_, hcl, hat⟩ := World.cells?_some hc
      obtain ⟨p, hp, rfl⟩ := hel _ _ _ hcl ht
      exact ⟨p, hp, fun j v hv => by rw [hat j (by have := (List.getElem?_eq_some_iff.1 hv).1; omega)]; exact hv⟩
    subst hpl
    have hat : ∀ i v, (xs.flatMap cellsA)[i]? = some v → w.cell? (a.add i) = some v := fun i v hv => by
      have hil : i < (xs.flatMap cellsA).length := (List.getElem?_eq_some_iff.1 hv).1
      rw [flat_len_of hlen] at hil
      have hdiv : i / k < xs.length := Nat.div_lt_of_lt_mul (by rw [Nat.mul_comm]; exact hil)
      have hg := flat_get_of hlen xs (i / k) xs[i / k] (i % k) (List.getElem?_eq_getElem hdiv) (Nat.mod_lt _ hk0)
      have hii : i / k * k + i % k = i := Nat.div_add_mod' i k
      rw [hii, hv] at hg
      have := (hps (i / k) _ (List.getElem?_eq_getElem hdiv)).2 (i % k) v hg.symm
      rw [Addr.add_add, hii] at this
      exact this
    have hlt : xs ≠ [] → a.block < w.heap.size ∧ a.spot = none := fun hne => by
      have h0 : 0 < (xs.flatMap cellsA).length := by
        rw [flat_len_of hlen]
        exact Nat.mul_pos (List.length_pos_iff.2 hne) hk0
      have := hat 0 _ (List.getElem?_eq_getElem h0)
      have := cell_lt this
      simpa [Addr.add] using this
    refine ⟨some a, c, xs, rfl, ?_, fun hne b hb => by cases hb; exact hlt hne, hl, by unfold maxLen at hm; omega, fun p hp => ?_⟩
    · by_cases hne : xs = []
      · rw [hne]; exact .inl rfl
      · obtain ⟨b, o, s⟩ := a
        obtain rfl : s = none := (hlt hne).2
        exact .inr ⟨b, o, rfl, fun i v hv => by have := hat i v hv; rw [Addr.add_lit] at this; exact this⟩
    · obtain ⟨i, hil, rfl⟩ := List.mem_iff_getElem.1 hp
      exact (hps i _ (List.getElem?_eq_getElem hil)).1
end
section
variable {H : Type} {enc : TypeId × Value → H}
/-- A condition on the first world, and its shape, handed to the walk. -/
theorem handed_shaped {a : Assume} {C : Checked} {os : Os} {f : FuncId} {fn : Func} {s : ChangeSpec} {conds : List PathCond} {apart fresh handsOn again : Bool} {X : World → Array Value → Prop}
    (hX : ∀ (w w' : World) (args : Array Value), w.heap = w'.heap → X w args → X w' args)
    (own : ownKnob C.prog.godebug = none) (started : os.Started) (noInit : C.prog.inits.idxOf? f = none) (hfn : C.prog.funcs[f]? = some fn)
    (witness : ∃ (w : World) (tape : Tape) (i : Input), w.os = os ∧ (w.forCall tape i).Shaped C.prog ∧ i.vars = [] ∧ Input.okWide C.prog (w.forCall tape i) .any w.heap.size f i ∧
      ((s.pre enc C.prog fn conds apart (w.forCall tape i).memory i.args ∧ X (w.forCall tape i).memory i.args) ∧ sizedMet enc C.prog fn (OpenSpec.ofChange s) apart (w.forCall tape i).memory i.args) ∧ a.holds C.prog (lone (Frame.enter C.prog f i.args .normal) [] (w.forCall tape i)))
    (contract : ∀ (W : World) (base : Nat) (args : Array Value) (ds gs : List (DataW H)) (before : List MemPlace),
      (∀ (j : Nat) t v, fn.params[j]? = some t → args[j]? = some v → Value.okWide C.prog W .any base t v) →
      DataW.Whole enc C.prog fn.params.toList s.vars apart W args.toList ds gs before → X W args → W.ShapedOpen C.prog →
      Calls C.prog f args W fun e W' => ∃ v, e = .returned v ∧ s.post enc C.prog fn apart fresh handsOn again W args v W') :
    ReturnsInHanded a C os f .any (fun w args => (s.pre enc C.prog fn conds apart w args ∧ X w args) ∧ sizedMet enc C.prog fn (OpenSpec.ofChange s) apart w args) (s.post enc C.prog fn apart fresh handsOn again) := by
  refine returnsInHanded_of_calls own started noInit witness ?_
  rintro w tape i _ hshape _ ⟨_, _, _, fn', hfn', _, _, _, _, hval⟩ ⟨⟨⟨ds, gs, before, hw, _⟩, hx⟩, _⟩ _
  obtain rfl : fn' = fn := Option.some.inj (hfn'.symm.trans hfn)
  refine (contract (w.forCall tape i) w.heap.size i.args ds gs before hval (DataW.Whole.of_heap (by rfl) hw) (hX _ _ _ (by rfl) hx) hshape).mono fun e W' ⟨v, he, hp⟩ => ?_
  subst he
  exact ChangeSpec.post_blind hp
end
end Go.Proofs.YtaoolpnnomhnoaaGreatDoor

