/- loggiaref06: Append. -/
import Derived.Test.YticnncgbfpgeaaaDrI
import Derived.Deep.RegionHeld3
import Derived.Deep.QuietTactic
import Derived.BigQuiet
namespace Go.Proofs.Yticnncgbfpgeaaa
open Go.RowKit Go.Maps

/-- The file that Append has found, or made. -/
structure RGot (W : World) (N : Nat → Prop) (P : PD) (R : List RE) (s : List UInt8) (ok : Bool) (f : RE) : Prop where
  name : f.name = s
  has : ROk W N f
  here : ok = true → f ∈ R ∧ P.find s = some f.pl
  away : ok = false → P.find s = none ∧ f.b = [] ∧ f.sure = 0
theorem RGot.plain {W : World} {N : Nat → Prop} {P : PD} {R : List RE} {s : List UInt8} {ok : Bool} {f : RE} (h : RGot W N P R s ok f) (hP : R.map RE.pl = P.L) (hn : namedM s = true) (hst : P.stopped = false) (b : List UInt8) :
    appendM P s b = if ok = false ∧ 1024 ≤ R.length then (P, 3) else putM P (s, f.b, f.sure) b := by
  unfold appendM
  rw [hn, hst]
  have hl : P.L.length = R.length := by rw [← hP, List.length_map]
  cases ok with
  | true =>
    rw [(h.here rfl).2]
    have : f.pl = (s, f.b, f.sure) := by unfold RE.pl; rw [h.name]
    rw [this]
    simp
  | false =>
    obtain ⟨h1, h2, h3⟩ := h.away rfl
    rw [h1, hl, h2, h3]
    by_cases hc : 1024 ≤ R.length
    · simp [hc]
    · simp [hc]
def RCut (w1 : World) (bF : Nat) (N : Nat → Prop) (P : PD) (R : List RE) (s : List UInt8) (ok : Bool) (f : RE) (wx : World) : Prop :=
  RGot wx N P R s ok f ∧ Row wx bF 53 #[.string ⟨s.toArray⟩, .slice f.A f.b.length f.c, .int .i64 f.sure] ∧ Chg (fun k => k = bF) w1 wx
theorem own_lt2 {w : World} {base : Nat} {e : TypeId} {size n c : Nat} {A : Option Addr} {xs : List Value} (h : w.ownsRow base e size (.slice A n c) n xs) : ∀ a, A = some a → base ≤ a.block ∧ a.block < w.heap.size ∧ a.spot = none := by
  rintro a rfl
  rcases h.2 with ⟨hv, _⟩ | ⟨g, cap, cur, hv, hb, hg, _⟩
  · cases hv
  · cases hv
    exact ⟨hb, (Array.getElem?_eq_some_iff.1 hg).1, rfl⟩
theorem own_cap2 {w : World} {base : Nat} {e : TypeId} {size n c : Nat} {A : Option Addr} {xs : List Value} (ho : w.ownsRow base e size (.slice A n c) n xs) : n ≤ c := by
  rcases ho.2 with ⟨hv, h0⟩ | ⟨g, cap, cur, hv, hb, hg, hnc, _⟩
  · cases hv; omega
  · cases hv; exact hnc
set_option maxRecDepth 100000 in
set_option maxHeartbeats 4000000 in
theorem rappend_good (N : Nat → Prop) (A : Option Addr) (n c : Nat) (P : PD) (R : List RE) (s b : List UInt8) (B : Option Addr) (bn bc : Nat) (w : World) (h : RS w N A n c R) (hP : R.map RE.pl = P.L) (hN : ∀ k, N k → k < w.heap.size) (hs : s.length ≤ 9223372036854775807) (ha : P.armed ≤ 9223372036854775807)
    (hb : Bs w B b) (hbn : bn = b.length) (hbn2 : bn ≤ 1073741824) (hqb : P.quota ≤ 9223372036854775807) (hnmd : namedM s = true) (hst : P.stopped = false) :
    Calls Try.prog 40 #[rdisk A n c P.quota P.armed P.stopped, str s, .slice B bn bc] w (RNext N (appendM P s b) w) := by
  obtain ⟨q, hq⟩ : ∃ q, q = P.quota := ⟨_, rfl⟩
  obtain ⟨a, ha'⟩ : ∃ q, q = P.armed := ⟨_, rfl⟩
  rw [← hq, ← ha', hst]
  rw [← ha'] at ha
  rw [← hq] at hqb
  obtain ⟨W0, hW0⟩ : ∃ W0, W0 = (w.alloc (.cells #[.slice A n c, .int .i64 q, .int .i64 a, .bool false] 36)).alloc (.cells #[.slice none 0 0, .int .i64 0, .int .i64 0, .bool false] 36) := ⟨_, rfl⟩
  obtain ⟨W, hW⟩ : ∃ W, W = W0.alloc (.cells #[.string ⟨s.toArray⟩, .slice none 0 0, .int .i64 0] 53) := ⟨_, rfl⟩
  have hE0 : Ext w W0 := by rw [hW0]; exact ((Ext.refl w).alloc _).alloc _
  have hEo : Ext W0 W := by rw [hW]; exact (Ext.refl W0).alloc _
  have hE := hE0.trans hEo
  have hW0s : W0.heap.size = w.heap.size + 2 := by rw [hW0, size_alloc, size_alloc]
  have hWs : W.heap.size = w.heap.size + 3 := by rw [hW, size_alloc, hW0s]
  have hd : Row W w.heap.size 36 #[.slice A n c, .int .i64 q, .int .i64 a, .bool false] := by
    refine Row.ext ?_ hEo
    rw [hW0]
    exact (Row.new w _ _).alloc _
  have hr2 : Row W (w.heap.size + 1) 36 #[.slice none 0 0, .int .i64 0, .int .i64 0, .bool false] := by
    have := Row.new (w.alloc (.cells #[.slice A n c, .int .i64 q, .int .i64 a, .bool false] 36)) 36 #[.slice none 0 0, .int .i64 0, .int .i64 0, .bool false]
    rw [size_alloc] at this
    refine Row.ext ?_ hEo
    rw [hW0]
    exact this
  obtain ⟨bF, hbF⟩ : ∃ bF, bF = W0.heap.size := ⟨_, rfl⟩
  have hbFs : bF = w.heap.size + 2 := by rw [hbF, hW0s]
  have hfr : Row W bF 53 #[.string ⟨s.toArray⟩, .slice none 0 0, .int .i64 0] := by
    rw [hW, hbF]
    exact Row.new W0 _ _
  obtain ⟨N2, hN2⟩ : ∃ N2 : Nat → Prop, N2 = fun k => N k ∨ (w.heap.size ≤ k ∧ k < w.heap.size + 3) := ⟨_, rfl⟩
  have hsub : ∀ k, k < w.heap.size → N2 k → N k := by
    intro k hk hn
    rw [hN2] at hn
    rcases hn with hn | hn
    · exact hn
    · omega
  have hN2s : ∀ k, N2 k → k < W.heap.size := by
    intro k hn
    rw [hN2] at hn
    rcases hn with hn | hn
    · have := hN k hn
      omega
    · rw [hWs]; omega
  have hN2i : ∀ k, k = w.heap.size ∨ k = w.heap.size + 1 ∨ k = bF → N2 k := by
    intro k hk
    rw [hN2]
    exact .inr (by omega)
  have hRW : RS W N2 A n c R := h.chg (Chg.of_ext hE (fun _ => False)) (fun _ _ h => h.elim) hsub
  have hnm := rnamed_any s W0 hs
  rw [hnmd] at hnm
  have hfa := rfind_any N2 A n c q a false R s W hRW
  have hW0x := hide hW0.symm
  have hWx := hide hW.symm
  clear hW0 hW
  have d0 : W0.cell? ⟨w.heap.size, 3, none⟩ = some (.bool false) := by
    have := hd.cell 3 rfl
    rw [hW0x.out] at *
    have h2 := World.cell?_of_block (a := ⟨w.heap.size, 3, none⟩) (Below.block hEo w.heap.size (by rw [hW0s]; omega))
    rw [← h2]
    exact this
  have e0 : W.cell? ⟨w.heap.size, 0, none⟩ = some (.slice A n c) := hd.cell 0 rfl
  have e1 : W.cell? ⟨w.heap.size, 1, none⟩ = some (.int .i64 q) := hd.cell 1 rfl
  have e2 : W.cell? ⟨w.heap.size, 2, none⟩ = some (.int .i64 a) := hd.cell 2 rfl
  have e3 : W.cell? ⟨w.heap.size, 3, none⟩ = some (.bool false) := hd.cell 3 rfl
  obtain ⟨ix, hix⟩ : ∃ ix, ix = (rfind R s).getD 0 := ⟨_, rfl⟩
  obtain ⟨ok, hok⟩ : ∃ ok, ok = (rfind R s).isSome := ⟨_, rfl⟩
  rw [← hix, ← hok] at hfa
  unfold rdisk str at hfa ⊢
  unfold str at hnm
  replace hfa := hide hfa
  replace hnm := hide hnm
  replace hW0s := hide hW0s
  replace hWs := hide hWs
  replace hix := hide hix
  replace hok := hide hok
  replace hbn := hide hbn
  replace hq := hide hq
  replace ha' := hide ha'
  replace hst := hide hst
  replace hnmd := hide hnmd
  go_enter Try.func40, Try.ntmps40
  go_wp2_with fail
  rw [hW0x.out]
  refine hnm.out.mono ?_
  rintro e w1 ⟨rfl, hw1⟩
  replace hw1 := hw1.symm
  subst hw1
  have hbFy := hbF.symm
  replace hbF := hide hbF
  replace hbFs := hide hbFs
  go_upto_region 6 with (fail)
  rw [hWx.out]
  replace hbFy := hide hbFy
  go_wp2_with fail
  refine hfa.out.mono ?_
  rintro e w1 ⟨rfl, hE1⟩
  have hd1 := hd.ext hE1
  have hf1 := hfr.ext hE1
  have hR1 := hRW.ext hE1
  have g0 : w1.cell? ⟨w.heap.size, 0, none⟩ = some (.slice A n c) := hd1.cell 0 rfl
  have p0 : w1.cell? ⟨bF, 0, none⟩ = some (.string ⟨s.toArray⟩) := hf1.cell 0 rfl
  have p1 : w1.cell? ⟨bF, 1, none⟩ = some (.slice none 0 0) := hf1.cell 1 rfl
  have p2 : w1.cell? ⟨bF, 2, none⟩ = some (.int .i64 0) := hf1.cell 2 rfl
  have q0 := hf1.free 0
  have q1 := hf1.free 1
  have q2 := hf1.free 2
  have hmany := h.many
  go_upto_if 28 with (fail)
  go_cut [] (fun wx => ∃ f0 : RE, RCut w1 bF N2 P R s ok f0 wx)
  case first =>
    rcases rfind_pl hP s with ⟨i, r, hf, hr, hn, hfd⟩ | ⟨hf, hfd⟩
    · have hok2 : ok = true := by rw [hok.out, hf]; rfl
      have hix2 : ix = i := by rw [hix.out, hf]; rfl
      subst hok2 hix2
      have hin : ix < n := by rw [h.len]; exact (List.getElem?_eq_some_iff.1 hr).1
      obtain ⟨g, o, r', hAg, hr', k0, k1, k2⟩ := hR1.at_ hin
      obtain rfl : r' = r := by rw [hr] at hr'; cases hr'; rfl
      subst hAg
      unfold str at k0
      have hrm := List.mem_of_getElem? hr
      have hokr := hR1.ok r' hrm
      replace hf := hide hf
      replace hr := hide hr
      replace hn := hide hn
      replace hfd := hide hfd
      clear hr'
      go_wp2_with fail
      go_meet
      case rel =>
        have hcx : Chg (fun k => k = bF) w1 (((w1.setCell ⟨bF, 0, none⟩ (.string ⟨r'.name.toArray⟩)).setCell ⟨bF, 1, none⟩ (.slice r'.A r'.b.length r'.c)).setCell ⟨bF, 2, none⟩ (.int .i64 r'.sure)) :=
          ((Chg.of_set (S := fun k => k = bF) w1 (a := ⟨bF, 0, none⟩) _ rfl).trans (Chg.of_set (S := fun k => k = bF) _ (a := ⟨bF, 1, none⟩) _ rfl) fun _ _ h => h).trans (Chg.of_set (S := fun k => k = bF) _ (a := ⟨bF, 2, none⟩) _ rfl) fun _ _ h => h
        refine ⟨r', ⟨hn.out, hokr.chg hcx (fun k _ hk => hN2i k (.inr (.inr hk))) (fun _ _ h => h), fun _ => ⟨hrm, hfd.out⟩, nofun⟩, ?_, hcx⟩
        rw [← hn.out]
        exact ((hf1.put 0 _).put 1 _).put 2 _
    · have hok2 : ok = false := by rw [hok.out, hf]; rfl
      subst hok2
      replace hf := hide hf
      replace hfd := hide hfd
      go_wp2_with fail
      go_meet
      case rel => exact ⟨⟨s, [], 0, none, 0⟩, ⟨rfl, ⟨.inl rfl, by simp, fun _ => rfl, nofun, by simp, hs, by simp⟩, nofun, fun _ => ⟨hfd.out, rfl, rfl⟩⟩, hf1, Chg.refl _ _⟩
  case rest =>
    obtain ⟨f0, hG, hfx, hcx⟩ := hcut
    obtain ⟨wx, rfl⟩ : ∃ wx, wx = wc := ⟨_, rfl⟩
    have hpl := hG.plain hP hnmd.out hst.out b
    rw [← h.len] at hpl
    have hEx : Ext w wx := (hE.trans hE1).chg hcx fun i hi hh => by rw [hbFs.out] at hh; omega
    have hdx : Row wx w.heap.size 36 #[.slice A n c, .int .i64 q, .int .i64 a, .bool false] := hcx.row hd1 (by rw [hbFs.out]; omega)
    have hrx : Row wx (w.heap.size + 1) 36 #[.slice none 0 0, .int .i64 0, .int .i64 0, .bool false] := hcx.row (hr2.ext hE1) (by rw [hbFs.out]; omega)
    have hRx : RS wx N2 A n c R := hR1.chg hcx (fun k _ hk => hN2i k (.inr (.inr hk))) (fun _ _ h => h)
    have c0 : wx.cell? ⟨w.heap.size, 0, none⟩ = some (.slice A n c) := hdx.cell 0 rfl
    have c1 : wx.cell? ⟨w.heap.size, 1, none⟩ = some (.int .i64 q) := hdx.cell 1 rfl
    have c2 : wx.cell? ⟨w.heap.size, 2, none⟩ = some (.int .i64 a) := hdx.cell 2 rfl
    have c3 : wx.cell? ⟨w.heap.size, 3, none⟩ = some (.bool false) := hdx.cell 3 rfl
    have x0 := hrx.cell 0 rfl
    have x1 := hrx.cell 1 rfl
    have x2 := hrx.cell 2 rfl
    have x3 := hrx.cell 3 rfl
    have y0 := hrx.free 0
    have y1 := hrx.free 1
    have y2 := hrx.free 2
    have y3 := hrx.free 3
    have f1x : wx.cell? ⟨bF, 1, none⟩ = some (.slice f0.A f0.b.length f0.c) := hfx.cell 1 rfl
    have hlen0 := hG.has.len
    obtain ⟨bl, hbl⟩ : ∃ x, x = f0.b.length := ⟨_, rfl⟩
    rw [← hbl] at f1x hlen0
    have done : ∀ (k : Nat) (wf : World), appendM P s b = (P, k) → Ext w wf → RNext N (appendM P s b) w (.returned (.tuple #[.agg #[.slice A n c, .int .i64 q, .int .i64 a, .bool false], .int .i64 k])) wf := by
      intro k wf hk hEf
      rw [hk, hq.out, ha'.out, ← hst.out]
      exact rnext_same h hP hEf
    replace done := hide done
    replace hbl := hide hbl
    clear g0 p0 p1 p2 q0 q1 q2 hd1 hf1 hR1 e0 e1 e2 e3 d0
    by_cases hm : ok = false ∧ 1024 ≤ n
    · rw [if_pos hm] at hpl
      obtain ⟨hok2, h2⟩ := hm
      subst hok2
      replace hpl := hide hpl
      go_wp2_with fail
      have hfin := tup_out hrx hEx (Nat.le_succ _) (A := A) (n := n) (c := c) (q := q) (a := a) (st := false)
      obtain ⟨wf, hwf⟩ : ∃ wf, wf = ((((wx.setCell ⟨w.heap.size + 1, 0, none⟩ (.slice A n c)).setCell ⟨w.heap.size + 1, 1, none⟩ (.int .i64 q)).setCell ⟨w.heap.size + 1, 2, none⟩ (.int .i64 a)).setCell ⟨w.heap.size + 1, 3, none⟩ (.bool false)) := ⟨_, rfl⟩
      rw [← hwf] at hfin ⊢
      obtain ⟨z0, z1, z2, z3, hEf, _⟩ := hfin
      exact bodyPost_ret (v := .tuple #[.agg #[.slice A n c, .int .i64 q, .int .i64 a, .bool false], .int .i64 3]) (by simp [results, Try.results40, go_sem, z0, z1, z2, z3]) rfl (done.out 3 wf hpl.out hEf)
    · rw [if_neg hm] at hpl
      unfold putM at hpl
      simp only [] at hpl
      rw [← hbl.out, ← hbn.out] at hpl
      replace hpl := hide hpl
      go_upto_region 9 with (fail)
      go_cut [41] (fun s41 wy => s41 = .bool false ∧ wy = wx)
      case first =>
        rcases (by cases ok <;> simp : ok = true ∨ ok = false) with hok2 | hok2
        · subst hok2
          go_wp2_with fail
          go_meet
          case rel => exact ⟨rfl, rfl⟩
        · subst hok2
          have hel2 : n < 1024 := by
            refine Nat.lt_of_not_le fun h => hm ⟨rfl, h⟩
          go_wp2_with fail
          go_meet
          case rel => exact ⟨congrArg Value.bool (decide_eq_false (by omega)), rfl⟩
      case rest =>
        obtain ⟨rfl, hwy⟩ := hcut
        have hwy3 := hwy.symm
        clear hwy
        subst hwy3
        by_cases hlong : 67108864 < bl + bn
        · have hpl2 := hpl.out
          rw [if_pos hlong] at hpl2
          replace hpl2 := hide hpl2
          go_wp2_with fail
          have hfin := tup_out hrx hEx (Nat.le_succ _) (A := A) (n := n) (c := c) (q := q) (a := a) (st := false)
          obtain ⟨wf, hwf⟩ : ∃ wf, wf = ((((wx.setCell ⟨w.heap.size + 1, 0, none⟩ (.slice A n c)).setCell ⟨w.heap.size + 1, 1, none⟩ (.int .i64 q)).setCell ⟨w.heap.size + 1, 2, none⟩ (.int .i64 a)).setCell ⟨w.heap.size + 1, 3, none⟩ (.bool false)) := ⟨_, rfl⟩
          rw [← hwf] at hfin ⊢
          obtain ⟨z0, z1, z2, z3, hEf, _⟩ := hfin
          exact bodyPost_ret (v := .tuple #[.agg #[.slice A n c, .int .i64 q, .int .i64 a, .bool false], .int .i64 2]) (by simp [results, Try.results40, go_sem, z0, z1, z2, z3]) rfl (done.out 2 wf hpl2.out hEf)
        · have hpl2 := hpl.out
          rw [if_neg hlong] at hpl2
          have hlong2 : bl + bn ≤ 67108864 := by omega
          obtain ⟨us, hus⟩ : ∃ us, us = usedP P.L := ⟨_, rfl⟩
          have husb : us ≤ 68719476736 := by
            rw [hus, ← hP]
            have := rused_bd h R.length
            rw [List.take_of_length_le (Nat.le_refl _), ← h.len] at this
            omega
          have hfull : fullM P bn = (decide (0 < q) && decide (0 < bn) && decide ((q : Int) - us < bn)) := by
            unfold fullM
            rw [hq.out, hus]
          have hcall : ∀ w0, (fun w' => w'.cell? ⟨w.heap.size, 0, none⟩ = some (.slice A n c) ∧ w'.cell? ⟨w.heap.size, 1, none⟩ = some (.int .i64 q) ∧ w'.cell? ⟨w.heap.size, 2, none⟩ = some (.int .i64 a) ∧ w'.cell? ⟨w.heap.size, 3, none⟩ = some (.bool false) ∧ Ext wx w') w0 → Calls Try.prog 46 #[rdisk A n c q a false] w0 fun e w' => e = .returned (.int .i64 us) ∧ Ext w0 w' := fun w0 hw0 => by
            have := rused_any N2 A n c q a false R w0 (hRx.ext hw0.2.2.2.2)
            rw [hP, ← hus] at this
            exact this
          unfold rdisk at hcall
          replace hus := hide hus
          replace hfull := hide hfull
          replace hpl2 := hide hpl2
          replace hcall := hide hcall
          go_upto_region 13 with (fail)
          go_cut [68] (fun s68 wy => s68 = .bool (fullM P bn) ∧ Ext wx wy)
          case first =>
            have hS0 : (fun w' => w'.cell? ⟨w.heap.size, 0, none⟩ = some (.slice A n c) ∧ w'.cell? ⟨w.heap.size, 1, none⟩ = some (.int .i64 q) ∧ w'.cell? ⟨w.heap.size, 2, none⟩ = some (.int .i64 a) ∧ w'.cell? ⟨w.heap.size, 3, none⟩ = some (.bool false) ∧ Ext wx w') wx.drew := ⟨c0, c1, c2, c3, (Ext.refl wx).drew⟩
            have hS1 : (fun w' => w'.cell? ⟨w.heap.size, 0, none⟩ = some (.slice A n c) ∧ w'.cell? ⟨w.heap.size, 1, none⟩ = some (.int .i64 q) ∧ w'.cell? ⟨w.heap.size, 2, none⟩ = some (.int .i64 a) ∧ w'.cell? ⟨w.heap.size, 3, none⟩ = some (.bool false) ∧ Ext wx w') wx := ⟨c0, c1, c2, c3, Ext.refl wx⟩
            have hkp : ∀ w0 w1 : World, (fun w' => w'.cell? ⟨w.heap.size, 0, none⟩ = some (.slice A n c) ∧ w'.cell? ⟨w.heap.size, 1, none⟩ = some (.int .i64 q) ∧ w'.cell? ⟨w.heap.size, 2, none⟩ = some (.int .i64 a) ∧ w'.cell? ⟨w.heap.size, 3, none⟩ = some (.bool false) ∧ Ext wx w') w0 → Ext w0 w1 → (fun w' => w'.cell? ⟨w.heap.size, 0, none⟩ = some (.slice A n c) ∧ w'.cell? ⟨w.heap.size, 1, none⟩ = some (.int .i64 q) ∧ w'.cell? ⟨w.heap.size, 2, none⟩ = some (.int .i64 a) ∧ w'.cell? ⟨w.heap.size, 3, none⟩ = some (.bool false) ∧ Ext wx w') w1 := fun w0 w1 h1 h3 => ⟨h3.cell h1.1, h3.cell h1.2.1, h3.cell h1.2.2.1, h3.cell h1.2.2.2.1, h1.2.2.2.2.trans h3⟩
            replace hkp := hide hkp
            replace hS0 := hide hS0
            replace hS1 := hide hS1
            by_cases h1 : 0 < q
            · by_cases h2 : 0 < bn
              · go_region_held3 (fun w' => w'.cell? ⟨w.heap.size, 0, none⟩ = some (.slice A n c) ∧ w'.cell? ⟨w.heap.size, 1, none⟩ = some (.int .i64 q) ∧ w'.cell? ⟨w.heap.size, 2, none⟩ = some (.int .i64 a) ∧ w'.cell? ⟨w.heap.size, 3, none⟩ = some (.bool false) ∧ Ext wx w') (first | exact hS0.out | exact hS1.out | exact ‹_› | exact hkp.out _ _ ‹_› ‹_›) (first | (go_at_call 46; refine (hcall.out _ ‹_›).mono ?_; rintro e w5 ⟨rfl, hE5⟩))
                go_wp2_with fail
                go_meet
                case rel =>
                  rw [hfull.out]
                  refine ⟨?_, (hkp.out _ w5 hS0.out hE5).2.2.2.2⟩
                  rw [IntWalk.i64_in _ (by omega)]
                  simp [h1, h2]
              · obtain rfl : bn = 0 := by omega
                go_quiet (fail)
                go_wp2_with fail
                go_meet
                case rel =>
                  rw [hfull.out]
                  exact ⟨by simp, (Ext.refl wx).drewN _⟩
            · obtain rfl : q = 0 := by omega
              go_quiet (fail)
              go_wp2_with fail
              go_meet
              case rel =>
                rw [hfull.out]
                exact ⟨by simp, (Ext.refl wx).drewN _⟩
          case rest =>
            obtain ⟨hs68, hwy⟩ := hcut
            subst hs68
            have hEy : Ext w wc := hEx.trans hwy
            have hdy := hdx.ext hwy
            have hry := hrx.ext hwy
            have c0 : wc.cell? ⟨w.heap.size, 0, none⟩ = some (.slice A n c) := hdy.cell 0 rfl
            have c1 : wc.cell? ⟨w.heap.size, 1, none⟩ = some (.int .i64 q) := hdy.cell 1 rfl
            have c2 : wc.cell? ⟨w.heap.size, 2, none⟩ = some (.int .i64 a) := hdy.cell 2 rfl
            have c3 : wc.cell? ⟨w.heap.size, 3, none⟩ = some (.bool false) := hdy.cell 3 rfl
            have x0 := hry.cell 0 rfl
            have x1 := hry.cell 1 rfl
            have x2 := hry.cell 2 rfl
            have x3 := hry.cell 3 rfl
            have y0 := hry.free 0
            have y1 := hry.free 1
            have y2 := hry.free 2
            have y3 := hry.free 3
            have hb41 : w.heap.size + 1 < wc.heap.size := hry.lt
            cases hf : fullM P bn with
            | true =>
              have hpl3 := hpl2.out
              rw [hf, if_pos rfl] at hpl3
              replace hpl3 := hide hpl3
              replace hf := hide hf
              go_wp2_with fail
              have hfin := tup_out hry hEy (Nat.le_succ _) (A := A) (n := n) (c := c) (q := q) (a := a) (st := false)
              obtain ⟨wf, hwf⟩ : ∃ wf, wf = ((((wc.setCell ⟨w.heap.size + 1, 0, none⟩ (.slice A n c)).setCell ⟨w.heap.size + 1, 1, none⟩ (.int .i64 q)).setCell ⟨w.heap.size + 1, 2, none⟩ (.int .i64 a)).setCell ⟨w.heap.size + 1, 3, none⟩ (.bool false)) := ⟨_, rfl⟩
              rw [← hwf] at hfin ⊢
              obtain ⟨z0, z1, z2, z3, hEf, _⟩ := hfin
              exact bodyPost_ret (v := .tuple #[.agg #[.slice A n c, .int .i64 q, .int .i64 a, .bool false], .int .i64 62]) (by simp [results, Try.results40, go_sem, z0, z1, z2, z3]) rfl (done.out 62 wf hpl3.out hEf)
            | false =>
              have hpl3 := hpl2.out
              rw [hf, if_neg (by simp)] at hpl3
              have hcl := rcall_any A n c q a wc ha
              unfold rdisk at hcl
              obtain ⟨a1, ha1⟩ : ∃ a1, a1 = a - 1 := ⟨_, rfl⟩
              rw [← ha1] at hcl
              replace hf := hide hf
              by_cases h1 : a = 1
              · rw [decide_eq_true h1] at hcl
                rw [← ha'.out, if_pos h1] at hpl3
                have ha10 : a1 = 0 := by omega
                replace hpl3 := hide hpl3
                replace hcl := hide hcl
                replace ha10 := hide ha10
                replace ha1 := hide ha1
                replace h1 := hide h1
                go_wp2_with fail
                refine hcl.out.mono ?_
                rintro e w2 ⟨rfl, hE2⟩
                have hE3 := (hEy.trans hE2).alloc (.cells #[.slice A n c, .int .i64 q, .int .i64 a1, .bool true] 36)
                have hr3 := (hry.ext hE2).alloc (.cells #[.slice A n c, .int .i64 q, .int .i64 a1, .bool true] 36)
                have x0 := hr3.cell 0 rfl
                have x1 := hr3.cell 1 rfl
                have x2 := hr3.cell 2 rfl
                have x3 := hr3.cell 3 rfl
                have y0 := hr3.free 0
                have y1 := hr3.free 1
                have y2 := hr3.free 2
                have y3 := hr3.free 3
                go_wp2_with fail
                have hfin := tup_out hr3 hE3 (Nat.le_succ _) (A := A) (n := n) (c := c) (q := q) (a := a1) (st := true)
                obtain ⟨wf, hwf⟩ : ∃ wf, wf = (((((w2.alloc (.cells #[.slice A n c, .int .i64 q, .int .i64 a1, .bool true] 36)).setCell ⟨w.heap.size + 1, 0, none⟩ (.slice A n c)).setCell ⟨w.heap.size + 1, 1, none⟩ (.int .i64 q)).setCell ⟨w.heap.size + 1, 2, none⟩ (.int .i64 a1)).setCell ⟨w.heap.size + 1, 3, none⟩ (.bool true)) := ⟨_, rfl⟩
                rw [← hwf] at hfin ⊢
                obtain ⟨z0, z1, z2, z3, hEf, _⟩ := hfin
                refine bodyPost_ret (v := .tuple #[.agg #[.slice A n c, .int .i64 q, .int .i64 a1, .bool true], .int .i64 63]) (by simp [results, Try.results40, go_sem, z0, z1, z2, z3]) rfl ?_
                rw [hpl3.out, hq.out, ha10.out]
                exact ⟨A, n, c, R, rfl, h.ext hEf, hP, hEf⟩
              · rw [decide_eq_false h1] at hcl
                rw [← ha'.out, if_neg h1] at hpl3
                replace hpl3 := hide hpl3
                replace hcl := hide hcl
                replace ha1 := hide ha1
                go_wp2_with fail
                refine hcl.out.mono ?_
                rintro e w2 ⟨rfl, hE2⟩
                obtain ⟨W3, hW3⟩ : ∃ W3, W3 = w2.alloc (.cells #[.slice A n c, .int .i64 q, .int .i64 a1, .bool false] 36) := ⟨_, rfl⟩
                have hE23 : Ext w2 W3 := by rw [hW3]; exact (Ext.refl w2).alloc _
                have hnx : Row W3 w2.heap.size 36 #[.slice A n c, .int .i64 q, .int .i64 a1, .bool false] := by rw [hW3]; exact Row.new w2 _ _
                have hEx3 : Ext wx W3 := (hwy.trans hE2).trans hE23
                have hE03 : Ext w W3 := (hEy.trans hE2).trans hE23
                have hf3 := hfx.ext hEx3
                have ho3 := own_empty W3 5
                have hE3o : Ext W3 (W3.alloc (.cells #[] 5)) := (Ext.refl W3).alloc _
                have hsz3 : W3.heap.size ≤ (W3.alloc (.cells #[] 5)).heap.size := hE3o.size
                have hfb := (hG.has.ext hEx3).bytes.ext hE3o
                have hl1 : (f0.b.map B8).length = bl * 1 := by rw [List.length_map, ← hbl.out]; omega
                have hl2 : (b.map B8).length = bn * 1 := by rw [List.length_map, ← hbn.out]; omega
                have hbb := (hb.ext hE03).ext hE3o
                have j0 := hf3.alloc (.cells #[] 5)
                have j1 : (W3.alloc (.cells #[] 5)).cell? ⟨bF, 1, none⟩ = some (.slice f0.A bl f0.c) := by rw [hbl.out]; exact j0.cell 1 rfl
                have hneF : w2.heap.size ≠ bF := by
                  have h1 := hfx.lt
                  have h2 := (hwy.trans hE2).size
                  omega
                replace hneF := hide hneF
                have hW3x := hide hW3.symm
                clear hW3 x0 x1 x2 x3 y0 y1 y2 y3
                replace hl1 := hide hl1
                replace hl2 := hide hl2
                go_upto_region 18 with (fail)
                rw [hW3x.out]
                go_wp2_with (first | (at_builtin; refine wpList_app (m := bl) elemB ho3 hfb (.tmp 77) (.tmp 79) rfl rfl rfl rfl rfl hl1.out (bytes_one _) (by omega) hsz3 (fun A4 c4 w4 ho4 hg4 _ => ?_); have hE4 : Ext W3 w4 := hE3o.grown hg4 (fun k hk => by cases hk; exact Nat.le_refl _); have hsz4 := hE4.size; rw [Nat.zero_add] at ho4; have hbb4 := (hb.ext hE03).ext hE4) | (at_builtin; refine wpList_app (m := bn) elemB ho4 hbb4 (.tmp 80) (.tmp 81) rfl rfl rfl rfl rfl hl2.out (bytes_one _) (by omega) hsz4 (fun A5 c5 w5 ho5 hg5 _ => ?_); have hE5 : Ext W3 w5 := hE4.grown hg5 (own_ge ho4); have hf5 := hf3.ext hE5; have t0 : w5.cell? ⟨bF, 0, none⟩ = some (.string ⟨s.toArray⟩) := hf5.cell 0 rfl; have t1 : w5.cell? ⟨bF, 1, none⟩ = some (.slice f0.A f0.b.length f0.c) := hf5.cell 1 rfl; have t2 : w5.cell? ⟨bF, 2, none⟩ = some (.int .i64 f0.sure) := hf5.cell 2 rfl; have u1 := hf5.free 1; have hn5 := hnx.ext hE5; have hn6 := Row.away hn5 (p := ⟨bF, 1, none⟩) hneF.out (.slice A5 (bl + bn) c5); have v0 : (w5.setCell ⟨bF, 1, none⟩ (.slice A5 (bl + bn) c5)).cell? ⟨w2.heap.size, 0, none⟩ = some (.slice A n c) := hn6.cell 0 rfl; have v1 : (w5.setCell ⟨bF, 1, none⟩ (.slice A5 (bl + bn) c5)).cell? ⟨w2.heap.size, 1, none⟩ = some (.int .i64 q) := hn6.cell 1 rfl; have v2 : (w5.setCell ⟨bF, 1, none⟩ (.slice A5 (bl + bn) c5)).cell? ⟨w2.heap.size, 2, none⟩ = some (.int .i64 a1) := hn6.cell 2 rfl; have v3 : (w5.setCell ⟨bF, 1, none⟩ (.slice A5 (bl + bn) c5)).cell? ⟨w2.heap.size, 3, none⟩ = some (.bool false) := hn6.cell 3 rfl))
                have hE05 := hE03.trans hE5
                obtain ⟨w6, hw6⟩ : ∃ w6, w6 = w5.setCell ⟨bF, 1, none⟩ (.slice A5 (bl + bn) c5) := ⟨_, rfl⟩
                have hc6 : Chg (fun k => k = bF) w5 w6 := by rw [hw6]; exact Chg.of_set w5 (a := ⟨bF, 1, none⟩) _ rfl
                have hE06 : Ext w w6 := hE05.chg hc6 fun i hi hh => by rw [hbFs.out] at hh; omega
                have hR6 : RS w6 N2 A n c R := (hRx.ext (hEx3.trans hE5)).chg hc6 (fun k _ hk => hN2i k (.inr (.inr hk))) (fun _ _ h => h)
                obtain ⟨f1, hf1e⟩ : ∃ f1 : RE, f1 = ⟨s, f0.b ++ b, f0.sure, A5, c5⟩ := ⟨_, rfl⟩
                have hl5 : (f0.b ++ b).length = bl + bn := by rw [List.length_append, ← hbl.out, ← hbn.out]
                have hge5 := own_ge ho5
                have hok6 : ROk w6 N2 f1 := by
                  rw [hf1e]
                  refine ⟨?_, ?_, ?_, ?_, ?_, hs, ?_⟩
                  · have hcc : Cells w5 A5 ((f0.b ++ b).map B8) := by
                      rw [List.map_append]
                      exact Cells.of_own ho5
                    exact hc6.cells hcc fun x hx hh => by
                      have h1 := own_lt2 ho5 x hx
                      rw [hbFs.out] at hh
                      have h2 := hE03.size
                      have h3 := hwy.size
                      have h4 := hfx.lt
                      rw [hbFs.out] at h4
                      have h5 := hE2.size
                      have h6 := hE23.size
                      omega
                  · show (f0.b ++ b).length ≤ c5
                    rw [hl5]
                    exact own_cap2 ho5
                  · intro hA
                    have hA' : A5 = none := hA
                    rcases ho5.2 with ⟨hv, _⟩ | ⟨g, cap, cur, hv, _⟩
                    · injection hv with _ _ h3
                    · rw [hA'] at hv; cases hv
                  · intro x hx
                    have h1 := own_lt2 ho5 x hx
                    refine ⟨Nat.lt_of_lt_of_le h1.2.1 hc6.size, fun hn => ?_, h1.2.2⟩
                    have h2 := hN2s _ hn
                    have h3 : W.heap.size ≤ W3.heap.size := Nat.le_trans hE1.size (Nat.le_trans hcx.size hEx3.size)
                    omega
                  · show f0.sure ≤ (f0.b ++ b).length
                    rw [hl5]
                    have := hG.has.sure
                    rw [← hbl.out] at this
                    omega
                  · show (f0.b ++ b).length ≤ 67108864
                    rw [hl5]
                    exact hlong2
                have hcntw : (withG RE.name f1 R).length ≤ 1024 := by
                  cases hokv : ok with
                  | true =>
                    rw [hokv] at hG
                    refine Nat.le_trans (len_with_in (hG.here rfl).1 (by rw [hf1e]; exact hG.name)) ?_
                    rw [← h.len]
                    exact hmany
                  | false =>
                    refine Nat.le_trans (len_with_le _ _) ?_
                    rw [← h.len]
                    have : ¬ 1024 ≤ n := fun hh => hm ⟨hokv, hh⟩
                    omega
                have hwi := rwith_any N2 A n c q a1 false R f1 w6 hR6 hok6 (fun k hk => Nat.lt_of_lt_of_le (hN2s k hk) (Nat.le_trans hE1.size (Nat.le_trans hcx.size (Nat.le_trans hEx3.size (Nat.le_trans hE5.size hc6.size))))) hcntw
                have hLp : (withG RE.name f1 R).map RE.pl = withG fname (s, f0.b ++ b, f0.sure) P.L := by
                  rw [map_with (nm := RE.name) (nm' := fname) (g := RE.pl) (fun _ => rfl), hP, hf1e]
                  rfl
                have hagg : f1.agg = .agg #[.string ⟨s.toArray⟩, .slice A5 (bl + bn) c5, .int .i64 f0.sure] := by
                  rw [hf1e]
                  unfold RE.agg str
                  rw [hl5]
                rw [hagg, hw6] at hwi
                unfold rdisk at hwi
                have hr6 : Row (w5.setCell ⟨bF, 1, none⟩ (.slice A5 (bl + bn) c5)) (w.heap.size + 1) 36 #[.slice none 0 0, .int .i64 0, .int .i64 0, .bool false] := Row.away (hrx.ext (hEx3.trans hE5)) (p := ⟨bF, 1, none⟩) (by show w.heap.size + 1 ≠ bF; rw [hbFs.out]; omega) _
                rw [hw6] at hE06
                replace hwi := hide hwi
                replace hLp := hide hLp
                replace hl5 := hide hl5
                replace hge5 := hide hge5
                clear hw6 hf1e hagg hok6 hcntw hc6 hR6
                refine hwi.out.mono ?_
                rintro e w7 ⟨A7, n7, c7, rfl, hR7, hE7⟩
                have hr7 := hr6.ext hE7
                have hE07 := hE06.trans hE7
                have x0 := hr7.cell 0 rfl
                have x1 := hr7.cell 1 rfl
                have x2 := hr7.cell 2 rfl
                have x3 := hr7.cell 3 rfl
                have y0 := hr7.free 0
                have y1 := hr7.free 1
                have y2 := hr7.free 2
                have y3 := hr7.free 3
                go_wp2_with fail
                have hfin := tup_out hr7 hE07 (Nat.le_succ _) (A := A7) (n := n7) (c := c7) (q := q) (a := a1) (st := false)
                obtain ⟨wf, hwf⟩ : ∃ wf, wf = ((((w7.setCell ⟨w.heap.size + 1, 0, none⟩ (.slice A7 n7 c7)).setCell ⟨w.heap.size + 1, 1, none⟩ (.int .i64 q)).setCell ⟨w.heap.size + 1, 2, none⟩ (.int .i64 a1)).setCell ⟨w.heap.size + 1, 3, none⟩ (.bool false)) := ⟨_, rfl⟩
                rw [← hwf] at hfin ⊢
                obtain ⟨z0, z1, z2, z3, hEf, hcf⟩ := hfin
                refine bodyPost_ret (v := .tuple #[.agg #[.slice A7 n7 c7, .int .i64 q, .int .i64 a1, .bool false], .int .i64 0]) (by simp [results, Try.results40, go_sem, z0, z1, z2, z3]) rfl ?_
                rw [hpl3.out]
                exact ⟨A7, n7, c7, _, by rw [hq.out, ha1.out, ha'.out, ← hst.out]; rfl, hR7.chg hcf (fun k _ hk => hN2i k (.inr (.inl hk))) (fun k _ hk => by rw [hN2]; exact .inl hk), hLp.out, hEf⟩
set_option maxRecDepth 100000 in
set_option maxHeartbeats 4000000 in
theorem rappend_bad (N : Nat → Prop) (A : Option Addr) (n c : Nat) (P : PD) (R : List RE) (s b : List UInt8) (B : Option Addr) (bn bc : Nat) (w : World) (h : RS w N A n c R) (hP : R.map RE.pl = P.L) (hs : s.length ≤ 9223372036854775807) (hbad : namedM s = false ∨ P.stopped = true) :
    Calls Try.prog 40 #[rdisk A n c P.quota P.armed P.stopped, str s, .slice B bn bc] w (RNext N (appendM P s b) w) := by
  obtain ⟨q, hq⟩ : ∃ q, q = P.quota := ⟨_, rfl⟩
  obtain ⟨a, ha'⟩ : ∃ q, q = P.armed := ⟨_, rfl⟩
  obtain ⟨st, hst⟩ : ∃ q, q = P.stopped := ⟨_, rfl⟩
  rw [← hq, ← ha', ← hst]
  obtain ⟨W, hW⟩ : ∃ W, W = (w.alloc (.cells #[.slice A n c, .int .i64 q, .int .i64 a, .bool st] 36)).alloc (.cells #[.slice none 0 0, .int .i64 0, .int .i64 0, .bool false] 36) := ⟨_, rfl⟩
  have hE : Ext w W := by rw [hW]; exact ((Ext.refl w).alloc _).alloc _
  have hd : Row W w.heap.size 36 #[.slice A n c, .int .i64 q, .int .i64 a, .bool st] := by rw [hW]; exact (Row.new w _ _).alloc _
  have hr2 : Row W (w.heap.size + 1) 36 #[.slice none 0 0, .int .i64 0, .int .i64 0, .bool false] := by
    have := Row.new (w.alloc (.cells #[.slice A n c, .int .i64 q, .int .i64 a, .bool st] 36)) 36 #[.slice none 0 0, .int .i64 0, .int .i64 0, .bool false]
    rw [size_alloc] at this
    rw [hW]
    exact this
  have hnm := rnamed_any s W hs
  have hWx := hide hW.symm
  have d0 : W.cell? ⟨w.heap.size, 0, none⟩ = some (.slice A n c) := hd.cell 0 rfl
  have d1 : W.cell? ⟨w.heap.size, 1, none⟩ = some (.int .i64 q) := hd.cell 1 rfl
  have d2 : W.cell? ⟨w.heap.size, 2, none⟩ = some (.int .i64 a) := hd.cell 2 rfl
  have d3 : W.cell? ⟨w.heap.size, 3, none⟩ = some (.bool st) := hd.cell 3 rfl
  have r0 := hr2.cell 0 rfl
  have r1 := hr2.cell 1 rfl
  have r2 := hr2.cell 2 rfl
  have r3 := hr2.cell 3 rfl
  have f0 := hr2.free 0
  have f1 := hr2.free 1
  have f2 := hr2.free 2
  have f3 := hr2.free 3
  have same : ∀ (k : Nat) (wf : World), appendM P s b = (P, k) → Ext w wf → RNext N (appendM P s b) w (.returned (.tuple #[.agg #[.slice A n c, .int .i64 q, .int .i64 a, .bool st], .int .i64 k])) wf := by
    intro k wf hk hEf
    rw [hk, hq, ha', hst]
    exact rnext_same h hP hEf
  replace same := hide same
  unfold rdisk str
  unfold str at hnm
  clear hW
  by_cases hb0 : namedM s = false
  · have hres : appendM P s b = (P, 60) := by unfold appendM; rw [hb0]; rfl
    rw [hb0] at hnm
    replace hnm := hide hnm
    replace hres := hide hres
    replace hq := hide hq
    replace ha' := hide ha'
    replace hst := hide hst
    go_enter Try.func40, Try.ntmps40
    go_wp2_with fail
    rw [hWx.out]
    refine hnm.out.mono ?_
    rintro e w1 ⟨rfl, hw1⟩
    replace hw1 := hw1.symm
    subst hw1
    go_wp2_with fail
    have hfin := tup_out hr2 hE (Nat.le_succ _) (A := A) (n := n) (c := c) (q := q) (a := a) (st := st)
    obtain ⟨wf, hwf⟩ : ∃ wf, wf = ((((W.setCell ⟨w.heap.size + 1, 0, none⟩ (.slice A n c)).setCell ⟨w.heap.size + 1, 1, none⟩ (.int .i64 q)).setCell ⟨w.heap.size + 1, 2, none⟩ (.int .i64 a)).setCell ⟨w.heap.size + 1, 3, none⟩ (.bool st)) := ⟨_, rfl⟩
    rw [← hwf] at hfin ⊢
    obtain ⟨z0, z1, z2, z3, hEf, _⟩ := hfin
    exact bodyPost_ret (v := .tuple #[.agg #[.slice A n c, .int .i64 q, .int .i64 a, .bool st], .int .i64 60]) (by simp [results, Try.results40, go_sem, z0, z1, z2, z3]) rfl (same.out 60 wf hres.out hEf)
  · have hnmd : namedM s = true := by simpa using hb0
    have hst2 : st = true := by
      rw [hst]
      rcases hbad with hbad | hbad
      · exact (hb0 hbad).elim
      · exact hbad
    have hres : appendM P s b = (P, 63) := by unfold appendM; rw [hnmd, ← hst, hst2]; rfl
    subst hst2
    rw [hnmd] at hnm
    replace hnm := hide hnm
    replace hres := hide hres
    replace hq := hide hq
    replace ha' := hide ha'
    replace hst := hide hst
    go_enter Try.func40, Try.ntmps40
    go_wp2_with fail
    rw [hWx.out]
    refine hnm.out.mono ?_
    rintro e w1 ⟨rfl, hw1⟩
    replace hw1 := hw1.symm
    subst hw1
    go_wp2_with fail
    have hfin := tup_out hr2 hE (Nat.le_succ _) (A := A) (n := n) (c := c) (q := q) (a := a) (st := true)
    obtain ⟨wf, hwf⟩ : ∃ wf, wf = ((((W.setCell ⟨w.heap.size + 1, 0, none⟩ (.slice A n c)).setCell ⟨w.heap.size + 1, 1, none⟩ (.int .i64 q)).setCell ⟨w.heap.size + 1, 2, none⟩ (.int .i64 a)).setCell ⟨w.heap.size + 1, 3, none⟩ (.bool true)) := ⟨_, rfl⟩
    rw [← hwf] at hfin ⊢
    obtain ⟨z0, z1, z2, z3, hEf, _⟩ := hfin
    exact bodyPost_ret (v := .tuple #[.agg #[.slice A n c, .int .i64 q, .int .i64 a, .bool true], .int .i64 63]) (by simp [results, Try.results40, go_sem, z0, z1, z2, z3]) rfl (same.out 63 wf hres.out hEf)
theorem rappend_any (N : Nat → Prop) (A : Option Addr) (n c : Nat) (P : PD) (R : List RE) (s b : List UInt8) (B : Option Addr) (bn bc : Nat) (w : World) (h : RS w N A n c R) (hP : R.map RE.pl = P.L) (hN : ∀ k, N k → k < w.heap.size) (hs : s.length ≤ 9223372036854775807) (ha : P.armed ≤ 9223372036854775807)
    (hb : Bs w B b) (hbn : bn = b.length) (hbn2 : bn ≤ 1073741824) (hqb : P.quota ≤ 9223372036854775807) :
    Calls Try.prog 40 #[rdisk A n c P.quota P.armed P.stopped, str s, .slice B bn bc] w (RNext N (appendM P s b) w) := by
  cases hnm : namedM s with
  | false => exact rappend_bad N A n c P R s b B bn bc w h hP hs (.inl hnm)
  | true =>
    cases hst : P.stopped with
    | true => rw [← hst]; exact rappend_bad N A n c P R s b B bn bc w h hP hs (.inr hst)
    | false => rw [← hst]; exact rappend_good N A n c P R s b B bn bc w h hP hN hs ha hb hbn hbn2 hqb hnm hst
end Go.Proofs.Yticnncgbfpgeaaa
