/- loggia/disk: Append, the walk. -/
import Derived.Test.YticnncgbfpgeaaaDkQ
import Derived.Deep.RegionHeld3
import Derived.Deep.QuietTactic
import Derived.BigQuiet
namespace Go.Proofs.Yticnncgbfpgeaaa
open Go.RowKit Go.Maps

theorem Got.plain {w W : World} {base d m : Nat} {P : PD} {E : List Ent} {s : List UInt8} {ok : Bool} {e0 : Ent} (hD : DE w base d m P E) (h : Got w W base E s ok e0) (hn : namedM s = true) (hst : P.stopped = false) (b : List UInt8) :
    appendM P s b = if ok = false ∧ 1024 ≤ E.length then (P, 3) else putM P (s, e0.b, e0.sure) b := by
  unfold appendM
  rw [hn, hst]
  have hl : P.L.length = E.length := by rw [← hD.pl, List.length_map]
  cases ok with
  | true =>
    have : P.find s = some (s, e0.b, e0.sure) := by
      have := hD.find_in (h.here rfl)
      rw [h.name] at this
      rw [this]
      unfold Ent.pl
      rw [h.name]
    rw [this]
    simp
  | false =>
    obtain ⟨h1, h2, h3, _⟩ := h.away rfl
    rw [hD.find_out h1, hl, h2, h3]
    by_cases hc : 1024 ≤ E.length
    · simp [hc]
    · simp [hc]
set_option maxRecDepth 100000 in
set_option maxHeartbeats 2000000 in
theorem append_good (base d : Nat) (P : PD) (F : Nat → Prop) (s b : List UInt8) (B : Option Addr) (n c : Nat) (w : World) (h : DS w base d P F) (hs : s.length ≤ 9223372036854775807) (hb : Bs w B b) (hBF : b ≠ [] → ∀ a, B = some a → ¬ F a.block) (hn : n = b.length) (hn2 : n ≤ 1073741824)
    (hbase : base ≤ w.heap.size) (hnm : namedM s = true) (hst : P.stopped = false) :
    Calls Try.prog 10 #[.pointer (some ⟨d, 0, none⟩), str s, .slice B n c] w fun e w' => e = .returned (.int .i64 (appendM P s b).2) ∧ DNext base d F w (appendM P s b).1 w' := by
  have hmay := may_one base d P F s w h hs
  have hE : Ext w (oneW w s) := (Ext.refl w).alloc _
  rw [hst, may_ok hnm] at hmay
  have hS := h
  obtain ⟨m, E, hD0, hF⟩ := h
  have hD : DE (oneW w s) base d m P E := hD0.chg (Chg.of_ext hE (fun _ => False)) (fun _ h => h.elim)
  have c0 : (oneW w s).cell? ⟨d, 0, none⟩ = some (.map (some m)) := Row.cell hD.row 0 rfl
  obtain ⟨fp, ok, hrun, hcase⟩ : ∃ fp ok, (Instr.lookup 61 (.map (some m)) (str s) true).run Try.prog (oneW w s) = .ok (.tuple #[fp, .bool ok]) (oneW w s) ∧
      ((∃ e0 ∈ E, e0.name = s ∧ fp = .pointer (some ⟨e0.f, 0, none⟩) ∧ ok = true) ∨ ((∀ e ∈ E, e.name ≠ s) ∧ fp = .pointer none ∧ ok = false)) := by
    rcases hD.lookup s hs (oneW w s) rfl with ⟨e0, he0, hn, hrun⟩ | ⟨hno, hrun⟩
    · exact ⟨_, _, hrun, .inl ⟨e0, he0, hn, rfl, rfl⟩⟩
    · exact ⟨_, _, hrun, .inr ⟨hno, rfl, rfl⟩⟩
  unfold str at hrun ⊢
  replace hcase := hide hcase
  replace hmay := hide hmay
  replace hn := hide hn
  replace hst := hide hst
  replace hnm := hide hnm
  go_enter Try.func10, Try.ntmps10
  go_wp2_with fail
  refine hmay.out.mono ?_
  rintro e w1 ⟨rfl, rfl⟩
  go_upto_if 28 with (fail)
  go_cut [8, 9] (fun s8 s9 wx => ∃ e0 : Ent, s8 = .pointer (some ⟨e0.f, 0, none⟩) ∧ s9 = .bool ok ∧ Ext w wx ∧ Got w wx base E s ok e0)
  case first =>
    rcases hcase.out with ⟨e0, he0, hn0, rfl, rfl⟩ | ⟨hno, rfl, rfl⟩
    · go_wp2_with fail
      go_meet
      case rel => exact ⟨e0, rfl, rfl, hE, hn0, hD.fs.ok e0 he0, hD.lens e0 he0, fun _ => he0, nofun⟩
    · have hr := Row.new (oneW w s) 75 #[.slice none 0 0, .int .i64 0]
      have hw1 : (oneW w s).heap.size = w.heap.size + 1 := by simp
      rw [hw1] at hr
      have hE2 := hE.alloc (.cells #[.slice none 0 0, .int .i64 0] 75)
      replace hr := hide hr
      replace hno := hide hno
      go_wp2_with fail
      go_meet
      case rel =>
        refine ⟨⟨s, w.heap.size + 1, [], 0, none, 0⟩, rfl, rfl, hE2, rfl, ⟨hr.out, Buf.nil _ _ _, ?_, by simp⟩, by simp, nofun, fun _ => ⟨hno.out, rfl, rfl, rfl, by simp⟩⟩
        show base ≤ w.heap.size + 1
        omega
  case rest =>
    obtain ⟨e0, rfl, rfl, hwx, hG⟩ := hcut
    obtain ⟨wx, rfl⟩ : ∃ wx, wx = wc := ⟨_, rfl⟩
    have hpl := hG.plain hD0 hnm.out hst.out b
    have hDx : DE wx base d m P E := hD0.chg (Chg.of_ext hwx (fun _ => False)) (fun _ h => h.elim)
    have c0x : wx.cell? ⟨d, 0, none⟩ = some (.map (some m)) := Row.cell hDx.row 0 rfl
    have c1x : wx.cell? ⟨d, 1, none⟩ = some (.int .i64 P.quota) := Row.cell hDx.row 1 rfl
    have cfx : wx.cell? ⟨e0.f, 0, none⟩ = some (.slice e0.A e0.b.length e0.c) := hG.has.row.cell 0 rfl
    have hlen0 := hG.len
    have hcn := hDx.cnt
    obtain ⟨L, hL0, hmem, hlen⟩ := hD0.fs.map
    have hL := hL0.ext hwx
    have hlr := hL.len Try.underlying61 3
    obtain ⟨el, hel⟩ : ∃ x, x = E.length := ⟨_, rfl⟩
    obtain ⟨bl, hbl⟩ : ∃ x, x = e0.b.length := ⟨_, rfl⟩
    rw [hlen, ← hel] at hlr
    rw [← hel] at hcn hpl
    rw [← hbl] at cfx hlen0
    have done : ∀ k : Nat, appendM P s b = (P, k) → ∀ e, e = Ending.returned (.int .i64 k) → e = .returned (.int .i64 (appendM P s b).2) ∧ DNext base d F w (appendM P s b).1 wx := fun k hk => append_no hk hS hwx
    replace done := hide done
    replace hel := hide hel
    replace hbl := hide hbl
    replace hmem := hide hmem
    replace hlen := hide hlen
    clear hrun hcase c0
    by_cases hmany : ok = false ∧ 1024 ≤ el
    · rw [if_pos hmany] at hpl
      obtain ⟨rfl, h2⟩ := hmany
      have fin := done.out _ hpl
      replace hpl := hide hpl
      replace fin := hide fin
      go_wp2_with fail
      go_ret
      exact fin.out _ rfl
    · rw [if_neg hmany] at hpl
      unfold putM at hpl
      replace hpl := hide hpl
      go_upto_region 7 with (fail)
      go_cut [31] (fun s31 wy => s31 = .bool false ∧ wy = wx)
      case first =>
        rcases (by cases ok <;> simp : ok = true ∨ ok = false) with hok | hok
        · subst hok
          go_wp2_with fail
          go_meet
          case rel => exact ⟨rfl, rfl⟩
        · subst hok
          have hel2 : el < 1024 := by
            refine Nat.lt_of_not_le fun h => hmany ⟨rfl, h⟩
          go_wp2_with fail
          go_meet
          case rel => exact ⟨congrArg Value.bool (decide_eq_false (by omega)), rfl⟩
      case rest =>
        obtain ⟨rfl, hwy⟩ := hcut
        have hwy3 := hwy.symm
        clear hwy
        subst hwy3
        rw [← hbl.out, ← hn.out] at hpl
        have hpl := hpl.out
        simp only [] at hpl
        by_cases hlong : 67108864 < bl + n
        · rw [if_pos hlong] at hpl
          have fin := done.out _ hpl
          replace hpl := hide hpl
          replace fin := hide fin
          go_wp2_with fail
          go_ret
          exact fin.out _ rfl
        · rw [if_neg hlong] at hpl
          have hlong2 : bl + n ≤ 67108864 := by omega
          have hus := hDx.used_le
          have hup := hDx.used
          have hqb := hDx.hq
          obtain ⟨q, hq⟩ : ∃ q, q = P.quota := ⟨_, rfl⟩
          obtain ⟨us, huse⟩ : ∃ us, us = usedM E := ⟨_, rfl⟩
          have hfull : fullM P n = (decide (0 < q) && decide (0 < n) && decide ((q : Int) - us < n)) := by
            unfold fullM
            rw [hq, huse, hup]
          have hcall : ∀ w0, (w0.cell? ⟨d, 1, none⟩ = some (.int .i64 P.quota) ∧ Ext wx w0) → Calls Try.prog 16 #[.pointer (some ⟨d, 0, none⟩)] w0 fun e w' => e = .returned (.int .i64 (usedM E)) ∧ Ext w0 w' := fun w0 hw0 => used_any base d m P.quota P.armed P.stopped E w0 (Row.ext hDx.row hw0.2) (hDx.fs.chg (Chg.of_ext hw0.2 (fun _ => False)) (fun _ h => h.elim)) (by omega)
          rw [← huse] at hus hcall
          rw [← hq] at c1x hqb hcall
          replace hup := hide hup
          replace huse := hide huse
          replace hq := hide hq
          replace hfull := hide hfull
          replace hpl := hide hpl
          replace hcall := hide hcall
          go_upto_region 11 with (fail)
          go_cut [53] (fun s53 wy => s53 = .bool (fullM P n) ∧ Ext wx wy)
          case first =>
            have hS0 : wx.drew.cell? ⟨d, 1, none⟩ = some (.int .i64 q) ∧ Ext wx wx.drew := ⟨c1x, (Ext.refl wx).drew⟩
            have hS1 : wx.cell? ⟨d, 1, none⟩ = some (.int .i64 q) ∧ Ext wx wx := ⟨c1x, Ext.refl wx⟩
            have hkp : ∀ w0 w1 : World, (w0.cell? ⟨d, 1, none⟩ = some (.int .i64 q) ∧ Ext wx w0) → Ext w0 w1 → w1.cell? ⟨d, 1, none⟩ = some (.int .i64 q) ∧ Ext wx w1 := fun w0 w1 h1 h3 => ⟨h3.cell h1.1, h1.2.trans h3⟩
            replace hkp := hide hkp
            replace hS0 := hide hS0
            replace hS1 := hide hS1
            by_cases h1 : 0 < q
            · by_cases h2 : 0 < n
              · go_region_held3 (fun w' => w'.cell? ⟨d, 1, none⟩ = some (.int .i64 q) ∧ Ext wx w') (first | exact hS0.out | exact hS1.out | exact ‹_› | exact hkp.out _ _ ‹_› ‹_›) (first | (go_at_call 16; refine (hcall.out _ ‹_›).mono ?_; rintro e w5 ⟨rfl, hE5⟩))
                go_wp2_with fail
                go_meet
                case rel =>
                  rw [hfull.out]
                  refine ⟨?_, (‹w5.cell? ⟨d, 1, none⟩ = some (.int .i64 q) ∧ Ext wx w5›).2⟩
                  rw [IntWalk.i64_in _ (by omega)]
                  simp [h1, h2]
              · obtain rfl : n = 0 := by omega
                go_quiet (fail)
                go_wp2_with fail
                go_meet
                case rel =>
                  rw [hfull.out]
                  exact ⟨by simp, (Ext.refl wx).drewN _⟩
            · obtain rfl : q = 0 := by omega
              go_quiet (fail)
              go_wp2_with fail
              go_meet
              case rel =>
                rw [hfull.out]
                exact ⟨by simp, (Ext.refl wx).drewN _⟩
          case rest =>
            obtain ⟨hs53, hwy⟩ := hcut
            subst hs53
            have hwy2 : Ext w wc := hwx.trans hwy
            cases hf : fullM P n with
            | true =>
              have hpl2 := hpl.out
              rw [hf, if_pos rfl] at hpl2
              have fin := append_no hpl2 hS hwy2
              replace hpl2 := hide hpl2
              replace hf := hide hf
              replace fin := hide fin
              go_wp2_with fail
              go_ret
              exact fin.out _ rfl
            | false =>
              have hpl2 := hpl.out
              rw [hf, if_neg (by simp)] at hpl2
              have hDy : DE wc base d m P E := hDx.chg (Chg.of_ext hwy (fun _ => False)) (fun _ h => h.elim)
              have hrowy : DRow wc d m P.quota P.armed false := by have := hDy.row; rw [hst.out] at this; exact this
              have hcl := call_any d m P.quota P.armed wc hrowy hDy.ha
              replace hf := hide hf
              replace hpl2 := hide hpl2
              replace hcl := hide hcl
              clear hpl hfull hcall c0x c1x cfx done hlr
              go_wp2_with fail
              refine hcl.out.mono ?_
              rintro e w6 ⟨rfl, hrow6, hc6, hs6⟩
              by_cases ha : P.armed = 1
              · have hpl3 := hpl2.out
                rw [if_pos ha] at hpl3 ⊢
                have hrow6' : DRow w6 d m P.stops.quota P.stops.armed P.stops.stopped := by
                  rw [ha] at hrow6
                  exact hrow6
                have fin : DNext base d F w P.stops w6 := hS.next hF (hDy.own hc6 hrow6' rfl hDy.hq (by show 0 ≤ _; omega)) ((Chg.of_ext hwy2 (Foot d m E)).trans hc6 (fun k _ hk => .inl hk)) (fun k hk => .inl hk)
                replace hpl3 := hide hpl3
                replace fin := hide fin
                replace ha := hide ha
                go_wp2_with fail
                go_ret
                rw [hpl3.out]
                exact ⟨rfl, fin.out⟩
              · have hpl3 := hpl2.out
                rw [if_neg ha] at hpl3 ⊢
                have hrow6' : DRow w6 d m P.quota (P.armed - 1) false := by
                  rw [decide_eq_false ha] at hrow6
                  exact hrow6
                have hG2 : Got w wc base E s ok e0 := ⟨hG.name, hG.has.keep (Below.block hwy _ hG.has.row.lt) fun a haa => Below.block hwy _ (hG.has.buf.lt a haa), hG.len, hG.here, hG.away⟩
                have hap := hDy.apart
                have hLy := hL.ext hwy
                have hm0 := hG2.has.ne_map hLy
                have hd0 : d ≠ e0.f ∧ ∀ a, e0.A = some a → d ≠ a.block := ⟨Row.unlike hDy.row hG2.has.row (by decide), fun a ha hd => hG2.has.buf.unlike hDy.row (by decide) a ha hd.symm⟩
                have hr6 : Row w6 e0.f 75 #[.slice e0.A e0.b.length e0.c, .int .i64 e0.sure] := hc6.row hG2.has.row fun h => hd0.1 h.symm
                have hb6 : Buf w6 base 5 e0.A e0.b.length e0.c (e0.b.map B8) := hG2.has.buf.chg hc6 fun a haa h => hd0.2 a haa h.symm
                have hB6 : Cells w6 B (b.map B8) := by
                  by_cases hbe : b = []
                  · exact .inl (by rw [hbe]; rfl)
                  · exact hc6.cells (hb.ext hwy2) fun a haa h => hBF hbe a haa ((hF _).2 (.inl h))
                have hL6 : MapL Try.prog 9 w6 m L := hLy.keep (hc6.block m hLy.lt fun h => hap.1 h.symm)
                have hsz6 : base ≤ w6.heap.size := Nat.le_trans hbase (Nat.le_trans hwy2.size hc6.size)
                obtain ⟨A1, c1, W2, hrunapp, hbuf2, hg2, hA1⟩ := run_buf elemB w6 27 (c' := c) hb6 hB6 (m := n) (by rw [List.length_map]; exact hn.out.symm) (bytes_one _) (by rw [← hbl.out]; omega) hsz6
                have hown : ∀ g, (∀ a, e0.A = some a → g ≠ a.block) → some g ≠ (Value.slice e0.A e0.b.length e0.c).ownBlock := by
                  intro g hg he
                  rcases hb6.2.2 with ⟨h1, _⟩ | ⟨g', cur, h1, _⟩
                  · rw [h1] at he; cases he
                  · rw [h1] at he
                    exact hg _ h1 (by simpa [Value.ownBlock] using he)
                have hr7 : Row W2 e0.f 75 #[.slice e0.A e0.b.length e0.c, .int .i64 e0.sure] := hr6.grown hg2 (hown _ fun a haa => hG2.has.fa hG2.has a haa)
                have hrow7 : DRow W2 d m P.quota (P.armed - 1) false := Row.grown hrow6' hg2 (hown _ hd0.2)
                have hL7 : MapL Try.prog 9 W2 m L := hL6.grown hg2 (fun h => hown m (fun a haa hh => hm0.2 a haa hh.symm) h.symm)
                have hL8 := hL7.set_ (a := ⟨e0.f, 0, none⟩) (.slice A1 (e0.b.length + n) c1) (fun h => hm0.1 h.symm)
                obtain ⟨W4, L', hupd, hL4, hput, hg4, hs4⟩ := hL8.update keyS Try.underlying61 (key_str hs) (.pointer (some ⟨e0.f, 0, none⟩))
                have fin : DNext base d F w (P.goes (withG fname (s, e0.b ++ b, e0.sure) P.L)) W4 := by
                  rw [hn.out] at hbuf2 hg4
                  obtain ⟨E', h1, h2, h3⟩ := append_end hD0 hs hwy2 hG2 (fun h => Nat.lt_of_not_le fun h9 => hmany ⟨h, by rw [hel.out]; exact h9⟩) (by rw [← hbl.out, ← hn.out]; exact hlong2) hrow6' hc6 hst.out hbuf2 hg2 hA1 hmem.out hL0 hput hL4 hg4
                  exact hS.next hF h1 h2 h3
                have cf6 : w6.cell? ⟨e0.f, 0, none⟩ = some (.slice e0.A e0.b.length e0.c) := hr6.cell 0 rfl
                have c7 : W2.cell? ⟨e0.f, 0, none⟩ = some (.slice e0.A e0.b.length e0.c) := hr7.cell 0 rfl
                have f7 := hr7.free 0
                have c8 : (W2.setCell ⟨e0.f, 0, none⟩ (.slice A1 (e0.b.length + n) c1)).cell? ⟨d, 0, none⟩ = some (.map (some m)) := (Row.away hrow7 (p := ⟨e0.f, 0, none⟩) hd0.1 _).cell 0 rfl
                unfold str at hupd
                replace hpl3 := hide hpl3
                replace fin := hide fin
                replace ha := hide ha
                replace hname := hide hG.name
                replace hd0 := hide hd0
                replace hap := hide hap
                replace hm0 := hide hm0
                replace hown := hide hown
                replace hA1 := hide hA1
                replace hs4 := hide hs4
                replace hs6 := hide hs6
                replace hkk := hide hwy2
                clear hrow6 hL7 hL8 hL4 hput hg4 hB6 hb6 hbuf2 hr6 hr7 hrow7 hL6 hsz6 hg2 hc6 hLy hL hL0 hG2 hG hDy hDx hD
                go_wp2_with (at_builtin; refine wpList_app_run hrunapp (.tmp 86) (.tmp 87) rfl rfl rfl rfl rfl ?_)
                go_ret
                rw [hpl3.out]
                exact ⟨rfl, fin.out⟩
theorem append_any0 (base d : Nat) (P : PD) (F : Nat → Prop) (s b : List UInt8) (B : Option Addr) (n c : Nat) (w : World) (h : DS w base d P F) (hs : s.length ≤ 9223372036854775807) (hb : Bs w B b) (hBF : b ≠ [] → ∀ a, B = some a → ¬ F a.block) (hn : n = b.length) (hn2 : n ≤ 1073741824)
    (hbase : base ≤ w.heap.size) :
    Calls Try.prog 10 #[.pointer (some ⟨d, 0, none⟩), str s, .slice B n c] w fun e w' => e = .returned (.int .i64 (appendM P s b).2) ∧ DNext base d F w (appendM P s b).1 w' := by
  cases hnm : namedM s with
  | false => exact append_bad base d P F s b B n c w h hs (.inl hnm)
  | true =>
    cases hst : P.stopped with
    | true => exact append_bad base d P F s b B n c w h hs (.inr hst)
    | false => exact append_good base d P F s b B n c w h hs hb hBF hn hn2 hbase hnm hst
theorem append_any (base d : Nat) (P : PD) (F : Nat → Prop) (s b : List UInt8) (B : Option Addr) (n c : Nat) (w : World) (h : DS w base d P F) (hs : s.length ≤ 9223372036854775807) (hb : Bs w B b) (hBF : ∀ a, B = some a → ¬ F a.block) (hn : n = b.length) (hn2 : n ≤ 1073741824)
    (hbase : base ≤ w.heap.size) :
    Calls Try.prog 10 #[.pointer (some ⟨d, 0, none⟩), str s, .slice B n c] w fun e w' => e = .returned (.int .i64 (appendM P s b).2) ∧ DNext base d F w (appendM P s b).1 w' := append_any0 base d P F s b B n c w h hs hb (fun _ => hBF) hn hn2 hbase
end Go.Proofs.Yticnncgbfpgeaaa
