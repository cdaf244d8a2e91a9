/- loggia/disk: Append, the walk. -/
import Derived.Test.YtaoolpnnomhnoaaGreatDoorS04
import Derived.Deep.RegionHeld3
import Derived.Deep.QuietTactic
import Derived.BigQuiet
import Derived.Test.YtaoolpnnomhnoaaGreatDoorS02
import Derived.Test.YtaoolpnnomhnoaaGreatDoorS01
import Derived.Test.YtaoolpnnomhnoaaGreatDoorS03
set_option linter.unusedSimpArgs false
set_option linter.unusedVariables false
namespace Go.Proofs.YtaoolpnnomhnoaaGreatDoor
open Go.RowKit Go.Maps

theorem GotD.plain {w W : World} {base d m : Nat} {P : PD} {E : List Ent} {s : List UInt8} {ok : Bool} {e0 : Ent} (hD : DE w base d m P E) (h : GotD w W base E s ok e0) (hn : namedM s = true) (hst : P.stopped = false) (b : List UInt8) :
    appendM P s b = if ok = false ∧ 1024 ≤ E.length then (P, 3) else putM P (s, e0.b, e0.sure) b := by
  unfold appendM
  rw [hn, hst]
  have hl : P.L.length = E.length := by rw [← hD.pl, List.length_map]
  cases ok with
  | true =>
    have : P.find s = some (s, e0.b, e0.sure) := by
      have := hD.find_in (h.here rfl)
      rw [h.name] at this
      rw [this]
      unfold Ent.pl
      rw [h.name]
    rw [this]
    simp
  | false =>
    obtain ⟨h1, h2, h3, _⟩ := h.away rfl
    rw [hD.find_out h1, hl, h2, h3]
    by_cases hc : 1024 ≤ E.length
    · simp [hc]
    · simp [hc]
set_option maxRecDepth 100000 in
set_option maxHeartbeats 2000000 in
theorem append_good (base d : Nat) (P : PD) (F : Nat → Prop) (s b : List UInt8) (B : Option Addr) (n c : Nat) (w : World) (h : DS w base d P F) (hs : s.length ≤ 9223372036854775807) (hb : Bs w B b) (hBF : b ≠ [] → ∀ a, B = some a → ¬ F a.block) (hn : n = b.length) (hn2 : n ≤ 1073741824)
    (hbase : base ≤ w.heap.size) (hnm : namedM s = true) (hst : P.stopped = false) :
    Calls Tryz.prog 26 #[.pointer (some ⟨d, 0, none⟩), str s, .slice B n c] w fun e w' => e = .returned (.int .i64 (appendM P s b).2) ∧ DNext base d F w (appendM P s b).1 w' := by
  have hmay := may_one base d P F s w h hs
  have hE : Ext w (oneW w s) := (Ext.refl w).alloc _
  rw [hst, may_ok hnm] at hmay
  have hS := h
  obtain ⟨m, E, hD0, hF⟩ := h
  have hD : DE (oneW w s) base d m P E := hD0.chg (Chg.of_ext hE (fun _ => False)) (fun _ h => h.elim)
  have c0 : (oneW w s).cell? ⟨d, 0, none⟩ = some (.map (some m)) := Row.cell hD.row 0 rfl
  obtain ⟨fp, ok, hrun, hcase⟩ : ∃ fp ok, (Instr.lookup 54 (.map (some m)) (str s) true).run Tryz.prog (oneW w s) = .ok (.tuple #[fp, .bool ok]) (oneW w s) ∧
      ((∃ e0 ∈ E, e0.name = s ∧ fp = .pointer (some ⟨e0.f, 0, none⟩) ∧ ok = true) ∨ ((∀ e ∈ E, e.name ≠ s) ∧ fp = .pointer none ∧ ok = false)) := by
    rcases hD.lookup s hs (oneW w s) rfl with ⟨e0, he0, hn, hrun⟩ | ⟨hno, hrun⟩
    · exact ⟨_, _, hrun, .inl ⟨e0, he0, hn, rfl, rfl⟩⟩
    · exact ⟨_, _, hrun, .inr ⟨hno, rfl, rfl⟩⟩
  unfold str at hrun ⊢
  replace hcase := hide hcase
  replace hmay := hide hmay
  replace hn := hide hn
  replace hst := hide hst
  replace hnm := hide hnm
  go_enter Tryz.func26, Tryz.ntmps26
  go_wp2_with fail
  refine hmay.out.mono ?_
  rintro e w1 ⟨rfl, rfl⟩
  go_upto_if 28 with (fail)
  go_cut [8, 9] (fun s8 s9 wx => ∃ e0 : Ent, s8 = .pointer (some ⟨e0.f, 0, none⟩) ∧ s9 = .bool ok ∧ Ext w wx ∧ GotD w wx base E s ok e0)
  case first =>
    rcases hcase.out with ⟨e0, he0, hn0, rfl, rfl⟩ | ⟨hno, rfl, rfl⟩
    · go_wp2_with fail
      go_meet
      case rel => exact ⟨e0, rfl, rfl, hE, hn0, hD.fs.ok e0 he0, hD.lens e0 he0, fun _ => he0, nofun⟩
    · have hr := Row.new (oneW w s) 79 #[.slice none 0 0, .int .i64 0]
      have hw1 : (oneW w s).heap.size = w.heap.size + 1 := by simp
      rw [hw1] at hr
      have hE2 := hE.alloc (.cells #[.slice none 0 0, .int .i64 0] 79)
      replace hr := hide hr
      replace hno := hide hno
      go_wp2_with fail
      go_meet
      case rel =>
        refine ⟨⟨s, w.heap.size + 1, [], 0, none, 0⟩, rfl, rfl, hE2, rfl, ⟨hr.out, Buf.nil _ _ _, ?_, by simp⟩, by simp, nofun, fun _ => ⟨hno.out, rfl, rfl, rfl, by simp⟩⟩
        show base ≤ w.heap.size + 1
        omega
  case rest =>
    obtain ⟨e0, rfl, rfl, hwx, hG⟩ := hcut
    obtain ⟨wx, rfl⟩ : ∃ wx, wx = wc := ⟨_, rfl⟩
    have hpl := hG.plain hD0 hnm.out hst.out b
    have hDx : DE wx base d m P E := hD0.chg (Chg.of_ext hwx (fun _ => False)) (fun _ h => h.elim)
    have c0x : wx.cell? ⟨d, 0, none⟩ = some (.map (some m)) := Row.cell hDx.row 0 rfl
    have c1x : wx.cell? ⟨d, 1, none⟩ = some (.int .i64 P.quota) := Row.cell hDx.row 1 rfl
    have cfx : wx.cell? ⟨e0.f, 0, none⟩ = some (.slice e0.A e0.b.length e0.c) := hG.has.row.cell 0 rfl
    have hlen0 := hG.len
    have hcn := hDx.cnt
    obtain ⟨L, hL0, hmem, hlen⟩ := hD0.fs.map
    have hL := hL0.ext hwx
    have hlr := hL.len Tryz.underlying54 3
    obtain ⟨el, hel⟩ : ∃ x, x = E.length := ⟨_, rfl⟩
    obtain ⟨bl, hbl⟩ : ∃ x, x = e0.b.length := ⟨_, rfl⟩
    rw [hlen, ← hel] at hlr
    rw [← hel] at hcn hpl
    rw [← hbl] at cfx hlen0
    have done : ∀ k : Nat, appendM P s b = (P, k) → ∀ e, e = Ending.returned (.int .i64 k) → e = .returned (.int .i64 (appendM P s b).2) ∧ DNext base d F w (appendM P s b).1 wx := fun k hk => append_no hk hS hwx
    replace done := hide done
    replace hel := hide hel
    replace hbl := hide hbl
    replace hmem := hide hmem
    replace hlen := hide hlen
    clear hrun hcase c0
    by_cases hmany : ok = false ∧ 1024 ≤ el
    · rw [if_pos hmany] at hpl
      obtain ⟨rfl, h2⟩ := hmany
      have fin := done.out _ hpl
      replace hpl := hide hpl
      replace fin := hide fin
      go_wp2_with fail
      go_ret
      exact fin.out _ rfl
    · rw [if_neg hmany] at hpl
      unfold putM at hpl
      replace hpl := hide hpl
      go_upto_region 7 with (fail)
      go_cut [31] (fun s31 wy => s31 = .bool false ∧ wy = wx)
      case first =>
        rcases (by cases ok <;> simp : ok = true ∨ ok = false) with hok | hok
        · subst hok
          go_wp2_with fail
          go_meet
          case rel => exact ⟨rfl, rfl⟩
        · subst hok
          have hel2 : el < 1024 := by
            refine Nat.lt_of_not_le fun h => hmany ⟨rfl, h⟩
          go_wp2_with fail
          go_meet
          case rel => exact ⟨congrArg Value.bool (decide_eq_false (by omega)), rfl⟩
      case rest =>
        obtain ⟨rfl, hwy⟩ := hcut
        have hwy3 := hwy.symm
        clear hwy
        subst hwy3
        rw [← hbl.out, ← hn.out] at hpl
        have hpl := hpl.out
        simp only [] at hpl
        by_cases hlong : 67108864 < bl + n
        · rw [if_pos hlong] at hpl
          have fin := done.out _ hpl
          replace hpl := hide hpl
          replace fin := hide fin
          go_wp2_with fail
          go_ret
          exact fin.out _ rfl
        · rw [if_neg hlong] at hpl
          have hlong2 : bl + n ≤ 67108864 := by omega
          have hus := hDx.used_le
          have hup := hDx.used
          have hqb := hDx.hq
          obtain ⟨q, hq⟩ : ∃ q, q = P.quota := ⟨_, rfl⟩
          obtain ⟨us, huse⟩ : ∃ us, us = usedM E := ⟨_, rfl⟩
          have hfull : fullM P n = (decide (0 < q) && decide (0 < n) && decide ((q : Int) - us < n)) := by
            unfold fullM
            rw [hq, huse, hup]
          have hcall : ∀ w0, (w0.cell? ⟨d, 1, none⟩ = some (.int .i64 P.quota) ∧ Ext wx w0) → Calls Tryz.prog 59 #[.pointer (some ⟨d, 0, none⟩)] w0 fun e w' => e = .returned (.int .i64 (usedM E)) ∧ Ext w0 w' := fun w0 hw0 => used_any base d m P.quota P.armed P.stopped E w0 (Row.ext hDx.row hw0.2) (hDx.fs.chg (Chg.of_ext hw0.2 (fun _ => False)) (fun _ h => h.elim)) (by omega)
          rw [← huse] at hus hcall
          rw [← hq] at c1x hqb hcall
          replace hup := hide hup
          replace huse := hide huse
          replace hq := hide hq
          replace hfull := hide hfull
          replace hpl := hide hpl
          replace hcall := hide hcall
          go_upto_region 11 with (fail)
          go_cut [53] (fun s53 wy => s53 = .bool (fullM P n) ∧ Ext wx wy)
          case first =>
            have hS0 : wx.drew.cell? ⟨d, 1, none⟩ = some (.int .i64 q) ∧ Ext wx wx.drew := ⟨c1x, (Ext.refl wx).drew⟩
            have hS1 : wx.cell? ⟨d, 1, none⟩ = some (.int .i64 q) ∧ Ext wx wx := ⟨c1x, Ext.refl wx⟩
            have hkp : ∀ w0 w1 : World, (w0.cell? ⟨d, 1, none⟩ = some (.int .i64 q) ∧ Ext wx w0) → Ext w0 w1 → w1.cell? ⟨d, 1, none⟩ = some (.int .i64 q) ∧ Ext wx w1 := fun w0 w1 h1 h3 => ⟨h3.cell h1.1, h1.2.trans h3⟩
            replace hkp := hide hkp
            replace hS0 := hide hS0
            replace hS1 := hide hS1
            by_cases h1 : 0 < q
            · by_cases h2 : 0 < n
              · go_region_held3 (fun w' => w'.cell? ⟨d, 1, none⟩ = some (.int .i64 q) ∧ Ext wx w') (first | exact hS0.out | exact hS1.out | exact ‹_› | exact hkp.out _ _ ‹_› ‹_›) (first | (go_at_call 59; refine (hcall.out _ ‹_›).mono ?_; rintro e w5 ⟨rfl, hE5⟩))
                go_wp2_with fail
                go_meet
                case rel =>
                  rw [hfull.out]
                  refine ⟨?_, (‹w5.cell? ⟨d, 1, none⟩ = some (.int .i64 q) ∧ Ext wx w5›).2⟩
                  rw [IntWalk.i64_in _ (by omega)]
                  simp [h1, h2]
              · obtain rfl : n = 0 := by omega
                go_quiet (fail)
                go_wp2_with fail
                go_meet
                case rel =>
                  rw [hfull.out]
                  exact ⟨by simp, (Ext.refl wx).drewN _⟩
            · obtain rfl : q = 0 := by omega
              go_quiet (fail)
              go_wp2_with fail
              go_meet
              case rel =>
                rw [hfull.out]
                exact ⟨by simp, (Ext.refl wx).drewN _⟩
          case rest =>
            obtain ⟨hs53, hwy⟩ := hcut
            subst hs53
            have hwy2 : Ext w wc := hwx.trans hwy
            cases hf : fullM P n with
            | true =>
              have hpl2 := hpl.out
              rw [hf, if_pos rfl] at hpl2
              have fin := append_no hpl2 hS hwy2
              replace hpl2 := hide hpl2
              replace hf := hide hf
              replace fin := hide fin
              go_wp2_with fail
              go_ret
              exact fin.out _ rfl
            | false =>
              have hpl2 := hpl.out
              rw [hf, if_neg (by simp)] at hpl2
              have hDy : DE wc base d m P E := hDx.chg (Chg.of_ext hwy (fun _ => False)) (fun _ h => h.elim)
              have hrowy : DRow wc d m P.quota P.armed false := by have := hDy.row; rw [hst.out] at this; exact this
              have hcl := call_any d m P.quota P.armed wc hrowy hDy.ha
              replace hf := hide hf
              replace hpl2 := hide hpl2
              replace hcl := hide hcl
              clear hpl hfull hcall c0x c1x cfx done hlr
              go_wp2_with fail
              refine hcl.out.mono ?_
              rintro e w6 ⟨rfl, hrow6, hc6, hs6⟩
              by_cases ha : P.armed = 1
              · have hpl3 := hpl2.out
                rw [if_pos ha] at hpl3 ⊢
                have hrow6' : DRow w6 d m P.stops.quota P.stops.armed P.stops.stopped := by
                  rw [ha] at hrow6
                  exact hrow6
                have fin : DNext base d F w P.stops w6 := hS.next hF (hDy.own hc6 hrow6' rfl hDy.hq (by show 0 ≤ _; omega)) ((Chg.of_ext hwy2 (Foot d m E)).trans hc6 (fun k _ hk => .inl hk)) (fun k hk => .inl hk)
                replace hpl3 := hide hpl3
                replace fin := hide fin
                replace ha := hide ha
                go_wp2_with fail
                go_ret
                rw [hpl3.out]
                exact ⟨rfl, fin.out⟩
              · have hpl3 := hpl2.out
                rw [if_neg ha] at hpl3 ⊢
                have hrow6' : DRow w6 d m P.quota (P.armed - 1) false := by
                  rw [decide_eq_false ha] at hrow6
                  exact hrow6
                have hG2 : GotD w wc base E s ok e0 := ⟨hG.name, hG.has.keep (Below.block hwy _ hG.has.row.lt) fun a haa => Below.block hwy _ (hG.has.buf.lt a haa), hG.len, hG.here, hG.away⟩
                have hap := hDy.apart
                have hLy := hL.ext hwy
                have hm0 := hG2.has.ne_map hLy
                have hd0 : d ≠ e0.f ∧ ∀ a, e0.A = some a → d ≠ a.block := ⟨Row.unlike hDy.row hG2.has.row (by decide), fun a ha hd => hG2.has.buf.unlike hDy.row (by decide) a ha hd.symm⟩
                have hr6 : Row w6 e0.f 79 #[.slice e0.A e0.b.length e0.c, .int .i64 e0.sure] := hc6.row hG2.has.row fun h => hd0.1 h.symm
                have hb6 : Buf w6 base 5 e0.A e0.b.length e0.c (e0.b.map B8) := hG2.has.buf.chg hc6 fun a haa h => hd0.2 a haa h.symm
                have hB6 : Cells w6 B (b.map B8) := by
                  by_cases hbe : b = []
                  · exact .inl (by rw [hbe]; rfl)
                  · exact hc6.cells (hb.ext hwy2) fun a haa h => hBF hbe a haa ((hF _).2 (.inl h))
                have hL6 : MapL Tryz.prog 9 w6 m L := hLy.keep (hc6.block m hLy.lt fun h => hap.1 h.symm)
                have hsz6 : base ≤ w6.heap.size := Nat.le_trans hbase (Nat.le_trans hwy2.size hc6.size)
                obtain ⟨A1, c1, W2, hrunapp, hbuf2, hg2, hA1⟩ := run_buf elemB w6 57 (c' := c) hb6 hB6 (m := n) (by rw [List.length_map]; exact hn.out.symm) (bytes_one _) (by rw [← hbl.out]; omega) hsz6
                have hown : ∀ g, (∀ a, e0.A = some a → g ≠ a.block) → some g ≠ (Value.slice e0.A e0.b.length e0.c).ownBlock := by
                  intro g hg he
                  rcases hb6.2.2 with ⟨h1, _⟩ | ⟨g', cur, h1, _⟩
                  · rw [h1] at he; cases he
                  · rw [h1] at he
                    exact hg _ h1 (by simpa [Value.ownBlock] using he)
                have hr7 : Row W2 e0.f 79 #[.slice e0.A e0.b.length e0.c, .int .i64 e0.sure] := hr6.grown hg2 (hown _ fun a haa => hG2.has.fa hG2.has a haa)
                have hrow7 : DRow W2 d m P.quota (P.armed - 1) false := Row.grown hrow6' hg2 (hown _ hd0.2)
                have hL7 : MapL Tryz.prog 9 W2 m L := hL6.grown hg2 (fun h => hown m (fun a haa hh => hm0.2 a haa hh.symm) h.symm)
                have hL8 := hL7.set_ (a := ⟨e0.f, 0, none⟩) (.slice A1 (e0.b.length + n) c1) (fun h => hm0.1 h.symm)
                obtain ⟨W4, L', hupd, hL4, hput, hg4, hs4⟩ := hL8.update keyS Tryz.underlying54 (key_str hs) (.pointer (some ⟨e0.f, 0, none⟩))
                have fin : DNext base d F w (P.goes (withG fname (s, e0.b ++ b, e0.sure) P.L)) W4 := by
                  rw [hn.out] at hbuf2 hg4
                  obtain ⟨E', h1, h2, h3⟩ := append_end hD0 hs hwy2 hG2 (fun h => Nat.lt_of_not_le fun h9 => hmany ⟨h, by rw [hel.out]; exact h9⟩) (by rw [← hbl.out, ← hn.out]; exact hlong2) hrow6' hc6 hst.out hbuf2 hg2 hA1 hmem.out hL0 hput hL4 hg4
                  exact hS.next hF h1 h2 h3
                have cf6 : w6.cell? ⟨e0.f, 0, none⟩ = some (.slice e0.A e0.b.length e0.c) := hr6.cell 0 rfl
                have c7 : W2.cell? ⟨e0.f, 0, none⟩ = some (.slice e0.A e0.b.length e0.c) := hr7.cell 0 rfl
                have f7 := hr7.free 0
                have c8 : (W2.setCell ⟨e0.f, 0, none⟩ (.slice A1 (e0.b.length + n) c1)).cell? ⟨d, 0, none⟩ = some (.map (some m)) := (Row.away hrow7 (p := ⟨e0.f, 0, none⟩) hd0.1 _).cell 0 rfl
                unfold str at hupd
                replace hpl3 := hide hpl3
                replace fin := hide fin
                replace ha := hide ha
                replace hname := hide hG.name
                replace hd0 := hide hd0
                replace hap := hide hap
                replace hm0 := hide hm0
                replace hown := hide hown
                replace hA1 := hide hA1
                replace hs4 := hide hs4
                replace hs6 := hide hs6
                replace hkk := hide hwy2
                clear hrow6 hL7 hL8 hL4 hput hg4 hB6 hb6 hbuf2 hr6 hr7 hrow7 hL6 hsz6 hg2 hc6 hLy hL hL0 hG2 hG hDy hDx hD
                go_wp2_with (at_builtin; refine wpList_app_run hrunapp (.tmp 86) (.tmp 87) rfl rfl rfl rfl rfl ?_)
                go_ret
                rw [hpl3.out]
                exact ⟨rfl, fin.out⟩
theorem append_any0 (base d : Nat) (P : PD) (F : Nat → Prop) (s b : List UInt8) (B : Option Addr) (n c : Nat) (w : World) (h : DS w base d P F) (hs : s.length ≤ 9223372036854775807) (hb : Bs w B b) (hBF : b ≠ [] → ∀ a, B = some a → ¬ F a.block) (hn : n = b.length) (hn2 : n ≤ 1073741824)
    (hbase : base ≤ w.heap.size) :
    Calls Tryz.prog 26 #[.pointer (some ⟨d, 0, none⟩), str s, .slice B n c] w fun e w' => e = .returned (.int .i64 (appendM P s b).2) ∧ DNext base d F w (appendM P s b).1 w' := by
  cases hnm : namedM s with
  | false => exact append_bad base d P F s b B n c w h hs (.inl hnm)
  | true =>
    cases hst : P.stopped with
    | true => exact append_bad base d P F s b B n c w h hs (.inr hst)
    | false => exact append_good base d P F s b B n c w h hs hb hBF hn hn2 hbase hnm hst
theorem append_any (base d : Nat) (P : PD) (F : Nat → Prop) (s b : List UInt8) (B : Option Addr) (n c : Nat) (w : World) (h : DS w base d P F) (hs : s.length ≤ 9223372036854775807) (hb : Bs w B b) (hBF : ∀ a, B = some a → ¬ F a.block) (hn : n = b.length) (hn2 : n ≤ 1073741824)
    (hbase : base ≤ w.heap.size) :
    Calls Tryz.prog 26 #[.pointer (some ⟨d, 0, none⟩), str s, .slice B n c] w fun e w' => e = .returned (.int .i64 (appendM P s b).2) ∧ DNext base d F w (appendM P s b).1 w' := append_any0 base d P F s b B n c w h hs hb (fun _ => hBF) hn hn2 hbase
end Go.Proofs.YtaoolpnnomhnoaaGreatDoor

/- loggia/disk: writes. -/
namespace Go.Proofs.YtaoolpnnomhnoaaGreatDoor
open Go.RowKit Go.Maps

/-- What a writing call leaves of the disk. -/
def WPost (S : Nat → Prop) (base d m : Nat) (E : List Ent) (P : PD) (w w' : World) : Prop := ∃ E', DE w' base d m P E' ∧ Chg S w w' ∧ ∀ k, Foot d m E' k → Foot d m E k ∨ w.heap.size ≤ k
def WS (d m : Nat) (E : List Ent) (A : Option Addr) (i : Nat) : Prop := Foot d m E i ∨ ∃ a, A = some a ∧ a.block = i
theorem WPost.same {S : Nat → Prop} {base d m : Nat} {E : List Ent} {P : PD} {w w' : World} (hD : DE w' base d m P E) (hc : Chg S w w') : WPost S base d m E P w w' := ⟨E, hD, hc, fun _ h => .inl h⟩
set_option maxRecDepth 100000 in
set_option maxHeartbeats 2000000 in
theorem writes_any (base d m b0 : Nat) (P : PD) (E : List Ent) (s : List UInt8) (ns : List (List UInt8)) (k : Nat) (caps : Array Value) (kk : PF → List PF) (A : Option Addr) (n c : Nat) (w : World) (hD : DE w base d m P E)
    (hs : s.length ≤ 9223372036854775807) (hns : ∀ x ∈ ns, x.length ≤ 9223372036854775807) (hn : n = ns.length) (hn2 : n ≤ 100) (hb0 : b0 ≤ w.heap.size) (ho : w.ownsRow b0 9 1 (.slice A n c) n (ns.map str)) (hA : ∀ a, A = some a → ¬ Foot d m E a.block)
    (hcf : ∀ (args : Array Value) (W : World), (callFunc k args).run Tryz.prog W = .ok (.enter k args) W)
    (hk : ∀ (w1 : World) (e0 : Ent), e0 ∈ E → e0.name = s → Chg (WS d m E A) w w1 → DE w1 base d m (P.goes P.L) E → Calls Tryz.prog k (#[.pointer (some ⟨e0.f, 0, none⟩)] ++ caps) w1 fun e w' => e = .returned (.tuple #[]) ∧ WPost (Foot d m E) base d m E (P.goes (kk e0.pl)) w1 w') :
    Calls Tryz.prog 61 #[.pointer (some ⟨d, 0, none⟩), str s, .func (.func k) #[] caps, .slice A n c] w fun e w' => e = .returned (.int .i64 (writesM P (ns ++ [s]) s kk).2) ∧ WPost (WS d m E A) base d m E (writesM P (ns ++ [s]) s kk).1 w w' := by
  unfold str
  have hown : ∀ g, (Value.slice A n c).ownBlock = some g → ∃ a, A = some a ∧ a.block = g := by
    intro g hg
    cases A with
    | none => cases hg
    | some a =>
      refine ⟨a, rfl, ?_⟩
      rcases ho.2 with ⟨h, _⟩ | ⟨g', cap, cur, h, _⟩
      · cases h
      · cases h
        simpa [Value.ownBlock] using hg
  replace hown := hide hown
  replace hk := hide hk
  replace hcf := hide hcf
  replace hn := hide hn
  go_enter Tryz.func61, Tryz.ntmps61
  go_wp2_with (at_builtin; refine wpList_appN (us := [.string ⟨s.toArray⟩]) elemS ho (.tmp 14) (.tmp 16) rfl rfl rfl rfl (one_of rfl) (by simp; omega) hb0 (fun A1 c1 w3 ho3 hg3 hl3 => ?_))
  have hc3 : Chg (fun i => ∃ a, A = some a ∧ a.block = i) w w3 := Chg.of_grown hg3 fun i _ hi => hown.out i hi
  have hD3 : DE w3 base d m P E := hD.chg hc3 fun i ⟨a, ha, hi⟩ hf => hA a ha (by rw [hi]; exact hf)
  have hc3' : Chg (WS d m E A) w w3 := hc3.mono fun i _ h => .inr h
  have hmay := may_any d m P.quota P.armed P.stopped A1 (n + 1) c1 (ns ++ [s]) w3 hD3.row (by rw [List.length_append, hn.out]; rfl) (by rw [List.map_append]; exact Cells.of_own ho3) (by omega) (by
    intro x hx
    rcases List.mem_append.1 hx with h | h
    · exact hns x h
    · simp at h; rw [h]; exact hs)
  have c0 : w3.cell? ⟨d, 0, none⟩ = some (.map (some m)) := Row.cell hD3.row 0 rfl
  have hl1 : [Value.string ⟨s.toArray⟩].length = 1 := rfl
  simp only [List.length_singleton] at ho3 ⊢
  clear ho3 hl3 hg3 ho hl1
  cases hall : (ns ++ [s]).all namedM with
  | false =>
    have hw : writesM P (ns ++ [s]) s kk = (P, 60) := by unfold writesM; rw [hall]; rfl
    have hm : mayM (ns ++ [s]) P.stopped = 60 := by unfold mayM; rw [hall]; rfl
    rw [hm] at hmay
    have fin : WPost (WS d m E A) base d m E P w w3 := WPost.same hD3 hc3'
    replace hw := hide hw
    replace fin := hide fin
    replace hall := hide hall
    replace hmay := hide hmay
    clear hm
    go_wp2_with fail
    refine hmay.out.mono ?_
    rintro e w1 ⟨rfl, rfl⟩
    go_wp2_with fail
    go_ret
    rw [hw.out]
    exact ⟨rfl, fin.out⟩
  | true =>
    cases hst : P.stopped with
    | true =>
      have hw : writesM P (ns ++ [s]) s kk = (P, 63) := by unfold writesM; rw [hall, hst]; rfl
      have hm : mayM (ns ++ [s]) P.stopped = 63 := by unfold mayM; rw [hall, hst]; rfl
      rw [hm] at hmay
      have fin : WPost (WS d m E A) base d m E P w w3 := WPost.same hD3 hc3'
      replace hw := hide hw
      replace fin := hide fin
      replace hall := hide hall
      replace hst := hide hst
      replace hmay := hide hmay
      clear hm
      go_wp2_with fail
      refine hmay.out.mono ?_
      rintro e w1 ⟨rfl, rfl⟩
      go_wp2_with fail
      go_ret
      rw [hw.out]
      exact ⟨rfl, fin.out⟩
    | false =>
      have hm : mayM (ns ++ [s]) P.stopped = 0 := by unfold mayM; rw [hall, hst]; rfl
      rw [hm] at hmay
      rcases hD3.lookup s hs w3 rfl with ⟨e0, he0, hn0, hrun⟩ | ⟨hno, hrun⟩
      · have hfd : P.find s = some e0.pl := by rw [← hn0]; exact hD3.find_in he0
        have hrow3 : DRow w3 d m P.quota P.armed false := by have := hD3.row; rw [hst] at this; exact this
        have hcl := call_any d m P.quota P.armed w3 hrow3 hD3.ha
        unfold str at hrun
        have hw : writesM P (ns ++ [s]) s kk = if P.armed = 1 then (P.stops, 63) else (P.goes (kk e0.pl), 0) := by unfold writesM; rw [hall, hst, hfd]; rfl
        replace hcl := hide hcl
        replace hw := hide hw
        replace hall := hide hall
        replace hst := hide hst
        replace hmay := hide hmay
        replace hn0 := hide hn0
        clear hm hfd
        go_wp2_with fail
        refine hmay.out.mono ?_
        rintro e w1 ⟨rfl, rfl⟩
        go_wp2_with fail
        refine hcl.out.mono ?_
        rintro e w6 ⟨rfl, hrow6, hc6, hs6⟩
        have hc6' : Chg (WS d m E A) w w6 := hc3'.trans hc6 fun i _ h => .inl (.inl h)
        by_cases ha : P.armed = 1
        · have hw2 := hw.out
          rw [if_pos ha] at hw2 ⊢
          have hrow6' : DRow w6 d m P.stops.quota P.stops.armed P.stops.stopped := by
            rw [ha] at hrow6
            exact hrow6
          have fin : WPost (WS d m E A) base d m E P.stops w w6 := WPost.same (hD3.own hc6 hrow6' rfl hD3.hq (by show 0 ≤ _; omega)) hc6'
          replace hw2 := hide hw2
          replace fin := hide fin
          replace ha := hide ha
          go_wp2_with fail
          go_ret
          rw [hw2.out]
          exact ⟨rfl, fin.out⟩
        · have hw2 := hw.out
          rw [if_neg ha] at hw2 ⊢
          have hrow6' : DRow w6 d m (P.goes P.L).quota (P.goes P.L).armed (P.goes P.L).stopped := by
            rw [decide_eq_false ha] at hrow6
            show DRow w6 d m P.quota (P.armed - 1) P.stopped
            rw [hst.out]
            exact hrow6
          have hDw : DE w6 base d m (P.goes P.L) E := hD3.own hc6 hrow6' rfl hD3.hq (by have := hD3.ha; show P.armed - 1 ≤ _; omega)
          have hkk := hk.out w6 e0 he0 hn0.out hc6' hDw
          replace hw2 := hide hw2
          replace ha := hide ha
          replace hs6 := hide hs6
          replace hkk := hide hkk
          have hcf2 := hcf.out (#[.pointer (some ⟨e0.f, 0, none⟩)] ++ caps) w6
          go_wp2_with fail
          refine hkk.out.mono ?_
          rintro e w7 ⟨rfl, E', h1, h2, h3⟩
          have fin : WPost (WS d m E A) base d m E (P.goes (kk e0.pl)) w w7 := ⟨E', h1, hc6'.trans h2 fun i _ h => .inl h, fun i hi => (h3 i hi).imp_right fun h => Nat.le_trans hc6'.size h⟩
          replace fin := hide fin
          go_wp2_with fail
          go_ret
          rw [hw2.out]
          exact ⟨rfl, fin.out⟩
      · have hw : writesM P (ns ++ [s]) s kk = (P, 61) := by unfold writesM; rw [hall, hst, hD3.find_out hno]; rfl
        unfold str at hrun
        have fin : WPost (WS d m E A) base d m E P w w3 := WPost.same hD3 hc3'
        replace hw := hide hw
        replace fin := hide fin
        replace hall := hide hall
        replace hst := hide hst
        replace hmay := hide hmay
        replace hno := hide hno
        clear hm
        go_wp2_with fail
        refine hmay.out.mono ?_
        rintro e w1 ⟨rfl, rfl⟩
        go_wp2_with fail
        go_ret
        rw [hw.out]
        exact ⟨rfl, fin.out⟩
end Go.Proofs.YtaoolpnnomhnoaaGreatDoor

/- loggia/disk: Sync, Rename, Remove: what they do to the file. -/
namespace Go.Proofs.YtaoolpnnomhnoaaGreatDoor
open Go.RowKit Go.Maps

section
variable {w W : World} {base d m : Nat} {P : PD} {E : List Ent} {e0 x : Ent}
theorem DE.got (h : DE w base d m P E) (he : e0 ∈ E) : GotD w w base E e0.name true e0 := ⟨rfl, h.fs.ok e0 he, h.lens e0 he, fun _ => he, nofun⟩
/-- A file whose count of durable bytes has turned. -/
theorem sync_end {L : List PF} (hD : DE w base d m (P.goes P.L) E) (he : e0 ∈ E) :
    WPost (Foot d m E) base d m E (P.goes (withG fname (e0.name, e0.b, e0.b.length) P.L)) w (w.setCell ⟨e0.f, 1, none⟩ (.int .i64 e0.b.length)) := by
  obtain ⟨W, hW⟩ : ∃ W, W = w.setCell ⟨e0.f, 1, none⟩ (.int .i64 e0.b.length) := ⟨_, rfl⟩
  rw [← hW]
  have hc : Chg (fun k => k = e0.f) w W := by rw [hW]; exact Chg.of_set w (a := ⟨e0.f, 1, none⟩) _ rfl
  have hG := hD.got he
  have hok := hD.fs.ok e0 he
  obtain ⟨e1, he1⟩ : ∃ e1 : Ent, e1 = { e0 with sure := e0.b.length } := ⟨_, rfl⟩
  obtain ⟨L, hL, hmem, _⟩ := hD.fs.map
  have hm0 := hok.ne_map hL
  have hok1 : EOk W base e1 := by
    rw [he1]
    refine ⟨?_, hok.buf.chg hc fun a ha h => hok.fa hok a ha h.symm, hok.low, Nat.le_refl _⟩
    rw [hW]
    exact hok.row.put 1 _
  refine ⟨withG Ent.name e1 E, hD.put ?_ ⟨L, hL.keep (hc.block m hL.lt fun h => hm0.1 h.symm), hD.mapSame hmem he (by rw [he1]) (by rw [he1])⟩ ?_ hok1 (by rw [he1]; exact hD.fs.short e0 he) (by rw [he1]; exact hD.lens e0 he) ?_ ?_ hD.hq hD.ha, hc.mono fun k _ hk => .inr (.inr ⟨e0, he, .inl hk⟩), ?_⟩
  · exact hc.row hD.row (Row.unlike hD.row hok.row (by decide))
  · intro x hx hn
    rw [he1] at hn
    obtain ⟨h1, h2⟩ := hG.far hD hx hn
    have hokx := hD.fs.ok x hx
    refine ⟨hokx.keep (hc.block _ hokx.row.lt h1) fun a ha => hc.block _ (hokx.buf.lt a ha) fun h => hok.fa hokx a ha h.symm, by rw [he1]; exact h1, by rw [he1]; exact h2⟩
  · refine Nat.le_trans (len_with_in he (by rw [he1])) hD.cnt
  · rw [he1]
    rfl
  · intro k hk
    rcases foot_with hk with h | h | ⟨a, ha, h⟩
    · exact .inl h
    · rw [he1] at h
      exact .inl (.inr (.inr ⟨e0, he, .inl h⟩))
    · rw [he1] at ha
      exact .inl (.inr (.inr ⟨e0, he, .inr ⟨a, ha, h⟩⟩))
/-- A file dropped from the map. -/
theorem drop_end {s : List UInt8} (hD : DE w base d m (P.goes P.L) E) {L L' : List (Value × Value)} (hmem : ∀ p, p ∈ L ↔ ∃ e ∈ E, p = e.kv) (hL : MapL Tryz.prog 9 w m L)
    (hL' : MapL Tryz.prog 9 W m L') (hp : ∀ p, p ∈ L' ↔ p ∈ L ∧ p.1 ≠ str s) (hg : w.grownBy W (some m)) :
    WPost (Foot d m E) base d m E (P.goes (withoutG fname s P.L)) w W ∧ DE W base d m (P.goes (withoutG fname s P.L)) (withoutG Ent.name s E) ∧ Chg (fun k => k = m) w W := by
  have hc : Chg (fun k => k = m) w W := Chg.of_grown hg fun k _ hk => by cases hk; rfl
  have hDE : DE W base d m (P.goes (withoutG fname s P.L)) (withoutG Ent.name s E) := hD.drop s (hc.row hD.row hD.apart.1) ⟨L', hL', DE.mapDrop hmem hp⟩ (fun x hx => by
    have hokx := hD.fs.ok x hx
    have hmx := hokx.ne_map hL
    exact hokx.keep (hc.block _ hokx.row.lt hmx.1) fun a ha => hc.block _ (hokx.buf.lt a ha) (hmx.2 a ha)) rfl hD.hq hD.ha
  exact ⟨⟨_, hDE, hc.mono fun k _ hk => .inr (.inl hk), fun k hk => .inl (foot_without hk)⟩, hDE, hc⟩
/-- A file dropped, and put under another name. -/
theorem rename_end {w1 w2 : World} {s t : List UInt8} (hD : DE w base d m (P.goes P.L) E) (he : e0 ∈ E) (hn : e0.name = s) (ht : t.length ≤ 9223372036854775807) {L L1 L2 : List (Value × Value)} (hmem : ∀ p, p ∈ L ↔ ∃ e ∈ E, p = e.kv) (hL : MapL Tryz.prog 9 w m L)
    (hL1 : MapL Tryz.prog 9 w1 m L1) (hp : ∀ p, p ∈ L1 ↔ p ∈ L ∧ p.1 ≠ str s) (hg1 : w.grownBy w1 (some m)) (hL2 : MapL Tryz.prog 9 w2 m L2) (hput : Put L1 (str t) (.pointer (some ⟨e0.f, 0, none⟩)) L2) (hg2 : w1.grownBy w2 (some m)) :
    WPost (Foot d m E) base d m E (P.goes (withG fname (t, e0.b, e0.sure) (withoutG fname s P.L))) w w2 := by
  obtain ⟨_, hD1, hc1⟩ := drop_end hD hmem hL hL1 hp hg1
  have hc2 : Chg (fun k => k = m) w1 w2 := Chg.of_grown hg2 fun k _ hk => by cases hk; rfl
  have hmem1 := DE.mapDrop hmem hp
  have hG := hD.got he
  have hok := hD.fs.ok e0 he
  have hm0 := hok.ne_map hL
  obtain ⟨e1, he1⟩ : ∃ e1 : Ent, e1 = { e0 with name := t } := ⟨_, rfl⟩
  have hc : Chg (fun k => k = m) w w2 := hc1.trans hc2 fun _ _ h => h
  have hok1 : EOk w2 base e1 := by
    rw [he1]
    exact ⟨hc.row hok.row hm0.1, hok.buf.chg hc fun a ha h => hm0.2 a ha h, hok.low, hok.sure⟩
  refine ⟨withG Ent.name e1 (withoutG Ent.name s E), hD1.put ?_ ⟨L2, hL2, hD1.mapPut hmem1 ?_⟩ ?_ hok1 (by rw [he1]; exact ht) (by rw [he1]; exact hD.lens e0 he) ?_ ?_ hD.hq hD.ha, hc.mono fun k _ hk => .inr (.inl hk), ?_⟩
  · exact hc.row hD.row hD.apart.1
  · rw [he1]
    exact hput
  · intro x hx hxn
    obtain ⟨hxE, hxs⟩ := mem_without.1 hx
    obtain ⟨h1, h2⟩ := hG.far hD hxE (by rw [hn]; exact hxs)
    have hokx := hD.fs.ok x hxE
    have hmx := hokx.ne_map hL
    refine ⟨hokx.keep (hc.block _ hokx.row.lt hmx.1) fun a ha => hc.block _ (hokx.buf.lt a ha) (hmx.2 a ha), by rw [he1]; exact h1, by rw [he1]; exact h2⟩
  · have h1 := len_with_le (nm := Ent.name) e1 (withoutG Ent.name s E)
    have h2 := len_without_lt (nm := Ent.name) he hn
    have := hD.cnt
    omega
  · rw [he1]
    rfl
  · intro k hk
    rcases foot_with hk with h | h | ⟨a, ha, h⟩
    · exact .inl (foot_without h)
    · rw [he1] at h
      exact .inl (.inr (.inr ⟨e0, he, .inl h⟩))
    · rw [he1] at ha
      exact .inl (.inr (.inr ⟨e0, he, .inr ⟨a, ha, h⟩⟩))
end
end Go.Proofs.YtaoolpnnomhnoaaGreatDoor

/- loggia/disk: Sync, Rename, Remove. -/
namespace Go.Proofs.YtaoolpnnomhnoaaGreatDoor
open Go.RowKit Go.Maps

set_option maxRecDepth 100000 in
theorem sync1_any (base d m : Nat) (P : PD) (E : List Ent) (e0 : Ent) (w : World) (hD : DE w base d m (P.goes P.L) E) (he : e0 ∈ E) :
    Calls Tryz.prog 62 #[.pointer (some ⟨e0.f, 0, none⟩)] w fun e w' => e = .returned (.tuple #[]) ∧ WPost (Foot d m E) base d m E (P.goes (withG fname (e0.name, e0.b, e0.b.length) P.L)) w w' := by
  have hr := (hD.fs.ok e0 he).row
  have c0 : w.cell? ⟨e0.f, 0, none⟩ = some (.slice e0.A e0.b.length e0.c) := hr.cell 0 rfl
  have c1 : w.cell? ⟨e0.f, 1, none⟩ = some (.int .i64 e0.sure) := hr.cell 1 rfl
  have f1 := hr.free 1
  have fin := sync_end (L := []) hD he
  replace fin := hide fin
  go_enter Tryz.func62, Tryz.ntmps62
  go_wp2_with fail
  go_end0
  exact ⟨rfl, fin.out⟩
theorem calls_fn (k : Nat) (h : ∀ (args : Array Value) (W : World), (callFunc k args).run Tryz.prog W = .ok (.enter k args) W) : ∀ (args : Array Value) (W : World), (callFunc k args).run Tryz.prog W = .ok (.enter k args) W := h
theorem ws_nil {d m : Nat} {E : List Ent} {i : Nat} (h : WS d m E none i) : Foot d m E i := by
  rcases h with h | ⟨a, ha, _⟩
  · exact h
  · cases ha
theorem WPost.mono {S S' : Nat → Prop} {base d m : Nat} {E : List Ent} {P : PD} {w w' : World} (h : WPost S base d m E P w w') (hs : ∀ i, i < w.heap.size → S i → S' i) : WPost S' base d m E P w w' := by
  obtain ⟨E', h1, h2, h3⟩ := h
  exact ⟨E', h1, h2.mono hs, h3⟩
theorem WPost.next {base d m : Nat} {E : List Ent} {P P' : PD} {F : Nat → Prop} {w w1 w' : World} (h : WPost (Foot d m E) base d m E P' w1 w') (hS : DS w base d P F) (hF : ∀ k, F k ↔ Foot d m E k) (he : Ext w w1) : DNext base d F w P' w' := by
  obtain ⟨E', h1, h2, h3⟩ := h
  exact hS.next hF h1 ((Chg.of_ext he (Foot d m E)).trans h2 fun _ _ h => h) fun k hk => (h3 k hk).imp_right fun h => Nat.le_trans he.size h
set_option maxRecDepth 100000 in
theorem sync_any (base d : Nat) (P : PD) (F : Nat → Prop) (s : List UInt8) (w : World) (h : DS w base d P F) (hs : s.length ≤ 9223372036854775807) :
    Calls Tryz.prog 28 #[.pointer (some ⟨d, 0, none⟩), str s] w fun e w' => e = .returned (.int .i64 (syncM P s).2) ∧ DNext base d F w (syncM P s).1 w' := by
  have hS := h
  obtain ⟨m, E, hD, hF⟩ := h
  have hw := writes_any base d m w.heap.size P E s [] 62 #[] (fun f => withG fname (f.1, f.2.1, f.2.1.length) P.L) none 0 0 w hD hs (by simp) rfl (by omega) (Nat.le_refl _) (World.ownsRow_nil _ _ _ _) nofun (fun args W => by kernel_rfl)
    (fun w1 e0 he hn _ hD1 => sync1_any base d m P E e0 w1 hD1 he)
  have hsy : syncM P s = writesM P ([] ++ [s]) s (fun f => withG fname (f.1, f.2.1, f.2.1.length) P.L) := rfl
  rw [← hsy] at hw
  unfold str at hw ⊢
  replace hw := hide hw
  clear hsy
  go_enter Tryz.func28, Tryz.ntmps28
  go_wp2_with fail
  refine hw.out.mono ?_
  rintro e w1 ⟨rfl, h1⟩
  go_wp2_with fail
  go_ret
  exact ⟨rfl, (h1.mono fun i _ hi => ws_nil hi).next hS hF (Ext.refl _)⟩
theorem grown_of_drew {w w1 : World} {r : Option Nat} (h : w.drew.grownBy w1 r) : w.grownBy w1 r := ⟨h.os, h.tape, h.output, h.size, h.block⟩
set_option maxRecDepth 100000 in
theorem remove1_any (base d m bd bn : Nat) (P : PD) (E : List Ent) (s : List UInt8) (w : World) (hD : DE w base d m (P.goes P.L) E) (hs : s.length ≤ 9223372036854775807) (f : Value) (hd : w.cell? ⟨bd, 0, none⟩ = some (.pointer (some ⟨d, 0, none⟩))) (hn : w.cell? ⟨bn, 0, none⟩ = some (str s)) :
    Calls Tryz.prog 92 #[f, .pointer (some ⟨bd, 0, none⟩), .pointer (some ⟨bn, 0, none⟩)] w fun e w' => e = .returned (.tuple #[]) ∧ WPost (Foot d m E) base d m E (P.goes (withoutG fname s P.L)) w w' := by
  obtain ⟨L, hL, hmem, _⟩ := hD.fs.map
  have c0 : w.cell? ⟨d, 0, none⟩ = some (.map (some m)) := Row.cell hD.row 0 rfl
  obtain ⟨L', w1, hrun, hL', hp, hg, _⟩ := hL.drew.delete keyS Tryz.underlying54 (key_str hs) 9 0
  have fin := (drop_end (W := w1) hD hmem hL hL' hp (grown_of_drew hg)).1
  unfold str at hrun hn
  replace fin := hide fin
  clear hL' hp hg hL
  go_enter Tryz.func92, Tryz.ntmps92
  refine wp_region_text follows (by kernel_rfl) (by kernel_rfl) (fun K hK => ?_)
  go_wp2_with fail
  refine ⟨by kernel_rfl, ?_⟩
  go_wp2_with fail
  go_end0
  exact ⟨rfl, fin.out⟩
set_option maxRecDepth 100000 in
set_option maxHeartbeats 1000000 in
theorem rename1_any (base d m bd bs bt : Nat) (P : PD) (E : List Ent) (s t : List UInt8) (e0 : Ent) (w : World) (hD : DE w base d m (P.goes P.L) E) (he : e0 ∈ E) (hn : e0.name = s) (hs : s.length ≤ 9223372036854775807) (ht : t.length ≤ 9223372036854775807)
    (hd : w.cell? ⟨bd, 0, none⟩ = some (.pointer (some ⟨d, 0, none⟩))) (hcs : w.cell? ⟨bs, 0, none⟩ = some (str s)) (hct : w.cell? ⟨bt, 0, none⟩ = some (str t)) (h1 : bd ≠ m ∧ bs ≠ m ∧ bt ≠ m) :
    Calls Tryz.prog 63 #[.pointer (some ⟨e0.f, 0, none⟩), .pointer (some ⟨bd, 0, none⟩), .pointer (some ⟨bs, 0, none⟩), .pointer (some ⟨bt, 0, none⟩)] w fun e w' => e = .returned (.tuple #[]) ∧ WPost (Foot d m E) base d m E (P.goes (withG fname (t, e0.b, e0.sure) (withoutG fname s P.L))) w w' := by
  obtain ⟨L, hL, hmem, _⟩ := hD.fs.map
  have c0 : w.cell? ⟨d, 0, none⟩ = some (.map (some m)) := Row.cell hD.row 0 rfl
  obtain ⟨L1, w1, hrun, hL1, hp, hg, _⟩ := hL.drew.delete keyS Tryz.underlying54 (key_str hs) 9 0
  have hg' := grown_of_drew hg
  have hc : Chg (fun k => k = m) w w1 := Chg.of_grown hg' fun k _ hk => by cases hk; rfl
  obtain ⟨w2, L2, hrun2, hL2, hput, hg2, _⟩ := hL1.drew.update keyS Tryz.underlying54 (key_str ht) (.pointer (some ⟨e0.f, 0, none⟩))
  have d0 : w1.cell? ⟨d, 0, none⟩ = some (.map (some m)) := hc.cell c0 hD.apart.1
  have hd1 : w1.cell? ⟨bd, 0, none⟩ = some (.pointer (some ⟨d, 0, none⟩)) := hc.cell hd h1.1
  have hct1 : w1.cell? ⟨bt, 0, none⟩ = some (str t) := hc.cell hct h1.2.2
  have fin := rename_end hD he hn ht hmem hL hL1 hp hg' hL2 hput (grown_of_drew hg2)
  unfold str at hrun hrun2 hcs hct hct1
  replace fin := hide fin
  replace hn := hide hn
  replace h1 := hide h1
  clear hL1 hp hg hL hL2 hput hg2 hg' hc
  go_enter Tryz.func63, Tryz.ntmps63
  go_wp2_with fail
  refine wp_region_text follows (by kernel_rfl) (by kernel_rfl) (fun K hK => ?_)
  go_wp2_with fail
  refine ⟨by kernel_rfl, ?_⟩
  go_wp2_with fail
  refine wp_region_text follows (by kernel_rfl) (by kernel_rfl) (fun K hK => ?_)
  go_wp2_with fail
  refine ⟨by kernel_rfl, ?_⟩
  go_wp2_with fail
  go_end0
  exact ⟨rfl, fin.out⟩
end Go.Proofs.YtaoolpnnomhnoaaGreatDoor

/- loggia/disk: Rename, Remove. -/
namespace Go.Proofs.YtaoolpnnomhnoaaGreatDoor
open Go.RowKit Go.Maps

theorem cell_alloc (w : World) (v : Value) (t : TypeId) : (w.alloc (.cells #[v] t)).cell? ⟨w.heap.size, 0, none⟩ = some v := by
  rw [cell_of_row _ _ _ _ _ _ (heap_alloc_new w _)]
  rfl
theorem size_alloc (w : World) (o : Obj) : (w.alloc o).heap.size = w.heap.size + 1 := by simp
set_option maxRecDepth 100000 in
theorem remove_any (base d : Nat) (P : PD) (F : Nat → Prop) (s : List UInt8) (w : World) (h : DS w base d P F) (hs : s.length ≤ 9223372036854775807) :
    Calls Tryz.prog 58 #[.pointer (some ⟨d, 0, none⟩), str s] w fun e w' => e = .returned (.int .i64 (removeM P s).2) ∧ DNext base d F w (removeM P s).1 w' := by
  have hS := h
  obtain ⟨m, E, hD0, hF⟩ := h
  obtain ⟨W1, hW1⟩ : ∃ W1, W1 = w.alloc (.cells #[.pointer (some ⟨d, 0, none⟩)] 27) := ⟨_, rfl⟩
  obtain ⟨W2, hW2⟩ : ∃ W2, W2 = W1.alloc (.cells #[str s] 9) := ⟨_, rfl⟩
  have hE1 : Ext w W1 := by rw [hW1]; exact (Ext.refl w).alloc _
  have hE2 : Ext W1 W2 := by rw [hW2]; exact (Ext.refl W1).alloc _
  have hs1 : W1.heap.size = w.heap.size + 1 := by rw [hW1]; exact size_alloc _ _
  have c1 : W1.cell? ⟨w.heap.size, 0, none⟩ = some (.pointer (some ⟨d, 0, none⟩)) := by rw [hW1]; exact cell_alloc _ _ _
  have c2 : W2.cell? ⟨w.heap.size + 1, 0, none⟩ = some (str s) := by rw [hW2, ← hs1]; exact cell_alloc _ _ _
  have c1' := hE2.cell c1
  have hD : DE W2 base d m P E := hD0.chg (Chg.of_ext (hE1.trans hE2) (fun _ => False)) (fun _ h => h.elim)
  have hnf : ∀ k, w.heap.size ≤ k → ¬ Foot d m E k := fun k hk hf => by have := hD0.lt hf; omega
  have hw := writes_any base d m W2.heap.size P E s [] 92 #[.pointer (some ⟨w.heap.size, 0, none⟩), .pointer (some ⟨w.heap.size + 1, 0, none⟩)] (fun _ => withoutG fname s P.L) none 0 0 W2 hD hs (by simp) rfl (by omega) (Nat.le_refl _) (World.ownsRow_nil _ _ _ _) nofun (fun args W => by kernel_rfl)
    (fun w1 e0 he hn hc hD1 => remove1_any base d m _ _ P E s w1 hD1 hs _ (hc.cell c1' fun hk => hnf _ (Nat.le_refl _) (ws_nil hk)) (hc.cell c2 fun hk => hnf _ (Nat.le_succ _) (ws_nil hk)))
  have hsy : removeM P s = writesM P ([] ++ [s]) s (fun _ => withoutG fname s P.L) := rfl
  rw [← hsy] at hw
  have hE := hE1.trans hE2
  rw [hW2, hW1] at hw hE
  unfold str at hw hE ⊢
  replace hw := hide hw
  clear hsy hW1 hW2 c1' c1 c2 hs1 hD hE1 hE2
  go_enter Tryz.func58, Tryz.ntmps58
  go_wp2_with fail
  refine hw.out.mono ?_
  rintro e w1 ⟨rfl, h1⟩
  go_wp2_with fail
  go_ret
  exact ⟨rfl, (h1.mono fun i _ hi => ws_nil hi).next hS hF hE⟩
set_option maxRecDepth 100000 in
theorem rename_any (base d : Nat) (P : PD) (F : Nat → Prop) (s t : List UInt8) (w : World) (h : DS w base d P F) (hs : s.length ≤ 9223372036854775807) (ht : t.length ≤ 9223372036854775807) :
    Calls Tryz.prog 30 #[.pointer (some ⟨d, 0, none⟩), str s, str t] w fun e w' => e = .returned (.int .i64 (renameM P s t).2) ∧ DNext base d F w (renameM P s t).1 w' := by
  have hS := h
  obtain ⟨m, E, hD0, hF⟩ := h
  obtain ⟨W1, hW1⟩ : ∃ W1, W1 = w.alloc (.cells #[.pointer (some ⟨d, 0, none⟩)] 27) := ⟨_, rfl⟩
  obtain ⟨W2, hW2⟩ : ∃ W2, W2 = W1.alloc (.cells #[str s] 9) := ⟨_, rfl⟩
  obtain ⟨W3, hW3⟩ : ∃ W3, W3 = W2.alloc (.cells #[str t] 9) := ⟨_, rfl⟩
  obtain ⟨W4, hW4⟩ : ∃ W4, W4 = W3.alloc (.cells #[str t] 9) := ⟨_, rfl⟩
  have hE1 : Ext w W1 := by rw [hW1]; exact (Ext.refl w).alloc _
  have hE2 : Ext W1 W2 := by rw [hW2]; exact (Ext.refl W1).alloc _
  have hE3 : Ext W2 W3 := by rw [hW3]; exact (Ext.refl W2).alloc _
  have hE4 : Ext W3 W4 := by rw [hW4]; exact (Ext.refl W3).alloc _
  have hs1 : W1.heap.size = w.heap.size + 1 := by rw [hW1]; exact size_alloc _ _
  have hs2 : W2.heap.size = w.heap.size + 2 := by rw [hW2, size_alloc, hs1]
  have hs3 : W3.heap.size = w.heap.size + 3 := by rw [hW3, size_alloc, hs2]
  have hs4 : W4.heap.size = w.heap.size + 4 := by rw [hW4, size_alloc, hs3]
  have c1 : W1.cell? ⟨w.heap.size, 0, none⟩ = some (.pointer (some ⟨d, 0, none⟩)) := by rw [hW1]; exact cell_alloc _ _ _
  have c2 : W2.cell? ⟨w.heap.size + 1, 0, none⟩ = some (str s) := by rw [hW2, ← hs1]; exact cell_alloc _ _ _
  have c3 : W3.cell? ⟨w.heap.size + 2, 0, none⟩ = some (str t) := by rw [hW3, ← hs2]; exact cell_alloc _ _ _
  have c1' := hE4.cell (hE3.cell (hE2.cell c1))
  have c2' := hE4.cell (hE3.cell c2)
  have c3' := hE4.cell c3
  have hE := ((hE1.trans hE2).trans hE3).trans hE4
  have hD : DE W4 base d m P E := hD0.chg (Chg.of_ext hE (fun _ => False)) (fun _ h => h.elim)
  have hnf : ∀ k, w.heap.size ≤ k → k ≠ w.heap.size + 3 → ¬ WS d m E (some ⟨w.heap.size + 3, 0, none⟩) k := by
    rintro k hk hk3 (hf | ⟨a, ha, hf⟩)
    · have := hD0.lt hf; omega
    · cases ha; exact hk3 hf.symm
  have hml : m < w.heap.size := hD0.lt (.inr (.inl rfl))
  have hown : W4.ownsRow (w.heap.size + 3) 9 1 (.slice (some ⟨w.heap.size + 3, 0, none⟩) 1 1) 1 ([t].map str) := by
    refine ⟨rfl, .inr ⟨w.heap.size + 3, 1, #[str t], rfl, Nat.le_refl _, ?_, Nat.le_refl _, by unfold maxLen; omega, rfl, rfl⟩⟩
    rw [hW4, ← hs3]
    exact heap_alloc_new W3 _
  have hw := writes_any base d m (w.heap.size + 3) P E s [t] 63 #[.pointer (some ⟨w.heap.size, 0, none⟩), .pointer (some ⟨w.heap.size + 1, 0, none⟩), .pointer (some ⟨w.heap.size + 2, 0, none⟩)] (fun f => withG fname (t, f.2.1, f.2.2) (withoutG fname s P.L)) (some ⟨w.heap.size + 3, 0, none⟩) 1 1 W4 hD hs (by simpa using ht) rfl (by omega) (by omega) hown
    (by rintro a ha hf; cases ha; have := hD0.lt hf; have : w.heap.size + 3 < w.heap.size := this; omega) (fun args W => by kernel_rfl)
    (fun w1 e0 he hn hc hD1 => rename1_any base d m _ _ _ P E s t e0 w1 hD1 he hn hs ht (hc.cell c1' (hnf w.heap.size (by omega) (by omega))) (hc.cell c2' (hnf (w.heap.size + 1) (by omega) (by omega))) (hc.cell c3' (hnf (w.heap.size + 2) (by omega) (by omega))) ⟨by omega, by omega, by omega⟩)
  have hsy : renameM P s t = writesM P ([t] ++ [s]) s (fun f => withG fname (t, f.2.1, f.2.2) (withoutG fname s P.L)) := rfl
  rw [← hsy] at hw
  have fin : ∀ w1, WPost (WS d m E (some ⟨w.heap.size + 3, 0, none⟩)) base d m E (renameM P s t).1 W4 w1 → DNext base d F w (renameM P s t).1 w1 := by
    rintro w1 ⟨E', h1, h2, h3⟩
    refine hS.next hF h1 ((Chg.of_ext hE (Foot d m E)).trans h2 ?_) fun k hk => (h3 k hk).imp_right fun h => Nat.le_trans hE.size h
    rintro i hi (hf | ⟨a, ha, hf⟩)
    · exact hf
    · cases ha
      have : w.heap.size + 3 = i := hf
      omega
  rw [hW4, hW3, hW2, hW1] at hw fin
  unfold str at hw fin ⊢
  replace hw := hide hw
  replace fin := hide fin
  clear hsy hW1 hW2 hW3 hW4 c1' c1 c2 c2' c3 c3' hs1 hs2 hs3 hs4 hD hE1 hE2 hE3 hE4 hE hown hnf
  go_enter Tryz.func30, Tryz.ntmps30
  go_wp2_with fail
  refine hw.out.mono ?_
  rintro e w1 ⟨rfl, h1⟩
  replace h1 := fin.out w1 h1
  go_wp2_with fail
  go_ret
  exact ⟨rfl, h1⟩
end Go.Proofs.YtaoolpnnomhnoaaGreatDoor

/- loggia/manifest: gone, steps. -/
namespace Go.Proofs.YtaoolpnnomhnoaaGreatDoor
open Go.RowKit Go.Maps

theorem com_len : comN.length ≤ 9223372036854775807 := by decide
theorem cur_len : curN.length ≤ 9223372036854775807 := by decide
set_option maxRecDepth 100000 in
theorem gone_any (base d : Nat) (P : PD) (F : Nat → Prop) (w : World) (h : DS w base d P F) :
    Calls Tryz.prog 24 #[.pointer (some ⟨d, 0, none⟩), .string ⟨comN.toArray⟩] w fun e w' => e = .returned (.int .i64 (goneM P).2) ∧ ∃ wx, Ext w wx ∧ DNext base d F wx (goneM P).1 w' := by
  have hsz := size_any base d P F comN w h com_len
  have hrm := remove_any base d P F comN w h com_len
  unfold str at hsz hrm
  obtain ⟨n, hn⟩ : ∃ n, n = (sizeM P comN).1 := ⟨_, rfl⟩
  rw [← hn] at hsz
  replace hn := hide hn
  cases hs : (sizeM P comN).2 with
  | false =>
    have hg : goneM P = (P, 0) := by unfold goneM; rw [hs]; rfl
    rw [hs] at hsz
    rw [hg]
    replace hsz := hide hsz
    clear hg hs hrm
    go_enter Tryz.func24, Tryz.ntmps24
    go_wp2_with fail
    refine hsz.out.mono ?_
    rintro e w1 ⟨rfl, rfl⟩
    go_wp2_with fail
    go_ret
    exact ⟨rfl, w1, Ext.refl _, F, h, Chg.refl _ _, fun _ h => .inl h⟩
  | true =>
    have hg : goneM P = removeM P comN := by unfold goneM; rw [hs]; rfl
    rw [hs] at hsz
    rw [hg]
    replace hsz := hide hsz
    replace hrm := hide hrm
    clear hg hs
    go_enter Tryz.func24, Tryz.ntmps24
    go_wp2_with fail
    refine hsz.out.mono ?_
    rintro e w1 ⟨rfl, rfl⟩
    go_wp2_with fail
    refine hrm.out.mono ?_
    rintro e w2 ⟨rfl, h2⟩
    go_wp2_with fail
    go_ret
    exact ⟨rfl, w1, Ext.refl _, h2⟩
/-- A step: a function without parameters, what it holds, what it makes of a disk. -/
structure Stp where
  k : FuncId
  caps : Array Value
  f : PD → PD × Nat
def Stp.val (s : Stp) : Value := .func (.func s.k) #[] s.caps
set_option maxRecDepth 100000 in
theorem steps_any (V : World → PD → Prop) (fs : List Stp) (A : Option Addr) (c : Nat) (P : PD) (w : World) (hV : V w P) (hl : fs.length ≤ 100)
    (hc : ∀ x Q, V x Q → Cells x A (fs.map Stp.val)) (hd : ∀ x y Q, V x Q → Ext x y → V y Q)
    (hcf : ∀ s ∈ fs, ∀ (args : Array Value) (W : World), (callFunc s.k args).run Tryz.prog W = .ok (.enter s.k args) W)
    (hk : ∀ s ∈ fs, ∀ x Q, V x Q → Calls Tryz.prog s.k s.caps x fun e w' => e = .returned (.int .i64 (s.f Q).2) ∧ V w' (s.f Q).1) :
    Calls Tryz.prog 22 #[.slice A fs.length c] w fun e w' => e = .returned (.int .i64 (chainM (fs.map Stp.f) P).2) ∧ V w' (chainM (fs.map Stp.f) P).1 := by
  obtain ⟨n, hn⟩ : ∃ n, n = fs.length := ⟨_, rfl⟩
  rw [← hn] at hl ⊢
  replace hV := hide hV
  replace hc := hide hc
  replace hd := hide hd
  replace hcf := hide hcf
  replace hk := hide hk
  replace hn := hide hn
  obtain ⟨Z, hZ⟩ : ∃ Z, Z = chainM (fs.map Stp.f) P := ⟨_, rfl⟩
  rw [← hZ]
  replace hZ := hide hZ
  go_enter Tryz.func22, Tryz.ntmps22
  go_wp2_with fail
  go_loopw [8] (fun s8 wr => ∃ (i : Nat) (Q : PD), s8 = .int .i64 (i : Int) ∧ i ≤ n ∧ Hid (V wr Q) ∧ Hid (Z = chainM ((fs.drop i).map Stp.f) Q)) (fun s8 _ => n - (intOf s8).toNat)
  case atStart => exact ⟨0, P, rfl, by omega, hV, hZ⟩
  case round =>
    clear hV hZ
    obtain ⟨i, Q, rfl, hi, hV, hZ⟩ := hrel
    by_cases hin : i < n
    · obtain ⟨s, hs⟩ : ∃ s, fs[i]? = some s := ⟨_, List.getElem?_eq_getElem (by have := hn.out; omega)⟩
      have hm := List.mem_of_getElem? hs
      obtain ⟨g, f, hA, hcell⟩ := (hc.out wr Q hV.out).at_ (by rw [List.length_map]; have := hn.out; omega)
      subst hA
      have c0 : wr.cell? ⟨g, f + i, none⟩ = some (.func (.func s.k) #[] s.caps) := hcell i _ (by rw [List.getElem?_map, hs]; rfl)
      have hkk := hk.out s hm wr Q hV.out
      have hcf2 := hcf.out s hm s.caps wr
      have hdr : fs.drop i = s :: fs.drop (i + 1) := by
        rw [List.drop_eq_getElem_cons (by have := hn.out; omega)]
        congr 1
        have := List.getElem?_eq_getElem (l := fs) (i := i) (by have := hn.out; omega)
        rw [hs] at this
        injection this with this
        exact this.symm
      have hZ2 := hZ.out
      rw [hdr, List.map_cons] at hZ2
      clear hcell hm hs hdr
      obtain ⟨k, caps, φ⟩ := s
      simp only at c0 hkk hcf2 hZ2
      obtain ⟨R, hR⟩ : ∃ R, R = φ Q := ⟨_, rfl⟩
      rw [← hR] at hkk
      obtain ⟨Q2, e2⟩ := R
      simp only at hkk
      replace hkk := hide hkk
      by_cases he : e2 = 0
      · subst he
        rw [chain_go (by rw [← hR]), ← hR] at hZ2
        replace hZ2 := hide hZ2
        replace hR := hide hR
        go_wp2_with fail
        refine hkk.out.mono ?_
        rintro e w1 ⟨rfl, hV1⟩
        replace hV1 := hide hV1
        go_wp2_with fail
        go_roundw
        case rel => exact ⟨i + 1, Q2, by go_num, by omega, hV1, hZ2⟩
        case measure => simp [intOf]; omega
      · have he' : ¬ (e2 : Int) = 0 := by omega
        rw [chain_no (by rw [← hR]; exact he), ← hR] at hZ2
        replace hZ2 := hide hZ2
        replace hR := hide hR
        go_wp2_with fail
        refine hkk.out.mono ?_
        rintro e w1 ⟨rfl, hV1⟩
        replace hV1 := hide hV1
        go_wp2_with fail
        go_ret
        rw [hZ2.out]
        exact ⟨rfl, hV1.out⟩
    · have hZ2 := hZ.out
      rw [List.drop_of_length_le (by have := hn.out; omega), List.map_nil] at hZ2
      replace hZ2 := hide hZ2
      go_wp2_with fail
      go_ret
      rw [hZ2.out]
      exact ⟨rfl, hV.out⟩
end Go.Proofs.YtaoolpnnomhnoaaGreatDoor

/- A manifest laid over another. -/
namespace Go.Proofs.YtaoolpnnomhnoaaGreatDoor
open Go.RowKit

def Mf.cells (m : Mf) (A : Option Addr) (c : Nat) : Array Value := #[.slice A m.ps.length c, .int .i64 m.floor, .int .i64 m.done, .int .i64 m.log, .int .i64 m.next, .int .i64 m.now]
/-- A manifest is laid over the one at g. -/
def setM (w : World) (g : Nat) (m : Mf) (A : Option Addr) (c : Nat) : World := (((((w.setCell ⟨g, 0, none⟩ (.slice A m.ps.length c)).setCell ⟨g, 1, none⟩ (.int .i64 m.floor)).setCell ⟨g, 2, none⟩ (.int .i64 m.done)).setCell ⟨g, 3, none⟩ (.int .i64 m.log)).setCell ⟨g, 4, none⟩ (.int .i64 m.next)).setCell ⟨g, 5, none⟩ (.int .i64 m.now)
theorem setM_row {w : World} {g : Nat} {t : TypeId} {x0 x1 x2 x3 x4 x5 : Value} (h : Row w g t #[x0, x1, x2, x3, x4, x5]) (m : Mf) (A : Option Addr) (c : Nat) : Row (setM w g m A c) g t (m.cells A c) :=
  (((((h.put 0 _).put 1 _).put 2 _).put 3 _).put 4 _).put 5 _
theorem setM_away {w : World} {g g2 : Nat} {t : TypeId} {cs : Array Value} (h : Row w g2 t cs) (hne : g2 ≠ g) (m : Mf) (A : Option Addr) (c : Nat) : Row (setM w g m A c) g2 t cs :=
  (((((h.away hne _).away hne _).away hne _).away hne _).away hne _).away hne _
theorem setM_ext {w w1 : World} {g : Nat} (h : Ext w w1) (hg : w.heap.size ≤ g) (m : Mf) (A : Option Addr) (c : Nat) : Ext w (setM w1 g m A c) :=
  (((((h.setCell (p := ⟨g, 0, none⟩) hg _).setCell (p := ⟨g, 1, none⟩) hg _).setCell (p := ⟨g, 2, none⟩) hg _).setCell (p := ⟨g, 3, none⟩) hg _).setCell (p := ⟨g, 4, none⟩) hg _).setCell (p := ⟨g, 5, none⟩) hg _
end Go.Proofs.YtaoolpnnomhnoaaGreatDoor

/- loggia/manifest: Decode, walked. -/
namespace Go.Proofs.YtaoolpnnomhnoaaGreatDoor
open Go.RowKit

/-- The reader's manifest, laid. -/
def setR (w : World) (g : Nat) (a0 a1 a2 a3 a4 : Int) : World := (((((w.setCell ⟨g, 2, none⟩ (.slice none 0 0)).setCell ⟨g, 3, none⟩ (.int .i64 a0)).setCell ⟨g, 4, none⟩ (.int .i64 a1)).setCell ⟨g, 5, none⟩ (.int .i64 a2)).setCell ⟨g, 6, none⟩ (.int .i64 a3)).setCell ⟨g, 7, none⟩ (.int .i64 a4)
theorem setR_row {w : World} {g : Nat} {t : TypeId} {x0 x1 x2 x3 x4 x5 x6 x7 : Value} (h : Row w g t #[x0, x1, x2, x3, x4, x5, x6, x7]) (a0 a1 a2 a3 a4 : Int) : Row (setR w g a0 a1 a2 a3 a4) g t #[x0, x1, .slice none 0 0, .int .i64 a0, .int .i64 a1, .int .i64 a2, .int .i64 a3, .int .i64 a4] :=
  (((((h.put 2 _).put 3 _).put 4 _).put 5 _).put 6 _).put 7 _
theorem setR_chg (w : World) (g : Nat) (a0 a1 a2 a3 a4 : Int) : Chg (fun b => b = g) w (setR w g a0 a1 a2 a3 a4) := by
  have one : ∀ (w : World) (i : Nat) (v : Value), Chg (fun b => b = g) w (w.setCell ⟨g, i, none⟩ v) := fun w i v => Chg.of_set w (a := ⟨g, i, none⟩) v rfl
  unfold setR
  exact ((((((one w 2 _).trans (one _ 3 _) fun _ _ h => h).trans (one _ 4 _) fun _ _ h => h).trans (one _ 5 _) fun _ _ h => h).trans (one _ 6 _) fun _ _ h => h).trans (one _ 7 _) fun _ _ h => h)
theorem encM_short {m : Mf} (h : m.In) (hc : checkP m = 0) : (encM m).length ≤ 40000 := by
  obtain ⟨h5, _⟩ := checkP_zero hc
  have h1 := encI_len h h5 m.ps.length (Nat.le_refl _)
  rw [encI_all] at h1
  rw [encM_len]
  omega
theorem setM_owns {w : World} {base : Nat} {e : TypeId} {size n : Nat} {v : Value} {xs : List Value} (h : w.ownsRow base e size v n xs) {g : Nat} (hg : v.ownBlock ≠ some g) (m : Mf) (A : Option Addr) (c : Nat) : (setM w g m A c).ownsRow base e size v n xs :=
  owns_set (owns_set (owns_set (owns_set (owns_set (owns_set h (a := ⟨g, 0, none⟩) hg _) (a := ⟨g, 1, none⟩) hg _) (a := ⟨g, 2, none⟩) hg _) (a := ⟨g, 3, none⟩) hg _) (a := ⟨g, 4, none⟩) hg _) (a := ⟨g, 5, none⟩) hg _
set_option maxRecDepth 100000 in
set_option maxHeartbeats 4000000 in
theorem decode_any (A : Option Addr) (n c : Nat) (l : List UInt8) (w : World) (h : In8 w A n c l) (hle : n ≤ 1000000000) :
    Calls Tryz.prog 37 #[.slice A n c] w fun e w' => DecP w (decM l) e w' := by
  have hl := h.len
  have hz0 : Row (w.alloc (.cells #[.slice none 0 0, .int .i64 0, .int .i64 0, .int .i64 0, .int .i64 0, .int .i64 0] 24)) w.heap.size 24 #[.slice none 0 0, .int .i64 0, .int .i64 0, .int .i64 0, .int .i64 0, .int .i64 0] := Row.new w _ _
  have hE0 : Ext w (w.alloc (.cells #[.slice none 0 0, .int .i64 0, .int .i64 0, .int .i64 0, .int .i64 0, .int .i64 0] 24)) := (Ext.refl w).alloc _
  by_cases h8 : n < 8
  · have hd := hide (decM_short (b := l) (by omega))
    have c0 := hz0.cell 0 rfl
    have c1 := hz0.cell 1 rfl
    have c2 := hz0.cell 2 rfl
    have c3 := hz0.cell 3 rfl
    have c4 := hz0.cell 4 rfl
    have c5 := hz0.cell 5 rfl
    have hfr := fun i => hz0.free i
    clear hl h hz0
    replace hE0 := hide hE0
    go_enter Tryz.func37, Tryz.ntmps37
    go_wp2_with fail
    exact bodyPost_ret (v := .tuple #[nilMf.val none 0, .int .i64 160]) (by simp [results, Tryz.results37, go_sem, nilMf, Mf.val]) rfl (by rw [hd.out]; exact ⟨hE0.out, rfl⟩)
  · obtain ⟨A1, c1, hsub, hin⟩ := h.sub (fr := 4) (k := n - 8) (by omega) (z0 := 4) (z := (n : Int) - 4) rfl (by omega)
    obtain ⟨M, hM⟩ : ∃ M, M = (l.drop 4).take (n - 8) := ⟨_, rfl⟩
    rw [← hM] at hin
    have hml : n - 8 = M.length := hin.len
    have hdm : decM l = match getM M with
      | none => none
      | some m => if checkP m = 0 ∧ encM m = l then some m else none := by rw [hM, hl]; exact decM_mid l
    obtain ⟨W, hW⟩ : ∃ W, W = (w.alloc (.cells #[.slice none 0 0, .int .i64 0, .int .i64 0, .int .i64 0, .int .i64 0, .int .i64 0] 24)).alloc (.cells #[.slice A1 (n - 8) c1, .bool false, .slice none 0 0, .int .i64 0, .int .i64 0, .int .i64 0, .int .i64 0, .int .i64 0] 113) := ⟨_, rfl⟩
    have hEW : Ext w W := by rw [hW]; exact ((Ext.refl w).alloc _).alloc _
    have hrW : Row W (w.heap.size + 1) 113 #[.slice A1 (n - 8) c1, .bool false, .slice none 0 0, .int .i64 0, .int .i64 0, .int .i64 0, .int .i64 0, .int .i64 0] := by rw [hW]; have h := Row.new (w.alloc (.cells #[.slice none 0 0, .int .i64 0, .int .i64 0, .int .i64 0, .int .i64 0, .int .i64 0] 24)) 113 #[.slice A1 (n - 8) c1, .bool false, .slice none 0 0, .int .i64 0, .int .i64 0, .int .i64 0, .int .i64 0, .int .i64 0]; simpa using h
    have hzW : Row W w.heap.size 24 #[.slice none 0 0, .int .i64 0, .int .i64 0, .int .i64 0, .int .i64 0, .int .i64 0] := by rw [hW]; exact hz0.alloc _
    obtain ⟨rb, hrb⟩ : ∃ rb, rb = w.heap.size + 1 := ⟨_, rfl⟩
    rw [← hrb] at hrW
    have hnum := numbers_any A1 (n - 8) c1 5 rb false M (.slice none 0 0) (.int .i64 0) (.int .i64 0) (.int .i64 0) (.int .i64 0) (.int .i64 0) w W hin hEW (by omega) (by omega) (.inl rfl) hrW
    obtain ⟨q1, q2, q3⟩ := numsM_len false M 5
    have hgr := getM_reads M
    obtain ⟨a0, a1, a2, a3, a4, hns⟩ := five_of q1
    obtain ⟨r1, hr1⟩ : ∃ r, r = numsM false M 5 := ⟨_, rfl⟩
    rw [← hr1] at hnum hns hgr q2 q3
    obtain ⟨b1, L1, ns⟩ := r1
    simp only at hns hgr q2 q3
    subst hns
    have hL1 : L1.length ≤ 1000000000 := by omega
    have hpi : (partsP b1 L1).2.length ≤ 512 ∧ ∀ p ∈ (partsP b1 L1).2, p.Ok := by
      unfold partsP
      split
      · exact ⟨by simp, nofun⟩
      · split
        · exact ⟨by simp, nofun⟩
        · rename_i v r _ hv
          obtain ⟨h1, h2⟩ := partsM_in v false r
          exact ⟨by rw [h1]; omega, h2⟩
    obtain ⟨r2, hr2⟩ : ∃ r, r = partsP b1 L1 := ⟨_, rfl⟩
    rw [← hr2] at hgr hpi
    obtain ⟨b2, ps⟩ := r2
    simp only at hgr hpi
    replace hdm := hide hdm
    replace hnum := hide hnum
    replace hgr := hide hgr
    replace hW := hide hW
    have hrb' := hide hrb
    have hrb1 : w.heap.size < rb := by omega
    have hrb2 : w.heap.size ≠ rb := by omega
    replace hr2 := hide hr2
    replace h := hide h
    have hl' := hide hl
    clear hl hM hml hr1 hrb q1 hz0 hE0
    go_enter Tryz.func37, Tryz.ntmps37
    go_wp2_with fail
    rw [← hrb'.out, ← hW.out]
    refine hnum.out.mono ?_
    rintro e w1 ⟨A2, c2, B, cb, rfl, hr3, hin3, hbu, hch⟩
    have hz1 := hide (hch.row hzW hrb2)
    obtain ⟨g, o, rfl, hcc⟩ := hbu.cells.at_ (by simp)
    have z0 : w1.cell? ⟨g, o, none⟩ = some (.int .i64 a0) := hcc 0 _ rfl
    have z1 : w1.cell? ⟨g, o + 1, none⟩ = some (.int .i64 a1) := hcc 1 _ rfl
    have z2 : w1.cell? ⟨g, o + 2, none⟩ = some (.int .i64 a2) := hcc 2 _ rfl
    have z3 : w1.cell? ⟨g, o + 3, none⟩ = some (.int .i64 a3) := hcc 3 _ rfl
    have z4 : w1.cell? ⟨g, o + 4, none⟩ = some (.int .i64 a4) := hcc 4 _ rfl
    have y2 : w1.cell? ⟨rb, 2, none⟩ = some (.slice none 0 0) := hr3.cell 2 rfl
    have y3 : w1.cell? ⟨rb, 3, none⟩ = some (.int .i64 0) := hr3.cell 3 rfl
    have y4 : w1.cell? ⟨rb, 4, none⟩ = some (.int .i64 0) := hr3.cell 4 rfl
    have y5 : w1.cell? ⟨rb, 5, none⟩ = some (.int .i64 0) := hr3.cell 5 rfl
    have y6 : w1.cell? ⟨rb, 6, none⟩ = some (.int .i64 0) := hr3.cell 6 rfl
    have y7 : w1.cell? ⟨rb, 7, none⟩ = some (.int .i64 0) := hr3.cell 7 rfl
    have yf := fun i => hr3.free i
    have yl := hr3.lt
    have hr4 := hide hr3
    have hch' := hide hch
    clear hr3 hch hcc hbu hsub
    go_wp2_with fail
    refine wp_region_text follows (by kernel_rfl) (by kernel_rfl) (fun K hK => ?_)
    go_wp2_with fail
    refine ⟨by kernel_rfl, ?_⟩
    go_wp2_with fail
    obtain ⟨w2, hw2⟩ : ∃ w2, w2 = (setR w1 rb a0 a1 a2 a3 a4).drew := ⟨_, rfl⟩
    have hr5 : Row w2 rb 113 #[.slice A2 L1.length c2, .bool b1, .slice none 0 0, .int .i64 a0, .int .i64 a1, .int .i64 a2, .int .i64 a3, .int .i64 a4] := by rw [hw2]; exact (setR_row hr4.out a0 a1 a2 a3 a4).drew
    have hc2 : Chg (fun b => b = rb) w1 w2 := by rw [hw2]; exact (setR_chg w1 rb a0 a1 a2 a3 a4).trans (Chg.of_ext (Ext.refl _).drew (fun b => b = rb)) fun _ _ h => h
    have hcW2 := hch'.out.trans hc2 fun _ _ h => h
    have hEw2 : Ext w w2 := hEW.chg hcW2 fun k hk e => by omega
    have hz2 := hide (hc2.row hz1.out hrb2)
    have hpa := parts_any A2 L1.length c2 rb b1 L1 (.int .i64 a0) (.int .i64 a1) (.int .i64 a2) (.int .i64 a3) (.int .i64 a4) w w2 hin3 hEw2 hL1 (by omega) hr5
    rw [← hr2.out] at hpa
    unfold setR at hw2
    rw [← hw2]
    replace hpa := hide hpa
    replace hEw2 := hide hEw2
    clear hw2 hr5 hc2 hcW2 y2 y3 y4 y5 y6 y7 yf yl z0 z1 z2 z3 z4 hr4 hch'
    refine hpa.out.mono ?_
    rintro e w3 ⟨rfl, A3, c3, P, cp, L3, hr6, hown, hch3⟩
    simp only at hr6 hown
    have hEw3 := hide (hEw2.out.chg hch3 fun k hk e => by omega)
    have hz3 := hide (hch3.row hz2.out hrb2)
    have hOk : (mkMf [a0, a1, a2, a3, a4] ps).Ok w3 w3.heap.size P cp := by
      refine ⟨owns_parts hown hpi.2 (by show ps.length ≤ _; omega), ?_, ?_, ?_, ?_, ?_⟩
      · exact q2 a0 (by simp)
      · exact q2 a1 (by simp)
      · exact q2 a2 (by simp)
      · exact q2 a3 (by simp)
      · exact q2 a4 (by simp)
    have hval : (mkMf [a0, a1, a2, a3, a4] ps).val P cp = .agg #[.slice P ps.length cp, .int .i64 a0, .int .i64 a1, .int .i64 a2, .int .i64 a3, .int .i64 a4] := rfl
    have hcs : (mkMf [a0, a1, a2, a3, a4] ps).cells P cp = #[.slice P ps.length cp, .int .i64 a0, .int .i64 a1, .int .i64 a2, .int .i64 a3, .int .i64 a4] := rfl
    have hfl : (mkMf [a0, a1, a2, a3, a4] ps).ps = ps ∧ (mkMf [a0, a1, a2, a3, a4] ps).floor = a0 ∧ (mkMf [a0, a1, a2, a3, a4] ps).done = a1 ∧ (mkMf [a0, a1, a2, a3, a4] ps).log = a2 ∧ (mkMf [a0, a1, a2, a3, a4] ps).next = a3 ∧ (mkMf [a0, a1, a2, a3, a4] ps).now = a4 := ⟨rfl, rfl, rfl, rfl, rfl, rfl⟩
    have hen := encode_any w3.heap.size _ P cp w3 hOk
    rw [hval] at hen
    obtain ⟨m, hm⟩ : ∃ m, m = mkMf [a0, a1, a2, a3, a4] ps := ⟨_, rfl⟩
    rw [← hm] at hen hgr hOk hval hcs hfl
    have x2 : w3.cell? ⟨rb, 2, none⟩ = some (.slice P ps.length cp) := hr6.cell 2 rfl
    have x3 : w3.cell? ⟨rb, 3, none⟩ = some (.int .i64 a0) := hr6.cell 3 rfl
    have x4 : w3.cell? ⟨rb, 4, none⟩ = some (.int .i64 a1) := hr6.cell 4 rfl
    have x5 : w3.cell? ⟨rb, 5, none⟩ = some (.int .i64 a2) := hr6.cell 5 rfl
    have x6 : w3.cell? ⟨rb, 6, none⟩ = some (.int .i64 a3) := hr6.cell 6 rfl
    have x7 : w3.cell? ⟨rb, 7, none⟩ = some (.int .i64 a4) := hr6.cell 7 rfl
    have hr7 := hide hr6
    replace hen := hide hen
    replace hOk := hide hOk
    replace hval := hide hval
    replace hcs := hide hcs
    replace hfl := hide hfl
    have hown' := hide hown
    clear hm hown hr6 hch3 q2 hpa hnum
    go_wp2_with fail
    refine hen.out.mono ?_
    rintro e w4 ⟨hE4, hyes, hno⟩
    have hz4 := hz3.out.ext hE4
    have hEw4 := hide (hEw3.out.trans hE4)
    have hr8 := hr7.out.ext hE4
    have v1 : w4.cell? ⟨rb, 1, none⟩ = some (.bool b2) := hr8.cell 1 rfl
    have v2 : w4.cell? ⟨rb, 2, none⟩ = some (.slice P ps.length cp) := hr8.cell 2 rfl
    have v3 : w4.cell? ⟨rb, 3, none⟩ = some (.int .i64 a0) := hr8.cell 3 rfl
    have v4 : w4.cell? ⟨rb, 4, none⟩ = some (.int .i64 a1) := hr8.cell 4 rfl
    have v5 : w4.cell? ⟨rb, 5, none⟩ = some (.int .i64 a2) := hr8.cell 5 rfl
    have v6 : w4.cell? ⟨rb, 6, none⟩ = some (.int .i64 a3) := hr8.cell 6 rfl
    have v7 : w4.cell? ⟨rb, 7, none⟩ = some (.int .i64 a4) := hr8.cell 7 rfl
    have t0 : w4.cell? ⟨w.heap.size, 0, none⟩ = some (.slice none 0 0) := hz4.cell 0 rfl
    have t1 : w4.cell? ⟨w.heap.size, 1, none⟩ = some (.int .i64 0) := hz4.cell 1 rfl
    have t2 : w4.cell? ⟨w.heap.size, 2, none⟩ = some (.int .i64 0) := hz4.cell 2 rfl
    have t3 : w4.cell? ⟨w.heap.size, 3, none⟩ = some (.int .i64 0) := hz4.cell 3 rfl
    have t4 : w4.cell? ⟨w.heap.size, 4, none⟩ = some (.int .i64 0) := hz4.cell 4 rfl
    have t5 : w4.cell? ⟨w.heap.size, 5, none⟩ = some (.int .i64 0) := hz4.cell 5 rfl
    have tf := fun i => hz4.free i
    have tl := hz4.lt
    replace hyes := hide hyes
    replace hno := hide hno
    have hz5 := hide hz4
    clear x2 x3 x4 x5 x6 x7 hz4 hr8
    have hE4' := hide hE4
    have hnw := hide (show (Value.slice P ps.length cp).ownBlock ≠ some w.heap.size from fun e => by
      obtain ⟨_, _, hb⟩ := owns_row hown'.out e
      have := hz2.out.lt
      omega)
    cases b2 with
    | true =>
      have hdn : decM l = none := by rw [hdm.out, hgr.out.2 rfl]
      replace hdn := hide hdn
      by_cases hc : checkP m = 0
      · obtain ⟨A5, c5, rfl, hb5⟩ := hyes.out hc
        clear hc
        go_wp2_with fail
        obtain ⟨w6, hw6⟩ : ∃ w6, w6 = setM w4 w.heap.size nilMf none 0 := ⟨_, rfl⟩
        have hk6 := setM_row hz5.out nilMf none 0
        rw [← hw6] at hk6
        have hE6 := setM_ext hEw4.out (Nat.le_refl _) nilMf none 0
        rw [← hw6] at hE6
        simp only [setM, nilMf, List.length_nil] at hw6
        rw [← hw6]
        have k0 : w6.cell? ⟨w.heap.size, 0, none⟩ = some (.slice none 0 0) := hk6.cell 0 rfl
        have k1 : w6.cell? ⟨w.heap.size, 1, none⟩ = some (.int .i64 0) := hk6.cell 1 rfl
        have k2 : w6.cell? ⟨w.heap.size, 2, none⟩ = some (.int .i64 0) := hk6.cell 2 rfl
        have k3 : w6.cell? ⟨w.heap.size, 3, none⟩ = some (.int .i64 0) := hk6.cell 3 rfl
        have k4 : w6.cell? ⟨w.heap.size, 4, none⟩ = some (.int .i64 0) := hk6.cell 4 rfl
        have k5 : w6.cell? ⟨w.heap.size, 5, none⟩ = some (.int .i64 0) := hk6.cell 5 rfl
        clear hw6 hk6
        exact bodyPost_ret (v := .tuple #[nilMf.val none 0, .int .i64 160]) (by simp [results, Tryz.results37, go_sem, nilMf, Mf.val, k0, k1, k2, k3, k4, k5]) rfl (by rw [hdn.out]; exact ⟨hE6, rfl⟩)
      · have he := hno.out hc
        subst he
        clear hc
        go_wp2_with fail
        obtain ⟨w6, hw6⟩ : ∃ w6, w6 = setM w4 w.heap.size nilMf none 0 := ⟨_, rfl⟩
        have hk6 := setM_row hz5.out nilMf none 0
        rw [← hw6] at hk6
        have hE6 := setM_ext hEw4.out (Nat.le_refl _) nilMf none 0
        rw [← hw6] at hE6
        simp only [setM, nilMf, List.length_nil] at hw6
        rw [← hw6]
        have k0 : w6.cell? ⟨w.heap.size, 0, none⟩ = some (.slice none 0 0) := hk6.cell 0 rfl
        have k1 : w6.cell? ⟨w.heap.size, 1, none⟩ = some (.int .i64 0) := hk6.cell 1 rfl
        have k2 : w6.cell? ⟨w.heap.size, 2, none⟩ = some (.int .i64 0) := hk6.cell 2 rfl
        have k3 : w6.cell? ⟨w.heap.size, 3, none⟩ = some (.int .i64 0) := hk6.cell 3 rfl
        have k4 : w6.cell? ⟨w.heap.size, 4, none⟩ = some (.int .i64 0) := hk6.cell 4 rfl
        have k5 : w6.cell? ⟨w.heap.size, 5, none⟩ = some (.int .i64 0) := hk6.cell 5 rfl
        clear hw6 hk6
        exact bodyPost_ret (v := .tuple #[nilMf.val none 0, .int .i64 160]) (by simp [results, Tryz.results37, go_sem, nilMf, Mf.val, k0, k1, k2, k3, k4, k5]) rfl (by rw [hdn.out]; exact ⟨hE6, rfl⟩)
    | false =>
      have hgm := hgr.out.1 rfl
      by_cases hc : checkP m = 0
      · obtain ⟨A5, c5, rfl, hb5⟩ := hyes.out hc
        have heq := equalB_any A5 A (encM m).length n c5 c (encM m) l w4 hb5.in8 (h.out.ext hEw4.out) (Nat.le_trans (encM_short hOk.out.in_ hc) (by omega)) hle
        replace heq := hide heq
        by_cases he : encM m = l
        · have hdn : decM l = some m := by rw [hdm.out, hgm]; simp only [hc, he, and_self, if_true]
          rw [decide_eq_true he] at heq
          replace hdn := hide hdn
          clear hc he hgm
          obtain ⟨k, hk⟩ : ∃ k, k = (encM m).length := ⟨_, rfl⟩
          rw [← hk] at heq ⊢
          clear hk
          go_wp2_with fail
          refine heq.out.mono ?_
          rintro e w5 ⟨rfl, hE5⟩
          have hE5' := hide hE5
          have hz6 := hide (hz5.out.ext hE5)
          have hEw5 := hide (hEw4.out.trans hE5)
          have v2' := hE5.cell v2
          have v3' := hE5.cell v3
          have v4' := hE5.cell v4
          have v5' := hE5.cell v5
          have v6' := hE5.cell v6
          have v7' := hE5.cell v7
          have t0' := hE5.cell t0
          have t1' := hE5.cell t1
          have t2' := hE5.cell t2
          have t3' := hE5.cell t3
          have t4' := hE5.cell t4
          have t5' := hE5.cell t5
          have tf' := fun i => hz6.out.free i
          have tl' := hz6.out.lt
          clear v1 v2 v3 v4 v5 v6 v7 t0 t1 t2 t3 t4 t5 tf tl
          go_wp2_with fail
          obtain ⟨w6, hw6⟩ : ∃ w6, w6 = setM w5 w.heap.size m P cp := ⟨_, rfl⟩
          have hk6 := setM_row hz6.out m P cp
          rw [← hw6, hcs.out] at hk6
          have hE6 := setM_ext hEw5.out (Nat.le_refl _) m P cp
          rw [← hw6] at hE6
          have ho6 := setM_owns ((hE4'.out.trans hE5'.out).owns hown'.out) hnw.out m P cp
          rw [← hw6] at ho6
          unfold setM at hw6
          rw [hfl.out.1, hfl.out.2.1, hfl.out.2.2.1, hfl.out.2.2.2.1, hfl.out.2.2.2.2.1, hfl.out.2.2.2.2.2] at hw6
          rw [← hw6]
          have k0 : w6.cell? ⟨w.heap.size, 0, none⟩ = some (.slice P ps.length cp) := hk6.cell 0 rfl
          have k1 : w6.cell? ⟨w.heap.size, 1, none⟩ = some (.int .i64 a0) := hk6.cell 1 rfl
          have k2 : w6.cell? ⟨w.heap.size, 2, none⟩ = some (.int .i64 a1) := hk6.cell 2 rfl
          have k3 : w6.cell? ⟨w.heap.size, 3, none⟩ = some (.int .i64 a2) := hk6.cell 3 rfl
          have k4 : w6.cell? ⟨w.heap.size, 4, none⟩ = some (.int .i64 a3) := hk6.cell 4 rfl
          have k5 : w6.cell? ⟨w.heap.size, 5, none⟩ = some (.int .i64 a4) := hk6.cell 5 rfl
          have hPS := owns_parts ho6 hpi.2 (by omega)
          have hok6 : m.Ok w6 w6.heap.size P cp := ⟨by rw [hfl.out.1]; exact hPS, hOk.out.floor, hOk.out.done, hOk.out.log, hOk.out.next, hOk.out.now⟩
          clear hw6 hk6 ho6 hPS
          exact bodyPost_ret (v := .tuple #[m.val P cp, .int .i64 0]) (by rw [hval.out]; simp [results, Tryz.results37, go_sem, k0, k1, k2, k3, k4, k5]) rfl (by rw [hdn.out]; exact ⟨hE6, P, cp, rfl, hok6⟩)
        · have hdn : decM l = none := by rw [hdm.out, hgm]; simp only [hc, he, and_false, if_false]
          rw [decide_eq_false he] at heq
          replace hdn := hide hdn
          clear hc he hgm
          obtain ⟨k, hk⟩ : ∃ k, k = (encM m).length := ⟨_, rfl⟩
          rw [← hk] at heq ⊢
          clear hk
          go_wp2_with fail
          refine heq.out.mono ?_
          rintro e w5 ⟨rfl, hE5⟩
          have hz6 := hide (hz5.out.ext hE5)
          have hEw5 := hide (hEw4.out.trans hE5)
          have t0' := hE5.cell t0
          have t1' := hE5.cell t1
          have t2' := hE5.cell t2
          have t3' := hE5.cell t3
          have t4' := hE5.cell t4
          have t5' := hE5.cell t5
          have tf' := fun i => hz6.out.free i
          have tl' := hz6.out.lt
          clear v1 v2 v3 v4 v5 v6 v7 t0 t1 t2 t3 t4 t5 tf tl
          go_wp2_with fail
          obtain ⟨w6, hw6⟩ : ∃ w6, w6 = setM w5 w.heap.size nilMf none 0 := ⟨_, rfl⟩
          have hk6 := setM_row hz6.out nilMf none 0
          rw [← hw6] at hk6
          have hE6 := setM_ext hEw5.out (Nat.le_refl _) nilMf none 0
          rw [← hw6] at hE6
          simp only [setM, nilMf, List.length_nil] at hw6
          rw [← hw6]
          have k0 : w6.cell? ⟨w.heap.size, 0, none⟩ = some (.slice none 0 0) := hk6.cell 0 rfl
          have k1 : w6.cell? ⟨w.heap.size, 1, none⟩ = some (.int .i64 0) := hk6.cell 1 rfl
          have k2 : w6.cell? ⟨w.heap.size, 2, none⟩ = some (.int .i64 0) := hk6.cell 2 rfl
          have k3 : w6.cell? ⟨w.heap.size, 3, none⟩ = some (.int .i64 0) := hk6.cell 3 rfl
          have k4 : w6.cell? ⟨w.heap.size, 4, none⟩ = some (.int .i64 0) := hk6.cell 4 rfl
          have k5 : w6.cell? ⟨w.heap.size, 5, none⟩ = some (.int .i64 0) := hk6.cell 5 rfl
          clear hw6 hk6
          exact bodyPost_ret (v := .tuple #[nilMf.val none 0, .int .i64 160]) (by simp [results, Tryz.results37, go_sem, nilMf, Mf.val, k0, k1, k2, k3, k4, k5]) rfl (by rw [hdn.out]; exact ⟨hE6, rfl⟩)
      · have hdn : decM l = none := by rw [hdm.out, hgm]; simp only [hc, false_and, if_false]
        have he := hno.out hc
        have hcn : ((checkP m : Int) != 0) = true := by simp; omega
        obtain ⟨k, hk⟩ : ∃ k, k = checkP m := ⟨_, rfl⟩
        rw [← hk] at he hcn
        subst he
        replace hdn := hide hdn
        clear hc hgm hk
        go_wp2_with fail
        obtain ⟨w6, hw6⟩ : ∃ w6, w6 = setM w4 w.heap.size nilMf none 0 := ⟨_, rfl⟩
        have hk6 := setM_row hz5.out nilMf none 0
        rw [← hw6] at hk6
        have hE6 := setM_ext hEw4.out (Nat.le_refl _) nilMf none 0
        rw [← hw6] at hE6
        simp only [setM, nilMf, List.length_nil] at hw6
        rw [← hw6]
        have k0 : w6.cell? ⟨w.heap.size, 0, none⟩ = some (.slice none 0 0) := hk6.cell 0 rfl
        have k1 : w6.cell? ⟨w.heap.size, 1, none⟩ = some (.int .i64 0) := hk6.cell 1 rfl
        have k2 : w6.cell? ⟨w.heap.size, 2, none⟩ = some (.int .i64 0) := hk6.cell 2 rfl
        have k3 : w6.cell? ⟨w.heap.size, 3, none⟩ = some (.int .i64 0) := hk6.cell 3 rfl
        have k4 : w6.cell? ⟨w.heap.size, 4, none⟩ = some (.int .i64 0) := hk6.cell 4 rfl
        have k5 : w6.cell? ⟨w.heap.size, 5, none⟩ = some (.int .i64 0) := hk6.cell 5 rfl
        clear hw6 hk6
        exact bodyPost_ret (v := .tuple #[nilMf.val none 0, .int .i64 160]) (by simp [results, Tryz.results37, go_sem, nilMf, Mf.val, k0, k1, k2, k3, k4, k5]) rfl (by rw [hdn.out]; exact ⟨hE6, rfl⟩)
end Go.Proofs.YtaoolpnnomhnoaaGreatDoor

/- loggiaref16: parts. -/
namespace Go.Proofs.YtaoolpnnomhnoaaGreatDoor
open Go.RowKit

def combP (ps : List Pt) : Except Nat (List Pt × List UInt8) → Except Nat (List Pt × List UInt8)
  | .ok (qs, r) => .ok (ps ++ qs, r)
  | .error e => .error e
theorem combP_nil (x : Except Nat (List Pt × List UInt8)) : combP [] x = x := by
  unfold combP
  split <;> simp
theorem getPts_step {k i : Nat} {ps : List Pt} {l r : List UInt8} (h : getPts k l = combP ps (getPts (k - i) r)) (hi : i < k) : match getAll 6 r with
    | .ok (ns, r1) => getPts k l = combP (ps ++ [mkPt ns]) (getPts (k - (i + 1)) r1)
    | .error x => getPts k l = .error x := by
  obtain ⟨j, hj⟩ : ∃ j, k - i = j + 1 := ⟨k - i - 1, by omega⟩
  have hj2 : k - (i + 1) = j := by omega
  rw [hj] at h
  rw [h, hj2]
  cases hr : getAll 6 r with
  | error x =>
    unfold getPts
    rw [hr]
    rfl
  | ok p =>
    obtain ⟨ns, r1⟩ := p
    simp only
    conv => lhs; unfold getPts
    rw [hr]
    simp only
    cases getPts j r1 with
    | error e => rfl
    | ok q => obtain ⟨qs, r2⟩ := q; simp [combP]
def RPartP (w : World) (k : Nat) (res : Except Nat (List Pt × List UInt8)) (e : Ending) (w' : World) : Prop := Ext w w' ∧ match res with
  | .ok (ps, _) => ∃ P cp, e = .returned (.tuple #[.slice P k cp, .bool true]) ∧ w'.ownsRow w.heap.size 71 7 (.slice P k cp) k (pcells ps)
  | .error _ => e = .returned (.tuple #[.slice none 0 0, .bool false])
theorem rpart_err {w w' : World} {k x : Nat} {res : Except Nat (List Pt × List UInt8)} (h : res = .error x) (hE : Ext w w') : RPartP w k res (.returned (.tuple #[.slice none 0 0, .bool false])) w' := by
  rw [h]
  exact ⟨hE, rfl⟩
theorem rpart_ok {w w' : World} {k cp : Nat} {P : Option Addr} {ps : List Pt} {r : List UInt8} {res : Except Nat (List Pt × List UInt8)} (h : res = .ok (ps, r)) (hE : Ext w w') (ho : w'.ownsRow w.heap.size 71 7 (.slice P k cp) k (pcells ps)) :
    RPartP w k res (.returned (.tuple #[.slice P k cp, .bool true])) w' := by
  rw [h]
  exact ⟨hE, P, cp, rfl, ho⟩
set_option maxRecDepth 100000 in
set_option maxHeartbeats 4000000 in
theorem rparts_any (A : Option Addr) (n c k : Nat) (L : List UInt8) (w0 w : World) (h : In8 w0 A n c L) (hw : Ext w0 w) (hle : n ≤ 1000000000) (hk : k ≤ 512) :
    Calls Tryz.prog 80 #[.slice A n c, .int .i64 k] w fun e w' => RPartP w k (getPts k L) e w' := by
  obtain rfl := h.len
  go_enter Tryz.func80, Tryz.ntmps80
  go_wp2_with fail
  go_loopw [0, 6, 7] (fun s0 s6 s7 wr => ∃ (i : Nat) (L2 : List UInt8) (ps : List Pt) (A2 P : Option Addr) (c3 cp : Nat), s7 = .int .i64 i ∧ i ≤ k ∧ s0 = .slice A2 L2.length c3 ∧ s6 = .slice P i cp ∧ L2.length ≤ 1000000000 ∧ Hid (getPts k L = combP ps (getPts (k - i) L2)) ∧ Hid (In8 w0 A2 L2.length c3 L2) ∧ Hid (wr.ownsRow w.heap.size 71 7 (.slice P i cp) i (pcells ps)) ∧ Hid (Ext w wr)) (fun _ _ s7 _ => k - (intOf s7).toNat)
  case atStart => exact ⟨0, L, [], A, none, c, 0, rfl, by omega, rfl, rfl, hle, hide (by rw [combP_nil]; rfl), hide h, hide ⟨rfl, .inl ⟨rfl, rfl⟩⟩, hide (Ext.refl w)⟩
  case round =>
    obtain ⟨i, L2, ps, A2, P, c3, cp, rfl, hi, rfl, rfl, hL2, hg, hin, hown, hE⟩ := hrel
    by_cases hik : i < k
    · have hga := rgetAll_any A2 L2.length c3 6 L2 w0 wr hin.out (hw.trans hE.out) hL2 (by omega)
      have hst := getPts_step hg.out hik
      cases hr : getAll 6 L2 with
      | error x =>
        rw [hr] at hga hst
        replace hga := hide hga
        replace hst := hide hst
        clear hr h hg
        go_wp2_with fail
        refine hga.out.mono ?_
        rintro e w1 ⟨hE1, rfl, hx⟩
        have hx0 : ((x : Int) != 0) = true := by simp; omega
        clear hx
        go_wp2_with fail
        go_ret2
        exact rpart_err hst.out (hE.out.trans hE1)
      | ok p =>
        obtain ⟨ns, r1⟩ := p
        rw [hr] at hga hst
        obtain ⟨hn6, _, q, hq⟩ := getAll_len 6 L2 ns r1 hr
        have hr1 : r1.length ≤ 1000000000 := by rw [hq, List.length_append] at hL2; omega
        obtain ⟨a0, a1, a2, a3, a4, a5, rfl⟩ := six_of hn6
        replace hga := hide hga
        replace hst := hide hst
        clear hr h hg hq hn6
        go_wp2_with fail
        refine hga.out.mono ?_
        rintro e w1 ⟨hE1, A3, c4, B, cb, rfl, hbu, hin3⟩
        have hE2 := hide (hE.out.trans hE1)
        obtain ⟨g, o, rfl, hcc⟩ := hbu.cells.at_ (by simp)
        have z0 : w1.cell? ⟨g, o, none⟩ = some (.int .i64 a0) := hcc 0 _ rfl
        have z1 : w1.cell? ⟨g, o + 1, none⟩ = some (.int .i64 a1) := hcc 1 _ rfl
        have z2 : w1.cell? ⟨g, o + 2, none⟩ = some (.int .i64 a2) := hcc 2 _ rfl
        have z3 : w1.cell? ⟨g, o + 3, none⟩ = some (.int .i64 a3) := hcc 3 _ rfl
        have z4 : w1.cell? ⟨g, o + 4, none⟩ = some (.int .i64 a4) := hcc 4 _ rfl
        have z5 : w1.cell? ⟨g, o + 5, none⟩ = some (.int .i64 a5) := hcc 5 _ rfl
        have hown4 := hide ((Ext.drew hE1).owns hown.out)
        have hE3 := hide (hE2.out.drew)
        have hsz := hE3.out.size
        clear hcc hbu
        go_wp2_with fail
        refine wp_region_text follows (by kernel_rfl) (by kernel_rfl) (fun K hK => ?_)
        go_wp2_with (at_builtin; refine wpList_appS (m := 1) elemP hown4.out (.tmp 24) (.tmp 52) rfl rfl rfl rfl rfl (one_of rfl) (by omega) hsz (fun A4 c5 w4 ho5 hg5 hl5 => ?_))
        refine ⟨by kernel_rfl, ?_⟩
        go_wp2_with fail
        go_roundw
        case rel =>
          have hpt : (mkPt [a0, a1, a2, a3, a4, a5]).cells = [.int .i64 a0, .int .i64 a1, .int .i64 a2, .int .i64 a3, .int .i64 a4, .int .i64 a5, .int .i64 (wrap64 (wrap64 (a5 - a4) + 1))] := rfl
          refine ⟨i + 1, r1, ps ++ [mkPt [a0, a1, a2, a3, a4, a5]], A3, A4, c4, c5, by go_num, by omega, rfl, rfl, hr1, hst, hide hin3, hide ?_, hide (hE3.out.grown hg5 fun b hb => ?_)⟩
          · rw [pcells_snoc, hpt]
            exact ho5
          · obtain ⟨_, _, hbb⟩ := owns_row hown4.out hb
            exact hbb
        case measure => simp [intOf]; omega
    · obtain rfl : i = k := by omega
      have hz := hg.out
      rw [Nat.sub_self] at hz
      have hz2 : getPts i L = .ok (ps, L2) := by rw [hz]; simp [getPts, combP]
      replace hz2 := hide hz2
      clear h hz
      go_wp2_with fail
      go_ret2
      exact rpart_ok hz2.out hE.out hown.out
end Go.Proofs.YtaoolpnnomhnoaaGreatDoor

/- loggiaref16: Encode. -/
namespace Go.Proofs.YtaoolpnnomhnoaaGreatDoor
open Go.RowKit

set_option maxRecDepth 100000 in
set_option maxHeartbeats 4000000 in
theorem rencode_any (base : Nat) (m : Mf) (A : Option Addr) (c : Nat) (w : World) (h : m.Ok w base A c) : Calls Tryz.prog 45 #[m.val A c] w fun e w' => EncP w m e w' := by
  have hp := h.parts
  have hin := h.in_
  have hck : ∀ W, Ext w W → Calls Tryz.prog 8 #[m.val A c] W fun e w' => e = .returned (.int .i64 (checkP m)) ∧ Ext W w' := fun W hE => rcheck_any base m A c W (h.ext hE)
  have hrow : Row (w.alloc (.cells #[.slice A m.ps.length c, .int .i64 m.floor, .int .i64 m.done, .int .i64 m.log, .int .i64 m.next, .int .i64 m.now] 24)) w.heap.size 24 #[.slice A m.ps.length c, .int .i64 m.floor, .int .i64 m.done, .int .i64 m.log, .int .i64 m.next, .int .i64 m.now] := Row.new w _ _
  have hE0 : Ext w (w.alloc (.cells #[.slice A m.ps.length c, .int .i64 m.floor, .int .i64 m.done, .int .i64 m.log, .int .i64 m.next, .int .i64 m.now] 24)) := (Ext.refl w).alloc _
  unfold Mf.val at hck ⊢
  replace hck := hide hck
  by_cases hc : checkP m = 0
  · obtain ⟨h5, hpp⟩ := checkP_zero hc
    have hcn : (checkP m : Int) = 0 := by omega
    have hc' := hide hc
    rw [hcn] at hck
    clear hc hcn h hpp
    have hfl := hide (heads_ok hin)
    have hle := hide (encI_len hin h5)
    replace hin := hide hin
    replace hrow := hide hrow
    replace hE0 := hide hE0
    replace hp := hide hp
    go_enter Tryz.func45, Tryz.ntmps45
    go_wp2_with fail
    refine (hck.out _ hE0.out).mono ?_
    rintro e w1 ⟨rfl, hE1⟩
    have hr1 := hide (hrow.out.ext hE1)
    have hE2 := hide (hE0.out.trans hE1)
    have x0 := hr1.out.cell 0 rfl
    have x1 := hr1.out.cell 1 rfl
    have x2 := hr1.out.cell 2 rfl
    have x3 := hr1.out.cell 3 rfl
    have x4 := hr1.out.cell 4 rfl
    have x5 := hr1.out.cell 5 rfl
    have hlt1 := hr1.out.lt
    have hbm := hide (buf_new w1 [.int .u8 76, .int .u8 71, .int .u8 77, .int .u8 49] 5 (by simp))
    have hall := rall_any (some ⟨w1.heap.size + 1, 0, none⟩) 5 5 [m.floor, m.done, m.log, m.next, m.now] ((w1.alloc (.cells #[.int .u8 76, .int .u8 71, .int .u8 77, .int .u8 49] 5)).alloc (.cells #[.int .i64 m.floor, .int .i64 m.done, .int .i64 m.log, .int .i64 m.next, .int .i64 m.now] 3)) rfl (.inr ⟨w1.heap.size + 1, 0, rfl, fun i v hv => by
      have hn := heap_alloc_new (w1.alloc (.cells #[.int .u8 76, .int .u8 71, .int .u8 77, .int .u8 49] 5)) (.cells #[.int .i64 m.floor, .int .i64 m.done, .int .i64 m.log, .int .i64 m.next, .int .i64 m.now] 3)
      rw [show (w1.alloc (.cells #[.int .u8 76, .int .u8 71, .int .u8 77, .int .u8 49] 5)).heap.size = w1.heap.size + 1 by simp] at hn
      rw [Nat.zero_add, cell_of_row _ _ _ _ _ _ hn]
      simpa using hv⟩) (by omega) hfl.out
    have hE3 : Ext w1 ((w1.alloc (.cells #[.int .u8 76, .int .u8 71, .int .u8 77, .int .u8 49] 5)).alloc (.cells #[.int .i64 m.floor, .int .i64 m.done, .int .i64 m.log, .int .i64 m.next, .int .i64 m.now] 3)) := ((Ext.refl w1).alloc _).alloc _
    have hE3b : Ext (w1.alloc (.cells #[.int .u8 76, .int .u8 71, .int .u8 77, .int .u8 49] 5)) ((w1.alloc (.cells #[.int .u8 76, .int .u8 71, .int .u8 77, .int .u8 49] 5)).alloc (.cells #[.int .i64 m.floor, .int .i64 m.done, .int .i64 m.log, .int .i64 m.next, .int .i64 m.now] 3)) := (Ext.refl _).alloc _
    replace hall := hide hall
    replace hE3 := hide hE3
    replace hE3b := hide hE3b
    go_wp2_with fail
    refine hall.out.mono ?_
    rintro e w2 ⟨A2, c2, rfl, hb2, hE4⟩
    have hE5 := hide (hE3.out.trans hE4)
    have y0 := hE5.out.cell x0
    have hE6 := hide (hE2.out.trans hE5.out)
    have hlen2 := vall_len _ hfl.out
    simp only [List.length_cons, List.length_nil] at hlen2
    have hbm2 := hbm.out.ext (hE3b.out.trans hE4)
    have hs2 := hE5.out.size
    have hby := hide (fun w => rbytes m.ps.length w (by omega))
    have hvl := vb_len10 (n := m.ps.length) (by omega)
    clear x0 x1 x2 x3 x4 x5 hall hck hE4 hlt1
    go_wp2_with (at_builtin; refine wpList_buf elemB hbm2 hb2.cells (.tmp 14) (.tmp 26) rfl rfl rfl rfl rfl (by rw [List.length_map]) (bytes_one _) (by simp only [List.length_cons, List.length_nil]; omega) hs2 (fun A3 c3 w3 hb3 _ hE7 _ => ?_); have q0 := (hE7 w1 hE5.out (Nat.le_refl _)).cell (show w1.cell? ⟨w.heap.size, 0, none⟩ = some (.slice A m.ps.length c) from hr1.out.cell 0 rfl))
    refine (hby.out _).mono ?_
    rintro e w4 ⟨A4, c4, rfl, hb4, hE8⟩
    have hE9 := hE7 w1 hE5.out (Nat.le_refl _)
    have hE10 := hE9.trans hE8
    have z0 := hE10.cell (show w1.cell? ⟨w.heap.size, 0, none⟩ = some (.slice A m.ps.length c) from hr1.out.cell 0 rfl)
    have hb5 := hb3.ext hE8
    have hs4 := hE10.size
    clear y0 hb2 hbm2 hs2
    go_wp2_with (at_builtin; refine wpList_buf elemB hb5 hb4.cells (.tmp 28) (.tmp 33) rfl rfl rfl rfl rfl (by rw [List.length_map]) (bytes_one _) (by simp only [List.length_cons, List.length_nil]; omega) hs4 (fun A6 c6 w6 hb6 _ hE11 _ => ?_))
    have hE12 := hide (hE2.out.trans (hE11 w1 hE10 (Nat.le_refl _)))
    have v0 := (hE11 w1 hE10 (Nat.le_refl _)).cell (show w1.cell? ⟨w.heap.size, 0, none⟩ = some (.slice A m.ps.length c) from hr1.out.cell 0 rfl)
    have hb7 : Buf w6 w1.heap.size 5 A6 (encI m 0).length c6 ((encI m 0).map B8) := by
      rw [encI_zero, List.map_append, List.map_append, List.length_append, List.length_append]
      exact hb6
    have hE13 := hide (hE11 w1 hE10 (Nat.le_refl _))
    have hv0 := hide (show w1.cell? ⟨w.heap.size, 0, none⟩ = some (.slice A m.ps.length c) from hr1.out.cell 0 rfl)
    obtain ⟨n6, hn6⟩ : ∃ n6, n6 = (encI m 0).length := ⟨_, rfl⟩
    have hln : ([.int .u8 76, .int .u8 71, .int .u8 77, .int .u8 49] : List Value).length + (vall [m.floor, m.done, m.log, m.next, m.now]).length + (vb m.ps.length).length = n6 := by rw [hn6, encI_zero]; simp only [List.length_append, List.length_cons, List.length_nil]
    rw [← hn6] at hb7
    have hsv : ∀ x, Value.slice A6 (([.int .u8 76, .int .u8 71, .int .u8 77, .int .u8 49] : List Value).length + (vall [m.floor, m.done, m.log, m.next, m.now]).length + (vb m.ps.length).length) x = .slice A6 n6 x := fun x => by rw [hln]
    replace hb7 := hide hb7
    replace hn6 := hide hn6
    replace hsv := hide hsv
    clear hb6 hb5 hb4 hE10 hE8 hE11 hb3 hE7 z0 v0 hE9 hs4 hln hlen2 hvl
    go_wp2_with fail
    go_loopw [5, 6] (fun s5 s6 wr => ∃ (i : Nat) (A4 : Option Addr) (n4 c4 : Nat), s6 = .int .i64 i ∧ i ≤ m.ps.length ∧ s5 = .slice A4 n4 c4 ∧ Hid (n4 = (encI m i).length) ∧ Hid (Buf wr w1.heap.size 5 A4 n4 c4 ((encI m i).map B8)) ∧ Hid (Ext w1 wr)) (fun _ s6 _ => m.ps.length - (intOf s6).toNat)
    case atStart => exact ⟨0, A6, n6, c6, rfl, by omega, hsv.out _, hn6, hb7, hE13⟩
    case round =>
      obtain ⟨i, A4, n4, c4, rfl, hi, rfl, hn4, hb5, hE9⟩ := hrel
      have hl4 := hle.out i hi
      have hn4b : n4 ≤ 64 + 60 * i := by rw [hn4.out]; exact hl4
      have v0 := hE9.out.cell hv0.out
      have hEw := hide (hE2.out.trans hE9.out)
      have hwsz := hE9.out.size
      clear hl4
      by_cases hik : i < m.ps.length
      · obtain ⟨g, o, p, rfl, hpi, hpo, k0, k1, k2, k3, k4, k5, k6⟩ := (hp.out.ext hEw.out).at_ hik
        have hsu := encI_succ hpi
        have hcx : Ext wr ((wr.alloc (.cells #[.int .i64 p.id, .int .i64 p.st, .int .i64 p.lo, .int .i64 p.hi, .int .i64 p.fi, .int .i64 p.la, .int .i64 p.n] 71)).alloc (.cells #[.int .i64 p.id, .int .i64 p.st, .int .i64 p.lo, .int .i64 p.hi, .int .i64 p.fi, .int .i64 p.la] 3)) := ((Ext.refl wr).alloc _).alloc _
        have hpa := rall_any (some ⟨wr.heap.size + 1, 0, none⟩) 6 6 (pnums p) ((wr.alloc (.cells #[.int .i64 p.id, .int .i64 p.st, .int .i64 p.lo, .int .i64 p.hi, .int .i64 p.fi, .int .i64 p.la, .int .i64 p.n] 71)).alloc (.cells #[.int .i64 p.id, .int .i64 p.st, .int .i64 p.lo, .int .i64 p.hi, .int .i64 p.fi, .int .i64 p.la] 3)) rfl (.inr ⟨wr.heap.size + 1, 0, rfl, fun i v hv => by
          have hn := heap_alloc_new (wr.alloc (.cells #[.int .i64 p.id, .int .i64 p.st, .int .i64 p.lo, .int .i64 p.hi, .int .i64 p.fi, .int .i64 p.la, .int .i64 p.n] 71)) (.cells #[.int .i64 p.id, .int .i64 p.st, .int .i64 p.lo, .int .i64 p.hi, .int .i64 p.fi, .int .i64 p.la] 3)
          rw [show (wr.alloc (.cells #[.int .i64 p.id, .int .i64 p.st, .int .i64 p.lo, .int .i64 p.hi, .int .i64 p.fi, .int .i64 p.la, .int .i64 p.n] 71)).heap.size = wr.heap.size + 1 by simp] at hn
          rw [Nat.zero_add, cell_of_row _ _ _ _ _ _ hn]
          simpa [pnums] using hv⟩) (by omega) (pnums_ok hpo)
        have hvp := vall_len _ (pnums_ok hpo)
        rw [show (pnums p).length = 6 from rfl] at hvp
        have hgl : g < wr.heap.size := World.block_lt_of_cell? wr _ k0
        have hi0 : (0 : Int) ≤ i := by omega
        replace hpa := hide hpa
        replace hcx := hide hcx
        replace hsu := hide hsu
        clear hpi hpo
        go_wp2_with fail
        refine hpa.out.mono ?_
        rintro e w5 ⟨A5, c5, rfl, hb6, hE10⟩
        have hE11 := hE9.out.trans (hcx.out.trans hE10)
        have hb7 := hb5.out.ext (hcx.out.trans hE10)
        have hws5 := hE11.size
        go_wp2_with (at_builtin; refine wpList_buf elemB hb7 hb6.cells (.tmp 47) (.tmp 61) rfl rfl rfl rfl rfl (by rw [List.length_map]) (bytes_one _) (by omega) hws5 (fun A8 c8 w8 hb8 _ hE12 _ => ?_))
        go_roundw
        case rel => exact ⟨i + 1, A8, _, c8, by go_num, by omega, rfl, hide (by rw [hsu.out, List.length_append, ← hn4.out]), hide (by rw [hsu.out, List.map_append]; exact hb8), hide (hE12 w1 hE11 (Nat.le_refl _))⟩
        case measure => simp [intOf]; omega
      · obtain rfl : i = m.ps.length := by omega
        rw [encI_all] at hn4 hb5
        have hof := hide (of_any A4 n4 c4 (encB m) wr wr hb5.out.in8 (Ext.refl wr) (by omega))
        have hlt := cnext_lt 0 (encB m)
        have h4 := le4_B8 hlt
        have hl4 : (le4 (cnext 0 (encB m))).length = 4 := rfl
        have hfin : encM m = encB m ++ le4 (cnext 0 (encB m)) := rfl
        obtain ⟨z, hz⟩ : ∃ z, z = cnext 0 (encB m) := ⟨_, rfl⟩
        rw [← hz] at hof hlt h4 hl4 hfin
        replace h4 := hide h4
        replace hl4 := hide hl4
        replace hfin := hide hfin
        clear hz
        go_wp2_with fail
        refine hof.out.mono ?_
        rintro e w5 ⟨rfl, rfl⟩
        go_wp2_with (at_builtin; refine wpList_bufN elemB hb5.out (.tmp 65) (.tmp 77) rfl rfl rfl rfl (one_of rfl) (by simp only [List.length_cons, List.length_nil]; omega) hwsz (fun A8 c8 w8 hb8 hE12 => ?_))
        go_ret2
        have hlm : (encM m).length = n4 + 4 := by rw [hfin.out, List.length_append, ← hn4.out, hl4.out]
        have hmm : (encM m).map B8 = (encB m).map B8 ++ [.int .u8 ((z : Int) % 256), .int .u8 ((z : Int) / 256 % 256), .int .u8 ((z : Int) / 65536 % 256), .int .u8 ((z : Int) / 16777216)] := by rw [hfin.out, List.map_append, h4.out]
        refine ⟨hE2.out.trans (hE12 w1 hE9.out (Nat.le_refl _)), fun _ => ⟨A8, c8, by rw [hlm]; rfl, by rw [hmm, hlm]; exact hb8.lower hE2.out.size⟩, fun h => absurd hc'.out h⟩
  · have hcn : ((checkP m : Int) != 0) = true := by simp; omega
    obtain ⟨k, hk⟩ : ∃ k, k = checkP m := ⟨_, rfl⟩
    rw [← hk] at hck hcn
    replace hk := hide hk
    replace hrow := hide hrow
    replace hE0 := hide hE0
    clear hp h hin
    go_enter Tryz.func45, Tryz.ntmps45
    go_wp2_with fail
    refine (hck.out _ hE0.out).mono ?_
    rintro e w1 ⟨rfl, hE1⟩
    go_wp2_with fail
    go_ret2
    exact ⟨hE0.out.trans hE1, fun h => absurd h hc, fun _ => by rw [← hk.out]; rfl⟩
end Go.Proofs.YtaoolpnnomhnoaaGreatDoor

