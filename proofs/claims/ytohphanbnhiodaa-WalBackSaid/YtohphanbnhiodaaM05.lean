/- loggia/disk: Append, the walk. -/
import Derived.Test.YtohphanbnhiodaaM04
import Derived.Deep.RegionHeld3
import Derived.Deep.QuietTactic
import Derived.BigQuiet
import Derived.Test.YtohphanbnhiodaaM03
import Derived.Test.YtohphanbnhiodaaM02
import Derived.Test.YtohphanbnhiodaaRows
import Derived.WalkKit
import Derived.ProofKit
import Derived.OpenShut
import Derived.ShutString
import Derived.ChangeOld
import Derived.Below
import Derived.Deep.Slices
import Derived.Deep.Fields
import Derived.ChangeSame
import Derived.SliceStrings
set_option linter.unusedSimpArgs false
set_option linter.unusedVariables false
namespace Go.Proofs.Ytohphanbnhiodaa
open Go.RowKit Go.Maps

theorem GotD.plain {w W : World} {base d m : Nat} {P : PD} {E : List Ent} {s : List UInt8} {ok : Bool} {e0 : Ent} (hD : DE w base d m P E) (h : GotD w W base E s ok e0) (hn : namedM s = true) (hst : P.stopped = false) (b : List UInt8) :
    appendM P s b = if ok = false ∧ 1024 ≤ E.length then (P, 3) else putM P (s, e0.b, e0.sure) b := by
  unfold appendM
  rw [hn, hst]
  have hl : P.L.length = E.length := by rw [← hD.pl, List.length_map]
  cases ok with
  | true =>
    have : P.find s = some (s, e0.b, e0.sure) := by
      have := hD.find_in (h.here rfl)
      rw [h.name] at this
      rw [this]
      unfold Ent.pl
      rw [h.name]
    rw [this]
    simp
  | false =>
    obtain ⟨h1, h2, h3, _⟩ := h.away rfl
    rw [hD.find_out h1, hl, h2, h3]
    by_cases hc : 1024 ≤ E.length
    · simp [hc]
    · simp [hc]
set_option maxRecDepth 100000 in
set_option maxHeartbeats 2000000 in
theorem append_good (base d : Nat) (P : PD) (F : Nat → Prop) (s b : List UInt8) (B : Option Addr) (n c : Nat) (w : World) (h : DS w base d P F) (hs : s.length ≤ 9223372036854775807) (hb : Bs w B b) (hBF : b ≠ [] → ∀ a, B = some a → ¬ F a.block) (hn : n = b.length) (hn2 : n ≤ 1073741824)
    (hbase : base ≤ w.heap.size) (hnm : namedM s = true) (hst : P.stopped = false) :
    Calls Try.prog 37 #[.pointer (some ⟨d, 0, none⟩), str s, .slice B n c] w fun e w' => e = .returned (.int .i64 (appendM P s b).2) ∧ DNext base d F w (appendM P s b).1 w' := by
  have hmay := may_one base d P F s w h hs
  have hE : Ext w (oneW w s) := (Ext.refl w).alloc _
  rw [hst, may_ok hnm] at hmay
  have hS := h
  obtain ⟨m, E, hD0, hF⟩ := h
  have hD : DE (oneW w s) base d m P E := hD0.chg (Chg.of_ext hE (fun _ => False)) (fun _ h => h.elim)
  have c0 : (oneW w s).cell? ⟨d, 0, none⟩ = some (.map (some m)) := Row.cell hD.row 0 rfl
  obtain ⟨fp, ok, hrun, hcase⟩ : ∃ fp ok, (Instr.lookup 78 (.map (some m)) (str s) true).run Try.prog (oneW w s) = .ok (.tuple #[fp, .bool ok]) (oneW w s) ∧
      ((∃ e0 ∈ E, e0.name = s ∧ fp = .pointer (some ⟨e0.f, 0, none⟩) ∧ ok = true) ∨ ((∀ e ∈ E, e.name ≠ s) ∧ fp = .pointer none ∧ ok = false)) := by
    rcases hD.lookup s hs (oneW w s) rfl with ⟨e0, he0, hn, hrun⟩ | ⟨hno, hrun⟩
    · exact ⟨_, _, hrun, .inl ⟨e0, he0, hn, rfl, rfl⟩⟩
    · exact ⟨_, _, hrun, .inr ⟨hno, rfl, rfl⟩⟩
  unfold str at hrun ⊢
  replace hcase := hide hcase
  replace hmay := hide hmay
  replace hn := hide hn
  replace hst := hide hst
  replace hnm := hide hnm
  go_enter Try.func37, Try.ntmps37
  go_wp2_with fail
  refine hmay.out.mono ?_
  rintro e w1 ⟨rfl, rfl⟩
  go_upto_if 28 with (fail)
  go_cut [8, 9] (fun s8 s9 wx => ∃ e0 : Ent, s8 = .pointer (some ⟨e0.f, 0, none⟩) ∧ s9 = .bool ok ∧ Ext w wx ∧ GotD w wx base E s ok e0)
  case first =>
    rcases hcase.out with ⟨e0, he0, hn0, rfl, rfl⟩ | ⟨hno, rfl, rfl⟩
    · go_wp2_with fail
      go_meet
      case rel => exact ⟨e0, rfl, rfl, hE, hn0, hD.fs.ok e0 he0, hD.lens e0 he0, fun _ => he0, nofun⟩
    · have hr := Row.new (oneW w s) 94 #[.slice none 0 0, .int .i64 0]
      have hw1 : (oneW w s).heap.size = w.heap.size + 1 := by simp
      rw [hw1] at hr
      have hE2 := hE.alloc (.cells #[.slice none 0 0, .int .i64 0] 94)
      replace hr := hide hr
      replace hno := hide hno
      go_wp2_with fail
      go_meet
      case rel =>
        refine ⟨⟨s, w.heap.size + 1, [], 0, none, 0⟩, rfl, rfl, hE2, rfl, ⟨hr.out, Buf.nil _ _ _, ?_, by simp⟩, by simp, nofun, fun _ => ⟨hno.out, rfl, rfl, rfl, by simp⟩⟩
        show base ≤ w.heap.size + 1
        omega
  case rest =>
    obtain ⟨e0, rfl, rfl, hwx, hG⟩ := hcut
    obtain ⟨wx, rfl⟩ : ∃ wx, wx = wc := ⟨_, rfl⟩
    have hpl := hG.plain hD0 hnm.out hst.out b
    have hDx : DE wx base d m P E := hD0.chg (Chg.of_ext hwx (fun _ => False)) (fun _ h => h.elim)
    have c0x : wx.cell? ⟨d, 0, none⟩ = some (.map (some m)) := Row.cell hDx.row 0 rfl
    have c1x : wx.cell? ⟨d, 1, none⟩ = some (.int .i64 P.quota) := Row.cell hDx.row 1 rfl
    have cfx : wx.cell? ⟨e0.f, 0, none⟩ = some (.slice e0.A e0.b.length e0.c) := hG.has.row.cell 0 rfl
    have hlen0 := hG.len
    have hcn := hDx.cnt
    obtain ⟨L, hL0, hmem, hlen⟩ := hD0.fs.map
    have hL := hL0.ext hwx
    have hlr := hL.len Try.underlying78 3
    obtain ⟨el, hel⟩ : ∃ x, x = E.length := ⟨_, rfl⟩
    obtain ⟨bl, hbl⟩ : ∃ x, x = e0.b.length := ⟨_, rfl⟩
    rw [hlen, ← hel] at hlr
    rw [← hel] at hcn hpl
    rw [← hbl] at cfx hlen0
    have done : ∀ k : Nat, appendM P s b = (P, k) → ∀ e, e = Ending.returned (.int .i64 k) → e = .returned (.int .i64 (appendM P s b).2) ∧ DNext base d F w (appendM P s b).1 wx := fun k hk => append_no hk hS hwx
    replace done := hide done
    replace hel := hide hel
    replace hbl := hide hbl
    replace hmem := hide hmem
    replace hlen := hide hlen
    clear hrun hcase c0
    by_cases hmany : ok = false ∧ 1024 ≤ el
    · rw [if_pos hmany] at hpl
      obtain ⟨rfl, h2⟩ := hmany
      have fin := done.out _ hpl
      replace hpl := hide hpl
      replace fin := hide fin
      go_wp2_with fail
      go_ret
      exact fin.out _ rfl
    · rw [if_neg hmany] at hpl
      unfold putM at hpl
      replace hpl := hide hpl
      go_upto_region 7 with (fail)
      go_cut [31] (fun s31 wy => s31 = .bool false ∧ wy = wx)
      case first =>
        rcases (by cases ok <;> simp : ok = true ∨ ok = false) with hok | hok
        · subst hok
          go_wp2_with fail
          go_meet
          case rel => exact ⟨rfl, rfl⟩
        · subst hok
          have hel2 : el < 1024 := by
            refine Nat.lt_of_not_le fun h => hmany ⟨rfl, h⟩
          go_wp2_with fail
          go_meet
          case rel => exact ⟨congrArg Value.bool (decide_eq_false (by omega)), rfl⟩
      case rest =>
        obtain ⟨rfl, hwy⟩ := hcut
        have hwy3 := hwy.symm
        clear hwy
        subst hwy3
        rw [← hbl.out, ← hn.out] at hpl
        have hpl := hpl.out
        simp only [] at hpl
        by_cases hlong : 67108864 < bl + n
        · rw [if_pos hlong] at hpl
          have fin := done.out _ hpl
          replace hpl := hide hpl
          replace fin := hide fin
          go_wp2_with fail
          go_ret
          exact fin.out _ rfl
        · rw [if_neg hlong] at hpl
          have hlong2 : bl + n ≤ 67108864 := by omega
          have hus := hDx.used_le
          have hup := hDx.used
          have hqb := hDx.hq
          obtain ⟨q, hq⟩ : ∃ q, q = P.quota := ⟨_, rfl⟩
          obtain ⟨us, huse⟩ : ∃ us, us = usedM E := ⟨_, rfl⟩
          have hfull : fullM P n = (decide (0 < q) && decide (0 < n) && decide ((q : Int) - us < n)) := by
            unfold fullM
            rw [hq, huse, hup]
          have hcall : ∀ w0, (w0.cell? ⟨d, 1, none⟩ = some (.int .i64 P.quota) ∧ Ext wx w0) → Calls Try.prog 61 #[.pointer (some ⟨d, 0, none⟩)] w0 fun e w' => e = .returned (.int .i64 (usedM E)) ∧ Ext w0 w' := fun w0 hw0 => used_any base d m P.quota P.armed P.stopped E w0 (Row.ext hDx.row hw0.2) (hDx.fs.chg (Chg.of_ext hw0.2 (fun _ => False)) (fun _ h => h.elim)) (by omega)
          rw [← huse] at hus hcall
          rw [← hq] at c1x hqb hcall
          replace hup := hide hup
          replace huse := hide huse
          replace hq := hide hq
          replace hfull := hide hfull
          replace hpl := hide hpl
          replace hcall := hide hcall
          go_upto_region 11 with (fail)
          go_cut [53] (fun s53 wy => s53 = .bool (fullM P n) ∧ Ext wx wy)
          case first =>
            have hS0 : wx.drew.cell? ⟨d, 1, none⟩ = some (.int .i64 q) ∧ Ext wx wx.drew := ⟨c1x, (Ext.refl wx).drew⟩
            have hS1 : wx.cell? ⟨d, 1, none⟩ = some (.int .i64 q) ∧ Ext wx wx := ⟨c1x, Ext.refl wx⟩
            have hkp : ∀ w0 w1 : World, (w0.cell? ⟨d, 1, none⟩ = some (.int .i64 q) ∧ Ext wx w0) → Ext w0 w1 → w1.cell? ⟨d, 1, none⟩ = some (.int .i64 q) ∧ Ext wx w1 := fun w0 w1 h1 h3 => ⟨h3.cell h1.1, h1.2.trans h3⟩
            replace hkp := hide hkp
            replace hS0 := hide hS0
            replace hS1 := hide hS1
            by_cases h1 : 0 < q
            · by_cases h2 : 0 < n
              · go_region_held3 (fun w' => w'.cell? ⟨d, 1, none⟩ = some (.int .i64 q) ∧ Ext wx w') (first | exact hS0.out | exact hS1.out | exact ‹_› | exact hkp.out _ _ ‹_› ‹_›) (first | (go_at_call 61; refine (hcall.out _ ‹_›).mono ?_; rintro e w5 ⟨rfl, hE5⟩))
                go_wp2_with fail
                go_meet
                case rel =>
                  rw [hfull.out]
                  refine ⟨?_, (‹w5.cell? ⟨d, 1, none⟩ = some (.int .i64 q) ∧ Ext wx w5›).2⟩
                  rw [IntWalk.i64_in _ (by omega)]
                  simp [h1, h2]
              · obtain rfl : n = 0 := by omega
                go_quiet (fail)
                go_wp2_with fail
                go_meet
                case rel =>
                  rw [hfull.out]
                  exact ⟨by simp, (Ext.refl wx).drewN _⟩
            · obtain rfl : q = 0 := by omega
              go_quiet (fail)
              go_wp2_with fail
              go_meet
              case rel =>
                rw [hfull.out]
                exact ⟨by simp, (Ext.refl wx).drewN _⟩
          case rest =>
            obtain ⟨hs53, hwy⟩ := hcut
            subst hs53
            have hwy2 : Ext w wc := hwx.trans hwy
            cases hf : fullM P n with
            | true =>
              have hpl2 := hpl.out
              rw [hf, if_pos rfl] at hpl2
              have fin := append_no hpl2 hS hwy2
              replace hpl2 := hide hpl2
              replace hf := hide hf
              replace fin := hide fin
              go_wp2_with fail
              go_ret
              exact fin.out _ rfl
            | false =>
              have hpl2 := hpl.out
              rw [hf, if_neg (by simp)] at hpl2
              have hDy : DE wc base d m P E := hDx.chg (Chg.of_ext hwy (fun _ => False)) (fun _ h => h.elim)
              have hrowy : DRow wc d m P.quota P.armed false := by have := hDy.row; rw [hst.out] at this; exact this
              have hcl := call_any d m P.quota P.armed wc hrowy hDy.ha
              replace hf := hide hf
              replace hpl2 := hide hpl2
              replace hcl := hide hcl
              clear hpl hfull hcall c0x c1x cfx done hlr
              go_wp2_with fail
              refine hcl.out.mono ?_
              rintro e w6 ⟨rfl, hrow6, hc6, hs6⟩
              by_cases ha : P.armed = 1
              · have hpl3 := hpl2.out
                rw [if_pos ha] at hpl3 ⊢
                have hrow6' : DRow w6 d m P.stops.quota P.stops.armed P.stops.stopped := by
                  rw [ha] at hrow6
                  exact hrow6
                have fin : DNext base d F w P.stops w6 := hS.next hF (hDy.own hc6 hrow6' rfl hDy.hq (by show 0 ≤ _; omega)) ((Chg.of_ext hwy2 (Foot d m E)).trans hc6 (fun k _ hk => .inl hk)) (fun k hk => .inl hk)
                replace hpl3 := hide hpl3
                replace fin := hide fin
                replace ha := hide ha
                go_wp2_with fail
                go_ret
                rw [hpl3.out]
                exact ⟨rfl, fin.out⟩
              · have hpl3 := hpl2.out
                rw [if_neg ha] at hpl3 ⊢
                have hrow6' : DRow w6 d m P.quota (P.armed - 1) false := by
                  rw [decide_eq_false ha] at hrow6
                  exact hrow6
                have hG2 : GotD w wc base E s ok e0 := ⟨hG.name, hG.has.keep (Below.block hwy _ hG.has.row.lt) fun a haa => Below.block hwy _ (hG.has.buf.lt a haa), hG.len, hG.here, hG.away⟩
                have hap := hDy.apart
                have hLy := hL.ext hwy
                have hm0 := hG2.has.ne_map hLy
                have hd0 : d ≠ e0.f ∧ ∀ a, e0.A = some a → d ≠ a.block := ⟨Row.unlike hDy.row hG2.has.row (by decide), fun a ha hd => hG2.has.buf.unlike hDy.row (by decide) a ha hd.symm⟩
                have hr6 : Row w6 e0.f 94 #[.slice e0.A e0.b.length e0.c, .int .i64 e0.sure] := hc6.row hG2.has.row fun h => hd0.1 h.symm
                have hb6 : Buf w6 base 5 e0.A e0.b.length e0.c (e0.b.map B8) := hG2.has.buf.chg hc6 fun a haa h => hd0.2 a haa h.symm
                have hB6 : Cells w6 B (b.map B8) := by
                  by_cases hbe : b = []
                  · exact .inl (by rw [hbe]; rfl)
                  · exact hc6.cells (hb.ext hwy2) fun a haa h => hBF hbe a haa ((hF _).2 (.inl h))
                have hL6 : MapL Try.prog 9 w6 m L := hLy.keep (hc6.block m hLy.lt fun h => hap.1 h.symm)
                have hsz6 : base ≤ w6.heap.size := Nat.le_trans hbase (Nat.le_trans hwy2.size hc6.size)
                obtain ⟨A1, c1, W2, hrunapp, hbuf2, hg2, hA1⟩ := run_buf elemB w6 31 (c' := c) hb6 hB6 (m := n) (by rw [List.length_map]; exact hn.out.symm) (bytes_one _) (by rw [← hbl.out]; omega) hsz6
                have hown : ∀ g, (∀ a, e0.A = some a → g ≠ a.block) → some g ≠ (Value.slice e0.A e0.b.length e0.c).ownBlock := by
                  intro g hg he
                  rcases hb6.2.2 with ⟨h1, _⟩ | ⟨g', cur, h1, _⟩
                  · rw [h1] at he; cases he
                  · rw [h1] at he
                    exact hg _ h1 (by simpa [Value.ownBlock] using he)
                have hr7 : Row W2 e0.f 94 #[.slice e0.A e0.b.length e0.c, .int .i64 e0.sure] := hr6.grown hg2 (hown _ fun a haa => hG2.has.fa hG2.has a haa)
                have hrow7 : DRow W2 d m P.quota (P.armed - 1) false := Row.grown hrow6' hg2 (hown _ hd0.2)
                have hL7 : MapL Try.prog 9 W2 m L := hL6.grown hg2 (fun h => hown m (fun a haa hh => hm0.2 a haa hh.symm) h.symm)
                have hL8 := hL7.set_ (a := ⟨e0.f, 0, none⟩) (.slice A1 (e0.b.length + n) c1) (fun h => hm0.1 h.symm)
                obtain ⟨W4, L', hupd, hL4, hput, hg4, hs4⟩ := hL8.update keyS Try.underlying78 (key_str hs) (.pointer (some ⟨e0.f, 0, none⟩))
                have fin : DNext base d F w (P.goes (withG fname (s, e0.b ++ b, e0.sure) P.L)) W4 := by
                  rw [hn.out] at hbuf2 hg4
                  obtain ⟨E', h1, h2, h3⟩ := append_end hD0 hs hwy2 hG2 (fun h => Nat.lt_of_not_le fun h9 => hmany ⟨h, by rw [hel.out]; exact h9⟩) (by rw [← hbl.out, ← hn.out]; exact hlong2) hrow6' hc6 hst.out hbuf2 hg2 hA1 hmem.out hL0 hput hL4 hg4
                  exact hS.next hF h1 h2 h3
                have cf6 : w6.cell? ⟨e0.f, 0, none⟩ = some (.slice e0.A e0.b.length e0.c) := hr6.cell 0 rfl
                have c7 : W2.cell? ⟨e0.f, 0, none⟩ = some (.slice e0.A e0.b.length e0.c) := hr7.cell 0 rfl
                have f7 := hr7.free 0
                have c8 : (W2.setCell ⟨e0.f, 0, none⟩ (.slice A1 (e0.b.length + n) c1)).cell? ⟨d, 0, none⟩ = some (.map (some m)) := (Row.away hrow7 (p := ⟨e0.f, 0, none⟩) hd0.1 _).cell 0 rfl
                unfold str at hupd
                replace hpl3 := hide hpl3
                replace fin := hide fin
                replace ha := hide ha
                replace hname := hide hG.name
                replace hd0 := hide hd0
                replace hap := hide hap
                replace hm0 := hide hm0
                replace hown := hide hown
                replace hA1 := hide hA1
                replace hs4 := hide hs4
                replace hs6 := hide hs6
                replace hkk := hide hwy2
                clear hrow6 hL7 hL8 hL4 hput hg4 hB6 hb6 hbuf2 hr6 hr7 hrow7 hL6 hsz6 hg2 hc6 hLy hL hL0 hG2 hG hDy hDx hD
                go_wp2_with (at_builtin; refine wpList_app_run hrunapp (.tmp 86) (.tmp 87) rfl rfl rfl rfl rfl ?_)
                go_ret
                rw [hpl3.out]
                exact ⟨rfl, fin.out⟩
theorem append_any0 (base d : Nat) (P : PD) (F : Nat → Prop) (s b : List UInt8) (B : Option Addr) (n c : Nat) (w : World) (h : DS w base d P F) (hs : s.length ≤ 9223372036854775807) (hb : Bs w B b) (hBF : b ≠ [] → ∀ a, B = some a → ¬ F a.block) (hn : n = b.length) (hn2 : n ≤ 1073741824)
    (hbase : base ≤ w.heap.size) :
    Calls Try.prog 37 #[.pointer (some ⟨d, 0, none⟩), str s, .slice B n c] w fun e w' => e = .returned (.int .i64 (appendM P s b).2) ∧ DNext base d F w (appendM P s b).1 w' := by
  cases hnm : namedM s with
  | false => exact append_bad base d P F s b B n c w h hs (.inl hnm)
  | true =>
    cases hst : P.stopped with
    | true => exact append_bad base d P F s b B n c w h hs (.inr hst)
    | false => exact append_good base d P F s b B n c w h hs hb hBF hn hn2 hbase hnm hst
theorem append_any (base d : Nat) (P : PD) (F : Nat → Prop) (s b : List UInt8) (B : Option Addr) (n c : Nat) (w : World) (h : DS w base d P F) (hs : s.length ≤ 9223372036854775807) (hb : Bs w B b) (hBF : ∀ a, B = some a → ¬ F a.block) (hn : n = b.length) (hn2 : n ≤ 1073741824)
    (hbase : base ≤ w.heap.size) :
    Calls Try.prog 37 #[.pointer (some ⟨d, 0, none⟩), str s, .slice B n c] w fun e w' => e = .returned (.int .i64 (appendM P s b).2) ∧ DNext base d F w (appendM P s b).1 w' := append_any0 base d P F s b B n c w h hs hb (fun _ => hBF) hn hn2 hbase
end Go.Proofs.Ytohphanbnhiodaa

/- loggia/disk: writes. -/
namespace Go.Proofs.Ytohphanbnhiodaa
open Go.RowKit Go.Maps

/-- What a writing call leaves of the disk. -/
def WPost (S : Nat → Prop) (base d m : Nat) (E : List Ent) (P : PD) (w w' : World) : Prop := ∃ E', DE w' base d m P E' ∧ Chg S w w' ∧ ∀ k, Foot d m E' k → Foot d m E k ∨ w.heap.size ≤ k
def WS (d m : Nat) (E : List Ent) (A : Option Addr) (i : Nat) : Prop := Foot d m E i ∨ ∃ a, A = some a ∧ a.block = i
theorem WPost.same {S : Nat → Prop} {base d m : Nat} {E : List Ent} {P : PD} {w w' : World} (hD : DE w' base d m P E) (hc : Chg S w w') : WPost S base d m E P w w' := ⟨E, hD, hc, fun _ h => .inl h⟩
set_option maxRecDepth 100000 in
set_option maxHeartbeats 2000000 in
theorem writes_any (base d m b0 : Nat) (P : PD) (E : List Ent) (s : List UInt8) (ns : List (List UInt8)) (k : Nat) (caps : Array Value) (kk : PF → List PF) (A : Option Addr) (n c : Nat) (w : World) (hD : DE w base d m P E)
    (hs : s.length ≤ 9223372036854775807) (hns : ∀ x ∈ ns, x.length ≤ 9223372036854775807) (hn : n = ns.length) (hn2 : n ≤ 100) (hb0 : b0 ≤ w.heap.size) (ho : w.ownsRow b0 9 1 (.slice A n c) n (ns.map str)) (hA : ∀ a, A = some a → ¬ Foot d m E a.block)
    (hcf : ∀ (args : Array Value) (W : World), (callFunc k args).run Try.prog W = .ok (.enter k args) W)
    (hk : ∀ (w1 : World) (e0 : Ent), e0 ∈ E → e0.name = s → Chg (WS d m E A) w w1 → DE w1 base d m (P.goes P.L) E → Calls Try.prog k (#[.pointer (some ⟨e0.f, 0, none⟩)] ++ caps) w1 fun e w' => e = .returned (.tuple #[]) ∧ WPost (Foot d m E) base d m E (P.goes (kk e0.pl)) w1 w') :
    Calls Try.prog 55 #[.pointer (some ⟨d, 0, none⟩), str s, .func (.func k) #[] caps, .slice A n c] w fun e w' => e = .returned (.int .i64 (writesM P (ns ++ [s]) s kk).2) ∧ WPost (WS d m E A) base d m E (writesM P (ns ++ [s]) s kk).1 w w' := by
  unfold str
  have hown : ∀ g, (Value.slice A n c).ownBlock = some g → ∃ a, A = some a ∧ a.block = g := by
    intro g hg
    cases A with
    | none => cases hg
    | some a =>
      refine ⟨a, rfl, ?_⟩
      rcases ho.2 with ⟨h, _⟩ | ⟨g', cap, cur, h, _⟩
      · cases h
      · cases h
        simpa [Value.ownBlock] using hg
  replace hown := hide hown
  replace hk := hide hk
  replace hcf := hide hcf
  replace hn := hide hn
  go_enter Try.func55, Try.ntmps55
  go_wp2_with (at_builtin; refine wpList_appN (us := [.string ⟨s.toArray⟩]) elemS ho (.tmp 14) (.tmp 16) rfl rfl rfl rfl (one_of rfl) (by simp; omega) hb0 (fun A1 c1 w3 ho3 hg3 hl3 => ?_))
  have hc3 : Chg (fun i => ∃ a, A = some a ∧ a.block = i) w w3 := Chg.of_grown hg3 fun i _ hi => hown.out i hi
  have hD3 : DE w3 base d m P E := hD.chg hc3 fun i ⟨a, ha, hi⟩ hf => hA a ha (by rw [hi]; exact hf)
  have hc3' : Chg (WS d m E A) w w3 := hc3.mono fun i _ h => .inr h
  have hmay := may_any d m P.quota P.armed P.stopped A1 (n + 1) c1 (ns ++ [s]) w3 hD3.row (by rw [List.length_append, hn.out]; rfl) (by rw [List.map_append]; exact Cells.of_own ho3) (by omega) (by
    intro x hx
    rcases List.mem_append.1 hx with h | h
    · exact hns x h
    · simp at h; rw [h]; exact hs)
  have c0 : w3.cell? ⟨d, 0, none⟩ = some (.map (some m)) := Row.cell hD3.row 0 rfl
  have hl1 : [Value.string ⟨s.toArray⟩].length = 1 := rfl
  simp only [List.length_singleton] at ho3 ⊢
  clear ho3 hl3 hg3 ho hl1
  cases hall : (ns ++ [s]).all namedM with
  | false =>
    have hw : writesM P (ns ++ [s]) s kk = (P, 60) := by unfold writesM; rw [hall]; rfl
    have hm : mayM (ns ++ [s]) P.stopped = 60 := by unfold mayM; rw [hall]; rfl
    rw [hm] at hmay
    have fin : WPost (WS d m E A) base d m E P w w3 := WPost.same hD3 hc3'
    replace hw := hide hw
    replace fin := hide fin
    replace hall := hide hall
    replace hmay := hide hmay
    clear hm
    go_wp2_with fail
    refine hmay.out.mono ?_
    rintro e w1 ⟨rfl, rfl⟩
    go_wp2_with fail
    go_ret
    rw [hw.out]
    exact ⟨rfl, fin.out⟩
  | true =>
    cases hst : P.stopped with
    | true =>
      have hw : writesM P (ns ++ [s]) s kk = (P, 63) := by unfold writesM; rw [hall, hst]; rfl
      have hm : mayM (ns ++ [s]) P.stopped = 63 := by unfold mayM; rw [hall, hst]; rfl
      rw [hm] at hmay
      have fin : WPost (WS d m E A) base d m E P w w3 := WPost.same hD3 hc3'
      replace hw := hide hw
      replace fin := hide fin
      replace hall := hide hall
      replace hst := hide hst
      replace hmay := hide hmay
      clear hm
      go_wp2_with fail
      refine hmay.out.mono ?_
      rintro e w1 ⟨rfl, rfl⟩
      go_wp2_with fail
      go_ret
      rw [hw.out]
      exact ⟨rfl, fin.out⟩
    | false =>
      have hm : mayM (ns ++ [s]) P.stopped = 0 := by unfold mayM; rw [hall, hst]; rfl
      rw [hm] at hmay
      rcases hD3.lookup s hs w3 rfl with ⟨e0, he0, hn0, hrun⟩ | ⟨hno, hrun⟩
      · have hfd : P.find s = some e0.pl := by rw [← hn0]; exact hD3.find_in he0
        have hrow3 : DRow w3 d m P.quota P.armed false := by have := hD3.row; rw [hst] at this; exact this
        have hcl := call_any d m P.quota P.armed w3 hrow3 hD3.ha
        unfold str at hrun
        have hw : writesM P (ns ++ [s]) s kk = if P.armed = 1 then (P.stops, 63) else (P.goes (kk e0.pl), 0) := by unfold writesM; rw [hall, hst, hfd]; rfl
        replace hcl := hide hcl
        replace hw := hide hw
        replace hall := hide hall
        replace hst := hide hst
        replace hmay := hide hmay
        replace hn0 := hide hn0
        clear hm hfd
        go_wp2_with fail
        refine hmay.out.mono ?_
        rintro e w1 ⟨rfl, rfl⟩
        go_wp2_with fail
        refine hcl.out.mono ?_
        rintro e w6 ⟨rfl, hrow6, hc6, hs6⟩
        have hc6' : Chg (WS d m E A) w w6 := hc3'.trans hc6 fun i _ h => .inl (.inl h)
        by_cases ha : P.armed = 1
        · have hw2 := hw.out
          rw [if_pos ha] at hw2 ⊢
          have hrow6' : DRow w6 d m P.stops.quota P.stops.armed P.stops.stopped := by
            rw [ha] at hrow6
            exact hrow6
          have fin : WPost (WS d m E A) base d m E P.stops w w6 := WPost.same (hD3.own hc6 hrow6' rfl hD3.hq (by show 0 ≤ _; omega)) hc6'
          replace hw2 := hide hw2
          replace fin := hide fin
          replace ha := hide ha
          go_wp2_with fail
          go_ret
          rw [hw2.out]
          exact ⟨rfl, fin.out⟩
        · have hw2 := hw.out
          rw [if_neg ha] at hw2 ⊢
          have hrow6' : DRow w6 d m (P.goes P.L).quota (P.goes P.L).armed (P.goes P.L).stopped := by
            rw [decide_eq_false ha] at hrow6
            show DRow w6 d m P.quota (P.armed - 1) P.stopped
            rw [hst.out]
            exact hrow6
          have hDw : DE w6 base d m (P.goes P.L) E := hD3.own hc6 hrow6' rfl hD3.hq (by have := hD3.ha; show P.armed - 1 ≤ _; omega)
          have hkk := hk.out w6 e0 he0 hn0.out hc6' hDw
          replace hw2 := hide hw2
          replace ha := hide ha
          replace hs6 := hide hs6
          replace hkk := hide hkk
          have hcf2 := hcf.out (#[.pointer (some ⟨e0.f, 0, none⟩)] ++ caps) w6
          go_wp2_with fail
          refine hkk.out.mono ?_
          rintro e w7 ⟨rfl, E', h1, h2, h3⟩
          have fin : WPost (WS d m E A) base d m E (P.goes (kk e0.pl)) w w7 := ⟨E', h1, hc6'.trans h2 fun i _ h => .inl h, fun i hi => (h3 i hi).imp_right fun h => Nat.le_trans hc6'.size h⟩
          replace fin := hide fin
          go_wp2_with fail
          go_ret
          rw [hw2.out]
          exact ⟨rfl, fin.out⟩
      · have hw : writesM P (ns ++ [s]) s kk = (P, 61) := by unfold writesM; rw [hall, hst, hD3.find_out hno]; rfl
        unfold str at hrun
        have fin : WPost (WS d m E A) base d m E P w w3 := WPost.same hD3 hc3'
        replace hw := hide hw
        replace fin := hide fin
        replace hall := hide hall
        replace hst := hide hst
        replace hmay := hide hmay
        replace hno := hide hno
        clear hm
        go_wp2_with fail
        refine hmay.out.mono ?_
        rintro e w1 ⟨rfl, rfl⟩
        go_wp2_with fail
        go_ret
        rw [hw.out]
        exact ⟨rfl, fin.out⟩
end Go.Proofs.Ytohphanbnhiodaa

/- loggia/disk: Sync, Rename, Remove: what they do to the file. -/
namespace Go.Proofs.Ytohphanbnhiodaa
open Go.RowKit Go.Maps

section
variable {w W : World} {base d m : Nat} {P : PD} {E : List Ent} {e0 x : Ent}
theorem DE.got (h : DE w base d m P E) (he : e0 ∈ E) : GotD w w base E e0.name true e0 := ⟨rfl, h.fs.ok e0 he, h.lens e0 he, fun _ => he, nofun⟩
/-- A file whose count of durable bytes has turned. -/
theorem sync_end {L : List PF} (hD : DE w base d m (P.goes P.L) E) (he : e0 ∈ E) :
    WPost (Foot d m E) base d m E (P.goes (withG fname (e0.name, e0.b, e0.b.length) P.L)) w (w.setCell ⟨e0.f, 1, none⟩ (.int .i64 e0.b.length)) := by
  obtain ⟨W, hW⟩ : ∃ W, W = w.setCell ⟨e0.f, 1, none⟩ (.int .i64 e0.b.length) := ⟨_, rfl⟩
  rw [← hW]
  have hc : Chg (fun k => k = e0.f) w W := by rw [hW]; exact Chg.of_set w (a := ⟨e0.f, 1, none⟩) _ rfl
  have hG := hD.got he
  have hok := hD.fs.ok e0 he
  obtain ⟨e1, he1⟩ : ∃ e1 : Ent, e1 = { e0 with sure := e0.b.length } := ⟨_, rfl⟩
  obtain ⟨L, hL, hmem, _⟩ := hD.fs.map
  have hm0 := hok.ne_map hL
  have hok1 : EOk W base e1 := by
    rw [he1]
    refine ⟨?_, hok.buf.chg hc fun a ha h => hok.fa hok a ha h.symm, hok.low, Nat.le_refl _⟩
    rw [hW]
    exact hok.row.put 1 _
  refine ⟨withG Ent.name e1 E, hD.put ?_ ⟨L, hL.keep (hc.block m hL.lt fun h => hm0.1 h.symm), hD.mapSame hmem he (by rw [he1]) (by rw [he1])⟩ ?_ hok1 (by rw [he1]; exact hD.fs.short e0 he) (by rw [he1]; exact hD.lens e0 he) ?_ ?_ hD.hq hD.ha, hc.mono fun k _ hk => .inr (.inr ⟨e0, he, .inl hk⟩), ?_⟩
  · exact hc.row hD.row (Row.unlike hD.row hok.row (by decide))
  · intro x hx hn
    rw [he1] at hn
    obtain ⟨h1, h2⟩ := hG.far hD hx hn
    have hokx := hD.fs.ok x hx
    refine ⟨hokx.keep (hc.block _ hokx.row.lt h1) fun a ha => hc.block _ (hokx.buf.lt a ha) fun h => hok.fa hokx a ha h.symm, by rw [he1]; exact h1, by rw [he1]; exact h2⟩
  · refine Nat.le_trans (len_with_in he (by rw [he1])) hD.cnt
  · rw [he1]
    rfl
  · intro k hk
    rcases foot_with hk with h | h | ⟨a, ha, h⟩
    · exact .inl h
    · rw [he1] at h
      exact .inl (.inr (.inr ⟨e0, he, .inl h⟩))
    · rw [he1] at ha
      exact .inl (.inr (.inr ⟨e0, he, .inr ⟨a, ha, h⟩⟩))
/-- A file dropped from the map. -/
theorem drop_end {s : List UInt8} (hD : DE w base d m (P.goes P.L) E) {L L' : List (Value × Value)} (hmem : ∀ p, p ∈ L ↔ ∃ e ∈ E, p = e.kv) (hL : MapL Try.prog 9 w m L)
    (hL' : MapL Try.prog 9 W m L') (hp : ∀ p, p ∈ L' ↔ p ∈ L ∧ p.1 ≠ str s) (hg : w.grownBy W (some m)) :
    WPost (Foot d m E) base d m E (P.goes (withoutG fname s P.L)) w W ∧ DE W base d m (P.goes (withoutG fname s P.L)) (withoutG Ent.name s E) ∧ Chg (fun k => k = m) w W := by
  have hc : Chg (fun k => k = m) w W := Chg.of_grown hg fun k _ hk => by cases hk; rfl
  have hDE : DE W base d m (P.goes (withoutG fname s P.L)) (withoutG Ent.name s E) := hD.drop s (hc.row hD.row hD.apart.1) ⟨L', hL', DE.mapDrop hmem hp⟩ (fun x hx => by
    have hokx := hD.fs.ok x hx
    have hmx := hokx.ne_map hL
    exact hokx.keep (hc.block _ hokx.row.lt hmx.1) fun a ha => hc.block _ (hokx.buf.lt a ha) (hmx.2 a ha)) rfl hD.hq hD.ha
  exact ⟨⟨_, hDE, hc.mono fun k _ hk => .inr (.inl hk), fun k hk => .inl (foot_without hk)⟩, hDE, hc⟩
/-- A file dropped, and put under another name. -/
theorem rename_end {w1 w2 : World} {s t : List UInt8} (hD : DE w base d m (P.goes P.L) E) (he : e0 ∈ E) (hn : e0.name = s) (ht : t.length ≤ 9223372036854775807) {L L1 L2 : List (Value × Value)} (hmem : ∀ p, p ∈ L ↔ ∃ e ∈ E, p = e.kv) (hL : MapL Try.prog 9 w m L)
    (hL1 : MapL Try.prog 9 w1 m L1) (hp : ∀ p, p ∈ L1 ↔ p ∈ L ∧ p.1 ≠ str s) (hg1 : w.grownBy w1 (some m)) (hL2 : MapL Try.prog 9 w2 m L2) (hput : Put L1 (str t) (.pointer (some ⟨e0.f, 0, none⟩)) L2) (hg2 : w1.grownBy w2 (some m)) :
    WPost (Foot d m E) base d m E (P.goes (withG fname (t, e0.b, e0.sure) (withoutG fname s P.L))) w w2 := by
  obtain ⟨_, hD1, hc1⟩ := drop_end hD hmem hL hL1 hp hg1
  have hc2 : Chg (fun k => k = m) w1 w2 := Chg.of_grown hg2 fun k _ hk => by cases hk; rfl
  have hmem1 := DE.mapDrop hmem hp
  have hG := hD.got he
  have hok := hD.fs.ok e0 he
  have hm0 := hok.ne_map hL
  obtain ⟨e1, he1⟩ : ∃ e1 : Ent, e1 = { e0 with name := t } := ⟨_, rfl⟩
  have hc : Chg (fun k => k = m) w w2 := hc1.trans hc2 fun _ _ h => h
  have hok1 : EOk w2 base e1 := by
    rw [he1]
    exact ⟨hc.row hok.row hm0.1, hok.buf.chg hc fun a ha h => hm0.2 a ha h, hok.low, hok.sure⟩
  refine ⟨withG Ent.name e1 (withoutG Ent.name s E), hD1.put ?_ ⟨L2, hL2, hD1.mapPut hmem1 ?_⟩ ?_ hok1 (by rw [he1]; exact ht) (by rw [he1]; exact hD.lens e0 he) ?_ ?_ hD.hq hD.ha, hc.mono fun k _ hk => .inr (.inl hk), ?_⟩
  · exact hc.row hD.row hD.apart.1
  · rw [he1]
    exact hput
  · intro x hx hxn
    obtain ⟨hxE, hxs⟩ := mem_without.1 hx
    obtain ⟨h1, h2⟩ := hG.far hD hxE (by rw [hn]; exact hxs)
    have hokx := hD.fs.ok x hxE
    have hmx := hokx.ne_map hL
    refine ⟨hokx.keep (hc.block _ hokx.row.lt hmx.1) fun a ha => hc.block _ (hokx.buf.lt a ha) (hmx.2 a ha), by rw [he1]; exact h1, by rw [he1]; exact h2⟩
  · have h1 := len_with_le (nm := Ent.name) e1 (withoutG Ent.name s E)
    have h2 := len_without_lt (nm := Ent.name) he hn
    have := hD.cnt
    omega
  · rw [he1]
    rfl
  · intro k hk
    rcases foot_with hk with h | h | ⟨a, ha, h⟩
    · exact .inl (foot_without h)
    · rw [he1] at h
      exact .inl (.inr (.inr ⟨e0, he, .inl h⟩))
    · rw [he1] at ha
      exact .inl (.inr (.inr ⟨e0, he, .inr ⟨a, ha, h⟩⟩))
end
end Go.Proofs.Ytohphanbnhiodaa

/- loggia/disk: Sync, Rename, Remove. -/
namespace Go.Proofs.Ytohphanbnhiodaa
open Go.RowKit Go.Maps

set_option maxRecDepth 100000 in
theorem sync1_any (base d m : Nat) (P : PD) (E : List Ent) (e0 : Ent) (w : World) (hD : DE w base d m (P.goes P.L) E) (he : e0 ∈ E) :
    Calls Try.prog 56 #[.pointer (some ⟨e0.f, 0, none⟩)] w fun e w' => e = .returned (.tuple #[]) ∧ WPost (Foot d m E) base d m E (P.goes (withG fname (e0.name, e0.b, e0.b.length) P.L)) w w' := by
  have hr := (hD.fs.ok e0 he).row
  have c0 : w.cell? ⟨e0.f, 0, none⟩ = some (.slice e0.A e0.b.length e0.c) := hr.cell 0 rfl
  have c1 : w.cell? ⟨e0.f, 1, none⟩ = some (.int .i64 e0.sure) := hr.cell 1 rfl
  have f1 := hr.free 1
  have fin := sync_end (L := []) hD he
  replace fin := hide fin
  go_enter Try.func56, Try.ntmps56
  go_wp2_with fail
  go_end0
  exact ⟨rfl, fin.out⟩
theorem calls_fn (k : Nat) (h : ∀ (args : Array Value) (W : World), (callFunc k args).run Try.prog W = .ok (.enter k args) W) : ∀ (args : Array Value) (W : World), (callFunc k args).run Try.prog W = .ok (.enter k args) W := h
theorem ws_nil {d m : Nat} {E : List Ent} {i : Nat} (h : WS d m E none i) : Foot d m E i := by
  rcases h with h | ⟨a, ha, _⟩
  · exact h
  · cases ha
theorem WPost.mono {S S' : Nat → Prop} {base d m : Nat} {E : List Ent} {P : PD} {w w' : World} (h : WPost S base d m E P w w') (hs : ∀ i, i < w.heap.size → S i → S' i) : WPost S' base d m E P w w' := by
  obtain ⟨E', h1, h2, h3⟩ := h
  exact ⟨E', h1, h2.mono hs, h3⟩
theorem WPost.next {base d m : Nat} {E : List Ent} {P P' : PD} {F : Nat → Prop} {w w1 w' : World} (h : WPost (Foot d m E) base d m E P' w1 w') (hS : DS w base d P F) (hF : ∀ k, F k ↔ Foot d m E k) (he : Ext w w1) : DNext base d F w P' w' := by
  obtain ⟨E', h1, h2, h3⟩ := h
  exact hS.next hF h1 ((Chg.of_ext he (Foot d m E)).trans h2 fun _ _ h => h) fun k hk => (h3 k hk).imp_right fun h => Nat.le_trans he.size h
set_option maxRecDepth 100000 in
theorem sync_any (base d : Nat) (P : PD) (F : Nat → Prop) (s : List UInt8) (w : World) (h : DS w base d P F) (hs : s.length ≤ 9223372036854775807) :
    Calls Try.prog 34 #[.pointer (some ⟨d, 0, none⟩), str s] w fun e w' => e = .returned (.int .i64 (syncM P s).2) ∧ DNext base d F w (syncM P s).1 w' := by
  have hS := h
  obtain ⟨m, E, hD, hF⟩ := h
  have hw := writes_any base d m w.heap.size P E s [] 56 #[] (fun f => withG fname (f.1, f.2.1, f.2.1.length) P.L) none 0 0 w hD hs (by simp) rfl (by omega) (Nat.le_refl _) (World.ownsRow_nil _ _ _ _) nofun (fun args W => by kernel_rfl)
    (fun w1 e0 he hn _ hD1 => sync1_any base d m P E e0 w1 hD1 he)
  have hsy : syncM P s = writesM P ([] ++ [s]) s (fun f => withG fname (f.1, f.2.1, f.2.1.length) P.L) := rfl
  rw [← hsy] at hw
  unfold str at hw ⊢
  replace hw := hide hw
  clear hsy
  go_enter Try.func34, Try.ntmps34
  go_wp2_with fail
  refine hw.out.mono ?_
  rintro e w1 ⟨rfl, h1⟩
  go_wp2_with fail
  go_ret
  exact ⟨rfl, (h1.mono fun i _ hi => ws_nil hi).next hS hF (Ext.refl _)⟩
theorem grown_of_drew {w w1 : World} {r : Option Nat} (h : w.drew.grownBy w1 r) : w.grownBy w1 r := ⟨h.os, h.tape, h.output, h.size, h.block⟩
set_option maxRecDepth 100000 in
theorem remove1_any (base d m bd bn : Nat) (P : PD) (E : List Ent) (s : List UInt8) (w : World) (hD : DE w base d m (P.goes P.L) E) (hs : s.length ≤ 9223372036854775807) (f : Value) (hd : w.cell? ⟨bd, 0, none⟩ = some (.pointer (some ⟨d, 0, none⟩))) (hn : w.cell? ⟨bn, 0, none⟩ = some (str s)) :
    Calls Try.prog 64 #[f, .pointer (some ⟨bd, 0, none⟩), .pointer (some ⟨bn, 0, none⟩)] w fun e w' => e = .returned (.tuple #[]) ∧ WPost (Foot d m E) base d m E (P.goes (withoutG fname s P.L)) w w' := by
  obtain ⟨L, hL, hmem, _⟩ := hD.fs.map
  have c0 : w.cell? ⟨d, 0, none⟩ = some (.map (some m)) := Row.cell hD.row 0 rfl
  obtain ⟨L', w1, hrun, hL', hp, hg, _⟩ := hL.drew.delete keyS Try.underlying78 (key_str hs) 9 0
  have fin := (drop_end (W := w1) hD hmem hL hL' hp (grown_of_drew hg)).1
  unfold str at hrun hn
  replace fin := hide fin
  clear hL' hp hg hL
  go_enter Try.func64, Try.ntmps64
  refine wp_region_text follows (by kernel_rfl) (by kernel_rfl) (fun K hK => ?_)
  go_wp2_with fail
  refine ⟨by kernel_rfl, ?_⟩
  go_wp2_with fail
  go_end0
  exact ⟨rfl, fin.out⟩
end Go.Proofs.Ytohphanbnhiodaa

/- loggia/disk: Rename, Remove. -/
namespace Go.Proofs.Ytohphanbnhiodaa
open Go.RowKit Go.Maps

theorem cell_alloc (w : World) (v : Value) (t : TypeId) : (w.alloc (.cells #[v] t)).cell? ⟨w.heap.size, 0, none⟩ = some v := by
  rw [cell_of_row _ _ _ _ _ _ (heap_alloc_new w _)]
  rfl
theorem size_alloc (w : World) (o : Obj) : (w.alloc o).heap.size = w.heap.size + 1 := by simp
set_option maxRecDepth 100000 in
theorem remove_any (base d : Nat) (P : PD) (F : Nat → Prop) (s : List UInt8) (w : World) (h : DS w base d P F) (hs : s.length ≤ 9223372036854775807) :
    Calls Try.prog 41 #[.pointer (some ⟨d, 0, none⟩), str s] w fun e w' => e = .returned (.int .i64 (removeM P s).2) ∧ DNext base d F w (removeM P s).1 w' := by
  have hS := h
  obtain ⟨m, E, hD0, hF⟩ := h
  obtain ⟨W1, hW1⟩ : ∃ W1, W1 = w.alloc (.cells #[.pointer (some ⟨d, 0, none⟩)] 41) := ⟨_, rfl⟩
  obtain ⟨W2, hW2⟩ : ∃ W2, W2 = W1.alloc (.cells #[str s] 9) := ⟨_, rfl⟩
  have hE1 : Ext w W1 := by rw [hW1]; exact (Ext.refl w).alloc _
  have hE2 : Ext W1 W2 := by rw [hW2]; exact (Ext.refl W1).alloc _
  have hs1 : W1.heap.size = w.heap.size + 1 := by rw [hW1]; exact size_alloc _ _
  have c1 : W1.cell? ⟨w.heap.size, 0, none⟩ = some (.pointer (some ⟨d, 0, none⟩)) := by rw [hW1]; exact cell_alloc _ _ _
  have c2 : W2.cell? ⟨w.heap.size + 1, 0, none⟩ = some (str s) := by rw [hW2, ← hs1]; exact cell_alloc _ _ _
  have c1' := hE2.cell c1
  have hD : DE W2 base d m P E := hD0.chg (Chg.of_ext (hE1.trans hE2) (fun _ => False)) (fun _ h => h.elim)
  have hnf : ∀ k, w.heap.size ≤ k → ¬ Foot d m E k := fun k hk hf => by have := hD0.lt hf; omega
  have hw := writes_any base d m W2.heap.size P E s [] 64 #[.pointer (some ⟨w.heap.size, 0, none⟩), .pointer (some ⟨w.heap.size + 1, 0, none⟩)] (fun _ => withoutG fname s P.L) none 0 0 W2 hD hs (by simp) rfl (by omega) (Nat.le_refl _) (World.ownsRow_nil _ _ _ _) nofun (fun args W => by kernel_rfl)
    (fun w1 e0 he hn hc hD1 => remove1_any base d m _ _ P E s w1 hD1 hs _ (hc.cell c1' fun hk => hnf _ (Nat.le_refl _) (ws_nil hk)) (hc.cell c2 fun hk => hnf _ (Nat.le_succ _) (ws_nil hk)))
  have hsy : removeM P s = writesM P ([] ++ [s]) s (fun _ => withoutG fname s P.L) := rfl
  rw [← hsy] at hw
  have hE := hE1.trans hE2
  rw [hW2, hW1] at hw hE
  unfold str at hw hE ⊢
  replace hw := hide hw
  clear hsy hW1 hW2 c1' c1 c2 hs1 hD hE1 hE2
  go_enter Try.func41, Try.ntmps41
  go_wp2_with fail
  refine hw.out.mono ?_
  rintro e w1 ⟨rfl, h1⟩
  go_wp2_with fail
  go_ret
  exact ⟨rfl, (h1.mono fun i _ hi => ws_nil hi).next hS hF hE⟩
end Go.Proofs.Ytohphanbnhiodaa

/- loggia/disk: Restart, what it needs. -/
namespace Go.Proofs.Ytohphanbnhiodaa
open Go.RowKit Go.Maps

/-- How many bytes are left of a file. -/
def Ent.left (e : Ent) (k : Option Int) : Nat := leftM e.pl k
def Ent.cut (e : Ent) (n : Nat) : Ent := { e with b := e.b.take n, sure := n, c := n }
def keptE (E : List Ent) (keep : List Int) : List Ent := E.mapIdx fun j e => e.cut (e.left keep[j]?)
theorem left_le (e : Ent) (h : e.sure ≤ e.b.length) (k : Option Int) : e.left k ≤ e.b.length := by
  cases k with
  | none => exact h
  | some k =>
    show e.sure + (k % ((e.b.length : Int) - e.sure + 1)).toNat ≤ e.b.length
    have h1 := Int.emod_nonneg k (show (e.b.length : Int) - e.sure + 1 ≠ 0 by omega)
    have h2 := Int.emod_lt_of_pos k (show 0 < (e.b.length : Int) - e.sure + 1 by omega)
    omega
theorem kept_get {E : List Ent} {keep : List Int} {j : Nat} {x : Ent} (h : (keptE E keep)[j]? = some x) : ∃ e : Ent, E[j]? = some e ∧ x = e.cut (e.left keep[j]?) := by
  unfold keptE at h
  rw [List.getElem?_mapIdx] at h
  cases he : E[j]? with
  | none => rw [he] at h; cases h
  | some e =>
    rw [he] at h
    exact ⟨e, rfl, (Option.some.inj h).symm⟩
theorem kept_pl (E : List Ent) (keep : List Int) : (keptE E keep).map Ent.pl = keptM (E.map Ent.pl) keep := by
  apply List.ext_getElem?
  intro j
  unfold keptE keptM
  rw [List.getElem?_map, List.getElem?_mapIdx, List.getElem?_mapIdx, List.getElem?_map]
  cases E[j]? <;> rfl
theorem kept_mem {E : List Ent} {keep : List Int} {x : Ent} (h : x ∈ keptE E keep) : ∃ (j : Nat) (e : Ent), E[j]? = some e ∧ x = e.cut (e.left keep[j]?) := by
  obtain ⟨j, hj⟩ := List.getElem?_of_mem h
  obtain ⟨e, he, hx⟩ := kept_get hj
  exact ⟨j, e, he, hx⟩
theorem kept_pw {R : Ent → Ent → Prop} {E : List Ent} {keep : List Int} (h : E.Pairwise R) (hr : ∀ a b i k, R a b → R (a.cut i) (b.cut k)) : (keptE E keep).Pairwise R := by
  rw [List.pairwise_iff_getElem] at h ⊢
  intro i j hi hj hij
  have hl : (keptE E keep).length = E.length := by unfold keptE; simp
  have hg : ∀ (i : Nat) (hi : i < (keptE E keep).length), (keptE E keep)[i] = (E[i]'(by omega)).cut ((E[i]'(by omega)).left keep[i]?) := fun i hi => List.getElem_mapIdx ..
  rw [hg i hi, hg j hj]
  exact hr _ _ _ _ (h i j (by omega) (by omega) hij)
theorem kept_len (E : List Ent) (keep : List Int) : (keptE E keep).length = E.length := by unfold keptE; simp
theorem kept_in {E : List Ent} {keep : List Int} {e : Ent} (h : e ∈ E) : ∃ n, e.cut n ∈ keptE E keep := by
  obtain ⟨j, hj⟩ := List.getElem?_of_mem h
  refine ⟨e.left keep[j]?, List.mem_of_getElem? (i := j) ?_⟩
  unfold keptE
  rw [List.getElem?_mapIdx, hj]
  rfl
/-- Where Restart has come to: the first i files are cut. -/
structure Cut (w wr : World) (base m : Nat) (E : List Ent) (keep : List Int) (i : Nat) : Prop where
  chg : Chg (fun k => ∃ e ∈ E, k = e.f) w wr
  now : ∀ j e, E[j]? = some e → Row wr e.f 94 (if j < i then #[.slice e.A (e.left keep[j]?) (e.left keep[j]?), .int .i64 (e.left keep[j]?)] else #[.slice e.A e.b.length e.c, .int .i64 e.sure])
section
variable {w wr w1 : World} {base d m : Nat} {P : PD} {E : List Ent} {keep : List Int}
theorem Cut.start (hD : DE w base d m P E) : Cut w w base m E keep 0 := ⟨Chg.refl _ _, fun j e h => by
  rw [if_neg (by omega)]
  exact (hD.fs.ok e (List.mem_of_getElem? h)).row⟩
theorem Cut.step {i : Nat} {e : Ent} (hD : DE w base d m P E) (h : Cut w wr base m E keep i) (he : E[i]? = some e) {v : Value} (hv : v = .slice e.A (e.left keep[i]?) (e.left keep[i]?)) {u : Value} (hu : u = .int .i64 (e.left keep[i]?)) :
    Cut w ((wr.setCell ⟨e.f, 0, none⟩ v).setCell ⟨e.f, 1, none⟩ u) base m E keep (i + 1) := by
  subst hv hu
  have hm := List.mem_of_getElem? he
  refine ⟨(h.chg.trans (Chg.of_set (S := fun k => k = e.f) wr (a := ⟨e.f, 0, none⟩) _ rfl) fun k _ hk => ⟨e, hm, hk⟩).trans (Chg.of_set (S := fun k => k = e.f) _ (a := ⟨e.f, 1, none⟩) _ rfl) fun k _ hk => ⟨e, hm, hk⟩, fun j x hx => ?_⟩
  have hr := h.now j x hx
  by_cases hji : j = i
  · subst hji
    obtain rfl : x = e := Option.some.inj (hx.symm.trans he)
    rw [if_neg (by omega)] at hr
    rw [if_pos (by omega)]
    exact (hr.put 0 _).put 1 _
  · have hne : x.f ≠ e.f := by
      have hjl := (List.getElem?_eq_some_iff.1 hx)
      have hil := (List.getElem?_eq_some_iff.1 he)
      obtain ⟨hj1, hj2⟩ := hjl
      obtain ⟨hi1, hi2⟩ := hil
      have hp := List.pairwise_iff_getElem.1 hD.fs.fd
      rcases Nat.lt_or_gt_of_ne hji with hlt | hlt
      · have := hp j i hj1 hi1 hlt
        rw [hj2, hi2] at this
        exact this
      · have := hp i j hi1 hj1 hlt
        rw [hj2, hi2] at this
        exact fun hh => this hh.symm
    by_cases hlt : j < i
    · rw [if_pos hlt] at hr
      rw [if_pos (by omega)]
      exact (hr.away (p := ⟨e.f, 0, none⟩) hne _).away (p := ⟨e.f, 1, none⟩) hne _
    · rw [if_neg hlt] at hr
      rw [if_neg (by omega)]
      exact (hr.away (p := ⟨e.f, 0, none⟩) hne _).away (p := ⟨e.f, 1, none⟩) hne _
theorem cut_end (hD : DE w base d m P E) (h : Cut w wr base m E keep E.length) {wf : World} (hf : wf = (wr.setCell ⟨d, 3, none⟩ (.bool false)).setCell ⟨d, 2, none⟩ (.int .i64 0)) :
    DE wf base d m (restartM P keep) (keptE E keep) ∧ Chg (Foot d m E) w wf ∧ ∀ k, Foot d m (keptE E keep) k → Foot d m E k := by
  have hap := hD.apart
  have hcd : Chg (fun k => k = d) wr wf := by
    rw [hf]
    exact (Chg.of_set (S := fun k => k = d) wr (a := ⟨d, 3, none⟩) _ rfl).trans (Chg.of_set (S := fun k => k = d) _ (a := ⟨d, 2, none⟩) _ rfl) fun _ _ h => h
  obtain ⟨L, hL, hmem, _⟩ := hD.fs.map
  have hrow : DRow wf d m P.quota 0 false := by
    have h1 : Row wr d 80 _ := h.chg.row hD.row fun ⟨e, he, hh⟩ => (hap.2 e he).1 hh
    rw [hf]
    exact (h1.put 3 _).put 2 _
  have hup : Up Ent.name (keptE E keep) := kept_pw hD.up fun _ _ _ _ h => h
  refine ⟨⟨hrow, ⟨⟨L, hL.keep ((hcd.block m (Nat.lt_of_lt_of_le hL.lt h.chg.size) fun hh => hap.1 hh.symm).trans (h.chg.block m hL.lt fun ⟨e, he, hh⟩ => ((hD.fs.ok e he).ne_map hL).1 hh.symm)), ?_, ?_⟩, ?_, hD.fs.low, hup.nodup, ?_, kept_pw hD.fs.fd fun _ _ _ _ h => h, kept_pw hD.fs.ad fun _ _ _ _ h => h⟩, hD.low, hup, by rw [kept_len]; exact hD.cnt, ?_, ?_, hD.hq, by show 0 ≤ _; omega⟩, ?_, ?_⟩
  · intro p
    rw [hmem]
    constructor
    · rintro ⟨e, he, rfl⟩
      obtain ⟨n, hn⟩ := kept_in (keep := keep) he
      exact ⟨_, hn, rfl⟩
    · rintro ⟨x, hx, rfl⟩
      obtain ⟨j, e, he, rfl⟩ := kept_mem hx
      exact ⟨e, List.mem_of_getElem? he, rfl⟩
  · rw [kept_len]
    exact kv_len hL hD.up hmem
  · intro x hx
    obtain ⟨j, e, he, rfl⟩ := kept_mem hx
    have hm := List.mem_of_getElem? he
    have hok := hD.fs.ok e hm
    have hj : j < E.length := (List.getElem?_eq_some_iff.1 he).1
    have hr := h.now j e he
    rw [if_pos hj] at hr
    have hle := left_le e hok.sure keep[j]?
    have hlen : (e.b.take (e.left keep[j]?)).length = e.left keep[j]? := by rw [List.length_take]; omega
    refine ⟨?_, ?_, hok.low, ?_⟩
    · show Row wf e.f _ #[.slice e.A (e.b.take (e.left keep[j]?)).length (e.left keep[j]?), .int .i64 (e.left keep[j]?)]
      rw [hlen]
      exact hcd.row hr fun hh => (hap.2 e hm).1 hh.symm
    · show Buf wf base 5 e.A (e.b.take (e.left keep[j]?)).length (e.left keep[j]?) ((e.b.take (e.left keep[j]?)).map B8)
      rw [hlen, List.map_take]
      have hb := hok.buf.cut (m := e.left keep[j]?) (k := e.left keep[j]?) hle (Nat.le_refl _) (Nat.le_trans hle hok.buf.2.1)
      refine (hb.chg h.chg ?_).chg hcd ?_
      · rintro a ha ⟨e', he', hh⟩
        exact (hD.fs.ok e' he').fa hok a ha hh.symm
      · intro a ha hh
        exact (hap.2 e hm).2 a ha hh.symm
    · show e.left keep[j]? ≤ (e.b.take (e.left keep[j]?)).length
      rw [hlen]
      exact Nat.le_refl _
  · intro x hx
    obtain ⟨j, e, he, rfl⟩ := kept_mem hx
    exact hD.fs.short e (List.mem_of_getElem? he)
  · intro x hx
    obtain ⟨j, e, he, rfl⟩ := kept_mem hx
    show (e.b.take (e.left keep[j]?)).length ≤ 67108864
    rw [List.length_take]
    have := hD.lens e (List.mem_of_getElem? he)
    omega
  · rw [kept_pl, hD.pl]
    rfl
  · refine (h.chg.mono (S' := Foot d m E) fun k _ ⟨e, he, hk⟩ => .inr (.inr ⟨e, he, .inl hk⟩)).trans hcd fun k _ hk => .inl hk
  · rintro k (h | h | ⟨x, hx, h⟩)
    · exact .inl h
    · exact .inr (.inl h)
    · obtain ⟨j, e, he, rfl⟩ := kept_mem hx
      exact .inr (.inr ⟨e, List.mem_of_getElem? he, h⟩)
end
set_option maxRecDepth 100000 in
/-- x[:n:n] -/
theorem run_cut {t e n c k : Nat} {A : Option Addr} (ht : Try.prog.underlying t = some (.slice e)) (hs : ∀ W : World, (sizeOf e).run Try.prog W = .ok 1 W) (h : k ≤ c) (hA : ∀ a, A = some a → a.spot = none) (W : World) :
    (Instr.sliceAt t (.slice A n c) none (some (.int .i64 k)) (some (.int .i64 k))).run Try.prog W = .ok (.slice A k k) W := by
  have he : Try.prog.elem t = e := by unfold Program.elem; rw [ht]
  rw [run_sliceAt_slice W t _ _ _ _ (by rw [ht, he]), run_slice_hm W t A n c (by rw [ht, he]) .i64 .i64 k k (by omega) (by omega) (by omega), he, hs]
  simp only [Result.andThen_ok]
  congr 1
  unfold sliced
  have : (if ((k : Int).toNat) = 0 then A else A.map fun x => x.add (0 * 1)) = A := by
    cases A with
    | none => simp
    | some a =>
      obtain ⟨b, o, sp⟩ := a
      obtain rfl : sp = none := hA _ rfl
      simp [Addr.add_lit]
  rw [this]
  simp
end Go.Proofs.Ytohphanbnhiodaa

/- loggia/disk: Restart. -/
namespace Go.Proofs.Ytohphanbnhiodaa
open Go.RowKit Go.Maps

theorem DE.lookup1 {w : World} {base d m : Nat} {P : PD} {E : List Ent} {e : Ent} (h : DE w base d m P E) (he : e ∈ E) (W : World) (hW : W.heap[m]? = w.heap[m]?) :
    (Instr.lookup 78 (.map (some m)) (str e.name) false).run Try.prog W = .ok (.pointer (some ⟨e.f, 0, none⟩)) W := by
  obtain ⟨L, hL, hmem, _⟩ := h.fs.map
  rcases (hL.keep hW).look keyS Try.underlying78 (x := str e.name) (z := .pointer none) (key_str (h.fs.short e he)) (by kernel_rfl) false with ⟨v, hv, hrun⟩ | ⟨hno, hrun⟩
  · have : v = .pointer (some ⟨e.f, 0, none⟩) := (hL.keep hW).unique hv ((hmem e.kv).2 ⟨e, he, rfl⟩)
    rw [this] at hrun
    exact hrun
  · exact (hno e.kv ((hmem _).2 ⟨e, he, rfl⟩) rfl).elim
theorem Cut.drew {w wr : World} {base m : Nat} {E : List Ent} {keep : List Int} {i : Nat} (h : Cut w wr base m E keep i) : Cut w wr.drew base m E keep i :=
  ⟨h.chg.trans (Chg.of_ext (Ext.refl wr).drew (fun _ => False)) (fun _ _ h => h.elim), fun j e he => (h.now j e he).drew⟩
def I64 (k : Int) : Value := .int .i64 k
theorem tmod_is (k m : Int) (hm : 0 < m) : k.tmod m = k % m ∨ (k.tmod m = k % m - m ∧ k % m ≠ 0) := by
  rw [Int.tmod_eq_emod]
  have hn : (m.natAbs : Int) = m := by omega
  by_cases h3 : 0 ≤ k ∨ m ∣ k
  · rw [if_pos h3]
    exact .inl (by omega)
  · rw [if_neg h3, hn]
    exact .inr ⟨rfl, fun h => h3 (.inr (Int.dvd_of_emod_eq_zero h))⟩
theorem tmod_bd (k m : Int) (hm : 0 < m) : -m < k.tmod m ∧ k.tmod m < m := by
  have h1 := Int.emod_nonneg k (show m ≠ 0 by omega)
  have h2 := Int.emod_lt_of_pos k hm
  rcases tmod_is k m hm with h | ⟨h, h3⟩ <;> omega
/-- What Go's way of reckoning it gives. -/
theorem go_mod (k m : Int) (hm : 0 < m) : (k.tmod m + m).tmod m = k % m := by
  have hb := tmod_bd k m hm
  rw [Int.tmod_eq_emod_of_nonneg (by omega), Int.add_emod_right]
  rcases tmod_is k m hm with h | ⟨h, _⟩
  · rw [h, Int.emod_emod]
  · rw [h, Int.sub_emod_right, Int.emod_emod]
set_option maxRecDepth 100000 in
set_option maxHeartbeats 2000000 in
theorem restart_any0 (base d : Nat) (P : PD) (F : Nat → Prop) (K : Option Addr) (kn kc : Nat) (keep : List Int) (w : World) (h : DS w base d P F) (hK : Cells w K (keep.map I64)) (hKF : keep ≠ [] → ∀ a, K = some a → ¬ F a.block) (hkn : kn = keep.length)
    (hkb : ∀ k ∈ keep, -9223372036854775808 ≤ k ∧ k ≤ 9223372036854775807) (hkl : kn ≤ 9223372036854775807) :
    Calls Try.prog 20 #[.pointer (some ⟨d, 0, none⟩), .slice K kn kc] w fun e w' => e = .returned (.tuple #[]) ∧ DNext base d F w (restartM P keep) w' := by
  have hS := h
  obtain ⟨m, E, hD, hF⟩ := h
  have h0 := none_any d m P.quota P.armed P.stopped w hD.row
  have hnm := names_any base d m P.quota P.armed P.stopped E w hD.row hD.fs hD.cnt
  rw [sortN_eq hD.up.le] at hnm
  replace h0 := hide h0
  replace hnm := hide hnm
  replace hkn := hide hkn
  go_enter Try.func20, Try.ntmps20
  go_wp2_with fail
  refine h0.out.mono ?_
  rintro e w1 ⟨rfl, rfl⟩
  go_wp2_with fail
  refine hnm.out.mono ?_
  rintro e w2 ⟨A, n, c, rfl, hn, hbuf, hE⟩
  have hD2 : DE w2 base d m P E := hD.chg (Chg.of_ext hE (fun _ => False)) (fun _ h => h.elim)
  have hnc := hD.cnt
  have hn2 : n ≤ 1024 := by omega
  have hst := Cut.start (keep := keep) hD2
  replace hn := hide hn
  go_wp2_with fail
  go_loopw [14] (fun s14 wr => ∃ i : Nat, s14 = .int .i64 i ∧ i ≤ n ∧ Hid (Cut w2 wr base m E keep i)) (fun s14 _ => n - (intOf s14).toNat)
  case atStart => exact ⟨0, rfl, by omega, hide hst⟩
  case round =>
    obtain ⟨i, rfl, hi, hcut⟩ := hrel
    by_cases hin : i < n
    · have hil : i < E.length := by rw [← hn.out]; exact hin
      obtain ⟨e, he⟩ : ∃ e, E[i]? = some e := ⟨_, List.getElem?_eq_getElem hil⟩
      have hm := List.mem_of_getElem? he
      have hc := hcut.out.chg
      have hap := hD2.apart
      obtain ⟨g, o, rfl, hcl⟩ := hbuf.cells.at_ (by rw [List.length_map, List.length_map]; omega)
      have hgb : w1.heap.size ≤ g := hbuf.base_le _ rfl
      have cn : w2.cell? ⟨g, o + i, none⟩ = some (str e.name) := hcl i _ (by simp [he])
      have cnr : wr.cell? ⟨g, o + i, none⟩ = some (str e.name) := hc.cell cn fun ⟨e', he', hh⟩ => by
        have h1 := (hD.fs.ok e' he').row.lt
        have h2 : g = e'.f := hh
        omega
      have c0 : wr.cell? ⟨d, 0, none⟩ = some (.map (some m)) := (Chg.row hc hD2.row fun ⟨e', he', hh⟩ => (hap.2 e' he').1 hh).cell 0 rfl
      have hmb : wr.heap[m]? = w2.heap[m]? := by
        obtain ⟨L, hL, hmem, _⟩ := hD2.fs.map
        exact hc.block m hL.lt fun ⟨e', he', hh⟩ => ((hD2.fs.ok e' he').ne_map hL).1 hh.symm
      have hlk := hD2.lookup1 hm wr hmb
      have hr := hcut.out.now i e he
      rw [if_neg (by omega)] at hr
      have cf0 : wr.cell? ⟨e.f, 0, none⟩ = some (.slice e.A e.b.length e.c) := hr.cell 0 rfl
      have cf1 : wr.cell? ⟨e.f, 1, none⟩ = some (.int .i64 e.sure) := hr.cell 1 rfl
      have f0 := hr.free 0
      have f1 := hr.free 1
      have hok := hD2.fs.ok e hm
      have hsu := hok.sure
      have hbl := hD2.lens e hm
      have hbc := hok.buf.2.1
      have hsp : ∀ a, e.A = some a → a.spot = none := by
        intro a hA
        rcases hok.buf.2.2 with h | ⟨g, cur, hg, _⟩
        · rw [hA] at h; cases h.1
        · rw [hA] at hg; cases hg; rfl
      obtain ⟨left, hleft⟩ : ∃ left, left = e.left keep[i]? := ⟨_, rfl⟩
      have hll := left_le e hsu keep[i]?
      rw [← hleft] at hll
      have hsl := run_cut (t := 31) (e := 5) (n := e.b.length) (c := e.c) (k := left) Try.underlying31 (fun W => by kernel_rfl) (by omega) hsp
      have hstep := Cut.step (v := .slice e.A left left) (u := .int .i64 left) hD2 hcut.out he (by rw [hleft]) (by rw [hleft])
      obtain ⟨bl, hbln⟩ : ∃ bl, bl = e.b.length := ⟨_, rfl⟩
      obtain ⟨su, hsun⟩ : ∃ su, su = e.sure := ⟨_, rfl⟩
      rw [← hbln] at cf0 hbl hll hsl hsu
      rw [← hsun] at cf1 hsu
      unfold str at cnr hlk
      replace hstep := hide hstep
      replace hmb := hide hmb
      replace hsp := hide hsp
      by_cases hik : i < kn
      · obtain ⟨kg, ko, rfl, hkc⟩ := hK.at_ (by rw [List.length_map, ← hkn.out]; omega)
        obtain ⟨k, hk⟩ : ∃ k, keep[i]? = some k := ⟨_, List.getElem?_eq_getElem (by rw [← hkn.out]; exact hik)⟩
        have hkne : keep ≠ [] := fun e => by rw [e] at hk; simp at hk
        have ck : w1.cell? ⟨kg, ko + i, none⟩ = some (.int .i64 k) := hkc i (I64 k) (by rw [List.getElem?_map, hk]; rfl)
        have ckr : wr.cell? ⟨kg, ko + i, none⟩ = some (.int .i64 k) := hc.cell (hE.cell ck) fun ⟨e', he', hh⟩ => hKF hkne _ rfl ((hF _).2 (.inr (.inr ⟨e', he', .inl hh⟩)))
        obtain ⟨hk1, hk2⟩ := hkb k (List.mem_of_getElem? hk)
        have hlk2 : (left : Int) = su + (k.tmod ((bl : Int) - su + 1) + ((bl : Int) - su + 1)).tmod ((bl : Int) - su + 1) := by
          rw [go_mod _ _ (by omega), hleft, hk]
          show ((e.sure + (k % ((e.b.length : Int) - e.sure + 1)).toNat : Nat) : Int) = _
          rw [hbln, hsun]
          have := Int.emod_nonneg k (show (e.b.length : Int) - e.sure + 1 ≠ 0 by omega)
          omega
        have hlk3 : (su : Int) + k.tmod ((bl : Int) - su + 1) % ((bl : Int) - su + 1) = left := by
          have hb := tmod_bd k ((bl : Int) - su + 1) (by omega)
          rw [Int.tmod_eq_emod_of_nonneg (by omega), Int.add_emod_right] at hlk2
          exact hlk2.symm
        have htb := tmod_bd k ((bl : Int) - su + 1) (by omega)
        replace hbln := hide hbln
        replace hsun := hide hsun
        replace hleft := hide hleft
        replace hlk2 := hide hlk2
        replace hk := hide hk
        clear hcl hkc hr hst hok hap hD2 ck cn
        go_wp2_with fail
        refine wp_region_text follows (by kernel_rfl) (by kernel_rfl) (fun K hK => ?_)
        go_wp2_with fail
        refine ⟨by kernel_rfl, ?_⟩
        go_wp2_with fail
        go_roundw
        case rel => exact ⟨i + 1, by go_num, by omega, hide (Cut.drew hstep.out)⟩
        case measure => simp [intOf]; omega
      · have hlk2 : left = su := by
          have : keep[i]? = none := List.getElem?_eq_none (by rw [← hkn.out]; omega)
          rw [hleft, this, hsun]
          rfl
        subst hlk2
        replace hbln := hide hbln
        replace hsun := hide hsun
        replace hleft := hide hleft
        clear hcl hr hst hok hap hD2 cn
        go_wp2_with fail
        go_roundw
        case rel => exact ⟨i + 1, by go_num, by omega, hstep⟩
        case measure => simp [intOf]; omega
    · obtain rfl : i = n := by omega
      have hc := hcut.out.chg
      have hap := hD2.apart
      have hrd : DRow wr d m P.quota P.armed P.stopped := Chg.row hc hD2.row fun ⟨e', he', hh⟩ => (hap.2 e' he').1 hh
      have c2 : wr.cell? ⟨d, 2, none⟩ = some (.int .i64 P.armed) := Row.cell hrd 2 rfl
      have c3 : wr.cell? ⟨d, 3, none⟩ = some (.bool P.stopped) := Row.cell hrd 3 rfl
      have f2 := Row.free hrd 2
      have f3 := Row.free hrd 3
      have hcut2 := hcut.out
      rw [hn.out] at hcut2
      obtain ⟨h1, h2, h3⟩ := cut_end hD2 hcut2 rfl
      have fin : DNext base d F w1 (restartM P keep) _ := hS.next hF h1 ((Chg.of_ext hE (Foot d m E)).trans h2 fun _ _ h => h) fun k hk => .inl (h3 k hk)
      replace fin := hide fin
      clear h1 h2 h3 hcut2 hrd hap hc hst
      go_wp2_with fail
      go_end0
      exact ⟨rfl, fin.out⟩
theorem restart_any (base d : Nat) (P : PD) (F : Nat → Prop) (K : Option Addr) (kn kc : Nat) (keep : List Int) (w : World) (h : DS w base d P F) (hK : Cells w K (keep.map I64)) (hKF : ∀ a, K = some a → ¬ F a.block) (hkn : kn = keep.length)
    (hkb : ∀ k ∈ keep, -9223372036854775808 ≤ k ∧ k ≤ 9223372036854775807) (hkl : kn ≤ 9223372036854775807) :
    Calls Try.prog 20 #[.pointer (some ⟨d, 0, none⟩), .slice K kn kc] w fun e w' => e = .returned (.tuple #[]) ∧ DNext base d F w (restartM P keep) w' := restart_any0 base d P F K kn kc keep w h hK (fun _ => hKF) hkn hkb hkl
end Go.Proofs.Ytohphanbnhiodaa

/- loggia/wal: made, none, Open, Number, size, Size. -/
namespace Go.Proofs.Ytohphanbnhiodaa
open Go.RowKit Go.Maps

/-- A writer at block b. -/
def WrR (w : World) (b d n : Nat) (nm : List UInt8) : Prop := Row w b 66 #[.pointer (some ⟨d, 0, none⟩), .string ⟨nm.toArray⟩, .int .i64 (n : Int)]
theorem WrR.ext {w w1 : World} {b d n : Nat} {nm : List UInt8} (h : WrR w b d n nm) (hE : Ext w w1) : WrR w1 b d n nm := Row.ext h hE
set_option maxRecDepth 100000 in
theorem made_any (base d : Nat) (P : PD) (F : Nat → Prop) (w : World) (h : DS w base d P F) :
    Calls Try.prog 32 #[.pointer (some ⟨d, 0, none⟩)] w fun e w' => e = .returned (.bool true) ∧ Ext w w' := by
  have hr := read_any base d P F [] 0 0 w h (by decide) (by omega) (by omega) (by omega) (by omega)
  unfold ReadPost at hr
  rw [show readM P [] 0 0 = ([], 60) from rfl] at hr
  unfold str at hr
  simp only at hr
  replace hr := hide hr
  go_enter Try.func32, Try.ntmps32
  go_wp2_with fail
  refine hr.out.mono ?_
  rintro e w1 ⟨A, k, c, rfl, _, _, hE⟩
  go_wp2_with fail
  go_ret
  exact ⟨rfl, hE⟩
set_option maxRecDepth 100000 in
theorem wnone_any (b d n : Nat) (nm : List UInt8) (w : World) (h : WrR w b d n nm) :
    Calls Try.prog 33 #[.pointer (some ⟨b, 0, none⟩)] w fun e w' => e = .returned (.bool false) ∧ w' = w := by
  have c0 := Row.cell h 0 rfl
  go_enter Try.func33, Try.ntmps33
  go_wp2_with fail
  go_ret
  exact ⟨rfl, rfl⟩
set_option maxRecDepth 100000 in
theorem wnumber_any (b d n : Nat) (nm : List UInt8) (w : World) (h : WrR w b d n nm) :
    Calls Try.prog 23 #[.pointer (some ⟨b, 0, none⟩)] w fun e w' => e = .returned (.int .i64 (n : Int)) ∧ w' = w := by
  have hn := hide (wnone_any b d n nm w h)
  have c2 := Row.cell h 2 rfl
  go_enter Try.func23, Try.ntmps23
  go_wp2_with fail
  refine hn.out.mono ?_
  rintro e w1 ⟨rfl, rfl⟩
  go_wp2_with fail
  go_ret
  exact ⟨rfl, rfl⟩
set_option maxRecDepth 100000 in
theorem fsize_any (base d : Nat) (P : PD) (F : Nat → Prop) (nm : List UInt8) (w : World) (h : DS w base d P F) (hs : nm.length ≤ 9223372036854775807) :
    Calls Try.prog 43 #[.agg #[.pointer (some ⟨d, 0, none⟩), .string ⟨nm.toArray⟩]] w fun e w' => e = .returned (.tuple #[.int .i64 (sizeM P nm).1, .bool (sizeM P nm).2]) ∧ Ext w w' := by
  obtain ⟨w1, hw1⟩ : ∃ w1, w1 = w.alloc (.cells #[.pointer (some ⟨d, 0, none⟩), .string ⟨nm.toArray⟩] 64) := ⟨_, rfl⟩
  have hE1 : Ext w w1 := by rw [hw1]; exact (Ext.refl w).alloc _
  have hr : Row w1 w.heap.size 64 #[.pointer (some ⟨d, 0, none⟩), .string ⟨nm.toArray⟩] := by rw [hw1]; exact Row.new w _ _
  have c0 := hr.cell 0 rfl
  have c1 := hr.cell 1 rfl
  have hsz := size_any base d P F nm w1 (h.ext hE1) hs
  unfold str at hsz
  obtain ⟨z, hz⟩ : ∃ z, z = sizeM P nm := ⟨_, rfl⟩
  rw [← hz] at hsz ⊢
  replace hz := hide hz
  rw [hw1] at c0 c1
  replace hsz := hide hsz
  replace hw1 := hide hw1
  go_enter Try.func43, Try.ntmps43
  go_wp2_with fail
  rw [← hw1.out]
  refine hsz.out.mono ?_
  rintro e w2 ⟨rfl, rfl⟩
  go_wp2_with fail
  go_ret2
  exact ⟨rfl, hE1⟩
set_option maxRecDepth 100000 in
theorem wsize_any (base b d n : Nat) (P : PD) (F : Nat → Prop) (nm : List UInt8) (w : World) (hw : WrR w b d n nm) (h : DS w base d P F) (hs : nm.length ≤ 9223372036854775807) :
    Calls Try.prog 24 #[.pointer (some ⟨b, 0, none⟩)] w fun e w' => e = .returned (.int .i64 (sizeM P nm).1) ∧ Ext w w' := by
  have hn := hide (wnone_any b d n nm w hw)
  have c0 := Row.cell hw 0 rfl
  have c1 := Row.cell hw 1 rfl
  have hsz := fsize_any base d P F nm w h hs
  obtain ⟨z, hz⟩ : ∃ z, z = sizeM P nm := ⟨_, rfl⟩
  rw [← hz] at hsz ⊢
  replace hz := hide hz
  replace hsz := hide hsz
  go_enter Try.func24, Try.ntmps24
  go_wp2_with fail
  refine hn.out.mono ?_
  rintro e w1 ⟨rfl, rfl⟩
  go_wp2_with fail
  refine hsz.out.mono ?_
  rintro e w2 ⟨rfl, hE⟩
  go_wp2_with fail
  go_ret
  exact ⟨rfl, hE⟩
set_option maxRecDepth 100000 in
theorem open_any (base d : Nat) (P : PD) (F : Nat → Prop) (n : Nat) (w : World) (h : DS w base d P F) (hn : n ≤ 99999999) :
    Calls Try.prog 16 #[.pointer (some ⟨d, 0, none⟩), .int .i64 (n : Int)] w fun e w' => ∃ b, e = .returned (.tuple #[.pointer (some ⟨b, 0, none⟩), .int .i64 0]) ∧ WrR w' b d n (nameW n) ∧ w.heap.size ≤ b ∧ Ext w w' := by
  have hm := hide (made_any base d P F w h)
  have hnm := fun w1 => name_yes n w1 hn
  obtain ⟨nm, hnn⟩ : ∃ nm, nm = nameW n := ⟨_, rfl⟩
  simp only [← hnn] at hnm ⊢
  replace hnn := hide hnn
  replace hnm := hide hnm
  go_enter Try.func16, Try.ntmps16
  go_wp2_with fail
  refine hm.out.mono ?_
  rintro e w1 ⟨rfl, hE1⟩
  go_wp2_with fail
  refine (hnm.out w1).mono ?_
  rintro e w2 ⟨rfl, hE2⟩
  go_wp2_with fail
  go_ret2
  exact ⟨w2.heap.size, rfl, Row.new w2 _ _, (hE1.trans hE2).size, (hE1.trans hE2).alloc _⟩
end Go.Proofs.Ytohphanbnhiodaa

/- Slices of bytes that came in. -/
namespace Go.Proofs.Ytohphanbnhiodaa
open Go.ChangeShapes Go.WideShapes Go.ChangeAt Go.RowKit
open Go.ChangeMaps (open_string shut_string)

theorem slice_has {P : Program} {w : World} {r : Go.Reach} {base : Nat} {t e : TypeId} {a : Addr} {len cap : Nat} (ht : P.underlying t = some (.slice e)) (h : Value.okWide P w r base t (.slice (some a) len cap)) : a.spot = none ∧ a.block < w.heap.size := by
  unfold Value.okWide at h
  rw [ht] at h
  unfold Cell.okWide at h
  rw [ht] at h
  unfold Cell.ok at h
  rw [ht] at h
  obtain ⟨_, _, _, hs, row, cells, hsh, _⟩ := h
  refine ⟨hs, ?_⟩
  unfold World.shape? at hsh
  split at hsh
  · rename_i hh
    exact (Array.getElem?_eq_some_iff.1 hh).1
  · cases hsh
theorem wf_i64 {a : Int} (h : (Lit.int .i64 a).wf = true) : -9223372036854775808 ≤ a ∧ a ≤ 9223372036854775807 := by
  simp [Lit.wf, IntKind.has, IntKind.min, IntKind.max, IntKind.bits, IntKind.signed] at h
  omega
theorem wf_u8 {a : Int} (h : (Lit.int .u8 a).wf = true) : 0 ≤ a ∧ a < 256 := by
  simp [Lit.wf, IntKind.has, IntKind.min, IntKind.max, IntKind.bits, IntKind.signed] at h
  omega
theorem wf_u16 {a : Int} (h : (Lit.int .u16 a).wf = true) : 0 ≤ a ∧ a < 65536 := by
  simp [Lit.wf, IntKind.has, IntKind.min, IntKind.max, IntKind.bits, IntKind.signed] at h
  omega
/-- What a slice of bytes that came in is told to be. -/
structure Came (w : World) (A : Option Addr) (n c : Nat) (l : List UInt8) : Prop where
  len : n = l.length
  bytes : Bs w A l
  lt : ∀ a, A = some a → a.block < w.heap.size
  cap : n ≤ c
  most : n ≤ 9223372036854775807
set_option maxRecDepth 100000 in
theorem open_bytes {H : Type} {enc : TypeId × Value → H} {w : World} {r : Go.Reach} {base base' : Nat} {t e : TypeId} {fuel : Nat} {a : Option Addr} {len cap : Nat} {x : DataW H × List MemPlace} {spare : Nat → Bool} {held : Bool}
    (ht : Try.prog.underlying t = some (.slice e)) (he : Try.prog.underlying e = some (.int .u8)) (hc : Try.prog.cellsOf e = 1) (hv : Value.okWide Try.prog w r base t (.slice a len cap))
    (h : DataW.trod enc Try.prog w base' spare held fuel t (Value.slice a len cap).cells.toList = some x) : ∃ l, Came w a len cap l := by
  rcases open_ints ht he hc h with ⟨hcs, _⟩ | ⟨y, m, c, zs, hcs, _, hl, hm, hz, _, hcell, hwz⟩
  · simp [Value.cells] at hcs
    obtain ⟨rfl, rfl, rfl⟩ := hcs
    exact ⟨[], rfl, .inl rfl, nofun, by omega, by omega⟩
  · simp [Value.cells] at hcs
    obtain ⟨rfl, rfl, rfl⟩ := hcs
    obtain ⟨hs, hlt⟩ := slice_has ht hv
    obtain ⟨b, o, s⟩ := y
    simp only at hs
    subst hs
    have hzl : len ≤ zs.length := by rw [hz]; split <;> omega
    refine ⟨(zs.take len).map (fun n => UInt8.ofNat n.toNat), ?_, .inr ⟨b, o, rfl, fun i v hv => ?_⟩, fun a h => (by cases h; exact hlt), hl, ?_⟩
    · simp
      omega
    · rw [List.getElem?_map, List.getElem?_map, List.getElem?_take] at hv
      split at hv
      · rename_i hi
        have hi2 : i < zs.length := by omega
        rw [List.getElem?_eq_getElem hi2] at hv
        simp only [Option.map_some] at hv
        have h1 := hcell i hi2
        have h2 := hwz zs[i] (List.getElem_mem hi2)
        rw [Addr.add_lit] at h1
        rw [h1]
        injection hv with hv
        rw [← hv]
        have h3 : zs.getD i 0 = zs[i] := by simp [List.getD, hi2]
        rw [h3]
        simp [Lit.wf, IntKind.has, IntKind.min, IntKind.max, IntKind.bits, IntKind.signed] at h2
        unfold B8
        rw [UInt8.toNat_ofNat']
        congr 2
        omega
      · simp at hv
    · unfold maxLen at hm
      omega
end Go.Proofs.Ytohphanbnhiodaa

/- What came in: a cell's place; rows of integers. -/
namespace Go.Proofs.Ytohphanbnhiodaa
open Go.ChangeShapes Go.WideShapes Go.Deep Go.RowKit

theorem cell_lt {w : World} {a : Addr} {v : Value} (h : w.cell? a = some v) : a.block < w.heap.size ∧ a.spot = none := by
  unfold World.cell? at h
  split at h
  · rename_i c _ _ hb
    refine ⟨(Array.getElem?_eq_some_iff.1 hb).1, ?_⟩
    cases hs : a.spot with
    | none => rfl
    | some s => rw [hs] at h; simp at h
  · cases h
theorem list_of {α : Type} {Q : Nat → α → Prop} : ∀ (n : Nat), (∀ i, i < n → ∃ x, Q i x) → ∃ l : List α, l.length = n ∧ ∀ i x, l[i]? = some x → Q i x
  | 0, _ => ⟨[], rfl, fun i x h => by simp at h⟩
  | n + 1, h => by
    obtain ⟨l, hl, hq⟩ := list_of n fun i hi => h i (by omega)
    obtain ⟨x, hx⟩ := h n (by omega)
    refine ⟨l ++ [x], by simp [hl], fun i y hy => ?_⟩
    rw [List.getElem?_append] at hy
    split at hy
    · exact hq i y hy
    · rename_i hi
      have : i = n := by
        have := (List.getElem?_eq_some_iff.1 hy).1
        simp at this
        omega
      subst this
      rw [hl] at hy
      simp at hy
      rw [← hy]
      exact hx
section
variable {H : Type} {enc : TypeId × Value → H} {w : World} {base : Nat} {spare : Nat → Bool} {held : Bool}
set_option maxRecDepth 100000 in
theorem in_ints {t e : TypeId} {k : IntKind} {fuel : Nat} {v : Value} {x : DataW H × List MemPlace} (ht : Try.prog.underlying t = some (.slice e)) (he : Try.prog.underlying e = some (.int k)) (hc : Try.prog.cellsOf e = 1)
    (h : DataW.trod enc Try.prog w base spare held fuel t [v] = some x) :
    ∃ (A : Option Addr) (len cap : Nat) (zs : List Int), v = .slice A len cap ∧ len = zs.length ∧ Cells w A (zs.map (Value.int k)) ∧ (zs ≠ [] → ∀ a, A = some a → a.block < w.heap.size ∧ a.spot = none) ∧ len ≤ cap ∧ len ≤ 9223372036854775807 ∧ ∀ z ∈ zs, (Lit.int k z).wf = true := by
  rcases open_ints ht he hc h with ⟨hcs, _⟩ | ⟨y, m, c, zs, hcs, _, hl, hm, hz, _, hcell, hwz⟩
  · obtain rfl : v = .slice none 0 0 := by simpa using hcs
    exact ⟨none, 0, 0, [], rfl, rfl, .inl rfl, fun h => absurd rfl h, by omega, by omega, nofun⟩
  · obtain rfl : v = .slice (some y) m c := by simpa using hcs
    have hzl : m ≤ zs.length := by rw [hz]; split <;> omega
    have hml : m ≤ 9223372036854775807 := by unfold maxLen at hm; omega
    refine ⟨some y, m, c, zs.take m, rfl, by simp; omega, ?_, ?_, hl, hml, fun z hz => hwz z (List.mem_of_mem_take hz)⟩
    · rcases Nat.eq_zero_or_pos m with rfl | hm0
      · exact .inl rfl
      · have h0 := hcell 0 (by omega)
        have hs := (cell_lt h0).2
        obtain ⟨b, o, s⟩ := y
        obtain rfl : s = none := hs
        refine .inr ⟨b, o, rfl, fun i u hu => ?_⟩
        rw [List.getElem?_map, List.getElem?_take] at hu
        split at hu
        · rename_i hi
          have hi2 : i < zs.length := by omega
          rw [List.getElem?_eq_getElem hi2] at hu
          simp only [Option.map_some] at hu
          have h1 := hcell i hi2
          rw [Addr.add_lit] at h1
          rw [h1, ← hu]
          simp [List.getD, hi2]
        · simp at hu
    · intro hne a ha
      obtain rfl : y = a := by simpa using ha
      have hm0 : 0 < m := by
        rcases Nat.eq_zero_or_pos m with rfl | hm0
        · exact absurd rfl hne
        · exact hm0
      exact cell_lt (hcell 0 (by omega))
end
end Go.Proofs.Ytohphanbnhiodaa

/- What came in: rows of strings. -/
namespace Go.Proofs.Ytohphanbnhiodaa
open Go.ChangeShapes Go.WideShapes Go.Deep Go.RowKit

def strV (l : List UInt8) : Value := .string ⟨l.toArray⟩
theorem strV_bytes (s : ByteArray) : strV s.data.toList = .string s := by
  cases s
  simp [strV]
section
variable {H : Type} {enc : TypeId × Value → H} {w : World} {base : Nat} {spare : Nat → Bool} {held : Bool}
set_option maxRecDepth 100000 in
theorem in_strings {t e : TypeId} {fuel : Nat} {v : Value} {x : DataW H × List MemPlace} (ht : Try.prog.underlying t = some (.slice e)) (he : Try.prog.underlying e = some .string) (hc : Try.prog.cellsOf e = 1)
    (h : DataW.trod enc Try.prog w base spare held fuel t [v] = some x) :
    ∃ (A : Option Addr) (cap : Nat) (ss : List (List UInt8)), v = .slice A ss.length cap ∧ Cells w A (ss.map strV) ∧ (ss ≠ [] → ∀ a, A = some a → a.block < w.heap.size ∧ a.spot = none) ∧ ss.length ≤ cap ∧ ss.length ≤ 9223372036854775807 ∧ ∀ s ∈ ss, s.length ≤ 9223372036854775807 := by
  rcases open_strings ht he hc h with ⟨hcs, _⟩ | ⟨y, m, c, zs, hcs, _, hl, hm, hz, _, hcell, hwz⟩
  · obtain rfl : v = .slice none 0 0 := by simpa using hcs
    exact ⟨none, 0, [], rfl, .inl rfl, fun h => absurd rfl h, by simp, by simp, nofun⟩
  · obtain rfl : v = .slice (some y) m c := by simpa using hcs
    have hzl : m ≤ zs.length := by rw [hz]; split <;> omega
    have hml : m ≤ 9223372036854775807 := by unfold maxLen at hm; omega
    have hlen : ((zs.take m).map fun s => s.data.toList).length = m := by simp; omega
    refine ⟨some y, c, (zs.take m).map fun s => s.data.toList, by rw [hlen], ?_, ?_, by rw [hlen]; exact hl, by rw [hlen]; exact hml, fun s hs => ?_⟩
    · rcases Nat.eq_zero_or_pos m with rfl | hm0
      · exact .inl rfl
      · have h0 := hcell 0 (by omega)
        have hs := (cell_lt h0).2
        obtain ⟨b, o, s⟩ := y
        obtain rfl : s = none := hs
        refine .inr ⟨b, o, rfl, fun i u hu => ?_⟩
        rw [List.getElem?_map, List.getElem?_map, List.getElem?_take] at hu
        split at hu
        · rename_i hi
          have hi2 : i < zs.length := by omega
          rw [List.getElem?_eq_getElem hi2] at hu
          simp only [Option.map_some] at hu
          have h1 := hcell i hi2
          rw [Addr.add_lit] at h1
          rw [h1, ← hu, strV_bytes]
          simp [List.getD, hi2]
        · simp at hu
    · intro hne a ha
      obtain rfl : y = a := by simpa using ha
      have hm0 : 0 < m := by
        rcases Nat.eq_zero_or_pos m with rfl | hm0
        · exact absurd rfl hne
        · exact hm0
      exact cell_lt (hcell 0 (by omega))
    · obtain ⟨z, hz1, rfl⟩ := List.mem_map.1 hs
      have := hwz z (List.mem_of_mem_take hz1)
      unfold maxLen at this
      rw [Array.length_toList]
      exact this
end
end Go.Proofs.Ytohphanbnhiodaa

