/- ManifestNames: true for every input; the tables of the library are as the program's text lays them (the card ties that). -/
import Derived.Test.YtijnomopcpgikaaDoorRows
import Derived.Test.YtijnomopcpgikaaDoorCards
import Derived.Test.YtijnomopcpgikaaDoorTie
import Derived.Test.YtijnomopcpgikaaDoorMnZ
import Derived.Test.YtijnomopcpgikaaDoorMfO
import Derived.WalkKit
import Derived.ProofKit
import Derived.OpenShut
import Derived.ShutString
import Derived.ChangeOld
import Derived.Below
import Derived.Lay
import Derived.LaidMore
import Derived.SevenTiedAt
namespace Go.Proofs.YtijnomopcpgikaaDoor.manifestNames
open Go.ChangeShapes Go.WideShapes Go.ChangeAt Go.RowKit Go.Deep
set_option linter.unusedVariables false

theorem own : ownKnob Tryd.prog.godebug = none := by kernel_rfl
theorem laidOut : laidOutB Tryd.prog = true := by kernel_rfl

set_option maxRecDepth 100000 in
theorem lifted (os : Os) (started : os.Started) (H : Type) (enc : TypeId × Value → H) :
    ReturnsInHanded {} Tryd.checked os 5 .any (fun w args => (Rows.manifestNamesSpec.pre enc Tryd.prog Tryd.f5 Rows.manifestNamesRow.domain false w args ∧ laidMetH Tryd.prog Rows.manifestNamesRow.laid w) ∧ sizedMet enc Tryd.prog Tryd.f5 (OpenSpec.ofChange Rows.manifestNamesSpec) false w args)
      (Rows.manifestNamesSpec.post enc Tryd.prog Tryd.f5 false true false false) := by
  refine returnsInHanded_of_change_and (C := Tryd.checked) (X := fun w _ => laidMetH Tryd.prog Rows.manifestNamesRow.laid w) (fun _ _ _ hh h => h.of_heap hh) own started (by kernel_rfl) Tryd.func5
    (ChangeSpec.witness_shaped (enc := enc) (C := Tryd.checked) (os := os) (X := fun w _ => laidMetH Tryd.prog Rows.manifestNamesRow.laid w) false (World.laidAll Tryd.prog os Rows.manifestNamesRow.laid) #[.agg #[.slice none 0 0, .int .i64 0, .int .i64 0, .int .i64 0, .int .i64 0, .int .i64 0], .agg #[.int .i64 0, .int .i64 0, .int .i64 0, .int .i64 0, .int .i64 0, .int .i64 0, .int .i64 0], .int .i64 0, .slice none 0 0] 8 (World.laidAll_os _ _ _)
      (World.shaped_of_ZipB (by kernel_rfl) (by kernel_rfl)) (by kernel_rfl) (by kernel_rfl) (by kernel_rfl)
      (by rw [MakeChecks.laidMetH_plain _ _ _ (by kernel_rfl)]; exact laidMet_laidAll _ (by kernel_rfl) (by kernel_rfl))) ?_
  intro W base args ds gs before hval0 hW hc _ hL _
  have hval : ∀ (j : Nat) t v, Tryd.f5.params[j]? = some t → args[j]? = some v → Value.okWide Tryd.prog W .any base t v := hval0
  have hW' := hW
  obtain ⟨p, q, hA0, hV, rfl, hfz, hnd⟩ := hW
  have hA : DataW.TrodAll enc Tryd.prog W 0 (fun _ => true) true Tryd.f5.params.toList args.toList ds p := hA0
  rw [Tryd.params5] at hA hval
  obtain ⟨v0, vs0, d0, ds0, p0, q0, hargs0, rfl, rfl, h0, r0⟩ := trodAll_cons hA
  obtain ⟨v1, vs1, d1, ds1, p1, q1, hargs1, rfl, rfl, h1, r1⟩ := trodAll_cons r0
  obtain ⟨v2, vs2, d2, ds2, p2, q2, hargs2, rfl, rfl, h2, r2⟩ := trodAll_cons r1
  obtain ⟨v3, vs3, d3, ds3, p3, q3, hargs3, rfl, rfl, h3, r3⟩ := trodAll_cons r2
  obtain ⟨rfl, rfl, rfl⟩ := trodAll_nil r3
  obtain rfl : args = #[v0, v1, v2, v3] := by cases args; simp_all
  obtain ⟨rfl, rfl⟩ := trodVars_none hV
  obtain ⟨cs0, rfl, hcs0⟩ := okWide_struct Tryd.underlying24 (hval 0 24 v0 rfl rfl)
  have k0 := h0
  have lt0 : ∀ x ∈ p0, x.block < W.heap.size := by obtain ⟨m, hm⟩ := k0; exact DataW.trod_lt m _ _ _ hm
  obtain ⟨m0, A0, c0, hm0, hmv0⟩ : ∃ (m : Mf) (A : Option Addr) (c : Nat), m.Ok W W.heap.size A c ∧ Value.agg cs0.toList.toArray = m.val A c := by
    obtain ⟨fuel, hf⟩ := h0
    exact in_mf (by rw [Array.length_toList]; exact hcs0.trans (by kernel_rfl)) hf
  rw [Array.toArray_toList] at hmv0
  obtain ⟨cs1, rfl, hcs1⟩ := okWide_struct Tryd.underlying40 (hval 1 40 v1 rfl rfl)
  have k1 := h1
  have lt1 : ∀ x ∈ p1, x.block < W.heap.size := by obtain ⟨m, hm⟩ := k1; exact DataW.trod_lt m _ _ _ hm
  obtain ⟨m1, hmv1⟩ : ∃ p : Pt, Value.agg cs1.toList.toArray = p.val := by
    obtain ⟨fuel, hf⟩ := h1
    obtain ⟨p, _, hp⟩ := in_part (by rw [Array.length_toList]; exact hcs1.trans (by kernel_rfl)) hf
    exact ⟨p, by have hp2 : cs1.toList = p.cells := hp.symm; rw [hp2]; rfl⟩
  rw [Array.toArray_toList] at hmv1
  have k2 := h2
  have lt2 : ∀ x ∈ p2, x.block < W.heap.size := by obtain ⟨m, hm⟩ := k2; exact DataW.trod_lt m _ _ _ hm
  obtain ⟨x2, rfl, rfl, rfl, wx2⟩ := open_int Tryd.underlying3 (hval 2 3 v2 rfl rfl) h2
  have bx2 := wf_i64 wx2
  obtain ⟨A3, n3, c3, rfl⟩ := okWide_slice Tryd.underlying41 (hval 3 41 v3 rfl rfl)
  have k3 := h3
  have lt3 : ∀ x ∈ p3, x.block < W.heap.size := by obtain ⟨m, hm⟩ := k3; exact DataW.trod_lt m _ _ _ hm
  obtain ⟨ss3, hnn3, hc3, hlt3, hcap3, hn3, hs3⟩ : ∃ (ss : List (List UInt8)), n3 = ss.length ∧ Cells W A3 (ss.map strV) ∧ (ss ≠ [] → ∀ a, A3 = some a → a.block < W.heap.size ∧ a.spot = none) ∧ ss.length ≤ c3 ∧ ss.length ≤ 9223372036854775807 ∧ ∀ s ∈ ss, s.length ≤ 9223372036854775807 := by
    obtain ⟨fuel, hf⟩ := h3
    obtain ⟨A, c, ss, hv, r⟩ := in_strings Tryd.underlying41 Tryd.underlying9 (by kernel_rfl) hf
    injection hv with e1 e2 e3
    subst e1 e3
    exact ⟨ss, e2, r⟩
  subst hnn3
  have hL1 : laidMet Tryd.prog Rows.manifestNamesRow.laid W := by rw [MakeChecks.laidMetH_plain _ _ _ (by kernel_rfl)] at hL; exact hL
  have h8 : ∀ n, Eights W n := eights_of (tabs_of (rest := [("strconv.ErrRange", Rows.laid_strconv_ErrRange), ("strconv.ErrSyntax", Rows.laid_strconv_ErrSyntax)]) hL1.tail.tail)
  have her : Errs W := errs_of (r1 := []) hL1.tail.tail.tail.tail (r2 := [("strconv.ErrSyntax", Rows.laid_strconv_ErrSyntax)]) hL1.tail.tail.tail
  clear hA0 hval0
  refine (show Calls Tryd.prog 5 #[Value.agg cs0, Value.agg cs1, Value.int .i64 x2, Value.slice A3 ss3.length c3] W fun e w' => e = .returned (.bool true) ∧ Below W.heap.size W w' by rw [hmv0, hmv1]; exact names_any m0 m1 x2 A0 A3 c0 c3 ss3 W hm0 hc3 hs3 hn3 her h8).mono fun e W' ⟨he, bel⟩ => ?_
  subst he
  exact ⟨_, rfl, _, _, _, [], _, [], hW', trodAll_mk1 (shut_bool Tryd.underlying4 _), (trodAll_cons_mk (Below.trod laidOut (by kernel_rfl) (of_decide_eq_true (by kernel_rfl)) k0 bel lt0) (trodAll_cons_mk (Below.trod laidOut (by kernel_rfl) (of_decide_eq_true (by kernel_rfl)) k1 bel lt1) (trodAll_cons_mk (Below.trod laidOut (by kernel_rfl) (of_decide_eq_true (by kernel_rfl)) k2 bel lt2) (trodAll_cons_mk (Below.trod laidOut (by kernel_rfl) (of_decide_eq_true (by kernel_rfl)) k3 bel lt3) trodAll_mk0)))), rfl, bel.frame _, fun h => by cases h⟩

theorem over : Rows.ManifestNamesSaid :=
  OpenClaim.holds_of_wide 5 Tryd.f5 rfl rfl rfl rfl rfl rfl rfl ⟨rfl, rfl, rfl, rfl, rfl⟩ rfl rfl rfl rfl rfl (by kernel_rfl) Tryd.func5 (by kernel_rfl)
    (of_decide_eq_true (by kernel_rfl)) (by unfold Func.isWrapper; first | (rw [if_pos (by decide +kernel)]; kernel_rfl) | (rw [if_neg (by decide +kernel)]; exact ⟨rfl, rfl⟩))
    (fun os started H enc _ => lifted os started H enc)

theorem proved : Rows.ManifestNamesCardSaid :=
  Claim7.holds_tied_plain_at .later [] [.data, .data, .data, .sentinel, .sentinel] true (true, "106b8b3fb974d6ad278595e761837430550060d092f5fb145548d44a0e56d3ae") true over (fun _ h => by cases h) (by kernel_rfl) (fun _ h => by cases h) manifestNames_row_tie rfl ⟨rfl, rfl⟩ (by kernel_rfl) rfl
    (fun f fn hf hfn => by
      obtain rfl : f = 5 := Option.some.inj ((show Tryd.prog.funcNamed "loggia/loggialaw16.ManifestNames" = some 5 by kernel_rfl).symm.trans hf) |>.symm
      obtain rfl : fn = Tryd.f5 := (Option.some.inj (Tryd.func5.symm.trans hfn)).symm
      exact ⟨by kernel_rfl, fun j t ht => by
        rw [Tryd.params5] at ht
        have hm : t ∈ [24, 40, 3, 41] := by simpa using Array.mem_of_getElem? ht
        have hall : ([24, 40, 3, 41].all fun u => !Tryd.prog.wantsStandIn u) = true := by kernel_rfl
        exact (show Tryd.prog.wantsStandIn t = false by simpa using List.all_eq_true.1 hall t hm)⟩)
    (by kernel_rfl)
#print axioms proved
end Go.Proofs.YtijnomopcpgikaaDoor.manifestNames
