import Derived.Test.YticnncgbfpgeaaaRows
import Derived.Test.YticnncgbfpgeaaaDlZ
import Derived.Test.YticnncgbfpgeaaaOps
import Derived.WalkKit
import Derived.ProofKit
import Derived.OpenShut
import Derived.ShutString
import Derived.ChangeOld
import Derived.Below
namespace Go.Proofs.Yticnncgbfpgeaaa.diskNobody
open Go.ChangeShapes Go.WideShapes Go.ChangeAt Go.RowKit Go.Deep
set_option linter.unusedVariables false

theorem own : ownKnob Try.prog.godebug = none := by kernel_rfl
theorem laidOut : laidOutB Try.prog = true := by kernel_rfl

theorem walk (o : Opr) (w : World) (h : OOk w w.heap.size o) :
    Calls Try.prog 7 #[o.val] w fun e w' => e = .returned (.bool true) ∧ Below w.heap.size w w' := nobody_any o w h

section
variable {H : Type} {enc : TypeId × Value → H} {w : World} {base : Nat} {spare : Nat → Bool} {held : Bool}
set_option maxRecDepth 100000 in
theorem in_op_cs {fuel : Nat} {cs : List Value} {y : DataW H × List MemPlace} (hcl : cs.length = 7) (h : DataW.trod enc Try.prog w base spare held fuel 41 cs = some y) :
    ∃ o : Opr, OOk w w.heap.size o ∧ o.cells = cs := by
  obtain ⟨fs, hfs, hone⟩ : ∃ fs, Try.prog.underlying 41 = some (.struct fs) ∧ oneCellFields Try.prog fs = true ∧ fs.map Field.type = #[5, 9, 9, 27, 3, 3, 39] := ⟨_, Try.underlying41, by kernel_rfl, by kernel_rfl⟩
  obtain ⟨hone, hty⟩ := hone
  obtain ⟨ys, n, hn, hy, hlen, hyl, hf⟩ := DataW.trod_struct hfs h
  have one : ∀ (j : Nat) (t : TypeId) (v : Value), (#[5, 9, 9, 27, 3, 3, 39] : Array TypeId)[j]? = some t → cs[j]? = some v → ∃ z, DataW.trod enc Try.prog w base spare held n t [v] = some z := by
    intro j t v hj hv
    rw [← hty, Array.getElem?_map] at hj
    obtain ⟨f, hfj, rfl⟩ := Option.map_eq_some_iff.1 hj
    obtain ⟨ho, hk⟩ := hone_of hone j f hfj
    have h1 := hf j f hfj
    have hjl : j < cs.length := (List.getElem?_eq_some_iff.1 hv).1
    rw [ho, hk, List.drop_eq_getElem_cons hjl] at h1
    have hv2 : cs[j] = v := by rw [List.getElem?_eq_getElem hjl] at hv; simpa using hv
    rw [hv2] at h1
    have hjy : j < ys.length := by rw [hyl]; exact (Array.getElem?_eq_some_iff.1 hfj).1
    rw [List.getElem?_eq_getElem hjy] at h1
    exact ⟨_, h1⟩
  match cs, hcl with
  | [v0, v1, v2, v3, v4, v5, v6], _ =>
    obtain ⟨z0, h0⟩ := one 0 _ v0 rfl rfl
    obtain ⟨z1, h1⟩ := one 1 _ v1 rfl rfl
    obtain ⟨z2, h2⟩ := one 2 _ v2 rfl rfl
    obtain ⟨z3, h3⟩ := one 3 _ v3 rfl rfl
    obtain ⟨z4, h4⟩ := one 4 _ v4 rfl rfl
    obtain ⟨z5, h5⟩ := one 5 _ v5 rfl rfl
    obtain ⟨z6, h6⟩ := one 6 _ v6 rfl rfl
    obtain ⟨k0, e0, _, w0⟩ := DataW.trod_int Try.underlying5 h0
    obtain ⟨s1, e1, _, w1⟩ := DataW.trod_string Try.underlying9 h1
    obtain ⟨s2, e2, _, w2⟩ := DataW.trod_string Try.underlying9 h2
    obtain ⟨A3, n3, c3, b3, rfl, l3, C3, p3, q3, m3, w3⟩ := in_ints Try.underlying27 Try.underlying5 (by kernel_rfl) h3
    obtain ⟨k4, e4, _, w4⟩ := DataW.trod_int Try.underlying3 h4
    obtain ⟨k5, e5, _, w5⟩ := DataW.trod_int Try.underlying3 h5
    obtain ⟨A6, n6, c6, b6, rfl, l6, C6, p6, q6, m6, w6⟩ := in_ints Try.underlying39 Try.underlying3 (by kernel_rfl) h6
    obtain rfl : v0 = .int .u8 k0 := by simpa using e0
    obtain rfl : v1 = .string s1 := by simpa using e1
    obtain rfl : v2 = .string s2 := by simpa using e2
    obtain rfl : v4 = .int .i64 k4 := by simpa using e4
    obtain rfl : v5 = .int .i64 k5 := by simpa using e5
    subst l3 l6
    have u0 := wf_u8 w0
    have u4 := wf_i64 w4
    have u5 := wf_i64 w5
    have hstr : ∀ s : ByteArray, str s.data.toList = .string s := fun s => by unfold str; cases s; simp
    have hbs : ∀ z ∈ b3, Value.int .u8 z = B8 (UInt8.ofNat z.toNat) := by
      intro z hz
      have := wf_u8 (w3 z hz)
      unfold B8
      rw [UInt8.toNat_ofNat']
      congr 1
      omega
    have hbm : (b3.map fun z => UInt8.ofNat z.toNat).map B8 = b3.map (Value.int .u8) := by
      rw [List.map_map]
      exact List.map_congr_left fun z hz => (hbs z hz).symm
    refine ⟨⟨k0.toNat, s1.data.toList, s2.data.toList, b3.map fun z => UInt8.ofNat z.toNat, A3, c3, k4, k5, b6, A6, c6⟩, ⟨by show k0.toNat < 256; omega, ?_, ?_, ?_, fun hne => p3 fun e => hne (by show b3.map _ = []; rw [e]; rfl), by show (b3.map _).length ≤ c3; rw [List.length_map]; exact q3, by show (b3.map _).length ≤ _; rw [List.length_map]; exact m3, u4, u5, C6, p6, q6, m6, fun k hk => wf_i64 (w6 k hk)⟩, ?_⟩
    · show s1.data.toList.length ≤ _
      unfold maxLen at w1
      have : s1.size = s1.data.toList.length := by rw [Array.length_toList]; rfl
      omega
    · show s2.data.toList.length ≤ _
      unfold maxLen at w2
      have : s2.size = s2.data.toList.length := by rw [Array.length_toList]; rfl
      omega
    · show Bs w A3 _
      unfold Bs
      show Cells w A3 ((b3.map fun z => UInt8.ofNat z.toNat).map B8)
      rw [hbm]
      exact C3
    · have hk0 : ((k0.toNat : Nat) : Int) = k0 := by omega
      have hcs : Opr.cells ⟨k0.toNat, s1.data.toList, s2.data.toList, b3.map fun z => UInt8.ofNat z.toNat, A3, c3, k4, k5, b6, A6, c6⟩ = [.int .u8 k0, .string s1, .string s2, .slice A3 b3.length c3, .int .i64 k4, .int .i64 k5, .slice A6 b6.length c6] := by
        unfold Opr.cells
        simp only [hstr, hk0, List.length_map]
      exact hcs
end

set_option maxRecDepth 100000 in
theorem lifted (os : Os) (started : os.Started) (H : Type) (enc : TypeId × Value → H) :
    ReturnsInHanded {} Try.checked os 7 .any (Rows.diskNobodySpec.pre6 enc Try.prog Try.f7 Rows.diskNobodyRow.domain false) (Rows.diskNobodySpec.post enc Try.prog Try.f7 false true false false) := by
  refine returnsInHanded_of_change (C := Try.checked) own started (by kernel_rfl) Try.func7
    (ChangeSpec.witness6 (enc := enc) (C := Try.checked) false ⟨#[], #[.agg #[.int .u8 0, .string ⟨#[]⟩, .string ⟨#[]⟩, .slice none 0 0, .int .i64 0, .int .i64 0, .slice none 0 0]], []⟩ 8 (by kernel_rfl) (by kernel_rfl) (by kernel_rfl) (by kernel_rfl)) ?_
  intro W base args ds gs before hval0 hW hcnd _
  have hval : ∀ (j : Nat) t v, Try.f7.params[j]? = some t → args[j]? = some v → Value.okWide Try.prog W .any base t v := hval0
  have hW' := hW
  obtain ⟨p, q, hA0, hV, rfl, hfz, hnd⟩ := hW
  have hA : DataW.TrodAll enc Try.prog W 0 (fun _ => true) true Try.f7.params.toList args.toList ds p := hA0
  rw [Try.params7] at hA hval
  obtain ⟨v0, vs0, d0, ds0, p0, q0, hargs, rfl, rfl, h0, r0⟩ := trodAll_cons hA
  obtain ⟨rfl, rfl, rfl⟩ := trodAll_nil r0
  obtain rfl : args = #[v0] := by cases args; simp_all
  obtain ⟨rfl, rfl⟩ := trodVars_none hV
  obtain ⟨cs, rfl, hcs⟩ := okWide_struct Try.underlying41 (hval 0 41 v0 rfl rfl)
  have h7 : cs.size = 7 := hcs.trans (by kernel_rfl)
  have k0 := h0
  have lt0 : ∀ x ∈ p0, x.block < W.heap.size := by obtain ⟨m, hm⟩ := k0; exact DataW.trod_lt m _ _ _ hm
  obtain ⟨o, ho, hoc⟩ : ∃ o : Opr, OOk W W.heap.size o ∧ o.cells = cs.toList := by
    obtain ⟨fuel, hf⟩ := h0
    exact in_op_cs (by rw [Array.length_toList]; exact h7) hf
  have hv : Value.agg cs = o.val := by
    have h1 : cs = o.cells.toArray := by rw [hoc]
    rw [h1]
    rfl
  clear hA0 hval0
  refine (show Calls Try.prog 7 #[Value.agg cs] W fun e w' => e = .returned (.bool true) ∧ Below W.heap.size W w' by rw [hv]; exact walk o W ho).mono fun e W' ⟨he, bel⟩ => ?_
  subst he
  exact ⟨_, rfl, _, _, _, [], _, [], hW', trodAll_mk1 (shut_bool Try.underlying4 _), (trodAll_cons_mk (Below.trod laidOut (by kernel_rfl) (of_decide_eq_true (by kernel_rfl)) k0 bel lt0) trodAll_mk0), rfl, bel.frame _, fun h => by cases h⟩

theorem over : Rows.diskNobodyRow.holds Try.pinned (OpenSpec.ofChange Rows.diskNobodySpec) :=
  OpenClaim.holds_of_wide 7 Try.f7 rfl rfl rfl rfl rfl rfl rfl ⟨rfl, rfl, rfl, rfl, rfl⟩ rfl rfl rfl rfl rfl (by kernel_rfl) Try.func7 (by kernel_rfl)
    (of_decide_eq_true (by kernel_rfl)) (by unfold Func.isWrapper; first | (rw [if_pos (by decide +kernel)]; kernel_rfl) | (rw [if_neg (by decide +kernel)]; exact ⟨rfl, rfl⟩))
    (fun os started H enc _ => lifted os started H enc)

theorem proved : Rows.DiskNobodySaid :=
  over
#print axioms proved
end Go.Proofs.Yticnncgbfpgeaaa.diskNobody
