/- The page's example of the audit, run by the kernel. -/
import Derived.Test.YtpfmjagbjdkdcaaGreatDoorAnD
import Derived.Test.YtpfmjagbjdkdcaaGreatDoorShelf
import Derived.KernelRfl
import Derived.Stop.LaidErr
import Derived.LaidLaws
import Derived.Test.YtpfmjagbjdkdcaaGreatDoorProg
set_option linter.unusedSimpArgs false
set_option linter.unusedVariables false
namespace Go.Proofs.YtpfmjagbjdkdcaaGreatDoor.Am
open Go.Proofs.YtpfmjagbjdkdcaaGreatDoor Go.RowKit

/-- The first place of a byte. -/
def idxO : List UInt8 → UInt8 → Nat → Option Nat
  | [], _, _ => none
  | b :: l, c, i => match Nat.beq b.toNat c.toNat with
    | true => some i
    | false => idxO l c (i + 1)
def idxI (x : Option Nat) (i : Nat) : Int :=
  match x with
  | none => -1
  | some n => ((n - i : Nat) : Int)
theorem idxO_ge : ∀ (l : List UInt8) (c : UInt8) (i n : Nat), idxO l c i = some n → i ≤ n
  | [], _, _, _, h => by cases h
  | b :: l, c, i, n, h => by
    rw [idxO] at h
    split at h
    · cases h; exact Nat.le_refl _
    · exact Nat.le_of_succ_le (idxO_ge l c (i + 1) n h)
theorem idxO_eq : ∀ (l : List UInt8) (c : UInt8) (i : Nat), Lib.indexByte l c = idxI (idxO l c i) i
  | [], _, _ => rfl
  | b :: l, c, i => by
    have ih := idxO_eq l c (i + 1)
    rw [Lib.indexByte, idxO]
    cases hb : Nat.beq b.toNat c.toNat with
    | true =>
      have hbc : b = c := UInt8.toNat_inj.1 (beq_t hb)
      rw [hbc, if_pos (by simp)]
      simp [idxI]
    | false =>
      have hbc : b ≠ c := fun e => beq_f hb (by rw [e])
      rw [if_neg (by simpa using hbc), ih]
      cases hi : idxO l c (i + 1) with
      | none => simp [idxI]
      | some n =>
        have := idxO_ge l c (i + 1) n hi
        have e : (idxI (some n) (i + 1) == -1) = false := by simp [idxI]
        rw [e]
        simp only [idxI, Bool.false_eq_true, if_false]
        omega
def orcI : Orc := fun g args A => match Nat.beq g 43, args with
  | true, [.string s, .int .u8 c] => some (.int .i64 (idxI (idxO s.data.toList c.toNat.toUInt8 0) 0), A)
  | _, _ => none
theorem orcI_ok {base gm : Nat} : OrcOk Tryz.prog base gm orcI := by
  intro g args args' v A A1 f w h hW ha
  unfold orcI at h
  split at h
  · rename_i s c hg
    cases h
    obtain rfl : g = 43 := beq_t hg
    obtain ⟨hl, hv⟩ := ha
    match args', hl, hv with
    | [x, y], _, hv =>
      have hx := hv 0 _ _ rfl rfl
      have hy := hv 1 _ _ rfl rfl
      cases hx
      cases hy
      refine ⟨⟨_, _, Tryz.func43, rfl⟩, callsIn_wide.2 ((Tryz.strings_IndexByte s c w).mono fun e w' ⟨he, hw⟩ => ?_)⟩
      subst hw
      refine ⟨f, _, ?_, Step.refl hW, .int _ _⟩
      rw [he, idxO_eq _ _ 0]
  · cases h
theorem noNum : ∀ (g : Nat) fn, Tryz.prog.funcs[g]? = some fn → fn.name ≠ "runtime.NumGoroutine" := by
  have h : Tryz.prog.funcs.toList.all (fun f => decide (f.name ≠ "runtime.NumGoroutine")) = true := by kernel_rfl
  intro g fn hf
  have := List.all_eq_true.1 h fn (List.mem_of_getElem? (i := g) (by rw [Array.getElem?_toList]; exact hf))
  exact of_decide_eq_true this
/-- The cell of the library's error that is looked at. -/
def Syn (w : World) : Prop := ∃ t fz b o, w.heap[1]? = some (.cells #[.iface 328 (.pointer (some ⟨b, o, none⟩))] t fz)
def hSyn (t : TypeId) (fz : Nat × Nat) : HT AObj := HT.set 64 .nil 1 (some (.cells [.iface 328 (.pointer (some ⟨1 + 1, 0, none⟩))] t fz 0))
abbrev bK : Value → AS → Bool := fun v _ => match v with
  | .bool b => b
  | _ => false
section
variable {P : Program} {orc : Orc} {base gm : Nat} {f : Ren} {w : World}
/-- A call with arguments that the machine runs to true returns true. -/
theorem startA_ok (hmix : P.follows .mixedOrders = true) (hgb : gm ≤ base) (horc : OrcOk P base gm orc) (hnum : ∀ (g : Nat) fn, P.funcs[g]? = some fn → fn.name ≠ "runtime.NumGoroutine") {n : Nat} {g : FuncId} {h : HT AObj} {nx : Nat}
    (hW : WR base gm f ⟨h, nx⟩ w) (hb : w.heap.size ≤ base) {args args' : List Value} (ha : LR f args args') (hs : callK P gm orc (runK P gm orc n) g args ⟨h, nx⟩ bK = true) : CallsIn Fence.wide 0 P g args'.toArray w fun e w' => e = .returned (.bool true) ∧ Ext w w' := by
  obtain ⟨_, h2⟩ := callK_ok (runK_ok hmix hgb horc hnum n) horc hnum hW ha hs
  refine h2.mono fun e w' ⟨f', v, v', A', he, hS, hv, hk⟩ => ?_
  subst he
  refine ⟨?_, hS.ext hW (Ext.refl w) hb⟩
  cases v with
  | bool t =>
    have hk : t = true := hk
    subst hk
    rw [hv.bool_inv]
  | _ => cases hk
end
def fSyn (b o : Nat) (a : Option Addr) : Ren := fun k => if k = 1 then some ⟨1, 0, none⟩ else if k = 1 + 1 then some ⟨b, o, none⟩ else
  if k = 1 + 2 then a.map (fun a => ⟨a.block, a.off, none⟩) else none
theorem wrSyn {w : World} {t : TypeId} {fz : Nat × Nat} {b o : Nat} (a : Option Addr) (hc : w.heap[1]? = some (.cells #[.iface 328 (.pointer (some ⟨b, o, none⟩))] t fz)) :
    WR w.heap.size (1 + 1) (fSyn b o a) ⟨hSyn t fz, 1 + 3⟩ w := by
  have hget : ∀ k, (hSyn t fz).get k = if k = 1 then some (.cells [.iface 328 (.pointer (some ⟨1 + 1, 0, none⟩))] t fz 0) else none := fun k => by
    unfold hSyn
    rw [HT.get_set 64 .nil _ k _ (by decide)]
    split
    · rfl
    · exact HT.get_nil k
  have live : ∀ k x, (hSyn t fz).get k = some x → k = 1 ∧ x = .cells [.iface 328 (.pointer (some ⟨1 + 1, 0, none⟩))] t fz 0 := fun k x hk => by
    rw [hget] at hk
    split at hk
    · rename_i e
      cases hk
      exact ⟨e, rfl⟩
    · cases hk
  refine ⟨fun k x hk => ?_, fun k1 k2 o1 o2 l1 l2 h1 h2 _ _ _ => ?_, fun k x l hk _ hg => ?_, fun k x hk => ?_, fun k hk => ?_, fun k x hk _ => ?_, (by decide : 1 + 1 ≤ 1 + 3), Nat.le_refl _, (by decide : 1 + 3 < 10000000000)⟩
  · obtain ⟨rfl, rfl⟩ := live k x hk
    refine ⟨_, if_pos rfl, .hard hc ?_⟩
    exact .cons (.iface _ (.ptr ⟨⟨b, o, none⟩, by simp [fSyn], by simp⟩)) (.nil _)
  · rw [(live k1 o1 h1).1, (live k2 o2 h2).1]
  · have := (live k x hk).1
    omega
  · have := (live k x hk).1
    show k < 1 + 3
    omega
  · have hk : 1 + 3 ≤ k := hk
    unfold fSyn
    rw [if_neg (by omega), if_neg (by omega), if_neg (by omega)]
  · obtain ⟨rfl, rfl⟩ := live k x hk
    exact if_pos rfl
theorem Syn.lt {w : World} (h : Syn w) : 1 < w.heap.size := by
  obtain ⟨t, fz, b, o, hc⟩ := h
  exact (Array.getElem?_eq_some_iff.1 hc).1
theorem Syn.ext {w w' : World} (h : Syn w) (hE : Ext w w') : Syn w' := by
  obtain ⟨t, fz, b, o, hc⟩ := h
  exact ⟨t, fz, b, o, (Below.block hE _ (Array.getElem?_eq_some_iff.1 hc).1).trans hc⟩
set_option maxRecDepth 1000000 in
theorem awake_run : ∀ t fz, callK Tryz.prog (1 + 1) orcI (runK Tryz.prog (1 + 1) orcI 5000) 9 [] ⟨hSyn t fz, 1 + 3⟩ bK = true := fun t fz => by kernel_rfl
theorem awake_any (w : World) (h : Syn w) : Calls Tryz.prog 9 #[] w fun e w' => e = .returned (.bool true) ∧ Ext w w' := by
  have hlt := h.lt
  obtain ⟨t, fz, b, o, hc⟩ := h
  exact callsIn_wide.1 (startA_ok (by kernel_rfl) hlt orcI_ok noNum (wrSyn none hc) (Nat.le_refl _) (LR.nil _) (awake_run t fz))
theorem Tryz.gSyn : Tryz.prog.globalNamed "strconv.ErrSyntax" = some 1 := by kernel_rfl
theorem Tryz.gSynT : (Tryz.prog.globals[1]?).map (·.type) = some 120 := by kernel_rfl
theorem Tryz.starE : "*" ++ "errors.errorString" = "*errors.errorString" := by decide
theorem Tryz.rowErr (u : TypeId) (h : Tryz.prog.typeName? 3 u = some "*errors.errorString") : u = 328 :=
  typeName_ptr_named (nm := "errors.errorString") (by rw [Tryz.starE]; kernel_rfl) (by kernel_rfl) (by decide) u (by rw [Tryz.starE]; exact h)
set_option maxRecDepth 100000 in
theorem syn_of {W : World} {t1 : List UInt8} {r1 : List (String × DataW Unit)} (h1 : laidMet Tryz.prog (("strconv.ErrSyntax", .iface "*errors.errorString" (.ptr (.agg [.lit (.string t1)]))) :: r1) W) : Syn W := by
  obtain ⟨a0, _, hv0, hc, _, _⟩ := laid_sentinel h1 Tryz.gSyn Tryz.gSynT Tryz.underlying120 Tryz.rowErr Tryz.underlying328 Tryz.underlying330 rfl rfl Tryz.underlying9 (by kernel_rfl) (by kernel_rfl)
  have hs := World.cell?_spot hc
  obtain ⟨b, o, s⟩ := a0
  obtain rfl : s = none := hs
  unfold World.var? at hv0
  rw [Tryz.gSyn] at hv0
  simp only [Option.bind_some] at hv0
  split at hv0
  · rename_i cs t fz hh
    cases hv0
    exact ⟨t, fz, b, o, hh⟩
  · cases hv0
end Go.Proofs.YtpfmjagbjdkdcaaGreatDoor.Am
