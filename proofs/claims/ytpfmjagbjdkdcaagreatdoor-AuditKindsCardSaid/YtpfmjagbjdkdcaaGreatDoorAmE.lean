/- Operations that only read, or lay one block: parts, structs, slices. -/
import Derived.Test.YtpfmjagbjdkdcaaGreatDoorAmD
set_option linter.unusedSimpArgs false
set_option linter.unusedVariables false
namespace Go.Proofs.YtpfmjagbjdkdcaaGreatDoor.Am
open Go.Proofs.YtpfmjagbjdkdcaaGreatDoor Go.RowKit

section
variable {P : Program} {base gm : Nat} {f : Ren} {A : AS} {w : World}
def partA (P : Program) (t : TypeId) (cs : List Value) (off : Nat) : Option Value :=
  match P.underlying t with
  | some (.struct _) | some (.array _ _) => match P.info? t with
    | some i => some (.agg ((cs.drop off).take i.size).toArray)
    | none => none
  | some _ => cs[off]?
  | none => none
theorem partA_ok {t : TypeId} {cs : Array Value} {cs' : Array Value} {off : Nat} {v : Value} (hc : LR f cs.toList cs'.toList) (h : partA P t cs.toList off = some v) (w : World) :
    ∃ v', (part t cs' off).run P w = .ok v' w ∧ VR f v v' := by
  have agg : ∀ d, P.underlying t = some d → (match d with | .struct _ | .array _ _ => true | _ => false) = true → (match P.info? t with
    | some i => some (.agg ((cs.toList.drop off).take i.size).toArray)
    | none => none) = some v → ∃ v', (part t cs' off).run P w = .ok v' w ∧ VR f v v' := fun d hu hd h => by
    split at h
    · rename_i i hi
      cases h
      refine ⟨.agg (cs'.extract off (off + i.size)), ?_, .agg' ?_⟩
      · unfold part isAgg
        cases d <;> first
          | (simp only [Bool.false_eq_true] at hd; done)
          | simp [run_underlying hu, run_sizeOf' hi]
      · rw [Array.toList_extract]
        have := (hc.drop off).take i.size
        simpa [List.extract_eq_take_drop] using this
    · cases h
  unfold partA at h
  split at h
  · rename_i fs hu
    exact agg _ hu rfl h
  · rename_i n e hu
    exact agg _ hu rfl h
  · rename_i d h1 h2 hu
    obtain ⟨v', e, hv⟩ := hc.get h
    have e' : cs'[off]? = some v' := by simpa using e
    refine ⟨v', ?_, hv⟩
    unfold part isAgg
    cases d <;> first
      | (exact (h1 _ hu).elim)
      | (exact (h2 _ _ hu).elim)
      | (exact (h1 _ rfl).elim)
      | (exact (h2 _ _ rfl).elim)
      | simp [run_underlying hu, e']
  · cases h
def fField (P : Program) (t : TypeId) (x : Value) (fl : Nat) : Option Value :=
  match P.underlying t, x with
  | some (.struct fs), .agg cs => match fs[fl]? with
    | some fd => partA P fd.type cs.toList fd.offset
    | none => none
  | _, _ => none
theorem fField_ok {t : TypeId} {x x' : Value} {fl : Nat} {v : Value} (hx : VR f x x') (h : fField P t x fl = some v) (w : World) : ∃ v', (Instr.field t x' fl).run P w = .ok v' w ∧ VR f v v' := by
  unfold fField at h
  split at h
  · rename_i fs cs hu
    split at h
    · rename_i fd hf
      obtain ⟨cs', rfl, hl⟩ := hx.agg_inv
      obtain ⟨v', hr, hv⟩ := partA_ok hl h w
      exact ⟨v', by simp [Instr.field, run_underlying hu, hf, asAgg, hr], hv⟩
    · cases h
  · cases h
def fIndex (P : Program) (t : TypeId) (x ix : Value) : Option Value :=
  match ix, P.underlying t, x with
  | .int _ (.ofNat i), some (.array n e), .agg cs => match Nat.blt i n, P.info? e with
    | true, some nf => partA P e cs.toList (i * nf.size)
    | _, _ => none
  | _, _, _ => none
theorem fIndex_ok {t : TypeId} {x x' ix ix' : Value} {v : Value} (hx : VR f x x') (hi : VR f ix ix') (h : fIndex P t x ix = some v) (w : World) :
    ∃ v', (Instr.index t x' ix').run P w = .ok v' w ∧ VR f v v' := by
  unfold fIndex at h
  split at h
  · rename_i k i n e cs hu
    obtain rfl := hi.int_inv
    obtain ⟨cs', rfl, hl⟩ := hx.agg_inv
    split at h
    · rename_i nf hb hn
      have hb := blt_lt hb
      obtain ⟨v', hr, hv⟩ := partA_ok hl h w
      exact ⟨v', by simp [Instr.index, asIntOf, run_underlying hu, run_sizeOf' hn, hb, hr], hv⟩
    · cases h
  · cases h
def fExtract (x : Value) (i : Nat) : Option Value :=
  match x with
  | .tuple vs => vs.toList[i]?
  | _ => none
theorem fExtract_ok {x x' : Value} {i : Nat} {v : Value} (hx : VR f x x') (h : fExtract x i = some v) (w : World) : ∃ v', (Instr.extract x' i).run P w = .ok v' w ∧ VR f v v' := by
  unfold fExtract at h
  split at h
  · obtain ⟨vs', rfl, hl⟩ := hx.tuple_inv
    obtain ⟨v', e, hv⟩ := hl.get h
    have e' : vs'[i]? = some v' := by simpa using e
    exact ⟨v', by simp [Instr.extract, e'], hv⟩
  · cases h
def fIface (P : Program) (t : TypeId) (x : Value) : Option Value :=
  match P.underlying t with
  | some (.interface _) => none
  | some _ => some (.iface t x)
  | none => none
theorem fIface_ok {t : TypeId} {x x' : Value} {v : Value} (hx : VR f x x') (h : fIface P t x = some v) (w : World) : ∃ v', (Instr.makeInterface t x').run P w = .ok v' w ∧ VR f v v' := by
  unfold fIface at h
  split at h
  · cases h
  · rename_i d h1 hu
    cases h
    refine ⟨.iface t x', ?_, .iface t hx⟩
    unfold Instr.makeInterface
    cases d <;> first
      | (exact (h1 _ hu).elim)
      | (exact (h1 _ rfl).elim)
      | simp [run_underlying hu]
  · cases h
def fFunc (g : Fn) (x y : Array Value) : Option Value :=
  match g with
  | .yield _ => none
  | g => some (.func g x y)
theorem AVR.of {x x' : List Value} (h : LR f x x') : x.toArray.size = x'.toArray.size ∧ ∀ (i : Nat) (v v' : Value), x.toArray[i]? = some v → x'.toArray[i]? = some v' → VR f v v' := ⟨by simpa using h.1, fun i v v' a b => h.2 i v v' (by simpa using a) (by simpa using b)⟩
theorem fFunc_ok {g : Fn} {x y x' y' : List Value} {v : Value} (hx : LR f x x') (hy : LR f y y') (h : fFunc g x.toArray y.toArray = some v) (w : World) :
    ∃ v', (Instr.makeFunc g x'.toArray y'.toArray).run P w = .ok v' w ∧ VR f v v' := by
  unfold fFunc at h
  split at h
  · cases h
  · rename_i h1
    cases h
    exact ⟨_, rfl, .func (.same fun l e => h1 l e) (AVR.of hx).1 (AVR.of hx).2 (AVR.of hy).1 (AVR.of hy).2⟩

/-! ### Slices -/
def bnd (x : Option Value) (d m : Nat) : Option Nat :=
  match x with
  | none => some d
  | some (.int _ (.ofNat i)) => match Nat.ble i m with
    | true => some i
    | false => none
  | _ => none
def soOf (h : HT AObj) (b : Nat) : Option Nat :=
  match h.get b with
  | some (.cells _ _ _ so) => some so
  | _ => none
def fSlice (P : Program) (h : HT AObj) (t : TypeId) (x : Value) (lo hi mx : Option Value) : Option Value :=
  match P.underlying t, x with
  | some (.slice e), .slice (some a) n c => match P.info? e, mx with
    | some nf, none => match bnd hi n c with
      | some u => match bnd lo 0 u with
        | some l => match a.spot with
          | none => match Nat.beq c l with
            | true => some (.slice (some a) (u - l) (c - l))
            | false => some (.slice (some (a.add (l * nf.size))) (u - l) (c - l))
          | some _ => match Nat.beq l 0 with
            | true => some (.slice (some a) u c)
            | false => match soOf h a.block with
              | some so => match Nat.beq so nf.size, Nat.blt l c with
                | true, true => some (.slice (some ⟨a.block, a.off + l * nf.size, a.spot⟩) (u - l) (c - l))
                | true, false => match Nat.beq c l, Nat.beq u l with
                  | true, true => some (.slice (some a) 0 0)
                  | _, _ => none
                | _, _ => none
              | none => none
        | none => none
      | none => none
    | some nf, some v => match bnd (some v) 0 c, hi with
      | some m, some hv => match bnd (some hv) 0 m with
        | some u => match bnd lo 0 u with
          | some l => match Nat.beq m l, Nat.beq c 0, a.spot with
            | true, false, _ => some (.slice (some (strip a)) (u - l) (m - l))
            | true, true, none => some (.slice (some a) (u - l) (m - l))
            | true, true, some _ => some (.slice (some a) 0 0)
            | false, _, _ => some (.slice (some ((strip a).add (l * nf.size))) (u - l) (m - l))
          | none => none
        | none => none
      | _, _ => none
    | _, _ => none
  | some (.array n e), .pointer (some a) => match P.info? e, mx, a.spot with
    | some nf, none, none => match bnd hi n n with
      | some u => match bnd lo 0 u with
        | some l => match Nat.beq n l with
          | true => some (.slice (some a) (u - l) (n - l))
          | false => some (.slice (some (a.add (l * nf.size))) (u - l) (n - l))
        | none => none
      | none => none
    | _, _, _ => none
  | _, _ => none
def OVR (f : Ren) (x x' : Option Value) : Prop := match x, x' with | none, none => True | some v, some v' => VR f v v' | _, _ => False
theorem bnd_le {x : Option Value} {d m k : Nat} (hd : x = none → d ≤ m) (h : bnd x d m = some k) : k ≤ m := by
  unfold bnd at h
  split at h
  · cases h; exact hd rfl
  · split at h
    · rename_i hb; cases h; exact Nat.le_of_ble_eq_true hb
    · cases h
  · cases h
theorem bnd_some {v v' : Value} {d m k : Nat} {code : BoundsCode} (hv : VR f v v') (h : bnd (some v) d m = some k) (m' : Nat) (hm : m ≤ m') (w : World) : (Instr.sliceBound v' m' code).run P w = .ok k w := by
  unfold bnd at h
  split at h
  · rename_i e; cases e
  · rename_i k2 i e
    cases e
    obtain rfl := hv.int_inv
    split at h
    · rename_i hb
      cases h
      have hb := Nat.le_of_ble_eq_true hb
      simp [Instr.sliceBound, asIntOf]
      intro hlt
      omega
    · cases h
  · cases h
/-- The bounds of a slice without a bound on its room. -/
theorem bounds2 {isS : Bool} {n c c' h l : Nat} {lo hi lo' hi' : Option Value} (hl : OVR f lo lo') (hh : OVR f hi hi') (hc : c ≤ c') (e1 : bnd hi n c = some h) (e2 : bnd lo 0 h = some l) (w : World) :
    (Instr.sliceBounds isS n c' lo' hi' none).run P w = .ok (l, h, c') w := by
  cases hi <;> cases hi' <;> (try exact hh.elim) <;> cases lo <;> cases lo' <;> (try exact hl.elim)
  · cases e1; cases e2; simp [Instr.sliceBounds]
  · cases e1; simp [Instr.sliceBounds, bnd_some hl e2 _ (Nat.le_refl _) w]
  · cases e2; simp [Instr.sliceBounds, bnd_some hh e1 c' hc w]
  · simp [Instr.sliceBounds, bnd_some hh e1 c' hc w, bnd_some hl e2 _ (Nat.le_refl _) w]
theorem bounds3 {isS : Bool} {n c c' h l m : Nat} {v v' u u' : Value} {lo lo' : Option Value} (hl : OVR f lo lo') (hv : VR f v v') (hu : VR f u u') (hc : c ≤ c') (e0 : bnd (some v) 0 c = some m) (e1 : bnd (some u) 0 m = some h) (e2 : bnd lo 0 h = some l) (w : World) :
    (Instr.sliceBounds isS n c' lo' (some u') (some v')).run P w = .ok (l, h, m) w := by
  cases lo <;> cases lo' <;> (try exact hl.elim)
  · cases e2; simp [Instr.sliceBounds, bnd_some hv e0 c' hc w, bnd_some hu e1 m (Nat.le_refl _) w]
  · simp [Instr.sliceBounds, bnd_some hv e0 c' hc w, bnd_some hu e1 m (Nat.le_refl _) w, bnd_some hl e2 _ (Nat.le_refl _) w]
end
end Go.Proofs.YtpfmjagbjdkdcaaGreatDoor.Am
