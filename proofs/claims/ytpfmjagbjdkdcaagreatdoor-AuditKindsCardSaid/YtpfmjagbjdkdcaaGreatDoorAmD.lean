/- Operations that only read, or lay one block: what they give, one by one. -/
import Derived.Test.YtpfmjagbjdkdcaaGreatDoorAmC
import Derived.Laws.Slices
set_option linter.unusedSimpArgs false
set_option linter.unusedVariables false
namespace Go.Proofs.YtpfmjagbjdkdcaaGreatDoor.Am
open Go.Proofs.YtpfmjagbjdkdcaaGreatDoor Go.RowKit

section
variable {P : Program} {base gm : Nat} {f : Ren} {A : AS} {w : World}
theorem FOut.read {id : Nat} {v v' : Value} (h : VR f v v') : FOut f id w v none v' w := ⟨⟨rfl, rfl, rfl⟩, rfl, h⟩
theorem FOut.new {id : Nat} {cs cs' : List Value} (t : TypeId) {v v' : Value} (hid : f id = none) (h : LR f cs cs') (hv : VR (f.put id ⟨w.heap.size, 0, none⟩) v v') :
    FOut f id w v (some (.cells cs t (0, 0) 0)) v' { w with heap := w.heap.push (.cells cs'.toArray t) } :=
  ⟨⟨rfl, rfl, rfl⟩, ⟨w.heap.size, 0, none⟩, _, rfl, rfl, .hard (by simp) (h.mono (Ren.le_put _ hid)), hv⟩
theorem FOut.obj {id : Nat} {o : AObj} {o' : Obj} {v v' : Value} (h : OR (f.put id ⟨w.heap.size, 0, none⟩) o o') (hv : VR (f.put id ⟨w.heap.size, 0, none⟩) v v') :
    FOut f id w v (some o) v' { w with heap := w.heap.push o' } :=
  ⟨⟨rfl, rfl, rfl⟩, ⟨w.heap.size, 0, none⟩, _, rfl, rfl, .obj (by simp) h, hv⟩
theorem VR.new (f : Ren) (id b : Nat) : VR (f.put id ⟨b, 0, none⟩) (.pointer (some ⟨id, 0, none⟩)) (.pointer (some ⟨b, 0, none⟩)) := .ptr ⟨_, Ren.put_same _ _ _, rfl⟩
theorem VR.newSlice (f : Ren) (id b n c : Nat) : VR (f.put id ⟨b, 0, none⟩) (.slice (some ⟨id, 0, none⟩) n c) (.slice (some ⟨b, 0, none⟩) n c) := .sl ⟨_, Ren.put_same _ _ _, rfl⟩ rfl
theorem VR.cells {v v' : Value} (h : VR f v v') : LR f v.cells.toList v'.cells.toList := by
  cases h with
  | agg hx hxs => exact ⟨by simpa [Value.cells] using hx, fun i a b ha hb => hxs i a b (by simpa [Value.cells] using ha) (by simpa [Value.cells] using hb)⟩
  | bool b => exact .cons (.bool b) (.nil f)
  | int k n => exact .cons (.int k n) (.nil f)
  | str s => exact .cons (.str s) (.nil f)
  | nilp => exact .cons .nilp (.nil f)
  | ptr e => exact .cons (.ptr e) (.nil f)
  | nils n c => exact .cons (.nils n c) (.nil f)
  | sl e hp => exact .cons (.sl e hp) (.nil f)
  | soft e hs h1 h2 hc hp => exact .cons (.soft e hs h1 h2 hc hp) (.nil f)
  | emp e hs hb hp hq hc => exact .cons (.emp e hs hb hp hq hc) (.nil f)
  | nilm => exact .cons .nilm (.nil f)
  | map e => exact .cons (.map e) (.nil f)
  | nilf => exact .cons .nilf (.nil f)
  | func e hx hxs hy hys => exact .cons (.func e hx hxs hy hys) (.nil f)
  | nili => exact .cons .nili (.nil f)
  | iface t e => exact .cons (.iface t e) (.nil f)
  | tuple hx hxs => exact .cons (.tuple hx hxs) (.nil f)
theorem AR.add {a a' : Addr} (h : AR f a a') (n : Nat) : AR f (a.add n) (a'.add n) := by
  obtain ⟨l, hl, rfl⟩ := h
  unfold Addr.add
  by_cases hn : n = 0
  · rw [if_pos hn, if_pos hn]; exact ⟨l, hl, rfl⟩
  · rw [if_neg hn, if_neg hn]; exact ⟨l, hl, by simp only [Addr.mk.injEq]; exact ⟨trivial, by omega, trivial⟩⟩
theorem run_newRow (t : TypeId) (cs : Array Value) : (newRow t cs).run P w = .ok ⟨w.heap.size, 0, none⟩ { w with heap := w.heap.push (.cells cs t) } := by simp [newRow]
theorem run_sizeOf' {t : TypeId} {i : TypeInfo} (h : P.info? t = some i) (w : World) : (sizeOf t).run P w = .ok i.size w := by simp [sizeOf, typeInfo, h]
theorem run_typeInfo' {t : TypeId} {i : TypeInfo} (h : P.info? t = some i) (w : World) : (typeInfo t).run P w = .ok i w := by simp [typeInfo, h]

/-! ### Runs that ask nothing of the world -/
def pureRun {α : Type} (P : Program) : Sem α → Option α
  | .pure a => some a
  | .program k => pureRun P (k P)
  | .mark _ k => pureRun P k
  | _ => none
theorem pureRun_ok {α : Type} : ∀ (s : Sem α) (a : α), pureRun P s = some a → ∀ w, s.run P w = .ok a w := by
  intro s
  induction s with
  | pure x => intro a h w; cases h; rfl
  | program k ih => intro a h w; exact ih P a h w
  | mark m k ih => intro a h w; exact ih a h w
  | _ => intro a h; cases h

/-! ### Zero values, loads -/
def zeroA (P : Program) (t : TypeId) : Option Value :=
  match P.info? t with
  | some i => match i.zero with
    | some z => match noA 60 z with
      | true => some z
      | false => none
    | none => none
  | none => none
theorem zeroA_ok {t : TypeId} {z : Value} (h : zeroA P t = some z) : (∀ w, (zeroValue t).run P w = .ok z w) ∧ ∀ f, VR f z z := by
  unfold zeroA at h
  split at h
  · rename_i i hi
    split at h
    · rename_i z' hz
      split at h
      · rename_i hn
        cases h
        exact ⟨fun w => by simp [zeroValue, typeInfo, hi, hz], fun f => noA_refl f 60 _ hn⟩
      · cases h
    · cases h
  · cases h
def loadA (P : Program) (h : HT AObj) (t : TypeId) (a : Addr) : Option Value :=
  match P.underlying t with
  | some (.struct _) | some (.array _ _) => match P.info? t with
    | some i => match cellsN h a i.size with
      | some cs => some (.agg cs.toArray)
      | none => none
    | none => none
  | some _ => cell h a 0
  | none => none
theorem cell_spot {h : HT AObj} {a : Addr} {j : Nat} {v : Value} (e : cell h a j = some v) : a.spot = none := by
  unfold cell at e
  split at e
  · cases e
  · assumption
theorem loadA_ok (hW : WR base gm f A w) {t : TypeId} {a a' : Addr} (ha : AR f a a') {v : Value} (h : loadA P A.h t a = some v) :
    ∃ v', (loadVar t a').run P w = .ok v' w ∧ VR f v v' := by
  have agg : ∀ d, P.underlying t = some d → (match d with | .struct _ | .array _ _ => true | _ => false) = true → (match P.info? t with
    | some i => match cellsN A.h a i.size with
      | some cs => some (.agg cs.toArray)
      | none => none
    | none => none) = some v → ∃ v', (loadVar t a').run P w = .ok v' w ∧ VR f v v' := fun d hu hd h => by
    split at h
    · rename_i i hi
      split at h
      · rename_i cs hc
        cases h
        obtain ⟨vs', hr, hl, _⟩ := cellsN_ok (P := P) hW ha hc
        refine ⟨.agg vs'.toArray, ?_, .agg' (by simpa using hl)⟩
        unfold loadVar isAgg
        cases d <;> first
          | (simp only [Bool.false_eq_true] at hd; done)
          | simp [run_underlying hu, run_sizeOf' hi, hr]
      · cases h
    · cases h
  unfold loadA at h
  split at h
  · rename_i fs hu
    exact agg _ hu rfl h
  · rename_i n e hu
    exact agg _ hu rfl h
  · rename_i d h1 h2 hu
    obtain ⟨v', hc, hv⟩ := cell_ok hW ha h
    have hsp := cell_spot h
    refine ⟨v', ?_, hv⟩
    obtain ⟨l, hl, rfl⟩ := ha
    rw [hsp]
    dsimp only at hc
    rw [Nat.add_zero] at hc
    unfold loadVar isAgg
    cases d <;> first
      | (exact (h1 _ hu).elim)
      | (exact (h2 _ _ hu).elim)
      | (exact (h1 _ rfl).elim)
      | (exact (h2 _ _ rfl).elim)
      | simp [run_underlying hu, hc]
  · cases h

/-! ### Places -/
def fFieldAddr (P : Program) (s : TypeId) (x : Value) (fl : Nat) : Option Value :=
  match P.underlying s, x with
  | some (.struct fs), .pointer (some a) => match fs[fl]? with
    | some fd => match P.info? fd.type with
      | some i => match Nat.beq i.size 0 with
        | true => none
        | false => some (.pointer (some (a.add fd.offset)))
      | none => none
    | none => none
  | _, _ => none
theorem fFieldAddr_ok {s : TypeId} {x x' : Value} {fl : Nat} {v : Value} (hx : VR f x x') (h : fFieldAddr P s x fl = some v) (w : World) :
    ∃ v', (Instr.fieldAt s x' fl).run P w = .ok v' w ∧ VR f v v' := by
  unfold fFieldAddr at h
  split at h
  · rename_i fs a hu
    split at h
    · rename_i fd hf
      split at h
      · rename_i i hi
        split at h
        · cases h
        · rename_i hb
          cases h
          have hz : ¬ i.size = 0 := fun e => by rw [e] at hb; cases hb
          cases hx with
          | ptr ha =>
            rename_i a'
            exact ⟨_, by simp [Instr.fieldAt, run_underlying hu, hf, Instr.sureAddr, fieldPlace, run_sizeOf' hi, hz], .ptr (ha.add _)⟩
      · cases h
    · cases h
  · cases h
def fIndexAddr (P : Program) (t : TypeId) (x ix : Value) : Option Value :=
  match ix with
  | .int _ (.ofNat i) => match P.underlying t, x with
    | some (.array n e), .pointer (some a) => match Nat.blt i n with
      | true => match P.info? e with
        | some nf => some (.pointer (some (a.add (i * nf.size))))
        | none => none
      | false => none
    | some (.slice e), .slice (some a) n _ => match Nat.blt i n with
      | true => match P.info? e with
        | some nf => some (.pointer (some ((strip a).add (i * nf.size))))
        | none => none
      | false => none
    | _, _ => none
  | _ => none
theorem blt_lt {a b : Nat} (h : Nat.blt a b = true) : a < b := by
  unfold Nat.blt at h
  exact Nat.le_of_ble_eq_true h
theorem VR.int_inv {k : IntKind} {n : Int} {v : Value} (h : VR f (.int k n) v) : v = .int k n := by cases h; rfl
theorem VR.slice_inv {a : Addr} {n c : Nat} {v : Value} (h : VR f (.slice (some a) n c) v) : ∃ a' c', v = .slice (some a') n c' ∧ (n ≠ 0 → AR f (strip a) a') ∧ c ≤ c' := by
  cases h with
  | sl ha hp => exact ⟨_, _, rfl, fun _ => (by obtain ⟨b, o, s⟩ := a; cases hp; exact ha), Nat.le_refl _⟩
  | soft e hs h1 h2 hc hp => exact ⟨_, _, rfl, fun _ => ⟨_, e, rfl⟩, hc⟩
  | emp _ _ _ _ _ _ => exact ⟨_, _, rfl, fun h => absurd rfl h, Nat.zero_le _⟩
theorem VR.ptr_inv {a : Addr} {v : Value} (h : VR f (.pointer (some a)) v) : ∃ a', v = .pointer (some a') ∧ AR f a a' := by
  cases h with | ptr ha => exact ⟨_, rfl, ha⟩
theorem fIndexAddr_ok {t : TypeId} {x x' ix ix' : Value} {v : Value} (hx : VR f x x') (hi : VR f ix ix') (h : fIndexAddr P t x ix = some v) (w : World) :
    ∃ v', (Instr.indexAt t x' ix').run P w = .ok v' w ∧ VR f v v' := by
  unfold fIndexAddr at h
  split at h
  · rename_i k i
    obtain rfl := hi.int_inv
    split at h
    · rename_i n e a hu
      split at h
      · rename_i hb
        have hb := blt_lt hb
        split at h
        · rename_i nf hn
          cases h
          obtain ⟨a', rfl, ha⟩ := hx.ptr_inv
          refine ⟨.pointer (some (a'.add (i * nf.size))), ?_, .ptr (ha.add _)⟩
          have h1 : (0 : Int) ≤ Int.ofNat i ∧ Int.ofNat i < (n : Int) := ⟨by simp, by simpa using hb⟩
          simp [Instr.indexAt, asIntOf, run_underlying hu, Instr.sureAddr, run_sizeOf' hn]
          intro hle; omega
        · cases h
      · cases h
    · rename_i e a n c hu
      split at h
      · rename_i hb
        have hb := blt_lt hb
        split at h
        · rename_i nf hn
          cases h
          obtain ⟨a', c', rfl, ha, _⟩ := hx.slice_inv
          refine ⟨.pointer (some (a'.add (i * nf.size))), ?_, .ptr ((ha (by omega)).add _)⟩
          simp [Instr.indexAt, asIntOf, run_underlying hu, run_sizeOf' hn]
          intro hle; omega
        · cases h
      · cases h
    · cases h
  · cases h
end
end Go.Proofs.YtpfmjagbjdkdcaaGreatDoor.Am
