/- Comparisons with nil, lengths, conversions, look-ups, rows that are made, iterators. -/
import Derived.Test.YtpfmjagbjdkdcaaGreatDoorAmG
import Derived.Laws.BytesString
set_option linter.unusedSimpArgs false
set_option linter.unusedVariables false
namespace Go.Proofs.YtpfmjagbjdkdcaaGreatDoor.Am
open Go.Proofs.YtpfmjagbjdkdcaaGreatDoor Go.RowKit

section
variable {P : Program} {base gm : Nat} {f : Ren} {A : AS} {w : World}
/-- Equal? Where one side is nil, or both point into one block. -/
def eqA (d : TypeDesc) (x y : Value) : Option Bool :=
  match d, x, y with
  | .pointer _, .pointer none, .pointer (some _) | .pointer _, .pointer (some _), .pointer none => some false
  | .interface _, .nilIface, .iface _ _ | .interface _, .iface _ _, .nilIface => some false
  | .slice _, .slice none _ _, .slice (some _) _ _ | .slice _, .slice (some _) _ _, .slice none _ _ => some false
  | .map _ _, .map none, .map (some _) | .map _ _, .map (some _), .map none => some false
  | .func _ _ _, .nilFunc, .func _ _ _ | .func _ _ _, .func _ _ _, .nilFunc => some false
  | _, _, _ => none
def fEq (P : Program) (op : BinOp) (t : TypeId) (x y : Value) : Option Value :=
  match P.underlying t with
  | some d => match op, eqA d x y with
    | .eql, some b => some (.bool b)
    | .neq, some b => some (.bool (!b))
    | _, _ => none
  | none => none
theorem equal_run {t : TypeId} {d : TypeDesc} {x y x' y' : Value} {b : Bool} (hx : VR f x x') (hy : VR f y y') (hu : P.underlying t = some d) (h : eqA d x y = some b) (w : World) : (Op.equal t x' y').run P w = .ok b w := by
  have e : Op.equal t x' y' = Op.equalIn (9999 + 1) t x' y' := rfl
  rw [e, Op.equalIn]
  simp only [Sem.run_bind, run_underlying hu, Result.andThen_ok]
  unfold eqA at h
  split at h <;> cases h <;> cases hx <;> cases hy <;> rfl
theorem guard_run {t : TypeId} {d : TypeDesc} {x y x' y' : Value} {b : Bool} (hx : VR f x x') (hy : VR f y y') (h : eqA d x y = some b) (op : BinOp) (ox oy : Operand) (w : World) : (eqGuard op t ox oy x' y').run P w = .ok () w := by
  unfold eqA at h
  split at h <;> cases h <;> cases hx <;> cases hy <;> (unfold eqGuard; split <;> first | rfl | (simp only [Sem.run_bind, Sem.run_pure]; rfl))
theorem binOp_eq {t : TypeId} {d : TypeDesc} {x y x' y' : Value} {b : Bool} (hx : VR f x x') (hy : VR f y y') (h : eqA d x y = some b) :
    binOp .eql t x' y' = (do pure (.bool (← Op.equal t x' y'))) ∧ binOp .neq t x' y' = (do pure (.bool (!(← Op.equal t x' y')))) := by
  unfold eqA at h
  split at h <;> cases h <;> cases hx <;> cases hy <;> exact ⟨rfl, rfl⟩
theorem fEq_ok {op : BinOp} {t : TypeId} {x y x' y' v : Value} (hx : VR f x x') (hy : VR f y y') (h : fEq P op t x y = some v) (ox oy : Operand) (w : World) :
    (do eqGuard op t ox oy x' y'; binOp op t x' y').run P w = .ok v w ∧ VR f v v := by
  unfold fEq at h
  split at h
  · rename_i d hu
    split at h
    · rename_i b e
      cases h
      refine ⟨?_, .bool _⟩
      simp only [Sem.run_bind, guard_run hx hy e, Result.andThen_ok, (binOp_eq (t := t) hx hy e).1, equal_run hx hy hu e, Sem.run_pure]
    · rename_i b e
      cases h
      refine ⟨?_, .bool _⟩
      simp only [Sem.run_bind, guard_run hx hy e, Result.andThen_ok, (binOp_eq (t := t) hx hy e).2, equal_run hx hy hu e, Sem.run_pure]
    · cases h
  · cases h
/-! ### Lengths -/
def fLen (P : Program) (h : HT AObj) (t : TypeId) (x : Value) : Option Value :=
  match P.underlying t, x with
  | some (.slice _), .slice _ n _ => some (goInt n)
  | some (.array n _), _ => some (goInt n)
  | some (.map _ _), .map (some r) => match h.get r with
    | some (.map es _) => some (goInt es.length)
    | _ => none
  | _, _ => none
theorem fLen_ok (hW : WR base gm f A w) {t ty : TypeId} {ts : Array TypeId} (ht : ts[0]? = some t) {x x' v : Value} {xs : Array Value} (hxs : xs[0]? = some x') (hx : VR f x x') (h : fLen P A.h t x = some v) :
    (Builtin.len_ ts ty xs).run P w = .ok v w ∧ VR f v v := by
  unfold fLen at h
  split at h
  · rename_i e a n c hu
    cases h
    refine ⟨?_, .int _ _⟩
    have : ∃ a' c', x' = .slice a' n c' := by cases hx <;> exact ⟨_, _, rfl⟩
    obtain ⟨a', c', rfl⟩ := this
    simp [Builtin.len_, ht, hxs, run_underlying hu]
  · rename_i n e hu
    cases h
    refine ⟨?_, .int _ _⟩
    simp [Builtin.len_, ht, hxs, run_underlying hu]
  · rename_i k e r hu
    split at h
    · rename_i es c hg
      cases h
      obtain ⟨l, hl, ho⟩ := hW.ob _ _ hg
      cases hx with
      | map hr =>
        rw [hl] at hr
        cases hr
        cases ho with
        | obj hw ho =>
          cases ho with
          | map hs hk =>
            refine ⟨?_, .int _ _⟩
            simp [Builtin.len_, ht, hxs, run_underlying hu, getObj, Sem.run, hw, goInt, hs]
    · cases h
  · cases h
/-! ### Texts and bytes -/
def bytesOf : List Value → Option (List Int)
  | [] => some []
  | .int .u8 n :: l => match bytesOf l with
    | some r => some (n :: r)
    | none => none
  | _ => none
theorem bytesOf_ok : ∀ (l : List Value) (r : List Int), bytesOf l = some r → l = r.map (Value.int .u8)
  | [], r, h => by cases h; rfl
  | v :: l, r, h => by
    unfold bytesOf at h
    split at h
    · rename_i e; cases e
    · rename_i n l' e
      cases e
      split at h
      · rename_i r' hr
        cases h
        rw [bytesOf_ok l r' hr]
        rfl
      · cases h
    · cases h
theorem LR.ints {r : List Int} {l' : List Value} (h : LR f (r.map (Value.int .u8)) l') : l' = r.map (Value.int .u8) := by
  induction r generalizing l' with
  | nil => have := h.1; simpa using this.symm
  | cons n r ih =>
    cases l' with
    | nil => have := h.1; simp at this
    | cons v l' =>
      obtain ⟨a, b⟩ := h.tail
      rw [ih b]
      cases a
      rfl
def fBytesStr (P : Program) (h : HT AObj) (src dst : TypeId) (x : Value) : Option Value :=
  match P.underlying src, P.underlying dst, x with
  | some (.slice e), some .string, .slice (some a) n _ => match P.underlying e, n with
    | some (.int .u8), 0 => some (.string .empty)
    | some (.int .u8), n + 1 => match cellsN h (strip a) (n + 1) with
      | some cs => match bytesOf cs with
        | some r => some (.string ⟨(r.map fun n => UInt8.ofNat n.toNat).toArray⟩)
        | none => none
      | none => none
    | _, _ => none
  | _, _, _ => none
theorem foldl_push (r : List Int) : ∀ s : ByteArray, r.foldl (fun r n => r.push (UInt8.ofNat n.toNat)) s = ⟨(s.data.toList ++ r.map fun n => UInt8.ofNat n.toNat).toArray⟩ := by
  induction r with
  | nil => intro s; simp
  | cons n r ih =>
    intro s
    rw [List.foldl_cons, ih]
    simp [ByteArray.push]
theorem fBytesStr_ok (hW : WR base gm f A w) {src dst : TypeId} {x x' v : Value} (hx : VR f x x') (h : fBytesStr P A.h src dst x = some v) : (convert src dst x').run P w = .ok v w ∧ VR f v v := by
  unfold fBytesStr at h
  split at h
  · rename_i e a n c hs hd
    obtain ⟨a', c', rfl, ha, _⟩ := hx.slice_inv
    split at h
    · rename_i he
      cases h
      refine ⟨?_, .str _⟩
      rw [run_convert_bytes_string w src dst e _ _ _ hs he hd, run_bytesToString w a' 0 c' [] (by simp [loadCells, loadCellsFrom])]
      rfl
    · rename_i n he
      split at h
      · rename_i cs hc
        split at h
        · rename_i r hr
          cases h
          obtain ⟨vs', hv, hl, hlen⟩ := cellsN_ok (P := P) hW (ha (by omega)) hc
          rw [bytesOf_ok _ _ hr] at hl
          rw [hl.ints] at hv
          refine ⟨?_, .str _⟩
          rw [run_convert_bytes_string w src dst e _ _ _ hs he hd, run_bytesToString w a' _ c' r hv, foldl_push]
          rfl
        · cases h
      · cases h
    · cases h
  · cases h
def fStrBytes (P : Program) (id : Nat) (src dst : TypeId) (x : Value) : Option (Value × Option AObj) :=
  match P.underlying src, P.underlying dst, x with
  | some .string, some (.slice e), .string s => match P.underlying e with
    | some (.int .u8) => some (.slice (some ⟨id, 0, some 0⟩) s.size s.size, some (.cells (s.data.toList.map fun b => .int .u8 b.toNat) e (0, 0) 1))
    | _ => none
  | _, _, _ => none
theorem fStrBytes_ok {id : Nat} (hid : f id = none) {src dst : TypeId} {x x' v : Value} {ob : Option AObj} (hx : VR f x x') (h : fStrBytes P id src dst x = some (v, ob)) :
    ∃ v' w', (convert src dst x').run P w = .ok v' w' ∧ FOut f id w v ob v' w' := by
  unfold fStrBytes at h
  split at h
  · rename_i e s hs hd
    split at h
    · rename_i he
      cases h
      cases hx
      obtain ⟨c, hc, w2, hw2, hr⟩ : ∃ c, s.size ≤ c ∧ ∃ w2 : World, (w2.os = w.os ∧ w2.tape = w.tape ∧ w2.output = w.output ∧ w2.heap = w.heap) ∧ (choose (.appendCap s.size 0 e)).run P w = .ok c w2 := by
        rw [run_choose]
        simp only [Question.forced, Bool.false_eq_true, if_false]
        exact ⟨(Question.appendCap s.size 0 e).cut (w.tape w.drawn (.appendCap s.size 0 e)), Nat.le_add_right _ _, { w with drawn := w.drawn + 1 }, ⟨rfl, rfl, rfl, rfl⟩, rfl⟩
      obtain ⟨h1, h2, h3, h4⟩ := hw2
      have hlen : s.data.toList.length = s.size := Array.length_toList
      have hds : s.data.size = s.size := rfl
      let cs' : Array Value := (s.data.map fun b => Value.int .u8 b.toNat) ++ Array.replicate (c - s.size) (.int .u8 0)
      have hsz : cs'.size = c := by simp only [cs', Array.size_append, Array.size_map, Array.size_replicate, hds]; omega
      refine ⟨.slice (some ⟨w.heap.size, 0, none⟩) s.size c, { w2 with heap := w.heap.push (.cells cs' e (c, c + 1)) }, ?_, ⟨h1, h2, h3⟩, ⟨w.heap.size, 0, some (1, s.size, c)⟩, .cells cs' e (c, c + 1), rfl, rfl, ?_, ?_⟩
      · have hne : ¬ ((0 : Nat) == 1) = true := by decide
        simp only [convert, Sem.run_bind, run_underlying hs, run_underlying hd, Result.andThen_ok, run_underlying he, Conv.stringToBytes, hr, run_newRow, markStringish, run_shape]
        rw [h4]
        have hsh : ({ w2 with heap := w.heap.push (.cells cs' e) } : World).shape? w.heap.size = some (e, c) := by
          simp only [World.shape?, Array.getElem?_push_size, hsz]
        rw [hsh]
        simp only [run_freeze, Result.andThen_ok, Sem.run_pure]
        congr 1
        unfold World.freeze
        rw [if_neg (by decide)]
        simp only [World.mk.injEq, and_true]
        apply Array.ext_getElem?
        intro i
        rw [Array.getElem?_modify]
        by_cases hi : w.heap.size = i
        · subst hi
          rw [if_pos rfl, Array.getElem?_push_size, Array.getElem?_push_size]
          rfl
        · rw [if_neg hi, Array.getElem?_push, Array.getElem?_push, if_neg (fun h => hi h.symm), if_neg (fun h => hi h.symm)]
      · refine .soft (cs' := cs') (fz' := (c, c + 1)) (by simp) (by omega) (by rw [List.length_map]; exact hlen) hsz (by omega) (fun i hi hc2 => by have := hc2.1; omega) fun i u hu => ?_
        refine ⟨u, ?_, ?_⟩
        · have hi : i < s.data.size := by
            have := (List.getElem?_eq_some_iff.1 hu).1
            simpa using this
          show cs'[i + 0]? = some u
          rw [Nat.add_zero]
          simp only [cs']
          rw [Array.getElem?_append_left (by simpa using hi)]
          simpa using hu
        · rw [List.getElem?_map] at hu
          cases hg : s.data.toList[i]? with
          | none => rw [hg] at hu; cases hu
          | some b => rw [hg] at hu; cases hu; exact .int _ _
      · exact .soft (l := ⟨w.heap.size, 0, some (1, s.size, c)⟩) (a := ⟨id, 0, some 0⟩) (Ren.put_same _ _ _) rfl (by show 0 + s.size * 1 = s.size; omega) (by show 0 + 0 + c * 1 = c; omega) hc rfl
    · cases h
  · cases h
end
end Go.Proofs.YtpfmjagbjdkdcaaGreatDoor.Am
