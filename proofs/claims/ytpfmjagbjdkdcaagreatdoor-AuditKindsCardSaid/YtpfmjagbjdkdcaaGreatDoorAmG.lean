/- Operations that lay one block; comparisons with nil; lengths. -/
import Derived.Test.YtpfmjagbjdkdcaaGreatDoorAmF
set_option linter.unusedSimpArgs false
set_option linter.unusedVariables false
namespace Go.Proofs.YtpfmjagbjdkdcaaGreatDoor.Am
open Go.Proofs.YtpfmjagbjdkdcaaGreatDoor Go.RowKit

section
variable {P : Program} {base gm : Nat} {f : Ren} {A : AS} {w : World}
/-! ### Parts laid into zeros -/
def setL : List Value → Nat → List Value → List Value
  | cs, _, [] => cs
  | cs, o, v :: vs => setL (cs.set o v) (o + 1) vs
def fillL (place : Nat → Option (Nat × Nat)) : List Value → List (Nat × Value) → Option (List Value)
  | cs, [] => some cs
  | cs, (i, v) :: rest => match place i with
    | none => none
    | some (o, s) => match Nat.beq v.cells.toList.length s, Nat.ble (o + s) cs.length with
      | true, true => fillL place (setL cs o v.cells.toList) rest
      | _, _ => none
theorem setL_len : ∀ (vs cs : List Value) (o : Nat), (setL cs o vs).length = cs.length
  | [], _, _ => rfl
  | v :: vs, cs, o => by rw [setL, setL_len vs, List.length_set]
theorem setL_fold (o : Nat) : ∀ (vs : List Value) (k : Nat) (cs : Array Value), ((vs.zipIdx k).foldl (fun (cs : Array Value) (p : Value × Nat) => cs.setIfInBounds (o + p.2) p.1) cs).toList = setL cs.toList (o + k) vs
  | [], _, _ => rfl
  | v :: vs, k, cs => by
    rw [List.zipIdx_cons, List.foldl_cons, setL_fold o vs (k + 1), setL]
    simp [Nat.add_assoc]
theorem LR.setL {x x' : List Value} (h : LR f x x') : ∀ (vs vs' : List Value) (o : Nat), LR f vs vs' → LR f (setL x o vs) (setL x' o vs')
  | [], [], _, _ => h
  | [], _ :: _, _, k => by have := k.1; simp at this
  | _ :: _, [], _, k => by have := k.1; simp at this
  | v :: vs, v' :: vs', o, k => by
    obtain ⟨a, b⟩ := k.tail
    exact LR.setL (h.set o a) vs vs' (o + 1) b
theorem fill_ok (place : Nat → Option (Nat × Nat)) {ρ ρ' : Operand → Value} : ∀ (l : List (Nat × Operand)) (cs : List Value) (cs' : Array Value) (out : List Value), (∀ p ∈ l, VR f (ρ p.2) (ρ' p.2)) → LR f cs cs'.toList →
    fillL place cs (l.map fun p => (p.1, ρ p.2)) = some out → ∃ out', Instr.fill place cs' (l.map fun p => (p.1, ρ' p.2)) = some out' ∧ LR f out out'.toList
  | [], cs, cs', out, _, hc, h => by cases h; exact ⟨cs', rfl, hc⟩
  | p :: l, cs, cs', out, hp, hc, h => by
    rw [List.map_cons, fillL] at h
    split at h
    · cases h
    · rename_i o s hpl
      split at h
      · rename_i h1 h2
        have h1 := beq_t h1
        have h2 := Nat.le_of_ble_eq_true h2
        have hv := VR.cells (hp p (by simp))
        have hl : (ρ' p.2).cells.size = s := by rw [← h1, hv.1]; simp
        have hcl : cs'.size = cs.length := by rw [hc.1]; simp
        rw [List.map_cons, Instr.fill]
        simp only [hpl]
        rw [if_neg (by simp [hl]; omega)]
        have e : ((ρ' p.2).cells.zipIdx.foldl (fun (cs : Array Value) (x : Value × Nat) => cs.setIfInBounds (o + x.2) x.1) cs').toList = Am.setL cs'.toList o (ρ' p.2).cells.toList := by
          rw [← Array.foldl_toList, Array.toList_zipIdx]
          exact setL_fold o _ 0 cs'
        exact fill_ok place l _ _ out (fun q hq => hp q (by simp [hq])) (by rw [e]; exact LR.setL hc _ _ o hv) h
      · cases h
/-- Zero cells, repeated. -/
def zerosL (z : List Value) (n : Nat) : List Value := (List.range n).map fun i => z.getD (i % z.length) default
theorem zerosL_ok {z : Value} (hz : ∀ f, VR f z z) (n : Nat) : LR f (zerosL z.cells.toList n) ((Array.range n).map (fun i => z.cells[i % z.cells.size]!)).toList := by
  rw [Array.toList_map, Array.toList_range]
  refine LR.map _ _ _ fun i _ => ?_
  have e : z.cells[i % z.cells.size]! = z.cells.toList.getD (i % z.cells.toList.length) default := by
    rw [Array.length_toList]
    simp [getElem!_def]
    cases z.cells[i % z.cells.size]? <;> rfl
  rw [e]
  have hc := VR.cells (hz f)
  rw [List.getD_eq_getElem?_getD]
  cases hg : z.cells.toList[i % z.cells.toList.length]? with
  | none => exact .bool _
  | some v => exact hc.2 _ v v hg hg
theorem mapM_ok {α β : Type} (g : α → Sem β) (k : α → β) : ∀ (l : List α), (∀ x ∈ l, (g x).run P w = .ok (k x) w) → (l.mapM g).run P w = .ok (l.map k) w
  | [], _ => by simp
  | a :: l, h => by
    rw [List.mapM_cons]
    simp only [Sem.run_bind, h a (by simp), Result.andThen_ok, mapM_ok g k l (fun x hx => h x (by simp [hx])), Sem.run_pure, List.map_cons]
def fBuild (P : Program) (t : TypeId) (ps : List (Nat × Value)) : Option Value :=
  match zeroA P t, P.underlying t with
  | some z, some (.struct fs) => match fs.toList.all fun fd => (P.info? fd.type).isSome with
    | true => match fillL (fun i => match fs[i]? with | some fd => some (fd.offset, P.cellsOf fd.type) | none => none) z.cells.toList ps with
      | some cs => some (.agg cs.toArray)
      | none => none
    | false => none
  | some z, some (.array _ e) => match P.info? e with
    | some i => match fillL (fun k => some (k * i.size, i.size)) z.cells.toList ps with
      | some cs => some (.agg cs.toArray)
      | none => none
    | none => none
  | _, _ => none
theorem cells_of {t : TypeId} {i : TypeInfo} (h : P.info? t = some i) : P.cellsOf t = i.size := by simp [Program.cellsOf, h]
theorem fBuild_ok {t : TypeId} {l : List (Nat × Operand)} {ρ ρ' : Operand → Value} {v : Value} (hp : ∀ p ∈ l, VR f (ρ p.2) (ρ' p.2)) (h : fBuild P t (l.map fun p => (p.1, ρ p.2)) = some v) (w : World) :
    ∃ v', (Instr.build t (l.map fun p => (p.1, ρ' p.2)).toArray).run P w = .ok v' w ∧ VR f v v' := by
  unfold fBuild at h
  split at h
  · rename_i z fs hz hu
    obtain ⟨hz1, hz2⟩ := zeroA_ok hz
    split at h
    · rename_i hall
      split at h
      · rename_i cs hf
        cases h
        obtain ⟨out', ho, hl⟩ := fill_ok (f := f) _ l z.cells.toList z.cells cs hp (VR.cells (hz2 f)) hf
        refine ⟨.agg out', ?_, .agg' (by simpa using hl)⟩
        have hm : (fs.mapM (fun (fd : Field) => do pure (fd.offset, ← sizeOf fd.type)) : Sem (Array (Nat × Nat))).run P w = .ok (fs.map fun fd : Field => (fd.offset, P.cellsOf fd.type)) w := by
          rw [Array.mapM_eq_mapM_toList]
          simp only [Sem.run_map]
          rw [mapM_ok _ (fun fd : Field => (fd.offset, P.cellsOf fd.type)) fs.toList (fun x hx => by
            obtain ⟨i, hi⟩ := Option.isSome_iff_exists.1 (List.all_eq_true.1 hall x hx)
            simp [run_sizeOf' hi, cells_of hi])]
          simp only [Result.andThen_ok]
          congr 1
          apply Array.ext'
          simp
        have hpl : (fun i : Nat => (fs.map fun fd : Field => (fd.offset, P.cellsOf fd.type))[i]?) = fun i : Nat => match fs[i]? with | some fd => some (fd.offset, P.cellsOf fd.type) | none => none := by
          funext i
          rw [Array.getElem?_map]
          cases fs[i]? <;> rfl
        simp only [Instr.build, Sem.run_bind, hz1, Result.andThen_ok, run_underlying hu, hm, hpl, ho, Sem.run_pure]
      · cases h
    · cases h
  · rename_i z n e hz hu
    obtain ⟨hz1, hz2⟩ := zeroA_ok hz
    split at h
    · rename_i i hi
      split at h
      · rename_i cs hf
        cases h
        obtain ⟨out', ho, hl⟩ := fill_ok (f := f) _ l z.cells.toList z.cells cs hp (VR.cells (hz2 f)) hf
        refine ⟨.agg out', ?_, .agg' (by simpa using hl)⟩
        simp only [Instr.build, Sem.run_bind, hz1, Result.andThen_ok, run_underlying hu, run_sizeOf' hi, ho, Sem.run_pure]
      · cases h
    · cases h
  · cases h
def fBuildSlice (P : Program) (id : Nat) (t : TypeId) (n : Nat) (ps : List (Nat × Value)) : Option (Value × Option AObj) :=
  match P.underlying t with
  | some (.slice e) => match P.info? e, zeroA P e with
    | some i, some z => match Nat.ble (n * i.size) 16777216, Nat.beq (n * i.size) 0 with
      | true, false => match fillL (fun k => some (k * i.size, i.size)) (zerosL z.cells.toList (n * i.size)) ps with
        | some cs => some (.slice (some ⟨id, 0, none⟩) n n, some (.cells cs e (0, 0) 0))
        | none => none
      | true, true => match fillL (fun k => some (k * i.size, i.size)) [] ps with
        | some cs => some (.slice (some ⟨id, 0, none⟩) n n, some (.cells cs e (0, 0) 0))
        | none => none
      | _, _ => none
    | _, _ => none
  | _ => none
theorem fBuildSlice_ok {id : Nat} (hid : f id = none) {t : TypeId} {n : Nat} {l : List (Nat × Operand)} {ρ ρ' : Operand → Value} {v : Value} {ob : Option AObj} (hp : ∀ p ∈ l, VR f (ρ p.2) (ρ' p.2))
    (h : fBuildSlice P id t n (l.map fun p => (p.1, ρ p.2)) = some (v, ob)) : ∃ v' w', (Instr.buildSlice t n (l.map fun p => (p.1, ρ' p.2)).toArray).run P w = .ok v' w' ∧ FOut f id w v ob v' w' := by
  unfold fBuildSlice at h
  split at h
  · rename_i e hu
    split at h
    · rename_i i z hi hz
      obtain ⟨hz1, hz2⟩ := zeroA_ok hz
      split at h
      · rename_i hle h0
        have hle := Nat.le_of_ble_eq_true hle
        have h0 := beq_f h0
        split at h
        · rename_i cs hf
          cases h
          obtain ⟨out', ho, hl⟩ := fill_ok (f := f) _ l _ ((Array.range (n * i.size)).map (fun k => z.cells[k % z.cells.size]!)) cs hp (zerosL_ok hz2 _) hf
          refine ⟨_, _, ?_, FOut.new e hid hl (VR.newSlice f id _ n n)⟩
          have hgt : ¬ n * i.size > 2 ^ 24 := by omega
          simp only [Instr.buildSlice, Sem.run_bind, run_underlying hu, Result.andThen_ok, run_sizeOf' hi, if_neg hgt, if_neg h0, hz1, Sem.run_pure, ho, run_newRow]
        · cases h
      · rename_i hle h0
        have h0 := beq_t h0
        split at h
        · rename_i cs hf
          cases h
          obtain ⟨out', ho, hl⟩ := fill_ok (f := f) _ l [] #[] cs hp (.nil f) hf
          refine ⟨_, _, ?_, FOut.new e hid hl (VR.newSlice f id _ n n)⟩
          have hgt : ¬ n * i.size > 2 ^ 24 := by omega
          have hz0 : ((Array.range (n * i.size)).map (fun k => (#[] : Array Value)[k % (#[] : Array Value).size]!)) = #[] := by rw [h0]; simp
          simp only [Instr.buildSlice, Sem.run_bind, run_underlying hu, Result.andThen_ok, run_sizeOf' hi, if_neg hgt, if_pos h0, Sem.run_pure, hz0, ho, run_newRow]
        · cases h
      · cases h
    · cases h
  · cases h
def fAlloc (P : Program) (id : Nat) (t : TypeId) : Option (Value × Option AObj) :=
  match zeroA P t with
  | some z => some (.pointer (some ⟨id, 0, none⟩), some (.cells z.cells.toList t (0, 0) 0))
  | none => none
theorem fAlloc_ok {id : Nat} (hid : f id = none) {t : TypeId} {v : Value} {ob : Option AObj} (h : fAlloc P id t = some (v, ob)) : ∃ v' w', (Instr.alloc t true (.tuple #[])).run P w = .ok v' w' ∧ FOut f id w v ob v' w' := by
  unfold fAlloc at h
  split at h
  · rename_i z hz
    cases h
    obtain ⟨hz1, hz2⟩ := zeroA_ok hz
    refine ⟨_, _, ?_, FOut.new t hid (VR.cells (hz2 f)) (VR.new f id _)⟩
    simp [Instr.alloc, hz1, newVar, run_newRow]
  · cases h
theorem fBox_ok {id : Nat} (hid : f id = none) {t : TypeId} {x x' : Value} (hx : VR f x x') : ∃ v' w', (Instr.box t x').run P w = .ok v' w' ∧ FOut f id w (.pointer (some ⟨id, 0, none⟩)) (some (.cells x.cells.toList t (0, 0) 0)) v' w' :=
  ⟨_, _, by simp [Instr.box, newVar, run_newRow], FOut.new t hid (VR.cells hx) (VR.new f id _)⟩
def fMakeMap (P : Program) (id : Nat) (t : TypeId) (r : Option Value) : Option (Value × Option AObj) :=
  match r, P.underlying t with
  | none, _ | some (.int _ _), some (.map _ _) => some (.map (some id), some (.map [] 0))
  | _, _ => none
theorem fMakeMap_ok {id : Nat} {t : TypeId} {r r' : Option Value} (hr : OVR f r r') {v : Value} {ob : Option AObj} (h : fMakeMap P id t r = some (v, ob)) : ∃ v' w', (Instr.makeMap t r').run P w = .ok v' w' ∧ FOut f id w v ob v' w' := by
  have hnew : FOut f id w (.map (some id)) (some (.map [] 0)) (.map (some w.heap.size)) { w with heap := w.heap.push (.map #[] 0) } :=
    FOut.obj (.map rfl fun i e e' h => by simp at h) (VR.map (L := ⟨w.heap.size, 0, none⟩) (Ren.put_same _ _ _))
  unfold fMakeMap at h
  split at h
  · cases h
    obtain rfl : r' = none := by cases r' with | none => rfl | some _ => exact hr.elim
    exact ⟨_, _, by simp [Instr.makeMap], hnew⟩
  · rename_i k n a b hu
    cases h
    obtain ⟨v', rfl, hv⟩ : ∃ v', r' = some v' ∧ VR f (.int k n) v' := by cases r' with | none => exact hr.elim | some v' => exact ⟨v', rfl, hr⟩
    obtain rfl := hv.int_inv
    exact ⟨_, _, by simp [Instr.makeMap, run_underlying hu, asInt, asIntOf], hnew⟩
  · cases h
end
end Go.Proofs.YtpfmjagbjdkdcaaGreatDoor.Am
