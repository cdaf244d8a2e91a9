/- All operations that only read, or lay one block. -/
import Derived.Test.YtpfmjagbjdkdcaaGreatDoorAmI
set_option linter.unusedSimpArgs false
set_option linter.unusedVariables false
namespace Go.Proofs.YtpfmjagbjdkdcaaGreatDoor.Am
open Go.Proofs.YtpfmjagbjdkdcaaGreatDoor Go.RowKit

section
variable {P : Program} {base gm : Nat} {f : Ren} {A : AS} {w : World}
def pureF (P : Program) (ρ : Operand → Value) (o : Oper) : Option (Value × Option AObj) :=
  match o.op.operands.toList.all fun x => noA 60 (ρ x) with
  | true => match pureRun P (execOp ρ o) with
    | some (.value v) => match noA 60 v with
      | true => some (v, none)
      | false => none
    | _ => none
  | false => none
def rd (x : Option Value) : Option (Value × Option AObj) :=
  match x with
  | some v => some (v, none)
  | none => none
def orP (x : Option Value) (y : Option (Value × Option AObj)) : Option (Value × Option AObj) :=
  match x with
  | some v => some (v, none)
  | none => y
def flt (P : Program) (ρ : Operand → Value) (o : Oper) (id : Nat) (h : HT AObj) : Option (Value × Option AObj) :=
  match o.op with
  | .move x | .assign x => some (ρ x, none)
  | .pick c a b => match ρ c with
    | .bool true => some (ρ a, none)
    | .bool false => some (ρ b, none)
    | _ => none
  | .alloc t => fAlloc P id t
  | .box t x => some (.pointer (some ⟨id, 0, none⟩), some (.cells (ρ x).cells.toList t (0, 0) 0))
  | .build t ps => rd (fBuild P t (ps.toList.map fun p => (p.1, ρ p.2)))
  | .buildSlice t n ps => fBuildSlice P id t n (ps.toList.map fun p => (p.1, ρ p.2))
  | .load t x => match ρ x with
    | .pointer (some a) => rd (loadA P h t a)
    | _ => none
  | .nilCheck x => match ρ x with
    | .pointer (some a) => some (.pointer (some a), none)
    | .func (.func g) x y => some (.func (.func g) x y, none)
    | _ => none
  | .fieldAddr s x i => rd (fFieldAddr P s (ρ x) i)
  | .indexAddr t x i => rd (fIndexAddr P t (ρ x) (ρ i))
  | .slice t x lo hi mx => match ρ x with
    | .string _ => pureF P ρ o
    | .slice none _ _ => pureF P ρ o
    | v => rd (fSlice P h t v (lo.map ρ) (hi.map ρ) (mx.map ρ))
  | .field t x i => rd (fField P t (ρ x) i)
  | .index t x i => match ρ x with
    | .string _ => pureF P ρ o
    | v => rd (fIndex P t v (ρ i))
  | .extract t i => rd (fExtract (ρ t) i)
  | .makeInterface t x => rd (fIface P t (ρ x))
  | .makeFunc g x y => rd (fFunc g (x.toList.map ρ).toArray (y.toList.map ρ).toArray)
  | .makeMap t m => fMakeMap P id t (m.map ρ)
  | .makeSlice t l c => fMakeSlice P id t (ρ l) (ρ c)
  | .range t x => fRange P h id t (ρ x)
  | .lookup t x k ok => rd (fLookup P h t (ρ x) (ρ k) ok)
  | .entry x => rd (fEntry h (ρ x))
  | .convert s d x => match ρ x with
    | .slice (some a) n c => rd (fBytesStr P h s d (.slice (some a) n c))
    | .string t => match fStrBytes P id s d (.string t) with
      | some r => some r
      | none => pureF P ρ o
    | _ => pureF P ρ o
  | .unOp _ _ _ => pureF P ρ o
  | .binOp op t x y _ => match ρ x with
    | .int _ _ => pureF P ρ o
    | _ => orP (fEq P op t (ρ x) (ρ y)) (pureF P ρ o)
  | .call ⟨.builtin .len, args, ts⟩ => match ts[0]?, args[0]? with
    | some t, some x => orP (fLen P h t (ρ x)) (pureF P ρ o)
    | _, _ => none
  | .call ⟨.builtin .min, _, _⟩ | .call ⟨.builtin .max, _, _⟩ | .call ⟨.builtin .cap, _, _⟩ => pureF P ρ o
  | _ => none
theorem vrun {s : Sem Value} {v : Value} {w w' : World} (h : s.run P w = .ok v w') : (do pure (Next.value (← s)) : Sem Next).run P w = .ok (.value v) w' := by simp [h]
theorem pureF_ok {id : Nat} {ρ ρ' : Operand → Value} {o : Oper} {v : Value} {ob : Option AObj} (hρ : ∀ x ∈ o.op.operands, VR f (ρ x) (ρ' x)) (hs : ∀ cs b, o.op ≠ .select cs b) (h : pureF P ρ o = some (v, ob)) :
    ∃ v' w', (execOp ρ' o).run P w = .ok (.value v') w' ∧ FOut f id w v ob v' w' := by
  unfold pureF at h
  split at h
  · rename_i hall
    split at h
    · rename_i v2 hr
      split at h
      · rename_i hn
        cases h
        have e : execOp ρ' o = execOp ρ o := execOp_congr o hs fun x hx => noA_eq 60 _ _ (List.all_eq_true.1 hall x (by simpa using hx)) (hρ x hx)
        exact ⟨v, w, by rw [e]; exact pureRun_ok _ _ hr w, FOut.read (noA_refl f 60 v hn)⟩
      · cases h
    · cases h
  · cases h
theorem rd_inv {x : Option Value} {v : Value} {ob : Option AObj} (h : rd x = some (v, ob)) : x = some v ∧ ob = none := by
  unfold rd at h
  split at h
  · cases h; exact ⟨rfl, rfl⟩
  · cases h
theorem orP_inv {x : Option Value} {y : Option (Value × Option AObj)} {v : Value} {ob : Option AObj} (h : orP x y = some (v, ob)) : (x = some v ∧ ob = none) ∨ y = some (v, ob) := by
  unfold orP at h
  split at h
  · cases h; exact .inl ⟨rfl, rfl⟩
  · exact .inr h
theorem OVR.map {ρ ρ' : Operand → Value} {x : Option Operand} (h : ∀ y, x = some y → VR f (ρ y) (ρ' y)) : OVR f (x.map ρ) (x.map ρ') := by
  cases x with
  | none => trivial
  | some y => exact h y rfl
set_option maxHeartbeats 2000000 in
theorem flt_ok (hW : WR base gm f A w) {id : Nat} (hid : f id = none) {ρ ρ' : Operand → Value} {o : Oper} {v : Value} {ob : Option AObj} (hρ : ∀ x ∈ o.op.operands, VR f (ρ x) (ρ' x))
    (h : flt P ρ o id A.h = some (v, ob)) : ∃ v' w', (execOp ρ' o).run P w = .ok (.value v') w' ∧ FOut f id w v ob v' w' := by
  have hp : ∀ v2 ob2, (∀ cs b, o.op ≠ .select cs b) → pureF P ρ o = some (v2, ob2) → ∃ v' w', (execOp ρ' o).run P w = .ok (.value v') w' ∧ FOut f id w v2 ob2 v' w' := fun v2 ob2 hs h => pureF_ok hρ hs h
  obtain ⟨dst, op, type, pos, after, guard⟩ := o
  have R : ∀ {s : Sem Value} {u u' : Value}, s.run P w = .ok u' w → VR f u u' → ∃ v' w', (do pure (Next.value (← s)) : Sem Next).run P w = .ok (.value v') w' ∧ FOut f id w u none v' w' := fun hr hv => ⟨_, _, vrun hr, FOut.read hv⟩
  have S : ∀ {s : Sem Value} {u : Value} {ob : Option AObj}, (∃ v' w', s.run P w = .ok v' w' ∧ FOut f id w u ob v' w') → ∃ v' w', (do pure (Next.value (← s)) : Sem Next).run P w = .ok (.value v') w' ∧ FOut f id w u ob v' w' := fun ⟨v', w', hr, hF⟩ => ⟨v', w', vrun hr, hF⟩
  unfold flt at h
  cases op with
  | move x => cases h; exact ⟨_, _, rfl, FOut.read (hρ x (by simp [Op.operands]))⟩
  | assign x => cases h; exact ⟨_, _, rfl, FOut.read (hρ x (by simp [Op.operands]))⟩
  | pick c a b =>
    have hc := hρ c (by simp [Op.operands])
    dsimp only at h
    split at h
    · rename_i e
      cases h
      rw [e] at hc
      have e' : ρ' c = .bool true := by generalize ρ' c = z at hc; cases hc; rfl
      exact ⟨ρ' a, w, by simp [execOp, asBool, e'], FOut.read (hρ a (by simp [Op.operands]))⟩
    · rename_i e
      cases h
      rw [e] at hc
      have e' : ρ' c = .bool false := by generalize ρ' c = z at hc; cases hc; rfl
      exact ⟨ρ' b, w, by simp [execOp, asBool, e'], FOut.read (hρ b (by simp [Op.operands]))⟩
    · cases h
  | alloc t => exact S (fAlloc_ok hid h)
  | box t x => cases h; exact S (fBox_ok hid (hρ x (by simp [Op.operands])))
  | build t ps =>
    obtain ⟨e0, rfl⟩ := rd_inv h
    obtain ⟨v', hr, hv⟩ := fBuild_ok (ρ' := ρ') (fun p hq => hρ p.2 (by simp [Op.operands]; exact ⟨p.1, by simpa using hq⟩)) e0 w
    refine ⟨v', w, ?_, FOut.read hv⟩
    have e : (ps.map fun (i, x) => (i, ρ' x)) = (ps.toList.map fun p => (p.1, ρ' p.2)).toArray := by apply Array.ext'; simp
    show (do pure (Next.value (← Instr.build t (ps.map fun (i, x) => (i, ρ' x)))) : Sem Next).run P w = _
    rw [e]
    exact vrun hr
  | buildSlice t n ps =>
    obtain ⟨v', w', hr, hF⟩ := fBuildSlice_ok (ρ' := ρ') (w := w) hid (fun p hq => hρ p.2 (by simp [Op.operands]; exact ⟨p.1, by simpa using hq⟩)) h
    refine ⟨v', w', ?_, hF⟩
    have e : (ps.map fun (i, x) => (i, ρ' x)) = (ps.toList.map fun p => (p.1, ρ' p.2)).toArray := by apply Array.ext'; simp
    show (do pure (Next.value (← Instr.buildSlice t n (ps.map fun (i, x) => (i, ρ' x)))) : Sem Next).run P w = _
    rw [e]
    exact vrun hr
  | load t x =>
    have hx := hρ x (by simp [Op.operands])
    dsimp only at h
    split at h
    · rename_i a e
      obtain ⟨e0, rfl⟩ := rd_inv h
      rw [e] at hx
      obtain ⟨a', e', ha⟩ := hx.ptr_inv
      obtain ⟨v', hr, hv⟩ := loadA_ok (P := P) hW ha e0
      exact R (s := Instr.loadAt t (ρ' x)) (by rw [e']; simpa [Instr.loadAt, Instr.sureAddr] using hr) hv
    · cases h
  | nilCheck x =>
    have hx := hρ x (by simp [Op.operands])
    dsimp only at h
    split at h
    · rename_i a e
      cases h
      rw [e] at hx
      obtain ⟨a', e', ha⟩ := hx.ptr_inv
      exact ⟨.pointer (some a'), w, by simp [execOp, e'], FOut.read (.ptr ha)⟩
    · rename_i g y z e
      cases h
      rw [e] at hx
      obtain ⟨y', z', e'⟩ : ∃ y' z', ρ' x = .func (.func g) y' z' := by
        generalize ρ' x = q at hx
        cases hx with | func hg _ _ _ _ => cases hg; exact ⟨_, _, rfl⟩
      exact ⟨ρ' x, w, by simp [execOp, e'], FOut.read hx⟩
    · cases h
  | fieldAddr s x i =>
    obtain ⟨e0, rfl⟩ := rd_inv h
    obtain ⟨v', hr, hv⟩ := fFieldAddr_ok (hρ x (by simp [Op.operands])) e0 w
    exact R hr hv
  | indexAddr t x i =>
    obtain ⟨e0, rfl⟩ := rd_inv h
    obtain ⟨v', hr, hv⟩ := fIndexAddr_ok (hρ x (by simp [Op.operands])) (hρ i (by simp [Op.operands])) e0 w
    exact R hr hv
  | slice t x lo hi mx =>
    dsimp only at h
    split at h
    · exact hp _ _ (by simp) h
    · exact hp _ _ (by simp) h
    · obtain ⟨e0, rfl⟩ := rd_inv h
      obtain ⟨v', hr, hv⟩ := fSlice_ok hW (hρ x (by simp [Op.operands])) (OVR.map fun y e => hρ y (by simp [Op.operands, e])) (OVR.map fun y e => hρ y (by simp [Op.operands, e])) (OVR.map fun y e => hρ y (by simp [Op.operands, e])) e0
      exact R hr hv
  | field t x i =>
    obtain ⟨e0, rfl⟩ := rd_inv h
    obtain ⟨v', hr, hv⟩ := fField_ok (hρ x (by simp [Op.operands])) e0 w
    exact R hr hv
  | index t x i =>
    dsimp only at h
    split at h
    · exact hp _ _ (by simp) h
    · obtain ⟨e0, rfl⟩ := rd_inv h
      obtain ⟨v', hr, hv⟩ := fIndex_ok (hρ x (by simp [Op.operands])) (hρ i (by simp [Op.operands])) e0 w
      exact R hr hv
  | extract t i =>
    obtain ⟨e0, rfl⟩ := rd_inv h
    obtain ⟨v', hr, hv⟩ := fExtract_ok (hρ t (by simp [Op.operands])) e0 w
    exact R hr hv
  | makeInterface t x =>
    obtain ⟨e0, rfl⟩ := rd_inv h
    obtain ⟨v', hr, hv⟩ := fIface_ok (hρ x (by simp [Op.operands])) e0 w
    exact R hr hv
  | makeFunc g x y =>
    obtain ⟨e0, rfl⟩ := rd_inv h
    obtain ⟨v', hr, hv⟩ := fFunc_ok (LR.map x.toList ρ ρ' fun z hz => hρ z (by simp [Op.operands]; exact .inl (by simpa using hz))) (LR.map y.toList ρ ρ' fun z hz => hρ z (by simp [Op.operands]; exact .inr (by simpa using hz))) e0 w
    refine ⟨v', w, ?_, FOut.read hv⟩
    have e1 : x.map ρ' = (x.toList.map ρ').toArray := by apply Array.ext'; simp
    have e2 : y.map ρ' = (y.toList.map ρ').toArray := by apply Array.ext'; simp
    show (do pure (Next.value (← Instr.makeFunc g (x.map ρ') (y.map ρ'))) : Sem Next).run P w = _
    rw [e1, e2]
    exact vrun hr
  | makeMap t m => exact S (fMakeMap_ok (OVR.map fun y e => hρ y (by simp [Op.operands, e])) h)
  | makeSlice t l c => exact S (fMakeSlice_ok hid (hρ l (by simp [Op.operands])) (hρ c (by simp [Op.operands])) h)
  | range t x => exact S (fRange_ok hW hid (hρ x (by simp [Op.operands])) h)
  | lookup t x k ok =>
    obtain ⟨e0, rfl⟩ := rd_inv h
    obtain ⟨v', hr, hv⟩ := fLookup_ok (P := P) hW (hρ x (by simp [Op.operands])) (hρ k (by simp [Op.operands])) e0
    exact R hr hv
  | entry x =>
    obtain ⟨e0, rfl⟩ := rd_inv h
    obtain ⟨v', hr, hv⟩ := fEntry_ok (P := P) hW (hρ x (by simp [Op.operands])) e0
    exact R hr hv
  | convert s d x =>
    have hx := hρ x (by simp [Op.operands])
    dsimp only at h
    split at h
    · rename_i a n c e
      obtain ⟨e0, rfl⟩ := rd_inv h
      rw [e] at hx
      obtain ⟨hr, hv⟩ := fBytesStr_ok hW hx e0
      exact R hr hv
    · rename_i t e
      rw [e] at hx
      split at h
      · rename_i r hr
        cases h
        exact S (fStrBytes_ok hid hx hr)
      · exact hp _ _ (by simp) h
    · exact hp _ _ (by simp) h
  | unOp u t x => exact hp _ _ (by simp) h
  | binOp op t x y yt =>
    dsimp only at h
    split at h
    · exact hp _ _ (by simp) h
    · rcases orP_inv h with ⟨e0, rfl⟩ | e0
      · obtain ⟨hr, hv⟩ := fEq_ok (hρ x (by simp [Op.operands])) (hρ y (by simp [Op.operands])) e0 x y w
        exact R hr hv
      · exact hp _ _ (by simp) e0
  | call c =>
    obtain ⟨callee, args, ts⟩ := c
    cases callee with
    | builtin b =>
      cases b with
      | len =>
        dsimp only at h
        split at h
        · rename_i t x ht hx
          rcases orP_inv h with ⟨e0, rfl⟩ | e0
          · obtain ⟨hr, hv⟩ := fLen_ok hW ht (xs := args.map ρ') (by rw [Array.getElem?_map, hx]; rfl) (hρ x (by simp [Op.operands, Call.operands]; exact Array.mem_of_getElem? hx)) (ty := type) e0
            exact ⟨_, _, by simp only [execOp, resolve, Sem.run_bind, Sem.run_pure, Result.andThen_ok, invoke, builtin, hr], FOut.read hv⟩
          · exact hp _ _ (by simp) e0
        · cases h
      | min => exact hp _ _ (by simp) h
      | max => exact hp _ _ (by simp) h
      | cap => exact hp _ _ (by simp) h
      | _ => cases h
    | _ => cases h
  | _ => cases h
end
end Go.Proofs.YtpfmjagbjdkdcaaGreatDoor.Am
