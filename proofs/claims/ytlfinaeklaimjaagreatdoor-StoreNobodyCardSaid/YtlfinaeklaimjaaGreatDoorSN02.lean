/- Texts of one proof, joined. -/
import Derived.Orders
import Derived.Tactics
import Derived.KernelRfl
import Derived.Laws.Entries
import Derived.Laws.Sem
import Derived.WalkKit
import Derived.WalkSpells
import Derived.WalkLawsBesides
import Derived.Deep.Draws
import Derived.Maps.AppendAt
import Derived.Test.YtlfinaeklaimjaaGreatDoorRows
import Derived.ProofKit
import Derived.OpenShut
import Derived.ShutString
import Derived.ChangeOld
import Derived.Below
import Derived.Deep.Slices
import Derived.Deep.Fields
import Derived.ChangeSame
import Derived.SliceStrings
import Derived.Laws.BytesArg
import Derived.Lib.ConvBytes
set_option linter.unusedSimpArgs false
set_option linter.unusedVariables false
namespace Go.Proofs.YtlfinaeklaimjaaGreatDoor
noncomputable section
section
def PureS {α : Type} (P : Program) (s : Sem α) : Prop :=
  ∀ w x w', s.run P w = .ok x w' → w' = w ∧ ∀ w2, s.run P w2 = .ok x w2
def ReadS {α : Type} (P : Program) (s : Sem α) : Prop :=
  ∀ w x w', s.run P w = .ok x w' → w' = w ∧ ∀ w2 : World, (∀ k, k < w.heap.size → w2.heap[k]? = w.heap[k]?) → s.run P w2 = .ok x w2
def NewS {α : Type} (P : Program) (s : Sem α) : Prop :=
  ∀ w x w', s.run P w = .ok x w' → ∀ k, k < w.heap.size → w'.heap[k]? = w.heap[k]?
section sem
variable {α β : Type} {P : Program}
theorem PureS.read {s : Sem α} (h : PureS P s) : ReadS P s := fun w x w' e => ⟨(h w x w' e).1, fun w2 _ => (h w x w' e).2 w2⟩
theorem PureS.ret (a : α) : PureS P (Pure.pure a : Sem α) := fun w x w' e => by
  simp only [Sem.run_pure, Result.ok.injEq] at e
  obtain ⟨rfl, rfl⟩ := e
  exact ⟨rfl, fun _ => rfl⟩
theorem PureS.halt (h : Halt) : PureS P (Sem.halt h : Sem α) := fun w x w' e => by simp [Sem.run] at e
theorem PureS.stuck (s : String) : PureS P (stuck s : Sem α) := PureS.halt _
theorem PureS.unsupported (s : Unsupported) : PureS P (unsupported s : Sem α) := PureS.halt _
theorem PureS.bind {s : Sem α} {f : α → Sem β} (h : PureS P s) (hf : ∀ a, PureS P (f a)) : PureS P (s >>= f) := fun w x w' e => by
  simp only [Sem.run_bind] at e
  cases hs : s.run P w with
  | halt q w1 => rw [hs] at e; simp [Result.andThen] at e
  | ok a w1 =>
    rw [hs] at e
    obtain ⟨rfl, h2⟩ := h _ _ _ hs
    obtain ⟨rfl, h3⟩ := hf a _ _ _ e
    refine ⟨rfl, fun w2 => ?_⟩
    simp only [Sem.run_bind, h2 w2]
    exact h3 w2
theorem ReadS.bind {s : Sem α} {f : α → Sem β} (h : ReadS P s) (hf : ∀ a, ReadS P (f a)) : ReadS P (s >>= f) := fun w x w' e => by
  simp only [Sem.run_bind] at e
  cases hs : s.run P w with
  | halt q w1 => rw [hs] at e; simp [Result.andThen] at e
  | ok a w1 =>
    rw [hs] at e
    obtain ⟨rfl, h2⟩ := h _ _ _ hs
    obtain ⟨rfl, h3⟩ := hf a _ _ _ e
    refine ⟨rfl, fun w2 hw => ?_⟩
    simp only [Sem.run_bind, h2 w2 hw]
    exact h3 w2 hw
theorem NewS.of_read {s : Sem α} (h : ReadS P s) : NewS P s := fun w x w' e k _ => by rw [(h w x w' e).1]
theorem NewS.bind {s : Sem α} {f : α → Sem β} (h : NewS P s) (hz : ∀ w x w', s.run P w = .ok x w' → w.heap.size ≤ w'.heap.size) (hf : ∀ a, NewS P (f a)) : NewS P (s >>= f) := fun w x w' e k hk => by
  simp only [Sem.run_bind] at e
  cases hs : s.run P w with
  | halt q w1 => rw [hs] at e; simp [Result.andThen] at e
  | ok a w1 =>
    rw [hs] at e
    have h1 := h _ _ _ hs k hk
    have h2 := hf a _ _ _ e k (Nat.lt_of_lt_of_le hk (hz _ _ _ hs))
    exact h2.trans h1
theorem PureS.program : PureS P Go.program := fun w x w' e => by
  simp only [Go.program, Sem.run, Result.ok.injEq] at e
  obtain ⟨rfl, rfl⟩ := e
  exact ⟨rfl, fun _ => rfl⟩
theorem PureS.typeInfo (t : TypeId) : PureS P (typeInfo t) := by
  unfold Go.typeInfo
  refine .bind .program fun p => ?_
  split
  · exact .ret _
  · exact .stuck _
theorem PureS.underlying (t : TypeId) : PureS P (underlying t) := by
  unfold Go.underlying
  refine .bind .program fun p => ?_
  split
  · exact .ret _
  · exact .stuck _
theorem PureS.sizeOf (t : TypeId) : PureS P (Go.sizeOf t) := .bind (.typeInfo _) fun _ => .ret _
theorem PureS.isAgg (t : TypeId) : PureS P (Go.isAgg t) := by
  unfold Go.isAgg
  refine .bind (.underlying _) fun d => ?_
  split <;> exact .ret _
theorem PureS.zeroValue (t : TypeId) : PureS P (Go.zeroValue t) := by
  unfold Go.zeroValue
  refine .bind (.typeInfo _) fun d => ?_
  split
  · exact .ret _
  · exact .unsupported _
theorem PureS.part (t : TypeId) (cs : Array Value) (off : Nat) : PureS P (Go.part t cs off) := by
  unfold Go.part
  refine .bind (.isAgg _) fun d => ?_
  split
  · exact .bind (.sizeOf _) fun _ => .ret _
  · split
    · exact .ret _
    · exact .stuck _
def Dies (P : Program) (s : Sem α) : Prop := ∀ w x w', s.run P w ≠ .ok x w'
theorem Dies.pure {s : Sem α} (h : Dies P s) : PureS P s := fun w x w' e => absurd e (h w x w')
theorem Dies.bind {s : Sem α} {f : α → Sem β} (hf : ∀ a, Dies P (f a)) : Dies P (s >>= f) := fun w x w' e => by
  simp only [Sem.run_bind] at e
  cases hs : s.run P w with
  | halt q w1 => rw [hs] at e; simp [Result.andThen] at e
  | ok a w1 => rw [hs] at e; exact hf a _ _ _ e
theorem Dies.goPanic (v : Value) : Dies P (goPanic v : Sem α) := fun w x w' e => by simp [Go.goPanic] at e
theorem Dies.runtimePanic (r : RuntimeError) : Dies P (runtimePanic r : Sem α) := by
  unfold Go.runtimePanic
  refine .bind fun p => ?_
  cases r with
  | typeAssertion i c a m => exact .bind fun _ => .bind fun _ => .goPanic _
  | panicNil => exact .bind fun _ => .bind fun _ => .goPanic _
  | _ => exact .goPanic _
theorem Dies.boundsPanic (k : IntKind) (x y : Int) (c : BoundsCode) : Dies P (boundsPanic k x y c : Sem α) := by
  unfold Go.boundsPanic
  split
  · exact .bind fun _ => .runtimePanic _
  · exact .bind fun _ => .runtimePanic _
theorem PureS.asIntOf (v : Value) : PureS P (Go.asIntOf v) := by
  unfold Go.asIntOf
  split
  · exact .ret _
  · exact .unsupported _
  · exact .stuck _
theorem PureS.asBool (v : Value) : PureS P (Go.asBool v) := by
  unfold Go.asBool
  split
  · exact .ret _
  · exact .stuck _
theorem PureS.asAgg (v : Value) : PureS P (Go.asAgg v) := by
  unfold Go.asAgg
  split
  · exact .ret _
  · exact .stuck _
theorem PureS.asAddr (v : Value) : PureS P (Go.asAddr v) := by
  unfold Go.asAddr
  split
  · exact .ret _
  · exact (Dies.runtimePanic _).pure
  · exact .stuck _
theorem PureS.sureAddr (v : Value) : PureS P (Instr.sureAddr v) := by
  unfold Instr.sureAddr
  split
  · exact .ret _
  · exact .stuck _
theorem PureS.sliceBound (x : Value) (y : Nat) (c : BoundsCode) : PureS P (Instr.sliceBound x y c) := by
  unfold Instr.sliceBound
  refine .bind (.asIntOf _) fun d => ?_
  obtain ⟨k, i⟩ := d
  dsimp only
  split
  · exact .ret _
  · exact (Dies.boundsPanic _ _ _ _).pure
theorem PureS.sliceBounds (b : Bool) (n c : Nat) (l h m : Option Value) : PureS P (Instr.sliceBounds b n c l h m) := by
  unfold Instr.sliceBounds
  cases l <;> cases h <;> cases m <;> dsimp only <;>
    (repeat' first | exact .ret _ | exact .stuck _ | exact .sliceBound _ _ _ | refine .bind ?_ fun _ => ?_ )
theorem PureS.slice (t : TypeId) (x : Value) (l h m : Option Value) : PureS P (Instr.slice t x l h m) := by
  unfold Instr.slice
  refine .bind (.underlying _) fun d => ?_
  split
  · split
    · exact .bind (.stuck _) fun _ => .bind (.sliceBounds _ _ _ _ _ _) fun _ => .ret _
    · exact .bind (.sliceBounds _ _ _ _ _ _) fun _ => .ret _
  · exact .bind (.sliceBounds _ _ _ _ _ _) fun _ => .bind (.sizeOf _) fun _ => .ret _
  · refine .bind (.asAddr _) fun _ => .bind (.underlying _) fun e => ?_
    split
    · exact .bind (.sliceBounds _ _ _ _ _ _) fun _ => .bind (.sizeOf _) fun _ => .ret _
    · exact .stuck _
  · exact .stuck _
end sem
section ops
variable {P : Program}
def clsCall (P : Program) (c : Call) : Nat :=
  match c.callee with
  | .builtin .len => match c.argTypes[0]? with
    | some t => match P.underlying t with
      | some .string => 0
      | some (.slice _) => 0
      | _ => 3
    | none => 3
  | .builtin .min => 0
  | .builtin .max => 0
  | _ => 3
def cls (P : Program) : Op → Nat
  | .move _ | .assign _ | .pick .. | .nilCheck _ | .field .. | .extract .. | .indexAddr .. | .index .. | .slice .. | .unOp .. | .makeInterface .. | .binOp .. | .build .. => 0
  | .fieldAddr s _ f => match P.underlying s with
    | some (.struct fs) => match fs[f]? with
      | some fd => match P.info? fd.type with
        | some i => if i.size = 0 then 3 else 0
        | none => 3
      | none => 3
    | _ => 3
  | .convert s d _ => match P.underlying s, P.underlying d with
    | some (.int _), some (.int _) => 0
    | _, _ => 3
  | .load .. => 1
  | .alloc _ | .box .. | .buildSlice .. => 2
  | .call c => clsCall P c
  | _ => 3
def twoInts : Value → Value → Bool
  | .int _ _, .int _ _ => true
  | _, _ => false
def chkV (ρ : Operand → Value) : Op → Bool
  | .binOp op _ x y _ => match ρ x, ρ y with
    | .int _ _, .int _ _ => true
    | .string _, .string _ => true
    | .bool _, .bool _ => (match op with | .eql | .neq => true | _ => false)
    | _, _ => false
  | .nilCheck x => match ρ x with
    | .pointer (some _) => true
    | _ => false
  | .convert _ _ x => match ρ x with
    | .int _ _ => true
    | .slice _ _ _ => true
    | .string _ => true
    | _ => false
  | .call c => match c.callee, c.args.toList with
    | .builtin .min, [x, y] => twoInts (ρ x) (ρ y)
    | .builtin .max, [x, y] => twoInts (ρ x) (ρ y)
    | .builtin .min, _ => false
    | .builtin .max, _ => false
    | _, _ => true
  | _ => true
theorem PureS.mapList {α β : Type} {f : α → Sem β} (hf : ∀ x, PureS P (f x)) : ∀ l : List α, PureS P (l.mapM f)
  | [] => by rw [List.mapM_nil]; exact .ret _
  | x :: l => by rw [List.mapM_cons]; exact .bind (hf x) fun _ => .bind (PureS.mapList hf l) fun _ => .ret _
theorem PureS.mapArr {α β : Type} {f : α → Sem β} (hf : ∀ x, PureS P (f x)) (a : Array α) : PureS P (a.mapM f) := by
  rw [Array.mapM_eq_mapM_toList, map_eq_pure_bind]
  exact .bind (.mapList hf _) fun _ => .ret _
theorem PureS.build (t : TypeId) (ps : Array (Nat × Value)) : PureS P (Instr.build t ps) := by
  unfold Instr.build
  refine .bind (.zeroValue _) fun z => ?_
  refine .bind (.underlying _) fun d => ?_
  split
  · refine .bind (.mapArr (fun f => .bind (.sizeOf _) fun _ => .ret _) _) fun _ => ?_
    split
    · exact .ret _
    · exact .stuck _
  · refine .bind (.sizeOf _) fun _ => ?_
    split
    · exact .ret _
    · exact .stuck _
  · exact .stuck _
theorem PureS.value {s : Sem Value} (h : PureS P s) : PureS P (do pure (Next.value (← s))) := .bind h fun _ => .ret _
theorem PureS.binOp {op : BinOp} {t : TypeId} {ρ : Operand → Value} {x y : Operand} {t' : TypeId} (h : chkV ρ (.binOp op t x y t') = true) :
    PureS P (do eqGuard op t x y (ρ x) (ρ y); binOp op t (ρ x) (ρ y)) := by
  simp only [chkV] at h
  split at h
  · rename_i hx hy
    rw [hx, hy]
    refine .bind ?_ fun _ => ?_
    · unfold eqGuard
      cases op <;> exact .ret _
    · unfold Go.binOp
      cases op <;> dsimp only <;> first
        | (unfold Op.shift; split; exact (Dies.runtimePanic _).pure; exact .ret _)
        | (split; exact .stuck _; first | exact .ret _ | (unfold Op.intDiv; split; exact (Dies.runtimePanic _).pure; exact .ret _))
  · rename_i hx hy
    rw [hx, hy]
    refine .bind ?_ fun _ => ?_
    · unfold eqGuard
      cases op <;> exact .ret _
    · unfold Go.binOp
      cases op <;> dsimp only [Op.stringOp] <;> first
        | exact .ret _
        | exact .stuck _
        | (split; exact .unsupported _; exact .ret _)
  · rename_i hx hy
    rw [hx, hy]
    refine .bind ?_ fun _ => ?_
    · unfold eqGuard
      cases op <;> exact .ret _
    · cases op
      all_goals first
        | exact Bool.noConfusion h
        | (unfold Go.binOp
           dsimp only
           refine .bind ?_ fun _ => .ret _
           unfold Op.equal Op.maxDepth Op.equalIn
           refine .bind (.underlying _) fun d => ?_
           cases d <;> dsimp only <;> first | exact .ret _ | exact .stuck _ | (split <;> first | exact .ret _ | exact .stuck _))
  · cases h
end ops
section exec
variable {P : Program}
theorem value_form {s : Sem Value} {w : World} {x : Next} {w' : World} (e : (do pure (Next.value (← s)) : Sem Next).run P w = .ok x w') : ∃ v, x = .value v ∧ s.run P w = .ok v w' := by
  simp only [Sem.run_bind] at e
  cases hs : s.run P w with
  | halt q w1 => rw [hs] at e; simp [Result.andThen] at e
  | ok a w1 =>
    rw [hs] at e
    simp only [Result.andThen, Sem.run_pure, Result.ok.injEq] at e
    exact ⟨a, e.1.symm, by rw [e.2]⟩
theorem PureS.sized {t : TypeId} {i : TypeInfo} (hi : P.info? t = some i) (w : World) : (Go.sizeOf t).run P w = .ok i.size w := by
  have h : (Go.typeInfo t).run P w = .ok i w := by
    simp only [Go.typeInfo, Go.program, Sem.run_bind, Sem.run, Result.andThen_ok, hi]
    rfl
  simp only [Go.sizeOf, Sem.run_bind, h, Result.andThen_ok, Sem.run_pure]
theorem pure_or (ρ : Operand → Value) (o : Oper) (hc : cls P o.op = 0) (hk : chkV ρ o.op = true) : ∃ s : Sem Value, PureS P s ∧ ((execOp ρ o) = (do pure (Next.value (← s)) : Sem Next) ∨ ∀ w, (execOp ρ o).run P w = (do pure (Next.value (← s)) : Sem Next).run P w) := by
  obtain ⟨dst, op, type, pos, after, guard⟩ := o
  cases op <;> simp only [cls] at hc <;> dsimp only at hk
  case move x => exact ⟨pure (ρ x), .ret _, .inl rfl⟩
  case assign x => exact ⟨pure (ρ x), .ret _, .inl rfl⟩
  case pick c a b => exact ⟨do pure (if ← asBool (ρ c) then ρ a else ρ b), .bind (.asBool _) fun _ => .ret _, .inr fun w => by
    simp only [execOp, Sem.run_bind, Sem.run_pure]
    cases (asBool (ρ c)).run P w <;> simp [Result.andThen]⟩
  case nilCheck x =>
    simp only [chkV] at hk
    split at hk
    · rename_i a hx
      exact ⟨pure (.pointer (some a)), .ret _, .inr fun w => by simp [execOp, hx]⟩
    · cases hk
  case binOp bop t x y t' => exact ⟨_, PureS.binOp hk, .inl rfl⟩
  case unOp u t x =>
    refine ⟨Op.unary u (ρ x), ?_, .inl rfl⟩
    unfold Op.unary
    split <;> first | exact .ret _ | exact .stuck _ | exact .unsupported _
  case convert s d x =>
    refine ⟨Go.convert s d (ρ x), ?_, .inl rfl⟩
    split at hc
    · rename_i k1 k2 hs hd
      simp only [chkV] at hk
      split at hk
      · rename_i kk n hx
        rw [hx]
        intro w y w' e
        simp only [Go.convert, Sem.run_bind, run_underlying hs, run_underlying hd, Result.andThen_ok, Conv.intToInt, Sem.run_pure, Result.ok.injEq] at e
        obtain ⟨rfl, rfl⟩ := e
        exact ⟨rfl, fun _ => by simp only [Go.convert, Sem.run_bind, run_underlying hs, run_underlying hd, Result.andThen_ok, Conv.intToInt, Sem.run_pure]⟩
      · rename_i hx
        rw [hx]
        intro w y w' e
        simp only [Go.convert, Sem.run_bind, run_underlying hs, run_underlying hd, Result.andThen_ok] at e
        exact absurd e (by simp [unsupported, Sem.run])
      · rename_i hx
        rw [hx]
        intro w y w' e
        simp only [Go.convert, Sem.run_bind, run_underlying hs, run_underlying hd, Result.andThen_ok] at e
        exact absurd e (by simp [unsupported, Sem.run])
      · cases hk
    · cases hc
  case build t ps => exact ⟨Instr.build t (ps.map fun (i, x) => (i, ρ x)), .build _ _, .inl rfl⟩
  case makeInterface t x =>
    refine ⟨Instr.makeInterface t (ρ x), ?_, .inl rfl⟩
    unfold Instr.makeInterface
    refine .bind (.underlying _) fun d => ?_
    split
    · exact .stuck _
    · exact .ret _
  case slice t x l h m =>
    refine ⟨Instr.sliceAt t (ρ x) (l.map ρ) (h.map ρ) (m.map ρ), ?_, .inl rfl⟩
    unfold Instr.sliceAt
    refine .bind (.underlying _) fun d => ?_
    split
    · exact .bind (.sureAddr _) fun _ => .bind (.sliceBounds _ _ _ _ _ _) fun _ => .bind (.sizeOf _) fun _ => .ret _
    · exact .slice _ _ _ _ _
  case fieldAddr t x f =>
    refine ⟨Instr.fieldAt t (ρ x) f, ?_, .inl rfl⟩
    split at hc
    · rename_i fs hs
      split at hc
      · rename_i fd hf
        split at hc
        · rename_i i hi
          split at hc
          · cases hc
          · rename_i hne
            unfold Instr.fieldAt
            intro w y w' e
            simp only [Sem.run_bind, run_underlying hs, Result.andThen_ok, hf] at e ⊢
            cases ha : (Instr.sureAddr (ρ x)).run P w with
            | halt q w1 => rw [ha] at e; simp [Result.andThen] at e
            | ok a w1 =>
              obtain ⟨rfl, ha2⟩ := PureS.sureAddr (P := P) (ρ x) _ _ _ ha
              rw [ha] at e
              simp only [Result.andThen_ok, fieldPlace, Sem.run_bind, PureS.sized hi, hne, if_false, Sem.run_pure, Result.ok.injEq] at e
              obtain ⟨rfl, rfl⟩ := e
              refine ⟨rfl, fun w2 => ?_⟩
              rw [ha2 w2]
              simp only [Result.andThen_ok, fieldPlace, Sem.run_bind, PureS.sized hi, hne, if_false, Sem.run_pure]
        · cases hc
      · cases hc
    · cases hc
  case field t x f =>
    refine ⟨Instr.field t (ρ x) f, ?_, .inl rfl⟩
    unfold Instr.field
    refine .bind (.underlying _) fun d => ?_
    split
    · split
      · exact .bind (.asAgg _) fun _ => .part _ _ _
      · exact .stuck _
    · exact .stuck _
  case indexAddr t x i =>
    refine ⟨Instr.indexAt t (ρ x) (ρ i), ?_, .inl rfl⟩
    unfold Instr.indexAt
    refine .bind (.asIntOf _) fun d => ?_
    obtain ⟨k, n⟩ := d
    repeat' (first | exact .ret _ | exact .stuck _ | exact .unsupported _ | exact (Dies.boundsPanic _ _ _ _).pure | exact .sureAddr _ | exact .underlying _ | exact .sizeOf _ | split | dsimp only | refine .bind ?_ fun _ => ?_)
  case index t x i =>
    refine ⟨Instr.index t (ρ x) (ρ i), ?_, .inl rfl⟩
    unfold Instr.index
    refine .bind (.asIntOf _) fun d => ?_
    obtain ⟨k, n⟩ := d
    refine .bind (.underlying _) fun d => ?_
    split
    · split
      · exact .bind (.sizeOf _) fun _ => .part _ _ _
      · exact (Dies.boundsPanic _ _ _ _).pure
    · split
      · exact .ret _
      · exact (Dies.boundsPanic _ _ _ _).pure
    · exact .stuck _
  case extract x i =>
    refine ⟨Instr.extract (ρ x) i, ?_, .inl rfl⟩
    unfold Instr.extract
    split
    · split
      · exact .ret _
      · exact .stuck _
    · exact .stuck _
  case call c =>
    obtain ⟨callee, args, argTypes⟩ := c
    simp only [clsCall] at hc
    split at hc
    · rename_i hb
      split at hc
      · rename_i t ht
        refine ⟨Builtin.len_ argTypes type (args.map ρ), ?_, .inr fun w => by simp [execOp, resolve, invoke, builtin]⟩
        have ht' : argTypes[0]? = some t := ht
        unfold Builtin.len_
        rw [ht']
        cases h0 : (args.map ρ)[0]? with
        | none => exact .stuck _
        | some x =>
          dsimp only
          intro w y w' e
          split at hc
          · rename_i hu
            simp only [Sem.run_bind, run_underlying hu, Result.andThen_ok] at e ⊢
            cases x <;> simp only [Sem.run_pure, Result.ok.injEq, Go.stuck, Sem.run, reduceCtorEq] at e
            obtain ⟨rfl, rfl⟩ := e
            exact ⟨rfl, fun _ => by simp only [Sem.run_pure]⟩
          · rename_i hu
            simp only [Sem.run_bind, run_underlying hu, Result.andThen_ok] at e ⊢
            cases x <;> simp only [Sem.run_pure, Result.ok.injEq, Go.stuck, Sem.run, reduceCtorEq] at e
            obtain ⟨rfl, rfl⟩ := e
            exact ⟨rfl, fun _ => by simp only [Sem.run_pure]⟩
          · cases hc
      · cases hc
    · rename_i hb
      refine ⟨Builtin.min_ argTypes type (args.map ρ), ?_, .inr fun w => by simp [execOp, resolve, invoke, builtin]⟩
      unfold chkV at hk
      unfold Builtin.min_
      rw [Array.toList_map]
      rcases hl : args.toList with _ | ⟨x, _ | ⟨y, _ | ⟨z, l⟩⟩⟩ <;> simp only [hl] at hk
      · cases hk
      · cases hk
      · cases hx : ρ x <;> cases hy : ρ y <;> rw [hx, hy] at hk <;> first | cases hk | skip
        simp only [List.map_cons, List.map_nil, hx, hy, List.foldlM]
        refine .bind ?_ fun _ => .ret _
        unfold Builtin.min2
        exact .ret _
      · cases hk
    · rename_i hb
      refine ⟨Builtin.max_ argTypes type (args.map ρ), ?_, .inr fun w => by simp [execOp, resolve, invoke, builtin]⟩
      unfold chkV at hk
      unfold Builtin.max_
      rw [Array.toList_map]
      rcases hl : args.toList with _ | ⟨x, _ | ⟨y, _ | ⟨z, l⟩⟩⟩ <;> simp only [hl] at hk
      · cases hk
      · cases hk
      · cases hx : ρ x <;> cases hy : ρ y <;> rw [hx, hy] at hk <;> first | cases hk | skip
        simp only [List.map_cons, List.map_nil, hx, hy, List.foldlM]
        refine .bind ?_ fun _ => .ret _
        unfold Builtin.max2
        exact .ret _
      · cases hk
    · cases hc
  all_goals (first | cases hc | (split at hc <;> cases hc))
theorem pure_exec {ρ : Operand → Value} {o : Oper} (hc : cls P o.op = 0) (hk : chkV ρ o.op = true) {w w' : World} {x : Next} (e : (execOp ρ o).run P w = .ok x w') :
    ∃ v, x = .value v ∧ w' = w ∧ ∀ w2, (execOp ρ o).run P w2 = .ok (.value v) w2 := by
  obtain ⟨s, hs, h⟩ := pure_or (P := P) ρ o hc hk
  have hr : ∀ w, (execOp ρ o).run P w = (do pure (Next.value (← s)) : Sem Next).run P w := by
    rcases h with h | h
    · intro w; rw [h]
    · exact h
  rw [hr] at e
  obtain ⟨v, rfl, hv⟩ := value_form e
  obtain ⟨rfl, h2⟩ := hs _ _ _ hv
  exact ⟨v, rfl, rfl, fun w2 => by rw [hr]; simp only [Sem.run_bind, h2 w2, Result.andThen_ok, Sem.run_pure]⟩
theorem cell_some {w w2 : World} {a : Addr} {v : Value} (h : w.cell? a = some v) (hw : ∀ k, k < w.heap.size → w2.heap[k]? = w.heap[k]?) : w2.cell? a = some v := by
  have hlt : a.block < w.heap.size := by
    unfold World.cell? at h
    rcases Nat.lt_or_ge a.block w.heap.size with h1 | h1
    · exact h1
    · rw [Array.getElem?_eq_none h1] at h; cases h
  unfold World.cell? at h ⊢
  rw [hw _ hlt]
  exact h
theorem seen_ext {p : Program} {w w2 : World} {at_ k : Addr} {u : TypeId} {b : Bool} {r : Array Value × TypeId × (Nat × Nat) × Nat × Value × List (Nat × Nat × List UInt8)}
    (h : w.seen p at_ u k b = .ok r) (hw : ∀ k, k < w.heap.size → w2.heap[k]? = w.heap[k]?) : w2.seen p at_ u k b = .ok r := by
  rcases Nat.lt_or_ge at_.block w.heap.size with h1 | h1
  · unfold World.seen at h ⊢
    rw [hw _ h1]
    exact h
  · exfalso
    unfold World.seen at h
    rw [Array.getElem?_eq_none h1] at h
    revert h
    dsimp only [Bind.bind, Except.bind, throw, throwThe, MonadExceptOf.throw, Pure.pure, Except.pure]
    repeat' split
    all_goals (intro h; cases h)
theorem farLoad_ext {p : Program} {w w2 : World} {a : Addr} {b : Bool} {r : Value × List Addr} (hc : w.cell? a = none) (h : w.farLoad p a b = .ok r)
    (hw : ∀ k, k < w.heap.size → w2.heap[k]? = w.heap[k]?) : w2.cell? a = none ∧ w2.farLoad p a b = .ok r := by
  rcases Nat.lt_or_ge a.block w.heap.size with h1 | h1
  · refine ⟨by unfold World.cell? at hc ⊢; rw [hw _ h1]; exact hc, ?_⟩
    unfold World.farLoad at h ⊢
    rw [hw _ h1]
    split at h
    · rename_i at_ u hv
      split at h
      · rename_i r' hr
        cases h
        have : w2.viewLoad p at_ u a b = .ok r := by
          unfold World.viewLoad at hr ⊢
          cases hs : w.seen p at_ u a b with
          | error e => rw [hs] at hr; cases hr
          | ok q => rw [hs] at hr; rw [seen_ext hs hw]; exact hr
        simp only [this]
      · cases h
    · cases h
  · exfalso
    unfold World.farLoad at h
    rw [Array.getElem?_eq_none h1] at h
    cases h
theorem ReadS.load (a : Addr) (m : Mode) : ReadS P (Go.load a m) := fun w x w' e => by
  simp only [Go.load, Sem.run] at e ⊢
  cases hc : w.cell? a with
  | some v =>
    simp only [hc, Result.ok.injEq] at e
    obtain ⟨rfl, rfl⟩ := e
    exact ⟨rfl, fun w2 hw => by simp only [cell_some hc hw]⟩
  | none =>
    simp only [hc] at e
    cases hf : w.farLoad P a (m == .atomic) with
    | error q => rw [hf] at e; simp at e
    | ok r =>
      rw [hf] at e
      simp only [Result.ok.injEq] at e
      obtain ⟨rfl, rfl⟩ := e
      refine ⟨rfl, fun w2 hw => ?_⟩
      obtain ⟨h1, h2⟩ := farLoad_ext hc hf hw
      simp only [h1, h2]
theorem ReadS.loadCellsFrom (a : Addr) : ∀ (n i : Nat) (acc : Array Value), ReadS P (Go.loadCellsFrom a i n acc)
  | 0, _, acc => (PureS.ret acc).read
  | n + 1, i, acc => by
    unfold Go.loadCellsFrom
    exact .bind (.load _ _) fun v => ReadS.loadCellsFrom a n (i + 1) _
theorem ReadS.loadVar (t : TypeId) (a : Addr) : ReadS P (Go.loadVar t a) := by
  unfold Go.loadVar
  refine .bind (PureS.isAgg _).read fun b => ?_
  split
  · exact .bind (PureS.sizeOf _).read fun n => .bind (.loadCellsFrom _ _ _ _) fun _ => (PureS.ret _).read
  · exact .load _ _
theorem read_exec {ρ : Operand → Value} {o : Oper} (hc : cls P o.op = 1) {w w' : World} {x : Next} (e : (execOp ρ o).run P w = .ok x w') :
    ∃ v, x = .value v ∧ w' = w ∧ ∀ w2 : World, (∀ k, k < w.heap.size → w2.heap[k]? = w.heap[k]?) → (execOp ρ o).run P w2 = .ok (.value v) w2 := by
  obtain ⟨dst, op, type, pos, after, guard⟩ := o
  cases op <;> simp only [cls] at hc
  case load t a =>
    have hs : ReadS P (Instr.loadAt t (ρ a)) := by
      unfold Instr.loadAt
      exact .bind (PureS.sureAddr _).read fun _ => .loadVar _ _
    have hr : execOp ρ { dst, op := .load t a, type, pos, after, guard } = (do pure (Next.value (← Instr.loadAt t (ρ a))) : Sem Next) := rfl
    rw [hr] at e ⊢
    obtain ⟨v, rfl, hv⟩ := value_form e
    obtain ⟨rfl, h2⟩ := hs _ _ _ hv
    exact ⟨v, rfl, rfl, fun w2 hw => by simp only [Sem.run_bind, h2 w2 hw, Result.andThen_ok, Sem.run_pure]⟩
  case call c =>
    simp only [clsCall] at hc
    split at hc
    · split at hc
      · split at hc <;> cases hc
      · cases hc
    all_goals cases hc
  all_goals (first | cases hc | (repeat' (split at hc)) <;> cases hc)
theorem NewS.newObj (o : Obj) : NewS P (Go.newObj o) := fun w x w' e k hk => by
  simp only [Go.newObj, Sem.run, Result.ok.injEq] at e
  obtain ⟨_, rfl⟩ := e
  show (w.heap.push o)[k]? = _
  rw [Array.getElem?_push, if_neg (by omega)]
theorem newObj_size {o : Obj} {w w' : World} {x : Nat} (e : (Go.newObj o).run P w = .ok x w') : w.heap.size ≤ w'.heap.size := by
  simp only [Go.newObj, Sem.run, Result.ok.injEq] at e
  obtain ⟨_, rfl⟩ := e
  simp
theorem NewS.newVar (t : TypeId) (v : Value) : NewS P (Go.newVar t v) := by
  unfold Go.newVar Go.newRow
  exact .bind (.newObj _) (fun _ _ _ e => newObj_size e) fun _ => .of_read (PureS.ret _).read
theorem newRow_size {t : TypeId} {c : Array Value} {w w' : World} {x : Addr} (e : (Go.newRow t c).run P w = .ok x w') : w.heap.size ≤ w'.heap.size := by
  unfold Go.newRow at e
  simp only [Sem.run_bind] at e
  cases hs : (Go.newObj (.cells c t)).run P w with
  | halt q w1 => rw [hs] at e; simp [Result.andThen] at e
  | ok a w1 =>
    rw [hs] at e
    simp only [Result.andThen, Sem.run_pure, Result.ok.injEq] at e
    obtain ⟨_, rfl⟩ := e
    exact newObj_size hs
theorem PureS.size {α : Type} {s : Sem α} (h : PureS P s) : ∀ w x w', s.run P w = .ok x w' → w.heap.size ≤ w'.heap.size := fun w x w' e => by rw [(h _ _ _ e).1]; exact Nat.le_refl _
theorem NewS.box (t : TypeId) (v : Value) : NewS P (Instr.box t v) := by
  unfold Instr.box
  exact .bind (.newVar _ _) (fun _ _ _ e => newRow_size e) fun _ => .of_read (PureS.ret _).read
theorem NewS.alloc (t : TypeId) : NewS P (Instr.alloc t true (.tuple #[])) := by
  unfold Instr.alloc
  refine .bind (.of_read (PureS.zeroValue _).read) (PureS.zeroValue _).size fun z => ?_
  exact .bind (.newVar _ _) (fun _ _ _ e => newRow_size e) fun _ => .of_read (PureS.ret _).read
theorem NewS.stop {α : Type} (h : Halt) : NewS P (Sem.halt h : Sem α) := .of_read (PureS.halt h).read
theorem NewS.buildSlice (t : TypeId) (n : Nat) (ps : Array (Nat × Value)) : NewS P (Instr.buildSlice t n ps) := by
  unfold Instr.buildSlice
  refine .bind (.of_read (PureS.underlying _).read) (PureS.underlying _).size fun d => ?_
  split
  · rename_i elem
    refine .bind (.of_read (PureS.sizeOf _).read) (PureS.sizeOf _).size fun s => ?_
    have fin : ∀ zero : Array Value, NewS P (do
        let some cells := Instr.fill (fun i => some (i * s, s)) ((Array.range (n * s)).map (zero[· % zero.size]!)) ps.toList
          | stuck "buildSlice: a part of the wrong size"
        pure (.slice (some (← newRow elem cells)) n n) : Sem Value) := fun zero => by
      split
      · exact .bind (by unfold newRow; exact .bind (.newObj _) (fun _ _ _ e => newObj_size e) fun _ => .of_read (PureS.ret _).read) (fun _ _ _ e => newRow_size e) fun _ => .of_read (PureS.ret _).read
      · exact .stop _
    dsimp only
    repeat' (first | exact fin _ | exact .stop _ | exact (PureS.halt _).size | exact .of_read (PureS.zeroValue _).read | exact (PureS.zeroValue _).size | exact .of_read (PureS.ret _).read | exact (PureS.ret _).size | split | refine .bind ?_ ?_ fun _ => ?_)
  · exact .stop _
theorem new_exec {ρ : Operand → Value} {o : Oper} (hc : cls P o.op = 2) {w w' : World} {x : Next} (e : (execOp ρ o).run P w = .ok x w') :
    (∃ v, x = .value v) ∧ ∀ k, k < w.heap.size → w'.heap[k]? = w.heap[k]? := by
  obtain ⟨dst, op, type, pos, after, guard⟩ := o
  cases op <;> simp only [cls] at hc
  case alloc t =>
    have hr : execOp ρ { dst, op := .alloc t, type, pos, after, guard } = (do pure (Next.value (← Instr.alloc t true (.tuple #[]))) : Sem Next) := rfl
    rw [hr] at e
    obtain ⟨v, rfl, hv⟩ := value_form e
    exact ⟨⟨v, rfl⟩, NewS.alloc _ _ _ _ hv⟩
  case box t y =>
    have hr : execOp ρ { dst, op := .box t y, type, pos, after, guard } = (do pure (Next.value (← Instr.box t (ρ y))) : Sem Next) := rfl
    rw [hr] at e
    obtain ⟨v, rfl, hv⟩ := value_form e
    exact ⟨⟨v, rfl⟩, NewS.box _ _ _ _ _ hv⟩
  case buildSlice t n ps =>
    have hr : execOp ρ { dst, op := .buildSlice t n ps, type, pos, after, guard } = (do pure (Next.value (← Instr.buildSlice t n (ps.map fun (i, x) => (i, ρ x)))) : Sem Next) := rfl
    rw [hr] at e
    obtain ⟨v, rfl, hv⟩ := value_form e
    exact ⟨⟨v, rfl⟩, NewS.buildSlice _ _ _ _ _ _ hv⟩
  case call c =>
    simp only [clsCall] at hc
    split at hc
    · split at hc
      · split at hc <;> cases hc
      · cases hc
    all_goals cases hc
  all_goals (first | cases hc | (repeat' (split at hc)) <;> cases hc)
end exec
end
section
open Region (wanted)
def Qn (Q : Act → World → Prop) : Exit → Act → World → Prop := Exit.then Q (fun _ _ _ => False)
section
variable {P : Program} {ops : Array Oper} {Q : Act → World → Prop}
def st (P : Program) (ops : Array Oper) (Q : Act → World → Prop) (o : Oper) (K : Act → World → Prop) (a : Act) (w : World) : Prop :=
  if wanted o (yielded ops a.tmps) then chkV a.eval o.op = true ∧ o.wp P a w K (Qn Q) else K (a.put o.dst undef) w
theorem st_mono {o : Oper} {K K' : Act → World → Prop} {a : Act} {w : World} (h : ∀ a w, K a w → K' a w) (hh : st P ops Q o K a w) : st P ops Q o K' a w := by
  unfold st at *
  split
  · rename_i hw; rw [if_pos hw] at hh; exact ⟨hh.1, Oper.wp_mono h hh.2⟩
  · rename_i hw; rw [if_neg hw] at hh; exact h _ _ hh
theorem wp_value {o : Oper} {a : Act} {w w' : World} {v : Value} {K : Act → World → Prop} {R : Exit → Act → World → Prop} (e : (execOp a.eval o).run P w = .ok (.value v) w') :
    o.wp P a w K R ↔ K (a.put o.dst v) w' := by
  unfold Oper.wp
  rw [e]
  exact Iff.rfl
theorem wp_ok {o : Oper} {a : Act} {w : World} {K : Act → World → Prop} (h : o.wp P a w K (Qn Q)) : ∃ x w', (execOp a.eval o).run P w = .ok x w' := by
  unfold Oper.wp at h
  cases hr : (execOp a.eval o).run P w with
  | ok x w' => exact ⟨x, w', rfl⟩
  | halt q w' =>
    rw [hr] at h
    cases q <;> simp only [Oper.upon] at h
    exact h.elim
theorem calls_some {f : FuncId} {args : Array Value} {w : World} {R : Ending → World → Prop} (h : Calls P f args w R) : ∃ e w', R e w' := by
  obtain ⟨e, w', _, hr, _⟩ := h []
  exact ⟨e, w', hr⟩
theorem rows_some {row : String} {args : Array Value} {w : World} {R : Value → World → Prop} (h : Rows P row args w R) : ∃ v w', R v w' := by
  obtain ⟨v, w', hr, _⟩ := h default []
  exact ⟨v, w', hr⟩
theorem wp_some {o : Oper} {a : Act} {w : World} {K : Act → World → Prop} (h : o.wp P a w K (Qn Q)) :
    ∃ v d w', K (({ a with defers := d } : Act).put o.dst v) w' := by
  unfold Oper.wp at h
  cases hr : (execOp a.eval o).run P w with
  | halt q w' =>
    rw [hr] at h
    cases q <;> simp only [Oper.upon] at h
    exact h.elim
  | ok x w' =>
    rw [hr] at h
    cases x <;> simp only [Oper.upon] at h
    case value v => exact ⟨v, a.defers, w', h⟩
    case skip => exact ⟨undef, a.defers, w', h⟩
    case defer d => exact ⟨undef, d :: a.defers, w', h⟩
    case enter f args =>
      obtain ⟨e, w'', he⟩ := calls_some h
      cases e with
      | returned v => exact ⟨v, a.defers, w'', he⟩
      | panicked c => exact he.elim
      | outgrown => obtain ⟨_, _, hl⟩ := he; exact hl.elim
    case row row args =>
      obtain ⟨v, w'', he⟩ := rows_some h
      exact ⟨v, a.defers, w'', he⟩
theorem chk_congr {ρ ρ' : Operand → Value} {op : Op} (h : ∀ x ∈ op.operands, ρ x = ρ' x) : chkV ρ op = chkV ρ' op := by
  cases op <;> simp only [Op.operands] at h <;> simp only [chkV]
  case binOp bop t x y t' => rw [h x (by simp), h y (by simp)]
  case nilCheck x => rw [h x (by simp)]
  case convert s d x => rw [h x (by simp)]
  case call c =>
    obtain ⟨callee, args, ts⟩ := c
    have ha : ∀ x ∈ args.toList, ρ x = ρ' x := fun x hx => h x (by unfold Call.operands; simp; exact .inr (by simpa using hx))
    dsimp only
    generalize args.toList = l at ha
    cases callee with
    | builtin b => cases b <;> first
      | rfl
      | (rcases l with _ | ⟨x, _ | ⟨y, _ | ⟨z, l⟩⟩⟩ <;> first
         | rfl
         | (show twoInts (ρ x) (ρ y) = twoInts (ρ' x) (ρ' y); rw [ha x (by simp), ha y (by simp)]))
    | value f => rfl
    | invoke r m => rfl
theorem eval_away {o : Oper} {a : Act} {dst : Option Tmp} {v : Value} (h : ∀ d, dst = some d → d ∉ o.looksAt ops) : ∀ x ∈ o.op.operands, (a.put dst v).eval x = a.eval x := fun x hx =>
  Act.eval_put fun d hd hxd => h d hd (by
    subst hxd
    exact List.mem_append_left _ (List.mem_filterMap.2 ⟨.tmp d, by simpa using hx, rfl⟩))
theorem eval_defers {a : Act} {d : List Deferred} (x : Operand) : ({ a with defers := d } : Act).eval x = a.eval x := by cases x <;> rfl
theorem put_swap (a : Act) {x y : Oper} (hd : ∀ d, x.dst = some d → y.dst ≠ some d) (v u : Value) : (a.put x.dst v).put y.dst u = (a.put y.dst u).put x.dst v := Act.put_comm a v u hd
def Yl (P : Program) (ops : Array Oper) (o : Oper) (v : Value) (a : Act) : Prop :=
  (wanted o (yielded ops a.tmps) = true ∧ chkV a.eval o.op = true ∧ ∀ w, (execOp a.eval o).run P w = .ok (.value v) w) ∨ (wanted o (yielded ops a.tmps) = false ∧ v = undef)
theorem Yl.st {o : Oper} {v : Value} {a : Act} {w : World} {K : Act → World → Prop} (h : Yl P ops o v a) : Go.Proofs.YtlfinaeklaimjaaGreatDoor.st P ops Q o K a w ↔ K (a.put o.dst v) w := by
  unfold Go.Proofs.YtlfinaeklaimjaaGreatDoor.st
  rcases h with ⟨h1, h2, h3⟩ | ⟨h1, rfl⟩
  · rw [if_pos h1, wp_value (h3 w)]
    exact ⟨fun h => h.2, fun h => ⟨h2, h⟩⟩
  · rw [if_neg (by rw [h1]; exact Bool.false_ne_true)]
theorem Yl.same {o : Oper} {v : Value} {a a' : Act} (h : Yl P ops o v a) (hs : ∀ cs b, o.op ≠ .select cs b) (he : ∀ x ∈ o.op.operands, a'.eval x = a.eval x) (hw : wanted o (yielded ops a'.tmps) = wanted o (yielded ops a.tmps)) : Yl P ops o v a' := by
  unfold Yl at *
  rw [hw, execOp_congr o hs he, chk_congr he]
  exact h
theorem Yl.away {o : Oper} {v : Value} {a : Act} {dst : Option Tmp} {u : Value} (h : Yl P ops o v a) (hs : ∀ cs b, o.op ≠ .select cs b) (hd : ∀ d, dst = some d → d ∉ o.looksAt ops) : Yl P ops o v (a.put dst u) :=
  h.same hs (eval_away hd) (wanted_put o a dst u hd)
theorem yl_of_st {o : Oper} {a : Act} {w : World} {K : Act → World → Prop} (hc : cls P o.op = 0) (h : st P ops Q o K a w) : ∃ v, Yl P ops o v a := by
  unfold st at h
  split at h
  · rename_i hw
    obtain ⟨x, w', e⟩ := wp_ok h.2
    obtain ⟨v, rfl, rfl, h2⟩ := pure_exec hc h.1 e
    exact ⟨v, .inl ⟨hw, h.1, h2⟩⟩
  · rename_i hw
    exact ⟨undef, .inr ⟨by simpa using hw, rfl⟩⟩
theorem swap_pure_right {x y : Oper} {K : Act → World → Prop} {a : Act} {w : World} (hsx : ∀ cs b, x.op ≠ .select cs b) (hsy : ∀ cs b, y.op ≠ .select cs b) (hap : x.apart ops y = true) (hc : cls P y.op = 0)
    (h : st P ops Q x (st P ops Q y K) a w) : st P ops Q y (st P ops Q x K) a w := by
  obtain ⟨h1, h2, h3⟩ := Oper.apart_spec hap
  have hy : ∃ v, Yl P ops y v a := by
    unfold st at h
    split at h
    · obtain ⟨u, d, w', hk⟩ := wp_some h.2
      obtain ⟨v, hv⟩ := yl_of_st hc hk
      refine ⟨v, hv.same hsy (fun z hz => ?_) ?_⟩
      · rw [eval_away (ops := ops) h1 z hz]
        exact (eval_defers z).symm
      · rw [wanted_put y _ x.dst u h1]
    · obtain ⟨v, hv⟩ := yl_of_st hc h
      refine ⟨v, hv.same hsy (fun z hz => (eval_away (ops := ops) h1 z hz).symm) (wanted_put y a x.dst undef h1).symm⟩
  obtain ⟨v, hv⟩ := hy
  rw [hv.st]
  unfold st at h ⊢
  rw [wanted_put x a y.dst v h3]
  split
  · rename_i hw
    rw [if_pos hw] at h
    refine ⟨(chk_congr (eval_away h3)).trans h.1, ?_⟩
    have hh := h.2
    unfold Oper.wp at hh ⊢
    rw [execOp_congr x hsx (eval_away h3)]
    generalize (execOp a.eval x).run P w = r at *
    have fin : ∀ (b : Act) (u : Value) (w' : World), Yl P ops y v b → st P ops Q y K (b.put x.dst u) w' → K ((b.put y.dst v).put x.dst u) w' := fun b u w' hb hk => by
      have := (hb.away (dst := x.dst) (u := u) hsy h1).st.1 hk
      rw [put_swap b h2 u v] at this
      exact this
    cases r with
    | ok n w' =>
      cases n <;> simp only [Oper.upon] at hh ⊢
      case value u => exact fin _ _ _ hv hh
      case skip => exact fin _ _ _ hv hh
      case defer d =>
        have hb : Yl P ops y v ({ a with defers := d :: a.defers } : Act) := hv.same hsy (fun z _ => eval_defers z) rfl
        rw [Act.put_defers]
        exact fin _ _ _ hb hh
      case enter f args =>
        refine Calls.mono hh fun e w'' he => ?_
        cases e with
        | returned u => exact fin _ _ _ hv he
        | panicked c => exact he
        | outgrown => exact he
      case row row args => exact Rows.mono hh fun u w'' he => fin _ _ _ hv he
    | halt q w' => cases q <;> simp only [Oper.upon] at hh ⊢; exact hh
  · rename_i hw
    rw [if_neg hw] at h
    have := (hv.away (dst := x.dst) (u := undef) hsy h1).st.1 h
    rw [put_swap a h2 undef v] at this
    exact this
theorem swap_pure_left {x y : Oper} {K : Act → World → Prop} {a : Act} {w : World} (hsx : ∀ cs b, x.op ≠ .select cs b) (hsy : ∀ cs b, y.op ≠ .select cs b) (hap : x.apart ops y = true) (hc : cls P x.op = 0)
    (h : st P ops Q x (st P ops Q y K) a w) : st P ops Q y (st P ops Q x K) a w := by
  obtain ⟨h1, h2, h3⟩ := Oper.apart_spec hap
  obtain ⟨v, hv⟩ := yl_of_st hc h
  rw [hv.st] at h
  unfold st at h ⊢
  rw [wanted_put y a x.dst v h1] at h
  have fin : ∀ (b : Act) (u : Value) (w' : World), Yl P ops x v b → K ((b.put x.dst v).put y.dst u) w' → st P ops Q x K (b.put y.dst u) w' := fun b u w' hb hk => by
    rw [(hb.away (dst := y.dst) (u := u) hsx h3).st, ← put_swap b h2 v u]
    exact hk
  split
  · rename_i hw
    rw [if_pos hw] at h
    refine ⟨(chk_congr (eval_away h1)).symm.trans h.1, ?_⟩
    have hh := h.2
    unfold Oper.wp at hh ⊢
    rw [execOp_congr y hsy (eval_away h1)] at hh
    generalize (execOp a.eval y).run P w = r at *
    cases r with
    | ok n w' =>
      cases n <;> simp only [Oper.upon] at hh ⊢
      case value u => exact fin _ _ _ hv hh
      case skip => exact fin _ _ _ hv hh
      case defer d =>
        have hb : Yl P ops x v ({ a with defers := d :: a.defers } : Act) := hv.same hsx (fun z _ => eval_defers z) rfl
        refine fin _ _ _ hb ?_
        rw [← Act.put_defers]
        exact hh
      case enter f args =>
        refine Calls.mono hh fun e w'' he => ?_
        cases e with
        | returned u => exact fin _ _ _ hv he
        | panicked c => exact he
        | outgrown => exact he
      case row row args => exact Rows.mono hh fun u w'' he => fin _ _ _ hv he
    | halt q w' => cases q <;> simp only [Oper.upon] at hh ⊢; exact hh
  · rename_i hw
    rw [if_neg hw] at h
    exact fin _ _ _ hv h
theorem swap_read {x y : Oper} {K : Act → World → Prop} {a : Act} {w : World} (hsx : ∀ cs b, x.op ≠ .select cs b) (hsy : ∀ cs b, y.op ≠ .select cs b) (hap : x.apart ops y = true) (hx : cls P x.op = 1) (hy : cls P y.op = 1 ∨ cls P y.op = 2)
    (h : st P ops Q x (st P ops Q y K) a w) : st P ops Q y (st P ops Q x K) a w := by
  obtain ⟨h1, h2, h3⟩ := Oper.apart_spec hap
  have hX : ∃ v, st P ops Q y K (a.put x.dst v) w ∧ ∀ (u : Value) (w2 : World), (∀ k, k < w.heap.size → w2.heap[k]? = w.heap[k]?) → K ((a.put x.dst v).put y.dst u) w2 → st P ops Q x K (a.put y.dst u) w2 := by
    unfold st at h
    split at h
    · rename_i hw
      obtain ⟨n, w', e⟩ := wp_ok h.2
      obtain ⟨v, rfl, rfl, he⟩ := read_exec hx e
      refine ⟨v, (wp_value e).1 h.2, fun u w2 hw2 hk => ?_⟩
      unfold st
      rw [wanted_put x a y.dst u h3, if_pos hw]
      refine ⟨(chk_congr (eval_away h3)).trans h.1, ?_⟩
      have e2 : (execOp (a.put y.dst u).eval x).run P w2 = .ok (.value v) w2 := by rw [execOp_congr x hsx (eval_away h3)]; exact he w2 hw2
      rw [wp_value e2, ← put_swap a h2 v u]
      exact hk
    · rename_i hw
      refine ⟨undef, h, fun u w2 _ hk => ?_⟩
      unfold st
      rw [wanted_put x a y.dst u h3, if_neg hw, ← put_swap a h2 undef u]
      exact hk
  obtain ⟨v, hY, hX⟩ := hX
  unfold st at hY ⊢
  rw [wanted_put y a x.dst v h1] at hY
  split
  · rename_i hw
    rw [if_pos hw] at hY
    refine ⟨(chk_congr (eval_away h1)).symm.trans hY.1, ?_⟩
    obtain ⟨n, w', e⟩ := wp_ok hY.2
    have hn : ∃ u, n = .value u ∧ ∀ k, k < w.heap.size → w'.heap[k]? = w.heap[k]? := by
      rcases hy with hy | hy
      · obtain ⟨u, rfl, rfl, _⟩ := read_exec hy e
        exact ⟨u, rfl, fun _ _ => rfl⟩
      · obtain ⟨⟨u, rfl⟩, hk⟩ := new_exec hy e
        exact ⟨u, rfl, hk⟩
    obtain ⟨u, rfl, hk⟩ := hn
    have hf := (wp_value e).1 hY.2
    rw [execOp_congr y hsy (eval_away h1)] at e
    rw [wp_value e]
    exact hX u w' hk hf
  · rename_i hw
    rw [if_neg hw] at hY
    exact hX undef w (fun _ _ => rfl) hY
def noSel (o : Oper) : Bool := match o.op with | .select .. => false | _ => true
theorem noSel_spec {o : Oper} (h : noSel o = true) : ∀ cs b, o.op ≠ .select cs b := fun cs b e => by simp [noSel, e] at h
def comm (P : Program) (ops : Array Oper) (x y : Oper) : Bool :=
  x.apart ops y && (cls P y.op == 0 || cls P x.op == 0 || (cls P x.op == 1 && (cls P y.op == 1 || cls P y.op == 2)))
theorem swap {x y : Oper} {K : Act → World → Prop} {a : Act} {w : World} (hsx : noSel x = true) (hsy : noSel y = true) (hc : comm P ops x y = true)
    (h : st P ops Q x (st P ops Q y K) a w) : st P ops Q y (st P ops Q x K) a w := by
  simp only [comm, Bool.and_eq_true, Bool.or_eq_true, beq_iff_eq] at hc
  obtain ⟨hap, (h1 | h1) | ⟨h1, h2⟩⟩ := hc
  · exact swap_pure_right (noSel_spec hsx) (noSel_spec hsy) hap h1 h
  · exact swap_pure_left (noSel_spec hsx) (noSel_spec hsy) hap h1 h
  · exact swap_read (noSel_spec hsx) (noSel_spec hsy) hap h1 h2 h
def run (P : Program) (ops : Array Oper) (Q : Act → World → Prop) : List Oper → Act → World → Prop
  | [] => Q
  | o :: l => st P ops Q o (run P ops Q l)
theorem move : ∀ (pre post : List Oper) (y : Oper) (a : Act) (w : World), (∀ x ∈ pre, noSel x = true ∧ comm P ops x y = true) → noSel y = true →
    run P ops Q (pre ++ y :: post) a w → st P ops Q y (run P ops Q (pre ++ post)) a w
  | [], _, _, _, _, _, _, h => h
  | x :: pre, post, y, a, w, hp, hy, h => by
    have h1 : st P ops Q x (st P ops Q y (run P ops Q (pre ++ post))) a w := st_mono (fun a w hh => move pre post y a w (fun z hz => hp z (List.mem_cons_of_mem _ hz)) hy hh) h
    obtain ⟨h2, h3⟩ := hp x (List.mem_cons_self ..)
    exact swap h2 hy h3 h1
end
end
section
open Go.RowKit
theorem hide {p : Prop} (h : p) : Hid p := h
def Ext (w w' : World) : Prop := Below w.heap.size w w'
section
variable {w w1 w2 : World}
theorem Ext.refl (w : World) : Ext w w := Below.refl _ _
theorem Ext.size (h : Ext w w1) : w.heap.size ≤ w1.heap.size := Below.size h
theorem Ext.trans (h : Ext w w1) (k : Ext w1 w2) : Ext w w2 := Below.trans h (Below.mono k h.size)
theorem Ext.drew (h : Ext w w1) : Ext w w1.drew := Below.drew h
theorem Ext.alloc (h : Ext w w1) (o : Obj) : Ext w (w1.alloc o) := Below.alloc h h.size o
theorem Ext.setCell (h : Ext w w1) {p : Addr} (hp : w.heap.size ≤ p.block) (u : Value) : Ext w (w1.setCell p u) := Below.setCell h hp u
theorem Ext.grown {row : Option Nat} (h : Ext w w1) (hg : w1.grownBy w2 row) (hr : ∀ k, row = some k → w.heap.size ≤ k) : Ext w w2 := Below.grown h hg h.size hr
theorem Ext.cell {a : Addr} {v : Value} (h : Ext w w1) (hc : w.cell? a = some v) : w1.cell? a = some v := (Below.cell h (World.block_lt_of_cell? w a hc)).trans hc
theorem Ext.block {k : Nat} {o : Obj} (h : Ext w w1) (hk : w.heap[k]? = some o) : w1.heap[k]? = some o :=
  (Below.block h k (Array.getElem?_eq_some_iff.1 hk).1).trans hk
theorem Ext.owns {base : Nat} {e : TypeId} {size : Nat} {v : Value} {n : Nat} {xs : List Value} (h : Ext w w1) (ho : w.ownsRow base e size v n xs) : w1.ownsRow base e size v n xs := by
  obtain ⟨h1, h2⟩ := ho
  refine ⟨h1, ?_⟩
  rcases h2 with h2 | ⟨g, cap, cur, hv, hg, hh, r⟩
  · exact .inl h2
  · exact .inr ⟨g, cap, cur, hv, hg, h.block hh, r⟩
end
def Row (w : World) (g : Nat) (t : TypeId) (cs : Array Value) : Prop := w.heap[g]? = some (.cells cs t (0, 0))
section
variable {w w1 : World} {g : Nat} {t : TypeId} {cs : Array Value}
theorem Row.lt (h : Row w g t cs) : g < w.heap.size := (Array.getElem?_eq_some_iff.1 h).1
theorem Row.cell (h : Row w g t cs) (i : Nat) {v : Value} (hv : cs[i]? = some v) : w.cell? ⟨g, i, none⟩ = some v := (cell_of_row w g i cs t (0, 0) h).trans hv
theorem Row.get (h : Row w g t cs) (i : Nat) : w.cell? ⟨g, i, none⟩ = cs[i]? := cell_of_row w g i cs t (0, 0) h
theorem Row.free (h : Row w g t cs) (i : Nat) : w.frozen? ⟨g, i, none⟩ = false := by
  simp [World.frozen?, show w.heap[g]? = some (.cells cs t (0, 0)) from h]
theorem Row.ext (h : Row w g t cs) (he : Ext w w1) : Row w1 g t cs := he.block h
theorem Row.keep (h : Row w g t cs) (hb : w1.heap[g]? = w.heap[g]?) : Row w1 g t cs := Eq.trans hb h
theorem Row.drew (h : Row w g t cs) : Row w.drew g t cs := h
theorem Row.alloc (h : Row w g t cs) (o : Obj) : Row (w.alloc o) g t cs := h.keep (Below.heap_alloc w o g h.lt)
theorem Row.grown {row : Option Nat} (h : Row w g t cs) (hg : w.grownBy w1 row) (hne : some g ≠ row) : Row w1 g t cs := h.keep (hg.block g h.lt hne)
theorem Row.away (h : Row w g t cs) {p : Addr} (hp : g ≠ p.block) (u : Value) : Row (w.setCell p u) g t cs := h.keep (Below.heap_setCell w p u g hp)
theorem Row.put (h : Row w g t cs) (i : Nat) (u : Value) : Row (w.setCell ⟨g, i, none⟩ u) g t (cs.setIfInBounds i u) := by
  unfold Row at h ⊢
  simp [World.setCell, Array.getElem?_modify, h]
theorem Row.new (w : World) (t : TypeId) (cs : Array Value) : Row (w.alloc (.cells cs t)) w.heap.size t cs := heap_alloc_new w _
end
def Cells (w : World) (A : Option Addr) (xs : List Value) : Prop :=
  xs = [] ∨ ∃ g o, A = some ⟨g, o, none⟩ ∧ ∀ i v, xs[i]? = some v → w.cell? ⟨g, o + i, none⟩ = some v
section
variable {w w1 : World} {A : Option Addr} {xs : List Value}
theorem Cells.nil (w : World) (A : Option Addr) : Cells w A [] := .inl rfl
theorem Cells.ext (h : Cells w A xs) (he : Ext w w1) : Cells w1 A xs := by
  rcases h with h | ⟨g, o, hA, hc⟩
  · exact .inl h
  · exact .inr ⟨g, o, hA, fun i v hv => he.cell (hc i v hv)⟩
theorem Cells.at_ (h : Cells w A xs) (hne : 0 < xs.length) : ∃ g o, A = some ⟨g, o, none⟩ ∧ ∀ i v, xs[i]? = some v → w.cell? ⟨g, o + i, none⟩ = some v := by
  rcases h with h | h
  · rw [h] at hne; simp at hne
  · exact h
theorem Cells.of_own {base : Nat} {e : TypeId} {size n c : Nat} (h : w.ownsRow base e size (.slice A n c) n xs) : Cells w A xs := by
  rcases Nat.eq_zero_or_pos xs.length with h0 | h0
  · exact .inl (List.eq_nil_of_length_eq_zero h0)
  · rcases h.2 with ⟨_, h2⟩ | ⟨g, cap, cur, hv, hb, hg, hn, hc, hs, ht⟩
    · rw [h.1, h2] at h0; simp at h0
    · injection hv with hA _ _
      subst hA
      refine .inr ⟨g, 0, rfl, fun i v hv => ?_⟩
      rw [cell_of_row w g (0 + i) cur e (0, 0) hg, Nat.zero_add]
      rw [← ht, List.getElem?_take] at hv
      split at hv
      · simpa using hv
      · cases hv
end
structure Chg (S : Nat → Prop) (w w' : World) : Prop where
  os : w'.os = w.os
  tape : w'.tape = w.tape
  output : w'.output = w.output
  size : w.heap.size ≤ w'.heap.size
  block : ∀ k, k < w.heap.size → ¬ S k → w'.heap[k]? = w.heap[k]?
section
variable {S S' : Nat → Prop} {w w1 w2 : World}
theorem Chg.refl (S : Nat → Prop) (w : World) : Chg S w w := ⟨rfl, rfl, rfl, Nat.le_refl _, fun _ _ _ => rfl⟩
theorem Chg.of_ext (h : Ext w w1) (S : Nat → Prop) : Chg S w w1 := ⟨Below.os h, Below.tape h, Below.output h, Below.size h, fun k hk _ => Below.block h k hk⟩
theorem Chg.of_grown {row : Option Nat} (h : w.grownBy w1 row) (hS : ∀ k, k < w.heap.size → row = some k → S k) : Chg S w w1 := ⟨h.os, h.tape, h.output, h.size, fun k hk hn => h.block k hk (fun e => hn (hS k hk e.symm))⟩
theorem Chg.of_set (w : World) {a : Addr} (v : Value) (hS : S a.block) : Chg S w (w.setCell a v) :=
  ⟨rfl, rfl, rfl, by simp [World.setCell], fun k _ hn => Below.heap_setCell w a v k (fun e => hn (by rw [e]; exact hS))⟩
theorem Chg.trans (h : Chg S w w1) (k : Chg S' w1 w2) (hS : ∀ i, i < w.heap.size → S' i → S i) : Chg S w w2 :=
  ⟨k.os.trans h.os, k.tape.trans h.tape, k.output.trans h.output, Nat.le_trans h.size k.size, fun i hi hn => (k.block i (Nat.lt_of_lt_of_le hi h.size) (fun hs => hn (hS i hi hs))).trans (h.block i hi hn)⟩
theorem Chg.mono (h : Chg S w w1) (hS : ∀ i, i < w.heap.size → S i → S' i) : Chg S' w w1 := ⟨h.os, h.tape, h.output, h.size, fun i hi hn => h.block i hi (fun hs => hn (hS i hi hs))⟩
theorem Chg.ext (h : Chg S w w1) (hS : ∀ i, i < w.heap.size → ¬ S i) : Ext w w1 := ⟨h.os, h.tape, h.output, h.size, fun i hi => h.block i hi (hS i hi)⟩
theorem Ext.chg (h : Ext w w1) (k : Chg S w1 w2) (hS : ∀ i, i < w.heap.size → ¬ S i) : Ext w w2 :=
  Below.trans h ⟨k.os, k.tape, k.output, k.size, fun i hi => k.block i (Nat.lt_of_lt_of_le hi h.size) (hS i hi)⟩
theorem Chg.cell (h : Chg S w w1) {a : Addr} {v : Value} (hc : w.cell? a = some v) (hn : ¬ S a.block) : w1.cell? a = some v :=
  (World.cell?_of_block (h.block a.block (World.block_lt_of_cell? w a hc) hn)).trans hc
theorem Chg.row (h : Chg S w w1) {g : Nat} {t : TypeId} {cs : Array Value} (hr : Row w g t cs) (hn : ¬ S g) : Row w1 g t cs := hr.keep (h.block g hr.lt hn)
theorem Chg.owns (h : Chg S w w1) {base : Nat} {e : TypeId} {size : Nat} {v : Value} {n : Nat} {xs : List Value} (ho : w.ownsRow base e size v n xs) (hn : ∀ g, v.ownBlock = some g → ¬ S g) : w1.ownsRow base e size v n xs := by
  obtain ⟨h1, h2⟩ := ho
  refine ⟨h1, ?_⟩
  rcases h2 with h2 | ⟨g, cap, cur, hv, hg, hh, r⟩
  · exact .inl h2
  · exact .inr ⟨g, cap, cur, hv, hg, (h.block g (Array.getElem?_eq_some_iff.1 hh).1 (hn g (by rw [hv]; rfl))).trans hh, r⟩
theorem Chg.cells (h : Chg S w w1) {A : Option Addr} {xs : List Value} (hc : Cells w A xs) (hn : ∀ a, A = some a → ¬ S a.block) : Cells w1 A xs := by
  rcases hc with hc | ⟨g, o, hA, hc⟩
  · exact .inl hc
  · exact .inr ⟨g, o, hA, fun i v hv => h.cell (hc i v hv) (show ¬ S g from hn _ hA)⟩
end
theorem owns_row {w : World} {base : Nat} {e : TypeId} {size : Nat} {v : Value} {n : Nat} {xs : List Value} (h : w.ownsRow base e size v n xs) {g : Nat} (hg : v.ownBlock = some g) : ∃ cur, Row w g e cur ∧ base ≤ g := by
  rcases h.2 with ⟨rfl, _⟩ | ⟨g', cap, cur, rfl, hb, hh, _⟩
  · simp [Value.ownBlock] at hg
  · simp [Value.ownBlock] at hg
    subst hg
    exact ⟨cur, hh, hb⟩
theorem owns_shape {w : World} {base : Nat} {e : TypeId} {size : Nat} {v : Value} {n : Nat} {xs : List Value} (h : w.ownsRow base e size v n xs) : ∃ A c, v = .slice A n c := by
  rcases h.2 with ⟨rfl, rfl⟩ | ⟨g, cap, cur, rfl, _⟩
  · exact ⟨none, 0, rfl⟩
  · exact ⟨_, cap, rfl⟩
section
variable {S : Nat → Prop} {w w1 : World}
theorem owns_set {w : World} {base : Nat} {e : TypeId} {size : Nat} {v : Value} {n : Nat} {xs : List Value} (h : w.ownsRow base e size v n xs) {a : Addr} (ha : v.ownBlock ≠ some a.block) (u : Value) : (w.setCell a u).ownsRow base e size v n xs :=
  (Chg.of_set (S := fun k => k = a.block) w u rfl).owns h fun g hg hk => ha (by rw [hg, hk])
end
structure Elem (P : Program) (t e size bytes : Nat) : Prop where
  ht : P.underlying t = some (.slice e)
  hi : ∃ i z, P.info? e = some i ∧ i.zero = some z ∧ i.size = size ∧ i.bytes = bytes ∧ z.cells.size = size
  hs : 0 < size
  hb : bytes ≤ 1024
theorem run_app {P : Program} {t e size bytes : Nat} (E : Elem P t e size bytes) (w : World) (ty : TypeId) {base : Nat} {v : Value} {n : Nat} {xs : List Value} (hown : w.ownsRow base e size v n xs)
    {A : Option Addr} {m c : Nat} {news : List Value} (hr : Cells w A news) (hl : news.length = m * size) (h1 : ∀ u ∈ news, u.oneCell' = true) (hsz : n + m ≤ 4294967296) (hbase : base ≤ w.heap.size) :
    ∃ A1 c1 w', (Builtin.append_ #[t, t] ty #[v, .slice A m c]).run P w = .ok (.slice A1 (n + m) c1) w' ∧ w'.ownsRow base e size (.slice A1 (n + m) c1) (n + m) (xs ++ news) ∧ w.grownBy w' v.ownBlock ∧
      ((Value.slice A1 (n + m) c1).ownBlock = v.ownBlock ∨ (Value.slice A1 (n + m) c1).ownBlock = some w.heap.size) := by
  suffices hh : ∃ v' w', (Builtin.append_ #[t, t] ty #[v, .slice A m c]).run P w = .ok v' w' ∧ w'.ownsRow base e size v' (n + m) (xs ++ news) ∧ w.grownBy w' v.ownBlock ∧ (v'.ownBlock = v.ownBlock ∨ v'.ownBlock = some w.heap.size) by
    obtain ⟨v', w', h1, h2, h3⟩ := hh
    obtain ⟨A1, c1, rfl⟩ := owns_shape h2
    exact ⟨A1, c1, w', h1, h2, h3⟩
  obtain ⟨i, z, hi, hz, h3, h4, h5⟩ := E.hi
  have hbytes : (n + m) * bytes ≤ 140737488355328 := Nat.le_trans (Nat.mul_le_mul hsz E.hb) (by omega)
  cases A with
  | some a =>
    have hc : ∀ j u, news[j]? = some u → w.cell? (a.add j) = some u := by
      intro j u hu
      rcases hr with hr | ⟨g, o, hA, hc⟩
      · subst hr; simp at hu
      · cases hA
        rw [Addr.add_lit]
        exact hc j u hu
    obtain ⟨v', w', hrun, h6, h7, _, h8⟩ := run_append_own_at (P := P) w base t ty e i z size bytes E.ht hi hz h3 h4 h5 E.hs v n xs hown a m c news hl hc h1 (by unfold maxLen; omega) hbytes hbase
    exact ⟨v', w', hrun, h6, h7, h8⟩
  | none =>
    have hnil : news = [] := by
      rcases hr with hr | ⟨g, o, hA, _⟩
      · exact hr
      · cases hA
    subst hnil
    have hm : m = 0 := by
      have := E.hs
      rcases Nat.mul_eq_zero.1 (show m * size = 0 from hl.symm) with h | h
      · exact h
      · omega
    subst hm
    refine ⟨v, w, ?_, by simpa using hown, World.grownBy.refl w _, .inl rfl⟩
    rcases hown.2 with ⟨rfl, rfl⟩ | ⟨g, cap, cur, rfl, _, _, hnc, _⟩
    · simp [Builtin.append_, run_underlying E.ht, sizeOf, typeInfo, hi, Builtin.lenOf, Builtin.firstCells]
    · simp [Builtin.append_, run_underlying E.ht, sizeOf, typeInfo, hi, Builtin.lenOf, Builtin.firstCells, hnc, storeCells]
theorem wpList_app {P : Program} {ops : Array Oper} {rest : List Oper} {o : Oper} {a : Act} {Q : Exit → Act → World → Prop} {w : World} {t e size bytes : Nat} (E : Elem P t e size bytes)
    {base : Nat} {v : Value} {n : Nat} {xs : List Value} {A : Option Addr} {m m' c : Nat} {news : List Value} (hown : w.ownsRow base e size v n xs) (hr : Cells w A news) (s x : Operand)
    (ho : o.op = .call { callee := .builtin .append, args := #[s, x], argTypes := #[t, t] }) (hgd : o.guard = none)
    (hs : a.eval s = v) (hx : a.eval x = .slice A m' c) (hm : m' = m) (hl : news.length = m * size) (h1 : ∀ u ∈ news, u.oneCell' = true) (hsz : n + m ≤ 4294967296) (hbase : base ≤ w.heap.size)
    (h : ∀ A1 c1 w', w'.ownsRow base e size (.slice A1 (n + m) c1) (n + m) (xs ++ news) → w.grownBy w' v.ownBlock → ((Value.slice A1 (n + m) c1).ownBlock = v.ownBlock ∨ (Value.slice A1 (n + m) c1).ownBlock = some w.heap.size) → wpList P ops Q rest (a.put o.dst (.slice A1 (n + m) c1)) w') : wpList P ops Q (o :: rest) a w :=
  wpList_plain hgd fun K hK => by
    subst hm
    obtain ⟨A1, c1, w', hrun, h2, h3, h4⟩ := run_app (P := P) E w o.type hown (c := c) hr hl h1 hsz hbase
    unfold Oper.wp execOp
    simp only [ho, resolve, invoke, builtin, Sem.run_bind, Sem.run_pure, Result.andThen_ok, List.map_toArray, List.map_cons, List.map_nil, hs, hx, hrun]
    exact hK _ _ (h A1 c1 w' h2 h3 h4)
theorem wpList_appN {P : Program} {ops : Array Oper} {rest : List Oper} {o : Oper} {a : Act} {Q : Exit → Act → World → Prop} {w0 : World} {us : List Value} {T : TypeId} {t e bytes : Nat} (E : Elem P t e 1 bytes)
    {base : Nat} {v : Value} {n : Nat} {xs : List Value} (hown : w0.ownsRow base e 1 v n xs) (s x : Operand)
    (ho : o.op = .call { callee := .builtin .append, args := #[s, x], argTypes := #[t, t] }) (hgd : o.guard = none)
    (hs : a.eval s = v) (hx : a.eval x = .slice (some ⟨w0.heap.size, 0, none⟩) us.length us.length) (h1 : ∀ u ∈ us, u.oneCell' = true) (hsz : n + us.length ≤ 4294967296) (hbase : base ≤ w0.heap.size)
    (h : ∀ A1 c1 w', w'.ownsRow base e 1 (.slice A1 (n + us.length) c1) (n + us.length) (xs ++ us) → w0.grownBy w' v.ownBlock → ((Value.slice A1 (n + us.length) c1).ownBlock = v.ownBlock ∨ (Value.slice A1 (n + us.length) c1).ownBlock = some (w0.heap.size + 1)) →
      wpList P ops Q rest (a.put o.dst (.slice A1 (n + us.length) c1)) w') :
    wpList P ops Q (o :: rest) a (w0.alloc (.cells us.toArray T)) := by
  refine wpList_app E (((Ext.refl w0).alloc _).owns hown) (A := some ⟨w0.heap.size, 0, none⟩) (news := us) (.inr ⟨w0.heap.size, 0, rfl, fun i u hu => ?_⟩) s x ho hgd hs hx rfl (by simp) h1 hsz (by simp; omega) fun A1 c1 w' h2 h3 h4 => ?_
  · rw [Nat.zero_add, cell_of_row _ _ _ _ _ _ (heap_alloc_new w0 _)]
    simpa using hu
  · refine h A1 c1 w' h2 ⟨h3.os, h3.tape, h3.output, Nat.le_trans (by simp) h3.size, fun k hk hne => (h3.block k (by simp; omega) hne).trans (Below.heap_alloc w0 _ k hk)⟩ ?_
    simpa using h4
theorem one_of {us : List Value} (h : us.all Value.oneCell' = true) : ∀ u ∈ us, u.oneCell' = true := fun u hu => List.all_eq_true.1 h u hu
def B8 (c : UInt8) : Value := .int .u8 c.toNat
def Bs (w : World) (A : Option Addr) (l : List UInt8) : Prop := Cells w A (l.map B8)
theorem Bs.ext {w w1 : World} {A : Option Addr} {l : List UInt8} (h : Bs w A l) (he : Ext w w1) : Bs w1 A l := Cells.ext h he
theorem Bs.at_ {w : World} {A : Option Addr} {l : List UInt8} (h : Bs w A l) (hne : 0 < l.length) :
    ∃ g o, A = some ⟨g, o, none⟩ ∧ ∀ i (hi : i < l.length), w.cell? ⟨g, o + i, none⟩ = some (.int .u8 (l[i].toNat : Int)) := by
  obtain ⟨g, o, hA, hc⟩ := Cells.at_ h (by simpa using hne)
  exact ⟨g, o, hA, fun i hi => hc i _ (by simp [hi, B8])⟩
theorem run_min2 {P : Program} (ts : Array TypeId) (ty : TypeId) {x y m : Int} (hm : m = min x y) (W : World) : (Builtin.min_ ts ty #[.int .i64 x, .int .i64 y]).run P W = .ok (.int .i64 m) W := by
  simp only [Builtin.min_, List.foldlM, Builtin.min2, Sem.run_bind, Sem.run_pure, Result.andThen_ok]
  subst hm
  congr 2
  split <;> omega
theorem Bs.cut {w : World} {g o : Nat} {l : List UInt8} (h : Bs w (some ⟨g, o, none⟩) l) (f k : Nat) : Cells w (some ⟨g, o + f, none⟩) (((l.drop f).take k).map B8) := by
  rcases h with h | ⟨g', o', hA, hc⟩
  · have : l = [] := by simpa using h
    subst this
    exact .inl (by simp)
  · cases hA
    refine .inr ⟨g, o + f, rfl, fun i v hv => ?_⟩
    rw [Nat.add_assoc]
    refine hc (f + i) v ?_
    rw [List.getElem?_map] at hv ⊢
    rw [List.getElem?_take] at hv
    split at hv
    · rw [List.getElem?_drop] at hv; exact hv
    · simp at hv
theorem ret_int {k : IntKind} {a b : Int} (h : a = b) : Ending.returned (.int k a) = .returned (.int k b) := by rw [h]
end
section
open Go.ChangeShapes Go.WideShapes Go.ChangeAt Go.RowKit
open Go.ChangeMaps (open_string shut_string)
theorem wf_i64 {a : Int} (h : (Lit.int .i64 a).wf = true) : -9223372036854775808 ≤ a ∧ a ≤ 9223372036854775807 := by
  simp [Lit.wf, IntKind.has, IntKind.min, IntKind.max, IntKind.bits, IntKind.signed] at h
  omega
end
section
open Go.ChangeShapes Go.WideShapes Go.Deep Go.RowKit
theorem cell_lt {w : World} {a : Addr} {v : Value} (h : w.cell? a = some v) : a.block < w.heap.size ∧ a.spot = none := by
  unfold World.cell? at h
  split at h
  · rename_i c _ _ hb
    refine ⟨(Array.getElem?_eq_some_iff.1 hb).1, ?_⟩
    cases hs : a.spot with
    | none => rfl
    | some s => rw [hs] at h; simp at h
  · cases h
theorem list_of {α : Type} {Q : Nat → α → Prop} : ∀ (n : Nat), (∀ i, i < n → ∃ x, Q i x) → ∃ l : List α, l.length = n ∧ ∀ i x, l[i]? = some x → Q i x
  | 0, _ => ⟨[], rfl, fun i x h => by simp at h⟩
  | n + 1, h => by
    obtain ⟨l, hl, hq⟩ := list_of n fun i hi => h i (by omega)
    obtain ⟨x, hx⟩ := h n (by omega)
    refine ⟨l ++ [x], by simp [hl], fun i y hy => ?_⟩
    rw [List.getElem?_append] at hy
    split at hy
    · exact hq i y hy
    · rename_i hi
      have : i = n := by
        have := (List.getElem?_eq_some_iff.1 hy).1
        simp at this
        omega
      subst this
      rw [hl] at hy
      simp at hy
      rw [← hy]
      exact hx
section
variable {H : Type} {enc : TypeId × Value → H} {w : World} {base : Nat} {spare : Nat → Bool} {held : Bool}
end
end
section
open Go.ChangeShapes Go.WideShapes Go.Deep Go.RowKit
def strV (l : List UInt8) : Value := .string ⟨l.toArray⟩
theorem strV_bytes (s : ByteArray) : strV s.data.toList = .string s := by
  cases s
  simp [strV]
theorem str_list {s : ByteArray} (h : s.size ≤ maxLen) : Value.string s = strV s.data.toList ∧ s.data.toList.length ≤ 9223372036854775807 := by
  refine ⟨(strV_bytes s).symm, ?_⟩
  unfold maxLen at h
  rw [Array.length_toList]
  exact h
section
variable {H : Type} {enc : TypeId × Value → H} {w : World} {base : Nat} {spare : Nat → Bool} {held : Bool}
end
end
section
open Go.RowKit Go.Maps
def NobS (w : World) (s : Value) : Prop := s = .pointer none ∨ ∃ g, s = .pointer (some ⟨g, 0, none⟩) ∧ w.cell? ⟨g, 6, none⟩ = some (.pointer none)
theorem NobS.ext {w w1 : World} {s : Value} (h : NobS w s) (hE : Ext w w1) : NobS w1 s := by
  rcases h with h | ⟨g, h, hr⟩
  · exact .inl h
  · exact .inr ⟨g, h, hE.cell hr⟩
set_option maxRecDepth 100000 in
theorem ready_no (s : Value) (w : World) (h : NobS w s) : Calls Tryz.prog 29 #[s] w fun e w' => e = .returned (.int .i64 4) ∧ w' = w := by
  rcases h with rfl | ⟨g, rfl, hr⟩
  · go_enter Tryz.func29, Tryz.ntmps29
    go_wp2_with fail
    go_ret
    exact ⟨rfl, rfl⟩
  · go_enter Tryz.func29, Tryz.ntmps29
    go_wp2_with fail
    go_ret
    exact ⟨rfl, rfl⟩
set_option maxRecDepth 100000 in
theorem told_no (s v : Value) (w : World) (h : NobS w s) : Calls Tryz.prog 44 #[s, v] w fun e w' => e = .returned (.int .i64 0) ∧ w' = w := by
  have hn := hide (ready_no s w h)
  go_enter Tryz.func44, Tryz.ntmps44
  go_wp2_with fail
  refine hn.out.mono ?_
  rintro e w1 ⟨rfl, rfl⟩
  go_wp2_with fail
  go_ret
  exact ⟨rfl, rfl⟩
set_option maxRecDepth 100000 in
set_option maxHeartbeats 1000000 in
theorem sAdd_no (s : Value) (v : Value) (w : World) (h : NobS w s) : Calls Tryz.prog 6 #[s, .bool true, v] w fun e w' => e = .returned (.tuple #[.int .i64 0, .int .i64 4]) ∧ Ext w w' := by
  have hn := hide fun W (hE : Ext w W) => ready_no s W (h.ext hE)
  replace h := hide h
  have hmf : ∀ (fn : Fn) (first cap : Array Value) (w : World), (Instr.makeFunc fn first cap).run Tryz.prog w = .ok (.func fn first cap) w := fun _ _ _ _ => rfl
  go_enter Tryz.func6, Tryz.ntmps6
  go_wp2_with fail
  refine (hn.out _ (by repeat (first | exact Ext.refl _ | apply Ext.alloc | apply Ext.drew))).mono ?_
  rintro e w1 ⟨rfl, rfl⟩
  go_wp2_with fail
  go_ret2
  exact ⟨rfl, by repeat (first | exact Ext.refl _ | apply Ext.alloc | apply Ext.drew)⟩
set_option maxRecDepth 100000 in
set_option maxHeartbeats 1000000 in
theorem sExpire_no (s : Value) (w : World) (h : NobS w s) : Calls Tryz.prog 8 #[s] w fun e w' => e = .returned (.tuple #[.int .i64 0, .int .i64 4]) ∧ Ext w w' := by
  have hn := hide fun W (hE : Ext w W) => ready_no s W (h.ext hE)
  replace h := hide h
  have hmf : ∀ (fn : Fn) (first cap : Array Value) (w : World), (Instr.makeFunc fn first cap).run Tryz.prog w = .ok (.func fn first cap) w := fun _ _ _ _ => rfl
  go_enter Tryz.func8, Tryz.ntmps8
  go_wp2_with fail
  refine (hn.out _ (by repeat (first | exact Ext.refl _ | apply Ext.alloc | apply Ext.drew))).mono ?_
  rintro e w1 ⟨rfl, rfl⟩
  go_wp2_with fail
  go_ret2
  exact ⟨rfl, by repeat (first | exact Ext.refl _ | apply Ext.alloc | apply Ext.drew)⟩
set_option maxRecDepth 100000 in
set_option maxHeartbeats 1000000 in
theorem sSync_no (s : Value) (w : World) (h : NobS w s) : Calls Tryz.prog 9 #[s] w fun e w' => e = .returned (.int .i64 4) ∧ Ext w w' := by
  have hn := hide fun W (hE : Ext w W) => ready_no s W (h.ext hE)
  replace h := hide h
  have hmf : ∀ (fn : Fn) (first cap : Array Value) (w : World), (Instr.makeFunc fn first cap).run Tryz.prog w = .ok (.func fn first cap) w := fun _ _ _ _ => rfl
  go_enter Tryz.func9, Tryz.ntmps9
  go_wp2_with fail
  refine (hn.out _ (by repeat (first | exact Ext.refl _ | apply Ext.alloc | apply Ext.drew))).mono ?_
  rintro e w1 ⟨rfl, rfl⟩
  go_wp2_with fail
  go_ret
  exact ⟨rfl, by repeat (first | exact Ext.refl _ | apply Ext.alloc | apply Ext.drew)⟩
set_option maxRecDepth 100000 in
set_option maxHeartbeats 1000000 in
theorem sSeal_no (s : Value) (w : World) (h : NobS w s) : Calls Tryz.prog 11 #[s] w fun e w' => e = .returned (.int .i64 4) ∧ Ext w w' := by
  have hn := hide fun W (hE : Ext w W) => ready_no s W (h.ext hE)
  replace h := hide h
  have hmf : ∀ (fn : Fn) (first cap : Array Value) (w : World), (Instr.makeFunc fn first cap).run Tryz.prog w = .ok (.func fn first cap) w := fun _ _ _ _ => rfl
  go_enter Tryz.func11, Tryz.ntmps11
  go_wp2_with fail
  refine (hn.out _ (by repeat (first | exact Ext.refl _ | apply Ext.alloc | apply Ext.drew))).mono ?_
  rintro e w1 ⟨rfl, rfl⟩
  go_wp2_with fail
  go_ret
  exact ⟨rfl, by repeat (first | exact Ext.refl _ | apply Ext.alloc | apply Ext.drew)⟩
set_option maxRecDepth 100000 in
set_option maxHeartbeats 1000000 in
theorem sFreeze_no (s : Value) (w : World) (h : NobS w s) : Calls Tryz.prog 12 #[s] w fun e w' => e = .returned (.int .i64 4) ∧ Ext w w' := by
  have hn := hide fun W (hE : Ext w W) => ready_no s W (h.ext hE)
  replace h := hide h
  have hmf : ∀ (fn : Fn) (first cap : Array Value) (w : World), (Instr.makeFunc fn first cap).run Tryz.prog w = .ok (.func fn first cap) w := fun _ _ _ _ => rfl
  go_enter Tryz.func12, Tryz.ntmps12
  go_wp2_with fail
  refine (hn.out _ (by repeat (first | exact Ext.refl _ | apply Ext.alloc | apply Ext.drew))).mono ?_
  rintro e w1 ⟨rfl, rfl⟩
  go_wp2_with fail
  go_ret
  exact ⟨rfl, by repeat (first | exact Ext.refl _ | apply Ext.alloc | apply Ext.drew)⟩
set_option maxRecDepth 100000 in
set_option maxHeartbeats 1000000 in
theorem sTick_no (s : Value) (n : Int) (w : World) (h : NobS w s) : Calls Tryz.prog 10 #[s, .int .i64 n] w fun e w' => e = .returned (.int .i64 4) ∧ Ext w w' := by
  have hn := hide fun W (hE : Ext w W) => ready_no s W (h.ext hE)
  replace h := hide h
  have hmf : ∀ (fn : Fn) (first cap : Array Value) (w : World), (Instr.makeFunc fn first cap).run Tryz.prog w = .ok (.func fn first cap) w := fun _ _ _ _ => rfl
  go_enter Tryz.func10, Tryz.ntmps10
  go_wp2_with fail
  refine (hn.out _ (by repeat (first | exact Ext.refl _ | apply Ext.alloc | apply Ext.drew))).mono ?_
  rintro e w1 ⟨rfl, rfl⟩
  go_wp2_with fail
  go_ret
  exact ⟨rfl, by repeat (first | exact Ext.refl _ | apply Ext.alloc | apply Ext.drew)⟩
set_option maxRecDepth 100000 in
set_option maxHeartbeats 1000000 in
theorem sDocs_no (s : Value) (q : Array Value) (x y : Int) (w : World) (h : NobS w s) : Calls Tryz.prog 13 #[s, .agg q, .int .i64 x, .int .i64 y] w fun e w' => e = .returned (.slice none 0 0) ∧ Ext w w' := by
  have hn := hide fun W (hE : Ext w W) => ready_no s W (h.ext hE)
  replace h := hide h
  have hmf : ∀ (fn : Fn) (first cap : Array Value) (w : World), (Instr.makeFunc fn first cap).run Tryz.prog w = .ok (.func fn first cap) w := fun _ _ _ _ => rfl
  go_enter Tryz.func13, Tryz.ntmps13
  go_wp2_with fail
  refine (hn.out _ (by repeat (first | exact Ext.refl _ | apply Ext.alloc | apply Ext.drew))).mono ?_
  rintro e w1 ⟨rfl, rfl⟩
  go_wp2_with fail
  go_ret
  exact ⟨rfl, by repeat (first | exact Ext.refl _ | apply Ext.alloc | apply Ext.drew)⟩
set_option maxRecDepth 100000 in
set_option maxHeartbeats 1000000 in
theorem sAfter_no (s : Value) (q : Array Value) (x y : Int) (w : World) (h : NobS w s) : Calls Tryz.prog 15 #[s, .agg q, .int .i64 x, .int .i64 y] w fun e w' => e = .returned (.slice none 0 0) ∧ Ext w w' := by
  have hn := hide fun W (hE : Ext w W) => ready_no s W (h.ext hE)
  replace h := hide h
  have hmf : ∀ (fn : Fn) (first cap : Array Value) (w : World), (Instr.makeFunc fn first cap).run Tryz.prog w = .ok (.func fn first cap) w := fun _ _ _ _ => rfl
  go_enter Tryz.func15, Tryz.ntmps15
  go_wp2_with fail
  refine (hn.out _ (by repeat (first | exact Ext.refl _ | apply Ext.alloc | apply Ext.drew))).mono ?_
  rintro e w1 ⟨rfl, rfl⟩
  go_wp2_with fail
  go_ret
  exact ⟨rfl, by repeat (first | exact Ext.refl _ | apply Ext.alloc | apply Ext.drew)⟩
set_option maxRecDepth 100000 in
set_option maxHeartbeats 1000000 in
theorem sNext_no (s : Value) (w : World) (h : NobS w s) : Calls Tryz.prog 16 #[s] w fun e w' => e = .returned (.int .i64 0) ∧ Ext w w' := by
  have hmf : ∀ (fn : Fn) (first cap : Array Value) (w : World), (Instr.makeFunc fn first cap).run Tryz.prog w = .ok (.func fn first cap) w := fun _ _ _ _ => rfl
  have hn := fun v W (hE : Ext w W) => told_no s v W (h.ext hE)
  rcases h with rfl | ⟨g, rfl, hc⟩
  all_goals
    replace hn := hide hn
    go_enter Tryz.func16, Tryz.ntmps16
    go_wp2_with fail
    refine (hn.out _ _ (by repeat (first | exact Ext.refl _ | apply Ext.alloc | apply Ext.drew))).mono ?_
    rintro e w1 ⟨rfl, rfl⟩
    go_wp2_with fail
    go_ret
    exact ⟨rfl, by repeat (first | exact Ext.refl _ | apply Ext.alloc | apply Ext.drew)⟩
set_option maxRecDepth 100000 in
set_option maxHeartbeats 1000000 in
theorem sFloor_no (s : Value) (w : World) (h : NobS w s) : Calls Tryz.prog 17 #[s] w fun e w' => e = .returned (.int .i64 0) ∧ Ext w w' := by
  have hmf : ∀ (fn : Fn) (first cap : Array Value) (w : World), (Instr.makeFunc fn first cap).run Tryz.prog w = .ok (.func fn first cap) w := fun _ _ _ _ => rfl
  have hn := fun v W (hE : Ext w W) => told_no s v W (h.ext hE)
  rcases h with rfl | ⟨g, rfl, hc⟩
  all_goals
    replace hn := hide hn
    go_enter Tryz.func17, Tryz.ntmps17
    go_wp2_with fail
    refine (hn.out _ _ (by repeat (first | exact Ext.refl _ | apply Ext.alloc | apply Ext.drew))).mono ?_
    rintro e w1 ⟨rfl, rfl⟩
    go_wp2_with fail
    go_ret
    exact ⟨rfl, by repeat (first | exact Ext.refl _ | apply Ext.alloc | apply Ext.drew)⟩
set_option maxRecDepth 100000 in
set_option maxHeartbeats 1000000 in
theorem sNow_no (s : Value) (w : World) (h : NobS w s) : Calls Tryz.prog 18 #[s] w fun e w' => e = .returned (.int .i64 0) ∧ Ext w w' := by
  have hmf : ∀ (fn : Fn) (first cap : Array Value) (w : World), (Instr.makeFunc fn first cap).run Tryz.prog w = .ok (.func fn first cap) w := fun _ _ _ _ => rfl
  have hn := fun v W (hE : Ext w W) => told_no s v W (h.ext hE)
  rcases h with rfl | ⟨g, rfl, hc⟩
  all_goals
    replace hn := hide hn
    go_enter Tryz.func18, Tryz.ntmps18
    go_wp2_with fail
    refine (hn.out _ _ (by repeat (first | exact Ext.refl _ | apply Ext.alloc | apply Ext.drew))).mono ?_
    rintro e w1 ⟨rfl, rfl⟩
    go_wp2_with fail
    go_ret
    exact ⟨rfl, by repeat (first | exact Ext.refl _ | apply Ext.alloc | apply Ext.drew)⟩
set_option maxRecDepth 100000 in
set_option maxHeartbeats 1000000 in
theorem sAcked_no (s : Value) (w : World) (h : NobS w s) : Calls Tryz.prog 19 #[s] w fun e w' => e = .returned (.int .i64 0) ∧ Ext w w' := by
  have hmf : ∀ (fn : Fn) (first cap : Array Value) (w : World), (Instr.makeFunc fn first cap).run Tryz.prog w = .ok (.func fn first cap) w := fun _ _ _ _ => rfl
  have hn := fun v W (hE : Ext w W) => told_no s v W (h.ext hE)
  rcases h with rfl | ⟨g, rfl, hc⟩
  all_goals
    replace hn := hide hn
    go_enter Tryz.func19, Tryz.ntmps19
    go_wp2_with fail
    refine (hn.out _ _ (by repeat (first | exact Ext.refl _ | apply Ext.alloc | apply Ext.drew))).mono ?_
    rintro e w1 ⟨rfl, rfl⟩
    go_wp2_with fail
    go_ret
    exact ⟨rfl, by repeat (first | exact Ext.refl _ | apply Ext.alloc | apply Ext.drew)⟩
set_option maxRecDepth 100000 in
set_option maxHeartbeats 1000000 in
theorem sParts_no (s : Value) (w : World) (h : NobS w s) : Calls Tryz.prog 20 #[s] w fun e w' => e = .returned (.slice none 0 0) ∧ Ext w w' := by
  have hn := hide fun W (hE : Ext w W) => ready_no s W (h.ext hE)
  replace h := hide h
  have hmf : ∀ (fn : Fn) (first cap : Array Value) (w : World), (Instr.makeFunc fn first cap).run Tryz.prog w = .ok (.func fn first cap) w := fun _ _ _ _ => rfl
  go_enter Tryz.func20, Tryz.ntmps20
  go_wp2_with fail
  refine (hn.out _ (by repeat (first | exact Ext.refl _ | apply Ext.alloc | apply Ext.drew))).mono ?_
  rintro e w1 ⟨rfl, rfl⟩
  go_wp2_with fail
  go_ret
  exact ⟨rfl, by repeat (first | exact Ext.refl _ | apply Ext.alloc | apply Ext.drew)⟩
set_option maxRecDepth 100000 in
set_option maxHeartbeats 1000000 in
theorem sStopped_no (s : Value) (w : World) (h : NobS w s) : Calls Tryz.prog 21 #[s] w fun e w' => e = .returned (.bool false) ∧ Ext w w' := by
  have hn := hide fun W (hE : Ext w W) => ready_no s W (h.ext hE)
  replace h := hide h
  have hmf : ∀ (fn : Fn) (first cap : Array Value) (w : World), (Instr.makeFunc fn first cap).run Tryz.prog w = .ok (.func fn first cap) w := fun _ _ _ _ => rfl
  go_enter Tryz.func21, Tryz.ntmps21
  go_wp2_with fail
  refine (hn.out _ (by repeat (first | exact Ext.refl _ | apply Ext.alloc | apply Ext.drew))).mono ?_
  rintro e w1 ⟨rfl, rfl⟩
  go_wp2_with fail
  go_ret
  exact ⟨rfl, by repeat (first | exact Ext.refl _ | apply Ext.alloc | apply Ext.drew)⟩
end
section
open Go.RowKit
abbrev Fd := List UInt8 × List UInt8
def Fd.cells (f : Fd) : List Value := [strV f.1, strV f.2]
def fcells (fs : List Fd) : List Value := fs.flatMap Fd.cells
theorem fcells_len : ∀ fs : List Fd, (fcells fs).length = fs.length * 2
  | [] => rfl
  | f :: fs => by
    have := fcells_len fs
    unfold fcells at this ⊢
    rw [List.flatMap_cons, List.length_append, this, List.length_cons]
    simp [Fd.cells]
    omega
theorem fcells_get : ∀ (fs : List Fd) (i : Nat) (f : Fd) (k : Nat), fs[i]? = some f → k < 2 → (fcells fs)[i * 2 + k]? = f.cells[k]?
  | [], i, f, k, h, _ => by simp at h
  | x :: fs, 0, f, k, h, hk => by
    obtain rfl : x = f := by simpa using h
    unfold fcells
    rw [List.flatMap_cons, List.getElem?_append_left (by simp [Fd.cells]; omega), Nat.zero_mul, Nat.zero_add]
  | x :: fs, i + 1, f, k, h, hk => by
    have h' : fs[i]? = some f := by simpa using h
    have ih := fcells_get fs i f k h' hk
    unfold fcells at ih ⊢
    rw [List.flatMap_cons, List.getElem?_append_right (by simp [Fd.cells]; omega)]
    have : (i + 1) * 2 + k - (Fd.cells x).length = i * 2 + k := by
      have : (Fd.cells x).length = 2 := rfl
      omega
    rw [this]
    exact ih
theorem fcells_at {w : World} {A : Option Addr} {fs : List Fd} (h : Cells w A (fcells fs)) {i : Nat} {f : Fd} (hf : fs[i]? = some f) : ∃ g o, A = some ⟨g, o, none⟩ ∧ w.cell? ⟨g, o + i * 2, none⟩ = some (strV f.1) ∧ w.cell? ⟨g, o + i * 2 + 1, none⟩ = some (strV f.2) := by
  have hi := (List.getElem?_eq_some_iff.1 hf).1
  obtain ⟨g, o, hA, hc⟩ := h.at_ (by rw [fcells_len]; omega)
  refine ⟨g, o, hA, ?_, ?_⟩
  · exact hc (i * 2 + 0) _ (by rw [fcells_get fs i f 0 hf (by omega)]; rfl)
  · rw [Nat.add_assoc]
    exact hc (i * 2 + 1) _ (by rw [fcells_get fs i f 1 hf (by omega)]; rfl)
structure Ev where
  at_ : Int
  fs : List Fd
def Ev.val (e : Ev) (A : Option Addr) (c : Nat) : Value := .agg #[.int .i64 e.at_, .slice A e.fs.length c]
end
section
open Go.RowKit
def Buf (w : World) (base : Nat) (e : TypeId) (A : Option Addr) (n c : Nat) (xs : List Value) : Prop :=
  xs.length = n ∧ n ≤ c ∧ ((A = none ∧ c = 0) ∨ ∃ g cur, A = some ⟨g, 0, none⟩ ∧ base ≤ g ∧ Row w g e cur ∧ c ≤ cur.size ∧ cur.toList.take n = xs)
section
variable {w w1 : World} {base : Nat} {e : TypeId} {A : Option Addr} {n c : Nat} {xs : List Value}
theorem Buf.nil (w : World) (base : Nat) (e : TypeId) : Buf w base e none 0 0 [] := ⟨rfl, Nat.le_refl _, .inl ⟨rfl, rfl⟩⟩
theorem Buf.of_own (h : w.ownsRow base e 1 (.slice A n c) n xs) : Buf w base e A n c xs := by
  obtain ⟨h1, h2⟩ := h
  rcases h2 with ⟨hv, rfl⟩ | ⟨g, cap, cur, hv, hb, hg, hn, _, hs, ht⟩
  · cases hv
    exact ⟨by simpa using h1, Nat.le_refl _, .inl ⟨rfl, rfl⟩⟩
  · cases hv
    exact ⟨by simpa using h1, hn, .inr ⟨g, cur, rfl, hb, hg, by omega, by simpa using ht⟩⟩
theorem Buf.cells (h : Buf w base e A n c xs) : Cells w A xs := by
  obtain ⟨h1, h2, h3⟩ := h
  rcases h3 with ⟨rfl, rfl⟩ | ⟨g, cur, rfl, hb, hg, hs, ht⟩
  · exact .inl (List.eq_nil_of_length_eq_zero (by omega))
  · refine .inr ⟨g, 0, rfl, fun i v hv => ?_⟩
    rw [Nat.zero_add, cell_of_row w g i cur e (0, 0) hg]
    rw [← ht, List.getElem?_take] at hv
    split at hv
    · simpa using hv
    · cases hv
theorem Buf.keep (h : Buf w base e A n c xs) (hk : ∀ g, A = some ⟨g, 0, none⟩ → w1.heap[g]? = w.heap[g]?) : Buf w1 base e A n c xs := by
  obtain ⟨h1, h2, h3⟩ := h
  refine ⟨h1, h2, ?_⟩
  rcases h3 with h3 | ⟨g, cur, hA, hb, hg, r⟩
  · exact .inl h3
  · exact .inr ⟨g, cur, hA, hb, hg.keep (hk g hA), r⟩
theorem Buf.lt (h : Buf w base e A n c xs) : ∀ a, A = some a → a.block < w.heap.size := by
  rintro a rfl
  obtain ⟨_, _, h3⟩ := h
  rcases h3 with ⟨h3, _⟩ | ⟨g, cur, hA, hb, hg, r⟩
  · cases h3
  · cases hA
    exact hg.lt
theorem Buf.base_le (h : Buf w base e A n c xs) : ∀ a, A = some a → base ≤ a.block := by
  rintro a rfl
  obtain ⟨_, _, h3⟩ := h
  rcases h3 with ⟨h3, _⟩ | ⟨g, cur, hA, hb, hg, r⟩
  · cases h3
  · cases hA
    exact hb
theorem Buf.chg {S : Nat → Prop} (h : Buf w base e A n c xs) (hc : Chg S w w1) (hn : ∀ a, A = some a → ¬ S a.block) : Buf w1 base e A n c xs :=
  h.keep fun g hA => hc.block g (h.lt _ hA) (hn _ hA)
theorem Buf.grown {row : Option Nat} (h : Buf w base e A n c xs) (hg : w.grownBy w1 row) (hne : ∀ a, A = some a → row ≠ some a.block) : Buf w1 base e A n c xs :=
  h.keep fun g hA => hg.block g (h.lt _ hA) (fun e => hne _ hA e.symm)
theorem Buf.ext (h : Buf w base e A n c xs) (he : Ext w w1) : Buf w1 base e A n c xs := h.keep fun g hA => Below.block he g (h.lt _ hA)
theorem Buf.alloc (h : Buf w base e A n c xs) (o : Obj) : Buf (w.alloc o) base e A n c xs := h.ext ((Ext.refl w).alloc o)
theorem Buf.drew (h : Buf w base e A n c xs) : Buf w.drew base e A n c xs := h.keep fun _ _ => rfl
theorem Buf.setCell (h : Buf w base e A n c xs) {p : Addr} (hp : ∀ a, A = some a → a.block ≠ p.block) (u : Value) : Buf (w.setCell p u) base e A n c xs :=
  h.keep fun g hA => Below.heap_setCell w p u g (hp _ hA)
theorem Buf.cut (h : Buf w base e A n c xs) {m k : Nat} (hm : m ≤ n) (hk : m ≤ k) (hkc : k ≤ c) : Buf w base e A m k (xs.take m) := by
  obtain ⟨h1, h2, h3⟩ := h
  refine ⟨by rw [List.length_take]; omega, hk, ?_⟩
  rcases h3 with ⟨hA, h3⟩ | ⟨g, cur, hA, hb, hg, hs, ht⟩
  · exact .inl ⟨hA, by omega⟩
  · refine .inr ⟨g, cur, hA, hb, hg, by omega, ?_⟩
    rw [← ht, List.take_take, Nat.min_eq_left hm]
end
end
section
open Go.RowKit
theorem follows : Tryz.prog.follows .mixedOrders = true := by kernel_rfl
end
section
open Go.RowKit
theorem bytes_take (l : List UInt8) (k : Nat) : (⟨l.toArray⟩ : ByteArray).extract 0 k = ⟨(l.take k).toArray⟩ := by
  have : ((⟨l.toArray⟩ : ByteArray).extract 0 k).data = (l.take k).toArray := by
    simp
  generalize (⟨l.toArray⟩ : ByteArray).extract 0 k = x at this
  cases x
  simp only at this
  rw [this]
set_option maxRecDepth 100000 in
theorem run_strhead (l : List UInt8) (k : Nat) (hk : k ≤ l.length) (W : World) : (Instr.sliceAt 9 (.string ⟨l.toArray⟩) none (some (.int .i64 k)) none).run Tryz.prog W = .ok (.string ⟨(l.take k).toArray⟩) W := by
  rw [run_sliceAt_string W 9 _ _ _ _ Tryz.underlying9]
  have hsz : (⟨l.toArray⟩ : ByteArray).size = l.length := ByteArray.size_mk_toArray l
  simp only [Instr.slice, Sem.run_bind, run_underlying Tryz.underlying9, Result.andThen_ok, Instr.sliceBounds, hsz, Option.isSome_none, Bool.false_eq_true, if_false, Sem.run_pure]
  rw [run_sliceBound W .i64 (k : Int) l.length _ (by omega) (by omega)]
  simp only [Result.andThen_ok, Int.toNat_natCast, bytes_take]
theorem run_strheadz {l : List UInt8} {k : Nat} (hk : k ≤ l.length) {z : Int} (hz : z = (k : Int)) (W : World) : (Instr.sliceAt 9 (.string ⟨l.toArray⟩) none (some (.int .i64 z)) none).run Tryz.prog W = .ok (.string ⟨(l.take k).toArray⟩) W := by
  subst hz
  exact run_strhead l k hk W
end
section
open Go.RowKit
structure Ev.Ok (e : Ev) (w : World) (A : Option Addr) : Prop where
  cells : Cells w A (fcells e.fs)
  many : e.fs.length ≤ 9223372036854775807
  long : ∀ f ∈ e.fs, f.1.length ≤ 9223372036854775807 ∧ f.2.length ≤ 9223372036854775807
theorem Ev.Ok.ext {e : Ev} {w w1 : World} {A : Option Addr} (h : e.Ok w A) (hE : Ext w w1) : e.Ok w1 A := ⟨h.cells.ext hE, h.many, h.long⟩
end
section
open Go.RowKit
theorem wpList_appS {P : Program} {ops : Array Oper} {rest : List Oper} {o : Oper} {a : Act} {Q : Exit → Act → World → Prop} {w0 : World} {us : List Value} {T : TypeId} {t e size bytes m : Nat} (E : Elem P t e size bytes)
    {base : Nat} {v : Value} {n : Nat} {xs : List Value} (hown : w0.ownsRow base e size v n xs) (s x : Operand)
    (ho : o.op = .call { callee := .builtin .append, args := #[s, x], argTypes := #[t, t] }) (hgd : o.guard = none)
    (hs : a.eval s = v) (hx : a.eval x = .slice (some ⟨w0.heap.size, 0, none⟩) m m) (hl : us.length = m * size) (h1 : ∀ u ∈ us, u.oneCell' = true) (hsz : n + m ≤ 4294967296) (hbase : base ≤ w0.heap.size)
    (h : ∀ A1 c1 w', w'.ownsRow base e size (.slice A1 (n + m) c1) (n + m) (xs ++ us) → w0.grownBy w' v.ownBlock → ((Value.slice A1 (n + m) c1).ownBlock = v.ownBlock ∨ (Value.slice A1 (n + m) c1).ownBlock = some (w0.heap.size + 1)) →
      wpList P ops Q rest (a.put o.dst (.slice A1 (n + m) c1)) w') :
    wpList P ops Q (o :: rest) a (w0.alloc (.cells us.toArray T)) := by
  refine wpList_app E (((Ext.refl w0).alloc _).owns hown) (A := some ⟨w0.heap.size, 0, none⟩) (news := us) (.inr ⟨w0.heap.size, 0, rfl, fun i u hu => ?_⟩) s x ho hgd hs hx rfl hl h1 hsz (by simp; omega) fun A1 c1 w' h2 h3 h4 => ?_
  · rw [Nat.zero_add, cell_of_row _ _ _ _ _ _ (heap_alloc_new w0 _)]
    simpa using hu
  · refine h A1 c1 w' h2 ⟨h3.os, h3.tape, h3.output, Nat.le_trans (by simp) h3.size, fun k hk hne => (h3.block k (by simp; omega) hne).trans (Below.heap_alloc w0 _ k hk)⟩ ?_
    simpa using h4
end
section
open Go.RowKit
def I64ok' (z : Int) : Prop := -9223372036854775808 ≤ z ∧ z ≤ 9223372036854775807
theorem wpList_appZ {P : Program} {ops : Array Oper} {rest : List Oper} {o : Oper} {a : Act} {Q : Exit → Act → World → Prop} {w0 : World} {us : List Value} {T : TypeId} {t e size bytes m k : Nat} (E : Elem P t e size bytes)
    {base : Nat} {v : Value} {n : Nat} {xs : List Value} (hown : w0.ownsRow base e size v n xs) (hk : k = w0.heap.size) (s x : Operand)
    (ho : o.op = .call { callee := .builtin .append, args := #[s, x], argTypes := #[t, t] }) (hgd : o.guard = none)
    (hs : a.eval s = v) (hx : a.eval x = .slice (some ⟨k, 0, none⟩) m m) (hl : us.length = m * size) (h1 : ∀ u ∈ us, u.oneCell' = true) (hsz : n + m ≤ 4294967296) (hbase : base ≤ w0.heap.size)
    (h : ∀ A1 c1 w', w'.ownsRow base e size (.slice A1 (n + m) c1) (n + m) (xs ++ us) → w0.grownBy w' v.ownBlock → ((Value.slice A1 (n + m) c1).ownBlock = v.ownBlock ∨ (Value.slice A1 (n + m) c1).ownBlock = some (w0.heap.size + 1)) →
      wpList P ops Q rest (a.put o.dst (.slice A1 (n + m) c1)) w') :
    wpList P ops Q (o :: rest) a (w0.alloc (.cells us.toArray T)) := by
  subst hk
  exact wpList_appS E hown s x ho hgd hs hx hl h1 hsz hbase h
set_option maxRecDepth 100000 in
theorem elemFd : Elem Tryz.prog 77 81 2 32 := ⟨Tryz.underlying77, ⟨_, _, rfl, rfl, rfl, rfl, rfl⟩, by omega, by omega⟩
structure EvC where
  e : Ev
  A : Option Addr
  c : Nat
def EvC.val (x : EvC) : Value := x.e.val x.A x.c
def EvC.cells (x : EvC) : List Value := [.int .i64 x.e.at_, .slice x.A x.e.fs.length x.c]
def ecells (l : List EvC) : List Value := l.flatMap EvC.cells
theorem ecells_len : ∀ l : List EvC, (ecells l).length = l.length * 2
  | [] => rfl
  | x :: l => by
    have := ecells_len l
    unfold ecells at this ⊢
    rw [List.flatMap_cons, List.length_append, this, List.length_cons]
    simp [EvC.cells]
    omega
theorem ecells_get : ∀ (l : List EvC) (i : Nat) (x : EvC) (k : Nat), l[i]? = some x → k < 2 → (ecells l)[i * 2 + k]? = x.cells[k]?
  | [], i, x, k, h, _ => by simp at h
  | y :: l, 0, x, k, h, hk => by
    obtain rfl : y = x := by simpa using h
    unfold ecells
    rw [List.flatMap_cons, List.getElem?_append_left (by simp [EvC.cells]; omega), Nat.zero_mul, Nat.zero_add]
  | y :: l, i + 1, x, k, h, hk => by
    have h' : l[i]? = some x := by simpa using h
    have ih := ecells_get l i x k h' hk
    unfold ecells at ih ⊢
    rw [List.flatMap_cons, List.getElem?_append_right (by simp [EvC.cells]; omega)]
    have : (i + 1) * 2 + k - (EvC.cells y).length = i * 2 + k := by
      have : (EvC.cells y).length = 2 := rfl
      omega
    rw [this]
    exact ih
theorem ecells_at {w : World} {A : Option Addr} {l : List EvC} (h : Cells w A (ecells l)) {i : Nat} {x : EvC} (hx : l[i]? = some x) : ∃ g o, A = some ⟨g, o, none⟩ ∧ w.cell? ⟨g, o + i * 2, none⟩ = some (.int .i64 x.e.at_) ∧ w.cell? ⟨g, o + i * 2 + 1, none⟩ = some (.slice x.A x.e.fs.length x.c) := by
  have hi := (List.getElem?_eq_some_iff.1 hx).1
  obtain ⟨g, o, hA, hc⟩ := h.at_ (by rw [ecells_len]; omega)
  refine ⟨g, o, hA, ?_, ?_⟩
  · exact hc (i * 2 + 0) _ (by rw [ecells_get l i x 0 hx (by omega)]; rfl)
  · rw [Nat.add_assoc]
    exact hc (i * 2 + 1) _ (by rw [ecells_get l i x 1 hx (by omega)]; rfl)
structure EvsOk (w : World) (A : Option Addr) (l : List EvC) : Prop where
  cells : Cells w A (ecells l)
  each : ∀ x ∈ l, x.e.Ok w x.A
theorem EvsOk.ext {w w1 : World} {A : Option Addr} {l : List EvC} (h : EvsOk w A l) (hE : Ext w w1) : EvsOk w1 A l := ⟨h.cells.ext hE, fun x hx => (h.each x hx).ext hE⟩
theorem EvsOk.nil (w : World) (A : Option Addr) : EvsOk w A [] := ⟨.inl rfl, nofun⟩
set_option maxRecDepth 100000 in
theorem elemEv : Elem Tryz.prog 22 79 2 32 := ⟨Tryz.underlying22, ⟨_, _, rfl, rfl, rfl, rfl, rfl⟩, by omega, by omega⟩
end
section
open Go.RowKit
set_option maxRecDepth 100000 in
set_option maxHeartbeats 4000000 in
theorem events23_any (l : List EvC) (A : Option Addr) (n c : Nat) (w : World) (hn : n = l.length) (h : EvsOk w A l) (hl : n ≤ 9223372036854775807) : Calls Tryz.prog 7 #[.slice A n c] w fun e w' => ∃ A' n' c', e = .returned (.slice A' n' c') ∧ Ext w w' := by
  replace hn := hide hn
  go_enter Tryz.func7, Tryz.ntmps7
  go_wp2_with fail
  go_loopw [3, 4] (fun s3 s4 wr => ∃ (i : Nat) (ys : List Value) (A2 : Option Addr) (c2 : Nat), s4 = .int .i64 (i : Int) ∧ s3 = .slice A2 i c2 ∧ i ≤ n ∧ i ≤ 10 ∧ Hid (wr.ownsRow w.heap.size 79 2 (.slice A2 i c2) i ys) ∧ Hid (Ext w wr)) (fun _ s4 _ => n - (intOf s4).toNat)
  case atStart => exact ⟨0, [], none, 0, rfl, rfl, by omega, by omega, hide ⟨rfl, .inl ⟨rfl, rfl⟩⟩, hide (Ext.refl w)⟩
  case round =>
    obtain ⟨i, ys, A2, c2, rfl, rfl, hi, hi10, hown, hE⟩ := hrel
    by_cases hgo : i < n ∧ i < 10
    · obtain ⟨hin, hin10⟩ := hgo
      obtain ⟨x, hx⟩ : ∃ x, l[i]? = some x := ⟨_, List.getElem?_eq_getElem (by rw [← hn.out]; exact hin)⟩
      have hxo := (h.each x (List.mem_of_getElem? hx)).ext hE.out
      obtain ⟨g, o, hA, k0, k1⟩ := ecells_at (h.cells.ext hE.out) hx
      obtain ⟨⟨at_, fs⟩, B, cb⟩ := x
      simp only at k0 k1 hxo
      obtain ⟨hfc, hfm, hfl⟩ := hxo
      simp only at hfc hfm hfl
      subst hA
      obtain ⟨m, hm⟩ : ∃ m, m = fs.length := ⟨_, rfl⟩
      rw [← hm] at k1 hfm
      replace hm := hide hm
      replace hfl := hide hfl
      replace hfc := hide hfc
      have hi0 : (0 : Int) ≤ i := by omega
      have hi1 : (i : Int) < n := by omega
      have hi2 : (i : Int) < 10 := by omega
      clear hx
      go_wp2_with fail
      obtain ⟨W1, hW1⟩ : ∃ W1, W1 = wr.alloc (.cells #[.int .i64 at_, .slice none 0 0] 79) := ⟨_, rfl⟩
      have hEv : Row W1 wr.heap.size 79 #[.int .i64 at_, .slice none 0 0] := by rw [hW1]; exact Row.new wr _ _
      have hE1 : Ext wr W1 := by rw [hW1]; exact (Ext.refl wr).alloc _
      rw [← hW1]
      clear hW1
      obtain ⟨b, hb⟩ : ∃ b, b = wr.heap.size := ⟨_, rfl⟩
      rw [← hb] at hEv
      rw [← hb]
      have hble : wr.heap.size ≤ b := Nat.le_of_eq hb.symm
      replace hb := hide hb
      obtain ⟨wo, rfl⟩ : ∃ wo, wo = wr := ⟨_, rfl⟩
      go_loopw [6] (fun s6 wi => ∃ (j : Nat) (A3 : Option Addr) (c3 : Nat) (zs : List Value), s6 = .int .i64 (j : Int) ∧ j ≤ m ∧ j ≤ 5 ∧ Hid (Row wi b 79 #[.int .i64 at_, .slice A3 j c3]) ∧ Hid (wi.ownsRow (b + 1) 81 2 (.slice A3 j c3) j zs) ∧ Hid (Ext wo wi)) (fun s6 _ => m - (intOf s6).toNat)
      case atStart => exact ⟨0, none, 0, [], rfl, by omega, by omega, hide hEv, hide ⟨rfl, .inl ⟨rfl, rfl⟩⟩, hide hE1⟩
      case round =>
        obtain ⟨j, A3, c3, zs, rfl, hj, hj5, hevw, hownj, hEi⟩ := hrel
        have q1 : wr.cell? ⟨g, o + i * 2 + 1, none⟩ = some (.slice B m cb) := hEi.out.cell k1
        have q2 : wr.cell? ⟨b, 1, none⟩ = some (.slice A3 j c3) := hevw.out.cell 1 rfl
        by_cases hgo : j < m ∧ j < 5
        · obtain ⟨hjm, hj5'⟩ := hgo
          obtain ⟨f, hf⟩ : ∃ f, fs[j]? = some f := ⟨_, List.getElem?_eq_getElem (by rw [← hm.out]; exact hjm)⟩
          obtain ⟨g2, o2, hB, y0, y1⟩ := fcells_at (hfc.out.ext hEi.out) hf
          have hfll := hfl.out f (List.mem_of_getElem? hf)
          subst hB
          obtain ⟨nm, tx⟩ := f
          unfold strV at y0 y1
          simp only at y0 y1 hfll
          obtain ⟨hf1, hf2⟩ := hfll
          obtain ⟨k, hk⟩ : ∃ k, k = min tx.length 200 := ⟨_, rfl⟩
          have hmin := run_min2 (P := Tryz.prog) #[3, 3] 3 (x := (tx.length : Int)) (y := 200) (m := (k : Int)) (by omega)
          have hhd := fun W => run_strheadz (l := tx) (k := k) (by omega) (z := (k : Int)) rfl W
          obtain ⟨tx2, htx2⟩ : ∃ tx2, tx2 = tx.take k := ⟨_, rfl⟩
          rw [← htx2] at hhd
          have hj0 : (0 : Int) ≤ j := by omega
          have hj1 : (j : Int) < m := by omega
          have hj2 : (j : Int) < 5 := by omega
          replace htx2 := hide htx2
          clear hk hf
          have hevF := hevw.out.alloc (.cells #[.string ⟨nm.toArray⟩, .string ⟨tx2.toArray⟩] 81)
          have hF := Row.new wr 81 #[.string ⟨nm.toArray⟩, .string ⟨tx2.toArray⟩]
          have e0 := hF.cell 0 rfl
          have e1 := hF.cell 1 rfl
          have q3 := hevF.cell 1 rfl
          have hsz5 : b + 1 ≤ (wr.alloc (.cells #[.string ⟨nm.toArray⟩, .string ⟨tx2.toArray⟩] 81)).heap.size := hevF.lt
          have hown5 : (wr.alloc (.cells #[.string ⟨nm.toArray⟩, .string ⟨tx2.toArray⟩] 81)).ownsRow (b + 1) 81 2 (.slice A3 j c3) j zs := ((Ext.refl wr).alloc _).owns hownj.out
          have hne2 : ∀ k, (Value.slice A3 j c3).ownBlock = some k → b + 1 ≤ k := fun k hk => by obtain ⟨_, _, hb⟩ := owns_row hownj.out hk; exact hb
          go_wp2_with (at_builtin; refine wpList_appZ (us := [.string ⟨nm.toArray⟩, .string ⟨tx2.toArray⟩]) (m := 1) elemFd hown5 (by simp) (.tmp 54) (.tmp 56) rfl rfl rfl rfl rfl (one_of rfl) (by omega) hsz5 (fun A6 c6 w6 ho6 hg6 hl6 => ?_); have hev6 := Row.grown hevF hg6 (fun e => by have := hne2 _ e.symm; omega); have q4 : w6.cell? ⟨b, 1, none⟩ = some (.slice A3 j c3) := hev6.cell 1 rfl; have qf := hev6.free 1; have hev6h := hide hev6; have hg6h := hide hg6; have ho6h := hide ho6; clear hg6 ho6 hev6 hl6)
          have hE6 : Ext wo w6 := (hEi.out.alloc (.cells #[.string ⟨nm.toArray⟩, .string ⟨tx2.toArray⟩] 81)).grown hg6h.out fun k hk => by have := hne2 k hk; omega
          have hne6 : (Value.slice A6 (j + 1) c6).ownBlock ≠ some b := fun e => by
            obtain ⟨_, _, hb⟩ := owns_row ho6h.out e
            omega
          refine ⟨⟨j + 1, A6, c6, _, by go_num, by omega, by omega, hide (hev6h.out.put 1 _), hide (owns_set ho6h.out hne6 _), hide (hE6.setCell (by simp only; omega) _)⟩, ?_⟩
          simp [intOf]; omega
        · have q0 : wr.cell? ⟨b, 0, none⟩ = some (.int .i64 at_) := hevw.out.cell 0 rfl
          have hownw := hEi.out.owns hown.out
          have hszw : w.heap.size ≤ wr.heap.size := (hE.out.trans hEi.out).size
          by_cases hjm : j < m
          all_goals
            go_wp2_with (at_builtin; refine wpList_appS (us := [.int .i64 at_, .slice A3 j c3]) (m := 1) elemEv hownw (.tmp 59) (.tmp 61) rfl rfl rfl rfl rfl (one_of rfl) (by omega) hszw (fun A7 c7 w7 ho7 hg7 hl7 => ?_))
            have hEn : Ext w w7 := (hE.out.trans hEi.out).grown hg7 fun k hk => by obtain ⟨_, _, hb⟩ := owns_row hownw hk; exact hb
            refine ⟨⟨i + 1, _, A7, c7, by go_num, rfl, by omega, by omega, hide ho7, hide hEn⟩, ?_⟩
            simp [intOf]; omega
    · by_cases hin : i < n
      · have h10 : ¬ (i : Int) < 10 := by omega
        go_wp2_with fail
        go_ret
        first | exact ⟨_, _, _, rfl, hE.out⟩ | exact ⟨⟨_, _, _, rfl⟩, hE.out⟩
      · obtain rfl : i = n := by omega
        go_wp2_with fail
        go_ret
        first | exact ⟨_, _, _, rfl, hE.out⟩ | exact ⟨⟨_, _, _, rfl⟩, hE.out⟩
end
end
end Go.Proofs.YtlfinaeklaimjaaGreatDoor
