/- A region that draws its order comes to what it comes to in one fixed order, where operations that Go leaves unordered commute. -/
import Derived.Orders
import Derived.Tactics
import Derived.KernelRfl
import Derived.Laws.Entries
import Derived.Laws.Sem
set_option linter.unusedSimpArgs false
set_option linter.unusedVariables false
namespace Go.Proofs.YtpfmjagbjdkdcaaGreatDoor

/-! ## Runs that ask nothing of the world -/
def PureS {α : Type} (P : Program) (s : Sem α) : Prop :=
  ∀ w x w', s.run P w = .ok x w' → w' = w ∧ ∀ w2, s.run P w2 = .ok x w2
def ReadS {α : Type} (P : Program) (s : Sem α) : Prop :=
  ∀ w x w', s.run P w = .ok x w' → w' = w ∧ ∀ w2 : World, (∀ k, k < w.heap.size → w2.heap[k]? = w.heap[k]?) → s.run P w2 = .ok x w2
def NewS {α : Type} (P : Program) (s : Sem α) : Prop :=
  ∀ w x w', s.run P w = .ok x w' → ∀ k, k < w.heap.size → w'.heap[k]? = w.heap[k]?

section sem
variable {α β : Type} {P : Program}
theorem PureS.read {s : Sem α} (h : PureS P s) : ReadS P s := fun w x w' e => ⟨(h w x w' e).1, fun w2 _ => (h w x w' e).2 w2⟩
theorem PureS.ret (a : α) : PureS P (Pure.pure a : Sem α) := fun w x w' e => by
  simp only [Sem.run_pure, Result.ok.injEq] at e
  obtain ⟨rfl, rfl⟩ := e
  exact ⟨rfl, fun _ => rfl⟩
theorem PureS.halt (h : Halt) : PureS P (Sem.halt h : Sem α) := fun w x w' e => by simp [Sem.run] at e
theorem PureS.stuck (s : String) : PureS P (stuck s : Sem α) := PureS.halt _
theorem PureS.unsupported (s : Unsupported) : PureS P (unsupported s : Sem α) := PureS.halt _
theorem PureS.bind {s : Sem α} {f : α → Sem β} (h : PureS P s) (hf : ∀ a, PureS P (f a)) : PureS P (s >>= f) := fun w x w' e => by
  simp only [Sem.run_bind] at e
  cases hs : s.run P w with
  | halt q w1 => rw [hs] at e; simp [Result.andThen] at e
  | ok a w1 =>
    rw [hs] at e
    obtain ⟨rfl, h2⟩ := h _ _ _ hs
    obtain ⟨rfl, h3⟩ := hf a _ _ _ e
    refine ⟨rfl, fun w2 => ?_⟩
    simp only [Sem.run_bind, h2 w2]
    exact h3 w2
theorem ReadS.bind {s : Sem α} {f : α → Sem β} (h : ReadS P s) (hf : ∀ a, ReadS P (f a)) : ReadS P (s >>= f) := fun w x w' e => by
  simp only [Sem.run_bind] at e
  cases hs : s.run P w with
  | halt q w1 => rw [hs] at e; simp [Result.andThen] at e
  | ok a w1 =>
    rw [hs] at e
    obtain ⟨rfl, h2⟩ := h _ _ _ hs
    obtain ⟨rfl, h3⟩ := hf a _ _ _ e
    refine ⟨rfl, fun w2 hw => ?_⟩
    simp only [Sem.run_bind, h2 w2 hw]
    exact h3 w2 hw
theorem NewS.of_read {s : Sem α} (h : ReadS P s) : NewS P s := fun w x w' e k _ => by rw [(h w x w' e).1]
theorem NewS.bind {s : Sem α} {f : α → Sem β} (h : NewS P s) (hz : ∀ w x w', s.run P w = .ok x w' → w.heap.size ≤ w'.heap.size) (hf : ∀ a, NewS P (f a)) : NewS P (s >>= f) := fun w x w' e k hk => by
  simp only [Sem.run_bind] at e
  cases hs : s.run P w with
  | halt q w1 => rw [hs] at e; simp [Result.andThen] at e
  | ok a w1 =>
    rw [hs] at e
    have h1 := h _ _ _ hs k hk
    have h2 := hf a _ _ _ e k (Nat.lt_of_lt_of_le hk (hz _ _ _ hs))
    exact h2.trans h1
theorem PureS.program : PureS P Go.program := fun w x w' e => by
  simp only [Go.program, Sem.run, Result.ok.injEq] at e
  obtain ⟨rfl, rfl⟩ := e
  exact ⟨rfl, fun _ => rfl⟩
theorem PureS.typeInfo (t : TypeId) : PureS P (typeInfo t) := by
  unfold Go.typeInfo
  refine .bind .program fun p => ?_
  split
  · exact .ret _
  · exact .stuck _
theorem PureS.underlying (t : TypeId) : PureS P (underlying t) := by
  unfold Go.underlying
  refine .bind .program fun p => ?_
  split
  · exact .ret _
  · exact .stuck _
theorem PureS.sizeOf (t : TypeId) : PureS P (Go.sizeOf t) := .bind (.typeInfo _) fun _ => .ret _
theorem PureS.isAgg (t : TypeId) : PureS P (Go.isAgg t) := by
  unfold Go.isAgg
  refine .bind (.underlying _) fun d => ?_
  split <;> exact .ret _
theorem PureS.zeroValue (t : TypeId) : PureS P (Go.zeroValue t) := by
  unfold Go.zeroValue
  refine .bind (.typeInfo _) fun d => ?_
  split
  · exact .ret _
  · exact .unsupported _
theorem PureS.part (t : TypeId) (cs : Array Value) (off : Nat) : PureS P (Go.part t cs off) := by
  unfold Go.part
  refine .bind (.isAgg _) fun d => ?_
  split
  · exact .bind (.sizeOf _) fun _ => .ret _
  · split
    · exact .ret _
    · exact .stuck _
/-- what never ends well -/
def Dies (P : Program) (s : Sem α) : Prop := ∀ w x w', s.run P w ≠ .ok x w'
theorem Dies.pure {s : Sem α} (h : Dies P s) : PureS P s := fun w x w' e => absurd e (h w x w')
theorem Dies.bind {s : Sem α} {f : α → Sem β} (hf : ∀ a, Dies P (f a)) : Dies P (s >>= f) := fun w x w' e => by
  simp only [Sem.run_bind] at e
  cases hs : s.run P w with
  | halt q w1 => rw [hs] at e; simp [Result.andThen] at e
  | ok a w1 => rw [hs] at e; exact hf a _ _ _ e
theorem Dies.goPanic (v : Value) : Dies P (goPanic v : Sem α) := fun w x w' e => by simp [Go.goPanic] at e
theorem Dies.runtimePanic (r : RuntimeError) : Dies P (runtimePanic r : Sem α) := by
  unfold Go.runtimePanic
  refine .bind fun p => ?_
  cases r with
  | typeAssertion i c a m => exact .bind fun _ => .bind fun _ => .goPanic _
  | panicNil => exact .bind fun _ => .bind fun _ => .goPanic _
  | _ => exact .goPanic _
theorem Dies.boundsPanic (k : IntKind) (x y : Int) (c : BoundsCode) : Dies P (boundsPanic k x y c : Sem α) := by
  unfold Go.boundsPanic
  split
  · exact .bind fun _ => .runtimePanic _
  · exact .bind fun _ => .runtimePanic _
theorem PureS.asIntOf (v : Value) : PureS P (Go.asIntOf v) := by
  unfold Go.asIntOf
  split
  · exact .ret _
  · exact .unsupported _
  · exact .stuck _
theorem PureS.asBool (v : Value) : PureS P (Go.asBool v) := by
  unfold Go.asBool
  split
  · exact .ret _
  · exact .stuck _
theorem PureS.asAgg (v : Value) : PureS P (Go.asAgg v) := by
  unfold Go.asAgg
  split
  · exact .ret _
  · exact .stuck _
theorem PureS.asAddr (v : Value) : PureS P (Go.asAddr v) := by
  unfold Go.asAddr
  split
  · exact .ret _
  · exact (Dies.runtimePanic _).pure
  · exact .stuck _
theorem PureS.sureAddr (v : Value) : PureS P (Instr.sureAddr v) := by
  unfold Instr.sureAddr
  split
  · exact .ret _
  · exact .stuck _
theorem PureS.sliceBound (x : Value) (y : Nat) (c : BoundsCode) : PureS P (Instr.sliceBound x y c) := by
  unfold Instr.sliceBound
  refine .bind (.asIntOf _) fun d => ?_
  obtain ⟨k, i⟩ := d
  dsimp only
  split
  · exact .ret _
  · exact (Dies.boundsPanic _ _ _ _).pure
theorem PureS.sliceBounds (b : Bool) (n c : Nat) (l h m : Option Value) : PureS P (Instr.sliceBounds b n c l h m) := by
  unfold Instr.sliceBounds
  cases l <;> cases h <;> cases m <;> dsimp only <;>
    (repeat' first | exact .ret _ | exact .stuck _ | exact .sliceBound _ _ _ | refine .bind ?_ fun _ => ?_ )
theorem PureS.slice (t : TypeId) (x : Value) (l h m : Option Value) : PureS P (Instr.slice t x l h m) := by
  unfold Instr.slice
  refine .bind (.underlying _) fun d => ?_
  split
  · split
    · exact .bind (.stuck _) fun _ => .bind (.sliceBounds _ _ _ _ _ _) fun _ => .ret _
    · exact .bind (.sliceBounds _ _ _ _ _ _) fun _ => .ret _
  · exact .bind (.sliceBounds _ _ _ _ _ _) fun _ => .bind (.sizeOf _) fun _ => .ret _
  · refine .bind (.asAddr _) fun _ => .bind (.underlying _) fun e => ?_
    split
    · exact .bind (.sliceBounds _ _ _ _ _ _) fun _ => .bind (.sizeOf _) fun _ => .ret _
    · exact .stuck _
  · exact .stuck _
end sem

section ops
variable {P : Program}
def clsCall (P : Program) (c : Call) : Nat :=
  match c.callee with
  | .builtin .len => match c.argTypes[0]? with
    | some t => match P.underlying t with
      | some .string => 0
      | some (.slice _) => 0
      | _ => 3
    | none => 3
  | .builtin .min => 0
  | .builtin .max => 0
  | _ => 3
/-- How an operation touches the world: 0 not at all, 1 it reads, 2 it lays new blocks, 3 whatever else. -/
def cls (P : Program) : Op → Nat
  | .move _ | .assign _ | .pick .. | .nilCheck _ | .field .. | .extract .. | .indexAddr .. | .index .. | .slice .. | .unOp .. | .makeInterface .. | .binOp .. | .build .. => 0
  | .fieldAddr s _ f => match P.underlying s with
    | some (.struct fs) => match fs[f]? with
      | some fd => match P.info? fd.type with
        | some i => if i.size = 0 then 3 else 0
        | none => 3
      | none => 3
    | _ => 3
  | .convert s d _ => match P.underlying s, P.underlying d with
    | some (.int _), some (.int _) => 0
    | _, _ => 3
  | .load .. => 1
  | .alloc _ | .box .. | .buildSlice .. => 2
  | .call c => clsCall P c
  | _ => 3
def twoInts : Value → Value → Bool
  | .int _ _, .int _ _ => true
  | _, _ => false
/-- What must be seen of the operands' values for that. -/
def chkV (ρ : Operand → Value) : Op → Bool
  | .binOp op _ x y _ => match ρ x, ρ y with
    | .int _ _, .int _ _ => true
    | .string _, .string _ => true
    | .bool _, .bool _ => (match op with | .eql | .neq => true | _ => false)
    | _, _ => false
  | .nilCheck x => match ρ x with
    | .pointer (some _) => true
    | _ => false
  | .convert _ _ x => match ρ x with
    | .int _ _ => true
    | .slice _ _ _ => true
    | .string _ => true
    | _ => false
  | .call c => match c.callee, c.args.toList with
    | .builtin .min, [x, y] => twoInts (ρ x) (ρ y)
    | .builtin .max, [x, y] => twoInts (ρ x) (ρ y)
    | .builtin .min, _ => false
    | .builtin .max, _ => false
    | _, _ => true
  | _ => true

theorem PureS.mapList {α β : Type} {f : α → Sem β} (hf : ∀ x, PureS P (f x)) : ∀ l : List α, PureS P (l.mapM f)
  | [] => by rw [List.mapM_nil]; exact .ret _
  | x :: l => by rw [List.mapM_cons]; exact .bind (hf x) fun _ => .bind (PureS.mapList hf l) fun _ => .ret _
theorem PureS.mapArr {α β : Type} {f : α → Sem β} (hf : ∀ x, PureS P (f x)) (a : Array α) : PureS P (a.mapM f) := by
  rw [Array.mapM_eq_mapM_toList, map_eq_pure_bind]
  exact .bind (.mapList hf _) fun _ => .ret _
theorem PureS.build (t : TypeId) (ps : Array (Nat × Value)) : PureS P (Instr.build t ps) := by
  unfold Instr.build
  refine .bind (.zeroValue _) fun z => ?_
  refine .bind (.underlying _) fun d => ?_
  split
  · refine .bind (.mapArr (fun f => .bind (.sizeOf _) fun _ => .ret _) _) fun _ => ?_
    split
    · exact .ret _
    · exact .stuck _
  · refine .bind (.sizeOf _) fun _ => ?_
    split
    · exact .ret _
    · exact .stuck _
  · exact .stuck _
theorem PureS.value {s : Sem Value} (h : PureS P s) : PureS P (do pure (Next.value (← s))) := .bind h fun _ => .ret _
theorem PureS.binOp {op : BinOp} {t : TypeId} {ρ : Operand → Value} {x y : Operand} {t' : TypeId} (h : chkV ρ (.binOp op t x y t') = true) :
    PureS P (do eqGuard op t x y (ρ x) (ρ y); binOp op t (ρ x) (ρ y)) := by
  simp only [chkV] at h
  split at h
  · rename_i hx hy
    rw [hx, hy]
    refine .bind ?_ fun _ => ?_
    · unfold eqGuard
      cases op <;> exact .ret _
    · unfold Go.binOp
      cases op <;> dsimp only <;> first
        | (unfold Op.shift; split; exact (Dies.runtimePanic _).pure; exact .ret _)
        | (split; exact .stuck _; first | exact .ret _ | (unfold Op.intDiv; split; exact (Dies.runtimePanic _).pure; exact .ret _))
  · rename_i hx hy
    rw [hx, hy]
    refine .bind ?_ fun _ => ?_
    · unfold eqGuard
      cases op <;> exact .ret _
    · unfold Go.binOp
      cases op <;> dsimp only [Op.stringOp] <;> first
        | exact .ret _
        | exact .stuck _
        | (split; exact .unsupported _; exact .ret _)
  · rename_i hx hy
    rw [hx, hy]
    refine .bind ?_ fun _ => ?_
    · unfold eqGuard
      cases op <;> exact .ret _
    · cases op
      all_goals first
        | exact Bool.noConfusion h
        | (unfold Go.binOp
           dsimp only
           refine .bind ?_ fun _ => .ret _
           unfold Op.equal Op.maxDepth Op.equalIn
           refine .bind (.underlying _) fun d => ?_
           cases d <;> dsimp only <;> first | exact .ret _ | exact .stuck _ | (split <;> first | exact .ret _ | exact .stuck _))
  · cases h
end ops

section exec
variable {P : Program}
theorem value_form {s : Sem Value} {w : World} {x : Next} {w' : World} (e : (do pure (Next.value (← s)) : Sem Next).run P w = .ok x w') : ∃ v, x = .value v ∧ s.run P w = .ok v w' := by
  simp only [Sem.run_bind] at e
  cases hs : s.run P w with
  | halt q w1 => rw [hs] at e; simp [Result.andThen] at e
  | ok a w1 =>
    rw [hs] at e
    simp only [Result.andThen, Sem.run_pure, Result.ok.injEq] at e
    exact ⟨a, e.1.symm, by rw [e.2]⟩
theorem PureS.sized {t : TypeId} {i : TypeInfo} (hi : P.info? t = some i) (w : World) : (Go.sizeOf t).run P w = .ok i.size w := by
  have h : (Go.typeInfo t).run P w = .ok i w := by
    simp only [Go.typeInfo, Go.program, Sem.run_bind, Sem.run, Result.andThen_ok, hi]
    rfl
  simp only [Go.sizeOf, Sem.run_bind, h, Result.andThen_ok, Sem.run_pure]
theorem pure_or (ρ : Operand → Value) (o : Oper) (hc : cls P o.op = 0) (hk : chkV ρ o.op = true) : ∃ s : Sem Value, PureS P s ∧ ((execOp ρ o) = (do pure (Next.value (← s)) : Sem Next) ∨ ∀ w, (execOp ρ o).run P w = (do pure (Next.value (← s)) : Sem Next).run P w) := by
  obtain ⟨dst, op, type, pos, after, guard⟩ := o
  cases op <;> simp only [cls] at hc <;> dsimp only at hk
  case move x => exact ⟨pure (ρ x), .ret _, .inl rfl⟩
  case assign x => exact ⟨pure (ρ x), .ret _, .inl rfl⟩
  case pick c a b => exact ⟨do pure (if ← asBool (ρ c) then ρ a else ρ b), .bind (.asBool _) fun _ => .ret _, .inr fun w => by
    simp only [execOp, Sem.run_bind, Sem.run_pure]
    cases (asBool (ρ c)).run P w <;> simp [Result.andThen]⟩
  case nilCheck x =>
    simp only [chkV] at hk
    split at hk
    · rename_i a hx
      exact ⟨pure (.pointer (some a)), .ret _, .inr fun w => by simp [execOp, hx]⟩
    · cases hk
  case binOp bop t x y t' => exact ⟨_, PureS.binOp hk, .inl rfl⟩
  case unOp u t x =>
    refine ⟨Op.unary u (ρ x), ?_, .inl rfl⟩
    unfold Op.unary
    split <;> first | exact .ret _ | exact .stuck _ | exact .unsupported _ 
  case convert s d x =>
    refine ⟨Go.convert s d (ρ x), ?_, .inl rfl⟩
    split at hc
    · rename_i k1 k2 hs hd
      simp only [chkV] at hk
      split at hk
      · rename_i kk n hx
        rw [hx]
        intro w y w' e
        simp only [Go.convert, Sem.run_bind, run_underlying hs, run_underlying hd, Result.andThen_ok, Conv.intToInt, Sem.run_pure, Result.ok.injEq] at e
        obtain ⟨rfl, rfl⟩ := e
        exact ⟨rfl, fun _ => by simp only [Go.convert, Sem.run_bind, run_underlying hs, run_underlying hd, Result.andThen_ok, Conv.intToInt, Sem.run_pure]⟩
      · rename_i hx
        rw [hx]
        intro w y w' e
        simp only [Go.convert, Sem.run_bind, run_underlying hs, run_underlying hd, Result.andThen_ok] at e
        exact absurd e (by simp [unsupported, Sem.run])
      · rename_i hx
        rw [hx]
        intro w y w' e
        simp only [Go.convert, Sem.run_bind, run_underlying hs, run_underlying hd, Result.andThen_ok] at e
        exact absurd e (by simp [unsupported, Sem.run])
      · cases hk
    · cases hc
  case build t ps => exact ⟨Instr.build t (ps.map fun (i, x) => (i, ρ x)), .build _ _, .inl rfl⟩
  case makeInterface t x =>
    refine ⟨Instr.makeInterface t (ρ x), ?_, .inl rfl⟩
    unfold Instr.makeInterface
    refine .bind (.underlying _) fun d => ?_
    split
    · exact .stuck _
    · exact .ret _
  case slice t x l h m =>
    refine ⟨Instr.sliceAt t (ρ x) (l.map ρ) (h.map ρ) (m.map ρ), ?_, .inl rfl⟩
    unfold Instr.sliceAt
    refine .bind (.underlying _) fun d => ?_
    split
    · exact .bind (.sureAddr _) fun _ => .bind (.sliceBounds _ _ _ _ _ _) fun _ => .bind (.sizeOf _) fun _ => .ret _
    · exact .slice _ _ _ _ _
  case fieldAddr t x f =>
    refine ⟨Instr.fieldAt t (ρ x) f, ?_, .inl rfl⟩
    split at hc
    · rename_i fs hs
      split at hc
      · rename_i fd hf
        split at hc
        · rename_i i hi
          split at hc
          · cases hc
          · rename_i hne
            unfold Instr.fieldAt
            intro w y w' e
            simp only [Sem.run_bind, run_underlying hs, Result.andThen_ok, hf] at e ⊢
            cases ha : (Instr.sureAddr (ρ x)).run P w with
            | halt q w1 => rw [ha] at e; simp [Result.andThen] at e
            | ok a w1 =>
              obtain ⟨rfl, ha2⟩ := PureS.sureAddr (P := P) (ρ x) _ _ _ ha
              rw [ha] at e
              simp only [Result.andThen_ok, fieldPlace, Sem.run_bind, PureS.sized hi, hne, if_false, Sem.run_pure, Result.ok.injEq] at e
              obtain ⟨rfl, rfl⟩ := e
              refine ⟨rfl, fun w2 => ?_⟩
              rw [ha2 w2]
              simp only [Result.andThen_ok, fieldPlace, Sem.run_bind, PureS.sized hi, hne, if_false, Sem.run_pure]
        · cases hc
      · cases hc
    · cases hc
  case field t x f =>
    refine ⟨Instr.field t (ρ x) f, ?_, .inl rfl⟩
    unfold Instr.field
    refine .bind (.underlying _) fun d => ?_
    split
    · split
      · exact .bind (.asAgg _) fun _ => .part _ _ _
      · exact .stuck _
    · exact .stuck _
  case indexAddr t x i =>
    refine ⟨Instr.indexAt t (ρ x) (ρ i), ?_, .inl rfl⟩
    unfold Instr.indexAt
    refine .bind (.asIntOf _) fun d => ?_
    obtain ⟨k, n⟩ := d
    repeat' (first | exact .ret _ | exact .stuck _ | exact .unsupported _ | exact (Dies.boundsPanic _ _ _ _).pure | exact .sureAddr _ | exact .underlying _ | exact .sizeOf _ | split | dsimp only | refine .bind ?_ fun _ => ?_)
  case index t x i =>
    refine ⟨Instr.index t (ρ x) (ρ i), ?_, .inl rfl⟩
    unfold Instr.index
    refine .bind (.asIntOf _) fun d => ?_
    obtain ⟨k, n⟩ := d
    refine .bind (.underlying _) fun d => ?_
    split
    · split
      · exact .bind (.sizeOf _) fun _ => .part _ _ _
      · exact (Dies.boundsPanic _ _ _ _).pure
    · split
      · exact .ret _
      · exact (Dies.boundsPanic _ _ _ _).pure
    · exact .stuck _
  case extract x i =>
    refine ⟨Instr.extract (ρ x) i, ?_, .inl rfl⟩
    unfold Instr.extract
    split
    · split
      · exact .ret _
      · exact .stuck _
    · exact .stuck _
  case call c =>
    obtain ⟨callee, args, argTypes⟩ := c
    simp only [clsCall] at hc
    split at hc
    · rename_i hb
      split at hc
      · rename_i t ht
        refine ⟨Builtin.len_ argTypes type (args.map ρ), ?_, .inr fun w => by simp [execOp, resolve, invoke, builtin]⟩
        have ht' : argTypes[0]? = some t := ht
        unfold Builtin.len_
        rw [ht']
        cases h0 : (args.map ρ)[0]? with
        | none => exact .stuck _
        | some x =>
          dsimp only
          intro w y w' e
          split at hc
          · rename_i hu
            simp only [Sem.run_bind, run_underlying hu, Result.andThen_ok] at e ⊢
            cases x <;> simp only [Sem.run_pure, Result.ok.injEq, Go.stuck, Sem.run, reduceCtorEq] at e
            obtain ⟨rfl, rfl⟩ := e
            exact ⟨rfl, fun _ => by simp only [Sem.run_pure]⟩
          · rename_i hu
            simp only [Sem.run_bind, run_underlying hu, Result.andThen_ok] at e ⊢
            cases x <;> simp only [Sem.run_pure, Result.ok.injEq, Go.stuck, Sem.run, reduceCtorEq] at e
            obtain ⟨rfl, rfl⟩ := e
            exact ⟨rfl, fun _ => by simp only [Sem.run_pure]⟩
          · cases hc
      · cases hc
    · rename_i hb
      refine ⟨Builtin.min_ argTypes type (args.map ρ), ?_, .inr fun w => by simp [execOp, resolve, invoke, builtin]⟩
      unfold chkV at hk
      unfold Builtin.min_
      rw [Array.toList_map]
      rcases hl : args.toList with _ | ⟨x, _ | ⟨y, _ | ⟨z, l⟩⟩⟩ <;> simp only [hl] at hk
      · cases hk
      · cases hk
      · cases hx : ρ x <;> cases hy : ρ y <;> rw [hx, hy] at hk <;> first | cases hk | skip
        simp only [List.map_cons, List.map_nil, hx, hy, List.foldlM]
        refine .bind ?_ fun _ => .ret _
        unfold Builtin.min2
        exact .ret _
      · cases hk
    · rename_i hb
      refine ⟨Builtin.max_ argTypes type (args.map ρ), ?_, .inr fun w => by simp [execOp, resolve, invoke, builtin]⟩
      unfold chkV at hk
      unfold Builtin.max_
      rw [Array.toList_map]
      rcases hl : args.toList with _ | ⟨x, _ | ⟨y, _ | ⟨z, l⟩⟩⟩ <;> simp only [hl] at hk
      · cases hk
      · cases hk
      · cases hx : ρ x <;> cases hy : ρ y <;> rw [hx, hy] at hk <;> first | cases hk | skip
        simp only [List.map_cons, List.map_nil, hx, hy, List.foldlM]
        refine .bind ?_ fun _ => .ret _
        unfold Builtin.max2
        exact .ret _
      · cases hk
    · cases hc
  all_goals (first | cases hc | (split at hc <;> cases hc))
theorem pure_exec {ρ : Operand → Value} {o : Oper} (hc : cls P o.op = 0) (hk : chkV ρ o.op = true) {w w' : World} {x : Next} (e : (execOp ρ o).run P w = .ok x w') :
    ∃ v, x = .value v ∧ w' = w ∧ ∀ w2, (execOp ρ o).run P w2 = .ok (.value v) w2 := by
  obtain ⟨s, hs, h⟩ := pure_or (P := P) ρ o hc hk
  have hr : ∀ w, (execOp ρ o).run P w = (do pure (Next.value (← s)) : Sem Next).run P w := by
    rcases h with h | h
    · intro w; rw [h]
    · exact h
  rw [hr] at e
  obtain ⟨v, rfl, hv⟩ := value_form e
  obtain ⟨rfl, h2⟩ := hs _ _ _ hv
  exact ⟨v, rfl, rfl, fun w2 => by rw [hr]; simp only [Sem.run_bind, h2 w2, Result.andThen_ok, Sem.run_pure]⟩

theorem cell_some {w w2 : World} {a : Addr} {v : Value} (h : w.cell? a = some v) (hw : ∀ k, k < w.heap.size → w2.heap[k]? = w.heap[k]?) : w2.cell? a = some v := by
  have hlt : a.block < w.heap.size := by
    unfold World.cell? at h
    rcases Nat.lt_or_ge a.block w.heap.size with h1 | h1
    · exact h1
    · rw [Array.getElem?_eq_none h1] at h; cases h
  unfold World.cell? at h ⊢
  rw [hw _ hlt]
  exact h
theorem seen_ext {p : Program} {w w2 : World} {at_ k : Addr} {u : TypeId} {b : Bool} {r : Array Value × TypeId × (Nat × Nat) × Nat × Value × List (Nat × Nat × List UInt8)}
    (h : w.seen p at_ u k b = .ok r) (hw : ∀ k, k < w.heap.size → w2.heap[k]? = w.heap[k]?) : w2.seen p at_ u k b = .ok r := by
  rcases Nat.lt_or_ge at_.block w.heap.size with h1 | h1
  · unfold World.seen at h ⊢
    rw [hw _ h1]
    exact h
  · exfalso
    unfold World.seen at h
    rw [Array.getElem?_eq_none h1] at h
    revert h
    dsimp only [Bind.bind, Except.bind, throw, throwThe, MonadExceptOf.throw, Pure.pure, Except.pure]
    repeat' split
    all_goals (intro h; cases h)
theorem farLoad_ext {p : Program} {w w2 : World} {a : Addr} {b : Bool} {r : Value × List Addr} (hc : w.cell? a = none) (h : w.farLoad p a b = .ok r)
    (hw : ∀ k, k < w.heap.size → w2.heap[k]? = w.heap[k]?) : w2.cell? a = none ∧ w2.farLoad p a b = .ok r := by
  rcases Nat.lt_or_ge a.block w.heap.size with h1 | h1
  · refine ⟨by unfold World.cell? at hc ⊢; rw [hw _ h1]; exact hc, ?_⟩
    unfold World.farLoad at h ⊢
    rw [hw _ h1]
    split at h
    · rename_i at_ u hv
      split at h
      · rename_i r' hr
        cases h
        have : w2.viewLoad p at_ u a b = .ok r := by
          unfold World.viewLoad at hr ⊢
          cases hs : w.seen p at_ u a b with
          | error e => rw [hs] at hr; cases hr
          | ok q => rw [hs] at hr; rw [seen_ext hs hw]; exact hr
        simp only [this]
      · cases h
    · cases h
  · exfalso
    unfold World.farLoad at h
    rw [Array.getElem?_eq_none h1] at h
    cases h
theorem ReadS.load (a : Addr) (m : Mode) : ReadS P (Go.load a m) := fun w x w' e => by
  simp only [Go.load, Sem.run] at e ⊢
  cases hc : w.cell? a with
  | some v =>
    simp only [hc, Result.ok.injEq] at e
    obtain ⟨rfl, rfl⟩ := e
    exact ⟨rfl, fun w2 hw => by simp only [cell_some hc hw]⟩
  | none =>
    simp only [hc] at e
    cases hf : w.farLoad P a (m == .atomic) with
    | error q => rw [hf] at e; simp at e
    | ok r =>
      rw [hf] at e
      simp only [Result.ok.injEq] at e
      obtain ⟨rfl, rfl⟩ := e
      refine ⟨rfl, fun w2 hw => ?_⟩
      obtain ⟨h1, h2⟩ := farLoad_ext hc hf hw
      simp only [h1, h2]
theorem ReadS.loadCellsFrom (a : Addr) : ∀ (n i : Nat) (acc : Array Value), ReadS P (Go.loadCellsFrom a i n acc)
  | 0, _, acc => (PureS.ret acc).read
  | n + 1, i, acc => by
    unfold Go.loadCellsFrom
    exact .bind (.load _ _) fun v => ReadS.loadCellsFrom a n (i + 1) _
theorem ReadS.loadVar (t : TypeId) (a : Addr) : ReadS P (Go.loadVar t a) := by
  unfold Go.loadVar
  refine .bind (PureS.isAgg _).read fun b => ?_
  split
  · exact .bind (PureS.sizeOf _).read fun n => .bind (.loadCellsFrom _ _ _ _) fun _ => (PureS.ret _).read
  · exact .load _ _
theorem read_exec {ρ : Operand → Value} {o : Oper} (hc : cls P o.op = 1) {w w' : World} {x : Next} (e : (execOp ρ o).run P w = .ok x w') :
    ∃ v, x = .value v ∧ w' = w ∧ ∀ w2 : World, (∀ k, k < w.heap.size → w2.heap[k]? = w.heap[k]?) → (execOp ρ o).run P w2 = .ok (.value v) w2 := by
  obtain ⟨dst, op, type, pos, after, guard⟩ := o
  cases op <;> simp only [cls] at hc
  case load t a =>
    have hs : ReadS P (Instr.loadAt t (ρ a)) := by
      unfold Instr.loadAt
      exact .bind (PureS.sureAddr _).read fun _ => .loadVar _ _
    have hr : execOp ρ { dst, op := .load t a, type, pos, after, guard } = (do pure (Next.value (← Instr.loadAt t (ρ a))) : Sem Next) := rfl
    rw [hr] at e ⊢
    obtain ⟨v, rfl, hv⟩ := value_form e
    obtain ⟨rfl, h2⟩ := hs _ _ _ hv
    exact ⟨v, rfl, rfl, fun w2 hw => by simp only [Sem.run_bind, h2 w2 hw, Result.andThen_ok, Sem.run_pure]⟩
  case call c =>
    simp only [clsCall] at hc
    split at hc
    · split at hc
      · split at hc <;> cases hc
      · cases hc
    all_goals cases hc
  all_goals (first | cases hc | (repeat' (split at hc)) <;> cases hc)
theorem NewS.newObj (o : Obj) : NewS P (Go.newObj o) := fun w x w' e k hk => by
  simp only [Go.newObj, Sem.run, Result.ok.injEq] at e
  obtain ⟨_, rfl⟩ := e
  show (w.heap.push o)[k]? = _
  rw [Array.getElem?_push, if_neg (by omega)]
theorem newObj_size {o : Obj} {w w' : World} {x : Nat} (e : (Go.newObj o).run P w = .ok x w') : w.heap.size ≤ w'.heap.size := by
  simp only [Go.newObj, Sem.run, Result.ok.injEq] at e
  obtain ⟨_, rfl⟩ := e
  simp
theorem NewS.newVar (t : TypeId) (v : Value) : NewS P (Go.newVar t v) := by
  unfold Go.newVar Go.newRow
  exact .bind (.newObj _) (fun _ _ _ e => newObj_size e) fun _ => .of_read (PureS.ret _).read
theorem newRow_size {t : TypeId} {c : Array Value} {w w' : World} {x : Addr} (e : (Go.newRow t c).run P w = .ok x w') : w.heap.size ≤ w'.heap.size := by
  unfold Go.newRow at e
  simp only [Sem.run_bind] at e
  cases hs : (Go.newObj (.cells c t)).run P w with
  | halt q w1 => rw [hs] at e; simp [Result.andThen] at e
  | ok a w1 =>
    rw [hs] at e
    simp only [Result.andThen, Sem.run_pure, Result.ok.injEq] at e
    obtain ⟨_, rfl⟩ := e
    exact newObj_size hs
theorem PureS.size {α : Type} {s : Sem α} (h : PureS P s) : ∀ w x w', s.run P w = .ok x w' → w.heap.size ≤ w'.heap.size := fun w x w' e => by rw [(h _ _ _ e).1]; exact Nat.le_refl _
theorem NewS.box (t : TypeId) (v : Value) : NewS P (Instr.box t v) := by
  unfold Instr.box
  exact .bind (.newVar _ _) (fun _ _ _ e => newRow_size e) fun _ => .of_read (PureS.ret _).read
theorem NewS.alloc (t : TypeId) : NewS P (Instr.alloc t true (.tuple #[])) := by
  unfold Instr.alloc
  refine .bind (.of_read (PureS.zeroValue _).read) (PureS.zeroValue _).size fun z => ?_
  exact .bind (.newVar _ _) (fun _ _ _ e => newRow_size e) fun _ => .of_read (PureS.ret _).read
theorem NewS.stop {α : Type} (h : Halt) : NewS P (Sem.halt h : Sem α) := .of_read (PureS.halt h).read
theorem NewS.buildSlice (t : TypeId) (n : Nat) (ps : Array (Nat × Value)) : NewS P (Instr.buildSlice t n ps) := by
  unfold Instr.buildSlice
  refine .bind (.of_read (PureS.underlying _).read) (PureS.underlying _).size fun d => ?_
  split
  · rename_i elem
    refine .bind (.of_read (PureS.sizeOf _).read) (PureS.sizeOf _).size fun s => ?_
    have fin : ∀ zero : Array Value, NewS P (do
        let some cells := Instr.fill (fun i => some (i * s, s)) ((Array.range (n * s)).map (zero[· % zero.size]!)) ps.toList
          | stuck "buildSlice: a part of the wrong size"
        pure (.slice (some (← newRow elem cells)) n n) : Sem Value) := fun zero => by
      split
      · exact .bind (by unfold newRow; exact .bind (.newObj _) (fun _ _ _ e => newObj_size e) fun _ => .of_read (PureS.ret _).read) (fun _ _ _ e => newRow_size e) fun _ => .of_read (PureS.ret _).read
      · exact .stop _
    dsimp only
    repeat' (first | exact fin _ | exact .stop _ | exact (PureS.halt _).size | exact .of_read (PureS.zeroValue _).read | exact (PureS.zeroValue _).size | exact .of_read (PureS.ret _).read | exact (PureS.ret _).size | split | refine .bind ?_ ?_ fun _ => ?_)
  · exact .stop _
theorem new_exec {ρ : Operand → Value} {o : Oper} (hc : cls P o.op = 2) {w w' : World} {x : Next} (e : (execOp ρ o).run P w = .ok x w') :
    (∃ v, x = .value v) ∧ ∀ k, k < w.heap.size → w'.heap[k]? = w.heap[k]? := by
  obtain ⟨dst, op, type, pos, after, guard⟩ := o
  cases op <;> simp only [cls] at hc
  case alloc t =>
    have hr : execOp ρ { dst, op := .alloc t, type, pos, after, guard } = (do pure (Next.value (← Instr.alloc t true (.tuple #[]))) : Sem Next) := rfl
    rw [hr] at e
    obtain ⟨v, rfl, hv⟩ := value_form e
    exact ⟨⟨v, rfl⟩, NewS.alloc _ _ _ _ hv⟩
  case box t y =>
    have hr : execOp ρ { dst, op := .box t y, type, pos, after, guard } = (do pure (Next.value (← Instr.box t (ρ y))) : Sem Next) := rfl
    rw [hr] at e
    obtain ⟨v, rfl, hv⟩ := value_form e
    exact ⟨⟨v, rfl⟩, NewS.box _ _ _ _ _ hv⟩
  case buildSlice t n ps =>
    have hr : execOp ρ { dst, op := .buildSlice t n ps, type, pos, after, guard } = (do pure (Next.value (← Instr.buildSlice t n (ps.map fun (i, x) => (i, ρ x)))) : Sem Next) := rfl
    rw [hr] at e
    obtain ⟨v, rfl, hv⟩ := value_form e
    exact ⟨⟨v, rfl⟩, NewS.buildSlice _ _ _ _ _ _ hv⟩
  case call c =>
    simp only [clsCall] at hc
    split at hc
    · split at hc
      · split at hc <;> cases hc
      · cases hc
    all_goals cases hc
  all_goals (first | cases hc | (repeat' (split at hc)) <;> cases hc)
end exec
end Go.Proofs.YtpfmjagbjdkdcaaGreatDoor
