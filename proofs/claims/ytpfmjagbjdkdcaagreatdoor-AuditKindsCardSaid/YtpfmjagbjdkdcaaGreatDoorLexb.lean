/- A region that draws its order: the walk in one fixed order. -/
import Derived.Test.YtpfmjagbjdkdcaaGreatDoorLex
set_option linter.unusedSimpArgs false
set_option linter.unusedVariables false
namespace Go.Proofs.YtpfmjagbjdkdcaaGreatDoor
open Region (wanted)

/-- The post of a walk in a fixed order: it may not panic. -/
def Qn (Q : Act → World → Prop) : Exit → Act → World → Prop := Exit.then Q (fun _ _ _ => False)

section
variable {P : Program} {ops : Array Oper} {Q : Act → World → Prop}

/-- One operation, whose operands' values are of the kinds that its class wants. -/
def st (P : Program) (ops : Array Oper) (Q : Act → World → Prop) (o : Oper) (K : Act → World → Prop) (a : Act) (w : World) : Prop :=
  if wanted o (yielded ops a.tmps) then chkV a.eval o.op = true ∧ o.wp P a w K (Qn Q) else K (a.put o.dst undef) w

theorem st_mono {o : Oper} {K K' : Act → World → Prop} {a : Act} {w : World} (h : ∀ a w, K a w → K' a w) (hh : st P ops Q o K a w) : st P ops Q o K' a w := by
  unfold st at *
  split
  · rename_i hw; rw [if_pos hw] at hh; exact ⟨hh.1, Oper.wp_mono h hh.2⟩
  · rename_i hw; rw [if_neg hw] at hh; exact h _ _ hh

/-- It ends well, with a value, in this world. -/
theorem wp_value {o : Oper} {a : Act} {w w' : World} {v : Value} {K : Act → World → Prop} {R : Exit → Act → World → Prop} (e : (execOp a.eval o).run P w = .ok (.value v) w') :
    o.wp P a w K R ↔ K (a.put o.dst v) w' := by
  unfold Oper.wp
  rw [e]
  exact Iff.rfl
theorem wp_ok {o : Oper} {a : Act} {w : World} {K : Act → World → Prop} (h : o.wp P a w K (Qn Q)) : ∃ x w', (execOp a.eval o).run P w = .ok x w' := by
  unfold Oper.wp at h
  cases hr : (execOp a.eval o).run P w with
  | ok x w' => exact ⟨x, w', rfl⟩
  | halt q w' =>
    rw [hr] at h
    cases q <;> simp only [Oper.upon] at h
    exact h.elim
/-- Something comes of a call. -/
theorem calls_some {f : FuncId} {args : Array Value} {w : World} {R : Ending → World → Prop} (h : Calls P f args w R) : ∃ e w', R e w' := by
  obtain ⟨e, w', _, hr, _⟩ := h []
  exact ⟨e, w', hr⟩
theorem rows_some {row : String} {args : Array Value} {w : World} {R : Value → World → Prop} (h : Rows P row args w R) : ∃ v w', R v w' := by
  obtain ⟨v, w', hr, _⟩ := h default []
  exact ⟨v, w', hr⟩
/-- What comes of an operation: a frame that differs in its own slot alone (and in the deferred calls). -/
theorem wp_some {o : Oper} {a : Act} {w : World} {K : Act → World → Prop} (h : o.wp P a w K (Qn Q)) :
    ∃ v d w', K (({ a with defers := d } : Act).put o.dst v) w' := by
  unfold Oper.wp at h
  cases hr : (execOp a.eval o).run P w with
  | halt q w' =>
    rw [hr] at h
    cases q <;> simp only [Oper.upon] at h
    exact h.elim
  | ok x w' =>
    rw [hr] at h
    cases x <;> simp only [Oper.upon] at h
    case value v => exact ⟨v, a.defers, w', h⟩
    case skip => exact ⟨undef, a.defers, w', h⟩
    case defer d => exact ⟨undef, d :: a.defers, w', h⟩
    case enter f args =>
      obtain ⟨e, w'', he⟩ := calls_some h
      cases e with
      | returned v => exact ⟨v, a.defers, w'', he⟩
      | panicked c => exact he.elim
      | outgrown => obtain ⟨_, _, hl⟩ := he; exact hl.elim
    case row row args =>
      obtain ⟨v, w'', he⟩ := rows_some h
      exact ⟨v, a.defers, w'', he⟩
theorem chk_congr {ρ ρ' : Operand → Value} {op : Op} (h : ∀ x ∈ op.operands, ρ x = ρ' x) : chkV ρ op = chkV ρ' op := by
  cases op <;> simp only [Op.operands] at h <;> simp only [chkV]
  case binOp bop t x y t' => rw [h x (by simp), h y (by simp)]
  case nilCheck x => rw [h x (by simp)]
  case convert s d x => rw [h x (by simp)]
  case call c =>
    obtain ⟨callee, args, ts⟩ := c
    have ha : ∀ x ∈ args.toList, ρ x = ρ' x := fun x hx => h x (by unfold Call.operands; simp; exact .inr (by simpa using hx))
    dsimp only
    generalize args.toList = l at ha
    cases callee with
    | builtin b => cases b <;> first
      | rfl
      | (rcases l with _ | ⟨x, _ | ⟨y, _ | ⟨z, l⟩⟩⟩ <;> first
         | rfl
         | (show twoInts (ρ x) (ρ y) = twoInts (ρ' x) (ρ' y); rw [ha x (by simp), ha y (by simp)]))
    | value f => rfl
    | invoke r m => rfl
theorem eval_away {o : Oper} {a : Act} {dst : Option Tmp} {v : Value} (h : ∀ d, dst = some d → d ∉ o.looksAt ops) : ∀ x ∈ o.op.operands, (a.put dst v).eval x = a.eval x := fun x hx =>
  Act.eval_put fun d hd hxd => h d hd (by
    subst hxd
    exact List.mem_append_left _ (List.mem_filterMap.2 ⟨.tmp d, by simpa using hx, rfl⟩))
theorem eval_defers {a : Act} {d : List Deferred} (x : Operand) : ({ a with defers := d } : Act).eval x = a.eval x := by cases x <;> rfl
theorem put_swap (a : Act) {x y : Oper} (hd : ∀ d, x.dst = some d → y.dst ≠ some d) (v u : Value) : (a.put x.dst v).put y.dst u = (a.put y.dst u).put x.dst v := Act.put_comm a v u hd

/-- 'o' yields v from frame a whatever the world (or is passed over). -/
def Yl (P : Program) (ops : Array Oper) (o : Oper) (v : Value) (a : Act) : Prop :=
  (wanted o (yielded ops a.tmps) = true ∧ chkV a.eval o.op = true ∧ ∀ w, (execOp a.eval o).run P w = .ok (.value v) w) ∨ (wanted o (yielded ops a.tmps) = false ∧ v = undef)
theorem Yl.st {o : Oper} {v : Value} {a : Act} {w : World} {K : Act → World → Prop} (h : Yl P ops o v a) : Go.Proofs.YtpfmjagbjdkdcaaGreatDoor.st P ops Q o K a w ↔ K (a.put o.dst v) w := by
  unfold Go.Proofs.YtpfmjagbjdkdcaaGreatDoor.st
  rcases h with ⟨h1, h2, h3⟩ | ⟨h1, rfl⟩
  · rw [if_pos h1, wp_value (h3 w)]
    exact ⟨fun h => h.2, fun h => ⟨h2, h⟩⟩
  · rw [if_neg (by rw [h1]; exact Bool.false_ne_true)]
theorem Yl.same {o : Oper} {v : Value} {a a' : Act} (h : Yl P ops o v a) (hs : ∀ cs b, o.op ≠ .select cs b) (he : ∀ x ∈ o.op.operands, a'.eval x = a.eval x) (hw : wanted o (yielded ops a'.tmps) = wanted o (yielded ops a.tmps)) : Yl P ops o v a' := by
  unfold Yl at *
  rw [hw, execOp_congr o hs he, chk_congr he]
  exact h
theorem Yl.away {o : Oper} {v : Value} {a : Act} {dst : Option Tmp} {u : Value} (h : Yl P ops o v a) (hs : ∀ cs b, o.op ≠ .select cs b) (hd : ∀ d, dst = some d → d ∉ o.looksAt ops) : Yl P ops o v (a.put dst u) :=
  h.same hs (eval_away hd) (wanted_put o a dst u hd)
theorem yl_of_st {o : Oper} {a : Act} {w : World} {K : Act → World → Prop} (hc : cls P o.op = 0) (h : st P ops Q o K a w) : ∃ v, Yl P ops o v a := by
  unfold st at h
  split at h
  · rename_i hw
    obtain ⟨x, w', e⟩ := wp_ok h.2
    obtain ⟨v, rfl, rfl, h2⟩ := pure_exec hc h.1 e
    exact ⟨v, .inl ⟨hw, h.1, h2⟩⟩
  · rename_i hw
    exact ⟨undef, .inr ⟨by simpa using hw, rfl⟩⟩

/-- a later operation that asks nothing of the world is taken first -/
theorem swap_pure_right {x y : Oper} {K : Act → World → Prop} {a : Act} {w : World} (hsx : ∀ cs b, x.op ≠ .select cs b) (hsy : ∀ cs b, y.op ≠ .select cs b) (hap : x.apart ops y = true) (hc : cls P y.op = 0)
    (h : st P ops Q x (st P ops Q y K) a w) : st P ops Q y (st P ops Q x K) a w := by
  obtain ⟨h1, h2, h3⟩ := Oper.apart_spec hap
  have hy : ∃ v, Yl P ops y v a := by
    unfold st at h
    split at h
    · obtain ⟨u, d, w', hk⟩ := wp_some h.2
      obtain ⟨v, hv⟩ := yl_of_st hc hk
      refine ⟨v, hv.same hsy (fun z hz => ?_) ?_⟩
      · rw [eval_away (ops := ops) h1 z hz]
        exact (eval_defers z).symm
      · rw [wanted_put y _ x.dst u h1]
    · obtain ⟨v, hv⟩ := yl_of_st hc h
      refine ⟨v, hv.same hsy (fun z hz => (eval_away (ops := ops) h1 z hz).symm) (wanted_put y a x.dst undef h1).symm⟩
  obtain ⟨v, hv⟩ := hy
  rw [hv.st]
  unfold st at h ⊢
  rw [wanted_put x a y.dst v h3]
  split
  · rename_i hw
    rw [if_pos hw] at h
    refine ⟨(chk_congr (eval_away h3)).trans h.1, ?_⟩
    have hh := h.2
    unfold Oper.wp at hh ⊢
    rw [execOp_congr x hsx (eval_away h3)]
    generalize (execOp a.eval x).run P w = r at *
    have fin : ∀ (b : Act) (u : Value) (w' : World), Yl P ops y v b → st P ops Q y K (b.put x.dst u) w' → K ((b.put y.dst v).put x.dst u) w' := fun b u w' hb hk => by
      have := (hb.away (dst := x.dst) (u := u) hsy h1).st.1 hk
      rw [put_swap b h2 u v] at this
      exact this
    cases r with
    | ok n w' =>
      cases n <;> simp only [Oper.upon] at hh ⊢
      case value u => exact fin _ _ _ hv hh
      case skip => exact fin _ _ _ hv hh
      case defer d =>
        have hb : Yl P ops y v ({ a with defers := d :: a.defers } : Act) := hv.same hsy (fun z _ => eval_defers z) rfl
        rw [Act.put_defers]
        exact fin _ _ _ hb hh
      case enter f args =>
        refine Calls.mono hh fun e w'' he => ?_
        cases e with
        | returned u => exact fin _ _ _ hv he
        | panicked c => exact he
        | outgrown => exact he
      case row row args => exact Rows.mono hh fun u w'' he => fin _ _ _ hv he
    | halt q w' => cases q <;> simp only [Oper.upon] at hh ⊢; exact hh
  · rename_i hw
    rw [if_neg hw] at h
    have := (hv.away (dst := x.dst) (u := undef) hsy h1).st.1 h
    rw [put_swap a h2 undef v] at this
    exact this

/-- an earlier operation that asks nothing of the world is taken last -/
theorem swap_pure_left {x y : Oper} {K : Act → World → Prop} {a : Act} {w : World} (hsx : ∀ cs b, x.op ≠ .select cs b) (hsy : ∀ cs b, y.op ≠ .select cs b) (hap : x.apart ops y = true) (hc : cls P x.op = 0)
    (h : st P ops Q x (st P ops Q y K) a w) : st P ops Q y (st P ops Q x K) a w := by
  obtain ⟨h1, h2, h3⟩ := Oper.apart_spec hap
  obtain ⟨v, hv⟩ := yl_of_st hc h
  rw [hv.st] at h
  unfold st at h ⊢
  rw [wanted_put y a x.dst v h1] at h
  have fin : ∀ (b : Act) (u : Value) (w' : World), Yl P ops x v b → K ((b.put x.dst v).put y.dst u) w' → st P ops Q x K (b.put y.dst u) w' := fun b u w' hb hk => by
    rw [(hb.away (dst := y.dst) (u := u) hsx h3).st, ← put_swap b h2 v u]
    exact hk
  split
  · rename_i hw
    rw [if_pos hw] at h
    refine ⟨(chk_congr (eval_away h1)).symm.trans h.1, ?_⟩
    have hh := h.2
    unfold Oper.wp at hh ⊢
    rw [execOp_congr y hsy (eval_away h1)] at hh
    generalize (execOp a.eval y).run P w = r at *
    cases r with
    | ok n w' =>
      cases n <;> simp only [Oper.upon] at hh ⊢
      case value u => exact fin _ _ _ hv hh
      case skip => exact fin _ _ _ hv hh
      case defer d =>
        have hb : Yl P ops x v ({ a with defers := d :: a.defers } : Act) := hv.same hsx (fun z _ => eval_defers z) rfl
        refine fin _ _ _ hb ?_
        rw [← Act.put_defers]
        exact hh
      case enter f args =>
        refine Calls.mono hh fun e w'' he => ?_
        cases e with
        | returned u => exact fin _ _ _ hv he
        | panicked c => exact he
        | outgrown => exact he
      case row row args => exact Rows.mono hh fun u w'' he => fin _ _ _ hv he
    | halt q w' => cases q <;> simp only [Oper.upon] at hh ⊢; exact hh
  · rename_i hw
    rw [if_neg hw] at h
    exact fin _ _ _ hv h

/-- an earlier load behind a later load or a later new block -/
theorem swap_read {x y : Oper} {K : Act → World → Prop} {a : Act} {w : World} (hsx : ∀ cs b, x.op ≠ .select cs b) (hsy : ∀ cs b, y.op ≠ .select cs b) (hap : x.apart ops y = true) (hx : cls P x.op = 1) (hy : cls P y.op = 1 ∨ cls P y.op = 2)
    (h : st P ops Q x (st P ops Q y K) a w) : st P ops Q y (st P ops Q x K) a w := by
  obtain ⟨h1, h2, h3⟩ := Oper.apart_spec hap
  -- what x comes to here, and in every later world
  have hX : ∃ v, st P ops Q y K (a.put x.dst v) w ∧ ∀ (u : Value) (w2 : World), (∀ k, k < w.heap.size → w2.heap[k]? = w.heap[k]?) → K ((a.put x.dst v).put y.dst u) w2 → st P ops Q x K (a.put y.dst u) w2 := by
    unfold st at h
    split at h
    · rename_i hw
      obtain ⟨n, w', e⟩ := wp_ok h.2
      obtain ⟨v, rfl, rfl, he⟩ := read_exec hx e
      refine ⟨v, (wp_value e).1 h.2, fun u w2 hw2 hk => ?_⟩
      unfold st
      rw [wanted_put x a y.dst u h3, if_pos hw]
      refine ⟨(chk_congr (eval_away h3)).trans h.1, ?_⟩
      have e2 : (execOp (a.put y.dst u).eval x).run P w2 = .ok (.value v) w2 := by rw [execOp_congr x hsx (eval_away h3)]; exact he w2 hw2
      rw [wp_value e2, ← put_swap a h2 v u]
      exact hk
    · rename_i hw
      refine ⟨undef, h, fun u w2 _ hk => ?_⟩
      unfold st
      rw [wanted_put x a y.dst u h3, if_neg hw, ← put_swap a h2 undef u]
      exact hk
  obtain ⟨v, hY, hX⟩ := hX
  unfold st at hY ⊢
  rw [wanted_put y a x.dst v h1] at hY
  split
  · rename_i hw
    rw [if_pos hw] at hY
    refine ⟨(chk_congr (eval_away h1)).symm.trans hY.1, ?_⟩
    obtain ⟨n, w', e⟩ := wp_ok hY.2
    have hn : ∃ u, n = .value u ∧ ∀ k, k < w.heap.size → w'.heap[k]? = w.heap[k]? := by
      rcases hy with hy | hy
      · obtain ⟨u, rfl, rfl, _⟩ := read_exec hy e
        exact ⟨u, rfl, fun _ _ => rfl⟩
      · obtain ⟨⟨u, rfl⟩, hk⟩ := new_exec hy e
        exact ⟨u, rfl, hk⟩
    obtain ⟨u, rfl, hk⟩ := hn
    have hf := (wp_value e).1 hY.2
    rw [execOp_congr y hsy (eval_away h1)] at e
    rw [wp_value e]
    exact hX u w' hk hf
  · rename_i hw
    rw [if_neg hw] at hY
    exact hX undef w (fun _ _ => rfl) hY

/-! ## Which operations may be exchanged, and in which order they are walked -/
def noSel (o : Oper) : Bool := match o.op with | .select .. => false | _ => true
theorem noSel_spec {o : Oper} (h : noSel o = true) : ∀ cs b, o.op ≠ .select cs b := fun cs b e => by simp [noSel, e] at h
/-- x stands ahead of y in the walk; neither waits for the other: may y come first? -/
def comm (P : Program) (ops : Array Oper) (x y : Oper) : Bool :=
  x.apart ops y && (cls P y.op == 0 || cls P x.op == 0 || (cls P x.op == 1 && (cls P y.op == 1 || cls P y.op == 2)))
theorem swap {x y : Oper} {K : Act → World → Prop} {a : Act} {w : World} (hsx : noSel x = true) (hsy : noSel y = true) (hc : comm P ops x y = true)
    (h : st P ops Q x (st P ops Q y K) a w) : st P ops Q y (st P ops Q x K) a w := by
  simp only [comm, Bool.and_eq_true, Bool.or_eq_true, beq_iff_eq] at hc
  obtain ⟨hap, (h1 | h1) | ⟨h1, h2⟩⟩ := hc
  · exact swap_pure_right (noSel_spec hsx) (noSel_spec hsy) hap h1 h
  · exact swap_pure_left (noSel_spec hsx) (noSel_spec hsy) hap h1 h
  · exact swap_read (noSel_spec hsx) (noSel_spec hsy) hap h1 h2 h

/-- The walk along a list of operations. -/
def run (P : Program) (ops : Array Oper) (Q : Act → World → Prop) : List Oper → Act → World → Prop
  | [] => Q
  | o :: l => st P ops Q o (run P ops Q l)
theorem move : ∀ (pre post : List Oper) (y : Oper) (a : Act) (w : World), (∀ x ∈ pre, noSel x = true ∧ comm P ops x y = true) → noSel y = true →
    run P ops Q (pre ++ y :: post) a w → st P ops Q y (run P ops Q (pre ++ post)) a w
  | [], _, _, _, _, _, _, h => h
  | x :: pre, post, y, a, w, hp, hy, h => by
    have h1 : st P ops Q x (st P ops Q y (run P ops Q (pre ++ post))) a w := st_mono (fun a w hh => move pre post y a w (fun z hz => hp z (List.mem_cons_of_mem _ hz)) hy hh) h
    obtain ⟨h2, h3⟩ := hp x (List.mem_cons_self ..)
    exact swap h2 hy h3 h1

/-- o waits for operation j. -/
def waits (o : Oper) (j : Nat) : Bool := o.after.any fun e => Region.binds .any e && e.on == j
/-- Operation i waits for j, or for one that does. -/
inductive Reach (ops : Array Oper) : Nat → Nat → Prop where
  | one {i j : Nat} {o : Oper} : ops[i]? = some o → waits o j = true → Reach ops i j
  | step {i k j : Nat} {o : Oper} : ops[i]? = some o → waits o k = true → Reach ops k j → Reach ops i j
def maskOf (acc : List Nat) (o : Oper) : Nat := o.after.toList.foldl (fun s e => if Region.binds .any e then s ||| (1 <<< e.on) ||| acc.getD e.on 0 else s) 0
def masks : List Oper → List Nat → List Nat
  | [], acc => acc
  | o :: r, acc => masks r (acc ++ [maskOf acc o])
theorem testBit_one_shift (i j : Nat) : (1 <<< i : Nat).testBit j = true → i = j := by
  intro h
  rw [Nat.one_shiftLeft, Nat.testBit_two_pow] at h
  simpa using h
theorem maskOf_spec {acc : List Nat} {i : Nat} {o : Oper} (ho : ops[i]? = some o) (hacc : ∀ k j, (acc.getD k 0).testBit j = true → Reach ops k j) (j : Nat) (h : (maskOf acc o).testBit j = true) : Reach ops i j := by
  unfold maskOf at h
  have key : ∀ (l : List Edge) (s : Nat), (∀ e ∈ l, e ∈ o.after.toList) → (s.testBit j = true → Reach ops i j) →
      (l.foldl (fun s e => if Region.binds .any e then s ||| (1 <<< e.on) ||| acc.getD e.on 0 else s) s).testBit j = true → Reach ops i j := by
    intro l
    induction l with
    | nil => intro s _ hs h; exact hs h
    | cons e l ih =>
      intro s hl hs h
      refine ih _ (fun e' he' => hl e' (List.mem_cons_of_mem _ he')) ?_ h
      intro hb
      dsimp only at hb
      split at hb
      · rename_i hbind
        have hw : waits o e.on = true := by
          unfold waits
          rw [Array.any_eq_true']
          exact ⟨e, by simpa using hl e (List.mem_cons_self ..), by simp [hbind]⟩
        simp only [Nat.testBit_or, Bool.or_eq_true] at hb
        rcases hb with (hb | hb) | hb
        · exact hs hb
        · obtain rfl := testBit_one_shift _ _ hb
          exact .one ho hw
        · exact .step ho hw (hacc _ _ hb)
      · exact hs hb
  exact key _ 0 (fun e he => he) (fun h => by simp at h) h
theorem masks_spec : ∀ (l : List Oper) (acc : List Nat), (∀ j, l[j]? = ops[acc.length + j]?) → (∀ k j, (acc.getD k 0).testBit j = true → Reach ops k j) →
    ∀ k j, ((masks l acc).getD k 0).testBit j = true → Reach ops k j
  | [], _, _, hacc, k, j, h => hacc k j h
  | o :: l, acc, hl, hacc, k, j, h => by
    refine masks_spec l (acc ++ [maskOf acc o]) (fun j => ?_) (fun k j hk => ?_) k j h
    · have := hl (j + 1)
      simp only [List.getElem?_cons_succ] at this
      rw [this, List.length_append, List.length_singleton]
      congr 1
      omega
    · rcases Nat.lt_or_ge k acc.length with h1 | h1
      · rw [List.getD_eq_getElem?_getD, List.getElem?_append_left h1, ← List.getD_eq_getElem?_getD] at hk
        exact hacc k j hk
      · rw [List.getD_eq_getElem?_getD, List.getElem?_append_right h1, ← List.getD_eq_getElem?_getD] at hk
        rcases Nat.eq_or_lt_of_le h1 with h2 | h2
        · subst h2
          simp only [Nat.sub_self, List.getD_cons_zero] at hk
          exact maskOf_spec (by simpa using (hl 0).symm) hacc j hk
        · rw [List.getD_eq_getElem?_getD, List.getElem?_eq_none (by simp; omega)] at hk
          simp at hk
def closedB (ops : Array Oper) (listed : Array Bool) : Prop := ∀ i o, ops[i]? = some o → listed.getD i false = true → ∀ j, waits o j = true → listed.getD j false = true
theorem reach_listed {listed : Array Bool} (hcl : closedB ops listed) {i j : Nat} (h : Reach ops i j) (hi : listed.getD i false = true ∨ i ∈ Region.ready .any ops listed) : listed.getD j false = true := by
  have one : ∀ {i j : Nat} {o : Oper}, ops[i]? = some o → waits o j = true → (listed.getD i false = true ∨ i ∈ Region.ready .any ops listed) → listed.getD j false = true := by
    intro i j o ho hw hi
    rcases hi with hi | hi
    · exact hcl i o ho hi j hw
    · obtain ⟨_, o', ho', hall⟩ := mem_ready.1 hi
      obtain rfl : o = o' := Option.some.inj (ho.symm.trans ho')
      unfold waits at hw
      obtain ⟨e, he, hb⟩ := Array.any_eq_true'.1 hw
      simp only [Bool.and_eq_true, beq_iff_eq] at hb
      rw [← hb.2]
      exact hall e he hb.1
  induction h with
  | one ho hw => exact one ho hw hi
  | step ho hw _ ih => exact ih (.inl (one ho hw hi))

/-- The order l is one that the waits allow, and what l puts ahead either is waited for or may be exchanged. -/
def pairB (P : Program) (ops : Array Oper) (ms : List Nat) (j i : Nat) : Bool :=
  j != i && (match ops[j]?, ops[i]? with
    | some oj, some oi => !waits oj i && ((ms.getD i 0).testBit j || comm P ops oj oi)
    | _, _ => false)
def pairsB (P : Program) (ops : Array Oper) (ms : List Nat) : List Nat → Bool
  | [] => true
  | j :: r => r.all (pairB P ops ms j) && pairsB P ops ms r
def lexB (P : Program) (ops : Array Oper) (l : List Nat) : Bool :=
  l.length == ops.size && ops.toList.all noSel && l.all (fun i => decide (i < ops.size) && (match ops[i]? with | some o => !waits o i && o.after.toList.all (fun e => decide (e.on < ops.size)) | none => false)) &&
  (List.range ops.size).all l.contains && pairsB P ops (masks ops.toList []) l
theorem pairsB_spec {ms : List Nat} : ∀ {l : List Nat}, pairsB P ops ms l = true → l.Pairwise fun j i => pairB P ops ms j i = true
  | [], _ => .nil
  | j :: r, h => by
    simp only [pairsB, Bool.and_eq_true, List.all_eq_true] at h
    exact .cons (fun i hi => h.1 i hi) (pairsB_spec h.2)

def opsOf (ops : Array Oper) (l : List Nat) : List Oper := l.filterMap fun i => ops[i]?

theorem main_any {ms : List Nat} (hms : ∀ k j, (ms.getD k 0).testBit j = true → Reach ops k j) (hns : ∀ o ∈ ops.toList, noSel o = true)
    {R : Exit → Act → World → Prop} (hR : ∀ a w, Q a w → R .normal a w) :
    ∀ (n : Nat) (l : List Nat) (listed : Array Bool) (a : Act) (w : World), l.length = n → (∀ i, i ∈ l ↔ (i < ops.size ∧ listed.getD i true = false)) → listed.size = ops.size → closedB ops listed →
      (∀ i ∈ l, ∀ o, ops[i]? = some o → waits o i = false ∧ ∀ e ∈ o.after, e.on < ops.size) →
      l.Pairwise (fun j i => pairB P ops ms j i = true) → run P ops Q (opsOf ops l) a w → wpAny P .any ops R n listed a w := by
  intro n
  induction n with
  | zero =>
    intro l listed a w hl hm _ _ _ _ h
    obtain rfl : l = [] := List.eq_nil_of_length_eq_zero hl
    refine ⟨?_, hR _ _ h⟩
    rw [List.eq_nil_iff_forall_not_mem]
    intro i hi
    have h1 := mem_ready.1 hi
    obtain ⟨h1, o, ho, _⟩ := h1
    have : i ∈ ([] : List Nat) := (hm i).2 ⟨(Array.getElem?_eq_some_iff.1 ho).1, h1⟩
    cases this
  | succ n ih =>
    intro l listed a w hl hm hsz hcl hok hpw h
    refine ⟨fun hnil => ?_, fun i hi => ?_⟩
    · -- the first of l is ready
      exfalso
      match l, hl with
      | i0 :: r, _ =>
        have hi0 := (hm i0).1 (List.mem_cons_self ..)
        obtain ⟨o, ho⟩ : ∃ o, ops[i0]? = some o := ⟨ops[i0], Array.getElem?_eq_getElem hi0.1⟩
        have : i0 ∈ Region.ready .any ops listed := by
          refine mem_ready.2 ⟨hi0.2, o, ho, fun e he hb => ?_⟩
          have hwt : waits o e.on = true := by
            unfold waits
            rw [Array.any_eq_true']
            exact ⟨e, he, by simp [hb]⟩
          cases hle : listed.getD e.on false with
          | true => rfl
          | false =>
            exfalso
            have hlt := (hok i0 (List.mem_cons_self ..) o ho).2 e he
            have hmem : e.on ∈ i0 :: r := (hm e.on).2 ⟨hlt, by
              have : e.on < listed.size := by omega
              simp [this] at hle ⊢; exact hle⟩
            rcases List.mem_cons.1 hmem with he0 | hmem
            · have := (hok i0 (List.mem_cons_self ..) o ho).1
              rw [he0] at hwt
              rw [hwt] at this
              cases this
            · have hp := (List.pairwise_cons.1 hpw).1 _ hmem
              simp only [pairB, ho, Array.getElem?_eq_getElem hlt, Bool.and_eq_true, Bool.not_eq_true'] at hp
              rw [hwt] at hp
              exact absurd hp.2.1 (by simp)
        rw [hnil] at this
        cases this
    · obtain ⟨hun, o, ho, hall⟩ := mem_ready.1 hi
      have hlt : i < ops.size := (Array.getElem?_eq_some_iff.1 ho).1
      have hil : i ∈ l := (hm i).2 ⟨hlt, hun⟩
      obtain ⟨pre, post, rfl⟩ := List.append_of_mem hil
      have hpw' := List.pairwise_append.1 hpw
      have hnoi : ∀ j ∈ pre ++ post, j ≠ i := by
        intro j hj he
        subst he
        rcases List.mem_append.1 hj with hj | hj
        · have := hpw'.2.2 j hj j (List.mem_cons_self ..)
          simp [pairB] at this
        · have := (List.pairwise_cons.1 hpw'.2.1).1 j hj
          simp [pairB] at this
      have hsplit : opsOf ops (pre ++ i :: post) = opsOf ops pre ++ o :: opsOf ops post := by simp [opsOf, List.filterMap_append, ho]
      have hsplit' : opsOf ops (pre ++ post) = opsOf ops pre ++ opsOf ops post := by simp [opsOf, List.filterMap_append]
      rw [hsplit] at h
      have hom : o ∈ ops.toList := by simpa using Array.mem_of_getElem? ho
      have hmv := move (opsOf ops pre) (opsOf ops post) o a w (fun x hx => by
        obtain ⟨j, hj, hjx⟩ := List.mem_filterMap.1 hx
        refine ⟨hns x (by simpa using Array.mem_of_getElem? hjx), ?_⟩
        have hp := hpw'.2.2 j hj i (List.mem_cons_self ..)
        simp only [pairB, hjx, ho, Bool.and_eq_true, Bool.or_eq_true] at hp
        rcases hp.2.2 with hp | hp
        · exfalso
          have h1 := reach_listed hcl (hms i j hp) (.inr hi)
          have h2 := ((hm j).1 (List.mem_append_left _ hj)).2
          have h3 := ((hm j).1 (List.mem_append_left _ hj)).1
          have : j < listed.size := by omega
          simp [this] at h1 h2
          rw [h1] at h2
          cases h2
        · exact hp) (hns o hom) h
      rw [← hsplit'] at hmv
      have hrec : ∀ a w, run P ops Q (opsOf ops (pre ++ post)) a w → wpAny P .any ops R n (listed.setIfInBounds i true) a w := fun a w hr => by
        refine ih (pre ++ post) _ a w ?_ ?_ ?_ ?_ ?_ ?_ hr
        · simp only [List.length_append, List.length_cons] at hl ⊢; omega
        · intro j
          constructor
          · intro hj
            have hj' : j ∈ pre ++ i :: post := by
              rcases List.mem_append.1 hj with hj | hj
              · exact List.mem_append_left _ hj
              · exact List.mem_append_right _ (List.mem_cons_of_mem _ hj)
            have := (hm j).1 hj'
            refine ⟨this.1, ?_⟩
            rw [getD_set_ne true (Ne.symm (hnoi j hj))]
            exact this.2
          · rintro ⟨h1, h2⟩
            have hji : j ≠ i := by
              intro he
              subst he
              have : j < listed.size := by omega
              simp [this] at h2
            rw [getD_set_ne true (Ne.symm hji)] at h2
            have := (hm j).2 ⟨h1, h2⟩
            rcases List.mem_append.1 this with hj | hj
            · exact List.mem_append_left _ hj
            · rcases List.mem_cons.1 hj with hj | hj
              · exact absurd hj hji
              · exact List.mem_append_right _ hj
        · simp [hsz]
        · intro k ok hk hlk j hw
          by_cases hik : i = k
          · subst hik
            obtain rfl : o = ok := Option.some.inj (ho.symm.trans hk)
            unfold waits at hw
            obtain ⟨e, he, hb⟩ := Array.any_eq_true'.1 hw
            simp only [Bool.and_eq_true, beq_iff_eq] at hb
            rw [← hb.2]
            exact getD_set_true (hall e he hb.1)
          · rw [getD_set_ne false hik] at hlk
            exact getD_set_true (hcl k ok hk hlk j hw)
        · intro j hj
          refine hok j ?_
          rcases List.mem_append.1 hj with hj | hj
          · exact List.mem_append_left _ hj
          · exact List.mem_append_right _ (List.mem_cons_of_mem _ hj)
        · exact hpw.sublist (by simp)
      unfold wpOp
      simp only [ho]
      unfold st at hmv
      split
      · rename_i hw
        rw [if_pos hw] at hmv
        refine .inl ?_
        have h2 := Oper.wp_mono hrec hmv.2
        unfold Oper.wp at h2 ⊢
        generalize (execOp a.eval o).run P w = r at *
        cases r with
        | ok n w' =>
          cases n <;> simp only [Oper.upon] at h2 ⊢ <;> first
            | exact h2
            | (refine Calls.mono h2 fun e w'' he => ?_
               cases e with
               | returned u => exact he
               | panicked c => exact he.elim
               | outgrown => obtain ⟨_, _, hl⟩ := he; exact hl.elim)
        | halt q w' => cases q <;> simp only [Oper.upon] at h2 ⊢; exact h2.elim
      · rename_i hw
        rw [if_neg hw] at hmv
        exact hrec _ _ hmv

/-! ## From the walk's own form -/
def nontriv : Op → Bool
  | .binOp .. | .nilCheck _ | .convert .. => true
  | .call c => match c.callee with
    | .builtin .min => true
    | .builtin .max => true
    | _ => false
  | _ => false
theorem chk_triv {ρ : Operand → Value} {op : Op} (h : nontriv op = false) : chkV ρ op = true := by
  cases op <;> simp [nontriv] at h <;> first | rfl | skip
  rename_i c
  obtain ⟨callee, args, ts⟩ := c
  unfold chkV
  dsimp only
  split <;> first | rfl | simp_all
/-- What is looked into is not written again. -/
def ssaB (ops : Array Oper) : List Oper → Bool
  | [] => true
  | o :: r => (!nontriv o.op || (o :: r).all (fun x => match x.dst with | some d => !(o.looksAt ops).contains d | none => true)) && ssaB ops r
/-- What is looked into is of the kinds that it is taken for. -/
def plainB (ops : Array Oper) (l : List Oper) (a : Act) : Bool := l.all fun o => !nontriv o.op || !wanted o (yielded ops a.tmps) || chkV a.eval o.op

theorem list_cons {o : Oper} {l : List Oper} {a : Act} {w : World} (h : wpList P ops (Qn Q) (o :: l) a w) :
    if wanted o (yielded ops a.tmps) then o.wp P a w (wpList P ops (Qn Q) l) (Qn Q) else wpList P ops (Qn Q) l (a.put o.dst undef) w := by
  unfold wpList at h
  split at h
  · rename_i hw
    rw [if_pos hw]
    rcases h with h | ⟨_, _, _, hl⟩
    · exact h
    · exact hl.elim
  · rename_i hw
    rw [if_neg hw]
    exact h
theorem getD_put {a : Act} {dst : Option Tmp} {v : Value} {t : Tmp} (h : dst ≠ some t) : (a.put dst v).tmps.getD t undef = a.tmps.getD t undef := by
  cases dst with
  | none => rfl
  | some d =>
    have hne : d ≠ t := fun e => h (by rw [e])
    simp [Act.put, Array.getElem?_setIfInBounds_ne hne]
theorem list_final : ∀ (l : List Oper) (a : Act) (w : World), wpList P ops (Qn Q) l a w →
    ∃ a' w', Q a' w' ∧ ∀ t, (∀ x ∈ l, x.dst ≠ some t) → a'.tmps.getD t undef = a.tmps.getD t undef
  | [], a, w, h => ⟨a, w, h, fun _ _ => rfl⟩
  | o :: l, a, w, h => by
    have h1 := list_cons h
    have step : ∃ (b : Act) (w1 : World), wpList P ops (Qn Q) l b w1 ∧ ∀ t, o.dst ≠ some t → b.tmps.getD t undef = a.tmps.getD t undef := by
      split at h1
      · obtain ⟨v, d, w1, hk⟩ := wp_some h1
        exact ⟨_, w1, hk, fun t ht => getD_put ht⟩
      · exact ⟨_, w, h1, fun t ht => getD_put ht⟩
    obtain ⟨b, w1, hb, hba⟩ := step
    obtain ⟨a', w', hq, ha⟩ := list_final l b w1 hb
    exact ⟨a', w', hq, fun t ht => (ha t fun x hx => ht x (List.mem_cons_of_mem _ hx)).trans (hba t (ht o (List.mem_cons_self ..)))⟩
theorem eval_getD {a a' : Act} {o : Oper} (h : ∀ t ∈ o.looksAt ops, a'.tmps.getD t undef = a.tmps.getD t undef) : ∀ x ∈ o.op.operands, a'.eval x = a.eval x := fun x hx => by
  cases x with
  | tmp t => exact h t (List.mem_append_left _ (List.mem_filterMap.2 ⟨.tmp t, by simpa using hx, rfl⟩))
  | _ => rfl
theorem getD_both_undef {a a' : Act} {t : Tmp} (h : a'.tmps.getD t undef = a.tmps.getD t undef) : (match a'.tmps[t]? with | some (Value.bool b) => some b | _ => none) = (match a.tmps[t]? with | some (Value.bool b) => some b | _ => none) := by
  rw [Array.getD_eq_getD_getElem?, Array.getD_eq_getD_getElem?] at h
  cases h1 : a'.tmps[t]? <;> cases h2 : a.tmps[t]? <;> simp [h1, h2] at h ⊢
  · subst h; rfl
  · subst h; rfl
  · rw [h]
theorem wanted_getD {a a' : Act} {o : Oper} (h : ∀ t ∈ o.looksAt ops, a'.tmps.getD t undef = a.tmps.getD t undef) : wanted o (yielded ops a'.tmps) = wanted o (yielded ops a.tmps) := by
  unfold Region.wanted
  cases hg : o.guard with
  | none => rfl
  | some gw =>
    obtain ⟨g, want⟩ := gw
    have hy : yielded ops a'.tmps g = yielded ops a.tmps g := by
      unfold yielded
      cases ht : (ops[g]?).bind (·.dst) with
      | none => rfl
      | some t => exact getD_both_undef (h t (by simp [Oper.looksAt, hg, ht]))
    simp only [hy]
theorem list_run {L : List Oper} (hQ : ∀ a w, Q a w → plainB ops L a = true) : ∀ (l : List Oper) (a : Act) (w : World), (∀ o ∈ l, o ∈ L) → ssaB ops l = true → wpList P ops (Qn Q) l a w → run P ops Q l a w
  | [], _, _, _, _, h => h
  | o :: l, a, w, hL, hs, h => by
    have hfin := list_final _ _ _ h
    have h1 := list_cons h
    simp only [ssaB, Bool.and_eq_true] at hs
    have rec_ : ∀ a w, wpList P ops (Qn Q) l a w → run P ops Q l a w := fun a w => list_run hQ l a w (fun x hx => hL x (List.mem_cons_of_mem _ hx)) hs.2
    show st P ops Q o (run P ops Q l) a w
    unfold st
    split
    · rename_i hw
      rw [if_pos hw] at h1
      refine ⟨?_, Oper.wp_mono rec_ h1⟩
      cases hn : nontriv o.op with
      | false => exact chk_triv hn
      | true =>
        obtain ⟨a', w', hq, hag⟩ := hfin
        have hp := hQ _ _ hq
        unfold plainB at hp
        have hpo := List.all_eq_true.1 hp o (hL o (List.mem_cons_self ..))
        have hd := hs.1
        rw [hn] at hd hpo
        simp only [Bool.not_true, Bool.false_or, List.all_eq_true] at hd
        have hsame : ∀ t ∈ o.looksAt ops, a'.tmps.getD t undef = a.tmps.getD t undef := fun t ht => hag t fun x hx he => by
          have := hd x hx
          rw [he] at this
          simp [ht] at this
        rw [wanted_getD hsame, hw, chk_congr (eval_getD hsame)] at hpo
        simpa using hpo
    · rename_i hw
      rw [if_neg hw] at h1
      exact rec_ _ _ h1

/-- A REGION THAT DRAWS ITS ORDER, walked in the order 'ord'. -/
theorem wp_region_ord {id : Nat} {l : List Oper} (ord : List Nat) (l' : List Oper) {R : Exit → Act → World → Prop} {a : Act} {w : World} (hm : P.follows .mixedOrders = true)
    (hl : opsOf l.toArray ord = l') (hc : lexB P l.toArray ord = true) (hs : ssaB l.toArray l' = true)
    (h : ∀ K : Act → World → Prop, (∀ a w, plainB l.toArray l' a = true ∧ R .normal a w → K a w) → wpList P l.toArray (Exit.then K (fun _ _ _ => False)) l' a w.drew) : (Code.region id l.toArray true).wp P R a w := by
  have h := h _ (fun _ _ h => h)
  refine wp_region_any hm ?_
  simp only [lexB, Bool.and_eq_true, List.all_eq_true, beq_iff_eq, decide_eq_true_eq, List.contains_iff_mem, List.mem_range] at hc
  obtain ⟨⟨⟨⟨hlen, hns⟩, hok⟩, hmem⟩, hpr⟩ := hc
  have hms : ∀ k j, ((masks l.toArray.toList []).getD k 0).testBit j = true → Reach l.toArray k j :=
    masks_spec _ _ (fun j => by simp) (fun k j hk => by simp at hk)
  subst hl
  refine hlen ▸ main_any (Q := fun a w => plainB l.toArray (opsOf l.toArray ord) a = true ∧ R .normal a w) hms hns (fun a w hh => hh.2) ord.length ord (Array.replicate l.toArray.size false) a w.drew rfl (fun i => ?_) (by simp) (fun i o _ hi => ?_) (fun i hi o ho => ?_) (pairsB_spec hpr) ?_
  · constructor
    · intro hi
      have := (hok i hi).1
      have h2 : i < l.length := by simpa using this
      exact ⟨this, by simp [h2]⟩
    · rintro ⟨h1, _⟩
      exact hmem i h1
  · simp [Array.getElem?_replicate] at hi
    split at hi <;> simp at hi
  · have := (hok i hi).2
    rw [ho] at this
    simp only [Bool.and_eq_true, Bool.not_eq_true', List.all_eq_true, decide_eq_true_eq] at this
    exact ⟨this.1, fun e he => this.2 e (by simpa using he)⟩
  · exact list_run (fun a w hh => hh.1) _ _ _ (fun o ho => ho) hs h
theorem opsOf_range (l : List Oper) : opsOf l.toArray (List.range l.length) = l := by
  unfold opsOf
  have : ∀ (n : Nat), n ≤ l.length → (List.range n).filterMap (fun i => l.toArray[i]?) = l.take n := by
    intro n
    induction n with
    | zero => intro _; simp
    | succ n ih =>
      intro hn
      rw [List.range_succ, List.filterMap_append, ih (by omega)]
      have hn' : l.toArray[n]? = some (l[n]'(by omega)) := by simp
      rw [List.filterMap_cons_some hn', List.filterMap_nil]
      rw [List.take_succ_eq_append_getElem (by omega)]
  rw [this l.length (Nat.le_refl _), List.take_length]
/-- A REGION THAT DRAWS ITS ORDER, walked in the text's order. -/
theorem wp_region_text {id : Nat} {l : List Oper} {R : Exit → Act → World → Prop} {a : Act} {w : World} (hm : P.follows .mixedOrders = true)
    (hc : lexB P l.toArray (List.range l.length) = true) (hs : ssaB l.toArray l = true)
    (h : ∀ K : Act → World → Prop, (∀ a w, plainB l.toArray l a = true ∧ R .normal a w → K a w) → wpList P l.toArray (Exit.then K (fun _ _ _ => False)) l a w.drew) : (Code.region id l.toArray true).wp P R a w :=
  wp_region_ord (List.range l.length) l hm (opsOf_range l) hc hs h
/-- As wp_region_text; what the kernel decides need not be typed. -/
theorem wp_rt {id : Nat} {l : List Oper} {R : Exit → Act → World → Prop} {a : Act} {w : World}
    (h : ∀ K : Act → World → Prop, (∀ a w, plainB l.toArray l a = true ∧ R .normal a w → K a w) → wpList P l.toArray (Exit.then K (fun _ _ _ => False)) l a w.drew)
    (hm : P.follows .mixedOrders = true := by kernel_rfl) (hc : lexB P l.toArray (List.range l.length) = true := by kernel_rfl) (hs : ssaB l.toArray l = true := by kernel_rfl) : (Code.region id l.toArray true).wp P R a w :=
  wp_region_text hm hc hs h
theorem pz0 {α : Type _} {l : List α} {i : Nat} {a : α} : l.toArray.setIfInBounds i a = (l.set i a).toArray := List.setIfInBounds_toArray ..
theorem pz1 {α : Type _} {x a : α} {xs : List α} : (x :: xs).set 0 a = a :: xs := rfl
theorem pz2 {α : Type _} {x a : α} {xs : List α} {i : Nat} : (x :: xs).set (i + 1) a = x :: xs.set i a := rfl
theorem pz3 {α : Type _} {l : List α} {i : Nat} (h : i < l.toArray.size) : l.toArray[i] = l[i]'(by simpa using h) := List.getElem_toArray ..
theorem pz4 {α : Type _} {x : α} {xs : List α} (h : 0 < (x :: xs).length) : (x :: xs)[0] = x := rfl
theorem pz5 {α : Type _} {x : α} {xs : List α} {i : Nat} (h : i + 1 < (x :: xs).length) : (x :: xs)[i + 1] = xs[i]'(by simpa using h) := rfl
end
end Go.Proofs.YtpfmjagbjdkdcaaGreatDoor
