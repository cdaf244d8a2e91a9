/- Texts of one proof, joined. -/
import Derived.Test.YtlfinaeklaimjaaGreatDoorSN07
import Derived.Test.YtlfinaeklaimjaaGreatDoorSN08
import Derived.Test.YtlfinaeklaimjaaGreatDoorSN09
set_option linter.unusedSimpArgs false
set_option linter.unusedVariables false
namespace Go.Proofs.YtlfinaeklaimjaaGreatDoor
noncomputable section
end
end Go.Proofs.YtlfinaeklaimjaaGreatDoor
namespace Go.Proofs.YtlfinaeklaimjaaGreatDoor.Am
noncomputable section
open Go.Proofs.YtlfinaeklaimjaaGreatDoor Go.RowKit
def mEq : List (Value × Value × Nat) → List (Value × Value × Nat) → Bool
  | [], [] => true
  | a :: l, b :: m => veq 60 a.1 b.1 && veq 60 a.2.1 b.2.1 && Nat.beq a.2.2 b.2.2 && mEq l m
  | _, _ => false
def oEq : AObj → AObj → Bool
  | .cells a t z s, .cells b u y r => veqL (veq 60) a b && Nat.beq t u && Nat.beq z.1 y.1 && Nat.beq z.2 y.2 && Nat.beq s r
  | .map a c, .map b d => mEq a b && Nat.beq c d
  | _, _ => false
theorem mEq_ok : ∀ a b, mEq a b = true → a = b
  | [], [], _ => rfl
  | [], _ :: _, h => by cases h
  | _ :: _, [], h => by cases h
  | a :: l, b :: m, h => by
    simp only [mEq, Bool.and_eq_true] at h
    obtain ⟨⟨⟨h1, h2⟩, h3⟩, h4⟩ := h
    obtain ⟨a1, a2, a3⟩ := a
    obtain ⟨b1, b2, b3⟩ := b
    simp only at h1 h2 h3
    rw [veq_ok 60 _ _ h1, veq_ok 60 _ _ h2, beq_t h3, mEq_ok l m h4]
theorem veqL60 : ∀ a b, veqL (veq 60) a b = true → a = b
  | [], [], _ => rfl
  | [], _ :: _, h => by cases h
  | _ :: _, [], h => by cases h
  | a :: l, b :: m, h => by
    simp only [veqL, Bool.and_eq_true] at h
    rw [veq_ok 60 _ _ h.1, veqL60 l m h.2]
theorem oEq_ok {a b : AObj} (h : oEq a b = true) : a = b := by
  unfold oEq at h
  split at h
  · rename_i a t z s b u y r
    simp only [Bool.and_eq_true] at h
    obtain ⟨⟨⟨⟨h1, h2⟩, h3⟩, h4⟩, h5⟩ := h
    obtain ⟨z1, z2⟩ := z
    obtain ⟨y1, y2⟩ := y
    rw [veqL60 _ _ h1, beq_t h2, show z1 = y1 from beq_t h3, show z2 = y2 from beq_t h4, beq_t h5]
  · simp only [Bool.and_eq_true] at h
    rw [mEq_ok _ _ h.1, beq_t h.2]
  · cases h
def isO (x : Option AObj) (o : AObj) : Bool :=
  match x with
  | some p => oEq p o
  | none => false
theorem isO_ok {x : Option AObj} {o : AObj} (h : isO x o = true) : x = some o := by
  unfold isO at h
  split at h
  · rw [oEq_ok h]
  · cases h
def restr (A : AS) : List Nat → HT AObj
  | [] => .nil
  | k :: r => match A.h.get k with
    | some o => HT.set 64 (restr A r) k (some o)
    | none => restr A r
def addH (h : HT AObj) : List (Nat × AObj) → HT AObj
  | [] => h
  | p :: r => HT.set 64 (addH h r) p.1 (some p.2)
section
variable {base gm : Nat} {f : Ren} {A : AS} {w : World}
theorem restr_get (hlt : ∀ k o, A.h.get k = some o → k < 10000000000) : ∀ (ks : List Nat) (k : Nat) (o : AObj), (restr A ks).get k = some o → A.h.get k = some o ∧ k ∈ ks
  | [], k, o, h => by cases h
  | j :: r, k, o, h => by
    unfold restr at h
    split at h
    · rename_i p hp
      have hj := hlt j p hp
      rw [HT.get_set 64 _ j k _ (Nat.lt_trans (by omega : j + 1 < 10000000002) (by decide))] at h
      by_cases e : k = j
      · subst e
        rw [if_pos rfl] at h
        cases h
        exact ⟨hp, by simp⟩
      · rw [if_neg e] at h
        obtain ⟨h1, h2⟩ := restr_get hlt r k o h
        exact ⟨h1, by simp [h2]⟩
    · obtain ⟨h1, h2⟩ := restr_get hlt r k o h
      exact ⟨h1, by simp [h2]⟩
theorem addH_get (h : HT AObj) : ∀ (N : List (Nat × AObj)) (k : Nat) (o : AObj), (∀ p ∈ N, p.1 < 10000000000) → (addH h N).get k = some o → (∃ p ∈ N, p.1 = k ∧ p.2 = o) ∨ h.get k = some o
  | [], k, o, _, e => .inr e
  | p :: r, k, o, hN, e => by
    have hp := hN p (by simp)
    rw [addH, HT.get_set 64 _ p.1 k _ (Nat.lt_trans (by omega : p.1 + 1 < 10000000002) (by decide))] at e
    by_cases c : k = p.1
    · rw [if_pos c] at e
      cases e
      exact .inl ⟨p, by simp, c.symm, rfl⟩
    · rw [if_neg c] at e
      rcases addH_get h r k o (fun q hq => hN q (by simp [hq])) e with ⟨q, h1, h2⟩ | h1
      · exact .inl ⟨q, by simp [h1], h2⟩
      · exact .inr h1
theorem WR.restr (hW : WR base gm f A w) (ks : List Nat) : WR base gm f ⟨Am.restr A ks, A.nx⟩ w := by
  have hs : ∀ k o, (Am.restr A ks).get k = some o → A.h.get k = some o := fun k o h => (restr_get (fun k o h => Nat.lt_trans (hW.lt k o h) hW.nb) ks k o h).1
  exact ⟨fun k o h => hW.ob k o (hs k o h), fun k1 k2 o1 o2 l1 l2 h1 h2 => hW.inj k1 k2 o1 o2 l1 l2 (hs _ _ h1) (hs _ _ h2), fun k o l h => hW.low k o l (hs k o h), fun k o h => hW.lt k o (hs k o h), hW.fr, fun k o h => hW.gl k o (hs k o h), hW.gm, hW.sz, hW.nb⟩
end
def chkJ (A : AS) (ks : List Nat) (N : List (Nat × AObj)) (v1 : Value) (nx1 : Nat) (v : Value) (A' : AS) : Bool :=
  veq 60 v v1 && Nat.ble A'.nx nx1 && ks.all (fun k => match A.h.get k with
    | some o => isO (A'.h.get k) o
    | none => true) && N.all (fun p => isO (A'.h.get p.1) p.2)
def orcJ (P : Program) (gm : Nat) (g0 : FuncId) (hint : List Value → AS → Option (List Nat × List (Nat × AObj) × Value × Nat)) (orc : Orc) (n : Nat) : Orc := fun g args A =>
  match Nat.beq g g0, hint args A with
  | true, some (ks, N, v1, nx1) => match Nat.ble A.nx nx1 && Nat.blt nx1 10000000000 && N.all (fun p => Nat.ble A.nx p.1 && Nat.blt p.1 nx1) && callK P gm orc (runK P gm orc n) g args ⟨restr A ks, A.nx⟩ (chkJ A ks N v1 nx1) with
    | true => some (v1, ⟨addH A.h N, nx1⟩)
    | false => none
  | _, _ => none
theorem orcJ_ok {P : Program} {base gm : Nat} {g0 : FuncId} {hint : List Value → AS → Option (List Nat × List (Nat × AObj) × Value × Nat)} {orc : Orc} {n : Nat} (hmix : P.follows .mixedOrders = true) (hgb : gm ≤ base) (horc : OrcOk P base gm orc)
    (hnum : ∀ (g : Nat) fn, P.funcs[g]? = some fn → fn.name ≠ "runtime.NumGoroutine") (hbody : ∃ fn c, P.funcs[g0]? = some fn ∧ fn.body = some c) : OrcOk P base gm (orcJ P gm g0 hint orc n) := by
  intro g args args' v A A1 f w h hW ha
  unfold orcJ at h
  split at h
  · rename_i ks N v1 nx1 hg hh
    split at h
    · rename_i hck
      cases h
      obtain rfl : g = g0 := beq_t hg
      simp only [Bool.and_eq_true] at hck
      obtain ⟨⟨⟨c1, c2⟩, c3⟩, c4⟩ := hck
      have c1 := Nat.le_of_ble_eq_true c1
      have c2 := blt_lt c2
      have c3 : ∀ p ∈ N, A.nx ≤ p.1 ∧ p.1 < nx1 := fun p hp => by
        have := List.all_eq_true.1 c3 p hp
        simp only [Bool.and_eq_true] at this
        exact ⟨Nat.le_of_ble_eq_true this.1, blt_lt this.2⟩
      have hW0 := hW.restr ks
      have hlt : ∀ k o, A.h.get k = some o → k < 10000000000 := fun k o h => Nat.lt_trans (hW.lt k o h) hW.nb
      obtain ⟨_, h2⟩ := callK_ok (runK_ok hmix hgb horc hnum n) horc hnum hW0 ha c4
      refine ⟨hbody, h2.mono fun e w' ⟨f', v, v', A', he, hS, hv, hk⟩ => ?_⟩
      unfold chkJ at hk
      simp only [Bool.and_eq_true] at hk
      obtain ⟨⟨⟨d1, d2⟩, d3⟩, d4⟩ := hk
      obtain rfl := veq_ok 60 _ _ d1
      have d2 := Nat.le_of_ble_eq_true d2
      have d3 : ∀ k o, k ∈ ks → A.h.get k = some o → A'.h.get k = some o := fun k o hk ho => by
        have := List.all_eq_true.1 d3 k hk
        rw [ho] at this
        exact isO_ok this
      have d4 : ∀ p ∈ N, A'.h.get p.1 = some p.2 := fun p hp => isO_ok (List.all_eq_true.1 d4 p hp)
      have hN : ∀ p ∈ N, p.1 < 10000000000 := fun p hp => Nat.lt_trans (c3 p hp).2 c2
      have hle := hS.le hW0
      have hren : ∀ k, k < A.nx → f' k = f k := fun k hk => hS.ren k hk
      have get : ∀ k o, (addH A.h N).get k = some o → (A.nx ≤ k ∧ k < nx1 ∧ A'.h.get k = some o) ∨ (k < A.nx ∧ A.h.get k = some o) := fun k o h => by
        rcases addH_get A.h N k o hN h with ⟨p, hp, rfl, rfl⟩ | h
        · exact .inl ⟨(c3 p hp).1, (c3 p hp).2, d4 p hp⟩
        · exact .inr ⟨hW.lt k o h, h⟩
      have im0 : ∀ b, Im gm f ⟨restr A ks, A.nx⟩ b → Im gm f A b := fun b ⟨k, o, l, h1, h2, h3, h4⟩ => ⟨k, o, l, h1, (restr_get hlt ks k o h2).1, h3, h4⟩
      have newb : ∀ k o l, A.nx ≤ k → A'.h.get k = some o → f' k = some l → w.heap.size ≤ l.blk ∨ ∃ k3 o3 l3, k3 ∈ ks ∧ A.h.get k3 = some o3 ∧ f k3 = some l3 ∧ l3.blk = l.blk := fun k o l hk ho hl => by
        rcases hS.im l.blk ⟨k, o, l, Nat.le_trans hW.gm hk, ho, hl, rfl⟩ with h1 | ⟨k3, o3, l3, _, h3, h4, h5⟩
        · exact .inl h1
        · obtain ⟨h6, h7⟩ := restr_get hlt ks k3 o3 h3
          exact .inr ⟨k3, o3, l3, h7, h6, h4, h5⟩
      have cross : ∀ k1 k2 o1 o2 l1 l2, k1 < A.nx → A.h.get k1 = some o1 → A.nx ≤ k2 → A'.h.get k2 = some o2 → f' k1 = some l1 → f' k2 = some l2 → l1.blk = l2.blk → k1 = k2 := fun k1 k2 o1 o2 l1 l2 h1 h2 h3 h4 e1 e2 e => by
        have e1' := e1
        rw [hren k1 h1] at e1'
        obtain ⟨l, e3, hob⟩ := hW.ob k1 o1 h2
        rw [e1'] at e3
        cases e3
        rcases newb k2 o2 l2 h3 h4 e2 with h5 | ⟨k3, o3, l3, h5, h6, h7, h8⟩
        · have := hob.lt; omega
        · obtain rfl := hW.inj k1 k3 o1 o3 l1 l3 h2 h6 e1' h7 (by rw [e, h8])
          exact hS.wr.inj k1 k2 o1 o2 l1 l2 (d3 k1 o1 h5 h2) h4 e1 e2 e
      refine ⟨f', v', he, ⟨hren, c1, hS.chg.mono fun b _ hb => im0 b hb, fun b ⟨k, o, l, h1, h2, h3, h4⟩ => ?_, ?_⟩, hv⟩
      · rcases get k o h2 with ⟨h5, _, h6⟩ | ⟨h5, h6⟩
        · rcases hS.im b ⟨k, o, l, h1, h6, h3, h4⟩ with h7 | h7
          · exact .inl h7
          · exact .inr (im0 b h7)
        · exact .inr ⟨k, o, l, h1, h6, by rw [← hren k h5]; exact h3, h4⟩
      · refine ⟨fun k o h => ?_, fun k1 k2 o1 o2 l1 l2 h1 h2 e1 e2 e => ?_, fun k o l h e hgk => ?_, fun k o h => ?_, fun k hk => ?_, fun k o h hk => ?_, Nat.le_trans hW.gm c1, hS.wr.sz, c2⟩
        · rcases get k o h with ⟨_, _, h6⟩ | ⟨h5, h6⟩
          · exact hS.wr.ob k o h6
          · by_cases hks : k ∈ ks
            · exact hS.wr.ob k o (d3 k o hks h6)
            · obtain ⟨l, e1, hob⟩ := hW.ob k o h6
              refine ⟨l, by rw [hren k h5]; exact e1, hob.mono hle (hS.chg.block l.blk hob.lt fun ⟨k3, o3, l3, _, h7, h8, h9⟩ => ?_)⟩
              obtain ⟨h10, h11⟩ := restr_get hlt ks k3 o3 h7
              obtain rfl := hW.inj k k3 o o3 l l3 h6 h10 e1 h8 h9.symm
              exact hks h11
        · rcases get k1 o1 h1 with ⟨a1, _, a2⟩ | ⟨a1, a2⟩
          · rcases get k2 o2 h2 with ⟨b1, _, b2⟩ | ⟨b1, b2⟩
            · exact hS.wr.inj k1 k2 o1 o2 l1 l2 a2 b2 e1 e2 e
            · exact (cross k2 k1 o2 o1 l2 l1 b1 b2 a1 a2 e2 e1 e.symm).symm
          · rcases get k2 o2 h2 with ⟨b1, _, b2⟩ | ⟨b1, b2⟩
            · exact cross k1 k2 o1 o2 l1 l2 a1 a2 b1 b2 e1 e2 e
            · rw [hren k1 a1] at e1
              rw [hren k2 b1] at e2
              exact hW.inj k1 k2 o1 o2 l1 l2 a2 b2 e1 e2 e
        · rcases get k o h with ⟨_, _, h6⟩ | ⟨h5, h6⟩
          · exact hS.wr.low k o l h6 e hgk
          · rw [hren k h5] at e
            exact hW.low k o l h6 e hgk
        · rcases get k o h with ⟨_, h5, _⟩ | ⟨h5, _⟩
          · exact h5
          · show k < nx1; omega
        · exact hS.wr.fr k (Nat.le_trans d2 hk)
        · rcases get k o h with ⟨h5, _, _⟩ | ⟨h5, h6⟩
          · have := hW.gm; omega
          · rw [hren k h5]
            exact hW.gl k o h6 hk
    · cases h
  · cases h
end
end Go.Proofs.YtlfinaeklaimjaaGreatDoor.Am
namespace Go.Proofs.YtlfinaeklaimjaaGreatDoor
noncomputable section
end
end Go.Proofs.YtlfinaeklaimjaaGreatDoor
namespace Go.Proofs.YtlfinaeklaimjaaGreatDoor.Am
noncomputable section
open Go.Proofs.YtlfinaeklaimjaaGreatDoor Go.RowKit
def sv (l : List UInt8) : Value := .string ⟨l.toArray⟩
def hintI : List Value → AS → Option (List Nat × List (Nat × AObj) × Value × Nat) := fun args A => match args with
  | [.slice (some ⟨k, 0, some 0⟩) 1 1] => match A.h.get k with
    | some (.cells [_, _, .slice (some ⟨k2, 0, some 0⟩) 1 1] _ _ _) =>
      some ([k, k2], [(A.nx + 317, .cells [sv [109, 115, 103, 58, 120], sv [109, 115, 103, 58, 121]] 9 (0, 0) 1),
        (A.nx, .map [(sv [109, 115, 103, 58, 120], .slice (some ⟨A.nx + 296, 0, some 0⟩) 1 1, 0), (sv [109, 115, 103, 58, 121], .slice (some ⟨A.nx + 312, 0, some 0⟩) 1 1, 1)] 2),
        (A.nx + 296, .cells [.int .i64 0, .slice (some ⟨A.nx + 119, 0, none⟩) 1 1] 147 (0, 0) 2), (A.nx + 312, .cells [.int .i64 0, .slice (some ⟨A.nx + 123, 0, none⟩) 1 1] 147 (0, 0) 2),
        (A.nx + 119, .cells [.int .i64 0] 3 (0, 0) 0), (A.nx + 123, .cells [.int .i64 1] 3 (0, 0) 0)],
        .tuple #[.slice (some ⟨A.nx + 317, 0, some 0⟩) 2 2, .map (some A.nx)], A.nx + 500)
    | _ => none
  | _ => none
noncomputable def orcS0 : Orc := orcOr orcC (orcOr orcI (orcOr cmpO (orcOr (ccO (1 + 1)) nmO)))
theorem orcS0_ok {base : Nat} : OrcOk Tryz.prog base (1 + 1) orcS0 := orcOr_ok orcC_ok (orcOr_ok orcI_ok (orcOr_ok cmpO_ok (orcOr_ok ccO_ok nmO_ok)))
noncomputable def orcS : Orc := orcOr (orcJ Tryz.prog (1 + 1) 212 hintI orcS0 2000) orcS0
theorem orcS_ok {base : Nat} (hb : 1 + 1 ≤ base) : OrcOk Tryz.prog base (1 + 1) orcS := orcOr_ok (orcJ_ok (by kernel_rfl) hb orcS0_ok noNum ⟨_, _, Tryz.func212, rfl⟩) orcS0_ok
end
end Go.Proofs.YtlfinaeklaimjaaGreatDoor.Am
namespace Go.Proofs.YtlfinaeklaimjaaGreatDoor
noncomputable section
end
end Go.Proofs.YtlfinaeklaimjaaGreatDoor
namespace Go.Proofs.YtlfinaeklaimjaaGreatDoor.Am
noncomputable section
open Go.Proofs.YtlfinaeklaimjaaGreatDoor Go.RowKit
section
variable (P : Program) (gm : Nat) (orc : Orc) (rec : Rec)
def opG (o : Oper) (st : St) (ih : St → Kt → Bool) (k : Kt) : Bool :=
  match fltR o.op P (evA st.a.t) o st.A.nx st.A.h with
  | some (v, ob) => ih ⟨st.a.put o.dst v, bump st.A st.A.nx ob⟩ k
  | none => effR o.op P gm orc rec (evA st.a.t) st.A fun v A => ih ⟨st.a.put o.dst v, A⟩ k
def chkG (o : Oper) (st : St) : Bool := (opdsR o.op).all (opdOk gm st.A.h) && dstOk st.a.n o && Nat.blt st.A.nx 1000000000
def textR (all : List Oper) (l : List Oper) : St → Kt → Bool :=
  List.rec (motive := fun _ => St → Kt → Bool) (fun st k => k .normal st) (fun o _ ih st k => Bool.rec (motive := fun _ => Bool) false
    (Bool.rec (motive := fun _ => Bool) (ih ⟨st.a.put o.dst undef, st.A⟩ k) (opG P gm orc rec o st ih k) (wantA st.a.t all o)) (chkG gm o st)) l
theorem textR_eq (all : List Oper) : ∀ (l : List Oper) (st : St) (k : Kt), textR P gm orc rec all l st k = textK P gm orc rec all l st k
  | [], _, _ => rfl
  | o :: os, st, k => by
    have ih : textR P gm orc rec all os = textK P gm orc rec all os := by funext st k; exact textR_eq all os st k
    rw [textK, ← ih]
    show Bool.rec (motive := fun _ => Bool) false (Bool.rec (motive := fun _ => Bool) (textR P gm orc rec all os ⟨st.a.put o.dst undef, st.A⟩ k) (opG P gm orc rec o st (textR P gm orc rec all os) k) (wantA st.a.t all o)) (chkG gm o st) = _
    unfold opG chkG
    cases (opdsR o.op).all (opdOk gm st.A.h) && dstOk st.a.n o && Nat.blt st.A.nx 1000000000 <;> cases wantA st.a.t all o <;> rfl
end
abbrev CT := Program → Nat → Orc → Rec → Option Nat → St → Kt → Bool
def seqG (rk : Rec) (rd : Option Nat) (b : Code) (k : Kt) : Kt := fun e st => match e with
  | .normal => rk rd b st k
  | e => k e st
def condG (gm : Nat) (rk : Rec) (rd : Option Nat) (c : Operand) (x y : Code) (st : St) (k : Kt) : Bool :=
  match opdOk gm st.A.h c, evA st.a.t c with
  | true, .bool true => rk rd x st k
  | true, .bool false => rk rd y st k
  | _, _ => false
def blockG (id : Nat) (k : Kt) : Kt := fun e st => match e with
  | .exit i => match Nat.beq i id with
    | true => k .normal st
    | false => k (.exit i) st
  | e => k e st
def scopeG (k : Kt) : Kt := fun e st => match e with
  | .goto _ => false
  | e => k e st
def codeR (c : Code) : CT :=
  Code.rec (motive := fun _ => CT) (fun _ _ _ _ _ st k => k .normal st)
    (fun _ ops draw => fun P gm orc rk _ st k => Bool.rec (motive := fun _ => Bool) (textR P gm orc rk ops.toList ops.toList st k) (drawK P gm orc rk ops.toList st k) draw)
    (fun a b _ _ => fun _ _ _ rk rd st k => rk rd a st (seqG rk rd b k))
    (fun c x y _ _ => fun _ gm _ rk rd st k => condG gm rk rd c x y st k)
    (fun id b _ => fun _ _ _ rk rd st k => rk rd b st (blockG id k))
    (fun b _ => fun _ _ _ rk rd st k => rk rd b st (seqG rk rd (.loop b) k))
    (fun g ps q b _ _ => fun P gm orc rk rd st k => rangeK P gm orc rk rd g ps q b st k)
    (fun id => fun _ _ _ _ _ st k => k (.exit id) st)
    (fun b _ => fun _ _ _ rk rd st k => rk rd b st (scopeG k))
    (fun _ => fun _ _ _ _ _ st k => k .normal st)
    (fun l => fun _ _ _ _ _ st k => k (.goto l) st)
    (fun _ _ _ _ _ st k => k .ret st)
    (fun _ => fun _ _ _ _ _ _ _ => false) c
def runR (P : Program) (gm : Nat) (orc : Orc) (n : Nat) : Rec :=
  Nat.rec (motive := fun _ => Rec) (fun _ _ _ _ => false) (fun _ ih rd c st k => codeR c P gm orc ih rd st k) n
theorem runR_eq (P : Program) (gm : Nat) (orc : Orc) : ∀ n, runR P gm orc n = runK P gm orc n
  | 0 => by funext rd c st k; rfl
  | n + 1 => by
    have ih := runR_eq P gm orc n
    funext rd c st k
    show codeR c P gm orc (runR P gm orc n) rd st k = _
    rw [ih]
    cases c with
    | region i ops draw =>
      cases draw with
      | true => rfl
      | false => exact textR_eq P gm orc (runK P gm orc n) ops.toList ops.toList st k
    | seq a b => rfl
    | cond c x y => rfl
    | block i b => rfl
    | loop b => rfl
    | rangeFunc g ps q b => rfl
    | scope b => rfl
    | _ => rfl
section
variable {P : Program} {orc : Orc} {base gm : Nat} {f : Ren} {w : World}
theorem startR_ok (hmix : P.follows .mixedOrders = true) (hgb : gm ≤ base) (horc : OrcOk P base gm orc) (hnum : ∀ (g : Nat) fn, P.funcs[g]? = some fn → fn.name ≠ "runtime.NumGoroutine") {n : Nat} {g : FuncId} {h : HT AObj} {nx : Nat}
    (hW : WR base gm f ⟨h, nx⟩ w) (hb : w.heap.size ≤ base) {args args' : List Value} (ha : LR f args args') (hs : callK P gm orc (runR P gm orc n) g args ⟨h, nx⟩ bK = true) : CallsIn Fence.wide 0 P g args'.toArray w fun e w' => e = .returned (.bool true) ∧ Ext w w' := by
  rw [runR_eq] at hs
  exact startA_ok hmix hgb horc hnum hW hb ha hs
end
end
end Go.Proofs.YtlfinaeklaimjaaGreatDoor.Am
namespace Go.Proofs.YtlfinaeklaimjaaGreatDoor
noncomputable section
end
end Go.Proofs.YtlfinaeklaimjaaGreatDoor
