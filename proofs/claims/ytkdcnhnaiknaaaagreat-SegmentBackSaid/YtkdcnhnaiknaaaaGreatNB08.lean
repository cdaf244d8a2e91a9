/- loggia/frame: Join of payloads that are small; event.Put. -/
import Derived.Test.YtkdcnhnaiknaaaaGreatNB07
import Derived.Deep.CutRange
import Derived.Deep.DeepCutAuto
import Derived.Test.YtkdcnhnaiknaaaaGreatNB04
import Derived.Test.YtkdcnhnaiknaaaaGreatNB05
import Derived.Test.YtkdcnhnaiknaaaaGreatNB02
import Derived.RangeFuncNested
import Derived.RangeFuncBound
import Derived.RangeFuncCalls
import Derived.RangeFuncLeaves
import Derived.WalkKit
import Derived.OwnWalkIn
import Derived.TacticsInMore
import Derived.LoopNIn
import Derived.LoopIn
import Derived.Shelf.Abstract
set_option linter.unusedSimpArgs false
set_option linter.unusedVariables false
namespace Go.Proofs.YtkdcnhnaiknaaaaGreat
open Go.RowKit

/-- Payloads' frames. -/
def joinL (ps : List (List UInt8)) : List UInt8 := ps.flatMap frameL
theorem frameL_len {p : List UInt8} (h : p.length ≤ 16777216) : (frameL p).length ≤ p.length + 20 := by
  have h1 := vb_len10 (n := p.length) (by omega)
  have h2 : (be4 (cnext 0 (vb p.length ++ p))).length = 4 := rfl
  unfold frameL
  rw [List.length_append, List.length_append, h2]
  omega
theorem joinL_len : ∀ {ps : List (List UInt8)}, (∀ p ∈ ps, p.length ≤ 16777216) → (joinL ps).length ≤ 16777236 * ps.length
  | [], _ => by simp [joinL]
  | p :: ps, h => by
    have h1 := frameL_len (h p (List.mem_cons_self ..))
    have h2 := joinL_len (ps := ps) fun q hq => h q (List.mem_cons_of_mem _ hq)
    have h3 := h p (List.mem_cons_self ..)
    show (frameL p ++ joinL ps).length ≤ _
    rw [List.length_append, List.length_cons]
    omega
theorem joinL_snoc {ps : List (List UInt8)} {i : Nat} {p : List UInt8} (h : ps[i]? = some p) : joinL (ps.take (i + 1)) = joinL (ps.take i) ++ frameL p := by
  unfold joinL
  rw [List.take_add_one, h, List.flatMap_append]
  simp
def OkB' (w : World) (l : List UInt8) (e : Ending) (w' : World) : Prop := ∃ A c, e = .returned (.tuple #[.slice A l.length c, .int .i64 0]) ∧ Own8 w' w.heap.size A l.length c l ∧ Ext w w'
set_option maxRecDepth 100000 in
set_option maxHeartbeats 1000000 in
theorem fjoin_any (B : Option Addr) (k c2 : Nat) (ps : List (Option Addr × Nat × List UInt8)) (w : World) (hk : k = ps.length) (hB : Cells w B (ps.map fun p => .slice p.1 p.2.2.length p.2.1)) (hin : ∀ p ∈ ps, In8 w p.1 p.2.2.length p.2.1 p.2.2 ∧ p.2.2.length ≤ 16777216) (hk9 : k ≤ 50) :
    Calls Tryz.prog 43 #[.slice B k c2] w fun e w' => OkB' w (joinL (ps.map (·.2.2))) e w' := by
  have hput := hide (fun A n c l B m d p W h1 h2 h3 h4 => fput_any A n c l B m d p W h1 h2 h3 h4)
  obtain ⟨P, hP⟩ : ∃ P, P = ps.map (·.2.2) := ⟨_, rfl⟩
  rw [← hP]
  have hPs : ∀ p ∈ P, p.length ≤ 16777216 := fun p hp => by
    rw [hP] at hp
    obtain ⟨q, hq, rfl⟩ := List.mem_map.1 hp
    exact (hin q hq).2
  have hPl : P.length = k := by rw [hP, List.length_map, hk]
  replace hk := hide hk
  replace hB := hide hB
  replace hin := hide hin
  replace hP := hide hP
  replace hPs := hide hPs
  replace hPl := hide hPl
  go_enter Tryz.func43, Tryz.ntmps43
  go_wp2_with fail
  go_loopw [4, 11] (fun s4 s11 wr => ∃ (i n c : Nat) (A : Option Addr), s4 = .slice A n c ∧ s11 = .int .i64 (i : Int) ∧ i ≤ k ∧ n ≤ 16777236 * i ∧ Hid (Own8 wr w.heap.size A n c (joinL (P.take i))) ∧ Hid (Ext w wr)) (fun _ s11 _ => k - (intOf s11).toNat)
  case atStart => exact ⟨0, 0, 0, none, rfl, rfl, by omega, by omega, hide ⟨rfl, Buf.nil _ _ _⟩, hide (Ext.refl w)⟩
  case round =>
    obtain ⟨i, n, c, A, rfl, rfl, hi, hn, ho, hE⟩ := hrel
    by_cases hik : i < k
    · obtain ⟨x, hx⟩ : ∃ x, ps[i]? = some x := ⟨_, List.getElem?_eq_getElem (by rw [← hk.out]; exact hik)⟩
      obtain ⟨g, o, hA, hcl⟩ := hB.out.at_ (by rw [List.length_map, ← hk.out]; omega)
      subst hA
      have hld := hE.out.cell (hcl i _ (by rw [List.getElem?_map, hx]; rfl))
      have hxi := hin.out x (List.mem_of_getElem? hx)
      have hPx : P[i]? = some x.2.2 := by rw [hP.out, List.getElem?_map, hx]; rfl
      have hsn := joinL_snoc hPx
      obtain ⟨XA, xc, xl⟩ := x
      simp only at hld hxi hsn
      have hfl := frameL_len hxi.2
      have hjl := joinL_len (ps := P.take (i + 1)) fun p hp => hPs.out p (List.mem_of_mem_take hp)
      have htl : (P.take (i + 1)).length = i + 1 := by rw [List.length_take, hPl.out]; omega
      rw [htl] at hjl
      obtain ⟨L2, hL2⟩ : ∃ L2, L2 = joinL (P.take (i + 1)) := ⟨_, rfl⟩
      rw [← hL2] at hsn hjl
      have hcp := hput.out A n c (joinL (P.take i)) XA xl.length xc xl wr (by have := ho.out.2.in8; rwa [ho.out.1] at this ⊢) (hxi.1.ext hE.out) (by omega) hxi.2
      rw [← hsn] at hcp
      obtain ⟨m, hm⟩ : ∃ m, m = xl.length := ⟨_, rfl⟩
      rw [← hm] at hcp hld
      have hszw := hE.out.size
      replace hcp := hide hcp
      replace hm := hide hm
      replace hx := hide hx
      replace hxi := hide hxi
      replace hPx := hide hPx
      replace hsn := hide hsn
      replace hL2 := hide hL2
      clear hcl hfl htl
      go_wp2_with fail
      refine hcp.out.mono ?_
      rintro e w2 ⟨A2, c3, rfl, hB2, hE2⟩
      have ho2 : Hid (Own8 w2 w.heap.size A2 L2.length c3 (joinL (P.take (i + 1)))) := hide (by rw [← hL2.out]; exact ⟨rfl, hB2.lower hszw⟩)
      obtain ⟨n2, hn2⟩ : ∃ n2, n2 = L2.length := ⟨_, rfl⟩
      rw [← hn2] at ho2 hjl ⊢
      replace hn2 := hide hn2
      replace hE2 := hide (hE.out.trans hE2)
      clear hB2
      go_wp2_with fail
      exact ⟨⟨i + 1, n2, c3, A2, rfl, rfl, by omega, by omega, ho2, hE2⟩, by simp only [intOf]; omega⟩
    · obtain rfl : i = k := by omega
      have ho2 := ho.out
      rw [List.take_of_length_le (by rw [hPl.out]; exact Nat.le_refl _)] at ho2
      replace ho2 := hide ho2
      go_wp2_with fail
      go_ret2
      have hl := ho2.out.1
      subst hl
      exact ⟨A, c, rfl, ho2.out, hE.out⟩
set_option maxRecDepth 100000 in
set_option maxHeartbeats 1000000 in
theorem evPut_yes (A : Option Addr) (n c : Nat) (l : List UInt8) (e : Ev) (B : Option Addr) (d : Nat) (w : World) (hn : n = l.length) (hl : Bs w A l) (hz : A = none → c = 0) (hle : n ≤ 100000000) (h : e.Ok w B) (hk : checkE e.fs = 0) (ha : I64ok' e.at_) :
    Calls Tryz.prog 133 #[.slice A n c, e.val B d] w fun en w' => OkB' w (l ++ putE e) en w' := by
  obtain ⟨W1, hW1⟩ : ∃ W1, W1 = w.alloc (.cells #[.int .i64 e.at_, .slice B e.fs.length d] 37) := ⟨_, rfl⟩
  obtain ⟨g, hg⟩ : ∃ g, g = w.heap.size := ⟨_, rfl⟩
  have hr : Row W1 g 37 #[.int .i64 e.at_, .slice B e.fs.length d] := by rw [hW1, hg]; exact Row.new w _ _
  have hE1 : Ext w W1 := by rw [hW1]; exact (Ext.refl w).alloc _
  have hck := hide (echeck_any e B d W1 (h.ext hE1))
  rw [hk] at hck
  have hput := hide (fun W (hE : Ext w W) => evput_any A n c l e B d W hn (hl.ext hE) hz hle (h.ext hE) hk ha)
  obtain ⟨L, hL⟩ : ∃ L, L = l ++ putE e := ⟨_, rfl⟩
  rw [← hL] at hput ⊢
  unfold Ev.val at hck hput ⊢
  have k0 := hr.cell 0 rfl
  have k1 := hr.cell 1 rfl
  replace hr := hide hr
  replace hE1 := hide hE1
  replace hW1 := hide hW1
  replace hg := hide hg
  replace hL := hide hL
  replace hk := hide hk
  replace h := hide h
  replace hn := hide hn
  replace hl := hide hl
  clear hz
  go_enter Tryz.func133, Tryz.ntmps133
  go_upto_region 1 with (fail)
  rw [← hW1.out, ← hg.out]
  go_wp2_with fail
  refine hck.out.mono ?_
  rintro en w2 ⟨rfl, hE2⟩
  have r2 := hr.out.ext hE2
  have q0 := r2.cell 0 rfl
  have q1 := r2.cell 1 rfl
  replace r2 := hide r2
  replace hE2 := hide (hE1.out.trans hE2)
  go_wp2_with fail
  refine (hput.out w2 hE2.out).mono ?_
  rintro en w3 hNB
  obtain ⟨A3, c3, rfl, hB3, hE3⟩ := hNB
  have ho := hide (show Own8 w3 w.heap.size A3 L.length c3 L from ⟨rfl, hB3.lower hE2.out.size⟩)
  replace hE3 := hide (hE2.out.trans hE3)
  clear hB3
  go_wp2_with fail
  go_ret2
  exact ⟨A3, c3, rfl, ho.out, hE3.out⟩
end Go.Proofs.YtkdcnhnaiknaaaaGreat

/- A segment's bytes, plainly. -/
namespace Go.Proofs.YtkdcnhnaiknaaaaGreat
open Go.RowKit

/-- Docs' times. -/
def timesD : Int → List Dc → List UInt8
  | _, [] => []
  | a, d :: t => vb (zig (wrap64 (d.2.at_ - a))) ++ timesD d.2.at_ t
def lastAt : Int → List Dc → Int
  | a, [] => a
  | _, d :: t => lastAt d.2.at_ t
def lowD : Int → List Dc → Int
  | m, [] => m
  | m, d :: t => lowD (min m d.2.at_) t
def highD : Int → List Dc → Int
  | m, [] => m
  | m, d :: t => highD (max m d.2.at_) t
/-- What is told of docs. -/
def partD : List Dc → List Int
  | [] => [0, 0, 0, 0, 0]
  | d :: t => [lowD d.2.at_ (d :: t), highD d.2.at_ (d :: t), d.1, lastD d.1 t, ((d :: t).length : Int)]
/-- Where terms stand, doc by doc. -/
def pairsD : Nat → List Dc → List (List UInt8 × Po)
  | _, [] => []
  | i, d :: t => (termsL d.2).map (fun p => (p.1, ((i : Int), p.2))) ++ pairsD (i + 1) t
/-- Rising terms, and their posts. -/
def rowsD (l : List Dc) : List (List UInt8 × List Po) := grp (pairsD 0 l)
def enOf : Nat → List (List UInt8 × List Po) → List En
  | _, [] => []
  | o, r :: t => ⟨r.1, o, (encPs r.2).length, r.2.length⟩ :: enOf (o + (encPs r.2).length) t
def postB (rs : List (List UInt8 × List Po)) : List UInt8 := rs.flatMap fun r => encPs r.2
/-- A segment's frames. -/
def framesD (l : List Dc) : List (List UInt8) := [encDs l, timesD 0 l, postB (rowsD l), encEs (enOf 0 (rowsD l)), ofB ((rowsD l).map (·.1)), vall (partD l)]
def segL (l : List Dc) : List UInt8 := [76, 83, 69, 71] ++ joinL (framesD l)
theorem timesD_app : ∀ (a b : List Dc) (x : Int), timesD x (a ++ b) = timesD x a ++ timesD (lastAt x a) b
  | [], b, x => rfl
  | d :: t, b, x => by
    show _ ++ timesD d.2.at_ (t ++ b) = (_ ++ timesD d.2.at_ t) ++ _
    rw [timesD_app t b, List.append_assoc]
    rfl
theorem lastAt_app : ∀ (a b : List Dc) (x : Int), lastAt x (a ++ b) = lastAt (lastAt x a) b
  | [], b, x => rfl
  | d :: t, b, x => lastAt_app t b d.2.at_
theorem lowD_app : ∀ (a b : List Dc) (x : Int), lowD x (a ++ b) = lowD (lowD x a) b
  | [], b, x => rfl
  | d :: t, b, x => lowD_app t b _
theorem highD_app : ∀ (a b : List Dc) (x : Int), highD x (a ++ b) = highD (highD x a) b
  | [], b, x => rfl
  | d :: t, b, x => highD_app t b _
theorem pairsD_app : ∀ (a b : List Dc) (i : Nat), pairsD i (a ++ b) = pairsD i a ++ pairsD (i + a.length) b
  | [], b, i => rfl
  | d :: t, b, i => by
    show _ ++ pairsD (i + 1) (t ++ b) = (_ ++ pairsD (i + 1) t) ++ _
    rw [pairsD_app t b, List.append_assoc, List.length_cons, show i + 1 + t.length = i + (t.length + 1) by omega]
theorem enOf_app : ∀ (a b : List (List UInt8 × List Po)) (o : Nat), enOf o (a ++ b) = enOf o a ++ enOf (o + (postB a).length) b
  | [], b, o => rfl
  | r :: t, b, o => by
    show _ :: enOf _ (t ++ b) = _ :: enOf _ t ++ _
    rw [enOf_app t b]
    unfold postB
    rw [List.flatMap_cons, List.length_append, Nat.add_assoc]
    rfl
theorem postB_app (a b : List (List UInt8 × List Po)) : postB (a ++ b) = postB a ++ postB b := by unfold postB; rw [List.flatMap_append]
theorem wrap_rng (n : Int) : -9223372036854775808 ≤ wrap64 n ∧ wrap64 n ≤ 9223372036854775807 := by
  unfold wrap64; omega
theorem timesD_len : ∀ (l : List Dc) (a : Int), (timesD a l).length ≤ 10 * l.length
  | [], a => by simp [timesD]
  | d :: t, a => by
    have h1 := timesD_len t d.2.at_
    have h2 := zig_lt (wrap_rng (d.2.at_ - a)).1 (wrap_rng (d.2.at_ - a)).2
    have h3 := vb_len10 h2
    unfold timesD
    rw [List.length_append, List.length_cons]
    omega
end Go.Proofs.YtkdcnhnaiknaaaaGreat

/- A range over a function whose body never leaves the loop: the law; what an iterator promises. -/
namespace Go.Proofs.YtkdcnhnaiknaaaaGreat
open Go.RowKit

theorem wide_depth : Fence.wide.depth = none := rfl
theorem wide_fn (f : FuncId) : Fence.wide.fn f = True := rfl
/-- A block that is no cells, from block B on. -/
def NC (B : Nat) (W : World) (k : Nat) : Prop := B ≤ k ∧ ∃ o, W.heap[k]? = some o ∧ o.isCells = false
theorem NC.not_row {B : Nat} {W : World} {g : Nat} {t : TypeId} {cs : Array Value} (h : Row W g t cs) : ¬ NC B W g := fun ⟨_, o, ho, hc⟩ => by
  unfold Row at h
  rw [h] at ho
  injection ho with ho
  subst ho
  cases hc
/-- Only blocks that are no cells, from B on, have turned. -/
def Alike (B : Nat) (W W' : World) : Prop := Chg (NC B W) W W'
theorem Alike.refl (B : Nat) (W : World) : Alike B W W := Chg.refl _ _
theorem Alike.row {B : Nat} {W W' : World} {g : Nat} {t : TypeId} {cs : Array Value} (h : Alike B W W') (hr : Row W g t cs) : Row W' g t cs := Chg.row h hr (NC.not_row hr)
theorem Alike.ext {B : Nat} {w W W' : World} (h : Alike B W W') (hE : Ext w W) (hB : w.heap.size ≤ B) : Ext w W' := hE.chg h fun i hi hn => by have := hn.1; omega
theorem Alike.owns {B : Nat} {W W' : World} (h : Alike B W W') {base : Nat} {e : TypeId} {size : Nat} {v : Value} {n : Nat} {xs : List Value} (ho : W.ownsRow base e size v n xs) : W'.ownsRow base e size v n xs :=
  Chg.owns h ho fun g hg => by obtain ⟨cur, hr, _⟩ := owns_row ho hg; exact NC.not_row hr
theorem Alike.buf {B : Nat} {W W' : World} (h : Alike B W W') {base : Nat} {e : TypeId} {A : Option Addr} {n c : Nat} {xs : List Value} (hb : Buf W base e A n c xs) : Buf W' base e A n c xs :=
  hb.keep fun g hA => by
    rcases hb.2.2 with ⟨h0, _⟩ | ⟨g', cur, hA', _, hr, _⟩
    · rw [h0] at hA; cases hA
    · rw [hA'] at hA
      cases hA
      exact h.block _ hr.lt (NC.not_row hr)
theorem Alike.others {B : Nat} {W : World} {k : Nat} {o : Obj} (hk : W.heap[k]? = some o) (ho : o.isCells = false) (hB : B ≤ k) (o' : Obj) : Alike B W (W.putObj k o') :=
  ⟨rfl, rfl, rfl, by simp, fun j _ hn => World.putObj_heap_other (fun e => hn ⟨by omega, o, by rw [e]; exact hk, ho⟩)⟩
/-- What an iterator promises to a body that never leaves the loop: J goes on through its own steps (St); each round is handed an element of which Nx is known; Kp: what a round keeps; Fin: what it does behind the last. -/
def Iter {α : Type} (P : Program) (gf : Nat) (lb : Array Value) (encs : α → Array Value) (St : World → World → Prop) (Nx : List α → α → World → Prop) (Kp : World → World → Prop) (Fin : List α → World → World → Prop) (w : World) : Prop :=
  ∀ (l : Nat) (J : List α → World → Prop) (W : World), Ext w W → (∀ pre A B, J pre A → St A B → J pre B) →
    (∀ pre x W1, J pre W1 → Nx pre x W1 → YieldAt Fence.wide 0 P l (encs x) W1 fun e W' => e = .returned (.bool true) ∧ J (pre ++ [x]) W' ∧ Kp W1 W') → J [] W →
    Calls P gf (#[.func (.yield l) #[] #[]] ++ lb) W fun e W' => (∃ v, e = .returned v) ∧ ∃ xs W2, J xs W2 ∧ Fin xs W2 W'
/-- How a round's body is left. -/
def roundDone {α : Type} (Kp : World → World → Prop) (I : List α → World → Prop) (xs : List α) (W : World) : Exit → Act → World → Prop
  | .normal, _, W' => KeepsOthers W W' ∧ Kp W W' ∧ I xs W'
  | _, _, _ => False
/-- How the assignment of the loop's variables is left. -/
def roundGo {α : Type} (B : Nat) (P : Program) (l : Nat) (body : Code) (Kp : World → World → Prop) (I : List α → World → Prop) (xs : List α) (W : World) (a : Act) (W1 : World) : Prop :=
  KeepsOthers W W1 ∧ Kp W W1 ∧ ∀ W2, Alike B W1 W2 → body.wpIn (Fence.wide.inRound l) 0 P (roundDone Kp I xs W2) a W2
theorem range_all {α : Type} {P : Program} {g : Operand} {ps : Array Tmp} {assign body : Code} {Q : Exit → Act → World → Prop} {a : Act} {w : World} {gf : Nat} {lb : Array Value}
    (hg : a.eval g = .func (.func gf) #[] lb) (eg : ∀ args w, (callFunc gf args).run P w = .ok (.enter gf args) w)
    {encs : α → Array Value} {St : World → World → Prop} {Nx : List α → α → World → Prop} {Kp : World → World → Prop} {Fin : List α → World → World → Prop} (hit : Iter P gf lb encs St Nx Kp Fin w)
    (hps : ∀ x, (encs x).size = ps.size) (hSt : ∀ A B, St A B → KeepsOthers A B) (hFin : ∀ xs A B, Fin xs A B → KeepsOthers A B)
    (hKt : ∀ A B C, Kp A B → Kp B C → Kp A C) (hKb : ∀ A B, Alike w.heap.size A B → Kp A B)
    (I : List α → World → Prop) (hI : ∀ pre A B, I pre A → Alike w.heap.size A B → I pre B) (hIs : ∀ pre A B, I pre A → St A B → I pre B) (h0 : ∀ W, Alike w.heap.size w W → I [] W)
    (hround : ∀ (l : Nat) (pre : List α) (x : α) (W : World), I pre W → Nx pre x W → assign.wpIn (Fence.wide.inRound l) 0 P (Exit.then (roundGo w.heap.size P l body Kp I (pre ++ [x]) W) (fun _ _ _ => False)) { tmps := (ps.zip (encs x)).foldl (fun t (p, v) => t.setIfInBounds p v) a.tmps, defers := [] } W)
    (hdone : ∀ (D : Nat) (xs : List α) (W2 W3 W4 : World), w.heap.size ≤ D → I xs W2 → Fin xs W2 W3 → Alike w.heap.size W3 W4 → W4.heap[D]? = some (.deferred (some [])) → Q .normal { a with defers := { target := .collected D, args := #[] } :: a.defers } W4) :
    (Code.rangeFunc g ps assign body).wpIn Fence.wide 0 P Q a w := by
  refine wpIn_rangeFunc ?_
  intro fn hfn
  show ∃ _, _
  obtain ⟨rec, hrec⟩ : ∃ rec : LoopState → Option Code → Loop, rec = fun st pe => { state := st, pending := pe, fn, tmps := a.tmps, params := ps, assign, body, defers := w.heap.size } := ⟨_, rfl⟩
  obtain ⟨W1, hW1⟩ : ∃ W1, (w.alloc (.deferred (some []))).alloc (.loop (rec .ready none)) = W1 := ⟨_, rfl⟩
  have hL1 : W1.heap[w.heap.size + 1]? = some (.loop (rec .ready none)) := by
    rw [← hW1]; have := World.alloc_heap_new (w.alloc (.deferred (some []))) (.loop (rec .ready none)); rwa [World.size_alloc] at this
  have hK1 : W1.heap[w.heap.size]? = some (.deferred (some [])) := by
    rw [← hW1]; exact (Below.heap_alloc _ _ _ (by simp)).trans (World.alloc_heap_new w _)
  have hE1 : Ext w W1 := by rw [← hW1]; exact ((Ext.refl w).alloc _).alloc _
  refine ⟨w.heap.size + 1, [{ target := .collected w.heap.size, args := #[] }], W1, { target := .fn (.func gf) lb, args := #[.func (.yield (w.heap.size + 1)) #[] #[]] }, W1, gf,
    #[.func (.yield (w.heap.size + 1)) #[] #[]] ++ lb, W1, ?_, ?_, ?_, ?_, fun h => (by cases h), ?_⟩
  · rw [← hW1, hrec]; exact run_enterLoop_outer _ _ _ _ _
  · simp only [resolve, hg]
    simp [go_sem]
  · intro f' _; trivial
  · simp [invoke, go_sem, eg]
  · refine callsIn_wide.2 ((hit (w.heap.size + 1)
      (fun pre W => I pre W ∧ W.heap[w.heap.size + 1]? = some (.loop (rec .ready none)) ∧ W.heap[w.heap.size]? = some (.deferred (some [])))
      W1 hE1 (fun pre A B h hs => ⟨hIs pre A B h.1 hs, (hSt A B hs).same _ _ h.2.1 rfl, (hSt A B hs).same _ _ h.2.2 rfl⟩)
      ?_ ⟨h0 W1 (Chg.of_ext hE1 _), hL1, hK1⟩).mono ?_)
    · rintro pre x W ⟨hi, hl, hk⟩ hnx
      have hlt : w.heap.size + 1 < W.heap.size := (Array.getElem?_eq_some_iff.1 hl).1
      have hy := run_yield (P := P) (args := encs x) hl (by rw [hrec]; exact hps x)
      rw [hrec] at hy
      refine ⟨fn, _, assign, body, hy, roundIn_of_wpIn hfn ?_⟩
      refine wpIn_mono (hround _ pre x W hi hnx) ?_
      rintro e a1 W2 hq
      cases e with
      | normal =>
        obtain ⟨hko, hkp, hbody⟩ := hq
        have hl2 := hko.same _ _ hl rfl
        have hk2 := hko.same _ _ hk rfl
        have hlt2 : w.heap.size + 1 < W2.heap.size := (Array.getElem?_eq_some_iff.1 hl2).1
        refine ⟨W2.putObj (w.heap.size + 1) (.loop { rec .ready none with state := .busy }), run_beginRound hl2 (by rw [hrec]), ?_⟩
        have ha := Alike.others (B := w.heap.size) hl2 rfl (by omega) (.loop { rec .ready none with state := .busy })
        have hl3 : (W2.putObj (w.heap.size + 1) (.loop { rec .ready none with state := .busy })).heap[w.heap.size + 1]? = some (.loop { rec .ready none with state := .busy }) := World.putObj_heap_same hlt2
        have hk3 : (W2.putObj (w.heap.size + 1) (.loop { rec .ready none with state := .busy })).heap[w.heap.size]? = some (.deferred (some [])) := (World.putObj_heap_other (by omega)).trans hk2
        refine wpIn_mono (hbody _ ha) ?_
        rintro e a3 W3 hp
        cases e with
        | normal =>
          obtain ⟨hko3, hkp3, hi3⟩ := hp
          have hl4 := hko3.same _ _ hl3 rfl
          have hk4 := hko3.same _ _ hk3 rfl
          have hr := run_endRound (P := P) none hl4
          rw [hrec] at hr
          have ha2 := Alike.others (B := w.heap.size) hl4 rfl (by omega) (.loop (rec .ready none))
          rw [hrec] at ha2
          refine ⟨_, _, hr, rfl, ⟨hI _ _ _ hi3 ha2, ?_, ?_⟩, hKt _ _ _ (hKt _ _ _ hkp (hKb _ _ ha)) (hKt _ _ _ hkp3 (hKb _ _ ha2))⟩
          · rw [hrec]; exact World.putObj_heap_same (Array.getElem?_eq_some_iff.1 hl4).1
          · exact (World.putObj_heap_other (by omega)).trans hk4
        | ret => exact hp.elim
        | exit id => exact hp.elim
        | goto t => exact hp.elim
        | panic ch => exact hp.elim
        | outgrown => exact hp.elim
      | ret => exact hq.elim
      | exit id => exact hq.elim
      | goto t => exact hq.elim
      | panic ch => exact hq.elim
      | outgrown => exact hq.elim
    · rintro e W2 ⟨⟨v, rfl⟩, xs, W3, ⟨hi, hl, hk⟩, hf⟩
      have hl2 := (hFin _ _ _ hf).same _ _ hl rfl
      have hk2 := (hFin _ _ _ hf).same _ _ hk rfl
      refine ⟨none, _, by have := run_endLoop (P := P) hl2 (by rw [hrec]; simp); rw [hrec] at this; exact this, hdone _ xs W3 W2 _ (Nat.le_refl _) hi hf ?_ ((World.putObj_heap_other (by omega)).trans hk2)⟩
      rw [hrec] at hl2
      exact Alike.others hl2 rfl (by omega) _
section
variable {F : Fence} {n : Nat} {P : Program}
/-- 'append' onto a row of the call's own, at the operation, within a fence. -/
theorem wpListIn_app {ops : Array Oper} {rest : List Oper} {o : Oper} {a : Act} {Q : Exit → Act → World → Prop} {w : World} {t e size bytes : Nat} (E : Elem P t e size bytes)
    {base : Nat} {v : Value} {k : Nat} {xs : List Value} {A : Option Addr} {m m' c : Nat} {news : List Value} (hown : w.ownsRow base e size v k xs) (hr : Cells w A news) (s x : Operand)
    (ho : o.op = .call { callee := .builtin .append, args := #[s, x], argTypes := #[t, t] }) (hgd : o.guard = none)
    (hs : a.eval s = v) (hx : a.eval x = .slice A m' c) (hm : m' = m) (hl : news.length = m * size) (h1 : ∀ u ∈ news, u.oneCell' = true) (hsz : k + m ≤ 4294967296) (hbase : base ≤ w.heap.size)
    (h : ∀ A1 c1 w', w'.ownsRow base e size (.slice A1 (k + m) c1) (k + m) (xs ++ news) → w.grownBy w' v.ownBlock → ((Value.slice A1 (k + m) c1).ownBlock = v.ownBlock ∨ (Value.slice A1 (k + m) c1).ownBlock = some w.heap.size) → wpListIn F n P ops Q rest (a.put o.dst (.slice A1 (k + m) c1)) w') : wpListIn F n P ops Q (o :: rest) a w :=
  wpListIn_plain hgd fun K hK => by
    subst hm
    obtain ⟨A1, c1, w', hrun, h2, h3, h4⟩ := run_app (P := P) E w o.type hown (c := c) hr hl h1 hsz hbase
    unfold Oper.wpIn
    refine ⟨by simp [Oper.about, ho, resolve, Target.leads, Sem.run_pure], ?_⟩
    rw [Oper.semAt_plain F _ _ (by rw [ho]; intro c hc'; cases hc')]
    unfold execOp
    simp only [ho, resolve, invoke, builtin, Sem.run_bind, Sem.run_pure, Result.andThen_ok, List.map_toArray, List.map_cons, List.map_nil, hs, hx, hrun]
    exact hK _ _ (h A1 c1 w' h2 h3 h4)
theorem wpListIn_buf {ops : Array Oper} {rest : List Oper} {o : Oper} {a : Act} {Q : Exit → Act → World → Prop} {w : World} {t e bytes : Nat} (E : Elem P t e 1 bytes)
    {base : Nat} {A B : Option Addr} {k c m m' c' : Nat} {xs news : List Value} (hb : Buf w base e A k c xs) (hr : Cells w B news) (s x : Operand)
    (ho : o.op = .call { callee := .builtin .append, args := #[s, x], argTypes := #[t, t] }) (hgd : o.guard = none)
    (hs : a.eval s = .slice A k c) (hx : a.eval x = .slice B m' c') (hm : m' = m) (hl : news.length = m) (h1 : ∀ u ∈ news, u.oneCell' = true) (hsz : k + m ≤ 4294967296) (hbase : base ≤ w.heap.size)
    (h : ∀ A1 c1 w', Buf w' base e A1 (k + m) c1 (xs ++ news) → w.grownBy w' (Value.slice A k c).ownBlock → (∀ w0, Ext w0 w → w0.heap.size ≤ base → Ext w0 w') → (A1 = A ∨ A1 = some ⟨w.heap.size, 0, none⟩) → wpListIn F n P ops Q rest (a.put o.dst (.slice A1 (k + m) c1)) w') : wpListIn F n P ops Q (o :: rest) a w :=
  wpListIn_plain hgd fun K hK => by
    subst hm
    obtain ⟨A1, c1, w', hrun, h2, h3, h4⟩ := run_buf (P := P) E w o.type hb (c' := c') hr hl h1 hsz hbase
    unfold Oper.wpIn
    refine ⟨by simp [Oper.about, ho, resolve, Target.leads, Sem.run_pure], ?_⟩
    rw [Oper.semAt_plain F _ _ (by rw [ho]; intro c hc'; cases hc')]
    unfold execOp
    simp only [ho, resolve, invoke, builtin, Sem.run_bind, Sem.run_pure, Result.andThen_ok, List.map_toArray, List.map_cons, List.map_nil, hs, hx, hrun]
    refine hK _ _ (h A1 c1 w' h2 h3 (fun w0 hE hw => hE.grown h3 fun k hk => ?_) h4)
    have hbl := hb.base_le
    cases A with
    | none => simp [Value.ownBlock] at hk
    | some b =>
      have := hbl b rfl
      simp [Value.ownBlock] at hk
      omega
end
theorem in_round {P : Program} {l n f : Nat} {args : Array Value} {w : World} {R : Ending → World → Prop} (h : Calls P f args w R) : CallsIn (Fence.wide.inRound l) n P f args w R := CallsIn.inRound l (callsIn_wide.2 h)
/-- A function that holds such a loop is left: ahead of the loop; behind it. -/
theorem leave_plain {P : Program} {fn : Func} {R : Ending → World → Prop} {a : Act} {w : World} {v : Value} (hd : a.defers = []) (hr : (results fn a.tmps).run P w = .ok v w) (h : R (.returned v) w) : bodyPostM Fence.wide 0 P fn R .ret a w := by
  show LeavesInM _ _ _ _ _ _ a.defers _ _
  rw [hd]
  exact ⟨v, hr, h⟩
theorem leave_mark {P : Program} {fn : Func} {R : Ending → World → Prop} {a : Act} {w : World} {B D : Nat} (hd : a.defers = [{ target := .collected D, args := #[] }]) (hk : w.heap[D]? = some (.deferred (some []))) (hB : B ≤ D)
    (h : ∀ W, Alike B w W → ∃ v, (results fn a.tmps).run P W = .ok v W ∧ R (.returned v) W) : bodyPostM Fence.wide 0 P fn R .ret a w := by
  show LeavesInM _ _ _ _ _ _ a.defers _ _
  rw [hd]
  exact ⟨by simp, .inl ⟨D, _, rfl, run_takeDeferred hk, h _ (Alike.others hk rfl hB _)⟩⟩
/-- A world that a row's growth left keeps what is no cells. -/
theorem grown_others {w w' : World} {base : Nat} {e : TypeId} {A : Option Addr} {k c : Nat} {xs : List Value} (hb : Buf w base e A k c xs) (hg : w.grownBy w' (Value.slice A k c).ownBlock) : KeepsOthers w w' :=
  KeepsOthers.of_grownBy hg fun j o hj ho => by
    rcases hb.2.2 with ⟨h0, _⟩ | ⟨g', cur, hA', _, hr, _⟩
    · subst h0; simp [Value.ownBlock] at hj
    · subst hA'
      simp [Value.ownBlock] at hj
      subst hj
      unfold Row at hr
      rw [hr] at ho
      injection ho with ho
      subst ho
      rfl
theorem Ext.others {w w' : World} (h : Ext w w') : KeepsOthers w w' := ⟨h.size, fun _ _ hk _ => h.block hk⟩
end Go.Proofs.YtkdcnhnaiknaaaaGreat

/- loggia/posting: steps. -/
namespace Go.Proofs.YtkdcnhnaiknaaaaGreat
open Go.RowKit

/-- Bytes of a call's own, from block base on. -/
def OwnB (w : World) (base : Nat) (l : List UInt8) (e : Ending) (w' : World) : Prop := ∃ A c, e = .returned (.slice A l.length c) ∧ Own8 w' base A l.length c l ∧ Ext w w'
theorem Own8.ext {w w1 : World} {base : Nat} {A : Option Addr} {n c : Nat} {l : List UInt8} (h : Own8 w base A n c l) (hE : Ext w w1) : Own8 w1 base A n c l := ⟨h.1, h.2.ext hE⟩
theorem u64_of {z : Int} {q : Nat} (h : z = (q : Int)) (hq : q < 18446744073709551616) : IntKind.u64.wrap z = (q : Int) := by rw [h]; exact wrap_u64 hq
theorem drop_step {α : Type} {l : List α} {i : Nat} {x : α} (h : l[i]? = some x) : l.drop i = x :: l.drop (i + 1) := by
  obtain ⟨hi, rfl⟩ := List.getElem?_eq_some_iff.1 h
  exact List.drop_eq_getElem_cons hi
theorem risB_cons {n lo x : Int} {t : List Int} (h : risB n lo (x :: t) = true) : lo < x ∧ x < n ∧ risB n x t = true := by
  unfold risB at h
  rw [Bool.and_eq_true, Bool.and_eq_true] at h
  exact ⟨of_decide_eq_true h.1.1, of_decide_eq_true h.1.2, h.2⟩
set_option maxRecDepth 100000 in
set_option maxHeartbeats 1000000 in
theorem steps_any (base : Nat) (A B : Option Addr) (n c k c2 : Nat) (l : List UInt8) (last N : Int) (xs : List Int) (w : World) (hb : Own8 w base A n c l) (hbase : base ≤ w.heap.size) (hk : k = xs.length) (hx : Cells w B (xs.map IV))
    (hr : risB N last xs = true) (hlast : -1 ≤ last) (hlast2 : last ≤ 1099511627776) (hN : N ≤ 1099511627776) (hle : n + 10 * k ≤ 1000000000) :
    Calls Tryz.prog 84 #[.slice A n c, .int .i64 last, .slice B k c2] w fun e w' => OwnB w base (l ++ stepsL last xs) e w' := by
  have hput := hide (fun A n c x l W h1 h2 h3 h4 h5 => put_any A n c x l W h1 h2 h3 h4 h5)
  obtain ⟨Z, hZ⟩ : ∃ Z, Z = l ++ stepsL last xs := ⟨_, rfl⟩
  rw [← hZ]
  replace hZ := hide hZ
  replace hb := hide hb
  replace hk := hide hk
  replace hx := hide hx
  replace hr := hide hr
  go_enter Tryz.func84, Tryz.ntmps84
  go_wp2_with fail
  go_loopw [0, 1, 11] (fun s0 s1 s11 wr => ∃ (i n1 c1 : Nat) (A1 : Option Addr) (L : List UInt8) (p : Int), s0 = .slice A1 n1 c1 ∧ s1 = .int .i64 p ∧ s11 = .int .i64 (i : Int) ∧ i ≤ k ∧ -1 ≤ p ∧ p ≤ 1099511627776 ∧ n1 ≤ n + 10 * i ∧ Hid (Z = L ++ stepsL p (xs.drop i)) ∧ Hid (risB N p (xs.drop i) = true) ∧ Hid (Own8 wr base A1 n1 c1 L) ∧ Hid (Ext w wr)) (fun _ _ s11 _ => k - (intOf s11).toNat)
  case atStart => exact ⟨0, n, c, A, l, last, rfl, rfl, rfl, by omega, hlast, hlast2, by omega, hide (by rw [hZ.out]; rfl), hr, hb, hide (Ext.refl w)⟩
  case round =>
    obtain ⟨i, n1, c1, A1, L, p, rfl, rfl, rfl, hi, hp1, hp2, hn1, hZL, hrs, hown, hE⟩ := hrel
    by_cases h : i < k
    · obtain ⟨x, hxi⟩ : ∃ x, xs[i]? = some x := ⟨_, List.getElem?_eq_getElem (by rw [← hk.out]; exact h)⟩
      obtain ⟨g, o, hA, hcl⟩ := hx.out.at_ (by rw [List.length_map, ← hk.out]; omega)
      subst hA
      have hld := hE.out.cell (hcl i (IV x) (by rw [List.getElem?_map, hxi]; rfl))
      unfold IV at hld
      have hdr := drop_step hxi
      have hrs2 := hrs.out
      have hZ2 := hZL.out
      rw [hdr] at hrs2 hZ2
      obtain ⟨hpx, hxN, hrs3⟩ := risB_cons hrs2
      obtain ⟨q, hq⟩ : ∃ q : Nat, (q : Int) = x - p - 1 := ⟨(x - p - 1).toNat, by omega⟩
      have hqu := u64_of (z := x - p - 1) hq.symm (by omega)
      have hq5 : q < 18446744073709551616 := by omega
      have hZ3 : Hid (Z = (L ++ vb q) ++ stepsL x (xs.drop (i + 1))) := hide (by
        rw [hZ2, List.append_assoc]
        show _ ++ (vb (x - p - 1).toNat ++ _) = _
        rw [← hq]; rfl)
      have hl10 := vb_len10 hq5
      have hcp := hide (hput.out A1 n1 c1 q L wr hown.out.1 hown.out.2.cells (hown.out.nil_) (by omega) hq5)
      have hLl : L.length = n1 := hown.out.1.symm
      have hbs := Nat.le_trans hbase hE.out.size
      have hlen : (L ++ vb q).length ≤ n + 10 * (i + 1) := by rw [List.length_append, hLl]; omega
      replace hcl := hide hcl
      replace hxi := hide hxi
      replace hdr := hide hdr
      replace hLl := hide hLl
      replace hrs3 := hide hrs3
      clear hrs2 hZ2 hl10
      replace hq := hide hq
      go_wp2_with fail
      refine hcp.out.mono ?_
      rintro e w2 hNB
      obtain ⟨A2, c2, rfl, hB2, hE2⟩ := hNB
      have ho2 : Hid (Own8 w2 base A2 (L ++ vb q).length c2 (L ++ vb q)) := hide ⟨rfl, hB2.lower hbs⟩
      obtain ⟨n2, hn2⟩ : ∃ n2, n2 = (L ++ vb q).length := ⟨_, rfl⟩
      rw [← hn2] at ho2 hlen ⊢
      replace hn2 := hide hn2
      replace hE2 := hide (hE.out.trans hE2)
      clear hB2
      go_wp2_with fail
      exact ⟨⟨i + 1, n2, c2, A2, L ++ vb q, x, rfl, rfl, rfl, by omega, by omega, by omega, by omega, hZ3, hrs3, ho2, hE2⟩, by simp only [intOf]; omega⟩
    · obtain rfl : i = k := by omega
      have hZe : Z = L := by rw [hZL.out, List.drop_eq_nil_of_le (by rw [← hk.out]; exact Nat.le_refl _), stepsL, List.append_nil]
      replace hZe := hide hZe
      go_wp2_with fail
      go_ret
      have ho := hown.out
      have hl := ho.1
      rw [hZe.out]
      subst hl
      exact ⟨A1, c1, rfl, ho, hE.out⟩
end Go.Proofs.YtkdcnhnaiknaaaaGreat

/- A head and a body that grow: two variables that a loop over an iterator writes. -/
namespace Go.Proofs.YtkdcnhnaiknaaaaGreat
open Go.RowKit

theorem Cells.part {w : World} {A : Option Addr} {xs : List Value} (h : Cells w A xs) (hA : ∀ a, A = some a → a.spot = none) (k m : Nat) : Cells w (A.map fun a => a.add k) ((xs.drop k).take m) := by
  rcases h with h | ⟨g, o, rfl, hc⟩
  · subst h; exact .inl (by simp)
  · refine .inr ⟨g, o + k, by rw [Option.map_some, Addr.add_lit], fun j v hv => ?_⟩
    rw [List.getElem?_take] at hv
    split at hv
    · rw [List.getElem?_drop] at hv
      have := hc _ v hv
      rwa [Nat.add_assoc]
    · cases hv
theorem Chg.others {S : Nat → Prop} {w w1 : World} (h : Chg S w w1) (hS : ∀ k, S k → ∃ t cs, Row w k t cs) : KeepsOthers w w1 :=
  ⟨h.size, fun k o hk ho => (h.block k (Array.getElem?_eq_some_iff.1 hk).1 fun hs => by
    obtain ⟨t, cs, hr⟩ := hS k hs
    unfold Row at hr
    rw [hr] at hk
    injection hk with hk
    subst hk
    cases ho).trans hk⟩
theorem flat_part {α : Type} {f : α → List Value} {k : Nat} (hf : ∀ x, (f x).length = k) : ∀ (l : List α) (i : Nat), (l.drop i).flatMap f = (l.flatMap f).drop (i * k)
  | [], i => by simp
  | x :: l, 0 => by simp
  | x :: l, i + 1 => by
    rw [List.drop_succ_cons, List.flatMap_cons, flat_part hf l i, Nat.succ_mul, Nat.add_comm, ← List.drop_drop, List.drop_left' (hf x)]
theorem flat_take {α : Type} {f : α → List Value} {k : Nat} (hf : ∀ x, (f x).length = k) : ∀ (l : List α) (i : Nat), (l.take i).flatMap f = (l.flatMap f).take (i * k)
  | [], i => by simp
  | x :: l, 0 => by simp
  | x :: l, i + 1 => by
    rw [List.take_succ_cons, List.flatMap_cons, flat_take hf l i, List.flatMap_cons, Nat.succ_mul, Nat.add_comm, show k + i * k = (f x).length + i * k by rw [hf x], List.take_length_add_append]
theorem buf_apart {W : World} {b1 b2 k size n c : Nat} {e e2 : TypeId} {A : Option Addr} {v : Value} {xs ys : List Value} (hb : Buf W b1 e A n c xs) (ho : W.ownsRow b2 e2 size v k ys) (hne : e2 ≠ e) : ∀ a, A = some a → v.ownBlock ≠ some a.block := fun a ha => by
  rcases hb.2.2 with ⟨h0, _⟩ | ⟨g, cur, hA, _, hr, _⟩
  · rw [h0] at ha; cases ha
  · rw [hA] at ha
    cases ha
    exact owns_unlike ho hr hne
theorem owns_cap {w : World} {base : Nat} {e : TypeId} {size n c : Nat} {A : Option Addr} {xs : List Value} (h : w.ownsRow base e size (.slice A n c) n xs) : n ≤ c ∧ ∀ a, A = some a → a.spot = none := by
  rcases h.2 with ⟨hv, h0⟩ | ⟨g, cap, cur, hv, _, _, hnc, _⟩
  · injection hv with h1 h2 h3
    subst h1 h3
    exact ⟨by omega, nofun⟩
  · injection hv with h1 h2 h3
    subst h1 h3
    exact ⟨hnc, fun a ha => by cases ha; rfl⟩
/-- The two variables: a head's bytes, a body's. -/
def HB (base h1 h2 : Nat) (Hd Bd : List UInt8) (W : World) : Prop := ∃ (A1 A2 : Option Addr) (c1 c2 : Nat), Row W h1 25 #[.slice A1 Hd.length c1] ∧ Row W h2 25 #[.slice A2 Bd.length c2] ∧ Own8 W base A1 Hd.length c1 Hd ∧ Own8 W base A2 Bd.length c2 Bd ∧ ∀ a1 a2, A1 = some a1 → A2 = some a2 → a1.block ≠ a2.block
section
variable {base h1 h2 : Nat} {Hd Bd : List UInt8} {W W1 : World}
theorem HB.ext (h : HB base h1 h2 Hd Bd W) (hE : Ext W W1) : HB base h1 h2 Hd Bd W1 := by
  obtain ⟨A1, A2, c1, c2, r1, r2, o1, o2, hne⟩ := h
  exact ⟨A1, A2, c1, c2, r1.ext hE, r2.ext hE, o1.ext hE, o2.ext hE, hne⟩
theorem HB.alike {B : Nat} (h : HB base h1 h2 Hd Bd W) (hE : Alike B W W1) : HB base h1 h2 Hd Bd W1 := by
  obtain ⟨A1, A2, c1, c2, r1, r2, o1, o2, hne⟩ := h
  exact ⟨A1, A2, c1, c2, hE.row r1, hE.row r2, ⟨o1.1, hE.buf o1.2⟩, ⟨o2.1, hE.buf o2.2⟩, hne⟩
theorem HB.chg {S : Nat → Prop} (h : HB base h1 h2 Hd Bd W) (hE : Chg S W W1) (hS : ∀ k, S k → ∃ t cs, Row W k t cs ∧ t ≠ 25 ∧ t ≠ 5) : HB base h1 h2 Hd Bd W1 := by
  obtain ⟨A1, A2, c1, c2, r1, r2, o1, o2, hne⟩ := h
  have hn : ∀ {g : Nat} {cs : Array Value}, Row W g 25 cs → ¬ S g := fun hr hs => by
    obtain ⟨t, cs, hr2, ht, _⟩ := hS _ hs
    exact Row.unlike hr hr2 (fun e => ht e.symm) rfl
  have hb : ∀ {A : Option Addr} {n c : Nat} {xs : List Value}, Buf W base 5 A n c xs → ∀ a, A = some a → ¬ S a.block := fun hb a ha hs => by
    obtain ⟨t, cs, hr2, _, ht⟩ := hS _ hs
    exact hb.unlike hr2 (fun e => ht e.symm) a ha rfl
  exact ⟨A1, A2, c1, c2, hE.row r1 (hn r1), hE.row r2 (hn r2), ⟨o1.1, o1.2.chg hE (hb o1.2)⟩, ⟨o2.1, o2.2.chg hE (hb o2.2)⟩, hne⟩
/-- The head is written anew. -/
theorem HB.head {W6 : World} {B1 : Nat} {Hd' : List UInt8} {A : Option Addr} {n c : Nat} (h : HB base h1 h2 Hd Bd W) (hne : h1 ≠ h2) (hE : Ext W W6) (hn : n = Hd'.length) (hb : Buf W6 B1 5 A n c (Hd'.map B8)) (hB : W.heap.size ≤ B1) (hBase : base ≤ B1) :
    HB base h1 h2 Hd' Bd (W6.setCell ⟨h1, 0, none⟩ (.slice A n c)) := by
  subst hn
  obtain ⟨A1, A2, c1, c2, r1, r2, o1, o2, hd⟩ := h
  have r16 := r1.ext hE
  refine ⟨A, A2, c, c2, r16.put 0 _, (r2.ext hE).away (fun e => hne e.symm) _, ⟨rfl, (hb.lower hBase).setCell (hb.unlike r16 (by decide)) _⟩, ⟨o2.1, (o2.2.ext hE).setCell ((o2.2.ext hE).unlike r16 (by decide)) _⟩, fun a1 a2 e1 e2 e => ?_⟩
  have h3 := hb.base_le a1 e1
  have h4 := o2.2.lt a2 e2
  omega
theorem HB.rows {W1 : World} {A2 : Option Addr} {c2 : Nat} (h : HB base h1 h2 Hd Bd W) (hr2 : Row W h2 25 #[.slice A2 Bd.length c2]) (hg : W.grownBy W1 (Value.slice A2 Bd.length c2).ownBlock) {g : Nat} {t : TypeId} {cs : Array Value} (hr : Row W g t cs) (ht : t ≠ 5) : Row W1 g t cs := by
  obtain ⟨A1, A2', c1, c2', r1, r2, o1, o2, hd⟩ := h
  have he : A2' = A2 ∧ c2' = c2 := by
    have e := r2.cell 0 rfl
    rw [hr2.cell 0 rfl] at e
    injection e with e
    injection e with e1 _ e2
    exact ⟨e1.symm, e2.symm⟩
  obtain ⟨rfl, rfl⟩ := he
  refine hr.grown hg fun e => ?_
  cases A2' with
  | none => simp [Value.ownBlock] at e
  | some a => exact o2.2.unlike hr (fun e => ht e.symm) a rfl (by simpa [Value.ownBlock] using e.symm)
/-- The body grows. -/
theorem HB.body {W1 : World} {A2 A3 : Option Addr} {c2 n3 c3 : Nat} {x : List UInt8} (h : HB base h1 h2 Hd Bd W) (hne : h1 ≠ h2) (hr2 : Row W h2 25 #[.slice A2 Bd.length c2]) (hg : W.grownBy W1 (Value.slice A2 Bd.length c2).ownBlock) (hn : n3 = (Bd ++ x).length) (hb : Buf W1 base 5 A3 n3 c3 ((Bd ++ x).map B8))
    (hA : A3 = A2 ∨ A3 = some ⟨W.heap.size, 0, none⟩) :
    HB base h1 h2 Hd (Bd ++ x) (W1.setCell ⟨h2, 0, none⟩ (.slice A3 n3 c3)) ∧ KeepsOthers W (W1.setCell ⟨h2, 0, none⟩ (.slice A3 n3 c3)) ∧ (∀ g t cs, Row W g t cs → t ≠ 5 → g ≠ h2 → Row (W1.setCell ⟨h2, 0, none⟩ (.slice A3 n3 c3)) g t cs) ∧
      (∀ w0, Ext w0 W → w0.heap.size ≤ base → w0.heap.size ≤ h2 → Ext w0 (W1.setCell ⟨h2, 0, none⟩ (.slice A3 n3 c3))) := by
  subst hn
  obtain ⟨A1, A2', c1, c2', r1, r2, o1, o2, hd⟩ := h
  have he : A2' = A2 ∧ c2' = c2 := by
    have e := r2.cell 0 rfl
    rw [hr2.cell 0 rfl] at e
    injection e with e
    injection e with e1 _ e2
    exact ⟨e1.symm, e2.symm⟩
  obtain ⟨rfl, rfl⟩ := he
  have hown : ∀ k, (Value.slice A2' Bd.length c2').ownBlock = some k → ∃ a, A2' = some a ∧ a.block = k := fun k hk => by
    cases A2' with
    | none => simp [Value.ownBlock] at hk
    | some a => exact ⟨a, rfl, by simpa [Value.ownBlock] using hk⟩
  have hrow : ∀ g t cs, Row W g t cs → t ≠ 5 → Row W1 g t cs := fun g t cs hr ht => hr.grown hg fun e => by
    obtain ⟨a, ha, hk⟩ := hown g e.symm
    exact o2.2.unlike hr (fun e => ht e.symm) a ha hk
  have r1' := hrow _ _ _ r1 (by decide)
  have r2' := hrow _ _ _ r2 (by decide)
  have o1' : Buf W1 base 5 A1 Hd.length c1 (Hd.map B8) := o1.2.grown hg fun a ha e => by
    obtain ⟨a2, ha2, hk⟩ := hown _ e
    exact hd a a2 ha ha2 hk.symm
  refine ⟨⟨A1, A3, c1, c3, r1'.away hne _, r2'.put 0 _, ⟨rfl, o1'.setCell (o1'.unlike r2' (by decide)) _⟩, ⟨rfl, hb.setCell (hb.unlike r2' (by decide)) _⟩, fun a1 a3 e1 e3 e => ?_⟩, (grown_others o2.2 hg).trans (KeepsOthers.setCell _ _ _), fun g t cs hr ht hg2 => (hrow g t cs hr ht).away hg2 _, fun w0 hE hb0 hh => (hE.grown hg fun k hk => ?_).setCell hh _⟩
  · rcases hA with rfl | rfl
    · exact hd a1 a3 e1 e3 e
    · have := o1.2.lt a1 e1
      injection e3 with e3
      subst e3
      simp only at e
      omega
  · obtain ⟨a2, ha2, rfl⟩ := hown _ hk
    have := o2.2.base_le a2 ha2
    omega
end
end Go.Proofs.YtkdcnhnaiknaaaaGreat

/- slices.Chunk at api.Post. -/
namespace Go.Proofs.YtkdcnhnaiknaaaaGreat
open Go.RowKit
attribute [local go_sem] Oper.semAt_some wide_depth

/-- Two blocks lie as they lay. -/
def KeepB (b1 b2 : Nat) (W W' : World) : Prop := (∀ o, W.heap[b1]? = some o → W'.heap[b1]? = some o) ∧ ∀ o, W.heap[b2]? = some o → W'.heap[b2]? = some o
theorem KeepB.trans (b1 b2 : Nat) (A B C : World) (h : KeepB b1 b2 A B) (k : KeepB b1 b2 B C) : KeepB b1 b2 A C := ⟨fun o ho => k.1 o (h.1 o ho), fun o ho => k.2 o (h.2 o ho)⟩
theorem KeepB.refl (b1 b2 : Nat) (A : World) : KeepB b1 b2 A A := ⟨fun _ h => h, fun _ h => h⟩
theorem KeepB.of {b1 b2 : Nat} {W W' : World} {t1 t2 : TypeId} {c1 c2 : Array Value} (h1 : Row W b1 t1 c1) (h1' : Row W' b1 t1 c1) (h2 : Row W b2 t2 c2) (h2' : Row W' b2 t2 c2) : KeepB b1 b2 W W' :=
  ⟨fun o ho => by unfold Row at h1 h1'; rw [h1'] ; rw [h1] at ho; exact ho, fun o ho => by unfold Row at h2 h2'; rw [h2']; rw [h2] at ho; exact ho⟩
theorem KeepB.alike {b1 b2 B : Nat} (h1 : b1 < B) (h2 : b2 < B) (A C : World) (h : Alike B A C) : KeepB b1 b2 A C :=
  ⟨fun _ ho => (h.block b1 (Array.getElem?_eq_some_iff.1 ho).1 (fun hn => by have := hn.1; omega)).trans ho, fun _ ho => (h.block b2 (Array.getElem?_eq_some_iff.1 ho).1 (fun hn => by have := hn.1; omega)).trans ho⟩
set_option maxRecDepth 100000 in
theorem chunkA_any (A : Option Addr) (n c k : Nat) (w : World) (hk : 1 ≤ k) (hk2 : k ≤ 1000000) :
    Calls Tryz.prog 83 #[.slice A n c, .int .i64 (k : Int)] w fun e w' => ∃ b1 b2, e = .returned (.func (.func 144) #[] #[.pointer (some ⟨b1, 0, none⟩), .pointer (some ⟨b2, 0, none⟩)]) ∧ Row w' b1 43 #[.slice A n c] ∧ Row w' b2 3 #[.int .i64 (k : Int)] ∧ w.heap.size ≤ b1 ∧ w.heap.size ≤ b2 ∧ b1 < b2 ∧ Ext w w' := by
  go_enter Tryz.func83, Tryz.ntmps83
  go_wp2_with fail
  go_ret
  have h1 := Row.new w 43 #[.slice A n c]
  have h2 := Row.new (w.alloc (.cells #[.slice A n c] 43)) 3 #[.int .i64 (k : Int)]
  rw [World.size_alloc] at h2
  exact ⟨w.heap.size, w.heap.size + 1, rfl, h1.alloc _, h2, Nat.le_refl _, by omega, by omega, ((Ext.refl w).alloc _).alloc _⟩
set_option maxRecDepth 100000 in
theorem run_chunkA1 {A : Option Addr} {n c i : Nat} {z : Int} (hz : z = (i : Int)) (hi : i ≤ n) : ∃ A' c', ∀ W : World, (Instr.sliceAt 43 (.slice A n c) (some (.int .i64 z)) none none).run Tryz.prog W = .ok (.slice A' (n - i) c') W := by
  subst hz
  have ht := Tryz.underlying43
  have he : Tryz.prog.elem 43 = 107 := by unfold Program.elem; rw [ht]
  have hs : ∀ W : World, (sizeOf 107).run Tryz.prog W = .ok 2 W := fun W => by kernel_rfl
  refine ⟨if c = i then A else A.map fun a => a.add (i * 2), c - i, fun W => ?_⟩
  rw [run_sliceAt_slice W _ _ _ _ _ (by rw [ht, he]), run_slice_l W _ A n c (by rw [ht, he]) .i64 i (by omega) (by omega), he, hs]
  simp only [Result.andThen_ok, sliced]
  rfl
set_option maxRecDepth 100000 in
theorem run_chunkA2 {A : Option Addr} {n c i j : Nat} {z z1 z2 : Int} (hz : z = (i : Int)) (hz1 : z1 = ((i + j : Nat) : Int)) (hz2 : z2 = ((i + j : Nat) : Int)) (hi : i + j ≤ c) (hj : 0 < j) (W : World) :
    (Instr.sliceAt 43 (.slice A n c) (some (.int .i64 z)) (some (.int .i64 z1)) (some (.int .i64 z2))).run Tryz.prog W = .ok (.slice (A.map fun a => a.add (i * 2)) j j) W := by
  subst hz hz1 hz2
  have ht := Tryz.underlying43
  have he : Tryz.prog.elem 43 = 107 := by unfold Program.elem; rw [ht]
  have hs : (sizeOf 107).run Tryz.prog W = .ok 2 W := by kernel_rfl
  rw [run_sliceAt_slice W _ _ _ _ _ (by rw [ht, he]), run_slice_lhm W _ A n c (by rw [ht, he]) .i64 .i64 .i64 i ((i + j : Nat) : Int) ((i + j : Nat) : Int) (by omega) (by omega) (by omega) (by omega), he, hs]
  simp only [Result.andThen_ok]
  congr 1
  unfold sliced
  rw [if_neg (by omega), show ((i + j : Nat) : Int).toNat - (i : Int).toNat = j by omega]
  rfl
/-- The i-th part's slice. -/
def chunkVA (A : Option Addr) (n k i : Nat) : Value := .slice (A.map fun a => a.add (i * k * 2)) (min k (n - i * k)) (min k (n - i * k))
/-- What the iterator of the parts promises. -/
def ChIterA (A : Option Addr) (n k b1 b2 : Nat) (w : World) : Prop :=
  Iter Tryz.prog 144 #[.pointer (some ⟨b1, 0, none⟩), .pointer (some ⟨b2, 0, none⟩)] (fun i : Nat => #[chunkVA A n k i]) Ext (fun pre i _ => i = pre.length ∧ i * k < n) (KeepB b1 b2) (fun xs W W' => n ≤ xs.length * k ∧ xs = List.range xs.length ∧ (∀ i ∈ xs, i * k < n) ∧ Ext W W') w
set_option maxRecDepth 100000 in
set_option maxHeartbeats 1000000 in
theorem chunkA_iter (A : Option Addr) (n c k b1 b2 : Nat) (w : World) (hb1 : Row w b1 43 #[.slice A n c]) (hb2 : Row w b2 3 #[.int .i64 (k : Int)]) (hk : 1 ≤ k) (hk2 : k ≤ 1000000) (hn : n ≤ 1000000000) (hc : n ≤ c) : ChIterA A n k b1 b2 w := by
  intro l J W hE hst hY h0
  replace hb1 := hb1.ext hE
  replace hb2 := hb2.ext hE
  clear hE
  replace hb1 := hide hb1
  replace hb2 := hide hb2
  replace hY := hide hY
  replace hst := hide hst
  replace h0 := hide h0
  refine (callsIn_wide (n := 0)).1 ?_
  refine callsIn_of_wp Tryz.func144 rfl trivial ?_
  simp only [Tryz.ntmps144, List.size_toArray, List.length_cons, List.length_nil, Nat.reduceAdd, Nat.reduceSub, Array.replicate_succ, Array.replicate_zero, List.push_toArray, List.append_toArray, List.nil_append, List.cons_append]
  gi_wp2_with fail
  gi_loopw [4] (fun s4 wr => ∃ (i q : Nat) (pre : List Nat), s4 = .int .i64 (q : Int) ∧ Hid (q = i * k) ∧ q ≤ n + k ∧ Hid (pre.length = i) ∧ Hid (pre = List.range i) ∧ Hid (∀ j ∈ pre, j * k < n) ∧ Hid (J pre wr) ∧ Hid (Row wr b1 43 #[.slice A n c]) ∧ Hid (Row wr b2 3 #[.int .i64 (k : Int)])) (fun s4 _ => n - (intOf s4).toNat)
  case atStart => exact ⟨0, 0, [], rfl, hide (by simp), by omega, hide rfl, hide rfl, hide nofun, h0, hb1, hb2⟩
  case round =>
    obtain ⟨i, q, pre, rfl, hq, hqn, hpl, hpr, hpa, hJ, r1, r2⟩ := hrel
    have k1 := r1.out.cell 0 rfl
    have k2 := r2.out.cell 0 rfl
    by_cases hlt : q < n
    · obtain ⟨m, hm⟩ : ∃ m : Nat, (m : Int) = min (k : Int) ((n - q : Nat) : Int) := ⟨min k (n - q), by omega⟩
      have hm0 : 0 < m := by omega
      have hmk : m ≤ k := by omega
      have hmn : m ≤ n - q := by omega
      have hmx : m = k ∨ m = n - q := by omega
      have hmin := fun (W : World) => run_min2 (P := Tryz.prog) #[3, 3] 3 hm W
      have hr2 := fun (W : World) => run_chunkA2 (A := A) (n := n) (c := c) (i := q) (j := m) (z := (q : Int)) (z1 := (q : Int) + (m : Int)) (z2 := (q : Int) + (m : Int)) rfl (by omega) (by omega) (by omega) hm0 W
      obtain ⟨A', c', hr1⟩ := run_chunkA1 (A := A) (n := n) (c := c) (i := q) (z := (q : Int)) rfl (by omega)
      replace hm := hide hm
      have hyx := hY.out pre pre.length wr.drew (hst.out _ _ _ hJ.out (Ext.refl wr).drew) ⟨rfl, by rw [hpl.out, ← hq.out]; exact hlt⟩
      have hval : chunkVA A n k pre.length = .slice (A.map fun a => a.add (q * 2)) m m := by
        unfold chunkVA
        rw [hpl.out, ← hq.out, show min k (n - q) = m by omega]
      rw [hval] at hyx
      obtain ⟨fn, tmps, assign, body, hy, hR⟩ := hyx
      have hpa2 : Hid (∀ j ∈ pre ++ [pre.length], j * k < n) := hide fun j hj => by
        rcases List.mem_append.1 hj with h | h
        · exact hpa.out j h
        · rw [List.mem_singleton.1 h, hpl.out, ← hq.out]; exact hlt
      have hpr2 : Hid (pre ++ [pre.length] = List.range (i + 1)) := hide (by rw [List.range_succ, hpl.out, hpr.out])
      have hq2 : Hid (q + k = (i + 1) * k) := hide (by rw [Nat.succ_mul, hq.out])
      clear hval hmx hY hst
      gi_wp2_with fail
      refine wpIn_wide.2 (wp_region_text follows (by kernel_rfl) (by kernel_rfl) (fun K hK => ?_))
      go_wp2_with fail
      refine ⟨by kernel_rfl, ?_⟩
      gi_wp2_with fail
      refine hR.mono ?_
      rintro e W3 ⟨rfl, hJ3, hk3⟩
      have r13 := hide (show Row W3 b1 43 #[.slice A n c] from hk3.1 _ r1.out)
      have r23 := hide (show Row W3 b2 3 #[.int .i64 (k : Int)] from hk3.2 _ r2.out)
      have k23 := r23.out.cell 0 rfl
      gi_wp2_with fail
      exact ⟨⟨i + 1, q + k, pre ++ [pre.length], by congr 1, hq2, by omega, hide (by rw [List.length_append, hpl.out]; rfl), hpr2, hpa2, hide hJ3, r13, r23⟩, by simp only [intOf]; omega⟩
    · gi_wp2_with fail
      go_end0
      exact ⟨⟨_, rfl⟩, pre, _, hJ.out, by rw [hpl.out, ← hq.out]; omega, by rw [hpl.out]; exact hpr.out, hpa.out, Ext.refl _⟩
end Go.Proofs.YtkdcnhnaiknaaaaGreat

