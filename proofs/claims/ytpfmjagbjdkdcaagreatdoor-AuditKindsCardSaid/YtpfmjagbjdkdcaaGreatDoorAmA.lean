/- A machine that the kernel runs: blocks in a tree, values as the program's own; how its memory stands to a world's. -/
import Derived.Test.YtpfmjagbjdkdcaaGreatDoorLib
set_option linter.unusedSimpArgs false
set_option linter.unusedVariables false
namespace Go.Proofs.YtpfmjagbjdkdcaaGreatDoor.Am
open Go.Proofs.YtpfmjagbjdkdcaaGreatDoor Go.RowKit

/-! ## Trees by number -/
inductive HT (α : Type) where
  | nil
  | node (v : Option α) (l r : HT α)
namespace HT
variable {α : Type}
def get : HT α → Nat → Option α
  | nil, _ => none
  | node v l r, n => match Nat.beq n 0 with
    | true => v
    | false => match Nat.beq (n % 2) 0 with
      | true => r.get (n / 2 - 1)
      | false => l.get (n / 2)
def set : Nat → HT α → Nat → Option α → HT α
  | 0, t, _, _ => t
  | k + 1, nil, n, x => match Nat.beq n 0 with
    | true => node x nil nil
    | false => match Nat.beq (n % 2) 0 with
      | true => node none nil (set k nil (n / 2 - 1) x)
      | false => node none (set k nil (n / 2) x) nil
  | k + 1, node v l r, n, x => match Nat.beq n 0 with
    | true => node x l r
    | false => match Nat.beq (n % 2) 0 with
      | true => node v l (set k r (n / 2 - 1) x)
      | false => node v (set k l (n / 2) x) r
theorem get_nil (n : Nat) : (nil : HT α).get n = none := rfl
theorem get_set : ∀ (k : Nat) (t : HT α) (n m : Nat) (x : Option α), n + 1 < 2 ^ k → (set k t n x).get m = if m = n then x else t.get m := by
  intro k
  induction k with
  | zero => intro t n m x h; simp at h
  | succ k ih =>
    intro t n m x h
    have hk : 2 ^ (k + 1) = 2 * 2 ^ k := by rw [Nat.pow_succ]; omega
    rw [hk] at h
    have go : ∀ (v : Option α) (l r : HT α), (match Nat.beq n 0 with
        | true => node x l r
        | false => match Nat.beq (n % 2) 0 with
          | true => node v l (set k r (n / 2 - 1) x)
          | false => node v (set k l (n / 2) x) r : HT α).get m = if m = n then x else (node v l r).get m := by
      intro v l r
      by_cases hn : n = 0
      · subst hn
        show (node x l r).get m = _
        by_cases hm : m = 0
        · subst hm; rfl
        · have h0 : Nat.beq m 0 = false := by cases m with | zero => exact absurd rfl hm | succ m => rfl
          rw [if_neg hm]
          simp only [get, h0]
      · have h0 : Nat.beq n 0 = false := by cases n with | zero => exact absurd rfl hn | succ n => rfl
        rw [h0]
        dsimp only
        by_cases hp : n % 2 = 0
        · have h1 : Nat.beq (n % 2) 0 = true := by rw [hp]; rfl
          rw [h1]
          dsimp only
          by_cases hm : m = 0
          · subst hm
            rw [if_neg (by omega)]
            rfl
          · have h2 : Nat.beq m 0 = false := by cases m with | zero => exact absurd rfl hm | succ m => rfl
            by_cases hq : m % 2 = 0
            · have h3 : Nat.beq (m % 2) 0 = true := by rw [hq]; rfl
              simp only [get, h2, h3]
              rw [ih _ _ _ _ (by omega)]
              by_cases e : m = n
              · subst e; simp
              · rw [if_neg e, if_neg (by omega)]
            · have h3 : Nat.beq (m % 2) 0 = false := by have : m % 2 = 1 := by omega
                                                        rw [this]; rfl
              simp only [get, h2, h3]
              rw [if_neg (by omega)]
        · have h1 : Nat.beq (n % 2) 0 = false := by have : n % 2 = 1 := by omega
                                                    rw [this]; rfl
          rw [h1]
          dsimp only
          by_cases hm : m = 0
          · subst hm
            rw [if_neg (by omega)]
            rfl
          · have h2 : Nat.beq m 0 = false := by cases m with | zero => exact absurd rfl hm | succ m => rfl
            by_cases hq : m % 2 = 0
            · have h3 : Nat.beq (m % 2) 0 = true := by rw [hq]; rfl
              simp only [get, h2, h3]
              rw [if_neg (by omega)]
            · have h3 : Nat.beq (m % 2) 0 = false := by have : m % 2 = 1 := by omega
                                                        rw [this]; rfl
              simp only [get, h2, h3]
              rw [ih _ _ _ _ (by omega)]
              by_cases e : m = n
              · subst e; simp
              · rw [if_neg e, if_neg (by omega)]
    cases t with
    | nil =>
      have h1 := go none nil nil
      simp only [set]
      rw [h1]
      by_cases hm : m = n
      · rw [if_pos hm, if_pos hm]
      · rw [if_neg hm, if_neg hm, get_nil]
        simp only [get]
        cases Nat.beq m 0 <;> cases Nat.beq (m % 2) 0 <;> rfl
    | node v l r => exact go v l r
end HT

/-! ## The machine's blocks -/
inductive AObj where
  | cells (cs : List Value) (t : TypeId) (fz : Nat × Nat) (so : Nat)
  | map (es : List (Value × Value × Nat)) (clock : Nat)
  | siter (s : ByteArray) (pos : Nat)
  | miter (m : Option Nat) (since : Nat) (seen : List Nat) (stepped : Nat)
  | loop (st : LoopState) (pend : Option Code) (t : HT Value) (n : Nat) (ps : Array Tmp) (assign body : Code) (d : Nat)
  | deferred
structure AS where
  h : HT AObj
  nx : Nat

/-! ## Where a block lies -/
structure Loc where
  blk : Nat
  dlt : Nat
  so : Option (Nat × Nat × Nat)
abbrev Ren := Nat → Option Loc
def Ren.le (f g : Ren) : Prop := ∀ k l, f k = some l → g k = some l
theorem Ren.le.refl (f : Ren) : f.le f := fun _ _ h => h
theorem Ren.le.trans {f g h : Ren} (a : f.le g) (b : g.le h) : f.le h := fun k l e => b k l (a k l e)
def Ren.put (f : Ren) (k : Nat) (l : Loc) : Ren := fun j => if j = k then some l else f j
theorem Ren.put_same (f : Ren) (k : Nat) (l : Loc) : f.put k l k = some l := if_pos rfl
theorem Ren.put_other (f : Ren) {k j : Nat} (l : Loc) (h : j ≠ k) : f.put k l j = f j := if_neg h
theorem Ren.le_put {f : Ren} {k : Nat} (l : Loc) (h : f k = none) : f.le (f.put k l) := fun j x e => by
  by_cases hj : j = k
  · subst hj; rw [h] at e; cases e
  · rw [Ren.put_other f l hj]; exact e
def AR (f : Ren) (a a' : Addr) : Prop := ∃ l, f a.block = some l ∧ a' = ⟨l.blk, a.off + l.dlt, a.spot⟩
def strip (a : Addr) : Addr := ⟨a.block, a.off, none⟩
inductive FR (f : Ren) : Fn → Fn → Prop
  | yield {l L} (h : f l = some L) : FR f (.yield l) (.yield L.blk)
  | same {g} (h : ∀ l, g ≠ .yield l) : FR f g g
inductive VR (f : Ren) : Value → Value → Prop
  | bool (b) : VR f (.bool b) (.bool b)
  | int (k n) : VR f (.int k n) (.int k n)
  | str (s) : VR f (.string s) (.string s)
  | nilp : VR f (.pointer none) (.pointer none)
  | ptr {a a'} (h : AR f a a') : VR f (.pointer (some a)) (.pointer (some a'))
  | nils (n c) : VR f (.slice none n c) (.slice none n c)
  | sl {a a' n c} (h : AR f a a') (hp : a.spot = none) : VR f (.slice (some a) n c) (.slice (some a') n c)
  | soft {a l n c c' sz T T'} (h : f a.block = some l) (hs : l.so = some (sz, T, T')) (h1 : a.off + c * sz = T) (h2 : a.off + l.dlt + c' * sz = T') (hc : c ≤ c') (hp : a.spot.isSome = true) :
      VR f (.slice (some a) n c) (.slice (some ⟨l.blk, a.off + l.dlt, none⟩) n c')
  | emp {a a' l c' sz T T'} (h : f a.block = some l) (hs : l.so = some (sz, T, T')) (hb : a'.block = l.blk) (hp : a'.spot = none) (hq : a.spot.isSome = true) (hc : c' = 0 ∨ a'.off + c' * sz = T') :
      VR f (.slice (some a) 0 0) (.slice (some a') 0 c')
  | nilm : VR f (.map none) (.map none)
  | map {r L} (h : f r = some L) : VR f (.map (some r)) (.map (some L.blk))
  | nilf : VR f .nilFunc .nilFunc
  | func {g g'} {x x' y y' : Array Value} (h : FR f g g') (hx : x.size = x'.size) (hxs : ∀ (i : Nat) (v v' : Value), x[i]? = some v → x'[i]? = some v' → VR f v v')
      (hy : y.size = y'.size) (hys : ∀ (i : Nat) (v v' : Value), y[i]? = some v → y'[i]? = some v' → VR f v v') : VR f (.func g x y) (.func g' x' y')
  | nili : VR f .nilIface .nilIface
  | iface (t) {v v'} (h : VR f v v') : VR f (.iface t v) (.iface t v')
  | agg {x x' : Array Value} (hx : x.size = x'.size) (hxs : ∀ (i : Nat) (v v' : Value), x[i]? = some v → x'[i]? = some v' → VR f v v') : VR f (.agg x) (.agg x')
  | tuple {x x' : Array Value} (hx : x.size = x'.size) (hxs : ∀ (i : Nat) (v v' : Value), x[i]? = some v → x'[i]? = some v' → VR f v v') : VR f (.tuple x) (.tuple x')
theorem AR.mono {f g : Ren} (h : f.le g) {a a'} (k : AR f a a') : AR g a a' := by obtain ⟨l, h1, h2⟩ := k; exact ⟨l, h _ _ h1, h2⟩
theorem FR.mono {f g : Ren} (h : f.le g) {a a'} (k : FR f a a') : FR g a a' := by
  cases k with
  | yield e => exact .yield (h _ _ e)
  | same e => exact .same e
theorem VR.mono {f g : Ren} (h : f.le g) {v v' : Value} (k : VR f v v') : VR g v v' := by
  induction k with
  | bool b => exact .bool b
  | int k n => exact .int k n
  | str s => exact .str s
  | nilp => exact .nilp
  | ptr e => exact .ptr (e.mono h)
  | nils n c => exact .nils n c
  | sl e hp => exact .sl (e.mono h) hp
  | soft e hs h1 h2 hc hp => exact .soft (h _ _ e) hs h1 h2 hc hp
  | emp e hs hb hp hq hc => exact .emp (h _ _ e) hs hb hp hq hc
  | nilm => exact .nilm
  | map e => exact .map (h _ _ e)
  | nilf => exact .nilf
  | func e hx _ hy _ ih1 ih2 => exact .func (e.mono h) hx ih1 hy ih2
  | nili => exact .nili
  | iface t _ ih => exact .iface t ih
  | agg hx _ ih => exact .agg hx ih
  | tuple hx _ ih => exact .tuple hx ih
/-- Rows of values. -/
def LR (f : Ren) (x x' : List Value) : Prop := x.length = x'.length ∧ ∀ (i : Nat) (v v' : Value), x[i]? = some v → x'[i]? = some v' → VR f v v'
theorem LR.mono {f g : Ren} (h : f.le g) {x x'} (k : LR f x x') : LR g x x' := ⟨k.1, fun i v v' a b => (k.2 i v v' a b).mono h⟩
theorem LR.nil (f : Ren) : LR f [] [] := ⟨rfl, fun _ _ _ h => by simp at h⟩
theorem LR.cons {f : Ren} {v v' : Value} {x x'} (h : VR f v v') (k : LR f x x') : LR f (v :: x) (v' :: x') := ⟨by simp [k.1], fun i a b ha hb => by
  cases i with
  | zero => simp at ha hb; subst ha hb; exact h
  | succ i => simp at ha hb; exact k.2 i a b ha hb⟩
theorem LR.tail {f : Ren} {v v' : Value} {x x'} (k : LR f (v :: x) (v' :: x')) : VR f v v' ∧ LR f x x' :=
  ⟨k.2 0 v v' rfl rfl, by have := k.1; simpa using this, fun i a b ha hb => k.2 (i + 1) a b (by simpa using ha) (by simpa using hb)⟩
theorem LR.app {f : Ren} {x x' y y'} (h : LR f x x') (k : LR f y y') : LR f (x ++ y) (x' ++ y') := by
  induction x generalizing x' with
  | nil => cases x' with
    | nil => exact k
    | cons _ _ => have := h.1; simp at this
  | cons v x ih => cases x' with
    | nil => have := h.1; simp at this
    | cons v' x' => obtain ⟨a, b⟩ := h.tail; exact .cons a (ih b)
theorem LR.get {f : Ren} {x x' : List Value} (h : LR f x x') {i : Nat} {v : Value} (e : x[i]? = some v) : ∃ v', x'[i]? = some v' ∧ VR f v v' := by
  have hi : i < x'.length := by rw [← h.1]; exact (List.getElem?_eq_some_iff.1 e).1
  exact ⟨x'[i], List.getElem?_eq_getElem hi, h.2 i v _ e (List.getElem?_eq_getElem hi)⟩
theorem LR.set {f : Ren} {x x' : List Value} (h : LR f x x') (i : Nat) {v v' : Value} (k : VR f v v') : LR f (x.set i v) (x'.set i v') := by
  refine ⟨by simp [h.1], fun j a b ha hb => ?_⟩
  rw [List.getElem?_set] at ha hb
  by_cases e : i = j
  · subst e
    rw [if_pos rfl] at ha hb
    split at ha
    · split at hb
      · simp at ha hb; subst ha hb; exact k
      · cases hb
    · cases ha
  · rw [if_neg e] at ha hb
    exact h.2 j a b ha hb
theorem LR.drop {f : Ren} {x x' : List Value} (h : LR f x x') (n : Nat) : LR f (x.drop n) (x'.drop n) := ⟨by simp [h.1], fun i a b ha hb => by
  rw [List.getElem?_drop] at ha hb
  exact h.2 _ a b ha hb⟩
theorem LR.take {f : Ren} {x x' : List Value} (h : LR f x x') (n : Nat) : LR f (x.take n) (x'.take n) := ⟨by simp [h.1], fun i a b ha hb => by
  rw [List.getElem?_take] at ha hb
  split at ha
  · rename_i hi
    rw [if_pos hi] at hb
    exact h.2 _ a b ha hb
  · cases ha⟩
theorem LR.map {f : Ren} {α : Type} (l : List α) (g g' : α → Value) (h : ∀ x ∈ l, VR f (g x) (g' x)) : LR f (l.map g) (l.map g') := by
  induction l with
  | nil => exact .nil f
  | cons a l ih => exact .cons (h a (by simp)) (ih fun x hx => h x (by simp [hx]))
theorem VR.agg' {f : Ren} {x x' : Array Value} (h : LR f x.toList x'.toList) : VR f (.agg x) (.agg x') := .agg (by simpa using h.1) fun i v v' a b => h.2 i v v' (by simpa using a) (by simpa using b)
theorem VR.tuple' {f : Ren} {x x' : Array Value} (h : LR f x.toList x'.toList) : VR f (.tuple x) (.tuple x') := .tuple (by simpa using h.1) fun i v v' a b => h.2 i v v' (by simpa using a) (by simpa using b)
theorem VR.agg_inv {f : Ren} {x : Array Value} {v' : Value} (h : VR f (.agg x) v') : ∃ x' : Array Value, v' = .agg x' ∧ LR f x.toList x'.toList := by
  cases h with | agg hx hxs => exact ⟨_, rfl, by simpa using hx, fun i v v' a b => hxs i v v' (by simpa using a) (by simpa using b)⟩
theorem VR.tuple_inv {f : Ren} {x : Array Value} {v' : Value} (h : VR f (.tuple x) v') : ∃ x' : Array Value, v' = .tuple x' ∧ LR f x.toList x'.toList := by
  cases h with | tuple hx hxs => exact ⟨_, rfl, by simpa using hx, fun i v v' a b => hxs i v v' (by simpa using a) (by simpa using b)⟩

/-! ## Values without addresses -/
def noA : Nat → Value → Bool
  | 0, _ => false
  | n + 1, v => match v with
    | .bool _ | .int _ _ | .string _ | .pointer none | .slice none _ _ | .map none | .nilFunc | .nilIface => true
    | .iface _ v => noA n v
    | .agg x | .tuple x => x.toList.all (noA n)
    | .func (.yield _) _ _ => false
    | .func _ x y => x.toList.all (noA n) && y.toList.all (noA n)
    | _ => false
theorem LR.of_all {f : Ren} {n : Nat} (ih : ∀ v, noA n v = true → VR f v v) : ∀ l : List Value, l.all (noA n) = true → LR f l l
  | [], _ => .nil f
  | v :: l, h => by
    simp only [List.all_cons, Bool.and_eq_true] at h
    exact .cons (ih v h.1) (LR.of_all ih l h.2)
theorem noA_refl (f : Ren) : ∀ (n : Nat) (v : Value), noA n v = true → VR f v v := by
  intro n
  induction n with
  | zero => intro v h; cases h
  | succ n ih =>
    intro v h
    cases v with
    | bool b => exact .bool b
    | int k n => exact .int k n
    | string s => exact .str s
    | pointer a => cases a with | none => exact .nilp | some a => cases h
    | slice a n c => cases a with | none => exact .nils n c | some a => cases h
    | map r => cases r with | none => exact .nilm | some a => cases h
    | nilFunc => exact .nilf
    | nilIface => exact .nili
    | iface t v => exact .iface t (ih v h)
    | agg x => exact .agg' (LR.of_all ih _ h)
    | tuple x => exact .tuple' (LR.of_all ih _ h)
    | func g x y =>
      cases g with
      | yield l => cases h
      | func g =>
        simp only [noA, Bool.and_eq_true] at h
        have h1 := LR.of_all ih _ h.1
        have h2 := LR.of_all ih _ h.2
        exact .func (.same (by simp)) rfl (fun i v v' a b => h1.2 i v v' (by simpa using a) (by simpa using b)) rfl (fun i v v' a b => h2.2 i v v' (by simpa using a) (by simpa using b))
      | method g =>
        simp only [noA, Bool.and_eq_true] at h
        have h1 := LR.of_all ih _ h.1
        have h2 := LR.of_all ih _ h.2
        exact .func (.same (by simp)) rfl (fun i v v' a b => h1.2 i v v' (by simpa using a) (by simpa using b)) rfl (fun i v v' a b => h2.2 i v v' (by simpa using a) (by simpa using b))
      | methodOf t g =>
        simp only [noA, Bool.and_eq_true] at h
        have h1 := LR.of_all ih _ h.1
        have h2 := LR.of_all ih _ h.2
        exact .func (.same (by simp)) rfl (fun i v v' a b => h1.2 i v v' (by simpa using a) (by simpa using b)) rfl (fun i v v' a b => h2.2 i v v' (by simpa using a) (by simpa using b))
      | via t p g q =>
        simp only [noA, Bool.and_eq_true] at h
        have h1 := LR.of_all ih _ h.1
        have h2 := LR.of_all ih _ h.2
        exact .func (.same (by simp)) rfl (fun i v v' a b => h1.2 i v v' (by simpa using a) (by simpa using b)) rfl (fun i v v' a b => h2.2 i v v' (by simpa using a) (by simpa using b))
    | _ => cases h
theorem all_noA_eq {f : Ren} {n : Nat} (ih : ∀ v v', noA n v = true → VR f v v' → v' = v) : ∀ (l l' : List Value), l.all (noA n) = true → LR f l l' → l' = l
  | [], l', _, k => by have := k.1; simpa using this.symm
  | v :: l, [], _, k => by have := k.1; simp at this
  | v :: l, v' :: l', h, k => by
    simp only [List.all_cons, Bool.and_eq_true] at h
    obtain ⟨a, b⟩ := k.tail
    rw [ih v v' h.1 a, all_noA_eq ih l l' h.2 b]
theorem noA_eq {f : Ren} : ∀ (n : Nat) (v v' : Value), noA n v = true → VR f v v' → v' = v := by
  intro n
  induction n with
  | zero => intro v v' h; cases h
  | succ n ih =>
    intro v v' h k
    cases k with
    | ptr _ => cases h
    | sl _ _ => cases h
    | soft _ _ _ _ _ _ => cases h
    | emp _ _ _ _ _ _ => cases h
    | map _ => cases h
    | iface t k => rw [ih _ _ h k]
    | agg hx hxs =>
      rename_i x x'
      have := all_noA_eq ih x.toList x'.toList h ⟨by simpa using hx, fun i v v' a b => hxs i v v' (by simpa using a) (by simpa using b)⟩
      rw [Array.ext' this]
    | tuple hx hxs =>
      rename_i x x'
      have := all_noA_eq ih x.toList x'.toList h ⟨by simpa using hx, fun i v v' a b => hxs i v v' (by simpa using a) (by simpa using b)⟩
      rw [Array.ext' this]
    | func e hx hxs hy hys =>
      cases e with
      | yield _ => cases h
      | same hg =>
        rename_i g x x' y y'
        have h2 : x.toList.all (noA n) = true ∧ y.toList.all (noA n) = true := by
          cases g with
          | yield l => exact absurd rfl (hg l)
          | _ => simpa only [noA, Bool.and_eq_true] using h
        have e1 := all_noA_eq ih x.toList x'.toList h2.1 ⟨by simpa using hx, fun i v v' a b => hxs i v v' (by simpa using a) (by simpa using b)⟩
        have e2 := all_noA_eq ih y.toList y'.toList h2.2 ⟨by simpa using hy, fun i v v' a b => hys i v v' (by simpa using a) (by simpa using b)⟩
        rw [Array.ext' e1, Array.ext' e2]
    | _ => rfl
end Go.Proofs.YtpfmjagbjdkdcaaGreatDoor.Am
