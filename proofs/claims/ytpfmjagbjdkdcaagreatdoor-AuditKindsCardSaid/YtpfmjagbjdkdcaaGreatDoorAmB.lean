/- How the machine's memory stands to a world's; steps. -/
import Derived.Test.YtpfmjagbjdkdcaaGreatDoorAmA
set_option linter.unusedSimpArgs false
set_option linter.unusedVariables false
namespace Go.Proofs.YtpfmjagbjdkdcaaGreatDoor.Am
open Go.Proofs.YtpfmjagbjdkdcaaGreatDoor Go.RowKit

/-- An activation's slots. -/
def TR (f : Ren) (t : HT Value) (n : Nat) (tm : Array Value) : Prop := tm.size = n ∧ ∀ i, VR f ((t.get i).getD undef) (tm.getD i undef)
inductive OR (f : Ren) : AObj → Obj → Prop
  | map {es : List (Value × Value × Nat)} {es' : Array MapEntry} {c} (h : es.length = es'.size) (hk : ∀ (i : Nat) (e : Value × Value × Nat) (e' : MapEntry), es[i]? = some e → es'[i]? = some e' → VR f e.1 e'.key ∧ VR f e.2.1 e'.val ∧ e.2.2 = e'.born) : OR f (.map es c) (.map es' c)
  | siter (s p) : OR f (.siter s p) (.stringIter s p)
  | minil (s seen st) : OR f (.miter none s seen st) (.mapIter none s seen.toArray st)
  | miter {m L} (s seen st) (h : f m = some L) : OR f (.miter (some m) s seen st) (.mapIter (some L.blk) s seen.toArray st)
  | loop {st pend t n ps as b d L fn tm} (hd : f d = some L) (ht : TR f t n tm) :
      OR f (.loop st pend t n ps as b d) (.loop { state := st, pending := pend, fn, tmps := tm, params := ps, assign := as, body := b, defers := L.blk })
  | deferred : OR f .deferred (.deferred (some []))
inductive ObR (f : Ren) (w : World) : AObj → Loc → Prop
  | hard {cs cs' t fz b} (hw : w.heap[b]? = some (.cells cs' t fz)) (h : LR f cs cs'.toList) : ObR f w (.cells cs t fz 0) ⟨b, 0, none⟩
  | soft {cs : List Value} {cs' : Array Value} {t fz' b d sz T T'} (hw : w.heap[b]? = some (.cells cs' t fz')) (hs : 0 < sz) (hT : cs.length = T) (hT' : cs'.size = T') (hle : T + d ≤ T')
      (hfz : ∀ i, i < T' → ¬ (fz'.1 ≤ i ∧ i < fz'.2)) (h : ∀ (i : Nat) (v : Value), cs[i]? = some v → ∃ v', cs'[i + d]? = some v' ∧ VR f v v') : ObR f w (.cells cs t (0, 0) sz) ⟨b, d, some (sz, T, T')⟩
  | obj {o o' b} (hw : w.heap[b]? = some o') (h : OR f o o') : ObR f w o ⟨b, 0, none⟩
theorem TR.mono {f g : Ren} (h : f.le g) {t n tm} (k : TR f t n tm) : TR g t n tm := ⟨k.1, fun i => (k.2 i).mono h⟩
theorem OR.mono {f g : Ren} (h : f.le g) {o o'} (k : OR f o o') : OR g o o' := by
  cases k with
  | map e hk => exact .map e fun i a b x y => let ⟨p, q, r⟩ := hk i a b x y; ⟨p.mono h, q.mono h, r⟩
  | siter s p => exact .siter s p
  | minil s seen st => exact .minil s seen st
  | miter s seen st e => exact .miter s seen st (h _ _ e)
  | loop hd ht => exact .loop (h _ _ hd) (ht.mono h)
  | deferred => exact .deferred
theorem ObR.mono {f g : Ren} (h : f.le g) {w w' : World} {o : AObj} {l : Loc} (hw : w'.heap[l.blk]? = w.heap[l.blk]?) (k : ObR f w o l) : ObR g w' o l := by
  cases k with
  | hard e hl => exact .hard (hw.trans e) (hl.mono h)
  | soft e hs hT hT' hle hfz hl => exact .soft (hw.trans e) hs hT hT' hle hfz fun i v a => let ⟨v', p, q⟩ := hl i v a; ⟨v', p, q.mono h⟩
  | obj e ho => exact .obj (hw.trans e) (ho.mono h)
theorem ObR.lt {f : Ren} {w : World} {o : AObj} {l : Loc} (k : ObR f w o l) : l.blk < w.heap.size := by
  cases k with
  | hard e _ => exact (Array.getElem?_eq_some_iff.1 e).1
  | soft e _ _ _ _ _ _ => exact (Array.getElem?_eq_some_iff.1 e).1
  | obj e _ => exact (Array.getElem?_eq_some_iff.1 e).1

section
variable (base gm : Nat)
structure WR (f : Ren) (A : AS) (w : World) : Prop where
  ob : ∀ k o, A.h.get k = some o → ∃ l, f k = some l ∧ ObR f w o l
  inj : ∀ k1 k2 o1 o2 l1 l2, A.h.get k1 = some o1 → A.h.get k2 = some o2 → f k1 = some l1 → f k2 = some l2 → l1.blk = l2.blk → k1 = k2
  low : ∀ k o l, A.h.get k = some o → f k = some l → gm ≤ k → base ≤ l.blk
  lt : ∀ k o, A.h.get k = some o → k < A.nx
  fr : ∀ k, A.nx ≤ k → f k = none
  gl : ∀ k o, A.h.get k = some o → k < gm → f k = some ⟨k, 0, none⟩
  gm : gm ≤ A.nx
  sz : base ≤ w.heap.size
  nb : A.nx < 10000000000
def Im (f : Ren) (A : AS) (b : Nat) : Prop := ∃ k o l, gm ≤ k ∧ A.h.get k = some o ∧ f k = some l ∧ l.blk = b
structure Step (f : Ren) (A : AS) (w : World) (f' : Ren) (A' : AS) (w' : World) : Prop where
  ren : ∀ k, k < A.nx → f' k = f k
  nx : A.nx ≤ A'.nx
  chg : Chg (Im gm f A) w w'
  im : ∀ b, Im gm f' A' b → w.heap.size ≤ b ∨ Im gm f A b
  wr : WR base gm f' A' w'
end
section
variable {base gm : Nat} {f g f1 f2 : Ren} {A A1 A2 : AS} {w w1 w2 : World}
theorem Step.refl (h : WR base gm f A w) : Step base gm f A w f A w := ⟨fun _ _ => rfl, Nat.le_refl _, Chg.refl _ _, fun _ h => .inr h, h⟩
theorem Step.le (h : Step base gm f A w f1 A1 w1) (hW : WR base gm f A w) : f.le f1 := fun k l e => by
  by_cases hk : k < A.nx
  · rw [h.ren k hk]; exact e
  · rw [hW.fr k (by omega)] at e; cases e
theorem Step.trans (h : Step base gm f A w f1 A1 w1) (k : Step base gm f1 A1 w1 f2 A2 w2) : Step base gm f A w f2 A2 w2 where
  ren := fun i hi => (k.ren i (by have := h.nx; omega)).trans (h.ren i hi)
  nx := Nat.le_trans h.nx k.nx
  chg := by
    refine ⟨k.chg.os.trans h.chg.os, k.chg.tape.trans h.chg.tape, k.chg.output.trans h.chg.output, Nat.le_trans h.chg.size k.chg.size, fun b hb hn => ?_⟩
    rw [k.chg.block b (by have := h.chg.size; omega) (fun hi => ?_), h.chg.block b hb hn]
    rcases h.im b hi with h1 | h1
    · omega
    · exact hn h1
  im := fun b hb => by
    rcases k.im b hb with h1 | h1
    · left; have := h.chg.size; omega
    · exact h.im b h1
  wr := k.wr
/-- Behind a step the blocks below the base are as they were. -/
theorem Step.ext {w0 : World} (h : Step base gm f A w f1 A1 w1) (hW : WR base gm f A w) (hE : Ext w0 w) (hb : w0.heap.size ≤ base) : Ext w0 w1 :=
  hE.chg h.chg fun i hi ⟨k, o, l, hk, ho, hl, e⟩ => by have := hW.low k o l ho hl hk; omega
/-! ## What an operation that only reads, or lays one block, comes to -/
def FOut (f : Ren) (id : Nat) (w : World) (v : Value) (ob : Option AObj) (v' : Value) (w' : World) : Prop :=
  (w'.os = w.os ∧ w'.tape = w.tape ∧ w'.output = w.output) ∧
  match ob with
  | none => w'.heap = w.heap ∧ VR f v v'
  | some o => ∃ l o', l.blk = w.heap.size ∧ w'.heap = w.heap.push o' ∧ ObR (f.put id l) w' o l ∧ VR (f.put id l) v v'
theorem WR.heap (h : WR base gm f A w) (e : w1.heap = w.heap) : WR base gm f A w1 := ⟨fun k o hk => let ⟨l, a, b⟩ := h.ob k o hk; ⟨l, a, b.mono (.refl _) (by rw [e])⟩, h.inj, h.low, h.lt, h.fr, h.gl, h.gm, by rw [e]; exact h.sz, h.nb⟩
/-- Names that only the future has may be given; the heap may grow. -/
theorem WR.widen (h : WR base gm f A w) (hle : f.le g) (hs : ∀ k o, A.h.get k = some o → g k = f k) (hfr : ∀ k, A.nx ≤ k → g k = none) (hz : w.heap.size ≤ w1.heap.size)
    (hb : ∀ b, b < w.heap.size → w1.heap[b]? = w.heap[b]?) : WR base gm g A w1 where
  ob := fun k o hk => let ⟨l, a, b⟩ := h.ob k o hk; ⟨l, hle _ _ a, b.mono hle (hb _ b.lt)⟩
  inj := fun k1 k2 o1 o2 l1 l2 h1 h2 e1 e2 => by
    rw [hs k1 o1 h1] at e1
    rw [hs k2 o2 h2] at e2
    exact h.inj k1 k2 o1 o2 l1 l2 h1 h2 e1 e2
  low := fun k o l hk e => by rw [hs k o hk] at e; exact h.low k o l hk e
  lt := h.lt
  fr := hfr
  gl := fun k o hk e => by rw [hs k o hk]; exact h.gl k o hk e
  gm := h.gm
  sz := Nat.le_trans h.sz hz
  nb := h.nb
theorem FOut.grow {id : Nat} {v v' : Value} {ob : Option AObj} (h : FOut f id w v ob v' w1) : w.heap.size ≤ w1.heap.size ∧ (∀ b, b < w.heap.size → w1.heap[b]? = w.heap[b]?) ∧ w1.os = w.os ∧ w1.tape = w.tape ∧ w1.output = w.output := by
  obtain ⟨hc, h⟩ := h
  cases ob with
  | none => rw [h.1]; exact ⟨Nat.le_refl _, fun _ _ => rfl, hc⟩
  | some o =>
    obtain ⟨l, o', _, e, _⟩ := h
    rw [e]
    exact ⟨by rw [Array.size_push]; omega, fun b hb => by rw [Array.getElem?_push]; rw [if_neg (by omega)], hc⟩
def ins (A : AS) (id : Nat) (ob : Option AObj) : AS :=
  match ob with
  | none => A
  | some o => { A with h := HT.set 64 A.h id (some o) }
def bump (A : AS) (id : Nat) (ob : Option AObj) : AS :=
  match ob with
  | none => A
  | some o => ⟨HT.set 64 A.h id (some o), id + 1⟩
/-- A block of the future is there now. -/
theorem WR.insert {id : Nat} {o : AObj} {l : Loc} (h : WR base gm f A w) (hid : id < A.nx) (hn : A.h.get id = none) (hf : f id = some l) (ho : ObR f w o l) (hb : base ≤ l.blk) (hg : gm ≤ id)
    (hi : ∀ k o2 l2, A.h.get k = some o2 → f k = some l2 → l2.blk ≠ l.blk) : WR base gm f { A with h := HT.set 64 A.h id (some o) } w := by
  have hget : ∀ m, (HT.set 64 A.h id (some o)).get m = if m = id then some o else A.h.get m := fun m => HT.get_set 64 A.h id m _ (Nat.lt_trans (by have := h.nb; omega : id + 1 < 10000000001) (by decide))
  refine ⟨fun k o2 hk => ?_, fun k1 k2 o1 o2 l1 l2 h1 h2 e1 e2 e => ?_, fun k o2 l2 hk e hgk => ?_, fun k o2 hk => ?_, h.fr, fun k o2 hk hl => ?_, h.gm, h.sz, h.nb⟩
  · rw [hget] at hk
    by_cases hkk : k = id
    · subst hkk; rw [if_pos rfl] at hk; cases hk; exact ⟨l, hf, ho⟩
    · rw [if_neg hkk] at hk; exact h.ob k o2 hk
  · rw [hget] at h1 h2
    by_cases hk1 : k1 = id
    · subst hk1
      by_cases hk2 : k2 = k1
      · exact hk2.symm
      · rw [if_neg hk2] at h2
        rw [hf] at e1
        cases e1
        exact absurd e.symm (hi k2 o2 l2 h2 e2)
    · rw [if_neg hk1] at h1
      by_cases hk2 : k2 = id
      · subst hk2
        rw [hf] at e2
        cases e2
        exact absurd e (hi k1 o1 l1 h1 e1)
      · rw [if_neg hk2] at h2
        exact h.inj k1 k2 o1 o2 l1 l2 h1 h2 e1 e2 e
  · rw [hget] at hk
    by_cases hkk : k = id
    · subst hkk; rw [hf] at e; cases e; exact hb
    · rw [if_neg hkk] at hk; exact h.low k o2 l2 hk e hgk
  · rw [hget] at hk
    by_cases hkk : k = id
    · subst hkk; exact hid
    · rw [if_neg hkk] at hk; exact h.lt k o2 hk
  · rw [hget] at hk
    by_cases hkk : k = id
    · subst hkk; omega
    · rw [if_neg hkk] at hk; exact h.gl k o2 hk hl
/-- An operation that lays at most the next block: a step. -/
theorem FOut.step {v v' : Value} {ob : Option AObj} (hW : WR base gm f A w) (hlt : A.nx < 1000000000) (h : FOut f A.nx w v ob v' w1) :
    ∃ f1, Step base gm f A w f1 (bump A A.nx ob) w1 ∧ VR f1 v v' := by
  obtain ⟨hz, hbk, hos, htp, hout⟩ := h.grow
  obtain ⟨_, h⟩ := h
  have hchg : Chg (Im gm f A) w w1 := ⟨hos, htp, hout, hz, fun b hb _ => hbk b hb⟩
  cases ob with
  | none => exact ⟨f, ⟨fun _ _ => rfl, Nat.le_refl _, hchg, fun _ h => .inr h, hW.heap h.1⟩, h.2⟩
  | some o =>
    obtain ⟨l, o', hl, he, ho, hv⟩ := h
    have hnone := hW.fr A.nx (Nat.le_refl _)
    have hle := Ren.le_put l hnone
    have hw1 : WR base gm (f.put A.nx l) ⟨A.h, A.nx + 1⟩ w1 := by
      have h2 : WR base gm f ⟨A.h, A.nx + 1⟩ w := ⟨hW.ob, hW.inj, hW.low, fun k o hk => by have := hW.lt k o hk; show k < A.nx + 1; omega, fun k hk => hW.fr k (by have : A.nx + 1 ≤ k := hk; omega), hW.gl, Nat.le_succ_of_le hW.gm, hW.sz, by show A.nx + 1 < _; omega⟩
      refine h2.widen hle (fun k o hk => ?_) (fun k hk => ?_) hz hbk
      · have := hW.lt k o hk
        exact Ren.put_other f l (by omega)
      · have hk : A.nx + 1 ≤ k := hk
        rw [Ren.put_other f l (by omega)]
        exact hW.fr k (by omega)
    have hg0 : A.h.get A.nx = none := by
      cases hh : A.h.get A.nx with
      | none => rfl
      | some o2 => have := hW.lt _ _ hh; omega
    have hget : ∀ m, (HT.set 64 A.h A.nx (some o)).get m = if m = A.nx then some o else A.h.get m := fun m => HT.get_set 64 A.h A.nx m _ (Nat.lt_trans (by omega : A.nx + 1 < 1000000001) (by decide))
    refine ⟨f.put A.nx l, ⟨fun k hk => Ren.put_other f l (by omega), Nat.le_succ _, hchg, fun b ⟨k, o2, l2, hgk, hk, hk2, e⟩ => ?_, ?_⟩, hv⟩
    · have hk : (HT.set 64 A.h A.nx (some o)).get k = some o2 := hk
      rw [hget] at hk
      by_cases hkk : k = A.nx
      · subst hkk
        rw [Ren.put_same] at hk2
        cases hk2
        left
        omega
      · rw [if_neg hkk] at hk
        rw [Ren.put_other f l hkk] at hk2
        exact .inr ⟨k, o2, l2, hgk, hk, hk2, e⟩
    · refine hw1.insert (id := A.nx) (Nat.lt_succ_self _) hg0 (Ren.put_same f _ l) ho (by rw [hl]; exact hW.sz) hW.gm (fun k o2 l2 hk e2 heq => ?_)
      have hk' := hW.lt k o2 hk
      rw [Ren.put_other f l (by omega)] at e2
      obtain ⟨l3, e3, h3⟩ := hW.ob k o2 hk
      rw [e2] at e3
      cases e3
      have := h3.lt
      omega
/-! ## Writing -/
theorem WR.get_set (hW : WR base gm f A w) {k : Nat} {o : AObj} (hk : A.h.get k = some o) (x : Option AObj) (m : Nat) : (HT.set 64 A.h k x).get m = if m = k then x else A.h.get m :=
  HT.get_set 64 A.h k m x (Nat.lt_trans (by have := hW.nb; have := hW.lt k o hk; omega : k + 1 < 10000000001) (by decide))
/-- A block is gone. -/
theorem WR.kill (hW : WR base gm f A w) {k : Nat} {o : AObj} (hk : A.h.get k = some o) : WR base gm f ⟨HT.set 64 A.h k none, A.nx⟩ w := by
  have hget := hW.get_set hk none
  have hsub : ∀ m o2, (HT.set 64 A.h k none).get m = some o2 → m ≠ k ∧ A.h.get m = some o2 := fun m o2 h => by
    rw [hget] at h
    by_cases e : m = k
    · rw [if_pos e] at h; cases h
    · rw [if_neg e] at h; exact ⟨e, h⟩
  exact ⟨fun m o2 h => hW.ob m o2 (hsub m o2 h).2, fun k1 k2 o1 o2 l1 l2 h1 h2 => hW.inj k1 k2 o1 o2 l1 l2 (hsub _ _ h1).2 (hsub _ _ h2).2, fun m o2 l h => hW.low m o2 l (hsub _ _ h).2, fun m o2 h => hW.lt m o2 (hsub _ _ h).2,
    hW.fr, fun m o2 h => hW.gl m o2 (hsub _ _ h).2, hW.gm, hW.sz, hW.nb⟩
theorem Step.write (hW : WR base gm f A w) {k : Nat} {o o1 : AObj} {l : Loc} {ob : Obj} (hk : A.h.get k = some o) (hl : f k = some l) (hg : gm ≤ k) (hw : w1.heap = w.heap.setIfInBounds l.blk ob)
    (hos : w1.os = w.os ∧ w1.tape = w.tape ∧ w1.output = w.output) (ho : ObR f w1 o1 l) : Step base gm f A w f ⟨HT.set 64 A.h k (some o1), A.nx⟩ w1 := by
  have hget := hW.get_set hk (some o1)
  have hother : ∀ b, b ≠ l.blk → w1.heap[b]? = w.heap[b]? := fun b hb => by rw [hw, Array.getElem?_setIfInBounds_ne (fun e => hb e.symm)]
  have hsize : w1.heap.size = w.heap.size := by rw [hw, Array.size_setIfInBounds]
  have hlk : ∀ m o2, (HT.set 64 A.h k (some o1)).get m = some o2 → ∃ o3, A.h.get m = some o3 := fun m o2 h => by
    rw [hget] at h
    by_cases e : m = k
    · exact ⟨o, e ▸ hk⟩
    · rw [if_neg e] at h; exact ⟨_, h⟩
  refine ⟨fun _ _ => rfl, Nat.le_refl _, ⟨hos.1, hos.2.1, hos.2.2, by rw [hsize]; exact Nat.le_refl _, fun b hb hn => hother b fun e => hn ⟨k, o, l, hg, hk, hl, e.symm⟩⟩, fun b ⟨m, o2, l2, h1, h2, h3, h4⟩ => ?_, ?_⟩
  · obtain ⟨o3, h5⟩ := hlk m o2 h2
    exact .inr ⟨m, o3, l2, h1, h5, h3, h4⟩
  · refine ⟨fun m o2 h => ?_, fun k1 k2 a b l1 l2 h1 h2 => ?_, fun m o2 l2 h => ?_, fun m o2 h => ?_, hW.fr, fun m o2 h => ?_, hW.gm, by rw [hsize]; exact hW.sz, hW.nb⟩
    · rw [hget] at h
      by_cases e : m = k
      · subst e
        rw [if_pos rfl] at h
        cases h
        exact ⟨l, hl, ho⟩
      · rw [if_neg e] at h
        obtain ⟨l2, h2, h3⟩ := hW.ob m o2 h
        refine ⟨l2, h2, h3.mono (.refl _) (hother _ fun e2 => e ?_)⟩
        exact hW.inj m k _ _ _ _ h hk h2 hl e2
    · obtain ⟨_, h3⟩ := hlk _ _ h1
      obtain ⟨_, h4⟩ := hlk _ _ h2
      exact hW.inj k1 k2 _ _ l1 l2 h3 h4
    · obtain ⟨_, h3⟩ := hlk _ _ h
      exact hW.low m _ l2 h3
    · obtain ⟨_, h3⟩ := hlk _ _ h
      exact hW.lt m _ h3
    · obtain ⟨_, h3⟩ := hlk _ _ h
      exact hW.gl m _ h3
theorem WR.blk_ge (hW : WR base gm f A w) {k : Nat} {o : AObj} {l : Loc} (hk : A.h.get k = some o) (hl : f k = some l) (hg : gm ≤ k) : base ≤ l.blk := hW.low k o l hk hl hg
end
end Go.Proofs.YtpfmjagbjdkdcaaGreatDoor.Am
