/- loggialaw06: what a step is. -/
import Derived.Test.YticnncgbfpgeaaaDlC
namespace Go.Proofs.Yticnncgbfpgeaaa
open Go.RowKit Go.Maps

/-- The program's disk and the document's, side by side: the cell bb holds both; F are the blocks of the program's disk; of Q (with bb) the document's rows keep away, too. -/
structure BS (w : World) (base bb d : Nat) (P : PD) (F Q : Nat → Prop) : Prop where
  disk : DS w base d P F
  low : base ≤ bb
  own : ¬ F bb
  mine : Q bb
  qlt : ∀ k, Q k → k < w.heap.size
  ref : ∃ A n c R, Row w bb 38 #[.pointer (some ⟨d, 0, none⟩), .slice A n c, .int .i64 P.quota, .int .i64 P.armed, .bool P.stopped] ∧ RS w (fun k => F k ∨ Q k) A n c R ∧ R.map RE.pl = P.L
/-- What an op makes of a disk. -/
def stepM (P : PD) (o : Opr) : PD :=
  if o.kd % 12 = 4 then (syncM P o.name).1
  else if o.kd % 12 = 5 then (renameM P o.name o.nto).1
  else if o.kd % 12 = 6 then (removeM P o.name).1
  else if o.kd % 12 = 7 then P
  else if o.kd % 12 = 8 then { P with armed := o.a.toNat }
  else if o.kd % 12 = 9 then restartM P o.keep
  else if o.kd % 12 = 10 then (if o.a < 0 then P else { P with quota := o.a.toNat })
  else if o.kd % 12 = 11 then P
  else (appendM P o.name o.b).1
/-- A step has been made. -/
def SPost (base bb : Nat) (F Q : Nat → Prop) (w : World) (P' : PD) (w' : World) : Prop := ∃ d' F', BS w' base bb d' P' F' Q ∧ Chg (fun k => F k ∨ k = bb) w w' ∧ ∀ k, F' k → F k ∨ w.heap.size ≤ k
section
variable {w w1 w2 wf : World} {base bb ob nx d d1 : Nat} {P P' : PD} {F F1 S N Q : Nat → Prop}
theorem BS.chg (h : BS w base bb d P F Q) (hc : Chg S w w1) (hs : ∀ k, k < w.heap.size → S k → ¬ F k ∧ k ≠ bb ∧ ∀ A n c R, Row w bb 38 #[.pointer (some ⟨d, 0, none⟩), .slice A n c, .int .i64 P.quota, .int .i64 P.armed, .bool P.stopped] → RS w (fun k => F k ∨ Q k) A n c R → (∀ a, A = some a → a.block ≠ k) ∧ ∀ r ∈ R, ∀ a, r.A = some a → a.block ≠ k) : BS w1 base bb d P F Q := by
  obtain ⟨A, n, c, R, hr, hR, hp⟩ := h.ref
  refine ⟨h.disk.chg (S := fun k => S k ∧ k < w.heap.size) ?_ fun k hk hf => (hs k hk.2 hk.1).1 hf, h.low, h.own, h.mine, fun k hk => Nat.lt_of_lt_of_le (h.qlt k hk) hc.size, A, n, c, R, hc.row hr fun hb => (hs bb hr.lt hb).2.1 rfl, ?_, hp⟩
  · exact ⟨hc.os, hc.tape, hc.output, hc.size, fun k hk hn => hc.block k hk fun hh => hn ⟨hh, hk⟩⟩
  · refine ⟨hR.len, hc.cells hR.cells fun a ha hh => (((hs _ (hR.away a ha).1 hh).2.2 A n c R hr hR).1 a ha) rfl, fun a ha => ⟨Nat.lt_of_lt_of_le (hR.away a ha).1 hc.size, (hR.away a ha).2⟩, hR.cap, hR.many, fun r hrm => ?_⟩
    have hok := hR.ok r hrm
    exact ⟨hc.cells hok.bytes fun a ha hh => (((hs _ (hok.away a ha).1 hh).2.2 A n c R hr hR).2 r hrm a ha) rfl, hok.cap, hok.nil, fun a ha => ⟨Nat.lt_of_lt_of_le (hok.away a ha).1 hc.size, (hok.away a ha).2⟩, hok.sure, hok.name, hok.len⟩
theorem BS.ext (h : BS w base bb d P F Q) (hc : Ext w w1) : BS w1 base bb d P F Q := h.chg (Chg.of_ext hc (fun _ => False)) fun _ _ h => h.elim
/-- The program's disk has made its call: d1, F1 are it then. -/
theorem step_mid (hb : BS w base bb d P F Q) (hE : Ext w w1) (hn : DNext base d F w1 P' w2) {A : Option Addr} {n c : Nat} {R : List RE} (hr : Row w bb 38 #[.pointer (some ⟨d, 0, none⟩), .slice A n c, .int .i64 P.quota, .int .i64 P.armed, .bool P.stopped]) (hR : RS w (fun k => F k ∨ Q k) A n c R) :
    ∃ F', DS w2 base d P' F' ∧ (∀ k, F' k → F k ∨ w1.heap.size ≤ k) ∧ Chg F w w2 ∧ Row w2 bb 38 #[.pointer (some ⟨d, 0, none⟩), .slice A n c, .int .i64 P.quota, .int .i64 P.armed, .bool P.stopped] ∧
      RS w2 (fun k => F' k ∨ Q k ∨ (w.heap.size ≤ k ∧ k < w1.heap.size)) A n c R := by
  obtain ⟨F', h1, h2, h3⟩ := hn
  have hc : Chg F w w2 := (Chg.of_ext hE F).trans h2 fun _ _ h => h
  refine ⟨F', h1, h3, hc, hc.row hr hb.own, hR.chg hc (fun k _ hk => .inl hk) fun k hk hk2 => ?_⟩
  rcases hk2 with h | h | h
  · rcases h3 k h with h | h
    · exact .inl h
    · have := hE.size
      omega
  · exact .inr h
  · omega
/-- The answers are laid into bb. -/
theorem step_end {A1 : Option Addr} {n1 c1 : Nat} {R1 : List RE} {v1 v2 v3 v4 : Value} (hS : DS w1 base d1 P' F1) (hlow : base ≤ bb) (hown : ¬ F1 bb) (hR : RS w1 N A1 n1 c1 R1) (hN : ∀ k, F1 k ∨ Q k → N k) (hm : Q bb) (hq : ∀ k, Q k → k < w1.heap.size) (hp : R1.map RE.pl = P'.L)
    (hr : Row w1 bb 38 #[.pointer (some ⟨d1, 0, none⟩), v1, v2, v3, v4])
    (hwf : wf = ((((w1.setCell ⟨bb, 1, none⟩ (.slice A1 n1 c1)).setCell ⟨bb, 2, none⟩ (.int .i64 P'.quota)).setCell ⟨bb, 3, none⟩ (.int .i64 P'.armed)).setCell ⟨bb, 4, none⟩ (.bool P'.stopped))) :
    BS wf base bb d1 P' F1 Q ∧ Chg (fun k => k = bb) w1 wf := by
  have hc : Chg (fun k => k = bb) w1 wf := by
    rw [hwf]
    exact (((Chg.of_set (S := fun k => k = bb) w1 (a := ⟨bb, 1, none⟩) _ rfl).trans (Chg.of_set (S := fun k => k = bb) _ (a := ⟨bb, 2, none⟩) _ rfl) fun _ _ h => h).trans (Chg.of_set (S := fun k => k = bb) _ (a := ⟨bb, 3, none⟩) _ rfl) fun _ _ h => h).trans (Chg.of_set (S := fun k => k = bb) _ (a := ⟨bb, 4, none⟩) _ rfl) fun _ _ h => h
  refine ⟨⟨hS.chg hc fun k hk hf => hown (hk ▸ hf), hlow, hown, hm, fun k hk => Nat.lt_of_lt_of_le (hq k hk) hc.size, A1, n1, c1, R1, ?_, hR.chg hc (fun k _ hk => hN k (.inr (hk ▸ hm))) (fun k _ hk => hN k hk), hp⟩, hc⟩
  rw [hwf]
  exact (((hr.put 1 _).put 2 _).put 3 _).put 4 _
theorem nx_put {wr wf : World} {r n c : Nat} {q a : Int} {A : Option Addr} {st : Bool} {v0 v1 v2 v3 : Value} (hrr : Row wr r 36 #[v0, v1, v2, v3])
    (hwf : wf = ((((wr.setCell ⟨r, 0, none⟩ (.slice A n c)).setCell ⟨r, 1, none⟩ (.int .i64 q)).setCell ⟨r, 2, none⟩ (.int .i64 a)).setCell ⟨r, 3, none⟩ (.bool st))) :
    Row wf r 36 #[.slice A n c, .int .i64 q, .int .i64 a, .bool st] ∧ Chg (fun k => k = r) wr wf := by
  rw [hwf]
  exact ⟨(((hrr.put 0 _).put 1 _).put 2 _).put 3 _, (((Chg.of_set (S := fun k => k = r) wr (a := ⟨r, 0, none⟩) _ rfl).trans (Chg.of_set (S := fun k => k = r) _ (a := ⟨r, 1, none⟩) _ rfl) fun _ _ h => h).trans (Chg.of_set (S := fun k => k = r) _ (a := ⟨r, 2, none⟩) _ rfl) fun _ _ h => h).trans (Chg.of_set (S := fun k => k = r) _ (a := ⟨r, 3, none⟩) _ rfl) fun _ _ h => h⟩
/-- All of a step's end. -/
theorem step_fin {W w3 : World} (h : BS w base bb d P F Q) (hS1 : DS w1 base d P' F1) (hF1 : ∀ k, F1 k → F k ∨ W.heap.size ≤ k) (hc1 : Chg F w w1) (hlt : bb < w.heap.size) (hWs : W.heap.size = w.heap.size + 2) (_hw1 : W.heap.size ≤ w1.heap.size)
    {A2 : Option Addr} {n2 c2 : Nat} {R2 : List RE} (hE2 : Ext w1 w2) (hR2 : RS w2 N A2 n2 c2 R2) (hN : N = fun k => F1 k ∨ Q k ∨ (w.heap.size ≤ k ∧ k < W.heap.size)) (hp : R2.map RE.pl = P'.L) {v1 v2 v3 v4 : Value}
    (hrb : Row w3 bb 38 #[.pointer (some ⟨d, 0, none⟩), v1, v2, v3, v4]) (hc3 : Chg (fun k => k = w.heap.size + 1) w2 w3)
    (hwf : wf = ((((w3.setCell ⟨bb, 1, none⟩ (.slice A2 n2 c2)).setCell ⟨bb, 2, none⟩ (.int .i64 P'.quota)).setCell ⟨bb, 3, none⟩ (.int .i64 P'.armed)).setCell ⟨bb, 4, none⟩ (.bool P'.stopped))) : SPost base bb F Q w P' wf := by
  have hns : ∀ k, k = w.heap.size + 1 → ¬ F1 k := by
    intro k hk hf
    rcases hF1 k hf with hf | hf
    · have := h.disk.lt hf
      omega
    · omega
  have hown : ¬ F1 bb := by
    intro hf
    rcases hF1 bb hf with hf | hf
    · exact h.own hf
    · omega
  have hS3 : DS w3 base d P' F1 := (hS1.ext hE2).chg hc3 hns
  have hR3 : RS w3 N A2 n2 c2 R2 := hR2.chg hc3 (fun k _ hk => by rw [hN]; exact .inr (.inr ⟨by omega, by omega⟩)) (fun _ _ hk => hk)
  obtain ⟨hB, hcf⟩ := step_end hS3 h.low hown hR3 (fun k hk => by rw [hN]; exact hk.elim .inl fun e => .inr (.inl e)) h.mine (fun k hk => by have := h.qlt k hk; have := hE2.size; have := hc3.size; omega) hp hrb hwf
  refine ⟨d, F1, hB, ?_, fun k hk => (hF1 k hk).elim .inl fun e => .inr (by omega)⟩
  have a1 : Chg F w w2 := hc1.trans (Chg.of_ext hE2 F) fun _ _ h => h
  have a2 : Chg (fun k => F k ∨ k = bb) w w3 := (a1.mono fun _ _ h => .inl h).trans hc3 fun i hi hk => by omega
  exact a2.trans hcf fun _ _ h => .inr h
end
end Go.Proofs.Yticnncgbfpgeaaa
