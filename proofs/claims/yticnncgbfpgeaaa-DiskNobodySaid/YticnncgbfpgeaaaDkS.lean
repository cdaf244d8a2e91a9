/- loggia/disk: writes. -/
import Derived.Test.YticnncgbfpgeaaaDkR
namespace Go.Proofs.Yticnncgbfpgeaaa
open Go.RowKit Go.Maps

/-- What a writing call leaves of the disk. -/
def WPost (S : Nat → Prop) (base d m : Nat) (E : List Ent) (P : PD) (w w' : World) : Prop := ∃ E', DE w' base d m P E' ∧ Chg S w w' ∧ ∀ k, Foot d m E' k → Foot d m E k ∨ w.heap.size ≤ k
def WS (d m : Nat) (E : List Ent) (A : Option Addr) (i : Nat) : Prop := Foot d m E i ∨ ∃ a, A = some a ∧ a.block = i
theorem WPost.same {S : Nat → Prop} {base d m : Nat} {E : List Ent} {P : PD} {w w' : World} (hD : DE w' base d m P E) (hc : Chg S w w') : WPost S base d m E P w w' := ⟨E, hD, hc, fun _ h => .inl h⟩
set_option maxRecDepth 100000 in
set_option maxHeartbeats 2000000 in
theorem writes_any (base d m b0 : Nat) (P : PD) (E : List Ent) (s : List UInt8) (ns : List (List UInt8)) (k : Nat) (caps : Array Value) (kk : PF → List PF) (A : Option Addr) (n c : Nat) (w : World) (hD : DE w base d m P E)
    (hs : s.length ≤ 9223372036854775807) (hns : ∀ x ∈ ns, x.length ≤ 9223372036854775807) (hn : n = ns.length) (hn2 : n ≤ 100) (hb0 : b0 ≤ w.heap.size) (ho : w.ownsRow b0 9 1 (.slice A n c) n (ns.map str)) (hA : ∀ a, A = some a → ¬ Foot d m E a.block)
    (hcf : ∀ (args : Array Value) (W : World), (callFunc k args).run Try.prog W = .ok (.enter k args) W)
    (hk : ∀ (w1 : World) (e0 : Ent), e0 ∈ E → e0.name = s → Chg (WS d m E A) w w1 → DE w1 base d m (P.goes P.L) E → Calls Try.prog k (#[.pointer (some ⟨e0.f, 0, none⟩)] ++ caps) w1 fun e w' => e = .returned (.tuple #[]) ∧ WPost (Foot d m E) base d m E (P.goes (kk e0.pl)) w1 w') :
    Calls Try.prog 41 #[.pointer (some ⟨d, 0, none⟩), str s, .func (.func k) #[] caps, .slice A n c] w fun e w' => e = .returned (.int .i64 (writesM P (ns ++ [s]) s kk).2) ∧ WPost (WS d m E A) base d m E (writesM P (ns ++ [s]) s kk).1 w w' := by
  unfold str
  have hown : ∀ g, (Value.slice A n c).ownBlock = some g → ∃ a, A = some a ∧ a.block = g := by
    intro g hg
    cases A with
    | none => cases hg
    | some a =>
      refine ⟨a, rfl, ?_⟩
      rcases ho.2 with ⟨h, _⟩ | ⟨g', cap, cur, h, _⟩
      · cases h
      · cases h
        simpa [Value.ownBlock] using hg
  replace hown := hide hown
  replace hk := hide hk
  replace hcf := hide hcf
  replace hn := hide hn
  go_enter Try.func41, Try.ntmps41
  go_wp2_with (at_builtin; refine wpList_appN (us := [.string ⟨s.toArray⟩]) elemS ho (.tmp 14) (.tmp 16) rfl rfl rfl rfl (one_of rfl) (by simp; omega) hb0 (fun A1 c1 w3 ho3 hg3 hl3 => ?_))
  have hc3 : Chg (fun i => ∃ a, A = some a ∧ a.block = i) w w3 := Chg.of_grown hg3 fun i _ hi => hown.out i hi
  have hD3 : DE w3 base d m P E := hD.chg hc3 fun i ⟨a, ha, hi⟩ hf => hA a ha (by rw [hi]; exact hf)
  have hc3' : Chg (WS d m E A) w w3 := hc3.mono fun i _ h => .inr h
  have hmay := may_any d m P.quota P.armed P.stopped A1 (n + 1) c1 (ns ++ [s]) w3 hD3.row (by rw [List.length_append, hn.out]; rfl) (by rw [List.map_append]; exact Cells.of_own ho3) (by omega) (by
    intro x hx
    rcases List.mem_append.1 hx with h | h
    · exact hns x h
    · simp at h; rw [h]; exact hs)
  have c0 : w3.cell? ⟨d, 0, none⟩ = some (.map (some m)) := Row.cell hD3.row 0 rfl
  have hl1 : [Value.string ⟨s.toArray⟩].length = 1 := rfl
  simp only [List.length_singleton] at ho3 ⊢
  clear ho3 hl3 hg3 ho hl1
  cases hall : (ns ++ [s]).all namedM with
  | false =>
    have hw : writesM P (ns ++ [s]) s kk = (P, 60) := by unfold writesM; rw [hall]; rfl
    have hm : mayM (ns ++ [s]) P.stopped = 60 := by unfold mayM; rw [hall]; rfl
    rw [hm] at hmay
    have fin : WPost (WS d m E A) base d m E P w w3 := WPost.same hD3 hc3'
    replace hw := hide hw
    replace fin := hide fin
    replace hall := hide hall
    replace hmay := hide hmay
    clear hm
    go_wp2_with fail
    refine hmay.out.mono ?_
    rintro e w1 ⟨rfl, rfl⟩
    go_wp2_with fail
    go_ret
    rw [hw.out]
    exact ⟨rfl, fin.out⟩
  | true =>
    cases hst : P.stopped with
    | true =>
      have hw : writesM P (ns ++ [s]) s kk = (P, 63) := by unfold writesM; rw [hall, hst]; rfl
      have hm : mayM (ns ++ [s]) P.stopped = 63 := by unfold mayM; rw [hall, hst]; rfl
      rw [hm] at hmay
      have fin : WPost (WS d m E A) base d m E P w w3 := WPost.same hD3 hc3'
      replace hw := hide hw
      replace fin := hide fin
      replace hall := hide hall
      replace hst := hide hst
      replace hmay := hide hmay
      clear hm
      go_wp2_with fail
      refine hmay.out.mono ?_
      rintro e w1 ⟨rfl, rfl⟩
      go_wp2_with fail
      go_ret
      rw [hw.out]
      exact ⟨rfl, fin.out⟩
    | false =>
      have hm : mayM (ns ++ [s]) P.stopped = 0 := by unfold mayM; rw [hall, hst]; rfl
      rw [hm] at hmay
      rcases hD3.lookup s hs w3 rfl with ⟨e0, he0, hn0, hrun⟩ | ⟨hno, hrun⟩
      · have hfd : P.find s = some e0.pl := by rw [← hn0]; exact hD3.find_in he0
        have hrow3 : DRow w3 d m P.quota P.armed false := by have := hD3.row; rw [hst] at this; exact this
        have hcl := call_any d m P.quota P.armed w3 hrow3 hD3.ha
        unfold str at hrun
        have hw : writesM P (ns ++ [s]) s kk = if P.armed = 1 then (P.stops, 63) else (P.goes (kk e0.pl), 0) := by unfold writesM; rw [hall, hst, hfd]; rfl
        replace hcl := hide hcl
        replace hw := hide hw
        replace hall := hide hall
        replace hst := hide hst
        replace hmay := hide hmay
        replace hn0 := hide hn0
        clear hm hfd
        go_wp2_with fail
        refine hmay.out.mono ?_
        rintro e w1 ⟨rfl, rfl⟩
        go_wp2_with fail
        refine hcl.out.mono ?_
        rintro e w6 ⟨rfl, hrow6, hc6, hs6⟩
        have hc6' : Chg (WS d m E A) w w6 := hc3'.trans hc6 fun i _ h => .inl (.inl h)
        by_cases ha : P.armed = 1
        · have hw2 := hw.out
          rw [if_pos ha] at hw2 ⊢
          have hrow6' : DRow w6 d m P.stops.quota P.stops.armed P.stops.stopped := by
            rw [ha] at hrow6
            exact hrow6
          have fin : WPost (WS d m E A) base d m E P.stops w w6 := WPost.same (hD3.own hc6 hrow6' rfl hD3.hq (by show 0 ≤ _; omega)) hc6'
          replace hw2 := hide hw2
          replace fin := hide fin
          replace ha := hide ha
          go_wp2_with fail
          go_ret
          rw [hw2.out]
          exact ⟨rfl, fin.out⟩
        · have hw2 := hw.out
          rw [if_neg ha] at hw2 ⊢
          have hrow6' : DRow w6 d m (P.goes P.L).quota (P.goes P.L).armed (P.goes P.L).stopped := by
            rw [decide_eq_false ha] at hrow6
            show DRow w6 d m P.quota (P.armed - 1) P.stopped
            rw [hst.out]
            exact hrow6
          have hDw : DE w6 base d m (P.goes P.L) E := hD3.own hc6 hrow6' rfl hD3.hq (by have := hD3.ha; show P.armed - 1 ≤ _; omega)
          have hkk := hk.out w6 e0 he0 hn0.out hc6' hDw
          replace hw2 := hide hw2
          replace ha := hide ha
          replace hs6 := hide hs6
          replace hkk := hide hkk
          have hcf2 := hcf.out (#[.pointer (some ⟨e0.f, 0, none⟩)] ++ caps) w6
          go_wp2_with fail
          refine hkk.out.mono ?_
          rintro e w7 ⟨rfl, E', h1, h2, h3⟩
          have fin : WPost (WS d m E A) base d m E (P.goes (kk e0.pl)) w w7 := ⟨E', h1, hc6'.trans h2 fun i _ h => .inl h, fun i hi => (h3 i hi).imp_right fun h => Nat.le_trans hc6'.size h⟩
          replace fin := hide fin
          go_wp2_with fail
          go_ret
          rw [hw2.out]
          exact ⟨rfl, fin.out⟩
      · have hw : writesM P (ns ++ [s]) s kk = (P, 61) := by unfold writesM; rw [hall, hst, hD3.find_out hno]; rfl
        unfold str at hrun
        have fin : WPost (WS d m E A) base d m E P w w3 := WPost.same hD3 hc3'
        replace hw := hide hw
        replace fin := hide fin
        replace hall := hide hall
        replace hst := hide hst
        replace hmay := hide hmay
        replace hno := hide hno
        clear hm
        go_wp2_with fail
        refine hmay.out.mono ?_
        rintro e w1 ⟨rfl, rfl⟩
        go_wp2_with fail
        go_ret
        rw [hw.out]
        exact ⟨rfl, fin.out⟩
end Go.Proofs.Yticnncgbfpgeaaa
