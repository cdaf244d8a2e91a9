/- loggia/disk: none, may, call. -/
import Derived.Test.YticnncgbfpgeaaaDkB
namespace Go.Proofs.Yticnncgbfpgeaaa
open Go.RowKit Go.Maps

set_option maxRecDepth 100000 in
theorem containsF_any (A : Option Addr) (n c : Nat) (ns : List (List UInt8)) (w : World) (hn : n = ns.length) (hA : Cells w A (ns.map str)) (hn2 : n ≤ 1000) (hs : ∀ s ∈ ns, s.length ≤ 9223372036854775807) :
    Calls Try.prog 50 #[.slice A n c, .func (.func 51) #[] #[]] w fun e w' => e = .returned (.bool (!(ns.all namedM))) ∧ w' = w := by
  have h := indexF_any A n c ns w hn hA hn2 hs
  obtain ⟨b, hb⟩ : ∃ b, b = ns.all namedM := ⟨_, rfl⟩
  rw [← hb] at h ⊢
  replace h := hide h
  replace hb := hide hb
  clear hn hA
  go_enter Try.func50, Try.ntmps50
  go_wp2_with fail
  refine h.out.mono ?_
  rintro e w1 ⟨v, rfl, hv, rfl⟩
  replace hv := hide hv
  go_wp2_with fail
  go_ret
  exact ⟨ret_bool hv.out, rfl⟩
/-- The disk's own block. -/
def DRow (w : World) (d m quota armed : Nat) (stopped : Bool) : Prop := Row w d 63 #[.map (some m), .int .i64 quota, .int .i64 armed, .bool stopped]
set_option maxRecDepth 100000 in
theorem map_nil (m : Nat) (w : World) : (binOp .eql 61 (.map (some m)) (.map none)).run Try.prog w = .ok (.bool false) w := by kernel_rfl
set_option maxRecDepth 100000 in
theorem none_any (d m quota armed : Nat) (stopped : Bool) (w : World) (h : DRow w d m quota armed stopped) :
    Calls Try.prog 31 #[.pointer (some ⟨d, 0, none⟩)] w fun e w' => e = .returned (.bool false) ∧ w' = w := by
  have c0 : w.cell? ⟨d, 0, none⟩ = some (.map (some m)) := Row.cell h 0 rfl
  have hq := map_nil m w
  go_enter Try.func31, Try.ntmps31
  go_wp2_with fail
  go_ret
  exact ⟨rfl, rfl⟩
def mayM (ns : List (List UInt8)) (stopped : Bool) : Nat := if ns.all namedM then (if stopped then 63 else 0) else 60
set_option maxRecDepth 100000 in
set_option maxHeartbeats 1000000 in
theorem may_any (d m quota armed : Nat) (stopped : Bool) (A : Option Addr) (n c : Nat) (ns : List (List UInt8)) (w : World) (h : DRow w d m quota armed stopped) (hn : n = ns.length) (hA : Cells w A (ns.map str)) (hn2 : n ≤ 1000)
    (hs : ∀ s ∈ ns, s.length ≤ 9223372036854775807) :
    Calls Try.prog 29 #[.pointer (some ⟨d, 0, none⟩), .slice A n c] w fun e w' => e = .returned (.int .i64 (mayM ns stopped)) ∧ w' = w := by
  have hc := containsF_any A n c ns w hn hA hn2 hs
  have h0 := none_any d m quota armed stopped w h
  have c3 : w.cell? ⟨d, 3, none⟩ = some (.bool stopped) := Row.cell h 3 rfl
  obtain ⟨b, hb⟩ : ∃ b, b = ns.all namedM := ⟨_, rfl⟩
  have hm : mayM ns stopped = if b then (if stopped then 63 else 0) else 60 := by unfold mayM; rw [← hb]
  rw [hm]
  rw [← hb] at hc
  replace hc := hide hc
  replace h0 := hide h0
  replace hb := hide hb
  clear hn hA hm h
  cases b <;> cases stopped
  all_goals
    go_enter Try.func29, Try.ntmps29
    go_wp2_with fail
    refine h0.out.mono ?_
    rintro e w1 ⟨rfl, rfl⟩
    go_wp2_with fail
    refine hc.out.mono ?_
    rintro e w1 ⟨rfl, rfl⟩
    go_wp2_with fail
    go_ret
    exact ⟨rfl, rfl⟩
end Go.Proofs.Yticnncgbfpgeaaa
