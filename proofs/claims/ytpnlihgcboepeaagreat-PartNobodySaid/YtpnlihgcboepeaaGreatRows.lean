/-
  NARROWER THAN 'FOR EVERY INPUT', by the rows' own cells (each row's printed sentence says how): PartNobody: loops · PartAlike: loops · PartHots: loops.
  DERIVED. THE GIVEN ROWS OF THIS SEAT. 4 by the template 'for every input the law returns true; each argument reads behind the call as it read before'; 0 by the template 'total and deterministic' (their statements: YtpnlihgcboepeaaGreatTotals.lean).
  GIVEN WITH THE SEED: the statements are not yours to turn. If you find one false, say at which input.
  Laid BY PROGRAM, IN A SANDBOX (cutbox-rows.mjs): the forced cells as the released guide's own fill.sh prints them over the translation bf70f2aeab488861… (all of the seat's roots in one cut). By AI agents, Wed Nov 11 2026. No macro, syntax, notation, axiom, sorry.
-/
import Derived.Test.YtpnlihgcboepeaaGreatChecked
import GoSem.Claim
import GoSem.ClaimJoined
import GoSem.ClaimMapViews
import Derived.JoinedTies
import Derived.KernelRfl
namespace Go.Proofs.YtpnlihgcboepeaaGreat
/- THE CELL 'sum', in the pinned program and in every row, IS THE sha256 OF THE DUMP (.gsa) THAT YtpnlihgcboepeaaGreatProg.lean LOADS. Nothing in Lean hashes anything: it is a label: what it is worth is what the hold of that sum in a sandbox is worth. -/
noncomputable def Tryz.pinned : Pinned := { name := "ytpnlihgcboepeaagreat", sum := "bf70f2aeab488861d8e4c64087767a048a1db1bfef5a26fab5805bcef3631158", checked := Tryz.checked }
namespace Rows
def none {H : Type} : Left H := { results := [], args := [] }

/-- 'loggialaw22.PartOpens': WHATEVER THE INPUT: true; the input reads as it did. -/
def partOpensSpec : ChangeSpec := { name := "partOpens", fn := fun _ => fun
  | [d1, d2] => { results := [.lit (.bool true)], args := [d1, d2] }
  | _ => none }
def partOpensRow : OpenClaim := { program := "ytpnlihgcboepeaagreat", sum := "bf70f2aeab488861d8e4c64087767a048a1db1bfef5a26fab5805bcef3631158", func := "loggia/loggialaw22.PartOpens", spec := "partOpens", inPlace := ["internal/abi.NoEscape", "internal/bytealg.abigen_runtime_cmpstring"], unfollowed := true, recurses := true, plainKeys := false, apart := false }
def PartOpensSaid : Prop := partOpensRow.holds Tryz.pinned (OpenSpec.ofChange partOpensSpec)

/-- ITS FALSE NEIGHBOUR: 'it returns false'. Refute it at one input. -/
def partOpensWrong : ChangeSpec := { name := "partOpens", fn := fun _ => fun
  | [d1, d2] => { results := [.lit (.bool false)], args := [d1, d2] }
  | _ => none }
def PartOpensWrongFalsely : Prop := partOpensRow.holds Tryz.pinned (OpenSpec.ofChange partOpensWrong)

/-- 'loggialaw22.PartNobody': WHATEVER THE INPUT: true; the input reads as it did. -/
def partNobodySpec : ChangeSpec := { name := "partNobody", fn := fun _ => fun
  | [d] => { results := [.lit (.bool true)], args := [d] }
  | _ => none }
def partNobodyRow : OpenClaim := { program := "ytpnlihgcboepeaagreat", sum := "bf70f2aeab488861d8e4c64087767a048a1db1bfef5a26fab5805bcef3631158", func := "loggia/loggialaw22.PartNobody", spec := "partNobody", inPlace := ["internal/abi.NoEscape", "internal/bytealg.abigen_runtime_cmpstring"], unfollowed := true, recurses := true, loops := true, plainKeys := false, apart := false }
def PartNobodySaid : Prop := partNobodyRow.holds Tryz.pinned (OpenSpec.ofChange partNobodySpec)

/-- ITS FALSE NEIGHBOUR: 'it returns false'. Refute it at one input. -/
def partNobodyWrong : ChangeSpec := { name := "partNobody", fn := fun _ => fun
  | [d] => { results := [.lit (.bool false)], args := [d] }
  | _ => none }
def PartNobodyWrongFalsely : Prop := partNobodyRow.holds Tryz.pinned (OpenSpec.ofChange partNobodyWrong)

/-- 'loggialaw22.PartAlike': WHATEVER THE INPUT: true; the input reads as it did. -/
def partAlikeSpec : ChangeSpec := { name := "partAlike", fn := fun _ => fun
  | [d1, d2] => { results := [.lit (.bool true)], args := [d1, d2] }
  | _ => none }
def partAlikeRow : OpenClaim := { program := "ytpnlihgcboepeaagreat", sum := "bf70f2aeab488861d8e4c64087767a048a1db1bfef5a26fab5805bcef3631158", func := "loggia/loggialaw22.PartAlike", spec := "partAlike", inPlace := ["internal/abi.NoEscape", "internal/bytealg.abigen_runtime_cmpstring"], unfollowed := true, recurses := true, loops := true, plainKeys := false, apart := false }
def PartAlikeSaid : Prop := partAlikeRow.holds Tryz.pinned (OpenSpec.ofChange partAlikeSpec)

/-- ITS FALSE NEIGHBOUR: 'it returns false'. Refute it at one input. -/
def partAlikeWrong : ChangeSpec := { name := "partAlike", fn := fun _ => fun
  | [d1, d2] => { results := [.lit (.bool false)], args := [d1, d2] }
  | _ => none }
def PartAlikeWrongFalsely : Prop := partAlikeRow.holds Tryz.pinned (OpenSpec.ofChange partAlikeWrong)

/-- 'loggialaw22.PartHots': WHATEVER THE INPUT: true; the input reads as it did. -/
def partHotsSpec : ChangeSpec := { name := "partHots", fn := fun _ => fun
  | [d1, d2] => { results := [.lit (.bool true)], args := [d1, d2] }
  | _ => none }
def partHotsRow : OpenClaim := { program := "ytpnlihgcboepeaagreat", sum := "bf70f2aeab488861d8e4c64087767a048a1db1bfef5a26fab5805bcef3631158", func := "loggia/loggialaw22.PartHots", spec := "partHots", inPlace := ["internal/abi.NoEscape", "internal/bytealg.abigen_runtime_cmpstring"], unfollowed := true, recurses := true, loops := true, plainKeys := false, apart := false }
def PartHotsSaid : Prop := partHotsRow.holds Tryz.pinned (OpenSpec.ofChange partHotsSpec)

/-- ITS FALSE NEIGHBOUR: 'it returns false'. Refute it at one input. -/
def partHotsWrong : ChangeSpec := { name := "partHots", fn := fun _ => fun
  | [d1, d2] => { results := [.lit (.bool false)], args := [d1, d2] }
  | _ => none }
def PartHotsWrongFalsely : Prop := partHotsRow.holds Tryz.pinned (OpenSpec.ofChange partHotsWrong)

/- THE SECOND FORM. 'bulk': how many values and letters a reading holds, each counted each time it is reached (what is shared counts as often as it is met; a slice's spare places count too). A statement '..UptoSaid' is the law's where the arguments, and the package variables that the reading takes, are together of bulk at most 1048576: NARROWER than '..Said'. Prove '..Said' where nothing that the law and all that it calls make is longer than what came in: it says more and counts as full. Else prove '..UptoSaid'. A law counts once. -/
mutual
def uptoBulk {H : Type} : DataW H → Nat
  | .lit (.string bytes) => bytes.length + 1
  | .lit _ => 1
  | .nil => 1
  | .ptr d => uptoBulk d + 1
  | .slice elems spare => uptoBulkAll elems + uptoBulkAll spare + 1
  | .agg parts => uptoBulkAll parts + 1
  | .iface _ d => uptoBulk d + 1
  | .map entries => uptoBulkEntries entries + 1
  | .held _ => 1
def uptoBulkAll {H : Type} : List (DataW H) → Nat
  | [] => 0
  | d :: r => uptoBulk d + uptoBulkAll r
def uptoBulkEntries {H : Type} : List (Lit × DataW H) → Nat
  | [] => 0
  | x :: r => uptoBulkEntry x + uptoBulkEntries r
def uptoBulkEntry {H : Type} : Lit × DataW H → Nat
  | (.string bytes, d) => bytes.length + uptoBulk d + 1
  | (_, d) => uptoBulk d + 1
 end
def uptoSmall : (H : Type) → List (DataW H) → Bool := fun _ ds => decide (uptoBulkAll ds ≤ 1048576)
def OpenSpec.upto (s : _root_.Go.ChangeSpec) : _root_.Go.OpenSpec := { _root_.Go.OpenSpec.ofChange s with cond := some uptoSmall }

/-- 'loggialaw22.PartOpens', WHERE WHAT IT READS IS OF BULK AT MOST 1048576: true; the input reads as it did. -/
def partOpensUptoRow : OpenClaim := { program := "ytpnlihgcboepeaagreat", sum := "bf70f2aeab488861d8e4c64087767a048a1db1bfef5a26fab5805bcef3631158", func := "loggia/loggialaw22.PartOpens", spec := "partOpens", inPlace := ["internal/abi.NoEscape", "internal/bytealg.abigen_runtime_cmpstring"], unfollowed := true, recurses := true, plainKeys := false, apart := false, narrowed := true }
def PartOpensUptoSaid : Prop := partOpensUptoRow.holds Tryz.pinned (OpenSpec.upto partOpensSpec)

/-- 'loggialaw22.PartNobody', WHERE WHAT IT READS IS OF BULK AT MOST 1048576: true; the input reads as it did. -/
def partNobodyUptoRow : OpenClaim := { program := "ytpnlihgcboepeaagreat", sum := "bf70f2aeab488861d8e4c64087767a048a1db1bfef5a26fab5805bcef3631158", func := "loggia/loggialaw22.PartNobody", spec := "partNobody", inPlace := ["internal/abi.NoEscape", "internal/bytealg.abigen_runtime_cmpstring"], unfollowed := true, recurses := true, loops := true, plainKeys := false, apart := false, narrowed := true }
def PartNobodyUptoSaid : Prop := partNobodyUptoRow.holds Tryz.pinned (OpenSpec.upto partNobodySpec)

/-- 'loggialaw22.PartAlike', WHERE WHAT IT READS IS OF BULK AT MOST 1048576: true; the input reads as it did. -/
def partAlikeUptoRow : OpenClaim := { program := "ytpnlihgcboepeaagreat", sum := "bf70f2aeab488861d8e4c64087767a048a1db1bfef5a26fab5805bcef3631158", func := "loggia/loggialaw22.PartAlike", spec := "partAlike", inPlace := ["internal/abi.NoEscape", "internal/bytealg.abigen_runtime_cmpstring"], unfollowed := true, recurses := true, loops := true, plainKeys := false, apart := false, narrowed := true }
def PartAlikeUptoSaid : Prop := partAlikeUptoRow.holds Tryz.pinned (OpenSpec.upto partAlikeSpec)

/-- 'loggialaw22.PartHots', WHERE WHAT IT READS IS OF BULK AT MOST 1048576: true; the input reads as it did. -/
def partHotsUptoRow : OpenClaim := { program := "ytpnlihgcboepeaagreat", sum := "bf70f2aeab488861d8e4c64087767a048a1db1bfef5a26fab5805bcef3631158", func := "loggia/loggialaw22.PartHots", spec := "partHots", inPlace := ["internal/abi.NoEscape", "internal/bytealg.abigen_runtime_cmpstring"], unfollowed := true, recurses := true, loops := true, plainKeys := false, apart := false, narrowed := true }
def PartHotsUptoSaid : Prop := partHotsUptoRow.holds Tryz.pinned (OpenSpec.upto partHotsSpec)

end Rows
end Go.Proofs.YtpnlihgcboepeaaGreat
