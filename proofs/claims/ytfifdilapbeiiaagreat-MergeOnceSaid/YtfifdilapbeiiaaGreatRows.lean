/-
  No cell of these rows narrows 'for every input' (looked for: loops, veiled, ifaces, maps, wideKeys, modest, calm, conditions, laid).
  DERIVED. THE GIVEN ROWS OF THIS SEAT. 4 by the template 'for every input the law returns true; each argument reads behind the call as it read before'; 0 by the template 'total and deterministic' (their statements: YtfifdilapbeiiaaGreatTotals.lean).
  GIVEN WITH THE SEED: the statements are not yours to turn. If you find one false, say at which input.
  Laid BY PROGRAM, IN A SANDBOX (cutbox-rows.mjs): the forced cells as the released guide's own fill.sh prints them over the translation 62c9426a31c0a983… (all of the seat's roots in one cut). By AI agents, Wed Nov 11 2026. No macro, syntax, notation, axiom, sorry.
-/
import Derived.Test.YtfifdilapbeiiaaGreatChecked
import GoSem.Claim
import GoSem.ClaimJoined
import GoSem.ClaimMapViews
import Derived.JoinedTies
import Derived.KernelRfl
namespace Go.Proofs.YtfifdilapbeiiaaGreat
/- THE CELL 'sum', in the pinned program and in every row, IS THE sha256 OF THE DUMP (.gsa) THAT YtfifdilapbeiiaaGreatProg.lean LOADS. Nothing in Lean hashes anything: it is a label: what it is worth is what the hold of that sum in a sandbox is worth. -/
noncomputable def Tryz.pinned : Pinned := { name := "ytfifdilapbeiiaagreat", sum := "62c9426a31c0a9832577b984f258ddf2be383d8959b6f39090ddb37d8416ec65", checked := Tryz.checked }
namespace Rows
def none {H : Type} : Left H := { results := [], args := [] }

/-- 'loggialaw33.MergeBytes': WHATEVER THE INPUT: true; the input reads as it did. -/
def mergeBytesSpec : ChangeSpec := { name := "mergeBytes", fn := fun _ => fun
  | [d1, d2] => { results := [.lit (.bool true)], args := [d1, d2] }
  | _ => none }
def mergeBytesRow : OpenClaim := { program := "ytfifdilapbeiiaagreat", sum := "62c9426a31c0a9832577b984f258ddf2be383d8959b6f39090ddb37d8416ec65", func := "loggia/loggialaw33.MergeBytes", spec := "mergeBytes", inPlace := ["internal/abi.NoEscape", "internal/bytealg.abigen_runtime_cmpstring"], unfollowed := true, recurses := true, apart := false }
def MergeBytesSaid : Prop := mergeBytesRow.holds Tryz.pinned (OpenSpec.ofChange mergeBytesSpec)

/-- ITS FALSE NEIGHBOUR: 'it returns false'. Refute it at one input. -/
def mergeBytesWrong : ChangeSpec := { name := "mergeBytes", fn := fun _ => fun
  | [d1, d2] => { results := [.lit (.bool false)], args := [d1, d2] }
  | _ => none }
def MergeBytesWrongFalsely : Prop := mergeBytesRow.holds Tryz.pinned (OpenSpec.ofChange mergeBytesWrong)

/-- 'loggialaw33.MergeGroups': WHATEVER THE INPUT: true; the input reads as it did. -/
def mergeGroupsSpec : ChangeSpec := { name := "mergeGroups", fn := fun _ => fun
  | [d1, d2] => { results := [.lit (.bool true)], args := [d1, d2] }
  | _ => none }
def mergeGroupsRow : OpenClaim := { program := "ytfifdilapbeiiaagreat", sum := "62c9426a31c0a9832577b984f258ddf2be383d8959b6f39090ddb37d8416ec65", func := "loggia/loggialaw33.MergeGroups", spec := "mergeGroups", inPlace := ["internal/abi.NoEscape", "internal/bytealg.abigen_runtime_cmpstring"], unfollowed := true, recurses := true, apart := false }
def MergeGroupsSaid : Prop := mergeGroupsRow.holds Tryz.pinned (OpenSpec.ofChange mergeGroupsSpec)

/-- ITS FALSE NEIGHBOUR: 'it returns false'. Refute it at one input. -/
def mergeGroupsWrong : ChangeSpec := { name := "mergeGroups", fn := fun _ => fun
  | [d1, d2] => { results := [.lit (.bool false)], args := [d1, d2] }
  | _ => none }
def MergeGroupsWrongFalsely : Prop := mergeGroupsRow.holds Tryz.pinned (OpenSpec.ofChange mergeGroupsWrong)

/-- 'loggialaw33.MergePosts': WHATEVER THE INPUT: true; the input reads as it did. -/
def mergePostsSpec : ChangeSpec := { name := "mergePosts", fn := fun _ => fun
  | [d1, d2] => { results := [.lit (.bool true)], args := [d1, d2] }
  | _ => none }
def mergePostsRow : OpenClaim := { program := "ytfifdilapbeiiaagreat", sum := "62c9426a31c0a9832577b984f258ddf2be383d8959b6f39090ddb37d8416ec65", func := "loggia/loggialaw33.MergePosts", spec := "mergePosts", inPlace := ["internal/abi.NoEscape", "internal/bytealg.abigen_runtime_cmpstring"], unfollowed := true, recurses := true, apart := false }
def MergePostsSaid : Prop := mergePostsRow.holds Tryz.pinned (OpenSpec.ofChange mergePostsSpec)

/-- ITS FALSE NEIGHBOUR: 'it returns false'. Refute it at one input. -/
def mergePostsWrong : ChangeSpec := { name := "mergePosts", fn := fun _ => fun
  | [d1, d2] => { results := [.lit (.bool false)], args := [d1, d2] }
  | _ => none }
def MergePostsWrongFalsely : Prop := mergePostsRow.holds Tryz.pinned (OpenSpec.ofChange mergePostsWrong)

/-- 'loggialaw33.MergeOnce': WHATEVER THE INPUT: true; the input reads as it did. -/
def mergeOnceSpec : ChangeSpec := { name := "mergeOnce", fn := fun _ => fun
  | [d1, d2, d3, d4] => { results := [.lit (.bool true)], args := [d1, d2, d3, d4] }
  | _ => none }
def mergeOnceRow : OpenClaim := { program := "ytfifdilapbeiiaagreat", sum := "62c9426a31c0a9832577b984f258ddf2be383d8959b6f39090ddb37d8416ec65", func := "loggia/loggialaw33.MergeOnce", spec := "mergeOnce", inPlace := ["internal/abi.NoEscape", "internal/bytealg.abigen_runtime_cmpstring"], unfollowed := true, recurses := true, apart := false }
def MergeOnceSaid : Prop := mergeOnceRow.holds Tryz.pinned (OpenSpec.ofChange mergeOnceSpec)

/-- ITS FALSE NEIGHBOUR: 'it returns false'. Refute it at one input. -/
def mergeOnceWrong : ChangeSpec := { name := "mergeOnce", fn := fun _ => fun
  | [d1, d2, d3, d4] => { results := [.lit (.bool false)], args := [d1, d2, d3, d4] }
  | _ => none }
def MergeOnceWrongFalsely : Prop := mergeOnceRow.holds Tryz.pinned (OpenSpec.ofChange mergeOnceWrong)

/- THE SECOND FORM. 'bulk': how many values and letters a reading holds, each counted each time it is reached (what is shared counts as often as it is met; a slice's spare places count too). A statement '..UptoSaid' is the law's where the arguments, and the package variables that the reading takes, are together of bulk at most 1048576: NARROWER than '..Said'. Prove '..Said' where nothing that the law and all that it calls make is longer than what came in: it says more and counts as full. Else prove '..UptoSaid'. A law counts once. -/
mutual
def uptoBulk {H : Type} : DataW H → Nat
  | .lit (.string bytes) => bytes.length + 1
  | .lit _ => 1
  | .nil => 1
  | .ptr d => uptoBulk d + 1
  | .slice elems spare => uptoBulkAll elems + uptoBulkAll spare + 1
  | .agg parts => uptoBulkAll parts + 1
  | .iface _ d => uptoBulk d + 1
  | .map entries => uptoBulkEntries entries + 1
  | .held _ => 1
def uptoBulkAll {H : Type} : List (DataW H) → Nat
  | [] => 0
  | d :: r => uptoBulk d + uptoBulkAll r
def uptoBulkEntries {H : Type} : List (Lit × DataW H) → Nat
  | [] => 0
  | x :: r => uptoBulkEntry x + uptoBulkEntries r
def uptoBulkEntry {H : Type} : Lit × DataW H → Nat
  | (.string bytes, d) => bytes.length + uptoBulk d + 1
  | (_, d) => uptoBulk d + 1
 end
def uptoSmall : (H : Type) → List (DataW H) → Bool := fun _ ds => decide (uptoBulkAll ds ≤ 1048576)
def OpenSpec.upto (s : _root_.Go.ChangeSpec) : _root_.Go.OpenSpec := { _root_.Go.OpenSpec.ofChange s with cond := some uptoSmall }

/-- 'loggialaw33.MergeBytes', WHERE WHAT IT READS IS OF BULK AT MOST 1048576: true; the input reads as it did. -/
def mergeBytesUptoRow : OpenClaim := { program := "ytfifdilapbeiiaagreat", sum := "62c9426a31c0a9832577b984f258ddf2be383d8959b6f39090ddb37d8416ec65", func := "loggia/loggialaw33.MergeBytes", spec := "mergeBytes", inPlace := ["internal/abi.NoEscape", "internal/bytealg.abigen_runtime_cmpstring"], unfollowed := true, recurses := true, apart := false, narrowed := true }
def MergeBytesUptoSaid : Prop := mergeBytesUptoRow.holds Tryz.pinned (OpenSpec.upto mergeBytesSpec)

/-- 'loggialaw33.MergeGroups', WHERE WHAT IT READS IS OF BULK AT MOST 1048576: true; the input reads as it did. -/
def mergeGroupsUptoRow : OpenClaim := { program := "ytfifdilapbeiiaagreat", sum := "62c9426a31c0a9832577b984f258ddf2be383d8959b6f39090ddb37d8416ec65", func := "loggia/loggialaw33.MergeGroups", spec := "mergeGroups", inPlace := ["internal/abi.NoEscape", "internal/bytealg.abigen_runtime_cmpstring"], unfollowed := true, recurses := true, apart := false, narrowed := true }
def MergeGroupsUptoSaid : Prop := mergeGroupsUptoRow.holds Tryz.pinned (OpenSpec.upto mergeGroupsSpec)

/-- 'loggialaw33.MergePosts', WHERE WHAT IT READS IS OF BULK AT MOST 1048576: true; the input reads as it did. -/
def mergePostsUptoRow : OpenClaim := { program := "ytfifdilapbeiiaagreat", sum := "62c9426a31c0a9832577b984f258ddf2be383d8959b6f39090ddb37d8416ec65", func := "loggia/loggialaw33.MergePosts", spec := "mergePosts", inPlace := ["internal/abi.NoEscape", "internal/bytealg.abigen_runtime_cmpstring"], unfollowed := true, recurses := true, apart := false, narrowed := true }
def MergePostsUptoSaid : Prop := mergePostsUptoRow.holds Tryz.pinned (OpenSpec.upto mergePostsSpec)

/-- 'loggialaw33.MergeOnce', WHERE WHAT IT READS IS OF BULK AT MOST 1048576: true; the input reads as it did. -/
def mergeOnceUptoRow : OpenClaim := { program := "ytfifdilapbeiiaagreat", sum := "62c9426a31c0a9832577b984f258ddf2be383d8959b6f39090ddb37d8416ec65", func := "loggia/loggialaw33.MergeOnce", spec := "mergeOnce", inPlace := ["internal/abi.NoEscape", "internal/bytealg.abigen_runtime_cmpstring"], unfollowed := true, recurses := true, apart := false, narrowed := true }
def MergeOnceUptoSaid : Prop := mergeOnceUptoRow.holds Tryz.pinned (OpenSpec.upto mergeOnceSpec)

end Rows
end Go.Proofs.YtfifdilapbeiiaaGreat
