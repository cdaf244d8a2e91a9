/- loggia/disk: how a disk lies in memory. -/
import Derived.Test.YticnncgbfpgeaaaDkD
namespace Go.Proofs.Yticnncgbfpgeaaa
open Go.RowKit Go.Maps

theorem keyS : Keyed Try.prog 9 := string_keyed Try.underlying9
/-- A file: its name, its block, its bytes, how many are durable, where they lie. -/
structure Ent where
  name : List UInt8
  f : Nat
  b : List UInt8
  sure : Nat
  A : Option Addr
  c : Nat
def Ent.kv (e : Ent) : Value × Value := (str e.name, .pointer (some ⟨e.f, 0, none⟩))
/-- What the document says of it. -/
def Ent.pl (e : Ent) : List UInt8 × List UInt8 × Nat := (e.name, e.b, e.sure)
structure EOk (w : World) (base : Nat) (e : Ent) : Prop where
  row : Row w e.f 75 #[.slice e.A e.b.length e.c, .int .i64 e.sure]
  buf : Buf w base 5 e.A e.b.length e.c (e.b.map B8)
  low : base ≤ e.f
  sure : e.sure ≤ e.b.length
/-- The map m has just the files E. -/
structure FS (w : World) (base m : Nat) (E : List Ent) : Prop where
  map : ∃ L, MapL Try.prog 9 w m L ∧ (∀ p, p ∈ L ↔ ∃ e ∈ E, p = e.kv) ∧ L.length = E.length
  ok : ∀ e ∈ E, EOk w base e
  low : base ≤ m
  names : (E.map Ent.name).Nodup
  short : ∀ e ∈ E, e.name.length ≤ 9223372036854775807
  fd : E.Pairwise (fun a b => a.f ≠ b.f)
  ad : E.Pairwise (fun a b => ∀ x y, a.A = some x → b.A = some y → x.block ≠ y.block)
end Go.Proofs.Yticnncgbfpgeaaa
