/- An event's line, plainly; what stays of a builder. -/
import Derived.Test.YtpajpdkliohepaaDoorLnP
import Derived.Test.YtpajpdkliohepaaDoorEvP
import Derived.Test.YtpajpdkliohepaaDoorNum
import Derived.Test.YtpajpdkliohepaaDoorBld
namespace Go.Proofs.YtpajpdkliohepaaDoor
open Go.RowKit

def fieldL (f : Fd) : List UInt8 := 32 :: (f.1 ++ 61 :: quoteL f.2)
def fmtL (at_ : Int) (fs : List Fd) : List UInt8 := Lib.itoa at_ ++ fs.flatMap fieldL
theorem cat2 (a b : List UInt8) : (ByteArray.mk a.toArray ++ ByteArray.mk b.toArray) = ⟨(a ++ b).toArray⟩ := by
  apply ByteArray.ext
  rw [ByteArray.data_append]
  simp
theorem cat2a (a : Array UInt8) (b : List UInt8) : (ByteArray.mk a ++ ByteArray.mk b.toArray) = ⟨(a.toList ++ b).toArray⟩ := by
  have := cat2 a.toList b
  simpa using this
theorem cat2b (a : List UInt8) (b : Array UInt8) : (ByteArray.mk a.toArray ++ ByteArray.mk b) = ⟨(a ++ b.toList).toArray⟩ := by
  have := cat2 a b.toList
  simpa using this
theorem strCells_of (l : List UInt8) : Lib.strCells ⟨l.toArray⟩ = l.map B8 := rfl
/-- A builder at block b, B at most b, that holds the bytes l. -/
def Bd (w : World) (b : Nat) (l : List UInt8) : Prop := Lib.IsBuilder 57 5 b b (l.map B8) w
theorem Bd.ext {w w1 : World} {b : Nat} {l : List UInt8} (h : Bd w b l) (hE : Ext w w1) : Bd w1 b l := by
  rcases h with ⟨h1, v, h2, h3⟩ | ⟨h1, v, h2, h3⟩
  · exact .inl ⟨h1, v, hE.block h2, hE.owns h3.1, h3.2⟩
  · exact .inr ⟨h1, v, hE.block h2, hE.owns h3.1, h3.2⟩
theorem Bd.fresh (w : World) : Bd (w.alloc (.cells #[.pointer none, .slice none 0 0] 57)) w.heap.size [] := Lib.fresh_isBuilder _ _ w
theorem Bd.lt {w : World} {b : Nat} {l : List UInt8} (h : Bd w b l) : b < w.heap.size := by
  rcases h with ⟨h1, v, h2, h3⟩ | ⟨h1, v, h2, h3⟩
  · exact (Array.getElem?_eq_some_iff.1 h2).1
  · exact (Array.getElem?_eq_some_iff.1 h2).1
theorem bwrite_any (b : Nat) (l s : List UInt8) (w : World) (h : Bd w b l) (hlen : l.length + s.length ≤ 100000000) : Calls Tryd.prog 25 #[.pointer (some ⟨b, 0, none⟩), .string ⟨s.toArray⟩] w fun e w' => e = .returned (.tuple #[.int .i64 s.length, .nilIface]) ∧ Bd w' b (l ++ s) ∧ Below b w w' := by
  have hsz : (⟨s.toArray⟩ : ByteArray).size = s.length := ByteArray.size_mk_toArray s
  refine (Tryd.Builder_WriteString b b (l.map B8) ⟨s.toArray⟩ w h (by rw [hsz, List.length_map]; omega) (Nat.le_of_lt h.lt)).mono fun e w' ⟨he, hb, hE⟩ => ⟨by rw [he, hsz], .inr (by rw [strCells_of, ← List.map_append] at hb; exact hb), hE⟩
theorem bwbyte_any (b : Nat) (l : List UInt8) (x : UInt8) (w : World) (h : Bd w b l) (hlen : l.length ≤ 100000000) : Calls Tryd.prog 37 #[.pointer (some ⟨b, 0, none⟩), .int .u8 (x.toNat : Int)] w fun e w' => e = .returned .nilIface ∧ Bd w' b (l ++ [x]) ∧ Below b w w' :=
  (Tryd.Builder_WriteByte b b (l.map B8) (x.toNat : Int) w h (by rw [List.length_map]; omega) (Nat.le_of_lt h.lt)).mono fun e w' ⟨he, hb, hE⟩ => ⟨he, .inr (by
    have : (l ++ [x]).map B8 = l.map B8 ++ [.int .u8 (x.toNat : Int)] := by rw [List.map_append]; rfl
    rw [this]
    exact hb), hE⟩
theorem bstring_any (b : Nat) (l : List UInt8) (w : World) (h : Bd w b l) : Calls Tryd.prog 27 #[.pointer (some ⟨b, 0, none⟩)] w fun e w' => e = .returned (.string ⟨l.toArray⟩) ∧ Below b w w' :=
  Tryd.Builder_String_any b b l w h (Nat.le_of_lt h.lt)
theorem blen_any (b : Nat) (l : List UInt8) (w : World) (h : Bd w b l) : Calls Tryd.prog 38 #[.pointer (some ⟨b, 0, none⟩)] w fun e w' => e = .returned (.int .i64 l.length) ∧ w' = w := by
  have := Tryd.Builder_Len b b (l.map B8) w h
  rw [List.length_map] at this
  exact this
end Go.Proofs.YtpajpdkliohepaaDoor
