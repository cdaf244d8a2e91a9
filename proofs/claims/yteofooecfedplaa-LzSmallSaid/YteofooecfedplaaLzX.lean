/- loggia/lz: Unpack. -/
import Derived.Test.YteofooecfedplaaLzW
namespace Go.Proofs.Yteofooecfedplaa
open Go.RowKit

theorem order_any (b base : Nat) (A : Option Addr) (cap : Nat) (c : UInt8) (r out : List UInt8) (Ao : Option Addr) (co most : Nat) (w : World) (hS : RS w b base A cap (c :: r) out Ao co most)
  (hr : r.length ≤ 1048576) (hmost : most ≤ 16777216) (hout : out.length ≤ most) :
    Calls Try.prog 22 #[.pointer (some ⟨b, 0, none⟩)] w fun e w' => e = .returned (.bool (ordM most c r out).isSome) ∧
      (∀ rest' out', ordM most c r out = some (rest', out') → ∃ A1 c1 Ao1 co1, RS w' b base A1 c1 rest' out' Ao1 co1 most) ∧ Below base w w' := by
  by_cases hlit : c.toNat < 128
  · exact order_lit b base A cap c r out Ao co most w hS hlit hr hmost hout
  · exact order_match b base A cap c r out Ao co most w hS hlit hr hmost hout
theorem ordM_some {most : Nat} {c : UInt8} {r out r' out' : List UInt8} (h : ordM most c r out = some (r', out')) : r'.length ≤ r.length ∧ out'.length ≤ most := by
  unfold ordM at h
  split at h
  · split at h
    · cases h
      simp
      omega
    · cases h
  · split at h
    · cases h
    · split at h
      · cases h
      · cases h
        rw [cpy_length]
        simp
        omega
/-- Orders, one after the other. -/
def upF (most : Nat) : Nat → List UInt8 → List UInt8 → Option (List UInt8)
  | _, [], out => some out
  | 0, _ :: _, _ => none
  | f + 1, c :: r, out => match ordM most c r out with
    | none => none
    | some (r', out') => upF most f r' out'
theorem upF_no {most f : Nat} {c : UInt8} {r out : List UInt8} (h : ordM most c r out = none) : upF most (f + 1) (c :: r) out = none := by
  unfold upF
  rw [h]
theorem upF_yes {most f : Nat} {c : UInt8} {r out r' out' : List UInt8} (h : ordM most c r out = some (r', out')) : upF most (f + 1) (c :: r) out = upF most f r' out' := by
  conv => lhs; unfold upF
  rw [h]
/-- What packed bytes stand for, and what is wrong with them. -/
def upM (l : List UInt8) : List UInt8 × Nat :=
  if (sizeM l).2 = 0 then
    match upF (sizeM l).1 l.length (l.drop 4) [] with
    | none => ([], 50)
    | some out => if out.length = (sizeM l).1 then (out, 0) else ([], 50)
  else ([], (sizeM l).2)
theorem sizeM_ok {l : List UInt8} (h : (sizeM l).2 = 0) : 4 ≤ l.length ∧ (sizeM l).1 ≤ 16777216 := by
  unfold sizeM at h ⊢
  split
  · rename_i h4; rw [if_pos h4] at h; cases h
  · rename_i h4
    rw [if_neg h4] at h
    split
    · rename_i h5; rw [if_pos h5] at h; cases h
    · exact ⟨by omega, by simp only []; omega⟩
/-- How long the slice in a cell is. -/
def lenAt (w : World) (p : Addr) : Nat := match w.cell? p with
  | some (.slice _ n _) => n
  | _ => 0
theorem lenAt_of {w : World} {p : Addr} {A : Option Addr} {n c : Nat} (h : w.cell? p = some (.slice A n c)) : lenAt w p = n := by
  unfold lenAt
  rw [h]

set_option maxRecDepth 100000 in
set_option maxHeartbeats 1000000 in
theorem unpack_any (A : Option Addr) (c ln : Nat) (l : List UInt8) (w : World) (hln : ln = l.length) (hl : Bs w A l) (hA : ∀ a, A = some a → a.block < w.heap.size) (hn : ln ≤ 1048576) (hc : ln ≤ c) :
    Calls Try.prog 13 #[.slice A ln c] w fun e w' => ∃ A1 n1 c1, e = .returned (.tuple #[.slice A1 n1 c1, .int .i64 (upM l).2]) ∧ n1 = (upM l).1.length ∧ Bs w' A1 (upM l).1 ∧ Ext w w' := by
  have hsz := size_any A c l w hl (by rw [← hln]; exact hn)
  rw [← hln] at hsz
  replace hsz := hide hsz
  replace hln := hide hln
  by_cases he : (sizeM l).2 = 0
  · obtain ⟨h4, hm⟩ := sizeM_ok he
    rw [← hln.out] at h4
    obtain ⟨most, hmost⟩ : ∃ m, m = (sizeM l).1 := ⟨_, rfl⟩
    have hup : upM l = match upF most l.length (l.drop 4) [] with
      | none => ([], 50)
      | some out => if out.length = most then (out, 0) else ([], 50) := by
      unfold upM
      rw [if_pos he, ← hmost]
    have hsz2 : Hid (Calls Try.prog 15 #[.slice A ln c] w fun e w' => e = .returned (.tuple #[.int .i64 most, .int .i64 0]) ∧ Ext w w') := by
      have := hsz.out
      rw [he, ← hmost] at this
      exact this
    rw [← hmost] at hm
    replace hmost := hide hmost
    replace hup := hide hup
    have hbeh : Hid (∀ w1, Ext w w1 → Bs w1 (if c = 4 then A else A.map (fun x => x.add 4)) (l.drop 4) ∧ ∀ x, (if c = 4 then A else A.map (fun x => x.add 4)) = some x → x.block < w.heap.size) := fun w1 hE =>
      ⟨(hl.ext hE).behind (by rw [← hln.out]; exact h4) (by rw [← hln.out]; exact hc), add_lt hA⟩
    have hld : (l.drop 4).length = ln - 4 := by rw [List.length_drop, ← hln.out]
    replace hld := hide hld
    have hstart : ∀ w1 A4 c4 n4, Ext w w1 → n4 = (l.drop 4).length → n4 ≤ c4 → Bs w1 A4 (l.drop 4) → (∀ x, A4 = some x → x.block < w.heap.size) →
        RS (w1.alloc (.cells #[.slice A4 n4 c4, .slice none 0 0, .int .i64 most] 53)) w1.heap.size w.heap.size A4 c4 (l.drop 4) [] none 0 most := by
      intro w1 A4 c4 n4 hE hn4 hc4 hb hlt
      subst hn4
      refine ⟨Row.new _ _ _, hb.ext ((Ext.refl w1).alloc _), hlt, hc4, ⟨rfl, .inl ⟨rfl, rfl⟩⟩, ?_, hE.size⟩
      simp
      exact Nat.le_succ_of_le hE.size
    replace hstart := hide hstart
    obtain ⟨g, o, rfl, _⟩ := hl.at_ (by rw [← hln.out]; omega)
    rcases Nat.lt_or_ge 4 c with hc4 | hc4
    · have hbeh2 : Hid (∀ w1, Ext w w1 → Bs w1 (some ⟨g, o + 4, none⟩) (l.drop 4) ∧ ∀ x, some (⟨g, o + 4, none⟩ : Addr) = some x → x.block < w.heap.size) := by
        have := hbeh.out
        rw [if_neg (by omega)] at this
        simp only [Option.map_some, Addr.add_lit] at this
        exact this
      clear hbeh hsz
      go_enter Try.func13, Try.ntmps13
      go_wp2_with fail
      refine hsz2.out.mono ?_
      rintro e w1 ⟨rfl, hE1⟩
      go_wp2_with fail
      have hRS := hstart.out w1 _ (c - 4) (ln - 4) hE1 hld.out.symm (by omega) (hbeh2.out w1 hE1).1 (hbeh2.out w1 hE1).2
      have hEW : Ext w (w1.alloc (.cells #[.slice (some ⟨g, o + 4, none⟩) (ln - 4) (c - 4), .slice none 0 0, .int .i64 most] 53)) := hE1.alloc _
      obtain ⟨b, hb⟩ : ∃ b, b = w1.heap.size := ⟨_, rfl⟩
      obtain ⟨W, hW⟩ : ∃ W, W = w1.alloc (.cells #[.slice (some ⟨g, o + 4, none⟩) (ln - 4) (c - 4), .slice none 0 0, .int .i64 most] 53) := ⟨_, rfl⟩
      rw [← hW, ← hb] at hRS ⊢
      rw [← hW] at hEW
      replace hW := hide hW
      replace hb := hide hb
      replace hRS := hide hRS
      go_loopw [] (fun wr => ∃ (f n : Nat) (rest out : List UInt8) (Ar : Option Addr) (cr : Nat) (Ao : Option Addr) (co : Nat), Hid (n = rest.length) ∧ n ≤ ln ∧ n ≤ f ∧ Hid (out.length ≤ most) ∧ Hid (upF most f rest out = upF most l.length (l.drop 4) []) ∧ Hid (RS wr b w.heap.size Ar cr rest out Ao co most) ∧ Ext w wr) (fun wr => lenAt wr ⟨b, 0, none⟩)
      case atStart => exact ⟨l.length, ln - 4, l.drop 4, [], _, _, _, _, hide hld.out.symm, by omega, by rw [← hln.out]; omega, hide (by simp), rfl, hRS, hEW⟩
      case round =>
        obtain ⟨f, n, rest, out, Ar, cr, Ao, co, hn1, hn2, hnf, ho, hu, hR, hE⟩ := hrel
        clear hRS hEW
        obtain ⟨R, hb1, hlt1, hcap, hown, hs, hbb⟩ := hR.out
        rw [← hn1.out] at R
        obtain ⟨on, hon⟩ : ∃ on, on = out.length := ⟨_, rfl⟩
        rw [← hon] at R
        have ca0 : wr.cell? ⟨b, 0, none⟩ = some (.slice Ar n cr) := R.cell 0 rfl
        have ca1 : wr.cell? ⟨b, 1, none⟩ = some (.slice Ao on co) := R.cell 1 rfl
        replace hon := hide hon
        cases rest with
        | nil =>
          have hn0 : n = 0 := hn1.out
          subst hn0
          have hup2 : upM l = if on = most then (out, 0) else ([], 50) := by
            rw [hup.out, ← hu.out, hon.out]
            cases f <;> rfl
          replace hup2 := hide hup2
          have hbs : Bs wr Ao out := Cells.of_own hown
          replace hbs := hide hbs
          by_cases hom : on = most
          · have hup3 : upM l = (out, 0) := by rw [hup2.out, if_pos hom]
            have hom' : ((on : Int) == (most : Int)) = true := by rw [hom]; exact beq_self_eq_true _
            replace hup3 := hide hup3
            replace hom := hide hom
            clear hup2
            go_wp2_with fail
            go_ret2
            rw [hup3.out]
            exact ⟨_, _, _, rfl, hon.out, hbs.out, hE⟩
          · have hom' : ((on : Int) == (most : Int)) = false := beq_eq_false_iff_ne.2 (by omega)
            have hup3 : upM l = ([], 50) := by rw [hup2.out, if_neg hom]
            replace hup3 := hide hup3
            replace hom := hide hom
            clear hup2
            go_wp2_with fail
            go_ret2
            rw [hup3.out]
            exact ⟨_, _, _, rfl, rfl, .inl rfl, hE⟩
        | cons ch r =>
          obtain ⟨f, rfl⟩ : ∃ f', f = f' + 1 := ⟨f - 1, by have := hn1.out; simp at this; omega⟩
          have hord := order_any b w.heap.size Ar cr ch r out Ao co most wr hR.out (by have := hn1.out; simp at this; omega) hm ho.out
          replace hord := hide hord
          have hn0 : 0 < n := by have := hn1.out; simp at this; omega
          have hlat := lenAt_of ca0
          replace hlat := hide hlat
          cases hoc : ordM most ch r out with
          | none =>
            have hup2 : upM l = ([], 50) := by
              rw [hup.out, ← hu.out, upF_no hoc]
            have hord2 : Hid (Calls Try.prog 22 #[.pointer (some ⟨b, 0, none⟩)] wr fun e w' => e = .returned (.bool false) ∧ Below w.heap.size wr w') :=
              hord.out.mono (fun e w' h => ⟨by rw [h.1, hoc]; rfl, h.2.2⟩)
            replace hup2 := hide hup2
            replace hoc := hide hoc
            go_wp2_with fail
            refine hord2.out.mono ?_
            rintro e w2 ⟨rfl, hB2⟩
            go_wp2_with fail
            go_ret2
            rw [hup2.out]
            exact ⟨_, _, _, rfl, rfl, .inl rfl, Below.trans hE hB2⟩
          | some p =>
            obtain ⟨r', out'⟩ := p
            have hos := ordM_some hoc
            have hup2 : upF most f r' out' = upF most l.length (l.drop 4) [] := by
              rw [← hu.out, upF_yes hoc]
            have hord2 : Hid (Calls Try.prog 22 #[.pointer (some ⟨b, 0, none⟩)] wr fun e w' => e = .returned (.bool true) ∧ (∃ A1 c1 Ao1 co1, RS w' b w.heap.size A1 c1 r' out' Ao1 co1 most) ∧ Below w.heap.size wr w') :=
              hord.out.mono (fun e w' h => ⟨by rw [h.1, hoc]; rfl, h.2.1 _ _ hoc, h.2.2⟩)
            replace hup2 := hide hup2
            replace hoc := hide hoc
            replace hos := hide hos
            go_wp2_with fail
            refine hord2.out.mono ?_
            rintro e w2 ⟨rfl, ⟨A1, c1, Ao1, co1, hR2⟩, hB2⟩
            have hl2 := lenAt_of (hR2.row.cell 0 rfl)
            have hnn := hn1.out
            simp at hnn
            have hol := hos.out
            have hrn : r'.length ≤ n - 1 := by omega
            replace hnn := hide hnn
            replace hl2 := hide hl2
            go_wp2_with fail
            go_roundw
            case rel => exact ⟨f, r'.length, r', out', A1, c1, Ao1, co1, rfl, by omega, by omega, hide hol.2, hup2, hR2, Below.trans hE hB2⟩
            case measure => rw [hl2.out, hlat.out]; omega
    · obtain rfl : c = 4 := by omega
      obtain rfl : ln = 4 := by omega
      have hbeh2 : Hid (∀ w1, Ext w w1 → Bs w1 (some ⟨g, o, none⟩) (l.drop 4) ∧ ∀ x, some (⟨g, o, none⟩ : Addr) = some x → x.block < w.heap.size) := by
        have := hbeh.out
        rw [if_pos rfl] at this
        exact this
      clear hbeh hsz
      go_enter Try.func13, Try.ntmps13
      go_wp2_with fail
      refine hsz2.out.mono ?_
      rintro e w1 ⟨rfl, hE1⟩
      go_wp2_with fail
      have hRS := hstart.out w1 _ 0 0 hE1 hld.out.symm (by omega) (hbeh2.out w1 hE1).1 (hbeh2.out w1 hE1).2
      have hEW : Ext w (w1.alloc (.cells #[.slice (some ⟨g, o, none⟩) 0 0, .slice none 0 0, .int .i64 most] 53)) := hE1.alloc _
      obtain ⟨b, hb⟩ : ∃ b, b = w1.heap.size := ⟨_, rfl⟩
      obtain ⟨W, hW⟩ : ∃ W, W = w1.alloc (.cells #[.slice (some ⟨g, o, none⟩) 0 0, .slice none 0 0, .int .i64 most] 53) := ⟨_, rfl⟩
      rw [← hW, ← hb] at hRS ⊢
      rw [← hW] at hEW
      replace hW := hide hW
      replace hb := hide hb
      replace hRS := hide hRS
      go_loopw [] (fun wr => ∃ (f n : Nat) (rest out : List UInt8) (Ar : Option Addr) (cr : Nat) (Ao : Option Addr) (co : Nat), Hid (n = rest.length) ∧ n ≤ 4 ∧ n ≤ f ∧ Hid (out.length ≤ most) ∧ Hid (upF most f rest out = upF most l.length (l.drop 4) []) ∧ Hid (RS wr b w.heap.size Ar cr rest out Ao co most) ∧ Ext w wr) (fun wr => lenAt wr ⟨b, 0, none⟩)
      case atStart => exact ⟨l.length, 0, l.drop 4, [], _, _, _, _, hide hld.out.symm, by omega, by omega, hide (by simp), rfl, hRS, hEW⟩
      case round =>
        obtain ⟨f, n, rest, out, Ar, cr, Ao, co, hn1, hn2, hnf, ho, hu, hR, hE⟩ := hrel
        clear hRS hEW
        obtain ⟨R, hb1, hlt1, hcap, hown, hs, hbb⟩ := hR.out
        rw [← hn1.out] at R
        obtain ⟨on, hon⟩ : ∃ on, on = out.length := ⟨_, rfl⟩
        rw [← hon] at R
        have ca0 : wr.cell? ⟨b, 0, none⟩ = some (.slice Ar n cr) := R.cell 0 rfl
        have ca1 : wr.cell? ⟨b, 1, none⟩ = some (.slice Ao on co) := R.cell 1 rfl
        replace hon := hide hon
        cases rest with
        | nil =>
          have hn0 : n = 0 := hn1.out
          subst hn0
          have hup2 : upM l = if on = most then (out, 0) else ([], 50) := by
            rw [hup.out, ← hu.out, hon.out]
            cases f <;> rfl
          replace hup2 := hide hup2
          have hbs : Bs wr Ao out := Cells.of_own hown
          replace hbs := hide hbs
          by_cases hom : on = most
          · have hup3 : upM l = (out, 0) := by rw [hup2.out, if_pos hom]
            have hom' : ((on : Int) == (most : Int)) = true := by rw [hom]; exact beq_self_eq_true _
            replace hup3 := hide hup3
            replace hom := hide hom
            clear hup2
            go_wp2_with fail
            go_ret2
            rw [hup3.out]
            exact ⟨_, _, _, rfl, hon.out, hbs.out, hE⟩
          · have hom' : ((on : Int) == (most : Int)) = false := beq_eq_false_iff_ne.2 (by omega)
            have hup3 : upM l = ([], 50) := by rw [hup2.out, if_neg hom]
            replace hup3 := hide hup3
            replace hom := hide hom
            clear hup2
            go_wp2_with fail
            go_ret2
            rw [hup3.out]
            exact ⟨_, _, _, rfl, rfl, .inl rfl, hE⟩
        | cons ch r =>
          obtain ⟨f, rfl⟩ : ∃ f', f = f' + 1 := ⟨f - 1, by have := hn1.out; simp at this; omega⟩
          have hord := order_any b w.heap.size Ar cr ch r out Ao co most wr hR.out (by have := hn1.out; simp at this; omega) hm ho.out
          replace hord := hide hord
          have hn0 : 0 < n := by have := hn1.out; simp at this; omega
          have hlat := lenAt_of ca0
          replace hlat := hide hlat
          cases hoc : ordM most ch r out with
          | none =>
            have hup2 : upM l = ([], 50) := by
              rw [hup.out, ← hu.out, upF_no hoc]
            have hord2 : Hid (Calls Try.prog 22 #[.pointer (some ⟨b, 0, none⟩)] wr fun e w' => e = .returned (.bool false) ∧ Below w.heap.size wr w') :=
              hord.out.mono (fun e w' h => ⟨by rw [h.1, hoc]; rfl, h.2.2⟩)
            replace hup2 := hide hup2
            replace hoc := hide hoc
            go_wp2_with fail
            refine hord2.out.mono ?_
            rintro e w2 ⟨rfl, hB2⟩
            go_wp2_with fail
            go_ret2
            rw [hup2.out]
            exact ⟨_, _, _, rfl, rfl, .inl rfl, Below.trans hE hB2⟩
          | some p =>
            obtain ⟨r', out'⟩ := p
            have hos := ordM_some hoc
            have hup2 : upF most f r' out' = upF most l.length (l.drop 4) [] := by
              rw [← hu.out, upF_yes hoc]
            have hord2 : Hid (Calls Try.prog 22 #[.pointer (some ⟨b, 0, none⟩)] wr fun e w' => e = .returned (.bool true) ∧ (∃ A1 c1 Ao1 co1, RS w' b w.heap.size A1 c1 r' out' Ao1 co1 most) ∧ Below w.heap.size wr w') :=
              hord.out.mono (fun e w' h => ⟨by rw [h.1, hoc]; rfl, h.2.1 _ _ hoc, h.2.2⟩)
            replace hup2 := hide hup2
            replace hoc := hide hoc
            replace hos := hide hos
            go_wp2_with fail
            refine hord2.out.mono ?_
            rintro e w2 ⟨rfl, ⟨A1, c1, Ao1, co1, hR2⟩, hB2⟩
            have hl2 := lenAt_of (hR2.row.cell 0 rfl)
            have hnn := hn1.out
            simp at hnn
            have hol := hos.out
            have hrn : r'.length ≤ n - 1 := by omega
            replace hnn := hide hnn
            replace hl2 := hide hl2
            go_wp2_with fail
            go_roundw
            case rel => exact ⟨f, r'.length, r', out', A1, c1, Ao1, co1, rfl, by omega, by omega, hide hol.2, hup2, hR2, Below.trans hE hB2⟩
            case measure => rw [hl2.out, hlat.out]; omega
  · have hup : upM l = ([], (sizeM l).2) := by unfold upM; rw [if_neg he]
    have he' : (((sizeM l).2 : Int) == 0) = false := beq_eq_false_iff_ne.2 (by omega)
    go_enter Try.func13, Try.ntmps13
    go_wp2_with fail
    refine hsz.out.mono ?_
    rintro e w1 ⟨rfl, hE1⟩
    replace hup := hide hup
    go_wp2_with fail
    go_ret2
    rw [hup.out]
    exact ⟨_, _, _, rfl, rfl, .inl rfl, hE1⟩
end Go.Proofs.Yteofooecfedplaa
