/- loggiaref06: less, Used, Size, Durable. -/
import Derived.Test.YticnncgbfpgeaaaDrA
namespace Go.Proofs.Yticnncgbfpgeaaa
open Go.RowKit Go.Maps

theorem cons_lt (x y : UInt8) (a b : List UInt8) : decide (x :: a < y :: b) = if x = y then decide (a < b) else decide (x.toNat < y.toNat) := by
  by_cases h : x = y
  · rw [if_pos h]
    subst h
    congr 1
    apply propext
    rw [List.cons_lt_cons_iff]
    constructor
    · rintro (h | ⟨_, h⟩)
      · exact (UInt8.lt_irrefl _ h).elim
      · exact h
    · exact fun h => .inr ⟨rfl, h⟩
  · rw [if_neg h]
    congr 1
    apply propext
    rw [List.cons_lt_cons_iff]
    constructor
    · rintro (h1 | ⟨h1, _⟩)
      · exact h1
      · exact (h h1).elim
    · exact fun h1 => .inl h1
set_option maxRecDepth 100000 in
set_option maxHeartbeats 1000000 in
theorem rless_any (s t : List UInt8) (w : World) (hs : s.length ≤ 9223372036854775807) (ht : t.length ≤ 9223372036854775807) :
    Calls Try.prog 63 #[str s, str t] w fun e w' => e = .returned (.bool (decide (s < t))) ∧ Ext w w' := by
  unfold str
  obtain ⟨n, hn⟩ : ∃ n, n = s.length := ⟨_, rfl⟩
  obtain ⟨m, hm⟩ : ∃ m, m = t.length := ⟨_, rfl⟩
  have hsz : (⟨s.toArray⟩ : ByteArray).size = n := by rw [hn]; exact ByteArray.size_mk_toArray s
  have htz : (⟨t.toArray⟩ : ByteArray).size = m := by rw [hm]; exact ByteArray.size_mk_toArray t
  rw [← hn] at hs
  rw [← hm] at ht
  obtain ⟨b, hb⟩ : ∃ b, b = decide (s < t) := ⟨_, rfl⟩
  rw [← hb]
  replace hn := hide hn
  replace hm := hide hm
  replace hb := hide hb
  go_enter Try.func63, Try.ntmps63
  go_wp2_with fail
  go_loopw [5] (fun s5 wr => ∃ i : Nat, s5 = .int .i64 i ∧ i ≤ n ∧ i ≤ m ∧ Hid (b = decide (s.drop i < t.drop i)) ∧ Ext w wr) (fun s5 _ => n - (intOf s5).toNat)
  case atStart => exact ⟨0, rfl, by omega, by omega, hb, Ext.refl w⟩
  case round =>
    obtain ⟨i, rfl, hi, hi2, hbi, hE⟩ := hrel
    by_cases hin : i < n
    · by_cases him : i < m
      · have hil : i < s.length := by rw [← hn.out]; exact hin
        have hil2 : i < t.length := by rw [← hm.out]; exact him
        obtain ⟨x, hx⟩ : ∃ x, x = s[i] := ⟨_, rfl⟩
        obtain ⟨y, hy⟩ : ∃ y, y = t[i] := ⟨_, rfl⟩
        have hstep : b = if x = y then decide (s.drop (i + 1) < t.drop (i + 1)) else decide (x.toNat < y.toNat) := by
          rw [hbi.out, List.drop_eq_getElem_cons hil, List.drop_eq_getElem_cons hil2, cons_lt, hx, hy]
        obtain ⟨c, hc⟩ : ∃ c, c = x.toNat := ⟨_, rfl⟩
        obtain ⟨e, he⟩ : ∃ e, e = y.toNat := ⟨_, rfl⟩
        have hcx : ((⟨s.toArray⟩ : ByteArray)[i]'(by rw [hsz]; exact hin)).toNat = c := by rw [hc, hx]; rfl
        have hcy : ((⟨t.toArray⟩ : ByteArray)[i]'(by rw [htz]; exact him)).toNat = e := by rw [he, hy]; rfl
        have hxy : x = y ↔ c = e := by rw [hc, he]; exact ⟨fun h => by rw [h], fun h => UInt8.toNat_inj.1 h⟩
        rw [← hc, ← he] at hstep
        replace hstep := hide hstep
        replace hx := hide hx
        replace hy := hide hy
        replace hc := hide hc
        replace he := hide he
        replace hxy := hide hxy
        by_cases hce : c = e
        · have hb2 : Hid (b = decide (s.drop (i + 1) < t.drop (i + 1))) := hide (by rw [hstep.out, if_pos (hxy.out.2 hce)])
          have q1 : ((c : Int) == e) = true := by rw [hce]; exact beq_self_eq_true _
          have q2 : ((c : Int) != e) = false := by rw [hce]; simp
          replace hce := hide hce
          go_wp2_with fail
          refine wp_region_text follows (by kernel_rfl) (by kernel_rfl) (fun K hK => ?_)
          go_wp2_with fail
          refine ⟨by kernel_rfl, ?_⟩
          go_wp2_with fail
          go_roundw
          case rel => exact ⟨i + 1, by go_num, by omega, by omega, hb2, hE.drew⟩
          case measure => simp [intOf]; omega
        · have hb2 : Hid (b = decide (c < e)) := hide (by rw [hstep.out, if_neg fun h => hce (hxy.out.1 h)])
          have q1 : ((c : Int) == e) = false := beq_eq_false_iff_ne.2 (by omega)
          have q2 : ((c : Int) != e) = true := by simp [bne, q1]
          replace hce := hide hce
          go_wp2_with fail
          refine wp_region_text follows (by kernel_rfl) (by kernel_rfl) (fun K hK => ?_)
          go_wp2_with fail
          refine ⟨by kernel_rfl, ?_⟩
          go_wp2_with fail
          refine wp_region_text follows (by kernel_rfl) (by kernel_rfl) (fun K hK => ?_)
          go_wp2_with fail
          refine ⟨by kernel_rfl, ?_⟩
          go_wp2_with fail
          go_ret
          rw [hb2.out]
          exact ⟨ret_bool (by first | rfl | (simp; done) | (simp; omega)), hE.drew.drew⟩
      · have hb2 : Hid (b = decide (n < m)) := hide (by
          rw [hbi.out, List.drop_eq_nil_of_le (show t.length ≤ i by rw [← hm.out]; omega)]
          rw [decide_eq_false (show ¬ n < m by omega), decide_eq_false (List.not_lt_nil _)])
        have q1 : decide (n < m) = false := decide_eq_false (by omega)
        go_wp2_with fail
        go_ret
        rw [hb2.out]
        exact ⟨ret_bool (by first | rfl | (simp; done) | (simp; omega)), hE⟩
    · have hb2 : Hid (b = decide (n < m)) := hide (by
        rw [hbi.out, List.drop_eq_nil_of_le (show s.length ≤ i by rw [← hn.out]; omega)]
        by_cases h : n < m
        · rw [decide_eq_true h]
          apply decide_eq_true
          have : i < t.length := by rw [← hm.out]; omega
          rw [List.drop_eq_getElem_cons this]
          exact List.nil_lt_cons _ _
        · rw [decide_eq_false h]
          apply decide_eq_false
          rw [List.drop_eq_nil_of_le (show t.length ≤ i by rw [← hm.out]; omega)]
          exact List.not_lt_nil _)
      go_wp2_with fail
      go_ret
      rw [hb2.out]
      exact ⟨ret_bool (by first | rfl | (simp; done) | (simp; omega)), hE⟩
theorem rused_take (R : List RE) (i : Nat) (r : RE) (h : R[i]? = some r) : usedP ((R.take (i + 1)).map RE.pl) = usedP ((R.take i).map RE.pl) + r.b.length := by
  obtain ⟨hi, hr⟩ := List.getElem?_eq_some_iff.1 h
  rw [List.take_succ_eq_append_getElem hi, hr]
  unfold usedP
  simp [RE.pl]
theorem rused_bd {w : World} {N : Nat → Prop} {A : Option Addr} {n c : Nat} {R : List RE} (h : RS w N A n c R) (i : Nat) : usedP ((R.take i).map RE.pl) ≤ i * 67108864 := by
  have : ∀ l : List RE, (∀ r ∈ l, r.b.length ≤ 67108864) → usedP (l.map RE.pl) ≤ l.length * 67108864 := by
    intro l
    induction l with
    | nil => intro _; exact Nat.zero_le _
    | cons a l ih =>
      intro hl
      have h1 := ih fun r hr => hl r (List.mem_cons_of_mem _ hr)
      have h2 := hl a (List.mem_cons_self ..)
      unfold usedP at *
      simp only [List.map_cons, List.sum_cons, List.length_cons]
      show a.b.length + _ ≤ _
      omega
  refine Nat.le_trans (this _ fun r hr => (h.ok r (List.mem_of_mem_take hr)).len) ?_
  have := List.length_take_le i R
  exact Nat.mul_le_mul_right _ this
set_option maxRecDepth 100000 in
set_option maxHeartbeats 1000000 in
theorem rused_any (N : Nat → Prop) (A : Option Addr) (n c q a : Nat) (st : Bool) (R : List RE) (w : World) (h : RS w N A n c R) :
    Calls Try.prog 46 #[rdisk A n c q a st] w fun e w' => e = .returned (.int .i64 (usedP (R.map RE.pl))) ∧ Ext w w' := by
  unfold rdisk
  have hlen := h.len
  have hmany := h.many
  replace hlen := hide hlen
  go_enter Try.func46, Try.ntmps46
  go_wp2_with fail
  obtain ⟨W, hW⟩ : ∃ W, W = w.alloc (.cells #[.slice A n c, .int .i64 q, .int .i64 a, .bool st] 36) := ⟨_, rfl⟩
  rw [← hW]
  have hE : Ext w W := by rw [hW]; exact (Ext.refl w).alloc _
  have c0 : W.cell? ⟨w.heap.size, 0, none⟩ = some (.slice A n c) := by rw [hW]; exact (Row.new w _ _).cell 0 rfl
  have hR := h.ext hE
  replace hW := hide hW
  go_loopw [3, 4] (fun s3 s4 wr => ∃ i u : Nat, s4 = .int .i64 i ∧ s3 = .int .i64 u ∧ i ≤ n ∧ Hid (u = usedP ((R.take i).map RE.pl)) ∧ wr = W) (fun _ s4 _ => n - (intOf s4).toNat)
  case atStart => exact ⟨0, 0, rfl, rfl, by omega, hide rfl, rfl⟩
  case round =>
    obtain ⟨i, u, rfl, rfl, hi, hu, rfl⟩ := hrel
    by_cases hin : i < n
    · obtain ⟨g, o, r, rfl, hr, k0, k1, k2⟩ := hR.at_ hin
      have hbd := rused_bd h i
      rw [← hu.out] at hbd
      have hl := (h.ok r (List.mem_of_getElem? hr)).len
      have hu2 : Hid (u + r.b.length = usedP ((R.take (i + 1)).map RE.pl)) := hide (by rw [rused_take R i r hr, ← hu.out])
      have hbd2 : u ≤ 68719476736 := by omega
      clear hbd
      replace hr := hide hr
      go_wp2_with fail
      go_roundw
      case rel => exact ⟨i + 1, u + r.b.length, by go_num, by go_num, by omega, hu2, trivial⟩
      case measure => simp [intOf]; omega
    · obtain rfl : i = n := by omega
      have hf : u = usedP (R.map RE.pl) := by rw [hu.out, List.take_of_length_le (by rw [← hlen.out]; exact Nat.le_refl _)]
      replace hf := hide hf
      go_wp2_with fail
      go_ret
      rw [hf.out]
      exact ⟨rfl, hE⟩
/-- Where a file of a name is, plainly. -/
theorem rfind_pl {P : PD} {R : List RE} (hP : R.map RE.pl = P.L) (s : List UInt8) : (∃ i r, rfind R s = some i ∧ R[i]? = some r ∧ r.name = s ∧ P.find s = some r.pl) ∨ (rfind R s = none ∧ P.find s = none) := by
  unfold PD.find
  rw [← hP, List.find?_map]
  cases hf : rfind R s with
  | none =>
    refine .inr ⟨rfl, ?_⟩
    have : R.find? ((fun f => decide (fname f = s)) ∘ RE.pl) = none := by
      rw [List.find?_eq_none]
      intro r hr
      unfold rfind at hf
      rw [List.findIdx?_eq_none_iff] at hf
      have := hf r hr
      show ¬ (decide (r.name = s) = true)
      rw [this]
      exact Bool.false_ne_true
    rw [this]
    rfl
  | some i =>
    unfold rfind at hf
    obtain ⟨hi, hp, hno⟩ := List.findIdx?_eq_some_iff_getElem.1 hf
    refine .inl ⟨i, R[i], rfl, List.getElem?_eq_getElem hi, of_decide_eq_true hp, ?_⟩
    have : R.find? ((fun f => decide (fname f = s)) ∘ RE.pl) = some R[i] := by
      rw [List.find?_eq_some_iff_getElem]
      refine ⟨hp, i, hi, rfl, fun j hj => ?_⟩
      have := hno j hj
      show (!decide (R[j].name = s)) = true
      rw [Bool.not_eq_true] at this
      rw [this]
      rfl
    rw [this]
    rfl
set_option maxRecDepth 100000 in
set_option maxHeartbeats 1000000 in
theorem rsize_any (N : Nat → Prop) (A : Option Addr) (n c : Nat) (P : PD) (R : List RE) (s : List UInt8) (w : World) (h : RS w N A n c R) (hP : R.map RE.pl = P.L) :
    Calls Try.prog 45 #[rdisk A n c P.quota P.armed P.stopped, str s] w fun e w' => e = .returned (.tuple #[.int .i64 (sizeM P s).1, .bool (sizeM P s).2]) ∧ Ext w w' := by
  obtain ⟨q, hq⟩ : ∃ q, q = P.quota := ⟨_, rfl⟩
  obtain ⟨a, ha⟩ : ∃ q, q = P.armed := ⟨_, rfl⟩
  obtain ⟨st, hst⟩ : ∃ q, q = P.stopped := ⟨_, rfl⟩
  rw [← hq, ← ha, ← hst]
  have hE : Ext w (w.alloc (.cells #[.slice A n c, .int .i64 q, .int .i64 a, .bool st] 36)) := (Ext.refl w).alloc _
  have c0 := (Row.new w 36 #[.slice A n c, .int .i64 q, .int .i64 a, .bool st]).cell 0 rfl
  have c3 := (Row.new w 36 #[.slice A n c, .int .i64 q, .int .i64 a, .bool st]).cell 3 rfl
  have hR := h.ext hE
  have hfa := rfind_any N A n c q a st R s _ hR
  obtain ⟨W, hW⟩ : ∃ W, W = w.alloc (.cells #[.slice A n c, .int .i64 q, .int .i64 a, .bool st] 36) := ⟨_, rfl⟩
  rw [← hW] at hE c0 c3 hR hfa
  unfold rdisk str at hfa ⊢
  replace hq := hide hq
  replace ha := hide ha
  have hlen := h.len
  have hmany := h.many
  rcases rfind_pl hP s with ⟨i, r, hf, hr, hn, hfd⟩ | ⟨hf, hfd⟩
  · rw [hf] at hfa
    have hm : sizeM P s = if st then (0, false) else (r.b.length, true) := by unfold sizeM; rw [hfd, hst]; rfl
    rw [hm]
    have hin : i < n := by rw [hlen]; exact (List.getElem?_eq_some_iff.1 hr).1
    obtain ⟨g, o, r', rfl, hr', k0, k1, k2⟩ := hR.at_ hin
    obtain rfl : r' = r := by rw [hr] at hr'; cases hr'; rfl
    obtain ⟨bl, hbl⟩ : ∃ bl, bl = r'.b.length := ⟨_, rfl⟩
    rw [← hbl] at k1 ⊢
    simp only [Option.getD_some, Option.isSome_some] at hfa
    replace hfa := hide hfa
    replace hbl := hide hbl
    replace hlen := hide hlen
    replace hst := hide hst
    have hWs := hide hW.symm
    clear hW hr hr' hf hfd hn hm hP
    cases st with
    | true =>
      go_enter Try.func45, Try.ntmps45
      go_wp2_with fail
      rw [hWs.out]
      refine hfa.out.mono ?_
      rintro e w1 ⟨rfl, hE1⟩
      have c3' := hE1.cell c3
      go_wp2_with fail
      go_ret2
      exact ⟨rfl, hE.trans hE1⟩
    | false =>
      go_enter Try.func45, Try.ntmps45
      go_wp2_with fail
      rw [hWs.out]
      refine hfa.out.mono ?_
      rintro e w1 ⟨rfl, hE1⟩
      have c3' := hE1.cell c3
      have c0' := hE1.cell c0
      have k1' := hE1.cell k1
      go_wp2_with fail
      go_ret2
      exact ⟨rfl, hE.trans hE1⟩
  · rw [hf] at hfa
    have hm : sizeM P s = (0, false) := by unfold sizeM; rw [hfd]; cases P.stopped <;> rfl
    rw [hm]
    simp only [Option.getD_none, Option.isSome_none] at hfa
    replace hfa := hide hfa
    replace hlen := hide hlen
    replace hst := hide hst
    have hWs := hide hW.symm
    clear hW hf hfd hm hP
    go_enter Try.func45, Try.ntmps45
    go_wp2_with fail
    rw [hWs.out]
    refine hfa.out.mono ?_
    rintro e w1 ⟨rfl, hE1⟩
    go_wp2_with fail
    go_ret2
    exact ⟨rfl, hE.trans hE1⟩
set_option maxRecDepth 100000 in
set_option maxHeartbeats 1000000 in
theorem rdurable_any (N : Nat → Prop) (A : Option Addr) (n c : Nat) (P : PD) (R : List RE) (s : List UInt8) (w : World) (h : RS w N A n c R) (hP : R.map RE.pl = P.L) :
    Calls Try.prog 47 #[rdisk A n c P.quota P.armed P.stopped, str s] w fun e w' => e = .returned (.int .i64 (durM P s)) ∧ Ext w w' := by
  obtain ⟨q, hq⟩ : ∃ q, q = P.quota := ⟨_, rfl⟩
  obtain ⟨a, ha⟩ : ∃ q, q = P.armed := ⟨_, rfl⟩
  obtain ⟨st, hst⟩ : ∃ q, q = P.stopped := ⟨_, rfl⟩
  rw [← hq, ← ha, ← hst]
  have hE : Ext w (w.alloc (.cells #[.slice A n c, .int .i64 q, .int .i64 a, .bool st] 36)) := (Ext.refl w).alloc _
  have c0 := (Row.new w 36 #[.slice A n c, .int .i64 q, .int .i64 a, .bool st]).cell 0 rfl
  have hR := h.ext hE
  have hfa := rfind_any N A n c q a st R s _ hR
  obtain ⟨W, hW⟩ : ∃ W, W = w.alloc (.cells #[.slice A n c, .int .i64 q, .int .i64 a, .bool st] 36) := ⟨_, rfl⟩
  rw [← hW] at hE c0 hR hfa
  unfold rdisk str at hfa ⊢
  replace hq := hide hq
  replace ha := hide ha
  replace hst := hide hst
  have hlen := h.len
  have hmany := h.many
  rcases rfind_pl hP s with ⟨i, r, hf, hr, hn, hfd⟩ | ⟨hf, hfd⟩
  · rw [hf] at hfa
    have hm : durM P s = r.sure := by unfold durM; rw [hfd]; rfl
    rw [hm]
    have hin : i < n := by rw [hlen]; exact (List.getElem?_eq_some_iff.1 hr).1
    obtain ⟨g, o, r', rfl, hr', k0, k1, k2⟩ := hR.at_ hin
    obtain rfl : r' = r := by rw [hr] at hr'; cases hr'; rfl
    simp only [Option.getD_some, Option.isSome_some] at hfa
    replace hfa := hide hfa
    replace hlen := hide hlen
    have hWs := hide hW.symm
    clear hW hr hr' hf hfd hn hm hP
    go_enter Try.func47, Try.ntmps47
    go_wp2_with fail
    rw [hWs.out]
    refine hfa.out.mono ?_
    rintro e w1 ⟨rfl, hE1⟩
    have c0' := hE1.cell c0
    have k2' := hE1.cell k2
    go_wp2_with fail
    go_ret
    exact ⟨rfl, hE.trans hE1⟩
  · rw [hf] at hfa
    have hm : durM P s = 0 := by unfold durM; rw [hfd]
    rw [hm]
    simp only [Option.getD_none, Option.isSome_none] at hfa
    replace hfa := hide hfa
    replace hlen := hide hlen
    have hWs := hide hW.symm
    clear hW hf hfd hm hP
    go_enter Try.func47, Try.ntmps47
    go_wp2_with fail
    rw [hWs.out]
    refine hfa.out.mono ?_
    rintro e w1 ⟨rfl, hE1⟩
    go_wp2_with fail
    go_ret
    exact ⟨rfl, hE.trans hE1⟩
end Go.Proofs.Yticnncgbfpgeaaa
