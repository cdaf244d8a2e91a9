/- loggiaref06: less, Used, Size, Durable. -/
import Derived.Test.YtaoolpnnomhnoaaGreatDoorS06
import Derived.Test.YtaoolpnnomhnoaaGreatDoorS04
import Derived.Deep.RegionHeld3
set_option linter.unusedSimpArgs false
set_option linter.unusedVariables false
namespace Go.Proofs.YtaoolpnnomhnoaaGreatDoor
open Go.RowKit Go.Maps

theorem cons_lt (x y : UInt8) (a b : List UInt8) : decide (x :: a < y :: b) = if x = y then decide (a < b) else decide (x.toNat < y.toNat) := by
  by_cases h : x = y
  · rw [if_pos h]
    subst h
    congr 1
    apply propext
    rw [List.cons_lt_cons_iff]
    constructor
    · rintro (h | ⟨_, h⟩)
      · exact (UInt8.lt_irrefl _ h).elim
      · exact h
    · exact fun h => .inr ⟨rfl, h⟩
  · rw [if_neg h]
    congr 1
    apply propext
    rw [List.cons_lt_cons_iff]
    constructor
    · rintro (h1 | ⟨h1, _⟩)
      · exact h1
      · exact (h h1).elim
    · exact fun h1 => .inl h1
set_option maxRecDepth 100000 in
set_option maxHeartbeats 1000000 in
theorem rless_any (s t : List UInt8) (w : World) (hs : s.length ≤ 9223372036854775807) (ht : t.length ≤ 9223372036854775807) :
    Calls Tryz.prog 100 #[str s, str t] w fun e w' => e = .returned (.bool (decide (s < t))) ∧ Ext w w' := by
  unfold str
  obtain ⟨n, hn⟩ : ∃ n, n = s.length := ⟨_, rfl⟩
  obtain ⟨m, hm⟩ : ∃ m, m = t.length := ⟨_, rfl⟩
  have hsz : (⟨s.toArray⟩ : ByteArray).size = n := by rw [hn]; exact ByteArray.size_mk_toArray s
  have htz : (⟨t.toArray⟩ : ByteArray).size = m := by rw [hm]; exact ByteArray.size_mk_toArray t
  rw [← hn] at hs
  rw [← hm] at ht
  obtain ⟨b, hb⟩ : ∃ b, b = decide (s < t) := ⟨_, rfl⟩
  rw [← hb]
  replace hn := hide hn
  replace hm := hide hm
  replace hb := hide hb
  go_enter Tryz.func100, Tryz.ntmps100
  go_wp2_with fail
  go_loopw [5] (fun s5 wr => ∃ i : Nat, s5 = .int .i64 i ∧ i ≤ n ∧ i ≤ m ∧ Hid (b = decide (s.drop i < t.drop i)) ∧ Ext w wr) (fun s5 _ => n - (intOf s5).toNat)
  case atStart => exact ⟨0, rfl, by omega, by omega, hb, Ext.refl w⟩
  case round =>
    obtain ⟨i, rfl, hi, hi2, hbi, hE⟩ := hrel
    by_cases hin : i < n
    · by_cases him : i < m
      · have hil : i < s.length := by rw [← hn.out]; exact hin
        have hil2 : i < t.length := by rw [← hm.out]; exact him
        obtain ⟨x, hx⟩ : ∃ x, x = s[i] := ⟨_, rfl⟩
        obtain ⟨y, hy⟩ : ∃ y, y = t[i] := ⟨_, rfl⟩
        have hstep : b = if x = y then decide (s.drop (i + 1) < t.drop (i + 1)) else decide (x.toNat < y.toNat) := by
          rw [hbi.out, List.drop_eq_getElem_cons hil, List.drop_eq_getElem_cons hil2, cons_lt, hx, hy]
        obtain ⟨c, hc⟩ : ∃ c, c = x.toNat := ⟨_, rfl⟩
        obtain ⟨e, he⟩ : ∃ e, e = y.toNat := ⟨_, rfl⟩
        have hcx : ((⟨s.toArray⟩ : ByteArray)[i]'(by rw [hsz]; exact hin)).toNat = c := by rw [hc, hx]; rfl
        have hcy : ((⟨t.toArray⟩ : ByteArray)[i]'(by rw [htz]; exact him)).toNat = e := by rw [he, hy]; rfl
        have hxy : x = y ↔ c = e := by rw [hc, he]; exact ⟨fun h => by rw [h], fun h => UInt8.toNat_inj.1 h⟩
        rw [← hc, ← he] at hstep
        replace hstep := hide hstep
        replace hx := hide hx
        replace hy := hide hy
        replace hc := hide hc
        replace he := hide he
        replace hxy := hide hxy
        by_cases hce : c = e
        · have hb2 : Hid (b = decide (s.drop (i + 1) < t.drop (i + 1))) := hide (by rw [hstep.out, if_pos (hxy.out.2 hce)])
          have q1 : ((c : Int) == e) = true := by rw [hce]; exact beq_self_eq_true _
          have q2 : ((c : Int) != e) = false := by rw [hce]; simp
          replace hce := hide hce
          go_wp2_with fail
          refine wp_region_text follows (by kernel_rfl) (by kernel_rfl) (fun K hK => ?_)
          go_wp2_with fail
          refine ⟨by kernel_rfl, ?_⟩
          go_wp2_with fail
          go_roundw
          case rel => exact ⟨i + 1, by go_num, by omega, by omega, hb2, hE.drew⟩
          case measure => simp [intOf]; omega
        · have hb2 : Hid (b = decide (c < e)) := hide (by rw [hstep.out, if_neg fun h => hce (hxy.out.1 h)])
          have q1 : ((c : Int) == e) = false := beq_eq_false_iff_ne.2 (by omega)
          have q2 : ((c : Int) != e) = true := by simp [bne, q1]
          replace hce := hide hce
          go_wp2_with fail
          refine wp_region_text follows (by kernel_rfl) (by kernel_rfl) (fun K hK => ?_)
          go_wp2_with fail
          refine ⟨by kernel_rfl, ?_⟩
          go_wp2_with fail
          refine wp_region_text follows (by kernel_rfl) (by kernel_rfl) (fun K hK => ?_)
          go_wp2_with fail
          refine ⟨by kernel_rfl, ?_⟩
          go_wp2_with fail
          go_ret
          rw [hb2.out]
          exact ⟨ret_bool (by first | rfl | (simp; done) | (simp; omega)), hE.drew.drew⟩
      · have hb2 : Hid (b = decide (n < m)) := hide (by
          rw [hbi.out, List.drop_eq_nil_of_le (show t.length ≤ i by rw [← hm.out]; omega)]
          rw [decide_eq_false (show ¬ n < m by omega), decide_eq_false (List.not_lt_nil _)])
        have q1 : decide (n < m) = false := decide_eq_false (by omega)
        go_wp2_with fail
        go_ret
        rw [hb2.out]
        exact ⟨ret_bool (by first | rfl | (simp; done) | (simp; omega)), hE⟩
    · have hb2 : Hid (b = decide (n < m)) := hide (by
        rw [hbi.out, List.drop_eq_nil_of_le (show s.length ≤ i by rw [← hn.out]; omega)]
        by_cases h : n < m
        · rw [decide_eq_true h]
          apply decide_eq_true
          have : i < t.length := by rw [← hm.out]; omega
          rw [List.drop_eq_getElem_cons this]
          exact List.nil_lt_cons _ _
        · rw [decide_eq_false h]
          apply decide_eq_false
          rw [List.drop_eq_nil_of_le (show t.length ≤ i by rw [← hm.out]; omega)]
          exact List.not_lt_nil _)
      go_wp2_with fail
      go_ret
      rw [hb2.out]
      exact ⟨ret_bool (by first | rfl | (simp; done) | (simp; omega)), hE⟩
theorem rused_take (R : List RE) (i : Nat) (r : RE) (h : R[i]? = some r) : usedP ((R.take (i + 1)).map RE.pl) = usedP ((R.take i).map RE.pl) + r.b.length := by
  obtain ⟨hi, hr⟩ := List.getElem?_eq_some_iff.1 h
  rw [List.take_succ_eq_append_getElem hi, hr]
  unfold usedP
  simp [RE.pl]
theorem rused_bd {w : World} {N : Nat → Prop} {A : Option Addr} {n c : Nat} {R : List RE} (h : RS w N A n c R) (i : Nat) : usedP ((R.take i).map RE.pl) ≤ i * 67108864 := by
  have : ∀ l : List RE, (∀ r ∈ l, r.b.length ≤ 67108864) → usedP (l.map RE.pl) ≤ l.length * 67108864 := by
    intro l
    induction l with
    | nil => intro _; exact Nat.zero_le _
    | cons a l ih =>
      intro hl
      have h1 := ih fun r hr => hl r (List.mem_cons_of_mem _ hr)
      have h2 := hl a (List.mem_cons_self ..)
      unfold usedP at *
      simp only [List.map_cons, List.sum_cons, List.length_cons]
      show a.b.length + _ ≤ _
      omega
  refine Nat.le_trans (this _ fun r hr => (h.ok r (List.mem_of_mem_take hr)).len) ?_
  have := List.length_take_le i R
  exact Nat.mul_le_mul_right _ this
set_option maxRecDepth 100000 in
set_option maxHeartbeats 1000000 in
theorem rused_any (N : Nat → Prop) (A : Option Addr) (n c q a : Nat) (st : Bool) (R : List RE) (w : World) (h : RS w N A n c R) :
    Calls Tryz.prog 75 #[rdisk A n c q a st] w fun e w' => e = .returned (.int .i64 (usedP (R.map RE.pl))) ∧ Ext w w' := by
  unfold rdisk
  have hlen := h.len
  have hmany := h.many
  replace hlen := hide hlen
  go_enter Tryz.func75, Tryz.ntmps75
  go_wp2_with fail
  obtain ⟨W, hW⟩ : ∃ W, W = w.alloc (.cells #[.slice A n c, .int .i64 q, .int .i64 a, .bool st] 44) := ⟨_, rfl⟩
  rw [← hW]
  have hE : Ext w W := by rw [hW]; exact (Ext.refl w).alloc _
  have c0 : W.cell? ⟨w.heap.size, 0, none⟩ = some (.slice A n c) := by rw [hW]; exact (Row.new w _ _).cell 0 rfl
  have hR := h.ext hE
  replace hW := hide hW
  go_loopw [3, 4] (fun s3 s4 wr => ∃ i u : Nat, s4 = .int .i64 i ∧ s3 = .int .i64 u ∧ i ≤ n ∧ Hid (u = usedP ((R.take i).map RE.pl)) ∧ wr = W) (fun _ s4 _ => n - (intOf s4).toNat)
  case atStart => exact ⟨0, 0, rfl, rfl, by omega, hide rfl, rfl⟩
  case round =>
    obtain ⟨i, u, rfl, rfl, hi, hu, rfl⟩ := hrel
    by_cases hin : i < n
    · obtain ⟨g, o, r, rfl, hr, k0, k1, k2⟩ := hR.at_ hin
      have hbd := rused_bd h i
      rw [← hu.out] at hbd
      have hl := (h.ok r (List.mem_of_getElem? hr)).len
      have hu2 : Hid (u + r.b.length = usedP ((R.take (i + 1)).map RE.pl)) := hide (by rw [rused_take R i r hr, ← hu.out])
      have hbd2 : u ≤ 68719476736 := by omega
      clear hbd
      replace hr := hide hr
      go_wp2_with fail
      go_roundw
      case rel => exact ⟨i + 1, u + r.b.length, by go_num, by go_num, by omega, hu2, trivial⟩
      case measure => simp [intOf]; omega
    · obtain rfl : i = n := by omega
      have hf : u = usedP (R.map RE.pl) := by rw [hu.out, List.take_of_length_le (by rw [← hlen.out]; exact Nat.le_refl _)]
      replace hf := hide hf
      go_wp2_with fail
      go_ret
      rw [hf.out]
      exact ⟨rfl, hE⟩
/-- Where a file of a name is, plainly. -/
theorem rfind_pl {P : PD} {R : List RE} (hP : R.map RE.pl = P.L) (s : List UInt8) : (∃ i r, rfind R s = some i ∧ R[i]? = some r ∧ r.name = s ∧ P.find s = some r.pl) ∨ (rfind R s = none ∧ P.find s = none) := by
  unfold PD.find
  rw [← hP, List.find?_map]
  cases hf : rfind R s with
  | none =>
    refine .inr ⟨rfl, ?_⟩
    have : R.find? ((fun f => decide (fname f = s)) ∘ RE.pl) = none := by
      rw [List.find?_eq_none]
      intro r hr
      unfold rfind at hf
      rw [List.findIdx?_eq_none_iff] at hf
      have := hf r hr
      show ¬ (decide (r.name = s) = true)
      rw [this]
      exact Bool.false_ne_true
    rw [this]
    rfl
  | some i =>
    unfold rfind at hf
    obtain ⟨hi, hp, hno⟩ := List.findIdx?_eq_some_iff_getElem.1 hf
    refine .inl ⟨i, R[i], rfl, List.getElem?_eq_getElem hi, of_decide_eq_true hp, ?_⟩
    have : R.find? ((fun f => decide (fname f = s)) ∘ RE.pl) = some R[i] := by
      rw [List.find?_eq_some_iff_getElem]
      refine ⟨hp, i, hi, rfl, fun j hj => ?_⟩
      have := hno j hj
      show (!decide (R[j].name = s)) = true
      rw [Bool.not_eq_true] at this
      rw [this]
      rfl
    rw [this]
    rfl
set_option maxRecDepth 100000 in
set_option maxHeartbeats 1000000 in
theorem rsize_any (N : Nat → Prop) (A : Option Addr) (n c : Nat) (P : PD) (R : List RE) (s : List UInt8) (w : World) (h : RS w N A n c R) (hP : R.map RE.pl = P.L) :
    Calls Tryz.prog 85 #[rdisk A n c P.quota P.armed P.stopped, str s] w fun e w' => e = .returned (.tuple #[.int .i64 (sizeM P s).1, .bool (sizeM P s).2]) ∧ Ext w w' := by
  obtain ⟨q, hq⟩ : ∃ q, q = P.quota := ⟨_, rfl⟩
  obtain ⟨a, ha⟩ : ∃ q, q = P.armed := ⟨_, rfl⟩
  obtain ⟨st, hst⟩ : ∃ q, q = P.stopped := ⟨_, rfl⟩
  rw [← hq, ← ha, ← hst]
  have hE : Ext w (w.alloc (.cells #[.slice A n c, .int .i64 q, .int .i64 a, .bool st] 44)) := (Ext.refl w).alloc _
  have c0 := (Row.new w 44 #[.slice A n c, .int .i64 q, .int .i64 a, .bool st]).cell 0 rfl
  have c3 := (Row.new w 44 #[.slice A n c, .int .i64 q, .int .i64 a, .bool st]).cell 3 rfl
  have hR := h.ext hE
  have hfa := rfind_any N A n c q a st R s _ hR
  obtain ⟨W, hW⟩ : ∃ W, W = w.alloc (.cells #[.slice A n c, .int .i64 q, .int .i64 a, .bool st] 44) := ⟨_, rfl⟩
  rw [← hW] at hE c0 c3 hR hfa
  unfold rdisk str at hfa ⊢
  replace hq := hide hq
  replace ha := hide ha
  have hlen := h.len
  have hmany := h.many
  rcases rfind_pl hP s with ⟨i, r, hf, hr, hn, hfd⟩ | ⟨hf, hfd⟩
  · rw [hf] at hfa
    have hm : sizeM P s = if st then (0, false) else (r.b.length, true) := by unfold sizeM; rw [hfd, hst]; rfl
    rw [hm]
    have hin : i < n := by rw [hlen]; exact (List.getElem?_eq_some_iff.1 hr).1
    obtain ⟨g, o, r', rfl, hr', k0, k1, k2⟩ := hR.at_ hin
    obtain rfl : r' = r := by rw [hr] at hr'; cases hr'; rfl
    obtain ⟨bl, hbl⟩ : ∃ bl, bl = r'.b.length := ⟨_, rfl⟩
    rw [← hbl] at k1 ⊢
    simp only [Option.getD_some, Option.isSome_some] at hfa
    replace hfa := hide hfa
    replace hbl := hide hbl
    replace hlen := hide hlen
    replace hst := hide hst
    have hWs := hide hW.symm
    clear hW hr hr' hf hfd hn hm hP
    cases st with
    | true =>
      go_enter Tryz.func85, Tryz.ntmps85
      go_wp2_with fail
      rw [hWs.out]
      refine hfa.out.mono ?_
      rintro e w1 ⟨rfl, hE1⟩
      have c3' := hE1.cell c3
      go_wp2_with fail
      go_ret2
      exact ⟨rfl, hE.trans hE1⟩
    | false =>
      go_enter Tryz.func85, Tryz.ntmps85
      go_wp2_with fail
      rw [hWs.out]
      refine hfa.out.mono ?_
      rintro e w1 ⟨rfl, hE1⟩
      have c3' := hE1.cell c3
      have c0' := hE1.cell c0
      have k1' := hE1.cell k1
      go_wp2_with fail
      go_ret2
      exact ⟨rfl, hE.trans hE1⟩
  · rw [hf] at hfa
    have hm : sizeM P s = (0, false) := by unfold sizeM; rw [hfd]; cases P.stopped <;> rfl
    rw [hm]
    simp only [Option.getD_none, Option.isSome_none] at hfa
    replace hfa := hide hfa
    replace hlen := hide hlen
    replace hst := hide hst
    have hWs := hide hW.symm
    clear hW hf hfd hm hP
    go_enter Tryz.func85, Tryz.ntmps85
    go_wp2_with fail
    rw [hWs.out]
    refine hfa.out.mono ?_
    rintro e w1 ⟨rfl, hE1⟩
    go_wp2_with fail
    go_ret2
    exact ⟨rfl, hE.trans hE1⟩
end Go.Proofs.YtaoolpnnomhnoaaGreatDoor

/- loggiaref06: without. -/
namespace Go.Proofs.YtaoolpnnomhnoaaGreatDoor
open Go.RowKit Go.Maps

/-- The same, the block by a name. -/
theorem wpList_appB {P : Program} {ops : Array Oper} {rest : List Oper} {o : Oper} {a : Act} {Q : Exit → Act → World → Prop} {w0 : World} {us : List Value} {T : TypeId} {t e size bytes m : Nat} (b : Nat) (hb : b = w0.heap.size) (E : Elem P t e size bytes)
    {base : Nat} {v : Value} {n : Nat} {xs : List Value} (hown : w0.ownsRow base e size v n xs) (s x : Operand)
    (ho : o.op = .call { callee := .builtin .append, args := #[s, x], argTypes := #[t, t] }) (hgd : o.guard = none)
    (hs : a.eval s = v) (hx : a.eval x = .slice (some ⟨b, 0, none⟩) m m) (hl : us.length = m * size) (h1 : ∀ u ∈ us, u.oneCell' = true) (hsz : n + m ≤ 4294967296) (hbase : base ≤ w0.heap.size)
    (h : ∀ A1 c1 w', w'.ownsRow base e size (.slice A1 (n + m) c1) (n + m) (xs ++ us) → w0.grownBy w' v.ownBlock → wpList P ops Q rest (a.put o.dst (.slice A1 (n + m) c1)) w') :
    wpList P ops Q (o :: rest) a (w0.alloc (.cells us.toArray T)) := by
  subst hb
  exact wpList_appS E hown s x ho hgd hs hx hl h1 hsz hbase fun A1 c1 w' h2 h3 _ => h A1 c1 w' h2 h3
/-- A new row of files. -/
theorem RS.of_own {w w1 : World} {N : Nat → Prop} {base : Nat} {A : Option Addr} {n c : Nat} {R : List RE} (ho : w1.ownsRow base 94 3 (.slice A n c) n (rcells R)) (hb : w.heap.size ≤ base) (hN : ∀ k, N k → k < w.heap.size) (hok : ∀ r ∈ R, ROk w1 N r) (hm : R.length ≤ 1024) : RS w1 N A n c R := by
  have hl : n = R.length := by
    have := ho.1
    rw [rcells_len] at this
    omega
  refine ⟨hl, Cells.of_own ho, fun a ha => ?_, ?_, by omega, hok⟩
  · subst ha
    rcases ho.2 with ⟨h1, _⟩ | ⟨g, cap, cur, h1, h2, h3, _⟩
    · cases h1
    · cases h1
      refine ⟨(Array.getElem?_eq_some_iff.1 h3).1, fun hn => ?_⟩
      have := hN _ hn
      have h2' : base ≤ g := h2
      have : g < w.heap.size := this
      omega
  · rcases ho.2 with ⟨h1, h2⟩ | ⟨g, cap, cur, h1, h2, h3, h4, _⟩
    · cases h1; omega
    · cases h1; omega
theorem own_ge {w : World} {base : Nat} {e : TypeId} {size : Nat} {v : Value} {n : Nat} {xs : List Value} (h : w.ownsRow base e size v n xs) : ∀ k, v.ownBlock = some k → base ≤ k := by
  intro k hk
  obtain ⟨cur, _, h9⟩ := owns_row h hk
  exact h9
theorem take_without (R : List RE) (s : List UInt8) (i : Nat) (r : RE) (h : R[i]? = some r) : withoutG RE.name s (R.take (i + 1)) = withoutG RE.name s (R.take i) ++ (if r.name = s then [] else [r]) := by
  obtain ⟨hi, hr⟩ := List.getElem?_eq_some_iff.1 h
  rw [List.take_succ_eq_append_getElem hi, hr]
  unfold withoutG
  rw [List.filter_append]
  congr 1
  by_cases hs : r.name = s
  · simp [hs]
  · simp [hs]
/-- The end of a function that answers with a disk whose row of files has been made anew: b is the disk's own cell, b + 1 the answer's. -/
theorem rdisk_out {w0 wr : World} {b base n1 c1 q a : Nat} {A1 : Option Addr} {st : Bool} {xs : List Value} {v0 v1 v2 v3 : Value} (hrr : Row wr (b + 1) 44 #[v0, v1, v2, v3]) (ho : wr.ownsRow base 94 3 (.slice A1 n1 c1) n1 xs)
    (hge : ∀ k, (Value.slice A1 n1 c1).ownBlock = some k → b + 2 ≤ k) (hE : Ext w0 wr) (hb : w0.heap.size ≤ b) {wf : World}
    (hwf : wf = (((((wr.setCell ⟨b, 0, none⟩ (.slice A1 n1 c1)).setCell ⟨b + 1, 0, none⟩ (.slice A1 n1 c1)).setCell ⟨b + 1, 1, none⟩ (.int .i64 q)).setCell ⟨b + 1, 2, none⟩ (.int .i64 a)).setCell ⟨b + 1, 3, none⟩ (.bool st)) := by rfl) :
    wf.cell? ⟨b + 1, 0, none⟩ = some (.slice A1 n1 c1) ∧ wf.cell? ⟨b + 1, 1, none⟩ = some (.int .i64 q) ∧ wf.cell? ⟨b + 1, 2, none⟩ = some (.int .i64 a) ∧ wf.cell? ⟨b + 1, 3, none⟩ = some (.bool st) ∧ Ext w0 wf ∧ wf.ownsRow base 94 3 (.slice A1 n1 c1) n1 xs := by
  have hr : Row wf (b + 1) 44 #[.slice A1 n1 c1, .int .i64 q, .int .i64 a, .bool st] := by
    rw [hwf]
    exact ((((Row.away hrr (p := ⟨b, 0, none⟩) (by show b + 1 ≠ b; omega) _).put 0 _).put 1 _).put 2 _).put 3 _
  refine ⟨hr.cell 0 rfl, hr.cell 1 rfl, hr.cell 2 rfl, hr.cell 3 rfl, ?_, ?_⟩
  · rw [hwf]
    have h1 : w0.heap.size ≤ (⟨b + 1, 0, none⟩ : Addr).block := by show w0.heap.size ≤ b + 1; omega
    exact ((((hE.setCell (p := ⟨b, 0, none⟩) hb _).setCell (p := ⟨b + 1, 0, none⟩) h1 _).setCell (p := ⟨b + 1, 1, none⟩) h1 _).setCell (p := ⟨b + 1, 2, none⟩) h1 _).setCell (p := ⟨b + 1, 3, none⟩) h1 _
  · rw [hwf]
    have hk : ∀ (g o : Nat), g < b + 2 → (Value.slice A1 n1 c1).ownBlock ≠ some (⟨g, o, none⟩ : Addr).block := fun g o hg hh => by
      have := hge _ hh
      have : b + 2 ≤ g := this
      omega
    exact owns_set (owns_set (owns_set (owns_set (owns_set ho (hk _ _ (by omega)) _) (hk _ _ (by omega)) _) (hk _ _ (by omega)) _) (hk _ _ (by omega)) _) (hk _ _ (by omega)) _
set_option maxRecDepth 100000 in
set_option maxHeartbeats 2000000 in
theorem rwithout_any (N : Nat → Prop) (A : Option Addr) (n c q a : Nat) (st : Bool) (R : List RE) (s : List UInt8) (w : World) (h : RS w N A n c R) (hN : ∀ k, N k → k < w.heap.size) :
    Calls Tryz.prog 99 #[rdisk A n c q a st, str s] w fun e w' => ∃ A1 n1 c1, e = .returned (rdisk A1 n1 c1 q a st) ∧ RS w' N A1 n1 c1 (withoutG RE.name s R) ∧ Ext w w' := by
  unfold rdisk str
  have hlen := h.len
  have hmany := h.many
  replace hlen := hide hlen
  go_enter Tryz.func99, Tryz.ntmps99
  go_wp2_with fail
  obtain ⟨W, hW⟩ : ∃ W, W = (w.alloc (.cells #[.slice A n c, .int .i64 q, .int .i64 a, .bool st] 44)).alloc (.cells #[.slice none 0 0, .int .i64 0, .int .i64 0, .bool false] 44) := ⟨_, rfl⟩
  rw [← hW]
  have hE : Ext w W := by rw [hW]; exact ((Ext.refl w).alloc _).alloc _
  have hWs : W.heap.size = w.heap.size + 2 := by rw [hW, size_alloc, size_alloc]
  have hd : Row W w.heap.size 44 #[.slice A n c, .int .i64 q, .int .i64 a, .bool st] := by rw [hW]; exact (Row.new w _ _).alloc _
  have hr2 : Row W (w.heap.size + 1) 44 #[.slice none 0 0, .int .i64 0, .int .i64 0, .bool false] := by
    have := Row.new (w.alloc (.cells #[.slice A n c, .int .i64 q, .int .i64 a, .bool st] 44)) 44 #[.slice none 0 0, .int .i64 0, .int .i64 0, .bool false]
    rw [size_alloc] at this
    rw [hW]
    exact this
  have hR := h.ext hE
  replace hW := hide hW
  replace hWs := hide hWs
  go_loopw [5, 6] (fun s5 s6 wr => ∃ (i n1 c1 : Nat) (A1 : Option Addr), s6 = .int .i64 i ∧ s5 = .slice A1 n1 c1 ∧ i ≤ n ∧ n1 ≤ i ∧ Hid (wr.ownsRow (w.heap.size + 2) 94 3 (.slice A1 n1 c1) n1 (rcells (withoutG RE.name s (R.take i)))) ∧ Below (w.heap.size + 2) W wr) (fun _ s6 _ => n - (intOf s6).toNat)
  case atStart => exact ⟨0, 0, 0, none, rfl, rfl, by omega, by omega, hide (World.ownsRow_nil _ _ _ _), Below.refl _ _⟩
  case round =>
    obtain ⟨i, n1, c1, A1, rfl, rfl, hi, hn1, hO, hB⟩ := hrel
    have hEr : Ext W wr := by
      have : Below W.heap.size W wr := by rw [hWs.out]; exact hB
      exact this
    have c0r : wr.cell? ⟨w.heap.size, 0, none⟩ = some (.slice A n c) := (hd.ext hEr).cell 0 rfl
    by_cases hin : i < n
    · obtain ⟨g, o, r, rfl, hr, k0, k1, k2⟩ := (hR.ext hEr).at_ hin
      unfold str at k0
      have htw := take_without R s i r hr
      replace hr := hide hr
      by_cases hs : r.name = s
      · have hb : (r.name == s) = true := by rw [hs]; exact beq_self_eq_true s
        have hb2 : (r.name != s) = false := by rw [hs]; simp
        rw [if_pos hs, List.append_nil] at htw
        have hO2 := hO.out
        rw [← htw] at hO2
        have hO3 := hide hO2
        replace htw := hide htw
        replace hs := hide hs
        clear hO2
        go_wp2_with fail
        go_roundw
        case rel => exact ⟨i + 1, n1, c1, A1, by go_num, rfl, by omega, by omega, hO3, hB⟩
        case measure => simp [intOf]; omega
      · have hb : (r.name == s) = false := beq_eq_false_iff_ne.2 hs
        have hb2 : (r.name != s) = true := bne_iff_ne.2 hs
        rw [if_neg hs] at htw
        have hO2 := hO.out
        have hsz : w.heap.size + 2 ≤ wr.heap.size := by rw [← hWs.out]; exact hEr.size
        have hge := own_ge hO2
        replace hge := hide hge
        replace htw := hide htw
        replace hs := hide hs
        go_wp2_with (at_builtin; refine wpList_appS (us := [.string ⟨r.name.toArray⟩, .slice r.A r.b.length r.c, .int .i64 r.sure]) (m := 1) elemF hO2 (.tmp 22) (.tmp 28) rfl rfl rfl rfl rfl (one_of rfl) (by omega) hsz (fun A2 c2 w3 ho3 hg3 hl3 => ?_))
        have ho4 : Hid (w3.ownsRow (w.heap.size + 2) 94 3 (.slice A2 (n1 + 1) c2) (n1 + 1) (rcells (withoutG RE.name s (R.take (i + 1))))) := hide (by
          rw [htw.out, rcells_append]
          exact ho3)
        have hB3 : Below (w.heap.size + 2) W w3 := hB.grown hg3 hsz hge.out
        go_roundw
        case rel => exact ⟨i + 1, n1 + 1, c2, A2, by go_num, rfl, by omega, by omega, ho4, hB3⟩
        case measure => simp [intOf]; omega
    · obtain rfl : i = n := by omega
      have hO2 := hO.out
      rw [List.take_of_length_le (by rw [← hlen.out]; exact Nat.le_refl _)] at hO2
      have hdr := hd.ext hEr
      have hrr := hr2.ext hEr
      have c1r : wr.cell? ⟨w.heap.size, 1, none⟩ = some (.int .i64 q) := hdr.cell 1 rfl
      have c2r : wr.cell? ⟨w.heap.size, 2, none⟩ = some (.int .i64 a) := hdr.cell 2 rfl
      have c3r : wr.cell? ⟨w.heap.size, 3, none⟩ = some (.bool st) := hdr.cell 3 rfl
      have fd0 := hdr.free 0
      have fr0 := hrr.free 0
      have fr1 := hrr.free 1
      have fr2 := hrr.free 2
      have fr3 := hrr.free 3
      have e0 : wr.cell? ⟨w.heap.size + 1, 0, none⟩ = some (.slice none 0 0) := hrr.cell 0 rfl
      have e1 : wr.cell? ⟨w.heap.size + 1, 1, none⟩ = some (.int .i64 0) := hrr.cell 1 rfl
      have e2 : wr.cell? ⟨w.heap.size + 1, 2, none⟩ = some (.int .i64 0) := hrr.cell 2 rfl
      have e3 : wr.cell? ⟨w.heap.size + 1, 3, none⟩ = some (.bool false) := hrr.cell 3 rfl
      replace hlen := hide hlen
      go_wp2_with fail
      have hge := own_ge hO2
      have hfin := rdisk_out hrr hO2 hge (hE.trans hEr) (Nat.le_refl _) (q := q) (a := a) (st := st)
      obtain ⟨wf, hwf⟩ : ∃ wf, wf = (((((wr.setCell ⟨w.heap.size, 0, none⟩ (.slice A1 n1 c1)).setCell ⟨w.heap.size + 1, 0, none⟩ (.slice A1 n1 c1)).setCell ⟨w.heap.size + 1, 1, none⟩ (.int .i64 q)).setCell ⟨w.heap.size + 1, 2, none⟩ (.int .i64 a)).setCell ⟨w.heap.size + 1, 3, none⟩ (.bool st)) := ⟨_, rfl⟩
      rw [← hwf] at hfin ⊢
      obtain ⟨z0, z1, z2, z3, hEf, hof⟩ := hfin
      refine bodyPost_ret (v := .agg #[.slice A1 n1 c1, .int .i64 q, .int .i64 a, .bool st]) (by simp [results, Tryz.results99, go_sem, z0, z1, z2, z3]) rfl ⟨A1, n1, c1, rfl, ?_⟩
      exact ⟨RS.of_own (w := w) hof (Nat.le_add_right _ 2) hN (fun r hr => (h.ok r (mem_without.1 hr).1).ext hEf) (Nat.le_trans (len_without_le _ _) (by rw [← h.len]; exact h.many)), hEf⟩
end Go.Proofs.YtaoolpnnomhnoaaGreatDoor

/- loggiaref06: with. -/
namespace Go.Proofs.YtaoolpnnomhnoaaGreatDoor
open Go.RowKit Go.Maps

/-- The end of a function that answers with a disk whose row of files has been made anew: b is the disk's own cell, r the answer's. -/
theorem rdisk_out2 {w0 wr : World} {b r base n1 c1 q a : Nat} {A1 : Option Addr} {st : Bool} {xs : List Value} {v0 v1 v2 v3 : Value} (hrr : Row wr r 44 #[v0, v1, v2, v3]) (ho : wr.ownsRow base 94 3 (.slice A1 n1 c1) n1 xs)
    (hge : ∀ k, (Value.slice A1 n1 c1).ownBlock = some k → k ≠ b ∧ k ≠ r) (hne : r ≠ b) (hE : Ext w0 wr) (hb : w0.heap.size ≤ b) (hbr : w0.heap.size ≤ r) {wf : World}
    (hwf : wf = (((((wr.setCell ⟨b, 0, none⟩ (.slice A1 n1 c1)).setCell ⟨r, 0, none⟩ (.slice A1 n1 c1)).setCell ⟨r, 1, none⟩ (.int .i64 q)).setCell ⟨r, 2, none⟩ (.int .i64 a)).setCell ⟨r, 3, none⟩ (.bool st)) := by rfl) :
    wf.cell? ⟨r, 0, none⟩ = some (.slice A1 n1 c1) ∧ wf.cell? ⟨r, 1, none⟩ = some (.int .i64 q) ∧ wf.cell? ⟨r, 2, none⟩ = some (.int .i64 a) ∧ wf.cell? ⟨r, 3, none⟩ = some (.bool st) ∧ Ext w0 wf ∧ wf.ownsRow base 94 3 (.slice A1 n1 c1) n1 xs := by
  have hr : Row wf r 44 #[.slice A1 n1 c1, .int .i64 q, .int .i64 a, .bool st] := by
    rw [hwf]
    exact ((((Row.away hrr (p := ⟨b, 0, none⟩) hne _).put 0 _).put 1 _).put 2 _).put 3 _
  refine ⟨hr.cell 0 rfl, hr.cell 1 rfl, hr.cell 2 rfl, hr.cell 3 rfl, ?_, ?_⟩
  · rw [hwf]
    exact ((((hE.setCell (p := ⟨b, 0, none⟩) hb _).setCell (p := ⟨r, 0, none⟩) hbr _).setCell (p := ⟨r, 1, none⟩) hbr _).setCell (p := ⟨r, 2, none⟩) hbr _).setCell (p := ⟨r, 3, none⟩) hbr _
  · rw [hwf]
    have hk1 : ∀ o : Nat, (Value.slice A1 n1 c1).ownBlock ≠ some (⟨b, o, none⟩ : Addr).block := fun o hh => (hge _ hh).1 rfl
    have hk2 : ∀ o : Nat, (Value.slice A1 n1 c1).ownBlock ≠ some (⟨r, o, none⟩ : Addr).block := fun o hh => (hge _ hh).2 rfl
    exact owns_set (owns_set (owns_set (owns_set (owns_set ho (hk1 _) _) (hk2 _) _) (hk2 _) _) (hk2 _) _) (hk2 _) _
/-- Where 'with' has come to: the row l behind the files t, is f in it? -/
def Ins (f : RE) (t l : List RE) (put : Bool) : Prop := if put then l = insG RE.name f t ∧ ∃ x ∈ t, f.name < x.name else l = t ∧ ∀ x ∈ t, ¬ f.name < x.name
theorem ins_append {f x : RE} : ∀ {t : List RE}, (∃ y ∈ t, f.name < y.name) → insG RE.name f (t ++ [x]) = insG RE.name f t ++ [x]
  | [], h => by obtain ⟨y, hy, _⟩ := h; cases hy
  | z :: t, h => by
    unfold insG
    rw [List.cons_append]
    by_cases hz : f.name < z.name
    · simp only [decide_eq_true hz, if_true, List.cons_append]
    · simp only [decide_eq_false hz, Bool.false_eq_true, if_false, List.cons_append]
      rw [ins_append]
      obtain ⟨y, hy, hlt⟩ := h
      rcases List.mem_cons.1 hy with h1 | h1
      · exact (hz (h1 ▸ hlt)).elim
      · exact ⟨y, h1, hlt⟩
theorem ins_at {f x : RE} : ∀ {t : List RE}, (∀ y ∈ t, ¬ f.name < y.name) → f.name < x.name → insG RE.name f (t ++ [x]) = t ++ [f] ++ [x]
  | [], _, h => by unfold insG; simp [h]
  | z :: t, h, hx => by
    unfold insG
    simp only [List.cons_append, decide_eq_false (h z (List.mem_cons_self ..)), Bool.false_eq_true, if_false]
    rw [ins_at (fun y hy => h y (List.mem_cons_of_mem _ hy)) hx]
theorem ins_none {f : RE} : ∀ {t : List RE}, (∀ y ∈ t, ¬ f.name < y.name) → insG RE.name f t = t ++ [f]
  | [], _ => rfl
  | z :: t, h => by
    unfold insG
    simp only [decide_eq_false (h z (List.mem_cons_self ..)), Bool.false_eq_true, if_false]
    rw [ins_none (fun y hy => h y (List.mem_cons_of_mem _ hy))]
    rfl
theorem Ins.later {f x : RE} {t l : List RE} (h : Ins f t l true) : Ins f (t ++ [x]) (l ++ [x]) true := by
  obtain ⟨h1, y, hy, hlt⟩ := h
  exact ⟨by rw [ins_append ⟨y, hy, hlt⟩, h1], y, List.mem_append_left _ hy, hlt⟩
theorem Ins.now {f x : RE} {t l : List RE} (h : Ins f t l false) (hx : f.name < x.name) : Ins f (t ++ [x]) (l ++ [f] ++ [x]) true := by
  obtain ⟨h1, h2⟩ := h
  exact ⟨by rw [ins_at h2 hx, h1], x, by simp, hx⟩
theorem Ins.past {f x : RE} {t l : List RE} (h : Ins f t l false) (hx : ¬ f.name < x.name) : Ins f (t ++ [x]) (l ++ [x]) false := by
  obtain ⟨h1, h2⟩ := h
  refine ⟨by rw [h1], fun y hy => ?_⟩
  rcases List.mem_append.1 hy with h3 | h3
  · exact h2 y h3
  · simp at h3; rw [h3]; exact hx
theorem Ins.len {f : RE} {t l : List RE} {b : Bool} (h : Ins f t l b) : l.length ≤ t.length + 1 := by
  cases b with
  | true => rw [h.1, len_ins]; exact Nat.le_refl _
  | false => rw [h.1]; omega
theorem take_one {α : Type} (R : List α) (i : Nat) (r : α) (h : R[i]? = some r) : R.take (i + 1) = R.take i ++ [r] := by
  obtain ⟨hi, hr⟩ := List.getElem?_eq_some_iff.1 h
  rw [List.take_succ_eq_append_getElem hi, hr]
set_option maxRecDepth 100000 in
set_option maxHeartbeats 4000000 in
theorem rwith_any (N : Nat → Prop) (A : Option Addr) (n c q a : Nat) (st : Bool) (R : List RE) (f : RE) (w : World) (h : RS w N A n c R) (hf : ROk w N f) (hN : ∀ k, N k → k < w.heap.size) (hcnt : (withG RE.name f R).length ≤ 1024) :
    Calls Tryz.prog 77 #[rdisk A n c q a st, f.agg] w fun e w' => ∃ A1 n1 c1, e = .returned (rdisk A1 n1 c1 q a st) ∧ RS w' N A1 n1 c1 (withG RE.name f R) ∧ Ext w w' := by
  obtain ⟨W, hW⟩ : ∃ W, W = ((w.alloc (.cells #[.slice A n c, .int .i64 q, .int .i64 a, .bool st] 44)).alloc (.cells #[str f.name, .slice f.A f.b.length f.c, .int .i64 f.sure] 94)).alloc (.cells #[.slice none 0 0, .int .i64 0, .int .i64 0, .bool false] 44) := ⟨_, rfl⟩
  have hE : Ext w W := by rw [hW]; exact (((Ext.refl w).alloc _).alloc _).alloc _
  have hWs : W.heap.size = w.heap.size + 3 := by rw [hW, size_alloc, size_alloc, size_alloc]
  have hd : Row W w.heap.size 44 #[.slice A n c, .int .i64 q, .int .i64 a, .bool st] := by rw [hW]; exact ((Row.new w _ _).alloc _).alloc _
  have hfr : Row W (w.heap.size + 1) 94 #[str f.name, .slice f.A f.b.length f.c, .int .i64 f.sure] := by
    have := Row.new (w.alloc (.cells #[.slice A n c, .int .i64 q, .int .i64 a, .bool st] 44)) 94 #[str f.name, .slice f.A f.b.length f.c, .int .i64 f.sure]
    rw [size_alloc] at this
    rw [hW]
    exact this.alloc _
  have hr2 : Row W (w.heap.size + 1 + 1) 44 #[.slice none 0 0, .int .i64 0, .int .i64 0, .bool false] := by
    have := Row.new ((w.alloc (.cells #[.slice A n c, .int .i64 q, .int .i64 a, .bool st] 44)).alloc (.cells #[str f.name, .slice f.A f.b.length f.c, .int .i64 f.sure] 94)) 44 #[.slice none 0 0, .int .i64 0, .int .i64 0, .bool false]
    rw [size_alloc, size_alloc] at this
    rw [hW]
    exact this
  obtain ⟨N2, hN2⟩ : ∃ N2 : Nat → Prop, N2 = fun k => N k ∨ (w.heap.size ≤ k ∧ k < w.heap.size + 3) := ⟨_, rfl⟩
  have hsub : ∀ k, k < w.heap.size → N2 k → N k := by
    intro k hk hn
    rw [hN2] at hn
    rcases hn with hn | hn
    · exact hn
    · omega
  have hN2s : ∀ k, N2 k → k < W.heap.size := by
    intro k hn
    rw [hN2] at hn
    rcases hn with hn | hn
    · have := hN k hn; omega
    · omega
  have hRW : RS W N2 A n c R := h.chg (Chg.of_ext hE (fun _ => False)) (fun _ _ h => h.elim) hsub
  have hwo := rwithout_any N2 A n c q a st R f.name W hRW hN2s
  have d0 : W.cell? ⟨w.heap.size, 0, none⟩ = some (.slice A n c) := hd.cell 0 rfl
  have d1 : W.cell? ⟨w.heap.size, 1, none⟩ = some (.int .i64 q) := hd.cell 1 rfl
  have d2 : W.cell? ⟨w.heap.size, 2, none⟩ = some (.int .i64 a) := hd.cell 2 rfl
  have d3 : W.cell? ⟨w.heap.size, 3, none⟩ = some (.bool st) := hd.cell 3 rfl
  have f0 : W.cell? ⟨w.heap.size + 1, 0, none⟩ = some (str f.name) := hfr.cell 0 rfl
  have hWx := hW.symm
  unfold rdisk str at hwo
  unfold str at hWx f0
  unfold rdisk RE.agg str
  replace hwo := hide hwo
  replace hWx := hide hWx
  clear hW
  replace hWs := hide hWs
  replace hcnt := hide hcnt
  go_enter Tryz.func77, Tryz.ntmps77
  go_wp2_with fail
  rw [hWx.out]
  go_wp2_with fail
  refine hwo.out.mono ?_
  rintro e w1 ⟨A1, n1, c1, rfl, hR1, hE1⟩
  have hd1 := hd.ext hE1
  have g0 : w1.cell? ⟨w.heap.size, 0, none⟩ = some (.slice A n c) := hd1.cell 0 rfl
  have g1 : w1.cell? ⟨w.heap.size, 1, none⟩ = some (.int .i64 q) := hd1.cell 1 rfl
  have g2 : w1.cell? ⟨w.heap.size, 2, none⟩ = some (.int .i64 a) := hd1.cell 2 rfl
  have g3 : w1.cell? ⟨w.heap.size, 3, none⟩ = some (.bool st) := hd1.cell 3 rfl
  have fd0 := hd1.free 0
  have fd1 := hd1.free 1
  have fd2 := hd1.free 2
  have fd3 := hd1.free 3
  go_upto_region 2 with (fail)
  obtain ⟨W1, hW1⟩ : ∃ W1, W1 = (((w1.setCell ⟨w.heap.size, 0, none⟩ (.slice A1 n1 c1)).setCell ⟨w.heap.size, 1, none⟩ (.int .i64 q)).setCell ⟨w.heap.size, 2, none⟩ (.int .i64 a)).setCell ⟨w.heap.size, 3, none⟩ (.bool st) := ⟨_, rfl⟩
  rw [← hW1]
  have hcW : Chg (fun k => k = w.heap.size) w1 W1 := by
    rw [hW1]
    exact (((Chg.of_set (S := fun k => k = w.heap.size) w1 (a := ⟨w.heap.size, 0, none⟩) _ rfl).trans (Chg.of_set (S := fun k => k = w.heap.size) _ (a := ⟨w.heap.size, 1, none⟩) _ rfl) fun _ _ h => h).trans (Chg.of_set (S := fun k => k = w.heap.size) _ (a := ⟨w.heap.size, 2, none⟩) _ rfl) fun _ _ h => h).trans (Chg.of_set (S := fun k => k = w.heap.size) _ (a := ⟨w.heap.size, 3, none⟩) _ rfl) fun _ _ h => h
  have hdW : Row W1 w.heap.size 44 #[.slice A1 n1 c1, .int .i64 q, .int .i64 a, .bool st] := by
    rw [hW1]
    exact (((hd1.put 0 _).put 1 _).put 2 _).put 3 _
  have hfW : Row W1 (w.heap.size + 1) 94 #[str f.name, .slice f.A f.b.length f.c, .int .i64 f.sure] := hcW.row (hfr.ext hE1) (by omega)
  have hrW : Row W1 (w.heap.size + 1 + 1) 44 #[.slice none 0 0, .int .i64 0, .int .i64 0, .bool false] := hcW.row (hr2.ext hE1) (by omega)
  have hRW1 : RS W1 N2 A1 n1 c1 (withoutG RE.name f.name R) := hR1.chg hcW (fun k _ hk => by rw [hN2, hk]; exact .inr ⟨Nat.le_refl _, by omega⟩) fun _ _ h => h
  have hEW1 : Ext w W1 := (hE.trans hE1).chg hcW fun i hi hh => by omega
  have hWsz : w.heap.size + 3 ≤ W1.heap.size := by rw [← hWs.out]; exact Nat.le_trans hE1.size hcW.size
  obtain ⟨R', hR'⟩ : ∃ R', R' = withoutG RE.name f.name R := ⟨_, rfl⟩
  rw [← hR'] at hRW1
  have hn1 := hRW1.len
  have hm1 := hRW1.many
  replace hn1 := hide hn1
  replace hR' := hide hR'
  clear hW1 hR1 g0 g1 g2 g3 fd0 fd1 fd2 fd3 d0 d1 d2 d3 f0 hd1 hRW
  go_wp2_with fail
  go_loopw [5, 6, 7] (fun s5 s6 s7 wr => ∃ (i n2 c2 : Nat) (A2 : Option Addr) (l : List RE) (put : Bool), s7 = .int .i64 i ∧ s5 = .slice A2 n2 c2 ∧ s6 = .bool put ∧ i ≤ n1 ∧ Hid ((put = true → n2 ≤ i + 1) ∧ (put = false → n2 ≤ i)) ∧ Hid (Ins f (R'.take i) l put) ∧ Hid (wr.ownsRow W1.heap.size 94 3 (.slice A2 n2 c2) n2 (rcells l)) ∧ Ext W1 wr) (fun _ _ s7 _ => n1 - (intOf s7).toNat)
  case atStart => exact ⟨0, 0, 0, none, [], false, rfl, rfl, rfl, by omega, hide ⟨fun _ => by omega, fun _ => by omega⟩, hide ⟨rfl, by simp⟩, hide (World.ownsRow_nil _ _ _ _), Ext.refl _⟩
  case round =>
    obtain ⟨i, n2, c2, A2, l, put, rfl, rfl, rfl, hi, hn2', hI, hO, hEr⟩ := hrel
    have c0r : wr.cell? ⟨w.heap.size, 0, none⟩ = some (.slice A1 n1 c1) := (hdW.ext hEr).cell 0 rfl
    have fr := hfW.ext hEr
    have f0r : wr.cell? ⟨w.heap.size + 1, 0, none⟩ = some (str f.name) := fr.cell 0 rfl
    have f1r : wr.cell? ⟨w.heap.size + 1, 1, none⟩ = some (.slice f.A f.b.length f.c) := fr.cell 1 rfl
    have f2r : wr.cell? ⟨w.heap.size + 1, 2, none⟩ = some (.int .i64 f.sure) := fr.cell 2 rfl
    unfold str at f0r
    by_cases hin : i < n1
    · obtain ⟨g, o, r, rfl, hr, kW0, kW1, kW2⟩ := hRW1.at_ hin
      unfold str at kW0
      have k0 := hEr.cell kW0
      have k1 := hEr.cell kW1
      have k2 := hEr.cell kW2
      have htk := take_one R' i r hr
      have hrs := (hRW1.ok r (List.mem_of_getElem? hr)).name
      have hlt := rless_any f.name r.name wr.drew hf.name hrs
      unfold str at hlt
      replace hr := hide hr
      replace htk := hide htk
      replace hlt := hide hlt
      have hO2 := hO.out
      have hsz := hEr.size
      cases put with
      | true =>
        have hn2 := hn2'.out.1 rfl
        have hI2 := hI.out.later (x := r)
        rw [← htk.out] at hI2
        replace hI2 := hide hI2
        have hO2d := World.ownsRow.drew hO2
        go_wp2_with fail
        refine wp_region_text follows (by kernel_rfl) (by kernel_rfl) (fun K hK => ?_)
        go_wp2_with fail
        refine ⟨by kernel_rfl, ?_⟩
        go_wp2_with (at_builtin; refine wpList_appS (us := [.string ⟨r.name.toArray⟩, .slice r.A r.b.length r.c, .int .i64 r.sure]) (m := 1) elemF hO2d (.tmp 36) (.tmp 42) rfl rfl rfl rfl rfl (one_of rfl) (by omega) hsz (fun A3 c3 w3 ho3 hg3 hl3 => ?_))
        have ho4 : Hid (w3.ownsRow W1.heap.size 94 3 (.slice A3 (n2 + 1) c3) (n2 + 1) (rcells (l ++ [r]))) := hide (by
          rw [rcells_append]
          exact ho3)
        have hE3 : Ext W1 w3 := hEr.drew.grown hg3 (own_ge hO2)
        go_roundw
        case rel => exact ⟨i + 1, n2 + 1, c3, A3, l ++ [r], true, by go_num, rfl, rfl, by omega, hide ⟨fun _ => by omega, nofun⟩, hI2, ho4, hE3⟩
        case measure => simp [intOf]; omega
      | false =>
        have hn2 := hn2'.out.2 rfl
        have hO2d := World.ownsRow.drew hO2
        by_cases hx : f.name < r.name
        · have hI2 := hI.out.now hx
          rw [← htk.out] at hI2
          replace hI2 := hide hI2
          have hlt2 := hlt.out
          rw [decide_eq_true hx] at hlt2
          replace hlt2 := hide hlt2
          replace hx := hide hx
          go_wp2_with fail
          refine wp_region_text follows (by kernel_rfl) (by kernel_rfl) (fun K hK => ?_)
          go_wp2_with fail
          refine hlt2.out.mono ?_
          rintro e w5 ⟨rfl, hE5⟩
          have hE5r : Ext wr w5 := (Ext.refl wr).drew.trans hE5
          have hE5W := hEr.trans hE5r
          have hO5 := hE5.owns hO2d
          have hsz5 := hE5W.size
          have c5 := hE5r.cell c0r
          have a5 := hE5r.cell f0r
          have b5 := hE5r.cell f1r
          have d5 := hE5r.cell f2r
          have hge := own_ge hO5
          replace hge := hide hge
          go_wp2_with fail
          refine ⟨by kernel_rfl, ?_⟩
          go_wp2_with (first | (at_builtin; refine wpList_appS (us := [.string ⟨f.name.toArray⟩, .slice f.A f.b.length f.c, .int .i64 f.sure]) (m := 1) elemF hO5 (.tmp 32) (.tmp 34) rfl rfl rfl rfl rfl (one_of rfl) (by omega) hsz5 (fun A3 c3 w3 ho3 hg3 hl3 => ?_); have hE3 : Ext W1 w3 := hE5W.grown hg3 hge.out; have hge3 := own_ge ho3; replace hge3 := hide hge3; have hsz3 := hE3.size; have m0 := hE3.cell kW0; have m1 := hE3.cell kW1; have m2 := hE3.cell kW2; have m3 : w3.cell? ⟨w.heap.size, 0, none⟩ = some (.slice (some ⟨g, o, none⟩) n1 c1) := (hdW.ext hE3).cell 0 rfl) | (at_builtin; refine wpList_appS (us := [.string ⟨r.name.toArray⟩, .slice r.A r.b.length r.c, .int .i64 r.sure]) (m := 1) elemF ho3 (.tmp 36) (.tmp 42) rfl rfl rfl rfl rfl (one_of rfl) (by omega) hsz3 (fun A4 c4 w4 ho4 hg4 hl4 => ?_)))
          have ho6 : Hid (w4.ownsRow W1.heap.size 94 3 (.slice A4 (n2 + 1 + 1) c4) (n2 + 1 + 1) (rcells (l ++ [f] ++ [r]))) := hide (by
            rw [rcells_append, rcells_append]
            exact ho4)
          have hE4 : Ext W1 w4 := hE3.grown hg4 hge3.out
          go_roundw
          case rel => exact ⟨i + 1, n2 + 1 + 1, c4, A4, l ++ [f] ++ [r], true, by go_num, rfl, rfl, by omega, hide ⟨fun _ => by omega, nofun⟩, hI2, ho6, hE4⟩
          case measure => simp [intOf]; omega
        · have hI2 := hI.out.past hx
          rw [← htk.out] at hI2
          replace hI2 := hide hI2
          have hlt2 := hlt.out
          rw [decide_eq_false hx] at hlt2
          replace hlt2 := hide hlt2
          replace hx := hide hx
          go_wp2_with fail
          refine wp_region_text follows (by kernel_rfl) (by kernel_rfl) (fun K hK => ?_)
          go_wp2_with fail
          refine hlt2.out.mono ?_
          rintro e w5 ⟨rfl, hE5⟩
          have hE5r : Ext wr w5 := (Ext.refl wr).drew.trans hE5
          have hE5W := hEr.trans hE5r
          have hO5 := hE5.owns hO2d
          have hsz5 := hE5W.size
          have c5 := hE5r.cell c0r
          have m0 := hE5W.cell kW0
          have m1 := hE5W.cell kW1
          have m2 := hE5W.cell kW2
          have hge := own_ge hO5
          replace hge := hide hge
          go_wp2_with fail
          refine ⟨by kernel_rfl, ?_⟩
          go_wp2_with (at_builtin; refine wpList_appS (us := [.string ⟨r.name.toArray⟩, .slice r.A r.b.length r.c, .int .i64 r.sure]) (m := 1) elemF hO5 (.tmp 36) (.tmp 42) rfl rfl rfl rfl rfl (one_of rfl) (by omega) hsz5 (fun A4 c4 w4 ho4 hg4 hl4 => ?_))
          have ho6 : Hid (w4.ownsRow W1.heap.size 94 3 (.slice A4 (n2 + 1) c4) (n2 + 1) (rcells (l ++ [r]))) := hide (by
            rw [rcells_append]
            exact ho4)
          have hE4 : Ext W1 w4 := hE5W.grown hg4 hge.out
          go_roundw
          case rel => exact ⟨i + 1, n2 + 1, c4, A4, l ++ [r], false, by go_num, rfl, rfl, by omega, hide ⟨nofun, fun _ => by omega⟩, hI2, ho6, hE4⟩
          case measure => simp [intOf]; omega
    · obtain rfl : i = n1 := by omega
      have hI2 := hI.out
      rw [List.take_of_length_le (by rw [← hn1.out]; exact Nat.le_refl _)] at hI2
      have hO2 := hO.out
      have hdr := hdW.ext hEr
      have hrr := hrW.ext hEr
      have c1r : wr.cell? ⟨w.heap.size, 1, none⟩ = some (.int .i64 q) := hdr.cell 1 rfl
      have c2r : wr.cell? ⟨w.heap.size, 2, none⟩ = some (.int .i64 a) := hdr.cell 2 rfl
      have c3r : wr.cell? ⟨w.heap.size, 3, none⟩ = some (.bool st) := hdr.cell 3 rfl
      have fd0 := hdr.free 0
      have fr0 := hrr.free 0
      have fr1 := hrr.free 1
      have fr2 := hrr.free 2
      have fr3 := hrr.free 3
      have e0 : wr.cell? ⟨w.heap.size + 1 + 1, 0, none⟩ = some (.slice none 0 0) := hrr.cell 0 rfl
      have e1 : wr.cell? ⟨w.heap.size + 1 + 1, 1, none⟩ = some (.int .i64 0) := hrr.cell 1 rfl
      have e2 : wr.cell? ⟨w.heap.size + 1 + 1, 2, none⟩ = some (.int .i64 0) := hrr.cell 2 rfl
      have e3 : wr.cell? ⟨w.heap.size + 1 + 1, 3, none⟩ = some (.bool false) := hrr.cell 3 rfl
      have hwit : withG RE.name f R = insG RE.name f R' := by rw [hR'.out]; rfl
      have hmem : ∀ x ∈ withG RE.name f R, ∀ wf, Ext w wf → ROk wf N x := fun x hx wf hwf => by
        rcases mem_with.1 hx with rfl | ⟨h1, _⟩
        · exact hf.ext hwf
        · exact (h.ok x h1).ext hwf
      have hgeN : ∀ k, k ≥ W1.heap.size → k ≠ w.heap.size ∧ k ≠ w.heap.size + 1 + 1 := fun k hk => ⟨by omega, by omega⟩
      replace hwit := hide hwit
      replace hmem := hide hmem
      replace hgeN := hide hgeN
      cases put with
      | true =>
        have hn2 := hn2'.out.1 rfl
        have hl : rcells l = rcells (withG RE.name f R) := by rw [hwit.out, hI2.1]
        rw [hl] at hO2
        replace hI2 := hide hI2
        replace hl := hide hl
        go_wp2_with fail
        have hfin := rdisk_out2 hrr hO2 (fun k hk => hgeN.out k (own_ge hO2 k hk)) (b := w.heap.size) (by omega) (hEW1.trans hEr) (Nat.le_refl _) (by omega) (q := q) (a := a) (st := st)
        obtain ⟨wf, hwf⟩ : ∃ wf, wf = (((((wr.setCell ⟨w.heap.size, 0, none⟩ (.slice A2 n2 c2)).setCell ⟨w.heap.size + 1 + 1, 0, none⟩ (.slice A2 n2 c2)).setCell ⟨w.heap.size + 1 + 1, 1, none⟩ (.int .i64 q)).setCell ⟨w.heap.size + 1 + 1, 2, none⟩ (.int .i64 a)).setCell ⟨w.heap.size + 1 + 1, 3, none⟩ (.bool st)) := ⟨_, rfl⟩
        rw [← hwf] at hfin ⊢
        obtain ⟨z0, z1, z2, z3, hEf, hof⟩ := hfin
        refine bodyPost_ret (v := .agg #[.slice A2 n2 c2, .int .i64 q, .int .i64 a, .bool st]) (by simp [results, Tryz.results77, go_sem, z0, z1, z2, z3]) rfl ⟨A2, n2, c2, rfl, ?_⟩
        exact ⟨RS.of_own (w := w) hof (by omega) hN (fun r hr => hmem.out r hr wf hEf) hcnt.out, hEf⟩
      | false =>
        have hn2 := hn2'.out.2 rfl
        have hl : rcells (l ++ [f]) = rcells (withG RE.name f R) := by rw [hwit.out, ins_none hI2.2, hI2.1]
        replace hI2 := hide hI2
        have hsz := hEr.size
        have hge := own_ge hO2
        replace hge := hide hge
        replace hl := hide hl
        go_wp2_with (at_builtin; refine wpList_appS (us := [.string ⟨f.name.toArray⟩, .slice f.A f.b.length f.c, .int .i64 f.sure]) (m := 1) elemF hO2 (.tmp 46) (.tmp 48) rfl rfl rfl rfl rfl (one_of rfl) (by omega) hsz (fun A3 c3 w3 ho3 hg3 hl3 => ?_); have hE3 : Ext W1 w3 := hEr.grown hg3 hge.out; have hd3 := hdW.ext hE3; have hr3 := hrW.ext hE3; have p0 := hd3.free 0; have p1 := hr3.free 0; have p2 := hr3.free 1; have p3 := hr3.free 2; have p4 := hr3.free 3; have t0 : w3.cell? ⟨w.heap.size, 0, none⟩ = some (.slice A1 i c1) := hd3.cell 0 rfl; have t1 : w3.cell? ⟨w.heap.size, 1, none⟩ = some (.int .i64 q) := hd3.cell 1 rfl; have t2 : w3.cell? ⟨w.heap.size, 2, none⟩ = some (.int .i64 a) := hd3.cell 2 rfl; have t3 : w3.cell? ⟨w.heap.size, 3, none⟩ = some (.bool st) := hd3.cell 3 rfl; have u0 : w3.cell? ⟨w.heap.size + 1 + 1, 0, none⟩ = some (.slice none 0 0) := hr3.cell 0 rfl; have u1 : w3.cell? ⟨w.heap.size + 1 + 1, 1, none⟩ = some (.int .i64 0) := hr3.cell 1 rfl; have u2 : w3.cell? ⟨w.heap.size + 1 + 1, 2, none⟩ = some (.int .i64 0) := hr3.cell 2 rfl; have u3 : w3.cell? ⟨w.heap.size + 1 + 1, 3, none⟩ = some (.bool false) := hr3.cell 3 rfl)
        have ho6 : w3.ownsRow W1.heap.size 94 3 (.slice A3 (n2 + 1) c3) (n2 + 1) (rcells (withG RE.name f R)) := by
          rw [← hl.out, rcells_append]
          exact ho3
        have hfin := rdisk_out2 hr3 ho6 (fun k hk => hgeN.out k (own_ge ho6 k hk)) (b := w.heap.size) (by omega) (hEW1.trans hE3) (Nat.le_refl _) (by omega) (q := q) (a := a) (st := st)
        obtain ⟨wf, hwf⟩ : ∃ wf, wf = (((((w3.setCell ⟨w.heap.size, 0, none⟩ (.slice A3 (n2 + 1) c3)).setCell ⟨w.heap.size + 1 + 1, 0, none⟩ (.slice A3 (n2 + 1) c3)).setCell ⟨w.heap.size + 1 + 1, 1, none⟩ (.int .i64 q)).setCell ⟨w.heap.size + 1 + 1, 2, none⟩ (.int .i64 a)).setCell ⟨w.heap.size + 1 + 1, 3, none⟩ (.bool st)) := ⟨_, rfl⟩
        rw [← hwf] at hfin ⊢
        obtain ⟨z0, z1, z2, z3, hEf, hof⟩ := hfin
        refine bodyPost_ret (v := .agg #[.slice A3 (n2 + 1) c3, .int .i64 q, .int .i64 a, .bool st]) (by simp [results, Tryz.results77, go_sem, z0, z1, z2, z3]) rfl ⟨A3, n2 + 1, c3, rfl, ?_⟩
        exact ⟨RS.of_own (w := w) hof (by omega) hN (fun r hr => hmem.out r hr wf hEf) hcnt.out, hEf⟩
end Go.Proofs.YtaoolpnnomhnoaaGreatDoor

/- loggiaref06: List, SameNames. -/
namespace Go.Proofs.YtaoolpnnomhnoaaGreatDoor
open Go.RowKit Go.Maps

def NamesPost (ns : List (List UInt8)) (w : World) (e : Ending) (w' : World) : Prop := ∃ A1 n1 c1, e = .returned (.slice A1 n1 c1) ∧ n1 = ns.length ∧ n1 ≤ 1024 ∧ Cells w' A1 (ns.map str) ∧ Ext w w'
set_option maxRecDepth 100000 in
set_option maxHeartbeats 1000000 in
theorem rlist_any (N : Nat → Prop) (A : Option Addr) (n c : Nat) (P : PD) (R : List RE) (w : World) (h : RS w N A n c R) (hP : R.map RE.pl = P.L) :
    Calls Tryz.prog 51 #[rdisk A n c P.quota P.armed P.stopped] w (NamesPost (listM P) w) := by
  obtain ⟨q, hq⟩ : ∃ q, q = P.quota := ⟨_, rfl⟩
  obtain ⟨a, ha⟩ : ∃ q, q = P.armed := ⟨_, rfl⟩
  obtain ⟨st, hst⟩ : ∃ q, q = P.stopped := ⟨_, rfl⟩
  have hm : listM P = if st then [] else R.map RE.name := by
    unfold listM
    rw [hst, ← hP, List.map_map]
    rfl
  rw [hm, ← hq, ← ha, ← hst]
  unfold rdisk
  obtain ⟨ns, hns⟩ : ∃ ns, ns = if st = true then [] else R.map RE.name := ⟨_, rfl⟩
  rw [← hns]
  replace hns := hide hns
  have hlen := h.len
  have hmany := h.many
  replace hlen := hide hlen
  replace hq := hide hq
  replace ha := hide ha
  replace hst := hide hst
  clear hm
  obtain ⟨W, hW⟩ : ∃ W, W = w.alloc (.cells #[.slice A n c, .int .i64 q, .int .i64 a, .bool st] 44) := ⟨_, rfl⟩
  have hE : Ext w W := by rw [hW]; exact (Ext.refl w).alloc _
  have hd : Row W w.heap.size 44 #[.slice A n c, .int .i64 q, .int .i64 a, .bool st] := by rw [hW]; exact Row.new w _ _
  have hR := h.ext hE
  have hWx := hide hW.symm
  clear hW
  go_enter Tryz.func51, Tryz.ntmps51
  go_wp2_with fail
  rw [hWx.out]
  go_loopw [3, 4] (fun s3 s4 wr => ∃ (i c1 : Nat) (A1 : Option Addr), s4 = .int .i64 i ∧ s3 = .slice A1 i c1 ∧ i ≤ n ∧ Hid (st = true → i = 0) ∧ Hid (wr.ownsRow W.heap.size 9 1 (.slice A1 i c1) i ((R.take i).map fun r => str r.name)) ∧ Ext W wr) (fun _ s4 _ => n - (intOf s4).toNat)
  case atStart => exact ⟨0, 0, none, rfl, rfl, by omega, hide (fun _ => rfl), hide (World.ownsRow_nil _ _ _ _), Ext.refl _⟩
  case round =>
    obtain ⟨i, c1, A1, rfl, rfl, hi, hsi, hO, hEr⟩ := hrel
    have c0r : wr.cell? ⟨w.heap.size, 0, none⟩ = some (.slice A n c) := (hd.ext hEr).cell 0 rfl
    have c3r : wr.cell? ⟨w.heap.size, 3, none⟩ = some (.bool st) := (hd.ext hEr).cell 3 rfl
    by_cases hin : i < n
    · cases st with
      | true =>
        obtain rfl := hsi.out rfl
        have fin : NamesPost ns w (.returned (.slice A1 0 c1)) wr := by
          rw [hns.out, if_pos rfl]
          exact ⟨A1, 0, c1, rfl, rfl, by omega, .inl rfl, hE.trans hEr⟩
        replace fin := hide fin
        go_wp2_with fail
        go_ret
        exact fin.out
      | false =>
        obtain ⟨g, o, r, rfl, hr, k0, k1, k2⟩ := (hR.ext hEr).at_ hin
        unfold str at k0
        have htk := take_one R i r hr
        replace hr := hide hr
        replace htk := hide htk
        have hO2 := hO.out
        have hsz := hEr.size
        go_wp2_with (at_builtin; refine wpList_appN (us := [.string ⟨r.name.toArray⟩]) elemS hO2 (.tmp 17) (.tmp 24) rfl rfl rfl rfl (one_of rfl) (by simp; omega) hsz (fun A3 c3 w3 ho3 hg3 hl3 => ?_))
        have ho4 : Hid (w3.ownsRow W.heap.size 9 1 (.slice A3 (i + 1) c3) (i + 1) ((R.take (i + 1)).map fun r => str r.name)) := hide (by
          rw [htk.out, List.map_append]
          exact ho3)
        have hE3 : Ext W w3 := hEr.grown hg3 (own_ge hO2)
        go_roundw
        case rel => exact ⟨i + 1, c3, A3, by go_num, rfl, by omega, hide nofun, ho4, hE3⟩
        case measure => simp [intOf]; omega
    · obtain rfl : i = n := by omega
      have hO2 := hO.out
      rw [List.take_of_length_le (by rw [← hlen.out]; exact Nat.le_refl _)] at hO2
      have fin : NamesPost ns w (.returned (.slice A1 i c1)) wr := by
        rw [hns.out]
        cases st with
        | true =>
          have := hsi.out rfl
          rw [if_pos rfl]
          exact ⟨A1, i, c1, rfl, this, hmany, .inl rfl, hE.trans hEr⟩
        | false =>
          rw [if_neg (by simp)]
          refine ⟨A1, i, c1, rfl, by rw [List.length_map]; exact hlen.out, hmany, ?_, hE.trans hEr⟩
          have := Cells.of_own hO2
          rw [List.map_map]
          exact this
      replace fin := hide fin
      go_wp2_with fail
      go_ret
      exact fin.out
set_option maxRecDepth 100000 in
set_option maxHeartbeats 1000000 in
theorem rsamen_any (A B : Option Addr) (n m c c2 : Nat) (xs ys : List (List UInt8)) (w : World) (hn : n = xs.length) (hm : m = ys.length) (hA : Cells w A (xs.map str)) (hB : Cells w B (ys.map str)) (hn2 : n ≤ 1024) (hm2 : m ≤ 1024) :
    Calls Tryz.prog 49 #[.slice A n c, .slice B m c2] w fun e w' => e = .returned (.bool (decide (xs = ys))) ∧ Ext w w' := by
  replace hn := hide hn
  replace hm := hide hm
  by_cases hnm : n = m
  · subst hnm
    go_enter Tryz.func49, Tryz.ntmps49
    go_wp2_with fail
    go_loopw [5] (fun s5 wr => ∃ i : Nat, s5 = .int .i64 i ∧ i ≤ n ∧ Hid (xs.take i = ys.take i) ∧ Ext w wr) (fun s5 _ => n - (intOf s5).toNat)
    case atStart => exact ⟨0, rfl, by omega, hide rfl, Ext.refl _⟩
    case round =>
      obtain ⟨i, rfl, hi, hs, hE⟩ := hrel
      by_cases hin : i < n
      · have hx : i < xs.length := by rw [← hn.out]; exact hin
        have hy : i < ys.length := by rw [← hm.out]; exact hin
        obtain ⟨g, o, rfl, hc⟩ := hA.at_ (by rw [List.length_map]; omega)
        obtain ⟨g2, o2, rfl, hc2⟩ := hB.at_ (by rw [List.length_map]; omega)
        obtain ⟨x, hxe⟩ : ∃ x, x = xs[i] := ⟨_, rfl⟩
        obtain ⟨y, hye⟩ : ∃ y, y = ys[i] := ⟨_, rfl⟩
        have k1 : wr.cell? ⟨g, o + i, none⟩ = some (str x) := hE.cell (hc i (str x) (by simp [hx, hxe]))
        have k2 : wr.cell? ⟨g2, o2 + i, none⟩ = some (str y) := hE.cell (hc2 i (str y) (by simp [hy, hye]))
        clear hc hc2
        unfold str at k1 k2
        have hnx := take_one xs i x (by rw [hxe]; exact List.getElem?_eq_getElem hx)
        have hny := take_one ys i y (by rw [hye]; exact List.getElem?_eq_getElem hy)
        replace hnx := hide hnx
        replace hny := hide hny
        by_cases hxy : x = y
        · have q1 : (x == y) = true := by rw [hxy]; exact beq_self_eq_true y
          have q2 : (x != y) = false := by rw [hxy]; simp
          have hs2 : Hid (xs.take (i + 1) = ys.take (i + 1)) := hide (by rw [hnx.out, hny.out, hs.out, hxy])
          replace hxe := hide hxe
          replace hye := hide hye
          replace hxy := hide hxy
          go_wp2_with fail
          refine wp_region_text follows (by kernel_rfl) (by kernel_rfl) (fun K hK => ?_)
          go_wp2_with fail
          refine ⟨by kernel_rfl, ?_⟩
          go_wp2_with fail
          go_roundw
          case rel => exact ⟨i + 1, by go_num, by omega, hs2, hE.drew⟩
          case measure => simp [intOf]; omega
        · have q1 : (x == y) = false := beq_eq_false_iff_ne.2 hxy
          have q2 : (x != y) = true := bne_iff_ne.2 hxy
          have hs2 : Hid (decide (xs = ys) = false) := hide (decide_eq_false fun h => hxy (by rw [hxe, hye]; simp [h]))
          replace hxe := hide hxe
          replace hye := hide hye
          replace hxy := hide hxy
          go_wp2_with fail
          refine wp_region_text follows (by kernel_rfl) (by kernel_rfl) (fun K hK => ?_)
          go_wp2_with fail
          refine ⟨by kernel_rfl, ?_⟩
          go_wp2_with fail
          go_ret
          rw [hs2.out]
          exact ⟨rfl, hE.drew⟩
      · have hs2 : Hid (decide (xs = ys) = true) := hide (decide_eq_true (by
          have h1 := hs.out
          rw [List.take_of_length_le (by rw [← hn.out]; omega), List.take_of_length_le (by rw [← hm.out]; omega)] at h1
          exact h1))
        go_wp2_with fail
        go_ret
        rw [hs2.out]
        exact ⟨rfl, hE⟩
  · have hs2 : Hid (decide (xs = ys) = false) := hide (decide_eq_false fun h => hnm (by rw [hn.out, hm.out, h]))
    have q1 : ((n : Int) == m) = false := beq_eq_false_iff_ne.2 (by omega)
    have q2 : ((n : Int) != m) = true := bne_iff_ne.2 (by omega)
    go_enter Tryz.func49, Tryz.ntmps49
    go_wp2_with fail
    go_ret
    rw [hs2.out]
    exact ⟨rfl, Ext.refl _⟩
end Go.Proofs.YtaoolpnnomhnoaaGreatDoor

/- loggiaref06: call, New, Arm. -/
namespace Go.Proofs.YtaoolpnnomhnoaaGreatDoor
open Go.RowKit Go.Maps

set_option maxRecDepth 100000 in
set_option maxHeartbeats 1000000 in
theorem rcall_any (A : Option Addr) (n c q a : Nat) (w : World) (ha : a ≤ 9223372036854775807) :
    Calls Tryz.prog 76 #[rdisk A n c q a false] w fun e w' => e = .returned (.tuple #[rdisk A n c q (a - 1) (decide (a = 1)), .bool (decide (a = 1))]) ∧ Ext w w' := by
  unfold rdisk
  by_cases h0 : a = 0
  · subst h0
    go_enter Tryz.func76, Tryz.ntmps76
    go_wp2_with fail
    exact bodyPost_ret (v := .tuple #[.agg #[.slice A n c, .int .i64 q, .int .i64 0, .bool false], .bool false]) (by simp [results, Tryz.results76, go_sem]) rfl ⟨rfl, ((Ext.refl w).alloc _).alloc _⟩
  · by_cases h1 : a = 1
    · subst h1
      go_enter Tryz.func76, Tryz.ntmps76
      go_wp2_with fail
      go_region
      go_wp2_with fail
      exact bodyPost_ret (v := .tuple #[.agg #[.slice A n c, .int .i64 q, .int .i64 0, .bool true], .bool true]) (by simp [results, Tryz.results76, go_sem]) rfl ⟨rfl, (((Ext.refl w).alloc _).alloc _).drew⟩
    · obtain ⟨k, rfl⟩ : ∃ k, a = k + 2 := ⟨a - 2, by omega⟩
      have hd : decide (k + 2 = 1) = false := decide_eq_false (by omega)
      have hk : k + 2 - 1 = k + 1 := rfl
      rw [hd, hk]
      clear hd hk h0 h1
      go_enter Tryz.func76, Tryz.ntmps76
      go_wp2_with fail
      go_region
      go_wp2_with fail
      have hk1 : ((k : Int) + 2 - 1) = ((k + 1 : Nat) : Int) := by omega
      rw [hk1]
      exact bodyPost_ret (v := .tuple #[.agg #[.slice A n c, .int .i64 q, .int .i64 ((k + 1 : Nat) : Int), .bool false], .bool false]) (by simp [results, Tryz.results76, go_sem]) rfl ⟨rfl, (((Ext.refl w).alloc _).alloc _).drew⟩
set_option maxRecDepth 100000 in
theorem rnew_no (q : Int) (w : World) (hq : q < 0) :
    Calls Tryz.prog 38 #[.int .i64 q] w fun e w' => e = .returned (.tuple #[rdisk none 0 0 0 0 false, .int .i64 1]) ∧ Ext w w' := by
  go_enter Tryz.func38, Tryz.ntmps38
  go_wp2_with fail
  exact bodyPost_ret (v := .tuple #[.agg #[.slice none 0 0, .int .i64 0, .int .i64 0, .bool false], .int .i64 1]) (by simp [results, Tryz.results38, go_sem]) rfl ⟨rfl, (Ext.refl w).alloc _⟩
set_option maxRecDepth 100000 in
theorem rnew_yes (q : Nat) (w : World) :
    Calls Tryz.prog 38 #[.int .i64 q] w fun e w' => e = .returned (.tuple #[rdisk none 0 0 q 0 false, .int .i64 0]) ∧ Ext w w' := by
  go_enter Tryz.func38, Tryz.ntmps38
  go_wp2_with fail
  exact bodyPost_ret (v := .tuple #[.agg #[.slice none 0 0, .int .i64 q, .int .i64 0, .bool false], .int .i64 0]) (by simp [results, Tryz.results38, go_sem]) rfl ⟨rfl, (Ext.refl w).alloc _⟩
set_option maxRecDepth 100000 in
theorem rarm_any (A : Option Addr) (n c q a : Nat) (st : Bool) (k : Int) (w : World) :
    Calls Tryz.prog 16 #[rdisk A n c q a st, .int .i64 k] w fun e w' => e = .returned (rdisk A n c q k.toNat st) ∧ Ext w w' := by
  unfold rdisk
  have hmx : (max k 0 : Int) = (k.toNat : Nat) := by omega
  have hmy : (max 0 k : Int) = (k.toNat : Nat) := by omega
  replace hmx := hide hmx
  replace hmy := hide hmy
  go_enter Tryz.func16, Tryz.ntmps16
  go_wp2_with fail
  all_goals
    first | rw [hmx.out] | rw [hmy.out]
    exact bodyPost_ret (v := .agg #[.slice A n c, .int .i64 q, .int .i64 (k.toNat : Nat), .bool st]) (by simp [results, Tryz.results16, go_sem]) rfl ⟨rfl, ((Ext.refl w).alloc _).alloc _⟩
end Go.Proofs.YtaoolpnnomhnoaaGreatDoor

/- loggiaref06: Restart. -/
namespace Go.Proofs.YtaoolpnnomhnoaaGreatDoor
open Go.RowKit Go.Maps

def RE.cut (r : RE) (n : Nat) : RE := { r with b := r.b.take n, sure := n }
def keptR (R : List RE) (keep : List Int) : List RE := R.mapIdx fun j r => r.cut (leftM r.pl keep[j]?)
theorem keptR_pl (R : List RE) (keep : List Int) : (keptR R keep).map RE.pl = keptM (R.map RE.pl) keep := by
  apply List.ext_getElem?
  intro j
  unfold keptR keptM
  rw [List.getElem?_map, List.getElem?_mapIdx, List.getElem?_mapIdx, List.getElem?_map]
  cases R[j]? <;> rfl
theorem keptR_len (R : List RE) (keep : List Int) : (keptR R keep).length = R.length := by unfold keptR; simp
theorem keptR_at {R : List RE} {keep : List Int} {j : Nat} {r : RE} (h : R[j]? = some r) : (keptR R keep)[j]? = some (r.cut (leftM r.pl keep[j]?)) := by
  unfold keptR
  rw [List.getElem?_mapIdx, h]
  rfl
theorem rleft_le (r : RE) (h : r.sure ≤ r.b.length) (k : Option Int) : leftM r.pl k ≤ r.b.length := left_le ⟨r.name, 0, r.b, r.sure, none, 0⟩ h k
theorem ROk.cut {w : World} {N : Nat → Prop} {r : RE} (h : ROk w N r) {n : Nat} (hn : n ≤ r.b.length) : ROk w N (r.cut n) := by
  have hl : (r.b.take n).length = n := by rw [List.length_take]; omega
  refine ⟨?_, ?_, h.nil, h.away, ?_, h.name, ?_⟩
  · show Bs w r.A (r.b.take n)
    rcases h.bytes with h1 | ⟨g, o, hA, hc⟩
    · left
      have : r.b = [] := by simpa using h1
      rw [this]
      simp
    · refine .inr ⟨g, o, hA, fun i v hv => hc i v ?_⟩
      rw [List.map_take, List.getElem?_take] at hv
      split at hv
      · exact hv
      · cases hv
  · show (r.b.take n).length ≤ r.c
    rw [hl]
    exact Nat.le_trans hn h.cap
  · show n ≤ (r.b.take n).length
    rw [hl]
    exact Nat.le_refl _
  · show (r.b.take n).length ≤ _
    rw [hl]
    exact Nat.le_trans hn h.len
set_option maxRecDepth 100000 in
/-- x[:n] -/
theorem run_head {t e n c k : Nat} {A : Option Addr} (ht : Tryz.prog.underlying t = some (.slice e)) (hs : ∀ W : World, (sizeOf e).run Tryz.prog W = .ok 1 W) (h : k ≤ c) (hA : ∀ a, A = some a → a.spot = none) (W : World) :
    (Instr.sliceAt t (.slice A n c) none (some (.int .i64 k)) none).run Tryz.prog W = .ok (.slice A k c) W := by
  have he : Tryz.prog.elem t = e := by unfold Program.elem; rw [ht]
  rw [run_sliceAt_slice W t _ _ _ _ (by rw [ht, he]), run_slice_h W t A n c (by rw [ht, he]) .i64 k (by omega) (by omega), he, hs]
  simp only [Result.andThen_ok]
  congr 1
  unfold sliced
  have : (if c = 0 then A else A.map fun x => x.add (0 * 1)) = A := by
    cases A with
    | none => simp
    | some a =>
      obtain ⟨b, o, sp⟩ := a
      obtain rfl : sp = none := hA _ rfl
      simp [Addr.add_lit]
  rw [this]
  simp
theorem rdisk_out3 {w0 wr : World} {r base n1 c1 q a : Nat} {A1 : Option Addr} {st : Bool} {xs : List Value} {v0 v1 v2 v3 : Value} (hrr : Row wr r 44 #[v0, v1, v2, v3]) (ho : wr.ownsRow base 94 3 (.slice A1 n1 c1) n1 xs)
    (hge : ∀ k, (Value.slice A1 n1 c1).ownBlock = some k → k ≠ r) (hE : Ext w0 wr) (hbr : w0.heap.size ≤ r) {wf : World}
    (hwf : wf = ((((wr.setCell ⟨r, 0, none⟩ (.slice A1 n1 c1)).setCell ⟨r, 1, none⟩ (.int .i64 q)).setCell ⟨r, 2, none⟩ (.int .i64 a)).setCell ⟨r, 3, none⟩ (.bool st)) := by rfl) :
    wf.cell? ⟨r, 0, none⟩ = some (.slice A1 n1 c1) ∧ wf.cell? ⟨r, 1, none⟩ = some (.int .i64 q) ∧ wf.cell? ⟨r, 2, none⟩ = some (.int .i64 a) ∧ wf.cell? ⟨r, 3, none⟩ = some (.bool st) ∧ Ext w0 wf ∧ wf.ownsRow base 94 3 (.slice A1 n1 c1) n1 xs := by
  have hr : Row wf r 44 #[.slice A1 n1 c1, .int .i64 q, .int .i64 a, .bool st] := by
    rw [hwf]
    exact (((hrr.put 0 _).put 1 _).put 2 _).put 3 _
  refine ⟨hr.cell 0 rfl, hr.cell 1 rfl, hr.cell 2 rfl, hr.cell 3 rfl, ?_, ?_⟩
  · rw [hwf]
    exact (((hE.setCell (p := ⟨r, 0, none⟩) hbr _).setCell (p := ⟨r, 1, none⟩) hbr _).setCell (p := ⟨r, 2, none⟩) hbr _).setCell (p := ⟨r, 3, none⟩) hbr _
  · rw [hwf]
    have hk2 : ∀ o : Nat, (Value.slice A1 n1 c1).ownBlock ≠ some (⟨r, o, none⟩ : Addr).block := fun o hh => hge _ hh rfl
    exact owns_set (owns_set (owns_set (owns_set ho (hk2 _) _) (hk2 _) _) (hk2 _) _) (hk2 _) _
set_option maxRecDepth 100000 in
set_option maxHeartbeats 2000000 in
theorem rrestart_any (N : Nat → Prop) (A : Option Addr) (n c q a : Nat) (st : Bool) (R : List RE) (K : Option Addr) (kn kc : Nat) (keep : List Int) (w : World) (h : RS w N A n c R) (hN : ∀ k, N k → k < w.heap.size) (hK : Cells w K (keep.map I64)) (hkn : kn = keep.length)
    (hkb : ∀ k ∈ keep, -9223372036854775808 ≤ k ∧ k ≤ 9223372036854775807) (hkl : kn ≤ 1073741824) :
    Calls Tryz.prog 48 #[rdisk A n c q a st, .slice K kn kc] w fun e w' => ∃ A1 n1 c1, e = .returned (rdisk A1 n1 c1 q 0 false) ∧ RS w' N A1 n1 c1 (keptR R keep) ∧ Ext w w' := by
  obtain ⟨W, hW⟩ : ∃ W, W = (w.alloc (.cells #[.slice A n c, .int .i64 q, .int .i64 a, .bool st] 44)).alloc (.cells #[.slice none 0 0, .int .i64 0, .int .i64 0, .bool false] 44) := ⟨_, rfl⟩
  have hE : Ext w W := by rw [hW]; exact ((Ext.refl w).alloc _).alloc _
  have hWs : W.heap.size = w.heap.size + 2 := by rw [hW, size_alloc, size_alloc]
  have hd : Row W w.heap.size 44 #[.slice A n c, .int .i64 q, .int .i64 a, .bool st] := by rw [hW]; exact (Row.new w _ _).alloc _
  have hr2 : Row W (w.heap.size + 1) 44 #[.slice none 0 0, .int .i64 0, .int .i64 0, .bool false] := by
    have := Row.new (w.alloc (.cells #[.slice A n c, .int .i64 q, .int .i64 a, .bool st] 44)) 44 #[.slice none 0 0, .int .i64 0, .int .i64 0, .bool false]
    rw [size_alloc] at this
    rw [hW]
    exact this
  have hR := h.ext hE
  have hlen := h.len
  have hmany := h.many
  have hWx := hide hW.symm
  unfold rdisk
  clear hW
  replace hlen := hide hlen
  replace hWs := hide hWs
  replace hkn := hide hkn
  go_enter Tryz.func48, Tryz.ntmps48
  go_wp2_with fail
  rw [hWx.out]
  go_loopw [5, 6] (fun s5 s6 wr => ∃ (i c1 : Nat) (A1 : Option Addr), s6 = .int .i64 i ∧ s5 = .slice A1 i c1 ∧ i ≤ n ∧ Hid (wr.ownsRow W.heap.size 94 3 (.slice A1 i c1) i (rcells ((keptR R keep).take i))) ∧ Ext W wr) (fun _ s6 _ => n - (intOf s6).toNat)
  case atStart => exact ⟨0, 0, none, rfl, rfl, by omega, hide (World.ownsRow_nil _ _ _ _), Ext.refl _⟩
  case round =>
    obtain ⟨i, c1, A1, rfl, rfl, hi, hO, hEr⟩ := hrel
    have hdr := hd.ext hEr
    have c0r : wr.cell? ⟨w.heap.size, 0, none⟩ = some (.slice A n c) := hdr.cell 0 rfl
    by_cases hin : i < n
    · obtain ⟨g, o, r, rfl, hr, k0, k1, k2⟩ := (hR.ext hEr).at_ hin
      unfold str at k0
      have hok := h.ok r (List.mem_of_getElem? hr)
      have hsp : ∀ a, r.A = some a → a.spot = none := fun a ha => (hok.away a ha).2.2
      have hsu := hok.sure
      have hbl := hok.len
      have hcap := hok.cap
      obtain ⟨left, hleft⟩ : ∃ left, left = leftM r.pl keep[i]? := ⟨_, rfl⟩
      have hll := rleft_le r hsu keep[i]?
      rw [← hleft] at hll
      have hsl := run_head (t := 57) (e := 5) (n := r.b.length) (c := r.c) (k := left) Tryz.underlying57 (fun W => by kernel_rfl) (by omega) hsp
      have htk := take_one (keptR R keep) i _ (keptR_at (keep := keep) hr)
      rw [← hleft] at htk
      have hcl : (r.cut left).cells = [str r.name, .slice r.A left r.c, .int .i64 left] := by
        unfold RE.cells RE.cut
        have : (r.b.take left).length = left := by rw [List.length_take]; omega
        rw [this]
      obtain ⟨bl, hbln⟩ : ∃ bl, bl = r.b.length := ⟨_, rfl⟩
      obtain ⟨su, hsun⟩ : ∃ su, su = r.sure := ⟨_, rfl⟩
      rw [← hbln] at k1 hbl hll hsl hsu hcap
      rw [← hsun] at k2 hsu
      have hO2 := hO.out
      have hge := own_ge hO2
      have hsz : W.heap.size ≤ wr.heap.size := hEr.size
      obtain ⟨o1, ho1⟩ : ∃ o1, o1 = Obj.cells #[.string ⟨r.name.toArray⟩, .slice r.A left r.c, .int .i64 left] 94 := ⟨_, rfl⟩
      have hO3 := ((Ext.refl wr).alloc o1).owns hO2
      have hsz3 : W.heap.size ≤ (wr.alloc o1).heap.size := Nat.le_trans hsz ((Ext.refl wr).alloc o1).size
      have hE3o := hEr.alloc o1
      have hbl3 : wr.heap.size + 1 = (wr.alloc o1).heap.size := (size_alloc _ _).symm
      rw [ho1] at hO3 hsz3 hE3o hbl3
      replace hbl3 := hide hbl3
      replace ho1 := hide ho1
      replace hsp := hide hsp
      replace hge := hide hge
      replace htk := hide htk
      replace hcl := hide hcl
      by_cases hik : i < kn
      · obtain ⟨kg, ko, rfl, hkc⟩ := hK.at_ (by rw [List.length_map, ← hkn.out]; omega)
        obtain ⟨k, hk⟩ : ∃ k, keep[i]? = some k := ⟨_, List.getElem?_eq_getElem (by rw [← hkn.out]; exact hik)⟩
        have ck : w.cell? ⟨kg, ko + i, none⟩ = some (.int .i64 k) := hkc i (I64 k) (by rw [List.getElem?_map, hk]; rfl)
        have ckr : wr.cell? ⟨kg, ko + i, none⟩ = some (.int .i64 k) := (hE.trans hEr).cell ck
        have hkgl : kg < wr.heap.size := World.block_lt_of_cell? wr ⟨kg, ko + i, none⟩ ckr
        obtain ⟨hk1, hk2⟩ := hkb k (List.mem_of_getElem? hk)
        have hlk3 : (su : Int) + k.tmod ((bl : Int) - su + 1) % ((bl : Int) - su + 1) = left := by
          have hb := tmod_bd k ((bl : Int) - su + 1) (by omega)
          have hg := go_mod k ((bl : Int) - su + 1) (by omega)
          rw [Int.tmod_eq_emod_of_nonneg (by omega), Int.add_emod_right] at hg
          rw [hg, hleft, hk]
          show _ = ((r.sure + (k % ((r.b.length : Int) - r.sure + 1)).toNat : Nat) : Int)
          rw [hbln, hsun]
          have := Int.emod_nonneg k (show (r.b.length : Int) - r.sure + 1 ≠ 0 by omega)
          omega
        have hlk4 : (su : Int) + (k.tmod ((bl : Int) - su + 1) + ((bl : Int) - su + 1)) % ((bl : Int) - su + 1) = left := by rw [Int.add_emod_right]; exact hlk3
        have htb := tmod_bd k ((bl : Int) - su + 1) (by omega)
        have hnn := Int.emod_nonneg (k.tmod ((bl : Int) - su + 1)) (show (bl : Int) - su + 1 ≠ 0 by omega)
        replace hbln := hide hbln
        replace hsun := hide hsun
        replace hleft := hide hleft
        replace hk := hide hk
        replace hr := hide hr
        clear hkc ck
        go_wp2_with (at_builtin; refine wpList_appB (us := [.string ⟨r.name.toArray⟩, .slice r.A left r.c, .int .i64 left]) (m := 1) (wr.heap.size + 1) hbl3.out elemF hO3 (.tmp 54) (.tmp 56) rfl rfl rfl rfl rfl (one_of rfl) (by omega) hsz3 (fun A3 c3 w3 ho3 hg3 => ?_))
        have ho4 : Hid (w3.ownsRow W.heap.size 94 3 (.slice A3 (i + 1) c3) (i + 1) (rcells ((keptR R keep).take (i + 1)))) := hide (by
          rw [htk.out, rcells_append]
          show w3.ownsRow _ _ 3 _ _ (_ ++ ((r.cut left).cells ++ []))
          rw [hcl.out, List.append_nil]
          exact ho3)
        have hE3 : Ext W w3 := hE3o.grown hg3 hge.out
        go_roundw
        case rel => exact ⟨i + 1, c3, A3, by go_num, rfl, by omega, ho4, hE3⟩
        case measure => simp [intOf]; omega
      · have hlk2 : left = su := by
          have : keep[i]? = none := List.getElem?_eq_none (by rw [← hkn.out]; omega)
          rw [hleft, this, hsun]
          rfl
        subst hlk2
        replace hbln := hide hbln
        replace hsun := hide hsun
        replace hleft := hide hleft
        replace hr := hide hr
        go_wp2_with (at_builtin; refine wpList_appB (us := [.string ⟨r.name.toArray⟩, .slice r.A left r.c, .int .i64 left]) (m := 1) (wr.heap.size + 1) hbl3.out elemF hO3 (.tmp 54) (.tmp 56) rfl rfl rfl rfl rfl (one_of rfl) (by omega) hsz3 (fun A3 c3 w3 ho3 hg3 => ?_))
        have ho4 : Hid (w3.ownsRow W.heap.size 94 3 (.slice A3 (i + 1) c3) (i + 1) (rcells ((keptR R keep).take (i + 1)))) := hide (by
          rw [htk.out, rcells_append]
          show w3.ownsRow _ _ 3 _ _ (_ ++ ((r.cut left).cells ++ []))
          rw [hcl.out, List.append_nil]
          exact ho3)
        have hE3 : Ext W w3 := hE3o.grown hg3 hge.out
        go_roundw
        case rel => exact ⟨i + 1, c3, A3, by go_num, rfl, by omega, ho4, hE3⟩
        case measure => simp [intOf]; omega
    · obtain rfl : i = n := by omega
      have hO2 := hO.out
      rw [List.take_of_length_le (by rw [keptR_len, ← hlen.out]; exact Nat.le_refl _)] at hO2
      have hrr := hr2.ext hEr
      have c1r : wr.cell? ⟨w.heap.size, 1, none⟩ = some (.int .i64 q) := hdr.cell 1 rfl
      have fr0 := hrr.free 0
      have fr1 := hrr.free 1
      have fr2 := hrr.free 2
      have fr3 := hrr.free 3
      have e0 : wr.cell? ⟨w.heap.size + 1, 0, none⟩ = some (.slice none 0 0) := hrr.cell 0 rfl
      have e1 : wr.cell? ⟨w.heap.size + 1, 1, none⟩ = some (.int .i64 0) := hrr.cell 1 rfl
      have e2 : wr.cell? ⟨w.heap.size + 1, 2, none⟩ = some (.int .i64 0) := hrr.cell 2 rfl
      have e3 : wr.cell? ⟨w.heap.size + 1, 3, none⟩ = some (.bool false) := hrr.cell 3 rfl
      have hgeN : ∀ k, k ≥ W.heap.size → k ≠ w.heap.size ∧ k ≠ w.heap.size + 1 := fun k hk => by rw [hWs.out] at hk; exact ⟨by omega, by omega⟩
      have hmem : ∀ x ∈ keptR R keep, ∀ wf, Ext w wf → ROk wf N x := fun x hx wf hwf => by
        obtain ⟨j, hj⟩ := List.getElem?_of_mem hx
        cases hjr : R[j]? with
        | none =>
          unfold keptR at hj
          rw [List.getElem?_mapIdx, hjr] at hj
          cases hj
        | some r =>
          rw [keptR_at hjr] at hj
          cases hj
          have hok := h.ok r (List.mem_of_getElem? hjr)
          exact (hok.cut (rleft_le r hok.sure _)).ext hwf
      replace hgeN := hide hgeN
      replace hmem := hide hmem
      go_wp2_with fail
      have hfin := rdisk_out3 hrr hO2 (fun k hk => (hgeN.out k (own_ge hO2 k hk)).2) (hE.trans hEr) (Nat.le_succ _) (q := q) (a := 0) (st := false)
      obtain ⟨wf, hwf⟩ : ∃ wf, wf = ((((wr.setCell ⟨w.heap.size + 1, 0, none⟩ (.slice A1 i c1)).setCell ⟨w.heap.size + 1, 1, none⟩ (.int .i64 q)).setCell ⟨w.heap.size + 1, 2, none⟩ (.int .i64 0)).setCell ⟨w.heap.size + 1, 3, none⟩ (.bool false)) := ⟨_, rfl⟩
      have hwf2 : ((((wr.setCell ⟨w.heap.size + 1, 0, none⟩ (.slice A1 i c1)).setCell ⟨w.heap.size + 1, 1, none⟩ (.int .i64 q)).setCell ⟨w.heap.size + 1, 2, none⟩ (.int .i64 ((0 : Nat) : Int))).setCell ⟨w.heap.size + 1, 3, none⟩ (.bool false)) = wf := hwf.symm
      rw [hwf2] at hfin
      rw [← hwf]
      obtain ⟨z0, z1, z2, z3, hEf, hof⟩ := hfin
      refine bodyPost_ret (v := .agg #[.slice A1 i c1, .int .i64 q, .int .i64 ((0 : Nat) : Int), .bool false]) (by simp [results, Tryz.results48, go_sem, z0, z1, z2, z3]) rfl ⟨A1, i, c1, rfl, ?_⟩
      exact ⟨RS.of_own (w := w) hof (by rw [hWs.out]; omega) hN (fun r hr => hmem.out r hr wf hEf) (by rw [keptR_len, ← hlen.out]; exact hmany), hEf⟩
end Go.Proofs.YtaoolpnnomhnoaaGreatDoor

/- loggiaref06: Sync. -/
namespace Go.Proofs.YtaoolpnnomhnoaaGreatDoor
open Go.RowKit Go.Maps

theorem tup_out {w0 wr : World} {r n c q a : Nat} {A : Option Addr} {st : Bool} {v0 v1 v2 v3 : Value} (hrr : Row wr r 44 #[v0, v1, v2, v3]) (hE : Ext w0 wr) (hbr : w0.heap.size ≤ r) {wf : World}
    (hwf : wf = ((((wr.setCell ⟨r, 0, none⟩ (.slice A n c)).setCell ⟨r, 1, none⟩ (.int .i64 q)).setCell ⟨r, 2, none⟩ (.int .i64 a)).setCell ⟨r, 3, none⟩ (.bool st)) := by rfl) :
    wf.cell? ⟨r, 0, none⟩ = some (.slice A n c) ∧ wf.cell? ⟨r, 1, none⟩ = some (.int .i64 q) ∧ wf.cell? ⟨r, 2, none⟩ = some (.int .i64 a) ∧ wf.cell? ⟨r, 3, none⟩ = some (.bool st) ∧ Ext w0 wf ∧ Chg (fun k => k = r) wr wf := by
  have hr : Row wf r 44 #[.slice A n c, .int .i64 q, .int .i64 a, .bool st] := by
    rw [hwf]
    exact (((hrr.put 0 _).put 1 _).put 2 _).put 3 _
  refine ⟨hr.cell 0 rfl, hr.cell 1 rfl, hr.cell 2 rfl, hr.cell 3 rfl, ?_, ?_⟩
  · rw [hwf]
    exact (((hE.setCell (p := ⟨r, 0, none⟩) hbr _).setCell (p := ⟨r, 1, none⟩) hbr _).setCell (p := ⟨r, 2, none⟩) hbr _).setCell (p := ⟨r, 3, none⟩) hbr _
  · rw [hwf]
    exact (((Chg.of_set (S := fun k => k = r) wr (a := ⟨r, 0, none⟩) _ rfl).trans (Chg.of_set (S := fun k => k = r) _ (a := ⟨r, 1, none⟩) _ rfl) fun _ _ h => h).trans (Chg.of_set (S := fun k => k = r) _ (a := ⟨r, 2, none⟩) _ rfl) fun _ _ h => h).trans (Chg.of_set (S := fun k => k = r) _ (a := ⟨r, 3, none⟩) _ rfl) fun _ _ h => h
/-- What a call of the document's answers. -/
def RNext (N : Nat → Prop) (P : PD × Nat) (w : World) (e : Ending) (w' : World) : Prop :=
  ∃ A1 n1 c1 R1, e = .returned (.tuple #[rdisk A1 n1 c1 P.1.quota P.1.armed P.1.stopped, .int .i64 P.2]) ∧ RS w' N A1 n1 c1 R1 ∧ R1.map RE.pl = P.1.L ∧ Ext w w'
theorem rnext_same {N : Nat → Prop} {P : PD} {k : Nat} {w w' : World} {A : Option Addr} {n c : Nat} {R : List RE} (h : RS w N A n c R) (hP : R.map RE.pl = P.L) (hE : Ext w w') : RNext N (P, k) w (.returned (.tuple #[rdisk A n c P.quota P.armed P.stopped, .int .i64 k])) w' :=
  ⟨A, n, c, R, rfl, h.ext hE, hP, hE⟩
set_option maxRecDepth 100000 in
set_option maxHeartbeats 4000000 in
theorem rsync_any (N : Nat → Prop) (A : Option Addr) (n c : Nat) (P : PD) (R : List RE) (s : List UInt8) (w : World) (h : RS w N A n c R) (hP : R.map RE.pl = P.L) (hN : ∀ k, N k → k < w.heap.size) (hs : s.length ≤ 9223372036854775807) (ha : P.armed ≤ 9223372036854775807) :
    Calls Tryz.prog 41 #[rdisk A n c P.quota P.armed P.stopped, str s] w (RNext N (syncM P s) w) := by
  obtain ⟨q, hq⟩ : ∃ q, q = P.quota := ⟨_, rfl⟩
  obtain ⟨a, ha'⟩ : ∃ q, q = P.armed := ⟨_, rfl⟩
  obtain ⟨st, hst⟩ : ∃ q, q = P.stopped := ⟨_, rfl⟩
  rw [← hq, ← ha', ← hst]
  rw [← ha'] at ha
  obtain ⟨W, hW⟩ : ∃ W, W = (w.alloc (.cells #[.slice A n c, .int .i64 q, .int .i64 a, .bool st] 44)).alloc (.cells #[.slice none 0 0, .int .i64 0, .int .i64 0, .bool false] 44) := ⟨_, rfl⟩
  have hE : Ext w W := by rw [hW]; exact ((Ext.refl w).alloc _).alloc _
  have hWs : W.heap.size = w.heap.size + 2 := by rw [hW, size_alloc, size_alloc]
  have hd : Row W w.heap.size 44 #[.slice A n c, .int .i64 q, .int .i64 a, .bool st] := by rw [hW]; exact (Row.new w _ _).alloc _
  have hr2 : Row W (w.heap.size + 1) 44 #[.slice none 0 0, .int .i64 0, .int .i64 0, .bool false] := by
    have := Row.new (w.alloc (.cells #[.slice A n c, .int .i64 q, .int .i64 a, .bool st] 44)) 44 #[.slice none 0 0, .int .i64 0, .int .i64 0, .bool false]
    rw [size_alloc] at this
    rw [hW]
    exact this
  have hnm := rnamed_any s W hs
  have hfa := rfind_any N A n c q a st R s W (h.ext hE)
  have hWx := hide hW.symm
  have d0 : W.cell? ⟨w.heap.size, 0, none⟩ = some (.slice A n c) := hd.cell 0 rfl
  have d1 : W.cell? ⟨w.heap.size, 1, none⟩ = some (.int .i64 q) := hd.cell 1 rfl
  have d2 : W.cell? ⟨w.heap.size, 2, none⟩ = some (.int .i64 a) := hd.cell 2 rfl
  have d3 : W.cell? ⟨w.heap.size, 3, none⟩ = some (.bool st) := hd.cell 3 rfl
  have r0 : W.cell? ⟨w.heap.size + 1, 0, none⟩ = some (.slice none 0 0) := hr2.cell 0 rfl
  have r1 : W.cell? ⟨w.heap.size + 1, 1, none⟩ = some (.int .i64 0) := hr2.cell 1 rfl
  have r2 : W.cell? ⟨w.heap.size + 1, 2, none⟩ = some (.int .i64 0) := hr2.cell 2 rfl
  have r3 : W.cell? ⟨w.heap.size + 1, 3, none⟩ = some (.bool false) := hr2.cell 3 rfl
  have f0 := hr2.free 0
  have f1 := hr2.free 1
  have f2 := hr2.free 2
  have f3 := hr2.free 3
  have same : ∀ (k : Nat) (wf : World), syncM P s = (P, k) → Ext w wf → RNext N (syncM P s) w (.returned (.tuple #[.agg #[.slice A n c, .int .i64 q, .int .i64 a, .bool st], .int .i64 k])) wf := by
    intro k wf hk hEf
    rw [hk, hq, ha', hst]
    exact rnext_same h hP hEf
  replace same := hide same
  unfold rdisk str at *
  clear hW
  replace hWs := hide hWs
  replace hfa := hide hfa
  by_cases hb0 : namedM s = false
  · have hres : syncM P s = (P, 60) := by unfold syncM writesM; simp [hb0]
    rw [hb0] at hnm
    replace hnm := hide hnm
    replace hres := hide hres
    replace hq := hide hq
    replace ha' := hide ha'
    replace hst := hide hst
    go_enter Tryz.func41, Tryz.ntmps41
    go_wp2_with fail
    rw [hWx.out]
    refine hnm.out.mono ?_
    rintro e w1 ⟨rfl, hw1⟩
    replace hw1 := hw1.symm
    subst hw1
    go_wp2_with fail
    have hfin := tup_out hr2 hE (Nat.le_succ _) (A := A) (n := n) (c := c) (q := q) (a := a) (st := st)
    obtain ⟨wf, hwf⟩ : ∃ wf, wf = ((((W.setCell ⟨w.heap.size + 1, 0, none⟩ (.slice A n c)).setCell ⟨w.heap.size + 1, 1, none⟩ (.int .i64 q)).setCell ⟨w.heap.size + 1, 2, none⟩ (.int .i64 a)).setCell ⟨w.heap.size + 1, 3, none⟩ (.bool st)) := ⟨_, rfl⟩
    rw [← hwf] at hfin ⊢
    obtain ⟨z0, z1, z2, z3, hEf, _⟩ := hfin
    exact bodyPost_ret (v := .tuple #[.agg #[.slice A n c, .int .i64 q, .int .i64 a, .bool st], .int .i64 60]) (by simp [results, Tryz.results41, go_sem, z0, z1, z2, z3]) rfl (same.out 60 wf hres.out hEf)
  have hnmd : namedM s = true := by simpa using hb0
  rw [hnmd] at hnm
  replace hnm := hide hnm
  cases st with
  | true =>
    have hres : syncM P s = (P, 63) := by unfold syncM writesM; simp only [List.all_cons, List.all_nil, hnmd, Bool.and_self, if_true]; rw [← hst]; rfl
    replace hres := hide hres
    replace hq := hide hq
    replace ha' := hide ha'
    replace hst := hide hst
    go_enter Tryz.func41, Tryz.ntmps41
    go_wp2_with fail
    rw [hWx.out]
    refine hnm.out.mono ?_
    rintro e w1 ⟨rfl, hw1⟩
    replace hw1 := hw1.symm
    subst hw1
    go_wp2_with fail
    have hfin := tup_out hr2 hE (Nat.le_succ _) (A := A) (n := n) (c := c) (q := q) (a := a) (st := true)
    obtain ⟨wf, hwf⟩ : ∃ wf, wf = ((((W.setCell ⟨w.heap.size + 1, 0, none⟩ (.slice A n c)).setCell ⟨w.heap.size + 1, 1, none⟩ (.int .i64 q)).setCell ⟨w.heap.size + 1, 2, none⟩ (.int .i64 a)).setCell ⟨w.heap.size + 1, 3, none⟩ (.bool true)) := ⟨_, rfl⟩
    rw [← hwf] at hfin ⊢
    obtain ⟨z0, z1, z2, z3, hEf, _⟩ := hfin
    exact bodyPost_ret (v := .tuple #[.agg #[.slice A n c, .int .i64 q, .int .i64 a, .bool true], .int .i64 63]) (by simp [results, Tryz.results41, go_sem, z0, z1, z2, z3]) rfl (same.out 63 wf hres.out hEf)
  | false =>
    rcases rfind_pl hP s with ⟨i, r, hf, hr, hn, hfd⟩ | ⟨hf, hfd⟩
    · have hfa2 := hfa.out
      rw [hf] at hfa2
      simp only [Option.getD_some, Option.isSome_some] at hfa2
      replace hfa2 := hide hfa2
      have hin : i < n := by rw [h.len]; exact (List.getElem?_eq_some_iff.1 hr).1
      obtain ⟨g, o, r', hAg, hr', k0, k1, k2⟩ := (h.ext hE).at_ hin
      obtain rfl : r' = r := by rw [hr] at hr'; cases hr'; rfl
      subst hAg
      have hrm := List.mem_of_getElem? hr
      have hok := h.ok r' hrm
      have hcl := rcall_any (some ⟨g, o, none⟩) n c q a
      unfold rdisk at hcl
      unfold str at k0
      have hcl2 := hide hcl
      clear hcl
      have hgl := World.block_lt_of_cell? W ⟨g, o + i * 3, none⟩ k0
      have hmany := h.many
      have hst' := hide hst
      clear hst
      replace hf := hide hf
      replace hr := hide hr
      replace hn := hide hn
      replace hfd := hide hfd
      clear hr'
      by_cases h1 : a = 1
      · have hda : decide (a = 1) = true := decide_eq_true h1
        have hres : syncM P s = (P.stops, 63) := by unfold syncM writesM; simp only [List.all_cons, List.all_nil, hnmd, Bool.and_self, if_true]; rw [← hst'.out, hfd.out]; show (if P.armed = 1 then _ else _) = _; rw [← ha', if_pos h1]
        obtain ⟨a1, ha1⟩ : ∃ a1, a1 = a - 1 := ⟨_, rfl⟩
        have ha10 : a1 = 0 := by omega
        replace ha10 := hide ha10
        replace h1 := hide h1
        replace hres := hide hres
        replace hq := hide hq
        replace ha' := hide ha'
        go_enter Tryz.func41, Tryz.ntmps41
        go_wp2_with fail
        rw [hWx.out]
        refine hnm.out.mono ?_
        rintro e w1 ⟨rfl, hw1⟩
        replace hw1 := hw1.symm
        subst hw1
        go_wp2_with fail
        refine hfa2.out.mono ?_
        rintro e w1 ⟨rfl, hE1⟩
        have d0' := hE1.cell d0
        have d1' := hE1.cell d1
        have d2' := hE1.cell d2
        have d3' := hE1.cell d3
        have hcl3 := hcl2.out w1 ha
        rw [hda, ← ha1] at hcl3
        replace hcl3 := hide hcl3
        replace ha1 := hide ha1
        go_wp2_with fail
        refine hcl3.out.mono ?_
        rintro e w2 ⟨rfl, hE2⟩
        have hE3 := ((hE.trans hE1).trans hE2).alloc (.cells #[.slice (some ⟨g, o, none⟩) n c, .int .i64 q, .int .i64 a1, .bool true] 44)
        have hr3 := ((hr2.ext hE1).ext hE2).alloc (.cells #[.slice (some ⟨g, o, none⟩) n c, .int .i64 q, .int .i64 a1, .bool true] 44)
        have x0 := hr3.cell 0 rfl
        have x1 := hr3.cell 1 rfl
        have x2 := hr3.cell 2 rfl
        have x3 := hr3.cell 3 rfl
        have y0 := hr3.free 0
        have y1 := hr3.free 1
        have y2 := hr3.free 2
        have y3 := hr3.free 3
        go_wp2_with fail
        have hfin := tup_out hr3 hE3 (Nat.le_succ _) (A := some ⟨g, o, none⟩) (n := n) (c := c) (q := q) (a := a1) (st := true)
        obtain ⟨wf, hwf⟩ : ∃ wf, wf = (((((w2.alloc (.cells #[.slice (some ⟨g, o, none⟩) n c, .int .i64 q, .int .i64 a1, .bool true] 44)).setCell ⟨w.heap.size + 1, 0, none⟩ (.slice (some ⟨g, o, none⟩) n c)).setCell ⟨w.heap.size + 1, 1, none⟩ (.int .i64 q)).setCell ⟨w.heap.size + 1, 2, none⟩ (.int .i64 a1)).setCell ⟨w.heap.size + 1, 3, none⟩ (.bool true)) := ⟨_, rfl⟩
        rw [← hwf] at hfin ⊢
        obtain ⟨z0, z1, z2, z3, hEf, _⟩ := hfin
        refine bodyPost_ret (v := .tuple #[.agg #[.slice (some ⟨g, o, none⟩) n c, .int .i64 q, .int .i64 a1, .bool true], .int .i64 63]) (by simp [results, Tryz.results41, go_sem, z0, z1, z2, z3]) rfl ?_
        rw [hres.out, hq.out, ha10.out]
        exact ⟨some ⟨g, o, none⟩, n, c, R, rfl, h.ext hEf, hP, hEf⟩
      · have hda : decide (a = 1) = false := decide_eq_false h1
        have hres : syncM P s = (P.goes (withG fname (r'.pl.1, r'.pl.2.1, r'.pl.2.1.length) P.L), 0) := by unfold syncM writesM; simp only [List.all_cons, List.all_nil, hnmd, Bool.and_self, if_true]; rw [← hst'.out, hfd.out]; show (if P.armed = 1 then _ else _) = _; rw [← ha', if_neg h1]
        have hLp : (withG RE.name { r' with sure := r'.b.length } R).map RE.pl = withG fname (r'.pl.1, r'.pl.2.1, r'.pl.2.1.length) P.L := by
          rw [map_with (nm := RE.name) (nm' := fname) (g := RE.pl) (fun _ => rfl), hP]
          rfl
        obtain ⟨N2, hN2⟩ : ∃ N2 : Nat → Prop, N2 = fun k => N k ∨ (w.heap.size ≤ k ∧ k < w.heap.size + 2) := ⟨_, rfl⟩
        have hsub : ∀ k, k < w.heap.size → N2 k → N k := by
          intro k hk hn
          rw [hN2] at hn
          rcases hn with hn | hn
          · exact hn
          · omega
        have hN2s : ∀ k, N2 k → k < W.heap.size := by
          intro k hn
          rw [hN2] at hn
          rcases hn with hn | hn
          · have := hN k hn
            have := hE.size
            omega
          · rw [hWs.out]; omega
        obtain ⟨a1, ha1⟩ : ∃ a1, a1 = a - 1 := ⟨_, rfl⟩
        replace hres := hide hres
        replace hLp := hide hLp
        replace hq := hide hq
        replace ha' := hide ha'
        replace hN2 := hN2
        go_enter Tryz.func41, Tryz.ntmps41
        go_wp2_with fail
        rw [hWx.out]
        refine hnm.out.mono ?_
        rintro e w1 ⟨rfl, hw1⟩
        replace hw1 := hw1.symm
        subst hw1
        go_wp2_with fail
        refine hfa2.out.mono ?_
        rintro e w1 ⟨rfl, hE1⟩
        have d0' := hE1.cell d0
        have d1' := hE1.cell d1
        have d2' := hE1.cell d2
        have d3' := hE1.cell d3
        have hcl3 := hcl2.out w1 ha
        rw [hda, ← ha1] at hcl3
        replace hcl3 := hide hcl3
        replace ha1 := hide ha1
        go_wp2_with fail
        refine hcl3.out.mono ?_
        rintro e w2 ⟨rfl, hE2⟩
        have hE12 := hE1.trans hE2
        have hE02 := hE.trans hE12
        have hR2 : RS w2 N2 (some ⟨g, o, none⟩) n c R := h.chg (Chg.of_ext hE02 (fun _ => False)) (fun _ _ h => h.elim) hsub
        have hok2 : ROk w2 N2 r' := hok.chg (Chg.of_ext hE02 (fun _ => False)) (fun _ _ h => h.elim) hsub
        have e0 := hE12.cell d0
        have m0 := hE12.cell k0
        have m1 := hE12.cell k1
        have m2 := hE12.cell k2
        have hgl2 : g < w2.heap.size := Nat.lt_of_lt_of_le hgl hE12.size
        have hdl : w.heap.size < w2.heap.size := Nat.lt_of_lt_of_le (by rw [hWs.out]; omega) hE12.size
        have hN3 : ∀ k, N2 k → k < w2.heap.size := fun k hk => Nat.lt_of_lt_of_le (hN2s k hk) hE12.size
        have hrw := hr2.ext hE12
        obtain ⟨W4, hW4⟩ : ∃ W4, W4 = (w2.alloc (.cells #[.slice (some ⟨g, o, none⟩) n c, .int .i64 q, .int .i64 a1, .bool false] 44)).alloc (.cells #[.string ⟨r'.name.toArray⟩, .slice r'.A r'.b.length r'.c, .int .i64 r'.b.length] 94) := ⟨_, rfl⟩
        have hE4 : Ext w2 W4 := by rw [hW4]; exact ((Ext.refl w2).alloc _).alloc _
        have hok4 : ROk W4 N2 { r' with sure := r'.b.length } := by
          have := hok2.ext hE4
          exact ⟨this.bytes, this.cap, this.nil, this.away, Nat.le_refl _, this.name, this.len⟩
        have hwi := rwith_any N2 (some ⟨g, o, none⟩) n c q a1 false R { r' with sure := r'.b.length } W4 (hR2.ext hE4) hok4 (fun k hk => Nat.lt_of_lt_of_le (hN3 k hk) hE4.size) (Nat.le_trans (len_with_in hrm rfl) (by rw [← h.len]; exact hmany))
        unfold rdisk RE.agg str at hwi
        have hW4x := hide hW4.symm
        clear hW4
        replace hwi := hide hwi
        go_wp2_with fail
        rw [hW4x.out]
        refine hwi.out.mono ?_
        rintro e w5 ⟨A5, n5, c5, rfl, hR5, hE5⟩
        have hr5 := (hrw.ext hE4).ext hE5
        have hE05 := (hE02.trans hE4).trans hE5
        have x0 := hr5.cell 0 rfl
        have x1 := hr5.cell 1 rfl
        have x2 := hr5.cell 2 rfl
        have x3 := hr5.cell 3 rfl
        have y0 := hr5.free 0
        have y1 := hr5.free 1
        have y2 := hr5.free 2
        have y3 := hr5.free 3
        go_wp2_with fail
        have hfin := tup_out hr5 hE05 (Nat.le_succ _) (A := A5) (n := n5) (c := c5) (q := q) (a := a1) (st := false)
        obtain ⟨wf, hwf⟩ : ∃ wf, wf = ((((w5.setCell ⟨w.heap.size + 1, 0, none⟩ (.slice A5 n5 c5)).setCell ⟨w.heap.size + 1, 1, none⟩ (.int .i64 q)).setCell ⟨w.heap.size + 1, 2, none⟩ (.int .i64 a1)).setCell ⟨w.heap.size + 1, 3, none⟩ (.bool false)) := ⟨_, rfl⟩
        rw [← hwf] at hfin ⊢
        obtain ⟨z0, z1, z2, z3, hEf, hcf⟩ := hfin
        refine bodyPost_ret (v := .tuple #[.agg #[.slice A5 n5 c5, .int .i64 q, .int .i64 a1, .bool false], .int .i64 0]) (by simp [results, Tryz.results41, go_sem, z0, z1, z2, z3]) rfl ?_
        rw [hres.out]
        exact ⟨A5, n5, c5, _, by rw [hq.out, ha1.out, ha'.out, hst'.out]; rfl, hR5.chg hcf (fun k _ hk => by rw [hN2, hk]; exact .inr ⟨Nat.le_succ _, by omega⟩) (fun k _ hk => by rw [hN2]; exact .inl hk), hLp.out, hEf⟩
    · have hfa2 := hfa.out
      rw [hf] at hfa2
      simp only [Option.getD_none, Option.isSome_none] at hfa2
      have hres : syncM P s = (P, 61) := by unfold syncM writesM; simp only [List.all_cons, List.all_nil, hnmd, Bool.and_self, if_true]; rw [← hst, hfd]; rfl
      replace hfa2 := hide hfa2
      replace hres := hide hres
      replace hq := hide hq
      replace ha' := hide ha'
      replace hst := hide hst
      go_enter Tryz.func41, Tryz.ntmps41
      go_wp2_with fail
      rw [hWx.out]
      refine hnm.out.mono ?_
      rintro e w1 ⟨rfl, hw1⟩
      replace hw1 := hw1.symm
      subst hw1
      go_wp2_with fail
      refine hfa2.out.mono ?_
      rintro e w1 ⟨rfl, hE1⟩
      have hr3 := hr2.ext hE1
      have hE3 := hE.trans hE1
      have d0' := hE1.cell d0
      have d1' := hE1.cell d1
      have d2' := hE1.cell d2
      have d3' := hE1.cell d3
      have x0 := hr3.cell 0 rfl
      have x1 := hr3.cell 1 rfl
      have x2 := hr3.cell 2 rfl
      have x3 := hr3.cell 3 rfl
      have y0 := hr3.free 0
      have y1 := hr3.free 1
      have y2 := hr3.free 2
      have y3 := hr3.free 3
      go_wp2_with fail
      have hfin := tup_out hr3 hE3 (Nat.le_succ _) (A := A) (n := n) (c := c) (q := q) (a := a) (st := false)
      obtain ⟨wf, hwf⟩ : ∃ wf, wf = ((((w1.setCell ⟨w.heap.size + 1, 0, none⟩ (.slice A n c)).setCell ⟨w.heap.size + 1, 1, none⟩ (.int .i64 q)).setCell ⟨w.heap.size + 1, 2, none⟩ (.int .i64 a)).setCell ⟨w.heap.size + 1, 3, none⟩ (.bool false)) := ⟨_, rfl⟩
      rw [← hwf] at hfin ⊢
      obtain ⟨z0, z1, z2, z3, hEf, _⟩ := hfin
      exact bodyPost_ret (v := .tuple #[.agg #[.slice A n c, .int .i64 q, .int .i64 a, .bool false], .int .i64 61]) (by simp [results, Tryz.results41, go_sem, z0, z1, z2, z3]) rfl (same.out 61 wf hres.out hEf)
end Go.Proofs.YtaoolpnnomhnoaaGreatDoor

/- loggiaref06: Remove. -/
namespace Go.Proofs.YtaoolpnnomhnoaaGreatDoor
open Go.RowKit Go.Maps

set_option maxRecDepth 100000 in
set_option maxHeartbeats 4000000 in
theorem rremove_any (N : Nat → Prop) (A : Option Addr) (n c : Nat) (P : PD) (R : List RE) (s : List UInt8) (w : World) (h : RS w N A n c R) (hP : R.map RE.pl = P.L) (hN : ∀ k, N k → k < w.heap.size) (hs : s.length ≤ 9223372036854775807) (ha : P.armed ≤ 9223372036854775807) :
    Calls Tryz.prog 86 #[rdisk A n c P.quota P.armed P.stopped, str s] w (RNext N (removeM P s) w) := by
  obtain ⟨q, hq⟩ : ∃ q, q = P.quota := ⟨_, rfl⟩
  obtain ⟨a, ha'⟩ : ∃ q, q = P.armed := ⟨_, rfl⟩
  obtain ⟨st, hst⟩ : ∃ q, q = P.stopped := ⟨_, rfl⟩
  rw [← hq, ← ha', ← hst]
  rw [← ha'] at ha
  obtain ⟨W, hW⟩ : ∃ W, W = (w.alloc (.cells #[.slice A n c, .int .i64 q, .int .i64 a, .bool st] 44)).alloc (.cells #[.slice none 0 0, .int .i64 0, .int .i64 0, .bool false] 44) := ⟨_, rfl⟩
  have hE : Ext w W := by rw [hW]; exact ((Ext.refl w).alloc _).alloc _
  have hWs : W.heap.size = w.heap.size + 2 := by rw [hW, size_alloc, size_alloc]
  have hd : Row W w.heap.size 44 #[.slice A n c, .int .i64 q, .int .i64 a, .bool st] := by rw [hW]; exact (Row.new w _ _).alloc _
  have hr2 : Row W (w.heap.size + 1) 44 #[.slice none 0 0, .int .i64 0, .int .i64 0, .bool false] := by
    have := Row.new (w.alloc (.cells #[.slice A n c, .int .i64 q, .int .i64 a, .bool st] 44)) 44 #[.slice none 0 0, .int .i64 0, .int .i64 0, .bool false]
    rw [size_alloc] at this
    rw [hW]
    exact this
  have hnm := rnamed_any s W hs
  have hfa := rfind_any N A n c q a st R s W (h.ext hE)
  have hWx := hide hW.symm
  have d0 : W.cell? ⟨w.heap.size, 0, none⟩ = some (.slice A n c) := hd.cell 0 rfl
  have d1 : W.cell? ⟨w.heap.size, 1, none⟩ = some (.int .i64 q) := hd.cell 1 rfl
  have d2 : W.cell? ⟨w.heap.size, 2, none⟩ = some (.int .i64 a) := hd.cell 2 rfl
  have d3 : W.cell? ⟨w.heap.size, 3, none⟩ = some (.bool st) := hd.cell 3 rfl
  have r0 : W.cell? ⟨w.heap.size + 1, 0, none⟩ = some (.slice none 0 0) := hr2.cell 0 rfl
  have r1 : W.cell? ⟨w.heap.size + 1, 1, none⟩ = some (.int .i64 0) := hr2.cell 1 rfl
  have r2 : W.cell? ⟨w.heap.size + 1, 2, none⟩ = some (.int .i64 0) := hr2.cell 2 rfl
  have r3 : W.cell? ⟨w.heap.size + 1, 3, none⟩ = some (.bool false) := hr2.cell 3 rfl
  have f0 := hr2.free 0
  have f1 := hr2.free 1
  have f2 := hr2.free 2
  have f3 := hr2.free 3
  have same : ∀ (k : Nat) (wf : World), removeM P s = (P, k) → Ext w wf → RNext N (removeM P s) w (.returned (.tuple #[.agg #[.slice A n c, .int .i64 q, .int .i64 a, .bool st], .int .i64 k])) wf := by
    intro k wf hk hEf
    rw [hk, hq, ha', hst]
    exact rnext_same h hP hEf
  replace same := hide same
  unfold rdisk str at *
  clear hW
  replace hWs := hide hWs
  replace hfa := hide hfa
  by_cases hb0 : namedM s = false
  · have hres : removeM P s = (P, 60) := by unfold removeM writesM; simp [hb0]
    rw [hb0] at hnm
    replace hnm := hide hnm
    replace hres := hide hres
    replace hq := hide hq
    replace ha' := hide ha'
    replace hst := hide hst
    go_enter Tryz.func86, Tryz.ntmps86
    go_wp2_with fail
    rw [hWx.out]
    refine hnm.out.mono ?_
    rintro e w1 ⟨rfl, hw1⟩
    replace hw1 := hw1.symm
    subst hw1
    go_wp2_with fail
    have hfin := tup_out hr2 hE (Nat.le_succ _) (A := A) (n := n) (c := c) (q := q) (a := a) (st := st)
    obtain ⟨wf, hwf⟩ : ∃ wf, wf = ((((W.setCell ⟨w.heap.size + 1, 0, none⟩ (.slice A n c)).setCell ⟨w.heap.size + 1, 1, none⟩ (.int .i64 q)).setCell ⟨w.heap.size + 1, 2, none⟩ (.int .i64 a)).setCell ⟨w.heap.size + 1, 3, none⟩ (.bool st)) := ⟨_, rfl⟩
    rw [← hwf] at hfin ⊢
    obtain ⟨z0, z1, z2, z3, hEf, _⟩ := hfin
    exact bodyPost_ret (v := .tuple #[.agg #[.slice A n c, .int .i64 q, .int .i64 a, .bool st], .int .i64 60]) (by simp [results, Tryz.results86, go_sem, z0, z1, z2, z3]) rfl (same.out 60 wf hres.out hEf)
  have hnmd : namedM s = true := by simpa using hb0
  rw [hnmd] at hnm
  replace hnm := hide hnm
  cases st with
  | true =>
    have hres : removeM P s = (P, 63) := by unfold removeM writesM; simp only [List.all_cons, List.all_nil, hnmd, Bool.and_self, if_true]; rw [← hst]; rfl
    replace hres := hide hres
    replace hq := hide hq
    replace ha' := hide ha'
    replace hst := hide hst
    go_enter Tryz.func86, Tryz.ntmps86
    go_wp2_with fail
    rw [hWx.out]
    refine hnm.out.mono ?_
    rintro e w1 ⟨rfl, hw1⟩
    replace hw1 := hw1.symm
    subst hw1
    go_wp2_with fail
    have hfin := tup_out hr2 hE (Nat.le_succ _) (A := A) (n := n) (c := c) (q := q) (a := a) (st := true)
    obtain ⟨wf, hwf⟩ : ∃ wf, wf = ((((W.setCell ⟨w.heap.size + 1, 0, none⟩ (.slice A n c)).setCell ⟨w.heap.size + 1, 1, none⟩ (.int .i64 q)).setCell ⟨w.heap.size + 1, 2, none⟩ (.int .i64 a)).setCell ⟨w.heap.size + 1, 3, none⟩ (.bool true)) := ⟨_, rfl⟩
    rw [← hwf] at hfin ⊢
    obtain ⟨z0, z1, z2, z3, hEf, _⟩ := hfin
    exact bodyPost_ret (v := .tuple #[.agg #[.slice A n c, .int .i64 q, .int .i64 a, .bool true], .int .i64 63]) (by simp [results, Tryz.results86, go_sem, z0, z1, z2, z3]) rfl (same.out 63 wf hres.out hEf)
  | false =>
    rcases rfind_pl hP s with ⟨i, r, hf, hr, hn, hfd⟩ | ⟨hf, hfd⟩
    · have hfa2 := hfa.out
      rw [hf] at hfa2
      simp only [Option.getD_some, Option.isSome_some] at hfa2
      replace hfa2 := hide hfa2
      have hin : i < n := by rw [h.len]; exact (List.getElem?_eq_some_iff.1 hr).1
      obtain ⟨g, o, r', hAg, hr', k0, k1, k2⟩ := (h.ext hE).at_ hin
      obtain rfl : r' = r := by rw [hr] at hr'; cases hr'; rfl
      subst hAg
      have hrm := List.mem_of_getElem? hr
      have hok := h.ok r' hrm
      have hcl := rcall_any (some ⟨g, o, none⟩) n c q a
      unfold rdisk at hcl
      unfold str at k0
      have hcl2 := hide hcl
      clear hcl
      have hgl := World.block_lt_of_cell? W ⟨g, o + i * 3, none⟩ k0
      have hmany := h.many
      have hst' := hide hst
      clear hst
      replace hf := hide hf
      replace hr := hide hr
      replace hn := hide hn
      replace hfd := hide hfd
      clear hr'
      by_cases h1 : a = 1
      · have hda : decide (a = 1) = true := decide_eq_true h1
        have hres : removeM P s = (P.stops, 63) := by unfold removeM writesM; simp only [List.all_cons, List.all_nil, hnmd, Bool.and_self, if_true]; rw [← hst'.out, hfd.out]; show (if P.armed = 1 then _ else _) = _; rw [← ha', if_pos h1]
        obtain ⟨a1, ha1⟩ : ∃ a1, a1 = a - 1 := ⟨_, rfl⟩
        have ha10 : a1 = 0 := by omega
        replace ha10 := hide ha10
        replace h1 := hide h1
        replace hres := hide hres
        replace hq := hide hq
        replace ha' := hide ha'
        go_enter Tryz.func86, Tryz.ntmps86
        go_wp2_with fail
        rw [hWx.out]
        refine hnm.out.mono ?_
        rintro e w1 ⟨rfl, hw1⟩
        replace hw1 := hw1.symm
        subst hw1
        go_wp2_with fail
        refine hfa2.out.mono ?_
        rintro e w1 ⟨rfl, hE1⟩
        have d0' := hE1.cell d0
        have d1' := hE1.cell d1
        have d2' := hE1.cell d2
        have d3' := hE1.cell d3
        have hcl3 := hcl2.out w1 ha
        rw [hda, ← ha1] at hcl3
        replace hcl3 := hide hcl3
        replace ha1 := hide ha1
        go_wp2_with fail
        refine hcl3.out.mono ?_
        rintro e w2 ⟨rfl, hE2⟩
        have hE3 := ((hE.trans hE1).trans hE2).alloc (.cells #[.slice (some ⟨g, o, none⟩) n c, .int .i64 q, .int .i64 a1, .bool true] 44)
        have hr3 := ((hr2.ext hE1).ext hE2).alloc (.cells #[.slice (some ⟨g, o, none⟩) n c, .int .i64 q, .int .i64 a1, .bool true] 44)
        have x0 := hr3.cell 0 rfl
        have x1 := hr3.cell 1 rfl
        have x2 := hr3.cell 2 rfl
        have x3 := hr3.cell 3 rfl
        have y0 := hr3.free 0
        have y1 := hr3.free 1
        have y2 := hr3.free 2
        have y3 := hr3.free 3
        go_wp2_with fail
        have hfin := tup_out hr3 hE3 (Nat.le_succ _) (A := some ⟨g, o, none⟩) (n := n) (c := c) (q := q) (a := a1) (st := true)
        obtain ⟨wf, hwf⟩ : ∃ wf, wf = (((((w2.alloc (.cells #[.slice (some ⟨g, o, none⟩) n c, .int .i64 q, .int .i64 a1, .bool true] 44)).setCell ⟨w.heap.size + 1, 0, none⟩ (.slice (some ⟨g, o, none⟩) n c)).setCell ⟨w.heap.size + 1, 1, none⟩ (.int .i64 q)).setCell ⟨w.heap.size + 1, 2, none⟩ (.int .i64 a1)).setCell ⟨w.heap.size + 1, 3, none⟩ (.bool true)) := ⟨_, rfl⟩
        rw [← hwf] at hfin ⊢
        obtain ⟨z0, z1, z2, z3, hEf, _⟩ := hfin
        refine bodyPost_ret (v := .tuple #[.agg #[.slice (some ⟨g, o, none⟩) n c, .int .i64 q, .int .i64 a1, .bool true], .int .i64 63]) (by simp [results, Tryz.results86, go_sem, z0, z1, z2, z3]) rfl ?_
        rw [hres.out, hq.out, ha10.out]
        exact ⟨some ⟨g, o, none⟩, n, c, R, rfl, h.ext hEf, hP, hEf⟩
      · have hda : decide (a = 1) = false := decide_eq_false h1
        have hres : removeM P s = (P.goes (withoutG fname s P.L), 0) := by unfold removeM writesM; simp only [List.all_cons, List.all_nil, hnmd, Bool.and_self, if_true]; rw [← hst'.out, hfd.out]; show (if P.armed = 1 then _ else _) = _; rw [← ha', if_neg h1]
        have hLp : (withoutG RE.name s R).map RE.pl = withoutG fname s P.L := by
          rw [map_without (nm := RE.name) (nm' := fname) (g := RE.pl) (fun _ => rfl), hP]
        obtain ⟨N2, hN2⟩ : ∃ N2 : Nat → Prop, N2 = fun k => N k ∨ (w.heap.size ≤ k ∧ k < w.heap.size + 2) := ⟨_, rfl⟩
        have hsub : ∀ k, k < w.heap.size → N2 k → N k := by
          intro k hk hn
          rw [hN2] at hn
          rcases hn with hn | hn
          · exact hn
          · omega
        have hN2s : ∀ k, N2 k → k < W.heap.size := by
          intro k hn
          rw [hN2] at hn
          rcases hn with hn | hn
          · have := hN k hn
            have := hE.size
            omega
          · rw [hWs.out]; omega
        obtain ⟨a1, ha1⟩ : ∃ a1, a1 = a - 1 := ⟨_, rfl⟩
        replace hres := hide hres
        replace hLp := hide hLp
        replace hq := hide hq
        replace ha' := hide ha'
        replace hN2 := hN2
        go_enter Tryz.func86, Tryz.ntmps86
        go_wp2_with fail
        rw [hWx.out]
        refine hnm.out.mono ?_
        rintro e w1 ⟨rfl, hw1⟩
        replace hw1 := hw1.symm
        subst hw1
        go_wp2_with fail
        refine hfa2.out.mono ?_
        rintro e w1 ⟨rfl, hE1⟩
        have d0' := hE1.cell d0
        have d1' := hE1.cell d1
        have d2' := hE1.cell d2
        have d3' := hE1.cell d3
        have hcl3 := hcl2.out w1 ha
        rw [hda, ← ha1] at hcl3
        replace hcl3 := hide hcl3
        replace ha1 := hide ha1
        go_wp2_with fail
        refine hcl3.out.mono ?_
        rintro e w2 ⟨rfl, hE2⟩
        have hE12 := hE1.trans hE2
        have hE02 := hE.trans hE12
        have hR2 : RS w2 N2 (some ⟨g, o, none⟩) n c R := h.chg (Chg.of_ext hE02 (fun _ => False)) (fun _ _ h => h.elim) hsub
        have hok2 : ROk w2 N2 r' := hok.chg (Chg.of_ext hE02 (fun _ => False)) (fun _ _ h => h.elim) hsub
        have e0 := hE12.cell d0
        have m0 := hE12.cell k0
        have m1 := hE12.cell k1
        have m2 := hE12.cell k2
        have hgl2 : g < w2.heap.size := Nat.lt_of_lt_of_le hgl hE12.size
        have hdl : w.heap.size < w2.heap.size := Nat.lt_of_lt_of_le (by rw [hWs.out]; omega) hE12.size
        have hN3 : ∀ k, N2 k → k < w2.heap.size := fun k hk => Nat.lt_of_lt_of_le (hN2s k hk) hE12.size
        have hrw := hr2.ext hE12
        obtain ⟨W4, hW4⟩ : ∃ W4, W4 = w2.alloc (.cells #[.slice (some ⟨g, o, none⟩) n c, .int .i64 q, .int .i64 a1, .bool false] 44) := ⟨_, rfl⟩
        have hE4 : Ext w2 W4 := by rw [hW4]; exact (Ext.refl w2).alloc _
        have hwi := rwithout_any N2 (some ⟨g, o, none⟩) n c q a1 false R s W4 (hR2.ext hE4) (fun k hk => Nat.lt_of_lt_of_le (hN3 k hk) hE4.size)
        unfold rdisk str at hwi
        have hW4x := hide hW4.symm
        clear hW4
        replace hwi := hide hwi
        go_wp2_with fail
        rw [hW4x.out]
        refine hwi.out.mono ?_
        rintro e w5 ⟨A5, n5, c5, rfl, hR5, hE5⟩
        have hr5 := (hrw.ext hE4).ext hE5
        have hE05 := (hE02.trans hE4).trans hE5
        have x0 := hr5.cell 0 rfl
        have x1 := hr5.cell 1 rfl
        have x2 := hr5.cell 2 rfl
        have x3 := hr5.cell 3 rfl
        have y0 := hr5.free 0
        have y1 := hr5.free 1
        have y2 := hr5.free 2
        have y3 := hr5.free 3
        go_wp2_with fail
        have hfin := tup_out hr5 hE05 (Nat.le_succ _) (A := A5) (n := n5) (c := c5) (q := q) (a := a1) (st := false)
        obtain ⟨wf, hwf⟩ : ∃ wf, wf = ((((w5.setCell ⟨w.heap.size + 1, 0, none⟩ (.slice A5 n5 c5)).setCell ⟨w.heap.size + 1, 1, none⟩ (.int .i64 q)).setCell ⟨w.heap.size + 1, 2, none⟩ (.int .i64 a1)).setCell ⟨w.heap.size + 1, 3, none⟩ (.bool false)) := ⟨_, rfl⟩
        rw [← hwf] at hfin ⊢
        obtain ⟨z0, z1, z2, z3, hEf, hcf⟩ := hfin
        refine bodyPost_ret (v := .tuple #[.agg #[.slice A5 n5 c5, .int .i64 q, .int .i64 a1, .bool false], .int .i64 0]) (by simp [results, Tryz.results86, go_sem, z0, z1, z2, z3]) rfl ?_
        rw [hres.out]
        exact ⟨A5, n5, c5, _, by rw [hq.out, ha1.out, ha'.out, hst'.out]; rfl, hR5.chg hcf (fun k _ hk => by rw [hN2, hk]; exact .inr ⟨Nat.le_succ _, by omega⟩) (fun k _ hk => by rw [hN2]; exact .inl hk), hLp.out, hEf⟩
    · have hfa2 := hfa.out
      rw [hf] at hfa2
      simp only [Option.getD_none, Option.isSome_none] at hfa2
      have hres : removeM P s = (P, 61) := by unfold removeM writesM; simp only [List.all_cons, List.all_nil, hnmd, Bool.and_self, if_true]; rw [← hst, hfd]; rfl
      replace hfa2 := hide hfa2
      replace hres := hide hres
      replace hq := hide hq
      replace ha' := hide ha'
      replace hst := hide hst
      go_enter Tryz.func86, Tryz.ntmps86
      go_wp2_with fail
      rw [hWx.out]
      refine hnm.out.mono ?_
      rintro e w1 ⟨rfl, hw1⟩
      replace hw1 := hw1.symm
      subst hw1
      go_wp2_with fail
      refine hfa2.out.mono ?_
      rintro e w1 ⟨rfl, hE1⟩
      have hr3 := hr2.ext hE1
      have hE3 := hE.trans hE1
      have d0' := hE1.cell d0
      have d1' := hE1.cell d1
      have d2' := hE1.cell d2
      have d3' := hE1.cell d3
      have x0 := hr3.cell 0 rfl
      have x1 := hr3.cell 1 rfl
      have x2 := hr3.cell 2 rfl
      have x3 := hr3.cell 3 rfl
      have y0 := hr3.free 0
      have y1 := hr3.free 1
      have y2 := hr3.free 2
      have y3 := hr3.free 3
      go_wp2_with fail
      have hfin := tup_out hr3 hE3 (Nat.le_succ _) (A := A) (n := n) (c := c) (q := q) (a := a) (st := false)
      obtain ⟨wf, hwf⟩ : ∃ wf, wf = ((((w1.setCell ⟨w.heap.size + 1, 0, none⟩ (.slice A n c)).setCell ⟨w.heap.size + 1, 1, none⟩ (.int .i64 q)).setCell ⟨w.heap.size + 1, 2, none⟩ (.int .i64 a)).setCell ⟨w.heap.size + 1, 3, none⟩ (.bool false)) := ⟨_, rfl⟩
      rw [← hwf] at hfin ⊢
      obtain ⟨z0, z1, z2, z3, hEf, _⟩ := hfin
      exact bodyPost_ret (v := .tuple #[.agg #[.slice A n c, .int .i64 q, .int .i64 a, .bool false], .int .i64 61]) (by simp [results, Tryz.results86, go_sem, z0, z1, z2, z3]) rfl (same.out 61 wf hres.out hEf)
end Go.Proofs.YtaoolpnnomhnoaaGreatDoor

