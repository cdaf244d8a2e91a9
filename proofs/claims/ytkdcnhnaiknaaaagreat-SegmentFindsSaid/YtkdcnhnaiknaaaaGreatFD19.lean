/- Texts of one proof, joined. -/
import Derived.Test.YtkdcnhnaiknaaaaGreatFD07
import Derived.Test.YtkdcnhnaiknaaaaGreatFD08
import Derived.Test.YtkdcnhnaiknaaaaGreatFD16
import Derived.Test.YtkdcnhnaiknaaaaGreatFD10
import Derived.Test.YtkdcnhnaiknaaaaGreatFD11
import Derived.Test.YtkdcnhnaiknaaaaGreatFD17
import Derived.Deep.RegionHeld3
import Derived.Deep.CutRange
import Derived.Deep.DeepCutAuto
import Derived.Test.YtkdcnhnaiknaaaaGreatFD03
import Derived.Test.YtkdcnhnaiknaaaaGreatFD14
set_option linter.unusedSimpArgs false
set_option linter.unusedVariables false
namespace Go.Proofs.YtkdcnhnaiknaaaaGreat
section
theorem getV_inv : ∀ (l : List UInt8) (i n : Nat) (r : List UInt8), getV i l = .ok (n, r) → l = vb n ++ r ∧ (0 < i → 0 < n)
  | [], i, n, r, h => by unfold getV at h; cases h
  | x :: l, i, n, r, h => by
    have hx := x.toNat_lt
    unfold getV at h
    split at h
    · cases h
    · split at h
      · cases h
      · rename_i h2
        split at h
        · rename_i h3
          injection h with h
          injection h with e1 e2
          subst e1 e2
          refine ⟨?_, fun hi => ?_⟩
          · rw [vb_lt h3]
            simp
          · rcases Nat.eq_zero_or_pos x.toNat with h0 | h0
            · exact absurd (.inr ⟨hi, h0⟩) h2
            · exact h0
        · rename_i h3
          split at h
          · rename_i m r1 hg
            injection h with h
            injection h with e1 e2
            subst e1 e2
            obtain ⟨hl, hp⟩ := getV_inv l (i + 1) m r1 hg
            have hm := hp (by omega)
            refine ⟨?_, fun _ => by omega⟩
            rw [vb_ge (n := x.toNat - 128 + 128 * m) (by omega), show (x.toNat - 128 + 128 * m) / 128 = m by omega, show (x.toNat - 128 + 128 * m) % 128 + 128 = x.toNat by omega, List.cons_append, ← hl]
            simp
          · cases h
theorem getT_inv {most : Nat} {l s r : List UInt8} (h : getT most l = .ok (s, r)) : l = txL s ++ r := by
  unfold getT at h
  split at h
  · cases h
  · rename_i n r0 hg
    split at h
    · cases h
    · split at h
      · cases h
      · injection h with h
        injection h with h1 h2
        have hl := (getV_inv l 0 n r0 hg).1
        have hn : s.length = n := by rw [← h1, List.length_take]; omega
        unfold txL
        rw [hn, hl, ← h1, ← h2, List.append_assoc, List.take_append_drop]
theorem getFs_inv : ∀ (k : Nat) (l : List UInt8) (fs : List Fd) (r : List UInt8), getFs k l = some (fs, r) → l = putFs fs ++ r ∧ fs.length = k
  | 0, l, fs, r, h => by
    unfold getFs at h
    injection h with h
    injection h with h1 h2
    subst h1 h2
    exact ⟨rfl, rfl⟩
  | k + 1, l, fs, r, h => by
    unfold getFs at h
    split at h
    · cases h
    · rename_i nm r1 h1
      split at h
      · cases h
      · rename_i tx r2 h2
        split at h
        · cases h
        · rename_i fs2 r3 h3
          injection h with h
          injection h with e1 e2
          subst e1 e2
          obtain ⟨hl, hk⟩ := getFs_inv k r2 fs2 r3 h3
          refine ⟨?_, by rw [List.length_cons, hk]⟩
          rw [getT_inv h1, getT_inv h2, hl]
          unfold putFs
          rw [List.flatMap_cons]
          unfold putF
          simp
theorem zig_unzig {u : Nat} : zig (unzig u) = u := by
  unfold zig unzig
  split <;> split <;> omega
theorem getE_inv {l : List UInt8} {e : Ev} {r : List UInt8} (h : getE l = some (e, r)) : l = putE e ++ r ∧ I64ok' e.at_ ∧ checkE e.fs = 0 := by
  unfold getE at h
  split at h
  · cases h
  · rename_i u r1 h1
    split at h
    · cases h
    · rename_i n r2 h2
      split at h
      · cases h
      · split at h
        · cases h
        · rename_i fs r3 h3
          split at h
          · rename_i hc
            injection h with h
            injection h with e1 e2
            subst e1 e2
            obtain ⟨hl, hk⟩ := getFs_inv n r2 fs r3 h3
            refine ⟨?_, unzig_ok (getV_lt64 h1), hc⟩
            unfold putE
            simp only
            rw [zig_unzig, hk, (getV_inv l 0 u r1 h1).1, (getV_inv r1 0 n r2 h2).1, hl]
            simp
          · cases h
def skipV : Nat → List UInt8 → Option (List UInt8)
  | 0, l => some l
  | k + 1, l => match getV 0 l with
    | .error _ => none
    | .ok (_, r) => skipV k r
def readD : Nat → Int → List UInt8 → Option (List Dc)
  | 0, _, _ => some []
  | k + 1, last, l => match getV 0 l with
    | .error _ => none
    | .ok (s, r) => if 1099511627776 < s then none else match getE r with
      | none => none
      | some (e, r2) => if 1099511627776 < last + 1 + s then none else match readD k (last + 1 + s) r2 with
        | none => none
        | some ds => some ((last + 1 + s, e) :: ds)
def decDs (b : List UInt8) : Option (List Dc) := match getV 0 b with
  | .error _ => none
  | .ok (n, r) => if 65536 < n then none else match skipV (2 * ((n + 15) / 16)) r with
    | none => none
    | some r2 => match readD n 0 r2 with
      | none => none
      | some ds => if okDs ds = true ∧ encDs ds = b then some ds else none
theorem decDs_enc {b : List UInt8} {ds : List Dc} (h : decDs b = some ds) : okDs ds = true ∧ encDs ds = b := by
  unfold decDs at h
  split at h
  · cases h
  · split at h
    · cases h
    · split at h
      · cases h
      · split at h
        · cases h
        · split at h
          · rename_i hh
            injection h with h
            subst h
            exact hh
          · cases h
theorem readD_len : ∀ (k : Nat) (last : Int) (l : List UInt8) (ds : List Dc), readD k last l = some ds → (blockD last ds).length ≤ l.length ∧ ds.length = k ∧ ∀ d ∈ ds, I64ok' d.2.at_ ∧ checkE d.2.fs = 0
  | 0, last, l, ds, h => by
    unfold readD at h
    injection h with h
    subst h
    exact ⟨Nat.zero_le _, rfl, nofun⟩
  | k + 1, last, l, ds, h => by
    unfold readD at h
    split at h
    · cases h
    · rename_i s r h1
      split at h
      · cases h
      · split at h
        · cases h
        · rename_i e r2 h2
          split at h
          · cases h
          · split at h
            · cases h
            · rename_i ds2 h3
              injection h with h
              subst h
              obtain ⟨i1, i2, i3⟩ := readD_len k _ r2 ds2 h3
              obtain ⟨j1, j2, j3⟩ := getE_inv h2
              have hl := (getV_inv l 0 s r h1).1
              refine ⟨?_, by rw [List.length_cons, i2], fun d hd => ?_⟩
              · show (oneD last (last + 1 + s, e) ++ blockD (last + 1 + s) ds2).length ≤ _
                unfold oneD
                simp only
                rw [show (last + 1 + (s : Int) - last - 1).toNat = s by omega, hl, j1]
                simp only [List.length_append]
                omega
              · rcases List.mem_cons.1 hd with rfl | hd
                · exact ⟨j2, j3⟩
                · exact i3 d hd
theorem skipV_head : ∀ (bs : List (List Dc)) (lo : Int) (r : List UInt8), (∀ k : Nat, lastD lo ((bs.take k).flatMap id) < 9223372036854775808 ∧ (blockD lo ((bs.take k).flatMap id)).length < 9223372036854775808) → skipV (2 * bs.length) (headD lo bs ++ r) = some r
  | [], lo, r, _ => rfl
  | b :: bs, lo, r, h => by
    have h1 := h 1
    rw [List.take_succ_cons, List.take_zero, List.flatMap_cons, List.flatMap_nil, List.append_nil] at h1
    simp only [id] at h1
    have ih := skipV_head bs (lastD lo b) r fun k => by
      have := h (k + 1)
      rw [List.take_succ_cons, List.flatMap_cons, lastD_app, blockD_app, List.length_append] at this
      simp only [id] at this
      exact ⟨this.1, by omega⟩
    show skipV (2 * (bs.length + 1)) ((vb (lastD lo b).toNat ++ vb (blockD lo b).length ++ headD (lastD lo b) bs) ++ r) = _
    rw [show 2 * (bs.length + 1) = 2 * bs.length + 1 + 1 by omega, List.append_assoc, List.append_assoc]
    unfold skipV
    rw [getV_put (by omega)]
    simp only
    unfold skipV
    rw [getV_put (by omega)]
    exact ih
theorem readD_block : ∀ (P : List Dc) (lo : Int), risB 1099511627777 lo (P.map (·.1)) = true → 0 ≤ lo → (∀ d ∈ P, I64ok' d.2.at_ ∧ checkE d.2.fs = 0) → readD P.length lo (blockD lo P) = some P
  | [], lo, _, _, _ => rfl
  | d :: P, lo, h, hlo, ha => by
    rw [List.map_cons, risB, Bool.and_eq_true, Bool.and_eq_true] at h
    have h1 := of_decide_eq_true h.1.1
    have h2 := of_decide_eq_true h.1.2
    obtain ⟨hd1, hd2⟩ := ha d (List.mem_cons_self ..)
    have ih := readD_block P d.1 h.2 (by omega) fun x hx => ha x (List.mem_cons_of_mem _ hx)
    show readD (P.length + 1) lo (oneD lo d ++ blockD d.1 P) = _
    unfold readD oneD
    rw [List.append_assoc, getV_put (by omega)]
    simp only
    rw [if_neg (by omega), getE_put hd1 hd2]
    simp only
    rw [show lo + 1 + (((d.1 - lo - 1).toNat : Nat) : Int) = d.1 by omega, if_neg (by omega), ih]
theorem decDs_of {P : List Dc} (hok : okDs P = true) (ha : ∀ d ∈ P, I64ok' d.2.at_) (hsz : (blockD 0 P).length ≤ 50000000) : decDs (encDs P) = some P := by
  have hok' := hok
  unfold okDs at hok
  rw [Bool.and_eq_true, Bool.and_eq_true] at hok
  obtain ⟨hl, hr, hc⟩ := hok
  have hl := of_decide_eq_true hl
  have hcl : (chunkL 16 P).length = (P.length + 15) / 16 := chunkL_len (by omega) P
  have hk : ∀ k : Nat, lastD 0 (((chunkL 16 P).take k).flatMap id) < 9223372036854775808 ∧ (blockD 0 (((chunkL 16 P).take k).flatMap id)).length < 9223372036854775808 := fun k => by
    rw [chunkL_take (by omega)]
    have h1 := (lastD_bd (l := P.take (k * 16)) (lo := 0) (n := 1099511627777) (by rw [List.map_take]; exact risB_take _ hr) (by omega)).2
    have h2 := sd_take_len P (k * 16)
    omega
  have hsk := skipV_head (chunkL 16 P) 0 (blockD 0 P) hk
  have hrd := readD_block P 0 hr (by omega) fun d hd => ⟨ha d hd, of_decide_eq_true (List.all_eq_true.1 hc d hd)⟩
  rw [hcl] at hsk
  have he : encDs P = vb P.length ++ (headD 0 (chunkL 16 P) ++ blockD 0 P) := by unfold encDs; rw [List.append_assoc]
  unfold decDs
  rw [he, getV_put (by omega)]
  simp only
  rw [if_neg (by omega), hsk]
  simp only
  rw [hrd]
  simp only
  rw [if_pos ⟨hok', by rw [he]⟩]
end
section
open Go.RowKit
structure DocsOwn (w : World) (base : Nat) (A : Option Addr) (c : Nat) (l : List DocC) : Prop where
  own : w.ownsRow base 39 3 (.slice A l.length c) l.length (dcells l)
  each : ∀ x ∈ l, x.e.Own w base x.A x.c
  ints : ∀ x ∈ l, I64ok' x.e.at_ ∧ I64ok' x.seq
theorem DocsOwn.ok {w : World} {base c : Nat} {A : Option Addr} {l : List DocC} (h : DocsOwn w base A c l) : DocsOk w A l := ⟨Cells.of_own h.own, fun x hx => ⟨(h.each x hx).ok, h.ints x hx⟩⟩
theorem DocsOwn.nil (w : World) (base : Nat) : DocsOwn w base none 0 [] := ⟨⟨rfl, .inl ⟨rfl, rfl⟩⟩, nofun, nofun⟩
theorem DocsOwn.chg {w w' : World} {base c : Nat} {A : Option Addr} {l : List DocC} {S : Nat → Prop} (h : DocsOwn w base A c l) (hc : Chg S w w') (hS : ∀ g t cs, Row w g t cs → t = 105 ∨ t = 39 → base ≤ g → ¬ S g) : DocsOwn w' base A c l :=
  ⟨hc.owns h.own fun g hg => by obtain ⟨cs, hr, hb⟩ := owns_row h.own hg; exact hS g _ cs hr (.inr rfl) hb, fun x hx => ⟨hc.owns (h.each x hx).1 fun g hg => by obtain ⟨cs, hr, hb⟩ := owns_row (h.each x hx).1 hg; exact hS g _ cs hr (.inl rfl) hb, (h.each x hx).2⟩, h.ints⟩
theorem DocsOwn.ext {w w' : World} {base c : Nat} {A : Option Addr} {l : List DocC} (h : DocsOwn w base A c l) (hE : Ext w w') : DocsOwn w' base A c l := ⟨hE.owns h.own, fun x hx => ⟨hE.owns (h.each x hx).1, (h.each x hx).2⟩, h.ints⟩
theorem DocsOwn.lower {w : World} {base b c : Nat} {A : Option Addr} {l : List DocC} (h : DocsOwn w base A c l) (hb : b ≤ base) : DocsOwn w b A c l := ⟨owns_lower h.own hb, fun x hx => ⟨owns_lower (h.each x hx).1 hb, (h.each x hx).2⟩, h.ints⟩
theorem DocsOwn.cap {w : World} {base c : Nat} {A : Option Addr} {l : List DocC} (h : DocsOwn w base A c l) : l.length ≤ c ∧ ∀ a, A = some a → a.spot = none := owns_cap h.own
set_option maxRecDepth 100000 in
theorem elemDoc : Elem Tryz.prog 22 39 3 40 := ⟨Tryz.underlying22, ⟨_, _, rfl, rfl, rfl, rfl, rfl⟩, by omega, by omega⟩
theorem dcells_snoc (l : List DocC) (x : DocC) : dcells (l ++ [x]) = dcells l ++ x.cells := by
  unfold dcells
  rw [List.flatMap_append]
  simp
theorem dcs_snoc (l : List DocC) (x : DocC) : dcs (l ++ [x]) = dcs l ++ [x.dc] := by unfold dcs; rw [List.map_append]; rfl
def SdecP (w : World) (res : Option (List Dc)) (e : Ending) (w' : World) : Prop := Ext w w' ∧ match res with
  | some P => ∃ (l : List DocC) (A : Option Addr) (c : Nat), dcs l = P ∧ e = .returned (.tuple #[.slice A l.length c, .int .i64 0]) ∧ DocsOwn w' w.heap.size A c l
  | none => e = .returned (.tuple #[.slice none 0 0, .int .i64 120])
theorem SdecP.no {w w' : World} {res : Option (List Dc)} (hE : Ext w w') (h : res = none) : SdecP w res (.returned (.tuple #[.slice none 0 0, .int .i64 120])) w' := by
  subst h
  exact ⟨hE, rfl⟩
def aheadD (read : List Dc) : Option (List Dc) → Option (List Dc)
  | none => none
  | some l => some (read ++ l)
theorem aheadD_nil (x : Option (List Dc)) : aheadD [] x = x := by cases x <;> rfl
theorem skipV_step {k i : Nat} {L r r1 : List UInt8} {n : Nat} (h : skipV k L = skipV (k - i) r) (hi : i < k) (h1 : getV 0 r = .ok (n, r1)) : skipV k L = skipV (k - (i + 1)) r1 := by
  obtain ⟨j, hj⟩ : ∃ j, k - i = j + 1 := ⟨k - i - 1, by omega⟩
  rw [h, hj, show k - (i + 1) = j by omega]
  conv => lhs; unfold skipV
  rw [h1]
theorem skipV_no {k i : Nat} {L r : List UInt8} {e : Nat} (h : skipV k L = skipV (k - i) r) (hi : i < k) (h1 : getV 0 r = .error e) : skipV k L = none := by
  obtain ⟨j, hj⟩ : ∃ j, k - i = j + 1 := ⟨k - i - 1, by omega⟩
  rw [h, hj]
  unfold skipV
  rw [h1]
theorem skipV_fin {k i : Nat} {L r : List UInt8} (h : skipV k L = skipV (k - i) r) (hi : k ≤ i) : skipV k L = some r := by
  rw [h, show k - i = 0 by omega]
  rfl
section
variable {k i : Nat} {la0 la : Int} {read : List Dc} {L r : List UInt8} (h : readD k la0 L = aheadD read (readD (k - i) la r)) (hi : i < k)
include h hi
theorem readD_no1 {e : Nat} (h1 : getV 0 r = .error e) : readD k la0 L = none := by
  obtain ⟨j, hj⟩ : ∃ j, k - i = j + 1 := ⟨k - i - 1, by omega⟩
  rw [h, hj]
  unfold readD
  rw [h1]
  rfl
theorem readD_no2 {s : Nat} {r1 : List UInt8} (h1 : getV 0 r = .ok (s, r1)) (h2 : 1099511627776 < s) : readD k la0 L = none := by
  obtain ⟨j, hj⟩ : ∃ j, k - i = j + 1 := ⟨k - i - 1, by omega⟩
  rw [h, hj]
  unfold readD
  rw [h1]
  simp only
  rw [if_pos h2]
  rfl
theorem readD_no3 {s : Nat} {r1 : List UInt8} (h1 : getV 0 r = .ok (s, r1)) (h2 : getE r1 = none) : readD k la0 L = none := by
  obtain ⟨j, hj⟩ : ∃ j, k - i = j + 1 := ⟨k - i - 1, by omega⟩
  rw [h, hj]
  unfold readD
  rw [h1]
  simp only
  rw [h2]
  split <;> rfl
theorem readD_no4 {s : Nat} {r1 r2 : List UInt8} {e : Ev} (h1 : getV 0 r = .ok (s, r1)) (h2 : getE r1 = some (e, r2)) (h3 : 1099511627776 < la + 1 + s) : readD k la0 L = none := by
  obtain ⟨j, hj⟩ : ∃ j, k - i = j + 1 := ⟨k - i - 1, by omega⟩
  rw [h, hj]
  unfold readD
  rw [h1]
  simp only
  rw [h2]
  simp only
  rw [if_pos h3]
  split <;> rfl
theorem readD_step {s : Nat} {r1 r2 : List UInt8} {e : Ev} (h1 : getV 0 r = .ok (s, r1)) (h0 : ¬ 1099511627776 < s) (h2 : getE r1 = some (e, r2)) (h3 : ¬ 1099511627776 < la + 1 + s) : readD k la0 L = aheadD (read ++ [(la + 1 + s, e)]) (readD (k - (i + 1)) (la + 1 + s) r2) := by
  obtain ⟨j, hj⟩ : ∃ j, k - i = j + 1 := ⟨k - i - 1, by omega⟩
  rw [h, hj, show k - (i + 1) = j by omega]
  conv => lhs; unfold readD
  rw [h1]
  simp only
  rw [if_neg h0, h2]
  simp only
  rw [if_neg h3]
  cases readD j (la + 1 + s) r2 with
  | none => rfl
  | some p => simp [aheadD]
end
theorem readD_fin {k i : Nat} {la0 la : Int} {read : List Dc} {L r : List UInt8} (h : readD k la0 L = aheadD read (readD (k - i) la r)) (hi : k ≤ i) : readD k la0 L = some read := by
  rw [h, show k - i = 0 by omega]
  simp [readD, aheadD]
end
section
open Go.RowKit
set_option maxRecDepth 100000 in
set_option maxHeartbeats 8000000 in
theorem sdDecode_any (A : Option Addr) (n c : Nat) (bs : List UInt8) (w : World) (h : In8 w A n c bs) (hle : n ≤ 50000000) :
    Calls Tryz.prog 50 #[.slice A n c] w fun e w' => SdecP w (decDs bs) e w' := by
  have hg1 := get_any A n c bs w w h (Ext.refl w) (by omega)
  have hln : bs.length ≤ 50000000 := by rw [← h.len]; exact hle
  obtain ⟨Z, hZ⟩ : ∃ Z, Z = decDs bs := ⟨_, rfl⟩
  rw [← hZ]
  unfold decDs at hZ
  cases hv1 : getV 0 bs with
  | error k =>
    rw [hv1] at hg1 hZ
    have hk := getV_err bs 0 k hv1
    have hk0 : ((k : Int) != 0) = true := by simp; omega
    have hg := hide hg1
    replace hZ := hide hZ
    clear hv1 hk hg1
    go_enter Tryz.func50, Tryz.ntmps50
    go_wp2_with fail
    refine hg.out.mono ?_
    rintro e w1 ⟨hE1, rfl⟩
    go_wp2_with fail
    go_ret2
    exact SdecP.no hE1 hZ.out
  | ok p =>
    obtain ⟨q, r⟩ := p
    have hrl : r.length ≤ 50000000 := by have := getV_less hv1; omega
    rw [hv1] at hg1 hZ
    simp only at hZ
    have hg := hide hg1
    unfold Got at hg
    simp only at hg
    clear hv1 hg1
    by_cases hq16 : 65536 < q
    · rw [if_pos hq16] at hZ
      have hq' : (65536 : Int) < q := by omega
      replace hZ := hide hZ
      go_enter Tryz.func50, Tryz.ntmps50
      go_wp2_with fail
      refine hg.out.mono ?_
      rintro e w1 ⟨hE1, A1, c1, rfl, hi1⟩
      go_wp2_with fail
      go_ret2
      exact SdecP.no hE1 hZ.out
    · rw [if_neg hq16] at hZ
      have hq' : ¬ (65536 : Int) < q := by omega
      obtain ⟨K, hK⟩ : ∃ K, K = 2 * ((q + 15) / 16) := ⟨_, rfl⟩
      rw [← hK] at hZ
      replace hZ := hide hZ
      go_enter Tryz.func50, Tryz.ntmps50
      go_wp2_with fail
      refine hg.out.mono ?_
      rintro e w1 ⟨hE1, A1, c1, rfl, hi1⟩
      go_wp2_with fail
      have hKI : 2 * (((q : Int) + 16 - 1) / 16) = (K : Int) := by omega
      rw [hKI]
      have hK9 : K ≤ 100000 := by omega
      replace hK := hide hK
      have hE1h := hide hE1
      have hi1h := hide hi1
      clear hKI hg hE1 hi1
      have hget := hide (fun A n c r W (h : In8 w A n c r) (hw : Ext w W) (hle : n ≤ 1000000000) => get_any A n c r w W h hw hle)
      go_loopw [5, 31] (fun s5 s31 wr => ∃ (i : Nat) (rr : List UInt8) (A3 : Option Addr) (c3 : Nat), s31 = .int .u64 (i : Int) ∧ s5 = .slice A3 rr.length c3 ∧ i ≤ K ∧ rr.length ≤ 50000000 ∧ Hid (skipV K r = skipV (K - i) rr) ∧ Hid (In8 w A3 rr.length c3 rr) ∧ Hid (Ext w wr)) (fun _ s31 _ => K - (intOf s31).toNat)
      case atStart => exact ⟨0, r, A1, c1, rfl, rfl, by omega, hrl, hide rfl, hi1h, hE1h⟩
      case round =>
        obtain ⟨i, rr, A3, c3, rfl, rfl, hi, hrr, hsk, hin, hE⟩ := hrel
        by_cases hiK : i < K
        · have hgt := hget.out A3 rr.length c3 rr wr hin.out hE.out (by omega)
          cases hv : getV 0 rr with
          | error k =>
            have hno := skipV_no hsk.out hiK hv
            have hk := getV_err rr 0 k hv
            have hk0 : ((k : Int) != 0) = true := by simp; omega
            rw [hv] at hgt
            have hZn : Z = none := by rw [hZ.out, hno]
            replace hZn := hide hZn
            replace hgt := hide hgt
            clear hv hk hno
            go_wp2_with fail
            refine hgt.out.mono ?_
            rintro e w2 ⟨hE2, rfl⟩
            go_wp2_with fail
            go_ret2
            exact SdecP.no (hE.out.trans hE2) hZn.out
          | ok p =>
            obtain ⟨v, r1⟩ := p
            have hst := hide (skipV_step hsk.out hiK hv)
            have hless := getV_less hv
            rw [hv] at hgt
            unfold Got at hgt
            simp only at hgt
            replace hgt := hide hgt
            clear hv
            go_wp2_with fail
            refine hgt.out.mono ?_
            rintro e w2 ⟨hE2, A4, c4, rfl, hi4⟩
            go_wp2_with fail
            exact ⟨⟨i + 1, r1, A4, c4, by go_num, rfl, by omega, by omega, hst, hide hi4, hide (hE.out.trans hE2)⟩, by simp only [intOf]; omega⟩
        · obtain rfl : i = K := by omega
          have hfin := skipV_fin hsk.out (Nat.le_refl _)
          have hZ2 := hZ.out
          rw [hfin] at hZ2
          simp only at hZ2
          replace hZ2 := hide hZ2
          clear hfin hsk
          go_wp2_with fail
          have hevg := hide (fun A n c r W (h : In8 w A n c r) (hw : Ext w W) (hle : n ≤ 1000000000) => evget_any A n c r w W h hw hle)
          go_loopw [5, 7, 8, 43] (fun s5 s7 s8 s43 wr => ∃ (j : Nat) (read : List DocC) (rr2 : List UInt8) (A3 B : Option Addr) (c3 d : Nat) (la : Int), s43 = .int .u64 (j : Int) ∧ s5 = .slice A3 rr2.length c3 ∧ s7 = .slice B j d ∧ s8 = .int .i64 la ∧ j ≤ q ∧ rr2.length ≤ 50000000 ∧ 0 ≤ la ∧ la ≤ 1099511627776 ∧ Hid (j = read.length) ∧ Hid (readD q 0 rr = aheadD (dcs read) (readD (q - j) la rr2)) ∧ Hid (DocsOwn wr w.heap.size B d read) ∧ Hid (In8 w A3 rr2.length c3 rr2) ∧ Hid (Ext w wr)) (fun _ _ _ s43 _ => q - (intOf s43).toNat)
          case atStart => exact ⟨0, [], rr, A3, none, c3, 0, 0, rfl, rfl, rfl, rfl, by omega, hrr, by omega, by omega, hide rfl, hide (by show _ = aheadD [] _; rw [aheadD_nil]; rfl), hide (DocsOwn.nil _ _), hin, hE⟩
          case round =>
            clear hin hE
            obtain ⟨j, read, rr2, A4, B, c4, d, la, rfl, rfl, rfl, rfl, hj, hrr2, hla0, hla1, hjl, hrd, hown, hin, hE⟩ := hrel
            by_cases hjq : j < q
            · have hgt := hget.out A4 rr2.length c4 rr2 wr hin.out hE.out (by omega)
              have hZn : readD q 0 rr = none → Hid (Z = none) := fun hn => hide (by rw [hZ2.out, hn])
              replace hZn := hide hZn
              cases hv : getV 0 rr2 with
              | error k =>
                have hno := hZn.out (readD_no1 hrd.out hjq hv)
                have hk := getV_err rr2 0 k hv
                have hk0 : ((k : Int) != 0) = true := by simp; omega
                rw [hv] at hgt
                replace hgt := hide hgt
                clear hv hk
                go_wp2_with fail
                refine hgt.out.mono ?_
                rintro e w2 ⟨hE2, rfl⟩
                go_wp2_with fail
                go_ret2
                exact SdecP.no (hE.out.trans hE2) hno.out
              | ok p =>
                obtain ⟨s, r1⟩ := p
                have hless := getV_less hv
                rw [hv] at hgt
                unfold Got at hgt
                simp only at hgt
                replace hgt := hide hgt
                by_cases hs40 : 1099511627776 < s
                · have hno := hZn.out (readD_no2 hrd.out hjq hv hs40)
                  have hs' : (1099511627776 : Int) < s := by omega
                  clear hv
                  go_wp2_with fail
                  refine hgt.out.mono ?_
                  rintro e w2 ⟨hE2, A5, c5, rfl, hi5⟩
                  go_wp2_with fail
                  go_ret2
                  exact SdecP.no (hE.out.trans hE2) hno.out
                · have hs' : ¬ (1099511627776 : Int) < s := by omega
                  have hws : IntKind.i64.wrap (s : Int) = (s : Int) := wrap_int (by omega) (by omega)
                  obtain ⟨sq, hsq⟩ : ∃ sq : Int, sq = la + 1 + s := ⟨_, rfl⟩
                  have hsq0 : 0 ≤ sq := by omega
                  have hsq1 : sq ≤ 2199023255553 := by omega
                  have hnone := fun (hn : getE r1 = none) => hZn.out (readD_no3 hrd.out hjq hv hn)
                  have hbig := fun e r2 (h1 : getE r1 = some (e, r2)) (h2 : 1099511627776 < sq) => hZn.out (readD_no4 hrd.out hjq hv h1 (by rw [← hsq]; exact h2))
                  have hstep := fun e r2 (h1 : getE r1 = some (e, r2)) (h2 : ¬ 1099511627776 < sq) => readD_step hrd.out hjq hv hs40 h1 (by rw [← hsq]; exact h2)
                  rw [← hsq] at hstep
                  replace hsq := hide hsq
                  replace hnone := hide hnone
                  replace hbig := hide hbig
                  replace hstep := hide hstep
                  clear hv hrd
                  go_wp2_with fail
                  refine hgt.out.mono ?_
                  rintro e w2 ⟨hE2, A5, c5, rfl, hi5⟩
                  go_wp2_with fail
                  rw [← hsq.out]
                  obtain ⟨g, hg⟩ : ∃ g, g = w2.heap.size := ⟨_, rfl⟩
                  obtain ⟨W3, hW3⟩ : ∃ W3, W3 = w2.alloc (.cells #[.int .i64 sq, .int .i64 0, .slice none 0 0] 39) := ⟨_, rfl⟩
                  have hE23 : Ext w2 W3 := by rw [hW3]; exact (Ext.refl w2).alloc _
                  have hr3 : Row W3 g 39 #[.int .i64 sq, .int .i64 0, .slice none 0 0] := by rw [hW3, hg]; exact Row.new w2 _ _
                  rw [← hW3, ← hg]
                  have hgw : w.heap.size ≤ g := by rw [hg]; exact (hE.out.trans hE2).size
                  have hown2 := hide (hown.out.ext hE2)
                  have hE3 := hide ((hE.out.trans hE2).trans hE23)
                  have hev := hevg.out A5 r1.length c5 r1 W3 hi5 hE3.out (by omega)
                  replace hW3 := hide hW3
                  replace hr3 := hide hr3
                  replace hg := hide hg
                  replace hE23 := hide hE23
                  clear hi5
                  cases hge : getE r1 with
                  | none =>
                    have hno := hnone.out hge
                    rw [hge] at hev
                    replace hev := hide hev
                    clear hge
                    go_wp2_with fail
                    refine hev.out.mono ?_
                    rintro e w4 ⟨hE4, rfl⟩
                    have hr4 := hr3.out.ext hE4
                    have e1 := hr4.cell 1 rfl
                    have e2 := hr4.cell 2 rfl
                    have f1 := hr4.free 1
                    have f2 := hr4.free 2
                    replace hr4 := hide hr4
                    replace hE4 := hide (hE3.out.trans hE4)
                    go_wp2_with fail
                    go_ret2
                    exact SdecP.no ((hE4.out.setCell (p := ⟨g, 1, none⟩) hgw _).setCell (p := ⟨g, 2, none⟩) hgw _) hno.out
                  | some p =>
                    obtain ⟨ev, r2⟩ := p
                    have hless2 := getE_less hge
                    have hbg := hide (hbig.out ev r2 hge)
                    have hsp := hide (hstep.out ev r2 hge)
                    rw [hge] at hev
                    unfold GotE at hev
                    simp only at hev
                    replace hev := hide hev
                    clear hge hbig hstep hnone
                    go_wp2_with fail
                    refine hev.out.mono ?_
                    rintro e w4 ⟨hE4, B4, d4, A6, c6, rfl, hev4, hi6, hei⟩
                    unfold Ev.val
                    obtain ⟨at_, fs⟩ := ev
                    simp only
                    have hr4 := hr3.out.ext hE4
                    have e1 := hr4.cell 1 rfl
                    have e2 := hr4.cell 2 rfl
                    have f1 := hr4.free 1
                    have f2 := hr4.free 2
                    obtain ⟨w5, hw5⟩ : ∃ w5, w5 = (w4.setCell ⟨g, 1, none⟩ (.int .i64 at_)).setCell ⟨g, 2, none⟩ (.slice B4 fs.length d4) := ⟨_, rfl⟩
                    have hr5 : Row w5 g 39 #[.int .i64 sq, .int .i64 at_, .slice B4 fs.length d4] := by rw [hw5]; exact (hr4.put 1 _).put 2 _
                    have hE5 : Ext w w5 := by rw [hw5]; exact ((hE3.out.trans hE4).setCell (p := ⟨g, 1, none⟩) hgw _).setCell (p := ⟨g, 2, none⟩) hgw _
                    have hc45 : Chg (fun k => k = g) w4 w5 := by rw [hw5]; exact (Chg.of_set (S := fun k => k = g) w4 _ rfl).trans (Chg.of_set (S := fun k => k = g) _ _ rfl) fun _ _ h => h
                    have hc25 : Chg (fun k => k = g) w2 w5 := (Chg.of_ext (hE23.out.trans hE4) _).trans hc45 fun _ _ h => h
                    have ho5 : DocsOwn w5 w.heap.size B d read := hown2.out.chg hc25 fun g' t cs hr _ _ hk => by have := hr.lt; have := hg.out; omega
                    have hg4w := hE3.out.size
                    have hnew : Ev.Own ⟨at_, fs⟩ w5 w.heap.size B4 d4 := ⟨hc45.owns (owns_lower hev4.1 hg4w) fun k hk => by
                      obtain ⟨cs, hr, _⟩ := owns_row hev4.1 hk
                      exact fun e => Row.unlike hr hr4 (by decide) e, hev4.2⟩
                    have y0 := hr5.cell 0 rfl
                    have y1 := hr5.cell 1 rfl
                    have y2 := hr5.cell 2 rfl
                    rw [hw5] at y0 y1 y2
                    replace hr4 := hide hr4
                    replace hw5 := hide hw5
                    replace hr5 := hide hr5
                    replace hE5 := hide hE5
                    replace ho5 := hide ho5
                    replace hnew := hide hnew
                    replace hev4 := hide hev4
                    replace hi6 := hide hi6
                    replace hei := hide hei
                    by_cases hb : 1099511627776 < sq
                    · have hno := hbg.out hb
                      go_wp2_with fail
                      go_ret2
                      rw [← hw5.out]
                      exact SdecP.no hE5.out hno.out
                    · have hsp2 := hide (hsp.out (by omega))
                      have hown5 : w5.ownsRow w.heap.size 39 3 (.slice B j d) j (dcells read) := by have := ho5.out.own; rw [← hjl.out] at this; exact this
                      have hsz5 := hE5.out.size
                      obtain ⟨fl, hfl⟩ : ∃ fl, fl = fs.length := ⟨_, rfl⟩
                      rw [← hfl] at y0 y1 y2 hw5
                      have hown5' := hown5
                      have hsz5' := hsz5
                      rw [hw5.out] at hown5' hsz5'
                      rw [← hfl]
                      replace hfl := hide hfl
                      clear hown5 hsz5
                      go_wp2_with (at_builtin; refine wpList_appZ (us := [.int .i64 sq, .int .i64 at_, .slice B4 fl d4]) (m := 1) elemDoc hown5' (by simp) (.tmp 79) (.tmp 81) rfl rfl rfl rfl rfl (one_of rfl) (by omega) hsz5' (fun A8 c8 w8 ho8 hg8 hl8 => ?_); rw [← hw5.out] at hg8 hown5'; replace ho8 := hide ho8; replace hg8 := hide hg8; have hown5h := hide hown5'; clear hown5' hl8)
                      have hlen : (read ++ [(⟨sq, ⟨at_, fs⟩, B4, d4⟩ : DocC)]).length = j + 1 := by rw [List.length_append, ← hjl.out]; rfl
                      have hch : Chg (fun k' => (Value.slice B j d).ownBlock = some k') w5 w8 := Chg.of_grown hg8.out fun k' _ hk' => hk'
                      have hun : ∀ k cs, Row w5 k 105 cs → ¬ (Value.slice B j d).ownBlock = some k := fun k cs hr => owns_unlike hown5h.out hr (by decide)
                      have hE8 : Ext w w8 := hE5.out.grown hg8.out fun k hk => by obtain ⟨_, _, hb⟩ := owns_row hown5h.out hk; omega
                      refine ⟨⟨j + 1, read ++ [⟨sq, ⟨at_, fs⟩, B4, d4⟩], r2, A6, A8, c6, c8, sq, by go_num, rfl, rfl, rfl, by omega, by omega, by omega, by omega, hide hlen.symm, hide (by rw [dcs_snoc]; exact hsp2.out), hide ⟨?_, ?_, ?_⟩, hi6, hide hE8⟩, by simp only [intOf]; omega⟩
                      · rw [hlen, dcells_snoc]
                        show w8.ownsRow _ _ _ _ _ (dcells read ++ [.int .i64 sq, .int .i64 at_, .slice B4 fs.length d4])
                        rw [← hfl.out]
                        exact ho8.out
                      · intro x hx
                        rcases List.mem_append.1 hx with hx | hx
                        · exact ⟨hch.owns (ho5.out.each x hx).1 fun g' hg' => by obtain ⟨cs, hr, _⟩ := owns_row (ho5.out.each x hx).1 hg'; exact hun _ _ hr, (ho5.out.each x hx).2⟩
                        · rw [List.mem_singleton.1 hx]
                          exact ⟨hch.owns hnew.out.1 fun g' hg' => by obtain ⟨cs, hr, _⟩ := owns_row hnew.out.1 hg'; exact hun _ _ hr, hnew.out.2⟩
                      · intro x hx
                        rcases List.mem_append.1 hx with hx | hx
                        · exact ho5.out.ints x hx
                        · rw [List.mem_singleton.1 hx]
                          exact ⟨hei.out, by show -9223372036854775808 ≤ sq ∧ sq ≤ 9223372036854775807; omega⟩
            · obtain rfl : j = q := by omega
              have hfin := readD_fin hrd.out (Nat.le_refl _)
              have hZ3 := hZ2.out
              rw [hfin] at hZ3
              simp only at hZ3
              have hlb := (readD_len _ _ _ _ hfin).1
              have hcap := hown.out.cap
              obtain ⟨P, hP⟩ : ∃ P, P = dcs read := ⟨_, rfl⟩
              have hey := sdEncode_yes read B j d wr hjl.out hown.out.ok hcap.2 (by rw [hjl.out]; exact hcap.1)
              have hen := sdEncode_no read B j d wr hjl.out hown.out.ok (by omega)
              rw [← hP] at hZ3 hey hen hlb
              have hbl : (blockD 0 P).length ≤ 50000000 := by omega
              cases hok : okDs P with
              | false =>
                have hZn : Z = none := by rw [hZ3, hok]; simp
                have hen2 := hide (hen hok)
                replace hZn := hide hZn
                clear hey hen hZ3 hZ2 hZ
                go_wp2_with fail
                refine hen2.out.mono ?_
                rintro e w2 ⟨rfl, hE2⟩
                go_wp2_with fail
                go_ret2
                exact SdecP.no (hE.out.trans hE2) hZn.out
              | true =>
                have hey2 := hide (hey hok hbl)
                rw [hok] at hZ3
                replace hZ3 := hide hZ3
                clear hey hen hZ2 hZ
                go_wp2_with fail
                refine hey2.out.mono ?_
                rintro e w2 ⟨A9, c9, rfl, hb9, hE2⟩
                have hel : (encDs P).length ≤ 60000000 := by
                  have h1 := sd_hlen hok hbl (chunkL 16 P).length
                  rw [List.take_length] at h1
                  have hok3 := hok
                  unfold okDs at hok3
                  rw [Bool.and_eq_true] at hok3
                  have h2 := of_decide_eq_true hok3.1
                  have h3 := vb_len10 (n := P.length) (by omega)
                  have h4 := chunkL_len (k := 16) (by omega) P
                  unfold encDs
                  rw [List.length_append, List.length_append]
                  omega
                have heq := equalB_any A9 A (encDs P).length n c9 c (encDs P) bs w2 hb9.2.in8 (h.ext (hE.out.trans hE2)) (by omega) (by omega)
                obtain ⟨ne, hnee⟩ : ∃ ne, ne = (encDs P).length := ⟨_, rfl⟩
                rw [← hnee] at heq ⊢
                have hE3 := hide (hE.out.trans hE2)
                have hown3 := hide (hown.out.ext hE2)
                replace hnee := hide hnee
                clear hb9 hel hey2
                by_cases he : encDs P = bs
                · have hZs := hZ3.out
                  rw [if_pos ⟨trivial, he⟩] at hZs
                  rw [decide_eq_true he] at heq
                  replace heq := hide heq
                  replace hZs := hide hZs
                  replace hP := hide hP
                  clear he
                  go_wp2_with fail
                  refine heq.out.mono ?_
                  rintro e w3 ⟨rfl, hE4⟩
                  go_wp2_with fail
                  go_ret2
                  rw [hZs.out]
                  refine ⟨hE3.out.trans hE4, read, B, d, hP.out.symm, by rw [← hjl.out]; rfl, hown3.out.ext hE4⟩
                · have hZs := hZ3.out
                  rw [if_neg (fun x => he x.2)] at hZs
                  rw [decide_eq_false he] at heq
                  replace heq := hide heq
                  replace hZs := hide hZs
                  clear he
                  go_wp2_with fail
                  refine heq.out.mono ?_
                  rintro e w3 ⟨rfl, hE4⟩
                  go_wp2_with fail
                  go_ret2
                  exact SdecP.no (hE3.out.trans hE4) hZs.out
end
section
open Go.RowKit
def EntD (w0 : World) (g : Nat) (x : En) (r : List UInt8) (W : World) (e : Ending) (W' : World) : Prop := e = .returned (.agg x.cells.toArray) ∧ RdD w0 g r W' ∧ Chg (fun k => k = g) W W'
set_option maxRecDepth 100000 in
theorem run_ptr3 {g i : Nat} (hi : i < 3) (W : World) : (Instr.index 231 (.agg #[.pointer (some ⟨g, 1, none⟩), .pointer (some ⟨g, 2, none⟩), .pointer (some ⟨g, 3, none⟩)]) (.int .i64 (i : Int))).run Tryz.prog W = .ok (.pointer (some ⟨g, i + 1, none⟩)) W := by
  rcases (show i = 0 ∨ i = 1 ∨ i = 2 by omega) with rfl | rfl | rfl
  · show _ = _
    kernel_rfl
  · show _ = _
    kernel_rfl
  · show _ = _
    kernel_rfl
def nRest (off len n : Nat) (r : List UInt8) (j : Nat) : List UInt8 := if j = 0 then vb off ++ (vb len ++ (vb n ++ r)) else if j = 1 then vb len ++ (vb n ++ r) else if j = 2 then vb n ++ r else r
def nThr (off len n j : Nat) : Nat := if j = 0 then off else if j = 1 then len else n
def nRow (t : List UInt8) (off len n j : Nat) : Array Value := #[.string ⟨t.toArray⟩, .int .i64 (if 0 < j then (off : Int) else 0), .int .i64 (if 1 < j then (len : Int) else 0), .int .i64 (if 2 < j then (n : Int) else 0)]
theorem nRest_step {off len n : Nat} {r : List UInt8} {j : Nat} (hj : j < 3) : nRest off len n r j = vb (nThr off len n j) ++ nRest off len n r (j + 1) := by
  rcases (show j = 0 ∨ j = 1 ∨ j = 2 by omega) with rfl | rfl | rfl <;> simp [nRest, nThr]
theorem nRow_step {t : List UInt8} {off len n : Nat} {j : Nat} (hj : j < 3) : (nRow t off len n j).setIfInBounds (j + 1) (.int .i64 (nThr off len n j : Int)) = nRow t off len n (j + 1) := by
  rcases (show j = 0 ∨ j = 1 ∨ j = 2 by omega) with rfl | rfl | rfl <;> simp [nRow, nThr]
theorem nRow_get (t : List UInt8) (off len n : Nat) {j : Nat} (hj : j < 3) : ∃ u, (nRow t off len n j)[j + 1]? = some u := ⟨_, Array.getElem?_eq_getElem (by show j + 1 < 4; omega)⟩
set_option maxRecDepth 100000 in
set_option maxHeartbeats 2000000 in
theorem dentry_any (w0 W : World) (g : Nat) (la : List UInt8) (x : En) (r : List UInt8) (h : RdD w0 g (enB la x ++ r) W) (hg : w0.heap.size ≤ g) (hx : okEn x) (hla : la.length ≤ 65) (hle : (enB la x ++ r).length ≤ 1000000000) :
    Calls Tryz.prog 98 #[.pointer (some ⟨g, 0, none⟩), .string ⟨la.toArray⟩] W fun e W' => EntD w0 g x r W e W' := by
  obtain ⟨t, off, len, n⟩ := x
  obtain ⟨b0, b1, b2, b3⟩ := hx
  simp only at b0 b1 b2 b3
  obtain ⟨k, hk⟩ : ∃ k, k = cpl la t := ⟨_, rfl⟩
  have hkt : k ≤ t.length := by rw [hk]; exact (cpl_le la t).2
  have hkl : k ≤ la.length := by rw [hk]; exact (cpl_le la t).1
  have htk : la.take k ++ t.drop k = t := by rw [hk, cpl_take la t]; exact List.take_append_drop _ _
  obtain ⟨R3, hR3⟩ : ∃ R3, R3 = vb off ++ (vb len ++ (vb n ++ r)) := ⟨_, rfl⟩
  have hform : enB la ⟨t, off, len, n⟩ ++ r = vb k ++ (txL (t.drop k) ++ R3) := by
    unfold enB
    rw [hk, hR3]
    simp
  rw [hform] at h hle
  have hl2 : (txL (t.drop k) ++ R3).length ≤ 1000000000 := by rw [List.length_append] at hle; omega
  have hl3 : R3.length ≤ 1000000000 := by rw [List.length_append] at hl2; omega
  have hn1 := hide (fun W h => dnumber_any w0 W g k (txL (t.drop k) ++ R3) 65 h hg (by omega) (by omega) hle)
  have ht2 := hide (fun W h => dtext_any w0 W g (t.drop k) R3 h hg (by rw [List.length_drop]; omega) hl2)
  have hn3 := hide (fun W q r h (hq : q ≤ 67108864) hl => dnumber_any w0 W g q r 67108864 h hg (by omega) (by omega) hl)
  have hhead := fun W => run_strheadz (l := la) hkl (z := (k : Int)) rfl W
  obtain ⟨ln, hln⟩ : ∃ ln, ln = la.length := ⟨_, rfl⟩
  have hsla : (⟨la.toArray⟩ : ByteArray).size = ln := by rw [hln]; exact ByteArray.size_mk_toArray la
  have hkn : ¬ (ln : Int) < (k : Int) := by omega
  have happ : (⟨(la.take k).toArray⟩ : ByteArray) ++ ⟨(t.drop k).toArray⟩ = ⟨t.toArray⟩ := by
    have e : (⟨(la.take k).toArray⟩ : ByteArray) ++ ⟨(t.drop k).toArray⟩ = ⟨(la.take k ++ t.drop k).toArray⟩ := by
      apply ByteArray.ext
      simp
    rw [e, htk]
  have hsz1 : (⟨(la.take k).toArray⟩ : ByteArray).size = k := by rw [ByteArray.size_mk_toArray, List.length_take]; omega
  obtain ⟨tn, htn⟩ : ∃ tn, tn = (t.drop k).length := ⟨_, rfl⟩
  have hsz2 : (⟨(t.drop k).toArray⟩ : ByteArray).size = tn := by rw [htn]; exact ByteArray.size_mk_toArray _
  have htn65 : tn ≤ 65 := by rw [htn, List.length_drop]; omega
  have hk65 : k ≤ 65 := by omega
  obtain ⟨W4, hW4⟩ : ∃ W4, W4 = W.alloc (.cells #[.string ⟨#[]⟩, .int .i64 0, .int .i64 0, .int .i64 0] 97) := ⟨_, rfl⟩
  obtain ⟨g4, hg4⟩ : ∃ g4, g4 = W.heap.size := ⟨_, rfl⟩
  have hr4 : Row W4 g4 97 #[.string ⟨#[]⟩, .int .i64 0, .int .i64 0, .int .i64 0] := by rw [hW4, hg4]; exact Row.new W _ _
  have hS4 : RdD w0 g (vb k ++ (txL (t.drop k) ++ R3)) W4 := by rw [hW4]; exact h.ext ((Ext.refl W).alloc _)
  have hC4 : Chg (fun k => k = g) W W4 := by rw [hW4]; exact Chg.of_ext ((Ext.refl W).alloc _) _
  have hgW : g < W.heap.size := by obtain ⟨_, _, q, _⟩ := h; exact q.lt
  have hgg : g4 ≠ g := by omega
  replace h := hide h
  replace hk := hide hk
  replace htk := hide htk
  replace hR3 := hide hR3
  replace hform := hide hform
  replace hln := hide hln
  replace htn := hide htn
  replace hr4 := hide hr4
  replace hS4 := hide hS4
  replace hC4 := hide hC4
  replace hW4 := hide hW4
  replace hg4 := hide hg4
  replace hle := hide hle
  replace hl2 := hide hl2
  replace hl3 := hide hl3
  go_enter Tryz.func98, Tryz.ntmps98
  go_wp2_with fail
  rw [← hW4.out, ← hg4.out]
  refine (hn1.out W4 hS4.out).mono ?_
  rintro e w5 ⟨rfl, hS5, hC5⟩
  have hr5 := hide (hC5.row hr4.out hgg)
  replace hC5 := hide (hC4.out.trans hC5 fun _ _ h => h)
  replace hS5 := hide hS5
  go_wp2_with fail
  have hgw5 : W.heap.size ≤ w5.heap.size := hC5.out.size
  have hg5l : W.heap.size < w5.heap.size := by have := hr5.out.lt; have := hg4.out; omega
  have hgW0 : w0.heap.size ≤ W.heap.size := by obtain ⟨_, _, _, _, q⟩ := h.out; exact q.size
  go_cut [6] (fun s6 wy => ∃ g6, s6 = .pointer (some ⟨g6, 0, none⟩) ∧ W.heap.size < g6 ∧ Hid (Row wy g6 97 #[.string ⟨t.toArray⟩, .int .i64 0, .int .i64 0, .int .i64 0]) ∧ Hid (RdD w0 g R3 wy) ∧ Hid (Row wy g4 97 #[.string ⟨#[]⟩, .int .i64 0, .int .i64 0, .int .i64 0]) ∧ Hid (Chg (fun k => k = g) W wy))
  case first =>
    have hS5d := hS5.out.ext (Ext.refl w5).drew
    have hS5e := hS5d.ext ((Ext.refl w5.drew).alloc (.cells #[.string ⟨#[]⟩, .int .i64 0, .int .i64 0, .int .i64 0] 97))
    have hnew : Row (w5.drew.alloc (.cells #[.string ⟨#[]⟩, .int .i64 0, .int .i64 0, .int .i64 0] 97)) w5.heap.size 97 #[.string ⟨#[]⟩, .int .i64 0, .int .i64 0, .int .i64 0] := Row.new w5.drew _ _
    have hne6 : w5.heap.size ≠ g := by omega
    have hr5d := hide (hr5.out.ext (Ext.refl w5).drew)
    have hr5e := hide (hr5d.out.alloc (.cells #[.string ⟨#[]⟩, .int .i64 0, .int .i64 0, .int .i64 0] 97))
    have hC5d := hide (hC5.out.trans (Chg.of_ext (Ext.refl w5).drew (fun k => k = g)) fun _ _ h => h)
    have hC5e := hide (hC5d.out.trans (Chg.of_ext ((Ext.refl w5.drew).alloc (.cells #[.string ⟨#[]⟩, .int .i64 0, .int .i64 0, .int .i64 0] 97)) (fun k => k = g)) fun _ _ h => h)
    replace hnew := hide hnew
    go_region_with ((go_at_call 155; refine (ht2.out _ (by first | exact hS5d | exact hS5e)).mono ?_; rintro e w6 ⟨rfl, hS6, hC6⟩; replace hS6 := hide hS6; (first | (have r6 := Chg.row hC6 hnew.out hne6; have c0 := r6.get; have f0 := r6.free; replace r6 := hide r6) | skip); replace hC6 := hide hC6))
    all_goals
      go_wp2_with fail
      go_meet
      case rel =>
        first
        | (have r6' := r6.out
           have hb1 := hC5e.out.trans hC6.out fun _ _ h => h
           have hrr := (((r6'.put 0 (.string ⟨t.toArray⟩)).put 1 (.int .i64 0)).put 2 (.int .i64 0)).put 3 (.int .i64 0)
           have hcc := (((Chg.of_set (S := fun k => k = w5.heap.size) w6 (a := ⟨w5.heap.size, 0, none⟩) (.string ⟨t.toArray⟩) rfl).trans (Chg.of_set (S := fun k => k = w5.heap.size) _ (a := ⟨w5.heap.size, 1, none⟩) (.int .i64 0) rfl) fun _ _ h => h).trans (Chg.of_set (S := fun k => k = w5.heap.size) _ (a := ⟨w5.heap.size, 2, none⟩) (.int .i64 0) rfl) fun _ _ h => h).trans (Chg.of_set (S := fun k => k = w5.heap.size) _ (a := ⟨w5.heap.size, 3, none⟩) (.int .i64 0) rfl) fun _ _ h => h
           have hr46 := hC6.out.row hr5e.out hgg
           refine ⟨w5.heap.size, rfl, hg5l, hide hrr, hide ?_, hide (hcc.row hr46 (fun e => ?_)), hide (hb1.trans hcc fun i hi e => by omega)⟩
           · obtain ⟨B, d, q1, q2, q3⟩ := hS6.out
             exact ⟨B, d, hcc.row q1 (fun e => hne6 e.symm), q2, q3.chg hcc fun i hi e => by omega⟩
           · have := hr5.out.lt
             omega)
        | (refine ⟨w6.heap.size, rfl, Nat.lt_of_lt_of_le hg5l hC6.out.size, hide (Row.new w6 _ _), hide (hS6.out.ext ((Ext.refl w6).alloc _)), hide ((hC6.out.row hr5d.out hgg).alloc _), hide ((hC5d.out.trans hC6.out fun _ _ h => h).trans (Chg.of_ext ((Ext.refl w6).alloc _) _) fun _ _ h => h)⟩)
  case rest =>
    obtain ⟨g6, rfl, hg6, hr6, hS6, hr46, hC6⟩ := hcut
    have hg6g : g6 ≠ g := by omega
    have hR36 : Hid (RdD w0 g (nRest off len n r 0) _) := hide (by have := hS6.out; rw [hR3.out] at this; exact this)
    have hr60 : Hid (Row _ g6 97 (nRow t off len n 0)) := hr6
    have hlr : (nRest off len n r 0).length ≤ 1000000000 := by have := hl3.out; rw [hR3.out] at this; exact this
    replace hlr := hide hlr
    clear hr6 hS6
    go_wp2_with fail
    go_loopw [29] (fun s29 wr => ∃ j : Nat, s29 = .int .i64 (j : Int) ∧ j ≤ 3 ∧ Hid (RdD w0 g (nRest off len n r j) wr) ∧ Hid (Row wr g6 97 (nRow t off len n j)) ∧ Hid (Row wr g4 97 #[.string ⟨#[]⟩, .int .i64 0, .int .i64 0, .int .i64 0]) ∧ Hid (Chg (fun k => k = g) W wr) ∧ Hid ((nRest off len n r j).length ≤ 1000000000)) (fun s29 _ => 3 - (intOf s29).toNat)
    case atStart => exact ⟨0, rfl, by omega, hR36, hr60, hr46, hC6, hlr⟩
    case round =>
      obtain ⟨j, rfl, hj, hS7, hr7, hr47, hC7, hl7⟩ := hrel
      by_cases hj3 : j < 3
      · have hx := fun W => run_ptr3 (g := g6) hj3 W
        have hj3i : (j : Int) < 3 := by omega
        have hst := nRest_step (off := off) (len := len) (n := n) (r := r) hj3
        have hS8 := hS7.out
        have hl8 := hl7.out
        rw [hst] at hS8 hl8
        have hrw := nRow_step (t := t) (off := off) (len := len) (n := n) hj3
        obtain ⟨u, hu⟩ := nRow_get t off len n hj3
        obtain ⟨v, hv⟩ : ∃ v, v = nThr off len n j := ⟨_, rfl⟩
        have hv6 : v ≤ 67108864 := by rw [hv]; unfold nThr; split; exact b1; split; exact b2; exact b3
        rw [← hv] at hS8 hl8 hrw
        have hl9 : (nRest off len n r (j + 1)).length ≤ 1000000000 := by rw [List.length_append] at hl8; omega
        have hc := hide (hn3.out wr v _ hS8 hv6 hl8)
        replace hl9 := hide hl9
        replace hst := hide hst
        replace hrw := hide hrw
        replace hu := hide hu
        replace hv := hide hv
        clear hS8 hl8
        go_wp2_with fail
        refine hc.out.mono ?_
        rintro e w8 ⟨rfl, hS9, hC9⟩
        have hr8 := hC9.row hr7.out hg6g
        have hr48 := hC9.row hr47.out hgg
        have hC8 := hC7.out.trans hC9 fun _ _ h => h
        have c1 := hr8.cell (j + 1) hu.out
        have f1 := hr8.free (j + 1)
        replace hr8 := hide hr8
        replace hr48 := hide hr48
        replace hC8 := hide hC8
        replace hS9 := hide hS9
        replace hC9 := hide hC9
        go_wp2_with fail
        have hcs := Chg.of_set (S := fun k => k = g6) w8 (a := ⟨g6, j + 1, none⟩) (.int .i64 (v : Int)) rfl
        have hr10 := hr8.out.put (j + 1) (.int .i64 (v : Int))
        rw [hrw.out] at hr10
        have hS10 : RdD w0 g (nRest off len n r (j + 1)) (w8.setCell ⟨g6, j + 1, none⟩ (.int .i64 (v : Int))) := by
          obtain ⟨B, d, q1, q2, q3⟩ := hS9.out
          exact ⟨B, d, hcs.row q1 (fun e => hg6g e.symm), q2, q3.chg hcs fun i hi e => by omega⟩
        have hg46 : g4 ≠ g6 := by have := hg4.out; omega
        exact ⟨⟨j + 1, by congr 1, by omega, hide hS10, hide hr10, hide (hr48.out.away hg46 _), hide (hC8.out.trans hcs fun i hi e => by omega), hl9⟩, by simp only [intOf]; omega⟩
      · have hj3i : ¬ (j : Int) < 3 := by omega
        have hj3e : j = 3 := by omega
        have hr8 : Row wr g6 97 #[.string ⟨t.toArray⟩, .int .i64 (off : Int), .int .i64 (len : Int), .int .i64 (n : Int)] := by
          have := hr7.out
          rw [hj3e] at this
          exact this
        have hS8 : RdD w0 g r wr := by
          have := hS7.out
          rw [hj3e] at this
          exact this
        have hg1 := hr8.get
        have hg2 := hr47.out.get
        have hg3 := hr47.out.free
        replace hr8 := hide hr8
        replace hS8 := hide hS8
        replace hj3e := hide hj3e
        go_wp2_with fail
        have hrf := (((hr47.out.put 0 (.string ⟨t.toArray⟩)).put 1 (.int .i64 (off : Int))).put 2 (.int .i64 (len : Int))).put 3 (.int .i64 (n : Int))
        have hcc := (((Chg.of_set (S := fun k => k = g4) wr (a := ⟨g4, 0, none⟩) (.string ⟨t.toArray⟩) rfl).trans (Chg.of_set (S := fun k => k = g4) _ (a := ⟨g4, 1, none⟩) (.int .i64 (off : Int)) rfl) fun _ _ h => h).trans (Chg.of_set (S := fun k => k = g4) _ (a := ⟨g4, 2, none⟩) (.int .i64 (len : Int)) rfl) fun _ _ h => h).trans (Chg.of_set (S := fun k => k = g4) _ (a := ⟨g4, 3, none⟩) (.int .i64 (n : Int)) rfl) fun _ _ h => h
        have hg4e := hg4.out
        refine bodyPost_ret (results_cell_row rfl _ _ g4 97 #[.string ⟨t.toArray⟩, .int .i64 (off : Int), .int .i64 (len : Int), .int .i64 (n : Int)] (0, 0) _ rfl hrf Tryz.underlying97 rfl (by kernel_rfl)) rfl ⟨rfl, ?_, hC7.out.trans hcc fun i hi e => by omega⟩
        obtain ⟨B, d, q1, q2, q3⟩ := hS8.out
        exact ⟨B, d, hcc.row q1 (fun e => hgg e.symm), q2, q3.chg hcc fun i hi e => by omega⟩
end
section
open Go.RowKit
def midE (l : List En) (i : Nat) (la : List UInt8) : List UInt8 := blockE la ((l.drop i).take (16 - i % 16)) ++ partsE (chunkL 16 (l.drop (i + (16 - i % 16))))
def restE (l : List En) (i : Nat) : List UInt8 := if i % 16 = 0 then partsE (chunkL 16 (l.drop i)) else midE l i (lastT l i)
theorem restE_zero (l : List En) : encEs l = vb l.length ++ restE l 0 := by
  unfold restE encEs
  rw [if_pos (by omega), List.drop_zero]
theorem restE_head {l : List En} {i : Nat} (h : i % 16 = 0) (hi : i < l.length) : ∃ q, restE l i = vb q ++ midE l i [] ∧ q ≤ (midE l i []).length := by
  have hne : l.drop i ≠ [] := fun e => by
    have := congrArg List.length e
    rw [List.length_drop, List.length_nil] at this
    omega
  refine ⟨(blockE [] ((l.drop i).take 16)).length, ?_, ?_⟩
  · unfold restE midE
    rw [if_pos h, h, chunkL_cons hne (by omega), List.drop_drop]
    show vb _ ++ blockE [] _ ++ partsE _ = _
    rw [List.append_assoc]
  · unfold midE
    rw [h, List.length_append]
    exact Nat.le_add_right _ _
theorem midE_step {l : List En} {i : Nat} {x : En} (hx : l[i]? = some x) (la : List UInt8) : midE l i la = enB la x ++ restE l (i + 1) := by
  unfold midE
  have h16 : i % 16 < 16 := Nat.mod_lt _ (by omega)
  rw [drop_step hx, show 16 - i % 16 = (15 - i % 16) + 1 by omega, List.take_succ_cons]
  show (enB la x ++ blockE x.t _) ++ _ = _
  rw [List.append_assoc]
  congr 1
  unfold restE
  by_cases h : (i + 1) % 16 = 0
  · rw [if_pos h, show 15 - i % 16 = 0 by omega, List.take_zero, blockE, List.nil_append, show i + (0 + 1) = i + 1 by omega]
  · rw [if_neg h, lastT_succ hx]
    unfold midE
    rw [show 16 - (i + 1) % 16 = 15 - i % 16 by omega, show i + (15 - i % 16 + 1) = i + 1 + (15 - i % 16) by omega]
set_option maxRecDepth 100000 in
theorem elemEn : Elem Tryz.prog 94 97 4 40 := ⟨Tryz.underlying94, ⟨_, _, rfl, rfl, rfl, rfl, rfl⟩, by omega, by omega⟩
def DicR (w : World) (g : Nat) (l : List En) : Prop := ∃ A c, Row w g 180 #[.slice A l.length c, .bool true] ∧ Cells w A (encells l)
theorem DicR.ext {w w1 : World} {g : Nat} {l : List En} (h : DicR w g l) (hE : Ext w w1) : DicR w1 g l := by
  obtain ⟨A, c, h1, h2⟩ := h
  exact ⟨A, c, h1.ext hE, h2.ext hE⟩
def NewD (w : World) (l : List En) (e : Ending) (w' : World) : Prop := ∃ g, e = .returned (.tuple #[.pointer (some ⟨g, 0, none⟩), .int .i64 0]) ∧ DicR w' g l ∧ Ext w w'
set_option maxRecDepth 100000 in
set_option maxHeartbeats 4000000 in
theorem dOpen_any (A : Option Addr) (n c : Nat) (bs : List UInt8) (w : World) (l : List En) (h : In8 w A n c bs) (hok : OkEs l) (hbs : bs = encEs l) (hle : n ≤ 100000000) :
    Calls Tryz.prog 52 #[.slice A n c] w fun e w' => NewD w l e w' := by
  obtain ⟨m, hm⟩ : ∃ m, m = l.length := ⟨_, rfl⟩
  have hm6 : m ≤ 262144 := by rw [hm]; exact hok.few
  have hbs2 : bs = vb m ++ restE l 0 := by rw [hbs, hm]; exact restE_zero l
  have hnl : n = (vb m ++ restE l 0).length := by rw [← hbs2]; exact h.len
  obtain ⟨g, hg⟩ : ∃ g, g = w.heap.size := ⟨_, rfl⟩
  obtain ⟨W0, hW0⟩ : ∃ W0, W0 = w.alloc (.cells #[.slice A n c, .bool false] 176) := ⟨_, rfl⟩
  have hE0 : Ext w W0 := by rw [hW0]; exact (Ext.refl w).alloc _
  have hS0 : RdD w g (vb m ++ restE l 0) W0 := by
    refine ⟨A, c, ?_, by rw [← hnl, ← hbs2]; exact h, hE0⟩
    rw [← hnl, hW0, hg]
    exact Row.new w _ _
  have hnum := hide (fun W q r z h1 h2 h3 h4 => dnumber_any w W g q r z h1 (by omega) h2 h3 h4)
  have hent := hide (fun W la x r h1 h2 h3 h4 => dentry_any w W g la x r h1 (by omega) h2 h3 h4)
  have hl0 : (restE l 0).length ≤ n := by rw [hnl, List.length_append]; omega
  replace hS0 := hide hS0
  replace hE0 := hide hE0
  replace hok := hide hok
  replace hbs := hide hbs
  replace hbs2 := hide hbs2
  replace hm := hide hm
  replace hW0 := hide hW0
  replace hg := hide hg
  replace h := hide h
  replace hnl := hide hnl
  replace hl0 := hide hl0
  go_enter Tryz.func52, Tryz.ntmps52
  go_wp2_with fail
  rw [← hW0.out, ← hg.out]
  refine (hnum.out W0 m (restE l 0) 262144 hS0.out (by omega) (by omega) (by rw [← hnl.out]; omega)).mono ?_
  rintro e w1 ⟨rfl, hS1, hC1⟩
  replace hS1 := hide hS1
  replace hC1 := hide hC1
  go_wp2_with fail
  go_loopw [6, 7, 8] (fun s6 s7 s8 wr => ∃ (i c6 : Nat) (A6 : Option Addr) (la : List UInt8), s6 = .slice A6 i c6 ∧ s7 = .string ⟨la.toArray⟩ ∧ s8 = .int .i64 (i : Int) ∧ i ≤ m ∧ Hid (i % 16 ≠ 0 → la = lastT l i) ∧ Hid (la.length ≤ 65) ∧ Hid ((restE l i).length ≤ n) ∧ Hid (RdD w g (restE l i) wr) ∧ Hid (wr.ownsRow w.heap.size 97 4 (.slice A6 i c6) i (encells (l.take i)))) (fun _ _ s8 _ => m - (intOf s8).toNat)
  case atStart => exact ⟨0, 0, none, [], rfl, rfl, rfl, by omega, hide (fun h => by omega), hide (by simp), hl0, hS1, hide (World.ownsRow_nil _ _ _ _)⟩
  case round =>
    obtain ⟨i, c6, A6, la, rfl, rfl, rfl, him, hla, hlal, hrl, hS, hown⟩ := hrel
    obtain ⟨wv, rfl⟩ : ∃ wv, wv = wr := ⟨_, rfl⟩
    obtain ⟨B0, d0, r0, _, _⟩ := hS.out
    have kb := r0.cell 1 rfl
    clear r0
    by_cases hin : i < m
    · obtain ⟨x, hxi⟩ : ∃ x, l[i]? = some x := ⟨_, List.getElem?_eq_getElem (by rw [← hm.out]; exact hin)⟩
      have hxo := (hok.out.each x (List.mem_of_getElem? hxi)).1
      obtain ⟨mo, hmo⟩ : ∃ mo, mo = i % 16 := ⟨_, rfl⟩
      have hmoi : (i : Int) % 16 = (mo : Int) := by omega
      have hmo0 : ((mo : Int) == 0) = decide (mo = 0) := by rw [Bool.eq_iff_iff, beq_iff_eq, decide_eq_true_iff]; omega
      replace hmo := hide hmo
      replace hxi := hide hxi
      go_upto_if 29 with (fail)
      go_cut [7] (fun s7 wx => ∃ la2 : List UInt8, s7 = .string ⟨la2.toArray⟩ ∧ Hid (la2.length ≤ 65) ∧ Hid ((midE l i la2).length ≤ n) ∧ Hid (RdD w g (midE l i la2) wx) ∧ Hid (wx.ownsRow w.heap.size 97 4 (.slice A6 i c6) i (encells (l.take i))))
      case first =>
        by_cases hm0 : mo = 0
        · obtain ⟨q, hq, hq2⟩ := restE_head (l := l) (by rw [← hmo.out]; exact hm0) (by rw [← hm.out]; exact hin)
          have hS2 := hS.out
          have hrl2 := hrl.out
          rw [hq] at hS2 hrl2
          have hml : (midE l i []).length ≤ n := by rw [List.length_append] at hrl2; omega
          have hc := hide (hnum.out wv q _ (n : Int) hS2 (by omega) (by omega) (by omega))
          replace hq := hide hq
          replace hq2 := hide hq2
          replace hml := hide hml
          clear hS2 hrl2
          go_wp2_with fail
          refine hc.out.mono ?_
          rintro e w3 ⟨rfl, hS3, hC3⟩
          have hown3 := hC3.owns hown.out fun gb hgb e => by
            obtain ⟨B, d, q1, _, _⟩ := hS.out
            exact owns_unlike hown.out q1 (by decide) (by rw [hgb, e])
          replace hS3 := hide hS3
          replace hown3 := hide hown3
          replace hC3 := hide hC3
          go_wp2_with fail
          go_meet
          case rel => exact ⟨[], rfl, hide (by simp), hml, hS3, hown3⟩
        · have hre : restE l i = midE l i la := by
            unfold restE
            rw [if_neg (by rw [← hmo.out]; exact hm0), hla.out (by rw [← hmo.out]; exact hm0)]
          have hS3 : Hid (RdD w g (midE l i la) wv) := hide (by rw [← hre]; exact hS.out)
          have hml : Hid ((midE l i la).length ≤ n) := hide (by rw [← hre]; exact hrl.out)
          replace hre := hide hre
          go_wp2_with fail
          go_meet
          case rel => exact ⟨la, rfl, hlal, hml, hS3, hown⟩
      case rest =>
        obtain ⟨la2, rfl, hla2, hml, hS3, hown3⟩ := hcut
        have hst := midE_step hxi.out la2
        have hS4 := hS3.out
        have hml2 := hml.out
        rw [hst] at hS4 hml2
        have hrl4 : (restE l (i + 1)).length ≤ n := by rw [List.length_append] at hml2; omega
        have hc := hide (hent.out _ la2 x _ hS4 hxo hla2.out (by omega))
        have hnx := lastT_succ hxi.out
        have htk : encells (l.take (i + 1)) = encells (l.take i) ++ x.cells := by
          rw [List.take_add_one, hxi.out]
          unfold encells
          rw [List.flatMap_append]
          simp
        obtain ⟨t, off, len, nn⟩ := x
        have ht65 : t.length ≤ 65 := hxo.1
        simp only at hnx
        replace hst := hide hst
        replace hrl4 := hide hrl4
        replace hnx := hide hnx
        replace htk := hide htk
        replace ht65 := hide ht65
        clear hS4 hml2
        go_wp2_with fail
        refine hc.out.mono ?_
        rintro e w4 ⟨he, hS5, hC5⟩
        have he : e = .returned (.agg #[.string ⟨t.toArray⟩, .int .i64 (off : Int), .int .i64 (len : Int), .int .i64 (nn : Int)]) := he
        subst he
        have hown5 := hC5.owns hown3.out fun gb hgb e => by
          obtain ⟨B, d, q1, _, _⟩ := hS3.out
          exact owns_unlike hown3.out q1 (by decide) (by rw [hgb, e])
        obtain ⟨g9, hg9⟩ : ∃ g9, g9 = w4.heap.size := ⟨_, rfl⟩
        obtain ⟨W9, hW9⟩ : ∃ W9, W9 = w4.alloc (.cells #[.string ⟨t.toArray⟩, .int .i64 (off : Int), .int .i64 (len : Int), .int .i64 (nn : Int)] 97) := ⟨_, rfl⟩
        have hr9 : Row W9 g9 97 #[.string ⟨t.toArray⟩, .int .i64 (off : Int), .int .i64 (len : Int), .int .i64 (nn : Int)] := by rw [hW9, hg9]; exact Row.new w4 _ _
        have hS9 : RdD w g (restE l (i + 1)) W9 := by rw [hW9]; exact hS5.ext ((Ext.refl w4).alloc _)
        have hown9 : W9.ownsRow w.heap.size 97 4 (.slice A6 i c6) i (encells (l.take i)) := by rw [hW9]; exact ((Ext.refl w4).alloc _).owns hown5
        have hr9d := hr9.ext (Ext.refl W9).drew
        have hS9d := hS9.ext (Ext.refl W9).drew
        have hown9d := (Ext.refl W9).drew.owns hown9
        have hsz9 : w.heap.size ≤ W9.drew.heap.size := by obtain ⟨_, _, _, _, q⟩ := hS9d; exact q.size
        have hblk : ∀ k, (Value.slice A6 i c6).ownBlock = some k → k < g9 := fun k hk => by
          obtain ⟨cs, hrr, _⟩ := owns_row hown5 hk
          rw [hg9]
          exact hrr.lt
        have hcs := hr9d.get
        have hS0 : W9.drew.cell? ⟨g9, 0, none⟩ = some (.string ⟨t.toArray⟩) ∧ W9.drew.cell? ⟨g9, 1, none⟩ = some (.int .i64 (off : Int)) ∧ W9.drew.cell? ⟨g9, 2, none⟩ = some (.int .i64 (len : Int)) ∧ W9.drew.cell? ⟨g9, 3, none⟩ = some (.int .i64 (nn : Int)) := ⟨hr9d.cell 0 rfl, hr9d.cell 1 rfl, hr9d.cell 2 rfl, hr9d.cell 3 rfl⟩
        have hEa : Ext W9.drew (W9.drew.alloc (.cells #[.string ⟨t.toArray⟩, .int .i64 (off : Int), .int .i64 (len : Int), .int .i64 (nn : Int)] 97)) := (Ext.refl _).alloc _
        have hSa : (W9.drew.alloc (.cells #[.string ⟨t.toArray⟩, .int .i64 (off : Int), .int .i64 (len : Int), .int .i64 (nn : Int)] 97)).cell? ⟨g9, 0, none⟩ = some (.string ⟨t.toArray⟩) ∧ (W9.drew.alloc (.cells #[.string ⟨t.toArray⟩, .int .i64 (off : Int), .int .i64 (len : Int), .int .i64 (nn : Int)] 97)).cell? ⟨g9, 1, none⟩ = some (.int .i64 (off : Int)) ∧ (W9.drew.alloc (.cells #[.string ⟨t.toArray⟩, .int .i64 (off : Int), .int .i64 (len : Int), .int .i64 (nn : Int)] 97)).cell? ⟨g9, 2, none⟩ = some (.int .i64 (len : Int)) ∧ (W9.drew.alloc (.cells #[.string ⟨t.toArray⟩, .int .i64 (off : Int), .int .i64 (len : Int), .int .i64 (nn : Int)] 97)).cell? ⟨g9, 3, none⟩ = some (.int .i64 (nn : Int)) := ⟨hEa.cell hS0.1, hEa.cell hS0.2.1, hEa.cell hS0.2.2.1, hEa.cell hS0.2.2.2⟩
        have hgr : ∀ w8, W9.drew.grownBy w8 (Value.slice A6 i c6).ownBlock → w8.cell? ⟨g9, 0, none⟩ = some (.string ⟨t.toArray⟩) ∧ w8.cell? ⟨g9, 1, none⟩ = some (.int .i64 (off : Int)) ∧ w8.cell? ⟨g9, 2, none⟩ = some (.int .i64 (len : Int)) ∧ w8.cell? ⟨g9, 3, none⟩ = some (.int .i64 (nn : Int)) := fun w8 hg8 => by
          have hr8 := Row.grown (w := W9.drew) hr9d hg8 (fun e => by
            have := hblk _ e.symm
            omega)
          exact ⟨hr8.cell 0 rfl, hr8.cell 1 rfl, hr8.cell 2 rfl, hr8.cell 3 rfl⟩
        replace hr9d := hide hr9d
        replace hS9d := hide hS9d
        replace hown9d := hide hown9d
        replace hW9 := hide hW9
        replace hg9 := hide hg9
        replace hS0 := hide hS0
        replace hSa := hide hSa
        replace hgr := hide hgr
        replace hblk := hide hblk
        replace hcs := hide hcs
        clear hr9 hS9 hown9 hown5 hS5 hC5 hEa
        go_wp2_with fail
        rw [← hW9.out, ← hg9.out]
        go_region_held3 (fun x => x.cell? ⟨g9, 0, none⟩ = some (.string ⟨t.toArray⟩) ∧ x.cell? ⟨g9, 1, none⟩ = some (.int .i64 (off : Int)) ∧ x.cell? ⟨g9, 2, none⟩ = some (.int .i64 (len : Int)) ∧ x.cell? ⟨g9, 3, none⟩ = some (.int .i64 (nn : Int))) (first | exact hS0.out | exact hSa.out | exact hgr.out _ ‹_›) (first | (refine step_appZ (us := [.string ⟨t.toArray⟩, .int .i64 (off : Int), .int .i64 (len : Int), .int .i64 (nn : Int)]) (m := 1) elemEn rfl hown9d.out rfl (.tmp 37) (.tmp 39) rfl rfl rfl rfl (one_of rfl) (by omega) hsz9 (fun A8 c8 w8 ho8 hg8 => ?_)))
        go_wp2_with fail
        have hS8 : RdD w g (restE l (i + 1)) w8 := by
          obtain ⟨B, d, q1, q2, q3⟩ := hS9d.out
          refine ⟨B, d, q1.grown hg8 fun e => owns_unlike hown9d.out q1 (by decide) e.symm, q2, q3.grown hg8 fun k hk => ?_⟩
          obtain ⟨_, _, hb⟩ := owns_row hown9d.out hk
          exact hb
        have ho8' : w8.ownsRow w.heap.size 97 4 (.slice A8 (i + 1) c8) (i + 1) (encells (l.take (i + 1))) := by rw [htk.out]; exact ho8
        exact ⟨⟨i + 1, c8, A8, t, rfl, rfl, rfl, by omega, hide (fun _ => hnx.out.symm), ht65, hrl4, hide hS8, hide ho8'⟩, by simp only [intOf]; omega⟩
    · obtain rfl : i = m := by omega
      have hown2 := hown.out
      rw [List.take_of_length_le (by rw [← hm.out]; exact Nat.le_refl _)] at hown2
      have hcp := owns_cap hown2
      have hcl := Cells.of_own hown2
      have hEv : Ext w wv := by obtain ⟨_, _, _, _, q⟩ := hS.out; exact q
      have hcm := hide (fun W (hE : Ext wv W ∧ W.cell? ⟨g, 1, none⟩ = some (Value.bool false)) => (dmay_any l A6 i c6 W hm.out (hcl.ext hE.1) hok.out).mono fun e W' ⟨he, hE'⟩ => And.intro he (show Ext wv W' ∧ W'.cell? ⟨g, 1, none⟩ = some (Value.bool false) from ⟨hE.1.trans hE', hE'.cell hE.2⟩))
      have hcb := hide (fun W (hE : Ext wv W ∧ W.cell? ⟨g, 1, none⟩ = some (Value.bool false)) => (dbytes_any l A6 i c6 W hm.out (hcl.ext hE.1) hcp.2 hcp.1 hok.out).mono fun e W' (h : OwnB _ _ _ e W') => show ∃ A5 c5, e = .returned (.slice A5 (encEs l).length c5) ∧ Bs W' A5 (encEs l) ∧ Ext wv W' ∧ W'.cell? ⟨g, 1, none⟩ = some (Value.bool false) from by
        obtain ⟨A5, c5, he, ho, hE'⟩ := h
        exact ⟨A5, c5, he, ho.2.cells, hE.1.trans hE', hE'.cell hE.2⟩)
      have hS0 : Ext wv wv.drew ∧ wv.drew.cell? ⟨g, 1, none⟩ = some (Value.bool false) := ⟨(Ext.refl wv).drew, kb⟩
      have hcv : ∀ W, (Ext wv W ∧ W.cell? ⟨g, 1, none⟩ = some (Value.bool false)) → (convert 25 9 (.slice A n c)).run Tryz.prog W = .ok (.string ⟨bs.toArray⟩) W := fun W hE => run_str ((h.out.bytes.ext hEv).ext hE.1) n c h.out.len
      have hbb : (bs == bs) = true := beq_self_eq_true bs
      obtain ⟨nb, hnb⟩ : ∃ nb, nb = (encEs l).length := ⟨_, rfl⟩
      rw [← hbs.out] at hcb hnb
      rw [← hnb] at hcb
      replace hown2 := hide hown2
      replace hcp := hide hcp
      replace hcl := hide hcl
      replace hEv := hide hEv
      replace hS0 := hide hS0
      replace hnb := hide hnb
      go_wp2_with fail
      refine wp_region_held_drew (S := (fun x => Ext wv x ∧ x.cell? ⟨g, 1, none⟩ = some (Value.bool false))) (by kernel_rfl) hS0.out (fun hHeld => ?_)
      refine wpAnyH_take (i := 0) (v := .pointer (some ⟨g, 0, none⟩)) rfl (by kernel_rfl) (by kernel_rfl) (by kernel_rfl) (fun _ _ _ h => h) (Or.inl ⟨by rfl, ?_⟩) (by assumption) ?_
      · intro w' hSw
        (try dsimp only at hSw)
        go_simp
        try with_reducible rfl
        all_goals omega
      (try simp only [Act.put, List.setIfInBounds_toArray, List.set_cons_zero, List.set_cons_succ, List.getElem_toArray, List.getElem_cons_zero, List.getElem_cons_succ])
      refine wpAnyH_take (i := 1) (v := .pointer (some ⟨g, 0, none⟩)) rfl (by kernel_rfl) (by kernel_rfl) (by kernel_rfl) (fun _ _ _ h => h) (Or.inl ⟨by rfl, ?_⟩) (by assumption) ?_
      · intro w' hSw
        (try dsimp only at hSw)
        go_simp
        try with_reducible rfl
        all_goals omega
      (try simp only [Act.put, List.setIfInBounds_toArray, List.set_cons_zero, List.set_cons_succ, List.getElem_toArray, List.getElem_cons_zero, List.getElem_cons_succ])
      refine wpAnyH_take (i := 2) (v := .pointer (some ⟨g, 1, none⟩)) rfl (by kernel_rfl) (by kernel_rfl) (by kernel_rfl) (fun _ _ _ h => h) (Or.inl ⟨by rfl, ?_⟩) (by assumption) ?_
      · intro w' hSw
        (try dsimp only at hSw)
        go_simp
        try with_reducible rfl
        all_goals omega
      (try simp only [Act.put, List.setIfInBounds_toArray, List.set_cons_zero, List.set_cons_succ, List.getElem_toArray, List.getElem_cons_zero, List.getElem_cons_succ])
      refine wpAnyH_take (i := 3) (v := .bool false) rfl (by kernel_rfl) (by kernel_rfl) (by kernel_rfl) (fun _ _ _ h => h) (Or.inl ⟨by rfl, ?_⟩) (by assumption) ?_
      · intro w' hSw
        (try dsimp only at hSw)
        obtain ⟨_, hSc⟩ := hSw
        go_simp
        try with_reducible rfl
        all_goals omega
      (try simp only [Act.put, List.setIfInBounds_toArray, List.set_cons_zero, List.set_cons_succ, List.getElem_toArray, List.getElem_cons_zero, List.getElem_cons_succ])
      refine wpAnyH_take (i := 4) (v := .bool false) rfl (by kernel_rfl) (by kernel_rfl) (by kernel_rfl) (fun _ _ _ h => h) (Or.inl ⟨by rfl, ?_⟩) (by assumption) ?_
      · intro w' hSw
        (try dsimp only at hSw)
        go_simp
        try with_reducible rfl
        all_goals omega
      (try simp only [Act.put, List.setIfInBounds_toArray, List.set_cons_zero, List.set_cons_succ, List.getElem_toArray, List.getElem_cons_zero, List.getElem_cons_succ])
      refine wpAnyH_take (i := 5) (v := .slice A6 i c6) rfl (by kernel_rfl) (by kernel_rfl) (by kernel_rfl) (fun _ _ _ h => h) (Or.inl ⟨by rfl, ?_⟩) (by assumption) ?_
      · intro w' hSw
        (try dsimp only at hSw)
        go_simp
        try with_reducible rfl
        all_goals omega
      (try simp only [Act.put, List.setIfInBounds_toArray, List.set_cons_zero, List.set_cons_succ, List.getElem_toArray, List.getElem_cons_zero, List.getElem_cons_succ])
      refine wpAnyH_ready (rs := [6]) (by kernel_rfl) (by simp) ?_
      refine AllReadyH.cons rfl (fun K hK => ?_) AllReadyH.nil
      (first | go_at_call 85 | (go_simp; go_at_call 85)); (refine (hcm.out _ ‹_›).mono ?_; rintro e w5 ⟨rfl, hT5⟩)
      refine hK.out _ _ ?_ (fun hHeld1 => ?_)
      · exact hT5
      clear hK K
      (try simp only [Act.put, List.setIfInBounds_toArray, List.set_cons_zero, List.set_cons_succ, List.getElem_toArray, List.getElem_cons_zero, List.getElem_cons_succ])
      refine wpAnyH_take (i := 7) (v := .bool false) rfl (by kernel_rfl) (by kernel_rfl) (by kernel_rfl) (fun _ _ _ h => h) (Or.inl ⟨by rfl, ?_⟩) (by assumption) ?_
      · intro w' hSw
        (try dsimp only at hSw)
        go_simp
        try with_reducible rfl
        all_goals omega
      (try simp only [Act.put, List.setIfInBounds_toArray, List.set_cons_zero, List.set_cons_succ, List.getElem_toArray, List.getElem_cons_zero, List.getElem_cons_succ])
      refine wpAnyH_take (i := 8) (v := .bool false) rfl (by kernel_rfl) (by kernel_rfl) (by kernel_rfl) (fun _ _ _ h => h) (Or.inl ⟨by rfl, ?_⟩) (by assumption) ?_
      · intro w' hSw
        (try dsimp only at hSw)
        go_simp
        try with_reducible rfl
        all_goals omega
      (try simp only [Act.put, List.setIfInBounds_toArray, List.set_cons_zero, List.set_cons_succ, List.getElem_toArray, List.getElem_cons_zero, List.getElem_cons_succ])
      refine wpAnyH_take (i := 9) (v := .bool false) rfl (by kernel_rfl) (by kernel_rfl) (by kernel_rfl) (fun _ _ _ h => h) (Or.inl ⟨by rfl, ?_⟩) (by assumption) ?_
      · intro w' hSw
        (try dsimp only at hSw)
        go_simp
        try with_reducible rfl
        all_goals omega
      (try simp only [Act.put, List.setIfInBounds_toArray, List.set_cons_zero, List.set_cons_succ, List.getElem_toArray, List.getElem_cons_zero, List.getElem_cons_succ])
      refine wpAnyH_take (i := 10) (v := .slice A6 i c6) rfl (by kernel_rfl) (by kernel_rfl) (by kernel_rfl) (fun _ _ _ h => h) (Or.inl ⟨by rfl, ?_⟩) (by assumption) ?_
      · intro w' hSw
        (try dsimp only at hSw)
        go_simp
        try with_reducible rfl
        all_goals omega
      (try simp only [Act.put, List.setIfInBounds_toArray, List.set_cons_zero, List.set_cons_succ, List.getElem_toArray, List.getElem_cons_zero, List.getElem_cons_succ])
      refine wpAnyH_take (i := 13) (v := .slice A n c) rfl (by kernel_rfl) (by kernel_rfl) (by kernel_rfl) (fun _ _ _ h => h) (Or.inl ⟨by rfl, ?_⟩) (by assumption) ?_
      · intro w' hSw
        (try dsimp only at hSw)
        go_simp
        try with_reducible rfl
        all_goals omega
      (try simp only [Act.put, List.setIfInBounds_toArray, List.set_cons_zero, List.set_cons_succ, List.getElem_toArray, List.getElem_cons_zero, List.getElem_cons_succ])
      refine wpAnyH_take (i := 14) (v := .string ⟨bs.toArray⟩) rfl (by kernel_rfl) (by kernel_rfl) (by kernel_rfl) (fun _ _ _ h => h) (Or.inl ⟨by rfl, ?_⟩) (by assumption) ?_
      · intro w' hSw
        (try dsimp only at hSw)
        have hcw := hcv w' hSw
        go_simp
        try with_reducible rfl
        all_goals omega
      (try simp only [Act.put, List.setIfInBounds_toArray, List.set_cons_zero, List.set_cons_succ, List.getElem_toArray, List.getElem_cons_zero, List.getElem_cons_succ])
      refine wpAnyH_ready (rs := [11]) (by kernel_rfl) (by simp) ?_
      refine AllReadyH.cons rfl (fun K hK => ?_) AllReadyH.nil
      (first | go_at_call 86 | (go_simp; go_at_call 86)); (refine (hcb.out _ ‹_›).mono ?_; rintro e w6 ⟨A5, c5, rfl, hb5, hT6⟩)
      have hcw := run_str hb5 nb c5 hnb.out
      refine hK.out _ _ ?_ (fun hHeld2 => ?_)
      · exact hT6
      clear hK K
      (try simp only [Act.put, List.setIfInBounds_toArray, List.set_cons_zero, List.set_cons_succ, List.getElem_toArray, List.getElem_cons_zero, List.getElem_cons_succ])
      refine wpAnyH_ready (rs := [12]) (by kernel_rfl) (by simp) ?_
      refine AllReadyH.cons rfl (fun K hK => ?_) AllReadyH.nil
      go_simp
      refine hK.out _ _ ?_ (fun hHeld3 => ?_)
      · exact hT6
      clear hK K
      (try simp only [Act.put, List.setIfInBounds_toArray, List.set_cons_zero, List.set_cons_succ, List.getElem_toArray, List.getElem_cons_zero, List.getElem_cons_succ])
      refine wpAnyH_take (i := 15) (v := .bool false) rfl (by kernel_rfl) (by kernel_rfl) (by kernel_rfl) (fun _ _ _ h => h) (Or.inl ⟨by rfl, ?_⟩) (by assumption) ?_
      · intro w' hSw
        (try dsimp only at hSw)
        go_simp
        try with_reducible rfl
        all_goals omega
      (try simp only [Act.put, List.setIfInBounds_toArray, List.set_cons_zero, List.set_cons_succ, List.getElem_toArray, List.getElem_cons_zero, List.getElem_cons_succ])
      refine wpAnyH_take (i := 16) (v := .bool false) rfl (by kernel_rfl) (by kernel_rfl) (by kernel_rfl) (fun _ _ _ h => h) (Or.inl ⟨by rfl, ?_⟩) (by assumption) ?_
      · intro w' hSw
        (try dsimp only at hSw)
        go_simp
        try with_reducible rfl
        all_goals omega
      (try simp only [Act.put, List.setIfInBounds_toArray, List.set_cons_zero, List.set_cons_succ, List.getElem_toArray, List.getElem_cons_zero, List.getElem_cons_succ])
      refine wpAnyH_done (by kernel_rfl) ?_ _
      have hE6 := hide hT6.1
      clear hT5 hT6 hHeld
      go_wp2_with fail
      go_ret2
      refine ⟨w6.heap.size, rfl, ⟨A6, c6, ?_, (hcl.out.ext hE6.out).ext ((Ext.refl w6).alloc _)⟩, (hEv.out.trans hE6.out).alloc _⟩
      rw [← hm.out]
      exact Row.new w6 _ _
end
end Go.Proofs.YtkdcnhnaiknaaaaGreat
