/- loggialaw16: ManifestBack, walked. -/
import Derived.Test.YtijnomopcpgikaaDoorMlA
import Derived.Test.YtijnomopcpgikaaDoorMfStore
namespace Go.Proofs.YtijnomopcpgikaaDoor
open Go.RowKit

theorem dec_enc (l : List UInt8) : decC l = 160 ∨ (decC l = 0 ∧ checkP (decF l) = 0 ∧ encV (decF l) = l) := by
  unfold decC decF
  cases hd : decM l with
  | none => exact .inl rfl
  | some m =>
    obtain ⟨_, hc, he⟩ := decM_some hd
    refine .inr ⟨rfl, hc, ?_⟩
    show encV m = l
    unfold encV
    rw [if_pos hc, he]
theorem dec_of_enc {m : Mf} (hi : m.In) (hc : checkP m = 0) : decF (encM m) = m ∧ decC (encM m) = 0 := by
  unfold decF decC
  rw [decM_of hi hc rfl]
  exact ⟨rfl, rfl⟩
theorem Buf.at_set {w : World} {base : Nat} {e : TypeId} {A : Option Addr} {n c : Nat} {xs : List Value} (h : Buf w base e A n c xs) {i : Nat} (hi : i < n) :
    ∃ g, A = some ⟨g, 0, none⟩ ∧ base ≤ g ∧ g < w.heap.size ∧ (∀ v, xs[i]? = some v → w.cell? ⟨g, i, none⟩ = some v) ∧ (∀ j, w.frozen? ⟨g, j, none⟩ = false) ∧ ∀ v, Buf (w.setCell ⟨g, i, none⟩ v) base e A n c (xs.set i v) := by
  obtain ⟨h1, h2, h3⟩ := h
  rcases h3 with ⟨_, h3⟩ | ⟨g, cur, rfl, hb, hr, hs, ht⟩
  · omega
  · refine ⟨g, rfl, hb, hr.lt, fun v hv => ?_, fun j => hr.free j, fun v => ⟨by rw [List.length_set]; exact h1, h2, .inr ⟨g, _, rfl, hb, hr.put i v, by simp; omega, ?_⟩⟩⟩
    · rw [cell_of_row w g i cur e (0, 0) hr]
      rw [← ht, List.getElem?_take, if_pos hi] at hv
      simpa using hv
    · rw [← ht, Array.toList_setIfInBounds, List.take_set]
theorem set_split {l : List UInt8} {i : Nat} (hi : i < l.length) (d : UInt8) : ∃ p q, l = p ++ l[i] :: q ∧ l.set i d = p ++ d :: q := by
  refine ⟨l.take i, l.drop (i + 1), ?_, ?_⟩
  · rw [← List.drop_eq_getElem_cons hi, List.take_append_drop]
  · rw [List.set_eq_take_append_cons_drop, if_pos hi]
theorem dec_turned {m : Mf} {i : Nat} (hi : i < (encM m).length) {d : UInt8} (hne : d ≠ (encM m)[i]) : decC ((encM m).set i d) = 160 := by
  obtain ⟨p, q, h1, h2⟩ := set_split hi d
  unfold decC
  rw [h2, decM_turned h1 hne]
  rfl
set_option maxRecDepth 100000 in
set_option maxHeartbeats 8000000 in
theorem back_law (m0 : Mf) (A B : Option Addr) (c n c2 a b : Nat) (l0 : List UInt8) (w : World) (hm : m0.Ok w w.heap.size A c) (hb : In8 w B n c2 l0) (ha : a < 65536) (hb8 : b < 256) :
    Calls Tryd.prog 4 #[m0.val A c, .slice B n c2, .int .u16 a, .int .u8 b] w fun e w' => e = .returned (.bool true) ∧ Ext w w' := by
  have hfew := fun W (hE : Ext w W) => few_any w.heap.size m0 A c W (hm.ext hE)
  obtain ⟨m, hmd⟩ : ∃ m, m = m0.few := ⟨_, rfl⟩
  have hok := hm.few
  have hr0 : Row (w.alloc (.cells #[.slice A m0.ps.length c, .int .i64 m0.floor, .int .i64 m0.done, .int .i64 m0.log, .int .i64 m0.next, .int .i64 m0.now] 24)) w.heap.size 24 #[.slice A m0.ps.length c, .int .i64 m0.floor, .int .i64 m0.done, .int .i64 m0.log, .int .i64 m0.next, .int .i64 m0.now] := Row.new w _ _
  have hE0 : Ext w (w.alloc (.cells #[.slice A m0.ps.length c, .int .i64 m0.floor, .int .i64 m0.done, .int .i64 m0.log, .int .i64 m0.next, .int .i64 m0.now] 24)) := (Ext.refl w).alloc _
  have hcut := fun W => cut_any B n c2 l0 w W hb
  have haw := hide (awake_any)
  rw [← hmd] at hok hfew
  unfold Mf.val at hfew ⊢
  replace hfew := hide hfew
  replace hcut := hide hcut
  clear hm hmd
  go_enter Tryd.func4, Tryd.ntmps4
  go_wp2_with fail
  refine (hfew.out _ hE0).mono ?_
  rintro e w1 ⟨rfl, hE1⟩
  have hr1 := hr0.ext hE1
  have q1 := setM_row hr1 m A c
  have q2 := setM_ext (hE0.trans hE1) (Nat.le_refl _) m A c
  have f0 := fun i => hr1.free i
  have x0 : w1.cell? ⟨w.heap.size, 0, none⟩ = some (.slice A m0.ps.length c) := hr1.cell 0 rfl
  have x1 : w1.cell? ⟨w.heap.size, 1, none⟩ = some (.int .i64 m0.floor) := hr1.cell 1 rfl
  have x2 : w1.cell? ⟨w.heap.size, 2, none⟩ = some (.int .i64 m0.done) := hr1.cell 2 rfl
  have x3 : w1.cell? ⟨w.heap.size, 3, none⟩ = some (.int .i64 m0.log) := hr1.cell 3 rfl
  have x4 : w1.cell? ⟨w.heap.size, 4, none⟩ = some (.int .i64 m0.next) := hr1.cell 4 rfl
  have x5 : w1.cell? ⟨w.heap.size, 5, none⟩ = some (.int .i64 m0.now) := hr1.cell 5 rfl
  have xl := hr1.lt
  clear hr0 hE0
  go_wp2_with fail
  obtain ⟨w2, hw2⟩ : ∃ w2, w2 = setM w1 w.heap.size m A c := ⟨_, rfl⟩
  rw [← hw2] at q1 q2
  unfold setM at hw2
  rw [← hw2]
  clear hw2 f0 x0 x1 x2 x3 x4 x5 xl hr1 hE1
  unfold Mf.cells at q1
  have y0 : w2.cell? ⟨w.heap.size, 0, none⟩ = some (.slice A m.ps.length c) := q1.cell 0 rfl
  have y1 : w2.cell? ⟨w.heap.size, 1, none⟩ = some (.int .i64 m.floor) := q1.cell 1 rfl
  have y2 : w2.cell? ⟨w.heap.size, 2, none⟩ = some (.int .i64 m.done) := q1.cell 2 rfl
  have y3 : w2.cell? ⟨w.heap.size, 3, none⟩ = some (.int .i64 m.log) := q1.cell 3 rfl
  have y4 : w2.cell? ⟨w.heap.size, 4, none⟩ = some (.int .i64 m.next) := q1.cell 4 rfl
  have y5 : w2.cell? ⟨w.heap.size, 5, none⟩ = some (.int .i64 m.now) := q1.cell 5 rfl
  have hen := encode_any w.heap.size m A c w2 (hok.ext q2)
  unfold Mf.val at hen
  replace hen := hide hen
  replace q1 := hide q1
  replace q2 := hide q2
  refine hen.out.mono ?_
  rintro e w3 ⟨hE3, hyes, hno⟩
  have hE23 := hide (q2.out.trans hE3)
  have q3 := hide (q1.out.ext hE3)
  replace hyes := hide hyes
  replace hno := hide hno
  clear y0 y1 y2 y3 y4 y5
  by_cases hc : checkP m = 0
  · obtain ⟨A3, c3, rfl, hb3⟩ := hyes.out hc
    have hmin := hok.in_
    obtain ⟨hdf, hdk⟩ := dec_of_enc hmin hc
    have hN4 : 8 ≤ (encM m).length := by have h1 := encB_len m; have h2 := encM_len m; omega
    have hN9 := encM_short hmin hc
    have hdc3 := decode_any A3 (encM m).length c3 (encM m) w3 hb3.in8 (by omega)
    have hturn := fun i (hi : i < (encM m).length) d hne => dec_turned (m := m) (i := i) hi (d := d) hne
    obtain ⟨X, hX⟩ : ∃ X, X = encM m := ⟨_, rfl⟩
    rw [← hX] at hdf hdk hN4 hN9 hdc3 hb3 hturn ⊢
    obtain ⟨N, hN⟩ : ∃ N, N = X.length := ⟨_, rfl⟩
    rw [← hN] at hN4 hN9 hdc3 hb3 ⊢
    replace hN := hide hN
    replace hX := hide hX
    replace hdf := hide hdf
    replace hdk := hide hdk
    replace hdc3 := hide hdc3
    replace hturn := hide hturn
    clear hc hmin
    go_wp2_with fail
    refine hdc3.out.mono ?_
    rintro e w4 he4
    obtain ⟨A4, c4, rfl, ho4, hE4⟩ := he4.val
    clear he4
    rw [hdf.out] at ho4 ⊢
    rw [hdk.out]
    unfold Mf.val
    have hE24 := hide (hE23.out.trans hE4)
    obtain ⟨W4, hW4⟩ : ∃ W4, W4 = w4.alloc (.cells #[.slice A4 m.ps.length c4, .int .i64 m.floor, .int .i64 m.done, .int .i64 m.log, .int .i64 m.next, .int .i64 m.now] 24) := ⟨_, rfl⟩
    have hE44 : Ext w4 W4 := by rw [hW4]; exact (Ext.refl w4).alloc _
    have hu : Row W4 w4.heap.size 24 #[.slice A4 m.ps.length c4, .int .i64 m.floor, .int .i64 m.done, .int .i64 m.log, .int .i64 m.next, .int .i64 m.now] := by rw [hW4]; exact Row.new w4 _ _
    have hq4 := (q3.out.ext (hE4.trans hE44))
    have u0 : W4.cell? ⟨w4.heap.size, 0, none⟩ = some (.slice A4 m.ps.length c4) := hu.cell 0 rfl
    have u1 : W4.cell? ⟨w4.heap.size, 1, none⟩ = some (.int .i64 m.floor) := hu.cell 1 rfl
    have u2 : W4.cell? ⟨w4.heap.size, 2, none⟩ = some (.int .i64 m.done) := hu.cell 2 rfl
    have u3 : W4.cell? ⟨w4.heap.size, 3, none⟩ = some (.int .i64 m.log) := hu.cell 3 rfl
    have u4 : W4.cell? ⟨w4.heap.size, 4, none⟩ = some (.int .i64 m.next) := hu.cell 4 rfl
    have u5 : W4.cell? ⟨w4.heap.size, 5, none⟩ = some (.int .i64 m.now) := hu.cell 5 rfl
    have v0 : W4.cell? ⟨w.heap.size, 0, none⟩ = some (.slice A m.ps.length c) := hq4.cell 0 rfl
    have v1 : W4.cell? ⟨w.heap.size, 1, none⟩ = some (.int .i64 m.floor) := hq4.cell 1 rfl
    have v2 : W4.cell? ⟨w.heap.size, 2, none⟩ = some (.int .i64 m.done) := hq4.cell 2 rfl
    have v3 : W4.cell? ⟨w.heap.size, 3, none⟩ = some (.int .i64 m.log) := hq4.cell 3 rfl
    have v4 : W4.cell? ⟨w.heap.size, 4, none⟩ = some (.int .i64 m.next) := hq4.cell 4 rfl
    have v5 : W4.cell? ⟨w.heap.size, 5, none⟩ = some (.int .i64 m.now) := hq4.cell 5 rfl
    have hsm := rsame_any w4.heap.size w.heap.size m m A4 A c4 c W4 (ho4.ext hE44) (hok.ext (hE24.out.trans hE44))
    rw [sameP_refl] at hsm
    unfold Mf.val at hsm
    have hE25 := hide (hE24.out.trans hE44)
    have hb4 := hide (hb3.ext (hE4.trans hE44))
    subst hW4
    replace hsm := hide hsm
    clear hu hq4
    go_wp2_with fail
    refine hsm.out.mono ?_
    rintro e w5 ⟨rfl, hE5⟩
    have hE26 := hide (hE25.out.trans hE5)
    have hb5 := hide (hb4.out.ext hE5)
    have hby : Buf (w5.alloc (.cells #[] 5)) w5.heap.size 5 (some ⟨w5.heap.size, 0, none⟩) 0 0 [] := buf_new w5 [] 5 (by simp)
    have hEa : Ext w5 (w5.alloc (.cells #[] 5)) := (Ext.refl w5).alloc _
    have hb6 := hb5.out.ext hEa
    have hs5 := hEa.size
    clear u0 u1 u2 u3 u4 u5 v0 v1 v2 v3 v4 v5
    obtain ⟨i, hi⟩ : ∃ i, i = a % N := ⟨_, rfl⟩
    have hiN : i < N := by rw [hi]; exact Nat.mod_lt _ (by omega)
    have hai : (a : Int) % (N : Int) = (i : Int) := by rw [hi]; omega
    have hN0 : ((N : Int) == 0) = false := by simp; omega
    replace hi := hide hi
    have hil : i < X.length := by rw [← hN.out]; exact hiN
    obtain ⟨x, hx⟩ : ∃ x, x = X[i].toNat := ⟨_, rfl⟩
    have hx8 : x < 256 := by rw [hx]; exact X[i].toNat_lt
    have hxi : (X.map B8)[i]? = some (.int .u8 (x : Int)) := by rw [List.getElem?_map, List.getElem?_eq_getElem hil, hx]; rfl
    have hxor := u8_xor_nat x b hx8 hb8
    have hd8 : x ^^^ b < 256 := Nat.xor_lt_two_pow (n := 8) hx8 hb8
    obtain ⟨z, hz⟩ : ∃ z, z = x ^^^ b := ⟨_, rfl⟩
    rw [← hz] at hxor hd8
    have hset : (X.map B8).set i (.int .u8 (z : Int)) = (X.set i (UInt8.ofNat z)).map B8 := by
      rw [List.map_set]
      congr 1
      unfold B8
      rw [UInt8.toNat_ofNat', Nat.mod_eq_of_lt hd8]
    have hne : b ≠ 0 → decC (X.set i (UInt8.ofNat z)) = 160 := fun hb0 => by
      have := hturn.out i hil (UInt8.ofNat z)
      refine this fun e => hb0 ?_
      have e2 := congrArg UInt8.toNat e
      rw [UInt8.toNat_ofNat', Nat.mod_eq_of_lt hd8, hz, ← hx] at e2
      have e3 := congrArg (x ^^^ ·) e2
      simp only [← Nat.xor_assoc, Nat.xor_self, Nat.zero_xor] at e3
      exact e3
    replace hxi := hide hxi
    replace hset := hide hset
    replace hne := hide hne
    replace hby := hide hby
    replace hb6 := hide hb6
    have hEa' := hide hEa
    clear hil hx hz hEa hturn hdc3 hsm
    have hEz := hide (fun (w6 w7 : World) (g : Nat) (hE : Ext w5 w6) (hg : w5.heap.size ≤ g) (v : Value) => (hE26.out.trans hE).setCell (p := ⟨g, i, none⟩) (Nat.le_trans hE26.out.size hg) v)
    go_wp2_with (at_builtin; refine wpList_buf elemB hby.out hb6.out.cells (.tmp 48) (.tmp 49) rfl rfl rfl rfl rfl (by rw [List.length_map]; exact hN.out.symm) (bytes_one _) (by omega) hs5 (fun A6 c6 w6 hb7 _ hE7 _ => ?_); rw [Nat.zero_add, List.nil_append] at hb7; obtain ⟨g, hg, hg1, hg2, hg3, hg4, hg5⟩ := hb7.at_set hiN; subst hg; have hcell := hg3 _ hxi.out; have hfr := hg4 i; have hg6 := hide hg5; have hE8 := hide (hE7 w5 hEa'.out (Nat.le_refl _)); clear hg3 hg4 hg5 hb7 hE7)
    have hb8' := hg6.out (.int .u8 (z : Int))
    rw [hset.out] at hb8'
    have hdc7 := decode_any (some ⟨g, 0, none⟩) N c6 (X.set i (UInt8.ofNat z)) _ hb8'.in8 (by omega)
    have hE29 := hide (hEz.out w6 w6 g hE8.out hg1 (.int .u8 (z : Int)))
    refine hdc7.mono ?_
    rintro e w9 he9
    obtain ⟨A9, c9, rfl, ho9, hE9⟩ := he9.val
    clear he9 hdc7
    have hE30 := hide (hE29.out.trans hE9)
    obtain ⟨kk, hkk⟩ : ∃ kk, kk = decC (X.set i (UInt8.ofNat z)) := ⟨_, rfl⟩
    rw [← hkk] at hne ⊢
    replace hkk := hide hkk
    obtain ⟨d9, hd9⟩ : ∃ d9, d9 = decF (X.set i (UInt8.ofNat z)) := ⟨_, rfl⟩
    rw [← hd9]
    replace hd9 := hide hd9
    clear hcell hfr hb8'
    unfold Mf.val
    have hEr := hide (hE30.out.alloc (.cells #[.slice A9 d9.ps.length c9, .int .i64 d9.floor, .int .i64 d9.done, .int .i64 d9.log, .int .i64 d9.next, .int .i64 d9.now] 24))
    obtain ⟨wr, hwr⟩ : ∃ wr, wr = w9.alloc (.cells #[.slice A9 d9.ps.length c9, .int .i64 d9.floor, .int .i64 d9.done, .int .i64 d9.log, .int .i64 d9.next, .int .i64 d9.now] 24) := ⟨_, rfl⟩
    rw [← hwr] at hEr
    by_cases hb0 : b = 0
    · subst hb0
      subst hwr
      go_wp2_with fail
      refine (hcut.out _).mono ?_
      rintro e wq ⟨⟨rfl, hin⟩, hwq⟩
      rw [← hwq] at hEr
      clear hwq
      obtain ⟨l, hl⟩ : ∃ l, l = cutL l0 := ⟨_, rfl⟩
      have hl9 : l.length ≤ 900 := by rw [hl]; unfold cutL; rw [List.length_take]; omega
      rw [← hl] at hin ⊢
      clear hl
      have hdc := decode_any B l.length c2 l _ (hin.ext hEr.out) (by omega)
      replace hdc := hide hdc
      go_wp2_with fail
      refine hdc.out.mono ?_
      rintro e w5 he5
      obtain ⟨A5, c5, rfl, ho5, hE5⟩ := he5.val
      clear he5
      have hE25 := hide (hEr.out.trans hE5)
      have hds := dec_enc l
      obtain ⟨d, hd⟩ : ∃ d, d = decF l := ⟨_, rfl⟩
      rw [← hd] at ho5 hds ⊢
      obtain ⟨k, hk⟩ : ∃ k, k = decC l := ⟨_, rfl⟩
      rw [← hk] at hds ⊢
      replace hd := hide hd
      replace hk := hide hk
      obtain ⟨W5, hW5⟩ : ∃ W5, W5 = w5.alloc (.cells #[.slice A5 d.ps.length c5, .int .i64 d.floor, .int .i64 d.done, .int .i64 d.log, .int .i64 d.next, .int .i64 d.now] 24) := ⟨_, rfl⟩
      have hE55 : Ext w5 W5 := by rw [hW5]; exact (Ext.refl w5).alloc _
      have hen2 := encode_any w5.heap.size d A5 c5 W5 (ho5.ext hE55)
      rw [hW5] at hen2
      unfold Mf.val at hen2 ⊢
      replace hen2 := hide hen2
      replace hds := hide hds
      replace hW5 := hide hW5
      go_wp2_with fail
      refine hen2.out.mono ?_
      rw [← hW5.out]
      rintro e w6 he6
      obtain ⟨A6, c6, rfl, hi6, hE6⟩ := he6.val
      clear he6
      have hE26 := hide (hE25.out.trans (hE55.trans hE6))
      have hs1 := run_str hi6.bytes (encV d).length c6 rfl
      have hs2 := run_str ((hin.ext hE26.out).bytes) l.length c2 rfl
      obtain ⟨ln, hln⟩ : ∃ ln, ln = (encV d).length := ⟨_, rfl⟩
      rw [← hln] at hs1 ⊢
      obtain ⟨j, hj⟩ : ∃ j, j = checkP d := ⟨_, rfl⟩
      rw [← hj] at ⊢
      clear hln
      rcases hds.out with hk1 | ⟨hk0, hc0, he0⟩
      · rw [hk1]
        clear hj hds
        go_wp2_with fail
        refine (haw.out _).mono ?_
        rintro e w8 ⟨rfl, hE8⟩
        go_wp2_with fail
        go_ret
        exact ⟨rfl, hE26.out.trans hE8⟩
      · rw [hk0]
        have hj0 : j = 0 := hj.trans hc0
        rw [hj0]
        have hbq : (encV d == l) = true := by rw [he0]; simp
        clear hj hds hj0 hk0 hc0 he0
        go_wp2_with fail
        refine (haw.out _).mono ?_
        rintro e w8 ⟨rfl, hE8⟩
        go_wp2_with fail
        go_ret
        exact ⟨rfl, hE26.out.trans hE8⟩
    · have hk160 := hne.out hb0
      subst hk160
      have hbn : ((b : Int) != 0) = true := by simp; omega
      subst hwr
      go_wp2_with fail
      refine (hcut.out _).mono ?_
      rintro e wq ⟨⟨rfl, hin⟩, hwq⟩
      rw [← hwq] at hEr
      clear hwq
      obtain ⟨l, hl⟩ : ∃ l, l = cutL l0 := ⟨_, rfl⟩
      have hl9 : l.length ≤ 900 := by rw [hl]; unfold cutL; rw [List.length_take]; omega
      rw [← hl] at hin ⊢
      clear hl
      have hdc := decode_any B l.length c2 l _ (hin.ext hEr.out) (by omega)
      replace hdc := hide hdc
      go_wp2_with fail
      refine hdc.out.mono ?_
      rintro e w5 he5
      obtain ⟨A5, c5, rfl, ho5, hE5⟩ := he5.val
      clear he5
      have hE25 := hide (hEr.out.trans hE5)
      have hds := dec_enc l
      obtain ⟨d, hd⟩ : ∃ d, d = decF l := ⟨_, rfl⟩
      rw [← hd] at ho5 hds ⊢
      obtain ⟨k, hk⟩ : ∃ k, k = decC l := ⟨_, rfl⟩
      rw [← hk] at hds ⊢
      replace hd := hide hd
      replace hk := hide hk
      obtain ⟨W5, hW5⟩ : ∃ W5, W5 = w5.alloc (.cells #[.slice A5 d.ps.length c5, .int .i64 d.floor, .int .i64 d.done, .int .i64 d.log, .int .i64 d.next, .int .i64 d.now] 24) := ⟨_, rfl⟩
      have hE55 : Ext w5 W5 := by rw [hW5]; exact (Ext.refl w5).alloc _
      have hen2 := encode_any w5.heap.size d A5 c5 W5 (ho5.ext hE55)
      rw [hW5] at hen2
      unfold Mf.val at hen2 ⊢
      replace hen2 := hide hen2
      replace hds := hide hds
      replace hW5 := hide hW5
      go_wp2_with fail
      refine hen2.out.mono ?_
      rw [← hW5.out]
      rintro e w6 he6
      obtain ⟨A6, c6, rfl, hi6, hE6⟩ := he6.val
      clear he6
      have hE26 := hide (hE25.out.trans (hE55.trans hE6))
      have hs1 := run_str hi6.bytes (encV d).length c6 rfl
      have hs2 := run_str ((hin.ext hE26.out).bytes) l.length c2 rfl
      obtain ⟨ln, hln⟩ : ∃ ln, ln = (encV d).length := ⟨_, rfl⟩
      rw [← hln] at hs1 ⊢
      obtain ⟨j, hj⟩ : ∃ j, j = checkP d := ⟨_, rfl⟩
      rw [← hj] at ⊢
      clear hln
      rcases hds.out with hk1 | ⟨hk0, hc0, he0⟩
      · rw [hk1]
        clear hj hds
        go_wp2_with fail
        refine (haw.out _).mono ?_
        rintro e w8 ⟨rfl, hE8⟩
        go_wp2_with fail
        go_ret
        exact ⟨rfl, hE26.out.trans hE8⟩
      · rw [hk0]
        have hj0 : j = 0 := hj.trans hc0
        rw [hj0]
        have hbq : (encV d == l) = true := by rw [he0]; simp
        clear hj hds hj0 hk0 hc0 he0
        go_wp2_with fail
        refine (haw.out _).mono ?_
        rintro e w8 ⟨rfl, hE8⟩
        go_wp2_with fail
        go_ret
        exact ⟨rfl, hE26.out.trans hE8⟩
  · have he := hno.out hc
    subst he
    have hcn : ((checkP m : Int) == 0) = false := by simp; omega
    obtain ⟨k9, hk9⟩ : ∃ k, k = checkP m := ⟨_, rfl⟩
    rw [← hk9] at hcn ⊢
    clear hk9 hc
    obtain ⟨wr, rfl⟩ : ∃ wr, wr = w3 := ⟨_, rfl⟩
    have hEr := hE23
    go_wp2_with fail
    refine (hcut.out _).mono ?_
    rintro e wq ⟨⟨rfl, hin⟩, hwq⟩
    rw [← hwq] at hEr
    clear hwq
    obtain ⟨l, hl⟩ : ∃ l, l = cutL l0 := ⟨_, rfl⟩
    have hl9 : l.length ≤ 900 := by rw [hl]; unfold cutL; rw [List.length_take]; omega
    rw [← hl] at hin ⊢
    clear hl
    have hdc := decode_any B l.length c2 l _ (hin.ext hEr.out) (by omega)
    replace hdc := hide hdc
    go_wp2_with fail
    refine hdc.out.mono ?_
    rintro e w5 he5
    obtain ⟨A5, c5, rfl, ho5, hE5⟩ := he5.val
    clear he5
    have hE25 := hide (hEr.out.trans hE5)
    have hds := dec_enc l
    obtain ⟨d, hd⟩ : ∃ d, d = decF l := ⟨_, rfl⟩
    rw [← hd] at ho5 hds ⊢
    obtain ⟨k, hk⟩ : ∃ k, k = decC l := ⟨_, rfl⟩
    rw [← hk] at hds ⊢
    replace hd := hide hd
    replace hk := hide hk
    obtain ⟨W5, hW5⟩ : ∃ W5, W5 = w5.alloc (.cells #[.slice A5 d.ps.length c5, .int .i64 d.floor, .int .i64 d.done, .int .i64 d.log, .int .i64 d.next, .int .i64 d.now] 24) := ⟨_, rfl⟩
    have hE55 : Ext w5 W5 := by rw [hW5]; exact (Ext.refl w5).alloc _
    have hen2 := encode_any w5.heap.size d A5 c5 W5 (ho5.ext hE55)
    rw [hW5] at hen2
    unfold Mf.val at hen2 ⊢
    replace hen2 := hide hen2
    replace hds := hide hds
    replace hW5 := hide hW5
    go_wp2_with fail
    refine hen2.out.mono ?_
    rw [← hW5.out]
    rintro e w6 he6
    obtain ⟨A6, c6, rfl, hi6, hE6⟩ := he6.val
    clear he6
    have hE26 := hide (hE25.out.trans (hE55.trans hE6))
    have hs1 := run_str hi6.bytes (encV d).length c6 rfl
    have hs2 := run_str ((hin.ext hE26.out).bytes) l.length c2 rfl
    obtain ⟨ln, hln⟩ : ∃ ln, ln = (encV d).length := ⟨_, rfl⟩
    rw [← hln] at hs1 ⊢
    obtain ⟨j, hj⟩ : ∃ j, j = checkP d := ⟨_, rfl⟩
    rw [← hj] at ⊢
    clear hln
    rcases hds.out with hk1 | ⟨hk0, hc0, he0⟩
    · rw [hk1]
      clear hj hds
      go_wp2_with fail
      refine (haw.out _).mono ?_
      rintro e w8 ⟨rfl, hE8⟩
      go_wp2_with fail
      go_ret
      exact ⟨rfl, hE26.out.trans hE8⟩
    · rw [hk0]
      have hj0 : j = 0 := hj.trans hc0
      rw [hj0]
      have hbq : (encV d == l) = true := by rw [he0]; simp
      clear hj hds hj0 hk0 hc0 he0
      go_wp2_with fail
      refine (haw.out _).mono ?_
      rintro e w8 ⟨rfl, hE8⟩
      go_wp2_with fail
      go_ret
      exact ⟨rfl, hE26.out.trans hE8⟩
end Go.Proofs.YtijnomopcpgikaaDoor
