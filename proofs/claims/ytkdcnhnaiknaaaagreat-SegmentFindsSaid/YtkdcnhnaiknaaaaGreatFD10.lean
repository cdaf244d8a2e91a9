/- Texts of one proof, joined. -/
import Derived.Test.YtkdcnhnaiknaaaaGreatFD09
import Derived.Test.YtkdcnhnaiknaaaaGreatFD08
import Derived.Test.YtkdcnhnaiknaaaaGreatFD05
import Derived.Test.YtkdcnhnaiknaaaaGreatFD04
import Derived.Test.YtkdcnhnaiknaaaaGreatFD06
import Derived.Test.YtkdcnhnaiknaaaaGreatFD03
import Derived.Test.YtkdcnhnaiknaaaaGreatFD02
set_option linter.unusedSimpArgs false
set_option linter.unusedVariables false
namespace Go.Proofs.YtkdcnhnaiknaaaaGreat
section
open Go.RowKit
inductive Bk (k : Nat) : List TmV → List TmV → Prop
  | nil : Bk k [] []
  | last (X S : List TmV) : 0 < X.length → X.length ≤ k → Std X S → Bk k X S
  | cons (X S d e : List TmV) : X.length = k → Std X S → 0 < d.length → Bk k d e → Bk k (X ++ d) (S ++ e)
inductive BdS (k : Nat) : List TmV → List TmV → Prop
  | nil : BdS k [] []
  | snoc (d e X S : List TmV) : BdS k d e → X.length = k → Std X S → BdS k (d ++ X) (e ++ S)
theorem Bk.len {k : Nat} {d e : List TmV} (h : Bk k d e) : e.length = d.length := by
  induction h with
  | nil => rfl
  | last X S _ _ h => exact h.2.len
  | cons X S d e _ h _ _ ih => rw [List.length_append, List.length_append, ih, h.2.len]
theorem BdS.len {k : Nat} {d e : List TmV} (h : BdS k d e) : e.length = d.length := by
  induction h with
  | nil => rfl
  | snoc d e X S _ _ h ih => rw [List.length_append, List.length_append, ih, h.2.len]
theorem Bk.empty {k : Nat} {e : List TmV} (h : Bk k [] e) : e = [] := List.length_eq_zero_iff.1 h.len
theorem Bk.push {k : Nat} {X S d e : List TmV} (hk : 0 < k) (hX : X.length = k) (hS : Std X S) (h : Bk k d e) : Bk k (X ++ d) (S ++ e) := by
  by_cases hd : d = []
  · subst hd
    rw [h.empty, List.append_nil, List.append_nil]
    exact .last X S (by omega) (by omega) hS
  · exact .cons X S d e hX hS (List.length_pos_iff.2 hd) h
theorem BdS.bk {k : Nat} {d e : List TmV} (hk : 0 < k) (h : BdS k d e) : ∀ {d' e' : List TmV}, Bk k d' e' → Bk k (d ++ d') (e ++ e') := by
  induction h with
  | nil => exact fun h => h
  | snoc d e X S _ hX hS ih =>
    intro d' e' h
    rw [List.append_assoc, List.append_assoc]
    exact ih (Bk.push hk hX hS h)
theorem Bk.two {k : Nat} {d e : List TmV} (h : Bk k d e) (hk : 0 < k) (hl : 2 * k ≤ d.length) : ∃ X S Y T d' e', d = X ++ (Y ++ d') ∧ e = S ++ (T ++ e') ∧ X.length = k ∧ Y.length = k ∧ Std X S ∧ Std Y T ∧ Bk k d' e' := by
  cases h with
  | nil => simp at hl; omega
  | last X S h1 h2 h3 => omega
  | cons X S d e hX hS hd h2 =>
    rw [List.length_append] at hl
    cases h2 with
    | nil => simp at hd
    | last Y T h1 h3 h4 => exact ⟨X, S, d, e, [], [], by simp, by simp, hX, by omega, hS, h4, .nil⟩
    | cons Y T d' e' hY hT hd' h3 => exact ⟨X, S, Y, T, d', e', rfl, rfl, hX, hY, hS, hT, h3⟩
theorem Bk.few {k : Nat} {d e : List TmV} (h : Bk k d e) (hl : d.length < 2 * k) : (d.length ≤ k ∧ Bk (2 * k) d e) ∨ (∃ X S Y T, d = X ++ Y ∧ e = S ++ T ∧ X.length = k ∧ 0 < Y.length ∧ Std X S ∧ Std Y T) := by
  cases h with
  | nil => exact .inl ⟨Nat.zero_le _, .nil⟩
  | last X S h1 h2 h3 => exact .inl ⟨h2, .last _ _ h1 (by omega) h3⟩
  | cons X S d e hX hS hd h2 =>
    rw [List.length_append] at hl
    cases h2 with
    | nil => simp at hd
    | last Y T h1 h3 h4 => exact .inr ⟨X, S, d, e, rfl, rfl, hX, h1, hS, h4⟩
    | cons Y T d' e' hY hT hd' h3 => rw [List.length_append] at hl; omega
theorem Bk.whole {k : Nat} {d e : List TmV} (h : Bk k d e) (hl : d.length ≤ k) : Std d e := by
  cases h with
  | nil => exact ⟨List.Pairwise.nil, Stb.refl _⟩
  | last X S h1 h2 h3 => exact h3
  | cons X S d e hX hS hd h2 => rw [List.length_append] at hl; omega
set_option maxRecDepth 100000 in
set_option maxHeartbeats 4000000 in
theorem stable_any (g c : Nat) (D : List TmV) (w : World) (hTR : TR w g D) (hle : D.length ≤ 268435456) :
    Calls Tryz.prog 179 #[.slice (some ⟨g, 0, none⟩) D.length c, .int .i64 (D.length : Int), cmpV] w fun e w' => e = .returned (.tuple #[]) ∧ ∃ E, Std D E ∧ TR w' g E ∧ Chg (fun k => k = g) w w' := by
  obtain ⟨n, hn⟩ : ∃ n, n = D.length := ⟨_, rfl⟩
  have hins : ∀ (a b : Nat) (E P X Q : List TmV) (x : World), TR x g E → E.length = n → E = P ++ (X ++ Q) → a = P.length → b = P.length + X.length → Calls Tryz.prog 198 #[.slice (some ⟨g, 0, none⟩) n c, .int .i64 (a : Int), .int .i64 (b : Int), cmpV] x fun e w' => e = .returned (.tuple #[]) ∧ ∃ S, Std X S ∧ TR w' g (P ++ (S ++ Q)) ∧ Chg (fun k => k = g) x w' := fun a b E P X Q x h1 h2 h3 h4 h5 => by
    have := insertion_any g c a b E P X Q x h1 h3 h4 h5 (by omega)
    rw [h2] at this
    exact this
  have hsym : ∀ (a m b : Nat) (E P A B Q : List TmV) (x : World), TR x g E → E.length = n → E = P ++ (A ++ (B ++ Q)) → a = P.length → m = a + A.length → b = m + B.length → Srt A → Srt B → 0 < A.length → 0 < B.length → Calls Tryz.prog 199 #[.slice (some ⟨g, 0, none⟩) n c, .int .i64 (a : Int), .int .i64 (m : Int), .int .i64 (b : Int), cmpV] x (SymP g P A B Q x) := fun a m b E P A B Q x h1 h2 h3 h4 h5 h6 h7 h8 h9 h10 => by
    have := symmerge_any g c _ a m b E P A B Q x (Nat.lt_succ_self _) h1 h3 h4 h5 h6 h7 h8 h9 h10 (by omega)
    rw [h2] at this
    exact this
  rw [← hn] at hle ⊢
  unfold cmpV at hins hsym ⊢
  replace hins := hide hins
  replace hsym := hide hsym
  replace hTR := hide hTR
  replace hn := hide hn
  go_enter Tryz.func179, Tryz.ntmps179
  go_wp2_with fail
  go_loopw [7, 8] (fun s7 s8 wr => ∃ (a : Nat) (d : List TmV), s7 = .int .i64 (a : Int) ∧ s8 = .int .i64 ((a : Int) + 20) ∧ a ≤ n ∧ Hid (BdS 20 (D.take a) d ∧ TR wr g (d ++ D.drop a) ∧ Chg (fun k => k = g) w wr)) (fun s7 _ _ => n - (intOf s7).toNat)
  case atStart => exact ⟨0, [], rfl, rfl, Nat.zero_le _, hide ⟨.nil, hTR.out, Chg.refl _ _⟩⟩
  case round =>
    obtain ⟨a, d, rfl, rfl, han, hI⟩ := hrel
    have hdl : d.length = a := by rw [hI.out.1.len, List.length_take]; have := hn.out; omega
    have hEl : (d ++ D.drop a).length = n := by rw [List.length_append, List.length_drop]; have := hn.out; omega
    by_cases hb : a + 20 ≤ n
    · have hbi : (a : Int) + 20 ≤ (n : Int) := by omega
      have h1 := hins.out a (a + 20) _ d ((D.drop a).take 20) (D.drop (a + 20)) wr hI.out.2.1 hEl (by rw [← List.drop_drop, List.take_append_drop]) hdl.symm (by rw [List.length_take, List.length_drop]; have := hn.out; omega)
      have hca : ((a + 20 : Nat) : Int) = (a : Int) + 20 := by omega
      rw [hca] at h1
      have hX20 : ((D.drop a).take 20).length = 20 := by rw [List.length_take, List.length_drop]; have := hn.out; omega
      have htk : D.take (a + 20) = D.take a ++ (D.drop a).take 20 := by rw [List.take_add]
      replace h1 := hide h1
      replace hdl := hide hdl
      replace hEl := hide hEl
      replace htk := hide htk
      replace hX20 := hide hX20
      replace hca := hide hca
      go_wp2_with fail
      refine h1.out.mono ?_
      rintro e w1 ⟨rfl, S, hS, hT, hC⟩
      replace hT := hide hT
      replace hC := hide hC
      replace hS := hide hS
      go_wp2_with fail
      go_roundw
      case rel => exact ⟨a + 20, d ++ S, by go_num, by go_num, hb, hide ⟨by rw [htk.out]; exact .snoc _ _ _ _ hI.out.1 hX20.out hS.out, by rw [List.append_assoc]; exact hT.out, hI.out.2.2.trans hC.out fun _ _ h => h⟩⟩
      case measure => simp [intOf]; omega
    · have hbi : ¬ (a : Int) + 20 ≤ (n : Int) := by omega
      have h1 := hide (hins.out a n _ d (D.drop a) [] wr hI.out.2.1 hEl (by rw [List.append_nil]) hdl.symm (by rw [List.length_drop]; have := hn.out; omega))
      have hXl : (D.drop a).length ≤ 20 := by rw [List.length_drop]; have := hn.out; omega
      have hDa := List.take_append_drop a D
      obtain ⟨wo, rfl⟩ : ∃ wo, wo = wr := ⟨_, rfl⟩
      replace hdl := hide hdl
      replace hEl := hide hEl
      replace hXl := hide hXl
      replace hDa := hide hDa
      go_wp2_with fail
      refine h1.out.mono ?_
      rintro e w1 ⟨rfl, S, hS, hT, hC⟩
      have hBk : Bk 20 D (d ++ S) := by
        rw [← hDa.out]
        refine hI.out.1.bk (by omega) ?_
        by_cases he : D.drop a = []
        · have := hS.2.len
          rw [he] at this ⊢
          rw [List.length_eq_zero_iff.1 this]
          exact .nil
        · exact .last _ _ (List.length_pos_iff.2 he) hXl.out hS
      rw [List.append_nil] at hT
      have hC2 := hI.out.2.2.trans hC fun _ _ h => h
      replace hBk := hide hBk
      replace hT := hide hT
      replace hC2 := hide hC2
      replace hS := hide hS
      replace hC := hide hC
      clear h1
      go_wp2_with fail
      go_loopw [6] (fun s6 wr => ∃ (k : Nat) (E : List TmV), s6 = .int .i64 (k : Int) ∧ 20 ≤ k ∧ k ≤ 2 * n + 20 ∧ Hid (Bk k D E ∧ TR wr g E ∧ Chg (fun k => k = g) w wr)) (fun s6 _ => n - (intOf s6).toNat)
      case atStart => exact ⟨20, d ++ S, rfl, Nat.le_refl _, by omega, hide ⟨hBk.out, hT.out, hC2.out⟩⟩
      case round =>
        obtain ⟨k, E, rfl, hk20, hkn, hJ⟩ := hrel
        obtain ⟨wq, rfl⟩ : ∃ wq, wq = wr := ⟨_, rfl⟩
        by_cases hlt : k < n
        · have hko : Bk k D E := hJ.out.1
          have hTo := hJ.out.2.1
          have hCo := hJ.out.2.2
          replace hko := hide hko
          replace hTo := hide hTo
          replace hCo := hide hCo
          go_wp2_with fail
          go_loopw [7, 8] (fun s7 s8 wr => ∃ (a b : Nat) (d e d' e' : List TmV), s7 = .int .i64 (a : Int) ∧ s8 = .int .i64 (b : Int) ∧ a ≤ n ∧ b ≤ n + 2 * k ∧ Hid (b = a + 2 * k ∧ d.length = a ∧ BdS (2 * k) d e ∧ Bk k d' e' ∧ D = d ++ d' ∧ TR wr g (e ++ e') ∧ Chg (fun k => k = g) w wr)) (fun s7 _ _ => n - (intOf s7).toNat)
          case atStart => exact ⟨0, 2 * k, [], [], D, E, rfl, by congr 1, Nat.zero_le _, by omega, hide ⟨by omega, rfl, .nil, hko.out, rfl, hTo.out, hCo.out⟩⟩
          case round =>
            obtain ⟨a, b, d, e, d', e', rfl, rfl, han, hbn, hK⟩ := hrel
            obtain ⟨hba, hda, hBd, hBk', hDd, hT, hC⟩ := hK.out
            have hel := hBd.len
            have hel' := hBk'.len
            have hnD := hn.out
            rw [hDd, List.length_append] at hnD
            have hEl : (e ++ e').length = n := by rw [List.length_append]; omega
            have hcm : ((a + k : Nat) : Int) = (a : Int) + (k : Int) := by omega
            by_cases hb2 : b ≤ n
            · obtain ⟨X, S, Y, T, d2, e2, hd2, he2, hXl, hYl, hXS, hYT, hB2⟩ := hBk'.two (by omega) (by omega)
              have h1 := hsym.out a (a + k) b _ e S T e2 wr hT hEl (by rw [he2]) (by omega) (by rw [hXS.2.len]; omega) (by rw [hYT.2.len]; omega) hXS.1 hYT.1 (by rw [hXS.2.len]; omega) (by rw [hYT.2.len]; omega)
              rw [hcm] at h1
              replace h1 := hide h1
              replace hba := hide hba
              replace hda := hide hda
              replace hBd := hide hBd
              replace hDd := hide hDd
              replace hC := hide hC
              replace hd2 := hide hd2
              replace hXl := hide hXl
              replace hYl := hide hYl
              replace hXS := hide hXS
              replace hYT := hide hYT
              replace hB2 := hide hB2
              clear hT hBk' hel hel' hnD hEl hcm he2
              go_wp2_with fail
              refine h1.out.mono ?_
              rintro en w1 ⟨rfl, M, hM, hTM, hCM⟩
              replace hM := hide hM
              replace hTM := hide hTM
              replace hCM := hide hCM
              go_wp2_with fail
              go_roundw
              case rel => exact ⟨b, b + 2 * k, d ++ (X ++ Y), e ++ M, d2, e2, rfl, by congr 1, hb2, by omega, hide ⟨rfl, by rw [List.length_append, List.length_append]; have := hba.out; have := hda.out; have := hXl.out; have := hYl.out; omega, .snoc _ _ _ _ hBd.out (by rw [List.length_append]; have := hXl.out; have := hYl.out; omega) (hXS.out.mrg hYT.out hM.out), hB2.out, by rw [hDd.out, hd2.out]; simp, by rw [List.append_assoc]; exact hTM.out, hC.out.trans hCM.out fun _ _ h => h⟩⟩
              case measure => have := hba.out; simp [intOf]; omega
            · have hfew := hBk'.few (by omega)
              by_cases hm : a + k < n
              · rcases hfew with ⟨h1, h2⟩ | ⟨X, S, Y, T, hd2, he2, hXl, hYl, hXS, hYT⟩
                · omega
                · have hYn : n = a + k + Y.length := by rw [hd2, List.length_append] at hnD; omega
                  have h1 := hsym.out a (a + k) n _ e S T [] wr hT hEl (by rw [he2, List.append_nil]) (by omega) (by rw [hXS.2.len]; omega) (by rw [hYT.2.len]; omega) hXS.1 hYT.1 (by rw [hXS.2.len]; omega) (by rw [hYT.2.len]; omega)
                  rw [hcm] at h1
                  have hfin : ∀ (M : List TmV) (x : World), Mrg S T M → TR x g (e ++ (M ++ [])) → Chg (fun k => k = g) wr x → Bk (2 * k) D (e ++ M) ∧ TR x g (e ++ M) ∧ Chg (fun k => k = g) w x := fun M x h2 h3 h4 =>
                    ⟨by rw [hDd]; exact hBd.bk (by omega) (by rw [hd2]; exact .last _ _ (by rw [List.length_append]; omega) (by rw [List.length_append]; omega) (hXS.mrg hYT h2)), by rw [List.append_nil] at h3; exact h3, hC.trans h4 fun _ _ h => h⟩
                  have hmi : (a : Int) + (k : Int) < (n : Int) := by omega
                  replace h1 := hide h1
                  replace hfin := hide hfin
                  clear hba hda hBd hBk' hDd hT hC hd2 he2 hXl hYl hXS hYT hYn hK hel hel' hnD hEl hcm
                  go_wp2_with fail
                  refine h1.out.mono ?_
                  rintro en w1 ⟨rfl, M, hM, hTM, hCM⟩
                  have hf := hide (hfin.out M w1 hM hTM hCM)
                  clear hM hTM hCM
                  go_wp2_with fail
                  go_roundw
                  case rel => exact ⟨2 * k, e ++ M, by congr 1; omega, by omega, by omega, hf⟩
                  case measure => simp [intOf]; omega
              · have hfin : Bk (2 * k) D (e ++ e') := by
                  rcases hfew with ⟨h1, h2⟩ | ⟨X, S, Y, T, hd2, he2, hXl, hYl, hXS, hYT⟩
                  · rw [hDd]; exact hBd.bk (by omega) h2
                  · rw [hd2, List.length_append] at hnD; omega
                have hmi : ¬ (a : Int) + (k : Int) < (n : Int) := by omega
                have hf := hide (And.intro hfin (And.intro hT hC))
                clear hba hda hBd hBk' hDd hT hC hK hel hel' hnD hEl hcm hfew hfin
                go_wp2_with fail
                go_roundw
                case rel => exact ⟨2 * k, e ++ e', by congr 1; omega, by omega, by omega, hf⟩
                case measure => simp [intOf]; omega
        · have hfin : Std D E := hJ.out.1.whole (by have := hn.out; omega)
          replace hfin := hide hfin
          go_wp2_with fail
          go_end0
          exact ⟨rfl, E, hfin.out, hJ.out.2.1, hJ.out.2.2⟩
set_option maxRecDepth 100000 in
theorem sortstable_any (g c : Nat) (D : List TmV) (w : World) (hTR : TR w g D) (hle : D.length ≤ 268435456) :
    Calls Tryz.prog 136 #[.slice (some ⟨g, 0, none⟩) D.length c, cmpV] w fun e w' => e = .returned (.tuple #[]) ∧ ∃ E, Std D E ∧ TR w' g E ∧ Chg (fun k => k = g) w w' := by
  have h := stable_any g c D w hTR hle
  obtain ⟨n, hn⟩ : ∃ n, n = D.length := ⟨_, rfl⟩
  rw [← hn] at h hle ⊢
  unfold cmpV at h ⊢
  replace h := hide h
  replace hn := hide hn
  go_enter Tryz.func136, Tryz.ntmps136
  go_wp2_with fail
  refine h.out.mono ?_
  rintro e w1 ⟨rfl, E, hE, hT, hC⟩
  go_wp2_with fail
  go_end0
  exact ⟨rfl, E, hE, hT, hC⟩
end
section
open Go.RowKit
theorem valsOf_map {β γ : Type} (g : β → γ) (l : List (List UInt8 × β)) (s : List UInt8) : valsOf (l.map fun x => (x.1, g x.2)) s = (valsOf l s).map g := by
  unfold valsOf
  rw [List.filter_map, List.map_map, List.map_map]
  rfl
theorem Std.stabM {β γ : Type} {D E : List (List UInt8 × β)} (h : Std D E) (g : β → γ) : Stab (D.map fun x => (x.1, g x.2)) (E.map fun x => (x.1, g x.2)) := by
  refine ⟨?_, fun s => by rw [valsOf_map, valsOf_map, h.2.vals]⟩
  rw [List.pairwise_map]
  exact h.1
structure TmsOk (w : World) (base : Nat) (D : List TmV) (R : List (List UInt8 × List Int)) : Prop where
  len : D.length = R.length
  each : ∀ (i : Nat) (x : TmV) (p : List UInt8 × List Int), D[i]? = some x → R[i]? = some p → x.1 = p.1 ∧ Buf w base 3 x.2.1 x.2.2.1 x.2.2.2 (p.2.map IV)
  apart : ∀ (i j : Nat) (x y : TmV), D[i]? = some x → D[j]? = some y → i ≠ j → ∀ a b, x.2.1 = some a → y.2.1 = some b → a.block ≠ b.block
theorem TmsOk.nil (w : World) (base : Nat) : TmsOk w base [] [] := ⟨rfl, nofun, nofun⟩
theorem TmsOk.keep {w w1 : World} {base : Nat} {D : List TmV} {R : List (List UInt8 × List Int)} (h : TmsOk w base D R) (hk : ∀ A n c xs, Buf w base 3 A n c xs → Buf w1 base 3 A n c xs) : TmsOk w1 base D R :=
  ⟨h.len, fun i x p hx hp => ⟨(h.each i x p hx hp).1, hk _ _ _ _ (h.each i x p hx hp).2⟩, h.apart⟩
theorem TmsOk.ext {w w1 : World} {base : Nat} {D : List TmV} {R : List (List UInt8 × List Int)} (h : TmsOk w base D R) (hE : Ext w w1) : TmsOk w1 base D R := h.keep fun _ _ _ _ hb => hb.ext hE
theorem TmsOk.snoc {w w1 : World} {base : Nat} {D : List TmV} {R : List (List UInt8 × List Int)} (h : TmsOk w base D R) (hk : ∀ A n c xs, Buf w base 3 A n c xs → Buf w1 base 3 A n c xs) {x : TmV} {p : List UInt8 × List Int} (hx : x.1 = p.1) (hb : Buf w1 base 3 x.2.1 x.2.2.1 x.2.2.2 (p.2.map IV)) (hn : ∀ a, x.2.1 = some a → w.heap.size ≤ a.block) : TmsOk w1 base (D ++ [x]) (R ++ [p]) := by
  have hlt : ∀ (i : Nat) (y : TmV), D[i]? = some y → ∀ b, y.2.1 = some b → b.block < w.heap.size := fun i y hy b hb => by
    have hi := (List.getElem?_eq_some_iff.1 hy).1
    obtain ⟨q, hq⟩ : ∃ q, R[i]? = some q := ⟨_, List.getElem?_eq_getElem (by rw [← h.len]; exact hi)⟩
    exact (h.each i y q hy hq).2.lt b hb
  have hcase : ∀ (i : Nat) (y : TmV), (D ++ [x])[i]? = some y → D[i]? = some y ∨ (i = D.length ∧ y = x) := fun i y hy => by
    by_cases hi : i < D.length
    · rw [List.getElem?_append_left hi] at hy; exact .inl hy
    · rw [List.getElem?_append_right (by omega)] at hy
      have h2 := (List.getElem?_eq_some_iff.1 hy).1
      rw [List.length_singleton] at h2
      have h3 : i - D.length = 0 := by omega
      rw [h3] at hy
      exact .inr ⟨by omega, by simpa using hy.symm⟩
  refine ⟨by rw [List.length_append, List.length_append, h.len]; rfl, fun i y q hy hq => ?_, fun i j y z hy hz hij a b ha hb' => ?_⟩
  · rcases hcase i y hy with hy | ⟨hi, rfl⟩
    · have hi := (List.getElem?_eq_some_iff.1 hy).1
      rw [List.getElem?_append_left (by rw [← h.len]; exact hi)] at hq
      have := h.each i y q hy hq
      exact ⟨this.1, hk _ _ _ _ this.2⟩
    · rw [List.getElem?_append_right (by rw [hi, h.len]; exact Nat.le_refl _), hi, h.len, Nat.sub_self] at hq
      obtain rfl : p = q := by simpa using hq
      exact ⟨hx, hb⟩
  · rcases hcase i y hy with hy1 | ⟨hi, rfl⟩ <;> rcases hcase j z hz with hz1 | ⟨hj, rfl⟩
    · exact h.apart i j y z hy1 hz1 hij a b ha hb'
    · have := hlt i y hy1 a ha; have := hn b hb'; omega
    · have := hlt j z hz1 b hb'; have := hn a ha; omega
    · omega
end
section
open Go.RowKit
def splitG : Nat → List UInt8 → List (List UInt8) × Nat
  | 0, _ => ([], 0)
  | f + 1, l => if l = [] then ([], 0) else match getF l with
    | .error k => ([], k)
    | .ok (p, r) => (p :: (splitG f r).1, (splitG f r).2)
def splitF (l : List UInt8) : List (List UInt8) × Nat := splitG l.length l
theorem splitG_succ (f : Nat) (l : List UInt8) : splitG (f + 1) l = if l = [] then ([], 0) else match getF l with
    | .error k => ([], k)
    | .ok (p, r) => (p :: (splitG f r).1, (splitG f r).2) := rfl
theorem splitG_more : ∀ (f g : Nat) (l : List UInt8), l.length ≤ f → l.length ≤ g → splitG f l = splitG g l
  | 0, 0, l, _, _ => rfl
  | 0, g + 1, l, h, _ => by
    have : l = [] := List.length_eq_zero_iff.1 (by omega)
    subst this
    rfl
  | f + 1, 0, l, _, h => by
    have : l = [] := List.length_eq_zero_iff.1 (by omega)
    subst this
    rfl
  | f + 1, g + 1, l, h1, h2 => by
    unfold splitG
    split
    · rfl
    · cases hg : getF l with
      | error k => rfl
      | ok q =>
        obtain ⟨p, r⟩ := q
        have := (getF_less hg).1
        simp only
        rw [splitG_more f g r (by omega) (by omega)]
theorem splitF_nil : splitF [] = ([], 0) := rfl
theorem splitF_err {l : List UInt8} {k : Nat} (hl : l ≠ []) (h : getF l = .error k) : splitF l = ([], k) := by
  have hp := List.length_pos_iff.2 hl
  unfold splitF
  rw [show l.length = l.length - 1 + 1 by omega, splitG_succ, if_neg hl, h]
theorem splitF_ok {l p r : List UInt8} (hl : l ≠ []) (h : getF l = .ok (p, r)) : splitF l = (p :: (splitF r).1, (splitF r).2) := by
  have hp := List.length_pos_iff.2 hl
  have hr := (getF_less h).1
  unfold splitF
  rw [show l.length = l.length - 1 + 1 by omega, splitG_succ, if_neg hl, h]
  simp only
  rw [splitG_more (l.length - 1) r.length r (by omega) (by omega)]
theorem splitF_join : ∀ (ps : List (List UInt8)), (∀ p ∈ ps, p.length ≤ 16777216) → splitF (joinL ps) = (ps, 0)
  | [], _ => rfl
  | p :: ps, h => by
    have hg : getF (joinL (p :: ps)) = .ok (p, joinL ps) := getF_put (h p (List.mem_cons_self ..)) _
    have hne : joinL (p :: ps) ≠ [] := by
      intro e
      rw [e] at hg
      have := (getF_less hg).1
      simp at this
    rw [splitF_ok hne hg, splitF_join ps fun q hq => h q (List.mem_cons_of_mem _ hq)]
theorem splitG_small : ∀ (f : Nat) (l : List UInt8), ∀ p ∈ (splitG f l).1, p.length ≤ 16777216 ∧ p.length ≤ l.length
  | 0, l, p, h => by cases h
  | f + 1, l, p, h => by
    unfold splitG at h
    split at h
    · cases h
    · cases hg : getF l with
      | error k => rw [hg] at h; cases h
      | ok q =>
        obtain ⟨p1, r⟩ := q
        have hl := getF_less hg
        rw [hg] at h
        rcases List.mem_cons.1 h with rfl | h
        · exact ⟨hl.2.1, hl.2.2⟩
        · have := splitG_small f r p h
          exact ⟨this.1, by omega⟩
theorem splitF_small {l p : List UInt8} (h : p ∈ (splitF l).1) : p.length ≤ 16777216 ∧ p.length ≤ l.length := splitG_small _ l p h
theorem splitG_count : ∀ (f : Nat) (l : List UInt8), (splitG f l).1.length ≤ f
  | 0, l => Nat.le_refl _
  | f + 1, l => by
    unfold splitG
    split
    · exact Nat.zero_le _
    · cases hg : getF l with
      | error k => exact Nat.zero_le _
      | ok q =>
        obtain ⟨p1, r⟩ := q
        have := splitG_count f r
        simp only [List.length_cons]
        omega
theorem splitF_count (l : List UInt8) : (splitF l).1.length ≤ l.length := splitG_count _ l
end
section
open Go.RowKit
def GotE (w0 w : World) (res : Option (Ev × List UInt8)) (e : Ending) (w' : World) : Prop := Ext w w' ∧ match res with
  | some (ev, r) => ∃ B d A c, e = .returned (.tuple #[ev.val B d, .slice A r.length c, .int .i64 0]) ∧ ev.Own w' w.heap.size B d ∧ In8 w0 A r.length c r ∧ I64ok' ev.at_
  | none => e = .returned (.tuple #[.agg #[.int .i64 0, .slice none 0 0], .slice none 0 0, .int .i64 100])
theorem GotE.no {w0 w w' : World} {res : Option (Ev × List UInt8)} (hE : Ext w w') (h : res = none) : GotE w0 w res (.returned (.tuple #[.agg #[.int .i64 0, .slice none 0 0], .slice none 0 0, .int .i64 100])) w' := by
  subst h
  exact ⟨hE, rfl⟩
def aheadF (read : List Fd) : Option (List Fd × List UInt8) → Option (List Fd × List UInt8)
  | none => none
  | some (fs, r) => some (read ++ fs, r)
theorem aheadF_nil (x : Option (List Fd × List UInt8)) : aheadF [] x = x := by cases x <;> rfl
theorem getFs_step {k i : Nat} {read : List Fd} {L r r1 r2 nm tx : List UInt8} (h : getFs k L = aheadF read (getFs (k - i) r)) (hi : i < k) (h1 : getT 32 r = .ok (nm, r1)) (h2 : getT 4096 r1 = .ok (tx, r2)) : getFs k L = aheadF (read ++ [(nm, tx)]) (getFs (k - (i + 1)) r2) := by
  obtain ⟨j, hj⟩ : ∃ j, k - i = j + 1 := ⟨k - i - 1, by omega⟩
  rw [h, hj, show k - (i + 1) = j by omega]
  conv => lhs; unfold getFs
  rw [h1]
  simp only
  rw [h2]
  simp only
  cases getFs j r2 with
  | none => rfl
  | some p => obtain ⟨fs, r3⟩ := p; simp [aheadF]
theorem getFs_no1 {k i : Nat} {read : List Fd} {L r : List UInt8} {x : Nat} (h : getFs k L = aheadF read (getFs (k - i) r)) (hi : i < k) (h1 : getT 32 r = .error x) : getFs k L = none := by
  obtain ⟨j, hj⟩ : ∃ j, k - i = j + 1 := ⟨k - i - 1, by omega⟩
  rw [h, hj]
  unfold getFs
  rw [h1]
  rfl
theorem getFs_no2 {k i : Nat} {read : List Fd} {L r r1 nm : List UInt8} {x : Nat} (h : getFs k L = aheadF read (getFs (k - i) r)) (hi : i < k) (h1 : getT 32 r = .ok (nm, r1)) (h2 : getT 4096 r1 = .error x) : getFs k L = none := by
  obtain ⟨j, hj⟩ : ∃ j, k - i = j + 1 := ⟨k - i - 1, by omega⟩
  rw [h, hj]
  unfold getFs
  rw [h1]
  simp only
  rw [h2]
  rfl
theorem getFs_fin {k i : Nat} {read : List Fd} {L r : List UInt8} (h : getFs k L = aheadF read (getFs (k - i) r)) (hi : k ≤ i) : getFs k L = some (read, r) := by
  rw [h, show k - i = 0 by omega]
  unfold getFs aheadF
  simp
theorem getT_err {most k : Nat} {l : List UInt8} (h : getT most l = .error k) : 0 < k := by
  unfold getT at h
  split at h
  · rename_i hg
    injection h with h
    rw [← h]
    exact getV_err _ _ _ hg
  · split at h
    · injection h with h; omega
    · split at h
      · injection h with h; omega
      · cases h
def setEv (w : World) (g : Nat) (at_ : Int) (A : Option Addr) (n c : Nat) : World := (w.setCell ⟨g, 0, none⟩ (.int .i64 at_)).setCell ⟨g, 1, none⟩ (.slice A n c)
theorem setEv_row {w : World} {g : Nat} {T : TypeId} {x y : Value} (h : Row w g T #[x, y]) (at_ : Int) (A : Option Addr) (n c : Nat) : Row (setEv w g at_ A n c) g T #[.int .i64 at_, .slice A n c] := (h.put 0 _).put 1 _
theorem setEv_chg (w : World) (g : Nat) (at_ : Int) (A : Option Addr) (n c : Nat) : Chg (fun k => k = g) w (setEv w g at_ A n c) := (Chg.of_set (S := fun k => k = g) w _ rfl).trans (Chg.of_set (S := fun k => k = g) _ _ rfl) fun _ _ h => h
theorem setEv_ext {w0 w : World} (h : Ext w0 w) {g : Nat} (hg : w0.heap.size ≤ g) (at_ : Int) (A : Option Addr) (n c : Nat) : Ext w0 (setEv w g at_ A n c) := h.chg (setEv_chg w g at_ A n c) fun i hi he => by omega
set_option maxRecDepth 100000 in
set_option maxHeartbeats 4000000 in
theorem evget_any (A : Option Addr) (n c : Nat) (l : List UInt8) (w0 w : World) (h : In8 w0 A n c l) (hw : Ext w0 w) (hle : n ≤ 1000000000) :
    Calls Tryz.prog 95 #[.slice A n c] w fun e w' => GotE w0 w (getE l) e w' := by
  obtain ⟨W, hW⟩ : ∃ W, W = w.alloc (.cells #[.int .i64 0, .slice none 0 0] 37) := ⟨_, rfl⟩
  have hEW : Ext w W := by rw [hW]; exact (Ext.refl w).alloc _
  obtain ⟨b, hb⟩ : ∃ b, b = w.heap.size := ⟨_, rfl⟩
  have hr : Row W b 37 #[.int .i64 0, .slice none 0 0] := by rw [hW, hb]; exact Row.new w _ _
  have hbw := hide (Nat.le_of_eq hb.symm)
  have hg1 := getInt_any A n c l w0 W h (hw.trans hEW) hle
  have hln : l.length ≤ 1000000000 := by rw [← h.len]; exact hle
  obtain ⟨Z, hZ⟩ : ∃ Z, Z = getE l := ⟨_, rfl⟩
  rw [← hZ]
  unfold getE at hZ
  replace hW := hide hW
  replace hb := hide hb
  clear h
  cases hv1 : getV 0 l with
  | error k =>
    rw [hv1] at hg1 hZ
    have hk := getV_err l 0 k hv1
    have hk0 : ((k : Int) != 0) = true := by simp; omega
    have hg := hide hg1
    clear hv1 hk hg1
    go_enter Tryz.func95, Tryz.ntmps95
    go_wp2_with fail
    rw [← hW.out, ← hb.out]
    refine hg.out.mono ?_
    rintro e w1 ⟨hE1, rfl⟩
    have hr1 := hr.ext hE1
    have f1 := fun i => hr1.free i
    have d0 := hr1.cell 0 rfl
    have d1 := hr1.cell 1 rfl
    replace hr1 := hide hr1
    have hE01 := hide (hEW.trans hE1)
    replace hZ := hide hZ
    go_wp2_with fail
    obtain ⟨wz, hwz⟩ : ∃ wz, wz = setEv w1 b 0 none 0 0 := ⟨_, rfl⟩; have hk := setEv_row hr1.out 0 none 0 0; rw [← hwz] at hk; have hEz := setEv_ext hE01.out hbw.out 0 none 0 0; rw [← hwz] at hEz; unfold setEv at hwz; rw [← hwz]; have k0 : wz.cell? ⟨b, 0, none⟩ = some (.int .i64 0) := hk.cell 0 rfl; have k1 : wz.cell? ⟨b, 1, none⟩ = some (.slice none 0 0) := hk.cell 1 rfl; clear hwz hk; exact bodyPost_ret (v := .tuple #[.agg #[.int .i64 0, .slice none 0 0], .slice none 0 0, .int .i64 100]) (by simp [results, Tryz.results95, go_sem, k0, k1]) rfl (GotE.no hEz hZ.out)
  | ok p =>
    obtain ⟨u, r⟩ := p
    have hu := getV_lt64 hv1
    have hrl : r.length ≤ 1000000000 := by
      obtain ⟨_, _, q, hq, _⟩ := getV_lt l 0 u r hv1
      rw [hq, List.length_append] at hln
      omega
    rw [hv1] at hg1 hZ
    simp only at hZ
    have hg := hide hg1
    have huz := unzig_ok hu
    obtain ⟨at_, hat⟩ : ∃ at_, at_ = unzig u := ⟨_, rfl⟩
    unfold GotI at hg
    simp only at hg
    rw [← hat] at hg hZ huz
    clear hv1 hg1 hat hu
    cases hv2 : getV 0 r with
    | error k =>
      rw [hv2] at hZ
      have hk := getV_err r 0 k hv2
      have hk0 : ((k : Int) != 0) = true := by simp; omega
      have hg2 := fun A c W h hE => get_any A r.length c r w0 W h hE hrl
      rw [hv2] at hg2
      replace hg2 := hide hg2
      replace hZ := hide hZ
      clear hv2 hk
      go_enter Tryz.func95, Tryz.ntmps95
      go_wp2_with fail
      rw [← hW.out, ← hb.out]
      refine hg.out.mono ?_
      rintro e w1 ⟨hE1, A1, c1, rfl, hi1⟩
      have hgg := hide (hg2.out A1 c1 w1 hi1 ((hw.trans hEW).trans hE1))
      go_wp2_with fail
      refine hgg.out.mono ?_
      rintro e w2 ⟨hE2, rfl⟩
      have hr1 := hr.ext (hE1.trans hE2)
      have f1 := fun i => hr1.free i
      have d0 := hr1.cell 0 rfl
      have d1 := hr1.cell 1 rfl
      replace hr1 := hide hr1
      have hE01 := hide (hEW.trans (hE1.trans hE2))
      go_wp2_with fail
      obtain ⟨wz, hwz⟩ : ∃ wz, wz = setEv w2 b 0 none 0 0 := ⟨_, rfl⟩; have hk := setEv_row hr1.out 0 none 0 0; rw [← hwz] at hk; have hEz := setEv_ext hE01.out hbw.out 0 none 0 0; rw [← hwz] at hEz; unfold setEv at hwz; rw [← hwz]; have k0 : wz.cell? ⟨b, 0, none⟩ = some (.int .i64 0) := hk.cell 0 rfl; have k1 : wz.cell? ⟨b, 1, none⟩ = some (.slice none 0 0) := hk.cell 1 rfl; clear hwz hk; exact bodyPost_ret (v := .tuple #[.agg #[.int .i64 0, .slice none 0 0], .slice none 0 0, .int .i64 100]) (by simp [results, Tryz.results95, go_sem, k0, k1]) rfl (GotE.no hEz hZ.out)
    | ok p =>
      obtain ⟨m, r2⟩ := p
      have hrl2 : r2.length ≤ 1000000000 := by
        obtain ⟨_, _, q, hq, _⟩ := getV_lt r 0 m r2 hv2
        rw [hq, List.length_append] at hrl
        omega
      have hm64 := getV_lt64 hv2
      rw [hv2] at hZ
      simp only at hZ
      have hg2 := fun A c W h hE => get_any A r.length c r w0 W h hE hrl
      rw [hv2] at hg2
      unfold Got at hg2
      simp only at hg2
      replace hg2 := hide hg2
      clear hv2
      by_cases hm16 : 16 < m
      · rw [if_pos hm16] at hZ
        have hm' : (16 : Int) < m := by omega
        replace hZ := hide hZ
        go_enter Tryz.func95, Tryz.ntmps95
        go_wp2_with fail
        rw [← hW.out, ← hb.out]
        refine hg.out.mono ?_
        rintro e w1 ⟨hE1, A1, c1, rfl, hi1⟩
        have hgg := hide (hg2.out A1 c1 w1 hi1 ((hw.trans hEW).trans hE1))
        go_wp2_with fail
        refine hgg.out.mono ?_
        rintro e w2 ⟨hE2, A2, c2, rfl, hi2⟩
        have hr1 := hr.ext (hE1.trans hE2)
        have f1 := fun i => hr1.free i
        have d0 := hr1.cell 0 rfl
        have d1 := hr1.cell 1 rfl
        replace hr1 := hide hr1
        have hE01 := hide (hEW.trans (hE1.trans hE2))
        go_wp2_with fail
        obtain ⟨wz, hwz⟩ : ∃ wz, wz = setEv w2 b 0 none 0 0 := ⟨_, rfl⟩; have hk := setEv_row hr1.out 0 none 0 0; rw [← hwz] at hk; have hEz := setEv_ext hE01.out hbw.out 0 none 0 0; rw [← hwz] at hEz; unfold setEv at hwz; rw [← hwz]; have k0 : wz.cell? ⟨b, 0, none⟩ = some (.int .i64 0) := hk.cell 0 rfl; have k1 : wz.cell? ⟨b, 1, none⟩ = some (.slice none 0 0) := hk.cell 1 rfl; clear hwz hk; exact bodyPost_ret (v := .tuple #[.agg #[.int .i64 0, .slice none 0 0], .slice none 0 0, .int .i64 100]) (by simp [results, Tryz.results95, go_sem, k0, k1]) rfl (GotE.no hEz hZ.out)
      · rw [if_neg hm16] at hZ
        have hm' : ¬ (16 : Int) < m := by omega
        replace hZ := hide hZ
        go_enter Tryz.func95, Tryz.ntmps95
        go_wp2_with fail
        rw [← hW.out, ← hb.out]
        refine hg.out.mono ?_
        rintro e w1 ⟨hE1, A1, c1, rfl, hi1⟩
        have hgg := hide (hg2.out A1 c1 w1 hi1 ((hw.trans hEW).trans hE1))
        go_wp2_with fail
        refine hgg.out.mono ?_
        rintro e w2 ⟨hE2, A2, c2, rfl, hi2⟩
        have hr1 := hr.ext (hE1.trans hE2)
        have f1 := fun i => hr1.free i
        have d0 := hr1.cell 0 rfl
        have d1 := hr1.cell 1 rfl
        replace hr1 := hide hr1
        have hE01 := hide (hEW.trans (hE1.trans hE2))
        go_wp2_with fail
        have hrw := hr1.out.put 0 (.int .i64 at_)
        obtain ⟨W3, hW3⟩ : ∃ W3, W3 = w2.setCell ⟨b, 0, none⟩ (.int .i64 at_) := ⟨_, rfl⟩
        have hE03 : Ext w W3 := by rw [hW3]; exact hE01.out.setCell hbw.out _
        have hr3 : Row W3 b 37 #[.int .i64 at_, .slice none 0 0] := by rw [hW3]; exact hrw
        rw [← hW3]
        clear hrw hr1 hE01 f1 d0 d1 hgg hg hg2 hW3
        go_loopw [3, 33] (fun s3 s33 wr => ∃ (i : Nat) (read : List Fd) (rr : List UInt8) (B A3 : Option Addr) (d c3 : Nat), s33 = .int .u64 (i : Int) ∧ s3 = .slice A3 rr.length c3 ∧ i ≤ m ∧ rr.length ≤ 1000000000 ∧ Hid (i = read.length) ∧ Hid (getFs m r2 = aheadF read (getFs (m - i) rr)) ∧ Hid (∀ f ∈ read, f.1.length ≤ 1000000000 ∧ f.2.length ≤ 1000000000) ∧ Hid (Row wr b 37 #[.int .i64 at_, .slice B i d]) ∧ Hid (wr.ownsRow (b + 1) 105 2 (.slice B i d) i (fcells read)) ∧ Hid (In8 w0 A3 rr.length c3 rr) ∧ Hid (Ext w wr)) (fun _ s33 _ => m - (intOf s33).toNat)
        case atStart => exact ⟨0, [], r2, none, A2, 0, c2, rfl, rfl, by omega, hrl2, hide rfl, hide (by rw [aheadF_nil]; rfl), hide nofun, hide hr3, hide ⟨rfl, .inl ⟨rfl, rfl⟩⟩, hide hi2, hide hE03⟩
        case round =>
          obtain ⟨i, read, rr, B, A3, d, c3, rfl, rfl, hi, hrr, hil, hgf, hlg, hrow, hown, hin8, hE⟩ := hrel
          have q0 : wr.cell? ⟨b, 0, none⟩ = some (.int .i64 at_) := hrow.out.cell 0 rfl
          have q1 : wr.cell? ⟨b, 1, none⟩ = some (.slice B i d) := hrow.out.cell 1 rfl
          by_cases him : i < m
          · have hi1 : (i : Int) < m := by omega
            obtain ⟨fb, hfb⟩ : ∃ fb, fb = wr.heap.size := ⟨_, rfl⟩
            obtain ⟨Wf, hWf⟩ : ∃ Wf, Wf = wr.alloc (.cells #[.string ⟨#[]⟩, .string ⟨#[]⟩] 105) := ⟨_, rfl⟩
            have hEf : Ext wr Wf := by rw [hWf]; exact (Ext.refl wr).alloc _
            have hrf : Row Wf fb 105 #[.string ⟨#[]⟩, .string ⟨#[]⟩] := by rw [hWf, hfb]; exact Row.new wr _ _
            have hbf : b < fb := by rw [hfb]; exact hrow.out.lt
            have hgt := fun A c W h hE => getText_any A rr.length c 32 rr w0 W h hE hrr (by omega)
            have hgt1 := hgt A3 c3 Wf hin8.out (hw.trans (hE.out.trans hEf))
            have hEwf := hide (hE.out.trans hEf)
            replace hWf := hide hWf
            replace hfb := hide hfb
            cases ht1 : getT 32 rr with
            | error k =>
              have hk := getT_err ht1
              have hk0 : ((k : Int) != 0) = true := by simp; omega
              have hnone := hide (getFs_no1 hgf.out him ht1)
              rw [ht1] at hgt1
              replace hgt1 := hide hgt1
              clear ht1 hk hgt
              go_wp2_with fail
              rw [← hWf.out, ← hfb.out]
              refine hgt1.out.mono ?_
              rintro e w4 ⟨hE4, rfl⟩
              have hrf4 := hrf.ext hE4
              have hr4 := (hrow.out.ext hEf).ext hE4
              have f4 := fun i => hrf4.free i
              have d4 := hrf4.cell 0 rfl
              have hr5 := hr4.away (p := ⟨fb, 0, none⟩) (by simp only; omega) (.string ⟨#[]⟩)
              have f5 := fun i => hr5.free i
              have e5 := hr5.cell 0 rfl
              have e6 := hr5.cell 1 rfl
              have hE05 := hide ((hEwf.out.trans hE4).setCell (p := ⟨fb, 0, none⟩) (by simp only; have := hbw.out; omega) (.string ⟨#[]⟩))
              have hzn : Hid (Z = none) := hide (by rw [hZ.out, hnone.out])
              replace hr5 := hide hr5
              go_wp2_with fail
              obtain ⟨wz, hwz⟩ : ∃ wz, wz = setEv (w4.setCell ⟨fb, 0, none⟩ (.string ⟨#[]⟩)) b 0 none 0 0 := ⟨_, rfl⟩; have hk := setEv_row hr5.out 0 none 0 0; rw [← hwz] at hk; have hEz := setEv_ext hE05.out hbw.out 0 none 0 0; rw [← hwz] at hEz; unfold setEv at hwz; rw [← hwz]; have k0 : wz.cell? ⟨b, 0, none⟩ = some (.int .i64 0) := hk.cell 0 rfl; have k1 : wz.cell? ⟨b, 1, none⟩ = some (.slice none 0 0) := hk.cell 1 rfl; clear hwz hk; exact bodyPost_ret (v := .tuple #[.agg #[.int .i64 0, .slice none 0 0], .slice none 0 0, .int .i64 100]) (by simp [results, Tryz.results95, go_sem, k0, k1]) rfl (GotE.no hEz hzn.out)
            | ok p =>
              obtain ⟨nm, rn⟩ := p
              obtain ⟨hnl, hrn, _⟩ := getT_ok ht1
              rw [ht1] at hgt1
              unfold GotT at hgt1
              simp only at hgt1
              replace hgt1 := hide hgt1
              have hrnl : rn.length ≤ 1000000000 := by omega
              have hgt2 := hide (fun A c W h hE => getText_any A rn.length c 4096 rn w0 W h hE hrnl (by omega))
              clear hgt
              cases ht2 : getT 4096 rn with
              | error k =>
                have hk := getT_err ht2
                have hk0 : ((k : Int) != 0) = true := by simp; omega
                have hnone := hide (getFs_no2 hgf.out him ht1 ht2)
                rw [ht2] at hgt2
                clear ht1 ht2 hk
                go_wp2_with fail
                rw [← hWf.out, ← hfb.out]
                refine hgt1.out.mono ?_
                rintro e w4 ⟨hE4, A4, c4, rfl, hi4⟩
                have hrf4 := hrf.ext hE4
                have hr4 := (hrow.out.ext hEf).ext hE4
                have f4 := fun i => hrf4.free i
                have d4 := hrf4.cell 0 rfl
                obtain ⟨w5, hw5⟩ : ∃ w5, w5 = w4.setCell ⟨fb, 0, none⟩ (.string ⟨nm.toArray⟩) := ⟨_, rfl⟩
                have hE05 := (hEwf.out.trans hE4).setCell (p := ⟨fb, 0, none⟩) (by simp only; have := hbw.out; omega) (.string ⟨nm.toArray⟩)
                have hrf5 := hrf4.put 0 (.string ⟨nm.toArray⟩)
                have hr5 := hr4.away (p := ⟨fb, 0, none⟩) (by simp only; omega) (.string ⟨nm.toArray⟩)
                rw [← hw5] at hE05 hrf5 hr5
                have hgg := hide (hgt2.out A4 c4 w5 hi4 (hw.trans hE05))
                replace hw5 := hide hw5
                go_wp2_with fail
                rw [← hw5.out]
                refine hgg.out.mono ?_
                rintro e w6 ⟨hE6, rfl⟩
                have hrf6 := hrf5.ext hE6
                have hr6 := hr5.ext hE6
                have f6 := fun i => hrf6.free i
                have d6 := hrf6.cell 1 rfl
                have hr7 := hr6.away (p := ⟨fb, 1, none⟩) (by simp only; omega) (.string ⟨#[]⟩)
                have f7 := fun i => hr7.free i
                have e5 := hr7.cell 0 rfl
                have e6 := hr7.cell 1 rfl
                have hE07 := hide ((hE05.trans hE6).setCell (p := ⟨fb, 1, none⟩) (by simp only; have := hbw.out; omega) (.string ⟨#[]⟩))
                have hzn : Hid (Z = none) := hide (by rw [hZ.out, hnone.out])
                replace hr7 := hide hr7
                go_wp2_with fail
                obtain ⟨wz, hwz⟩ : ∃ wz, wz = setEv (w6.setCell ⟨fb, 1, none⟩ (.string ⟨#[]⟩)) b 0 none 0 0 := ⟨_, rfl⟩; have hk := setEv_row hr7.out 0 none 0 0; rw [← hwz] at hk; have hEz := setEv_ext hE07.out hbw.out 0 none 0 0; rw [← hwz] at hEz; unfold setEv at hwz; rw [← hwz]; have k0 : wz.cell? ⟨b, 0, none⟩ = some (.int .i64 0) := hk.cell 0 rfl; have k1 : wz.cell? ⟨b, 1, none⟩ = some (.slice none 0 0) := hk.cell 1 rfl; clear hwz hk; exact bodyPost_ret (v := .tuple #[.agg #[.int .i64 0, .slice none 0 0], .slice none 0 0, .int .i64 100]) (by simp [results, Tryz.results95, go_sem, k0, k1]) rfl (GotE.no hEz hzn.out)
              | ok p =>
                obtain ⟨tx, rt⟩ := p
                obtain ⟨htl, hrt, _⟩ := getT_ok ht2
                rw [ht2] at hgt2
                unfold GotT at hgt2
                simp only at hgt2
                replace hgt2 := hide hgt2
                have hstep := hide (getFs_step hgf.out him ht1 ht2)
                clear ht1 ht2
                go_wp2_with fail
                rw [← hWf.out, ← hfb.out]
                refine hgt1.out.mono ?_
                rintro e w4 ⟨hE4, A4, c4, rfl, hi4⟩
                have hrf4 := hrf.ext hE4
                have hr4 := (hrow.out.ext hEf).ext hE4
                have ho4 := hE4.owns (hEf.owns hown.out)
                have f4 := fun i => hrf4.free i
                have d4 := hrf4.cell 0 rfl
                obtain ⟨w5, hw5⟩ : ∃ w5, w5 = w4.setCell ⟨fb, 0, none⟩ (.string ⟨nm.toArray⟩) := ⟨_, rfl⟩
                have hE05 := (hEwf.out.trans hE4).setCell (p := ⟨fb, 0, none⟩) (by simp only; have := hbw.out; omega) (.string ⟨nm.toArray⟩)
                have hrf5 := hrf4.put 0 (.string ⟨nm.toArray⟩)
                have hr5 := hr4.away (p := ⟨fb, 0, none⟩) (by simp only; omega) (.string ⟨nm.toArray⟩)
                have hoa : (Value.slice B i d).ownBlock ≠ some fb := by
                  have hown0 := hown.out
                  intro hfe
                  obtain ⟨_, hrow2, _⟩ := owns_row hown0 hfe
                  have := hrow2.lt
                  have := hfb.out
                  omega
                have ho5 := owns_set ho4 (a := ⟨fb, 0, none⟩) hoa (.string ⟨nm.toArray⟩)
                rw [← hw5] at hE05 hrf5 hr5 ho5
                have hgg := hide (hgt2.out A4 c4 w5 hi4 (hw.trans hE05))
                replace hw5 := hide hw5
                go_wp2_with fail
                rw [← hw5.out]
                refine hgg.out.mono ?_
                rintro e w6 ⟨hE6, A6, c6, rfl, hi6⟩
                have hrf6 := hrf5.ext hE6
                have hr6 := hr5.ext hE6
                have ho6 := hE6.owns ho5
                have f6 := fun i => hrf6.free i
                have d6 := hrf6.cell 1 rfl
                obtain ⟨w7, hw7⟩ : ∃ w7, w7 = w6.setCell ⟨fb, 1, none⟩ (.string ⟨tx.toArray⟩) := ⟨_, rfl⟩
                have hr7 := hr6.away (p := ⟨fb, 1, none⟩) (by simp only; omega) (.string ⟨tx.toArray⟩)
                have hrf7 : Row (w6.setCell ⟨fb, 1, none⟩ (.string ⟨tx.toArray⟩)) fb 105 #[.string ⟨nm.toArray⟩, .string ⟨tx.toArray⟩] := hrf6.put 1 (.string ⟨tx.toArray⟩)
                have ho7 := owns_set ho6 (a := ⟨fb, 1, none⟩) hoa (.string ⟨tx.toArray⟩)
                have hE07 := (hE05.trans hE6).setCell (p := ⟨fb, 1, none⟩) (by simp only; have := hbw.out; omega) (.string ⟨tx.toArray⟩)
                have f7 := hr7.free 1
                have e6 := hr7.cell 1 rfl
                have g0 := hrf7.cell 0 rfl
                have g1 := hrf7.cell 1 rfl
                have hsz7 : b + 1 ≤ (w6.setCell ⟨fb, 1, none⟩ (.string ⟨tx.toArray⟩)).heap.size := hr7.lt
                go_wp2_with (at_builtin; refine wpList_appZ (us := [.string ⟨nm.toArray⟩, .string ⟨tx.toArray⟩]) (m := 1) elemFd ho7 (by simp [World.setCell]) (.tmp 56) (.tmp 58) rfl rfl rfl rfl rfl (one_of rfl) (by omega) hsz7 (fun A8 c8 w8 ho8 hg8 hl8 => ?_); have hne8 : ∀ k, (Value.slice B i d).ownBlock = some k → b + 1 ≤ k := (fun k hk => by obtain ⟨_, _, hb⟩ := owns_row ho7 hk; exact hb); have hr8 := Row.grown hr7 hg8 (fun e => by have := hne8 _ e.symm; omega); have f8 := hr8.free 1; have e8 : w8.cell? ⟨b, 1, none⟩ = some (.slice B i d) := hr8.cell 1 rfl; have hr8h := hide hr8; have ho8h := hide ho8; have hE08 := hide (hE07.grown hg8 fun k hk => by have := hne8 k hk; have := hbw.out; omega); clear hr8 ho8 hg8 hl8)
                have hne9 : (Value.slice A8 (i + 1) c8).ownBlock ≠ some b := fun e => by
                  obtain ⟨_, _, hb⟩ := owns_row ho8h.out e
                  omega
                refine ⟨⟨i + 1, read ++ [(nm, tx)], rt, A8, A6, c8, c6, by go_num, rfl, by omega, by omega, hide (by rw [List.length_append, ← hil.out]; rfl), hstep, hide ?_, hide (hr8h.out.put 1 _), hide (by rw [fcells_snoc]; exact owns_set ho8h.out hne9 _), hide hi6, hide (hE08.out.setCell hbw.out _)⟩, ?_⟩
                · intro f hf
                  rcases List.mem_append.1 hf with hf | hf
                  · exact hlg.out f hf
                  · rw [List.mem_singleton.1 hf]; simp only; omega
                · simp [intOf]; omega
          · obtain rfl : i = m := by omega
            have hfin := getFs_fin hgf.out (Nat.le_refl _)
            have hzz := hZ.out
            rw [hfin] at hzz
            simp only at hzz
            have hok : Ev.Own ⟨at_, read⟩ wr (b + 1) B d := ⟨by simp only; rw [← hil.out]; exact hown.out, fun f hf => by have := hlg.out f hf; omega, by simp only; have := hil.out; omega⟩
            have hck := echeck_any ⟨at_, read⟩ B d wr hok.ok
            unfold Ev.val at hck
            simp only at hck
            rw [← hil.out] at hck
            obtain ⟨j, hj⟩ : ∃ j, j = checkE read := ⟨_, rfl⟩
            rw [← hj] at hck hzz
            replace hj := hide hj
            replace hck := hide hck
            replace hok := hide hok
            replace hzz := hide hzz
            by_cases hj0 : j = 0
            · subst hj0
              go_wp2_with fail
              refine hck.out.mono ?_
              rintro e w4 ⟨rfl, hE4⟩
              have hr4 := hrow.out.ext hE4
              have f4 := fun k => hr4.free k
              have g0 := hr4.cell 0 rfl
              have g1 := hr4.cell 1 rfl
              replace hr4 := hide hr4
              have hE04 := hide (hE.out.trans hE4)
              clear q0 q1
              go_wp2_with fail
              obtain ⟨wz, hwz⟩ : ∃ wz, wz = setEv w4 b at_ B i d := ⟨_, rfl⟩
              have hk := setEv_row hr4.out at_ B i d
              have hcz := (setEv_chg w4 b at_ B i d).owns (hE4.owns hok.out.1) (fun k hk h => by obtain ⟨_, _, hb⟩ := owns_row (hE4.owns hok.out.1) hk; omega)
              have hEz := setEv_ext hE04.out hbw.out at_ B i d
              rw [← hwz] at hk hcz hEz
              unfold setEv at hwz
              rw [← hwz]
              have k0 : wz.cell? ⟨b, 0, none⟩ = some (.int .i64 at_) := hk.cell 0 rfl
              have k1 : wz.cell? ⟨b, 1, none⟩ = some (.slice B i d) := hk.cell 1 rfl
              clear hwz hk
              have hz1 := hzz.out
              rw [if_pos trivial] at hz1
              exact bodyPost_ret (v := .tuple #[.agg #[.int .i64 at_, .slice B i d], .slice A3 rr.length c3, .int .i64 0]) (by simp [results, Tryz.results95, go_sem, k0, k1]) rfl (by rw [hz1]; exact ⟨hEz, B, d, A3, c3, by unfold Ev.val; simp only; rw [← hil.out], ⟨owns_lower hcz (by have := hbw.out; omega), hok.out.2⟩, hin8.out, huz⟩)
            · have hj0' : ¬ (j : Int) = 0 := by omega
              have hzn : Hid (Z = none) := hide (by rw [hzz.out, if_neg hj0])
              go_wp2_with fail
              refine hck.out.mono ?_
              rintro e w4 ⟨rfl, hE4⟩
              have hr4 := hrow.out.ext hE4
              have f4 := fun k => hr4.free k
              have g0 := hr4.cell 0 rfl
              have g1 := hr4.cell 1 rfl
              replace hr4 := hide hr4
              have hE04 := hide (hE.out.trans hE4)
              clear q0 q1
              go_wp2_with fail
              obtain ⟨wz, hwz⟩ : ∃ wz, wz = setEv w4 b 0 none 0 0 := ⟨_, rfl⟩; have hk := setEv_row hr4.out 0 none 0 0; rw [← hwz] at hk; have hEz := setEv_ext hE04.out hbw.out 0 none 0 0; rw [← hwz] at hEz; unfold setEv at hwz; rw [← hwz]; have k0 : wz.cell? ⟨b, 0, none⟩ = some (.int .i64 0) := hk.cell 0 rfl; have k1 : wz.cell? ⟨b, 1, none⟩ = some (.slice none 0 0) := hk.cell 1 rfl; clear hwz hk; exact bodyPost_ret (v := .tuple #[.agg #[.int .i64 0, .slice none 0 0], .slice none 0 0, .int .i64 100]) (by simp [results, Tryz.results95, go_sem, k0, k1]) rfl (GotE.no hEz hzn.out)
end
section
open Go.RowKit
theorem getFs_less : ∀ {k : Nat} {l r : List UInt8} {fs : List Fd}, getFs k l = some (fs, r) → r.length ≤ l.length
  | 0, l, r, fs, h => by unfold getFs at h; cases h; exact Nat.le_refl _
  | k + 1, l, r, fs, h => by
    unfold getFs at h
    split at h
    · cases h
    · rename_i nm r1 h1
      split at h
      · cases h
      · rename_i tx r2 h2
        split at h
        · cases h
        · rename_i fs' r3 h3
          cases h
          have a1 := (getT_ok h1).2.1
          have a2 := (getT_ok h2).2.1
          have a3 := getFs_less h3
          omega
theorem getV_less {l r : List UInt8} {n : Nat} (h : getV 0 l = .ok (n, r)) : r.length < l.length := by
  obtain ⟨_, _, q, hq, hne⟩ := getV_lt l 0 n r h
  have := List.length_pos_iff.2 hne
  rw [hq, List.length_append]
  omega
theorem getE_less {l r : List UInt8} {e : Ev} (h : getE l = some (e, r)) : r.length < l.length := by
  unfold getE at h
  split at h
  · cases h
  · rename_i u r1 h1
    split at h
    · cases h
    · rename_i n r2 h2
      split at h
      · cases h
      · split at h
        · cases h
        · rename_i fs r3 h3
          split at h
          · cases h
            have a1 := getV_less h1
            have a2 := getV_less h2
            have a3 := getFs_less h3
            omega
          · cases h
end
section
open Go.RowKit
theorem getV_code : ∀ (l : List UInt8) (i k : Nat), getV i l = .error k → k = 6 ∨ k = 20
  | [], i, k, h => by unfold getV at h; injection h with h; omega
  | x :: l, i, k, h => by
    unfold getV at h
    split at h
    · injection h with h; omega
    · split at h
      · injection h with h; omega
      · split at h
        · cases h
        · split at h
          · cases h
          · rename_i e hg
            injection h with h
            subst h
            exact getV_code l (i + 1) _ hg
theorem be_snoc (l : List UInt8) (x : UInt8) : be (l ++ [x]) = be l * 256 + x.toNat := by
  unfold be
  rw [List.foldl_append]
  rfl
def GotFB (w0 w : World) (res : Except Nat (List UInt8 × List UInt8)) (e : Ending) (w' : World) : Prop := Ext w w' ∧ match res with
  | .ok (p, r) => ∃ P cp A c base, e = .returned (.tuple #[.slice P p.length cp, .slice A r.length c, .int .i64 0]) ∧ Buf w' base 5 P p.length cp (p.map B8) ∧ In8 w0 A r.length c r
  | .error k => e = .returned (.tuple #[.slice none 0 0, .slice none 0 0, .int .i64 k])
theorem GotFB.no {w0 w w' : World} {res : Except Nat (List UInt8 × List UInt8)} {k : Nat} (hE : Ext w w') (h : res = .error k) : GotFB w0 w res (.returned (.tuple #[.slice none 0 0, .slice none 0 0, .int .i64 k])) w' := by
  subst h
  exact ⟨hE, rfl⟩
set_option maxRecDepth 100000 in
set_option maxHeartbeats 4000000 in
theorem fget_anyB (A : Option Addr) (n c : Nat) (l : List UInt8) (w0 w : World) (h : In8 w0 A n c l) (hw : Ext w0 w) (hle : n ≤ 1000000000) :
    Calls Tryz.prog 152 #[.slice A n c] w fun e w' => GotFB w0 w (getF l) e w' := by
  have hg := get_any A n c l w0 w h hw hle
  have hln := hide h.len
  obtain ⟨Z, hZ⟩ : ∃ Z, Z = getF l := ⟨_, rfl⟩
  rw [← hZ]
  unfold getF at hZ
  cases hv : getV 0 l with
  | error k =>
    rw [hv] at hg hZ
    simp only at hZ
    rcases getV_code l 0 k hv with rfl | rfl
    · rw [if_pos rfl] at hZ
      replace hZ := hide hZ
      replace hg := hide hg
      clear h hv
      go_enter Tryz.func152, Tryz.ntmps152
      go_wp2_with fail
      refine hg.out.mono ?_
      rintro e w1 ⟨hE1, rfl⟩
      go_wp2_with fail
      go_ret3
      exact GotFB.no hE1 hZ.out
    · rw [if_neg (by omega)] at hZ
      replace hZ := hide hZ
      replace hg := hide hg
      clear h hv
      go_enter Tryz.func152, Tryz.ntmps152
      go_wp2_with fail
      refine hg.out.mono ?_
      rintro e w1 ⟨hE1, rfl⟩
      go_wp2_with fail
      go_ret3
      exact GotFB.no hE1 hZ.out
  | ok p =>
    obtain ⟨m, r⟩ := p
    have hm64 := getV_lt64 hv
    have hrl := getV_less hv
    obtain ⟨hd, hhd, hhq⟩ := getV_other l 0 m r [] hv
    have hpre : l.length - r.length = hd.length := by rw [hhd, List.length_append]; omega
    rw [hv] at hg hZ
    simp only at hZ
    unfold Got at hg
    simp only at hg
    replace hg := hide hg
    clear hv hhq
    by_cases hbig : 16777216 < m
    · rw [if_pos hbig] at hZ
      replace hZ := hide hZ
      have hb' : (16777216 : Int) < m := by omega
      clear h
      go_enter Tryz.func152, Tryz.ntmps152
      go_wp2_with fail
      refine hg.out.mono ?_
      rintro e w1 ⟨hE1, A1, c1, rfl, hi1⟩
      go_wp2_with fail
      go_ret3
      exact GotFB.no hE1 hZ.out
    · rw [if_neg hbig] at hZ
      have hb' : ¬ (16777216 : Int) < m := by omega
      have hwm : IntKind.i64.wrap (m : Int) = (m : Int) := by
        simp [IntKind.wrap, IntKind.bits, IntKind.signed]
        omega
      by_cases hsh : r.length < 4 + m
      · rw [if_pos hsh] at hZ
        replace hZ := hide hZ
        have hs' : (r.length : Int) < 4 + (m : Int) := by omega
        clear h
        go_enter Tryz.func152, Tryz.ntmps152
        go_wp2_with fail
        refine hg.out.mono ?_
        rintro e w1 ⟨hE1, A1, c1, rfl, hi1⟩
        go_wp2_with fail
        go_ret3
        exact GotFB.no hE1 hZ.out
      · rw [if_neg hsh] at hZ
        have hs' : ¬ (r.length : Int) < 4 + (m : Int) := by omega
        obtain ⟨hhr, hhi⟩ := h.headk .i64 (k := l.length - r.length) (by have := hln.out; omega) (z := (n : Int) - (r.length : Int)) (by have := hln.out; omega)
        rw [hpre] at hhr hhi
        have hrn : r.length ≤ n := by have := hln.out; omega
        have hrn2 : r.length ≤ 1000000000 := by omega
        replace hZ := hide hZ
        replace hhi := hide hhi
        replace hpre := hide hpre
        replace hhd := hide hhd
        clear h hrl
        go_enter Tryz.func152, Tryz.ntmps152
        go_wp2_with fail
        refine hg.out.mono ?_
        rintro e w1 ⟨hE1, A1, c1, rfl, hi1⟩
        obtain ⟨h4r, h4i⟩ := hi1.headk .i64 (k := 4) (by omega) (z := 4) rfl
        obtain ⟨A2, c2, hpr, hpi⟩ := hi1.subk .i64 .i64 (fr := 4) (k := m) (by omega) (z0 := 4) (z := 4 + (m : Int)) rfl rfl
        obtain ⟨A3, c3, htr, hti⟩ := hi1.fromk .i64 (fr := 4 + m) (by omega) (z := 4 + (m : Int)) (by omega)
        replace h4i := hide h4i
        replace hpi := hide hpi
        replace hti := hide hti
        replace hi1 := hide hi1
        go_wp2_with fail
        go_loopw [7, 9, 43] (fun s7 _ s43 wr => ∃ (i v : Nat), s43 = .int .i64 (i : Int) ∧ i ≤ 4 ∧ s7 = .int .u32 (v : Int) ∧ v < 256 ^ i ∧ Hid (v = be (r.take i)) ∧ wr = w1) (fun _ _ s43 _ => 4 - (intOf s43).toNat)
        case atStart => exact ⟨0, 0, rfl, by omega, rfl, by decide, hide (by simp [be]), rfl⟩
        case round =>
          obtain ⟨i, v, rfl, hi, rfl, hv, hvb, rfl⟩ := hrel
          by_cases hi4 : i < 4
          · obtain ⟨x, hx⟩ : ∃ x, r[i]? = some x := ⟨_, List.getElem?_eq_getElem (by omega)⟩
            have htk : be (r.take (i + 1)) = v * 256 + x.toNat := by rw [take_one2 hx, be_snoc, hvb.out]
            have hx8 := x.toNat_lt
            have hpw : (256 : Nat) ^ i ≤ 256 ^ 3 := Nat.pow_le_pow_right (by omega) (by omega)
            have hv24 : v < 16777216 := by omega
            have hor : bits .or .u32 ((v : Int) * 256) (x.toNat : Int) = ((v * 256 + x.toNat : Nat) : Int) := by
              have h1 := u32_or_nat (v * 256) x.toNat (by omega) (by omega)
              have h2 := Nat.shiftLeft_add_eq_or_of_lt (show x.toNat < 2 ^ 8 by omega) v
              rw [Nat.shiftLeft_eq] at h2
              rw [show (2 : Nat) ^ 8 = 256 from rfl] at h2
              rw [h2, ← h1]
              simp
            have hnext : v * 256 + x.toNat < 256 ^ (i + 1) := by rw [Nat.pow_succ]; omega
            obtain ⟨g, o, hA1, hc⟩ := Cells.at_ (xs := (r.take 4).map B8) (h4i.out.bytes.ext (hw.trans hE1)) (by rw [List.length_map, List.length_take]; omega)
            have hcell := hc i (B8 x) (by rw [List.getElem?_map, List.getElem?_take, if_pos hi4, hx]; rfl)
            unfold B8 at hcell
            subst hA1
            replace htk := hide htk
            replace hnext := hide hnext
            obtain ⟨nx, hnx⟩ : ∃ nx, nx = v * 256 + x.toNat := ⟨_, rfl⟩
            rw [← hnx] at hor htk hnext
            replace hnx := hide hnx
            clear hx hc
            go_wp2_with fail
            refine ⟨⟨i + 1, nx, by go_num, by omega, rfl, hnext.out, hide htk.out.symm, trivial⟩, ?_⟩
            simp [intOf]
            omega
          · obtain rfl : i = 4 := by omega
            have hpl : ((r.drop 4).take m).length = m := by rw [List.length_take, List.length_drop]; omega
            have hhl : (l.take hd.length).length = hd.length := by rw [List.length_take, hhd.out, List.length_append]; omega
            have hdl : (r.drop (4 + m)).length = r.length - (4 + m) := List.length_drop
            have hE0 := hw.trans hE1
            have hpin := hpi.out.ext hE0
            obtain ⟨pl, hpld⟩ : ∃ pl, pl = (r.drop 4).take m := ⟨_, rfl⟩
            obtain ⟨hh, hhhd⟩ : ∃ hh, hh = l.take hd.length := ⟨_, rfl⟩
            rw [← hpld] at hpl hpin
            have hhi2 := hhi.out
            rw [← hhhd] at hhl hhi2
            have hcl := hide (clone_any A2 m c2 pl wr hpl.symm hpin.bytes hpin.nil_ (by omega))
            have hz2 := hZ.out
            rw [hpre.out, ← hhhd, ← hpld, ← hvb.out] at hz2
            replace hz2 := hide hz2
            replace hpld := hide hpld
            replace hhhd := hide hhhd
            replace hpl := hide hpl
            replace hhl := hide hhl
            replace hdl := hide hdl
            have hv32 : v < 4294967296 := hv
            clear hpin
            go_wp2_with fail
            refine hcl.out.mono ?_
            rintro e w3 ⟨P, cp, rfl, hb3, hE3⟩
            have hin3 := hb3.in8
            have hbf3 := hide hb3
            obtain ⟨w4, hw4⟩ : ∃ w4, w4 = w3.alloc (.cells #[.slice A hd.length c, .slice P m cp] 25) := ⟨_, rfl⟩
            have hE4 : Ext w3 w4 := by rw [hw4]; exact (Ext.refl w3).alloc _
            have hr4 : Row w4 w3.heap.size 25 #[.slice A hd.length c, .slice P m cp] := by rw [hw4]; exact Row.new w3 _ _
            have hsm := sum_any (some ⟨w3.heap.size, 0, none⟩) 2 2 [(A, c, hh), (P, cp, pl)] w4 rfl (.inr ⟨w3.heap.size, 0, rfl, fun i v hv => by
                rw [Nat.zero_add]
                refine hr4.cell i ?_
                have e1 := hhl.out
                have e2 := hpl.out
                simpa [e1, e2] using hv⟩) (fun q hq => by
                rcases List.mem_cons.1 hq with rfl | hq
                · have h := (hhi2.ext hE0).ext (hE3.trans hE4)
                  simp only
                  rw [hhl.out]
                  exact h
                · rw [List.mem_singleton.1 hq]
                  have h := hin3.ext hE4
                  simp only
                  rw [hpl.out]
                  exact h) (fun q hq => by
                rcases List.mem_cons.1 hq with rfl | hq
                · simp only; rw [hhl.out]; have := hln.out; have := hpre.out; omega
                · rw [List.mem_singleton.1 hq]; simp only; rw [hpl.out]; omega) (by omega)
            rw [show ([(A, c, hh), (P, cp, pl)].map fun p : Option Addr × Nat × List UInt8 => p.2.2) = [hh, pl] from rfl, show csum 0 [hh, pl] = cnext 0 (hh ++ pl) from cnext_app hh pl] at hsm
            obtain ⟨s, hs⟩ : ∃ s, s = cnext 0 (hh ++ pl) := ⟨_, rfl⟩
            have hz3 := hz2.out
            rw [← hs] at hsm hz3
            have hE14 := hide (hE1.trans (hE3.trans hE4))
            replace hsm := hide hsm
            replace hw4 := hide hw4
            replace hin3 := hide (hin3.ext hE4)
            have hbf4 := hide (hbf3.out.ext hE4)
            replace hs := hide hs
            clear hb3 hr4 hE0 hhi2
            by_cases hsv : s = v
            · subst hsv
              rw [if_pos rfl] at hz3
              replace hz3 := hide hz3
              go_wp2_with fail
              rw [← hw4.out]
              refine hsm.out.mono ?_
              rintro e w5 ⟨rfl, hE5⟩
              have hE15 := hide (hE14.out.trans hE5)
              have hbf5 := hide (hbf4.out.ext hE5)
              go_wp2_with fail
              refine wp_region_text follows (by kernel_rfl) (by kernel_rfl) (fun K hK => ?_)
              go_wp2_with fail
              refine ⟨by kernel_rfl, ?_⟩
              go_wp2_with fail
              go_ret3
              rw [hz3.out]
              exact ⟨hE15.out.drew, P, cp, A3, c3, _, by rw [hpl.out, hdl.out]; rfl, by rw [hpl.out]; exact hbf5.out.drew, by rw [hdl.out]; exact hti.out⟩
            · have hsv' : ¬ (s : Int) = v := by omega
              rw [if_neg hsv] at hz3
              replace hz3 := hide hz3
              go_wp2_with fail
              rw [← hw4.out]
              refine hsm.out.mono ?_
              rintro e w5 ⟨rfl, hE5⟩
              have hE15 := hide (hE14.out.trans hE5)
              go_wp2_with fail
              go_ret3
              exact GotFB.no hE15.out hz3.out
end
section
open Go.RowKit
attribute [local go_sem] Oper.semAt_some wide_depth wide_fn
def KeepS (B : Nat) (S : Nat → Prop) (W W' : World) : Prop := (∀ w0 : World, w0.heap.size ≤ B → Ext w0 W → Ext w0 W') ∧ ∀ k, S k → ∀ o, W.heap[k]? = some o → W'.heap[k]? = some o
theorem KeepS.trans (B : Nat) (S : Nat → Prop) (A C D : World) (h : KeepS B S A C) (k : KeepS B S C D) : KeepS B S A D := ⟨fun w0 h0 he => k.1 w0 h0 (h.1 w0 h0 he), fun i hi o ho => k.2 i hi o (h.2 i hi o ho)⟩
theorem KeepS.refl (B : Nat) (S : Nat → Prop) (A : World) : KeepS B S A A := ⟨fun _ _ h => h, fun _ _ _ h => h⟩
theorem KeepS.alike {H B : Nat} {S : Nat → Prop} (h0 : H ≤ B) (h1 : ∀ k, S k → k < B) (A C : World) (h : Alike B A C) : KeepS H S A C :=
  ⟨fun _ hs he => h.ext he (by omega), fun k hk _ ho => (h.block k (Array.getElem?_eq_some_iff.1 ho).1 (fun hn => by have := hn.1; have := h1 k hk; omega)).trans ho⟩
theorem KeepS.ext {B : Nat} {S : Nat → Prop} {A C : World} (h : Ext A C) : KeepS B S A C :=
  ⟨fun _ _ he => he.trans h, fun k _ _ ho => (Below.block h k (Array.getElem?_eq_some_iff.1 ho).1).trans ho⟩
theorem KeepS.row {B : Nat} {S : Nat → Prop} {A C : World} (h : KeepS B S A C) {k : Nat} (hk : S k) {t : TypeId} {cs : Array Value} (hr : Row A k t cs) : Row C k t cs := h.2 k hk _ hr
abbrev Pay := Option Addr × Nat × List UInt8 × Int
def Pay.val (x : Pay) : Value := .slice x.1 x.2.2.1.length x.2.1
def PayOk (W : World) (x : Pay) : Prop := ∃ base, Buf W base 5 x.1 x.2.2.1.length x.2.1 (x.2.2.1.map B8)
def pays (l : List Pay) : List (List UInt8) := l.map fun x => x.2.2.1
def NxF (b : List UInt8) (pre : List Pay) (x : Pay) (W : World) : Prop := PayOk W x ∧ ∃ r, splitF b = (pays (pre ++ [x]) ++ (splitF r).1, (splitF r).2)
def FinF (b : List UInt8) (ew : Nat) (xs : List Pay) (W W' : World) : Prop := (splitF b = (pays xs, 0) ∧ Ext W W') ∨ ∃ k W3, k ≠ 0 ∧ splitF b = (pays xs, k) ∧ Ext W W3 ∧ W' = W3.setCell ⟨ew, 0, none⟩ (.int .i64 (k : Int))
def FrIter (b : List UInt8) (B b1 b2 ew : Nat) (w : World) : Prop :=
  Iter Tryz.prog 151 #[.pointer (some ⟨b1, 0, none⟩), .pointer (some ⟨b2, 0, none⟩)] (fun x : Pay => #[.int .i64 x.2.2.2, x.val]) Ext (NxF b) (KeepS B fun k => k = b1 ∨ k = b2 ∨ k = ew) (FinF b ew) w
set_option maxRecDepth 100000 in
set_option maxHeartbeats 2000000 in
theorem frames_iter (A : Option Addr) (n c : Nat) (b : List UInt8) (B b1 b2 ew : Nat) (w0 w : World) (h : In8 w0 A n c b) (hB : w0.heap.size ≤ B) (hw : Ext w0 w) (hle : n ≤ 1000000000)
    (hb1 : Row w b1 25 #[.slice A n c]) (hb2 : Row w b2 168 #[.pointer (some ⟨ew, 0, none⟩)]) (hb3 : Row w ew 26 #[.int .i64 0]) : FrIter b B b1 b2 ew w := by
  intro l J W hE hst hY h0
  replace hb1 := hide (hb1.ext hE)
  replace hb2 := hide (hb2.ext hE)
  replace hb3 := hide (hb3.ext hE)
  replace hw := hide (hw.trans hE)
  clear hE
  replace hY := hide hY
  replace hst := hide hst
  replace h0 := hide h0
  have hln := hide h.len
  replace h := hide h
  have hget := hide (fun A n c r W (h : In8 w0 A n c r) (hw : Ext w0 W) (hle : n ≤ 1000000000) => fget_anyB A n c r w0 W h hw hle)
  refine (callsIn_wide (n := 0)).1 ?_
  refine callsIn_of_wp Tryz.func151 rfl trivial ?_
  simp only [Tryz.ntmps151, List.size_toArray, List.length_cons, List.length_nil, Nat.reduceAdd, Nat.reduceSub, Array.replicate_succ, Array.replicate_zero, List.push_toArray, List.append_toArray, List.nil_append, List.cons_append]
  have k10 := hb1.out.cell 0 rfl
  gi_wp2_with fail
  gi_loopw [4] (fun s4 wr => ∃ (A4 : Option Addr) (n4 c4 : Nat) (r : List UInt8) (pre : List Pay), s4 = .slice A4 n4 c4 ∧ n4 ≤ n ∧ Hid (In8 w0 A4 n4 c4 r) ∧ Hid (splitF b = (pays pre ++ (splitF r).1, (splitF r).2)) ∧ Hid (J pre wr) ∧ Hid (Ext w0 wr) ∧ Hid (Row wr b1 25 #[.slice A n c]) ∧ Hid (Row wr b2 168 #[.pointer (some ⟨ew, 0, none⟩)]) ∧ Hid (Row wr ew 26 #[.int .i64 0])) (fun s4 _ => match s4 with | .slice _ k _ => k | _ => 0)
  case atStart => exact ⟨A, n, c, b, [], rfl, Nat.le_refl _, h, hide rfl, h0, hw, hb1, hb2, hb3⟩
  case round =>
    obtain ⟨A4, n4, c4, r, pre, rfl, hn4, hi, hsp, hJ, hE, r1, r2, r3⟩ := hrel
    have k1 := r1.out.cell 0 rfl
    have k2 := r2.out.cell 0 rfl
    have hrl := hide hi.out.len
    by_cases hz : n4 = 0
    · have hz' : ¬ (0 : Int) < n4 := by omega
      have hr0 : r = [] := List.length_eq_zero_iff.1 (by rw [← hrl.out]; exact hz)
      subst hr0
      clear hY hget
      gi_wp2_with fail
      go_end0
      refine ⟨⟨_, rfl⟩, pre, _, hJ.out, .inl ⟨?_, Ext.refl _⟩⟩
      have := hsp.out
      rw [splitF_nil, List.append_nil] at this
      exact this
    · have hz' : (0 : Int) < n4 := by omega
      have hrne : r ≠ [] := fun e => by have := hrl.out; rw [e] at this; exact hz this
      have hg := hget.out A4 n4 c4 r wr hi.out hE.out (by omega)
      have hsp2 := hsp.out
      cases hgf : getF r with
      | error k =>
        rw [splitF_err hrne hgf, List.append_nil] at hsp2
        rw [hgf] at hg
        have hk0 : k ≠ 0 := by rcases getF_code hgf with h | h <;> omega
        have hk' : ¬ (k : Int) = 0 := by omega
        replace hsp2 := hide hsp2
        replace hg := hide hg
        clear hgf hY hrne
        gi_wp2_with fail
        refine (callsIn_wide.2 hg.out).mono ?_
        rintro e w2 ⟨hE2, rfl⟩
        have k22 := (r2.out.ext hE2).cell 0 rfl
        have k32 := (r3.out.ext hE2).cell 0 rfl
        have k3f := (r3.out.ext hE2).free 0
        have hJ2 := hide (hst.out _ _ _ hJ.out hE2)
        replace hE2 := hide hE2
        gi_wp2_with fail
        exact bodyPost_ret (results_none rfl _ _ _) rfl ⟨⟨_, rfl⟩, pre, _, hJ.out, .inr ⟨k, _, hk0, hsp2.out, hE2.out, rfl⟩⟩
      | ok q =>
        obtain ⟨p, r'⟩ := q
        rw [splitF_ok hrne hgf] at hsp2
        rw [hgf] at hg
        have hless := (getF_less hgf).1
        have hsp3 : splitF b = (pays (pre ++ [(none, 0, p, 0)]) ++ (splitF r').1, (splitF r').2) := by
          rw [hsp2]
          simp [pays]
        replace hsp2 := hide hsp2
        replace hsp3 := hide hsp3
        replace hg := hide hg
        clear hgf hrne
        gi_wp2_with fail
        refine (callsIn_wide.2 hg.out).mono ?_
        rintro e w2 ⟨hE2, P, cp, A5, c5, base, rfl, hbf, hi5⟩
        have r12 := hide (r1.out.ext hE2)
        have r22 := hide (r2.out.ext hE2)
        have r32 := hide (r3.out.ext hE2)
        have k12 := r12.out.cell 0 rfl
        have hJ2 := hide (hst.out _ _ _ hJ.out hE2)
        have hsp5 : splitF b = (pays (pre ++ [(P, cp, p, ((n : Int) - r'.length))]) ++ (splitF r').1, (splitF r').2) := by
          have := hsp3.out
          simp only [pays, List.map_append, List.map_cons, List.map_nil] at this ⊢
          exact this
        have hyx := hY.out pre (P, cp, p, ((n : Int) - r'.length)) w2 hJ2.out ⟨⟨base, hbf⟩, r', hsp5⟩
        obtain ⟨fn, tmps, assign, body, hy, hR⟩ := hyx
        simp only [Pay.val] at hy hR
        obtain ⟨n5, hn5⟩ : ∃ n5, n5 = r'.length := ⟨_, rfl⟩
        rw [← hn5] at hi5 hy hR hsp5 hless ⊢
        replace hless := Nat.lt_of_lt_of_eq hless hrl.out.symm
        obtain ⟨pl, hpl⟩ : ∃ pl, pl = p.length := ⟨_, rfl⟩
        rw [← hpl] at hbf hy ⊢
        replace hi5 := hide hi5
        replace hE2 := hide (hE.out.trans hE2)
        replace hsp5 := hide hsp5
        replace hbf := hide hbf
        replace hn5 := hide hn5
        replace hpl := hide hpl
        clear hY
        gi_wp2_with fail
        refine hR.mono ?_
        rintro e W3 ⟨rfl, hJ3, hk3⟩
        have r13 := hide (show Row W3 b1 25 #[.slice A n c] from hk3.row (.inl rfl) r12.out)
        have r23 := hide (show Row W3 b2 168 #[.pointer (some ⟨ew, 0, none⟩)] from hk3.row (.inr (.inl rfl)) r22.out)
        have hE3 := hide (hk3.1 w0 hB hE2.out)
        have r33 := hide (hk3.row (.inr (.inr rfl)) r32.out)
        gi_wp2_with fail
        exact ⟨⟨A5, n5, c5, r', _, rfl, by omega, hi5, hsp5, hide hJ3, hE3, r13, r23, r33⟩, by omega⟩
end
end Go.Proofs.YtkdcnhnaiknaaaaGreat
