/- Texts of one proof, joined. -/
import Derived.Test.YtkdcnhnaiknaaaaGreatFD18
import Derived.Test.YtkdcnhnaiknaaaaGreatFD19
import Derived.Test.YtkdcnhnaiknaaaaGreatFD12
import Derived.Test.YtkdcnhnaiknaaaaGreatFD03
import Derived.Test.YtkdcnhnaiknaaaaGreatFD17
import Derived.Test.YtkdcnhnaiknaaaaGreatFD04
import Derived.Test.YtkdcnhnaiknaaaaGreatFD15
import Derived.Test.YtkdcnhnaiknaaaaGreatFD02
import Derived.Test.YtkdcnhnaiknaaaaGreatFD05
set_option linter.unusedSimpArgs false
set_option linter.unusedVariables false
namespace Go.Proofs.YtkdcnhnaiknaaaaGreat
section
open Go.RowKit Go.Maps
def openD (b : List UInt8) : Option (List Dc) :=
  if b.take 4 = [76, 83, 69, 71] then
    if (splitF (b.drop 4)).2 = 0 ∧ (splitF (b.drop 4)).1.length = 6 then
      match decDs ((splitF (b.drop 4)).1.headD []) with
      | some P => if 0 < P.length ∧ segL P = b then some P else none
      | none => none
    else none
  else none
def SegR (w : World) (g : Nat) (P : List Dc) : Prop := ∃ (ds : List DocC) (A : Option Addr) (c : Nat) (lo hi fi la : Int) (B : Option Addr) (cB gd gf : Nat),
  Row w g 87 #[.slice A ds.length c, .int .i64 0, .int .i64 0, .int .i64 lo, .int .i64 hi, .int .i64 fi, .int .i64 la, .int .i64 (ds.length : Int), .pointer (some ⟨gd, 0, none⟩), .slice B (postB (rowsD P)).length cB, .pointer (some ⟨gf, 0, none⟩)] ∧
  dcs ds = P ∧ partD P = [lo, hi, fi, la, (ds.length : Int)] ∧ DocsOk w A ds ∧ DicR w gd (enOf 0 (rowsD P)) ∧ In8 w B (postB (rowsD P)).length cB (postB (rowsD P)) ∧ FilR w gf (ofB ((rowsD P).map (·.1)))
def SegO (w : World) (b : List UInt8) (e : Ending) (w' : World) : Prop := Ext w w' ∧ match openD b with
  | some P => ∃ g, e = .returned (.tuple #[.pointer (some ⟨g, 0, none⟩), .int .i64 0]) ∧ SegR w' g P
  | none => e = .returned (.tuple #[.pointer none, .int .i64 130])
theorem SegO.no {w w' : World} {b : List UInt8} (hE : Ext w w') (h : openD b = none) : SegO w b (.returned (.tuple #[.pointer none, .int .i64 130])) w' := by
  refine ⟨hE, ?_⟩
  rw [h]
theorem cells_set {w : World} {A : Option Addr} {xs : List Value} {p : Addr} {u0 : Value} (h : Cells w A xs) (hp : w.cell? p = some u0) (hne : ∀ v ∈ xs, v ≠ u0) (u : Value) : Cells (w.setCell p u) A xs := by
  rcases h with h | ⟨g, o, hA, hc⟩
  · exact .inl h
  · refine .inr ⟨g, o, hA, fun i v hv => ?_⟩
    have h1 := hc i v hv
    rw [World.cell?_setCell_other w p _ u (fun e => by
      rw [e] at hp
      rw [h1] at hp
      injection hp with hp
      exact hne v (List.mem_of_getElem? hv) hp)]
    exact h1
theorem encells_ne (l : List En) : ∀ v ∈ encells l, v ≠ Value.pointer none := fun v hv e => by
  unfold encells at hv
  obtain ⟨x, _, hx⟩ := List.mem_flatMap.1 hv
  unfold En.cells at hx
  simp only [List.mem_cons, List.not_mem_nil, or_false] at hx
  rcases hx with rfl | rfl | rfl | rfl <;> cases e
theorem DicR.set {w : World} {gd g i : Nat} {l : List En} {cs : Array Value} (h : DicR w gd l) (hr : Row w g 87 cs) (hi : cs[i]? = some (.pointer none)) (u : Value) : DicR (w.setCell ⟨g, i, none⟩ u) gd l := by
  obtain ⟨A, c, h1, h2⟩ := h
  exact ⟨A, c, h1.away (h1.unlike hr (by decide)) u, cells_set h2 (hr.cell i hi) (encells_ne l) u⟩
theorem FilO.set {w : World} {b gf g i : Nat} {f : List UInt8} {cs : Array Value} (h : FilO w b gf f) (hr : Row w g 87 cs) (u : Value) : FilO (w.setCell ⟨g, i, none⟩ u) b gf f := by
  obtain ⟨b1, c, cur, h1, hb, h2, h3, h4, h5⟩ := h
  exact ⟨b1, c, cur, h1.away (h1.unlike hr (by decide)) u, hb, h2.away (h2.unlike hr (by decide)) u, h3, h4, h5⟩
theorem frames_small {ds : List DocC} {m : Nat} {w : World} {A : Option Addr} (h : DocsOk w A ds) (hm : m = ds.length) (h0 : 0 < m) (hs : SmP (dcs ds)) : ∀ p ∈ framesD (dcs ds), p.length ≤ 16777216 := by
  have hB := hs.seg
  have hv : (vall (partD (dcs ds))).length ≤ 16777216 := by
    obtain ⟨x0, hx0⟩ : ∃ x, ds[0]? = some x := ⟨_, List.getElem?_eq_getElem (by omega)⟩
    obtain ⟨xl, hxl⟩ : ∃ x, ds[m - 1]? = some x := ⟨_, List.getElem?_eq_getElem (by omega)⟩
    have h1 := partD_of hm hx0 hxl
    have hall : ∀ d ∈ dcs ds, I64ok' d.2.at_ := fun d hd => by
      unfold dcs at hd
      obtain ⟨x, hx, rfl⟩ := List.mem_map.1 hd
      exact (h.each x hx).2.1
    have q0 := (h.each x0 (List.mem_of_getElem? hx0)).2
    have ql := (h.each xl (List.mem_of_getElem? hxl)).2
    have hn : m ≤ 65536 := by
      have := hB.n
      unfold dcs at this
      rw [List.length_map] at this
      omega
    rw [h1]
    have q1 := lowD_rng (dcs ds) _ q0.1 hall
    have q2 := highD_rng (dcs ds) _ q0.1 hall
    have q5 : I64ok' (m : Int) := by unfold I64ok'; omega
    have h2 := vall_take [lowD x0.e.at_ (dcs ds), highD x0.e.at_ (dcs ds), x0.seq, xl.seq, (m : Int)] (fun x hx => by
      simp only [List.mem_cons, List.not_mem_nil, or_false] at hx
      rcases hx with rfl | rfl | rfl | rfl | rfl
      · exact q1
      · exact q2
      · exact q0.2
      · exact ql.2
      · exact q5) 5
    exact Nat.le_trans h2 (by decide)
  intro p hp
  unfold framesD at hp
  simp only [List.mem_cons, List.not_mem_nil, or_false] at hp
  rcases hp with rfl | rfl | rfl | rfl | rfl | rfl
  · exact hB.docs
  · exact hB.times
  · exact Nat.le_trans hB.posts (by decide)
  · exact hB.dic
  · exact Nat.le_trans hB.bits.2 (by decide)
  · exact hv
set_option maxRecDepth 100000 in
set_option maxHeartbeats 4000000 in
theorem segOpen_any (A : Option Addr) (n c : Nat) (b : List UInt8) (w : World) (h : In8 w A n c b) (hle : n ≤ 1000000000) (hsm : ∀ P, (splitF (b.drop 4)).2 = 0 → decDs ((splitF (b.drop 4)).1.headD []) = some P → (blockD 0 P).length ≤ 70000) :
    Calls Tryz.prog 11 #[.slice A n c] w fun e w' => SegO w b e w' := by
  have hbl := h.len
  obtain ⟨k4, hk4⟩ : ∃ k : Nat, (k : Int) = min (n : Int) 4 := ⟨min n 4, by omega⟩
  have hk4n : k4 ≤ n := by omega
  have hmin := fun (W : World) => run_min2 (P := Tryz.prog) #[3, 3] 3 hk4 W
  obtain ⟨hsl, h4⟩ := h.headk .i64 hk4n (z := (k4 : Int)) rfl
  have hstr := fun (W : World) (hE : Ext w W) => run_str (A := A) (l := b.take k4) (w := W) (h4.bytes.ext hE) k4 c h4.len
  have htk : b.take k4 = b.take 4 := by
    by_cases hn4 : 4 ≤ n
    · have : k4 = 4 := by omega
      rw [this]
    · have : k4 = n := by omega
      rw [this, List.take_of_length_le (by omega), List.take_of_length_le (by omega)]
  have hhp := Tryz.strings_HasPrefix ⟨(b.take k4).toArray⟩ ⟨#[76, 83, 69, 71]⟩ w
  obtain ⟨hp, hhpe⟩ : ∃ hp, hp = Lib.hasPrefix (b.take 4) [76, 83, 69, 71] := ⟨_, rfl⟩
  have hhp2 : Calls Tryz.prog 48 #[.string ⟨(b.take k4).toArray⟩, .string ⟨#[76, 83, 69, 71]⟩] w fun e w' => e = .returned (.bool hp) ∧ w' = w := by
    rw [hhpe, ← htk]
    simpa using hhp
  have hiff : hp = true ↔ b.take 4 = [76, 83, 69, 71] := by
    rw [hhpe]
    unfold Lib.hasPrefix
    rw [List.isPrefixOf_iff_prefix]
    constructor
    · intro hpre
      exact (hpre.eq_of_length_le (by rw [List.length_take]; simp; omega)).symm
    · intro e; rw [e]; exact List.prefix_refl _
  have hstr0 := hstr w (Ext.refl w)
  replace hhp2 := hide hhp2
  replace h := hide h
  replace hsm := hide hsm
  clear hhp hstr h4
  have hbl2 := hide hbl
  replace hk4 := hide hk4
  replace hhpe := hide hhpe
  replace htk := hide htk
  by_cases hmg : hp = true
  · have hmg2 := hiff.1 hmg
    subst hmg
    have hn4 : 4 ≤ n := by
      have := congrArg List.length hmg2
      rw [List.length_take] at this
      simp at this
      omega
    obtain ⟨A4, c4, hfrom, hin4⟩ := h.out.from_ (fr := 4) hn4 (z := 4) rfl
    have hspl := split_any A4 (n - 4) c4 (b.drop 4) w hin4 (by omega)
    clear hbl
    replace hspl := hide hspl
    replace hin4 := hide hin4
    replace hmg2 := hide hmg2
    replace hiff := hide hiff
    go_enter Tryz.func11, Tryz.ntmps11
    go_wp2_with fail
    refine hhp2.out.mono ?_
    rintro e w1 ⟨rfl, rfl⟩
    go_wp2_with fail
    refine hspl.out.mono ?_
    rintro e w2 ⟨L, cL, z, ps, rfl, hcl, hps, hpo, hE2⟩
    have hop : openD b = if (splitF (b.drop 4)).2 = 0 ∧ ps.length = 6 then (match decDs ((pays ps).headD []) with | some P => if 0 < P.length ∧ segL P = b then some P else none | none => none) else none := by
      unfold openD
      rw [if_pos hmg2.out, ← hps]
      have : (pays ps).length = ps.length := List.length_map ..
      rw [this]
    have hsm2 := hsm.out
    rw [← hps] at hsm2
    obtain ⟨sc, hsc⟩ : ∃ sc, sc = (splitF (b.drop 4)).2 := ⟨_, rfl⟩
    rw [← hsc] at hop hsm2 ⊢
    have hsm0 : ∀ p ∈ pays ps, p.length ≤ 16777216 := fun p hp => by rw [hps] at hp; exact (splitF_small hp).1
    replace hsc := hide hsc
    replace hsm2 := hide hsm2
    replace hsm0 := hide hsm0
    obtain ⟨np, hnp⟩ : ∃ np, np = ps.length := ⟨_, rfl⟩
    rw [← hnp] at hop ⊢
    replace hnp := hide hnp
    replace hcl := hide hcl
    replace hps := hide hps
    replace hpo := hide hpo
    by_cases hsc0 : sc = 0
    · by_cases hn6 : np = 6
      · subst hsc0
        subst hn6
        rw [if_pos ⟨rfl, rfl⟩] at hop
        obtain ⟨⟨A0, k0, b0, z0⟩, ⟨A1, k1, b1, z1⟩, ⟨A2, k2, b2, z2⟩, ⟨A3, k3, b3, z3⟩, ⟨A4', k4', b4, z4⟩, ⟨A5, k5, b5, z5⟩, hpse⟩ : ∃ p0 p1 p2 p3 p4 p5 : Pay, ps = [p0, p1, p2, p3, p4, p5] := by
          have := hnp.out
          match ps, this with
          | [p0, p1, p2, p3, p4, p5], _ => exact ⟨p0, p1, p2, p3, p4, p5, rfl⟩
        subst hpse
        obtain ⟨gl, ol, hL, hcg⟩ := hcl.out.at_ (by simp)
        subst hL
        have l0 := hcg 0 (.slice A0 b0.length k0) rfl
        have l2 := hcg 2 (.slice A2 b2.length k2) rfl
        have l3 := hcg 3 (.slice A3 b3.length k3) rfl
        have l4 := hcg 4 (.slice A4' b4.length k4') rfl
        rw [Nat.add_zero] at l0
        have hp0 : (pays [(A0, k0, b0, z0), (A1, k1, b1, z1), (A2, k2, b2, z2), (A3, k3, b3, z3), (A4', k4', b4, z4), (A5, k5, b5, z5)]).headD [] = b0 := rfl
        rw [hp0] at hop
        have hsm3 := fun P hP => hsm2.out P rfl (by rw [hp0]; exact hP)
        have hi0 : In8 w2 A0 b0.length k0 b0 := by obtain ⟨bb, hb⟩ := hpo.out (A0, k0, b0, z0) (by simp); exact hb.in8
        have hl0 := hsm0.out b0 (by simp [pays])
        have hdec := sdDecode_any A0 b0.length k0 b0 w2 hi0 (by omega)
        obtain ⟨D, hD⟩ : ∃ D, D = decDs b0 := ⟨_, rfl⟩
        have hdok := fun P (h : decDs b0 = some P) => decDs_enc h
        rw [← hD] at hdec hop hdok
        have hsm4 : ∀ P, D = some P → (blockD 0 P).length ≤ 70000 := fun P hP => hsm3 P (by rw [← hD]; exact hP)
        obtain ⟨n0, hn0⟩ : ∃ n0, n0 = b0.length := ⟨_, rfl⟩
        rw [← hn0] at hdec l0
        replace hD := hide hD
        replace hdok := hide hdok
        replace hdec := hide hdec
        replace hop := hide hop
        replace hsm4 := hide hsm4
        replace hn0 := hide hn0
        clear hcg hsm3 hi0 hl0 hp0
        go_wp2_with fail
        refine hdec.out.mono ?_
        rintro e w3 ⟨hE3, hres⟩
        cases D with
        | none =>
          simp only at hres
          subst hres
          have hno : openD b = none := hop.out
          replace hno := hide hno
          go_wp2_with fail
          go_ret2
          exact SegO.no (hE2.trans hE3) hno.out
        | some P =>
          simp only at hres
          obtain ⟨ds, Ad, cd, hdP, rfl, hown⟩ := hres
          obtain ⟨hok, hen⟩ := hdok.out P rfl
          have hsz := hsm4.out P rfl
          have hPl : P.length = ds.length := by rw [← hdP]; exact List.length_map ..
          have hdo := hown.ok
          have hcap := hown.cap
          have hE23 := hE2.trans hE3
          have hop2 : openD b = if 0 < P.length ∧ segL P = b then some P else none := hop.out
          obtain ⟨m, hm⟩ : ∃ m, m = ds.length := ⟨_, rfl⟩
          rw [← hm] at hcap hPl ⊢
          rw [hPl] at hop2
          by_cases hm0 : m = 0
          · have hno : openD b = none := by rw [hop2, if_neg (fun e => by omega)]
            subst hm0
            have hse := segEncode_no ds Ad 0 cd w3 hm hdo hcap.2 hcap.1 (by omega) (.inr rfl)
            replace hse := hide hse
            replace hno := hide hno
            replace hm := hide hm
            clear hop2 hcap hown hdo
            go_wp2_with fail
            refine hse.out.mono ?_
            rintro e w4 ⟨rfl, hE4⟩
            go_wp2_with fail
            go_ret2
            exact SegO.no (hE23.trans hE4) hno.out
          · have hsm : SmP (dcs ds) := by rw [hdP]; exact ⟨hok, hsz⟩
            have hse := segEncode_yes ds Ad m cd w3 hm hdo hcap.2 hcap.1 hsm (by omega)
            rw [hdP] at hse
            have hB := (SmP.mk hok hsz).seg
            replace hse := hide hse
            replace hm := hide hm
            replace hop2 := hide hop2
            replace hB := hide hB
            go_wp2_with fail
            refine hse.out.mono ?_
            rintro e w4 ⟨A9, c9, rfl, hO9, hE4⟩
            obtain ⟨n9, hn9⟩ : ∃ n9, n9 = (segL P).length := ⟨_, rfl⟩
            rw [← hn9] at hO9 ⊢
            have hst1 := run_str (A := A9) (l := segL P) (w := w4) hO9.2.cells n9 c9 hn9
            have hst2 := run_str (A := A) (l := b) (w := w4) ((h.out.ext (hE23.trans hE4)).bytes) n c hbl2.out
            replace hn9 := hide hn9
            by_cases heq : segL P = b
            · rw [heq] at hst1
              have hE04 := hE23.trans hE4
              have hyes : openD b = some P := by rw [hop2.out, if_pos ⟨by omega, heq⟩]
              obtain ⟨x0, hx0⟩ : ∃ x, ds[0]? = some x := ⟨_, List.getElem?_eq_getElem (by have := hm.out; omega)⟩
              obtain ⟨xl, hxl⟩ : ∃ x, ds[m - 1]? = some x := ⟨_, List.getElem?_eq_getElem (by have := hm.out; omega)⟩
              have hpd := partD_of hm.out hx0 hxl
              obtain ⟨lo, hlo⟩ : ∃ z, z = lowD x0.e.at_ (dcs ds) := ⟨_, rfl⟩
              obtain ⟨hi', hhi⟩ : ∃ z, z = highD x0.e.at_ (dcs ds) := ⟨_, rfl⟩
              rw [← hlo, ← hhi] at hpd
              have hm6 : m ≤ 1000000 := by have := hB.out.n; omega
              have htold := fun X (hx : Ext w4 X) => told_any ds Ad m cd X hm.out (hdo.ext (hE4.trans hx)) hm6 (by omega)
              rw [hpd] at htold
              have hpr : prtA [lo, hi', x0.seq, xl.seq, (m : Int)] = #[.int .i64 0, .int .i64 0, .int .i64 lo, .int .i64 hi', .int .i64 x0.seq, .int .i64 xl.seq, .int .i64 (m : Int)] := rfl
              rw [hpr] at htold
              obtain ⟨bb2, hb2⟩ := hpo.out (A2, k2, b2, z2) (by simp)
              simp only at hb2
              have hb24 := hb2.ext (hE3.trans hE4)
              have hl2b := hsm0.out b2 (by simp [pays])
              obtain ⟨n2, hn2⟩ : ∃ n2, n2 = b2.length := ⟨_, rfl⟩
              rw [← hn2] at hb24 l2 hl2b
              have hclone := fun X (hx : Ext w4 X) => clone_any A2 n2 k2 b2 X hn2 (hb24.ext hx).cells (buf_nil hb24) (by omega)
              have lx2 := (hE3.trans hE4).cell l2
              replace hpd := hide hpd
              replace hlo := hide hlo
              replace hhi := hide hhi
              replace hx0 := hide hx0
              replace hxl := hide hxl
              replace htold := hide htold
              replace hclone := hide hclone
              replace hn2 := hide hn2
              replace hyes := hide hyes
              clear hpr
              go_upto_region 12 with fail
              go_cut [10] (fun s10 wy => ∃ g BC cC, s10 = .pointer (some ⟨g, 0, none⟩) ∧ Hid (Row wy g 87 #[.slice Ad m cd, .int .i64 0, .int .i64 0, .int .i64 lo, .int .i64 hi', .int .i64 x0.seq, .int .i64 xl.seq, .int .i64 (m : Int), .pointer none, .slice BC n2 cC, .pointer none]) ∧ Hid (Buf wy w4.heap.size 5 BC n2 cC (b2.map B8)) ∧ Hid (Ext w4 wy) ∧ w4.heap.size ≤ g)
              case first =>
                have hX : Hid (Ext w4 w4) := hide (Ext.refl w4)
                go_region_held3 (fun x => x.cell? ⟨gl, ol + 2, none⟩ = some (.slice A2 n2 k2))
                  (exact (hX.out.trans (by (first | with_reducible exact Ext.refl _ | with_reducible exact Ext.drew (Ext.refl _) | with_reducible exact Ext.alloc (Ext.refl _) _ | with_reducible exact Ext.drew (Ext.alloc (Ext.refl _) _) | with_reducible exact Ext.alloc (Ext.drew (Ext.refl _)) _ | with_reducible exact Ext.alloc (Ext.alloc (Ext.refl _) _) _ | with_reducible exact Ext.drew (Ext.alloc (Ext.alloc (Ext.refl _) _) _)))).cell lx2)
                  (first
                  | (go_at_call 42; refine (htold.out _ (hX.out.trans (by (first | with_reducible exact Ext.refl _ | with_reducible exact Ext.drew (Ext.refl _) | with_reducible exact Ext.alloc (Ext.refl _) _ | with_reducible exact Ext.drew (Ext.alloc (Ext.refl _) _) | with_reducible exact Ext.alloc (Ext.drew (Ext.refl _)) _ | with_reducible exact Ext.alloc (Ext.alloc (Ext.refl _) _) _ | with_reducible exact Ext.drew (Ext.alloc (Ext.alloc (Ext.refl _) _) _))))).mono ?_; rintro e w9 ⟨rfl, hE'⟩; (try replace hBC := hide (hBC.out.ext (Ext.trans (by (first | with_reducible exact Ext.refl _ | with_reducible exact Ext.drew (Ext.refl _) | with_reducible exact Ext.alloc (Ext.refl _) _ | with_reducible exact Ext.drew (Ext.alloc (Ext.refl _) _) | with_reducible exact Ext.alloc (Ext.drew (Ext.refl _)) _ | with_reducible exact Ext.alloc (Ext.alloc (Ext.refl _) _) _ | with_reducible exact Ext.drew (Ext.alloc (Ext.alloc (Ext.refl _) _) _))) hE'))); replace hX := hide (hX.out.trans (Ext.trans (by (first | with_reducible exact Ext.refl _ | with_reducible exact Ext.drew (Ext.refl _) | with_reducible exact Ext.alloc (Ext.refl _) _ | with_reducible exact Ext.drew (Ext.alloc (Ext.refl _) _) | with_reducible exact Ext.alloc (Ext.drew (Ext.refl _)) _ | with_reducible exact Ext.alloc (Ext.alloc (Ext.refl _) _) _ | with_reducible exact Ext.drew (Ext.alloc (Ext.alloc (Ext.refl _) _) _))) hE')); clear hE')
                  | (go_at_call 51; refine (hclone.out _ (hX.out.trans (by (first | with_reducible exact Ext.refl _ | with_reducible exact Ext.drew (Ext.refl _) | with_reducible exact Ext.alloc (Ext.refl _) _ | with_reducible exact Ext.drew (Ext.alloc (Ext.refl _) _) | with_reducible exact Ext.alloc (Ext.drew (Ext.refl _)) _ | with_reducible exact Ext.alloc (Ext.alloc (Ext.refl _) _) _ | with_reducible exact Ext.drew (Ext.alloc (Ext.alloc (Ext.refl _) _) _))))).mono ?_; rintro e w9 ⟨BC, cC, rfl, hBC, hE'⟩; have hBC := hide (hBC.lower (hX.out.trans (by (first | with_reducible exact Ext.refl _ | with_reducible exact Ext.drew (Ext.refl _) | with_reducible exact Ext.alloc (Ext.refl _) _ | with_reducible exact Ext.drew (Ext.alloc (Ext.refl _) _) | with_reducible exact Ext.alloc (Ext.drew (Ext.refl _)) _ | with_reducible exact Ext.alloc (Ext.alloc (Ext.refl _) _) _ | with_reducible exact Ext.drew (Ext.alloc (Ext.alloc (Ext.refl _) _) _)))).size); replace hX := hide (hX.out.trans (Ext.trans (by (first | with_reducible exact Ext.refl _ | with_reducible exact Ext.drew (Ext.refl _) | with_reducible exact Ext.alloc (Ext.refl _) _ | with_reducible exact Ext.drew (Ext.alloc (Ext.refl _) _) | with_reducible exact Ext.alloc (Ext.drew (Ext.refl _)) _ | with_reducible exact Ext.alloc (Ext.alloc (Ext.refl _) _) _ | with_reducible exact Ext.drew (Ext.alloc (Ext.alloc (Ext.refl _) _) _))) hE')); clear hE'))
                all_goals (go_wp2_with fail)
                all_goals go_meet
                all_goals (case rel => exact ⟨_, _, _, rfl, hide (Row.new _ _ _), hide (hBC.out.ext ((Ext.refl _).alloc _)), hide (hX.out.trans ((Ext.refl _).alloc _)), hX.out.size⟩)
              case rest =>
                obtain ⟨g, BC, cC, rfl, hrg, hBC, hEy, hgw⟩ := hcut
                have hfr : [b0, b1, b2, b3, b4, b5] = framesD P := by
                  have h1 := hps.out
                  rw [← heq] at h1
                  have h2 : (segL P).drop 4 = joinL (framesD P) := rfl
                  rw [h2, splitF_join _ (by rw [← hdP]; exact frames_small hdo hm.out (by omega) hsm)] at h1
                  exact h1
                unfold framesD at hfr
                injection hfr with f0 hfr
                injection hfr with f1 hfr
                injection hfr with f2 hfr
                injection hfr with f3 hfr
                injection hfr with f4 hfr
                have hEc := (hE3.trans hE4).trans hEy.out
                have lx3 := hEc.cell l3
                obtain ⟨bb3, hb3⟩ := hpo.out (A3, k3, b3, z3) (by simp)
                obtain ⟨bb4, hb4⟩ := hpo.out (A4', k4', b4, z4) (by simp)
                simp only at hb3 hb4
                have hglt : gl < w4.heap.size := by
                  have h1 := World.block_lt_of_cell? w2 _ l3
                  have h2 := (hE3.trans hE4).size
                  simp only at h1
                  omega
                have hl3 : b3.length ≤ 16777216 := hsm0.out b3 (by simp [pays])
                have hop3 := dOpen_any A3 b3.length k3 b3 wc (enOf 0 (rowsD P)) (hb3.ext hEc).in8 hB.out.ens f3 (by omega)
                have hb4l : 8 ≤ b4.length ∧ b4.length ≤ 131072 := by rw [f4]; exact hB.out.bits
                obtain ⟨n3, hn3⟩ : ∃ n3, n3 = b3.length := ⟨_, rfl⟩
                obtain ⟨n4, hn4'⟩ : ∃ n4, n4 = b4.length := ⟨_, rfl⟩
                rw [← hn3] at lx3 hop3
                have lx4 := hEc.cell l4
                rw [← hn4'] at lx4 hb4l
                replace hn3 := hide hn3
                replace hn4' := hide hn4'
                replace hop3 := hide hop3
                replace hEc := hide hEc
                replace f2 := hide f2
                replace f3 := hide f3
                replace f4 := hide f4
                replace hb4 := hide hb4
                replace hb3 := hide hb3
                clear f0 f1 hfr l0 l2 l3 l4 lx2
                go_wp2_with fail
                refine hop3.out.mono ?_
                rintro e w5 ⟨gd, rfl, hdic, hE5⟩
                have r1 := hrg.out.ext hE5
                have y8 := r1.cell 8 rfl
                have z8 := r1.free 8
                have lx45 := hE5.cell lx4
                have hne : gl ≠ g := by omega
                have hne2 : g ≠ gl := by omega
                replace hdic := hide hdic
                replace r1 := hide r1
                replace hE5 := hide hE5
                clear lx3 lx4
                go_wp2_with fail
                obtain ⟨W6, hW6⟩ : ∃ W6, W6 = w5.setCell ⟨g, 8, none⟩ (.pointer (some ⟨gd, 0, none⟩)) := ⟨_, rfl⟩
                rw [← hW6]
                have hg2 : w2.heap.size ≤ g := Nat.le_trans (hE3.trans hE4).size hgw
                have hE26 : Ext w2 W6 := by rw [hW6]; exact (hEc.out.trans hE5.out).setCell (p := ⟨g, 8, none⟩) hg2 _
                have hE36 : Ext w3 W6 := by rw [hW6]; exact ((hE4.trans hEy.out).trans hE5.out).setCell (p := ⟨g, 8, none⟩) (Nat.le_trans hE4.size hgw) _
                have r6 : Row W6 g 87 #[.slice Ad m cd, .int .i64 0, .int .i64 0, .int .i64 lo, .int .i64 hi', .int .i64 x0.seq, .int .i64 xl.seq, .int .i64 (m : Int), .pointer (some ⟨gd, 0, none⟩), .slice BC n2 cC, .pointer none] := by rw [hW6]; exact r1.out.put 8 _
                have hd6 : DicR W6 gd (enOf 0 (rowsD P)) := by rw [hW6]; exact hdic.out.set r1.out rfl _
                have hb5 := hBC.out.ext hE5.out
                have hc6 : Buf W6 w4.heap.size 5 BC n2 cC (b2.map B8) := by rw [hW6]; exact hb5.setCell (hb5.unlike r1.out (by decide)) _
                have hfr6 := fread_any A4' b4.length k4' b4 W6 (hb4.out.ext hE26).in8 (by rw [← hn4'.out]; exact hb4l.1) (by rw [← hn4'.out]; exact hb4l.2)
                rw [← hn4'.out] at hfr6
                replace hfr6 := hide hfr6
                replace hW6 := hide hW6
                refine hfr6.out.mono ?_
                rintro e w7 ⟨gf, rfl, _, hfo, hE7⟩
                have r7 := r6.ext hE7
                have y10 := r7.cell 10 rfl
                have z10 := r7.free 10
                replace hfo := hide hfo
                replace r7 := hide r7
                replace hE7 := hide hE7
                clear r1 r6 hfr6 y8 z8 lx45
                go_wp2_with fail
                go_ret2
                have hgw2 := Nat.le_trans hE2.size hg2
                have r8 := r7.out.put 10 (.pointer (some ⟨gf, 0, none⟩))
                have hc7 := hc6.ext hE7.out
                have hc8 := hc7.setCell (p := ⟨g, 10, none⟩) (hc7.unlike r7.out (by decide)) (.pointer (some ⟨gf, 0, none⟩))
                have hd8 := (hd6.ext hE7.out).set r7.out (i := 10) rfl (.pointer (some ⟨gf, 0, none⟩))
                have hf8 := (hfo.out.set r7.out (i := 10) (.pointer (some ⟨gf, 0, none⟩))).fil
                have hdo8 := hdo.ext ((hE36.trans hE7.out).setCell (p := ⟨g, 10, none⟩) (Nat.le_trans hE4.size hgw) (.pointer (some ⟨gf, 0, none⟩)))
                refine ⟨(hE2.trans (hE26.trans hE7.out)).setCell (p := ⟨g, 10, none⟩) hgw2 _, ?_⟩
                rw [hyes.out]
                have hm2 := hm.out
                have hn22 : n2 = (postB (rowsD P)).length := by rw [hn2.out, f2.out]
                rw [hn22, f2.out] at hc8
                rw [f4.out] at hf8
                subst hm2
                rw [hn22] at r8
                exact ⟨g, rfl, ds, Ad, cd, lo, hi', x0.seq, xl.seq, BC, cC, gd, gf, r8, hdP, by rw [← hdP]; exact hpd.out, hdo8, hd8, hc8.in8, hf8⟩
            · have hno : openD b = none := by rw [hop2.out, if_neg (fun e => heq e.2)]
              have hbq : (segL P == b) = false := beq_eq_false_iff_ne.2 heq
              replace hno := hide hno
              go_wp2_with fail
              go_ret2
              exact SegO.no (hE23.trans hE4) hno.out
      · have hno : openD b = none := by rw [hop, if_neg (fun e => hn6 e.2)]
        have hn6' : ((np : Int) == 6) = false := by simp; omega
        subst hsc0
        replace hno := hide hno
        clear hop
        go_wp2_with fail
        go_ret2
        exact SegO.no hE2 hno.out
    · have hno : openD b = none := by rw [hop, if_neg (fun e => hsc0 e.1)]
      have hsc' : ((sc : Int) == 0) = false := by simp; omega
      replace hno := hide hno
      clear hop
      go_wp2_with fail
      go_ret2
      exact SegO.no hE2 hno.out
  · have hno : openD b = none := by
      unfold openD
      rw [if_neg (fun e => hmg (hiff.2 e))]
    replace hno := hide hno
    clear hbl
    go_enter Tryz.func11, Tryz.ntmps11
    go_wp2_with fail
    refine hhp2.out.mono ?_
    rintro e w1 ⟨rfl, rfl⟩
    go_wp2_with fail
    go_ret2
    exact SegO.no (Ext.refl _) hno.out
end
section
open Go.RowKit
set_option maxRecDepth 100000 in
theorem dnone_no (g : Nat) (l : List En) (w : World) (h : DicR w g l) : Calls Tryz.prog 129 #[.pointer (some ⟨g, 0, none⟩)] w fun e w' => e = .returned (.bool false) ∧ w' = w := by
  obtain ⟨A, c, hr, _⟩ := h
  have k1 := hr.cell 1 rfl
  replace hr := hide hr
  go_enter Tryz.func129, Tryz.ntmps129
  go_wp2_with fail
  go_ret
  exact ⟨rfl, rfl⟩
set_option maxRecDepth 100000 in
theorem dlen_any (g : Nat) (l : List En) (w : World) (h : DicR w g l) : Calls Tryz.prog 76 #[.pointer (some ⟨g, 0, none⟩)] w fun e w' => e = .returned (.int .i64 (l.length : Int)) ∧ w' = w := by
  have hno := hide (dnone_no g l w h)
  obtain ⟨A, c, hr, _⟩ := h
  have k0 := hr.cell 0 rfl
  obtain ⟨n, hn⟩ : ∃ n, n = l.length := ⟨_, rfl⟩
  rw [← hn] at k0 ⊢
  replace hn := hide hn
  replace hr := hide hr
  go_enter Tryz.func76, Tryz.ntmps76
  go_wp2_with fail
  refine hno.out.mono ?_
  rintro e w1 ⟨rfl, hw⟩
  obtain rfl := hw.symm
  go_wp2_with fail
  go_ret
  exact ⟨rfl, rfl⟩
def SeaP (n : Nat) (p : Nat → Bool) (w : World) (e : Ending) (w' : World) : Prop := ∃ k : Nat, e = .returned (.int .i64 (k : Int)) ∧ k ≤ n ∧ (∀ i, i < k → p i = false) ∧ (∀ i, k ≤ i → i < n → p i = true) ∧ Ext w w'
set_option maxRecDepth 100000 in
set_option maxHeartbeats 1000000 in
theorem search_any (n cf : Nat) (c1 c2 : Value) (p : Nat → Bool) (w : World) (hn : n ≤ 1000000000) (hcf : cf = 160)
    (hcl : ∀ W i, Ext w W → i < n → Calls Tryz.prog cf #[.int .i64 (i : Int), c1, c2] W fun e W' => e = .returned (.bool (p i)) ∧ Ext W W') (hup : ∀ i j, i ≤ j → j < n → p i = true → p j = true) :
    Calls Tryz.prog 159 #[.int .i64 (n : Int), .func (.func cf) #[] #[c1, c2]] w fun e w' => SeaP n p w e w' := by
  subst hcf
  replace hcl := hide hcl
  replace hup := hide hup
  go_enter Tryz.func159, Tryz.ntmps159
  go_wp2_with fail
  go_loopw [5, 6] (fun s5 s6 wr => ∃ i j : Nat, s5 = .int .i64 (i : Int) ∧ s6 = .int .i64 (j : Int) ∧ i ≤ j ∧ j ≤ n ∧ Hid (∀ k, k < i → p k = false) ∧ Hid (∀ k, j ≤ k → k < n → p k = true) ∧ Hid (Ext w wr)) (fun s5 s6 _ => (intOf s6).toNat - (intOf s5).toNat)
  case atStart => exact ⟨0, n, rfl, rfl, by omega, by omega, hide (fun k hk => by omega), hide (fun k h1 h2 => by omega), hide (Ext.refl w)⟩
  case round =>
    obtain ⟨i, j, rfl, rfl, hij, hjn, hlo, hhi, hE⟩ := hrel
    by_cases hlt : i < j
    · obtain ⟨m, hm⟩ : ∃ m, m = (i + j) / 2 := ⟨_, rfl⟩
      have him : i ≤ m := by omega
      have hmj : m < j := by omega
      have hc := hide (hcl.out wr m hE.out (by omega))
      obtain ⟨v, hv⟩ : ∃ v, v = p m := ⟨_, rfl⟩
      rw [← hv] at hc
      obtain ⟨sm, hsm⟩ : ∃ sm, sm = i + j := ⟨_, rfl⟩
      have hadd : (i : Int) + (j : Int) = (sm : Int) := by omega
      have hsm9 : sm ≤ 2000000000 := by omega
      have hwu : IntKind.u64.wrap (sm : Int) = (sm : Int) := wrap_u64 (by omega)
      have hdv : (sm : Int) / 2 = (m : Int) := by omega
      have hlo2 : v = false → ∀ k, k < m + 1 → p k = false := fun hvf k hk => by
        cases hpk : p k with
        | false => rfl
        | true =>
          have := hup.out k m (by omega) (by omega) hpk
          rw [← hv, hvf] at this
          cases this
      have hhi2 : v = true → ∀ k, m ≤ k → k < n → p k = true := fun hvt k h1 h2 => hup.out m k h1 h2 (by rw [← hv, hvt])
      replace hm := hide hm
      replace hv := hide hv
      replace hsm := hide hsm
      replace hlo2 := hide hlo2
      replace hhi2 := hide hhi2
      cases v with
      | false =>
        replace hlo2 := hide (hlo2.out rfl)
        go_wp2_with fail
        refine hc.out.mono ?_
        rintro e w3 ⟨rfl, hE3⟩
        replace hE3 := hide (hE.out.trans hE3)
        go_wp2_with fail
        exact ⟨⟨m + 1, j, by congr 1, rfl, by omega, hjn, hlo2, hhi, hE3⟩, by simp only [intOf]; omega⟩
      | true =>
        replace hhi2 := hide (hhi2.out rfl)
        go_wp2_with fail
        refine hc.out.mono ?_
        rintro e w3 ⟨rfl, hE3⟩
        replace hE3 := hide (hE.out.trans hE3)
        go_wp2_with fail
        exact ⟨⟨i, m, rfl, rfl, him, by omega, hlo, hhi2, hE3⟩, by simp only [intOf]; omega⟩
    · obtain rfl : i = j := by omega
      go_wp2_with fail
      go_ret
      exact ⟨i, rfl, hjn, hlo.out, hhi.out, hE.out⟩
end
section
open Go.RowKit
structure FloP (l : List En) (t : List UInt8) (k : Nat) : Prop where
  le : k ≤ l.length
  iff : ∀ i x, l[i]? = some x → (i < k ↔ x.t < t)
def FloR (l : List En) (t : List UInt8) (w : World) (e : Ending) (w' : World) : Prop := ∃ k : Nat, e = .returned (.int .i64 (k : Int)) ∧ FloP l t k ∧ Ext w w'
set_option maxRecDepth 100000 in
set_option maxHeartbeats 1000000 in
theorem floor1_any (i g b1 b2 : Nat) (l : List En) (t : List UInt8) (x : En) (w : World) (h : DicR w g l) (h1 : Row w b1 82 #[.pointer (some ⟨g, 0, none⟩)]) (h2 : Row w b2 9 #[.string ⟨t.toArray⟩]) (hx : l[i]? = some x) (hl : l.length ≤ 1000000000) :
    Calls Tryz.prog 160 #[.int .i64 (i : Int), .pointer (some ⟨b1, 0, none⟩), .pointer (some ⟨b2, 0, none⟩)] w fun e w' => e = .returned (.bool (!decide (x.t < t))) ∧ Ext w w' := by
  obtain ⟨A, c, hr, hc⟩ := h
  obtain ⟨ga, o, rfl, x0, _⟩ := encells_at hc hx
  have hin := (List.getElem?_eq_some_iff.1 hx).1
  have k0 := hr.cell 0 rfl
  have k1 := h1.cell 0 rfl
  have k2 := h2.cell 0 rfl
  obtain ⟨n, hn⟩ : ∃ n, n = l.length := ⟨_, rfl⟩
  rw [← hn] at k0 hin hl
  have hb := bytesLess_eq x.t t
  obtain ⟨v, hv⟩ : ∃ v, v = decide (x.t < t) := ⟨_, rfl⟩
  rw [← hv] at hb ⊢
  obtain ⟨s, hs⟩ : ∃ s, s = x.t := ⟨_, rfl⟩
  rw [← hs] at hb x0
  replace hn := hide hn
  replace hv := hide hv
  replace hs := hide hs
  replace hr := hide hr
  replace h1 := hide h1
  replace h2 := hide h2
  replace hx := hide hx
  replace hc := hide hc
  go_enter Tryz.func160, Tryz.ntmps160
  go_wp2_with fail
  refine wp_region_text follows (by kernel_rfl) (by kernel_rfl) (fun K hK => ?_)
  go_wp2_with fail
  refine ⟨by kernel_rfl, ?_⟩
  go_wp2_with fail
  go_ret
  exact ⟨rfl, (Ext.refl w).drew⟩
set_option maxRecDepth 100000 in
set_option maxHeartbeats 1000000 in
theorem floor_any (g : Nat) (l : List En) (t : List UInt8) (w : World) (h : DicR w g l) (hok : OkEs l) :
    Calls Tryz.prog 105 #[.pointer (some ⟨g, 0, none⟩), .string ⟨t.toArray⟩] w fun e w' => FloR l t w e w' := by
  obtain ⟨W2, hW2⟩ : ∃ W2, W2 = (w.alloc (.cells #[.pointer (some ⟨g, 0, none⟩)] 82)).alloc (.cells #[.string ⟨t.toArray⟩] 9) := ⟨_, rfl⟩
  obtain ⟨b1, hb1⟩ : ∃ b1, b1 = w.heap.size := ⟨_, rfl⟩
  have r1 : Row W2 b1 82 #[.pointer (some ⟨g, 0, none⟩)] := by rw [hW2, hb1]; exact (Row.new w _ _).alloc _
  have r2 : Row W2 (b1 + 1) 9 #[.string ⟨t.toArray⟩] := by
    have := Row.new (w.alloc (.cells #[.pointer (some ⟨g, 0, none⟩)] 82)) 9 #[.string ⟨t.toArray⟩]
    rw [World.size_alloc, ← hb1] at this
    rw [hW2]; exact this
  have hE2 : Ext w W2 := by rw [hW2]; exact ((Ext.refl w).alloc _).alloc _
  have hD2 := h.ext hE2
  have hlen := hide (dlen_any g l W2 hD2)
  obtain ⟨n, hn⟩ : ∃ n, n = l.length := ⟨_, rfl⟩
  have hn9 : n ≤ 262144 := by rw [hn]; exact hok.few
  have hmono : ∀ i j, i ≤ j → j < n → (!decide ((l[i]?.getD ⟨[], 0, 0, 0⟩).t < t)) = true → (!decide ((l[j]?.getD ⟨[], 0, 0, 0⟩).t < t)) = true := by
    intro i j hij hj
    rw [hn] at hj
    rw [List.getElem?_eq_getElem hj, List.getElem?_eq_getElem (Nat.lt_of_le_of_lt hij hj)]
    simp only [Option.getD_some, Bool.not_eq_true', decide_eq_false_iff_not]
    intro hi hjl
    rcases Nat.lt_or_eq_of_le hij with hlt | rfl
    · exact hi (List.lt_trans (List.pairwise_iff_getElem.1 hok.up i j _ hj hlt) hjl)
    · exact hi hjl
  have hsea := hide (search_any n 160 (.pointer (some ⟨b1, 0, none⟩)) (.pointer (some ⟨b1 + 1, 0, none⟩)) (fun i => !decide ((l[i]?.getD ⟨[], 0, 0, 0⟩).t < t)) W2 (by omega) rfl
    (fun W i hE hi => by
      obtain ⟨x, hx⟩ : ∃ x, l[i]? = some x := ⟨_, List.getElem?_eq_getElem (by rw [← hn]; exact hi)⟩
      have := floor1_any i g b1 (b1 + 1) l t x W (hD2.ext hE) (r1.ext hE) (r2.ext hE) hx (by omega)
      rw [hx]
      exact this) hmono)
  rw [← hn] at hlen
  have k1 := r1.cell 0 rfl
  replace hn := hide hn
  replace hb1 := hide hb1
  replace hW2 := hide hW2
  replace hE2 := hide hE2
  replace hD2 := hide hD2
  replace r1 := hide r1
  replace r2 := hide r2
  replace h := hide h
  replace hok := hide hok
  clear hmono
  go_enter Tryz.func105, Tryz.ntmps105
  go_wp2_with fail
  rw [← hW2.out, ← hb1.out]
  refine hlen.out.mono ?_
  rintro e w1 ⟨rfl, hw⟩
  obtain rfl := hw.symm
  go_wp2_with fail
  refine hsea.out.mono ?_
  rintro e w3 ⟨k, rfl, hk, hlo, hhi, hE⟩
  have hfl : FloP l t k := by
    refine ⟨by rw [← hn.out]; exact hk, fun i x hx => ?_⟩
    have hi := (List.getElem?_eq_some_iff.1 hx).1
    constructor
    · intro hik
      have := hlo i hik
      dsimp only at this
      rw [hx] at this
      simpa using this
    · intro hxt
      apply Decidable.byContradiction
      intro hik
      have := hhi i (by omega) (by rw [hn.out]; exact hi)
      dsimp only at this
      rw [hx] at this
      simp only [Option.getD_some, Bool.not_eq_true', decide_eq_false_iff_not] at this
      exact this hxt
  replace hfl := hide hfl
  replace hE := hide (hE2.out.trans hE)
  clear hlo hhi
  go_wp2_with fail
  go_ret
  exact ⟨k, rfl, hfl.out, hE.out⟩
def noEn : Value := .agg #[.string ⟨#[]⟩, .int .i64 0, .int .i64 0, .int .i64 0]
theorem results_row_tmp {fn : Func} {p u : Tmp} {ty : TypeId} {P : Program} (h : fn.results = #[.cell p ty, .tmp u]) (tmps : Array Value) (w : World) (g : Nat) (cs : Array Value)
    (hp : tmps.getD p undef = .pointer (some ⟨g, 0, none⟩)) (hl : (loadVar ty ⟨g, 0, none⟩).run P w = .ok (.agg cs) w) :
    (results fn tmps).run P w = .ok (.tuple #[.agg cs, tmps.getD u undef]) w := by
  rw [results_cell_tmp h, hp]
  simp [asAddr, hl, Result.andThen]
set_option maxRecDepth 100000 in
theorem load_en {w : World} {g : Nat} {cs : Array Value} (h : Row w g 97 cs) (hs : cs.size = 4) : (loadVar 97 ⟨g, 0, none⟩).run Tryz.prog w = .ok (.agg cs) w :=
  run_loadVar_row w g 97 97 cs (0, 0) _ h Tryz.underlying97 rfl (by rw [hs]; kernel_rfl)
def AtR (l : List En) (k : Nat) (w : World) (e : Ending) (w' : World) : Prop := e = .returned (.tuple #[match l[k]? with | some x => .agg x.cells.toArray | none => noEn, .bool (l[k]?).isSome]) ∧ Ext w w'
set_option maxRecDepth 100000 in
set_option maxHeartbeats 1000000 in
theorem dat_any (g k : Nat) (l : List En) (w : World) (h : DicR w g l) (hl : l.length ≤ 1000000000) :
    Calls Tryz.prog 104 #[.pointer (some ⟨g, 0, none⟩), .int .i64 (k : Int)] w fun e w' => AtR l k w e w' := by
  obtain ⟨W4, hW4⟩ : ∃ W4, W4 = w.alloc (.cells #[.string ⟨#[]⟩, .int .i64 0, .int .i64 0, .int .i64 0] 97) := ⟨_, rfl⟩
  obtain ⟨g4, hg4⟩ : ∃ g4, g4 = w.heap.size := ⟨_, rfl⟩
  have r4 : Row W4 g4 97 #[.string ⟨#[]⟩, .int .i64 0, .int .i64 0, .int .i64 0] := by rw [hW4, hg4]; exact Row.new w _ _
  have hE4 : Ext w W4 := by rw [hW4]; exact (Ext.refl w).alloc _
  have hg4w : w.heap.size ≤ g4 := by omega
  have hlen := hide (dlen_any g l W4 (h.ext hE4))
  have h4 := h.ext hE4
  obtain ⟨A, c, hr, hc⟩ := h4
  have k0 := hr.cell 0 rfl
  have q0 := r4.cell 0 rfl
  have q1 := r4.cell 1 rfl
  have q2 := r4.cell 2 rfl
  have q3 := r4.cell 3 rfl
  have qf := r4.free
  obtain ⟨n, hn⟩ : ∃ n, n = l.length := ⟨_, rfl⟩
  rw [← hn] at hlen k0 hl
  replace hn := hide hn
  replace h := hide h
  replace hr := hide hr
  replace r4 := hide r4
  replace hE4 := hide hE4
  replace hW4 := hide hW4
  replace hg4 := hide hg4
  by_cases hk : k < n
  · obtain ⟨x, hx⟩ : ∃ x, l[k]? = some x := ⟨_, List.getElem?_eq_getElem (by rw [← hn.out]; exact hk)⟩
    obtain ⟨ga, o, hA, x0, x1, x2, x3⟩ := encells_at hc hx
    subst hA
    obtain ⟨t, off, len, nn⟩ := x
    simp only at x0 x1 x2 x3
    replace hx := hide hx
    replace hc := hide hc
    go_enter Tryz.func104, Tryz.ntmps104
    go_wp2_with fail
    rw [← hW4.out, ← hg4.out]
    refine hlen.out.mono ?_
    rintro e w1 ⟨rfl, hw⟩
    obtain rfl := hw.symm
    go_wp2_with fail
    have hrf := (((r4.out.put 0 (.string ⟨t.toArray⟩)).put 1 (.int .i64 (off : Int))).put 2 (.int .i64 (len : Int))).put 3 (.int .i64 (nn : Int))
    have hEf := (((hE4.out.setCell (p := ⟨g4, 0, none⟩) hg4w (.string ⟨t.toArray⟩)).setCell (p := ⟨g4, 1, none⟩) hg4w (.int .i64 (off : Int))).setCell (p := ⟨g4, 2, none⟩) hg4w (.int .i64 (len : Int))).setCell (p := ⟨g4, 3, none⟩) hg4w (.int .i64 (nn : Int))
    refine bodyPost_ret (results_row_tmp rfl _ _ g4 #[.string ⟨t.toArray⟩, .int .i64 (off : Int), .int .i64 (len : Int), .int .i64 (nn : Int)] rfl (load_en hrf rfl)) rfl ⟨?_, hEf⟩
    rw [hx.out]
    rfl
  · have hx : l[k]? = none := List.getElem?_eq_none (by rw [← hn.out]; omega)
    replace hx := hide hx
    replace hc := hide hc
    go_enter Tryz.func104, Tryz.ntmps104
    go_wp2_with fail
    rw [← hW4.out, ← hg4.out]
    refine hlen.out.mono ?_
    rintro e w1 ⟨rfl, hw⟩
    obtain rfl := hw.symm
    go_wp2_with fail
    have hrf := (((r4.out.put 0 (.string ⟨#[]⟩)).put 1 (.int .i64 0)).put 2 (.int .i64 0)).put 3 (.int .i64 0)
    have hEf := (((hE4.out.setCell (p := ⟨g4, 0, none⟩) hg4w (.string ⟨#[]⟩)).setCell (p := ⟨g4, 1, none⟩) hg4w (.int .i64 0)).setCell (p := ⟨g4, 2, none⟩) hg4w (.int .i64 0)).setCell (p := ⟨g4, 3, none⟩) hg4w (.int .i64 0)
    refine bodyPost_ret (results_row_tmp rfl _ _ g4 #[.string ⟨#[]⟩, .int .i64 0, .int .i64 0, .int .i64 0] rfl (load_en hrf rfl)) rfl ⟨?_, hEf⟩
    rw [hx.out]
    rfl
def GetR (l : List En) (t : List UInt8) (w : World) (e : Ending) (w' : World) : Prop := Ext w w' ∧ ((∃ x ∈ l, x.t = t ∧ e = .returned (.tuple #[.agg #[.string ⟨x.t.toArray⟩, .int .i64 (x.off : Int), .int .i64 (x.len : Int), .int .i64 (x.n : Int)], .bool true])) ∨ ((∀ x ∈ l, x.t ≠ t) ∧ e = .returned (.tuple #[noEn, .bool false])))
set_option maxRecDepth 100000 in
set_option maxHeartbeats 8000000 in
theorem dget_any (g : Nat) (l : List En) (t : List UInt8) (w : World) (h : DicR w g l) (hok : OkEs l) :
    Calls Tryz.prog 58 #[.pointer (some ⟨g, 0, none⟩), .string ⟨t.toArray⟩] w fun e w' => GetR l t w e w' := by
  obtain ⟨W4, hW4⟩ : ∃ W4, W4 = w.alloc (.cells #[.string ⟨#[]⟩, .int .i64 0, .int .i64 0, .int .i64 0] 97) := ⟨_, rfl⟩
  obtain ⟨g4, hg4⟩ : ∃ g4, g4 = w.heap.size := ⟨_, rfl⟩
  have r4 : Row W4 g4 97 #[.string ⟨#[]⟩, .int .i64 0, .int .i64 0, .int .i64 0] := by rw [hW4, hg4]; exact Row.new w _ _
  have hE4 : Ext w W4 := by rw [hW4]; exact (Ext.refl w).alloc _
  have hg4w : w.heap.size ≤ g4 := by omega
  have hflo := hide (floor_any g l t W4 (h.ext hE4) hok)
  have hat := hide (fun k W (hE : Ext w W) => dat_any g k l W (h.ext hE) (by have := hok.few; omega))
  replace hok := hide hok
  replace h := hide h
  replace r4 := hide r4
  replace hE4 := hide hE4
  replace hW4 := hide hW4
  replace hg4 := hide hg4
  go_enter Tryz.func58, Tryz.ntmps58
  go_wp2_with fail
  rw [← hW4.out, ← hg4.out]
  refine hflo.out.mono ?_
  rintro e w1 ⟨k, rfl, hfl, hE1⟩
  have r41 := hide (r4.out.ext hE1)
  replace hE1 := hide (hE4.out.trans hE1)
  go_wp2_with fail
  refine (hat.out k w1 hE1.out).mono ?_
  rintro e w2 ⟨he, hE2⟩
  have r42 := r41.out.ext hE2
  replace hE2 := hE1.out.trans hE2
  have qg := r42.get
  have qf := r42.free
  have h6w : w.heap.size ≤ w2.heap.size := hE2.size
  have hg42 : g4 < w2.heap.size := r42.lt
  cases hx : l[k]? with
  | none =>
    rw [hx] at he
    have he : e = .returned (.tuple #[noEn, .bool false]) := he
    unfold noEn at he
    subst he
    have hno : ∀ x ∈ l, x.t ≠ t := fun x hm e => by
      obtain ⟨i, hi, rfl⟩ := List.getElem_of_mem hm
      have := (hfl.iff i _ (List.getElem?_eq_getElem hi)).1 (by
        have := hfl.le
        have h2 := List.getElem?_eq_none_iff.1 hx
        omega)
      rw [e] at this
      exact List.lt_irrefl _ this
    replace hno := hide hno
    replace hfl := hide hfl
    replace hx := hide hx
    replace r42 := hide r42
    replace hE2 := hide hE2
    go_wp2_with fail
    have hrf := ((((r42.out.put 0 (.string ⟨#[]⟩)).put 1 (.int .i64 0)).put 2 (.int .i64 0)).put 3 (.int .i64 0)).alloc (.cells #[.string ⟨#[]⟩, .int .i64 0, .int .i64 0, .int .i64 0] 97)
    have hEf := ((((hE2.out.setCell (p := ⟨g4, 0, none⟩) hg4w (.string ⟨#[]⟩)).setCell (p := ⟨g4, 1, none⟩) hg4w (.int .i64 0)).setCell (p := ⟨g4, 2, none⟩) hg4w (.int .i64 0)).setCell (p := ⟨g4, 3, none⟩) hg4w (.int .i64 0)).alloc (.cells #[.string ⟨#[]⟩, .int .i64 0, .int .i64 0, .int .i64 0] 97)
    exact bodyPost_ret (results_row_tmp rfl _ _ g4 #[.string ⟨#[]⟩, .int .i64 0, .int .i64 0, .int .i64 0] rfl (load_en hrf rfl)) rfl ⟨hEf, .inr ⟨hno.out, rfl⟩⟩
  | some x =>
    rw [hx] at he
    have he : e = .returned (.tuple #[.agg #[.string ⟨x.t.toArray⟩, .int .i64 (x.off : Int), .int .i64 (x.len : Int), .int .i64 (x.n : Int)], .bool true]) := he
    subst he
    have hmem := List.mem_of_getElem? hx
    have hno : x.t ≠ t → ∀ y ∈ l, y.t ≠ t := fun hne y hm e => by
      obtain ⟨i, hi, rfl⟩ := List.getElem_of_mem hm
      have hki := (List.getElem?_eq_some_iff.1 hx)
      have h1 := (hfl.iff k x hx)
      have h2 := hfl.iff i _ (List.getElem?_eq_getElem hi)
      rw [e] at h2
      have h3 : ¬ i < k := fun h => List.lt_irrefl _ (h2.1 h)
      rcases Nat.lt_or_eq_of_le (Nat.le_of_not_lt h3) with h4 | h4
      · have h5 := List.pairwise_iff_getElem.1 hok.out.up k i hki.1 hi h4
        rw [hki.2, e] at h5
        have := h1.2 h5
        omega
      · subst h4
        exact hne (by rw [← hki.2]; exact e)
    obtain ⟨s, off, len, nn⟩ := x
    simp only at hno
    by_cases hst : s = t
    · have q1 : (s == t) = true := by rw [hst]; exact beq_self_eq_true t
      have q2 : (s != t) = false := by rw [hst]; simp
      replace hno := hide hno
      replace hfl := hide hfl
      replace hx := hide hx
      replace hmem := hide hmem
      replace hst := hide hst
      replace r42 := hide r42
      replace hE2 := hide hE2
      go_wp2_with fail
      have hrf := ((((r42.out.put 0 (.string ⟨s.toArray⟩)).put 1 (.int .i64 (off : Int))).put 2 (.int .i64 (len : Int))).put 3 (.int .i64 (nn : Int))).alloc (.cells #[.string ⟨s.toArray⟩, .int .i64 (off : Int), .int .i64 (len : Int), .int .i64 (nn : Int)] 97)
      have hEf := ((((hE2.out.setCell (p := ⟨g4, 0, none⟩) hg4w (.string ⟨s.toArray⟩)).setCell (p := ⟨g4, 1, none⟩) hg4w (.int .i64 (off : Int))).setCell (p := ⟨g4, 2, none⟩) hg4w (.int .i64 (len : Int))).setCell (p := ⟨g4, 3, none⟩) hg4w (.int .i64 (nn : Int))).alloc (.cells #[.string ⟨s.toArray⟩, .int .i64 (off : Int), .int .i64 (len : Int), .int .i64 (nn : Int)] 97)
      exact bodyPost_ret (results_row_tmp rfl _ _ g4 #[.string ⟨s.toArray⟩, .int .i64 (off : Int), .int .i64 (len : Int), .int .i64 (nn : Int)] rfl (load_en hrf rfl)) rfl ⟨hEf, .inl ⟨_, hmem.out, hst.out, rfl⟩⟩
    · have q1 : (s == t) = false := beq_eq_false_iff_ne.2 hst
      have q2 : (s != t) = true := bne_iff_ne.2 hst
      replace hno := hide (hno hst)
      replace hfl := hide hfl
      replace hx := hide hx
      replace hmem := hide hmem
      replace hst := hide hst
      replace r42 := hide r42
      replace hE2 := hide hE2
      go_wp2_with fail
      have hrf := ((((r42.out.put 0 (.string ⟨#[]⟩)).put 1 (.int .i64 0)).put 2 (.int .i64 0)).put 3 (.int .i64 0)).alloc (.cells #[.string ⟨s.toArray⟩, .int .i64 (off : Int), .int .i64 (len : Int), .int .i64 (nn : Int)] 97)
      have hEf := ((((hE2.out.setCell (p := ⟨g4, 0, none⟩) hg4w (.string ⟨#[]⟩)).setCell (p := ⟨g4, 1, none⟩) hg4w (.int .i64 0)).setCell (p := ⟨g4, 2, none⟩) hg4w (.int .i64 0)).setCell (p := ⟨g4, 3, none⟩) hg4w (.int .i64 0)).alloc (.cells #[.string ⟨s.toArray⟩, .int .i64 (off : Int), .int .i64 (len : Int), .int .i64 (nn : Int)] 97)
      exact bodyPost_ret (results_row_tmp rfl _ _ g4 #[.string ⟨#[]⟩, .int .i64 0, .int .i64 0, .int .i64 0] rfl (load_en hrf rfl)) rfl ⟨hEf, .inr ⟨hno.out, rfl⟩⟩
end
section
open Go.RowKit Go.Maps
theorem SegR.ext {w w1 : World} {g : Nat} {P : List Dc} (h : SegR w g P) (hE : Ext w w1) : SegR w1 g P := by
  obtain ⟨ds, A, c, lo, hi, fi, la, B, cB, gd, gf, h1, h2, h3, h4, h5, h6, h7⟩ := h
  exact ⟨ds, A, c, lo, hi, fi, la, B, cB, gd, gf, h1.ext hE, h2, h3, h4.ext hE, h5.ext hE, h6.ext hE, h7.ext hE⟩
set_option maxRecDepth 100000 in
theorem none_no (g n c : Nat) (A : Option Addr) (w : World) (h : w.cell? ⟨g, 0, none⟩ = some (.slice A n c)) (hn : 0 < n) (hn9 : n ≤ 1000000000) : Calls Tryz.prog 57 #[.pointer (some ⟨g, 0, none⟩)] w fun e w' => e = .returned (.bool false) ∧ w' = w := by
  have hne : ((n : Int) == 0) = false := by simp; omega
  go_enter Tryz.func57, Tryz.ntmps57
  go_wp2_with fail
  go_ret
  exact ⟨by simp, rfl⟩
set_option maxRecDepth 100000 in
theorem slen_yes (g : Nat) (P : List Dc) (w : World) (h : SegR w g P) (hP : 0 < P.length) (hP9 : P.length ≤ 1000000000) : Calls Tryz.prog 31 #[.pointer (some ⟨g, 0, none⟩)] w fun e w' => e = .returned (.int .i64 (P.length : Int)) ∧ w' = w := by
  obtain ⟨ds, A, c, lo, hi, fi, la, B, cB, gd, gf, h1, h2, _⟩ := h
  have hl : P.length = ds.length := by rw [← h2]; exact List.length_map ..
  rw [hl] at hP hP9 ⊢
  have k0 := h1.cell 0 rfl
  have hn := hide (none_no g ds.length c A w k0 hP hP9)
  replace h1 := hide h1
  replace hl := hide hl
  replace h2 := hide h2
  go_enter Tryz.func31, Tryz.ntmps31
  go_wp2_with fail
  refine hn.out.mono ?_
  rintro e w1 ⟨rfl, rfl⟩
  go_wp2_with fail
  go_ret
  exact ⟨rfl, rfl⟩
end
section
open Go.RowKit Go.Maps
structure SegP (P : List Dc) : Prop where
  sm : SmP P
  ne : 0 < P.length
theorem SegP.few {P : List Dc} (h : SegP P) : P.length ≤ 1000000000 := by have := h.sm.seg.n; omega
theorem SegR.none {w : World} {g : Nat} {P : List Dc} (h : SegR w g P) (hP : SegP P) : Calls Tryz.prog 57 #[.pointer (some ⟨g, 0, none⟩)] w fun e w' => e = .returned (.bool false) ∧ w' = w := by
  have hf := hP.few
  have hn := hP.ne
  obtain ⟨ds, A, c, lo, hi, fi, la, B, cB, gd, gf, h1, h2, _⟩ := h
  have hl : P.length = ds.length := by rw [← h2]; exact List.length_map ..
  exact none_no g ds.length c A w (h1.cell 0 rfl) (by omega) (by omega)
set_option maxRecDepth 100000 in
theorem sterms_yes (g : Nat) (P : List Dc) (w : World) (h : SegR w g P) (hP : SegP P) : Calls Tryz.prog 34 #[.pointer (some ⟨g, 0, none⟩)] w fun e w' => e = .returned (.int .i64 ((rowsD P).length : Int)) ∧ w' = w := by
  have hn := hide (h.none hP)
  obtain ⟨ds, A, c, lo, hi, fi, la, B, cB, gd, gf, h1, h2, h3, h4, h5, _⟩ := h
  have k8 := h1.cell 8 rfl
  have hd := dlen_any gd _ w h5
  rw [enOf_len] at hd
  replace hd := hide hd
  replace h1 := hide h1
  clear h2 h3 h4 h5
  go_enter Tryz.func34, Tryz.ntmps34
  go_wp2_with fail
  refine hn.out.mono ?_
  rintro e w1 ⟨rfl, rfl⟩
  go_wp2_with fail
  refine hd.out.mono ?_
  rintro e w2 ⟨rfl, rfl⟩
  go_wp2_with fail
  go_ret
  exact ⟨rfl, rfl⟩
set_option maxRecDepth 100000 in
theorem smay_yes (g : Nat) (P : List Dc) (t : List UInt8) (w : World) (h : SegR w g P) (hP : SegP P) (ht : t.length ≤ 1000000000) : Calls Tryz.prog 16 #[.pointer (some ⟨g, 0, none⟩), .string ⟨t.toArray⟩] w fun e w' => e = .returned (.bool (mayB (ofB ((rowsD P).map (·.1))) t)) ∧ Ext w w' := by
  have hn := hide (h.none hP)
  have hb := hP.sm.seg.bits
  obtain ⟨ds, A, c, lo, hi, fi, la, B, cB, gd, gf, h1, h2, h3, h4, h5, h6, h7⟩ := h
  have k10 := h1.cell 10 rfl
  have hm := hide (may_any gf _ t w h7 (Nat.lt_of_lt_of_le (by decide) hb.1) hb.2 ht)
  obtain ⟨mb, hmb⟩ : ∃ mb, mb = mayB (ofB ((rowsD P).map (·.1))) t := ⟨_, rfl⟩
  rw [← hmb] at hm ⊢
  replace hmb := hide hmb
  replace h1 := hide h1
  clear h2 h3 h4 h5 h6 h7 hb
  go_enter Tryz.func16, Tryz.ntmps16
  go_wp2_with fail
  refine hn.out.mono ?_
  rintro e w1 ⟨rfl, rfl⟩
  go_wp2_with fail
  refine hm.out.mono ?_
  rintro e w2 ⟨rfl, hE⟩
  go_wp2_with fail
  go_ret
  exact ⟨rfl, hE⟩
set_option maxRecDepth 100000 in
theorem spart_yes (g : Nat) (P : List Dc) (w : World) (h : SegR w g P) (hP : SegP P) : Calls Tryz.prog 32 #[.pointer (some ⟨g, 0, none⟩)] w fun e w' => e = .returned (.agg (prtA (partD P))) ∧ Ext w w' := by
  have hn := hide (fun W (hE : Ext w W) => (h.ext hE).none hP)
  obtain ⟨ds, A, c, lo, hi, fi, la, B, cB, gd, gf, h1, h2, h3, h4, h5, h6, h7⟩ := h
  obtain ⟨W, hW⟩ : ∃ W, W = w.alloc (Obj.cells #[.int .i64 0, .int .i64 0, .int .i64 0, .int .i64 0, .int .i64 0, .int .i64 0, .int .i64 0] 74) := ⟨_, rfl⟩
  have hEa : Ext w W := by rw [hW]; exact (Ext.refl w).alloc _
  have hr : Row W w.heap.size 74 #[.int .i64 0, .int .i64 0, .int .i64 0, .int .i64 0, .int .i64 0, .int .i64 0, .int .i64 0] := by rw [hW]; exact Row.new w _ _
  have h1W := h1.ext hEa
  have k1 := h1W.cell 1 rfl
  have k2 := h1W.cell 2 rfl
  have k3 := h1W.cell 3 rfl
  have k4 := h1W.cell 4 rfl
  have k5 := h1W.cell 5 rfl
  have k6 := h1W.cell 6 rfl
  have k7 := h1W.cell 7 rfl
  have f0 := hr.free 0
  have f1 := hr.free 1
  have f2 := hr.free 2
  have f3 := hr.free 3
  have f4 := hr.free 4
  have f5 := hr.free 5
  have f6 := hr.free 6
  have c0 := hr.cell 0 rfl
  have c1 := hr.cell 1 rfl
  have c2 := hr.cell 2 rfl
  have c3 := hr.cell 3 rfl
  have c4 := hr.cell 4 rfl
  have c5 := hr.cell 5 rfl
  have c6 := hr.cell 6 rfl
  replace h1 := hide h1
  replace h1W := hide h1W
  replace hr := hide hr
  replace h3 := hide h3
  replace hW := hide hW
  clear h4 h5 h6 h7
  obtain ⟨bg, hbg⟩ : ∃ bg, bg = w.heap.size := ⟨_, rfl⟩
  rw [← hbg] at hr f0 f1 f2 f3 f4 f5 f6 c0 c1 c2 c3 c4 c5 c6
  have hbw : w.heap.size ≤ bg := Nat.le_of_eq hbg.symm
  replace hbg := hide hbg
  obtain ⟨nn, hnn⟩ : ∃ nn : Int, nn = (ds.length : Int) := ⟨_, rfl⟩
  rw [← hnn] at k7
  replace hnn := hide hnn
  go_enter Tryz.func32, Tryz.ntmps32
  go_wp2_with fail
  rw [← hW.out, ← hbg.out]
  refine (hn.out _ hEa).mono ?_
  rintro e w1 ⟨rfl, hw1⟩
  subst hw1
  go_wp2_with fail
  have hrf := ((((((hr.out.put 0 (.int .i64 0)).put 1 (.int .i64 0)).put 2 (.int .i64 lo)).put 3 (.int .i64 hi)).put 4 (.int .i64 fi)).put 5 (.int .i64 la)).put 6 (.int .i64 nn)
  have hEf := ((((((hEa.setCell (p := ⟨bg, 0, none⟩) hbw (.int .i64 0)).setCell (p := ⟨bg, 1, none⟩) hbw (.int .i64 0)).setCell (p := ⟨bg, 2, none⟩) hbw (.int .i64 lo)).setCell (p := ⟨bg, 3, none⟩) hbw (.int .i64 hi)).setCell (p := ⟨bg, 4, none⟩) hbw (.int .i64 fi)).setCell (p := ⟨bg, 5, none⟩) hbw (.int .i64 la)).setCell (p := ⟨bg, 6, none⟩) hbw (.int .i64 nn)
  refine bodyPost_ret (results_row1 rfl _ _ bg #[.int .i64 0, .int .i64 0, .int .i64 lo, .int .i64 hi, .int .i64 fi, .int .i64 la, .int .i64 nn] rfl (run_loadVar_row _ bg 74 74 _ (0, 0) _ hrf Tryz.underlying74 rfl (by kernel_rfl))) rfl ⟨?_, hEf⟩
  rw [h3.out, ← hnn.out]
  rfl
end
section
open Go.RowKit Go.Maps
theorem enOf_at : ∀ (rs : List (List UInt8 × List Po)) (pre : List (List UInt8 × List Po)) (e : En), e ∈ enOf (postB pre).length rs → ∃ r ∈ rs, e.t = r.1 ∧ e.len = (encPs r.2).length ∧ e.off + e.len ≤ (postB (pre ++ rs)).length ∧ ((postB (pre ++ rs)).drop e.off).take e.len = encPs r.2
  | [], pre, e, h => by cases h
  | r :: t, pre, e, h => by
    unfold enOf at h
    have hp1 : postB (pre ++ r :: t) = postB pre ++ (encPs r.2 ++ postB t) := by rw [postB_app]; rfl
    rcases List.mem_cons.1 h with rfl | h
    · refine ⟨r, List.mem_cons_self .., rfl, rfl, by rw [hp1]; simp only [List.length_append]; omega, ?_⟩
      simp only [hp1]
      rw [List.drop_left, List.take_left]
    · have hpl : (postB (pre ++ [r])).length = (postB pre).length + (encPs r.2).length := by rw [postB_app, List.length_append]; congr 1; unfold postB; simp
      rw [← hpl] at h
      obtain ⟨r', hr', h1, h2, h3, h4⟩ := enOf_at t (pre ++ [r]) e h
      rw [List.append_assoc, List.singleton_append] at h3 h4
      exact ⟨r', List.mem_cons_of_mem _ hr', h1, h2, h3, h4⟩
def PostsR (P : List Dc) (t : List UInt8) (w : World) (e : Ending) (w' : World) : Prop := Ext w w' ∧ ((∃ r ∈ rowsD P, r.1 = t ∧ ∃ (ps : List PoC) (A : Option Addr) (c : Nat), psP ps = r.2 ∧ e = .returned (.slice A r.2.length c) ∧ PosOk w' A ps) ∨ ((∀ r ∈ rowsD P, r.1 ≠ t) ∧ e = .returned (.slice none 0 0)))
set_option maxRecDepth 100000 in
set_option maxHeartbeats 2000000 in
theorem sposts_yes (g : Nat) (P : List Dc) (t : List UInt8) (w : World) (h : SegR w g P) (hP : SegP P) : Calls Tryz.prog 14 #[.pointer (some ⟨g, 0, none⟩), .string ⟨t.toArray⟩] w fun e w' => PostsR P t w e w' := by
  have hn := hide (h.none hP)
  have hB := hP.sm.seg
  obtain ⟨ds, A, c, lo, hi, fi, la, B, cB, gd, gf, h1, h2, h3, h4, h5, h6, h7⟩ := h
  have k8 := h1.cell 8 rfl
  have hg := hide (dget_any gd _ t w h5 hB.ens)
  obtain ⟨nB, hnB⟩ : ∃ nB, nB = (postB (rowsD P)).length := ⟨_, rfl⟩
  rw [← hnB] at h1 h6
  have hpb := hB.posts
  rw [← hnB] at hpb
  replace h1 := hide h1
  replace h6 := hide h6
  replace hnB := hide hnB
  replace hB := hide hB
  clear h2 h3 h4 h5 h7
  go_enter Tryz.func14, Tryz.ntmps14
  go_wp2_with fail
  refine hn.out.mono ?_
  rintro e w1 ⟨rfl, rfl⟩
  go_wp2_with fail
  refine hg.out.mono ?_
  rintro e w2 ⟨hE2, hres⟩
  rcases hres with ⟨x, hx, hxt, rfl⟩ | ⟨hno, rfl⟩
  · obtain ⟨r, hr, hr1, hr2, hr3, hr4⟩ := enOf_at (rowsD P) [] x hx
    rw [List.nil_append] at hr3 hr4
    rw [← hnB.out] at hr3
    obtain ⟨xo, hxo⟩ : ∃ xo, xo = x.off := ⟨_, rfl⟩
    obtain ⟨xn, hxn⟩ : ∃ xn, xn = x.len := ⟨_, rfl⟩
    rw [← hxo, ← hxn] at hr3 hr4 ⊢
    have hea := hB.out.each r hr
    obtain ⟨A5, c5, hsl, hin⟩ := (h6.out.ext hE2).subk .i64 .i64 (fr := xo) (k := xn) hr3 (z0 := (xo : Int)) (z := (xo : Int) + (xn : Int)) rfl rfl
    rw [hr4] at hin
    have hdec := fun W (hE : Ext w2 W) => poDecode_any A5 xn c5 (encPs r.2) W r.2 (hin.ext hE) hea.1 rfl hea.2.2.2.1
    have hwr : wrap64 ((xo : Int) + (xn : Int)) = (xo : Int) + (xn : Int) := by unfold wrap64; omega
    replace hxo := hide hxo
    replace hxn := hide hxn
    replace hdec := hide hdec
    replace hea := hide hea
    replace hin := hide hin
    replace hr := hide hr
    have h1w := h1.out.ext hE2
    have k9 := h1w.cell 9 rfl
    have hglt := h1w.lt
    replace h1w := hide h1w
    clear hr4 hx
    replace hxt := hide hxt
    replace hr1 := hide hr1
    replace hr2 := hide hr2
    go_wp2_with fail
    obtain ⟨W5, hW5⟩ : ∃ W5, W5 = w2.alloc (Obj.cells #[.string ⟨x.t.toArray⟩, .int .i64 (xo : Int), .int .i64 (xn : Int), .int .i64 (x.n : Int)] 97) := ⟨_, rfl⟩
    rw [← hW5]
    have hE5 : Ext w2 W5 := by rw [hW5]; exact (Ext.refl w2).alloc _
    have r5 : Row W5 w2.heap.size 97 #[.string ⟨x.t.toArray⟩, .int .i64 (xo : Int), .int .i64 (xn : Int), .int .i64 (x.n : Int)] := by rw [hW5]; exact Row.new w2 _ _
    obtain ⟨g5, hg5⟩ : ∃ g5, g5 = w2.heap.size := ⟨_, rfl⟩
    rw [← hg5] at r5 ⊢
    have y1 := r5.cell 1 rfl
    have y2 := r5.cell 2 rfl
    have k95 := hE5.cell k9
    replace r5 := hide r5
    replace hW5 := hide hW5
    replace hg5 := hide hg5
    refine wp_region_text follows (by kernel_rfl) (by kernel_rfl) (fun K hK => ?_)
    go_wp2_with fail
    refine (hdec.out W5.drew hE5.drew).mono ?_
    rintro e w6 ⟨ps, A6, c6, hps, rfl, hpo, _, _, hE6⟩
    go_wp2_with fail
    refine ⟨by kernel_rfl, ?_⟩
    go_wp2_with fail
    go_ret
    exact ⟨hE2.trans (hE5.drew.trans hE6), .inl ⟨r, hr.out, hr1.out.symm.trans hxt.out, ps, A6, c6, hps, rfl, hpo⟩⟩
  · have hno2 : ∀ r ∈ rowsD P, r.1 ≠ t := fun r hr e => by
      have key : ∀ (rs : List (List UInt8 × List Po)) (o : Nat), r ∈ rs → ∃ x ∈ enOf o rs, x.t = r.1 := by
        intro rs
        induction rs with
        | nil => intro o h; cases h
        | cons q qs ih =>
          intro o h
          unfold enOf
          rcases List.mem_cons.1 h with rfl | h
          · exact ⟨_, List.mem_cons_self .., rfl⟩
          · obtain ⟨x, hx, hxr⟩ := ih _ h
            exact ⟨x, List.mem_cons_of_mem _ hx, hxr⟩
      obtain ⟨x, hx, hxr⟩ := key _ 0 hr
      exact hno x hx (hxr.trans e)
    unfold noEn
    replace hno2 := hide hno2
    clear hno
    go_wp2_with fail
    go_ret
    exact ⟨hE2.alloc _, .inr ⟨hno2.out, rfl⟩⟩
end
section
open Go.RowKit
def atT (e : Ev) (t : List UInt8) : Option (List Int) := (valsOf (termsL e) t).head?
def findP (l : List Po) (i : Int) : Option (List Int) := (l.find? fun p => decide (p.1 = i)).map (·.2)
theorem findP_cons (p : Po) (l : List Po) (i : Int) : findP (p :: l) i = if p.1 = i then some p.2 else findP l i := by
  unfold findP
  rw [List.find?_cons]
  by_cases h : p.1 = i
  · simp [h]
  · simp [h]
theorem findP_none {l : List Po} {i : Int} (h : ∀ p ∈ l, p.1 ≠ i) : findP l i = none := by
  induction l with
  | nil => rfl
  | cons p t ih =>
    rw [findP_cons, if_neg (h p (List.mem_cons_self ..)), ih fun q hq => h q (List.mem_cons_of_mem _ hq)]
theorem findP_app {a b : List Po} {i : Int} (h : ∀ p ∈ a, p.1 ≠ i) : findP (a ++ b) i = findP b i := by
  induction a with
  | nil => rfl
  | cons p t ih =>
    rw [List.cons_append, findP_cons, if_neg (h p (List.mem_cons_self ..)), ih fun q hq => h q (List.mem_cons_of_mem _ hq)]
theorem pairsD_ge (t : List UInt8) : ∀ (P : List Dc) (k : Nat) (x : Po), x ∈ valsOf (pairsD k P) t → (k : Int) ≤ x.1
  | [], k, x, h => by cases h
  | d :: r, k, x, h => by
    unfold pairsD at h
    rw [valsOf_append, valsOf_map (fun x : List Int => ((k : Int), x))] at h
    rcases List.mem_append.1 h with h | h
    · obtain ⟨y, _, rfl⟩ := List.mem_map.1 h
      exact Int.le_refl _
    · have := pairsD_ge t r (k + 1) x h
      omega
theorem findP_pairs (t : List UInt8) : ∀ (P : List Dc) (k i : Nat) (d : Dc), P[i]? = some d → findP (valsOf (pairsD k P) t) ((k + i : Nat) : Int) = atT d.2 t
  | [], k, i, d, h => by simp at h
  | x :: r, k, 0, d, h => by
    obtain rfl : x = d := by simpa using h
    have hr : Ris (termsL x.2) := by
      unfold termsL
      split
      · exact (grp_ok _).up
      · exact List.Pairwise.nil
    unfold pairsD atT
    rw [valsOf_append, valsOf_map (fun x : List Int => ((k : Int), x))]
    cases hv : valsOf (termsL x.2) t with
    | nil =>
      rw [List.map_nil, List.nil_append]
      exact findP_none fun p hp => by have := pairsD_ge t r (k + 1) p hp; omega
    | cons y ys =>
      rw [List.map_cons, List.cons_append, findP_cons]
      simp
  | x :: r, k, i + 1, d, h => by
    have h' : r[i]? = some d := by simpa using h
    have ih := findP_pairs t r (k + 1) i d h'
    unfold pairsD
    rw [valsOf_append, valsOf_map (fun x : List Int => ((k : Int), x)), findP_app fun p hp => by
      obtain ⟨y, _, rfl⟩ := List.mem_map.1 hp
      simp only
      omega]
    rw [show k + (i + 1) = k + 1 + i by omega]
    exact ih
theorem termsL_ris (e : Ev) : Ris (termsL e) := by
  unfold termsL
  split
  · exact (grp_ok _).up
  · exact List.Pairwise.nil
theorem atT_mem {e : Ev} {p : List UInt8 × List Int} (h : p ∈ termsL e) : atT e p.1 = some p.2 := by
  have h1 := ris_vals (s := p.1) (termsL_ris e)
  have h2 : p.2 ∈ valsOf (termsL e) p.1 := by
    unfold valsOf
    exact List.mem_map.2 ⟨p, List.mem_filter.2 ⟨h, by simp⟩, rfl⟩
  unfold atT
  cases hv : valsOf (termsL e) p.1 with
  | nil => rw [hv] at h2; cases h2
  | cons x xs =>
    rw [hv] at h1 h2
    obtain rfl : xs = [] := by
      cases xs with
      | nil => rfl
      | cons y ys => simp at h1
    rw [List.mem_singleton.1 h2]
    rfl
theorem atT_any (e : Ev) (t : List UInt8) : (atT e t).isSome = (termsL e).any fun p => decide (p.1 = t) := by
  rw [Bool.eq_iff_iff, List.any_eq_true]
  constructor
  · intro h
    unfold atT at h
    have hne : valsOf (termsL e) t ≠ [] := fun h0 => by rw [h0] at h; cases h
    obtain ⟨p, hp, hpt⟩ := vals_ne hne
    exact ⟨p, hp, decide_eq_true hpt⟩
  · rintro ⟨p, hp, hpt⟩
    obtain rfl := of_decide_eq_true hpt
    rw [atT_mem hp]
    rfl
end
section
open Go.RowKit Go.Maps
def FindA (w : World) (r : Option (List Int)) (e : Ending) (w' : World) : Prop := Ext w w' ∧ match r with
  | some pos => ∃ (B : Option Addr) (d : Nat), e = .returned (.tuple #[.slice B pos.length d, .bool true]) ∧ Cells w' B (pos.map IV) ∧ pos.length ≤ 1000000000
  | none => e = .returned (.tuple #[.slice none 0 0, .bool false])
theorem FindA.no {w w' : World} {r : Option (List Int)} (hE : Ext w w') (h : r = none) : FindA w r (.returned (.tuple #[.slice none 0 0, .bool false])) w' := by subst h; exact ⟨hE, rfl⟩
theorem FindA.yes {w w' : World} {r : Option (List Int)} {pos : List Int} {B : Option Addr} {d k : Nat} (hE : Ext w w') (h : r = some pos) (hk : k = pos.length) (hc : Cells w' B (pos.map IV)) (hl : pos.length ≤ 1000000000) : FindA w r (.returned (.tuple #[.slice B k d, .bool true])) w' := by
  subst h hk; exact ⟨hE, B, d, rfl, hc, hl⟩
theorem findP_drop {l : List Po} {k : Nat} {p : Po} (h : l[k]? = some p) (i : Int) : findP (l.drop k) i = if p.1 = i then some p.2 else findP (l.drop (k + 1)) i := by
  obtain ⟨hk, rfl⟩ := List.getElem?_eq_some_iff.1 h
  rw [List.drop_eq_getElem_cons hk, findP_cons]
set_option maxRecDepth 100000 in
set_option maxHeartbeats 1000000 in
theorem rfind_any (ps : List PoC) (A : Option Addr) (n c : Nat) (x : Int) (w : World) (hn : n = ps.length) (h : PosOk w A ps) (hn9 : n ≤ 1000000000) :
    Calls Tryz.prog 13 #[.slice A n c, .int .i64 x] w (FindA w (findP (psP ps) x)) := by
  obtain ⟨Z, hZ⟩ : ∃ Z, Z = findP (psP ps) x := ⟨_, rfl⟩
  rw [← hZ]
  replace hn := hide hn
  replace h := hide h
  have hz0 := hide (show Z = findP ((psP ps).drop 0) x from hZ)
  clear hZ
  go_enter Tryz.func13, Tryz.ntmps13
  go_wp2_with fail
  go_loopw [6] (fun s6 wr => ∃ k : Nat, s6 = .int .i64 (k : Int) ∧ k ≤ n ∧ Hid (Z = findP ((psP ps).drop k) x) ∧ Hid (Ext w wr)) (fun s6 _ => n - (intOf s6).toNat)
  case atStart => exact ⟨0, rfl, by omega, hz0, hide (Ext.refl _)⟩
  case round =>
    clear hz0
    obtain ⟨k, rfl, hk, hz, hE⟩ := hrel
    by_cases hkn : k < n
    · obtain ⟨y, hy⟩ : ∃ y, ps[k]? = some y := ⟨_, List.getElem?_eq_getElem (by rw [← hn.out]; exact hkn)⟩
      obtain ⟨g, o, hA, l0, l1⟩ := pcells_at (h.out.cells.ext hE.out) hy
      obtain ⟨hyc, hyl⟩ := h.out.each y (List.mem_of_getElem? hy)
      have hyp : (psP ps)[k]? = some y.po := by unfold psP; rw [List.getElem?_map, hy]; rfl
      have hst := findP_drop hyp x
      rw [← hz.out] at hst
      obtain ⟨yd, pos, B, d⟩ := y
      unfold PoC.po at hst
      simp only at l0 l1 hst hyc hyl
      obtain ⟨pl, hpl⟩ : ∃ pl, pl = pos.length := ⟨_, rfl⟩
      rw [← hpl] at l1
      subst hA
      replace hst := hide hst
      replace hpl := hide hpl
      replace hyc := hide (hyc.ext hE.out)
      clear hyp hy hz
      by_cases hd : yd = x
      · have hq : ((yd : Int) == x) = true := by rw [hd]; exact beq_self_eq_true _
        have hz2 := hide (show Z = some pos by rw [hst.out, if_pos hd])
        replace hd := hide hd
        go_wp2_with fail
        go_ret2
        exact FindA.yes hE.out hz2.out hpl.out hyc.out hyl
      · have hq : ((yd : Int) == x) = false := beq_eq_false_iff_ne.2 hd
        have hz2 := hide (show Z = findP ((psP ps).drop (k + 1)) x by rw [hst.out, if_neg hd])
        replace hd := hide hd
        go_wp2_with fail
        go_roundw
        case rel => exact ⟨k + 1, by go_num, by omega, hz2, hE⟩
        case measure => simp only [intOf]; omega
    · have hz2 := hide (show Z = none by
        rw [hz.out, List.drop_of_length_le (by unfold psP; rw [List.length_map, ← hn.out]; omega)]
        rfl)
      go_wp2_with fail
      go_ret2
      exact FindA.no hE.out hz2.out
set_option maxRecDepth 100000 in
set_option maxHeartbeats 1000000 in
theorem sameintsZ_any (A B : Option Addr) (n c c2 : Nat) (xs : List Int) (w : World) (hn : n = xs.length) (hA : Cells w A (xs.map IV)) (hB : Cells w B (xs.map IV)) (hn2 : n ≤ 1000000000) :
    Calls Tryz.prog 15 #[.slice A n c, .slice B n c2] w fun e w' => e = .returned (.bool true) ∧ Ext w w' := by
  replace hn := hide hn
  go_enter Tryz.func15, Tryz.ntmps15
  go_wp2_with fail
  go_loopw [5] (fun s5 wr => ∃ i : Nat, s5 = .int .i64 i ∧ i ≤ n ∧ Ext w wr) (fun s5 _ => n - (intOf s5).toNat)
  case atStart => exact ⟨0, rfl, by omega, Ext.refl _⟩
  case round =>
    obtain ⟨i, rfl, hi, hE⟩ := hrel
    by_cases hin : i < n
    · have hx : i < xs.length := by rw [← hn.out]; exact hin
      obtain ⟨g, o, rfl, hc⟩ := hA.at_ (by rw [List.length_map]; omega)
      obtain ⟨g2, o2, rfl, hc2⟩ := hB.at_ (by rw [List.length_map]; omega)
      obtain ⟨x, hxe⟩ : ∃ x : Int, x = xs[i] := ⟨_, rfl⟩
      have k1 : wr.cell? ⟨g, o + i, none⟩ = some (.int .i64 x) := hE.cell (hc i _ (by simp [hx, hxe, IV]))
      have k2 : wr.cell? ⟨g2, o2 + i, none⟩ = some (.int .i64 x) := hE.cell (hc2 i _ (by simp [hx, hxe, IV]))
      clear hc hc2
      replace hxe := hide hxe
      go_wp2_with fail
      refine wp_region_text follows (by kernel_rfl) (by kernel_rfl) (fun K hK => ?_)
      go_wp2_with fail
      refine ⟨by kernel_rfl, ?_⟩
      go_wp2_with fail
      go_roundw
      case rel => exact ⟨i + 1, by go_num, by omega, hE.drew⟩
      case measure => simp [intOf]; omega
    · go_wp2_with fail
      go_ret
      exact ⟨rfl, hE⟩
end
section
open Go.RowKit
def fewE (e : Ev) : Ev := ⟨e.at_, (e.fs.take 8).map fun f => (f.1, f.2.take 300)⟩
def fewD (P : List Dc) : List Dc := (P.take 40).map fun d => (d.1, fewE d.2)
structure Few8 (P : List Dc) : Prop where
  n : P.length ≤ 25
  each : ∀ d ∈ P, I64ok' d.2.at_ ∧ d.2.fs.length ≤ 8 ∧ ∀ f ∈ d.2.fs, f.2.length ≤ 300
theorem few8_of {P : List Dc} (h : ∀ d ∈ P, I64ok' d.2.at_) : Few8 (fewD (P.take 25)) := by
  refine ⟨?_, fun d hd => ?_⟩
  · unfold fewD
    simp only [List.length_map, List.length_take]
    omega
  · unfold fewD at hd
    obtain ⟨x, hx, rfl⟩ := List.mem_map.1 hd
    refine ⟨h x (List.mem_of_mem_take (List.mem_of_mem_take hx)), ?_, fun f hf => ?_⟩
    · unfold fewE
      simp only [List.length_map, List.length_take]
      omega
    · unfold fewE at hf
      obtain ⟨g, _, rfl⟩ := List.mem_map.1 hf
      simp only [List.length_take]
      omega
theorem putFs_few : ∀ {fs : List Fd}, (∀ f ∈ fs, f.1.length ≤ 32 ∧ f.2.length ≤ 300) → (putFs fs).length ≤ 335 * fs.length
  | [], _ => by simp [putFs]
  | f :: fs, h => by
    have h1 := putFs_few (fs := fs) fun x hx => h x (List.mem_cons_of_mem _ hx)
    have hf := h f (List.mem_cons_self ..)
    have h2 := vb_len 1 f.1.length (by omega)
    have h3 := vb_len 2 f.2.length (by omega)
    have h4 : (putFs (f :: fs)).length = (txL f.1).length + (txL f.2).length + (putFs fs).length := by unfold putFs; rw [List.flatMap_cons, List.length_append]; unfold putF; rw [List.length_append]
    unfold txL at h4
    rw [List.length_append, List.length_append] at h4
    rw [h4, List.length_cons]
    omega
theorem block_few : ∀ (P : List Dc) (lo : Int), 0 ≤ lo → risB 1099511627777 lo (P.map (·.1)) = true → P.all okD = true → (∀ d ∈ P, I64ok' d.2.at_ ∧ d.2.fs.length ≤ 8 ∧ ∀ f ∈ d.2.fs, f.2.length ≤ 300) → (blockD lo P).length ≤ 2701 * P.length
  | [], _, _, _, _, _ => by simp [blockD]
  | d :: t, lo, h0, hr, hk, h => by
    rw [List.map_cons, risB, Bool.and_eq_true, Bool.and_eq_true] at hr
    obtain ⟨⟨hr1, hr2⟩, hr3⟩ := hr
    have hr1 := of_decide_eq_true hr1
    have hr2 := of_decide_eq_true hr2
    rw [List.all_cons, Bool.and_eq_true] at hk
    have ih := block_few t d.1 (by omega) hr3 hk.2 fun x hx => h x (List.mem_cons_of_mem _ hx)
    obtain ⟨ha, hn, hf⟩ := h d (List.mem_cons_self ..)
    have hc := of_decide_eq_true hk.1
    obtain ⟨_, hfs⟩ := checkE_fs hc
    have h1 := putFs_few (fs := d.2.fs) fun f hm => ⟨(hfs f hm).1, hf f hm⟩
    have h2 := vb_le10 (zig_lt ha.1 ha.2)
    have h3 := vb_len 1 d.2.fs.length (by omega)
    have h4 := vb_le10 (n := (d.1 - lo - 1).toNat) (by omega)
    rw [blockD, List.length_append, List.length_cons]
    unfold oneD putE
    simp only [List.length_append]
    omega
theorem Few8.sm {P : List Dc} (h : Few8 P) (hk : okDs P = true) : SmP P := by
  refine ⟨hk, ?_⟩
  unfold okDs at hk
  rw [Bool.and_eq_true, Bool.and_eq_true] at hk
  have h1 := block_few P 0 (by omega) hk.2.1 hk.2.2 h.each
  have := h.n
  omega
end
section
open Go.RowKit Go.Maps
theorem DocsOwn.push {w w8 : World} {base c c8 : Nat} {B A8 : Option Addr} {l : List DocC} {x : DocC} (h : DocsOwn w base B c l) (hx : x.e.Own w base x.A x.c) (hi : I64ok' x.e.at_ ∧ I64ok' x.seq)
    (ho : w8.ownsRow base 39 3 (.slice A8 (l.length + 1) c8) (l.length + 1) (dcells l ++ x.cells)) (hg : w.grownBy w8 (Value.slice B l.length c).ownBlock) : DocsOwn w8 base A8 c8 (l ++ [x]) := by
  have hlen : (l ++ [x]).length = l.length + 1 := by simp
  have hch : Chg (fun k' => (Value.slice B l.length c).ownBlock = some k') w w8 := Chg.of_grown hg fun k' _ hk' => hk'
  have hun : ∀ k cs, Row w k 105 cs → ¬ (Value.slice B l.length c).ownBlock = some k := fun k cs hr => owns_unlike h.own hr (by decide)
  refine ⟨by rw [hlen, dcells_snoc]; exact ho, fun y hy => ?_, fun y hy => ?_⟩
  · rcases List.mem_append.1 hy with hy | hy
    · exact ⟨hch.owns (h.each y hy).1 fun g' hg' => by obtain ⟨cs, hr, _⟩ := owns_row (h.each y hy).1 hg'; exact hun _ _ hr, (h.each y hy).2⟩
    · rw [List.mem_singleton.1 hy]
      exact ⟨hch.owns hx.1 fun g' hg' => by obtain ⟨cs, hr, _⟩ := owns_row hx.1 hg'; exact hun _ _ hr, hx.2⟩
  · rcases List.mem_append.1 hy with hy | hy
    · exact h.ints y hy
    · rw [List.mem_singleton.1 hy]
      exact hi
def DocsA (P : List Dc) (w : World) (e : Ending) (w' : World) : Prop := Ext w w' ∧ ∃ (l : List DocC) (A : Option Addr) (c : Nat), dcs l = P ∧ e = .returned (.slice A l.length c) ∧ DocsOwn w' w.heap.size A c l
end
end Go.Proofs.YtkdcnhnaiknaaaaGreat
