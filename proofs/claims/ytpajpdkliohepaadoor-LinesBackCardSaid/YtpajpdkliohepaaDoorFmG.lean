/- loggia/lines: field. -/
import Derived.Test.YtpajpdkliohepaaDoorFmF
namespace Go.Proofs.YtpajpdkliohepaaDoor
open Go.RowKit

theorem trim_app (p r : List UInt8) : Lib.trimPrefix (p ++ r) p = r := by
  unfold Lib.trimPrefix
  rw [if_pos (pre_app.2 ⟨r, rfl⟩)]
  simp
theorem split_uniq {c : UInt8} : ∀ {a a' b b' : List UInt8}, a ++ c :: b = a' ++ c :: b' → c ∉ a → c ∉ a' → a = a' ∧ b = b'
  | [], [], b, b', h, _, _ => by simp at h; exact ⟨rfl, h⟩
  | [], x :: a', b, b', h, _, h2 => by
    injection h with h _
    exact absurd (by rw [h]; simp) h2
  | x :: a, [], b, b', h, h1, _ => by
    injection h with h _
    exact absurd (by rw [h]; simp) h1
  | x :: a, y :: a', b, b', h, h1, h2 => by
    injection h with h3 h4
    obtain ⟨h5, h6⟩ := split_uniq h4 (fun h => h1 (List.mem_cons_of_mem _ h)) (fun h => h2 (List.mem_cons_of_mem _ h))
    exact ⟨by rw [h3, h5], h6⟩
/-- What field answers. -/
def FP (w : World) (b : Nat) (s : List UInt8) (e : Ending) (w' : World) : Prop := ∃ nm tx ok s', e = .returned (.tuple #[.agg #[.string ⟨nm.toArray⟩, .string ⟨tx.toArray⟩], .bool ok]) ∧ RdTo w b s' w' ∧ s'.length ≤ s.length ∧
  ((ok = true ∧ s = fieldL (nm, tx) ++ s' ∧ 61 ∉ nm) ∨ (ok = false ∧ ∀ nm tx r, 61 ∉ nm → s ≠ fieldL (nm, tx) ++ r))
theorem field_app (nm tx r : List UInt8) : fieldL (nm, tx) ++ r = 32 :: (nm ++ 61 :: (quoteL tx ++ r)) := by unfold fieldL; simp
/-- The result's block, written. -/
def setF (w : World) (g : Nat) (a t : List UInt8) : World := (w.setCell ⟨g, 0, none⟩ (.string ⟨a.toArray⟩)).setCell ⟨g, 1, none⟩ (.string ⟨t.toArray⟩)
theorem setF_row {w : World} {g : Nat} {T : TypeId} {x y : Value} (h : Row w g T #[x, y]) (a t : List UInt8) : Row (setF w g a t) g T #[.string ⟨a.toArray⟩, .string ⟨t.toArray⟩] := (h.put 0 _).put 1 _
theorem setF_chg (w : World) (g : Nat) (a t : List UInt8) : Chg (fun k => k = g) w (setF w g a t) := (Chg.of_set (S := fun k => k = g) w _ rfl).trans (Chg.of_set (S := fun k => k = g) _ _ rfl) fun _ _ h => h
theorem setF_fin {w W w1 : World} {b : Nat} {s' : List UInt8} (hE : Ext w W) (h1 : RdTo W b s' w1) (hb : b < w.heap.size) (a t : List UInt8) : RdTo w b s' (setF w1 w.heap.size a t) :=
  ⟨(setF_chg w1 w.heap.size a t).row h1.1 (by omega), ((Chg.of_ext hE (fun k => k = b)).trans h1.2 fun _ _ h => h).trans (setF_chg w1 w.heap.size a t) fun i hi h => by omega⟩
set_option maxRecDepth 100000 in
set_option maxHeartbeats 2000000 in
theorem lfield_any (b : Nat) (s : List UInt8) (w : World) (h : Rd w b s) (hs : s.length ≤ 1000000) (hm : MaxL w) (hb : b ≠ 0) :
    Calls Tryd.prog 32 #[.pointer (some ⟨b, 0, none⟩)] w fun e w' => FP w b s e w' := by
  obtain ⟨W, hW⟩ : ∃ W, W = w.alloc (.cells #[.string ⟨#[]⟩, .string ⟨#[]⟩] 52) := ⟨_, rfl⟩
  have hEW : Ext w W := by rw [hW]; exact (Ext.refl w).alloc _
  have hrow : Row W w.heap.size 52 #[.string ⟨#[]⟩, .string ⟨#[]⟩] := by rw [hW]; exact Row.new w _ _
  have hbw := Row.lt h
  replace h : Rd W b s := Row.ext h hEW
  have hmW := hm.ext hEW
  have hsk := hide (lskip_any b s [32] W h)
  replace hW := hide hW
  cases hp : Lib.hasPrefix s [32] with
  | false =>
    rw [hp, trim_no hp] at hsk
    have hno : ∀ nm tx r, 61 ∉ nm → s ≠ fieldL (nm, tx) ++ r := fun nm tx r _ he => by
      rw [pre_app.2 ⟨nm ++ 61 :: (quoteL tx ++ r), by rw [he, field_app]; rfl⟩] at hp
      cases hp
    replace hno := hide hno
    clear hp h
    go_enter Tryd.func32, Tryd.ntmps32
    go_wp2_with fail
    rw [← hW.out]
    refine hsk.out.mono ?_
    rintro e w1 ⟨rfl, h1⟩
    have hr1 := h1.2.row hrow (by omega : ¬ w.heap.size = b)
    have f1 := fun i => hr1.free i
    have d0 := hr1.cell 0 rfl
    have d1 := hr1.cell 1 rfl
    have hrw1 := hide hr1
    go_wp2_with fail
    have hrwx := hrw1.out
    obtain ⟨wz, hwz⟩ : ∃ wz, wz = ((w1.setCell ⟨w.heap.size, 0, none⟩ (.string ⟨#[]⟩)).setCell ⟨w.heap.size, 1, none⟩ (.string ⟨#[]⟩)) := ⟨_, rfl⟩
    rw [← hwz]
    have hk : Row wz w.heap.size 52 #[.string ⟨#[]⟩, .string ⟨#[]⟩] := by rw [hwz]; exact setF_row hrwx [] []
    have fn : RdTo w b s wz := by rw [hwz]; exact setF_fin hEW h1 hbw [] []
    have k0 : wz.cell? ⟨w.heap.size, 0, none⟩ = some (.string ⟨#[]⟩) := hk.cell 0 rfl
    have k1 : wz.cell? ⟨w.heap.size, 1, none⟩ = some (.string ⟨#[]⟩) := hk.cell 1 rfl
    clear hk hwz
    exact bodyPost_ret (v := .tuple #[.agg #[.string ⟨#[]⟩, .string ⟨#[]⟩], .bool false]) (by simp [results, Tryd.results32, go_sem, k0, k1]) rfl ⟨[], [], false, s, rfl, fn, Nat.le_refl _, .inr ⟨rfl, hno.out⟩⟩
  | true =>
    obtain ⟨s1, rfl⟩ := pre_app.1 hp
    rw [hp, trim_app] at hsk
    have hs1l : s1.length ≤ 1000000 := by simp at hs; omega
    have hle1 : s1.length ≤ ([32] ++ s1).length := by simp
    have hno0 : (∀ nm tx r, 61 ∉ nm → s1 ≠ nm ++ 61 :: (quoteL tx ++ r)) → ∀ nm tx r, 61 ∉ nm → [32] ++ s1 ≠ fieldL (nm, tx) ++ r := fun hh nm tx r h61 he => by
      rw [field_app] at he
      injection he with _ he
      exact hh nm tx r h61 he
    obtain ⟨S, hS⟩ : ∃ S, S = [32] ++ s1 := ⟨_, rfl⟩
    rw [← hS] at hle1 hno0 ⊢
    have hcut := cut_one s1 61
    have hun := fun W (hR : Rd W b s1) (hm : MaxL W) => luntil_any b s1 [61] W hR hs1l hm
    obtain ⟨P, hP⟩ : ∃ P, P = Lib.cut s1 [61] := ⟨_, rfl⟩
    rw [← hP] at hcut hun
    replace hno0 := hide hno0
    replace hun := hide hun
    replace hS := hide hS
    clear hp h hP
    rcases hcut with ⟨a, r, hs1, ha, rfl⟩ | ⟨hn, rfl⟩
    case inr =>
      have hno := hide (hno0.out fun nm tx r _ he => hn (by rw [he]; simp))
      go_enter Tryd.func32, Tryd.ntmps32
      go_wp2_with fail
      rw [← hW.out]
      refine hsk.out.mono ?_
      rintro e w1 ⟨rfl, h1⟩
      have hu := hide (hun.out w1 h1.1 (hmW.chg h1.2 (fun h => hb h.symm)))
      go_wp2_with fail
      refine hu.out.mono ?_
      rintro e w2 ⟨rfl, h2⟩
      simp only [Bool.false_eq_true, if_false] at h2
      have hr2 := h2.2.row (h1.2.row hrow (by omega : ¬ w.heap.size = b)) (by omega : ¬ w.heap.size = b)
      have f2 := fun i => hr2.free i
      have d0 := hr2.cell 0 rfl
      have d1 := hr2.cell 1 rfl
      have hrwx := hide hr2
      have h12 := hide (h1.trans h2)
      clear hr2 h1 h2
      go_wp2_with fail
      replace hrwx := hrwx.out
      obtain ⟨wz, hwz⟩ : ∃ wz, wz = ((w2.setCell ⟨w.heap.size, 0, none⟩ (.string ⟨#[]⟩)).setCell ⟨w.heap.size, 1, none⟩ (.string ⟨#[]⟩)) := ⟨_, rfl⟩
      rw [← hwz]
      have hk : Row wz w.heap.size 52 #[.string ⟨#[]⟩, .string ⟨#[]⟩] := by rw [hwz]; exact setF_row hrwx [] []
      have fn : RdTo w b s1 wz := by rw [hwz]; exact setF_fin hEW h12.out hbw [] []
      have k0 : wz.cell? ⟨w.heap.size, 0, none⟩ = some (.string ⟨#[]⟩) := hk.cell 0 rfl
      have k1 : wz.cell? ⟨w.heap.size, 1, none⟩ = some (.string ⟨#[]⟩) := hk.cell 1 rfl
      clear hk hwz
      exact bodyPost_ret (v := .tuple #[.agg #[.string ⟨#[]⟩, .string ⟨#[]⟩], .bool false]) (by simp [results, Tryd.results32, go_sem, k0, k1]) rfl ⟨[], [], false, s1, rfl, fn, hle1, .inr ⟨rfl, hno.out⟩⟩
    case inl =>
      have hrl : r.length ≤ s1.length := by rw [hs1, List.length_append, List.length_cons]; omega
      replace hs1 := hide hs1
      replace ha := hide ha
      go_enter Tryd.func32, Tryd.ntmps32
      go_wp2_with fail
      rw [← hW.out]
      refine hsk.out.mono ?_
      rintro e w1 ⟨rfl, h1⟩
      have hu := hide (hun.out w1 h1.1 (hmW.chg h1.2 (fun h => hb h.symm)))
      go_wp2_with fail
      refine hu.out.mono ?_
      rintro e w2 ⟨rfl, h2⟩
      simp only [if_true] at h2
      have hq := hide (quoted_any b r w2 h2.1 (by omega))
      have h12 := hide (h1.trans h2)
      clear h1 h2
      go_wp2_with fail
      refine hq.out.mono ?_
      rintro e w3 ⟨t, ok, s', rfl, h3, hle, hc⟩
      have fin : ∀ wz, RdTo w b s' wz → FP w b S (.returned (.tuple #[.agg #[.string ⟨a.toArray⟩, .string ⟨t.toArray⟩], .bool ok])) wz := fun wz hz => by
        refine ⟨a, t, ok, s', rfl, hz, by omega, ?_⟩
        rcases hc with ⟨rfl, hr⟩ | ⟨rfl, rfl, hno⟩
        · exact .inl ⟨rfl, by rw [hS.out, hs1.out, hr, field_app]; rfl, ha.out⟩
        · exact .inr ⟨rfl, hno0.out fun nm tx r' h61 he => by
            rw [hs1.out] at he
            exact hno _ _ (split_uniq he ha.out h61).2⟩
      replace fin := hide fin
      have hr3 := h3.2.row (h12.out.2.row hrow (by omega : ¬ w.heap.size = b)) (by omega : ¬ w.heap.size = b)
      have f3 := fun i => hr3.free i
      have d0 := hr3.cell 0 rfl
      have d1 := hr3.cell 1 rfl
      have hrwx := hide hr3
      have h13 := hide (h12.out.trans h3)
      clear hc h3 hr3
      go_wp2_with fail
      replace hrwx := hrwx.out
      obtain ⟨wz, hwz⟩ : ∃ wz, wz = ((w3.setCell ⟨w.heap.size, 0, none⟩ (.string ⟨a.toArray⟩)).setCell ⟨w.heap.size, 1, none⟩ (.string ⟨t.toArray⟩)) := ⟨_, rfl⟩
      rw [← hwz]
      have hk : Row wz w.heap.size 52 #[.string ⟨a.toArray⟩, .string ⟨t.toArray⟩] := by rw [hwz]; exact setF_row hrwx a t
      have fn : RdTo w b s' wz := by rw [hwz]; exact setF_fin hEW h13.out hbw a t
      have k0 : wz.cell? ⟨w.heap.size, 0, none⟩ = some (.string ⟨a.toArray⟩) := hk.cell 0 rfl
      have k1 : wz.cell? ⟨w.heap.size, 1, none⟩ = some (.string ⟨t.toArray⟩) := hk.cell 1 rfl
      clear hk hwz
      exact bodyPost_ret (v := .tuple #[.agg #[.string ⟨a.toArray⟩, .string ⟨t.toArray⟩], .bool ok]) (by simp [results, Tryd.results32, go_sem, k0, k1]) rfl (fin.out _ fn)
end Go.Proofs.YtpajpdkliohepaaDoor
