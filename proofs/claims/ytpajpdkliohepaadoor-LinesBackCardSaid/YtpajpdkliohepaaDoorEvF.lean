/- Rows of events; few, cut. -/
import Derived.Test.YtpajpdkliohepaaDoorFmL
namespace Go.Proofs.YtpajpdkliohepaaDoor
open Go.RowKit

/-- An event where it lies: its fields' slice. -/
structure EvC where
  e : Ev
  A : Option Addr
  c : Nat
def EvC.val (x : EvC) : Value := x.e.val x.A x.c
def EvC.cells (x : EvC) : List Value := [.int .i64 x.e.at_, .slice x.A x.e.fs.length x.c]
def ecells (l : List EvC) : List Value := l.flatMap EvC.cells
theorem ecells_len : ∀ l : List EvC, (ecells l).length = l.length * 2
  | [] => rfl
  | x :: l => by
    have := ecells_len l
    unfold ecells at this ⊢
    rw [List.flatMap_cons, List.length_append, this, List.length_cons]
    simp [EvC.cells]
    omega
theorem ecells_get : ∀ (l : List EvC) (i : Nat) (x : EvC) (k : Nat), l[i]? = some x → k < 2 → (ecells l)[i * 2 + k]? = x.cells[k]?
  | [], i, x, k, h, _ => by simp at h
  | y :: l, 0, x, k, h, hk => by
    obtain rfl : y = x := by simpa using h
    unfold ecells
    rw [List.flatMap_cons, List.getElem?_append_left (by simp [EvC.cells]; omega), Nat.zero_mul, Nat.zero_add]
  | y :: l, i + 1, x, k, h, hk => by
    have h' : l[i]? = some x := by simpa using h
    have ih := ecells_get l i x k h' hk
    unfold ecells at ih ⊢
    rw [List.flatMap_cons, List.getElem?_append_right (by simp [EvC.cells]; omega)]
    have : (i + 1) * 2 + k - (EvC.cells y).length = i * 2 + k := by
      have : (EvC.cells y).length = 2 := rfl
      omega
    rw [this]
    exact ih
theorem ecells_snoc (l : List EvC) (x : EvC) : ecells (l ++ [x]) = ecells l ++ x.cells := by
  unfold ecells
  rw [List.flatMap_append]
  simp
theorem ecells_at {w : World} {A : Option Addr} {l : List EvC} (h : Cells w A (ecells l)) {i : Nat} {x : EvC} (hx : l[i]? = some x) : ∃ g o, A = some ⟨g, o, none⟩ ∧ w.cell? ⟨g, o + i * 2, none⟩ = some (.int .i64 x.e.at_) ∧ w.cell? ⟨g, o + i * 2 + 1, none⟩ = some (.slice x.A x.e.fs.length x.c) := by
  have hi := (List.getElem?_eq_some_iff.1 hx).1
  obtain ⟨g, o, hA, hc⟩ := h.at_ (by rw [ecells_len]; omega)
  refine ⟨g, o, hA, ?_, ?_⟩
  · exact hc (i * 2 + 0) _ (by rw [ecells_get l i x 0 hx (by omega)]; rfl)
  · rw [Nat.add_assoc]
    exact hc (i * 2 + 1) _ (by rw [ecells_get l i x 1 hx (by omega)]; rfl)
/-- A row of events lies at A. -/
structure EvsOk (w : World) (A : Option Addr) (l : List EvC) : Prop where
  cells : Cells w A (ecells l)
  each : ∀ x ∈ l, x.e.Ok w x.A
theorem EvsOk.ext {w w1 : World} {A : Option Addr} {l : List EvC} (h : EvsOk w A l) (hE : Ext w w1) : EvsOk w1 A l := ⟨h.cells.ext hE, fun x hx => (h.each x hx).ext hE⟩
theorem EvsOk.nil (w : World) (A : Option Addr) : EvsOk w A [] := ⟨.inl rfl, nofun⟩
def cutF (f : Fd) : Fd := (f.1, f.2.take 300)
/-- What is looked at of an event. -/
def fewE (e : Ev) : Ev := ⟨e.at_, (e.fs.take 20).map cutF⟩
def fewL (l : List Ev) : List Ev := (l.take 20).map fewE
set_option maxRecDepth 100000 in
theorem elemEv : Elem Tryd.prog 25 24 2 32 := ⟨Tryd.underlying25, ⟨_, _, rfl, rfl, rfl, rfl, rfl⟩, by omega, by omega⟩
set_option maxRecDepth 100000 in
theorem cut_any (s : List UInt8) (w : World) (hs : s.length ≤ 9223372036854775807) : Calls Tryd.prog 8 #[.string ⟨s.toArray⟩] w fun e w' => e = .returned (.string ⟨(s.take 3000).toArray⟩) ∧ w' = w := by
  obtain ⟨k, hk⟩ : ∃ k, k = min s.length 3000 := ⟨_, rfl⟩
  have hmin := run_min2 (P := Tryd.prog) #[3, 3] 3 (x := (s.length : Int)) (y := 3000) (m := (k : Int)) (by omega)
  have hhd := fun W => run_strheadz (l := s) (k := k) (by omega) (z := (k : Int)) rfl W
  rw [show s.take k = s.take 3000 by rw [List.take_eq_take_iff]; omega] at hhd
  clear hk
  go_enter Tryd.func8, Tryd.ntmps8
  go_wp2_with fail
  go_ret
  exact ⟨rfl, rfl⟩
theorem few_take {L : List EvC} {i : Nat} {x : EvC} (h : L[i]? = some x) : ((L.take (i + 1)).map fun x => fewE x.e) = ((L.take i).map fun x => fewE x.e) ++ [fewE x.e] := by
  rw [take_one2 h, List.map_append]
  rfl
theorem cutF_take {fs : List Fd} {j : Nat} {f : Fd} (h : fs[j]? = some f) : (fs.take (j + 1)).map cutF = (fs.take j).map cutF ++ [cutF f] := by
  rw [take_one2 h, List.map_append]
  rfl
/-- An event whose fields' row is the call's own. -/
def EvC.Own (x : EvC) (w : World) (base : Nat) : Prop := x.e.Own w base x.A x.c
theorem EvC.Own.ok {x : EvC} {w : World} {base : Nat} (h : x.Own w base) : x.e.Ok w x.A := Ev.Own.ok h
theorem EvC.Own.chg {x : EvC} {w w' : World} {base : Nat} {S : Nat → Prop} (h : x.Own w base) (hc : Chg S w w') (hS : ∀ g cs, Row w g 52 cs → ¬ S g) : x.Own w' base :=
  ⟨hc.owns h.1 fun g hg => by obtain ⟨cs, hr, _⟩ := owns_row h.1 hg; exact hS g cs hr, h.2⟩
/-- What few answers. -/
def FewP (w : World) (l : List EvC) (e : Ending) (w' : World) : Prop := ∃ A' l' c', e = .returned (.slice A' (List.length l') c') ∧ Ext w w' ∧ EvsOk w' A' l' ∧ l'.map (·.e) = fewL (l.map (·.e)) ∧ l'.length ≤ 20
set_option maxRecDepth 100000 in
set_option maxHeartbeats 4000000 in
theorem few_any (l : List EvC) (A : Option Addr) (c : Nat) (w : World) (h : EvsOk w A l) (hl : l.length ≤ 9223372036854775807) : Calls Tryd.prog 7 #[.slice A l.length c] w fun e w' => FewP w l e w' := by
  obtain ⟨n, hn⟩ : ∃ n, n = l.length := ⟨_, rfl⟩
  rw [← hn] at hl ⊢
  replace hn := hide hn
  go_enter Tryd.func7, Tryd.ntmps7
  go_wp2_with fail
  go_loopw [3, 4] (fun s3 s4 wr => ∃ (i : Nat) (done : List EvC) (A2 : Option Addr) (c2 : Nat), s4 = .int .i64 (i : Int) ∧ s3 = .slice A2 i c2 ∧ i ≤ n ∧ i ≤ 20 ∧ Hid (done.length = i) ∧ Hid (done.map (·.e) = (l.take i).map fun x => fewE x.e) ∧ Hid (wr.ownsRow w.heap.size 24 2 (.slice A2 i c2) i (ecells done)) ∧ Hid (∀ x ∈ done, x.Own wr w.heap.size) ∧ Hid (Ext w wr)) (fun _ s4 _ => n - (intOf s4).toNat)
  case atStart => exact ⟨0, [], none, 0, rfl, rfl, by omega, by omega, hide rfl, hide (by simp), hide ⟨rfl, .inl ⟨rfl, rfl⟩⟩, hide nofun, hide (Ext.refl w)⟩
  case round =>
    obtain ⟨i, done, A2, c2, rfl, rfl, hi, hi20, hdl, hdm, hown, heach, hE⟩ := hrel
    by_cases hgo : i < n ∧ i < 20
    · obtain ⟨hin, hin20⟩ := hgo
      obtain ⟨x, hx⟩ : ∃ x, l[i]? = some x := ⟨_, List.getElem?_eq_getElem (by rw [← hn.out]; exact hin)⟩
      have hxo := (h.each x (List.mem_of_getElem? hx)).ext hE.out
      obtain ⟨g, o, hA, k0, k1⟩ := ecells_at (h.cells.ext hE.out) hx
      have hft := few_take hx
      obtain ⟨⟨at_, fs⟩, B, cb⟩ := x
      simp only at k0 k1 hxo hft
      obtain ⟨hfc, hfm, hfl⟩ := hxo
      simp only at hfc hfm hfl
      subst hA
      obtain ⟨m, hm⟩ : ∃ m, m = fs.length := ⟨_, rfl⟩
      rw [← hm] at k1 hfm
      replace hm := hide hm
      replace hfl := hide hfl
      replace hfc := hide hfc
      replace hft := hide hft
      have hi0 : (0 : Int) ≤ i := by omega
      have hi1 : (i : Int) < n := by omega
      have hi2 : (i : Int) < 20 := by omega
      clear hx
      go_wp2_with fail
      obtain ⟨W1, hW1⟩ : ∃ W1, W1 = wr.alloc (.cells #[.int .i64 at_, .slice none 0 0] 24) := ⟨_, rfl⟩
      have hEv : Row W1 wr.heap.size 24 #[.int .i64 at_, .slice none 0 0] := by rw [hW1]; exact Row.new wr _ _
      have hE1 : Ext wr W1 := by rw [hW1]; exact (Ext.refl wr).alloc _
      rw [← hW1]
      clear hW1
      obtain ⟨b, hb⟩ : ∃ b, b = wr.heap.size := ⟨_, rfl⟩
      rw [← hb] at hEv
      rw [← hb]
      have hble : wr.heap.size ≤ b := Nat.le_of_eq hb.symm
      replace hb := hide hb
      obtain ⟨wo, rfl⟩ : ∃ wo, wo = wr := ⟨_, rfl⟩
      go_loopw [6] (fun s6 wi => ∃ (j : Nat) (A3 : Option Addr) (c3 : Nat), s6 = .int .i64 (j : Int) ∧ j ≤ m ∧ j ≤ 20 ∧ Hid (Row wi b 24 #[.int .i64 at_, .slice A3 j c3]) ∧ Hid (wi.ownsRow (b + 1) 52 2 (.slice A3 j c3) j (fcells ((fs.take j).map cutF))) ∧ Hid (Ext wo wi)) (fun s6 _ => m - (intOf s6).toNat)
      case atStart => exact ⟨0, none, 0, rfl, by omega, by omega, hide hEv, hide ⟨by simp [fcells], .inl ⟨rfl, rfl⟩⟩, hide hE1⟩
      case round =>
        obtain ⟨j, A3, c3, rfl, hj, hj20, hevw, hownj, hEi⟩ := hrel
        have q1 : wr.cell? ⟨g, o + i * 2 + 1, none⟩ = some (.slice B m cb) := hEi.out.cell k1
        have q2 : wr.cell? ⟨b, 1, none⟩ = some (.slice A3 j c3) := hevw.out.cell 1 rfl
        by_cases hgo : j < m ∧ j < 20
        · obtain ⟨hjm, hj20'⟩ := hgo
          obtain ⟨f, hf⟩ : ∃ f, fs[j]? = some f := ⟨_, List.getElem?_eq_getElem (by rw [← hm.out]; exact hjm)⟩
          obtain ⟨g2, o2, hB, y0, y1⟩ := fcells_at (hfc.out.ext hEi.out) hf
          have hct := cutF_take hf
          have hfll := hfl.out f (List.mem_of_getElem? hf)
          subst hB
          obtain ⟨nm, tx⟩ := f
          unfold strV at y0 y1
          simp only at y0 y1 hfll
          obtain ⟨hf1, hf2⟩ := hfll
          obtain ⟨k, hk⟩ : ∃ k, k = min tx.length 300 := ⟨_, rfl⟩
          have hmin := run_min2 (P := Tryd.prog) #[3, 3] 3 (x := (tx.length : Int)) (y := 300) (m := (k : Int)) (by omega)
          have hhd := fun W => run_strheadz (l := tx) (k := k) (by omega) (z := (k : Int)) rfl W
          rw [show tx.take k = tx.take 300 by rw [List.take_eq_take_iff]; omega] at hhd
          obtain ⟨tx2, htx2⟩ : ∃ tx2, tx2 = tx.take 300 := ⟨_, rfl⟩
          rw [← htx2] at hhd
          have hj0 : (0 : Int) ≤ j := by omega
          have hj1 : (j : Int) < m := by omega
          have hj2 : (j : Int) < 20 := by omega
          replace htx2 := hide htx2
          replace hct := hide hct
          clear hk hf
          have hevF := hevw.out.alloc (.cells #[.string ⟨nm.toArray⟩, .string ⟨tx2.toArray⟩] 52)
          have hF := Row.new wr 52 #[.string ⟨nm.toArray⟩, .string ⟨tx2.toArray⟩]
          have e0 := hF.cell 0 rfl
          have e1 := hF.cell 1 rfl
          have q3 := hevF.cell 1 rfl
          have hblt := hevF.lt
          have hsz5 : b + 1 ≤ (wr.alloc (.cells #[.string ⟨nm.toArray⟩, .string ⟨tx2.toArray⟩] 52)).heap.size := hevF.lt
          have hown5 : (wr.alloc (.cells #[.string ⟨nm.toArray⟩, .string ⟨tx2.toArray⟩] 52)).ownsRow (b + 1) 52 2 (.slice A3 j c3) j (fcells ((fs.take j).map cutF)) := ((Ext.refl wr).alloc _).owns hownj.out
          have hne2 : ∀ k, (Value.slice A3 j c3).ownBlock = some k → b + 1 ≤ k := fun k hk => by obtain ⟨_, _, hb⟩ := owns_row hownj.out hk; exact hb
          go_wp2_with (at_builtin; refine wpList_appZ (us := [.string ⟨nm.toArray⟩, .string ⟨tx2.toArray⟩]) (m := 1) elemFd hown5 (by simp) (.tmp 54) (.tmp 56) rfl rfl rfl rfl rfl (one_of rfl) (by omega) hsz5 (fun A6 c6 w6 ho6 hg6 hl6 => ?_); have hev6 := Row.grown hevF hg6 (fun e => by have := hne2 _ e.symm; omega); have q4 : w6.cell? ⟨b, 1, none⟩ = some (.slice A3 j c3) := hev6.cell 1 rfl; have qf := hev6.free 1; have hev6h := hide hev6; have hg6h := hide hg6; have ho6h := hide ho6; clear hg6 ho6 hev6 hl6)
          have hE6 : Ext wo w6 := (hEi.out.alloc (.cells #[.string ⟨nm.toArray⟩, .string ⟨tx2.toArray⟩] 52)).grown hg6h.out fun k hk => by have := hne2 k hk; omega
          have hne6 : (Value.slice A6 (j + 1) c6).ownBlock ≠ some b := fun e => by
            obtain ⟨_, _, hb⟩ := owns_row ho6h.out e
            omega
          refine ⟨⟨j + 1, A6, c6, by go_num, by omega, by omega, hide (hev6h.out.put 1 _), hide ?_, hide (hE6.setCell (by simp only; omega) _)⟩, ?_⟩
          · rw [hct.out, fcells_snoc]
            have : cutF (nm, tx) = (nm, tx2) := by unfold cutF; rw [htx2.out]
            rw [this]
            exact owns_set ho6h.out hne6 _
          · simp [intOf]; omega
        · have hfin : (⟨fewE ⟨at_, fs⟩, A3, c3⟩ : EvC).Own wr (b + 1) := by
            have hjj : (fs.take j).map cutF = (fs.take 20).map cutF := by
              congr 1
              rw [List.take_eq_take_iff]
              have := hm.out
              omega
            have hjl : j = ((fs.take 20).map cutF).length := by
              rw [List.length_map, List.length_take]
              have := hm.out
              omega
            unfold EvC.Own Ev.Own fewE
            simp only
            rw [← hjj]
            rw [← hjj] at hjl
            rw [← hjl]
            refine ⟨hownj.out, fun f hf => ?_, hj20⟩
            obtain ⟨f0, hf0, rfl⟩ := List.mem_map.1 hf
            have := hfl.out f0 (List.mem_of_mem_take hf0)
            unfold cutF
            simp only
            rw [List.length_take]
            omega
          have hjl : j = (fewE ⟨at_, fs⟩).fs.length := by
            show j = ((fs.take 20).map cutF).length
            rw [List.length_map, List.length_take]
            have := hm.out
            omega
          have q0 : wr.cell? ⟨b, 0, none⟩ = some (.int .i64 at_) := hevw.out.cell 0 rfl
          replace hfin := hide hfin
          replace hjl := hide hjl
          have hownw := hEi.out.owns hown.out
          have hszw : w.heap.size ≤ wr.heap.size := (hE.out.trans hEi.out).size
          by_cases hjm : j < m
          all_goals
            go_wp2_with (at_builtin; refine wpList_appS (us := [.int .i64 at_, .slice A3 j c3]) (m := 1) elemEv hownw (.tmp 59) (.tmp 61) rfl rfl rfl rfl rfl (one_of rfl) (by omega) hszw (fun A7 c7 w7 ho7 hg7 hl7 => ?_))
            have hEn : Ext w w7 := (hE.out.trans hEi.out).grown hg7 fun k hk => by obtain ⟨_, _, hb⟩ := owns_row hownw hk; exact hb
            refine ⟨⟨i + 1, done ++ [⟨fewE ⟨at_, fs⟩, A3, c3⟩], A7, c7, by go_num, rfl, by omega, by omega, hide (by rw [List.length_append, hdl.out]; rfl), hide ?_, hide ?_, hide ?_, hide hEn⟩, ?_⟩
            · rw [hft.out, List.map_append, hdm.out]
              rfl
            · rw [ecells_snoc]
              unfold EvC.cells
              simp only
              rw [← hjl.out]
              exact ho7
            · intro x hx
              have hch : Chg (fun k => (Value.slice A2 i c2).ownBlock = some k) wr w7 := Chg.of_grown hg7 fun k _ hk => hk
              have hun : ∀ g cs, Row wr g 52 cs → ¬ (Value.slice A2 i c2).ownBlock = some g := fun g cs hr => owns_unlike hownw hr (by decide)
              rcases List.mem_append.1 hx with hx | hx
              · have h1 := heach.out x hx
                exact EvC.Own.chg ⟨hEi.out.owns h1.1, h1.2⟩ hch hun
              · rw [List.mem_singleton.1 hx]
                exact EvC.Own.chg ⟨owns_lower hfin.out.1 (by have := hE.out.size; omega), hfin.out.2⟩ hch hun
            · simp [intOf]; omega
    · have hii : Hid (fewL (l.map (·.e)) = (l.take i).map fun x => fewE x.e) := by
        unfold fewL
        rw [← List.map_take, List.map_map]
        have : l.take 20 = l.take i := by rw [List.take_eq_take_iff]; have := hn.out; omega
        rw [this]
        rfl
      have hfin : ∀ wz, wz = wr → FewP w l (.returned (.slice A2 i c2)) wz := by
        rintro wz rfl
        exact ⟨A2, done, c2, by rw [hdl.out], hE.out, ⟨Cells.of_own hown.out, fun x hx => (heach.out x hx).ok⟩, by rw [hii.out, hdm.out], by rw [hdl.out]; exact hi20⟩
      replace hfin := hide hfin
      by_cases hin : i < n
      · have h20 : ¬ (i : Int) < 20 := by omega
        go_wp2_with fail
        go_ret
        exact hfin.out _ rfl
      · go_wp2_with fail
        go_ret
        exact hfin.out _ rfl
end Go.Proofs.YtpajpdkliohepaaDoor
