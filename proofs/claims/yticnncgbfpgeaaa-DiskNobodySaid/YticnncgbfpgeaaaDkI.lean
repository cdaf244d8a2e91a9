/- loggia/disk: names. -/
import Derived.Test.YticnncgbfpgeaaaDkH
namespace Go.Proofs.Yticnncgbfpgeaaa
open Go.RowKit Go.Maps

def sortN (ns : List (List UInt8)) : List (List UInt8) := ns.mergeSort fun x y => decide (x ≤ y)
theorem sortN_perm (ns : List (List UInt8)) : (sortN ns).Perm ns := List.mergeSort_perm _ _
theorem bytes_le_trans {a b c : List UInt8} (h : decide (a ≤ b) = true) (k : decide (b ≤ c) = true) : decide (a ≤ c) = true := decide_eq_true (List.le_trans (of_decide_eq_true h) (of_decide_eq_true k))
theorem bytes_le_total (a b : List UInt8) : (decide (a ≤ b) || decide (b ≤ a)) = true := by
  rcases List.le_total a b with h | h
  · simp [h]
  · simp [h]
theorem sortN_pw (ns : List (List UInt8)) : (sortN ns).Pairwise (fun a b => a ≤ b) := by
  have := List.pairwise_mergeSort (le := fun (x y : List UInt8) => decide (x ≤ y)) (fun a b c => bytes_le_trans) (fun a b => bytes_le_total a b) ns
  exact this.imp fun h => of_decide_eq_true h
/-- Rows of alike members that both rise are alike. -/
theorem sorted_eq : ∀ {a b : List (List UInt8)}, a.Perm b → a.Pairwise (fun x y => x ≤ y) → b.Pairwise (fun x y => x ≤ y) → a = b
  | a, b, hp, ha, hb => List.Perm.eq_of_pairwise (fun x y _ _ h k => List.le_antisymm h k) ha hb hp
theorem sortN_eq {ns : List (List UInt8)} (h : ns.Pairwise (fun x y => x ≤ y)) : sortN ns = ns := sorted_eq (sortN_perm ns) (sortN_pw ns) h
theorem sortN_of {ns ks : List (List UInt8)} (h : ns.Perm ks) : sortN ns = sortN ks := sorted_eq ((sortN_perm ns).trans (h.trans (sortN_perm ks).symm)) (sortN_pw ns) (sortN_pw ks)
theorem sub_len {α : Type} : ∀ (D E : List α), D.Nodup → (∀ e ∈ D, e ∈ E) → D.length ≤ E.length
  | [], E, _, _ => Nat.zero_le _
  | a :: D, E, hn, hs => by
    rw [List.nodup_cons] at hn
    obtain ⟨E1, E2, rfl⟩ := List.append_of_mem (hs a (by simp))
    have := sub_len D (E1 ++ E2) hn.2 fun e he => by
      have h1 := hs e (List.mem_cons_of_mem _ he)
      rcases List.mem_append.1 h1 with h2 | h2
      · exact List.mem_append_left _ h2
      · rcases List.mem_cons.1 h2 with h3 | h3
        · exact absurd (h3 ▸ he) hn.1
        · exact List.mem_append_right _ h3
    simp only [List.length_append, List.length_cons] at *
    omega
set_option maxRecDepth 100000 in
set_option maxHeartbeats 1000000 in
theorem names_any (base d m quota armed : Nat) (stopped : Bool) (E : List Ent) (w : World) (h : DRow w d m quota armed stopped) (hF : FS w base m E) (hu : E.length ≤ 1024) :
    Calls Try.prog 32 #[.pointer (some ⟨d, 0, none⟩)] w fun e w' => ∃ A n c, e = .returned (.slice A n c) ∧ n = E.length ∧ Buf w' w.heap.size 9 A n c ((sortN (E.map Ent.name)).map str) ∧ Ext w w' := by
  have c0 : w.cell? ⟨d, 0, none⟩ = some (.map (some m)) := Row.cell h 0 rfl
  obtain ⟨L, hL, hmem, hlen⟩ := hF.map
  have hml := hL.lt
  obtain ⟨o, hrange, hRL⟩ := hL.range Try.underlying61
  go_enter Try.func32, Try.ntmps32
  go_wp2_with fail
  have hE0 : Ext w (w.alloc o) := (Ext.refl w).alloc o
  have hsz0 : w.heap.size + 1 ≤ (w.alloc o).heap.size := by simp
  go_loopw [3] (fun s3 wr => ∃ (D : List Ent) (n : Nat) (A : Option Addr) (c : Nat), s3 = .slice A n c ∧ Hid (n = D.length) ∧ Hid (wr.ownsRow (w.heap.size + 1) 9 1 (.slice A n c) n (D.map fun e => str e.name)) ∧ Hid (RangeL Try.prog 9 wr m w.heap.size L (D.map fun e => str e.name)) ∧ Hid (∀ e ∈ D, e ∈ E) ∧ w.heap.size + 1 ≤ wr.heap.size ∧ Ext w wr) (fun _ wr => wr.rangeLeft m w.heap.size)
  case atStart => exact ⟨[], 0, none, 0, rfl, hide rfl, hide (World.ownsRow_nil _ _ _ _), hRL, hide (by simp), hsz0, hE0⟩
  case round =>
    obtain ⟨D, n, A, c, rfl, hnD, hO, hR, hD, hsz, hE⟩ := hrel
    have hDn : D.Nodup := nodup_of_map (fun e => str e.name) hR.out.dn
    have hDle : D.length ≤ E.length := by
      exact sub_len D E hDn hD.out
    replace hDle := hide hDle
    rcases hR.out.next 0 with ⟨hrun, hall⟩ | ⟨x, v, w2, hxv, hxd, hrun, hR2, hg2, hs2, hent, hleft⟩
    · have hperm : D.Perm E := all_came hF.names hR.out.dn hD.out (fun e he => by
        have := hall e.kv ((hmem _).2 ⟨e, he, rfl⟩)
        exact this)
      have hbuf : Buf wr (w.heap.size + 1) 9 A n c ((D.map Ent.name).map str) := by
        rw [List.map_map]
        exact Buf.of_own hO.out
      have hn : n = E.length := hnD.out.trans hperm.length_eq
      replace hn := hide hn
      have hn2 : n ≤ 1048576 := by rw [hn.out]; omega
      have hss : sortN (D.map Ent.name) = sortN (E.map Ent.name) := sortN_of (hperm.map _)
      replace hss := hide hss
      have hs := sort_any (w.heap.size + 1) A n c (D.map Ent.name) wr (by rw [List.length_map]; exact hnD.out) hbuf hn2
      go_wp2_with fail
      refine hs.mono ?_
      rintro e w3 ⟨rfl, hb3, hc3⟩
      have hE3 : Ext w w3 := hE.chg hc3 (by
        rintro i hi ⟨a, ha, hk⟩
        have := hbuf.base_le a ha
        omega)
      go_wp2_with fail
      go_ret
      refine ⟨A, n, c, rfl, hn.out, ?_, hE3⟩
      rw [← hss.out]
      obtain ⟨b1, b2, b3⟩ := hb3
      refine ⟨b1, b2, ?_⟩
      rcases b3 with b3 | ⟨g, cur, r1, r2, r3⟩
      · exact .inl b3
      · exact .inr ⟨g, cur, r1, by omega, r3⟩
    · obtain ⟨e0, he0, hkv⟩ := (hmem _).1 hxv
      unfold Ent.kv at hkv
      injection hkv with hx1 hv1
      subst hx1
      subst hv1
      have hE2 : Ext w w2 := hE.grown hg2 (fun k hk => by cases hk; exact Nat.le_refl _)
      have hsz2 : w.heap.size + 1 ≤ w2.heap.size := by rw [hs2]; exact hsz
      have hb0 := (Buf.of_own hO.out).base_le
      have hO2 : w2.ownsRow (w.heap.size + 1) 9 1 (.slice A n c) n (D.map fun e => str e.name) := by
        refine (Chg.of_grown (S := fun k => k = w.heap.size) hg2 (fun k _ hk => by cases hk; rfl)).owns hO.out ?_
        rintro g hg hgk
        obtain ⟨cur, _, h9⟩ := owns_row hO.out hg
        omega
      have hnl : n + 1 ≤ 1025 := by rw [hnD.out]; have := hDle.out; omega
      have hgb : (Value.slice A n c).ownBlock ≠ some m ∧ (Value.slice A n c).ownBlock ≠ some w.heap.size := by
        constructor
        · intro hg
          obtain ⟨cur, _, h9⟩ := owns_row hO.out hg
          omega
        · intro hg
          obtain ⟨cur, _, h9⟩ := owns_row hO.out hg
          omega
      have hgo : ∀ k, (Value.slice A n c).ownBlock = some k → w.heap.size ≤ k := by
        intro k hg
        obtain ⟨cur, _, h9⟩ := owns_row hO.out hg
        omega
      replace hgb := hide hgb
      replace hgo := hide hgo
      replace hs2 := hide hs2
      replace hb0 := hide hb0
      clear hml
      obtain ⟨s0, hs0⟩ : ∃ s0, str e0.name = .string s0 := ⟨_, rfl⟩
      rw [hs0] at hrun hent hR2
      replace hs0 := hide hs0
      go_wp2_with (at_builtin; refine wpList_appN (us := [.string s0]) elemS hO2 (.tmp 14) (.tmp 16) rfl rfl rfl rfl (one_of rfl) (by simp; omega) (by omega) (fun A3 c3 w3 ho3 hg3 hl3 => ?_))
      have hE3 : Ext w w3 := hE2.grown hg3 hgo.out
      have hR3 : RangeL Try.prog 9 w3 m w.heap.size L ((D ++ [e0]).map fun e => str e.name) := by
        rw [List.map_append, List.map_cons, List.map_nil, hs0.out]
        exact hR2.grown hg3 hgb.out.1 hgb.out.2
      have ho3' : w3.ownsRow (w.heap.size + 1) 9 1 (.slice A3 (n + 1) c3) (n + 1) ((D ++ [e0]).map fun e => str e.name) := by
        rw [List.map_append, List.map_cons, List.map_nil, hs0.out]
        exact ho3
      have hsz3 : w.heap.size + 1 ≤ w3.heap.size := Nat.le_trans hsz2 hg3.size
      have hl3' : w3.rangeLeft m w.heap.size < wr.rangeLeft m w.heap.size := by
        have h1 : w3.heap[m]? = w2.heap[m]? := hg3.block m hR2.map.lt (fun e => hgb.out.1 e.symm)
        have h2 : w3.heap[w.heap.size]? = w2.heap[w.heap.size]? := hg3.block _ hR2.lt (fun e => hgb.out.2 e.symm)
        have h3 : w3.rangeLeft m w.heap.size = w2.rangeLeft m w.heap.size := by unfold World.rangeLeft; rw [h1, h2]
        rw [h3]
        exact hleft
      go_roundw
      case rel => exact ⟨D ++ [e0], n + 1, A3, c3, rfl, hide (by rw [List.length_append]; simp; exact hnD.out), ho3', hR3, hide (fun e he => by
        rcases List.mem_append.1 he with he | he
        · exact hD.out e he
        · simp at he; subst he; exact he0), hsz3, hE3⟩
      case measure => exact hl3'
end Go.Proofs.Yticnncgbfpgeaaa
