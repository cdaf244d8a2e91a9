/- loggia/lz: the walk of run. -/
import Derived.Test.YteofooecfedplaaLzA
namespace Go.Proofs.Yteofooecfedplaa
open Go.RowKit

/-- The packer's block. -/
def pk (A : Option Addr) (n c : Nat) (outv : Value) (fr m : Nat) : Array Value := #[.slice A n c, outv, .int .i64 fr, .map (some m)]
set_option maxRecDepth 100000 in
set_option maxHeartbeats 1000000 in
theorem run_any (b fr m to base : Nat) (A : Option Addr) (c : Nat) (l out : List UInt8) (Ao : Option Addr) (co : Nat) (w : World)
  (hR : Row w b 44 (pk A l.length c (.slice Ao out.length co) fr m)) (hl : Bs w A l) (hA : ∀ a, A = some a → a.block < base) (ho : w.ownsRow base 5 1 (.slice Ao out.length co) out.length (out.map B8)) (hbase : base ≤ w.heap.size)
  (hn : l.length ≤ 16777216) (hc : l.length ≤ c) (hbb : base ≤ b) (hfr : fr ≤ to) (hto : to ≤ l.length) (hout : out.length ≤ 16777216) :
    Calls Try.prog 18 #[.pointer (some ⟨b, 0, none⟩), .int .i64 to] w fun e w' => e = .returned (.tuple #[]) ∧
      ∃ A1 n1 c1, n1 = (out ++ runs (seg l fr to)).length ∧ Row w' b 44 (pk A l.length c (.slice A1 n1 c1) to m) ∧ w'.ownsRow base 5 1 (.slice A1 n1 c1) n1 ((out ++ runs (seg l fr to)).map B8) ∧
        Chg (fun k => k = b ∨ (Value.slice Ao out.length co).ownBlock = some k) w w' := by
  obtain ⟨ob, hob⟩ : ∃ ob, ob = (Value.slice Ao out.length co).ownBlock := ⟨_, rfl⟩
  rw [← hob]
  have hobb : ∀ k, ob = some k → base ≤ k := fun k hk => (ho.lt k (by rw [← hob]; exact hk)).1
  go_enter Try.func18, Try.ntmps18
  go_wp2
  go_loopw [4] (fun _ wr => ∃ (f : Nat) (A1 : Option Addr) (n1 c1 : Nat) (x : List UInt8), fr ≤ f ∧ f ≤ to ∧ Hid (x ++ runs (seg l f to) = runs (seg l fr to)) ∧ x.length ≤ 2 * (f - fr) ∧ Hid (n1 = out.length + x.length) ∧ Row wr b 44 (pk A l.length c (.slice A1 n1 c1) f m) ∧
      wr.ownsRow base 5 1 (.slice A1 n1 c1) n1 ((out ++ x).map B8) ∧ Chg (fun k => k = b ∨ ob = some k) w wr ∧ ((Value.slice A1 n1 c1).ownBlock = ob ∨ ∃ g, (Value.slice A1 n1 c1).ownBlock = some g ∧ w.heap.size ≤ g)) (fun _ wr => to - (intOf ((wr.cell? ⟨b, 2, none⟩).getD undef)).toNat)
  case atStart => exact ⟨fr, Ao, out.length, co, [], by omega, by omega, rfl, by simp, rfl, hR, by simpa using ho, Chg.refl _ _, .inl hob.symm⟩
  case round =>
    obtain ⟨f, A1, n1, c1, x, hf1, hf2, hx, hxl, hn1, hR1, ho1, hC, hloc⟩ := hrel
    have hn1' : n1 ≤ out.length + x.length := Nat.le_of_eq hn1.out
    have ca0 : wr.cell? ⟨b, 0, none⟩ = some (.slice A l.length c) := hR1.cell 0 rfl
    have ca1 : wr.cell? ⟨b, 1, none⟩ = some (.slice A1 n1 c1) := hR1.cell 1 rfl
    have ca2 : wr.cell? ⟨b, 2, none⟩ = some (.int .i64 f) := hR1.cell 2 rfl
    have f1 := hR1.free 1
    have f2 := hR1.free 2
    have hbl := hR1.lt
    by_cases h1 : f < to
    · obtain ⟨g, o, rfl, hcl⟩ := hl.at_ (by omega)
      obtain ⟨k, hk⟩ : ∃ k, k = min 128 (to - f) := ⟨_, rfl⟩
      have hk1 : 1 ≤ k := by omega
      have hk2 : k ≤ 128 := by omega
      have hk3 : f + k ≤ to := by omega
      have hmin := run_min2 (P := Try.prog) #[3, 3] 3 (x := 128) (y := (to : Int) - f) (m := k) (by omega)
      replace hk := hide hk
      have hw0 := hC.size
      go_wp2_with (at_builtin; refine wpList_appN elemB ho1 (.tmp 22) (.tmp 26) rfl rfl rfl rfl (one_of rfl) (by simp; omega) (by omega) (fun A2 c2 w1 ho2 hg2 hl2 => ?_); have hne : some b ≠ (Value.slice A1 n1 c1).ownBlock := fun e => owns_unlike ho1 hR1 (by decide) e.symm; have R2 := hR1.grown hg2 hne; have c0' : w1.cell? ⟨b, 0, none⟩ = some (.slice (some ⟨g, o, none⟩) l.length c) := R2.cell 0 rfl; have c1' : w1.cell? ⟨b, 1, none⟩ = some (.slice A1 n1 c1) := R2.cell 1 rfl; have c2' : w1.cell? ⟨b, 2, none⟩ = some (.int .i64 f) := R2.cell 2 rfl; have f1' := R2.free 1; have f2' := R2.free 2; clear ca0 ca1 ca2 f1 f2)
      have hown1 : ∀ k, (Value.slice A1 n1 c1).ownBlock = some k → base ≤ k := fun k hk => (ho1.lt k hk).1
      have hB1 : Below base w wr := hC.below (fun k hk => by rcases hk with rfl | hk; exact hbb; exact hobb k hk) hbase
      have hB2 : Below base w (w1.setCell ⟨b, 1, none⟩ (.slice A2 (n1 + 1) c2)) := (hB1.grown hg2 (by omega) hown1).setCell hbb _
      have hne2 : (Value.slice A2 (n1 + 1) c2).ownBlock ≠ some b := owns_unlike ho2 R2 (by decide)
      have ho3 := owns_set ho2 (a := ⟨b, 1, none⟩) hne2 (.slice A2 (n1 + 1) c2)
      have R3 : Row (w1.setCell ⟨b, 1, none⟩ (.slice A2 (n1 + 1) c2)) b 44 (pk (some ⟨g, o, none⟩) l.length c (.slice A2 (n1 + 1) c2) f m) := R2.put 1 _
      have hcut : Cells (w1.setCell ⟨b, 1, none⟩ (.slice A2 (n1 + 1) c2)) (some ⟨g, o + f, none⟩) ((seg l f (f + k)).map B8) := by unfold seg; exact (hl.below hB2 hA).cut f (f + k - f)
      have hsz3 := Nat.le_trans hbase hB2.size
      have hsl := seg_length (a := f) (b := f + k) (l := l) (by omega)
      have hlen3 : ((seg l f (f + k)).map B8).length = k * 1 := by simp; omega
      refine wp_region_text follows (by kernel_rfl) (by kernel_rfl) (fun K hK => ?_)
      go_wp2_with (at_builtin; refine wpList_app elemB (World.ownsRow.drew ho3) hcut (.tmp 34) (.tmp 49) rfl rfl rfl rfl (by omega) hlen3 (bytes_one _) (by simp only [List.length_cons, List.length_nil]; omega) hsz3 (fun A3 c3 w3 ho4 hg4 hl4 => ?_); have R4 := Row.grown (Row.drew R3) hg4 (fun e => hne2 e.symm); have ca0 : w3.cell? ⟨b, 0, none⟩ = some (.slice (some ⟨g, o, none⟩) l.length c) := R4.cell 0 rfl; have ca1 : w3.cell? ⟨b, 1, none⟩ = some (.slice A2 (n1 + 1) c2) := R4.cell 1 rfl; have ca2 : w3.cell? ⟨b, 2, none⟩ = some (.int .i64 f) := R4.cell 2 rfl; have f1 := R4.free 1; have f2 := R4.free 2; clear c0' c1' c2' f1' f2')
      refine ⟨by kernel_rfl, ?_⟩
      go_wp2
      have hb8 : Value.int .u8 ((k : Int) - 1) = B8 (UInt8.ofNat (k - 1)) := by
        unfold B8
        congr 1
        simp
        omega
      have hne3 : (Value.slice A3 (n1 + 1 + k) c3).ownBlock ≠ some b := owns_unlike ho4 R4 (by decide)
      go_roundw
      case rel =>
        refine ⟨f + k, A3, n1 + 1 + k, c3, x ++ (UInt8.ofNat (k - 1) :: seg l f (f + k)), by omega, by omega, ?_, ?_, ?_, ?_, ?_, ?_, ?_⟩
        · refine hide ?_
          rw [← hx.out, runs_seg h1 hto hk.out]
          simp
        · simp; omega
        · refine hide ?_
          have := hn1.out
          simp; omega
        · exact (R4.put 1 _).put 2 _
        · have := owns_set (owns_set ho4 (a := ⟨b, 1, none⟩) hne3 (.slice A3 (n1 + 1 + k) c3)) (a := ⟨b, 2, none⟩) hne3 (.int .i64 (f + k))
          simpa [hb8] using this
        · have hS1 : ∀ i, i < w.heap.size → (Value.slice A1 n1 c1).ownBlock = some i → i = b ∨ ob = some i := fun i hi h => by
            rcases hloc with h' | ⟨g', h', hg'⟩
            · exact .inr (h'.symm.trans h)
            · rw [h'] at h; cases h; omega
          have hS2 : ∀ i, i < w.heap.size → (Value.slice A2 (n1 + 1) c2).ownBlock = some i → i = b ∨ ob = some i := fun i hi h => by
            rcases hl2 with h' | h'
            · exact hS1 i hi (h'.symm.trans h)
            · have := h'.symm.trans h; cases this; omega
          have e1 := hC.trans (Chg.of_grown (S := fun i => (Value.slice A1 n1 c1).ownBlock = some i) hg2 fun k _ h => h) hS1
          have e2 := e1.trans (Chg.of_set (S := fun i => i = b) w1 (a := ⟨b, 1, none⟩) (.slice A2 (n1 + 1) c2) rfl) fun i _ h => .inl h
          have e3 := e2.trans (Chg.of_ext ((Ext.refl _).drew) (fun _ => False)) fun i _ h => h.elim
          have e4 := e3.trans (Chg.of_grown (S := fun i => (Value.slice A2 (n1 + 1) c2).ownBlock = some i) hg4 fun k _ h => h) hS2
          have e5 := e4.trans (Chg.of_set (S := fun i => i = b) w3 (a := ⟨b, 1, none⟩) (.slice A3 (n1 + 1 + k) c3) rfl) fun i _ h => .inl h
          exact e5.trans (Chg.of_set (S := fun i => i = b) _ (a := ⟨b, 2, none⟩) (.int .i64 (f + k)) rfl) fun i _ h => .inl h
        · have h4 := hg2.size
          rcases hl4 with h | h
          · rcases hl2 with h' | h'
            · have e := h.trans h'
              rcases hloc with h'' | ⟨g', h'', hg'⟩
              · exact .inl (e.trans h'')
              · exact .inr ⟨g', e.trans h'', hg'⟩
            · exact .inr ⟨_, h.trans h', by omega⟩
          · refine .inr ⟨_, h, ?_⟩
            have : (w1.setCell ⟨b, 1, none⟩ (.slice A2 (n1 + 1) c2)).drew.heap.size = w1.heap.size := by simp [World.setCell]
            omega
      case measure =>
        have e2 : ((w3.setCell ⟨b, 1, none⟩ (.slice A3 (n1 + 1 + k) c3)).setCell ⟨b, 2, none⟩ (.int .i64 (f + k))).cell? ⟨b, 2, none⟩ = some (.int .i64 (f + k)) := Row.cell ((R4.put 1 _).put 2 _) 2 rfl
        have e1 : wr.cell? ⟨b, 2, none⟩ = some (.int .i64 f) := hR1.cell 2 rfl
        rw [e2, e1]
        simp [intOf]
        omega
    · obtain rfl : f = to := by omega
      go_wp2
      go_end0
      refine ⟨rfl, A1, n1, c1, ?_, hR1, ?_, hC⟩
      · have h1 := hn1.out
        have h2 := hx.out
        rw [show seg l f f = [] by simp [seg], runs_nil, List.append_nil] at h2
        rw [← h2]
        simp; omega
      · have h2 := hx.out
        rw [show seg l f f = [] by simp [seg], runs_nil, List.append_nil] at h2
        rw [← h2]
        exact ho1
end Go.Proofs.Yteofooecfedplaa
