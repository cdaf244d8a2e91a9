/- loggia/lz: a place is noted. -/
import Derived.Test.YteofooecfedplaaLzC
namespace Go.Proofs.Yteofooecfedplaa
open Go.RowKit Go.Maps

/-- The four bytes from i on (fewer, at the end). -/
def kb (l : List UInt8) (i : Nat) : List UInt8 := (l.drop i).take 4
/-- Where the bytes x were seen, ahead of i. -/
def pos (l x : List UInt8) (i : Nat) : List Nat := (List.range i).filter fun j => kb l j == x
theorem pos_succ (l x : List UInt8) (i : Nat) : pos l x (i + 1) = pos l x i ++ (if kb l i = x then [i] else []) := by
  unfold pos
  rw [List.range_succ, List.filter_append]
  congr 1
  by_cases h : kb l i = x
  · simp [h]
  · simp [h]
theorem kb_length {l : List UInt8} {i : Nat} : (kb l i).length = min 4 (l.length - i) := by simp [kb]
theorem kb_four {l : List UInt8} {i : Nat} (h : i + 4 ≤ l.length) : ∃ a b c d : UInt8, kb l i = [a, b, c, d] ∧ l.getD i 0 = a ∧ l.getD (i + 1) 0 = b ∧ l.getD (i + 2) 0 = c ∧ l.getD (i + 3) 0 = d := by
  refine ⟨l[i], l[i + 1], l[i + 2], l[i + 3], ?_, by simp [List.getD, show i < l.length by omega], by simp [List.getD, show i + 1 < l.length by omega], by simp [List.getD, show i + 2 < l.length by omega], by simp [List.getD, show i + 3 < l.length by omega]⟩
  unfold kb
  rw [List.drop_eq_getElem_cons (by omega), List.drop_eq_getElem_cons (by omega), List.drop_eq_getElem_cons (by omega), List.drop_eq_getElem_cons (by omega)]
  rfl
def iv (j : Nat) : Value := .int .i64 j
/-- Block m is the map of places: of each four bytes that were seen ahead of i, where. -/
structure Grp (w : World) (m base : Nat) (l : List UInt8) (i : Nat) (L : List (Value × Value)) : Prop where
  map : MapL Try.prog 54 w m L
  own : ∀ p ∈ L, ∃ x, x.length = 4 ∧ p.1 = keyV x ∧ w.ownsRow base 3 1 p.2 (pos l x i).length ((pos l x i).map iv)
  all : ∀ x, x.length = 4 → (∀ p ∈ L, p.1 ≠ keyV x) → pos l x i = []
  apart : ∀ p ∈ L, ∀ q ∈ L, p.1 ≠ q.1 → p.2.ownBlock = none ∨ p.2.ownBlock ≠ q.2.ownBlock
theorem Grp.keep {w w1 : World} {m base : Nat} {l : List UInt8} {i : Nat} {L : List (Value × Value)} {S : Nat → Prop} (h : Grp w m base l i L) (hc : Chg S w w1) (hm : ¬ S m) (hS : ∀ k cur, S k → ¬ Row w k 3 cur) : Grp w1 m base l i L where
  map := h.map.keep (hc.block m h.map.lt hm)
  own p hp := by
    obtain ⟨x, h1, h2, h3⟩ := h.own p hp
    exact ⟨x, h1, h2, hc.owns h3 fun g hg hs => by
      obtain ⟨cur, hr, _⟩ := owns_row h3 hg
      exact hS g cur hs hr⟩
  all := h.all
  apart := h.apart
theorem Grp.next {w : World} {m base : Nat} {l : List UInt8} {i : Nat} {L : List (Value × Value)} (h : Grp w m base l i L) (hi : l.length < i + 4) : Grp w m base l (i + 1) L := by
  have e : ∀ x : List UInt8, x.length = 4 → pos l x (i + 1) = pos l x i := fun x hx => by
    rw [pos_succ, if_neg, List.append_nil]
    intro he
    have := kb_length (l := l) (i := i)
    rw [he, hx] at this
    omega
  exact ⟨h.map, fun p hp => by
    obtain ⟨x, h1, h2, h3⟩ := h.own p hp
    exact ⟨x, h1, h2, by rw [e x h1]; exact h3⟩, fun x hx hn => by rw [e x hx]; exact h.all x hx hn, h.apart⟩

theorem zeroI (w : World) : (zeroValue 57).run Try.prog w = .ok (.slice none 0 0) w := by kernel_rfl

set_option maxRecDepth 100000 in
set_option maxHeartbeats 1000000 in
theorem note_yes (b m base i : Nat) (A : Option Addr) (c n2 : Nat) (l : List UInt8) (outv : Value) (fr : Nat) (L : List (Value × Value)) (w : World)
  (hR : Row w b 44 #[.slice A l.length c, outv, .int .i64 fr, .map (some m)]) (hl : Bs w A l) (hG : Grp w m base l i L) (hbase : base ≤ w.heap.size)
  (hn : l.length ≤ 16777216) (hc : l.length ≤ c) (hi : i + 4 ≤ l.length) :
    Calls Try.prog 19 #[.pointer (some ⟨b, 0, none⟩), .int .i64 i] w fun e w' => e = .returned (.tuple #[]) ∧ 
      (∃ L', Grp w' m base l (i + 1) L') ∧ Chg (fun k => k = m ∨ base ≤ k ∧ ∃ cur, Row w k 3 cur) w w' := by
  obtain ⟨a0, a1, a2, a3, hkb, e0, e1, e2, e3⟩ := kb_four hi
  have hky := fun w1 => key_yes b i A c l w1
  unfold key4 B8 at hky
  rw [e0, e1, e2, e3] at hky
  have HK := hide hky
  clear hky e0 e1 e2 e3
  replace hkb := hide hkb
  go_enter Try.func19, Try.ntmps19
  go_wp2_with fail
  refine (HK.out _ (hR.cell 0 rfl) hl hn hc hi).mono ?_
  rintro e w1 ⟨rfl, hE⟩
  have R1 := hR.ext hE
  have hbl := R1.lt
  have ca3 : w1.cell? ⟨b, 3, none⟩ = some (.map (some m)) := R1.cell 3 rfl
  obtain ⟨W1, hW1⟩ : ∃ W, W = w1.alloc (.cells #[.int .u8 (a0.toNat : Int), .int .u8 (a1.toNat : Int), .int .u8 (a2.toNat : Int), .int .u8 (a3.toNat : Int)] 54) := ⟨_, rfl⟩
  have hE1 : Ext w W1 := by rw [hW1]; exact hE.alloc _
  have hsz1 : W1.heap.size = w1.heap.size + 1 := by rw [hW1]; simp
  have hE2 : Ext w (W1.alloc (.cells #[.int .i64 i] 3)).drew := (hE1.alloc _).drew
  have hG2 : Grp (W1.alloc (.cells #[.int .i64 i] 3)).drew m base l i L := hG.keep (Chg.of_ext hE2 (fun _ => False)) (fun h => h) (fun _ _ h => h.elim)
  have hkl : (kb l i).length = 4 := by rw [hkb.out]; rfl
  obtain ⟨lit, hlit⟩ := keyV_lit hkl
  have hkv : keyV (kb l i) = .agg #[.int .u8 (a0.toNat : Int), .int .u8 (a1.toNat : Int), .int .u8 (a2.toNat : Int), .int .u8 (a3.toNat : Int)] := by rw [hkb.out]; rfl
  obtain ⟨w3, v, nb, hrun1, hv, hg3, hs3, ⟨L3, hmap3⟩, hback⟩ := hG2.map.entry K4 Try.underlying42 hlit (zeroI _)
  -- what lies at the key
  have hown3 : w3.ownsRow base 3 1 v (pos l (kb l i) i).length ((pos l (kb l i) i).map iv) := by
    rcases hv with hv | ⟨hno, rfl⟩
    · obtain ⟨x, h1, h2, h3⟩ := hG2.own _ hv
      obtain rfl := keyV_inj h2
      refine h3.kept hg3 (.inr fun he => ?_)
      obtain ⟨cur, hr, _⟩ := owns_row h3 he
      obtain ⟨⟨es, cl, hh, _⟩, _⟩ := hG2.map
      unfold Row at hr
      rw [hh] at hr
      cases hr
    · rw [hG2.all _ hkl hno]
      exact World.ownsRow_nil _ _ _ _
  have hplen : (pos l (kb l i) i).length ≤ i := by
    unfold pos
    exact Nat.le_trans (List.length_filter_le _ _) (by simp)
  have hne_m : w1.heap.size + 1 ≠ m := by
    have h1 := hG.map.lt
    have h2 := hE.size
    omega
  have hnew : Cells w3 (some ⟨w1.heap.size + 1, 0, none⟩) [.int .i64 i] := by
    have hr : Row (W1.alloc (.cells #[.int .i64 i] 3)).drew (w1.heap.size + 1) 3 #[.int .i64 i] := by rw [← hsz1]; exact (Row.new W1 _ _).drew
    refine .inr ⟨w1.heap.size + 1, 0, rfl, fun j u hu => ?_⟩
    have hr3 := hr.grown hg3 (by simpa using hne_m)
    rw [Nat.zero_add]
    exact hr3.cell j (by simpa using hu)
  obtain ⟨A1, c1, w4, hrun2, hown4, hg4, hloc4⟩ := run_app (P := Try.prog) elemI w3 57 hown3 (m := 1) (c := 1) hnew rfl (one_of rfl) (by omega) (by rw [hs3]; simp [hW1]; have := hE.size; omega)
  have hm4 : w4.heap[m]? = w3.heap[m]? := hg4.block m (by rw [hs3]; exact hG2.map.lt) (fun he => by
    obtain ⟨cur, hr, _⟩ := owns_row hown3 he.symm
    obtain ⟨⟨es, cl, hh, _⟩, _⟩ := hmap3
    unfold Row at hr
    rw [hh] at hr
    cases hr)
  obtain ⟨w5, L', hrun3, hmap5, hput, hg5, hs5⟩ := hback w4 (.slice A1 ((pos l (kb l i) i).length + 1) c1) hm4
  obtain ⟨A0, c0, rfl⟩ : ∃ A0 c0, v = .slice A0 (pos l (kb l i) i).length c0 := owns_shape hown3
  -- what the call comes to
  have fin : (∃ L', Grp w5 m base l (i + 1) L') ∧ Chg (fun k => k = m ∨ base ≤ k ∧ ∃ cur, Row w k 3 cur) w w5 := by
    have hps := pos_succ l (kb l i) i
    rw [if_pos rfl] at hps
    have hown5 : w5.ownsRow base 3 1 (.slice A1 ((pos l (kb l i) i).length + 1) c1) (pos l (kb l i) (i + 1)).length ((pos l (kb l i) (i + 1)).map iv) := by
      have h1 : w5.ownsRow base 3 1 (.slice A1 ((pos l (kb l i) i).length + 1) c1) ((pos l (kb l i) i).length + 1) ((pos l (kb l i) i).map iv ++ [.int .i64 i]) := by
        refine hown4.kept hg5 (.inr fun he => ?_)
        obtain ⟨cur, hr, _⟩ := owns_row hown4 he
        have h4 := hmap3.keep hm4
        obtain ⟨⟨es, cl, hh, _⟩, _⟩ := h4
        unfold Row at hr
        rw [hh] at hr
        cases hr
      rw [hps]
      simpa [iv] using h1
    have hm2 : m < (W1.alloc (.cells #[.int .i64 i] 3)).drew.heap.size := hG2.map.lt
    have hs4 := hg4.size
    -- the rows of the other keys
    have keep : ∀ p ∈ L, p.1 ≠ keyV (kb l i) → ∀ xs, (W1.alloc (.cells #[.int .i64 i] 3)).drew.ownsRow base 3 1 p.2 xs.length xs → (p.2.ownBlock = none ∨ p.2.ownBlock ≠ (Value.slice A0 (pos l (kb l i) i).length c0).ownBlock) ∧ w5.ownsRow base 3 1 p.2 xs.length xs := by
      intro p hp hne xs ho
      have hnm : ∀ {W : World} {L0 : List (Value × Value)}, MapL Try.prog 54 W m L0 → W.ownsRow base 3 1 p.2 xs.length xs → p.2.ownBlock ≠ some m := by
        intro W L0 hW hoW he
        obtain ⟨cur, hr, _⟩ := owns_row hoW he
        obtain ⟨⟨es, cl, hh, _⟩, _⟩ := hW
        unfold Row at hr
        rw [hh] at hr
        cases hr
      have ho3 := ho.kept hg3 (.inr (hnm hG2.map ho))
      have hap : p.2.ownBlock = none ∨ p.2.ownBlock ≠ (Value.slice A0 (pos l (kb l i) i).length c0).ownBlock := by
        rcases hv with hv | ⟨_, hv⟩
        · exact hG2.apart p hp _ hv hne
        · rw [hv]
          cases h : p.2.ownBlock <;> simp [Value.ownBlock]
      have ho4 := ho3.kept hg4 hap
      exact ⟨hap, ho4.kept hg5 (.inr (hnm (hmap3.keep hm4) ho4))⟩
    refine ⟨⟨L', hmap5, fun p hp => ?_, fun x hx hno => ?_, fun p hp q hq hne => ?_⟩, ?_⟩
    · rcases (hput.mem p).1 hp with rfl | ⟨hp, hne⟩
      · exact ⟨kb l i, hkl, rfl, hown5⟩
      · obtain ⟨x, h1, h2, h3⟩ := hG2.own p hp
        have hnx : kb l i ≠ x := fun e => hne (by rw [h2, e])
        have := (keep p hp hne ((pos l x i).map iv) (by simpa using h3)).2
        refine ⟨x, h1, h2, ?_⟩
        rw [pos_succ, if_neg hnx, List.append_nil]
        simpa using this
    · have h1 : ∀ p ∈ L, p.1 ≠ keyV x := fun p hp he => by
        by_cases hpk : p.1 = keyV (kb l i)
        · exact hno _ ((hput.mem _).2 (.inl rfl)) (hpk.symm.trans he)
        · exact hno p ((hput.mem p).2 (.inr ⟨hp, hpk⟩)) he
      have h2 : kb l i ≠ x := fun e => hno _ ((hput.mem _).2 (.inl rfl)) (by rw [e])
      rw [pos_succ, if_neg h2, List.append_nil]
      exact hG.all x hx h1
    · -- two keys' rows
      have new_other : ∀ p ∈ L, p.1 ≠ keyV (kb l i) → p.2.ownBlock = none ∨ p.2.ownBlock ≠ (Value.slice A1 ((pos l (kb l i) i).length + 1) c1).ownBlock := by
        intro p hp hne
        obtain ⟨x, h1, h2, h3⟩ := hG2.own p hp
        have h4 := (keep p hp hne ((pos l x i).map iv) (by simpa using h3)).1
        rcases hloc4 with h | h
        · rw [h]; exact h4
        · rw [h]
          cases hpb : p.2.ownBlock with
          | none => exact .inl rfl
          | some g =>
            have := (h3.lt g hpb).2
            refine .inr fun e => ?_
            cases e
            omega
      rcases (hput.mem p).1 hp with rfl | ⟨hp, hpn⟩ <;> rcases (hput.mem q).1 hq with rfl | ⟨hq, hqn⟩
      · exact absurd rfl hne
      · rcases new_other q hq hqn with h | h
        · cases h' : (Value.slice A1 ((pos l (kb l i) i).length + 1) c1).ownBlock with
          | none => exact .inl rfl
          | some g => rw [h]; exact .inr (by simp)
        · exact .inr fun e => h e.symm
      · exact new_other p hp hpn
      · exact hG2.apart p hp q hq hne
    · have e1 := (Chg.of_ext hE2 (fun k => k = m ∨ base ≤ k ∧ ∃ cur, Row w k 3 cur))
      have e2 := e1.trans (Chg.of_grown (S := fun k => k = m) hg3 fun k _ h => (Option.some.inj h).symm) fun i _ h => .inl h
      have e3 := e2.trans (Chg.of_grown (S := fun k => (Value.slice A0 (pos l (kb l i) i).length c0).ownBlock = some k) hg4 fun k _ h => h) fun k hk h => by
        rcases hv with hv | ⟨_, hv⟩
        · obtain ⟨x, h1, h2, h3⟩ := hG.own _ hv
          obtain ⟨cur, hr, hb⟩ := owns_row h3 h
          exact .inr ⟨hb, cur, hr⟩
        · rw [hv] at h; simp [Value.ownBlock] at h
      exact e3.trans (Chg.of_grown (S := fun k => k = m) hg5 fun k _ h => (Option.some.inj h).symm) fun i _ h => .inl h
  rw [hkv] at hrun1
  clear hback hput hmap5 hg5 hs5 hloc4 hg4 hown4 hm4 hnew hne_m hown3 hv hg3 hs3 hmap3 hkv hlit hkl hG2 hE2 hE1 hsz1 hplen
  replace fin := hide fin
  subst hW1
  go_wp2_with fail
  refine wp_region_text follows (by kernel_rfl) (by kernel_rfl) (fun K hK => ?_)
  go_wp2_with (at_builtin; refine wpList_app_run hrun2 (.tmp 18) (.tmp 20) rfl rfl rfl rfl rfl ?_)
  refine ⟨by kernel_rfl, ?_⟩
  go_wp2_with fail
  go_end0
  exact ⟨rfl, fin.out⟩
end Go.Proofs.Yteofooecfedplaa
