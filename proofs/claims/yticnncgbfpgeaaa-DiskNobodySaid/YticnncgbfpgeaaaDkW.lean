/- loggia/disk: Restart, what it needs. -/
import Derived.Test.YticnncgbfpgeaaaDkV
namespace Go.Proofs.Yticnncgbfpgeaaa
open Go.RowKit Go.Maps

/-- How many bytes are left of a file. -/
def Ent.left (e : Ent) (k : Option Int) : Nat := leftM e.pl k
def Ent.cut (e : Ent) (n : Nat) : Ent := { e with b := e.b.take n, sure := n, c := n }
def keptE (E : List Ent) (keep : List Int) : List Ent := E.mapIdx fun j e => e.cut (e.left keep[j]?)
theorem left_le (e : Ent) (h : e.sure ≤ e.b.length) (k : Option Int) : e.left k ≤ e.b.length := by
  cases k with
  | none => exact h
  | some k =>
    show e.sure + (k % ((e.b.length : Int) - e.sure + 1)).toNat ≤ e.b.length
    have h1 := Int.emod_nonneg k (show (e.b.length : Int) - e.sure + 1 ≠ 0 by omega)
    have h2 := Int.emod_lt_of_pos k (show 0 < (e.b.length : Int) - e.sure + 1 by omega)
    omega
theorem kept_get {E : List Ent} {keep : List Int} {j : Nat} {x : Ent} (h : (keptE E keep)[j]? = some x) : ∃ e : Ent, E[j]? = some e ∧ x = e.cut (e.left keep[j]?) := by
  unfold keptE at h
  rw [List.getElem?_mapIdx] at h
  cases he : E[j]? with
  | none => rw [he] at h; cases h
  | some e =>
    rw [he] at h
    exact ⟨e, rfl, (Option.some.inj h).symm⟩
theorem kept_pl (E : List Ent) (keep : List Int) : (keptE E keep).map Ent.pl = keptM (E.map Ent.pl) keep := by
  apply List.ext_getElem?
  intro j
  unfold keptE keptM
  rw [List.getElem?_map, List.getElem?_mapIdx, List.getElem?_mapIdx, List.getElem?_map]
  cases E[j]? <;> rfl
theorem kept_mem {E : List Ent} {keep : List Int} {x : Ent} (h : x ∈ keptE E keep) : ∃ (j : Nat) (e : Ent), E[j]? = some e ∧ x = e.cut (e.left keep[j]?) := by
  obtain ⟨j, hj⟩ := List.getElem?_of_mem h
  obtain ⟨e, he, hx⟩ := kept_get hj
  exact ⟨j, e, he, hx⟩
theorem kept_pw {R : Ent → Ent → Prop} {E : List Ent} {keep : List Int} (h : E.Pairwise R) (hr : ∀ a b i k, R a b → R (a.cut i) (b.cut k)) : (keptE E keep).Pairwise R := by
  rw [List.pairwise_iff_getElem] at h ⊢
  intro i j hi hj hij
  have hl : (keptE E keep).length = E.length := by unfold keptE; simp
  have hg : ∀ (i : Nat) (hi : i < (keptE E keep).length), (keptE E keep)[i] = (E[i]'(by omega)).cut ((E[i]'(by omega)).left keep[i]?) := fun i hi => List.getElem_mapIdx ..
  rw [hg i hi, hg j hj]
  exact hr _ _ _ _ (h i j (by omega) (by omega) hij)
theorem kept_len (E : List Ent) (keep : List Int) : (keptE E keep).length = E.length := by unfold keptE; simp
theorem kept_in {E : List Ent} {keep : List Int} {e : Ent} (h : e ∈ E) : ∃ n, e.cut n ∈ keptE E keep := by
  obtain ⟨j, hj⟩ := List.getElem?_of_mem h
  refine ⟨e.left keep[j]?, List.mem_of_getElem? (i := j) ?_⟩
  unfold keptE
  rw [List.getElem?_mapIdx, hj]
  rfl
/-- Where Restart has come to: the first i files are cut. -/
structure Cut (w wr : World) (base m : Nat) (E : List Ent) (keep : List Int) (i : Nat) : Prop where
  chg : Chg (fun k => ∃ e ∈ E, k = e.f) w wr
  now : ∀ j e, E[j]? = some e → Row wr e.f 75 (if j < i then #[.slice e.A (e.left keep[j]?) (e.left keep[j]?), .int .i64 (e.left keep[j]?)] else #[.slice e.A e.b.length e.c, .int .i64 e.sure])
section
variable {w wr w1 : World} {base d m : Nat} {P : PD} {E : List Ent} {keep : List Int}
theorem Cut.start (hD : DE w base d m P E) : Cut w w base m E keep 0 := ⟨Chg.refl _ _, fun j e h => by
  rw [if_neg (by omega)]
  exact (hD.fs.ok e (List.mem_of_getElem? h)).row⟩
theorem Cut.step {i : Nat} {e : Ent} (hD : DE w base d m P E) (h : Cut w wr base m E keep i) (he : E[i]? = some e) {v : Value} (hv : v = .slice e.A (e.left keep[i]?) (e.left keep[i]?)) {u : Value} (hu : u = .int .i64 (e.left keep[i]?)) :
    Cut w ((wr.setCell ⟨e.f, 0, none⟩ v).setCell ⟨e.f, 1, none⟩ u) base m E keep (i + 1) := by
  subst hv hu
  have hm := List.mem_of_getElem? he
  refine ⟨(h.chg.trans (Chg.of_set (S := fun k => k = e.f) wr (a := ⟨e.f, 0, none⟩) _ rfl) fun k _ hk => ⟨e, hm, hk⟩).trans (Chg.of_set (S := fun k => k = e.f) _ (a := ⟨e.f, 1, none⟩) _ rfl) fun k _ hk => ⟨e, hm, hk⟩, fun j x hx => ?_⟩
  have hr := h.now j x hx
  by_cases hji : j = i
  · subst hji
    obtain rfl : x = e := Option.some.inj (hx.symm.trans he)
    rw [if_neg (by omega)] at hr
    rw [if_pos (by omega)]
    exact (hr.put 0 _).put 1 _
  · have hne : x.f ≠ e.f := by
      have hjl := (List.getElem?_eq_some_iff.1 hx)
      have hil := (List.getElem?_eq_some_iff.1 he)
      obtain ⟨hj1, hj2⟩ := hjl
      obtain ⟨hi1, hi2⟩ := hil
      have hp := List.pairwise_iff_getElem.1 hD.fs.fd
      rcases Nat.lt_or_gt_of_ne hji with hlt | hlt
      · have := hp j i hj1 hi1 hlt
        rw [hj2, hi2] at this
        exact this
      · have := hp i j hi1 hj1 hlt
        rw [hj2, hi2] at this
        exact fun hh => this hh.symm
    by_cases hlt : j < i
    · rw [if_pos hlt] at hr
      rw [if_pos (by omega)]
      exact (hr.away (p := ⟨e.f, 0, none⟩) hne _).away (p := ⟨e.f, 1, none⟩) hne _
    · rw [if_neg hlt] at hr
      rw [if_neg (by omega)]
      exact (hr.away (p := ⟨e.f, 0, none⟩) hne _).away (p := ⟨e.f, 1, none⟩) hne _
theorem cut_end (hD : DE w base d m P E) (h : Cut w wr base m E keep E.length) {wf : World} (hf : wf = (wr.setCell ⟨d, 3, none⟩ (.bool false)).setCell ⟨d, 2, none⟩ (.int .i64 0)) :
    DE wf base d m (restartM P keep) (keptE E keep) ∧ Chg (Foot d m E) w wf ∧ ∀ k, Foot d m (keptE E keep) k → Foot d m E k := by
  have hap := hD.apart
  have hcd : Chg (fun k => k = d) wr wf := by
    rw [hf]
    exact (Chg.of_set (S := fun k => k = d) wr (a := ⟨d, 3, none⟩) _ rfl).trans (Chg.of_set (S := fun k => k = d) _ (a := ⟨d, 2, none⟩) _ rfl) fun _ _ h => h
  obtain ⟨L, hL, hmem, _⟩ := hD.fs.map
  have hrow : DRow wf d m P.quota 0 false := by
    have h1 : Row wr d 63 _ := h.chg.row hD.row fun ⟨e, he, hh⟩ => (hap.2 e he).1 hh
    rw [hf]
    exact (h1.put 3 _).put 2 _
  have hup : Up Ent.name (keptE E keep) := kept_pw hD.up fun _ _ _ _ h => h
  refine ⟨⟨hrow, ⟨⟨L, hL.keep ((hcd.block m (Nat.lt_of_lt_of_le hL.lt h.chg.size) fun hh => hap.1 hh.symm).trans (h.chg.block m hL.lt fun ⟨e, he, hh⟩ => ((hD.fs.ok e he).ne_map hL).1 hh.symm)), ?_, ?_⟩, ?_, hD.fs.low, hup.nodup, ?_, kept_pw hD.fs.fd fun _ _ _ _ h => h, kept_pw hD.fs.ad fun _ _ _ _ h => h⟩, hD.low, hup, by rw [kept_len]; exact hD.cnt, ?_, ?_, hD.hq, by show 0 ≤ _; omega⟩, ?_, ?_⟩
  · intro p
    rw [hmem]
    constructor
    · rintro ⟨e, he, rfl⟩
      obtain ⟨n, hn⟩ := kept_in (keep := keep) he
      exact ⟨_, hn, rfl⟩
    · rintro ⟨x, hx, rfl⟩
      obtain ⟨j, e, he, rfl⟩ := kept_mem hx
      exact ⟨e, List.mem_of_getElem? he, rfl⟩
  · rw [kept_len]
    exact kv_len hL hD.up hmem
  · intro x hx
    obtain ⟨j, e, he, rfl⟩ := kept_mem hx
    have hm := List.mem_of_getElem? he
    have hok := hD.fs.ok e hm
    have hj : j < E.length := (List.getElem?_eq_some_iff.1 he).1
    have hr := h.now j e he
    rw [if_pos hj] at hr
    have hle := left_le e hok.sure keep[j]?
    have hlen : (e.b.take (e.left keep[j]?)).length = e.left keep[j]? := by rw [List.length_take]; omega
    refine ⟨?_, ?_, hok.low, ?_⟩
    · show Row wf e.f _ #[.slice e.A (e.b.take (e.left keep[j]?)).length (e.left keep[j]?), .int .i64 (e.left keep[j]?)]
      rw [hlen]
      exact hcd.row hr fun hh => (hap.2 e hm).1 hh.symm
    · show Buf wf base 5 e.A (e.b.take (e.left keep[j]?)).length (e.left keep[j]?) ((e.b.take (e.left keep[j]?)).map B8)
      rw [hlen, List.map_take]
      have hb := hok.buf.cut (m := e.left keep[j]?) (k := e.left keep[j]?) hle (Nat.le_refl _) (Nat.le_trans hle hok.buf.2.1)
      refine (hb.chg h.chg ?_).chg hcd ?_
      · rintro a ha ⟨e', he', hh⟩
        exact (hD.fs.ok e' he').fa hok a ha hh.symm
      · intro a ha hh
        exact (hap.2 e hm).2 a ha hh.symm
    · show e.left keep[j]? ≤ (e.b.take (e.left keep[j]?)).length
      rw [hlen]
      exact Nat.le_refl _
  · intro x hx
    obtain ⟨j, e, he, rfl⟩ := kept_mem hx
    exact hD.fs.short e (List.mem_of_getElem? he)
  · intro x hx
    obtain ⟨j, e, he, rfl⟩ := kept_mem hx
    show (e.b.take (e.left keep[j]?)).length ≤ 67108864
    rw [List.length_take]
    have := hD.lens e (List.mem_of_getElem? he)
    omega
  · rw [kept_pl, hD.pl]
    rfl
  · refine (h.chg.mono (S' := Foot d m E) fun k _ ⟨e, he, hk⟩ => .inr (.inr ⟨e, he, .inl hk⟩)).trans hcd fun k _ hk => .inl hk
  · rintro k (h | h | ⟨x, hx, h⟩)
    · exact .inl h
    · exact .inr (.inl h)
    · obtain ⟨j, e, he, rfl⟩ := kept_mem hx
      exact .inr (.inr ⟨e, List.mem_of_getElem? he, h⟩)
end
set_option maxRecDepth 100000 in
/-- x[:n:n] -/
theorem run_cut {t e n c k : Nat} {A : Option Addr} (ht : Try.prog.underlying t = some (.slice e)) (hs : ∀ W : World, (sizeOf e).run Try.prog W = .ok 1 W) (h : k ≤ c) (hA : ∀ a, A = some a → a.spot = none) (W : World) :
    (Instr.sliceAt t (.slice A n c) none (some (.int .i64 k)) (some (.int .i64 k))).run Try.prog W = .ok (.slice A k k) W := by
  have he : Try.prog.elem t = e := by unfold Program.elem; rw [ht]
  rw [run_sliceAt_slice W t _ _ _ _ (by rw [ht, he]), run_slice_hm W t A n c (by rw [ht, he]) .i64 .i64 k k (by omega) (by omega) (by omega), he, hs]
  simp only [Result.andThen_ok]
  congr 1
  unfold sliced
  have : (if ((k : Int).toNat) = 0 then A else A.map fun x => x.add (0 * 1)) = A := by
    cases A with
    | none => simp
    | some a =>
      obtain ⟨b, o, sp⟩ := a
      obtain rfl : sp = none := hA _ rfl
      simp [Addr.add_lit]
  rw [this]
  simp
end Go.Proofs.Yticnncgbfpgeaaa
