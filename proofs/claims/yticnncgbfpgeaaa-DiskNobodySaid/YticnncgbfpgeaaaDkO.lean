/- A file put, a file dropped. -/
import Derived.Test.YticnncgbfpgeaaaDkN
namespace Go.Proofs.Yticnncgbfpgeaaa
open Go.RowKit Go.Maps

section
variable {w w1 : World} {base d m : Nat} {P P' : PD} {E : List Ent} {e1 : Ent}
theorem perm_ins {α : Type} (nm : α → List UInt8) (f : α) : ∀ l : List α, (insG nm f l).Perm (f :: l)
  | [] => List.Perm.refl _
  | y :: ys => by
    unfold insG
    split
    · exact List.Perm.refl _
    · exact ((perm_ins nm f ys).cons y).trans (List.Perm.swap f y ys)
theorem pw_with {α : Type} {nm : α → List UInt8} {R : α → α → Prop} (hs : ∀ {x y}, R x y → R y x) {f : α} {l : List α} (h : l.Pairwise R) (h1 : ∀ x ∈ l, nm x ≠ nm f → R f x) : (withG nm f l).Pairwise R := by
  unfold withG
  refine ((perm_ins nm f _).pairwise_iff hs).2 ?_
  rw [List.pairwise_cons]
  exact ⟨fun x hx => h1 x (mem_without.1 hx).1 (mem_without.1 hx).2, h.filter _⟩
/-- A map has just the files' entries: so it has as many. -/
theorem kv_len {L : List (Value × Value)} (hL : MapL Try.prog 9 w m L) (hu : Up Ent.name E) (hmem : ∀ p, p ∈ L ↔ ∃ e ∈ E, p = e.kv) : L.length = E.length := by
  have h1 : L.Nodup := nodup_of_map Prod.fst hL.nodup
  have h2 : (E.map Ent.kv).Nodup := by
    refine nodup_of_map Prod.fst ?_
    rw [List.map_map]
    have : (E.map Ent.name).Nodup := hu.nodup
    rw [List.Nodup, List.pairwise_map] at this ⊢
    exact this.imp fun h e => h (str_inj e)
  have h3 : L.Perm (E.map Ent.kv) := (List.perm_ext_iff_of_nodup h1 h2).2 fun p => by
    rw [hmem, List.mem_map]
    exact ⟨fun ⟨e, he, hp⟩ => ⟨e, he, hp.symm⟩, fun ⟨e, he, hp⟩ => ⟨e, he, hp.symm⟩⟩
  rw [h3.length_eq, List.length_map]
theorem DE.put (h : DE w base d m P E) (hrow : DRow w1 d m P'.quota P'.armed P'.stopped) (hm : ∃ L, MapL Try.prog 9 w1 m L ∧ ∀ p, p ∈ L ↔ ∃ e ∈ withG Ent.name e1 E, p = e.kv)
    (ho : ∀ x ∈ E, x.name ≠ e1.name → EOk w1 base x ∧ x.f ≠ e1.f ∧ ∀ a b, x.A = some a → e1.A = some b → a.block ≠ b.block) (hok : EOk w1 base e1) (hs : e1.name.length ≤ 9223372036854775807) (hl : e1.b.length ≤ 67108864)
    (hcnt : (withG Ent.name e1 E).length ≤ 1024) (hL : P'.L = withG fname e1.pl P.L) (hq : P'.quota ≤ 9223372036854775807) (ha : P'.armed ≤ 9223372036854775807) : DE w1 base d m P' (withG Ent.name e1 E) := by
  obtain ⟨L, hL1, hmem⟩ := hm
  refine ⟨hrow, ⟨⟨L, hL1, hmem, kv_len hL1 h.up.with hmem⟩, ?_, h.fs.low, h.up.with.nodup, ?_, ?_, ?_⟩, h.low, h.up.with, hcnt, ?_, ?_, hq, ha⟩
  · intro e he
    rcases mem_with.1 he with rfl | ⟨h1, h2⟩
    · exact hok
    · exact (ho e h1 h2).1
  · intro e he
    rcases mem_with.1 he with rfl | ⟨h1, h2⟩
    · exact hs
    · exact h.fs.short e h1
  · refine pw_with (fun h => h.symm) h.fs.fd fun x hx hn => ((ho x hx hn).2.1).symm
  · refine pw_with (fun h a b ha hb => (h b a hb ha).symm) h.fs.ad fun x hx hn a b ha hb => ((ho x hx hn).2.2 b a hb ha).symm
  · intro e he
    rcases mem_with.1 he with rfl | ⟨h1, h2⟩
    · exact hl
    · exact h.lens e h1
  · rw [hL, ← h.pl]
    exact map_with (nm := Ent.name) (nm' := fname) (g := Ent.pl) (fun _ => rfl) e1 E
theorem foot_with {k : Nat} (h : Foot d m (withG Ent.name e1 E) k) : Foot d m E k ∨ k = e1.f ∨ ∃ a, e1.A = some a ∧ a.block = k := by
  rcases h with h | h | ⟨e, he, h⟩
  · exact .inl (.inl h)
  · exact .inl (.inr (.inl h))
  · rcases mem_with.1 he with rfl | ⟨h1, h2⟩
    · exact .inr h
    · exact .inl (.inr (.inr ⟨e, h1, h⟩))
theorem DE.drop (h : DE w base d m P E) (s : List UInt8) (hrow : DRow w1 d m P'.quota P'.armed P'.stopped) (hm : ∃ L, MapL Try.prog 9 w1 m L ∧ ∀ p, p ∈ L ↔ ∃ e ∈ withoutG Ent.name s E, p = e.kv)
    (ho : ∀ x ∈ E, EOk w1 base x) (hL : P'.L = withoutG fname s P.L) (hq : P'.quota ≤ 9223372036854775807) (ha : P'.armed ≤ 9223372036854775807) : DE w1 base d m P' (withoutG Ent.name s E) := by
  obtain ⟨L, hL1, hmem⟩ := hm
  have hsub : ∀ x ∈ withoutG Ent.name s E, x ∈ E := fun x hx => (mem_without.1 hx).1
  refine ⟨hrow, ⟨⟨L, hL1, hmem, kv_len hL1 (h.up.without s) hmem⟩, fun e he => ho e (hsub e he), h.fs.low, (h.up.without s).nodup, fun e he => h.fs.short e (hsub e he), h.fs.fd.filter _, h.fs.ad.filter _⟩, h.low, h.up.without s, Nat.le_trans (len_without_le _ _) h.cnt, fun e he => h.lens e (hsub e he), ?_, hq, ha⟩
  rw [hL, ← h.pl]
  exact map_without (nm := Ent.name) (nm' := fname) (g := Ent.pl) (fun _ => rfl) s E
theorem foot_without {s : List UInt8} {k : Nat} (h : Foot d m (withoutG Ent.name s E) k) : Foot d m E k := by
  rcases h with h | h | ⟨e, he, h⟩
  · exact .inl h
  · exact .inr (.inl h)
  · exact .inr (.inr ⟨e, (mem_without.1 he).1, h⟩)
/-- What a map's block holds when a file is put. -/
theorem DE.mapPut (h : DE w base d m P E) {L L' : List (Value × Value)} (hmem : ∀ p, p ∈ L ↔ ∃ e ∈ E, p = e.kv) (hp : Put L (str e1.name) (.pointer (some ⟨e1.f, 0, none⟩)) L') : ∀ p, p ∈ L' ↔ ∃ e ∈ withG Ent.name e1 E, p = e.kv := by
  intro p
  rw [hp.mem]
  constructor
  · rintro (rfl | ⟨h1, h2⟩)
    · exact ⟨e1, mem_with.2 (.inl rfl), rfl⟩
    · obtain ⟨e, he, rfl⟩ := (hmem p).1 h1
      exact ⟨e, mem_with.2 (.inr ⟨he, fun hn => h2 (by show str e.name = str e1.name; rw [hn])⟩), rfl⟩
  · rintro ⟨e, he, rfl⟩
    rcases mem_with.1 he with rfl | ⟨h1, h2⟩
    · exact .inl rfl
    · exact .inr ⟨(hmem _).2 ⟨e, h1, rfl⟩, fun hn => h2 (str_inj hn)⟩
/-- The same map, when a file's bytes turn. -/
theorem DE.mapSame (h : DE w base d m P E) {L : List (Value × Value)} (hmem : ∀ p, p ∈ L ↔ ∃ e ∈ E, p = e.kv) {e0 : Ent} (h0 : e0 ∈ E) (hn : e1.name = e0.name) (hf : e1.f = e0.f) : ∀ p, p ∈ L ↔ ∃ e ∈ withG Ent.name e1 E, p = e.kv := by
  have hk : e1.kv = e0.kv := by unfold Ent.kv; rw [hn, hf]
  intro p
  rw [hmem]
  constructor
  · rintro ⟨e, he, rfl⟩
    by_cases hne : e.name = e1.name
    · have : e = e0 := h.up.uniq he h0 (hne.trans hn)
      subst this
      exact ⟨e1, mem_with.2 (.inl rfl), hk.symm⟩
    · exact ⟨e, mem_with.2 (.inr ⟨he, hne⟩), rfl⟩
  · rintro ⟨e, he, rfl⟩
    rcases mem_with.1 he with rfl | ⟨h1, h2⟩
    · exact ⟨e0, h0, hk⟩
    · exact ⟨e, h1, rfl⟩
theorem DE.mapDrop {L L' : List (Value × Value)} (hmem : ∀ p, p ∈ L ↔ ∃ e ∈ E, p = e.kv) {s : List UInt8} (hp : ∀ p, p ∈ L' ↔ p ∈ L ∧ p.1 ≠ str s) : ∀ p, p ∈ L' ↔ ∃ e ∈ withoutG Ent.name s E, p = e.kv := by
  intro p
  rw [hp]
  constructor
  · rintro ⟨h1, h2⟩
    obtain ⟨e, he, rfl⟩ := (hmem p).1 h1
    exact ⟨e, mem_without.2 ⟨he, fun hn => h2 (by show str e.name = str s; rw [hn])⟩, rfl⟩
  · rintro ⟨e, he, rfl⟩
    exact ⟨(hmem _).2 ⟨e, (mem_without.1 he).1, rfl⟩, fun hn => (mem_without.1 he).2 (str_inj hn)⟩
end
end Go.Proofs.Yticnncgbfpgeaaa
