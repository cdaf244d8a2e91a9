/- loggia/disk: Used. -/
import Derived.Test.YticnncgbfpgeaaaDkE
namespace Go.Proofs.Yticnncgbfpgeaaa
open Go.RowKit Go.Maps

theorem str_inj {a b : List UInt8} (h : str a = str b) : a = b := by
  unfold str at h
  injection h with h
  injection h with h
  simpa using h
theorem nodup_of_map {α β : Type} (f : α → β) : ∀ {l : List α}, (l.map f).Nodup → l.Nodup
  | [], _ => List.nodup_nil
  | a :: l, h => by
    rw [List.map_cons, List.nodup_cons] at h
    rw [List.nodup_cons]
    exact ⟨fun ha => h.1 (List.mem_map.2 ⟨a, ha, rfl⟩), nodup_of_map f h.2⟩
theorem inj_of_map {α β : Type} (f : α → β) : ∀ {l : List α}, (l.map f).Nodup → ∀ {a b : α}, a ∈ l → b ∈ l → f a = f b → a = b
  | [], _, _, _, h, _, _ => by cases h
  | x :: l, h, a, b, ha, hb, he => by
    rw [List.map_cons, List.nodup_cons] at h
    rcases List.mem_cons.1 ha with h1 | h1 <;> rcases List.mem_cons.1 hb with h2 | h2
    · rw [h1, h2]
    · exact (h.1 (List.mem_map.2 ⟨b, h2, by rw [← he, h1]⟩)).elim
    · exact (h.1 (List.mem_map.2 ⟨a, h1, by rw [he, h2]⟩)).elim
    · exact inj_of_map f h.2 h1 h2 he
def usedM (E : List Ent) : Nat := (E.map fun e => e.b.length).sum
/-- The entries that a range has brought, when it has brought all. -/
theorem all_came {E D : List Ent} (hE : (E.map Ent.name).Nodup) (hD : (D.map fun e => str e.name).Nodup) (hs : ∀ e ∈ D, e ∈ E) (ha : ∀ e ∈ E, str e.name ∈ D.map fun e => str e.name) : D.Perm E := by
  have hEn : E.Nodup := nodup_of_map _ hE
  have hDn : D.Nodup := nodup_of_map _ hD
  refine (List.perm_ext_iff_of_nodup hDn hEn).2 fun e => ⟨hs e, fun he => ?_⟩
  obtain ⟨e', he', hk⟩ := List.mem_map.1 (ha e he)
  have hn : e'.name = e.name := str_inj hk
  have : e' = e := by
    have h1 := hs e' he'
    exact inj_of_map Ent.name hE h1 he hn
  rw [← this]
  exact he'
theorem used_le : ∀ (D E : List Ent), D.Nodup → (∀ e ∈ D, e ∈ E) → usedM D ≤ usedM E
  | [], E, _, _ => Nat.zero_le _
  | a :: D, E, hn, hs => by
    rw [List.nodup_cons] at hn
    obtain ⟨E1, E2, rfl⟩ := List.append_of_mem (hs a (by simp))
    have := used_le D (E1 ++ E2) hn.2 fun e he => by
      have h1 := hs e (List.mem_cons_of_mem _ he)
      rcases List.mem_append.1 h1 with h2 | h2
      · exact List.mem_append_left _ h2
      · rcases List.mem_cons.1 h2 with h3 | h3
        · exact absurd (h3 ▸ he) hn.1
        · exact List.mem_append_right _ h3
    unfold usedM at *
    simp only [List.map_append, List.map_cons, List.sum_append, List.sum_cons] at *
    omega
end Go.Proofs.Yticnncgbfpgeaaa
