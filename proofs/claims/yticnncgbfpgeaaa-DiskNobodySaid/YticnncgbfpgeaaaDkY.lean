/- loggia/disk: Fork, what it needs. -/
import Derived.Test.YticnncgbfpgeaaaDkX
namespace Go.Proofs.Yticnncgbfpgeaaa
open Go.RowKit Go.Maps

/-- Where Fork has come to: the files D of E are there anew as D2. -/
structure Fk (w wr : World) (m : Nat) (L : List (Value × Value)) (E D D2 : List Ent) (dv : Array Value) : Prop where
  rng : RangeL Try.prog 9 wr m (w.heap.size + 2) L (D.map fun e => str e.name)
  sub : ∀ e ∈ D, e ∈ E
  row : Row wr (w.heap.size + 1) 63 dv
  map : ∃ L2, MapL Try.prog 9 wr w.heap.size L2 ∧ ∀ p, p ∈ L2 ↔ ∃ e ∈ D2, p = e.kv
  pl : D2.map Ent.pl = D.map Ent.pl
  ok : ∀ e ∈ D2, EOk wr (w.heap.size + 3) e
  fd : D2.Pairwise (fun a b => a.f ≠ b.f)
  ad : D2.Pairwise (fun a b => ∀ x y, a.A = some x → b.A = some y → x.block ≠ y.block)
  ext : Ext w wr
theorem fk_step {w wr w2 w5 w6 : World} {base d m : Nat} {P : PD} {L L2 L' : List (Value × Value)} {E D D2 : List Ent} {dv : Array Value} {e0 : Ent} {A1 : Option Addr} {c1 : Nat} (hD : DE w base d m P E) (h : Fk w wr m L E D D2 dv) (he : e0 ∈ E) (hne : str e0.name ∉ D.map fun e => str e.name)
    (hR2 : RangeL Try.prog 9 w2 m (w.heap.size + 2) L ((D.map fun e => str e.name) ++ [str e0.name])) (hg2 : wr.grownBy w2 (some (w.heap.size + 2))) (hb5 : Buf w5 w2.heap.size 5 A1 e0.b.length c1 (e0.b.map B8)) (hE5 : Ext w2 w5)
    (hL2 : MapL Try.prog 9 wr w.heap.size L2) (hmem : ∀ p, p ∈ L2 ↔ ∃ e ∈ D2, p = e.kv) (hL' : MapL Try.prog 9 w6 w.heap.size L') (hput : Put L2 (str e0.name) (.pointer (some ⟨w5.heap.size, 0, none⟩)) L')
    (hg6 : (w5.alloc (.cells #[.slice A1 e0.b.length c1, .int .i64 e0.sure] 75)).grownBy w6 (some w.heap.size)) :
    Fk w w6 m L E (D ++ [e0]) (D2 ++ [⟨e0.name, w5.heap.size, e0.b, e0.sure, A1, c1⟩]) dv ∧ w6.rangeLeft m (w.heap.size + 2) = w2.rangeLeft m (w.heap.size + 2) := by
  obtain ⟨W, hW⟩ : ∃ W, W = w5.alloc (.cells #[.slice A1 e0.b.length c1, .int .i64 e0.sure] 75) := ⟨_, rfl⟩
  rw [← hW] at hg6
  have hEW : Ext w5 W := by rw [hW]; exact (Ext.refl w5).alloc _
  have hml := hD.lt (k := m) (.inr (.inl rfl))
  have hrl := hR2.lt
  have hsz5 := hE5.size
  have hc2 : Chg (fun k => k = w.heap.size + 2) wr w2 := Chg.of_grown hg2 fun k _ hk => by cases hk; rfl
  have hc6 : Chg (fun k => k = w.heap.size) W w6 := Chg.of_grown hg6 fun k _ hk => by cases hk; rfl
  have hEx : Ext w2 W := hE5.trans hEW
  have hr0 := (hR2.keep (Below.block hEx m hR2.map.lt) (Below.block hEx _ hrl)).keep (hc6.block m (Nat.lt_of_lt_of_le hR2.map.lt hEx.size) (by omega)) (hc6.block _ (Nat.lt_of_lt_of_le hrl hEx.size) (by omega))
  have hca : Chg (fun k => k = w.heap.size + 2 ∨ k = w.heap.size) wr w6 := ((hc2.mono (S' := fun k => k = w.heap.size + 2 ∨ k = w.heap.size) fun _ _ h => .inl h).trans (Chg.of_ext hEx (fun _ => False)) fun _ _ h => h.elim).trans hc6 fun _ _ h => .inr h
  have hnew : Row W w5.heap.size 75 #[.slice A1 e0.b.length c1, .int .i64 e0.sure] := by rw [hW]; exact Row.new _ _ _
  have hok0 : EOk w6 (w.heap.size + 3) ⟨e0.name, w5.heap.size, e0.b, e0.sure, A1, c1⟩ := by
    have hne5 : ¬ w5.heap.size = w.heap.size := by omega
    refine ⟨hc6.row hnew hne5, ?_, ?_, (hD.fs.ok e0 he).sure⟩
    · have hb := (hb5.ext hEW).chg hc6 fun a ha hh => by
        have := hb5.base_le a ha
        omega
      exact hb.lower (by omega)
    · show w.heap.size + 3 ≤ w5.heap.size
      omega
  refine ⟨⟨by rw [List.map_append]; exact hr0, ?_, hca.row h.row (by omega), ⟨L', hL', ?_⟩, ?_, ?_, ?_, ?_, ?_⟩, ?_⟩
  · intro e he'
    rcases List.mem_append.1 he' with h1 | h1
    · exact h.sub e h1
    · simp at h1; subst h1; exact he
  · intro p
    rw [hput.mem]
    constructor
    · rintro (rfl | ⟨h1, h2⟩)
      · exact ⟨_, List.mem_append_right _ (List.mem_singleton.2 rfl), rfl⟩
      · obtain ⟨e, he', rfl⟩ := (hmem p).1 h1
        exact ⟨e, List.mem_append_left _ he', rfl⟩
    · rintro ⟨e, he', rfl⟩
      rcases List.mem_append.1 he' with h1 | h1
      · refine .inr ⟨(hmem _).2 ⟨e, h1, rfl⟩, fun hn => hne ?_⟩
        have h2 : e.pl ∈ D.map Ent.pl := by rw [← h.pl]; exact List.mem_map.2 ⟨e, h1, rfl⟩
        obtain ⟨e', he2, hp⟩ := List.mem_map.1 h2
        have hnm : e'.name = e.name := congrArg Prod.fst hp
        refine List.mem_map.2 ⟨e', he2, ?_⟩
        show str e'.name = str e0.name
        rw [hnm]
        exact hn
      · rw [List.mem_singleton] at h1
        subst h1
        exact .inl rfl
  · rw [List.map_append, List.map_append, h.pl]
    rfl
  · intro e he'
    rcases List.mem_append.1 he' with h1 | h1
    · have hok := h.ok e h1
      have hlow := hok.low
      refine hok.keep (hca.block _ hok.row.lt (by omega)) fun a ha => hca.block _ (hok.buf.lt a ha) ?_
      have := hok.buf.base_le a ha
      omega
    · rw [List.mem_singleton] at h1
      subst h1
      exact hok0
  · rw [List.pairwise_append]
    refine ⟨h.fd, List.pairwise_singleton _ _, fun a ha b hb => ?_⟩
    rw [List.mem_singleton] at hb
    subst hb
    have := (h.ok a ha).row.lt
    have := hg2.size
    show a.f ≠ w5.heap.size
    omega
  · rw [List.pairwise_append]
    refine ⟨h.ad, List.pairwise_singleton _ _, fun a ha b hb x y hx hy => ?_⟩
    rw [List.mem_singleton] at hb
    subst hb
    have h1 := (h.ok a ha).buf.lt x hx
    have h2 := hb5.base_le y hy
    have := hg2.size
    omega
  · exact h.ext.chg hca fun i hi hh => by omega
  · unfold World.rangeLeft
    rw [(hc6.block m (Nat.lt_of_lt_of_le hR2.map.lt hEx.size) (by omega)).trans (Below.block hEx m hR2.map.lt), (hc6.block _ (Nat.lt_of_lt_of_le hrl hEx.size) (by omega)).trans (Below.block hEx _ hrl)]
/-- Files in the order of their names. -/
def sortE (l : List Ent) : List Ent := l.foldr (insG Ent.name) []
theorem sortE_mem {l : List Ent} {x : Ent} : x ∈ sortE l ↔ x ∈ l := by
  induction l with
  | nil => rfl
  | cons a l ih =>
    show x ∈ insG Ent.name a (sortE l) ↔ _
    rw [mem_ins, ih, List.mem_cons]
theorem sortE_perm : ∀ l : List Ent, (sortE l).Perm l
  | [] => List.Perm.refl _
  | a :: l => (perm_ins Ent.name a (sortE l)).trans ((sortE_perm l).cons a)
theorem sortE_up : ∀ {l : List Ent}, (l.map Ent.name).Nodup → Up Ent.name (sortE l)
  | [], _ => List.Pairwise.nil
  | a :: l, h => by
    rw [List.map_cons, List.nodup_cons] at h
    exact (sortE_up h.2).ins fun x hx hn => h.1 (hn ▸ List.mem_map.2 ⟨x, sortE_mem.1 hx, rfl⟩)
theorem fk_end {w wr : World} {base d m : Nat} {P : PD} {L : List (Value × Value)} {E D D2 : List Ent} (hD : DE w base d m P E) (hbase : base ≤ w.heap.size) (h : Fk w wr m L E D D2 #[.map (some w.heap.size), .int .i64 P.quota, .int .i64 P.armed, .bool P.stopped]) (hp : D.Perm E) :
    DS wr base (w.heap.size + 1) P (Foot (w.heap.size + 1) w.heap.size (sortE D2)) ∧ ∀ k, Foot (w.heap.size + 1) w.heap.size (sortE D2) k → w.heap.size ≤ k := by
  have hpp : (D2.map Ent.pl).Perm (E.map Ent.pl) := by rw [h.pl]; exact hp.map _
  have hnm : (D2.map Ent.name).Perm (E.map Ent.name) := by
    have := hpp.map fname
    rw [List.map_map, List.map_map] at this
    exact this
  have hnd : (D2.map Ent.name).Nodup := hnm.nodup_iff.2 hD.up.nodup
  have hup := sortE_up hnd
  obtain ⟨L2, hL2, hmem⟩ := h.map
  have hmem2 : ∀ p, p ∈ L2 ↔ ∃ e ∈ sortE D2, p = e.kv := fun p => by
    rw [hmem]
    exact ⟨fun ⟨e, he, hp⟩ => ⟨e, sortE_mem.2 he, hp⟩, fun ⟨e, he, hp⟩ => ⟨e, sortE_mem.1 he, hp⟩⟩
  have hplE : ∀ {e : Ent}, e ∈ D2 → ∃ e' ∈ E, e'.pl = e.pl := fun {e} he => by
    have : e.pl ∈ E.map Ent.pl := hpp.mem_iff.1 (List.mem_map.2 ⟨e, he, rfl⟩)
    obtain ⟨e', h1, h2⟩ := List.mem_map.1 this
    exact ⟨e', h1, h2⟩
  have hsl : (sortE D2).length = E.length := by
    rw [(sortE_perm D2).length_eq, ← List.length_map (f := Ent.pl), hpp.length_eq, List.length_map]
  refine ⟨⟨w.heap.size, sortE D2, ⟨h.row, ⟨⟨L2, hL2, hmem2, kv_len hL2 hup hmem2⟩, ?_, hbase, hup.nodup, ?_, ?_, ?_⟩, by omega, hup, by rw [hsl]; exact hD.cnt, ?_, ?_, hD.hq, hD.ha⟩, fun _ => Iff.rfl⟩, ?_⟩
  · intro e he
    have hok := h.ok e (sortE_mem.1 he)
    exact ⟨hok.row, hok.buf.lower (by omega), by have := hok.low; omega, hok.sure⟩
  · intro e he
    obtain ⟨e', h1, h2⟩ := hplE (sortE_mem.1 he)
    have : e'.name = e.name := congrArg Prod.fst h2
    rw [← this]
    exact hD.fs.short e' h1
  · exact ((sortE_perm D2).pairwise_iff fun h => h.symm).2 h.fd
  · exact ((sortE_perm D2).pairwise_iff (R := fun a b : Ent => ∀ x y, a.A = some x → b.A = some y → x.block ≠ y.block) fun h a b ha hb => (h b a hb ha).symm).2 h.ad
  · intro e he
    obtain ⟨e', h1, h2⟩ := hplE (sortE_mem.1 he)
    have : e'.b = e.b := congrArg (fun x => x.2.1) h2
    rw [← this]
    exact hD.lens e' h1
  · rw [← hD.pl]
    refine Up.ext (nm := fname) ?_ ?_ fun x => ?_
    · unfold Up
      rw [List.pairwise_map]
      exact hup
    · unfold Up
      rw [List.pairwise_map]
      exact hD.up
    · exact ((((sortE_perm D2).map Ent.pl).trans hpp).mem_iff)
  · rintro k (rfl | rfl | ⟨e, he, rfl | ⟨a, ha, rfl⟩⟩)
    · omega
    · omega
    · have := (h.ok e (sortE_mem.1 he)).low
      omega
    · have := (h.ok e (sortE_mem.1 he)).buf.base_le a ha
      omega
end Go.Proofs.Yticnncgbfpgeaaa
