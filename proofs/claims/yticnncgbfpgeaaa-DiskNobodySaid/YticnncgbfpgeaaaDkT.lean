/- loggia/disk: Sync, Rename, Remove: what they do to the file. -/
import Derived.Test.YticnncgbfpgeaaaDkS
namespace Go.Proofs.Yticnncgbfpgeaaa
open Go.RowKit Go.Maps

section
variable {w W : World} {base d m : Nat} {P : PD} {E : List Ent} {e0 x : Ent}
theorem DE.got (h : DE w base d m P E) (he : e0 ∈ E) : Got w w base E e0.name true e0 := ⟨rfl, h.fs.ok e0 he, h.lens e0 he, fun _ => he, nofun⟩
/-- A file whose count of durable bytes has turned. -/
theorem sync_end {L : List PF} (hD : DE w base d m (P.goes P.L) E) (he : e0 ∈ E) :
    WPost (Foot d m E) base d m E (P.goes (withG fname (e0.name, e0.b, e0.b.length) P.L)) w (w.setCell ⟨e0.f, 1, none⟩ (.int .i64 e0.b.length)) := by
  obtain ⟨W, hW⟩ : ∃ W, W = w.setCell ⟨e0.f, 1, none⟩ (.int .i64 e0.b.length) := ⟨_, rfl⟩
  rw [← hW]
  have hc : Chg (fun k => k = e0.f) w W := by rw [hW]; exact Chg.of_set w (a := ⟨e0.f, 1, none⟩) _ rfl
  have hG := hD.got he
  have hok := hD.fs.ok e0 he
  obtain ⟨e1, he1⟩ : ∃ e1 : Ent, e1 = { e0 with sure := e0.b.length } := ⟨_, rfl⟩
  obtain ⟨L, hL, hmem, _⟩ := hD.fs.map
  have hm0 := hok.ne_map hL
  have hok1 : EOk W base e1 := by
    rw [he1]
    refine ⟨?_, hok.buf.chg hc fun a ha h => hok.fa hok a ha h.symm, hok.low, Nat.le_refl _⟩
    rw [hW]
    exact hok.row.put 1 _
  refine ⟨withG Ent.name e1 E, hD.put ?_ ⟨L, hL.keep (hc.block m hL.lt fun h => hm0.1 h.symm), hD.mapSame hmem he (by rw [he1]) (by rw [he1])⟩ ?_ hok1 (by rw [he1]; exact hD.fs.short e0 he) (by rw [he1]; exact hD.lens e0 he) ?_ ?_ hD.hq hD.ha, hc.mono fun k _ hk => .inr (.inr ⟨e0, he, .inl hk⟩), ?_⟩
  · exact hc.row hD.row (Row.unlike hD.row hok.row (by decide))
  · intro x hx hn
    rw [he1] at hn
    obtain ⟨h1, h2⟩ := hG.far hD hx hn
    have hokx := hD.fs.ok x hx
    refine ⟨hokx.keep (hc.block _ hokx.row.lt h1) fun a ha => hc.block _ (hokx.buf.lt a ha) fun h => hok.fa hokx a ha h.symm, by rw [he1]; exact h1, by rw [he1]; exact h2⟩
  · refine Nat.le_trans (len_with_in he (by rw [he1])) hD.cnt
  · rw [he1]
    rfl
  · intro k hk
    rcases foot_with hk with h | h | ⟨a, ha, h⟩
    · exact .inl h
    · rw [he1] at h
      exact .inl (.inr (.inr ⟨e0, he, .inl h⟩))
    · rw [he1] at ha
      exact .inl (.inr (.inr ⟨e0, he, .inr ⟨a, ha, h⟩⟩))
/-- A file dropped from the map. -/
theorem drop_end {s : List UInt8} (hD : DE w base d m (P.goes P.L) E) {L L' : List (Value × Value)} (hmem : ∀ p, p ∈ L ↔ ∃ e ∈ E, p = e.kv) (hL : MapL Try.prog 9 w m L)
    (hL' : MapL Try.prog 9 W m L') (hp : ∀ p, p ∈ L' ↔ p ∈ L ∧ p.1 ≠ str s) (hg : w.grownBy W (some m)) :
    WPost (Foot d m E) base d m E (P.goes (withoutG fname s P.L)) w W ∧ DE W base d m (P.goes (withoutG fname s P.L)) (withoutG Ent.name s E) ∧ Chg (fun k => k = m) w W := by
  have hc : Chg (fun k => k = m) w W := Chg.of_grown hg fun k _ hk => by cases hk; rfl
  have hDE : DE W base d m (P.goes (withoutG fname s P.L)) (withoutG Ent.name s E) := hD.drop s (hc.row hD.row hD.apart.1) ⟨L', hL', DE.mapDrop hmem hp⟩ (fun x hx => by
    have hokx := hD.fs.ok x hx
    have hmx := hokx.ne_map hL
    exact hokx.keep (hc.block _ hokx.row.lt hmx.1) fun a ha => hc.block _ (hokx.buf.lt a ha) (hmx.2 a ha)) rfl hD.hq hD.ha
  exact ⟨⟨_, hDE, hc.mono fun k _ hk => .inr (.inl hk), fun k hk => .inl (foot_without hk)⟩, hDE, hc⟩
/-- A file dropped, and put under another name. -/
theorem rename_end {w1 w2 : World} {s t : List UInt8} (hD : DE w base d m (P.goes P.L) E) (he : e0 ∈ E) (hn : e0.name = s) (ht : t.length ≤ 9223372036854775807) {L L1 L2 : List (Value × Value)} (hmem : ∀ p, p ∈ L ↔ ∃ e ∈ E, p = e.kv) (hL : MapL Try.prog 9 w m L)
    (hL1 : MapL Try.prog 9 w1 m L1) (hp : ∀ p, p ∈ L1 ↔ p ∈ L ∧ p.1 ≠ str s) (hg1 : w.grownBy w1 (some m)) (hL2 : MapL Try.prog 9 w2 m L2) (hput : Put L1 (str t) (.pointer (some ⟨e0.f, 0, none⟩)) L2) (hg2 : w1.grownBy w2 (some m)) :
    WPost (Foot d m E) base d m E (P.goes (withG fname (t, e0.b, e0.sure) (withoutG fname s P.L))) w w2 := by
  obtain ⟨_, hD1, hc1⟩ := drop_end hD hmem hL hL1 hp hg1
  have hc2 : Chg (fun k => k = m) w1 w2 := Chg.of_grown hg2 fun k _ hk => by cases hk; rfl
  have hmem1 := DE.mapDrop hmem hp
  have hG := hD.got he
  have hok := hD.fs.ok e0 he
  have hm0 := hok.ne_map hL
  obtain ⟨e1, he1⟩ : ∃ e1 : Ent, e1 = { e0 with name := t } := ⟨_, rfl⟩
  have hc : Chg (fun k => k = m) w w2 := hc1.trans hc2 fun _ _ h => h
  have hok1 : EOk w2 base e1 := by
    rw [he1]
    exact ⟨hc.row hok.row hm0.1, hok.buf.chg hc fun a ha h => hm0.2 a ha h, hok.low, hok.sure⟩
  refine ⟨withG Ent.name e1 (withoutG Ent.name s E), hD1.put ?_ ⟨L2, hL2, hD1.mapPut hmem1 ?_⟩ ?_ hok1 (by rw [he1]; exact ht) (by rw [he1]; exact hD.lens e0 he) ?_ ?_ hD.hq hD.ha, hc.mono fun k _ hk => .inr (.inl hk), ?_⟩
  · exact hc.row hD.row hD.apart.1
  · rw [he1]
    exact hput
  · intro x hx hxn
    obtain ⟨hxE, hxs⟩ := mem_without.1 hx
    obtain ⟨h1, h2⟩ := hG.far hD hxE (by rw [hn]; exact hxs)
    have hokx := hD.fs.ok x hxE
    have hmx := hokx.ne_map hL
    refine ⟨hokx.keep (hc.block _ hokx.row.lt hmx.1) fun a ha => hc.block _ (hokx.buf.lt a ha) (hmx.2 a ha), by rw [he1]; exact h1, by rw [he1]; exact h2⟩
  · have h1 := len_with_le (nm := Ent.name) e1 (withoutG Ent.name s E)
    have h2 := len_without_lt (nm := Ent.name) he hn
    have := hD.cnt
    omega
  · rw [he1]
    rfl
  · intro k hk
    rcases foot_with hk with h | h | ⟨a, ha, h⟩
    · exact .inl (foot_without h)
    · rw [he1] at h
      exact .inl (.inr (.inr ⟨e0, he, .inl h⟩))
    · rw [he1] at ha
      exact .inl (.inr (.inr ⟨e0, he, .inr ⟨a, ha, h⟩⟩))
end
end Go.Proofs.Yticnncgbfpgeaaa
