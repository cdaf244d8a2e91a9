/- loggia/disk: Append, what it needs. -/
import Derived.Test.YticnncgbfpgeaaaDkO
import Derived.Deep.CutRange
import Derived.Deep.DeepCutAuto
namespace Go.Proofs.Yticnncgbfpgeaaa
open Go.RowKit Go.Maps

theorem pw_mem {α : Type} {R : α → α → Prop} (hs : ∀ {x y}, R x y → R y x) : ∀ {l : List α}, l.Pairwise R → ∀ {x y : α}, x ∈ l → y ∈ l → x ≠ y → R x y
  | [], _, _, _, h, _, _ => by cases h
  | a :: l, h, x, y, hx, hy, hne => by
    rw [List.pairwise_cons] at h
    rcases List.mem_cons.1 hx with h1 | h1 <;> rcases List.mem_cons.1 hy with h2 | h2
    · exact (hne (h1.trans h2.symm)).elim
    · subst h1; exact h.1 y h2
    · subst h2; exact hs (h.1 x h1)
    · exact pw_mem hs h.2 h1 h2 hne
section
variable {w W : World} {base d m : Nat} {P : PD} {E : List Ent} {e x : Ent}
theorem row_ne_map {g : Nat} {t : TypeId} {cs : Array Value} {L : List (Value × Value)} (hr : Row w g t cs) (hL : MapL Try.prog 9 w m L) : g ≠ m := by
  rintro rfl
  obtain ⟨es, cl, hm, _⟩ := hL.ex
  have h1 : w.heap[g]? = some (.cells cs t (0, 0)) := hr
  rw [h1] at hm
  cases hm
theorem EOk.ne_map {L : List (Value × Value)} (h : EOk w base e) (hL : MapL Try.prog 9 w m L) : e.f ≠ m ∧ ∀ a, e.A = some a → a.block ≠ m := by
  refine ⟨row_ne_map h.row hL, ?_⟩
  rintro a ha
  rcases h.buf.2.2 with h1 | ⟨g, cur, hg, _, hr, _⟩
  · rw [ha] at h1; cases h1.1
  · rw [ha] at hg; cases hg
    exact row_ne_map hr hL
theorem EOk.fa (h : EOk w base e) (k : EOk w base x) : ∀ a, x.A = some a → e.f ≠ a.block := fun a ha he => k.buf.unlike h.row (by decide) a ha he.symm
/-- The file that Append has found, or made. -/
structure Got (w W : World) (base : Nat) (E : List Ent) (s : List UInt8) (ok : Bool) (e0 : Ent) : Prop where
  name : e0.name = s
  has : EOk W base e0
  len : e0.b.length ≤ 67108864
  here : ok = true → e0 ∈ E
  away : ok = false → (∀ e ∈ E, e.name ≠ s) ∧ e0.b = [] ∧ e0.sure = 0 ∧ e0.A = none ∧ w.heap.size ≤ e0.f
theorem Got.far {s : List UInt8} {ok : Bool} (h : Got w W base E s ok e) (hD : DE w base d m P E) (hx : x ∈ E) (hn : x.name ≠ s) : x.f ≠ e.f ∧ ∀ a b, x.A = some a → e.A = some b → a.block ≠ b.block := by
  cases ok with
  | true =>
    have he := h.here rfl
    have hne : x ≠ e := fun hh => hn (by rw [hh]; exact h.name)
    exact ⟨pw_mem (fun h => h.symm) hD.fs.fd hx he hne, pw_mem (R := fun a b : Ent => ∀ x y, a.A = some x → b.A = some y → x.block ≠ y.block) (fun h a b ha hb => (h b a hb ha).symm) hD.fs.ad hx he hne⟩
  | false =>
    obtain ⟨_, _, _, hA, hf⟩ := h.away rfl
    refine ⟨fun hh => ?_, fun a b _ hb => by rw [hA] at hb; cases hb⟩
    have := (hD.fs.ok x hx).row.lt
    omega
/-- Where the file lies. -/
theorem Got.at_ {s : List UInt8} {ok : Bool} (h : Got w W base E s ok e) : (Foot d m E e.f ∨ w.heap.size ≤ e.f) ∧ ∀ a, e.A = some a → Foot d m E a.block := by
  cases ok with
  | true =>
    have he := h.here rfl
    exact ⟨.inl (.inr (.inr ⟨e, he, .inl rfl⟩)), fun a ha => .inr (.inr ⟨e, he, .inr ⟨a, ha, rfl⟩⟩)⟩
  | false =>
    obtain ⟨_, _, _, hA, hf⟩ := h.away rfl
    exact ⟨.inr hf, fun a ha => by rw [hA] at ha; cases ha⟩
end
/-- The end of Append, plainly: W1 is behind the counting, W2 behind the append, W3 behind the store, W4 behind the map's turn. -/
theorem append_end {w wx W1 W2 W4 : World} {base d m : Nat} {P : PD} {E : List Ent} {s b : List UInt8} {ok : Bool} {e0 : Ent} {A1 : Option Addr} {c1 : Nat}
    (hD : DE w base d m P E) (hs : s.length ≤ 9223372036854775807) (hwx : Ext w wx) (hG : Got w wx base E s ok e0) (hcnt : ok = false → E.length < 1024)
    (hl : e0.b.length + b.length ≤ 67108864) (hrow1 : DRow W1 d m P.quota (P.armed - 1) false) (hc1 : Chg (fun k => k = d) wx W1) (hst : P.stopped = false)
    (hbuf : Buf W2 base 5 A1 (e0.b.length + b.length) c1 (e0.b.map B8 ++ b.map B8)) (hg2 : W1.grownBy W2 (Value.slice e0.A e0.b.length e0.c).ownBlock) (hA1 : A1 = e0.A ∨ A1 = some ⟨W1.heap.size, 0, none⟩)
    {L L' : List (Value × Value)} (hmem : ∀ p, p ∈ L ↔ ∃ e ∈ E, p = e.kv) (hL : MapL Try.prog 9 w m L)
    (hput : Put L (str s) (.pointer (some ⟨e0.f, 0, none⟩)) L') (hL4 : MapL Try.prog 9 W4 m L') (hg4 : (W2.setCell ⟨e0.f, 0, none⟩ (.slice A1 (e0.b.length + b.length) c1)).grownBy W4 (some m)) :
    ∃ E', DE W4 base d m (P.goes (withG fname (s, e0.b ++ b, e0.sure) P.L)) E' ∧ Chg (Foot d m E) w W4 ∧ ∀ k, Foot d m E' k → Foot d m E k ∨ w.heap.size ≤ k := by
  obtain ⟨W3, hW3⟩ : ∃ W3, W3 = W2.setCell ⟨e0.f, 0, none⟩ (.slice A1 (e0.b.length + b.length) c1) := ⟨_, rfl⟩
  rw [← hW3] at hg4
  have hDx : DE wx base d m P E := hD.chg (Chg.of_ext hwx (fun _ => False)) (fun _ h => h.elim)
  have hLx := hL.ext hwx
  have hok0 := hG.has
  have hap := hDx.apart
  have hm0 := hok0.ne_map hLx
  have hsz1 : wx.heap.size ≤ W1.heap.size := hc1.size
  have hszx : w.heap.size ≤ wx.heap.size := hwx.size
  -- which blocks may have turned
  have hd0 : d ≠ e0.f ∧ ∀ a, e0.A = some a → d ≠ a.block := ⟨Row.unlike hDx.row hok0.row (by decide), fun a ha hd => hok0.buf.unlike hDx.row (by decide) a ha hd.symm⟩
  have hown : ∀ k, (Value.slice e0.A e0.b.length e0.c).ownBlock = some k → ∃ a, e0.A = some a ∧ a.block = k := by
    intro k hk
    rcases hok0.buf.2.2 with ⟨h1, _⟩ | ⟨g, cur, hg, _⟩
    · rw [h1] at hk; cases hk
    · rw [hg] at hk ⊢
      exact ⟨_, rfl, by simpa [Value.ownBlock] using hk⟩
  have hc2 : Chg (fun k => ∃ a, e0.A = some a ∧ a.block = k) W1 W2 := Chg.of_grown hg2 fun k _ hk => hown k hk
  have hc3 : Chg (fun k => k = e0.f) W2 W3 := by rw [hW3]; exact Chg.of_set W2 (a := ⟨e0.f, 0, none⟩) _ rfl
  have hc4 : Chg (fun k => k = m) W3 W4 := Chg.of_grown hg4 fun k _ hk => by cases hk; rfl
  have hcall : Chg (fun k => k = d ∨ (∃ a, e0.A = some a ∧ a.block = k) ∨ k = e0.f ∨ k = m) wx W4 := by
    refine ((hc1.mono (S' := fun k => k = d ∨ (∃ a, e0.A = some a ∧ a.block = k) ∨ k = e0.f ∨ k = m) fun k _ h => .inl h).trans hc2 fun k _ h => .inr (.inl h)) |>.trans hc3 (fun k _ h => .inr (.inr (.inl h))) |>.trans hc4 fun k _ h => .inr (.inr (.inr h))
  obtain ⟨e1, he1⟩ : ∃ e1 : Ent, e1 = ⟨s, e0.f, e0.b ++ b, e0.sure, A1, c1⟩ := ⟨_, rfl⟩
  have hname : e1.name = s := by rw [he1]
  have hok1 : EOk W4 base e1 := by
    rw [he1]
    have hr1 : Row W1 e0.f 75 #[.slice e0.A e0.b.length e0.c, .int .i64 e0.sure] := hc1.row hok0.row fun h => hd0.1 h.symm
    have hr2 : Row W2 e0.f 75 #[.slice e0.A e0.b.length e0.c, .int .i64 e0.sure] := hc2.row hr1 fun ⟨a, ha, hk⟩ => hok0.fa hok0 a ha hk.symm
    have hr3 : Row W3 e0.f 75 #[.slice A1 (e0.b.length + b.length) c1, .int .i64 e0.sure] := by rw [hW3]; exact hr2.put 0 _
    have hb3 : Buf W3 base 5 A1 (e0.b.length + b.length) c1 (e0.b.map B8 ++ b.map B8) := by
      rw [hW3]
      exact hbuf.setCell (fun a ha => hbuf.unlike hr2 (by decide) a ha) _
    refine ⟨?_, ?_, hok0.low, ?_⟩
    · show Row W4 e0.f _ #[.slice A1 (e0.b ++ b).length c1, .int .i64 e0.sure]
      rw [List.length_append]
      exact hc4.row hr3 hm0.1
    · show Buf W4 base 5 A1 (e0.b ++ b).length c1 ((e0.b ++ b).map B8)
      rw [List.length_append, List.map_append]
      refine hb3.chg hc4 ?_
      intro a ha hk
      rcases hA1 with h | h
      · exact hm0.2 a (by rw [← h]; exact ha) hk
      · rw [h] at ha; cases ha
        have := hLx.lt
        have hk : W1.heap.size = m := hk
        omega
    · show e0.sure ≤ (e0.b ++ b).length
      rw [List.length_append]
      have := hok0.sure
      omega
  refine ⟨withG Ent.name e1 E, DE.put hD ?_ ⟨L', hL4, ?_⟩ ?_ hok1 (by rw [hname]; exact hs) ?_ ?_ ?_ hD.hq ?_, ?_, ?_⟩
  · show DRow W4 d m P.quota (P.armed - 1) P.stopped
    rw [hst]
    refine hc4.row (hc3.row (hc2.row hrow1 fun ⟨a, ha, hk⟩ => hd0.2 a ha hk.symm) fun h => hd0.1 h) hap.1
  · refine hD.mapPut hmem ?_
    rw [he1]
    exact hput
  · intro x hx hn
    rw [hname] at hn
    obtain ⟨h1, h2⟩ := hG.far hD hx hn
    have hokx := hDx.fs.ok x hx
    have hmx := hokx.ne_map hLx
    have hf : ¬ (x.f = d ∨ (∃ a, e0.A = some a ∧ a.block = x.f) ∨ x.f = e0.f ∨ x.f = m) := by
      rintro (h | ⟨a, ha, h⟩ | h | h)
      · exact (hap.2 x hx).1 h.symm
      · exact hokx.fa hok0 a ha h.symm
      · exact h1 h
      · exact hmx.1 h
    have hA : ∀ b, x.A = some b → ¬ (b.block = d ∨ (∃ a, e0.A = some a ∧ a.block = b.block) ∨ b.block = e0.f ∨ b.block = m) := by
      rintro b hb (h | ⟨a, ha, h⟩ | h | h)
      · exact (hap.2 x hx).2 b hb h.symm
      · exact h2 b a hb ha h.symm
      · exact hok0.fa hokx b hb h.symm
      · exact hmx.2 b hb h
    refine ⟨hokx.keep (hcall.block _ hokx.row.lt hf) fun a ha => hcall.block _ (hokx.buf.lt a ha) (hA a ha), by rw [he1]; exact h1, ?_⟩
    intro a a1 ha ha1
    rw [he1] at ha1
    rcases hA1 with h | h
    · exact h2 a a1 ha (by rw [← h]; exact ha1)
    · rw [h] at ha1; cases ha1
      have := hokx.buf.lt a ha
      show a.block ≠ W1.heap.size
      omega
  · rw [he1]
    show (e0.b ++ b).length ≤ _
    rw [List.length_append]
    exact hl
  · cases ok with
    | true => exact Nat.le_trans (len_with_in (hG.here rfl) (by rw [hname]; exact hG.name)) hD.cnt
    | false => exact Nat.le_trans (len_with_le _ _) (hcnt rfl)
  · rw [he1]
    rfl
  · show P.armed - 1 ≤ _
    have := hD.ha
    omega
  · obtain ⟨hf, hA⟩ := hG.at_ (d := d) (m := m)
    refine (Chg.of_ext hwx (Foot d m E)).trans hcall ?_
    rintro k hk (rfl | ⟨a, ha, rfl⟩ | rfl | rfl)
    · exact .inl rfl
    · exact hA a ha
    · rcases hf with hf | hf
      · exact hf
      · omega
    · exact .inr (.inl rfl)
  · obtain ⟨hf, hA⟩ := hG.at_ (d := d) (m := m)
    intro k hk
    rcases foot_with hk with h | h | ⟨a, ha, h⟩
    · exact .inl h
    · rw [he1] at h
      rw [h]
      exact hf
    · rw [he1] at ha
      rcases hA1 with h1 | h1
      · rw [← h]
        exact .inl (hA a (by rw [← h1]; exact ha))
      · rw [h1] at ha; cases ha
        rw [← h]
        exact .inr (by show w.heap.size ≤ W1.heap.size; omega)
end Go.Proofs.Yticnncgbfpgeaaa
