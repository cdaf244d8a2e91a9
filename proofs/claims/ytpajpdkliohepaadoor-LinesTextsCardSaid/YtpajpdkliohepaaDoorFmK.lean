/- What a line's parts tell, plainly; an event's block. -/
import Derived.Test.YtpajpdkliohepaaDoorFmI
import Derived.Test.YtpajpdkliohepaaDoorApp
import Derived.Lib.AtoiAllCases
namespace Go.Proofs.YtpajpdkliohepaaDoor
open Go.RowKit

def I64ok' (z : Int) : Prop := -9223372036854775808 ≤ z ∧ z ≤ 9223372036854775807
/-- No event's line is this one. -/
def NoEv (line : List UInt8) : Prop := ∀ (at_ : Int) fs, I64ok' at_ → checkE fs = 0 → fmtL at_ fs ≠ line
theorem owns_lower {w : World} {base b : Nat} {e : TypeId} {size : Nat} {v : Value} {n : Nat} {xs : List Value} (h : w.ownsRow base e size v n xs) (hb : b ≤ base) : w.ownsRow b e size v n xs := by
  refine ⟨h.1, ?_⟩
  rcases h.2 with h2 | ⟨g, cap, cur, hv, hg, r⟩
  · exact .inl h2
  · exact .inr ⟨g, cap, cur, hv, Nat.le_trans hb hg, r⟩
/-- An event whose fields' row is a call's own. -/
def Ev.Own (e : Ev) (w : World) (base : Nat) (A : Option Addr) (c : Nat) : Prop := w.ownsRow base 52 2 (.slice A e.fs.length c) e.fs.length (fcells e.fs) ∧ (∀ f ∈ e.fs, f.1.length ≤ 9223372036854775807 ∧ f.2.length ≤ 9223372036854775807) ∧ e.fs.length ≤ 20
theorem Ev.Own.ok {e : Ev} {w : World} {base c : Nat} {A : Option Addr} (h : e.Own w base A c) : e.Ok w A := ⟨Cells.of_own h.1, by have := h.2.2; omega, h.2.1⟩
theorem Ev.Own.nil (w : World) (base : Nat) (at_ : Int) : Ev.Own ⟨at_, []⟩ w base none 0 := ⟨⟨rfl, .inl ⟨rfl, rfl⟩⟩, nofun, by simp⟩
/-- What Parse answers: the one event that the line tells of, or none. -/
def ParP (w : World) (line : List UInt8) (en : Ending) (w' : World) : Prop := Ext w w' ∧ ((∃ (e : Ev) (A : Option Addr) (c : Nat), en = .returned (.tuple #[e.val A c, .int .i64 0]) ∧ e.Own w' w.heap.size A c ∧ I64ok' e.at_ ∧ checkE e.fs = 0 ∧ fmtL e.at_ e.fs = line) ∨
  (en = .returned (.tuple #[.agg #[.int .i64 0, .slice none 0 0], .int .i64 310]) ∧ NoEv line))
/-- A line's event, if there is one, has this time, and these are its fields' bytes. -/
def HeadV (line : List UInt8) (v : Int) (l0 : List UInt8) : Prop := ∀ (at_ : Int) fs, I64ok' at_ → fmtL at_ fs = line → at_ = v ∧ l0 = flds fs
theorem head_cut (line : List UInt8) : ∃ head l0, (Lib.cut line [32]).1 = head ∧ line = head ++ l0 ∧ ∀ (at_ : Int) fs, fmtL at_ fs = line → Lib.itoa at_ = head ∧ l0 = flds fs := by
  rcases cut_one line 32 with ⟨a, b, h1, h2, h3⟩ | ⟨h1, h2⟩
  · refine ⟨a, 32 :: b, by rw [h3], h1, fun at_ fs he => ?_⟩
    rw [h1, fmtL_eq] at he
    rcases flds_head fs with hf | ⟨t, hf⟩
    · rw [hf, List.append_nil] at he
      exact absurd (by rw [he]; simp) (itoa_32 at_)
    · rw [hf] at he ⊢
      obtain ⟨h4, h5⟩ := split_uniq he (itoa_32 at_) h2
      exact ⟨h4, by rw [h5]⟩
  · refine ⟨line, [], by rw [h2], by simp, fun at_ fs he => ?_⟩
    rw [fmtL_eq] at he
    rcases flds_head fs with hf | ⟨t, hf⟩
    · rw [hf, List.append_nil] at he
      exact ⟨he, hf.symm⟩
    · rw [hf] at he
      exact absurd (by rw [← he]; simp) h1
theorem head_no {line head l0 : List UInt8} (h : ∀ (at_ : Int) fs, fmtL at_ fs = line → Lib.itoa at_ = head ∧ l0 = flds fs) (hn : ∀ v, Lib.atoiAll head ≠ .ok v) : NoEv line := fun at_ fs ha _ he =>
  hn at_ (by rw [← (h at_ fs he).1]; exact atoi_itoa ha.1 ha.2)
theorem head_yes {line head l0 : List UInt8} {v : Int} (h : ∀ (at_ : Int) fs, fmtL at_ fs = line → Lib.itoa at_ = head ∧ l0 = flds fs) (hv : Lib.atoiAll head = .ok v) : HeadV line v l0 := fun at_ fs ha he => by
  obtain ⟨h1, h2⟩ := h at_ fs he
  have := atoi_itoa ha.1 ha.2
  rw [h1, hv] at this
  injection this with this
  exact ⟨this.symm, h2⟩
theorem no_field {line l0 rest : List UInt8} {v : Int} {read : List Fd} (h : HeadV line v l0) (hF : FitsE l0 read rest) (hne : rest ≠ []) (hno : ∀ nm tx r, 61 ∉ nm → rest ≠ fieldL (nm, tx) ++ r) : NoEv line := fun at_ fs ha hc he => by
  obtain ⟨_, h2⟩ := h at_ fs ha he
  exact hF.bad hne hno fs (checkE_okN hc) h2
theorem no_many {line l0 rest : List UInt8} {v : Int} {read : List Fd} (h : HeadV line v l0) (hF : FitsE l0 read rest) (hn : 16 < read.length) : NoEv line := fun at_ fs ha hc he => by
  obtain ⟨_, h2⟩ := h at_ fs ha he
  obtain ⟨more, _, h3, _⟩ := hF fs (checkE_okN hc) h2
  have := (checkE_ok hc).1
  rw [h3, List.length_append] at this
  omega
theorem no_done {line l0 : List UInt8} {v : Int} {read : List Fd} (h : HeadV line v l0) (hF : FitsE l0 read []) (hn : checkE read = 0 → fmtL v read ≠ line) : NoEv line := fun at_ fs ha hc he => by
  obtain ⟨h1, h2⟩ := h at_ fs ha he
  have h3 := hF.done (checkE_okN hc) h2
  subst h1
  subst h3
  exact hn hc he
theorem esc_pos (c : UInt8) : 1 ≤ (escL c).length := by
  have := esc_ne c []
  rw [List.append_nil] at this
  exact Nat.pos_of_ne_zero fun h => this (List.eq_nil_of_length_eq_zero h)
theorem flat_pos : ∀ s : List UInt8, s.length ≤ (s.flatMap escL).length
  | [] => Nat.le_refl _
  | c :: s => by
    rw [List.flatMap_cons, List.length_append, List.length_cons]
    have := flat_pos s
    have := esc_pos c
    omega
theorem field_long {nm tx r s : List UInt8} (h : s = fieldL (nm, tx) ++ r) : nm.length ≤ s.length ∧ tx.length ≤ s.length ∧ r.length + 4 ≤ s.length := by
  rw [h, field_app]
  have := flat_pos tx
  unfold quoteL
  simp only [List.length_cons, List.length_append, List.length_nil]
  omega
/-- The event's block, written. -/
def setEv (w : World) (g : Nat) (at_ : Int) (A : Option Addr) (n c : Nat) : World := (w.setCell ⟨g, 0, none⟩ (.int .i64 at_)).setCell ⟨g, 1, none⟩ (.slice A n c)
theorem setEv_row {w : World} {g : Nat} {T : TypeId} {x y : Value} (h : Row w g T #[x, y]) (at_ : Int) (A : Option Addr) (n c : Nat) : Row (setEv w g at_ A n c) g T #[.int .i64 at_, .slice A n c] := (h.put 0 _).put 1 _
theorem setEv_chg (w : World) (g : Nat) (at_ : Int) (A : Option Addr) (n c : Nat) : Chg (fun k => k = g) w (setEv w g at_ A n c) := (Chg.of_set (S := fun k => k = g) w _ rfl).trans (Chg.of_set (S := fun k => k = g) _ _ rfl) fun _ _ h => h
theorem setEv_ext {w0 w : World} (h : Ext w0 w) {g : Nat} (hg : w0.heap.size ≤ g) (at_ : Int) (A : Option Addr) (n c : Nat) : Ext w0 (setEv w g at_ A n c) := h.chg (setEv_chg w g at_ A n c) fun i hi he => by omega
/-- As wpList_appS; the new block's number is told apart. -/
theorem wpList_appZ {P : Program} {ops : Array Oper} {rest : List Oper} {o : Oper} {a : Act} {Q : Exit → Act → World → Prop} {w0 : World} {us : List Value} {T : TypeId} {t e size bytes m k : Nat} (E : Elem P t e size bytes)
    {base : Nat} {v : Value} {n : Nat} {xs : List Value} (hown : w0.ownsRow base e size v n xs) (hk : k = w0.heap.size) (s x : Operand)
    (ho : o.op = .call { callee := .builtin .append, args := #[s, x], argTypes := #[t, t] }) (hgd : o.guard = none)
    (hs : a.eval s = v) (hx : a.eval x = .slice (some ⟨k, 0, none⟩) m m) (hl : us.length = m * size) (h1 : ∀ u ∈ us, u.oneCell' = true) (hsz : n + m ≤ 4294967296) (hbase : base ≤ w0.heap.size)
    (h : ∀ A1 c1 w', w'.ownsRow base e size (.slice A1 (n + m) c1) (n + m) (xs ++ us) → w0.grownBy w' v.ownBlock → ((Value.slice A1 (n + m) c1).ownBlock = v.ownBlock ∨ (Value.slice A1 (n + m) c1).ownBlock = some (w0.heap.size + 1)) →
      wpList P ops Q rest (a.put o.dst (.slice A1 (n + m) c1)) w') :
    wpList P ops Q (o :: rest) a (w0.alloc (.cells us.toArray T)) := by
  subst hk
  exact wpList_appS E hown s x ho hgd hs hx hl h1 hsz hbase h
set_option maxRecDepth 100000 in
theorem elemFd : Elem Tryd.prog 22 52 2 32 := ⟨Tryd.underlying22, ⟨_, _, rfl, rfl, rfl, rfl, rfl⟩, by omega, by omega⟩
end Go.Proofs.YtpajpdkliohepaaDoor
