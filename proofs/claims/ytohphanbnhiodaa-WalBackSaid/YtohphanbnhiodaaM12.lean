/- What the logs' files tell, plainly. -/
import Derived.Test.YtohphanbnhiodaaM11
import Derived.Test.YtohphanbnhiodaaM05
import Derived.Test.YtohphanbnhiodaaM06
import Derived.Test.YtohphanbnhiodaaM03
import Derived.Test.YtohphanbnhiodaaM09
import Derived.Test.YtohphanbnhiodaaM08
set_option linter.unusedSimpArgs false
set_option linter.unusedVariables false
namespace Go.Proofs.Ytohphanbnhiodaa
open Go.RowKit Go.Maps

/-- Which batches go on from nx: does it still go on, the next number, and those taken. -/
def takeB : Bool → Int → List Bt → Bool × Int × List Bt
  | g, nx, [] => (g, nx, [])
  | g, nx, x :: l => if g = true ∧ x.seq = nx then ((takeB true (x.seq + x.es.length) l).1, (takeB true (x.seq + x.es.length) l).2.1, x :: (takeB true (x.seq + x.es.length) l).2.2) else takeB false nx l
noncomputable def replM (P : PD) (fr : Int) : List Nat → Bool → Int → List Bt → Int → Except Nat (List Bt × Int)
  | [], _, _, out, last => .ok (out, last)
  | n :: ns, g, nx, out, _ => if (n : Int) < fr then replM P fr ns g nx out n else
    if (readM P (nameW n) 0 67108864).2 = 0 then
      replM P fr ns (takeB g nx (scanM (readM P (nameW n) 0 67108864).1.length none (readM P (nameW n) 0 67108864).1).1).1 (takeB g nx (scanM (readM P (nameW n) 0 67108864).1.length none (readM P (nameW n) 0 67108864).1).1).2.1
        (out ++ (takeB g nx (scanM (readM P (nameW n) 0 67108864).1.length none (readM P (nameW n) 0 67108864).1).1).2.2) n
    else .error (readM P (nameW n) 0 67108864).2
/-- What Replay answers. -/
def ReplP (w : World) (Z : Except Nat (List Bt × Int)) (e : Ending) (w' : World) : Prop := Ext w w' ∧ match Z with
  | .error k => e = .returned (.tuple #[.slice none 0 0, .int .i64 0, .int .i64 (k : Int)])
  | .ok (out, last) => ∃ (l : List BtC) (A : Option Addr) (c : Nat), out = l.map BtC.bt ∧ e = .returned (.tuple #[.slice A l.length c, .int .i64 last, .int .i64 0]) ∧ BtsOwn w' w.heap.size A c l
theorem ReplP.no {w w' : World} {Z : Except Nat (List Bt × Int)} {k : Nat} (hE : Ext w w') (h : Z = .error k) : ReplP w Z (.returned (.tuple #[.slice none 0 0, .int .i64 0, .int .i64 (k : Int)])) w' := by
  subst h
  exact ⟨hE, rfl⟩
theorem ReplP.yes {w w' : World} {Z : Except Nat (List Bt × Int)} {l : List BtC} {A : Option Addr} {m c : Nat} {last : Int} (hE : Ext w w') (hZ : Z = .ok (l.map BtC.bt, last)) (hm : m = l.length) (h : BtsOwn w' w.heap.size A c l) : ReplP w Z (.returned (.tuple #[.slice A m c, .int .i64 last, .int .i64 0])) w' := by
  subst hZ hm
  exact ⟨hE, l, A, c, rfl, rfl, h⟩
section
variable {Z : Except Nat (List Bt × Int)} {P : PD} {fr nx last : Int} {g : Bool} {out : List Bt} {ns : List Nat} {n : Nat}
theorem repl_end (h : Z = replM P fr [] g nx out last) : Z = .ok (out, last) := h
theorem repl_low (h : Z = replM P fr (n :: ns) g nx out last) (hl : (n : Int) < fr) : Z = replM P fr ns g nx out n := by rw [h, replM, if_pos hl]
theorem repl_err (h : Z = replM P fr (n :: ns) g nx out last) (hl : ¬ (n : Int) < fr) {b : List UInt8} {k : Nat} (hr : readM P (nameW n) 0 67108864 = (b, k)) (hk : k ≠ 0) : Z = .error k := by
  rw [h, replM, if_neg hl, hr]
  simp only
  rw [if_neg hk]
theorem repl_go (h : Z = replM P fr (n :: ns) g nx out last) (hl : ¬ (n : Int) < fr) {b : List UInt8} (hr : readM P (nameW n) 0 67108864 = (b, 0)) :
    Z = replM P fr ns (takeB g nx (scanM b.length none b).1).1 (takeB g nx (scanM b.length none b).1).2.1 (out ++ (takeB g nx (scanM b.length none b).1).2.2) n := by
  rw [h, replM, if_neg hl, hr]
  simp only
  rw [if_pos trivial]
end
end Go.Proofs.Ytohphanbnhiodaa

/- loggia/wal: Replay. -/
namespace Go.Proofs.Ytohphanbnhiodaa
open Go.RowKit Go.Maps

theorem scan_count : ∀ (k : Nat) (nx : Option Int) (b : List UInt8), (scanM k nx b).1.length ≤ b.length
  | 0, _, _ => by unfold scanM; simp
  | k + 1, nx, b => by
    unfold scanM
    split
    · simp
    · split
      · simp
      · rename_i p r hg
        have h1 := getF_small hg
        split
        · simp
        · split
          · have h2 := scan_count k (some ((‹Bt› : Bt).seq + (‹Bt› : Bt).es.length)) r
            simp only [List.length_cons]
            omega
          · simp
theorem drop_oneN {l : List Nat} {i k : Nat} (h : l[i]? = some k) : l.drop i = k :: l.drop (i + 1) := by
  obtain ⟨hi, rfl⟩ := List.getElem?_eq_some_iff.1 h
  exact List.drop_eq_getElem_cons hi
theorem BtsOwn.lower {w : World} {base b c : Nat} {A : Option Addr} {l : List BtC} (h : BtsOwn w base A c l) (hb : b ≤ base) : BtsOwn w b A c l := ⟨owns_lower h.own hb, fun x hx => ⟨(h.each x hx).1.lower hb, (h.each x hx).2⟩⟩
theorem BtsOwn.chg {w w' : World} {base c : Nat} {A : Option Addr} {l : List BtC} {S : Nat → Prop} (h : BtsOwn w base A c l) (hc : Chg S w w') (hS : ∀ g, base ≤ g → g < w.heap.size → ¬ S g) : BtsOwn w' base A c l :=
  ⟨hc.owns h.own fun g hg => by obtain ⟨cs, hr, hb⟩ := owns_row h.own hg; exact hS g hb hr.lt, fun x hx => ⟨(h.each x hx).1.chg hc fun g _ _ hr _ hb => hS g hb hr.lt, (h.each x hx).2⟩⟩
theorem step_appY {P : Program} {ops : Array Oper} {o : Oper} {a : Act} {w0 : World} {K : Act → World → Prop} {Q : Exit → Act → World → Prop} {E0 : Prop} {us : List Value} {T : TypeId} {t e size bytes m k : Nat} (E : Elem P t e size bytes) (hgd : o.guard = none)
    {base : Nat} {v : Value} {n : Nat} {xs : List Value} (hown : w0.ownsRow base e size v n xs) (hk : k = w0.heap.size) (s x : Operand)
    (ho : o.op = .call { callee := .builtin .append, args := #[s, x], argTypes := #[t, t] })
    (hs : a.eval s = v) (hx : a.eval x = .slice (some ⟨k, 0, none⟩) m m) (hl : us.length = m * size) (h1 : ∀ u ∈ us, u.oneCell' = true) (hsz : n + m ≤ 4294967296) (hbase : base ≤ w0.heap.size)
    (h : ∀ A1 c1 w', w'.ownsRow base e size (.slice A1 (n + m) c1) (n + m) (xs ++ us) → w0.grownBy w' v.ownBlock → ((Value.slice A1 (n + m) c1).ownBlock = v.ownBlock ∨ (Value.slice A1 (n + m) c1).ownBlock = some (w0.heap.size + 1)) → K (a.put o.dst (.slice A1 (n + m) c1)) w') :
    if Region.wanted o (yielded ops a.tmps) = true then Oper.wp P o a (w0.alloc (.cells us.toArray T)) K Q else E0 := by
  subst hk
  rw [if_pos (by simp [Region.wanted, hgd])]
  have hr : Cells (w0.alloc (.cells us.toArray T)) (some ⟨w0.heap.size, 0, none⟩) us := .inr ⟨w0.heap.size, 0, rfl, fun i u hu => by
    rw [Nat.zero_add, cell_of_row _ _ _ _ _ _ (heap_alloc_new w0 _)]
    simpa using hu⟩
  obtain ⟨A1, c1, w', hrun, h2, h3, h4⟩ := run_app (P := P) E (w0.alloc (.cells us.toArray T)) o.type (((Ext.refl w0).alloc _).owns hown) (c := m) hr hl h1 hsz (by simp; omega)
  unfold Oper.wp execOp
  simp only [ho, resolve, invoke, builtin, Sem.run_bind, Sem.run_pure, Result.andThen_ok, List.map_toArray, List.map_cons, List.map_nil, hs, hx, hrun]
  exact h A1 c1 w' h2 ⟨h3.os, h3.tape, h3.output, Nat.le_trans (by simp) h3.size, fun k hk hne => (h3.block k (by simp; omega) hne).trans (Below.heap_alloc w0 _ k hk)⟩ (by simpa using h4)
set_option maxRecDepth 100000 in
set_option maxHeartbeats 8000000 in
theorem replay_any (K Bd : Nat) (hK4 : K ≤ 4000000000) (hB4 : Bd ≤ 1000000000) (hKB : K * Bd ≤ 4000000000) (base d : Nat) (P : PD) (F : Nat → Prop) (fr nx0 : Int) (w : World) (h : DS w base d P F) (hf : I64ok' fr) (hx : I64ok' nx0) (hcnt : (logsM P).length ≤ K) (hbytes : ∀ n ∈ logsM P, (readM P (nameW n) 0 67108864).1.length ≤ Bd) :
    Calls Try.prog 19 #[.pointer (some ⟨d, 0, none⟩), .int .i64 fr, .int .i64 nx0] w fun e w' => ReplP w (replM P fr (logsM P) true nx0 [] (-1)) e w' := by
  have hmade := hide (made_any base d P F w h)
  obtain ⟨Z, hZ⟩ : ∃ Z, Z = replM P fr (logsM P) true nx0 [] (-1) := ⟨_, rfl⟩
  rw [← hZ]
  have hlt : ∀ n ∈ logsM P, n ≤ 99999999 := fun n hn => by
    obtain ⟨s, _, hs⟩ := List.mem_filterMap.1 hn
    have := numW_lt hs
    omega
  have hlogs := fun w1 (hE : Ext w w1) => logs_any base d P F w1 (h.ext hE)
  obtain ⟨ns, hns⟩ : ∃ ns, ns = logsM P := ⟨_, rfl⟩
  simp only [← hns] at hZ hlogs hcnt hbytes hlt
  obtain ⟨N, hN⟩ : ∃ N, N = ns.length := ⟨_, rfl⟩
  simp only [← hN] at hlogs hcnt
  obtain ⟨hx1, hx2⟩ := hx
  obtain ⟨hf1, hf2⟩ := hf
  replace hns := hide hns
  replace hN := hide hN
  replace hZ := hide hZ
  replace hlogs := hide hlogs
  replace hbytes := hide hbytes
  replace hlt := hide hlt
  replace h := hide h
  go_enter Try.func19, Try.ntmps19
  go_wp2_with fail
  refine hmade.out.mono ?_
  rintro e w1 ⟨rfl, hE1⟩
  go_wp2_with fail
  refine (hlogs.out w1 hE1).mono ?_
  rintro e w2 ⟨A, c, rfl, hown, hE2⟩
  have hcells := hide (Cells.of_own hown)
  have hE02 := hide (hE1.trans hE2)
  replace hown := hide hown
  go_wp2_with fail
  go_loopw [2, 9, 10, 11, 29] (fun s2 s9 s10 s11 s29 wr => ∃ (i m dd : Nat) (g : Bool) (nx last : Int) (read : List BtC) (B : Option Addr), s2 = .int .i64 nx ∧ s9 = .int .i64 last ∧ s10 = .slice B m dd ∧ s11 = .bool g ∧ s29 = .int .i64 (i : Int) ∧ i ≤ N ∧ m ≤ i * Bd ∧ -9223372036854775808 ≤ nx ∧ nx ≤ 9223372036854775807 ∧ Hid (m = read.length) ∧ Hid (Z = replM P fr (ns.drop i) g nx (read.map BtC.bt) last) ∧ Hid (BtsOwn wr w2.heap.size B dd read) ∧ Hid (Ext w2 wr)) (fun _ _ _ _ s29 _ => N - (intOf s29).toNat)
  case atStart => exact ⟨0, 0, 0, true, nx0, -1, [], none, rfl, rfl, rfl, rfl, rfl, by omega, by omega, by omega, by omega, hide rfl, hide hZ.out, hide (BtsOwn.nil _ _), hide (Ext.refl _)⟩
  case round =>
    obtain ⟨i, m, dd, g, nx, last, read, B, rfl, rfl, rfl, rfl, rfl, hi, hmi, hnx1, hnx2, hm, hz, hbo, hE⟩ := hrel
    by_cases hin : i < N
    · obtain ⟨n, hn⟩ : ∃ n, ns[i]? = some n := ⟨_, List.getElem?_eq_getElem (by have := hN.out; omega)⟩
      obtain ⟨ga, o, hA, hc⟩ := Cells.at_ (xs := nats ns) (hcells.out.ext hE.out) (by unfold nats; rw [List.length_map]; have := hN.out; omega)
      have hcell := hc i (.int .i64 (n : Int)) (by unfold nats; rw [List.getElem?_map, hn]; rfl)
      subst hA
      have hzz := hz.out
      rw [drop_oneN hn] at hzz
      have hmem := List.mem_of_getElem? hn
      have hn9 := hlt.out n hmem
      have hbn := hbytes.out n hmem
      by_cases hlow : (n : Int) < fr
      · have hz2 := hide (repl_low hzz hlow)
        clear hzz hc hn hbn
        have hm1 : m ≤ (i + 1) * Bd := Nat.le_trans hmi (Nat.mul_le_mul_right _ (Nat.le_succ i))
        go_wp2_with fail
        exact ⟨⟨i + 1, m, dd, g, nx, n, read, B, rfl, rfl, rfl, rfl, by go_num, by omega, hm1, hnx1, hnx2, hm, hide hz2.out, hbo, hE⟩, by simp [intOf]; omega⟩
      · have hlow' : fr ≤ (n : Int) := by omega
        have hnm := hide (name_yes n wr hn9)
        obtain ⟨nm, hnmd⟩ : ∃ nm, nm = nameW n := ⟨_, rfl⟩
        obtain ⟨RR, hR⟩ : ∃ RR, RR = readM P (nameW n) 0 67108864 := ⟨readM P (nameW n) 0 67108864, rfl⟩
        obtain ⟨by_, k⟩ := RR
        have hE0r := hE02.out.trans hE.out
        have hrd := fun w3 (hE3 : Ext wr w3) => read_any base d P F (nameW n) 0 67108864 w3 (h.out.ext (hE0r.trans hE3)) (by rw [nameW_len]; omega) (by omega) (by omega) (by omega) (by omega)
        unfold ReadPost str at hrd
        rw [← hR] at hbn hrd
        simp only at hbn hrd
        have hrd2 := hide hrd
        rw [← hnmd] at hnm hrd2
        have hnl : nm.length = 12 := by rw [hnmd]; exact nameW_len n
        replace hnmd := hide hnmd
        clear hrd hc hn
        by_cases hk : k = 0
        · subst hk
          have hz2 := hide (repl_go hzz hlow hR.symm)
          replace hR := hide hR
          clear hzz
          go_wp2_with fail
          refine hnm.out.mono ?_
          rintro e w3 ⟨rfl, hE3⟩
          go_wp2_with fail
          refine (hrd2.out w3 hE3).mono ?_
          rintro e w4 ⟨A4, k4, c4, rfl, hb4, hk4, hE4⟩
          have hin4 := hb4.in8
          have hbl : k4 = by_.length := hk4
          have hsc := scan_any A4 k4 c4 by_ w4 hin4 (by omega)
          have hcount := scan_count by_.length none by_
          obtain ⟨S, hS⟩ : ∃ S, S = scanM by_.length none by_ := ⟨scanM by_.length none by_, rfl⟩
          rw [← hS] at hsc hcount
          have hz3 := hz2.out
          rw [← hS] at hz3
          replace hz3 := hide hz3
          replace hsc := hide hsc
          replace hS := hide hS
          replace hk4 := hide hk4
          have hcb : S.1.length ≤ Bd := by omega
          have hE04 := hide (hE.out.trans (hE3.trans hE4))
          clear hz2 hbl hin4 hb4
          go_wp2_with fail
          refine hsc.out.mono ?_
          rintro e w5 ⟨hE5, l, AL, cl, hl, rfl, hbl⟩
          rw [hl] at hcb hz3
          rw [List.length_map] at hcb
          have hE05 := hide (hE04.out.trans hE5)
          have hbk0 : Hid (∀ k, (Value.slice B m dd).ownBlock = some k → k < w4.heap.size ∨ w5.heap.size ≤ k) := hide fun k hk => by
            have ho := hbo.out.own
            rw [← hm.out] at ho
            obtain ⟨cs, hrr, _⟩ := owns_row ho hk
            have := hrr.lt
            have := (hE3.trans hE4).size
            omega
          have hbo5 := hide (hbo.out.ext ((hE3.trans hE4).trans hE5))
          replace hl := hide hl
          replace hbl := hide hbl
          obtain ⟨L, hL⟩ : ∃ L, L = l.length := ⟨_, rfl⟩
          rw [← hL] at hcb ⊢
          replace hL := hide hL
          go_wp2_with fail
          obtain ⟨wo, rfl⟩ : ∃ wo, wo = wr := ⟨_, rfl⟩
          go_loopw [2, 10, 11, 59] (fun s2 s10 s11 s59 wi => ∃ (j m2 d2 : Nat) (g2 : Bool) (nx2 : Int) (read2 : List BtC) (B2 : Option Addr), s2 = .int .i64 nx2 ∧ s10 = .slice B2 m2 d2 ∧ s11 = .bool g2 ∧ s59 = .int .i64 (j : Int) ∧ j ≤ L ∧ m2 ≤ m + j ∧ -9223372036854775808 ≤ nx2 ∧ nx2 ≤ 9223372036854775807 ∧ Hid (m2 = read2.length) ∧ Hid (Z = replM P fr (ns.drop (i + 1)) (takeB g2 nx2 ((l.drop j).map BtC.bt)).1 (takeB g2 nx2 ((l.drop j).map BtC.bt)).2.1 (read2.map BtC.bt ++ (takeB g2 nx2 ((l.drop j).map BtC.bt)).2.2) n) ∧ Hid (BtsOwn wi w2.heap.size B2 d2 read2) ∧ Hid (Chg (fun k => k < w4.heap.size ∨ w5.heap.size ≤ k) w5 wi) ∧ Hid (Ext w2 wi) ∧ Hid (∀ k, (Value.slice B2 m2 d2).ownBlock = some k → k < w4.heap.size ∨ w5.heap.size ≤ k)) (fun _ _ _ s59 _ => L - (intOf s59).toNat)
          case atStart => exact ⟨0, m, dd, g, nx, read, B, rfl, rfl, rfl, rfl, by omega, by omega, hnx1, hnx2, hm, hide hz3.out, hbo5, hide (Chg.of_ext (Ext.refl _) _), hE05, hbk0⟩
          case round =>
            obtain ⟨j, m2, d2, g2, nx2, read2, B2, rfl, rfl, rfl, rfl, hj, hm2, hy1, hy2, hml, hzi, hboi, hch, hEi, hbk⟩ := hrel
            have hbli := (hbl.out.chg hch.out (fun g hg1 hg2 h => by omega))
            by_cases hjl : j < L
            · obtain ⟨x, hxx⟩ : ∃ x, l[j]? = some x := ⟨_, List.getElem?_eq_getElem (by have := hL.out; omega)⟩
              obtain ⟨gb, ob, hAL, k0, k1⟩ := bcells_at hbli.ok.cells hxx
              have hxo := hbli.each x (List.mem_of_getElem? hxx)
              have hzz := hzi.out
              rw [drop_oneB hxx, List.map_cons, takeB] at hzz
              obtain ⟨sq, xl, xA, xc⟩ := x
              simp only at k0 k1 hxo
              obtain ⟨bt, hbt⟩ : ∃ bt, bt = BtC.bt ⟨sq, xl, xA, xc⟩ := ⟨_, rfl⟩
              rw [← hbt] at hzz
              have hbs : bt.seq = sq := by rw [hbt]; rfl
              have hbe : bt.es.length = xl.length := by rw [hbt]; exact List.length_map _
              rw [hbs, hbe] at hzz
              subst hAL
              have hx1 := hxo.2.1
              have hx2 := hxo.2.2.1
              have hx3 := hxo.2.2.2
              obtain ⟨xn, hxn⟩ : ∃ xn, xn = xl.length := ⟨_, rfl⟩
              rw [← hxn] at k1 hx1 hzz
              replace hxn := hide hxn
              obtain ⟨w6, hw6⟩ : ∃ w6, w6 = wr.alloc (.cells #[.int .i64 sq, .slice xA xn xc] 50) := ⟨_, rfl⟩
              have hE6 : Ext wr w6 := by rw [hw6]; exact (Ext.refl wr).alloc _
              have hr6 : Row w6 wr.heap.size 50 #[.int .i64 sq, .slice xA xn xc] := by rw [hw6]; exact Row.new wr _ _
              obtain ⟨gx, hgx⟩ : ∃ gx, gx = wr.heap.size := ⟨_, rfl⟩
              rw [← hgx] at hr6
              have x0 := hr6.cell 0 rfl
              have x1 := hr6.cell 1 rfl
              by_cases hgo : g2 = true ∧ sq = nx2
              · obtain ⟨rfl, rfl⟩ := hgo
                rw [if_pos ⟨rfl, rfl⟩] at hzz
                have hown6 := hboi.out.ext hE6
                have hown6o : w6.ownsRow w2.heap.size 50 2 (.slice B2 m2 d2) m2 (bcells read2) := by have := hown6.own; rw [← hml.out] at this; exact this
                have hblk : ∀ k, (Value.slice B2 m2 d2).ownBlock = some k → k < gx := fun k hk => by
                  have ho2 := hboi.out.own
                  rw [← hml.out] at ho2
                  obtain ⟨cs, hrr, _⟩ := owns_row ho2 hk
                  rw [hgx]
                  exact hrr.lt
                have hE06 := hEi.out.trans hE6
                have hE006 := hide (hE02.out.trans hE06)
                have hbase6d : w2.heap.size ≤ w6.drew.heap.size := hE06.size
                have hS0 : w6.drew.cell? ⟨gx, 0, none⟩ = some (.int .i64 sq) ∧ w6.drew.cell? ⟨gx, 1, none⟩ = some (.slice xA xn xc) := ⟨x0, x1⟩
                have hEa : Ext w6.drew (w6.drew.alloc (.cells #[.int .i64 sq, .slice xA xn xc] 50)) := (Ext.refl _).alloc _
                have hSa : (w6.drew.alloc (.cells #[.int .i64 sq, .slice xA xn xc] 50)).cell? ⟨gx, 0, none⟩ = some (.int .i64 sq) ∧ (w6.drew.alloc (.cells #[.int .i64 sq, .slice xA xn xc] 50)).cell? ⟨gx, 1, none⟩ = some (.slice xA xn xc) := ⟨hEa.cell x0, hEa.cell x1⟩
                have hgr : ∀ w8, w6.drew.grownBy w8 (Value.slice B2 m2 d2).ownBlock → w8.cell? ⟨gx, 0, none⟩ = some (.int .i64 sq) ∧ w8.cell? ⟨gx, 1, none⟩ = some (.slice xA xn xc) := fun w8 hg8 => by
                  have hr8 := Row.grown (w := w6.drew) hr6.drew hg8 (fun e => by
                    have := hblk _ e.symm
                    omega)
                  exact ⟨hr8.cell 0 rfl, hr8.cell 1 rfl⟩
                have hown6d := hide ((Ext.refl w6).drew.owns hown6o)
                have hm4 : m2 + 1 ≤ m + (j + 1) := by omega
                have hm5 : m2 + 1 ≤ 4000000000 := by have := Nat.mul_le_mul_right Bd (show i + 1 ≤ K by omega); have := Nat.add_mul i 1 Bd; omega
                have hxb := hxo
                replace hxb := hide hxb
                replace hzz := hide hzz
                replace hgr := hide hgr
                replace hSa := hide hSa
                replace hS0 := hide hS0
                replace hown6 := hide hown6
                replace hbt := hide hbt
                have hgx2 := hide hgx
                rw [hw6, hgx] at x0
                clear hxx x1 hxo hown6o hblk hEa hbs hbe
                go_wp2_with fail
                rw [← hw6, ← hgx]
                replace hw6 := hide hw6
                replace hgx := hide hgx
                clear x0
                go_region_held3 (fun x => x.cell? ⟨gx, 0, none⟩ = some (.int .i64 sq) ∧ x.cell? ⟨gx, 1, none⟩ = some (.slice xA xn xc)) (first | exact hS0.out | exact hSa.out | exact hgr.out _ ‹_›) (first | (refine step_appY (us := [.int .i64 sq, .slice xA xn xc]) (m := 1) elemBt rfl hown6d.out rfl (.tmp 71) (.tmp 73) rfl rfl rfl rfl (one_of rfl) (by omega) hbase6d (fun A8 c8 w8 ho8 hg8 hl8 => ?_)))
                go_wp2_with fail
                have hwr : IntKind.i64.wrap (sq + (xn : Int)) = sq + (xn : Int) := by
                  simp [IntKind.wrap, IntKind.bits, IntKind.signed]
                  omega
                have hs42 : w2.heap.size ≤ w4.heap.size := hE04.out.size
                have hs56 : w5.heap.size ≤ w6.drew.heap.size := Nat.le_trans hch.out.size hE6.size
                have hch8 := (hch.out.trans (Chg.of_ext (hE6.trans (Ext.refl w6).drew) _) (fun _ _ h => h)).trans (Chg.of_grown hg8 (S := fun k => k < w4.heap.size ∨ w5.heap.size ≤ k) fun k _ hk => hbk.out k hk) (fun _ _ h => h)
                have hE8 : Ext w2 w8 := (hEi.out.trans hE6).drew.grown hg8 fun k hk => (by obtain ⟨_, _, hb⟩ := owns_row hown6d.out hk; exact hb)
                have hbk8 : ∀ k, (Value.slice A8 (m2 + 1) c8).ownBlock = some k → k < w4.heap.size ∨ w5.heap.size ≤ k := fun k hk => by
                  rcases hl8 with h | h
                  · exact hbk.out k (h.symm.trans hk)
                  · rw [h] at hk
                    injection hk with hk
                    omega
                have hxx2 := hxb.out
                have hz9 := hzz.out
                rw [hbt.out] at hz9
                obtain rfl : m2 = read2.length := hml.out
                obtain rfl : xn = xl.length := hxn.out
                exact ⟨⟨j + 1, read2.length + 1, c8, true, sq + (xl.length : Int), read2 ++ [⟨sq, xl, xA, xc⟩], A8, by rw [hwr], rfl, rfl, by go_num, by omega, hm4, by omega, by omega, hide (by rw [List.length_append]; rfl), hide (by rw [List.map_append, List.append_assoc]; exact hz9), hide (BtsOwn.snoc (x := ⟨sq, xl, xA, xc⟩) hown6.out ⟨(hxx2.1.lower hs42).ext hE6, hxx2.2⟩ (Ext.refl w6).drew hg8 ho8), hide hch8, hide hE8, hide hbk8⟩, by simp [intOf]; omega⟩
              · rw [if_neg hgo] at hzz
                replace hzz := hide hzz
                have hm3 : m2 ≤ m + (j + 1) := by omega
                replace hgx := hide hgx
                rw [hw6] at x0
                rw [hgx.out] at x0
                clear hxx x1 hxo
                cases g2 with
                | false =>
                  clear hgo
                  go_wp2_with fail
                  rw [← hw6]
                  exact ⟨⟨j + 1, m2, d2, false, nx2, read2, B2, rfl, rfl, rfl, by go_num, by omega, hm3, hy1, hy2, hml, hide hzz.out, hide (hboi.out.ext hE6), hide (hch.out.trans (Chg.of_ext hE6 _) (fun _ _ h => h)), hide (hEi.out.trans hE6), hbk⟩, by simp [intOf]; omega⟩
                | true =>
                  have hne : (sq == nx2) = false := by rw [beq_eq_false_iff_ne]; exact fun h => hgo ⟨rfl, h⟩
                  clear hgo
                  go_wp2_with fail
                  rw [← hw6]
                  exact ⟨⟨j + 1, m2, d2, false, nx2, read2, B2, rfl, rfl, rfl, by go_num, by omega, hm3, hy1, hy2, hml, hide hzz.out, hide (hboi.out.ext hE6), hide (hch.out.trans (Chg.of_ext hE6 _) (fun _ _ h => h)), hide (hEi.out.trans hE6), hbk⟩, by simp [intOf]; omega⟩
            · obtain rfl : j = L := by omega
              have hzz := hzi.out
              rw [show l.drop j = [] from List.drop_of_length_le (by have := hL.out; omega), List.map_nil, show takeB g2 nx2 [] = (g2, nx2, []) from rfl] at hzz
              simp only [List.append_nil] at hzz
              replace hzz := hide hzz
              have hm1 : m2 ≤ (i + 1) * Bd := by rw [Nat.add_mul]; exact Nat.le_trans hm2 (Nat.add_le_add hmi (by omega))
              go_wp2_with fail
              exact ⟨⟨i + 1, m2, d2, g2, nx2, n, read2, B2, rfl, rfl, rfl, rfl, by go_num, by omega, hm1, hy1, hy2, hml, hide hzz.out, hboi, hEi⟩, by simp [intOf]; omega⟩
        · have hki : ¬ (k : Int) = 0 := by omega
          have hz2 := hide (repl_err hzz hlow hR.symm hk)
          replace hR := hide hR
          clear hzz
          go_wp2_with fail
          refine hnm.out.mono ?_
          rintro e w3 ⟨rfl, hE3⟩
          go_wp2_with fail
          refine (hrd2.out w3 hE3).mono ?_
          rintro e w4 ⟨A4, k4, c4, rfl, hb4, hk4, hE4⟩
          go_wp2_with fail
          go_ret3
          exact ReplP.no (hE0r.trans (hE3.trans hE4)) hz2.out
    · obtain rfl : i = N := by omega
      have hzz := hz.out
      rw [List.drop_of_length_le (by have := hN.out; omega)] at hzz
      have hz2 := hide (repl_end hzz)
      clear hzz
      go_wp2_with fail
      go_ret3
      exact ReplP.yes (hE02.out.trans hE.out) hz2.out hm.out (hbo.out.lower hE02.out.size)
end Go.Proofs.Ytohphanbnhiodaa

/- Frames of batches that follow one another, plainly. -/
namespace Go.Proofs.Ytohphanbnhiodaa
open Go.RowKit Go.Maps

theorem frameL_pos (p : List UInt8) : 0 < (frameL p).length := by
  unfold frameL
  have := vb_pos p.length
  rw [List.length_append, List.length_append]
  omega
theorem scan_front {bt : Bt} {r : List UInt8} {k : Nat} {nx : Option Int} (h : checkB bt = 0) (ha : ∀ e ∈ bt.es, I64ok' e.at_) (hs : okN nx bt.seq) :
    scanM (k + 1) nx (frameL (encB bt) ++ r) = (bt :: (scanM k (some (bt.seq + bt.es.length)) r).1, (frameL (encB bt)).length + (scanM k (some (bt.seq + bt.es.length)) r).2.1, (scanM k (some (bt.seq + bt.es.length)) r).2.2) := by
  have hp := frameL_pos (encB bt)
  have hl := encB_len h ha
  have hne : ¬ frameL (encB bt) ++ r = [] := fun e => by
    rw [(List.append_eq_nil_iff.1 e).1] at hp
    simp at hp
  rw [scanM, if_neg hne, getF_put (by omega)]
  simp only
  rw [decB_enc h ha]
  simp only
  rw [if_pos hs, show (frameL (encB bt) ++ r).length - r.length = (frameL (encB bt)).length by rw [List.length_append]; omega]
theorem scan_nil (k : Nat) (nx : Option Int) : scanM k nx [] = ([], 0, 0) := by
  cases k <;> simp [scanM]
theorem one_ok {n : Int} (h1 : 1 ≤ n) (h2 : n ≤ 1099511627776) : checkB (oneB n) = 0 := by
  have e1 : checkEs [⟨5, [⟨[109, 115, 103], [97]⟩]⟩] = 0 := by decide +kernel
  have e2 : sizeEs [⟨5, [⟨[109, 115, 103], [97]⟩]⟩] ≤ 65536 := by decide +kernel
  unfold checkB oneB
  simp only [List.length_singleton]
  rw [if_neg (by omega), if_neg (by omega), e1, if_neg (by simp), if_neg (by omega), if_neg (by omega)]
theorem one_ints (n : Int) : ∀ e ∈ (oneB n).es, I64ok' e.at_ := fun e he => by
  rw [List.mem_singleton.1 he]
  unfold I64ok'
  simp
/-- The bytes of the two batches that awake writes. -/
def awB : List UInt8 := frameL (encB (oneB 1)) ++ frameL (encB (oneB 2))
theorem aw_app : appB [oneB 1, oneB 2] [] = .ok awB := by
  rw [appB, if_pos (one_ok (by omega) (by omega)), appB, if_pos (one_ok (by omega) (by omega)), appB]
  rfl
theorem aw_len : awB.length ≤ 200200 ∧ 0 < awB.length := by
  have h1 := frameL_len _ (encB_len (one_ok (n := 1) (by omega) (by omega)) (one_ints 1))
  have h2 := frameL_len _ (encB_len (one_ok (n := 2) (by omega) (by omega)) (one_ints 2))
  have h3 := frameL_pos (encB (oneB 1))
  unfold awB
  rw [List.length_append]
  omega
theorem aw_scan : (scanM awB.length none awB).1 = [oneB 1, oneB 2] := by
  have hl := aw_len
  have h3 := frameL_pos (encB (oneB 1))
  have h4 := frameL_pos (encB (oneB 2))
  obtain ⟨k, hk⟩ : ∃ k, awB.length = k + 1 + 1 := ⟨awB.length - 2, by unfold awB; rw [List.length_append]; omega⟩
  rw [hk]
  unfold awB
  rw [scan_front (nx := none) (one_ok (by omega) (by omega)) (one_ints 1) (show okN none (oneB 1).seq from trivial)]
  simp only
  have h5 := @scan_front (oneB 2) [] k (some ((oneB 1).seq + (oneB 1).es.length)) (one_ok (by omega) (by omega)) (one_ints 2) rfl
  rw [List.append_nil] at h5
  rw [h5, scan_nil]
def awN : List UInt8 := [108, 111, 103, 45, 48, 48, 48, 48, 48, 48, 48, 55]
theorem aw_name : nameW 7 = awN := by decide +kernel
def awP (b : List UInt8) : PD := ⟨[(awN, b, 0)], 0, 0, false⟩
theorem aw_append {b : List UInt8} (h : b.length ≤ 67108864) : appendM ⟨[], 0, 0, false⟩ awN b = (awP b, 0) := by
  have hn : namedM awN = true := by decide +kernel
  unfold appendM
  rw [if_pos hn]
  unfold PD.find putM fullM awP
  simp
  rw [if_neg (by omega)]
  simp [PD.goes, withG, withoutG, insG]
theorem aw_logs (b : List UInt8) : logsM (awP b) = [7] := by
  have h : numW awN = some 7 := by decide +kernel
  unfold logsM listM awP
  simp [fname, h]
theorem aw_read {b : List UInt8} (h : b.length ≤ 67108864) : readM (awP b) (nameW 7) 0 67108864 = (b, 0) := by
  have hn : namedM awN = true := by decide +kernel
  rw [aw_name]
  unfold readM
  rw [if_pos hn]
  unfold PD.find awP
  simp [fname]
  rw [if_neg (by omega), List.take_of_length_le h]
theorem aw_repl : replM (awP awB) 0 [7] true 1 [] (-1) = .ok ([oneB 1, oneB 2], 7) := by
  have hr := aw_read (b := awB) (by have := aw_len; omega)
  rw [replM, if_neg (by omega), hr]
  simp only
  rw [if_pos trivial, aw_scan, replM]
  rfl
theorem aw_size {b : List UInt8} : sizeM (awP b) awN = (b.length, true) := by
  unfold sizeM PD.find awP
  simp [fname]
end Go.Proofs.Ytohphanbnhiodaa

/- loggialaw15: awake. -/
namespace Go.Proofs.Ytohphanbnhiodaa
open Go.RowKit Go.Maps

/-- A call of the disk that lies above all that was there. -/
theorem DNext.ext {w0 w w' : World} {base d : Nat} {P P' : PD} {F : Nat → Prop} (h : DNext base d F w P' w') (hS : DS w base d P F) (hE : Ext w0 w) (hb : w0.heap.size ≤ base) : ∃ F', DS w' base d P' F' ∧ Ext w0 w' := by
  obtain ⟨F', h1, h2, _⟩ := h
  exact ⟨F', h1, hE.chg h2 fun i hi hf => by have := hS.base_le hf; omega⟩
set_option maxRecDepth 100000 in
set_option maxHeartbeats 4000000 in
theorem awake_any (w : World) : Calls Try.prog 11 #[] w fun e w' => e = .returned (.bool true) ∧ Ext w w' := by
  have hnm := name_yes 7 w (by omega)
  rw [aw_name, show ((7 : Nat) : Int) = 7 from rfl] at hnm
  have hnum := fun w1 => number_any awN w1
  rw [show numW awN = some 7 by decide +kernel] at hnum
  unfold NumW at hnum
  simp only [Option.getD_some, Option.isSome_some, show ((7 : Nat) : Int) = 7 from rfl] at hnum
  unfold awN at hnm hnum
  replace hnm := hide hnm
  replace hnum := hide hnum
  go_enter Try.func11, Try.ntmps11
  go_wp2_with fail
  refine hnm.out.mono ?_
  rintro e w1 ⟨rfl, hE1⟩
  go_wp2_with fail
  refine (hnum.out w1).mono ?_
  rintro e w2 ⟨hE2, rfl⟩
  have hnew := hide (new_yes w2.heap.size 0 w2 (by omega) (Nat.le_refl _))
  go_wp2_with fail
  refine hnew.out.mono ?_
  rintro e w3 ⟨d, F, rfl, hS3, hF3, hE3⟩
  have hop := open_any w2.heap.size d ⟨[], 0, 0, false⟩ F 7 w3 hS3 (by omega)
  rw [show ((7 : Nat) : Int) = 7 from rfl] at hop
  replace hop := hide hop
  go_wp2_with fail
  refine hop.out.mono ?_
  rintro e w4 ⟨b, rfl, hw4, hb4, hE4⟩
  rw [aw_name] at hw4
  have ho1 := hide (fun W => one_any 1 W)
  have ho2 := hide (fun W => one_any 2 W)
  go_wp2_with fail
  refine (ho1.out w4).mono ?_
  rintro e w5 ⟨g1, h1, rfl, hv1, hE5⟩
  go_wp2_with fail
  refine (ho2.out w5).mono ?_
  rintro e w6 ⟨g2, h2, rfl, hv2, hE6⟩
  obtain ⟨x1, hx1⟩ : ∃ x1 : BtC, x1 = ⟨1, [⟨⟨5, [⟨[109, 115, 103], [97]⟩]⟩, some ⟨h1, 0, none⟩, 1⟩], some ⟨g1, 0, none⟩, 1⟩ := ⟨_, rfl⟩
  obtain ⟨x2, hx2⟩ : ∃ x2 : BtC, x2 = ⟨2, [⟨⟨5, [⟨[109, 115, 103], [97]⟩]⟩, some ⟨h2, 0, none⟩, 1⟩], some ⟨g2, 0, none⟩, 1⟩ := ⟨_, rfl⟩
  obtain ⟨W7, hW7⟩ : ∃ W7, W7 = w6.alloc (.cells #[.int .i64 1, .slice (some ⟨g1, 0, none⟩) 1 1, .int .i64 2, .slice (some ⟨g2, 0, none⟩) 1 1] 50) := ⟨_, rfl⟩
  have hE7 : Ext w6 W7 := by rw [hW7]; exact (Ext.refl w6).alloc _
  have hr7 : Row W7 w6.heap.size 50 #[.int .i64 1, .slice (some ⟨g1, 0, none⟩) 1 1, .int .i64 2, .slice (some ⟨g2, 0, none⟩) 1 1] := by rw [hW7]; exact Row.new w6 _ _
  have hok1 : x1.Ok W7 := by rw [hx1]; exact ⟨((hv1.ext hE6).ext hE7).ok, by simp, by unfold I64ok'; simp⟩
  have hok2 : x2.Ok W7 := by rw [hx2]; exact ⟨(hv2.ext hE7).ok, by simp, by unfold I64ok'; simp⟩
  have hbs : BsOk W7 (some ⟨w6.heap.size, 0, none⟩) [x1, x2] := ⟨.inr ⟨w6.heap.size, 0, rfl, fun i v hv => by
    rw [Nat.zero_add]
    refine hr7.cell i ?_
    rw [hx1, hx2] at hv
    simpa [bcells, BtC.cells] using hv⟩, fun x hx => by
    rcases List.mem_cons.1 hx with rfl | hx
    · exact hok1
    · rw [List.mem_singleton.1 hx]; exact hok2⟩
  have hmap : [x1, x2].map BtC.bt = [oneB 1, oneB 2] := by rw [hx1, hx2]; rfl
  have hE37 := ((hE4.trans hE5).trans hE6).trans hE7
  have hap := wappend_any w2.heap.size b d 7 ⟨[], 0, 0, false⟩ F awN [x1, x2] (some ⟨w6.heap.size, 0, none⟩) 2 W7 (hw4.ext ((hE5.trans hE6).trans hE7)) (hS3.ext hE37) hbs (fun x hx y hy => by
    rcases List.mem_cons.1 hx with rfl | hx
    · rw [hx1] at hy; rw [List.mem_singleton.1 hy]; unfold I64ok'; simp
    · rw [List.mem_singleton.1 hx, hx2] at hy; rw [List.mem_singleton.1 hy]; unfold I64ok'; simp) (by simp) (by decide) (hE3.trans hE37).size
  rw [hmap, aw_app] at hap
  unfold AppP at hap
  simp only [List.length_cons, List.length_nil, Nat.zero_add, Nat.reduceAdd, show ((2 : Nat) = 0) = False from by simp, if_false] at hap
  rw [aw_append (by have := aw_len; omega)] at hap
  simp only at hap
  replace hap := hide hap
  replace hx1 := hide hx1
  replace hx2 := hide hx2
  replace hW7 := hide hW7
  unfold BtC.val
  go_wp2_with fail
  rw [← hW7.out]
  refine hap.out.mono ?_
  rintro e w8 ⟨wx, hEx, rfl, hN⟩
  go_wp2_with fail
  have hw8 : WrR w8 b d 7 awN := by
    obtain ⟨_, _, hC, _⟩ := hN
    exact hC.row (hw4.ext (((hE5.trans hE6).trans hE7).trans hEx)) (fun hf => by have := hS3.lt hf; omega)
  obtain ⟨F8, hS8, hE28⟩ := hN.ext (hS3.ext (hE37.trans hEx)) ((hE3.trans hE37).trans hEx) (Nat.le_refl _)
  have hrp := replay_any 1000 1000000 (by omega) (by omega) (by omega) w2.heap.size d (awP awB) F8 0 1 w8 hS8 (by unfold I64ok'; simp) (by unfold I64ok'; simp) (by rw [aw_logs]; simp) (fun n hn => by
    rw [aw_logs] at hn
    rw [List.mem_singleton.1 hn, aw_read (by have := aw_len; omega)]
    have := aw_len
    simp only
    omega)
  rw [aw_logs, aw_repl] at hrp
  unfold ReplP at hrp
  simp only at hrp
  replace hrp := hide hrp
  go_wp2_with fail
  refine hrp.out.mono ?_
  rintro e w9 ⟨hE9, l, AL, cl, hl, rfl, hbl⟩
  go_wp2_with fail
  refine (ho1.out w9).mono ?_
  rintro e w10 ⟨g3, h3, rfl, hv3, hE10⟩
  go_wp2_with fail
  refine (ho2.out w10).mono ?_
  rintro e w11 ⟨g4, h4, rfl, hv4, hE11⟩
  obtain ⟨y1, hy1⟩ : ∃ y1 : BtC, y1 = ⟨1, [⟨⟨5, [⟨[109, 115, 103], [97]⟩]⟩, some ⟨h3, 0, none⟩, 1⟩], some ⟨g3, 0, none⟩, 1⟩ := ⟨_, rfl⟩
  obtain ⟨y2, hy2⟩ : ∃ y2 : BtC, y2 = ⟨2, [⟨⟨5, [⟨[109, 115, 103], [97]⟩]⟩, some ⟨h4, 0, none⟩, 1⟩], some ⟨g4, 0, none⟩, 1⟩ := ⟨_, rfl⟩
  obtain ⟨W12, hW12⟩ : ∃ W12, W12 = w11.alloc (.cells #[.int .i64 1, .slice (some ⟨g3, 0, none⟩) 1 1, .int .i64 2, .slice (some ⟨g4, 0, none⟩) 1 1] 50) := ⟨_, rfl⟩
  have hE12 : Ext w11 W12 := by rw [hW12]; exact (Ext.refl w11).alloc _
  have hr12 : Row W12 w11.heap.size 50 #[.int .i64 1, .slice (some ⟨g3, 0, none⟩) 1 1, .int .i64 2, .slice (some ⟨g4, 0, none⟩) 1 1] := by rw [hW12]; exact Row.new w11 _ _
  have hq1 : y1.Ok W12 := by rw [hy1]; exact ⟨((hv3.ext hE11).ext hE12).ok, by simp, by unfold I64ok'; simp⟩
  have hq2 : y2.Ok W12 := by rw [hy2]; exact ⟨(hv4.ext hE12).ok, by simp, by unfold I64ok'; simp⟩
  have hbs2 : BsOk W12 (some ⟨w11.heap.size, 0, none⟩) [y1, y2] := ⟨.inr ⟨w11.heap.size, 0, rfl, fun i v hv => by
    rw [Nat.zero_add]
    refine hr12.cell i ?_
    rw [hy1, hy2] at hv
    simpa [bcells, BtC.cells] using hv⟩, fun x hx => by
    rcases List.mem_cons.1 hx with rfl | hx
    · exact hq1
    · rw [List.mem_singleton.1 hx]; exact hq2⟩
  have hmap2 : [y1, y2].map BtC.bt = [oneB 1, oneB 2] := by rw [hy1, hy2]; rfl
  have hE912 := (hE10.trans hE11).trans hE12
  have hll : l.length = 2 := by have := congrArg List.length hl; simpa using this.symm
  have hsame := samebatches_any l [y1, y2] AL (some ⟨w11.heap.size, 0, none⟩) cl 2 W12 ((hbl.ext hE912).ok) hbs2 (by rw [← hl]; exact hmap2.symm) (by omega)
  rw [hll] at hsame
  simp only [List.length_cons, List.length_nil, Nat.zero_add, Nat.reduceAdd] at hsame
  have hsame := hide hsame
  have hE812 := hE9.trans hE912
  have hnmb := hide (fun W (hE : Ext w8 W) => wnumber_any b d 7 awN W (hw8.ext hE))
  have hszz := fun W (hE : Ext w8 W) => wsize_any w2.heap.size b d 7 (awP awB) F8 awN W (hw8.ext hE) (hS8.ext hE) (by decide)
  simp only [aw_size] at hszz
  have hpos := aw_len.2
  obtain ⟨z, hz⟩ : ∃ z, z = awB.length := ⟨_, rfl⟩
  rw [← hz] at hszz hpos
  replace hszz := hide hszz
  replace hz := hide hz
  have hE2w := hide (hE1.trans (hE2.trans hE28))
  have hposi : (0 : Int) < z := by omega
  replace hW12 := hide hW12
  replace hy1 := hide hy1
  replace hy2 := hide hy2
  unfold BtC.val
  go_wp2_with fail
  rw [← hW12.out]
  refine hsame.out.mono ?_
  rintro e w13 ⟨rfl, hE13⟩
  go_wp2_with fail
  refine (hnmb.out w13 (hE812.trans hE13)).mono ?_
  rintro e w14 ⟨rfl, rfl⟩
  go_wp2_with fail
  refine (hszz.out w14 (hE812.trans hE13)).mono ?_
  rintro e w15 ⟨rfl, hE15⟩
  go_wp2_with fail
  go_ret
  exact ⟨rfl, hE2w.out.trans ((hE812.trans hE13).trans hE15)⟩
end Go.Proofs.Ytohphanbnhiodaa

/- loggialaw15: WalNames. -/
namespace Go.Proofs.Ytohphanbnhiodaa
open Go.RowKit

set_option maxRecDepth 100000 in
set_option maxHeartbeats 4000000 in
theorem walnames_any (n : Int) (s : List UInt8) (w : World) : Calls Try.prog 3 #[.int .i64 n, .string ⟨s.toArray⟩] w fun e w' => e = .returned (.bool true) ∧ Ext w w' := by
  have hnum := hide (fun W => number_any s W)
  have hrnum := hide (fun W => rnumber_any s W)
  obtain ⟨Y, hY⟩ : ∃ Y, Y = numW s := ⟨_, rfl⟩
  rw [← hY] at hnum hrnum
  unfold NumW at hnum hrnum
  have haw := hide (fun W => awake_any W)
  obtain ⟨k, hk⟩ : ∃ k, k = Y.getD 0 := ⟨_, rfl⟩
  obtain ⟨b, hb⟩ : ∃ b, b = Y.isSome := ⟨_, rfl⟩
  rw [← hk, ← hb] at hnum hrnum
  replace hk := hide hk
  replace hb := hide hb
  replace hY := hide hY
  by_cases h : n < 0 ∨ 99999999 < n
  · have hn := hide (fun W => name_no n W h)
    have hrn := hide (fun W => rname_no n W h)
    clear h
    go_enter Try.func3, Try.ntmps3
    go_wp2_with fail
    refine (hn.out w).mono ?_
    rintro e w1 ⟨rfl, rfl⟩
    go_wp2_with fail
    refine (hrn.out w1).mono ?_
    rintro e w2 ⟨rfl, rfl⟩
    go_wp2_with fail
    refine (hnum.out w2).mono ?_
    rintro e w3 ⟨hE3, rfl⟩
    go_wp2_with fail
    refine (hrnum.out w3).mono ?_
    rintro e w4 ⟨hE4, rfl⟩
    go_wp2_with fail
    refine (haw.out w4).mono ?_
    rintro e w5 ⟨rfl, hE5⟩
    go_wp2_with fail
    go_ret
    exact ⟨rfl, (hE3.trans hE4).trans hE5⟩
  · obtain ⟨m, rfl⟩ : ∃ m : Nat, n = m := ⟨n.toNat, by omega⟩
    have hm : m ≤ 99999999 := by omega
    have hn := fun W => name_yes m W hm
    have hrn := fun W => rname_yes m W hm
    have hsn := fun W => number_any (nameW m) W
    rw [numW_name (by omega)] at hsn
    unfold NumW at hsn
    simp only [Option.getD_some, Option.isSome_some] at hsn
    obtain ⟨nm, hnm⟩ : ∃ nm, nm = nameW m := ⟨_, rfl⟩
    rw [← hnm] at hn hrn hsn
    replace hn := hide hn
    replace hrn := hide hrn
    replace hsn := hide hsn
    replace hnm := hide hnm
    clear h
    go_enter Try.func3, Try.ntmps3
    go_wp2_with fail
    refine (hn.out w).mono ?_
    rintro e w1 ⟨rfl, hE1⟩
    go_wp2_with fail
    refine (hrn.out w1).mono ?_
    rintro e w2 ⟨rfl, hE2⟩
    go_wp2_with fail
    refine (hnum.out w2).mono ?_
    rintro e w3 ⟨hE3, rfl⟩
    go_wp2_with fail
    refine (hrnum.out w3).mono ?_
    rintro e w4 ⟨hE4, rfl⟩
    go_wp2_with fail
    refine (hsn.out w4).mono ?_
    rintro e w5 ⟨hE5, rfl⟩
    go_wp2_with fail
    refine (haw.out w5).mono ?_
    rintro e w6 ⟨rfl, hE6⟩
    go_wp2_with fail
    go_ret
    exact ⟨rfl, (((((hE1.trans hE2).trans hE3).trans hE4).trans hE5).trans hE6)⟩
end Go.Proofs.Ytohphanbnhiodaa

/- Bytes that came in, to be read. -/
namespace Go.Proofs.Ytohphanbnhiodaa
open Go.ChangeShapes Go.WideShapes Go.ChangeAt Go.RowKit

set_option maxRecDepth 100000 in
theorem open_in8 {H : Type} {enc : TypeId × Value → H} {w : World} {r : Go.Reach} {base base' : Nat} {t e : TypeId} {fuel : Nat} {a : Option Addr} {len cap : Nat} {x : DataW H × List MemPlace} {spare : Nat → Bool} {held : Bool}
    (ht : Try.prog.underlying t = some (.slice e)) (he : Try.prog.underlying e = some (.int .u8)) (hc : Try.prog.cellsOf e = 1) (hv : Value.okWide Try.prog w r base t (.slice a len cap))
    (h : DataW.trod enc Try.prog w base' spare held fuel t (Value.slice a len cap).cells.toList = some x) : ∃ l, In8 w a len cap l := by
  obtain ⟨l, hl⟩ := open_bytes ht he hc hv h
  refine ⟨l, hl.len, hl.bytes, hl.cap, fun ha => ?_, fun y hy => ?_⟩
  · subst ha
    rcases open_ints ht he hc h with ⟨hcs, _⟩ | ⟨y, m, c, zs, hcs, _⟩
    · simp [Value.cells] at hcs
      exact hcs.2
    · simp [Value.cells] at hcs
  · subst hy
    exact slice_has ht hv
end Go.Proofs.Ytohphanbnhiodaa

/- A beginning of a file, up to where its batches end, tells the same batches. -/
namespace Go.Proofs.Ytohphanbnhiodaa
open Go.RowKit

theorem scan_part : ∀ (k : Nat) (nx : Option Int) (b : List UInt8), b.length ≤ k → (scanM k nx b).2.1 ≤ b.length ∧ ∀ j, (scanM k nx b).2.1 ≤ j → scanM j nx (b.take (scanM k nx b).2.1) = ((scanM k nx b).1, (scanM k nx b).2.1, 0)
  | 0, nx, b, hk => by
    obtain rfl : b = [] := List.eq_nil_of_length_eq_zero (by omega)
    rw [scan_nil]
    exact ⟨Nat.le_refl _, fun j _ => by rw [List.take_nil, scan_nil]⟩
  | k + 1, nx, b, hk => by
    by_cases hb : b = []
    · subst hb
      rw [scan_nil]
      exact ⟨Nat.le_refl _, fun j _ => by rw [List.take_nil, scan_nil]⟩
    have h0 : ∀ e : Nat, scanM (k + 1) nx b = ([], 0, e) → (scanM (k + 1) nx b).2.1 ≤ b.length ∧ ∀ j, (scanM (k + 1) nx b).2.1 ≤ j → scanM j nx (b.take (scanM (k + 1) nx b).2.1) = ((scanM (k + 1) nx b).1, (scanM (k + 1) nx b).2.1, 0) := fun e h => by
      rw [h]
      exact ⟨Nat.zero_le _, fun j _ => by rw [List.take_zero, scan_nil]⟩
    cases hg : getF b with
    | error e => exact h0 e (by rw [scanM, if_neg hb, hg])
    | ok pr =>
      obtain ⟨p, r⟩ := pr
      cases hd : decB p with
      | none =>
        refine h0 150 ?_
        rw [scanM, if_neg hb, hg]
        simp only
        rw [hd]
      | some bt =>
        by_cases hs : okN nx bt.seq
        · obtain ⟨S, hS⟩ : ∃ S, S = scanM k (some (bt.seq + bt.es.length)) r := ⟨_, rfl⟩
          have hz : scanM (k + 1) nx b = (bt :: S.1, b.length - r.length + S.2.1, S.2.2) := by
            rw [scanM, if_neg hb, hg]
            simp only
            rw [hd]
            simp only
            rw [if_pos hs, ← hS]
          obtain ⟨f, hf, hne, hq⟩ := getF_other hg (r.take S.2.1)
          have hll := getF_less hg
          obtain ⟨i1, i2⟩ := scan_part k (some (bt.seq + bt.es.length)) r (by omega)
          rw [← hS] at i1 i2
          rw [hz]
          simp only
          have hl : b.length - r.length = f.length := by rw [hf, List.length_append]; omega
          have hpos := List.length_pos_iff.2 hne
          refine ⟨by rw [hl, hf, List.length_append]; omega, fun j hj => ?_⟩
          rw [hl] at hj ⊢
          have ht : b.take (f.length + S.2.1) = f ++ r.take S.2.1 := by
            conv => lhs; rw [hf]
            rw [List.take_append, List.take_of_length_le (by omega), Nat.add_sub_cancel_left]
          obtain ⟨j', rfl⟩ : ∃ j', j = j' + 1 := ⟨j - 1, by omega⟩
          rw [ht, scanM, if_neg (by simp [hne]), hq]
          simp only
          rw [hd]
          simp only
          rw [if_pos hs, i2 j' (by omega), show (f ++ r.take S.2.1).length - (r.take S.2.1).length = f.length by rw [List.length_append]; omega]
        · refine h0 150 ?_
          rw [scanM, if_neg hb, hg]
          simp only
          rw [hd]
          simp only
          rw [if_neg hs]
end Go.Proofs.Ytohphanbnhiodaa

/- loggialaw15: WalScans. -/
namespace Go.Proofs.Ytohphanbnhiodaa
open Go.RowKit

set_option maxRecDepth 100000 in
set_option maxHeartbeats 4000000 in
theorem walscans_any (A : Option Addr) (N c : Nat) (l : List UInt8) (w : World) (h : In8 w A N c l) : Calls Try.prog 4 #[.slice A N c] w fun e w' => e = .returned (.bool true) ∧ Ext w w' := by
  obtain ⟨m, hm⟩ : ∃ m : Nat, m = min N 5000 := ⟨_, rfl⟩
  have hmin := run_min2 (P := Try.prog) #[3, 3] 3 (x := (N : Int)) (y := 5000) (m := (m : Int)) (by omega)
  obtain ⟨hcut, hb⟩ := h.headk .i64 (k := m) (by omega) (z := (m : Int)) rfl
  have hm5 : m ≤ 5000 := by omega
  obtain ⟨b, hbe⟩ : ∃ b, b = l.take m := ⟨_, rfl⟩
  rw [← hbe] at hb
  have hmb := hb.len
  obtain ⟨hp1, hp2⟩ := scan_part b.length none b (Nat.le_refl _)
  obtain ⟨Z, hZ⟩ : ∃ Z, Z = scanM b.length none b := ⟨_, rfl⟩
  have hs := fun w1 (hE : Ext w w1) => scan_any A m c b w1 (hb.ext hE) (by omega)
  have hrs := fun w1 (hE : Ext w w1) => rscan_any A m c b w1 (hb.ext hE) (by omega)
  rw [← hZ] at hs hrs hp1 hp2
  obtain ⟨Z1, Z2, Z3⟩ := Z
  simp only at hp1 hp2
  have hcut2 := fun w1 (hE : Ext w w1) => (hb.ext hE).headk .i64 (k := Z2) (by omega) (z := (Z2 : Int)) rfl
  have hs2 := fun w1 (hE : Ext w w1) => scan_any A Z2 c (b.take Z2) w1 (hcut2 w1 hE).2 (by omega)
  rw [List.length_take, hp2 _ (by omega)] at hs2
  have haw := hide (fun W => awake_any W)
  have hz5 : Z2 ≤ m := by omega
  have hrun2 := (hcut2 w (Ext.refl w)).1
  replace hs := hide hs
  replace hrs := hide hrs
  replace hs2 := hide hs2
  replace hmb := hide hmb
  replace hm := hide hm
  replace hbe := hide hbe
  replace hZ := hide hZ
  clear hp2 hcut2 hp1
  have hcount : Hid (Z1.length ≤ 5000) := hide (by have := scan_count b.length none b; rw [← hZ.out] at this; simp only at this; have := hmb.out; omega)
  go_enter Try.func4, Try.ntmps4
  go_wp2_with fail
  refine (hs.out w (Ext.refl w)).mono ?_
  rintro e w1 ⟨hE1, l1, A1, c1, h1, rfl, ho1⟩
  go_wp2_with fail
  refine (hrs.out w1 hE1).mono ?_
  rintro e w2 ⟨hE2, l2, A2, c2, h2, rfl, ho2⟩
  simp only at h1 h2
  have e12 : l1.map BtC.bt = l2.map BtC.bt := h1.symm.trans h2
  have hl1 : l1.length ≤ 5000 := by have := hcount.out; rw [h1, List.length_map] at this; exact this
  have hsame := fun w3 (hE : Ext w2 w3) => samebatches_any l1 l2 A1 A2 c1 c2 w3 ((ho1.ext (hE2.trans hE)).ok) ((ho2.ext hE).ok) e12 (by omega)
  obtain ⟨n1, hn1⟩ : ∃ n, n = l1.length := ⟨_, rfl⟩
  obtain ⟨n2, hn2⟩ : ∃ n, n = l2.length := ⟨_, rfl⟩
  rw [← hn1, ← hn2] at hsame
  rw [← hn1, ← hn2]
  replace hsame := hide hsame
  replace hn1 := hide hn1
  replace hn2 := hide hn2
  replace h1 := hide h1
  replace h2 := hide h2
  replace e12 := hide e12
  go_wp2_with fail
  refine (hsame.out w2 (Ext.refl _)).mono ?_
  rintro e w3 ⟨rfl, hE3⟩
  have hE03 := hide ((hE1.trans hE2).trans hE3)
  go_wp2_with fail
  refine (hs2.out w3 hE03.out).mono ?_
  rintro e w4 ⟨hE4, l3, A3, c3, h3, rfl, ho3⟩
  simp only at h3
  have hsame2 := samebatches_any l3 l1 A3 A1 c3 c1 w4 ho3.ok ((ho1.ext ((hE2.trans hE3).trans hE4)).ok) (h3.symm.trans h1.out) (by have := congrArg List.length (h3.symm.trans h1.out); rw [List.length_map, List.length_map] at this; omega)
  obtain ⟨n3, hn3⟩ : ∃ n, n = l3.length := ⟨_, rfl⟩
  rw [← hn1.out, ← hn3] at hsame2
  rw [← hn3]
  replace hsame2 := hide hsame2
  replace hn3 := hide hn3
  replace h3 := hide h3
  go_wp2_with fail
  refine hsame2.out.mono ?_
  rintro e w5 ⟨rfl, hE5⟩
  go_wp2_with fail
  refine (haw.out w5).mono ?_
  rintro e w6 ⟨rfl, hE6⟩
  go_wp2_with fail
  go_ret
  exact ⟨rfl, ((hE03.out.trans hE4).trans hE5).trans hE6⟩
end Go.Proofs.Ytohphanbnhiodaa

/- loggia/disk: a disk that nobody made. -/
namespace Go.Proofs.Ytohphanbnhiodaa
open Go.RowKit Go.Maps

/-- No disk, or one without a map. -/
def Nob (w : World) (o : Option Addr) : Prop := o = none ∨ ∃ d, o = some ⟨d, 0, none⟩ ∧ Row w d 80 #[.map none, .int .i64 0, .int .i64 0, .bool false]
theorem Nob.ext {w w1 : World} {o : Option Addr} (h : Nob w o) (hE : Ext w w1) : Nob w1 o := h.imp id fun ⟨d, h1, h2⟩ => ⟨d, h1, h2.ext hE⟩
theorem map_none (w : World) : (binOp .eql 78 (.map none) (.map none)).run Try.prog w = .ok (.bool true) w := by kernel_rfl
set_option maxRecDepth 100000 in
theorem nob_none (o : Option Addr) (w : World) (h : Nob w o) : Calls Try.prog 39 #[.pointer o] w fun e w' => e = .returned (.bool true) ∧ w' = w := by
  rcases h with rfl | ⟨d, rfl, hr⟩
  · go_enter Try.func39, Try.ntmps39
    go_wp2_with fail
    go_ret
    exact ⟨rfl, rfl⟩
  · have c0 := hr.cell 0 rfl
    have hq := map_none w
    go_enter Try.func39, Try.ntmps39
    go_wp2_with fail
    go_ret
    exact ⟨rfl, rfl⟩
set_option maxRecDepth 100000 in
theorem nob_may (o : Option Addr) (A : Option Addr) (n c : Nat) (w : World) (h : Nob w o) : Calls Try.prog 60 #[.pointer o, .slice A n c] w fun e w' => e = .returned (.int .i64 4) ∧ w' = w := by
  have h0 : ∀ W, Ext w W → Calls Try.prog 39 #[.pointer o] W fun e w' => e = .returned (.bool true) ∧ w' = W := fun W hE => nob_none o W (h.ext hE)
  replace h0 := hide h0
  go_enter Try.func60, Try.ntmps60
  go_wp2_with fail
  refine (h0.out _ (by first | exact Ext.refl _ | exact (Ext.refl _).alloc _ | exact ((Ext.refl _).alloc _).alloc _ | exact (Ext.refl _).drew | exact ((Ext.refl _).alloc _).drew | exact ((Ext.refl _).drew).alloc _)).mono ?_
  rintro e w1 ⟨rfl, rfl⟩
  go_wp2_with fail
  go_ret
  exact ⟨rfl, rfl⟩
set_option maxRecDepth 100000 in
theorem nob_size (o : Option Addr) (s : List UInt8) (w : World) (h : Nob w o) : Calls Try.prog 65 #[.pointer o, str s] w fun e w' => e = .returned (.tuple #[.int .i64 0, .bool false]) ∧ w' = w := by
  unfold str
  have h0 : ∀ W, Ext w W → Calls Try.prog 39 #[.pointer o] W fun e w' => e = .returned (.bool true) ∧ w' = W := fun W hE => nob_none o W (h.ext hE)
  replace h0 := hide h0
  go_enter Try.func65, Try.ntmps65
  go_wp2_with fail
  refine (h0.out _ (by first | exact Ext.refl _ | exact (Ext.refl _).alloc _ | exact ((Ext.refl _).alloc _).alloc _ | exact (Ext.refl _).drew | exact ((Ext.refl _).alloc _).drew | exact ((Ext.refl _).drew).alloc _)).mono ?_
  rintro e w1 ⟨rfl, rfl⟩
  go_wp2_with fail
  go_ret2
  exact ⟨rfl, rfl⟩
set_option maxRecDepth 100000 in
theorem nob_list (o : Option Addr) (w : World) (h : Nob w o) : Calls Try.prog 42 #[.pointer o] w fun e w' => e = .returned (.slice none 0 0) ∧ w' = w := by
  have h0 : ∀ W, Ext w W → Calls Try.prog 39 #[.pointer o] W fun e w' => e = .returned (.bool true) ∧ w' = W := fun W hE => nob_none o W (h.ext hE)
  replace h0 := hide h0
  go_enter Try.func42, Try.ntmps42
  go_wp2_with fail
  refine (h0.out _ (by first | exact Ext.refl _ | exact (Ext.refl _).alloc _ | exact ((Ext.refl _).alloc _).alloc _ | exact (Ext.refl _).drew | exact ((Ext.refl _).alloc _).drew | exact ((Ext.refl _).drew).alloc _)).mono ?_
  rintro e w1 ⟨rfl, rfl⟩
  go_wp2_with fail
  go_ret
  exact ⟨rfl, rfl⟩
set_option maxRecDepth 100000 in
theorem nob_used (o : Option Addr) (w : World) (h : Nob w o) : Calls Try.prog 61 #[.pointer o] w fun e w' => e = .returned (.int .i64 0) ∧ w' = w := by
  have h0 : ∀ W, Ext w W → Calls Try.prog 39 #[.pointer o] W fun e w' => e = .returned (.bool true) ∧ w' = W := fun W hE => nob_none o W (h.ext hE)
  replace h0 := hide h0
  go_enter Try.func61, Try.ntmps61
  go_wp2_with fail
  refine (h0.out _ (by first | exact Ext.refl _ | exact (Ext.refl _).alloc _ | exact ((Ext.refl _).alloc _).alloc _ | exact (Ext.refl _).drew | exact ((Ext.refl _).alloc _).drew | exact ((Ext.refl _).drew).alloc _)).mono ?_
  rintro e w1 ⟨rfl, rfl⟩
  go_wp2_with fail
  go_ret
  exact ⟨rfl, rfl⟩
set_option maxRecDepth 100000 in
theorem nob_restart (o : Option Addr) (A : Option Addr) (n c : Nat) (w : World) (h : Nob w o) : Calls Try.prog 20 #[.pointer o, .slice A n c] w fun e w' => e = .returned (.tuple #[]) ∧ w' = w := by
  have h0 : ∀ W, Ext w W → Calls Try.prog 39 #[.pointer o] W fun e w' => e = .returned (.bool true) ∧ w' = W := fun W hE => nob_none o W (h.ext hE)
  replace h0 := hide h0
  go_enter Try.func20, Try.ntmps20
  go_wp2_with fail
  refine (h0.out _ (by first | exact Ext.refl _ | exact (Ext.refl _).alloc _ | exact ((Ext.refl _).alloc _).alloc _ | exact (Ext.refl _).drew | exact ((Ext.refl _).alloc _).drew | exact ((Ext.refl _).drew).alloc _)).mono ?_
  rintro e w1 ⟨rfl, rfl⟩
  go_wp2_with fail
  refine bodyPost_ret (v := .tuple #[]) (by simp [results, Try.results20, go_sem]) rfl ?_
  exact ⟨rfl, rfl⟩
set_option maxRecDepth 100000 in
theorem nob_append (o : Option Addr) (s : List UInt8) (A : Option Addr) (n c : Nat) (w : World) (h : Nob w o) : Calls Try.prog 37 #[.pointer o, str s, .slice A n c] w fun e w' => e = .returned (.int .i64 4) ∧ Ext w w' := by
  unfold str
  have h0 : ∀ A n c W, Ext w W → Calls Try.prog 60 #[.pointer o, .slice A n c] W fun e w' => e = .returned (.int .i64 4) ∧ w' = W := fun A n c W hE => nob_may o A n c W (h.ext hE)
  replace h0 := hide h0
  go_enter Try.func37, Try.ntmps37
  go_wp2_with fail
  refine (h0.out _ _ _ _ (by first | exact Ext.refl _ | exact (Ext.refl _).alloc _ | exact ((Ext.refl _).alloc _).alloc _ | exact (Ext.refl _).drew | exact ((Ext.refl _).alloc _).drew | exact ((Ext.refl _).drew).alloc _)).mono ?_
  rintro e w1 ⟨rfl, rfl⟩
  go_wp2_with fail
  go_ret
  exact ⟨rfl, by first | exact Ext.refl _ | exact (Ext.refl _).alloc _ | exact ((Ext.refl _).alloc _).drew | exact (Ext.refl _).drew⟩
set_option maxRecDepth 100000 in
theorem nob_read (o : Option Addr) (s : List UInt8) (fr n : Int) (w : World) (h : Nob w o) : Calls Try.prog 38 #[.pointer o, str s, .int .i64 fr, .int .i64 n] w fun e w' => e = .returned (.tuple #[.slice none 0 0, .int .i64 4]) ∧ Ext w w' := by
  unfold str
  have h0 : ∀ A n c W, Ext w W → Calls Try.prog 60 #[.pointer o, .slice A n c] W fun e w' => e = .returned (.int .i64 4) ∧ w' = W := fun A n c W hE => nob_may o A n c W (h.ext hE)
  replace h0 := hide h0
  go_enter Try.func38, Try.ntmps38
  go_wp2_with fail
  refine (h0.out _ _ _ _ (by first | exact Ext.refl _ | exact (Ext.refl _).alloc _ | exact ((Ext.refl _).alloc _).alloc _ | exact (Ext.refl _).drew | exact ((Ext.refl _).alloc _).drew | exact ((Ext.refl _).drew).alloc _)).mono ?_
  rintro e w1 ⟨rfl, rfl⟩
  go_wp2_with fail
  go_ret2
  exact ⟨rfl, by first | exact Ext.refl _ | exact (Ext.refl _).alloc _ | exact ((Ext.refl _).alloc _).drew | exact (Ext.refl _).drew⟩
set_option maxRecDepth 100000 in
set_option maxHeartbeats 2000000 in
theorem nob_writes (o : Option Addr) (s : List UInt8) (ns : List (List UInt8)) (fv : Value) (A : Option Addr) (n c b0 : Nat) (w : World) (hn2 : n ≤ 100) (hb0 : b0 ≤ w.heap.size) (ho : w.ownsRow b0 9 1 (.slice A n c) n (ns.map str))
    (h : ∀ W, Chg (fun i => ∃ a, A = some a ∧ a.block = i) w W → Nob W o) :
    Calls Try.prog 55 #[.pointer o, str s, fv, .slice A n c] w fun e w' => e = .returned (.int .i64 4) ∧ Chg (fun i => ∃ a, A = some a ∧ a.block = i) w w' := by
  unfold str
  have hown : ∀ g, (Value.slice A n c).ownBlock = some g → ∃ a, A = some a ∧ a.block = g := by
    intro g hg
    cases A with
    | none => cases hg
    | some a =>
      refine ⟨a, rfl, ?_⟩
      rcases ho.2 with ⟨h, _⟩ | ⟨g', cap, cur, h, _⟩
      · cases h
      · cases h
        simpa [Value.ownBlock] using hg
  have h0 : ∀ A' n' c' W, Chg (fun i => ∃ a, A = some a ∧ a.block = i) w W → Calls Try.prog 60 #[.pointer o, .slice A' n' c'] W fun e w' => e = .returned (.int .i64 4) ∧ w' = W := fun A' n' c' W hE => nob_may o A' n' c' W (h W hE)
  replace h0 := hide h0
  replace hown := hide hown
  go_enter Try.func55, Try.ntmps55
  go_wp2_with (at_builtin; refine wpList_appN (us := [.string ⟨s.toArray⟩]) elemS ho (.tmp 14) (.tmp 16) rfl rfl rfl rfl (one_of rfl) (by simp; omega) hb0 (fun A1 c1 w3 ho3 hg3 hl3 => ?_))
  have hc3 : Chg (fun i => ∃ a, A = some a ∧ a.block = i) w w3 := Chg.of_grown hg3 fun i _ hi => hown.out i hi
  have hl1 : [Value.string ⟨s.toArray⟩].length = 1 := rfl
  simp only [List.length_singleton] at ho3 ⊢
  clear ho3 hl3 hg3 ho hl1
  replace hc3 := hide hc3
  go_wp2_with fail
  refine (h0.out _ _ _ _ hc3.out).mono ?_
  rintro e w1 ⟨rfl, rfl⟩
  go_wp2_with fail
  go_ret
  exact ⟨rfl, hc3.out⟩
set_option maxRecDepth 100000 in
set_option maxHeartbeats 2000000 in
theorem nob_sync (o : Option Addr) (s : List UInt8) (w : World) (h : Nob w o) : Calls Try.prog 34 #[.pointer o, str s] w fun e w' => e = .returned (.int .i64 4) ∧ Ext w w' := by
  have hw : ∀ fv : Value, Calls Try.prog 55 #[.pointer o, str s, fv, .slice none 0 0] w fun e w' => e = .returned (.int .i64 4) ∧ Chg (fun i => ∃ a, (none : Option Addr) = some a ∧ a.block = i) w w' := fun fv =>
    nob_writes o s [] fv none 0 0 _ w (by omega) (Nat.le_refl _) (World.ownsRow_nil _ _ _ _) fun W hc => (h.ext (Ext.refl w)).ext (hc.ext fun i _ hi => by obtain ⟨a, ha, _⟩ := hi; cases ha)
  have fin : ∀ w1, Chg (fun i => ∃ a, (none : Option Addr) = some a ∧ a.block = i) w w1 → Ext w w1 := fun w1 hc => Ext.trans (Ext.refl w) (hc.ext fun i _ hi => by obtain ⟨a, ha, _⟩ := hi; cases ha)
  unfold str at hw ⊢
  replace hw := hide hw
  replace fin := hide fin
  go_enter Try.func34, Try.ntmps34
  go_wp2_with fail
  refine (hw.out _).mono ?_
  rintro e w1 ⟨rfl, h1⟩
  replace h1 := fin.out w1 h1
  go_wp2_with fail
  go_ret
  exact ⟨rfl, h1⟩
set_option maxRecDepth 100000 in
set_option maxHeartbeats 2000000 in
theorem nob_remove (o : Option Addr) (s : List UInt8) (w : World) (h : Nob w o) : Calls Try.prog 41 #[.pointer o, str s] w fun e w' => e = .returned (.int .i64 4) ∧ Ext w w' := by
  have hw : ∀ fv : Value, Calls Try.prog 55 #[.pointer o, str s, fv, .slice none 0 0] ((w.alloc (.cells #[.pointer o] 41)).alloc (.cells #[str s] 9)) fun e w' => e = .returned (.int .i64 4) ∧ Chg (fun i => ∃ a, (none : Option Addr) = some a ∧ a.block = i) ((w.alloc (.cells #[.pointer o] 41)).alloc (.cells #[str s] 9)) w' := fun fv =>
    nob_writes o s [] fv none 0 0 _ ((w.alloc (.cells #[.pointer o] 41)).alloc (.cells #[str s] 9)) (by omega) (Nat.le_refl _) (World.ownsRow_nil _ _ _ _) fun W hc => (h.ext (((Ext.refl w).alloc _).alloc _)).ext (hc.ext fun i _ hi => by obtain ⟨a, ha, _⟩ := hi; cases ha)
  have fin : ∀ w1, Chg (fun i => ∃ a, (none : Option Addr) = some a ∧ a.block = i) ((w.alloc (.cells #[.pointer o] 41)).alloc (.cells #[str s] 9)) w1 → Ext w w1 := fun w1 hc => Ext.trans (((Ext.refl w).alloc _).alloc _) (hc.ext fun i _ hi => by obtain ⟨a, ha, _⟩ := hi; cases ha)
  unfold str at hw fin ⊢
  replace hw := hide hw
  replace fin := hide fin
  go_enter Try.func41, Try.ntmps41
  go_wp2_with fail
  refine (hw.out _).mono ?_
  rintro e w1 ⟨rfl, h1⟩
  replace h1 := fin.out w1 h1
  go_wp2_with fail
  go_ret
  exact ⟨rfl, h1⟩
end Go.Proofs.Ytohphanbnhiodaa

/- loggia/wal: no disk, and writers that nobody made. -/
namespace Go.Proofs.Ytohphanbnhiodaa
open Go.RowKit Go.Maps

/-- No writer, or one without a disk. -/
def NoW (w : World) (o : Option Addr) : Prop := o = none ∨ ∃ b, o = some ⟨b, 0, none⟩ ∧ Row w b 66 #[.pointer none, .string ⟨#[]⟩, .int .i64 0]
theorem NoW.ext {w w1 : World} {o : Option Addr} (h : NoW w o) (hE : Ext w w1) : NoW w1 o := h.imp id fun ⟨d, h1, h2⟩ => ⟨d, h1, h2.ext hE⟩
set_option maxRecDepth 100000 in
theorem now_none (o : Option Addr) (w : World) (h : NoW w o) : Calls Try.prog 33 #[.pointer o] w fun e w' => e = .returned (.bool true) ∧ w' = w := by
  rcases h with rfl | ⟨d, rfl, hr⟩
  · go_enter Try.func33, Try.ntmps33
    go_wp2_with fail
    go_ret
    exact ⟨rfl, rfl⟩
  · have c0 := Row.cell hr 0 rfl
    go_enter Try.func33, Try.ntmps33
    go_wp2_with fail
    go_ret
    exact ⟨rfl, rfl⟩
set_option maxRecDepth 100000 in
theorem now_append (o : Option Addr) (A : Option Addr) (n c : Nat) (w : World) (h : NoW w o) : Calls Try.prog 18 #[.pointer o, .slice A n c] w fun e w' => e = .returned (.int .i64 4) ∧ w' = w := by
  have h0 := hide (now_none o w h)
  go_enter Try.func18, Try.ntmps18
  go_wp2_with fail
  refine h0.out.mono ?_
  rintro e w1 ⟨rfl, rfl⟩
  go_wp2_with fail
  go_ret
  exact ⟨rfl, rfl⟩
set_option maxRecDepth 100000 in
theorem now_sync (o : Option Addr) (w : World) (h : NoW w o) : Calls Try.prog 17 #[.pointer o] w fun e w' => e = .returned (.int .i64 4) ∧ w' = w := by
  have h0 := hide (now_none o w h)
  go_enter Try.func17, Try.ntmps17
  go_wp2_with fail
  refine h0.out.mono ?_
  rintro e w1 ⟨rfl, rfl⟩
  go_wp2_with fail
  go_ret
  exact ⟨rfl, rfl⟩
set_option maxRecDepth 100000 in
theorem now_number (o : Option Addr) (w : World) (h : NoW w o) : Calls Try.prog 23 #[.pointer o] w fun e w' => e = .returned (.int .i64 0) ∧ w' = w := by
  have h0 := hide (now_none o w h)
  go_enter Try.func23, Try.ntmps23
  go_wp2_with fail
  refine h0.out.mono ?_
  rintro e w1 ⟨rfl, rfl⟩
  go_wp2_with fail
  go_ret
  exact ⟨rfl, rfl⟩
set_option maxRecDepth 100000 in
theorem now_size (o : Option Addr) (w : World) (h : NoW w o) : Calls Try.prog 24 #[.pointer o] w fun e w' => e = .returned (.int .i64 0) ∧ w' = w := by
  have h0 := hide (now_none o w h)
  go_enter Try.func24, Try.ntmps24
  go_wp2_with fail
  refine h0.out.mono ?_
  rintro e w1 ⟨rfl, rfl⟩
  go_wp2_with fail
  go_ret
  exact ⟨rfl, rfl⟩
set_option maxRecDepth 100000 in
theorem nomade (w : World) : Calls Try.prog 32 #[.pointer none] w fun e w' => e = .returned (.bool false) ∧ Ext w w' := by
  have h0 := nob_read none [] 0 0 w (.inl rfl)
  unfold str at h0
  replace h0 := hide h0
  go_enter Try.func32, Try.ntmps32
  go_wp2_with fail
  refine h0.out.mono ?_
  rintro e w1 ⟨rfl, hE⟩
  go_wp2_with fail
  go_ret
  exact ⟨rfl, hE⟩
set_option maxRecDepth 100000 in
theorem noopen (n : Int) (w : World) : Calls Try.prog 16 #[.pointer none, .int .i64 n] w fun e w' => e = .returned (.tuple #[.pointer none, .int .i64 4]) ∧ Ext w w' := by
  have h0 := hide (nomade w)
  go_enter Try.func16, Try.ntmps16
  go_wp2_with fail
  refine h0.out.mono ?_
  rintro e w1 ⟨rfl, hE⟩
  go_wp2_with fail
  go_ret2
  exact ⟨rfl, hE⟩
set_option maxRecDepth 100000 in
theorem noreplay (n m : Int) (w : World) : Calls Try.prog 19 #[.pointer none, .int .i64 n, .int .i64 m] w fun e w' => e = .returned (.tuple #[.slice none 0 0, .int .i64 0, .int .i64 4]) ∧ Ext w w' := by
  have h0 := hide (nomade w)
  go_enter Try.func19, Try.ntmps19
  go_wp2_with fail
  refine h0.out.mono ?_
  rintro e w1 ⟨rfl, hE⟩
  go_wp2_with fail
  go_ret3
  exact ⟨rfl, hE⟩
set_option maxRecDepth 100000 in
theorem notrunc (n : Int) (w : World) : Calls Try.prog 21 #[.pointer none, .int .i64 n] w fun e w' => e = .returned (.tuple #[.int .i64 0, .int .i64 4]) ∧ Ext w w' := by
  have h0 := hide (nomade w)
  go_enter Try.func21, Try.ntmps21
  go_wp2_with fail
  refine h0.out.mono ?_
  rintro e w1 ⟨rfl, hE⟩
  go_wp2_with fail
  go_ret2
  exact ⟨rfl, hE⟩
set_option maxRecDepth 100000 in
theorem nologs (w : World) : Calls Try.prog 22 #[.pointer none] w fun e w' => e = .returned (.slice none 0 0) ∧ Ext w w' := by
  have h0 := hide (nob_list none w (.inl rfl))
  go_enter Try.func22, Try.ntmps22
  go_wp2_with fail
  refine h0.out.mono ?_
  rintro e w1 ⟨rfl, rfl⟩
  go_wp2_with fail
  go_loopw [3, 11] (fun s3 s11 wr => s3 = .slice none 0 0 ∧ s11 = .int .i64 0 ∧ wr = w1) (fun _ _ _ => 0)
  case atStart => exact ⟨rfl, rfl, rfl⟩
  case round =>
    obtain ⟨rfl, rfl, rfl⟩ := hrel
    go_wp2_with fail
    go_ret
    exact ⟨rfl, Ext.refl _⟩
end Go.Proofs.Ytohphanbnhiodaa

/- Events that came in: opening. -/
namespace Go.Proofs.Ytohphanbnhiodaa
open Go.ChangeShapes Go.WideShapes Go.Deep Go.RowKit

section
variable {H : Type} {enc : TypeId × Value → H} {w : World} {base : Nat} {spare : Nat → Bool} {held : Bool}
theorem str_list {s : ByteArray} (h : s.size ≤ maxLen) : Value.string s = strV s.data.toList ∧ s.data.toList.length ≤ 9223372036854775807 := by
  refine ⟨(strV_bytes s).symm, ?_⟩
  unfold maxLen at h
  rw [Array.length_toList]
  exact h
set_option maxRecDepth 100000 in
theorem in_fd {fuel : Nat} {cs : List Value} {y : DataW H × List MemPlace} (hcl : cs.length = 2) (h : DataW.trod enc Try.prog w base spare held fuel 52 cs = some y) :
    ∃ f : Fd, (f.1.length ≤ 9223372036854775807 ∧ f.2.length ≤ 9223372036854775807) ∧ f.cells = cs := by
  obtain ⟨n, one⟩ := in_fields (tys := #[9, 9]) Try.underlying52 (by kernel_rfl) (by kernel_rfl) h
  match cs, hcl with
  | [v0, v1], _ =>
    obtain ⟨z0, h0⟩ := one 0 _ v0 rfl rfl
    obtain ⟨s0, e0, _, w0⟩ := DataW.trod_string Try.underlying9 h0
    obtain rfl : v0 = .string s0 := by simpa using e0
    obtain ⟨z1, h1⟩ := one 1 _ v1 rfl rfl
    obtain ⟨s1, e1, _, w1⟩ := DataW.trod_string Try.underlying9 h1
    obtain rfl : v1 = .string s1 := by simpa using e1
    refine ⟨(s0.data.toList, s1.data.toList), ⟨(str_list w0).2, (str_list w1).2⟩, ?_⟩
    unfold Fd.cells
    rw [(str_list w0).1, (str_list w1).1]
set_option maxRecDepth 100000 in
theorem in_ev {fuel : Nat} {cs : List Value} {y : DataW H × List MemPlace} (hcl : cs.length = 2) (h : DataW.trod enc Try.prog w base spare held fuel 55 cs = some y) :
    ∃ x : EvC, (x.e.Ok w x.A ∧ I64ok' x.e.at_) ∧ x.cells = cs := by
  obtain ⟨n, one⟩ := in_fields (tys := #[3, 53]) Try.underlying55 (by kernel_rfl) (by kernel_rfl) h
  match cs, hcl with
  | [v0, v1], _ =>
    obtain ⟨z0, h0⟩ := one 0 _ v0 rfl rfl
    obtain ⟨k0, e0, _, w0⟩ := DataW.trod_int Try.underlying3 h0
    obtain rfl : v0 = .int .i64 k0 := by simpa using e0
    obtain ⟨z1, h1⟩ := one 1 _ v1 rfl rfl
    obtain ⟨A, c, fs, rfl, hc, _, _, hl, hfs⟩ := in_row_of (cellsA := Fd.cells) Try.underlying53 (by kernel_rfl) (by omega : 0 < 2) (fun _ => rfl) (fun _ _ _ a b => in_fd a b) h1
    exact ⟨⟨⟨k0, fs⟩, A, c⟩, ⟨⟨hc, hl, hfs⟩, wf_i64 w0⟩, rfl⟩
set_option maxRecDepth 100000 in
theorem in_evs {fuel : Nat} {v : Value} {x : DataW H × List MemPlace} (h : DataW.trod enc Try.prog w base spare held fuel 48 [v] = some x) :
    ∃ (A : Option Addr) (c : Nat) (l : List EvC), v = .slice A l.length c ∧ EvsOk w A l ∧ l.length ≤ 9223372036854775807 ∧ ∀ x ∈ l, I64ok' x.e.at_ := by
  obtain ⟨A, c, l, rfl, hc, _, _, hl, hx⟩ := in_row_of (cellsA := EvC.cells) Try.underlying48 (by kernel_rfl) (by omega : 0 < 2) (fun _ => rfl) (fun _ _ _ a b => in_ev a b) h
  exact ⟨A, c, l, rfl, ⟨hc, fun x hx2 => (hx x hx2).1⟩, hl, fun x hx2 => (hx x hx2).2⟩
end
end Go.Proofs.Ytohphanbnhiodaa

/- Batches that came in: opening. -/
namespace Go.Proofs.Ytohphanbnhiodaa
open Go.ChangeShapes Go.WideShapes Go.Deep Go.RowKit

section
variable {H : Type} {enc : TypeId × Value → H} {w : World} {base : Nat} {spare : Nat → Bool} {held : Bool}
set_option maxRecDepth 100000 in
theorem in_batch {fuel : Nat} {cs : List Value} {y : DataW H × List MemPlace} (hcl : cs.length = 2) (h : DataW.trod enc Try.prog w base spare held fuel 50 cs = some y) :
    ∃ x : BtC, (x.Ok w ∧ ∀ e ∈ x.l, I64ok' e.e.at_) ∧ x.cells = cs := by
  obtain ⟨n, one⟩ := in_fields (tys := #[3, 48]) Try.underlying50 (by kernel_rfl) (by kernel_rfl) h
  match cs, hcl with
  | [v0, v1], _ =>
    obtain ⟨z0, h0⟩ := one 0 _ v0 rfl rfl
    obtain ⟨k0, e0, _, w0⟩ := DataW.trod_int Try.underlying3 h0
    obtain rfl : v0 = .int .i64 k0 := by simpa using e0
    obtain ⟨z1, h1⟩ := one 1 _ v1 rfl rfl
    obtain ⟨A, c, l, rfl, hl, hn, hx⟩ := in_evs h1
    exact ⟨⟨k0, l, A, c⟩, ⟨⟨hl, hn, wf_i64 w0⟩, hx⟩, rfl⟩
set_option maxRecDepth 100000 in
theorem in_batches {fuel : Nat} {v : Value} {x : DataW H × List MemPlace} (h : DataW.trod enc Try.prog w base spare held fuel 32 [v] = some x) :
    ∃ (A : Option Addr) (c : Nat) (l : List BtC), v = .slice A l.length c ∧ Cells w A (l.flatMap BtC.cells) ∧ l.length ≤ 9223372036854775807 ∧ ∀ x ∈ l, x.Ok w ∧ ∀ e ∈ x.l, I64ok' e.e.at_ := by
  obtain ⟨A, c, l, rfl, hc, _, _, hl, hx⟩ := in_row_of (cellsA := BtC.cells) Try.underlying32 (by kernel_rfl) (by omega : 0 < 2) (fun _ => rfl) (fun _ _ _ a b => in_batch a b) h
  exact ⟨A, c, l, rfl, hc, hl, hx⟩
end
end Go.Proofs.Ytohphanbnhiodaa

/- loggialaw15: WalNobody. -/
namespace Go.Proofs.Ytohphanbnhiodaa
open Go.RowKit

set_option maxRecDepth 100000 in
set_option maxHeartbeats 4000000 in
theorem walnobody_any (s : Int) (A : Option Addr) (n c : Nat) (k : Int) (w : World) : Calls Try.prog 6 #[.agg #[.int .i64 s, .slice A n c], .int .i64 k] w fun e w' => e = .returned (.bool true) ∧ Ext w w' := by
  have hop := hide (fun W => noopen 1 W)
  have hrp := hide (fun W => noreplay 0 k W)
  have htr := hide (fun W => notrunc k W)
  have hlg := hide (fun W => nologs W)
  have haw := hide (fun W => awake_any W)
  go_enter Try.func6, Try.ntmps6
  obtain ⟨w1, hw1⟩ : ∃ w1, w1 = w.alloc (.cells #[.int .i64 s, .slice A n c] 50) := ⟨_, rfl⟩
  have hE1 : Ext w w1 := by rw [hw1]; exact (Ext.refl w).alloc _
  have hr1 : Row w1 w.heap.size 50 #[.int .i64 s, .slice A n c] := by rw [hw1]; exact Row.new w _ _
  obtain ⟨g, hg⟩ : ∃ g, g = w.heap.size := ⟨_, rfl⟩
  rw [← hg] at hr1
  go_wp2_with fail
  rw [← hw1, ← hg]
  replace hw1 := hide hw1
  replace hg := hide hg
  refine (hop.out w1).mono ?_
  rintro e w2 ⟨rfl, hE2⟩
  go_wp2_with fail
  refine (hrp.out w2).mono ?_
  rintro e w3 ⟨rfl, hE3⟩
  go_wp2_with fail
  refine (htr.out w3).mono ?_
  rintro e w4 ⟨rfl, hE4⟩
  go_wp2_with fail
  refine (hlg.out w4).mono ?_
  rintro e w5 ⟨rfl, hE5⟩
  go_wp2_with fail
  obtain ⟨wp, hwp⟩ : ∃ wp, wp = w5.alloc (.cells #[.pointer none, .string ⟨#[]⟩, .int .i64 0] 66) := ⟨_, rfl⟩
  obtain ⟨wq, hwq⟩ : ∃ wq, wq = wp.alloc (.cells #[.pointer none, .pointer (some ⟨w5.heap.size, 0, none⟩)] 44) := ⟨_, rfl⟩
  have hEp : Ext w5 wp := by rw [hwp]; exact (Ext.refl w5).alloc _
  have hEq : Ext wp wq := by rw [hwq]; exact (Ext.refl wp).alloc _
  have hsz : wp.heap.size = w5.heap.size + 1 := by rw [hwp]; simp
  have hrw : Row wq w5.heap.size 66 #[.pointer none, .string ⟨#[]⟩, .int .i64 0] := (show Row wp _ _ _ by rw [hwp]; exact Row.new w5 _ _).ext hEq
  have hrp : Row wq (w5.heap.size + 1) 44 #[.pointer none, .pointer (some ⟨w5.heap.size, 0, none⟩)] := by rw [hwq, ← hsz]; exact Row.new wp _ _
  rw [← hwp, ← hwq]
  have hE1q := hide (((((hE2.trans hE3).trans hE4).trans hE5).trans hEp).trans hEq)
  have hE05 := hide (hE1.trans hE1q.out)
  have hrb := hide (hr1.ext hE1q.out)
  obtain ⟨p, hp⟩ : ∃ p, p = w5.heap.size := ⟨_, rfl⟩
  rw [← hp] at hrw hrp hwq
  rw [← hp]
  replace hrw := hide hrw
  replace hrp := hide hrp
  clear hwp hwq hp hsz hEp hEq hr1
  go_loopw [64] (fun s64 wr => ∃ i : Nat, s64 = .int .i64 (i : Int) ∧ i ≤ 2 ∧ Hid (Ext wq wr)) (fun s64 _ => 2 - (intOf s64).toNat)
  case atStart => exact ⟨0, rfl, by omega, hide (Ext.refl _)⟩
  case round =>
    obtain ⟨i, rfl, hi, hE⟩ := hrel
    by_cases hi2 : i < 2
    · obtain ⟨o, hno, hcell⟩ : ∃ o, Hid (NoW wr o) ∧ wr.cell? ⟨p + 1, i, none⟩ = some (.pointer o) := by
        rcases Nat.lt_or_ge i 1 with h | h
        · obtain rfl : i = 0 := by omega
          exact ⟨none, hide (.inl rfl), (hrp.out.ext hE.out).cell 0 rfl⟩
        · obtain rfl : i = 1 := by omega
          exact ⟨some ⟨p, 0, none⟩, hide (.inr ⟨p, rfl, hrw.out.ext hE.out⟩), (hrp.out.ext hE.out).cell 1 rfl⟩
      have c0 := (hrb.out.ext hE.out).cell 0 rfl
      have c1 := (hrb.out.ext hE.out).cell 1 rfl
      go_wp2_with fail
      obtain ⟨w7, hw7⟩ : ∃ w7, w7 = wr.alloc (.cells #[.int .i64 s, .slice A n c] 50) := ⟨_, rfl⟩
      have hE7 : Ext wr w7 := by rw [hw7]; exact (Ext.refl wr).alloc _
      rw [← hw7]
      replace hw7 := hide hw7
      have hn7 := hno.out.ext hE7
      refine (now_append o _ _ _ w7 hn7).mono ?_
      rintro e w8 ⟨rfl, rfl⟩
      go_wp2_with fail
      refine (now_sync o w8 hn7).mono ?_
      rintro e w9 ⟨rfl, rfl⟩
      go_wp2_with fail
      refine (now_number o w9 hn7).mono ?_
      rintro e w10 ⟨rfl, rfl⟩
      go_wp2_with fail
      refine (now_size o w10 hn7).mono ?_
      rintro e w11 ⟨rfl, rfl⟩
      go_wp2_with fail
      exact ⟨⟨i + 1, by go_num, by omega, hide (hE.out.trans hE7)⟩, by simp [intOf]; omega⟩
    · obtain rfl : i = 2 := by omega
      go_wp2_with fail
      refine (haw.out wr).mono ?_
      rintro e w6 ⟨rfl, hE6⟩
      go_wp2_with fail
      go_ret
      exact ⟨rfl, (hE05.out.trans hE.out).trans hE6⟩
end Go.Proofs.Ytohphanbnhiodaa

