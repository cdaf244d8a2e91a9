/- Look-ups, rows that are made, iterators; all operations that only read or lay one block. -/
import Derived.Test.YtpfmjagbjdkdcaaGreatDoorAmH
set_option linter.unusedSimpArgs false
set_option linter.unusedVariables false
namespace Go.Proofs.YtpfmjagbjdkdcaaGreatDoor.Am
open Go.Proofs.YtpfmjagbjdkdcaaGreatDoor Go.RowKit

section
variable {P : Program} {base gm : Nat} {f : Ren} {A : AS} {w : World}
def findL (d : TypeDesc) (k : Value) : List (Value × Value × Nat) → Nat → Option (Option (Nat × Value))
  | [], _ => some none
  | e :: es, i => match Instr.sameNow d k e.1 with
    | some true => some (some (i, e.2.1))
    | some false => findL d k es (i + 1)
    | none => none
theorem sameNow_ok {d : TypeDesc} {k e k' e' : Value} {b : Bool} (hk : VR f k k') (he : VR f e e') (h : Instr.sameNow d k e = some b) : Instr.sameNow d k' e' = some b := by
  unfold Instr.sameNow at h
  split at h
  · cases hk; cases he; exact h
  · cases hk; cases he; exact h
  · cases hk; cases he; exact h
  · cases h
theorem findL_ok {d : TypeDesc} {k k' : Value} (hk : VR f k k') : ∀ (es : List (Value × Value × Nat)) (es' : List MapEntry) (i : Nat) (r : Option (Nat × Value)),
    es.length = es'.length → (∀ (j : Nat) e e', es[j]? = some e → es'[j]? = some e' → VR f e.1 e'.key ∧ VR f e.2.1 e'.val ∧ e.2.2 = e'.born) → findL d k es i = some r →
    ∃ r', Instr.findNow d k' es' i = some r' ∧ (match r, r' with | none, none => True | some (a, v), some (b, v') => a = b ∧ VR f v v' | _, _ => False)
  | [], [], i, r, _, _, h => by cases h; exact ⟨none, rfl, trivial⟩
  | [], _ :: _, _, _, hl, _, _ => by simp at hl
  | _ :: _, [], _, _, hl, _, _ => by simp at hl
  | e :: es, e' :: es', i, r, hl, hr, h => by
    have h0 := hr 0 e e' rfl rfl
    rw [findL] at h
    rw [Instr.findNow]
    split at h
    · rename_i hs
      cases h
      rw [sameNow_ok hk h0.1 hs]
      exact ⟨_, rfl, rfl, h0.2.1⟩
    · rename_i hs
      rw [sameNow_ok hk h0.1 hs]
      exact findL_ok hk es es' (i + 1) r (by simpa using hl) (fun j a b ha hb => hr (j + 1) a b (by simpa using ha) (by simpa using hb)) h
    · cases h
def simpleKey : TypeDesc → Bool
  | .int _ | .string | .bool => true
  | _ => false
theorem checkKey_ok {t : TypeId} {d : TypeDesc} (hu : P.underlying t = some d) (hd : simpleKey d = true) (b : Bool) (v : Value) (w : World) : (Instr.checkKey b 10000 t v).run P w = .ok () w := by
  have e : Instr.checkKey b 10000 t v = Instr.checkKey b (9999 + 1) t v := rfl
  rw [e, Instr.checkKey]
  simp only [Sem.run_bind, run_underlying hu, Result.andThen_ok]
  cases d <;> first
    | (cases hd; done)
    | rfl
theorem findKey_ok {t : TypeId} {d : TypeDesc} (hu : P.underlying t = some d) {k' : Value} {es' : List MapEntry} {r' : Option (Nat × Value)} (h : Instr.findNow d k' es' 0 = some r') (w : World) : (Instr.findKey t k' es').run P w = .ok r' w := by
  simp [Instr.findKey, run_underlying hu, h]
def mapA (h : HT AObj) (x : Value) : Option (List (Value × Value × Nat)) :=
  match x with
  | .map none => some []
  | .map (some r) => match h.get r with
    | some (.map es _) => some es
    | _ => none
  | _ => none
def fLookup (P : Program) (h : HT AObj) (t : TypeId) (x k : Value) (ok : Bool) : Option Value :=
  match P.underlying t, mapA h x with
  | some (.map kt et), some es => match P.underlying kt with
    | some d => match simpleKey d, findL d k es 0 with
      | true, some (some (_, v)) => some (if ok then .tuple #[v, .bool true] else v)
      | true, some none => match zeroA P et with
        | some z => some (if ok then .tuple #[z, .bool false] else z)
        | none => none
      | _, _ => none
    | none => none
  | _, _ => none
theorem mapA_ok (hW : WR base gm f A w) {x x' : Value} {es : List (Value × Value × Nat)} (hx : VR f x x') (h : mapA A.h x = some es) :
    ∃ es' : Array MapEntry, es.length = es'.toList.length ∧ (∀ (j : Nat) e e', es[j]? = some e → es'.toList[j]? = some e' → VR f e.1 e'.key ∧ VR f e.2.1 e'.val ∧ e.2.2 = e'.born) ∧
      ((x' = .map none ∧ es' = #[]) ∨ ∃ r c, x' = .map (some r) ∧ w.heap[r]? = some (.map es' c)) := by
  unfold mapA at h
  split at h
  · cases h
    cases hx
    exact ⟨#[], rfl, fun j e e' h => by simp at h, .inl ⟨rfl, rfl⟩⟩
  · split at h
    · rename_i r es c hg
      cases h
      obtain ⟨l, hl, ho⟩ := hW.ob _ _ hg
      cases hx with
      | map hr =>
        rw [hl] at hr
        cases hr
        cases ho with
        | obj hw ho =>
          cases ho with
          | map hs hk => exact ⟨_, by simpa using hs, fun j e e' a b => hk j e e' a (by simpa using b), .inr ⟨_, _, rfl, hw⟩⟩
    · cases h
  · cases h
theorem VR.pair {a a' : Value} (h : VR f a a') (b : Bool) : VR f (.tuple #[a, .bool b]) (.tuple #[a', .bool b]) := .tuple' (.cons h (.cons (.bool b) (.nil f)))
theorem fLookup_ok (hW : WR base gm f A w) {t : TypeId} {x x' k k' v : Value} {ok : Bool} (hx : VR f x x') (hk : VR f k k') (h : fLookup P A.h t x k ok = some v) :
    ∃ v', (Instr.lookup t x' k' ok).run P w = .ok v' w ∧ VR f v v' := by
  unfold fLookup at h
  split at h
  · rename_i kt et es hu hm
    obtain ⟨es', hl, he, hx2⟩ := mapA_ok hW hx hm
    have finS : ∀ (d : TypeDesc) (i' : Nat) (v' : Value), P.underlying kt = some d → simpleKey d = true → Instr.findNow d k' es'.toList 0 = some (some (i', v')) →
        (Instr.lookup t x' k' ok).run P w = .ok (if ok then .tuple #[v', .bool true] else v') w := fun d i' v' hd hs hf => by
      rcases hx2 with ⟨rfl, rfl⟩ | ⟨r, c, rfl, hw⟩
      · simp only [Instr.lookup, Sem.run_bind, run_underlying hu, Result.andThen_ok, Sem.run_pure, checkKey_ok hd hs, findKey_ok hd hf]
      · have hg : (getObj r).run P w = .ok (.map es' c) w := by simp [getObj, Sem.run, hw]
        simp only [Instr.lookup, Sem.run_bind, run_underlying hu, Result.andThen_ok, Sem.run_pure, hg, checkKey_ok hd hs, findKey_ok hd hf]
    have finN : ∀ (d : TypeDesc) (z : Value), P.underlying kt = some d → simpleKey d = true → Instr.findNow d k' es'.toList 0 = some none → (∀ w, (zeroValue et).run P w = .ok z w) →
        (Instr.lookup t x' k' ok).run P w = .ok (if ok then .tuple #[z, .bool false] else z) w := fun d z hd hs hf hz => by
      rcases hx2 with ⟨rfl, rfl⟩ | ⟨r, c, rfl, hw⟩
      · simp only [Instr.lookup, Sem.run_bind, run_underlying hu, Result.andThen_ok, Sem.run_pure, checkKey_ok hd hs, findKey_ok hd hf, hz]
      · have hg : (getObj r).run P w = .ok (.map es' c) w := by simp [getObj, Sem.run, hw]
        simp only [Instr.lookup, Sem.run_bind, run_underlying hu, Result.andThen_ok, Sem.run_pure, hg, checkKey_ok hd hs, findKey_ok hd hf, hz]
    split at h
    · rename_i d hd
      split at h
      · rename_i i v0 hs hf
        obtain ⟨r', hr, hrel⟩ := findL_ok hk es es'.toList 0 _ hl he hf
        cases r' with
        | none => exact hrel.elim
        | some p =>
          obtain ⟨i', v'⟩ := p
          have := finS d _ v' hd hs hr
          cases h
          refine ⟨_, this, ?_⟩
          cases ok
          · exact hrel.2
          · exact hrel.2.pair true
      · rename_i hs hf
        split at h
        · rename_i z hz
          obtain ⟨hz1, hz2⟩ := zeroA_ok hz
          obtain ⟨r', hr, hrel⟩ := findL_ok hk es es'.toList 0 _ hl he hf
          cases r' with
          | some p => exact hrel.elim
          | none =>
            have := finN d z hd hs hr hz1
            cases h
            refine ⟨_, this, ?_⟩
            cases ok
            · exact hz2 f
            · exact (hz2 f).pair false
        · cases h
      · cases h
    · cases h
  · cases h
def fMakeSlice (P : Program) (id : Nat) (t : TypeId) (l c : Value) : Option (Value × Option AObj) :=
  match P.underlying t, l, c with
  | some (.slice e), .int _ (.ofNat l), .int _ (.ofNat c) => match P.info? e, zeroA P e with
    | some i, some z => match Nat.ble l c, Nat.ble c 16777216, Nat.ble i.bytes 16777216, Nat.beq (c * i.size) 0 with
      | true, true, true, false => some (.slice (some ⟨id, 0, none⟩) l c, some (.cells (zerosL z.cells.toList (c * i.size)) e (0, 0) 0))
      | true, true, true, true => some (.slice (some ⟨id, 0, none⟩) l c, some (.cells [] e (0, 0) 0))
      | _, _, _, _ => none
    | _, _ => none
  | _, _, _ => none
theorem wrap_small {c : Nat} (h : c ≤ 16777216) : IntKind.i64.wrap (c : Int) = (c : Int) := by
  have h1 : ((c : Int) % (2 ^ IntKind.i64.bits : Int)) = c := Int.emod_eq_of_lt (by omega) (by simp only [IntKind.bits]; omega)
  unfold IntKind.wrap
  simp only [h1]
  rw [if_neg]
  simp only [IntKind.bits, IntKind.signed]
  simp
  omega
theorem fMakeSlice_ok {id : Nat} (hid : f id = none) {t : TypeId} {l c l' c' v : Value} {ob : Option AObj} (hl : VR f l l') (hc : VR f c c') (h : fMakeSlice P id t l c = some (v, ob)) :
    ∃ v' w', (Instr.makeSlice t l' c').run P w = .ok v' w' ∧ FOut f id w v ob v' w' := by
  unfold fMakeSlice at h
  split at h
  · rename_i e k1 l k2 c hu
    obtain rfl := hl.int_inv
    obtain rfl := hc.int_inv
    split at h
    · rename_i i z hi hz
      obtain ⟨hz1, hz2⟩ := zeroA_ok hz
      have go : l ≤ c → c ≤ 16777216 → i.bytes ≤ 16777216 → ∀ zs : Array Value, (c * i.size = 0 ∧ zs = #[] ∨ c * i.size ≠ 0 ∧ zs = z.cells) →
          (Instr.makeSlice t (.int k1 (.ofNat l)) (.int k2 (.ofNat c))).run P w = .ok (.slice (some ⟨w.heap.size, 0, none⟩) l c) { w with heap := w.heap.push (.cells ((Array.range (c * i.size)).map (fun k => zs[k % zs.size]!)) e) } := fun h1 h2 h3 zs hzs => by
        have e1 : IntKind.i64.wrap (Int.ofNat l) = (l : Int) := wrap_small (by omega)
        have e2 : IntKind.i64.wrap (Int.ofNat c) = (c : Int) := wrap_small h2
        have hbig : ¬ ((i.bytes : Int) * (c : Int) > 2 ^ 48) := by
          have : i.bytes * c ≤ 16777216 * 16777216 := Nat.mul_le_mul h3 h2
          have h4 : ((i.bytes * c : Nat) : Int) ≤ ((16777216 * 16777216 : Nat) : Int) := Int.ofNat_le.2 this
          rw [Int.natCast_mul] at h4
          exact Int.not_lt.2 h4
        have hcond : ¬ ((decide ((c : Int) < 0) || decide ((i.bytes : Int) * (c : Int) > 2 ^ 48)) || decide ((l : Int) < 0) || decide ((l : Int) > (c : Int))) = true := by
          rw [decide_eq_false (by omega), decide_eq_false hbig, decide_eq_false (by omega), decide_eq_false (by omega)]
          decide
        simp only [Instr.makeSlice, Sem.run_bind, run_underlying hu, Result.andThen_ok, asInt, asIntOf, Sem.run_pure, run_typeInfo' hi, e1, e2, if_neg hcond, Int.toNat_natCast, run_sizeOf' hi, run_askRoom]
        rcases hzs with ⟨h0, rfl⟩ | ⟨h0, rfl⟩
        · rw [if_pos h0]
          simp only [Sem.run_bind, Sem.run_pure, Result.andThen_ok, run_newRow]
        · rw [if_neg h0]
          simp only [Sem.run_bind, Sem.run_pure, Result.andThen_ok, run_newRow, hz1]
      split at h
      · rename_i h1 h2 h3 h4
        cases h
        have h4 := beq_f h4
        exact ⟨_, _, go (Nat.le_of_ble_eq_true h1) (Nat.le_of_ble_eq_true h2) (Nat.le_of_ble_eq_true h3) z.cells (.inr ⟨h4, rfl⟩), FOut.new e hid (zerosL_ok hz2 _) (VR.newSlice f id _ l c)⟩
      · rename_i h1 h2 h3 h4
        cases h
        have h4 := beq_t h4
        have h5 : ((Array.range (c * i.size)).map (fun k => (#[] : Array Value)[k % (#[] : Array Value).size]!)).toList = [] := by rw [h4]; simp
        have h6 : LR f [] ((Array.range (c * i.size)).map (fun k => (#[] : Array Value)[k % (#[] : Array Value).size]!)).toList := by rw [h5]; exact .nil f
        exact ⟨_, _, go (Nat.le_of_ble_eq_true h1) (Nat.le_of_ble_eq_true h2) (Nat.le_of_ble_eq_true h3) #[] (.inl ⟨h4, rfl⟩), FOut.new e hid h6 (VR.newSlice f id _ l c)⟩
      · cases h
    · cases h
  · cases h
def fRange (P : Program) (h : HT AObj) (id : Nat) (t : TypeId) (x : Value) : Option (Value × Option AObj) :=
  match P.underlying t, x with
  | some .string, .string s => some (.pointer (some ⟨id, 0, none⟩), some (.siter s 0))
  | some (.map _ _), .map none => some (.pointer (some ⟨id, 0, none⟩), some (.miter none 0 [] 0))
  | some (.map _ _), .map (some m) => match h.get m with
    | some (.map _ c) => some (.pointer (some ⟨id, 0, none⟩), some (.miter (some m) c [] c))
    | _ => none
  | _, _ => none
theorem fRange_ok (hW : WR base gm f A w) {id : Nat} (hid : f id = none) {t : TypeId} {x x' v : Value} {ob : Option AObj} (hx : VR f x x') (h : fRange P A.h id t x = some (v, ob)) :
    ∃ v' w', (Instr.range t x').run P w = .ok v' w' ∧ FOut f id w v ob v' w' := by
  unfold fRange at h
  split at h
  · rename_i s hu
    cases h
    cases hx
    exact ⟨_, _, by simp [Instr.range, run_underlying hu], FOut.obj (.siter s 0) (VR.new f id _)⟩
  · rename_i k e hu
    cases h
    cases hx
    exact ⟨_, _, by simp [Instr.range, run_underlying hu], FOut.obj (.minil 0 [] 0) (VR.new f id _)⟩
  · rename_i k e m hu
    split at h
    · rename_i es c hg
      cases h
      obtain ⟨l, hl, ho⟩ := hW.ob _ _ hg
      cases hx with
      | map hr =>
        rw [hl] at hr
        cases hr
        cases ho with
        | obj hw ho =>
          cases ho with
          | map hs hk =>
            refine ⟨_, _, by simp [Instr.range, run_underlying hu, getObj, Sem.run, hw], FOut.obj (.miter c [] c (Ren.le_put _ hid _ _ hl)) (VR.new f id _)⟩
    · cases h
  · cases h
def findB : List (Value × Value × Nat) → Nat → Option Value
  | [], _ => none
  | e :: es, b => match Nat.beq e.2.2 b with
    | true => some (.tuple #[e.1, e.2.1])
    | false => findB es b
def fEntry (h : HT AObj) (x : Value) : Option Value :=
  match x with
  | .pointer (some ⟨r, 0, none⟩) => match h.get r with
    | some (.miter (some m) _ seen st) => match seen.getLast?, h.get m with
      | some b, some (.map es c) => match Nat.beq c st with
        | true => findB es b
        | false => none
      | _, _ => none
    | _ => none
  | _ => none
theorem findB_ok : ∀ (es : List (Value × Value × Nat)) (es' : List MapEntry) (b : Nat) (v : Value), es.length = es'.length → (∀ (j : Nat) e e', es[j]? = some e → es'[j]? = some e' → VR f e.1 e'.key ∧ VR f e.2.1 e'.val ∧ e.2.2 = e'.born) →
    findB es b = some v → ∃ e', es'.find? (fun e => e.born == b) = some e' ∧ VR f v (.tuple #[e'.key, e'.val])
  | [], _, _, _, _, _, h => by cases h
  | _ :: _, [], _, _, hl, _, _ => by simp at hl
  | e :: es, e' :: es', b, v, hl, hr, h => by
    have h0 := hr 0 e e' rfl rfl
    rw [findB] at h
    split at h
    · rename_i hb
      have hb := beq_t hb
      cases h
      refine ⟨e', by rw [List.find?_cons_of_pos]; rw [← h0.2.2, hb]; simp, .tuple' (.cons h0.1 (.cons h0.2.1 (.nil f)))⟩
    · rename_i hb
      have hb := beq_f hb
      obtain ⟨e2, h1, h2⟩ := findB_ok es es' b v (by simpa using hl) (fun j a c ha hc => hr (j + 1) a c (by simpa using ha) (by simpa using hc)) h
      exact ⟨e2, by rw [List.find?_cons_of_neg (by rw [← h0.2.2]; simpa using hb)]; exact h1, h2⟩
theorem fEntry_ok (hW : WR base gm f A w) {x x' v : Value} (hx : VR f x x') (h : fEntry A.h x = some v) : ∃ v', (Instr.entry x').run P w = .ok v' w ∧ VR f v v' := by
  unfold fEntry at h
  split at h
  · rename_i r
    split at h
    · rename_i m s0 seen st hg
      split at h
      · rename_i b es c hb hm
        split at h
        · rename_i hc
          have hc := beq_t hc
          obtain ⟨l, hl, ho⟩ := hW.ob _ _ hg
          obtain ⟨a', rfl, l2, hl2, rfl⟩ := hx.ptr_inv
          dsimp only at hl2
          rw [hl] at hl2
          cases hl2
          cases ho with
          | obj hw ho =>
            cases ho with
            | miter _ _ _ hm2 =>
              obtain ⟨l3, hl3, ho3⟩ := hW.ob _ _ hm
              rw [hm2] at hl3
              cases hl3
              cases ho3 with
              | obj hw3 ho3 =>
                cases ho3 with
                | map hs hk =>
                  rename_i es'
                  obtain ⟨e', h1, h2⟩ := findB_ok es es'.toList b v (by simpa using hs) (fun j e e' ha hb => hk j e e' ha (by simpa using hb)) h
                  refine ⟨_, ?_, h2⟩
                  have h1' : es'.find? (fun e => e.born == b) = some e' := by rw [← Array.find?_toList]; exact h1
                  have hb' : seen.toArray.back? = some b := by simpa using hb
                  simp [Instr.entry, getObj, Sem.run, hw, hw3, hb', hc, h1']
        · cases h
      · cases h
    · cases h
  · cases h
end
end Go.Proofs.YtpfmjagbjdkdcaaGreatDoor.Am
