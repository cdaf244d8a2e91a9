/- The machine that the kernel runs: regions whose order Go leaves open; code. -/
import Derived.Test.YtpfmjagbjdkdcaaGreatDoorAmK
set_option linter.unusedSimpArgs false
set_option linter.unusedVariables false
namespace Go.Proofs.YtpfmjagbjdkdcaaGreatDoor.Am
open Go.Proofs.YtpfmjagbjdkdcaaGreatDoor Go.RowKit

def veqL (g : Value → Value → Bool) : List Value → List Value → Bool
  | [], [] => true
  | a :: l, b :: m => g a b && veqL g l m
  | _, _ => false
def adEq (a b : Addr) : Bool := Nat.beq a.block b.block && Nat.beq a.off b.off && (match a.spot, b.spot with | none, none => true | some x, some y => Nat.beq x y | _, _ => false)
def veq : Nat → Value → Value → Bool
  | 0, _, _ => false
  | n + 1, x, y => match x, y with
    | .bool a, .bool b => a == b
    | .int k a, .int l b => decide (k = l) && decide (a = b)
    | .string a, .string b => decide (a.data.toList = b.data.toList)
    | .pointer none, .pointer none => true
    | .pointer (some a), .pointer (some b) => adEq a b
    | .slice none n c, .slice none m d => Nat.beq n m && Nat.beq c d
    | .slice (some a) n c, .slice (some b) m d => adEq a b && Nat.beq n m && Nat.beq c d
    | .map none, .map none | .nilFunc, .nilFunc | .nilIface, .nilIface => true
    | .map (some a), .map (some b) => Nat.beq a b
    | .iface t v, .iface u w => Nat.beq t u && veq n v w
    | .agg a, .agg b | .tuple a, .tuple b => veqL (veq n) a.toList b.toList
    | .func (.func g) a c, .func (.func h) b d => Nat.beq g h && veqL (veq n) a.toList b.toList && veqL (veq n) c.toList d.toList
    | _, _ => false
/-- Operations that look at memory. -/
def looks (o : Oper) : Bool :=
  match o.op with
  | .load .. | .slice .. | .lookup .. | .entry _ | .range .. | .convert .. | .call _ => true
  | _ => false
section
variable (P : Program) (gm : Nat) (orc : Orc)
def wantD (V : HT Value) (o : Oper) : Bool :=
  match o.guard with
  | none => true
  | some (j, b) => match V.get j with
    | some (.bool c) => c == b
    | _ => false
def fpass (ops : List Oper) (bs es : List Nat) (t0 : HT Value) (id0 j : Nat) (h : HT AObj) : List Oper → Nat → HT Value → List (Nat × AObj) → Option (HT Value × List (Nat × AObj))
  | [], _, V, O => some (V, O)
  | o :: os, i, V, O => match isFlt o with
    | false => fpass ops bs es t0 id0 j h os (i + 1) V O
    | true => match Nat.beq (cnt (bs.getD i 0) es) j with
      | true => match wantD V o with
        | true => match flt P (evD ops t0 V (bs.getD i 0)) o (id0 + i) h with
          | some (v, none) => fpass ops bs es t0 id0 j h os (i + 1) (HT.set 64 V i (some v)) O
          | some (v, some ob) => fpass ops bs es t0 id0 j h os (i + 1) (HT.set 64 V i (some v)) (O ++ [(i, ob)])
          | none => none
        | false => fpass ops bs es t0 id0 j h os (i + 1) (HT.set 64 V i (some undef)) O
      | false => match Nat.blt (cnt (bs.getD i 0) es) j && Nat.ble j (fst bs i es 0) && looks o && wantD V o with
        | true => match flt P (evD ops t0 V (bs.getD i 0)) o (id0 + i) h, V.get i with
          | some (v, none), some u => match veq 60 v u && O.all (fun p => !(Nat.beq p.1 i)) with
            | true => fpass ops bs es t0 id0 j h os (i + 1) V O
            | false => none
          | _, _ => none
        | false => fpass ops bs es t0 id0 j h os (i + 1) V O
def insAll (bs es : List Nat) (id0 q : Nat) : List (Nat × AObj) → AS → AS
  | [], A => A
  | (i, ob) :: O, A => match Nat.beq (fst bs i es 0) q with
    | true => insAll bs es id0 q O (put A (id0 + i) (some ob))
    | false => insAll bs es id0 q O A
def drawGo (rec : Rec) (ops : List Oper) (bs es0 : List Nat) (t0 : HT Value) (id0 : Nat) : List Nat → Nat → HT Value → List (Nat × AObj) → AS → (HT Value → AS → Bool) → Bool
  | [], q, V, O, A, k => k V (insAll bs es0 id0 q O A)
  | e :: es, q, V, O, A, k => match ops[e]? with
    | some o => match Nat.blt A.nx 1000000000 && wantD V o with
      | true => effK P gm orc rec (evD ops t0 V (bs.getD e 0)) o (insAll bs es0 id0 q O A) fun v A' => match fpass P ops bs es0 t0 id0 (q + 1) A'.h ops 0 (HT.set 64 V e (some v)) O with
        | some (V', O') => drawGo rec ops bs es0 t0 id0 es (q + 1) V' O' A' k
        | none => false
      | false => Nat.blt A.nx 1000000000 && match fpass P ops bs es0 t0 id0 (q + 1) (insAll bs es0 id0 q O A).h ops 0 (HT.set 64 V e (some undef)) O with
        | some (V', O') => drawGo rec ops bs es0 t0 id0 es (q + 1) V' O' (insAll bs es0 id0 q O A) k
        | none => false
    | none => false
def effsOf : List Oper → Nat → List Nat
  | [], _ => []
  | o :: os, i => match isFlt o with
    | true => effsOf os (i + 1)
    | false => i :: effsOf os (i + 1)
/-- The writing operations stand in one order. -/
def inRow (bs : List Nat) : List Nat → Bool
  | e :: f :: es => Nat.testBit (bs.getD f 0) e && inRow bs (f :: es)
  | _ => true
def readsOk (ops : List Oper) (bs : List Nat) (i : Nat) : Operand → Bool
  | .tmp t => match writer ops 0 t with
    | some j => Nat.testBit (bs.getD i 0) j || Nat.testBit (bs.getD j 0) i || Nat.beq i j
    | none => true
  | _ => true
def opOk (ops : List Oper) (bs : List Nat) (n i : Nat) (o : Oper) : Bool :=
  o.op.operands.toList.all (readsOk ops bs i) && dstOk n o &&
  (match o.dst with
    | some d => match writer ops 0 d with
      | some j => Nat.beq i j
      | none => false
    | none => true) &&
  (match o.guard with
    | some (g, _) => Nat.testBit (bs.getD i 0) g && (match ops[g]? with
      | some q => q.dst.isSome
      | none => false)
    | none => true) &&
  o.after.toList.all (fun e => match Region.binds .any e with
    | true => Nat.blt e.on i
    | false => true) &&
  (match o.op with
    | .select .. => false
    | _ => true)
def opsOk (ops : List Oper) (bs : List Nat) (n : Nat) : List Oper → Nat → Bool
  | [], _ => true
  | o :: os, i => opOk ops bs n i o && opsOk ops bs n os (i + 1)
def finT (V : HT Value) : List Oper → Nat → HT Value → HT Value
  | [], _, t => t
  | o :: os, i, t => match o.dst with
    | some d => finT V os (i + 1) (HT.set 64 t d (V.get i))
    | none => finT V os (i + 1) t
def drawK (rec : Rec) (ops : List Oper) (st : St) (k : Kt) : Bool :=
  match opsOk ops (befs ops []) st.a.n ops 0 && inRow (befs ops []) (effsOf ops 0) && Nat.blt st.A.nx 1000000000 && Nat.blt ops.length 1000 && ops.all (fun o => o.op.operands.toList.all (opdOk gm st.A.h)) with
  | true => match fpass P ops (befs ops []) (effsOf ops 0) st.a.t st.A.nx 0 st.A.h ops 0 .nil [] with
    | some (V, O) => drawGo P gm orc rec ops (befs ops []) (effsOf ops 0) st.a.t st.A.nx (effsOf ops 0) 0 V O ⟨st.A.h, st.A.nx + ops.length⟩ fun V A => k .normal ⟨⟨finT V ops 0 st.a.t, st.a.n, st.a.d⟩, A⟩
    | none => false
  | false => false
/-! ### Code -/
def rangeK (rec : Rec) (rd : Option Nat) (g : Operand) (ps : Array Tmp) (as b : Code) (st : St) (k : Kt) : Bool :=
  let fin (l : Nat) (ds : List Nat) (A : AS) : Bool := match A.h.get l with
    | some (.loop s pe t n ps as b d) => match s with
      | .busy => false
      | _ => match pe with
        | none => k .normal ⟨⟨st.a.t, st.a.n, ds⟩, put A l (some (.loop .exhausted none t n ps as b d))⟩
        | some c => rec rd c ⟨⟨st.a.t, st.a.n, ds⟩, put A l (some (.loop .exhausted (some c) t n ps as b d))⟩ k
    | _ => false
  match opdOk gm st.A.h g && Nat.blt (st.A.nx + 1) 1000000000, evA st.a.t g with
  | true, .func (.func gf) first cap => match rd with
    | none => callK P gm orc rec gf (first.toList ++ [.func (.yield (st.A.nx + 1)) #[] #[]] ++ cap.toList)
        ⟨HT.set 64 (HT.set 64 st.A.h st.A.nx (some .deferred)) (st.A.nx + 1) (some (.loop .ready none st.a.t st.a.n ps as b st.A.nx)), st.A.nx + 2⟩
        fun _ A => fin (st.A.nx + 1) (st.A.nx :: st.a.d) A
    | some l0 => match st.A.h.get l0 with
      | some (.loop _ _ _ _ _ _ _ d0) => callK P gm orc rec gf (first.toList ++ [.func (.yield st.A.nx) #[] #[]] ++ cap.toList)
        ⟨HT.set 64 st.A.h st.A.nx (some (.loop .ready none st.a.t st.a.n ps as b d0)), st.A.nx + 1⟩
        fun _ A => fin st.A.nx st.a.d A
      | _ => false
  | _, _ => false
def runK : Nat → Rec
  | 0, _, _, _, _ => false
  | n + 1, rd, c, st, k => match c with
    | .skip | .label _ => k .normal st
    | .region _ ops false => textK P gm orc (runK n) ops.toList ops.toList st k
    | .region _ ops true => drawK P gm orc (runK n) ops.toList st k
    | .seq a b => runK n rd a st fun e st => match e with
      | .normal => runK n rd b st k
      | e => k e st
    | .cond c x y => match opdOk gm st.A.h c, evA st.a.t c with
      | true, .bool true => runK n rd x st k
      | true, .bool false => runK n rd y st k
      | _, _ => false
    | .block id b => runK n rd b st fun e st => match e with
      | .exit i => match Nat.beq i id with
        | true => k .normal st
        | false => k (.exit i) st
      | e => k e st
    | .loop b => runK n rd b st fun e st => match e with
      | .normal => runK n rd (.loop b) st k
      | e => k e st
    | .scope b => runK n rd b st fun e st => match e with
      | .goto _ => false
      | e => k e st
    | .exit id => k (.exit id) st
    | .goto l => k (.goto l) st
    | .ret => k .ret st
    | .rangeFunc g ps as b => rangeK P gm orc (runK n) rd g ps as b st k
    | _ => false
/-- A function without arguments, run from nothing, returns true. -/
def startK (n : Nat) (g : FuncId) (h : HT AObj) (nx : Nat) : Bool := callK P gm orc (runK P gm orc n) g [] ⟨h, nx⟩ fun v _ => match v with
  | .bool b => b
  | _ => false
end
end Go.Proofs.YtpfmjagbjdkdcaaGreatDoor.Am
