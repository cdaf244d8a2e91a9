/- The machine that the kernel runs. -/
import Derived.Test.YtpfmjagbjdkdcaaGreatDoorAmJ
set_option linter.unusedSimpArgs false
set_option linter.unusedVariables false
namespace Go.Proofs.YtpfmjagbjdkdcaaGreatDoor.Am
open Go.Proofs.YtpfmjagbjdkdcaaGreatDoor Go.RowKit

/-! ### Operations that write -/
def put (A : AS) (b : Nat) (o : Option AObj) : AS := ⟨HT.set 64 A.h b o, A.nx⟩
def oneC : Value → Bool
  | .agg _ | .tuple _ => false
  | _ => true
/-- Cells laid at a place. -/
def stC (gm : Nat) (A : AS) (a : Addr) (vs : List Value) : Option AS :=
  match vs, a.spot with
  | [], _ => some A
  | vs, none => match A.h.get a.block with
    | some (.cells cs t fz so) => match Nat.ble gm a.block, Nat.ble (a.off + vs.length) cs.length, Nat.ble fz.2 fz.1 || Nat.ble cs.length fz.1, vs.all oneC with
      | true, true, true, true => some (put A a.block (some (.cells (setL cs a.off vs) t fz so)))
      | _, _, _, _ => none
    | _ => none
  | _, _ => none
def eStore (P : Program) (gm : Nat) (t : TypeId) (x v : Value) (A : AS) : Option (Value × AS) :=
  match x, P.info? t with
  | .pointer (some a), some i => match Nat.beq v.cells.toList.length i.size with
    | true => match stC gm A a v.cells.toList with
      | some A' => some (undef, A')
      | none => none
    | false => none
  | _, _ => none
/-- The cells that append and copy read: so many elements. -/
def srcC (h : HT AObj) (size n : Nat) (x : Value) : Option (List Value) :=
  match x with
  | .slice (some a) m _ => match Nat.beq n 0, Nat.ble n m with
    | true, _ => some []
    | false, true => cellsN h (strip a) (n * size)
    | false, false => none
  | .slice none _ _ => some []
  | .string s => some ((s.data.toList.take n).map fun b => .int .u8 b.toNat)
  | _ => none
def lenA : Value → Option Nat
  | .slice _ n _ => some n
  | .string s => some s.size
  | _ => none
def isIntT (P : Program) (t : TypeId) : Option Bool :=
  match P.underlying t with
  | some (.int _) => some true
  | some _ => some false
  | none => none
/-- What is to come behind: how many elements, and their cells. -/
def newC (P : Program) (h : HT AObj) (e t1 : TypeId) (size : Nat) (x : Value) : Option (Nat × List Value) :=
  match isIntT P t1 with
  | some true => match x, zeroA P e with
    | .int _ (.ofNat m), some z => match Nat.ble m 16777216, Nat.beq z.cells.toList.length size with
      | true, true => some (m, zerosL z.cells.toList (m * size))
      | _, _ => none
    | _, _ => none
  | some false => match lenA x with
    | some m => match srcC h size m x with
      | some cs => some (m, cs)
      | none => none
    | none => none
  | none => none
/-- A row that append has made, of such elements. -/
def softOk (h : HT AObj) (k e size : Nat) : Bool :=
  match h.get k with
  | some (.cells _ t _ so) => Nat.beq t e && Nat.beq so size
  | _ => false
def eAppend (P : Program) (gm : Nat) (ts : Array TypeId) (s x : Value) (A : AS) : Option (Value × AS) :=
  match ts[0]?, ts[1]? with
  | some t0, some t1 => match P.underlying t0, s with
    | some (.slice e), .slice b n c => match P.info? e, zeroA P e with
      | some i, some z => match newC P A.h e t1 i.size x, Nat.ble i.bytes 65536 && Nat.beq z.cells.toList.length i.size, Nat.beq i.size 0 with
        | some (m, cs), true, false => match Nat.ble (n + m) c with
          | true => match b with
            | none => some (.slice none (n + m) c, A)
            | some a => match cs with
              | [] => some (.slice b (n + m) c, A)
              | cs => match Nat.beq c 0, stC gm A ((strip a).add (n * i.size)) cs with
                | false, some A' => some (.slice b (n + m) c, A')
                | _, _ => none
          | false => match srcC A.h i.size n s with
            | some old => match Nat.ble (n + m) 16777216 && Nat.beq cs.length (m * i.size) && Nat.beq old.length (n * i.size) && cs.all oneC, b with
              | true, some ⟨k, _, some _⟩ => match Nat.ble gm k && softOk A.h k e i.size with
                | true => some (.slice (some ⟨A.nx, 0, some 0⟩) (n + m) (n + m), bump ⟨HT.set 64 A.h k none, A.nx⟩ A.nx (some (.cells (old ++ cs) e (0, 0) i.size)))
                | false => none
              | true, _ => some (.slice (some ⟨A.nx, 0, some 0⟩) (n + m) (n + m), bump A A.nx (some (.cells (old ++ cs) e (0, 0) i.size)))
              | false, _ => none
            | none => none
        | _, _, _ => none
      | _, _ => none
    | _, _ => none
  | _, _ => none
def eCopy (P : Program) (gm : Nat) (ts : Array TypeId) (d s : Value) (A : AS) : Option (Value × AS) :=
  match ts[0]? with
  | some t0 => match P.underlying t0, d, lenA s with
    | some (.slice e), .slice b dn _, some sn => match P.info? e with
      | some i => match srcC A.h i.size (Nat.min sn dn) s with
        | some cs => match b with
          | none => some (goInt (Nat.min sn dn), A)
          | some a => match stC gm A (strip a) cs with
            | some A' => some (goInt (Nat.min sn dn), A')
            | none => none
        | none => none
      | none => none
    | _, _, _ => none
  | none => none
/-- Bytes that a text has laid: marked behind their end. -/
def eMark (P : Program) (gm : Nat) (s d : TypeId) (x : Value) (A : AS) : Option (Value × AS) :=
  match P.underlying s, P.underlying d, x with
  | some (.slice _), some (.slice e), .slice (some a) n c => match P.underlying e, A.h.get a.block, Nat.beq s d && Nat.ble gm a.block, a.spot with
    | some (.int .u8), some (.cells cs t (0, 0) 0), true, none => some (.slice (some a) n c, put A a.block (some (.cells cs t (cs.length, cs.length + 1) 0)))
    | _, _, _, _ => none
  | _, _, _ => none
/-- A text that takes the bytes of a row over: nobody uses the row any more. -/
def eText (P : Program) (gm : Nat) (ts : Array TypeId) (x n : Value) (A : AS) : Option (Value × AS) :=
  match ts[0]?, x, n with
  | some t0, .pointer (some a), .int _ (.ofNat (m + 1)) => match P.underlying t0, a.spot, A.h.get a.block with
    | some (.pointer u), none, some (.cells cs t _ _) => match Nat.beq (P.cellsOf t) 1 && Nat.beq (P.underlyingId t) (P.underlyingId u) && Nat.ble (a.off + (m + 1)) cs.length && Nat.ble gm a.block && Nat.ble m 1000000000, bytesOf ((cs.drop a.off).take (m + 1)) with
      | true, some r => some (.string ⟨(r.map fun n => n.toNat.toUInt8).toArray⟩, put A a.block none)
      | _, _ => none
    | _, _, _ => none
  | _, _, _ => none
def modL {α : Type} (g : α → α) : List α → Nat → List α
  | [], _ => []
  | a :: l, 0 => g a :: l
  | a :: l, n + 1 => a :: modL g l n
def eMapUpdate (P : Program) (gm : Nat) (t : TypeId) (m k v : Value) (A : AS) : Option (Value × AS) :=
  match P.underlying t, m with
  | some (.map kt _), .map (some r) => match P.underlying kt, A.h.get r, Nat.ble gm r with
    | some d, some (.map es c), true => match simpleKey d, findL d k es 0 with
      | true, some (some (i, _)) => some (undef, put A r (some (.map (modL (fun e => (k, v, e.2.2)) es i) c)))
      | true, some none => some (undef, put A r (some (.map (es ++ [(k, v, c)]) (c + 1))))
      | _, _ => none
    | _, _, _ => none
  | _, _ => none
def eMapEntry (P : Program) (gm : Nat) (t : TypeId) (m k : Value) (A : AS) : Option (Value × AS) :=
  match P.underlying t, m with
  | some (.map kt et), .map (some r) => match P.underlying kt, A.h.get r, Nat.ble gm r with
    | some d, some (.map es c), true => match simpleKey d, findL d k es 0 with
      | true, some (some (i, v)) => match es[i]? with
        | some e => some (.tuple #[v, goInt e.2.2], put A r (some (.map (modL (fun e => (k, e.2)) es i) c)))
        | none => none
      | true, some none => match zeroA P et with
        | some z => some (.tuple #[z, goInt c], put A r (some (.map (es ++ [(k, z, c)]) (c + 1))))
        | none => none
      | _, _ => none
    | _, _, _ => none
  | _, _ => none
def bornAt : List (Value × Value × Nat) → Nat → Nat → Option Nat
  | [], _, _ => none
  | e :: es, b, i => match Nat.beq e.2.2 b with
    | true => some i
    | false => bornAt es b (i + 1)
def eEntryStore (gm : Nat) (m s v : Value) (A : AS) : Option (Value × AS) :=
  match m, s with
  | .map (some r), .int _ (.ofNat b) => match A.h.get r, Nat.ble gm r with
    | some (.map es c), true => match bornAt es b 0 with
      | some i => some (undef, put A r (some (.map (modL (fun e => (e.1, v, e.2.2)) es i) c)))
      | none => none
    | _, _ => none
  | _, _ => none
/-- The next of an iterator: all that may come. -/
def eNext (gm : Nat) (x : Value) (isS : Bool) (A : AS) : Option (List (Value × AS)) :=
  match x with
  | .pointer (some ⟨r, 0, none⟩) => match A.h.get r, isS, Nat.ble gm r with
    | some (.siter s pos), true, true => match Nat.blt pos s.size with
      | true => some [(.tuple #[.bool true, goInt pos, .int .i32 (Utf8.decode s pos).1], put A r (some (.siter s (pos + (Utf8.decode s pos).2))))]
      | false => some [(.tuple #[.bool false], A)]
    | some (.miter none _ _ _), false, _ => some [(.tuple #[.bool false], A)]
    | some (.miter (some m) since seen last), false, true => match A.h.get m with
      | some (.map es c) => match (seen.isEmpty || Nat.beq c last) && es.all fun e => Nat.blt e.2.2 since && (seen.isEmpty || Nat.blt e.2.2 last) with
        | true => match es.filter fun e => !(seen.contains e.2.2) with
          | [] => some [(.tuple #[.bool false], A)]
          | l => some (l.map fun e => (.tuple #[.bool true, e.1, e.2.1], put A r (some (.miter (some m) since (seen ++ [e.2.2]) c))))
        | false => none
      | _ => none
    | _, _, _ => none
  | _ => none

/-! ### Activations -/
structure Ac where
  t : HT Value
  n : Nat
  d : List Nat
def Ac.put (a : Ac) (dst : Option Tmp) (v : Value) : Ac :=
  match dst with
  | none => a
  | some d => ⟨HT.set 64 a.t d (some v), a.n, a.d⟩
def evA (t : HT Value) : Operand → Value
  | .tmp i => match t.get i with
    | some v => v
    | none => undef
  | .const v => v
  | .global g => .pointer (some ⟨g, 0, none⟩)
  | .func f => .func (.func f) #[] #[]
def opdOk (gm : Nat) (h : HT AObj) : Operand → Bool
  | .const v => noA 60 v
  | .global g => match Nat.blt g gm, h.get g with
    | true, some _ => true
    | _, _ => false
  | _ => true
def dstOk (n : Nat) (o : Oper) : Bool :=
  match o.dst with
  | some d => Nat.blt d n && Nat.blt d 1000000000000
  | none => true
def ofList : List Value → Nat → HT Value → HT Value
  | [], _, t => t
  | v :: l, i, t => ofList l (i + 1) (HT.set 64 t i (some v))
structure St where
  a : Ac
  A : AS
abbrev Kt := Exit → St → Bool
/-- What is told of calls that are not walked. -/
abbrev Orc := FuncId → List Value → AS → Option (Value × AS)
def wantA (t : HT Value) (ops : List Oper) (o : Oper) : Bool :=
  match o.guard with
  | none => true
  | some (j, b) => match ops[j]? with
    | some q => match q.dst with
      | some d => match t.get d with
        | some (.bool c) => c == b
        | _ => false
      | none => false
    | none => false
section
variable (P : Program) (gm : Nat) (orc : Orc)
def resA (t : HT Value) (h : HT AObj) : List ResultVar → Option (List Value)
  | [] => some []
  | .tmp i :: l => match resA t h l with
    | some vs => some (evA t (.tmp i) :: vs)
    | none => none
  | .cell a ty :: l => match evA t (.tmp a) with
    | .pointer (some ad) => match loadA P h ty ad, resA t h l with
      | some v, some vs => some (v :: vs)
      | _, _ => none
    | _ => none
def leaveA (A : AS) : List Nat → Option AS
  | [] => some A
  | d :: ds => match A.h.get d, Nat.ble gm d with
    | some .deferred, true => leaveA (put A d none) ds
    | _, _ => none
abbrev Rec := Option Nat → Code → St → Kt → Bool
def callK (rec : Rec) (g : FuncId) (args : List Value) (A : AS) (k : Value → AS → Bool) : Bool :=
  Nat.blt args.length 1000000 && match orc g args A with
  | some (v, A) => k v A
  | none => match P.funcs[g]? with
    | some fn => match fn.body with
      | some c => rec none c ⟨⟨ofList args 0 .nil, args.length + (fn.ntmps - args.length), []⟩, A⟩ fun e st => match e with
        | .normal | .ret => match leaveA gm st.A st.a.d with
          | some A' => match resA P st.a.t A'.h fn.results.toList with
            | some [v] => k v A'
            | some vs => k (.tuple vs.toArray) A'
            | none => false
          | none => false
        | _ => false
      | none => false
    | none => false
/-- The function that an interface's method is. -/
def methodA (t : TypeId) (name : String) : Option FuncId :=
  match P.info? t with
  | some i => match i.methods.find? (·.name == name), P.underlying t with
    | some m, some d => match m.path.toList, m.func, d with
      | [], some (g, true), .pointer _ => some g
      | [], some (_, false), .pointer _ => none
      | [], some (g, false), _ => some g
      | _, _, _ => none
    | _, _ => none
  | none => none
def setPs : HT Value → Nat → List Tmp → List Value → Option (HT Value)
  | t, _, [], [] => some t
  | t, n, p :: ps, v :: vs => match Nat.blt p n && Nat.blt p 1000000000000 with
    | true => setPs (HT.set 64 t p (some v)) n ps vs
    | false => none
  | _, _, _, _ => none
def yieldK (rec : Rec) (l : Nat) (args : List Value) (A : AS) (k : Value → AS → Bool) : Bool :=
  match A.h.get l, Nat.ble gm l with
  | some (.loop _ _ t n ps as b _), true => match setPs t n ps.toList args with
    | some t' => rec (some l) as ⟨⟨t', n, []⟩, A⟩ fun e st => match e, st.A.h.get l with
      | .normal, some (.loop .ready pe t n ps as b2 d) => rec (some l) b ⟨st.a, put st.A l (some (.loop .busy pe t n ps as b2 d))⟩ fun e st => match st.A.h.get l with
        | some (.loop _ _ t n ps as b d) => match e with
          | .normal => k (.bool true) (put st.A l (some (.loop .ready none t n ps as b d)))
          | .ret => k (.bool false) (put st.A l (some (.loop .done (some .ret) t n ps as b d)))
          | .exit i => k (.bool false) (put st.A l (some (.loop .done (some (.exit i)) t n ps as b d)))
          | .goto i => k (.bool false) (put st.A l (some (.loop .done (some (.goto i)) t n ps as b d)))
          | _ => false
        | _ => false
      | _, _ => false
    | none => false
  | _, _ => false
def oneK (x : Option (Value × AS)) (k : Value → AS → Bool) : Bool :=
  match x with
  | some (v, A) => k v A
  | none => false
def effK (rec : Rec) (ρ : Operand → Value) (o : Oper) (A : AS) (k : Value → AS → Bool) : Bool :=
  match o.op with
  | .store t x v => oneK (eStore P gm t (ρ x) (ρ v) A) k
  | .mapUpdate t m x v | .insert t m x v => oneK (eMapUpdate P gm t (ρ m) (ρ x) (ρ v) A) k
  | .mapEntry t m x => oneK (eMapEntry P gm t (ρ m) (ρ x) A) k
  | .entryStore _ m s v => oneK (eEntryStore gm (ρ m) (ρ s) (ρ v) A) k
  | .next x s => match eNext gm (ρ x) s A with
    | some l => l.all fun p => k p.1 p.2
    | none => false
  | .convert s d x => oneK (eMark P gm s d (ρ x) A) k
  | .call ⟨.builtin .append, args, ts⟩ => match args.toList with
    | [s, x] => oneK (eAppend P gm ts (ρ s) (ρ x) A) k
    | _ => false
  | .call ⟨.builtin .copy, args, ts⟩ => match args.toList with
    | [d, s] => oneK (eCopy P gm ts (ρ d) (ρ s) A) k
    | _ => false
  | .call ⟨.builtin .unsafeString, args, ts⟩ => match args.toList with
    | [x, n] => oneK (eText P gm ts (ρ x) (ρ n) A) k
    | _ => false
  | .call ⟨.value g, args, _⟩ => match ρ g with
    | .func (.func g) first cap => callK P gm orc rec g (first.toList ++ args.toList.map ρ ++ cap.toList) A k
    | .func (.yield l) first _ => yieldK gm rec l (first.toList ++ args.toList.map ρ) A k
    | _ => false
  | .call ⟨.invoke r name, args, _⟩ => match ρ r with
    | .iface t v => match methodA P t name with
      | some g => callK P gm orc rec g (v :: args.toList.map ρ) A k
      | none => false
    | _ => false
  | _ => false
def textK (rec : Rec) (all : List Oper) : List Oper → St → Kt → Bool
  | [], st, k => k .normal st
  | o :: os, st, k => match o.op.operands.toList.all (opdOk gm st.A.h) && dstOk st.a.n o && Nat.blt st.A.nx 1000000000, wantA st.a.t all o with
    | true, true => match flt P (evA st.a.t) o st.A.nx st.A.h with
      | some (v, ob) => textK rec all os ⟨st.a.put o.dst v, bump st.A st.A.nx ob⟩ k
      | none => effK P gm orc rec (evA st.a.t) o st.A fun v A => textK rec all os ⟨st.a.put o.dst v, A⟩ k
    | true, false => textK rec all os ⟨st.a.put o.dst undef, st.A⟩ k
    | false, _ => false
/-! ### Regions whose order Go leaves open -/
def isFlt (o : Oper) : Bool :=
  match o.op with
  | .store .. | .mapUpdate .. | .insert .. | .mapEntry .. | .entryStore .. | .next .. | .ready _ => false
  | .call ⟨.builtin .len, _, _⟩ | .call ⟨.builtin .min, _, _⟩ | .call ⟨.builtin .max, _, _⟩ | .call ⟨.builtin .cap, _, _⟩ => true
  | .call _ => false
  | _ => true
/-- What must come ahead, as a set of bits. -/
def befs : List Oper → List Nat → List Nat
  | [], acc => acc
  | o :: os, acc => befs os (acc ++ [o.after.toList.foldl (fun s e => match Region.binds .any e with
    | true => s ||| 2 ^ e.on ||| acc.getD e.on 0
    | false => s) 0])
def writer : List Oper → Nat → Tmp → Option Nat
  | [], _, _ => none
  | o :: os, i, t => match o.dst with
    | some d => match Nat.beq d t with
      | true => some i
      | false => writer os (i + 1) t
    | none => writer os (i + 1) t
/-- How many of the writing operations stand in a set. -/
def cnt (b : Nat) : List Nat → Nat
  | [] => 0
  | e :: es => match Nat.testBit b e with
    | true => cnt b es + 1
    | false => cnt b es
/-- The first of the writing operations that wants an operation done. -/
def fst (bs : List Nat) (i : Nat) : List Nat → Nat → Nat
  | [], j => j
  | e :: es, j => match Nat.testBit (bs.getD e 0) i with
    | true => j
    | false => fst bs i es (j + 1)
def evD (ops : List Oper) (t0 : HT Value) (V : HT Value) (b : Nat) : Operand → Value
  | .tmp t => match writer ops 0 t with
    | some j => match Nat.testBit b j with
      | true => match V.get j with
        | some v => v
        | none => undef
      | false => evA t0 (.tmp t)
    | none => evA t0 (.tmp t)
  | x => evA t0 x
end
end Go.Proofs.YtpfmjagbjdkdcaaGreatDoor.Am
