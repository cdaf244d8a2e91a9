/- Texts of one proof, joined. -/
import Derived.Orders
import Derived.Tactics
import Derived.KernelRfl
import Derived.Laws.Entries
import Derived.Laws.Sem
import Derived.WalkKit
import Derived.WalkSpells
import Derived.WalkLawsBesides
import Derived.Deep.Draws
import Derived.Maps.AppendAt
import Derived.Test.YtpnlihgcboepeaaGreatRows
import Derived.Laws.BytesArg
import Derived.Deep.QuietTactic
import Derived.BigQuiet
import Derived.Laws.Rows
import Derived.Lib.ConvBytes
import Derived.Laws.BitsAllLaws
set_option linter.unusedSimpArgs false
set_option linter.unusedVariables false
set_option maxRecDepth 100000
set_option maxHeartbeats 16000000
namespace Go.Proofs.YtpnlihgcboepeaaGreat
theorem Ab {α:Sort _} (a:α):∃x,x = a:=⟨a,rfl⟩
open _root_.Go.Proofs.Tryz
variable {a a':Act} {listed:Array Bool} {ops:Array Oper} {cs cs':Array Value} {Q R:Exit → Act → World → Prop} {z:Int} {ms:List Nat} {l s:List UInt8} {news us xs:List Value} {b base c c' g g' i j k m m' n x:Nat} {S:Nat → Prop} {o:Oper} {A:Option Addr} {P:Program} {T e t t':TypeId} {u v:Value} {w w' w0 w1 w2:World}
section
def PureS {α:Type} (P:Program) (s:Sem α):Prop :=
 ∀w x w',s.run P w = .ok x w'->w'=w/\∀w2,s.run P w2 = .ok x w2
def ReadS {α:Type} (P:Program) (s:Sem α):Prop :=
 ∀w x w',s.run P w = .ok x w'->w'=w/\∀w2:World,(∀k,k<w.heap.size->w2.heap[k]? = w.heap[k]?)->s.run P w2 = .ok x w2
def NewS {α:Type} (P:Program) (s:Sem α):Prop :=
 ∀w x w',s.run P w = .ok x w'->∀k,k<w.heap.size->w'.heap[k]? = w.heap[k]?
section sem
variable {α β:Type} {P:Program}
theorem PureS.read {s:Sem α} (h:PureS P s):ReadS P s:=fun w x w' e=>⟨(h w x w' e).1,fun w2 _=>(h w x w' e).2 w2⟩
theorem PureS.ret (a:α):PureS P (Pure.pure a:Sem α):=fun w x w' e=>by
 simp only[Sem.run_pure,Result.ok.injEq]at e;obtain⟨rfl,rfl⟩:=e;exact⟨rfl,fun _=>rfl⟩
theorem PureS.halt (h:Halt):PureS P (Sem.halt h:Sem α):=fun w x w' e=>by simp[Sem.run]at e
theorem PureS.stuck (s:String):PureS P (stuck s:Sem α):=PureS.halt _
theorem PureS.unsupported (s:Unsupported):PureS P (unsupported s:Sem α):=PureS.halt _
theorem PureS.bind {s:Sem α} {f:α->Sem β} (h:PureS P s) (H:∀a,PureS P (f a)):PureS P (s >>= f):=fun w x w' e=>by
 simp only[Sem.run_bind]at e;cases hs:s.run P w with
 | halt q w1=>rw[hs]at e;simp[Result.andThen]at e
 | ok a w1 =>
  rw[hs]at e;obtain⟨rfl,h2⟩:=h _ _ _ hs;obtain⟨rfl,d⟩:=H a _ _ _ e;refine⟨rfl,fun w2=>?_⟩;simp only[Sem.run_bind,h2 w2];exact d w2
theorem ReadS.bind {s:Sem α} {f:α->Sem β} (h:ReadS P s) (Y:∀a,ReadS P (f a)):ReadS P (s >>= f):=fun w x w' e=>by
 simp only[Sem.run_bind]at e;cases hs:s.run P w with
 | halt q w1=>rw[hs]at e;simp[Result.andThen]at e
 | ok a w1 =>
  rw[hs]at e;obtain⟨rfl,h2⟩:=h _ _ _ hs;obtain⟨rfl,H⟩:=Y a _ _ _ e;refine⟨rfl,fun w2 d=>?_⟩;simp only[Sem.run_bind,h2 w2 d];exact H w2 d
theorem NewS.of_read {s:Sem α} (h:ReadS P s):NewS P s:=fun w x w' e k _=>by rw[(h w x w' e).1]
theorem NewS.bind {s:Sem α} {f:α->Sem β} (h:NewS P s) (H:∀w x w',s.run P w = .ok x w'->w.heap.size<=w'.heap.size) (d:∀a,NewS P (f a)):NewS P (s >>= f):=fun w x w' e k hk=>by
 simp only[Sem.run_bind]at e;cases hs:s.run P w with
 | halt q w1=>rw[hs]at e;simp[Result.andThen]at e
 | ok a w1 =>
  rw[hs]at e;have h1:=h _ _ _ hs k hk;have h2:=d a _ _ _ e k (Nat.lt_of_lt_of_le hk (H _ _ _ hs));exact h2.trans h1
theorem PureS.program:PureS P Go.program:=fun w x w' e=>by
 simp only[Go.program,Sem.run,Result.ok.injEq]at e;obtain⟨rfl,rfl⟩:=e;exact⟨rfl,fun _=>rfl⟩
theorem PureS.typeInfo (t:TypeId):PureS P (typeInfo t):=by
 unfold Go.typeInfo;refine .bind .program fun p=>?_;split
 ·exact .ret _
 ·exact .stuck _
theorem PureS.underlying (t:TypeId):PureS P (underlying t):=by
 unfold Go.underlying;refine .bind .program fun p=>?_;split
 ·exact .ret _
 ·exact .stuck _
theorem PureS.sizeOf (t:TypeId):PureS P (Go.sizeOf t):= .bind (.typeInfo _) fun _=> .ret _
theorem PureS.isAgg (t:TypeId):PureS P (Go.isAgg t):=by
 unfold Go.isAgg;refine .bind (.underlying _) fun d=>?_;split <;> exact .ret _
theorem PureS.zeroValue (t:TypeId):PureS P (Go.zeroValue t):=by
 unfold Go.zeroValue;refine .bind (.typeInfo _) fun d=>?_;split
 ·exact .ret _
 ·exact .unsupported _
theorem PureS.part (t:TypeId) (cs:Array Value) (off:Nat):PureS P (Go.part t cs off):=by
 unfold Go.part;refine .bind (.isAgg _) fun d=>?_;split
 ·exact .bind (.sizeOf _) fun _=> .ret _
 ·split
  ·exact .ret _
  ·exact .stuck _
def Dies (P:Program) (s:Sem α):Prop:=∀w x w',s.run P w ≠ .ok x w'
theorem Dies.pure {s:Sem α} (h:Dies P s):PureS P s:=fun w x w' e=>absurd e (h w x w')
theorem Dies.bind {s:Sem α} {f:α->Sem β} (h:∀a,Dies P (f a)):Dies P (s >>= f):=fun w x w' e=>by
 simp only[Sem.run_bind]at e;cases hs:s.run P w with
 | halt q w1=>rw[hs]at e;simp[Result.andThen]at e
 | ok a w1=>rw[hs]at e;exact h a _ _ _ e
theorem Dies.goPanic (v:Value):Dies P (goPanic v:Sem α):=fun w x w' e=>by simp[Go.goPanic]at e
theorem Dies.runtimePanic (r:RuntimeError):Dies P (runtimePanic r:Sem α):=by
 unfold Go.runtimePanic;refine .bind fun p=>?_;cases r with
 | typeAssertion i c a m=>exact .bind fun _=> .bind fun _=> .goPanic _
 | panicNil=>exact .bind fun _=> .bind fun _=> .goPanic _
 | _=>exact .goPanic _
theorem Dies.boundsPanic (k:IntKind) (x y:Int) (c:BoundsCode):Dies P (boundsPanic k x y c:Sem α):=by
 unfold Go.boundsPanic;split
 ·exact .bind fun _=> .runtimePanic _
 ·exact .bind fun _=> .runtimePanic _
theorem PureS.asIntOf (v:Value):PureS P (Go.asIntOf v):=by
 unfold Go.asIntOf;split
 ·exact .ret _
 ·exact .unsupported _
 ·exact .stuck _
theorem PureS.asBool (v:Value):PureS P (Go.asBool v):=by
 unfold Go.asBool;split
 ·exact .ret _
 ·exact .stuck _
theorem PureS.asAgg (v:Value):PureS P (Go.asAgg v):=by
 unfold Go.asAgg;split
 ·exact .ret _
 ·exact .stuck _
theorem PureS.asAddr (v:Value):PureS P (Go.asAddr v):=by
 unfold Go.asAddr;split
 ·exact .ret _
 ·exact(Dies.runtimePanic _).pure
 ·exact .stuck _
theorem PureS.sureAddr (v:Value):PureS P (Instr.sureAddr v):=by
 unfold Instr.sureAddr;split
 ·exact .ret _
 ·exact .stuck _
theorem PureS.sliceBound (x:Value) (y:Nat) (c:BoundsCode):PureS P (Instr.sliceBound x y c):=by
 unfold Instr.sliceBound;refine .bind (.asIntOf _) fun d=>?_;obtain⟨k,i⟩:=d;dsimp only;split
 ·exact .ret _
 ·exact(Dies.boundsPanic _ _ _ _).pure
theorem PureS.sliceBounds (b:Bool) (n c:Nat) (l h m:Option Value):PureS P (Instr.sliceBounds b n c l h m):=by
 unfold Instr.sliceBounds;cases l <;> cases h <;> cases m <;> dsimp only <;>
  (repeat' first | exact .ret _ | exact .stuck _ | exact .sliceBound _ _ _ | refine .bind ?_ fun _=>?_ )
theorem PureS.slice (t:TypeId) (x:Value) (l h m:Option Value):PureS P (Instr.slice t x l h m):=by
 unfold Instr.slice;refine .bind (.underlying _) fun d=>?_;split
 ·split
  ·exact .bind (.stuck _) fun _=> .bind (.sliceBounds _ _ _ _ _ _) fun _=> .ret _
  ·exact .bind (.sliceBounds _ _ _ _ _ _) fun _=> .ret _
 ·exact .bind (.sliceBounds _ _ _ _ _ _) fun _=> .bind (.sizeOf _) fun _=> .ret _
 ·refine .bind (.asAddr _) fun _=> .bind (.underlying _) fun e=>?_;split
  ·exact .bind (.sliceBounds _ _ _ _ _ _) fun _=> .bind (.sizeOf _) fun _=> .ret _
  ·exact .stuck _
 ·exact .stuck _
end sem
section ops
variable {P:Program}
def clsCall (P:Program) (c:Call):Nat :=
 match c.callee with
 | .builtin .len=>match c.argTypes[0]? with
  | some t=>match P.underlying t with
   | some .string=>0
   | some (.slice _)=>0
   | _=>3
  | none=>3
 | .builtin .min=>0
 | .builtin .max=>0
 | _=>3
def cls (P:Program):Op->Nat
 | .move _ | .assign _ | .pick .. | .nilCheck _ | .field .. | .extract .. | .indexAddr .. | .index .. | .slice .. | .unOp .. | .makeInterface .. | .binOp .. | .build .. =>0
 | .fieldAddr s _ f=>match P.underlying s with
  | some (.struct fs)=>match fs[f]? with
   | some fd=>match P.info? fd.type with
    | some i=>if i.size=0 then 3 else 0
    | none=>3
   | none=>3
  | _=>3
 | .convert s d _=>match P.underlying s,P.underlying d with
  | some (.int _),some (.int _)=>0
  | _,_=>3
 | .load .. =>1
 | .alloc _ | .box .. | .buildSlice .. =>2
 | .call c=>clsCall P c
 | _=>3
def twoInts:Value->Value->Bool
 | .int _ _,.int _ _=>true
 | _,_=>false
def chkV (ρ:Operand->Value):Op->Bool
 | .binOp op _ x y _=>match ρ x,ρ y with
  | .int _ _,.int _ _=>true
  | .string _,.string _=>true
  | .bool _,.bool _=>(match op with | .eql | .neq=>true | _=>false)
  | _,_=>false
 | .nilCheck x=>match ρ x with
  | .pointer (some _)=>true
  | _=>false
 | .convert _ _ x=>match ρ x with
  | .int _ _=>true
  | .slice _ _ _=>true
  | .string _=>true
  | _=>false
 | .call c=>match c.callee,c.args.toList with
  | .builtin .min,[x,y]=>twoInts (ρ x) (ρ y)
  | .builtin .max,[x,y]=>twoInts (ρ x) (ρ y)
  | .builtin .min,_=>false
  | .builtin .max,_=>false
  | _,_=>true
 | _=>true
theorem PureS.mapList {α β:Type} {f:α->Sem β} (h:∀x,PureS P (f x)):∀l:List α,PureS P (l.mapM f)
 | []=>by rw[List.mapM_nil];exact .ret _
 | x::l=>by rw[List.mapM_cons];exact .bind (h x) fun _=> .bind (PureS.mapList h l) fun _=> .ret _
theorem PureS.mapArr {α β:Type} {f:α->Sem β} (h:∀x,PureS P (f x)) (a:Array α):PureS P (a.mapM f):=by
 rw[Array.mapM_eq_mapM_toList,map_eq_pure_bind];exact .bind (.mapList h _) fun _=> .ret _
theorem PureS.build (t:TypeId) (ps:Array (Nat×Value)):PureS P (Instr.build t ps):=by
 unfold Instr.build;refine .bind (.zeroValue _) fun z=>?_;refine .bind (.underlying _) fun d=>?_;split
 ·refine .bind (.mapArr (fun f=> .bind (.sizeOf _) fun _=> .ret _) _) fun _=>?_;split
  ·exact .ret _
  ·exact .stuck _
 ·refine .bind (.sizeOf _) fun _=>?_;split
  ·exact .ret _
  ·exact .stuck _
 ·exact .stuck _
theorem PureS.value {s:Sem Value} (h:PureS P s):PureS P (do pure (Next.value (<-s))):= .bind h fun _=> .ret _
theorem PureS.binOp {op : BinOp} {ρ : Operand → Value} {x y : Operand} (h : chkV ρ (.binOp op t x y t') = true) :
    PureS P (do eqGuard op t x y (ρ x) (ρ y); binOp op t (ρ x) (ρ y)) := by
  simp only [chkV] at h
  split at h
  · rename_i H Y
    rw [H, Y]
    refine .bind ?_ fun _ => ?_
    · unfold eqGuard
      cases op <;> exact .ret _
    · unfold Go.binOp
      cases op <;> dsimp only <;> first
        | (unfold Op.shift; split; exact (Dies.runtimePanic _).pure; exact .ret _)
        | (split; exact .stuck _; first | exact .ret _ | (unfold Op.intDiv; split; exact (Dies.runtimePanic _).pure; exact .ret _))
  · rename_i H Y
    rw [H, Y]
    refine .bind ?_ fun _ => ?_
    · unfold eqGuard
      cases op <;> exact .ret _
    · unfold Go.binOp
      cases op <;> dsimp only [Op.stringOp] <;> first
        | exact .ret _
        | exact .stuck _
        | (split; exact .unsupported _; exact .ret _)
  · rename_i H Y
    rw [H, Y]
    refine .bind ?_ fun _ => ?_
    · unfold eqGuard
      cases op <;> exact .ret _
    · cases op
      all_goals first
        | exact Bool.noConfusion h
        | (unfold Go.binOp
           dsimp only
           refine .bind ?_ fun _ => .ret _
           unfold Op.equal Op.maxDepth Op.equalIn
           refine .bind (.underlying _) fun d => ?_
           cases d <;> dsimp only <;> first | exact .ret _ | exact .stuck _ | (split <;> first | exact .ret _ | exact .stuck _))
  · cases h
end ops
section exec
variable {P:Program}
theorem CL {s:Sem Value} {x:Next} (e:(do pure (Next.value (<-s)):Sem Next).run P w = .ok x w'):∃v,x = .value v/\s.run P w = .ok v w':=by
 simp only[Sem.run_bind]at e;cases hs:s.run P w with
 | halt q w1=>rw[hs]at e;simp[Result.andThen]at e
 | ok a w1 =>
  rw[hs]at e;simp only[Result.andThen,Sem.run_pure,Result.ok.injEq]at e;exact⟨a,e.1.symm,by rw[e.2]⟩
theorem PureS.sized {i:TypeInfo} (hi:P.info? t=some i) (w:World):(Go.sizeOf t).run P w = .ok i.size w:=by
 have h:(Go.typeInfo t).run P w = .ok i w:=by
  simp only[Go.typeInfo,Go.program,Sem.run_bind,Sem.run,Result.andThen_ok,hi];rfl
 simp only[Go.sizeOf,Sem.run_bind,h,Result.andThen_ok,Sem.run_pure]
theorem Q3 (ρ:Operand->Value) (o:Oper) (H:cls P o.op=0) (hk:chkV ρ o.op=true):∃s:Sem Value,PureS P s/\((execOp ρ o)=(do pure (Next.value (<-s)):Sem Next)\/∀w,(execOp ρ o).run P w=(do pure (Next.value (<-s)):Sem Next).run P w):=by
 obtain⟨dst,op,type,pos,after,guard⟩:=o;cases op <;> simp only[cls]at H <;> dsimp only at hk
 case move x=>exact⟨pure (ρ x),.ret _,.inl rfl⟩
 case assign x=>exact⟨pure (ρ x),.ret _,.inl rfl⟩
 case pick c a b=>exact⟨do pure (if <-asBool (ρ c) then ρ a else ρ b),.bind (.asBool _) fun _=> .ret _,.inr fun w=>by
  simp only[execOp,Sem.run_bind,Sem.run_pure];cases (asBool (ρ c)).run P w <;> simp[Result.andThen]⟩
 case nilCheck x =>
  simp only[chkV]at hk;split at hk
  ·rename_i a Y;exact⟨pure (.pointer (some a)),.ret _,.inr fun w=>by simp[execOp,Y]⟩
  ·cases hk
 case binOp bop t x y t'=>exact⟨_,PureS.binOp hk,.inl rfl⟩
 case unOp u t x =>
  refine⟨Op.unary u (ρ x),?_,.inl rfl⟩;unfold Op.unary;split <;> first | exact .ret _ | exact .stuck _ | exact .unsupported _
 case convert s d x =>
  refine⟨Go.convert s d (ρ x),?_,.inl rfl⟩;split at H
  ·rename_i k1 k2 hs hd;simp only[chkV]at hk;split at hk
   ·rename_i kk n Y;rw[Y];intro w y w' e;simp only[Go.convert,Sem.run_bind,run_underlying hs,run_underlying hd,Result.andThen_ok,Conv.intToInt,Sem.run_pure,Result.ok.injEq]at e;obtain⟨rfl,rfl⟩:=e;exact⟨rfl,fun _=>by simp only[Go.convert,Sem.run_bind,run_underlying hs,run_underlying hd,Result.andThen_ok,Conv.intToInt,Sem.run_pure]⟩
   ·rename_i Y;rw[Y];intro w y w' e;simp only[Go.convert,Sem.run_bind,run_underlying hs,run_underlying hd,Result.andThen_ok]at e;exact absurd e (by simp[unsupported,Sem.run])
   ·rename_i Y;rw[Y];intro w y w' e;simp only[Go.convert,Sem.run_bind,run_underlying hs,run_underlying hd,Result.andThen_ok]at e;exact absurd e (by simp[unsupported,Sem.run])
   ·cases hk
  ·cases H
 case build t ps=>exact⟨Instr.build t (ps.map fun(i,x)=>(i,ρ x)),.build _ _,.inl rfl⟩
 case makeInterface t x =>
  refine⟨Instr.makeInterface t (ρ x),?_,.inl rfl⟩;unfold Instr.makeInterface;refine .bind (.underlying _) fun d=>?_;split
  ·exact .stuck _
  ·exact .ret _
 case slice t x l h m =>
  refine⟨Instr.sliceAt t (ρ x) (l.map ρ) (h.map ρ) (m.map ρ),?_,.inl rfl⟩;unfold Instr.sliceAt;refine .bind (.underlying _) fun d=>?_;split
  ·exact .bind (.sureAddr _) fun _=> .bind (.sliceBounds _ _ _ _ _ _) fun _=> .bind (.sizeOf _) fun _=> .ret _
  ·exact .slice _ _ _ _ _
 case fieldAddr t x f =>
  refine⟨Instr.fieldAt t (ρ x) f,?_,.inl rfl⟩;split at H
  ·rename_i fs hs;split at H
   ·rename_i fd hf;split at H
    ·rename_i i hi;split at H
     ·cases H
     ·rename_i J;unfold Instr.fieldAt;intro w y w' e;simp only[Sem.run_bind,run_underlying hs,Result.andThen_ok,hf]at e ⊢;cases O:(Instr.sureAddr (ρ x)).run P w with
      | halt q w1=>rw[O]at e;simp[Result.andThen]at e
      | ok a w1 =>
       obtain⟨rfl,Z⟩:=PureS.sureAddr (P:=P) (ρ x) _ _ _ O;rw[O]at e;simp only[Result.andThen_ok,fieldPlace,Sem.run_bind,PureS.sized hi,J,if_false,Sem.run_pure,Result.ok.injEq]at e;obtain⟨rfl,rfl⟩:=e;refine⟨rfl,fun w2=>?_⟩;rw[Z w2];simp only[Result.andThen_ok,fieldPlace,Sem.run_bind,PureS.sized hi,J,if_false,Sem.run_pure]
    ·cases H
   ·cases H
  ·cases H
 case field t x f =>
  refine⟨Instr.field t (ρ x) f,?_,.inl rfl⟩;unfold Instr.field;refine .bind (.underlying _) fun d=>?_;split
  ·split
   ·exact .bind (.asAgg _) fun _=> .part _ _ _
   ·exact .stuck _
  ·exact .stuck _
 case indexAddr t x i =>
  refine⟨Instr.indexAt t (ρ x) (ρ i),?_,.inl rfl⟩;unfold Instr.indexAt;refine .bind (.asIntOf _) fun d=>?_;obtain⟨k,n⟩:=d
  repeat' (first | exact .ret _ | exact .stuck _ | exact .unsupported _ | exact(Dies.boundsPanic _ _ _ _).pure | exact .sureAddr _ | exact .underlying _ | exact .sizeOf _ | split | dsimp only | refine .bind ?_ fun _=>?_)
 case index t x i =>
  refine⟨Instr.index t (ρ x) (ρ i),?_,.inl rfl⟩;unfold Instr.index;refine .bind (.asIntOf _) fun d=>?_;obtain⟨k,n⟩:=d;refine .bind (.underlying _) fun d=>?_;split
  ·split
   ·exact .bind (.sizeOf _) fun _=> .part _ _ _
   ·exact(Dies.boundsPanic _ _ _ _).pure
  ·split
   ·exact .ret _
   ·exact(Dies.boundsPanic _ _ _ _).pure
  ·exact .stuck _
 case extract x i =>
  refine⟨Instr.extract (ρ x) i,?_,.inl rfl⟩;unfold Instr.extract;split
  ·split
   ·exact .ret _
   ·exact .stuck _
  ·exact .stuck _
 case call c =>
  obtain⟨callee,args,argTypes⟩:=c;simp only[clsCall]at H;split at H
  ·rename_i hb;split at H
   ·rename_i t ht;refine⟨Builtin.len_ argTypes type (args.map ρ),?_,.inr fun w=>by simp[execOp,resolve,invoke,builtin]⟩;have I:argTypes[0]? = some t:=ht;unfold Builtin.len_;rw[I];cases h0:(args.map ρ)[0]? with
    | none=>exact .stuck _
    | some x =>
     dsimp only;intro w y w' e;split at H
     ·rename_i hu;simp only[Sem.run_bind,run_underlying hu,Result.andThen_ok]at e ⊢;cases x <;> simp only[Sem.run_pure,Result.ok.injEq,Go.stuck,Sem.run,reduceCtorEq]at e;obtain⟨rfl,rfl⟩:=e;exact⟨rfl,fun _=>by simp only[Sem.run_pure]⟩
     ·rename_i hu;simp only[Sem.run_bind,run_underlying hu,Result.andThen_ok]at e ⊢;cases x <;> simp only[Sem.run_pure,Result.ok.injEq,Go.stuck,Sem.run,reduceCtorEq]at e;obtain⟨rfl,rfl⟩:=e;exact⟨rfl,fun _=>by simp only[Sem.run_pure]⟩
     ·cases H
   ·cases H
  ·rename_i hb;refine⟨Builtin.min_ argTypes type (args.map ρ),?_,.inr fun w=>by simp[execOp,resolve,invoke,builtin]⟩;unfold chkV at hk;unfold Builtin.min_;rw[Array.toList_map];rcases G:args.toList with _ | ⟨x,_ | ⟨y,_ | ⟨z,l⟩⟩⟩ <;> simp only[G]at hk
   ·cases hk
   ·cases hk
   ·cases Y:ρ x <;> cases U:ρ y <;> rw[Y,U]at hk <;> first | cases hk | skip
    simp only[List.map_cons,List.map_nil,Y,U,List.foldlM];refine .bind ?_ fun _=> .ret _;unfold Builtin.min2;exact .ret _
   ·cases hk
  ·rename_i hb;refine⟨Builtin.max_ argTypes type (args.map ρ),?_,.inr fun w=>by simp[execOp,resolve,invoke,builtin]⟩;unfold chkV at hk;unfold Builtin.max_;rw[Array.toList_map];rcases G:args.toList with _ | ⟨x,_ | ⟨y,_ | ⟨z,l⟩⟩⟩ <;> simp only[G]at hk
   ·cases hk
   ·cases hk
   ·cases Y:ρ x <;> cases U:ρ y <;> rw[Y,U]at hk <;> first | cases hk | skip
    simp only[List.map_cons,List.map_nil,Y,U,List.foldlM];refine .bind ?_ fun _=> .ret _;unfold Builtin.max2;exact .ret _
   ·cases hk
  ·cases H
 all_goals (first | cases H | (split at H <;> cases H))
theorem N7 {ρ:Operand->Value} (H:cls P o.op=0) (hk:chkV ρ o.op=true) {x:Next} (e:(execOp ρ o).run P w = .ok x w') :
 ∃v,x = .value v/\w'=w/\∀w2,(execOp ρ o).run P w2 = .ok (.value v) w2:=by
 obtain⟨s,hs,h⟩:=Q3 (P:=P) ρ o H hk;have d:∀w,(execOp ρ o).run P w=(do pure (Next.value (<-s)):Sem Next).run P w:=by
  rcases h with h | h
  ·intro w;rw[h]
  ·exact h
 rw[d]at e;obtain⟨v,rfl,Y⟩:=CL e;obtain⟨rfl,h2⟩:=hs _ _ _ Y;exact⟨v,rfl,rfl,fun w2=>by rw[d];simp only[Sem.run_bind,h2 w2,Result.andThen_ok,Sem.run_pure]⟩
theorem Np {a:Addr} (h:w.cell? a=some v) (H:∀k,k<w.heap.size->w2.heap[k]? = w.heap[k]?):w2.cell? a=some v:=by
 have d:a.block<w.heap.size:=by
  unfold World.cell? at h;rcases Nat.lt_or_ge a.block w.heap.size with h1 | h1
  ·exact h1
  ·rw[Array.getElem?_eq_none h1]at h;cases h
 unfold World.cell? at h ⊢;rw[H _ d];exact h
theorem P7 {p:Program} {at_ k:Addr} {u:TypeId} {b:Bool} {r:Array Value×TypeId×(Nat×Nat)×Nat×Value×List (Nat×Nat×List UInt8)}
 (h:w.seen p at_ u k b = .ok r) (d:∀k,k<w.heap.size->w2.heap[k]? = w.heap[k]?):w2.seen p at_ u k b = .ok r:=by
 rcases Nat.lt_or_ge at_.block w.heap.size with h1 | h1
 ·unfold World.seen at h ⊢;rw[d _ h1];exact h
 ·exfalso;unfold World.seen at h;rw[Array.getElem?_eq_none h1]at h
  revert h
  dsimp only[Bind.bind,Except.bind,throw,throwThe,MonadExceptOf.throw,Pure.pure,Except.pure]
  repeat' split
  all_goals (intro h;cases h)
theorem Ka {p:Program} {a:Addr} {b:Bool} {r:Value×List Addr} (Y:w.cell? a=none) (h:w.farLoad p a b = .ok r)
 (H:∀k,k<w.heap.size->w2.heap[k]? = w.heap[k]?):w2.cell? a=none/\w2.farLoad p a b = .ok r:=by
 rcases Nat.lt_or_ge a.block w.heap.size with h1 | h1
 ·refine⟨by unfold World.cell? at Y ⊢;rw[H _ h1];exact Y,?_⟩;unfold World.farLoad at h ⊢;rw[H _ h1];split at h
  ·rename_i at_ u J;split at h
   ·rename_i r' d;cases h;have:w2.viewLoad p at_ u a b = .ok r:=by
     unfold World.viewLoad at d ⊢;cases hs:w.seen p at_ u a b with
     | error e=>rw[hs]at d;cases d
     | ok q=>rw[hs]at d;rw[P7 hs H];exact d
    simp only[this]
   ·cases h
  ·cases h
 ·exfalso;unfold World.farLoad at h;rw[Array.getElem?_eq_none h1]at h;cases h
theorem ReadS.load (a:Addr) (m:Mode):ReadS P (Go.load a m):=fun w x w' e=>by
 simp only[Go.load,Sem.run]at e ⊢;cases h:w.cell? a with
 | some v =>
  simp only[h,Result.ok.injEq]at e;obtain⟨rfl,rfl⟩:=e;exact⟨rfl,fun w2 H=>by simp only[Np h H]⟩
 | none =>
  simp only[h]at e;cases d:w.farLoad P a (m == .atomic)with
  | error q=>rw[d]at e;simp at e
  | ok r =>
   rw[d]at e;simp only[Result.ok.injEq]at e;obtain⟨rfl,rfl⟩:=e;refine⟨rfl,fun w2 H=>?_⟩;obtain⟨h1,h2⟩:=Ka h d H;simp only[h1,h2]
theorem ReadS.loadCellsFrom (a:Addr):∀(n i:Nat) (acc:Array Value),ReadS P (Go.loadCellsFrom a i n acc)
 | 0,_,acc=>(PureS.ret acc).read
 | n+1,i,acc=>by
  unfold Go.loadCellsFrom;exact .bind (.load _ _) fun v=>ReadS.loadCellsFrom a n (i+1) _
theorem ReadS.loadVar (t:TypeId) (a:Addr):ReadS P (Go.loadVar t a):=by
 unfold Go.loadVar;refine .bind (PureS.isAgg _).read fun b=>?_;split
 ·exact .bind (PureS.sizeOf _).read fun n=> .bind (.loadCellsFrom _ _ _ _) fun _=>(PureS.ret _).read
 ·exact .load _ _
theorem IU {ρ:Operand->Value} (h:cls P o.op=1) {x:Next} (e:(execOp ρ o).run P w = .ok x w') :
 ∃v,x = .value v/\w'=w/\∀w2:World,(∀k,k<w.heap.size->w2.heap[k]? = w.heap[k]?)->(execOp ρ o).run P w2 = .ok (.value v) w2:=by
 obtain⟨dst,op,type,pos,after,guard⟩:=o;cases op <;> simp only[cls]at h
 case load t a =>
  have hs:ReadS P (Instr.loadAt t (ρ a)):=by
   unfold Instr.loadAt;exact .bind (PureS.sureAddr _).read fun _=> .loadVar _ _
  have d:execOp ρ { dst,op:= .load t a,type,pos,after,guard }=(do pure (Next.value (<-Instr.loadAt t (ρ a))):Sem Next):=rfl;rw[d]at e ⊢;obtain⟨v,rfl,H⟩:=CL e;obtain⟨rfl,h2⟩:=hs _ _ _ H;exact⟨v,rfl,rfl,fun w2 Y=>by simp only[Sem.run_bind,h2 w2 Y,Result.andThen_ok,Sem.run_pure]⟩
 case call c =>
  simp only[clsCall]at h;split at h
  ·split at h
   ·split at h <;> cases h
   ·cases h
  all_goals cases h
 all_goals (first | cases h | (repeat' (split at h)) <;> cases h)
theorem NewS.newObj (o:Obj):NewS P (Go.newObj o):=fun w x w' e k hk=>by
 simp only[Go.newObj,Sem.run,Result.ok.injEq]at e;obtain⟨_,rfl⟩:=e;show (w.heap.push o)[k]? = _;rw[Array.getElem?_push,if_neg (by omega)]
theorem DM {o:Obj} (e:(Go.newObj o).run P w = .ok x w'):w.heap.size<=w'.heap.size:=by
 simp only[Go.newObj,Sem.run,Result.ok.injEq]at e;obtain⟨_,rfl⟩:=e;simp
theorem NewS.newVar (t:TypeId) (v:Value):NewS P (Go.newVar t v):=by
 unfold Go.newVar Go.newRow;exact .bind (.newObj _) (fun _ _ _ e=>DM e) fun _=> .of_read (PureS.ret _).read
theorem DN {c:Array Value} {x:Addr} (e:(Go.newRow t c).run P w = .ok x w'):w.heap.size<=w'.heap.size:=by
 unfold Go.newRow at e;simp only[Sem.run_bind]at e;cases hs:(Go.newObj (.cells c t)).run P w with
 | halt q w1=>rw[hs]at e;simp[Result.andThen]at e
 | ok a w1 =>
  rw[hs]at e;simp only[Result.andThen,Sem.run_pure,Result.ok.injEq]at e;obtain⟨_,rfl⟩:=e;exact DM hs
theorem PureS.size {α:Type} {s:Sem α} (h:PureS P s):∀w x w',s.run P w = .ok x w'->w.heap.size<=w'.heap.size:=fun w x w' e=>by rw[(h _ _ _ e).1];exact Nat.le_refl _
theorem NewS.box (t:TypeId) (v:Value):NewS P (Instr.box t v):=by
 unfold Instr.box;exact .bind (.newVar _ _) (fun _ _ _ e=>DN e) fun _=> .of_read (PureS.ret _).read
theorem NewS.alloc (t:TypeId):NewS P (Instr.alloc t true (.tuple #[])):=by
 unfold Instr.alloc;refine .bind (.of_read (PureS.zeroValue _).read) (PureS.zeroValue _).size fun z=>?_;exact .bind (.newVar _ _) (fun _ _ _ e=>DN e) fun _=> .of_read (PureS.ret _).read
theorem NewS.stop {α:Type} (h:Halt):NewS P (Sem.halt h:Sem α):= .of_read (PureS.halt h).read
theorem NewS.buildSlice (t:TypeId) (n:Nat) (ps:Array (Nat×Value)):NewS P (Instr.buildSlice t n ps):=by
 unfold Instr.buildSlice;refine .bind (.of_read (PureS.underlying _).read) (PureS.underlying _).size fun d=>?_;split
 ·rename_i elem;refine .bind (.of_read (PureS.sizeOf _).read) (PureS.sizeOf _).size fun s=>?_;have fin:∀zero:Array Value,NewS P (do
   let some cells:=Instr.fill (fun i=>some (i*s,s)) ((Array.range (n*s)).map (zero[· % zero.size]!)) ps.toList
    | stuck "buildSlice: a part of the wrong size"
   pure (.slice (some (<-newRow elem cells)) n n):Sem Value):=fun zero=>by
   split
   ·exact .bind (by unfold newRow;exact .bind (.newObj _) (fun _ _ _ e=>DM e) fun _=> .of_read (PureS.ret _).read) (fun _ _ _ e=>DN e) fun _=> .of_read (PureS.ret _).read
   ·exact .stop _
  dsimp only
  repeat' (first | exact fin _ | exact .stop _ | exact(PureS.halt _).size | exact .of_read (PureS.zeroValue _).read | exact(PureS.zeroValue _).size | exact .of_read (PureS.ret _).read | exact(PureS.ret _).size | split | refine .bind ?_ ?_ fun _=>?_)
 ·exact .stop _
theorem PE {ρ:Operand->Value} (h:cls P o.op=2) {x:Next} (e:(execOp ρ o).run P w = .ok x w') :
 (∃v,x = .value v)/\∀k,k<w.heap.size->w'.heap[k]? = w.heap[k]? :=by
 obtain⟨dst,op,type,pos,after,guard⟩:=o;cases op <;> simp only[cls]at h
 case alloc t =>
  have d:execOp ρ { dst,op:= .alloc t,type,pos,after,guard }=(do pure (Next.value (<-Instr.alloc t true (.tuple #[]))):Sem Next):=rfl;rw[d]at e;obtain⟨v,rfl,H⟩:=CL e;exact⟨⟨v,rfl⟩,NewS.alloc _ _ _ _ H⟩
 case box t y =>
  have d:execOp ρ { dst,op:= .box t y,type,pos,after,guard }=(do pure (Next.value (<-Instr.box t (ρ y))):Sem Next):=rfl;rw[d]at e;obtain⟨v,rfl,H⟩:=CL e;exact⟨⟨v,rfl⟩,NewS.box _ _ _ _ _ H⟩
 case buildSlice t n ps =>
  have d:execOp ρ { dst,op:= .buildSlice t n ps,type,pos,after,guard }=(do pure (Next.value (<-Instr.buildSlice t n (ps.map fun(i,x)=>(i,ρ x)))):Sem Next):=rfl;rw[d]at e;obtain⟨v,rfl,H⟩:=CL e;exact⟨⟨v,rfl⟩,NewS.buildSlice _ _ _ _ _ _ H⟩
 case call c =>
  simp only[clsCall]at h;split at h
  ·split at h
   ·split at h <;> cases h
   ·cases h
  all_goals cases h
 all_goals (first | cases h | (repeat' (split at h)) <;> cases h)
end exec
end
section
open Region (wanted)
def Qn (Q:Act->World->Prop):Exit->Act->World->Prop:=Exit.then Q (fun _ _ _=>False)
section
variable {P:Program} {ops:Array Oper} {Q:Act->World->Prop}
def st (P:Program) (ops:Array Oper) (Q:Act->World->Prop) (o:Oper) (K:Act->World->Prop) (a:Act) (w:World):Prop :=
 if wanted o (yielded ops a.tmps) then chkV a.eval o.op=true/\o.wp P a w K (Qn Q) else K (a.put o.dst undef) w
theorem Ra {K K':Act->World->Prop} (h:∀a w,K a w->K' a w) (d:st P ops Q o K a w):st P ops Q o K' a w:=by
 unfold st at *;split
 ·rename_i H;rw[if_pos H]at d;exact⟨d.1,Oper.wp_mono h d.2⟩
 ·rename_i H;rw[if_neg H]at d;exact h _ _ d
theorem Uz {K:Act->World->Prop} (e:(execOp a.eval o).run P w = .ok (.value v) w') :
 o.wp P a w K R↔K (a.put o.dst v) w':=by
 unfold Oper.wp;rw[e];exact Iff.rfl
theorem Qm {K:Act->World->Prop} (h:o.wp P a w K (Qn Q)):∃x w',(execOp a.eval o).run P w = .ok x w':=by
 unfold Oper.wp at h;cases d:(execOp a.eval o).run P w with
 | ok x w'=>exact⟨x,w',rfl⟩
 | halt q w' =>
  rw[d]at h;cases q <;> simp only[Oper.upon]at h;exact h.elim
theorem Lm {f:FuncId} {args:Array Value} {R:Ending->World->Prop} (h:Calls P f args w R):∃e w',R e w':=by
 obtain⟨e,w',_,d,_⟩:=h [];exact⟨e,w',d⟩
theorem On {row:String} {args:Array Value} {R:Value->World->Prop} (h:Rows P row args w R):∃v w',R v w':=by
 obtain⟨v,w',d,_⟩:=h default [];exact⟨v,w',d⟩
theorem Nj {K:Act->World->Prop} (h:o.wp P a w K (Qn Q)) :
 ∃v d w',K (({ a with defers:=d }:Act).put o.dst v) w':=by
 unfold Oper.wp at h;cases Y:(execOp a.eval o).run P w with
 | halt q w' =>
  rw[Y]at h;cases q <;> simp only[Oper.upon]at h;exact h.elim
 | ok x w' =>
  rw[Y]at h;cases x <;> simp only[Oper.upon]at h
  case value v=>exact⟨v,a.defers,w',h⟩
  case skip=>exact⟨undef,a.defers,w',h⟩
  case defer d=>exact⟨undef,d::a.defers,w',h⟩
  case enter f args =>
   obtain⟨e,w'',H⟩:=Lm h;cases e with
   | returned v=>exact⟨v,a.defers,w'',H⟩
   | panicked c=>exact H.elim
   | outgrown=>obtain⟨_,_,J⟩:=H;exact J.elim
  case row row args =>
   obtain⟨v,w'',H⟩:=On h;exact⟨v,a.defers,w'',H⟩
theorem Cq {ρ ρ' : Operand → Value} {op : Op} (h : ∀ x ∈ op.operands, ρ x = ρ' x) : chkV ρ op = chkV ρ' op := by
  cases op <;> simp only [Op.operands] at h <;> simp only [chkV]
  case binOp bop t x y t' => rw [h x (by simp), h y (by simp)]
  case nilCheck x => rw [h x (by simp)]
  case convert s d x => rw [h x (by simp)]
  case call c =>
    obtain ⟨callee, args, ts⟩ := c
    have H : ∀ x ∈ args.toList, ρ x = ρ' x := fun x Y => h x (by unfold Call.operands; simp; exact .inr (by simpa using Y))
    dsimp only
    generalize args.toList = l at H
    cases callee with
    | builtin b => cases b <;> first
      | rfl
      | (rcases l with _ | ⟨x, _ | ⟨y, _ | ⟨z, l⟩⟩⟩ <;> first
         | rfl
         | (show twoInts (ρ x) (ρ y) = twoInts (ρ' x) (ρ' y); rw [H x (by simp), H y (by simp)]))
    | value f => rfl
    | invoke r m => rfl
theorem Ba {dst:Option Tmp} (h:∀d,dst=some d->d∉o.looksAt ops):∀x∈o.op.operands,(a.put dst v).eval x=a.eval x:=fun x Y =>
 Act.eval_put fun d hd H=>h d hd (by
  subst H;exact List.mem_append_left _ (List.mem_filterMap.2 ⟨.tmp d,by simpa using Y,rfl⟩))
theorem DE {d:List Deferred} (x:Operand):({ a with defers:=d }:Act).eval x=a.eval x:=by cases x <;> rfl
theorem DS (a:Act) {x y:Oper} (hd:∀d,x.dst=some d->y.dst≠some d) (v u:Value):(a.put x.dst v).put y.dst u=(a.put y.dst u).put x.dst v:=Act.put_comm a v u hd
def Yl (P:Program) (ops:Array Oper) (o:Oper) (v:Value) (a:Act):Prop :=
 (wanted o (yielded ops a.tmps)=true/\chkV a.eval o.op=true/\∀w,(execOp a.eval o).run P w = .ok (.value v) w)\/(wanted o (yielded ops a.tmps)=false/\v=undef)
theorem Yl.st {K:Act->World->Prop} (h:Yl P ops o v a):Go.Proofs.YtpnlihgcboepeaaGreat.st P ops Q o K a w↔K (a.put o.dst v) w:=by
 unfold Go.Proofs.YtpnlihgcboepeaaGreat.st;rcases h with ⟨h1,h2,d⟩ | ⟨h1,rfl⟩
 ·rw[if_pos h1,Uz (d w)];exact⟨fun h=>h.2,fun h=>⟨h2,h⟩⟩
 ·rw[if_neg (by rw[h1];exact Bool.false_ne_true)]
theorem Yl.same (h:Yl P ops o v a) (hs:∀cs b,o.op ≠ .select cs b) (d:∀x∈o.op.operands,a'.eval x=a.eval x) (H:wanted o (yielded ops a'.tmps)=wanted o (yielded ops a.tmps)):Yl P ops o v a':=by
 unfold Yl at *;rw[H,execOp_congr o hs d,Cq d];exact h
theorem Yl.away {dst:Option Tmp} (h:Yl P ops o v a) (hs:∀cs b,o.op ≠ .select cs b) (hd:∀d,dst=some d->d∉o.looksAt ops):Yl P ops o v (a.put dst u) :=
 h.same hs (Ba hd) (wanted_put o a dst u hd)
theorem HQ {K:Act->World->Prop} (H:cls P o.op=0) (h:st P ops Q o K a w):∃v,Yl P ops o v a:=by
 unfold st at h;split at h
 ·rename_i d;obtain⟨x,w',e⟩:=Qm h.2;obtain⟨v,rfl,rfl,h2⟩:=N7 H h.1 e;exact⟨v,.inl ⟨d,h.1,h2⟩⟩
 ·rename_i d;exact⟨undef,.inr ⟨by simpa using d,rfl⟩⟩
theorem Gq {x y:Oper} {K:Act->World->Prop} (G:∀cs b,x.op ≠ .select cs b) (H:∀cs b,y.op ≠ .select cs b) (Z:x.apart ops y=true) (hc:cls P y.op=0)
 (h:st P ops Q x (st P ops Q y K) a w):st P ops Q y (st P ops Q x K) a w:=by
 obtain⟨h1,h2,O⟩:=Oper.apart_spec Z;have hy:∃v,Yl P ops y v a:=by
  unfold st at h;split at h
  ·obtain⟨u,d,w',hk⟩:=Nj h.2;obtain⟨v,Y⟩:=HQ hc hk;refine⟨v,Y.same H (fun z hz=>?_) ?_⟩
   ·rw[Ba (ops:=ops) h1 z hz];exact(DE z).symm
   ·rw[wanted_put y _ x.dst u h1]
  ·obtain⟨v,Y⟩:=HQ hc h;refine⟨v,Y.same H (fun z hz=>(Ba (ops:=ops) h1 z hz).symm) (wanted_put y a x.dst undef h1).symm⟩
 obtain⟨v,Y⟩:=hy;rw[Y.st];unfold st at h ⊢;rw[wanted_put x a y.dst v O];split
 ·rename_i I;rw[if_pos I]at h;refine⟨(Cq (Ba O)).trans h.1,?_⟩;have J:=h.2;unfold Oper.wp at J ⊢;rw[execOp_congr x G (Ba O)];generalize (execOp a.eval x).run P w=r at *;have fin:∀(b:Act) (u:Value) (w':World),Yl P ops y v b->st P ops Q y K (b.put x.dst u) w'->K ((b.put y.dst v).put x.dst u) w':=fun b u w' hb hk=>by
   have:=(hb.away (dst:=x.dst) (u:=u) H h1).st.1 hk;rw[DS b h2 u v]at this;exact this
  cases r with
  | ok n w' =>
   cases n <;> simp only[Oper.upon]at J ⊢
   case value u=>exact fin _ _ _ Y J
   case skip=>exact fin _ _ _ Y J
   case defer d =>
    have hb:Yl P ops y v ({ a with defers:=d::a.defers }:Act):=Y.same H (fun z _=>DE z) rfl;rw[Act.put_defers];exact fin _ _ _ hb J
   case enter f args =>
    refine Calls.mono J fun e w'' U=>?_;cases e with
    | returned u=>exact fin _ _ _ Y U
    | panicked c=>exact U
    | outgrown=>exact U
   case row row args=>exact Rows.mono J fun u w'' U=>fin _ _ _ Y U
  | halt q w'=>cases q <;> simp only[Oper.upon]at J ⊢;exact J
 ·rename_i I;rw[if_neg I]at h;have:=(Y.away (dst:=x.dst) (u:=undef) H h1).st.1 h;rw[DS a h2 undef v]at this;exact this
theorem HH {x y:Oper} {K:Act->World->Prop} (U:∀cs b,x.op ≠ .select cs b) (Z:∀cs b,y.op ≠ .select cs b) (O:x.apart ops y=true) (hc:cls P x.op=0)
 (h:st P ops Q x (st P ops Q y K) a w):st P ops Q y (st P ops Q x K) a w:=by
 obtain⟨h1,h2,I⟩:=Oper.apart_spec O;obtain⟨v,Y⟩:=HQ hc h;rw[Y.st]at h;unfold st at h ⊢;rw[wanted_put y a x.dst v h1]at h;have fin:∀(b:Act) (u:Value) (w':World),Yl P ops x v b->K ((b.put x.dst v).put y.dst u) w'->st P ops Q x K (b.put y.dst u) w':=fun b u w' hb hk=>by
  rw[(hb.away (dst:=y.dst) (u:=u) U I).st,<-DS b h2 v u];exact hk
 split
 ·rename_i G;rw[if_pos G]at h;refine⟨(Cq (Ba h1)).symm.trans h.1,?_⟩;have H:=h.2;unfold Oper.wp at H ⊢;rw[execOp_congr y Z (Ba h1)]at H;generalize (execOp a.eval y).run P w=r at *;cases r with
  | ok n w' =>
   cases n <;> simp only[Oper.upon]at H ⊢
   case value u=>exact fin _ _ _ Y H
   case skip=>exact fin _ _ _ Y H
   case defer d =>
    have hb:Yl P ops x v ({ a with defers:=d::a.defers }:Act):=Y.same U (fun z _=>DE z) rfl;refine fin _ _ _ hb ?_;rw[<-Act.put_defers];exact H
   case enter f args =>
    refine Calls.mono H fun e w'' J=>?_;cases e with
    | returned u=>exact fin _ _ _ Y J
    | panicked c=>exact J
    | outgrown=>exact J
   case row row args=>exact Rows.mono H fun u w'' J=>fin _ _ _ Y J
  | halt q w'=>cases q <;> simp only[Oper.upon]at H ⊢;exact H
 ·rename_i G;rw[if_neg G]at h;exact fin _ _ _ Y h
theorem OK {x y:Oper} {K:Act->World->Prop} (Z:∀cs b,x.op ≠ .select cs b) (G:∀cs b,y.op ≠ .select cs b) (O:x.apart ops y=true) (hx:cls P x.op=1) (Y:cls P y.op=1\/cls P y.op=2)
 (h:st P ops Q x (st P ops Q y K) a w):st P ops Q y (st P ops Q x K) a w:=by
 obtain⟨h1,h2,J⟩:=Oper.apart_spec O;have U:∃v,st P ops Q y K (a.put x.dst v) w/\∀(u:Value) (w2:World),(∀k,k<w.heap.size->w2.heap[k]? = w.heap[k]?)->K ((a.put x.dst v).put y.dst u) w2->st P ops Q x K (a.put y.dst u) w2:=by
  unfold st at h;split at h
  ·rename_i H;obtain⟨n,w',e⟩:=Qm h.2;obtain⟨v,rfl,rfl,he⟩:=IU hx e;refine⟨v,(Uz e).1 h.2,fun u w2 I hk=>?_⟩;unfold st;rw[wanted_put x a y.dst u J,if_pos H];refine⟨(Cq (Ba J)).trans h.1,?_⟩;have e2:(execOp (a.put y.dst u).eval x).run P w2 = .ok (.value v) w2:=by rw[execOp_congr x Z (Ba J)];exact he w2 I
   rw[Uz e2,<-DS a h2 v u];exact hk
  ·rename_i H;refine⟨undef,h,fun u w2 _ hk=>?_⟩;unfold st;rw[wanted_put x a y.dst u J,if_neg H,<-DS a h2 undef u];exact hk
 obtain⟨v,d,U⟩:=U;unfold st at d ⊢;rw[wanted_put y a x.dst v h1]at d;split
 ·rename_i H;rw[if_pos H]at d;refine⟨(Cq (Ba h1)).symm.trans d.1,?_⟩;obtain⟨n,w',e⟩:=Qm d.2;have hn:∃u,n = .value u/\∀k,k<w.heap.size->w'.heap[k]? = w.heap[k]? :=by
   rcases Y with Y | Y
   ·obtain⟨u,rfl,rfl,_⟩:=IU Y e;exact⟨u,rfl,fun _ _=>rfl⟩
   ·obtain⟨⟨u,rfl⟩,hk⟩:=PE Y e;exact⟨u,rfl,hk⟩
  obtain⟨u,rfl,hk⟩:=hn;have hf:=(Uz e).1 d.2;rw[execOp_congr y G (Ba h1)]at e;rw[Uz e];exact U u w' hk hf
 ·rename_i H;rw[if_neg H]at d;exact U undef w (fun _ _=>rfl) d
def noSel (o:Oper):Bool:=match o.op with | .select .. =>false | _=>true
theorem BS (h:noSel o=true):∀cs b,o.op ≠ .select cs b:=fun cs b e=>by simp[noSel,e]at h
def comm (P:Program) (ops:Array Oper) (x y:Oper):Bool :=
 x.apart ops y&&(cls P y.op==0 || cls P x.op==0 || (cls P x.op==1&&(cls P y.op==1 || cls P y.op==2)))
theorem swap {x y:Oper} {K:Act->World->Prop} (H:noSel x=true) (Y:noSel y=true) (J:comm P ops x y=true)
 (h:st P ops Q x (st P ops Q y K) a w):st P ops Q y (st P ops Q x K) a w:=by
 simp only[comm,Bool.and_eq_true,Bool.or_eq_true,beq_iff_eq]at J;obtain⟨d,(h1 | h1) | ⟨h1,h2⟩⟩:=J
 ·exact Gq (BS H) (BS Y) d h1 h
 ·exact HH (BS H) (BS Y) d h1 h
 ·exact OK (BS H) (BS Y) d h1 h2 h
def run (P:Program) (ops:Array Oper) (Q:Act->World->Prop):List Oper->Act->World->Prop
 | []=>Q
 | o::l=>st P ops Q o (run P ops Q l)
theorem move:∀(pre post:List Oper) (y:Oper) (a:Act) (w:World),(∀x∈pre,noSel x=true/\comm P ops x y=true)->noSel y=true ->
 run P ops Q (pre++y::post) a w->st P ops Q y (run P ops Q (pre++post)) a w
 | [],_,_,_,_,_,_,h=>h
 | x::pre,post,y,a,w,d,H,h=>by
  have h1:st P ops Q x (st P ops Q y (run P ops Q (pre++post))) a w:=Ra (fun a w J=>move pre post y a w (fun z U=>d z (List.mem_cons_of_mem _ U)) H J) h;obtain⟨h2,Y⟩:=d x (List.mem_cons_self ..);exact swap h2 H Y h1
def waits (o:Oper) (j:Nat):Bool:=o.after.any fun e=>Region.binds .any e&&e.on==j
inductive Reach (ops:Array Oper):Nat->Nat->Prop where
  | one {i j:Nat} {o:Oper}:ops[i]? = some o->waits o j=true->Reach ops i j
  | step {i k j:Nat} {o:Oper}:ops[i]? = some o->waits o k=true->Reach ops k j->Reach ops i j
def maskOf (acc:List Nat) (o:Oper):Nat:=o.after.toList.foldl (fun s e=>if Region.binds .any e then s ||| (1 <<< e.on) ||| acc.getD e.on 0 else s) 0
def masks:List Oper->List Nat->List Nat
 | [],acc=>acc
 | o::r,acc=>masks r (acc ++ [maskOf acc o])
theorem Fu (i j:Nat):(1 <<< i:Nat).testBit j=true->i=j:=by
 intro h;rw[Nat.one_shiftLeft,Nat.testBit_two_pow]at h;simpa using h
theorem Km {acc:List Nat} (U:ops[i]? = some o) (H:∀k j,(acc.getD k 0).testBit j=true->Reach ops k j) (j:Nat) (h:(maskOf acc o).testBit j=true):Reach ops i j:=by
 unfold maskOf at h;have key:∀(l:List Edge) (s:Nat),(∀e∈l,e∈o.after.toList)->(s.testBit j=true->Reach ops i j) ->
  (l.foldl (fun s e=>if Region.binds .any e then s ||| (1 <<< e.on) ||| acc.getD e.on 0 else s) s).testBit j=true->Reach ops i j:=by
  intro l
  induction l with
  | nil=>intro s _ hs h;exact hs h
  | cons e l ih =>
   intro s J hs h;refine ih _ (fun e' Y=>J e' (List.mem_cons_of_mem _ Y)) ?_ h;intro hb;dsimp only at hb;split at hb
   ·rename_i d;have O:waits o e.on=true:=by
     unfold waits;rw[Array.any_eq_true'];exact⟨e,by simpa using J e (List.mem_cons_self ..),by simp[d]⟩
    simp only[Nat.testBit_or,Bool.or_eq_true]at hb;rcases hb with (hb | hb) | hb
    ·exact hs hb
    ·obtain rfl:=Fu _ _ hb;exact .one U O
    ·exact .step U O (H _ _ hb)
   ·exact hs hb
 exact key _ 0 (fun e Z=>Z) (fun h=>by simp at h) h
theorem G0:∀(l:List Oper) (acc:List Nat),(∀j,l[j]? = ops[acc.length+j]?)->(∀k j,(acc.getD k 0).testBit j=true->Reach ops k j) ->
 ∀k j,((masks l acc).getD k 0).testBit j=true->Reach ops k j
 | [],_,_,d,k,j,h=>d k j h
 | o::l,acc,H,d,k,j,h=>by
  refine G0 l (acc ++ [maskOf acc o]) (fun j=>?_) (fun k j hk=>?_) k j h
  ·have:=H (j+1);simp only[List.getElem?_cons_succ]at this;rw[this,List.length_append,List.length_singleton];congr 1;omega
  ·rcases Nat.lt_or_ge k acc.length with h1 | h1
   ·rw[List.getD_eq_getElem?_getD,List.getElem?_append_left h1,<-List.getD_eq_getElem?_getD]at hk;exact d k j hk
   ·rw[List.getD_eq_getElem?_getD,List.getElem?_append_right h1,<-List.getD_eq_getElem?_getD]at hk;rcases Nat.eq_or_lt_of_le h1 with h2 | h2
    ·subst h2;simp only[Nat.sub_self,List.getD_cons_zero]at hk;exact Km (by simpa using (H 0).symm) d j hk
    ·rw[List.getD_eq_getElem?_getD,List.getElem?_eq_none (by simp;omega)]at hk;simp at hk
def closedB (ops:Array Oper) (listed:Array Bool):Prop:=∀i o,ops[i]? = some o->listed.getD i false=true->∀j,waits o j=true->listed.getD j false=true
theorem Jv (J:closedB ops listed) (h:Reach ops i j) (hi:listed.getD i false=true\/i∈Region.ready .any ops listed):listed.getD j false=true:=by
 have one:∀ {i j:Nat} {o:Oper},ops[i]? = some o->waits o j=true->(listed.getD i false=true\/i∈Region.ready .any ops listed)->listed.getD j false=true:=by
  intro i j o H d hi;rcases hi with hi | hi
  ·exact J i o H hi j d
  ·obtain⟨_,o',U,Y⟩:=mem_ready.1 hi;obtain rfl:o=o':=Option.some.inj (H.symm.trans U);unfold waits at d;obtain⟨e,O,hb⟩:=Array.any_eq_true'.1 d;simp only[Bool.and_eq_true,beq_iff_eq]at hb;rw[<-hb.2];exact Y e O hb.1
 induction h with
 | one H d=>exact one H d hi
 | step H d _ ih=>exact ih (.inl (one H d hi))
def pairB (P:Program) (ops:Array Oper) (ms:List Nat) (j i:Nat):Bool :=
 j != i&&(match ops[j]?,ops[i]? with
  | some oj,some oi=> !waits oj i&&((ms.getD i 0).testBit j || comm P ops oj oi)
  | _,_=>false)
def pairsB (P:Program) (ops:Array Oper) (ms:List Nat):List Nat->Bool
 | []=>true
 | j::r=>r.all (pairB P ops ms j)&&pairsB P ops ms r
def lexB (P:Program) (ops:Array Oper) (l:List Nat):Bool :=
 l.length==ops.size&&ops.toList.all noSel&&l.all (fun i=>decide (i<ops.size)&&(match ops[i]? with | some o=> !waits o i&&o.after.toList.all (fun e=>decide (e.on<ops.size)) | none=>false)) &&
 (List.range ops.size).all l.contains&&pairsB P ops (masks ops.toList []) l
theorem F6:∀ {l:List Nat},pairsB P ops ms l=true->l.Pairwise fun j i=>pairB P ops ms j i=true
 | [],_=> .nil
 | j::r,h=>by
  simp only[pairsB,Bool.and_eq_true,List.all_eq_true]at h;exact .cons (fun i hi=>h.1 i hi) (F6 h.2)
def opsOf (ops:Array Oper) (l:List Nat):List Oper:=l.filterMap fun i=>ops[i]?
theorem Pz (j1 : ∀ k j, (ms.getD k 0).testBit j = true → Reach ops k j) (o0 : ∀ o ∈ ops.toList, noSel o = true) (hR : ∀ a w, Q a w → R .normal a w) :
    ∀ (n : Nat) (l : List Nat) (listed : Array Bool) (a : Act) (w : World), l.length = n → (∀ i, i ∈ l ↔ (i < ops.size ∧ listed.getD i true = false)) → listed.size = ops.size → closedB ops listed →
      (∀ i ∈ l, ∀ o, ops[i]? = some o → waits o i = false ∧ ∀ e ∈ o.after, e.on < ops.size) →
      l.Pairwise (fun j i => pairB P ops ms j i = true) → run P ops Q (opsOf ops l) a w → wpAny P .any ops R n listed a w := by
  intro n
  induction n with
  | zero =>
    intro l listed a w hl hm _ _ _ _ h
    obtain rfl : l = [] := List.eq_nil_of_length_eq_zero hl
    refine ⟨?_, hR _ _ h⟩
    rw [List.eq_nil_iff_forall_not_mem]
    intro i hi
    have h1 := mem_ready.1 hi
    obtain ⟨h1, o, Y, _⟩ := h1
    have : i ∈ ([] : List Nat) := (hm i).2 ⟨(Array.getElem?_eq_some_iff.1 Y).1, h1⟩
    cases this
  | succ n ih =>
    intro l listed a w hl hm x1 x0 k0 j0 h
    refine ⟨fun l0 => ?_, fun i hi => ?_⟩
    ·
      exfalso
      match l, hl with
      | i0 :: r, _ =>
        have y0 := (hm i0).1 (List.mem_cons_self ..)
        obtain ⟨o, Y⟩ : ∃ o, ops[i0]? = some o := ⟨ops[i0], Array.getElem?_eq_getElem y0.1⟩
        have : i0 ∈ Region.ready .any ops listed := by
          refine mem_ready.2 ⟨y0.2, o, Y, fun e J hb => ?_⟩
          have m0 : waits o e.on = true := by
            unfold waits
            rw [Array.any_eq_true']
            exact ⟨e, J, by simp [hb]⟩
          cases e0 : listed.getD e.on false with
          | true => rfl
          | false =>
            exfalso
            have I := (k0 i0 (List.mem_cons_self ..) o Y).2 e J
            have U : e.on ∈ i0 :: r := (hm e.on).2 ⟨I, by
              have : e.on < listed.size := by omega
              simp [this] at e0 ⊢; exact e0⟩
            rcases List.mem_cons.1 U with r0 | U
            · have := (k0 i0 (List.mem_cons_self ..) o Y).1
              rw [r0] at m0
              rw [m0] at this
              cases this
            · have G := (List.pairwise_cons.1 j0).1 _ U
              simp only [pairB, Y, Array.getElem?_eq_getElem I, Bool.and_eq_true, Bool.not_eq_true'] at G
              rw [m0] at G
              exact absurd G.2.1 (by simp)
        rw [l0] at this
        cases this
    · obtain ⟨y1, o, Y, v0⟩ := mem_ready.1 hi
      have I : i < ops.size := (Array.getElem?_eq_some_iff.1 Y).1
      have q1 : i ∈ l := (hm i).2 ⟨I, y1⟩
      obtain ⟨pre, post, rfl⟩ := List.append_of_mem q1
      have O := List.pairwise_append.1 j0
      have n0 : ∀ j ∈ pre ++ post, j ≠ i := by
        intro j d J
        subst J
        rcases List.mem_append.1 d with d | d
        · have := O.2.2 j d j (List.mem_cons_self ..)
          simp [pairB] at this
        · have := (List.pairwise_cons.1 O.2.1).1 j d
          simp [pairB] at this
      have q0 : opsOf ops (pre ++ i :: post) = opsOf ops pre ++ o :: opsOf ops post := by simp [opsOf, List.filterMap_append, Y]
      have Z : opsOf ops (pre ++ post) = opsOf ops pre ++ opsOf ops post := by simp [opsOf, List.filterMap_append]
      rw [q0] at h
      have m1 : o ∈ ops.toList := by simpa using Array.mem_of_getElem? Y
      have H := move (opsOf ops pre) (opsOf ops post) o a w (fun x hx => by
        obtain ⟨j, d, d0⟩ := List.mem_filterMap.1 hx
        refine ⟨o0 x (by simpa using Array.mem_of_getElem? d0), ?_⟩
        have G := O.2.2 j d i (List.mem_cons_self ..)
        simp only [pairB, d0, Y, Bool.and_eq_true, Bool.or_eq_true] at G
        rcases G.2.2 with G | G
        · exfalso
          have h1 := Jv x0 (j1 i j G) (.inr hi)
          have h2 := ((hm j).1 (List.mem_append_left _ d)).2
          have h3 := ((hm j).1 (List.mem_append_left _ d)).1
          have : j < listed.size := by omega
          simp [this] at h1 h2
          rw [h1] at h2
          cases h2
        · exact G) (o0 o m1) h
      rw [← Z] at H
      have p0 : ∀ a w, run P ops Q (opsOf ops (pre ++ post)) a w → wpAny P .any ops R n (listed.setIfInBounds i true) a w := fun a w hr => by
        refine ih (pre ++ post) _ a w ?_ ?_ ?_ ?_ ?_ ?_ hr
        · simp only [List.length_append, List.length_cons] at hl ⊢; omega
        · intro j
          constructor
          · intro d
            have p1 : j ∈ pre ++ i :: post := by
              rcases List.mem_append.1 d with d | d
              · exact List.mem_append_left _ d
              · exact List.mem_append_right _ (List.mem_cons_of_mem _ d)
            have := (hm j).1 p1
            refine ⟨this.1, ?_⟩
            rw [getD_set_ne true (Ne.symm (n0 j d))]
            exact this.2
          · rintro ⟨h1, h2⟩
            have c0 : j ≠ i := by
              intro J
              subst J
              have : j < listed.size := by omega
              simp [this] at h2
            rw [getD_set_ne true (Ne.symm c0)] at h2
            have := (hm j).2 ⟨h1, h2⟩
            rcases List.mem_append.1 this with d | d
            · exact List.mem_append_left _ d
            · rcases List.mem_cons.1 d with d | d
              · exact absurd d c0
              · exact List.mem_append_right _ d
        · simp [x1]
        · intro k ok hk f0 j hw
          by_cases b0 : i = k
          · subst b0
            obtain rfl : o = ok := Option.some.inj (Y.symm.trans hk)
            unfold waits at hw
            obtain ⟨e, J, hb⟩ := Array.any_eq_true'.1 hw
            simp only [Bool.and_eq_true, beq_iff_eq] at hb
            rw [← hb.2]
            exact getD_set_true (v0 e J hb.1)
          · rw [getD_set_ne false b0] at f0
            exact getD_set_true (x0 k ok hk f0 j hw)
        · intro j d
          refine k0 j ?_
          rcases List.mem_append.1 d with d | d
          · exact List.mem_append_left _ d
          · exact List.mem_append_right _ (List.mem_cons_of_mem _ d)
        · exact j0.sublist (by simp)
      unfold wpOp
      simp only [Y]
      unfold st at H
      split
      · rename_i hw
        rw [if_pos hw] at H
        refine .inl ?_
        have h2 := Oper.wp_mono p0 H.2
        unfold Oper.wp at h2 ⊢
        generalize (execOp a.eval o).run P w = r at *
        cases r with
        | ok n w' =>
          cases n <;> simp only [Oper.upon] at h2 ⊢ <;> first
            | exact h2
            | (refine Calls.mono h2 fun e w'' J => ?_
               cases e with
               | returned u => exact J
               | panicked c => exact J.elim
               | outgrown => obtain ⟨_, _, hl⟩ := J; exact hl.elim)
        | halt q w' => cases q <;> simp only [Oper.upon] at h2 ⊢; exact h2.elim
      · rename_i hw
        rw [if_neg hw] at H
        exact p0 _ _ H
def nontriv:Op->Bool
 | .binOp .. | .nilCheck _ | .convert .. =>true
 | .call c=>match c.callee with
  | .builtin .min=>true
  | .builtin .max=>true
  | _=>false
 | _=>false
theorem O4 {ρ:Operand->Value} {op:Op} (h:nontriv op=false):chkV ρ op=true:=by
 cases op <;> simp[nontriv]at h <;> first | rfl | skip
 rename_i c;obtain⟨callee,args,ts⟩:=c;unfold chkV;dsimp only;split <;> first | rfl | simp_all
def ssaB (ops:Array Oper):List Oper->Bool
 | []=>true
 | o::r=>(!nontriv o.op || (o::r).all (fun x=>match x.dst with | some d=> !(o.looksAt ops).contains d | none=>true))&&ssaB ops r
def plainB (ops:Array Oper) (l:List Oper) (a:Act):Bool:=l.all fun o=> !nontriv o.op || !wanted o (yielded ops a.tmps) || chkV a.eval o.op
theorem II {l:List Oper} (h:wpList P ops (Qn Q) (o::l) a w) :
 if wanted o (yielded ops a.tmps) then o.wp P a w (wpList P ops (Qn Q) l) (Qn Q) else wpList P ops (Qn Q) l (a.put o.dst undef) w:=by
 unfold wpList at h;split at h
 ·rename_i d;rw[if_pos d];rcases h with h | ⟨_,_,_,H⟩
  ·exact h
  ·exact H.elim
 ·rename_i d;rw[if_neg d];exact h
theorem Ke {dst:Option Tmp} {t:Tmp} (h:dst≠some t):(a.put dst v).tmps.getD t undef=a.tmps.getD t undef:=by
 cases dst with
 | none=>rfl
 | some d =>
  have H:d≠t:=fun e=>h (by rw[e]);simp[Act.put,Array.getElem?_setIfInBounds_ne H]
theorem GX:∀(l:List Oper) (a:Act) (w:World),wpList P ops (Qn Q) l a w ->
 ∃a' w',Q a' w'/\∀t,(∀x∈l,x.dst≠some t)->a'.tmps.getD t undef=a.tmps.getD t undef
 | [],a,w,h=>⟨a,w,h,fun _ _=>rfl⟩
 | o::l,a,w,h=>by
  have h1:=II h;have step:∃(b:Act) (w1:World),wpList P ops (Qn Q) l b w1/\∀t,o.dst≠some t->b.tmps.getD t undef=a.tmps.getD t undef:=by
   split at h1
   ·obtain⟨v,d,w1,hk⟩:=Nj h1;exact⟨_,w1,hk,fun t ht=>Ke ht⟩
   ·exact⟨_,w,h1,fun t ht=>Ke ht⟩
  obtain⟨b,w1,hb,H⟩:=step;obtain⟨a',w',J,Y⟩:=GX l b w1 hb;exact⟨a',w',J,fun t ht=>(Y t fun x U=>ht x (List.mem_cons_of_mem _ U)).trans (H t (ht o (List.mem_cons_self ..)))⟩
theorem NE (h:∀t∈o.looksAt ops,a'.tmps.getD t undef=a.tmps.getD t undef):∀x∈o.op.operands,a'.eval x=a.eval x:=fun x d=>by
 cases x with
 | tmp t=>exact h t (List.mem_append_left _ (List.mem_filterMap.2 ⟨.tmp t,by simpa using d,rfl⟩))
 | _=>rfl
theorem Gp {t:Tmp} (h:a'.tmps.getD t undef=a.tmps.getD t undef):(match a'.tmps[t]? with | some (Value.bool b)=>some b | _=>none)=(match a.tmps[t]? with | some (Value.bool b)=>some b | _=>none):=by
 rw[Array.getD_eq_getD_getElem?,Array.getD_eq_getD_getElem?]at h;cases h1:a'.tmps[t]? <;> cases h2:a.tmps[t]? <;> simp[h1,h2]at h ⊢
 ·subst h;rfl
 ·subst h;rfl
 ·rw[h]
theorem K9 (h:∀t∈o.looksAt ops,a'.tmps.getD t undef=a.tmps.getD t undef):wanted o (yielded ops a'.tmps)=wanted o (yielded ops a.tmps):=by
 unfold Region.wanted;cases d:o.guard with
 | none=>rfl
 | some gw =>
  obtain⟨g,want⟩:=gw;have H:yielded ops a'.tmps g=yielded ops a.tmps g:=by
   unfold yielded;cases ht:(ops[g]?).bind (·.dst)with
   | none=>rfl
   | some t=>exact Gp (h t (by simp[Oper.looksAt,d,ht]))
  simp only[H]
theorem Kl {L:List Oper} (G:∀a w,Q a w->plainB ops L a=true):∀(l:List Oper) (a:Act) (w:World),(∀o∈l,o∈L)->ssaB ops l=true->wpList P ops (Qn Q) l a w->run P ops Q l a w
 | [],_,_,_,_,h=>h
 | o::l,a,w,Z,hs,h=>by
  have Y:=GX _ _ _ h;have h1:=II h;simp only[ssaB,Bool.and_eq_true]at hs;have rec_:∀a w,wpList P ops (Qn Q) l a w->run P ops Q l a w:=fun a w=>Kl G l a w (fun x O=>Z x (List.mem_cons_of_mem _ O)) hs.2;show st P ops Q o (run P ops Q l) a w;unfold st;split
  ·rename_i J;rw[if_pos J]at h1;refine⟨?_,Oper.wp_mono rec_ h1⟩;cases I:nontriv o.op with
   | false=>exact O4 I
   | true =>
    obtain⟨a',w',hq,U⟩:=Y;have hp:=G _ _ hq;unfold plainB at hp;have H:=List.all_eq_true.1 hp o (Z o (List.mem_cons_self ..));have hd:=hs.1;rw[I]at hd H;simp only[Bool.not_true,Bool.false_or,List.all_eq_true]at hd;have d:∀t∈o.looksAt ops,a'.tmps.getD t undef=a.tmps.getD t undef:=fun t ht=>U t fun x O he=>by
     have:=hd x O;rw[he]at this;simp[ht]at this
    rw[K9 d,J,Cq (NE d)]at H;simpa using H
  ·rename_i J;rw[if_neg J]at h1;exact rec_ _ _ h1
theorem Ie {id:Nat} {l:List Oper} (ord:List Nat) (l':List Oper) (hm:P.follows .mixedOrders=true)
 (hl:opsOf l.toArray ord=l') (G:lexB P l.toArray ord=true) (hs:ssaB l.toArray l'=true)
 (h:∀K:Act->World->Prop,(∀a w,plainB l.toArray l' a=true/\R .normal a w->K a w)->wpList P l.toArray (Exit.then K (fun _ _ _=>False)) l' a w.drew):(Code.region id l.toArray true).wp P R a w:=by
 have h:=h _ (fun _ _ h=>h);refine wp_region_any hm ?_;simp only[lexB,Bool.and_eq_true,List.all_eq_true,beq_iff_eq,decide_eq_true_eq,List.contains_iff_mem,List.mem_range]at G;obtain⟨⟨⟨⟨hlen,U⟩,H⟩,d⟩,Z⟩:=G;have J:∀k j,((masks l.toArray.toList []).getD k 0).testBit j=true->Reach l.toArray k j :=
  G0 _ _ (fun j=>by simp) (fun k j hk=>by simp at hk)
 subst hl;refine hlen ▸ Pz (Q:=fun a w=>plainB l.toArray (opsOf l.toArray ord) a=true/\R .normal a w) J U (fun a w Y=>Y.2) ord.length ord (Array.replicate l.toArray.size false) a w.drew rfl (fun i=>?_) (by simp) (fun i o _ hi=>?_) (fun i hi o O=>?_) (F6 Z) ?_
 ·constructor
  ·intro hi;have:=(H i hi).1;have h2:i<l.length:=by simpa using this
   exact⟨this,by simp[h2]⟩
  ·rintro⟨h1,_⟩;exact d i h1
 ·simp[Array.getElem?_replicate]at hi;split at hi <;> simp at hi
 ·have:=(H i hi).2;rw[O]at this;simp only[Bool.and_eq_true,Bool.not_eq_true',List.all_eq_true,decide_eq_true_eq]at this;exact⟨this.1,fun e I=>this.2 e (by simpa using I)⟩
 ·exact Kl (fun a w Y=>Y.1) _ _ _ (fun o O=>O) hs h
theorem Ks (l:List Oper):opsOf l.toArray (List.range l.length)=l:=by
 unfold opsOf;have:∀(n:Nat),n<=l.length->(List.range n).filterMap (fun i=>l.toArray[i]?)=l.take n:=by
  intro n
  induction n with
  | zero=>intro _;simp
  | succ n ih =>
   intro d;rw[List.range_succ,List.filterMap_append,ih (by omega)];have h:l.toArray[n]? = some (l[n]'(by omega)):=by simp
   rw[List.filterMap_cons_some h,List.filterMap_nil];rw[List.take_succ_eq_append_getElem (by omega)]
 rw[this l.length (Nat.le_refl _),List.take_length]
theorem HP {id:Nat} {l:List Oper} (H:P.follows .mixedOrders=true)
 (d:lexB P l.toArray (List.range l.length)=true) (hs:ssaB l.toArray l=true)
 (h:∀K:Act->World->Prop,(∀a w,plainB l.toArray l a=true/\R .normal a w->K a w)->wpList P l.toArray (Exit.then K (fun _ _ _=>False)) l a w.drew):(Code.region id l.toArray true).wp P R a w :=
 Ie (List.range l.length) l H (Ks l) d hs h
theorem AE {id:Nat} {l:List Oper}
 (h:∀K:Act->World->Prop,(∀a w,plainB l.toArray l a=true/\R .normal a w->K a w)->wpList P l.toArray (Exit.then K (fun _ _ _=>False)) l a w.drew)
 (H:P.follows .mixedOrders=true:=by kernel_rfl) (d:lexB P l.toArray (List.range l.length)=true:=by kernel_rfl) (hs:ssaB l.toArray l=true:=by kernel_rfl):(Code.region id l.toArray true).wp P R a w :=
 HP H d hs h
theorem Bv {α:Type _} {l:List α} {a:α}:l.toArray.setIfInBounds i a=(l.set i a).toArray:=List.setIfInBounds_toArray ..
theorem Bw {α:Type _} {x a:α} {xs:List α}:(x::xs).set 0 a=a::xs:=rfl
theorem By {α:Type _} {x a:α} {xs:List α}:(x::xs).set (i+1) a=x::xs.set i a:=rfl
theorem CN {α:Type _} {l:List α} (h:i<l.toArray.size):l.toArray[i]=l[i]'(by simpa using h):=List.getElem_toArray ..
theorem CO {α:Type _} {x:α} {xs:List α} (h:0<(x::xs).length):(x::xs)[0]=x:=rfl
theorem CP {α:Type _} {x:α} {xs:List α} (h:i+1<(x::xs).length):(x::xs)[i+1]=xs[i]'(by simpa using h):=rfl
end
end
section
open Go.RowKit
theorem Aa {p:Prop} (h:p):Hid p:=h
def Ext (w w':World):Prop:=Below w.heap.size w w'
section
variable {w w1 w2:World}
theorem Ext.refl (w:World):Ext w w:=Below.refl _ _
theorem Ext.size (h:Ext w w1):w.heap.size<=w1.heap.size:=Below.size h
theorem Ext.trans (h:Ext w w1) (k:Ext w1 w2):Ext w w2:=Below.trans h (Below.mono k h.size)
theorem Ext.drew (h:Ext w w1):Ext w w1.drew:=Below.drew h
theorem Ext.drewN (h:Ext w w1) (n:Nat):Ext w (w1.drewN n) :=
 have hb:Below w.heap.size w w1:=h
 ⟨hb.os,hb.tape,hb.output,hb.size,hb.block⟩
theorem Ext.alloc (h:Ext w w1) (o:Obj):Ext w (w1.alloc o):=Below.alloc h h.size o
theorem Ext.setCell (h:Ext w w1) {p:Addr} (d:w.heap.size<=p.block) (u:Value):Ext w (w1.setCell p u):=Below.setCell h d u
theorem Ext.grown {row:Option Nat} (h:Ext w w1) (d:w1.grownBy w2 row) (H:∀k,row=some k->w.heap.size<=k):Ext w w2:=Below.grown h d h.size H
theorem Ext.cell {a:Addr} (h:Ext w w1) (d:w.cell? a=some v):w1.cell? a=some v:=(Below.cell h (World.block_lt_of_cell? w a d)).trans d
theorem Ext.block {o:Obj} (h:Ext w w1) (hk:w.heap[k]? = some o):w1.heap[k]? = some o :=
 (Below.block h k (Array.getElem?_eq_some_iff.1 hk).1).trans hk
theorem Ext.owns {size:Nat} (h:Ext w w1) (Y:w.ownsRow base e size v n xs):w1.ownsRow base e size v n xs:=by
 obtain⟨h1,h2⟩:=Y;refine⟨h1,?_⟩;rcases h2 with h2 | ⟨g,cap,cur,J,d,H,r⟩
 ·exact .inl h2
 ·exact .inr ⟨g,cap,cur,J,d,h.block H,r⟩
end
def Row (w:World) (g:Nat) (t:TypeId) (cs:Array Value):Prop:=w.heap[g]? = some (.cells cs t (0,0))
section
variable {w w1:World} {g:Nat} {t:TypeId} {cs:Array Value}
theorem Row.lt (h:Row w g t cs):g<w.heap.size:=(Array.getElem?_eq_some_iff.1 h).1
theorem Row.cell (h:Row w g t cs) (i:Nat) (d:cs[i]? = some v):w.cell? ⟨g,i,none⟩=some v:=(cell_of_row w g i cs t (0,0) h).trans d
theorem Row.get (h:Row w g t cs) (i:Nat):w.cell? ⟨g,i,none⟩=cs[i]? :=cell_of_row w g i cs t (0,0) h
theorem Row.free (h:Row w g t cs) (i:Nat):w.frozen? ⟨g,i,none⟩=false:=by
 simp[World.frozen?,show w.heap[g]? = some (.cells cs t (0,0))from h]
theorem Row.ext (h:Row w g t cs) (d:Ext w w1):Row w1 g t cs:=d.block h
theorem Row.keep (h:Row w g t cs) (hb:w1.heap[g]? = w.heap[g]?):Row w1 g t cs:=Eq.trans hb h
theorem Row.drew (h:Row w g t cs):Row w.drew g t cs:=h
theorem Row.alloc (h:Row w g t cs) (o:Obj):Row (w.alloc o) g t cs:=h.keep (Below.heap_alloc w o g h.lt)
theorem Row.grown {row:Option Nat} (h:Row w g t cs) (H:w.grownBy w1 row) (d:some g≠row):Row w1 g t cs:=h.keep (H.block g h.lt d)
theorem Row.away (h:Row w g t cs) {p:Addr} (d:g≠p.block) (u:Value):Row (w.setCell p u) g t cs:=h.keep (Below.heap_setCell w p u g d)
theorem Row.put (h:Row w g t cs) (i:Nat) (u:Value):Row (w.setCell ⟨g,i,none⟩ u) g t (cs.setIfInBounds i u):=by
 unfold Row at h ⊢;simp[World.setCell,Array.getElem?_modify,h]
theorem Row.unlike (h:Row w g t cs) (d:Row w g' t' cs') (H:t≠t'):g≠g':=by
 rintro rfl;unfold Row at h d;rw[h]at d;injection d with d;injection d with _ ht;exact H ht
theorem Row.new (w:World) (t:TypeId) (cs:Array Value):Row (w.alloc (.cells cs t)) w.heap.size t cs:=heap_alloc_new w _
end
def Cells (w:World) (A:Option Addr) (xs:List Value):Prop :=
 xs = []\/∃g o,A=some ⟨g,o,none⟩/\∀i v,xs[i]? = some v->w.cell? ⟨g,o+i,none⟩=some v
section
variable {w w1:World} {A:Option Addr} {xs:List Value}
theorem Cells.nil (w:World) (A:Option Addr):Cells w A []:= .inl rfl
theorem Cells.ext (h:Cells w A xs) (Y:Ext w w1):Cells w1 A xs:=by
 rcases h with h | ⟨g,o,d,H⟩
 ·exact .inl h
 ·exact .inr ⟨g,o,d,fun i v J=>Y.cell (H i v J)⟩
theorem Cells.at_ (h:Cells w A xs) (d:0<xs.length):∃g o,A=some ⟨g,o,none⟩/\∀i v,xs[i]? = some v->w.cell? ⟨g,o+i,none⟩=some v:=by
 rcases h with h | h
 ·rw[h]at d;simp at d
 ·exact h
theorem Cells.of_own {size n c:Nat} (h:w.ownsRow base e size (.slice A n c) n xs):Cells w A xs:=by
 rcases Nat.eq_zero_or_pos xs.length with H | H
 ·exact .inl (List.eq_nil_of_length_eq_zero H)
 ·rcases h.2 with ⟨_,h2⟩ | ⟨g,cap,cur,d,hb,Y,U,J,hs,ht⟩
  ·rw[h.1,h2]at H;simp at H
  ·injection d with hA _ _;subst hA;refine .inr ⟨g,0,rfl,fun i v d=>?_⟩;rw[cell_of_row w g (0+i) cur e (0,0) Y,Nat.zero_add];rw[<-ht,List.getElem?_take]at d;split at d
   ·simpa using d
   ·cases d
end
structure Chg (S:Nat->Prop) (w w':World):Prop where
  os:w'.os=w.os
  tape:w'.tape=w.tape
  output:w'.output=w.output
  size:w.heap.size<=w'.heap.size
  block:∀k,k<w.heap.size->¬ S k->w'.heap[k]? = w.heap[k]?
section
variable {S S':Nat->Prop} {w w1 w2:World}
theorem Chg.refl (S:Nat->Prop) (w:World):Chg S w w:=⟨rfl,rfl,rfl,Nat.le_refl _,fun _ _ _=>rfl⟩
theorem Chg.of_ext (h:Ext w w1) (S:Nat->Prop):Chg S w w1:=⟨Below.os h,Below.tape h,Below.output h,Below.size h,fun k hk _=>Below.block h k hk⟩
theorem Chg.of_grown {row:Option Nat} (h:w.grownBy w1 row) (d:∀k,k<w.heap.size->row=some k->S k):Chg S w w1:=⟨h.os,h.tape,h.output,h.size,fun k hk H=>h.block k hk (fun e=>H (d k hk e.symm))⟩
theorem Chg.of_set (w:World) {a:Addr} (v:Value) (h:S a.block):Chg S w (w.setCell a v) :=
 ⟨rfl,rfl,rfl,by simp[World.setCell],fun k _ d=>Below.heap_setCell w a v k (fun e=>d (by rw[e];exact h))⟩
theorem Chg.trans (h:Chg S w w1) (k:Chg S' w1 w2) (H:∀i,i<w.heap.size->S' i->S i):Chg S w w2 :=
 ⟨k.os.trans h.os,k.tape.trans h.tape,k.output.trans h.output,Nat.le_trans h.size k.size,fun i hi d=>(k.block i (Nat.lt_of_lt_of_le hi h.size) (fun hs=>d (H i hi hs))).trans (h.block i hi d)⟩
theorem Chg.mono (h:Chg S w w1) (d:∀i,i<w.heap.size->S i->S' i):Chg S' w w1:=⟨h.os,h.tape,h.output,h.size,fun i hi H=>h.block i hi (fun hs=>H (d i hi hs))⟩
theorem Chg.ext (h:Chg S w w1) (d:∀i,i<w.heap.size->¬ S i):Ext w w1:=⟨h.os,h.tape,h.output,h.size,fun i hi=>h.block i hi (d i hi)⟩
theorem Ext.chg (h:Ext w w1) (k:Chg S w1 w2) (d:∀i,i<w.heap.size->¬ S i):Ext w w2 :=
 Below.trans h ⟨k.os,k.tape,k.output,k.size,fun i hi=>k.block i (Nat.lt_of_lt_of_le hi h.size) (d i hi)⟩
theorem Chg.cell (h:Chg S w w1) {a:Addr} (d:w.cell? a=some v) (H:¬ S a.block):w1.cell? a=some v :=
 (World.cell?_of_block (h.block a.block (World.block_lt_of_cell? w a d) H)).trans d
theorem Chg.row (h:Chg S w w1) (d:Row w g t cs) (H:¬ S g):Row w1 g t cs:=d.keep (h.block g d.lt H)
theorem Chg.owns (h:Chg S w w1) {size:Nat} (U:w.ownsRow base e size v n xs) (J:∀g,v.ownBlock=some g->¬ S g):w1.ownsRow base e size v n xs:=by
 obtain⟨h1,h2⟩:=U;refine⟨h1,?_⟩;rcases h2 with h2 | ⟨g,cap,cur,H,Y,d,r⟩
 ·exact .inl h2
 ·exact .inr ⟨g,cap,cur,H,Y,(h.block g (Array.getElem?_eq_some_iff.1 d).1 (J g (by rw[H];rfl))).trans d,r⟩
theorem Chg.cells (h:Chg S w w1) (d:Cells w A xs) (Y:∀a,A=some a->¬ S a.block):Cells w1 A xs:=by
 rcases d with d | ⟨g,o,H,d⟩
 ·exact .inl d
 ·exact .inr ⟨g,o,H,fun i v J=>h.cell (d i v J) (show ¬ S g from Y _ H)⟩
end
theorem Ae {size:Nat} (h:w.ownsRow base e size v n xs) (d:v.ownBlock=some g):∃cur,Row w g e cur/\base<=g:=by
 rcases h.2 with ⟨rfl,_⟩ | ⟨g',cap,cur,rfl,hb,H,_⟩
 ·simp[Value.ownBlock]at d
 ·simp[Value.ownBlock]at d;subst d;exact⟨cur,H,hb⟩
theorem Am {size:Nat} (h:w.ownsRow base e size v n xs) (Y:Row w g t cs) (d:e≠t):v.ownBlock≠some g:=fun H=>by
 obtain⟨cur,h1,_⟩:=Ae h H;exact Row.unlike h1 Y d rfl
theorem G3 {size:Nat} (h:w.ownsRow base e size v n xs):∃A c,v = .slice A n c:=by
 rcases h.2 with ⟨rfl,rfl⟩ | ⟨g,cap,cur,rfl,_⟩
 ·exact⟨none,0,rfl⟩
 ·exact⟨_,cap,rfl⟩
section
variable {S:Nat->Prop} {w w1:World}
theorem G2 {size:Nat} (h:w.ownsRow base e size v n xs) {a:Addr} (d:v.ownBlock≠some a.block) (u:Value):(w.setCell a u).ownsRow base e size v n xs :=
 (Chg.of_set (S:=fun k=>k=a.block) w u rfl).owns h fun g H hk=>d (by rw[H,hk])
end
structure Elem (P:Program) (t e size bytes:Nat):Prop where
  ht:P.underlying t=some (.slice e)
  hi:∃i z,P.info? e=some i/\i.zero=some z/\i.size=size/\i.bytes=bytes/\z.cells.size=size
  hs:0<size
  hb:bytes<=1024
theorem Ds {t e size bytes:Nat} (E:Elem P t e size bytes) (w:World) (ty:TypeId) (d:w.ownsRow base e size v n xs) (J:Cells w A news) (hl:news.length=m*size) (h1:∀u∈news,u.oneCell'=true) (q0:n+m<=4294967296) (Y:base<=w.heap.size) :
 ∃A1 c1 w',(Builtin.append_ #[t,t] ty #[v,.slice A m c]).run P w = .ok (.slice A1 (n+m) c1) w'/\w'.ownsRow base e size (.slice A1 (n+m) c1) (n+m) (xs++news)/\w.grownBy w' v.ownBlock /\
  ((Value.slice A1 (n+m) c1).ownBlock=v.ownBlock\/(Value.slice A1 (n+m) c1).ownBlock=some w.heap.size):=by
 suffices hh:∃v' w',(Builtin.append_ #[t,t] ty #[v,.slice A m c]).run P w = .ok v' w'/\w'.ownsRow base e size v' (n+m) (xs++news)/\w.grownBy w' v.ownBlock/\(v'.ownBlock=v.ownBlock\/v'.ownBlock=some w.heap.size)by
  obtain⟨v',w',h1,h2,Z⟩:=hh;obtain⟨A1,c1,rfl⟩:=G3 h2;exact⟨A1,c1,w',h1,h2,Z⟩
 obtain⟨i,z,hi,hz,Z,h4,h5⟩:=E.hi;have H:(n+m)*bytes<=140737488355328:=Nat.le_trans (Nat.mul_le_mul q0 E.hb) (by omega);cases A with
 | some a =>
  have I:∀j u,news[j]? = some u->w.cell? (a.add j)=some u:=by
   intro j u hu;rcases J with J | ⟨g,o,G,I⟩
   ·subst J;simp at hu
   ·cases G;rw[Addr.add_lit];exact I j u hu
  obtain⟨v',w',O,h6,h7,_,h8⟩:=run_append_own_at (P:=P) w base t ty e i z size bytes E.ht hi hz Z h4 h5 E.hs v n xs d a m c news hl I h1 (by unfold maxLen;omega) H Y;exact⟨v',w',O,h6,h7,h8⟩
 | none =>
  have U:news = []:=by
   rcases J with J | ⟨g,o,G,_⟩
   ·exact J
   ·cases G
  subst U;have hm:m=0:=by
   have:=E.hs;rcases Nat.mul_eq_zero.1 (show m*size=0 from hl.symm)with h | h
   ·exact h
   ·omega
  subst hm;refine⟨v,w,?_,by simpa using d,World.grownBy.refl w _,.inl rfl⟩;rcases d.2 with ⟨rfl,rfl⟩ | ⟨g,cap,cur,rfl,_,_,h0,_⟩
  ·simp[Builtin.append_,run_underlying E.ht,sizeOf,typeInfo,hi,Builtin.lenOf,Builtin.firstCells]
  ·simp[Builtin.append_,run_underlying E.ht,sizeOf,typeInfo,hi,Builtin.lenOf,Builtin.firstCells,h0,storeCells]
theorem AV {rest:List Oper} {t e size bytes:Nat} (E:Elem P t e size bytes) (H:w.ownsRow base e size v n xs) (hr:Cells w A news) (s x:Operand)
 (ho:o.op = .call { callee:= .builtin .append,args:=#[s,x],argTypes:=#[t,t] }) (J:o.guard=none)
 (hs:a.eval s=v) (hx:a.eval x = .slice A m' c) (hm:m'=m) (I:news.length=m*size) (h1:∀u∈news,u.oneCell'=true) (U:n+m<=4294967296) (d:base<=w.heap.size)
 (h:∀A1 c1 w',w'.ownsRow base e size (.slice A1 (n+m) c1) (n+m) (xs++news)->w.grownBy w' v.ownBlock->((Value.slice A1 (n+m) c1).ownBlock=v.ownBlock\/(Value.slice A1 (n+m) c1).ownBlock=some w.heap.size)->wpList P ops Q rest (a.put o.dst (.slice A1 (n+m) c1)) w'):wpList P ops Q (o::rest) a w :=
 wpList_plain J fun K G=>by
  subst hm;obtain⟨A1,c1,w',Y,h2,O,Z⟩:=Ds (P:=P) E w o.type H (c:=c) hr I h1 U d;unfold Oper.wp execOp;simp only[ho,resolve,invoke,builtin,Sem.run_bind,Sem.run_pure,Result.andThen_ok,List.map_toArray,List.map_cons,List.map_nil,hs,hx,Y];exact G _ _ (h A1 c1 w' h2 O Z)
theorem La {rest:List Oper} {t e bytes:Nat} (E:Elem P t e 1 bytes) (H:w0.ownsRow base e 1 v n xs) (s x:Operand)
 (G:o.op = .call { callee:= .builtin .append,args:=#[s,x],argTypes:=#[t,t] }) (J:o.guard=none)
 (hs:a.eval s=v) (hx:a.eval x = .slice (some ⟨w0.heap.size,0,none⟩) us.length us.length) (h1:∀u∈us,u.oneCell'=true) (O:n+us.length<=4294967296) (Y:base<=w0.heap.size)
 (h:∀A1 c1 w',w'.ownsRow base e 1 (.slice A1 (n+us.length) c1) (n+us.length) (xs++us)->w0.grownBy w' v.ownBlock->((Value.slice A1 (n+us.length) c1).ownBlock=v.ownBlock\/(Value.slice A1 (n+us.length) c1).ownBlock=some (w0.heap.size+1)) ->
  wpList P ops Q rest (a.put o.dst (.slice A1 (n+us.length) c1)) w') :
 wpList P ops Q (o::rest) a (w0.alloc (.cells us.toArray T)):=by
 refine AV E (((Ext.refl w0).alloc _).owns H) (A:=some ⟨w0.heap.size,0,none⟩) (news:=us) (.inr ⟨w0.heap.size,0,rfl,fun i u I=>?_⟩) s x G J hs hx rfl (by simp) h1 O (by simp;omega) fun A1 c1 w' h2 d Z=>?_
 ·rw[Nat.zero_add,cell_of_row _ _ _ _ _ _ (heap_alloc_new w0 _)];simpa using I
 ·refine h A1 c1 w' h2 ⟨d.os,d.tape,d.output,Nat.le_trans (by simp) d.size,fun k hk U=>(d.block k (by simp;omega) U).trans (Below.heap_alloc w0 _ k hk)⟩ ?_;simpa using Z
theorem Az (h:us.all Value.oneCell'=true):∀u∈us,u.oneCell'=true:=fun u d=>List.all_eq_true.1 h u d
def B8 (c:UInt8):Value:= .int .u8 c.toNat
def Bs (w:World) (A:Option Addr) (l:List UInt8):Prop:=Cells w A (l.map B8)
theorem Bs.ext (h:Bs w A l) (d:Ext w w1):Bs w1 A l:=Cells.ext h d
theorem Bs.at_ (h:Bs w A l) (d:0<l.length) :
 ∃g o,A=some ⟨g,o,none⟩/\∀i (hi:i<l.length),w.cell? ⟨g,o+i,none⟩=some (.int .u8 (l[i].toNat:Int)):=by
 obtain⟨g,o,H,Y⟩:=Cells.at_ h (by simpa using d);exact⟨g,o,H,fun i hi=>Y i _ (by simp[hi,B8])⟩
theorem AQ (ts:Array TypeId) (ty:TypeId) {x y m:Int} (h:m=min x y) (W:World):(Builtin.min_ ts ty #[.int .i64 x,.int .i64 y]).run P W = .ok (.int .i64 m) W:=by
 simp only[Builtin.min_,List.foldlM,Builtin.min2,Sem.run_bind,Sem.run_pure,Result.andThen_ok];subst h;congr 2;split <;> omega
theorem Bs.cut {g o:Nat} (h:Bs w (some ⟨g,o,none⟩) l) (f k:Nat):Cells w (some ⟨g,o+f,none⟩) (((l.drop f).take k).map B8):=by
 rcases h with h | ⟨g',o',H,Y⟩
 ·have:l = []:=by simpa using h
  subst this;exact .inl (by simp)
 ·cases H;refine .inr ⟨g,o+f,rfl,fun i v d=>?_⟩;rw[Nat.add_assoc];refine Y (f+i) v ?_;rw[List.getElem?_map]at d ⊢;rw[List.getElem?_take]at d;split at d
  ·rw[List.getElem?_drop]at d;exact d
  ·simp at d
theorem Ai (l:List UInt8):∀u∈l.map B8,u.oneCell'=true:=by
 intro u h;obtain⟨_,_,rfl⟩:=List.mem_map.1 h;rfl
theorem Bf {a b:Bool} (h:a=b):Ending.returned (.bool a) = .returned (.bool b):=by rw[h]
theorem Fb {k:IntKind} {a b:Int} (h:a=b):Ending.returned (.int k a) = .returned (.int k b):=by rw[h]
end
section
open Go.RowKit
def contB (b:UInt8):Bool:=b.toNat / 64==2
def foldR (n:Nat) (l:List UInt8):Nat:=l.foldl (fun n b=>n*64+b.toNat%64) n
def okR (lo hi n k:Nat) (t:List UInt8):Bool:=decide (k<=t.length)&&(t.take k).all contB&&decide (lo<=foldR n (t.take k))&&decide (foldR n (t.take k)<=hi) && !(decide (55296<=foldR n (t.take k))&&decide (foldR n (t.take k)<=57343))
def decR:List UInt8->Nat×Nat
 | []=>(0,0)
 | b::t =>
  if b.toNat<128 then (b.toNat,1)
  else if b.toNat / 32==6&&okR 128 2047 (b.toNat%32) 1 t then (foldR (b.toNat%32) (t.take 1),2)
  else if b.toNat / 16==14&&okR 2048 65535 (b.toNat%16) 2 t then (foldR (b.toNat%16) (t.take 2),3)
  else if b.toNat / 8==30&&okR 65536 1114111 (b.toNat%8) 3 t then (foldR (b.toNat%8) (t.take 3),4)
  else (65533,1)
def runesF:Nat->List UInt8->List Nat
 | 0,_=> []
 | _,[]=> []
 | k+1,b::t=>(decR (b::t)).1::runesF k ((b::t).drop (decR (b::t)).2)
def runesL (l:List UInt8):List Nat:=runesF l.length l
theorem L7 {lo hi n k:Nat} {t:List UInt8} (h:okR lo hi n k t=true):k<=t.length:=by
 unfold okR at h;simp only[Bool.and_eq_true,decide_eq_true_eq]at h;exact h.1.1.1.1
theorem FA (b:UInt8) (t:List UInt8):1<=(decR (b::t)).2/\(decR (b::t)).2<=t.length+1:=by
 rw[decR];split
 ·exact⟨Nat.le_refl _,Nat.le_add_left _ _⟩
 ·split
  ·rename_i h;simp only[Bool.and_eq_true]at h;have:=L7 h.2;exact⟨by simp,by simp;omega⟩
  ·split
   ·rename_i h;simp only[Bool.and_eq_true]at h;have:=L7 h.2;exact⟨by simp,by simp;omega⟩
   ·split
    ·rename_i h;simp only[Bool.and_eq_true]at h;have:=L7 h.2;exact⟨by simp,by simp;omega⟩
    ·exact⟨Nat.le_refl _,Nat.le_add_left _ _⟩
theorem L4 {lo hi n k:Nat} {t:List UInt8} (h:okR lo hi n k t=true):foldR n (t.take k)<=hi:=by
 unfold okR at h;simp only[Bool.and_eq_true,decide_eq_true_eq]at h;exact h.1.2
theorem QF (l:List UInt8):(decR l).1<=1114111:=by
 cases l with
 | nil=>exact Nat.zero_le _
 | cons b t =>
  rw[decR];split
  ·have:=b.toNat_lt;simp;omega
  ·split
   ·rename_i h;simp only[Bool.and_eq_true]at h;have:=L4 h.2;simp;omega
   ·split
    ·rename_i h;simp only[Bool.and_eq_true]at h;have:=L4 h.2;simp;omega
    ·split
     ·rename_i h;simp only[Bool.and_eq_true]at h;exact L4 h.2
     ·decide
theorem Gf:∀(k m:Nat) (l:List UInt8),l.length<=k->l.length<=m->runesF k l=runesF m l
 | 0,0,_,_,_=>rfl
 | 0,m+1,[],_,_=>by simp[runesF]
 | k+1,0,[],_,_=>by simp[runesF]
 | k+1,m+1,[],_,_=>by simp[runesF]
 | 0,m+1,b::t,h,_=>by simp at h
 | k+1,0,b::t,_,h=>by simp at h
 | k+1,m+1,b::t,h,h2=>by
  have:=FA b t;simp only[List.length_cons]at h h2;unfold runesF;rw[Gf k m _ (by rw[List.length_drop,List.length_cons];omega) (by rw[List.length_drop,List.length_cons];omega)]
theorem Hm:runesL [] = []:=rfl
theorem KU (b:UInt8) (t:List UInt8):runesL (b::t)=(decR (b::t)).1::runesL ((b::t).drop (decR (b::t)).2):=by
 have:=FA b t;unfold runesL;rw[List.length_cons,runesF];congr 1;exact Gf _ _ _ (by rw[List.length_drop,List.length_cons];omega) (Nat.le_refl _)
theorem I3 {at_:Nat} (h:at_<s.length):runesL (s.drop at_)=(decR (s.drop at_)).1::runesL (s.drop (at_+(decR (s.drop at_)).2))/\1<=(decR (s.drop at_)).2/\at_+(decR (s.drop at_)).2<=s.length:=by
 obtain⟨b,t,d⟩:∃b t,s.drop at_=b::t:=by
  cases hd:s.drop at_ with
  | nil=>rw[List.drop_eq_nil_iff]at hd;omega
  | cons b t=>exact⟨b,t,rfl⟩
 have hs:=FA b t;have H:(b::t).length=s.length - at_:=by rw[<-d,List.length_drop]
 simp only[List.length_cons]at H;refine⟨?_,?_,?_⟩
 ·rw[<-List.drop_drop,d,KU]
 ·rw[d];exact hs.1
 ·rw[d];omega
theorem I4 (l:List UInt8):∀r∈runesL l,r<=1114111:=by
 have key:∀(k:Nat) (l:List UInt8),∀r∈runesF k l,r<=1114111:=by
  intro k
  induction k with
  | zero=>intro l r h;cases h
  | succ k ih =>
   intro l r h;cases l with
   | nil=>cases h
   | cons b t =>
    rw[runesF,List.mem_cons]at h;rcases h with rfl | h
    ·exact QF _
    ·exact ih _ r h
 exact key _ l
theorem EG (l:List UInt8):(runesL l).length<=l.length:=by
 have key:∀(k:Nat) (l:List UInt8),(runesF k l).length<=k:=by
  intro k
  induction k with
  | zero=>intro l;exact Nat.le_refl _
  | succ k ih =>
   intro l;cases l with
   | nil=>exact Nat.zero_le _
   | cons b t=>rw[runesF,List.length_cons];exact Nat.succ_le_succ (ih _)
 exact key _ l
def lowerR (r:Nat):Nat :=
 if (65<=r/\r<=90)\/(192<=r/\r<=222/\r≠215)\/(913<=r/\r<=939/\r≠930)\/(1040<=r/\r<=1071) then r+32 else if 1024<=r/\r<=1039 then r+80 else r
def wordR (r:Nat):Bool :=
 decide ((48<=r/\r<=57)\/(65<=r/\r<=90)\/(97<=r/\r<=122)\/(192<=r/\r<=255/\r≠215/\r≠247)\/(913<=r/\r<=974/\r≠930)\/(1024<=r/\r<=1119))
def u8 (n:Nat):UInt8:=UInt8.ofNat n
def encO (r:Nat):List UInt8 :=
 if r<128 then [u8 r] else if r<2048 then [u8 (192+r / 64),u8 (128+r%64)] else if r<65536 then [u8 (224+r / 4096),u8 (128+r / 64%64),u8 (128+r%64)]
 else [u8 (240+r / 262144),u8 (128+r / 4096%64),u8 (128+r / 64%64),u8 (128+r%64)]
def badR (r:Nat):Bool:=decide (1114111<r) || (decide (55296<=r)&&decide (r<=57343))
def encR (r:Nat):List UInt8:=if badR r then encO 65533 else encO r
theorem J6 (r:Nat):1<=(encO r).length/\(encO r).length<=4:=by
 unfold encO;split
 ·exact⟨by simp,by simp⟩
 ·split
  ·exact⟨by simp,by simp⟩
  ·split
   ·exact⟨by simp,by simp⟩
   ·exact⟨by simp,by simp⟩
theorem ES (r:Nat):1<=(encR r).length/\(encR r).length<=4:=by
 unfold encR;split
 ·exact J6 _
 ·exact J6 _
theorem IJ {r:Nat} (h:r<=1114111):lowerR r<=1114191:=by
 unfold lowerR;split
 ·omega
 ·split <;> omega
def cutW (s:List UInt8):List Nat->List UInt8
 | []=>s
 | r::rs=>if 32<s.length+(encR (lowerR r)).length then s else cutW (s++encR (lowerR r)) rs
theorem JZ:∀(rs:List Nat) (s:List UInt8),s.length<=32->(cutW s rs).length<=32
 | [],s,h=>h
 | r::rs,s,h=>by
  unfold cutW;split
  ·exact h
  ·exact JZ rs _ (by rw[List.length_append];omega)
def runsW:List Nat->List Nat->List (List Nat)
 | cur,[]=>if cur = [] then [] else [cur]
 | cur,r::rs=>if wordR r then runsW (cur ++ [r]) rs else if cur = [] then runsW [] rs else cur::runsW [] rs
def tokL (s:List UInt8):List (List UInt8):=(runsW [] (runesL s)).map (cutW [])
theorem FO:∀(rs cur:List Nat),(runsW cur rs).length<=rs.length+1/\(cur = []->(runsW cur rs).length<=rs.length)
 | [],cur=>by
  unfold runsW;by_cases h:cur = []
  ·simp[h]
  ·simp[h]
 | r::rs,cur=>by
  unfold runsW;have h1:=FO rs (cur ++ [r]);have h2:=FO rs [];have H:=h2.2 rfl;simp only[List.length_cons];split
  ·exact⟨by omega,fun _=>by omega⟩
  ·split
   ·exact⟨by omega,fun _=>by omega⟩
   ·rename_i d;exact⟨by simp only[List.length_cons];omega,fun h=>absurd h d⟩
theorem CK (s:List UInt8):(tokL s).length<=s.length:=by
 unfold tokL;rw[List.length_map];exact Nat.le_trans ((FO _ _).2 rfl) (EG s)
end
section
open Go.RowKit
def Buf (w:World) (base:Nat) (e:TypeId) (A:Option Addr) (n c:Nat) (xs:List Value):Prop :=
 xs.length=n/\n<=c/\((A=none/\c=0)\/∃g cur,A=some ⟨g,0,none⟩/\base<=g/\Row w g e cur/\c<=cur.size/\cur.toList.take n=xs)
section
variable {w w1:World} {base:Nat} {e:TypeId} {A:Option Addr} {n c:Nat} {xs:List Value}
theorem Buf.nil (w:World) (base:Nat) (e:TypeId):Buf w base e none 0 0 []:=⟨rfl,Nat.le_refl _,.inl ⟨rfl,rfl⟩⟩
theorem Buf.of_own (h:w.ownsRow base e 1 (.slice A n c) n xs):Buf w base e A n c xs:=by
 obtain⟨h1,h2⟩:=h;rcases h2 with ⟨d,rfl⟩ | ⟨g,cap,cur,d,hb,H,Y,_,hs,ht⟩
 ·cases d;exact⟨by simpa using h1,Nat.le_refl _,.inl ⟨rfl,rfl⟩⟩
 ·cases d;exact⟨by simpa using h1,Y,.inr ⟨g,cur,rfl,hb,H,by omega,by simpa using ht⟩⟩
theorem Buf.cells (h:Buf w base e A n c xs):Cells w A xs:=by
 obtain⟨h1,h2,H⟩:=h;rcases H with ⟨rfl,rfl⟩ | ⟨g,cur,rfl,hb,Y,hs,ht⟩
 ·exact .inl (List.eq_nil_of_length_eq_zero (by omega))
 ·refine .inr ⟨g,0,rfl,fun i v d=>?_⟩;rw[Nat.zero_add,cell_of_row w g i cur e (0,0) Y];rw[<-ht,List.getElem?_take]at d;split at d
  ·simpa using d
  ·cases d
theorem Buf.keep (h:Buf w base e A n c xs) (hk:∀g,A=some ⟨g,0,none⟩->w1.heap[g]? = w.heap[g]?):Buf w1 base e A n c xs:=by
 obtain⟨h1,h2,d⟩:=h;refine⟨h1,h2,?_⟩;rcases d with d | ⟨g,cur,H,hb,Y,r⟩
 ·exact .inl d
 ·exact .inr ⟨g,cur,H,hb,Y.keep (hk g H),r⟩
theorem Buf.lt (h:Buf w base e A n c xs):∀a,A=some a->a.block<w.heap.size:=by
 rintro a rfl;obtain⟨_,_,d⟩:=h;rcases d with ⟨d,_⟩ | ⟨g,cur,H,hb,Y,r⟩
 ·cases d
 ·cases H;exact Y.lt
theorem Buf.base_le (h:Buf w base e A n c xs):∀a,A=some a->base<=a.block:=by
 rintro a rfl;obtain⟨_,_,d⟩:=h;rcases d with ⟨d,_⟩ | ⟨g,cur,H,hb,Y,r⟩
 ·cases d
 ·cases H;exact hb
theorem Buf.chg (h:Buf w base e A n c xs) (H:Chg S w w1) (Y:∀a,A=some a->¬ S a.block):Buf w1 base e A n c xs :=
 h.keep fun g d=>H.block g (h.lt _ d) (Y _ d)
theorem Buf.grown {row:Option Nat} (h:Buf w base e A n c xs) (Y:w.grownBy w1 row) (d:∀a,A=some a->row≠some a.block):Buf w1 base e A n c xs :=
 h.keep fun g H=>Y.block g (h.lt _ H) (fun e=>d _ H e.symm)
theorem Buf.ext (h:Buf w base e A n c xs) (H:Ext w w1):Buf w1 base e A n c xs:=h.keep fun g d=>Below.block H g (h.lt _ d)
theorem Buf.alloc (h:Buf w base e A n c xs) (o:Obj):Buf (w.alloc o) base e A n c xs:=h.ext ((Ext.refl w).alloc o)
theorem Buf.drew (h:Buf w base e A n c xs):Buf w.drew base e A n c xs:=h.keep fun _ _=>rfl
theorem Buf.setCell (h:Buf w base e A n c xs) {p:Addr} (H:∀a,A=some a->a.block≠p.block) (u:Value):Buf (w.setCell p u) base e A n c xs :=
 h.keep fun g d=>Below.heap_setCell w p u g (H _ d)
theorem Buf.unlike (h:Buf w base e A n c xs) (U:Row w g t cs) (H:e≠t):∀a,A=some a->a.block≠g:=by
 rintro a rfl;obtain⟨_,_,d⟩:=h;rcases d with ⟨d,_⟩ | ⟨k,cur,Y,hb,J,r⟩
 ·cases d
 ·cases Y;exact J.unlike U H
theorem Buf.cut (h:Buf w base e A n c xs) (U:m<=n) (hk:m<=k) (J:k<=c):Buf w base e A m k (xs.take m):=by
 obtain⟨h1,h2,H⟩:=h;refine⟨by rw[List.length_take];omega,hk,?_⟩;rcases H with ⟨d,H⟩ | ⟨g,cur,d,hb,Y,hs,ht⟩
 ·exact .inl ⟨d,by omega⟩
 ·refine .inr ⟨g,cur,d,hb,Y,by omega,?_⟩;rw[<-ht,List.take_take,Nat.min_eq_left U]
theorem Buf.lower (h:Buf w base e A n c xs) (hb:b<=base):Buf w b e A n c xs:=by
 obtain⟨h1,h2,d⟩:=h;refine⟨h1,h2,?_⟩;rcases d with d | ⟨g,cur,H,Y,r⟩
 ·exact .inl d
 ·exact .inr ⟨g,cur,H,by omega,r⟩
end
theorem EW (w:World) (g:Nat) (cs:Array Value):w.grownBy (w.setRow g cs) (some g) :=
 ⟨rfl,rfl,rfl,by simp[World.setRow],fun k _ h=>setRow_other w g k cs (fun e=>h (by rw[e]))⟩
theorem Gx {t e bytes:Nat} (E:Elem P t e 1 bytes) (w:World) (ty:TypeId) (hb:Buf w base e A n c xs)
 {B:Option Addr} (O:Cells w B news) (hl:news.length=m) (h1:∀u∈news,u.oneCell'=true) (q0:n+m<=4294967296) (H:base<=w.heap.size) :
 ∃A1 c1 w',(Builtin.append_ #[t,t] ty #[.slice A n c,.slice B m c']).run P w = .ok (.slice A1 (n+m) c1) w'/\Buf w' base e A1 (n+m) c1 (xs++news)/\w.grownBy w' (Value.slice A n c).ownBlock /\
  (A1=A\/A1=some ⟨w.heap.size,0,none⟩):=by
 obtain⟨i,z,hi,hz,Z,h4,h5⟩:=E.hi;have p0:(n+m)*bytes<=4398046511104:=Nat.le_trans (Nat.mul_le_mul q0 E.hb) (by omega);obtain⟨hx,x0,hA⟩:=hb;rcases hA with ⟨rfl,rfl⟩ | ⟨g,cur,rfl,G,hg,hs,ht⟩
 ·obtain rfl:n=0:=by omega
  obtain rfl:xs = []:=List.eq_nil_of_length_eq_zero hx;obtain⟨A1,c1,w',h0,ho,v0,d⟩:=Ds E w ty (base:=base) (v:= .slice none 0 0) (n:=0) (xs:= []) ⟨rfl,.inl ⟨rfl,rfl⟩⟩ (c:=c') O (by omega) h1 q0 H;refine⟨A1,c1,w',h0,Buf.of_own ho,v0,?_⟩;rcases ho.2 with ⟨J,_⟩ | ⟨g,cap,cur,J,_⟩
  ·injection J with hA1 _ _;exact .inl hA1
  ·injection J with hA1 _ _;subst hA1;rcases d with d | d
   ·simp[Value.ownBlock]at d
   ·simp[Value.ownBlock]at d;subst d;exact .inr rfl
 ·cases B with
  | none =>
   have I:news = []:=by
    rcases O with O | ⟨_,_,hB,_⟩
    ·exact O
    ·cases hB
   subst I;obtain rfl:m=0:=by simpa using hl.symm
   refine⟨some ⟨g,0,none⟩,c,w,?_,⟨by simpa using hx,by omega,.inr ⟨g,cur,rfl,G,hg,hs,by simpa using ht⟩⟩,World.grownBy.refl w _,.inl rfl⟩;simp[Builtin.append_,run_underlying E.ht,sizeOf,typeInfo,hi,Builtin.lenOf,Builtin.firstCells,x0,storeCells]
  | some a =>
   have hc:∀j u,news[j]? = some u->w.cell? (a.add j)=some u:=by
    intro j u hu;rcases O with O | ⟨g',o',hB,hc⟩
    ·subst O;simp at hu
    ·cases hB;rw[Addr.add_lit];exact hc j u hu
   by_cases Y:n+m<=c
   ·refine⟨some ⟨g,0,none⟩,c,_,run_append_room w t ty e i E.ht hi g n c cur hg a m c' news (by rw[Z];omega) hc h1 Y (by rw[Z];omega),⟨by rw[List.length_append];omega,Y,.inr ⟨g,_,rfl,G,setRow_heap w g cur _ e (0,0) hg,?_,?_⟩⟩,EW w g _,.inl rfl⟩
    ·simp[Z];omega
    ·have y0:(List.take (n*i.size) cur.toList)=xs:=by rw[Z,Nat.mul_one];exact ht
     simp only[y0];rw[List.take_append_of_le_length (by rw[List.length_append];omega),List.take_of_length_le (by rw[List.length_append];omega)]
   ·have m0:=nextslicecap_le (need:=n+m) (old:=c) (by omega);have l0:Builtin.nextslicecap (n+m) c*bytes<=2*(n+m)*bytes:=Nat.mul_le_mul_right _ m0;have n0:2*(n+m)*bytes=2*((n+m)*bytes):=Nat.mul_assoc _ _ _;have t0:=grownCap_ge w (n+m) c e;have U:∀(j:Nat) (v:Value),xs[j]? = some v->w.cell? (Addr.add ⟨g,0,none⟩ j)=some v:=by
     intro j v J;rw[Addr.add_lit,Nat.zero_add,cell_of_row w g j cur e (0,0) hg];rw[<-ht,List.getElem?_take]at J;split at J
     ·simpa using J
     ·cases J
    refine⟨some ⟨w.heap.size,0,none⟩,grownCap w (n+m) c e,_,run_append_grow w t ty e i z E.ht hi hz ⟨g,0,none⟩ n c xs (by rw[Z];omega) U a m c' news (by rw[Z];omega) hc (by omega) (by omega) (by rw[h4];omega),⟨by rw[List.length_append];omega,t0,.inr ⟨w.heap.size,_,rfl,H,heap_alloc_new w.drew _,?_,?_⟩⟩,?_,.inr rfl⟩
    ·simp only[Array.size_append,List.size_toArray,size_zeroCells,h5];omega
    ·simp only[Array.toList_append];rw[List.take_append_of_le_length (by rw[List.length_append];omega),List.take_of_length_le (by rw[List.length_append];omega)]
    ·exact(Ext.refl w |>.drew.alloc _) |> fun h=>⟨Below.os h,Below.tape h,Below.output h,Below.size h,fun k hk _=>Below.block h k hk⟩
end
section
open Go.RowKit
theorem follows:prog.follows .mixedOrders=true:=by kernel_rfl
theorem Kn {α:Type} (h:Array α) (x:α) (f:α->α):(h.push x).modify h.size f=h.push (f x):=by
 apply Array.ext
 ·simp
 ·intro i h1 h2;simp only[Array.getElem_modify,Array.getElem_push];simp only[Array.size_push]at h2;split
  ·rename_i d;subst d;rw[dif_neg (by omega),dif_neg (by omega)]
  ·rename_i d;rw[dif_pos (by omega),dif_pos (by omega)]
theorem GO (w:World) (cs:Array Value) (t:TypeId) (n:Nat):(w.alloc (.cells cs t)).freeze ⟨w.heap.size,n,none⟩ 1=w.alloc (.cells cs t (n,n+1)):=by
 unfold World.freeze World.alloc;rw[if_neg (by omega)];simp only[Kn];rfl
theorem Aw:Elem prog 25 5 1 1:=⟨underlying25,⟨_,_,rfl,rfl,rfl,rfl,rfl⟩,by omega,by omega⟩
theorem RK (w:World):(binOp .eql 25 (.slice none 0 0) (.slice none 0 0)).run prog w = .ok (.bool true) w:=by kernel_rfl
theorem RM (a:Addr) (n c:Nat) (w:World):(binOp .eql 25 (.slice (some a) n c) (.slice none 0 0)).run prog w = .ok (.bool false) w:=by kernel_rfl
theorem Cy (h:n=m):Ending.returned (.slice A n c) = .returned (.slice A m c):=by rw[h]
theorem IN (w:World) (t:TypeId):(w.alloc (.cells #[] t)).ownsRow w.heap.size t 1 (.slice (some ⟨w.heap.size,0,none⟩) 0 0) 0 [] :=
 ⟨rfl,.inr ⟨w.heap.size,0,#[],rfl,Nat.le_refl _,heap_alloc_new w _,Nat.le_refl _,by unfold maxLen;omega,rfl,rfl⟩⟩
theorem P4 (w:World) (cs:Array Value) (n c:Nat):(convert 25 25 (.slice (some ⟨w.heap.size,0,none⟩) n c)).run prog (w.alloc (.cells cs 5)) = .ok (.slice (some ⟨w.heap.size,0,none⟩) n c) (w.alloc (.cells cs 5 (cs.size,cs.size+1))):=by
 have hs:(w.alloc (.cells cs 5)).shape? w.heap.size=some (5,cs.size):=by
  unfold World.shape?;rw[heap_alloc_new w _]
 unfold convert;simp only[Sem.run_bind,run_underlying underlying25,Result.andThen_ok];show Sem.run _ (do
  let __do_lift <-underlying 5
  match (25:TypeId)==25,__do_lift with
   | true,TypeDesc.int IntKind.u8=>do
    markStringish ⟨w.heap.size,0,none⟩
    pure (Value.slice (some ⟨w.heap.size,0,none⟩) n c)
   | x,x_1=>unsupported (Unsupported.noEntry "convert/other")) _ = _
 simp only[Sem.run_bind,run_underlying underlying5,Result.andThen_ok];show Sem.run _ (do
  markStringish ⟨w.heap.size,0,none⟩
  pure (Value.slice (some ⟨w.heap.size,0,none⟩) n c)) _=_
 unfold markStringish;simp only[Sem.run_bind,run_shape,Result.andThen_ok,hs,run_freeze,GO,Sem.run_pure]
theorem CT (h:Bs w A l) (n c:Nat) (Y:n=l.length):(convert 25 9 (.slice A n c)).run prog w = .ok (.string ⟨l.toArray⟩) w:=by
 subst Y;rcases Nat.eq_zero_or_pos l.length with d | d
 ·obtain rfl:=List.eq_nil_of_length_eq_zero d;show (convert 25 9 (.slice A 0 c)).run prog w=_;rw[run_convert_bytes_string w 25 9 5 A 0 c underlying25 underlying5 underlying9];cases A with
  | none=>rfl
  | some a=>exact run_bytesToString w a 0 c [] rfl
 ·obtain⟨g,o,rfl,H⟩:=h.at_ d;have:=run_convert_bytes_arg (P:=prog) w 25 5 underlying25 underlying5 g o l.length c (l.map fun x=>(x.toNat:Int)) (by simp) (fun i hi=>by rw[H i hi];simp[List.getD,hi]) 9 underlying9;rw[this];unfold strOfNums;have e:(l.map fun x=>(x.toNat:Int)).map (fun n=>UInt8.ofNat n.toNat)=l:=by
   rw[List.map_map]
   conv=>rhs;rw[<-List.map_id l]
   exact List.map_congr_left (fun x _=>by simp)
  rw[e]
theorem Al {rest:List Oper} {t e bytes:Nat} (E:Elem P t e 1 bytes) {A B:Option Addr} (hb:Buf w base e A n c xs) (hr:Cells w B news) (s x:Operand)
 (ho:o.op = .call { callee:= .builtin .append,args:=#[s,x],argTypes:=#[t,t] }) (J:o.guard=none)
 (hs:a.eval s = .slice A n c) (hx:a.eval x = .slice B m' c') (hm:m'=m) (hl:news.length=m) (h1:∀u∈news,u.oneCell'=true) (U:n+m<=4294967296) (d:base<=w.heap.size)
 (h:∀A1 c1 w',Buf w' base e A1 (n+m) c1 (xs++news)->w.grownBy w' (Value.slice A n c).ownBlock->(∀w0,Ext w0 w->w0.heap.size<=base->Ext w0 w')->(A1=A\/A1=some ⟨w.heap.size,0,none⟩)->wpList P ops Q rest (a.put o.dst (.slice A1 (n+m) c1)) w'):wpList P ops Q (o::rest) a w :=
 wpList_plain J fun K I=>by
  subst hm;obtain⟨A1,c1,w',H,h2,O,Z⟩:=Gx (P:=P) E w o.type hb (c':=c') hr hl h1 U d;unfold Oper.wp execOp;simp only[ho,resolve,invoke,builtin,Sem.run_bind,Sem.run_pure,Result.andThen_ok,List.map_toArray,List.map_cons,List.map_nil,hs,hx,H];refine I _ _ (h A1 c1 w' h2 O (fun w0 G hw=>G.grown O fun k hk=>?_) Z);have Y:=hb.base_le;cases A with
  | none=>simp[Value.ownBlock]at hk
  | some b =>
   have:=Y b rfl;simp[Value.ownBlock]at hk;omega
theorem Au {rest:List Oper} {t e bytes:Nat} (E:Elem P t e 1 bytes) (hb:Buf w0 base e A n c xs) (s x:Operand)
 (Z:o.op = .call { callee:= .builtin .append,args:=#[s,x],argTypes:=#[t,t] }) (H:o.guard=none)
 (hs:a.eval s = .slice A n c) (I:a.eval x = .slice (some ⟨w0.heap.size,0,none⟩) us.length us.length) (h1:∀u∈us,u.oneCell'=true) (J:n+us.length<=4294967296) (d:base<=w0.heap.size)
 (h:∀A1 c1 w',Buf w' base e A1 (n+us.length) c1 (xs++us)->(∀w00,Ext w00 w0->w00.heap.size<=base->Ext w00 w')->wpList P ops Q rest (a.put o.dst (.slice A1 (n+us.length) c1)) w') :
 wpList P ops Q (o::rest) a (w0.alloc (.cells us.toArray T)):=by
 refine Al E (hb.alloc _) (B:=some ⟨w0.heap.size,0,none⟩) (news:=us) (.inr ⟨w0.heap.size,0,rfl,fun i u G=>?_⟩) s x Z H hs I rfl rfl h1 J (by simp;omega) fun A1 c1 w' h2 _ U _=>h A1 c1 w' h2 fun w00 O Y=>U w00 (O.alloc _) Y;rw[Nat.zero_add,cell_of_row _ _ _ _ _ _ (heap_alloc_new w0 _)];simpa using G
theorem Buf.none_cap (h:Buf w base e A n c xs) (d:A=none):c=0:=by
 rcases h.2.2 with ⟨_,h⟩ | ⟨g,_,h,_⟩
 ·exact h
 ·rw[h]at d;cases d
def NewB (w:World) (l:List UInt8) (e:Ending) (w':World):Prop:=∃A c,e = .returned (.slice A l.length c)/\Buf w' w.heap.size 5 A l.length c (l.map B8)/\Ext w w'
theorem Ll (l:List UInt8) (k:Nat):(⟨l.toArray⟩:ByteArray).extract 0 k=⟨(l.take k).toArray⟩:=by
 have:((⟨l.toArray⟩:ByteArray).extract 0 k).data=(l.take k).toArray:=by
  simp
 generalize (⟨l.toArray⟩:ByteArray).extract 0 k=x at this;cases x;simp only at this;rw[this]
theorem CU (l:List UInt8) (k:Nat) (hk:k<=l.length) (W:World):(Instr.sliceAt 9 (.string ⟨l.toArray⟩) none (some (.int .i64 k)) none).run prog W = .ok (.string ⟨(l.take k).toArray⟩) W:=by
 rw[run_sliceAt_string W 9 _ _ _ _ underlying9];have h:(⟨l.toArray⟩:ByteArray).size=l.length:=ByteArray.size_mk_toArray l;simp only[Instr.slice,Sem.run_bind,run_underlying underlying9,Result.andThen_ok,Instr.sliceBounds,h,Option.isSome_none,Bool.false_eq_true,if_false,Sem.run_pure];rw[run_sliceBound W .i64 (k:Int) l.length _ (by omega) (by omega)];simp only[Result.andThen_ok,Int.toNat_natCast,Ll]
theorem Jy (hk:k<=l.length) (h:z=(k:Int)) (W:World):(Instr.sliceAt 9 (.string ⟨l.toArray⟩) none (some (.int .i64 z)) none).run prog W = .ok (.string ⟨(l.take k).toArray⟩) W:=by
 subst h;exact CU l k hk W
theorem AB {b:UInt8} (h:l[i]? = some b) (H:z=(i:Int)) (W:World):(Instr.index 9 (.string ⟨l.toArray⟩) (.int .i64 z)).run prog W = .ok (.int .u8 (b.toNat:Int)) W:=by
 subst H;have hi:=(List.getElem?_eq_some_iff.1 h).1;have h2:=(List.getElem?_eq_some_iff.1 h).2;have d:(⟨l.toArray⟩:ByteArray).size=l.length:=ByteArray.size_mk_toArray l;rw[run_index_string W 9 _ .i64 (i:Int) underlying9,dif_pos ⟨by omega,by rw[d];omega⟩];have:((⟨l.toArray⟩:ByteArray)[(i:Int).toNat]'(by rw[d];omega))=b:=by
  rw[<-h2];simp only[Int.toNat_natCast];rfl
 rw[this]
theorem Lk (l:List UInt8) (k:Nat):(⟨l.toArray⟩:ByteArray).extract k l.length=⟨(l.drop k).toArray⟩:=by
 have:((⟨l.toArray⟩:ByteArray).extract k l.length).data=(l.drop k).toArray:=by
  simp;exact List.take_of_length_le (by rw[List.length_drop];exact Nat.le_refl _)
 generalize (⟨l.toArray⟩:ByteArray).extract k l.length=x at this;cases x;simp only at this;rw[this]
theorem Ge (l:List UInt8) (k:Nat) (hk:k<=l.length) (d:z=(k:Int)) (W:World):(Instr.sliceAt 9 (.string ⟨l.toArray⟩) (some (.int .i64 z)) none none).run prog W = .ok (.string ⟨(l.drop k).toArray⟩) W:=by
 subst d;rw[run_sliceAt_string W 9 _ _ _ _ underlying9];have h:(⟨l.toArray⟩:ByteArray).size=l.length:=ByteArray.size_mk_toArray l;simp only[Instr.slice,Sem.run_bind,run_underlying underlying9,Result.andThen_ok,Instr.sliceBounds,h,Option.isSome_none,Bool.false_eq_true,if_false,Sem.run_pure];rw[run_sliceBound W .i64 (k:Int) l.length _ (by omega) (by omega)];simp only[Result.andThen_ok,Int.toNat_natCast,Lk]
def inB (lo hi but r:Int):Bool:=decide (lo<=r)&&decide (r<=hi)&&(r != but)
theorem LN (lo hi but r:Int) (w:World):Calls prog 204 #[.agg #[.int .i64 lo,.int .i64 hi,.int .i64 but],.int .i64 r] w fun e w'=>e = .returned (.bool (inB lo hi but r))/\Ext w w':=by
 unfold inB
 go_in
 go_wp2
 all_goals
  go_ret;refine⟨?_,(Ext.refl w).alloc _⟩
  simp_all
  try (intros;omega)
theorem C3 (r:Int) (w:World):Calls prog 254 #[.int .i64 r] w fun e w'=>e = .returned (.bool (decide (55296<=r)&&decide (r<=57343)))/\w'=w:=by
 go_in
 go_wp2
 all_goals
  go_ret
  simp_all
  try (intros;omega)
def formC:Array Value:=#[.int .i64 2,.int .u8 224,.int .u8 192,.int .i64 128,.int .i64 2047,.int .i64 (-1),.int .i64 3,.int .u8 240,.int .u8 224,.int .i64 2048,.int .i64 65535,.int .i64 (-1),.int .i64 4,.int .u8 248,.int .u8 240,.int .i64 65536,.int .i64 1114111,.int .i64 (-1)]
theorem NN (w:World):Calls prog 253 #[] w fun e w'=>e = .returned (.agg formC)/\Ext w w':=by
 have d:=Row.new w 352 formC;have h:Ext w (w.alloc (.cells formC 352)):=(Ext.refl w).alloc _;replace d:=Aa d;replace h:=Aa h
 go_in
 go_wp2_with fail;exact bodyPost_ret (results_cell_row rfl _ _ w.heap.size 352 formC (0,0) _ rfl d.out underlying352 rfl (by kernel_rfl)) rfl ⟨rfl,h.out⟩
theorem FM (s:List UInt8) (w:World):∃c w1,(convert 9 25 (.string ⟨s.toArray⟩)).run prog w = .ok (.slice (some ⟨w.heap.size,0,none⟩) s.length c) w1/\Bs w1 (some ⟨w.heap.size,0,none⟩) s/\Ext w w1/\w1.heap.size=w.heap.size+1:=by
 refine⟨grownCap w s.length 0 5,Lib.bytesWorld w 5 ⟨s.toArray⟩,?_,?_,?_,Lib.bytesWorld_size _ _ _⟩
 ·exact Lib.run_convert_string_bytes w 9 25 5 ⟨s.toArray⟩ underlying9 underlying25 underlying5
 ·refine .inr ⟨w.heap.size,0,rfl,fun i v d=>?_⟩;rw[List.getElem?_map]at d;obtain⟨b,hb,rfl⟩:=Option.map_eq_some_iff.1 d;have hi:=(List.getElem?_eq_some_iff.1 hb).1;have h:=Lib.bytesWorld_cell w 5 ⟨s.toArray⟩ i (by rw[ByteArray.size_mk_toArray];exact hi);rw[Nat.zero_add,h];unfold B8;simp[List.getD,hb]
 ·unfold Lib.bytesWorld;rw[show w.heap.size=w.drew.heap.size from rfl,GO];exact(Ext.refl w).drew.alloc _
structure Frm where
  k:Nat
  msk:Nat
  hd:Nat
  lo:Nat
  hi:Nat
  d:Nat
  q:Nat
def frm (i:Nat):Frm:=if i=0 then ⟨1,224,192,128,2047,32,6⟩ else if i=1 then ⟨2,240,224,2048,65535,16,14⟩ else ⟨3,248,240,65536,1114111,8,30⟩
def Frm.cells (f:Frm):Array Value:=#[.int .i64 ((f.k:Int)+1),.int .u8 (f.msk:Int),.int .u8 (f.hd:Int),.int .i64 (f.lo:Int),.int .i64 (f.hi:Int),.int .i64 (-1)]
theorem three (h:i<3):i=0\/i=1\/i=2:=by omega
theorem D3 (hi:i<3) (W:World):(Instr.index 352 (.agg formC) (.int .i64 (i:Int))).run prog W = .ok (.agg (frm i).cells) W:=by
 rcases three hi with rfl | rfl | rfl
 ·show _=_
  kernel_rfl
 ·show _=_
  kernel_rfl
 ·show _=_
  kernel_rfl
theorem QJ:∀b:Fin 256,∀i:Fin 3,bits .and .u8 ((b.val:Nat):Int) ((frm i.val).msk:Int)=((b.val / (frm i.val).d*(frm i.val).d:Nat):Int):=by decide +kernel
theorem QK:∀b:Fin 256,∀i:Fin 3,bits .andNot .u8 ((b.val:Nat):Int) ((frm i.val).msk:Int)=((b.val%(frm i.val).d:Nat):Int):=by decide +kernel
theorem Pi:∀i:Fin 3,(frm i.val).hd=(frm i.val).q*(frm i.val).d/\0<(frm i.val).d/\(frm i.val).d<=32/\(frm i.val).k<=3/\(frm i.val).hi<=1114111:=by decide +kernel
theorem Pj (hi:i<3) (b:UInt8):(bits .and .u8 (b.toNat:Int) ((frm i).msk:Int)=((frm i).hd:Int))↔b.toNat / (frm i).d=(frm i).q:=by
 have h1:=QJ ⟨b.toNat,b.toNat_lt⟩ ⟨i,hi⟩;have h2:=Pi ⟨i,hi⟩;simp only at h1 h2;rw[h1,h2.1];constructor
 ·intro h;exact Nat.eq_of_mul_eq_mul_right h2.2.1 (Int.ofNat.inj h)
 ·intro h;rw[h]
theorem RT (b:UInt8):bits .and .u8 (b.toNat:Int) 63=((b.toNat%64:Nat):Int):=by
 have h:∀k:Fin 256,bits .and .u8 ((k.val:Nat):Int) 63=((k.val%64:Nat):Int):=by decide +kernel
 exact h ⟨b.toNat,b.toNat_lt⟩
theorem Rj (b:UInt8):(bits .and .u8 (b.toNat:Int) 192=128)↔contB b=true:=by
 have h:∀k:Fin 256,(bits .and .u8 ((k.val:Nat):Int) 192=128)↔k.val / 64==2:=by decide +kernel
 exact h ⟨b.toNat,b.toNat_lt⟩
theorem LM (a b:Nat) (h:a<4611686018427387904) (hb:b<4611686018427387904):bits .or .i64 (a:Int) (b:Int)=((a ||| b:Nat):Int):=by
 have d:a ||| b<2^62:=Nat.or_lt_two_pow (by omega) (by omega)
 have h1:(BitVec.ofInt 64 (a:Int)).toNat=a:=by
  rw[BitVec.ofInt_natCast,BitVec.toNat_ofNat];exact Nat.mod_eq_of_lt (by omega)
 have h2:(BitVec.ofInt 64 (b:Int)).toNat=b:=by
  rw[BitVec.ofInt_natCast,BitVec.toNat_ofNat];exact Nat.mod_eq_of_lt (by omega)
 show IntKind.i64.wrap ((BitVec.ofInt 64 (a:Int) ||| BitVec.ofInt 64 (b:Int)).toNat:Int)=_;rw[BitVec.toNat_or,h1,h2,IntKind.wrap_i64];omega
theorem Sp (x y:Nat) (d:x<1073741824) (h:y<64):bits .or .i64 ((x:Int)*64) (y:Int)=((x*64+y:Nat):Int):=by
 have:=Nat.shiftLeft_add_eq_or_of_lt (i:=6) (b:=y) h x;rw[Nat.shiftLeft_eq]at this;rw[show (x:Int)*64=((x*64:Nat):Int)by omega,LM _ _ (by omega) (by omega),<-this]
def okF (i:Nat) (b:UInt8) (t:List UInt8):Bool:=b.toNat / (frm i).d==(frm i).q&&okR (frm i).lo (frm i).hi (b.toNat%(frm i).d) (frm i).k t
theorem Nw {b:UInt8} {t:List UInt8} (hi:i<3) (hb:¬ b.toNat<128) (Y:∀j,j<i->okF j b t=false) (h:okF i b t=true):decR (b::t)=(foldR (b.toNat%(frm i).d) (t.take (frm i).k),(frm i).k+1):=by
 rw[decR,if_neg hb];rcases three hi with rfl | rfl | rfl
 ·exact if_pos h
 ·have H:=Y 0 (by omega);rw[if_neg (by rw[show (b.toNat / 32==6&&okR 128 2047 (b.toNat%32) 1 t)=false from H];decide)];exact if_pos h
 ·have H:=Y 0 (by omega);have h1:=Y 1 (by omega);rw[if_neg (by rw[show (b.toNat / 32==6&&okR 128 2047 (b.toNat%32) 1 t)=false from H];decide),if_neg (by rw[show (b.toNat / 16==14&&okR 2048 65535 (b.toNat%16) 2 t)=false from h1];decide)];exact if_pos h
theorem Ny {b:UInt8} {t:List UInt8} (hb:¬ b.toNat<128) (h:∀j,j<3->okF j b t=false):decR (b::t)=(65533,1):=by
 have d:=h 0 (by omega);have h1:=h 1 (by omega);have h2:=h 2 (by omega);rw[decR,if_neg hb,if_neg (by rw[show (b.toNat / 32==6&&okR 128 2047 (b.toNat%32) 1 t)=false from d];decide),if_neg (by rw[show (b.toNat / 16==14&&okR 2048 65535 (b.toNat%16) 2 t)=false from h1];decide),if_neg (by rw[show (b.toNat / 8==30&&okR 65536 1114111 (b.toNat%8) 3 t)=false from h2];decide)]
theorem GM (n:Nat) (l:List UInt8):foldR n l<(n+1)*64^l.length:=by
 induction l generalizing n with
 | nil=>simp[foldR]
 | cons b l ih =>
  have h:=ih (n*64+b.toNat%64);rw[List.length_cons,Nat.pow_succ];refine Nat.lt_of_lt_of_le (show foldR n (b::l)<_ from h) ?_;rw[show (n+1)*(64^l.length*64)=(n*64+64)*64^l.length by rw[Nat.mul_comm (64^l.length) 64,<-Nat.mul_assoc,Nat.add_mul n 1 64]];exact Nat.mul_le_mul_right _ (by omega)
theorem GN (n:Nat) (l:List UInt8) (b:UInt8):foldR n (l ++ [b])=foldR n l*64+b.toNat%64:=by
 unfold foldR;rw[List.foldl_append];rfl
theorem Cd (H:n<32) (d:l.length<=3):foldR n l<8388608:=by
 have h:=GM n l;have h2:(n+1)*64^l.length<=32*64^3:=Nat.mul_le_mul (by omega) (Nat.pow_le_pow_right (by omega) d);omega
theorem Nn (l:List UInt8) (a b:Nat):(⟨l.toArray⟩:ByteArray).extract a b=⟨((l.drop a).take (b - a)).toArray⟩:=by
 have:((⟨l.toArray⟩:ByteArray).extract a b).data=((l.drop a).take (b - a)).toArray:=by
  rw[ByteArray.data_extract,List.extract_toArray,List.extract_eq_take_drop]
 generalize (⟨l.toArray⟩:ByteArray).extract a b=x at this;cases x;subst this;rfl
theorem Qz (h:Bs w (some ⟨g,0,none⟩) l) {b:UInt8} (hb:l[j]? = some b):w.cell? ⟨g,j,none⟩=some (.int .u8 (b.toNat:Int)):=by
 obtain⟨g',o,d,H⟩:=Cells.at_ h (by rw[List.length_map];exact Nat.lt_of_le_of_lt (Nat.zero_le _) (List.getElem?_eq_some_iff.1 hb).1);cases d;have:=H j (B8 b) (by rw[List.getElem?_map,hb];rfl)
 rwa [Nat.zero_add]at this
end
end Go.Proofs.YtpnlihgcboepeaaGreat
