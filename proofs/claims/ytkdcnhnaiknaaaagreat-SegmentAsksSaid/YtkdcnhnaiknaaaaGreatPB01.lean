/- Texts of one proof, joined. -/
import Derived.Orders
import Derived.Tactics
import Derived.KernelRfl
import Derived.Laws.Entries
import Derived.Laws.Sem
import Derived.WalkKit
import Derived.WalkSpells
import Derived.WalkLawsBesides
import Derived.Deep.Draws
import Derived.Maps.AppendAt
import Derived.Test.YtkdcnhnaiknaaaaGreatRows
import Derived.Laws.BytesArg
import Derived.Deep.QuietTactic
import Derived.BigQuiet
import Derived.Laws.Rows
set_option linter.unusedSimpArgs false
set_option linter.unusedVariables false
set_option maxRecDepth 100000
set_option maxHeartbeats 16000000
namespace Go.Proofs.YtkdcnhnaiknaaaaGreat
section
def PureS {α:Type} (P:Program) (s:Sem α):Prop :=
 ∀w x w',s.run P w = .ok x w'->w'=w/\∀w2,s.run P w2 = .ok x w2
def ReadS {α:Type} (P:Program) (s:Sem α):Prop :=
 ∀w x w',s.run P w = .ok x w'->w'=w/\∀w2:World,(∀k,k<w.heap.size->w2.heap[k]? = w.heap[k]?)->s.run P w2 = .ok x w2
def NewS {α:Type} (P:Program) (s:Sem α):Prop :=
 ∀w x w',s.run P w = .ok x w'->∀k,k<w.heap.size->w'.heap[k]? = w.heap[k]?
section sem
variable {α β:Type} {P:Program}
theorem PureS.read {s:Sem α} (h:PureS P s):ReadS P s:=fun w x w' e=>⟨(h w x w' e).1,fun w2 _=>(h w x w' e).2 w2⟩
theorem PureS.ret (a:α):PureS P (Pure.pure a:Sem α):=fun w x w' e=>by
 simp only[Sem.run_pure,Result.ok.injEq]at e;obtain⟨rfl,rfl⟩:=e;exact⟨rfl,fun _=>rfl⟩
theorem PureS.halt (h:Halt):PureS P (Sem.halt h:Sem α):=fun w x w' e=>by simp[Sem.run]at e
theorem PureS.stuck (s:String):PureS P (stuck s:Sem α):=PureS.halt _
theorem PureS.unsupported (s:Unsupported):PureS P (unsupported s:Sem α):=PureS.halt _
theorem PureS.bind {s:Sem α} {f:α->Sem β} (h:PureS P s) (hf:∀a,PureS P (f a)):PureS P (s >>= f):=fun w x w' e=>by
 simp only[Sem.run_bind]at e;cases hs:s.run P w with
 | halt q w1=>rw[hs]at e;simp[Result.andThen]at e
 | ok a w1 =>
  rw[hs]at e;obtain⟨rfl,h2⟩:=h _ _ _ hs;obtain⟨rfl,h3⟩:=hf a _ _ _ e;refine⟨rfl,fun w2=>?_⟩;simp only[Sem.run_bind,h2 w2];exact h3 w2
theorem ReadS.bind {s:Sem α} {f:α->Sem β} (h:ReadS P s) (hf:∀a,ReadS P (f a)):ReadS P (s >>= f):=fun w x w' e=>by
 simp only[Sem.run_bind]at e;cases hs:s.run P w with
 | halt q w1=>rw[hs]at e;simp[Result.andThen]at e
 | ok a w1 =>
  rw[hs]at e;obtain⟨rfl,h2⟩:=h _ _ _ hs;obtain⟨rfl,h3⟩:=hf a _ _ _ e;refine⟨rfl,fun w2 hw=>?_⟩;simp only[Sem.run_bind,h2 w2 hw];exact h3 w2 hw
theorem NewS.of_read {s:Sem α} (h:ReadS P s):NewS P s:=fun w x w' e k _=>by rw[(h w x w' e).1]
theorem NewS.bind {s:Sem α} {f:α->Sem β} (h:NewS P s) (hz:∀w x w',s.run P w = .ok x w'->w.heap.size<=w'.heap.size) (hf:∀a,NewS P (f a)):NewS P (s >>= f):=fun w x w' e k hk=>by
 simp only[Sem.run_bind]at e;cases hs:s.run P w with
 | halt q w1=>rw[hs]at e;simp[Result.andThen]at e
 | ok a w1 =>
  rw[hs]at e;have h1:=h _ _ _ hs k hk;have h2:=hf a _ _ _ e k (Nat.lt_of_lt_of_le hk (hz _ _ _ hs));exact h2.trans h1
theorem PureS.program:PureS P Go.program:=fun w x w' e=>by
 simp only[Go.program,Sem.run,Result.ok.injEq]at e;obtain⟨rfl,rfl⟩:=e;exact⟨rfl,fun _=>rfl⟩
theorem PureS.typeInfo (t:TypeId):PureS P (typeInfo t):=by
 unfold Go.typeInfo;refine .bind .program fun p=>?_;split
 ·exact .ret _
 ·exact .stuck _
theorem PureS.underlying (t:TypeId):PureS P (underlying t):=by
 unfold Go.underlying;refine .bind .program fun p=>?_;split
 ·exact .ret _
 ·exact .stuck _
theorem PureS.sizeOf (t:TypeId):PureS P (Go.sizeOf t):= .bind (.typeInfo _) fun _=> .ret _
theorem PureS.isAgg (t:TypeId):PureS P (Go.isAgg t):=by
 unfold Go.isAgg;refine .bind (.underlying _) fun d=>?_;split <;> exact .ret _
theorem PureS.zeroValue (t:TypeId):PureS P (Go.zeroValue t):=by
 unfold Go.zeroValue;refine .bind (.typeInfo _) fun d=>?_;split
 ·exact .ret _
 ·exact .unsupported _
theorem PureS.part (t:TypeId) (cs:Array Value) (off:Nat):PureS P (Go.part t cs off):=by
 unfold Go.part;refine .bind (.isAgg _) fun d=>?_;split
 ·exact .bind (.sizeOf _) fun _=> .ret _
 ·split
  ·exact .ret _
  ·exact .stuck _
def Dies (P:Program) (s:Sem α):Prop:=∀w x w',s.run P w ≠ .ok x w'
theorem Dies.pure {s:Sem α} (h:Dies P s):PureS P s:=fun w x w' e=>absurd e (h w x w')
theorem Dies.bind {s:Sem α} {f:α->Sem β} (hf:∀a,Dies P (f a)):Dies P (s >>= f):=fun w x w' e=>by
 simp only[Sem.run_bind]at e;cases hs:s.run P w with
 | halt q w1=>rw[hs]at e;simp[Result.andThen]at e
 | ok a w1=>rw[hs]at e;exact hf a _ _ _ e
theorem Dies.goPanic (v:Value):Dies P (goPanic v:Sem α):=fun w x w' e=>by simp[Go.goPanic]at e
theorem Dies.runtimePanic (r:RuntimeError):Dies P (runtimePanic r:Sem α):=by
 unfold Go.runtimePanic;refine .bind fun p=>?_;cases r with
 | typeAssertion i c a m=>exact .bind fun _=> .bind fun _=> .goPanic _
 | panicNil=>exact .bind fun _=> .bind fun _=> .goPanic _
 | _=>exact .goPanic _
theorem Dies.boundsPanic (k:IntKind) (x y:Int) (c:BoundsCode):Dies P (boundsPanic k x y c:Sem α):=by
 unfold Go.boundsPanic;split
 ·exact .bind fun _=> .runtimePanic _
 ·exact .bind fun _=> .runtimePanic _
theorem PureS.asIntOf (v:Value):PureS P (Go.asIntOf v):=by
 unfold Go.asIntOf;split
 ·exact .ret _
 ·exact .unsupported _
 ·exact .stuck _
theorem PureS.asBool (v:Value):PureS P (Go.asBool v):=by
 unfold Go.asBool;split
 ·exact .ret _
 ·exact .stuck _
theorem PureS.asAgg (v:Value):PureS P (Go.asAgg v):=by
 unfold Go.asAgg;split
 ·exact .ret _
 ·exact .stuck _
theorem PureS.asAddr (v:Value):PureS P (Go.asAddr v):=by
 unfold Go.asAddr;split
 ·exact .ret _
 ·exact(Dies.runtimePanic _).pure
 ·exact .stuck _
theorem PureS.sureAddr (v:Value):PureS P (Instr.sureAddr v):=by
 unfold Instr.sureAddr;split
 ·exact .ret _
 ·exact .stuck _
theorem PureS.sliceBound (x:Value) (y:Nat) (c:BoundsCode):PureS P (Instr.sliceBound x y c):=by
 unfold Instr.sliceBound;refine .bind (.asIntOf _) fun d=>?_;obtain⟨k,i⟩:=d;dsimp only;split
 ·exact .ret _
 ·exact(Dies.boundsPanic _ _ _ _).pure
theorem PureS.sliceBounds (b:Bool) (n c:Nat) (l h m:Option Value):PureS P (Instr.sliceBounds b n c l h m):=by
 unfold Instr.sliceBounds;cases l <;> cases h <;> cases m <;> dsimp only <;>
  (repeat' first | exact .ret _ | exact .stuck _ | exact .sliceBound _ _ _ | refine .bind ?_ fun _=>?_ )
theorem PureS.slice (t:TypeId) (x:Value) (l h m:Option Value):PureS P (Instr.slice t x l h m):=by
 unfold Instr.slice;refine .bind (.underlying _) fun d=>?_;split
 ·split
  ·exact .bind (.stuck _) fun _=> .bind (.sliceBounds _ _ _ _ _ _) fun _=> .ret _
  ·exact .bind (.sliceBounds _ _ _ _ _ _) fun _=> .ret _
 ·exact .bind (.sliceBounds _ _ _ _ _ _) fun _=> .bind (.sizeOf _) fun _=> .ret _
 ·refine .bind (.asAddr _) fun _=> .bind (.underlying _) fun e=>?_;split
  ·exact .bind (.sliceBounds _ _ _ _ _ _) fun _=> .bind (.sizeOf _) fun _=> .ret _
  ·exact .stuck _
 ·exact .stuck _
end sem
section ops
variable {P:Program}
def clsCall (P:Program) (c:Call):Nat :=
 match c.callee with
 | .builtin .len=>match c.argTypes[0]? with
  | some t=>match P.underlying t with
   | some .string=>0
   | some (.slice _)=>0
   | _=>3
  | none=>3
 | .builtin .min=>0
 | .builtin .max=>0
 | _=>3
def cls (P:Program):Op->Nat
 | .move _ | .assign _ | .pick .. | .nilCheck _ | .field .. | .extract .. | .indexAddr .. | .index .. | .slice .. | .unOp .. | .makeInterface .. | .binOp .. | .build .. =>0
 | .fieldAddr s _ f=>match P.underlying s with
  | some (.struct fs)=>match fs[f]? with
   | some fd=>match P.info? fd.type with
    | some i=>if i.size=0 then 3 else 0
    | none=>3
   | none=>3
  | _=>3
 | .convert s d _=>match P.underlying s,P.underlying d with
  | some (.int _),some (.int _)=>0
  | _,_=>3
 | .load .. =>1
 | .alloc _ | .box .. | .buildSlice .. =>2
 | .call c=>clsCall P c
 | _=>3
def twoInts:Value->Value->Bool
 | .int _ _,.int _ _=>true
 | _,_=>false
def chkV (ρ:Operand->Value):Op->Bool
 | .binOp op _ x y _=>match ρ x,ρ y with
  | .int _ _,.int _ _=>true
  | .string _,.string _=>true
  | .bool _,.bool _=>(match op with | .eql | .neq=>true | _=>false)
  | _,_=>false
 | .nilCheck x=>match ρ x with
  | .pointer (some _)=>true
  | _=>false
 | .convert _ _ x=>match ρ x with
  | .int _ _=>true
  | .slice _ _ _=>true
  | .string _=>true
  | _=>false
 | .call c=>match c.callee,c.args.toList with
  | .builtin .min,[x,y]=>twoInts (ρ x) (ρ y)
  | .builtin .max,[x,y]=>twoInts (ρ x) (ρ y)
  | .builtin .min,_=>false
  | .builtin .max,_=>false
  | _,_=>true
 | _=>true
theorem PureS.mapList {α β:Type} {f:α->Sem β} (hf:∀x,PureS P (f x)):∀l:List α,PureS P (l.mapM f)
 | []=>by rw[List.mapM_nil];exact .ret _
 | x::l=>by rw[List.mapM_cons];exact .bind (hf x) fun _=> .bind (PureS.mapList hf l) fun _=> .ret _
theorem PureS.mapArr {α β:Type} {f:α->Sem β} (hf:∀x,PureS P (f x)) (a:Array α):PureS P (a.mapM f):=by
 rw[Array.mapM_eq_mapM_toList,map_eq_pure_bind];exact .bind (.mapList hf _) fun _=> .ret _
theorem PureS.build (t:TypeId) (ps:Array (Nat×Value)):PureS P (Instr.build t ps):=by
 unfold Instr.build;refine .bind (.zeroValue _) fun z=>?_;refine .bind (.underlying _) fun d=>?_;split
 ·refine .bind (.mapArr (fun f=> .bind (.sizeOf _) fun _=> .ret _) _) fun _=>?_;split
  ·exact .ret _
  ·exact .stuck _
 ·refine .bind (.sizeOf _) fun _=>?_;split
  ·exact .ret _
  ·exact .stuck _
 ·exact .stuck _
theorem PureS.value {s:Sem Value} (h:PureS P s):PureS P (do pure (Next.value (<-s))):= .bind h fun _=> .ret _
theorem PureS.binOp {op : BinOp} {t : TypeId} {ρ : Operand → Value} {x y : Operand} {t' : TypeId} (h : chkV ρ (.binOp op t x y t') = true) :
    PureS P (do eqGuard op t x y (ρ x) (ρ y); binOp op t (ρ x) (ρ y)) := by
  simp only [chkV] at h
  split at h
  · rename_i hx hy
    rw [hx, hy]
    refine .bind ?_ fun _ => ?_
    · unfold eqGuard
      cases op <;> exact .ret _
    · unfold Go.binOp
      cases op <;> dsimp only <;> first
        | (unfold Op.shift; split; exact (Dies.runtimePanic _).pure; exact .ret _)
        | (split; exact .stuck _; first | exact .ret _ | (unfold Op.intDiv; split; exact (Dies.runtimePanic _).pure; exact .ret _))
  · rename_i hx hy
    rw [hx, hy]
    refine .bind ?_ fun _ => ?_
    · unfold eqGuard
      cases op <;> exact .ret _
    · unfold Go.binOp
      cases op <;> dsimp only [Op.stringOp] <;> first
        | exact .ret _
        | exact .stuck _
        | (split; exact .unsupported _; exact .ret _)
  · rename_i hx hy
    rw [hx, hy]
    refine .bind ?_ fun _ => ?_
    · unfold eqGuard
      cases op <;> exact .ret _
    · cases op
      all_goals first
        | exact Bool.noConfusion h
        | (unfold Go.binOp
           dsimp only
           refine .bind ?_ fun _ => .ret _
           unfold Op.equal Op.maxDepth Op.equalIn
           refine .bind (.underlying _) fun d => ?_
           cases d <;> dsimp only <;> first | exact .ret _ | exact .stuck _ | (split <;> first | exact .ret _ | exact .stuck _))
  · cases h
end ops
section exec
variable {P:Program}
theorem ZAe {s:Sem Value} {w:World} {x:Next} {w':World} (e:(do pure (Next.value (<-s)):Sem Next).run P w = .ok x w'):∃v,x = .value v/\s.run P w = .ok v w':=by
 simp only[Sem.run_bind]at e;cases hs:s.run P w with
 | halt q w1=>rw[hs]at e;simp[Result.andThen]at e
 | ok a w1 =>
  rw[hs]at e;simp only[Result.andThen,Sem.run_pure,Result.ok.injEq]at e;exact⟨a,e.1.symm,by rw[e.2]⟩
theorem PureS.sized {t:TypeId} {i:TypeInfo} (hi:P.info? t=some i) (w:World):(Go.sizeOf t).run P w = .ok i.size w:=by
 have h:(Go.typeInfo t).run P w = .ok i w:=by
  simp only[Go.typeInfo,Go.program,Sem.run_bind,Sem.run,Result.andThen_ok,hi];rfl
 simp only[Go.sizeOf,Sem.run_bind,h,Result.andThen_ok,Sem.run_pure]
theorem ZNV (ρ:Operand->Value) (o:Oper) (hc:cls P o.op=0) (hk:chkV ρ o.op=true):∃s:Sem Value,PureS P s/\((execOp ρ o)=(do pure (Next.value (<-s)):Sem Next)\/∀w,(execOp ρ o).run P w=(do pure (Next.value (<-s)):Sem Next).run P w):=by
 obtain⟨dst,op,type,pos,after,guard⟩:=o;cases op <;> simp only[cls]at hc <;> dsimp only at hk
 case move x=>exact⟨pure (ρ x),.ret _,.inl rfl⟩
 case assign x=>exact⟨pure (ρ x),.ret _,.inl rfl⟩
 case pick c a b=>exact⟨do pure (if <-asBool (ρ c) then ρ a else ρ b),.bind (.asBool _) fun _=> .ret _,.inr fun w=>by
  simp only[execOp,Sem.run_bind,Sem.run_pure];cases (asBool (ρ c)).run P w <;> simp[Result.andThen]⟩
 case nilCheck x =>
  simp only[chkV]at hk;split at hk
  ·rename_i a hx;exact⟨pure (.pointer (some a)),.ret _,.inr fun w=>by simp[execOp,hx]⟩
  ·cases hk
 case binOp bop t x y t'=>exact⟨_,PureS.binOp hk,.inl rfl⟩
 case unOp u t x =>
  refine⟨Op.unary u (ρ x),?_,.inl rfl⟩;unfold Op.unary;split <;> first | exact .ret _ | exact .stuck _ | exact .unsupported _
 case convert s d x =>
  refine⟨Go.convert s d (ρ x),?_,.inl rfl⟩;split at hc
  ·rename_i k1 k2 hs hd;simp only[chkV]at hk;split at hk
   ·rename_i kk n hx;rw[hx];intro w y w' e;simp only[Go.convert,Sem.run_bind,run_underlying hs,run_underlying hd,Result.andThen_ok,Conv.intToInt,Sem.run_pure,Result.ok.injEq]at e;obtain⟨rfl,rfl⟩:=e;exact⟨rfl,fun _=>by simp only[Go.convert,Sem.run_bind,run_underlying hs,run_underlying hd,Result.andThen_ok,Conv.intToInt,Sem.run_pure]⟩
   ·rename_i hx;rw[hx];intro w y w' e;simp only[Go.convert,Sem.run_bind,run_underlying hs,run_underlying hd,Result.andThen_ok]at e;exact absurd e (by simp[unsupported,Sem.run])
   ·rename_i hx;rw[hx];intro w y w' e;simp only[Go.convert,Sem.run_bind,run_underlying hs,run_underlying hd,Result.andThen_ok]at e;exact absurd e (by simp[unsupported,Sem.run])
   ·cases hk
  ·cases hc
 case build t ps=>exact⟨Instr.build t (ps.map fun(i,x)=>(i,ρ x)),.build _ _,.inl rfl⟩
 case makeInterface t x =>
  refine⟨Instr.makeInterface t (ρ x),?_,.inl rfl⟩;unfold Instr.makeInterface;refine .bind (.underlying _) fun d=>?_;split
  ·exact .stuck _
  ·exact .ret _
 case slice t x l h m =>
  refine⟨Instr.sliceAt t (ρ x) (l.map ρ) (h.map ρ) (m.map ρ),?_,.inl rfl⟩;unfold Instr.sliceAt;refine .bind (.underlying _) fun d=>?_;split
  ·exact .bind (.sureAddr _) fun _=> .bind (.sliceBounds _ _ _ _ _ _) fun _=> .bind (.sizeOf _) fun _=> .ret _
  ·exact .slice _ _ _ _ _
 case fieldAddr t x f =>
  refine⟨Instr.fieldAt t (ρ x) f,?_,.inl rfl⟩;split at hc
  ·rename_i fs hs;split at hc
   ·rename_i fd hf;split at hc
    ·rename_i i hi;split at hc
     ·cases hc
     ·rename_i q0;unfold Instr.fieldAt;intro w y w' e;simp only[Sem.run_bind,run_underlying hs,Result.andThen_ok,hf]at e ⊢;cases ha:(Instr.sureAddr (ρ x)).run P w with
      | halt q w1=>rw[ha]at e;simp[Result.andThen]at e
      | ok a w1 =>
       obtain⟨rfl,p0⟩:=PureS.sureAddr (P:=P) (ρ x) _ _ _ ha;rw[ha]at e;simp only[Result.andThen_ok,fieldPlace,Sem.run_bind,PureS.sized hi,q0,if_false,Sem.run_pure,Result.ok.injEq]at e;obtain⟨rfl,rfl⟩:=e;refine⟨rfl,fun w2=>?_⟩;rw[p0 w2];simp only[Result.andThen_ok,fieldPlace,Sem.run_bind,PureS.sized hi,q0,if_false,Sem.run_pure]
    ·cases hc
   ·cases hc
  ·cases hc
 case field t x f =>
  refine⟨Instr.field t (ρ x) f,?_,.inl rfl⟩;unfold Instr.field;refine .bind (.underlying _) fun d=>?_;split
  ·split
   ·exact .bind (.asAgg _) fun _=> .part _ _ _
   ·exact .stuck _
  ·exact .stuck _
 case indexAddr t x i =>
  refine⟨Instr.indexAt t (ρ x) (ρ i),?_,.inl rfl⟩;unfold Instr.indexAt;refine .bind (.asIntOf _) fun d=>?_;obtain⟨k,n⟩:=d
  repeat' (first | exact .ret _ | exact .stuck _ | exact .unsupported _ | exact(Dies.boundsPanic _ _ _ _).pure | exact .sureAddr _ | exact .underlying _ | exact .sizeOf _ | split | dsimp only | refine .bind ?_ fun _=>?_)
 case index t x i =>
  refine⟨Instr.index t (ρ x) (ρ i),?_,.inl rfl⟩;unfold Instr.index;refine .bind (.asIntOf _) fun d=>?_;obtain⟨k,n⟩:=d;refine .bind (.underlying _) fun d=>?_;split
  ·split
   ·exact .bind (.sizeOf _) fun _=> .part _ _ _
   ·exact(Dies.boundsPanic _ _ _ _).pure
  ·split
   ·exact .ret _
   ·exact(Dies.boundsPanic _ _ _ _).pure
  ·exact .stuck _
 case extract x i =>
  refine⟨Instr.extract (ρ x) i,?_,.inl rfl⟩;unfold Instr.extract;split
  ·split
   ·exact .ret _
   ·exact .stuck _
  ·exact .stuck _
 case call c =>
  obtain⟨callee,args,argTypes⟩:=c;simp only[clsCall]at hc;split at hc
  ·rename_i hb;split at hc
   ·rename_i t ht;refine⟨Builtin.len_ argTypes type (args.map ρ),?_,.inr fun w=>by simp[execOp,resolve,invoke,builtin]⟩;have k0:argTypes[0]? = some t:=ht;unfold Builtin.len_;rw[k0];cases h0:(args.map ρ)[0]? with
    | none=>exact .stuck _
    | some x =>
     dsimp only;intro w y w' e;split at hc
     ·rename_i hu;simp only[Sem.run_bind,run_underlying hu,Result.andThen_ok]at e ⊢;cases x <;> simp only[Sem.run_pure,Result.ok.injEq,Go.stuck,Sem.run,reduceCtorEq]at e;obtain⟨rfl,rfl⟩:=e;exact⟨rfl,fun _=>by simp only[Sem.run_pure]⟩
     ·rename_i hu;simp only[Sem.run_bind,run_underlying hu,Result.andThen_ok]at e ⊢;cases x <;> simp only[Sem.run_pure,Result.ok.injEq,Go.stuck,Sem.run,reduceCtorEq]at e;obtain⟨rfl,rfl⟩:=e;exact⟨rfl,fun _=>by simp only[Sem.run_pure]⟩
     ·cases hc
   ·cases hc
  ·rename_i hb;refine⟨Builtin.min_ argTypes type (args.map ρ),?_,.inr fun w=>by simp[execOp,resolve,invoke,builtin]⟩;unfold chkV at hk;unfold Builtin.min_;rw[Array.toList_map];rcases hl:args.toList with _ | ⟨x,_ | ⟨y,_ | ⟨z,l⟩⟩⟩ <;> simp only[hl]at hk
   ·cases hk
   ·cases hk
   ·cases hx:ρ x <;> cases hy:ρ y <;> rw[hx,hy]at hk <;> first | cases hk | skip
    simp only[List.map_cons,List.map_nil,hx,hy,List.foldlM];refine .bind ?_ fun _=> .ret _;unfold Builtin.min2;exact .ret _
   ·cases hk
  ·rename_i hb;refine⟨Builtin.max_ argTypes type (args.map ρ),?_,.inr fun w=>by simp[execOp,resolve,invoke,builtin]⟩;unfold chkV at hk;unfold Builtin.max_;rw[Array.toList_map];rcases hl:args.toList with _ | ⟨x,_ | ⟨y,_ | ⟨z,l⟩⟩⟩ <;> simp only[hl]at hk
   ·cases hk
   ·cases hk
   ·cases hx:ρ x <;> cases hy:ρ y <;> rw[hx,hy]at hk <;> first | cases hk | skip
    simp only[List.map_cons,List.map_nil,hx,hy,List.foldlM];refine .bind ?_ fun _=> .ret _;unfold Builtin.max2;exact .ret _
   ·cases hk
  ·cases hc
 all_goals (first | cases hc | (split at hc <;> cases hc))
theorem ZK1 {ρ:Operand->Value} {o:Oper} (hc:cls P o.op=0) (hk:chkV ρ o.op=true) {w w':World} {x:Next} (e:(execOp ρ o).run P w = .ok x w') :
 ∃v,x = .value v/\w'=w/\∀w2,(execOp ρ o).run P w2 = .ok (.value v) w2:=by
 obtain⟨s,hs,h⟩:=ZNV (P:=P) ρ o hc hk;have hr:∀w,(execOp ρ o).run P w=(do pure (Next.value (<-s)):Sem Next).run P w:=by
  rcases h with h | h
  ·intro w;rw[h]
  ·exact h
 rw[hr]at e;obtain⟨v,rfl,hv⟩:=ZAe e;obtain⟨rfl,h2⟩:=hs _ _ _ hv;exact⟨v,rfl,rfl,fun w2=>by rw[hr];simp only[Sem.run_bind,h2 w2,Result.andThen_ok,Sem.run_pure]⟩
theorem ZK7 {w w2:World} {a:Addr} {v:Value} (h:w.cell? a=some v) (hw:∀k,k<w.heap.size->w2.heap[k]? = w.heap[k]?):w2.cell? a=some v:=by
 have h0:a.block<w.heap.size:=by
  unfold World.cell? at h;rcases Nat.lt_or_ge a.block w.heap.size with h1 | h1
  ·exact h1
  ·rw[Array.getElem?_eq_none h1]at h;cases h
 unfold World.cell? at h ⊢;rw[hw _ h0];exact h
theorem ZMf {p:Program} {w w2:World} {at_ k:Addr} {u:TypeId} {b:Bool} {r:Array Value×TypeId×(Nat×Nat)×Nat×Value×List (Nat×Nat×List UInt8)}
 (h:w.seen p at_ u k b = .ok r) (hw:∀k,k<w.heap.size->w2.heap[k]? = w.heap[k]?):w2.seen p at_ u k b = .ok r:=by
 rcases Nat.lt_or_ge at_.block w.heap.size with h1 | h1
 ·unfold World.seen at h ⊢;rw[hw _ h1];exact h
 ·exfalso;unfold World.seen at h;rw[Array.getElem?_eq_none h1]at h
  revert h
  dsimp only[Bind.bind,Except.bind,throw,throwThe,MonadExceptOf.throw,Pure.pure,Except.pure]
  repeat' split
  all_goals (intro h;cases h)
theorem ZHa {p:Program} {w w2:World} {a:Addr} {b:Bool} {r:Value×List Addr} (hc:w.cell? a=none) (h:w.farLoad p a b = .ok r)
 (hw:∀k,k<w.heap.size->w2.heap[k]? = w.heap[k]?):w2.cell? a=none/\w2.farLoad p a b = .ok r:=by
 rcases Nat.lt_or_ge a.block w.heap.size with h1 | h1
 ·refine⟨by unfold World.cell? at hc ⊢;rw[hw _ h1];exact hc,?_⟩;unfold World.farLoad at h ⊢;rw[hw _ h1];split at h
  ·rename_i at_ u hv;split at h
   ·rename_i r' hr;cases h;have:w2.viewLoad p at_ u a b = .ok r:=by
     unfold World.viewLoad at hr ⊢;cases hs:w.seen p at_ u a b with
     | error e=>rw[hs]at hr;cases hr
     | ok q=>rw[hs]at hr;rw[ZMf hs hw];exact hr
    simp only[this]
   ·cases h
  ·cases h
 ·exfalso;unfold World.farLoad at h;rw[Array.getElem?_eq_none h1]at h;cases h
theorem ReadS.load (a:Addr) (m:Mode):ReadS P (Go.load a m):=fun w x w' e=>by
 simp only[Go.load,Sem.run]at e ⊢;cases hc:w.cell? a with
 | some v =>
  simp only[hc,Result.ok.injEq]at e;obtain⟨rfl,rfl⟩:=e;exact⟨rfl,fun w2 hw=>by simp only[ZK7 hc hw]⟩
 | none =>
  simp only[hc]at e;cases hf:w.farLoad P a (m == .atomic)with
  | error q=>rw[hf]at e;simp at e
  | ok r =>
   rw[hf]at e;simp only[Result.ok.injEq]at e;obtain⟨rfl,rfl⟩:=e;refine⟨rfl,fun w2 hw=>?_⟩;obtain⟨h1,h2⟩:=ZHa hc hf hw;simp only[h1,h2]
theorem ReadS.loadCellsFrom (a:Addr):∀(n i:Nat) (acc:Array Value),ReadS P (Go.loadCellsFrom a i n acc)
 | 0,_,acc=>(PureS.ret acc).read
 | n+1,i,acc=>by
  unfold Go.loadCellsFrom;exact .bind (.load _ _) fun v=>ReadS.loadCellsFrom a n (i+1) _
theorem ReadS.loadVar (t:TypeId) (a:Addr):ReadS P (Go.loadVar t a):=by
 unfold Go.loadVar;refine .bind (PureS.isAgg _).read fun b=>?_;split
 ·exact .bind (PureS.sizeOf _).read fun n=> .bind (.loadCellsFrom _ _ _ _) fun _=>(PureS.ret _).read
 ·exact .load _ _
theorem ZGZ {ρ:Operand->Value} {o:Oper} (hc:cls P o.op=1) {w w':World} {x:Next} (e:(execOp ρ o).run P w = .ok x w') :
 ∃v,x = .value v/\w'=w/\∀w2:World,(∀k,k<w.heap.size->w2.heap[k]? = w.heap[k]?)->(execOp ρ o).run P w2 = .ok (.value v) w2:=by
 obtain⟨dst,op,type,pos,after,guard⟩:=o;cases op <;> simp only[cls]at hc
 case load t a =>
  have hs:ReadS P (Instr.loadAt t (ρ a)):=by
   unfold Instr.loadAt;exact .bind (PureS.sureAddr _).read fun _=> .loadVar _ _
  have hr:execOp ρ { dst,op:= .load t a,type,pos,after,guard }=(do pure (Next.value (<-Instr.loadAt t (ρ a))):Sem Next):=rfl;rw[hr]at e ⊢;obtain⟨v,rfl,hv⟩:=ZAe e;obtain⟨rfl,h2⟩:=hs _ _ _ hv;exact⟨v,rfl,rfl,fun w2 hw=>by simp only[Sem.run_bind,h2 w2 hw,Result.andThen_ok,Sem.run_pure]⟩
 case call c =>
  simp only[clsCall]at hc;split at hc
  ·split at hc
   ·split at hc <;> cases hc
   ·cases hc
  all_goals cases hc
 all_goals (first | cases hc | (repeat' (split at hc)) <;> cases hc)
theorem NewS.newObj (o:Obj):NewS P (Go.newObj o):=fun w x w' e k hk=>by
 simp only[Go.newObj,Sem.run,Result.ok.injEq]at e;obtain⟨_,rfl⟩:=e;show (w.heap.push o)[k]? = _;rw[Array.getElem?_push,if_neg (by omega)]
theorem ZBp {o:Obj} {w w':World} {x:Nat} (e:(Go.newObj o).run P w = .ok x w'):w.heap.size<=w'.heap.size:=by
 simp only[Go.newObj,Sem.run,Result.ok.injEq]at e;obtain⟨_,rfl⟩:=e;simp
theorem NewS.newVar (t:TypeId) (v:Value):NewS P (Go.newVar t v):=by
 unfold Go.newVar Go.newRow;exact .bind (.newObj _) (fun _ _ _ e=>ZBp e) fun _=> .of_read (PureS.ret _).read
theorem ZBv {t:TypeId} {c:Array Value} {w w':World} {x:Addr} (e:(Go.newRow t c).run P w = .ok x w'):w.heap.size<=w'.heap.size:=by
 unfold Go.newRow at e;simp only[Sem.run_bind]at e;cases hs:(Go.newObj (.cells c t)).run P w with
 | halt q w1=>rw[hs]at e;simp[Result.andThen]at e
 | ok a w1 =>
  rw[hs]at e;simp only[Result.andThen,Sem.run_pure,Result.ok.injEq]at e;obtain⟨_,rfl⟩:=e;exact ZBp hs
theorem PureS.size {α:Type} {s:Sem α} (h:PureS P s):∀w x w',s.run P w = .ok x w'->w.heap.size<=w'.heap.size:=fun w x w' e=>by rw[(h _ _ _ e).1];exact Nat.le_refl _
theorem NewS.box (t:TypeId) (v:Value):NewS P (Instr.box t v):=by
 unfold Instr.box;exact .bind (.newVar _ _) (fun _ _ _ e=>ZBv e) fun _=> .of_read (PureS.ret _).read
theorem NewS.alloc (t:TypeId):NewS P (Instr.alloc t true (.tuple #[])):=by
 unfold Instr.alloc;refine .bind (.of_read (PureS.zeroValue _).read) (PureS.zeroValue _).size fun z=>?_;exact .bind (.newVar _ _) (fun _ _ _ e=>ZBv e) fun _=> .of_read (PureS.ret _).read
theorem NewS.stop {α:Type} (h:Halt):NewS P (Sem.halt h:Sem α):= .of_read (PureS.halt h).read
theorem NewS.buildSlice (t:TypeId) (n:Nat) (ps:Array (Nat×Value)):NewS P (Instr.buildSlice t n ps):=by
 unfold Instr.buildSlice;refine .bind (.of_read (PureS.underlying _).read) (PureS.underlying _).size fun d=>?_;split
 ·rename_i elem;refine .bind (.of_read (PureS.sizeOf _).read) (PureS.sizeOf _).size fun s=>?_;have fin:∀zero:Array Value,NewS P (do
   let some cells:=Instr.fill (fun i=>some (i*s,s)) ((Array.range (n*s)).map (zero[· % zero.size]!)) ps.toList
    | stuck "buildSlice: a part of the wrong size"
   pure (.slice (some (<-newRow elem cells)) n n):Sem Value):=fun zero=>by
   split
   ·exact .bind (by unfold newRow;exact .bind (.newObj _) (fun _ _ _ e=>ZBp e) fun _=> .of_read (PureS.ret _).read) (fun _ _ _ e=>ZBv e) fun _=> .of_read (PureS.ret _).read
   ·exact .stop _
  dsimp only
  repeat' (first | exact fin _ | exact .stop _ | exact(PureS.halt _).size | exact .of_read (PureS.zeroValue _).read | exact(PureS.zeroValue _).size | exact .of_read (PureS.ret _).read | exact(PureS.ret _).size | split | refine .bind ?_ ?_ fun _=>?_)
 ·exact .stop _
theorem ZMe {ρ:Operand->Value} {o:Oper} (hc:cls P o.op=2) {w w':World} {x:Next} (e:(execOp ρ o).run P w = .ok x w') :
 (∃v,x = .value v)/\∀k,k<w.heap.size->w'.heap[k]? = w.heap[k]? :=by
 obtain⟨dst,op,type,pos,after,guard⟩:=o;cases op <;> simp only[cls]at hc
 case alloc t =>
  have hr:execOp ρ { dst,op:= .alloc t,type,pos,after,guard }=(do pure (Next.value (<-Instr.alloc t true (.tuple #[]))):Sem Next):=rfl;rw[hr]at e;obtain⟨v,rfl,hv⟩:=ZAe e;exact⟨⟨v,rfl⟩,NewS.alloc _ _ _ _ hv⟩
 case box t y =>
  have hr:execOp ρ { dst,op:= .box t y,type,pos,after,guard }=(do pure (Next.value (<-Instr.box t (ρ y))):Sem Next):=rfl;rw[hr]at e;obtain⟨v,rfl,hv⟩:=ZAe e;exact⟨⟨v,rfl⟩,NewS.box _ _ _ _ _ hv⟩
 case buildSlice t n ps =>
  have hr:execOp ρ { dst,op:= .buildSlice t n ps,type,pos,after,guard }=(do pure (Next.value (<-Instr.buildSlice t n (ps.map fun(i,x)=>(i,ρ x)))):Sem Next):=rfl;rw[hr]at e;obtain⟨v,rfl,hv⟩:=ZAe e;exact⟨⟨v,rfl⟩,NewS.buildSlice _ _ _ _ _ _ hv⟩
 case call c =>
  simp only[clsCall]at hc;split at hc
  ·split at hc
   ·split at hc <;> cases hc
   ·cases hc
  all_goals cases hc
 all_goals (first | cases hc | (repeat' (split at hc)) <;> cases hc)
end exec
end
section
open Region (wanted)
def Qn (Q:Act->World->Prop):Exit->Act->World->Prop:=Exit.then Q (fun _ _ _=>False)
section
variable {P:Program} {ops:Array Oper} {Q:Act->World->Prop}
def st (P:Program) (ops:Array Oper) (Q:Act->World->Prop) (o:Oper) (K:Act->World->Prop) (a:Act) (w:World):Prop :=
 if wanted o (yielded ops a.tmps) then chkV a.eval o.op=true/\o.wp P a w K (Qn Q) else K (a.put o.dst undef) w
theorem ZNh {o:Oper} {K K':Act->World->Prop} {a:Act} {w:World} (h:∀a w,K a w->K' a w) (hh:st P ops Q o K a w):st P ops Q o K' a w:=by
 unfold st at *;split
 ·rename_i hw;rw[if_pos hw]at hh;exact⟨hh.1,Oper.wp_mono h hh.2⟩
 ·rename_i hw;rw[if_neg hw]at hh;exact h _ _ hh
theorem ZB7 {o:Oper} {a:Act} {w w':World} {v:Value} {K:Act->World->Prop} {R:Exit->Act->World->Prop} (e:(execOp a.eval o).run P w = .ok (.value v) w') :
 o.wp P a w K R↔K (a.put o.dst v) w':=by
 unfold Oper.wp;rw[e];exact Iff.rfl
theorem ZNm {o:Oper} {a:Act} {w:World} {K:Act->World->Prop} (h:o.wp P a w K (Qn Q)):∃x w',(execOp a.eval o).run P w = .ok x w':=by
 unfold Oper.wp at h;cases hr:(execOp a.eval o).run P w with
 | ok x w'=>exact⟨x,w',rfl⟩
 | halt q w' =>
  rw[hr]at h;cases q <;> simp only[Oper.upon]at h;exact h.elim
theorem ZJS {f:FuncId} {args:Array Value} {w:World} {R:Ending->World->Prop} (h:Calls P f args w R):∃e w',R e w':=by
 obtain⟨e,w',_,hr,_⟩:=h [];exact⟨e,w',hr⟩
theorem ZJu {row:String} {args:Array Value} {w:World} {R:Value->World->Prop} (h:Rows P row args w R):∃v w',R v w':=by
 obtain⟨v,w',hr,_⟩:=h default [];exact⟨v,w',hr⟩
theorem ZJ5 {o:Oper} {a:Act} {w:World} {K:Act->World->Prop} (h:o.wp P a w K (Qn Q)) :
 ∃v d w',K (({ a with defers:=d }:Act).put o.dst v) w':=by
 unfold Oper.wp at h;cases hr:(execOp a.eval o).run P w with
 | halt q w' =>
  rw[hr]at h;cases q <;> simp only[Oper.upon]at h;exact h.elim
 | ok x w' =>
  rw[hr]at h;cases x <;> simp only[Oper.upon]at h
  case value v=>exact⟨v,a.defers,w',h⟩
  case skip=>exact⟨undef,a.defers,w',h⟩
  case defer d=>exact⟨undef,d::a.defers,w',h⟩
  case enter f args =>
   obtain⟨e,w'',he⟩:=ZJS h;cases e with
   | returned v=>exact⟨v,a.defers,w'',he⟩
   | panicked c=>exact he.elim
   | outgrown=>obtain⟨_,_,hl⟩:=he;exact hl.elim
  case row row args =>
   obtain⟨v,w'',he⟩:=ZJu h;exact⟨v,a.defers,w'',he⟩
theorem ZAi {ρ ρ' : Operand → Value} {op : Op} (h : ∀ x ∈ op.operands, ρ x = ρ' x) : chkV ρ op = chkV ρ' op := by
  cases op <;> simp only [Op.operands] at h <;> simp only [chkV]
  case binOp bop t x y t' => rw [h x (by simp), h y (by simp)]
  case nilCheck x => rw [h x (by simp)]
  case convert s d x => rw [h x (by simp)]
  case call c =>
    obtain ⟨callee, args, ts⟩ := c
    have ha : ∀ x ∈ args.toList, ρ x = ρ' x := fun x hx => h x (by unfold Call.operands; simp; exact .inr (by simpa using hx))
    dsimp only
    generalize args.toList = l at ha
    cases callee with
    | builtin b => cases b <;> first
      | rfl
      | (rcases l with _ | ⟨x, _ | ⟨y, _ | ⟨z, l⟩⟩⟩ <;> first
         | rfl
         | (show twoInts (ρ x) (ρ y) = twoInts (ρ' x) (ρ' y); rw [ha x (by simp), ha y (by simp)]))
    | value f => rfl
    | invoke r m => rfl
theorem Zq {o:Oper} {a:Act} {dst:Option Tmp} {v:Value} (h:∀d,dst=some d->d∉o.looksAt ops):∀x∈o.op.operands,(a.put dst v).eval x=a.eval x:=fun x hx =>
 Act.eval_put fun d hd h0=>h d hd (by
  subst h0;exact List.mem_append_left _ (List.mem_filterMap.2 ⟨.tmp d,by simpa using hx,rfl⟩))
theorem ZBw {a:Act} {d:List Deferred} (x:Operand):({ a with defers:=d }:Act).eval x=a.eval x:=by cases x <;> rfl
theorem ZB4 (a:Act) {x y:Oper} (hd:∀d,x.dst=some d->y.dst≠some d) (v u:Value):(a.put x.dst v).put y.dst u=(a.put y.dst u).put x.dst v:=Act.put_comm a v u hd
def Yl (P:Program) (ops:Array Oper) (o:Oper) (v:Value) (a:Act):Prop :=
 (wanted o (yielded ops a.tmps)=true/\chkV a.eval o.op=true/\∀w,(execOp a.eval o).run P w = .ok (.value v) w)\/(wanted o (yielded ops a.tmps)=false/\v=undef)
theorem Yl.st {o:Oper} {v:Value} {a:Act} {w:World} {K:Act->World->Prop} (h:Yl P ops o v a):Go.Proofs.YtkdcnhnaiknaaaaGreat.st P ops Q o K a w↔K (a.put o.dst v) w:=by
 unfold Go.Proofs.YtkdcnhnaiknaaaaGreat.st;rcases h with ⟨h1,h2,h3⟩ | ⟨h1,rfl⟩
 ·rw[if_pos h1,ZB7 (h3 w)];exact⟨fun h=>h.2,fun h=>⟨h2,h⟩⟩
 ·rw[if_neg (by rw[h1];exact Bool.false_ne_true)]
theorem Yl.same {o:Oper} {v:Value} {a a':Act} (h:Yl P ops o v a) (hs:∀cs b,o.op ≠ .select cs b) (he:∀x∈o.op.operands,a'.eval x=a.eval x) (hw:wanted o (yielded ops a'.tmps)=wanted o (yielded ops a.tmps)):Yl P ops o v a':=by
 unfold Yl at *;rw[hw,execOp_congr o hs he,ZAi he];exact h
theorem Yl.away {o:Oper} {v:Value} {a:Act} {dst:Option Tmp} {u:Value} (h:Yl P ops o v a) (hs:∀cs b,o.op ≠ .select cs b) (hd:∀d,dst=some d->d∉o.looksAt ops):Yl P ops o v (a.put dst u) :=
 h.same hs (Zq hd) (wanted_put o a dst u hd)
theorem ZE5 {o:Oper} {a:Act} {w:World} {K:Act->World->Prop} (hc:cls P o.op=0) (h:st P ops Q o K a w):∃v,Yl P ops o v a:=by
 unfold st at h;split at h
 ·rename_i hw;obtain⟨x,w',e⟩:=ZNm h.2;obtain⟨v,rfl,rfl,h2⟩:=ZK1 hc h.1 e;exact⟨v,.inl ⟨hw,h.1,h2⟩⟩
 ·rename_i hw;exact⟨undef,.inr ⟨by simpa using hw,rfl⟩⟩
theorem ZDQ {x y:Oper} {K:Act->World->Prop} {a:Act} {w:World} (p0:∀cs b,x.op ≠ .select cs b) (h0:∀cs b,y.op ≠ .select cs b) (q0:x.apart ops y=true) (hc:cls P y.op=0)
 (h:st P ops Q x (st P ops Q y K) a w):st P ops Q y (st P ops Q x K) a w:=by
 obtain⟨h1,h2,h3⟩:=Oper.apart_spec q0;have hy:∃v,Yl P ops y v a:=by
  unfold st at h;split at h
  ·obtain⟨u,d,w',hk⟩:=ZJ5 h.2;obtain⟨v,hv⟩:=ZE5 hc hk;refine⟨v,hv.same h0 (fun z hz=>?_) ?_⟩
   ·rw[Zq (ops:=ops) h1 z hz];exact(ZBw z).symm
   ·rw[wanted_put y _ x.dst u h1]
  ·obtain⟨v,hv⟩:=ZE5 hc h;refine⟨v,hv.same h0 (fun z hz=>(Zq (ops:=ops) h1 z hz).symm) (wanted_put y a x.dst undef h1).symm⟩
 obtain⟨v,hv⟩:=hy;rw[hv.st];unfold st at h ⊢;rw[wanted_put x a y.dst v h3];split
 ·rename_i hw;rw[if_pos hw]at h;refine⟨(ZAi (Zq h3)).trans h.1,?_⟩;have hh:=h.2;unfold Oper.wp at hh ⊢;rw[execOp_congr x p0 (Zq h3)];generalize (execOp a.eval x).run P w=r at *;have fin:∀(b:Act) (u:Value) (w':World),Yl P ops y v b->st P ops Q y K (b.put x.dst u) w'->K ((b.put y.dst v).put x.dst u) w':=fun b u w' hb hk=>by
   have:=(hb.away (dst:=x.dst) (u:=u) h0 h1).st.1 hk;rw[ZB4 b h2 u v]at this;exact this
  cases r with
  | ok n w' =>
   cases n <;> simp only[Oper.upon]at hh ⊢
   case value u=>exact fin _ _ _ hv hh
   case skip=>exact fin _ _ _ hv hh
   case defer d =>
    have hb:Yl P ops y v ({ a with defers:=d::a.defers }:Act):=hv.same h0 (fun z _=>ZBw z) rfl;rw[Act.put_defers];exact fin _ _ _ hb hh
   case enter f args =>
    refine Calls.mono hh fun e w'' he=>?_;cases e with
    | returned u=>exact fin _ _ _ hv he
    | panicked c=>exact he
    | outgrown=>exact he
   case row row args=>exact Rows.mono hh fun u w'' he=>fin _ _ _ hv he
  | halt q w'=>cases q <;> simp only[Oper.upon]at hh ⊢;exact hh
 ·rename_i hw;rw[if_neg hw]at h;have:=(hv.away (dst:=x.dst) (u:=undef) h0 h1).st.1 h;rw[ZB4 a h2 undef v]at this;exact this
theorem ZD7 {x y:Oper} {K:Act->World->Prop} {a:Act} {w:World} (h0:∀cs b,x.op ≠ .select cs b) (p0:∀cs b,y.op ≠ .select cs b) (q0:x.apart ops y=true) (hc:cls P x.op=0)
 (h:st P ops Q x (st P ops Q y K) a w):st P ops Q y (st P ops Q x K) a w:=by
 obtain⟨h1,h2,h3⟩:=Oper.apart_spec q0;obtain⟨v,hv⟩:=ZE5 hc h;rw[hv.st]at h;unfold st at h ⊢;rw[wanted_put y a x.dst v h1]at h;have fin:∀(b:Act) (u:Value) (w':World),Yl P ops x v b->K ((b.put x.dst v).put y.dst u) w'->st P ops Q x K (b.put y.dst u) w':=fun b u w' hb hk=>by
  rw[(hb.away (dst:=y.dst) (u:=u) h0 h3).st,<-ZB4 b h2 v u];exact hk
 split
 ·rename_i hw;rw[if_pos hw]at h;refine⟨(ZAi (Zq h1)).symm.trans h.1,?_⟩;have hh:=h.2;unfold Oper.wp at hh ⊢;rw[execOp_congr y p0 (Zq h1)]at hh;generalize (execOp a.eval y).run P w=r at *;cases r with
  | ok n w' =>
   cases n <;> simp only[Oper.upon]at hh ⊢
   case value u=>exact fin _ _ _ hv hh
   case skip=>exact fin _ _ _ hv hh
   case defer d =>
    have hb:Yl P ops x v ({ a with defers:=d::a.defers }:Act):=hv.same h0 (fun z _=>ZBw z) rfl;refine fin _ _ _ hb ?_;rw[<-Act.put_defers];exact hh
   case enter f args =>
    refine Calls.mono hh fun e w'' he=>?_;cases e with
    | returned u=>exact fin _ _ _ hv he
    | panicked c=>exact he
    | outgrown=>exact he
   case row row args=>exact Rows.mono hh fun u w'' he=>fin _ _ _ hv he
  | halt q w'=>cases q <;> simp only[Oper.upon]at hh ⊢;exact hh
 ·rename_i hw;rw[if_neg hw]at h;exact fin _ _ _ hv h
theorem ZKp {x y:Oper} {K:Act->World->Prop} {a:Act} {w:World} (q0:∀cs b,x.op ≠ .select cs b) (p0:∀cs b,y.op ≠ .select cs b) (h0:x.apart ops y=true) (hx:cls P x.op=1) (hy:cls P y.op=1\/cls P y.op=2)
 (h:st P ops Q x (st P ops Q y K) a w):st P ops Q y (st P ops Q x K) a w:=by
 obtain⟨h1,h2,h3⟩:=Oper.apart_spec h0;have hX:∃v,st P ops Q y K (a.put x.dst v) w/\∀(u:Value) (w2:World),(∀k,k<w.heap.size->w2.heap[k]? = w.heap[k]?)->K ((a.put x.dst v).put y.dst u) w2->st P ops Q x K (a.put y.dst u) w2:=by
  unfold st at h;split at h
  ·rename_i hw;obtain⟨n,w',e⟩:=ZNm h.2;obtain⟨v,rfl,rfl,he⟩:=ZGZ hx e;refine⟨v,(ZB7 e).1 h.2,fun u w2 k0 hk=>?_⟩;unfold st;rw[wanted_put x a y.dst u h3,if_pos hw];refine⟨(ZAi (Zq h3)).trans h.1,?_⟩;have e2:(execOp (a.put y.dst u).eval x).run P w2 = .ok (.value v) w2:=by rw[execOp_congr x q0 (Zq h3)];exact he w2 k0
   rw[ZB7 e2,<-ZB4 a h2 v u];exact hk
  ·rename_i hw;refine⟨undef,h,fun u w2 _ hk=>?_⟩;unfold st;rw[wanted_put x a y.dst u h3,if_neg hw,<-ZB4 a h2 undef u];exact hk
 obtain⟨v,hY,hX⟩:=hX;unfold st at hY ⊢;rw[wanted_put y a x.dst v h1]at hY;split
 ·rename_i hw;rw[if_pos hw]at hY;refine⟨(ZAi (Zq h1)).symm.trans hY.1,?_⟩;obtain⟨n,w',e⟩:=ZNm hY.2;have hn:∃u,n = .value u/\∀k,k<w.heap.size->w'.heap[k]? = w.heap[k]? :=by
   rcases hy with hy | hy
   ·obtain⟨u,rfl,rfl,_⟩:=ZGZ hy e;exact⟨u,rfl,fun _ _=>rfl⟩
   ·obtain⟨⟨u,rfl⟩,hk⟩:=ZMe hy e;exact⟨u,rfl,hk⟩
  obtain⟨u,rfl,hk⟩:=hn;have hf:=(ZB7 e).1 hY.2;rw[execOp_congr y p0 (Zq h1)]at e;rw[ZB7 e];exact hX u w' hk hf
 ·rename_i hw;rw[if_neg hw]at hY;exact hX undef w (fun _ _=>rfl) hY
def noSel (o:Oper):Bool:=match o.op with | .select .. =>false | _=>true
theorem ZAN {o:Oper} (h:noSel o=true):∀cs b,o.op ≠ .select cs b:=fun cs b e=>by simp[noSel,e]at h
def comm (P:Program) (ops:Array Oper) (x y:Oper):Bool :=
 x.apart ops y&&(cls P y.op==0 || cls P x.op==0 || (cls P x.op==1&&(cls P y.op==1 || cls P y.op==2)))
theorem swap {x y:Oper} {K:Act->World->Prop} {a:Act} {w:World} (q0:noSel x=true) (p0:noSel y=true) (hc:comm P ops x y=true)
 (h:st P ops Q x (st P ops Q y K) a w):st P ops Q y (st P ops Q x K) a w:=by
 simp only[comm,Bool.and_eq_true,Bool.or_eq_true,beq_iff_eq]at hc;obtain⟨h0,(h1 | h1) | ⟨h1,h2⟩⟩:=hc
 ·exact ZDQ (ZAN q0) (ZAN p0) h0 h1 h
 ·exact ZD7 (ZAN q0) (ZAN p0) h0 h1 h
 ·exact ZKp (ZAN q0) (ZAN p0) h0 h1 h2 h
def run (P:Program) (ops:Array Oper) (Q:Act->World->Prop):List Oper->Act->World->Prop
 | []=>Q
 | o::l=>st P ops Q o (run P ops Q l)
theorem move:∀(pre post:List Oper) (y:Oper) (a:Act) (w:World),(∀x∈pre,noSel x=true/\comm P ops x y=true)->noSel y=true ->
 run P ops Q (pre++y::post) a w->st P ops Q y (run P ops Q (pre++post)) a w
 | [],_,_,_,_,_,_,h=>h
 | x::pre,post,y,a,w,hp,hy,h=>by
  have h1:st P ops Q x (st P ops Q y (run P ops Q (pre++post))) a w:=ZNh (fun a w hh=>move pre post y a w (fun z hz=>hp z (List.mem_cons_of_mem _ hz)) hy hh) h;obtain⟨h2,h3⟩:=hp x (List.mem_cons_self ..);exact swap h2 hy h3 h1
def waits (o:Oper) (j:Nat):Bool:=o.after.any fun e=>Region.binds .any e&&e.on==j
inductive Reach (ops:Array Oper):Nat->Nat->Prop where
  | one {i j:Nat} {o:Oper}:ops[i]? = some o->waits o j=true->Reach ops i j
  | step {i k j:Nat} {o:Oper}:ops[i]? = some o->waits o k=true->Reach ops k j->Reach ops i j
def maskOf (acc:List Nat) (o:Oper):Nat:=o.after.toList.foldl (fun s e=>if Region.binds .any e then s ||| (1 <<< e.on) ||| acc.getD e.on 0 else s) 0
def masks:List Oper->List Nat->List Nat
 | [],acc=>acc
 | o::r,acc=>masks r (acc ++ [maskOf acc o])
theorem ZCb (i j:Nat):(1 <<< i:Nat).testBit j=true->i=j:=by
 intro h;rw[Nat.one_shiftLeft,Nat.testBit_two_pow]at h;simpa using h
theorem ZHO {acc:List Nat} {i:Nat} {o:Oper} (ho:ops[i]? = some o) (q0:∀k j,(acc.getD k 0).testBit j=true->Reach ops k j) (j:Nat) (h:(maskOf acc o).testBit j=true):Reach ops i j:=by
 unfold maskOf at h;have key:∀(l:List Edge) (s:Nat),(∀e∈l,e∈o.after.toList)->(s.testBit j=true->Reach ops i j) ->
  (l.foldl (fun s e=>if Region.binds .any e then s ||| (1 <<< e.on) ||| acc.getD e.on 0 else s) s).testBit j=true->Reach ops i j:=by
  intro l
  induction l with
  | nil=>intro s _ hs h;exact hs h
  | cons e l ih =>
   intro s hl hs h;refine ih _ (fun e' p0=>hl e' (List.mem_cons_of_mem _ p0)) ?_ h;intro hb;dsimp only at hb;split at hb
   ·rename_i h0;have hw:waits o e.on=true:=by
     unfold waits;rw[Array.any_eq_true'];exact⟨e,by simpa using hl e (List.mem_cons_self ..),by simp[h0]⟩
    simp only[Nat.testBit_or,Bool.or_eq_true]at hb;rcases hb with (hb | hb) | hb
    ·exact hs hb
    ·obtain rfl:=ZCb _ _ hb;exact .one ho hw
    ·exact .step ho hw (q0 _ _ hb)
   ·exact hs hb
 exact key _ 0 (fun e he=>he) (fun h=>by simp at h) h
theorem ZEt:∀(l:List Oper) (acc:List Nat),(∀j,l[j]? = ops[acc.length+j]?)->(∀k j,(acc.getD k 0).testBit j=true->Reach ops k j) ->
 ∀k j,((masks l acc).getD k 0).testBit j=true->Reach ops k j
 | [],_,_,h0,k,j,h=>h0 k j h
 | o::l,acc,hl,h0,k,j,h=>by
  refine ZEt l (acc ++ [maskOf acc o]) (fun j=>?_) (fun k j hk=>?_) k j h
  ·have:=hl (j+1);simp only[List.getElem?_cons_succ]at this;rw[this,List.length_append,List.length_singleton];congr 1;omega
  ·rcases Nat.lt_or_ge k acc.length with h1 | h1
   ·rw[List.getD_eq_getElem?_getD,List.getElem?_append_left h1,<-List.getD_eq_getElem?_getD]at hk;exact h0 k j hk
   ·rw[List.getD_eq_getElem?_getD,List.getElem?_append_right h1,<-List.getD_eq_getElem?_getD]at hk;rcases Nat.eq_or_lt_of_le h1 with h2 | h2
    ·subst h2;simp only[Nat.sub_self,List.getD_cons_zero]at hk;exact ZHO (by simpa using (hl 0).symm) h0 j hk
    ·rw[List.getD_eq_getElem?_getD,List.getElem?_eq_none (by simp;omega)]at hk;simp at hk
def closedB (ops:Array Oper) (listed:Array Bool):Prop:=∀i o,ops[i]? = some o->listed.getD i false=true->∀j,waits o j=true->listed.getD j false=true
theorem ZGl {listed:Array Bool} (q0:closedB ops listed) {i j:Nat} (h:Reach ops i j) (hi:listed.getD i false=true\/i∈Region.ready .any ops listed):listed.getD j false=true:=by
 have one:∀ {i j:Nat} {o:Oper},ops[i]? = some o->waits o j=true->(listed.getD i false=true\/i∈Region.ready .any ops listed)->listed.getD j false=true:=by
  intro i j o ho hw hi;rcases hi with hi | hi
  ·exact q0 i o ho hi j hw
  ·obtain⟨_,o',p0,h0⟩:=mem_ready.1 hi;obtain rfl:o=o':=Option.some.inj (ho.symm.trans p0);unfold waits at hw;obtain⟨e,he,hb⟩:=Array.any_eq_true'.1 hw;simp only[Bool.and_eq_true,beq_iff_eq]at hb;rw[<-hb.2];exact h0 e he hb.1
 induction h with
 | one ho hw=>exact one ho hw hi
 | step ho hw _ ih=>exact ih (.inl (one ho hw hi))
def pairB (P:Program) (ops:Array Oper) (ms:List Nat) (j i:Nat):Bool :=
 j != i&&(match ops[j]?,ops[i]? with
  | some oj,some oi=> !waits oj i&&((ms.getD i 0).testBit j || comm P ops oj oi)
  | _,_=>false)
def pairsB (P:Program) (ops:Array Oper) (ms:List Nat):List Nat->Bool
 | []=>true
 | j::r=>r.all (pairB P ops ms j)&&pairsB P ops ms r
def lexB (P:Program) (ops:Array Oper) (l:List Nat):Bool :=
 l.length==ops.size&&ops.toList.all noSel&&l.all (fun i=>decide (i<ops.size)&&(match ops[i]? with | some o=> !waits o i&&o.after.toList.all (fun e=>decide (e.on<ops.size)) | none=>false)) &&
 (List.range ops.size).all l.contains&&pairsB P ops (masks ops.toList []) l
theorem ZDB {ms:List Nat}:∀ {l:List Nat},pairsB P ops ms l=true->l.Pairwise fun j i=>pairB P ops ms j i=true
 | [],_=> .nil
 | j::r,h=>by
  simp only[pairsB,Bool.and_eq_true,List.all_eq_true]at h;exact .cons (fun i hi=>h.1 i hi) (ZDB h.2)
def opsOf (ops:Array Oper) (l:List Nat):List Oper:=l.filterMap fun i=>ops[i]?
theorem ZMQ {ms : List Nat} (w0 : ∀ k j, (ms.getD k 0).testBit j = true → Reach ops k j) (n0 : ∀ o ∈ ops.toList, noSel o = true)
    {R : Exit → Act → World → Prop} (hR : ∀ a w, Q a w → R .normal a w) :
    ∀ (n : Nat) (l : List Nat) (listed : Array Bool) (a : Act) (w : World), l.length = n → (∀ i, i ∈ l ↔ (i < ops.size ∧ listed.getD i true = false)) → listed.size = ops.size → closedB ops listed →
      (∀ i ∈ l, ∀ o, ops[i]? = some o → waits o i = false ∧ ∀ e ∈ o.after, e.on < ops.size) →
      l.Pairwise (fun j i => pairB P ops ms j i = true) → run P ops Q (opsOf ops l) a w → wpAny P .any ops R n listed a w := by
  intro n
  induction n with
  | zero =>
    intro l listed a w hl hm _ _ _ _ h
    obtain rfl : l = [] := List.eq_nil_of_length_eq_zero hl
    refine ⟨?_, hR _ _ h⟩
    rw [List.eq_nil_iff_forall_not_mem]
    intro i hi
    have h1 := mem_ready.1 hi
    obtain ⟨h1, o, ho, _⟩ := h1
    have : i ∈ ([] : List Nat) := (hm i).2 ⟨(Array.getElem?_eq_some_iff.1 ho).1, h1⟩
    cases this
  | succ n ih =>
    intro l listed a w hl hm p1 a0 x0 y0 h
    refine ⟨fun v0 => ?_, fun i hi => ?_⟩
    ·
      exfalso
      match l, hl with
      | i0 :: r, _ =>
        have b0 := (hm i0).1 (List.mem_cons_self ..)
        obtain ⟨o, ho⟩ : ∃ o, ops[i0]? = some o := ⟨ops[i0], Array.getElem?_eq_getElem b0.1⟩
        have : i0 ∈ Region.ready .any ops listed := by
          refine mem_ready.2 ⟨b0.2, o, ho, fun e he hb => ?_⟩
          have z0 : waits o e.on = true := by
            unfold waits
            rw [Array.any_eq_true']
            exact ⟨e, he, by simp [hb]⟩
          cases f0 : listed.getD e.on false with
          | true => rfl
          | false =>
            exfalso
            have m0 := (x0 i0 (List.mem_cons_self ..) o ho).2 e he
            have q0 : e.on ∈ i0 :: r := (hm e.on).2 ⟨m0, by
              have : e.on < listed.size := by omega
              simp [this] at f0 ⊢; exact f0⟩
            rcases List.mem_cons.1 q0 with o0 | q0
            · have := (x0 i0 (List.mem_cons_self ..) o ho).1
              rw [o0] at z0
              rw [z0] at this
              cases this
            · have hp := (List.pairwise_cons.1 y0).1 _ q0
              simp only [pairB, ho, Array.getElem?_eq_getElem m0, Bool.and_eq_true, Bool.not_eq_true'] at hp
              rw [z0] at hp
              exact absurd hp.2.1 (by simp)
        rw [v0] at this
        cases this
    · obtain ⟨k1, o, ho, t0⟩ := mem_ready.1 hi
      have m0 : i < ops.size := (Array.getElem?_eq_some_iff.1 ho).1
      have r0 : i ∈ l := (hm i).2 ⟨m0, k1⟩
      obtain ⟨pre, post, rfl⟩ := List.append_of_mem r0
      have p0 := List.pairwise_append.1 y0
      have u0 : ∀ j ∈ pre ++ post, j ≠ i := by
        intro j hj he
        subst he
        rcases List.mem_append.1 hj with hj | hj
        · have := p0.2.2 j hj j (List.mem_cons_self ..)
          simp [pairB] at this
        · have := (List.pairwise_cons.1 p0.2.1).1 j hj
          simp [pairB] at this
      have k0 : opsOf ops (pre ++ i :: post) = opsOf ops pre ++ o :: opsOf ops post := by simp [opsOf, List.filterMap_append, ho]
      have h0 : opsOf ops (pre ++ post) = opsOf ops pre ++ opsOf ops post := by simp [opsOf, List.filterMap_append]
      rw [k0] at h
      have q1 : o ∈ ops.toList := by simpa using Array.mem_of_getElem? ho
      have j0 := move (opsOf ops pre) (opsOf ops post) o a w (fun x hx => by
        obtain ⟨j, hj, e0⟩ := List.mem_filterMap.1 hx
        refine ⟨n0 x (by simpa using Array.mem_of_getElem? e0), ?_⟩
        have hp := p0.2.2 j hj i (List.mem_cons_self ..)
        simp only [pairB, e0, ho, Bool.and_eq_true, Bool.or_eq_true] at hp
        rcases hp.2.2 with hp | hp
        · exfalso
          have h1 := ZGl a0 (w0 i j hp) (.inr hi)
          have h2 := ((hm j).1 (List.mem_append_left _ hj)).2
          have h3 := ((hm j).1 (List.mem_append_left _ hj)).1
          have : j < listed.size := by omega
          simp [this] at h1 h2
          rw [h1] at h2
          cases h2
        · exact hp) (n0 o q1) h
      rw [← h0] at j0
      have g0 : ∀ a w, run P ops Q (opsOf ops (pre ++ post)) a w → wpAny P .any ops R n (listed.setIfInBounds i true) a w := fun a w hr => by
        refine ih (pre ++ post) _ a w ?_ ?_ ?_ ?_ ?_ ?_ hr
        · simp only [List.length_append, List.length_cons] at hl ⊢; omega
        · intro j
          constructor
          · intro hj
            have s0 : j ∈ pre ++ i :: post := by
              rcases List.mem_append.1 hj with hj | hj
              · exact List.mem_append_left _ hj
              · exact List.mem_append_right _ (List.mem_cons_of_mem _ hj)
            have := (hm j).1 s0
            refine ⟨this.1, ?_⟩
            rw [getD_set_ne true (Ne.symm (u0 j hj))]
            exact this.2
          · rintro ⟨h1, h2⟩
            have d0 : j ≠ i := by
              intro he
              subst he
              have : j < listed.size := by omega
              simp [this] at h2
            rw [getD_set_ne true (Ne.symm d0)] at h2
            have := (hm j).2 ⟨h1, h2⟩
            rcases List.mem_append.1 this with hj | hj
            · exact List.mem_append_left _ hj
            · rcases List.mem_cons.1 hj with hj | hj
              · exact absurd hj d0
              · exact List.mem_append_right _ hj
        · simp [p1]
        · intro k ok hk l0 j hw
          by_cases c0 : i = k
          · subst c0
            obtain rfl : o = ok := Option.some.inj (ho.symm.trans hk)
            unfold waits at hw
            obtain ⟨e, he, hb⟩ := Array.any_eq_true'.1 hw
            simp only [Bool.and_eq_true, beq_iff_eq] at hb
            rw [← hb.2]
            exact getD_set_true (t0 e he hb.1)
          · rw [getD_set_ne false c0] at l0
            exact getD_set_true (a0 k ok hk l0 j hw)
        · intro j hj
          refine x0 j ?_
          rcases List.mem_append.1 hj with hj | hj
          · exact List.mem_append_left _ hj
          · exact List.mem_append_right _ (List.mem_cons_of_mem _ hj)
        · exact y0.sublist (by simp)
      unfold wpOp
      simp only [ho]
      unfold st at j0
      split
      · rename_i hw
        rw [if_pos hw] at j0
        refine .inl ?_
        have h2 := Oper.wp_mono g0 j0.2
        unfold Oper.wp at h2 ⊢
        generalize (execOp a.eval o).run P w = r at *
        cases r with
        | ok n w' =>
          cases n <;> simp only [Oper.upon] at h2 ⊢ <;> first
            | exact h2
            | (refine Calls.mono h2 fun e w'' he => ?_
               cases e with
               | returned u => exact he
               | panicked c => exact he.elim
               | outgrown => obtain ⟨_, _, hl⟩ := he; exact hl.elim)
        | halt q w' => cases q <;> simp only [Oper.upon] at h2 ⊢; exact h2.elim
      · rename_i hw
        rw [if_neg hw] at j0
        exact g0 _ _ j0
def nontriv:Op->Bool
 | .binOp .. | .nilCheck _ | .convert .. =>true
 | .call c=>match c.callee with
  | .builtin .min=>true
  | .builtin .max=>true
  | _=>false
 | _=>false
theorem ZL4 {ρ:Operand->Value} {op:Op} (h:nontriv op=false):chkV ρ op=true:=by
 cases op <;> simp[nontriv]at h <;> first | rfl | skip
 rename_i c;obtain⟨callee,args,ts⟩:=c;unfold chkV;dsimp only;split <;> first | rfl | simp_all
def ssaB (ops:Array Oper):List Oper->Bool
 | []=>true
 | o::r=>(!nontriv o.op || (o::r).all (fun x=>match x.dst with | some d=> !(o.looksAt ops).contains d | none=>true))&&ssaB ops r
def plainB (ops:Array Oper) (l:List Oper) (a:Act):Bool:=l.all fun o=> !nontriv o.op || !wanted o (yielded ops a.tmps) || chkV a.eval o.op
theorem ZGx {o:Oper} {l:List Oper} {a:Act} {w:World} (h:wpList P ops (Qn Q) (o::l) a w) :
 if wanted o (yielded ops a.tmps) then o.wp P a w (wpList P ops (Qn Q) l) (Qn Q) else wpList P ops (Qn Q) l (a.put o.dst undef) w:=by
 unfold wpList at h;split at h
 ·rename_i hw;rw[if_pos hw];rcases h with h | ⟨_,_,_,hl⟩
  ·exact h
  ·exact hl.elim
 ·rename_i hw;rw[if_neg hw];exact h
theorem ZH1 {a:Act} {dst:Option Tmp} {v:Value} {t:Tmp} (h:dst≠some t):(a.put dst v).tmps.getD t undef=a.tmps.getD t undef:=by
 cases dst with
 | none=>rfl
 | some d =>
  have h0:d≠t:=fun e=>h (by rw[e]);simp[Act.put,Array.getElem?_setIfInBounds_ne h0]
theorem ZEf:∀(l:List Oper) (a:Act) (w:World),wpList P ops (Qn Q) l a w ->
 ∃a' w',Q a' w'/\∀t,(∀x∈l,x.dst≠some t)->a'.tmps.getD t undef=a.tmps.getD t undef
 | [],a,w,h=>⟨a,w,h,fun _ _=>rfl⟩
 | o::l,a,w,h=>by
  have h1:=ZGx h;have step:∃(b:Act) (w1:World),wpList P ops (Qn Q) l b w1/\∀t,o.dst≠some t->b.tmps.getD t undef=a.tmps.getD t undef:=by
   split at h1
   ·obtain⟨v,d,w1,hk⟩:=ZJ5 h1;exact⟨_,w1,hk,fun t ht=>ZH1 ht⟩
   ·exact⟨_,w,h1,fun t ht=>ZH1 ht⟩
  obtain⟨b,w1,hb,h0⟩:=step;obtain⟨a',w',hq,ha⟩:=ZEf l b w1 hb;exact⟨a',w',hq,fun t ht=>(ha t fun x hx=>ht x (List.mem_cons_of_mem _ hx)).trans (h0 t (ht o (List.mem_cons_self ..)))⟩
theorem ZKN {a a':Act} {o:Oper} (h:∀t∈o.looksAt ops,a'.tmps.getD t undef=a.tmps.getD t undef):∀x∈o.op.operands,a'.eval x=a.eval x:=fun x hx=>by
 cases x with
 | tmp t=>exact h t (List.mem_append_left _ (List.mem_filterMap.2 ⟨.tmp t,by simpa using hx,rfl⟩))
 | _=>rfl
theorem ZD1 {a a':Act} {t:Tmp} (h:a'.tmps.getD t undef=a.tmps.getD t undef):(match a'.tmps[t]? with | some (Value.bool b)=>some b | _=>none)=(match a.tmps[t]? with | some (Value.bool b)=>some b | _=>none):=by
 rw[Array.getD_eq_getD_getElem?,Array.getD_eq_getD_getElem?]at h;cases h1:a'.tmps[t]? <;> cases h2:a.tmps[t]? <;> simp[h1,h2]at h ⊢
 ·subst h;rfl
 ·subst h;rfl
 ·rw[h]
theorem ZHm {a a':Act} {o:Oper} (h:∀t∈o.looksAt ops,a'.tmps.getD t undef=a.tmps.getD t undef):wanted o (yielded ops a'.tmps)=wanted o (yielded ops a.tmps):=by
 unfold Region.wanted;cases hg:o.guard with
 | none=>rfl
 | some gw =>
  obtain⟨g,want⟩:=gw;have hy:yielded ops a'.tmps g=yielded ops a.tmps g:=by
   unfold yielded;cases ht:(ops[g]?).bind (·.dst)with
   | none=>rfl
   | some t=>exact ZD1 (h t (by simp[Oper.looksAt,hg,ht]))
  simp only[hy]
theorem ZIb {L:List Oper} (hQ:∀a w,Q a w->plainB ops L a=true):∀(l:List Oper) (a:Act) (w:World),(∀o∈l,o∈L)->ssaB ops l=true->wpList P ops (Qn Q) l a w->run P ops Q l a w
 | [],_,_,_,_,h=>h
 | o::l,a,w,hL,hs,h=>by
  have q0:=ZEf _ _ _ h;have h1:=ZGx h;simp only[ssaB,Bool.and_eq_true]at hs;have rec_:∀a w,wpList P ops (Qn Q) l a w->run P ops Q l a w:=fun a w=>ZIb hQ l a w (fun x hx=>hL x (List.mem_cons_of_mem _ hx)) hs.2;show st P ops Q o (run P ops Q l) a w;unfold st;split
  ·rename_i hw;rw[if_pos hw]at h1;refine⟨?_,Oper.wp_mono rec_ h1⟩;cases hn:nontriv o.op with
   | false=>exact ZL4 hn
   | true =>
    obtain⟨a',w',hq,k0⟩:=q0;have hp:=hQ _ _ hq;unfold plainB at hp;have p0:=List.all_eq_true.1 hp o (hL o (List.mem_cons_self ..));have hd:=hs.1;rw[hn]at hd p0;simp only[Bool.not_true,Bool.false_or,List.all_eq_true]at hd;have h0:∀t∈o.looksAt ops,a'.tmps.getD t undef=a.tmps.getD t undef:=fun t ht=>k0 t fun x hx he=>by
     have:=hd x hx;rw[he]at this;simp[ht]at this
    rw[ZHm h0,hw,ZAi (ZKN h0)]at p0;simpa using p0
  ·rename_i hw;rw[if_neg hw]at h1;exact rec_ _ _ h1
theorem ZFQ {id:Nat} {l:List Oper} (ord:List Nat) (l':List Oper) {R:Exit->Act->World->Prop} {a:Act} {w:World} (hm:P.follows .mixedOrders=true)
 (hl:opsOf l.toArray ord=l') (hc:lexB P l.toArray ord=true) (hs:ssaB l.toArray l'=true)
 (h:∀K:Act->World->Prop,(∀a w,plainB l.toArray l' a=true/\R .normal a w->K a w)->wpList P l.toArray (Exit.then K (fun _ _ _=>False)) l' a w.drew):(Code.region id l.toArray true).wp P R a w:=by
 have h:=h _ (fun _ _ h=>h);refine wp_region_any hm ?_;simp only[lexB,Bool.and_eq_true,List.all_eq_true,beq_iff_eq,decide_eq_true_eq,List.contains_iff_mem,List.mem_range]at hc;obtain⟨⟨⟨⟨hlen,k0⟩,q0⟩,h0⟩,j0⟩:=hc;have p0:∀k j,((masks l.toArray.toList []).getD k 0).testBit j=true->Reach l.toArray k j :=
  ZEt _ _ (fun j=>by simp) (fun k j hk=>by simp at hk)
 subst hl;refine hlen ▸ ZMQ (Q:=fun a w=>plainB l.toArray (opsOf l.toArray ord) a=true/\R .normal a w) p0 k0 (fun a w hh=>hh.2) ord.length ord (Array.replicate l.toArray.size false) a w.drew rfl (fun i=>?_) (by simp) (fun i o _ hi=>?_) (fun i hi o ho=>?_) (ZDB j0) ?_
 ·constructor
  ·intro hi;have:=(q0 i hi).1;have h2:i<l.length:=by simpa using this
   exact⟨this,by simp[h2]⟩
  ·rintro⟨h1,_⟩;exact h0 i h1
 ·simp[Array.getElem?_replicate]at hi;split at hi <;> simp at hi
 ·have:=(q0 i hi).2;rw[ho]at this;simp only[Bool.and_eq_true,Bool.not_eq_true',List.all_eq_true,decide_eq_true_eq]at this;exact⟨this.1,fun e he=>this.2 e (by simpa using he)⟩
 ·exact ZIb (fun a w hh=>hh.1) _ _ _ (fun o ho=>ho) hs h
theorem ZHd (l:List Oper):opsOf l.toArray (List.range l.length)=l:=by
 unfold opsOf;have:∀(n:Nat),n<=l.length->(List.range n).filterMap (fun i=>l.toArray[i]?)=l.take n:=by
  intro n
  induction n with
  | zero=>intro _;simp
  | succ n ih =>
   intro hn;rw[List.range_succ,List.filterMap_append,ih (by omega)];have h0:l.toArray[n]? = some (l[n]'(by omega)):=by simp
   rw[List.filterMap_cons_some h0,List.filterMap_nil];rw[List.take_succ_eq_append_getElem (by omega)]
 rw[this l.length (Nat.le_refl _),List.take_length]
theorem ZB {id:Nat} {l:List Oper} {R:Exit->Act->World->Prop} {a:Act} {w:World} (hm:P.follows .mixedOrders=true)
 (hc:lexB P l.toArray (List.range l.length)=true) (hs:ssaB l.toArray l=true)
 (h:∀K:Act->World->Prop,(∀a w,plainB l.toArray l a=true/\R .normal a w->K a w)->wpList P l.toArray (Exit.then K (fun _ _ _=>False)) l a w.drew):(Code.region id l.toArray true).wp P R a w :=
 ZFQ (List.range l.length) l hm (ZHd l) hc hs h
theorem ZPw {id:Nat} {l:List Oper} {R:Exit->Act->World->Prop} {a:Act} {w:World}
 (h:∀K:Act->World->Prop,(∀a w,plainB l.toArray l a=true/\R .normal a w->K a w)->wpList P l.toArray (Exit.then K (fun _ _ _=>False)) l a w.drew)
 (hm:P.follows .mixedOrders=true:=by kernel_rfl) (hc:lexB P l.toArray (List.range l.length)=true:=by kernel_rfl) (hs:ssaB l.toArray l=true:=by kernel_rfl):(Code.region id l.toArray true).wp P R a w :=
 ZB hm hc hs h
theorem pz0 {α:Type _} {l:List α} {i:Nat} {a:α}:l.toArray.setIfInBounds i a=(l.set i a).toArray:=List.setIfInBounds_toArray ..
theorem pz1 {α:Type _} {x a:α} {xs:List α}:(x::xs).set 0 a=a::xs:=rfl
theorem pz2 {α:Type _} {x a:α} {xs:List α} {i:Nat}:(x::xs).set (i+1) a=x::xs.set i a:=rfl
theorem pz3 {α:Type _} {l:List α} {i:Nat} (h:i<l.toArray.size):l.toArray[i]=l[i]'(by simpa using h):=List.getElem_toArray ..
theorem pz4 {α:Type _} {x:α} {xs:List α} (h:0<(x::xs).length):(x::xs)[0]=x:=rfl
theorem pz5 {α:Type _} {x:α} {xs:List α} {i:Nat} (h:i+1<(x::xs).length):(x::xs)[i+1]=xs[i]'(by simpa using h):=rfl
end
end
section
open Go.RowKit
theorem ZA {p:Prop} (h:p):Hid p:=h
def Ext (w w':World):Prop:=Below w.heap.size w w'
section
variable {w w1 w2:World}
theorem Ext.refl (w:World):Ext w w:=Below.refl _ _
theorem Ext.size (h:Ext w w1):w.heap.size<=w1.heap.size:=Below.size h
theorem Ext.trans (h:Ext w w1) (k:Ext w1 w2):Ext w w2:=Below.trans h (Below.mono k h.size)
theorem Ext.drew (h:Ext w w1):Ext w w1.drew:=Below.drew h
theorem Ext.drewN (h:Ext w w1) (n:Nat):Ext w (w1.drewN n) :=
 have hb:Below w.heap.size w w1:=h
 ⟨hb.os,hb.tape,hb.output,hb.size,hb.block⟩
theorem Ext.alloc (h:Ext w w1) (o:Obj):Ext w (w1.alloc o):=Below.alloc h h.size o
theorem Ext.setCell (h:Ext w w1) {p:Addr} (hp:w.heap.size<=p.block) (u:Value):Ext w (w1.setCell p u):=Below.setCell h hp u
theorem Ext.grown {row:Option Nat} (h:Ext w w1) (hg:w1.grownBy w2 row) (hr:∀k,row=some k->w.heap.size<=k):Ext w w2:=Below.grown h hg h.size hr
theorem Ext.cell {a:Addr} {v:Value} (h:Ext w w1) (hc:w.cell? a=some v):w1.cell? a=some v:=(Below.cell h (World.block_lt_of_cell? w a hc)).trans hc
theorem Ext.block {k:Nat} {o:Obj} (h:Ext w w1) (hk:w.heap[k]? = some o):w1.heap[k]? = some o :=
 (Below.block h k (Array.getElem?_eq_some_iff.1 hk).1).trans hk
theorem Ext.owns {base:Nat} {e:TypeId} {size:Nat} {v:Value} {n:Nat} {xs:List Value} (h:Ext w w1) (ho:w.ownsRow base e size v n xs):w1.ownsRow base e size v n xs:=by
 obtain⟨h1,h2⟩:=ho;refine⟨h1,?_⟩;rcases h2 with h2 | ⟨g,cap,cur,hv,hg,hh,r⟩
 ·exact .inl h2
 ·exact .inr ⟨g,cap,cur,hv,hg,h.block hh,r⟩
end
def Row (w:World) (g:Nat) (t:TypeId) (cs:Array Value):Prop:=w.heap[g]? = some (.cells cs t (0,0))
section
variable {w w1:World} {g:Nat} {t:TypeId} {cs:Array Value}
theorem Row.lt (h:Row w g t cs):g<w.heap.size:=(Array.getElem?_eq_some_iff.1 h).1
theorem Row.cell (h:Row w g t cs) (i:Nat) {v:Value} (hv:cs[i]? = some v):w.cell? ⟨g,i,none⟩=some v:=(cell_of_row w g i cs t (0,0) h).trans hv
theorem Row.get (h:Row w g t cs) (i:Nat):w.cell? ⟨g,i,none⟩=cs[i]? :=cell_of_row w g i cs t (0,0) h
theorem Row.free (h:Row w g t cs) (i:Nat):w.frozen? ⟨g,i,none⟩=false:=by
 simp[World.frozen?,show w.heap[g]? = some (.cells cs t (0,0))from h]
theorem Row.ext (h:Row w g t cs) (he:Ext w w1):Row w1 g t cs:=he.block h
theorem Row.keep (h:Row w g t cs) (hb:w1.heap[g]? = w.heap[g]?):Row w1 g t cs:=Eq.trans hb h
theorem Row.drew (h:Row w g t cs):Row w.drew g t cs:=h
theorem Row.alloc (h:Row w g t cs) (o:Obj):Row (w.alloc o) g t cs:=h.keep (Below.heap_alloc w o g h.lt)
theorem Row.grown {row:Option Nat} (h:Row w g t cs) (hg:w.grownBy w1 row) (h0:some g≠row):Row w1 g t cs:=h.keep (hg.block g h.lt h0)
theorem Row.away (h:Row w g t cs) {p:Addr} (hp:g≠p.block) (u:Value):Row (w.setCell p u) g t cs:=h.keep (Below.heap_setCell w p u g hp)
theorem Row.put (h:Row w g t cs) (i:Nat) (u:Value):Row (w.setCell ⟨g,i,none⟩ u) g t (cs.setIfInBounds i u):=by
 unfold Row at h ⊢;simp[World.setCell,Array.getElem?_modify,h]
theorem Row.unlike {g':Nat} {t':TypeId} {cs':Array Value} (h:Row w g t cs) (h':Row w g' t' cs') (h0:t≠t'):g≠g':=by
 rintro rfl;unfold Row at h h';rw[h]at h';injection h' with h';injection h' with _ ht;exact h0 ht
theorem Row.new (w:World) (t:TypeId) (cs:Array Value):Row (w.alloc (.cells cs t)) w.heap.size t cs:=heap_alloc_new w _
end
def Cells (w:World) (A:Option Addr) (xs:List Value):Prop :=
 xs = []\/∃g o,A=some ⟨g,o,none⟩/\∀i v,xs[i]? = some v->w.cell? ⟨g,o+i,none⟩=some v
section
variable {w w1:World} {A:Option Addr} {xs:List Value}
theorem Cells.nil (w:World) (A:Option Addr):Cells w A []:= .inl rfl
theorem Cells.ext (h:Cells w A xs) (he:Ext w w1):Cells w1 A xs:=by
 rcases h with h | ⟨g,o,hA,hc⟩
 ·exact .inl h
 ·exact .inr ⟨g,o,hA,fun i v hv=>he.cell (hc i v hv)⟩
theorem Cells.at_ (h:Cells w A xs) (h0:0<xs.length):∃g o,A=some ⟨g,o,none⟩/\∀i v,xs[i]? = some v->w.cell? ⟨g,o+i,none⟩=some v:=by
 rcases h with h | h
 ·rw[h]at h0;simp at h0
 ·exact h
theorem Cells.of_own {base:Nat} {e:TypeId} {size n c:Nat} (h:w.ownsRow base e size (.slice A n c) n xs):Cells w A xs:=by
 rcases Nat.eq_zero_or_pos xs.length with h0 | h0
 ·exact .inl (List.eq_nil_of_length_eq_zero h0)
 ·rcases h.2 with ⟨_,h2⟩ | ⟨g,cap,cur,hv,hb,hg,hn,hc,hs,ht⟩
  ·rw[h.1,h2]at h0;simp at h0
  ·injection hv with hA _ _;subst hA;refine .inr ⟨g,0,rfl,fun i v hv=>?_⟩;rw[cell_of_row w g (0+i) cur e (0,0) hg,Nat.zero_add];rw[<-ht,List.getElem?_take]at hv;split at hv
   ·simpa using hv
   ·cases hv
end
structure Chg (S:Nat->Prop) (w w':World):Prop where
  os:w'.os=w.os
  tape:w'.tape=w.tape
  output:w'.output=w.output
  size:w.heap.size<=w'.heap.size
  block:∀k,k<w.heap.size->¬ S k->w'.heap[k]? = w.heap[k]?
section
variable {S S':Nat->Prop} {w w1 w2:World}
theorem Chg.refl (S:Nat->Prop) (w:World):Chg S w w:=⟨rfl,rfl,rfl,Nat.le_refl _,fun _ _ _=>rfl⟩
theorem Chg.of_ext (h:Ext w w1) (S:Nat->Prop):Chg S w w1:=⟨Below.os h,Below.tape h,Below.output h,Below.size h,fun k hk _=>Below.block h k hk⟩
theorem Chg.of_grown {row:Option Nat} (h:w.grownBy w1 row) (hS:∀k,k<w.heap.size->row=some k->S k):Chg S w w1:=⟨h.os,h.tape,h.output,h.size,fun k hk hn=>h.block k hk (fun e=>hn (hS k hk e.symm))⟩
theorem Chg.of_set (w:World) {a:Addr} (v:Value) (hS:S a.block):Chg S w (w.setCell a v) :=
 ⟨rfl,rfl,rfl,by simp[World.setCell],fun k _ hn=>Below.heap_setCell w a v k (fun e=>hn (by rw[e];exact hS))⟩
theorem Chg.trans (h:Chg S w w1) (k:Chg S' w1 w2) (hS:∀i,i<w.heap.size->S' i->S i):Chg S w w2 :=
 ⟨k.os.trans h.os,k.tape.trans h.tape,k.output.trans h.output,Nat.le_trans h.size k.size,fun i hi hn=>(k.block i (Nat.lt_of_lt_of_le hi h.size) (fun hs=>hn (hS i hi hs))).trans (h.block i hi hn)⟩
theorem Chg.mono (h:Chg S w w1) (hS:∀i,i<w.heap.size->S i->S' i):Chg S' w w1:=⟨h.os,h.tape,h.output,h.size,fun i hi hn=>h.block i hi (fun hs=>hn (hS i hi hs))⟩
theorem Chg.ext (h:Chg S w w1) (hS:∀i,i<w.heap.size->¬ S i):Ext w w1:=⟨h.os,h.tape,h.output,h.size,fun i hi=>h.block i hi (hS i hi)⟩
theorem Ext.chg (h:Ext w w1) (k:Chg S w1 w2) (hS:∀i,i<w.heap.size->¬ S i):Ext w w2 :=
 Below.trans h ⟨k.os,k.tape,k.output,k.size,fun i hi=>k.block i (Nat.lt_of_lt_of_le hi h.size) (hS i hi)⟩
theorem Chg.cell (h:Chg S w w1) {a:Addr} {v:Value} (hc:w.cell? a=some v) (hn:¬ S a.block):w1.cell? a=some v :=
 (World.cell?_of_block (h.block a.block (World.block_lt_of_cell? w a hc) hn)).trans hc
theorem Chg.row (h:Chg S w w1) {g:Nat} {t:TypeId} {cs:Array Value} (hr:Row w g t cs) (hn:¬ S g):Row w1 g t cs:=hr.keep (h.block g hr.lt hn)
theorem Chg.owns (h:Chg S w w1) {base:Nat} {e:TypeId} {size:Nat} {v:Value} {n:Nat} {xs:List Value} (ho:w.ownsRow base e size v n xs) (hn:∀g,v.ownBlock=some g->¬ S g):w1.ownsRow base e size v n xs:=by
 obtain⟨h1,h2⟩:=ho;refine⟨h1,?_⟩;rcases h2 with h2 | ⟨g,cap,cur,hv,hg,hh,r⟩
 ·exact .inl h2
 ·exact .inr ⟨g,cap,cur,hv,hg,(h.block g (Array.getElem?_eq_some_iff.1 hh).1 (hn g (by rw[hv];rfl))).trans hh,r⟩
theorem Chg.cells (h:Chg S w w1) {A:Option Addr} {xs:List Value} (hc:Cells w A xs) (hn:∀a,A=some a->¬ S a.block):Cells w1 A xs:=by
 rcases hc with hc | ⟨g,o,hA,hc⟩
 ·exact .inl hc
 ·exact .inr ⟨g,o,hA,fun i v hv=>h.cell (hc i v hv) (show ¬ S g from hn _ hA)⟩
end
theorem ZC {w:World} {base:Nat} {e:TypeId} {size:Nat} {v:Value} {n:Nat} {xs:List Value} (h:w.ownsRow base e size v n xs) {g:Nat} (hg:v.ownBlock=some g):∃cur,Row w g e cur/\base<=g:=by
 rcases h.2 with ⟨rfl,_⟩ | ⟨g',cap,cur,rfl,hb,hh,_⟩
 ·simp[Value.ownBlock]at hg
 ·simp[Value.ownBlock]at hg;subst hg;exact⟨cur,hh,hb⟩
theorem ZJ {w:World} {base:Nat} {e:TypeId} {size:Nat} {v:Value} {n:Nat} {xs:List Value} (h:w.ownsRow base e size v n xs) {g:Nat} {t:TypeId} {cs:Array Value} (hr:Row w g t cs) (h0:e≠t):v.ownBlock≠some g:=fun hg=>by
 obtain⟨cur,h1,_⟩:=ZC h hg;exact Row.unlike h1 hr h0 rfl
theorem ZEF {w:World} {base:Nat} {e:TypeId} {size:Nat} {v:Value} {n:Nat} {xs:List Value} (h:w.ownsRow base e size v n xs):∃A c,v = .slice A n c:=by
 rcases h.2 with ⟨rfl,rfl⟩ | ⟨g,cap,cur,rfl,_⟩
 ·exact⟨none,0,rfl⟩
 ·exact⟨_,cap,rfl⟩
section
variable {S:Nat->Prop} {w w1:World}
theorem Chg.below (h:Chg S w w1) {B:Nat} (hS:∀k,S k->B<=k) (hB:B<=w.heap.size):Below B w w1 :=
 ⟨h.os,h.tape,h.output,h.size,fun k hk=>h.block k (Nat.lt_of_lt_of_le hk hB) (fun hs=>by have:=hS k hs;omega)⟩
theorem ZC3 {w:World} {base:Nat} {e:TypeId} {size:Nat} {v:Value} {n:Nat} {xs:List Value} (h:w.ownsRow base e size v n xs) {a:Addr} (ha:v.ownBlock≠some a.block) (u:Value):(w.setCell a u).ownsRow base e size v n xs :=
 (Chg.of_set (S:=fun k=>k=a.block) w u rfl).owns h fun g hg hk=>ha (by rw[hg,hk])
theorem Cells.below {B:Nat} {A:Option Addr} {xs:List Value} (h:Cells w A xs) (hb:Below B w w1) (hA:∀a,A=some a->a.block<B):Cells w1 A xs:=by
 rcases h with h | ⟨g,o,h0,hc⟩
 ·exact .inl h
 ·exact .inr ⟨g,o,h0,fun i v hv=>(hb.cell (p:=⟨g,o+i,none⟩) (show g<B from hA _ h0)).trans (hc i v hv)⟩
end
structure Elem (P:Program) (t e size bytes:Nat):Prop where
  ht:P.underlying t=some (.slice e)
  hi:∃i z,P.info? e=some i/\i.zero=some z/\i.size=size/\i.bytes=bytes/\z.cells.size=size
  hs:0<size
  hb:bytes<=1024
theorem ZBo {P:Program} {t e size bytes:Nat} (E:Elem P t e size bytes) (w:World) (ty:TypeId) {base:Nat} {v:Value} {n:Nat} {xs:List Value} (q0:w.ownsRow base e size v n xs)
 {A:Option Addr} {m c:Nat} {news:List Value} (hr:Cells w A news) (hl:news.length=m*size) (h1:∀u∈news,u.oneCell'=true) (m0:n+m<=4294967296) (p0:base<=w.heap.size) :
 ∃A1 c1 w',(Builtin.append_ #[t,t] ty #[v,.slice A m c]).run P w = .ok (.slice A1 (n+m) c1) w'/\w'.ownsRow base e size (.slice A1 (n+m) c1) (n+m) (xs++news)/\w.grownBy w' v.ownBlock /\
  ((Value.slice A1 (n+m) c1).ownBlock=v.ownBlock\/(Value.slice A1 (n+m) c1).ownBlock=some w.heap.size):=by
 suffices hh:∃v' w',(Builtin.append_ #[t,t] ty #[v,.slice A m c]).run P w = .ok v' w'/\w'.ownsRow base e size v' (n+m) (xs++news)/\w.grownBy w' v.ownBlock/\(v'.ownBlock=v.ownBlock\/v'.ownBlock=some w.heap.size)by
  obtain⟨v',w',h1,h2,h3⟩:=hh;obtain⟨A1,c1,rfl⟩:=ZEF h2;exact⟨A1,c1,w',h1,h2,h3⟩
 obtain⟨i,z,hi,hz,h3,h4,h5⟩:=E.hi;have h0:(n+m)*bytes<=140737488355328:=Nat.le_trans (Nat.mul_le_mul m0 E.hb) (by omega);cases A with
 | some a =>
  have hc:∀j u,news[j]? = some u->w.cell? (a.add j)=some u:=by
   intro j u hu;rcases hr with hr | ⟨g,o,hA,hc⟩
   ·subst hr;simp at hu
   ·cases hA;rw[Addr.add_lit];exact hc j u hu
  obtain⟨v',w',j0,h6,h7,_,h8⟩:=run_append_own_at (P:=P) w base t ty e i z size bytes E.ht hi hz h3 h4 h5 E.hs v n xs q0 a m c news hl hc h1 (by unfold maxLen;omega) h0 p0;exact⟨v',w',j0,h6,h7,h8⟩
 | none =>
  have k0:news = []:=by
   rcases hr with hr | ⟨g,o,hA,_⟩
   ·exact hr
   ·cases hA
  subst k0;have hm:m=0:=by
   have:=E.hs;rcases Nat.mul_eq_zero.1 (show m*size=0 from hl.symm)with h | h
   ·exact h
   ·omega
  subst hm;refine⟨v,w,?_,by simpa using q0,World.grownBy.refl w _,.inl rfl⟩;rcases q0.2 with ⟨rfl,rfl⟩ | ⟨g,cap,cur,rfl,_,_,g0,_⟩
  ·simp[Builtin.append_,run_underlying E.ht,sizeOf,typeInfo,hi,Builtin.lenOf,Builtin.firstCells]
  ·simp[Builtin.append_,run_underlying E.ht,sizeOf,typeInfo,hi,Builtin.lenOf,Builtin.firstCells,g0,storeCells]
theorem Zh {P:Program} {ops:Array Oper} {rest:List Oper} {o:Oper} {a:Act} {Q:Exit->Act->World->Prop} {w:World} {t e size bytes:Nat} (E:Elem P t e size bytes)
 {base:Nat} {v:Value} {n:Nat} {xs:List Value} {A:Option Addr} {m m' c:Nat} {news:List Value} (q0:w.ownsRow base e size v n xs) (hr:Cells w A news) (s x:Operand)
 (ho:o.op = .call { callee:= .builtin .append,args:=#[s,x],argTypes:=#[t,t] }) (k0:o.guard=none)
 (hs:a.eval s=v) (hx:a.eval x = .slice A m' c) (hm:m'=m) (hl:news.length=m*size) (h1:∀u∈news,u.oneCell'=true) (j0:n+m<=4294967296) (h0:base<=w.heap.size)
 (h:∀A1 c1 w',w'.ownsRow base e size (.slice A1 (n+m) c1) (n+m) (xs++news)->w.grownBy w' v.ownBlock->((Value.slice A1 (n+m) c1).ownBlock=v.ownBlock\/(Value.slice A1 (n+m) c1).ownBlock=some w.heap.size)->wpList P ops Q rest (a.put o.dst (.slice A1 (n+m) c1)) w'):wpList P ops Q (o::rest) a w :=
 wpList_plain k0 fun K hK=>by
  subst hm;obtain⟨A1,c1,w',p0,h2,h3,h4⟩:=ZBo (P:=P) E w o.type q0 (c:=c) hr hl h1 j0 h0;unfold Oper.wp execOp;simp only[ho,resolve,invoke,builtin,Sem.run_bind,Sem.run_pure,Result.andThen_ok,List.map_toArray,List.map_cons,List.map_nil,hs,hx,p0];exact hK _ _ (h A1 c1 w' h2 h3 h4)
theorem ZHg {P:Program} {ops:Array Oper} {rest:List Oper} {o:Oper} {a:Act} {Q:Exit->Act->World->Prop} {w0:World} {us:List Value} {T:TypeId} {t e bytes:Nat} (E:Elem P t e 1 bytes)
 {base:Nat} {v:Value} {n:Nat} {xs:List Value} (h0:w0.ownsRow base e 1 v n xs) (s x:Operand)
 (ho:o.op = .call { callee:= .builtin .append,args:=#[s,x],argTypes:=#[t,t] }) (p0:o.guard=none)
 (hs:a.eval s=v) (hx:a.eval x = .slice (some ⟨w0.heap.size,0,none⟩) us.length us.length) (h1:∀u∈us,u.oneCell'=true) (j0:n+us.length<=4294967296) (q0:base<=w0.heap.size)
 (h:∀A1 c1 w',w'.ownsRow base e 1 (.slice A1 (n+us.length) c1) (n+us.length) (xs++us)->w0.grownBy w' v.ownBlock->((Value.slice A1 (n+us.length) c1).ownBlock=v.ownBlock\/(Value.slice A1 (n+us.length) c1).ownBlock=some (w0.heap.size+1)) ->
  wpList P ops Q rest (a.put o.dst (.slice A1 (n+us.length) c1)) w') :
 wpList P ops Q (o::rest) a (w0.alloc (.cells us.toArray T)):=by
 refine Zh E (((Ext.refl w0).alloc _).owns h0) (A:=some ⟨w0.heap.size,0,none⟩) (news:=us) (.inr ⟨w0.heap.size,0,rfl,fun i u hu=>?_⟩) s x ho p0 hs hx rfl (by simp) h1 j0 (by simp;omega) fun A1 c1 w' h2 h3 h4=>?_
 ·rw[Nat.zero_add,cell_of_row _ _ _ _ _ _ (heap_alloc_new w0 _)];simpa using hu
 ·refine h A1 c1 w' h2 ⟨h3.os,h3.tape,h3.output,Nat.le_trans (by simp) h3.size,fun k hk k0=>(h3.block k (by simp;omega) k0).trans (Below.heap_alloc w0 _ k hk)⟩ ?_;simpa using h4
theorem ZS {us:List Value} (h:us.all Value.oneCell'=true):∀u∈us,u.oneCell'=true:=fun u hu=>List.all_eq_true.1 h u hu
def B8 (c:UInt8):Value:= .int .u8 c.toNat
def Bs (w:World) (A:Option Addr) (l:List UInt8):Prop:=Cells w A (l.map B8)
theorem Bs.ext {w w1:World} {A:Option Addr} {l:List UInt8} (h:Bs w A l) (he:Ext w w1):Bs w1 A l:=Cells.ext h he
theorem Bs.at_ {w:World} {A:Option Addr} {l:List UInt8} (h:Bs w A l) (h0:0<l.length) :
 ∃g o,A=some ⟨g,o,none⟩/\∀i (hi:i<l.length),w.cell? ⟨g,o+i,none⟩=some (.int .u8 (l[i].toNat:Int)):=by
 obtain⟨g,o,hA,hc⟩:=Cells.at_ h (by simpa using h0);exact⟨g,o,hA,fun i hi=>hc i _ (by simp[hi,B8])⟩
theorem Zf {P:Program} (ts:Array TypeId) (ty:TypeId) {x y m:Int} (hm:m=min x y) (W:World):(Builtin.min_ ts ty #[.int .i64 x,.int .i64 y]).run P W = .ok (.int .i64 m) W:=by
 simp only[Builtin.min_,List.foldlM,Builtin.min2,Sem.run_bind,Sem.run_pure,Result.andThen_ok];subst hm;congr 2;split <;> omega
theorem Bs.below {w w1:World} {B:Nat} {A:Option Addr} {l:List UInt8} (h:Bs w A l) (hb:Below B w w1) (hA:∀a,A=some a->a.block<B):Bs w1 A l:=Cells.below h hb hA
theorem Bs.cut {w:World} {g o:Nat} {l:List UInt8} (h:Bs w (some ⟨g,o,none⟩) l) (f k:Nat):Cells w (some ⟨g,o+f,none⟩) (((l.drop f).take k).map B8):=by
 rcases h with h | ⟨g',o',hA,hc⟩
 ·have:l = []:=by simpa using h
  subst this;exact .inl (by simp)
 ·cases hA;refine .inr ⟨g,o+f,rfl,fun i v hv=>?_⟩;rw[Nat.add_assoc];refine hc (f+i) v ?_;rw[List.getElem?_map]at hv ⊢;rw[List.getElem?_take]at hv;split at hv
  ·rw[List.getElem?_drop]at hv;exact hv
  ·simp at hv
theorem ZF (l:List UInt8):∀u∈l.map B8,u.oneCell'=true:=by
 intro u hu;obtain⟨_,_,rfl⟩:=List.mem_map.1 hu;rfl
theorem Zw {a b:Bool} (h:a=b):Ending.returned (.bool a) = .returned (.bool b):=by rw[h]
theorem ZCc {k:IntKind} {a b:Int} (h:a=b):Ending.returned (.int k a) = .returned (.int k b):=by rw[h]
end
section
open Go.RowKit
def contB (b:UInt8):Bool:=b.toNat / 64==2
def foldR (n:Nat) (l:List UInt8):Nat:=l.foldl (fun n b=>n*64+b.toNat%64) n
def okR (lo hi n k:Nat) (t:List UInt8):Bool:=decide (k<=t.length)&&(t.take k).all contB&&decide (lo<=foldR n (t.take k))&&decide (foldR n (t.take k)<=hi) && !(decide (55296<=foldR n (t.take k))&&decide (foldR n (t.take k)<=57343))
def decR:List UInt8->Nat×Nat
 | []=>(0,0)
 | b::t =>
  if b.toNat<128 then (b.toNat,1)
  else if b.toNat / 32==6&&okR 128 2047 (b.toNat%32) 1 t then (foldR (b.toNat%32) (t.take 1),2)
  else if b.toNat / 16==14&&okR 2048 65535 (b.toNat%16) 2 t then (foldR (b.toNat%16) (t.take 2),3)
  else if b.toNat / 8==30&&okR 65536 1114111 (b.toNat%8) 3 t then (foldR (b.toNat%8) (t.take 3),4)
  else (65533,1)
def runesF:Nat->List UInt8->List Nat
 | 0,_=> []
 | _,[]=> []
 | k+1,b::t=>(decR (b::t)).1::runesF k ((b::t).drop (decR (b::t)).2)
def runesL (l:List UInt8):List Nat:=runesF l.length l
theorem ZKo {lo hi n k:Nat} {t:List UInt8} (h:okR lo hi n k t=true):k<=t.length:=by
 unfold okR at h;simp only[Bool.and_eq_true,decide_eq_true_eq]at h;exact h.1.1.1.1
theorem ZDE (b:UInt8) (t:List UInt8):1<=(decR (b::t)).2/\(decR (b::t)).2<=t.length+1:=by
 rw[decR];split
 ·exact⟨Nat.le_refl _,Nat.le_add_left _ _⟩
 ·split
  ·rename_i h;simp only[Bool.and_eq_true]at h;have:=ZKo h.2;exact⟨by simp,by simp;omega⟩
  ·split
   ·rename_i h;simp only[Bool.and_eq_true]at h;have:=ZKo h.2;exact⟨by simp,by simp;omega⟩
   ·split
    ·rename_i h;simp only[Bool.and_eq_true]at h;have:=ZKo h.2;exact⟨by simp,by simp;omega⟩
    ·exact⟨Nat.le_refl _,Nat.le_add_left _ _⟩
theorem ZJ9 {lo hi n k:Nat} {t:List UInt8} (h:okR lo hi n k t=true):foldR n (t.take k)<=hi:=by
 unfold okR at h;simp only[Bool.and_eq_true,decide_eq_true_eq]at h;exact h.1.2
theorem ZNl (l:List UInt8):(decR l).1<=1114111:=by
 cases l with
 | nil=>exact Nat.zero_le _
 | cons b t =>
  rw[decR];split
  ·have:=b.toNat_lt;simp;omega
  ·split
   ·rename_i h;simp only[Bool.and_eq_true]at h;have:=ZJ9 h.2;simp;omega
   ·split
    ·rename_i h;simp only[Bool.and_eq_true]at h;have:=ZJ9 h.2;simp;omega
    ·split
     ·rename_i h;simp only[Bool.and_eq_true]at h;exact ZJ9 h.2
     ·decide
theorem ZDR:∀(k m:Nat) (l:List UInt8),l.length<=k->l.length<=m->runesF k l=runesF m l
 | 0,0,_,_,_=>rfl
 | 0,m+1,[],_,_=>by simp[runesF]
 | k+1,0,[],_,_=>by simp[runesF]
 | k+1,m+1,[],_,_=>by simp[runesF]
 | 0,m+1,b::t,h,_=>by simp at h
 | k+1,0,b::t,_,h=>by simp at h
 | k+1,m+1,b::t,h,h2=>by
  have:=ZDE b t;simp only[List.length_cons]at h h2;unfold runesF;rw[ZDR k m _ (by rw[List.length_drop,List.length_cons];omega) (by rw[List.length_drop,List.length_cons];omega)]
theorem ZEu:runesL [] = []:=rfl
theorem ZHS (b:UInt8) (t:List UInt8):runesL (b::t)=(decR (b::t)).1::runesL ((b::t).drop (decR (b::t)).2):=by
 have:=ZDE b t;unfold runesL;rw[List.length_cons,runesF];congr 1;exact ZDR _ _ _ (by rw[List.length_drop,List.length_cons];omega) (Nat.le_refl _)
theorem ZGK {s:List UInt8} {at_:Nat} (h:at_<s.length):runesL (s.drop at_)=(decR (s.drop at_)).1::runesL (s.drop (at_+(decR (s.drop at_)).2))/\1<=(decR (s.drop at_)).2/\at_+(decR (s.drop at_)).2<=s.length:=by
 obtain⟨b,t,h0⟩:∃b t,s.drop at_=b::t:=by
  cases hd:s.drop at_ with
  | nil=>rw[List.drop_eq_nil_iff]at hd;omega
  | cons b t=>exact⟨b,t,rfl⟩
 have hs:=ZDE b t;have hl:(b::t).length=s.length - at_:=by rw[<-h0,List.length_drop]
 simp only[List.length_cons]at hl;refine⟨?_,?_,?_⟩
 ·rw[<-List.drop_drop,h0,ZHS]
 ·rw[h0];exact hs.1
 ·rw[h0];omega
theorem ZF0 (l:List UInt8):∀r∈runesL l,r<=1114111:=by
 have key:∀(k:Nat) (l:List UInt8),∀r∈runesF k l,r<=1114111:=by
  intro k
  induction k with
  | zero=>intro l r hr;cases hr
  | succ k ih =>
   intro l r hr;cases l with
   | nil=>cases hr
   | cons b t =>
    rw[runesF,List.mem_cons]at hr;rcases hr with rfl | hr
    ·exact ZNl _
    ·exact ih _ r hr
 exact key _ l
theorem ZCO (l:List UInt8):(runesL l).length<=l.length:=by
 have key:∀(k:Nat) (l:List UInt8),(runesF k l).length<=k:=by
  intro k
  induction k with
  | zero=>intro l;exact Nat.le_refl _
  | succ k ih =>
   intro l;cases l with
   | nil=>exact Nat.zero_le _
   | cons b t=>rw[runesF,List.length_cons];exact Nat.succ_le_succ (ih _)
 exact key _ l
def lowerR (r:Nat):Nat :=
 if (65<=r/\r<=90)\/(192<=r/\r<=222/\r≠215)\/(913<=r/\r<=939/\r≠930)\/(1040<=r/\r<=1071) then r+32 else if 1024<=r/\r<=1039 then r+80 else r
def wordR (r:Nat):Bool :=
 decide ((48<=r/\r<=57)\/(65<=r/\r<=90)\/(97<=r/\r<=122)\/(192<=r/\r<=255/\r≠215/\r≠247)\/(913<=r/\r<=974/\r≠930)\/(1024<=r/\r<=1119))
def u8 (n:Nat):UInt8:=UInt8.ofNat n
def encO (r:Nat):List UInt8 :=
 if r<128 then [u8 r] else if r<2048 then [u8 (192+r / 64),u8 (128+r%64)] else if r<65536 then [u8 (224+r / 4096),u8 (128+r / 64%64),u8 (128+r%64)]
 else [u8 (240+r / 262144),u8 (128+r / 4096%64),u8 (128+r / 64%64),u8 (128+r%64)]
def badR (r:Nat):Bool:=decide (1114111<r) || (decide (55296<=r)&&decide (r<=57343))
def encR (r:Nat):List UInt8:=if badR r then encO 65533 else encO r
theorem ZHu (r:Nat):1<=(encO r).length/\(encO r).length<=4:=by
 unfold encO;split
 ·exact⟨by simp,by simp⟩
 ·split
  ·exact⟨by simp,by simp⟩
  ·split
   ·exact⟨by simp,by simp⟩
   ·exact⟨by simp,by simp⟩
theorem ZC2 (r:Nat):1<=(encR r).length/\(encR r).length<=4:=by
 unfold encR;split
 ·exact ZHu _
 ·exact ZHu _
theorem ZFp {r:Nat} (h:r<=1114111):lowerR r<=1114191:=by
 unfold lowerR;split
 ·omega
 ·split <;> omega
def cutW (s:List UInt8):List Nat->List UInt8
 | []=>s
 | r::rs=>if 32<s.length+(encR (lowerR r)).length then s else cutW (s++encR (lowerR r)) rs
theorem ZIG:∀(rs:List Nat) (s:List UInt8),s.length<=32->(cutW s rs).length<=32
 | [],s,h=>h
 | r::rs,s,h=>by
  unfold cutW;split
  ·exact h
  ·exact ZIG rs _ (by rw[List.length_append];omega)
def runsW:List Nat->List Nat->List (List Nat)
 | cur,[]=>if cur = [] then [] else [cur]
 | cur,r::rs=>if wordR r then runsW (cur ++ [r]) rs else if cur = [] then runsW [] rs else cur::runsW [] rs
def tokL (s:List UInt8):List (List UInt8):=(runsW [] (runesL s)).map (cutW [])
theorem ZD3:∀(rs cur:List Nat),(runsW cur rs).length<=rs.length+1/\(cur = []->(runsW cur rs).length<=rs.length)
 | [],cur=>by
  unfold runsW;by_cases h:cur = []
  ·simp[h]
  ·simp[h]
 | r::rs,cur=>by
  unfold runsW;have h1:=ZD3 rs (cur ++ [r]);have h2:=ZD3 rs [];have h3:=h2.2 rfl;simp only[List.length_cons];split
  ·exact⟨by omega,fun _=>by omega⟩
  ·split
   ·exact⟨by omega,fun _=>by omega⟩
   ·rename_i hc;exact⟨by simp only[List.length_cons];omega,fun h=>absurd h hc⟩
theorem ZA4 (s:List UInt8):(tokL s).length<=s.length:=by
 unfold tokL;rw[List.length_map];exact Nat.le_trans ((ZD3 _ _).2 rfl) (ZCO s)
end
section
open Go.RowKit
def Buf (w:World) (base:Nat) (e:TypeId) (A:Option Addr) (n c:Nat) (xs:List Value):Prop :=
 xs.length=n/\n<=c/\((A=none/\c=0)\/∃g cur,A=some ⟨g,0,none⟩/\base<=g/\Row w g e cur/\c<=cur.size/\cur.toList.take n=xs)
section
variable {w w1:World} {base:Nat} {e:TypeId} {A:Option Addr} {n c:Nat} {xs:List Value}
theorem Buf.nil (w:World) (base:Nat) (e:TypeId):Buf w base e none 0 0 []:=⟨rfl,Nat.le_refl _,.inl ⟨rfl,rfl⟩⟩
theorem Buf.of_own (h:w.ownsRow base e 1 (.slice A n c) n xs):Buf w base e A n c xs:=by
 obtain⟨h1,h2⟩:=h;rcases h2 with ⟨hv,rfl⟩ | ⟨g,cap,cur,hv,hb,hg,hn,_,hs,ht⟩
 ·cases hv;exact⟨by simpa using h1,Nat.le_refl _,.inl ⟨rfl,rfl⟩⟩
 ·cases hv;exact⟨by simpa using h1,hn,.inr ⟨g,cur,rfl,hb,hg,by omega,by simpa using ht⟩⟩
theorem Buf.cells (h:Buf w base e A n c xs):Cells w A xs:=by
 obtain⟨h1,h2,h3⟩:=h;rcases h3 with ⟨rfl,rfl⟩ | ⟨g,cur,rfl,hb,hg,hs,ht⟩
 ·exact .inl (List.eq_nil_of_length_eq_zero (by omega))
 ·refine .inr ⟨g,0,rfl,fun i v hv=>?_⟩;rw[Nat.zero_add,cell_of_row w g i cur e (0,0) hg];rw[<-ht,List.getElem?_take]at hv;split at hv
  ·simpa using hv
  ·cases hv
theorem Buf.keep (h:Buf w base e A n c xs) (hk:∀g,A=some ⟨g,0,none⟩->w1.heap[g]? = w.heap[g]?):Buf w1 base e A n c xs:=by
 obtain⟨h1,h2,h3⟩:=h;refine⟨h1,h2,?_⟩;rcases h3 with h3 | ⟨g,cur,hA,hb,hg,r⟩
 ·exact .inl h3
 ·exact .inr ⟨g,cur,hA,hb,hg.keep (hk g hA),r⟩
theorem Buf.lt (h:Buf w base e A n c xs):∀a,A=some a->a.block<w.heap.size:=by
 rintro a rfl;obtain⟨_,_,h3⟩:=h;rcases h3 with ⟨h3,_⟩ | ⟨g,cur,hA,hb,hg,r⟩
 ·cases h3
 ·cases hA;exact hg.lt
theorem Buf.base_le (h:Buf w base e A n c xs):∀a,A=some a->base<=a.block:=by
 rintro a rfl;obtain⟨_,_,h3⟩:=h;rcases h3 with ⟨h3,_⟩ | ⟨g,cur,hA,hb,hg,r⟩
 ·cases h3
 ·cases hA;exact hb
theorem Buf.chg {S:Nat->Prop} (h:Buf w base e A n c xs) (hc:Chg S w w1) (hn:∀a,A=some a->¬ S a.block):Buf w1 base e A n c xs :=
 h.keep fun g hA=>hc.block g (h.lt _ hA) (hn _ hA)
theorem Buf.grown {row:Option Nat} (h:Buf w base e A n c xs) (hg:w.grownBy w1 row) (h0:∀a,A=some a->row≠some a.block):Buf w1 base e A n c xs :=
 h.keep fun g hA=>hg.block g (h.lt _ hA) (fun e=>h0 _ hA e.symm)
theorem Buf.ext (h:Buf w base e A n c xs) (he:Ext w w1):Buf w1 base e A n c xs:=h.keep fun g hA=>Below.block he g (h.lt _ hA)
theorem Buf.alloc (h:Buf w base e A n c xs) (o:Obj):Buf (w.alloc o) base e A n c xs:=h.ext ((Ext.refl w).alloc o)
theorem Buf.drew (h:Buf w base e A n c xs):Buf w.drew base e A n c xs:=h.keep fun _ _=>rfl
theorem Buf.setCell (h:Buf w base e A n c xs) {p:Addr} (hp:∀a,A=some a->a.block≠p.block) (u:Value):Buf (w.setCell p u) base e A n c xs :=
 h.keep fun g hA=>Below.heap_setCell w p u g (hp _ hA)
theorem Buf.unlike (h:Buf w base e A n c xs) {g:Nat} {t:TypeId} {cs:Array Value} (hr:Row w g t cs) (h0:e≠t):∀a,A=some a->a.block≠g:=by
 rintro a rfl;obtain⟨_,_,h3⟩:=h;rcases h3 with ⟨h3,_⟩ | ⟨k,cur,hA,hb,hg,r⟩
 ·cases h3
 ·cases hA;exact hg.unlike hr h0
theorem Buf.cut (h:Buf w base e A n c xs) {m k:Nat} (hm:m<=n) (hk:m<=k) (h0:k<=c):Buf w base e A m k (xs.take m):=by
 obtain⟨h1,h2,h3⟩:=h;refine⟨by rw[List.length_take];omega,hk,?_⟩;rcases h3 with ⟨hA,h3⟩ | ⟨g,cur,hA,hb,hg,hs,ht⟩
 ·exact .inl ⟨hA,by omega⟩
 ·refine .inr ⟨g,cur,hA,hb,hg,by omega,?_⟩;rw[<-ht,List.take_take,Nat.min_eq_left hm]
theorem Buf.lower (h:Buf w base e A n c xs) {b:Nat} (hb:b<=base):Buf w b e A n c xs:=by
 obtain⟨h1,h2,h3⟩:=h;refine⟨h1,h2,?_⟩;rcases h3 with h3 | ⟨g,cur,hA,h0,r⟩
 ·exact .inl h3
 ·exact .inr ⟨g,cur,hA,by omega,r⟩
end
theorem ZCi (w:World) (g:Nat) (cs:Array Value):w.grownBy (w.setRow g cs) (some g) :=
 ⟨rfl,rfl,rfl,by simp[World.setRow],fun k _ h0=>setRow_other w g k cs (fun e=>h0 (by rw[e]))⟩
theorem ZFJ {P:Program} {t e bytes:Nat} (E:Elem P t e 1 bytes) (w:World) (ty:TypeId) {base:Nat} {A:Option Addr} {n c:Nat} {xs:List Value} (hb:Buf w base e A n c xs)
 {B:Option Addr} {m c':Nat} {news:List Value} (hr:Cells w B news) (hl:news.length=m) (h1:∀u∈news,u.oneCell'=true) (v0:n+m<=4294967296) (q0:base<=w.heap.size) :
 ∃A1 c1 w',(Builtin.append_ #[t,t] ty #[.slice A n c,.slice B m c']).run P w = .ok (.slice A1 (n+m) c1) w'/\Buf w' base e A1 (n+m) c1 (xs++news)/\w.grownBy w' (Value.slice A n c).ownBlock /\
  (A1=A\/A1=some ⟨w.heap.size,0,none⟩):=by
 obtain⟨i,z,hi,hz,h3,h4,h5⟩:=E.hi;have j0:(n+m)*bytes<=4398046511104:=Nat.le_trans (Nat.mul_le_mul v0 E.hb) (by omega);obtain⟨hx,z0,hA⟩:=hb;rcases hA with ⟨rfl,rfl⟩ | ⟨g,cur,rfl,t0,hg,hs,ht⟩
 ·obtain rfl:n=0:=by omega
  obtain rfl:xs = []:=List.eq_nil_of_length_eq_zero hx;obtain⟨A1,c1,w',m0,ho,y0,h0⟩:=ZBo E w ty (base:=base) (v:= .slice none 0 0) (n:=0) (xs:= []) ⟨rfl,.inl ⟨rfl,rfl⟩⟩ (c:=c') hr (by omega) h1 v0 q0;refine⟨A1,c1,w',m0,Buf.of_own ho,y0,?_⟩;rcases ho.2 with ⟨hv,_⟩ | ⟨g,cap,cur,hv,_⟩
  ·injection hv with hA1 _ _;exact .inl hA1
  ·injection hv with hA1 _ _;subst hA1;rcases h0 with h0 | h0
   ·simp[Value.ownBlock]at h0
   ·simp[Value.ownBlock]at h0;subst h0;exact .inr rfl
 ·cases B with
  | none =>
   have g0:news = []:=by
    rcases hr with hr | ⟨_,_,hB,_⟩
    ·exact hr
    ·cases hB
   subst g0;obtain rfl:m=0:=by simpa using hl.symm
   refine⟨some ⟨g,0,none⟩,c,w,?_,⟨by simpa using hx,by omega,.inr ⟨g,cur,rfl,t0,hg,hs,by simpa using ht⟩⟩,World.grownBy.refl w _,.inl rfl⟩;simp[Builtin.append_,run_underlying E.ht,sizeOf,typeInfo,hi,Builtin.lenOf,Builtin.firstCells,z0,storeCells]
  | some a =>
   have hc:∀j u,news[j]? = some u->w.cell? (a.add j)=some u:=by
    intro j u hu;rcases hr with hr | ⟨g',o',hB,hc⟩
    ·subst hr;simp at hu
    ·cases hB;rw[Addr.add_lit];exact hc j u hu
   by_cases p0:n+m<=c
   ·refine⟨some ⟨g,0,none⟩,c,_,run_append_room w t ty e i E.ht hi g n c cur hg a m c' news (by rw[h3];omega) hc h1 p0 (by rw[h3];omega),⟨by rw[List.length_append];omega,p0,.inr ⟨g,_,rfl,t0,setRow_heap w g cur _ e (0,0) hg,?_,?_⟩⟩,ZCi w g _,.inl rfl⟩
    ·simp[h3];omega
    ·have a0:(List.take (n*i.size) cur.toList)=xs:=by rw[h3,Nat.mul_one];exact ht
     simp only[a0];rw[List.take_append_of_le_length (by rw[List.length_append];omega),List.take_of_length_le (by rw[List.length_append];omega)]
   ·have u0:=nextslicecap_le (need:=n+m) (old:=c) (by omega);have b0:Builtin.nextslicecap (n+m) c*bytes<=2*(n+m)*bytes:=Nat.mul_le_mul_right _ u0;have c0:2*(n+m)*bytes=2*((n+m)*bytes):=Nat.mul_assoc _ _ _;have x0:=grownCap_ge w (n+m) c e;have k0:∀(j:Nat) (v:Value),xs[j]? = some v->w.cell? (Addr.add ⟨g,0,none⟩ j)=some v:=by
     intro j v hv;rw[Addr.add_lit,Nat.zero_add,cell_of_row w g j cur e (0,0) hg];rw[<-ht,List.getElem?_take]at hv;split at hv
     ·simpa using hv
     ·cases hv
    refine⟨some ⟨w.heap.size,0,none⟩,grownCap w (n+m) c e,_,run_append_grow w t ty e i z E.ht hi hz ⟨g,0,none⟩ n c xs (by rw[h3];omega) k0 a m c' news (by rw[h3];omega) hc (by omega) (by omega) (by rw[h4];omega),⟨by rw[List.length_append];omega,x0,.inr ⟨w.heap.size,_,rfl,q0,heap_alloc_new w.drew _,?_,?_⟩⟩,?_,.inr rfl⟩
    ·simp only[Array.size_append,List.size_toArray,size_zeroCells,h5];omega
    ·simp only[Array.toList_append];rw[List.take_append_of_le_length (by rw[List.length_append];omega),List.take_of_length_le (by rw[List.length_append];omega)]
    ·exact(Ext.refl w |>.drew.alloc _) |> fun h=>⟨Below.os h,Below.tape h,Below.output h,Below.size h,fun k hk _=>Below.block h k hk⟩
end
section
open Go.RowKit
theorem follows:Tryz.prog.follows .mixedOrders=true:=by kernel_rfl
theorem ZHe {α:Type} (h:Array α) (x:α) (f:α->α):(h.push x).modify h.size f=h.push (f x):=by
 apply Array.ext
 ·simp
 ·intro i h1 h2;simp only[Array.getElem_modify,Array.getElem_push];simp only[Array.size_push]at h2;split
  ·rename_i he;subst he;rw[dif_neg (by omega),dif_neg (by omega)]
  ·rename_i he;rw[dif_pos (by omega),dif_pos (by omega)]
theorem ZEp (w:World) (cs:Array Value) (t:TypeId) (n:Nat):(w.alloc (.cells cs t)).freeze ⟨w.heap.size,n,none⟩ 1=w.alloc (.cells cs t (n,n+1)):=by
 unfold World.freeze World.alloc;rw[if_neg (by omega)];simp only[ZHe];rfl
theorem ZV:Elem Tryz.prog 25 5 1 1:=⟨Tryz.underlying25,⟨_,_,rfl,rfl,rfl,rfl,rfl⟩,by omega,by omega⟩
theorem ZOD (w:World):(binOp .eql 25 (.slice none 0 0) (.slice none 0 0)).run Tryz.prog w = .ok (.bool true) w:=by kernel_rfl
theorem ZOA (a:Addr) (n c:Nat) (w:World):(binOp .eql 25 (.slice (some a) n c) (.slice none 0 0)).run Tryz.prog w = .ok (.bool false) w:=by kernel_rfl
theorem ZAn {A:Option Addr} {n m c:Nat} (h:n=m):Ending.returned (.slice A n c) = .returned (.slice A m c):=by rw[h]
theorem ZGr (w:World) (t:TypeId):(w.alloc (.cells #[] t)).ownsRow w.heap.size t 1 (.slice (some ⟨w.heap.size,0,none⟩) 0 0) 0 [] :=
 ⟨rfl,.inr ⟨w.heap.size,0,#[],rfl,Nat.le_refl _,heap_alloc_new w _,Nat.le_refl _,by unfold maxLen;omega,rfl,rfl⟩⟩
theorem ZMM (w:World) (cs:Array Value) (n c:Nat):(convert 25 25 (.slice (some ⟨w.heap.size,0,none⟩) n c)).run Tryz.prog (w.alloc (.cells cs 5)) = .ok (.slice (some ⟨w.heap.size,0,none⟩) n c) (w.alloc (.cells cs 5 (cs.size,cs.size+1))):=by
 have hs:(w.alloc (.cells cs 5)).shape? w.heap.size=some (5,cs.size):=by
  unfold World.shape?;rw[heap_alloc_new w _]
 unfold convert;simp only[Sem.run_bind,run_underlying Tryz.underlying25,Result.andThen_ok];show Sem.run _ (do
  let __do_lift <-underlying 5
  match (25:TypeId)==25,__do_lift with
   | true,TypeDesc.int IntKind.u8=>do
    markStringish ⟨w.heap.size,0,none⟩
    pure (Value.slice (some ⟨w.heap.size,0,none⟩) n c)
   | x,x_1=>unsupported (Unsupported.noEntry "convert/other")) _ = _
 simp only[Sem.run_bind,run_underlying Tryz.underlying5,Result.andThen_ok];show Sem.run _ (do
  markStringish ⟨w.heap.size,0,none⟩
  pure (Value.slice (some ⟨w.heap.size,0,none⟩) n c)) _=_
 unfold markStringish;simp only[Sem.run_bind,run_shape,Result.andThen_ok,hs,run_freeze,ZEp,Sem.run_pure]
theorem Zr {A:Option Addr} {l:List UInt8} {w:World} (h:Bs w A l) (n c:Nat) (hn:n=l.length):(convert 25 9 (.slice A n c)).run Tryz.prog w = .ok (.string ⟨l.toArray⟩) w:=by
 subst hn;rcases Nat.eq_zero_or_pos l.length with h0 | h0
 ·obtain rfl:=List.eq_nil_of_length_eq_zero h0;show (convert 25 9 (.slice A 0 c)).run Tryz.prog w=_;rw[run_convert_bytes_string w 25 9 5 A 0 c Tryz.underlying25 Tryz.underlying5 Tryz.underlying9];cases A with
  | none=>rfl
  | some a=>exact run_bytesToString w a 0 c [] rfl
 ·obtain⟨g,o,rfl,hc⟩:=h.at_ h0;have:=run_convert_bytes_arg (P:=Tryz.prog) w 25 5 Tryz.underlying25 Tryz.underlying5 g o l.length c (l.map fun x=>(x.toNat:Int)) (by simp) (fun i hi=>by rw[hc i hi];simp[List.getD,hi]) 9 Tryz.underlying9;rw[this];unfold strOfNums;have e:(l.map fun x=>(x.toNat:Int)).map (fun n=>UInt8.ofNat n.toNat)=l:=by
   rw[List.map_map]
   conv=>rhs;rw[<-List.map_id l]
   exact List.map_congr_left (fun x _=>by simp)
  rw[e]
theorem ZG {P:Program} {ops:Array Oper} {rest:List Oper} {o:Oper} {a:Act} {Q:Exit->Act->World->Prop} {w:World} {t e bytes:Nat} (E:Elem P t e 1 bytes)
 {base:Nat} {A B:Option Addr} {n c m m' c':Nat} {xs news:List Value} (hb:Buf w base e A n c xs) (hr:Cells w B news) (s x:Operand)
 (ho:o.op = .call { callee:= .builtin .append,args:=#[s,x],argTypes:=#[t,t] }) (k0:o.guard=none)
 (hs:a.eval s = .slice A n c) (hx:a.eval x = .slice B m' c') (hm:m'=m) (hl:news.length=m) (h1:∀u∈news,u.oneCell'=true) (j0:n+m<=4294967296) (h0:base<=w.heap.size)
 (h:∀A1 c1 w',Buf w' base e A1 (n+m) c1 (xs++news)->w.grownBy w' (Value.slice A n c).ownBlock->(∀w0,Ext w0 w->w0.heap.size<=base->Ext w0 w')->(A1=A\/A1=some ⟨w.heap.size,0,none⟩)->wpList P ops Q rest (a.put o.dst (.slice A1 (n+m) c1)) w'):wpList P ops Q (o::rest) a w :=
 wpList_plain k0 fun K hK=>by
  subst hm;obtain⟨A1,c1,w',q0,h2,h3,h4⟩:=ZFJ (P:=P) E w o.type hb (c':=c') hr hl h1 j0 h0;unfold Oper.wp execOp;simp only[ho,resolve,invoke,builtin,Sem.run_bind,Sem.run_pure,Result.andThen_ok,List.map_toArray,List.map_cons,List.map_nil,hs,hx,q0];refine hK _ _ (h A1 c1 w' h2 h3 (fun w0 hE hw=>hE.grown h3 fun k hk=>?_) h4);have p0:=hb.base_le;cases A with
  | none=>simp[Value.ownBlock]at hk
  | some b =>
   have:=p0 b rfl;simp[Value.ownBlock]at hk;omega
theorem ZM {P:Program} {ops:Array Oper} {rest:List Oper} {o:Oper} {a:Act} {Q:Exit->Act->World->Prop} {w0:World} {us:List Value} {T:TypeId} {t e bytes:Nat} (E:Elem P t e 1 bytes)
 {base:Nat} {A:Option Addr} {n c:Nat} {xs:List Value} (hb:Buf w0 base e A n c xs) (s x:Operand)
 (ho:o.op = .call { callee:= .builtin .append,args:=#[s,x],argTypes:=#[t,t] }) (q0:o.guard=none)
 (hs:a.eval s = .slice A n c) (hx:a.eval x = .slice (some ⟨w0.heap.size,0,none⟩) us.length us.length) (h1:∀u∈us,u.oneCell'=true) (k0:n+us.length<=4294967296) (h0:base<=w0.heap.size)
 (h:∀A1 c1 w',Buf w' base e A1 (n+us.length) c1 (xs++us)->(∀w00,Ext w00 w0->w00.heap.size<=base->Ext w00 w')->wpList P ops Q rest (a.put o.dst (.slice A1 (n+us.length) c1)) w') :
 wpList P ops Q (o::rest) a (w0.alloc (.cells us.toArray T)):=by
 refine ZG E (hb.alloc _) (B:=some ⟨w0.heap.size,0,none⟩) (news:=us) (.inr ⟨w0.heap.size,0,rfl,fun i u hu=>?_⟩) s x ho q0 hs hx rfl rfl h1 k0 (by simp;omega) fun A1 c1 w' h2 _ h3 _=>h A1 c1 w' h2 fun w00 hE p0=>h3 w00 (hE.alloc _) p0;rw[Nat.zero_add,cell_of_row _ _ _ _ _ _ (heap_alloc_new w0 _)];simpa using hu
theorem Buf.none_cap {w:World} {base:Nat} {e:TypeId} {A:Option Addr} {n c:Nat} {xs:List Value} (h:Buf w base e A n c xs) (hA:A=none):c=0:=by
 rcases h.2.2 with ⟨_,h⟩ | ⟨g,_,h,_⟩
 ·exact h
 ·rw[h]at hA;cases hA
def NewB (w:World) (l:List UInt8) (e:Ending) (w':World):Prop:=∃A c,e = .returned (.slice A l.length c)/\Buf w' w.heap.size 5 A l.length c (l.map B8)/\Ext w w'
theorem ZJh (l:List UInt8) (k:Nat):(⟨l.toArray⟩:ByteArray).extract 0 k=⟨(l.take k).toArray⟩:=by
 have:((⟨l.toArray⟩:ByteArray).extract 0 k).data=(l.take k).toArray:=by
  simp
 generalize (⟨l.toArray⟩:ByteArray).extract 0 k=x at this;cases x;simp only at this;rw[this]
theorem ZDK (l:List UInt8) (k:Nat) (hk:k<=l.length) (W:World):(Instr.sliceAt 9 (.string ⟨l.toArray⟩) none (some (.int .i64 k)) none).run Tryz.prog W = .ok (.string ⟨(l.take k).toArray⟩) W:=by
 rw[run_sliceAt_string W 9 _ _ _ _ Tryz.underlying9];have h0:(⟨l.toArray⟩:ByteArray).size=l.length:=ByteArray.size_mk_toArray l;simp only[Instr.slice,Sem.run_bind,run_underlying Tryz.underlying9,Result.andThen_ok,Instr.sliceBounds,h0,Option.isSome_none,Bool.false_eq_true,if_false,Sem.run_pure];rw[run_sliceBound W .i64 (k:Int) l.length _ (by omega) (by omega)];simp only[Result.andThen_ok,Int.toNat_natCast,ZJh]
theorem ZGP {l:List UInt8} {k:Nat} (hk:k<=l.length) {z:Int} (hz:z=(k:Int)) (W:World):(Instr.sliceAt 9 (.string ⟨l.toArray⟩) none (some (.int .i64 z)) none).run Tryz.prog W = .ok (.string ⟨(l.take k).toArray⟩) W:=by
 subst hz;exact ZDK l k hk W
theorem ZO {l:List UInt8} {i:Nat} {b:UInt8} (h:l[i]? = some b) {z:Int} (hz:z=(i:Int)) (W:World):(Instr.index 9 (.string ⟨l.toArray⟩) (.int .i64 z)).run Tryz.prog W = .ok (.int .u8 (b.toNat:Int)) W:=by
 subst hz;have hi:=(List.getElem?_eq_some_iff.1 h).1;have h2:=(List.getElem?_eq_some_iff.1 h).2;have h0:(⟨l.toArray⟩:ByteArray).size=l.length:=ByteArray.size_mk_toArray l;rw[run_index_string W 9 _ .i64 (i:Int) Tryz.underlying9,dif_pos ⟨by omega,by rw[h0];omega⟩];have:((⟨l.toArray⟩:ByteArray)[(i:Int).toNat]'(by rw[h0];omega))=b:=by
  rw[<-h2];simp only[Int.toNat_natCast];rfl
 rw[this]
theorem ZIj (l:List UInt8) (k:Nat):(⟨l.toArray⟩:ByteArray).extract k l.length=⟨(l.drop k).toArray⟩:=by
 have:((⟨l.toArray⟩:ByteArray).extract k l.length).data=(l.drop k).toArray:=by
  simp;exact List.take_of_length_le (by rw[List.length_drop];exact Nat.le_refl _)
 generalize (⟨l.toArray⟩:ByteArray).extract k l.length=x at this;cases x;simp only at this;rw[this]
theorem ZD2 (l:List UInt8) (k:Nat) (hk:k<=l.length) {z:Int} (hz:z=(k:Int)) (W:World):(Instr.sliceAt 9 (.string ⟨l.toArray⟩) (some (.int .i64 z)) none none).run Tryz.prog W = .ok (.string ⟨(l.drop k).toArray⟩) W:=by
 subst hz;rw[run_sliceAt_string W 9 _ _ _ _ Tryz.underlying9];have h0:(⟨l.toArray⟩:ByteArray).size=l.length:=ByteArray.size_mk_toArray l;simp only[Instr.slice,Sem.run_bind,run_underlying Tryz.underlying9,Result.andThen_ok,Instr.sliceBounds,h0,Option.isSome_none,Bool.false_eq_true,if_false,Sem.run_pure];rw[run_sliceBound W .i64 (k:Int) l.length _ (by omega) (by omega)];simp only[Result.andThen_ok,Int.toNat_natCast,ZIj]
def inB (lo hi but r:Int):Bool:=decide (lo<=r)&&decide (r<=hi)&&(r != but)
theorem ZLI (lo hi but r:Int) (w:World):Calls Tryz.prog 192 #[.agg #[.int .i64 lo,.int .i64 hi,.int .i64 but],.int .i64 r] w fun e w'=>e = .returned (.bool (inB lo hi but r))/\Ext w w':=by
 unfold inB;go_enter Tryz.func192,Tryz.ntmps192;go_wp2
 all_goals
  go_ret;refine⟨?_,(Ext.refl w).alloc _⟩
  simp_all
  try (intros;omega)
theorem ZBd (r:Int) (w:World):Calls Tryz.prog 215 #[.int .i64 r] w fun e w'=>e = .returned (.bool (decide (55296<=r)&&decide (r<=57343)))/\w'=w:=by
 go_enter Tryz.func215,Tryz.ntmps215;go_wp2
 all_goals
  go_ret
  simp_all
  try (intros;omega)
def formC:Array Value:=#[.int .i64 2,.int .u8 224,.int .u8 192,.int .i64 128,.int .i64 2047,.int .i64 (-1),.int .i64 3,.int .u8 240,.int .u8 224,.int .i64 2048,.int .i64 65535,.int .i64 (-1),.int .i64 4,.int .u8 248,.int .u8 240,.int .i64 65536,.int .i64 1114111,.int .i64 (-1)]
theorem ZKx (w:World):Calls Tryz.prog 214 #[] w fun e w'=>e = .returned (.agg formC)/\Ext w w':=by
 have hr:=Row.new w 277 formC;have hE:Ext w (w.alloc (.cells formC 277)):=(Ext.refl w).alloc _;replace hr:=ZA hr;replace hE:=ZA hE;go_enter Tryz.func214,Tryz.ntmps214;go_wp2_with fail;exact bodyPost_ret (results_cell_row rfl _ _ w.heap.size 277 formC (0,0) _ rfl hr.out Tryz.underlying277 rfl (by kernel_rfl)) rfl ⟨rfl,hE.out⟩
end
end Go.Proofs.YtkdcnhnaiknaaaaGreat
