/- The rules for arithmetic, structs and slices. -/
import Derived.Test.YtcjdedkdoagifaaGreatK4
import Derived.Laws.StructEq
import Derived.Laws.Cover3
set_option linter.unusedVariables false
namespace Go.Proofs.YtcjdedkdoagifaaGreat
theorem vV {x:Int} (h0:-9223372036854775808≤x) (h1:x≤9223372036854775807):IntKind.i64.wrap x=x:=by
 unfold IntKind.wrap
 simp only [IntKind.bits,IntKind.signed,Bool.true_and,ge_iff_le,decide_eq_true_eq]
 split<;>omega
def bQ (x:Int):Option Int:=if -9223372036854775808≤x∧x≤9223372036854775807 then some x else none
theorem sY {x y:Int} (h:bQ x=some y):y=x∧-9223372036854775808≤x∧x≤9223372036854775807:=by
 unfold bQ at h
 split at h
 ·simp only [Option.some.injEq] at h;exact⟨h.symm,‹_›⟩
 ·cases h
theorem aE4 {x:Int} (h0:-9223372036854775808≤x) (h1:x≤9223372036854775807):bQ x=some x:=by unfold bQ;rw [if_pos ⟨h0,h1⟩]
def r4 (x y:Int):Option Int:=if y=0 then none else bQ (x.tdiv y)
def r6 (x y:Int):Option Int:=if y=0 then none else some (x.tmod y)
def wu (x:Int):Int:=IntKind.u64.wrap x
def uq (x y:Int):Option Int:=if y=0 then none else some (wu (x.tdiv y))
theorem aO {α β:Type} {o:Option α} {f:α→Option β} {r:β} (h:o.bind f=some r):∃v,o=some v∧f v=some r:=Option.bind_eq_some_iff.1 h
theorem aT {α:Type} {c:Bool} {A B:Option α} {r:α} (h:c=true) (k:(bif c then A else B)=some r):A=some r:=by subst h;exact k
theorem aU {α:Type} {c:Bool} {A B:Option α} {r:α} (h:c=false) (k:(bif c then A else B)=some r):B=some r:=by subst h;exact k
theorem bC (k:IntKind) (n:Int):∀M,(VP.vc (pI k n)).h M (.int k n):=fun _=>rfl
theorem dH (b:Bool):∀M,(VP.vc (pB b)).h M (.bool b):=fun _=>rfl
theorem eJ {α:Type} (C:Cd α):∀M,(VP.vc (pS C ([]:List α))).h M (.slice none 0 0):=fun _=>⟨none,0,rfl,by simp,by simp,fun j x h=>by simp at h⟩
theorem k_F (f:Nat):∀M,(VP.vc (pF f [])).h M (.func (.func f) #[] #[]):=fun _=>⟨[],rfl,trivial⟩
section
variable {S:Sx} {κ:Kt} {H:List HA} {E:qS} {ops:Array Oper} {rest:List Oper} {o:Oper}
theorem pZ {w:World} {a:Act} {op:BinOp} {T T':Nat} {x y:Operand} {k:IntKind} {u v:Int} {r:Value} (ho:o.op=.binOp op T x y T') (hx:a.eval x=.int k u) (hy:a.eval y=.int k v) (hr:(binOp op T (.int k u) (.int k v)).run S.P w=.ok r w):
  (execOp a.eval o).run S.P w=.ok (.value r) w:=by
 have hg:(eqGuard op T x y (.int k u) (.int k v)).run S.P w=.ok () w:=by
  unfold eqGuard
  split<;>rfl
 simp [execOp,ho,hx,hy,hg,hr]
theorem bI {T T':Nat} {x y:Operand} {u v r:Int} (ho:o.op=.binOp .add T x y T') (h:bQ (u+v)=some r):Tr S o H H [(x,.vc (pI .i64 u)),(y,.vc (pI .i64 v))] (.vc (pI .i64 r)):=by
 refine⟨fun M w a hs hi K Q hk=>dD (v:=.int .i64 r) (pZ ho hi.1 hi.2.1 ?_) (hk _ M w (nP.refl M) hs rfl)⟩
 obtain⟨rfl,h0,h1⟩:=sY h
 simp [binOp,Op.intArith,vV h0 h1]
theorem fH {T T':Nat} {x y:Operand} {u v r:Int} (ho:o.op=.binOp .sub T x y T') (h:bQ (u-v)=some r):Tr S o H H [(x,.vc (pI .i64 u)),(y,.vc (pI .i64 v))] (.vc (pI .i64 r)):=by
 refine⟨fun M w a hs hi K Q hk=>dD (v:=.int .i64 r) (pZ ho hi.1 hi.2.1 ?_) (hk _ M w (nP.refl M) hs rfl)⟩
 obtain⟨rfl,h0,h1⟩:=sY h
 simp [binOp,Op.intArith,vV h0 h1]
theorem lL {T T':Nat} {x y:Operand} {u v r:Int} (ho:o.op=.binOp .mul T x y T') (h:bQ (u*v)=some r):Tr S o H H [(x,.vc (pI .i64 u)),(y,.vc (pI .i64 v))] (.vc (pI .i64 r)):=by
 refine⟨fun M w a hs hi K Q hk=>dD (v:=.int .i64 r) (pZ ho hi.1 hi.2.1 ?_) (hk _ M w (nP.refl M) hs rfl)⟩
 obtain⟨rfl,h0,h1⟩:=sY h
 simp [binOp,Op.intArith,vV h0 h1]
theorem oD {T T':Nat} {x y:Operand} {u v r:Int} (ho:o.op=.binOp .quo T x y T') (h:r4 u v=some r):Tr S o H H [(x,.vc (pI .i64 u)),(y,.vc (pI .i64 v))] (.vc (pI .i64 r)):=by
 refine⟨fun M w a hs hi K Q hk=>dD (v:=.int .i64 r) (pZ ho hi.1 hi.2.1 ?_) (hk _ M w (nP.refl M) hs rfl)⟩
 unfold r4 at h
 split at h
 ·cases h
 ·rename_i hv
  obtain⟨rfl,h0,h1⟩:=sY h
  simp [binOp,Op.intDiv,hv,vV h0 h1]
theorem mZ {T T':Nat} {x y:Operand} {u v r:Int} {k:IntKind} (ho:o.op=.binOp .rem T x y T') (h:r6 u v=some r):Tr S o H H [(x,.vc (pI k u)),(y,.vc (pI k v))] (.vc (pI k r)):=by
 refine⟨fun M w a hs hi K Q hk=>dD (v:=.int k r) (pZ ho hi.1 hi.2.1 ?_) (hk _ M w (nP.refl M) hs rfl)⟩
 unfold r6 at h
 split at h
 ·cases h
 ·rename_i hv
  simp only [Option.some.injEq] at h
  subst h
  simp [binOp,Op.intDiv,hv]
theorem aGo {T T':Nat} {x y:Operand} {u v:Int} (ho:o.op=.binOp .mul T x y T'):Tr S o H H [(x,.vc (pI .u64 u)),(y,.vc (pI .u64 v))] (.vc (pI .u64 (wu (u*v)))):=
 ⟨fun M w a hs hi K Q hk=>dD (v:=.int .u64 (wu (u*v))) (pZ ho hi.1 hi.2.1 (by simp [binOp,Op.intArith,wu])) (hk _ M w (nP.refl M) hs rfl)⟩
theorem aBe {T T':Nat} {x y:Operand} {u v r:Int} (ho:o.op=.binOp .quo T x y T') (h:uq u v=some r):Tr S o H H [(x,.vc (pI .u64 u)),(y,.vc (pI .u64 v))] (.vc (pI .u64 r)):=by
 refine⟨fun M w a hs hi K Q hk=>dD (v:=.int .u64 r) (pZ ho hi.1 hi.2.1 ?_) (hk _ M w (nP.refl M) hs rfl)⟩
 unfold uq at h
 split at h
 ·cases h
 ·rename_i hv
  simp only [Option.some.injEq] at h
  subst h
  simp [binOp,Op.intDiv,hv,wu]
theorem iJ {T T':Nat} {x y:Operand} {u v:Int} {k:IntKind} (ho:o.op=.binOp .eql T x y T'):Tr S o H H [(x,.vc (pI k u)),(y,.vc (pI k v))] (.vc (pB (u==v))):=
 ⟨fun M w a hs hi K Q hk=>dD (v:=.bool (u==v)) (pZ ho hi.1 hi.2.1 (by simp [binOp,Op.intCmp])) (hk _ M w (nP.refl M) hs rfl)⟩
theorem sC {T T':Nat} {x y:Operand} {u v:Int} {k:IntKind} (ho:o.op=.binOp .neq T x y T'):Tr S o H H [(x,.vc (pI k u)),(y,.vc (pI k v))] (.vc (pB (u != v))):=
 ⟨fun M w a hs hi K Q hk=>dD (v:=.bool (u != v)) (pZ ho hi.1 hi.2.1 (by simp [binOp,Op.intCmp])) (hk _ M w (nP.refl M) hs rfl)⟩
theorem dQ {T T':Nat} {x y:Operand} {u v:Int} {k:IntKind} (ho:o.op=.binOp .lss T x y T'):Tr S o H H [(x,.vc (pI k u)),(y,.vc (pI k v))] (.vc (pB (decide (u<v)))):=
 ⟨fun M w a hs hi K Q hk=>dD (v:=.bool (decide (u<v))) (pZ ho hi.1 hi.2.1 (by simp [binOp,Op.intCmp])) (hk _ M w (nP.refl M) hs rfl)⟩
theorem w9 {T T':Nat} {x y:Operand} {u v:Int} {k:IntKind} (ho:o.op=.binOp .leq T x y T'):Tr S o H H [(x,.vc (pI k u)),(y,.vc (pI k v))] (.vc (pB (decide (u≤v)))):=
 ⟨fun M w a hs hi K Q hk=>dD (v:=.bool (decide (u≤v))) (pZ ho hi.1 hi.2.1 (by simp [binOp,Op.intCmp])) (hk _ M w (nP.refl M) hs rfl)⟩
theorem p8 {T T':Nat} {x y:Operand} {u v:Int} {k:IntKind} (ho:o.op=.binOp .gtr T x y T'):Tr S o H H [(x,.vc (pI k u)),(y,.vc (pI k v))] (.vc (pB (decide (v<u)))):=
 ⟨fun M w a hs hi K Q hk=>dD (v:=.bool (decide (v<u))) (pZ ho hi.1 hi.2.1 (by simp [binOp,Op.intCmp])) (hk _ M w (nP.refl M) hs rfl)⟩
theorem sB {T T':Nat} {x y:Operand} {u v:Int} {k:IntKind} (ho:o.op=.binOp .geq T x y T'):Tr S o H H [(x,.vc (pI k u)),(y,.vc (pI k v))] (.vc (pB (decide (v≤u)))):=
 ⟨fun M w a hs hi K Q hk=>dD (v:=.bool (decide (v≤u))) (pZ ho hi.1 hi.2.1 (by simp [binOp,Op.intCmp])) (hk _ M w (nP.refl M) hs rfl)⟩
theorem aCu {w:World} {a:Act} {op:BinOp} {T T':Nat} {x y:Operand} {u v:Bool} {r:Value} (ho:o.op=.binOp op T x y T') (hx:a.eval x=.bool u) (hy:a.eval y=.bool v) (hr:(binOp op T (.bool u) (.bool v)).run S.P w=.ok r w):
  (execOp a.eval o).run S.P w=.ok (.value r) w:=by
 have hg:(eqGuard op T x y (.bool u) (.bool v)).run S.P w=.ok () w:=by
  unfold eqGuard
  split<;>rfl
 simp [execOp,ho,hx,hy,hg,hr]
theorem yZ {T T':Nat} {x y:Operand} {u v:Bool} (ho:o.op=.binOp .eql T x y T') (hT:S.P.underlying T=some .bool):Tr S o H H [(x,.vc (pB u)),(y,.vc (pB v))] (.vc (pB (u==v))):=
 ⟨fun M w a hs hi K Q hk=>dD (v:=.bool (u==v)) (aCu ho hi.1 hi.2.1 (by
  have:=run_equalIn_bool (P:=S.P) w 9999 T u v hT
  simp only [binOp,Sem.run_bind,Op.equal]
  rw [show Op.maxDepth=9999+1 from rfl,this];simp)) (hk _ M w (nP.refl M) hs rfl)⟩
theorem vQ {T T':Nat} {x y:Operand} {u v:Bool} (ho:o.op=.binOp .neq T x y T') (hT:S.P.underlying T=some .bool):Tr S o H H [(x,.vc (pB u)),(y,.vc (pB v))] (.vc (pB (u != v))):=
 ⟨fun M w a hs hi K Q hk=>dD (v:=.bool (u != v)) (aCu ho hi.1 hi.2.1 (by
  have:=run_equalIn_bool (P:=S.P) w 9999 T u v hT
  simp only [binOp,Sem.run_bind,Op.equal]
  rw [show Op.maxDepth=9999+1 from rfl,this];simp only [Result.andThen_ok,Sem.run_pure];rfl)) (hk _ M w (nP.refl M) hs rfl)⟩
theorem lK {T:Nat} {x:Operand} {u:Bool} (ho:o.op=.unOp .not T x):Tr S o H H [(x,.vc (pB u))] (.vc (pB (!u))):=
 ⟨fun M w a hs hi K Q hk=>dD (v:=.bool (!u)) (by have hx:a.eval x=.bool u:=hi.1;simp [execOp,ho,hx,Op.unary]) (hk _ M w (nP.refl M) hs rfl)⟩
theorem aDu {T:Nat} {x:Operand} {u r:Int} (ho:o.op=.unOp .neg T x) (h:bQ (-u)=some r):Tr S o H H [(x,.vc (pI .i64 u))] (.vc (pI .i64 r)):=
 ⟨fun M w a hs hi K Q hk=>dD (v:=.int .i64 r) (by
  have hx:a.eval x=.int .i64 u:=hi.1
  obtain⟨rfl,h0,h1⟩:=sY h
  simp [execOp,ho,hx,Op.unary,Op.intArith,vV h0 h1]) (hk _ M w (nP.refl M) hs rfl)⟩
theorem aGc {T:Nat} {x:Operand} {u:Int} (ho:o.op=.unOp .neg T x):Tr S o H H [(x,.vc (pI .u64 u))] (.vc (pI .u64 (wu (-u)))):=
 ⟨fun M w a hs hi K Q hk=>dD (v:=.int .u64 (wu (-u))) (by
  have hx:a.eval x=.int .u64 u:=hi.1
  simp [execOp,ho,hx,Op.unary,Op.intArith,wu]) (hk _ M w (nP.refl M) hs rfl)⟩
theorem bK {c x y:Operand} {p:VP} (ho:o.op=.pick c x y):Tr S o H H [(c,.vc (pB true)),(x,p)] p:=
 ⟨fun M w a hs hi K Q hk=>dD (v:=a.eval x) (by have hc:a.eval c=.bool true:=hi.1;simp [execOp,ho,hc,asBool]) (hk _ M w (nP.refl M) hs hi.2.1)⟩
theorem bL {c x y:Operand} {p:VP} (ho:o.op=.pick c x y):Tr S o H H [(c,.vc (pB false)),(y,p)] p:=
 ⟨fun M w a hs hi K Q hk=>dD (v:=a.eval y) (by have hc:a.eval c=.bool false:=hi.1;simp [execOp,ho,hc,asBool]) (hk _ M w (nP.refl M) hs hi.2.1)⟩
theorem lV {x:Operand} {p q:VP} (ho:o.op=.extract x 0):Tr S o H H [(x,.t2 p q)] p:=
 ⟨fun M w a hs hi K Q hk=>by
  obtain⟨u,v,e,h1,h2⟩:=hi.1
  exact dD (v:=u) (by have e:a.eval x=_:=e;simp [execOp,ho,e,Instr.extract]) (hk _ M w (nP.refl M) hs h1)⟩
theorem lR {x:Operand} {p q:VP} (ho:o.op=.extract x 1):Tr S o H H [(x,.t2 p q)] q:=
 ⟨fun M w a hs hi K Q hk=>by
  obtain⟨u,v,e,h1,h2⟩:=hi.1
  exact dD (v:=v) (by have e:a.eval x=_:=e;simp [execOp,ho,e,Instr.extract]) (hk _ M w (nP.refl M) hs h2)⟩
theorem aCX {x:Operand} {p q r:VP} (ho:o.op=.extract x 0):Tr S o H H [(x,.t3 p q r)] p:=
 ⟨fun M w a hs hi K Q hk=>by
  obtain⟨u,v,y,e,h1,h2,h3⟩:=hi.1
  exact dD (v:=u) (by have e:a.eval x=_:=e;simp [execOp,ho,e,Instr.extract]) (hk _ M w (nP.refl M) hs h1)⟩
theorem aC5 {x:Operand} {p q r:VP} (ho:o.op=.extract x 1):Tr S o H H [(x,.t3 p q r)] q:=
 ⟨fun M w a hs hi K Q hk=>by
  obtain⟨u,v,y,e,h1,h2,h3⟩:=hi.1
  exact dD (v:=v) (by have e:a.eval x=_:=e;simp [execOp,ho,e,Instr.extract]) (hk _ M w (nP.refl M) hs h2)⟩
theorem aC4 {x:Operand} {p q r:VP} (ho:o.op=.extract x 2):Tr S o H H [(x,.t3 p q r)] r:=
 ⟨fun M w a hs hi K Q hk=>by
  obtain⟨u,v,y,e,h1,h2,h3⟩:=hi.1
  exact dD (v:=y) (by have e:a.eval x=_:=e;simp [execOp,ho,e,Instr.extract]) (hk _ M w (nP.refl M) hs h3)⟩
theorem yS {s d:Nat} {x:Operand} {k k':IntKind} {u:Int} (ho:o.op=.convert s d x) (hs':∃t,S.P.underlying s=some t) (hd:S.P.underlying d=some (.int k')):Tr S o H H [(x,.vc (pI k u))] (.vc (pI k' (k'.wrap u))):=
 ⟨fun M w a hs hi K Q hk=>by
  have hx:a.eval x=.int k u:=hi.1
  obtain⟨t,ht⟩:=hs'
  exact dD (v:=.int k' (k'.wrap u)) (by simp [execOp,ho,hx,convert,run_underlying ht,run_underlying hd,Conv.intToInt]) (hk _ M w (nP.refl M) hs rfl)⟩
theorem aA7 {f:Nat} {xs:List Operand} {cs:List CP} (ho:o.op=.makeFunc (.func f) #[] xs.toArray) (hl:xs.length=cs.length):Tr S o H H (xs.zip (cs.map .vc)) (.vc (pF f cs)):=by
 refine⟨fun M w a hs hi K Q hk=>?_⟩
 have key:∀(xs:List Operand) (cs:List CP),xs.length=cs.length→Ins M a (xs.zip (cs.map .vc))→bR M cs (xs.map a.eval):=by
  intro xs
  induction xs with
  |nil=>intro cs h _;cases cs<;>first|trivial|simp at h
  |cons x xs ih=>
   intro cs h hi
   cases cs with
   |nil=>simp at h
   |cons c cs=>exact⟨hi.1,ih cs (by simpa using h) hi.2⟩
 exact dD (v:=.func (.func f) #[] (xs.map a.eval).toArray) (by simp [execOp,ho,Instr.makeFunc]) (hk _ M w (nP.refl M) hs ⟨_,rfl,key xs cs hl hi⟩)
end
end Go.Proofs.YtcjdedkdoagifaaGreat
