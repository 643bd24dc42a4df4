/- Calls that are handed rows and variables while the rows of a list lie at the end. -/
import Derived.Test.YtcjdedkdoagifaaGreatK13
import Derived.Laws.StructEq
set_option linter.unusedVariables false
namespace Go.Proofs.YtcjdedkdoagifaaGreat
/-- A function of the program, known by what it computes. -/
theorem aFD {P:Program} {α ρ:Type} {pre:α→List VP} {post:ρ→VP} {φ:α→Option ρ} {f:Nat} (h:∀x r,φ x=some r→Ct P f (pre x) (post r)):∀M,(VP.vc (pFn P pre post φ)).h M (.func (.func f) #[] #[]):=
 fun M=>⟨rfl,fun x r hr=>⟨f,[],k_F f M,by simpa using h x r hr⟩⟩
section
variable {S:Sx} {κ:Kt} {H H':List HA} {E:qS} {ops:Array Oper} {rest:List Oper} {o:Oper}
theorem zW {X Y:List HA}:∀(l:List Nat) (Z:List HA),fE X l=some Z→fE (X++Y) l=some Z
 |[],Z,h=>by simpa [fE] using h
 |i::l,Z,h=>by
  simp only [fE] at h
  cases hxi:X[i]? with
  |none=>rw [hxi] at h;simp at h
  |some e=>
   cases hr:fE X l with
   |none=>rw [hxi,hr] at h;simp at h
   |some Z'=>
    rw [hxi,hr] at h
    have hlt:=(List.getElem?_eq_some_iff.1 hxi).1
    simp only [fE,List.getElem?_append_left hlt,hxi,zW l _ hr]
    exact h
theorem aAc (X Y:List HA):fE (X++Y) (List.range' 0 X.length)=some X∧fE (X++Y) (List.range' X.length Y.length)=some Y∧(List.range' 0 X.length++List.range' X.length Y.length).Nodup:=by
 refine⟨?_,rU Y _ _ rfl,?_⟩
 ·have:=rU X 0 [] rfl
  exact zW _ _ (by simpa using this)
 ·rw [List.nodup_append]
  refine⟨List.nodup_range',List.nodup_range',fun x hx y hy=>?_⟩
  simp only [List.mem_range'_1] at hx hy
  omega
structure TyQ (P:Program) (T:Nat):Prop where
 u:P.underlying T=some (.struct (P.fieldsOf T))
 p:P.stoodInHeld T=false
 g:P.eqGuardType P.depth T=false
 e:∀w a b c d,(Op.eqFields 9999 #[.int .i64 a,.int .i64 b] #[.int .i64 c,.int .i64 d] (P.fieldsOf T).toList).run P w=.ok (a==c&&b==d) w
theorem mkQ {P:Program} {T:Nat} {f1 f2:Field} {k1 k2:IntKind} (u:P.underlying T=some (.struct (P.fieldsOf T))) (p:P.stoodInHeld T=false) (g:P.eqGuardType P.depth T=false) (hf:(P.fieldsOf T).toList=[f1,f2])
  (n1:f1.name≠ "_") (n2:f2.name≠ "_") (o1:f1.offset=0) (o2:f2.offset=1) (u1:P.underlying f1.type=some (.int k1)) (u2:P.underlying f2.type=some (.int k2)):TyQ P T:=
 ⟨u,p,g,fun w a b c d=>by
  have e1:∀x y:Int,(part f1.type #[.int .i64 x,.int .i64 y] f1.offset).run P w=.ok (.int .i64 x) w:=fun x y=>by simp [part,isAgg,run_underlying u1,o1]
  have e2:∀x y:Int,(part f2.type #[.int .i64 x,.int .i64 y] f2.offset).run P w=.ok (.int .i64 y) w:=fun x y=>by simp [part,isAgg,run_underlying u2,o2]
  rw [hf]
  simp only [Op.eqFields,Sem.run_bind,Sem.run_ite,e1,e2,n1,n2,Result.andThen_ok,run_equalIn_int w 9998 f1.type .i64 k1 a c u1,run_equalIn_int w 9998 f2.type .i64 k2 b d u2,ne_eq,not_false_eq_true,if_true,Sem.run_pure]
  cases a==c<;>cases b==d<;>rfl⟩
theorem aCm {M:mX} {u v:Int}:∀{xs:List Value},bR M [pI .i64 u,pI .i64 v] xs→xs=[.int .i64 u,.int .i64 v]
 |[_,_],h=>by obtain⟨h1,h2,_⟩:=h;cases h1;cases h2;rfl
 |[],h=>h.elim
 |[_],h=>h.2.elim
 |_::_::_::_,h=>h.2.2.elim
theorem aGP {T T':Nat} {x y:Operand} {u v u' v':Int} (ho:o.op=.binOp .eql T x y T') (hT:TyQ S.P T):Tr S o H H [(x,.va [pI .i64 u,pI .i64 v]),(y,.va [pI .i64 u',pI .i64 v'])] (.vc (pB (u==u'&&v==v'))):=
 ⟨fun M w a h hi K Q hk=>by
  obtain⟨xs,hx,hx2⟩:=hi.1
  obtain⟨ys,hy,hy2⟩:=hi.2.1
  obtain rfl:=aCm hx2
  obtain rfl:=aCm hy2
  refine dD (v:=.bool (u==u'&&v==v')) (w':=w) ?_ (hk _ M w (nP.refl M) h rfl)
  simp [execOp,ho,hx,hy,run_eqGuard_agg (P:=S.P) w .eql T x y _ _ hT.g,run_eql_struct (P:=S.P) w T,run_equalIn_struct (P:=S.P) w 9999 T _ _ hT.u hT.p,hT.e]⟩
theorem aEL {c:CP} {x:Operand} (hc:∀M v,c.h M v→∃a,v=.pointer (some a)) (ho:o.op=.nilCheck x):Tr S o H H [(x,.vc c)] (.vc c):=
 ⟨fun M w a h hi K Q hk=>by
  obtain⟨p,hp⟩:=hc M _ hi.1
  exact dD (v:=a.eval x) (w':=w) (by simp [execOp,ho,hp]) (hk _ M w (nP.refl M) h hi.1)⟩
theorem lW {β:Option Nat} {off:Nat} {x:Operand} (ho:o.op=.nilCheck x):Tr S o H H [(x,.vc (pP β off))] (.vc (pP β off)):=aEL (fun _ _ ⟨_,_,e⟩=>⟨_,e⟩) ho
theorem wY {β:Option Nat} {j:Int} {n f:Nat} {x:Operand} (ho:o.op=.nilCheck x):Tr S o H H [(x,.vc (pE β j n f))] (.vc (pE β j n f)):=aEL (fun _ _ ⟨_,_,e⟩=>⟨_,e⟩) ho
theorem aFz {α:Type} {c:Code} (C:Cd α) (T:Nat) (k:WC S c κ (H++gO C T [(none,0,0)] [([]:List α)]) E):WC S c κ H E:=
 aGp C T (aFv (by
  show(H++[_]).Perm (_::H)
  exact List.perm_append_comm) k)
theorem aAM {c:Code} {b T sz:Nat} {ps:List CP} (i:Nat) (ds:List (Nat×Nat)) (hi:H[i]?=some ⟨some b,1,T,sz,1,ps⟩) (hds:aEX E b ds) (hd:wI H i=some H') (k:WC S c κ H' (aDM ps ds++E)):WC S c κ H E:=
 fun a w hh=>k a w (uI hd▸aCV hi hds hh)
theorem zJ {f d:Nat} {A B R:List HA} {pre:List VP} {post:List HA→VP→Prop} {xs:List Operand} {ts:Array TypeId} (m:Nat) (is js:List Nat) (ho:o.op=.call {callee:=.value (.func f),args:=xs.toArray,argTypes:=ts}) (c:CtO S.P f (A++R) pre post) (hi:sZ E (xs.zip pre)) (hR:H.drop m=R) (h1:fE (H.take m) is=some A) (h2:fE (H.take m) js=some B) (hn:(is++js).Nodup)
  (k:∀Ho q,post Ho q→WL S ops κ rest (Ho++B) ((d,q)::E)) (hl:xs.length=pre.length:=by rfl)
  (hd:o.dst=some d:=by rfl) (hg:o.guard=none:=by rfl) (hN:Nat.blt d S.N=true:=by rfl):WL S ops κ (o::rest) H E:=by
 obtain⟨p1,p2,p3⟩:=aAc (A++R) B
 have key:WL S ops κ (o::rest) ((A++R)++B) E:=zH _ _ ho c hi p1 p2 p3 k hl hd hg hN
 rintro a w ⟨M,h3,h4⟩
 rw [←List.take_append_drop m H,hR] at h3
 have h5:=h3.split (tQ h1 h2) hn
 refine key a w ⟨M,h5.perm ?_,h4⟩
 rw [List.append_assoc,List.append_assoc]
 exact(List.perm_append_comm).append_left A
theorem aE5 {f:Nat} {L A A1 B R:List HA} {pre:List VP} {q:VP} {xs:List Operand} {ts:Array TypeId} (m:Nat) (is js ks:List Nat) (ho:o.op=.call {callee:=.value (.func f),args:=xs.toArray,argTypes:=ts}) (c:CtO S.P f (A1++R) pre (fun Ho p=>Ho=A1++R∧p=q)) (hR:L.drop m=R) (h1:fE (L.take m) is=some A1) (h2:fE (L.take m) js=some B) (h3:fE (A1++B) ks=some (L.take m)) (hn:(is++js).Nodup) (hk:ks.Nodup) (hl:xs.length=pre.length):
  Tr S o (L++A) (L++A) (xs.zip pre) q:=by
 refine⟨fun M w a h hin K Q hkk=>?_⟩
 have hall:=oC.of_ins hl hin
 have e0:L++A=L.take m++(R++A):=by rw [←hR,←List.append_assoc,List.take_append_drop]
 rw [e0] at h hkk
 have g1:St S M w ((A1++B)++(R++A)):=h.split (tQ h1 h2) hn
 have pp:List.Perm ((A1++R)++(B++A)) ((A1++B)++(R++A)):=by
  rw [List.append_assoc,List.append_assoc,←List.append_assoc R,←List.append_assoc B]
  exact((List.perm_append_comm).append_right A).append_left A1
 have g2:=g1.perm pp
 obtain⟨p1,p2,p3⟩:=aAc (A1++R) (B++A)
 have gin:St S M w (A1++R):=g2.pick p1 (List.nodup_append.1 p3).1
 refine t9 (f:=f) (args:=(xs.map a.eval).toArray) ?_ (c.run M w _ g2.mem gin.own gin.nodup hall) fun e w' hr=>?_
 ·simp [execOp,ho,resolve,Deferred.ofValue,Act.eval,invoke,p9 c.ok]
 ·obtain⟨v,M',Ho,q',⟨rfl,rfl⟩,rfl,hst',hq⟩:=hr
  have g3:St S M' w' ((A1++R)++(B++A)):=g2.call p1 p2 p3 hst'
  exact⟨v,rfl,hkk v M' w' hst'.le0 ((g3.perm pp.symm).split h3 hk) hq⟩
theorem aDU {f:Nat} {A1 B R:List HA} {pre:List VP} {q:VP} {xs:List Operand} {ts:Array TypeId} (m:Nat) (is js ks:List Nat) (ho:o.op=.call {callee:=.value (.func f),args:=xs.toArray,argTypes:=ts}) (c:CtO S.P f (A1++R) pre (fun Ho p=>Ho=A1++R∧p=q)) (hR:H.drop m=R) (h1:fE (H.take m) is=some A1) (h2:fE (H.take m) js=some B) (h3:fE (A1++B) ks=some (H.take m)) (hn:(is++js).Nodup) (hk:ks.Nodup) (hl:xs.length=pre.length):
  Tr S o H H (xs.zip pre) q:=by
 have:=aE5 (A:=[]) m is js ks ho c hR h1 h2 h3 hn hk hl
 rwa [List.append_nil] at this
theorem aEr {f d:Nat} {cs:List CP} {A B R:List HA} {pre:List VP} {post:List HA→VP→Prop} {xs:List Operand} {y:Operand} {ts:Array TypeId} (m:Nat) (is js:List Nat) (ho:o.op=.call {callee:=.value y,args:=xs.toArray,argTypes:=ts}) (c:CtO S.P f A (pre++cs.map .vc) post) (hi:sZ E ((y,.vc (pF f cs))::xs.zip pre)) (hR:H.drop m=R) (h1:fE (H.take m) is=some A) (h2:fE (H.take m) js=some B) (hn:(is++js).Nodup)
  (k:∀Ho q,post Ho q→WL S ops κ rest (Ho++(B++R)) ((d,q)::E)) (hl:xs.length=pre.length:=by rfl)
  (hd:o.dst=some d:=by rfl) (hg:o.guard=none:=by rfl) (hN:Nat.blt d S.N=true:=by rfl):WL S ops κ (o::rest) H E:=by
 obtain⟨p1,p2,p3⟩:=aAc A (B++R)
 have key:WL S ops κ (o::rest) (A++(B++R)) E:=vA _ _ ho c hi p1 p2 p3 k hl hd hg hN
 rintro a w ⟨M,h3,h4⟩
 rw [←List.take_append_drop m H,hR] at h3
 have h5:=h3.split (tQ h1 h2) hn
 rw [List.append_assoc] at h5
 exact key a w ⟨M,h5,h4⟩
theorem aFR {p p':VP} (d:Nat) (hl:iU E d=some p) (he:p=p') (k:WL S ops κ rest H ((d,p')::E)):WL S ops κ rest H E:=by
 subst he
 rintro a w ⟨M,h1,h2⟩
 refine k a w ⟨M,h1,h2.size,h2.defers,fun x q hx=>?_⟩
 by_cases hd:x=d
 ·subst hd
  have:iU ((x,p)::E) x=some p:=by simp [iU]
  rw [this] at hx
  cases hx
  exact h2.get x p hl
 ·refine h2.get x q ?_
  have:iU ((d,p)::E) x=iU E x:=by
   have e:Nat.beq d x=false:=by
    cases hb:Nat.beq d x
    ·rfl
    ·exact absurd (Nat.eq_of_beq_eq_true hb).symm hd
   show(bif Nat.beq d x then some p else iU E x)=iU E x
   rw [e];rfl
  rwa [←this]
theorem aBi {a N:Nat} (h:a=N):a<N+1:=by omega
theorem aEQ {gs:List rY} {N:Nat} (g:rY) (h:gs.length=N):VP.vc (pO g.1 g.2.1 g.2.2)=.vc (pO (iC (gs++[g]) N).1 (iC (gs++[g]) N).2.1 (iC (gs++[g]) N).2.2):=by rw [zX g h]
theorem d0 {S:Sx} {Hs:Gh→Nat→List HA} {hv:List Nat} {ops:List Oper} {ms:List Nat} {E:qS} {outs:List Ou} {i:Nat} {o:Oper} {out:VP} {ins:Gh→List (Operand×VP)} (t:∀{G:Gh} {A:List HA},Tr S o (Hs G 0++A) (Hs G 0++A) (ins G) out) (hs:∀{G:Gh},aBy ops ms E outs G i (ins G)) (hd:o.dst.all (Nat.blt · S.N)=true:=by rfl) (hg:o.guard=none:=by rfl) (h1:aB2 ms hv i [0]=true:=by rfl) (h3:hv.contains i=false:=by rfl):o.dst.all (Nat.blt · S.N)=true∧DOp S Hs hv ops ms E outs i o (.v out):=
 ⟨hd,.run (L:=[0]) ⟨fun G A=>t,trivial⟩ (fun G=>hs) hg h1 h3⟩
theorem d1 {S:Sx} {Hs:Gh→Nat→List HA} {hv:List Nat} {ops:List Oper} {ms:List Nat} {E:qS} {outs:List Ou} {i:Nat} {o:Oper} {out:VP} {ins:Gh→List (Operand×VP)} (lo:Nat) (t:∀{G:Gh} {A:List HA},Tr S o (Hs G lo++A) (Hs G lo++A) (ins G) out) (hs:∀{G:Gh},aBy ops ms E outs G i (ins G)) (hd:o.dst.all (Nat.blt · S.N)=true:=by rfl) (hg:o.guard=none:=by rfl) (h1:aB2 ms hv i [lo]=true:=by rfl) (h3:hv.contains i=false:=by rfl):o.dst.all (Nat.blt · S.N)=true∧DOp S Hs hv ops ms E outs i o (.v out):=
 ⟨hd,.run (L:=[lo]) ⟨fun G A=>t,trivial⟩ (fun G=>hs) hg h1 h3⟩
theorem g0 {S:Sx} {Hs:Gh→Nat→List HA} {hv:List Nat} {ops:List Oper} {ms:List Nat} {E:qS} {outs:List Ou} {i:Nat} {o:Oper} {out:VP} {ins:Gh→List (Operand×VP)} {j d:Nat} {b:Bool} (t:∀{G:Gh} {A:List HA},Tr S o (Hs G 0++A) (Hs G 0++A) (ins G) out) (hs:∀{G:Gh},aBy ops ms E outs G i (ins G)) (hd:o.dst.all (Nat.blt · S.N)=true:=by rfl) (hg:o.guard=some (j,b):=by rfl) (hdd:(ops[j]?).bind (·.dst)=some d:=by rfl) (hl:∀G,vO ops ms E outs G i d=some (.vc (pB b)):=by intro;rfl) (h1:aB2 ms hv i [0]=true:=by rfl) (h3:hv.contains i=false:=by rfl):o.dst.all (Nat.blt · S.N)=true∧DOp S Hs hv ops ms E outs i o (.v out):=
 ⟨hd,.runG (L:=[0]) ⟨fun G A=>t,trivial⟩ (fun G=>hs) hg hdd hl h1 h3⟩
theorem g1 {S:Sx} {Hs:Gh→Nat→List HA} {hv:List Nat} {ops:List Oper} {ms:List Nat} {E:qS} {outs:List Ou} {i:Nat} {o:Oper} {out:VP} {ins:Gh→List (Operand×VP)} {j d:Nat} {b:Bool} (lo:Nat) (t:∀{G:Gh} {A:List HA},Tr S o (Hs G lo++A) (Hs G lo++A) (ins G) out) (hs:∀{G:Gh},aBy ops ms E outs G i (ins G)) (hd:o.dst.all (Nat.blt · S.N)=true:=by rfl) (hg:o.guard=some (j,b):=by rfl) (hdd:(ops[j]?).bind (·.dst)=some d:=by rfl) (hl:∀G,vO ops ms E outs G i d=some (.vc (pB b)):=by intro;rfl) (h1:aB2 ms hv i [lo]=true:=by rfl) (h3:hv.contains i=false:=by rfl):o.dst.all (Nat.blt · S.N)=true∧DOp S Hs hv ops ms E outs i o (.v out):=
 ⟨hd,.runG (L:=[lo]) ⟨fun G A=>t,trivial⟩ (fun G=>hs) hg hdd hl h1 h3⟩
def HsM:List (Nat×(Gh→List HA))→Gh→Nat→List HA
 |[],_,_=>[]
 |(a,f)::l,G,m=>bif Nat.beq a m then f G else HsM l G m
theorem aGQ {Post:Option Nat→Nat→List HA} {ins:List (Operand×VP)} {out:VP} (t:Tr S o H H' ins out) (h:∀b c,H'=Post b c:=by intros;rfl):Hv S o H Post ins (fun _ _=>out):=
 ⟨fun M w a hs hin K Q hk=>t.run M w a hs hin K Q fun v M' w' hm hst hv=>hk v M' w' none 0 hm (h none 0▸hst) hv⟩
def dB:Nat→Option Nat
 |0=>none
 |k+1=>some k
def eB:Option Nat→Nat
 |none=>0
 |some k=>k+1
theorem aFP (x:Option Nat):dB (eB x)=x:=by cases x<;>rfl
theorem aGd {Post:Option Nat→Option Nat→List HA} {ins:List (Operand×VP)} {out:Option Nat→Option Nat→VP} (b x:Option Nat) (t:Tr S o H (Post b x) ins (out b x)):Hv S o H (fun b c=>Post b (dB c)) ins (fun b c=>out b (dB c)):=
 ⟨fun M w a hs hin K Q hk=>t.run M w a hs hin K Q fun v M' w' hm hst hv=>hk v M' w' b (eB x) hm (by simpa only [aFP] using hst) (by simpa only [aFP] using hv)⟩
theorem oL {Post Y:Option Nat→Nat→List HA} {ins:List (Operand×VP)} {out:Option Nat→Nat→VP} {R A:List HA} (is:List Nat) (t:Hv S o H Post ins out) (h:∀b c,∃X Z,Post b c=X++(R++A)∧fE X is=some Z∧Y b c++A=Z++(R++A)) (hn:is.Nodup:=by decide):Hv S o H (fun b c=>Y b c++A) ins out:=
 ⟨fun M w a h1 hin K Q hk=>t.run M w a h1 hin K Q fun v M' w' b c hm hst hv=>by
  obtain⟨X,Z,e1,e2,e3⟩:=h b c
  rw [e1] at hst
  refine hk v M' w' b c hm ?_ hv
  rw [e3]
  exact hst.split e2 hn⟩
theorem lI {T:Nat} {zs:List CP} (ho:o.op=.alloc T) (hz:zL S.P T zs):Hv S o H (fun b _=>⟨some (b.getD 0),1,T,zs.length,1,zs⟩::H) [] (fun b _=>.vc (pP (some (b.getD 0)) 0)):=by
 refine⟨fun M w a h1 hin K Q hK=>?_⟩
 obtain⟨i,z,hi,hzz,hsz,hall⟩:=hz.z
 refine dD (v:=.pointer (some ⟨w.heap.size,0,none⟩)) (w':=w.alloc (.cells z.cells T)) ?_ (hK _ M _ (some w.heap.size) 0 (nP.refl M) (zG h1 (hall M)) ⟨_,rfl,rfl⟩)
 simp [execOp,ho,Instr.alloc,zeroValue,typeInfo,hi,hzz,uN]
end
end Go.Proofs.YtcjdedkdoagifaaGreat
