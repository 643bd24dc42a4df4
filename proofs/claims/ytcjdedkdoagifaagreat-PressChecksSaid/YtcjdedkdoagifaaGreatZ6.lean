/- Texts of the proof, part 6: XF XA XU XV XW XX XY YE YF YG YH YI YJ YK YL YM XZ YN YO YP YQ YS YT YV YW YX YY. -/
import Derived.Test.YtcjdedkdoagifaaGreatZ5
set_option linter.unusedSimpArgs false
set_option linter.unusedVariables false
namespace Go.Proofs.YtcjdedkdoagifaaGreat
def wM (l:List aC) (i:Nat):aC:=l.getD i ⟨0,0⟩
theorem aFd {l:List aC} {i:Nat} (h:i<l.length):bT l (i:Int)=some (wM l i):=rdD _ h
theorem zA {l:List aC} {i:Nat} (h:i<l.length):wM l i∈l:=by
 unfold wM
 simp only [List.getD_eq_getElem?_getD,List.getElem?_eq_getElem h,Option.getD_some]
 exact List.getElem_mem h
def tk (n:Nat) (l:List aC) (i:Nat):Bool:=decide (0≤(wM l i).dof∧(wM l i).dof<(n:Int)∧(0<i→(wM l (i-1)).dof<(wM l i).dof))
def tks (n:Nat) (l:List aC):Nat→Nat→Bool
 |0,_=>true
 |t+1,i=>tk n l i&&tks n l t (i+1)
def tOk (n:Nat) (l:List aC):Bool:=tks n l l.length 0
theorem sD {m:Nat} {a:Rat} (ha:Bd m a) (hm:m≤1073741824):aAV a=some true:=by unfold aAV;rw [ha.qs hm];rfl
theorem aIL {n:Nat} {l:List aC} (hl:TB l) (K:Nat):∀(t i k:Nat),i+t=l.length→t<k→lT K l (n:Int) k (i:Int)=some (bif tks n l t i then .go () else .ret false)
 |0,i,k,hi,hk=>by
  obtain⟨k',rfl,_⟩:=bB hk
  simp only [lT,dF (show¬(i:Int)<(l.length:Int) by omega),bJ,tks,bS]
 |t+1,i,k,hi,hk=>by
  have h12:=hl.1
  obtain⟨k',rfl,_⟩:=bB hk
  have hb:=sD (hl.2 _ (zA (l:=l) (i:=i) (by omega))) (by omega)
  have ih:=aIL (n:=n) hl K t (i+1) k' (by omega) (by omega)
  simp only [lT,dT (show(i:Int)<(l.length:Int) by omega),bS,aFd (l:=l) (i:=i) (by omega),oB,hb,Bool.not_true,bJ,tks,m6 (i:=i) (by omega)]
  by_cases h0:(wM l i).dof<0
  ·have e:tk n l i=false:=decide_eq_false (by omega)
   simp only [dT h0,bS,e,Bool.false_and,bJ]
  ·simp only [dF h0,bJ]
   by_cases h1:(n:Int)≤(wM l i).dof
   ·have e:tk n l i=false:=decide_eq_false (by omega)
    simp only [dT h1,bS,e,Bool.false_and,bJ]
   ·simp only [dF h1,bJ]
    by_cases h2:0<i
    ·have e1:aS ((i:Int)-1)=some ((i-1:Nat):Int):=by rw [lI (by omega)];congr 1;omega
     simp only [dT (show(0:Int)<(i:Int) by omega),bS,e1,oB,aFd (l:=l) (i:=i-1) (by omega)]
     by_cases h3:(wM l i).dof≤(wM l (i-1)).dof
     ·have e:tk n l i=false:=decide_eq_false (by omega)
      simp only [dT h3,bS,e,Bool.false_and,bJ]
     ·have e:tk n l i=true:=decide_eq_true (by omega)
      simp only [dF h3,bJ,e,Bool.true_and]
      exact ih
    ·have e:tk n l i=true:=decide_eq_true (by omega)
     simp only [dF (show¬(0:Int)<(i:Int) by omega),bJ,e,Bool.true_and]
     exact ih
theorem aHN {n:Nat} {l:List aC} (hl:TB l) {K:Nat} (hK:13≤K):tJ K l (n:Int)=some (tOk n l):=by
 have h:=hl.1
 have:=aIL (n:=n) hl K l.length 0 K (by omega) (by omega)
 simp only [Int.natCast_zero] at this
 simp only [tJ,this,oB,uM,tOk]
 cases tks n l l.length 0<;>rfl
theorem aFV {n:Nat} {l:List aC} (hl:TB l) (K:Nat):∀(t i k:Nat),i+t=l.length→t<k→gA K l (n:Int) k (i:Int)=some (bif tks n l t i then .go () else .ret false)
 |0,i,k,hi,hk=>by
  obtain⟨k',rfl,_⟩:=bB hk
  simp only [gA,dF (show¬(i:Int)<(l.length:Int) by omega),bJ,tks,bS]
 |t+1,i,k,hi,hk=>by
  have h12:=hl.1
  obtain⟨k',rfl,_⟩:=bB hk
  have hb:=sD (hl.2 _ (zA (l:=l) (i:=i) (by omega))) (by omega)
  have ih:=aFV (n:=n) hl K t (i+1) k' (by omega) (by omega)
  simp only [gA,dT (show(i:Int)<(l.length:Int) by omega),bS,aFd (l:=l) (i:=i) (by omega),oB,hb,Bool.not_true,bJ,tks,m6 (i:=i) (by omega)]
  by_cases h0:(wM l i).dof<0
  ·have e:tk n l i=false:=decide_eq_false (by omega)
   simp only [dT h0,bS,e,Bool.false_and,bJ]
  ·simp only [dF h0,bJ]
   by_cases h1:(n:Int)≤(wM l i).dof
   ·have e:tk n l i=false:=decide_eq_false (by omega)
    simp only [dT h1,bS,e,Bool.false_and,bJ]
   ·simp only [dF h1,bJ]
    by_cases h2:0<i
    ·have e1:aS ((i:Int)-1)=some ((i-1:Nat):Int):=by rw [lI (by omega)];congr 1;omega
     have e2:max (((i-1:Nat):Int)) 0=((i-1:Nat):Int):=by omega
     simp only [dT (show(0:Int)<(i:Int) by omega),bS,e1,oB,e2,aFd (l:=l) (i:=i-1) (by omega)]
     by_cases h3:(wM l i).dof≤(wM l (i-1)).dof
     ·have e:tk n l i=false:=decide_eq_false (by omega)
      simp only [dT h3,bS,e,Bool.false_and,bJ]
     ·have e:tk n l i=true:=decide_eq_true (by omega)
      simp only [dF h3,bJ,e,Bool.true_and]
      exact ih
    ·have e:tk n l i=true:=decide_eq_true (by omega)
     simp only [dF (show¬(0:Int)<(i:Int) by omega),bJ,e,Bool.true_and]
     exact ih
theorem aGw {n:Nat} {l:List aC} (hl:TB l) {K:Nat} (hK:13≤K):mY K l (n:Int)=some (tOk n l):=by
 have h:=hl.1
 have:=aFV (n:=n) hl K l.length 0 K (by omega) (by omega)
 simp only [Int.natCast_zero] at this
 simp only [mY,this,oB,p8,tOk]
 cases tks n l l.length 0<;>rfl
theorem aKr {l:List Rat} (hl:uD 64 l) (hn:l.length≤1000) (K:Nat):∀(t i k:Nat),i+t=l.length→t<k→dA K l oM k (i:Int)=some (.go ())
 |0,i,k,hi,hk=>by
  obtain⟨k',rfl,_⟩:=bB hk
  simp only [dA,dF (show¬(i:Int)<(l.length:Int) by omega),bJ]
 |t+1,i,k,hi,hk=>by
  obtain⟨k',rfl,_⟩:=bB hk
  simp only [dA,dT (show(i:Int)<(l.length:Int) by omega),bS,aA8 (l:=l) (i:=i) (by omega),oB,oM,sD (hl _ (u8 (l:=l) (i:=i) (by omega))) (by omega),Bool.not_true,bJ,m6 (i:=i) (by omega)]
  exact aKr hl hn K t (i+1) k' (by omega) (by omega)
theorem aKd {l:List Rat} (hl:uD 64 l) (hn:l.length≤1000) {K:Nat} (hK:l.length<K):pW K l=some true:=by
 have:=aKr hl hn K l.length 0 K (by omega) (by omega)
 simp only [Int.natCast_zero] at this
 simp only [pW,kM,mD,this,oB,kS];rfl
theorem aIh {l:List Rat} (hl:uD 64 l) (hn:l.length≤1000) (K:Nat):∀(t i k:Nat),i+t=l.length→t<k→eG K l k (i:Int)=some (.go ())
 |0,i,k,hi,hk=>by
  obtain⟨k',rfl,_⟩:=bB hk
  simp only [eG,dF (show¬(i:Int)<(l.length:Int) by omega),bJ]
 |t+1,i,k,hi,hk=>by
  obtain⟨k',rfl,_⟩:=bB hk
  simp only [eG,dT (show(i:Int)<(l.length:Int) by omega),bS,aA8 (l:=l) (i:=i) (by omega),oB,sD (hl _ (u8 (l:=l) (i:=i) (by omega))) (by omega),Bool.not_true,bJ,m6 (i:=i) (by omega)]
  exact aIh hl hn K t (i+1) k' (by omega) (by omega)
theorem aHR {l:List Rat} (hl:uD 64 l) (hn:l.length≤1000) {K:Nat} (hK:l.length<K):iL K l=some true:=by
 have:=aIh hl hn K l.length 0 K (by omega) (by omega)
 simp only [Int.natCast_zero] at this
 simp only [iL,this,oB,nP]
structure SB (d:List aG) (f v:List Rat) (l:List aA):Prop where
 sd:∀x∈d,Bd 8 x.inv
 dl:d.length≤100
 sf:uD 64 f
 fl:f.length≤100
 sv:uD 64 v
 vl:v.length≤100
 sl:RsC l
 ll:l.length≤100
def aCj (x:aG):Bool:=decide (0<x.inv.num.sign)
def xE (n:Nat) (v:List Rat) (r:aA):Bool:=tOk n r.j&&tOk n r.t&&decide (0≤r.mu.num.sign)
def pD (v:List Rat) (r:aA):Bool:=decide ((rt r.j v).num.sign=0)
def aAc (d:List aG) (f v:List Rat) (l:List aA):Bool:=decide (d.length≤12∧f.length=d.length∧v.length=d.length)&&d.all aCj&&l.all fun r=>xE d.length v r&&pD v r
theorem aF7 {l:List aG} {i:Nat} (h:i<l.length):∃x,x∈l∧l.drop i=x::l.drop (i+1)∧bT l (i:Int)=some x:=
 ⟨l[i],List.getElem_mem h,List.drop_eq_getElem_cons h,rdG (List.getElem?_eq_getElem h)⟩
theorem aI4 {a0:aH} (hd:∀x∈a0.dofs,Bd 8 x.inv) (hl:a0.dofs.length≤100) (K:Nat):∀(t i k:Nat),i+t=a0.dofs.length→t<k→iN K a0 k (i:Int)=some (bif(a0.dofs.drop i).all aCj then .go () else .ret false)
 |0,i,k,hi,hk=>by
  obtain⟨k',rfl,_⟩:=bB hk
  rw [List.drop_eq_nil_of_le (by omega)]
  simp only [iN,dF (show¬(i:Int)<(a0.dofs.length:Int) by omega),bJ];rfl
 |t+1,i,k,hi,hk=>by
  obtain⟨k',rfl,_⟩:=bB hk
  obtain⟨x,h1,h2,h3⟩:=aF7 (l:=a0.dofs) (i:=i) (by omega)
  have hb:=hd x h1
  rw [h2,List.all_cons]
  simp only [iN,dT (show(i:Int)<(a0.dofs.length:Int) by omega),bS,h3,oB,sD hb (by omega),Bool.not_true,bJ,jR hb (by omega)]
  by_cases h:x.inv.num.sign≤0
  ·have e:aCj x=false:=decide_eq_false (by omega)
   simp only [dT h,bS,e,Bool.false_and,bJ]
  ·have e:aCj x=true:=decide_eq_true (by omega)
   simp only [dF h,bJ,e,Bool.true_and,m6 (i:=i) (by omega),oB]
   exact aI4 hd hl K t (i+1) k' (by omega) (by omega)
theorem aF1 {d:List aG} (hd:∀x∈d,Bd 8 x.inv) (hl:d.length≤100) (K:Nat):∀(t i k:Nat),i+t=d.length→t<k→gH K d k (i:Int)=some (bif(d.drop i).all aCj then .go () else .ret false)
 |0,i,k,hi,hk=>by
  obtain⟨k',rfl,_⟩:=bB hk
  rw [List.drop_eq_nil_of_le (by omega)]
  simp only [gH,dF (show¬(i:Int)<(d.length:Int) by omega),bJ];rfl
 |t+1,i,k,hi,hk=>by
  obtain⟨k',rfl,_⟩:=bB hk
  obtain⟨x,h1,h2,h3⟩:=aF7 (l:=d) (i:=i) (by omega)
  have hb:=hd x h1
  rw [h2,List.all_cons]
  simp only [gH,dT (show(i:Int)<(d.length:Int) by omega),bS,h3,oB,sD hb (by omega),Bool.not_true,bJ,jR hb (by omega)]
  by_cases h:x.inv.num.sign≤0
  ·have e:aCj x=false:=decide_eq_false (by omega)
   simp only [dT h,bS,e,Bool.false_and,bJ]
  ·have e:aCj x=true:=decide_eq_true (by omega)
   simp only [dF h,bJ,e,Bool.true_and,m6 (i:=i) (by omega),oB]
   exact aF1 hd hl K t (i+1) k' (by omega) (by omega)
theorem aNO {a0:aH} {n:Nat} {r:aA} (hv:uD 64 a0.v) (hr:RC r) {K:Nat} (hK:13≤K):lU K (n:Int) a0 r=some (!(xE n a0.v r&&pD a0.v r)):=by
 simp only [lU,aHN hr.1.1 hK,aHN hr.1.2 hK,oB,sD hr.2 (by omega),Bool.not_true,bJ,jR hr.2 (by omega),aKw hv hr.1.1 hK,jR (aJ6 hv hr.1.1) (by omega),xE,pD]
 cases tOk n r.j
 ·rfl
 ·cases tOk n r.t
  ·rfl
  ·by_cases h:r.mu.num.sign<0
   ·simp only [Bool.not_true,bJ,dT h,bS,dF (show¬0≤r.mu.num.sign by omega)];rfl
   ·simp only [Bool.not_true,bJ,dF h,dT (show 0≤r.mu.num.sign by omega),Bool.true_and]
    by_cases h2:(rt r.j a0.v).num.sign=0
    ·rw [dT h2,nF h2];rfl
    ·rw [dF h2,nT h2];rfl
theorem aEj {d:List aG} {f v:List Rat} {l:List aA} (h:SB d f v l) {K:Nat} (hK:200≤K):nU K ⟨d,f,v,l⟩=some (aAc d f v l):=by
 have hdl:=h.dl
 have hfl:=h.fl
 have hvl:=h.vl
 have hll:=h.ll
 have e1:=aI4 (a0:=⟨d,f,v,l⟩) h.sd h.dl K d.length 0 K (by simp) (by omega)
 have e2:=aLT (l:=l) (b:=fun r=>!(xE d.length v r&&pD v r)) (fun r hr=>aNO (a0:=⟨d,f,v,l⟩) (n:=d.length) h.sv (h.sl r hr) (K:=K) (by omega)) (by omega) (show l.length<K by omega)
 simp only [Int.natCast_zero,List.drop_zero] at e1
 have e3:(!l.any fun r=>!(xE d.length v r&&pD v r))=l.all fun r=>xE d.length v r&&pD v r:=by
  rw [List.not_any_eq_all_not];congr;funext r;rw [Bool.not_not]
 simp only [nU,aKd h.sf (by omega) (show f.length<K by omega),aKd h.sv (by omega) (show v.length<K by omega),e1,pV,e2,oB,Bool.not_true,bJ,e3,aAc]
 by_cases h1:d.length≤12
 ·by_cases h2:f.length=d.length
  ·by_cases h3:v.length=d.length
   ·simp only [dF (show¬(12:Int)<(d.length:Int) by omega),nF (show(f.length:Int)=(d.length:Int) by omega),nF (show(v.length:Int)=(d.length:Int) by omega),bJ,decide_eq_true (show d.length≤12∧f.length=d.length∧v.length=d.length from⟨h1,h2,h3⟩),Bool.true_and]
    cases d.all aCj<;>rfl
   ·simp only [dF (show¬(12:Int)<(d.length:Int) by omega),nF (show(f.length:Int)=(d.length:Int) by omega),nT (show(v.length:Int)≠(d.length:Int) by omega),bJ,bS,decide_eq_false (show¬(d.length≤12∧f.length=d.length∧v.length=d.length) from fun h=>h3 h.2.2),Bool.false_and]
  ·simp only [dF (show¬(12:Int)<(d.length:Int) by omega),nT (show(f.length:Int)≠(d.length:Int) by omega),bJ,bS,decide_eq_false (show¬(d.length≤12∧f.length=d.length∧v.length=d.length) from fun h=>h2 h.2.1),Bool.false_and]
 ·simp only [dT (show(12:Int)<(d.length:Int) by omega),bS,decide_eq_false (show¬(d.length≤12∧f.length=d.length∧v.length=d.length) from fun h=>h1 h.1),Bool.false_and]
theorem aGk {d:List aG} {v:List Rat} {l:List aA} (hl:RsC l) (hn:l.length≤100) {K:Nat} (hK:13≤K):∀(t i k:Nat),i+t=l.length→t<k→gE K d l k (i:Int)=some (bif(l.drop i).all (xE d.length v) then .go () else .ret false)
 |0,i,k,hi,hk=>by
  obtain⟨k',rfl,_⟩:=bB hk
  rw [List.drop_eq_nil_of_le (by omega)]
  simp only [gE,dF (show¬(i:Int)<(l.length:Int) by omega),bJ];rfl
 |t+1,i,k,hi,hk=>by
  obtain⟨k',rfl,_⟩:=bB hk
  obtain⟨r,h1,h2,h3⟩:=aDq (l:=l) (i:=i) (by omega)
  have hr:=hl r h1
  have ih:=aGk (d:=d) (v:=v) hl hn hK t (i+1) k' (by omega) (by omega)
  rw [h2,List.all_cons]
  simp only [gE,dT (show(i:Int)<(l.length:Int) by omega),bS,h3,oB,aGw hr.1.1 hK,aGw hr.1.2 hK,sD hr.2 (by omega),Bool.not_true,bJ,jR hr.2 (by omega)]
  unfold xE at ih ⊢
  cases tOk d.length r.j
  ·rfl
  ·cases tOk d.length r.t
   ·rfl
   ·by_cases h:r.mu.num.sign<0
    ·simp only [Bool.not_true,bJ,dT h,bS,dF (show¬0≤r.mu.num.sign by omega)];rfl
    ·simp only [Bool.not_true,bJ,dF h,dT (show 0≤r.mu.num.sign by omega),Bool.true_and,m6 (i:=i) (by omega),oB]
     exact ih
theorem aGt {v:List Rat} {l:List aA} (hv:uD 64 v) (hl:RsC l) (hn:l.length≤100) {K:Nat} (hK:13≤K):∀(t i k:Nat),i+t=l.length→t<k→jZ K v l k (i:Int)=some (bif(l.drop i).all (pD v) then .go () else .ret false)
 |0,i,k,hi,hk=>by
  obtain⟨k',rfl,_⟩:=bB hk
  rw [List.drop_eq_nil_of_le (by omega)]
  simp only [jZ,dF (show¬(i:Int)<(l.length:Int) by omega),bJ];rfl
 |t+1,i,k,hi,hk=>by
  obtain⟨k',rfl,_⟩:=bB hk
  obtain⟨r,h1,h2,h3⟩:=aDq (l:=l) (i:=i) (by omega)
  have hr:=hl r h1
  rw [h2,List.all_cons]
  simp only [jZ,dT (show(i:Int)<(l.length:Int) by omega),bS,h3,oB,aHT hv hr.1.1 hK,jR (aJ6 hv hr.1.1) (by omega)]
  by_cases h:(rt r.j v).num.sign=0
  ·have e:pD v r=true:=decide_eq_true h
   simp only [nF h,bJ,e,Bool.true_and,m6 (i:=i) (by omega),oB]
   exact aGt hv hl hn hK t (i+1) k' (by omega) (by omega)
  ·have e:pD v r=false:=decide_eq_false h
   simp only [nT h,bS,e,Bool.false_and,bJ]
theorem aI3 {α:Type} {p q:α→Bool}:∀l:List α,(l.all fun x=>p x&&q x)=(l.all p&&l.all q)
 |[]=>rfl
 |x::l=>by
  rw [List.all_cons,List.all_cons,List.all_cons,aI3 l]
  cases p x<;>cases q x<;>cases l.all p<;>rfl
theorem aG4 {d:List aG} {f v:List Rat} {l:List aA} (h:SB d f v l) {K:Nat} (hK:200≤K):mB K d f v l=some (aAc d f v l):=by
 have hdl:=h.dl
 have hfl:=h.fl
 have hvl:=h.vl
 have hll:=h.ll
 have e1:=aF1 (d:=d) h.sd h.dl K d.length 0 K (by simp) (by omega)
 have e2:=aGk (d:=d) (v:=v) h.sl h.ll (K:=K) (by omega) l.length 0 K (by omega) (by omega)
 have e3:=aGt h.sv h.sl h.ll (K:=K) (by omega) l.length 0 K (by omega) (by omega)
 simp only [Int.natCast_zero,List.drop_zero] at e1 e2 e3
 simp only [mB,rQ,aHR h.sf (by omega) (show f.length<K by omega),aHR h.sv (by omega) (show v.length<K by omega),e1,oE,e2,oC,e3,rT,oB,Bool.not_true,bJ,aAc,aI3 (p:=xE d.length v) (q:=pD v)]
 by_cases h1:d.length≤12
 ·by_cases h2:f.length=d.length
  ·by_cases h3:v.length=d.length
   ·simp only [dF (show¬(12:Int)<(d.length:Int) by omega),nF (show(f.length:Int)=(d.length:Int) by omega),nF (show(v.length:Int)=(d.length:Int) by omega),bJ,decide_eq_true (show d.length≤12∧f.length=d.length∧v.length=d.length from⟨h1,h2,h3⟩),Bool.true_and]
    cases d.all aCj
    ·rfl
    ·cases l.all (xE d.length v)
     ·rfl
     ·cases l.all (pD v)<;>rfl
   ·simp only [dF (show¬(12:Int)<(d.length:Int) by omega),nF (show(f.length:Int)=(d.length:Int) by omega),nT (show(v.length:Int)≠(d.length:Int) by omega),bJ,bS,decide_eq_false (show¬(d.length≤12∧f.length=d.length∧v.length=d.length) from fun h=>h3 h.2.2),Bool.false_and,oB,Bool.not_false]
  ·simp only [dF (show¬(12:Int)<(d.length:Int) by omega),nT (show(f.length:Int)≠(d.length:Int) by omega),bJ,bS,decide_eq_false (show¬(d.length≤12∧f.length=d.length∧v.length=d.length) from fun h=>h2 h.2.1),Bool.false_and,oB,Bool.not_false]
 ·simp only [dT (show(12:Int)<(d.length:Int) by omega),bS,decide_eq_false (show¬(d.length≤12∧f.length=d.length∧v.length=d.length) from fun h=>h1 h.1),Bool.false_and,oB,Bool.not_false]
end Go.Proofs.YtcjdedkdoagifaaGreat
set_option linter.unusedVariables false
namespace Go.Proofs.YtcjdedkdoagifaaGreat
/-- What the terms say of a degree of freedom. -/
def cf:List aC→Nat→Rat
 |[],_=>0
 |t::l,i=>(if t.dof=(i:Int) then t.k else 0)+cf l i
def InT (n:Nat) (l:List aC):Prop:=∀t∈l,0≤t.dof∧t.dof<(n:Int)
theorem aMQ {n:Nat} {l:List aC}:∀(t i:Nat),tks n l t i=true→∀j,i≤j→j<i+t→tk n l j=true
 |0,i,h,j,h1,h2=>by omega
 |t+1,i,h,j,h1,h2=>by
  have h3:(tk n l i&&tks n l t (i+1))=true:=h
  rw [Bool.and_eq_true] at h3
  by_cases e:j=i
  ·rw [e];exact h3.1
  ·exact aMQ t (i+1) h3.2 j (by omega) (by omega)
theorem aMi {n:Nat} {l:List aC} (h:tOk n l=true):InT n l:=fun t ht=>by
 obtain⟨i,hi,rfl⟩:=List.getElem_of_mem ht
 have:=of_decide_eq_true (aMQ l.length 0 h i (by omega) (by omega))
 have e:wM l i=l[i]:=by unfold wM;simp [List.getD_eq_getElem?_getD,hi]
 rw [e] at this
 exact⟨this.1,this.2.1⟩
theorem aS5 {A B t:Nat} (h:A+(B+9)*(t+1)≤1073741824):A+(8+B)+1+(B+9)*t≤1073741824∧A≤1073741824∧B≤1073741824:=by
 rw [Nat.mul_succ] at h;omega
theorem aRC {g:Nat→Rat} {n A B e:Nat} {v:Rat} (hg:∀j,j<n→Bd A (g j)) (hAB:A≤B) (hv:Bd B v):∀j,j<n→Bd B (kE g e v j):=fun j hj=>by
 by_cases h:j=e
 ·rw [h,bD];exact hv
 ·rw [cP h];exact(hg j hj).mono hAB
theorem aON {g:Nat→Rat} {n e:Nat} {y:aC} {l:List aC} {c:Rat} (he:y.dof=(e:Int)):mp (fun j=>kE g e (g e+y.k*c) j+cf l j*c) n=mp (fun j=>g j+cf (y::l) j*c) n:=cF fun j _=>by
 show _=g j+((if y.dof=(j:Int) then y.k else 0)+cf l j)*c
 by_cases h:j=e
 ·subst h;rw [bD,if_pos he,Rat.add_mul,Rat.add_assoc]
 ·rw [cP h,if_neg (by omega),Rat.zero_add]
theorem aN8 {n C:Nat} {l:List aC} {c:Rat} (hl:∀t∈l,Bd 8 t.k) (hi:InT n l) (hc:Bd C c) (Fl:Nat→List Rat→Int→Option (List Rat)) (h0:∀k x,Fl (k+1) x (l.length:Int)=some x)
  (h1:∀k (g:Nat→Rat) (i A:Nat),i<l.length→(∀j,j<n→Bd A (g j))→A≤1073741824→C≤1073741824→∀(e:Nat),(wM l i).dof=(e:Int)→e<n→Fl (k+1) (mp g n) (i:Int)=Fl k (mp (kE g e (g e+(wM l i).k*c)) n) ((i+1:Nat):Int)):
  ∀(t i k A:Nat) (g:Nat→Rat),i+t=l.length→t<k→(∀j,j<n→Bd A (g j))→A+(C+9)*t≤1073741824→Fl k (mp g n) (i:Int)=some (mp (fun j=>g j+cf (l.drop i) j*c) n)∧∀j,j<n→Bd (A+(C+9)*t) (g j+cf (l.drop i) j*c)
 |0,i,k,A,g,hi',hk,hg,hA=>by
  obtain⟨k',rfl,_⟩:=bB hk
  have e:i=l.length:=by omega
  subst e
  have e2:∀j,g j+cf (l.drop l.length) j*c=g j:=fun j=>by rw [List.drop_eq_nil_of_le (Nat.le_refl _)];show g j+0*c=g j;rw [Rat.zero_mul,Rat.add_zero]
  refine⟨?_,fun j hj=>by rw [e2];exact(hg j hj).mono (by omega)⟩
  rw [h0,cF (g:=g) fun j _=>e2 j]
 |t+1,i,k,A,g,hi',hk,hg,hA=>by
  obtain⟨k',rfl,_⟩:=bB hk
  have hil:i<l.length:=by omega
  obtain⟨b1,b2,b3⟩:=aS5 hA
  obtain⟨m1,m2⟩:=hi _ (zA hil)
  have he:(wM l i).dof=(((wM l i).dof.toNat:Nat):Int):=by omega
  have hv:=(hg _ (show(wM l i).dof.toNat<n by omega)).add ((hl _ (zA hil)).mul hc)
  have ih:=aN8 hl hi hc Fl h0 h1 t (i+1) k' (A+(8+C)+1) (kE g (wM l i).dof.toNat (g (wM l i).dof.toNat+(wM l i).k*c)) (by omega) (by omega) (aRC hg (by omega) hv) b1
  have ed:l.drop i=wM l i::l.drop (i+1):=by
   rw [List.drop_eq_getElem_cons hil];unfold wM;simp [List.getD_eq_getElem?_getD,hil]
  have e3:=aON (n:=n) (g:=g) (l:=l.drop (i+1)) (c:=c) he
  rw [h1 k' g i A hil hg b2 b3 _ he (by omega),ih.1,ed,e3]
  refine⟨rfl,fun j hj=>?_⟩
  have e4:=congrArg (fun x=>qB x j) e3
  simp only [aBx hj] at e4
  rw [←e4]
  exact(ih.2 j hj).mono (by rw [Nat.mul_succ];omega)
theorem aMJ {n C:Nat} {l:List aC} {c:Rat} (hl:TB l) (hi:InT n l) (hc:Bd C c) {A:Nat} {g:Nat→Rat} (hg:∀j,j<n→Bd A (g j)) (hA:A+(C+9)*12≤1073741824) (hn:n≤1000) {K:Nat} (hK:13≤K):
  oQ K (mp g n) l c=some (mp (fun j=>g j+cf l j*c) n)∧∀j,j<n→Bd (A+(C+9)*12) (g j+cf l j*c):=by
 have h12:=hl.1
 have hm:=Nat.mul_le_mul_left (C+9) h12
 have key:=aN8 (n:=n) hl.2 hi hc (fun k x i=>jA K l c k x i) (fun k x=>by
  simp only [jA,dF (show¬(l.length:Int)<(l.length:Int) by omega),bJ]) (fun k g i A hil hg h1 h2 e he hen=>by
  have hk:=hl.2 _ (zA hil)
  simp only [jA,dT (show(i:Int)<(l.length:Int) by omega),bS,aFd hil,oB,he,eH (f:=g) hen,qS hk hc (by omega) h2,xR (hg e hen) (hk.mul hc) h1 (by omega),tN (f:=g) hen,m6 (i:=i) (by omega)]) l.length 0 K A g (by omega) (by omega) hg (by omega)
 simp only [Int.natCast_zero,List.drop_zero] at key
 have ha:pA ([]:List Rat) (mp g n)=some (mp g n):=by rw [xL (by simp [mp];omega)];rfl
 refine⟨?_,fun j hj=>(key.2 j hj).mono (by omega)⟩
 simp only [oQ,ha,oB,key.1,qX]
def lE (l:List aA) (i:Nat):aA:=l.getD i ⟨0,0,0,0,0,[],[],0,0⟩
theorem aB3 {l:List aA} {i:Nat} (h:i<l.length):bT l (i:Int)=some (lE l i):=rdD _ h
theorem qQ {l:List aA} {i:Nat} (h:i<l.length):lE l i∈l:=by
 unfold lE
 simp only [List.getD_eq_getElem?_getD,List.getElem?_eq_getElem h,Option.getD_some]
 exact List.getElem_mem h
def rcq (l:List aA) (p:Nat→aF) (r j:Nat):Rat:=cf (lE l r).j j*(p r).n+cf (lE l r).t j*(p r).f
def t8 (l:List aA) (p:Nat→aF) (m j:Nat):Rat:=sm (fun r=>rcq l p r j) m
def InR (n:Nat) (l:List aA):Prop:=∀r∈l,InT n r.j∧InT n r.t
def PB' (C m:Nat) (p:Nat→aF):Prop:=∀r,r<m→Bd C (p r).n∧Bd C (p r).f
theorem aPV {A C t:Nat} (h:A+(C+9)*24*(t+1)≤1073741824):A+(C+9)*12≤1073741824∧A+(C+9)*12+(C+9)*12≤1073741824∧A+(C+9)*12+(C+9)*12+(C+9)*24*t≤1073741824:=by
 rw [Nat.mul_succ ((C+9)*24) t] at h
 generalize(C+9)*24*t=x at *
 omega
theorem aKS {g:Nat→Rat} {l:List aA} {p:Nat→aF} {i n:Nat} (f:Nat→Rat) (hg:g=fun j=>f j+t8 l p i j):mp (fun j=>g j+cf (lE l i).j j*(p i).n+cf (lE l i).t j*(p i).f) n=mp (fun j=>f j+t8 l p (i+1) j) n:=cF fun j _=>by
 subst hg
 show f j+t8 l p i j+_+_=f j+(t8 l p i j+rcq l p i j)
 unfold rcq
 rw [Rat.add_assoc,Rat.add_assoc]
theorem aD8 {n C:Nat} {l:List aA} {p:Nat→aF} (hl:RsB l) (hr:InR n l) (hp:PB' C l.length p) (f:Nat→Rat) (hn:n≤1000) (hll:l.length≤1000) {K:Nat} (hK:13≤K):
  ∀(t i k A:Nat),i+t=l.length→t<k→(∀j,j<n→Bd A (f j+t8 l p i j))→A+(C+9)*24*t≤1073741824→jB K l (mp p l.length) k (mp (fun j=>f j+t8 l p i j) n) (i:Int)=some (mp (fun j=>f j+t8 l p l.length j) n)∧∀j,j<n→Bd (A+(C+9)*24*t) (f j+t8 l p l.length j)
 |0,i,k,A,hi',hk,hg,hA=>by
  obtain⟨k',rfl,_⟩:=bB hk
  have e:i=l.length:=by omega
  subst e
  exact⟨by simp only [jB,dF (show¬(l.length:Int)<(l.length:Int) by omega),bJ],fun j hj=>(hg j hj).mono (by omega)⟩
 |t+1,i,k,A,hi',hk,hg,hA=>by
  obtain⟨k',rfl,_⟩:=bB hk
  have hil:i<l.length:=by omega
  obtain⟨b1,b2,b3⟩:=aPV hA
  have hm:=qQ hil
  obtain⟨p1,p2⟩:=hp i hil
  obtain⟨e1,f1⟩:=aMJ (hl _ hm).1 (hr _ hm).1 p1 hg b1 hn hK
  obtain⟨e2,f2⟩:=aMJ (hl _ hm).2 (hr _ hm).2 p2 f1 b2 hn hK
  have e3:=aKS (n:=n) (l:=l) (p:=p) (i:=i) f rfl
  have f3:∀j,j<n→Bd (A+(C+9)*12+(C+9)*12) (f j+t8 l p (i+1) j):=fun j hj=>by
   have:=congrArg (fun x=>qB x j) e3
   simp only [aBx hj] at this
   rw [←this];exact f2 j hj
  obtain⟨i1,i2⟩:=aD8 hl hr hp f hn hll hK t (i+1) k' _ (by omega) (by omega) f3 b3
  have hms:(C+9)*24*(t+1)=(C+9)*24*t+(C+9)*24:=Nat.mul_succ _ _
  refine⟨?_,fun j hj=>(i2 j hj).mono (by omega)⟩
  simp only [jB,dT (show(i:Int)<(l.length:Int) by omega),bS,aB3 hil,eH (f:=p) hil,oB,e1,e2,e3,m6 (i:=i) (by omega)]
  exact i1
def aBG (d:List aG) (i:Nat):aG:=d.getD i ⟨0,0,false,0,0⟩
theorem aNK {d:List aG} {i:Nat} (h:i<d.length):bT d (i:Int)=some (aBG d i):=rdD _ h
theorem aCN {d:List aG} {i:Nat} (h:i<d.length):aBG d i∈d:=by
 unfold aBG
 simp only [List.getD_eq_getElem?_getD,List.getElem?_eq_getElem h,Option.getD_some]
 exact List.getElem_mem h
def yH (d:List aG) (f:Nat→Rat) (l:List aA) (p:Nat→aF) (j:Nat):Rat:=(f j+t8 l p l.length j)*(aBG d j).inv
def aGO (A C m:Nat):Nat:=A+(C+9)*24*m+8
theorem aJN {d:List aG} {f s:Nat→Rat} {A B:Nat} (hd:∀x∈d,Bd 8 x.inv) (hn:d.length≤1000) (hf:∀j,j<d.length→Bd A (f j)) (hs:∀j,j<d.length→Bd B (s j)) (hA:A≤500000000) (hB:B≤500000000) (K:Nat):
  ∀(t i k:Nat),i+t=d.length→t<k→dP K d (mp f d.length) (mp s d.length) k (mp (fun j=>(aBG d j).inv*(f j+s j)) i) (i:Int)=some (mp (fun j=>(aBG d j).inv*(f j+s j)) d.length)
 |0,i,k,hi,hk=>by
  obtain⟨k',rfl,_⟩:=bB hk
  have e:i=d.length:=by omega
  subst e
  simp only [dP,dF (show¬(d.length:Int)<(d.length:Int) by omega),bJ]
 |t+1,i,k,hi,hk=>by
  obtain⟨k',rfl,_⟩:=bB hk
  have hil:i<d.length:=by omega
  have hv:=hd _ (aCN hil)
  simp only [dP,dT (show(i:Int)<(d.length:Int) by omega),bS,aNK hil,eH (f:=f) hil,eH (f:=s) hil,oB,xR (hf i hil) (hs i hil) (by omega) (by omega),qS hv ((hf i hil).add (hs i hil)) (by omega) (by omega),apM (g:=fun j=>(aBG d j).inv*(f j+s j)) (i:=i) (by omega),m6 (i:=i) (by omega)]
  exact aJN hd hn hf hs hA hB K t (i+1) k' (by omega) (by omega)
theorem aD3 {d:List aG} {f:Nat→Rat} {l:List aA} {p:Nat→aF} {A C:Nat} (hd:∀x∈d,Bd 8 x.inv) (hn:d.length≤1000) (hf:∀j,j<d.length→Bd A (f j)) (hl:RsB l) (hr:InR d.length l) (hll:l.length≤1000) (hp:PB' C l.length p) (hA:A≤400000000) (hC:(C+9)*24*l.length≤400000000) {K:Nat} (hK:2000≤K):
  dH K d (mp f d.length) l (mp p l.length)=some (mp (yH d f l p) d.length):=by
 have z:mp (fun j=>(0:Rat)+t8 l p 0 j) d.length=mp (fun _=>(0:Rat)) d.length:=cF fun j _=>by show(0:Rat)+0=0;exact Rat.add_zero 0
 obtain⟨s1,s2⟩:=aD8 (p:=p) hl hr hp (fun _=>(0:Rat)) hn hll (show 13≤K by omega) l.length 0 K 1 (by omega) (by omega) (fun j hj=>by show Bd 1 ((0:Rat)+0);rw [Rat.add_zero];exact Bd.zero) (by omega)
 rw [z] at s1
 have s3:∀j,j<d.length→Bd 400000001 ((0:Rat)+t8 l p l.length j):=fun j hj=>(s2 j hj).mono (by omega)
 have a1:=aJN hd hn hf s3 (by omega) (by omega) K d.length 0 K (by omega) (by omega)
 simp only [Int.natCast_zero,aAX] at s1 a1
 have e:mp (fun j=>(aBG d j).inv*(f j+((0:Rat)+t8 l p l.length j))) d.length=mp (yH d f l p) d.length:=cF fun j _=>by rw [Rat.zero_add,Rat.mul_comm];rfl
 simp only [dH,tY,aBb (z:=(0:Rat)) (n:=d.length) (by omega),oB,s1,qU,a1,jP,e]
theorem aCx {d:List aG} {f:Nat→Rat} {l:List aA} {p:Nat→aF} {A C:Nat} (hd:∀x∈d,Bd 8 x.inv) (hf:∀j,j<d.length→Bd A (f j)) (hl:RsB l) (hr:InR d.length l) (hp:PB' C l.length p) (hn:d.length≤1000) (hll:l.length≤1000) (hA:A≤400000000) (hC:(C+9)*24*l.length≤400000000):uD (aGO A C l.length) (mp (yH d f l p) d.length):=aBy fun j hj=>by
 obtain⟨_,s2⟩:=aD8 (p:=p) hl hr hp f hn hll (K:=1013) (by omega) l.length 0 (l.length+1) A (by omega) (by omega) (fun j hj=>by show Bd A (f j+0);rw [Rat.add_zero];exact hf j hj) (by omega)
 exact(s2 j hj).mul (hd _ (aCN hj))
theorem aNR {n C:Nat} {a2:List aF} {r:Nat} {v72:aA} {q:aF} (hq:bT a2 (r:Int)=some q) (hl:TB v72.j) (hi:InT n v72.j) (hc:Bd C q.n) {A:Nat} {g:Nat→Rat} (hg:∀j,j<n→Bd A (g j)) (hA:A+(C+9)*12≤1073741824) {K:Nat} (hK:13≤K):
  cW K a2 (r:Int) v72 K (mp g n) 0=some (mp (fun j=>g j+cf v72.j j*q.n) n)∧∀j,j<n→Bd (A+(C+9)*12) (g j+cf v72.j j*q.n):=by
 have h12:=hl.1
 have hm:=Nat.mul_le_mul_left (C+9) h12
 have key:=aN8 (n:=n) hl.2 hi hc (fun k x i=>cW K a2 (r:Int) v72 k x i) (fun k x=>by
  simp only [cW,dF (show¬(v72.j.length:Int)<(v72.j.length:Int) by omega),bJ]) (fun k g i A hil hg h1 h2 e he hen=>by
  have hk:=hl.2 _ (zA hil)
  simp only [cW,dT (show(i:Int)<(v72.j.length:Int) by omega),bS,aFd hil,oB,he,eH (f:=g) hen,hq,qS hk hc (by omega) h2,xR (hg e hen) (hk.mul hc) h1 (by omega),tN (f:=g) hen,m6 (i:=i) (by omega)]) v72.j.length 0 K A g (by omega) (by omega) hg (by omega)
 simp only [Int.natCast_zero,List.drop_zero] at key
 exact⟨key.1,fun j hj=>(key.2 j hj).mono (by omega)⟩
theorem aLs {n C:Nat} {a2:List aF} {r:Nat} {v72:aA} {q:aF} (hq:bT a2 (r:Int)=some q) (hl:TB v72.t) (hi:InT n v72.t) (hc:Bd C q.f) {A:Nat} {g:Nat→Rat} (hg:∀j,j<n→Bd A (g j)) (hA:A+(C+9)*12≤1073741824) {K:Nat} (hK:13≤K):
  cT K a2 (r:Int) v72 K (mp g n) 0=some (mp (fun j=>g j+cf v72.t j*q.f) n)∧∀j,j<n→Bd (A+(C+9)*12) (g j+cf v72.t j*q.f):=by
 have h12:=hl.1
 have hm:=Nat.mul_le_mul_left (C+9) h12
 have key:=aN8 (n:=n) hl.2 hi hc (fun k x i=>cT K a2 (r:Int) v72 k x i) (fun k x=>by
  simp only [cT,dF (show¬(v72.t.length:Int)<(v72.t.length:Int) by omega),bJ]) (fun k g i A hil hg h1 h2 e he hen=>by
  have hk:=hl.2 _ (zA hil)
  simp only [cT,dT (show(i:Int)<(v72.t.length:Int) by omega),bS,aFd hil,oB,he,eH (f:=g) hen,hq,qS hk hc (by omega) h2,xR (hg e hen) (hk.mul hc) h1 (by omega),tN (f:=g) hen,m6 (i:=i) (by omega)]) v72.t.length 0 K A g (by omega) (by omega) hg (by omega)
 simp only [Int.natCast_zero,List.drop_zero] at key
 exact⟨key.1,fun j hj=>(key.2 j hj).mono (by omega)⟩
theorem aIO {a0:aH} {n C:Nat} {p:Nat→aF} (hl:RsB a0.rows) (hr:InR n a0.rows) (hp:PB' C a0.rows.length p) (f:Nat→Rat) (hn:n≤1000) (hll:a0.rows.length≤1000) {K:Nat} (hK:13≤K):
  ∀(t i k A:Nat),i+t=a0.rows.length→t<k→(∀j,j<n→Bd A (f j+t8 a0.rows p i j))→A+(C+9)*24*t≤1073741824→cJ K a0 (mp p a0.rows.length) k (mp (fun j=>f j+t8 a0.rows p i j) n) (i:Int)=some (mp (fun j=>f j+t8 a0.rows p a0.rows.length j) n)
 |0,i,k,A,hi',hk,hg,hA=>by
  obtain⟨k',rfl,_⟩:=bB hk
  have e:i=a0.rows.length:=by omega
  subst e
  simp only [cJ,dF (show¬(a0.rows.length:Int)<(a0.rows.length:Int) by omega),bJ]
 |t+1,i,k,A,hi',hk,hg,hA=>by
  obtain⟨k',rfl,_⟩:=bB hk
  have hil:i<a0.rows.length:=by omega
  obtain⟨b1,b2,b3⟩:=aPV hA
  have hm:=qQ hil
  obtain⟨p1,p2⟩:=hp i hil
  have hq:=eH (f:=p) hil
  obtain⟨e1,f1⟩:=aNR hq (hl _ hm).1 (hr _ hm).1 p1 hg b1 hK
  obtain⟨e2,f2⟩:=aLs hq (hl _ hm).2 (hr _ hm).2 p2 f1 b2 hK
  have e3:=aKS (n:=n) (l:=a0.rows) (p:=p) (i:=i) f rfl
  have f3:∀j,j<n→Bd (A+(C+9)*12+(C+9)*12) (f j+t8 a0.rows p (i+1) j):=fun j hj=>by
   have:=congrArg (fun x=>qB x j) e3
   simp only [aBx hj] at this
   rw [←this];exact f2 j hj
  simp only [cJ,dT (show(i:Int)<(a0.rows.length:Int) by omega),bS,aB3 hil,oB,e1,jQ,e2,e3,jD,m6 (i:=i) (by omega)]
  exact aIO hl hr hp f hn hll hK t (i+1) k' _ (by omega) (by omega) f3 b3
theorem aIf {a0:aH} {B:Nat} (hd:∀x∈a0.dofs,Bd 8 x.inv) (hn:a0.dofs.length≤1000) (hB:B≤1000000000) (h:Nat→Rat) (hh:∀j,j<a0.dofs.length→Bd B (h j)) (K:Nat):
  ∀(t i k:Nat),i+t=a0.dofs.length→t<k→dQ K a0 k (mp (fun j=>if j<i then h j*(aBG a0.dofs j).inv else h j) a0.dofs.length) (i:Int)=some (mp (fun j=>h j*(aBG a0.dofs j).inv) a0.dofs.length)
 |0,i,k,hi,hk=>by
  obtain⟨k',rfl,_⟩:=bB hk
  have e:i=a0.dofs.length:=by omega
  subst e
  simp only [dQ,dF (show¬(a0.dofs.length:Int)<(a0.dofs.length:Int) by omega),bJ]
  exact congrArg some (cF fun j hj=>if_pos hj)
 |t+1,i,k,hi,hk=>by
  obtain⟨k',rfl,_⟩:=bB hk
  have hil:i<a0.dofs.length:=by omega
  have e1:(fun j=>if j<i then h j*(aBG a0.dofs j).inv else h j) i=h i:=if_neg (by omega)
  have e2:mp (kE (fun j=>if j<i then h j*(aBG a0.dofs j).inv else h j) i (h i*(aBG a0.dofs i).inv)) a0.dofs.length=mp (fun j=>if j<i+1 then h j*(aBG a0.dofs j).inv else h j) a0.dofs.length:=cF fun j hj=>by
   by_cases e:j=i
   ·subst e;rw [bD,if_pos (by omega)]
   ·rw [cP e]
    by_cases hlt:j<i
    ·rw [if_pos hlt,if_pos (by omega)]
    ·rw [if_neg hlt,if_neg (by omega)]
  simp only [dQ,dT (show(i:Int)<(a0.dofs.length:Int) by omega),bS,aNK hil,eH (f:=fun j=>if j<i then h j*(aBG a0.dofs j).inv else h j) hil,e1,oB,qS (hh i hil) (hd _ (aCN hil)) (by omega) (by omega),tN (f:=fun j=>if j<i then h j*(aBG a0.dofs j).inv else h j) hil,e2,m6 (i:=i) (by omega)]
  exact aIf hd hn hB h hh K t (i+1) k' (by omega) (by omega)
theorem aNV {x:List Rat} (hn:x.length≤60000000000):qG x=some x:=by
 unfold qG
 first|(rw [xL (by simp;omega)];rfl)|(simp [xL (show([]:List Rat).length+x.length≤60000000000 by simp;omega)])
theorem aEa {d:List aG} {f0 v0:List Rat} {f:Nat→Rat} {l:List aA} {p:Nat→aF} {A C:Nat} (hd:∀x∈d,Bd 8 x.inv) (hn:d.length≤1000) (hf:∀j,j<d.length→Bd A (f j)) (hl:RsB l) (hr:InR d.length l) (hll:l.length≤1000) (hp:PB' C l.length p) (hA:A≤400000000) (hC:(C+9)*24*l.length≤400000000) {K:Nat} (hK:2000≤K):
  bM K ⟨d,f0,v0,l⟩ (mp f d.length) (mp p l.length)=some (mp (yH d f l p) d.length):=by
 have z:mp (fun j=>f j+t8 l p 0 j) d.length=mp f d.length:=cF fun j _=>Rat.add_zero _
 have hz:∀j,j<d.length→Bd A (f j+t8 l p 0 j):=fun j hj=>by show Bd A (f j+0);rw [Rat.add_zero];exact hf j hj
 have s1:=aIO (a0:=⟨d,f0,v0,l⟩) (p:=p) hl hr hp f hn hll (show 13≤K by omega) l.length 0 K A (by simp) (by omega) hz (by omega)
 obtain⟨_,s2⟩:=aD8 (p:=p) hl hr hp f hn hll (K:=1013) (by omega) l.length 0 (l.length+1) A (by omega) (by omega) hz (by omega)
 have s3:=aIf (a0:=⟨d,f0,v0,l⟩) (B:=900000000) hd hn (by omega) (fun j=>f j+t8 l p l.length j) (fun j hj=>(s2 j hj).mono (by omega)) K d.length 0 K (by simp) (by omega)
 simp only at s1 s3
 rw [z] at s1
 have e0:mp (fun j=>if j<0 then(f j+t8 l p l.length j)*(aBG d j).inv else f j+t8 l p l.length j) d.length=mp (fun j=>f j+t8 l p l.length j) d.length:=cF fun j _=>if_neg (by omega)
 rw [e0] at s3
 simp only [Int.natCast_zero] at s1 s3
 have hc:=aNV (x:=mp f d.length) (by rw [bX];omega)
 simp only [bM,hc,oB,s1,jO,s3,jS]
 rfl
end Go.Proofs.YtcjdedkdoagifaaGreat
set_option linter.unusedVariables false
namespace Go.Proofs.YtcjdedkdoagifaaGreat
/-- Whether a row sticks. -/
def stk (v:List Rat) (r:aA):Bool:=decide (0<r.t.length)&&decide ((rt r.t v).num.sign=0)
def blk (v:List Rat) (l:List aA) (i:Nat):List (Nat×Nat):=(i,0)::(bif stk v (lE l i) then [(i,1),(i,2),(i,3)] else [])
def zL (v:List Rat) (l:List aA):Nat→List (Nat×Nat)
 |0=>[]
 |i+1=>zL v l i++blk v l i
def off (v:List Rat) (l:List aA):Nat→Nat
 |0=>0
 |i+1=>off v l i+(bif stk v (lE l i) then 4 else 1)
theorem zT {v:List Rat} {l:List aA}:∀m,(zL v l m).length=off v l m
 |0=>rfl
 |m+1=>by
  show(zL v l m++blk v l m).length=off v l m+_
  rw [List.length_append,zT m]
  unfold blk
  cases stk v (lE l m)<;>rfl
theorem tE {v:List Rat} {l:List aA}:∀m,off v l m≤4*m
 |0=>Nat.le_refl _
 |m+1=>by
  have:=tE (v:=v) (l:=l) m
  show off v l m+_≤_
  cases stk v (lE l m)
  ·show off v l m+1≤_;omega
  ·show off v l m+4≤_;omega
def vq (v:List Rat) (l:List aA) (r q:Nat):Prop:=q=0∨(stk v (lE l r)=true∧q≤3)
theorem aH2 {v:List Rat} {l:List aA} {r q:Nat} (h:vq v l r q):off v l r+q<off v l (r+1):=by
 show _<off v l r+(bif stk v (lE l r) then 4 else 1)
 rcases h with h|⟨h,h2⟩
 ·rw [h];cases stk v (lE l r)<;>simp
 ·rw [h];show _<off v l r+4;omega
theorem aL5 {v:List Rat} {l:List aA} {r m:Nat} (h:r≤m):off v l r≤off v l m:=by
 induction m with
 |zero=>
  have:r=0:=by omega
  rw [this];exact Nat.le_refl _
 |succ m ih=>
  by_cases e:r=m+1
  ·rw [e];exact Nat.le_refl _
  ·have h1:=ih (by omega)
   have h2:=aH2 (v:=v) (l:=l) (r:=m) (q:=0) (.inl rfl)
   omega
theorem sK {v:List Rat} {l:List aA} {r m q:Nat} (h:r<m) (hq:vq v l r q):off v l r+q<off v l m:=Nat.lt_of_lt_of_le (aH2 hq) (aL5 h)
theorem aD1 {v:List Rat} {l:List aA} {r q:Nat} (hq:vq v l r q):∀m,r<m→(zL v l m)[off v l r+q]?=some (r,q)
 |0,h=>by omega
 |m+1,h=>by
  show(zL v l m++blk v l m)[off v l r+q]?=some (r,q)
  by_cases e:r=m
  ·subst e
   rw [List.getElem?_append_right (by rw [zT];omega),zT,Nat.add_sub_cancel_left]
   unfold blk
   rcases hq with hq|⟨h1,h2⟩
   ·rw [hq];rfl
   ·rw [h1]
    have:q=0∨q=1∨q=2∨q=3:=by omega
    rcases this with rfl|rfl|rfl|rfl<;>rfl
  ·rw [List.getElem?_append_left (by rw [zT];exact sK (by omega) hq)]
   exact aD1 hq m (by omega)
theorem uW {v:List Rat} {l:List aA}:∀m k,k<off v l m→∃r q,r<m∧vq v l r q∧k=off v l r+q
 |0,k,h=>by exact absurd h (Nat.not_lt_zero _)
 |m+1,k,h=>by
  by_cases e:k<off v l m
  ·obtain⟨r,q,h1,h2,h3⟩:=uW m k e
   exact⟨r,q,by omega,h2,h3⟩
  ·have h':k<off v l m+(bif stk v (lE l m) then 4 else 1):=h
   refine⟨m,k-off v l m,by omega,?_,by omega⟩
   cases hs:stk v (lE l m)
   ·rw [hs] at h';have:k<off v l m+1:=h';exact .inl (by omega)
   ·rw [hs] at h';have:k<off v l m+4:=h';exact .inr ⟨hs,by omega⟩
theorem aD9 {v:List Rat} {l:List aA} {r q r' q':Nat} (h:vq v l r q) (h':vq v l r' q') (e:off v l r+q=off v l r'+q'):r=r'∧q=q':=by
 have key:r=r':=by
  rcases Nat.lt_trichotomy r r' with h1|h1|h1
  ·have:=sK h1 h;omega
  ·exact h1
  ·have:=sK h1 h';omega
 subst key
 exact⟨rfl,by omega⟩
def pu (x:Nat×Nat):aE:=⟨(x.1:Int),(x.2:Int)⟩
def ru (x:Nat×Nat):aZ:=⟨(x.1:Int),(x.2:Int)⟩
theorem aGQ {d:List aG} {f v:List Rat} {l:List aA} {r:aA} (hv:uD 64 v) (hr:RB r) {K:Nat} (hK:13≤K):lP K ⟨d,f,v,l⟩ r=some (rt r.t v).num.sign:=by
 simp only [lP,aKw hv hr.2 hK,oB,jR (aJ6 hv hr.2) (by omega)]
theorem aE9 {v:List Rat} {r:aA} (hv:uD 64 v) (hr:RB r) {K:Nat} (hK:13≤K):jT K r v=some (rt r.t v).num.sign:=by
 simp only [jT,aHT hv hr.2 hK,oB,jR (aJ6 hv hr.2) (by omega)]
theorem apA {α:Type} {xs ys:List α} (h:xs.length+ys.length≤60000000000):pA xs ys=some (xs++ys):=xL (by omega)
theorem aDd {d:List aG} {f v:List Rat} {l:List aA} (hv:uD 64 v) (hl:RsB l) (hn:l.length≤1000) {K:Nat} (hK:13≤K):∀(t i k:Nat),i+t=l.length→t<k→dM K ⟨d,f,v,l⟩ k ((zL v l i).map pu) (i:Int)=some ((zL v l l.length).map pu)
 |0,i,k,hi,hk=>by
  obtain⟨k',rfl,_⟩:=bB hk
  have e:i=l.length:=by omega
  subst e
  simp only [dM,dF (show¬(l.length:Int)<(l.length:Int) by omega),bJ]
 |t+1,i,k,hi,hk=>by
  obtain⟨k',rfl,_⟩:=bB hk
  have hil:i<l.length:=by omega
  have hr:=hl _ (qQ hil)
  have h4:=tE (v:=v) (l:=l) i
  have hlen:((zL v l i).map pu).length=off v l i:=by rw [List.length_map,zT]
  have ih:=aDd (d:=d) (f:=f) hv hl hn hK t (i+1) k' (by omega) (by omega)
  have e1:pA ((zL v l i).map pu) [(⟨(i:Int),0⟩:aE)]=some ((zL v l i).map pu++[(⟨(i:Int),0⟩:aE)]):=apA (by rw [hlen];simp;omega)
  have e2:pA ((zL v l i).map pu++[(⟨(i:Int),0⟩:aE)]) [(⟨(i:Int),1⟩:aE),⟨(i:Int),2⟩,⟨(i:Int),3⟩]=some ((zL v l i).map pu++[(⟨(i:Int),0⟩:aE)]++[(⟨(i:Int),1⟩:aE),⟨(i:Int),2⟩,⟨(i:Int),3⟩]):=apA (by rw [List.length_append,hlen];simp;omega)
  have e3:(zL v l (i+1)).map pu=(zL v l i).map pu++(blk v l i).map pu:=List.map_append
  rw [e3] at ih
  simp only [dM,dT (show(i:Int)<(l.length:Int) by omega),bS,aB3 hil,oB,e1]
  unfold blk stk at ih
  by_cases h0:0<(lE l i).t.length
  ·simp only [dT (show(0:Int)<((lE l i).t.length:Int) by omega),bS,aGQ hv hr hK,oB]
   by_cases h1:(rt (lE l i).t v).num.sign=0
   ·simp only [qT h1,bS,e2,oB,m6 (i:=i) (by omega)]
    rw [decide_eq_true h0,decide_eq_true h1] at ih
    rw [List.append_assoc]
    exact ih
   ·simp only [qF h1,bJ,m6 (i:=i) (by omega),oB]
    rw [decide_eq_false h1,Bool.and_false] at ih
    exact ih
  ·simp only [dF (show¬(0:Int)<((lE l i).t.length:Int) by omega),bJ,m6 (i:=i) (by omega),oB]
   rw [decide_eq_false h0,Bool.false_and] at ih
   exact ih
theorem aDO {d:List aG} {f v:List Rat} {l:List aA} (hv:uD 64 v) (hl:RsB l) (hn:l.length≤1000) {K:Nat} (hK:2000≤K):kJ K ⟨d,f,v,l⟩=some ((zL v l l.length).map pu):=by
 have:=aDd (d:=d) (f:=f) hv hl hn (show 13≤K by omega) l.length 0 K (by omega) (by omega)
 simp only [Int.natCast_zero] at this
 simp only [kJ,show([]:List aE)=(zL v l 0).map pu from rfl,this,oB,mE]
theorem aCa {v:List Rat} {l:List aA} (hv:uD 64 v) (hl:RsB l) (hn:l.length≤1000) {K:Nat} (hK:13≤K):∀(t i k:Nat),i+t=l.length→t<k→fG K v l k ((zL v l i).map ru) (i:Int)=some ((zL v l l.length).map ru)
 |0,i,k,hi,hk=>by
  obtain⟨k',rfl,_⟩:=bB hk
  have e:i=l.length:=by omega
  subst e
  simp only [fG,dF (show¬(l.length:Int)<(l.length:Int) by omega),bJ]
 |t+1,i,k,hi,hk=>by
  obtain⟨k',rfl,_⟩:=bB hk
  have hil:i<l.length:=by omega
  have hr:=hl _ (qQ hil)
  have h4:=tE (v:=v) (l:=l) i
  have hlen:((zL v l i).map ru).length=off v l i:=by rw [List.length_map,zT]
  have ih:=aCa hv hl hn hK t (i+1) k' (by omega) (by omega)
  have e1:pA ((zL v l i).map ru) [(⟨(i:Int),0⟩:aZ)]=some ((zL v l i).map ru++[(⟨(i:Int),0⟩:aZ)]):=apA (by rw [hlen];simp;omega)
  have e2:pA ((zL v l i).map ru++[(⟨(i:Int),0⟩:aZ)]) [(⟨(i:Int),1⟩:aZ),⟨(i:Int),2⟩,⟨(i:Int),3⟩]=some ((zL v l i).map ru++[(⟨(i:Int),0⟩:aZ)]++[(⟨(i:Int),1⟩:aZ),⟨(i:Int),2⟩,⟨(i:Int),3⟩]):=apA (by rw [List.length_append,hlen];simp;omega)
  have e3:(zL v l (i+1)).map ru=(zL v l i).map ru++(blk v l i).map ru:=List.map_append
  rw [e3] at ih
  simp only [fG,dT (show(i:Int)<(l.length:Int) by omega),bS,aB3 hil,oB,e1]
  unfold blk stk at ih
  by_cases h0:0<(lE l i).t.length
  ·simp only [dT (show(0:Int)<((lE l i).t.length:Int) by omega),bS,aE9 hv hr hK,oB]
   by_cases h1:(rt (lE l i).t v).num.sign=0
   ·simp only [qT h1,bS,e2,oB,m6 (i:=i) (by omega)]
    rw [decide_eq_true h0,decide_eq_true h1] at ih
    rw [List.append_assoc]
    exact ih
   ·simp only [qF h1,bJ,m6 (i:=i) (by omega),oB]
    rw [decide_eq_false h1,Bool.and_false] at ih
    exact ih
  ·simp only [dF (show¬(0:Int)<((lE l i).t.length:Int) by omega),bJ,m6 (i:=i) (by omega),oB]
   rw [decide_eq_false h0,Bool.false_and] at ih
   exact ih
theorem yM {v:List Rat} {l:List aA} (hv:uD 64 v) (hl:RsB l) (hn:l.length≤1000) {K:Nat} (hK:2000≤K):kK K v l=some ((zL v l l.length).map ru):=by
 have:=aCa hv hl hn (show 13≤K by omega) l.length 0 K (by omega) (by omega)
 simp only [Int.natCast_zero] at this
 simp only [kK,show([]:List aZ)=(zL v l 0).map ru from rfl,this,oB,uF]
theorem rdU {v:List Rat} {l:List aA} {m r q:Nat} (hq:vq v l r q) (hr:r<m):bT ((zL v l m).map pu) ((off v l r+q:Nat):Int)=some ⟨(r:Int),(q:Int)⟩:=rdG (by rw [List.getElem?_map,aD1 hq m hr];rfl)
theorem aSX {v:List Rat} {l:List aA} {m r q:Nat} (hq:vq v l r q) (hr:r<m):bT ((zL v l m).map ru) ((off v l r+q:Nat):Int)=some ⟨(r:Int),(q:Int)⟩:=rdG (by rw [List.getElem?_map,aD1 hq m hr];rfl)
theorem uO {v:List Rat} {l:List aA} {m:Nat}:((zL v l m).map pu).length=off v l m:=by rw [List.length_map,zT]
theorem aBt {v:List Rat} {l:List aA} {m:Nat}:((zL v l m).map ru).length=off v l m:=by rw [List.length_map,zT]
end Go.Proofs.YtcjdedkdoagifaaGreat
set_option linter.unusedVariables false
namespace Go.Proofs.YtcjdedkdoagifaaGreat
instance vqDec {v:List Rat} {l:List aA} {r q:Nat}:Decidable (vq v l r q):=by unfold vq;infer_instance
theorem vq3 {v:List Rat} {l:List aA} {r q:Nat} (h:vq v l r q):q≤3:=by
 rcases h with h|h
 ·omega
 ·exact h.2
def ow (v:List Rat) (l:List aA) (z:Nat→Rat) (i k q:Nat):Rat:=if vq v l i q∧off v l i+q<k then z (off v l i+q) else 0
theorem aLY {v:List Rat} {l:List aA} {z:Nat→Rat} {i k r q0:Nat} (hq:vq v l r q0) (hk:k=off v l r+q0):(r=i→mp (kE (ow v l z i k) q0 (z k)) 4=mp (ow v l z i (k+1)) 4)∧(r≠i→mp (ow v l z i k) 4=mp (ow v l z i (k+1)) 4):=by
 refine⟨fun e=>cF fun q _=>?_,fun e=>cF fun q _=>?_⟩
 ·subst e
  by_cases h:q=q0
  ·subst h
   rw [bD]
   unfold ow
   rw [if_pos ⟨hq,by omega⟩,←hk]
  ·rw [cP h]
   unfold ow
   by_cases h2:vq v l r q∧off v l r+q<k
   ·rw [if_pos h2,if_pos ⟨h2.1,by omega⟩]
   ·rw [if_neg h2,if_neg fun h3=>h2 ⟨h3.1,by omega⟩]
 ·unfold ow
  by_cases h2:vq v l i q∧off v l i+q<k
  ·rw [if_pos h2,if_pos ⟨h2.1,by omega⟩]
  ·rw [if_neg h2,if_neg fun h3=>?_]
   have:off v l i+q=off v l r+q0:=by
    have:=h3.2
    by_cases e2:off v l i+q<k
    ·exact absurd ⟨h3.1,e2⟩ h2
    ·omega
   exact e (aD9 h3.1 hq this).1.symm
theorem aKa {v:List Rat} {l:List aA} {m:Nat} {z:Nat→Rat} (hm:m≤1000) (i:Nat) (K:Nat):∀(t k fu:Nat),k+t=off v l m→t<fu→iV K (mp z (off v l m)) ((zL v l m).map ru) (i:Int) fu (mp (ow v l z i k) 4) (k:Int)=some (mp (ow v l z i (off v l m)) 4)
 |0,k,fu,hi,hk=>by
  obtain⟨k',rfl,_⟩:=bB hk
  have e:k=off v l m:=by omega
  subst e
  simp only [iV,aBt,dF (show¬(off v l m:Int)<(off v l m:Int) by omega),bJ]
 |t+1,k,fu,hi,hk=>by
  obtain⟨k',rfl,_⟩:=bB hk
  have hkl:k<off v l m:=by omega
  have h4:=tE (v:=v) (l:=l) m
  obtain⟨r,q,h1,h2,h3⟩:=uW m k hkl
  have hq3:=vq3 h2
  have hu:=aSX (m:=m) h2 h1
  rw [←h3] at hu
  obtain⟨s1,s2⟩:=aLY (z:=z) (i:=i) h2 h3
  have ih:=aKa (v:=v) (l:=l) (z:=z) hm i K t (k+1) k' (by omega) (by omega)
  simp only [iV,aBt,dT (show(k:Int)<(off v l m:Int) by omega),bS,hu,oB]
  by_cases e:r=i
  ·simp only [qT (show(r:Int)=(i:Int) by omega),bS,eH (f:=z) hkl,eH (f:=ow v l z i k) (n:=4) (i:=q) (by omega),oB,tN (f:=ow v l z i k) (n:=4) (i:=q) (by omega),s1 e,m6 (i:=k) (by omega)]
   exact ih
  ·simp only [qF (show(r:Int)≠(i:Int) by omega),bJ,m6 (i:=k) (by omega),oB,s2 e]
   exact ih
def pz (v:List Rat) (l:List aA) (z:Nat→Rat) (i:Nat):aF:=
 if(lE l i).t.length=0 then⟨z (off v l i),0⟩
 else if(rt (lE l i).t v).num.sign≠0 then⟨z (off v l i),(((-(rt (lE l i).t v).num.sign:Int):Rat)/((1:Int):Rat))*((lE l i).mu*z (off v l i))⟩
 else⟨z (off v l i),z (off v l i+1)-z (off v l i+2)⟩
theorem aKW (x:Rat):-1≤x.num.sign∧x.num.sign≤1:=by
 rcases Int.lt_trichotomy x.num 0 with h|h|h
 ·rw [Int.sign_eq_neg_one_of_neg h];omega
 ·rw [h];decide
 ·rw [Int.sign_eq_one_of_pos h];omega
theorem qsg (x:Rat):zK (-x.num.sign) 1=some (((-x.num.sign:Int):Rat)/((1:Int):Rat))∧Bd 2 (((-x.num.sign:Int):Rat)/((1:Int):Rat)):=by
 have:=aKW x
 obtain⟨r,h1,h2,h3⟩:=aBs (k:=2) (p:=-x.num.sign) (q:=1) (by omega) (by omega) (by decide) (by omega)
 rw [←h2];exact⟨h1,h3⟩
theorem aF4 {v:List Rat} {l:List aA} {z:Nat→Rat} {C:Nat} (hz:∀k,k<off v l l.length→Bd C (z k)) (hl:RsC l):PB' (2*C+11) l.length (pz v l z):=fun i hi=>by
 have h0:=hz _ (sK (v:=v) (l:=l) (r:=i) (q:=0) hi (.inl rfl))
 rw [Nat.add_zero] at h0
 have hm:=(hl _ (qQ hi)).2
 unfold pz
 split
 ·exact⟨h0.mono (by omega),Bd.zero.mono (by omega)⟩
 ·rename_i ht
  split
  ·exact⟨h0.mono (by omega),((qsg _).2.mul (hm.mul h0)).mono (by omega)⟩
  ·rename_i hs
   have hst:stk v (lE l i)=true:=by
    unfold stk
    rw [decide_eq_true (show 0<(lE l i).t.length by omega),decide_eq_true (show(rt (lE l i).t v).num.sign=0 from Decidable.of_not_not hs)];rfl
   exact⟨h0.mono (by omega),((hz _ (sK (q:=1) hi (.inr ⟨hst,by omega⟩))).sub (hz _ (sK (q:=2) hi (.inr ⟨hst,by omega⟩)))).mono (by omega)⟩
theorem aEs {v:List Rat} {l:List aA} {z:Nat→Rat} {C:Nat} (hv:uD 64 v) (hl:RsC l) (hz:∀k,k<off v l l.length→Bd C (z k)) (hC:C≤500000000) (hn:l.length≤1000) {K:Nat} (hK:5000≤K):∀(t i k:Nat),i+t=l.length→t<k→lJ K v l (mp z (off v l l.length)) ((zL v l l.length).map ru) k (mp (pz v l z) i) (i:Int)=some (mp (pz v l z) l.length)
 |0,i,k,hi,hk=>by
  obtain⟨k',rfl,_⟩:=bB hk
  have e:i=l.length:=by omega
  subst e
  simp only [lJ,dF (show¬(l.length:Int)<(l.length:Int) by omega),bJ]
 |t+1,i,k,hi,hk=>by
  obtain⟨k',rfl,_⟩:=bB hk
  have hil:i<l.length:=by omega
  have h4:=tE (v:=v) (l:=l) l.length
  have hr:=hl _ (qQ hil)
  have ih:=aEs hv hl hz hC hn hK t (i+1) k' (by omega) (by omega)
  have e0:mp (ow v l z i 0) 4=mp (fun _=>(0:Rat)) 4:=cF fun q _=>if_neg (by omega)
  have e1:=aKa (v:=v) (l:=l) (m:=l.length) (z:=z) hn i K (off v l l.length) 0 K (by omega) (by omega)
  rw [e0] at e1
  simp only [Int.natCast_zero] at e1
  have hmk:wJ 4 (0:Rat)=some (mp (fun _=>(0:Rat)) 4):=aBb (n:=4) (by omega)
  have l0:=sK (v:=v) (l:=l) (m:=l.length) (r:=i) (q:=0) hil (.inl rfl)
  have o0:ow v l z i (off v l l.length) 0=z (off v l i):=by unfold ow;rw [if_pos ⟨.inl rfl,l0⟩,Nat.add_zero]
  rw [Nat.add_zero] at l0
  have r0:bT (mp (ow v l z i (off v l l.length)) 4) 0=some (z (off v l i)):=by rw [←o0];exact eH (i:=0) (by omega)
  have hF:u6 K (lE l i) v (mp (ow v l z i (off v l l.length)) 4)=some (pz v l z i):=by
   simp only [u6,aE9 hv hr.1 (show 13≤K by omega),oB,r0]
   unfold pz
   by_cases ht:(lE l i).t.length=0
   ·simp only [qT (show((lE l i).t.length:Int)=0 by omega),bS,if_pos ht]
   ·simp only [qF (show((lE l i).t.length:Int)≠0 by omega),bJ,if_neg ht]
    by_cases hs:(rt (lE l i).t v).num.sign=0
    ·have hst:stk v (lE l i)=true:=by
      unfold stk;rw [decide_eq_true (show 0<(lE l i).t.length by omega),decide_eq_true hs];rfl
     have l1:=sK (v:=v) (l:=l) (m:=l.length) (r:=i) (q:=1) hil (.inr ⟨hst,by omega⟩)
     have l2:=sK (v:=v) (l:=l) (m:=l.length) (r:=i) (q:=2) hil (.inr ⟨hst,by omega⟩)
     have r1:bT (mp (ow v l z i (off v l l.length)) 4) 1=some (z (off v l i+1)):=by
      have:ow v l z i (off v l l.length) 1=z (off v l i+1):=if_pos ⟨.inr ⟨hst,by omega⟩,l1⟩
      rw [←this];exact eH (i:=1) (by omega)
     have r2:bT (mp (ow v l z i (off v l l.length)) 4) 2=some (z (off v l i+2)):=by
      have:ow v l z i (off v l l.length) 2=z (off v l i+2):=if_pos ⟨.inr ⟨hst,by omega⟩,l2⟩
      rw [←this];exact eH (i:=2) (by omega)
     simp only [nF hs,bJ,r1,r2,oB,aAG (hz _ l1) (hz _ l2) (by omega) (by omega),if_neg (show¬((rt (lE l i).t v).num.sign≠0) from fun h=>h hs)]
    ·have hb:=aKW (rt (lE l i).t v)
     have hz0:=hz _ l0
     simp only [nT hs,bS,lI (show -9223372036854775808≤-(rt (lE l i).t v).num.sign∧_ by omega),oB,(qsg _).1,qS hr.2 hz0 (by omega) (by omega),qS (qsg (rt (lE l i).t v)).2 (hr.2.mul hz0) (by omega) (by omega),if_pos hs]
  simp only [lJ,dT (show(i:Int)<(l.length:Int) by omega),bS,hmk,oB,e1,vA,aB3 hil,hF,apM (g:=pz v l z) (i:=i) (by omega),m6 (i:=i) (by omega)]
  exact ih
theorem aF3 {v:List Rat} {l:List aA} {z:Nat→Rat} {C:Nat} (hv:uD 64 v) (hl:RsC l) (hz:∀k,k<off v l l.length→Bd C (z k)) (hC:C≤500000000) (hn:l.length≤1000) {K:Nat} (hK:5000≤K):rK K v l (mp z (off v l l.length))=some (mp (pz v l z) l.length):=by
 have:=aEs hv hl hz hC hn hK l.length 0 K (by omega) (by omega)
 simp only [Int.natCast_zero,aAX] at this
 simp only [rK,yM hv (fun r h=>(hl r h).1) hn (show 2000≤K by omega),oB,this,vC]
def uk (v:List Rat) (l:List aA) (k:Nat):Nat×Nat:=(zL v l l.length).getD k (0,0)
theorem aDP {v:List Rat} {l:List aA} {r q:Nat} (hq:vq v l r q) (hr:r<l.length):uk v l (off v l r+q)=(r,q):=by
 unfold uk
 rw [List.getD_eq_getElem?_getD,aD1 hq _ hr];rfl
def rv (v:List Rat) (l:List aA) (a:List Rat) (k:Nat):Rat:=
 if(uk v l k).2=0 then rt (lE l (uk v l k).1).j a
 else if(uk v l k).2=1 then rt (lE l (uk v l k).1).t a
 else if(uk v l k).2=2 then -(rt (lE l (uk v l k).1).t a)
 else 0
def zv (v:List Rat) (l:List aA) (z:Nat→Rat) (k:Nat):Rat:=
 if(uk v l k).2=0 then 0
 else if(uk v l k).2=1 then z (k+2)
 else if(uk v l k).2=2 then z (k+1)
 else(lE l (uk v l k).1).mu*z (k-3)-(z (k-2)+z (k-1))
def vl (v:List Rat) (l:List aA) (a:List Rat) (z:Nat→Rat) (k:Nat):Rat:=rv v l a k+zv v l z k
theorem aE3 {v a:List Rat} {l:List aA} {z:Nat→Rat} {C B:Nat} (hl:RsC l) (ha:uD B a) (hB:B≤10000000) (hz:∀k,k<off v l l.length→Bd C (z k)) (hC:C≤100000000) (hn:l.length≤1000) {K:Nat} (hK:13≤K):∀(t k fu:Nat),k+t=off v l l.length→t<fu→eW K l (mp z (off v l l.length)) a ((zL v l l.length).map ru) fu (mp (vl v l a z) k) (k:Int)=some (mp (vl v l a z) (off v l l.length))
 |0,k,fu,hi,hk=>by
  obtain⟨k',rfl,_⟩:=bB hk
  have e:k=off v l l.length:=by omega
  subst e
  simp only [eW,aBt,dF (show¬(off v l l.length:Int)<(off v l l.length:Int) by omega),bJ]
 |t+1,k,fu,hi,hk=>by
  obtain⟨k',rfl,_⟩:=bB hk
  have hkl:k<off v l l.length:=by omega
  have h4:=tE (v:=v) (l:=l) l.length
  obtain⟨r,q,h1,h2,h3⟩:=uW l.length k hkl
  have hq3:=vq3 h2
  have hu:=aSX (m:=l.length) h2 h1
  rw [←h3] at hu
  have huk:=aDP h2 h1
  rw [←h3] at huk
  have hr:=hl _ (qQ h1)
  have ih:=aE3 hl ha hB hz hC hn hK t (k+1) k' (by omega) (by omega)
  have bj:=xZ ha hr.1.1
  have bt:=xZ ha hr.1.2
  have ap:=apM (g:=vl v l a z) (i:=k) (by omega)
  simp only [eW,aBt,dT (show(k:Int)<(off v l l.length:Int) by omega),bS,hu,oB,aB3 h1]
  have hcase:q=0∨q=1∨q=2∨q=3:=by omega
  rcases hcase with rfl|rfl|rfl|rfl
  ·have e:vl v l a z k=rt (lE l r).j a:=by unfold vl rv zv;rw [huk];exact Rat.add_zero _
   rw [e] at ap
   simp only [qT (show((0:Nat):Int)=0 from rfl),bS,yQ ha (by omega) hr.1.1 hK,oB,ap,m6 (i:=k) (by omega)]
   exact ih
  ·have hst:stk v (lE l r)=true:=by rcases h2 with h|h;omega;exact h.1
   have l3:=sK (v:=v) (l:=l) (m:=l.length) (r:=r) (q:=3) h1 (.inr ⟨hst,by omega⟩)
   have e:vl v l a z k=rt (lE l r).t a+z (k+2):=by unfold vl rv zv;rw [huk];rfl
   rw [e] at ap
   have c2:aS ((k:Int)+2)=some ((k+2:Nat):Int):=by rw [lI (by omega)];rfl
   simp only [qF (show((1:Nat):Int)≠0 by omega),qT (show((1:Nat):Int)=1 from rfl),bJ,bS,yQ ha (by omega) hr.1.2 hK,oB,c2,eH (f:=z) (n:=off v l l.length) (i:=k+2) (by omega),xR bt (hz (k+2) (by omega)) (by omega) (by omega),ap,m6 (i:=k) (by omega)]
   exact ih
  ·have hst:stk v (lE l r)=true:=by rcases h2 with h|h;omega;exact h.1
   have l3:=sK (v:=v) (l:=l) (m:=l.length) (r:=r) (q:=3) h1 (.inr ⟨hst,by omega⟩)
   have e:vl v l a z k=z (k+1)-rt (lE l r).t a:=by
    unfold vl rv zv;rw [huk]
    show -(rt (lE l r).t a)+z (k+1)=_
    rw [Rat.add_comm,Rat.sub_eq_add_neg]
   rw [e] at ap
   simp only [qF (show((2:Nat):Int)≠0 by omega),qF (show((2:Nat):Int)≠1 by omega),qT (show((2:Nat):Int)=2 from rfl),bJ,bS,m6 (i:=k) (by omega),oB,eH (f:=z) (n:=off v l l.length) (i:=k+1) (by omega),yQ ha (by omega) hr.1.2 hK,aAG (hz (k+1) (by omega)) bt (by omega) (by omega),ap]
   exact ih
  ·have e:vl v l a z k=(lE l r).mu*z (k-3)-(z (k-2)+z (k-1)):=by unfold vl rv zv;rw [huk];exact Rat.zero_add _
   rw [e] at ap
   have c1:aS ((k:Int)-3)=some ((k-3:Nat):Int):=by rw [lI (by omega)];congr 1;omega
   have c2:aS ((k:Int)-2)=some ((k-2:Nat):Int):=by rw [lI (by omega)];congr 1;omega
   have c3:aS ((k:Int)-1)=some ((k-1:Nat):Int):=by rw [lI (by omega)];congr 1;omega
   have z1:=hz (k-3) (by omega)
   have z2:=hz (k-2) (by omega)
   have z3:=hz (k-1) (by omega)
   simp only [qF (show((3:Nat):Int)≠0 by omega),qF (show((3:Nat):Int)≠1 by omega),qF (show((3:Nat):Int)≠2 by omega),bJ,c1,c2,c3,oB,eH (f:=z) (n:=off v l l.length) (i:=k-3) (by omega),eH (f:=z) (n:=off v l l.length) (i:=k-2) (by omega),eH (f:=z) (n:=off v l l.length) (i:=k-1) (by omega),qS hr.2 z1 (by omega) (by omega),xR z2 z3 (by omega) (by omega),aAG (hr.2.mul z1) (z2.add z3) (by omega) (by omega),ap,m6 (i:=k) (by omega)]
   exact ih
theorem aRV {v a:List Rat} {l:List aA} {z:Nat→Rat} {C B:Nat} (hl:RsC l) (ha:uD B a) (hz:∀k,k<off v l l.length→Bd C (z k)) {k:Nat} (hk:k<off v l l.length):Bd (1+(B+9)*12+(3*C+20)) (vl v l a z k):=by
 obtain⟨r,q,h1,h2,h3⟩:=uW l.length k hk
 have hq3:=vq3 h2
 have huk:=aDP h2 h1
 rw [←h3] at huk
 have hr:=hl _ (qQ h1)
 have bj:=xZ ha hr.1.1
 have bt:=xZ ha hr.1.2
 have hC:∀k,k<off v l l.length→Bd (3*C+19) (z k):=fun k hk=>(hz k hk).mono (by omega)
 have b1:Bd (1+(B+9)*12) (rv v l a k):=by
  unfold rv;rw [huk]
  split
  ·exact bj
  ·split
   ·exact bt
   ·split
    ·exact bt.neg
    ·exact Bd.zero.mono (by omega)
 have b2:Bd (3*C+19) (zv v l z k):=by
  unfold zv;rw [huk]
  have hcase:q=0∨q=1∨q=2∨q=3:=by omega
  rcases hcase with rfl|rfl|rfl|rfl
  ·exact Bd.zero.mono (by omega)
  ·have hst:stk v (lE l r)=true:=by rcases h2 with h|h;omega;exact h.1
   have l3:=sK (v:=v) (l:=l) (m:=l.length) (r:=r) (q:=3) h1 (.inr ⟨hst,by omega⟩)
   exact hC _ (by omega)
  ·have hst:stk v (lE l r)=true:=by rcases h2 with h|h;omega;exact h.1
   have l3:=sK (v:=v) (l:=l) (m:=l.length) (r:=r) (q:=3) h1 (.inr ⟨hst,by omega⟩)
   exact hC _ (by omega)
  ·exact((hr.2.mul (hz (k-3) (by omega))).sub ((hz (k-2) (by omega)).add (hz (k-1) (by omega)))).mono (by omega)
 exact(b1.add b2).mono (by omega)
end Go.Proofs.YtcjdedkdoagifaaGreat
set_option linter.unusedVariables false
namespace Go.Proofs.YtcjdedkdoagifaaGreat
theorem aLp {d:List aG} {f:Nat→Rat} {v:List Rat} {l:List aA} {z:Nat→Rat} {A C:Nat} (hd:∀x∈d,Bd 8 x.inv) (hn:d.length≤100) (hf:∀j,j<d.length→Bd A (f j)) (hv:uD 64 v) (hl:RsC l) (hr:InR d.length l) (hll:l.length≤100) (hz:∀k,k<off v l l.length→Bd C (z k)) (hA:A≤1000000) (hC:(2*C+20)*24*l.length≤5000000) (hC2:C≤100000000) {K:Nat} (hK:5000≤K):
  oJ K d (mp f d.length) v l (mp z (off v l l.length))=some (mp (vl v l (mp (yH d f l (pz v l z)) d.length) z) (off v l l.length)):=by
 have hp:=aF4 hz hl
 have hrb:RsB l:=fun r h=>(hl r h).1
 have hcl:(2*C+11+9)*24*l.length≤5000000:=hC
 have e1:=aF3 hv hl hz (by omega) (by omega) hK
 have e2:=aD3 (p:=pz v l z) hd (show d.length≤1000 by omega) hf hrb hr (by omega) hp (by omega) (by omega) (show 2000≤K by omega)
 have hb:=aCx (p:=pz v l z) hd hf hrb hr hp (by omega) (by omega) (by omega) (by omega)
 have e3:=aE3 (z:=z) hl hb (by unfold aGO;omega) hz hC2 (show l.length≤1000 by omega) (show 13≤K by omega) (off v l l.length) 0 K (by omega) (by have:=tE (v:=v) (l:=l) l.length;omega)
 simp only [Int.natCast_zero,aAX] at e3
 simp only [oJ,e1,oB,e2,yM hv hrb (show l.length≤1000 by omega) (show 2000≤K by omega),e3,vK]
theorem aOw {f g:Nat→Rat} {n:Nat} (t:aC):trm (mp (fun j=>f j+g j) n) t=trm (mp f n) t+trm (mp g n) t:=by
 unfold trm
 rw [bX,bX,bX]
 by_cases h:0≤t.dof∧t.dof<(n:Int)
 ·rw [decide_eq_true h]
  show t.k*qB _ _=t.k*qB _ _+t.k*qB _ _
  rw [aBx (by omega),aBx (by omega),aBx (by omega),Rat.mul_add]
 ·rw [decide_eq_false h];exact(Rat.add_zero 0).symm
theorem add4 (x y a b:Rat):x+y+(a+b)=x+a+(y+b):=by
 rw [Rat.add_assoc,←Rat.add_assoc y,Rat.add_comm y a,Rat.add_assoc a,←Rat.add_assoc]
theorem aKE {f g:Nat→Rat} {n:Nat}:∀(l:List aC) (x y:Rat),rtf (mp (fun j=>f j+g j) n) l (x+y)=rtf (mp f n) l x+rtf (mp g n) l y
 |[],x,y=>rfl
 |t::l,x,y=>by
  show rtf _ l (x+y+trm _ t)=rtf _ l (x+trm _ t)+rtf _ l (y+trm _ t)
  rw [aOw,←aKE l,add4]
theorem aJz {f g:Nat→Rat} {n:Nat} (l:List aC):rt l (mp (fun j=>f j+g j) n)=rt l (mp f n)+rt l (mp g n):=by
 have:=aKE (f:=f) (g:=g) (n:=n) l 0 0
 rwa [Rat.add_zero] at this
theorem aJt {v:List Rat} {l:List aA} {f g:Nat→Rat} {n k:Nat}:rv v l (mp (fun j=>f j+g j) n) k=rv v l (mp f n) k+rv v l (mp g n) k:=by
 unfold rv
 split
 ·exact aJz _
 ·split
  ·exact aJz _
  ·split
   ·rw [aJz,Rat.neg_add]
   ·exact(Rat.add_zero 0).symm
theorem aEW {n:Nat}:∀(l:List aC) (x:Rat),rtf (mp (fun _=>(0:Rat)) n) l x=x
 |[],x=>rfl
 |t::l,x=>by
  show rtf _ l (x+trm _ t)=x
  have:trm (mp (fun _=>(0:Rat)) n) t=0:=by
   unfold trm
   rw [bX]
   by_cases h:0≤t.dof∧t.dof<(n:Int)
   ·rw [decide_eq_true h];show t.k*qB _ _=0;rw [aBx (by omega),Rat.mul_zero]
   ·rw [decide_eq_false h];rfl
  rw [this,Rat.add_zero]
  exact aEW l x
theorem aOz {v:List Rat} {l:List aA} {n k:Nat}:rv v l (mp (fun _=>(0:Rat)) n) k=0:=by
 unfold rv rt
 rw [aEW,aEW]
 split
 ·rfl
 ·split
  ·rfl
  ·split<;>rfl
def p0:Nat→aF:=fun _=>⟨0,0⟩
def z0:Nat→Rat:=fun _=>0
theorem aDK {l:List aA} {j:Nat}:∀m,t8 l p0 m j=0
 |0=>rfl
 |m+1=>by
  show t8 l p0 m j+rcq l p0 m j=0
  rw [aDK m]
  unfold rcq
  show(0:Rat)+(cf _ _*0+cf _ _*0)=0
  rw [Rat.mul_zero,Rat.mul_zero,Rat.add_zero,Rat.add_zero]
theorem aFP {d:List aG} {f:Nat→Rat} {l:List aA} {p:Nat→aF}:yH d f l p=fun j=>yH d f l p0 j+yH d z0 l p j:=by
 funext j
 unfold yH z0
 rw [aDK,Rat.add_zero,Rat.zero_add,←Rat.add_mul]
theorem aFy {l:List aA} {p q:Nat→aF} {j:Nat}:∀m,(∀r,r<m→p r=q r)→t8 l p m j=t8 l q m j
 |0,_=>rfl
 |m+1,h=>by
  show t8 l p m j+rcq l p m j=t8 l q m j+rcq l q m j
  rw [aFy m fun r hr=>h r (by omega)]
  unfold rcq
  rw [h m (by omega)]
theorem aDI {d:List aG} {f:Nat→Rat} {l:List aA} {p q:Nat→aF} (h:∀r,r<l.length→p r=q r):yH d f l p=yH d f l q:=by
 funext j
 unfold yH
 rw [aFy _ h]
theorem aNm {d:List aG} {l:List aA}:yH d z0 l p0=fun _=>0:=by
 funext j
 unfold yH z0
 rw [aDK,Rat.add_zero,Rat.zero_mul]
theorem aJ0 {v:List Rat} {l:List aA} {i:Nat}:pz v l z0 i=⟨0,0⟩:=by
 unfold pz z0
 split
 ·rfl
 ·split
  ·rw [Rat.mul_zero,Rat.mul_zero]
  ·rw [Rat.sub_self]
theorem aOq {v:List Rat} {l:List aA} {k:Nat}:zv v l z0 k=0:=by
 unfold zv z0
 split
 ·rfl
 ·split
  ·rfl
  ·split
   ·rfl
   ·rw [Rat.mul_zero,Rat.add_zero,Rat.sub_self]
def ek (k:Nat):Nat→Rat:=kE z0 k 1
def Mf (d:List aG) (v:List Rat) (l:List aA) (i k:Nat):Rat:=rv v l (mp (yH d z0 l (pz v l (ek k))) d.length) i+zv v l (ek k) i
def qf (d:List aG) (f:Nat→Rat) (v:List Rat) (l:List aA) (i:Nat):Rat:=rv v l (mp (yH d f l p0) d.length) i
theorem aHB {d:List aG} {f:Nat→Rat} {v:List Rat} {l:List aA} {n i:Nat}:vl v l (mp (yH d f l (pz v l z0)) d.length) z0 i=qf d f v l i:=by
 unfold vl qf
 rw [aOq,Rat.add_zero,aDI (q:=p0) fun r _=>aJ0]
theorem aNy {d:List aG} {f:Nat→Rat} {v:List Rat} {l:List aA} {k i:Nat}:vl v l (mp (yH d f l (pz v l (ek k))) d.length) (ek k) i-qf d f v l i=Mf d v l i k:=by
 unfold vl qf Mf
 rw [aFP,aJt]
 generalize rv v l (mp (yH d f l p0) d.length) i=a
 generalize rv v l (mp (yH d z0 l (pz v l (ek k))) d.length) i=b
 generalize zv v l (ek k) i=c
 rw [Rat.add_assoc,Rat.sub_eq_add_neg,Rat.add_comm a,Rat.add_assoc,Rat.add_neg_cancel,Rat.add_zero]
theorem aKi {k j:Nat}:Bd 1 (ek k j):=by
 unfold ek kE z0
 split
 ·constructor<;>decide
 ·exact Bd.zero
structure ScB (d:List aG) (f v:List Rat) (l:List aA):Prop where
 sb:SB d f v l
 n8:d.length≤12
 m8:l.length≤8
 ir:InR d.length l
 fl:f.length=d.length
theorem aOu {d:List aG} {f v:List Rat} {l:List aA} (h:SB d f v l) (hm:l.length≤8) (hf:aAc d f v l=true):ScB d f v l:=by
 unfold aAc at hf
 rw [Bool.and_eq_true,Bool.and_eq_true] at hf
 have h1:=of_decide_eq_true hf.1.1
 refine⟨h,h1.1,hm,fun r hr=>?_,h1.2.1⟩
 have h2:=List.all_eq_true.1 hf.2 r hr
 unfold xE at h2
 rw [Bool.and_eq_true,Bool.and_eq_true,Bool.and_eq_true] at h2
 exact⟨aMi h2.1.1.1,aMi h2.1.1.2⟩
theorem ScB.fbd {d:List aG} {f v:List Rat} {l:List aA} (h:ScB d f v l):∀j,j<d.length→Bd 64 (qB f j):=fun j hj=>h.sb.sf _ (u8 (by rw [h.fl];exact hj))
theorem ScB.fmp {d:List aG} {f v:List Rat} {l:List aA} (h:ScB d f v l):f=mp (qB f) d.length:=by rw [←h.fl];exact aNH f
theorem bd8 {C m:Nat} (hC:C≤1) (hm:m≤8):(2*C+20)*24*m≤5000000:=Nat.le_trans (Nat.mul_le_mul (Nat.mul_le_mul_right 24 (show 2*C+20≤22 by omega)) hm) (by decide)
theorem ScB.vals {d:List aG} {f v:List Rat} {l:List aA} (h:ScB d f v l) {z:Nat→Rat} (hz:∀k,Bd 1 (z k)) {K:Nat} (hK:5000≤K):oJ K d f v l (mp z (off v l l.length))=some (mp (vl v l (mp (yH d (qB f) l (pz v l z)) d.length) z) (off v l l.length)):=by
 have h8:=h.m8
 have hn:=h.n8
 have:=aLp (z:=z) h.sb.sd (by omega) h.fbd h.sb.sv h.sb.sl h.ir (by omega) (fun k _=>hz k) (by omega) (bd8 (Nat.le_refl 1) h8) (by omega) hK
 rwa [←h.fmp] at this
theorem ScB.vbd {d:List aG} {f v:List Rat} {l:List aA} (h:ScB d f v l) {z:Nat→Rat} (hz:∀k,Bd 1 (z k)) {k:Nat} (hk:k<off v l l.length):Bd 100000 (vl v l (mp (yH d (qB f) l (pz v l z)) d.length) z k):=by
 have h8:=h.m8
 have hn:=h.n8
 have hp:=aF4 (l:=l) (v:=v) (z:=z) (C:=1) (fun k _=>hz k) h.sb.sl
 have hb:=aCx (p:=pz v l z) h.sb.sd h.fbd (fun r hr=>(h.sb.sl r hr).1) h.ir hp (by omega) (by omega) (by omega) (Nat.le_trans (bd8 (C:=1) (Nat.le_refl 1) h8) (by decide))
 exact(aRV h.sb.sl hb (fun k _=>hz k) hk).mono (by unfold aGO;omega)
theorem aMK {v:List Rat} {l:List aA} {w q:Nat→Rat} {m:Nat} (hm:m≤100) (hw:∀i,i<off v l m→Bd 100000 (w i)) (hq:∀i,i<off v l m→Bd 100000 (q i)) (K:Nat):∀(t i k:Nat),i+t=off v l m→t<k→kR K ((zL v l m).map ru) (mp q (off v l m)) (mp w (off v l m)) k (mp (fun i=>w i-q i) i) (i:Int)=some (mp (fun i=>w i-q i) (off v l m))
 |0,i,k,hi,hk=>by
  obtain⟨k',rfl,_⟩:=bB hk
  have e:i=off v l m:=by omega
  subst e
  simp only [kR,aBt,dF (show¬(off v l m:Int)<(off v l m:Int) by omega),bJ]
 |t+1,i,k,hi,hk=>by
  obtain⟨k',rfl,_⟩:=bB hk
  have hil:i<off v l m:=by omega
  have h4:=tE (v:=v) (l:=l) m
  simp only [kR,aBt,dT (show(i:Int)<(off v l m:Int) by omega),bS,eH (f:=w) hil,eH (f:=q) hil,oB,aAG (hw i hil) (hq i hil) (by omega) (by omega),apM (g:=fun i=>w i-q i) (i:=i) (by omega),m6 (i:=i) (by omega)]
  exact aMK hm hw hq K t (i+1) k' (by omega) (by omega)
theorem aEu:zK 1 1=some 1:=by rw [aHC (by omega) (by omega),aRl]
theorem aL7 {d:List aG} {f v:List Rat} {l:List aA} (h:ScB d f v l) {K:Nat} (hK:5000≤K):∀(t i k:Nat),i+t=off v l l.length→t<k→kU K d f v l ((zL v l l.length).map ru) (mp (qf d (qB f) v l) (off v l l.length)) k (mx (tr (Mf d v l)) i (off v l l.length)) (i:Int)=some (mx (tr (Mf d v l)) (off v l l.length) (off v l l.length))
 |0,i,k,hi,hk=>by
  obtain⟨k',rfl,_⟩:=bB hk
  have e:i=off v l l.length:=by omega
  rw [e]
  simp only [kU,aBt,dF (show¬(off v l l.length:Int)<(off v l l.length:Int) by omega),bJ]
 |t+1,i,k,hi,hk=>by
  obtain⟨k',rfl,_⟩:=bB hk
  have hil:i<off v l l.length:=by omega
  have h8:=h.m8
  have h4:=tE (v:=v) (l:=l) l.length
  have e1:pC (mp (fun _=>(0:Rat)) (off v l l.length)) (i:Int) 1=some (mp (ek i) (off v l l.length)):=tN (f:=z0) hil
  have e2:=aMK (v:=v) (l:=l) (m:=l.length) (w:=vl v l (mp (yH d (qB f) l (pz v l (ek i))) d.length) (ek i)) (q:=qf d (qB f) v l) (by omega) (fun j hj=>h.vbd (fun _=>aKi) hj) (fun j hj=>by rw [←aHB (n:=0)];exact h.vbd (z:=z0) (fun _=>Bd.zero) hj) K (off v l l.length) 0 K (by omega) (by omega)
  simp only [Int.natCast_zero,aAX] at e2
  have e3:mp (fun j=>vl v l (mp (yH d (qB f) l (pz v l (ek i))) d.length) (ek i) j-qf d (qB f) v l j) (off v l l.length)=mp (tr (Mf d v l) i) (off v l l.length):=cF fun j _=>aNy
  rw [e3] at e2
  have e4:pA (mx (tr (Mf d v l)) i (off v l l.length)) [mp (tr (Mf d v l) i) (off v l l.length)]=some (mx (tr (Mf d v l)) (i+1) (off v l l.length)):=apM (g:=fun i=>mp (tr (Mf d v l) i) (off v l l.length)) (by omega)
  simp only [kU,aBt,dT (show(i:Int)<(off v l l.length:Int) by omega),bS,aBb (z:=(0:Rat)) (n:=off v l l.length) (by omega),aEu,eH (f:=fun _=>(0:Rat)) hil,oB,e1,h.vals (z:=ek i) (fun _=>aKi) hK,e2,uP,e4,m6 (i:=i) (by omega)]
  exact aL7 h hK t (i+1) k' (by omega) (by omega)
theorem aSA (g:Nat→Nat→Rat):tr (tr g)=g:=rfl
theorem aIr {d:List aG} {f v:List Rat} {l:List aA} (h:ScB d f v l) (hf:aAc d f v l=true) {K:Nat} (hK:5000≤K):tP K d f v l=some (mx (Mf d v l) (off v l l.length) (off v l l.length),mp (qf d (qB f) v l) (off v l l.length)):=by
 have h8:=h.m8
 have h4:=tE (v:=v) (l:=l) l.length
 have e1:=h.vals (z:=z0) (fun _=>Bd.zero) hK
 have e2:mp (vl v l (mp (yH d (qB f) l (pz v l z0)) d.length) z0) (off v l l.length)=mp (qf d (qB f) v l) (off v l l.length):=cF fun j _=>aHB (n:=0)
 have e3:mp (fun _=>(0:Rat)) (off v l l.length)=mp z0 (off v l l.length):=rfl
 have e4:=aL7 h hK (off v l l.length) 0 K (by omega) (by omega)
 have e5:mx (tr (Mf d v l)) 0 (off v l l.length)=[]:=rfl
 rw [e5] at e4
 simp only [Int.natCast_zero] at e4
 have e6:=aMO (g:=tr (Mf d v l)) (h:=off v l l.length) (w:=off v l l.length) (fun h=>h) (by omega) (by omega) (K:=K) (by omega)
 simp only [tP,aG4 h.sb (show 200≤K by omega),hf,oB,Bool.not_true,bJ,yM h.sb.sv (fun r hr=>(h.sb.sl r hr).1) (show l.length≤1000 by omega) (show 2000≤K by omega),aBt,aBb (z:=(0:Rat)) (n:=off v l l.length) (by omega),e3,e1,e2,e4,uR,e6,aSA]
end Go.Proofs.YtcjdedkdoagifaaGreat
set_option linter.unusedVariables false
namespace Go.Proofs.YtcjdedkdoagifaaGreat
/-- The rows as they lie, and where. -/
def rsl (G:Nat→Nat→Rat) (N:Nat):List (List Rat):=[]::mx G N N
def ord (N:Nat):List Nat:=mp (fun i=>i+1) N
theorem aCn {G:Nat→Nat→Rat} {N i:Nat} (h:i<N):(rsl G N).getD (i+1) []=mp (G i) N:=by
 unfold rsl mx
 rw [List.getD_eq_getElem?_getD,List.getElem?_cons_succ,aBI h];rfl
theorem aEr {G:Nat→Nat→Rat} {N i:Nat} {f:Nat→Rat}:(rsl G N).set (i+1) (mp f N)=rsl (kE G i f) N:=by
 unfold rsl
 rw [List.set_cons_succ]
 unfold mx
 rw [aM0,aRo];rfl
theorem wE {G H:Nat→Nat→Rat} {N:Nat} (h:∀i c,i<N→c<N→G i c=H i c):rsl G N=rsl H N:=by
 unfold rsl;rw [aMT h]
theorem aRu {G:Nat→Nat→Rat} {N:Nat}:aFK (rsl G N) (ord N)=mx G N N:=by
 unfold aFK ord mp mx
 rw [List.map_map]
 unfold mp
 refine List.map_congr_left fun i hi=>?_
 exact aCn (List.mem_range.1 hi)
theorem rdO {N i:Nat} (h:i<N):bT (ord N) (i:Int)=some (i+1):=eH h
theorem aMq {v:List Rat} {l:List aA} {m:Nat} (hm:m≤100) (K:Nat):∀(t i k:Nat),i+t=off v l m→t<k→fX K ((zL v l m).map pu) (mp (fun _=>(0:Nat)) (off v l m)) k (mp (fun j=>if j<i then j+1 else 0) (off v l m)) ([]::mx (fun _=>z0) i (off v l m)) (i:Int)=some (ord (off v l m),rsl (fun _=>z0) (off v l m))
 |0,i,k,hi,hk=>by
  obtain⟨k',rfl,_⟩:=bB hk
  have e:i=off v l m:=by omega
  subst e
  simp only [fX,bX,dF (show¬(off v l m:Int)<(off v l m:Int) by omega),bJ]
  have:mp (fun j=>if j<off v l m then j+1 else 0) (off v l m)=ord (off v l m):=cF fun j hj=>if_pos hj
  rw [this];rfl
 |t+1,i,k,hi,hk=>by
  obtain⟨k',rfl,_⟩:=bB hk
  have hil:i<off v l m:=by omega
  have h4:=tE (v:=v) (l:=l) m
  have e0:([]::mx (fun _=>z0) i (off v l m)).length=i+1:=by rw [List.length_cons,vU]
  have e1:pC (mp (fun j=>if j<i then j+1 else 0) (off v l m)) (i:Int) (i+1)=some (mp (fun j=>if j<i+1 then j+1 else 0) (off v l m)):=by
   rw [tN hil]
   congr 1
   refine cF fun j _=>?_
   by_cases e:j=i
   ·subst e;rw [bD,if_pos (by omega)]
   ·rw [cP e]
    by_cases hlt:j<i
    ·rw [if_pos hlt,if_pos (by omega)]
    ·rw [if_neg hlt,if_neg (by omega)]
  have e2:([]::mx (fun _=>z0) i (off v l m))++[mp (fun _=>(0:Rat)) (off v l m)]=[]::mx (fun _=>z0) (i+1) (off v l m):=by
   show []::(mx (fun _=>z0) i (off v l m)++_)=_
   unfold mx
   rw [aEl];rfl
  simp only [fX,bX,dT (show(i:Int)<(off v l m:Int) by omega),bS,uO,aBb (z:=(0:Rat)) (n:=off v l m) (by omega),oB,eH (f:=fun j=>if j<i then j+1 else 0) hil,e0,e1,e2,m6 (i:=i) (by omega)]
  exact aMq hm K t (i+1) k' (by omega) (by omega)
theorem aLZ {g:Nat→Rat} {N i:Nat} {w:Rat} (h:i<N):gW (mp g N) (i:Int) w=some (mp (kE g i w) N):=by
 simp only [gW,eH (f:=g) h,tN (f:=g) h,oB]
theorem aQ8 {w:Nat→Rat} {N i:Nat}:mp (kE (fun j=>if j<i then w j else 0) i (w i)) N=mp (fun j=>if j<i+1 then w j else 0) N:=cF fun j _=>by
 by_cases e:j=i
 ·subst e;rw [bD,if_pos (by omega)]
 ·rw [cP e]
  by_cases hlt:j<i
  ·rw [if_pos hlt,if_pos (by omega)]
  ·rw [if_neg hlt,if_neg (by omega)]
theorem aSn {w:Nat→Rat} {N i:Nat} (h:w i=0):mp (fun j=>if j<i then w j else 0) N=mp (fun j=>if j<i+1 then w j else 0) N:=cF fun j _=>by
 by_cases e:j=i
 ·subst e;rw [if_neg (by omega),if_pos (by omega),h]
 ·by_cases hlt:j<i
  ·rw [if_pos hlt,if_pos (by omega)]
  ·rw [if_neg hlt,if_neg (by omega)]
theorem rv0 {v:List Rat} {l:List aA} {a:List Rat} {r q k:Nat} (hq:vq v l r q) (hr:r<l.length) (hk:k=off v l r+q):rv v l a k=if q=0 then rt (lE l r).j a else if q=1 then rt (lE l r).t a else if q=2 then -(rt (lE l r).t a) else 0:=by
 unfold rv;rw [hk,aDP hq hr]
theorem aNM {d:List aG} {f v a:List Rat} {l:List aA} {B:Nat} (hl:RsC l) (ha:uD B a) (hB:B≤10000000) (hn:l.length≤100) {K:Nat} (hK:13≤K):∀(t k fu:Nat),k+t=off v l l.length→t<fu→cB K a ((zL v l l.length).map pu) ⟨d,f,v,l⟩ fu (mp (fun j=>if j<k then rv v l a j else 0) (off v l l.length)) (k:Int)=some (mp (rv v l a) (off v l l.length))
 |0,k,fu,hi,hk=>by
  obtain⟨k',rfl,_⟩:=bB hk
  have e:k=off v l l.length:=by omega
  subst e
  simp only [cB,uO,dF (show¬(off v l l.length:Int)<(off v l l.length:Int) by omega),bJ]
  exact congrArg some (cF fun j hj=>if_pos hj)
 |t+1,k,fu,hi,hk=>by
  obtain⟨k',rfl,_⟩:=bB hk
  have hkl:k<off v l l.length:=by omega
  have h4:=tE (v:=v) (l:=l) l.length
  obtain⟨r,q,h1,h2,h3⟩:=uW l.length k hkl
  have hq3:=vq3 h2
  have hu:=rdU (m:=l.length) h2 h1
  rw [←h3] at hu
  have hr:=hl _ (qQ h1)
  have hrv:=rv0 (a:=a) h2 h1 h3
  have ih:=aNM (d:=d) (f:=f) (v:=v) hl ha hB hn hK t (k+1) k' (by omega) (by omega)
  have bt:=xZ ha hr.1.2
  simp only [cB,uO,dT (show(k:Int)<(off v l l.length:Int) by omega),bS,hu,oB,aB3 h1]
  have hcase:q=0∨q=1∨q=2∨q=3:=by omega
  rcases hcase with rfl|rfl|rfl|rfl
  ·have e:rv v l a k=rt (lE l r).j a:=hrv
   simp only [qT (show((0:Nat):Int)=0 from rfl),bS,wZ ha (by omega) hr.1.1 hK,oB,aLZ (g:=fun j=>if j<k then rv v l a j else 0) hkl,m6 (i:=k) (by omega)]
   rw [←e,aQ8];exact ih
  ·have e:rv v l a k=rt (lE l r).t a:=hrv
   simp only [qF (show((1:Nat):Int)≠0 by omega),qT (show((1:Nat):Int)=1 from rfl),bJ,bS,wZ ha (by omega) hr.1.2 hK,oB,aLZ (g:=fun j=>if j<k then rv v l a j else 0) hkl,m6 (i:=k) (by omega)]
   rw [←e,aQ8];exact ih
  ·have e:rv v l a k=-(rt (lE l r).t a):=hrv
   simp only [qF (show((2:Nat):Int)≠0 by omega),qF (show((2:Nat):Int)≠1 by omega),qT (show((2:Nat):Int)=2 from rfl),bJ,bS,wZ ha (by omega) hr.1.2 hK,oB,yL bt (by omega),aLZ (g:=fun j=>if j<k then rv v l a j else 0) hkl,m6 (i:=k) (by omega)]
   rw [←e,aQ8];exact ih
  ·have e:rv v l a k=0:=hrv
   simp only [qF (show((3:Nat):Int)≠0 by omega),qF (show((3:Nat):Int)≠1 by omega),qF (show((3:Nat):Int)≠2 by omega),bJ,oB,m6 (i:=k) (by omega)]
   rw [aSn e];exact ih
def adc (G:Nat→Nat→Rat) (k:Nat) (w:Nat→Rat) (t i c:Nat):Rat:=if c=k∧i<t then G i c+w i else G i c
theorem aMb {G:Nat→Nat→Rat} {N i k BG BW:Nat} {w:Rat} (hi:i<N) (hk:k<N) (hG:Bd BG (G i k)) (hw:Bd BW w) (h1:BG≤1073741824) (h2:BW≤1073741824):gS (ord N,rsl G N) (k:Int) (i:Int) w=some (ord N,rsl (kE G i (kE (G i) k (G i k+w))) N):=by
 simp only [gS,rdO hi,oB,aCn hi,eH (f:=G i) hk,xR hG hw h1 h2,tN (f:=G i) hk,aEr]
theorem aFp {G:Nat→Nat→Rat} {k t N:Nat} {w:Nat→Rat}:rsl (kE (adc G k w t) t (kE (adc G k w t t) k (adc G k w t t k+w t))) N=rsl (adc G k w (t+1)) N:=wE fun i c _ _=>by
 by_cases e:i=t
 ·subst e
  rw [bD]
  by_cases h:c=k
  ·subst h
   rw [bD]
   unfold adc
   rw [if_neg (by omega),if_pos ⟨rfl,by omega⟩]
  ·rw [cP h]
   unfold adc
   rw [if_neg (fun h2=>h h2.1),if_neg (fun h2=>h h2.1)]
 ·rw [cP e]
  unfold adc
  by_cases h:c=k∧i<t
  ·rw [if_pos h,if_pos ⟨h.1,by omega⟩]
  ·rw [if_neg h,if_neg fun h2=>h ⟨h2.1,by omega⟩]
theorem aMa {G:Nat→Nat→Rat} {k t N:Nat} {w:Nat→Rat} (h0:w t=0):rsl (adc G k w t) N=rsl (adc G k w (t+1)) N:=wE fun i c _ _=>by
 unfold adc
 by_cases h:c=k∧i<t
 ·rw [if_pos h,if_pos ⟨h.1,by omega⟩]
 ·rw [if_neg h]
  by_cases h2:c=k∧i<t+1
  ·have:i=t:=by
    by_cases e:i=t
    ·exact e
    ·exact absurd ⟨h2.1,by omega⟩ h
   rw [if_pos h2,this,h0,Rat.add_zero]
  ·rw [if_neg h2]
theorem aNx {d:List aG} {f v a:List Rat} {l:List aA} {G:Nat→Nat→Rat} {c B BG:Nat} (hl:RsC l) (ha:uD B a) (hB:B≤10000000) (hn:l.length≤100) (hc:c<off v l l.length) (hG:∀i,i<off v l l.length→Bd BG (G i c)) (hBG:BG≤1073741824) {K:Nat} (hK:13≤K):∀(t k fu:Nat),k+t=off v l l.length→t<fu→cC K a (c:Int) ((zL v l l.length).map pu) ⟨d,f,v,l⟩ fu (ord (off v l l.length)) (rsl (adc G c (rv v l a) k) (off v l l.length)) (k:Int)=some (ord (off v l l.length),rsl (adc G c (rv v l a) (off v l l.length)) (off v l l.length))
 |0,k,fu,hi,hk=>by
  obtain⟨k',rfl,_⟩:=bB hk
  have e:k=off v l l.length:=by omega
  subst e
  simp only [cC,uO,dF (show¬(off v l l.length:Int)<(off v l l.length:Int) by omega),bJ]
 |t+1,k,fu,hi,hk=>by
  obtain⟨k',rfl,_⟩:=bB hk
  have hkl:k<off v l l.length:=by omega
  have h4:=tE (v:=v) (l:=l) l.length
  obtain⟨r,q,h1,h2,h3⟩:=uW l.length k hkl
  have hq3:=vq3 h2
  have hu:=rdU (m:=l.length) h2 h1
  rw [←h3] at hu
  have hr:=hl _ (qQ h1)
  have hrv:=rv0 (a:=a) h2 h1 h3
  have ih:=aNx (d:=d) (f:=f) hl ha hB hn hc hG hBG hK t (k+1) k' (by omega) (by omega)
  have bj:=xZ ha hr.1.1
  have bt:=xZ ha hr.1.2
  have hGk:Bd BG (adc G c (rv v l a) k k c):=by unfold adc;rw [if_neg (by omega)];exact hG k hkl
  simp only [cC,uO,dT (show(k:Int)<(off v l l.length:Int) by omega),bS,hu,oB,aB3 h1]
  have hcase:q=0∨q=1∨q=2∨q=3:=by omega
  rcases hcase with rfl|rfl|rfl|rfl
  ·have e:rv v l a k=rt (lE l r).j a:=hrv
   simp only [qT (show((0:Nat):Int)=0 from rfl),bS,wZ ha (by omega) hr.1.1 hK,oB,aMb hkl hc hGk bj hBG (by omega),m6 (i:=k) (by omega)]
   rw [←e,aFp];exact ih
  ·have e:rv v l a k=rt (lE l r).t a:=hrv
   simp only [qF (show((1:Nat):Int)≠0 by omega),qT (show((1:Nat):Int)=1 from rfl),bJ,bS,wZ ha (by omega) hr.1.2 hK,oB,aMb hkl hc hGk bt hBG (by omega),m6 (i:=k) (by omega)]
   rw [←e,aFp];exact ih
  ·have e:rv v l a k=-(rt (lE l r).t a):=hrv
   simp only [qF (show((2:Nat):Int)≠0 by omega),qF (show((2:Nat):Int)≠1 by omega),qT (show((2:Nat):Int)=2 from rfl),bJ,bS,wZ ha (by omega) hr.1.2 hK,oB,yL bt (by omega),aMb hkl hc hGk bt.neg hBG (by omega),m6 (i:=k) (by omega)]
   rw [←e,aFp];exact ih
  ·have e:rv v l a k=0:=hrv
   simp only [qF (show((3:Nat):Int)≠0 by omega),qF (show((3:Nat):Int)≠1 by omega),qF (show((3:Nat):Int)≠2 by omega),bJ,oB,m6 (i:=k) (by omega)]
   rw [aMa e];exact ih
theorem aSE {d:List aG} {f v a:List Rat} {l:List aA} {G:Nat→Nat→Rat} {c B BG:Nat} (hl:RsC l) (ha:uD B a) (hB:B≤10000000) (hn:l.length≤100) (hc:c<off v l l.length) (hG:∀i,i<off v l l.length→Bd BG (G i c)) (hBG:BG≤1073741824) {K:Nat} (hK:5000≤K):cL K a (c:Int) ((zL v l l.length).map pu) ⟨d,f,v,l⟩ (ord (off v l l.length)) (rsl G (off v l l.length))=some (ord (off v l l.length),rsl (adc G c (rv v l a) (off v l l.length)) (off v l l.length)):=by
 have h4:=tE (v:=v) (l:=l) l.length
 have e:rsl (adc G c (rv v l a) 0) (off v l l.length)=rsl G (off v l l.length):=wE fun i c' _ _=>if_neg (by omega)
 have:=aNx (d:=d) (f:=f) hl ha hB hn hc hG hBG (K:=K) (by omega) (off v l l.length) 0 K (by omega) (by omega)
 rw [e] at this
 simp only [Int.natCast_zero] at this
 simp only [cL,this,oB,kI]
theorem wY {v:List Rat} {l:List aA} {r q r' q':Nat} (h:vq v l r q) (h':vq v l r' q'):ek (off v l r+q) (off v l r'+q')=if r'=r∧q'=q then 1 else 0:=by
 unfold ek
 by_cases e:r'=r∧q'=q
 ·rw [if_pos e,e.1,e.2,bD]
 ·rw [if_neg e,cP fun h3=>e (aD9 h' h h3)];rfl
theorem aJ2 {v:List Rat} {l:List aA} {z:Nat→Rat} {i:Nat} (h0:z (off v l i)=0) (h1:stk v (lE l i)=true→z (off v l i+1)=0∧z (off v l i+2)=0):pz v l z i=⟨0,0⟩:=by
 unfold pz
 rw [h0]
 split
 ·rfl
 ·rename_i ht
  split
  ·rw [Rat.mul_zero,Rat.mul_zero]
  ·rename_i hs
   have hst:stk v (lE l i)=true:=by
    unfold stk
    rw [decide_eq_true (show 0<(lE l i).t.length by omega),decide_eq_true (show(rt (lE l i).t v).num.sign=0 from Decidable.of_not_not hs)];rfl
   rw [(h1 hst).1,(h1 hst).2,Rat.sub_self]
theorem aH5 {v:List Rat} {l:List aA} {r q i:Nat} (h:vq v l r q) (hi:i≠r):pz v l (ek (off v l r+q)) i=⟨0,0⟩:=
 aJ2 (by have:=wY h (r':=i) (q':=0) (.inl rfl);rw [Nat.add_zero] at this;rw [this,if_neg fun h=>hi h.1]) fun hs=>
  ⟨by rw [wY h (.inr ⟨hs,by omega⟩),if_neg fun h=>hi h.1],by rw [wY h (.inr ⟨hs,by omega⟩),if_neg fun h=>hi h.1]⟩
theorem aNd {v:List Rat} {l:List aA} {r q:Nat} {x:aF} (h:vq v l r q) (hx:pz v l (ek (off v l r+q)) r=x):mp (kE p0 r x) l.length=mp (pz v l (ek (off v l r+q))) l.length:=cF fun i _=>by
 by_cases e:i=r
 ·rw [e,bD,hx]
 ·rw [cP e,aH5 h e];rfl
theorem aJs {v:List Rat} {r:aA} (h:stk v r=true):r.t.length≠0∧(rt r.t v).num.sign=0:=by
 unfold stk at h
 rw [Bool.and_eq_true] at h
 have h1:=of_decide_eq_true h.1
 exact⟨by omega,of_decide_eq_true h.2⟩
def bc (v:List Rat) (l:List aA) (k:Nat) (i:Nat):Rat:=zv v l (ek k) i
theorem zv0 {v:List Rat} {l:List aA} {z:Nat→Rat} {r q k:Nat} (hq:vq v l r q) (hr:r<l.length) (hk:k=off v l r+q):zv v l z k=if q=0 then 0 else if q=1 then z (k+2) else if q=2 then z (k+1) else(lE l r).mu*z (k-3)-(z (k-2)+z (k-1)):=by
 unfold zv;rw [hk,aDP hq hr]
theorem vqs {v:List Rat} {l:List aA} {r q p:Nat} (h:vq v l r q) (hq:q≠0) (hp:p≤3):vq v l r p:=by
 rcases h with h|h
 ·exact absurd h hq
 ·exact .inr ⟨h.1,hp⟩
theorem aIG {v:List Rat} {l:List aA} {r q r' q':Nat} (h:vq v l r q) (h':vq v l r' q') (hr':r'<l.length):zv v l (ek (off v l r+q)) (off v l r'+q')=if q'=0 then 0 else if q'=1 then(if r'=r∧3=q then 1 else 0) else if q'=2 then(if r'=r∧3=q then 1 else 0) else(lE l r').mu*(if r'=r∧0=q then 1 else 0)-((if r'=r∧1=q then 1 else 0)+(if r'=r∧2=q then 1 else 0)):=by
 rw [zv0 h' hr' rfl]
 have hq3:=vq3 h'
 have hcase:q'=0∨q'=1∨q'=2∨q'=3:=by omega
 rcases hcase with rfl|rfl|rfl|rfl
 ·rfl
 ·show ek _ (off v l r'+3)=_
  rw [wY h (vqs h' (by omega) (by omega))];rfl
 ·show ek _ (off v l r'+3)=_
  rw [wY h (vqs h' (by omega) (by omega))];rfl
 ·show(lE l r').mu*ek _ (off v l r'+0)-(ek _ (off v l r'+1)+ek _ (off v l r'+2))=_
  rw [wY h (vqs h' (by omega) (by omega)),wY h (vqs h' (by omega) (by omega)),wY h (vqs h' (by omega) (by omega))];rfl
theorem aEx {v:List Rat} {l:List aA} {g:Nat→Rat} {x:Rat} {r q r' q':Nat} (h:vq v l r q) (h':vq v l r' q'):kE g (off v l r+q) x (off v l r'+q')=if r'=r∧q'=q then x else g (off v l r'+q'):=by
 by_cases e:r'=r∧q'=q
 ·rw [if_pos e,e.1,e.2,bD]
 ·rw [if_neg e,cP fun h3=>e (aD9 h' h h3)]
theorem aSj {v:List Rat} {l:List aA} {r i:Nat} (hs:stk v (lE l r)=true) (hi:i<off v l l.length):bc v l (off v l r) i=kE z0 (off v l r+3) (lE l r).mu i:=by
 obtain⟨r',q',h1,h2,rfl⟩:=uW l.length i hi
 have hq3:=vq3 h2
 have:=aIG (v:=v) (l:=l) (r:=r) (q:=0) (.inl rfl) h2 h1
 rw [Nat.add_zero] at this
 unfold bc
 rw [this,aEx (.inr ⟨hs,by omega⟩) h2]
 have hcase:q'=0∨q'=1∨q'=2∨q'=3:=by omega
 rcases hcase with rfl|rfl|rfl|rfl
 ·simp [z0]
 ·simp [z0]
 ·simp [z0]
 ·by_cases e:r'=r
  ·subst e;simp [Rat.sub_eq_add_neg,Rat.add_zero,Rat.zero_add,Rat.neg_zero,Rat.mul_zero,Rat.mul_one]
  ·simp [e,z0,Rat.sub_eq_add_neg,Rat.add_zero,Rat.zero_add,Rat.neg_zero,Rat.mul_zero,Rat.mul_one]
theorem aQt {v:List Rat} {l:List aA} {r i:Nat} (hs:stk v (lE l r)=false) (hi:i<off v l l.length):bc v l (off v l r) i=0:=by
 obtain⟨r',q',h1,h2,rfl⟩:=uW l.length i hi
 have hq3:=vq3 h2
 have:=aIG (v:=v) (l:=l) (r:=r) (q:=0) (.inl rfl) h2 h1
 rw [Nat.add_zero] at this
 unfold bc
 rw [this]
 have hcase:q'=0∨q'=1∨q'=2∨q'=3:=by omega
 rcases hcase with rfl|rfl|rfl|rfl
 ·simp
 ·simp
 ·simp
 ·have e:r'≠r:=fun e=>by
   rcases h2 with h|h
   ·omega
   ·rw [e,hs] at h;exact absurd h.1 (by decide)
  simp [e,Rat.sub_eq_add_neg,Rat.add_zero,Rat.zero_add,Rat.neg_zero,Rat.mul_zero,Rat.mul_one]
theorem aTe {v:List Rat} {l:List aA} {r i:Nat} (h:vq v l r 1) (hi:i<off v l l.length):bc v l (off v l r+1) i=kE z0 (off v l r+3) (-1) i:=by
 obtain⟨r',q',h1,h2,rfl⟩:=uW l.length i hi
 have hq3:=vq3 h2
 unfold bc
 rw [aIG h h2 h1,aEx (vqs h (by omega) (by omega)) h2]
 have hcase:q'=0∨q'=1∨q'=2∨q'=3:=by omega
 rcases hcase with rfl|rfl|rfl|rfl
 ·simp [z0]
 ·simp [z0]
 ·simp [z0]
 ·by_cases e:r'=r
  ·subst e;simp [Rat.sub_eq_add_neg,Rat.add_zero,Rat.zero_add,Rat.neg_zero,Rat.mul_zero,Rat.mul_one]
  ·simp [e,z0,Rat.sub_eq_add_neg,Rat.add_zero,Rat.zero_add,Rat.neg_zero,Rat.mul_zero,Rat.mul_one]
theorem aSs {v:List Rat} {l:List aA} {r i:Nat} (h:vq v l r 2) (hi:i<off v l l.length):bc v l (off v l r+2) i=kE z0 (off v l r+3) (-1) i:=by
 obtain⟨r',q',h1,h2,rfl⟩:=uW l.length i hi
 have hq3:=vq3 h2
 unfold bc
 rw [aIG h h2 h1,aEx (vqs h (by omega) (by omega)) h2]
 have hcase:q'=0∨q'=1∨q'=2∨q'=3:=by omega
 rcases hcase with rfl|rfl|rfl|rfl
 ·simp [z0]
 ·simp [z0]
 ·simp [z0]
 ·by_cases e:r'=r
  ·subst e;simp [Rat.sub_eq_add_neg,Rat.add_zero,Rat.zero_add,Rat.neg_zero,Rat.mul_zero,Rat.mul_one]
  ·simp [e,z0,Rat.sub_eq_add_neg,Rat.add_zero,Rat.zero_add,Rat.neg_zero,Rat.mul_zero,Rat.mul_one]
theorem aR5 {v:List Rat} {l:List aA} {r i:Nat} (h:vq v l r 3) (hi:i<off v l l.length):bc v l (off v l r+3) i=kE (kE z0 (off v l r+1) 1) (off v l r+2) 1 i:=by
 obtain⟨r',q',h1,h2,rfl⟩:=uW l.length i hi
 have hq3:=vq3 h2
 unfold bc
 rw [aIG h h2 h1,aEx (vqs h (by omega) (by omega)) h2,aEx (vqs h (by omega) (by omega)) h2]
 have hcase:q'=0∨q'=1∨q'=2∨q'=3:=by omega
 rcases hcase with rfl|rfl|rfl|rfl
 ·simp [z0]
 ·by_cases e:r'=r<;>simp [e,z0]
 ·by_cases e:r'=r<;>simp [e,z0]
 ·simp [z0,Rat.sub_eq_add_neg,Rat.add_zero,Rat.zero_add,Rat.neg_zero,Rat.mul_zero,Rat.mul_one]
end Go.Proofs.YtcjdedkdoagifaaGreat
set_option linter.unusedVariables false
namespace Go.Proofs.YtcjdedkdoagifaaGreat
def aBd (G:Nat→Nat→Rat) (k:Nat) (b:Nat→Rat) (i c:Nat):Rat:=if c=k then b i else G i c
def gk (M:Nat→Nat→Rat) (k i c:Nat):Rat:=if c<k then M i c else 0
theorem aDj {M:Nat→Nat→Rat} {k:Nat}:aBd (gk M k) k z0=gk M k:=by
 funext i c
 unfold aBd gk z0
 by_cases h:c=k
 ·rw [if_pos h,if_neg (by omega)]
 ·rw [if_neg h]
theorem aOK {G:Nat→Nat→Rat} {k i:Nat} {b:Nat→Rat}:aBd G k b i k=b i:=if_pos rfl
theorem aDf {G:Nat→Nat→Rat} {k j N:Nat} {b:Nat→Rat} {x:Rat}:rsl (kE (aBd G k b) j (kE (aBd G k b j) k x)) N=rsl (aBd G k (kE b j x)) N:=wE fun i c _ _=>by
 by_cases e:i=j
 ·subst e
  rw [bD]
  by_cases h:c=k
  ·subst h;rw [bD];unfold aBd;rw [if_pos rfl,bD]
  ·rw [cP h];unfold aBd;rw [if_neg h,if_neg h]
 ·rw [cP e]
  unfold aBd
  by_cases h:c=k
  ·rw [if_pos h,if_pos h,cP e]
  ·rw [if_neg h,if_neg h]
theorem aRk {M:Nat→Nat→Rat} {k N:Nat} {b w:Nat→Rat} (h:∀i,i<N→M i k=b i+w i):rsl (adc (aBd (gk M k) k b) k w N) N=rsl (gk M (k+1)) N:=wE fun i c hi _=>by
 unfold adc aBd gk
 by_cases e:c=k
 ·subst e;rw [if_pos ⟨rfl,hi⟩,if_pos rfl,if_pos (by omega),h i hi]
 ·rw [if_neg fun h2=>e h2.1,if_neg e]
  by_cases e2:c<k
  ·rw [if_pos e2,if_pos (by omega)]
  ·rw [if_neg e2,if_neg (by omega)]
theorem aOB {M:Nat→Nat→Rat} {k N:Nat} {b:Nat→Rat} (h:∀i,i<N→M i k=b i):rsl (aBd (gk M k) k b) N=rsl (gk M (k+1)) N:=wE fun i c hi _=>by
 unfold aBd gk
 by_cases e:c=k
 ·subst e;rw [if_pos rfl,if_pos (by omega),h i hi]
 ·rw [if_neg e]
  by_cases e2:c<k
  ·rw [if_pos e2,if_pos (by omega)]
  ·rw [if_neg e2,if_neg (by omega)]
theorem aEc {d:List aG} {f v:List Rat} {l:List aA} (h:ScB d f v l) {k:Nat} (hk:k<off v l l.length) {b:Nat→Rat} (hb:∀i,i<off v l l.length→bc v l k i=b i) (hbb:∀i,Bd 8 (b i)) {K:Nat} (hK:5000≤K):
  bM K ⟨d,f,v,l⟩ (mp z0 d.length) (mp (pz v l (ek k)) l.length)=some (mp (yH d z0 l (pz v l (ek k))) d.length)∧
  cL K (mp (yH d z0 l (pz v l (ek k))) d.length) (k:Int) ((zL v l l.length).map pu) ⟨d,f,v,l⟩ (ord (off v l l.length)) (rsl (aBd (gk (Mf d v l) k) k b) (off v l l.length))=some (ord (off v l l.length),rsl (gk (Mf d v l) (k+1)) (off v l l.length)):=by
 have h8:=h.m8
 have hn:=h.n8
 have hp:=aF4 (l:=l) (v:=v) (z:=ek k) (C:=1) (fun k _=>aKi) h.sb.sl
 have hrb:RsB l:=fun r hr=>(h.sb.sl r hr).1
 have hc:(2*1+11+9)*24*l.length≤400000000:=Nat.le_trans (bd8 (C:=1) (Nat.le_refl 1) h8) (by decide)
 have hz:∀j,j<d.length→Bd 1 (z0 j):=fun j _=>Bd.zero
 have hbd:=aCx (p:=pz v l (ek k)) h.sb.sd hz hrb h.ir hp (by omega) (by omega) (by omega) hc
 refine⟨aEa (p:=pz v l (ek k)) h.sb.sd (by omega) hz hrb h.ir (by omega) hp (by omega) hc (by omega),?_⟩
 have e:=aSE (d:=d) (f:=f) (G:=aBd (gk (Mf d v l) k) k b) (c:=k) (BG:=8) h.sb.sl hbd (by unfold aGO;omega) (by omega) hk (fun i hi=>by rw [aOK];exact hbb i) (by omega) hK
 rw [e,aRk fun i hi=>?_]
 rw [←hb i hi]
 exact Rat.add_comm _ _
theorem aLe {x:List aF} (hn:x.length≤60000000000):pK x=some x:=by
 unfold pK
 rw [xL (by simp;omega)];rfl
theorem aHg {j:Nat} {x:Rat} (h:Bd 8 x):∀i,Bd 8 (kE z0 j x i):=fun i=>by
 by_cases e:i=j
 ·rw [e,bD];exact h
 ·rw [cP e];exact Bd.zero.mono (by omega)
theorem aJM:Bd 8 (-1:Rat):=(show Bd 1 (-1:Rat) by constructor<;>decide).mono (by omega)
theorem aBv:Bd 8 (1:Rat):=(show Bd 1 (1:Rat) by constructor<;>decide).mono (by omega)
theorem aJR:aAk 1=some (-1:Rat):=yL aBv (by omega)
theorem aTa {v:List Rat} {l:List aA} {r:Nat}:pz v l (ek (off v l r)) r=⟨1,if(lE l r).t.length=0 then 0 else(((-(rt (lE l r).t v).num.sign:Int):Rat)/((1:Int):Rat))*((lE l r).mu*1)⟩:=by
 have h0:ek (off v l r) (off v l r)=1:=bD
 have hv0:vq v l r 0:=.inl rfl
 unfold pz
 rw [h0]
 by_cases ht:(lE l r).t.length=0
 ·rw [if_pos ht,if_pos ht]
 ·rw [if_neg ht,if_neg ht]
  by_cases hs:(rt (lE l r).t v).num.sign=0
  ·have hst:stk v (lE l r)=true:=by
    unfold stk;rw [decide_eq_true (show 0<(lE l r).t.length by omega),decide_eq_true hs];rfl
   have e1:=wY hv0 (r':=r) (q':=1) (.inr ⟨hst,by omega⟩)
   have e2:=wY hv0 (r':=r) (q':=2) (.inr ⟨hst,by omega⟩)
   rw [Nat.add_zero] at e1 e2
   rw [if_neg (fun h=>h hs),e1,e2,hs]
   have z:((-(0:Int):Int):Rat)/((1:Int):Rat)=0:=by decide+kernel
   rw [z,Rat.zero_mul]
   simp [Rat.sub_self]
  ·rw [if_pos hs]
theorem aSY {v:List Rat} {l:List aA} {r:Nat} (h:vq v l r 1):pz v l (ek (off v l r+1)) r=⟨0,1⟩:=by
 have hst:stk v (lE l r)=true:=by rcases h with h|h;omega;exact h.1
 obtain⟨s1,s2⟩:=aJs hst
 have e0:ek (off v l r+1) (off v l r)=if r=r∧0=1 then 1 else 0:=wY h (r':=r) (q':=0) (.inl rfl)
 unfold pz
 rw [if_neg s1,if_neg (fun h=>h s2),e0,wY h (r':=r) (q':=1) h,wY h (r':=r) (q':=2) (vqs h (by omega) (by omega))]
 simp [Rat.sub_eq_add_neg,Rat.add_zero,Rat.neg_zero]
theorem aTk {v:List Rat} {l:List aA} {r:Nat} (h:vq v l r 2):pz v l (ek (off v l r+2)) r=⟨0,-1⟩:=by
 have hst:stk v (lE l r)=true:=by rcases h with h|h;omega;exact h.1
 obtain⟨s1,s2⟩:=aJs hst
 have e0:ek (off v l r+2) (off v l r)=if r=r∧0=2 then 1 else 0:=wY h (r':=r) (q':=0) (.inl rfl)
 unfold pz
 rw [if_neg s1,if_neg (fun h=>h s2),e0,wY h (r':=r) (q':=1) (vqs h (by omega) (by omega)),wY h (r':=r) (q':=2) h]
 simp [Rat.sub_eq_add_neg,Rat.zero_add]
theorem aSV {d:List aG} {v:List Rat} {l:List aA} {r i:Nat} (h:vq v l r 3):Mf d v l i (off v l r+3)=bc v l (off v l r+3) i:=by
 unfold Mf bc
 have e:∀r',r'<l.length→pz v l (ek (off v l r+3)) r'=p0 r':=fun r' _=>by
  by_cases e:r'=r
  ·subst e
   have e0:ek (off v l r'+3) (off v l r')=if r'=r'∧0=3 then 1 else 0:=wY h (r':=r') (q':=0) (.inl rfl)
   refine aJ2 (by rw [e0,if_neg (by omega)]) fun hs=>⟨?_,?_⟩
   ·rw [wY h (r':=r') (q':=1) (vqs h (by omega) (by omega)),if_neg (by omega)]
   ·rw [wY h (r':=r') (q':=2) (vqs h (by omega) (by omega)),if_neg (by omega)]
  ·exact aH5 h e
 rw [aDI e,aNm,aOz,Rat.zero_add]
theorem aEE {d:List aG} {f v:List Rat} {l:List aA} {r:aA} {x:Rat} {C:Nat} (hv:uD 64 v) (hr:RC r) (hx:Bd C x) (hC:C≤500000000) {K:Nat} (hK:13≤K):lD K ⟨d,f,v,l⟩ r x=some ((((-(rt r.t v).num.sign:Int):Rat)/((1:Int):Rat))*(r.mu*x)):=by
 have hb:=aKW (rt r.t v)
 simp only [lD,aGQ hv hr.1 hK,oB,lI (show -9223372036854775808≤-(rt r.t v).num.sign∧_ by omega),(qsg _).1,qS hr.2 hx (by omega) (by omega),qS (qsg (rt r.t v)).2 (hr.2.mul hx) (by omega) (by omega)]
theorem aKg {d:List aG} {f v:List Rat} {l:List aA} (h:ScB d f v l) {K:Nat} (hK:5000≤K):∀(t k fu:Nat),k+t=off v l l.length→t<fu→bC K ⟨d,f,v,l⟩ ((zL v l l.length).map pu) (mp p0 l.length) 1 fu (ord (off v l l.length)) (rsl (gk (Mf d v l) k) (off v l l.length)) (k:Int)=some (ord (off v l l.length),rsl (gk (Mf d v l) (off v l l.length)) (off v l l.length))
 |0,k,fu,hi,hk=>by
  obtain⟨k',rfl,_⟩:=bB hk
  have e:k=off v l l.length:=by omega
  rw [e]
  simp only [bC,uO,dF (show¬(off v l l.length:Int)<(off v l l.length:Int) by omega),bJ]
 |t+1,k,fu,hi,hk=>by
  obtain⟨k',rfl,_⟩:=bB hk
  have hkl:k<off v l l.length:=by omega
  have h8:=h.m8
  have hn:=h.n8
  have h4:=tE (v:=v) (l:=l) l.length
  obtain⟨r,q,h1,h2,h3⟩:=uW l.length k hkl
  have hq3:=vq3 h2
  have hu:=rdU (m:=l.length) h2 h1
  rw [←h3] at hu
  have hr:=h.sb.sl _ (qQ h1)
  have ih:=aKg h hK t (k+1) k' (by omega) (by omega)
  have hcl:=aLe (x:=mp p0 l.length) (by rw [bX];omega)
  have hz:wJ ((d.length:Nat):Int) (0:Rat)=some (mp z0 d.length):=aBb (by omega)
  have c3:aS ((k:Int)+3)=some ((k+3:Nat):Int):=by rw [lI (by omega)];rfl
  have hcase:q=0∨q=1∨q=2∨q=3:=by omega
  rcases hcase with rfl|rfl|rfl|rfl
  ·have hk0:k=off v l r:=h3
   have hpk:=aNd (x:=⟨1,if(lE l r).t.length=0 then 0 else(((-(rt (lE l r).t v).num.sign:Int):Rat)/((1:Int):Rat))*((lE l r).mu*1)⟩) (r:=r) h2 (by rw [Nat.add_zero];exact aTa)
   rw [Nat.add_zero,←hk0] at hpk
   have key:d8 K ⟨d,f,v,l⟩ ((zL v l l.length).map pu) (ord (off v l l.length)) (rsl (gk (Mf d v l) k) (off v l l.length)) (k:Int) ⟨(r:Int),0⟩ (lE l r) (bC K ⟨d,f,v,l⟩ ((zL v l l.length).map pu) (mp p0 l.length) 1 k') (mp (pz v l (ek k)) l.length)=some (ord (off v l l.length),rsl (gk (Mf d v l) (off v l l.length)) (off v l l.length)):=by
    cases hst:stk v (lE l r)
    ·obtain⟨a1,a2⟩:=aEc h hkl (b:=z0) (fun i hi=>by rw [hk0];exact aQt hst hi) (fun i=>Bd.zero.mono (by omega)) hK
     rw [aDj] at a2
     by_cases hk3:k+3<off v l l.length
     ·obtain⟨r',q',g1,g2,g3⟩:=uW l.length (k+3) hk3
      have hu':=rdU (m:=l.length) g2 g1
      rw [←g3] at hu'
      have hne:((r':Int)==(r:Int)&&((q':Nat):Int)==3)=false:=by
       rw [Bool.and_eq_false_iff]
       by_cases e:r'=r
       ·right
        refine qF fun e2=>?_
        rw [e] at g2
        rcases g2 with g|g
        ·omega
        ·rw [hst] at g;exact absurd g.1 (by decide)
       ·left;exact qF (by omega)
      simp only [d8,c3,oB,uO,dT (show((k+3:Nat):Int)<(off v l l.length:Int) by omega),bS,hu',hne,bJ,hz,a1,a2,m6 (i:=k) (by omega)]
      exact ih
     ·simp only [d8,c3,oB,uO,dF (show¬((k+3:Nat):Int)<(off v l l.length:Int) by omega),bJ,hz,a1,a2,m6 (i:=k) (by omega)]
      exact ih
    ·have v3:vq v l r 3:=.inr ⟨hst,by omega⟩
     have l3:=sK (v:=v) (l:=l) (m:=l.length) h1 v3
     rw [←hk0] at l3
     have hu':=rdU (m:=l.length) v3 h1
     rw [←hk0] at hu'
     obtain⟨a1,a2⟩:=aEc h hkl (b:=kE z0 (k+3) (lE l r).mu) (fun i hi=>by rw [hk0];exact aSj hst hi) (aHg hr.2) hK
     have hy:((r:Int)==(r:Int)&&((3:Nat):Int)==3)=true:=by rw [qT rfl];rfl
     have e1:=aDf (G:=gk (Mf d v l) k) (k:=k) (j:=k+3) (N:=off v l l.length) (b:=z0) (x:=(lE l r).mu)
     rw [aDj] at e1
     simp only [d8,c3,oB,uO,dT (show((k+3:Nat):Int)<(off v l l.length:Int) by omega),bS,hu',hy,rdO l3,aCn l3,eH (f:=gk (Mf d v l) k (k+3)) hkl,tN (f:=gk (Mf d v l) k (k+3)) hkl,aEr,e1,hz,a1,a2,m6 (i:=k) (by omega)]
     exact ih
   simp only [bC,uO,dT (show(k:Int)<(off v l l.length:Int) by omega),bS,hu,oB,hcl,aB3 h1,qT (show((0:Nat):Int)=0 from rfl),eH (f:=p0) h1,tN (f:=p0) h1]
   by_cases ht:(lE l r).t.length=0
   ·rw [if_pos ht] at hpk
    simp only [dF (show¬(0:Int)<((lE l r).t.length:Int) by omega),bJ]
    rw [show(⟨1,(p0 r).f⟩:aF)=⟨1,0⟩ from rfl,hpk]
    exact key
   ·rw [if_neg ht] at hpk
    simp only [dT (show(0:Int)<((lE l r).t.length:Int) by omega),bS,aEE h.sb.sv hr aBv (by omega) (show 13≤K by omega),oB,eH (f:=kE p0 r ⟨1,(p0 r).f⟩) h1,tN (f:=kE p0 r ⟨1,(p0 r).f⟩) h1,bD,aOY,hpk]
    exact key
  ·have v3:vq v l r 3:=vqs h2 (by omega) (by omega)
   have l3:=sK (v:=v) (l:=l) (m:=l.length) h1 v3
   have hj:k+2<off v l l.length:=by omega
   have hpk:=aNd (x:=⟨0,1⟩) h2 (aSY h2)
   rw [←h3] at hpk
   obtain⟨a1,a2⟩:=aEc h hkl (b:=kE z0 (k+2) (-1)) (fun i hi=>by rw [h3];exact aTe h2 hi) (aHg aJM) hK
   have e1:=aDf (G:=gk (Mf d v l) k) (k:=k) (j:=k+2) (N:=off v l l.length) (b:=z0) (x:=-1)
   rw [aDj] at e1
   have c4:aS (((k+3:Nat):Int)-1)=some ((k+2:Nat):Int):=by rw [show((k+3:Nat):Int)-1=((k+2:Nat):Int) by omega,lI (by omega)]
   have ep:(⟨(p0 r).n,1⟩:aF)=⟨0,1⟩:=rfl
   simp only [bC,uO,dT (show(k:Int)<(off v l l.length:Int) by omega),bS,hu,oB,hcl,aB3 h1,qF (show((1:Nat):Int)≠0 by omega),qT (show((1:Nat):Int)=1 from rfl),bJ,eH (f:=p0) h1,tN (f:=p0) h1,ep,hpk,c3,c4,rdO hj,aJR,aCn hj,eH (f:=gk (Mf d v l) k (k+2)) hkl,tN (f:=gk (Mf d v l) k (k+2)) hkl,aEr,e1,hz,a1,a2,m6 (i:=k) (by omega)]
   exact ih
  ·have v3:vq v l r 3:=vqs h2 (by omega) (by omega)
   have l3:=sK (v:=v) (l:=l) (m:=l.length) h1 v3
   have hj:k+1<off v l l.length:=by omega
   have hpk:=aNd (x:=⟨0,-1⟩) h2 (aTk h2)
   rw [←h3] at hpk
   obtain⟨a1,a2⟩:=aEc h hkl (b:=kE z0 (k+1) (-1)) (fun i hi=>by rw [h3];exact aSs h2 hi) (aHg aJM) hK
   have e1:=aDf (G:=gk (Mf d v l) k) (k:=k) (j:=k+1) (N:=off v l l.length) (b:=z0) (x:=-1)
   rw [aDj] at e1
   have c4:aS (((k+3:Nat):Int)-2)=some ((k+1:Nat):Int):=by rw [show((k+3:Nat):Int)-2=((k+1:Nat):Int) by omega,lI (by omega)]
   have ep:(⟨(p0 r).n,-1⟩:aF)=⟨0,-1⟩:=rfl
   simp only [bC,uO,dT (show(k:Int)<(off v l l.length:Int) by omega),bS,hu,oB,hcl,aB3 h1,qF (show((2:Nat):Int)≠0 by omega),qF (show((2:Nat):Int)≠1 by omega),qT (show((2:Nat):Int)=2 from rfl),bJ,eH (f:=p0) h1,tN (f:=p0) h1,aJR,ep,hpk,c3,c4,rdO hj,aCn hj,eH (f:=gk (Mf d v l) k (k+1)) hkl,tN (f:=gk (Mf d v l) k (k+1)) hkl,aEr,e1,hz,a1,a2,m6 (i:=k) (by omega)]
   exact ih
  ·have hj1:k-2<off v l l.length:=by omega
   have hj2:k-1<off v l l.length:=by omega
   have e1:=aDf (G:=gk (Mf d v l) k) (k:=k) (j:=k-2) (N:=off v l l.length) (b:=z0) (x:=1)
   rw [aDj] at e1
   have e2:=aDf (G:=gk (Mf d v l) k) (k:=k) (j:=k-1) (N:=off v l l.length) (b:=kE z0 (k-2) 1) (x:=1)
   have e3:rsl (aBd (gk (Mf d v l) k) k (kE (kE z0 (k-2) 1) (k-1) 1)) (off v l l.length)=rsl (gk (Mf d v l) (k+1)) (off v l l.length):=aOB fun i hi=>by
    rw [h3,aSV h2,aR5 h2 hi];rfl
   have c1:aS (((k+1:Nat):Int)-3)=some ((k-2:Nat):Int):=by rw [show((k+1:Nat):Int)-3=((k-2:Nat):Int) by omega,lI (by omega)]
   have c2:aS ((k:Int)+2)=some ((k+2:Nat):Int):=by rw [lI (by omega)];rfl
   have c4:aS (((k+2:Nat):Int)-3)=some ((k-1:Nat):Int):=by rw [show((k+2:Nat):Int)-3=((k-1:Nat):Int) by omega,lI (by omega)]
   simp only [bC,uO,dT (show(k:Int)<(off v l l.length:Int) by omega),bS,hu,oB,hcl,aB3 h1,qF (show((3:Nat):Int)≠0 by omega),qF (show((3:Nat):Int)≠1 by omega),qF (show((3:Nat):Int)≠2 by omega),qT (show((3:Nat):Int)=3 from rfl),bJ,m6 (i:=k) (by omega),c1,c2,c4,rdO hj1,rdO hj2,aCn hj1,eH (f:=gk (Mf d v l) k (k-2)) hkl,tN (f:=gk (Mf d v l) k (k-2)) hkl,aEr,e1,aCn hj2,eH (f:=aBd (gk (Mf d v l) k) k (kE z0 (k-2) 1) (k-1)) hkl,tN (f:=aBd (gk (Mf d v l) k) k (kE z0 (k-2) 1) (k-1)) hkl,e2,e3]
   exact ih
theorem aHP {d:List aG} {f v:List Rat} {l:List aA} (h:ScB d f v l) {K:Nat} (hK:5000≤K):nK K ⟨d,f,v,l⟩=some (mx (Mf d v l) (off v l l.length) (off v l l.length),mp (qf d (qB f) v l) (off v l l.length)):=by
 have h8:=h.m8
 have hn:=h.n8
 have h4:=tE (v:=v) (l:=l) l.length
 have hrb:RsB l:=fun r hr=>(h.sb.sl r hr).1
 have e1:=aMq (v:=v) (l:=l) (m:=l.length) (by omega) K (off v l l.length) 0 K (by omega) (by omega)
 have e2:mp (fun j=>if j<0 then j+1 else 0) (off v l l.length)=mp (fun _=>(0:Nat)) (off v l l.length):=cF fun j _=>if_neg (by omega)
 rw [e2] at e1
 have e3:([]::mx (fun _=>z0) 0 (off v l l.length):List (List Rat))=[[]]:=rfl
 rw [e3] at e1
 simp only [Int.natCast_zero] at e1
 have hc:(1+9)*24*l.length≤400000000:=by omega
 have hp0:PB' 1 l.length p0:=fun r _=>⟨Bd.zero,Bd.zero⟩
 have e4:=aEa (f0:=f) (v0:=v) (p:=p0) h.sb.sd (show d.length≤1000 by omega) h.fbd hrb h.ir (by omega) hp0 (by omega) hc (show 2000≤K by omega)
 rw [←h.fmp] at e4
 have hb:=aCx (p:=p0) h.sb.sd h.fbd hrb h.ir hp0 (by omega) (by omega) (by omega) hc
 have e5:=aNM (d:=d) (f:=f) (v:=v) h.sb.sl hb (by unfold aGO;omega) (by omega) (show 13≤K by omega) (off v l l.length) 0 K (by omega) (by omega)
 have e6:mp (fun j=>if j<0 then rv v l (mp (yH d (qB f) l p0) d.length) j else 0) (off v l l.length)=mp (fun _=>(0:Rat)) (off v l l.length):=cF fun j _=>if_neg (by omega)
 rw [e6] at e5
 simp only [Int.natCast_zero] at e5
 have e7:=aKg h hK (off v l l.length) 0 K (by omega) (by omega)
 have e8:rsl (gk (Mf d v l) 0) (off v l l.length)=rsl (fun _=>z0) (off v l l.length):=wE fun i c _ _=>if_neg (by omega)
 rw [e8] at e7
 simp only [Int.natCast_zero] at e7
 have e9:rsl (gk (Mf d v l) (off v l l.length)) (off v l l.length)=rsl (Mf d v l) (off v l l.length):=wE fun i c _ hc=>if_pos hc
 rw [e9] at e7
 simp only [nK,aDO h.sb.sv hrb (show l.length≤1000 by omega) (show 2000≤K by omega),oB,uO,aBb (z:=(0:Nat)) (n:=off v l l.length) (by omega),aBb (z:=(0:Rat)) (n:=off v l l.length) (by omega),e1,nH,aBb (z:=(⟨0,0⟩:aF)) (n:=l.length) (by omega),show mp (fun _=>(⟨0,0⟩:aF)) l.length=mp p0 l.length from rfl,e4,mS,e5,kG,aEu,e7,mQ,aRu]
 rfl
end Go.Proofs.YtcjdedkdoagifaaGreat
set_option linter.unusedVariables false
namespace Go.Proofs.YtcjdedkdoagifaaGreat
/-- A number that is whole when it is multiplied so often. -/
def dn (D e M:Nat) (x:Rat):Prop:=isZ M (x*((D^e:Nat):Rat))
theorem dn.mono {D e M N:Nat} {x:Rat} (h:dn D e M x) (hn:M≤N):dn D e N x:=isZ.mono h hn
theorem dn.zero {D e M:Nat}:dn D e M 0:=⟨0,by rw [Rat.zero_mul];rfl,Nat.zero_le _⟩
theorem dn.add {D e M N:Nat} {x y:Rat} (h:dn D e M x) (k:dn D e N y):dn D e (M+N) (x+y):=by
 unfold dn;rw [Rat.add_mul];exact isZ.add h k
theorem dn.neg {D e M:Nat} {x:Rat} (h:dn D e M x):dn D e M (-x):=by
 obtain⟨q,h1,h2⟩:=h
 exact⟨-q,by rw [Rat.neg_mul,h1,Rat.intCast_neg],by omega⟩
theorem dn.mul {D e e' M N:Nat} {x y:Rat} (h:dn D e M x) (k:dn D e' N y):dn D (e+e') (M*N) (x*y):=by
 have:=isZ.mul h k
 unfold dn
 rw [Nat.pow_add,Rat.natCast_mul]
 have e2:x*y*(((D^e:Nat):Rat)*((D^e':Nat):Rat))=x*((D^e:Nat):Rat)*(y*((D^e':Nat):Rat)):=by
  rw [Rat.mul_assoc,←Rat.mul_assoc y,Rat.mul_comm y,Rat.mul_assoc ((D^e:Nat):Rat),←Rat.mul_assoc]
 rw [e2];exact this
theorem dn.up {D e M:Nat} {x:Rat} (h:dn D e M x):dn D (e+1) (M*D) x:=by
 have h1:dn D 1 D 1:=⟨(D:Int),by rw [Rat.one_mul,Nat.pow_one];rfl,by simp⟩
 have:=h.mul h1
 rwa [Rat.mul_one] at this
structure DD (D:Nat) (d:List aG) (f:Nat→Rat) (l:List aA):Prop where
 pos:1≤D
 inv:∀x∈d,dn D 1 (256*D) x.inv
 fl:∀j,j<d.length→dn D 1 (256*D) (f j)
 tj:∀r∈l,∀t∈r.j,dn D 1 (256*D) t.k
 tt:∀r∈l,∀t∈r.t,dn D 1 (256*D) t.k
 mu:∀r∈l,dn D 1 (256*D) r.mu
theorem aMM {D M:Nat} {j:Nat}:∀(l:List aC),(∀t∈l,dn D 1 M t.k)→dn D 1 (l.length*M) (cf l j)
 |[],_=>dn.zero
 |t::l,h=>by
  have h1:=aMM (j:=j) l fun t ht=>h t (List.mem_cons_of_mem _ ht)
  show dn D 1 ((l.length+1)*M) ((if t.dof=(j:Int) then t.k else 0)+cf l j)
  rw [Nat.succ_mul,Nat.add_comm]
  refine dn.add ?_ h1
  split
  ·exact h t List.mem_cons_self
  ·exact dn.zero
theorem aK4 {D M e P:Nat} {l:List aA} {p:Nat→aF} {j:Nat} (hj:∀r∈l,∀t∈r.j,dn D 1 M t.k) (ht:∀r∈l,∀t∈r.t,dn D 1 M t.k) (hl:RsB l) (hp:∀r,r<l.length→dn D e P (p r).n∧dn D e P (p r).f):∀m,m≤l.length→dn D (1+e) (m*(24*M*P)) (t8 l p m j)
 |0,_=>dn.zero
 |m+1,hm=>by
  have h1:=aK4 (j:=j) hj ht hl hp m (by omega)
  have hr:=qQ (l:=l) (i:=m) (by omega)
  obtain⟨p1,p2⟩:=hp m (by omega)
  have c1:=(aMM (j:=j) (lE l m).j (hj _ hr)).mono (Nat.mul_le_mul_right M (hl _ hr).1.1)
  have c2:=(aMM (j:=j) (lE l m).t (ht _ hr)).mono (Nat.mul_le_mul_right M (hl _ hr).2.1)
  have h2:=(c1.mul p1).add (c2.mul p2)
  show dn D (1+e) _ (t8 l p m j+rcq l p m j)
  rw [Nat.succ_mul]
  exact h1.add (h2.mono (by rw [←Nat.add_mul,←Nat.add_mul];exact Nat.le_refl _))
theorem aNi {D M e A n:Nat} {a:Nat→Rat} (ha:∀j,j<n→dn D e A (a j)):∀(l:List aC) (x:Rat) (X:Nat),(∀t∈l,dn D 1 M t.k)→dn D (1+e) X x→dn D (1+e) (X+l.length*(M*A)) (rtf (mp a n) l x)
 |[],x,X,_,hx=>hx.mono (by simp)
 |t::l,x,X,h,hx=>by
  have h1:dn D (1+e) (M*A) (trm (mp a n) t):=by
   unfold trm
   rw [bX]
   by_cases hc:0≤t.dof∧t.dof<(n:Int)
   ·rw [decide_eq_true hc]
    show dn D (1+e) _ (t.k*qB _ _)
    rw [aBx (by omega)]
    exact(h t List.mem_cons_self).mul (ha _ (by omega))
   ·rw [decide_eq_false hc];exact dn.zero
  have:=aNi ha l (x+trm (mp a n) t) (X+M*A) (fun t ht=>h t (List.mem_cons_of_mem _ ht)) (hx.add h1)
  refine this.mono ?_
  rw [List.length_cons,Nat.succ_mul];omega
theorem aP5 {D M e A n:Nat} {a:Nat→Rat} (ha:∀j,j<n→dn D e A (a j)) {l:List aC} (hl:l.length≤12) (h:∀t∈l,dn D 1 M t.k):dn D (1+e) (12*(M*A)) (rt l (mp a n)):=
 (aNi ha l 0 0 h dn.zero).mono (by rw [Nat.zero_add];exact Nat.mul_le_mul_right _ hl)
theorem aPR {D e A n k:Nat} {d:List aG} {f:Nat→Rat} {v:List Rat} {l:List aA} {a:Nat→Rat} (h:DD D d f l) (hl:RsB l) (ha:∀j,j<n→dn D e A (a j)) (hk:k<off v l l.length):dn D (1+e) (12*(256*D*A)) (rv v l (mp a n) k):=by
 obtain⟨r,q,h1,h2,h3⟩:=uW l.length k hk
 have hr:=qQ h1
 have bj:=aP5 ha (hl _ hr).1.1 (h.tj _ hr)
 have bt:=aP5 ha (hl _ hr).2.1 (h.tt _ hr)
 rw [rv0 h2 h1 h3]
 split
 ·exact bj
 ·split
  ·exact bt
  ·split
   ·exact bt.neg
   ·exact dn.zero
theorem aGl {D k j:Nat}:dn D 0 1 (ek k j):=by
 unfold ek kE z0
 split
 ·exact⟨1,by rw [Rat.one_mul];rfl,by decide⟩
 ·exact dn.zero
theorem aSa {D:Nat} {d:List aG} {f:Nat→Rat} {v:List Rat} {l:List aA} (h:DD D d f l) {k r:Nat} (hr:r<l.length):dn D 1 (512*D) (pz v l (ek k) r).n∧dn D 1 (512*D) (pz v l (ek k) r).f:=by
 have h0:dn D 1 (1*D) (ek k (off v l r)):=aGl.up
 have hD:=h.pos
 unfold pz
 split
 ·exact⟨h0.mono (by omega),dn.zero⟩
 ·split
  ·refine⟨h0.mono (by omega),?_⟩
   have hb:=aKW (rt (lE l r).t v)
   have c:dn D 0 1 (((-(rt (lE l r).t v).num.sign:Int):Rat)/((1:Int):Rat)):=⟨-(rt (lE l r).t v).num.sign,by
    rw [Rat.div_def,show(((1:Int):Rat))⁻¹=1 by decide+kernel,Nat.pow_zero,Rat.mul_one];exact Rat.mul_one _,by omega⟩
   have:=c.mul ((h.mu _ (qQ hr)).mul (aGl (D:=D) (k:=k) (j:=off v l r)))
   exact this.mono (by omega)
  ·refine⟨h0.mono (by omega),?_⟩
   have:=(aGl (D:=D) (k:=k) (j:=off v l r+1)).add (aGl (D:=D) (k:=k) (j:=off v l r+2)).neg
   rw [←Rat.sub_eq_add_neg] at this
   exact this.up.mono (by omega)
theorem aNB {D e P m:Nat} {d:List aG} {f g:Nat→Rat} {l:List aA} {p:Nat→aF} (h:DD D d f l) (hl:RsB l) (hm:l.length≤m) {X:Nat} (hg:∀j,j<d.length→dn D (1+e) X (g j)) (hp:∀r,r<l.length→dn D e P (p r).n∧dn D e P (p r).f):∀j,j<d.length→dn D (1+e+1) ((X+m*(24*(256*D)*P))*(256*D)) (yH d g l p j):=fun j hj=>
 ((hg j hj).add ((aK4 h.tj h.tt hl hp l.length (Nat.le_refl _)).mono (Nat.mul_le_mul_right _ hm))).mul (h.inv _ (aCN hj))
theorem aSP {D k i:Nat} {d:List aG} {f:Nat→Rat} {v:List Rat} {l:List aA} (h:DD D d f l) (hi:i<off v l l.length):dn D 1 (300*D) (zv v l (ek k) i):=by
 obtain⟨r,q,h1,h2,h3⟩:=uW l.length i hi
 have hD:=h.pos
 have u:∀j,dn D 1 (1*D) (ek k j):=fun j=>aGl.up
 rw [zv0 h2 h1 h3]
 split
 ·exact dn.zero
 ·split
  ·exact(u _).mono (by omega)
  ·split
   ·exact(u _).mono (by omega)
   ·have:=((h.mu _ (qQ h1)).mul (aGl (D:=D) (k:=k) (j:=i-3))).add ((u (i-2)).add (u (i-1))).neg
    rw [←Rat.sub_eq_add_neg] at this
    exact this.mono (by omega)
theorem four {D:Nat}:12*(256*D*((0+5*(24*(256*D)*(512*D)))*(256*D)))+300*D*D*D*D≤2^50*(D*D*D*D):=by
 have e:12*(256*D*((0+5*(24*(256*D)*(512*D)))*(256*D)))=(12*256*5*24*256*512*256)*(D*D*D*D):=by
  rw [Nat.zero_add]
  simp only [Nat.mul_assoc,Nat.mul_left_comm,Nat.mul_comm]
 have e2:300*D*D*D*D=300*(D*D*D*D):=by simp only [Nat.mul_assoc]
 rw [e,e2]
 generalize D*D*D*D=x
 omega
theorem aR0 {D:Nat} {d:List aG} {f:Nat→Rat} {v:List Rat} {l:List aA} (h:DD D d f l) (hl:RsB l) (hm:l.length≤5) {i k:Nat} (hi:i<off v l l.length):dn D 4 (2^50*(D*D*D*D)) (Mf d v l i k):=by
 have a:=aNB (e:=1) (g:=z0) (X:=0) h hl hm (fun j _=>dn.zero) (fun r hr=>aSa (v:=v) (k:=k) h hr)
 have r:=aPR (v:=v) h hl a hi
 have z:=(aSP (k:=k) h hi).up.up.up
 exact(r.add z).mono four
end Go.Proofs.YtcjdedkdoagifaaGreat
set_option linter.unusedVariables false
namespace Go.Proofs.YtcjdedkdoagifaaGreat
theorem aOf (x:Rat):x*((x.den:Nat):Rat)=(x.num:Rat):=by
 have h:((x.den:Nat):Rat)≠0:=fun e=>x.den_nz (by exact_mod_cast e)
 have e:x=(x.num:Rat)/((x.den:Nat):Rat):=by
  conv=>lhs;rw [←Rat.num_divInt_den x,Rat.divInt_eq_div]
  rfl
 conv=>lhs;lhs;rw [e]
 exact Rat.div_mul_cancel h
theorem aKm:∀xs:List Rat,(∀x∈xs,Bd 8 x)→∃D:Nat,1≤D∧D≤256^xs.length∧∀x∈xs,dn D 1 (256*D) x
 |[],_=>⟨1,Nat.le_refl _,Nat.le_refl _,fun x h=>absurd h List.not_mem_nil⟩
 |x::xs,h=>by
  obtain⟨D,h1,h2,h3⟩:=aKm xs fun y hy=>h y (List.mem_cons_of_mem _ hy)
  obtain⟨b1,b2⟩:=h x List.mem_cons_self
  have hp:=x.den_pos
  have hle:D*x.den≤256^(xs.length+1):=by
   rw [Nat.pow_succ];exact Nat.mul_le_mul h2 (by omega)
  refine⟨D*x.den,Nat.mul_pos h1 hp,hle,fun y hy=>?_⟩
  rcases List.mem_cons.1 hy with rfl|hy
  ·refine⟨y.num*D,?_,?_⟩
   ·rw [Nat.pow_one,Rat.natCast_mul,Rat.mul_comm (D:Rat),←Rat.mul_assoc,aOf,Rat.intCast_mul];rfl
   ·rw [Int.natAbs_mul,Int.natAbs_natCast]
    refine Nat.le_trans (Nat.mul_le_mul_right D (show y.num.natAbs≤256 by omega)) ?_
    exact Nat.mul_le_mul_left 256 (Nat.le_mul_of_pos_right D hp)
  ·obtain⟨q,q1,q2⟩:=h3 y hy
   refine⟨q*x.den,?_,?_⟩
   ·rw [Nat.pow_one] at q1 ⊢
    rw [Rat.natCast_mul,←Rat.mul_assoc,q1,Rat.intCast_mul];rfl
   ·rw [Int.natAbs_mul,Int.natAbs_natCast,←Nat.mul_assoc]
    exact Nat.mul_le_mul_right _ q2
def aLz (r:aA):List Rat:=r.mu::(r.j.map (·.k)++r.t.map (·.k))
def aL4 (d:List aG) (f:Nat→Rat) (l:List aA):List Rat:=d.map (·.inv)++mp f d.length++l.flatMap aLz
theorem aNA {r:aA} (h:RB r):(aLz r).length≤25:=by
 have h1:=h.1.1
 have h2:=h.2.1
 unfold aLz
 simp only [List.length_cons,List.length_append,List.length_map]
 omega
theorem aGm:∀l:List aA,RsB l→(l.flatMap aLz).length≤25*l.length
 |[],_=>Nat.le_refl _
 |r::l,h=>by
  have h1:=aGm l fun x hx=>h x (List.mem_cons_of_mem _ hx)
  have h2:=aNA (h r List.mem_cons_self)
  rw [List.flatMap_cons,List.length_append,List.length_cons]
  omega
theorem aSR {d:List aG} {f:Nat→Rat} {l:List aA} (hd:∀x∈d,Bd 8 x.inv) (hn:d.length≤12) (hf:∀j,j<d.length→Bd 8 (f j)) (hl:RsC l) (hm:l.length≤5):∃D,DD D d f l∧D≤256^149:=by
 have hrb:RsB l:=fun r hr=>(hl r hr).1
 obtain⟨D,h1,h2,h3⟩:=aKm (aL4 d f l) fun x hx=>by
  unfold aL4 at hx
  rcases List.mem_append.1 hx with hx|hx
  ·rcases List.mem_append.1 hx with hx|hx
   ·obtain⟨y,hy,rfl⟩:=List.mem_map.1 hx
    exact hd y hy
   ·exact aBy hf x hx
  ·obtain⟨r,hr,hx⟩:=List.mem_flatMap.1 hx
   unfold aLz at hx
   rcases List.mem_cons.1 hx with rfl|hx
   ·exact(hl r hr).2
   ·rcases List.mem_append.1 hx with hx|hx
    ·obtain⟨t,ht,rfl⟩:=List.mem_map.1 hx
     exact(hl r hr).1.1.2 t ht
    ·obtain⟨t,ht,rfl⟩:=List.mem_map.1 hx
     exact(hl r hr).1.2.2 t ht
 have hlen:(aL4 d f l).length≤149:=by
  have:=aGm l hrb
  unfold aL4
  simp only [List.length_append,List.length_map,bX]
  omega
 have inR:∀r∈l,∀x∈aLz r,x∈aL4 d f l:=fun r hr x hx=>List.mem_append.2 (.inr (List.mem_flatMap.2 ⟨r,hr,hx⟩))
 refine⟨D,⟨h1,fun x hx=>h3 _ (List.mem_append.2 (.inl (List.mem_append.2 (.inl (List.mem_map.2 ⟨x,hx,rfl⟩))))),fun j hj=>h3 _ (List.mem_append.2 (.inl (List.mem_append.2 (.inr (List.mem_map.2 ⟨j,List.mem_range.2 hj,rfl⟩))))),fun r hr t ht=>h3 _ (inR r hr _ ?_),fun r hr t ht=>h3 _ (inR r hr _ ?_),fun r hr=>h3 _ (inR r hr _ List.mem_cons_self)⟩,Nat.le_trans h2 (Nat.pow_le_pow_right (by omega) hlen)⟩
 ·exact List.mem_cons_of_mem _ (List.mem_append.2 (.inl (List.mem_map.2 ⟨t,ht,rfl⟩)))
 ·exact List.mem_cons_of_mem _ (List.mem_append.2 (.inr (List.mem_map.2 ⟨t,ht,rfl⟩)))
def uS (M:Nat→Nat→Rat) (q:Nat→Rat) (n i c:Nat):Rat:=
 if c<n then(if i=c then 1 else 0) else if c<2*n then -(M i (c-n)) else if c=2*n then -1 else q i
theorem aMr {M:Nat→Nat→Rat} {q:Nat→Rat} {n:Nat}:TI n (2*n+2) (uS M q n) (uS M q n) (fun j=>j):=TI.start (by omega) fun i j hi hj=>if_pos hj
theorem aRt {D e:Nat} (h:1≤D):dn D e (D^e) 1:=⟨((D^e:Nat):Int),by rw [Rat.one_mul];rfl,by simp⟩
theorem aR3 {D:Nat} {d:List aG} {f:Nat→Rat} {v:List Rat} {l:List aA} (h:DD D d f l) (hl:RsB l) (hm:l.length≤5) {i:Nat} (hi:i<off v l l.length):dn D 4 (2^50*(D*D*D*D)) (qf d f v l i):=by
 have a:=aNB (e:=0) (g:=f) (P:=0) (p:=p0) h hl hm h.fl (fun r hr=>⟨dn.zero,dn.zero⟩)
 have r:=(aPR (v:=v) h hl a hi).up
 refine r.mono ?_
 have e:12*(256*D*((256*D+5*(24*(256*D)*0))*(256*D)))*D=(12*256*256*256)*(D*D*D*D):=by
  simp only [Nat.mul_zero,Nat.add_zero]
  simp only [Nat.mul_assoc,Nat.mul_left_comm,Nat.mul_comm]
 rw [e]
 generalize D*D*D*D=x
 omega
theorem aQs {D:Nat} {d:List aG} {f:Nat→Rat} {v:List Rat} {l:List aA} (h:DD D d f l) (hl:RsB l) (hm:l.length≤5) {i c:Nat} (hi:i<off v l l.length):dn D 4 (2^50*(D*D*D*D)) (uS (Mf d v l) (qf d f v l) (off v l l.length) i c):=by
 have hD:=h.pos
 have o:dn D 4 (2^50*(D*D*D*D)) (1:Rat):=(aRt hD).mono (by
  have:D^4=D*D*D*D:=by simp [Nat.pow_succ]
  rw [this]
  generalize D*D*D*D=x
  omega)
 unfold uS
 split
 ·split
  ·exact o
  ·exact dn.zero
 ·split
  ·exact(aR0 h hl hm hi).neg
  ·split
   ·exact o.neg
   ·exact aR3 h hl hm hi
end Go.Proofs.YtcjdedkdoagifaaGreat
set_option linter.unusedVariables false
namespace Go.Proofs.YtcjdedkdoagifaaGreat
/-- The rows of a tableau as they lie. -/
structure aA2 (n w:Nat) (rs:List (List Rat)) (od:Nat→Nat) (T:Nat→Nat→Rat):Prop where
 lt:∀i,i<n→od i<rs.length
 inj:∀i j,i<n→j<n→od i=od j→i=j
 row:∀i,i<n→rs.getD (od i) []=mp (T i) w
def p5 (n j:Nat):Nat:=if j=0 then 2*n+1 else j-1
def lx (T:Nat→Nat→Rat) (n i:Nat) (c:Rat) (k:Nat) (d:Rat):Nat→Nat→Bool
 |0,_=>false
 |t+1,j=>bif decide (T i (p5 n j)/c=T k (p5 n j)/d) then lx T n i c k d t (j+1) else decide (T i (p5 n j)/c<T k (p5 n j)/d)
def les (T:Nat→Nat→Rat) (n i:Nat) (c:Rat) (k:Nat) (d:Rat):Bool:=lx T n i c k d (n+1) 0
theorem aBU {m k:Nat} {a b:Rat} (ha:Bd m a) (hb:Bd k b) (hm:m≤1073741824) (hk:k≤1073741824):aC8 a b=some (if a<b then -1 else if b<a then 1 else 0):=by
 unfold aC8;rw [ha.qs hm,hb.qs hk];rfl
theorem aDn {a b:Rat}:((if a<b then -1 else if b<a then 1 else 0:Int)=0↔a=b)∧decide ((if a<b then -1 else if b<a then 1 else 0:Int)<0)=decide (a<b):=by
 by_cases h:a<b
 ·rw [if_pos h]
  refine⟨⟨fun h2=>absurd h2 (by decide),fun h2=>?_⟩,by rw [decide_eq_true h];rfl⟩
  rw [h2] at h;exact absurd h (Rat.lt_irrefl)
 ·rw [if_neg h]
  by_cases h2:b<a
  ·rw [if_pos h2]
   refine⟨⟨fun h3=>absurd h3 (by decide),fun h3=>?_⟩,by rw [decide_eq_false h];rfl⟩
   rw [h3] at h2;exact absurd h2 (Rat.lt_irrefl)
  ·rw [if_neg h2]
   exact⟨⟨fun _=>Rat.le_antisymm (Rat.not_lt.1 h2) (Rat.not_lt.1 h),fun _=>rfl⟩,by rw [decide_eq_false h];rfl⟩
theorem aJO {n j:Nat} (h:j≤n):p5 n j<2*n+2:=by unfold p5;split<;>omega
theorem aGC {n:Nat} {rs:List (List Rat)} {od:Nat→Nat} {T:Nat→Nat→Rat} (hr:aA2 n (2*n+2) rs od T) {B C:Nat} (hT:Bdx n (2*n+2) B T) {i k:Nat} (hi:i<n) (hk:k<n) {c d:Rat} (hc:Bd C c) (hd:Bd C d) (hBC:B+C≤500000000) (hn:n≤1000) (K:Nat):
  ∀(t j fu:Nat),j+t=n+1→t<fu→a9 K (i:Int) c (k:Int) d (n:Int) (mp od n) rs fu ((j:Int)-1)=some (.ret (lx T n i c k d t j))∨(lx T n i c k d t j=false∧a9 K (i:Int) c (k:Int) d (n:Int) (mp od n) rs fu ((j:Int)-1)=some (.go ()))
 |0,j,fu,hj,hf=>by
  obtain⟨fu',rfl,_⟩:=bB hf
  refine .inr ⟨rfl,?_⟩
  simp only [a9,dF (show¬(j:Int)-1<(n:Int) by omega),bJ]
 |t+1,j,fu,hj,hf=>by
  obtain⟨fu',rfl,_⟩:=bB hf
  have hl:=aJO (n:=n) (j:=j) (by omega)
  have b1:=(hT i _ hi hl).div hc
  have b2:=(hT k _ hk hl).div hd
  have ih:=aGC hr hT hi hk hc hd hBC hn K t (j+1) fu' (by omega) (by omega)
  have key:eD K (i:Int) c (k:Int) d (mp od n) rs ((j:Int)-1) (a9 K (i:Int) c (k:Int) d (n:Int) (mp od n) rs fu') ((p5 n j:Nat):Int)=bif decide (T i (p5 n j)/c=T k (p5 n j)/d) then a9 K (i:Int) c (k:Int) d (n:Int) (mp od n) rs fu' (((j+1:Nat):Int)-1) else some (.ret (decide (T i (p5 n j)/c<T k (p5 n j)/d))):=by
   simp only [eD,eH (f:=od) hi,eH (f:=od) hk,oB,hr.row i hi,hr.row k hk,eH (f:=T i) hl,eH (f:=T k) hl,aBQ (hT i _ hi hl) hc (by omega) (by omega),aBQ (hT k _ hk hl) hd (by omega) (by omega),aBU b1 b2 (by omega) (by omega)]
   by_cases h:T i (p5 n j)/c=T k (p5 n j)/d
   ·rw [nF (aDn.1.2 h),bJ,decide_eq_true h,bS,lI (by omega),oB]
    congr 1
    omega
   ·rw [nT (fun h2=>h (aDn.1.1 h2)),bS,decide_eq_false h,bJ,aDn.2]
  have main:a9 K (i:Int) c (k:Int) d (n:Int) (mp od n) rs (fu'+1) ((j:Int)-1)=bif decide (T i (p5 n j)/c=T k (p5 n j)/d) then a9 K (i:Int) c (k:Int) d (n:Int) (mp od n) rs fu' (((j+1:Nat):Int)-1) else some (.ret (decide (T i (p5 n j)/c<T k (p5 n j)/d))):=by
   rw [←key]
   by_cases h0:j=0
   ·subst h0
    have c1:aS (2*(n:Int))=some (2*(n:Int)):=lI (by omega)
    have c2:aS (2*(n:Int)+1)=some ((p5 n 0:Nat):Int):=by
     rw [lI (by omega)];congr 1
    simp only [a9,dT (show((0:Nat):Int)-1<(n:Int) by omega),bS,dT (show((0:Nat):Int)-1<0 by omega),c1,c2,oB]
   ·have e:((p5 n j:Nat):Int)=(j:Int)-1:=by unfold p5;rw [if_neg h0];omega
    rw [e]
    simp only [a9,dT (show(j:Int)-1<(n:Int) by omega),bS,dF (show¬(j:Int)-1<0 by omega),bJ]
  rw [main]
  have el:lx T n i c k d (t+1) j=bif decide (T i (p5 n j)/c=T k (p5 n j)/d) then lx T n i c k d t (j+1) else decide (T i (p5 n j)/c<T k (p5 n j)/d):=rfl
  rw [el]
  by_cases h:T i (p5 n j)/c=T k (p5 n j)/d
  ·rw [decide_eq_true h,bS,bS];exact ih
  ·rw [decide_eq_false h,bJ,bJ];exact .inl rfl
theorem aIu {n:Nat} {rs:List (List Rat)} {od:Nat→Nat} {T:Nat→Nat→Rat} {a6:List Int} (hr:aA2 n (2*n+2) rs od T) {B C:Nat} (hT:Bdx n (2*n+2) B T) {i k:Nat} (hi:i<n) (hk:k<n) {c d:Rat} (hc:Bd C c) (hd:Bd C d) (hBC:B+C≤500000000) (hn:n≤1000) {K:Nat} (hK:2000≤K):eI K (i:Int) c (k:Int) d (n:Int) (mp od n) a6 rs=some (les T n i c k d):=by
 have:=aGC hr hT hi hk hc hd hBC hn K (n+1) 0 K (by omega) (by omega)
 rw [show((0:Nat):Int)-1=-1 from rfl] at this
 rcases this with h|⟨h1,h2⟩
 ·simp only [eI,h,oB];rfl
 ·simp only [eI,h2,oB,jG]
  exact congrArg some h1.symm
def kf (T:Nat→Nat→Rat) (n i:Nat) (c:Rat) (j:Nat):Rat:=T i (p5 n j)/c
theorem aKp {n:Nat} {T:Nat→Nat→Rat} {B C i:Nat} {c:Rat} (hT:Bdx n (2*n+2) B T) (hi:i<n) (hc:Bd C c) (hB:B≤1073741824) (hC:C≤1073741824) (hn:n≤1000) (K:Nat):∀(t j fu:Nat),j+t=n→t<fu→nL K (mp (T i) (2*n+2)) (n:Int) c fu (mp (kf T n i c) (j+1)) (j:Int)=some (mp (kf T n i c) (n+1))
 |0,j,fu,hj,hf=>by
  obtain⟨fu',rfl,_⟩:=bB hf
  have e:j=n:=by omega
  subst e
  simp only [nL,dF (show¬(j:Int)<(j:Int) by omega),bJ]
 |t+1,j,fu,hj,hf=>by
  obtain⟨fu',rfl,_⟩:=bB hf
  have e:kf T n i c (j+1)=T i j/c:=by unfold kf p5;rw [if_neg (by omega),Nat.add_sub_cancel]
  have ap:=apM (g:=kf T n i c) (i:=j+1) (by omega)
  rw [e] at ap
  simp only [nL,dT (show(j:Int)<(n:Int) by omega),bS,eH (f:=T i) (n:=2*n+2) (i:=j) (by omega),oB,aBQ (hT i j hi (by omega)) hc hB hC,ap,m6 (i:=j) (by omega)]
  exact aKp hT hi hc hB hC hn K t (j+1) fu' (by omega) (by omega)
theorem aHx {n:Nat} {T:Nat→Nat→Rat} {B C i:Nat} {c:Rat} (hT:Bdx n (2*n+2) B T) (hi:i<n) (hc:Bd C c) (hB:B≤1073741824) (hC:C≤1073741824) (hn:n≤1000) {K:Nat} (hK:2000≤K):oR K (mp (T i) (2*n+2)) (n:Int) c=some (mp (kf T n i c) (n+1)):=by
 have:=aKp hT hi hc hB hC hn K n 0 K (by omega) (by omega)
 simp only [Int.natCast_zero] at this
 have c1:aS (2*(n:Int))=some (2*(n:Int)):=lI (by omega)
 have c2:aS (2*(n:Int)+1)=some ((2*n+1:Nat):Int):=by rw [lI (by omega)];congr 1
 have e:[T i (2*n+1)/c]=mp (kf T n i c) (0+1):=rfl
 simp only [oR,c1,c2,oB,eH (f:=T i) (n:=2*n+2) (i:=2*n+1) (by omega),aBQ (hT i (2*n+1) hi (by omega)) hc hB hC,e,this,xB]
theorem aF5 {n:Nat} {T:Nat→Nat→Rat} {B C i k:Nat} {c d:Rat} (hT:Bdx n (2*n+2) B T) (hi:i<n) (hk:k<n) (hc:Bd C c) (hd:Bd C d) (hBC:B+C≤500000000) (hn:n≤1000) (K:Nat):∀(t j fu:Nat),j+t=n+1→t<fu→jM K (mp (kf T n i c) (n+1)) (mp (kf T n k d) (n+1)) fu (j:Int)=some (.ret (lx T n i c k d t j))∨(lx T n i c k d t j=false∧jM K (mp (kf T n i c) (n+1)) (mp (kf T n k d) (n+1)) fu (j:Int)=some (.go ()))
 |0,j,fu,hj,hf=>by
  obtain⟨fu',rfl,_⟩:=bB hf
  refine .inr ⟨rfl,?_⟩
  simp only [jM,bX,dF (show¬(j:Int)<((n+1:Nat):Int) by omega),bJ]
 |t+1,j,fu,hj,hf=>by
  obtain⟨fu',rfl,_⟩:=bB hf
  have hl:=aJO (n:=n) (j:=j) (by omega)
  have b1:Bd (B+C) (kf T n i c j):=(hT i _ hi hl).div hc
  have b2:Bd (B+C) (kf T n k d j):=(hT k _ hk hl).div hd
  have ih:=aF5 hT hi hk hc hd hBC hn K t (j+1) fu' (by omega) (by omega)
  have el:lx T n i c k d (t+1) j=bif decide (kf T n i c j=kf T n k d j) then lx T n i c k d t (j+1) else decide (kf T n i c j<kf T n k d j):=rfl
  rw [el]
  simp only [jM,bX,dT (show(j:Int)<((n+1:Nat):Int) by omega),bS,eH (f:=kf T n i c) (n:=n+1) (i:=j) (by omega),eH (f:=kf T n k d) (n:=n+1) (i:=j) (by omega),oB,aBU b1 b2 (by omega) (by omega)]
  by_cases h:kf T n i c j=kf T n k d j
  ·rw [nF (aDn.1.2 h),bJ,decide_eq_true h,bS,m6 (i:=j) (by omega),oB];exact ih
  ·rw [nT (fun h2=>h (aDn.1.1 h2)),bS,decide_eq_false h,bJ,aDn.2];exact .inl rfl
theorem aFW {n:Nat} {T:Nat→Nat→Rat} {B C i k:Nat} {c d:Rat} (hT:Bdx n (2*n+2) B T) (hi:i<n) (hk:k<n) (hc:Bd C c) (hd:Bd C d) (hBC:B+C≤500000000) (hn:n≤1000) {K:Nat} (hK:2000≤K):oK K (mp (kf T n i c) (n+1)) (mp (kf T n k d) (n+1))=some (les T n i c k d):=by
 have:=aF5 hT hi hk hc hd hBC hn K (n+1) 0 K (by omega) (by omega)
 simp only [Int.natCast_zero] at this
 rcases this with h|⟨h1,h2⟩
 ·simp only [oK,h,oB];rfl
 ·simp only [oK,h2,oB,wC]
  exact congrArg some h1.symm
end Go.Proofs.YtcjdedkdoagifaaGreat
set_option linter.unusedVariables false
namespace Go.Proofs.YtcjdedkdoagifaaGreat
def zM (T:Nat→Nat→Rat) (r c k:Nat):Rat:=T r k/T r c
theorem aH1 {n w r c B:Nat} {T:Nat→Nat→Rat} (hT:Bdx n w B T) (hr:r<n) (hc:c<w) (hB:B≤500000000) (hw:w≤100000) (K:Nat):∀(t k fu:Nat),k+t=w→t<fu→lW K (mx T n w) (r:Int) (c:Int) fu (mp (zM T r c) k) (k:Int)=some (mp (zM T r c) w)
 |0,k,fu,hk,hf=>by
  obtain⟨fu',rfl,_⟩:=bB hf
  have e:k=w:=by omega
  subst e
  simp only [lW,aCp (g:=T) (w:=k) hr,oB,bX,dF (show¬(k:Int)<(k:Int) by omega),bJ]
 |t+1,k,fu,hk,hf=>by
  obtain⟨fu',rfl,_⟩:=bB hf
  have hkw:k<w:=by omega
  have ap:=apM (g:=zM T r c) (i:=k) (by omega)
  simp only [lW,aCp (g:=T) (w:=w) hr,oB,bX,dT (show(k:Int)<(w:Int) by omega),bS,eH (f:=T r) hkw,eH (f:=T r) hc,aBQ (hT r k hr hkw) (hT r c hr hc) (by omega) (by omega),show T r k/T r c=zM T r c k from rfl,ap,m6 (i:=k) (by omega)]
  exact aH1 hT hr hc hB hw K t (k+1) fu' (by omega) (by omega)
theorem aK8 {n w r c B k:Nat} {T:Nat→Nat→Rat} (hT:Bdx n w B T) (hr:r<n) (hc:c<w) (hk:k<w):Bd (B+B) (zM T r c k):=(hT r k hr hk).div (hT r c hr hc)
theorem aHY {n w r c i B:Nat} {T:Nat→Nat→Rat} (hT:Bdx n w B T) (hr:r<n) (hc:c<w) (hi:i<n) (hne:i≠r) (hB:B≤200000000) (hw:w≤100000) (K:Nat):∀(t k fu:Nat),k+t=w→t<fu→lX K (mx T n w) (c:Int) (mp (zM T r c) w) (i:Int) fu (mp (wL T r c i) k) (k:Int)=some (mp (wL T r c i) w)
 |0,k,fu,hk,hf=>by
  obtain⟨fu',rfl,_⟩:=bB hf
  have e:k=w:=by omega
  subst e
  simp only [lX,bX,dF (show¬(k:Int)<(k:Int) by omega),bJ]
 |t+1,k,fu,hk,hf=>by
  obtain⟨fu',rfl,_⟩:=bB hf
  have hkw:k<w:=by omega
  have ap:=apM (g:=wL T r c i) (i:=k) (by omega)
  have e:T i k-T i c*zM T r c k=wL T r c i k:=by unfold wL zM;rw [if_neg hne]
  have b:=aK8 hT hr hc hkw
  have b2:=hT i c hi hc
  simp only [lX,bX,dT (show(k:Int)<(w:Int) by omega),bS,aCp (g:=T) (w:=w) hi,oB,eH (f:=T i) hkw,eH (f:=T i) hc,eH (f:=zM T r c) hkw,qS b2 b (by omega) (by omega),aAG (hT i k hi hkw) (b2.mul b) (by omega) (by omega),e,ap,m6 (i:=k) (by omega)]
  exact aHY hT hr hc hi hne hB hw K t (k+1) fu' (by omega) (by omega)
theorem aIS {n w r c B:Nat} {T:Nat→Nat→Rat} (hT:Bdx n w B T) (hr:r<n) (hc:c<w) (hB:B≤200000000) (hw:w≤100000) (hn:n≤100000) {K:Nat} (hK:w<K):∀(t i fu:Nat),i+t=n→t<fu→gT K (mx T n w) (r:Int) (c:Int) (mp (zM T r c) w) fu (mx (wL T r c) i w) (i:Int)=some (mx (wL T r c) n w)
 |0,i,fu,hk,hf=>by
  obtain⟨fu',rfl,_⟩:=bB hf
  have e:i=n:=by omega
  subst e
  simp only [gT,vU,dF (show¬(i:Int)<(i:Int) by omega),bJ]
 |t+1,i,fu,hk,hf=>by
  obtain⟨fu',rfl,_⟩:=bB hf
  have hin:i<n:=by omega
  have ap:pA (mx (wL T r c) i w) [mp (wL T r c i) w]=some (mx (wL T r c) (i+1) w):=apM (g:=fun i=>mp (wL T r c i) w) (by omega)
  have ih:=aIS hT hr hc hB hw hn hK t (i+1) fu' (by omega) (by omega)
  by_cases e:i=r
  ·have e2:mp (zM T r c) w=mp (wL T r c i) w:=cF fun k _=>by unfold wL zM;rw [if_pos e]
   simp only [gT,vU,dT (show(i:Int)<(n:Int) by omega),bS,qT (show(i:Int)=(r:Int) by omega)]
   rw [e2] at ih ⊢
   simp only [ap,oB,m6 (i:=i) (by omega)]
   exact ih
  ·have h82:=aHY hT hr hc hin e hB hw K w 0 K (by omega) hK
   simp only [Int.natCast_zero,aAX] at h82
   simp only [gT,vU,dT (show(i:Int)<(n:Int) by omega),bS,qF (show(i:Int)≠(r:Int) by omega),bJ,h82,oB,wG,ap,m6 (i:=i) (by omega)]
   exact ih
theorem aOR {n w r c B:Nat} {T:Nat→Nat→Rat} (hT:Bdx n w B T) (hr:r<n) (hc:c<w) (hB:B≤200000000) (hw:w≤100000) (hn:n≤100000) {K:Nat} (hK:w+n<K):uZ K (mx T n w) (r:Int) (c:Int)=some (mx (wL T r c) n w):=by
 have e1:=aH1 hT hr hc (by omega) hw K w 0 K (by omega) (by omega)
 have e2:=aIS hT hr hc hB hw hn (K:=K) (by omega) n 0 K (by omega) (by omega)
 have e3:mx (wL T r c) 0 w=[]:=rfl
 rw [e3] at e2
 simp only [Int.natCast_zero,aAX] at e1 e2
 simp only [uZ,e1,oB,wD,e2,wB]
theorem aRg {xs ys:List Rat} (h:xs.length=ys.length):cpL xs ys=ys:=by
 unfold cpL
 rw [h,Nat.min_self,List.take_length,←h,List.drop_length,List.append_nil]
theorem aE4 {rs:List (List Rat)} {o p:Nat} {x:List Rat} (ho:o<rs.length):(rs.set o x).getD p []=if p=o then x else rs.getD p []:=by
 rw [List.getD_eq_getElem?_getD,List.getD_eq_getElem?_getD,List.getElem?_set]
 by_cases h:o=p
 ·subst h;rw [if_pos rfl,if_pos ho,if_pos rfl];rfl
 ·rw [if_neg h,if_neg (fun e=>h e.symm)]
theorem aA2.set {n w:Nat} {rs:List (List Rat)} {od:Nat→Nat} {T:Nat→Nat→Rat} (h:aA2 n w rs od T) {i:Nat} (hi:i<n) (f:Nat→Rat):aA2 n w (rs.set (od i) (mp f w)) od (kE T i f):=
 ⟨fun j hj=>by rw [List.length_set];exact h.lt j hj,h.inj,fun j hj=>by
  rw [aE4 (h.lt i hi)]
  by_cases e:j=i
  ·subst e;rw [if_pos rfl,bD]
  ·rw [if_neg (fun e2=>e (h.inj j i hj hi e2)),cP e]
   exact h.row j hj⟩
theorem aA2.congr {n w:Nat} {rs:List (List Rat)} {od:Nat→Nat} {T T':Nat→Nat→Rat} (h:aA2 n w rs od T) (e:∀i k,i<n→k<w→T i k=T' i k):aA2 n w rs od T':=
 ⟨h.lt,h.inj,fun i hi=>by rw [h.row i hi];exact cF fun k hk=>e i k hi hk⟩
theorem aIk {w v27 B:Nat} {a5:List (List Rat)} {x22:List Rat} {g:Nat→Rat} {p:Rat} (hx:cpL x22 (a5.getD v27 [])=mp g w) (hg:∀k,k<w→Bd B (g k)) (hp:Bd B p) (hB:B≤1073741824) (hw:w≤100000) (K:Nat):∀(t k fu:Nat),k+t=w→t<fu→dI K a5 x22 v27 p fu (mp (fun j=>if j<k then g j/p else g j) w) (k:Int)=some (mp (fun j=>g j/p) w)
 |0,k,fu,hk,hf=>by
  obtain⟨fu',rfl,_⟩:=bB hf
  have e:k=w:=by omega
  subst e
  simp only [dI,hx,bX,dF (show¬(k:Int)<(k:Int) by omega),bJ]
  exact congrArg some (cF fun j hj=>if_pos hj)
 |t+1,k,fu,hk,hf=>by
  obtain⟨fu',rfl,_⟩:=bB hf
  have hkw:k<w:=by omega
  have e1:(fun j=>if j<k then g j/p else g j) k=g k:=if_neg (by omega)
  have e2:mp (kE (fun j=>if j<k then g j/p else g j) k (g k/p)) w=mp (fun j=>if j<k+1 then g j/p else g j) w:=cF fun j _=>by
   by_cases e:j=k
   ·subst e;rw [bD,if_pos (by omega)]
   ·rw [cP e]
    by_cases hlt:j<k
    ·rw [if_pos hlt,if_pos (by omega)]
    ·rw [if_neg hlt,if_neg (by omega)]
  simp only [dI,hx,bX,dT (show(k:Int)<(w:Int) by omega),bS,eH (f:=fun j=>if j<k then g j/p else g j) hkw,e1,oB,aBQ (hg k hkw) hp hB hB,tN (f:=fun j=>if j<k then g j/p else g j) hkw,e2,m6 (i:=k) (by omega)]
  exact aIk hx hg hp hB hw K t (k+1) fu' (by omega) (by omega)
theorem aGe {w o B:Nat} {a5 x66:List (List Rat)} {g q:Nat→Rat} {x:Rat} (ho:o<x66.length) (hne:a5.length≠o) (h66:x66.getD o []=mp g w) (hq:x66.getD a5.length []=mp q w) (hg:∀k,k<w→Bd B (g k)) (hqb:∀k,k<w→Bd (B+B) (q k)) (hx:Bd B x) (hB:B≤200000000) (hw:w≤100000) (K:Nat):∀(t k fu:Nat),k+t=w→t<fu→cY K a5 x66 o x fu (x66.set o (mp (fun j=>if j<k then g j-x*q j else g j) w)) (k:Int)=some (x66.set o (mp (fun j=>g j-x*q j) w))
 |0,k,fu,hk,hf=>by
  obtain⟨fu',rfl,_⟩:=bB hf
  have e:k=w:=by omega
  subst e
  simp only [cY,h66,bX,dF (show¬(k:Int)<(k:Int) by omega),bJ]
  exact congrArg (fun z=>some (x66.set o z)) (cF fun j hj=>if_pos hj)
 |t+1,k,fu,hk,hf=>by
  obtain⟨fu',rfl,_⟩:=bB hf
  have hkw:k<w:=by omega
  have e1:(fun j=>if j<k then g j-x*q j else g j) k=g k:=if_neg (by omega)
  have e2:mp (kE (fun j=>if j<k then g j-x*q j else g j) k (g k-x*q k)) w=mp (fun j=>if j<k+1 then g j-x*q j else g j) w:=cF fun j _=>by
   by_cases e:j=k
   ·subst e;rw [bD,if_pos (by omega)]
   ·rw [cP e]
    by_cases hlt:j<k
    ·rw [if_pos hlt,if_pos (by omega)]
    ·rw [if_neg hlt,if_neg (by omega)]
  have r1:(x66.set o (mp (fun j=>if j<k then g j-x*q j else g j) w)).getD o []=mp (fun j=>if j<k then g j-x*q j else g j) w:=by rw [aE4 ho,if_pos rfl]
  have r2:(x66.set o (mp (fun j=>if j<k then g j-x*q j else g j) w)).getD a5.length []=mp q w:=by rw [aE4 ho,if_neg hne];exact hq
  simp only [cY,h66,bX,dT (show(k:Int)<(w:Int) by omega),bS,r1,r2,eH (f:=fun j=>if j<k then g j-x*q j else g j) hkw,eH (f:=q) hkw,e1,oB,qS hx (hqb k hkw) (by omega) (by omega),aAG (hg k hkw) (hx.mul (hqb k hkw)) (by omega) (by omega),tN (f:=fun j=>if j<k then g j-x*q j else g j) hkw,e2,List.set_set,m6 (i:=k) (by omega)]
  exact aGe ho hne h66 hq hg hqb hx hB hw K t (k+1) fu' (by omega) (by omega)
def pst (T:Nat→Nat→Rat) (r c t i k:Nat):Rat:=if i<t∨i=r then wL T r c i k else T i k
theorem aMd {T:Nat→Nat→Rat} {r c t:Nat}:∀i k,(kE (pst T r c t) t (wL T r c t)) i k=pst T r c (t+1) i k:=fun i k=>by
 by_cases e:i=t
 ·subst e;rw [bD];unfold pst;rw [if_pos (.inl (by omega))]
 ·rw [cP e];unfold pst
  by_cases h:i<t∨i=r
  ·rw [if_pos h,if_pos (by omega)]
  ·rw [if_neg h,if_neg (by omega)]
theorem aIZ {T:Nat→Nat→Rat} {r c t:Nat} (h:t=r∨T t c=0):∀i k,pst T r c t i k=pst T r c (t+1) i k:=fun i k=>by
 unfold pst
 by_cases h1:i<t∨i=r
 ·rw [if_pos h1,if_pos (by omega)]
 ·rw [if_neg h1]
  by_cases e:i=t
  ·subst e
   have h2:T i c=0:=by rcases h with h|h;exact absurd (.inr h) h1;exact h
   rw [if_pos (.inl (by omega))]
   unfold wL
   rw [if_neg (fun e=>h1 (.inr e)),h2,Rat.zero_mul,Rat.sub_eq_add_neg,Rat.neg_zero,Rat.add_zero]
  ·rw [if_neg (by omega)]
theorem aDe {n w r c B:Nat} {a5:List (List Rat)} {od:Nat→Nat} {T:Nat→Nat→Rat} (hT:Bdx n w B T) (hr:r<n) (hc:c<w) (hor:od r=a5.length) (hB:B≤200000000) (hw:w≤100000) (hn:n≤100000) {K:Nat} (hK:w<K):∀(t i fu:Nat) (rs:List (List Rat)),i+t=n→t<fu→aA2 n w rs od (pst T r c i)→∃rs',bH K (r:Int) (c:Int) a5 (mp od n) fu rs (i:Int)=some rs'∧aA2 n w rs' od (wL T r c)
 |0,i,fu,rs,hk,hf,h=>by
  obtain⟨fu',rfl,_⟩:=bB hf
  have e:i=n:=by omega
  subst e
  refine⟨rs,by simp only [bH,bX,dF (show¬(i:Int)<(i:Int) by omega),bJ],h.congr fun j k hj _=>if_pos (.inl hj)⟩
 |t+1,i,fu,rs,hk,hf,h=>by
  obtain⟨fu',rfl,_⟩:=bB hf
  have hin:i<n:=by omega
  have hrow:=h.row i hin
  by_cases e:i=r
  ·obtain⟨rs',g1,g2⟩:=aDe hT hr hc hor hB hw hn hK t (i+1) fu' rs (by omega) (by omega) (h.congr fun j k _ _=>aIZ (.inl e) j k)
   refine⟨rs',?_,g2⟩
   simp only [bH,bX,dT (show(i:Int)<(n:Int) by omega),bS,eH (f:=od) hin,oB,hrow,eH (f:=pst T r c i i) hc,qT (show(i:Int)=(r:Int) by omega),m6 (i:=i) (by omega)]
   exact g1
  ·have ei:pst T r c i i=T i:=by funext k;unfold pst;rw [if_neg (by omega)]
   rw [ei] at hrow
   by_cases hz:T i c=0
   ·obtain⟨rs',g1,g2⟩:=aDe hT hr hc hor hB hw hn hK t (i+1) fu' rs (by omega) (by omega) (h.congr fun j k _ _=>aIZ (.inr hz) j k)
    refine⟨rs',?_,g2⟩
    simp only [bH,bX,dT (show(i:Int)<(n:Int) by omega),bS,eH (f:=od) hin,oB,hrow,eH (f:=T i) hc,qF (show(i:Int)≠(r:Int) by omega),bJ,jR (hT i c hin hc) (by omega),qT (aBh.2 hz),m6 (i:=i) (by omega)]
    exact g1
   ·have hne:a5.length≠od i:=fun h2=>e (h.inj i r hin hr (by rw [←h2,hor]))
    have hq:rs.getD a5.length []=mp (zM T r c) w:=by
     rw [←hor,h.row r hr]
     exact cF fun k _=>by unfold pst wL zM;rw [if_pos (.inr rfl),if_pos rfl]
    have h112:=aGe (h.lt i hin) hne hrow hq (fun k hk=>hT i k hin hk) (fun k hk=>aK8 hT hr hc hk) (hT i c hin hc) hB hw K w 0 K (by omega) hK
    have e0:rs.set (od i) (mp (fun j=>if j<0 then T i j-T i c*zM T r c j else T i j) w)=rs:=by
     have e9:mp (fun j=>if j<0 then T i j-T i c*zM T r c j else T i j) w=rs.getD (od i) []:=by
      rw [hrow];exact cF fun j _=>if_neg (by omega)
     rw [e9,List.getD_eq_getElem?_getD,List.getElem?_eq_getElem (h.lt i hin),Option.getD_some,List.set_getElem_self]
    rw [e0] at h112
    simp only [Int.natCast_zero] at h112
    have e1:mp (fun j=>T i j-T i c*zM T r c j) w=mp (wL T r c i) w:=cF fun j _=>by unfold wL zM;rw [if_neg e]
    rw [e1] at h112
    obtain⟨rs',g1,g2⟩:=aDe hT hr hc hor hB hw hn hK t (i+1) fu' _ (by omega) (by omega) ((h.set hin (wL T r c i)).congr fun j k _ _=>aMd j k)
    refine⟨rs',?_,g2⟩
    simp only [bH,bX,dT (show(i:Int)<(n:Int) by omega),bS,eH (f:=od) hin,oB,hrow,eH (f:=T i) hc,qF (show(i:Int)≠(r:Int) by omega),bJ,jR (hT i c hin hc) (by omega),qF (fun h2=>hz (aBh.1 h2)),h112,iM,m6 (i:=i) (by omega)]
    exact g1
theorem aOh {n w r c B:Nat} {rs:List (List Rat)} {od b:Nat→Nat} {T:Nat→Nat→Rat} {a2:Int} (h:aA2 n w rs od T) (hT:Bdx n w B T) (hr:r<n) (hc:c<w) (hB:B≤200000000) (hw:w≤100000) (hn:n≤100000) {K:Nat} (hK:w+n<K):∃rs' od',iC K (r:Int) (c:Int) a2 (mp od n) (mp (fun i=>((b i:Nat):Int)) n) rs=some (((b r:Nat):Int),mp od' n,mp (fun i=>((kE b r c i:Nat):Int)) n,rs')∧aA2 n w rs' od' (wL T r c):=by
 have hrow:=h.row r hr
 have hcp:cpL (mp (fun _=>(0:Rat)) w) (rs.getD (od r) [])=mp (T r) w:=by rw [hrow];exact aRg (by rw [bX,bX])
 have h53:=aIk hcp (fun k hk=>hT r k hr hk) (hT r c hr hc) (by omega) hw K w 0 K (by omega) (by omega)
 have e0:mp (fun j=>if j<0 then T r j/T r c else T r j) w=mp (T r) w:=cF fun j _=>if_neg (by omega)
 rw [e0] at h53
 have h0:aA2 n w (rs++[mp (zM T r c) w]) (kE od r rs.length) (pst T r c 0):=by
  refine⟨fun i hi=>?_,fun i j hi hj e=>?_,fun i hi=>?_⟩
  ·by_cases e:i=r
   ·rw [e,bD];simp
   ·rw [cP e];have:=h.lt i hi;simp;omega
  ·by_cases e1:i=r
   ·by_cases e2:j=r
    ·rw [e1,e2]
    ·rw [e1,bD,cP e2] at e;have:=h.lt j hj;omega
   ·by_cases e2:j=r
    ·rw [e2,bD,cP e1] at e;have:=h.lt i hi;omega
    ·rw [cP e1,cP e2] at e;exact h.inj i j hi hj e
  ·by_cases e:i=r
   ·rw [e,bD,List.getD_eq_getElem?_getD,List.getElem?_append_right (Nat.le_refl _),Nat.sub_self]
    show mp (zM T r c) w=_
    exact cF fun k _=>by unfold pst wL zM;rw [if_pos (.inr rfl),if_pos rfl]
   ·have hl:=h.lt i hi
    rw [cP e,List.getD_eq_getElem?_getD,List.getElem?_append_left hl,←List.getD_eq_getElem?_getD,h.row i hi]
    exact cF fun k _=>by unfold pst;rw [if_neg (by omega)]
 obtain⟨rs',g1,g2⟩:=aDe (a5:=rs) hT hr hc bD hB hw hn (K:=K) (by omega) n 0 K _ (by omega) (by omega) h0
 simp only [Int.natCast_zero] at h53 g1
 have e3:mp (fun j=>T r j/T r c) w=mp (zM T r c) w:=rfl
 rw [e3] at h53
 have e4:mp (kE (fun i=>((b i:Nat):Int)) r (c:Int)) n=mp (fun i=>((kE b r c i:Nat):Int)) n:=cF fun i _=>by
  by_cases e:i=r
  ·rw [e,bD,bD]
  ·rw [cP e,cP e]
 refine⟨rs',kE od r rs.length,?_,g2⟩
 simp only [iC,eH (f:=od) hr,oB,hrow,bX,aBb (z:=(0:Rat)) (n:=w) (by omega)]
 rw [←hrow,hcp]
 simp only [eH (f:=T r) hc,oB,h53,iS,eH (f:=od) hr,tN (f:=od) hr,g1,iT,eH (f:=fun i=>((b i:Nat):Int)) hr,tN (f:=fun i=>((b i:Nat):Int)) hr,e4]
end Go.Proofs.YtcjdedkdoagifaaGreat
set_option linter.unusedVariables false
namespace Go.Proofs.YtcjdedkdoagifaaGreat
def enc (s:Option Nat):Int:=match s with|none=>-1|some r=>(r:Int)
def sel (T:Nat→Nat→Rat) (n c:Nat):Nat→Nat→Option Nat→Option Nat
 |0,_,s=>s
 |t+1,i,s=>bif decide (0<(T i c).num.sign) then(match s with
  |none=>sel T n c t (i+1) (some i)
  |some r=>bif les T n i (T i c) r (T r c) then sel T n c t (i+1) (some i) else sel T n c t (i+1) (some r)) else sel T n c t (i+1) s
theorem aAj {T:Nat→Nat→Rat} {n c:Nat}:∀t i s r,(∀q,s=some q→q<i∧0<(T q c).num.sign)→sel T n c t i s=some r→r<i+t∧0<(T r c).num.sign
 |0,i,s,r,h,e=>by have:=h r e;exact⟨by omega,this.2⟩
 |t+1,i,s,r,h,e=>by
  unfold sel at e
  by_cases hp:0<(T i c).num.sign
  ·rw [decide_eq_true hp,bS] at e
   have hi:∀q,some i=some q→q<i+1∧0<(T q c).num.sign:=fun q hq=>by cases hq;exact⟨by omega,hp⟩
   cases s with
   |none=>have:=aAj t (i+1) (some i) r hi e;exact⟨by omega,this.2⟩
   |some p=>
    have hs:∀q,some p=some q→q<i+1∧0<(T q c).num.sign:=fun q hq=>by have:=h q hq;exact⟨by omega,this.2⟩
    simp only at e
    cases hl:les T n i (T i c) p (T p c)
    ·rw [hl,bJ] at e;have:=aAj t (i+1) (some p) r hs e;exact⟨by omega,this.2⟩
    ·rw [hl,bS] at e;have:=aAj t (i+1) (some i) r hi e;exact⟨by omega,this.2⟩
  ·rw [decide_eq_false hp,bJ] at e
   have:=aAj t (i+1) s r (fun q hq=>by have:=h q hq;exact⟨by omega,this.2⟩) e
   exact⟨by omega,this.2⟩
theorem aGz {n c B:Nat} {rs:List (List Rat)} {od:Nat→Nat} {T:Nat→Nat→Rat} {v6:Int×(List Nat)×(List Int)×(List (List Rat))} {x:Int} {bs:List Int} (h6:v6.1=(n:Int)) (h:aA2 n (2*n+2) rs od T) (hT:Bdx n (2*n+2) B T) (hc:c<2*n+2) (hB:B≤200000000) (hn:n≤1000) {K:Nat} (hK:2000≤K):∀(t i fu:Nat) (s:Option Nat),i+t=n→t<fu→(∀q,s=some q→q<i)→dR K v6 (x,mp od n,bs,rs) (c:Int) fu (enc s) (i:Int)=some (enc (sel T n c t i s))
 |0,i,fu,s,hi,hf,hs=>by
  obtain⟨fu',rfl,_⟩:=bB hf
  simp only [dR,bX,dF (show¬(i:Int)<(n:Int) by omega),bJ,sel]
 |t+1,i,fu,s,hi,hf,hs=>by
  obtain⟨fu',rfl,_⟩:=bB hf
  have hin:i<n:=by omega
  have hb:=hT i c hin hc
  have ih:=fun s hs=>aGz (x:=x) (bs:=bs) h6 h hT hc hB hn hK t (i+1) fu' s (by omega) (by omega) hs
  simp only [dR,bX,dT (show(i:Int)<(n:Int) by omega),bS,eH (f:=od) hin,oB,h.row i hin,eH (f:=T i) hc,jR hb (by omega),sel]
  by_cases hp:0<(T i c).num.sign
  ·simp only [dT hp,bS]
   cases s with
   |none=>
    simp only [enc,dT (show(-1:Int)<0 by omega),bS,m6 (i:=i) (by omega),oB]
    exact ih (some i) (fun q hq=>by cases hq;omega)
   |some p=>
    have hpn:p<n:=by have:=hs p rfl;omega
    have hl:=aIu (a6:=bs) h hT hin hpn hb (hT p c hpn hc) (by omega) hn hK
    simp only [enc,dF (show¬(p:Int)<0 by omega),bJ,eH (f:=od) hpn,h.row p hpn,eH (f:=T p) hc,oB,h6,hl]
    cases les T n i (T i c) p (T p c)
    ·simp only [bJ,m6 (i:=i) (by omega),oB]
     exact ih (some p) (fun q hq=>by have:=hs q hq;omega)
    ·simp only [bS,m6 (i:=i) (by omega),oB]
     exact ih (some i) (fun q hq=>by cases hq;omega)
  ·simp only [dF hp,bJ,m6 (i:=i) (by omega),oB]
   exact ih s (fun q hq=>by have:=hs q hq;omega)
theorem aGv {n c B:Nat} {T:Nat→Nat→Rat} {a1:List Rat} (h1:a1.length=n) (hT:Bdx n (2*n+2) B T) (hc:c<2*n+2) (hB:B≤200000000) (hn:n≤1000) {K:Nat} (hK:2000≤K):∀(t i fu:Nat) (s:Option Nat),i+t=n→t<fu→(∀q,s=some q→q<i)→eZ K a1 (mx T n (2*n+2)) (c:Int) fu (enc s) (i:Int)=some (enc (sel T n c t i s))
 |0,i,fu,s,hi,hf,hs=>by
  obtain⟨fu',rfl,_⟩:=bB hf
  simp only [eZ,h1,dF (show¬(i:Int)<(n:Int) by omega),bJ,sel]
 |t+1,i,fu,s,hi,hf,hs=>by
  obtain⟨fu',rfl,_⟩:=bB hf
  have hin:i<n:=by omega
  have hb:=hT i c hin hc
  have ih:=fun s hs=>aGv h1 hT hc hB hn hK t (i+1) fu' s (by omega) (by omega) hs
  simp only [eZ,h1,dT (show(i:Int)<(n:Int) by omega),bS,aCp (g:=T) (w:=2*n+2) hin,oB,eH (f:=T i) hc,jR hb (by omega),sel]
  by_cases hp:0<(T i c).num.sign
  ·simp only [dT hp,dF (show¬(T i c).num.sign≤0 by omega),bS,bJ]
   cases s with
   |none=>
    simp only [enc,dT (show(-1:Int)<0 by omega),bS,m6 (i:=i) (by omega),oB]
    exact ih (some i) (fun q hq=>by cases hq;omega)
   |some p=>
    have hpn:p<n:=by have:=hs p rfl;omega
    have hbp:=hT p c hpn hc
    have hl:=aFW hT hin hpn hb hbp (by omega) hn hK
    simp only [enc,dF (show¬(p:Int)<0 by omega),bJ,aHx hT hin hb (by omega) (by omega) hn hK,aCp (g:=T) (w:=2*n+2) hpn,eH (f:=T p) hc,oB,aHx hT hpn hbp (by omega) (by omega) hn hK,hl]
    cases les T n i (T i c) p (T p c)
    ·simp only [bJ,m6 (i:=i) (by omega),oB]
     exact ih (some p) (fun q hq=>by have:=hs q hq;omega)
    ·simp only [bS,m6 (i:=i) (by omega),oB]
     exact ih (some i) (fun q hq=>by cases hq;omega)
  ·simp only [dF hp,dT (show(T i c).num.sign≤0 by omega),bS,bJ,m6 (i:=i) (by omega),oB]
   exact ih s (fun q hq=>by have:=hs q hq;omega)
def swv (T:Nat→Nat→Rat) (b:Nat→Nat) (n:Nat):Nat→Nat→Rat
 |0=>z0
 |i+1=>if b i<n then kE (swv T b n i) (b i) (T i (2*n+1)) else swv T b n i
def szv (T:Nat→Nat→Rat) (b:Nat→Nat) (n:Nat):Nat→Nat→Rat
 |0=>z0
 |i+1=>if b i<n then szv T b n i else if b i<2*n then kE (szv T b n i) (b i-n) (T i (2*n+1)) else szv T b n i
theorem aHJ {n:Nat} {rs:List (List Rat)} {od b:Nat→Nat} {T:Nat→Nat→Rat} (h:aA2 n (2*n+2) rs od T) (hn:n≤1000) (K:Nat):∀(t i fu:Nat),i+t=n→t<fu→bU K (n:Int) (mp od n) (mp (fun i=>((b i:Nat):Int)) n) rs fu (mp (swv T b n i) n) (mp (szv T b n i) n) (i:Int)=some (mp (swv T b n n) n,mp (szv T b n n) n)
 |0,i,fu,hi,hf=>by
  obtain⟨fu',rfl,_⟩:=bB hf
  have e:i=n:=by omega
  subst e
  simp only [bU,bX,dF (show¬(i:Int)<(i:Int) by omega),bJ]
 |t+1,i,fu,hi,hf=>by
  obtain⟨fu',rfl,_⟩:=bB hf
  have hin:i<n:=by omega
  have ih:=aHJ (b:=b) h hn K t (i+1) fu' (by omega) (by omega)
  have c1:aS (2*(n:Int))=some (2*(n:Int)):=lI (by omega)
  have c2:aS (2*(n:Int)+1)=some ((2*n+1:Nat):Int):=by rw [lI (by omega)];congr 1
  simp only [bU,bX,dT (show(i:Int)<(n:Int) by omega),bS,eH (f:=fun i=>((b i:Nat):Int)) hin,eH (f:=od) hin,oB,c1,c2,h.row i hin,eH (f:=T i) (n:=2*n+2) (i:=2*n+1) (by omega)]
  by_cases h1:b i<n
  ·have e1:swv T b n (i+1)=kE (swv T b n i) (b i) (T i (2*n+1)):=if_pos h1
   have e2:szv T b n (i+1)=szv T b n i:=if_pos h1
   rw [e1,e2] at ih
   simp only [dT (show((b i:Nat):Int)<(n:Int) by omega),bS,eH (f:=swv T b n i) h1,tN (f:=swv T b n i) h1,oB,m6 (i:=i) (by omega)]
   exact ih
  ·have e1:swv T b n (i+1)=swv T b n i:=if_neg h1
   by_cases h2:b i<2*n
   ·have e2:szv T b n (i+1)=kE (szv T b n i) (b i-n) (T i (2*n+1)):=by
     show(if b i<n then _ else _)=_
     rw [if_neg h1,if_pos h2]
    have c3:aS (((b i:Nat):Int)-(n:Int))=some ((b i-n:Nat):Int):=by rw [show((b i:Nat):Int)-(n:Int)=((b i-n:Nat):Int) by omega,lI (by omega)]
    rw [e1,e2] at ih
    simp only [dF (show¬((b i:Nat):Int)<(n:Int) by omega),bJ,dT (show((b i:Nat):Int)<2*(n:Int) by omega),bS,c3,oB,eH (f:=szv T b n i) (n:=n) (i:=b i-n) (by omega),tN (f:=szv T b n i) (n:=n) (i:=b i-n) (by omega),m6 (i:=i) (by omega)]
    exact ih
   ·have e2:szv T b n (i+1)=szv T b n i:=by
     show(if b i<n then _ else _)=_
     rw [if_neg h1,if_neg h2]
    rw [e1,e2] at ih
    simp only [dF (show¬((b i:Nat):Int)<(n:Int) by omega),bJ,dF (show¬((b i:Nat):Int)<2*(n:Int) by omega),m6 (i:=i) (by omega),oB]
    exact ih
theorem aJ7 {n:Nat} {rs:List (List Rat)} {od b:Nat→Nat} {T:Nat→Nat→Rat} (h:aA2 n (2*n+2) rs od T) (hn:n≤1000) {K:Nat} (hK:2000≤K):fB K (n:Int) (mp od n) (mp (fun i=>((b i:Nat):Int)) n) rs=some ⟨mp (szv T b n n) n,mp (swv T b n n) n,0⟩:=by
 have:=aHJ (b:=b) h hn K n 0 K (by omega) (by omega)
 simp only [Int.natCast_zero] at this
 have e:mp (fun _=>(0:Rat)) n=mp (swv T b n 0) n:=rfl
 have e2:mp (swv T b n 0) n=mp (szv T b n 0) n:=rfl
 simp only [fB,aBb (z:=(0:Rat)) (n:=n) (by omega),oB,e]
 rw [show bU K (n:Int) (mp od n) (mp (fun i=>((b i:Nat):Int)) n) rs K (mp (swv T b n 0) n) (mp (swv T b n 0) n) 0=_ from this]
 rfl
theorem aGE {n:Nat} {b:Nat→Nat} {T:Nat→Nat→Rat} {a1:List Rat} (h1:a1.length=n) (hb:∀i,i<n→b i<2*n) (hn:n≤1000) (K:Nat):∀(t i fu:Nat),i+t=n→t<fu→gD K a1 (mx T n (2*n+2)) (mp (fun i=>((b i:Nat):Int)) n) fu (mp (swv T b n i) n) (mp (szv T b n i) n) (i:Int)=some (mp (swv T b n n) n,mp (szv T b n n) n)
 |0,i,fu,hi,hf=>by
  obtain⟨fu',rfl,_⟩:=bB hf
  have e:i=n:=by omega
  subst e
  simp only [gD,h1,dF (show¬(i:Int)<(i:Int) by omega),bJ]
 |t+1,i,fu,hi,hf=>by
  obtain⟨fu',rfl,_⟩:=bB hf
  have hin:i<n:=by omega
  have ih:=aGE (T:=T) h1 hb hn K t (i+1) fu' (by omega) (by omega)
  have c1:aS (2*(n:Int))=some (2*(n:Int)):=lI (by omega)
  have c2:aS (2*(n:Int)+1)=some ((2*n+1:Nat):Int):=by rw [lI (by omega)];congr 1
  have h2:=hb i hin
  simp only [gD,h1,dT (show(i:Int)<(n:Int) by omega),bS,eH (f:=fun i=>((b i:Nat):Int)) hin,oB]
  by_cases h3:b i<n
  ·have e1:swv T b n (i+1)=kE (swv T b n i) (b i) (T i (2*n+1)):=if_pos h3
   have e2:szv T b n (i+1)=szv T b n i:=if_pos h3
   rw [e1,e2] at ih
   simp only [dT (show((b i:Nat):Int)<(n:Int) by omega),bS,aCp (g:=T) (w:=2*n+2) hin,c1,c2,oB,eH (f:=T i) (n:=2*n+2) (i:=2*n+1) (by omega),eH (f:=swv T b n i) h3,tN (f:=swv T b n i) h3,m6 (i:=i) (by omega)]
   exact ih
  ·have e1:swv T b n (i+1)=swv T b n i:=if_neg h3
   have e2:szv T b n (i+1)=kE (szv T b n i) (b i-n) (T i (2*n+1)):=by
    show(if b i<n then _ else _)=_
    rw [if_neg h3,if_pos h2]
   have c3:aS (((b i:Nat):Int)-(n:Int))=some ((b i-n:Nat):Int):=by rw [show((b i:Nat):Int)-(n:Int)=((b i-n:Nat):Int) by omega,lI (by omega)]
   rw [e1,e2] at ih
   simp only [dF (show¬((b i:Nat):Int)<(n:Int) by omega),bJ,c3,aCp (g:=T) (w:=2*n+2) hin,c1,c2,oB,eH (f:=T i) (n:=2*n+2) (i:=2*n+1) (by omega),eH (f:=szv T b n i) (n:=n) (i:=b i-n) (by omega),tN (f:=szv T b n i) (n:=n) (i:=b i-n) (by omega),m6 (i:=i) (by omega)]
   exact ih
end Go.Proofs.YtcjdedkdoagifaaGreat
set_option linter.unusedVariables false
namespace Go.Proofs.YtcjdedkdoagifaaGreat
/-- The run from a tableau on. -/
def lem (n most:Nat):Nat→(Nat→Nat→Rat)→(Nat→Nat)→Nat→Nat→Nat→aT×Int
 |0,_,_,_,_,_=>(⟨[],[],0⟩,16)
 |f+1,T,b,r,c,cnt=>
  if cnt=most then(⟨[],[],0⟩,16)
  else if b r=2*n then(⟨mp (szv (wL T r c) (kE b r c) n n) n,mp (swv (wL T r c) (kE b r c) n n) n,((cnt+1:Nat):Int)⟩,0)
  else match sel (wL T r c) n (if b r<n then b r+n else b r-n) n 0 none with
   |none=>(⟨[],[],0⟩,15)
   |some r'=>lem n most f (wL T r c) (kE b r c) r' (if b r<n then b r+n else b r-n) (cnt+1)
structure LI (n:Nat) (Z T:Nat→Nat→Rat) (b:Nat→Nat) (r c:Nat):Prop where
 ti:TI n (2*n+2) Z T b
 hr:r<n
 hc:c≤2*n
 hp:T r c≠0
 hb:∀j,j<n→b j≤2*n
 fst:c=2*n→b r≠2*n
theorem TI.inj {n w:Nat} {Z T:Nat→Nat→Rat} {b:Nat→Nat} (h:TI n w Z T b) {i j:Nat} (hi:i<n) (hj:j<n) (e:b i=b j):i=j:=by
 by_cases h1:i=j
 ·exact h1
 ·have a:=h.un i i hi hi
  have c:=h.un i j hi hj
  rw [if_pos rfl,e] at a
  rw [if_neg h1,a] at c
  exact absurd c (by decide)
theorem aJw {n x:Nat} (hx:x≤2*n) (hne:x≠2*n):(if x<n then x+n else x-n)<2*n:=by split<;>omega
theorem LI.next {n:Nat} {Z T:Nat→Nat→Rat} {b:Nat→Nat} {r c r':Nat} (h:LI n Z T b r c) (hne:b r≠2*n) (hs:sel (wL T r c) n (if b r<n then b r+n else b r-n) n 0 none=some r'):LI n Z (wL T r c) (kE b r c) r' (if b r<n then b r+n else b r-n):=by
 have hlt:=aJw (h.hb r h.hr) hne
 obtain⟨s1,s2⟩:=aAj n 0 none r' (fun q hq=>by cases hq) hs
 refine⟨h.ti.pivot h.hr (by have:=h.hc;omega) h.hp,by omega,by omega,fun e=>?_,fun j hj=>?_,fun e=>by omega⟩
 ·rw [e] at s2;exact absurd s2 (by decide)
 ·by_cases e:j=r
  ·rw [e,bD];exact h.hc
  ·rw [cP e];exact h.hb j hj
def Sm (n B:Nat) (Z:Nat→Nat→Rat):Prop:=∀T b,TI n (2*n+2) Z T b→Bdx n (2*n+2) B T
theorem aTl {n most B:Nat} {Z:Nat→Nat→Rat} {v6:Int×(List Nat)×(List Int)×(List (List Rat))} (h6:v6.1=(n:Int)) (hZ:Sm n B Z) (hB:B≤200000000) (hn:n≤1000) (hm:most≤100000) {K:Nat} (hK:5000≤K):∀(f cnt fu:Nat) (rs:List (List Rat)) (od:Nat→Nat) (T:Nat→Nat→Rat) (b:Nat→Nat) (r c:Nat),cnt+f=most+1→0<f→f≤fu→aA2 n (2*n+2) rs od T→LI n Z T b r c→
  dL K (most:Int) v6 fu (mp od n) (mp (fun i=>((b i:Nat):Int)) n) rs (r:Int) (c:Int) (cnt:Int)=some (.ret (lem n most f T b r c cnt))
 |0,cnt,fu,rs,od,T,b,r,c,hc,h0,hf,hR,h=>by omega
 |f+1,cnt,fu,rs,od,T,b,r,c,hc,h0,hf,hR,h=>by
  obtain⟨fu',rfl,hf'⟩:=bB (show f<fu by omega)
  unfold lem
  by_cases e:cnt=most
  ·rw [if_pos e]
   simp only [dL,qT (show(cnt:Int)=(most:Int) by omega),bS]
  ·rw [if_neg e]
   have hcw:=h.hc
   have hT:=hZ T b h.ti
   have ti':=h.ti.pivot h.hr (show c<2*n+2 by omega) h.hp
   have hT':=hZ _ _ ti'
   obtain⟨rs',od',p1,p2⟩:=aOh (b:=b) (a2:=v6.1) hR hT h.hr (show c<2*n+2 by omega) hB (by omega) (by omega) (K:=K) (by omega)
   have hbr:=h.hb r h.hr
   have c1:aS (2*(n:Int))=some (2*(n:Int)):=lI (by omega)
   rw [h6] at p1
   simp only [dL,qF (show(cnt:Int)≠(most:Int) by omega),bJ,h6,p1,oB,c1]
   by_cases e2:b r=2*n
   ·rw [if_pos e2]
    simp only [qT (show((b r:Nat):Int)=2*(n:Int) by omega),bS,aJ7 (b:=kE b r c) p2 hn (show 2000≤K by omega),oB,m6 (i:=cnt) (by omega)]
   ·rw [if_neg e2]
    have hlt:=aJw hbr e2
    have c2:aS (((b r:Nat):Int)+(n:Int))=some ((b r+n:Nat):Int):=by rw [lI (by omega)];rfl
    have hsel:=aGz (v6:=v6) (x:=((b r:Nat):Int)) (bs:=mp (fun i=>((kE b r c i:Nat):Int)) n) h6 p2 hT' (show(if b r<n then b r+n else b r-n)<2*n+2 by omega) hB hn (show 2000≤K by omega) n 0 K none (by omega) (by omega) (fun q hq=>by cases hq)
    simp only [Int.natCast_zero,show enc none=(-1:Int) from rfl] at hsel
    have key:jK K v6 (cnt:Int) (((b r:Nat):Int),mp od' n,mp (fun i=>((kE b r c i:Nat):Int)) n,rs') (dL K (most:Int) v6 fu') (((if b r<n then b r+n else b r-n:Nat)):Int)=some (.ret (match sel (wL T r c) n (if b r<n then b r+n else b r-n) n 0 none with|none=>(⟨[],[],0⟩,15)|some r'=>lem n most f (wL T r c) (kE b r c) r' (if b r<n then b r+n else b r-n) (cnt+1))):=by
     simp only [jK,hsel,oB,oP]
     cases hs:sel (wL T r c) n (if b r<n then b r+n else b r-n) n 0 none with
     |none=>rfl
     |some r'=>
      simp only [enc,dF (show¬(r':Int)<0 by omega),bJ,m6 (i:=cnt) (by omega),oB]
      exact aTl h6 hZ hB hn hm hK f (cnt+1) fu' rs' od' _ _ r' _ (by omega) (by omega) (by omega) p2 (h.next e2 hs)
    simp only [qF (show((b r:Nat):Int)≠2*(n:Int) by omega),bJ,c2,oB]
    by_cases h3:b r<n
    ·rw [if_pos h3] at key
     simp only [dF (show¬(n:Int)≤((b r:Nat):Int) by omega),bJ,if_pos h3]
     exact key
    ·rw [if_neg h3] at key
     have c3:aS (((b r:Nat):Int)-(n:Int))=some ((b r-n:Nat):Int):=by rw [show((b r:Nat):Int)-(n:Int)=((b r-n:Nat):Int) by omega,lI (by omega)]
     simp only [dT (show(n:Int)≤((b r:Nat):Int) by omega),bS,c3,oB,if_neg h3]
     exact key
theorem aSo {n most B:Nat} {Z:Nat→Nat→Rat} {a1:List Rat} (h1:a1.length=n) (hZ:Sm n B Z) (hB:B≤200000000) (hn:n≤1000) (hm:most≤100000) {K:Nat} (hK:5000≤K):∀(f cnt fu:Nat) (T:Nat→Nat→Rat) (b:Nat→Nat) (r c:Nat),cnt+f=most+1→0<f→f≤fu→LI n Z T b r c→
  lZ K a1 (most:Int) fu (mp (fun i=>((b i:Nat):Int)) n) (mx T n (2*n+2)) (r:Int) (c:Int) (cnt:Int)=some (.ret (lem n most f T b r c cnt))
 |0,cnt,fu,T,b,r,c,hc,h0,hf,h=>by omega
 |f+1,cnt,fu,T,b,r,c,hc,h0,hf,h=>by
  obtain⟨fu',rfl,hf'⟩:=bB (show f<fu by omega)
  unfold lem
  by_cases e:cnt=most
  ·rw [if_pos e]
   simp only [lZ,qT (show(cnt:Int)=(most:Int) by omega),bS]
  ·rw [if_neg e]
   have hcw:=h.hc
   have hr:=h.hr
   have hT:=hZ T b h.ti
   have ti':=h.ti.pivot h.hr (show c<2*n+2 by omega) h.hp
   have hT':=hZ _ _ ti'
   have p1:=aOR hT h.hr (show c<2*n+2 by omega) hB (by omega) (by omega) (K:=K) (by omega)
   have hbr:=h.hb r h.hr
   have c1:aS (2*(n:Int))=some (2*(n:Int)):=lI (by omega)
   have e4:mp (kE (fun i=>((b i:Nat):Int)) r (c:Int)) n=mp (fun i=>((kE b r c i:Nat):Int)) n:=cF fun i _=>by
    by_cases e:i=r
    ·rw [e,bD,bD]
    ·rw [cP e,cP e]
   simp only [lZ,qF (show(cnt:Int)≠(most:Int) by omega),bJ,p1,oB,m6 (i:=cnt) (by omega),eH (f:=fun i=>((b i:Nat):Int)) hr,tN (f:=fun i=>((b i:Nat):Int)) hr,e4,h1,c1]
   by_cases e2:b r=2*n
   ·rw [if_pos e2]
    have hb2:∀i,i<n→kE b r c i<2*n:=fun i hi=>by
     by_cases ei:i=r
     ·rw [ei,bD]
      have:=h.fst
      by_cases ec:c=2*n
      ·exact absurd e2 (this ec)
      ·omega
     ·rw [cP ei]
      have h5:=h.hb i hi
      by_cases e6:b i=2*n
      ·exact absurd (h.ti.inj hi hr (by rw [e6,e2])) ei
      ·omega
    have hs:=aGE (T:=wL T r c) h1 hb2 hn K n 0 K (by omega) (by omega)
    simp only [Int.natCast_zero] at hs
    have z1:mp (fun _=>(0:Rat)) n=mp (swv (wL T r c) (kE b r c) n 0) n:=rfl
    have hs':gD K a1 (mx (wL T r c) n (2*n+2)) (mp (fun i=>((kE b r c i:Nat):Int)) n) K (mp (fun _=>(0:Rat)) n) (mp (fun _=>(0:Rat)) n) 0=some (mp (swv (wL T r c) (kE b r c) n n) n,mp (szv (wL T r c) (kE b r c) n n) n):=hs
    simp only [qT (show((b r:Nat):Int)=2*(n:Int) by omega),bS,aBb (z:=(0:Rat)) (n:=n) (by omega),oB,hs',vB]
   ·rw [if_neg e2]
    have hlt:=aJw hbr e2
    have c2:aS (((b r:Nat):Int)+(n:Int))=some ((b r+n:Nat):Int):=by rw [lI (by omega)];rfl
    have c3:xG ((b r+n:Nat):Int) (2*(n:Int))=some (((if b r<n then b r+n else b r-n:Nat)):Int):=by
     rw [oG (by omega) (by omega)]
     congr 1
     by_cases h3:b r<n
     ·rw [if_pos h3,Int.emod_eq_of_lt (by omega) (by omega)]
     ·rw [if_neg h3,show((b r+n:Nat):Int)=((b r-n:Nat):Int)+2*(n:Int) by omega,Int.add_emod_right,Int.emod_eq_of_lt (by omega) (by omega)]
    have hsel:=aGv h1 hT' (show(if b r<n then b r+n else b r-n)<2*n+2 by omega) hB hn (show 2000≤K by omega) n 0 K none (by omega) (by omega) (fun q hq=>by cases hq)
    simp only [Int.natCast_zero,show enc none=(-1:Int) from rfl] at hsel
    simp only [qF (show((b r:Nat):Int)≠2*(n:Int) by omega),bJ,c2,oB,c3,hsel,vH]
    cases hs:sel (wL T r c) n (if b r<n then b r+n else b r-n) n 0 none with
    |none=>rfl
    |some r'=>
     simp only [enc,dF (show¬(r':Int)<0 by omega),bJ]
     exact aSo h1 hZ hB hn hm hK f (cnt+1) fu' _ _ r' _ (by omega) (by omega) (by omega) (h.next e2 hs)
end Go.Proofs.YtcjdedkdoagifaaGreat
set_option linter.unusedVariables false
namespace Go.Proofs.YtcjdedkdoagifaaGreat
theorem aHS {l:List Rat} {B:Nat} (hl:uD B l) (hB:B≤1073741824) (hn:l.length≤1000) (K:Nat):∀(t i k:Nat),i+t=l.length→t<k→kD K l k (i:Int)=some (.go ())
 |0,i,k,hi,hk=>by
  obtain⟨k',rfl,_⟩:=bB hk
  simp only [kD,dF (show¬(i:Int)<(l.length:Int) by omega),bJ]
 |t+1,i,k,hi,hk=>by
  obtain⟨k',rfl,_⟩:=bB hk
  simp only [kD,dT (show(i:Int)<(l.length:Int) by omega),bS,aA8 (l:=l) (i:=i) (by omega),oB,sD (hl _ (u8 (l:=l) (i:=i) (by omega))) hB,Bool.not_true,bJ,m6 (i:=i) (by omega)]
  exact aHS hl hB hn K t (i+1) k' (by omega) (by omega)
theorem aHO {l:List Rat} {B:Nat} (hl:uD B l) (hB:B≤1073741824) (hn:l.length≤1000) {K:Nat} (hK:l.length<K):oU K l=some true:=by
 have:=aHS hl hB hn K l.length 0 K (by omega) hK
 simp only [Int.natCast_zero] at this
 simp only [oU,this,oB,rJ]
theorem aGi {l:List Rat} {B:Nat} (hl:uD B l) (hB:B≤1073741824) (hn:l.length≤1000) (K:Nat):∀(t i k:Nat),i+t=l.length→t<k→nM K l k (i:Int)=some (.go ())
 |0,i,k,hi,hk=>by
  obtain⟨k',rfl,_⟩:=bB hk
  simp only [nM,dF (show¬(i:Int)<(l.length:Int) by omega),bJ]
 |t+1,i,k,hi,hk=>by
  obtain⟨k',rfl,_⟩:=bB hk
  simp only [nM,dT (show(i:Int)<(l.length:Int) by omega),bS,aA8 (l:=l) (i:=i) (by omega),oB,sD (hl _ (u8 (l:=l) (i:=i) (by omega))) hB,Bool.not_true,bJ,m6 (i:=i) (by omega)]
  exact aGi hl hB hn K t (i+1) k' (by omega) (by omega)
theorem aGD {l:List Rat} {B:Nat} (hl:uD B l) (hB:B≤1073741824) (hn:l.length≤1000) {K:Nat} (hK:l.length<K):tB K l=some true:=by
 have:=aGi hl hB hn K l.length 0 K (by omega) hK
 simp only [Int.natCast_zero] at this
 simp only [tB,this,oB,xC]
theorem aF0 {M:Nat→Nat→Rat} {q:Nat→Rat} {n B:Nat} (hM:Bdx n n B M) (hB:B≤1073741824) (hn:n≤32) {K:Nat} (hK:100≤K):∀(t i k:Nat),i+t=n→t<k→jC K (mx M n n) (mp q n) k (i:Int)=some (.go ())
 |0,i,k,hi,hk=>by
  obtain⟨k',rfl,_⟩:=bB hk
  simp only [jC,vU,dF (show¬(i:Int)<(n:Int) by omega),bJ]
 |t+1,i,k,hi,hk=>by
  obtain⟨k',rfl,_⟩:=bB hk
  have hin:i<n:=by omega
  have g:=aHO (l:=mp (M i) n) (aBy fun c hc=>hM i c hin hc) hB (by rw [bX];omega) (K:=K) (by rw [bX];omega)
  simp only [jC,vU,dT (show(i:Int)<(n:Int) by omega),bS,aCp (g:=M) (w:=n) hin,oB,bX,nF (rfl:(n:Int)=(n:Int)),bJ,g,Bool.not_true,m6 (i:=i) (by omega)]
  exact aF0 hM hB hn hK t (i+1) k' (by omega) (by omega)
theorem aGF {M:Nat→Nat→Rat} {q:Nat→Rat} {n B:Nat} (hM:Bdx n n B M) (hq:∀i,i<n→Bd B (q i)) (hB:B≤1073741824) (hn:n≤32) {K:Nat} (hK:100≤K):qJ K (mx M n n) (mp q n)=some true:=by
 have g:=aHO (l:=mp q n) (aBy hq) hB (by rw [bX];omega) (K:=K) (by rw [bX];omega)
 have e:=aF0 (q:=q) hM hB hn hK n 0 K (by omega) (by omega)
 simp only [Int.natCast_zero] at e
 simp only [qJ,vU,bX,nF (rfl:(n:Int)=(n:Int)),bJ,dF (show¬(32:Int)<(n:Int) by omega),g,oB,Bool.not_true,e,qV]
theorem aFk {M:Nat→Nat→Rat} {q:Nat→Rat} {n B:Nat} (hM:Bdx n n B M) (hB:B≤1073741824) (hn:n≤32) {K:Nat} (hK:100≤K):∀(t i k:Nat),i+t=n→t<k→mG K (mx M n n) (mp q n) k (i:Int)=some (.go ())
 |0,i,k,hi,hk=>by
  obtain⟨k',rfl,_⟩:=bB hk
  simp only [mG,vU,dF (show¬(i:Int)<(n:Int) by omega),bJ]
 |t+1,i,k,hi,hk=>by
  obtain⟨k',rfl,_⟩:=bB hk
  have hin:i<n:=by omega
  have g:=aGD (l:=mp (M i) n) (aBy fun c hc=>hM i c hin hc) hB (by rw [bX];omega) (K:=K) (by rw [bX];omega)
  simp only [mG,vU,dT (show(i:Int)<(n:Int) by omega),bS,aCp (g:=M) (w:=n) hin,oB,bX,nF (rfl:(n:Int)=(n:Int)),bJ,g,Bool.not_true,m6 (i:=i) (by omega)]
  exact aFk hM hB hn hK t (i+1) k' (by omega) (by omega)
theorem aFw {M:Nat→Nat→Rat} {q:Nat→Rat} {n B:Nat} (hM:Bdx n n B M) (hq:∀i,i<n→Bd B (q i)) (hB:B≤1073741824) (hn:n≤32) {K:Nat} (hK:100≤K):uX K (mx M n n) (mp q n)=some true:=by
 have g:=aGD (l:=mp q n) (aBy hq) hB (by rw [bX];omega) (K:=K) (by rw [bX];omega)
 have e:=aFk (q:=q) hM hB hn hK n 0 K (by omega) (by omega)
 simp only [Int.natCast_zero] at e
 simp only [uX,vU,bX,nF (rfl:(n:Int)=(n:Int)),bJ,dF (show¬(32:Int)<(n:Int) by omega),g,oB,Bool.not_true,e,w5]
def ng (q:Nat→Rat):Nat→Nat→Bool
 |0,_=>false
 |t+1,i=>bif decide ((q i).num.sign<0) then true else ng q t (i+1)
theorem aMu {q:Nat→Rat} {n B:Nat} (hq:∀i,i<n→Bd B (q i)) (hB:B≤1073741824) (hn:n≤1000) (K:Nat):∀(t i k:Nat),i+t=n→t<k→gG K (mp q n) k (i:Int)=some (bif ng q t i then .ret true else .go ())
 |0,i,k,hi,hk=>by
  obtain⟨k',rfl,_⟩:=bB hk
  simp only [gG,bX,dF (show¬(i:Int)<(n:Int) by omega),bJ,ng]
 |t+1,i,k,hi,hk=>by
  obtain⟨k',rfl,_⟩:=bB hk
  have hin:i<n:=by omega
  simp only [gG,bX,dT (show(i:Int)<(n:Int) by omega),bS,eH (f:=q) hin,oB,jR (hq i hin) hB,ng]
  by_cases h:(q i).num.sign<0
  ·simp only [dT h,bS]
  ·simp only [dF h,bJ,m6 (i:=i) (by omega),oB]
   exact aMu hq hB hn K t (i+1) k' (by omega) (by omega)
theorem aKo {q:Nat→Rat} {n B:Nat} (hq:∀i,i<n→Bd B (q i)) (hB:B≤1073741824) (hn:n≤1000) (K:Nat):∀(t i k:Nat),i+t=n→t<k→kQ K (mp q n) k (i:Int)=some (bif ng q t i then .ret true else .go ())
 |0,i,k,hi,hk=>by
  obtain⟨k',rfl,_⟩:=bB hk
  simp only [kQ,bX,dF (show¬(i:Int)<(n:Int) by omega),bJ,ng]
 |t+1,i,k,hi,hk=>by
  obtain⟨k',rfl,_⟩:=bB hk
  have hin:i<n:=by omega
  simp only [kQ,bX,dT (show(i:Int)<(n:Int) by omega),bS,eH (f:=q) hin,oB,jR (hq i hin) hB,ng]
  by_cases h:(q i).num.sign<0
  ·simp only [dT h,bS]
  ·simp only [dF h,bJ,m6 (i:=i) (by omega),oB]
   exact aKo hq hB hn K t (i+1) k' (by omega) (by omega)
theorem aQG {q:Nat→Rat} {n B:Nat} (hq:∀i,i<n→Bd B (q i)) (hB:B≤1073741824) (hn:n≤1000) {K:Nat} (hK:n<K):nI K (mp q n)=some (ng q n 0)∧sT K (mp q n)=some (ng q n 0):=by
 have e1:=aMu hq hB hn K n 0 K (by omega) hK
 have e2:=aKo hq hB hn K n 0 K (by omega) hK
 simp only [Int.natCast_zero] at e1 e2
 constructor
 ·simp only [nI,e1,oB,n9]
  cases ng q n 0<;>rfl
 ·simp only [sT,e2,oB,uQ]
  cases ng q n 0<;>rfl
def rw1 (M:Nat→Nat→Rat) (n i k c:Nat):Rat:=if n≤c∧c<n+k then -(M i (c-n)) else kE z0 i 1 c
theorem aIW {M:Nat→Nat→Rat} {n i k:Nat} (hi:i<n):mp (kE (rw1 M n i k) (n+k) (-(M i k))) (2*n+2)=mp (rw1 M n i (k+1)) (2*n+2):=cF fun c _=>by
 by_cases e:c=n+k
 ·subst e;rw [bD];unfold rw1;rw [if_pos ⟨by omega,by omega⟩,Nat.add_sub_cancel_left]
 ·rw [cP e];unfold rw1
  by_cases h:n≤c∧c<n+k
  ·rw [if_pos h,if_pos ⟨h.1,by omega⟩]
  ·rw [if_neg h,if_neg (by omega)]
theorem aK6 {M:Nat→Nat→Rat} {q:Nat→Rat} {n i:Nat} (hi:i<n):mp (kE (kE (rw1 M n i n) (2*n) (-1)) (2*n+1) (q i)) (2*n+2)=mp (uS M q n i) (2*n+2):=cF fun c hc=>by
 unfold uS
 by_cases e1:c=2*n+1
 ·subst e1;rw [bD,if_neg (by omega),if_neg (by omega),if_neg (by omega)]
 ·rw [cP e1]
  by_cases e2:c=2*n
  ·subst e2;rw [bD,if_neg (by omega),if_neg (by omega),if_pos rfl]
  ·rw [cP e2]
   unfold rw1
   by_cases h:c<n
   ·rw [if_neg (by omega),if_pos h]
    by_cases e3:c=i
    ·subst e3;rw [bD,if_pos rfl]
    ·rw [cP e3,if_neg (fun e=>e3 e.symm)];rfl
   ·rw [if_pos ⟨by omega,by omega⟩,if_neg h,if_pos (by omega)]
theorem aKz {M:Nat→Nat→Rat} {q:Nat→Rat} {n i B:Nat} (hM:Bdx n n B M) (hB:B≤1073741824) (hi:i<n) (hn:n≤1000) (K:Nat):∀(t k fu:Nat),k+t=n→t<fu→fJ K (mx M n n) (mp q n) (i:Int) fu (mp (rw1 M n i k) (2*n+2)) (k:Int)=some (mp (rw1 M n i n) (2*n+2))
 |0,k,fu,hk,hf=>by
  obtain⟨fu',rfl,_⟩:=bB hf
  have e:k=n:=by omega
  subst e
  simp only [fJ,bX,dF (show¬(k:Int)<(k:Int) by omega),bJ]
 |t+1,k,fu,hk,hf=>by
  obtain⟨fu',rfl,_⟩:=bB hf
  have hkn:k<n:=by omega
  have c1:aS ((n:Int)+(k:Int))=some ((n+k:Nat):Int):=by rw [lI (by omega)];rfl
  simp only [fJ,bX,dT (show(k:Int)<(n:Int) by omega),bS,c1,oB,aCp (g:=M) (w:=n) hi,eH (f:=M i) hkn,yL (hM i k hi hkn) hB,eH (f:=rw1 M n i k) (n:=2*n+2) (i:=n+k) (by omega),tN (f:=rw1 M n i k) (n:=2*n+2) (i:=n+k) (by omega),aIW hi,m6 (i:=k) (by omega)]
  exact aKz hM hB hi hn K t (k+1) fu' (by omega) (by omega)
theorem aII {M:Nat→Nat→Rat} {q:Nat→Rat} {n i B:Nat} (hM:Bdx n n B M) (hB:B≤1073741824) (hi:i<n) (hn:n≤1000) (K:Nat):∀(t k fu:Nat),k+t=n→t<fu→lH K (mx M n n) (mp q n) (i:Int) fu (mp (rw1 M n i k) (2*n+2)) (k:Int)=some (mp (rw1 M n i n) (2*n+2))
 |0,k,fu,hk,hf=>by
  obtain⟨fu',rfl,_⟩:=bB hf
  have e:k=n:=by omega
  subst e
  simp only [lH,bX,dF (show¬(k:Int)<(k:Int) by omega),bJ]
 |t+1,k,fu,hk,hf=>by
  obtain⟨fu',rfl,_⟩:=bB hf
  have hkn:k<n:=by omega
  have c1:aS ((n:Int)+(k:Int))=some ((n+k:Nat):Int):=by rw [lI (by omega)];rfl
  simp only [lH,bX,dT (show(k:Int)<(n:Int) by omega),bS,c1,oB,aCp (g:=M) (w:=n) hi,eH (f:=M i) hkn,yL (hM i k hi hkn) hB,eH (f:=rw1 M n i k) (n:=2*n+2) (i:=n+k) (by omega),tN (f:=rw1 M n i k) (n:=2*n+2) (i:=n+k) (by omega),aIW hi,m6 (i:=k) (by omega)]
  exact aII hM hB hi hn K t (k+1) fu' (by omega) (by omega)
theorem aSv:zK (-1) 1=some (-1):=by
 rw [aHC (by omega) (by omega)]
 exact congrArg some (by decide+kernel)
theorem aM7 {M:Nat→Nat→Rat} {q:Nat→Rat} {n B:Nat} (hM:Bdx n n B M) (hB:B≤1073741824) (hn:n≤1000) {K:Nat} (hK:n<K):∀(t i fu:Nat),i+t=n→t<fu→eN K (mx M n n) (mp q n) fu (mp (fun j=>((j:Nat):Int)) i) (mp (fun j=>j) i) (mx (uS M q n) i (2*n+2)) (i:Int)=some (mp (fun j=>((j:Nat):Int)) n,mp (fun j=>j) n,mx (uS M q n) n (2*n+2))
 |0,i,fu,hi,hf=>by
  obtain⟨fu',rfl,_⟩:=bB hf
  have e:i=n:=by omega
  subst e
  simp only [eN,bX,dF (show¬(i:Int)<(i:Int) by omega),bJ]
 |t+1,i,fu,hi,hf=>by
  obtain⟨fu',rfl,_⟩:=bB hf
  have hin:i<n:=by omega
  have c1:aS (2*(n:Int))=some ((2*n:Nat):Int):=by rw [lI (by omega)];rfl
  have c2:aS (((2*n:Nat):Int)+2)=some ((2*n+2:Nat):Int):=by rw [lI (by omega)];rfl
  have c3:aS (((2*n:Nat):Int)+1)=some ((2*n+1:Nat):Int):=by rw [lI (by omega)];rfl
  have e116:=aKz (q:=q) hM hB hin hn K n 0 K (by omega) hK
  have e0:mp (rw1 M n i 0) (2*n+2)=mp (kE z0 i 1) (2*n+2):=cF fun c _=>if_neg (by omega)
  rw [e0] at e116
  simp only [Int.natCast_zero] at e116
  have a1:pA (mp (fun j=>j) i) [i]=some (mp (fun j=>j) (i+1)):=apM (g:=fun j=>j) (by omega)
  have a2:pA (mp (fun j=>((j:Nat):Int)) i) [(i:Int)]=some (mp (fun j=>((j:Nat):Int)) (i+1)):=apM (g:=fun j=>((j:Nat):Int)) (by omega)
  have a3:mx (uS M q n) i (2*n+2)++[mp (uS M q n i) (2*n+2)]=mx (uS M q n) (i+1) (2*n+2):=(aEl (fun i=>mp (uS M q n i) (2*n+2)) i).symm
  simp only [eN,bX,dT (show(i:Int)<(n:Int) by omega),bS,c1,c2,aBb (z:=(0:Rat)) (n:=2*n+2) (by omega),aEu,oB,eH (f:=fun _=>(0:Rat)) (n:=2*n+2) (i:=i) (by omega),tN (f:=fun _=>(0:Rat)) (n:=2*n+2) (i:=i) (by omega),show kE (fun _=>(0:Rat)) i 1=kE z0 i 1 from rfl,e116,mL,aSv,eH (f:=rw1 M n i n) (n:=2*n+2) (i:=2*n) (by omega),tN (f:=rw1 M n i n) (n:=2*n+2) (i:=2*n) (by omega),c3,eH (f:=q) hin,eH (f:=kE (rw1 M n i n) (2*n) (-1)) (n:=2*n+2) (i:=2*n+1) (by omega),tN (f:=kE (rw1 M n i n) (2*n) (-1)) (n:=2*n+2) (i:=2*n+1) (by omega),aK6 hin,vU,a1,a2,a3,m6 (i:=i) (by omega)]
  exact aM7 hM hB hn hK t (i+1) fu' (by omega) (by omega)
theorem aKC {M:Nat→Nat→Rat} {q:Nat→Rat} {n B:Nat} (hM:Bdx n n B M) (hB:B≤1073741824) (hn:n≤1000) {K:Nat} (hK:n<K):∀(t i fu:Nat),i+t=n→t<fu→lS K (mx M n n) (mp q n) 1 fu (mp (fun j=>((j:Nat):Int)) i) (mx (uS M q n) i (2*n+2)) (i:Int)=some (mp (fun j=>((j:Nat):Int)) n,mx (uS M q n) n (2*n+2))
 |0,i,fu,hi,hf=>by
  obtain⟨fu',rfl,_⟩:=bB hf
  have e:i=n:=by omega
  subst e
  simp only [lS,bX,dF (show¬(i:Int)<(i:Int) by omega),bJ]
 |t+1,i,fu,hi,hf=>by
  obtain⟨fu',rfl,_⟩:=bB hf
  have hin:i<n:=by omega
  have c1:aS (2*(n:Int))=some ((2*n:Nat):Int):=by rw [lI (by omega)];rfl
  have c2:aS (((2*n:Nat):Int)+2)=some ((2*n+2:Nat):Int):=by rw [lI (by omega)];rfl
  have c3:aS (((2*n:Nat):Int)+1)=some ((2*n+1:Nat):Int):=by rw [lI (by omega)];rfl
  have e318:=aII (q:=q) hM hB hin hn K n 0 K (by omega) hK
  have e0:mp (rw1 M n i 0) (2*n+2)=mp (kE z0 i 1) (2*n+2):=cF fun c _=>if_neg (by omega)
  rw [e0] at e318
  simp only [Int.natCast_zero] at e318
  have a2:pA (mp (fun j=>((j:Nat):Int)) i) [(i:Int)]=some (mp (fun j=>((j:Nat):Int)) (i+1)):=apM (g:=fun j=>((j:Nat):Int)) (by omega)
  have a3:pA (mx (uS M q n) i (2*n+2)) [mp (uS M q n i) (2*n+2)]=some (mx (uS M q n) (i+1) (2*n+2)):=apM (g:=fun i=>mp (uS M q n i) (2*n+2)) (by omega)
  simp only [lS,bX,dT (show(i:Int)<(n:Int) by omega),bS,c1,c2,aBb (z:=(0:Rat)) (n:=2*n+2) (by omega),oB,eH (f:=fun _=>(0:Rat)) (n:=2*n+2) (i:=i) (by omega),tN (f:=fun _=>(0:Rat)) (n:=2*n+2) (i:=i) (by omega),show kE (fun _=>(0:Rat)) i 1=kE z0 i 1 from rfl,e318,u9,aSv,eH (f:=rw1 M n i n) (n:=2*n+2) (i:=2*n) (by omega),tN (f:=rw1 M n i n) (n:=2*n+2) (i:=2*n) (by omega),c3,eH (f:=q) hin,eH (f:=kE (rw1 M n i n) (2*n) (-1)) (n:=2*n+2) (i:=2*n+1) (by omega),tN (f:=kE (rw1 M n i n) (2*n) (-1)) (n:=2*n+2) (i:=2*n+1) (by omega),aK6 hin,a2,a3,m6 (i:=i) (by omega)]
  exact aKC hM hB hn hK t (i+1) fu' (by omega) (by omega)
end Go.Proofs.YtcjdedkdoagifaaGreat
set_option linter.unusedVariables false
namespace Go.Proofs.YtcjdedkdoagifaaGreat
theorem aKs {T:Nat→Nat→Rat} {n i:Nat} {c:Rat}:∀t j,lx T n i c i c t j=false
 |0,_=>rfl
 |t+1,j=>by unfold lx;rw [decide_eq_true (rfl:T i (p5 n j)/c=T i (p5 n j)/c),bS];exact aKs t (j+1)
def aAt (T:Nat→Nat→Rat) (n:Nat):Nat→Nat→Nat→Nat
 |0,_,r=>r
 |t+1,i,r=>bif les T n i 1 r 1 then aAt T n t (i+1) i else aAt T n t (i+1) r
theorem aBS {T:Nat→Nat→Rat} {n:Nat}:∀t i r,r<n→i+t≤n→aAt T n t i r<n
 |0,i,r,hr,_=>hr
 |t+1,i,r,hr,h=>by
  unfold aAt
  cases les T n i 1 r 1
  ·exact aBS t (i+1) r hr (by omega)
  ·exact aBS t (i+1) i (by omega) (by omega)
theorem aL3 {n B:Nat} {rs:List (List Rat)} {od:Nat→Nat} {T:Nat→Nat→Rat} {bs:List Int} (h:aA2 n (2*n+2) rs od T) (hT:Bdx n (2*n+2) B T) (hB:B≤200000000) (hn:n≤1000) {K:Nat} (hK:2000≤K):∀(t i fu r:Nat),i+t=n→t<fu→r<n→gB K ((n:Int),mp od n,bs,rs) 1 fu (r:Int) (i:Int)=some ((aAt T n t i r:Nat):Int)
 |0,i,fu,r,hi,hf,hr=>by
  obtain⟨fu',rfl,_⟩:=bB hf
  simp only [gB,dF (show¬(i:Int)<(n:Int) by omega),bJ,aAt]
 |t+1,i,fu,r,hi,hf,hr=>by
  obtain⟨fu',rfl,_⟩:=bB hf
  have hin:i<n:=by omega
  simp only [gB,dT (show(i:Int)<(n:Int) by omega),bS,aIu (a6:=bs) h hT hin hr aBv aBv (show B+8≤500000000 by omega) hn hK,oB,m6 (i:=i) (by omega),aAt]
  cases les T n i 1 r 1
  ·simp only [bJ];exact aL3 h hT hB hn hK t (i+1) fu' r (by omega) (by omega) hr
  ·simp only [bS];exact aL3 h hT hB hn hK t (i+1) fu' i (by omega) (by omega) hin
theorem aMt {n B:Nat} {T:Nat→Nat→Rat} {a1:List Rat} (h1:a1.length=n) (hT:Bdx n (2*n+2) B T) (hB:B≤200000000) (hn:n≤1000) {K:Nat} (hK:2000≤K):∀(t i fu r:Nat),i+t=n→t<fu→r<n→jN K a1 1 (mx T n (2*n+2)) fu (r:Int) (i:Int)=some ((aAt T n t i r:Nat):Int)
 |0,i,fu,r,hi,hf,hr=>by
  obtain⟨fu',rfl,_⟩:=bB hf
  simp only [jN,h1,dF (show¬(i:Int)<(n:Int) by omega),bJ,aAt]
 |t+1,i,fu,r,hi,hf,hr=>by
  obtain⟨fu',rfl,_⟩:=bB hf
  have hin:i<n:=by omega
  simp only [jN,h1,dT (show(i:Int)<(n:Int) by omega),bS,aCp (g:=T) (w:=2*n+2) hin,aCp (g:=T) (w:=2*n+2) hr,oB,aHx hT hin aBv (by omega) (by omega) hn hK,aHx hT hr aBv (by omega) (by omega) hn hK,aFW hT hin hr aBv aBv (show B+8≤500000000 by omega) hn hK,m6 (i:=i) (by omega),aAt]
  cases les T n i 1 r 1
  ·simp only [bJ];exact aMt h1 hT hB hn hK t (i+1) fu' r (by omega) (by omega) hr
  ·simp only [bS];exact aMt h1 hT hB hn hK t (i+1) fu' i (by omega) (by omega) hin
theorem aD2 {q:Nat→Rat} {n:Nat} (h:ng q n 0=true):0<n:=by
 cases n with
 |zero=>exact absurd (show false=true from h) (by decide)
 |succ m=>exact Nat.succ_pos m
def w9 (M:Nat→Nat→Rat) (q:Nat→Rat) (n most:Nat):aT×Int:=
 bif ng q n 0 then lem n most (most+1) (uS M q n) (fun j=>j) (aAt (uS M q n) n n 0 0) (2*n) 0 else(⟨mp z0 n,mp q n,0⟩,0)
theorem aG1 {M:Nat→Nat→Rat} {q:Nat→Rat} {n r:Nat} (hr:r<n):LI n (uS M q n) (uS M q n) (fun j=>j) r (2*n):=by
 refine⟨aMr,hr,Nat.le_refl _,?_,fun j hj=>by omega,fun _=>by omega⟩
 unfold uS
 rw [if_neg (by omega),if_neg (by omega),if_pos rfl];decide
theorem aGL {T:Nat→Nat→Rat} {n w:Nat}:aA2 n w (mx T n w) (fun j=>j) T:=
 ⟨fun i hi=>by rw [vU];exact hi,fun i j _ _ e=>e,fun i hi=>by unfold mx;rw [List.getD_eq_getElem?_getD,aBI hi];rfl⟩
theorem aMc {M:Nat→Nat→Rat} {q:Nat→Rat} {n:Nat}:∀i,i≤n→swv (uS M q n) (fun j=>j) n i=(fun j=>if j<i then q j else 0)∧szv (uS M q n) (fun j=>j) n i=z0
 |0,_=>⟨funext fun j=>by show(0:Rat)=_;rw [if_neg (show¬j<0 by omega)],rfl⟩
 |i+1,h=>by
  obtain⟨e1,e2⟩:=aMc (M:=M) (q:=q) (n:=n) i (by omega)
  have e3:uS M q n i (2*n+1)=q i:=by unfold uS;rw [if_neg (show¬2*n+1<n by omega),if_neg (show¬2*n+1<2*n by omega),if_neg (show¬2*n+1=2*n by omega)]
  unfold swv szv
  rw [if_pos (show i<n by omega),if_pos (show i<n by omega),e1,e2,e3]
  refine⟨funext fun j=>?_,rfl⟩
  by_cases e:j=i
  ·subst e;rw [bD,if_pos (by omega)]
  ·rw [cP e]
   by_cases e4:j<i
   ·rw [if_pos e4,if_pos (by omega)]
   ·rw [if_neg e4,if_neg (by omega)]
theorem aLK {M:Nat→Nat→Rat} {q:Nat→Rat} {n B most:Nat} (hM:Bdx n n B M) (hq:∀i,i<n→Bd B (q i)) (hZ:Sm n B (uS M q n)) (hB:B≤200000000) (hn:n≤32) (hm:most≤100000) {K:Nat} (hK:5000≤K) (hK2:most<K):
  nV K (mx M n n) (mp q n) (most:Int)=some (w9 M q n most)∧sA K (mx M n n) (mp q n) (most:Int)=some (w9 M q n most):=by
 have hng:=aQG hq (by omega) (show n≤1000 by omega) (show n<K by omega)
 have hT:=hZ _ _ aMr
 have s1:=aM7 (q:=q) hM (by omega) (show n≤1000 by omega) (show n<K by omega) n 0 K (by omega) (by omega)
 have s2:=aKC (q:=q) hM (by omega) (show n≤1000 by omega) (show n<K by omega) n 0 K (by omega) (by omega)
 have z1:mp (fun j=>((j:Nat):Int)) 0=[]:=rfl
 have z2:mp (fun j:Nat=>j) 0=[]:=rfl
 have z3:mx (uS M q n) 0 (2*n+2)=[]:=rfl
 simp only [Int.natCast_zero,z1,z2,z3] at s1 s2
 have st:nO K (mx M n n) (mp q n)=some ((n:Int),mp (fun j=>j) n,mp (fun j=>((j:Nat):Int)) n,mx (uS M q n) n (2*n+2)):=by
  simp only [nO,s1,oB,nE,bX]
 have c1:aS (2*(n:Int))=some ((2*n:Nat):Int):=by rw [lI (by omega)];rfl
 by_cases hneg:ng q n 0=true
 ·have hn0:=aD2 hneg
  have hr:=aBS (T:=uS M q n) n 0 0 hn0 (by omega)
  have l1:=aL3 (bs:=mp (fun j=>((j:Nat):Int)) n) (aGL (T:=uS M q n)) hT hB (show n≤1000 by omega) (show 2000≤K by omega) n 0 K 0 (by omega) (by omega) hn0
  have l2:=aMt (a1:=mp q n) (bX _ _) hT hB (show n≤1000 by omega) (show 2000≤K by omega) (n-1) 1 K 0 (by omega) (by omega) hn0
  have e0:aAt (uS M q n) n (n-1) 1 0=aAt (uS M q n) n n 0 0:=by
   obtain⟨m,rfl⟩:∃m,n=m+1:=⟨n-1,by omega⟩
   have e:les (uS M q (m+1)) (m+1) 0 1 0 1=false:=aKs _ _
   have e2:aAt (uS M q (m+1)) (m+1) (m+1) 0 0=bif les (uS M q (m+1)) (m+1) 0 1 0 1 then aAt (uS M q (m+1)) (m+1) m 1 0 else aAt (uS M q (m+1)) (m+1) m 1 0:=rfl
   rw [e2,e,bJ];rfl
  rw [e0] at l2
  simp only [Int.natCast_zero,Int.natCast_one] at l1 l2
  have r1:=aTl (v6:=((n:Int),mp (fun j=>j) n,mp (fun j=>((j:Nat):Int)) n,mx (uS M q n) n (2*n+2))) rfl hZ hB (show n≤1000 by omega) hm hK (most+1) 0 K _ _ _ _ _ _ (by omega) (by omega) (by omega) aGL (aG1 (M:=M) (q:=q) hr)
  have r2:=aSo (a1:=mp q n) (bX _ _) hZ hB (show n≤1000 by omega) hm hK (most+1) 0 K _ _ _ _ (by omega) (by omega) (by omega) (aG1 (M:=M) (q:=q) hr)
  simp only [Int.natCast_zero] at r1 r2
  constructor
  ·simp only [nV,aGF hM hq (show B≤1073741824 by omega) hn (show 100≤K by omega),oB,Bool.not_true,bJ,dF (show¬(most:Int)<0 by omega),st,hng.1,hneg,aEu,l1,pZ,c1,r1,w9,bS]
  ·simp only [sA,aFw hM hq (show B≤1073741824 by omega) hn (show 100≤K by omega),oB,Bool.not_true,bJ,dF (show¬(most:Int)<0 by omega),hng.2,hneg,aEu,s2,wF,l2,wH,bX,c1,r2,w9,bS]
 ·have hneg':ng q n 0=false:=by cases h:ng q n 0 with|true=>exact absurd h hneg|false=>rfl
  obtain⟨e1,e2⟩:=aMc (M:=M) (q:=q) (n:=n) n (Nat.le_refl _)
  have ps:=aJ7 (b:=fun j=>j) (aGL (T:=uS M q n) (n:=n) (w:=2*n+2)) (show n≤1000 by omega) (show 2000≤K by omega)
  rw [e1,e2,cF (f:=fun j=>if j<n then q j else 0) (g:=q) fun i hi=>if_pos hi] at ps
  constructor
  ·simp only [nV,aGF hM hq (show B≤1073741824 by omega) hn (show 100≤K by omega),oB,Bool.not_true,bJ,dF (show¬(most:Int)<0 by omega),st,hng.1,hneg',Bool.not_false,bS,ps,w9]
  ·simp only [sA,aFw hM hq (show B≤1073741824 by omega) hn (show 100≤K by omega),oB,Bool.not_true,bJ,dF (show¬(most:Int)<0 by omega),hng.2,hneg',Bool.not_false,bS,bX,aBb (z:=(0:Rat)) (n:=n) (by omega),w9]
   rfl
end Go.Proofs.YtcjdedkdoagifaaGreat
set_option linter.unusedVariables false
namespace Go.Proofs.YtcjdedkdoagifaaGreat
/-- The first numbers, then zeros. -/
def tz (z:Nat→Rat) (k:Nat):Nat→Rat:=fun j=>if j<k then z j else 0
theorem aDR {z:Nat→Rat} {k j:Nat} (h:j≠k):tz z (k+1) j=tz z k j:=by
 unfold tz
 by_cases e:j<k
 ·rw [if_pos e,if_pos (by omega)]
 ·rw [if_neg e,if_neg (by omega)]
theorem aKO {z:Nat→Rat} {k j:Nat} (h:j=k):tz z (k+1) j=z k:=by
 subst h;unfold tz;rw [if_pos (Nat.lt_succ_self _)]
theorem aC9 {z:Nat→Rat} {k j:Nat} (h:k≤j):tz z k j=0:=by
 unfold tz;rw [if_neg (by omega)]
theorem aR6 {z:Nat→Rat} {k C:Nat} {n:Nat} (hC:1≤C) (h:∀j,j<n→Bd C (z j)):∀j,j<n→Bd C (tz z k j):=fun j hj=>by
 unfold tz;split
 ·exact h j hj
 ·exact Bd.zero.mono hC
theorem aDQ {v:List Rat} {l:List aA} {z:Nat→Rat} {k r r' q:Nat} (hq:vq v l r q) (hk:k=off v l r+q) (ne:r'≠r):pz v l (tz z (k+1)) r'=pz v l (tz z k) r':=by
 have e:∀q',vq v l r' q'→tz z (k+1) (off v l r'+q')=tz z k (off v l r'+q'):=fun q' h'=>aDR fun e=>ne (aD9 h' hq (by omega)).1
 have e0:tz z (k+1) (off v l r')=tz z k (off v l r'):=e 0 (.inl rfl)
 unfold pz
 rw [e0]
 by_cases ht:(lE l r').t.length=0
 ·rw [if_pos ht,if_pos ht]
 ·rw [if_neg ht,if_neg ht]
  by_cases hs:(rt (lE l r').t v).num.sign=0
  ·have hst:stk v (lE l r')=true:=by
    unfold stk;rw [decide_eq_true (show 0<(lE l r').t.length by omega),decide_eq_true hs];rfl
   rw [if_neg (fun h=>h hs),if_neg (fun h=>h hs),e 1 (.inr ⟨hst,by omega⟩),e 2 (.inr ⟨hst,by omega⟩)]
  ·rw [if_pos hs,if_pos hs]
theorem aRd {v:List Rat} {l:List aA} {z:Nat→Rat} {k r:Nat} (hk:k=off v l r):pz v l (tz z (k+1)) r=⟨z k,if(lE l r).t.length=0 then(pz v l (tz z k) r).f else(((-(rt (lE l r).t v).num.sign:Int):Rat)/((1:Int):Rat))*((lE l r).mu*z k)⟩:=by
 have e0:tz z (k+1) (off v l r)=z k:=aKO hk.symm
 have e1:tz z (k+1) (off v l r+1)=0:=aC9 (by omega)
 have e2:tz z (k+1) (off v l r+2)=0:=aC9 (by omega)
 unfold pz
 rw [e0,e1,e2]
 by_cases ht:(lE l r).t.length=0
 ·simp only [if_pos ht]
 ·simp only [if_neg ht]
  by_cases hs:(rt (lE l r).t v).num.sign=0
  ·have z:((-(0:Int):Int):Rat)/((1:Int):Rat)=0:=by decide+kernel
   rw [if_neg (fun h=>h hs),hs,z,Rat.zero_mul,Rat.sub_self]
  ·rw [if_pos hs]
theorem aFS {v:List Rat} {l:List aA} {z:Nat→Rat} {r:Nat} (h:stk v (lE l r)=true):pz v l z r=⟨z (off v l r),z (off v l r+1)-z (off v l r+2)⟩:=by
 obtain⟨s1,s2⟩:=aJs h
 unfold pz
 rw [if_neg s1,if_neg (fun h=>h s2)]
theorem aQx {v:List Rat} {l:List aA} {z:Nat→Rat} {k r:Nat} (h:stk v (lE l r)=true) (hk:k=off v l r+1):pz v l (tz z (k+1)) r=⟨(pz v l (tz z k) r).n,(pz v l (tz z k) r).f+z k⟩:=by
 rw [aFS h,aFS h,aDR (show off v l r≠k by omega),aKO (show off v l r+1=k by omega),aC9 (show k+1≤off v l r+2 by omega),aC9 (show k≤off v l r+1 by omega),aC9 (show k≤off v l r+2 by omega)]
 simp [Rat.sub_eq_add_neg,Rat.add_zero,Rat.neg_zero,Rat.zero_add]
theorem aQE {v:List Rat} {l:List aA} {z:Nat→Rat} {k r:Nat} (h:stk v (lE l r)=true) (hk:k=off v l r+2):pz v l (tz z (k+1)) r=⟨(pz v l (tz z k) r).n,(pz v l (tz z k) r).f-z k⟩:=by
 rw [aFS h,aFS h,aDR (show off v l r≠k by omega),aDR (show off v l r+1≠k by omega),aKO (show off v l r+2=k by omega),aC9 (show k≤off v l r+2 by omega)]
 simp [Rat.sub_eq_add_neg,Rat.add_zero,Rat.neg_zero]
theorem aQO {v:List Rat} {l:List aA} {z:Nat→Rat} {k r:Nat} (h:stk v (lE l r)=true) (hk:k=off v l r+3):pz v l (tz z (k+1)) r=pz v l (tz z k) r:=by
 rw [aFS h,aFS h,aDR (show off v l r≠k by omega),aDR (show off v l r+1≠k by omega),aDR (show off v l r+2≠k by omega)]
theorem aHz {v:List Rat} {l:List aA} {z:Nat→Rat} {k r q:Nat} {P:Nat→aF} {x:aF} (hq:vq v l r q) (hk:k=off v l r+q) (hx:x=pz v l (tz z (k+1)) r) (hP:∀i,i≠r→P i=pz v l (tz z k) i):mp (kE P r x) l.length=mp (pz v l (tz z (k+1))) l.length:=cF fun i _=>by
 by_cases e:i=r
 ·subst e;rw [bD,hx]
 ·rw [cP e,aDQ hq hk e];exact hP i e
theorem aNu {d:List aG} {f v:List Rat} {l:List aA} {z:Nat→Rat} {C:Nat} {v10:aT×Int} (hv:uD 64 v) (hl:RsC l) (hll:l.length≤100) (hz:∀j,j<off v l l.length→Bd C (z j)) (hC1:1≤C) (hC:C≤100000000) (h10:v10.1.z=mp z (off v l l.length)) {K:Nat} (hK:5000≤K):∀(t k fu:Nat),k+t=off v l l.length→t<fu→dN K d f v l ((zL v l l.length).map pu) v10 fu (mp (pz v l (tz z k)) l.length) (k:Int)=some (mp (pz v l (tz z (off v l l.length))) l.length)
 |0,k,fu,hi,hk=>by
  obtain⟨k',rfl,_⟩:=bB hk
  have e:k=off v l l.length:=by omega
  rw [e]
  simp only [dN,uO,dF (show¬(off v l l.length:Int)<(off v l l.length:Int) by omega),bJ]
 |t+1,k,fu,hi,hk=>by
  obtain⟨k',rfl,_⟩:=bB hk
  have hkl:k<off v l l.length:=by omega
  have h4:=tE (v:=v) (l:=l) l.length
  obtain⟨r,q,h1,h2,h3⟩:=uW l.length k hkl
  have hq3:=vq3 h2
  have ih:=aNu (d:=d) (f:=f) hv hl hll hz hC1 hC h10 hK t (k+1) k' (by omega) (by omega)
  have hb:=aF4 (aR6 (k:=k) hC1 hz) hl r h1
  have hc:=hz k hkl
  have rU:=rdU (v:=v) (l:=l) h2 h1
  rw [←h3] at rU
  have st:∀x,pC (mp (pz v l (tz z k)) l.length) (r:Int) x=some (mp (kE (pz v l (tz z k)) r x) l.length):=fun x=>tN h1
  by_cases q0:q=0
  ·subst q0
   have hk0:k=off v l r:=h3
   have st2:∀x y,pC (mp (kE (pz v l (tz z k)) r x) l.length) (r:Int) y=some (mp (kE (kE (pz v l (tz z k)) r x) r y) l.length):=fun x y=>tN h1
   have rd2:∀x,bT (mp (kE (pz v l (tz z k)) r x) l.length) (r:Int)=some x:=fun x=>by rw [eH h1,bD]
   have p0':=aRd (z:=z) hk0
   by_cases ht:(lE l r).t.length=0
   ·rw [if_pos ht] at p0'
    have bQ:=aHz (P:=pz v l (tz z k)) h2 h3 p0'.symm (fun i _=>rfl)
    simp only [dN,uO,dT (show(k:Int)<(off v l l.length:Int) by omega),bS,rU,oB,eH h1,Int.natCast_zero,qT (show(0:Int)=0 from rfl),h10,eH (f:=z) hkl,st,aB3 h1,dF (show¬(0:Int)<((lE l r).t.length:Int) by omega),bJ,m6 (i:=k) (by omega),bQ]
    exact ih
   ·rw [if_neg ht] at p0'
    have bQ:=aHz (P:=kE (pz v l (tz z k)) r ⟨z k,(pz v l (tz z k) r).f⟩) h2 h3 p0'.symm (fun i hi=>cP hi)
    simp only [dN,uO,dT (show(k:Int)<(off v l l.length:Int) by omega),bS,rU,oB,eH h1,Int.natCast_zero,qT (show(0:Int)=0 from rfl),h10,eH (f:=z) hkl,st,aB3 h1,dT (show(0:Int)<((lE l r).t.length:Int) by omega),bD,aEE hv (hl _ (qQ h1)) hc (by omega) (show 13≤K by omega),st2,m6 (i:=k) (by omega),bQ]
    exact ih
  ·have hst:stk v (lE l r)=true:=by rcases h2 with h|h;exact absurd h q0;exact h.1
   by_cases q1:q=1
   ·subst q1
    have bQ:=aHz (P:=pz v l (tz z k)) h2 h3 (aQx (z:=z) hst h3).symm (fun i _=>rfl)
    simp only [dN,uO,dT (show(k:Int)<(off v l l.length:Int) by omega),bS,rU,oB,eH h1,Int.natCast_one,qF (show(1:Int)≠0 by omega),qT (show(1:Int)=1 from rfl),bJ,h10,eH (f:=z) hkl,xR hb.2 hc (by omega) (by omega),st,m6 (i:=k) (by omega),bQ]
    exact ih
   ·by_cases q2:q=2
    ·subst q2
     have bQ:=aHz (P:=pz v l (tz z k)) h2 h3 (aQE (z:=z) hst h3).symm (fun i _=>rfl)
     simp only [dN,uO,dT (show(k:Int)<(off v l l.length:Int) by omega),bS,rU,oB,eH h1,qF (show((2:Nat):Int)≠0 by omega),qF (show((2:Nat):Int)≠1 by omega),qT (show((2:Nat):Int)=2 from rfl),bJ,h10,eH (f:=z) hkl,aAG hb.2 hc (by omega) (by omega),st,m6 (i:=k) (by omega),bQ]
     exact ih
    ·have q3:q=3:=by omega
     subst q3
     have bQ:mp (pz v l (tz z k)) l.length=mp (pz v l (tz z (k+1))) l.length:=cF fun i _=>by
      by_cases e:i=r
      ·subst e;exact(aQO hst h3).symm
      ·exact(aDQ h2 h3 e).symm
     simp only [dN,uO,dT (show(k:Int)<(off v l l.length:Int) by omega),bS,rU,oB,eH h1,qF (show((3:Nat):Int)≠0 by omega),qF (show((3:Nat):Int)≠1 by omega),qF (show((3:Nat):Int)≠2 by omega),bJ,m6 (i:=k) (by omega)]
     rw [bQ]
     exact ih
end Go.Proofs.YtcjdedkdoagifaaGreat
set_option linter.unusedVariables false
namespace Go.Proofs.YtcjdedkdoagifaaGreat
theorem zI {d:List aG} {f v:List Rat} {l:List aA} {r:aA} (h:(xE d.length v r&&pD v r)=false):aAc d f v (l++[r])=false:=by
 unfold aAc
 have:((l++[r]).all fun r=>xE d.length v r&&pD v r)=false:=by
  rw [List.all_append,List.all_cons,h,Bool.false_and,Bool.and_false]
 rw [this,Bool.and_false]
theorem aFc {d:List aG} {f v:List Rat} {l:List aA} (h:¬(d.length≤12∧f.length=d.length∧v.length=d.length)):aAc d f v l=false:=by
 unfold aAc
 rw [decide_eq_false h,Bool.false_and,Bool.false_and]
theorem aHj {d:List aG} {f v:List Rat} {l:List aA} {r:aA} (h:SB d f v l) (hl:l.length≤99) (hr:RC r):SB d f v (l++[r]):=
 ⟨h.sd,h.dl,h.sf,h.fl,h.sv,h.vl,h.sl.snoc hr,by simp;omega⟩
theorem bd1:Bd 1 (1:Rat):=by constructor<;>decide
theorem aRQ:∃q,zK (-1) 3=some q∧q<0∧Bd 8 q:=by
 obtain⟨q,h1,h2,h3⟩:=aBs (k:=8) (p:=-1) (q:=3) (by decide) (by decide) (by decide) (by omega)
 exact⟨q,h1,by rw [h2];decide+kernel,h3⟩
theorem aNI {s:aI} (hs:aO7 s) (hsb:SB s.dofs s.load s.v s.rows) {a1:Int} (h1:-9223372036854775808≤a1∧a1≤9223372036854775807):∃b,pT s a1=some b∧SB b.dofs b.load b.v b.rows∧aAc b.dofs b.load b.v b.rows=false:=by
 obtain⟨c,c1,c2,c3⟩:=xK (x:=a1) (m:=8) h1 (by omega)
 have hn1:=hs.n1
 have hn4:=hs.n4
 have hll:=hs.ll
 have hvl:=hs.vl
 have hrl:=hs.rl
 have en:aS ((s.dofs.length:Int)-1)=some ((s.dofs.length-1:Nat):Int):=by rw [show(s.dofs.length:Int)-1=((s.dofs.length-1:Nat):Int) by omega,lI (by omega)]
 have aR:∀xs:List Rat,xs.length≤1000→pA ([]:List Rat) xs=some xs:=fun xs h=>by rw [xL (by simp;omega)];rfl
 have aW:∀xs:List aA,xs.length≤1000→pA ([]:List aA) xs=some xs:=fun xs h=>by rw [xL (by simp;omega)];rfl
 have aD:∀xs:List aG,xs.length≤1000→pA ([]:List aG) xs=some xs:=fun xs h=>by rw [xL (by simp;omega)];rfl
 have cut:∀{α:Type} (xs:List α),xs.length=s.dofs.length→slL xs 0 ((s.dofs.length-1:Nat):Int)=some (xs.take (s.dofs.length-1)):=fun xs h=>by
  unfold slL
  rw [if_pos ⟨by omega,by omega,by omega⟩]
  simp
 have hc:c=0∨c=1∨c=2∨c=3∨c=4∨c=5∨c=6∨c=7:=by omega
 have tb1:∀x:Int,TB [(⟨x,1⟩:aC)]:=fun x=>⟨by simp,fun t ht=>by rw [List.mem_singleton.1 ht];exact bd1.mono (by omega)⟩
 have tk0:∀(n:Nat) (x:Int),¬(0≤x∧x<(n:Int))→tOk n [(⟨x,1⟩:aC)]=false:=fun n x h=>by
  have:tk n [(⟨x,1⟩:aC)] 0=false:=decide_eq_false fun h2=>h ⟨h2.1,h2.2.1⟩
  show(tk n [(⟨x,1⟩:aC)] 0&&true)=false
  rw [this];rfl
 unfold pT
 simp only [aEu,c1,oB]
 rcases hc with rfl|rfl|rfl|rfl|rfl|rfl|rfl|rfl
 ·refine⟨⟨s.dofs,s.load++[1],s.v,s.rows⟩,by simp only [qT (show(0:Int)=0 from rfl),bS,aR s.load (by omega),apS (xs:=s.load) (x:=(1:Rat)) (by omega),oB],?_,aFc (by simp;omega)⟩
  exact⟨hsb.sd,hsb.dl,hsb.sf.snoc (bd1.mono (by omega)),by simp;omega,hsb.sv,hsb.vl,hsb.sl,hsb.ll⟩
 ·refine⟨⟨s.dofs,s.load,s.v.take (s.dofs.length-1),s.rows⟩,by simp only [qF (show(1:Int)≠0 by omega),qT (show(1:Int)=1 from rfl),bJ,bS,en,oB,cut s.v hvl],?_,aFc (by simp;omega)⟩
  exact⟨hsb.sd,hsb.dl,hsb.sf,hsb.fl,fun x hx=>hsb.sv x (List.mem_of_mem_take hx),by simp;omega,hsb.sl,hsb.ll⟩
 ·refine⟨⟨s.dofs,s.load,s.v,s.rows++[⟨0,0,0,0,0,[⟨(s.dofs.length:Int),1⟩],[],0,0⟩]⟩,by simp only [qF (show(2:Int)≠0 by omega),qF (show(2:Int)≠1 by omega),qT (show(2:Int)=2 from rfl),bJ,bS,aW s.rows (by omega),apS (xs:=s.rows) (x:=(⟨0,0,0,0,0,[⟨(s.dofs.length:Int),1⟩],[],0,0⟩:aA)) (by omega),oB],aHj hsb (by omega) ⟨⟨tb1 _,TB.nil⟩,Bd.zero.mono (by omega)⟩,zI ?_⟩
  have e:=tk0 s.dofs.length (s.dofs.length:Int) (by omega)
  unfold xE
  simp only [e,Bool.false_and]
 ·refine⟨⟨s.dofs,s.load,s.v,s.rows++[⟨0,0,0,0,0,[],[⟨0,1⟩,⟨0,1⟩],0,0⟩]⟩,by simp only [qF (show(3:Int)≠0 by omega),qF (show(3:Int)≠1 by omega),qF (show(3:Int)≠2 by omega),qT (show(3:Int)=3 from rfl),bJ,bS,aW s.rows (by omega),apS (xs:=s.rows) (x:=(⟨0,0,0,0,0,[],[⟨0,1⟩,⟨0,1⟩],0,0⟩:aA)) (by omega),oB],aHj hsb (by omega) ⟨⟨TB.nil,by simp,fun t ht=>?_⟩,Bd.zero.mono (by omega)⟩,zI ?_⟩
  ·have:t=⟨0,1⟩:=by simpa using ht
   rw [this];exact bd1.mono (by omega)
  ·have e:tOk s.dofs.length [(⟨0,1⟩:aC),⟨0,1⟩]=false:=by
    have:tk s.dofs.length [(⟨0,1⟩:aC),⟨0,1⟩] 1=false:=decide_eq_false fun h2=>absurd (h2.2.2 (by omega)) (by decide)
    show(tk s.dofs.length _ 0&&(tk s.dofs.length _ 1&&true))=false
    rw [this,Bool.false_and,Bool.and_false]
   unfold xE
   simp only [e,Bool.and_false,Bool.false_and]
 ·obtain⟨q,q1,q2,q3⟩:=aRQ
  refine⟨⟨s.dofs,s.load,s.v,s.rows++[⟨0,0,0,0,0,[],[],q,0⟩]⟩,by simp only [qF (show(4:Int)≠0 by omega),qF (show(4:Int)≠1 by omega),qF (show(4:Int)≠2 by omega),qF (show(4:Int)≠3 by omega),qT (show(4:Int)=4 from rfl),bJ,bS,aW s.rows (by omega),q1,apS (xs:=s.rows) (x:=(⟨0,0,0,0,0,[],[],q,0⟩:aA)) (by omega),oB],aHj hsb (by omega) ⟨⟨TB.nil,TB.nil⟩,q3⟩,zI ?_⟩
  have e:decide (0≤q.num.sign)=false:=decide_eq_false (by rw [aOQ q2];omega)
  unfold xE
  simp only [e,Bool.and_false,Bool.false_and]
 ·refine⟨⟨s.dofs.take (s.dofs.length-1)++[⟨0,0,false,0,0⟩],s.load,s.v,s.rows⟩,by simp only [qF (show(5:Int)≠0 by omega),qF (show(5:Int)≠1 by omega),qF (show(5:Int)≠2 by omega),qF (show(5:Int)≠3 by omega),qF (show(5:Int)≠4 by omega),qT (show(5:Int)=5 from rfl),bJ,bS,en,oB,cut s.dofs rfl,aD (s.dofs.take (s.dofs.length-1)) (by simp;omega),apS (xs:=s.dofs.take (s.dofs.length-1)) (x:=(⟨0,0,false,0,0⟩:aG)) (by simp;omega)],?_,?_⟩
  ·refine⟨fun x hx=>?_,by simp;omega,hsb.sf,hsb.fl,hsb.sv,hsb.vl,hsb.sl,hsb.ll⟩
   rcases List.mem_append.1 hx with h|h
   ·exact hsb.sd x (List.mem_of_mem_take h)
   ·rw [List.mem_singleton.1 h];exact Bd.zero.mono (by omega)
  ·unfold aAc
   have e:(s.dofs.take (s.dofs.length-1)++[(⟨0,0,false,0,0⟩:aG)]).all aCj=false:=by
    rw [List.all_append,List.all_cons,show aCj ⟨0,0,false,0,0⟩=false from rfl,Bool.false_and,Bool.and_false]
   rw [e,Bool.and_false,Bool.false_and]
 ·have e1:(s.v.take (s.dofs.length-1)++[(1:Rat)]).length=s.dofs.length:=by simp;omega
  refine⟨⟨s.dofs,s.load,s.v.take (s.dofs.length-1)++[1],s.rows++[⟨0,0,0,0,0,[⟨((s.dofs.length-1:Nat):Int),1⟩],[],0,0⟩]⟩,by simp only [qF (show(6:Int)≠0 by omega),qF (show(6:Int)≠1 by omega),qF (show(6:Int)≠2 by omega),qF (show(6:Int)≠3 by omega),qF (show(6:Int)≠4 by omega),qF (show(6:Int)≠5 by omega),qT (show(6:Int)=6 from rfl),bJ,bS,en,oB,cut s.v hvl,aR (s.v.take (s.dofs.length-1)) (by simp;omega),apS (xs:=s.v.take (s.dofs.length-1)) (x:=(1:Rat)) (by simp;omega),aW s.rows (by omega),apS (xs:=s.rows) (x:=(⟨0,0,0,0,0,[⟨((s.dofs.length-1:Nat):Int),1⟩],[],0,0⟩:aA)) (by omega)],?_,zI ?_⟩
  ·refine⟨hsb.sd,hsb.dl,hsb.sf,hsb.fl,fun x hx=>?_,by rw [e1];omega,hsb.sl.snoc ⟨⟨tb1 _,TB.nil⟩,Bd.zero.mono (by omega)⟩,by simp;omega⟩
   rcases List.mem_append.1 hx with h|h
   ·exact hsb.sv x (List.mem_of_mem_take h)
   ·rw [List.mem_singleton.1 h];exact bd1.mono (by omega)
  ·have e2:rt [(⟨((s.dofs.length-1:Nat):Int),1⟩:aC)] (s.v.take (s.dofs.length-1)++[(1:Rat)])=1:=by
    show(0:Rat)+trm _ _=1
    unfold trm
    rw [decide_eq_true (show(0:Int)≤((s.dofs.length-1:Nat):Int)∧((s.dofs.length-1:Nat):Int)<(((s.v.take (s.dofs.length-1)++[(1:Rat)]).length:Nat):Int) by rw [e1];omega),Rat.zero_add]
    show(1:Rat)*qB _ (((s.dofs.length-1:Nat):Int)).toNat=1
    rw [Int.toNat_natCast,Rat.one_mul]
    unfold qB
    rw [List.getD_eq_getElem?_getD,List.getElem?_append_right (by simp;omega),List.length_take,Nat.min_eq_left (by omega),Nat.sub_self];rfl
   have e3:pD (s.v.take (s.dofs.length-1)++[(1:Rat)]) ⟨0,0,0,0,0,[⟨((s.dofs.length-1:Nat):Int),1⟩],[],0,0⟩=false:=by
    unfold pD
    rw [e2];rfl
   rw [e3,Bool.and_false]
 ·refine⟨⟨s.dofs,s.load,s.v,s.rows++[⟨0,0,0,0,0,[⟨-1,1⟩],[],0,0⟩]⟩,by simp only [qF (show(7:Int)≠0 by omega),qF (show(7:Int)≠1 by omega),qF (show(7:Int)≠2 by omega),qF (show(7:Int)≠3 by omega),qF (show(7:Int)≠4 by omega),qF (show(7:Int)≠5 by omega),qF (show(7:Int)≠6 by omega),qT (show(7:Int)=7 from rfl),bJ,bS,aW s.rows (by omega),apS (xs:=s.rows) (x:=(⟨0,0,0,0,0,[⟨-1,1⟩],[],0,0⟩:aA)) (by omega),oB],aHj hsb (by omega) ⟨⟨tb1 _,TB.nil⟩,Bd.zero.mono (by omega)⟩,zI ?_⟩
  have e:=tk0 s.dofs.length (-1) (by omega)
  unfold xE
  simp only [e,Bool.false_and]
theorem aO7.sbd {s:aI} (hs:aO7 s):SB s.dofs s.load s.v s.rows:=by
 have hn1:=hs.n1
 have hn4:=hs.n4
 have hll:=hs.ll
 have hvl:=hs.vl
 have hrl:=hs.rl
 exact⟨fun x hx=>(hs.dofs x hx).1,by omega,fun x hx=>(hs.load x hx).mono (by omega),by omega,fun x hx=>(hs.v x hx).mono (by omega),by omega,hs.mus,by omega⟩
end Go.Proofs.YtcjdedkdoagifaaGreat
set_option linter.unusedVariables false
namespace Go.Proofs.YtcjdedkdoagifaaGreat
theorem aNr {n B:Nat} {T:Nat→Nat→Rat} {b:Nat→Nat} (hT:Bdx n (2*n+2) B T) (hB:1≤B):∀i,i≤n→∀j,Bd B (szv T b n i j)
 |0,_,j=>Bd.zero.mono hB
 |i+1,h,j=>by
  have ih:=aNr (b:=b) hT hB i (by omega)
  unfold szv
  split
  ·exact ih j
  ·split
   ·by_cases e:j=b i-n
    ·subst e;rw [bD];exact hT i _ (by omega) (by omega)
    ·rw [cP e];exact ih j
   ·exact ih j
theorem aPL {n most B:Nat} {Z:Nat→Nat→Rat} (hZ:Sm n B Z) (hB:1≤B):∀(f:Nat) (T:Nat→Nat→Rat) (b:Nat→Nat) (r c cnt:Nat),LI n Z T b r c→(lem n most f T b r c cnt).2=0→(lem n most f T b r c cnt).1.z.length=n∧uD B (lem n most f T b r c cnt).1.z
 |0,T,b,r,c,cnt,h,h0=>absurd (show(16:Int)=0 from h0) (by decide)
 |f+1,T,b,r,c,cnt,h,h0=>by
  unfold lem at h0 ⊢
  by_cases e:cnt=most
  ·rw [if_pos e] at h0;exact absurd h0 (by decide)
  ·rw [if_neg e] at h0 ⊢
   have hcw:=h.hc
   by_cases e2:b r=2*n
   ·rw [if_pos e2]
    have ti':=h.ti.pivot h.hr (show c<2*n+2 by omega) h.hp
    exact⟨bX _ _,aBy fun j _=>aNr (hZ _ _ ti') hB n (Nat.le_refl _) j⟩
   ·rw [if_neg e2] at h0 ⊢
    cases hs:sel (wL T r c) n (if b r<n then b r+n else b r-n) n 0 none with
    |none=>rw [hs] at h0;exact absurd (show(15:Int)=0 from h0) (by decide)
    |some r'=>
     rw [hs] at h0
     exact aPL hZ hB f _ _ _ _ _ (h.next e2 hs) h0
theorem aMP {M:Nat→Nat→Rat} {q:Nat→Rat} {n B most:Nat} (hZ:Sm n B (uS M q n)) (hB:1≤B) (h0:(w9 M q n most).2=0):(w9 M q n most).1.z.length=n∧uD B (w9 M q n most).1.z:=by
 unfold w9 at h0 ⊢
 by_cases hneg:ng q n 0=true
 ·rw [hneg,bS] at h0 ⊢
  exact aPL hZ hB _ _ _ _ _ _ (aG1 (aBS n 0 0 (aD2 hneg) (by omega))) h0
 ·have hneg':ng q n 0=false:=by cases h:ng q n 0 with|true=>exact absurd h hneg|false=>rfl
  rw [hneg',bJ]
  exact⟨bX _ _,aBy fun j _=>Bd.zero.mono hB⟩
theorem pw4 {D k m:Nat} (h:D≤2^k) (e:4*k+56=m):64*(2^50*(D*D*D*D))≤2^m:=by
 have e2:=Nat.mul_le_mul (Nat.mul_le_mul (Nat.mul_le_mul h h) h) h
 rw [←Nat.pow_add,←Nat.pow_add,←Nat.pow_add] at e2
 have e3:=Nat.mul_le_mul (Nat.le_refl (2^6)) (Nat.mul_le_mul (Nat.le_refl (2^50)) e2)
 rw [←Nat.pow_add,←Nat.pow_add] at e3
 rw [show m=6+(50+(k+k+k+k)) by omega]
 exact e3
theorem pw8 {D k m:Nat} (h:D≤256^k) (e:8*k=m):D≤2^m:=by
 rw [show(256:Nat)=2^8 from rfl,←Nat.pow_mul,e] at h;exact h
theorem pwn {x k m n:Nat} (h:x≤2^k) (e:k*n<m):x^n<2^m:=by
 refine Nat.lt_of_le_of_lt (Nat.pow_le_pow_left h n) ?_
 rw [←Nat.pow_mul]
 exact Nat.pow_lt_pow_right (by decide) e
theorem aRP {D n sz:Nat} (hs:sz=100000) (hD:D≤256^149) (hn:n≤20):(64*(2^50*(D*D*D*D)))^n<2^sz:=
 pwn (pw4 (pw8 hD (m:=1192) (by decide)) (m:=4824) (by decide)) (by omega)
theorem aNn {d:List aG} {f v:List Rat} {l:List aA} (h:ScB d f v l) (hm:l.length≤5) (h8:∀j,j<d.length→Bd 8 (qB f j)):Sm (off v l l.length) 100000 (uS (Mf d v l) (qf d (qB f) v l) (off v l l.length)):=fun T b hT=>by
 obtain⟨D,hD,hle⟩:=aSR (f:=qB f) h.sb.sd h.n8 h8 h.sb.sl hm
 have hrb:RsB l:=fun r hr=>(h.sb.sl r hr).1
 have h4:=tE (v:=v) (l:=l) l.length
 have hp:(((D^4:Nat)):Rat)≠0:=by
  have:=Nat.pow_pos (n:=4) (show 0<D from hD.pos)
  intro e
  have e2:D^4=0:=by exact_mod_cast e
  omega
 obtain⟨k,hk⟩:∃k,k=100000:=⟨_,rfl⟩
 rw [←hk]
 exact hT.bd hp (fun i c hi _=>aQs hD hrb hm hi) (by omega) (aRP hk hle (by omega))
def aDL (d:List aG) (f v:List Rat) (l:List aA):List Rat×List aF×Int:=
 bif(w9 (Mf d v l) (qf d (qB f) v l) (off v l l.length) 4096).2 != 0 then([],[],(w9 (Mf d v l) (qf d (qB f) v l) (off v l l.length) 4096).2)
 else(mp (yH d (qB f) l (pz v l (qB (w9 (Mf d v l) (qf d (qB f) v l) (off v l l.length) 4096).1.z))) d.length,mp (pz v l (qB (w9 (Mf d v l) (qf d (qB f) v l) (off v l l.length) 4096).1.z)) l.length,0)
theorem aQT {x:List Rat} {n:Nat} (h:x.length=n):tz (qB x) n=qB x:=funext fun j=>by
 unfold tz
 by_cases e:j<n
 ·rw [if_pos e]
 ·rw [if_neg e];unfold qB;rw [List.getD_eq_getElem?_getD,List.getElem?_eq_none (by omega)];rfl
theorem aLS {d:List aG} {f v:List Rat} {l:List aA} (h:ScB d f v l) (hf:aAc d f v l=true) (hm:l.length≤5) (h8:∀j,j<d.length→Bd 8 (qB f j)) {K:Nat} (hK:6000≤K):qA K d f v l=some (aDL d f v l)∧uV K d f v l=some (aDL d f v l):=by
 have h4:=tE (v:=v) (l:=l) l.length
 have hn:=h.n8
 have hrb:RsB l:=fun r hr=>(h.sb.sl r hr).1
 have e1:=aHP h (show 5000≤K by omega)
 have e2:=aIr h hf (show 5000≤K by omega)
 have hq1:∀i,i<off v l l.length→Bd 100000 (qf d (qB f) v l i):=fun i hi=>by rw [←aHB (n:=0)];exact h.vbd (z:=z0) (fun _=>Bd.zero) hi
 have hq:∀i,i<off v l l.length→Bd 300000 (qf d (qB f) v l i):=fun i hi=>(hq1 i hi).mono (by omega)
 have hM:Bdx (off v l l.length) (off v l l.length) 300000 (Mf d v l):=fun i c hi _=>by
  rw [←aNy (f:=qB f)]
  exact((h.vbd (z:=ek c) (fun _=>aKi) hi).sub (hq1 i hi)).mono (by omega)
 have hZ:=aNn h hm h8
 have hZ3:Sm (off v l l.length) 300000 (uS (Mf d v l) (qf d (qB f) v l) (off v l l.length)):=fun T b hT i c hi hc=>(hZ T b hT i c hi hc).mono (by omega)
 obtain⟨c1,c2⟩:=aLK (most:=4096) hM hq hZ3 (by omega) (show off v l l.length≤32 by omega) (by omega) (show 5000≤K by omega) (by omega)
 have u1:=aDO (d:=d) (f:=f) h.sb.sv hrb (show l.length≤1000 by omega) (show 2000≤K by omega)
 have u2:=yM h.sb.sv hrb (show l.length≤1000 by omega) (show 2000≤K by omega)
 have t1:((4096:Nat):Int)=4096:=rfl
 rw [t1] at c1 c2
 by_cases h0:(w9 (Mf d v l) (qf d (qB f) v l) (off v l l.length) 4096).2=0
 ·obtain⟨z1,z2⟩:=aMP hZ (by omega) h0
  generalize hx:w9 (Mf d v l) (qf d (qB f) v l) (off v l l.length) 4096=X at *
  have zb:∀j,j<off v l l.length→Bd 100000 (qB X.1.z j):=fun j hj=>z2 _ (u8 (by omega))
  have zm:X.1.z=mp (qB X.1.z) (off v l l.length):=by rw [←z1];exact aNH _
  have pb:=aF4 zb h.sb.sl
  have pl:=aNu (d:=d) (f:=f) (v10:=X) h.sb.sv h.sb.sl (show l.length≤100 by omega) zb (by omega) (by omega) zm (show 5000≤K by omega) (off v l l.length) 0 K (by omega) (by omega)
  rw [aQT z1] at pl
  have p00:mp (pz v l (tz (qB X.1.z) 0)) l.length=mp (fun _=>(⟨0,0⟩:aF)) l.length:=cF fun i _=>by
   rw [show tz (qB X.1.z) 0=z0 from funext fun j=>aC9 (Nat.zero_le _)];exact aJ0
  rw [p00] at pl
  simp only [Int.natCast_zero] at pl
  have rp:=aF3 h.sb.sv h.sb.sl zb (by omega) (show l.length≤1000 by omega) (show 5000≤K by omega)
  rw [←zm] at rp
  have hA:(2*100000+11+9)*24*l.length≤400000000:=Nat.le_trans (Nat.mul_le_mul_left _ hm) (by decide)
  have a1:=aEa (f0:=f) (v0:=v) h.sb.sd (by omega) h.fbd hrb h.ir (by omega) pb (by omega) hA (show 2000≤K by omega)
  have a2:=aD3 h.sb.sd (by omega) h.fbd hrb h.ir (by omega) pb (by omega) hA (show 2000≤K by omega)
  rw [←h.fmp] at a1 a2
  unfold aDL
  rw [hx]
  constructor
  ·simp only [qA,aEj h.sb (show 200≤K by omega),hf,oB,Bool.not_true,bJ,u1,uO,dF (show¬(32:Int)<(off v l l.length:Int) by omega),e1,c1,nF h0,aBb (z:=(⟨0,0⟩:aF)) (n:=l.length) (by omega),pl,tT,a1]
  ·simp only [uV,aG4 h.sb (show 200≤K by omega),hf,oB,Bool.not_true,bJ,u2,aBt,dF (show¬(32:Int)<(off v l l.length:Int) by omega),e2,c2,nF h0,rp,a2]
 ·unfold aDL
  constructor
  ·simp only [qA,aEj h.sb (show 200≤K by omega),hf,oB,Bool.not_true,bJ,u1,uO,dF (show¬(32:Int)<(off v l l.length:Int) by omega),e1,c1,nT h0,bS]
  ·simp only [uV,aG4 h.sb (show 200≤K by omega),hf,oB,Bool.not_true,bJ,u2,aBt,dF (show¬(32:Int)<(off v l l.length:Int) by omega),e2,c2,nT h0,bS]
end Go.Proofs.YtcjdedkdoagifaaGreat
set_option linter.unusedVariables false
namespace Go.Proofs.YtcjdedkdoagifaaGreat
def zr:aA:=⟨0,0,0,0,0,[],[],0,0⟩
def more:Nat→List aA→List aA
 |0,l=>l
 |t+1,l=>more t (l++[zr])
end Go.Proofs.YtcjdedkdoagifaaGreat
set_option linter.unusedVariables false
namespace Go.Proofs.YtcjdedkdoagifaaGreat
end Go.Proofs.YtcjdedkdoagifaaGreat
set_option linter.unusedVariables false
namespace Go.Proofs.YtcjdedkdoagifaaGreat
/-- Terms of the first n places, in order. -/
def IO (n:Nat) (l:List aC):Prop:=InT n l∧l.Pairwise (fun a b=>a.dof<b.dof)
theorem IO.nil {n:Nat}:IO n []:=⟨fun t h=>absurd h List.not_mem_nil,List.Pairwise.nil⟩
theorem IO.up {n:Nat} {l:List aC} (h:IO n l):IO (n+1) l:=⟨fun t ht=>⟨(h.1 t ht).1,by have:=(h.1 t ht).2;omega⟩,h.2⟩
theorem IO.snoc {n:Nat} {l:List aC} {q:Rat} (h:IO n l):IO (n+1) (l++[⟨(n:Int),q⟩]):=by
 refine⟨fun t ht=>?_,List.pairwise_append.2 ⟨h.2,List.pairwise_singleton _ _,fun a ha b hb=>?_⟩⟩
 ·rcases List.mem_append.1 ht with h1|h1
  ·exact h.up.1 t h1
  ·rw [List.mem_singleton.1 h1];exact⟨by simp only;omega,by simp only;omega⟩
 ·rw [List.mem_singleton.1 hb];exact(h.1 a ha).2
def NT (n:Nat) (l:List aC):Prop:=TB l∧IO n l
def RN (n w:Nat) (r:aA):Prop:=RC r∧IO w r.j∧IO n r.t∧0≤r.mu
def RsN (n w:Nat) (l:List aA):Prop:=∀r∈l,RN n w r
theorem RsN.snoc {n w:Nat} {l:List aA} {r:aA} (h:RsN n w l) (hr:RN n w r):RsN n w (l++[r]):=fun x hx=>by
 rcases List.mem_append.1 hx with h1|h1
 ·exact h x h1
 ·rw [List.mem_singleton.1 h1];exact hr
theorem aDA {n:Nat} (hn:n≤12):∀(t i:Nat) (out:List aC) (v:Int),i+t=n→0≤v→v≤4000000000000→out.length≤i→(∀t∈out,Bd 8 t.k)→IO i out→∃r,NT n r∧∀K k,t<k→eS K (n:Int) k out v (i:Int)=some r
 |0,i,out,v,hi,h0,h1,hl,hb,hd=>⟨out,⟨⟨by omega,hb⟩,by rw [show n=i by omega];exact hd⟩,fun K k hk=>by
  obtain⟨k',rfl,_⟩:=bB hk
  simp only [eS,dF (show¬(i:Int)<(n:Int) by omega),bJ]⟩
 |t+1,i,out,v,hi,h0,h1,hl,hb,hd=>by
  have m7:=aDH (a:=v) (m:=7) h0 (by omega)
  obtain⟨x,x1,x2,x3⟩:=tab7 m7.1 m7.2
  have m3:=aDH (a:=v/7) (m:=3) (by omega) (by omega)
  have e1:xG v 7=some (v%7):=oG h0 (by omega)
  have e2:w7 v 7=some (v/7):=tO h0 (by omega) (by omega)
  have e3:xG (v/7) 3=some (v/7%3):=oG (by omega) (by omega)
  have e4:w7 (v/7) 3=some (v/7/3):=tO (by omega) (by omega) (by omega)
  have e5:aS (1+v/7%3)=some (1+v/7%3):=lI (by omega)
  by_cases hx:x=0
  ·obtain⟨r,r1,r2⟩:=aDA hn t (i+1) out (v/7/3) (by omega) (by omega) (by omega) (by omega) hb hd.up
   refine⟨r,r1,fun K k hk=>?_⟩
   obtain⟨k',rfl,_⟩:=bB hk
   simp only [eS,dT (show(i:Int)<(n:Int) by omega),bS,e1,oB,x1,e2,nF hx,bJ,e4,m6 (i:=i) (by omega)]
   exact r2 K k' (by omega)
  ·obtain⟨q,q1,q2,q3⟩:=aBs (k:=8) (p:=x) (q:=1+v/7%3) (by omega) (by omega) (by omega) (by omega)
   obtain⟨r,r1,r2⟩:=aDA hn t (i+1) (out++[⟨(i:Int),q⟩]) (v/7/3) (by omega) (by omega) (by omega) (by simp;omega) (fun t ht=>by
    rcases List.mem_append.1 ht with h|h
    ·exact hb t h
    ·rw [List.mem_singleton.1 h];exact q3) hd.snoc
   refine⟨r,r1,fun K k hk=>?_⟩
   obtain⟨k',rfl,_⟩:=bB hk
   simp only [eS,dT (show(i:Int)<(n:Int) by omega),bS,e1,oB,x1,e2,nT hx,e3,e5,q1,apS (xs:=out) (x:=(⟨(i:Int),q⟩:aC)) (by omega),e4,m6 (i:=i) (by omega)]
   exact r2 K k' (by omega)
theorem aFl {n:Nat} (hn:n≤12) {v:Int} (h0:0≤v) (h1:v≤4000000000000):∃r,NT n r∧∀K,n<K→eJ K v (n:Int)=some r:=by
 obtain⟨r,r1,r2⟩:=aDA hn n 0 [] v (by omega) h0 h1 (by simp) (fun t h=>absurd h List.not_mem_nil) IO.nil
 refine⟨r,r1,fun K hK=>?_⟩
 have:=r2 K K hK
 simp only [Int.natCast_zero] at this
 simp only [eJ,this,oB,pY]
theorem aM9 {p q:Int} (hp:0≤p) (hq:0<q):(0:Rat)≤(p:Rat)/(q:Rat):=by
 rw [←Rat.divInt_eq_div]
 exact(Rat.divInt_nonneg_iff_of_pos_right hq).2 hp
theorem aNg {q:Rat} (h:0≤q):0≤q.num.sign:=by
 have h2:=Rat.num_nonneg.2 h
 rcases Int.lt_or_eq_of_le h2 with h|h
 ·rw [Int.sign_eq_one_of_pos h];omega
 ·rw [←h];decide
theorem aRv {q:Rat} (h:0≤q) (h0:q≠0):0<q.num.sign:=by
 have h1:=aNg h
 have h2:q.num.sign≠0:=fun e=>h0 (aBh.1 e)
 omega
theorem aGo {l:List Int} (hl:aHV l) (i:Nat) (hi:i≤10) (n:Nat) (hn:1≤n∧n≤4):∃v129 v137 v145 v151 q r131 r139 r197,
  bO l (9+3*(i:Int)) 1099511627776=some v129∧bO l (10+3*(i:Int)) 1099511627776=some v137∧bO l (11+3*(i:Int)) 5=some v145∧bO l (11+3*(i:Int)) 3=some v151∧aS (1+v151)=some (1+v151)∧zK v145 (1+v151)=some q∧Bd 8 q∧0≤v129∧v129≤4000000000000∧NT n r131∧NT n r139∧NT (n-1) r197∧0≤q∧
  ∀K,n<K→eJ K v129 (n:Int)=some r131∧eJ K v137 (n:Int)=some r139∧eJ K v129 ((n:Int)-1)=some r197:=by
 obtain⟨v,v1,v2,v3⟩:=aCc hl (9+3*(i:Int)) (m:=1099511627776) (by omega)
 obtain⟨w,w1,w2,w3⟩:=aCc hl (10+3*(i:Int)) (m:=1099511627776) (by omega)
 obtain⟨x,x1,x2,x3⟩:=aCc hl (11+3*(i:Int)) (m:=5) (by omega)
 obtain⟨y,y1,y2,y3⟩:=aCc hl (11+3*(i:Int)) (m:=3) (by omega)
 obtain⟨q,q1,q2,q3⟩:=aBs (k:=8) (p:=x) (q:=1+y) (by omega) (by omega) (by omega) (by omega)
 obtain⟨a,a1,a2⟩:=aFl (n:=n) (v:=v) (by omega) v2 (by omega)
 obtain⟨b,b1,b2⟩:=aFl (n:=n) (v:=w) (by omega) w2 (by omega)
 obtain⟨c,c1,c2⟩:=aFl (n:=n-1) (v:=v) (by omega) v2 (by omega)
 refine⟨v,w,x,y,q,a,b,c,v1,w1,x1,y1,lI (by omega),q1,q3,v2,by omega,a1,b1,c1,by rw [q2];exact aM9 x2 (by omega),fun K hK=>⟨a2 K hK,b2 K hK,?_⟩⟩
 have:=c2 K (by omega)
 rw [show((n-1:Nat):Int)=(n:Int)-1 by omega] at this
 exact this
theorem aGp {l:List Int} (hl:aHV l) {n:Nat} (hn:n≤4):∀(t i:Nat) (a b:List Rat) (d:List aG),i+t=n→a.length=i→b.length=i→d.length=i→uD 8 a→uD 4 b→aRa d→(∀x∈a,x=0)→d.all aCj=true→
  ∃a' b' d',a'.length=n∧b'.length=n∧d'.length=n∧uD 8 a'∧uD 4 b'∧aRa d'∧(∀x∈a',x=0)∧d'.all aCj=true∧∀K k,t<k→iO K l (n:Int) k a b d (i:Int)=some (a',b',d')
 |0,i,a,b,d,hi,h1,h2,h3,h4,h5,h6,h7,h8=>⟨a,b,d,by omega,by omega,by omega,h4,h5,h6,h7,h8,fun K k hk=>by
  obtain⟨k',rfl,_⟩:=bB hk
  simp only [iO,dF (show¬(i:Int)<(n:Int) by omega),bJ]⟩
 |t+1,i,a,b,d,hi,h1,h2,h3,h4,h5,h6,h7,h8=>by
  obtain⟨v,v1,v2,v3⟩:=aCc hl (1+(i:Int)) (m:=1073741824) (by omega)
  have m3:=aDH (a:=v) (m:=3) v2 (by omega)
  have m4:=aDH (a:=v/3) (m:=4) (by omega) (by omega)
  have m13:=aDH (a:=v/12) (m:=13) (by omega) (by omega)
  have m33:=aDH (a:=v/156) (m:=3) (by omega) (by omega)
  have e0:aS (1+(i:Int))=some (1+(i:Int)):=lI (by omega)
  have e1:xG v 3=some (v%3):=oG v2 (by omega)
  have e2:aS (1+v%3)=some (1+v%3):=lI (by omega)
  have e3:w7 v 3=some (v/3):=tO v2 (by omega) (by omega)
  have e4:xG (v/3) 4=some (v/3%4):=oG (by omega) (by omega)
  have e5:aS (1+v/3%4)=some (1+v/3%4):=lI (by omega)
  obtain⟨q,q1,q2,q3⟩:=aBs (k:=8) (p:=1+v%3) (q:=1+v/3%4) (by omega) (by omega) (by omega) (by omega)
  have e6:w7 v 12=some (v/12):=tO v2 (by omega) (by omega)
  have e7:xG (v/12) 13=some (v/12%13):=oG (by omega) (by omega)
  have e8:aS (v/12%13-6)=some (v/12%13-6):=lI (by omega)
  have e9:w7 v 156=some (v/156):=tO v2 (by omega) (by omega)
  have e10:xG (v/156) 3=some (v/156%3):=oG (by omega) (by omega)
  have e11:aS (1+v/156%3)=some (1+v/156%3):=lI (by omega)
  obtain⟨p,p1,p2,p3⟩:=aBs (k:=4) (p:=v/12%13-6) (q:=1+v/156%3) (by omega) (by omega) (by omega) (by omega)
  have hq:aP9 ⟨q,0,false,0,0⟩:=⟨q3,by rw [q2];exact aQ1 (by omega) (by omega),Bd.zero.mono (by omega)⟩
  obtain⟨a',b',d',g1,g2,g3,g4,g5,g6,g8,g9,g7⟩:=aGp hl hn t (i+1) (a++[0]) (b++[p]) (d++[⟨q,0,false,0,0⟩]) (by omega) (by simp;omega) (by simp;omega) (by simp;omega) (h4.snoc (Bd.zero.mono (by omega))) (h5.snoc p3) (fun x hx=>by
   rcases List.mem_append.1 hx with h|h
   ·exact h6 x h
   ·rw [List.mem_singleton.1 h];exact hq) (fun x hx=>by
   rcases List.mem_append.1 hx with h|h
   ·exact h7 x h
   ·rw [List.mem_singleton.1 h]) (by
   rw [List.all_append,h8,List.all_cons,show aCj ⟨q,0,false,0,0⟩=true from decide_eq_true (aRv (by rw [q2];exact aM9 (by omega) (by omega)) hq.2.1)];rfl)
  refine⟨a',b',d',g1,g2,g3,g4,g5,g6,g8,g9,fun K k hk=>?_⟩
  obtain⟨k',rfl,_⟩:=bB hk
  simp only [iO,dT (show(i:Int)<(n:Int) by omega),bS,e0,oB,v1,e1,e2,e3,e4,e5,q1,apS (xs:=d) (x:=(⟨q,0,false,0,0⟩:aG)) (by omega),e6,e7,e8,e9,e10,e11,p1,apS (xs:=b) (x:=p) (by omega),apS (xs:=a) (x:=(0:Rat)) (by omega),m6 (i:=i) (by omega)]
  exact g7 K k' (by omega)
theorem aEQ {x107:List aA} {i:Nat} {v129:Int} {r:aA} {n w:Nat} (hi:i≤10) (hv:0≤v129) (hm:Bd 8 r.mu) (hr:RN n w r) (hl:x107.length≤100):∃r',RN n w r'∧∀K recl,fN K x107 (i:Int) v129 recl r=recl (x107++[r']) ((i+1:Nat):Int):=by
 by_cases h0:r.mu=0
 ·refine⟨⟨r.kind,r.a,r.b,r.edge,r.gap,r.j,[],0,r.e⟩,⟨⟨⟨hr.1.1.1,TB.nil⟩,Bd.zero.mono (by omega)⟩,hr.2.1,IO.nil,Rat.le_refl⟩,fun K recl=>?_⟩
  simp only [fN,jR hm (by omega),oB,qT (aBh.2 h0),bS,apS (show x107.length≤60000000000 by omega),m6 (i:=i) (by omega)]
 ·by_cases h1:v129%5=0
  ·refine⟨⟨r.kind,r.a,r.b,r.edge,r.gap,r.j,[],0,r.e⟩,⟨⟨⟨hr.1.1.1,TB.nil⟩,Bd.zero.mono (by omega)⟩,hr.2.1,IO.nil,Rat.le_refl⟩,fun K recl=>?_⟩
   simp only [fN,jR hm (by omega),oB,qF (fun h=>h0 (aBh.1 h)),bJ,oG hv (show(0:Int)<5 by omega),qT h1,bS,apS (show x107.length≤60000000000 by omega),m6 (i:=i) (by omega)]
  ·refine⟨r,hr,fun K recl=>?_⟩
   simp only [fN,jR hm (by omega),oB,qF (fun h=>h0 (aBh.1 h)),bJ,oG hv (show(0:Int)<5 by omega),qF h1,apS (show x107.length≤60000000000 by omega),m6 (i:=i) (by omega)]
theorem aJv {x107:List aA} {i:Nat} {v129:Int} {a b:List aC} {m:Rat} {n w:Nat} (hi:i≤10) (hv:0≤v129) (hm:Bd 8 m) (ha:NT w a) (hb:NT n b) (hm0:0≤m) (hl:x107.length≤100):∃r',RN n w r'∧∀K recl,hU K x107 (i:Int) v129 a b m recl=recl (x107++[r']) ((i+1:Nat):Int):=by
 by_cases h0:m=0
 ·refine⟨⟨0,0,(i:Int),0,0,a,[],0,0⟩,⟨⟨⟨ha.1,TB.nil⟩,Bd.zero.mono (by omega)⟩,ha.2,IO.nil,Rat.le_refl⟩,fun K recl=>?_⟩
  simp only [hU,jR hm (by omega),oB,qT (aBh.2 h0),bS,apS (show x107.length≤60000000000 by omega),m6 (i:=i) (by omega)]
 ·by_cases h1:v129%5=0
  ·refine⟨⟨0,0,(i:Int),0,0,a,[],0,0⟩,⟨⟨⟨ha.1,TB.nil⟩,Bd.zero.mono (by omega)⟩,ha.2,IO.nil,Rat.le_refl⟩,fun K recl=>?_⟩
   simp only [hU,jR hm (by omega),oB,qF (fun h=>h0 (aBh.1 h)),bJ,oG hv (show(0:Int)<5 by omega),qT h1,bS,apS (show x107.length≤60000000000 by omega),m6 (i:=i) (by omega)]
  ·refine⟨⟨0,0,(i:Int),0,0,a,b,m,0⟩,⟨⟨⟨ha.1,hb.1⟩,hm⟩,ha.2,hb.2,hm0⟩,fun K recl=>?_⟩
   simp only [hU,jR hm (by omega),oB,qF (fun h=>h0 (aBh.1 h)),bJ,oG hv (show(0:Int)<5 by omega),qF h1,apS (show x107.length≤60000000000 by omega),m6 (i:=i) (by omega)]
theorem aCq {l:List Int} (hl:aHV l) (a1:Bool) (n:Nat) (hn:1≤n∧n≤4) {v8:Int} (h8:bO l 8 5=some v8) (h8':v8<5):∀(t i:Nat) (x:List aA),i+t=4→x.length=i→RsN n (bif a1 then n else n-1) x→
  ∃r,RsN n (bif a1 then n else n-1) r∧r.length≤4∧∀K k,n<K→t<k→dG K l a1 (n:Int) k x (i:Int)=some r
 |0,i,x,hi,hx,hr=>⟨x,hr,by omega,fun K k hK hk=>by
  obtain⟨k',rfl,_⟩:=bB hk
  simp only [dG,h8,oB,dF (show¬(i:Int)<v8 by omega),bJ]⟩
 |t+1,i,x,hi,hx,hr=>by
  by_cases hlt:(i:Int)<v8
  ·obtain⟨v129,v137,v145,v151,q,r131,r139,r197,b1,b2,b3,b4,b5,b6,b7,b8,b9,b10,b11,b12,b14,b13⟩:=aGo hl i (by omega) n hn
   have e3:aS (3*(i:Int))=some (3*(i:Int)):=lI (by omega)
   have e9:aS (9+3*(i:Int))=some (9+3*(i:Int)):=lI (by omega)
   have e10:aS (10+3*(i:Int))=some (10+3*(i:Int)):=lI (by omega)
   have e11:aS (11+3*(i:Int))=some (11+3*(i:Int)):=lI (by omega)
   have en:aS ((n:Int)-1)=some ((n:Int)-1):=lI (by omega)
   cases a1
   ·obtain⟨r',c1,c2⟩:=aEQ (x107:=x) (i:=i) (v129:=v129) (r:=⟨0,0,(i:Int),0,0,r197,r139,q,0⟩) (by omega) b8 b7 (n:=n) (w:=n-1) ⟨⟨⟨b12.1,b11.1⟩,b7⟩,b12.2,b11.2,b14⟩ (by omega)
    obtain⟨r,d1,d2,d3⟩:=aCq hl false n hn h8 h8' t (i+1) (x++[r']) (by omega) (by simp;omega) (hr.snoc c1)
    refine⟨r,d1,d2,fun K k hK hk=>?_⟩
    obtain⟨k',rfl,_⟩:=bB hk
    obtain⟨s1,s2,s3⟩:=b13 K hK
    simp only [dG,h8,oB,dT hlt,bS,e3,e9,e10,e11,b1,b2,b3,b4,b5,b6,s1,s2,s3,Bool.not_false,en,c2]
    exact d3 K k' hK (by omega)
   ·obtain⟨r',c1,c2⟩:=aEQ (x107:=x) (i:=i) (v129:=v129) (r:=⟨0,0,(i:Int),0,0,r131,r139,q,0⟩) (by omega) b8 b7 (n:=n) (w:=n) ⟨⟨⟨b10.1,b11.1⟩,b7⟩,b10.2,b11.2,b14⟩ (by omega)
    obtain⟨r,d1,d2,d3⟩:=aCq hl true n hn h8 h8' t (i+1) (x++[r']) (by omega) (by simp;omega) (hr.snoc c1)
    refine⟨r,d1,d2,fun K k hK hk=>?_⟩
    obtain⟨k',rfl,_⟩:=bB hk
    obtain⟨s1,s2,s3⟩:=b13 K hK
    simp only [dG,h8,oB,dT hlt,bS,e3,e9,e10,e11,b1,b2,b3,b4,b5,b6,s1,s2,Bool.not_true,bJ,c2]
    exact d3 K k' hK (by omega)
  ·refine⟨x,hr,by omega,fun K k hK hk=>?_⟩
   obtain⟨k',rfl,_⟩:=bB hk
   simp only [dG,h8,oB,dF hlt,bJ]
theorem aFr {l:List Int} (hl:aHV l) (n:Nat) (hn:1≤n∧n≤4) {v8:Int} (h8:bO l 8 5=some v8) (h8':v8<5):∀(t i:Nat) (x:List aA),i+t=4→x.length=i→RsN n n x→
  ∃r,RsN n n r∧r.length≤4∧∀K k,n<K→t<k→eF K l (n:Int) k x (i:Int)=some r
 |0,i,x,hi,hx,hr=>⟨x,hr,by omega,fun K k hK hk=>by
  obtain⟨k',rfl,_⟩:=bB hk
  simp only [eF,h8,oB,dF (show¬(i:Int)<v8 by omega),bJ]⟩
 |t+1,i,x,hi,hx,hr=>by
  by_cases hlt:(i:Int)<v8
  ·obtain⟨v129,v137,v145,v151,q,r131,r139,r197,b1,b2,b3,b4,b5,b6,b7,b8,b9,b10,b11,b12,b14,b13⟩:=aGo hl i (by omega) n hn
   have e3:aS (3*(i:Int))=some (3*(i:Int)):=lI (by omega)
   have e9:aS (9+3*(i:Int))=some (9+3*(i:Int)):=lI (by omega)
   have e10:aS (10+3*(i:Int))=some (10+3*(i:Int)):=lI (by omega)
   have e11:aS (11+3*(i:Int))=some (11+3*(i:Int)):=lI (by omega)
   obtain⟨r',c1,c2⟩:=aJv (x107:=x) (i:=i) (v129:=v129) (a:=r131) (b:=r139) (m:=q) (by omega) b8 b7 b10 b11 b14 (by omega)
   obtain⟨r,d1,d2,d3⟩:=aFr hl n hn h8 h8' t (i+1) (x++[r']) (by omega) (by simp;omega) (hr.snoc c1)
   refine⟨r,d1,d2,fun K k hK hk=>?_⟩
   obtain⟨k',rfl,_⟩:=bB hk
   obtain⟨s1,s2,s3⟩:=b13 K hK
   simp only [eF,h8,oB,dT hlt,bS,e3,e9,e10,e11,b1,b2,b3,b4,b5,b6,s1,s2,c2]
   exact d3 K k' hK (by omega)
  ·refine⟨x,hr,by omega,fun K k hK hk=>?_⟩
   obtain⟨k',rfl,_⟩:=bB hk
   simp only [eF,h8,oB,dF hlt,bJ]
theorem aNj {n w:Nat} {l:List aC} (h:IO w l) (hw:w≤n):∀t i,i+t=l.length→tks n l t i=true
 |0,_,_=>rfl
 |t+1,i,hi=>by
  unfold tks
  rw [aNj h hw t (i+1) (by omega),Bool.and_true]
  have hil:i<l.length:=by omega
  have e:∀k,(hk:k<l.length)→wM l k=l[k]:=fun k hk=>by
   unfold wM;simp only [List.getD_eq_getElem?_getD,List.getElem?_eq_getElem hk,Option.getD_some]
  have h1:=h.1 l[i] (List.getElem_mem hil)
  refine decide_eq_true ⟨by rw [e i hil];exact h1.1,by rw [e i hil];have:=h1.2;omega,fun h0=>?_⟩
  rw [e i hil,e (i-1) (by omega)]
  exact List.pairwise_iff_getElem.1 h.2 (i-1) i (by omega) hil (by omega)
theorem aP4 {v:List Rat}:∀(l:List aC) (x:Rat),(∀t∈l,trm v t=0)→rtf v l x=x
 |[],x,_=>rfl
 |t::l,x,h=>by
  unfold rtf
  rw [h t (List.mem_cons_self ..),Rat.add_zero]
  exact aP4 l x fun u hu=>h u (List.mem_cons_of_mem _ hu)
theorem aJA {d:List aG} {f v:List Rat} {l:List aA} {n w:Nat} (hn:n≤4) (hw:w≤n) (hd:d.length=n) (hf:f.length=n) (hv:v.length=n) (hp:d.all aCj=true) (hl:RsN n w l) (h0:∀j,j<w→qB v j=0):aAc d f v l=true:=by
 unfold aAc
 rw [hp,decide_eq_true (show d.length≤12∧f.length=d.length∧v.length=d.length by omega),Bool.true_and,Bool.true_and]
 refine List.all_eq_true.2 fun r hr=>?_
 obtain⟨r1,r2,r3,r4⟩:=hl r hr
 have e:rt r.j v=0:=aP4 _ _ fun t ht=>by
  have:=r2.1 t ht
  unfold trm
  rw [decide_eq_true (show 0≤t.dof∧t.dof<(v.length:Int) by omega),bS,h0 _ (by omega),Rat.mul_zero]
 unfold xE pD tOk
 rw [e,hd,aNj r2 hw _ _ (Nat.zero_add _),aNj r3 (Nat.le_refl n) _ _ (Nat.zero_add _),decide_eq_true (aNg r4)];rfl
theorem aHi {a:List Rat} (h:∀x∈a,x=0) (j:Nat):qB a j=0:=by
 by_cases e:j<a.length
 ·exact h _ (u8 e)
 ·unfold qB;rw [List.getD_eq_getElem?_getD,List.getElem?_eq_none (by omega)];rfl
theorem aNb {l:List Int} (hl:aHV l) (rest:Bool):∃s,aO7 s∧aAc s.dofs s.load s.v s.rows=true∧uD 4 s.load∧Ev (fun K=>lO K l rest) s:=by
 obtain⟨v0,a1,a2,a3⟩:=aCc hl 0 (m:=4) (by omega)
 obtain⟨n,hn⟩:∃n:Nat,1+v0=(n:Int):=⟨(1+v0).toNat,by omega⟩
 have e1:aS (1+v0)=some (n:Int):=by rw [lI (by omega),hn]
 obtain⟨a,b,d,g1,g2,g3,g4,g5,g6,g8,g9,g7⟩:=aGp hl (n:=n) (by omega) n 0 [] [] [] (by omega) rfl rfl rfl (fun t h=>absurd h List.not_mem_nil) (fun t h=>absurd h List.not_mem_nil) (fun t h=>absurd h List.not_mem_nil) (fun t h=>absurd h List.not_mem_nil) rfl
 obtain⟨v5,b1,b2,b3⟩:=aCc hl 5 (m:=3) (by omega)
 obtain⟨v8,c1,c2,c3⟩:=aCc hl 8 (m:=5) (by omega)
 obtain⟨r,d1,d2,d3⟩:=aFr hl n (by omega) c1 c3 4 0 [] rfl rfl (fun x h=>absurd h List.not_mem_nil)
 obtain⟨r',d1',d2',d3'⟩:=aCq hl rest n (by omega) c1 c3 4 0 [] rfl rfl (fun x h=>absurd h List.not_mem_nil)
 simp only [Int.natCast_zero] at g7 d3 d3'
 by_cases h5:0<v5
 ·cases rest
  ·obtain⟨v6,f1,f2,f3⟩:=aCc hl 6 (m:=9) (by omega)
   obtain⟨v7,f4,f5,f6⟩:=aCc hl 7 (m:=3) (by omega)
   obtain⟨q,q1,q2,q3⟩:=aBs (k:=8) (p:=v6-4) (q:=1+v7) (by omega) (by omega) (by omega) (by omega)
   have e2:aS ((n:Int)-1)=some ((n-1:Nat):Int):=ckN (m:=0) (by omega) (by omega)
   have e3:aS (v6-4)=some (v6-4):=lI (by omega)
   have e4:aS (1+v7)=some (1+v7):=lI (by omega)
   refine⟨⟨d,b,a.set (n-1) q,r'⟩,⟨by simp only;omega,by simp only;omega,g6,by simp only;omega,by simp only [List.length_set];omega,(fun x hx=>(g5 x hx).mono (by omega)),fun x hx=>?_,fun x hx=>(d1' x hx).1.1,d2',fun x hx=>(d1' x hx).1⟩,aJA (n:=n) (w:=n-1) (by omega) (by omega) g3 g2 (by simp only [List.length_set];omega) g9 d1' fun j hj=>by unfold qB;rw [List.getD_eq_getElem?_getD,List.getElem?_set_ne (by omega),←List.getD_eq_getElem?_getD];exact aHi g8 j,g5,⟨6+n,fun K hK=>?_⟩⟩
   ·rcases List.mem_or_eq_of_mem_set hx with h|h
    ·exact g4 x h
    ·rw [h];exact q3
   ·simp only [lO,a1,oB,e1,g7 K K (by omega),kH,b1,dT h5,bS,Bool.not_false,e2,f1,e3,f4,e4,q1,aA8 (l:=a) (i:=n-1) (by omega),stG (xs:=a) (i:=n-1) (v:=q) (by omega),kL,d3' K K (by omega) (by omega),l4]
  ·refine⟨⟨d,b,a,r'⟩,⟨by simp only;omega,by simp only;omega,g6,by simp only;omega,by simp only;omega,(fun x hx=>(g5 x hx).mono (by omega)),g4,fun x hx=>(d1' x hx).1.1,d2',fun x hx=>(d1' x hx).1⟩,aJA (n:=n) (w:=n) (by omega) (by omega) g3 g2 g1 g9 d1' fun j _=>aHi g8 j,g5,⟨6+n,fun K hK=>?_⟩⟩
   simp only [lO,a1,oB,e1,g7 K K (by omega),kH,b1,dT h5,bS,Bool.not_true,bJ,kL,d3' K K (by omega) (by omega),l4]
 ·refine⟨⟨d,b,a,r⟩,⟨by simp only;omega,by simp only;omega,g6,by simp only;omega,by simp only;omega,(fun x hx=>(g5 x hx).mono (by omega)),g4,fun x hx=>(d1 x hx).1.1,d2,fun x hx=>(d1 x hx).1⟩,aJA (n:=n) (w:=n) (by omega) (by omega) g3 g2 g1 g9 d1 fun j _=>aHi g8 j,g5,⟨6+n,fun K hK=>?_⟩⟩
  simp only [lO,a1,oB,e1,g7 K K (by omega),kH,b1,dF h5,bJ,oZ,d3 K K (by omega) (by omega),oW]
end Go.Proofs.YtcjdedkdoagifaaGreat
set_option linter.unusedVariables false
namespace Go.Proofs.YtcjdedkdoagifaaGreat
end Go.Proofs.YtcjdedkdoagifaaGreat
set_option linter.unusedVariables false
namespace Go.Proofs.YtcjdedkdoagifaaGreat
theorem aOL {c:Rat} {f:Nat→Rat} {n:Nat} (t:aC):trm (mp (fun j=>c*f j) n) t=c*trm (mp f n) t:=by
 unfold trm
 rw [bX,bX]
 by_cases h:0≤t.dof∧t.dof<(n:Int)
 ·rw [decide_eq_true h,bS,bS,aBx (show t.dof.toNat<n by omega),aBx (show t.dof.toNat<n by omega)];grind
 ·rw [decide_eq_false h,bJ,bJ,Rat.mul_zero]
theorem aKt {c:Rat} {f:Nat→Rat} {n:Nat}:∀(l:List aC) (x:Rat),rtf (mp (fun j=>c*f j) n) l (c*x)=c*rtf (mp f n) l x
 |[],x=>rfl
 |t::l,x=>by
  unfold rtf
  rw [aOL,←Rat.mul_add];exact aKt l _
theorem aM4 {c:Rat} {f:Nat→Rat} {n:Nat} (l:List aC):rt l (mp (fun j=>c*f j) n)=c*rt l (mp f n):=by
 have:=aKt (c:=c) (f:=f) (n:=n) l 0
 rwa [Rat.mul_zero] at this
theorem aQR {c:Rat} {v:List Rat} {l:List aA} {f:Nat→Rat} {n k:Nat}:rv v l (mp (fun j=>c*f j) n) k=c*rv v l (mp f n) k:=by
 unfold rv
 rw [aM4,aM4]
 split
 ·rfl
 ·split
  ·rfl
  ·split
   ·grind
   ·rw [Rat.mul_zero]
end Go.Proofs.YtcjdedkdoagifaaGreat
set_option linter.unusedVariables false
namespace Go.Proofs.YtcjdedkdoagifaaGreat
/-- What kills the tableau kills the first one. -/
def KE (n w:Nat) (Z T:Nat→Nat→Rat):Prop:=∀x:Nat→Rat,(∀i,i<n→sm (fun k=>T i k*x k) w=0)→∀i,i<n→sm (fun k=>Z i k*x k) w=0
theorem KE.pivot {n w r c:Nat} {Z T:Nat→Nat→Rat} (h:KE n w Z T) (hr:r<n) (hp:T r c≠0):KE n w Z (wL T r c):=fun x hx=>h x fun i hi=>by
 have e0:sm (fun k=>T r k*x k) w=0:=by
  have h1:=hx r hr
  have e:sm (fun k=>wL T r c r k*x k) w=(1/T r c)*sm (fun k=>T r k*x k) w:=by
   rw [←zU];exact fU fun k _=>by unfold wL;rw [if_pos rfl];grind
  rw [e] at h1
  grind
 by_cases e:i=r
 ·rw [e];exact e0
 ·have h1:=hx i hi
  have e1:sm (fun k=>wL T r c i k*x k) w=sm (fun k=>T i k*x k) w-(T i c/T r c)*sm (fun k=>T r k*x k) w:=by
   rw [←aEq];exact fU fun k _=>by unfold wL;rw [if_neg e];grind
  rw [e1,e0] at h1
  grind
def bx (T:Nat→Nat→Rat) (b:Nat→Nat) (n k:Nat):Rat:=if k=2*n+1 then -1 else sm (fun i=>if b i=k then T i (2*n+1) else 0) n
theorem aSS {n w:Nat} {Z T:Nat→Nat→Rat} {b:Nat→Nat} (h:TI n w Z T b) (hb:∀j,j<n→b j≤2*n) {j:Nat} (hj:j<n):bx T b n (b j)=T j (2*n+1):=by
 have:=hb j hj
 unfold bx
 rw [if_neg (by omega),aDx hj fun i hi hne=>if_neg fun e=>hne (h.inj hi hj e),if_pos rfl]
theorem aKT {n:Nat} {T:Nat→Nat→Rat} {b:Nat→Nat} {k:Nat} (hk:k≠2*n+1) (h:∀i,i<n→b i≠k):bx T b n k=0:=by
 unfold bx
 rw [if_neg hk]
 exact aBJ fun i hi=>if_neg (h i hi)
theorem aOr {n:Nat} {Z T:Nat→Nat→Rat} {b:Nat→Nat} (h:TI n (2*n+2) Z T b) (hb:∀j,j<n→b j≤2*n) {i:Nat} (hi:i<n):sm (fun k=>T i k*bx T b n k) (2*n+2)=0:=by
 show sm _ (2*n+1)+T i (2*n+1)*bx T b n (2*n+1)=0
 have e1:bx T b n (2*n+1)=-1:=if_pos rfl
 have e2:sm (fun k=>T i k*bx T b n k) (2*n+1)=sm (fun k=>sm (fun j=>if b j=k then T i k*T j (2*n+1) else 0) n) (2*n+1):=fU fun k hk=>by
  unfold bx
  rw [if_neg (by omega),←zU]
  refine fU fun j _=>?_
  by_cases e:b j=k
  ·rw [if_pos e,if_pos e]
  ·rw [if_neg e,if_neg e,Rat.mul_zero]
 have e3:sm (fun j=>sm (fun k=>if b j=k then T i k*T j (2*n+1) else 0) (2*n+1)) n=T i (2*n+1):=by
  have:sm (fun j=>sm (fun k=>if b j=k then T i k*T j (2*n+1) else 0) (2*n+1)) n=sm (fun j=>T i (b j)*T j (2*n+1)) n:=fU fun j hj=>by
   have:=hb j hj
   rw [aDx (p:=b j) (by omega) fun k _ hne=>if_neg fun e=>hne e.symm,if_pos rfl]
  rw [this,aDx hi fun j hj hne=>by rw [h.un i j hi hj,if_neg fun e=>hne e.symm,Rat.zero_mul],h.un i i hi hi,if_pos rfl,Rat.one_mul]
 rw [e2,aHo,e3,e1]
 grind
theorem aED (f:Nat→Rat) (a:Nat):∀b,sm f (a+b)=sm f a+sm (fun j=>f (a+j)) b
 |0=>by show sm f a=sm f a+0;rw [Rat.add_zero]
 |b+1=>by
  show sm f (a+b)+f (a+b)=sm f a+(sm (fun j=>f (a+j)) b+f (a+b))
  rw [aED f a b,Rat.add_assoc]
theorem aRx {M:Nat→Nat→Rat} {q x:Nat→Rat} {n i:Nat} (hi:i<n) (h:sm (fun k=>uS M q n i k*x k) (2*n+2)=0) (h1:x (2*n+1)=-1):x i=sm (fun j=>M i j*x (n+j)) n+x (2*n)+q i:=by
 have e:2*n+2=(n+n)+2:=by omega
 rw [e,aED,aED] at h
 have e1:sm (fun k=>uS M q n i k*x k) n=x i:=by
  have:uS M q n i i=1:=by unfold uS;rw [if_pos hi,if_pos rfl]
  rw [aDx hi fun k hk hne=>by unfold uS;rw [if_pos hk,if_neg fun e=>hne e.symm,Rat.zero_mul],this,Rat.one_mul]
 have e2:sm (fun j=>uS M q n i (n+j)*x (n+j)) n=-(sm (fun j=>M i j*x (n+j)) n):=by
  rw [←aEO]
  refine fU fun j hj=>?_
  unfold uS
  rw [if_neg (by omega),if_pos (by omega),show n+j-n=j by omega,Rat.neg_mul]
 have e3:sm (fun j=>uS M q n i (n+n+j)*x (n+n+j)) 2=-(x (2*n))-q i:=by
  show 0+uS M q n i (n+n+0)*x (n+n+0)+uS M q n i (n+n+1)*x (n+n+1)=_
  rw [show n+n+0=2*n by omega,show n+n+1=2*n+1 by omega,h1]
  unfold uS
  rw [if_neg (by omega),if_neg (by omega),if_pos rfl,if_neg (by omega),if_neg (by omega),if_neg (by omega)]
  grind
 rw [e1,e2,e3] at h
 grind
def nn (f:Nat→Rat):Nat→Nat→Prop
 |0,_=>True
 |t+1,j=>0<f j∨(f j=0∧nn f t (j+1))
theorem nn.congr {f g:Nat→Rat}:∀{t j:Nat},(∀k,f k=g k)→nn f t j→nn g t j
 |0,_,_,_=>trivial
 |t+1,j,e,h=>by
  unfold nn at h ⊢
  rw [←e j]
  exact h.imp id fun h=>⟨h.1,nn.congr e h.2⟩
theorem nn.add {f g:Nat→Rat}:∀{t j:Nat},nn f t j→nn g t j→nn (fun k=>f k+g k) t j
 |0,_,_,_=>trivial
 |t+1,j,h1,h2=>by
  unfold nn at h1 h2 ⊢
  rcases h1 with h1|⟨h1,k1⟩<;>rcases h2 with h2|⟨h2,k2⟩
  ·left;grind
  ·left;grind
  ·left;grind
  ·right;exact⟨by grind,nn.add k1 k2⟩
theorem nn.mul {f:Nat→Rat} {a:Rat} (ha:0≤a):∀{t j:Nat},nn f t j→nn (fun k=>a*f k) t j
 |0,_,_=>trivial
 |t+1,j,h=>by
  unfold nn at h ⊢
  by_cases e:a=0
  ·right
   refine⟨by rw [e,Rat.zero_mul],?_⟩
   have:∀t j,nn (fun k=>a*f k) t j:=fun t=>by
    induction t with
    |zero=>intro j;trivial
    |succ t ih=>intro j;exact Or.inr ⟨by show a*f j=0;rw [e,Rat.zero_mul],ih (j+1)⟩
   exact this t (j+1)
  ·rcases h with h|⟨h,k⟩
   ·left
    exact Rat.mul_pos (by grind) h
   ·right
    exact⟨by rw [h,Rat.mul_zero],nn.mul ha k⟩
theorem nn.head {f:Nat→Rat} {t j:Nat} (h:nn f (t+1) j):0≤f j:=by
 unfold nn at h
 rcases h with h|h
 ·exact Rat.le_of_lt h
 ·rw [h.1];exact Rat.le_refl
theorem aIX {T:Nat→Nat→Rat} {n i k:Nat} {c d:Rat}:∀t j,(lx T n i c k d t j=false→nn (fun j=>T i (p5 n j)/c-T k (p5 n j)/d) t j)∧(lx T n i c k d t j=true→nn (fun j=>T k (p5 n j)/d-T i (p5 n j)/c) t j)
 |0,j=>⟨fun _=>trivial,fun h=>absurd h (by unfold lx;decide)⟩
 |t+1,j=>by
  obtain⟨i1,i2⟩:=aIX (T:=T) (n:=n) (i:=i) (k:=k) (c:=c) (d:=d) t (j+1)
  unfold lx nn
  by_cases e:T i (p5 n j)/c=T k (p5 n j)/d
  ·rw [decide_eq_true e,bS]
   exact⟨fun h=>Or.inr ⟨by rw [e];grind,i1 h⟩,fun h=>Or.inr ⟨by rw [e];grind,i2 h⟩⟩
  ·rw [decide_eq_false e,bJ]
   refine⟨fun h=>Or.inl ?_,fun h=>Or.inl ?_⟩
   ·have:=of_decide_eq_false h
    grind
   ·have:=of_decide_eq_true h
    grind
def aHs (T:Nat→Nat→Rat) (n c k r:Nat):Prop:=nn (fun j=>T k (p5 n j)/T k c-T r (p5 n j)/T r c) (n+1) 0
theorem aCZ {T:Nat→Nat→Rat} {n c:Nat}:∀t i s r,(∀q,s=some q→∀k,k<i→0<(T k c).num.sign→aHs T n c k q)→(s=none→∀k,k<i→¬0<(T k c).num.sign)→sel T n c t i s=some r→∀k,k<i+t→0<(T k c).num.sign→aHs T n c k r
 |0,i,s,r,h1,h2,e,k,hk,hp=>h1 r e k (by omega) hp
 |t+1,i,s,r,h1,h2,e,k,hk,hp=>by
  unfold sel at e
  have refl:aHs T n c i i:=by
   have:∀t j,nn (fun j=>T i (p5 n j)/T i c-T i (p5 n j)/T i c) t j:=fun t=>by
    induction t with
    |zero=>intro j;trivial
    |succ t ih=>intro j;exact Or.inr ⟨by grind,ih (j+1)⟩
   exact this _ _
  by_cases hi:0<(T i c).num.sign
  ·rw [decide_eq_true hi,bS] at e
   cases s with
   |none=>
    refine aCZ t (i+1) (some i) r (fun q hq k hk hp=>?_) (fun h=>by cases h) e k (by omega) hp
    cases hq
    by_cases e2:k=i
    ·rw [e2];exact refl
    ·exact absurd hp (h2 rfl k (by omega))
   |some p=>
    simp only at e
    cases hl:les T n i (T i c) p (T p c)
    ·rw [hl,bJ] at e
     refine aCZ t (i+1) (some p) r (fun q hq k hk hp=>?_) (fun h=>by cases h) e k (by omega) hp
     cases hq
     by_cases e2:k=i
     ·rw [e2];exact(aIX _ _).1 hl
     ·exact h1 p rfl k (by omega) hp
    ·rw [hl,bS] at e
     refine aCZ t (i+1) (some i) r (fun q hq k hk hp=>?_) (fun h=>by cases h) e k (by omega) hp
     cases hq
     by_cases e2:k=i
     ·rw [e2];exact refl
     ·exact((h1 p rfl k (by omega) hp).add ((aIX _ _).2 hl)).congr fun j=>by grind
  ·rw [decide_eq_false hi,bJ] at e
   refine aCZ t (i+1) s r (fun q hq k hk hp=>?_) (fun h k hk=>?_) e k (by omega) hp
   ·by_cases e2:k=i
    ·rw [e2] at hp;exact absurd hp hi
    ·exact h1 q hq k (by omega) hp
   ·by_cases e2:k=i
    ·rw [e2];exact hi
    ·exact h2 h k (by omega)
theorem aIK {a:Rat}:0<a.num↔0<a:=by
 have h1:=Rat.num_nonneg (q:=a)
 have h2:=Rat.num_eq_zero (q:=a)
 constructor
 ·intro h
  have h3:0≤a:=h1.1 (by omega)
  have h4:a≠0:=fun e=>by have:=h2.2 e;omega
  grind
 ·intro h
  have h3:0≤a.num:=h1.2 (by grind)
  have h4:a.num≠0:=fun e=>by have:=h2.1 e;grind
  omega
theorem aQ4 {x:Rat}:0<x.num.sign↔0<x:=by rw [Int.sign_pos_iff];exact aIK
def LX (n:Nat) (T:Nat→Nat→Rat):Prop:=∀i,i<n→nn (fun j=>T i (p5 n j)) (n+1) 0
theorem LX.last {n i:Nat} {T:Nat→Nat→Rat} (h:LX n T) (hi:i<n):0≤T i (2*n+1):=(h i hi).head
theorem LX.pivot {n r c:Nat} {T:Nat→Nat→Rat} (h:LX n T) (hr:r<n) (hp:0<T r c) (hm:∀k,k<n→0<T k c→aHs T n c k r):LX n (wL T r c):=fun i hi=>by
 have hinv:(0:Rat)≤1/T r c:=by rw [Rat.div_def,Rat.one_mul];exact Rat.le_of_lt (Rat.inv_pos.2 hp)
 by_cases e:i=r
 ·exact((h r hr).mul hinv).congr fun j=>by unfold wL;rw [if_pos e];grind
 ·by_cases h2:0<T i c
  ·exact((hm i hi h2).mul (Rat.le_of_lt h2)).congr fun j=>by unfold wL;rw [if_neg e];grind
  ·have h3:0≤(-(T i c))*(1/T r c):=Rat.mul_nonneg (by grind) hinv
   exact((h i hi).add ((h r hr).mul h3)).congr fun j=>by unfold wL;rw [if_neg e];grind
theorem aE7 {T:Nat→Nat→Rat} {n:Nat}:∀t i r,(∀k,k<i→nn (fun j=>T k (p5 n j)-T r (p5 n j)) (n+1) 0)→∀k,k<i+t→nn (fun j=>T k (p5 n j)-T (aAt T n t i r) (p5 n j)) (n+1) 0
 |0,i,r,h,k,hk=>h k (by omega)
 |t+1,i,r,h,k,hk=>by
  unfold aAt
  cases hl:les T n i 1 r 1
  ·rw [bJ]
   refine aE7 t (i+1) r (fun k hk=>?_) k (by omega)
   by_cases e:k=i
   ·rw [e];exact((aIX _ _).1 hl).congr fun j=>by grind
   ·exact h k (by omega)
  ·rw [bS]
   have h1:=(aIX _ _).2 hl
   refine aE7 t (i+1) i (fun k hk=>?_) k (by omega)
   by_cases e:k=i
   ·rw [e]
    have:∀t j,nn (fun j=>T i (p5 n j)-T i (p5 n j)) t j:=fun t=>by
     induction t with
     |zero=>intro j;trivial
     |succ t ih=>intro j;exact Or.inr ⟨by grind,ih (j+1)⟩
    exact this _ _
   ·exact((h k (by omega)).add h1).congr fun j=>by grind
def cpl (n x:Nat):Nat:=if x<n then x+n else x-n
theorem aMH {n x:Nat} (h:x<2*n):cpl n x<2*n:=by unfold cpl;split<;>omega
theorem aHw {n x:Nat} (h:x<2*n):cpl n (cpl n x)=x:=by
 unfold cpl
 by_cases e:x<n
 ·rw [if_pos e,if_neg (by omega)];omega
 ·rw [if_neg e,if_pos (by omega)];omega
theorem aQ7 {n x:Nat} (hn:0<n):cpl n x≠x∨2*n≤x:=by unfold cpl;split<;>omega
structure CB (n:Nat) (b:Nat→Nat) (c:Nat):Prop where
 inj:∀i j,i<n→j<n→b i=b j→i=j
 nc:∀i,i<n→b i≠c
 np:c<2*n→∀i,i<n→b i≠cpl n c
 pr:∀i j,i<n→j<n→b i<2*n→b j≠cpl n (b i)
theorem CB.pr' {n r c:Nat} {b:Nat→Nat} (h:CB n b c) (hr:r<n) (hc:c≤2*n):∀i j,i<n→j<n→kE b r c i<2*n→kE b r c j≠cpl n (kE b r c i):=fun i j hi hj hlt=>by
 by_cases e1:i=r
 ·subst e1
  rw [bD] at hlt ⊢
  by_cases e2:j=i
  ·subst e2;rw [bD]
   intro e
   rcases aQ7 (n:=n) (x:=c) (by omega) with h1|h1
   ·exact h1 e.symm
   ·omega
  ·rw [cP e2];exact h.np hlt j hj
 ·rw [cP e1] at hlt ⊢
  by_cases e2:j=r
  ·subst e2;rw [bD]
   intro e
   have h1:=aMH hlt
   have h2:b i=cpl n c:=by rw [e,aHw hlt]
   exact h.np (by omega) i hi h2
  ·rw [cP e2];exact h.pr i j hi hj hlt
theorem CB.inj' {n r c:Nat} {b:Nat→Nat} (h:CB n b c):∀i j,i<n→j<n→kE b r c i=kE b r c j→i=j:=fun i j hi hj e=>by
 by_cases e1:i=r
 ·by_cases e2:j=r
  ·omega
  ·rw [e1,bD,cP e2] at e
   exact absurd e.symm (h.nc j hj)
 ·by_cases e2:j=r
  ·rw [e2,bD,cP e1] at e
   exact absurd e (h.nc i hi)
  ·rw [cP e1,cP e2] at e
   exact h.inj i j hi hj e
theorem CB.next {n r c:Nat} {b:Nat→Nat} (h:CB n b c) (hr:r<n) (hc:c≤2*n) (hl:b r<2*n):CB n (kE b r c) (cpl n (b r)):=by
 refine⟨h.inj',fun i hi=>?_,fun _ i hi=>?_,h.pr' hr hc⟩
 ·by_cases e:i=r
  ·rw [e,bD]
   intro e2
   have h1:=aMH hl
   exact h.np (by omega) r hr (by rw [e2,aHw hl])
  ·rw [cP e];exact h.pr r i hr hi hl
 ·rw [aHw hl]
  by_cases e:i=r
  ·rw [e,bD];exact fun e2=>h.nc r hr e2.symm
  ·rw [cP e];exact fun e2=>e (h.inj i r hi hr e2)
structure Sol (M:Nat→Nat→Rat) (q:Nat→Rat) (n:Nat) (z w:Nat→Rat):Prop where
 z0:∀j,j<n→0≤z j
 w0:∀j,j<n→0≤w j
 eq:∀i,i<n→w i=sm (fun j=>M i j*z j) n+q i
 zw:∀j,j<n→z j=0∨w j=0
theorem aP3 {n:Nat} {T:Nat→Nat→Rat} {b:Nat→Nat} (hi:∀i j,i<n→j<n→b i=b j→i=j):∀m,m≤n→(∀j,j<n→swv T b n m j=sm (fun i=>if b i=j then T i (2*n+1) else 0) m)∧(∀j,j<n→szv T b n m j=sm (fun i=>if b i=n+j then T i (2*n+1) else 0) m)
 |0,_=>⟨fun _ _=>rfl,fun _ _=>rfl⟩
 |m+1,hm=>by
  obtain⟨h1,h2⟩:=aP3 (T:=T) hi m (by omega)
  have zero:sm (fun i=>if b i=b m then T i (2*n+1) else 0) m=0:=aBJ fun i h=>if_neg fun e=>by have:=hi i m (by omega) (by omega) e;omega
  refine⟨fun j hj=>?_,fun j hj=>?_⟩
  ·show swv T b n (m+1) j=sm _ m+(if b m=j then T m (2*n+1) else 0)
   rw [←h1 j hj]
   have w1:swv T b n (m+1)=if b m<n then kE (swv T b n m) (b m) (T m (2*n+1)) else swv T b n m:=rfl
   rw [w1]
   by_cases e:b m<n
   ·rw [if_pos e]
    by_cases e2:b m=j
    ·rw [if_pos e2,←e2,bD,h1 (b m) e,zero];grind
    ·rw [if_neg e2,cP (fun h=>e2 h.symm),Rat.add_zero]
   ·rw [if_neg e,if_neg (by omega),Rat.add_zero]
  ·show szv T b n (m+1) j=sm _ m+(if b m=n+j then T m (2*n+1) else 0)
   rw [←h2 j hj]
   have w1:szv T b n (m+1)=if b m<n then szv T b n m else if b m<2*n then kE (szv T b n m) (b m-n) (T m (2*n+1)) else szv T b n m:=rfl
   rw [w1]
   by_cases e:b m<n
   ·rw [if_pos e,if_neg (by omega),Rat.add_zero]
   ·rw [if_neg e]
    by_cases e1:b m<2*n
    ·rw [if_pos e1]
     by_cases e2:b m=n+j
     ·rw [if_pos e2,show b m-n=j by omega,bD,h2 j hj,←e2,zero];grind
     ·rw [if_neg e2,cP (by omega),Rat.add_zero]
    ·rw [if_neg e1,if_neg (by omega),Rat.add_zero]
theorem aO5 {M T:Nat→Nat→Rat} {q:Nat→Rat} {n:Nat} {b:Nat→Nat} (ti:TI n (2*n+2) (uS M q n) T b) (ke:KE n (2*n+2) (uS M q n) T) (lx:LX n T) (hb:∀i,i<n→b i<2*n) (pr:∀i j,i<n→j<n→b i<2*n→b j≠cpl n (b i)):Sol M q n (szv T b n n) (swv T b n n):=by
 have inj:∀i j,i<n→j<n→b i=b j→i=j:=fun i j hi hj e=>ti.inj hi hj e
 obtain⟨h1,h2⟩:=aP3 (T:=T) inj n (Nat.le_refl n)
 have ew:∀j,j<n→swv T b n n j=bx T b n j:=fun j hj=>by rw [h1 j hj];unfold bx;rw [if_neg (by omega)]
 have ez:∀j,j<n→szv T b n n j=bx T b n (n+j):=fun j hj=>by rw [h2 j hj];unfold bx;rw [if_neg (by omega)]
 have hb':∀i,i<n→b i≤2*n:=fun i hi=>by have:=hb i hi;omega
 have nnb:∀k,k<2*n→0≤bx T b n k:=fun k hk=>by
  by_cases e:∃i,i<n∧b i=k
  ·obtain⟨i,hi,e⟩:=e
   rw [←e,aSS ti hb' hi];exact lx.last hi
  ·rw [aKT (by omega) fun i hi e2=>e ⟨i,hi,e2⟩];exact Rat.le_refl
 refine⟨fun j hj=>by rw [ez j hj];exact nnb _ (by omega),fun j hj=>by rw [ew j hj];exact nnb _ (by omega),fun i hi=>?_,fun j hj=>?_⟩
 ·have:=aRx hi (ke (bx T b n) (fun i hi=>aOr ti hb' hi) i hi) (if_pos rfl)
  rw [aKT (k:=2*n) (by omega) (fun i hi=>by have:=hb i hi;omega),Rat.add_zero] at this
  rw [ew i hi,this]
  congr 1
  exact fU fun j hj=>by rw [ez j hj]
 ·rw [ez j hj,ew j hj]
  by_cases e:∃i,i<n∧b i=n+j
  ·obtain⟨i,hi,e⟩:=e
   right
   refine aKT (by omega) fun i' hi' e2=>?_
   refine pr i i' hi hi' (by omega) ?_
   rw [e2,e];unfold cpl;rw [if_neg (by omega)];omega
  ·left;exact aKT (by omega) fun i hi e2=>e ⟨i,hi,e2⟩
theorem aJX {M:Nat→Nat→Rat} {q:Nat→Rat} {n most:Nat}:∀f T b r c cnt,LI n (uS M q n) T b r c→KE n (2*n+2) (uS M q n) T→LX n (wL T r c)→CB n b c→(lem n most f T b r c cnt).2=0→∃z w,(lem n most f T b r c cnt).1.z=mp z n∧(lem n most f T b r c cnt).1.w=mp w n∧Sol M q n z w
 |0,T,b,r,c,cnt,li,ke,lx,cb,h0=>absurd h0 (by unfold lem;decide)
 |f+1,T,b,r,c,cnt,li,ke,lx,cb,h0=>by
  have hc:=li.hc
  have hr:=li.hr
  have ti':=li.ti.pivot hr (show c<2*n+2 by omega) li.hp
  have ke':=ke.pivot hr li.hp
  unfold lem at h0 ⊢
  by_cases e:cnt=most
  ·rw [if_pos e] at h0;exact absurd h0 (by decide)
  ·rw [if_neg e] at h0 ⊢
   by_cases e2:b r=2*n
   ·rw [if_pos e2]
    refine⟨_,_,rfl,rfl,aO5 ti' ke' lx (fun i hi=>?_) (cb.pr' hr hc)⟩
    by_cases e3:i=r
    ·rw [e3,bD]
     have:=cb.nc r hr
     omega
    ·rw [cP e3]
     have h5:=li.hb i hi
     have h6:b i≠2*n:=fun h=>e3 (cb.inj i r hi hr (by rw [h,e2]))
     omega
   ·rw [if_neg e2] at h0 ⊢
    have hlt:b r<2*n:=by have:=li.hb r hr;omega
    cases hs:sel (wL T r c) n (if b r<n then b r+n else b r-n) n 0 none with
    |none=>rw [hs] at h0;exact absurd h0 (show¬(15:Int)=0 by decide)
    |some r'=>
     rw [hs] at h0
     obtain⟨s1,s2⟩:=aAj n 0 none r' (fun q hq=>by cases hq) hs
     have hm:=aCZ n 0 none r' (fun q hq=>by cases hq) (fun _ k hk=>by omega) hs
     exact aJX f (wL T r c) (kE b r c) r' _ (cnt+1) (li.next e2 hs) ke' (lx.pivot (by omega) (aQ4.1 s2) fun k hk hp=>hm k (by omega) (aQ4.2 hp)) (cb.next hr hc hlt) h0
theorem aJr {M:Nat→Nat→Rat} {q:Nat→Rat} {n i:Nat}:uS M q n i (2*n)=-1:=by
 unfold uS;rw [if_neg (by omega),if_neg (by omega),if_pos rfl]
theorem aIi {M:Nat→Nat→Rat} {q:Nat→Rat} {n i:Nat}:uS M q n i (2*n+1)=q i:=by
 unfold uS;rw [if_neg (by omega),if_neg (by omega),if_neg (by omega)]
theorem aPE {q:Nat→Rat}:∀t i,ng q t i=true→∃k,i≤k∧k<i+t∧q k<0
 |0,i,h=>absurd h (by unfold ng;decide)
 |t+1,i,h=>by
  unfold ng at h
  by_cases e:(q i).num.sign<0
  ·refine⟨i,by omega,by omega,?_⟩
   rw [Int.sign_neg_iff,←Int.not_le,Rat.num_nonneg,Rat.not_le] at e;exact e
  ·rw [decide_eq_false e,bJ] at h
   obtain⟨k,h1,h2,h3⟩:=aPE t (i+1) h
   exact⟨k,by omega,by omega,h3⟩
theorem aNC {q:Nat→Rat}:∀t i,ng q t i=false→∀k,i≤k→k<i+t→0≤q k
 |0,i,h,k,h1,h2=>by omega
 |t+1,i,h,k,h1,h2=>by
  unfold ng at h
  by_cases e:(q i).num.sign<0
  ·rw [decide_eq_true e,bS] at h;cases h
  ·rw [decide_eq_false e,bJ] at h
   by_cases e2:k=i
   ·rw [Int.sign_neg_iff,←Int.not_le,Rat.num_nonneg] at e
    rw [e2];exact Decidable.not_not.1 e
   ·exact aNC t (i+1) h k (by omega) (by omega)
theorem aQH {M:Nat→Nat→Rat} {q:Nat→Rat} {n:Nat} (hneg:ng q n 0=true):LX n (wL (uS M q n) (aAt (uS M q n) n n 0 0) (2*n)):=fun i hi=>by
 have hm:=aE7 (n:=n) (T:=uS M q n) n 0 0 (fun k hk=>by omega)
 generalize hr:aAt (uS M q n) n n 0 0=r at *
 have hrn:r<n:=by rw [←hr];exact aBS n 0 0 (aD2 hneg) (by omega)
 by_cases e:i=r
 ·unfold nn
  left
  obtain⟨k,_,k2,k3⟩:=aPE n 0 hneg
  have h1:=(hm k k2).head
  have e1:p5 n 0=2*n+1:=rfl
  simp only [e1,aIi] at h1
  show 0<wL (uS M q n) r (2*n) i (p5 n 0)
  unfold wL
  rw [if_pos e,e1,aIi,aJr]
  grind
 ·refine(hm i (by omega)).congr fun j=>?_
  unfold wL
  rw [if_neg e,aJr,aJr]
  grind
theorem aQV {n:Nat}:CB n (fun j=>j) (2*n):=
 ⟨fun i j _ _ e=>e,fun i hi=>by show i≠2*n;omega,fun h=>absurd h (Nat.lt_irrefl _),fun i j hi hj _=>by show j≠cpl n i;unfold cpl;rw [if_pos hi];omega⟩
theorem aND {M:Nat→Nat→Rat} {q:Nat→Rat} {n most:Nat} (h0:(w9 M q n most).2=0):∃z w,(w9 M q n most).1.z=mp z n∧(w9 M q n most).1.w=mp w n∧Sol M q n z w:=by
 unfold w9 at h0 ⊢
 cases hneg:ng q n 0
 ·rw [hneg,bJ] at h0
  rw [bJ]
  refine⟨_,_,rfl,rfl,fun _ _=>Rat.le_refl,fun j hj=>aNC n 0 hneg j (by omega) (by omega),fun i hi=>?_,fun _ _=>Or.inl rfl⟩
  rw [aBJ fun j _=>show M i j*z0 j=0 from Rat.mul_zero _,Rat.zero_add]
 ·rw [hneg,bS] at h0
  rw [bS]
  exact aJX _ _ _ _ _ _ (aG1 (aBS n 0 0 (aD2 hneg) (by omega))) (fun x hx=>hx) (aQH hneg) aQV h0
end Go.Proofs.YtcjdedkdoagifaaGreat
set_option linter.unusedVariables false
namespace Go.Proofs.YtcjdedkdoagifaaGreat
def aMC (p:Nat→aF) (c:Rat) (q:Nat→aF):Nat→aF:=fun i=>⟨(p i).n+c*(q i).n,(p i).f+c*(q i).f⟩
theorem aRD {v:List Rat} {l:List aA} {z y:Nat→Rat} {c:Rat}:pz v l (fun k=>z k+c*y k)=aMC (pz v l z) c (pz v l y):=by
 funext i
 unfold pz aMC
 by_cases h:(lE l i).t.length=0
 ·simp only [if_pos h];congr 1;grind
 ·by_cases h2:(rt (lE l i).t v).num.sign≠0
  ·simp only [if_neg h,if_pos h2];congr 1;grind
  ·simp only [if_neg h,if_neg h2];congr 1;grind
theorem aMj {l:List aA} {p q:Nat→aF} {c:Rat} {m j:Nat}:t8 l (aMC p c q) m j=t8 l p m j+c*t8 l q m j:=by
 unfold t8
 rw [←zU,←aG3]
 refine fU fun r _=>?_
 unfold rcq aMC
 grind
theorem aOn {d:List aG} {l:List aA} {p q:Nat→aF} {c:Rat}:yH d z0 l (aMC p c q)=fun j=>yH d z0 l p j+c*yH d z0 l q j:=by
 funext j
 unfold yH z0
 rw [aMj];grind
theorem aRy {v:List Rat} {l:List aA} {z y:Nat→Rat} {c:Rat} {k:Nat}:zv v l (fun k=>z k+c*y k) k=zv v l z k+c*zv v l y k:=by
 unfold zv
 split
 ·grind
 ·split
  ·rfl
  ·split
   ·rfl
   ·grind
def gv (d:List aG) (v:List Rat) (l:List aA) (z:Nat→Rat) (i:Nat):Rat:=rv v l (mp (yH d z0 l (pz v l z)) d.length) i+zv v l z i
theorem aNY {d:List aG} {v:List Rat} {l:List aA} {z y:Nat→Rat} {c:Rat} {i:Nat}:gv d v l (fun k=>z k+c*y k) i=gv d v l z i+c*gv d v l y i:=by
 unfold gv
 rw [aRD,aOn,aRy,aJt,aQR];grind
theorem aOs {d:List aG} {v:List Rat} {l:List aA} {i:Nat}:gv d v l z0 i=0:=by
 have h:=aNY (d:=d) (v:=v) (l:=l) (z:=z0) (y:=z0) (c:=-1) (i:=i)
 have e:(fun k=>z0 k+ -1*z0 k)=z0:=by funext k;show(0:Rat)+ -1*0=0;grind
 rw [e] at h;grind
theorem aNL {d:List aG} {v:List Rat} {l:List aA} {z:Nat→Rat} {i:Nat}:∀m,gv d v l (tz z m) i=sm (fun k=>Mf d v l i k*z k) m
 |0=>by
  have e:tz z 0=z0:=funext fun k=>aC9 (Nat.zero_le _)
  rw [e];exact aOs
 |m+1=>by
  have e:tz z (m+1)=fun k=>tz z m k+z m*ek m k:=funext fun k=>by
   by_cases h:k=m
   ·subst h
    rw [aKO rfl,aC9 (Nat.le_refl _)]
    unfold ek;rw [bD];grind
   ·rw [aDR h]
    unfold ek;rw [cP h];show _=_+z m*0;grind
  rw [e,aNY,aNL m]
  show _=sm _ m+Mf d v l i m*z m
  have:gv d v l (ek m) i=Mf d v l i m:=rfl
  rw [this];grind
theorem aQ0 {d:List aG} {f v:List Rat} {l:List aA} {z:Nat→Rat} {n i:Nat} (hz:tz z n=z):sm (fun k=>Mf d v l i k*z k) n+qf d (qB f) v l i=vl v l (mp (yH d (qB f) l (pz v l z)) d.length) z i:=by
 rw [←aNL,hz]
 unfold gv vl qf
 rw [aFP (f:=qB f) (p:=pz v l z),aJt]
 generalize rv v l (mp (yH d (qB f) l p0) d.length) i=x
 generalize rv v l (mp (yH d z0 l (pz v l z)) d.length) i=y
 generalize zv v l z i=u
 grind
structure aO2 (r:aA) (v:List Rat) (a:List Rat) (p:aF):Prop where
 n0:0≤p.n
 j0:0≤rt r.j a
 nj:p.n=0∨rt r.j a=0
 none:r.t.length=0→p.f=0
 slip:r.t.length≠0→rt r.t v≠0→p.f=(((-(rt r.t v).num.sign:Int):Rat)/((1:Int):Rat))*(r.mu*p.n)
 stick:r.t.length≠0→rt r.t v=0→p.f≤r.mu*p.n∧-(p.f)≤r.mu*p.n∧(0<rt r.t a→p.f=-(r.mu*p.n))∧(rt r.t a<0→p.f=r.mu*p.n)
theorem aMh {d:List aG} {f v:List Rat} {l:List aA} {z w:Nat→Rat} (hz:tz z (off v l l.length)=z) (h:Sol (Mf d v l) (qf d (qB f) v l) (off v l l.length) z w) {r:Nat} (hr:r<l.length):aO2 (lE l r) v (mp (yH d (qB f) l (pz v l z)) d.length) (pz v l z r):=by
 have W:∀i,i<off v l l.length→w i=vl v l (mp (yH d (qB f) l (pz v l z)) d.length) z i:=fun i hi=>by rw [h.eq i hi,aQ0 hz]
 generalize mp (yH d (qB f) l (pz v l z)) d.length=a at *
 have q0:vq v l r 0:=.inl rfl
 have b0:=sK (v:=v) hr q0
 rw [Nat.add_zero] at b0
 have u0:uk v l (off v l r)=(r,0):=aDP q0 hr
 have w0:w (off v l r)=rt (lE l r).j a:=by
  rw [W _ b0]
  unfold vl rv zv
  simp only [u0,if_true];rw [Rat.add_zero]
 have z1:=h.z0 _ b0
 have z2:=h.w0 _ b0
 have z3:=h.zw _ b0
 rw [w0] at z2 z3
 have pn:(pz v l z r).n=z (off v l r):=by
  unfold pz
  split
  ·rfl
  ·split<;>rfl
 refine⟨by rw [pn];exact z1,z2,by rw [pn];exact z3,fun ht=>?_,fun ht hs=>?_,fun ht hs=>?_⟩
 ·unfold pz;rw [if_pos ht]
 ·have:(rt (lE l r).t v).num.sign≠0:=fun e=>hs (aBh.1 e)
  rw [pn]
  unfold pz;rw [if_neg ht,if_pos this]
 ·have hk:stk v (lE l r)=true:=by
   unfold stk
   rw [decide_eq_true (show 0<(lE l r).t.length by omega),decide_eq_true (aBh.2 hs)];rfl
  have q1:vq v l r 1:=.inr ⟨hk,by omega⟩
  have q2:vq v l r 2:=.inr ⟨hk,by omega⟩
  have q3:vq v l r 3:=.inr ⟨hk,by omega⟩
  have b1:=sK (v:=v) hr q1
  have b2:=sK (v:=v) hr q2
  have b3:=sK (v:=v) hr q3
  have w1:w (off v l r+1)=rt (lE l r).t a+z (off v l r+1+2):=by
   rw [W _ b1];unfold vl rv zv;simp only [aDP q1 hr];rfl
  have w2:w (off v l r+2)=-(rt (lE l r).t a)+z (off v l r+2+1):=by
   rw [W _ b2];unfold vl rv zv;simp only [aDP q2 hr];rfl
  have w3:w (off v l r+3)=0+((lE l r).mu*z (off v l r+3-3)-(z (off v l r+3-2)+z (off v l r+3-1))):=by
   rw [W _ b3];unfold vl rv zv;simp only [aDP q3 hr];rfl
  rw [show off v l r+1+2=off v l r+3 by omega] at w1
  rw [show off v l r+2+1=off v l r+3 by omega] at w2
  rw [show off v l r+3-3=off v l r by omega,show off v l r+3-2=off v l r+1 by omega,show off v l r+3-1=off v l r+2 by omega] at w3
  have f1:=h.z0 _ b1
  have f2:=h.z0 _ b2
  have f3:=h.z0 _ b3
  have g1:=h.w0 _ b1
  have g2:=h.w0 _ b2
  have g3:=h.w0 _ b3
  have c1:=h.zw _ b1
  have c2:=h.zw _ b2
  have c3:=h.zw _ b3
  rw [w1] at g1 c1
  rw [w2] at g2 c2
  rw [w3] at g3 c3
  have pf:(pz v l z r).f=z (off v l r+1)-z (off v l r+2):=by
   unfold pz;rw [if_neg ht,if_neg (fun e=>e (aBh.2 hs))]
  rw [pn,pf]
  generalize rt (lE l r).t a=t at *
  generalize z (off v l r+1)=x1 at *
  generalize z (off v l r+2)=x2 at *
  generalize z (off v l r+3)=x3 at *
  generalize(lE l r).mu*z (off v l r)=m at *
  refine⟨by grind,by grind,fun h=>?_,fun h=>?_⟩
  ·have e1:x1=0:=by grind
   have e3:0+(m-(x1+x2))=0:=by grind
   grind
  ·have e1:x2=0:=by grind
   have e3:0+(m-(x1+x2))=0:=by grind
   grind
theorem aIR {n most:Nat}:∀f T b r c cnt,(lem n most f T b r c cnt).2=0∨(lem n most f T b r c cnt).2=15∨(lem n most f T b r c cnt).2=16
 |0,T,b,r,c,cnt=>Or.inr (Or.inr rfl)
 |f+1,T,b,r,c,cnt=>by
  unfold lem
  by_cases e:cnt=most
  ·rw [if_pos e];exact Or.inr (Or.inr rfl)
  ·rw [if_neg e]
   by_cases e2:b r=2*n
   ·rw [if_pos e2];exact Or.inl rfl
   ·rw [if_neg e2]
    cases sel (wL T r c) n (if b r<n then b r+n else b r-n) n 0 none with
    |none=>exact Or.inr (Or.inl rfl)
    |some r'=>exact aIR f _ _ _ _ _
theorem aLq {M:Nat→Nat→Rat} {q:Nat→Rat} {n most:Nat}:(w9 M q n most).2=0∨(w9 M q n most).2=15∨(w9 M q n most).2=16:=by
 unfold w9
 cases ng q n 0
 ·exact Or.inl rfl
 ·exact aIR _ _ _ _ _ _
theorem aLm {d:List aG} {f v:List Rat} {l:List aA}:((aDL d f v l).2.2=15∨(aDL d f v l).2.2=16)∨∃z,aDL d f v l=(mp (yH d (qB f) l (pz v l z)) d.length,mp (pz v l z) l.length,0)∧∀r,r<l.length→aO2 (lE l r) v (mp (yH d (qB f) l (pz v l z)) d.length) (pz v l z r):=by
 by_cases h0:(w9 (Mf d v l) (qf d (qB f) v l) (off v l l.length) 4096).2=0
 ·right
  obtain⟨z,w,h1,h2,h3⟩:=aND h0
  have ez:qB (w9 (Mf d v l) (qf d (qB f) v l) (off v l l.length) 4096).1.z=tz z (off v l l.length):=by
   rw [h1];funext j
   unfold tz
   by_cases e:j<off v l l.length
   ·rw [if_pos e,aBx e]
   ·rw [if_neg e];unfold qB;rw [List.getD_eq_getElem?_getD,List.getElem?_eq_none (by rw [bX];omega)];rfl
  refine⟨tz z (off v l l.length),?_,fun r hr=>?_⟩
  ·unfold aDL;rw [nF h0,bJ,ez]
  ·have tt:tz (tz z (off v l l.length)) (off v l l.length)=tz z (off v l l.length):=funext fun j=>by unfold tz;split<;>rfl
   have hs:Sol (Mf d v l) (qf d (qB f) v l) (off v l l.length) (tz z (off v l l.length)) w:=by
    have e:∀j,j<off v l l.length→tz z (off v l l.length) j=z j:=fun j hj=>if_pos hj
    exact⟨fun j hj=>by rw [e j hj];exact h3.z0 j hj,h3.w0,fun i hi=>by rw [h3.eq i hi];congr 1;exact fU fun j hj=>by rw [e j hj],fun j hj=>by rw [e j hj];exact h3.zw j hj⟩
   exact aMh tt hs hr
 ·left
  unfold aDL;rw [nT h0,bS]
  rcases aLq (M:=Mf d v l) (q:=qf d (qB f) v l) (n:=off v l l.length) (most:=4096) with h|h|h
  ·exact absurd h h0
  ·exact Or.inl h
  ·exact Or.inr h
end Go.Proofs.YtcjdedkdoagifaaGreat
set_option linter.unusedVariables false
namespace Go.Proofs.YtcjdedkdoagifaaGreat
theorem aEd (s:Rat):(0<s→s.num.sign=1)∧(s<0→s.num.sign=-1):=by
 refine⟨fun h=>Int.sign_eq_one_of_pos (aIK.2 h),fun h=>Int.sign_eq_neg_one_of_neg ?_⟩
 rw [←Int.not_le,Rat.num_nonneg,Rat.not_le];exact h
theorem aLg {d:List aG} {f v:List Rat} {l:List aA} (h:ScB d f v l) (hm:l.length≤4) (h8:∀j,j<d.length→Bd 8 (qB f j)):uD 20000000 (aDL d f v l).1∧(∀p∈(aDL d f v l).2.1,Bd 300000 p.n∧Bd 300000 p.f):=by
 have hn:=h.n8
 have hrb:RsB l:=fun r hr=>(h.sb.sl r hr).1
 unfold aDL
 by_cases h0:(w9 (Mf d v l) (qf d (qB f) v l) (off v l l.length) 4096).2=0
 ·rw [nF h0,bJ]
  obtain⟨z1,z2⟩:=aMP (aNn h (show l.length≤5 by omega) h8) (by omega) h0
  have zb:∀j,j<off v l l.length→Bd 100000 (qB (w9 (Mf d v l) (qf d (qB f) v l) (off v l l.length) 4096).1.z j):=fun j hj=>z2 _ (u8 (by omega))
  have pb:=aF4 zb h.sb.sl
  have hA:(2*100000+11+9)*24*l.length≤400000000:=Nat.le_trans (Nat.mul_le_mul_left _ hm) (by decide)
  have ab:=aCx h.sb.sd h.fbd hrb h.ir pb (by omega) (by omega) (by omega) hA
  have aB:aGO 64 (2*100000+11) l.length≤20000000:=by unfold aGO;omega
  refine⟨fun x hx=>(ab x hx).mono aB,fun p hp=>?_⟩
  obtain⟨i,hi,rfl⟩:=List.mem_map.1 hp
  obtain⟨b1,b2⟩:=pb i (List.mem_range.1 hi)
  exact⟨b1.mono (by omega),b2.mono (by omega)⟩
 ·rw [nT h0,bS]
  exact⟨fun x hx=>absurd hx List.not_mem_nil,fun x hx=>absurd hx List.not_mem_nil⟩
end Go.Proofs.YtcjdedkdoagifaaGreat
set_option linter.unusedVariables false
namespace Go.Proofs.YtcjdedkdoagifaaGreat
theorem dsN {x:Rat}:decide (x.num.sign<0)=decide (x<0):=decide_eq_decide.2 (by rw [Int.sign_neg_iff,←Int.not_le,Rat.num_nonneg,Rat.not_le])
theorem dsP {x:Rat}:decide (0<x.num.sign)=decide (0<x):=decide_eq_decide.2 aQ4
theorem ds0 {x:Rat}:(x.num.sign==0)=decide (x=0):=by
 by_cases h:x=0
 ·rw [decide_eq_true h,qT (aBh.2 h)]
 ·rw [decide_eq_false h,qF (fun e=>h (aBh.1 e))]
theorem aPY {a b:Rat}:decide ((if a<b then -1 else if b<a then 1 else 0:Int)≤0)=decide (a≤b):=decide_eq_decide.2 (by
 by_cases h:a<b
 ·rw [if_pos h];exact⟨fun _=>Rat.le_of_lt h,fun _=>by decide⟩
 ·rw [if_neg h]
  by_cases h2:b<a
  ·rw [if_pos h2];exact⟨fun h=>absurd h (by decide),fun h=>absurd h2 (Rat.not_lt.2 h)⟩
  ·rw [if_neg h2];exact⟨fun _=>Rat.not_lt.1 h2,fun _=>by decide⟩)
def aHX (r:aA) (a:List Rat) (p:aF) (x:Rat):Bool:=
 bif decide (p.n<0) then false else bif decide (rt r.j a<0) then false else bif decide (0<rt r.j a)&&decide (0<p.n) then false else
 bif decide (r.t.length=0) then decide (p.f=0) else bif decide (0<x) then decide (p.f=-(r.mu*p.n)) else bif decide (x<0) then decide (p.f=r.mu*p.n) else
 decide (p.f≤r.mu*p.n)&&decide (-(p.f)≤r.mu*p.n)
def aOa (r:aA) (v a:List Rat):Rat:=bif decide (rt r.t v=0) then rt r.t a else rt r.t v
def aFL (r:aA) (v a:List Rat) (p:aF):Bool:=aHX r a p (aOa r v a)
theorem aOb {α:Type} {l:List α}:(((l.length:Nat):Int)==0)=decide (l.length=0):=by
 by_cases h:l.length=0
 ·rw [decide_eq_true h,h];rfl
 ·rw [decide_eq_false h,qF (by omega)]
theorem aJY {r:aA} {a:List Rat} {p:aF} {x m:Rat} {C:Nat} (hm:m=r.mu*p.n) (hn:Bd C p.n) (hf:Bd C p.f) (hM:Bd (C+8) m) (hC:C≤100000000) (K:Nat):jL K r p (rt r.j a).num.sign m x.num.sign=some (aHX r a p x):=by
 subst hm
 have e1:=jR hn (by omega)
 have e2:=jR hf (by omega)
 have e3:=yL hM (by omega)
 have e4:=yL hf (by omega)
 have e5:=aBF hf hM (by omega) (by omega)
 have e6:=aBF hf hM.neg (by omega) (by omega)
 have e7:=aBU hf hM (by omega) (by omega)
 have e8:=aBU hf.neg hM (by omega) (by omega)
 unfold aHX
 simp only [jL,e1,oB,dsN,dsP,e2,e3,e4,e5,e6,e7,e8,ds0,aOb,aPY]
 cases decide (p.n<0)<;>cases decide (rt r.j a<0)<;>cases decide (0<rt r.j a)<;>cases decide (0<p.n)<;>cases decide (r.t.length=0)<;>cases decide (0<x)<;>cases decide (x<0)<;>cases decide (p.f≤r.mu*p.n)<;>rfl
theorem aNE {d:List aG} {f v a:List Rat} {l:List aA} {r:aA} {p:aF} {C B:Nat} (hv:uD 64 v) (ha:uD B a) (hr:RC r) (hn:Bd C p.n) (hf:Bd C p.f) (hC:C≤100000000) (hB:B≤80000000) {K:Nat} (hK:13≤K):pL K ⟨d,f,v,l⟩ r a p=some (aFL r v a p):=by
 have hM:Bd (C+8) (r.mu*p.n):=(hr.2.mul hn).mono (by omega)
 simp only [pL,wZ ha hB hr.1.1 hK,wZ ha hB hr.1.2 hK,oB,jR (xZ ha hr.1.1) (by omega),jR (xZ ha hr.1.2) (by omega),qS hr.2 hn (by omega) (by omega),aGQ hv hr.1 hK]
 unfold aFL aOa
 by_cases h:rt r.t v=0
 ·rw [nF (aBh.2 h),bJ,decide_eq_true h,bS];exact aJY rfl hn hf hM hC K
 ·rw [nT (fun e=>h (aBh.1 e)),bS,decide_eq_false h,bJ];exact aJY rfl hn hf hM hC K
theorem aLQ {v a:List Rat} {r:aA} {p:aF} {C B:Nat} (hv:uD 64 v) (ha:uD B a) (hr:RC r) (hn:Bd C p.n) (hf:Bd C p.f) (hC:C≤100000000) (hB:B≤80000000) {K:Nat} (hK:13≤K):jY K r v a p=some (aFL r v a p):=by
 have hM:Bd (C+8) (r.mu*p.n):=(hr.2.mul hn).mono (by omega)
 have e1:=jR hn (by omega)
 have e2:=jR hf (by omega)
 have e3:=yL hM (by omega)
 have e4:=yL hf (by omega)
 have e5:=aBF hf hM (by omega) (by omega)
 have e6:=aBF hf hM.neg (by omega) (by omega)
 have e7:=aBU hf hM (by omega) (by omega)
 have e8:=aBU hf.neg hM (by omega) (by omega)
 have e9:=qS hr.2 hn (by omega) (by omega)
 have e10:=yQ ha hB hr.1.1 hK
 have e11:=yQ ha hB hr.1.2 hK
 have e12:=jR (xZ ha hr.1.1) (by omega)
 have e13:=jR (xZ ha hr.1.2) (by omega)
 have e14:=aE9 hv hr.1 hK
 unfold aFL aOa aHX
 by_cases h:rt r.t v=0
 ·simp only [jY,e1,oB,dsN,dsP,e2,e3,e4,e5,e6,e7,e8,e9,e10,e11,e12,e13,e14,ds0,aOb,aPY,nF (aBh.2 h),bJ,decide_eq_true h,bS]
  cases decide (p.n<0)<;>cases decide (rt r.j a<0)<;>cases decide (0<rt r.j a)<;>cases decide (0<p.n)<;>cases decide (r.t.length=0)<;>cases decide (0<rt r.t a)<;>cases decide (rt r.t a<0)<;>cases decide (p.f≤r.mu*p.n)<;>rfl
 ·have hs:(rt r.t v).num.sign≠0:=fun e=>h (aBh.1 e)
  by_cases hp:0<rt r.t v
  ·have s1:=(aEd _).1 hp
   have s2:¬rt r.t v<0:=by grind
   have q1:zK (-1) 1=some (-1):=by rw [aHC (by omega) (by omega)];exact congrArg some (by decide+kernel)
   have q2:xU (-1) (r.mu*p.n)=some (-(r.mu*p.n)):=by
    rw [qS (m:=1) (by constructor<;>decide) hM (by omega) (by omega)];exact congrArg some (by grind)
   simp only [jY,e1,oB,dsN,dsP,e2,e6,e9,e10,e12,e14,ds0,aOb,nT hs,bS,decide_eq_false h,bJ,s1,show aS (-1)=some (-1) from rfl,q1,q2,decide_eq_true hp]
   cases decide (p.n<0)<;>cases decide (rt r.j a<0)<;>cases decide (0<rt r.j a)<;>cases decide (0<p.n)<;>cases decide (r.t.length=0)<;>rfl
  ·have hn':rt r.t v<0:=by grind
   have s1:=(aEd _).2 hn'
   have q1:zK 1 1=some 1:=aEu
   have q2:xU 1 (r.mu*p.n)=some (r.mu*p.n):=by
    rw [qS (m:=1) (by constructor<;>decide) hM (by omega) (by omega)];exact congrArg some (by grind)
   simp only [jY,e1,oB,dsN,dsP,e2,e5,e9,e10,e12,e14,ds0,aOb,nT hs,bS,decide_eq_false h,bJ,s1,show aS (- -1)=some 1 from rfl,q1,q2,decide_eq_false hp,decide_eq_true hn']
   cases decide (p.n<0)<;>cases decide (rt r.j a<0)<;>cases decide (0<rt r.j a)<;>cases decide (0<p.n)<;>cases decide (r.t.length=0)<;>rfl
theorem aO2.law {r:aA} {v a:List Rat} {p:aF} (h:aO2 r v a p):aFL r v a p=true:=by
 unfold aFL aOa aHX
 have n0:=h.n0
 have j0:=h.j0
 have nj:=h.nj
 rw [decide_eq_false (show¬p.n<0 by grind),bJ,decide_eq_false (show¬rt r.j a<0 by grind),bJ]
 have c:(decide (0<rt r.j a)&&decide (0<p.n))=false:=by
  rcases nj with e|e
  ·rw [decide_eq_false (show¬0<p.n by grind),Bool.and_false]
  ·rw [decide_eq_false (show¬0<rt r.j a by grind),Bool.false_and]
 rw [c,bJ]
 by_cases h0:r.t.length=0
 ·rw [decide_eq_true h0,bS];exact decide_eq_true (h.none h0)
 ·rw [decide_eq_false h0,bJ]
  by_cases hs:rt r.t v=0
  ·obtain⟨s1,s2,s3,s4⟩:=h.stick h0 hs
   rw [decide_eq_true hs,bS]
   by_cases hp:0<rt r.t a
   ·rw [decide_eq_true hp,bS];exact decide_eq_true (s3 hp)
   ·rw [decide_eq_false hp,bJ]
    by_cases hn:rt r.t a<0
    ·rw [decide_eq_true hn,bS];exact decide_eq_true (s4 hn)
    ·rw [decide_eq_false hn,bJ,decide_eq_true s1,decide_eq_true s2];rfl
  ·have e:=h.slip h0 hs
   rw [decide_eq_false hs,bJ]
   by_cases hp:0<rt r.t v
   ·rw [(aEd _).1 hp,show(((-1:Int):Rat)/((1:Int):Rat))=-1 by decide+kernel] at e
    rw [decide_eq_true hp,bS];exact decide_eq_true (by rw [e];grind)
   ·have hn:rt r.t v<0:=by grind
    rw [(aEd _).2 hn,show(((-(-1):Int):Rat)/((1:Int):Rat))=1 by decide+kernel] at e
    rw [decide_eq_false hp,bJ,decide_eq_true hn,bS];exact decide_eq_true (by rw [e];grind)
end Go.Proofs.YtcjdedkdoagifaaGreat
