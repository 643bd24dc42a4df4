/- Digits in the base 1000000000: windows of a list of digits, their value, and the canonical list of a number. -/
import Derived.Test.YtcjdedkdoagifaaGreatD2
set_option linter.unusedVariables false
namespace Go.Proofs.YtcjdedkdoagifaaGreat
theorem mM {x:Int} (h:-9223372036854775808≤x∧x≤9223372036854775807):bQ x=some x:=by unfold bQ;rw [if_pos h]
theorem oM {x y:Int} (h0:0≤x) (h1:0<y) (h2:x≤9223372036854775807):r4 x y=some (x/y):=by
 unfold r4
 rw [if_neg (by omega),Int.tdiv_eq_ediv_of_nonneg h0]
 have a:=Int.ediv_nonneg h0 (Int.le_of_lt h1)
 have b:=Int.ediv_le_self y h0
 exact mM ⟨by omega,by omega⟩
theorem kL {x y:Int} (h0:0≤x) (h1:0<y):r6 x y=some (x%y):=by
 unfold r6
 rw [if_neg (by omega),Int.tmod_eq_emod_of_nonneg h0]
theorem dC {xs:List Int} {i:Nat} (h:i<xs.length):dO xs (i:Int)=some (xs.getD i 0):=by
 unfold dO
 rw [if_pos (by omega)]
 simp [List.getD_eq_getElem?_getD,h]
theorem o5 {xs:List Int} {i:Nat} {v:Int} (h:i<xs.length):n8 xs (i:Int) v=some (xs.set i v):=by
 unfold n8
 rw [if_pos (by constructor;omega;simpa using h)]
 simp
theorem aBA {α:Type} {xs:List α} {n:Nat} (h:n≤xs.length):slL xs 0 (n:Int)=some (xs.take n):=by
 unfold slL
 rw [if_pos (by omega)]
 simp
theorem vM {α:Type} {n:Nat} {z:α} (h:n≤68719476736):s6 (n:Int) z=some (List.replicate n z):=by
 unfold s6
 rw [if_pos (by omega)]
 simp
theorem aCS {α:Type} {xs ys:List α} (h:xs.length+ys.length≤68719476736):tB xs ys=some (xs++ys):=by
 unfold tB
 rw [if_pos h]
theorem gL {α:Type} {x y:α}:(bif true then x else y)=x:=id rfl
theorem gT {α:Type} {x y:α}:(bif false then x else y)=y:=id rfl
theorem oB {α β:Type} {x:α} {f:α→Option β}:(some x).bind f=f x:=id rfl
def Ev {α:Type} (f:Nat→Option α) (r:α):Prop:=∃N,∀K,N≤K→f K=some r
theorem Ev.pure {α:Type} (r:α):Ev (fun _=>some r) r:=⟨0,fun _ _=>rfl⟩
theorem Ev.bind {α β:Type} {f:Nat→Option α} {g:Nat→α→Option β} {x:α} {r:β} (h:Ev f x) (k:Ev (fun K=>g K x) r):Ev (fun K=>(f K).bind (g K)) r:=by
 obtain⟨N,h⟩:=h
 obtain⟨M,k⟩:=k
 exact⟨max N M,fun K hK=>by show(f K).bind (g K)=_;rw [h K (by omega)];exact k K (by omega)⟩
theorem Ev.of {α:Type} {f:Nat→Option α} {r:α} (h:∀K,f K=some r):Ev f r:=⟨0,fun K _=>h K⟩
def qK {α:Type} (f:Nat→Nat→Option α) (r:α):Prop:=∃N,∀K k,N≤K→N≤k→f K k=some r
theorem qK.ev {α:Type} {f:Nat→Nat→Option α} {r:α} (h:qK f r):Ev (fun K=>f K K) r:=by
 obtain⟨N,h⟩:=h;exact⟨N,fun K hK=>h K K hK hK⟩
theorem qK.of {α:Type} {f:Nat→Nat→Option α} {r:α} (n:Nat) (h:∀K k,n≤k→f K k=some r):qK f r:=⟨n,fun K k _ hk=>h K k hk⟩
theorem qK.step {α:Type} {f:Nat→Nat→Option α} {r:α} (h:qK (fun K k=>f K (k+1)) r):qK f r:=by
 obtain⟨N,h⟩:=h
 refine⟨N+1,fun K k hK hk=>?_⟩
 obtain⟨k',rfl⟩:∃k',k=k'+1:=⟨k-1,by omega⟩
 exact h K k' (by omega) (by omega)
theorem qK.bind {α β:Type} {f:Nat→Option α} {g:Nat→Nat→α→Option β} {x:α} {r:β} (h:Ev f x) (k:qK (fun K k=>g K k x) r):qK (fun K k=>(f K).bind (g K k)) r:=by
 obtain⟨N,h⟩:=h
 obtain⟨M,k⟩:=k
 exact⟨max N M,fun K j hK hj=>by show(f K).bind (g K j)=_;rw [h K (by omega)];exact k K j (by omega) (by omega)⟩
theorem qK.congr {α:Type} {f g:Nat→Nat→Option α} {r:α} (h:qK g r) (e:∀K k,f K k=g K k):qK f r:=by
 obtain⟨N,h⟩:=h;exact⟨N,fun K k a b=>by rw [e];exact h K k a b⟩
theorem Ev.congr {α:Type} {f g:Nat→Option α} {r:α} (h:Ev g r) (e:∀K,f K=g K):Ev f r:=by
 obtain⟨N,h⟩:=h;exact⟨N,fun K a=>by rw [e];exact h K a⟩
def PB:Nat→Int
 |0=>1
 |n+1=>PB n*1000000000
theorem nZ:∀n,0<PB n
 |0=>by decide
 |n+1=>by have:=nZ n;simp only [PB];omega
theorem vP (a:Nat):∀b,PB (a+b)=PB a*PB b
 |0=>by simp [PB]
 |b+1=>by rw [←Nat.add_assoc];simp only [PB];rw [vP a b];grind
theorem yB {a b:Nat} (h:a≤b):PB a≤PB b:=by
 obtain⟨c,rfl⟩:=Nat.exists_eq_add_of_le h
 rw [vP]
 have h1:=nZ a
 have h2:=nZ c
 have:PB a*1≤PB a*PB c:=Int.mul_le_mul_of_nonneg_left (by omega) (by omega)
 omega
theorem aGN {a b:Nat} (h:PB a<PB b):a<b:=by
 rcases Nat.lt_or_ge a b with h1|h1
 ·exact h1
 ·have:=yB h1;omega
theorem aE8:∀n,(2:Int)^(29*n)≤PB n
 |0=>by simp [PB]
 |n+1=>by
  have ih:=aE8 n
  rw [Nat.mul_add,Nat.mul_one,Int.pow_add]
  simp only [PB]
  have h1:=nZ n
  have h2:(0:Int)<2^(29*n):=Int.pow_pos (by decide)
  have:(2:Int)^29=536870912:=by decide
  rw [this]
  omega
def W (u:List Int) (j:Nat):Nat→Int
 |0=>0
 |n+1=>W u j n+u.getD (j+n) 0*PB n
theorem dS (u:List Int) (j n:Nat):W u j (n+1)=W u j n+u.getD (j+n) 0*PB n:=rfl
theorem aGg (u:List Int) (j:Nat):W u j 0=0:=rfl
theorem xU {u v:List Int} {j k:Nat}:∀{n:Nat},(∀i,i<n→u.getD (j+i) 0=v.getD (k+i) 0)→W u j n=W v k n
 |0,_=>rfl
 |n+1,h=>by rw [dS,dS,xU (n:=n) (fun i hi=>h i (by omega)),h n (by omega)]
theorem rO (u:List Int) (j a:Nat):∀b,W u j (a+b)=W u j a+PB a*W u (j+a) b
 |0=>by simp [W]
 |b+1=>by
  rw [←Nat.add_assoc,dS,dS,rO u j a b,vP,Nat.add_assoc]
  grind
theorem zI {u:List Int} {j:Nat}:∀{n:Nat},(∀i,i<n→u.getD (j+i) 0=0)→W u j n=0
 |0,_=>rfl
 |n+1,h=>by rw [dS,zI (n:=n) (fun i hi=>h i (by omega)),h n (by omega)];simp
theorem tO (u:List Int) (k:Nat) (v:Int) (i:Nat):(u.set k v).getD i 0=if i=k∧k<u.length then v else u.getD i 0:=by
 simp only [List.getD_eq_getElem?_getD,List.getElem?_set]
 by_cases h:k=i
 ·subst h
  by_cases h2:k<u.length
  ·simp [h2]
  ·simp [h2]
 ·rw [if_neg h,if_neg (fun e=>h e.1.symm)]
theorem qJ {u:List Int} {i:Nat} (h:u.length≤i):u.getD i 0=0:=by
 simp [List.getD_eq_getElem?_getD,List.getElem?_eq_none h]
theorem eR {u:List Int} {k i:Nat} {v:Int} (h:i≠k):(u.set k v).getD i 0=u.getD i 0:=by
 rw [tO,if_neg (fun e=>h e.1)]
theorem d8 {u:List Int} {k:Nat} {v:Int} (h:k<u.length):(u.set k v).getD k 0=v:=by
 rw [tO,if_pos ⟨rfl,h⟩]
theorem sF {u:List Int} {k j n:Nat} {v:Int} (h:k<j∨j+n≤k):W (u.set k v) j n=W u j n:=
 xU fun i hi=>eR (by omega)
theorem aCb {u v:List Int} {i:Nat} (h:i<u.length):(u++v).getD i 0=u.getD i 0:=by
 simp [List.getD_eq_getElem?_getD,List.getElem?_append_left h]
theorem aAX {u:List Int} {x:Int}:(u++[x]).getD u.length 0=x:=by
 simp [List.getD_eq_getElem?_getD]
theorem aEo {u:List Int} {x:Int}:W (u++[x]) 0 (u.length+1)=W u 0 u.length+x*PB u.length:=by
 rw [dS,Nat.zero_add,aAX,xU (v:=u) (k:=0)]
 intro i hi
 rw [Nat.zero_add]
 exact aCb hi
theorem uO {u:List Int} {n:Nat} (h:u.length≤n):W u 0 n=W u 0 u.length:=by
 obtain⟨c,rfl⟩:=Nat.exists_eq_add_of_le h
 rw [rO,zI (j:=0+u.length) (fun i _=>qJ (by omega))]
 simp
def jB (u:List Int):Prop:=∀i,0≤u.getD i 0∧u.getD i 0<1000000000
def Dr (u:List Int) (j n:Nat):Prop:=∀i,i<n→0≤u.getD (j+i) 0∧u.getD (j+i) 0<1000000000
theorem jB.dr {u:List Int} (h:jB u) (j n:Nat):Dr u j n:=fun i _=>h _
theorem Dr.ok {u:List Int} (h:Dr u 0 u.length):jB u:=fun i=>by
 rcases Nat.lt_or_ge i u.length with h1|h1
 ·have:=h i h1;rwa [Nat.zero_add] at this
 ·rw [qJ h1];omega
theorem uP {u:List Int} {j:Nat}:∀{n:Nat},Dr u j n→0≤W u j n∧W u j n<PB n
 |0,_=>⟨Int.le_refl _,nZ 0⟩
 |n+1,h=>by
  obtain⟨h1,h2⟩:=uP (n:=n) (fun i hi=>h i (by omega))
  obtain⟨h3,h4⟩:=h n (by omega)
  have hp:=nZ n
  rw [dS]
  have e1:0≤u.getD (j+n) 0*PB n:=Int.mul_nonneg h3 (by omega)
  have e2:u.getD (j+n) 0*PB n≤999999999*PB n:=Int.mul_le_mul_of_nonneg_right (by omega) (by omega)
  simp only [PB]
  omega
theorem aCz (d:Int) (t:List Int):W (d::t) 0 (t.length+1)=d+1000000000*W t 0 t.length:=by
 rw [Nat.add_comm,rO]
 have e1:W (d::t) 0 1=d:=by simp [W,PB]
 have e2:W (d::t) (0+1) t.length=W t 0 t.length:=xU fun i _=>by
  rw [show 0+1+i=i+1 by omega];simp
 have e3:PB 1=1000000000:=by decide
 rw [e1,e2,e3]
abbrev vD (u:List Int):Int:=W u 0 u.length
theorem jB.nonneg {u:List Int} (h:jB u):0≤vD u:=(uP (h.dr 0 _)).1
theorem jB.lt {u:List Int} (h:jB u):vD u<PB u.length:=(uP (h.dr 0 _)).2
theorem jB.tail {d:Int} {t:List Int} (h:jB (d::t)):jB t:=fun i=>by simpa using h (i+1)
theorem jB.head {d:Int} {t:List Int} (h:jB (d::t)):0≤d∧d<1000000000:=by simpa using h 0
theorem jB.nil:jB []:=fun i=>by simp
theorem jB.cons {d:Int} {t:List Int} (h:jB t) (h0:0≤d) (h1:d<1000000000):jB (d::t):=fun i=>by
 cases i with
 |zero=>simpa using⟨h0,h1⟩
 |succ i=>simpa using h i
theorem rA {n:Nat} (h:n≠0):cJ n=((n%1000000000:Nat):Int)::cJ (n/1000000000):=by
 rw [cJ];simp [h]
theorem aDm (n:Nat):jB (cJ n)∧vD (cJ n)=n:=by
 induction n using Nat.strongRecOn with
 |_ n ih=>
  by_cases h:n=0
  ·subst h;rw [s9];exact⟨jB.nil,rfl⟩
  ·rw [rA h]
   obtain⟨h1,h2⟩:=ih (n/1000000000) (by omega)
   refine⟨h1.cons (by omega) (by omega),?_⟩
   show W _ 0 (_+1)=_
   rw [aCz]
   unfold vD at h2
   rw [h2]
   omega
theorem cG (n:Nat):jB (cJ n):=(aDm n).1
theorem dN (n:Nat):vD (cJ n)=n:=(aDm n).2
def Top (u:List Int):Prop:=u=[]∨u.getD (u.length-1) 0≠0
theorem Top.tail {d:Int} {t:List Int} (h:Top (d::t)):Top t:=by
 rcases h with h|h
 ·cases h
 ·cases t with
  |nil=>exact .inl rfl
  |cons e t=>exact .inr (by simpa using h)
theorem Top.pos {u:List Int} (h:Top u) (hd:jB u) (hn:u≠[]):PB (u.length-1)≤vD u:=by
 rcases h with h|h
 ·exact absurd h hn
 ·have hl:0<u.length:=List.length_pos_iff.2 hn
  obtain⟨m,hm⟩:∃m,u.length=m+1:=⟨u.length-1,by omega⟩
  unfold vD
  rw [hm] at h ⊢
  simp only [Nat.add_sub_cancel] at h ⊢
  rw [dS,Nat.zero_add]
  have h1:=(uP (hd.dr 0 m)).1
  have h2:=(hd m).1
  have h3:=nZ m
  have:1*PB m≤u.getD m 0*PB m:=Int.mul_le_mul_of_nonneg_right (by omega) (by omega)
  omega
theorem aFC {u:List Int} (h:jB u) (ht:Top u):cJ (vD u).toNat=u:=by
 induction u with
 |nil=>exact s9
 |cons d t ih=>
  have h1:=ht.pos h (by simp)
  have hp:=nZ ((d::t).length-1)
  have hv:vD (d::t)=d+1000000000*vD t:=aCz d t
  have hh:=h.head
  have hn:=h.tail.nonneg
  have ih':=ih h.tail ht.tail
  rw [rA (by omega)]
  have e1:(vD (d::t)).toNat%1000000000=d.toNat:=by omega
  have e2:(vD (d::t)).toNat/1000000000=(vD t).toNat:=by omega
  rw [e1,e2,ih']
  congr 1
  omega
theorem k6 (n:Nat):Top (cJ n):=by
 induction n using Nat.strongRecOn with
 |_ n ih=>
  by_cases h:n=0
  ·subst h;rw [s9];exact .inl rfl
  ·rw [rA h]
   by_cases h2:n/1000000000=0
   ·rw [h2,s9];exact .inr (by simp;omega)
   ·rcases ih (n/1000000000) (by omega) with h3|h3
    ·rw [rA h2] at h3;cases h3
    ·refine .inr ?_
     rw [rA h2] at h3 ⊢
     simpa using h3
theorem aAx {n:Nat}:cJ n=[]↔n=0:=by
 constructor
 ·intro h
  have:=dN n
  rw [h] at this
  have e:vD ([]:List Int)=0:=rfl
  omega
 ·rintro rfl;exact s9
def dl (n:Nat):Nat:=(cJ n).length
theorem rD:dl 0=0:=by unfold dl;rw [s9];rfl
theorem rH {n:Nat}:dl n=0↔n=0:=by unfold dl;rw [List.length_eq_zero_iff];exact aAx
theorem aAq (n:Nat):(n:Int)<PB (dl n):=by
 have:=(cG n).lt
 rwa [dN] at this
theorem wR {n k:Nat} (h:(n:Int)<PB k):dl n≤k:=by
 by_cases h0:n=0
 ·subst h0;rw [rD];omega
 ·have:=(k6 n).pos (cG n) (by rw [Ne,aAx];exact h0)
  rw [dN] at this
  have h2:dl n≠0:=by rw [Ne,rH];exact h0
  have:dl n-1<k:=aGN (by unfold dl;omega)
  omega
theorem nH {m n:Nat} (h:m≤n):dl m≤dl n:=wR (by have:=aAq n;omega)
theorem zZ (m n:Nat):dl (m*n)≤dl m+dl n:=by
 refine wR ?_
 rw [vP]
 have h1:=aAq m
 have h2:=aAq n
 have:(m:Int)*n≤m*PB (dl n):=Int.mul_le_mul_of_nonneg_left (by omega) (by omega)
 have h3:(m:Int)*PB (dl n)<PB (dl m)*PB (dl n):=Int.mul_lt_mul_of_pos_right h1 (nZ _)
 simp only [Int.natCast_mul]
 omega
theorem aGs {m n k:Nat} (h1:dl m≤k) (h2:dl n≤k):dl (m+n)≤k+1:=by
 refine wR ?_
 have a:=aAq m
 have b:=aAq n
 have c:=yB h1
 have d:=yB h2
 have:=nZ k
 simp only [PB,Int.natCast_add]
 omega
theorem aEP (n:Nat):29*dl n≤n.log2+29:=by
 by_cases h0:n=0
 ·subst h0;rw [rD];omega
 ·have h:=(k6 n).pos (cG n) (by rw [Ne,aAx];exact h0)
  rw [dN] at h
  have h2:=aE8 ((cJ n).length-1)
  have h3:n<2^(n.log2+1):=(Nat.log2_lt h0).1 (by omega)
  have h4:(2:Int)^(29*(dl n-1))<2^(n.log2+1):=by
   have:((2^(n.log2+1):Nat):Int)=2^(n.log2+1):=by simp
   unfold dl
   omega
  have h5:29*(dl n-1)<n.log2+1:=by
   rcases Nat.lt_or_ge (29*(dl n-1)) (n.log2+1) with h|h
   ·exact h
   ·have:(2:Int)^(n.log2+1)≤2^(29*(dl n-1)):=by
     have:=Nat.pow_le_pow_right (n:=2) (by decide) h
     have h6:((2^(n.log2+1):Nat):Int)≤((2^(29*(dl n-1)):Nat):Int):=by omega
     simpa using h6
    omega
  omega
end Go.Proofs.YtcjdedkdoagifaaGreat
