/- Texts of the proof, part 6: MR MT LG LV MS MN MP MU YC YD LD LS XL XF XA XU XV XW XX XY YE YF YG YH YI YJ YK YL YM XZ YN YO YP YQ. -/
import Derived.Test.YtcjdedkdoagifaaGreatZ5
set_option linter.unusedVariables false
namespace Go.Proofs.YtcjdedkdoagifaaGreat
theorem aG2 (f g:Nat→Rat) (a:Rat):∀n,sm (fun c=>f c-a*g c) n=sm f n-a*sm g n
 |0=>by simp only [sm];grind
 |n+1=>by
  have ih:=aG2 f g a n
  simp only [sm]
  rw [ih];grind
theorem aIN (f:Nat→Rat) (a:Rat):∀n,sm (fun c=>f c*a) n=sm f n*a
 |0=>by simp only [sm];grind
 |n+1=>by
  have ih:=aIN f a n
  simp only [sm]
  rw [ih];grind
theorem lJ {f g:Nat→Rat}:∀{n:Nat},(∀i,i<n→f i=g i)→sm f n=sm g n
 |0,_=>rfl
 |n+1,h=>by
  simp only [sm]
  rw [lJ fun i hi=>h i (by omega),h n (by omega)]
theorem aHr {f:Nat→Rat} {n:Nat} (h:∀i,i<n→f i=0):sm f n=0:=by
 rw [lJ (g:=fun _=>0) h]
 induction n with
 |zero=>rfl
 |succ n ih=>simp only [sm];rw [ih fun i hi=>h i (by omega)];grind
theorem aMt {f:Nat→Rat} {n p:Nat} (hp:p<n) (h:∀i,i<n→i≠p→f i=0):sm f n=f p:=by
 induction n with
 |zero=>omega
 |succ n ih=>
  simp only [sm]
  by_cases he:p=n
  ·rw [aHr fun i hi=>h i (by omega) (by omega),he];grind
  ·rw [ih (by omega) fun i hi hne=>h i (by omega) hne,h n (by omega) (by omega)];grind
theorem aJe (f g:Nat→Rat):∀n,sm (fun c=>f c+g c) n=sm f n+sm g n
 |0=>by simp only [sm];grind
 |n+1=>by
  have ih:=aJe f g n
  simp only [sm]
  rw [ih];grind
structure RJ (h k:Nat) (s:RS):Prop where
 ph:s.ps.length≤h
 pk:∀i,i<s.ps.length→pat s.ps i<k
 z:∀i c,s.ps.length≤i→i<h→c<k→s.g i c=0
 one:∀i i',i<s.ps.length→i'<h→s.g i' (pat s.ps i)=if i'=i then 1 else 0
 lead:∀i c,i<s.ps.length→c<pat s.ps i→s.g i c=0
 inc:∀i j,i<j→j<s.ps.length→pat s.ps i<pat s.ps j
 gap:∀c,c<k→c∉s.ps→∀i,i<s.ps.length→c<pat s.ps i→s.g i c=0
theorem aBI {ps:List Nat} {k i:Nat} (h:i<ps.length):pat (ps++[k]) i=pat ps i:=by
 unfold pat
 rw [List.getD_eq_getElem?_getD,List.getD_eq_getElem?_getD,List.getElem?_append_left h]
theorem aEm {ps:List Nat} {k:Nat}:pat (ps++[k]) ps.length=k:=by
 unfold pat
 rw [List.getD_eq_getElem?_getD,List.getElem?_append_right (Nat.le_refl _),Nat.sub_self];rfl
theorem aMp {h k:Nat} {s:RS} (hs:RJ h k s):RJ h (k+1) (aG1 h k s):=by
 have hp:=aJp (g:=s.g) (k:=k) (h-s.ps.length) s.ps.length
 have hph:=hs.ph
 unfold aG1
 split
 ·rename_i hat
  refine⟨hs.ph,fun i hi=>Nat.lt_succ_of_lt (hs.pk i hi),fun i c hi hh hc=>?_,hs.one,hs.lead,hs.inc,fun c _ _ i hi hlt=>hs.lead i c hi hlt⟩
  by_cases he:c=k
  ·subst he;exact aOS (h-s.ps.length) s.ps.length i hi (by omega)
  ·exact hs.z i c hi hh (by omega)
 ·rename_i hat
  have hlt:piv s.g k (h-s.ps.length) s.ps.length<h:=by omega
  have hne:=aNe (g:=s.g) (k:=k) (h-s.ps.length) s.ps.length (by omega)
  generalize ha:piv s.g k (h-s.ps.length) s.ps.length=at0 at *
  have hz:∀c,c<k→s.g at0 c=0:=fun c hc=>hs.z at0 c hp.1 hlt hc
  have hpr:∀c,c<k→pr s.g at0 k c=0:=fun c hc=>by unfold pr;rw [hz c hc,Rat.div_def,Rat.zero_mul]
  have hprk:pr s.g at0 k k=1:=by unfold pr;rw [Rat.div_def,Rat.mul_inv_cancel _ hne]
  have hswz:∀i c,s.ps.length<i→i<h→c<k→swp s.g s.ps.length at0 i c=0:=fun i c hi hih hc=>by
   unfold swp
   rw [if_neg (by omega)]
   split
   ·exact hs.z _ c (Nat.le_refl _) (by omega) hc
   ·exact hs.z _ c (by omega) hih hc
  have hsw:∀i c,i<s.ps.length→swp s.g s.ps.length at0 i c=s.g i c:=fun i c hi=>by
   unfold swp
   rw [if_neg (by omega),if_neg (by omega)]
  have hlead:∀i c,i<s.ps.length+1→c<pat (s.ps++[k]) i→stp s.g s.ps.length at0 k i c=0:=fun i c hi hc=>by
   by_cases he:i=s.ps.length
   ·subst he
    rw [aEm] at hc
    unfold stp
    rw [if_pos rfl];exact hpr c hc
   ·have hi':i<s.ps.length:=by omega
    rw [aBI hi'] at hc
    unfold stp
    rw [if_neg he,hsw i c hi',hsw i k hi',hs.lead i c hi' hc,hpr c (by have:=hs.pk i hi';omega)]
    grind
  refine⟨by simp only [List.length_append,List.length_singleton];omega,fun i hi=>?_,fun i c hi hh hc=>?_,fun i i' hi hi'=>?_,fun i c hi hc=>hlead i c (by simpa using hi) hc,fun i j hij hj=>?_,fun c _ _ i hi hlt=>hlead i c (by simpa using hi) hlt⟩
  ·simp only [List.length_append,List.length_singleton] at hi
   by_cases he:i=s.ps.length
   ·subst he;simp only [aEm];omega
   ·simp only [aBI (show i<s.ps.length by omega)]
    have:=hs.pk i (by omega);omega
  ·simp only [List.length_append,List.length_singleton] at hi
   show stp s.g s.ps.length at0 k i c=0
   unfold stp
   rw [if_neg (by omega)]
   by_cases he:c=k
   ·subst he
    rw [hprk,Rat.mul_one,Rat.sub_self]
   ·rw [hswz i c (by omega) hh (by omega),hpr c (by omega)]
    grind
  ·simp only [List.length_append,List.length_singleton] at hi
   show stp s.g s.ps.length at0 k i' (pat (s.ps++[k]) i)=_
   unfold stp
   by_cases he:i=s.ps.length
   ·subst he
    rw [aEm]
    by_cases e2:i'=s.ps.length
    ·rw [if_pos e2,if_pos e2,hprk]
    ·rw [if_neg e2,if_neg e2,hprk,Rat.mul_one,Rat.sub_self]
   ·have hi2:i<s.ps.length:=by omega
    rw [aBI hi2,hpr _ (hs.pk i hi2)]
    by_cases e2:i'=s.ps.length
    ·rw [if_pos e2,if_neg (by omega)]
    ·rw [if_neg e2]
     by_cases e3:i'<s.ps.length
     ·rw [hsw i' _ e3,hs.one i i' hi2 (by omega)]
      grind
     ·rw [hswz i' _ (by omega) hi' (hs.pk i hi2),if_neg (by omega)]
      grind
  ·simp only [List.length_append,List.length_singleton] at hj
   by_cases he:j=s.ps.length
   ·subst he
    simp only [aEm,aBI (show i<s.ps.length by omega)]
    exact hs.pk i (by omega)
   ·simp only [aBI (show i<s.ps.length by omega),aBI (show j<s.ps.length by omega)]
    exact hs.inc i j hij (by omega)
theorem aJH {g:Nat→Nat→Rat} {h:Nat}:∀k,RJ h k (red g h k)
 |0=>⟨Nat.zero_le _,fun i hi=>absurd hi (by simp [red]),fun i c _ _ hc=>absurd hc (by omega),fun i i' hi _=>absurd hi (by simp [red]),fun i c hi _=>absurd hi (by simp [red]),fun i j _ hj=>absurd hj (by simp [red]),fun c hc=>absurd hc (by omega)⟩
 |k+1=>aMp (aJH k)
end Go.Proofs.YtcjdedkdoagifaaGreat
set_option linter.unusedVariables false
namespace Go.Proofs.YtcjdedkdoagifaaGreat
theorem aKs (F:Nat→Nat→Rat) (m:Nat):∀n,sm (fun i=>sm (F i) m) n=sm (fun j=>sm (fun i=>F i j) n) m
 |0=>by
  simp only [sm]
  exact(aHr fun i _=>rfl).symm
 |n+1=>by
  simp only [sm]
  rw [aKs F m n,aJe]
theorem aC2 (f:Nat→Rat) (a:Rat) (n:Nat):sm (fun c=>a*f c) n=a*sm f n:=by
 rw [Rat.mul_comm,←aIN]
 exact lJ fun i _=>Rat.mul_comm _ _
theorem aHd (f:Nat→Rat) (n:Nat):sm (fun c=>-(f c)) n=-(sm f n):=by
 have:=aC2 f (-1) n
 rw [lJ (g:=fun c=>-1*f c) fun i _=>by grind,this];grind
def skp (k c:Nat):Nat:=if c<k then c else c+1
theorem aMF (F:Nat→Rat) {k:Nat}:∀{n:Nat},k≤n→sm (fun l=>F (skp k l)) n=sm (fun m=>if m=k then 0 else F m) (n+1)
 |0,h=>by
  have:k=0:=by omega
  subst this
  simp only [sm];grind
 |n+1,h=>by
  by_cases hk:k≤n
  ·have ih:=aMF F hk
   rw [sm,ih,sm,sm,sm]
   have e1:skp k n=n+1:=by unfold skp;rw [if_neg (by omega)]
   rw [e1,if_neg (show¬n+1=k by omega)]
  ·have:k=n+1:=by omega
   subst this
   rw [sm.eq_2 _ (n+1),if_pos rfl]
   rw [lJ (g:=F) fun i hi=>by unfold skp;rw [if_pos hi],lJ (g:=F) fun i hi=>if_neg (by omega)]
   grind
def sgn (k:Nat):Rat:=if k%2=0 then 1 else -1
def mnr (g:Nat→Nat→Rat) (k i c:Nat):Rat:=g (i+1) (skp k c)
def dt:Nat→(Nat→Nat→Rat)→Rat
 |0,_=>1
 |n+1,g=>sm (fun k=>sgn k*(g 0 k*dt n (mnr g k))) (n+1)
theorem aL6 {k c n:Nat} (hc:c<n):skp k c<n+1:=by unfold skp;split<;>omega
theorem vO:∀{n:Nat} {g g':Nat→Nat→Rat},(∀i c,i<n→c<n→g i c=g' i c)→dt n g=dt n g'
 |0,_,_,_=>rfl
 |n+1,g,g',h=>by
  simp only [dt]
  refine lJ fun k hk=>?_
  rw [h 0 k (by omega) hk,vO (g:=mnr g k) (g':=mnr g' k) fun i c hi hc=>h (i+1) _ (by omega) (aL6 hc)]
theorem aNr {g:Nat→Nat→Rat} {f:Nat→Rat} {k:Nat}:mnr (lG g 0 f) k=mnr g k:=by
 funext i c
 unfold mnr
 rw [dW (by omega)]
theorem aOF {g:Nat→Nat→Rat} {f:Nat→Rat} {k j:Nat}:mnr (lG g (j+1) f) k=lG (mnr g k) j (fun c=>f (skp k c)):=by
 funext i c
 unfold mnr
 by_cases h:i=j
 ·subst h;rw [bS,bS]
 ·rw [dW (by omega),dW h]
theorem aJn {u v:Nat→Rat} {a:Rat}:∀{n:Nat} {g:Nat→Nat→Rat} {i:Nat},i<n→dt n (lG g i (fun c=>u c-a*v c))=dt n (lG g i u)-a*dt n (lG g i v)
 |0,_,_,h=>by omega
 |n+1,g,0,_=>by
  simp only [dt,aNr,bS]
  rw [←aG2]
  exact lJ fun k _=>by grind
 |n+1,g,j+1,h=>by
  simp only [dt,aOF,dW (show 0≠j+1 by omega)]
  rw [←aG2]
  refine lJ fun k _=>?_
  rw [aJn (u:=fun c=>u (skp k c)) (v:=fun c=>v (skp k c)) (a:=a) (show j<n by omega)]
  grind
theorem aCN (k:Nat):sgn (k+1)=-(sgn k):=by
 unfold sgn
 by_cases h:k%2=0
 ·rw [if_pos h,if_neg (by omega)]
 ·rw [if_neg h,if_pos (by omega)];grind
theorem aGJ (k:Nat):∀l,sgn (k+l)=sgn k*sgn l
 |0=>by
  have:sgn 0=1:=rfl
  rw [this,Nat.add_zero];grind
 |l+1=>by
  rw [←Nat.add_assoc,aCN,aGJ k l,aCN];grind
def aLn (k m c:Nat):Nat:=if c<min k m then c else if c+1<max k m then c+1 else c+2
theorem aOf (k l c:Nat):skp k (skp l c)=aLn k (skp k l) c:=by
 unfold aLn skp
 by_cases h1:l<k
 ·rw [if_pos h1]
  repeat' split
  all_goals omega
 ·rw [if_neg h1]
  repeat' split
  all_goals omega
theorem aK4 (k m c:Nat):aLn k m c=aLn m k c:=by
 unfold aLn;rw [Nat.min_comm,Nat.max_comm]
def eps (k m:Nat):Rat:=if k<m then sgn (k+m+1) else sgn (k+m)
theorem aLZ {k m:Nat} (h:m≠k):eps k m=-(eps m k):=by
 unfold eps
 by_cases h1:k<m
 ·rw [if_pos h1,if_neg (by omega),aCN,Nat.add_comm]
 ·rw [if_neg h1,if_pos (by omega),aCN,Nat.add_comm];grind
theorem aNU (k l:Nat):sgn k*sgn l=eps k (skp k l):=by
 unfold eps skp
 by_cases h:l<k
 ·rw [if_pos h,if_neg (by omega),aGJ]
 ·rw [if_neg h,if_pos (by omega)]
  rw [show k+(l+1)+1=k+l+2 by omega,show sgn (k+l+2)=sgn (k+l) by unfold sgn;rw [show(k+l+2)%2=(k+l)%2 by omega],aGJ]
def aJh (g:Nat→Nat→Rat) (k m i c:Nat):Rat:=g (i+2) (aLn k m c)
theorem aNA {n:Nat} {g:Nat→Nat→Rat}:dt (n+2) g=sm (fun k=>sm (fun m=>if m=k then 0 else eps k m*(g 0 k*(g 1 m*dt n (aJh g k m)))) (n+2)) (n+2):=by
 rw [dt]
 refine lJ fun k hk=>?_
 rw [←aMF (fun m=>eps k m*(g 0 k*(g 1 m*dt n (aJh g k m)))) (show k≤n+1 by omega),dt,←aC2,←aC2]
 refine lJ fun l _=>?_
 rw [←aNU,show dt n (mnr (mnr g k) l)=dt n (aJh g k (skp k l)) from congrArg (dt n) (by
  funext i c
  unfold mnr aJh
  rw [aOf])]
 unfold mnr
 grind
theorem aLe {n:Nat} {g:Nat→Nat→Rat}:dt (n+2) (swp g 0 1)=-(dt (n+2) g):=by
 rw [aNA,aNA,aKs,←aHd]
 refine lJ fun k _=>?_
 rw [←aHd]
 refine lJ fun m _=>?_
 by_cases h:k=m
 ·rw [if_pos h,if_pos h.symm];grind
 ·rw [if_neg h,if_neg (fun e=>h e.symm),aLZ (by exact fun e=>h e)]
  have e:aJh (swp g 0 1) m k=aJh g k m:=by
   funext i c
   unfold aJh swp
   rw [if_neg (by omega),if_neg (by omega),aK4]
  rw [e]
  have e1:swp g 0 1 0=g 1:=by unfold swp;rw [if_pos rfl]
  have e2:swp g 0 1 1=g 0:=by unfold swp;rw [if_neg (by omega),if_pos rfl]
  rw [e1,e2]
  grind
theorem aOn {g:Nat→Nat→Rat} {a b k:Nat}:mnr (swp g (a+1) (b+1)) k=swp (mnr g k) a b:=by
 funext i c
 unfold mnr swp
 congr 1
 by_cases h1:i=a
 ·rw [if_pos (by omega),if_pos h1]
 ·rw [if_neg (by omega),if_neg h1]
  by_cases h2:i=b
  ·rw [if_pos (by omega),if_pos h2]
  ·rw [if_neg (by omega),if_neg h2]
theorem aGT:∀{n:Nat} {g:Nat→Nat→Rat} {i:Nat},i+1<n→dt n (swp g i (i+1))=-(dt n g)
 |0,_,_,h=>by omega
 |1,_,_,h=>by omega
 |n+2,g,0,_=>aLe
 |n+2,g,i+1,h=>by
  rw [dt,dt,←aHd]
  refine lJ fun k _=>?_
  rw [aOn,aGT (show i+1<n+1 by omega)]
  have e1:swp g (i+1) (i+1+1) 0=g 0:=by unfold swp;rw [if_neg (by omega),if_neg (by omega)]
  rw [e1];grind
theorem aJo {n:Nat}:∀(t:Nat) {g:Nat→Nat→Rat} {i:Nat},i+t+1<n→dt n (swp g i (i+t+1))=-(dt n g)
 |0,g,i,h=>aGT h
 |t+1,g,i,h=>by
  have e:swp g i (i+(t+1)+1)=swp (swp (swp g (i+t+1) (i+t+1+1)) i (i+t+1)) (i+t+1) (i+t+1+1):=by
   funext j
   unfold swp
   congr 1
   repeat' split
   all_goals omega
  rw [e,aGT (by omega),aJo t (by omega),aGT (by omega)];grind
theorem aLH {g:Nat→Nat→Rat} {a b:Nat}:swp g a b=swp g b a:=by
 funext j
 unfold swp
 congr 1
 repeat' split
 all_goals omega
structure Alt (h:Nat) (D:(Nat→Nat→Rat)→Rat):Prop where
 cong:∀g g':Nat→Nat→Rat,(∀i,i<h→g i=g' i)→D g=D g'
 lin:∀(g:Nat→Nat→Rat) (u v:Nat→Rat) (a:Rat) (i:Nat),i<h→D (lG g i (fun c=>u c-a*v c))=D (lG g i u)-a*D (lG g i v)
 swap:∀(g:Nat→Nat→Rat) (i j:Nat),i<h→j<h→i≠j→D (swp g i j)=-(D g)
theorem aFi (n:Nat):Alt n (dt n):=⟨fun g g' h=>vO fun i c hi _=>by rw [h i hi],fun g u v a i hi=>aJn hi,fun g i j hi hj hne=>by
 by_cases h:i<j
 ·obtain⟨t,rfl⟩:∃t,j=i+t+1:=⟨j-i-1,by omega⟩
  exact aJo t hj
 ·obtain⟨t,rfl⟩:∃t,i=j+t+1:=⟨i-j-1,by omega⟩
  rw [aLH]
  exact aJo t hi⟩
theorem Alt.zero {h:Nat} {D:(Nat→Nat→Rat)→Rat} (a:Alt h D) {g:Nat→Nat→Rat} {i:Nat} (hi:i<h) (hz:g i=fun _=>0):D g=0:=by
 have:=a.lin g (g i) (g i) 1 i hi
 have e:(fun c=>g i c-1*g i c)=g i:=by funext c;rw [hz];grind
 have e2:lG g i (g i)=g:=by
  funext j
  unfold lG
  split
  ·rename_i h;rw [h]
  ·rfl
 rw [e,e2] at this
 grind
theorem aNn {α:Type} {g:Nat→α} {i:Nat}:lG g i (g i)=g:=by
 funext j
 unfold lG
 split
 ·rename_i h;rw [h]
 ·rfl
theorem Alt.scale {h:Nat} {D:(Nat→Nat→Rat)→Rat} (a:Alt h D) {g:Nat→Nat→Rat} {u:Nat→Rat} {b:Rat} {i:Nat} (hi:i<h):D (lG g i (fun c=>b*u c))=b*D (lG g i u):=by
 have h1:=a.lin g (fun _=>0) u (-b) i hi
 have h2:D (lG g i (fun _=>0))=0:=a.zero hi bS
 rw [h2] at h1
 have e:(fun c=>(0:Rat)- -b*u c)=fun c=>b*u c:=by funext c;grind
 rw [e] at h1
 rw [h1];grind
theorem Alt.same {h:Nat} {D:(Nat→Nat→Rat)→Rat} (a:Alt h D) {g:Nat→Nat→Rat} {i j:Nat} (hi:i<h) (hj:j<h) (hne:i≠j) (he:g i=g j):D g=0:=by
 have h1:=a.swap g i j hi hj hne
 have e:swp g i j=g:=by
  funext l
  unfold swp
  split
  ·rename_i h;rw [h,he]
  ·split
   ·rename_i h;rw [h,he]
   ·rfl
 rw [e] at h1
 grind
theorem Alt.add {h:Nat} {D:(Nat→Nat→Rat)→Rat} (a:Alt h D) {g:Nat→Nat→Rat} {b:Rat} {i j:Nat} (hi:i<h) (hj:j<h) (hne:i≠j):D (lG g i (fun c=>g i c-b*g j c))=D g:=by
 rw [a.lin g (g i) (g j) b i hi,aNn,a.same (g:=lG g i (g j)) hi hj hne (by rw [bS,dW (fun e=>hne e.symm)])]
 grind
def elm (g:Nat→Nat→Rat) (n k j i c:Nat):Rat:=if i<j∧i≠n then g i c-g i k*g n c else g i c
theorem Alt.elm0 {h:Nat} {D:(Nat→Nat→Rat)→Rat} (a:Alt h D) {g:Nat→Nat→Rat} {n k:Nat} (hn:n<h):∀j,j≤h→D (elm g n k j)=D g
 |0,_=>a.cong _ _ fun i _=>by
  funext c
  exact if_neg (by omega)
 |j+1,hj=>by
  refine Eq.trans ?_ (Alt.elm0 (k:=k) a hn j (by omega))
  by_cases he:j=n
  ·refine a.cong _ _ fun i _=>?_
   funext c
   unfold elm
   by_cases h1:i<j
   ·rw [if_pos ⟨by omega,by omega⟩,if_pos ⟨h1,by omega⟩]
   ·rw [if_neg (by omega),if_neg (by omega)]
  ·refine Eq.trans ?_ (a.add (g:=elm g n k j) (b:=g j k) (show j<h by omega) hn he)
   refine a.cong _ _ fun i _=>?_
   funext c
   by_cases h1:i=j
   ·subst h1
    rw [bS]
    unfold elm
    rw [if_pos ⟨by omega,he⟩,if_neg (by omega),if_neg (by omega)]
   ·rw [dW h1]
    unfold elm
    by_cases h2:i<j∧i≠n
    ·rw [if_pos ⟨by omega,h2.2⟩,if_pos h2]
    ·rw [if_neg (by omega),if_neg h2]
theorem Alt.stp0 {h:Nat} {D:(Nat→Nat→Rat)→Rat} (a:Alt h D) {g:Nat→Nat→Rat} {n at0 k:Nat} (hn:n<h) (ha:at0<h) (hne:g at0 k≠0):D g=(if at0=n then 1 else -1)*g at0 k*D (stp g n at0 k):=by
 have e1:D (swp g n at0)=(if at0=n then 1 else -1)*D g:=by
  by_cases h1:at0=n
  ·rw [if_pos h1]
   have:swp g n at0=g:=by
    funext i
    unfold swp
    split
    ·rw [h1];congr 1;omega
    ·split
     ·congr 1;omega
     ·rfl
   rw [this];grind
  ·rw [if_neg h1,a.swap g n at0 hn ha (fun e=>h1 e.symm)];grind
 have e2:D (swp g n at0)=g at0 k*D (lG (swp g n at0) n (pr g at0 k)):=by
  rw [←a.scale hn]
  congr 1
  funext i
  by_cases h1:i=n
  ·subst h1
   rw [bS]
   funext c
   unfold swp pr
   rw [if_pos rfl,Rat.div_def,Rat.mul_comm (g at0 c),←Rat.mul_assoc,Rat.mul_inv_cancel _ hne,Rat.one_mul]
  ·rw [dW h1]
 have e3:D (stp g n at0 k)=D (lG (swp g n at0) n (pr g at0 k)):=by
  rw [←a.elm0 (g:=lG (swp g n at0) n (pr g at0 k)) (n:=n) (k:=k) hn h (Nat.le_refl _)]
  refine a.cong _ _ fun i hi=>?_
  funext c
  unfold stp elm
  by_cases h1:i=n
  ·subst h1
   rw [if_pos rfl,if_neg (by omega),bS]
  ·rw [if_neg h1,if_pos ⟨hi,h1⟩,dW h1,bS]
 rw [e3]
 have e4:D g=(if at0=n then 1 else -1)*D (swp g n at0):=by
  rw [e1]
  split<;>grind
 rw [e4,e2];grind
theorem Alt.red0 {h:Nat} {D:(Nat→Nat→Rat)→Rat} (a:Alt h D) {g:Nat→Nat→Rat}:∀k,D g=(red g h k).d*D (red g h k).g
 |0=>by simp only [red];grind
 |k+1=>by
  refine(Alt.red0 a k).trans ?_
  have hl:=(aJH (g:=g) (h:=h) k).ph
  simp only [red]
  generalize red g h k=s at *
  unfold aG1
  split
  ·rfl
  ·rename_i hat
   have hp:=aJp (g:=s.g) (k:=k) (h-s.ps.length) s.ps.length
   have hlt:piv s.g k (h-s.ps.length) s.ps.length<h:=by omega
   have hne:=aNe (g:=s.g) (k:=k) (h-s.ps.length) s.ps.length (by omega)
   rw [a.stp0 (g:=s.g) (n:=s.ps.length) (at0:=piv s.g k (h-s.ps.length) s.ps.length) (k:=k) (by omega) hlt hne]
   simp only
   split<;>grind
end Go.Proofs.YtcjdedkdoagifaaGreat
set_option linter.unusedVariables false
namespace Go.Proofs.YtcjdedkdoagifaaGreat
end Go.Proofs.YtcjdedkdoagifaaGreat
set_option linter.unusedVariables false
namespace Go.Proofs.YtcjdedkdoagifaaGreat
end Go.Proofs.YtcjdedkdoagifaaGreat
set_option linter.unusedVariables false
namespace Go.Proofs.YtcjdedkdoagifaaGreat
/-- A matrix times a vector. -/
def aIf (g:Nat→Nat→Rat) (v:Nat→Rat) (w i:Nat):Rat:=sm (fun c=>g i c*v c) w
end Go.Proofs.YtcjdedkdoagifaaGreat
set_option linter.unusedVariables false
namespace Go.Proofs.YtcjdedkdoagifaaGreat
/-- A vector and the right side. -/
def ext (x:Nat→Rat) (w c:Nat):Rat:=if c<w then x c else -1
end Go.Proofs.YtcjdedkdoagifaaGreat
set_option linter.unusedVariables false
namespace Go.Proofs.YtcjdedkdoagifaaGreat
/-- A turned matrix. -/
def tr (g:Nat→Nat→Rat) (i k:Nat):Rat:=g k i
theorem aGg {g:Nat→Nat→Rat} {h w c:Nat} (hh:h≤100) (hc:c<w) (K:Nat):∀(t i k:Nat),i+t=h→t<k→iX K (mx g h w) (c:Int) k (mp (tr g c) i) (i:Int)=some (mp (tr g c) h)
 |0,i,k,hi,hk=>by
  obtain⟨k',rfl,_⟩:=bG hk
  have:i=h:=by omega
  subst this
  simp only [iX,wD,dF (show¬(i:Int)<(i:Int) by omega),bV]
 |t+1,i,k,hi,hk=>by
  obtain⟨k',rfl,_⟩:=bG hk
  have hl:i<h:=by omega
  have e4:oT (mp (tr g c) i) [g i c]=some (mp (tr g c) (i+1)):=apM (g:=tr g c) (by omega)
  simp only [iX,wD,dT (show(i:Int)<(h:Int) by omega),cC,aCk (g:=g) (w:=w) hl,oB,eG (f:=g i) hc,e4,oF (i:=i) (by omega)]
  exact aGg hh hc K t (i+1) k' (by omega) (by omega)
theorem aGy {g:Nat→Nat→Rat} {h w:Nat} (hc:Cok h w) (hh:h≤100) (hw:w≤100) {K:Nat} (hK:h<K):∀(t i k:Nat),i+t=w→t<k→gI K (mx g h w) k (mx (tr g) i h) (i:Int)=some (mx (tr g) w h)
 |0,i,k,hi,hk=>by
  obtain⟨k',rfl,_⟩:=bG hk
  have:i=w:=by omega
  subst this
  simp only [gI,aH5 hc,oB,dF (show¬(i:Int)<(i:Int) by omega),bV]
 |t+1,i,k,hi,hk=>by
  obtain⟨k',rfl,_⟩:=bG hk
  have h50:=aGg (g:=g) hh (show i<w by omega) K h 0 K (by omega) hK
  simp only [Int.natCast_zero,aAO] at h50
  have e4:oT (mx (tr g) i h) [mp (tr g i) h]=some (mx (tr g) (i+1) h):=apM (g:=fun i=>mp (tr g i) h) (by omega)
  simp only [gI,aH5 hc,dT (show(i:Int)<(w:Int) by omega),cC,oB,h50,qJ,e4,oF (i:=i) (by omega)]
  exact aGy hc hh hw hK t (i+1) k' (by omega) (by omega)
theorem aLU {g:Nat→Nat→Rat} {h w:Nat} (hc:Cok h w) (hh:h≤100) (hw:w≤100) {K:Nat} (hK:w+h<K):qV K (mx g h w)=some (mx (tr g) w h):=by
 have:=aGy (g:=g) hc hh hw (K:=K) (by omega) w 0 K (by omega) (by omega)
 have e:mx (tr g) 0 h=[]:=rfl
 rw [e] at this
 simp only [Int.natCast_zero] at this
 simp only [qV,this,oB,qI]
def aAa (g q:Nat→Nat→Rat) (w i j:Nat):Rat:=aIf (tr q) (g i) w j
end Go.Proofs.YtcjdedkdoagifaaGreat
set_option linter.unusedVariables false
namespace Go.Proofs.YtcjdedkdoagifaaGreat
theorem aSd:sgn 0=1:=rfl
def zK (i c:Nat):Rat:=if i=c then 1 else 0
theorem aEj:∀n,dt n zK=1
 |0=>rfl
 |n+1=>by
  rw [dt,aMt (p:=0) (by omega) fun k _ hk=>by unfold zK;rw [if_neg (fun e=>hk e.symm)];grind]
  have e:dt n (mnr zK 0)=dt n zK:=vO fun i c _ _=>by
   unfold mnr zK skp
   rw [if_neg (Nat.not_lt_zero c)]
   by_cases h:i=c
   ·rw [if_pos h,if_pos (by omega)]
   ·rw [if_neg h,if_neg (by omega)]
  rw [e,aEj n,aSd]
  unfold zK
  rw [if_pos rfl];grind
theorem aNH {h k:Nat} {s:RS} (hs:RJ h k s):∀i,i<s.ps.length→i≤pat s.ps i
 |0,_=>Nat.zero_le _
 |i+1,hi=>by
  have:=aNH hs i (by omega)
  have:=hs.inc i (i+1) (by omega) hi
  omega
theorem aHU {h k:Nat} {s:RS} (hs:RJ h k s):∀t i,i+t+1=s.ps.length→pat s.ps i+t<k
 |0,i,hi=>hs.pk i (by omega)
 |t+1,i,hi=>by
  have:=aHU hs t (i+1) (by omega)
  have:=hs.inc i (i+1) (by omega) (by omega)
  omega
theorem aMr {h k:Nat} {s:RS} (hs:RJ h k s) (hf:s.ps.length=k) {i:Nat} (hi:i<k):pat s.ps i=i:=by
 have h1:=aNH hs i (by omega)
 have h2:=aHU hs (k-1-i) i (by omega)
 omega
theorem aDN {h k:Nat} {s:RS} (hs:RJ h k s) (hf:s.ps.length=k) {i c:Nat} (hi:i<h) (hc:c<k):s.g i c=if i=c then 1 else 0:=by
 have:=hs.one c i (by omega) hi
 rw [aMr hs hf hc] at this
 exact this
def aQL (g:Nat→Nat→Rat) (n:Nat):Rat:=if(red g n n).ps.length=n then(red g n n).d else 0
theorem aQH {g:Nat→Nat→Rat} {n:Nat}:dt n g=aQL g n:=by
 have hJ:=aJH (g:=g) (h:=n) n
 unfold aQL
 rw [(aFi n).red0 (g:=g) n]
 split
 ·rename_i hf
  rw [vO (g':=zK) fun i c hi hc=>aDN hJ hf hi hc,aEj];grind
 ·rename_i hf
  have hlt:(red g n n).ps.length<n:=by have:=hJ.ph;omega
  rw [vO (g':=fun i c=>if c<n then(red g n n).g i c else 0) fun i c hi hc=>by rw [if_pos hc],(aFi n).zero (i:=n-1) (by omega) ?_]
  ·grind
  ·funext c
   split
   ·rename_i hc
    exact hJ.z (n-1) c (by omega) (by omega) hc
   ·rfl
theorem aNh (q:Nat→Nat→Rat) (n w:Nat):Alt n fun g=>dt n (aAa g q w):=by
 have eu:∀(g:Nat→Nat→Rat) (f:Nat→Rat) (i:Nat),aAa (lG g i f) q w=lG (aAa g q w) i (fun j=>aIf (tr q) f w j):=by
  intro g f i
  funext j c
  unfold aAa
  by_cases h:j=i
  ·subst h;rw [bS,bS]
  ·rw [dW h,dW h]
 refine⟨fun g g' h=>vO fun i c hi _=>?_,fun g u v a i hi=>?_,fun g i j hi hj hne=>?_⟩
 ·unfold aAa;rw [h i hi]
 ·show dt n _=dt n _-a*dt n _
  rw [eu,eu,eu,←aJn hi]
  congr 2
  funext j
  unfold aIf
  rw [←aG2]
  exact lJ fun c _=>by grind
 ·exact(aFi n).swap (aAa g q w) i j hi hj hne
theorem aNw {g q:Nat→Nat→Rat} {n:Nat}:dt n (aAa g q n)=dt n g*dt n q:=by
 have hJ:=aJH (g:=g) (h:=n) n
 have hm:dt n (aAa g q n)=(red g n n).d*dt n (aAa (red g n n).g q n):=(aNh q n n).red0 (g:=g) n
 rw [hm,aQH (g:=g)]
 unfold aQL
 split
 ·rename_i hf
  rw [vO (g:=aAa (red g n n).g q n) (g':=q) fun i c hi hc=>?_]
  unfold aAa aIf tr
  rw [aMt (p:=i) hi fun j hj hne=>by rw [aDN hJ hf hi hj,if_neg (fun e=>hne e.symm)];grind]
  rw [aDN hJ hf hi hi,if_pos rfl];grind
 ·rename_i hf
  have hlt:(red g n n).ps.length<n:=by have:=hJ.ph;omega
  rw [(aFi n).zero (g:=aAa (red g n n).g q n) (i:=n-1) (by omega) (by
   funext c
   unfold aAa aIf
   exact aHr fun j hj=>by rw [hJ.z (n-1) j (by omega) (by omega) hj];grind)]
  grind
end Go.Proofs.YtcjdedkdoagifaaGreat
set_option linter.unusedVariables false
namespace Go.Proofs.YtcjdedkdoagifaaGreat
/-- The unit matrix with one column replaced. -/
def aIm (i:Nat) (x:Nat→Rat) (r c:Nat):Rat:=if c=i then x r else if r=c then 1 else 0
theorem aN2 {n i:Nat} (hi:i<n) (x:Nat→Rat):dt n (aIm i x)=x i:=by
 have a:=aFi n
 have e1:aIm i x=lG (aIm i x) i (fun c=>x i*zK i c):=by
  funext r c
  by_cases h:r=i
  ·subst h
   rw [bS]
   unfold aIm zK
   by_cases h2:c=r
   ·rw [if_pos h2,if_pos h2.symm,Rat.mul_one]
   ·rw [if_neg h2,if_neg (show¬r=c from fun e=>h2 e.symm),Rat.mul_zero]
  ·rw [dW h]
 have e2:dt n (lG (aIm i x) i (zK i))=1:=by
  rw [←a.elm0 (g:=lG (aIm i x) i (zK i)) (n:=i) (k:=i) hi n (Nat.le_refl n),←aEj n]
  refine vO fun r c hr hc=>?_
  unfold elm
  by_cases h:r=i
  ·subst h
   rw [if_neg (fun h2=>h2.2 rfl),bS]
  ·rw [if_pos ⟨hr,h⟩,dW h,bS]
   unfold aIm zK
   rw [if_pos rfl]
   by_cases h2:c=i
   ·rw [if_pos h2,if_pos h2.symm,Rat.mul_one,Rat.sub_self,if_neg (by omega)]
   ·rw [if_neg h2,if_neg (show¬i=c from fun e=>h2 e.symm),Rat.mul_zero,Rat.sub_eq_add_neg,Rat.neg_zero,Rat.add_zero]
 rw [e1,a.scale hi,e2,Rat.mul_one]
def aJz (Z:Nat→Nat→Rat) (b:Nat→Nat) (r j:Nat):Rat:=Z r (b j)
def aFV (Z:Nat→Nat→Rat) (b:Nat→Nat) (i k:Nat) (r j:Nat):Rat:=if j=i then Z r k else Z r (b j)
theorem aQs {n w:Nat} {E Z T:Nat→Nat→Rat} {b:Nat→Nat} (hT:∀i c,i<n→c<w→T i c=aAa E Z n i c) (hb:∀j,j<n→b j<w) (hu:∀i j,i<n→j<n→T i (b j)=if i=j then 1 else 0) {i k:Nat} (hi:i<n) (hk:k<w):dt n (aJz Z b)≠0∧T i k=dt n (aFV Z b i k)/dt n (aJz Z b):=by
 have h1:dt n E*dt n (aJz Z b)=1:=by
  rw [←aNw,←aEj n]
  refine vO fun r c hr hc=>?_
  show aAa E Z n r (b c)=_
  rw [←hT r (b c) hr (hb c hc),hu r c hr hc];rfl
 have h2:dt n E*dt n (aFV Z b i k)=T i k:=by
  rw [←aNw,←aN2 hi (fun r=>T r k)]
  refine vO fun r c hr hc=>?_
  unfold aIm
  by_cases h:c=i
  ·rw [if_pos h]
   show _=T r k
   rw [hT r k hr hk]
   unfold aAa aIf tr aFV
   simp [h]
  ·rw [if_neg h,←hu r c hr hc,hT r (b c) hr (hb c hc)]
   unfold aAa aIf tr aFV
   simp [h]
 have hne:dt n (aJz Z b)≠0:=fun e=>by rw [e,Rat.mul_zero] at h1;exact absurd h1 (by decide)
 refine⟨hne,?_⟩
 rw [←h2,Rat.div_def]
 have:dt n E=(dt n (aJz Z b))⁻¹:=by
  have h3:=congrArg (·*(dt n (aJz Z b))⁻¹) h1
  simp only [Rat.mul_assoc,Rat.mul_inv_cancel _ hne,Rat.mul_one,Rat.one_mul] at h3
  exact h3
 rw [this,Rat.mul_comm]
def isZ (M:Nat) (x:Rat):Prop:=∃q:Int,x=(q:Rat)∧q.natAbs≤M
def fM (M:Nat):Nat→Nat
 |0=>1
 |n+1=>(n+1)*(M*fM M n)
theorem isZ.mono {M N:Nat} {x:Rat} (h:isZ M x) (hn:M≤N):isZ N x:=by
 obtain⟨q,h1,h2⟩:=h
 exact⟨q,h1,by omega⟩
theorem isZ.add {M N:Nat} {x y:Rat} (h:isZ M x) (k:isZ N y):isZ (M+N) (x+y):=by
 obtain⟨q,h1,h2⟩:=h
 obtain⟨p,k1,k2⟩:=k
 exact⟨q+p,by rw [h1,k1,Rat.intCast_add],by omega⟩
theorem isZ.mul {M N:Nat} {x y:Rat} (h:isZ M x) (k:isZ N y):isZ (M*N) (x*y):=by
 obtain⟨q,h1,h2⟩:=h
 obtain⟨p,k1,k2⟩:=k
 exact⟨q*p,by rw [h1,k1,Rat.intCast_mul],by rw [Int.natAbs_mul];exact Nat.mul_le_mul h2 k2⟩
theorem isZ.zero:isZ 0 0:=⟨0,rfl,Nat.le_refl _⟩
theorem aRt (k:Nat):isZ 1 (sgn k):=by
 unfold sgn
 split
 ·exact⟨1,rfl,by decide⟩
 ·exact⟨-1,rfl,by decide⟩
theorem aRk {f:Nat→Rat} {M:Nat}:∀n,(∀i,i<n→isZ M (f i))→isZ (n*M) (sm f n)
 |0,_=>by rw [Nat.zero_mul];exact isZ.zero
 |n+1,h=>by
  have:=(aRk n fun i hi=>h i (by omega)).add (h n (by omega))
  rw [Nat.succ_mul];exact this
theorem aP9 {M:Nat}:∀(n:Nat) (g:Nat→Nat→Rat),(∀i c,i<n→c<n→isZ M (g i c))→isZ (fM M n) (dt n g)
 |0,g,h=>⟨1,rfl,Nat.le_refl _⟩
 |n+1,g,h=>aRk (n+1) fun k hk=>by
  have h1:=aP9 n (mnr g k) fun i c hi hc=>h (i+1) (skp k c) (by omega) (aL6 hc)
  have h2:=(aRt k).mul ((h 0 k (by omega) hk).mul h1)
  rw [Nat.one_mul] at h2
  first|exact h2|(rw [Rat.mul_assoc];exact h2)
theorem aLv {n w M k:Nat} {E Z T:Nat→Nat→Rat} {b:Nat→Nat} (hT:∀i c,i<n→c<w→T i c=aAa E Z n i c) (hb:∀j,j<n→b j<w) (hu:∀i j,i<n→j<n→T i (b j)=if i=j then 1 else 0) (hZ:∀i c,i<n→c<w→isZ M (Z i c)) (hM:fM M n<2^k):Bdx n w k T:=fun i c hi hc=>by
 obtain⟨h1,h2⟩:=aQs hT hb hu hi hc
 obtain⟨p,p1,p2⟩:=aP9 n (aFV Z b i c) fun r j hr hj=>by
  unfold aFV
  split
  ·exact hZ r c hr hc
  ·exact hZ r (b j) hr (hb j hj)
 obtain⟨q,q1,q2⟩:=aP9 n (aJz Z b) fun r j hr hj=>hZ r (b j) hr (hb j hj)
 rw [h2,p1,q1]
 refine Bd.of (fun e=>h1 (by rw [q1,e];rfl)) (Nat.lt_of_le_of_lt p2 hM) (Nat.lt_of_le_of_lt q2 hM)
end Go.Proofs.YtcjdedkdoagifaaGreat
set_option linter.unusedVariables false
namespace Go.Proofs.YtcjdedkdoagifaaGreat
/-- A tableau: its rows are combinations of those of Z, and the columns of the basic variables are those of the unit matrix. -/
structure TI (n w:Nat) (Z T:Nat→Nat→Rat) (b:Nat→Nat):Prop where
 ex:∃E:Nat→Nat→Rat,∀i c,i<n→c<w→T i c=aAa E Z n i c
 lt:∀j,j<n→b j<w
 un:∀i j,i<n→j<n→T i (b j)=if i=j then 1 else 0
def zS (T:Nat→Nat→Rat) (r c i k:Nat):Rat:=if i=r then T r k/T r c else T i k-T i c*(T r k/T r c)
theorem aBO {E Z:Nat→Nat→Rat} {n i k:Nat}:aAa E Z n i k=sm (fun j=>Z j k*E i j) n:=by
 unfold aAa aIf tr
 first|rfl|(refine lJ fun j _=>?_;first|rfl|exact Rat.mul_comm _ _)
theorem TI.pivot {n w:Nat} {Z T:Nat→Nat→Rat} {b:Nat→Nat} (h:TI n w Z T b) {r c:Nat} (hr:r<n) (hc:c<w) (hp:T r c≠0):TI n w Z (zS T r c) (lG b r c):=by
 obtain⟨⟨E,hE⟩,hb,hu⟩:=h
 refine⟨⟨fun i j=>if i=r then E r j/T r c else E i j-T i c*(E r j/T r c),fun i k hi hk=>?_⟩,fun j hj=>?_,fun i j hi hj=>?_⟩
 ·rw [aBO]
  have e1:T r k/T r c=sm (fun j=>Z j k*(E r j/T r c)) n:=by
   rw [hE r k hr hk,aBO,Rat.div_def,Rat.mul_comm,←aC2]
   refine lJ fun j _=>?_
   rw [Rat.div_def,Rat.mul_comm,Rat.mul_assoc]
  unfold zS
  by_cases e:i=r
  ·rw [if_pos e,e1]
   exact lJ fun j _=>by rw [if_pos e]
  ·rw [if_neg e,hE i k hi hk,aBO,e1,←aC2,Rat.sub_eq_add_neg,←aHd,←aJe]
   refine lJ fun j _=>?_
   rw [if_neg e,Rat.sub_eq_add_neg,Rat.mul_add,Rat.mul_neg,←Rat.mul_assoc,←Rat.mul_assoc,Rat.mul_comm (T i c)]
 ·by_cases e:j=r
  ·rw [e,bS];exact hc
  ·rw [dW e];exact hb j hj
 ·unfold zS
  by_cases e:j=r
  ·rw [e,bS,Rat.div_def,Rat.mul_inv_cancel _ hp]
   by_cases e2:i=r
   ·rw [if_pos e2,if_pos e2]
   ·rw [if_neg e2,if_neg e2,Rat.mul_one,Rat.sub_self]
  ·have h0:T r (b j)=0:=by rw [hu r j hr hj,if_neg fun h=>e h.symm]
   rw [dW e,h0,Rat.div_def,Rat.zero_mul]
   by_cases e2:i=r
   ·rw [if_pos e2,if_neg (by omega)]
   ·rw [if_neg e2,Rat.mul_zero,Rat.sub_eq_add_neg,Rat.neg_zero,Rat.add_zero]
    exact hu i j hi hj
theorem TI.start {n w:Nat} {Z:Nat→Nat→Rat} (hw:n≤w) (hz:∀i j,i<n→j<n→Z i j=if i=j then 1 else 0):TI n w Z Z (fun j=>j):=
 ⟨⟨zK,fun i c hi hc=>by
  rw [aBO]
  have:sm (fun j=>Z j c*zK i j) n=sm (fun j=>if j=i then Z i c else 0) n:=lJ fun j _=>by
   unfold zK
   by_cases e:j=i
   ·rw [if_pos e,e,if_pos rfl,Rat.mul_one]
   ·rw [if_neg e,if_neg (fun h=>e h.symm),Rat.mul_zero]
  rw [this]
  have key:∀m,m≤n→sm (fun j=>if j=i then Z i c else 0) m=if i<m then Z i c else 0:=by
   intro m
   induction m with
   |zero=>intro _;rw [if_neg (by omega)];rfl
   |succ m ih=>
    intro hm
    show sm _ m+(if m=i then Z i c else 0)=_
    rw [ih (by omega)]
    by_cases e:m=i
    ·rw [if_pos e,if_neg (by omega),if_pos (by omega),Rat.zero_add]
    ·rw [if_neg e,Rat.add_zero]
     by_cases e2:i<m
     ·rw [if_pos e2,if_pos (by omega)]
     ·rw [if_neg e2,if_neg (by omega)]
  rw [key n (Nat.le_refl n),if_pos hi]⟩,fun j hj=>by omega,fun i j hi hj=>hz i j hi hj⟩
theorem aPT {M:Nat}:∀n,n≤64→fM M n≤(64*M)^n
 |0,_=>Nat.le_refl _
 |n+1,h=>by
  show(n+1)*(M*fM M n)≤_
  rw [Nat.pow_succ,Nat.mul_comm ((64*M)^n),←Nat.mul_assoc]
  exact Nat.mul_le_mul (Nat.mul_le_mul_right M h) (aPT n (by omega))
theorem TI.scale {n w:Nat} {Z T:Nat→Nat→Rat} {b:Nat→Nat} (h:TI n w Z T b) {D:Rat} (hD:D≠0):TI n w (fun i c=>Z i c*D) T b:=by
 obtain⟨⟨E,hE⟩,hb,hu⟩:=h
 refine⟨⟨fun i j=>E i j/D,fun i c hi hc=>?_⟩,hb,hu⟩
 rw [hE i c hi hc,aBO,aBO]
 refine lJ fun j _=>?_
 rw [Rat.div_def,Rat.mul_comm (E i j),Rat.mul_assoc,←Rat.mul_assoc D,Rat.mul_inv_cancel _ hD,Rat.one_mul]
theorem TI.bd {n w M k:Nat} {Z T:Nat→Nat→Rat} {b:Nat→Nat} {D:Rat} (h:TI n w Z T b) (hD:D≠0) (hZ:∀i c,i<n→c<w→isZ M (Z i c*D)) (hn:n≤64) (hM:(64*M)^n<2^k):Bdx n w k T:=by
 obtain⟨⟨E,hE⟩,hb,hu⟩:=h.scale hD
 exact aLv hE hb hu hZ (Nat.lt_of_le_of_lt (aPT n hn) hM)
end Go.Proofs.YtcjdedkdoagifaaGreat
set_option linter.unusedVariables false
namespace Go.Proofs.YtcjdedkdoagifaaGreat
/-- A degree of freedom with small numbers. -/
def aPU (d:aF):Prop:=Bd 8 d.inv∧d.inv≠0∧Bd 8 d.load
def dof (d:List aF) (i:Nat):aF:=d.getD i ⟨0,0,false,0,0⟩
def aQw (d:List aF):Prop:=∀x∈d,aPU x
end Go.Proofs.YtcjdedkdoagifaaGreat
set_option linter.unusedVariables false
namespace Go.Proofs.YtcjdedkdoagifaaGreat
/-- Terms that are few and small. -/
def TB (l:List aC):Prop:=l.length≤12∧∀t∈l,Bd 8 t.k
def RB (r:aA):Prop:=TB r.j∧TB r.t
def RsB (l:List aA):Prop:=∀r∈l,RB r
theorem TB.nil:TB []:=⟨by simp,fun t h=>absurd h List.not_mem_nil⟩
theorem RsB.nil:RsB []:=fun t h=>absurd h List.not_mem_nil
theorem RsB.snoc {l:List aA} {r:aA} (h:RsB l) (hr:RB r):RsB (l++[r]):=fun x hx=>by
 rcases List.mem_append.1 hx with h1|h1
 ·exact h x h1
 ·rw [List.mem_singleton.1 h1];exact hr
def RC (r:aA):Prop:=RB r∧Bd 8 r.mu
def RsC (l:List aA):Prop:=∀r∈l,RC r
theorem RsC.snoc {l:List aA} {r:aA} (h:RsC l) (hr:RC r):RsC (l++[r]):=fun x hx=>by
 rcases List.mem_append.1 hx with h1|h1
 ·exact h x h1
 ·rw [List.mem_singleton.1 h1];exact hr
structure aM7 (s:aH):Prop where
 n1:1≤s.dofs.length
 n4:s.dofs.length≤4
 dofs:aQw s.dofs
 ll:s.load.length=s.dofs.length
 vl:s.v.length=s.dofs.length
 load:xT 8 s.load
 v:xT 8 s.v
 rows:RsB s.rows
 rl:s.rows.length≤4
 mus:RsC s.rows
theorem tab7 {m:Int} (h0:0≤m) (h1:m<7):∃x,bU [0,1,(-1),0,2,(-1),1] m=some x∧-2≤x∧x≤2:=by
 have:m=0∨m=1∨m=2∨m=3∨m=4∨m=5∨m=6:=by omega
 rcases this with rfl|rfl|rfl|rfl|rfl|rfl|rfl<;>exact⟨_,rfl,by omega,by omega⟩
end Go.Proofs.YtcjdedkdoagifaaGreat
set_option linter.unusedVariables false
namespace Go.Proofs.YtcjdedkdoagifaaGreat
/-- What a term adds to a rate. -/
def trm (a:List Rat) (t:aC):Rat:=bif decide (0≤t.dof∧t.dof<(a.length:Int)) then t.k*tA a t.dof.toNat else 0
def rtf (a:List Rat):List aC→Rat→Rat
 |[],x=>x
 |t::l,x=>rtf a l (x+trm a t)
def rt (l:List aC) (a:List Rat):Rat:=rtf a l 0
theorem aI7 {a:List Rat} {B:Nat} {t:aC} (ha:xT B a) (ht:Bd 8 t.k):Bd (8+B) (trm a t):=by
 unfold trm
 by_cases h:0≤t.dof∧t.dof<(a.length:Int)
 ·rw [decide_eq_true h]
  exact(ht.mul (ha _ (xM (by omega)))).mono (by omega)
 ·rw [decide_eq_false h]
  exact Bd.zero.mono (by omega)
theorem aNo {a:List Rat} {B:Nat} (ha:xT B a):∀(l:List aC) (x:Rat) (n:Nat),(∀t∈l,Bd 8 t.k)→Bd n x→Bd (n+(B+9)*l.length) (rtf a l x)
 |[],x,n,_,hx=>hx.mono (by simp)
 |t::l,x,n,hl,hx=>(aNo ha l (x+trm a t) (n+(8+B)+1) (fun t h=>hl t (List.mem_cons_of_mem _ h)) (hx.add (aI7 ha (hl t List.mem_cons_self)))).mono (by simp only [List.length_cons,Nat.mul_succ];omega)
theorem aBm {a:List Rat} {B:Nat} {l:List aC} (ha:xT B a) (hl:TB l):Bd (1+(B+9)*12) (rt l a):=(aNo ha l 0 1 hl.2 Bd.zero).mono (by have:=Nat.mul_le_mul_left (B+9) hl.1;omega)
theorem aKj {a:List Rat} {l:List aC} (ha:xT 64 a) (hl:TB l):Bd 1000 (rt l a):=(aBm ha hl).mono (by omega)
theorem aF9 {l:List aC} {i:Nat} (h:i<l.length):∃x,x∈l∧l.drop i=x::l.drop (i+1)∧bU l (i:Int)=some x:=
 ⟨l[i],List.getElem_mem h,List.drop_eq_getElem_cons h,rdG (List.getElem?_eq_getElem h)⟩
theorem aD4 {a:List Rat} {t:aC} (x:Rat) (h:¬(0≤t.dof∧t.dof<(a.length:Int))):x+trm a t=x:=by
 unfold trm;rw [decide_eq_false h];exact Rat.add_zero x
theorem aKk {a:List Rat} {B:Nat} {l:List aC} (ha:xT B a) (hl:TB l) (K:Nat):∀(t i k n:Nat) (x:Rat),i+t=l.length→t<k→Bd n x→n+(B+9)*t≤1073741824→mF K l a k x (i:Int)=some (rtf a (l.drop i) x)
 |0,i,k,n,x,hi,hk,hx,hn=>by
  obtain⟨k',rfl,_⟩:=bG hk
  rw [List.drop_eq_nil_of_le (by omega)]
  simp only [mF,dF (show¬(i:Int)<(l.length:Int) by omega),bV];rfl
 |t+1,i,k,n,x,hi,hk,hx,hn=>by
  have h12:=hl.1
  obtain⟨k',rfl,_⟩:=bG hk
  obtain⟨y,h1,h2,h3⟩:=aF9 (l:=l) (i:=i) (by omega)
  have hB:(B+9)*(t+1)=(B+9)*t+(B+9):=Nat.mul_succ _ _
  have ih:=aKk ha hl K t (i+1) k' (n+(8+B)+1) (x+trm a y) (by omega) (by omega) (hx.add (aI7 ha (hl.2 y h1))) (by omega)
  rw [h2]
  show _=some (rtf a (l.drop (i+1)) (x+trm a y))
  simp only [mF,dT (show(i:Int)<(l.length:Int) by omega),cC,h3,oB]
  by_cases h0:0≤y.dof
  ·simp only [dT h0,cC]
   by_cases h4:y.dof<(a.length:Int)
   ·have e:y.dof=((y.dof.toNat:Nat):Int):=by omega
    have hr:bU a y.dof=some (tA a y.dof.toNat):=by
     have:=aIx (l:=a) (i:=y.dof.toNat) (by omega)
     rwa [←e] at this
    have hv:=ha _ (xM (l:=a) (i:=y.dof.toNat) (by omega))
    have ht:trm a y=y.k*tA a y.dof.toNat:=by unfold trm;rw [decide_eq_true ⟨h0,h4⟩];rfl
    rw [ht] at ih ⊢
    simp only [dT h4,cC,hr,oB,uF (hl.2 y h1) hv (by omega) (by omega),xR hx ((hl.2 y h1).mul hv) (by omega) (by omega),oF (i:=i) (by omega)]
    exact ih
   ·rw [aD4 x (fun h=>h4 h.2)] at ih ⊢
    simp only [dF h4,bV,oF (i:=i) (by omega),oB]
    exact ih
  ·rw [aD4 x (fun h=>h0 h.1)] at ih ⊢
   simp only [dF h0,bV,oF (i:=i) (by omega),oB]
   exact ih
theorem yY {a:List Rat} {B:Nat} {l:List aC} (ha:xT B a) (hB:B≤80000000) (hl:TB l) {K:Nat} (hK:13≤K):iS K l a=some (rt l a):=by
 have h:=hl.1
 have h2:=Nat.mul_le_mul_left (B+9) h
 have:=aKk ha hl K l.length 0 K 1 0 (by omega) (by omega) Bd.zero (by omega)
 simp only [Int.natCast_zero,List.drop_zero] at this
 simp only [iS,this,oB,wV];rfl
theorem aKg {a:List Rat} {l:List aC} (ha:xT 64 a) (hl:TB l) {K:Nat} (hK:13≤K):iS K l a=some (rt l a):=yY ha (by omega) hl hK
theorem aIj {a:List Rat} {B:Nat} {l:List aC} (ha:xT B a) (hl:TB l) (K:Nat):∀(t i k n:Nat) (x:Rat),i+t=l.length→t<k→Bd n x→n+(B+9)*t≤1073741824→fL K l a k x (i:Int)=some (rtf a (l.drop i) x)
 |0,i,k,n,x,hi,hk,hx,hn=>by
  obtain⟨k',rfl,_⟩:=bG hk
  rw [List.drop_eq_nil_of_le (by omega)]
  simp only [fL,dF (show¬(i:Int)<(l.length:Int) by omega),bV];rfl
 |t+1,i,k,n,x,hi,hk,hx,hn=>by
  have h12:=hl.1
  obtain⟨k',rfl,_⟩:=bG hk
  obtain⟨y,h1,h2,h3⟩:=aF9 (l:=l) (i:=i) (by omega)
  have hB:(B+9)*(t+1)=(B+9)*t+(B+9):=Nat.mul_succ _ _
  have ih:=aIj ha hl K t (i+1) k' (n+(8+B)+1) (x+trm a y) (by omega) (by omega) (hx.add (aI7 ha (hl.2 y h1))) (by omega)
  rw [h2]
  show _=some (rtf a (l.drop (i+1)) (x+trm a y))
  simp only [fL,dT (show(i:Int)<(l.length:Int) by omega),cC,h3,oB]
  by_cases h0:0≤y.dof
  ·simp only [dT h0,cC]
   by_cases h4:y.dof<(a.length:Int)
   ·have e:max y.dof 0=((y.dof.toNat:Nat):Int):=by omega
    have hr:bU a (max y.dof 0)=some (tA a y.dof.toNat):=by
     rw [e];exact aIx (l:=a) (i:=y.dof.toNat) (by omega)
    have hv:=ha _ (xM (l:=a) (i:=y.dof.toNat) (by omega))
    have ht:trm a y=y.k*tA a y.dof.toNat:=by unfold trm;rw [decide_eq_true ⟨h0,h4⟩];rfl
    rw [ht] at ih ⊢
    simp only [dT h4,cC,hr,oB,uF (hl.2 y h1) hv (by omega) (by omega),xR hx ((hl.2 y h1).mul hv) (by omega) (by omega),oF (i:=i) (by omega)]
    exact ih
   ·rw [aD4 x (fun h=>h4 h.2)] at ih ⊢
    simp only [dF h4,bV,oF (i:=i) (by omega),oB]
    exact ih
  ·rw [aD4 x (fun h=>h0 h.1)] at ih ⊢
   simp only [dF h0,bV,oF (i:=i) (by omega),oB]
   exact ih
theorem aBN {a:List Rat} {B:Nat} {l:List aC} (ha:xT B a) (hB:B≤80000000) (hl:TB l) {K:Nat} (hK:13≤K):gT K l a=some (rt l a):=by
 have h:=hl.1
 have h2:=Nat.mul_le_mul_left (B+9) h
 have:=aIj ha hl K l.length 0 K 1 0 (by omega) (by omega) Bd.zero (by omega)
 simp only [Int.natCast_zero,List.drop_zero] at this
 simp only [gT,this,oB,rF];rfl
theorem aIi {a:List Rat} {l:List aC} (ha:xT 64 a) (hl:TB l) {K:Nat} (hK:13≤K):gT K l a=some (rt l a):=aBN ha (by omega) hl hK
theorem aOt {x:Rat} (h:0<x):x.num.sign=1:=by
 have h1:=Rat.num_nonneg.2 (Rat.le_of_lt h)
 have h2:x.num≠0:=fun e=>by rw [Rat.num_eq_zero.1 e] at h;exact Rat.lt_irrefl h
 exact Int.sign_eq_one_of_pos (by omega)
theorem aQp {x:Rat} (h:x<0):0< -x:=by
 have:=Rat.neg_lt_neg h
 rwa [Rat.neg_zero] at this
theorem aOb {x:Rat} (h:x<0):x.num.sign=-1:=by
 have h1:=aOt (aQp h)
 rw [Rat.neg_num,Int.sign_neg] at h1
 omega
theorem aDp {l:List aA} {i:Nat} (h:i<l.length):∃x,x∈l∧l.drop i=x::l.drop (i+1)∧bU l (i:Int)=some x:=
 ⟨l[i],List.getElem_mem h,List.drop_eq_getElem_cons h,rdG (List.getElem?_eq_getElem h)⟩
theorem aRO {l:List aA} {f:aA→Option Bool} {b:aA→Bool} (hf:∀r∈l,f r=some (b r)) (hl:l.length≤1000) (K:Nat):∀(t i k:Nat),i+t=l.length→t<k→
  (l.drop i).any b=false∧eS K l f k (i:Int)=some (.go ())∨(l.drop i).any b=true∧∃j:Nat,eS K l f k (i:Int)=some (.ret (j:Int))
 |0,i,k,hi,hk=>by
  obtain⟨k',rfl,_⟩:=bG hk
  refine .inl ⟨by rw [List.drop_eq_nil_of_le (by omega)];rfl,?_⟩
  simp only [eS,dF (show¬(i:Int)<(l.length:Int) by omega),bV]
 |t+1,i,k,hi,hk=>by
  obtain⟨k',rfl,_⟩:=bG hk
  obtain⟨x,h1,h2,h3⟩:=aDp (l:=l) (i:=i) (by omega)
  rw [h2]
  simp only [eS,dT (show(i:Int)<(l.length:Int) by omega),cC,h3,oB,hf x h1,List.any_cons]
  cases b x
  ·simp only [bV,Bool.false_or,oF (i:=i) (by omega),oB]
   exact aRO hf hl K t (i+1) k' (by omega) (by omega)
  ·exact .inr ⟨rfl,i,by simp only [cC]⟩
theorem aK5 {l:List aA} {f:aA→Option Bool} {b:aA→Bool} (hf:∀r∈l,f r=some (b r)) (hl:l.length≤1000) {K:Nat} (hK:l.length<K):gA K l f=some (l.any b):=by
 have:=aRO hf hl K l.length 0 K (by omega) hK
 simp only [Int.natCast_zero,List.drop_zero] at this
 rcases this with⟨h1,h2⟩|⟨h1,y,h2⟩
 ·simp only [gA,mB,h2,oB,nC,h1];rfl
 ·simp only [gA,mB,h2,oB,h1,dT (show(0:Int)≤(y:Int) by omega)]
theorem aNP (K:Nat):pU (K+40)=some true:=by kernel_rfl
end Go.Proofs.YtcjdedkdoagifaaGreat
set_option linter.unusedVariables false
namespace Go.Proofs.YtcjdedkdoagifaaGreat
def wU (l:List aC) (i:Nat):aC:=l.getD i ⟨0,0⟩
theorem aFx {l:List aC} {i:Nat} (h:i<l.length):bU l (i:Int)=some (wU l i):=rdD _ h
theorem zF {l:List aC} {i:Nat} (h:i<l.length):wU l i∈l:=by
 unfold wU
 simp only [List.getD_eq_getElem?_getD,List.getElem?_eq_getElem h,Option.getD_some]
 exact List.getElem_mem h
def tk (n:Nat) (l:List aC) (i:Nat):Bool:=decide (0≤(wU l i).dof∧(wU l i).dof<(n:Int)∧(0<i→(wU l (i-1)).dof<(wU l i).dof))
def tks (n:Nat) (l:List aC):Nat→Nat→Bool
 |0,_=>true
 |t+1,i=>tk n l i&&tks n l t (i+1)
def tOk (n:Nat) (l:List aC):Bool:=tks n l l.length 0
theorem xP {m:Nat} {a:Rat} (ha:Bd m a) (hm:m≤1073741824):aBv a=some true:=by unfold aBv;rw [ha.qs hm];rfl
theorem aHM {n:Nat} {l:List aC} (hl:TB l) (K:Nat):∀(t i k:Nat),i+t=l.length→t<k→lU K l (n:Int) k (i:Int)=some (bif tks n l t i then .go () else .ret false)
 |0,i,k,hi,hk=>by
  obtain⟨k',rfl,_⟩:=bG hk
  simp only [lU,dF (show¬(i:Int)<(l.length:Int) by omega),bV,tks,cC]
 |t+1,i,k,hi,hk=>by
  have h12:=hl.1
  obtain⟨k',rfl,_⟩:=bG hk
  have hb:=xP (hl.2 _ (zF (l:=l) (i:=i) (by omega))) (by omega)
  have ih:=aHM (n:=n) hl K t (i+1) k' (by omega) (by omega)
  simp only [lU,dT (show(i:Int)<(l.length:Int) by omega),cC,aFx (l:=l) (i:=i) (by omega),oB,hb,Bool.not_true,bV,tks,oF (i:=i) (by omega)]
  by_cases h0:(wU l i).dof<0
  ·have e:tk n l i=false:=decide_eq_false (by omega)
   simp only [dT h0,cC,e,Bool.false_and,bV]
  ·simp only [dF h0,bV]
   by_cases h1:(n:Int)≤(wU l i).dof
   ·have e:tk n l i=false:=decide_eq_false (by omega)
    simp only [dT h1,cC,e,Bool.false_and,bV]
   ·simp only [dF h1,bV]
    by_cases h2:0<i
    ·have e1:aY ((i:Int)-1)=some ((i-1:Nat):Int):=by rw [lL (by omega)];congr 1;omega
     simp only [dT (show(0:Int)<(i:Int) by omega),cC,e1,oB,aFx (l:=l) (i:=i-1) (by omega)]
     by_cases h3:(wU l i).dof≤(wU l (i-1)).dof
     ·have e:tk n l i=false:=decide_eq_false (by omega)
      simp only [dT h3,cC,e,Bool.false_and,bV]
     ·have e:tk n l i=true:=decide_eq_true (by omega)
      simp only [dF h3,bV,e,Bool.true_and]
      exact ih
    ·have e:tk n l i=true:=decide_eq_true (by omega)
     simp only [dF (show¬(0:Int)<(i:Int) by omega),bV,e,Bool.true_and]
     exact ih
theorem aH9 {n:Nat} {l:List aC} (hl:TB l) {K:Nat} (hK:13≤K):t5 K l (n:Int)=some (tOk n l):=by
 have h:=hl.1
 have:=aHM (n:=n) hl K l.length 0 K (by omega) (by omega)
 simp only [Int.natCast_zero] at this
 simp only [t5,this,oB,u6,tOk]
 cases tks n l l.length 0<;>rfl
theorem aGh {n:Nat} {l:List aC} (hl:TB l) (K:Nat):∀(t i k:Nat),i+t=l.length→t<k→gL K l (n:Int) k (i:Int)=some (bif tks n l t i then .go () else .ret false)
 |0,i,k,hi,hk=>by
  obtain⟨k',rfl,_⟩:=bG hk
  simp only [gL,dF (show¬(i:Int)<(l.length:Int) by omega),bV,tks,cC]
 |t+1,i,k,hi,hk=>by
  have h12:=hl.1
  obtain⟨k',rfl,_⟩:=bG hk
  have hb:=xP (hl.2 _ (zF (l:=l) (i:=i) (by omega))) (by omega)
  have ih:=aGh (n:=n) hl K t (i+1) k' (by omega) (by omega)
  simp only [gL,dT (show(i:Int)<(l.length:Int) by omega),cC,aFx (l:=l) (i:=i) (by omega),oB,hb,Bool.not_true,bV,tks,oF (i:=i) (by omega)]
  by_cases h0:(wU l i).dof<0
  ·have e:tk n l i=false:=decide_eq_false (by omega)
   simp only [dT h0,cC,e,Bool.false_and,bV]
  ·simp only [dF h0,bV]
   by_cases h1:(n:Int)≤(wU l i).dof
   ·have e:tk n l i=false:=decide_eq_false (by omega)
    simp only [dT h1,cC,e,Bool.false_and,bV]
   ·simp only [dF h1,bV]
    by_cases h2:0<i
    ·have e1:aY ((i:Int)-1)=some ((i-1:Nat):Int):=by rw [lL (by omega)];congr 1;omega
     have e2:max (((i-1:Nat):Int)) 0=((i-1:Nat):Int):=by omega
     simp only [dT (show(0:Int)<(i:Int) by omega),cC,e1,oB,e2,aFx (l:=l) (i:=i-1) (by omega)]
     by_cases h3:(wU l i).dof≤(wU l (i-1)).dof
     ·have e:tk n l i=false:=decide_eq_false (by omega)
      simp only [dT h3,cC,e,Bool.false_and,bV]
     ·have e:tk n l i=true:=decide_eq_true (by omega)
      simp only [dF h3,bV,e,Bool.true_and]
      exact ih
    ·have e:tk n l i=true:=decide_eq_true (by omega)
     simp only [dF (show¬(0:Int)<(i:Int) by omega),bV,e,Bool.true_and]
     exact ih
theorem aGl {n:Nat} {l:List aC} (hl:TB l) {K:Nat} (hK:13≤K):mV K l (n:Int)=some (tOk n l):=by
 have h:=hl.1
 have:=aGh (n:=n) hl K l.length 0 K (by omega) (by omega)
 simp only [Int.natCast_zero] at this
 simp only [mV,this,oB,qB,tOk]
 cases tks n l l.length 0<;>rfl
theorem aKf {l:List Rat} (hl:xT 64 l) (hn:l.length≤1000) (K:Nat):∀(t i k:Nat),i+t=l.length→t<k→f8 K l s6 k (i:Int)=some (.go ())
 |0,i,k,hi,hk=>by
  obtain⟨k',rfl,_⟩:=bG hk
  simp only [f8,dF (show¬(i:Int)<(l.length:Int) by omega),bV]
 |t+1,i,k,hi,hk=>by
  obtain⟨k',rfl,_⟩:=bG hk
  simp only [f8,dT (show(i:Int)<(l.length:Int) by omega),cC,aIx (l:=l) (i:=i) (by omega),oB,s6,xP (hl _ (xM (l:=l) (i:=i) (by omega))) (by omega),Bool.not_true,bV,oF (i:=i) (by omega)]
  exact aKf hl hn K t (i+1) k' (by omega) (by omega)
theorem aKo {l:List Rat} (hl:xT 64 l) (hn:l.length≤1000) {K:Nat} (hK:l.length<K):tI K l=some true:=by
 have:=aKf hl hn K l.length 0 K (by omega) (by omega)
 simp only [Int.natCast_zero] at this
 simp only [tI,nB,qC,this,oB,m9];rfl
theorem aIO {l:List Rat} (hl:xT 64 l) (hn:l.length≤1000) (K:Nat):∀(t i k:Nat),i+t=l.length→t<k→jM K l k (i:Int)=some (.go ())
 |0,i,k,hi,hk=>by
  obtain⟨k',rfl,_⟩:=bG hk
  simp only [jM,dF (show¬(i:Int)<(l.length:Int) by omega),bV]
 |t+1,i,k,hi,hk=>by
  obtain⟨k',rfl,_⟩:=bG hk
  simp only [jM,dT (show(i:Int)<(l.length:Int) by omega),cC,aIx (l:=l) (i:=i) (by omega),oB,xP (hl _ (xM (l:=l) (i:=i) (by omega))) (by omega),Bool.not_true,bV,oF (i:=i) (by omega)]
  exact aIO hl hn K t (i+1) k' (by omega) (by omega)
theorem aH3 {l:List Rat} (hl:xT 64 l) (hn:l.length≤1000) {K:Nat} (hK:l.length<K):nV K l=some true:=by
 have:=aIO hl hn K l.length 0 K (by omega) (by omega)
 simp only [Int.natCast_zero] at this
 simp only [nV,this,oB,rL]
structure SB (d:List aF) (f v:List Rat) (l:List aA):Prop where
 sd:∀x∈d,Bd 8 x.inv
 dl:d.length≤100
 sf:xT 64 f
 fl:f.length≤100
 sv:xT 64 v
 vl:v.length≤100
 sl:RsC l
 ll:l.length≤100
def aCz (x:aF):Bool:=decide (0<x.inv.num.sign)
def wT (n:Nat) (v:List Rat) (r:aA):Bool:=tOk n r.j&&tOk n r.t&&decide (0≤r.mu.num.sign)
def oQ (v:List Rat) (r:aA):Bool:=decide ((rt r.j v).num.sign=0)
def zB (d:List aF) (f v:List Rat) (l:List aA):Bool:=decide (d.length≤12∧f.length=d.length∧v.length=d.length)&&d.all aCz&&l.all fun r=>wT d.length v r&&oQ v r
theorem aFX {l:List aF} {i:Nat} (h:i<l.length):∃x,x∈l∧l.drop i=x::l.drop (i+1)∧bU l (i:Int)=some x:=
 ⟨l[i],List.getElem_mem h,List.drop_eq_getElem_cons h,rdG (List.getElem?_eq_getElem h)⟩
theorem aHS {a0:aG} (hd:∀x∈a0.dofs,Bd 8 x.inv) (hl:a0.dofs.length≤100) (K:Nat):∀(t i k:Nat),i+t=a0.dofs.length→t<k→iY K a0 k (i:Int)=some (bif(a0.dofs.drop i).all aCz then .go () else .ret false)
 |0,i,k,hi,hk=>by
  obtain⟨k',rfl,_⟩:=bG hk
  rw [List.drop_eq_nil_of_le (by omega)]
  simp only [iY,dF (show¬(i:Int)<(a0.dofs.length:Int) by omega),bV];rfl
 |t+1,i,k,hi,hk=>by
  obtain⟨k',rfl,_⟩:=bG hk
  obtain⟨x,h1,h2,h3⟩:=aFX (l:=a0.dofs) (i:=i) (by omega)
  have hb:=hd x h1
  rw [h2,List.all_cons]
  simp only [iY,dT (show(i:Int)<(a0.dofs.length:Int) by omega),cC,h3,oB,xP hb (by omega),Bool.not_true,bV,o7 hb (by omega)]
  by_cases h:x.inv.num.sign≤0
  ·have e:aCz x=false:=decide_eq_false (by omega)
   simp only [dT h,cC,e,Bool.false_and,bV]
  ·have e:aCz x=true:=decide_eq_true (by omega)
   simp only [dF h,bV,e,Bool.true_and,oF (i:=i) (by omega),oB]
   exact aHS hd hl K t (i+1) k' (by omega) (by omega)
theorem aGA {d:List aF} (hd:∀x∈d,Bd 8 x.inv) (hl:d.length≤100) (K:Nat):∀(t i k:Nat),i+t=d.length→t<k→gZ K d k (i:Int)=some (bif(d.drop i).all aCz then .go () else .ret false)
 |0,i,k,hi,hk=>by
  obtain⟨k',rfl,_⟩:=bG hk
  rw [List.drop_eq_nil_of_le (by omega)]
  simp only [gZ,dF (show¬(i:Int)<(d.length:Int) by omega),bV];rfl
 |t+1,i,k,hi,hk=>by
  obtain⟨k',rfl,_⟩:=bG hk
  obtain⟨x,h1,h2,h3⟩:=aFX (l:=d) (i:=i) (by omega)
  have hb:=hd x h1
  rw [h2,List.all_cons]
  simp only [gZ,dT (show(i:Int)<(d.length:Int) by omega),cC,h3,oB,xP hb (by omega),Bool.not_true,bV,o7 hb (by omega)]
  by_cases h:x.inv.num.sign≤0
  ·have e:aCz x=false:=decide_eq_false (by omega)
   simp only [dT h,cC,e,Bool.false_and,bV]
  ·have e:aCz x=true:=decide_eq_true (by omega)
   simp only [dF h,bV,e,Bool.true_and,oF (i:=i) (by omega),oB]
   exact aGA hd hl K t (i+1) k' (by omega) (by omega)
theorem aMN {a0:aG} {n:Nat} {r:aA} (hv:xT 64 a0.v) (hr:RC r) {K:Nat} (hK:13≤K):lV K (n:Int) a0 r=some (!(wT n a0.v r&&oQ a0.v r)):=by
 simp only [lV,aH9 hr.1.1 hK,aH9 hr.1.2 hK,oB,xP hr.2 (by omega),Bool.not_true,bV,o7 hr.2 (by omega),aKg hv hr.1.1 hK,o7 (aKj hv hr.1.1) (by omega),wT,oQ]
 cases tOk n r.j
 ·rfl
 ·cases tOk n r.t
  ·rfl
  ·by_cases h:r.mu.num.sign<0
   ·simp only [Bool.not_true,bV,dT h,cC,dF (show¬0≤r.mu.num.sign by omega)];rfl
   ·simp only [Bool.not_true,bV,dF h,dT (show 0≤r.mu.num.sign by omega),Bool.true_and]
    by_cases h2:(rt r.j a0.v).num.sign=0
    ·rw [dT h2,nF h2];rfl
    ·rw [dF h2,nT h2];rfl
theorem aDa {d:List aF} {f v:List Rat} {l:List aA} (h:SB d f v l) {K:Nat} (hK:200≤K):lP K ⟨d,f,v,l⟩=some (zB d f v l):=by
 have hdl:=h.dl
 have hfl:=h.fl
 have hvl:=h.vl
 have hll:=h.ll
 have e1:=aHS (a0:=⟨d,f,v,l⟩) h.sd h.dl K d.length 0 K (by simp) (by omega)
 have e2:=aK5 (l:=l) (b:=fun r=>!(wT d.length v r&&oQ v r)) (fun r hr=>aMN (a0:=⟨d,f,v,l⟩) (n:=d.length) h.sv (h.sl r hr) (K:=K) (by omega)) (by omega) (show l.length<K by omega)
 simp only [Int.natCast_zero,List.drop_zero] at e1
 have e3:(!l.any fun r=>!(wT d.length v r&&oQ v r))=l.all fun r=>wT d.length v r&&oQ v r:=by
  rw [List.not_any_eq_all_not];congr;funext r;rw [Bool.not_not]
 simp only [lP,aKo h.sf (by omega) (show f.length<K by omega),aKo h.sv (by omega) (show v.length<K by omega),e1,qG,e2,oB,Bool.not_true,bV,e3,zB]
 by_cases h1:d.length≤12
 ·by_cases h2:f.length=d.length
  ·by_cases h3:v.length=d.length
   ·simp only [dF (show¬(12:Int)<(d.length:Int) by omega),nF (show(f.length:Int)=(d.length:Int) by omega),nF (show(v.length:Int)=(d.length:Int) by omega),bV,decide_eq_true (show d.length≤12∧f.length=d.length∧v.length=d.length from⟨h1,h2,h3⟩),Bool.true_and]
    cases d.all aCz<;>rfl
   ·simp only [dF (show¬(12:Int)<(d.length:Int) by omega),nF (show(f.length:Int)=(d.length:Int) by omega),nT (show(v.length:Int)≠(d.length:Int) by omega),bV,cC,decide_eq_false (show¬(d.length≤12∧f.length=d.length∧v.length=d.length) from fun h=>h3 h.2.2),Bool.false_and]
  ·simp only [dF (show¬(12:Int)<(d.length:Int) by omega),nT (show(f.length:Int)≠(d.length:Int) by omega),bV,cC,decide_eq_false (show¬(d.length≤12∧f.length=d.length∧v.length=d.length) from fun h=>h2 h.2.1),Bool.false_and]
 ·simp only [dT (show(12:Int)<(d.length:Int) by omega),cC,decide_eq_false (show¬(d.length≤12∧f.length=d.length∧v.length=d.length) from fun h=>h1 h.1),Bool.false_and]
theorem aGo {d:List aF} {v:List Rat} {l:List aA} (hl:RsC l) (hn:l.length≤100) {K:Nat} (hK:13≤K):∀(t i k:Nat),i+t=l.length→t<k→gW K d l k (i:Int)=some (bif(l.drop i).all (wT d.length v) then .go () else .ret false)
 |0,i,k,hi,hk=>by
  obtain⟨k',rfl,_⟩:=bG hk
  rw [List.drop_eq_nil_of_le (by omega)]
  simp only [gW,dF (show¬(i:Int)<(l.length:Int) by omega),bV];rfl
 |t+1,i,k,hi,hk=>by
  obtain⟨k',rfl,_⟩:=bG hk
  obtain⟨r,h1,h2,h3⟩:=aDp (l:=l) (i:=i) (by omega)
  have hr:=hl r h1
  have ih:=aGo (d:=d) (v:=v) hl hn hK t (i+1) k' (by omega) (by omega)
  rw [h2,List.all_cons]
  simp only [gW,dT (show(i:Int)<(l.length:Int) by omega),cC,h3,oB,aGl hr.1.1 hK,aGl hr.1.2 hK,xP hr.2 (by omega),Bool.not_true,bV,o7 hr.2 (by omega)]
  unfold wT at ih ⊢
  cases tOk d.length r.j
  ·rfl
  ·cases tOk d.length r.t
   ·rfl
   ·by_cases h:r.mu.num.sign<0
    ·simp only [Bool.not_true,bV,dT h,cC,dF (show¬0≤r.mu.num.sign by omega)];rfl
    ·simp only [Bool.not_true,bV,dF h,dT (show 0≤r.mu.num.sign by omega),Bool.true_and,oF (i:=i) (by omega),oB]
     exact ih
theorem aFU {v:List Rat} {l:List aA} (hv:xT 64 v) (hl:RsC l) (hn:l.length≤100) {K:Nat} (hK:13≤K):∀(t i k:Nat),i+t=l.length→t<k→kL K v l k (i:Int)=some (bif(l.drop i).all (oQ v) then .go () else .ret false)
 |0,i,k,hi,hk=>by
  obtain⟨k',rfl,_⟩:=bG hk
  rw [List.drop_eq_nil_of_le (by omega)]
  simp only [kL,dF (show¬(i:Int)<(l.length:Int) by omega),bV];rfl
 |t+1,i,k,hi,hk=>by
  obtain⟨k',rfl,_⟩:=bG hk
  obtain⟨r,h1,h2,h3⟩:=aDp (l:=l) (i:=i) (by omega)
  have hr:=hl r h1
  rw [h2,List.all_cons]
  simp only [kL,dT (show(i:Int)<(l.length:Int) by omega),cC,h3,oB,aIi hv hr.1.1 hK,o7 (aKj hv hr.1.1) (by omega)]
  by_cases h:(rt r.j v).num.sign=0
  ·have e:oQ v r=true:=decide_eq_true h
   simp only [nF h,bV,e,Bool.true_and,oF (i:=i) (by omega),oB]
   exact aFU hv hl hn hK t (i+1) k' (by omega) (by omega)
  ·have e:oQ v r=false:=decide_eq_false h
   simp only [nT h,cC,e,Bool.false_and,bV]
theorem aIc {α:Type} {p q:α→Bool}:∀l:List α,(l.all fun x=>p x&&q x)=(l.all p&&l.all q)
 |[]=>rfl
 |x::l=>by
  rw [List.all_cons,List.all_cons,List.all_cons,aIc l]
  cases p x<;>cases q x<;>cases l.all p<;>rfl
theorem aJB {d:List aF} {f v:List Rat} {l:List aA} (h:SB d f v l) {K:Nat} (hK:200≤K):o6 K d f v l=some (zB d f v l):=by
 have hdl:=h.dl
 have hfl:=h.fl
 have hvl:=h.vl
 have hll:=h.ll
 have e1:=aGA (d:=d) h.sd h.dl K d.length 0 K (by simp) (by omega)
 have e2:=aGo (d:=d) (v:=v) h.sl h.ll (K:=K) (by omega) l.length 0 K (by omega) (by omega)
 have e3:=aFU h.sv h.sl h.ll (K:=K) (by omega) l.length 0 K (by omega) (by omega)
 simp only [Int.natCast_zero,List.drop_zero] at e1 e2 e3
 simp only [o6,r9,aH3 h.sf (by omega) (show f.length<K by omega),aH3 h.sv (by omega) (show v.length<K by omega),e1,oA,e2,n9,e3,sH,oB,Bool.not_true,bV,zB,aIc (p:=wT d.length v) (q:=oQ v)]
 by_cases h1:d.length≤12
 ·by_cases h2:f.length=d.length
  ·by_cases h3:v.length=d.length
   ·simp only [dF (show¬(12:Int)<(d.length:Int) by omega),nF (show(f.length:Int)=(d.length:Int) by omega),nF (show(v.length:Int)=(d.length:Int) by omega),bV,decide_eq_true (show d.length≤12∧f.length=d.length∧v.length=d.length from⟨h1,h2,h3⟩),Bool.true_and]
    cases d.all aCz
    ·rfl
    ·cases l.all (wT d.length v)
     ·rfl
     ·cases l.all (oQ v)<;>rfl
   ·simp only [dF (show¬(12:Int)<(d.length:Int) by omega),nF (show(f.length:Int)=(d.length:Int) by omega),nT (show(v.length:Int)≠(d.length:Int) by omega),bV,cC,decide_eq_false (show¬(d.length≤12∧f.length=d.length∧v.length=d.length) from fun h=>h3 h.2.2),Bool.false_and,oB,Bool.not_false]
  ·simp only [dF (show¬(12:Int)<(d.length:Int) by omega),nT (show(f.length:Int)≠(d.length:Int) by omega),bV,cC,decide_eq_false (show¬(d.length≤12∧f.length=d.length∧v.length=d.length) from fun h=>h2 h.2.1),Bool.false_and,oB,Bool.not_false]
 ·simp only [dT (show(12:Int)<(d.length:Int) by omega),cC,decide_eq_false (show¬(d.length≤12∧f.length=d.length∧v.length=d.length) from fun h=>h1 h.1),Bool.false_and,oB,Bool.not_false]
end Go.Proofs.YtcjdedkdoagifaaGreat
set_option linter.unusedVariables false
namespace Go.Proofs.YtcjdedkdoagifaaGreat
/-- What the terms say of a degree of freedom. -/
def cf:List aC→Nat→Rat
 |[],_=>0
 |t::l,i=>(if t.dof=(i:Int) then t.k else 0)+cf l i
def InT (n:Nat) (l:List aC):Prop:=∀t∈l,0≤t.dof∧t.dof<(n:Int)
theorem aMc {n:Nat} {l:List aC}:∀(t i:Nat),tks n l t i=true→∀j,i≤j→j<i+t→tk n l j=true
 |0,i,h,j,h1,h2=>by omega
 |t+1,i,h,j,h1,h2=>by
  have h3:(tk n l i&&tks n l t (i+1))=true:=h
  rw [Bool.and_eq_true] at h3
  by_cases e:j=i
  ·rw [e];exact h3.1
  ·exact aMc t (i+1) h3.2 j (by omega) (by omega)
theorem aMW {n:Nat} {l:List aC} (h:tOk n l=true):InT n l:=fun t ht=>by
 obtain⟨i,hi,rfl⟩:=List.getElem_of_mem ht
 have:=of_decide_eq_true (aMc l.length 0 h i (by omega) (by omega))
 have e:wU l i=l[i]:=by unfold wU;simp [List.getD_eq_getElem?_getD,hi]
 rw [e] at this
 exact⟨this.1,this.2.1⟩
theorem aQ9 {A B t:Nat} (h:A+(B+9)*(t+1)≤1073741824):A+(8+B)+1+(B+9)*t≤1073741824∧A≤1073741824∧B≤1073741824:=by
 rw [Nat.mul_succ] at h;omega
theorem aP8 {g:Nat→Rat} {n A B e:Nat} {v:Rat} (hg:∀j,j<n→Bd A (g j)) (hAB:A≤B) (hv:Bd B v):∀j,j<n→Bd B (lG g e v j):=fun j hj=>by
 by_cases h:j=e
 ·rw [h,bS];exact hv
 ·rw [dW h];exact(hg j hj).mono hAB
theorem aNT {g:Nat→Rat} {n e:Nat} {y:aC} {l:List aC} {c:Rat} (he:y.dof=(e:Int)):mp (fun j=>lG g e (g e+y.k*c) j+cf l j*c) n=mp (fun j=>g j+cf (y::l) j*c) n:=cF fun j _=>by
 show _=g j+((if y.dof=(j:Int) then y.k else 0)+cf l j)*c
 by_cases h:j=e
 ·subst h;rw [bS,if_pos he,Rat.add_mul,Rat.add_assoc]
 ·rw [dW h,if_neg (by omega),Rat.zero_add]
theorem aOD {n C:Nat} {l:List aC} {c:Rat} (hl:∀t∈l,Bd 8 t.k) (hi:InT n l) (hc:Bd C c) (Fl:Nat→List Rat→Int→Option (List Rat)) (h0:∀k x,Fl (k+1) x (l.length:Int)=some x)
  (h1:∀k (g:Nat→Rat) (i A:Nat),i<l.length→(∀j,j<n→Bd A (g j))→A≤1073741824→C≤1073741824→∀(e:Nat),(wU l i).dof=(e:Int)→e<n→Fl (k+1) (mp g n) (i:Int)=Fl k (mp (lG g e (g e+(wU l i).k*c)) n) ((i+1:Nat):Int)):
  ∀(t i k A:Nat) (g:Nat→Rat),i+t=l.length→t<k→(∀j,j<n→Bd A (g j))→A+(C+9)*t≤1073741824→Fl k (mp g n) (i:Int)=some (mp (fun j=>g j+cf (l.drop i) j*c) n)∧∀j,j<n→Bd (A+(C+9)*t) (g j+cf (l.drop i) j*c)
 |0,i,k,A,g,hi',hk,hg,hA=>by
  obtain⟨k',rfl,_⟩:=bG hk
  have e:i=l.length:=by omega
  subst e
  have e2:∀j,g j+cf (l.drop l.length) j*c=g j:=fun j=>by rw [List.drop_eq_nil_of_le (Nat.le_refl _)];show g j+0*c=g j;rw [Rat.zero_mul,Rat.add_zero]
  refine⟨?_,fun j hj=>by rw [e2];exact(hg j hj).mono (by omega)⟩
  rw [h0,cF (g:=g) fun j _=>e2 j]
 |t+1,i,k,A,g,hi',hk,hg,hA=>by
  obtain⟨k',rfl,_⟩:=bG hk
  have hil:i<l.length:=by omega
  obtain⟨b1,b2,b3⟩:=aQ9 hA
  obtain⟨m1,m2⟩:=hi _ (zF hil)
  have he:(wU l i).dof=(((wU l i).dof.toNat:Nat):Int):=by omega
  have hv:=(hg _ (show(wU l i).dof.toNat<n by omega)).add ((hl _ (zF hil)).mul hc)
  have ih:=aOD hl hi hc Fl h0 h1 t (i+1) k' (A+(8+C)+1) (lG g (wU l i).dof.toNat (g (wU l i).dof.toNat+(wU l i).k*c)) (by omega) (by omega) (aP8 hg (by omega) hv) b1
  have ed:l.drop i=wU l i::l.drop (i+1):=by
   rw [List.drop_eq_getElem_cons hil];unfold wU;simp [List.getD_eq_getElem?_getD,hil]
  have e3:=aNT (n:=n) (g:=g) (l:=l.drop (i+1)) (c:=c) he
  rw [h1 k' g i A hil hg b2 b3 _ he (by omega),ih.1,ed,e3]
  refine⟨rfl,fun j hj=>?_⟩
  have e4:=congrArg (fun x=>tA x j) e3
  simp only [aDS hj] at e4
  rw [←e4]
  exact(ih.2 j hj).mono (by rw [Nat.mul_succ];omega)
theorem aM0 {n C:Nat} {l:List aC} {c:Rat} (hl:TB l) (hi:InT n l) (hc:Bd C c) {A:Nat} {g:Nat→Rat} (hg:∀j,j<n→Bd A (g j)) (hA:A+(C+9)*12≤1073741824) (hn:n≤1000) {K:Nat} (hK:13≤K):
  oU K (mp g n) l c=some (mp (fun j=>g j+cf l j*c) n)∧∀j,j<n→Bd (A+(C+9)*12) (g j+cf l j*c):=by
 have h12:=hl.1
 have hm:=Nat.mul_le_mul_left (C+9) h12
 have key:=aOD (n:=n) hl.2 hi hc (fun k x i=>jN K l c k x i) (fun k x=>by
  simp only [jN,dF (show¬(l.length:Int)<(l.length:Int) by omega),bV]) (fun k g i A hil hg h1 h2 e he hen=>by
  have hk:=hl.2 _ (zF hil)
  simp only [jN,dT (show(i:Int)<(l.length:Int) by omega),cC,aFx hil,oB,he,eG (f:=g) hen,uF hk hc (by omega) h2,xR (hg e hen) (hk.mul hc) h1 (by omega),t6 (f:=g) hen,oF (i:=i) (by omega)]) l.length 0 K A g (by omega) (by omega) hg (by omega)
 simp only [Int.natCast_zero,List.drop_zero] at key
 have ha:oT ([]:List Rat) (mp g n)=some (mp g n):=by rw [vY (by simp [mp];omega)];rfl
 refine⟨?_,fun j hj=>(key.2 j hj).mono (by omega)⟩
 simp only [oU,ha,oB,key.1,rO]
def m6 (l:List aA) (i:Nat):aA:=l.getD i ⟨0,0,0,0,0,[],[],0,0⟩
theorem aCK {l:List aA} {i:Nat} (h:i<l.length):bU l (i:Int)=some (m6 l i):=rdD _ h
theorem sY {l:List aA} {i:Nat} (h:i<l.length):m6 l i∈l:=by
 unfold m6
 simp only [List.getD_eq_getElem?_getD,List.getElem?_eq_getElem h,Option.getD_some]
 exact List.getElem_mem h
def rcq (l:List aA) (p:Nat→aI) (r j:Nat):Rat:=cf (m6 l r).j j*(p r).n+cf (m6 l r).t j*(p r).f
def wE (l:List aA) (p:Nat→aI) (m j:Nat):Rat:=sm (fun r=>rcq l p r j) m
def InR (n:Nat) (l:List aA):Prop:=∀r∈l,InT n r.j∧InT n r.t
def PB' (C m:Nat) (p:Nat→aI):Prop:=∀r,r<m→Bd C (p r).n∧Bd C (p r).f
theorem aO8 {A C t:Nat} (h:A+(C+9)*24*(t+1)≤1073741824):A+(C+9)*12≤1073741824∧A+(C+9)*12+(C+9)*12≤1073741824∧A+(C+9)*12+(C+9)*12+(C+9)*24*t≤1073741824:=by
 rw [Nat.mul_succ ((C+9)*24) t] at h
 generalize(C+9)*24*t=x at *
 omega
theorem aKX {g:Nat→Rat} {l:List aA} {p:Nat→aI} {i n:Nat} (f:Nat→Rat) (hg:g=fun j=>f j+wE l p i j):mp (fun j=>g j+cf (m6 l i).j j*(p i).n+cf (m6 l i).t j*(p i).f) n=mp (fun j=>f j+wE l p (i+1) j) n:=cF fun j _=>by
 subst hg
 show f j+wE l p i j+_+_=f j+(wE l p i j+rcq l p i j)
 unfold rcq
 rw [Rat.add_assoc,Rat.add_assoc]
theorem aEc {n C:Nat} {l:List aA} {p:Nat→aI} (hl:RsB l) (hr:InR n l) (hp:PB' C l.length p) (f:Nat→Rat) (hn:n≤1000) (hll:l.length≤1000) {K:Nat} (hK:13≤K):
  ∀(t i k A:Nat),i+t=l.length→t<k→(∀j,j<n→Bd A (f j+wE l p i j))→A+(C+9)*24*t≤1073741824→jR K l (mp p l.length) k (mp (fun j=>f j+wE l p i j) n) (i:Int)=some (mp (fun j=>f j+wE l p l.length j) n)∧∀j,j<n→Bd (A+(C+9)*24*t) (f j+wE l p l.length j)
 |0,i,k,A,hi',hk,hg,hA=>by
  obtain⟨k',rfl,_⟩:=bG hk
  have e:i=l.length:=by omega
  subst e
  exact⟨by simp only [jR,dF (show¬(l.length:Int)<(l.length:Int) by omega),bV],fun j hj=>(hg j hj).mono (by omega)⟩
 |t+1,i,k,A,hi',hk,hg,hA=>by
  obtain⟨k',rfl,_⟩:=bG hk
  have hil:i<l.length:=by omega
  obtain⟨b1,b2,b3⟩:=aO8 hA
  have hm:=sY hil
  obtain⟨p1,p2⟩:=hp i hil
  obtain⟨e1,f1⟩:=aM0 (hl _ hm).1 (hr _ hm).1 p1 hg b1 hn hK
  obtain⟨e2,f2⟩:=aM0 (hl _ hm).2 (hr _ hm).2 p2 f1 b2 hn hK
  have e3:=aKX (n:=n) (l:=l) (p:=p) (i:=i) f rfl
  have f3:∀j,j<n→Bd (A+(C+9)*12+(C+9)*12) (f j+wE l p (i+1) j):=fun j hj=>by
   have:=congrArg (fun x=>tA x j) e3
   simp only [aDS hj] at this
   rw [←this];exact f2 j hj
  obtain⟨i1,i2⟩:=aEc hl hr hp f hn hll hK t (i+1) k' _ (by omega) (by omega) f3 b3
  have hms:(C+9)*24*(t+1)=(C+9)*24*t+(C+9)*24:=Nat.mul_succ _ _
  refine⟨?_,fun j hj=>(i2 j hj).mono (by omega)⟩
  simp only [jR,dT (show(i:Int)<(l.length:Int) by omega),cC,aCK hil,eG (f:=p) hil,oB,e1,e2,e3,oF (i:=i) (by omega)]
  exact i1
def aBd (d:List aF) (i:Nat):aF:=d.getD i ⟨0,0,false,0,0⟩
theorem aMs {d:List aF} {i:Nat} (h:i<d.length):bU d (i:Int)=some (aBd d i):=rdD _ h
theorem aCW {d:List aF} {i:Nat} (h:i<d.length):aBd d i∈d:=by
 unfold aBd
 simp only [List.getD_eq_getElem?_getD,List.getElem?_eq_getElem h,Option.getD_some]
 exact List.getElem_mem h
def acc (d:List aF) (f:Nat→Rat) (l:List aA) (p:Nat→aI) (j:Nat):Rat:=(f j+wE l p l.length j)*(aBd d j).inv
def aJu (A C m:Nat):Nat:=A+(C+9)*24*m+8
theorem aKi {d:List aF} {f s:Nat→Rat} {A B:Nat} (hd:∀x∈d,Bd 8 x.inv) (hn:d.length≤1000) (hf:∀j,j<d.length→Bd A (f j)) (hs:∀j,j<d.length→Bd B (s j)) (hA:A≤500000000) (hB:B≤500000000) (K:Nat):
  ∀(t i k:Nat),i+t=d.length→t<k→dN K d (mp f d.length) (mp s d.length) k (mp (fun j=>(aBd d j).inv*(f j+s j)) i) (i:Int)=some (mp (fun j=>(aBd d j).inv*(f j+s j)) d.length)
 |0,i,k,hi,hk=>by
  obtain⟨k',rfl,_⟩:=bG hk
  have e:i=d.length:=by omega
  subst e
  simp only [dN,dF (show¬(d.length:Int)<(d.length:Int) by omega),bV]
 |t+1,i,k,hi,hk=>by
  obtain⟨k',rfl,_⟩:=bG hk
  have hil:i<d.length:=by omega
  have hv:=hd _ (aCW hil)
  simp only [dN,dT (show(i:Int)<(d.length:Int) by omega),cC,aMs hil,eG (f:=f) hil,eG (f:=s) hil,oB,xR (hf i hil) (hs i hil) (by omega) (by omega),uF hv ((hf i hil).add (hs i hil)) (by omega) (by omega),apM (g:=fun j=>(aBd d j).inv*(f j+s j)) (i:=i) (by omega),oF (i:=i) (by omega)]
  exact aKi hd hn hf hs hA hB K t (i+1) k' (by omega) (by omega)
theorem aGW {d:List aF} {f:Nat→Rat} {l:List aA} {p:Nat→aI} {A C:Nat} (hd:∀x∈d,Bd 8 x.inv) (hn:d.length≤1000) (hf:∀j,j<d.length→Bd A (f j)) (hl:RsB l) (hr:InR d.length l) (hll:l.length≤1000) (hp:PB' C l.length p) (hA:A≤400000000) (hC:(C+9)*24*l.length≤400000000) {K:Nat} (hK:2000≤K):
  eY K d (mp f d.length) l (mp p l.length)=some (mp (acc d f l p) d.length):=by
 have z:mp (fun j=>(0:Rat)+wE l p 0 j) d.length=mp (fun _=>(0:Rat)) d.length:=cF fun j _=>by show(0:Rat)+0=0;exact Rat.add_zero 0
 obtain⟨s1,s2⟩:=aEc (p:=p) hl hr hp (fun _=>(0:Rat)) hn hll (show 13≤K by omega) l.length 0 K 1 (by omega) (by omega) (fun j hj=>by show Bd 1 ((0:Rat)+0);rw [Rat.add_zero];exact Bd.zero) (by omega)
 rw [z] at s1
 have s3:∀j,j<d.length→Bd 400000001 ((0:Rat)+wE l p l.length j):=fun j hj=>(s2 j hj).mono (by omega)
 have a1:=aKi hd hn hf s3 (by omega) (by omega) K d.length 0 K (by omega) (by omega)
 simp only [Int.natCast_zero,aAO] at s1 a1
 have e:mp (fun j=>(aBd d j).inv*(f j+((0:Rat)+wE l p l.length j))) d.length=mp (acc d f l p) d.length:=cF fun j _=>by rw [Rat.zero_add,Rat.mul_comm];rfl
 simp only [eY,uK,aBW (z:=(0:Rat)) (n:=d.length) (by omega),oB,s1,rI,a1,jZ,e]
theorem aFa {d:List aF} {f:Nat→Rat} {l:List aA} {p:Nat→aI} {A C:Nat} (hd:∀x∈d,Bd 8 x.inv) (hf:∀j,j<d.length→Bd A (f j)) (hl:RsB l) (hr:InR d.length l) (hp:PB' C l.length p) (hn:d.length≤1000) (hll:l.length≤1000) (hA:A≤400000000) (hC:(C+9)*24*l.length≤400000000):xT (aJu A C l.length) (mp (acc d f l p) d.length):=aBw fun j hj=>by
 obtain⟨_,s2⟩:=aEc (p:=p) hl hr hp f hn hll (K:=1013) (by omega) l.length 0 (l.length+1) A (by omega) (by omega) (fun j hj=>by show Bd A (f j+0);rw [Rat.add_zero];exact hf j hj) (by omega)
 exact(s2 j hj).mul (hd _ (aCW hj))
theorem aLI {n C:Nat} {a2:List aI} {r:Nat} {v72:aA} {q:aI} (hq:bU a2 (r:Int)=some q) (hl:TB v72.j) (hi:InT n v72.j) (hc:Bd C q.n) {A:Nat} {g:Nat→Rat} (hg:∀j,j<n→Bd A (g j)) (hA:A+(C+9)*12≤1073741824) {K:Nat} (hK:13≤K):
  cW K a2 (r:Int) v72 K (mp g n) 0=some (mp (fun j=>g j+cf v72.j j*q.n) n)∧∀j,j<n→Bd (A+(C+9)*12) (g j+cf v72.j j*q.n):=by
 have h12:=hl.1
 have hm:=Nat.mul_le_mul_left (C+9) h12
 have key:=aOD (n:=n) hl.2 hi hc (fun k x i=>cW K a2 (r:Int) v72 k x i) (fun k x=>by
  simp only [cW,dF (show¬(v72.j.length:Int)<(v72.j.length:Int) by omega),bV]) (fun k g i A hil hg h1 h2 e he hen=>by
  have hk:=hl.2 _ (zF hil)
  simp only [cW,dT (show(i:Int)<(v72.j.length:Int) by omega),cC,aFx hil,oB,he,eG (f:=g) hen,hq,uF hk hc (by omega) h2,xR (hg e hen) (hk.mul hc) h1 (by omega),t6 (f:=g) hen,oF (i:=i) (by omega)]) v72.j.length 0 K A g (by omega) (by omega) hg (by omega)
 simp only [Int.natCast_zero,List.drop_zero] at key
 exact⟨key.1,fun j hj=>(key.2 j hj).mono (by omega)⟩
theorem aLl {n C:Nat} {a2:List aI} {r:Nat} {v72:aA} {q:aI} (hq:bU a2 (r:Int)=some q) (hl:TB v72.t) (hi:InT n v72.t) (hc:Bd C q.f) {A:Nat} {g:Nat→Rat} (hg:∀j,j<n→Bd A (g j)) (hA:A+(C+9)*12≤1073741824) {K:Nat} (hK:13≤K):
  cS K a2 (r:Int) v72 K (mp g n) 0=some (mp (fun j=>g j+cf v72.t j*q.f) n)∧∀j,j<n→Bd (A+(C+9)*12) (g j+cf v72.t j*q.f):=by
 have h12:=hl.1
 have hm:=Nat.mul_le_mul_left (C+9) h12
 have key:=aOD (n:=n) hl.2 hi hc (fun k x i=>cS K a2 (r:Int) v72 k x i) (fun k x=>by
  simp only [cS,dF (show¬(v72.t.length:Int)<(v72.t.length:Int) by omega),bV]) (fun k g i A hil hg h1 h2 e he hen=>by
  have hk:=hl.2 _ (zF hil)
  simp only [cS,dT (show(i:Int)<(v72.t.length:Int) by omega),cC,aFx hil,oB,he,eG (f:=g) hen,hq,uF hk hc (by omega) h2,xR (hg e hen) (hk.mul hc) h1 (by omega),t6 (f:=g) hen,oF (i:=i) (by omega)]) v72.t.length 0 K A g (by omega) (by omega) hg (by omega)
 simp only [Int.natCast_zero,List.drop_zero] at key
 exact⟨key.1,fun j hj=>(key.2 j hj).mono (by omega)⟩
theorem aIE {a0:aG} {n C:Nat} {p:Nat→aI} (hl:RsB a0.rows) (hr:InR n a0.rows) (hp:PB' C a0.rows.length p) (f:Nat→Rat) (hn:n≤1000) (hll:a0.rows.length≤1000) {K:Nat} (hK:13≤K):
  ∀(t i k A:Nat),i+t=a0.rows.length→t<k→(∀j,j<n→Bd A (f j+wE a0.rows p i j))→A+(C+9)*24*t≤1073741824→cL K a0 (mp p a0.rows.length) k (mp (fun j=>f j+wE a0.rows p i j) n) (i:Int)=some (mp (fun j=>f j+wE a0.rows p a0.rows.length j) n)
 |0,i,k,A,hi',hk,hg,hA=>by
  obtain⟨k',rfl,_⟩:=bG hk
  have e:i=a0.rows.length:=by omega
  subst e
  simp only [cL,dF (show¬(a0.rows.length:Int)<(a0.rows.length:Int) by omega),bV]
 |t+1,i,k,A,hi',hk,hg,hA=>by
  obtain⟨k',rfl,_⟩:=bG hk
  have hil:i<a0.rows.length:=by omega
  obtain⟨b1,b2,b3⟩:=aO8 hA
  have hm:=sY hil
  obtain⟨p1,p2⟩:=hp i hil
  have hq:=eG (f:=p) hil
  obtain⟨e1,f1⟩:=aLI hq (hl _ hm).1 (hr _ hm).1 p1 hg b1 hK
  obtain⟨e2,f2⟩:=aLl hq (hl _ hm).2 (hr _ hm).2 p2 f1 b2 hK
  have e3:=aKX (n:=n) (l:=a0.rows) (p:=p) (i:=i) f rfl
  have f3:∀j,j<n→Bd (A+(C+9)*12+(C+9)*12) (f j+wE a0.rows p (i+1) j):=fun j hj=>by
   have:=congrArg (fun x=>tA x j) e3
   simp only [aDS hj] at this
   rw [←this];exact f2 j hj
  simp only [cL,dT (show(i:Int)<(a0.rows.length:Int) by omega),cC,aCK hil,oB,e1,jY,e2,e3,jT,oF (i:=i) (by omega)]
  exact aIE hl hr hp f hn hll hK t (i+1) k' _ (by omega) (by omega) f3 b3
theorem aII {a0:aG} {B:Nat} (hd:∀x∈a0.dofs,Bd 8 x.inv) (hn:a0.dofs.length≤1000) (hB:B≤1000000000) (h:Nat→Rat) (hh:∀j,j<a0.dofs.length→Bd B (h j)) (K:Nat):
  ∀(t i k:Nat),i+t=a0.dofs.length→t<k→dO K a0 k (mp (fun j=>if j<i then h j*(aBd a0.dofs j).inv else h j) a0.dofs.length) (i:Int)=some (mp (fun j=>h j*(aBd a0.dofs j).inv) a0.dofs.length)
 |0,i,k,hi,hk=>by
  obtain⟨k',rfl,_⟩:=bG hk
  have e:i=a0.dofs.length:=by omega
  subst e
  simp only [dO,dF (show¬(a0.dofs.length:Int)<(a0.dofs.length:Int) by omega),bV]
  exact congrArg some (cF fun j hj=>if_pos hj)
 |t+1,i,k,hi,hk=>by
  obtain⟨k',rfl,_⟩:=bG hk
  have hil:i<a0.dofs.length:=by omega
  have e1:(fun j=>if j<i then h j*(aBd a0.dofs j).inv else h j) i=h i:=if_neg (by omega)
  have e2:mp (lG (fun j=>if j<i then h j*(aBd a0.dofs j).inv else h j) i (h i*(aBd a0.dofs i).inv)) a0.dofs.length=mp (fun j=>if j<i+1 then h j*(aBd a0.dofs j).inv else h j) a0.dofs.length:=cF fun j hj=>by
   by_cases e:j=i
   ·subst e;rw [bS,if_pos (by omega)]
   ·rw [dW e]
    by_cases hlt:j<i
    ·rw [if_pos hlt,if_pos (by omega)]
    ·rw [if_neg hlt,if_neg (by omega)]
  simp only [dO,dT (show(i:Int)<(a0.dofs.length:Int) by omega),cC,aMs hil,eG (f:=fun j=>if j<i then h j*(aBd a0.dofs j).inv else h j) hil,e1,oB,uF (hh i hil) (hd _ (aCW hil)) (by omega) (by omega),t6 (f:=fun j=>if j<i then h j*(aBd a0.dofs j).inv else h j) hil,e2,oF (i:=i) (by omega)]
  exact aII hd hn hB h hh K t (i+1) k' (by omega) (by omega)
theorem aMC {x:List Rat} (hn:x.length≤60000000000):qN x=some x:=by
 unfold qN
 first|(rw [vY (by simp;omega)];rfl)|(simp [vY (show([]:List Rat).length+x.length≤60000000000 by simp;omega)])
theorem aHc {d:List aF} {f0 v0:List Rat} {f:Nat→Rat} {l:List aA} {p:Nat→aI} {A C:Nat} (hd:∀x∈d,Bd 8 x.inv) (hn:d.length≤1000) (hf:∀j,j<d.length→Bd A (f j)) (hl:RsB l) (hr:InR d.length l) (hll:l.length≤1000) (hp:PB' C l.length p) (hA:A≤400000000) (hC:(C+9)*24*l.length≤400000000) {K:Nat} (hK:2000≤K):
  bO K ⟨d,f0,v0,l⟩ (mp f d.length) (mp p l.length)=some (mp (acc d f l p) d.length):=by
 have z:mp (fun j=>f j+wE l p 0 j) d.length=mp f d.length:=cF fun j _=>Rat.add_zero _
 have hz:∀j,j<d.length→Bd A (f j+wE l p 0 j):=fun j hj=>by show Bd A (f j+0);rw [Rat.add_zero];exact hf j hj
 have s1:=aIE (a0:=⟨d,f0,v0,l⟩) (p:=p) hl hr hp f hn hll (show 13≤K by omega) l.length 0 K A (by simp) (by omega) hz (by omega)
 obtain⟨_,s2⟩:=aEc (p:=p) hl hr hp f hn hll (K:=1013) (by omega) l.length 0 (l.length+1) A (by omega) (by omega) hz (by omega)
 have s3:=aII (a0:=⟨d,f0,v0,l⟩) (B:=900000000) hd hn (by omega) (fun j=>f j+wE l p l.length j) (fun j hj=>(s2 j hj).mono (by omega)) K d.length 0 K (by simp) (by omega)
 simp only at s1 s3
 rw [z] at s1
 have e0:mp (fun j=>if j<0 then(f j+wE l p l.length j)*(aBd d j).inv else f j+wE l p l.length j) d.length=mp (fun j=>f j+wE l p l.length j) d.length:=cF fun j _=>if_neg (by omega)
 rw [e0] at s3
 simp only [Int.natCast_zero] at s1 s3
 have hc:=aMC (x:=mp f d.length) (by rw [cJ];omega)
 simp only [bO,hc,oB,s1,kB,s3,kA]
 rfl
end Go.Proofs.YtcjdedkdoagifaaGreat
set_option linter.unusedVariables false
namespace Go.Proofs.YtcjdedkdoagifaaGreat
/-- Whether a row sticks. -/
def stk (v:List Rat) (r:aA):Bool:=decide (0<r.t.length)&&decide ((rt r.t v).num.sign=0)
def blk (v:List Rat) (l:List aA) (i:Nat):List (Nat×Nat):=(i,0)::(bif stk v (m6 l i) then [(i,1),(i,2),(i,3)] else [])
def zM (v:List Rat) (l:List aA):Nat→List (Nat×Nat)
 |0=>[]
 |i+1=>zM v l i++blk v l i
def off (v:List Rat) (l:List aA):Nat→Nat
 |0=>0
 |i+1=>off v l i+(bif stk v (m6 l i) then 4 else 1)
theorem zX {v:List Rat} {l:List aA}:∀m,(zM v l m).length=off v l m
 |0=>rfl
 |m+1=>by
  show(zM v l m++blk v l m).length=off v l m+_
  rw [List.length_append,zX m]
  unfold blk
  cases stk v (m6 l m)<;>rfl
theorem s0 {v:List Rat} {l:List aA}:∀m,off v l m≤4*m
 |0=>Nat.le_refl _
 |m+1=>by
  have:=s0 (v:=v) (l:=l) m
  show off v l m+_≤_
  cases stk v (m6 l m)
  ·show off v l m+1≤_;omega
  ·show off v l m+4≤_;omega
def vq (v:List Rat) (l:List aA) (r q:Nat):Prop:=q=0∨(stk v (m6 l r)=true∧q≤3)
theorem aEw {v:List Rat} {l:List aA} {r q:Nat} (h:vq v l r q):off v l r+q<off v l (r+1):=by
 show _<off v l r+(bif stk v (m6 l r) then 4 else 1)
 rcases h with h|⟨h,h2⟩
 ·rw [h];cases stk v (m6 l r)<;>simp
 ·rw [h];show _<off v l r+4;omega
theorem aMB {v:List Rat} {l:List aA} {r m:Nat} (h:r≤m):off v l r≤off v l m:=by
 induction m with
 |zero=>
  have:r=0:=by omega
  rw [this];exact Nat.le_refl _
 |succ m ih=>
  by_cases e:r=m+1
  ·rw [e];exact Nat.le_refl _
  ·have h1:=ih (by omega)
   have h2:=aEw (v:=v) (l:=l) (r:=m) (q:=0) (.inl rfl)
   omega
theorem vI {v:List Rat} {l:List aA} {r m q:Nat} (h:r<m) (hq:vq v l r q):off v l r+q<off v l m:=Nat.lt_of_lt_of_le (aEw hq) (aMB h)
theorem aD6 {v:List Rat} {l:List aA} {r q:Nat} (hq:vq v l r q):∀m,r<m→(zM v l m)[off v l r+q]?=some (r,q)
 |0,h=>by omega
 |m+1,h=>by
  show(zM v l m++blk v l m)[off v l r+q]?=some (r,q)
  by_cases e:r=m
  ·subst e
   rw [List.getElem?_append_right (by rw [zX];omega),zX,Nat.add_sub_cancel_left]
   unfold blk
   rcases hq with hq|⟨h1,h2⟩
   ·rw [hq];rfl
   ·rw [h1]
    have:q=0∨q=1∨q=2∨q=3:=by omega
    rcases this with rfl|rfl|rfl|rfl<;>rfl
  ·rw [List.getElem?_append_left (by rw [zX];exact vI (by omega) hq)]
   exact aD6 hq m (by omega)
theorem vG {v:List Rat} {l:List aA}:∀m k,k<off v l m→∃r q,r<m∧vq v l r q∧k=off v l r+q
 |0,k,h=>by exact absurd h (Nat.not_lt_zero _)
 |m+1,k,h=>by
  by_cases e:k<off v l m
  ·obtain⟨r,q,h1,h2,h3⟩:=vG m k e
   exact⟨r,q,by omega,h2,h3⟩
  ·have h':k<off v l m+(bif stk v (m6 l m) then 4 else 1):=h
   refine⟨m,k-off v l m,by omega,?_,by omega⟩
   cases hs:stk v (m6 l m)
   ·rw [hs] at h';have:k<off v l m+1:=h';exact .inl (by omega)
   ·rw [hs] at h';have:k<off v l m+4:=h';exact .inr ⟨hs,by omega⟩
theorem aD7 {v:List Rat} {l:List aA} {r q r' q':Nat} (h:vq v l r q) (h':vq v l r' q') (e:off v l r+q=off v l r'+q'):r=r'∧q=q':=by
 have key:r=r':=by
  rcases Nat.lt_trichotomy r r' with h1|h1|h1
  ·have:=vI h1 h;omega
  ·exact h1
  ·have:=vI h1 h';omega
 subst key
 exact⟨rfl,by omega⟩
def pu (x:Nat×Nat):aE:=⟨(x.1:Int),(x.2:Int)⟩
def ru (x:Nat×Nat):aL:=⟨(x.1:Int),(x.2:Int)⟩
theorem aKe {d:List aF} {f v:List Rat} {l:List aA} {r:aA} (hv:xT 64 v) (hr:RB r) {K:Nat} (hK:13≤K):lR K ⟨d,f,v,l⟩ r=some (rt r.t v).num.sign:=by
 simp only [lR,aKg hv hr.2 hK,oB,o7 (aKj hv hr.2) (by omega)]
theorem aIs {v:List Rat} {r:aA} (hv:xT 64 v) (hr:RB r) {K:Nat} (hK:13≤K):nY K r v=some (rt r.t v).num.sign:=by
 simp only [nY,aIi hv hr.2 hK,oB,o7 (aKj hv hr.2) (by omega)]
theorem apA {α:Type} {xs ys:List α} (h:xs.length+ys.length≤60000000000):oT xs ys=some (xs++ys):=vY (by omega)
theorem aCF {d:List aF} {f v:List Rat} {l:List aA} (hv:xT 64 v) (hl:RsB l) (hn:l.length≤1000) {K:Nat} (hK:13≤K):∀(t i k:Nat),i+t=l.length→t<k→dI K ⟨d,f,v,l⟩ k ((zM v l i).map pu) (i:Int)=some ((zM v l l.length).map pu)
 |0,i,k,hi,hk=>by
  obtain⟨k',rfl,_⟩:=bG hk
  have e:i=l.length:=by omega
  subst e
  simp only [dI,dF (show¬(l.length:Int)<(l.length:Int) by omega),bV]
 |t+1,i,k,hi,hk=>by
  obtain⟨k',rfl,_⟩:=bG hk
  have hil:i<l.length:=by omega
  have hr:=hl _ (sY hil)
  have h4:=s0 (v:=v) (l:=l) i
  have hlen:((zM v l i).map pu).length=off v l i:=by rw [List.length_map,zX]
  have ih:=aCF (d:=d) (f:=f) hv hl hn hK t (i+1) k' (by omega) (by omega)
  have e1:oT ((zM v l i).map pu) [(⟨(i:Int),0⟩:aE)]=some ((zM v l i).map pu++[(⟨(i:Int),0⟩:aE)]):=apA (by rw [hlen];simp;omega)
  have e2:oT ((zM v l i).map pu++[(⟨(i:Int),0⟩:aE)]) [(⟨(i:Int),1⟩:aE),⟨(i:Int),2⟩,⟨(i:Int),3⟩]=some ((zM v l i).map pu++[(⟨(i:Int),0⟩:aE)]++[(⟨(i:Int),1⟩:aE),⟨(i:Int),2⟩,⟨(i:Int),3⟩]):=apA (by rw [List.length_append,hlen];simp;omega)
  have e3:(zM v l (i+1)).map pu=(zM v l i).map pu++(blk v l i).map pu:=List.map_append
  rw [e3] at ih
  simp only [dI,dT (show(i:Int)<(l.length:Int) by omega),cC,aCK hil,oB,e1]
  unfold blk stk at ih
  by_cases h0:0<(m6 l i).t.length
  ·simp only [dT (show(0:Int)<((m6 l i).t.length:Int) by omega),cC,aKe hv hr hK,oB]
   by_cases h1:(rt (m6 l i).t v).num.sign=0
   ·simp only [qT h1,cC,e2,oB,oF (i:=i) (by omega)]
    rw [decide_eq_true h0,decide_eq_true h1] at ih
    rw [List.append_assoc]
    exact ih
   ·simp only [qF h1,bV,oF (i:=i) (by omega),oB]
    rw [decide_eq_false h1,Bool.and_false] at ih
    exact ih
  ·simp only [dF (show¬(0:Int)<((m6 l i).t.length:Int) by omega),bV,oF (i:=i) (by omega),oB]
   rw [decide_eq_false h0,Bool.false_and] at ih
   exact ih
theorem aBj {d:List aF} {f v:List Rat} {l:List aA} (hv:xT 64 v) (hl:RsB l) (hn:l.length≤1000) {K:Nat} (hK:2000≤K):kN K ⟨d,f,v,l⟩=some ((zM v l l.length).map pu):=by
 have:=aCF (d:=d) (f:=f) hv hl hn (show 13≤K by omega) l.length 0 K (by omega) (by omega)
 simp only [Int.natCast_zero] at this
 simp only [kN,show([]:List aE)=(zM v l 0).map pu from rfl,this,oB,mJ]
theorem aB6 {v:List Rat} {l:List aA} (hv:xT 64 v) (hl:RsB l) (hn:l.length≤1000) {K:Nat} (hK:13≤K):∀(t i k:Nat),i+t=l.length→t<k→dL K v l k ((zM v l i).map ru) (i:Int)=some ((zM v l l.length).map ru)
 |0,i,k,hi,hk=>by
  obtain⟨k',rfl,_⟩:=bG hk
  have e:i=l.length:=by omega
  subst e
  simp only [dL,dF (show¬(l.length:Int)<(l.length:Int) by omega),bV]
 |t+1,i,k,hi,hk=>by
  obtain⟨k',rfl,_⟩:=bG hk
  have hil:i<l.length:=by omega
  have hr:=hl _ (sY hil)
  have h4:=s0 (v:=v) (l:=l) i
  have hlen:((zM v l i).map ru).length=off v l i:=by rw [List.length_map,zX]
  have ih:=aB6 hv hl hn hK t (i+1) k' (by omega) (by omega)
  have e1:oT ((zM v l i).map ru) [(⟨(i:Int),0⟩:aL)]=some ((zM v l i).map ru++[(⟨(i:Int),0⟩:aL)]):=apA (by rw [hlen];simp;omega)
  have e2:oT ((zM v l i).map ru++[(⟨(i:Int),0⟩:aL)]) [(⟨(i:Int),1⟩:aL),⟨(i:Int),2⟩,⟨(i:Int),3⟩]=some ((zM v l i).map ru++[(⟨(i:Int),0⟩:aL)]++[(⟨(i:Int),1⟩:aL),⟨(i:Int),2⟩,⟨(i:Int),3⟩]):=apA (by rw [List.length_append,hlen];simp;omega)
  have e3:(zM v l (i+1)).map ru=(zM v l i).map ru++(blk v l i).map ru:=List.map_append
  rw [e3] at ih
  simp only [dL,dT (show(i:Int)<(l.length:Int) by omega),cC,aCK hil,oB,e1]
  unfold blk stk at ih
  by_cases h0:0<(m6 l i).t.length
  ·simp only [dT (show(0:Int)<((m6 l i).t.length:Int) by omega),cC,aIs hv hr hK,oB]
   by_cases h1:(rt (m6 l i).t v).num.sign=0
   ·simp only [qT h1,cC,e2,oB,oF (i:=i) (by omega)]
    rw [decide_eq_true h0,decide_eq_true h1] at ih
    rw [List.append_assoc]
    exact ih
   ·simp only [qF h1,bV,oF (i:=i) (by omega),oB]
    rw [decide_eq_false h1,Bool.and_false] at ih
    exact ih
  ·simp only [dF (show¬(0:Int)<((m6 l i).t.length:Int) by omega),bV,oF (i:=i) (by omega),oB]
   rw [decide_eq_false h0,Bool.false_and] at ih
   exact ih
theorem yP {v:List Rat} {l:List aA} (hv:xT 64 v) (hl:RsB l) (hn:l.length≤1000) {K:Nat} (hK:2000≤K):gK K v l=some ((zM v l l.length).map ru):=by
 have:=aB6 hv hl hn (show 13≤K by omega) l.length 0 K (by omega) (by omega)
 simp only [Int.natCast_zero] at this
 simp only [gK,show([]:List aL)=(zM v l 0).map ru from rfl,this,oB,mE]
theorem rdU {v:List Rat} {l:List aA} {m r q:Nat} (hq:vq v l r q) (hr:r<m):bU ((zM v l m).map pu) ((off v l r+q:Nat):Int)=some ⟨(r:Int),(q:Int)⟩:=rdG (by rw [List.getElem?_map,aD6 hq m hr];rfl)
theorem aRl {v:List Rat} {l:List aA} {m r q:Nat} (hq:vq v l r q) (hr:r<m):bU ((zM v l m).map ru) ((off v l r+q:Nat):Int)=some ⟨(r:Int),(q:Int)⟩:=rdG (by rw [List.getElem?_map,aD6 hq m hr];rfl)
theorem uT {v:List Rat} {l:List aA} {m:Nat}:((zM v l m).map pu).length=off v l m:=by rw [List.length_map,zX]
theorem aBz {v:List Rat} {l:List aA} {m:Nat}:((zM v l m).map ru).length=off v l m:=by rw [List.length_map,zX]
end Go.Proofs.YtcjdedkdoagifaaGreat
set_option linter.unusedVariables false
namespace Go.Proofs.YtcjdedkdoagifaaGreat
instance vqDec {v:List Rat} {l:List aA} {r q:Nat}:Decidable (vq v l r q):=by unfold vq;infer_instance
theorem vq3 {v:List Rat} {l:List aA} {r q:Nat} (h:vq v l r q):q≤3:=by
 rcases h with h|h
 ·omega
 ·exact h.2
def ow (v:List Rat) (l:List aA) (z:Nat→Rat) (i k q:Nat):Rat:=if vq v l i q∧off v l i+q<k then z (off v l i+q) else 0
theorem aNm {v:List Rat} {l:List aA} {z:Nat→Rat} {i k r q0:Nat} (hq:vq v l r q0) (hk:k=off v l r+q0):(r=i→mp (lG (ow v l z i k) q0 (z k)) 4=mp (ow v l z i (k+1)) 4)∧(r≠i→mp (ow v l z i k) 4=mp (ow v l z i (k+1)) 4):=by
 refine⟨fun e=>cF fun q _=>?_,fun e=>cF fun q _=>?_⟩
 ·subst e
  by_cases h:q=q0
  ·subst h
   rw [bS]
   unfold ow
   rw [if_pos ⟨hq,by omega⟩,←hk]
  ·rw [dW h]
   unfold ow
   by_cases h2:vq v l r q∧off v l r+q<k
   ·rw [if_pos h2,if_pos ⟨h2.1,by omega⟩]
   ·rw [if_neg h2,if_neg fun h3=>h2 ⟨h3.1,by omega⟩]
 ·unfold ow
  by_cases h2:vq v l i q∧off v l i+q<k
  ·rw [if_pos h2,if_pos ⟨h2.1,by omega⟩]
  ·rw [if_neg h2,if_neg fun h3=>?_]
   have:off v l i+q=off v l r+q0:=by
    have:=h3.2
    by_cases e2:off v l i+q<k
    ·exact absurd ⟨h3.1,e2⟩ h2
    ·omega
   exact e (aD7 h3.1 hq this).1.symm
theorem aJJ {v:List Rat} {l:List aA} {m:Nat} {z:Nat→Rat} (hm:m≤1000) (i:Nat) (K:Nat):∀(t k fu:Nat),k+t=off v l m→t<fu→fB K (mp z (off v l m)) ((zM v l m).map ru) (i:Int) fu (mp (ow v l z i k) 4) (k:Int)=some (mp (ow v l z i (off v l m)) 4)
 |0,k,fu,hi,hk=>by
  obtain⟨k',rfl,_⟩:=bG hk
  have e:k=off v l m:=by omega
  subst e
  simp only [fB,aBz,dF (show¬(off v l m:Int)<(off v l m:Int) by omega),bV]
 |t+1,k,fu,hi,hk=>by
  obtain⟨k',rfl,_⟩:=bG hk
  have hkl:k<off v l m:=by omega
  have h4:=s0 (v:=v) (l:=l) m
  obtain⟨r,q,h1,h2,h3⟩:=vG m k hkl
  have hq3:=vq3 h2
  have hu:=aRl (m:=m) h2 h1
  rw [←h3] at hu
  obtain⟨s1,s2⟩:=aNm (z:=z) (i:=i) h2 h3
  have ih:=aJJ (v:=v) (l:=l) (z:=z) hm i K t (k+1) k' (by omega) (by omega)
  simp only [fB,aBz,dT (show(k:Int)<(off v l m:Int) by omega),cC,hu,oB]
  by_cases e:r=i
  ·simp only [qT (show(r:Int)=(i:Int) by omega),cC,eG (f:=z) hkl,eG (f:=ow v l z i k) (n:=4) (i:=q) (by omega),oB,t6 (f:=ow v l z i k) (n:=4) (i:=q) (by omega),s1 e,oF (i:=k) (by omega)]
   exact ih
  ·simp only [qF (show(r:Int)≠(i:Int) by omega),bV,oF (i:=k) (by omega),oB,s2 e]
   exact ih
def pz (v:List Rat) (l:List aA) (z:Nat→Rat) (i:Nat):aI:=
 if(m6 l i).t.length=0 then⟨z (off v l i),0⟩
 else if(rt (m6 l i).t v).num.sign≠0 then⟨z (off v l i),(((-(rt (m6 l i).t v).num.sign:Int):Rat)/((1:Int):Rat))*((m6 l i).mu*z (off v l i))⟩
 else⟨z (off v l i),z (off v l i+1)-z (off v l i+2)⟩
theorem aJI (x:Rat):-1≤x.num.sign∧x.num.sign≤1:=by
 rcases Int.lt_trichotomy x.num 0 with h|h|h
 ·rw [Int.sign_eq_neg_one_of_neg h];omega
 ·rw [h];decide
 ·rw [Int.sign_eq_one_of_pos h];omega
theorem qsg (x:Rat):qof (-x.num.sign) 1=some (((-x.num.sign:Int):Rat)/((1:Int):Rat))∧Bd 2 (((-x.num.sign:Int):Rat)/((1:Int):Rat)):=by
 have:=aJI x
 obtain⟨r,h1,h2,h3⟩:=aCp (k:=2) (p:=-x.num.sign) (q:=1) (by omega) (by omega) (by decide) (by omega)
 rw [←h2];exact⟨h1,h3⟩
theorem aF6 {v:List Rat} {l:List aA} {z:Nat→Rat} {C:Nat} (hz:∀k,k<off v l l.length→Bd C (z k)) (hl:RsC l):PB' (2*C+11) l.length (pz v l z):=fun i hi=>by
 have h0:=hz _ (vI (v:=v) (l:=l) (r:=i) (q:=0) hi (.inl rfl))
 rw [Nat.add_zero] at h0
 have hm:=(hl _ (sY hi)).2
 unfold pz
 split
 ·exact⟨h0.mono (by omega),Bd.zero.mono (by omega)⟩
 ·rename_i ht
  split
  ·exact⟨h0.mono (by omega),((qsg _).2.mul (hm.mul h0)).mono (by omega)⟩
  ·rename_i hs
   have hst:stk v (m6 l i)=true:=by
    unfold stk
    rw [decide_eq_true (show 0<(m6 l i).t.length by omega),decide_eq_true (show(rt (m6 l i).t v).num.sign=0 from Decidable.of_not_not hs)];rfl
   exact⟨h0.mono (by omega),((hz _ (vI (q:=1) hi (.inr ⟨hst,by omega⟩))).sub (hz _ (vI (q:=2) hi (.inr ⟨hst,by omega⟩)))).mono (by omega)⟩
theorem aE4 {v:List Rat} {l:List aA} {z:Nat→Rat} {C:Nat} (hv:xT 64 v) (hl:RsC l) (hz:∀k,k<off v l l.length→Bd C (z k)) (hC:C≤500000000) (hn:l.length≤1000) {K:Nat} (hK:5000≤K):∀(t i k:Nat),i+t=l.length→t<k→fC K v l (mp z (off v l l.length)) ((zM v l l.length).map ru) k (mp (pz v l z) i) (i:Int)=some (mp (pz v l z) l.length)
 |0,i,k,hi,hk=>by
  obtain⟨k',rfl,_⟩:=bG hk
  have e:i=l.length:=by omega
  subst e
  simp only [fC,dF (show¬(l.length:Int)<(l.length:Int) by omega),bV]
 |t+1,i,k,hi,hk=>by
  obtain⟨k',rfl,_⟩:=bG hk
  have hil:i<l.length:=by omega
  have h4:=s0 (v:=v) (l:=l) l.length
  have hr:=hl _ (sY hil)
  have ih:=aE4 hv hl hz hC hn hK t (i+1) k' (by omega) (by omega)
  have e0:mp (ow v l z i 0) 4=mp (fun _=>(0:Rat)) 4:=cF fun q _=>if_neg (by omega)
  have e1:=aJJ (v:=v) (l:=l) (m:=l.length) (z:=z) hn i K (off v l l.length) 0 K (by omega) (by omega)
  rw [e0] at e1
  simp only [Int.natCast_zero] at e1
  have hmk:xI 4 (0:Rat)=some (mp (fun _=>(0:Rat)) 4):=aBW (n:=4) (by omega)
  have l0:=vI (v:=v) (l:=l) (m:=l.length) (r:=i) (q:=0) hil (.inl rfl)
  have o0:ow v l z i (off v l l.length) 0=z (off v l i):=by unfold ow;rw [if_pos ⟨.inl rfl,l0⟩,Nat.add_zero]
  rw [Nat.add_zero] at l0
  have r0:bU (mp (ow v l z i (off v l l.length)) 4) 0=some (z (off v l i)):=by rw [←o0];exact eG (i:=0) (by omega)
  have hF:pW K (m6 l i) v (mp (ow v l z i (off v l l.length)) 4)=some (pz v l z i):=by
   simp only [pW,aIs hv hr.1 (show 13≤K by omega),oB,r0]
   unfold pz
   by_cases ht:(m6 l i).t.length=0
   ·simp only [qT (show((m6 l i).t.length:Int)=0 by omega),cC,if_pos ht]
   ·simp only [qF (show((m6 l i).t.length:Int)≠0 by omega),bV,if_neg ht]
    by_cases hs:(rt (m6 l i).t v).num.sign=0
    ·have hst:stk v (m6 l i)=true:=by
      unfold stk;rw [decide_eq_true (show 0<(m6 l i).t.length by omega),decide_eq_true hs];rfl
     have l1:=vI (v:=v) (l:=l) (m:=l.length) (r:=i) (q:=1) hil (.inr ⟨hst,by omega⟩)
     have l2:=vI (v:=v) (l:=l) (m:=l.length) (r:=i) (q:=2) hil (.inr ⟨hst,by omega⟩)
     have r1:bU (mp (ow v l z i (off v l l.length)) 4) 1=some (z (off v l i+1)):=by
      have:ow v l z i (off v l l.length) 1=z (off v l i+1):=if_pos ⟨.inr ⟨hst,by omega⟩,l1⟩
      rw [←this];exact eG (i:=1) (by omega)
     have r2:bU (mp (ow v l z i (off v l l.length)) 4) 2=some (z (off v l i+2)):=by
      have:ow v l z i (off v l l.length) 2=z (off v l i+2):=if_pos ⟨.inr ⟨hst,by omega⟩,l2⟩
      rw [←this];exact eG (i:=2) (by omega)
     simp only [nF hs,bV,r1,r2,oB,aAH (hz _ l1) (hz _ l2) (by omega) (by omega),if_neg (show¬((rt (m6 l i).t v).num.sign≠0) from fun h=>h hs)]
    ·have hb:=aJI (rt (m6 l i).t v)
     have hz0:=hz _ l0
     simp only [nT hs,cC,lL (show -9223372036854775808≤-(rt (m6 l i).t v).num.sign∧_ by omega),oB,(qsg _).1,uF hr.2 hz0 (by omega) (by omega),uF (qsg (rt (m6 l i).t v)).2 (hr.2.mul hz0) (by omega) (by omega),if_pos hs]
  simp only [fC,dT (show(i:Int)<(l.length:Int) by omega),cC,hmk,oB,e1,oM,aCK hil,hF,apM (g:=pz v l z) (i:=i) (by omega),oF (i:=i) (by omega)]
  exact ih
theorem aDu {v:List Rat} {l:List aA} {z:Nat→Rat} {C:Nat} (hv:xT 64 v) (hl:RsC l) (hz:∀k,k<off v l l.length→Bd C (z k)) (hC:C≤500000000) (hn:l.length≤1000) {K:Nat} (hK:5000≤K):kJ K v l (mp z (off v l l.length))=some (mp (pz v l z) l.length):=by
 have:=aE4 hv hl hz hC hn hK l.length 0 K (by omega) (by omega)
 simp only [Int.natCast_zero,aAO] at this
 simp only [kJ,yP hv (fun r h=>(hl r h).1) hn (show 2000≤K by omega),oB,this,oJ]
def uk (v:List Rat) (l:List aA) (k:Nat):Nat×Nat:=(zM v l l.length).getD k (0,0)
theorem aKh {v:List Rat} {l:List aA} {r q:Nat} (hq:vq v l r q) (hr:r<l.length):uk v l (off v l r+q)=(r,q):=by
 unfold uk
 rw [List.getD_eq_getElem?_getD,aD6 hq _ hr];rfl
def rv (v:List Rat) (l:List aA) (a:List Rat) (k:Nat):Rat:=
 if(uk v l k).2=0 then rt (m6 l (uk v l k).1).j a
 else if(uk v l k).2=1 then rt (m6 l (uk v l k).1).t a
 else if(uk v l k).2=2 then -(rt (m6 l (uk v l k).1).t a)
 else 0
def zv (v:List Rat) (l:List aA) (z:Nat→Rat) (k:Nat):Rat:=
 if(uk v l k).2=0 then 0
 else if(uk v l k).2=1 then z (k+2)
 else if(uk v l k).2=2 then z (k+1)
 else(m6 l (uk v l k).1).mu*z (k-3)-(z (k-2)+z (k-1))
def vl (v:List Rat) (l:List aA) (a:List Rat) (z:Nat→Rat) (k:Nat):Rat:=rv v l a k+zv v l z k
theorem aE2 {v a:List Rat} {l:List aA} {z:Nat→Rat} {C B:Nat} (hl:RsC l) (ha:xT B a) (hB:B≤10000000) (hz:∀k,k<off v l l.length→Bd C (z k)) (hC:C≤100000000) (hn:l.length≤1000) {K:Nat} (hK:13≤K):∀(t k fu:Nat),k+t=off v l l.length→t<fu→dG K l (mp z (off v l l.length)) a ((zM v l l.length).map ru) fu (mp (vl v l a z) k) (k:Int)=some (mp (vl v l a z) (off v l l.length))
 |0,k,fu,hi,hk=>by
  obtain⟨k',rfl,_⟩:=bG hk
  have e:k=off v l l.length:=by omega
  subst e
  simp only [dG,aBz,dF (show¬(off v l l.length:Int)<(off v l l.length:Int) by omega),bV]
 |t+1,k,fu,hi,hk=>by
  obtain⟨k',rfl,_⟩:=bG hk
  have hkl:k<off v l l.length:=by omega
  have h4:=s0 (v:=v) (l:=l) l.length
  obtain⟨r,q,h1,h2,h3⟩:=vG l.length k hkl
  have hq3:=vq3 h2
  have hu:=aRl (m:=l.length) h2 h1
  rw [←h3] at hu
  have huk:=aKh h2 h1
  rw [←h3] at huk
  have hr:=hl _ (sY h1)
  have ih:=aE2 hl ha hB hz hC hn hK t (k+1) k' (by omega) (by omega)
  have bj:=aBm ha hr.1.1
  have bt:=aBm ha hr.1.2
  have ap:=apM (g:=vl v l a z) (i:=k) (by omega)
  simp only [dG,aBz,dT (show(k:Int)<(off v l l.length:Int) by omega),cC,hu,oB,aCK h1]
  have hcase:q=0∨q=1∨q=2∨q=3:=by omega
  rcases hcase with rfl|rfl|rfl|rfl
  ·have e:vl v l a z k=rt (m6 l r).j a:=by unfold vl rv zv;rw [huk];exact Rat.add_zero _
   rw [e] at ap
   simp only [qT (show((0:Nat):Int)=0 from rfl),cC,aBN ha (by omega) hr.1.1 hK,oB,ap,oF (i:=k) (by omega)]
   exact ih
  ·have hst:stk v (m6 l r)=true:=by rcases h2 with h|h;omega;exact h.1
   have l3:=vI (v:=v) (l:=l) (m:=l.length) (r:=r) (q:=3) h1 (.inr ⟨hst,by omega⟩)
   have e:vl v l a z k=rt (m6 l r).t a+z (k+2):=by unfold vl rv zv;rw [huk];rfl
   rw [e] at ap
   have c2:aY ((k:Int)+2)=some ((k+2:Nat):Int):=by rw [lL (by omega)];rfl
   simp only [qF (show((1:Nat):Int)≠0 by omega),qT (show((1:Nat):Int)=1 from rfl),bV,cC,aBN ha (by omega) hr.1.2 hK,oB,c2,eG (f:=z) (n:=off v l l.length) (i:=k+2) (by omega),xR bt (hz (k+2) (by omega)) (by omega) (by omega),ap,oF (i:=k) (by omega)]
   exact ih
  ·have hst:stk v (m6 l r)=true:=by rcases h2 with h|h;omega;exact h.1
   have l3:=vI (v:=v) (l:=l) (m:=l.length) (r:=r) (q:=3) h1 (.inr ⟨hst,by omega⟩)
   have e:vl v l a z k=z (k+1)-rt (m6 l r).t a:=by
    unfold vl rv zv;rw [huk]
    show -(rt (m6 l r).t a)+z (k+1)=_
    rw [Rat.add_comm,Rat.sub_eq_add_neg]
   rw [e] at ap
   simp only [qF (show((2:Nat):Int)≠0 by omega),qF (show((2:Nat):Int)≠1 by omega),qT (show((2:Nat):Int)=2 from rfl),bV,cC,oF (i:=k) (by omega),oB,eG (f:=z) (n:=off v l l.length) (i:=k+1) (by omega),aBN ha (by omega) hr.1.2 hK,aAH (hz (k+1) (by omega)) bt (by omega) (by omega),ap]
   exact ih
  ·have e:vl v l a z k=(m6 l r).mu*z (k-3)-(z (k-2)+z (k-1)):=by unfold vl rv zv;rw [huk];exact Rat.zero_add _
   rw [e] at ap
   have c1:aY ((k:Int)-3)=some ((k-3:Nat):Int):=by rw [lL (by omega)];congr 1;omega
   have c2:aY ((k:Int)-2)=some ((k-2:Nat):Int):=by rw [lL (by omega)];congr 1;omega
   have c3:aY ((k:Int)-1)=some ((k-1:Nat):Int):=by rw [lL (by omega)];congr 1;omega
   have z1:=hz (k-3) (by omega)
   have z2:=hz (k-2) (by omega)
   have z3:=hz (k-1) (by omega)
   simp only [qF (show((3:Nat):Int)≠0 by omega),qF (show((3:Nat):Int)≠1 by omega),qF (show((3:Nat):Int)≠2 by omega),bV,c1,c2,c3,oB,eG (f:=z) (n:=off v l l.length) (i:=k-3) (by omega),eG (f:=z) (n:=off v l l.length) (i:=k-2) (by omega),eG (f:=z) (n:=off v l l.length) (i:=k-1) (by omega),uF hr.2 z1 (by omega) (by omega),xR z2 z3 (by omega) (by omega),aAH (hr.2.mul z1) (z2.add z3) (by omega) (by omega),ap,oF (i:=k) (by omega)]
   exact ih
theorem aRJ {v a:List Rat} {l:List aA} {z:Nat→Rat} {C B:Nat} (hl:RsC l) (ha:xT B a) (hz:∀k,k<off v l l.length→Bd C (z k)) {k:Nat} (hk:k<off v l l.length):Bd (1+(B+9)*12+(3*C+20)) (vl v l a z k):=by
 obtain⟨r,q,h1,h2,h3⟩:=vG l.length k hk
 have hq3:=vq3 h2
 have huk:=aKh h2 h1
 rw [←h3] at huk
 have hr:=hl _ (sY h1)
 have bj:=aBm ha hr.1.1
 have bt:=aBm ha hr.1.2
 have hC:∀k,k<off v l l.length→Bd (3*C+19) (z k):=fun k hk=>(hz k hk).mono (by omega)
 have b1:Bd (1+(B+9)*12) (rv v l a k):=by
  unfold rv;rw [huk]
  split
  ·exact bj
  ·split
   ·exact bt
   ·split
    ·exact bt.neg
    ·exact Bd.zero.mono (by omega)
 have b2:Bd (3*C+19) (zv v l z k):=by
  unfold zv;rw [huk]
  have hcase:q=0∨q=1∨q=2∨q=3:=by omega
  rcases hcase with rfl|rfl|rfl|rfl
  ·exact Bd.zero.mono (by omega)
  ·have hst:stk v (m6 l r)=true:=by rcases h2 with h|h;omega;exact h.1
   have l3:=vI (v:=v) (l:=l) (m:=l.length) (r:=r) (q:=3) h1 (.inr ⟨hst,by omega⟩)
   exact hC _ (by omega)
  ·have hst:stk v (m6 l r)=true:=by rcases h2 with h|h;omega;exact h.1
   have l3:=vI (v:=v) (l:=l) (m:=l.length) (r:=r) (q:=3) h1 (.inr ⟨hst,by omega⟩)
   exact hC _ (by omega)
  ·exact((hr.2.mul (hz (k-3) (by omega))).sub ((hz (k-2) (by omega)).add (hz (k-1) (by omega)))).mono (by omega)
 exact(b1.add b2).mono (by omega)
end Go.Proofs.YtcjdedkdoagifaaGreat
set_option linter.unusedVariables false
namespace Go.Proofs.YtcjdedkdoagifaaGreat
theorem aLC {d:List aF} {f:Nat→Rat} {v:List Rat} {l:List aA} {z:Nat→Rat} {A C:Nat} (hd:∀x∈d,Bd 8 x.inv) (hn:d.length≤100) (hf:∀j,j<d.length→Bd A (f j)) (hv:xT 64 v) (hl:RsC l) (hr:InR d.length l) (hll:l.length≤100) (hz:∀k,k<off v l l.length→Bd C (z k)) (hA:A≤1000000) (hC:(2*C+20)*24*l.length≤5000000) (hC2:C≤100000000) {K:Nat} (hK:5000≤K):
  kK K d (mp f d.length) v l (mp z (off v l l.length))=some (mp (vl v l (mp (acc d f l (pz v l z)) d.length) z) (off v l l.length)):=by
 have hp:=aF6 hz hl
 have hrb:RsB l:=fun r h=>(hl r h).1
 have hcl:(2*C+11+9)*24*l.length≤5000000:=hC
 have e1:=aDu hv hl hz (by omega) (by omega) hK
 have e2:=aGW (p:=pz v l z) hd (show d.length≤1000 by omega) hf hrb hr (by omega) hp (by omega) (by omega) (show 2000≤K by omega)
 have hb:=aFa (p:=pz v l z) hd hf hrb hr hp (by omega) (by omega) (by omega) (by omega)
 have e3:=aE2 (z:=z) hl hb (by unfold aJu;omega) hz hC2 (show l.length≤1000 by omega) (show 13≤K by omega) (off v l l.length) 0 K (by omega) (by have:=s0 (v:=v) (l:=l) l.length;omega)
 simp only [Int.natCast_zero,aAO] at e3
 simp only [kK,e1,oB,e2,yP hv hrb (show l.length≤1000 by omega) (show 2000≤K by omega),e3,oN]
theorem aOC {f g:Nat→Rat} {n:Nat} (t:aC):trm (mp (fun j=>f j+g j) n) t=trm (mp f n) t+trm (mp g n) t:=by
 unfold trm
 rw [cJ,cJ,cJ]
 by_cases h:0≤t.dof∧t.dof<(n:Int)
 ·rw [decide_eq_true h]
  show t.k*tA _ _=t.k*tA _ _+t.k*tA _ _
  rw [aDS (by omega),aDS (by omega),aDS (by omega),Rat.mul_add]
 ·rw [decide_eq_false h];exact(Rat.add_zero 0).symm
theorem add4 (x y a b:Rat):x+y+(a+b)=x+a+(y+b):=by
 rw [Rat.add_assoc,←Rat.add_assoc y,Rat.add_comm y a,Rat.add_assoc a,←Rat.add_assoc]
theorem aJ0 {f g:Nat→Rat} {n:Nat}:∀(l:List aC) (x y:Rat),rtf (mp (fun j=>f j+g j) n) l (x+y)=rtf (mp f n) l x+rtf (mp g n) l y
 |[],x,y=>rfl
 |t::l,x,y=>by
  show rtf _ l (x+y+trm _ t)=rtf _ l (x+trm _ t)+rtf _ l (y+trm _ t)
  rw [aOC,←aJ0 l,add4]
theorem aJf {f g:Nat→Rat} {n:Nat} (l:List aC):rt l (mp (fun j=>f j+g j) n)=rt l (mp f n)+rt l (mp g n):=by
 have:=aJ0 (f:=f) (g:=g) (n:=n) l 0 0
 rwa [Rat.add_zero] at this
theorem aQq {v:List Rat} {l:List aA} {f g:Nat→Rat} {n k:Nat}:rv v l (mp (fun j=>f j+g j) n) k=rv v l (mp f n) k+rv v l (mp g n) k:=by
 unfold rv
 split
 ·exact aJf _
 ·split
  ·exact aJf _
  ·split
   ·rw [aJf,Rat.neg_add]
   ·exact(Rat.add_zero 0).symm
theorem aEV {n:Nat}:∀(l:List aC) (x:Rat),rtf (mp (fun _=>(0:Rat)) n) l x=x
 |[],x=>rfl
 |t::l,x=>by
  show rtf _ l (x+trm _ t)=x
  have:trm (mp (fun _=>(0:Rat)) n) t=0:=by
   unfold trm
   rw [cJ]
   by_cases h:0≤t.dof∧t.dof<(n:Int)
   ·rw [decide_eq_true h];show t.k*tA _ _=0;rw [aDS (by omega),Rat.mul_zero]
   ·rw [decide_eq_false h];rfl
  rw [this,Rat.add_zero]
  exact aEV l x
theorem aOs {v:List Rat} {l:List aA} {n k:Nat}:rv v l (mp (fun _=>(0:Rat)) n) k=0:=by
 unfold rv rt
 rw [aEV,aEV]
 split
 ·rfl
 ·split
  ·rfl
  ·split<;>rfl
def p0:Nat→aI:=fun _=>⟨0,0⟩
def z0:Nat→Rat:=fun _=>0
theorem aDJ {l:List aA} {j:Nat}:∀m,wE l p0 m j=0
 |0=>rfl
 |m+1=>by
  show wE l p0 m j+rcq l p0 m j=0
  rw [aDJ m]
  unfold rcq
  show(0:Rat)+(cf _ _*0+cf _ _*0)=0
  rw [Rat.mul_zero,Rat.mul_zero,Rat.add_zero,Rat.add_zero]
theorem aK9 {d:List aF} {f:Nat→Rat} {l:List aA} {p:Nat→aI}:acc d f l p=fun j=>acc d f l p0 j+acc d z0 l p j:=by
 funext j
 unfold acc z0
 rw [aDJ,Rat.add_zero,Rat.zero_add,←Rat.add_mul]
theorem aEB {l:List aA} {p q:Nat→aI} {j:Nat}:∀m,(∀r,r<m→p r=q r)→wE l p m j=wE l q m j
 |0,_=>rfl
 |m+1,h=>by
  show wE l p m j+rcq l p m j=wE l q m j+rcq l q m j
  rw [aEB m fun r hr=>h r (by omega)]
  unfold rcq
  rw [h m (by omega)]
theorem aF7 {d:List aF} {f:Nat→Rat} {l:List aA} {p q:Nat→aI} (h:∀r,r<l.length→p r=q r):acc d f l p=acc d f l q:=by
 funext j
 unfold acc
 rw [aEB _ h]
theorem aLV {d:List aF} {l:List aA}:acc d z0 l p0=fun _=>0:=by
 funext j
 unfold acc z0
 rw [aDJ,Rat.add_zero,Rat.zero_mul]
theorem aKM {v:List Rat} {l:List aA} {i:Nat}:pz v l z0 i=⟨0,0⟩:=by
 unfold pz z0
 split
 ·rfl
 ·split
  ·rw [Rat.mul_zero,Rat.mul_zero]
  ·rw [Rat.sub_self]
theorem aN0 {v:List Rat} {l:List aA} {k:Nat}:zv v l z0 k=0:=by
 unfold zv z0
 split
 ·rfl
 ·split
  ·rfl
  ·split
   ·rfl
   ·rw [Rat.mul_zero,Rat.add_zero,Rat.sub_self]
def ek (k:Nat):Nat→Rat:=lG z0 k 1
def Mf (d:List aF) (v:List Rat) (l:List aA) (i k:Nat):Rat:=rv v l (mp (acc d z0 l (pz v l (ek k))) d.length) i+zv v l (ek k) i
def qf (d:List aF) (f:Nat→Rat) (v:List Rat) (l:List aA) (i:Nat):Rat:=rv v l (mp (acc d f l p0) d.length) i
theorem aEd {d:List aF} {f:Nat→Rat} {v:List Rat} {l:List aA} {n i:Nat}:vl v l (mp (acc d f l (pz v l z0)) d.length) z0 i=qf d f v l i:=by
 unfold vl qf
 rw [aN0,Rat.add_zero,aF7 (q:=p0) fun r _=>aKM]
theorem aI5 {d:List aF} {f:Nat→Rat} {v:List Rat} {l:List aA} {k i:Nat}:vl v l (mp (acc d f l (pz v l (ek k))) d.length) (ek k) i-qf d f v l i=Mf d v l i k:=by
 unfold vl qf Mf
 rw [aK9,aQq]
 generalize rv v l (mp (acc d f l p0) d.length) i=a
 generalize rv v l (mp (acc d z0 l (pz v l (ek k))) d.length) i=b
 generalize zv v l (ek k) i=c
 rw [Rat.add_assoc,Rat.sub_eq_add_neg,Rat.add_comm a,Rat.add_assoc,Rat.add_neg_cancel,Rat.add_zero]
theorem aH2 {k j:Nat}:Bd 1 (ek k j):=by
 unfold ek lG z0
 split
 ·constructor<;>decide
 ·exact Bd.zero
structure ScB (d:List aF) (f v:List Rat) (l:List aA):Prop where
 sb:SB d f v l
 n8:d.length≤12
 m8:l.length≤8
 ir:InR d.length l
 fl:f.length=d.length
theorem aNV {d:List aF} {f v:List Rat} {l:List aA} (h:SB d f v l) (hm:l.length≤8) (hf:zB d f v l=true):ScB d f v l:=by
 unfold zB at hf
 rw [Bool.and_eq_true,Bool.and_eq_true] at hf
 have h1:=of_decide_eq_true hf.1.1
 refine⟨h,h1.1,hm,fun r hr=>?_,h1.2.1⟩
 have h2:=List.all_eq_true.1 hf.2 r hr
 unfold wT at h2
 rw [Bool.and_eq_true,Bool.and_eq_true,Bool.and_eq_true] at h2
 exact⟨aMW h2.1.1.1,aMW h2.1.1.2⟩
theorem ScB.fbd {d:List aF} {f v:List Rat} {l:List aA} (h:ScB d f v l):∀j,j<d.length→Bd 64 (tA f j):=fun j hj=>h.sb.sf _ (xM (by rw [h.fl];exact hj))
theorem ScB.fmp {d:List aF} {f v:List Rat} {l:List aA} (h:ScB d f v l):f=mp (tA f) d.length:=by rw [←h.fl];exact aJA f
theorem bd8 {C m:Nat} (hC:C≤1) (hm:m≤8):(2*C+20)*24*m≤5000000:=Nat.le_trans (Nat.mul_le_mul (Nat.mul_le_mul_right 24 (show 2*C+20≤22 by omega)) hm) (by decide)
theorem ScB.vals {d:List aF} {f v:List Rat} {l:List aA} (h:ScB d f v l) {z:Nat→Rat} (hz:∀k,Bd 1 (z k)) {K:Nat} (hK:5000≤K):kK K d f v l (mp z (off v l l.length))=some (mp (vl v l (mp (acc d (tA f) l (pz v l z)) d.length) z) (off v l l.length)):=by
 have h8:=h.m8
 have hn:=h.n8
 have:=aLC (z:=z) h.sb.sd (by omega) h.fbd h.sb.sv h.sb.sl h.ir (by omega) (fun k _=>hz k) (by omega) (bd8 (Nat.le_refl 1) h8) (by omega) hK
 rwa [←h.fmp] at this
theorem ScB.vbd {d:List aF} {f v:List Rat} {l:List aA} (h:ScB d f v l) {z:Nat→Rat} (hz:∀k,Bd 1 (z k)) {k:Nat} (hk:k<off v l l.length):Bd 100000 (vl v l (mp (acc d (tA f) l (pz v l z)) d.length) z k):=by
 have h8:=h.m8
 have hn:=h.n8
 have hp:=aF6 (l:=l) (v:=v) (z:=z) (C:=1) (fun k _=>hz k) h.sb.sl
 have hb:=aFa (p:=pz v l z) h.sb.sd h.fbd (fun r hr=>(h.sb.sl r hr).1) h.ir hp (by omega) (by omega) (by omega) (Nat.le_trans (bd8 (C:=1) (Nat.le_refl 1) h8) (by decide))
 exact(aRJ h.sb.sl hb (fun k _=>hz k) hk).mono (by unfold aJu;omega)
theorem aNG {v:List Rat} {l:List aA} {w q:Nat→Rat} {m:Nat} (hm:m≤100) (hw:∀i,i<off v l m→Bd 100000 (w i)) (hq:∀i,i<off v l m→Bd 100000 (q i)) (K:Nat):∀(t i k:Nat),i+t=off v l m→t<k→gC K ((zM v l m).map ru) (mp q (off v l m)) (mp w (off v l m)) k (mp (fun i=>w i-q i) i) (i:Int)=some (mp (fun i=>w i-q i) (off v l m))
 |0,i,k,hi,hk=>by
  obtain⟨k',rfl,_⟩:=bG hk
  have e:i=off v l m:=by omega
  subst e
  simp only [gC,aBz,dF (show¬(off v l m:Int)<(off v l m:Int) by omega),bV]
 |t+1,i,k,hi,hk=>by
  obtain⟨k',rfl,_⟩:=bG hk
  have hil:i<off v l m:=by omega
  have h4:=s0 (v:=v) (l:=l) m
  simp only [gC,aBz,dT (show(i:Int)<(off v l m:Int) by omega),cC,eG (f:=w) hil,eG (f:=q) hil,oB,aAH (hw i hil) (hq i hil) (by omega) (by omega),apM (g:=fun i=>w i-q i) (i:=i) (by omega),oF (i:=i) (by omega)]
  exact aNG hm hw hq K t (i+1) k' (by omega) (by omega)
theorem aGd:qof 1 1=some 1:=by rw [aI2 (by omega) (by omega),aP1]
theorem aLS {d:List aF} {f v:List Rat} {l:List aA} (h:ScB d f v l) {K:Nat} (hK:5000≤K):∀(t i k:Nat),i+t=off v l l.length→t<k→eO K d f v l ((zM v l l.length).map ru) (mp (qf d (tA f) v l) (off v l l.length)) k (mx (tr (Mf d v l)) i (off v l l.length)) (i:Int)=some (mx (tr (Mf d v l)) (off v l l.length) (off v l l.length))
 |0,i,k,hi,hk=>by
  obtain⟨k',rfl,_⟩:=bG hk
  have e:i=off v l l.length:=by omega
  rw [e]
  simp only [eO,aBz,dF (show¬(off v l l.length:Int)<(off v l l.length:Int) by omega),bV]
 |t+1,i,k,hi,hk=>by
  obtain⟨k',rfl,_⟩:=bG hk
  have hil:i<off v l l.length:=by omega
  have h8:=h.m8
  have h4:=s0 (v:=v) (l:=l) l.length
  have e1:p9 (mp (fun _=>(0:Rat)) (off v l l.length)) (i:Int) 1=some (mp (ek i) (off v l l.length)):=t6 (f:=z0) hil
  have e2:=aNG (v:=v) (l:=l) (m:=l.length) (w:=vl v l (mp (acc d (tA f) l (pz v l (ek i))) d.length) (ek i)) (q:=qf d (tA f) v l) (by omega) (fun j hj=>h.vbd (fun _=>aH2) hj) (fun j hj=>by rw [←aEd (n:=0)];exact h.vbd (z:=z0) (fun _=>Bd.zero) hj) K (off v l l.length) 0 K (by omega) (by omega)
  simp only [Int.natCast_zero,aAO] at e2
  have e3:mp (fun j=>vl v l (mp (acc d (tA f) l (pz v l (ek i))) d.length) (ek i) j-qf d (tA f) v l j) (off v l l.length)=mp (tr (Mf d v l) i) (off v l l.length):=cF fun j _=>aI5
  rw [e3] at e2
  have e4:oT (mx (tr (Mf d v l)) i (off v l l.length)) [mp (tr (Mf d v l) i) (off v l l.length)]=some (mx (tr (Mf d v l)) (i+1) (off v l l.length)):=apM (g:=fun i=>mp (tr (Mf d v l) i) (off v l l.length)) (by omega)
  simp only [eO,aBz,dT (show(i:Int)<(off v l l.length:Int) by omega),cC,aBW (z:=(0:Rat)) (n:=off v l l.length) (by omega),aGd,eG (f:=fun _=>(0:Rat)) hil,oB,e1,h.vals (z:=ek i) (fun _=>aH2) hK,e2,nA,e4,oF (i:=i) (by omega)]
  exact aLS h hK t (i+1) k' (by omega) (by omega)
theorem aRC (g:Nat→Nat→Rat):tr (tr g)=g:=rfl
theorem aIu {d:List aF} {f v:List Rat} {l:List aA} (h:ScB d f v l) (hf:zB d f v l=true) {K:Nat} (hK:5000≤K):nM K d f v l=some (mx (Mf d v l) (off v l l.length) (off v l l.length),mp (qf d (tA f) v l) (off v l l.length)):=by
 have h8:=h.m8
 have h4:=s0 (v:=v) (l:=l) l.length
 have e1:=h.vals (z:=z0) (fun _=>Bd.zero) hK
 have e2:mp (vl v l (mp (acc d (tA f) l (pz v l z0)) d.length) z0) (off v l l.length)=mp (qf d (tA f) v l) (off v l l.length):=cF fun j _=>aEd (n:=0)
 have e3:mp (fun _=>(0:Rat)) (off v l l.length)=mp z0 (off v l l.length):=rfl
 have e4:=aLS h hK (off v l l.length) 0 K (by omega) (by omega)
 have e5:mx (tr (Mf d v l)) 0 (off v l l.length)=[]:=rfl
 rw [e5] at e4
 simp only [Int.natCast_zero] at e4
 have e6:=aLU (g:=tr (Mf d v l)) (h:=off v l l.length) (w:=off v l l.length) (fun h=>h) (by omega) (by omega) (K:=K) (by omega)
 simp only [nM,aJB h.sb (show 200≤K by omega),hf,oB,Bool.not_true,bV,yP h.sb.sv (fun r hr=>(h.sb.sl r hr).1) (show l.length≤1000 by omega) (show 2000≤K by omega),aBz,aBW (z:=(0:Rat)) (n:=off v l l.length) (by omega),e3,e1,e2,e4,nG,e6,aRC]
end Go.Proofs.YtcjdedkdoagifaaGreat
set_option linter.unusedVariables false
namespace Go.Proofs.YtcjdedkdoagifaaGreat
/-- The rows as they lie, and where. -/
def rsl (G:Nat→Nat→Rat) (N:Nat):List (List Rat):=[]::mx G N N
def ord (N:Nat):List Nat:=mp (fun i=>i+1) N
theorem aCe {G:Nat→Nat→Rat} {N i:Nat} (h:i<N):(rsl G N).getD (i+1) []=mp (G i) N:=by
 unfold rsl mx
 rw [List.getD_eq_getElem?_getD,List.getElem?_cons_succ,aA9 h];rfl
theorem aEx {G:Nat→Nat→Rat} {N i:Nat} {f:Nat→Rat}:(rsl G N).set (i+1) (mp f N)=rsl (lG G i f) N:=by
 unfold rsl
 rw [List.set_cons_succ]
 unfold mx
 rw [aNv,aQG];rfl
theorem wI {G H:Nat→Nat→Rat} {N:Nat} (h:∀i c,i<N→c<N→G i c=H i c):rsl G N=rsl H N:=by
 unfold rsl;rw [aMA h]
theorem aQc {G:Nat→Nat→Rat} {N:Nat}:aFJ (rsl G N) (ord N)=mx G N N:=by
 unfold aFJ ord mp mx
 rw [List.map_map]
 unfold mp
 refine List.map_congr_left fun i hi=>?_
 exact aCe (List.mem_range.1 hi)
theorem rdO {N i:Nat} (h:i<N):bU (ord N) (i:Int)=some (i+1):=eG h
theorem aNd {v:List Rat} {l:List aA} {m:Nat} (hm:m≤100) (K:Nat):∀(t i k:Nat),i+t=off v l m→t<k→gB K ((zM v l m).map pu) (mp (fun _=>(0:Nat)) (off v l m)) k (mp (fun j=>if j<i then j+1 else 0) (off v l m)) ([]::mx (fun _=>z0) i (off v l m)) (i:Int)=some (ord (off v l m),rsl (fun _=>z0) (off v l m))
 |0,i,k,hi,hk=>by
  obtain⟨k',rfl,_⟩:=bG hk
  have e:i=off v l m:=by omega
  subst e
  simp only [gB,cJ,dF (show¬(off v l m:Int)<(off v l m:Int) by omega),bV]
  have:mp (fun j=>if j<off v l m then j+1 else 0) (off v l m)=ord (off v l m):=cF fun j hj=>if_pos hj
  rw [this];rfl
 |t+1,i,k,hi,hk=>by
  obtain⟨k',rfl,_⟩:=bG hk
  have hil:i<off v l m:=by omega
  have h4:=s0 (v:=v) (l:=l) m
  have e0:([]::mx (fun _=>z0) i (off v l m)).length=i+1:=by rw [List.length_cons,wD]
  have e1:p9 (mp (fun j=>if j<i then j+1 else 0) (off v l m)) (i:Int) (i+1)=some (mp (fun j=>if j<i+1 then j+1 else 0) (off v l m)):=by
   rw [t6 hil]
   congr 1
   refine cF fun j _=>?_
   by_cases e:j=i
   ·subst e;rw [bS,if_pos (by omega)]
   ·rw [dW e]
    by_cases hlt:j<i
    ·rw [if_pos hlt,if_pos (by omega)]
    ·rw [if_neg hlt,if_neg (by omega)]
  have e2:([]::mx (fun _=>z0) i (off v l m))++[mp (fun _=>(0:Rat)) (off v l m)]=[]::mx (fun _=>z0) (i+1) (off v l m):=by
   show []::(mx (fun _=>z0) i (off v l m)++_)=_
   unfold mx
   rw [aEa];rfl
  simp only [gB,cJ,dT (show(i:Int)<(off v l m:Int) by omega),cC,uT,aBW (z:=(0:Rat)) (n:=off v l m) (by omega),oB,eG (f:=fun j=>if j<i then j+1 else 0) hil,e0,e1,e2,oF (i:=i) (by omega)]
  exact aNd hm K t (i+1) k' (by omega) (by omega)
theorem aLL {g:Nat→Rat} {N i:Nat} {w:Rat} (h:i<N):iL (mp g N) (i:Int) w=some (mp (lG g i w) N):=by
 simp only [iL,eG (f:=g) h,t6 (f:=g) h,oB]
theorem aQe {w:Nat→Rat} {N i:Nat}:mp (lG (fun j=>if j<i then w j else 0) i (w i)) N=mp (fun j=>if j<i+1 then w j else 0) N:=cF fun j _=>by
 by_cases e:j=i
 ·subst e;rw [bS,if_pos (by omega)]
 ·rw [dW e]
  by_cases hlt:j<i
  ·rw [if_pos hlt,if_pos (by omega)]
  ·rw [if_neg hlt,if_neg (by omega)]
theorem aSa {w:Nat→Rat} {N i:Nat} (h:w i=0):mp (fun j=>if j<i then w j else 0) N=mp (fun j=>if j<i+1 then w j else 0) N:=cF fun j _=>by
 by_cases e:j=i
 ·subst e;rw [if_neg (by omega),if_pos (by omega),h]
 ·by_cases hlt:j<i
  ·rw [if_pos hlt,if_pos (by omega)]
  ·rw [if_neg hlt,if_neg (by omega)]
theorem rv0 {v:List Rat} {l:List aA} {a:List Rat} {r q k:Nat} (hq:vq v l r q) (hr:r<l.length) (hk:k=off v l r+q):rv v l a k=if q=0 then rt (m6 l r).j a else if q=1 then rt (m6 l r).t a else if q=2 then -(rt (m6 l r).t a) else 0:=by
 unfold rv;rw [hk,aKh hq hr]
theorem aL7 {d:List aF} {f v a:List Rat} {l:List aA} {B:Nat} (hl:RsC l) (ha:xT B a) (hB:B≤10000000) (hn:l.length≤100) {K:Nat} (hK:13≤K):∀(t k fu:Nat),k+t=off v l l.length→t<fu→cD K a ((zM v l l.length).map pu) ⟨d,f,v,l⟩ fu (mp (fun j=>if j<k then rv v l a j else 0) (off v l l.length)) (k:Int)=some (mp (rv v l a) (off v l l.length))
 |0,k,fu,hi,hk=>by
  obtain⟨k',rfl,_⟩:=bG hk
  have e:k=off v l l.length:=by omega
  subst e
  simp only [cD,uT,dF (show¬(off v l l.length:Int)<(off v l l.length:Int) by omega),bV]
  exact congrArg some (cF fun j hj=>if_pos hj)
 |t+1,k,fu,hi,hk=>by
  obtain⟨k',rfl,_⟩:=bG hk
  have hkl:k<off v l l.length:=by omega
  have h4:=s0 (v:=v) (l:=l) l.length
  obtain⟨r,q,h1,h2,h3⟩:=vG l.length k hkl
  have hq3:=vq3 h2
  have hu:=rdU (m:=l.length) h2 h1
  rw [←h3] at hu
  have hr:=hl _ (sY h1)
  have hrv:=rv0 (a:=a) h2 h1 h3
  have ih:=aL7 (d:=d) (f:=f) (v:=v) hl ha hB hn hK t (k+1) k' (by omega) (by omega)
  have bt:=aBm ha hr.1.2
  simp only [cD,uT,dT (show(k:Int)<(off v l l.length:Int) by omega),cC,hu,oB,aCK h1]
  have hcase:q=0∨q=1∨q=2∨q=3:=by omega
  rcases hcase with rfl|rfl|rfl|rfl
  ·have e:rv v l a k=rt (m6 l r).j a:=hrv
   simp only [qT (show((0:Nat):Int)=0 from rfl),cC,yY ha (by omega) hr.1.1 hK,oB,aLL (g:=fun j=>if j<k then rv v l a j else 0) hkl,oF (i:=k) (by omega)]
   rw [←e,aQe];exact ih
  ·have e:rv v l a k=rt (m6 l r).t a:=hrv
   simp only [qF (show((1:Nat):Int)≠0 by omega),qT (show((1:Nat):Int)=1 from rfl),bV,cC,yY ha (by omega) hr.1.2 hK,oB,aLL (g:=fun j=>if j<k then rv v l a j else 0) hkl,oF (i:=k) (by omega)]
   rw [←e,aQe];exact ih
  ·have e:rv v l a k=-(rt (m6 l r).t a):=hrv
   simp only [qF (show((2:Nat):Int)≠0 by omega),qF (show((2:Nat):Int)≠1 by omega),qT (show((2:Nat):Int)=2 from rfl),bV,cC,yY ha (by omega) hr.1.2 hK,oB,aCQ bt (by omega),aLL (g:=fun j=>if j<k then rv v l a j else 0) hkl,oF (i:=k) (by omega)]
   rw [←e,aQe];exact ih
  ·have e:rv v l a k=0:=hrv
   simp only [qF (show((3:Nat):Int)≠0 by omega),qF (show((3:Nat):Int)≠1 by omega),qF (show((3:Nat):Int)≠2 by omega),bV,oB,oF (i:=k) (by omega)]
   rw [aSa e];exact ih
def adc (G:Nat→Nat→Rat) (k:Nat) (w:Nat→Rat) (t i c:Nat):Rat:=if c=k∧i<t then G i c+w i else G i c
theorem aMq {G:Nat→Nat→Rat} {N i k BG BW:Nat} {w:Rat} (hi:i<N) (hk:k<N) (hG:Bd BG (G i k)) (hw:Bd BW w) (h1:BG≤1073741824) (h2:BW≤1073741824):iH (ord N,rsl G N) (k:Int) (i:Int) w=some (ord N,rsl (lG G i (lG (G i) k (G i k+w))) N):=by
 simp only [iH,rdO hi,oB,aCe hi,eG (f:=G i) hk,xR hG hw h1 h2,t6 (f:=G i) hk,aEx]
theorem aE3 {G:Nat→Nat→Rat} {k t N:Nat} {w:Nat→Rat}:rsl (lG (adc G k w t) t (lG (adc G k w t t) k (adc G k w t t k+w t))) N=rsl (adc G k w (t+1)) N:=wI fun i c _ _=>by
 by_cases e:i=t
 ·subst e
  rw [bS]
  by_cases h:c=k
  ·subst h
   rw [bS]
   unfold adc
   rw [if_neg (by omega),if_pos ⟨rfl,by omega⟩]
  ·rw [dW h]
   unfold adc
   rw [if_neg (fun h2=>h h2.1),if_neg (fun h2=>h h2.1)]
 ·rw [dW e]
  unfold adc
  by_cases h:c=k∧i<t
  ·rw [if_pos h,if_pos ⟨h.1,by omega⟩]
  ·rw [if_neg h,if_neg fun h2=>h ⟨h2.1,by omega⟩]
theorem aLY {G:Nat→Nat→Rat} {k t N:Nat} {w:Nat→Rat} (h0:w t=0):rsl (adc G k w t) N=rsl (adc G k w (t+1)) N:=wI fun i c _ _=>by
 unfold adc
 by_cases h:c=k∧i<t
 ·rw [if_pos h,if_pos ⟨h.1,by omega⟩]
 ·rw [if_neg h]
  by_cases h2:c=k∧i<t+1
  ·have:i=t:=by
    by_cases e:i=t
    ·exact e
    ·exact absurd ⟨h2.1,by omega⟩ h
   rw [if_pos h2,this,h0,Rat.add_zero]
  ·rw [if_neg h2]
theorem aNl {d:List aF} {f v a:List Rat} {l:List aA} {G:Nat→Nat→Rat} {c B BG:Nat} (hl:RsC l) (ha:xT B a) (hB:B≤10000000) (hn:l.length≤100) (hc:c<off v l l.length) (hG:∀i,i<off v l l.length→Bd BG (G i c)) (hBG:BG≤1073741824) {K:Nat} (hK:13≤K):∀(t k fu:Nat),k+t=off v l l.length→t<fu→cE K a (c:Int) ((zM v l l.length).map pu) ⟨d,f,v,l⟩ fu (ord (off v l l.length)) (rsl (adc G c (rv v l a) k) (off v l l.length)) (k:Int)=some (ord (off v l l.length),rsl (adc G c (rv v l a) (off v l l.length)) (off v l l.length))
 |0,k,fu,hi,hk=>by
  obtain⟨k',rfl,_⟩:=bG hk
  have e:k=off v l l.length:=by omega
  subst e
  simp only [cE,uT,dF (show¬(off v l l.length:Int)<(off v l l.length:Int) by omega),bV]
 |t+1,k,fu,hi,hk=>by
  obtain⟨k',rfl,_⟩:=bG hk
  have hkl:k<off v l l.length:=by omega
  have h4:=s0 (v:=v) (l:=l) l.length
  obtain⟨r,q,h1,h2,h3⟩:=vG l.length k hkl
  have hq3:=vq3 h2
  have hu:=rdU (m:=l.length) h2 h1
  rw [←h3] at hu
  have hr:=hl _ (sY h1)
  have hrv:=rv0 (a:=a) h2 h1 h3
  have ih:=aNl (d:=d) (f:=f) hl ha hB hn hc hG hBG hK t (k+1) k' (by omega) (by omega)
  have bj:=aBm ha hr.1.1
  have bt:=aBm ha hr.1.2
  have hGk:Bd BG (adc G c (rv v l a) k k c):=by unfold adc;rw [if_neg (by omega)];exact hG k hkl
  simp only [cE,uT,dT (show(k:Int)<(off v l l.length:Int) by omega),cC,hu,oB,aCK h1]
  have hcase:q=0∨q=1∨q=2∨q=3:=by omega
  rcases hcase with rfl|rfl|rfl|rfl
  ·have e:rv v l a k=rt (m6 l r).j a:=hrv
   simp only [qT (show((0:Nat):Int)=0 from rfl),cC,yY ha (by omega) hr.1.1 hK,oB,aMq hkl hc hGk bj hBG (by omega),oF (i:=k) (by omega)]
   rw [←e,aE3];exact ih
  ·have e:rv v l a k=rt (m6 l r).t a:=hrv
   simp only [qF (show((1:Nat):Int)≠0 by omega),qT (show((1:Nat):Int)=1 from rfl),bV,cC,yY ha (by omega) hr.1.2 hK,oB,aMq hkl hc hGk bt hBG (by omega),oF (i:=k) (by omega)]
   rw [←e,aE3];exact ih
  ·have e:rv v l a k=-(rt (m6 l r).t a):=hrv
   simp only [qF (show((2:Nat):Int)≠0 by omega),qF (show((2:Nat):Int)≠1 by omega),qT (show((2:Nat):Int)=2 from rfl),bV,cC,yY ha (by omega) hr.1.2 hK,oB,aCQ bt (by omega),aMq hkl hc hGk bt.neg hBG (by omega),oF (i:=k) (by omega)]
   rw [←e,aE3];exact ih
  ·have e:rv v l a k=0:=hrv
   simp only [qF (show((3:Nat):Int)≠0 by omega),qF (show((3:Nat):Int)≠1 by omega),qF (show((3:Nat):Int)≠2 by omega),bV,oB,oF (i:=k) (by omega)]
   rw [aLY e];exact ih
theorem aRW {d:List aF} {f v a:List Rat} {l:List aA} {G:Nat→Nat→Rat} {c B BG:Nat} (hl:RsC l) (ha:xT B a) (hB:B≤10000000) (hn:l.length≤100) (hc:c<off v l l.length) (hG:∀i,i<off v l l.length→Bd BG (G i c)) (hBG:BG≤1073741824) {K:Nat} (hK:5000≤K):cM K a (c:Int) ((zM v l l.length).map pu) ⟨d,f,v,l⟩ (ord (off v l l.length)) (rsl G (off v l l.length))=some (ord (off v l l.length),rsl (adc G c (rv v l a) (off v l l.length)) (off v l l.length)):=by
 have h4:=s0 (v:=v) (l:=l) l.length
 have e:rsl (adc G c (rv v l a) 0) (off v l l.length)=rsl G (off v l l.length):=wI fun i c' _ _=>if_neg (by omega)
 have:=aNl (d:=d) (f:=f) hl ha hB hn hc hG hBG (K:=K) (by omega) (off v l l.length) 0 K (by omega) (by omega)
 rw [e] at this
 simp only [Int.natCast_zero] at this
 simp only [cM,this,oB,kS]
theorem wM {v:List Rat} {l:List aA} {r q r' q':Nat} (h:vq v l r q) (h':vq v l r' q'):ek (off v l r+q) (off v l r'+q')=if r'=r∧q'=q then 1 else 0:=by
 unfold ek
 by_cases e:r'=r∧q'=q
 ·rw [if_pos e,e.1,e.2,bS]
 ·rw [if_neg e,dW fun h3=>e (aD7 h' h h3)];rfl
theorem aJP {v:List Rat} {l:List aA} {z:Nat→Rat} {i:Nat} (h0:z (off v l i)=0) (h1:stk v (m6 l i)=true→z (off v l i+1)=0∧z (off v l i+2)=0):pz v l z i=⟨0,0⟩:=by
 unfold pz
 rw [h0]
 split
 ·rfl
 ·rename_i ht
  split
  ·rw [Rat.mul_zero,Rat.mul_zero]
  ·rename_i hs
   have hst:stk v (m6 l i)=true:=by
    unfold stk
    rw [decide_eq_true (show 0<(m6 l i).t.length by omega),decide_eq_true (show(rt (m6 l i).t v).num.sign=0 from Decidable.of_not_not hs)];rfl
   rw [(h1 hst).1,(h1 hst).2,Rat.sub_self]
theorem aHJ {v:List Rat} {l:List aA} {r q i:Nat} (h:vq v l r q) (hi:i≠r):pz v l (ek (off v l r+q)) i=⟨0,0⟩:=
 aJP (by have:=wM h (r':=i) (q':=0) (.inl rfl);rw [Nat.add_zero] at this;rw [this,if_neg fun h=>hi h.1]) fun hs=>
  ⟨by rw [wM h (.inr ⟨hs,by omega⟩),if_neg fun h=>hi h.1],by rw [wM h (.inr ⟨hs,by omega⟩),if_neg fun h=>hi h.1]⟩
theorem aL2 {v:List Rat} {l:List aA} {r q:Nat} {x:aI} (h:vq v l r q) (hx:pz v l (ek (off v l r+q)) r=x):mp (lG p0 r x) l.length=mp (pz v l (ek (off v l r+q))) l.length:=cF fun i _=>by
 by_cases e:i=r
 ·rw [e,bS,hx]
 ·rw [dW e,aHJ h e];rfl
theorem aJl {v:List Rat} {r:aA} (h:stk v r=true):r.t.length≠0∧(rt r.t v).num.sign=0:=by
 unfold stk at h
 rw [Bool.and_eq_true] at h
 have h1:=of_decide_eq_true h.1
 exact⟨by omega,of_decide_eq_true h.2⟩
def bc (v:List Rat) (l:List aA) (k:Nat) (i:Nat):Rat:=zv v l (ek k) i
theorem zv0 {v:List Rat} {l:List aA} {z:Nat→Rat} {r q k:Nat} (hq:vq v l r q) (hr:r<l.length) (hk:k=off v l r+q):zv v l z k=if q=0 then 0 else if q=1 then z (k+2) else if q=2 then z (k+1) else(m6 l r).mu*z (k-3)-(z (k-2)+z (k-1)):=by
 unfold zv;rw [hk,aKh hq hr]
theorem vqs {v:List Rat} {l:List aA} {r q p:Nat} (h:vq v l r q) (hq:q≠0) (hp:p≤3):vq v l r p:=by
 rcases h with h|h
 ·exact absurd h hq
 ·exact .inr ⟨h.1,hp⟩
theorem aHQ {v:List Rat} {l:List aA} {r q r' q':Nat} (h:vq v l r q) (h':vq v l r' q') (hr':r'<l.length):zv v l (ek (off v l r+q)) (off v l r'+q')=if q'=0 then 0 else if q'=1 then(if r'=r∧3=q then 1 else 0) else if q'=2 then(if r'=r∧3=q then 1 else 0) else(m6 l r').mu*(if r'=r∧0=q then 1 else 0)-((if r'=r∧1=q then 1 else 0)+(if r'=r∧2=q then 1 else 0)):=by
 rw [zv0 h' hr' rfl]
 have hq3:=vq3 h'
 have hcase:q'=0∨q'=1∨q'=2∨q'=3:=by omega
 rcases hcase with rfl|rfl|rfl|rfl
 ·rfl
 ·show ek _ (off v l r'+3)=_
  rw [wM h (vqs h' (by omega) (by omega))];rfl
 ·show ek _ (off v l r'+3)=_
  rw [wM h (vqs h' (by omega) (by omega))];rfl
 ·show(m6 l r').mu*ek _ (off v l r'+0)-(ek _ (off v l r'+1)+ek _ (off v l r'+2))=_
  rw [wM h (vqs h' (by omega) (by omega)),wM h (vqs h' (by omega) (by omega)),wM h (vqs h' (by omega) (by omega))];rfl
theorem aFl {v:List Rat} {l:List aA} {g:Nat→Rat} {x:Rat} {r q r' q':Nat} (h:vq v l r q) (h':vq v l r' q'):lG g (off v l r+q) x (off v l r'+q')=if r'=r∧q'=q then x else g (off v l r'+q'):=by
 by_cases e:r'=r∧q'=q
 ·rw [if_pos e,e.1,e.2,bS]
 ·rw [if_neg e,dW fun h3=>e (aD7 h' h h3)]
theorem aQ1 {v:List Rat} {l:List aA} {r i:Nat} (hs:stk v (m6 l r)=true) (hi:i<off v l l.length):bc v l (off v l r) i=lG z0 (off v l r+3) (m6 l r).mu i:=by
 obtain⟨r',q',h1,h2,rfl⟩:=vG l.length i hi
 have hq3:=vq3 h2
 have:=aHQ (v:=v) (l:=l) (r:=r) (q:=0) (.inl rfl) h2 h1
 rw [Nat.add_zero] at this
 unfold bc
 rw [this,aFl (.inr ⟨hs,by omega⟩) h2]
 have hcase:q'=0∨q'=1∨q'=2∨q'=3:=by omega
 rcases hcase with rfl|rfl|rfl|rfl
 ·simp [z0]
 ·simp [z0]
 ·simp [z0]
 ·by_cases e:r'=r
  ·subst e;simp [Rat.sub_eq_add_neg,Rat.add_zero,Rat.zero_add,Rat.neg_zero,Rat.mul_zero,Rat.mul_one]
  ·simp [e,z0,Rat.sub_eq_add_neg,Rat.add_zero,Rat.zero_add,Rat.neg_zero,Rat.mul_zero,Rat.mul_one]
theorem aQJ {v:List Rat} {l:List aA} {r i:Nat} (hs:stk v (m6 l r)=false) (hi:i<off v l l.length):bc v l (off v l r) i=0:=by
 obtain⟨r',q',h1,h2,rfl⟩:=vG l.length i hi
 have hq3:=vq3 h2
 have:=aHQ (v:=v) (l:=l) (r:=r) (q:=0) (.inl rfl) h2 h1
 rw [Nat.add_zero] at this
 unfold bc
 rw [this]
 have hcase:q'=0∨q'=1∨q'=2∨q'=3:=by omega
 rcases hcase with rfl|rfl|rfl|rfl
 ·simp
 ·simp
 ·simp
 ·have e:r'≠r:=fun e=>by
   rcases h2 with h|h
   ·omega
   ·rw [e,hs] at h;exact absurd h.1 (by decide)
  simp [e,Rat.sub_eq_add_neg,Rat.add_zero,Rat.zero_add,Rat.neg_zero,Rat.mul_zero,Rat.mul_one]
theorem aSv {v:List Rat} {l:List aA} {r i:Nat} (h:vq v l r 1) (hi:i<off v l l.length):bc v l (off v l r+1) i=lG z0 (off v l r+3) (-1) i:=by
 obtain⟨r',q',h1,h2,rfl⟩:=vG l.length i hi
 have hq3:=vq3 h2
 unfold bc
 rw [aHQ h h2 h1,aFl (vqs h (by omega) (by omega)) h2]
 have hcase:q'=0∨q'=1∨q'=2∨q'=3:=by omega
 rcases hcase with rfl|rfl|rfl|rfl
 ·simp [z0]
 ·simp [z0]
 ·simp [z0]
 ·by_cases e:r'=r
  ·subst e;simp [Rat.sub_eq_add_neg,Rat.add_zero,Rat.zero_add,Rat.neg_zero,Rat.mul_zero,Rat.mul_one]
  ·simp [e,z0,Rat.sub_eq_add_neg,Rat.add_zero,Rat.zero_add,Rat.neg_zero,Rat.mul_zero,Rat.mul_one]
theorem aRV {v:List Rat} {l:List aA} {r i:Nat} (h:vq v l r 2) (hi:i<off v l l.length):bc v l (off v l r+2) i=lG z0 (off v l r+3) (-1) i:=by
 obtain⟨r',q',h1,h2,rfl⟩:=vG l.length i hi
 have hq3:=vq3 h2
 unfold bc
 rw [aHQ h h2 h1,aFl (vqs h (by omega) (by omega)) h2]
 have hcase:q'=0∨q'=1∨q'=2∨q'=3:=by omega
 rcases hcase with rfl|rfl|rfl|rfl
 ·simp [z0]
 ·simp [z0]
 ·simp [z0]
 ·by_cases e:r'=r
  ·subst e;simp [Rat.sub_eq_add_neg,Rat.add_zero,Rat.zero_add,Rat.neg_zero,Rat.mul_zero,Rat.mul_one]
  ·simp [e,z0,Rat.sub_eq_add_neg,Rat.add_zero,Rat.zero_add,Rat.neg_zero,Rat.mul_zero,Rat.mul_one]
theorem aQ2 {v:List Rat} {l:List aA} {r i:Nat} (h:vq v l r 3) (hi:i<off v l l.length):bc v l (off v l r+3) i=lG (lG z0 (off v l r+1) 1) (off v l r+2) 1 i:=by
 obtain⟨r',q',h1,h2,rfl⟩:=vG l.length i hi
 have hq3:=vq3 h2
 unfold bc
 rw [aHQ h h2 h1,aFl (vqs h (by omega) (by omega)) h2,aFl (vqs h (by omega) (by omega)) h2]
 have hcase:q'=0∨q'=1∨q'=2∨q'=3:=by omega
 rcases hcase with rfl|rfl|rfl|rfl
 ·simp [z0]
 ·by_cases e:r'=r<;>simp [e,z0]
 ·by_cases e:r'=r<;>simp [e,z0]
 ·simp [z0,Rat.sub_eq_add_neg,Rat.add_zero,Rat.zero_add,Rat.neg_zero,Rat.mul_zero,Rat.mul_one]
end Go.Proofs.YtcjdedkdoagifaaGreat
set_option linter.unusedVariables false
namespace Go.Proofs.YtcjdedkdoagifaaGreat
def aA5 (G:Nat→Nat→Rat) (k:Nat) (b:Nat→Rat) (i c:Nat):Rat:=if c=k then b i else G i c
def gk (M:Nat→Nat→Rat) (k i c:Nat):Rat:=if c<k then M i c else 0
theorem aCV {M:Nat→Nat→Rat} {k:Nat}:aA5 (gk M k) k z0=gk M k:=by
 funext i c
 unfold aA5 gk z0
 by_cases h:c=k
 ·rw [if_pos h,if_neg (by omega)]
 ·rw [if_neg h]
theorem aOA {G:Nat→Nat→Rat} {k i:Nat} {b:Nat→Rat}:aA5 G k b i k=b i:=if_pos rfl
theorem aCE {G:Nat→Nat→Rat} {k j N:Nat} {b:Nat→Rat} {x:Rat}:rsl (lG (aA5 G k b) j (lG (aA5 G k b j) k x)) N=rsl (aA5 G k (lG b j x)) N:=wI fun i c _ _=>by
 by_cases e:i=j
 ·subst e
  rw [bS]
  by_cases h:c=k
  ·subst h;rw [bS];unfold aA5;rw [if_pos rfl,bS]
  ·rw [dW h];unfold aA5;rw [if_neg h,if_neg h]
 ·rw [dW e]
  unfold aA5
  by_cases h:c=k
  ·rw [if_pos h,if_pos h,dW e]
  ·rw [if_neg h,if_neg h]
theorem aP4 {M:Nat→Nat→Rat} {k N:Nat} {b w:Nat→Rat} (h:∀i,i<N→M i k=b i+w i):rsl (adc (aA5 (gk M k) k b) k w N) N=rsl (gk M (k+1)) N:=wI fun i c hi _=>by
 unfold adc aA5 gk
 by_cases e:c=k
 ·subst e;rw [if_pos ⟨rfl,hi⟩,if_pos rfl,if_pos (by omega),h i hi]
 ·rw [if_neg fun h2=>e h2.1,if_neg e]
  by_cases e2:c<k
  ·rw [if_pos e2,if_pos (by omega)]
  ·rw [if_neg e2,if_neg (by omega)]
theorem aOv {M:Nat→Nat→Rat} {k N:Nat} {b:Nat→Rat} (h:∀i,i<N→M i k=b i):rsl (aA5 (gk M k) k b) N=rsl (gk M (k+1)) N:=wI fun i c hi _=>by
 unfold aA5 gk
 by_cases e:c=k
 ·subst e;rw [if_pos rfl,if_pos (by omega),h i hi]
 ·rw [if_neg e]
  by_cases e2:c<k
  ·rw [if_pos e2,if_pos (by omega)]
  ·rw [if_neg e2,if_neg (by omega)]
theorem aEi {d:List aF} {f v:List Rat} {l:List aA} (h:ScB d f v l) {k:Nat} (hk:k<off v l l.length) {b:Nat→Rat} (hb:∀i,i<off v l l.length→bc v l k i=b i) (hbb:∀i,Bd 8 (b i)) {K:Nat} (hK:5000≤K):
  bO K ⟨d,f,v,l⟩ (mp z0 d.length) (mp (pz v l (ek k)) l.length)=some (mp (acc d z0 l (pz v l (ek k))) d.length)∧
  cM K (mp (acc d z0 l (pz v l (ek k))) d.length) (k:Int) ((zM v l l.length).map pu) ⟨d,f,v,l⟩ (ord (off v l l.length)) (rsl (aA5 (gk (Mf d v l) k) k b) (off v l l.length))=some (ord (off v l l.length),rsl (gk (Mf d v l) (k+1)) (off v l l.length)):=by
 have h8:=h.m8
 have hn:=h.n8
 have hp:=aF6 (l:=l) (v:=v) (z:=ek k) (C:=1) (fun k _=>aH2) h.sb.sl
 have hrb:RsB l:=fun r hr=>(h.sb.sl r hr).1
 have hc:(2*1+11+9)*24*l.length≤400000000:=Nat.le_trans (bd8 (C:=1) (Nat.le_refl 1) h8) (by decide)
 have hz:∀j,j<d.length→Bd 1 (z0 j):=fun j _=>Bd.zero
 have hbd:=aFa (p:=pz v l (ek k)) h.sb.sd hz hrb h.ir hp (by omega) (by omega) (by omega) hc
 refine⟨aHc (p:=pz v l (ek k)) h.sb.sd (by omega) hz hrb h.ir (by omega) hp (by omega) hc (by omega),?_⟩
 have e:=aRW (d:=d) (f:=f) (G:=aA5 (gk (Mf d v l) k) k b) (c:=k) (BG:=8) h.sb.sl hbd (by unfold aJu;omega) (by omega) hk (fun i hi=>by rw [aOA];exact hbb i) (by omega) hK
 rw [e,aP4 fun i hi=>?_]
 rw [←hb i hi]
 exact Rat.add_comm _ _
theorem aLx {x:List aI} (hn:x.length≤60000000000):pY x=some x:=by
 unfold pY
 rw [vY (by simp;omega)];rfl
theorem aHs {j:Nat} {x:Rat} (h:Bd 8 x):∀i,Bd 8 (lG z0 j x i):=fun i=>by
 by_cases e:i=j
 ·rw [e,bS];exact h
 ·rw [dW e];exact Bd.zero.mono (by omega)
theorem aJO:Bd 8 (-1:Rat):=(show Bd 1 (-1:Rat) by constructor<;>decide).mono (by omega)
theorem aBb:Bd 8 (1:Rat):=(show Bd 1 (1:Rat) by constructor<;>decide).mono (by omega)
theorem aJR:aB0 1=some (-1:Rat):=aCQ aBb (by omega)
theorem aRh {v:List Rat} {l:List aA} {r:Nat}:pz v l (ek (off v l r)) r=⟨1,if(m6 l r).t.length=0 then 0 else(((-(rt (m6 l r).t v).num.sign:Int):Rat)/((1:Int):Rat))*((m6 l r).mu*1)⟩:=by
 have h0:ek (off v l r) (off v l r)=1:=bS
 have hv0:vq v l r 0:=.inl rfl
 unfold pz
 rw [h0]
 by_cases ht:(m6 l r).t.length=0
 ·rw [if_pos ht,if_pos ht]
 ·rw [if_neg ht,if_neg ht]
  by_cases hs:(rt (m6 l r).t v).num.sign=0
  ·have hst:stk v (m6 l r)=true:=by
    unfold stk;rw [decide_eq_true (show 0<(m6 l r).t.length by omega),decide_eq_true hs];rfl
   have e1:=wM hv0 (r':=r) (q':=1) (.inr ⟨hst,by omega⟩)
   have e2:=wM hv0 (r':=r) (q':=2) (.inr ⟨hst,by omega⟩)
   rw [Nat.add_zero] at e1 e2
   rw [if_neg (fun h=>h hs),e1,e2,hs]
   have z:((-(0:Int):Int):Rat)/((1:Int):Rat)=0:=by decide+kernel
   rw [z,Rat.zero_mul]
   simp [Rat.sub_self]
  ·rw [if_pos hs]
theorem aRc {v:List Rat} {l:List aA} {r:Nat} (h:vq v l r 1):pz v l (ek (off v l r+1)) r=⟨0,1⟩:=by
 have hst:stk v (m6 l r)=true:=by rcases h with h|h;omega;exact h.1
 obtain⟨s1,s2⟩:=aJl hst
 have e0:ek (off v l r+1) (off v l r)=if r=r∧0=1 then 1 else 0:=wM h (r':=r) (q':=0) (.inl rfl)
 unfold pz
 rw [if_neg s1,if_neg (fun h=>h s2),e0,wM h (r':=r) (q':=1) h,wM h (r':=r) (q':=2) (vqs h (by omega) (by omega))]
 simp [Rat.sub_eq_add_neg,Rat.add_zero,Rat.neg_zero]
theorem aRI {v:List Rat} {l:List aA} {r:Nat} (h:vq v l r 2):pz v l (ek (off v l r+2)) r=⟨0,-1⟩:=by
 have hst:stk v (m6 l r)=true:=by rcases h with h|h;omega;exact h.1
 obtain⟨s1,s2⟩:=aJl hst
 have e0:ek (off v l r+2) (off v l r)=if r=r∧0=2 then 1 else 0:=wM h (r':=r) (q':=0) (.inl rfl)
 unfold pz
 rw [if_neg s1,if_neg (fun h=>h s2),e0,wM h (r':=r) (q':=1) (vqs h (by omega) (by omega)),wM h (r':=r) (q':=2) h]
 simp [Rat.sub_eq_add_neg,Rat.zero_add]
theorem aR7 {d:List aF} {v:List Rat} {l:List aA} {r i:Nat} (h:vq v l r 3):Mf d v l i (off v l r+3)=bc v l (off v l r+3) i:=by
 unfold Mf bc
 have e:∀r',r'<l.length→pz v l (ek (off v l r+3)) r'=p0 r':=fun r' _=>by
  by_cases e:r'=r
  ·subst e
   have e0:ek (off v l r'+3) (off v l r')=if r'=r'∧0=3 then 1 else 0:=wM h (r':=r') (q':=0) (.inl rfl)
   refine aJP (by rw [e0,if_neg (by omega)]) fun hs=>⟨?_,?_⟩
   ·rw [wM h (r':=r') (q':=1) (vqs h (by omega) (by omega)),if_neg (by omega)]
   ·rw [wM h (r':=r') (q':=2) (vqs h (by omega) (by omega)),if_neg (by omega)]
  ·exact aHJ h e
 rw [aF7 e,aLV,aOs,Rat.zero_add]
theorem aEs {d:List aF} {f v:List Rat} {l:List aA} {r:aA} {x:Rat} {C:Nat} (hv:xT 64 v) (hr:RC r) (hx:Bd C x) (hC:C≤500000000) {K:Nat} (hK:13≤K):lF K ⟨d,f,v,l⟩ r x=some ((((-(rt r.t v).num.sign:Int):Rat)/((1:Int):Rat))*(r.mu*x)):=by
 have hb:=aJI (rt r.t v)
 simp only [lF,aKe hv hr.1 hK,oB,lL (show -9223372036854775808≤-(rt r.t v).num.sign∧_ by omega),(qsg _).1,uF hr.2 hx (by omega) (by omega),uF (qsg (rt r.t v)).2 (hr.2.mul hx) (by omega) (by omega)]
theorem aKA {d:List aF} {f v:List Rat} {l:List aA} (h:ScB d f v l) {K:Nat} (hK:5000≤K):∀(t k fu:Nat),k+t=off v l l.length→t<fu→bD K ⟨d,f,v,l⟩ ((zM v l l.length).map pu) (mp p0 l.length) 1 fu (ord (off v l l.length)) (rsl (gk (Mf d v l) k) (off v l l.length)) (k:Int)=some (ord (off v l l.length),rsl (gk (Mf d v l) (off v l l.length)) (off v l l.length))
 |0,k,fu,hi,hk=>by
  obtain⟨k',rfl,_⟩:=bG hk
  have e:k=off v l l.length:=by omega
  rw [e]
  simp only [bD,uT,dF (show¬(off v l l.length:Int)<(off v l l.length:Int) by omega),bV]
 |t+1,k,fu,hi,hk=>by
  obtain⟨k',rfl,_⟩:=bG hk
  have hkl:k<off v l l.length:=by omega
  have h8:=h.m8
  have hn:=h.n8
  have h4:=s0 (v:=v) (l:=l) l.length
  obtain⟨r,q,h1,h2,h3⟩:=vG l.length k hkl
  have hq3:=vq3 h2
  have hu:=rdU (m:=l.length) h2 h1
  rw [←h3] at hu
  have hr:=h.sb.sl _ (sY h1)
  have ih:=aKA h hK t (k+1) k' (by omega) (by omega)
  have hcl:=aLx (x:=mp p0 l.length) (by rw [cJ];omega)
  have hz:xI ((d.length:Nat):Int) (0:Rat)=some (mp z0 d.length):=aBW (by omega)
  have c3:aY ((k:Int)+3)=some ((k+3:Nat):Int):=by rw [lL (by omega)];rfl
  have hcase:q=0∨q=1∨q=2∨q=3:=by omega
  rcases hcase with rfl|rfl|rfl|rfl
  ·have hk0:k=off v l r:=h3
   have hpk:=aL2 (x:=⟨1,if(m6 l r).t.length=0 then 0 else(((-(rt (m6 l r).t v).num.sign:Int):Rat)/((1:Int):Rat))*((m6 l r).mu*1)⟩) (r:=r) h2 (by rw [Nat.add_zero];exact aRh)
   rw [Nat.add_zero,←hk0] at hpk
   have key:d7 K ⟨d,f,v,l⟩ ((zM v l l.length).map pu) (ord (off v l l.length)) (rsl (gk (Mf d v l) k) (off v l l.length)) (k:Int) ⟨(r:Int),0⟩ (m6 l r) (bD K ⟨d,f,v,l⟩ ((zM v l l.length).map pu) (mp p0 l.length) 1 k') (mp (pz v l (ek k)) l.length)=some (ord (off v l l.length),rsl (gk (Mf d v l) (off v l l.length)) (off v l l.length)):=by
    cases hst:stk v (m6 l r)
    ·obtain⟨a1,a2⟩:=aEi h hkl (b:=z0) (fun i hi=>by rw [hk0];exact aQJ hst hi) (fun i=>Bd.zero.mono (by omega)) hK
     rw [aCV] at a2
     by_cases hk3:k+3<off v l l.length
     ·obtain⟨r',q',g1,g2,g3⟩:=vG l.length (k+3) hk3
      have hu':=rdU (m:=l.length) g2 g1
      rw [←g3] at hu'
      have hne:((r':Int)==(r:Int)&&((q':Nat):Int)==3)=false:=by
       rw [Bool.and_eq_false_iff]
       by_cases e:r'=r
       ·right
        refine qF fun e2=>?_
        rw [e] at g2
        rcases g2 with g|g
        ·omega
        ·rw [hst] at g;exact absurd g.1 (by decide)
       ·left;exact qF (by omega)
      simp only [d7,c3,oB,uT,dT (show((k+3:Nat):Int)<(off v l l.length:Int) by omega),cC,hu',hne,bV,hz,a1,a2,oF (i:=k) (by omega)]
      exact ih
     ·simp only [d7,c3,oB,uT,dF (show¬((k+3:Nat):Int)<(off v l l.length:Int) by omega),bV,hz,a1,a2,oF (i:=k) (by omega)]
      exact ih
    ·have v3:vq v l r 3:=.inr ⟨hst,by omega⟩
     have l3:=vI (v:=v) (l:=l) (m:=l.length) h1 v3
     rw [←hk0] at l3
     have hu':=rdU (m:=l.length) v3 h1
     rw [←hk0] at hu'
     obtain⟨a1,a2⟩:=aEi h hkl (b:=lG z0 (k+3) (m6 l r).mu) (fun i hi=>by rw [hk0];exact aQ1 hst hi) (aHs hr.2) hK
     have hy:((r:Int)==(r:Int)&&((3:Nat):Int)==3)=true:=by rw [qT rfl];rfl
     have e1:=aCE (G:=gk (Mf d v l) k) (k:=k) (j:=k+3) (N:=off v l l.length) (b:=z0) (x:=(m6 l r).mu)
     rw [aCV] at e1
     simp only [d7,c3,oB,uT,dT (show((k+3:Nat):Int)<(off v l l.length:Int) by omega),cC,hu',hy,rdO l3,aCe l3,eG (f:=gk (Mf d v l) k (k+3)) hkl,t6 (f:=gk (Mf d v l) k (k+3)) hkl,aEx,e1,hz,a1,a2,oF (i:=k) (by omega)]
     exact ih
   simp only [bD,uT,dT (show(k:Int)<(off v l l.length:Int) by omega),cC,hu,oB,hcl,aCK h1,qT (show((0:Nat):Int)=0 from rfl),eG (f:=p0) h1,t6 (f:=p0) h1]
   by_cases ht:(m6 l r).t.length=0
   ·rw [if_pos ht] at hpk
    simp only [dF (show¬(0:Int)<((m6 l r).t.length:Int) by omega),bV]
    rw [show(⟨1,(p0 r).f⟩:aI)=⟨1,0⟩ from rfl,hpk]
    exact key
   ·rw [if_neg ht] at hpk
    simp only [dT (show(0:Int)<((m6 l r).t.length:Int) by omega),cC,aEs h.sb.sv hr aBb (by omega) (show 13≤K by omega),oB,eG (f:=lG p0 r ⟨1,(p0 r).f⟩) h1,t6 (f:=lG p0 r ⟨1,(p0 r).f⟩) h1,bS,aNY,hpk]
    exact key
  ·have v3:vq v l r 3:=vqs h2 (by omega) (by omega)
   have l3:=vI (v:=v) (l:=l) (m:=l.length) h1 v3
   have hj:k+2<off v l l.length:=by omega
   have hpk:=aL2 (x:=⟨0,1⟩) h2 (aRc h2)
   rw [←h3] at hpk
   obtain⟨a1,a2⟩:=aEi h hkl (b:=lG z0 (k+2) (-1)) (fun i hi=>by rw [h3];exact aSv h2 hi) (aHs aJO) hK
   have e1:=aCE (G:=gk (Mf d v l) k) (k:=k) (j:=k+2) (N:=off v l l.length) (b:=z0) (x:=-1)
   rw [aCV] at e1
   have c4:aY (((k+3:Nat):Int)-1)=some ((k+2:Nat):Int):=by rw [show((k+3:Nat):Int)-1=((k+2:Nat):Int) by omega,lL (by omega)]
   have ep:(⟨(p0 r).n,1⟩:aI)=⟨0,1⟩:=rfl
   simp only [bD,uT,dT (show(k:Int)<(off v l l.length:Int) by omega),cC,hu,oB,hcl,aCK h1,qF (show((1:Nat):Int)≠0 by omega),qT (show((1:Nat):Int)=1 from rfl),bV,eG (f:=p0) h1,t6 (f:=p0) h1,ep,hpk,c3,c4,rdO hj,aJR,aCe hj,eG (f:=gk (Mf d v l) k (k+2)) hkl,t6 (f:=gk (Mf d v l) k (k+2)) hkl,aEx,e1,hz,a1,a2,oF (i:=k) (by omega)]
   exact ih
  ·have v3:vq v l r 3:=vqs h2 (by omega) (by omega)
   have l3:=vI (v:=v) (l:=l) (m:=l.length) h1 v3
   have hj:k+1<off v l l.length:=by omega
   have hpk:=aL2 (x:=⟨0,-1⟩) h2 (aRI h2)
   rw [←h3] at hpk
   obtain⟨a1,a2⟩:=aEi h hkl (b:=lG z0 (k+1) (-1)) (fun i hi=>by rw [h3];exact aRV h2 hi) (aHs aJO) hK
   have e1:=aCE (G:=gk (Mf d v l) k) (k:=k) (j:=k+1) (N:=off v l l.length) (b:=z0) (x:=-1)
   rw [aCV] at e1
   have c4:aY (((k+3:Nat):Int)-2)=some ((k+1:Nat):Int):=by rw [show((k+3:Nat):Int)-2=((k+1:Nat):Int) by omega,lL (by omega)]
   have ep:(⟨(p0 r).n,-1⟩:aI)=⟨0,-1⟩:=rfl
   simp only [bD,uT,dT (show(k:Int)<(off v l l.length:Int) by omega),cC,hu,oB,hcl,aCK h1,qF (show((2:Nat):Int)≠0 by omega),qF (show((2:Nat):Int)≠1 by omega),qT (show((2:Nat):Int)=2 from rfl),bV,eG (f:=p0) h1,t6 (f:=p0) h1,aJR,ep,hpk,c3,c4,rdO hj,aCe hj,eG (f:=gk (Mf d v l) k (k+1)) hkl,t6 (f:=gk (Mf d v l) k (k+1)) hkl,aEx,e1,hz,a1,a2,oF (i:=k) (by omega)]
   exact ih
  ·have hj1:k-2<off v l l.length:=by omega
   have hj2:k-1<off v l l.length:=by omega
   have e1:=aCE (G:=gk (Mf d v l) k) (k:=k) (j:=k-2) (N:=off v l l.length) (b:=z0) (x:=1)
   rw [aCV] at e1
   have e2:=aCE (G:=gk (Mf d v l) k) (k:=k) (j:=k-1) (N:=off v l l.length) (b:=lG z0 (k-2) 1) (x:=1)
   have e3:rsl (aA5 (gk (Mf d v l) k) k (lG (lG z0 (k-2) 1) (k-1) 1)) (off v l l.length)=rsl (gk (Mf d v l) (k+1)) (off v l l.length):=aOv fun i hi=>by
    rw [h3,aR7 h2,aQ2 h2 hi];rfl
   have c1:aY (((k+1:Nat):Int)-3)=some ((k-2:Nat):Int):=by rw [show((k+1:Nat):Int)-3=((k-2:Nat):Int) by omega,lL (by omega)]
   have c2:aY ((k:Int)+2)=some ((k+2:Nat):Int):=by rw [lL (by omega)];rfl
   have c4:aY (((k+2:Nat):Int)-3)=some ((k-1:Nat):Int):=by rw [show((k+2:Nat):Int)-3=((k-1:Nat):Int) by omega,lL (by omega)]
   simp only [bD,uT,dT (show(k:Int)<(off v l l.length:Int) by omega),cC,hu,oB,hcl,aCK h1,qF (show((3:Nat):Int)≠0 by omega),qF (show((3:Nat):Int)≠1 by omega),qF (show((3:Nat):Int)≠2 by omega),qT (show((3:Nat):Int)=3 from rfl),bV,oF (i:=k) (by omega),c1,c2,c4,rdO hj1,rdO hj2,aCe hj1,eG (f:=gk (Mf d v l) k (k-2)) hkl,t6 (f:=gk (Mf d v l) k (k-2)) hkl,aEx,e1,aCe hj2,eG (f:=aA5 (gk (Mf d v l) k) k (lG z0 (k-2) 1) (k-1)) hkl,t6 (f:=aA5 (gk (Mf d v l) k) k (lG z0 (k-2) 1) (k-1)) hkl,e2,e3]
   exact ih
theorem aDV {d:List aF} {f v:List Rat} {l:List aA} (h:ScB d f v l) {K:Nat} (hK:5000≤K):lH K ⟨d,f,v,l⟩=some (mx (Mf d v l) (off v l l.length) (off v l l.length),mp (qf d (tA f) v l) (off v l l.length)):=by
 have h8:=h.m8
 have hn:=h.n8
 have h4:=s0 (v:=v) (l:=l) l.length
 have hrb:RsB l:=fun r hr=>(h.sb.sl r hr).1
 have e1:=aNd (v:=v) (l:=l) (m:=l.length) (by omega) K (off v l l.length) 0 K (by omega) (by omega)
 have e2:mp (fun j=>if j<0 then j+1 else 0) (off v l l.length)=mp (fun _=>(0:Nat)) (off v l l.length):=cF fun j _=>if_neg (by omega)
 rw [e2] at e1
 have e3:([]::mx (fun _=>z0) 0 (off v l l.length):List (List Rat))=[[]]:=rfl
 rw [e3] at e1
 simp only [Int.natCast_zero] at e1
 have hc:(1+9)*24*l.length≤400000000:=by omega
 have hp0:PB' 1 l.length p0:=fun r _=>⟨Bd.zero,Bd.zero⟩
 have e4:=aHc (f0:=f) (v0:=v) (p:=p0) h.sb.sd (show d.length≤1000 by omega) h.fbd hrb h.ir (by omega) hp0 (by omega) hc (show 2000≤K by omega)
 rw [←h.fmp] at e4
 have hb:=aFa (p:=p0) h.sb.sd h.fbd hrb h.ir hp0 (by omega) (by omega) (by omega) hc
 have e5:=aL7 (d:=d) (f:=f) (v:=v) h.sb.sl hb (by unfold aJu;omega) (by omega) (show 13≤K by omega) (off v l l.length) 0 K (by omega) (by omega)
 have e6:mp (fun j=>if j<0 then rv v l (mp (acc d (tA f) l p0) d.length) j else 0) (off v l l.length)=mp (fun _=>(0:Rat)) (off v l l.length):=cF fun j _=>if_neg (by omega)
 rw [e6] at e5
 simp only [Int.natCast_zero] at e5
 have e7:=aKA h hK (off v l l.length) 0 K (by omega) (by omega)
 have e8:rsl (gk (Mf d v l) 0) (off v l l.length)=rsl (fun _=>z0) (off v l l.length):=wI fun i c _ _=>if_neg (by omega)
 rw [e8] at e7
 simp only [Int.natCast_zero] at e7
 have e9:rsl (gk (Mf d v l) (off v l l.length)) (off v l l.length)=rsl (Mf d v l) (off v l l.length):=wI fun i c _ hc=>if_pos hc
 rw [e9] at e7
 simp only [lH,aBj h.sb.sv hrb (show l.length≤1000 by omega) (show 2000≤K by omega),oB,uT,aBW (z:=(0:Nat)) (n:=off v l l.length) (by omega),aBW (z:=(0:Rat)) (n:=off v l l.length) (by omega),e1,nK,aBW (z:=(⟨0,0⟩:aI)) (n:=l.length) (by omega),show mp (fun _=>(⟨0,0⟩:aI)) l.length=mp p0 l.length from rfl,e4,l8,e5,kT,aGd,e7,mD,aQc]
 rfl
end Go.Proofs.YtcjdedkdoagifaaGreat
set_option linter.unusedVariables false
namespace Go.Proofs.YtcjdedkdoagifaaGreat
/-- A number that is whole when it is multiplied so often. -/
def dn (D e M:Nat) (x:Rat):Prop:=isZ M (x*((D^e:Nat):Rat))
theorem dn.mono {D e M N:Nat} {x:Rat} (h:dn D e M x) (hn:M≤N):dn D e N x:=isZ.mono h hn
theorem dn.zero {D e M:Nat}:dn D e M 0:=⟨0,by rw [Rat.zero_mul];rfl,Nat.zero_le _⟩
theorem dn.add {D e M N:Nat} {x y:Rat} (h:dn D e M x) (k:dn D e N y):dn D e (M+N) (x+y):=by
 unfold dn;rw [Rat.add_mul];exact isZ.add h k
theorem dn.neg {D e M:Nat} {x:Rat} (h:dn D e M x):dn D e M (-x):=by
 obtain⟨q,h1,h2⟩:=h
 exact⟨-q,by rw [Rat.neg_mul,h1,Rat.intCast_neg],by omega⟩
theorem dn.mul {D e e' M N:Nat} {x y:Rat} (h:dn D e M x) (k:dn D e' N y):dn D (e+e') (M*N) (x*y):=by
 have:=isZ.mul h k
 unfold dn
 rw [Nat.pow_add,Rat.natCast_mul]
 have e2:x*y*(((D^e:Nat):Rat)*((D^e':Nat):Rat))=x*((D^e:Nat):Rat)*(y*((D^e':Nat):Rat)):=by
  rw [Rat.mul_assoc,←Rat.mul_assoc y,Rat.mul_comm y,Rat.mul_assoc ((D^e:Nat):Rat),←Rat.mul_assoc]
 rw [e2];exact this
theorem dn.up {D e M:Nat} {x:Rat} (h:dn D e M x):dn D (e+1) (M*D) x:=by
 have h1:dn D 1 D 1:=⟨(D:Int),by rw [Rat.one_mul,Nat.pow_one];rfl,by simp⟩
 have:=h.mul h1
 rwa [Rat.mul_one] at this
structure DD (D:Nat) (d:List aF) (f:Nat→Rat) (l:List aA):Prop where
 pos:1≤D
 inv:∀x∈d,dn D 1 (256*D) x.inv
 fl:∀j,j<d.length→dn D 1 (256*D) (f j)
 tj:∀r∈l,∀t∈r.j,dn D 1 (256*D) t.k
 tt:∀r∈l,∀t∈r.t,dn D 1 (256*D) t.k
 mu:∀r∈l,dn D 1 (256*D) r.mu
theorem aNf {D M:Nat} {j:Nat}:∀(l:List aC),(∀t∈l,dn D 1 M t.k)→dn D 1 (l.length*M) (cf l j)
 |[],_=>dn.zero
 |t::l,h=>by
  have h1:=aNf (j:=j) l fun t ht=>h t (List.mem_cons_of_mem _ ht)
  show dn D 1 ((l.length+1)*M) ((if t.dof=(j:Int) then t.k else 0)+cf l j)
  rw [Nat.succ_mul,Nat.add_comm]
  refine dn.add ?_ h1
  split
  ·exact h t List.mem_cons_self
  ·exact dn.zero
theorem aKl {D M e P:Nat} {l:List aA} {p:Nat→aI} {j:Nat} (hj:∀r∈l,∀t∈r.j,dn D 1 M t.k) (ht:∀r∈l,∀t∈r.t,dn D 1 M t.k) (hl:RsB l) (hp:∀r,r<l.length→dn D e P (p r).n∧dn D e P (p r).f):∀m,m≤l.length→dn D (1+e) (m*(24*M*P)) (wE l p m j)
 |0,_=>dn.zero
 |m+1,hm=>by
  have h1:=aKl (j:=j) hj ht hl hp m (by omega)
  have hr:=sY (l:=l) (i:=m) (by omega)
  obtain⟨p1,p2⟩:=hp m (by omega)
  have c1:=(aNf (j:=j) (m6 l m).j (hj _ hr)).mono (Nat.mul_le_mul_right M (hl _ hr).1.1)
  have c2:=(aNf (j:=j) (m6 l m).t (ht _ hr)).mono (Nat.mul_le_mul_right M (hl _ hr).2.1)
  have h2:=(c1.mul p1).add (c2.mul p2)
  show dn D (1+e) _ (wE l p m j+rcq l p m j)
  rw [Nat.succ_mul]
  exact h1.add (h2.mono (by rw [←Nat.add_mul,←Nat.add_mul];exact Nat.le_refl _))
theorem aNx {D M e A n:Nat} {a:Nat→Rat} (ha:∀j,j<n→dn D e A (a j)):∀(l:List aC) (x:Rat) (X:Nat),(∀t∈l,dn D 1 M t.k)→dn D (1+e) X x→dn D (1+e) (X+l.length*(M*A)) (rtf (mp a n) l x)
 |[],x,X,_,hx=>hx.mono (by simp)
 |t::l,x,X,h,hx=>by
  have h1:dn D (1+e) (M*A) (trm (mp a n) t):=by
   unfold trm
   rw [cJ]
   by_cases hc:0≤t.dof∧t.dof<(n:Int)
   ·rw [decide_eq_true hc]
    show dn D (1+e) _ (t.k*tA _ _)
    rw [aDS (by omega)]
    exact(h t List.mem_cons_self).mul (ha _ (by omega))
   ·rw [decide_eq_false hc];exact dn.zero
  have:=aNx ha l (x+trm (mp a n) t) (X+M*A) (fun t ht=>h t (List.mem_cons_of_mem _ ht)) (hx.add h1)
  refine this.mono ?_
  rw [List.length_cons,Nat.succ_mul];omega
theorem aPp {D M e A n:Nat} {a:Nat→Rat} (ha:∀j,j<n→dn D e A (a j)) {l:List aC} (hl:l.length≤12) (h:∀t∈l,dn D 1 M t.k):dn D (1+e) (12*(M*A)) (rt l (mp a n)):=
 (aNx ha l 0 0 h dn.zero).mono (by rw [Nat.zero_add];exact Nat.mul_le_mul_right _ hl)
theorem aPQ {D e A n k:Nat} {d:List aF} {f:Nat→Rat} {v:List Rat} {l:List aA} {a:Nat→Rat} (h:DD D d f l) (hl:RsB l) (ha:∀j,j<n→dn D e A (a j)) (hk:k<off v l l.length):dn D (1+e) (12*(256*D*A)) (rv v l (mp a n) k):=by
 obtain⟨r,q,h1,h2,h3⟩:=vG l.length k hk
 have hr:=sY h1
 have bj:=aPp ha (hl _ hr).1.1 (h.tj _ hr)
 have bt:=aPp ha (hl _ hr).2.1 (h.tt _ hr)
 rw [rv0 h2 h1 h3]
 split
 ·exact bj
 ·split
  ·exact bt
  ·split
   ·exact bt.neg
   ·exact dn.zero
theorem aGr {D k j:Nat}:dn D 0 1 (ek k j):=by
 unfold ek lG z0
 split
 ·exact⟨1,by rw [Rat.one_mul];rfl,by decide⟩
 ·exact dn.zero
theorem aRL {D:Nat} {d:List aF} {f:Nat→Rat} {v:List Rat} {l:List aA} (h:DD D d f l) {k r:Nat} (hr:r<l.length):dn D 1 (512*D) (pz v l (ek k) r).n∧dn D 1 (512*D) (pz v l (ek k) r).f:=by
 have h0:dn D 1 (1*D) (ek k (off v l r)):=aGr.up
 have hD:=h.pos
 unfold pz
 split
 ·exact⟨h0.mono (by omega),dn.zero⟩
 ·split
  ·refine⟨h0.mono (by omega),?_⟩
   have hb:=aJI (rt (m6 l r).t v)
   have c:dn D 0 1 (((-(rt (m6 l r).t v).num.sign:Int):Rat)/((1:Int):Rat)):=⟨-(rt (m6 l r).t v).num.sign,by
    rw [Rat.div_def,show(((1:Int):Rat))⁻¹=1 by decide+kernel,Nat.pow_zero,Rat.mul_one];exact Rat.mul_one _,by omega⟩
   have:=c.mul ((h.mu _ (sY hr)).mul (aGr (D:=D) (k:=k) (j:=off v l r)))
   exact this.mono (by omega)
  ·refine⟨h0.mono (by omega),?_⟩
   have:=(aGr (D:=D) (k:=k) (j:=off v l r+1)).add (aGr (D:=D) (k:=k) (j:=off v l r+2)).neg
   rw [←Rat.sub_eq_add_neg] at this
   exact this.up.mono (by omega)
theorem aML {D e P m:Nat} {d:List aF} {f g:Nat→Rat} {l:List aA} {p:Nat→aI} (h:DD D d f l) (hl:RsB l) (hm:l.length≤m) {X:Nat} (hg:∀j,j<d.length→dn D (1+e) X (g j)) (hp:∀r,r<l.length→dn D e P (p r).n∧dn D e P (p r).f):∀j,j<d.length→dn D (1+e+1) ((X+m*(24*(256*D)*P))*(256*D)) (acc d g l p j):=fun j hj=>
 ((hg j hj).add ((aKl h.tj h.tt hl hp l.length (Nat.le_refl _)).mono (Nat.mul_le_mul_right _ hm))).mul (h.inv _ (aCW hj))
theorem aSA {D k i:Nat} {d:List aF} {f:Nat→Rat} {v:List Rat} {l:List aA} (h:DD D d f l) (hi:i<off v l l.length):dn D 1 (300*D) (zv v l (ek k) i):=by
 obtain⟨r,q,h1,h2,h3⟩:=vG l.length i hi
 have hD:=h.pos
 have u:∀j,dn D 1 (1*D) (ek k j):=fun j=>aGr.up
 rw [zv0 h2 h1 h3]
 split
 ·exact dn.zero
 ·split
  ·exact(u _).mono (by omega)
  ·split
   ·exact(u _).mono (by omega)
   ·have:=((h.mu _ (sY h1)).mul (aGr (D:=D) (k:=k) (j:=i-3))).add ((u (i-2)).add (u (i-1))).neg
    rw [←Rat.sub_eq_add_neg] at this
    exact this.mono (by omega)
theorem four {D:Nat}:12*(256*D*((0+5*(24*(256*D)*(512*D)))*(256*D)))+300*D*D*D*D≤2^50*(D*D*D*D):=by
 have e:12*(256*D*((0+5*(24*(256*D)*(512*D)))*(256*D)))=(12*256*5*24*256*512*256)*(D*D*D*D):=by
  rw [Nat.zero_add]
  simp only [Nat.mul_assoc,Nat.mul_left_comm,Nat.mul_comm]
 have e2:300*D*D*D*D=300*(D*D*D*D):=by simp only [Nat.mul_assoc]
 rw [e,e2]
 generalize D*D*D*D=x
 omega
theorem aR0 {D:Nat} {d:List aF} {f:Nat→Rat} {v:List Rat} {l:List aA} (h:DD D d f l) (hl:RsB l) (hm:l.length≤5) {i k:Nat} (hi:i<off v l l.length):dn D 4 (2^50*(D*D*D*D)) (Mf d v l i k):=by
 have a:=aML (e:=1) (g:=z0) (X:=0) h hl hm (fun j _=>dn.zero) (fun r hr=>aRL (v:=v) (k:=k) h hr)
 have r:=aPQ (v:=v) h hl a hi
 have z:=(aSA (k:=k) h hi).up.up.up
 exact(r.add z).mono four
end Go.Proofs.YtcjdedkdoagifaaGreat
set_option linter.unusedVariables false
namespace Go.Proofs.YtcjdedkdoagifaaGreat
theorem aOe (x:Rat):x*((x.den:Nat):Rat)=(x.num:Rat):=by
 have h:((x.den:Nat):Rat)≠0:=fun e=>x.den_nz (by exact_mod_cast e)
 have e:x=(x.num:Rat)/((x.den:Nat):Rat):=by
  conv=>lhs;rw [←Rat.num_divInt_den x,Rat.divInt_eq_div]
  rfl
 conv=>lhs;lhs;rw [e]
 exact Rat.div_mul_cancel h
theorem aKG:∀xs:List Rat,(∀x∈xs,Bd 8 x)→∃D:Nat,1≤D∧D≤256^xs.length∧∀x∈xs,dn D 1 (256*D) x
 |[],_=>⟨1,Nat.le_refl _,Nat.le_refl _,fun x h=>absurd h List.not_mem_nil⟩
 |x::xs,h=>by
  obtain⟨D,h1,h2,h3⟩:=aKG xs fun y hy=>h y (List.mem_cons_of_mem _ hy)
  obtain⟨b1,b2⟩:=h x List.mem_cons_self
  have hp:=x.den_pos
  have hle:D*x.den≤256^(xs.length+1):=by
   rw [Nat.pow_succ];exact Nat.mul_le_mul h2 (by omega)
  refine⟨D*x.den,Nat.mul_pos h1 hp,hle,fun y hy=>?_⟩
  rcases List.mem_cons.1 hy with rfl|hy
  ·refine⟨y.num*D,?_,?_⟩
   ·rw [Nat.pow_one,Rat.natCast_mul,Rat.mul_comm (D:Rat),←Rat.mul_assoc,aOe,Rat.intCast_mul];rfl
   ·rw [Int.natAbs_mul,Int.natAbs_natCast]
    refine Nat.le_trans (Nat.mul_le_mul_right D (show y.num.natAbs≤256 by omega)) ?_
    exact Nat.mul_le_mul_left 256 (Nat.le_mul_of_pos_right D hp)
  ·obtain⟨q,q1,q2⟩:=h3 y hy
   refine⟨q*x.den,?_,?_⟩
   ·rw [Nat.pow_one] at q1 ⊢
    rw [Rat.natCast_mul,←Rat.mul_assoc,q1,Rat.intCast_mul];rfl
   ·rw [Int.natAbs_mul,Int.natAbs_natCast,←Nat.mul_assoc]
    exact Nat.mul_le_mul_right _ q2
def aLd (r:aA):List Rat:=r.mu::(r.j.map (·.k)++r.t.map (·.k))
def aNB (d:List aF) (f:Nat→Rat) (l:List aA):List Rat:=d.map (·.inv)++mp f d.length++l.flatMap aLd
theorem aMM {r:aA} (h:RB r):(aLd r).length≤25:=by
 have h1:=h.1.1
 have h2:=h.2.1
 unfold aLd
 simp only [List.length_cons,List.length_append,List.length_map]
 omega
theorem aF0:∀l:List aA,RsB l→(l.flatMap aLd).length≤25*l.length
 |[],_=>Nat.le_refl _
 |r::l,h=>by
  have h1:=aF0 l fun x hx=>h x (List.mem_cons_of_mem _ hx)
  have h2:=aMM (h r List.mem_cons_self)
  rw [List.flatMap_cons,List.length_append,List.length_cons]
  omega
theorem aSr {d:List aF} {f:Nat→Rat} {l:List aA} (hd:∀x∈d,Bd 8 x.inv) (hn:d.length≤12) (hf:∀j,j<d.length→Bd 8 (f j)) (hl:RsC l) (hm:l.length≤5):∃D,DD D d f l∧D≤256^149:=by
 have hrb:RsB l:=fun r hr=>(hl r hr).1
 obtain⟨D,h1,h2,h3⟩:=aKG (aNB d f l) fun x hx=>by
  unfold aNB at hx
  rcases List.mem_append.1 hx with hx|hx
  ·rcases List.mem_append.1 hx with hx|hx
   ·obtain⟨y,hy,rfl⟩:=List.mem_map.1 hx
    exact hd y hy
   ·exact aBw hf x hx
  ·obtain⟨r,hr,hx⟩:=List.mem_flatMap.1 hx
   unfold aLd at hx
   rcases List.mem_cons.1 hx with rfl|hx
   ·exact(hl r hr).2
   ·rcases List.mem_append.1 hx with hx|hx
    ·obtain⟨t,ht,rfl⟩:=List.mem_map.1 hx
     exact(hl r hr).1.1.2 t ht
    ·obtain⟨t,ht,rfl⟩:=List.mem_map.1 hx
     exact(hl r hr).1.2.2 t ht
 have hlen:(aNB d f l).length≤149:=by
  have:=aF0 l hrb
  unfold aNB
  simp only [List.length_append,List.length_map,cJ]
  omega
 have inR:∀r∈l,∀x∈aLd r,x∈aNB d f l:=fun r hr x hx=>List.mem_append.2 (.inr (List.mem_flatMap.2 ⟨r,hr,hx⟩))
 refine⟨D,⟨h1,fun x hx=>h3 _ (List.mem_append.2 (.inl (List.mem_append.2 (.inl (List.mem_map.2 ⟨x,hx,rfl⟩))))),fun j hj=>h3 _ (List.mem_append.2 (.inl (List.mem_append.2 (.inr (List.mem_map.2 ⟨j,List.mem_range.2 hj,rfl⟩))))),fun r hr t ht=>h3 _ (inR r hr _ ?_),fun r hr t ht=>h3 _ (inR r hr _ ?_),fun r hr=>h3 _ (inR r hr _ List.mem_cons_self)⟩,Nat.le_trans h2 (Nat.pow_le_pow_right (by omega) hlen)⟩
 ·exact List.mem_cons_of_mem _ (List.mem_append.2 (.inl (List.mem_map.2 ⟨t,ht,rfl⟩)))
 ·exact List.mem_cons_of_mem _ (List.mem_append.2 (.inr (List.mem_map.2 ⟨t,ht,rfl⟩)))
def zO (M:Nat→Nat→Rat) (q:Nat→Rat) (n i c:Nat):Rat:=
 if c<n then(if i=c then 1 else 0) else if c<2*n then -(M i (c-n)) else if c=2*n then -1 else q i
theorem aLO {M:Nat→Nat→Rat} {q:Nat→Rat} {n:Nat}:TI n (2*n+2) (zO M q n) (zO M q n) (fun j=>j):=TI.start (by omega) fun i j hi hj=>if_pos hj
theorem aQi {D e:Nat} (h:1≤D):dn D e (D^e) 1:=⟨((D^e:Nat):Int),by rw [Rat.one_mul];rfl,by simp⟩
theorem aRj {D:Nat} {d:List aF} {f:Nat→Rat} {v:List Rat} {l:List aA} (h:DD D d f l) (hl:RsB l) (hm:l.length≤5) {i:Nat} (hi:i<off v l l.length):dn D 4 (2^50*(D*D*D*D)) (qf d f v l i):=by
 have a:=aML (e:=0) (g:=f) (P:=0) (p:=p0) h hl hm h.fl (fun r hr=>⟨dn.zero,dn.zero⟩)
 have r:=(aPQ (v:=v) h hl a hi).up
 refine r.mono ?_
 have e:12*(256*D*((256*D+5*(24*(256*D)*0))*(256*D)))*D=(12*256*256*256)*(D*D*D*D):=by
  simp only [Nat.mul_zero,Nat.add_zero]
  simp only [Nat.mul_assoc,Nat.mul_left_comm,Nat.mul_comm]
 rw [e]
 generalize D*D*D*D=x
 omega
theorem aQM {D:Nat} {d:List aF} {f:Nat→Rat} {v:List Rat} {l:List aA} (h:DD D d f l) (hl:RsB l) (hm:l.length≤5) {i c:Nat} (hi:i<off v l l.length):dn D 4 (2^50*(D*D*D*D)) (zO (Mf d v l) (qf d f v l) (off v l l.length) i c):=by
 have hD:=h.pos
 have o:dn D 4 (2^50*(D*D*D*D)) (1:Rat):=(aQi hD).mono (by
  have:D^4=D*D*D*D:=by simp [Nat.pow_succ]
  rw [this]
  generalize D*D*D*D=x
  omega)
 unfold zO
 split
 ·split
  ·exact o
  ·exact dn.zero
 ·split
  ·exact(aR0 h hl hm hi).neg
  ·split
   ·exact o.neg
   ·exact aRj h hl hm hi
end Go.Proofs.YtcjdedkdoagifaaGreat
set_option linter.unusedVariables false
namespace Go.Proofs.YtcjdedkdoagifaaGreat
/-- The rows of a tableau as they lie. -/
structure aAL (n w:Nat) (rs:List (List Rat)) (od:Nat→Nat) (T:Nat→Nat→Rat):Prop where
 lt:∀i,i<n→od i<rs.length
 inj:∀i j,i<n→j<n→od i=od j→i=j
 row:∀i,i<n→rs.getD (od i) []=mp (T i) w
def wL (n j:Nat):Nat:=if j=0 then 2*n+1 else j-1
def lx (T:Nat→Nat→Rat) (n i:Nat) (c:Rat) (k:Nat) (d:Rat):Nat→Nat→Bool
 |0,_=>false
 |t+1,j=>bif decide (T i (wL n j)/c=T k (wL n j)/d) then lx T n i c k d t (j+1) else decide (T i (wL n j)/c<T k (wL n j)/d)
def les (T:Nat→Nat→Rat) (n i:Nat) (c:Rat) (k:Nat) (d:Rat):Bool:=lx T n i c k d (n+1) 0
theorem aKV {m k:Nat} {a b:Rat} (ha:Bd m a) (hb:Bd k b) (hm:m≤1073741824) (hk:k≤1073741824):aFI a b=some (if a<b then -1 else if b<a then 1 else 0):=by
 unfold aFI;rw [ha.qs hm,hb.qs hk];rfl
theorem aDz {a b:Rat}:((if a<b then -1 else if b<a then 1 else 0:Int)=0↔a=b)∧decide ((if a<b then -1 else if b<a then 1 else 0:Int)<0)=decide (a<b):=by
 by_cases h:a<b
 ·rw [if_pos h]
  refine⟨⟨fun h2=>absurd h2 (by decide),fun h2=>?_⟩,by rw [decide_eq_true h];rfl⟩
  rw [h2] at h;exact absurd h (Rat.lt_irrefl)
 ·rw [if_neg h]
  by_cases h2:b<a
  ·rw [if_pos h2]
   refine⟨⟨fun h3=>absurd h3 (by decide),fun h3=>?_⟩,by rw [decide_eq_false h];rfl⟩
   rw [h3] at h2;exact absurd h2 (Rat.lt_irrefl)
  ·rw [if_neg h2]
   exact⟨⟨fun _=>Rat.le_antisymm (Rat.not_lt.1 h2) (Rat.not_lt.1 h),fun _=>rfl⟩,by rw [decide_eq_false h];rfl⟩
theorem aKS {n j:Nat} (h:j≤n):wL n j<2*n+2:=by unfold wL;split<;>omega
theorem aGw {n:Nat} {rs:List (List Rat)} {od:Nat→Nat} {T:Nat→Nat→Rat} (hr:aAL n (2*n+2) rs od T) {B C:Nat} (hT:Bdx n (2*n+2) B T) {i k:Nat} (hi:i<n) (hk:k<n) {c d:Rat} (hc:Bd C c) (hd:Bd C d) (hBC:B+C≤500000000) (hn:n≤1000) (K:Nat):
  ∀(t j fu:Nat),j+t=n+1→t<fu→bB K (i:Int) c (k:Int) d (n:Int) (mp od n) rs fu ((j:Int)-1)=some (.ret (lx T n i c k d t j))∨(lx T n i c k d t j=false∧bB K (i:Int) c (k:Int) d (n:Int) (mp od n) rs fu ((j:Int)-1)=some (.go ()))
 |0,j,fu,hj,hf=>by
  obtain⟨fu',rfl,_⟩:=bG hf
  refine .inr ⟨rfl,?_⟩
  simp only [bB,dF (show¬(j:Int)-1<(n:Int) by omega),bV]
 |t+1,j,fu,hj,hf=>by
  obtain⟨fu',rfl,_⟩:=bG hf
  have hl:=aKS (n:=n) (j:=j) (by omega)
  have b1:=(hT i _ hi hl).div hc
  have b2:=(hT k _ hk hl).div hd
  have ih:=aGw hr hT hi hk hc hd hBC hn K t (j+1) fu' (by omega) (by omega)
  have key:eF K (i:Int) c (k:Int) d (mp od n) rs ((j:Int)-1) (bB K (i:Int) c (k:Int) d (n:Int) (mp od n) rs fu') ((wL n j:Nat):Int)=bif decide (T i (wL n j)/c=T k (wL n j)/d) then bB K (i:Int) c (k:Int) d (n:Int) (mp od n) rs fu' (((j+1:Nat):Int)-1) else some (.ret (decide (T i (wL n j)/c<T k (wL n j)/d))):=by
   simp only [eF,eG (f:=od) hi,eG (f:=od) hk,oB,hr.row i hi,hr.row k hk,eG (f:=T i) hl,eG (f:=T k) hl,aBL (hT i _ hi hl) hc (by omega) (by omega),aBL (hT k _ hk hl) hd (by omega) (by omega),aKV b1 b2 (by omega) (by omega)]
   by_cases h:T i (wL n j)/c=T k (wL n j)/d
   ·rw [nF (aDz.1.2 h),bV,decide_eq_true h,cC,lL (by omega),oB]
    congr 1
    omega
   ·rw [nT (fun h2=>h (aDz.1.1 h2)),cC,decide_eq_false h,bV,aDz.2]
  have main:bB K (i:Int) c (k:Int) d (n:Int) (mp od n) rs (fu'+1) ((j:Int)-1)=bif decide (T i (wL n j)/c=T k (wL n j)/d) then bB K (i:Int) c (k:Int) d (n:Int) (mp od n) rs fu' (((j+1:Nat):Int)-1) else some (.ret (decide (T i (wL n j)/c<T k (wL n j)/d))):=by
   rw [←key]
   by_cases h0:j=0
   ·subst h0
    have c1:aY (2*(n:Int))=some (2*(n:Int)):=lL (by omega)
    have c2:aY (2*(n:Int)+1)=some ((wL n 0:Nat):Int):=by
     rw [lL (by omega)];congr 1
    simp only [bB,dT (show((0:Nat):Int)-1<(n:Int) by omega),cC,dT (show((0:Nat):Int)-1<0 by omega),c1,c2,oB]
   ·have e:((wL n j:Nat):Int)=(j:Int)-1:=by unfold wL;rw [if_neg h0];omega
    rw [e]
    simp only [bB,dT (show(j:Int)-1<(n:Int) by omega),cC,dF (show¬(j:Int)-1<0 by omega),bV]
  rw [main]
  have el:lx T n i c k d (t+1) j=bif decide (T i (wL n j)/c=T k (wL n j)/d) then lx T n i c k d t (j+1) else decide (T i (wL n j)/c<T k (wL n j)/d):=rfl
  rw [el]
  by_cases h:T i (wL n j)/c=T k (wL n j)/d
  ·rw [decide_eq_true h,cC,cC];exact ih
  ·rw [decide_eq_false h,bV,bV];exact .inl rfl
theorem aH0 {n:Nat} {rs:List (List Rat)} {od:Nat→Nat} {T:Nat→Nat→Rat} {a6:List Int} (hr:aAL n (2*n+2) rs od T) {B C:Nat} (hT:Bdx n (2*n+2) B T) {i k:Nat} (hi:i<n) (hk:k<n) {c d:Rat} (hc:Bd C c) (hd:Bd C d) (hBC:B+C≤500000000) (hn:n≤1000) {K:Nat} (hK:2000≤K):eJ K (i:Int) c (k:Int) d (n:Int) (mp od n) a6 rs=some (les T n i c k d):=by
 have:=aGw hr hT hi hk hc hd hBC hn K (n+1) 0 K (by omega) (by omega)
 rw [show((0:Nat):Int)-1=-1 from rfl] at this
 rcases this with h|⟨h1,h2⟩
 ·simp only [eJ,h,oB];rfl
 ·simp only [eJ,h2,oB,jV]
  exact congrArg some h1.symm
def kf (T:Nat→Nat→Rat) (n i:Nat) (c:Rat) (j:Nat):Rat:=T i (wL n j)/c
theorem aJ4 {n:Nat} {T:Nat→Nat→Rat} {B C i:Nat} {c:Rat} (hT:Bdx n (2*n+2) B T) (hi:i<n) (hc:Bd C c) (hB:B≤1073741824) (hC:C≤1073741824) (hn:n≤1000) (K:Nat):∀(t j fu:Nat),j+t=n→t<fu→jP K (mp (T i) (2*n+2)) (n:Int) c fu (mp (kf T n i c) (j+1)) (j:Int)=some (mp (kf T n i c) (n+1))
 |0,j,fu,hj,hf=>by
  obtain⟨fu',rfl,_⟩:=bG hf
  have e:j=n:=by omega
  subst e
  simp only [jP,dF (show¬(j:Int)<(j:Int) by omega),bV]
 |t+1,j,fu,hj,hf=>by
  obtain⟨fu',rfl,_⟩:=bG hf
  have e:kf T n i c (j+1)=T i j/c:=by unfold kf wL;rw [if_neg (by omega),Nat.add_sub_cancel]
  have ap:=apM (g:=kf T n i c) (i:=j+1) (by omega)
  rw [e] at ap
  simp only [jP,dT (show(j:Int)<(n:Int) by omega),cC,eG (f:=T i) (n:=2*n+2) (i:=j) (by omega),oB,aBL (hT i j hi (by omega)) hc hB hC,ap,oF (i:=j) (by omega)]
  exact aJ4 hT hi hc hB hC hn K t (j+1) fu' (by omega) (by omega)
theorem aGG {n:Nat} {T:Nat→Nat→Rat} {B C i:Nat} {c:Rat} (hT:Bdx n (2*n+2) B T) (hi:i<n) (hc:Bd C c) (hB:B≤1073741824) (hC:C≤1073741824) (hn:n≤1000) {K:Nat} (hK:2000≤K):lB K (mp (T i) (2*n+2)) (n:Int) c=some (mp (kf T n i c) (n+1)):=by
 have:=aJ4 hT hi hc hB hC hn K n 0 K (by omega) (by omega)
 simp only [Int.natCast_zero] at this
 have c1:aY (2*(n:Int))=some (2*(n:Int)):=lL (by omega)
 have c2:aY (2*(n:Int)+1)=some ((2*n+1:Nat):Int):=by rw [lL (by omega)];congr 1
 have e:[T i (2*n+1)/c]=mp (kf T n i c) (0+1):=rfl
 simp only [lB,c1,c2,oB,eG (f:=T i) (n:=2*n+2) (i:=2*n+1) (by omega),aBL (hT i (2*n+1) hi (by omega)) hc hB hC,e,this,rD]
theorem aGt {n:Nat} {T:Nat→Nat→Rat} {B C i k:Nat} {c d:Rat} (hT:Bdx n (2*n+2) B T) (hi:i<n) (hk:k<n) (hc:Bd C c) (hd:Bd C d) (hBC:B+C≤500000000) (hn:n≤1000) (K:Nat):∀(t j fu:Nat),j+t=n+1→t<fu→fN K (mp (kf T n i c) (n+1)) (mp (kf T n k d) (n+1)) fu (j:Int)=some (.ret (lx T n i c k d t j))∨(lx T n i c k d t j=false∧fN K (mp (kf T n i c) (n+1)) (mp (kf T n k d) (n+1)) fu (j:Int)=some (.go ()))
 |0,j,fu,hj,hf=>by
  obtain⟨fu',rfl,_⟩:=bG hf
  refine .inr ⟨rfl,?_⟩
  simp only [fN,cJ,dF (show¬(j:Int)<((n+1:Nat):Int) by omega),bV]
 |t+1,j,fu,hj,hf=>by
  obtain⟨fu',rfl,_⟩:=bG hf
  have hl:=aKS (n:=n) (j:=j) (by omega)
  have b1:Bd (B+C) (kf T n i c j):=(hT i _ hi hl).div hc
  have b2:Bd (B+C) (kf T n k d j):=(hT k _ hk hl).div hd
  have ih:=aGt hT hi hk hc hd hBC hn K t (j+1) fu' (by omega) (by omega)
  have el:lx T n i c k d (t+1) j=bif decide (kf T n i c j=kf T n k d j) then lx T n i c k d t (j+1) else decide (kf T n i c j<kf T n k d j):=rfl
  rw [el]
  simp only [fN,cJ,dT (show(j:Int)<((n+1:Nat):Int) by omega),cC,eG (f:=kf T n i c) (n:=n+1) (i:=j) (by omega),eG (f:=kf T n k d) (n:=n+1) (i:=j) (by omega),oB,aKV b1 b2 (by omega) (by omega)]
  by_cases h:kf T n i c j=kf T n k d j
  ·rw [nF (aDz.1.2 h),bV,decide_eq_true h,cC,oF (i:=j) (by omega),oB];exact ih
  ·rw [nT (fun h2=>h (aDz.1.1 h2)),cC,decide_eq_false h,bV,aDz.2];exact .inl rfl
theorem aGa {n:Nat} {T:Nat→Nat→Rat} {B C i k:Nat} {c d:Rat} (hT:Bdx n (2*n+2) B T) (hi:i<n) (hk:k<n) (hc:Bd C c) (hd:Bd C d) (hBC:B+C≤500000000) (hn:n≤1000) {K:Nat} (hK:2000≤K):kE K (mp (kf T n i c) (n+1)) (mp (kf T n k d) (n+1))=some (les T n i c k d):=by
 have:=aGt hT hi hk hc hd hBC hn K (n+1) 0 K (by omega) (by omega)
 simp only [Int.natCast_zero] at this
 rcases this with h|⟨h1,h2⟩
 ·simp only [kE,h,oB];rfl
 ·simp only [kE,h2,oB,pA]
  exact congrArg some h1.symm
end Go.Proofs.YtcjdedkdoagifaaGreat
set_option linter.unusedVariables false
namespace Go.Proofs.YtcjdedkdoagifaaGreat
def zP (T:Nat→Nat→Rat) (r c k:Nat):Rat:=T r k/T r c
theorem aHI {n w r c B:Nat} {T:Nat→Nat→Rat} (hT:Bdx n w B T) (hr:r<n) (hc:c<w) (hB:B≤500000000) (hw:w≤100000) (K:Nat):∀(t k fu:Nat),k+t=w→t<fu→iO K (mx T n w) (r:Int) (c:Int) fu (mp (zP T r c) k) (k:Int)=some (mp (zP T r c) w)
 |0,k,fu,hk,hf=>by
  obtain⟨fu',rfl,_⟩:=bG hf
  have e:k=w:=by omega
  subst e
  simp only [iO,aCk (g:=T) (w:=k) hr,oB,cJ,dF (show¬(k:Int)<(k:Int) by omega),bV]
 |t+1,k,fu,hk,hf=>by
  obtain⟨fu',rfl,_⟩:=bG hf
  have hkw:k<w:=by omega
  have ap:=apM (g:=zP T r c) (i:=k) (by omega)
  simp only [iO,aCk (g:=T) (w:=w) hr,oB,cJ,dT (show(k:Int)<(w:Int) by omega),cC,eG (f:=T r) hkw,eG (f:=T r) hc,aBL (hT r k hr hkw) (hT r c hr hc) (by omega) (by omega),show T r k/T r c=zP T r c k from rfl,ap,oF (i:=k) (by omega)]
  exact aHI hT hr hc hB hw K t (k+1) fu' (by omega) (by omega)
theorem aJ1 {n w r c B k:Nat} {T:Nat→Nat→Rat} (hT:Bdx n w B T) (hr:r<n) (hc:c<w) (hk:k<w):Bd (B+B) (zP T r c k):=(hT r k hr hk).div (hT r c hr hc)
theorem aID {n w r c i B:Nat} {T:Nat→Nat→Rat} (hT:Bdx n w B T) (hr:r<n) (hc:c<w) (hi:i<n) (hne:i≠r) (hB:B≤200000000) (hw:w≤100000) (K:Nat):∀(t k fu:Nat),k+t=w→t<fu→iG K (mx T n w) (c:Int) (mp (zP T r c) w) (i:Int) fu (mp (zS T r c i) k) (k:Int)=some (mp (zS T r c i) w)
 |0,k,fu,hk,hf=>by
  obtain⟨fu',rfl,_⟩:=bG hf
  have e:k=w:=by omega
  subst e
  simp only [iG,cJ,dF (show¬(k:Int)<(k:Int) by omega),bV]
 |t+1,k,fu,hk,hf=>by
  obtain⟨fu',rfl,_⟩:=bG hf
  have hkw:k<w:=by omega
  have ap:=apM (g:=zS T r c i) (i:=k) (by omega)
  have e:T i k-T i c*zP T r c k=zS T r c i k:=by unfold zS zP;rw [if_neg hne]
  have b:=aJ1 hT hr hc hkw
  have b2:=hT i c hi hc
  simp only [iG,cJ,dT (show(k:Int)<(w:Int) by omega),cC,aCk (g:=T) (w:=w) hi,oB,eG (f:=T i) hkw,eG (f:=T i) hc,eG (f:=zP T r c) hkw,uF b2 b (by omega) (by omega),aAH (hT i k hi hkw) (b2.mul b) (by omega) (by omega),e,ap,oF (i:=k) (by omega)]
  exact aID hT hr hc hi hne hB hw K t (k+1) fu' (by omega) (by omega)
theorem aHD {n w r c B:Nat} {T:Nat→Nat→Rat} (hT:Bdx n w B T) (hr:r<n) (hc:c<w) (hB:B≤200000000) (hw:w≤100000) (hn:n≤100000) {K:Nat} (hK:w<K):∀(t i fu:Nat),i+t=n→t<fu→dQ K (mx T n w) (r:Int) (c:Int) (mp (zP T r c) w) fu (mx (zS T r c) i w) (i:Int)=some (mx (zS T r c) n w)
 |0,i,fu,hk,hf=>by
  obtain⟨fu',rfl,_⟩:=bG hf
  have e:i=n:=by omega
  subst e
  simp only [dQ,wD,dF (show¬(i:Int)<(i:Int) by omega),bV]
 |t+1,i,fu,hk,hf=>by
  obtain⟨fu',rfl,_⟩:=bG hf
  have hin:i<n:=by omega
  have ap:oT (mx (zS T r c) i w) [mp (zS T r c i) w]=some (mx (zS T r c) (i+1) w):=apM (g:=fun i=>mp (zS T r c i) w) (by omega)
  have ih:=aHD hT hr hc hB hw hn hK t (i+1) fu' (by omega) (by omega)
  by_cases e:i=r
  ·have e2:mp (zP T r c) w=mp (zS T r c i) w:=cF fun k _=>by unfold zS zP;rw [if_pos e]
   simp only [dQ,wD,dT (show(i:Int)<(n:Int) by omega),cC,qT (show(i:Int)=(r:Int) by omega)]
   rw [e2] at ih ⊢
   simp only [ap,oB,oF (i:=i) (by omega)]
   exact ih
  ·have h82:=aID hT hr hc hin e hB hw K w 0 K (by omega) hK
   simp only [Int.natCast_zero,aAO] at h82
   simp only [dQ,wD,dT (show(i:Int)<(n:Int) by omega),cC,qF (show(i:Int)≠(r:Int) by omega),bV,h82,oB,pK,ap,oF (i:=i) (by omega)]
   exact ih
theorem aOk {n w r c B:Nat} {T:Nat→Nat→Rat} (hT:Bdx n w B T) (hr:r<n) (hc:c<w) (hB:B≤200000000) (hw:w≤100000) (hn:n≤100000) {K:Nat} (hK:w+n<K):pZ K (mx T n w) (r:Int) (c:Int)=some (mx (zS T r c) n w):=by
 have e1:=aHI hT hr hc (by omega) hw K w 0 K (by omega) (by omega)
 have e2:=aHD hT hr hc hB hw hn (K:=K) (by omega) n 0 K (by omega) (by omega)
 have e3:mx (zS T r c) 0 w=[]:=rfl
 rw [e3] at e2
 simp only [Int.natCast_zero,aAO] at e1 e2
 simp only [pZ,e1,oB,oY,e2,o9]
theorem aQt {xs ys:List Rat} (h:xs.length=ys.length):cpL xs ys=ys:=by
 unfold cpL
 rw [h,Nat.min_self,List.take_length,←h,List.drop_length,List.append_nil]
theorem aFy {rs:List (List Rat)} {o p:Nat} {x:List Rat} (ho:o<rs.length):(rs.set o x).getD p []=if p=o then x else rs.getD p []:=by
 rw [List.getD_eq_getElem?_getD,List.getD_eq_getElem?_getD,List.getElem?_set]
 by_cases h:o=p
 ·subst h;rw [if_pos rfl,if_pos ho,if_pos rfl];rfl
 ·rw [if_neg h,if_neg (fun e=>h e.symm)]
theorem aAL.set {n w:Nat} {rs:List (List Rat)} {od:Nat→Nat} {T:Nat→Nat→Rat} (h:aAL n w rs od T) {i:Nat} (hi:i<n) (f:Nat→Rat):aAL n w (rs.set (od i) (mp f w)) od (lG T i f):=
 ⟨fun j hj=>by rw [List.length_set];exact h.lt j hj,h.inj,fun j hj=>by
  rw [aFy (h.lt i hi)]
  by_cases e:j=i
  ·subst e;rw [if_pos rfl,bS]
  ·rw [if_neg (fun e2=>e (h.inj j i hj hi e2)),dW e]
   exact h.row j hj⟩
theorem aAL.congr {n w:Nat} {rs:List (List Rat)} {od:Nat→Nat} {T T':Nat→Nat→Rat} (h:aAL n w rs od T) (e:∀i k,i<n→k<w→T i k=T' i k):aAL n w rs od T':=
 ⟨h.lt,h.inj,fun i hi=>by rw [h.row i hi];exact cF fun k hk=>e i k hi hk⟩
theorem aIb {w v27 B:Nat} {a5:List (List Rat)} {x22:List Rat} {g:Nat→Rat} {p:Rat} (hx:cpL x22 (a5.getD v27 [])=mp g w) (hg:∀k,k<w→Bd B (g k)) (hp:Bd B p) (hB:B≤1073741824) (hw:w≤100000) (K:Nat):∀(t k fu:Nat),k+t=w→t<fu→dC K a5 x22 v27 p fu (mp (fun j=>if j<k then g j/p else g j) w) (k:Int)=some (mp (fun j=>g j/p) w)
 |0,k,fu,hk,hf=>by
  obtain⟨fu',rfl,_⟩:=bG hf
  have e:k=w:=by omega
  subst e
  simp only [dC,hx,cJ,dF (show¬(k:Int)<(k:Int) by omega),bV]
  exact congrArg some (cF fun j hj=>if_pos hj)
 |t+1,k,fu,hk,hf=>by
  obtain⟨fu',rfl,_⟩:=bG hf
  have hkw:k<w:=by omega
  have e1:(fun j=>if j<k then g j/p else g j) k=g k:=if_neg (by omega)
  have e2:mp (lG (fun j=>if j<k then g j/p else g j) k (g k/p)) w=mp (fun j=>if j<k+1 then g j/p else g j) w:=cF fun j _=>by
   by_cases e:j=k
   ·subst e;rw [bS,if_pos (by omega)]
   ·rw [dW e]
    by_cases hlt:j<k
    ·rw [if_pos hlt,if_pos (by omega)]
    ·rw [if_neg hlt,if_neg (by omega)]
  simp only [dC,hx,cJ,dT (show(k:Int)<(w:Int) by omega),cC,eG (f:=fun j=>if j<k then g j/p else g j) hkw,e1,oB,aBL (hg k hkw) hp hB hB,t6 (f:=fun j=>if j<k then g j/p else g j) hkw,e2,oF (i:=k) (by omega)]
  exact aIb hx hg hp hB hw K t (k+1) fu' (by omega) (by omega)
theorem aGB {w o B:Nat} {a5 x66:List (List Rat)} {g q:Nat→Rat} {x:Rat} (ho:o<x66.length) (hne:a5.length≠o) (h66:x66.getD o []=mp g w) (hq:x66.getD a5.length []=mp q w) (hg:∀k,k<w→Bd B (g k)) (hqb:∀k,k<w→Bd (B+B) (q k)) (hx:Bd B x) (hB:B≤200000000) (hw:w≤100000) (K:Nat):∀(t k fu:Nat),k+t=w→t<fu→cY K a5 x66 o x fu (x66.set o (mp (fun j=>if j<k then g j-x*q j else g j) w)) (k:Int)=some (x66.set o (mp (fun j=>g j-x*q j) w))
 |0,k,fu,hk,hf=>by
  obtain⟨fu',rfl,_⟩:=bG hf
  have e:k=w:=by omega
  subst e
  simp only [cY,h66,cJ,dF (show¬(k:Int)<(k:Int) by omega),bV]
  exact congrArg (fun z=>some (x66.set o z)) (cF fun j hj=>if_pos hj)
 |t+1,k,fu,hk,hf=>by
  obtain⟨fu',rfl,_⟩:=bG hf
  have hkw:k<w:=by omega
  have e1:(fun j=>if j<k then g j-x*q j else g j) k=g k:=if_neg (by omega)
  have e2:mp (lG (fun j=>if j<k then g j-x*q j else g j) k (g k-x*q k)) w=mp (fun j=>if j<k+1 then g j-x*q j else g j) w:=cF fun j _=>by
   by_cases e:j=k
   ·subst e;rw [bS,if_pos (by omega)]
   ·rw [dW e]
    by_cases hlt:j<k
    ·rw [if_pos hlt,if_pos (by omega)]
    ·rw [if_neg hlt,if_neg (by omega)]
  have r1:(x66.set o (mp (fun j=>if j<k then g j-x*q j else g j) w)).getD o []=mp (fun j=>if j<k then g j-x*q j else g j) w:=by rw [aFy ho,if_pos rfl]
  have r2:(x66.set o (mp (fun j=>if j<k then g j-x*q j else g j) w)).getD a5.length []=mp q w:=by rw [aFy ho,if_neg hne];exact hq
  simp only [cY,h66,cJ,dT (show(k:Int)<(w:Int) by omega),cC,r1,r2,eG (f:=fun j=>if j<k then g j-x*q j else g j) hkw,eG (f:=q) hkw,e1,oB,uF hx (hqb k hkw) (by omega) (by omega),aAH (hg k hkw) (hx.mul (hqb k hkw)) (by omega) (by omega),t6 (f:=fun j=>if j<k then g j-x*q j else g j) hkw,e2,List.set_set,oF (i:=k) (by omega)]
  exact aGB ho hne h66 hq hg hqb hx hB hw K t (k+1) fu' (by omega) (by omega)
def pst (T:Nat→Nat→Rat) (r c t i k:Nat):Rat:=if i<t∨i=r then zS T r c i k else T i k
theorem aLR {T:Nat→Nat→Rat} {r c t:Nat}:∀i k,(lG (pst T r c t) t (zS T r c t)) i k=pst T r c (t+1) i k:=fun i k=>by
 by_cases e:i=t
 ·subst e;rw [bS];unfold pst;rw [if_pos (.inl (by omega))]
 ·rw [dW e];unfold pst
  by_cases h:i<t∨i=r
  ·rw [if_pos h,if_pos (by omega)]
  ·rw [if_neg h,if_neg (by omega)]
theorem aIz {T:Nat→Nat→Rat} {r c t:Nat} (h:t=r∨T t c=0):∀i k,pst T r c t i k=pst T r c (t+1) i k:=fun i k=>by
 unfold pst
 by_cases h1:i<t∨i=r
 ·rw [if_pos h1,if_pos (by omega)]
 ·rw [if_neg h1]
  by_cases e:i=t
  ·subst e
   have h2:T i c=0:=by rcases h with h|h;exact absurd (.inr h) h1;exact h
   rw [if_pos (.inl (by omega))]
   unfold zS
   rw [if_neg (fun e=>h1 (.inr e)),h2,Rat.zero_mul,Rat.sub_eq_add_neg,Rat.neg_zero,Rat.add_zero]
  ·rw [if_neg (by omega)]
theorem aCM {n w r c B:Nat} {a5:List (List Rat)} {od:Nat→Nat} {T:Nat→Nat→Rat} (hT:Bdx n w B T) (hr:r<n) (hc:c<w) (hor:od r=a5.length) (hB:B≤200000000) (hw:w≤100000) (hn:n≤100000) {K:Nat} (hK:w<K):∀(t i fu:Nat) (rs:List (List Rat)),i+t=n→t<fu→aAL n w rs od (pst T r c i)→∃rs',bL K (r:Int) (c:Int) a5 (mp od n) fu rs (i:Int)=some rs'∧aAL n w rs' od (zS T r c)
 |0,i,fu,rs,hk,hf,h=>by
  obtain⟨fu',rfl,_⟩:=bG hf
  have e:i=n:=by omega
  subst e
  refine⟨rs,by simp only [bL,cJ,dF (show¬(i:Int)<(i:Int) by omega),bV],h.congr fun j k hj _=>if_pos (.inl hj)⟩
 |t+1,i,fu,rs,hk,hf,h=>by
  obtain⟨fu',rfl,_⟩:=bG hf
  have hin:i<n:=by omega
  have hrow:=h.row i hin
  by_cases e:i=r
  ·obtain⟨rs',g1,g2⟩:=aCM hT hr hc hor hB hw hn hK t (i+1) fu' rs (by omega) (by omega) (h.congr fun j k _ _=>aIz (.inl e) j k)
   refine⟨rs',?_,g2⟩
   simp only [bL,cJ,dT (show(i:Int)<(n:Int) by omega),cC,eG (f:=od) hin,oB,hrow,eG (f:=pst T r c i i) hc,qT (show(i:Int)=(r:Int) by omega),oF (i:=i) (by omega)]
   exact g1
  ·have ei:pst T r c i i=T i:=by funext k;unfold pst;rw [if_neg (by omega)]
   rw [ei] at hrow
   by_cases hz:T i c=0
   ·obtain⟨rs',g1,g2⟩:=aCM hT hr hc hor hB hw hn hK t (i+1) fu' rs (by omega) (by omega) (h.congr fun j k _ _=>aIz (.inr hz) j k)
    refine⟨rs',?_,g2⟩
    simp only [bL,cJ,dT (show(i:Int)<(n:Int) by omega),cC,eG (f:=od) hin,oB,hrow,eG (f:=T i) hc,qF (show(i:Int)≠(r:Int) by omega),bV,o7 (hT i c hin hc) (by omega),qT (aHp.2 hz),oF (i:=i) (by omega)]
    exact g1
   ·have hne:a5.length≠od i:=fun h2=>e (h.inj i r hin hr (by rw [←h2,hor]))
    have hq:rs.getD a5.length []=mp (zP T r c) w:=by
     rw [←hor,h.row r hr]
     exact cF fun k _=>by unfold pst zS zP;rw [if_pos (.inr rfl),if_pos rfl]
    have h112:=aGB (h.lt i hin) hne hrow hq (fun k hk=>hT i k hin hk) (fun k hk=>aJ1 hT hr hc hk) (hT i c hin hc) hB hw K w 0 K (by omega) hK
    have e0:rs.set (od i) (mp (fun j=>if j<0 then T i j-T i c*zP T r c j else T i j) w)=rs:=by
     have e9:mp (fun j=>if j<0 then T i j-T i c*zP T r c j else T i j) w=rs.getD (od i) []:=by
      rw [hrow];exact cF fun j _=>if_neg (by omega)
     rw [e9,List.getD_eq_getElem?_getD,List.getElem?_eq_getElem (h.lt i hin),Option.getD_some,List.set_getElem_self]
    rw [e0] at h112
    simp only [Int.natCast_zero] at h112
    have e1:mp (fun j=>T i j-T i c*zP T r c j) w=mp (zS T r c i) w:=cF fun j _=>by unfold zS zP;rw [if_neg e]
    rw [e1] at h112
    obtain⟨rs',g1,g2⟩:=aCM hT hr hc hor hB hw hn hK t (i+1) fu' _ (by omega) (by omega) ((h.set hin (zS T r c i)).congr fun j k _ _=>aLR j k)
    refine⟨rs',?_,g2⟩
    simp only [bL,cJ,dT (show(i:Int)<(n:Int) by omega),cC,eG (f:=od) hin,oB,hrow,eG (f:=T i) hc,qF (show(i:Int)≠(r:Int) by omega),bV,o7 (hT i c hin hc) (by omega),qF (fun h2=>hz (aHp.1 h2)),h112,iW,oF (i:=i) (by omega)]
    exact g1
theorem aNO {n w r c B:Nat} {rs:List (List Rat)} {od b:Nat→Nat} {T:Nat→Nat→Rat} {a2:Int} (h:aAL n w rs od T) (hT:Bdx n w B T) (hr:r<n) (hc:c<w) (hB:B≤200000000) (hw:w≤100000) (hn:n≤100000) {K:Nat} (hK:w+n<K):∃rs' od',iQ K (r:Int) (c:Int) a2 (mp od n) (mp (fun i=>((b i:Nat):Int)) n) rs=some (((b r:Nat):Int),mp od' n,mp (fun i=>((lG b r c i:Nat):Int)) n,rs')∧aAL n w rs' od' (zS T r c):=by
 have hrow:=h.row r hr
 have hcp:cpL (mp (fun _=>(0:Rat)) w) (rs.getD (od r) [])=mp (T r) w:=by rw [hrow];exact aQt (by rw [cJ,cJ])
 have h53:=aIb hcp (fun k hk=>hT r k hr hk) (hT r c hr hc) (by omega) hw K w 0 K (by omega) (by omega)
 have e0:mp (fun j=>if j<0 then T r j/T r c else T r j) w=mp (T r) w:=cF fun j _=>if_neg (by omega)
 rw [e0] at h53
 have h0:aAL n w (rs++[mp (zP T r c) w]) (lG od r rs.length) (pst T r c 0):=by
  refine⟨fun i hi=>?_,fun i j hi hj e=>?_,fun i hi=>?_⟩
  ·by_cases e:i=r
   ·rw [e,bS];simp
   ·rw [dW e];have:=h.lt i hi;simp;omega
  ·by_cases e1:i=r
   ·by_cases e2:j=r
    ·rw [e1,e2]
    ·rw [e1,bS,dW e2] at e;have:=h.lt j hj;omega
   ·by_cases e2:j=r
    ·rw [e2,bS,dW e1] at e;have:=h.lt i hi;omega
    ·rw [dW e1,dW e2] at e;exact h.inj i j hi hj e
  ·by_cases e:i=r
   ·rw [e,bS,List.getD_eq_getElem?_getD,List.getElem?_append_right (Nat.le_refl _),Nat.sub_self]
    show mp (zP T r c) w=_
    exact cF fun k _=>by unfold pst zS zP;rw [if_pos (.inr rfl),if_pos rfl]
   ·have hl:=h.lt i hi
    rw [dW e,List.getD_eq_getElem?_getD,List.getElem?_append_left hl,←List.getD_eq_getElem?_getD,h.row i hi]
    exact cF fun k _=>by unfold pst;rw [if_neg (by omega)]
 obtain⟨rs',g1,g2⟩:=aCM (a5:=rs) hT hr hc bS hB hw hn (K:=K) (by omega) n 0 K _ (by omega) (by omega) h0
 simp only [Int.natCast_zero] at h53 g1
 have e3:mp (fun j=>T r j/T r c) w=mp (zP T r c) w:=rfl
 rw [e3] at h53
 have e4:mp (lG (fun i=>((b i:Nat):Int)) r (c:Int)) n=mp (fun i=>((lG b r c i:Nat):Int)) n:=cF fun i _=>by
  by_cases e:i=r
  ·rw [e,bS,bS]
  ·rw [dW e,dW e]
 refine⟨rs',lG od r rs.length,?_,g2⟩
 simp only [iQ,eG (f:=od) hr,oB,hrow,cJ,aBW (z:=(0:Rat)) (n:=w) (by omega)]
 rw [←hrow,hcp]
 simp only [eG (f:=T r) hc,oB,h53,jG,eG (f:=od) hr,t6 (f:=od) hr,g1,jE,eG (f:=fun i=>((b i:Nat):Int)) hr,t6 (f:=fun i=>((b i:Nat):Int)) hr,e4]
end Go.Proofs.YtcjdedkdoagifaaGreat
set_option linter.unusedVariables false
namespace Go.Proofs.YtcjdedkdoagifaaGreat
def enc (s:Option Nat):Int:=match s with|none=>-1|some r=>(r:Int)
def sel (T:Nat→Nat→Rat) (n c:Nat):Nat→Nat→Option Nat→Option Nat
 |0,_,s=>s
 |t+1,i,s=>bif decide (0<(T i c).num.sign) then(match s with
  |none=>sel T n c t (i+1) (some i)
  |some r=>bif les T n i (T i c) r (T r c) then sel T n c t (i+1) (some i) else sel T n c t (i+1) (some r)) else sel T n c t (i+1) s
theorem aBa {T:Nat→Nat→Rat} {n c:Nat}:∀t i s r,(∀q,s=some q→q<i∧0<(T q c).num.sign)→sel T n c t i s=some r→r<i+t∧0<(T r c).num.sign
 |0,i,s,r,h,e=>by have:=h r e;exact⟨by omega,this.2⟩
 |t+1,i,s,r,h,e=>by
  unfold sel at e
  by_cases hp:0<(T i c).num.sign
  ·rw [decide_eq_true hp,cC] at e
   have hi:∀q,some i=some q→q<i+1∧0<(T q c).num.sign:=fun q hq=>by cases hq;exact⟨by omega,hp⟩
   cases s with
   |none=>have:=aBa t (i+1) (some i) r hi e;exact⟨by omega,this.2⟩
   |some p=>
    have hs:∀q,some p=some q→q<i+1∧0<(T q c).num.sign:=fun q hq=>by have:=h q hq;exact⟨by omega,this.2⟩
    simp only at e
    cases hl:les T n i (T i c) p (T p c)
    ·rw [hl,bV] at e;have:=aBa t (i+1) (some p) r hs e;exact⟨by omega,this.2⟩
    ·rw [hl,cC] at e;have:=aBa t (i+1) (some i) r hi e;exact⟨by omega,this.2⟩
  ·rw [decide_eq_false hp,bV] at e
   have:=aBa t (i+1) s r (fun q hq=>by have:=h q hq;exact⟨by omega,this.2⟩) e
   exact⟨by omega,this.2⟩
theorem aGq {n c B:Nat} {rs:List (List Rat)} {od:Nat→Nat} {T:Nat→Nat→Rat} {v6:Int×(List Nat)×(List Int)×(List (List Rat))} {x:Int} {bs:List Int} (h6:v6.1=(n:Int)) (h:aAL n (2*n+2) rs od T) (hT:Bdx n (2*n+2) B T) (hc:c<2*n+2) (hB:B≤200000000) (hn:n≤1000) {K:Nat} (hK:2000≤K):∀(t i fu:Nat) (s:Option Nat),i+t=n→t<fu→(∀q,s=some q→q<i)→dP K v6 (x,mp od n,bs,rs) (c:Int) fu (enc s) (i:Int)=some (enc (sel T n c t i s))
 |0,i,fu,s,hi,hf,hs=>by
  obtain⟨fu',rfl,_⟩:=bG hf
  simp only [dP,cJ,dF (show¬(i:Int)<(n:Int) by omega),bV,sel]
 |t+1,i,fu,s,hi,hf,hs=>by
  obtain⟨fu',rfl,_⟩:=bG hf
  have hin:i<n:=by omega
  have hb:=hT i c hin hc
  have ih:=fun s hs=>aGq (x:=x) (bs:=bs) h6 h hT hc hB hn hK t (i+1) fu' s (by omega) (by omega) hs
  simp only [dP,cJ,dT (show(i:Int)<(n:Int) by omega),cC,eG (f:=od) hin,oB,h.row i hin,eG (f:=T i) hc,o7 hb (by omega),sel]
  by_cases hp:0<(T i c).num.sign
  ·simp only [dT hp,cC]
   cases s with
   |none=>
    simp only [enc,dT (show(-1:Int)<0 by omega),cC,oF (i:=i) (by omega),oB]
    exact ih (some i) (fun q hq=>by cases hq;omega)
   |some p=>
    have hpn:p<n:=by have:=hs p rfl;omega
    have hl:=aH0 (a6:=bs) h hT hin hpn hb (hT p c hpn hc) (by omega) hn hK
    simp only [enc,dF (show¬(p:Int)<0 by omega),bV,eG (f:=od) hpn,h.row p hpn,eG (f:=T p) hc,oB,h6,hl]
    cases les T n i (T i c) p (T p c)
    ·simp only [bV,oF (i:=i) (by omega),oB]
     exact ih (some p) (fun q hq=>by have:=hs q hq;omega)
    ·simp only [cC,oF (i:=i) (by omega),oB]
     exact ih (some i) (fun q hq=>by cases hq;omega)
  ·simp only [dF hp,bV,oF (i:=i) (by omega),oB]
   exact ih s (fun q hq=>by have:=hs q hq;omega)
theorem aF4 {n c B:Nat} {T:Nat→Nat→Rat} {a1:List Rat} (h1:a1.length=n) (hT:Bdx n (2*n+2) B T) (hc:c<2*n+2) (hB:B≤200000000) (hn:n≤1000) {K:Nat} (hK:2000≤K):∀(t i fu:Nat) (s:Option Nat),i+t=n→t<fu→(∀q,s=some q→q<i)→dE K a1 (mx T n (2*n+2)) (c:Int) fu (enc s) (i:Int)=some (enc (sel T n c t i s))
 |0,i,fu,s,hi,hf,hs=>by
  obtain⟨fu',rfl,_⟩:=bG hf
  simp only [dE,h1,dF (show¬(i:Int)<(n:Int) by omega),bV,sel]
 |t+1,i,fu,s,hi,hf,hs=>by
  obtain⟨fu',rfl,_⟩:=bG hf
  have hin:i<n:=by omega
  have hb:=hT i c hin hc
  have ih:=fun s hs=>aF4 h1 hT hc hB hn hK t (i+1) fu' s (by omega) (by omega) hs
  simp only [dE,h1,dT (show(i:Int)<(n:Int) by omega),cC,aCk (g:=T) (w:=2*n+2) hin,oB,eG (f:=T i) hc,o7 hb (by omega),sel]
  by_cases hp:0<(T i c).num.sign
  ·simp only [dT hp,dF (show¬(T i c).num.sign≤0 by omega),cC,bV]
   cases s with
   |none=>
    simp only [enc,dT (show(-1:Int)<0 by omega),cC,oF (i:=i) (by omega),oB]
    exact ih (some i) (fun q hq=>by cases hq;omega)
   |some p=>
    have hpn:p<n:=by have:=hs p rfl;omega
    have hbp:=hT p c hpn hc
    have hl:=aGa hT hin hpn hb hbp (by omega) hn hK
    simp only [enc,dF (show¬(p:Int)<0 by omega),bV,aGG hT hin hb (by omega) (by omega) hn hK,aCk (g:=T) (w:=2*n+2) hpn,eG (f:=T p) hc,oB,aGG hT hpn hbp (by omega) (by omega) hn hK,hl]
    cases les T n i (T i c) p (T p c)
    ·simp only [bV,oF (i:=i) (by omega),oB]
     exact ih (some p) (fun q hq=>by have:=hs q hq;omega)
    ·simp only [cC,oF (i:=i) (by omega),oB]
     exact ih (some i) (fun q hq=>by cases hq;omega)
  ·simp only [dF hp,dT (show(T i c).num.sign≤0 by omega),cC,bV,oF (i:=i) (by omega),oB]
   exact ih s (fun q hq=>by have:=hs q hq;omega)
def swv (T:Nat→Nat→Rat) (b:Nat→Nat) (n:Nat):Nat→Nat→Rat
 |0=>z0
 |i+1=>if b i<n then lG (swv T b n i) (b i) (T i (2*n+1)) else swv T b n i
def szv (T:Nat→Nat→Rat) (b:Nat→Nat) (n:Nat):Nat→Nat→Rat
 |0=>z0
 |i+1=>if b i<n then szv T b n i else if b i<2*n then lG (szv T b n i) (b i-n) (T i (2*n+1)) else szv T b n i
theorem aIg {n:Nat} {rs:List (List Rat)} {od b:Nat→Nat} {T:Nat→Nat→Rat} (h:aAL n (2*n+2) rs od T) (hn:n≤1000) (K:Nat):∀(t i fu:Nat),i+t=n→t<fu→bT K (n:Int) (mp od n) (mp (fun i=>((b i:Nat):Int)) n) rs fu (mp (swv T b n i) n) (mp (szv T b n i) n) (i:Int)=some (mp (swv T b n n) n,mp (szv T b n n) n)
 |0,i,fu,hi,hf=>by
  obtain⟨fu',rfl,_⟩:=bG hf
  have e:i=n:=by omega
  subst e
  simp only [bT,cJ,dF (show¬(i:Int)<(i:Int) by omega),bV]
 |t+1,i,fu,hi,hf=>by
  obtain⟨fu',rfl,_⟩:=bG hf
  have hin:i<n:=by omega
  have ih:=aIg (b:=b) h hn K t (i+1) fu' (by omega) (by omega)
  have c1:aY (2*(n:Int))=some (2*(n:Int)):=lL (by omega)
  have c2:aY (2*(n:Int)+1)=some ((2*n+1:Nat):Int):=by rw [lL (by omega)];congr 1
  simp only [bT,cJ,dT (show(i:Int)<(n:Int) by omega),cC,eG (f:=fun i=>((b i:Nat):Int)) hin,eG (f:=od) hin,oB,c1,c2,h.row i hin,eG (f:=T i) (n:=2*n+2) (i:=2*n+1) (by omega)]
  by_cases h1:b i<n
  ·have e1:swv T b n (i+1)=lG (swv T b n i) (b i) (T i (2*n+1)):=if_pos h1
   have e2:szv T b n (i+1)=szv T b n i:=if_pos h1
   rw [e1,e2] at ih
   simp only [dT (show((b i:Nat):Int)<(n:Int) by omega),cC,eG (f:=swv T b n i) h1,t6 (f:=swv T b n i) h1,oB,oF (i:=i) (by omega)]
   exact ih
  ·have e1:swv T b n (i+1)=swv T b n i:=if_neg h1
   by_cases h2:b i<2*n
   ·have e2:szv T b n (i+1)=lG (szv T b n i) (b i-n) (T i (2*n+1)):=by
     show(if b i<n then _ else _)=_
     rw [if_neg h1,if_pos h2]
    have c3:aY (((b i:Nat):Int)-(n:Int))=some ((b i-n:Nat):Int):=by rw [show((b i:Nat):Int)-(n:Int)=((b i-n:Nat):Int) by omega,lL (by omega)]
    rw [e1,e2] at ih
    simp only [dF (show¬((b i:Nat):Int)<(n:Int) by omega),bV,dT (show((b i:Nat):Int)<2*(n:Int) by omega),cC,c3,oB,eG (f:=szv T b n i) (n:=n) (i:=b i-n) (by omega),t6 (f:=szv T b n i) (n:=n) (i:=b i-n) (by omega),oF (i:=i) (by omega)]
    exact ih
   ·have e2:szv T b n (i+1)=szv T b n i:=by
     show(if b i<n then _ else _)=_
     rw [if_neg h1,if_neg h2]
    rw [e1,e2] at ih
    simp only [dF (show¬((b i:Nat):Int)<(n:Int) by omega),bV,dF (show¬((b i:Nat):Int)<2*(n:Int) by omega),oF (i:=i) (by omega),oB]
    exact ih
theorem aJN {n:Nat} {rs:List (List Rat)} {od b:Nat→Nat} {T:Nat→Nat→Rat} (h:aAL n (2*n+2) rs od T) (hn:n≤1000) {K:Nat} (hK:2000≤K):fE K (n:Int) (mp od n) (mp (fun i=>((b i:Nat):Int)) n) rs=some ⟨mp (szv T b n n) n,mp (swv T b n n) n,0⟩:=by
 have:=aIg (b:=b) h hn K n 0 K (by omega) (by omega)
 simp only [Int.natCast_zero] at this
 have e:mp (fun _=>(0:Rat)) n=mp (swv T b n 0) n:=rfl
 have e2:mp (swv T b n 0) n=mp (szv T b n 0) n:=rfl
 simp only [fE,aBW (z:=(0:Rat)) (n:=n) (by omega),oB,e]
 rw [show bT K (n:Int) (mp od n) (mp (fun i=>((b i:Nat):Int)) n) rs K (mp (swv T b n 0) n) (mp (swv T b n 0) n) 0=_ from this]
 rfl
theorem aGj {n:Nat} {b:Nat→Nat} {T:Nat→Nat→Rat} {a1:List Rat} (h1:a1.length=n) (hb:∀i,i<n→b i<2*n) (hn:n≤1000) (K:Nat):∀(t i fu:Nat),i+t=n→t<fu→dZ K a1 (mx T n (2*n+2)) (mp (fun i=>((b i:Nat):Int)) n) fu (mp (swv T b n i) n) (mp (szv T b n i) n) (i:Int)=some (mp (swv T b n n) n,mp (szv T b n n) n)
 |0,i,fu,hi,hf=>by
  obtain⟨fu',rfl,_⟩:=bG hf
  have e:i=n:=by omega
  subst e
  simp only [dZ,h1,dF (show¬(i:Int)<(i:Int) by omega),bV]
 |t+1,i,fu,hi,hf=>by
  obtain⟨fu',rfl,_⟩:=bG hf
  have hin:i<n:=by omega
  have ih:=aGj (T:=T) h1 hb hn K t (i+1) fu' (by omega) (by omega)
  have c1:aY (2*(n:Int))=some (2*(n:Int)):=lL (by omega)
  have c2:aY (2*(n:Int)+1)=some ((2*n+1:Nat):Int):=by rw [lL (by omega)];congr 1
  have h2:=hb i hin
  simp only [dZ,h1,dT (show(i:Int)<(n:Int) by omega),cC,eG (f:=fun i=>((b i:Nat):Int)) hin,oB]
  by_cases h3:b i<n
  ·have e1:swv T b n (i+1)=lG (swv T b n i) (b i) (T i (2*n+1)):=if_pos h3
   have e2:szv T b n (i+1)=szv T b n i:=if_pos h3
   rw [e1,e2] at ih
   simp only [dT (show((b i:Nat):Int)<(n:Int) by omega),cC,aCk (g:=T) (w:=2*n+2) hin,c1,c2,oB,eG (f:=T i) (n:=2*n+2) (i:=2*n+1) (by omega),eG (f:=swv T b n i) h3,t6 (f:=swv T b n i) h3,oF (i:=i) (by omega)]
   exact ih
  ·have e1:swv T b n (i+1)=swv T b n i:=if_neg h3
   have e2:szv T b n (i+1)=lG (szv T b n i) (b i-n) (T i (2*n+1)):=by
    show(if b i<n then _ else _)=_
    rw [if_neg h3,if_pos h2]
   have c3:aY (((b i:Nat):Int)-(n:Int))=some ((b i-n:Nat):Int):=by rw [show((b i:Nat):Int)-(n:Int)=((b i-n:Nat):Int) by omega,lL (by omega)]
   rw [e1,e2] at ih
   simp only [dF (show¬((b i:Nat):Int)<(n:Int) by omega),bV,c3,aCk (g:=T) (w:=2*n+2) hin,c1,c2,oB,eG (f:=T i) (n:=2*n+2) (i:=2*n+1) (by omega),eG (f:=szv T b n i) (n:=n) (i:=b i-n) (by omega),t6 (f:=szv T b n i) (n:=n) (i:=b i-n) (by omega),oF (i:=i) (by omega)]
   exact ih
end Go.Proofs.YtcjdedkdoagifaaGreat
set_option linter.unusedVariables false
namespace Go.Proofs.YtcjdedkdoagifaaGreat
/-- The run from a tableau on. -/
def lem (n most:Nat):Nat→(Nat→Nat→Rat)→(Nat→Nat)→Nat→Nat→Nat→aX×Int
 |0,_,_,_,_,_=>(⟨[],[],0⟩,16)
 |f+1,T,b,r,c,cnt=>
  if cnt=most then(⟨[],[],0⟩,16)
  else if b r=2*n then(⟨mp (szv (zS T r c) (lG b r c) n n) n,mp (swv (zS T r c) (lG b r c) n n) n,((cnt+1:Nat):Int)⟩,0)
  else match sel (zS T r c) n (if b r<n then b r+n else b r-n) n 0 none with
   |none=>(⟨[],[],0⟩,15)
   |some r'=>lem n most f (zS T r c) (lG b r c) r' (if b r<n then b r+n else b r-n) (cnt+1)
structure LI (n:Nat) (Z T:Nat→Nat→Rat) (b:Nat→Nat) (r c:Nat):Prop where
 ti:TI n (2*n+2) Z T b
 hr:r<n
 hc:c≤2*n
 hp:T r c≠0
 hb:∀j,j<n→b j≤2*n
 fst:c=2*n→b r≠2*n
theorem TI.inj {n w:Nat} {Z T:Nat→Nat→Rat} {b:Nat→Nat} (h:TI n w Z T b) {i j:Nat} (hi:i<n) (hj:j<n) (e:b i=b j):i=j:=by
 by_cases h1:i=j
 ·exact h1
 ·have a:=h.un i i hi hi
  have c:=h.un i j hi hj
  rw [if_pos rfl,e] at a
  rw [if_neg h1,a] at c
  exact absurd c (by decide)
theorem aJm {n x:Nat} (hx:x≤2*n) (hne:x≠2*n):(if x<n then x+n else x-n)<2*n:=by split<;>omega
theorem LI.next {n:Nat} {Z T:Nat→Nat→Rat} {b:Nat→Nat} {r c r':Nat} (h:LI n Z T b r c) (hne:b r≠2*n) (hs:sel (zS T r c) n (if b r<n then b r+n else b r-n) n 0 none=some r'):LI n Z (zS T r c) (lG b r c) r' (if b r<n then b r+n else b r-n):=by
 have hlt:=aJm (h.hb r h.hr) hne
 obtain⟨s1,s2⟩:=aBa n 0 none r' (fun q hq=>by cases hq) hs
 refine⟨h.ti.pivot h.hr (by have:=h.hc;omega) h.hp,by omega,by omega,fun e=>?_,fun j hj=>?_,fun e=>by omega⟩
 ·rw [e] at s2;exact absurd s2 (by decide)
 ·by_cases e:j=r
  ·rw [e,bS];exact h.hc
  ·rw [dW e];exact h.hb j hj
def Sm (n B:Nat) (Z:Nat→Nat→Rat):Prop:=∀T b,TI n (2*n+2) Z T b→Bdx n (2*n+2) B T
theorem aSk {n most B:Nat} {Z:Nat→Nat→Rat} {v6:Int×(List Nat)×(List Int)×(List (List Rat))} (h6:v6.1=(n:Int)) (hZ:Sm n B Z) (hB:B≤200000000) (hn:n≤1000) (hm:most≤100000) {K:Nat} (hK:5000≤K):∀(f cnt fu:Nat) (rs:List (List Rat)) (od:Nat→Nat) (T:Nat→Nat→Rat) (b:Nat→Nat) (r c:Nat),cnt+f=most+1→0<f→f≤fu→aAL n (2*n+2) rs od T→LI n Z T b r c→
  dJ K (most:Int) v6 fu (mp od n) (mp (fun i=>((b i:Nat):Int)) n) rs (r:Int) (c:Int) (cnt:Int)=some (.ret (lem n most f T b r c cnt))
 |0,cnt,fu,rs,od,T,b,r,c,hc,h0,hf,hR,h=>by omega
 |f+1,cnt,fu,rs,od,T,b,r,c,hc,h0,hf,hR,h=>by
  obtain⟨fu',rfl,hf'⟩:=bG (show f<fu by omega)
  unfold lem
  by_cases e:cnt=most
  ·rw [if_pos e]
   simp only [dJ,qT (show(cnt:Int)=(most:Int) by omega),cC]
  ·rw [if_neg e]
   have hcw:=h.hc
   have hT:=hZ T b h.ti
   have ti':=h.ti.pivot h.hr (show c<2*n+2 by omega) h.hp
   have hT':=hZ _ _ ti'
   obtain⟨rs',od',p1,p2⟩:=aNO (b:=b) (a2:=v6.1) hR hT h.hr (show c<2*n+2 by omega) hB (by omega) (by omega) (K:=K) (by omega)
   have hbr:=h.hb r h.hr
   have c1:aY (2*(n:Int))=some (2*(n:Int)):=lL (by omega)
   rw [h6] at p1
   simp only [dJ,qF (show(cnt:Int)≠(most:Int) by omega),bV,h6,p1,oB,c1]
   by_cases e2:b r=2*n
   ·rw [if_pos e2]
    simp only [qT (show((b r:Nat):Int)=2*(n:Int) by omega),cC,aJN (b:=lG b r c) p2 hn (show 2000≤K by omega),oB,oF (i:=cnt) (by omega)]
   ·rw [if_neg e2]
    have hlt:=aJm hbr e2
    have c2:aY (((b r:Nat):Int)+(n:Int))=some ((b r+n:Nat):Int):=by rw [lL (by omega)];rfl
    have hsel:=aGq (v6:=v6) (x:=((b r:Nat):Int)) (bs:=mp (fun i=>((lG b r c i:Nat):Int)) n) h6 p2 hT' (show(if b r<n then b r+n else b r-n)<2*n+2 by omega) hB hn (show 2000≤K by omega) n 0 K none (by omega) (by omega) (fun q hq=>by cases hq)
    simp only [Int.natCast_zero,show enc none=(-1:Int) from rfl] at hsel
    have key:jX K v6 (cnt:Int) (((b r:Nat):Int),mp od' n,mp (fun i=>((lG b r c i:Nat):Int)) n,rs') (dJ K (most:Int) v6 fu') (((if b r<n then b r+n else b r-n:Nat)):Int)=some (.ret (match sel (zS T r c) n (if b r<n then b r+n else b r-n) n 0 none with|none=>(⟨[],[],0⟩,15)|some r'=>lem n most f (zS T r c) (lG b r c) r' (if b r<n then b r+n else b r-n) (cnt+1))):=by
     simp only [jX,hsel,oB,o8]
     cases hs:sel (zS T r c) n (if b r<n then b r+n else b r-n) n 0 none with
     |none=>rfl
     |some r'=>
      simp only [enc,dF (show¬(r':Int)<0 by omega),bV,oF (i:=cnt) (by omega),oB]
      exact aSk h6 hZ hB hn hm hK f (cnt+1) fu' rs' od' _ _ r' _ (by omega) (by omega) (by omega) p2 (h.next e2 hs)
    simp only [qF (show((b r:Nat):Int)≠2*(n:Int) by omega),bV,c2,oB]
    by_cases h3:b r<n
    ·rw [if_pos h3] at key
     simp only [dF (show¬(n:Int)≤((b r:Nat):Int) by omega),bV,if_pos h3]
     exact key
    ·rw [if_neg h3] at key
     have c3:aY (((b r:Nat):Int)-(n:Int))=some ((b r-n:Nat):Int):=by rw [show((b r:Nat):Int)-(n:Int)=((b r-n:Nat):Int) by omega,lL (by omega)]
     simp only [dT (show(n:Int)≤((b r:Nat):Int) by omega),cC,c3,oB,if_neg h3]
     exact key
theorem aRH {n most B:Nat} {Z:Nat→Nat→Rat} {a1:List Rat} (h1:a1.length=n) (hZ:Sm n B Z) (hB:B≤200000000) (hn:n≤1000) (hm:most≤100000) {K:Nat} (hK:5000≤K):∀(f cnt fu:Nat) (T:Nat→Nat→Rat) (b:Nat→Nat) (r c:Nat),cnt+f=most+1→0<f→f≤fu→LI n Z T b r c→
  fO K a1 (most:Int) fu (mp (fun i=>((b i:Nat):Int)) n) (mx T n (2*n+2)) (r:Int) (c:Int) (cnt:Int)=some (.ret (lem n most f T b r c cnt))
 |0,cnt,fu,T,b,r,c,hc,h0,hf,h=>by omega
 |f+1,cnt,fu,T,b,r,c,hc,h0,hf,h=>by
  obtain⟨fu',rfl,hf'⟩:=bG (show f<fu by omega)
  unfold lem
  by_cases e:cnt=most
  ·rw [if_pos e]
   simp only [fO,qT (show(cnt:Int)=(most:Int) by omega),cC]
  ·rw [if_neg e]
   have hcw:=h.hc
   have hr:=h.hr
   have hT:=hZ T b h.ti
   have ti':=h.ti.pivot h.hr (show c<2*n+2 by omega) h.hp
   have hT':=hZ _ _ ti'
   have p1:=aOk hT h.hr (show c<2*n+2 by omega) hB (by omega) (by omega) (K:=K) (by omega)
   have hbr:=h.hb r h.hr
   have c1:aY (2*(n:Int))=some (2*(n:Int)):=lL (by omega)
   have e4:mp (lG (fun i=>((b i:Nat):Int)) r (c:Int)) n=mp (fun i=>((lG b r c i:Nat):Int)) n:=cF fun i _=>by
    by_cases e:i=r
    ·rw [e,bS,bS]
    ·rw [dW e,dW e]
   simp only [fO,qF (show(cnt:Int)≠(most:Int) by omega),bV,p1,oB,oF (i:=cnt) (by omega),eG (f:=fun i=>((b i:Nat):Int)) hr,t6 (f:=fun i=>((b i:Nat):Int)) hr,e4,h1,c1]
   by_cases e2:b r=2*n
   ·rw [if_pos e2]
    have hb2:∀i,i<n→lG b r c i<2*n:=fun i hi=>by
     by_cases ei:i=r
     ·rw [ei,bS]
      have:=h.fst
      by_cases ec:c=2*n
      ·exact absurd e2 (this ec)
      ·omega
     ·rw [dW ei]
      have h5:=h.hb i hi
      by_cases e6:b i=2*n
      ·exact absurd (h.ti.inj hi hr (by rw [e6,e2])) ei
      ·omega
    have hs:=aGj (T:=zS T r c) h1 hb2 hn K n 0 K (by omega) (by omega)
    simp only [Int.natCast_zero] at hs
    have z1:mp (fun _=>(0:Rat)) n=mp (swv (zS T r c) (lG b r c) n 0) n:=rfl
    have hs':dZ K a1 (mx (zS T r c) n (2*n+2)) (mp (fun i=>((lG b r c i:Nat):Int)) n) K (mp (fun _=>(0:Rat)) n) (mp (fun _=>(0:Rat)) n) 0=some (mp (swv (zS T r c) (lG b r c) n n) n,mp (szv (zS T r c) (lG b r c) n n) n):=hs
    simp only [qT (show((b r:Nat):Int)=2*(n:Int) by omega),cC,aBW (z:=(0:Rat)) (n:=n) (by omega),oB,hs',n0]
   ·rw [if_neg e2]
    have hlt:=aJm hbr e2
    have c2:aY (((b r:Nat):Int)+(n:Int))=some ((b r+n:Nat):Int):=by rw [lL (by omega)];rfl
    have c3:xF ((b r+n:Nat):Int) (2*(n:Int))=some (((if b r<n then b r+n else b r-n:Nat)):Int):=by
     rw [oP (by omega) (by omega)]
     congr 1
     by_cases h3:b r<n
     ·rw [if_pos h3,Int.emod_eq_of_lt (by omega) (by omega)]
     ·rw [if_neg h3,show((b r+n:Nat):Int)=((b r-n:Nat):Int)+2*(n:Int) by omega,Int.add_emod_right,Int.emod_eq_of_lt (by omega) (by omega)]
    have hsel:=aF4 h1 hT' (show(if b r<n then b r+n else b r-n)<2*n+2 by omega) hB hn (show 2000≤K by omega) n 0 K none (by omega) (by omega) (fun q hq=>by cases hq)
    simp only [Int.natCast_zero,show enc none=(-1:Int) from rfl] at hsel
    simp only [qF (show((b r:Nat):Int)≠2*(n:Int) by omega),bV,c2,oB,c3,hsel,nZ]
    cases hs:sel (zS T r c) n (if b r<n then b r+n else b r-n) n 0 none with
    |none=>rfl
    |some r'=>
     simp only [enc,dF (show¬(r':Int)<0 by omega),bV]
     exact aRH h1 hZ hB hn hm hK f (cnt+1) fu' _ _ r' _ (by omega) (by omega) (by omega) (h.next e2 hs)
end Go.Proofs.YtcjdedkdoagifaaGreat
set_option linter.unusedVariables false
namespace Go.Proofs.YtcjdedkdoagifaaGreat
theorem aHP {l:List Rat} {B:Nat} (hl:xT B l) (hB:B≤1073741824) (hn:l.length≤1000) (K:Nat):∀(t i k:Nat),i+t=l.length→t<k→kC K l k (i:Int)=some (.go ())
 |0,i,k,hi,hk=>by
  obtain⟨k',rfl,_⟩:=bG hk
  simp only [kC,dF (show¬(i:Int)<(l.length:Int) by omega),bV]
 |t+1,i,k,hi,hk=>by
  obtain⟨k',rfl,_⟩:=bG hk
  simp only [kC,dT (show(i:Int)<(l.length:Int) by omega),cC,aIx (l:=l) (i:=i) (by omega),oB,xP (hl _ (xM (l:=l) (i:=i) (by omega))) hB,Bool.not_true,bV,oF (i:=i) (by omega)]
  exact aHP hl hB hn K t (i+1) k' (by omega) (by omega)
theorem aIV {l:List Rat} {B:Nat} (hl:xT B l) (hB:B≤1073741824) (hn:l.length≤1000) {K:Nat} (hK:l.length<K):pD K l=some true:=by
 have:=aHP hl hB hn K l.length 0 K (by omega) hK
 simp only [Int.natCast_zero] at this
 simp only [pD,this,oB,sK]
theorem aFQ {l:List Rat} {B:Nat} (hl:xT B l) (hB:B≤1073741824) (hn:l.length≤1000) (K:Nat):∀(t i k:Nat),i+t=l.length→t<k→jS K l k (i:Int)=some (.go ())
 |0,i,k,hi,hk=>by
  obtain⟨k',rfl,_⟩:=bG hk
  simp only [jS,dF (show¬(i:Int)<(l.length:Int) by omega),bV]
 |t+1,i,k,hi,hk=>by
  obtain⟨k',rfl,_⟩:=bG hk
  simp only [jS,dT (show(i:Int)<(l.length:Int) by omega),cC,aIx (l:=l) (i:=i) (by omega),oB,xP (hl _ (xM (l:=l) (i:=i) (by omega))) hB,Bool.not_true,bV,oF (i:=i) (by omega)]
  exact aFQ hl hB hn K t (i+1) k' (by omega) (by omega)
theorem aGF {l:List Rat} {B:Nat} (hl:xT B l) (hB:B≤1073741824) (hn:l.length≤1000) {K:Nat} (hK:l.length<K):nR K l=some true:=by
 have:=aFQ hl hB hn K l.length 0 K (by omega) hK
 simp only [Int.natCast_zero] at this
 simp only [nR,this,oB,rK]
theorem aF3 {M:Nat→Nat→Rat} {q:Nat→Rat} {n B:Nat} (hM:Bdx n n B M) (hB:B≤1073741824) (hn:n≤32) {K:Nat} (hK:100≤K):∀(t i k:Nat),i+t=n→t<k→jQ K (mx M n n) (mp q n) k (i:Int)=some (.go ())
 |0,i,k,hi,hk=>by
  obtain⟨k',rfl,_⟩:=bG hk
  simp only [jQ,wD,dF (show¬(i:Int)<(n:Int) by omega),bV]
 |t+1,i,k,hi,hk=>by
  obtain⟨k',rfl,_⟩:=bG hk
  have hin:i<n:=by omega
  have g:=aIV (l:=mp (M i) n) (aBw fun c hc=>hM i c hin hc) hB (by rw [cJ];omega) (K:=K) (by rw [cJ];omega)
  simp only [jQ,wD,dT (show(i:Int)<(n:Int) by omega),cC,aCk (g:=M) (w:=n) hin,oB,cJ,nF (rfl:(n:Int)=(n:Int)),bV,g,Bool.not_true,oF (i:=i) (by omega)]
  exact aF3 hM hB hn hK t (i+1) k' (by omega) (by omega)
theorem aGn {M:Nat→Nat→Rat} {q:Nat→Rat} {n B:Nat} (hM:Bdx n n B M) (hq:∀i,i<n→Bd B (q i)) (hB:B≤1073741824) (hn:n≤32) {K:Nat} (hK:100≤K):qL K (mx M n n) (mp q n)=some true:=by
 have g:=aIV (l:=mp q n) (aBw hq) hB (by rw [cJ];omega) (K:=K) (by rw [cJ];omega)
 have e:=aF3 (q:=q) hM hB hn hK n 0 K (by omega) (by omega)
 simp only [Int.natCast_zero] at e
 simp only [qL,wD,cJ,nF (rfl:(n:Int)=(n:Int)),bV,dF (show¬(32:Int)<(n:Int) by omega),g,oB,Bool.not_true,e,rP]
theorem aFc {M:Nat→Nat→Rat} {q:Nat→Rat} {n B:Nat} (hM:Bdx n n B M) (hB:B≤1073741824) (hn:n≤32) {K:Nat} (hK:100≤K):∀(t i k:Nat),i+t=n→t<k→jA K (mx M n n) (mp q n) k (i:Int)=some (.go ())
 |0,i,k,hi,hk=>by
  obtain⟨k',rfl,_⟩:=bG hk
  simp only [jA,wD,dF (show¬(i:Int)<(n:Int) by omega),bV]
 |t+1,i,k,hi,hk=>by
  obtain⟨k',rfl,_⟩:=bG hk
  have hin:i<n:=by omega
  have g:=aGF (l:=mp (M i) n) (aBw fun c hc=>hM i c hin hc) hB (by rw [cJ];omega) (K:=K) (by rw [cJ];omega)
  simp only [jA,wD,dT (show(i:Int)<(n:Int) by omega),cC,aCk (g:=M) (w:=n) hin,oB,cJ,nF (rfl:(n:Int)=(n:Int)),bV,g,Bool.not_true,oF (i:=i) (by omega)]
  exact aFc hM hB hn hK t (i+1) k' (by omega) (by omega)
theorem aEO {M:Nat→Nat→Rat} {q:Nat→Rat} {n B:Nat} (hM:Bdx n n B M) (hq:∀i,i<n→Bd B (q i)) (hB:B≤1073741824) (hn:n≤32) {K:Nat} (hK:100≤K):p6 K (mx M n n) (mp q n)=some true:=by
 have g:=aGF (l:=mp q n) (aBw hq) hB (by rw [cJ];omega) (K:=K) (by rw [cJ];omega)
 have e:=aFc (q:=q) hM hB hn hK n 0 K (by omega) (by omega)
 simp only [Int.natCast_zero] at e
 simp only [p6,wD,cJ,nF (rfl:(n:Int)=(n:Int)),bV,dF (show¬(32:Int)<(n:Int) by omega),g,oB,Bool.not_true,e,qE]
def ng (q:Nat→Rat):Nat→Nat→Bool
 |0,_=>false
 |t+1,i=>bif decide ((q i).num.sign<0) then true else ng q t (i+1)
theorem aNj {q:Nat→Rat} {n B:Nat} (hq:∀i,i<n→Bd B (q i)) (hB:B≤1073741824) (hn:n≤1000) (K:Nat):∀(t i k:Nat),i+t=n→t<k→gR K (mp q n) k (i:Int)=some (bif ng q t i then .ret true else .go ())
 |0,i,k,hi,hk=>by
  obtain⟨k',rfl,_⟩:=bG hk
  simp only [gR,cJ,dF (show¬(i:Int)<(n:Int) by omega),bV,ng]
 |t+1,i,k,hi,hk=>by
  obtain⟨k',rfl,_⟩:=bG hk
  have hin:i<n:=by omega
  simp only [gR,cJ,dT (show(i:Int)<(n:Int) by omega),cC,eG (f:=q) hin,oB,o7 (hq i hin) hB,ng]
  by_cases h:(q i).num.sign<0
  ·simp only [dT h,cC]
  ·simp only [dF h,bV,oF (i:=i) (by omega),oB]
   exact aNj hq hB hn K t (i+1) k' (by omega) (by omega)
theorem aKy {q:Nat→Rat} {n B:Nat} (hq:∀i,i<n→Bd B (q i)) (hB:B≤1073741824) (hn:n≤1000) (K:Nat):∀(t i k:Nat),i+t=n→t<k→gE K (mp q n) k (i:Int)=some (bif ng q t i then .ret true else .go ())
 |0,i,k,hi,hk=>by
  obtain⟨k',rfl,_⟩:=bG hk
  simp only [gE,cJ,dF (show¬(i:Int)<(n:Int) by omega),bV,ng]
 |t+1,i,k,hi,hk=>by
  obtain⟨k',rfl,_⟩:=bG hk
  have hin:i<n:=by omega
  simp only [gE,cJ,dT (show(i:Int)<(n:Int) by omega),cC,eG (f:=q) hin,oB,o7 (hq i hin) hB,ng]
  by_cases h:(q i).num.sign<0
  ·simp only [dT h,cC]
  ·simp only [dF h,bV,oF (i:=i) (by omega),oB]
   exact aKy hq hB hn K t (i+1) k' (by omega) (by omega)
theorem aQD {q:Nat→Rat} {n B:Nat} (hq:∀i,i<n→Bd B (q i)) (hB:B≤1073741824) (hn:n≤1000) {K:Nat} (hK:n<K):nL K (mp q n)=some (ng q n 0)∧mH K (mp q n)=some (ng q n 0):=by
 have e1:=aNj hq hB hn K n 0 K (by omega) hK
 have e2:=aKy hq hB hn K n 0 K (by omega) hK
 simp only [Int.natCast_zero] at e1 e2
 constructor
 ·simp only [nL,e1,oB,oK]
  cases ng q n 0<;>rfl
 ·simp only [mH,e2,oB,nE]
  cases ng q n 0<;>rfl
def rw1 (M:Nat→Nat→Rat) (n i k c:Nat):Rat:=if n≤c∧c<n+k then -(M i (c-n)) else lG z0 i 1 c
theorem aIv {M:Nat→Nat→Rat} {n i k:Nat} (hi:i<n):mp (lG (rw1 M n i k) (n+k) (-(M i k))) (2*n+2)=mp (rw1 M n i (k+1)) (2*n+2):=cF fun c _=>by
 by_cases e:c=n+k
 ·subst e;rw [bS];unfold rw1;rw [if_pos ⟨by omega,by omega⟩,Nat.add_sub_cancel_left]
 ·rw [dW e];unfold rw1
  by_cases h:n≤c∧c<n+k
  ·rw [if_pos h,if_pos ⟨h.1,by omega⟩]
  ·rw [if_neg h,if_neg (by omega)]
theorem aKT {M:Nat→Nat→Rat} {q:Nat→Rat} {n i:Nat} (hi:i<n):mp (lG (lG (rw1 M n i n) (2*n) (-1)) (2*n+1) (q i)) (2*n+2)=mp (zO M q n i) (2*n+2):=cF fun c hc=>by
 unfold zO
 by_cases e1:c=2*n+1
 ·subst e1;rw [bS,if_neg (by omega),if_neg (by omega),if_neg (by omega)]
 ·rw [dW e1]
  by_cases e2:c=2*n
  ·subst e2;rw [bS,if_neg (by omega),if_neg (by omega),if_pos rfl]
  ·rw [dW e2]
   unfold rw1
   by_cases h:c<n
   ·rw [if_neg (by omega),if_pos h]
    by_cases e3:c=i
    ·subst e3;rw [bS,if_pos rfl]
    ·rw [dW e3,if_neg (fun e=>e3 e.symm)];rfl
   ·rw [if_pos ⟨by omega,by omega⟩,if_neg h,if_pos (by omega)]
theorem aKc {M:Nat→Nat→Rat} {q:Nat→Rat} {n i B:Nat} (hM:Bdx n n B M) (hB:B≤1073741824) (hi:i<n) (hn:n≤1000) (K:Nat):∀(t k fu:Nat),k+t=n→t<fu→fJ K (mx M n n) (mp q n) (i:Int) fu (mp (rw1 M n i k) (2*n+2)) (k:Int)=some (mp (rw1 M n i n) (2*n+2))
 |0,k,fu,hk,hf=>by
  obtain⟨fu',rfl,_⟩:=bG hf
  have e:k=n:=by omega
  subst e
  simp only [fJ,cJ,dF (show¬(k:Int)<(k:Int) by omega),bV]
 |t+1,k,fu,hk,hf=>by
  obtain⟨fu',rfl,_⟩:=bG hf
  have hkn:k<n:=by omega
  have c1:aY ((n:Int)+(k:Int))=some ((n+k:Nat):Int):=by rw [lL (by omega)];rfl
  simp only [fJ,cJ,dT (show(k:Int)<(n:Int) by omega),cC,c1,oB,aCk (g:=M) (w:=n) hi,eG (f:=M i) hkn,aCQ (hM i k hi hkn) hB,eG (f:=rw1 M n i k) (n:=2*n+2) (i:=n+k) (by omega),t6 (f:=rw1 M n i k) (n:=2*n+2) (i:=n+k) (by omega),aIv hi,oF (i:=k) (by omega)]
  exact aKc hM hB hi hn K t (k+1) fu' (by omega) (by omega)
theorem aHT {M:Nat→Nat→Rat} {q:Nat→Rat} {n i B:Nat} (hM:Bdx n n B M) (hB:B≤1073741824) (hi:i<n) (hn:n≤1000) (K:Nat):∀(t k fu:Nat),k+t=n→t<fu→gY K (mx M n n) (mp q n) (i:Int) fu (mp (rw1 M n i k) (2*n+2)) (k:Int)=some (mp (rw1 M n i n) (2*n+2))
 |0,k,fu,hk,hf=>by
  obtain⟨fu',rfl,_⟩:=bG hf
  have e:k=n:=by omega
  subst e
  simp only [gY,cJ,dF (show¬(k:Int)<(k:Int) by omega),bV]
 |t+1,k,fu,hk,hf=>by
  obtain⟨fu',rfl,_⟩:=bG hf
  have hkn:k<n:=by omega
  have c1:aY ((n:Int)+(k:Int))=some ((n+k:Nat):Int):=by rw [lL (by omega)];rfl
  simp only [gY,cJ,dT (show(k:Int)<(n:Int) by omega),cC,c1,oB,aCk (g:=M) (w:=n) hi,eG (f:=M i) hkn,aCQ (hM i k hi hkn) hB,eG (f:=rw1 M n i k) (n:=2*n+2) (i:=n+k) (by omega),t6 (f:=rw1 M n i k) (n:=2*n+2) (i:=n+k) (by omega),aIv hi,oF (i:=k) (by omega)]
  exact aHT hM hB hi hn K t (k+1) fu' (by omega) (by omega)
theorem aRb:qof (-1) 1=some (-1):=by
 rw [aI2 (by omega) (by omega)]
 exact congrArg some (by decide+kernel)
theorem aNc {M:Nat→Nat→Rat} {q:Nat→Rat} {n B:Nat} (hM:Bdx n n B M) (hB:B≤1073741824) (hn:n≤1000) {K:Nat} (hK:n<K):∀(t i fu:Nat),i+t=n→t<fu→eP K (mx M n n) (mp q n) fu (mp (fun j=>((j:Nat):Int)) i) (mp (fun j=>j) i) (mx (zO M q n) i (2*n+2)) (i:Int)=some (mp (fun j=>((j:Nat):Int)) n,mp (fun j=>j) n,mx (zO M q n) n (2*n+2))
 |0,i,fu,hi,hf=>by
  obtain⟨fu',rfl,_⟩:=bG hf
  have e:i=n:=by omega
  subst e
  simp only [eP,cJ,dF (show¬(i:Int)<(i:Int) by omega),bV]
 |t+1,i,fu,hi,hf=>by
  obtain⟨fu',rfl,_⟩:=bG hf
  have hin:i<n:=by omega
  have c1:aY (2*(n:Int))=some ((2*n:Nat):Int):=by rw [lL (by omega)];rfl
  have c2:aY (((2*n:Nat):Int)+2)=some ((2*n+2:Nat):Int):=by rw [lL (by omega)];rfl
  have c3:aY (((2*n:Nat):Int)+1)=some ((2*n+1:Nat):Int):=by rw [lL (by omega)];rfl
  have e116:=aKc (q:=q) hM hB hin hn K n 0 K (by omega) hK
  have e0:mp (rw1 M n i 0) (2*n+2)=mp (lG z0 i 1) (2*n+2):=cF fun c _=>if_neg (by omega)
  rw [e0] at e116
  simp only [Int.natCast_zero] at e116
  have a1:oT (mp (fun j=>j) i) [i]=some (mp (fun j=>j) (i+1)):=apM (g:=fun j=>j) (by omega)
  have a2:oT (mp (fun j=>((j:Nat):Int)) i) [(i:Int)]=some (mp (fun j=>((j:Nat):Int)) (i+1)):=apM (g:=fun j=>((j:Nat):Int)) (by omega)
  have a3:mx (zO M q n) i (2*n+2)++[mp (zO M q n i) (2*n+2)]=mx (zO M q n) (i+1) (2*n+2):=(aEa (fun i=>mp (zO M q n i) (2*n+2)) i).symm
  simp only [eP,cJ,dT (show(i:Int)<(n:Int) by omega),cC,c1,c2,aBW (z:=(0:Rat)) (n:=2*n+2) (by omega),aGd,oB,eG (f:=fun _=>(0:Rat)) (n:=2*n+2) (i:=i) (by omega),t6 (f:=fun _=>(0:Rat)) (n:=2*n+2) (i:=i) (by omega),show lG (fun _=>(0:Rat)) i 1=lG z0 i 1 from rfl,e116,mA,aRb,eG (f:=rw1 M n i n) (n:=2*n+2) (i:=2*n) (by omega),t6 (f:=rw1 M n i n) (n:=2*n+2) (i:=2*n) (by omega),c3,eG (f:=q) hin,eG (f:=lG (rw1 M n i n) (2*n) (-1)) (n:=2*n+2) (i:=2*n+1) (by omega),t6 (f:=lG (rw1 M n i n) (2*n) (-1)) (n:=2*n+2) (i:=2*n+1) (by omega),aKT hin,wD,a1,a2,a3,oF (i:=i) (by omega)]
  exact aNc hM hB hn hK t (i+1) fu' (by omega) (by omega)
theorem aKU {M:Nat→Nat→Rat} {q:Nat→Rat} {n B:Nat} (hM:Bdx n n B M) (hB:B≤1073741824) (hn:n≤1000) {K:Nat} (hK:n<K):∀(t i fu:Nat),i+t=n→t<fu→fU K (mx M n n) (mp q n) 1 fu (mp (fun j=>((j:Nat):Int)) i) (mx (zO M q n) i (2*n+2)) (i:Int)=some (mp (fun j=>((j:Nat):Int)) n,mx (zO M q n) n (2*n+2))
 |0,i,fu,hi,hf=>by
  obtain⟨fu',rfl,_⟩:=bG hf
  have e:i=n:=by omega
  subst e
  simp only [fU,cJ,dF (show¬(i:Int)<(i:Int) by omega),bV]
 |t+1,i,fu,hi,hf=>by
  obtain⟨fu',rfl,_⟩:=bG hf
  have hin:i<n:=by omega
  have c1:aY (2*(n:Int))=some ((2*n:Nat):Int):=by rw [lL (by omega)];rfl
  have c2:aY (((2*n:Nat):Int)+2)=some ((2*n+2:Nat):Int):=by rw [lL (by omega)];rfl
  have c3:aY (((2*n:Nat):Int)+1)=some ((2*n+1:Nat):Int):=by rw [lL (by omega)];rfl
  have e318:=aHT (q:=q) hM hB hin hn K n 0 K (by omega) hK
  have e0:mp (rw1 M n i 0) (2*n+2)=mp (lG z0 i 1) (2*n+2):=cF fun c _=>if_neg (by omega)
  rw [e0] at e318
  simp only [Int.natCast_zero] at e318
  have a2:oT (mp (fun j=>((j:Nat):Int)) i) [(i:Int)]=some (mp (fun j=>((j:Nat):Int)) (i+1)):=apM (g:=fun j=>((j:Nat):Int)) (by omega)
  have a3:oT (mx (zO M q n) i (2*n+2)) [mp (zO M q n i) (2*n+2)]=some (mx (zO M q n) (i+1) (2*n+2)):=apM (g:=fun i=>mp (zO M q n i) (2*n+2)) (by omega)
  simp only [fU,cJ,dT (show(i:Int)<(n:Int) by omega),cC,c1,c2,aBW (z:=(0:Rat)) (n:=2*n+2) (by omega),oB,eG (f:=fun _=>(0:Rat)) (n:=2*n+2) (i:=i) (by omega),t6 (f:=fun _=>(0:Rat)) (n:=2*n+2) (i:=i) (by omega),show lG (fun _=>(0:Rat)) i 1=lG z0 i 1 from rfl,e318,oD,aRb,eG (f:=rw1 M n i n) (n:=2*n+2) (i:=2*n) (by omega),t6 (f:=rw1 M n i n) (n:=2*n+2) (i:=2*n) (by omega),c3,eG (f:=q) hin,eG (f:=lG (rw1 M n i n) (2*n) (-1)) (n:=2*n+2) (i:=2*n+1) (by omega),t6 (f:=lG (rw1 M n i n) (2*n) (-1)) (n:=2*n+2) (i:=2*n+1) (by omega),aKT hin,a2,a3,oF (i:=i) (by omega)]
  exact aKU hM hB hn hK t (i+1) fu' (by omega) (by omega)
end Go.Proofs.YtcjdedkdoagifaaGreat
set_option linter.unusedVariables false
namespace Go.Proofs.YtcjdedkdoagifaaGreat
theorem aKF {T:Nat→Nat→Rat} {n i:Nat} {c:Rat}:∀t j,lx T n i c i c t j=false
 |0,_=>rfl
 |t+1,j=>by unfold lx;rw [decide_eq_true (rfl:T i (wL n j)/c=T i (wL n j)/c),cC];exact aKF t (j+1)
def aB2 (T:Nat→Nat→Rat) (n:Nat):Nat→Nat→Nat→Nat
 |0,_,r=>r
 |t+1,i,r=>bif les T n i 1 r 1 then aB2 T n t (i+1) i else aB2 T n t (i+1) r
theorem aD9 {T:Nat→Nat→Rat} {n:Nat}:∀t i r,r<n→i+t≤n→aB2 T n t i r<n
 |0,i,r,hr,_=>hr
 |t+1,i,r,hr,h=>by
  unfold aB2
  cases les T n i 1 r 1
  ·exact aD9 t (i+1) r hr (by omega)
  ·exact aD9 t (i+1) i (by omega) (by omega)
theorem aNk {n B:Nat} {rs:List (List Rat)} {od:Nat→Nat} {T:Nat→Nat→Rat} {bs:List Int} (h:aAL n (2*n+2) rs od T) (hT:Bdx n (2*n+2) B T) (hB:B≤200000000) (hn:n≤1000) {K:Nat} (hK:2000≤K):∀(t i fu r:Nat),i+t=n→t<fu→r<n→gO K ((n:Int),mp od n,bs,rs) 1 fu (r:Int) (i:Int)=some ((aB2 T n t i r:Nat):Int)
 |0,i,fu,r,hi,hf,hr=>by
  obtain⟨fu',rfl,_⟩:=bG hf
  simp only [gO,dF (show¬(i:Int)<(n:Int) by omega),bV,aB2]
 |t+1,i,fu,r,hi,hf,hr=>by
  obtain⟨fu',rfl,_⟩:=bG hf
  have hin:i<n:=by omega
  simp only [gO,dT (show(i:Int)<(n:Int) by omega),cC,aH0 (a6:=bs) h hT hin hr aBb aBb (show B+8≤500000000 by omega) hn hK,oB,oF (i:=i) (by omega),aB2]
  cases les T n i 1 r 1
  ·simp only [bV];exact aNk h hT hB hn hK t (i+1) fu' r (by omega) (by omega) hr
  ·simp only [cC];exact aNk h hT hB hn hK t (i+1) fu' i (by omega) (by omega) hin
theorem aNy {n B:Nat} {T:Nat→Nat→Rat} {a1:List Rat} (h1:a1.length=n) (hT:Bdx n (2*n+2) B T) (hB:B≤200000000) (hn:n≤1000) {K:Nat} (hK:2000≤K):∀(t i fu r:Nat),i+t=n→t<fu→r<n→fR K a1 1 (mx T n (2*n+2)) fu (r:Int) (i:Int)=some ((aB2 T n t i r:Nat):Int)
 |0,i,fu,r,hi,hf,hr=>by
  obtain⟨fu',rfl,_⟩:=bG hf
  simp only [fR,h1,dF (show¬(i:Int)<(n:Int) by omega),bV,aB2]
 |t+1,i,fu,r,hi,hf,hr=>by
  obtain⟨fu',rfl,_⟩:=bG hf
  have hin:i<n:=by omega
  simp only [fR,h1,dT (show(i:Int)<(n:Int) by omega),cC,aCk (g:=T) (w:=2*n+2) hin,aCk (g:=T) (w:=2*n+2) hr,oB,aGG hT hin aBb (by omega) (by omega) hn hK,aGG hT hr aBb (by omega) (by omega) hn hK,aGa hT hin hr aBb aBb (show B+8≤500000000 by omega) hn hK,oF (i:=i) (by omega),aB2]
  cases les T n i 1 r 1
  ·simp only [bV];exact aNy h1 hT hB hn hK t (i+1) fu' r (by omega) (by omega) hr
  ·simp only [cC];exact aNy h1 hT hB hn hK t (i+1) fu' i (by omega) (by omega) hin
theorem aKR {q:Nat→Rat} {n:Nat} (h:ng q n 0=true):0<n:=by
 cases n with
 |zero=>exact absurd (show false=true from h) (by decide)
 |succ m=>exact Nat.succ_pos m
def zQ (M:Nat→Nat→Rat) (q:Nat→Rat) (n most:Nat):aX×Int:=
 bif ng q n 0 then lem n most (most+1) (zO M q n) (fun j=>j) (aB2 (zO M q n) n n 0 0) (2*n) 0 else(⟨mp z0 n,mp q n,0⟩,0)
theorem aJq {M:Nat→Nat→Rat} {q:Nat→Rat} {n r:Nat} (hr:r<n):LI n (zO M q n) (zO M q n) (fun j=>j) r (2*n):=by
 refine⟨aLO,hr,Nat.le_refl _,?_,fun j hj=>by omega,fun _=>by omega⟩
 unfold zO
 rw [if_neg (by omega),if_neg (by omega),if_pos rfl];decide
theorem aGP {T:Nat→Nat→Rat} {n w:Nat}:aAL n w (mx T n w) (fun j=>j) T:=
 ⟨fun i hi=>by rw [wD];exact hi,fun i j _ _ e=>e,fun i hi=>by unfold mx;rw [List.getD_eq_getElem?_getD,aA9 hi];rfl⟩
theorem aNt {M:Nat→Nat→Rat} {q:Nat→Rat} {n:Nat}:∀i,i≤n→swv (zO M q n) (fun j=>j) n i=(fun j=>if j<i then q j else 0)∧szv (zO M q n) (fun j=>j) n i=z0
 |0,_=>⟨funext fun j=>by show(0:Rat)=_;rw [if_neg (show¬j<0 by omega)],rfl⟩
 |i+1,h=>by
  obtain⟨e1,e2⟩:=aNt (M:=M) (q:=q) (n:=n) i (by omega)
  have e3:zO M q n i (2*n+1)=q i:=by unfold zO;rw [if_neg (show¬2*n+1<n by omega),if_neg (show¬2*n+1<2*n by omega),if_neg (show¬2*n+1=2*n by omega)]
  unfold swv szv
  rw [if_pos (show i<n by omega),if_pos (show i<n by omega),e1,e2,e3]
  refine⟨funext fun j=>?_,rfl⟩
  by_cases e:j=i
  ·subst e;rw [bS,if_pos (by omega)]
  ·rw [dW e]
   by_cases e4:j<i
   ·rw [if_pos e4,if_pos (by omega)]
   ·rw [if_neg e4,if_neg (by omega)]
theorem aGf {M:Nat→Nat→Rat} {q:Nat→Rat} {n B most:Nat} (hM:Bdx n n B M) (hq:∀i,i<n→Bd B (q i)) (hZ:Sm n B (zO M q n)) (hB:B≤200000000) (hn:n≤32) (hm:most≤100000) {K:Nat} (hK:5000≤K) (hK2:most<K):
  lS K (mx M n n) (mp q n) (most:Int)=some (zQ M q n most)∧mP K (mx M n n) (mp q n) (most:Int)=some (zQ M q n most):=by
 have hng:=aQD hq (by omega) (show n≤1000 by omega) (show n<K by omega)
 have hT:=hZ _ _ aLO
 have s1:=aNc (q:=q) hM (by omega) (show n≤1000 by omega) (show n<K by omega) n 0 K (by omega) (by omega)
 have s2:=aKU (q:=q) hM (by omega) (show n≤1000 by omega) (show n<K by omega) n 0 K (by omega) (by omega)
 have z1:mp (fun j=>((j:Nat):Int)) 0=[]:=rfl
 have z2:mp (fun j:Nat=>j) 0=[]:=rfl
 have z3:mx (zO M q n) 0 (2*n+2)=[]:=rfl
 simp only [Int.natCast_zero,z1,z2,z3] at s1 s2
 have st:nO K (mx M n n) (mp q n)=some ((n:Int),mp (fun j=>j) n,mp (fun j=>((j:Nat):Int)) n,mx (zO M q n) n (2*n+2)):=by
  simp only [nO,s1,oB,nH,cJ]
 have c1:aY (2*(n:Int))=some ((2*n:Nat):Int):=by rw [lL (by omega)];rfl
 by_cases hneg:ng q n 0=true
 ·have hn0:=aKR hneg
  have hr:=aD9 (T:=zO M q n) n 0 0 hn0 (by omega)
  have l1:=aNk (bs:=mp (fun j=>((j:Nat):Int)) n) (aGP (T:=zO M q n)) hT hB (show n≤1000 by omega) (show 2000≤K by omega) n 0 K 0 (by omega) (by omega) hn0
  have l2:=aNy (a1:=mp q n) (cJ _ _) hT hB (show n≤1000 by omega) (show 2000≤K by omega) (n-1) 1 K 0 (by omega) (by omega) hn0
  have e0:aB2 (zO M q n) n (n-1) 1 0=aB2 (zO M q n) n n 0 0:=by
   obtain⟨m,rfl⟩:∃m,n=m+1:=⟨n-1,by omega⟩
   have e:les (zO M q (m+1)) (m+1) 0 1 0 1=false:=aKF _ _
   have e2:aB2 (zO M q (m+1)) (m+1) (m+1) 0 0=bif les (zO M q (m+1)) (m+1) 0 1 0 1 then aB2 (zO M q (m+1)) (m+1) m 1 0 else aB2 (zO M q (m+1)) (m+1) m 1 0:=rfl
   rw [e2,e,bV];rfl
  rw [e0] at l2
  simp only [Int.natCast_zero,Int.natCast_one] at l1 l2
  have r1:=aSk (v6:=((n:Int),mp (fun j=>j) n,mp (fun j=>((j:Nat):Int)) n,mx (zO M q n) n (2*n+2))) rfl hZ hB (show n≤1000 by omega) hm hK (most+1) 0 K _ _ _ _ _ _ (by omega) (by omega) (by omega) aGP (aJq (M:=M) (q:=q) hr)
  have r2:=aRH (a1:=mp q n) (cJ _ _) hZ hB (show n≤1000 by omega) hm hK (most+1) 0 K _ _ _ _ (by omega) (by omega) (by omega) (aJq (M:=M) (q:=q) hr)
  simp only [Int.natCast_zero] at r1 r2
  constructor
  ·simp only [lS,aGn hM hq (show B≤1073741824 by omega) hn (show 100≤K by omega),oB,Bool.not_true,bV,dF (show¬(most:Int)<0 by omega),st,hng.1,hneg,aGd,l1,qH,c1,r1,zQ,cC]
  ·simp only [mP,aEO hM hq (show B≤1073741824 by omega) hn (show 100≤K by omega),oB,Bool.not_true,bV,dF (show¬(most:Int)<0 by omega),hng.2,hneg,aGd,s2,pC,l2,pG,cJ,c1,r2,zQ,cC]
 ·have hneg':ng q n 0=false:=by cases h:ng q n 0 with|true=>exact absurd h hneg|false=>rfl
  obtain⟨e1,e2⟩:=aNt (M:=M) (q:=q) (n:=n) n (Nat.le_refl _)
  have ps:=aJN (b:=fun j=>j) (aGP (T:=zO M q n) (n:=n) (w:=2*n+2)) (show n≤1000 by omega) (show 2000≤K by omega)
  rw [e1,e2,cF (f:=fun j=>if j<n then q j else 0) (g:=q) fun i hi=>if_pos hi] at ps
  constructor
  ·simp only [lS,aGn hM hq (show B≤1073741824 by omega) hn (show 100≤K by omega),oB,Bool.not_true,bV,dF (show¬(most:Int)<0 by omega),st,hng.1,hneg',Bool.not_false,cC,ps,zQ]
  ·simp only [mP,aEO hM hq (show B≤1073741824 by omega) hn (show 100≤K by omega),oB,Bool.not_true,bV,dF (show¬(most:Int)<0 by omega),hng.2,hneg',Bool.not_false,cC,cJ,aBW (z:=(0:Rat)) (n:=n) (by omega),zQ]
   rfl
end Go.Proofs.YtcjdedkdoagifaaGreat
set_option linter.unusedVariables false
namespace Go.Proofs.YtcjdedkdoagifaaGreat
/-- The first numbers, then zeros. -/
def tz (z:Nat→Rat) (k:Nat):Nat→Rat:=fun j=>if j<k then z j else 0
theorem aFh {z:Nat→Rat} {k j:Nat} (h:j≠k):tz z (k+1) j=tz z k j:=by
 unfold tz
 by_cases e:j<k
 ·rw [if_pos e,if_pos (by omega)]
 ·rw [if_neg e,if_neg (by omega)]
theorem aLK {z:Nat→Rat} {k j:Nat} (h:j=k):tz z (k+1) j=z k:=by
 subst h;unfold tz;rw [if_pos (Nat.lt_succ_self _)]
theorem aE8 {z:Nat→Rat} {k j:Nat} (h:k≤j):tz z k j=0:=by
 unfold tz;rw [if_neg (by omega)]
theorem aRd {z:Nat→Rat} {k C:Nat} {n:Nat} (hC:1≤C) (h:∀j,j<n→Bd C (z j)):∀j,j<n→Bd C (tz z k j):=fun j hj=>by
 unfold tz;split
 ·exact h j hj
 ·exact Bd.zero.mono hC
theorem aDX {v:List Rat} {l:List aA} {z:Nat→Rat} {k r r' q:Nat} (hq:vq v l r q) (hk:k=off v l r+q) (ne:r'≠r):pz v l (tz z (k+1)) r'=pz v l (tz z k) r':=by
 have e:∀q',vq v l r' q'→tz z (k+1) (off v l r'+q')=tz z k (off v l r'+q'):=fun q' h'=>aFh fun e=>ne (aD7 h' hq (by omega)).1
 have e0:tz z (k+1) (off v l r')=tz z k (off v l r'):=e 0 (.inl rfl)
 unfold pz
 rw [e0]
 by_cases ht:(m6 l r').t.length=0
 ·rw [if_pos ht,if_pos ht]
 ·rw [if_neg ht,if_neg ht]
  by_cases hs:(rt (m6 l r').t v).num.sign=0
  ·have hst:stk v (m6 l r')=true:=by
    unfold stk;rw [decide_eq_true (show 0<(m6 l r').t.length by omega),decide_eq_true hs];rfl
   rw [if_neg (fun h=>h hs),if_neg (fun h=>h hs),e 1 (.inr ⟨hst,by omega⟩),e 2 (.inr ⟨hst,by omega⟩)]
  ·rw [if_pos hs,if_pos hs]
theorem aPW {v:List Rat} {l:List aA} {z:Nat→Rat} {k r:Nat} (hk:k=off v l r):pz v l (tz z (k+1)) r=⟨z k,if(m6 l r).t.length=0 then(pz v l (tz z k) r).f else(((-(rt (m6 l r).t v).num.sign:Int):Rat)/((1:Int):Rat))*((m6 l r).mu*z k)⟩:=by
 have e0:tz z (k+1) (off v l r)=z k:=aLK hk.symm
 have e1:tz z (k+1) (off v l r+1)=0:=aE8 (by omega)
 have e2:tz z (k+1) (off v l r+2)=0:=aE8 (by omega)
 unfold pz
 rw [e0,e1,e2]
 by_cases ht:(m6 l r).t.length=0
 ·simp only [if_pos ht]
 ·simp only [if_neg ht]
  by_cases hs:(rt (m6 l r).t v).num.sign=0
  ·have z:((-(0:Int):Int):Rat)/((1:Int):Rat)=0:=by decide+kernel
   rw [if_neg (fun h=>h hs),hs,z,Rat.zero_mul,Rat.sub_self]
  ·rw [if_pos hs]
theorem aGi {v:List Rat} {l:List aA} {z:Nat→Rat} {r:Nat} (h:stk v (m6 l r)=true):pz v l z r=⟨z (off v l r),z (off v l r+1)-z (off v l r+2)⟩:=by
 obtain⟨s1,s2⟩:=aJl h
 unfold pz
 rw [if_neg s1,if_neg (fun h=>h s2)]
theorem aPX {v:List Rat} {l:List aA} {z:Nat→Rat} {k r:Nat} (h:stk v (m6 l r)=true) (hk:k=off v l r+1):pz v l (tz z (k+1)) r=⟨(pz v l (tz z k) r).n,(pz v l (tz z k) r).f+z k⟩:=by
 rw [aGi h,aGi h,aFh (show off v l r≠k by omega),aLK (show off v l r+1=k by omega),aE8 (show k+1≤off v l r+2 by omega),aE8 (show k≤off v l r+1 by omega),aE8 (show k≤off v l r+2 by omega)]
 simp [Rat.sub_eq_add_neg,Rat.add_zero,Rat.neg_zero,Rat.zero_add]
theorem aP3 {v:List Rat} {l:List aA} {z:Nat→Rat} {k r:Nat} (h:stk v (m6 l r)=true) (hk:k=off v l r+2):pz v l (tz z (k+1)) r=⟨(pz v l (tz z k) r).n,(pz v l (tz z k) r).f-z k⟩:=by
 rw [aGi h,aGi h,aFh (show off v l r≠k by omega),aFh (show off v l r+1≠k by omega),aLK (show off v l r+2=k by omega),aE8 (show k≤off v l r+2 by omega)]
 simp [Rat.sub_eq_add_neg,Rat.add_zero,Rat.neg_zero]
theorem aQB {v:List Rat} {l:List aA} {z:Nat→Rat} {k r:Nat} (h:stk v (m6 l r)=true) (hk:k=off v l r+3):pz v l (tz z (k+1)) r=pz v l (tz z k) r:=by
 rw [aGi h,aGi h,aFh (show off v l r≠k by omega),aFh (show off v l r+1≠k by omega),aFh (show off v l r+2≠k by omega)]
theorem aHl {v:List Rat} {l:List aA} {z:Nat→Rat} {k r q:Nat} {P:Nat→aI} {x:aI} (hq:vq v l r q) (hk:k=off v l r+q) (hx:x=pz v l (tz z (k+1)) r) (hP:∀i,i≠r→P i=pz v l (tz z k) i):mp (lG P r x) l.length=mp (pz v l (tz z (k+1))) l.length:=cF fun i _=>by
 by_cases e:i=r
 ·subst e;rw [bS,hx]
 ·rw [dW e,aDX hq hk e];exact hP i e
theorem aMU {d:List aF} {f v:List Rat} {l:List aA} {z:Nat→Rat} {C:Nat} {v10:aX×Int} (hv:xT 64 v) (hl:RsC l) (hll:l.length≤100) (hz:∀j,j<off v l l.length→Bd C (z j)) (hC1:1≤C) (hC:C≤100000000) (h10:v10.1.z=mp z (off v l l.length)) {K:Nat} (hK:5000≤K):∀(t k fu:Nat),k+t=off v l l.length→t<fu→dH K d f v l ((zM v l l.length).map pu) v10 fu (mp (pz v l (tz z k)) l.length) (k:Int)=some (mp (pz v l (tz z (off v l l.length))) l.length)
 |0,k,fu,hi,hk=>by
  obtain⟨k',rfl,_⟩:=bG hk
  have e:k=off v l l.length:=by omega
  rw [e]
  simp only [dH,uT,dF (show¬(off v l l.length:Int)<(off v l l.length:Int) by omega),bV]
 |t+1,k,fu,hi,hk=>by
  obtain⟨k',rfl,_⟩:=bG hk
  have hkl:k<off v l l.length:=by omega
  have h4:=s0 (v:=v) (l:=l) l.length
  obtain⟨r,q,h1,h2,h3⟩:=vG l.length k hkl
  have hq3:=vq3 h2
  have ih:=aMU (d:=d) (f:=f) hv hl hll hz hC1 hC h10 hK t (k+1) k' (by omega) (by omega)
  have hb:=aF6 (aRd (k:=k) hC1 hz) hl r h1
  have hc:=hz k hkl
  have rU:=rdU (v:=v) (l:=l) h2 h1
  rw [←h3] at rU
  have st:∀x,p9 (mp (pz v l (tz z k)) l.length) (r:Int) x=some (mp (lG (pz v l (tz z k)) r x) l.length):=fun x=>t6 h1
  by_cases q0:q=0
  ·subst q0
   have hk0:k=off v l r:=h3
   have st2:∀x y,p9 (mp (lG (pz v l (tz z k)) r x) l.length) (r:Int) y=some (mp (lG (lG (pz v l (tz z k)) r x) r y) l.length):=fun x y=>t6 h1
   have rd2:∀x,bU (mp (lG (pz v l (tz z k)) r x) l.length) (r:Int)=some x:=fun x=>by rw [eG h1,bS]
   have p0':=aPW (z:=z) hk0
   by_cases ht:(m6 l r).t.length=0
   ·rw [if_pos ht] at p0'
    have bN:=aHl (P:=pz v l (tz z k)) h2 h3 p0'.symm (fun i _=>rfl)
    simp only [dH,uT,dT (show(k:Int)<(off v l l.length:Int) by omega),cC,rU,oB,eG h1,Int.natCast_zero,qT (show(0:Int)=0 from rfl),h10,eG (f:=z) hkl,st,aCK h1,dF (show¬(0:Int)<((m6 l r).t.length:Int) by omega),bV,oF (i:=k) (by omega),bN]
    exact ih
   ·rw [if_neg ht] at p0'
    have bN:=aHl (P:=lG (pz v l (tz z k)) r ⟨z k,(pz v l (tz z k) r).f⟩) h2 h3 p0'.symm (fun i hi=>dW hi)
    simp only [dH,uT,dT (show(k:Int)<(off v l l.length:Int) by omega),cC,rU,oB,eG h1,Int.natCast_zero,qT (show(0:Int)=0 from rfl),h10,eG (f:=z) hkl,st,aCK h1,dT (show(0:Int)<((m6 l r).t.length:Int) by omega),bS,aEs hv (hl _ (sY h1)) hc (by omega) (show 13≤K by omega),st2,oF (i:=k) (by omega),bN]
    exact ih
  ·have hst:stk v (m6 l r)=true:=by rcases h2 with h|h;exact absurd h q0;exact h.1
   by_cases q1:q=1
   ·subst q1
    have bN:=aHl (P:=pz v l (tz z k)) h2 h3 (aPX (z:=z) hst h3).symm (fun i _=>rfl)
    simp only [dH,uT,dT (show(k:Int)<(off v l l.length:Int) by omega),cC,rU,oB,eG h1,Int.natCast_one,qF (show(1:Int)≠0 by omega),qT (show(1:Int)=1 from rfl),bV,h10,eG (f:=z) hkl,xR hb.2 hc (by omega) (by omega),st,oF (i:=k) (by omega),bN]
    exact ih
   ·by_cases q2:q=2
    ·subst q2
     have bN:=aHl (P:=pz v l (tz z k)) h2 h3 (aP3 (z:=z) hst h3).symm (fun i _=>rfl)
     simp only [dH,uT,dT (show(k:Int)<(off v l l.length:Int) by omega),cC,rU,oB,eG h1,qF (show((2:Nat):Int)≠0 by omega),qF (show((2:Nat):Int)≠1 by omega),qT (show((2:Nat):Int)=2 from rfl),bV,h10,eG (f:=z) hkl,aAH hb.2 hc (by omega) (by omega),st,oF (i:=k) (by omega),bN]
     exact ih
    ·have q3:q=3:=by omega
     subst q3
     have bN:mp (pz v l (tz z k)) l.length=mp (pz v l (tz z (k+1))) l.length:=cF fun i _=>by
      by_cases e:i=r
      ·subst e;exact(aQB hst h3).symm
      ·exact(aDX h2 h3 e).symm
     simp only [dH,uT,dT (show(k:Int)<(off v l l.length:Int) by omega),cC,rU,oB,eG h1,qF (show((3:Nat):Int)≠0 by omega),qF (show((3:Nat):Int)≠1 by omega),qF (show((3:Nat):Int)≠2 by omega),bV,oF (i:=k) (by omega)]
     rw [bN]
     exact ih
end Go.Proofs.YtcjdedkdoagifaaGreat
set_option linter.unusedVariables false
namespace Go.Proofs.YtcjdedkdoagifaaGreat
theorem y6 {d:List aF} {f v:List Rat} {l:List aA} {r:aA} (h:(wT d.length v r&&oQ v r)=false):zB d f v (l++[r])=false:=by
 unfold zB
 have:((l++[r]).all fun r=>wT d.length v r&&oQ v r)=false:=by
  rw [List.all_append,List.all_cons,h,Bool.false_and,Bool.and_false]
 rw [this,Bool.and_false]
theorem aFA {d:List aF} {f v:List Rat} {l:List aA} (h:¬(d.length≤12∧f.length=d.length∧v.length=d.length)):zB d f v l=false:=by
 unfold zB
 rw [decide_eq_false h,Bool.false_and,Bool.false_and]
theorem aEJ {d:List aF} {f v:List Rat} {l:List aA} {r:aA} (h:SB d f v l) (hl:l.length≤99) (hr:RC r):SB d f v (l++[r]):=
 ⟨h.sd,h.dl,h.sf,h.fl,h.sv,h.vl,h.sl.snoc hr,by simp;omega⟩
theorem bd1:Bd 1 (1:Rat):=by constructor<;>decide
theorem aRr:∃q,qof (-1) 3=some q∧q<0∧Bd 8 q:=by
 obtain⟨q,h1,h2,h3⟩:=aCp (k:=8) (p:=-1) (q:=3) (by decide) (by decide) (by decide) (by omega)
 exact⟨q,h1,by rw [h2];decide+kernel,h3⟩
theorem aM2 {s:aH} (hs:aM7 s) (hsb:SB s.dofs s.load s.v s.rows) {a1:Int} (h1:-9223372036854775808≤a1∧a1≤9223372036854775807):∃b,mR s a1=some b∧SB b.dofs b.load b.v b.rows∧zB b.dofs b.load b.v b.rows=false:=by
 obtain⟨c,c1,c2,c3⟩:=aDE (x:=a1) (m:=8) h1 (by omega)
 have hn1:=hs.n1
 have hn4:=hs.n4
 have hll:=hs.ll
 have hvl:=hs.vl
 have hrl:=hs.rl
 have en:aY ((s.dofs.length:Int)-1)=some ((s.dofs.length-1:Nat):Int):=by rw [show(s.dofs.length:Int)-1=((s.dofs.length-1:Nat):Int) by omega,lL (by omega)]
 have aR:∀xs:List Rat,xs.length≤1000→oT ([]:List Rat) xs=some xs:=fun xs h=>by rw [vY (by simp;omega)];rfl
 have aW:∀xs:List aA,xs.length≤1000→oT ([]:List aA) xs=some xs:=fun xs h=>by rw [vY (by simp;omega)];rfl
 have aD:∀xs:List aF,xs.length≤1000→oT ([]:List aF) xs=some xs:=fun xs h=>by rw [vY (by simp;omega)];rfl
 have cut:∀{α:Type} (xs:List α),xs.length=s.dofs.length→slL xs 0 ((s.dofs.length-1:Nat):Int)=some (xs.take (s.dofs.length-1)):=fun xs h=>by
  unfold slL
  rw [if_pos ⟨by omega,by omega,by omega⟩]
  simp
 have hc:c=0∨c=1∨c=2∨c=3∨c=4∨c=5∨c=6∨c=7:=by omega
 have tb1:∀x:Int,TB [(⟨x,1⟩:aC)]:=fun x=>⟨by simp,fun t ht=>by rw [List.mem_singleton.1 ht];exact bd1.mono (by omega)⟩
 have tk0:∀(n:Nat) (x:Int),¬(0≤x∧x<(n:Int))→tOk n [(⟨x,1⟩:aC)]=false:=fun n x h=>by
  have:tk n [(⟨x,1⟩:aC)] 0=false:=decide_eq_false fun h2=>h ⟨h2.1,h2.2.1⟩
  show(tk n [(⟨x,1⟩:aC)] 0&&true)=false
  rw [this];rfl
 unfold mR
 simp only [aGd,c1,oB]
 rcases hc with rfl|rfl|rfl|rfl|rfl|rfl|rfl|rfl
 ·refine⟨⟨s.dofs,s.load++[1],s.v,s.rows⟩,by simp only [qT (show(0:Int)=0 from rfl),cC,aR s.load (by omega),apS (xs:=s.load) (x:=(1:Rat)) (by omega),oB],?_,aFA (by simp;omega)⟩
  exact⟨hsb.sd,hsb.dl,hsb.sf.snoc (bd1.mono (by omega)),by simp;omega,hsb.sv,hsb.vl,hsb.sl,hsb.ll⟩
 ·refine⟨⟨s.dofs,s.load,s.v.take (s.dofs.length-1),s.rows⟩,by simp only [qF (show(1:Int)≠0 by omega),qT (show(1:Int)=1 from rfl),bV,cC,en,oB,cut s.v hvl],?_,aFA (by simp;omega)⟩
  exact⟨hsb.sd,hsb.dl,hsb.sf,hsb.fl,fun x hx=>hsb.sv x (List.mem_of_mem_take hx),by simp;omega,hsb.sl,hsb.ll⟩
 ·refine⟨⟨s.dofs,s.load,s.v,s.rows++[⟨0,0,0,0,0,[⟨(s.dofs.length:Int),1⟩],[],0,0⟩]⟩,by simp only [qF (show(2:Int)≠0 by omega),qF (show(2:Int)≠1 by omega),qT (show(2:Int)=2 from rfl),bV,cC,aW s.rows (by omega),apS (xs:=s.rows) (x:=(⟨0,0,0,0,0,[⟨(s.dofs.length:Int),1⟩],[],0,0⟩:aA)) (by omega),oB],aEJ hsb (by omega) ⟨⟨tb1 _,TB.nil⟩,Bd.zero.mono (by omega)⟩,y6 ?_⟩
  have e:=tk0 s.dofs.length (s.dofs.length:Int) (by omega)
  unfold wT
  simp only [e,Bool.false_and]
 ·refine⟨⟨s.dofs,s.load,s.v,s.rows++[⟨0,0,0,0,0,[],[⟨0,1⟩,⟨0,1⟩],0,0⟩]⟩,by simp only [qF (show(3:Int)≠0 by omega),qF (show(3:Int)≠1 by omega),qF (show(3:Int)≠2 by omega),qT (show(3:Int)=3 from rfl),bV,cC,aW s.rows (by omega),apS (xs:=s.rows) (x:=(⟨0,0,0,0,0,[],[⟨0,1⟩,⟨0,1⟩],0,0⟩:aA)) (by omega),oB],aEJ hsb (by omega) ⟨⟨TB.nil,by simp,fun t ht=>?_⟩,Bd.zero.mono (by omega)⟩,y6 ?_⟩
  ·have:t=⟨0,1⟩:=by simpa using ht
   rw [this];exact bd1.mono (by omega)
  ·have e:tOk s.dofs.length [(⟨0,1⟩:aC),⟨0,1⟩]=false:=by
    have:tk s.dofs.length [(⟨0,1⟩:aC),⟨0,1⟩] 1=false:=decide_eq_false fun h2=>absurd (h2.2.2 (by omega)) (by decide)
    show(tk s.dofs.length _ 0&&(tk s.dofs.length _ 1&&true))=false
    rw [this,Bool.false_and,Bool.and_false]
   unfold wT
   simp only [e,Bool.and_false,Bool.false_and]
 ·obtain⟨q,q1,q2,q3⟩:=aRr
  refine⟨⟨s.dofs,s.load,s.v,s.rows++[⟨0,0,0,0,0,[],[],q,0⟩]⟩,by simp only [qF (show(4:Int)≠0 by omega),qF (show(4:Int)≠1 by omega),qF (show(4:Int)≠2 by omega),qF (show(4:Int)≠3 by omega),qT (show(4:Int)=4 from rfl),bV,cC,aW s.rows (by omega),q1,apS (xs:=s.rows) (x:=(⟨0,0,0,0,0,[],[],q,0⟩:aA)) (by omega),oB],aEJ hsb (by omega) ⟨⟨TB.nil,TB.nil⟩,q3⟩,y6 ?_⟩
  have e:decide (0≤q.num.sign)=false:=decide_eq_false (by rw [aOb q2];omega)
  unfold wT
  simp only [e,Bool.and_false,Bool.false_and]
 ·refine⟨⟨s.dofs.take (s.dofs.length-1)++[⟨0,0,false,0,0⟩],s.load,s.v,s.rows⟩,by simp only [qF (show(5:Int)≠0 by omega),qF (show(5:Int)≠1 by omega),qF (show(5:Int)≠2 by omega),qF (show(5:Int)≠3 by omega),qF (show(5:Int)≠4 by omega),qT (show(5:Int)=5 from rfl),bV,cC,en,oB,cut s.dofs rfl,aD (s.dofs.take (s.dofs.length-1)) (by simp;omega),apS (xs:=s.dofs.take (s.dofs.length-1)) (x:=(⟨0,0,false,0,0⟩:aF)) (by simp;omega)],?_,?_⟩
  ·refine⟨fun x hx=>?_,by simp;omega,hsb.sf,hsb.fl,hsb.sv,hsb.vl,hsb.sl,hsb.ll⟩
   rcases List.mem_append.1 hx with h|h
   ·exact hsb.sd x (List.mem_of_mem_take h)
   ·rw [List.mem_singleton.1 h];exact Bd.zero.mono (by omega)
  ·unfold zB
   have e:(s.dofs.take (s.dofs.length-1)++[(⟨0,0,false,0,0⟩:aF)]).all aCz=false:=by
    rw [List.all_append,List.all_cons,show aCz ⟨0,0,false,0,0⟩=false from rfl,Bool.false_and,Bool.and_false]
   rw [e,Bool.and_false,Bool.false_and]
 ·have e1:(s.v.take (s.dofs.length-1)++[(1:Rat)]).length=s.dofs.length:=by simp;omega
  refine⟨⟨s.dofs,s.load,s.v.take (s.dofs.length-1)++[1],s.rows++[⟨0,0,0,0,0,[⟨((s.dofs.length-1:Nat):Int),1⟩],[],0,0⟩]⟩,by simp only [qF (show(6:Int)≠0 by omega),qF (show(6:Int)≠1 by omega),qF (show(6:Int)≠2 by omega),qF (show(6:Int)≠3 by omega),qF (show(6:Int)≠4 by omega),qF (show(6:Int)≠5 by omega),qT (show(6:Int)=6 from rfl),bV,cC,en,oB,cut s.v hvl,aR (s.v.take (s.dofs.length-1)) (by simp;omega),apS (xs:=s.v.take (s.dofs.length-1)) (x:=(1:Rat)) (by simp;omega),aW s.rows (by omega),apS (xs:=s.rows) (x:=(⟨0,0,0,0,0,[⟨((s.dofs.length-1:Nat):Int),1⟩],[],0,0⟩:aA)) (by omega)],?_,y6 ?_⟩
  ·refine⟨hsb.sd,hsb.dl,hsb.sf,hsb.fl,fun x hx=>?_,by rw [e1];omega,hsb.sl.snoc ⟨⟨tb1 _,TB.nil⟩,Bd.zero.mono (by omega)⟩,by simp;omega⟩
   rcases List.mem_append.1 hx with h|h
   ·exact hsb.sv x (List.mem_of_mem_take h)
   ·rw [List.mem_singleton.1 h];exact bd1.mono (by omega)
  ·have e2:rt [(⟨((s.dofs.length-1:Nat):Int),1⟩:aC)] (s.v.take (s.dofs.length-1)++[(1:Rat)])=1:=by
    show(0:Rat)+trm _ _=1
    unfold trm
    rw [decide_eq_true (show(0:Int)≤((s.dofs.length-1:Nat):Int)∧((s.dofs.length-1:Nat):Int)<(((s.v.take (s.dofs.length-1)++[(1:Rat)]).length:Nat):Int) by rw [e1];omega),Rat.zero_add]
    show(1:Rat)*tA _ (((s.dofs.length-1:Nat):Int)).toNat=1
    rw [Int.toNat_natCast,Rat.one_mul]
    unfold tA
    rw [List.getD_eq_getElem?_getD,List.getElem?_append_right (by simp;omega),List.length_take,Nat.min_eq_left (by omega),Nat.sub_self];rfl
   have e3:oQ (s.v.take (s.dofs.length-1)++[(1:Rat)]) ⟨0,0,0,0,0,[⟨((s.dofs.length-1:Nat):Int),1⟩],[],0,0⟩=false:=by
    unfold oQ
    rw [e2];rfl
   rw [e3,Bool.and_false]
 ·refine⟨⟨s.dofs,s.load,s.v,s.rows++[⟨0,0,0,0,0,[⟨-1,1⟩],[],0,0⟩]⟩,by simp only [qF (show(7:Int)≠0 by omega),qF (show(7:Int)≠1 by omega),qF (show(7:Int)≠2 by omega),qF (show(7:Int)≠3 by omega),qF (show(7:Int)≠4 by omega),qF (show(7:Int)≠5 by omega),qF (show(7:Int)≠6 by omega),qT (show(7:Int)=7 from rfl),bV,cC,aW s.rows (by omega),apS (xs:=s.rows) (x:=(⟨0,0,0,0,0,[⟨-1,1⟩],[],0,0⟩:aA)) (by omega),oB],aEJ hsb (by omega) ⟨⟨tb1 _,TB.nil⟩,Bd.zero.mono (by omega)⟩,y6 ?_⟩
  have e:=tk0 s.dofs.length (-1) (by omega)
  unfold wT
  simp only [e,Bool.false_and]
theorem aM7.sbd {s:aH} (hs:aM7 s):SB s.dofs s.load s.v s.rows:=by
 have hn1:=hs.n1
 have hn4:=hs.n4
 have hll:=hs.ll
 have hvl:=hs.vl
 have hrl:=hs.rl
 exact⟨fun x hx=>(hs.dofs x hx).1,by omega,fun x hx=>(hs.load x hx).mono (by omega),by omega,fun x hx=>(hs.v x hx).mono (by omega),by omega,hs.mus,by omega⟩
end Go.Proofs.YtcjdedkdoagifaaGreat
set_option linter.unusedVariables false
namespace Go.Proofs.YtcjdedkdoagifaaGreat
theorem aNC {n B:Nat} {T:Nat→Nat→Rat} {b:Nat→Nat} (hT:Bdx n (2*n+2) B T) (hB:1≤B):∀i,i≤n→∀j,Bd B (szv T b n i j)
 |0,_,j=>Bd.zero.mono hB
 |i+1,h,j=>by
  have ih:=aNC (b:=b) hT hB i (by omega)
  unfold szv
  split
  ·exact ih j
  ·split
   ·by_cases e:j=b i-n
    ·subst e;rw [bS];exact hT i _ (by omega) (by omega)
    ·rw [dW e];exact ih j
   ·exact ih j
theorem aOQ {n most B:Nat} {Z:Nat→Nat→Rat} (hZ:Sm n B Z) (hB:1≤B):∀(f:Nat) (T:Nat→Nat→Rat) (b:Nat→Nat) (r c cnt:Nat),LI n Z T b r c→(lem n most f T b r c cnt).2=0→(lem n most f T b r c cnt).1.z.length=n∧xT B (lem n most f T b r c cnt).1.z
 |0,T,b,r,c,cnt,h,h0=>absurd (show(16:Int)=0 from h0) (by decide)
 |f+1,T,b,r,c,cnt,h,h0=>by
  unfold lem at h0 ⊢
  by_cases e:cnt=most
  ·rw [if_pos e] at h0;exact absurd h0 (by decide)
  ·rw [if_neg e] at h0 ⊢
   have hcw:=h.hc
   by_cases e2:b r=2*n
   ·rw [if_pos e2]
    have ti':=h.ti.pivot h.hr (show c<2*n+2 by omega) h.hp
    exact⟨cJ _ _,aBw fun j _=>aNC (hZ _ _ ti') hB n (Nat.le_refl _) j⟩
   ·rw [if_neg e2] at h0 ⊢
    cases hs:sel (zS T r c) n (if b r<n then b r+n else b r-n) n 0 none with
    |none=>rw [hs] at h0;exact absurd (show(15:Int)=0 from h0) (by decide)
    |some r'=>
     rw [hs] at h0
     exact aOQ hZ hB f _ _ _ _ _ (h.next e2 hs) h0
theorem aL8 {M:Nat→Nat→Rat} {q:Nat→Rat} {n B most:Nat} (hZ:Sm n B (zO M q n)) (hB:1≤B) (h0:(zQ M q n most).2=0):(zQ M q n most).1.z.length=n∧xT B (zQ M q n most).1.z:=by
 unfold zQ at h0 ⊢
 by_cases hneg:ng q n 0=true
 ·rw [hneg,cC] at h0 ⊢
  exact aOQ hZ hB _ _ _ _ _ _ (aJq (aD9 n 0 0 (aKR hneg) (by omega))) h0
 ·have hneg':ng q n 0=false:=by cases h:ng q n 0 with|true=>exact absurd h hneg|false=>rfl
  rw [hneg',bV]
  exact⟨cJ _ _,aBw fun j _=>Bd.zero.mono hB⟩
theorem pw4 {D k m:Nat} (h:D≤2^k) (e:4*k+56=m):64*(2^50*(D*D*D*D))≤2^m:=by
 have e2:=Nat.mul_le_mul (Nat.mul_le_mul (Nat.mul_le_mul h h) h) h
 rw [←Nat.pow_add,←Nat.pow_add,←Nat.pow_add] at e2
 have e3:=Nat.mul_le_mul (Nat.le_refl (2^6)) (Nat.mul_le_mul (Nat.le_refl (2^50)) e2)
 rw [←Nat.pow_add,←Nat.pow_add] at e3
 rw [show m=6+(50+(k+k+k+k)) by omega]
 exact e3
theorem pw8 {D k m:Nat} (h:D≤256^k) (e:8*k=m):D≤2^m:=by
 rw [show(256:Nat)=2^8 from rfl,←Nat.pow_mul,e] at h;exact h
theorem pwn {x k m n:Nat} (h:x≤2^k) (e:k*n<m):x^n<2^m:=by
 refine Nat.lt_of_le_of_lt (Nat.pow_le_pow_left h n) ?_
 rw [←Nat.pow_mul]
 exact Nat.pow_lt_pow_right (by decide) e
theorem aQ6 {D n sz:Nat} (hs:sz=100000) (hD:D≤256^149) (hn:n≤20):(64*(2^50*(D*D*D*D)))^n<2^sz:=
 pwn (pw4 (pw8 hD (m:=1192) (by decide)) (m:=4824) (by decide)) (by omega)
theorem aME {d:List aF} {f v:List Rat} {l:List aA} (h:ScB d f v l) (hm:l.length≤5) (h8:∀j,j<d.length→Bd 8 (tA f j)):Sm (off v l l.length) 100000 (zO (Mf d v l) (qf d (tA f) v l) (off v l l.length)):=fun T b hT=>by
 obtain⟨D,hD,hle⟩:=aSr (f:=tA f) h.sb.sd h.n8 h8 h.sb.sl hm
 have hrb:RsB l:=fun r hr=>(h.sb.sl r hr).1
 have h4:=s0 (v:=v) (l:=l) l.length
 have hp:(((D^4:Nat)):Rat)≠0:=by
  have:=Nat.pow_pos (n:=4) (show 0<D from hD.pos)
  intro e
  have e2:D^4=0:=by exact_mod_cast e
  omega
 obtain⟨k,hk⟩:∃k,k=100000:=⟨_,rfl⟩
 rw [←hk]
 exact hT.bd hp (fun i c hi _=>aQM hD hrb hm hi) (by omega) (aQ6 hk hle (by omega))
def aIL (d:List aF) (f v:List Rat) (l:List aA):List Rat×List aI×Int:=
 bif(zQ (Mf d v l) (qf d (tA f) v l) (off v l l.length) 4096).2 != 0 then([],[],(zQ (Mf d v l) (qf d (tA f) v l) (off v l l.length) 4096).2)
 else(mp (acc d (tA f) l (pz v l (tA (zQ (Mf d v l) (qf d (tA f) v l) (off v l l.length) 4096).1.z))) d.length,mp (pz v l (tA (zQ (Mf d v l) (qf d (tA f) v l) (off v l l.length) 4096).1.z)) l.length,0)
theorem aQA {x:List Rat} {n:Nat} (h:x.length=n):tz (tA x) n=tA x:=funext fun j=>by
 unfold tz
 by_cases e:j<n
 ·rw [if_pos e]
 ·rw [if_neg e];unfold tA;rw [List.getD_eq_getElem?_getD,List.getElem?_eq_none (by omega)];rfl
theorem aLw {d:List aF} {f v:List Rat} {l:List aA} (h:ScB d f v l) (hf:zB d f v l=true) (hm:l.length≤5) (h8:∀j,j<d.length→Bd 8 (tA f j)) {K:Nat} (hK:6000≤K):fX K d f v l=some (aIL d f v l)∧mT K d f v l=some (aIL d f v l):=by
 have h4:=s0 (v:=v) (l:=l) l.length
 have hn:=h.n8
 have hrb:RsB l:=fun r hr=>(h.sb.sl r hr).1
 have e1:=aDV h (show 5000≤K by omega)
 have e2:=aIu h hf (show 5000≤K by omega)
 have hq1:∀i,i<off v l l.length→Bd 100000 (qf d (tA f) v l i):=fun i hi=>by rw [←aEd (n:=0)];exact h.vbd (z:=z0) (fun _=>Bd.zero) hi
 have hq:∀i,i<off v l l.length→Bd 300000 (qf d (tA f) v l i):=fun i hi=>(hq1 i hi).mono (by omega)
 have hM:Bdx (off v l l.length) (off v l l.length) 300000 (Mf d v l):=fun i c hi _=>by
  rw [←aI5 (f:=tA f)]
  exact((h.vbd (z:=ek c) (fun _=>aH2) hi).sub (hq1 i hi)).mono (by omega)
 have hZ:=aME h hm h8
 have hZ3:Sm (off v l l.length) 300000 (zO (Mf d v l) (qf d (tA f) v l) (off v l l.length)):=fun T b hT i c hi hc=>(hZ T b hT i c hi hc).mono (by omega)
 obtain⟨c1,c2⟩:=aGf (most:=4096) hM hq hZ3 (by omega) (show off v l l.length≤32 by omega) (by omega) (show 5000≤K by omega) (by omega)
 have u1:=aBj (d:=d) (f:=f) h.sb.sv hrb (show l.length≤1000 by omega) (show 2000≤K by omega)
 have u2:=yP h.sb.sv hrb (show l.length≤1000 by omega) (show 2000≤K by omega)
 have t1:((4096:Nat):Int)=4096:=rfl
 rw [t1] at c1 c2
 by_cases h0:(zQ (Mf d v l) (qf d (tA f) v l) (off v l l.length) 4096).2=0
 ·obtain⟨z1,z2⟩:=aL8 hZ (by omega) h0
  generalize hx:zQ (Mf d v l) (qf d (tA f) v l) (off v l l.length) 4096=X at *
  have zb:∀j,j<off v l l.length→Bd 100000 (tA X.1.z j):=fun j hj=>z2 _ (xM (by omega))
  have zm:X.1.z=mp (tA X.1.z) (off v l l.length):=by rw [←z1];exact aJA _
  have pb:=aF6 zb h.sb.sl
  have pl:=aMU (d:=d) (f:=f) (v10:=X) h.sb.sv h.sb.sl (show l.length≤100 by omega) zb (by omega) (by omega) zm (show 5000≤K by omega) (off v l l.length) 0 K (by omega) (by omega)
  rw [aQA z1] at pl
  have p00:mp (pz v l (tz (tA X.1.z) 0)) l.length=mp (fun _=>(⟨0,0⟩:aI)) l.length:=cF fun i _=>by
   rw [show tz (tA X.1.z) 0=z0 from funext fun j=>aE8 (Nat.zero_le _)];exact aKM
  rw [p00] at pl
  simp only [Int.natCast_zero] at pl
  have rp:=aDu h.sb.sv h.sb.sl zb (by omega) (show l.length≤1000 by omega) (show 5000≤K by omega)
  rw [←zm] at rp
  have hA:(2*100000+11+9)*24*l.length≤400000000:=Nat.le_trans (Nat.mul_le_mul_left _ hm) (by decide)
  have a1:=aHc (f0:=f) (v0:=v) h.sb.sd (by omega) h.fbd hrb h.ir (by omega) pb (by omega) hA (show 2000≤K by omega)
  have a2:=aGW h.sb.sd (by omega) h.fbd hrb h.ir (by omega) pb (by omega) hA (show 2000≤K by omega)
  rw [←h.fmp] at a1 a2
  unfold aIL
  rw [hx]
  constructor
  ·simp only [fX,aDa h.sb (show 200≤K by omega),hf,oB,Bool.not_true,bV,u1,uT,dF (show¬(32:Int)<(off v l l.length:Int) by omega),e1,c1,nF h0,aBW (z:=(⟨0,0⟩:aI)) (n:=l.length) (by omega),pl,uJ,a1]
  ·simp only [mT,aJB h.sb (show 200≤K by omega),hf,oB,Bool.not_true,bV,u2,aBz,dF (show¬(32:Int)<(off v l l.length:Int) by omega),e2,c2,nF h0,rp,a2]
 ·unfold aIL
  constructor
  ·simp only [fX,aDa h.sb (show 200≤K by omega),hf,oB,Bool.not_true,bV,u1,uT,dF (show¬(32:Int)<(off v l l.length:Int) by omega),e1,c1,nT h0,cC]
  ·simp only [mT,aJB h.sb (show 200≤K by omega),hf,oB,Bool.not_true,bV,u2,aBz,dF (show¬(32:Int)<(off v l l.length:Int) by omega),e2,c2,nT h0,cC]
end Go.Proofs.YtcjdedkdoagifaaGreat
set_option linter.unusedVariables false
namespace Go.Proofs.YtcjdedkdoagifaaGreat
theorem aDU {p:Nat→aI} {n B:Nat} (hp:PB' B n p) (hB:B≤1073741824) (hn:n≤1000) (K:Nat):∀(t i k:Nat),i+t=n→t<k→fZ K (mp p n) (mp p n) k (i:Int)=some (.go ())
 |0,i,k,hi,hk=>by
  obtain⟨k',rfl,_⟩:=bG hk
  simp only [fZ,cJ,dF (show¬(i:Int)<(n:Int) by omega),bV]
 |t+1,i,k,hi,hk=>by
  obtain⟨k',rfl,_⟩:=bG hk
  have hin:i<n:=by omega
  have h:=hp i hin
  simp only [fZ,cJ,dT (show(i:Int)<(n:Int) by omega),cC,eG (f:=p) hin,oB,aEU h.1 h.1 hB hB,aEU h.2 h.2 hB hB,decide_true,Bool.not_true,bV,oF (i:=i) (by omega)]
  exact aDU hp hB hn K t (i+1) k' (by omega) (by omega)
theorem aDT {p:Nat→aI} {n B:Nat} (hp:PB' B n p) (hB:B≤1073741824) (hn:n≤1000) {K:Nat} (hK:n<K):kO K (mp p n) (mp p n)=some true:=by
 have:=aDU hp hB hn K n 0 K (by omega) hK
 simp only [Int.natCast_zero] at this
 simp only [kO,cJ,nF (rfl:(n:Int)=(n:Int)),bV,this,oB,nI]
def zr:aA:=⟨0,0,0,0,0,[],[],0,0⟩
def aDo:Nat→List aA→List aA
 |0,l=>l
 |t+1,l=>aDo t (l++[zr])
theorem aHV:∀t l,(aDo t l).length=l.length+t
 |0,l=>rfl
 |t+1,l=>by unfold aDo;rw [aHV t,List.length_append];simp;omega
theorem aLQ {a3:Int} {c:Nat} (hc:fD a3 5=some (c:Int)) (h5:c<5) (K:Nat) (d:List aF) (f v:List Rat):∀(t k:Nat) (l:List aA),l.length+t=33+c→t<k→d8 K a3 k ⟨d,f,v,l⟩=some ⟨d,f,v,aDo t l⟩
 |0,k,l,hl,hk=>by
  obtain⟨k',rfl,_⟩:=bG hk
  simp only [d8,hc,oB,lL (show -9223372036854775808≤33+(c:Int)∧_ by omega),dF (show¬(l.length:Int)<33+(c:Int) by omega),bV,aDo]
 |t+1,k,l,hl,hk=>by
  obtain⟨k',rfl,_⟩:=bG hk
  have a1:oT ([]:List aA) l=some l:=vY (by simp;omega)
  have a2:oT l [zr]=some (l++[zr]):=vY (by simp;omega)
  have a2':oT l [(⟨0,0,0,0,0,[],[],0,0⟩:aA)]=some (l++[zr]):=a2
  simp only [d8,hc,oB,lL (show -9223372036854775808≤33+(c:Int)∧_ by omega),dT (show(l.length:Int)<33+(c:Int) by omega),cC,a1,a2',aDo]
  exact aLQ hc h5 K d f v t k' (l++[zr]) (by simp;omega) (by omega)
theorem aNs {a3:Int} {c:Nat} (hc:fD a3 5=some (c:Int)) (h5:c<5) (K:Nat) (d:List aF) (f v:List Rat):∀(t k:Nat) (l:List aA),l.length+t=33+c→t<k→d9 K a3 k ⟨d,f,v,l⟩=some ⟨d,f,v,aDo t l⟩
 |0,k,l,hl,hk=>by
  obtain⟨k',rfl,_⟩:=bG hk
  simp only [d9,hc,oB,lL (show -9223372036854775808≤33+(c:Int)∧_ by omega),dF (show¬(l.length:Int)<33+(c:Int) by omega),bV,aDo]
 |t+1,k,l,hl,hk=>by
  obtain⟨k',rfl,_⟩:=bG hk
  have a1:oT ([]:List aA) l=some l:=vY (by simp;omega)
  have a2:oT l [zr]=some (l++[zr]):=vY (by simp;omega)
  have a2':oT l [(⟨0,0,0,0,0,[],[],0,0⟩:aA)]=some (l++[zr]):=a2
  simp only [d9,hc,oB,lL (show -9223372036854775808≤33+(c:Int)∧_ by omega),dT (show(l.length:Int)<33+(c:Int) by omega),cC,a1,a2',aDo]
  exact aNs hc h5 K d f v t k' (l++[zr]) (by simp;omega) (by omega)
theorem aJL {d:List aF} {f v:List Rat}:∀t (l:List aA),SB d f v l→l.length+t≤100→SB d f v (aDo t l)
 |0,l,h,_=>h
 |t+1,l,h,hl=>aJL t _ (aEJ h (by omega) ⟨⟨TB.nil,TB.nil⟩,Bd.zero.mono (by omega)⟩) (by simp;omega)
theorem aHR {d:List aF} {f v:List Rat}:∀t (l:List aA),zB d f v (aDo t l)=zB d f v l
 |0,l=>rfl
 |t+1,l=>by
  unfold aDo
  rw [aHR t]
  have e:(wT d.length v zr&&oQ v zr)=true:=rfl
  unfold zB
  rw [List.all_append,List.all_cons,e]
  simp
theorem aMb {v:List Rat} {l:List aA}:∀m,m≤off v l m
 |0=>Nat.zero_le _
 |m+1=>by
  have h1:=aMb (v:=v) (l:=l) m
  have h2:=aEw (v:=v) (l:=l) (r:=m) (q:=0) (.inl rfl)
  omega
theorem aNW {d:List aF} {f v:List Rat} {l:List aA} (h:SB d f v l) (hf:zB d f v l=true) (hm:33≤l.length) {K:Nat} (hK:6000≤K):fX K d f v l=some ([],[],4):=by
 have hll:=h.ll
 have hrb:RsB l:=fun r hr=>(h.sl r hr).1
 have hge:=aMb (v:=v) (l:=l) l.length
 have u1:=aBj (d:=d) (f:=f) h.sv hrb (show l.length≤1000 by omega) (show 2000≤K by omega)
 simp only [fX,aDa h (show 200≤K by omega),hf,oB,Bool.not_true,bV,u1,uT,dT (show(32:Int)<(off v l l.length:Int) by omega),cC]
theorem aNu {d:List aF} {f v:List Rat} {l:List aA} (h:SB d f v l) (hf:zB d f v l=false) {K:Nat} (hK:6000≤K):fX K d f v l=some ([],[],1):=by
 simp only [fX,aDa h (show 200≤K by omega),hf,oB,Bool.not_false,cC]
end Go.Proofs.YtcjdedkdoagifaaGreat
set_option linter.unusedVariables false
namespace Go.Proofs.YtcjdedkdoagifaaGreat
theorem aFj {a0:List Int} {a1:Bool} {a2 a3:Int} (h2:-9223372036854775808≤a2∧a2≤9223372036854775807) (h3:-9223372036854775808≤a3∧a3≤9223372036854775807) (hmk:∃s,aM7 s∧zB s.dofs s.load s.v s.rows=true∧Ev (fun K=>kH K a0 a1) s):∃K,iU K a0 a1 a2 a3=some true:=by
 obtain⟨s,hs,hf,hm⟩:=hmk
 have hsb:=hs.sbd
 obtain⟨b,b1,b2,b3⟩:=aM2 hs hsb h2
 obtain⟨c',c1,c2,c3⟩:=aDE (x:=a3) (m:=5) h3 (by omega)
 obtain⟨c,rfl⟩:∃c:Nat,c'=(c:Int):=⟨c'.toNat,by omega⟩
 have hrl:=hs.rl
 refine(?_:Ev (fun K=>iU K a0 a1 a2 a3) true).get
 unfold iU
 refine Ev.bind hm ⟨7000,fun K hK=>?_⟩
 have hl:=aNP (K-40)
 rw [show K-40+40=K by omega] at hl
 have h:=aNV hsb (show s.rows.length≤8 by omega) hf
 have h8:∀j,j<s.dofs.length→Bd 8 (tA s.load j):=fun j hj=>hs.load _ (xM (by rw [hs.ll];exact hj))
 obtain⟨p1,p2⟩:=aLw h hf (show s.rows.length≤5 by omega) h8 (show 6000≤K by omega)
 have e1:=aDV h (show 5000≤K by omega)
 have pb1:tV K s.dofs s.load s.v s.rows=some (mx (Mf s.dofs s.v s.rows) (off s.v s.rows s.rows.length) (off s.v s.rows s.rows.length),mp (qf s.dofs (tA s.load) s.v s.rows) (off s.v s.rows s.rows.length)):=by
  simp only [tV,aDa hsb (show 200≤K by omega),hf,oB,Bool.not_true,bV,e1]
 have h4:=s0 (v:=s.v) (l:=s.rows) s.rows.length
 have hn:=h.n8
 have hrb:RsB s.rows:=fun r hr=>(h.sb.sl r hr).1
 have hq1:∀i,i<off s.v s.rows s.rows.length→Bd 100000 (qf s.dofs (tA s.load) s.v s.rows i):=fun i hi=>by rw [←aEd (n:=0)];exact h.vbd (z:=z0) (fun _=>Bd.zero) hi
 have hq:∀i,i<off s.v s.rows s.rows.length→Bd 300000 (qf s.dofs (tA s.load) s.v s.rows i):=fun i hi=>(hq1 i hi).mono (by omega)
 have hM:Bdx (off s.v s.rows s.rows.length) (off s.v s.rows s.rows.length) 300000 (Mf s.dofs s.v s.rows):=fun i c hi _=>by
  rw [←aI5 (f:=tA s.load)]
  exact((h.vbd (z:=ek c) (fun _=>aH2) hi).sub (hq1 i hi)).mono (by omega)
 have hZ:=aME h (show s.rows.length≤5 by omega) h8
 have hZ3:Sm (off s.v s.rows s.rows.length) 300000 (zO (Mf s.dofs s.v s.rows) (qf s.dofs (tA s.load) s.v s.rows) (off s.v s.rows s.rows.length)):=fun T b hT i c hi hc=>(hZ T b hT i c hi hc).mono (by omega)
 obtain⟨cs,_⟩:=aGf (most:=4096) hM hq hZ3 (by omega) (show off s.v s.rows s.rows.length≤32 by omega) (by omega) (show 5000≤K by omega) (by omega)
 rw [show((4096:Nat):Int)=4096 from rfl] at cs
 have nb:=aNu b2 b3 (show 6000≤K by omega)
 have ml:=aHV (33+c-s.rows.length) s.rows
 have mk:=aNW (aJL (33+c-s.rows.length) s.rows hsb (by omega)) (by rw [aHR];exact hf) (show 33≤(aDo (33+c-s.rows.length) s.rows).length by omega) (show 6000≤K by omega)
 have l1:=aLQ c1 (by omega) K s.dofs s.load s.v (33+c-s.rows.length) K s.rows (by omega) (by omega)
 have l2:=aNs c1 (by omega) K s.dofs s.load s.v (33+c-s.rows.length) K s.rows (by omega) (by omega)
 have es:(⟨s.dofs,s.load,s.v,s.rows⟩:aH)=s:=rfl
 rw [es] at l1 l2
 by_cases h0:(zQ (Mf s.dofs s.v s.rows) (qf s.dofs (tA s.load) s.v s.rows) (off s.v s.rows s.rows.length) 4096).2=0
 ·obtain⟨z1,z2⟩:=aL8 hZ (by omega) h0
  have pr:aIL s.dofs s.load s.v s.rows=(mp (acc s.dofs (tA s.load) s.rows (pz s.v s.rows (tA (zQ (Mf s.dofs s.v s.rows) (qf s.dofs (tA s.load) s.v s.rows) (off s.v s.rows s.rows.length) 4096).1.z))) s.dofs.length,mp (pz s.v s.rows (tA (zQ (Mf s.dofs s.v s.rows) (qf s.dofs (tA s.load) s.v s.rows) (off s.v s.rows s.rows.length) 4096).1.z)) s.rows.length,0):=by
   unfold aIL;rw [nF h0,bV]
  rw [pr] at p1 p2
  generalize hx:zQ (Mf s.dofs s.v s.rows) (qf s.dofs (tA s.load) s.v s.rows) (off s.v s.rows s.rows.length) 4096=X at *
  have zb:∀j,j<off s.v s.rows s.rows.length→Bd 100000 (tA X.1.z j):=fun j hj=>z2 _ (xM (by omega))
  have zm:X.1.z=mp (tA X.1.z) (off s.v s.rows s.rows.length):=by rw [←z1];exact aJA _
  have pb:=aF6 zb h.sb.sl
  have rp:=aDu h.sb.sv h.sb.sl zb (by omega) (show s.rows.length≤1000 by omega) (show 5000≤K by omega)
  rw [←zm] at rp
  have hA:(2*100000+11+9)*24*s.rows.length≤400000000:=Nat.le_trans (Nat.mul_le_mul_left _ (show s.rows.length≤5 by omega)) (by decide)
  have ab:=aFa h.sb.sd h.fbd hrb h.ir pb (by omega) (by omega) (by omega) hA
  have aB:aJu 64 (2*100000+11) s.rows.length≤1073741824:=by unfold aJu;omega
  have a2:=aGW h.sb.sd (by omega) h.fbd hrb h.ir (by omega) pb (by omega) hA (show 2000≤K by omega)
  rw [←h.fmp] at a2
  have s1:=aEF ab aB (by rw [cJ];omega) (K:=K) (by rw [cJ];omega)
  have s2:=aDT pb (by omega) (show s.rows.length≤1000 by omega) (show s.rows.length<K by omega)
  simp only [p1,p2,oB,nF (rfl:(0:Int)=0),bV,s1,s2,Bool.not_true,pb1,cs,nF h0,qT (rfl:(0:Int)=0),cC,rp,a2,b1,nb,l1,lA,mk,qT (rfl:(1:Int)=1),qT (rfl:(4:Int)=4),hl]
 ·have pr:aIL s.dofs s.load s.v s.rows=([],[],(zQ (Mf s.dofs s.v s.rows) (qf s.dofs (tA s.load) s.v s.rows) (off s.v s.rows s.rows.length) 4096).2):=by
   unfold aIL;rw [nT h0,cC]
  rw [pr] at p1 p2
  generalize hx:zQ (Mf s.dofs s.v s.rows) (qf s.dofs (tA s.load) s.v s.rows) (off s.v s.rows s.rows.length) 4096=X at *
  have s1:jO K ([]:List Rat) []=some true:=aEF (b:=1) (fun r hr=>absurd hr List.not_mem_nil) (by omega) (by simp) (by simp;omega)
  have s2:kO K ([]:List aI) []=some true:=aDT (p:=p0) (n:=0) (B:=1) (fun r hr=>by omega) (by omega) (by omega) (by omega)
  simp only [p1,p2,oB,nF (rfl:X.2=X.2),bV,s1,s2,Bool.not_true,pb1,cs,qF h0,b1,nb,l2,k6,mk,qT (rfl:(1:Int)=1),qT (rfl:(4:Int)=4),cC,hl]
end Go.Proofs.YtcjdedkdoagifaaGreat
set_option linter.unusedVariables false
namespace Go.Proofs.YtcjdedkdoagifaaGreat
/-- Terms of the first n places, in order. -/
def IO (n:Nat) (l:List aC):Prop:=InT n l∧l.Pairwise (fun a b=>a.dof<b.dof)
theorem IO.nil {n:Nat}:IO n []:=⟨fun t h=>absurd h List.not_mem_nil,List.Pairwise.nil⟩
theorem IO.up {n:Nat} {l:List aC} (h:IO n l):IO (n+1) l:=⟨fun t ht=>⟨(h.1 t ht).1,by have:=(h.1 t ht).2;omega⟩,h.2⟩
theorem IO.snoc {n:Nat} {l:List aC} {q:Rat} (h:IO n l):IO (n+1) (l++[⟨(n:Int),q⟩]):=by
 refine⟨fun t ht=>?_,List.pairwise_append.2 ⟨h.2,List.pairwise_singleton _ _,fun a ha b hb=>?_⟩⟩
 ·rcases List.mem_append.1 ht with h1|h1
  ·exact h.up.1 t h1
  ·rw [List.mem_singleton.1 h1];exact⟨by simp only;omega,by simp only;omega⟩
 ·rw [List.mem_singleton.1 hb];exact(h.1 a ha).2
def NT (n:Nat) (l:List aC):Prop:=TB l∧IO n l
def RN (n w:Nat) (r:aA):Prop:=RC r∧IO w r.j∧IO n r.t∧0≤r.mu
def RsN (n w:Nat) (l:List aA):Prop:=∀r∈l,RN n w r
theorem RsN.snoc {n w:Nat} {l:List aA} {r:aA} (h:RsN n w l) (hr:RN n w r):RsN n w (l++[r]):=fun x hx=>by
 rcases List.mem_append.1 hx with h1|h1
 ·exact h x h1
 ·rw [List.mem_singleton.1 h1];exact hr
theorem aDn {n:Nat} (hn:n≤12):∀(t i:Nat) (out:List aC) (v:Int),i+t=n→0≤v→v≤4000000000000→out.length≤i→(∀t∈out,Bd 8 t.k)→IO i out→∃r,NT n r∧∀K k,t<k→eZ K (n:Int) k out v (i:Int)=some r
 |0,i,out,v,hi,h0,h1,hl,hb,hd=>⟨out,⟨⟨by omega,hb⟩,by rw [show n=i by omega];exact hd⟩,fun K k hk=>by
  obtain⟨k',rfl,_⟩:=bG hk
  simp only [eZ,dF (show¬(i:Int)<(n:Int) by omega),bV]⟩
 |t+1,i,out,v,hi,h0,h1,hl,hb,hd=>by
  have m7:=aDr (a:=v) (m:=7) h0 (by omega)
  obtain⟨x,x1,x2,x3⟩:=tab7 m7.1 m7.2
  have m3:=aDr (a:=v/7) (m:=3) (by omega) (by omega)
  have e1:xF v 7=some (v%7):=oP h0 (by omega)
  have e2:yJ v 7=some (v/7):=t8 h0 (by omega) (by omega)
  have e3:xF (v/7) 3=some (v/7%3):=oP (by omega) (by omega)
  have e4:yJ (v/7) 3=some (v/7/3):=t8 (by omega) (by omega) (by omega)
  have e5:aY (1+v/7%3)=some (1+v/7%3):=lL (by omega)
  by_cases hx:x=0
  ·obtain⟨r,r1,r2⟩:=aDn hn t (i+1) out (v/7/3) (by omega) (by omega) (by omega) (by omega) hb hd.up
   refine⟨r,r1,fun K k hk=>?_⟩
   obtain⟨k',rfl,_⟩:=bG hk
   simp only [eZ,dT (show(i:Int)<(n:Int) by omega),cC,e1,oB,x1,e2,nF hx,bV,e4,oF (i:=i) (by omega)]
   exact r2 K k' (by omega)
  ·obtain⟨q,q1,q2,q3⟩:=aCp (k:=8) (p:=x) (q:=1+v/7%3) (by omega) (by omega) (by omega) (by omega)
   obtain⟨r,r1,r2⟩:=aDn hn t (i+1) (out++[⟨(i:Int),q⟩]) (v/7/3) (by omega) (by omega) (by omega) (by simp;omega) (fun t ht=>by
    rcases List.mem_append.1 ht with h|h
    ·exact hb t h
    ·rw [List.mem_singleton.1 h];exact q3) hd.snoc
   refine⟨r,r1,fun K k hk=>?_⟩
   obtain⟨k',rfl,_⟩:=bG hk
   simp only [eZ,dT (show(i:Int)<(n:Int) by omega),cC,e1,oB,x1,e2,nT hx,e3,e5,q1,apS (xs:=out) (x:=(⟨(i:Int),q⟩:aC)) (by omega),e4,oF (i:=i) (by omega)]
   exact r2 K k' (by omega)
theorem aE5 {n:Nat} (hn:n≤12) {v:Int} (h0:0≤v) (h1:v≤4000000000000):∃r,NT n r∧∀K,n<K→eN K v (n:Int)=some r:=by
 obtain⟨r,r1,r2⟩:=aDn hn n 0 [] v (by omega) h0 h1 (by simp) (fun t h=>absurd h List.not_mem_nil) IO.nil
 refine⟨r,r1,fun K hK=>?_⟩
 have:=r2 K K hK
 simp only [Int.natCast_zero] at this
 simp only [eN,this,oB,qA]
theorem aMK {p q:Int} (hp:0≤p) (hq:0<q):(0:Rat)≤(p:Rat)/(q:Rat):=by
 rw [←Rat.divInt_eq_div]
 exact(Rat.divInt_nonneg_iff_of_pos_right hq).2 hp
theorem aMR {q:Rat} (h:0≤q):0≤q.num.sign:=by
 have h2:=Rat.num_nonneg.2 h
 rcases Int.lt_or_eq_of_le h2 with h|h
 ·rw [Int.sign_eq_one_of_pos h];omega
 ·rw [←h];decide
theorem aQS {q:Rat} (h:0≤q) (h0:q≠0):0<q.num.sign:=by
 have h1:=aMR h
 have h2:q.num.sign≠0:=fun e=>h0 (aHp.1 e)
 omega
theorem aGx {l:List Int} (hl:aHW l) (i:Nat) (hi:i≤10) (n:Nat) (hn:1≤n∧n≤4):∃v129 v137 v145 v151 q r131 r139 r197,
  bR l (9+3*(i:Int)) 1099511627776=some v129∧bR l (10+3*(i:Int)) 1099511627776=some v137∧bR l (11+3*(i:Int)) 5=some v145∧bR l (11+3*(i:Int)) 3=some v151∧aY (1+v151)=some (1+v151)∧qof v145 (1+v151)=some q∧Bd 8 q∧0≤v129∧v129≤4000000000000∧NT n r131∧NT n r139∧NT (n-1) r197∧0≤q∧
  ∀K,n<K→eN K v129 (n:Int)=some r131∧eN K v137 (n:Int)=some r139∧eN K v129 ((n:Int)-1)=some r197:=by
 obtain⟨v,v1,v2,v3⟩:=aCb hl (9+3*(i:Int)) (m:=1099511627776) (by omega)
 obtain⟨w,w1,w2,w3⟩:=aCb hl (10+3*(i:Int)) (m:=1099511627776) (by omega)
 obtain⟨x,x1,x2,x3⟩:=aCb hl (11+3*(i:Int)) (m:=5) (by omega)
 obtain⟨y,y1,y2,y3⟩:=aCb hl (11+3*(i:Int)) (m:=3) (by omega)
 obtain⟨q,q1,q2,q3⟩:=aCp (k:=8) (p:=x) (q:=1+y) (by omega) (by omega) (by omega) (by omega)
 obtain⟨a,a1,a2⟩:=aE5 (n:=n) (v:=v) (by omega) v2 (by omega)
 obtain⟨b,b1,b2⟩:=aE5 (n:=n) (v:=w) (by omega) w2 (by omega)
 obtain⟨c,c1,c2⟩:=aE5 (n:=n-1) (v:=v) (by omega) v2 (by omega)
 refine⟨v,w,x,y,q,a,b,c,v1,w1,x1,y1,lL (by omega),q1,q3,v2,by omega,a1,b1,c1,by rw [q2];exact aMK x2 (by omega),fun K hK=>⟨a2 K hK,b2 K hK,?_⟩⟩
 have:=c2 K (by omega)
 rw [show((n-1:Nat):Int)=(n:Int)-1 by omega] at this
 exact this
theorem aGD {l:List Int} (hl:aHW l) {n:Nat} (hn:n≤4):∀(t i:Nat) (a b:List Rat) (d:List aF),i+t=n→a.length=i→b.length=i→d.length=i→xT 8 a→xT 8 b→aQw d→(∀x∈a,x=0)→d.all aCz=true→
  ∃a' b' d',a'.length=n∧b'.length=n∧d'.length=n∧xT 8 a'∧xT 8 b'∧aQw d'∧(∀x∈a',x=0)∧d'.all aCz=true∧∀K k,t<k→iZ K l (n:Int) k a b d (i:Int)=some (a',b',d')
 |0,i,a,b,d,hi,h1,h2,h3,h4,h5,h6,h7,h8=>⟨a,b,d,by omega,by omega,by omega,h4,h5,h6,h7,h8,fun K k hk=>by
  obtain⟨k',rfl,_⟩:=bG hk
  simp only [iZ,dF (show¬(i:Int)<(n:Int) by omega),bV]⟩
 |t+1,i,a,b,d,hi,h1,h2,h3,h4,h5,h6,h7,h8=>by
  obtain⟨v,v1,v2,v3⟩:=aCb hl (1+(i:Int)) (m:=1073741824) (by omega)
  have m3:=aDr (a:=v) (m:=3) v2 (by omega)
  have m4:=aDr (a:=v/3) (m:=4) (by omega) (by omega)
  have m13:=aDr (a:=v/12) (m:=13) (by omega) (by omega)
  have m33:=aDr (a:=v/156) (m:=3) (by omega) (by omega)
  have e0:aY (1+(i:Int))=some (1+(i:Int)):=lL (by omega)
  have e1:xF v 3=some (v%3):=oP v2 (by omega)
  have e2:aY (1+v%3)=some (1+v%3):=lL (by omega)
  have e3:yJ v 3=some (v/3):=t8 v2 (by omega) (by omega)
  have e4:xF (v/3) 4=some (v/3%4):=oP (by omega) (by omega)
  have e5:aY (1+v/3%4)=some (1+v/3%4):=lL (by omega)
  obtain⟨q,q1,q2,q3⟩:=aCp (k:=8) (p:=1+v%3) (q:=1+v/3%4) (by omega) (by omega) (by omega) (by omega)
  have e6:yJ v 12=some (v/12):=t8 v2 (by omega) (by omega)
  have e7:xF (v/12) 13=some (v/12%13):=oP (by omega) (by omega)
  have e8:aY (v/12%13-6)=some (v/12%13-6):=lL (by omega)
  have e9:yJ v 156=some (v/156):=t8 v2 (by omega) (by omega)
  have e10:xF (v/156) 3=some (v/156%3):=oP (by omega) (by omega)
  have e11:aY (1+v/156%3)=some (1+v/156%3):=lL (by omega)
  obtain⟨p,p1,p2,p3⟩:=aCp (k:=8) (p:=v/12%13-6) (q:=1+v/156%3) (by omega) (by omega) (by omega) (by omega)
  have hq:aPU ⟨q,0,false,0,0⟩:=⟨q3,by rw [q2];exact aP7 (by omega) (by omega),Bd.zero.mono (by omega)⟩
  obtain⟨a',b',d',g1,g2,g3,g4,g5,g6,g8,g9,g7⟩:=aGD hl hn t (i+1) (a++[0]) (b++[p]) (d++[⟨q,0,false,0,0⟩]) (by omega) (by simp;omega) (by simp;omega) (by simp;omega) (h4.snoc (Bd.zero.mono (by omega))) (h5.snoc p3) (fun x hx=>by
   rcases List.mem_append.1 hx with h|h
   ·exact h6 x h
   ·rw [List.mem_singleton.1 h];exact hq) (fun x hx=>by
   rcases List.mem_append.1 hx with h|h
   ·exact h7 x h
   ·rw [List.mem_singleton.1 h]) (by
   rw [List.all_append,h8,List.all_cons,show aCz ⟨q,0,false,0,0⟩=true from decide_eq_true (aQS (by rw [q2];exact aMK (by omega) (by omega)) hq.2.1)];rfl)
  refine⟨a',b',d',g1,g2,g3,g4,g5,g6,g8,g9,fun K k hk=>?_⟩
  obtain⟨k',rfl,_⟩:=bG hk
  simp only [iZ,dT (show(i:Int)<(n:Int) by omega),cC,e0,oB,v1,e1,e2,e3,e4,e5,q1,apS (xs:=d) (x:=(⟨q,0,false,0,0⟩:aF)) (by omega),e6,e7,e8,e9,e10,e11,p1,apS (xs:=b) (x:=p) (by omega),apS (xs:=a) (x:=(0:Rat)) (by omega),oF (i:=i) (by omega)]
  exact g7 K k' (by omega)
theorem aE7 {x107:List aA} {i:Nat} {v129:Int} {r:aA} {n w:Nat} (hi:i≤10) (hv:0≤v129) (hm:Bd 8 r.mu) (hr:RN n w r) (hl:x107.length≤100):∃r',RN n w r'∧∀K recl,fQ K x107 (i:Int) v129 recl r=recl (x107++[r']) ((i+1:Nat):Int):=by
 by_cases h0:r.mu=0
 ·refine⟨⟨r.kind,r.a,r.b,r.edge,r.gap,r.j,[],0,r.e⟩,⟨⟨⟨hr.1.1.1,TB.nil⟩,Bd.zero.mono (by omega)⟩,hr.2.1,IO.nil,Rat.le_refl⟩,fun K recl=>?_⟩
  simp only [fQ,o7 hm (by omega),oB,qT (aHp.2 h0),cC,apS (show x107.length≤60000000000 by omega),oF (i:=i) (by omega)]
 ·by_cases h1:v129%5=0
  ·refine⟨⟨r.kind,r.a,r.b,r.edge,r.gap,r.j,[],0,r.e⟩,⟨⟨⟨hr.1.1.1,TB.nil⟩,Bd.zero.mono (by omega)⟩,hr.2.1,IO.nil,Rat.le_refl⟩,fun K recl=>?_⟩
   simp only [fQ,o7 hm (by omega),oB,qF (fun h=>h0 (aHp.1 h)),bV,oP hv (show(0:Int)<5 by omega),qT h1,cC,apS (show x107.length≤60000000000 by omega),oF (i:=i) (by omega)]
  ·refine⟨r,hr,fun K recl=>?_⟩
   simp only [fQ,o7 hm (by omega),oB,qF (fun h=>h0 (aHp.1 h)),bV,oP hv (show(0:Int)<5 by omega),qF h1,apS (show x107.length≤60000000000 by omega),oF (i:=i) (by omega)]
theorem aJs {x107:List aA} {i:Nat} {v129:Int} {a b:List aC} {m:Rat} {n w:Nat} (hi:i≤10) (hv:0≤v129) (hm:Bd 8 m) (ha:NT w a) (hb:NT n b) (hm0:0≤m) (hl:x107.length≤100):∃r',RN n w r'∧∀K recl,iN K x107 (i:Int) v129 a b m recl=recl (x107++[r']) ((i+1:Nat):Int):=by
 by_cases h0:m=0
 ·refine⟨⟨0,0,(i:Int),0,0,a,[],0,0⟩,⟨⟨⟨ha.1,TB.nil⟩,Bd.zero.mono (by omega)⟩,ha.2,IO.nil,Rat.le_refl⟩,fun K recl=>?_⟩
  simp only [iN,o7 hm (by omega),oB,qT (aHp.2 h0),cC,apS (show x107.length≤60000000000 by omega),oF (i:=i) (by omega)]
 ·by_cases h1:v129%5=0
  ·refine⟨⟨0,0,(i:Int),0,0,a,[],0,0⟩,⟨⟨⟨ha.1,TB.nil⟩,Bd.zero.mono (by omega)⟩,ha.2,IO.nil,Rat.le_refl⟩,fun K recl=>?_⟩
   simp only [iN,o7 hm (by omega),oB,qF (fun h=>h0 (aHp.1 h)),bV,oP hv (show(0:Int)<5 by omega),qT h1,cC,apS (show x107.length≤60000000000 by omega),oF (i:=i) (by omega)]
  ·refine⟨⟨0,0,(i:Int),0,0,a,b,m,0⟩,⟨⟨⟨ha.1,hb.1⟩,hm⟩,ha.2,hb.2,hm0⟩,fun K recl=>?_⟩
   simp only [iN,o7 hm (by omega),oB,qF (fun h=>h0 (aHp.1 h)),bV,oP hv (show(0:Int)<5 by omega),qF h1,apS (show x107.length≤60000000000 by omega),oF (i:=i) (by omega)]
theorem aCA {l:List Int} (hl:aHW l) (a1:Bool) (n:Nat) (hn:1≤n∧n≤4) {v8:Int} (h8:bR l 8 5=some v8) (h8':v8<5):∀(t i:Nat) (x:List aA),i+t=4→x.length=i→RsN n (bif a1 then n else n-1) x→
  ∃r,RsN n (bif a1 then n else n-1) r∧r.length≤4∧∀K k,n<K→t<k→cZ K l a1 (n:Int) k x (i:Int)=some r
 |0,i,x,hi,hx,hr=>⟨x,hr,by omega,fun K k hK hk=>by
  obtain⟨k',rfl,_⟩:=bG hk
  simp only [cZ,h8,oB,dF (show¬(i:Int)<v8 by omega),bV]⟩
 |t+1,i,x,hi,hx,hr=>by
  by_cases hlt:(i:Int)<v8
  ·obtain⟨v129,v137,v145,v151,q,r131,r139,r197,b1,b2,b3,b4,b5,b6,b7,b8,b9,b10,b11,b12,b14,b13⟩:=aGx hl i (by omega) n hn
   have e3:aY (3*(i:Int))=some (3*(i:Int)):=lL (by omega)
   have e9:aY (9+3*(i:Int))=some (9+3*(i:Int)):=lL (by omega)
   have e10:aY (10+3*(i:Int))=some (10+3*(i:Int)):=lL (by omega)
   have e11:aY (11+3*(i:Int))=some (11+3*(i:Int)):=lL (by omega)
   have en:aY ((n:Int)-1)=some ((n:Int)-1):=lL (by omega)
   cases a1
   ·obtain⟨r',c1,c2⟩:=aE7 (x107:=x) (i:=i) (v129:=v129) (r:=⟨0,0,(i:Int),0,0,r197,r139,q,0⟩) (by omega) b8 b7 (n:=n) (w:=n-1) ⟨⟨⟨b12.1,b11.1⟩,b7⟩,b12.2,b11.2,b14⟩ (by omega)
    obtain⟨r,d1,d2,d3⟩:=aCA hl false n hn h8 h8' t (i+1) (x++[r']) (by omega) (by simp;omega) (hr.snoc c1)
    refine⟨r,d1,d2,fun K k hK hk=>?_⟩
    obtain⟨k',rfl,_⟩:=bG hk
    obtain⟨s1,s2,s3⟩:=b13 K hK
    simp only [cZ,h8,oB,dT hlt,cC,e3,e9,e10,e11,b1,b2,b3,b4,b5,b6,s1,s2,s3,Bool.not_false,en,c2]
    exact d3 K k' hK (by omega)
   ·obtain⟨r',c1,c2⟩:=aE7 (x107:=x) (i:=i) (v129:=v129) (r:=⟨0,0,(i:Int),0,0,r131,r139,q,0⟩) (by omega) b8 b7 (n:=n) (w:=n) ⟨⟨⟨b10.1,b11.1⟩,b7⟩,b10.2,b11.2,b14⟩ (by omega)
    obtain⟨r,d1,d2,d3⟩:=aCA hl true n hn h8 h8' t (i+1) (x++[r']) (by omega) (by simp;omega) (hr.snoc c1)
    refine⟨r,d1,d2,fun K k hK hk=>?_⟩
    obtain⟨k',rfl,_⟩:=bG hk
    obtain⟨s1,s2,s3⟩:=b13 K hK
    simp only [cZ,h8,oB,dT hlt,cC,e3,e9,e10,e11,b1,b2,b3,b4,b5,b6,s1,s2,Bool.not_true,bV,c2]
    exact d3 K k' hK (by omega)
  ·refine⟨x,hr,by omega,fun K k hK hk=>?_⟩
   obtain⟨k',rfl,_⟩:=bG hk
   simp only [cZ,h8,oB,dF hlt,bV]
theorem aFs {l:List Int} (hl:aHW l) (n:Nat) (hn:1≤n∧n≤4) {v8:Int} (h8:bR l 8 5=some v8) (h8':v8<5):∀(t i:Nat) (x:List aA),i+t=4→x.length=i→RsN n n x→
  ∃r,RsN n n r∧r.length≤4∧∀K k,n<K→t<k→eI K l (n:Int) k x (i:Int)=some r
 |0,i,x,hi,hx,hr=>⟨x,hr,by omega,fun K k hK hk=>by
  obtain⟨k',rfl,_⟩:=bG hk
  simp only [eI,h8,oB,dF (show¬(i:Int)<v8 by omega),bV]⟩
 |t+1,i,x,hi,hx,hr=>by
  by_cases hlt:(i:Int)<v8
  ·obtain⟨v129,v137,v145,v151,q,r131,r139,r197,b1,b2,b3,b4,b5,b6,b7,b8,b9,b10,b11,b12,b14,b13⟩:=aGx hl i (by omega) n hn
   have e3:aY (3*(i:Int))=some (3*(i:Int)):=lL (by omega)
   have e9:aY (9+3*(i:Int))=some (9+3*(i:Int)):=lL (by omega)
   have e10:aY (10+3*(i:Int))=some (10+3*(i:Int)):=lL (by omega)
   have e11:aY (11+3*(i:Int))=some (11+3*(i:Int)):=lL (by omega)
   obtain⟨r',c1,c2⟩:=aJs (x107:=x) (i:=i) (v129:=v129) (a:=r131) (b:=r139) (m:=q) (by omega) b8 b7 b10 b11 b14 (by omega)
   obtain⟨r,d1,d2,d3⟩:=aFs hl n hn h8 h8' t (i+1) (x++[r']) (by omega) (by simp;omega) (hr.snoc c1)
   refine⟨r,d1,d2,fun K k hK hk=>?_⟩
   obtain⟨k',rfl,_⟩:=bG hk
   obtain⟨s1,s2,s3⟩:=b13 K hK
   simp only [eI,h8,oB,dT hlt,cC,e3,e9,e10,e11,b1,b2,b3,b4,b5,b6,s1,s2,c2]
   exact d3 K k' hK (by omega)
  ·refine⟨x,hr,by omega,fun K k hK hk=>?_⟩
   obtain⟨k',rfl,_⟩:=bG hk
   simp only [eI,h8,oB,dF hlt,bV]
theorem aNg {n w:Nat} {l:List aC} (h:IO w l) (hw:w≤n):∀t i,i+t=l.length→tks n l t i=true
 |0,_,_=>rfl
 |t+1,i,hi=>by
  unfold tks
  rw [aNg h hw t (i+1) (by omega),Bool.and_true]
  have hil:i<l.length:=by omega
  have e:∀k,(hk:k<l.length)→wU l k=l[k]:=fun k hk=>by
   unfold wU;simp only [List.getD_eq_getElem?_getD,List.getElem?_eq_getElem hk,Option.getD_some]
  have h1:=h.1 l[i] (List.getElem_mem hil)
  refine decide_eq_true ⟨by rw [e i hil];exact h1.1,by rw [e i hil];have:=h1.2;omega,fun h0=>?_⟩
  rw [e i hil,e (i-1) (by omega)]
  exact List.pairwise_iff_getElem.1 h.2 (i-1) i (by omega) hil (by omega)
theorem aO3 {v:List Rat}:∀(l:List aC) (x:Rat),(∀t∈l,trm v t=0)→rtf v l x=x
 |[],x,_=>rfl
 |t::l,x,h=>by
  unfold rtf
  rw [h t (List.mem_cons_self ..),Rat.add_zero]
  exact aO3 l x fun u hu=>h u (List.mem_cons_of_mem _ hu)
theorem aJD {d:List aF} {f v:List Rat} {l:List aA} {n w:Nat} (hn:n≤4) (hw:w≤n) (hd:d.length=n) (hf:f.length=n) (hv:v.length=n) (hp:d.all aCz=true) (hl:RsN n w l) (h0:∀j,j<w→tA v j=0):zB d f v l=true:=by
 unfold zB
 rw [hp,decide_eq_true (show d.length≤12∧f.length=d.length∧v.length=d.length by omega),Bool.true_and,Bool.true_and]
 refine List.all_eq_true.2 fun r hr=>?_
 obtain⟨r1,r2,r3,r4⟩:=hl r hr
 have e:rt r.j v=0:=aO3 _ _ fun t ht=>by
  have:=r2.1 t ht
  unfold trm
  rw [decide_eq_true (show 0≤t.dof∧t.dof<(v.length:Int) by omega),cC,h0 _ (by omega),Rat.mul_zero]
 unfold wT oQ tOk
 rw [e,hd,aNg r2 hw _ _ (Nat.zero_add _),aNg r3 (Nat.le_refl n) _ _ (Nat.zero_add _),decide_eq_true (aMR r4)];rfl
theorem aGR {a:List Rat} (h:∀x∈a,x=0) (j:Nat):tA a j=0:=by
 by_cases e:j<a.length
 ·exact h _ (xM e)
 ·unfold tA;rw [List.getD_eq_getElem?_getD,List.getElem?_eq_none (by omega)];rfl
theorem aNb {l:List Int} (hl:aHW l) (rest:Bool):∃s,aM7 s∧zB s.dofs s.load s.v s.rows=true∧Ev (fun K=>kH K l rest) s:=by
 obtain⟨v0,a1,a2,a3⟩:=aCb hl 0 (m:=4) (by omega)
 obtain⟨n,hn⟩:∃n:Nat,1+v0=(n:Int):=⟨(1+v0).toNat,by omega⟩
 have e1:aY (1+v0)=some (n:Int):=by rw [lL (by omega),hn]
 obtain⟨a,b,d,g1,g2,g3,g4,g5,g6,g8,g9,g7⟩:=aGD hl (n:=n) (by omega) n 0 [] [] [] (by omega) rfl rfl rfl (fun t h=>absurd h List.not_mem_nil) (fun t h=>absurd h List.not_mem_nil) (fun t h=>absurd h List.not_mem_nil) (fun t h=>absurd h List.not_mem_nil) rfl
 obtain⟨v5,b1,b2,b3⟩:=aCb hl 5 (m:=3) (by omega)
 obtain⟨v8,c1,c2,c3⟩:=aCb hl 8 (m:=5) (by omega)
 obtain⟨r,d1,d2,d3⟩:=aFs hl n (by omega) c1 c3 4 0 [] rfl rfl (fun x h=>absurd h List.not_mem_nil)
 obtain⟨r',d1',d2',d3'⟩:=aCA hl rest n (by omega) c1 c3 4 0 [] rfl rfl (fun x h=>absurd h List.not_mem_nil)
 simp only [Int.natCast_zero] at g7 d3 d3'
 by_cases h5:0<v5
 ·cases rest
  ·obtain⟨v6,f1,f2,f3⟩:=aCb hl 6 (m:=9) (by omega)
   obtain⟨v7,f4,f5,f6⟩:=aCb hl 7 (m:=3) (by omega)
   obtain⟨q,q1,q2,q3⟩:=aCp (k:=8) (p:=v6-4) (q:=1+v7) (by omega) (by omega) (by omega) (by omega)
   have e2:aY ((n:Int)-1)=some ((n-1:Nat):Int):=ckN (m:=0) (by omega) (by omega)
   have e3:aY (v6-4)=some (v6-4):=lL (by omega)
   have e4:aY (1+v7)=some (1+v7):=lL (by omega)
   refine⟨⟨d,b,a.set (n-1) q,r'⟩,⟨by simp only;omega,by simp only;omega,g6,by simp only;omega,by simp only [List.length_set];omega,g5,fun x hx=>?_,fun x hx=>(d1' x hx).1.1,d2',fun x hx=>(d1' x hx).1⟩,aJD (n:=n) (w:=n-1) (by omega) (by omega) g3 g2 (by simp only [List.length_set];omega) g9 d1' fun j hj=>by unfold tA;rw [List.getD_eq_getElem?_getD,List.getElem?_set_ne (by omega),←List.getD_eq_getElem?_getD];exact aGR g8 j,⟨6+n,fun K hK=>?_⟩⟩
   ·rcases List.mem_or_eq_of_mem_set hx with h|h
    ·exact g4 x h
    ·rw [h];exact q3
   ·simp only [kH,a1,oB,e1,g7 K K (by omega),kP,b1,dT h5,cC,Bool.not_false,e2,f1,e3,f4,e4,q1,aIx (l:=a) (i:=n-1) (by omega),stG (xs:=a) (i:=n-1) (v:=q) (by omega),kR,d3' K K (by omega) (by omega),lX]
  ·refine⟨⟨d,b,a,r'⟩,⟨by simp only;omega,by simp only;omega,g6,by simp only;omega,by simp only;omega,g5,g4,fun x hx=>(d1' x hx).1.1,d2',fun x hx=>(d1' x hx).1⟩,aJD (n:=n) (w:=n) (by omega) (by omega) g3 g2 g1 g9 d1' fun j _=>aGR g8 j,⟨6+n,fun K hK=>?_⟩⟩
   simp only [kH,a1,oB,e1,g7 K K (by omega),kP,b1,dT h5,cC,Bool.not_true,bV,kR,d3' K K (by omega) (by omega),lX]
 ·refine⟨⟨d,b,a,r⟩,⟨by simp only;omega,by simp only;omega,g6,by simp only;omega,by simp only;omega,g5,g4,fun x hx=>(d1 x hx).1.1,d2,fun x hx=>(d1 x hx).1⟩,aJD (n:=n) (w:=n) (by omega) (by omega) g3 g2 g1 g9 d1 fun j _=>aGR g8 j,⟨6+n,fun K hK=>?_⟩⟩
  simp only [kH,a1,oB,e1,g7 K K (by omega),kP,b1,dF h5,bV,pN,d3 K K (by omega) (by omega),oV]
theorem aDM {a0:List Int} {a1:Bool} {a2 a3:Int} (h0:aHW a0) (h2:-9223372036854775808≤a2∧a2≤9223372036854775807) (h3:-9223372036854775808≤a3∧a3≤9223372036854775807):∃K,iU K a0 a1 a2 a3=some true:=aFj h2 h3 (aNb h0 a1)
end Go.Proofs.YtcjdedkdoagifaaGreat
