/- Texts of the proof, part 6: MT LG LV MS MN MP MU YC YD LD LS XL XF XA XU XV XW XX XY YE YF YG YH YI YJ YK YL YV WA WB WC SA SC WD SD SE SF SG MD SH WP WG YM XZ YN WK WL WN WQ. -/
import Derived.Test.YtolfcbpgmfbgmaaGreatZ5
set_option linter.unusedSimpArgs false
set_option linter.unusedVariables false
namespace Go.Proofs.YtolfcbpgmfbgmaaGreat
theorem aBe(F:Nat→Nat→Rat)(m:Nat):∀n,sm (fun i=>sm (F i) m) n=sm (fun j=>sm (fun i=>F i j) n) m
 |0=>by
  simp only[sm];exact(mD fun i _=>rfl).symm
 |n+1=>by
  simp only[sm];rw[aBe F m n,aD3]
theorem tH(f:Nat→Rat)(a:Rat)(n:Nat):sm (fun c=>a*f c) n=a*sm f n:=by
 rw[Rat.mul_comm,←aCW];exact bC fun i _=>Rat.mul_comm _ _
theorem wJ(f:Nat→Rat)(n:Nat):sm (fun c=>-(f c)) n=-(sm f n):=by
 have:=tH f (-1) n;rw[bC (g:=fun c=>-1*f c) fun i _=>by grind,this];grind
def skp(k c:Nat):Nat:=if c<k then c else c+1
theorem aQY(F:Nat→Rat){k:Nat}:∀{n:Nat},k≤n→sm (fun l=>F (skp k l)) n=sm (fun m=>if m=k then 0 else F m) (n+1)
 |0,h=>by
  have:k=0:=by omega
  subst this;simp only[sm];grind
 |n+1,h=>by
  by_cases f:k≤n
  ·have ih:=aQY F f;rw[sm,ih,sm,sm,sm];have j:skp k n=n+1:=by unfold skp;rw[if_neg (by omega)]
   rw[j,if_neg (show¬n+1=k by omega)]
  ·have:k=n+1:=by omega
   subst this;rw[sm.eq_2 _ (n+1),if_pos rfl];rw[bC (g:=F) fun i e=>by unfold skp;rw[if_pos e],bC (g:=F) fun i e=>if_neg (by omega)];grind
def sgn(k:Nat):Rat:=if k%2=0 then 1 else -1
def mnr(g:Nat→Nat→Rat)(k i c:Nat):Rat:=g (i+1) (skp k c)
def dt:Nat→(Nat→Nat→Rat)→Rat
 |0,_=>1
 |n+1,g=>sm (fun k=>sgn k*(g 0 k*dt n (mnr g k))) (n+1)
theorem aPz{k c n:Nat}(hc:c<n):skp k c<n+1:=by unfold skp;split<;>omega
theorem xD:∀{n:Nat} {g g':Nat→Nat→Rat},(∀i c,i<n→c<n→g i c=g' i c)→dt n g=dt n g'
 |0,_,_,_=>rfl
 |n+1,g,g',h=>by
  simp only[dt];refine bC fun k e=>?_
  rw[h 0 k (by omega) e,xD (g:=mnr g k) (g':=mnr g' k) fun i c f hc=>h (i+1) _ (by omega) (aPz hc)]
theorem aP2{g:Nat→Nat→Rat}{f:Nat→Rat}{k:Nat}:mnr (k9 g 0 f) k=mnr g k:=by
 funext i c;unfold mnr;rw[bN (by omega)]
theorem aSl{g:Nat→Nat→Rat}{f:Nat→Rat}{k j:Nat}:mnr (k9 g (j+1) f) k=k9 (mnr g k) j (fun c=>f (skp k c)):=by
 funext i c;unfold mnr;by_cases h:i=j
 ·subst h;rw[aR,aR]
 ·rw[bN (by omega),bN h]
theorem aMe{u v:Nat→Rat}{a:Rat}:∀{n:Nat} {g:Nat→Nat→Rat} {i:Nat},i<n→dt n (k9 g i (fun c=>u c-a*v c))=dt n (k9 g i u)-a*dt n (k9 g i v)
 |0,_,_,h=>by omega
 |n+1,g,0,_=>by
  simp only[dt,aP2,aR];rw[←aCe];exact bC fun k _=>by grind
 |n+1,g,j+1,h=>by
  simp only[dt,aSl,bN (show 0≠j+1 by omega)];rw[←aCe];refine bC fun k _=>?_
  rw[aMe (u:=fun c=>u (skp k c)) (v:=fun c=>v (skp k c)) (a:=a) (show j<n by omega)];grind
theorem aE0(k:Nat):sgn (k+1)=-(sgn k):=by
 unfold sgn;by_cases h:k%2=0
 ·rw[if_pos h,if_neg (by omega)]
 ·rw[if_neg h,if_pos (by omega)];grind
theorem aJe(k:Nat):∀l,sgn (k+l)=sgn k*sgn l
 |0=>by
  have:sgn 0=1:=rfl;rw[this,Nat.add_zero];grind
 |l+1=>by
  rw[←Nat.add_assoc,aE0,aJe k l,aE0];grind
def aOh(k m c:Nat):Nat:=if c<min k m then c else if c+1<max k m then c+1 else c+2
theorem aRy(k l c:Nat):skp k (skp l c)=aOh k (skp k l) c:=by
 unfold aOh skp;by_cases e:l<k
 ·rw[if_pos e]
  repeat' split
  all_goals omega
 ·rw[if_neg e]
  repeat' split
  all_goals omega
theorem aOb(k m c:Nat):aOh k m c=aOh m k c:=by
 unfold aOh;rw[Nat.min_comm,Nat.max_comm]
def eps(k m:Nat):Rat:=if k<m then sgn (k+m+1) else sgn (k+m)
theorem aO4{k m:Nat}(h:m≠k):eps k m=-(eps m k):=by
 unfold eps;by_cases e:k<m
 ·rw[if_pos e,if_neg (by omega),aE0,Nat.add_comm]
 ·rw[if_neg e,if_pos (by omega),aE0,Nat.add_comm];grind
theorem aRl(k l:Nat):sgn k*sgn l=eps k (skp k l):=by
 unfold eps skp;by_cases h:l<k
 ·rw[if_pos h,if_neg (by omega),aJe]
 ·rw[if_neg h,if_pos (by omega)];rw[show k+(l+1)+1=k+l+2 by omega,show sgn (k+l+2)=sgn (k+l) by unfold sgn;rw[show(k+l+2)%2=(k+l)%2 by omega],aJe]
def aLH(g:Nat→Nat→Rat)(k m i c:Nat):Rat:=g (i+2) (aOh k m c)
theorem aQT{n:Nat}{g:Nat→Nat→Rat}:dt (n+2) g=sm (fun k=>sm (fun m=>if m=k then 0 else eps k m*(g 0 k*(g 1 m*dt n (aLH g k m)))) (n+2)) (n+2):=by
 rw[dt];refine bC fun k e=>?_
 rw[←aQY (fun m=>eps k m*(g 0 k*(g 1 m*dt n (aLH g k m)))) (show k≤n+1 by omega),dt,←tH,←tH];refine bC fun l _=>?_
 rw[←aRl,show dt n (mnr (mnr g k) l)=dt n (aLH g k (skp k l)) from congrArg (dt n) (by
  funext i c;unfold mnr aLH;rw[aRy])]
 unfold mnr;grind
theorem aOi{n:Nat}{g:Nat→Nat→Rat}:dt (n+2) (zU g 0 1)=-(dt (n+2) g):=by
 rw[aQT,aQT,aBe,←wJ];refine bC fun k _=>?_
 rw[←wJ];refine bC fun m _=>?_
 by_cases h:k=m
 ·rw[if_pos h,if_pos h.symm];grind
 ·rw[if_neg h,if_neg (fun e=>h e.symm),aO4 (by exact fun e=>h e)];have e:aLH (zU g 0 1) m k=aLH g k m:=by
   funext i c;unfold aLH zU;rw[if_neg (by omega),if_neg (by omega),aOb]
  rw[e];have f:zU g 0 1 0=g 1:=by unfold zU;rw[if_pos rfl]
  have j:zU g 0 1 1=g 0:=by unfold zU;rw[if_neg (by omega),if_pos rfl]
  rw[f,j];grind
theorem aRt{g:Nat→Nat→Rat}{a b k:Nat}:mnr (zU g (a+1) (b+1)) k=zU (mnr g k) a b:=by
 funext i c;unfold mnr zU;congr 1;by_cases e:i=a
 ·rw[if_pos (by omega),if_pos e]
 ·rw[if_neg (by omega),if_neg e];by_cases f:i=b
  ·rw[if_pos (by omega),if_pos f]
  ·rw[if_neg (by omega),if_neg f]
theorem aJF:∀{n:Nat} {g:Nat→Nat→Rat} {i:Nat},i+1<n→dt n (zU g i (i+1))=-(dt n g)
 |0,_,_,h=>by omega
 |1,_,_,h=>by omega
 |n+2,g,0,_=>aOi
 |n+2,g,i+1,h=>by
  rw[dt,dt,←wJ];refine bC fun k _=>?_
  rw[aRt,aJF (show i+1<n+1 by omega)];have e:zU g (i+1) (i+1+1) 0=g 0:=by unfold zU;rw[if_neg (by omega),if_neg (by omega)]
  rw[e];grind
theorem aL6{n:Nat}:∀(t:Nat) {g:Nat→Nat→Rat} {i:Nat},i+t+1<n→dt n (zU g i (i+t+1))=-(dt n g)
 |0,g,i,h=>aJF h
 |t+1,g,i,h=>by
  have e:zU g i (i+(t+1)+1)=zU (zU (zU g (i+t+1) (i+t+1+1)) i (i+t+1)) (i+t+1) (i+t+1+1):=by
   funext j;unfold zU;congr 1
   repeat' split
   all_goals omega
  rw[e,aJF (by omega),aL6 t (by omega),aJF (by omega)];grind
theorem aQU{g:Nat→Nat→Rat}{a b:Nat}:zU g a b=zU g b a:=by
 funext j;unfold zU;congr 1
 repeat' split
 all_goals omega
structure Alt (h:Nat) (D:(Nat→Nat→Rat)→Rat):Prop where
 cong:∀g g':Nat→Nat→Rat,(∀i,i<h→g i=g' i)→D g=D g'
 lin:∀(g:Nat→Nat→Rat) (u v:Nat→Rat) (a:Rat) (i:Nat),i<h→D (k9 g i (fun c=>u c-a*v c))=D (k9 g i u)-a*D (k9 g i v)
 swap:∀(g:Nat→Nat→Rat) (i j:Nat),i<h→j<h→i≠j→D (zU g i j)=-(D g)
theorem aGY(n:Nat):Alt n (dt n):=⟨fun g g' h=>xD fun i c e _=>by rw[h i e],fun g u v a i e=>aMe e,fun g i j e f hne=>by
 by_cases h:i<j
 ·obtain⟨t,rfl⟩:∃t,j=i+t+1:=⟨j-i-1,by omega⟩;exact aL6 t f
 ·obtain⟨t,rfl⟩:∃t,i=j+t+1:=⟨i-j-1,by omega⟩;rw[aQU];exact aL6 t e⟩
theorem Alt.zero{h:Nat}{D:(Nat→Nat→Rat)→Rat}(a:Alt h D){g:Nat→Nat→Rat}{i:Nat}(f:i<h)(k:g i=fun _=>0):D g=0:=by
 have:=a.lin g (g i) (g i) 1 i f;have e:(fun c=>g i c-1*g i c)=g i:=by funext c;rw[k];grind
 have q:k9 g i (g i)=g:=by
  funext j;unfold k9;split
  ·rename_i h;rw[h]
  ·rfl
 rw[e,q]at this;grind
theorem aQE{α:Type}{g:Nat→α}{i:Nat}:k9 g i (g i)=g:=by
 funext j;unfold k9;split
 ·rename_i h;rw[h]
 ·rfl
theorem Alt.scale{h:Nat}{D:(Nat→Nat→Rat)→Rat}(a:Alt h D){g:Nat→Nat→Rat}{u:Nat→Rat}{b:Rat}{i:Nat}(j:i<h):D (k9 g i (fun c=>b*u c))=b*D (k9 g i u):=by
 have f:=a.lin g (fun _=>0) u (-b) i j;have k:D (k9 g i (fun _=>0))=0:=a.zero j aR;rw[k]at f;have e:(fun c=>(0:Rat)- -b*u c)=fun c=>b*u c:=by funext c;grind
 rw[e]at f;rw[f];grind
theorem Alt.same{h:Nat}{D:(Nat→Nat→Rat)→Rat}(a:Alt h D){g:Nat→Nat→Rat}{i j:Nat}(f:i<h)(k:j<h)(hne:i≠j)(he:g i=g j):D g=0:=by
 have q:=a.swap g i j f k hne;have e:zU g i j=g:=by
  funext l;unfold zU;split
  ·rename_i h;rw[h,he]
  ·split
   ·rename_i h;rw[h,he]
   ·rfl
 rw[e]at q;grind
theorem Alt.add{h:Nat}{D:(Nat→Nat→Rat)→Rat}(a:Alt h D){g:Nat→Nat→Rat}{b:Rat}{i j:Nat}(f:i<h)(k:j<h)(hne:i≠j):D (k9 g i (fun c=>g i c-b*g j c))=D g:=by
 rw[a.lin g (g i) (g j) b i f,aQE,a.same (g:=k9 g i (g j)) f k hne (by rw[aR,bN (fun e=>hne e.symm)])];grind
def elm(g:Nat→Nat→Rat)(n k j i c:Nat):Rat:=if i<j∧i≠n then g i c-g i k*g n c else g i c
theorem Alt.elm0{h:Nat}{D:(Nat→Nat→Rat)→Rat}(a:Alt h D){g:Nat→Nat→Rat}{n k:Nat}(q:n<h):∀j,j≤h→D (elm g n k j)=D g
 |0,_=>a.cong _ _ fun i _=>by
  funext c;exact if_neg (by omega)
 |j+1,s=>by
  refine Eq.trans ?_ (Alt.elm0 (k:=k) a q j (by omega));by_cases he:j=n
  ·refine a.cong _ _ fun i _=>?_
   funext c;unfold elm;by_cases e:i<j
   ·rw[if_pos ⟨by omega,by omega⟩,if_pos ⟨e,by omega⟩]
   ·rw[if_neg (by omega),if_neg (by omega)]
  ·refine Eq.trans ?_ (a.add (g:=elm g n k j) (b:=g j k) (show j<h by omega) q he);refine a.cong _ _ fun i _=>?_
   funext c;by_cases e:i=j
   ·subst e;rw[aR];unfold elm;rw[if_pos ⟨by omega,he⟩,if_neg (by omega),if_neg (by omega)]
   ·rw[bN e];unfold elm;by_cases f:i<j∧i≠n
    ·rw[if_pos ⟨by omega,f.2⟩,if_pos f]
    ·rw[if_neg (by omega),if_neg f]
theorem Alt.stp0{h:Nat}{D:(Nat→Nat→Rat)→Rat}(a:Alt h D){g:Nat→Nat→Rat}{n at0 k:Nat}(j:n<h)(q:at0<h)(hne:g at0 k≠0):D g=(if at0=n then 1 else -1)*g at0 k*D (stp g n at0 k):=by
 have s:D (zU g n at0)=(if at0=n then 1 else -1)*D g:=by
  by_cases f:at0=n
  ·rw[if_pos f];have:zU g n at0=g:=by
    funext i;unfold zU;split
    ·rw[f];congr 1;omega
    ·split
     ·congr 1;omega
     ·rfl
   rw[this];grind
  ·rw[if_neg f,a.swap g n at0 j q (fun e=>f e.symm)];grind
 have t:D (zU g n at0)=g at0 k*D (k9 (zU g n at0) n (pr g at0 k)):=by
  rw[←a.scale j];congr 1;funext i;by_cases f:i=n
  ·subst f;rw[aR];funext c;unfold zU pr;rw[if_pos rfl,Rat.div_def,Rat.mul_comm (g at0 c),←Rat.mul_assoc,Rat.mul_inv_cancel _ hne,Rat.one_mul]
  ·rw[bN f]
 have u:D (stp g n at0 k)=D (k9 (zU g n at0) n (pr g at0 k)):=by
  rw[←a.elm0 (g:=k9 (zU g n at0) n (pr g at0 k)) (n:=n) (k:=k) j h (Nat.le_refl _)];refine a.cong _ _ fun i x=>?_
  funext c;unfold stp elm;by_cases f:i=n
  ·subst f;rw[if_pos rfl,if_neg (by omega),aR]
  ·rw[if_neg f,if_pos ⟨x,f⟩,bN f,aR]
 rw[u];have y:D g=(if at0=n then 1 else -1)*D (zU g n at0):=by
  rw[s];split<;>grind
 rw[y,t];grind
theorem Alt.red0{h:Nat}{D:(Nat→Nat→Rat)→Rat}(a:Alt h D){g:Nat→Nat→Rat}:∀k,D g=(red g h k).d*D (red g h k).g
 |0=>by simp only[red];grind
 |k+1=>by
  refine(Alt.red0 a k).trans ?_;have e:=(aMy (g:=g) (h:=h) k).ph;simp only[red];generalize red g h k=s at *;unfold aEq;split
  ·rfl
  ·rename_i hat;have hp:=aGR (g:=s.g) (k:=k) (h-s.ps.length) s.ps.length;have hlt:piv s.g k (h-s.ps.length) s.ps.length<h:=by omega
   have hne:=aKm (g:=s.g) (k:=k) (h-s.ps.length) s.ps.length (by omega);rw[a.stp0 (g:=s.g) (n:=s.ps.length) (at0:=piv s.g k (h-s.ps.length) s.ps.length) (k:=k) (by omega) hlt hne];simp only;split<;>grind
/-- What a machine's integer is. -/
def I64(x:Int):Prop:=-9223372036854775808≤x∧x≤9223372036854775807
theorem aRG{x y:Int}(f:I64 x)(h:2≤y):∃v,chq x y=some v∧I64 v:=by
 have j:(x.tdiv y).natAbs≤x.natAbs:=by
  rw[Int.natAbs_tdiv];exact Nat.div_le_self _ _
 have e:I64 (x.tdiv y):=by
  have k:(x.tdiv y).natAbs=x.natAbs/y.natAbs:=Int.natAbs_tdiv x y;have q:x.natAbs/y.natAbs≤x.natAbs/2:=Nat.div_le_div_left (by omega) (by omega);unfold I64 at *;omega
 refine⟨x.tdiv y,?_,e⟩;unfold chq;rw[if_neg (by omega)];exact t9 e
/-- A matrix with a column more. -/
def wid(g:Nat→Nat→Rat)(f:Nat→Rat)(w i c:Nat):Rat:=if c<w then g i c else f i
theorem aR8{g:Nat→Nat→Rat}{f:Nat→Rat}{w i:Nat}:mp (g i) w++[f i]=mp (wid g f w i) (w+1):=by
 rw[aAs];have e:wid g f w i w=f i:=if_neg (Nat.lt_irrefl w);rw[e,cV (f:=wid g f w i) (g:=g i) fun c hc=>if_pos hc]
theorem aOY{g:Nat→Nat→Rat}{f:Nat→Rat}{h w b:Nat}(j:uF h w b g)(k:∀i,i<h→Bd b (f i)):uF h (w+1) b (wid g f w):=fun i c e hc=>by
 unfold wid;split
 ·exact j i c e ‹_›
 ·exact k i e
theorem aIi{g:Nat→Nat→Rat}{f:Nat→Rat}{h w:Nat}(hh:h≤64)(hw:w≤64)(K:Nat):∀(t i k:Nat),i+t=h→t<k→nP K (mx g h w) (mp f h) k (mx (wid g f w) i (w+1)) (i:Int)=some (mx (wid g f w) h (w+1))
 |0,i,k,q,e=>by
  obtain⟨j,rfl,_⟩:=aT e;have:i=h:=by omega
  subst this;simp only[nP,oD,dF (show¬(i:Int)<(i:Int) by omega),bE]
 |t+1,i,k,q,e=>by
  obtain⟨j,rfl,_⟩:=aT e;have s:rQ ([]:List Rat) (mp (g i) w)=some (mp (g i) w):=by rw[xV (by rw[aO,List.length_nil];omega),List.nil_append]
  have u:rQ (mp (g i) w) [f i]=some (mp (wid g f w i) (w+1)):=by rw[apS (by rw[aO];omega),aR8]
  have x:rQ (mx (wid g f w) i (w+1)) [mp (wid g f w i) (w+1)]=some (mx (wid g f w) (i+1) (w+1)):=apM (g:=fun i=>mp (wid g f w i) (w+1)) (by omega);simp only[nP,oD,dT (show(i:Int)<(h:Int) by omega),bJ,aB6 (g:=g) (w:=w) (show i<h by omega),oB,gR,s,cZ (f:=f) (show i<h by omega),u,x,rO (i:=i) (by omega)];exact aIi hh hw K t (i+1) j (by omega) (by omega)
def aGz(g:Nat→Nat→Rat)(w:Nat):Nat→Nat→Bool
 |0,_=>false
 |t+1,i=>if g i w=0 then aGz g w t (i+1) else true
theorem aIs{g:Nat→Nat→Rat}{h w b n:Nat}(s:uF h (w+1) b g)(hb:b≤1073741824)(hh:h≤1000)(x:n≤h)(K:Nat):∀(t i k:Nat),n+i+t=h→t<k→nR K (w:Int) (mp (fun j=>mp (g (n+j)) (w+1)) (h-n)) k (i:Int)=some (if aGz g w t (n+i)=true then .ret ([],6) else .go ())
 |0,i,k,y,q=>by
  obtain⟨u,rfl,_⟩:=aT q;simp only[nR,aO,dF (show¬(i:Int)<((h-n:Nat):Int) by omega),bE,aGz];rfl
 |t+1,i,k,y,q=>by
  obtain⟨u,rfl,_⟩:=aT q;have z:=s (n+i) w (by omega) (by omega);simp only[nR,aO,dT (show(i:Int)<((h-n:Nat):Int) by omega),bJ,cZ (f:=fun j=>mp (g (n+j)) (w+1)) (show i<h-n by omega),oB,cZ (f:=g (n+i)) (show w<w+1 by omega),mZ z hb,aGz];by_cases e:g (n+i) w=0
  ·simp only[nF (aAw.2 e),bE,if_pos e,rO (i:=i) (by omega),oB];exact aIs s hb hh x K t (i+1) u (by omega) (by omega)
  ·simp only[nT (fun h=>e (aAw.1 h)),bJ,if_neg e,if_true]
def aIX(s:RS)(w:Nat):Nat→Nat→Rat
 |0=>fun _=>0
 |m+1=>k9 (aIX s w m) (pat s.ps m) (s.g m w)
theorem aMZ{s:RS}{h w b:Nat}(hb:uF h (w+1) b s.g)(e:1≤b)(hp:s.ps.length≤h):∀m,m≤s.ps.length→∀c,Bd b (aIX s w m c)
 |0,_,c=>Bd.zero.mono e
 |m+1,hm,c=>by
  unfold aIX k9;split
  ·exact hb m w (by omega) (by omega)
  ·exact aMZ hb e hp m (by omega) c
theorem aH3{s:RS}{h w:Nat}(hp:s.ps.length≤h)(hh:h≤1000)(hpw:∀j∈s.ps,j<w)(d:Rat)(K:Nat):∀(t i k:Nat),i+t=s.ps.length→t<k→nV K (w:Int) ⟨mx s.g h (w+1),zG s.ps,d⟩ k (mp (aIX s w i) w) (i:Int)=some (mp (aIX s w s.ps.length) w)
 |0,i,k,y,q=>by
  obtain⟨u,rfl,_⟩:=aT q;have:i=s.ps.length:=by omega
  subst this;simp only[nV,p6,dF (show¬(s.ps.length:Int)<(s.ps.length:Int) by omega),bE]
 |t+1,i,k,y,q=>by
  obtain⟨u,rfl,_⟩:=aT q;have x:i<s.ps.length:=by omega
  have e:=hpw _ (aMu x);simp only[nV,p6,dT (show(i:Int)<(s.ps.length:Int) by omega),bJ,rdI x,oB,aB6 (g:=s.g) (w:=w+1) (show i<h by omega),cZ (f:=s.g i) (show w<w+1 by omega),cZ (f:=aIX s w i) e,wT (f:=aIX s w i) e,rO (i:=i) (by omega)];exact aH3 hp hh hpw d K t (i+1) u (by omega) (by omega)
def aFD(g:Nat→Nat→Rat)(f:Nat→Rat)(h w:Nat):Option (List Rat):=
 let s:=red (wid g f w) h w
 if aGz s.g w (h-s.ps.length) s.ps.length=true then none else some (mp (aIX s w s.ps.length) w)
theorem aOj{g:Nat→Nat→Rat}{f:Nat→Rat}{h w b:Nat}(t:uF h w b g)(u:∀i,i<h→Bd b (f i))(hc:Cok h w)(hb:2≤b)(hB:5^w*b≤200000000)(hh:h≤64)(hw:w≤63){K:Nat}(y:w+1+h<K):
  wH K (mx g h w) (mp f h)=some (match aFD g f h w with|none=>([],6)|some x=>(x,0)):=by
 have hgw:=aOY t u;have r:=aIP hgw hb w (by omega);have e:=aIi (g:=g) (f:=f) hh (show w≤64 by omega) K h 0 K (by omega) (by omega);have z1:mx (wid g f w) 0 (w+1)=[]:=rfl;rw[z1]at e;simp only[Int.natCast_zero,vZ]at e;have hrd:=aIq hgw hb (show w≤w+1 by omega) hB (show h≤1000 by omega) (show w+1≤1000 by omega) (K:=K) (by omega);have hpk:∀j∈(red (wid g f w) h w).ps,j<w:=r.pk;have hbig:5^w*b≤1073741824:=by omega
 unfold aFD;generalize red (wid g f w) h w=s at *;have hp:=r.ph;have k:=aIs r.bd hbig (show h≤1000 by omega) hp K (h-s.ps.length) 0 K (by omega) (by omega);have q:=aH3 hp (show h≤1000 by omega) hpk s.d K s.ps.length 0 K (by omega) (by omega);simp only[Int.natCast_zero,Nat.add_zero,aIX]at k q;have hsl:slL (mx s.g h (w+1)) (s.ps.length:Int) (h:Int)=some (mp (fun j=>mp (s.g (s.ps.length+j)) (w+1)) (h-s.ps.length)):=aVo (f:=fun j=>mp (s.g j) (w+1)) hp;simp only[wH,aK2 hc hh (show w≤64 by omega) (K:=K) (by omega),oB,Bool.not_true,bE,aO,oD,nF (rfl:(h:Int)=(h:Int)),aJk hc,e,uZ,hrd,p6,hsl,k];by_cases hin:aGz s.g w (h-s.ps.length) s.ps.length=true
 ·simp only[if_pos hin]
 ·simp only[if_neg hin,u6,aDD (n:=w) (z:=(0:Rat)) (by omega),oB,q,uX]
theorem aNS{g:Nat→Nat→Rat}{f:Nat→Rat}{h w b:Nat}(j:uF h w b g)(k:∀i,i<h→Bd b (f i))(hb:2≤b){x:List Rat}(e:aFD g f h w=some x):x.length=w∧Bds (5^w*b) x:=by
 have r:=aIP (aOY j k) hb w (by omega);unfold aFD at e;generalize red (wid g f w) h w=s at *;by_cases hin:aGz s.g w (h-s.ps.length) s.ps.length=true
 ·simp only[if_pos hin]at e;cases e
 ·simp only[if_neg hin,Option.some.injEq]at e;subst e;exact⟨aO _ _,w6 fun i _=>aMZ r.bd (by have:=aKN w b hb;omega) r.ph _ (Nat.le_refl _) i⟩
/-- The size of a sum of products. -/
theorem aDO{f e:Nat→Rat}{w b b':Nat}(h:∀c,c<w→Bd b (f c))(he:∀c,c<w→Bd b' (e c)):∀i,i≤w→Bd (1+i*(b+b'+1)) (sm (fun c=>f c*e c) i)
 |0,_=>Bd.zero.mono (by omega)
 |i+1,j=>by
  simp only[sm];have hs:1+i*(b+b'+1)+(b+b')+1=1+(i+1)*(b+b'+1):=by rw[Nat.add_mul];omega
  exact((aDO h he i (by omega)).add ((h i (by omega)).mul (he i (by omega)))).mono (by omega)
def aJV(g:Nat→Nat→Rat)(v:Nat→Rat)(w i:Nat):Rat:=sm (fun c=>g i c*v c) w
theorem aQt{f e:Nat→Rat}{w b:Nat}(u:∀c,c<w→Bd b (f c))(he:∀c,c<w→Bd b (e c))(hb:b≤1000000)(hw:w≤100)(K:Nat):∀(t i k:Nat),i+t=w→t<k→Bd (1+i*(b+b+1)) (sm (fun c=>f c*e c) i)→Bd (1+w*(b+b+1)) (sm (fun c=>f c*e c) w)∧lS K (mp f w) (mp e w) k (sm (fun c=>f c*e c) i) (i:Int)=some (sm (fun c=>f c*e c) w)
 |0,i,k,y,j,h=>by
  obtain⟨x,rfl,_⟩:=aT j;have:i=w:=by omega
  subst this;exact⟨h,by simp only[lS,aO,dF (show¬(i:Int)<(i:Int) by omega),bE]⟩
 |t+1,i,k,y,j,h=>by
  obtain⟨x,rfl,_⟩:=aT j;have q:=u i (by omega);have s:=he i (by omega);have hib:i*(b+b+1)≤100*2000001:=Nat.mul_le_mul (by omega) (by omega);have hs:1+i*(b+b+1)+(b+b)+1=1+(i+1)*(b+b+1):=by rw[Nat.add_mul];omega
  obtain⟨z,F⟩:=aQt u he hb hw K t (i+1) x (by omega) (by omega) (by simp only[sm];exact(h.add (q.mul s)).mono (by omega));refine⟨z,?_⟩;simp only[lS,aO,dT (show(i:Int)<(w:Int) by omega),bJ,cZ (f:=f) (show i<w by omega),cZ (f:=e) (show i<w by omega),oB,aAD q s (by omega) (by omega),aBf h (q.mul s) (by omega) (by omega),rO (i:=i) (by omega)];exact F
theorem aLx{f e:Nat→Rat}{w b:Nat}(j:∀c,c<w→Bd b (f c))(he:∀c,c<w→Bd b (e c))(hb:b≤1000000)(hw:w≤100){K:Nat}(k:w<K):Bd (1+w*(b+b+1)) (sm (fun c=>f c*e c) w)∧lK K (mp f w) (mp e w)=some (sm (fun c=>f c*e c) w):=by
 obtain⟨q,h⟩:=aQt j he hb hw K w 0 K (by omega) k (Bd.zero.mono (by omega));simp only[Int.natCast_zero,sm]at h;exact⟨q,by simp only[lK,h,oB,tM]⟩
/-- A turned matrix. -/
def tr(g:Nat→Nat→Rat)(i k:Nat):Rat:=g k i
def aBn(g q:Nat→Nat→Rat)(w i j:Nat):Rat:=aJV (tr q) (g i) w j
theorem aVS:sgn 0=1:=rfl
def aAG(i c:Nat):Rat:=if i=c then 1 else 0
theorem aGa:∀n,dt n aAG=1
 |0=>rfl
 |n+1=>by
  rw[dt,uC (p:=0) (by omega) fun k _ f=>by unfold aAG;rw[if_neg (fun e=>f e.symm)];grind];have e:dt n (mnr aAG 0)=dt n aAG:=xD fun i c _ _=>by
   unfold mnr aAG skp;rw[if_neg (Nat.not_lt_zero c)];by_cases h:i=c
   ·rw[if_pos h,if_pos (by omega)]
   ·rw[if_neg h,if_neg (by omega)]
  rw[e,aGa n,aVS];unfold aAG;rw[if_pos rfl];grind
theorem aQH{h k:Nat}{s:RS}(hs:RJ h k s):∀i,i<s.ps.length→i≤pat s.ps i
 |0,_=>Nat.zero_le _
 |i+1,e=>by
  have:=aQH hs i (by omega);have:=hs.inc i (i+1) (by omega) e;omega
theorem aK7{h k:Nat}{s:RS}(hs:RJ h k s):∀t i,i+t+1=s.ps.length→pat s.ps i+t<k
 |0,i,e=>hs.pk i (by omega)
 |t+1,i,e=>by
  have:=aK7 hs t (i+1) (by omega);have:=hs.inc i (i+1) (by omega) (by omega);omega
theorem aPs{h k:Nat}{s:RS}(hs:RJ h k s)(e:s.ps.length=k){i:Nat}(f:i<k):pat s.ps i=i:=by
 have j:=aQH hs i (by omega);have q:=aK7 hs (k-1-i) i (by omega);omega
theorem aFu{h k:Nat}{s:RS}(hs:RJ h k s)(e:s.ps.length=k){i c:Nat}(f:i<h)(hc:c<k):s.g i c=if i=c then 1 else 0:=by
 have:=hs.one c i (by omega) f;rw[aPs hs e hc]at this;exact this
def aUJ(g:Nat→Nat→Rat)(n:Nat):Rat:=if(red g n n).ps.length=n then(red g n n).d else 0
theorem aTV{g:Nat→Nat→Rat}{n:Nat}:dt n g=aUJ g n:=by
 have e:=aMy (g:=g) (h:=n) n;unfold aUJ;rw[(aGY n).red0 (g:=g) n];split
 ·rename_i f;rw[xD (g':=aAG) fun i c j hc=>aFu e f j hc,aGa];grind
 ·rename_i f;have hlt:(red g n n).ps.length<n:=by have:=e.ph;omega
  rw[xD (g':=fun i c=>if c<n then(red g n n).g i c else 0) fun i c j hc=>by rw[if_pos hc],(aGY n).zero (i:=n-1) (by omega) ?_]
  ·grind
  ·funext c;split
   ·rename_i hc;exact e.z (n-1) c (by omega) (by omega) hc
   ·rfl
theorem aPW(q:Nat→Nat→Rat)(n w:Nat):Alt n fun g=>dt n (aBn g q w):=by
 have eu:∀(g:Nat→Nat→Rat) (f:Nat→Rat) (i:Nat),aBn (k9 g i f) q w=k9 (aBn g q w) i (fun j=>aJV (tr q) f w j):=by
  intro g f i;funext j c;unfold aBn;by_cases h:j=i
  ·subst h;rw[aR,aR]
  ·rw[bN h,bN h]
 refine⟨fun g g' h=>xD fun i c e _=>?_,fun g u v a i e=>?_,fun g i j e k hne=>?_⟩
 ·unfold aBn;rw[h i e]
 ·show dt n _=dt n _-a*dt n _;rw[eu,eu,eu,←aMe e];congr 2;funext j;unfold aJV;rw[←aCe];exact bC fun c _=>by grind
 ·exact(aGY n).swap (aBn g q w) i j e k hne
theorem aO6{g q:Nat→Nat→Rat}{n:Nat}:dt n (aBn g q n)=dt n g*dt n q:=by
 have f:=aMy (g:=g) (h:=n) n;have hm:dt n (aBn g q n)=(red g n n).d*dt n (aBn (red g n n).g q n):=(aPW q n n).red0 (g:=g) n;rw[hm,aTV (g:=g)];unfold aUJ;split
 ·rename_i s;rw[xD (g:=aBn (red g n n).g q n) (g':=q) fun i c k hc=>?_];unfold aBn aJV tr;rw[uC (p:=i) k fun j t hne=>by rw[aFu f s k t,if_neg (fun e=>hne e.symm)];grind];rw[aFu f s k k,if_pos rfl];grind
 ·rename_i s;have hlt:(red g n n).ps.length<n:=by have:=f.ph;omega
  rw[(aGY n).zero (g:=aBn (red g n n).g q n) (i:=n-1) (by omega) (by
   funext c;unfold aBn aJV;exact mD fun j t=>by rw[f.z (n-1) j (by omega) (by omega) t];grind)]
  grind
def aON(g:Nat→Nat→Rat)(h w:Nat):Nat:=(red g h w).ps.length
theorem wY{f:Nat→Rat}:∀{n:Nat},(∀i,i<n→0≤f i)→0≤sm f n
 |0,_=>Rat.le_refl
 |n+1,h=>by
  have e:=wY (f:=f) (n:=n) fun i j=>h i (by omega)
  have k:=h n (by omega);simp only[sm];grind
/-- The unit matrix with one column replaced. -/
def aJ7(i:Nat)(x:Nat→Rat)(r c:Nat):Rat:=if c=i then x r else if r=c then 1 else 0
theorem aR9{n i:Nat}(j:i<n)(x:Nat→Rat):dt n (aJ7 i x)=x i:=by
 have a:=aGY n;have q:aJ7 i x=k9 (aJ7 i x) i (fun c=>x i*aAG i c):=by
  funext r c;by_cases h:r=i
  ·subst h;rw[aR];unfold aJ7 aAG;by_cases f:c=r
   ·rw[if_pos f,if_pos f.symm,Rat.mul_one]
   ·rw[if_neg f,if_neg (show¬r=c from fun e=>f e.symm),Rat.mul_zero]
  ·rw[bN h]
 have s:dt n (k9 (aJ7 i x) i (aAG i))=1:=by
  rw[←a.elm0 (g:=k9 (aJ7 i x) i (aAG i)) (n:=i) (k:=i) j n (Nat.le_refl n),←aGa n];refine xD fun r c hr hc=>?_
  unfold elm;by_cases h:r=i
  ·subst h;rw[if_neg (fun f=>f.2 rfl),aR]
  ·rw[if_pos ⟨hr,h⟩,bN h,aR];unfold aJ7 aAG;rw[if_pos rfl];by_cases f:c=i
   ·rw[if_pos f,if_pos f.symm,Rat.mul_one,Rat.sub_self,if_neg (by omega)]
   ·rw[if_neg f,if_neg (show¬i=c from fun e=>f e.symm),Rat.mul_zero,Rat.sub_eq_add_neg,Rat.neg_zero,Rat.add_zero]
 rw[q,a.scale j,s,Rat.mul_one]
def aLL(Z:Nat→Nat→Rat)(b:Nat→Nat)(r j:Nat):Rat:=Z r (b j)
def aHT(Z:Nat→Nat→Rat)(b:Nat→Nat)(i k:Nat)(r j:Nat):Rat:=if j=i then Z r k else Z r (b j)
theorem aTY{n w:Nat}{E Z T:Nat→Nat→Rat}{b:Nat→Nat}(f:∀i c,i<n→c<w→T i c=aBn E Z n i c)(hb:∀j,j<n→b j<w)(hu:∀i j,i<n→j<n→T i (b j)=if i=j then 1 else 0){i k:Nat}(t:i<n)(u:k<w):dt n (aLL Z b)≠0∧T i k=dt n (aHT Z b i k)/dt n (aLL Z b):=by
 have q:dt n E*dt n (aLL Z b)=1:=by
  rw[←aO6,←aGa n];refine xD fun r c hr hc=>?_
  show aBn E Z n r (b c)=_;rw[←f r (b c) hr (hb c hc),hu r c hr hc];rfl
 have x:dt n E*dt n (aHT Z b i k)=T i k:=by
  rw[←aO6,←aR9 t (fun r=>T r k)];refine xD fun r c hr hc=>?_
  unfold aJ7;by_cases h:c=i
  ·rw[if_pos h];show _=T r k;rw[f r k hr u];unfold aBn aJV tr aHT;simp[h]
  ·rw[if_neg h,←hu r c hr hc,f r (b c) hr (hb c hc)];unfold aBn aJV tr aHT;simp[h]
 have hne:dt n (aLL Z b)≠0:=fun e=>by rw[e,Rat.mul_zero]at q;exact absurd q (by decide)
 refine⟨hne,?_⟩;rw[←x,Rat.div_def];have:dt n E=(dt n (aLL Z b))⁻¹:=by
  have s:=congrArg (·*(dt n (aLL Z b))⁻¹) q;simp only[Rat.mul_assoc,Rat.mul_inv_cancel _ hne,Rat.mul_one,Rat.one_mul]at s;exact s
 rw[this,Rat.mul_comm]
def yY(M:Nat)(x:Rat):Prop:=∃q:Int,x=(q:Rat)∧q.natAbs≤M
def fM(M:Nat):Nat→Nat
 |0=>1
 |n+1=>(n+1)*(M*fM M n)
theorem yY.mono{M N:Nat}{x:Rat}(h:yY M x)(f:M≤N):yY N x:=by
 obtain⟨q,e,j⟩:=h;exact⟨q,e,by omega⟩
theorem yY.add{M N:Nat}{x y:Rat}(h:yY M x)(k:yY N y):yY (M+N) (x+y):=by
 obtain⟨q,e,j⟩:=h;obtain⟨p,f,s⟩:=k;exact⟨q+p,by rw[e,f,Rat.intCast_add],by omega⟩
theorem yY.mul{M N:Nat}{x y:Rat}(h:yY M x)(k:yY N y):yY (M*N) (x*y):=by
 obtain⟨q,e,f⟩:=h;obtain⟨p,j,s⟩:=k;exact⟨q*p,by rw[e,j,Rat.intCast_mul],by rw[Int.natAbs_mul];exact Nat.mul_le_mul f s⟩
theorem yY.zero:yY 0 0:=⟨0,rfl,Nat.le_refl _⟩
theorem aVq(k:Nat):yY 1 (sgn k):=by
 unfold sgn;split
 ·exact⟨1,rfl,by decide⟩
 ·exact⟨-1,rfl,by decide⟩
theorem aVC{f:Nat→Rat}{M:Nat}:∀n,(∀i,i<n→yY M (f i))→yY (n*M) (sm f n)
 |0,_=>by rw[Nat.zero_mul];exact yY.zero
 |n+1,h=>by
  have:=(aVC n fun i e=>h i (by omega)).add (h n (by omega));rw[Nat.succ_mul];exact this
theorem aUQ{M:Nat}:∀(n:Nat) (g:Nat→Nat→Rat),(∀i c,i<n→c<n→yY M (g i c))→yY (fM M n) (dt n g)
 |0,g,h=>⟨1,rfl,Nat.le_refl _⟩
 |n+1,g,h=>aVC (n+1) fun k f=>by
  have j:=aUQ n (mnr g k) fun i c q hc=>h (i+1) (skp k c) (by omega) (aPz hc)
  have e:=(aVq k).mul ((h 0 k (by omega) f).mul j);rw[Nat.one_mul]at e
  first|exact e|(rw[Rat.mul_assoc];exact e)
theorem aOp{n w M k:Nat}{E Z T:Nat→Nat→Rat}{b:Nat→Nat}(t:∀i c,i<n→c<w→T i c=aBn E Z n i c)(hb:∀j,j<n→b j<w)(hu:∀i j,i<n→j<n→T i (b j)=if i=j then 1 else 0)(f:∀i c,i<n→c<w→yY M (Z i c))(hM:fM M n<2^k):uF n w k T:=fun i c u hc=>by
 obtain⟨x,y⟩:=aTY t hb hu u hc;obtain⟨p,z,F⟩:=aUQ n (aHT Z b i c) fun r j hr h=>by
  unfold aHT;split
  ·exact f r c hr hc
  ·exact f r (b j) hr (hb j h)
 obtain⟨q,s,G⟩:=aUQ n (aLL Z b) fun r j hr h=>f r (b j) hr (hb j h)
 rw[y,z,s];refine Bd.of (fun e=>x (by rw[s,e];rfl)) (Nat.lt_of_le_of_lt F hM) (Nat.lt_of_le_of_lt G hM)
/-- A tableau: its rows are combinations of those of Z, and the columns of the basic variables are those of the unit matrix. -/
structure TI (n w:Nat) (Z T:Nat→Nat→Rat) (b:Nat→Nat):Prop where
 ex:∃E:Nat→Nat→Rat,∀i c,i<n→c<w→T i c=aBn E Z n i c
 lt:∀j,j<n→b j<w
 un:∀i j,i<n→j<n→T i (b j)=if i=j then 1 else 0
def yG(T:Nat→Nat→Rat)(r c i k:Nat):Rat:=if i=r then T r k/T r c else T i k-T i c*(T r k/T r c)
theorem zP{E Z:Nat→Nat→Rat}{n i k:Nat}:aBn E Z n i k=sm (fun j=>Z j k*E i j) n:=by
 unfold aBn aJV tr
 first|rfl|(refine bC fun j _=>?_;first|rfl|exact Rat.mul_comm _ _)
theorem TI.pivot{n w:Nat}{Z T:Nat→Nat→Rat}{b:Nat→Nat}(h:TI n w Z T b){r c:Nat}(hr:r<n)(hc:c<w)(hp:T r c≠0):TI n w Z (yG T r c) (k9 b r c):=by
 obtain⟨⟨E,t⟩,hb,hu⟩:=h;refine⟨⟨fun i j=>if i=r then E r j/T r c else E i j-T i c*(E r j/T r c),fun i k s u=>?_⟩,fun j q=>?_,fun i j s q=>?_⟩
 ·rw[zP];have x:T r k/T r c=sm (fun j=>Z j k*(E r j/T r c)) n:=by
   rw[t r k hr u,zP,Rat.div_def,Rat.mul_comm,←tH];refine bC fun j _=>?_
   rw[Rat.div_def,Rat.mul_comm,Rat.mul_assoc]
  unfold yG;by_cases e:i=r
  ·rw[if_pos e,x];exact bC fun j _=>by rw[if_pos e]
  ·rw[if_neg e,t i k s u,zP,x,←tH,Rat.sub_eq_add_neg,←wJ,←aD3];refine bC fun j _=>?_
   rw[if_neg e,Rat.sub_eq_add_neg,Rat.mul_add,Rat.mul_neg,←Rat.mul_assoc,←Rat.mul_assoc,Rat.mul_comm (T i c)]
 ·by_cases e:j=r
  ·rw[e,aR];exact hc
  ·rw[bN e];exact hb j q
 ·unfold yG;by_cases e:j=r
  ·rw[e,aR,Rat.div_def,Rat.mul_inv_cancel _ hp];by_cases f:i=r
   ·rw[if_pos f,if_pos f]
   ·rw[if_neg f,if_neg f,Rat.mul_one,Rat.sub_self]
  ·have y:T r (b j)=0:=by rw[hu r j hr q,if_neg fun h=>e h.symm]
   rw[bN e,y,Rat.div_def,Rat.zero_mul];by_cases f:i=r
   ·rw[if_pos f,if_neg (by omega)]
   ·rw[if_neg f,Rat.mul_zero,Rat.sub_eq_add_neg,Rat.neg_zero,Rat.add_zero];exact hu i j s q
theorem TI.start{n w:Nat}{Z:Nat→Nat→Rat}(hw:n≤w)(s:∀i j,i<n→j<n→Z i j=if i=j then 1 else 0):TI n w Z Z (fun j=>j):=
 ⟨⟨aAG,fun i c f hc=>by
  rw[zP];have:sm (fun j=>Z j c*aAG i j) n=sm (fun j=>if j=i then Z i c else 0) n:=bC fun j _=>by
   unfold aAG;by_cases e:j=i
   ·rw[if_pos e,e,if_pos rfl,Rat.mul_one]
   ·rw[if_neg e,if_neg (fun h=>e h.symm),Rat.mul_zero]
  rw[this];have key:∀m,m≤n→sm (fun j=>if j=i then Z i c else 0) m=if i<m then Z i c else 0:=by
   intro m
   induction m with
   |zero=>intro _;rw[if_neg (by omega)];rfl
   |succ m ih=>
    intro hm;show sm _ m+(if m=i then Z i c else 0)=_;rw[ih (by omega)];by_cases e:m=i
    ·rw[if_pos e,if_neg (by omega),if_pos (by omega),Rat.zero_add]
    ·rw[if_neg e,Rat.add_zero];by_cases k:i<m
     ·rw[if_pos k,if_pos (by omega)]
     ·rw[if_neg k,if_neg (by omega)]
  rw[key n (Nat.le_refl n),if_pos f]⟩,fun j q=>by omega,fun i j f q=>s i j f q⟩
theorem aTs{M:Nat}:∀n,n≤64→fM M n≤(64*M)^n
 |0,_=>Nat.le_refl _
 |n+1,h=>by
  show(n+1)*(M*fM M n)≤_;rw[Nat.pow_succ,Nat.mul_comm ((64*M)^n),←Nat.mul_assoc];exact Nat.mul_le_mul (Nat.mul_le_mul_right M h) (aTs n (by omega))
theorem TI.scale{n w:Nat}{Z T:Nat→Nat→Rat}{b:Nat→Nat}(h:TI n w Z T b){D:Rat}(e:D≠0):TI n w (fun i c=>Z i c*D) T b:=by
 obtain⟨⟨E,f⟩,hb,hu⟩:=h;refine⟨⟨fun i j=>E i j/D,fun i c k hc=>?_⟩,hb,hu⟩;rw[f i c k hc,zP,zP];refine bC fun j _=>?_
 rw[Rat.div_def,Rat.mul_comm (E i j),Rat.mul_assoc,←Rat.mul_assoc D,Rat.mul_inv_cancel _ e,Rat.one_mul]
theorem TI.bd{n w M k:Nat}{Z T:Nat→Nat→Rat}{b:Nat→Nat}{D:Rat}(h:TI n w Z T b)(e:D≠0)(f:∀i c,i<n→c<w→yY M (Z i c*D))(j:n≤64)(hM:(64*M)^n<2^k):uF n w k T:=by
 obtain⟨⟨E,q⟩,hb,hu⟩:=h.scale e;exact aOp q hb hu f (Nat.lt_of_le_of_lt (aTs n j) hM)
theorem aNL{m:Nat}{a:Rat}(e:Bd m a)(hm:m≤1073741824):aOA a=some true:=by unfold aOA;rw[e.qs hm];rfl
def z0:Nat→Rat:=fun _=>0
def ek(k:Nat):Nat→Rat:=k9 z0 k 1
theorem aSs:qof 1 1=some 1:=by rw[aGK (by omega) (by omega),aQ6]
def ord(N:Nat):List Nat:=mp (fun i=>i+1) N
theorem aOV:Bd 8 (1:Rat):=(show Bd 1 (1:Rat) by constructor<;>decide).mono (by omega)
/-- A number that is whole when it is multiplied so often. -/
def dn(D e M:Nat)(x:Rat):Prop:=yY M (x*((D^e:Nat):Rat))
theorem dn.mono{D e M N:Nat}{x:Rat}(h:dn D e M x)(f:M≤N):dn D e N x:=yY.mono h f
theorem dn.zero{D e M:Nat}:dn D e M 0:=⟨0,by rw[Rat.zero_mul];rfl,Nat.zero_le _⟩
theorem dn.add{D e M N:Nat}{x y:Rat}(h:dn D e M x)(k:dn D e N y):dn D e (M+N) (x+y):=by
 unfold dn;rw[Rat.add_mul];exact yY.add h k
theorem dn.neg{D e M:Nat}{x:Rat}(h:dn D e M x):dn D e M (-x):=by
 obtain⟨q,f,j⟩:=h;exact⟨-q,by rw[Rat.neg_mul,f,Rat.intCast_neg],by omega⟩
theorem dn.mul{D e f M N:Nat}{x y:Rat}(h:dn D e M x)(k:dn D f N y):dn D (e+f) (M*N) (x*y):=by
 have:=yY.mul h k;unfold dn;rw[Nat.pow_add,Rat.natCast_mul];have j:x*y*(((D^e:Nat):Rat)*((D^f:Nat):Rat))=x*((D^e:Nat):Rat)*(y*((D^f:Nat):Rat)):=by
  rw[Rat.mul_assoc,←Rat.mul_assoc y,Rat.mul_comm y,Rat.mul_assoc ((D^e:Nat):Rat),←Rat.mul_assoc]
 rw[j];exact this
theorem dn.up{D e M:Nat}{x:Rat}(h:dn D e M x):dn D (e+1) (M*D) x:=by
 have f:dn D 1 D 1:=⟨(D:Int),by rw[Rat.one_mul,Nat.pow_one];rfl,by simp⟩;have:=h.mul f
 rwa [Rat.mul_one]at this
/-- The first tableau. -/
def z6(M:Nat→Nat→Rat)(q:Nat→Rat)(n i c:Nat):Rat:=
 if c<n then(if i=c then 1 else 0) else if c<2*n then -(M i (c-n)) else if c=2*n then -1 else q i
theorem aQo{M:Nat→Nat→Rat}{q:Nat→Rat}{n:Nat}:TI n (2*n+2) (z6 M q n) (z6 M q n) (fun j=>j):=TI.start (by omega) fun i j f e=>if_pos e
/-- The rows of a tableau as they lie. -/
structure uB (n w:Nat) (rs:List (List Rat)) (od:Nat→Nat) (T:Nat→Nat→Rat):Prop where
 lt:∀i,i<n→od i<rs.length
 inj:∀i j,i<n→j<n→od i=od j→i=j
 row:∀i,i<n→rs.getD (od i) []=mp (T i) w
def s7(n j:Nat):Nat:=if j=0 then 2*n+1 else j-1
def lx(T:Nat→Nat→Rat)(n i:Nat)(c:Rat)(k:Nat)(d:Rat):Nat→Nat→Bool
 |0,_=>false
 |t+1,j=>bif decide (T i (s7 n j)/c=T k (s7 n j)/d) then lx T n i c k d t (j+1) else decide (T i (s7 n j)/c<T k (s7 n j)/d)
def les(T:Nat→Nat→Rat)(n i:Nat)(c:Rat)(k:Nat)(d:Rat):Bool:=lx T n i c k d (n+1) 0
theorem aNJ{m k:Nat}{a b:Rat}(e:Bd m a)(hb:Bd k b)(hm:m≤1073741824)(f:k≤1073741824):aOM a b=some (if a<b then -1 else if b<a then 1 else 0):=by
 unfold aOM;rw[e.qs hm,hb.qs f];rfl
theorem aFK{a b:Rat}:((if a<b then -1 else if b<a then 1 else 0:Int)=0↔a=b)∧decide ((if a<b then -1 else if b<a then 1 else 0:Int)<0)=decide (a<b):=by
 by_cases h:a<b
 ·rw[if_pos h];refine⟨⟨fun e=>absurd e (by decide),fun e=>?_⟩,by rw[decide_eq_true h];rfl⟩;rw[e]at h;exact absurd h (Rat.lt_irrefl)
 ·rw[if_neg h];by_cases e:b<a
  ·rw[if_pos e];refine⟨⟨fun f=>absurd f (by decide),fun f=>?_⟩,by rw[decide_eq_false h];rfl⟩;rw[f]at e;exact absurd e (Rat.lt_irrefl)
  ·rw[if_neg e];exact⟨⟨fun _=>Rat.le_antisymm (Rat.not_lt.1 e) (Rat.not_lt.1 h),fun _=>rfl⟩,by rw[decide_eq_false h];rfl⟩
theorem aRi{n j:Nat}(h:j≤n):s7 n j<2*n+2:=by unfold s7;split<;>omega
theorem aIp{n:Nat}{rs:List (List Rat)}{od:Nat→Nat}{T:Nat→Nat→Rat}(hr:uB n (2*n+2) rs od T){B C:Nat}(s:uF n (2*n+2) B T){i k:Nat}(u:i<n)(x:k<n){c d:Rat}(hc:Bd C c)(y:Bd C d)(z:B+C≤500000000)(I:n≤1000)(K:Nat):
  ∀(t j fu:Nat),j+t=n+1→t<fu→aV K (i:Int) c (k:Int) d (n:Int) (mp od n) rs fu ((j:Int)-1)=some (.ret (lx T n i c k d t j))∨(lx T n i c k d t j=false∧aV K (i:Int) c (k:Int) d (n:Int) (mp od n) rs fu ((j:Int)-1)=some (.go ()))
 |0,j,fu,J,F=>by
  obtain⟨fu',rfl,_⟩:=aT F;refine .inr ⟨rfl,?_⟩;simp only[aV,dF (show¬(j:Int)-1<(n:Int) by omega),bE]
 |t+1,j,fu,J,F=>by
  obtain⟨fu',rfl,_⟩:=aT F;have q:=aRi (n:=n) (j:=j) (by omega);have L:=(s i _ u q).div hc;have b2:=(s k _ x q).div y;have ih:=aIp hr s u x hc y z I K t (j+1) fu' (by omega) (by omega);have key:fA K (i:Int) c (k:Int) d (mp od n) rs ((j:Int)-1) (aV K (i:Int) c (k:Int) d (n:Int) (mp od n) rs fu') ((s7 n j:Nat):Int)=bif decide (T i (s7 n j)/c=T k (s7 n j)/d) then aV K (i:Int) c (k:Int) d (n:Int) (mp od n) rs fu' (((j+1:Nat):Int)-1) else some (.ret (decide (T i (s7 n j)/c<T k (s7 n j)/d))):=by
   simp only[fA,cZ (f:=od) u,cZ (f:=od) x,oB,hr.row i u,hr.row k x,cZ (f:=T i) q,cZ (f:=T k) q,aDc (s i _ u q) hc (by omega) (by omega),aDc (s k _ x q) y (by omega) (by omega),aNJ L b2 (by omega) (by omega)];by_cases h:T i (s7 n j)/c=T k (s7 n j)/d
   ·rw[nF (aFK.1.2 h),bE,decide_eq_true h,bJ,t9 (by omega),oB];congr 1;omega
   ·rw[nT (fun O=>h (aFK.1.1 O)),bJ,decide_eq_false h,bE,aFK.2]
  have main:aV K (i:Int) c (k:Int) d (n:Int) (mp od n) rs (fu'+1) ((j:Int)-1)=bif decide (T i (s7 n j)/c=T k (s7 n j)/d) then aV K (i:Int) c (k:Int) d (n:Int) (mp od n) rs fu' (((j+1:Nat):Int)-1) else some (.ret (decide (T i (s7 n j)/c<T k (s7 n j)/d))):=by
   rw[←key];by_cases G:j=0
   ·subst G;have c1:aW (2*(n:Int))=some (2*(n:Int)):=t9 (by omega);have U:aW (2*(n:Int)+1)=some ((s7 n 0:Nat):Int):=by
     rw[t9 (by omega)];congr 1
    simp only[aV,dT (show((0:Nat):Int)-1<(n:Int) by omega),bJ,dT (show((0:Nat):Int)-1<0 by omega),c1,U,oB]
   ·have e:((s7 n j:Nat):Int)=(j:Int)-1:=by unfold s7;rw[if_neg G];omega
    rw[e];simp only[aV,dT (show(j:Int)-1<(n:Int) by omega),bJ,dF (show¬(j:Int)-1<0 by omega),bE]
  rw[main];have el:lx T n i c k d (t+1) j=bif decide (T i (s7 n j)/c=T k (s7 n j)/d) then lx T n i c k d t (j+1) else decide (T i (s7 n j)/c<T k (s7 n j)/d):=rfl;rw[el];by_cases h:T i (s7 n j)/c=T k (s7 n j)/d
  ·rw[decide_eq_true h,bJ,bJ];exact ih
  ·rw[decide_eq_false h,bE,bE];exact .inl rfl
theorem aKG{n:Nat}{rs:List (List Rat)}{od:Nat→Nat}{T:Nat→Nat→Rat}{a6:List Int}(hr:uB n (2*n+2) rs od T){B C:Nat}(f:uF n (2*n+2) B T){i k:Nat}(j:i<n)(q:k<n){c d:Rat}(hc:Bd C c)(s:Bd C d)(e:B+C≤500000000)(t:n≤1000){K:Nat}(y:2000≤K):fD K (i:Int) c (k:Int) d (n:Int) (mp od n) a6 rs=some (les T n i c k d):=by
 have:=aIp hr f j q hc s e t K (n+1) 0 K (by omega) (by omega);rw[show((0:Nat):Int)-1=-1 from rfl]at this;rcases this with h|⟨u,x⟩
 ·simp only[fD,h,oB];rfl
 ·simp only[fD,x,oB,lJ];exact congrArg some u.symm
def z7(T:Nat→Nat→Rat)(r c k:Nat):Rat:=T r k/T r c
theorem aIU{n w r c B k:Nat}{T:Nat→Nat→Rat}(e:uF n w B T)(hr:r<n)(hc:c<w)(f:k<w):Bd (B+B) (z7 T r c k):=(e r k hr f).div (e r c hr hc)
theorem aUy{xs ys:List Rat}(h:xs.length=ys.length):cpL xs ys=ys:=by
 unfold cpL;rw[h,Nat.min_self,List.take_length,←h,List.drop_length,List.append_nil]
theorem aBX{rs:List (List Rat)}{o p:Nat}{x:List Rat}(f:o<rs.length):(rs.set o x).getD p []=if p=o then x else rs.getD p []:=by
 rw[List.getD_eq_getElem?_getD,List.getD_eq_getElem?_getD,List.getElem?_set];by_cases h:o=p
 ·subst h;rw[if_pos rfl,if_pos f,if_pos rfl];rfl
 ·rw[if_neg h,if_neg (fun e=>h e.symm)]
theorem uB.set{n w:Nat}{rs:List (List Rat)}{od:Nat→Nat}{T:Nat→Nat→Rat}(h:uB n w rs od T){i:Nat}(q:i<n)(f:Nat→Rat):uB n w (rs.set (od i) (mp f w)) od (k9 T i f):=
 ⟨fun j k=>by rw[List.length_set];exact h.lt j k,h.inj,fun j k=>by
  rw[aBX (h.lt i q)];by_cases e:j=i
  ·subst e;rw[if_pos rfl,aR]
  ·rw[if_neg (fun s=>e (h.inj j i k q s)),bN e];exact h.row j k⟩
theorem uB.congr{n w:Nat}{rs:List (List Rat)}{od:Nat→Nat}{T T':Nat→Nat→Rat}(h:uB n w rs od T)(e:∀i k,i<n→k<w→T i k=T' i k):uB n w rs od T':=
 ⟨h.lt,h.inj,fun i f=>by rw[h.row i f];exact cV fun k j=>e i k f j⟩
theorem aKB{w h B:Nat}{a5:List (List Rat)}{q:List Rat}{g:Nat→Rat}{p:Rat}(s:cpL q (a5.getD h [])=mp g w)(x:∀k,k<w→Bd B (g k))(hp:Bd B p)(hB:B≤1073741824)(hw:w≤100000)(K:Nat):∀(t k fu:Nat),k+t=w→t<fu→dN K a5 q h p fu (mp (fun j=>if j<k then g j/p else g j) w) (k:Int)=some (mp (fun j=>g j/p) w)
 |0,k,fu,y,u=>by
  obtain⟨fu',rfl,_⟩:=aT u;have e:k=w:=by omega
  subst e;simp only[dN,s,aO,dF (show¬(k:Int)<(k:Int) by omega),bE];exact congrArg some (cV fun j z=>if_pos z)
 |t+1,k,fu,y,u=>by
  obtain⟨fu',rfl,_⟩:=aT u;have hkw:k<w:=by omega
  have F:(fun j=>if j<k then g j/p else g j) k=g k:=if_neg (by omega);have G:mp (k9 (fun j=>if j<k then g j/p else g j) k (g k/p)) w=mp (fun j=>if j<k+1 then g j/p else g j) w:=cV fun j _=>by
   by_cases e:j=k
   ·subst e;rw[aR,if_pos (by omega)]
   ·rw[bN e];by_cases hlt:j<k
    ·rw[if_pos hlt,if_pos (by omega)]
    ·rw[if_neg hlt,if_neg (by omega)]
  simp only[dN,s,aO,dT (show(k:Int)<(w:Int) by omega),bJ,cZ (f:=fun j=>if j<k then g j/p else g j) hkw,F,oB,aDc (x k hkw) hp hB hB,wT (f:=fun j=>if j<k then g j/p else g j) hkw,G,rO (i:=k) (by omega)];exact aKB s x hp hB hw K t (k+1) fu' (by omega) (by omega)
theorem aIu{w o B:Nat}{a5 h:List (List Rat)}{g q:Nat→Rat}{x:Rat}(u:o<h.length)(hne:a5.length≠o)(s:h.getD o []=mp g w)(hq:h.getD a5.length []=mp q w)(G:∀k,k<w→Bd B (g k))(hqb:∀k,k<w→Bd (B+B) (q k))(y:Bd B x)(hB:B≤200000000)(hw:w≤100000)(K:Nat):∀(t k fu:Nat),k+t=w→t<fu→dE K a5 h o x fu (h.set o (mp (fun j=>if j<k then g j-x*q j else g j) w)) (k:Int)=some (h.set o (mp (fun j=>g j-x*q j) w))
 |0,k,fu,I,F=>by
  obtain⟨fu',rfl,_⟩:=aT F;have e:k=w:=by omega
  subst e;simp only[dE,s,aO,dF (show¬(k:Int)<(k:Int) by omega),bE];exact congrArg (fun z=>some (h.set o z)) (cV fun j J=>if_pos J)
 |t+1,k,fu,I,F=>by
  obtain⟨fu',rfl,_⟩:=aT F;have hkw:k<w:=by omega
  have L:(fun j=>if j<k then g j-x*q j else g j) k=g k:=if_neg (by omega);have O:mp (k9 (fun j=>if j<k then g j-x*q j else g j) k (g k-x*q k)) w=mp (fun j=>if j<k+1 then g j-x*q j else g j) w:=cV fun j _=>by
   by_cases e:j=k
   ·subst e;rw[aR,if_pos (by omega)]
   ·rw[bN e];by_cases hlt:j<k
    ·rw[if_pos hlt,if_pos (by omega)]
    ·rw[if_neg hlt,if_neg (by omega)]
  have U:(h.set o (mp (fun j=>if j<k then g j-x*q j else g j) w)).getD o []=mp (fun j=>if j<k then g j-x*q j else g j) w:=by rw[aBX u,if_pos rfl]
  have V:(h.set o (mp (fun j=>if j<k then g j-x*q j else g j) w)).getD a5.length []=mp q w:=by rw[aBX u,if_neg hne];exact hq
  simp only[dE,s,aO,dT (show(k:Int)<(w:Int) by omega),bJ,U,V,cZ (f:=fun j=>if j<k then g j-x*q j else g j) hkw,cZ (f:=q) hkw,L,oB,aAD y (hqb k hkw) (by omega) (by omega),aCu (G k hkw) (y.mul (hqb k hkw)) (by omega) (by omega),wT (f:=fun j=>if j<k then g j-x*q j else g j) hkw,O,List.set_set,rO (i:=k) (by omega)];exact aIu u hne s hq G hqb y hB hw K t (k+1) fu' (by omega) (by omega)
def pst(T:Nat→Nat→Rat)(r c t i k:Nat):Rat:=if i<t∨i=r then yG T r c i k else T i k
theorem aPC{T:Nat→Nat→Rat}{r c t:Nat}:∀i k,(k9 (pst T r c t) t (yG T r c t)) i k=pst T r c (t+1) i k:=fun i k=>by
 by_cases e:i=t
 ·subst e;rw[aR];unfold pst;rw[if_pos (.inl (by omega))]
 ·rw[bN e];unfold pst;by_cases h:i<t∨i=r
  ·rw[if_pos h,if_pos (by omega)]
  ·rw[if_neg h,if_neg (by omega)]
theorem aJ2{T:Nat→Nat→Rat}{r c t:Nat}(h:t=r∨T t c=0):∀i k,pst T r c t i k=pst T r c (t+1) i k:=fun i k=>by
 unfold pst;by_cases f:i<t∨i=r
 ·rw[if_pos f,if_pos (by omega)]
 ·rw[if_neg f];by_cases e:i=t
  ·subst e;have j:T i c=0:=by rcases h with h|h;exact absurd (.inr h) f;exact h
   rw[if_pos (.inl (by omega))];unfold yG;rw[if_neg (fun e=>f (.inr e)),j,Rat.zero_mul,Rat.sub_eq_add_neg,Rat.neg_zero,Rat.add_zero]
  ·rw[if_neg (by omega)]
theorem aES{n w r c B:Nat}{a5:List (List Rat)}{od:Nat→Nat}{T:Nat→Nat→Rat}(s:uF n w B T)(hr:r<n)(hc:c<w)(hor:od r=a5.length)(hB:B≤200000000)(hw:w≤100000)(z:n≤100000){K:Nat}(y:w<K):∀(t i fu:Nat) (rs:List (List Rat)),i+t=n→t<fu→uB n w rs od (pst T r c i)→∃rs',bG K (r:Int) (c:Int) a5 (mp od n) fu rs (i:Int)=some rs'∧uB n w rs' od (yG T r c)
 |0,i,fu,rs,u,F,h=>by
  obtain⟨fu',rfl,_⟩:=aT F;have e:i=n:=by omega
  subst e;refine⟨rs,by simp only[bG,aO,dF (show¬(i:Int)<(i:Int) by omega),bE],h.congr fun j k J _=>if_pos (.inl J)⟩
 |t+1,i,fu,rs,u,F,h=>by
  obtain⟨fu',rfl,_⟩:=aT F;have hin:i<n:=by omega
  have hrow:=h.row i hin;by_cases e:i=r
  ·obtain⟨rs',g1,x⟩:=aES s hr hc hor hB hw z y t (i+1) fu' rs (by omega) (by omega) (h.congr fun j k _ _=>aJ2 (.inl e) j k);refine⟨rs',?_,x⟩;simp only[bG,aO,dT (show(i:Int)<(n:Int) by omega),bJ,cZ (f:=od) hin,oB,hrow,cZ (f:=pst T r c i i) hc,qT (show(i:Int)=(r:Int) by omega),rO (i:=i) (by omega)];exact g1
  ·have ei:pst T r c i i=T i:=by funext k;unfold pst;rw[if_neg (by omega)]
   rw[ei]at hrow;by_cases G:T i c=0
   ·obtain⟨rs',g1,x⟩:=aES s hr hc hor hB hw z y t (i+1) fu' rs (by omega) (by omega) (h.congr fun j k _ _=>aJ2 (.inr G) j k);refine⟨rs',?_,x⟩;simp only[bG,aO,dT (show(i:Int)<(n:Int) by omega),bJ,cZ (f:=od) hin,oB,hrow,cZ (f:=T i) hc,qF (show(i:Int)≠(r:Int) by omega),bE,mZ (s i c hin hc) (by omega),qT (aAw.2 G),rO (i:=i) (by omega)];exact g1
   ·have hne:a5.length≠od i:=fun I=>e (h.inj i r hin hr (by rw[←I,hor]))
    have hq:rs.getD a5.length []=mp (z7 T r c) w:=by
     rw[←hor,h.row r hr];exact cV fun k _=>by unfold pst yG z7;rw[if_pos (.inr rfl),if_pos rfl]
    have q:=aIu (h.lt i hin) hne hrow hq (fun k u=>s i k hin u) (fun k u=>aIU s hr hc u) (s i c hin hc) hB hw K w 0 K (by omega) y;have L:rs.set (od i) (mp (fun j=>if j<0 then T i j-T i c*z7 T r c j else T i j) w)=rs:=by
     have O:mp (fun j=>if j<0 then T i j-T i c*z7 T r c j else T i j) w=rs.getD (od i) []:=by
      rw[hrow];exact cV fun j _=>if_neg (by omega)
     rw[O,List.getD_eq_getElem?_getD,List.getElem?_eq_getElem (h.lt i hin),Option.getD_some,List.set_getElem_self]
    rw[L]at q;simp only[Int.natCast_zero]at q;have U:mp (fun j=>T i j-T i c*z7 T r c j) w=mp (yG T r c i) w:=cV fun j _=>by unfold yG z7;rw[if_neg e]
    rw[U]at q;obtain⟨rs',g1,x⟩:=aES s hr hc hor hB hw z y t (i+1) fu' _ (by omega) (by omega) ((h.set hin (yG T r c i)).congr fun j k _ _=>aPC j k);refine⟨rs',?_,x⟩;simp only[bG,aO,dT (show(i:Int)<(n:Int) by omega),bJ,cZ (f:=od) hin,oB,hrow,cZ (f:=T i) hc,qF (show(i:Int)≠(r:Int) by omega),bE,mZ (s i c hin hc) (by omega),qF (fun I=>G (aAw.1 I)),q,kW,rO (i:=i) (by omega)];exact g1
theorem aRJ{n w r c B:Nat}{rs:List (List Rat)}{od b:Nat→Nat}{T:Nat→Nat→Rat}{a2:Int}(h:uB n w rs od T)(x:uF n w B T)(hr:r<n)(hc:c<w)(hB:B≤200000000)(hw:w≤100000)(F:n≤100000){K:Nat}(X:w+n<K):∃rs' od',kM K (r:Int) (c:Int) a2 (mp od n) (mp (fun i=>((b i:Nat):Int)) n) rs=some (((b r:Nat):Int),mp od' n,mp (fun i=>((k9 b r c i:Nat):Int)) n,rs')∧uB n w rs' od' (yG T r c):=by
 have hrow:=h.row r hr;have hcp:cpL (mp (fun _=>(0:Rat)) w) (rs.getD (od r) [])=mp (T r) w:=by rw[hrow];exact aUy (by rw[aO,aO])
 have q:=aKB hcp (fun k G=>x r k hr G) (x r c hr hc) (by omega) hw K w 0 K (by omega) (by omega);have I:mp (fun j=>if j<0 then T r j/T r c else T r j) w=mp (T r) w:=cV fun j _=>if_neg (by omega)
 rw[I]at q;have J:uB n w (rs++[mp (z7 T r c) w]) (k9 od r rs.length) (pst T r c 0):=by
  refine⟨fun i s=>?_,fun i j s y e=>?_,fun i s=>?_⟩
  ·by_cases e:i=r
   ·rw[e,aR];simp
   ·rw[bN e];have:=h.lt i s;simp;omega
  ·by_cases u:i=r
   ·by_cases t:j=r
    ·rw[u,t]
    ·rw[u,aR,bN t]at e;have:=h.lt j y;omega
   ·by_cases t:j=r
    ·rw[t,aR,bN u]at e;have:=h.lt i s;omega
    ·rw[bN u,bN t]at e;exact h.inj i j s y e
  ·by_cases e:i=r
   ·rw[e,aR,List.getD_eq_getElem?_getD,List.getElem?_append_right (Nat.le_refl _),Nat.sub_self];show mp (z7 T r c) w=_;exact cV fun k _=>by unfold pst yG z7;rw[if_pos (.inr rfl),if_pos rfl]
   ·have L:=h.lt i s;rw[bN e,List.getD_eq_getElem?_getD,List.getElem?_append_left L,←List.getD_eq_getElem?_getD,h.row i s];exact cV fun k _=>by unfold pst;rw[if_neg (by omega)]
 obtain⟨rs',g1,O⟩:=aES (a5:=rs) x hr hc aR hB hw F (K:=K) (by omega) n 0 K _ (by omega) (by omega) J;simp only[Int.natCast_zero]at q g1;have U:mp (fun j=>T r j/T r c) w=mp (z7 T r c) w:=rfl;rw[U]at q;have V:mp (k9 (fun i=>((b i:Nat):Int)) r (c:Int)) n=mp (fun i=>((k9 b r c i:Nat):Int)) n:=cV fun i _=>by
  by_cases e:i=r
  ·rw[e,aR,aR]
  ·rw[bN e,bN e]
 refine⟨rs',k9 od r rs.length,?_,O⟩;simp only[kM,cZ (f:=od) hr,oB,hrow,aO,aDD (z:=(0:Rat)) (n:=w) (by omega)];rw[←hrow,hcp];simp only[cZ (f:=T r) hc,oB,q,k5,cZ (f:=od) hr,wT (f:=od) hr,g1,k6,cZ (f:=fun i=>((b i:Nat):Int)) hr,wT (f:=fun i=>((b i:Nat):Int)) hr,V]
def enc(s:Option Nat):Int:=match s with|none=>-1|some r=>(r:Int)
def sel(T:Nat→Nat→Rat)(n c:Nat):Nat→Nat→Option Nat→Option Nat
 |0,_,s=>s
 |t+1,i,s=>bif decide (0<(T i c).num.sign) then(match s with
  |none=>sel T n c t (i+1) (some i)
  |some r=>bif les T n i (T i c) r (T r c) then sel T n c t (i+1) (some i) else sel T n c t (i+1) (some r)) else sel T n c t (i+1) s
theorem aB4{T:Nat→Nat→Rat}{n c:Nat}:∀t i s r,(∀q,s=some q→q<i∧0<(T q c).num.sign)→sel T n c t i s=some r→r<i+t∧0<(T r c).num.sign
 |0,i,s,r,h,e=>by have:=h r e;exact⟨by omega,this.2⟩
 |t+1,i,s,r,h,e=>by
  unfold sel at e;by_cases hp:0<(T i c).num.sign
  ·rw[decide_eq_true hp,bJ]at e;have f:∀q,some i=some q→q<i+1∧0<(T q c).num.sign:=fun q hq=>by cases hq;exact⟨by omega,hp⟩
   cases s with
   |none=>have:=aB4 t (i+1) (some i) r f e;exact⟨by omega,this.2⟩
   |some p=>
    have hs:∀q,some p=some q→q<i+1∧0<(T q c).num.sign:=fun q hq=>by have:=h q hq;exact⟨by omega,this.2⟩
    simp only at e;cases j:les T n i (T i c) p (T p c)
    ·rw[j,bE]at e;have:=aB4 t (i+1) (some p) r hs e;exact⟨by omega,this.2⟩
    ·rw[j,bJ]at e;have:=aB4 t (i+1) (some i) r f e;exact⟨by omega,this.2⟩
  ·rw[decide_eq_false hp,bE]at e;have:=aB4 t (i+1) s r (fun q hq=>by have:=h q hq;exact⟨by omega,this.2⟩) e;exact⟨by omega,this.2⟩
theorem aHM{n c B:Nat}{rs:List (List Rat)}{od:Nat→Nat}{T:Nat→Nat→Rat}{v6:Int×(List Nat)×(List Int)×(List (List Rat))}{x:Int}{bs:List Int}(k:v6.1=(n:Int))(h:uB n (2*n+2) rs od T)(e:uF n (2*n+2) B T)(hc:c<2*n+2)(hB:B≤200000000)(u:n≤1000){K:Nat}(y:2000≤K):∀(t i fu:Nat) (s:Option Nat),i+t=n→t<fu→(∀q,s=some q→q<i)→d7 K v6 (x,mp od n,bs,rs) (c:Int) fu (enc s) (i:Int)=some (enc (sel T n c t i s))
 |0,i,fu,s,z,j,hs=>by
  obtain⟨fu',rfl,_⟩:=aT j;simp only[d7,aO,dF (show¬(i:Int)<(n:Int) by omega),bE,sel]
 |t+1,i,fu,s,z,j,hs=>by
  obtain⟨fu',rfl,_⟩:=aT j;have hin:i<n:=by omega
  have hb:=e i c hin hc;have ih:=fun s hs=>aHM (x:=x) (bs:=bs) k h e hc hB u y t (i+1) fu' s (by omega) (by omega) hs
  simp only[d7,aO,dT (show(i:Int)<(n:Int) by omega),bJ,cZ (f:=od) hin,oB,h.row i hin,cZ (f:=T i) hc,mZ hb (by omega),sel];by_cases hp:0<(T i c).num.sign
  ·simp only[dT hp,bJ];cases s with
   |none=>
    simp only[enc,dT (show(-1:Int)<0 by omega),bJ,rO (i:=i) (by omega),oB];exact ih (some i) (fun q hq=>by cases hq;omega)
   |some p=>
    have hpn:p<n:=by have:=hs p rfl;omega
    have F:=aKG (a6:=bs) h e hin hpn hb (e p c hpn hc) (by omega) u y;simp only[enc,dF (show¬(p:Int)<0 by omega),bE,cZ (f:=od) hpn,h.row p hpn,cZ (f:=T p) hc,oB,k,F];cases les T n i (T i c) p (T p c)
    ·simp only[bE,rO (i:=i) (by omega),oB];exact ih (some p) (fun q hq=>by have:=hs q hq;omega)
    ·simp only[bJ,rO (i:=i) (by omega),oB];exact ih (some i) (fun q hq=>by cases hq;omega)
  ·simp only[dF hp,bE,rO (i:=i) (by omega),oB];exact ih s (fun q hq=>by have:=hs q hq;omega)
def swv(T:Nat→Nat→Rat)(b:Nat→Nat)(n:Nat):Nat→Nat→Rat
 |0=>z0
 |i+1=>if b i<n then k9 (swv T b n i) (b i) (T i (2*n+1)) else swv T b n i
def szv(T:Nat→Nat→Rat)(b:Nat→Nat)(n:Nat):Nat→Nat→Rat
 |0=>z0
 |i+1=>if b i<n then szv T b n i else if b i<2*n then k9 (szv T b n i) (b i-n) (T i (2*n+1)) else szv T b n i
theorem aKY{n:Nat}{rs:List (List Rat)}{od b:Nat→Nat}{T:Nat→Nat→Rat}(h:uB n (2*n+2) rs od T)(x:n≤1000)(K:Nat):∀(t i fu:Nat),i+t=n→t<fu→bP K (n:Int) (mp od n) (mp (fun i=>((b i:Nat):Int)) n) rs fu (mp (swv T b n i) n) (mp (szv T b n i) n) (i:Int)=some (mp (swv T b n n) n,mp (szv T b n n) n)
 |0,i,fu,y,s=>by
  obtain⟨fu',rfl,_⟩:=aT s;have e:i=n:=by omega
  subst e;simp only[bP,aO,dF (show¬(i:Int)<(i:Int) by omega),bE]
 |t+1,i,fu,y,s=>by
  obtain⟨fu',rfl,_⟩:=aT s;have hin:i<n:=by omega
  have ih:=aKY (b:=b) h x K t (i+1) fu' (by omega) (by omega);have c1:aW (2*(n:Int))=some (2*(n:Int)):=t9 (by omega);have z:aW (2*(n:Int)+1)=some ((2*n+1:Nat):Int):=by rw[t9 (by omega)];congr 1
  simp only[bP,aO,dT (show(i:Int)<(n:Int) by omega),bJ,cZ (f:=fun i=>((b i:Nat):Int)) hin,cZ (f:=od) hin,oB,c1,z,h.row i hin,cZ (f:=T i) (n:=2*n+2) (i:=2*n+1) (by omega)];by_cases j:b i<n
  ·have q:swv T b n (i+1)=k9 (swv T b n i) (b i) (T i (2*n+1)):=if_pos j;have k:szv T b n (i+1)=szv T b n i:=if_pos j;rw[q,k]at ih;simp only[dT (show((b i:Nat):Int)<(n:Int) by omega),bJ,cZ (f:=swv T b n i) j,wT (f:=swv T b n i) j,oB,rO (i:=i) (by omega)];exact ih
  ·have q:swv T b n (i+1)=swv T b n i:=if_neg j;by_cases u:b i<2*n
   ·have k:szv T b n (i+1)=k9 (szv T b n i) (b i-n) (T i (2*n+1)):=by
     show(if b i<n then _ else _)=_;rw[if_neg j,if_pos u]
    have F:aW (((b i:Nat):Int)-(n:Int))=some ((b i-n:Nat):Int):=by rw[show((b i:Nat):Int)-(n:Int)=((b i-n:Nat):Int) by omega,t9 (by omega)]
    rw[q,k]at ih;simp only[dF (show¬((b i:Nat):Int)<(n:Int) by omega),bE,dT (show((b i:Nat):Int)<2*(n:Int) by omega),bJ,F,oB,cZ (f:=szv T b n i) (n:=n) (i:=b i-n) (by omega),wT (f:=szv T b n i) (n:=n) (i:=b i-n) (by omega),rO (i:=i) (by omega)];exact ih
   ·have k:szv T b n (i+1)=szv T b n i:=by
     show(if b i<n then _ else _)=_;rw[if_neg j,if_neg u]
    rw[q,k]at ih;simp only[dF (show¬((b i:Nat):Int)<(n:Int) by omega),bE,dF (show¬((b i:Nat):Int)<2*(n:Int) by omega),rO (i:=i) (by omega),oB];exact ih
theorem aMM{n:Nat}{rs:List (List Rat)}{od b:Nat→Nat}{T:Nat→Nat→Rat}(h:uB n (2*n+2) rs od T)(f:n≤1000){K:Nat}(j:2000≤K):gG K (n:Int) (mp od n) (mp (fun i=>((b i:Nat):Int)) n) rs=some ⟨mp (szv T b n n) n,mp (swv T b n n) n,0⟩:=by
 have:=aKY (b:=b) h f K n 0 K (by omega) (by omega);simp only[Int.natCast_zero]at this;have e:mp (fun _=>(0:Rat)) n=mp (swv T b n 0) n:=rfl;have k:mp (swv T b n 0) n=mp (szv T b n 0) n:=rfl;simp only[gG,aDD (z:=(0:Rat)) (n:=n) (by omega),oB,e];rw[show bP K (n:Int) (mp od n) (mp (fun i=>((b i:Nat):Int)) n) rs K (mp (swv T b n 0) n) (mp (swv T b n 0) n) 0=_ from this];rfl
/-- The run from a tableau on. -/
def lem(n most:Nat):Nat→(Nat→Nat→Rat)→(Nat→Nat)→Nat→Nat→Nat→cA×Int
 |0,_,_,_,_,_=>(⟨[],[],0⟩,16)
 |f+1,T,b,r,c,cnt=>
  if cnt=most then(⟨[],[],0⟩,16)
  else if b r=2*n then(⟨mp (szv (yG T r c) (k9 b r c) n n) n,mp (swv (yG T r c) (k9 b r c) n n) n,((cnt+1:Nat):Int)⟩,0)
  else match sel (yG T r c) n (if b r<n then b r+n else b r-n) n 0 none with
   |none=>(⟨[],[],0⟩,15)
   |some e=>lem n most f (yG T r c) (k9 b r c) e (if b r<n then b r+n else b r-n) (cnt+1)
structure LI (n:Nat) (Z T:Nat→Nat→Rat) (b:Nat→Nat) (r c:Nat):Prop where
 ti:TI n (2*n+2) Z T b
 hr:r<n
 hc:c≤2*n
 hp:T r c≠0
 hb:∀j,j<n→b j≤2*n
 fst:c=2*n→b r≠2*n
theorem TI.inj{n w:Nat}{Z T:Nat→Nat→Rat}{b:Nat→Nat}(h:TI n w Z T b){i j:Nat}(f:i<n)(q:j<n)(e:b i=b j):i=j:=by
 by_cases k:i=j
 ·exact k
 ·have a:=h.un i i f f;have c:=h.un i j f q;rw[if_pos rfl,e]at a;rw[if_neg k,a]at c;exact absurd c (by decide)
theorem aQb{n x:Nat}(e:x≤2*n)(hne:x≠2*n):(if x<n then x+n else x-n)<2*n:=by split<;>omega
theorem LI.next{n:Nat}{Z T:Nat→Nat→Rat}{b:Nat→Nat}{r c f:Nat}(h:LI n Z T b r c)(hne:b r≠2*n)(hs:sel (yG T r c) n (if b r<n then b r+n else b r-n) n 0 none=some f):LI n Z (yG T r c) (k9 b r c) f (if b r<n then b r+n else b r-n):=by
 have hlt:=aQb (h.hb r h.hr) hne;obtain⟨s1,s2⟩:=aB4 n 0 none f (fun q hq=>by cases hq) hs;refine⟨h.ti.pivot h.hr (by have:=h.hc;omega) h.hp,by omega,by omega,fun e=>?_,fun j k=>?_,fun e=>by omega⟩
 ·rw[e]at s2;exact absurd s2 (by decide)
 ·by_cases e:j=r
  ·rw[e,aR];exact h.hc
  ·rw[bN e];exact h.hb j k
def Sm(n B:Nat)(Z:Nat→Nat→Rat):Prop:=∀T b,TI n (2*n+2) Z T b→uF n (2*n+2) B T
theorem aVK{n most B:Nat}{Z:Nat→Nat→Rat}{v6:Int×(List Nat)×(List Int)×(List (List Rat))}(j:v6.1=(n:Int))(u:Sm n B Z)(hB:B≤200000000)(y:n≤1000)(hm:most≤100000){K:Nat}(J:5000≤K):∀(f cnt fu:Nat) (rs:List (List Rat)) (od:Nat→Nat) (T:Nat→Nat→Rat) (b:Nat→Nat) (r c:Nat),cnt+f=most+1→0<f→f≤fu→uB n (2*n+2) rs od T→LI n Z T b r c→
  dQ K (most:Int) v6 fu (mp od n) (mp (fun i=>((b i:Nat):Int)) n) rs (r:Int) (c:Int) (cnt:Int)=some (.ret (lem n most f T b r c cnt))
 |0,cnt,fu,rs,od,T,b,r,c,hc,L,O,G,h=>by omega
 |f+1,cnt,fu,rs,od,T,b,r,c,hc,L,O,G,h=>by
  obtain⟨fu',rfl,U⟩:=aT (show f<fu by omega);unfold lem;by_cases e:cnt=most
  ·rw[if_pos e];simp only[dQ,qT (show(cnt:Int)=(most:Int) by omega),bJ]
  ·rw[if_neg e];have hcw:=h.hc;have V:=u T b h.ti;have ti':=h.ti.pivot h.hr (show c<2*n+2 by omega) h.hp;have z:=u _ _ ti';obtain⟨rs',od',I,F⟩:=aRJ (b:=b) (a2:=v6.1) G V h.hr (show c<2*n+2 by omega) hB (by omega) (by omega) (K:=K) (by omega);have hbr:=h.hb r h.hr;have c1:aW (2*(n:Int))=some (2*(n:Int)):=t9 (by omega);rw[j]at I;simp only[dQ,qF (show(cnt:Int)≠(most:Int) by omega),bE,j,I,oB,c1];by_cases k:b r=2*n
   ·rw[if_pos k];simp only[qT (show((b r:Nat):Int)=2*(n:Int) by omega),bJ,aMM (b:=k9 b r c) F y (show 2000≤K by omega),oB,rO (i:=cnt) (by omega)]
   ·rw[if_neg k];have hlt:=aQb hbr k;have X:aW (((b r:Nat):Int)+(n:Int))=some ((b r+n:Nat):Int):=by rw[t9 (by omega)];rfl
    have hsel:=aHM (v6:=v6) (x:=((b r:Nat):Int)) (bs:=mp (fun i=>((k9 b r c i:Nat):Int)) n) j F z (show(if b r<n then b r+n else b r-n)<2*n+2 by omega) hB y (show 2000≤K by omega) n 0 K none (by omega) (by omega) (fun q hq=>by cases hq);simp only[Int.natCast_zero,show enc none=(-1:Int) from rfl]at hsel;have key:lP K v6 (cnt:Int) (((b r:Nat):Int),mp od' n,mp (fun i=>((k9 b r c i:Nat):Int)) n,rs') (dQ K (most:Int) v6 fu') (((if b r<n then b r+n else b r-n:Nat)):Int)=some (.ret (match sel (yG T r c) n (if b r<n then b r+n else b r-n) n 0 none with|none=>(⟨[],[],0⟩,15)|some s=>lem n most f (yG T r c) (k9 b r c) s (if b r<n then b r+n else b r-n) (cnt+1))):=by
     simp only[lP,hsel,oB,rE];cases hs:sel (yG T r c) n (if b r<n then b r+n else b r-n) n 0 none with
     |none=>rfl
     |some s=>
      simp only[enc,dF (show¬(s:Int)<0 by omega),bE,rO (i:=cnt) (by omega),oB];exact aVK j u hB y hm J f (cnt+1) fu' rs' od' _ _ s _ (by omega) (by omega) (by omega) F (h.next k hs)
    simp only[qF (show((b r:Nat):Int)≠2*(n:Int) by omega),bE,X,oB];by_cases t:b r<n
    ·rw[if_pos t]at key;simp only[dF (show¬(n:Int)≤((b r:Nat):Int) by omega),bE,if_pos t];exact key
    ·rw[if_neg t]at key;have Y:aW (((b r:Nat):Int)-(n:Int))=some ((b r-n:Nat):Int):=by rw[show((b r:Nat):Int)-(n:Int)=((b r-n:Nat):Int) by omega,t9 (by omega)]
     simp only[dT (show(n:Int)≤((b r:Nat):Int) by omega),bJ,Y,oB,if_neg t];exact key
theorem aKj{l:List Rat}{B:Nat}(f:Bds B l)(hB:B≤1073741824)(j:l.length≤1000)(K:Nat):∀(t i k:Nat),i+t=l.length→t<k→mB K l k (i:Int)=some (.go ())
 |0,i,k,q,e=>by
  obtain⟨h,rfl,_⟩:=aT e;simp only[mB,dF (show¬(i:Int)<(l.length:Int) by omega),bE]
 |t+1,i,k,q,e=>by
  obtain⟨h,rfl,_⟩:=aT e;simp only[mB,dT (show(i:Int)<(l.length:Int) by omega),bJ,aOB (l:=l) (i:=i) (by omega),oB,aNL (f _ (aD1 (l:=l) (i:=i) (by omega))) hB,Bool.not_true,bE,rO (i:=i) (by omega)];exact aKj f hB j K t (i+1) h (by omega) (by omega)
theorem aBV{l:List Rat}{B:Nat}(e:Bds B l)(hB:B≤1073741824)(f:l.length≤1000){K:Nat}(h:l.length<K):mX K l=some true:=by
 have:=aKj e hB f K l.length 0 K (by omega) h;simp only[Int.natCast_zero]at this;simp only[mX,this,oB,tU]
theorem aH4{l:List Rat}{B:Nat}(f:Bds B l)(hB:B≤1073741824)(j:l.length≤1000)(K:Nat):∀(t i k:Nat),i+t=l.length→t<k→lF K l k (i:Int)=some (.go ())
 |0,i,k,q,e=>by
  obtain⟨h,rfl,_⟩:=aT e;simp only[lF,dF (show¬(i:Int)<(l.length:Int) by omega),bE]
 |t+1,i,k,q,e=>by
  obtain⟨h,rfl,_⟩:=aT e;simp only[lF,dT (show(i:Int)<(l.length:Int) by omega),bJ,aOB (l:=l) (i:=i) (by omega),oB,aNL (f _ (aD1 (l:=l) (i:=i) (by omega))) hB,Bool.not_true,bE,rO (i:=i) (by omega)];exact aH4 f hB j K t (i+1) h (by omega) (by omega)
theorem aB0{l:List Rat}{B:Nat}(e:Bds B l)(hB:B≤1073741824)(f:l.length≤1000){K:Nat}(h:l.length<K):nS K l=some true:=by
 have:=aH4 e hB f K l.length 0 K (by omega) h;simp only[Int.natCast_zero]at this;simp only[nS,this,oB,sZ]
theorem aIB{M:Nat→Nat→Rat}{q:Nat→Rat}{n B:Nat}(hM:uF n n B M)(hB:B≤1073741824)(h:n≤32){K:Nat}(j:100≤K):∀(t i k:Nat),i+t=n→t<k→fC K (mx M n n) (mp q n) k (i:Int)=some (.go ())
 |0,i,k,s,e=>by
  obtain⟨f,rfl,_⟩:=aT e;simp only[fC,oD,dF (show¬(i:Int)<(n:Int) by omega),bE]
 |t+1,i,k,s,e=>by
  obtain⟨f,rfl,_⟩:=aT e;have hin:i<n:=by omega
  have g:=aBV (l:=mp (M i) n) (w6 fun c hc=>hM i c hin hc) hB (by rw[aO];omega) (K:=K) (by rw[aO];omega);simp only[fC,oD,dT (show(i:Int)<(n:Int) by omega),bJ,aB6 (g:=M) (w:=n) hin,oB,aO,nF (rfl:(n:Int)=(n:Int)),bE,g,Bool.not_true,rO (i:=i) (by omega)];exact aIB hM hB h j t (i+1) f (by omega) (by omega)
theorem zK{M:Nat→Nat→Rat}{q:Nat→Rat}{n B:Nat}(hM:uF n n B M)(hq:∀i,i<n→Bd B (q i))(hB:B≤1073741824)(f:n≤32){K:Nat}(h:100≤K):eI K (mx M n n) (mp q n)=some true:=by
 have g:=aBV (l:=mp q n) (w6 hq) hB (by rw[aO];omega) (K:=K) (by rw[aO];omega);have e:=aIB (q:=q) hM hB f h n 0 K (by omega) (by omega);simp only[Int.natCast_zero]at e;simp only[eI,oD,aO,nF (rfl:(n:Int)=(n:Int)),bE,dF (show¬(32:Int)<(n:Int) by omega),g,oB,Bool.not_true,e,sY]
theorem aHm{M:Nat→Nat→Rat}{q:Nat→Rat}{n B:Nat}(hM:uF n n B M)(hB:B≤1073741824)(h:n≤32){K:Nat}(j:100≤K):∀(t i k:Nat),i+t=n→t<k→eM K (mx M n n) (mp q n) k (i:Int)=some (.go ())
 |0,i,k,s,e=>by
  obtain⟨f,rfl,_⟩:=aT e;simp only[eM,oD,dF (show¬(i:Int)<(n:Int) by omega),bE]
 |t+1,i,k,s,e=>by
  obtain⟨f,rfl,_⟩:=aT e;have hin:i<n:=by omega
  have g:=aB0 (l:=mp (M i) n) (w6 fun c hc=>hM i c hin hc) hB (by rw[aO];omega) (K:=K) (by rw[aO];omega);simp only[eM,oD,dT (show(i:Int)<(n:Int) by omega),bJ,aB6 (g:=M) (w:=n) hin,oB,aO,nF (rfl:(n:Int)=(n:Int)),bE,g,Bool.not_true,rO (i:=i) (by omega)];exact aHm hM hB h j t (i+1) f (by omega) (by omega)
theorem aEi{M:Nat→Nat→Rat}{q:Nat→Rat}{n B:Nat}(hM:uF n n B M)(hq:∀i,i<n→Bd B (q i))(hB:B≤1073741824)(f:n≤32){K:Nat}(h:100≤K):fU K (mx M n n) (mp q n)=some true:=by
 have g:=aB0 (l:=mp q n) (w6 hq) hB (by rw[aO];omega) (K:=K) (by rw[aO];omega);have e:=aHm (q:=q) hM hB f h n 0 K (by omega) (by omega);simp only[Int.natCast_zero]at e;simp only[fU,oD,aO,nF (rfl:(n:Int)=(n:Int)),bE,dF (show¬(32:Int)<(n:Int) by omega),g,oB,Bool.not_true,e,rX]
def ng(q:Nat→Rat):Nat→Nat→Bool
 |0,_=>false
 |t+1,i=>bif decide ((q i).num.sign<0) then true else ng q t (i+1)
theorem aOZ{q:Nat→Rat}{n B:Nat}(hq:∀i,i<n→Bd B (q i))(hB:B≤1073741824)(s:n≤1000)(K:Nat):∀(t i k:Nat),i+t=n→t<k→jE K (mp q n) k (i:Int)=some (bif ng q t i then .ret true else .go ())
 |0,i,k,u,e=>by
  obtain⟨j,rfl,_⟩:=aT e;simp only[jE,aO,dF (show¬(i:Int)<(n:Int) by omega),bE,ng]
 |t+1,i,k,u,e=>by
  obtain⟨j,rfl,_⟩:=aT e;have hin:i<n:=by omega
  simp only[jE,aO,dT (show(i:Int)<(n:Int) by omega),bJ,cZ (f:=q) hin,oB,mZ (hq i hin) hB,ng];by_cases h:(q i).num.sign<0
  ·simp only[dT h,bJ]
  ·simp only[dF h,bE,rO (i:=i) (by omega),oB];exact aOZ hq hB s K t (i+1) j (by omega) (by omega)
theorem aNf{q:Nat→Rat}{n B:Nat}(hq:∀i,i<n→Bd B (q i))(hB:B≤1073741824)(s:n≤1000)(K:Nat):∀(t i k:Nat),i+t=n→t<k→iL K (mp q n) k (i:Int)=some (bif ng q t i then .ret true else .go ())
 |0,i,k,u,e=>by
  obtain⟨j,rfl,_⟩:=aT e;simp only[iL,aO,dF (show¬(i:Int)<(n:Int) by omega),bE,ng]
 |t+1,i,k,u,e=>by
  obtain⟨j,rfl,_⟩:=aT e;have hin:i<n:=by omega
  simp only[iL,aO,dT (show(i:Int)<(n:Int) by omega),bJ,cZ (f:=q) hin,oB,mZ (hq i hin) hB,ng];by_cases h:(q i).num.sign<0
  ·simp only[dT h,bJ]
  ·simp only[dF h,bE,rO (i:=i) (by omega),oB];exact aNf hq hB s K t (i+1) j (by omega) (by omega)
theorem aCO{q:Nat→Rat}{n B:Nat}(hq:∀i,i<n→Bd B (q i))(hB:B≤1073741824)(e:n≤1000){K:Nat}(f:n<K):jT K (mp q n)=some (ng q n 0)∧f0 K (mp q n)=some (ng q n 0):=by
 have h:=aOZ hq hB e K n 0 K (by omega) f;have j:=aNf hq hB e K n 0 K (by omega) f;simp only[Int.natCast_zero]at h j;constructor
 ·simp only[jT,h,oB,qM];cases ng q n 0<;>rfl
 ·simp only[f0,j,oB,pR];cases ng q n 0<;>rfl
def rw1(M:Nat→Nat→Rat)(n i k c:Nat):Rat:=if n≤c∧c<n+k then -(M i (c-n)) else k9 z0 i 1 c
theorem aQk{M:Nat→Nat→Rat}{n i k:Nat}(f:i<n):mp (k9 (rw1 M n i k) (n+k) (-(M i k))) (2*n+2)=mp (rw1 M n i (k+1)) (2*n+2):=cV fun c _=>by
 by_cases e:c=n+k
 ·subst e;rw[aR];unfold rw1;rw[if_pos ⟨by omega,by omega⟩,Nat.add_sub_cancel_left]
 ·rw[bN e];unfold rw1;by_cases h:n≤c∧c<n+k
  ·rw[if_pos h,if_pos ⟨h.1,by omega⟩]
  ·rw[if_neg h,if_neg (by omega)]
theorem aRu{M:Nat→Nat→Rat}{q:Nat→Rat}{n i:Nat}(s:i<n):mp (k9 (k9 (rw1 M n i n) (2*n) (-1)) (2*n+1) (q i)) (2*n+2)=mp (z6 M q n i) (2*n+2):=cV fun c hc=>by
 unfold z6;by_cases j:c=2*n+1
 ·subst j;rw[aR,if_neg (by omega),if_neg (by omega),if_neg (by omega)]
 ·rw[bN j];by_cases k:c=2*n
  ·subst k;rw[aR,if_neg (by omega),if_neg (by omega),if_pos rfl]
  ·rw[bN k];unfold rw1;by_cases h:c<n
   ·rw[if_neg (by omega),if_pos h];by_cases f:c=i
    ·subst f;rw[aR,if_pos rfl]
    ·rw[bN f,if_neg (fun e=>f e.symm)];rfl
   ·rw[if_pos ⟨by omega,by omega⟩,if_neg h,if_pos (by omega)]
theorem aM1{M:Nat→Nat→Rat}{q:Nat→Rat}{n i B:Nat}(hM:uF n n B M)(hB:B≤1073741824)(h:i<n)(s:n≤1000)(K:Nat):∀(t k fu:Nat),k+t=n→t<fu→gT K (mx M n n) (mp q n) (i:Int) fu (mp (rw1 M n i k) (2*n+2)) (k:Int)=some (mp (rw1 M n i n) (2*n+2))
 |0,k,fu,u,j=>by
  obtain⟨fu',rfl,_⟩:=aT j;have e:k=n:=by omega
  subst e;simp only[gT,aO,dF (show¬(k:Int)<(k:Int) by omega),bE]
 |t+1,k,fu,u,j=>by
  obtain⟨fu',rfl,_⟩:=aT j;have hkn:k<n:=by omega
  have c1:aW ((n:Int)+(k:Int))=some ((n+k:Nat):Int):=by rw[t9 (by omega)];rfl
  simp only[gT,aO,dT (show(k:Int)<(n:Int) by omega),bJ,c1,oB,aB6 (g:=M) (w:=n) h,cZ (f:=M i) hkn,yW (hM i k h hkn) hB,cZ (f:=rw1 M n i k) (n:=2*n+2) (i:=n+k) (by omega),wT (f:=rw1 M n i k) (n:=2*n+2) (i:=n+k) (by omega),aQk h,rO (i:=k) (by omega)];exact aM1 hM hB h s K t (k+1) fu' (by omega) (by omega)
theorem aUC:qof (-1) 1=some (-1):=by
 rw[aGK (by omega) (by omega)];exact congrArg some (by decide+kernel)
theorem aQ4{M:Nat→Nat→Rat}{q:Nat→Rat}{n B:Nat}(hM:uF n n B M)(hB:B≤1073741824)(s:n≤1000){K:Nat}(u:n<K):∀(t i fu:Nat),i+t=n→t<fu→fJ K (mx M n n) (mp q n) fu (mp (fun j=>((j:Nat):Int)) i) (mp (fun j=>j) i) (mx (z6 M q n) i (2*n+2)) (i:Int)=some (mp (fun j=>((j:Nat):Int)) n,mp (fun j=>j) n,mx (z6 M q n) n (2*n+2))
 |0,i,fu,x,k=>by
  obtain⟨fu',rfl,_⟩:=aT k;have e:i=n:=by omega
  subst e;simp only[fJ,aO,dF (show¬(i:Int)<(i:Int) by omega),bE]
 |t+1,i,fu,x,k=>by
  obtain⟨fu',rfl,_⟩:=aT k;have hin:i<n:=by omega
  have c1:aW (2*(n:Int))=some ((2*n:Nat):Int):=by rw[t9 (by omega)];rfl
  have y:aW (((2*n:Nat):Int)+2)=some ((2*n+2:Nat):Int):=by rw[t9 (by omega)];rfl
  have F:aW (((2*n:Nat):Int)+1)=some ((2*n+1:Nat):Int):=by rw[t9 (by omega)];rfl
  have h:=aM1 (q:=q) hM hB hin s K n 0 K (by omega) u;have G:mp (rw1 M n i 0) (2*n+2)=mp (k9 z0 i 1) (2*n+2):=cV fun c _=>if_neg (by omega)
  rw[G]at h;simp only[Int.natCast_zero]at h;have a1:rQ (mp (fun j=>j) i) [i]=some (mp (fun j=>j) (i+1)):=apM (g:=fun j=>j) (by omega);have a2:rQ (mp (fun j=>((j:Nat):Int)) i) [(i:Int)]=some (mp (fun j=>((j:Nat):Int)) (i+1)):=apM (g:=fun j=>((j:Nat):Int)) (by omega);have a3:mx (z6 M q n) i (2*n+2)++[mp (z6 M q n i) (2*n+2)]=mx (z6 M q n) (i+1) (2*n+2):=(aAs (fun i=>mp (z6 M q n i) (2*n+2)) i).symm;simp only[fJ,aO,dT (show(i:Int)<(n:Int) by omega),bJ,c1,y,aDD (z:=(0:Rat)) (n:=2*n+2) (by omega),aSs,oB,cZ (f:=fun _=>(0:Rat)) (n:=2*n+2) (i:=i) (by omega),wT (f:=fun _=>(0:Rat)) (n:=2*n+2) (i:=i) (by omega),show k9 (fun _=>(0:Rat)) i 1=k9 z0 i 1 from rfl,h,oM,aUC,cZ (f:=rw1 M n i n) (n:=2*n+2) (i:=2*n) (by omega),wT (f:=rw1 M n i n) (n:=2*n+2) (i:=2*n) (by omega),F,cZ (f:=q) hin,cZ (f:=k9 (rw1 M n i n) (2*n) (-1)) (n:=2*n+2) (i:=2*n+1) (by omega),wT (f:=k9 (rw1 M n i n) (2*n) (-1)) (n:=2*n+2) (i:=2*n+1) (by omega),aRu hin,oD,a1,a2,a3,rO (i:=i) (by omega)];exact aQ4 hM hB s u t (i+1) fu' (by omega) (by omega)
/-- The first row of the run. -/
def aE2(T:Nat→Nat→Rat)(n:Nat):Nat→Nat→Nat→Nat
 |0,_,r=>r
 |t+1,i,r=>bif les T n i 1 r 1 then aE2 T n t (i+1) i else aE2 T n t (i+1) r
theorem aDt{T:Nat→Nat→Rat}{n:Nat}:∀t i r,r<n→i+t≤n→aE2 T n t i r<n
 |0,i,r,hr,_=>hr
 |t+1,i,r,hr,h=>by
  unfold aE2;cases les T n i 1 r 1
  ·exact aDt t (i+1) r hr (by omega)
  ·exact aDt t (i+1) i (by omega) (by omega)
theorem aQq{n B:Nat}{rs:List (List Rat)}{od:Nat→Nat}{T:Nat→Nat→Rat}{bs:List Int}(h:uB n (2*n+2) rs od T)(e:uF n (2*n+2) B T)(hB:B≤200000000)(f:n≤1000){K:Nat}(j:2000≤K):∀(t i fu r:Nat),i+t=n→t<fu→r<n→iX K ((n:Int),mp od n,bs,rs) 1 fu (r:Int) (i:Int)=some ((aE2 T n t i r:Nat):Int)
 |0,i,fu,r,q,k,hr=>by
  obtain⟨fu',rfl,_⟩:=aT k;simp only[iX,dF (show¬(i:Int)<(n:Int) by omega),bE,aE2]
 |t+1,i,fu,r,q,k,hr=>by
  obtain⟨fu',rfl,_⟩:=aT k;have hin:i<n:=by omega
  simp only[iX,dT (show(i:Int)<(n:Int) by omega),bJ,aKG (a6:=bs) h e hin hr aOV aOV (show B+8≤500000000 by omega) f j,oB,rO (i:=i) (by omega),aE2];cases les T n i 1 r 1
  ·simp only[bE];exact aQq h e hB f j t (i+1) fu' r (by omega) (by omega) hr
  ·simp only[bJ];exact aQq h e hB f j t (i+1) fu' i (by omega) (by omega) hin
theorem aGb{q:Nat→Rat}{n:Nat}(h:ng q n 0=true):0<n:=by
 cases n with
 |zero=>exact absurd (show false=true from h) (by decide)
 |succ m=>exact Nat.succ_pos m
def aCE(M:Nat→Nat→Rat)(q:Nat→Rat)(n most:Nat):cA×Int:=
 bif ng q n 0 then lem n most (most+1) (z6 M q n) (fun j=>j) (aE2 (z6 M q n) n n 0 0) (2*n) 0 else(⟨mp z0 n,mp q n,0⟩,0)
theorem aLo{M:Nat→Nat→Rat}{q:Nat→Rat}{n r:Nat}(hr:r<n):LI n (z6 M q n) (z6 M q n) (fun j=>j) r (2*n):=by
 refine⟨aQo,hr,Nat.le_refl _,?_,fun j e=>by omega,fun _=>by omega⟩;unfold z6;rw[if_neg (by omega),if_neg (by omega),if_pos rfl];decide
theorem aJq{T:Nat→Nat→Rat}{n w:Nat}:uB n w (mx T n w) (fun j=>j) T:=
 ⟨fun i f=>by rw[oD];exact f,fun i j _ _ e=>e,fun i f=>by unfold mx;rw[List.getD_eq_getElem?_getD,w8 f];rfl⟩
theorem aO5{M:Nat→Nat→Rat}{q:Nat→Rat}{n:Nat}:∀i,i≤n→swv (z6 M q n) (fun j=>j) n i=(fun j=>if j<i then q j else 0)∧szv (z6 M q n) (fun j=>j) n i=z0
 |0,_=>⟨funext fun j=>by show(0:Rat)=_;rw[if_neg (show¬j<0 by omega)],rfl⟩
 |i+1,h=>by
  obtain⟨k,s⟩:=aO5 (M:=M) (q:=q) (n:=n) i (by omega);have t:z6 M q n i (2*n+1)=q i:=by unfold z6;rw[if_neg (show¬2*n+1<n by omega),if_neg (show¬2*n+1<2*n by omega),if_neg (show¬2*n+1=2*n by omega)]
  unfold swv szv;rw[if_pos (show i<n by omega),if_pos (show i<n by omega),k,s,t];refine⟨funext fun j=>?_,rfl⟩;by_cases e:j=i
  ·subst e;rw[aR,if_pos (by omega)]
  ·rw[bN e];by_cases f:j<i
   ·rw[if_pos f,if_pos (by omega)]
   ·rw[if_neg f,if_neg (by omega)]
/-- What kills the tableau kills the first one. -/
def KE(n w:Nat)(Z T:Nat→Nat→Rat):Prop:=∀x:Nat→Rat,(∀i,i<n→sm (fun k=>T i k*x k) w=0)→∀i,i<n→sm (fun k=>Z i k*x k) w=0
theorem KE.pivot{n w r c:Nat}{Z T:Nat→Nat→Rat}(h:KE n w Z T)(hr:r<n)(hp:T r c≠0):KE n w Z (yG T r c):=fun x j=>h x fun i s=>by
 have q:sm (fun k=>T r k*x k) w=0:=by
  have f:=j r hr;have e:sm (fun k=>yG T r c r k*x k) w=(1/T r c)*sm (fun k=>T r k*x k) w:=by
   rw[←tH];exact bC fun k _=>by unfold yG;rw[if_pos rfl];grind
  rw[e]at f;grind
 by_cases e:i=r
 ·rw[e];exact q
 ·have f:=j i s;have t:sm (fun k=>yG T r c i k*x k) w=sm (fun k=>T i k*x k) w-(T i c/T r c)*sm (fun k=>T r k*x k) w:=by
   rw[←aCe];exact bC fun k _=>by unfold yG;rw[if_neg e];grind
  rw[t,q]at f;grind
def bx(T:Nat→Nat→Rat)(b:Nat→Nat)(n k:Nat):Rat:=if k=2*n+1 then -1 else sm (fun i=>if b i=k then T i (2*n+1) else 0) n
theorem aWw{n w:Nat}{Z T:Nat→Nat→Rat}{b:Nat→Nat}(h:TI n w Z T b)(hb:∀j,j<n→b j≤2*n){j:Nat}(f:j<n):bx T b n (b j)=T j (2*n+1):=by
 have:=hb j f;unfold bx;rw[if_neg (by omega),uC f fun i k hne=>if_neg fun e=>hne (h.inj k f e),if_pos rfl]
theorem aMs{n:Nat}{T:Nat→Nat→Rat}{b:Nat→Nat}{k:Nat}(e:k≠2*n+1)(h:∀i,i<n→b i≠k):bx T b n k=0:=by
 unfold bx;rw[if_neg e];exact mD fun i f=>if_neg (h i f)
theorem aR0{n:Nat}{Z T:Nat→Nat→Rat}{b:Nat→Nat}(h:TI n (2*n+2) Z T b)(hb:∀j,j<n→b j≤2*n){i:Nat}(f:i<n):sm (fun k=>T i k*bx T b n k) (2*n+2)=0:=by
 show sm _ (2*n+1)+T i (2*n+1)*bx T b n (2*n+1)=0;have s:bx T b n (2*n+1)=-1:=if_pos rfl;have t:sm (fun k=>T i k*bx T b n k) (2*n+1)=sm (fun k=>sm (fun j=>if b j=k then T i k*T j (2*n+1) else 0) n) (2*n+1):=bC fun k x=>by
  unfold bx;rw[if_neg (by omega),←tH];refine bC fun j _=>?_
  by_cases e:b j=k
  ·rw[if_pos e,if_pos e]
  ·rw[if_neg e,if_neg e,Rat.mul_zero]
 have u:sm (fun j=>sm (fun k=>if b j=k then T i k*T j (2*n+1) else 0) (2*n+1)) n=T i (2*n+1):=by
  have:sm (fun j=>sm (fun k=>if b j=k then T i k*T j (2*n+1) else 0) (2*n+1)) n=sm (fun j=>T i (b j)*T j (2*n+1)) n:=bC fun j q=>by
   have:=hb j q;rw[uC (p:=b j) (by omega) fun k _ hne=>if_neg fun e=>hne e.symm,if_pos rfl]
  rw[this,uC f fun j q hne=>by rw[h.un i j f q,if_neg fun e=>hne e.symm,Rat.zero_mul],h.un i i f f,if_pos rfl,Rat.one_mul]
 rw[t,aBe,u,s];grind
theorem xG(f:Nat→Rat)(a:Nat):∀b,sm f (a+b)=sm f a+sm (fun j=>f (a+j)) b
 |0=>by show sm f a=sm f a+0;rw[Rat.add_zero]
 |b+1=>by
  show sm f (a+b)+f (a+b)=sm f a+(sm (fun j=>f (a+j)) b+f (a+b));rw[xG f a b,Rat.add_assoc]
theorem aUx{M:Nat→Nat→Rat}{q x:Nat→Rat}{n i:Nat}(f:i<n)(h:sm (fun k=>z6 M q n i k*x k) (2*n+2)=0)(s:x (2*n+1)=-1):x i=sm (fun j=>M i j*x (n+j)) n+x (2*n)+q i:=by
 have e:2*n+2=(n+n)+2:=by omega
 rw[e,xG,xG]at h;have t:sm (fun k=>z6 M q n i k*x k) n=x i:=by
  have:z6 M q n i i=1:=by unfold z6;rw[if_pos f,if_pos rfl]
  rw[uC f fun k u hne=>by unfold z6;rw[if_pos u,if_neg fun e=>hne e.symm,Rat.zero_mul],this,Rat.one_mul]
 have y:sm (fun j=>z6 M q n i (n+j)*x (n+j)) n=-(sm (fun j=>M i j*x (n+j)) n):=by
  rw[←wJ];refine bC fun j F=>?_
  unfold z6;rw[if_neg (by omega),if_pos (by omega),show n+j-n=j by omega,Rat.neg_mul]
 have z:sm (fun j=>z6 M q n i (n+n+j)*x (n+n+j)) 2=-(x (2*n))-q i:=by
  show 0+z6 M q n i (n+n+0)*x (n+n+0)+z6 M q n i (n+n+1)*x (n+n+1)=_;rw[show n+n+0=2*n by omega,show n+n+1=2*n+1 by omega,s];unfold z6;rw[if_neg (by omega),if_neg (by omega),if_pos rfl,if_neg (by omega),if_neg (by omega),if_neg (by omega)];grind
 rw[t,y,z]at h;grind
def nn(f:Nat→Rat):Nat→Nat→Prop
 |0,_=>True
 |t+1,j=>0<f j∨(f j=0∧nn f t (j+1))
theorem nn.congr{f g:Nat→Rat}:∀{t j:Nat},(∀k,f k=g k)→nn f t j→nn g t j
 |0,_,_,_=>trivial
 |t+1,j,e,h=>by
  unfold nn at h ⊢;rw[←e j];exact h.imp id fun h=>⟨h.1,nn.congr e h.2⟩
theorem nn.add{f g:Nat→Rat}:∀{t j:Nat},nn f t j→nn g t j→nn (fun k=>f k+g k) t j
 |0,_,_,_=>trivial
 |t+1,j,e,h=>by
  unfold nn at e h ⊢;rcases e with e|⟨e,q⟩<;>rcases h with h|⟨h,s⟩
  ·left;grind
  ·left;grind
  ·left;grind
  ·right;exact⟨by grind,nn.add q s⟩
theorem nn.mul{f:Nat→Rat}{a:Rat}(q:0≤a):∀{t j:Nat},nn f t j→nn (fun k=>a*f k) t j
 |0,_,_=>trivial
 |t+1,j,h=>by
  unfold nn at h ⊢;by_cases e:a=0
  ·right;refine⟨by rw[e,Rat.zero_mul],?_⟩;have:∀t j,nn (fun k=>a*f k) t j:=fun t=>by
    induction t with
    |zero=>intro j;trivial
    |succ t ih=>intro j;exact Or.inr ⟨by show a*f j=0;rw[e,Rat.zero_mul],ih (j+1)⟩
   exact this t (j+1)
  ·rcases h with h|⟨h,k⟩
   ·left;exact Rat.mul_pos (by grind) h
   ·right;exact⟨by rw[h,Rat.mul_zero],nn.mul q k⟩
theorem nn.head{f:Nat→Rat}{t j:Nat}(h:nn f (t+1) j):0≤f j:=by
 unfold nn at h;rcases h with h|h
 ·exact Rat.le_of_lt h
 ·rw[h.1];exact Rat.le_refl
theorem aJ8{T:Nat→Nat→Rat}{n i k:Nat}{c d:Rat}:∀t j,(lx T n i c k d t j=false→nn (fun j=>T i (s7 n j)/c-T k (s7 n j)/d) t j)∧(lx T n i c k d t j=true→nn (fun j=>T k (s7 n j)/d-T i (s7 n j)/c) t j)
 |0,j=>⟨fun _=>trivial,fun h=>absurd h (by unfold lx;decide)⟩
 |t+1,j=>by
  obtain⟨i1,i2⟩:=aJ8 (T:=T) (n:=n) (i:=i) (k:=k) (c:=c) (d:=d) t (j+1);unfold lx nn;by_cases e:T i (s7 n j)/c=T k (s7 n j)/d
  ·rw[decide_eq_true e,bJ];exact⟨fun h=>Or.inr ⟨by rw[e];grind,i1 h⟩,fun h=>Or.inr ⟨by rw[e];grind,i2 h⟩⟩
  ·rw[decide_eq_false e,bE];refine⟨fun h=>Or.inl ?_,fun h=>Or.inl ?_⟩
   ·have:=of_decide_eq_false h;grind
   ·have:=of_decide_eq_true h;grind
def aHf(T:Nat→Nat→Rat)(n c k r:Nat):Prop:=nn (fun j=>T k (s7 n j)/T k c-T r (s7 n j)/T r c) (n+1) 0
theorem aFb{T:Nat→Nat→Rat}{n c:Nat}:∀t i s r,(∀q,s=some q→∀k,k<i→0<(T k c).num.sign→aHf T n c k q)→(s=none→∀k,k<i→¬0<(T k c).num.sign)→sel T n c t i s=some r→∀k,k<i+t→0<(T k c).num.sign→aHf T n c k r
 |0,i,s,r,x,F,e,k,u,hp=>x r e k (by omega) hp
 |t+1,i,s,r,x,F,e,k,u,hp=>by
  unfold sel at e;have refl:aHf T n c i i:=by
   have:∀t j,nn (fun j=>T i (s7 n j)/T i c-T i (s7 n j)/T i c) t j:=fun t=>by
    induction t with
    |zero=>intro j;trivial
    |succ t ih=>intro j;exact Or.inr ⟨by grind,ih (j+1)⟩
   exact this _ _
  by_cases y:0<(T i c).num.sign
  ·rw[decide_eq_true y,bJ]at e;cases s with
   |none=>
    refine aFb t (i+1) (some i) r (fun q hq k u hp=>?_) (fun h=>by cases h) e k (by omega) hp;cases hq;by_cases f:k=i
    ·rw[f];exact refl
    ·exact absurd hp (F rfl k (by omega))
   |some p=>
    simp only at e;cases z:les T n i (T i c) p (T p c)
    ·rw[z,bE]at e;refine aFb t (i+1) (some p) r (fun q hq k u hp=>?_) (fun h=>by cases h) e k (by omega) hp;cases hq;by_cases f:k=i
     ·rw[f];exact(aJ8 _ _).1 z
     ·exact x p rfl k (by omega) hp
    ·rw[z,bJ]at e;refine aFb t (i+1) (some i) r (fun q hq k u hp=>?_) (fun h=>by cases h) e k (by omega) hp;cases hq;by_cases f:k=i
     ·rw[f];exact refl
     ·exact((x p rfl k (by omega) hp).add ((aJ8 _ _).2 z)).congr fun j=>by grind
  ·rw[decide_eq_false y,bE]at e;refine aFb t (i+1) s r (fun q hq k u hp=>?_) (fun h k u=>?_) e k (by omega) hp
   ·by_cases f:k=i
    ·rw[f]at hp;exact absurd hp y
    ·exact x q hq k (by omega) hp
   ·by_cases f:k=i
    ·rw[f];exact y
    ·exact F h k (by omega)
theorem aQf{a:Rat}:0<a.num↔0<a:=by
 have f:=Rat.num_nonneg (q:=a);have j:=Rat.num_eq_zero (q:=a);constructor
 ·intro h;have k:0≤a:=f.1 (by omega);have s:a≠0:=fun e=>by have:=j.2 e;omega
  grind
 ·intro h;have k:0≤a.num:=f.2 (by grind);have s:a.num≠0:=fun e=>by have:=j.1 e;grind
  omega
theorem aGB{x:Rat}:0<x.num.sign↔0<x:=by rw[Int.sign_pos_iff];exact aQf
def aKw(n:Nat)(T:Nat→Nat→Rat):Prop:=∀i,i<n→nn (fun j=>T i (s7 n j)) (n+1) 0
theorem aKw.last{n i:Nat}{T:Nat→Nat→Rat}(h:aKw n T)(e:i<n):0≤T i (2*n+1):=(h i e).head
theorem aKw.pivot{n r c:Nat}{T:Nat→Nat→Rat}(h:aKw n T)(hr:r<n)(hp:0<T r c)(hm:∀k,k<n→0<T k c→aHf T n c k r):aKw n (yG T r c):=fun i f=>by
 have hinv:(0:Rat)≤1/T r c:=by rw[Rat.div_def,Rat.one_mul];exact Rat.le_of_lt (Rat.inv_pos.2 hp)
 by_cases e:i=r
 ·exact((h r hr).mul hinv).congr fun j=>by unfold yG;rw[if_pos e];grind
 ·by_cases q:0<T i c
  ·exact((hm i f q).mul (Rat.le_of_lt q)).congr fun j=>by unfold yG;rw[if_neg e];grind
  ·have s:0≤(-(T i c))*(1/T r c):=Rat.mul_nonneg (by grind) hinv;exact((h i f).add ((h r hr).mul s)).congr fun j=>by unfold yG;rw[if_neg e];grind
theorem aGF{T:Nat→Nat→Rat}{n:Nat}:∀t i r,(∀k,k<i→nn (fun j=>T k (s7 n j)-T r (s7 n j)) (n+1) 0)→∀k,k<i+t→nn (fun j=>T k (s7 n j)-T (aE2 T n t i r) (s7 n j)) (n+1) 0
 |0,i,r,h,k,f=>h k (by omega)
 |t+1,i,r,h,k,f=>by
  unfold aE2;cases q:les T n i 1 r 1
  ·rw[bE];refine aGF t (i+1) r (fun k f=>?_) k (by omega);by_cases e:k=i
   ·rw[e];exact((aJ8 _ _).1 q).congr fun j=>by grind
   ·exact h k (by omega)
  ·rw[bJ];have s:=(aJ8 _ _).2 q;refine aGF t (i+1) i (fun k f=>?_) k (by omega);by_cases e:k=i
   ·rw[e];have:∀t j,nn (fun j=>T i (s7 n j)-T i (s7 n j)) t j:=fun t=>by
     induction t with
     |zero=>intro j;trivial
     |succ t ih=>intro j;exact Or.inr ⟨by grind,ih (j+1)⟩
    exact this _ _
   ·exact((h k (by omega)).add s).congr fun j=>by grind
def cpl(n x:Nat):Nat:=if x<n then x+n else x-n
theorem aOW{n x:Nat}(h:x<2*n):cpl n x<2*n:=by unfold cpl;split<;>omega
theorem aJn{n x:Nat}(h:x<2*n):cpl n (cpl n x)=x:=by
 unfold cpl;by_cases e:x<n
 ·rw[if_pos e,if_neg (by omega)];omega
 ·rw[if_neg e,if_pos (by omega)];omega
theorem aUz{n x:Nat}(e:0<n):cpl n x≠x∨2*n≤x:=by unfold cpl;split<;>omega
structure CB (n:Nat) (b:Nat→Nat) (c:Nat):Prop where
 inj:∀i j,i<n→j<n→b i=b j→i=j
 nc:∀i,i<n→b i≠c
 np:c<2*n→∀i,i<n→b i≠cpl n c
 pr:∀i j,i<n→j<n→b i<2*n→b j≠cpl n (b i)
theorem CB.pr'{n r c:Nat}{b:Nat→Nat}(h:CB n b c)(hr:r<n)(hc:c≤2*n):∀i j,i<n→j<n→k9 b r c i<2*n→k9 b r c j≠cpl n (k9 b r c i):=fun i j q s hlt=>by
 by_cases t:i=r
 ·subst t;rw[aR]at hlt ⊢;by_cases f:j=i
  ·subst f;rw[aR];intro e;rcases aUz (n:=n) (x:=c) (by omega) with k|k
   ·exact k e.symm
   ·omega
  ·rw[bN f];exact h.np hlt j s
 ·rw[bN t]at hlt ⊢;by_cases f:j=r
  ·subst f;rw[aR];intro e;have k:=aOW hlt;have u:b i=cpl n c:=by rw[e,aJn hlt]
   exact h.np (by omega) i q u
  ·rw[bN f];exact h.pr i j q s hlt
theorem CB.inj'{n r c:Nat}{b:Nat→Nat}(h:CB n b c):∀i j,i<n→j<n→k9 b r c i=k9 b r c j→i=j:=fun i j q s e=>by
 by_cases k:i=r
 ·by_cases f:j=r
  ·omega
  ·rw[k,aR,bN f]at e;exact absurd e.symm (h.nc j s)
 ·by_cases f:j=r
  ·rw[f,aR,bN k]at e;exact absurd e (h.nc i q)
  ·rw[bN k,bN f]at e;exact h.inj i j q s e
theorem CB.next{n r c:Nat}{b:Nat→Nat}(h:CB n b c)(hr:r<n)(hc:c≤2*n)(j:b r<2*n):CB n (k9 b r c) (cpl n (b r)):=by
 refine⟨h.inj',fun i k=>?_,fun _ i k=>?_,h.pr' hr hc⟩
 ·by_cases e:i=r
  ·rw[e,aR];intro f;have q:=aOW j;exact h.np (by omega) r hr (by rw[f,aJn j])
  ·rw[bN e];exact h.pr r i hr k j
 ·rw[aJn j];by_cases e:i=r
  ·rw[e,aR];exact fun f=>h.nc r hr f.symm
  ·rw[bN e];exact fun f=>e (h.inj i r k hr f)
structure Sol (M:Nat→Nat→Rat) (q:Nat→Rat) (n:Nat) (z w:Nat→Rat):Prop where
 z0:∀j,j<n→0≤z j
 w0:∀j,j<n→0≤w j
 eq:∀i,i<n→w i=sm (fun j=>M i j*z j) n+q i
 zw:∀j,j<n→z j=0∨w j=0
theorem aSH{n:Nat}{T:Nat→Nat→Rat}{b:Nat→Nat}(s:∀i j,i<n→j<n→b i=b j→i=j):∀m,m≤n→(∀j,j<n→swv T b n m j=sm (fun i=>if b i=j then T i (2*n+1) else 0) m)∧(∀j,j<n→szv T b n m j=sm (fun i=>if b i=n+j then T i (2*n+1) else 0) m)
 |0,_=>⟨fun _ _=>rfl,fun _ _=>rfl⟩
 |m+1,hm=>by
  obtain⟨t,u⟩:=aSH (T:=T) s m (by omega);have zero:sm (fun i=>if b i=b m then T i (2*n+1) else 0) m=0:=mD fun i h=>if_neg fun e=>by have:=s i m (by omega) (by omega) e;omega
  refine⟨fun j k=>?_,fun j k=>?_⟩
  ·show swv T b n (m+1) j=sm _ m+(if b m=j then T m (2*n+1) else 0);rw[←t j k];have q:swv T b n (m+1)=if b m<n then k9 (swv T b n m) (b m) (T m (2*n+1)) else swv T b n m:=rfl;rw[q];by_cases e:b m<n
   ·rw[if_pos e];by_cases f:b m=j
    ·rw[if_pos f,←f,aR,t (b m) e,zero];grind
    ·rw[if_neg f,bN (fun h=>f h.symm),Rat.add_zero]
   ·rw[if_neg e,if_neg (by omega),Rat.add_zero]
  ·show szv T b n (m+1) j=sm _ m+(if b m=n+j then T m (2*n+1) else 0);rw[←u j k];have q:szv T b n (m+1)=if b m<n then szv T b n m else if b m<2*n then k9 (szv T b n m) (b m-n) (T m (2*n+1)) else szv T b n m:=rfl;rw[q];by_cases e:b m<n
   ·rw[if_pos e,if_neg (by omega),Rat.add_zero]
   ·rw[if_neg e];by_cases x:b m<2*n
    ·rw[if_pos x];by_cases f:b m=n+j
     ·rw[if_pos f,show b m-n=j by omega,aR,u j k,←f,zero];grind
     ·rw[if_neg f,bN (by omega),Rat.add_zero]
    ·rw[if_neg x,if_neg (by omega),Rat.add_zero]
theorem aRc{M T:Nat→Nat→Rat}{q:Nat→Rat}{n:Nat}{b:Nat→Nat}(ti:TI n (2*n+2) (z6 M q n) T b)(ke:KE n (2*n+2) (z6 M q n) T)(lx:aKw n T)(hb:∀i,i<n→b i<2*n)(pr:∀i j,i<n→j<n→b i<2*n→b j≠cpl n (b i)):Sol M q n (szv T b n n) (swv T b n n):=by
 have inj:∀i j,i<n→j<n→b i=b j→i=j:=fun i j f h e=>ti.inj f h e
 obtain⟨x,y⟩:=aSH (T:=T) inj n (Nat.le_refl n);have ew:∀j,j<n→swv T b n n j=bx T b n j:=fun j h=>by rw[x j h];unfold bx;rw[if_neg (by omega)]
 have ez:∀j,j<n→szv T b n n j=bx T b n (n+j):=fun j h=>by rw[y j h];unfold bx;rw[if_neg (by omega)]
 have s:∀i,i<n→b i≤2*n:=fun i f=>by have:=hb i f;omega
 have nnb:∀k,k<2*n→0≤bx T b n k:=fun k F=>by
  by_cases e:∃i,i<n∧b i=k
  ·obtain⟨i,f,e⟩:=e;rw[←e,aWw ti s f];exact lx.last f
  ·rw[aMs (by omega) fun i f t=>e ⟨i,f,t⟩];exact Rat.le_refl
 refine⟨fun j h=>by rw[ez j h];exact nnb _ (by omega),fun j h=>by rw[ew j h];exact nnb _ (by omega),fun i f=>?_,fun j h=>?_⟩
 ·have:=aUx f (ke (bx T b n) (fun i f=>aR0 ti s f) i f) (if_pos rfl);rw[aMs (k:=2*n) (by omega) (fun i f=>by have:=hb i f;omega),Rat.add_zero]at this;rw[ew i f,this];congr 1;exact bC fun j h=>by rw[ez j h]
 ·rw[ez j h,ew j h];by_cases e:∃i,i<n∧b i=n+j
  ·obtain⟨i,f,e⟩:=e;right;refine aMs (by omega) fun z u t=>?_
   refine pr i z f u (by omega) ?_;rw[t,e];unfold cpl;rw[if_neg (by omega)];omega
  ·left;exact aMs (by omega) fun i f t=>e ⟨i,f,t⟩
theorem aMX{M:Nat→Nat→Rat}{q:Nat→Rat}{n most:Nat}:∀f T b r c cnt,LI n (z6 M q n) T b r c→KE n (2*n+2) (z6 M q n) T→aKw n (yG T r c)→CB n b c→(lem n most f T b r c cnt).2=0→∃z w,(lem n most f T b r c cnt).1.z=mp z n∧(lem n most f T b r c cnt).1.w=mp w n∧Sol M q n z w
 |0,T,b,r,c,cnt,li,ke,lx,cb,j=>absurd j (by unfold lem;decide)
 |f+1,T,b,r,c,cnt,li,ke,lx,cb,j=>by
  have hc:=li.hc;have hr:=li.hr;have ti':=li.ti.pivot hr (show c<2*n+2 by omega) li.hp;have ke':=ke.pivot hr li.hp;unfold lem at j ⊢;by_cases e:cnt=most
  ·rw[if_pos e]at j;exact absurd j (by decide)
  ·rw[if_neg e]at j ⊢;by_cases s:b r=2*n
   ·rw[if_pos s];refine⟨_,_,rfl,rfl,aRc ti' ke' lx (fun i x=>?_) (cb.pr' hr hc)⟩;by_cases t:i=r
    ·rw[t,aR];have:=cb.nc r hr;omega
    ·rw[bN t];have F:=li.hb i x;have G:b i≠2*n:=fun h=>t (cb.inj i r x hr (by rw[h,s]))
     omega
   ·rw[if_neg s]at j ⊢;have hlt:b r<2*n:=by have:=li.hb r hr;omega
    cases hs:sel (yG T r c) n (if b r<n then b r+n else b r-n) n 0 none with
    |none=>rw[hs]at j;exact absurd j (show¬(15:Int)=0 by decide)
    |some u=>
     rw[hs]at j;obtain⟨s1,s2⟩:=aB4 n 0 none u (fun q hq=>by cases hq) hs;have hm:=aFb n 0 none u (fun q hq=>by cases hq) (fun _ k y=>by omega) hs;exact aMX f (yG T r c) (k9 b r c) u _ (cnt+1) (li.next s hs) ke' (lx.pivot (by omega) (aGB.1 s2) fun k y hp=>hm k (by omega) (aGB.2 hp)) (cb.next hr hc hlt) j
theorem aLu{M:Nat→Nat→Rat}{q:Nat→Rat}{n i:Nat}:z6 M q n i (2*n)=-1:=by
 unfold z6;rw[if_neg (by omega),if_neg (by omega),if_pos rfl]
theorem aJU{M:Nat→Nat→Rat}{q:Nat→Rat}{n i:Nat}:z6 M q n i (2*n+1)=q i:=by
 unfold z6;rw[if_neg (by omega),if_neg (by omega),if_neg (by omega)]
theorem aOX{q:Nat→Rat}:∀t i,ng q t i=true→∃k,i≤k∧k<i+t∧q k<0
 |0,i,h=>absurd h (by unfold ng;decide)
 |t+1,i,h=>by
  unfold ng at h;by_cases e:(q i).num.sign<0
  ·refine⟨i,by omega,by omega,?_⟩;rw[Int.sign_neg_iff,←Int.not_le,Rat.num_nonneg,Rat.not_le]at e;exact e
  ·rw[decide_eq_false e,bE]at h;obtain⟨k,j,s,f⟩:=aOX t (i+1) h;exact⟨k,by omega,by omega,f⟩
theorem aJG{q:Nat→Rat}:∀t i,ng q t i=false→∀k,i≤k→k<i+t→0≤q k
 |0,i,h,k,f,j=>by omega
 |t+1,i,h,k,f,j=>by
  unfold ng at h;by_cases e:(q i).num.sign<0
  ·rw[decide_eq_true e,bJ]at h;cases h
  ·rw[decide_eq_false e,bE]at h;by_cases s:k=i
   ·rw[Int.sign_neg_iff,←Int.not_le,Rat.num_nonneg]at e;rw[s];exact Decidable.not_not.1 e
   ·exact aJG t (i+1) h k (by omega) (by omega)
theorem aT3{M:Nat→Nat→Rat}{q:Nat→Rat}{n:Nat}(hneg:ng q n 0=true):aKw n (yG (z6 M q n) (aE2 (z6 M q n) n n 0 0) (2*n)):=fun i t=>by
 have hm:=aGF (n:=n) (T:=z6 M q n) n 0 0 (fun k u=>by omega);generalize hr:aE2 (z6 M q n) n n 0 0=r at *;have hrn:r<n:=by rw[←hr];exact aDt n 0 0 (aGb hneg) (by omega)
 by_cases e:i=r
 ·unfold nn;left;obtain⟨k,_,h,x⟩:=aOX n 0 hneg;have s:=(hm k h).head;have f:s7 n 0=2*n+1:=rfl;simp only[f,aJU]at s;show 0<yG (z6 M q n) r (2*n) i (s7 n 0);unfold yG;rw[if_pos e,f,aJU,aLu];grind
 ·refine(hm i (by omega)).congr fun j=>?_
  unfold yG;rw[if_neg e,aLu,aLu];grind
theorem aUa{n:Nat}:CB n (fun j=>j) (2*n):=
 ⟨fun i j _ _ e=>e,fun i f=>by show i≠2*n;omega,fun h=>absurd h (Nat.lt_irrefl _),fun i j f k _=>by show j≠cpl n i;unfold cpl;rw[if_pos f];omega⟩
theorem aQI{M:Nat→Nat→Rat}{q:Nat→Rat}{n most:Nat}(e:(aCE M q n most).2=0):∃z w,(aCE M q n most).1.z=mp z n∧(aCE M q n most).1.w=mp w n∧Sol M q n z w:=by
 unfold aCE at e ⊢;cases hneg:ng q n 0
 ·rw[hneg,bE]at e;rw[bE];refine⟨_,_,rfl,rfl,fun _ _=>Rat.le_refl,fun j h=>aJG n 0 hneg j (by omega) (by omega),fun i k=>?_,fun _ _=>Or.inl rfl⟩;rw[mD fun j _=>show M i j*z0 j=0 from Rat.mul_zero _,Rat.zero_add]
 ·rw[hneg,bJ]at e;rw[bJ];exact aMX _ _ _ _ _ _ (aLo (aDt n 0 0 (aGb hneg) (by omega))) (fun x f=>f) (aT3 hneg) aUa e
def mem(n:Nat)(b:Nat→Nat)(v:Nat):Prop:=∃i,i<n∧b i=v
def aVk(n:Nat)(T:Nat→Nat→Rat)(x r:Nat):Prop:=0<T r x∧∀k,k<n→0<T k x→aHf T n x k r
section
variable {n N:Nat} {Z:Nat→Nat→Rat} {TT:Nat→Nat→Nat→Rat} {BB:Nat→Nat→Nat} {CC:Nat→Nat}
end
theorem pig:∀(n m:Nat) (f:Nat→Nat),(∀i,i<n→f i<m)→(∀i j,i<n→j<n→f i=f j→i=j)→n≤m
 |0,m,f,_,_=>Nat.zero_le _
 |n+1,m,f,k,h=>by
  have t:=k n (by omega);have:=pig n (m-1) (fun i=>if f i<f n then f i else f i-1) (fun i s=>by
   have a:=k i (by omega);have b:f i≠f n:=fun e=>by have:=h i n (by omega) (by omega) e;omega
   show(if f i<f n then f i else f i-1)<m-1;split<;>omega) (fun i j s u e=>by
   have b:f i≠f n:=fun e=>by have:=h i n (by omega) (by omega) e;omega
   have c:f j≠f n:=fun e=>by have:=h j n (by omega) (by omega) e;omega
   refine h i j (by omega) (by omega) ?_;have q:(if f i<f n then f i else f i-1)=(if f j<f n then f j else f j-1):=e;split at q<;>split at q<;>omega)
  omega
theorem aI4{x:Rat}(h:0<x):x≠0:=fun e=>by rw[e]at h;exact absurd h Rat.lt_irrefl
theorem aOP{x:Rat}(h:x<0):x≠0:=fun e=>by rw[e]at h;exact absurd h Rat.lt_irrefl
structure SX (n C:Nat) (Z:Nat→Nat→Rat) (c:Nat→Rat) (T:Nat→Nat→Rat) (g:Nat→Rat) (b:Nat→Nat):Prop where
 ti:TI n (C+1) Z T b
 lt:∀i,i<n→b i<C
 ke:KE n (C+1) Z T
 gb:∀i,i<n→g (b i)=0
 gc:∃l:Nat→Rat,∀k,k<C+1→g k=c k-sm (fun j=>l j*Z j k) n
def gpv(g:Nat→Rat)(T:Nat→Nat→Rat)(r col k:Nat):Rat:=g k-g col*(T r k/T r col)
theorem TI.row{n w:Nat}{Z T:Nat→Nat→Rat}{b:Nat→Nat}(h:TI n w Z T b){r:Nat}(hr:r<n):∃E:Nat→Rat,∀k,k<w→T r k=sm (fun j=>E j*Z j k) n:=by
 obtain⟨E,e⟩:=h.ex;exact⟨E r,fun k f=>by rw[e r k hr f,zP];exact bC fun j _=>Rat.mul_comm _ _⟩
section
variable {n C:Nat} {Z T T':Nat→Nat→Rat} {c g g':Nat→Rat} {b b':Nat→Nat}
theorem SX.pivot(h:SX n C Z c T g b){r col:Nat}(hr:r<n)(hc:col<C)(hp:T r col≠0):SX n C Z c (yG T r col) (gpv g T r col) (k9 b r col):=by
 refine⟨h.ti.pivot hr (by omega) hp,fun i f=>?_,h.ke.pivot hr hp,fun i f=>?_,?_⟩
 ·by_cases e:i=r
  ·rw[e,aR];exact hc
  ·rw[bN e];exact h.lt i f
 ·unfold gpv;by_cases e:i=r
  ·rw[e,aR,Rat.div_def,Rat.mul_inv_cancel _ hp];grind
  ·have s:T r (b i)=0:=by rw[h.ti.un r i hr f,if_neg fun h=>e h.symm]
   rw[bN e,s,h.gb i f];grind
 ·obtain⟨l,t⟩:=h.gc;obtain⟨E,u⟩:=h.ti.row hr;refine⟨fun j=>l j+(g col/T r col)*E j,fun k q=>?_⟩;unfold gpv;have x:sm (fun j=>(l j+(g col/T r col)*E j)*Z j k) n=sm (fun j=>l j*Z j k) n+(g col/T r col)*sm (fun j=>E j*Z j k) n:=by
   rw[←tH,←aD3];exact bC fun j _=>by grind
  rw[x,t k q,u k q];grind
def uQ(T:Nat→Nat→Rat)(b:Nat→Nat)(n k j:Nat):Rat:=(if j=k then 1 else 0)-sm (fun i=>if b i=j then T i k else 0) n
theorem z5{f:Nat→Rat}{k w:Nat}(h:k<w)(hb:∀i,i<n→b i<w):sm (fun j=>f j*uQ T b n k j) w=f k-sm (fun i=>f (b i)*T i k) n:=by
 have q:sm (fun j=>f j*uQ T b n k j) w=sm (fun j=>(if j=k then f k else 0)-1*sm (fun i=>if b i=j then f (b i)*T i k else 0) n) w:=bC fun j _=>by
  unfold uQ;have:sm (fun i=>if b i=j then f (b i)*T i k else 0) n=f j*sm (fun i=>if b i=j then T i k else 0) n:=by
   rw[←tH];refine bC fun i _=>?_
   by_cases e:b i=j
   ·rw[if_pos e,if_pos e,e]
   ·rw[if_neg e,if_neg e,Rat.mul_zero]
  rw[this];by_cases e:j=k
  ·rw[if_pos e,if_pos e,e];grind
  ·rw[if_neg e,if_neg e];grind
 rw[q,aCe,uC h fun j _ hne=>if_neg hne,if_pos rfl,aBe,Rat.one_mul];congr 1;refine bC fun i s=>?_
 rw[uC (hb i s) fun j _ hne=>if_neg fun e=>hne e.symm,if_pos rfl]
theorem TI.dkill{w:Nat}(h:TI n w Z T b){k i:Nat}(q:k<w)(f:i<n):sm (fun j=>T i j*uQ T b n k j) w=0:=by
 rw[z5 q h.lt,uC f fun j s hne=>by rw[h.un i j f s,if_neg fun e=>hne e.symm,Rat.zero_mul],h.un i i f f,if_pos rfl];grind
theorem SX.dZ(h:SX n C Z c T g b){k i:Nat}(f:k<C+1)(e:i<n):sm (fun j=>Z i j*uQ T b n k j) (C+1)=0:=
 h.ke _ (fun i e=>h.ti.dkill f e) i e
theorem SX.gdot(h:SX n C Z c T g b){x:Nat→Rat}(e:∀i,i<n→sm (fun j=>Z i j*x j) (C+1)=0):sm (fun j=>g j*x j) (C+1)=sm (fun j=>c j*x j) (C+1):=by
 obtain⟨l,k⟩:=h.gc;have q:sm (fun j=>g j*x j) (C+1)=sm (fun j=>c j*x j-1*sm (fun i=>l i*(Z i j*x j)) n) (C+1):=bC fun j s=>by
  rw[k j s];have:sm (fun i=>l i*(Z i j*x j)) n=sm (fun i=>l i*Z i j) n*x j:=by
   rw[←aCW];exact bC fun i _=>by grind
  rw[this];grind
 rw[q,aCe,aBe,mD (f:=fun j=>sm (fun i=>l j*(Z j i*x i)) (C+1)) fun i t=>by rw[tH,e i t,Rat.mul_zero]];grind
theorem SX.cost(h:SX n C Z c T g b)(s:SX n C Z c T' g' b'){k:Nat}(f:k<C+1):g' k-sm (fun i=>g' (b i)*T i k) n=g k:=by
 have j:=s.gdot (x:=uQ T b n k) fun i e=>h.dZ f e
 have q:=h.gdot (x:=uQ T b n k) fun i e=>h.dZ f e
 rw[z5 f h.ti.lt]at j q;rw[j,←q,mD fun i e=>by rw[h.gb i e,Rat.zero_mul]];grind
theorem SX.zrow(h:SX n C Z c T g b){x:Nat→Rat}(e:∀i,i<n→sm (fun j=>Z i j*x j) (C+1)=0){i:Nat}(f:i<n):sm (fun j=>T i j*x j) (C+1)=0:=by
 obtain⟨E,k⟩:=h.ti.row f;have q:sm (fun j=>T i j*x j) (C+1)=sm (fun j=>sm (fun m=>E m*(Z m j*x j)) n) (C+1):=bC fun j s=>by
  rw[k j s,←aCW];exact bC fun m _=>by grind
 rw[q,aBe];exact mD fun m hm=>by rw[tH,e m hm,Rat.mul_zero]
theorem SX.same(h:SX n C Z c T g b)(q:SX n C Z c T' g' b')(hb:∀i,i<n→b i=b' i){k:Nat}(s:k<C+1):g' k=g k∧∀i,i<n→T' i k=T i k:=by
 constructor
 ·rw[←h.cost q s,mD fun i f=>by rw[hb i f,q.gb i f,Rat.zero_mul]];grind
 ·intro i f;have e:=q.zrow (x:=uQ T b n k) (fun i f=>h.dZ s f) f;rw[z5 s h.ti.lt,uC f fun j t hne=>by rw[hb j t,q.ti.un i j f t,if_neg fun e=>hne e.symm,Rat.zero_mul],hb i f,q.ti.un i i f f,if_pos rfl]at e;grind
end
structure aD0 (n C:Nat) (Z:Nat→Nat→Rat) (c:Nat→Rat) (TT:Nat→Nat→Nat→Rat) (GG:Nat→Nat→Rat) (BB:Nat→Nat→Nat) (R S:Nat→Nat) (N:Nat):Prop where
 sx:∀k,k≤N→SX n C Z c (TT k) (GG k) (BB k)
 fs:∀k,k≤N→∀i,i<n→0≤TT k i C
 rl:∀k,k<N→R k<n
 sl:∀k,k<N→S k<C
 neg:∀k,k<N→GG k (S k)<0
 fst:∀k,k<N→∀j,j<S k→0≤GG k j
 pos:∀k,k<N→0<TT k (R k) (S k)
 min:∀k,k<N→∀i,i<n→0<TT k i (S k)→TT k (R k) C/TT k (R k) (S k)<TT k i C/TT k i (S k)∨(TT k (R k) C/TT k (R k) (S k)=TT k i C/TT k i (S k)∧BB k (R k)≤BB k i)
 nt:∀k,k<N→TT (k+1)=yG (TT k) (R k) (S k)
 ng:∀k,k<N→GG (k+1)=gpv (GG k) (TT k) (R k) (S k)
 nb:∀k,k<N→BB (k+1)=k9 (BB k) (R k) (S k)
theorem aJx{P:Nat→Prop}{a:Nat}:∀g,P a→¬P (a+g)→∃u,a≤u∧u<a+g∧P u∧¬P (u+1)
 |0,h,f=>absurd h f
 |g+1,h,f=>by
  by_cases e:P (a+g)
  ·exact⟨a+g,by omega,by omega,e,f⟩
  ·obtain⟨u,j,s,k,q⟩:=aJx g h e;exact⟨u,j,by omega,k,q⟩
theorem aQN{P:Nat→Prop}:∀m,(∀j,P j→j<m)→(∃j,P j)→∃t,P t∧∀j,P j→j≤t
 |0,h,⟨j,f⟩=>absurd (h j f) (by omega)
 |m+1,h,k=>by
  by_cases e:P m
  ·exact⟨m,e,fun j f=>by have:=h j f;omega⟩
  ·exact aQN m (fun j f=>by
    have:=h j f;have:j≠m:=fun q=>e (q▸f)
    omega) k
theorem aIw{f:Nat→Rat}:∀{n:Nat},0<sm f n→∃i,i<n∧0<f i
 |0,h=>absurd h (Rat.lt_irrefl)
 |n+1,h=>by
  by_cases e:0<f n
  ·exact⟨n,by omega,e⟩
  ·have k:=Rat.not_lt.1 e;have q:0<sm f n+f n:=h;obtain⟨i,s,j⟩:=aIw (f:=f) (n:=n) (by grind);exact⟨i,by omega,j⟩
section
variable {n C N:Nat} {Z:Nat→Nat→Rat} {c:Nat→Rat} {TT:Nat→Nat→Nat→Rat} {GG:Nat→Nat→Rat} {BB:Nat→Nat→Nat} {R S:Nat→Nat}
theorem aD0.up(h:aD0 n C Z c TT GG BB R S N){k:Nat}(f:k<N):GG k C≤GG (k+1) C∧(GG k C=GG (k+1) C→TT k (R k) C=0):=by
 have j:=h.neg k f;have q:=h.pos k f;have t:=h.fs k (by omega) (R k) (h.rl k f);have u:0≤TT k (R k) C/TT k (R k) (S k):=by rw[Rat.div_def];exact Rat.mul_nonneg t (Rat.le_of_lt (Rat.inv_pos.2 q))
 have e:GG (k+1) C=GG k C-GG k (S k)*(TT k (R k) C/TT k (R k) (S k)):=by rw[h.ng k f];rfl
 rw[e];constructor
 ·have:=Rat.mul_nonneg (show 0≤-(GG k (S k)) by grind) u;grind
 ·intro y;have x:GG k (S k)*(TT k (R k) C/TT k (R k) (S k))=0:=by grind
  have z:=aI4 q;rcases Rat.mul_eq_zero.1 x with s|s
  ·rw[s]at j;exact absurd j Rat.lt_irrefl
  ·grind
theorem aD0.ups(h:aD0 n C Z c TT GG BB R S N)(p:Nat):∀g,p+g≤N→GG p C≤GG (p+g) C
 |0,_=>Rat.le_refl
 |g+1,e=>Rat.le_trans (h.ups p g (by omega)) (h.up (show p+g<N by omega)).1
theorem aD0.flat(h:aD0 n C Z c TT GG BB R S N){p q k:Nat}(j:p≤k)(s:k<q)(hq:q≤N)(he:GG p C=GG q C):TT k (R k) C=0:=by
 have a:=h.ups p (k-p) (by omega);have b:=h.ups (k+1) (q-(k+1)) (by omega);rw[show p+(k-p)=k by omega]at a;rw[show k+1+(q-(k+1))=q by omega]at b;obtain⟨e,f⟩:=h.up (show k<N by omega);exact f (Rat.le_antisymm e (by rw[←he]at b;exact Rat.le_trans b a))
theorem aD0.still(h:aD0 n C Z c TT GG BB R S N){p q:Nat}(hq:q≤N)(he:GG p C=GG q C){i:Nat}:∀g,p+g≤q→TT (p+g) i C=TT p i C
 |0,_=>rfl
 |g+1,j=>by
  rw[←h.still hq he g (by omega)];have f:=h.flat (k:=p+g) (by omega) (by omega) hq he;show TT (p+g+1) i C=_;rw[h.nt (p+g) (by omega)];unfold yG;rw[f];by_cases e:i=R (p+g)
  ·rw[if_pos e,e,f];grind
  ·rw[if_neg e];grind
theorem aD0.zero(h:aD0 n C Z c TT GG BB R S N){p q u v i:Nat}(hq:q≤N)(he:GG p C=GG q C)(hpu:p≤u)(hu:u≤q)(hpv:p≤v)(hv:v≤q)(hne:BB u i≠BB v i):TT p i C=0:=by
 have key:∀x y,p≤x→x≤y→y≤q→BB x i≠BB y i→TT p i C=0:=fun x y F G I j=>by
  obtain⟨k,J,K,s,t⟩:=aJx (P:=fun m=>BB m i=BB x i) (a:=x) (y-x) rfl (by rw[show x+(y-x)=y by omega];exact fun e=>j e.symm);have hr:i=R k:=by
   refine Classical.byContradiction fun e=>t ?_
   show BB (k+1) i=BB x i;rw[h.nb k (by omega),bN e];exact s
  have z:=h.flat (k:=k) (by omega) (by omega) hq he;have f:=h.still hq he (i:=i) (k-p) (by omega);rw[show p+(k-p)=k by omega]at f;rw[←f,hr];exact z
 by_cases e:u≤v
 ·exact key u v hpu e hv hne
 ·exact key v u hpv (by omega) hu (fun e=>hne e.symm)
theorem aD0.once(h:aD0 n C Z c TT GG BB R S N){p q:Nat}(hpq:p<q)(hq:q≤N)(hb:∀i,i<n→BB p i=BB q i):False:=by
 have he:GG p C=GG q C:=(((h.sx p (by omega)).same (h.sx q hq) hb (show C<C+1 by omega)).1).symm;have nonb:∀k j,k≤N→GG k j≠0→¬mem n (BB k) j:=fun k j L x ⟨i,s,F⟩=>x (by rw[←F];exact(h.sx k L).gb i s)
 have mlt:∀k j,k≤N→mem n (BB k) j→j<C:=fun k j L ⟨i,s,F⟩=>by rw[←F];exact(h.sx k L).lt i s
 let Fk:Nat→Prop:=fun j=>(∃k,p≤k∧k≤q∧mem n (BB k) j)∧∃k,p≤k∧k≤q∧¬mem n (BB k) j
 have ent:∀k,p≤k→k<q→Fk (S k):=fun k x F=>⟨⟨k+1,by omega,by omega,R k,h.rl k (by omega),by rw[h.nb k (by omega),aR]⟩,k,x,by omega,nonb k _ (by omega) (aOP (h.neg k (by omega)))⟩
 obtain⟨t,⟨⟨u0,O,U,G⟩,v0,V,X,I⟩,tmax⟩:=aQN (P:=Fk) C (fun j ⟨⟨k,_,k2,k3⟩,_⟩=>mlt k j (by omega) k3) ⟨_,ent p (Nat.le_refl _) hpq⟩;have mpq:mem n (BB p) t↔mem n (BB q) t:=⟨fun⟨i,s,e⟩=>⟨i,s,by rw[←hb i s];exact e⟩,fun⟨i,s,e⟩=>⟨i,s,by rw[hb i s];exact e⟩⟩;have tex:∀(P:Nat→Prop) a b,a≤b→P a→¬P b→∃u,a≤u∧u<b∧P u∧¬P (u+1):=fun P a b hab x F=>by
  have:=aJx (P:=P) (a:=a) (b-a) x (by rw[show a+(b-a)=b by omega];exact F);rw[show a+(b-a)=b by omega]at this;exact this
 obtain⟨⟨u,K,u2,u3,u4⟩,v,v1,v2,v3,v4⟩:(∃u,p≤u∧u<q∧mem n (BB u) t∧¬mem n (BB (u+1)) t)∧∃v,p≤v∧v<q∧¬mem n (BB v) t∧mem n (BB (v+1)) t:=by
  by_cases e:mem n (BB p) t
  ·obtain⟨a,a1,a2,a3,a4⟩:=tex (fun k=>mem n (BB k) t) p v0 V e I;obtain⟨d,d1,d2,d3,d4⟩:=tex (fun k=>¬mem n (BB k) t) v0 q X I (fun h=>h (mpq.1 e));exact⟨⟨a,a1,by omega,a3,a4⟩,d,by omega,d2,d3,Classical.not_not.1 d4⟩
  ·obtain⟨a,a1,a2,a3,a4⟩:=tex (fun k=>mem n (BB k) t) u0 q U G (fun h=>e (mpq.2 h));obtain⟨d,d1,d2,d3,d4⟩:=tex (fun k=>¬mem n (BB k) t) p u0 O e (fun h=>h G);exact⟨⟨a,by omega,a2,a3,a4⟩,d,d1,by omega,d3,Classical.not_not.1 d4⟩
 have hu:=h.sx u (by omega);have hv:=h.sx v (by omega);have hrt:BB u (R u)=t:=by
  obtain⟨i,s,e⟩:=u3;by_cases y:i=R u
  ·rw[←y];exact e
  ·exact absurd ⟨i,s,by rw[h.nb u (by omega),bN y];exact e⟩ u4
 have hst:S v=t:=by
  obtain⟨i,s,e⟩:=v4;by_cases y:i=R v
  ·rw[h.nb v (by omega),y,aR]at e;exact e
  ·rw[h.nb v (by omega),bN y]at e;exact absurd ⟨i,s,e⟩ v3
 have hs1:S u≤t:=tmax _ (ent u K u2);have hs2:S u≠t:=fun e=>nonb u (S u) (by omega) (aOP (h.neg u (by omega))) (by rw[e];exact u3)
 have hs3:0≤GG v (S u):=h.fst v (by omega) _ (by omega);have hcost:=hu.cost hv (show S u<C+1 by have:=h.sl u (by omega);omega);have hneg:=h.neg u (by omega);obtain⟨i,s,z⟩:=aIw (f:=fun i=>GG v (BB u i)*TT u i (S u)) (n:=n) (by grind);have J:GG v (BB u i)≠0:=fun e=>by rw[e,Rat.zero_mul]at z;exact absurd z Rat.lt_irrefl
 have hnv:=nonb v _ (by omega) J;have hj:=tmax (BB u i) ⟨⟨u,K,by omega,i,s,rfl⟩,v,v1,by omega,hnv⟩;have hpu:=h.pos u (by omega);by_cases ej:BB u i=t
 ·have er:i=R u:=hu.ti.inj s (h.rl u (by omega)) (by rw[ej,hrt]);have Y:=h.neg v (by omega);rw[hst]at Y;rw[ej,er]at z;have:=Rat.mul_nonneg (show 0≤-(GG v t) by grind) (Rat.le_of_lt hpu);grind
 ·have hg:0<GG v (BB u i):=by
   have x:0≤GG v (BB u i):=h.fst v (by omega) _ (by omega);exact Rat.lt_of_le_of_ne x (fun e=>J e.symm)
  have hT:0<TT u i (S u):=by
   refine Rat.not_le.1 fun hle=>?_
   have:=Rat.mul_nonneg (Rat.le_of_lt hg) (show 0≤-(TT u i (S u)) by grind);grind
  have z0:TT p i C=0:=h.zero hq he K (by omega) v1 (by omega) (fun e=>hnv ⟨i,s,e.symm⟩);have z1:=h.still hq he (i:=i) (u-p) (by omega);rw[show p+(u-p)=u by omega,z0]at z1;have z2:=h.flat K u2 hq he;rcases h.min u (by omega) i s hT with hm|⟨_,hm⟩
  ·rw[z1,z2]at hm;have e1:(0:Rat)/TT u (R u) (S u)=0:=by rw[Rat.div_def,Rat.zero_mul]
   have y:(0:Rat)/TT u i (S u)=0:=by rw[Rat.div_def,Rat.zero_mul]
   rw[e1,y]at hm;exact absurd hm Rat.lt_irrefl
  ·omega
end
def aA2(C:Nat)(b:Nat→Nat):Nat→Nat
 |0=>0
 |n+1=>b n+C*aA2 C b n
theorem aKi{C:Nat}{b:Nat→Nat}:∀n,(∀i,i<n→b i<C)→aA2 C b n<C^n
 |0,_=>by show 0<1;omega
 |n+1,h=>by
  have e:=aKi n fun i f=>h i (by omega)
  have j:=h n (by omega);show b n+C*aA2 C b n<C^(n+1);have:C*(aA2 C b n+1)≤C*C^n:=Nat.mul_le_mul_left C e;rw[Nat.pow_succ,Nat.mul_comm (C^n)];rw[Nat.mul_add,Nat.mul_one]at this;omega
theorem aHO{C:Nat}{b b':Nat→Nat}:∀n,(∀i,i<n→b i<C)→(∀i,i<n→b' i<C)→aA2 C b n=aA2 C b' n→∀i,i<n→b i=b' i
 |0,_,_,_,i,f=>by omega
 |n+1,h,j,e,i,f=>by
  have k:=h n (by omega);have q:=j n (by omega);have t:b n+C*aA2 C b n=b' n+C*aA2 C b' n:=e;have s:(b n+C*aA2 C b n)%C=b n:=by rw[Nat.add_mul_mod_self_left,Nat.mod_eq_of_lt k]
  have u:(b' n+C*aA2 C b' n)%C=b' n:=by rw[Nat.add_mul_mod_self_left,Nat.mod_eq_of_lt q]
  have d1:(b n+C*aA2 C b n)/C=aA2 C b n:=by rw[Nat.add_mul_div_left _ _ (by omega),Nat.div_eq_of_lt k,Nat.zero_add]
  have d2:(b' n+C*aA2 C b' n)/C=aA2 C b' n:=by rw[Nat.add_mul_div_left _ _ (by omega),Nat.div_eq_of_lt q,Nat.zero_add]
  rw[t]at s d1;by_cases ei:i=n
  ·rw[ei];exact s.symm.trans u
  ·exact aHO n (fun i f=>h i (by omega)) (fun i f=>j i (by omega)) (d1.symm.trans d2) i (by omega)
theorem aD0.short{n C N:Nat}{Z:Nat→Nat→Rat}{c:Nat→Rat}{TT:Nat→Nat→Nat→Rat}{GG:Nat→Nat→Rat}{BB:Nat→Nat→Nat}{R S:Nat→Nat}(h:aD0 n C Z c TT GG BB R S N):N+1≤C^n:=by
 refine pig (N+1) (C^n) (fun k=>aA2 C (BB k) n) (fun k q=>aKi n (h.sx k (by omega)).lt) fun i j f s e=>?_
 have hb:=aHO n (h.sx i (by omega)).lt (h.sx j (by omega)).lt e;refine Classical.byContradiction fun hne=>?_
 rcases Nat.lt_or_gt_of_ne hne with hlt|hlt
 ·exact h.once hlt (by omega) hb
 ·exact h.once hlt (by omega) fun i f=>(hb i f).symm
def ent(g:Nat→Rat):Nat→Nat→Option Nat
 |0,_=>none
 |t+1,i=>bif decide ((g i).num.sign<0) then some i else ent g t (i+1)
theorem aFf{x:Rat}:x.num.sign<0↔x<0:=by
 have e:=@aGB (-x);rw[Rat.neg_num,Int.sign_neg]at e;constructor
 ·intro h;have:=e.1 (by omega);grind
 ·intro h;have:=e.2 (by grind);omega
theorem aCG{g:Nat→Rat}:∀t i r,ent g t i=some r→i≤r∧r<i+t∧g r<0∧∀j,i≤j→j<r→0≤g j
 |0,i,r,h=>by cases h
 |t+1,i,r,h=>by
  unfold ent at h;by_cases e:g i<0
  ·rw[decide_eq_true (aFf.2 e),bJ]at h;cases h;exact⟨Nat.le_refl _,by omega,e,fun j f k=>by omega⟩
  ·rw[decide_eq_false (fun h=>e (aFf.1 h)),bE]at h;obtain⟨f,k,q,s⟩:=aCG t (i+1) r h;refine⟨by omega,by omega,q,fun j j1 j2=>?_⟩;by_cases ej:j=i
   ·rw[ej];exact Rat.not_lt.1 e
   ·exact s j (by omega) j2
theorem aKr{g:Nat→Rat}:∀t i,ent g t i=none→∀j,i≤j→j<i+t→0≤g j
 |0,i,_,j,f,k=>by omega
 |t+1,i,h,j,f,k=>by
  unfold ent at h;by_cases e:g i<0
  ·rw[decide_eq_true (aFf.2 e),bJ]at h;cases h
  ·rw[decide_eq_false (fun h=>e (aFf.1 h)),bE]at h;by_cases ej:j=i
   ·rw[ej];exact Rat.not_lt.1 e
   ·exact aKr t (i+1) h j (by omega) (by omega)
theorem aGc{x:Rat}(h:¬0<x):x.num.sign≤0:=Int.not_lt.1 fun hp=>h (aGB.1 hp)
def rto(T:Nat→Nat→Rat)(C col i:Nat):Rat:=T i C/T i col
def bet(T:Nat→Nat→Rat)(b:Nat→Nat)(C col i r:Nat):Bool:=
 bif decide (rto T C col i<rto T C col r) then true else bif decide (rto T C col i=rto T C col r) then decide (b i<b r) else false
def lvs(T:Nat→Nat→Rat)(b:Nat→Nat)(C col:Nat):Nat→Nat→Option Nat→Option Nat
 |0,_,s=>s
 |t+1,i,s=>bif decide ((T i col).num.sign≤0) then lvs T b C col t (i+1) s else
  match s with
  |none=>lvs T b C col t (i+1) (some i)
  |some r=>bif bet T b C col i r then lvs T b C col t (i+1) (some i) else lvs T b C col t (i+1) (some r)
def asg(T:Nat→Nat→Rat)(b:Nat→Nat)(C col r k:Nat):Prop:=rto T C col r<rto T C col k∨(rto T C col r=rto T C col k∧b r≤b k)
theorem aPu{T:Nat→Nat→Rat}{b:Nat→Nat}{C col i r:Nat}(h:bet T b C col i r=true):rto T C col i<rto T C col r∨(rto T C col i=rto T C col r∧b i<b r):=by
 unfold bet at h;by_cases e:rto T C col i<rto T C col r
 ·exact Or.inl e
 ·rw[decide_eq_false e,bE]at h;by_cases f:rto T C col i=rto T C col r
  ·rw[decide_eq_true f,bJ]at h;exact Or.inr ⟨f,of_decide_eq_true h⟩
  ·rw[decide_eq_false f,bE]at h;cases h
theorem aOm{T:Nat→Nat→Rat}{b:Nat→Nat}{C col i r:Nat}(h:bet T b C col i r=false):asg T b C col r i:=by
 unfold bet at h;by_cases e:rto T C col i<rto T C col r
 ·rw[decide_eq_true e,bJ]at h;cases h
 ·rw[decide_eq_false e,bE]at h;by_cases f:rto T C col i=rto T C col r
  ·rw[decide_eq_true f,bJ]at h;exact Or.inr ⟨f.symm,Nat.not_lt.1 (of_decide_eq_false h)⟩
  ·exact Or.inl (Rat.lt_of_le_of_ne (Rat.not_lt.1 e) (fun h=>f h.symm))
theorem aCH{T:Nat→Nat→Rat}{b:Nat→Nat}{C col:Nat}:∀t i s r,(∀q,s=some q→q<i∧0<T q col∧∀k,k<i→0<T k col→asg T b C col q k)→(s=none→∀k,k<i→¬0<T k col)→lvs T b C col t i s=some r→r<i+t∧0<T r col∧∀k,k<i+t→0<T k col→asg T b C col r k
 |0,i,s,r,u,_,h=>u r h
 |t+1,i,s,r,u,G,h=>by
  unfold lvs at h;rw[show i+(t+1)=i+1+t by omega];by_cases e:0<T i col
  ·rw[decide_eq_false (fun hle=>absurd (aGB.2 e) (by omega)),bE]at h;cases s with
   |none=>
    refine aCH t (i+1) (some i) r (fun q hq=>?_) (fun hq=>by cases hq) h;cases hq;refine⟨by omega,e,fun k x hp=>?_⟩;by_cases ek:k=i
    ·rw[ek];exact Or.inr ⟨rfl,Nat.le_refl _⟩
    ·exact absurd hp (G rfl k (by omega))
   |some q=>
    obtain⟨J,F,y⟩:=u q rfl;have z:(bif bet T b C col i q then lvs T b C col t (i+1) (some i) else lvs T b C col t (i+1) (some q))=some r:=h;cases hb:bet T b C col i q with
    |true=>
     rw[hb,bJ]at z;refine aCH t (i+1) (some i) r (fun p hp=>?_) (fun hp=>by cases hp) z;cases hp;refine⟨by omega,e,fun k x hkp=>?_⟩;by_cases ek:k=i
     ·rw[ek];exact Or.inr ⟨rfl,Nat.le_refl _⟩
     ·have I:=y k (by omega) hkp;rcases aPu hb with j|⟨j,K⟩
      ·rcases I with f|⟨f,_⟩
       ·exact Or.inl (Std.lt_trans j f)
       ·exact Or.inl (by rw[←f];exact j)
      ·rcases I with f|⟨f,L⟩
       ·exact Or.inl (by rw[j];exact f)
       ·exact Or.inr ⟨by rw[j,f],by omega⟩
    |false=>
     rw[hb,bE]at z;refine aCH t (i+1) (some q) r (fun p hp=>?_) (fun hp=>by cases hp) z;cases hp;refine⟨by omega,F,fun k x hkp=>?_⟩;by_cases ek:k=i
     ·rw[ek];exact aOm hb
     ·exact y k (by omega) hkp
  ·rw[decide_eq_true (aGc e),bJ]at h;refine aCH t (i+1) s r (fun q hq=>?_) (fun hq k x=>?_) h
   ·obtain⟨J,F,y⟩:=u q hq;refine⟨by omega,F,fun k x hkp=>?_⟩;by_cases ek:k=i
    ·rw[ek]at hkp;exact absurd hkp e
    ·exact y k (by omega) hkp
   ·by_cases ek:k=i
    ·rw[ek];exact e
    ·exact G hq k (by omega)
theorem aC0{T:Nat→Nat→Rat}{b:Nat→Nat}{C col:Nat}:∀t i s,lvs T b C col t i s=none→s=none∧∀k,i≤k→k<i+t→¬0<T k col
 |0,i,s,h=>⟨h,fun k j u=>by omega⟩
 |t+1,i,s,h=>by
  unfold lvs at h;by_cases e:0<T i col
  ·rw[decide_eq_false (fun hle=>absurd (aGB.2 e) (by omega)),bE]at h;cases s with
   |none=>exact absurd (aC0 t (i+1) _ h).1 (by simp)
   |some q=>
    have f:(bif bet T b C col i q then lvs T b C col t (i+1) (some i) else lvs T b C col t (i+1) (some q))=none:=h;cases hb:bet T b C col i q with
    |true=>rw[hb,bJ]at f;exact absurd (aC0 t (i+1) _ f).1 (by simp)
    |false=>rw[hb,bE]at f;exact absurd (aC0 t (i+1) _ f).1 (by simp)
  ·rw[decide_eq_true (aGc e),bJ]at h;obtain⟨j,u⟩:=aC0 t (i+1) s h;refine⟨j,fun k x y=>?_⟩;by_cases ek:k=i
   ·rw[ek];exact e
   ·exact u k (by omega) (by omega)
structure STb where
 t:Nat→Nat→Rat
 g:Nat→Rat
 b:Nat→Nat
def snx(s:STb)(r col:Nat):STb:=⟨yG s.t r col,gpv s.g s.t r col,k9 s.b r col⟩
def aDI(n C en:Nat):Nat→STb→Option (Option Nat×STb)
 |0,_=>none
 |f+1,s=>match ent s.g en 0 with
  |none=>some (none,s)
  |some col=>match lvs s.t s.b C col n 0 none with
   |none=>some (some col,s)
   |some r=>aDI n C en f (snx s r col)
def SXs(n C:Nat)(Z:Nat→Nat→Rat)(c:Nat→Rat)(s:STb):Prop:=SX n C Z c s.t s.g s.b∧∀i,i<n→0≤s.t i C
theorem aLW{n C:Nat}{T:Nat→Nat→Rat}{r col:Nat}(j:∀i,i<n→0≤T i C)(hr:r<n)(hp:0<T r col)(hm:∀i,i<n→0<T i col→rto T C col r≤rto T C col i):∀i,i<n→0≤yG T r col i C:=fun i k=>by
 have q:0≤T r C/T r col:=by rw[Rat.div_def];exact Rat.mul_nonneg (j r hr) (Rat.le_of_lt (Rat.inv_pos.2 hp))
 unfold yG;by_cases e:i=r
 ·rw[if_pos e];exact q
 ·rw[if_neg e];by_cases f:0<T i col
  ·have h:=hm i k f;unfold rto at h;have s:=Rat.mul_le_mul_of_nonneg_left h (Rat.le_of_lt f);have t:T i col*(T i C/T i col)=T i C:=by have:=aI4 f;grind
   rw[t]at s;grind
  ·have h:=j i k;have:=Rat.mul_nonneg (show 0≤-(T i col) by grind) q;grind
theorem aTT{T:Nat→Nat→Rat}{b:Nat→Nat}{C col r k:Nat}(h:asg T b C col r k):rto T C col r≤rto T C col k:=by
 rcases h with h|⟨h,_⟩
 ·exact Rat.le_of_lt h
 ·rw[h];exact Rat.le_refl
theorem SXs.next{n C:Nat}{Z:Nat→Nat→Rat}{c:Nat→Rat}{s:STb}(h:SXs n C Z c s){r col:Nat}(hc:col<C)(hs:lvs s.t s.b C col n 0 none=some r):SXs n C Z c (snx s r col)∧r<n∧0<s.t r col∧∀k,k<n→0<s.t k col→asg s.t s.b C col r k:=by
 obtain⟨e,f,j⟩:=aCH n 0 none r (fun q hq=>by cases hq) (fun _ k x=>by omega) hs;rw[Nat.zero_add]at e j;exact⟨⟨h.1.pivot e hc (aI4 f),aLW h.2 e f fun i u hp=>aTT (j i u hp)⟩,e,f,j⟩
def rst(n C en:Nat)(s:STb):Nat→STb
 |0=>s
 |k+1=>snx (rst n C en s k) ((lvs (rst n C en s k).t (rst n C en s k).b C ((ent (rst n C en s k).g en 0).getD 0) n 0 none).getD 0) ((ent (rst n C en s k).g en 0).getD 0)
def sgo(n C en:Nat)(s:STb):Prop:=∃col r,ent s.g en 0=some col∧lvs s.t s.b C col n 0 none=some r
theorem aIx{n C en:Nat}{s:STb}{col r:Nat}(e:ent s.g en 0=some col)(f:lvs s.t s.b C col n 0 none=some r):∀k,rst n C en (snx s r col) k=rst n C en s (k+1)
 |0=>by
  show snx s r col=snx s ((lvs s.t s.b C ((ent s.g en 0).getD 0) n 0 none).getD 0) ((ent s.g en 0).getD 0);rw[e];show snx s r col=snx s ((lvs s.t s.b C col n 0 none).getD 0) col;rw[f];rfl
 |k+1=>by
  show snx _ _ _=rst n C en s (k+1+1);rw[aIx e f k];rfl
theorem aHQ{n C en:Nat}:∀f s,aDI n C en f s=none→∀k,k<f→sgo n C en (rst n C en s k)
 |0,s,_,k,q=>by omega
 |f+1,s,h,k,q=>by
  cases e:ent s.g en 0 with
  |none=>simp only[aDI,e]at h;cases h
  |some col=>
   cases j:lvs s.t s.b C col n 0 none with
   |none=>simp only[aDI,e,j]at h;cases h
   |some r=>
    simp only[aDI,e,j]at h;cases k with
    |zero=>exact⟨col,r,e,j⟩
    |succ k=>
     rw[←aIx e j];exact aHQ f _ h k (by omega)
theorem aRK{n C en N:Nat}{Z:Nat→Nat→Rat}{c:Nat→Rat}{s:STb}(h:SXs n C Z c s)(hen:en≤C)(u:∀k,k<N→sgo n C en (rst n C en s k)):aD0 n C Z c (fun k=>(rst n C en s k).t) (fun k=>(rst n C en s k).g) (fun k=>(rst n C en s k).b) (fun k=>(lvs (rst n C en s k).t (rst n C en s k).b C ((ent (rst n C en s k).g en 0).getD 0) n 0 none).getD 0) (fun k=>(ent (rst n C en s k).g en 0).getD 0) N:=by
 have all:∀k,k≤N→SXs n C Z c (rst n C en s k):=fun k=>by
  induction k with
  |zero=>intro _;exact h
  |succ k ih=>
   intro e;obtain⟨col,r,f,q⟩:=u k (by omega);obtain⟨_,x,_,_⟩:=aCG _ _ _ f;have:=((ih (by omega)).next (col:=col) (by omega) q).1;show SXs n C Z c (snx _ _ _);rw[f];show SXs n C Z c (snx _ ((lvs _ _ C col n 0 none).getD 0) col);rw[q];exact this
 have st:∀k,k<N→∃col r,(ent (rst n C en s k).g en 0).getD 0=col∧(lvs (rst n C en s k).t (rst n C en s k).b C ((ent (rst n C en s k).g en 0).getD 0) n 0 none).getD 0=r∧col<C∧(rst n C en s k).g col<0∧(∀j,j<col→0≤(rst n C en s k).g j)∧r<n∧0<(rst n C en s k).t r col∧∀i,i<n→0<(rst n C en s k).t i col→asg (rst n C en s k).t (rst n C en s k).b C col r i:=fun k e=>by
  obtain⟨col,r,f,q⟩:=u k e;obtain⟨_,x,y,z⟩:=aCG _ _ _ f;obtain⟨_,F,G,I⟩:=(all k (by omega)).next (col:=col) (by omega) q;exact⟨col,r,by rw[f];rfl,by rw[f];show(lvs _ _ C col n 0 none).getD 0=r;rw[q];rfl,by omega,y,fun j J=>z j (Nat.zero_le _) J,F,G,I⟩
 refine⟨fun k e=>(all k e).1,fun k e=>(all k e).2,fun k e=>?_,fun k e=>?_,fun k e=>?_,fun k e=>?_,fun k e=>?_,fun k e=>?_,fun k e=>rfl,fun k e=>rfl,fun k e=>rfl⟩
 all_goals obtain⟨col,r,f,q,K,L,O,U,V,X⟩:=st k e
 ·show(lvs _ _ C _ n 0 none).getD 0<n;rw[q];exact U
 ·show(ent _ en 0).getD 0<C;rw[f];exact K
 ·show(rst n C en s k).g ((ent _ en 0).getD 0)<0;rw[f];exact L
 ·show∀j,j<(ent _ en 0).getD 0→_;rw[f];exact O
 ·show 0<(rst n C en s k).t ((lvs _ _ C _ n 0 none).getD 0) ((ent _ en 0).getD 0);rw[q,f];exact V
 ·show∀i,i<n→0<(rst n C en s k).t i ((ent _ en 0).getD 0)→_;rw[q,f];exact X
theorem aHZ{n C en f:Nat}{Z:Nat→Nat→Rat}{c:Nat→Rat}{s:STb}(h:SXs n C Z c s)(hen:en≤C)(j:C^n≤f):∃o e,aDI n C en f s=some (o,e):=by
 cases hs:aDI n C en f s with
 |none=>
  have:=(aRK h hen (aHQ f s hs)).short;omega
 |some x=>exact⟨x.1,x.2,rfl⟩
theorem aGy{n C en:Nat}{Z:Nat→Nat→Rat}{c:Nat→Rat}{P:STb→Prop}(hen:en≤C)(u:∀s r col,SXs n C Z c s→P s→r<n→col<en→0<s.t r col→P (snx s r col)):∀f s o e,SXs n C Z c s→P s→aDI n C en f s=some (o,e)→SXs n C Z c e∧P e∧(o=none→∀k,k<en→0≤e.g k)∧∀col,o=some col→col<en∧e.g col<0∧∀i,i<n→e.t i col≤0
 |0,s,o,e,_,_,hs=>by cases hs
 |f+1,s,o,e,h,hp,hs=>by
  cases j:ent s.g en 0 with
  |none=>
   simp only[aDI,j]at hs;cases hs;exact⟨h,hp,fun _ k G=>aKr en 0 j k (Nat.zero_le _) (by omega),fun col hc=>by cases hc⟩
  |some col=>
   obtain⟨_,I,x,_⟩:=aCG _ _ _ j;cases q:lvs s.t s.b C col n 0 none with
   |none=>
    simp only[aDI,j,q]at hs;cases hs;refine⟨h,hp,fun hc=>(by cases hc),fun col' hc=>?_⟩;cases hc;exact⟨by omega,x,fun i J=>Rat.not_lt.1 ((aC0 n 0 none q).2 i (Nat.zero_le _) (by omega))⟩
   |some r=>
    simp only[aDI,j,q]at hs;obtain⟨y,z,F,_⟩:=h.next (col:=col) (by omega) q;exact aGy hen u f _ o e y (u s r col h hp z (by omega) F) hs
theorem SX.bd{n C M B:Nat}{Z T:Nat→Nat→Rat}{c g:Nat→Rat}{b:Nat→Nat}{D:Rat}(h:SX n C Z c T g b)(x:D≠0)(t:yY M D)(y:∀i k,i<n→k<C+1→yY M (Z i k*D))(hc:∀k,k<C+1→yY M (c k*D))(G:n≤63)(hM:(64*M)^(n+1)<2^B):uF n (C+1) B T∧∀k,k<C+1→Bd B (g k):=by
 let Z':Nat→Nat→Rat:=fun i k=>if i<n then(if k<C+1 then Z i k else 0) else(if k<C+1 then c k else 1)
 let T':Nat→Nat→Rat:=fun i k=>if i<n then(if k<C+1 then T i k else 0) else(if k<C+1 then g k else 1)
 let b':Nat→Nat:=fun i=>if i<n then b i else C+1
 obtain⟨E,z⟩:=h.ti.ex;obtain⟨l,F⟩:=h.gc;have ti:TI (n+1) (C+2) Z' T' b':=by
  refine⟨⟨fun i j=>if i<n then(if j<n then E i j else 0) else(if j<n then -(l j) else 1),fun i k s q=>?_⟩,fun j f=>?_,fun i j s f=>?_⟩
  ·rw[zP];show T' i k=sm _ n+Z' n k*_;by_cases e:i<n
   ·have u:sm (fun j=>Z' j k*(if i<n then(if j<n then E i j else 0) else(if j<n then -(l j) else 1))) n=sm (fun j=>(if k<C+1 then Z j k else 0)*E i j) n:=bC fun j f=>by
     show(if j<n then _ else _)*_=_;rw[if_pos f,if_pos e,if_pos f]
    rw[u,if_pos e,if_neg (Nat.lt_irrefl n),Rat.mul_zero,Rat.add_zero];show(if i<n then _ else _)=_;rw[if_pos e];by_cases ek:k<C+1
    ·rw[if_pos ek,z i k e ek,zP];exact bC fun j _=>by rw[if_pos ek]
    ·rw[if_neg ek];exact(mD fun j _=>by rw[if_neg ek,Rat.zero_mul]).symm
   ·have u:sm (fun j=>Z' j k*(if i<n then(if j<n then E i j else 0) else(if j<n then -(l j) else 1))) n=sm (fun j=>-((if k<C+1 then l j*Z j k else 0))) n:=bC fun j f=>by
     show(if j<n then _ else _)*_=_;rw[if_pos f,if_neg e,if_pos f];split<;>grind
    rw[u,if_neg e,if_neg (Nat.lt_irrefl n),wJ,Rat.mul_one];show(if i<n then _ else _)=_+(if n<n then _ else _);rw[if_neg e,if_neg (Nat.lt_irrefl n)];by_cases ek:k<C+1
    ·rw[if_pos ek,if_pos ek,F k ek];have:sm (fun j=>if k<C+1 then l j*Z j k else 0) n=sm (fun j=>l j*Z j k) n:=bC fun j _=>if_pos ek
     rw[this];grind
    ·rw[if_neg ek,if_neg ek,mD fun j _=>if_neg ek];grind
  ·show(if j<n then b j else C+1)<C+2;split
   ·rename_i hjn;have:=h.lt j hjn;omega
   ·omega
  ·show(if i<n then(if b' j<C+1 then T i (b' j) else 0) else(if b' j<C+1 then g (b' j) else 1))=_;by_cases ei:i<n<;>by_cases ej:j<n
   ·have e:b' j=b j:=if_pos ej;have:=h.lt j ej;rw[if_pos ei,e,if_pos (by omega)];exact h.ti.un i j ei ej
   ·have e:b' j=C+1:=if_neg ej;rw[if_pos ei,e,if_neg (by omega),if_neg (by omega)]
   ·have e:b' j=b j:=if_pos ej;have:=h.lt j ej;rw[if_neg ei,e,if_pos (by omega),h.gb j ej,if_neg (by omega)]
   ·have e:b' j=C+1:=if_neg ej;rw[if_neg ei,e,if_neg (by omega),if_pos (by omega)]
 have key:=ti.bd (D:=D) (M:=M) (k:=B) x (fun i k s q=>by
  show yY M ((if i<n then(if k<C+1 then Z i k else 0) else(if k<C+1 then c k else 1))*D);have z0:yY M (0*D):=by rw[Rat.zero_mul];exact yY.zero.mono (Nat.zero_le _)
  by_cases ei:i<n<;>by_cases ek:k<C+1
  ·rw[if_pos ei,if_pos ek];exact y i k ei ek
  ·rw[if_pos ei,if_neg ek];exact z0
  ·rw[if_neg ei,if_pos ek];exact hc k ek
  ·rw[if_neg ei,if_neg ek,Rat.one_mul];exact t) (by omega) hM
 constructor
 ·intro i k s q;have:=key i k (by omega) (by omega);have e:T' i k=T i k:=by show(if i<n then(if k<C+1 then T i k else 0) else _)=_;rw[if_pos s,if_pos q]
  rw[e]at this;exact this
 ·intro k q;have:=key n k (by omega) (by omega);have e:T' n k=g k:=by show(if n<n then _ else(if k<C+1 then g k else 1))=_;rw[if_neg (Nat.lt_irrefl n),if_pos q]
  rw[e]at this;exact this
def prc(c:Nat→Rat)(T:Nat→Nat→Rat)(b:Nat→Nat):Nat→Nat→Rat
 |0=>c
 |i+1=>fun k=>prc c T b i k-prc c T b i (b i)*T i k
theorem aML{n w:Nat}{Z T:Nat→Nat→Rat}{c:Nat→Rat}{b:Nat→Nat}(h:TI n w Z T b):∀m,m≤n→∀i,i<n→prc c T b m (b i)=if i<m then 0 else c (b i)
 |0,_,i,f=>by rw[if_neg (by omega)];rfl
 |m+1,hm,i,f=>by
  show prc c T b m (b i)-prc c T b m (b m)*T m (b i)=_;rw[aML h m (by omega) i f,aML h m (by omega) m (by omega),h.un m i (by omega) f,if_neg (Nat.lt_irrefl m)];by_cases e:m=i
  ·rw[if_pos e,e,if_neg (Nat.lt_irrefl i),if_pos (by omega)];grind
  ·rw[if_neg e,Rat.mul_zero];by_cases j:i<m
   ·rw[if_pos j,if_pos (by omega)];grind
   ·rw[if_neg j,if_neg (by omega)];grind
theorem aP0{n w:Nat}{Z T:Nat→Nat→Rat}{c:Nat→Rat}{b:Nat→Nat}(h:TI n w Z T b):∀m,m≤n→∃l:Nat→Rat,∀k,k<w→prc c T b m k=c k-sm (fun j=>l j*Z j k) n
 |0,_=>⟨fun _=>0,fun k _=>by rw[mD fun j _=>Rat.zero_mul _];show c k=_;grind⟩
 |m+1,hm=>by
  obtain⟨l,f⟩:=aP0 h (c:=c) m (by omega);obtain⟨E,q⟩:=h.row (show m<n by omega);refine⟨fun j=>l j+prc c T b m (b m)*E j,fun k e=>?_⟩;show prc c T b m k-prc c T b m (b m)*T m k=_;have s:sm (fun j=>(l j+prc c T b m (b m)*E j)*Z j k) n=sm (fun j=>l j*Z j k) n+prc c T b m (b m)*sm (fun j=>E j*Z j k) n:=by
   rw[←tH,←aD3];exact bC fun j _=>by grind
  rw[s,f k e,q k e];grind
theorem aQM{n C:Nat}{Z T:Nat→Nat→Rat}{c:Nat→Rat}{b:Nat→Nat}(h:TI n (C+1) Z T b)(hlt:∀i,i<n→b i<C)(ke:KE n (C+1) Z T):SX n C Z c T (prc c T b n) b:=
 ⟨h,hlt,ke,fun i e=>by rw[aML h n (Nat.le_refl _) i e,if_pos e],aP0 h n (Nat.le_refl _)⟩
theorem aOT{n w B0 B:Nat}{T:Nat→Nat→Rat}{c:Nat→Rat}{b:Nat→Nat}(hb:∀i,i<n→b i<w)(hc:∀k,k<w→Bd B0 (c k))(h:uF n w B T)(j:∀i,i<n→∀m,m≤i→prc c T b m (b i)=c (b i)):∀m,m≤n→∀k,k<w→Bd (B0+m*(B0+B+1)) (prc c T b m k)
 |0,_,k,f=>(hc k f).mono (by omega)
 |m+1,hm,k,f=>by
  show Bd _ (prc c T b m k-prc c T b m (b m)*T m k);rw[j m (by omega) m (Nat.le_refl _)];have e:(m+1)*(B0+B+1)=m*(B0+B+1)+(B0+B+1):=Nat.succ_mul _ _;exact((aOT hb hc h j m (by omega) k f).sub ((hc _ (hb m (by omega))).mul (h m k (by omega) f))).mono (by omega)
/-- The values of the basic variables in a column. -/
def bX(T:Nat→Nat→Rat)(b:Nat→Nat)(n k m:Nat):Rat:=sm (fun i=>if b i=m then T i k else 0) n
theorem aLU{f:Nat→Rat}:∀{n:Nat},(∀i,i<n→0≤f i)→sm f n=0→∀i,i<n→f i=0
 |0,_,_,i,j=>by omega
 |n+1,h,e,i,j=>by
  have q:=wY (f:=f) (n:=n) fun i j=>h i (by omega)
  have s:=h n (by omega);have t:sm f n+f n=0:=e;by_cases k:i=n
  ·rw[k];grind
  ·exact aLU (f:=f) (n:=n) (fun i j=>h i (by omega)) (by grind) i (by omega)
def ngx(β:Nat→Rat)(i:Nat)(x:Rat):Rat:=if β i<0 then -x else x
def sgB(β:Nat→Rat)(i:Nat):Rat:=if β i<0 then -1 else 1
theorem aDg{β:Nat→Rat}{i:Nat}{x:Rat}:ngx β i x=sgB β i*x:=by unfold ngx sgB;split<;>grind
theorem aPh{β:Nat→Rat}{i:Nat}:sgB β i≠0:=by unfold sgB;split<;>decide
def n0(v m:Nat)(A:Nat→Nat→Rat)(β:Nat→Rat)(i k:Nat):Rat:=
 if k<v then ngx β i (A i k) else if k<2*v then ngx β i (-(A i (k-v))) else if k<2*v+m then(if k=2*v+i then ngx β i 1 else 0) else if k<2*v+2*m then(if k=2*v+m+i∧β i<0 then 1 else 0) else ngx β i (β i)
def aBr(v m:Nat)(β:Nat→Rat)(i:Nat):Nat:=if β i<0 then 2*v+m+i else 2*v+i
section
variable {v m:Nat} {A:Nat→Nat→Rat} {β γ:Nat→Rat}
theorem aL7{i k:Nat}(h:k<v):n0 v m A β i k=sgB β i*A i k:=by unfold n0;rw[if_pos h,aDg]
theorem aPO{i k:Nat}(h:k<v):n0 v m A β i (v+k)=-(sgB β i*A i k):=by
 unfold n0;rw[if_neg (by omega),if_pos (by omega),aDg,show v+k-v=k by omega];grind
theorem aGw{i k:Nat}(h:k<m):n0 v m A β i (v+v+k)=if k=i then sgB β i else 0:=by
 unfold n0;rw[if_neg (by omega),if_neg (by omega),if_pos (by omega)];by_cases e:k=i
 ·rw[if_pos (by omega),if_pos e,aDg,Rat.mul_one]
 ·rw[if_neg (by omega),if_neg e]
theorem aJa{i k:Nat}(h:k<m):n0 v m A β i (v+v+m+k)=if k=i∧β i<0 then 1 else 0:=by
 unfold n0;rw[if_neg (by omega),if_neg (by omega),if_neg (by omega),if_pos (by omega)];by_cases e:k=i
 ·by_cases f:β i<0
  ·rw[if_pos ⟨by omega,f⟩,if_pos ⟨e,f⟩]
  ·rw[if_neg (fun h=>f h.2),if_neg (fun h=>f h.2)]
 ·rw[if_neg (fun h=>e (by omega)),if_neg (fun h=>e h.1)]
theorem aIR{i:Nat}:n0 v m A β i (2*v+2*m)=sgB β i*β i:=by
 unfold n0;rw[if_neg (by omega),if_neg (by omega),if_neg (by omega),if_neg (by omega),aDg]
theorem aGe{i:Nat}(h:i<m):aBr v m β i<2*v+2*m:=by unfold aBr;split<;>omega
theorem TI.self{n w:Nat}{Z:Nat→Nat→Rat}{b:Nat→Nat}(hb:∀j,j<n→b j<w)(hu:∀i j,i<n→j<n→Z i (b j)=if i=j then 1 else 0):TI n w Z Z b:=
 ⟨⟨fun i j=>if i=j then 1 else 0,fun i k f h=>by
  rw[zP,uC f fun j q hne=>by rw[if_neg fun e=>hne e.symm,Rat.mul_zero],if_pos rfl,Rat.mul_one]⟩,hb,hu⟩
theorem aMv:TI m (2*v+2*m+1) (n0 v m A β) (n0 v m A β) (aBr v m β):=by
 refine TI.self (fun j k=>by have:=aGe (v:=v) (β:=β) k;omega) fun i j q k=>?_
 unfold aBr;by_cases e:β j<0
 ·rw[if_pos e,show 2*v+m+j=v+v+m+j by omega,aJa k];by_cases f:i=j
  ·rw[if_pos ⟨f.symm,by rw[f];exact e⟩,if_pos f]
  ·rw[if_neg (fun h=>f h.1.symm),if_neg f]
 ·rw[if_neg e,show 2*v+j=v+v+j by omega,aGw k];by_cases f:i=j
  ·rw[if_pos f.symm,if_pos f,f];unfold sgB;rw[if_neg e]
  ·rw[if_neg (fun h=>f h.symm),if_neg f]
theorem aSc{i:Nat}:0≤n0 v m A β i (2*v+2*m):=by
 rw[aIR];unfold sgB;split<;>grind
theorem aKp{x:Nat→Rat}{i:Nat}(j:i<m):sm (fun k=>n0 v m A β i k*x k) (2*v+2*m+1)=sgB β i*(sm (fun k=>A i k*(x k-x (v+k))) v+x (2*v+i)+β i*x (2*v+2*m))+if β i<0 then x (2*v+m+i) else 0:=by
 have q:2*v+2*m+1=v+v+m+m+1:=by omega
 have s:sm (fun k=>n0 v m A β i k*x k) v=sgB β i*sm (fun k=>A i k*x k) v:=by
  rw[←tH];exact bC fun k f=>by rw[aL7 f];grind
 have t:sm (fun k=>n0 v m A β i (v+k)*x (v+k)) v=sgB β i*sm (fun k=>-(A i k*x (v+k))) v:=by
  rw[←tH];exact bC fun k f=>by rw[aPO f];grind
 have u:sm (fun k=>n0 v m A β i (v+v+k)*x (v+v+k)) m=sgB β i*x (2*v+i):=by
  rw[uC j fun k f hne=>by rw[aGw f,if_neg hne,Rat.zero_mul],aGw j,if_pos rfl,show v+v+i=2*v+i by omega]
 have y:sm (fun k=>n0 v m A β i (v+v+m+k)*x (v+v+m+k)) m=if β i<0 then x (2*v+m+i) else 0:=by
  rw[uC j fun k f hne=>by rw[aJa f,if_neg (fun h=>hne h.1),Rat.zero_mul],aJa j,show v+v+m+i=2*v+m+i by omega];by_cases e:β i<0
  ·rw[if_pos ⟨rfl,e⟩,if_pos e,Rat.one_mul]
  ·rw[if_neg (fun h=>e h.2),if_neg e,Rat.zero_mul]
 have z:sm (fun k=>A i k*(x k-x (v+k))) v=sm (fun k=>A i k*x k) v+sm (fun k=>-(A i k*x (v+k))) v:=by
  rw[←aD3];exact bC fun k _=>by grind
 rw[q,xG,xG,xG,xG,s,t,u,y,z];show _+(0+n0 v m A β i (v+v+m+m+0)*x (v+v+m+m+0))=_;rw[show v+v+m+m+0=2*v+2*m by omega,aIR];grind
def aBo(v:Nat)(g:Nat→Rat)(i:Nat):Rat:=g (2*v+i)
theorem aMf{c T' g:Nat→Rat}{T:Nat→Nat→Rat}{b:Nat→Nat}(h:SX m (2*v+2*m) (n0 v m A β) c T g b)(hc:∀i,i<m→c (2*v+i)=0)(u:c (2*v+2*m)=0):
  (∀k,k<v→sm (fun i=>aBo v g i*A i k) m=g k-c k∧-(sm (fun i=>aBo v g i*A i k) m)=g (v+k)-c (v+k))∧sm (fun i=>aBo v g i*β i) m=g (2*v+2*m):=by
 obtain⟨l,q⟩:=h.gc;have t:∀i,i<m→aBo v g i=-(l i*sgB β i):=fun i f=>by
  unfold aBo;rw[q _ (by omega),hc i f,uC f fun j F hne=>by rw[show 2*v+i=v+v+i by omega,aGw f,if_neg (fun e=>hne e.symm),Rat.mul_zero],show 2*v+i=v+v+i by omega,aGw f,if_pos rfl];grind
 have x:∀k,k<v→sm (fun i=>aBo v g i*A i k) m=-(sm (fun j=>l j*n0 v m A β j k) m):=fun k s=>by
  rw[←wJ];exact bC fun i f=>by rw[t i f,aL7 s];grind
 refine⟨fun k s=>⟨?_,?_⟩,?_⟩
 ·rw[x k s,q k (by omega)];grind
 ·have y:-(sm (fun i=>aBo v g i*A i k) m)=-(sm (fun j=>l j*n0 v m A β j (v+k)) m):=by
   rw[←wJ,←wJ];exact bC fun i f=>by rw[t i f,aPO s];grind
  rw[y,q (v+k) (by omega)];grind
 ·have z:sm (fun i=>aBo v g i*β i) m=-(sm (fun j=>l j*n0 v m A β j (2*v+2*m)) m):=by
   rw[←wJ];exact bC fun i f=>by rw[t i f,aIR];grind
  rw[z,q _ (by omega),u];grind
def aD8(T:Nat→Nat→Rat)(b:Nat→Nat)(n e j:Nat):Rat:=sm (fun i=>if b i=j then T i e else 0) n
theorem aRN{T:Nat→Nat→Rat}{b:Nat→Nat}{n e j:Nat}(h:∀i,i<n→0≤T i e):0≤aD8 T b n e j:=
 wY fun i f=>by split;exact h i f;exact Rat.le_refl
theorem aBc{T:Nat→Nat→Rat}{b:Nat→Nat}{n e j:Nat}(h:j≠e):uQ T b n e j=-(aD8 T b n e j):=by
 unfold uQ aD8;rw[if_neg h];grind
theorem aFq{T:Nat→Nat→Rat}{b:Nat→Nat}{n e:Nat}(h:∀i,i<n→b i≠e):uQ T b n e e=1:=by
 unfold uQ;rw[if_pos rfl,mD fun i f=>if_neg (h i f)];grind
def spt(T:Nat→Nat→Rat)(b:Nat→Nat)(n v e k:Nat):Rat:=aD8 T b n e k-aD8 T b n e (v+k)
def Art(v m:Nat)(s:STb):Prop:=∀i,i<m→2*v+m≤s.b i→s.t i (2*v+2*m)=0∧∀k,k<2*v+m→s.t i k=0
theorem aR4{s:STb}(f:Art v m s){i:Nat}:aD8 s.t s.b m (2*v+2*m) (2*v+m+i)=0:=
 mD fun j h=>by
  split
  ·rename_i e;exact(f j h (by omega)).1
  ·rfl
theorem aND{c:Nat→Rat}{s:STb}(h:SXs m (2*v+2*m) (n0 v m A β) c s)(u:Art v m s){i:Nat}(f:i<m):sm (fun k=>A i k*spt s.t s.b m v (2*v+2*m) k) v≤β i:=by
 have e:=h.1.dZ (k:=2*v+2*m) (by omega) f;have hb:∀i,i<m→s.b i≠2*v+2*m:=fun i f=>by have:=h.1.lt i f;omega
 rw[aKp f,aFq hb,aBc (by omega),aBc (by omega),aR4 u]at e;have x:sm (fun k=>A i k*(uQ s.t s.b m (2*v+2*m) k-uQ s.t s.b m (2*v+2*m) (v+k))) v=-(sm (fun k=>A i k*spt s.t s.b m v (2*v+2*m) k) v):=by
  rw[←wJ];refine bC fun k z=>?_
  rw[aBc (by omega),aBc (by omega)];unfold spt;grind
 have F:=aRN (b:=s.b) (j:=2*v+i) h.2;rw[x]at e;have y:sgB β i*(-(sm (fun k=>A i k*spt s.t s.b m v (2*v+2*m) k) v)+ -(aD8 s.t s.b m (2*v+2*m) (2*v+i))+β i*1)=0:=by
  split at e<;>grind
 rcases Rat.mul_eq_zero.1 y with q|q
 ·exact absurd q aPh
 ·grind
def cs1(v m:Nat)(k:Nat):Rat:=if 2*v+m≤k∧k<2*v+2*m then 1 else 0
def cs2(v:Nat)(γ:Nat→Rat)(k:Nat):Rat:=if k<v then -(γ k) else if k<2*v then γ (k-v) else 0
def st0(v m:Nat)(A:Nat→Nat→Rat)(β:Nat→Rat):STb:=⟨n0 v m A β,prc (cs1 v m) (n0 v m A β) (aBr v m β) m,aBr v m β⟩
theorem aPD{k:Nat}:0≤cs1 v m k:=by unfold cs1;split<;>decide
theorem aQj:cs1 v m (2*v+2*m)=0:=by unfold cs1;rw[if_neg (by omega)]
theorem aOU:SXs m (2*v+2*m) (n0 v m A β) (cs1 v m) (st0 v m A β):=
 ⟨aQM aMv (fun i e=>aGe e) (fun x f=>f),fun i _=>aSc⟩
theorem aQn{s:STb}(h:SXs m (2*v+2*m) (n0 v m A β) (cs1 v m) s){col:Nat}(hc:col<2*v+2*m)(u:s.g col<0)(k:∀i,i<m→s.t i col≤0):False:=by
 have e:=h.1.gdot (x:=uQ s.t s.b m col) fun i f=>h.1.dZ (by omega) f
 rw[z5 (by omega) h.1.ti.lt,mD fun i f=>by rw[h.1.gb i f,Rat.zero_mul]]at e;have:0≤sm (fun j=>cs1 v m j*uQ s.t s.b m col j) (2*v+2*m+1):=wY fun j y=>by
  refine Rat.mul_nonneg aPD ?_;unfold uQ;have q:sm (fun i=>if s.b i=j then s.t i col else 0) m=-(sm (fun i=>if s.b i=j then -(s.t i col) else 0) m):=by
   rw[←wJ];exact bC fun i _=>by split<;>grind
  have z:0≤sm (fun i=>if s.b i=j then -(s.t i col) else 0) m:=wY fun i f=>by
   split
   ·have:=k i f;grind
   ·exact Rat.le_refl
  rw[q];split<;>grind
 grind
structure aWc (v m:Nat) (A:Nat→Nat→Rat) (β Y:Nat→Rat):Prop where
 y0:∀i,i<m→0≤Y i
 eq:∀k,k<v→sm (fun i=>Y i*A i k) m=0
 lt:sm (fun i=>Y i*β i) m<0
structure aSe (v m:Nat) (A:Nat→Nat→Rat) (β γ X Y:Nat→Rat):Prop where
 fe:∀i,i<m→sm (fun k=>A i k*X k) v≤β i
 y0:∀i,i<m→0≤Y i
 eq:∀k,k<v→sm (fun i=>Y i*A i k) m=γ k
 va:sm (fun i=>Y i*β i) m=sm (fun k=>γ k*X k) v
structure aV6 (v m:Nat) (A:Nat→Nat→Rat) (β γ X Y:Nat→Rat):Prop where
 fe:∀i,i<m→sm (fun k=>A i k*X k) v≤β i
 ra:∀i,i<m→sm (fun k=>A i k*Y k) v≤0
 up:0<sm (fun k=>γ k*Y k) v
theorem aRB{s:STb}(h:SXs m (2*v+2*m) (n0 v m A β) (cs1 v m) s)(e:∀k,k<2*v+2*m→0≤s.g k)(j:s.g (2*v+2*m)<0):aWc v m A β (aBo v s.g):=by
 have c0:∀k,k<2*v+m→cs1 v m k=0:=fun k f=>by unfold cs1;rw[if_neg (by omega)]
 obtain⟨d1,d2⟩:=aMf (T':=s.g) h.1 (fun i q=>c0 _ (by omega)) aQj;refine⟨fun i q=>e _ (by omega),fun k f=>?_,by rw[d2];exact j⟩;obtain⟨t,u⟩:=d1 k f;have x:=e k (by omega);have y:=e (v+k) (by omega);rw[c0 k (by omega)]at t;rw[c0 (v+k) (by omega)]at u;grind
theorem aRH{s:STb}(h:SXs m (2*v+2*m) (n0 v m A β) (cs1 v m) s)(q:¬s.g (2*v+2*m)<0):∀i,i<m→2*v+m≤s.b i→s.t i (2*v+2*m)=0:=by
 have e:=h.1.gdot (x:=uQ s.t s.b m (2*v+2*m)) fun i j=>h.1.dZ (by omega) j
 rw[z5 (by omega) h.1.ti.lt,z5 (by omega) h.1.ti.lt,aQj,mD (f:=fun i=>s.g (s.b i)*s.t i (2*v+2*m)) fun i j=>by rw[h.1.gb i j,Rat.zero_mul]]at e;have nn:∀i,i<m→0≤cs1 v m (s.b i)*s.t i (2*v+2*m):=fun i j=>Rat.mul_nonneg aPD (h.2 i j)
 have G:=wY nn;have u:sm (fun i=>cs1 v m (s.b i)*s.t i (2*v+2*m)) m=0:=by
  have:=Rat.not_lt.1 q;grind
 intro i j hb;have y:=aLU nn u i j;have z:=h.1.lt i j;have F:cs1 v m (s.b i)=1:=by unfold cs1;rw[if_pos ⟨hb,z⟩]
 have k:cs1 v m (s.b i)*s.t i (2*v+2*m)=0:=y;rw[F,Rat.one_mul]at k;exact k
def fnz(f:Nat→Rat):Nat→Nat→Option Nat
 |0,_=>none
 |t+1,k=>bif((f k).num.sign != 0) then some k else fnz f t (k+1)
theorem aGA{f:Nat→Rat}:∀t k r,fnz f t k=some r→k≤r∧r<k+t∧f r≠0
 |0,k,r,h=>by cases h
 |t+1,k,r,h=>by
  unfold fnz at h;by_cases e:f k=0
  ·rw[nF (aAw.2 e),bE]at h;obtain⟨q,s,j⟩:=aGA t (k+1) r h;exact⟨by omega,by omega,j⟩
  ·rw[nT (fun h=>e (aAw.1 h)),bJ]at h;cases h;exact⟨Nat.le_refl _,by omega,e⟩
theorem aJ9{f:Nat→Rat}:∀t k,fnz f t k=none→∀j,k≤j→j<k+t→f j=0
 |0,k,_,j,q,s=>by omega
 |t+1,k,h,j,q,s=>by
  unfold fnz at h;by_cases e:f k=0
  ·rw[nF (aAw.2 e),bE]at h;by_cases ej:j=k
   ·rw[ej];exact e
   ·exact aJ9 t (k+1) h j (by omega) (by omega)
  ·rw[nT (fun h=>e (aAw.1 h)),bJ]at h;cases h
def sdr(last:Nat):Nat→Nat→STb→STb
 |0,_,s=>s
 |t+1,i,s=>bif decide (s.b i<last) then sdr last t (i+1) s else match fnz (s.t i) last 0 with
  |none=>sdr last t (i+1) s
  |some k=>sdr last t (i+1) (snx s i k)
theorem aIV{c:Nat→Rat}:∀t i s,i+t=m→SXs m (2*v+2*m) (n0 v m A β) c s→(∀j,j<m→2*v+m≤s.b j→s.t j (2*v+2*m)=0)→(∀j,j<i→2*v+m≤s.b j→∀k,k<2*v+m→s.t j k=0)→SXs m (2*v+2*m) (n0 v m A β) c (sdr (2*v+m) t i s)∧Art v m (sdr (2*v+m) t i s)
 |0,i,s,G,h,u,x=>⟨h,fun j q hb=>⟨u j q hb,x j (by omega) hb⟩⟩
 |t+1,i,s,G,h,u,x=>by
  unfold sdr;by_cases e:s.b i<2*v+m
  ·rw[decide_eq_true e,bJ];exact aIV t (i+1) s (by omega) h u fun j q hb k y=>by
    by_cases ej:j=i
    ·rw[ej]at hb;omega
    ·exact x j (by omega) hb k y
  ·rw[decide_eq_false e,bE];cases F:fnz (s.t i) (2*v+m) 0 with
   |none=>
    exact aIV t (i+1) s (by omega) h u fun j q hb k y=>by
     by_cases ej:j=i
     ·rw[ej];exact aJ9 _ 0 F k (Nat.zero_le _) (by omega)
     ·exact x j (by omega) hb k y
   |some col=>
    obtain⟨_,f2,f3⟩:=aGA _ 0 _ F;have him:i<m:=by omega
    have z:=u i him (by omega);have same:∀j,yG s.t i col j (2*v+2*m)=s.t j (2*v+2*m):=fun j=>by
     unfold yG;rw[z];by_cases ej:j=i
     ·rw[if_pos ej,ej,z];grind
     ·rw[if_neg ej];grind
    refine aIV t (i+1) (snx s i col) (by omega) ⟨h.1.pivot him (by omega) f3,fun j q=>?_⟩ (fun j q hb=>?_) fun j q hb k y=>?_
    ·show 0≤yG s.t i col j _;rw[same];exact h.2 j q
    ·show yG s.t i col j _=0;rw[same];have f:2*v+m≤k9 s.b i col j:=hb;by_cases ej:j=i
     ·rw[ej];exact z
     ·rw[bN ej]at f;exact u j q f
    ·have f:2*v+m≤k9 s.b i col j:=hb;by_cases ej:j=i
     ·rw[ej,aR]at f;omega
     ·rw[bN ej]at f;have z2:=x j (by omega) f;show yG s.t i col j k=0;unfold yG;rw[if_neg ej,z2 k y,z2 col (by omega)];grind
def st2(v m:Nat)(γ:Nat→Rat)(s:STb):STb:=⟨s.t,prc (cs2 v γ) s.t s.b m,s.b⟩
theorem aT8{c:Nat→Rat}{s:STb}(h:SXs m (2*v+2*m) (n0 v m A β) c s):SXs m (2*v+2*m) (n0 v m A β) (cs2 v γ) (st2 v m γ s):=
 ⟨aQM h.1.ti h.1.lt h.1.ke,h.2⟩
theorem aQ7{c:Nat→Rat}{s:STb}{r col:Nat}(h:SXs m (2*v+2*m) (n0 v m A β) c s)(j:Art v m s)(hr:r<m)(hc:col<2*v+m)(hp:0<s.t r col):Art v m (snx s r col):=fun i q hb=>by
 have f:2*v+m≤k9 s.b r col i:=hb;by_cases e:i=r
 ·rw[e,aR]at f;omega
 ·rw[bN e]at f;obtain⟨a1,a2⟩:=j i q f;refine⟨?_,fun k u=>?_⟩
  ·show yG s.t r col i _=0;unfold yG;rw[if_neg e,a1,a2 col hc];grind
  ·show yG s.t r col i k=0;unfold yG;rw[if_neg e,a2 k u,a2 col hc];grind
theorem aM7{x:Nat→Rat}:sm (fun j=>cs2 v γ j*x j) (2*v+2*m+1)=-(sm (fun k=>γ k*(x k-x (v+k))) v):=by
 rw[show 2*v+2*m+1=v+v+(2*m+1) by omega,xG,xG];have f:sm (fun j=>cs2 v γ j*x j) v=-(sm (fun k=>γ k*x k) v):=by
  rw[←wJ];exact bC fun k e=>by unfold cs2;rw[if_pos e];grind
 have h:sm (fun j=>cs2 v γ (v+j)*x (v+j)) v=sm (fun k=>γ k*x (v+k)) v:=
  bC fun k e=>by unfold cs2;rw[if_neg (by omega),if_pos (by omega),show v+k-v=k by omega]
 have q:sm (fun j=>cs2 v γ (v+v+j)*x (v+v+j)) (2*m+1)=0:=mD fun k e=>by
  unfold cs2;rw[if_neg (by omega),if_neg (by omega),Rat.zero_mul]
 have s:sm (fun k=>γ k*(x k-x (v+k))) v=sm (fun k=>γ k*x k) v-1*sm (fun k=>γ k*x (v+k)) v:=by
  rw[←aCe];exact bC fun k _=>by grind
 rw[f,h,q,s];grind
theorem aR6{s:STb}(h:SXs m (2*v+2*m) (n0 v m A β) (cs2 v γ) s)(z:Art v m s)(u:∀k,k<2*v+m→0≤s.g k):aSe v m A β γ (spt s.t s.b m v (2*v+2*m)) (aBo v s.g):=by
 have c0:∀k,2*v≤k→cs2 v γ k=0:=fun k q=>by unfold cs2;rw[if_neg (by omega),if_neg (by omega)]
 obtain⟨d1,d2⟩:=aMf (T':=s.g) h.1 (fun i j=>c0 _ (by omega)) (c0 _ (by omega));refine⟨fun i j=>aND h z j,fun i j=>u _ (by omega),fun k q=>?_,?_⟩
 ·obtain⟨F,y⟩:=d1 k q;have I:=u k (by omega);have J:=u (v+k) (by omega);have c1:cs2 v γ k=-(γ k):=by unfold cs2;rw[if_pos q]
  have G:cs2 v γ (v+k)=γ k:=by unfold cs2;rw[if_neg (by omega),if_pos (by omega),show v+k-v=k by omega]
  rw[c1]at F;rw[G]at y;grind
 ·have e:=h.1.gdot (x:=uQ s.t s.b m (2*v+2*m)) fun i j=>h.1.dZ (by omega) j
  rw[z5 (by omega) h.1.ti.lt,mD (f:=fun i=>s.g (s.b i)*s.t i (2*v+2*m)) fun i j=>by rw[h.1.gb i j,Rat.zero_mul],aM7]at e;have y:sm (fun k=>γ k*(uQ s.t s.b m (2*v+2*m) k-uQ s.t s.b m (2*v+2*m) (v+k))) v=-(sm (fun k=>γ k*spt s.t s.b m v (2*v+2*m) k) v):=by
   rw[←wJ];refine bC fun k q=>?_
   rw[aBc (by omega),aBc (by omega)];unfold spt;grind
  rw[d2];rw[y]at e;grind
def sry(T:Nat→Nat→Rat)(b:Nat→Nat)(n v col k:Nat):Rat:=uQ T b n col k-uQ T b n col (v+k)
theorem aRe{s:STb}(h:SXs m (2*v+2*m) (n0 v m A β) (cs2 v γ) s)(z:Art v m s){col:Nat}(hc:col<2*v+m)(O:s.g col<0)(F:∀i,i<m→s.t i col≤0):aV6 v m A β γ (spt s.t s.b m v (2*v+2*m)) (sry s.t s.b m v col):=by
 refine⟨fun i q=>aND h z q,fun i q=>?_,?_⟩
 ·have e:=h.1.dZ (k:=col) (by omega) q;have G:uQ s.t s.b m col (2*v+2*m)=0:=by
   unfold uQ;rw[if_neg (by omega),mD fun i q=>if_neg (by have:=h.1.lt i q;omega)];grind
  have I:uQ s.t s.b m col (2*v+m+i)=0:=by
   unfold uQ;rw[if_neg (by omega),mD fun j y=>by
    split
    ·rename_i e;exact(z j y (by omega)).2 col hc
    ·rfl]
   grind
  have U:0≤uQ s.t s.b m col (2*v+i):=by
   unfold uQ;have J:sm (fun j=>if s.b j=2*v+i then s.t j col else 0) m=-(sm (fun j=>if s.b j=2*v+i then -(s.t j col) else 0) m):=by
    rw[←wJ];exact bC fun j _=>by split<;>grind
   have V:0≤sm (fun j=>if s.b j=2*v+i then -(s.t j col) else 0) m:=wY fun j y=>by
    split
    ·have:=F j y;grind
    ·exact Rat.le_refl
   rw[J];split<;>grind
  rw[aKp q,G,I]at e;have K:sgB β i*(sm (fun k=>A i k*sry s.t s.b m v col k) v+uQ s.t s.b m col (2*v+i))=0:=by
   have u:sm (fun k=>A i k*(uQ s.t s.b m col k-uQ s.t s.b m col (v+k))) v=sm (fun k=>A i k*sry s.t s.b m v col k) v:=rfl;rw[u]at e;split at e<;>grind
  rcases Rat.mul_eq_zero.1 K with u|u
  ·exact absurd u aPh
  ·grind
 ·have e:=h.1.gdot (x:=uQ s.t s.b m col) fun i q=>h.1.dZ (by omega) q
  rw[z5 (by omega) h.1.ti.lt,mD (f:=fun i=>s.g (s.b i)*s.t i col) fun i q=>by rw[h.1.gb i q,Rat.zero_mul],aM7]at e;have L:sm (fun k=>γ k*(uQ s.t s.b m col k-uQ s.t s.b m col (v+k))) v=sm (fun k=>γ k*sry s.t s.b m v col k) v:=rfl;rw[L]at e;grind
end
theorem aIL{I:Nat}{a3:List (List Rat)}{f g:Nat→Rat}{φ:Rat}{w B:Nat}(s:a3.getD I []=mp f w)(y:∀k,k<w→Bd B (f k))(z:∀k,k<w→Bd B (g k))(hφ:Bd B φ)(hB:B≤200000000)(hw:w≤100000)(K:Nat):∀(t i k:Nat) (h:Nat→Rat),i+t=w→t<k→(∀j,j<i→h j=g j-φ*f j)→(∀j,i≤j→h j=g j)→jS K I a3 φ k (mp h w) (i:Int)=some (mp (fun j=>g j-φ*f j) w)
 |0,i,k,h,J,F,u,q=>by
  obtain⟨G,rfl,_⟩:=aT F;simp only[jS,s,aO,dF (show¬(i:Int)<(w:Int) by omega),bE];rw[cV fun j x=>u j (by omega)]
 |t+1,i,k,h,J,F,u,q=>by
  obtain⟨G,rfl,_⟩:=aT F;have hiw:i<w:=by omega
  have bf:=y i hiw;have bg:=z i hiw;simp only[jS,s,aO,dT (show(i:Int)<(w:Int) by omega),bJ,cZ (f:=f) hiw,oB,mZ bf (by omega),rO (i:=i) (by omega)];by_cases e:f i=0
  ·rw[nF (aAw.2 e),bE];exact aIL s y z hφ hB hw K t (i+1) G h (by omega) (by omega) (fun j x=>by
    by_cases ej:j=i
    ·rw[ej,q i (Nat.le_refl _),e];grind
    ·exact u j (by omega)) (fun j x=>q j (by omega))
  ·rw[nT (fun h=>e (aAw.1 h)),bJ];simp only[cZ (f:=h) hiw,q i (Nat.le_refl _),oB,aAD hφ bf (by omega) (by omega),aCu bg (hφ.mul bf) (by omega) (by omega),wT (f:=h) hiw];exact aIL s y z hφ hB hw K t (i+1) G _ (by omega) (by omega) (fun j x=>by
    by_cases ej:j=i
    ·rw[ej,aR]
    ·rw[bN ej];exact u j (by omega)) (fun j x=>by rw[bN (by omega)];exact q j (by omega))
theorem aP3{t:Nat}{a3:List (List Rat)}{f g:Nat→Rat}{col w B:Nat}(u:a3.getD t []=mp f w)(x:∀k,k<w→Bd B (f k))(s:∀k,k<w→Bd B (g k))(hc:col<w)(hB:B≤200000000)(hw:w≤100000){K:Nat}(y:w<K):rC K t (col:Int) (mp g w) a3=some (mp (fun j=>g j-g col*f j) w):=by
 have q:=aIL u x s (s col hc) hB hw K w 0 K g (by omega) y (fun j z=>by omega) (fun j _=>rfl);rw[Int.natCast_zero]at q;simp only[rC,cZ (f:=g) hc,oB,mZ (s col hc) (by omega)];by_cases e:g col=0
 ·rw[qT (aAw.2 e),bJ,cV (f:=g) (g:=fun j=>g j-g col*f j) fun j _=>by rw[e];grind]
 ·rw[qF (fun h=>e (aAw.1 h)),bE,q,oB,sW]
theorem aHg{rs:List (List Rat)}{o:Nat}{r:List Rat}(f:o<rs.length)(h:rs.getD o []=r):rs.set o r=rs:=by
 apply List.ext_getElem?;intro j;rw[List.getElem?_set];by_cases e:o=j
 ·subst e;rw[if_pos rfl,if_pos f,List.getElem?_eq_getElem f];rw[List.getD_eq_getElem?_getD,List.getElem?_eq_getElem f]at h;exact congrArg some h.symm
 ·rw[if_neg e]
theorem aIT{q a1:Nat}{a3:List (List Rat)}{f g:Nat→Rat}{φ:Rat}{w B:Nat}(hne:a1≠q)(x:a3.getD a1 []=mp f w)(I:∀k,k<w→Bd B (f k))(J:∀k,k<w→Bd B (g k))(hφ:Bd B φ)(hB:B≤200000000)(hw:w≤100000)(K:Nat):∀(t i k:Nat) (rs:List (List Rat)) (h:Nat→Rat),i+t=w→t<k→q<rs.length→rs.getD a1 []=mp f w→rs.getD q []=mp h w→(∀j,j<i→h j=g j-φ*f j)→(∀j,i≤j→h j=g j)→jX K q a1 a3 φ k rs (i:Int)=some (rs.set q (mp (fun j=>g j-φ*f j) w))
 |0,i,k,rs,h,U,L,s,y,z,F,u=>by
  obtain⟨O,rfl,_⟩:=aT L;simp only[jX,x,aO,dF (show¬(i:Int)<(w:Int) by omega),bE];rw[aHg s (by rw[z];exact cV fun j G=>F j (by omega))]
 |t+1,i,k,rs,h,U,L,s,y,z,F,u=>by
  obtain⟨O,rfl,_⟩:=aT L;have hiw:i<w:=by omega
  have bf:=I i hiw;have bg:=J i hiw;simp only[jX,x,aO,dT (show(i:Int)<(w:Int) by omega),bJ,y,cZ (f:=f) hiw,oB,mZ bf (by omega),rO (i:=i) (by omega)];by_cases e:f i=0
  ·rw[nF (aAw.2 e),bE];exact aIT hne x I J hφ hB hw K t (i+1) O rs h (by omega) (by omega) s y z (fun j G=>by
    by_cases ej:j=i
    ·rw[ej,u i (Nat.le_refl _),e];grind
    ·exact F j (by omega)) (fun j G=>u j (by omega))
  ·rw[nT (fun h=>e (aAw.1 h)),bJ];simp only[z,cZ (f:=h) hiw,u i (Nat.le_refl _),oB,aAD hφ bf (by omega) (by omega),aCu bg (hφ.mul bf) (by omega) (by omega),wT (f:=h) hiw];rw[aIT hne x I J hφ hB hw K t (i+1) O (rs.set q (mp (k9 h i (g i-φ*f i)) w)) (k9 h i (g i-φ*f i)) (by omega) (by omega) (by rw[List.length_set];exact s) (by rw[aBX s,if_neg hne];exact y) (by rw[aBX s,if_pos rfl]) (fun j G=>by
    by_cases ej:j=i
    ·rw[ej,aR]
    ·rw[bN ej];exact F j (by omega)) (fun j G=>by rw[bN (by omega)];exact u j (by omega)),List.set_set]
theorem aUL{q a1:Nat}{a3:List (List Rat)}{f g:Nat→Rat}{col w B:Nat}(hne:a1≠q)(x:a3.getD a1 []=mp f w)(t:a3.getD q []=mp g w)(y:q<a3.length)(z:∀k,k<w→Bd B (f k))(u:∀k,k<w→Bd B (g k))(hc:col<w)(hB:B≤200000000)(hw:w≤100000){K:Nat}(F:w<K):tL K q a1 (col:Int) a3=some (a3.set q (mp (fun j=>g j-g col*f j) w)):=by
 have s:=aIT hne x z u (u col hc) hB hw K w 0 K a3 g (by omega) F y x t (fun j G=>by omega) (fun j _=>rfl);rw[Int.natCast_zero]at s;simp only[tL,t,cZ (f:=g) hc,oB,mZ (u col hc) (by omega)];by_cases e:g col=0
 ·rw[qT (aAw.2 e),bJ,aHg y (by rw[t];exact cV fun j _=>by rw[e];grind)]
 ·rw[qF (fun h=>e (aAw.1 h)),bE,s,oB,sQ]
def l4(b:Nat→Nat)(i:Nat):Int:=((b i:Nat):Int)
theorem aOJ{b:Nat→Nat}{r col:Nat}:k9 (l4 b) r ((col:Nat):Int)=l4 (k9 b r col):=by
 funext i;unfold l4 k9;split<;>rfl
theorem aNA{n w r col B:Nat}{od:Nat→Nat}{T:Nat→Nat→Rat}{G:List (List Rat)}(s:uB n w G od T)(hr:r<n)(hc:col<w)(u:uF n w B T)(hB:B≤200000000)(hw:w≤100000)(K:Nat):∀(t i k:Nat) (rs:List (List Rat)) (h:Nat→Rat),i+t=w→t<k→od r<rs.length→rs.getD (od r) []=mp h w→(∀j,j<i→h j=z7 T r col j)→(∀j,i≤j→h j=T r j)→fH K (r:Int) (mp od n) G (T r col) (od r) k rs (i:Int)=some (rs.set (od r) (mp (z7 T r col) w))
 |0,i,k,rs,h,L,x,q,y,z,F=>by
  obtain⟨I,rfl,_⟩:=aT x;simp only[fH,s.row r hr,aO,dF (show¬(i:Int)<(w:Int) by omega),bE];rw[aHg q (by rw[y];exact cV fun j J=>z j (by omega))]
 |t+1,i,k,rs,h,L,x,q,y,z,F=>by
  obtain⟨I,rfl,_⟩:=aT x;have hiw:i<w:=by omega
  have O:=u r i hr hiw;have b2:=u r col hr hc;have e:T r i/T r col=z7 T r col i:=rfl;simp only[fH,s.row r hr,aO,dT (show(i:Int)<(w:Int) by omega),bJ,y,cZ (f:=h) hiw,F i (Nat.le_refl _),oB,cZ (f:=od) hr,aDc O b2 (by omega) (by omega),wT (f:=h) hiw,rO (i:=i) (by omega),e];rw[aNA s hr hc u hB hw K t (i+1) I (rs.set (od r) (mp (k9 h i (z7 T r col i)) w)) (k9 h i (z7 T r col i)) (by omega) (by omega) (by rw[List.length_set];exact q) (by rw[aBX q,if_pos rfl]) (fun j J=>by
    by_cases ej:j=i
    ·rw[ej,aR]
    ·rw[bN ej];exact z j (by omega)) (fun j J=>by rw[bN (by omega)];exact F j (by omega)),List.set_set]
def ptb(T:Nat→Nat→Rat)(r col i j:Nat):Nat→Rat:=if j=r then z7 T r col else if j<i then yG T r col j else T j
theorem aJg{n w r col B:Nat}{od:Nat→Nat}{T:Nat→Nat→Rat}(hr:r<n)(hc:col<w)(x:uF n w B T)(hB:B≤100000000)(hw:w≤100000)(I:n≤100000){K:Nat}(y:w<K):∀(t i k:Nat) (rs:List (List Rat)),i+t=n→t<k→uB n w rs od (ptb T r col i)→∃rs',uB n w rs' od (yG T r col)∧dC K (r:Int) (col:Int) (mp od n) k (mp od n) rs (i:Int)=some (mp od n,rs')
 |0,i,k,rs,O,s,q=>by
  obtain⟨z,rfl,_⟩:=aT s;refine⟨rs,q.congr fun j k J _=>?_,by simp only[dC,aO,dF (show¬(i:Int)<(n:Int) by omega),bE]⟩;unfold ptb;by_cases e:j=r
  ·rw[if_pos e,e];unfold yG z7;rw[if_pos rfl]
  ·rw[if_neg e,if_pos (by omega)]
 |t+1,i,k,rs,O,s,q=>by
  obtain⟨z,rfl,_⟩:=aT s;have hin:i<n:=by omega
  by_cases e:i=r
  ·obtain⟨rs',F,G⟩:=aJg hr hc x hB hw I y t (i+1) z rs (by omega) (by omega) (q.congr fun j k J _=>by
    unfold ptb;by_cases h:j=r
    ·rw[if_pos h,if_pos h]
    ·rw[if_neg h,if_neg h];by_cases u:j<i
     ·rw[if_pos u,if_pos (by omega)]
     ·rw[if_neg u,if_neg (by omega)])
   exact⟨rs',F,by simp only[dC,aO,dT (show(i:Int)<(n:Int) by omega),bJ,cZ (f:=od) hin,oB,nF (show(i:Int)=(r:Int) by omega),bE,rO (i:=i) (by omega),G]⟩
  ·have hne:od r≠od i:=fun h=>e (q.inj r i hr hin h).symm
   have U:rs.getD (od r) []=mp (z7 T r col) w:=by rw[q.row r hr];unfold ptb;rw[if_pos rfl]
   have V:rs.getD (od i) []=mp (T i) w:=by rw[q.row i hin];unfold ptb;rw[if_neg e,if_neg (Nat.lt_irrefl i)]
   have X:=aUL (col:=col) (B:=B+B) (K:=K) hne U V (q.lt i hin) (fun k s=>aIU x hr hc s) (fun k s=>(x i k hin s).mono (by omega)) hc (by omega) hw y;obtain⟨rs',F,G⟩:=aJg hr hc x hB hw I y t (i+1) z (rs.set (od i) (mp (fun j=>T i j-T i col*z7 T r col j) w)) (by omega) (by omega) ((q.set hin (fun j=>T i j-T i col*z7 T r col j)).congr fun j k J _=>by
    by_cases h:j=i
    ·rw[h,aR];unfold ptb;rw[if_neg e,if_pos (by omega)];unfold yG z7;rw[if_neg e]
    ·rw[bN h];unfold ptb;by_cases u:j=r
     ·rw[if_pos u,if_pos u]
     ·rw[if_neg u,if_neg u];by_cases L:j<i
      ·rw[if_pos L,if_pos (by omega)]
      ·rw[if_neg L,if_neg (by omega)])
   exact⟨rs',F,by simp only[dC,aO,dT (show(i:Int)<(n:Int) by omega),bJ,cZ (f:=od) hin,cZ (f:=od) hr,oB,nT (show(i:Int)≠(r:Int) by omega),X,rO (i:=i) (by omega),G]⟩
theorem aQC{n w r col B:Nat}{od:Nat→Nat}{T:Nat→Nat→Rat}{g:Nat→Rat}{b:Nat→Nat}{rs:List (List Rat)}{a2 a3 a4:Int}(h:uB n w rs od T)(hr:r<n)(hc:col<w)(s:uF n w B T)(y:∀k,k<w→Bd B (g k))(hB:B≤100000000)(hw:w≤100000)(z:n≤100000){K:Nat}(J:w+n<K):∃rs',uB n w rs' od (yG T r col)∧lA K (r:Int) (col:Int) a2 a3 a4 (mp od n) (mp g w) (mp (l4 b) n) rs=some (mp od n,mp (gpv g T r col) w,mp (l4 (k9 b r col)) n,rs'):=by
 have q:=aNA h hr hc s (by omega) hw K w 0 K rs (T r) (by omega) (by omega) (h.lt r hr) (h.row r hr) (fun j F=>by omega) (fun j _=>rfl);rw[Int.natCast_zero]at q;obtain⟨rs',u,x⟩:=aJg (od:=od) hr hc s hB hw z (show w<K by omega) n 0 K (rs.set (od r) (mp (z7 T r col) w)) (by omega) (by omega) ((h.set hr (z7 T r col)).congr fun j k F _=>by
  unfold ptb;by_cases e:j=r
  ·rw[e,aR,if_pos rfl]
  ·rw[bN e,if_neg e,if_neg (by omega)])
 rw[Int.natCast_zero]at x;have G:rs'.getD (od r) []=mp (z7 T r col) w:=by rw[u.row r hr];exact cV fun k _=>by unfold yG z7;rw[if_pos rfl]
 have I:=aP3 (col:=col) (B:=B+B) (K:=K) G (fun k t=>aIU s hr hc t) (fun k t=>(y k t).mono (by omega)) hc (by omega) hw (by omega);refine⟨rs',u,?_⟩;simp only[lA,cZ (f:=od) hr,oB,h.row r hr,cZ (f:=T r) hc,q,nL,x,nI,I,cZ (f:=l4 b) hr,wT (f:=l4 b) hr,aOJ];rfl
theorem aMt{C:Nat}{x:Int→Option Rat}{c:Nat→Rat}(y:∀k:Nat,k<C→x (k:Int)=some (c k))(F:C≤100000)(K:Nat):∀(t i k:Nat) (h:Nat→Rat),i+t=C→t<k→(∀j,j<i→h j=c j)→h C=c C→fI K x (C:Int) k (mp h (C+1)) (i:Int)=some (mp c (C+1))
 |0,i,k,h,G,q,s,u=>by
  obtain⟨z,rfl,_⟩:=aT q;simp only[fI,dF (show¬(i:Int)<(C:Int) by omega),bE];refine congrArg some (cV fun j I=>?_);by_cases e:j=C
  ·rw[e];exact u
  ·exact s j (by omega)
 |t+1,i,k,h,G,q,s,u=>by
  obtain⟨z,rfl,_⟩:=aT q;have hiw:i<C+1:=by omega
  simp only[fI,dT (show(i:Int)<(C:Int) by omega),bJ,y i (by omega),oB,cZ (f:=h) hiw,wT (f:=h) hiw,rO (i:=i) (by omega)];exact aMt y F K t (i+1) z _ (by omega) (by omega) (fun j I=>by
    by_cases ej:j=i
    ·rw[ej,aR]
    ·rw[bN ej];exact s j (by omega)) (by rw[bN (by omega)];exact u)
theorem aNx{n w B:Nat}{od b:Nat→Nat}{T:Nat→Nat→Rat}{c:Nat→Rat}{rs:List (List Rat)}(q:uB n w rs od T)(hb:∀i,i<n→b i<w)(s:uF n w B T)(hp:∀m,m≤n→∀k,k<w→Bd B (prc c T b m k))(hB:B≤200000000)(hw:w≤100000)(z:n≤100000){K:Nat}(u:w<K):∀(t i k:Nat),i+t=n→t<k→fF K (mp od n) (mp (l4 b) n) rs k (mp (prc c T b i) w) (i:Int)=some (mp (prc c T b n) w)
 |0,i,k,F,h=>by
  obtain⟨x,rfl,_⟩:=aT h;have:i=n:=by omega
  subst this;simp only[fF,aO,dF (show¬(i:Int)<(i:Int) by omega),bE]
 |t+1,i,k,F,h=>by
  obtain⟨x,rfl,_⟩:=aT h;have hin:i<n:=by omega
  have y:=aP3 (col:=b i) (B:=B) (K:=K) (q.row i hin) (fun k h=>s i k hin h) (fun k h=>hp i (by omega) k h) (hb i hin) hB hw u;have e:(fun j=>prc c T b i j-prc c T b i (b i)*T i j)=prc c T b (i+1):=rfl;rw[e]at y;have G:l4 b i=((b i:Nat):Int):=rfl;simp only[fF,aO,dT (show(i:Int)<(n:Int) by omega),bJ,cZ (f:=l4 b) hin,cZ (f:=od) hin,oB,G,y,rO (i:=i) (by omega)];exact aNx q hb s hp hB hw z u t (i+1) x (by omega) (by omega)
theorem aOK{n C B:Nat}{od b:Nat→Nat}{T:Nat→Nat→Rat}{c:Nat→Rat}{rs:List (List Rat)}{q:Int→Option Rat}{a1 a2:Int}{a5:List Rat}(s:uB n (C+1) rs od T)(t:∀k:Nat,k<C→q (k:Int)=some (c k))(h:c C=0)(hb:∀i,i<n→b i<C+1)(u:uF n (C+1) B T)(hp:∀m,m≤n→∀k,k<C+1→Bd B (prc c T b m k))(hB:B≤200000000)(y:C≤10000)(x:n≤100000){K:Nat}(F:C+1+n<K):jJ K q a1 a2 (C:Int) (mp od n) a5 (mp (l4 b) n) rs=some (mp (prc c T b n) (C+1)):=by
 have f:=aMt t (by omega) K C 0 K (fun _=>0) (by omega) (by omega) (fun j G=>by omega) h.symm;have e:=aNx s hb u hp hB (by omega) x (show C+1<K by omega) n 0 K (by omega) (by omega);have z:prc c T b 0=c:=rfl;rw[z]at e;rw[Int.natCast_zero]at f e;simp only[jJ,rO (i:=C) (by omega),oB,aDD (n:=C+1) (z:=(0:Rat)) (by omega),f,nH,e,nM]
def oi(s:Option Nat):Int:=match s with|none=>-1|some q=>(q:Int)
theorem aED{n w C col B:Nat}{od b:Nat→Nat}{T:Nat→Nat→Rat}{rs:List (List Rat)}(z:uB n w rs od T)(j:uF n w B T)(hc:col<w)(u:C<w)(hB:B≤200000000)(G:n≤100000)(K:Nat):∀(t i k:Nat) (s:Option Nat) (q:Rat),i+t=n→t<k→(∀r,s=some r→r<n∧q=rto T C col r)→cD K (col:Int) (C:Int) (mp od n) (mp (l4 b) n) rs k q (oi s) (i:Int)=some (oi (lvs T b C col t i s))
 |0,i,k,s,q,Y,O,hs=>by
  obtain⟨F,rfl,_⟩:=aT O;simp only[cD,aO,dF (show¬(i:Int)<(n:Int) by omega),bE,lvs]
 |t+1,i,k,s,q,Y,O,hs=>by
  obtain⟨F,rfl,_⟩:=aT O;have hin:i<n:=by omega
  have U:=j i col hin hc;have b2:=j i C hin u;simp only[cD,aO,dT (show(i:Int)<(n:Int) by omega),bJ,cZ (f:=od) hin,oB,z.row i hin,cZ (f:=T i) hc,cZ (f:=T i) u,mZ U (by omega),aDc b2 U (by omega) (by omega),rO (i:=i) (by omega),lvs];by_cases e:0<T i col
  ·rw[decide_eq_false (fun hle=>absurd (aGB.2 e) (Int.not_lt.2 hle)),bE,bE];cases s with
   |none=>
    have ih:=aED (b:=b) z j hc u hB G K t (i+1) F (some i) (T i C/T i col) (by omega) (by omega) (fun r hr=>by cases hr;exact⟨hin,rfl⟩);have I:(oi none)=-1:=rfl;simp only[I,dF (show¬(0:Int)≤-1 by omega),bE,gF,dT (show(-1:Int)<0 by omega),bJ,rO (i:=i) (by omega),oB];exact ih
   |some r=>
    obtain⟨J,V⟩:=hs r rfl;have I:(oi (some r))=(r:Int):=rfl;have b3:Bd (B+B) q:=by rw[V];exact(j r C J u).div (j r col J hc)
    have x:=aED (b:=b) z j hc u hB G K t (i+1) F (some i) (T i C/T i col) (by omega) (by omega) (fun r hr=>by cases hr;exact⟨hin,rfl⟩);have y:=aED (b:=b) z j hc u hB G K t (i+1) F (some r) q (by omega) (by omega) (fun r hr=>by cases hr;exact⟨J,V⟩);have ei:(oi (some i))=(i:Int):=rfl;rw[ei]at x;rw[I]at y;simp only[I,dT (show(0:Int)≤(r:Int) by omega),bJ,aNJ (b2.div U) b3 (by omega) (by omega),oB,gF,aFK.2,rO (i:=i) (by omega),cZ (f:=l4 b) hin,cZ (f:=l4 b) J];unfold bet;rw[show rto T C col r=q from V.symm,show rto T C col i=T i C/T i col from rfl];by_cases X:T i C/T i col<q
    ·rw[decide_eq_true X,bJ,bJ,bJ];exact x
    ·rw[decide_eq_false X,bE,bE];by_cases L:T i C/T i col=q
     ·rw[qT (aFK.1.2 L),bJ,decide_eq_true L,bJ];have e3:decide (l4 b i<l4 b r)=decide (b i<b r):=by
       rw[decide_eq_decide];unfold l4;omega
      rw[e3];cases decide (b i<b r) with
      |true=>rw[bJ,bJ];exact x
      |false=>rw[bE,bE];exact y
     ·rw[qF (fun h=>L (aFK.1.1 h)),bE,decide_eq_false L,bE,bE];exact y
  ·rw[decide_eq_true (aGc e),bJ,bJ];exact aED z j hc u hB G K t (i+1) F s q (by omega) (by omega) hs
theorem aUg{n w C col B:Nat}{od b:Nat→Nat}{T:Nat→Nat→Rat}{rs:List (List Rat)}{a1 a2:Int}{a5:List Rat}(f:uB n w rs od T)(h:uF n w B T)(hc:col<w)(j:C<w)(hB:B≤200000000)(k:n≤100000){K:Nat}(q:n<K):lZ K (col:Int) a1 a2 (C:Int) (mp od n) a5 (mp (l4 b) n) rs=some (oi (lvs T b C col n 0 none)):=by
 have e:=aED (b:=b) f h hc j hB k K n 0 K none 0 (by omega) q (fun r hr=>by cases hr);have s:(oi none)=-1:=rfl;rw[s,Int.natCast_zero]at e;simp only[lZ,e,oB,mF]
def s6(v:Nat)(A:Nat→Nat→Rat)(β:Nat→Rat)(i:Nat):aM:=⟨mp (A i) v,β i⟩
def xY(v m:Nat)(A:Nat→Nat→Rat)(β γ:Nat→Rat):aU:=⟨v,mp (s6 v A β) m,mp γ v⟩
theorem aEH{f:Nat→Rat}{w k B:Nat}{d:Bool}{x:Rat}(e:k<w)(h:Bd B x)(hB:B≤1073741824):mG d (mp f w) (k:Int) x=some (mp (k9 f k (if d=true then -x else x)) w):=by
 cases d with
 |true=>simp only[mG,bJ,yW h hB,oB,cZ (f:=f) e,wT (f:=f) e,if_true]
 |false=>simp only[mG,bE,cZ (f:=f) e,wT (f:=f) e,oB,Bool.false_eq_true,if_false]
theorem aNm{β:Nat→Rat}{i:Nat}{x:Rat}:(if decide ((β i).num.sign<0)=true then -x else x)=ngx β i x:=by
 unfold ngx;by_cases e:β i<0
 ·rw[if_pos e,decide_eq_true (aFf.2 e),if_pos rfl]
 ·rw[if_neg e,decide_eq_false (fun h=>e (aFf.1 h)),if_neg (by decide)]
def mrw(v:Nat)(A:Nat→Nat→Rat)(β:Nat→Rat)(i t k:Nat):Rat:=if k<t then ngx β i (A i k) else if v≤k∧k<v+t then ngx β i (-(A i (k-v))) else 0
theorem aPd{v:Nat}{A:Nat→Nat→Rat}{β:Nat→Rat}{i t:Nat}(q:t<v):k9 (k9 (mrw v A β i t) t (ngx β i (A i t))) (v+t) (ngx β i (-(A i t)))=mrw v A β i (t+1):=by
 funext k;by_cases e:k=v+t
 ·rw[e,aR];unfold mrw;rw[if_neg (by omega),if_pos (by omega),show v+t-v=t by omega]
 ·rw[bN e];by_cases f:k=t
  ·rw[f,aR];unfold mrw;rw[if_pos (by omega)]
  ·rw[bN f];unfold mrw;by_cases h:k<t
   ·rw[if_pos h,if_pos (by omega)]
   ·rw[if_neg h,if_neg (show¬k<t+1 by omega)];by_cases j:v≤k∧k<v+t
    ·rw[if_pos j,if_pos (by omega)]
    ·rw[if_neg j,if_neg (by omega)]
theorem aKW{v w B:Nat}{p:aU}{A:Nat→Nat→Rat}{β:Nat→Rat}{i:Nat}(hp:p.vars=(v:Int))(e:∀k,k<v→Bd B (A i k))(hB:B≤1073741824)(hv:v≤1000)(hw:2*v≤w)(K:Nat):∀(t k f:Nat),k+t=v→t<f→kU K p (s6 v A β i) (β i).num.sign f (mp (mrw v A β i k) w) (k:Int)=some (mp (mrw v A β i v) w)
 |0,k,f,q,h=>by
  obtain⟨j,rfl,_⟩:=aT h;have:k=v:=by omega
  subst this;simp only[kU,s6,aO,dF (show¬(k:Int)<(k:Int) by omega),bE]
 |t+1,k,f,q,h=>by
  obtain⟨j,rfl,_⟩:=aT h;have hkv:k<v:=by omega
  have s:aW ((v:Int)+(k:Int))=some ((v+k:Nat):Int):=yI (m:=0) (by omega) (by omega);have ih:=aKW (β:=β) hp e hB hv hw K t (k+1) j (by omega) (by omega);have hs:(s6 v A β i).a=mp (A i) v:=rfl;simp only[kU,hs,aO,dT (show(k:Int)<(v:Int) by omega),bJ,cZ (f:=A i) hkv,oB,aEH (w:=w) (k:=k) (show k<w by omega) (e k hkv) hB,hp,s,yW (e k hkv) hB,aEH (w:=w) (k:=v+k) (show v+k<w by omega) (e k hkv).neg hB,aNm,aPd hkv,rO (i:=k) (by omega)];exact ih
theorem aQF{v m:Nat}{A:Nat→Nat→Rat}{β:Nat→Rat}{i k:Nat}(u:i<m)(x:k<2*v+2*m+1):(if β i<0 then k9 (k9 (k9 (mrw v A β i v) (2*v+i) (ngx β i 1)) (2*v+2*m) (ngx β i (β i))) (2*v+m+i) 1 else k9 (k9 (mrw v A β i v) (2*v+i) (ngx β i 1)) (2*v+2*m) (ngx β i (β i))) k=n0 v m A β i k:=by
 have key:k9 (k9 (mrw v A β i v) (2*v+i) (ngx β i 1)) (2*v+2*m) (ngx β i (β i)) k=if k=2*v+2*m then ngx β i (β i) else if k=2*v+i then ngx β i 1 else mrw v A β i v k:=by
  by_cases e:k=2*v+2*m
  ·rw[if_pos e,e,aR]
  ·rw[bN e,if_neg e];by_cases f:k=2*v+i
   ·rw[if_pos f,f,aR]
   ·rw[bN f,if_neg f]
 have base:k≠2*v+m+i∨¬β i<0→(if k=2*v+2*m then ngx β i (β i) else if k=2*v+i then ngx β i 1 else mrw v A β i v k)=n0 v m A β i k:=fun hne=>by
  unfold n0 mrw;by_cases j:k<v
  ·rw[if_neg (by omega),if_neg (by omega),if_pos j,if_pos j]
  ·rw[if_neg j,if_neg j];by_cases f:k<2*v
   ·rw[if_neg (by omega),if_neg (by omega),if_pos (by omega),if_pos f]
   ·rw[if_neg f,if_neg (show¬(v≤k∧k<v+v) by omega)];by_cases s:k<2*v+m
    ·rw[if_pos s,if_neg (by omega)]
    ·rw[if_neg s];by_cases t:k<2*v+2*m
     ·rw[if_pos t,if_neg (by omega),if_neg (by omega),if_neg (fun h=>hne.elim (fun q=>q h.1) fun q=>q h.2)]
     ·rw[if_neg t,if_pos (by omega)]
 by_cases e:β i<0
 ·rw[if_pos e];by_cases f:k=2*v+m+i
  ·rw[f,aR,show 2*v+m+i=v+v+m+i by omega,aJa u,if_pos ⟨rfl,e⟩]
  ·rw[bN f,key];exact base (.inl f)
 ·rw[if_neg e,key];exact base (.inr e)
theorem aNu{v m B:Nat}{A:Nat→Nat→Rat}{β γ:Nat→Rat}(s:uF m v B A)(hβ:∀i,i<m→Bd B (β i))(hB1:1≤B)(hB:B≤1073741824)(hv:v≤1000)(hm:m≤1000){K:Nat}(u:v<K):∀(t i k:Nat),i+t=m→t<k→gV K (xY v m A β γ) ((2*v+2*m:Nat):Int) k (mp (l4 (aBr v m β)) i) (mp id i) (mx (n0 v m A β) i (2*v+2*m+1)) (i:Int)=some (mp (l4 (aBr v m β)) m,mp id m,mx (n0 v m A β) m (2*v+2*m+1))
 |0,i,k,y,j=>by
  obtain⟨x,rfl,_⟩:=aT j;have:i=m:=by omega
  subst this;simp only[gV,xY,aO,dF (show¬(i:Int)<(i:Int) by omega),bE]
 |t+1,i,k,y,j=>by
  obtain⟨x,rfl,_⟩:=aT j;have him:i<m:=by omega
  have q:=aKW (p:=xY v m A β γ) (w:=2*v+2*m+1) (β:=β) (i:=i) rfl (fun k j=>s i k him j) hB hv (by omega) K v 0 K (by omega) u;have z0:mp (mrw v A β i 0) (2*v+2*m+1)=mp (fun _=>(0:Rat)) (2*v+2*m+1):=cV fun k _=>by unfold mrw;rw[if_neg (by omega),if_neg (by omega)]
  rw[z0,Int.natCast_zero]at q;have F:aW (2*(v:Int))=some ((2*v:Nat):Int):=yI (m:=0) (by omega) (by omega);have G:aW (((2*v:Nat):Int)+(i:Int))=some ((2*v+i:Nat):Int):=yI (m:=0) (by omega) (by omega);have I:aW (((2*v:Nat):Int)+(m:Int))=some ((2*v+m:Nat):Int):=yI (m:=0) (by omega) (by omega);have J:aW (((2*v+m:Nat):Int)+(i:Int))=some ((2*v+m+i:Nat):Int):=yI (m:=0) (by omega) (by omega);have one:Bd B (1:Rat):=Bd.mono (m:=1) (by constructor<;>decide) hB1;have hb:(s6 v A β i).b=β i:=rfl;have L:(xY v m A β γ).lines=mp (s6 v A β) m:=rfl;have hvr:(xY v m A β γ).vars=(v:Int):=rfl;have ih:=aNu (γ:=γ) s hβ hB1 hB hv hm u t (i+1) x (by omega) (by omega);have row:=fun k j=>aQF (v:=v) (A:=A) (β:=β) (k:=k) him j
  have a1:rQ (mp id i) [(mx (n0 v m A β) i (2*v+2*m+1)).length]=some (mp id (i+1)):=by rw[oD];exact apM (g:=id) (by omega)
  have a2:mx (n0 v m A β) i (2*v+2*m+1)++[mp (n0 v m A β i) (2*v+2*m+1)]=mx (n0 v m A β) (i+1) (2*v+2*m+1):=(aAs (fun i=>mp (n0 v m A β i) (2*v+2*m+1)) i).symm;simp only[gV,L,hvr,aO,dT (show(i:Int)<(m:Int) by omega),bJ,cZ (f:=s6 v A β) him,oB,rO (i:=2*v+2*m) (by omega),aDD (n:=2*v+2*m+1) (z:=(0:Rat)) (by omega),hb,mZ (hβ i him) hB,q,rW,F,G,I,J,aEI,aEH (w:=2*v+2*m+1) (k:=2*v+i) (show 2*v+i<2*v+2*m+1 by omega) one hB,aEH (w:=2*v+2*m+1) (k:=2*v+2*m) (show 2*v+2*m<2*v+2*m+1 by omega) (hβ i him) hB,aNm,oI];by_cases e:β i<0
  ·have hbi:l4 (aBr v m β) i=((2*v+m+i:Nat):Int):=by unfold l4 aBr;rw[if_pos e]
   have a3:rQ (mp (l4 (aBr v m β)) i) [((2*v+m+i:Nat):Int)]=some (mp (l4 (aBr v m β)) (i+1)):=by rw[←hbi];exact apM (g:=l4 (aBr v m β)) (by omega)
   have a4:mp (k9 (k9 (k9 (mrw v A β i v) (2*v+i) (ngx β i 1)) (2*v+2*m) (ngx β i (β i))) (2*v+m+i) 1) (2*v+2*m+1)=mp (n0 v m A β i) (2*v+2*m+1):=cV fun k j=>by
    have:=row k j;rw[if_pos e]at this;exact this
   simp only[dT (aFf.2 e),bJ,cZ (f:=k9 (k9 (mrw v A β i v) (2*v+i) (ngx β i 1)) (2*v+2*m) (ngx β i (β i))) (show 2*v+m+i<2*v+2*m+1 by omega),wT (f:=k9 (k9 (mrw v A β i v) (2*v+i) (ngx β i 1)) (2*v+2*m) (ngx β i (β i))) (show 2*v+m+i<2*v+2*m+1 by omega),oB,a4,a1,a3,a2,rO (i:=i) (by omega)];exact ih
  ·have hbi:l4 (aBr v m β) i=((2*v+i:Nat):Int):=by unfold l4 aBr;rw[if_neg e]
   have a3:rQ (mp (l4 (aBr v m β)) i) [((2*v+i:Nat):Int)]=some (mp (l4 (aBr v m β)) (i+1)):=by rw[←hbi];exact apM (g:=l4 (aBr v m β)) (by omega)
   have a4:mp (k9 (k9 (mrw v A β i v) (2*v+i) (ngx β i 1)) (2*v+2*m) (ngx β i (β i))) (2*v+2*m+1)=mp (n0 v m A β i) (2*v+2*m+1):=cV fun k j=>by
    have:=row k j;rw[if_neg e]at this;exact this
   simp only[dF (fun h=>e (aFf.1 h)),bE,oB,a4,a1,a3,a2,rO (i:=i) (by omega)];exact ih
theorem aRz{v m B:Nat}{A:Nat→Nat→Rat}{β γ:Nat→Rat}(h:uF m v B A)(hβ:∀i,i<m→Bd B (β i))(hB1:1≤B)(hB:B≤1073741824)(hv:v≤1000)(hm:m≤1000){K:Nat}(j:v<K)(f:m<K):tV K (xY v m A β γ)=some ((v:Int),(m:Int),((2*v+2*m:Nat):Int),mp id m,[],mp (l4 (aBr v m β)) m,mx (n0 v m A β) m (2*v+2*m+1)):=by
 have e:=aNu (γ:=γ) h hβ hB1 hB hv hm j m 0 K (by omega) f;have z1:mx (n0 v m A β) 0 (2*v+2*m+1)=[]:=rfl;have z2:mp id 0=([]:List Nat):=rfl;rw[z1,vZ,z2,Int.natCast_zero]at e;have k:aW (2*(v:Int))=some ((2*v:Nat):Int):=yI (m:=0) (by omega) (by omega);have q:aW (2*(m:Int))=some ((2*m:Nat):Int):=yI (m:=0) (by omega) (by omega);have s:aW (((2*v:Nat):Int)+((2*m:Nat):Int))=some ((2*v+2*m:Nat):Int):=yI (m:=0) (by omega) (by omega);have t:(xY v m A β γ).lines=mp (s6 v A β) m:=rfl;have hvr:(xY v m A β γ).vars=(v:Int):=rfl;simp only[tV,t,hvr,aO,k,q,s,oB,e,sP]
theorem aJZ{v m:Nat}{A:Nat→Nat→Rat}{β:Nat→Rat}:uB m (2*v+2*m+1) (mx (n0 v m A β) m (2*v+2*m+1)) id (n0 v m A β):=
 ⟨fun i f=>by rw[oD];exact f,fun i j _ _ e=>e,fun i f=>by unfold mx;rw[List.getD_eq_getElem?_getD,show id i=i from rfl,w8 f];rfl⟩
def Szx(n C B:Nat)(Z:Nat→Nat→Rat)(c:Nat→Rat):Prop:=∀T g b,SX n C Z c T g b→uF n (C+1) B T∧∀k,k<C+1→Bd B (g k)
theorem aEF{w en B:Nat}{yF:Int→(List Nat)→(List Rat)→(List Int)→(List (List Rat))→Bool→Int→Option (Nat×(List Nat)×(List Rat)×(List Int)×(List (List Rat))×Bool×Int)}{g:Nat→Rat}{od:List Nat}{bs:List Int}{rs:List (List Rat)}{fl:Bool}{cr:Int}{code:Nat}{x:(List Nat)×(List Rat)×(List Int)×(List (List Rat))×Bool×Int}(s:∀k,k<w→Bd B (g k))(hB:B≤1073741824)(hen:en≤w)(hw:w≤100000)(u:∀col,ent g en 0=some col→yF (col:Int) od (mp g w) bs rs fl cr=some (code,x))(hc:code≠0)(K:Nat):∀(t i k:Nat),i+t=en→t<k→ent g en 0=ent g t i→cK K (en:Int) yF k od (mp g w) bs rs fl cr (i:Int)=some (match ent g t i with|none=>.go (od,mp g w,bs,rs,fl,cr)|some _=>.ret (code,x))
 |0,i,k,z,q,he=>by
  obtain⟨y,rfl,_⟩:=aT q;simp only[cK,dF (show¬(i:Int)<(en:Int) by omega),bE,ent]
 |t+1,i,k,z,q,he=>by
  obtain⟨y,rfl,_⟩:=aT q;have hiw:i<w:=by omega
  simp only[cK,dT (show(i:Int)<(en:Int) by omega),bJ,cZ (f:=g) hiw,oB,mZ (s i hiw) hB,rO (i:=i) (by omega)];by_cases e:g i<0
  ·have j:ent g (t+1) i=some i:=by unfold ent;rw[decide_eq_true (aFf.2 e),bJ]
   rw[decide_eq_true (aFf.2 e),bJ,u i (by rw[he,j]),oB,j];have F:Nat.beq code 0=false:=by cases hcc:Nat.beq code 0 with|false=>rfl|true=>exact absurd (Nat.eq_of_beq_eq_true hcc) hc
   rw[F,bE]
  ·have j:ent g (t+1) i=ent g t (i+1):=by show(bif decide ((g i).num.sign<0) then _ else _)=_;rw[decide_eq_false (fun h=>e (aFf.1 h)),bE]
   rw[decide_eq_false (fun h=>e (aFf.1 h)),bE,j];exact aEF s hB hen hw u hc K t (i+1) y (by omega) (by omega) (by rw[he,j])
theorem aKg{n C en B:Nat}{Z:Nat→Nat→Rat}{c:Nat→Rat}{od:Nat→Nat}{a1 a2:Int}(V:Szx n C B Z c)(hen:en≤C)(hB:B≤100000000)(hC:C≤10000)(hn:n≤10000){K:Nat}(hK:C+1+n<K):∀(f k:Nat) (s:STb) (rs:List (List Rat)) (cr:Int) (o:Option Nat) (j:STb),f+1<k→uB n (C+1) rs od s.t→SXs n C Z c s→aDI n C en f s=some (o,j)→∃rs' cr',uB n (C+1) rs' od j.t∧dL K (en:Int) a1 a2 (C:Int) k (mp od n) (mp s.g (C+1)) (mp (l4 s.b) n) rs true cr=some (match o with|none=>.go (mp od n,mp j.g (C+1),mp (l4 j.b) n,rs',cr')|some col=>.ret ((col:Int),mp od n,mp j.g (C+1),mp (l4 j.b) n,rs'))
 |0,k,s,rs,cr,o,j,X,u,F,hs=>by cases hs
 |f+1,k,s,rs,cr,o,j,X,u,F,hs=>by
  obtain⟨Y,rfl,hk'⟩:=aT X;obtain⟨hT,z⟩:=V _ _ _ F.1;have b0:Nat.beq 0 0=true:=rfl;have G:Nat.beq 1 0=false:=rfl;have I:Nat.beq 1 1=true:=rfl;have J:Nat.beq 2 0=false:=rfl;have L:Nat.beq 2 1=false:=rfl;have O:Nat.beq 2 2=true:=rfl;cases h:ent s.g en 0 with
  |none=>
   simp only[aDI,h]at hs;cases hs;have e:=aEF (yF:=dM K a1 a2 (C:Int)) (od:=mp od n) (bs:=mp (l4 s.b) n) (rs:=rs) (fl:=false) (cr:=cr) (code:=1) (x:=(mp od n,mp s.g (C+1),mp (l4 s.b) n,rs,false,cr)) (en:=en) z (by omega) (show en≤C+1 by omega) (by omega) (fun col hc=>by rw[h]at hc;cases hc) (by decide) K en 0 K (by omega) (by omega) rfl;rw[h,Int.natCast_zero]at e;obtain⟨k'',rfl,_⟩:=aT (show f+1<Y by omega);refine⟨rs,cr,u,?_⟩;simp only[dL,bJ,jO,oB,hU,e,kT,b0,bE]
  |some col=>
   obtain⟨_,e2,e3,_⟩:=aCG _ _ _ h;have lv:=aUg (b:=s.b) (a1:=a1) (a2:=a2) (a5:=mp s.g (C+1)) (col:=col) (C:=C) u hT (show col<C+1 by omega) (by omega) (by omega) (by omega) (show n<K by omega);cases y:lvs s.t s.b C col n 0 none with
   |none=>
    simp only[aDI,h,y]at hs;cases hs;have U:dM K a1 a2 (C:Int) (col:Int) (mp od n) (mp s.g (C+1)) (mp (l4 s.b) n) rs false cr=some (1,(mp od n,mp s.g (C+1),mp (l4 s.b) n,rs,false,(col:Int))):=by
     rw[y]at lv;simp only[dM,lv,oB,dT (show oi none<0 by decide),bJ]
    have e:=aEF (yF:=dM K a1 a2 (C:Int)) (od:=mp od n) (bs:=mp (l4 s.b) n) (rs:=rs) (fl:=false) (cr:=cr) (code:=1) (x:=(mp od n,mp s.g (C+1),mp (l4 s.b) n,rs,false,(col:Int))) (en:=en) z (by omega) (show en≤C+1 by omega) (by omega) (fun col' hc=>by rw[h]at hc;cases hc;exact U) (by decide) K en 0 K (by omega) (by omega) rfl;rw[h,Int.natCast_zero]at e;refine⟨rs,0,u,?_⟩;simp only[dL,bJ,jO,oB,hU,e,G,I,bE]
   |some r=>
    simp only[aDI,h,y]at hs;obtain⟨n1,n2,n3,_⟩:=F.next (col:=col) (by omega) y;obtain⟨q,r1,r2⟩:=aQC (b:=s.b) (a2:=a1) (a3:=a2) (a4:=(C:Int)) u n2 (show col<C+1 by omega) hT z hB (by omega) (by omega) (show C+1+n<K by omega);have U:dM K a1 a2 (C:Int) (col:Int) (mp od n) (mp s.g (C+1)) (mp (l4 s.b) n) rs false cr=some (2,(mp od n,mp (gpv s.g s.t r col) (C+1),mp (l4 (k9 s.b r col)) n,q,true,cr)):=by
     rw[y]at lv;have e4:oi (some r)=(r:Int):=rfl;rw[e4]at lv;simp only[dM,lv,oB,dF (show¬(r:Int)<0 by omega),bE,r2]
    have e:=aEF (yF:=dM K a1 a2 (C:Int)) (od:=mp od n) (bs:=mp (l4 s.b) n) (rs:=rs) (fl:=false) (cr:=cr) (code:=2) (x:=(mp od n,mp (gpv s.g s.t r col) (C+1),mp (l4 (k9 s.b r col)) n,q,true,cr)) (en:=en) z (by omega) (show en≤C+1 by omega) (by omega) (fun col' hc=>by rw[h]at hc;cases hc;exact U) (by decide) K en 0 K (by omega) (by omega) rfl;rw[h,Int.natCast_zero]at e;obtain⟨rs',cr',q1,q2⟩:=aKg (a1:=a1) (a2:=a2) V hen hB hC hn hK f Y (snx s r col) q cr o j (by omega) r1 n1 hs;refine⟨rs',cr',q1,?_⟩;rw[←q2];simp only[dL,bJ,jO,oB,hU,e,J,L,O,bE];rfl
theorem aP6{n C en B f:Nat}{Z:Nat→Nat→Rat}{c:Nat→Rat}{od:Nat→Nat}{a1 a2:Int}{s e:STb}{rs:List (List Rat)}{o:Option Nat}(h:Szx n C B Z c)(hen:en≤C)(hB:B≤100000000)(j:C≤10000)(k:n≤10000){K:Nat}(q:C+1+n<K)(u:f+1<K)(x:uB n (C+1) rs od s.t)(y:SXs n C Z c s)(hs:aDI n C en f s=some (o,e)):∃rs',uB n (C+1) rs' od e.t∧kS K (en:Int) a1 a2 (C:Int) (mp od n) (mp s.g (C+1)) (mp (l4 s.b) n) rs=some (oi o,mp od n,mp e.g (C+1),mp (l4 e.b) n,rs'):=by
 obtain⟨rs',cr',z,F⟩:=aKg (a1:=a1) (a2:=a2) h hen hB j k q f K s rs 0 o e u x y hs;refine⟨rs',z,?_⟩;simp only[kS,F,oB];cases o with
 |none=>simp only[oA];rfl
 |some col=>rfl
theorem aMV{f:Nat→Rat}{n B:Nat}(h:∀k,k<n→Bd B (f k))(hB:B≤1073741824)(s:n≤100000)(K:Nat):∀(t i k:Nat),i+t=n→t<k→iP K (mp f n) iC k (i:Int)=some (match fnz f t i with|none=>.go ()|some q=>.ret (q:Int))
 |0,i,k,u,e=>by
  obtain⟨j,rfl,_⟩:=aT e;simp only[iP,aO,dF (show¬(i:Int)<(n:Int) by omega),bE,fnz]
 |t+1,i,k,u,e=>by
  obtain⟨j,rfl,_⟩:=aT e;have hin:i<n:=by omega
  have ih:=aMV h hB s K t (i+1) j (by omega) (by omega);simp only[iP,aO,dT (show(i:Int)<(n:Int) by omega),bJ,cZ (f:=f) hin,oB,iC,mZ (h i hin) hB,rO (i:=i) (by omega),fnz];cases((f i).num.sign != 0) with
  |true=>simp only[bJ]
  |false=>simp only[bE];exact ih
theorem aTi{α:Type}{f:Nat→α}{n lo e:Nat}(k:lo≤e)(q:e≤n):slL (mp f n) (lo:Int) (e:Int)=some (mp (fun j=>f (lo+j)) (e-lo)):=by
 unfold slL;rw[if_pos ⟨by omega,by omega,by rw[aO];omega⟩];congr 1;apply List.ext_getElem?;intro j;rw[Int.toNat_natCast,Int.toNat_natCast,List.getElem?_take];by_cases h:j<e-lo
 ·rw[if_pos h,List.getElem?_drop,w8 (by omega),w8 h]
 ·rw[if_neg h,List.getElem?_eq_none (by rw[aO];omega)]
theorem aWr{α:Type}{f:Nat→α}{n k:Nat}(h:k≤n):slL (mp f n) 0 (k:Int)=some (mp f k):=by
 have e:=aTi (f:=f) (lo:=0) (Nat.zero_le k) h;rw[Int.natCast_zero,Nat.sub_zero]at e;rw[e];exact congrArg some (cV fun j _=>by rw[Nat.zero_add])
theorem aEL{n C last B:Nat}{Z:Nat→Nat→Rat}{c:Nat→Rat}{od:Nat→Nat}{a1 a2:Int}{a6:List Int}(h:a6.length=n)(u:Szx n C B Z c)(F:last≤C)(hB:B≤100000000)(G:C≤10000)(I:n≤10000){K:Nat}(x:C+1+n<K):∀(t i k:Nat) (s:STb) (rs:List (List Rat)),i+t=n→t<k→uB n (C+1) rs od s.t→SX n C Z c s.t s.g s.b→∃rs',uB n (C+1) rs' od (sdr last t i s).t∧cP K (last:Int) a1 a2 (C:Int) a6 k (mp od n) (mp s.g (C+1)) (mp (l4 s.b) n) rs (i:Int)=some (mp od n,mp (sdr last t i s).g (C+1),mp (l4 (sdr last t i s).b) n,rs')
 |0,i,k,s,rs,O,y,e,j=>by
  obtain⟨z,rfl,_⟩:=aT y;exact⟨rs,e,by simp only[cP,h,dF (show¬(i:Int)<(n:Int) by omega),bE,sdr]⟩
 |t+1,i,k,s,rs,O,y,e,j=>by
  obtain⟨z,rfl,_⟩:=aT y;have hin:i<n:=by omega
  obtain⟨L,U⟩:=u _ _ _ j;have V:decide (l4 s.b i<(last:Int))=decide (s.b i<last):=by rw[decide_eq_decide];unfold l4;omega
  have sl:slL (mp (s.t i) (C+1)) 0 (last:Int)=some (mp (s.t i) last):=aWr (by omega);have ix:=aMV (f:=s.t i) (n:=last) (fun k y=>L i k hin (by omega)) (by omega) (by omega) K last 0 K (by omega) (by omega);rw[Int.natCast_zero]at ix;have X:oH K (mp (s.t i) last) iC=some (oi (fnz (s.t i) last 0)):=by
   simp only[oH,ix,oB];cases fnz (s.t i) last 0 with
   |none=>simp only[pV];rfl
   |some q=>rfl
  simp only[cP,h,dT (show(i:Int)<(n:Int) by omega),bJ,cZ (f:=l4 s.b) hin,oB,V,cZ (f:=od) hin,e.row i hin,sl,X,rO (i:=i) (by omega),sdr];cases hd:decide (s.b i<last) with
  |true=>
   simp only[bJ];exact aEL h u F hB G I x t (i+1) z s rs (by omega) (by omega) e j
  |false=>
   simp only[bE];cases Y:fnz (s.t i) last 0 with
   |none=>
    simp only[dF (show¬0≤oi none by decide),bE];exact aEL h u F hB G I x t (i+1) z s rs (by omega) (by omega) e j
   |some col=>
    obtain⟨_,f2,f3⟩:=aGA _ 0 _ Y;have e4:oi (some col)=(col:Int):=rfl;obtain⟨J,r1,r2⟩:=aQC (b:=s.b) (a2:=a1) (a3:=a2) (a4:=(C:Int)) e hin (show col<C+1 by omega) L U hB (by omega) (by omega) x;simp only[e4,dT (show(0:Int)≤(col:Int) by omega),bJ,r2,oB];exact aEL h u F hB G I x t (i+1) z (snx s i col) J (by omega) (by omega) r1 (j.pivot hin (by omega) f3)
def fdx(b:Nat→Nat)(k:Nat):Nat→Nat→Option Nat
 |0,_=>none
 |t+1,i=>bif decide (k=b i) then some i else fdx b k t (i+1)
theorem aC7{b:Nat→Nat}{k:Nat}:∀t i r,fdx b k t i=some r→i≤r∧r<i+t∧b r=k
 |0,i,r,h=>by cases h
 |t+1,i,r,h=>by
  unfold fdx at h;by_cases e:k=b i
  ·rw[decide_eq_true e,bJ]at h;cases h;exact⟨Nat.le_refl _,by omega,e.symm⟩
  ·rw[decide_eq_false e,bE]at h;obtain⟨j,q,f⟩:=aC7 t (i+1) r h;exact⟨by omega,by omega,f⟩
theorem aKu{b:Nat→Nat}{k:Nat}:∀t i,fdx b k t i=none→∀j,i≤j→j<i+t→b j≠k
 |0,i,_,j,f,q=>by omega
 |t+1,i,h,j,f,q=>by
  unfold fdx at h;by_cases e:k=b i
  ·rw[decide_eq_true e,bJ]at h;cases h
  ·rw[decide_eq_false e,bE]at h;by_cases ej:j=i
   ·rw[ej];exact fun s=>e s.symm
   ·exact aKu t (i+1) h j (by omega) (by omega)
theorem aLi{b:Nat→Nat}{n q:Nat}(s:n≤100000)(K:Nat):∀(t i k:Nat),i+t=n→t<k→lE K (mp (l4 b) n) (q:Int) k (i:Int)=some (match fdx b q t i with|none=>.go ()|some r=>.ret (r:Int))
 |0,i,k,u,h=>by
  obtain⟨j,rfl,_⟩:=aT h;simp only[lE,aO,dF (show¬(i:Int)<(n:Int) by omega),bE,fdx]
 |t+1,i,k,u,h=>by
  obtain⟨j,rfl,_⟩:=aT h;have hin:i<n:=by omega
  have ih:=aLi (b:=b) (q:=q) s K t (i+1) j (by omega) (by omega);simp only[lE,aO,dT (show(i:Int)<(n:Int) by omega),bJ,cZ (f:=l4 b) hin,oB,rO (i:=i) (by omega),fdx];by_cases e:q=b i
  ·rw[qT (show(q:Int)=l4 b i by unfold l4;omega),bJ,decide_eq_true e,bJ]
  ·rw[qF (show¬(q:Int)=l4 b i by unfold l4;omega),bE,decide_eq_false e,bE];exact ih
theorem aKs{b:Nat→Nat}{n q:Nat}(e:n≤100000){K:Nat}(f:n<K):qI K (mp (l4 b) n) (q:Int)=some (oi (fdx b q n 0)):=by
 have h:=aLi (b:=b) (q:=q) e K n 0 K (by omega) f;rw[Int.natCast_zero]at h;simp only[qI,h,oB];cases fdx b q n 0 with
 |none=>simp only[sV];rfl
 |some r=>rfl
theorem aGu{n w:Nat}{Z T:Nat→Nat→Rat}{b:Nat→Nat}(h:TI n w Z T b){e k:Nat}:aD8 T b n e k=match fdx b k n 0 with|none=>0|some r=>T r e:=by
 unfold aD8;cases f:fdx b k n 0 with
 |none=>exact mD fun i j=>if_neg (aKu n 0 f i (Nat.zero_le _) (by omega))
 |some r=>
  obtain⟨_,t,q⟩:=aC7 n 0 r f;have hr:r<n:=by omega
  rw[uC hr fun i j hne=>if_neg fun s=>hne (h.inj j hr (by rw[s,q])),if_pos q]
theorem aUS{n C k:Nat}{Z T:Nat→Nat→Rat}{b od:Nat→Nat}{rs:List (List Rat)}{a1 a2:Int}{a5:List Rat}(h:TI n (C+1) Z T b)(e:uB n (C+1) rs od T)(j:n≤100000){K:Nat}(q:n<K):kV K (k:Int) a1 a2 (C:Int) (mp od n) a5 (mp (l4 b) n) rs=some (aD8 T b n C k):=by
 rw[aGu h];simp only[kV,aKs j q,oB];cases s:fdx b k n 0 with
 |none=>simp only[dF (show¬0≤oi none by decide),bE]
 |some r=>
  obtain⟨_,u,x⟩:=aC7 n 0 r s;have hr:r<n:=by omega
  have t:oi (some r)=(r:Int):=rfl;simp only[t,dT (show(0:Int)≤(r:Int) by omega),bJ,cZ (f:=od) hr,oB,e.row r hr,cZ (f:=T r) (show C<C+1 by omega)]
theorem aF8{n w B:Nat}{Z T:Nat→Nat→Rat}{b:Nat→Nat}(h:TI n w Z T b){e k:Nat}(hB:1≤B)(f:∀i,i<n→Bd B (T i e)):Bd B (aD8 T b n e k):=by
 rw[aGu h];cases j:fdx b k n 0 with
 |none=>exact Bd.zero.mono hB
 |some r=>
  obtain⟨_,q,s⟩:=aC7 n 0 r j;exact f r (by omega)
theorem aUl{n C k col B:Nat}{Z T:Nat→Nat→Rat}{b od:Nat→Nat}{rs:List (List Rat)}{a1 a2:Int}{a6:List Rat}(h:TI n (C+1) Z T b)(j:uB n (C+1) rs od T)(hc:col<C+1)(hb:∀i,i<n→b i≠col)(q:uF n (C+1) B T)(hB:B≤1073741824)(s:n≤100000){K:Nat}(t:n<K):kN K (k:Int) (col:Int) a1 a2 (C:Int) (mp od n) a6 (mp (l4 b) n) rs=some (uQ T b n col k):=by
 by_cases e:k=col
 ·subst e;rw[aFq hb];simp only[kN,o7,qT (rfl:(k:Int)=k),bJ,aEI,oB]
 ·rw[aBc e,aGu h];simp only[kN,o7,qF (show¬(k:Int)=(col:Int) by omega),bE,aKs s t,oB];cases u:fdx b k n 0 with
  |none=>
   simp only[dF (show¬0≤oi none by decide),bE,oB];rfl
  |some r=>
   obtain⟨_,y,z⟩:=aC7 n 0 r u;have hr:r<n:=by omega
   have x:oi (some r)=(r:Int):=rfl;simp only[x,dT (show(0:Int)≤(r:Int) by omega),bJ,cZ (f:=od) hr,oB,j.row r hr,cZ (f:=T r) hc,yW (q r col hr hc) hB]
theorem aIW{n w B:Nat}{Z T:Nat→Nat→Rat}{b:Nat→Nat}(h:TI n w Z T b){col k:Nat}(hb:∀i,i<n→b i≠col)(hB:1≤B)(f:∀i,i<n→Bd B (T i col)):Bd B (uQ T b n col k):=by
 by_cases e:k=col
 ·subst e;rw[aFq hb];exact Bd.mono (m:=1) (by constructor<;>decide) hB
 ·rw[aBc e];exact(aF8 h hB f).neg
theorem aMi{n v C B:Nat}{Z T:Nat→Nat→Rat}{b od:Nat→Nat}{rs:List (List Rat)}{a1:Int}{a4:List Rat}{s:List Rat}(q:s.length=v)(h:TI n (C+1) Z T b)(z:uB n (C+1) rs od T)(F:uF n (C+1) B T)(hB1:1≤B)(hB:B≤1073741824)(hv:v≤1000)(G:n≤100000){K:Nat}(I:n<K):∀(t i k:Nat) (f:Nat→Rat),i+t=v→t<k→(∀j,j<i→f j=spt T b n v C j)→fG K (v:Int) a1 (C:Int) (mp od n) a4 (mp (l4 b) n) rs s k (mp f v) (i:Int)=some (mp (spt T b n v C) v)
 |0,i,k,f,u,x,y=>by
  obtain⟨J,rfl,_⟩:=aT x;simp only[fG,q,dF (show¬(i:Int)<(v:Int) by omega),bE];exact congrArg some (cV fun j U=>y j (by omega))
 |t+1,i,k,f,u,x,y=>by
  obtain⟨J,rfl,_⟩:=aT x;have hiv:i<v:=by omega
  have V:aW ((v:Int)+(i:Int))=some ((v+i:Nat):Int):=yI (m:=0) (by omega) (by omega);have L:∀k,Bd B (aD8 T b n C k):=fun k=>aF8 h hB1 fun i u=>F i C u (by omega)
  have X:aD8 T b n C i-aD8 T b n C (v+i)=spt T b n v C i:=rfl;have O:∀k:Nat,kV K (k:Int) (v:Int) a1 (C:Int) (mp od n) a4 (mp (l4 b) n) rs=some (aD8 T b n C k):=fun k=>aUS h z G I
  simp only[fG,q,dT (show(i:Int)<(v:Int) by omega),bJ,O i,O (v+i),oB,V,aCu (L i) (L (v+i)) hB hB,X,cZ (f:=f) hiv,wT (f:=f) hiv,rO (i:=i) (by omega)];exact aMi q h z F hB1 hB hv G I t (i+1) J (k9 f i (spt T b n v C i)) (by omega) (by omega) (fun j U=>by
   by_cases e:j=i
   ·rw[e,aR]
   ·rw[bN e];exact y j (by omega))
theorem aUu{n v C B:Nat}{Z T:Nat→Nat→Rat}{b od:Nat→Nat}{rs:List (List Rat)}{a1:Int}{a4:List Rat}(h:TI n (C+1) Z T b)(k:uB n (C+1) rs od T)(q:uF n (C+1) B T)(hB1:1≤B)(hB:B≤1073741824)(hv:v≤1000)(s:n≤100000){K:Nat}(t:n<K)(f:v<K):gB K (v:Int) a1 (C:Int) (mp od n) a4 (mp (l4 b) n) rs=some (mp (spt T b n v C) v):=by
 have e:=aMi (a1:=a1) (a4:=a4) (aO (fun _=>(0:Rat)) v) h k q hB1 hB hv s t v 0 K (fun _=>0) (by omega) f (fun j u=>by omega);rw[Int.natCast_zero]at e;simp only[gB,aDD (n:=v) (z:=(0:Rat)) (by omega),oB,e,nK]
theorem aM5{n v C col B:Nat}{Z T:Nat→Nat→Rat}{b od:Nat→Nat}{rs:List (List Rat)}{a1:Int}{a5:List Rat}{s:List Rat}(q:s.length=v)(h:TI n (C+1) Z T b)(F:uB n (C+1) rs od T)(hc:col<C+1)(hb:∀i,i<n→b i≠col)(u:uF n (C+1) B T)(hB1:1≤B)(hB:B≤1073741824)(hv:v≤1000)(G:n≤100000){K:Nat}(I:n<K):∀(t i k:Nat) (f:Nat→Rat),i+t=v→t<k→(∀j,j<i→f j=sry T b n v col j)→fE K (v:Int) a1 (C:Int) (col:Int) (mp od n) a5 (mp (l4 b) n) rs s k (mp f v) (i:Int)=some (mp (sry T b n v col) v)
 |0,i,k,f,x,y,z=>by
  obtain⟨J,rfl,_⟩:=aT y;simp only[fE,q,dF (show¬(i:Int)<(v:Int) by omega),bE];exact congrArg some (cV fun j U=>z j (by omega))
 |t+1,i,k,f,x,y,z=>by
  obtain⟨J,rfl,_⟩:=aT y;have hiv:i<v:=by omega
  have V:aW ((v:Int)+(i:Int))=some ((v+i:Nat):Int):=yI (m:=0) (by omega) (by omega);have L:∀k,Bd B (uQ T b n col k):=fun k=>aIW h hb hB1 fun i x=>u i col x hc
  have X:uQ T b n col i-uQ T b n col (v+i)=sry T b n v col i:=rfl;have O:∀k:Nat,kN K (k:Int) (col:Int) (v:Int) a1 (C:Int) (mp od n) a5 (mp (l4 b) n) rs=some (uQ T b n col k):=fun k=>aUl h F hc hb u hB G I
  simp only[fE,q,dT (show(i:Int)<(v:Int) by omega),bJ,O i,O (v+i),oB,V,aCu (L i) (L (v+i)) hB hB,X,cZ (f:=f) hiv,wT (f:=f) hiv,rO (i:=i) (by omega)];exact aM5 q h F hc hb u hB1 hB hv G I t (i+1) J (k9 f i (sry T b n v col i)) (by omega) (by omega) (fun j U=>by
   by_cases e:j=i
   ·rw[e,aR]
   ·rw[bN e];exact z j (by omega))
theorem aUB{n v C col B:Nat}{Z T:Nat→Nat→Rat}{b od:Nat→Nat}{rs:List (List Rat)}{a1:Int}{a5:List Rat}(h:TI n (C+1) Z T b)(k:uB n (C+1) rs od T)(hc:col<C+1)(hb:∀i,i<n→b i≠col)(q:uF n (C+1) B T)(hB1:1≤B)(hB:B≤1073741824)(hv:v≤1000)(s:n≤100000){K:Nat}(t:n<K)(f:v<K):jM K (v:Int) a1 (C:Int) (col:Int) (mp od n) a5 (mp (l4 b) n) rs=some (mp (sry T b n v col) v):=by
 have e:=aM5 (a1:=a1) (a5:=a5) (aO (fun _=>(0:Rat)) v) h k hc hb q hB1 hB hv s t v 0 K (fun _=>0) (by omega) f (fun j u=>by omega);rw[Int.natCast_zero]at e;simp only[jM,aDD (n:=v) (z:=(0:Rat)) (by omega),oB,e,nJ]
theorem aPM{v m C:Nat}{g:Nat→Rat}{a2:Int}{a3:List Nat}{a5:List Int}{a6:List (List Rat)}(k:2*v+m≤C+1)(hv:v≤1000)(hm:m≤1000):mI (v:Int) (m:Int) a2 a3 (mp g (C+1)) a5 a6=some (mp (aBo v g) m)∧kO (v:Int) (m:Int) a2 (mp g (C+1)) a3 a5 a6=some (mp (aBo v g) m):=by
 have e:aW (2*(v:Int))=some ((2*v:Nat):Int):=yI (m:=0) (by omega) (by omega);have f:aW (((2*v:Nat):Int)+(m:Int))=some ((2*v+m:Nat):Int):=yI (m:=0) (by omega) (by omega);have h:slL (mp g (C+1)) ((2*v:Nat):Int) ((2*v+m:Nat):Int)=some (mp (aBo v g) m):=by
  rw[aTi (show 2*v≤2*v+m by omega) k,show 2*v+m-2*v=m by omega];rfl
 have j:gR (mp (aBo v g) m)=some (mp (aBo v g) m):=by
  simp only[gR,xV (show([]:List Rat).length+(mp (aBo v g) m).length≤68719476736 by rw[aO];show 0+m≤_;omega),oB,List.nil_append]
 constructor
 ·simp only[mI,e,f,h,j,oB]
 ·simp only[kO,e,f,h,j,oB]
theorem aFi{w b B:Nat}(h:w*(b+1)≤B)(hw:0<w):b+1≤B:=Nat.le_trans (Nat.le_mul_of_pos_left (b+1) hw) h
theorem aOG{f:Nat→Rat}{w b:Nat}(j:∀c,c<w→Bd b (f c))(hB:w*(b+1)≤1000000000)(hw:w≤1000)(K:Nat):∀(t i k:Nat),i+t=w→t<k→Bd (1+i*(b+1)) (sm f i)→vH K (mp f w) k (sm f i) (i:Int)=some (sm f w)
 |0,i,k,u,e,h=>by
  obtain⟨q,rfl,_⟩:=aT e;have:i=w:=by omega
  subst this;simp only[vH,aO,dF (show¬(i:Int)<(i:Int) by omega),bE]
 |t+1,i,k,u,e,h=>by
  obtain⟨q,rfl,_⟩:=aT e;have s:=j i (by omega);have hb:=aFi hB (by omega);have hib:i*(b+1)≤w*(b+1):=Nat.mul_le_mul_right _ (by omega);have hs:1+i*(b+1)+b+1=1+(i+1)*(b+1):=by rw[Nat.add_mul];omega
  simp only[vH,aO,dT (show(i:Int)<(w:Int) by omega),bJ,cZ (f:=f) (show i<w by omega),oB,aBf h s (by omega) (by omega),rO (i:=i) (by omega)];exact aOG j hB hw K t (i+1) q (by omega) (by omega) (by simp only[sm];exact(h.add s).mono (by omega))
theorem aIb{f e:Nat→Rat}{w b b':Nat}(j:∀c,c<w→Bd b (f c))(he:∀c,c<w→Bd b' (e c))(hB:w*(b+b'+1)≤1000000000)(hw:w≤1000)(K:Nat):∀(t i k:Nat),i+t=w→t<k→t8 K (mp f w) (mp e w) k (mp (fun c=>f c*e c) i) (i:Int)=some (mp (fun c=>f c*e c) w)
 |0,i,k,s,h=>by
  obtain⟨q,rfl,_⟩:=aT h;have:i=w:=by omega
  subst this;simp only[t8,aO,Int.min_self,dF (show¬(i:Int)<(i:Int) by omega),bE]
 |t+1,i,k,s,h=>by
  obtain⟨q,rfl,_⟩:=aT h;have hb:=aFi hB (by omega);simp only[t8,aO,Int.min_self,dT (show(i:Int)<(w:Int) by omega),bJ,cZ (f:=f) (show i<w by omega),cZ (f:=e) (show i<w by omega),oB,aAD (j i (by omega)) (he i (by omega)) (by omega) (by omega),apM (g:=fun c=>f c*e c) (i:=i) (by omega),rO (i:=i) (by omega)];exact aIb j he hB hw K t (i+1) q (by omega) (by omega)
theorem aHv{f e:Nat→Rat}{w b b':Nat}(h:∀c,c<w→Bd b (f c))(he:∀c,c<w→Bd b' (e c))(hB:w*(b+b'+1)≤1000000000)(hw:w≤1000){K:Nat}(j:w<K):yA K (mp f w) (mp e w)=some (sm (fun c=>f c*e c) w):=by
 have k:=aIb h he hB hw K w 0 K (by omega) j;have q:=aOG (f:=fun c=>f c*e c) (b:=b+b') (fun c hc=>(h c hc).mul (he c hc)) hB hw K w 0 K (by omega) j (Bd.zero.mono (by omega));simp only[Int.natCast_zero,vZ,sm]at k q;simp only[yA,k,oB,zQ,aDb,q,aAB]
theorem aRs{g:Nat→Nat→Rat}{h w b:Nat}(e:uF h w b g)(hc:Cok h w)(hb:2≤b)(hB:5^w*b≤200000000)(hh:h≤64)(hw:w≤64){K:Nat}(f:w+h<K):xM K (mx g h w)=some ((aON g h w:Int),0):=by
 simp only[xM,aK2 hc hh hw (K:=K) (by omega),oB,Bool.not_true,bE,aJk hc,aIq e hb (Nat.le_refl w) hB (show h≤1000 by omega) (show w≤1000 by omega) f,p6,aON]
theorem aPB(n:Nat):Cok n n:=fun h=>h
theorem aHp{v m:Nat}{A:Nat→Nat→Rat}{β:Nat→Rat}{p:aU}(hp:p.vars=(v:Int))(K:Nat):∀(t i k:Nat),i+t=m→t<k→m≤1000→gI K (mp (s6 v A β) m) (rB p) k (i:Int)=some (.go ())
 |0,i,k,j,e,hm=>by
  obtain⟨h,rfl,_⟩:=aT e;simp only[gI,aO,dF (show¬(i:Int)<(m:Int) by omega),bE]
 |t+1,i,k,j,e,hm=>by
  obtain⟨h,rfl,_⟩:=aT e;have hs:(s6 v A β i).a=mp (A i) v:=rfl;simp only[gI,aO,dT (show(i:Int)<(m:Int) by omega),bJ,cZ (f:=s6 v A β) (show i<m by omega),oB,rB,hs,hp,nF (rfl:(v:Int)=(v:Int)),bE,rO (i:=i) (by omega)];exact aHp hp K t (i+1) h (by omega) (by omega) hm
theorem aNT{v m:Nat}{A:Nat→Nat→Rat}{β γ:Nat→Rat}(hv:v≤32)(hm:m≤64){K:Nat}(e:m<K):vO K (xY v m A β γ)=some 0:=by
 have h:=aHp (m:=m) (A:=A) (β:=β) (p:=xY v m A β γ) rfl K m 0 K (by omega) e (by omega);rw[Int.natCast_zero]at h;have f:(xY v m A β γ).lines=mp (s6 v A β) m:=rfl;have hvr:(xY v m A β γ).vars=(v:Int):=rfl;have j:(xY v m A β γ).goal=mp γ v:=rfl;simp only[vO,f,hvr,j,aO,dF (show¬(32:Int)<(v:Int) by omega),dF (show¬(64:Int)<(m:Int) by omega),dF (show¬(v:Int)<0 by omega),nF (rfl:(v:Int)=(v:Int)),bE,oT,rK,h,oL,oB,dF (show¬(0:Int)≤-1 by omega)]
structure SPk (v m M B:Nat) (A:Nat→Nat→Rat) (β γ:Nat→Rat) (D:Rat):Prop where
 D0:D≠0
 DM:yY M D
 zA:∀i k,i<m→k<v→yY M (A i k*D)
 zβ:∀i,i<m→yY M (β i*D)
 zγ:∀k,k<v→yY M (γ k*D)
 hv:v≤8
 hm:m≤12
 hM:(64*M)^(m+1)<2^B
 hB1:1≤B
 hB:B≤1000000
section
variable {v m M B:Nat} {A:Nat→Nat→Rat} {β γ:Nat→Rat} {D:Rat}
theorem yY.sg{x:Rat}{M:Nat}(h:yY M x):yY M (-x):=by
 obtain⟨q,e,f⟩:=h;exact⟨-q,by rw[e];exact(Rat.intCast_neg q).symm,by omega⟩
theorem aRC{β:Nat→Rat}{i M:Nat}{x D:Rat}(h:yY M (x*D)):yY M (ngx β i x*D):=by
 unfold ngx;split
 ·rw[Rat.neg_mul];exact h.sg
 ·exact h
theorem SPk.zZ(h:SPk v m M B A β γ D):∀i k,i<m→k<2*v+2*m+1→yY M (n0 v m A β i k*D):=fun i k e f=>by
 have z0:yY M (0*D):=by rw[Rat.zero_mul];exact yY.zero.mono (Nat.zero_le _)
 have z1:yY M (1*D):=by rw[Rat.one_mul];exact h.DM
 unfold n0;split
 ·exact aRC (h.zA i k e (by omega))
 ·split
  ·exact aRC (by rw[Rat.neg_mul];exact(h.zA i (k-v) e (by omega)).sg)
  ·split
   ·split
    ·exact aRC z1
    ·exact z0
   ·split
    ·split
     ·exact z1
     ·exact z0
    ·exact aRC (h.zβ i e)
theorem SPk.z1(h:SPk v m M B A β γ D):∀k,yY M (cs1 v m k*D):=fun k=>by
 have z0:yY M (0*D):=by rw[Rat.zero_mul];exact yY.zero.mono (Nat.zero_le _)
 have z1:yY M (1*D):=by rw[Rat.one_mul];exact h.DM
 unfold cs1;split<;>assumption
theorem SPk.z2(h:SPk v m M B A β γ D):∀k,yY M (cs2 v γ k*D):=fun k=>by
 have z0:yY M (0*D):=by rw[Rat.zero_mul];exact yY.zero.mono (Nat.zero_le _)
 unfold cs2;split
 ·rename_i e;rw[Rat.neg_mul];exact(h.zγ k e).sg
 ·split
  ·exact h.zγ _ (by omega)
  ·exact z0
theorem SPk.s1(h:SPk v m M B A β γ D):Szx m (2*v+2*m) B (n0 v m A β) (cs1 v m):=fun T g b e=>
 e.bd h.D0 h.DM h.zZ (fun k _=>h.z1 k) (by have:=h.hm;omega) h.hM
theorem SPk.s2(h:SPk v m M B A β γ D):Szx m (2*v+2*m) B (n0 v m A β) (cs2 v γ):=fun T g b e=>
 e.bd h.D0 h.DM h.zZ (fun k _=>h.z2 k) (by have:=h.hm;omega) h.hM
theorem SPk.bZ(h:SPk v m M B A β γ D):uF m (2*v+2*m+1) B (n0 v m A β):=(h.s1 _ _ _ aOU.1).1
theorem SPk.bA(h:SPk v m M B A β γ D):uF m v B A:=fun i k e f=>by
 have:=h.bZ i k e (by omega);rw[aL7 f,←aDg]at this;unfold ngx at this;split at this
 ·have:=this.neg;rwa [Rat.neg_neg]at this
 ·exact this
theorem SPk.bβ(h:SPk v m M B A β γ D):∀i,i<m→Bd B (β i):=fun i e=>by
 have:=h.bZ i (2*v+2*m) e (by omega);rw[aIR,←aDg]at this;unfold ngx at this;split at this
 ·have:=this.neg;rwa [Rat.neg_neg]at this
 ·exact this
theorem SPk.bγ(h:SPk v m M B A β γ D):∀k,k<v→Bd B (γ k):=fun k q=>by
 have s:SX 0 (2*v+2*m) (n0 v m A β) (cs2 v γ) (n0 v m A β) (cs2 v γ) (fun _=>0):=
  ⟨⟨⟨fun _ _=>0,fun i _ f=>by omega⟩,fun j t=>by omega,fun i _ f=>by omega⟩,fun i f=>by omega,fun x _ i f=>by omega,fun i f=>by omega,⟨fun _=>0,fun k _=>by show _=_-0;grind⟩⟩
 have hM:(64*M)^(0+1)<2^B:=by
  refine Nat.lt_of_le_of_lt ?_ h.hM;by_cases e:64*M=0
  ·rw[e];exact Nat.zero_le _
  ·exact Nat.pow_le_pow_right (by omega) (by omega)
 have hb:=(s.bd (B:=B) h.D0 h.DM (fun i _ f=>by omega) (fun k _=>h.z2 k) (by omega) hM).2 k (by omega);unfold cs2 at hb;rw[if_pos q]at hb;have:=hb.neg
 rwa [Rat.neg_neg]at this
structure aWm (v m B:Nat) (A:Nat→Nat→Rat) (β γ:Nat→Rat) (a:lV):Prop where
 is:(a.kind=1∧a.x=[]∧a.value=0∧∃Y,a.y=mp Y m∧aWc v m A β Y∧∀i,i<m→Bd B (Y i))∨
  (a.kind=2∧a.value=0∧∃X Y,a.x=mp X v∧a.y=mp Y v∧aV6 v m A β γ X Y∧(∀i,i<v→Bd (2*B+1) (X i))∧∀i,i<v→Bd (2*B+1) (Y i))∨
  (a.kind=0∧∃X Y,a.x=mp X v∧a.y=mp Y m∧a.value=sm (fun k=>γ k*X k) v∧aSe v m A β γ X Y∧(∀i,i<v→Bd (2*B+1) (X i))∧∀i,i<m→Bd B (Y i))
theorem aH2(h:SPk v m M B A β γ D):∃a:lV,aWm v m B A β γ a∧∀K,(2*v+2*m)^m+1000≤K→mC K (xY v m A β γ)=some (a,0):=by
 have hv:=h.hv;have hm:=h.hm;have hB:=h.hB;have hB1:=h.hB1;have hbA:=h.bA;have hbβ:=h.bβ;have hbγ:=h.bγ;have e1:aW (2*(v:Int))=some ((2*v:Nat):Int):=yI (m:=0) (by omega) (by omega);have e2:aW (((2*v:Nat):Int)+(m:Int))=some ((2*v+m:Nat):Int):=yI (m:=0) (by omega) (by omega);have hvr:(xY v m A β γ).vars=(v:Int):=rfl;have hgo:(xY v m A β γ).goal=mp γ v:=rfl;have Y:=aOU (v:=v) (m:=m) (A:=A) (β:=β);have one:Bd B (1:Rat):=Bd.mono (m:=1) (by constructor<;>decide) hB1;have bc1:∀k,Bd B (cs1 v m k):=fun k=>by unfold cs1;split;exact one;exact Bd.zero.mono hB1
 have bp:∀(c:Nat→Rat) (T:Nat→Nat→Rat) (b:Nat→Nat),TI m (2*v+2*m+1) (n0 v m A β) T b→(∀i,i<m→b i<2*v+2*m)→(∀k,k<2*v+2*m+1→Bd B (c k))→uF m (2*v+2*m+1) B T→∀j,j≤m→∀k,k<2*v+2*m+1→Bd (40*B) (prc c T b j k):=fun c T b ti hb hc hT j hj k hk=>by
  refine(aOT (B0:=B) (B:=B) (fun i x=>by have:=hb i x;omega) hc hT (fun i x j hj=>by rw[aML ti j (by omega) i x,if_neg (by omega)]) j hj k hk).mono ?_;have h1:j*(B+B+1)≤12*(3*B):=Nat.mul_le_mul (by omega) (by omega);omega
 obtain⟨o1,s1,hs1⟩:=aHZ (f:=(2*v+2*m)^m) Y (Nat.le_refl _) (Nat.le_refl _);obtain⟨I,_,hn1,hc1⟩:=aGy (P:=fun _=>True) (Nat.le_refl _) (fun _ _ _ _ _ _ _ _=>trivial) _ _ _ _ Y trivial hs1;have ho1:o1=none:=by
  cases o1 with
  |none=>rfl
  |some col=>
   obtain⟨c1,c2,c3⟩:=hc1 col rfl;exact(aQn I c1 c2 c3).elim
 subst ho1;obtain⟨bT1,bg1⟩:=h.s1 _ _ _ I.1;have hW:∀K,(2*v+2*m)^m+1000≤K→∃z,uB m (2*v+2*m+1) z id s1.t∧mC K (xY v m A β γ)=bif(decide (s1.g (2*v+2*m)<0)) then some ((⟨1,([]:List Rat),mp (aBo v s1.g) m,0⟩:lV),0) else((nG K ((2*v+m:Nat):Int) (v:Int) (m:Int) ((2*v+2*m:Nat):Int) (mp id m) (mp s1.g (2*v+2*m+1)) (mp (l4 s1.b) m) z).bind fun F=>(jJ K (oQ (xY v m A β γ)) (v:Int) (m:Int) ((2*v+2*m:Nat):Int) F.1 F.2.1 F.2.2.1 F.2.2.2).bind fun v94=>(kS K ((2*v+m:Nat):Int) (v:Int) (m:Int) ((2*v+2*m:Nat):Int) F.1 v94 F.2.2.1 F.2.2.2).bind fun q=>bif(decide (0≤q.1)) then((jM K (v:Int) (m:Int) ((2*v+2*m:Nat):Int) q.1 q.2.1 q.2.2.1 q.2.2.2.1 q.2.2.2.2).bind fun L=>(gB K (v:Int) (m:Int) ((2*v+2*m:Nat):Int) q.2.1 q.2.2.1 q.2.2.2.1 q.2.2.2.2).bind fun v123=>some ((⟨2,v123,L,0⟩:lV),0)) else((gB K (v:Int) (m:Int) ((2*v+2*m:Nat):Int) q.2.1 q.2.2.1 q.2.2.2.1 q.2.2.2.2).bind fun V=>(kO (v:Int) (m:Int) ((2*v+2*m:Nat):Int) q.2.2.1 q.2.1 q.2.2.2.1 q.2.2.2.2).bind fun v131=>(yA K (mp γ v) V).bind fun v133=>some ((⟨0,V,v131,v133⟩:lV),0))):=fun K X=>by
  have mk:=aRz (γ:=γ) hbA hbβ hB1 (by omega) (by omega) (by omega) (show v<K by omega) (show m<K by omega);have ha1:∀k:Nat,k<2*v+2*m→rA ((2*v+m:Nat):Int) (k:Int)=some (cs1 v m k):=fun k hk=>by
   unfold rA cs1;by_cases e:2*v+m≤k
   ·rw[dT (show((2*v+m:Nat):Int)≤(k:Int) by omega),bJ,aEI,oB,if_pos ⟨e,hk⟩]
   ·rw[dF (show¬((2*v+m:Nat):Int)≤(k:Int) by omega),bE,if_neg (fun h=>e h.1)]
  have pr:=aOK (a1:=(v:Int)) (a2:=(m:Int)) (a5:=[]) (K:=K) aJZ ha1 aQj (fun i x=>by have:=aGe (v:=v) (β:=β) x;omega) (h.bZ.mono (show B≤40*B by omega)) (bp _ _ _ aMv (fun i x=>aGe x) (fun k _=>bc1 k) h.bZ) (by omega) (by omega) (by omega) (by omega);obtain⟨z,r1,r2⟩:=aP6 (a1:=(v:Int)) (a2:=(m:Int)) (K:=K) h.s1 (Nat.le_refl _) (by omega) (by omega) (by omega) (by omega) (by omega) aJZ Y hs1;have sl:=(aPM (v:=v) (m:=m) (C:=2*v+2*m) (g:=s1.g) (a2:=((2*v+2*m:Nat):Int)) (a3:=mp id m) (a5:=mp (l4 s1.b) m) (a6:=z) (by omega) (by omega) (by omega)).1;refine⟨z,r1,?_⟩;have e0:(prc (cs1 v m) (n0 v m A β) (aBr v m β) m)=(st0 v m A β).g:=rfl;have U:aBr v m β=(st0 v m A β).b:=rfl;rw[e0,U]at pr;rw[U]at mk;have e3:decide ((s1.g (2*v+2*m)).num.sign<0)=decide (s1.g (2*v+2*m)<0):=by rw[decide_eq_decide];exact aFf
  simp only[mC,aNT (show v≤32 by omega) (show m≤64 by omega) (show m<K by omega),oB,nF (rfl:(0:Int)=0),bE,mk,hvr,hgo,e1,e2,pr,r2,cZ (f:=s1.g) (show 2*v+2*m<2*v+2*m+1 by omega),mZ (bg1 (2*v+2*m) (by omega)) (show B≤1073741824 by omega),sl,e3]
 by_cases hC:s1.g (2*v+2*m)<0
 ·refine⟨⟨1,[],mp (aBo v s1.g) m,0⟩,⟨Or.inl ⟨rfl,rfl,rfl,aBo v s1.g,rfl,aRB I (hn1 rfl) hC,fun i x=>bg1 _ (by omega)⟩⟩,fun K X=>?_⟩;obtain⟨z,r1,r2⟩:=hW K X;rw[r2,decide_eq_true hC,bJ]
 ·obtain⟨O,ha2⟩:=aIV m 0 s1 (by omega) I (aRH I hC) (fun j hj=>by omega);have hx3:=aT8 (γ:=γ) O;obtain⟨o2,u,hs4⟩:=aHZ (en:=2*v+m) (f:=(2*v+2*m)^m) hx3 (by omega) (Nat.le_refl _);obtain⟨y,ha4,hn4,hc4⟩:=aGy (P:=Art v m) (show 2*v+m≤2*v+2*m by omega) (fun s r col hx ha hr hc hp=>aQ7 hx ha hr hc hp) _ _ _ _ hx3 ha2 hs4;obtain⟨bT2,_⟩:=h.s1 _ _ _ O.1;obtain⟨J,bg4⟩:=h.s2 _ _ _ y.1;have bX:∀i,i<v→Bd (2*B+1) (spt u.t u.b m v (2*v+2*m) i):=fun i x=>
   ((aF8 y.1.ti hB1 fun i x=>J i _ x (by omega)).sub (aF8 y.1.ti hB1 fun i x=>J i _ x (by omega))).mono (by omega)
  have bc2:∀k,Bd B (cs2 v γ k):=fun k=>by
   unfold cs2;split
   ·exact(hbγ k (by omega)).neg
   ·split
    ·exact hbγ _ (by omega)
    ·exact Bd.zero.mono hB1
  have hV:∀K,(2*v+2*m)^m+1000≤K→∃G,uB m (2*v+2*m+1) G id u.t∧mC K (xY v m A β γ)=bif(decide (0≤oi o2)) then((jM K (v:Int) (m:Int) ((2*v+2*m:Nat):Int) (oi o2) (mp id m) (mp u.g (2*v+2*m+1)) (mp (l4 u.b) m) G).bind fun L=>some ((⟨2,mp (spt u.t u.b m v (2*v+2*m)) v,L,0⟩:lV),0)) else some ((⟨0,mp (spt u.t u.b m v (2*v+2*m)) v,mp (aBo v u.g) m,sm (fun k=>γ k*spt u.t u.b m v (2*v+2*m) k) v⟩:lV),0):=fun K X=>by
   obtain⟨z,r1,r2⟩:=hW K X;obtain⟨rs2,q1,q2⟩:=aEL (last:=2*v+m) (a1:=(v:Int)) (a2:=(m:Int)) (a6:=mp (l4 s1.b) m) (aO _ _) h.s1 (by omega) (by omega) (by omega) (by omega) (show 2*v+2*m+1+m<K by omega) m 0 K s1 z (by omega) (by omega) r1 I.1;rw[Int.natCast_zero]at q2;have ha2':∀k:Nat,k<2*v+2*m→oQ (xY v m A β γ) (k:Int)=some (cs2 v γ k):=fun k hk=>by
    unfold oQ cs2;rw[hvr,hgo];by_cases e:k<v
    ·rw[dT (show(k:Int)<(v:Int) by omega),bJ,cZ (f:=γ) e,oB,yW (hbγ k e) (show B≤1073741824 by omega),oB,if_pos e]
    ·rw[dF (show¬(k:Int)<(v:Int) by omega),bE,e1,oB,if_neg e];by_cases e':k<2*v
     ·have ek:aW ((k:Int)-(v:Int))=some ((k-v:Nat):Int):=yI (m:=0) (by omega) (by omega);rw[dT (show(k:Int)<((2*v:Nat):Int) by omega),bJ,ek,oB,cZ (f:=γ) (show k-v<v by omega),oB,if_pos e']
     ·rw[dF (show¬(k:Int)<((2*v:Nat):Int) by omega),bE,if_neg e']
   have c2C:cs2 v γ (2*v+2*m)=0:=by unfold cs2;rw[if_neg (by omega),if_neg (by omega)]
   have pr:=aOK (a1:=(v:Int)) (a2:=(m:Int)) (a5:=mp (sdr (2*v+m) m 0 s1).g (2*v+2*m+1)) (K:=K) q1 ha2' c2C (fun i x=>by have:=O.1.lt i x;omega) (bT2.mono (show B≤40*B by omega)) (bp _ _ _ O.1.ti O.1.lt (fun k _=>bc2 k) bT2) (by omega) (by omega) (by omega) (by omega);obtain⟨G,u1,u2⟩:=aP6 (s:=st2 v m γ (sdr (2*v+m) m 0 s1)) (a1:=(v:Int)) (a2:=(m:Int)) (K:=K) h.s2 (show 2*v+m≤2*v+2*m by omega) (by omega) (by omega) (by omega) (by omega) (by omega) q1 hx3 hs4;have e0:prc (cs2 v γ) (sdr (2*v+m) m 0 s1).t (sdr (2*v+m) m 0 s1).b m=(st2 v m γ (sdr (2*v+m) m 0 s1)).g:=rfl;have U:(st2 v m γ (sdr (2*v+m) m 0 s1)).b=(sdr (2*v+m) m 0 s1).b:=rfl;rw[e0]at pr;rw[U]at u2;have p2:=aUu (v:=v) (a1:=(m:Int)) (a4:=mp u.g (2*v+2*m+1)) (K:=K) y.1.ti u1 J hB1 (by omega) (by omega) (by omega) (by omega) (by omega);have sl:=(aPM (v:=v) (m:=m) (C:=2*v+2*m) (g:=u.g) (a2:=((2*v+2*m:Nat):Int)) (a3:=mp id m) (a5:=mp (l4 u.b) m) (a6:=G) (by omega) (by omega) (by omega)).2;have hd:v*(B+(2*B+1)+1)≤8*3000002:=Nat.mul_le_mul hv (by omega);have dt:=aHv (f:=γ) (e:=spt u.t u.b m v (2*v+2*m)) (w:=v) hbγ bX (by omega) (by omega) (show v<K by omega);refine⟨G,u1,?_⟩;rw[r2,decide_eq_false hC,bE];simp only[nG,q2,oB,mS,pr,u2,p2,sl,dt]
  cases o2 with
  |none=>
   refine⟨⟨0,mp (spt u.t u.b m v (2*v+2*m)) v,mp (aBo v u.g) m,sm (fun k=>γ k*spt u.t u.b m v (2*v+2*m) k) v⟩,⟨Or.inr (Or.inr ⟨rfl,_,_,rfl,rfl,rfl,aR6 y ha4 (hn4 rfl),bX,fun i x=>bg4 _ (by omega)⟩)⟩,fun K X=>?_⟩;obtain⟨G,u1,u2⟩:=hV K X;rw[u2,dF (show¬0≤oi none by decide),bE]
  |some col=>
   obtain⟨c1,c2,c3⟩:=hc4 col rfl;have hb:∀i,i<m→u.b i≠col:=fun i x e=>by
    have:=y.1.gb i x;rw[e]at this;rw[this]at c2;exact absurd c2 Rat.lt_irrefl
   have bY:∀i,i<v→Bd (2*B+1) (sry u.t u.b m v col i):=fun i x=>
    ((aIW y.1.ti hb hB1 fun i x=>J i _ x (by omega)).sub (aIW y.1.ti hb hB1 fun i x=>J i _ x (by omega))).mono (by omega)
   refine⟨⟨2,mp (spt u.t u.b m v (2*v+2*m)) v,mp (sry u.t u.b m v col) v,0⟩,⟨Or.inr (Or.inl ⟨rfl,rfl,_,_,rfl,rfl,aRe y ha4 c1 c2 c3,bX,bY⟩)⟩,fun K X=>?_⟩;obtain⟨G,u1,u2⟩:=hV K X;have e4:oi (some col)=(col:Int):=rfl;have p1:=aUB (v:=v) (a1:=(m:Int)) (a5:=mp u.g (2*v+2*m+1)) (K:=K) y.1.ti u1 (show col<2*v+2*m+1 by omega) hb J hB1 (by omega) (by omega) (by omega) (by omega) (by omega);rw[u2,e4,dT (show(0:Int)≤(col:Int) by omega),bJ,p1,oB]
end
theorem aNn{q:Int}(h:0<q):(⟨true,(Z q).d⟩:aD)=Z (-q):=by
 have e:(Z (-q)).d=(Z q).d:=by rw[Z_d,Z_d,Int.natAbs_neg]
 have f:(Z (-q)).neg=true:=by rw[uS];exact decide_eq_true (by omega)
 cases j:Z (-q) with
 |mk ng dd=>
  rw[j]at e f;simp only at e f;rw[e,f]
theorem aRO:Ev (fun K=>kZ K ⟨true,[]⟩) false:=⟨2,fun K e=>by
 obtain⟨k,rfl⟩:=Nat.exists_eq_add_of_le e;rw[Nat.add_comm];rfl⟩
theorem aPv:Ev (fun K=>fP K ⟨true,[]⟩) false:=⟨2,fun K e=>by
 obtain⟨k,rfl⟩:=Nat.exists_eq_add_of_le e;rw[Nat.add_comm];rfl⟩
theorem aN3{a:Rat}(f:qs a=true):Ev (fun K=>lC K ⟨(Qr a).p,⟨true,(Qr a).q.d⟩⟩) false:=by
 obtain⟨a1,a2⟩:=wB f;obtain⟨j,k,s,t⟩:=@aHc a;rw[aKX];generalize(if a.den=1 then(0:Int) else a.den)=q at *;unfold lC;refine Ev.bind (aJE (by omega)) ?_;simp only[Bool.not_true,bE];by_cases h:q=0
 ·subst h;have e:(Z 0).d=[]:=by rw[Z0]
  rw[e];refine Ev.bind aRO ?_;simp only[Bool.not_false,bJ];exact Ev.pure _
 ·rw[aNn (by omega)];refine Ev.bind (aJE (by rw[Int.natAbs_neg];omega)) ?_;simp only[Bool.not_true,bE,uS,dT (show -q<0 by omega),bJ];exact Ev.pure _
theorem aLI{a:Rat}(f:qs a=true):Ev (fun K=>cJ K ⟨(Qr a).p,⟨true,(Qr a).q.d⟩⟩) false:=by
 obtain⟨a1,a2⟩:=wB f;obtain⟨j,k,s,t⟩:=@aHc a;rw[aKX];generalize(if a.den=1 then(0:Int) else a.den)=q at *;unfold cJ;refine Ev.bind (aF6 (by omega)) ?_;simp only[Bool.not_true,bE];by_cases h:q=0
 ·subst h;have e:(Z 0).d=[]:=by rw[Z0]
  rw[e];refine Ev.bind aPv ?_;simp only[Bool.not_false,bJ];exact Ev.pure _
 ·rw[aNn (by omega)];refine Ev.bind (aF6 (by rw[Int.natAbs_neg];omega)) ?_;simp only[Bool.not_true,bE,uS,dT (show -q<0 by omega),bJ];exact Ev.pure _
theorem aEB{xs:List Int}{i:Nat}:(xs++[0]).getD i 0=if i<xs.length then xs.getD i 0 else 0:=by
 simp only[List.getD_eq_getElem?_getD];by_cases h:i<xs.length
 ·rw[if_pos h,List.getElem?_append_left h]
 ·rw[if_neg h,List.getElem?_append_right (by omega)];cases e:i-xs.length with
  |zero=>rfl
  |succ j=>rfl
theorem aK4{xs:List Int}(h:nN xs):nN (xs++[0]):=fun i=>by
 rw[aEB];split
 ·exact h i
 ·omega
theorem aSi{ng:Bool}{xs:List Int}(e:nN xs)(f:xs.length≤8000000000000):Ev (fun K=>kZ K ⟨ng,xs++[0]⟩) false:=by
 refine⟨xs.length+2,fun K h=>?_⟩;have hlen:(xs++[(0:Int)]).length=xs.length+1:=by simp
 have hc:iJ K (xs++[0]) lM=some false:=by
  unfold iJ oR;have:=aGN (aK4 e) (by omega) K (xs.length+1) 0 (by omega) K (by omega);rw[show((0:Nat):Int)=0 from rfl]at this;rw[this];rfl
 show kZ K ⟨ng,xs++[0]⟩=some false;unfold kZ;simp only[hc,oB,bE,hlen];rw[qF (show¬((xs.length+1:Nat):Int)=0 by omega),bE,dT (by omega),bJ,show((xs.length+1:Nat):Int)-1=((xs.length:Nat):Int) by omega,aEl (by omega) (by omega),oB,cW (by omega),oB,aEB,if_neg (by omega)];rfl
theorem aOI{g:aD}(e:nN g.d)(f:g.d.length≤9000000000000)(K:Nat):∀(m i:Nat),i+m=g.d.length→∀k,m<k→eK K g k i=some (.go ())
 |0,i,h,k+1,_=>by
  simp only[eK];rw[dF (by omega),bE]
 |m+1,i,h,k+1,j=>by
  have q:=e i;simp only[eK];rw[dT (by omega),bJ,cW (by omega),oB,dF (by omega),bE,oB,dF (by omega),bE,show((i:Nat):Int)+1=((i+1:Nat):Int) by omega,aEl (by omega) (by omega),oB];exact aOI e f K m (i+1) (by omega) k (by omega)
theorem aQe{ng:Bool}{xs:List Int}(e:nN xs)(f:xs.length≤8000000000000):Ev (fun K=>fP K ⟨ng,xs++[0]⟩) false:=by
 refine⟨xs.length+2,fun K h=>?_⟩;have hlen:(xs++[(0:Int)]).length=xs.length+1:=by simp
 have:=aOI (g:=⟨ng,xs++[0]⟩) (aK4 e) (by show(xs++[(0:Int)]).length≤_;omega) K (xs.length+1) 0 (by show 0+(xs.length+1)=(xs++[(0:Int)]).length;omega) K (by omega);rw[show((0:Nat):Int)=0 from rfl]at this;show fP K ⟨ng,xs++[0]⟩=some false;unfold fP;rw[this];show kR K ⟨ng,xs++[0]⟩=some false;unfold kR;simp only[hlen];rw[qF (show¬((xs.length+1:Nat):Int)=0 by omega),bE,show((xs.length+1:Nat):Int)-1=((xs.length:Nat):Int) by omega,aEl (by omega) (by omega),oB,cW (by omega),oB,aEB,if_neg (by omega)];rfl
theorem aLR{a:Rat}(e:qs a=true):Ev (fun K=>lC K ⟨⟨(Qr a).p.neg,(Qr a).p.d++[0]⟩,(Qr a).q⟩) false:=by
 obtain⟨a1,a2⟩:=wB e;rw[aKX];unfold lC;refine Ev.bind (aSi (cE _) (by show dl _≤_;omega)) ?_;simp only[Bool.not_false,bJ];exact Ev.pure _
theorem aJW{a:Rat}(e:qs a=true):Ev (fun K=>cJ K ⟨⟨(Qr a).p.neg,(Qr a).p.d++[0]⟩,(Qr a).q⟩) false:=by
 obtain⟨a1,a2⟩:=wB e;rw[aKX];unfold cJ;refine Ev.bind (aQe (cE _) (by show dl _≤_;omega)) ?_;simp only[Bool.not_false,bJ];exact Ev.pure _
theorem aP9{a b:Rat}:(⟨(Qr a).p,⟨true,(Qr a).q.d⟩⟩:aF)≠Qr b:=fun h=>by
 have e:=congrArg (fun x:aF=>x.q.neg) h;simp only[aKX b,uS]at e;have f:=(@aHc b).2.1;have:=of_decide_eq_true e.symm;omega
theorem aOq{a b:Rat}:(⟨⟨(Qr a).p.neg,(Qr a).p.d++[0]⟩,(Qr a).q⟩:aF)≠Qr b:=fun h=>by
 have e:=congrArg (fun x:aF=>x.p.d) h;simp only[aKX b,Z_d]at e;have j:dl b.num.natAbs=((Qr a).p.d).length+1:=by
  show(cG b.num.natAbs).length=_;rw[←e];simp
 have f:=aG3 (n:=b.num.natAbs) (by omega);rw[j,←e,aEB,if_neg (by omega)]at f;exact f rfl
theorem aQc{n B:Nat}{T:Nat→Nat→Rat}{b:Nat→Nat}(f:uF n (2*n+2) B T)(hB:1≤B):∀i,i≤n→∀j,Bd B (szv T b n i j)
 |0,_,j=>Bd.zero.mono hB
 |i+1,h,j=>by
  have ih:=aQc (b:=b) f hB i (by omega);unfold szv;split
  ·exact ih j
  ·split
   ·by_cases e:j=b i-n
    ·subst e;rw[aR];exact f i _ (by omega) (by omega)
    ·rw[bN e];exact ih j
   ·exact ih j
theorem aS3{n most B:Nat}{Z:Nat→Nat→Rat}(s:Sm n B Z)(hB:1≤B):∀(f:Nat) (T:Nat→Nat→Rat) (b:Nat→Nat) (r c cnt:Nat),LI n Z T b r c→(lem n most f T b r c cnt).2=0→(lem n most f T b r c cnt).1.z.length=n∧Bds B (lem n most f T b r c cnt).1.z
 |0,T,b,r,c,cnt,h,k=>absurd (show(16:Int)=0 from k) (by decide)
 |f+1,T,b,r,c,cnt,h,k=>by
  unfold lem at k ⊢;by_cases e:cnt=most
  ·rw[if_pos e]at k;exact absurd k (by decide)
  ·rw[if_neg e]at k ⊢;have hcw:=h.hc;by_cases q:b r=2*n
   ·rw[if_pos q];have ti':=h.ti.pivot h.hr (show c<2*n+2 by omega) h.hp;exact⟨aO _ _,w6 fun j _=>aQc (s _ _ ti') hB n (Nat.le_refl _) j⟩
   ·rw[if_neg q]at k ⊢;cases hs:sel (yG T r c) n (if b r<n then b r+n else b r-n) n 0 none with
    |none=>rw[hs]at k;exact absurd (show(15:Int)=0 from k) (by decide)
    |some t=>
     rw[hs]at k;exact aS3 s hB f _ _ _ _ _ (h.next q hs) k
theorem aTU{M:Nat→Nat→Rat}{q:Nat→Rat}{n B most:Nat}(f:Sm n B (z6 M q n))(hB:1≤B)(e:(aCE M q n most).2=0):(aCE M q n most).1.z.length=n∧Bds B (aCE M q n most).1.z:=by
 unfold aCE at e ⊢;by_cases hneg:ng q n 0=true
 ·rw[hneg,bJ]at e ⊢;exact aS3 f hB _ _ _ _ _ _ (aLo (aDt n 0 0 (aGb hneg) (by omega))) e
 ·have hneg':ng q n 0=false:=by cases h:ng q n 0 with|true=>exact absurd h hneg|false=>rfl
  rw[hneg',bE];exact⟨aO _ _,w6 fun j _=>Bd.zero.mono hB⟩
theorem pw4{D k m:Nat}(h:D≤2^k)(e:4*k+56=m):64*(2^50*(D*D*D*D))≤2^m:=by
 have f:=Nat.mul_le_mul (Nat.mul_le_mul (Nat.mul_le_mul h h) h) h;rw[←Nat.pow_add,←Nat.pow_add,←Nat.pow_add]at f;have j:=Nat.mul_le_mul (Nat.le_refl (2^6)) (Nat.mul_le_mul (Nat.le_refl (2^50)) f);rw[←Nat.pow_add,←Nat.pow_add]at j;rw[show m=6+(50+(k+k+k+k)) by omega];exact j
theorem pw8{D k m:Nat}(h:D≤256^k)(e:8*k=m):D≤2^m:=by
 rw[show(256:Nat)=2^8 from rfl,←Nat.pow_mul,e]at h;exact h
theorem pwn{x k m n:Nat}(h:x≤2^k)(e:k*n<m):x^n<2^m:=by
 refine Nat.lt_of_le_of_lt (Nat.pow_le_pow_left h n) ?_;rw[←Nat.pow_mul];exact Nat.pow_lt_pow_right (by decide) e
theorem sizes{D n sz:Nat}(hs:sz=100000)(e:D≤256^149)(f:n≤20):(64*(2^50*(D*D*D*D)))^n<2^sz:=
 pwn (pw4 (pw8 e (m:=1192) (by decide)) (m:=4824) (by decide)) (by omega)
theorem dn_q{p q:Int}{m:Nat}(hp:p.natAbs≤m)(j:1≤q)(s:q≤3):dn 6 1 (6*m) ((p:Rat)/q):=by
 have key:∀k:Int,((q:Rat)⁻¹)*6=(k:Rat)→k.natAbs≤6→dn 6 1 (6*m) ((p:Rat)/q):=fun k h f=>
  ⟨p*k,by
   have e:((6^1:Nat):Rat)=6:=rfl;rw[Rat.div_def,Rat.intCast_mul,←h,e,Rat.mul_assoc],by rw[Int.natAbs_mul,Nat.mul_comm];exact Nat.mul_le_mul f hp⟩
 obtain rfl|rfl|rfl:q=1∨q=2∨q=3:=by omega
 ·exact key 6 (by decide+kernel) (by decide)
 ·exact key 3 (by decide+kernel) (by decide)
 ·exact key 2 (by decide+kernel) (by decide)
theorem aCV{p q:Int}{m:Nat}(hp:p.natAbs≤m)(e:1≤q)(f:q≤3)(hm:m≤100):∃r,qof p q=some r∧dn 6 1 (6*m) r:=by
 obtain⟨r,h,j,_⟩:=aUP (k:=8) (p:=p) (q:=q) (by omega) (by omega) (by omega) (by omega);exact⟨r,h,by rw[j];exact dn_q hp e f⟩
theorem sH{x:Rat}(h:dn 6 2 4000 x):Bd 12 x:=by
 obtain⟨z,k,q⟩:=h;have e:((6^2:Nat):Rat)=36:=rfl;have f:((36:Int):Rat)≠0:=by decide+kernel
 have j:((36:Int):Rat)=36:=rfl;have:x=(z:Rat)/((36:Int):Rat):=by
  rw[←k,e,j,Rat.div_def,Rat.mul_assoc,Rat.mul_inv_cancel _ (by rw[←j];exact f),Rat.mul_one]
 rw[this];exact Bd.of (by omega) (by omega) (by decide)
theorem aJu{m:Nat}{x:Rat}(h:dn 6 1 m x)(hm:m*6≤4000):dn 6 2 4000 x:=h.up.mono hm
theorem aOv{x:Int}(j:0≤x∧x<60):∃r,lR x=some r∧dn 6 1 24 r:=by
 obtain⟨v,v1,v2,v3⟩:=yE (x:=x) (by omega) (m:=60) (by omega);unfold lR;rw[v1,oB];by_cases h:v<24
 ·exact⟨0,by rw[dT h,bJ],dn.zero⟩
 ·have k:=aPf (a:=v) (m:=9) v2 (by omega);have s:=aPf (a:=v/9) (m:=3) (by omega) (by omega);obtain⟨r,e,f⟩:=aCV (p:=v%9-4) (q:=1+v/9%3) (m:=4) (by omega) (by omega) (by omega) (by omega);exact⟨r,by rw[dF h,bE,wK v2 (by omega),oB,t9 (by omega),oB,yJ v2 (by omega) (by omega),oB,wK (by omega) (by omega),oB,t9 (by omega),oB,e,oB],f⟩
def vn(l:List Int)(j:Nat):Rat:=((dJ l (j:Int) 60).bind lR).getD 0
def mvn(l:List Int)(r c:Nat):Rat:=vn l (3+6*r+c)
def vw(l:List Int)(i:Nat):Rat:=((dJ l ((40+i:Nat):Int) 13).bind fun a=>(dJ l ((47+i:Nat):Int) 2).bind fun b=>qof (a-8) (1+b)).getD 0
theorem aPA{l:List Int}(f:zI l)(r c:Nat):∃v,dJ l ((3+6*r+c:Nat):Int) 60=some v∧lR v=some (mvn l r c)∧dn 6 1 24 (mvn l r c):=by
 obtain⟨v,v1,v2,v3⟩:=aHl f ((3+6*r+c:Nat):Int) (m:=60) (by omega);obtain⟨x,x1,h⟩:=aOv ⟨v2,v3⟩;have e:mvn l r c=x:=by unfold mvn vn;rw[v1,oB,x1];rfl
 exact⟨v,v1,by rw[e];exact x1,by rw[e];exact h⟩
theorem aTx{l:List Int}(f:zI l)(i:Nat):∃a b,dJ l ((40+i:Nat):Int) 13=some a∧aW (a-8)=some (a-8)∧dJ l ((47+i:Nat):Int) 2=some b∧aW (1+b)=some (1+b)∧qof (a-8) (1+b)=some (vw l i)∧dn 6 1 48 (vw l i):=by
 obtain⟨a,a1,a2,a3⟩:=aHl f ((40+i:Nat):Int) (m:=13) (by omega);obtain⟨b,h,b2,s⟩:=aHl f ((47+i:Nat):Int) (m:=2) (by omega);obtain⟨r,j,k⟩:=aCV (p:=a-8) (q:=1+b) (m:=8) (by omega) (by omega) (by omega) (by omega);have e:vw l i=r:=by unfold vw;rw[a1,oB,h,oB,j];rfl
 exact⟨a,b,a1,t9 (by omega),h,t9 (by omega),by rw[e];exact j,by rw[e];exact k⟩
theorem aJc{l:List Int}(e:zI l)(r c:Nat):dn 6 1 24 (mvn l r c):=by
 obtain⟨_,_,_,h⟩:=aPA e r c;exact h
theorem aV1{l:List Int}(e:zI l)(i:Nat):dn 6 1 48 (vw l i):=by
 obtain⟨_,_,_,_,_,_,_,h⟩:=aTx e i;exact h
theorem aQK{l:List Int}(e:zI l)(r c:Nat):Bd 12 (mvn l r c):=sH (aJu (aJc e r c) (by omega))
theorem aMh{l:List Int}(f:zI l){n r:Nat}(hr:r≤10)(j:n≤10)(K:Nat):∀(t i k:Nat),i+t=n→t<k→gK K l (n:Int) (r:Int) k (mp (mvn l r) i) (i:Int)=some (mp (mvn l r) n)
 |0,i,k,q,e=>by
  have:i=n:=by omega
  subst this;obtain⟨h,rfl,_⟩:=aT e;simp only[gK,dF (show¬(i:Int)<(i:Int) by omega),bE]
 |t+1,i,k,q,e=>by
  obtain⟨h,rfl,s⟩:=aT e;have u:aW (6*(r:Int))=some ((6*r:Nat):Int):=yI (m:=0) (by omega) (by omega);have x:aW (3+((6*r:Nat):Int))=some ((3+6*r:Nat):Int):=yI (m:=0) (by omega) (by omega);have y:aW (((3+6*r:Nat):Int)+(i:Int))=some ((3+6*r+i:Nat):Int):=yI (m:=0) (by omega) (by omega);obtain⟨v,v1,v2,_⟩:=aPA f r i;simp only[gK,dT (show(i:Int)<(n:Int) by omega),bJ,u,x,y,oB,v1,v2,apM (g:=mvn l r) (i:=i) (by omega),rO (i:=i) (by omega)];exact aMh f hr j K t (i+1) h (by omega) (by omega)
theorem aP1{l:List Int}(e:zI l){n:Nat}(h:n≤10){K:Nat}(j:n<K):∀(t i k:Nat),i+t=n→t<k→fN K l (n:Int) k (mp (vw l) i) (mx (mvn l) i n) (i:Int)=some (mp (vw l) n,mx (mvn l) n n)
 |0,i,k,u,f=>by
  have:i=n:=by omega
  subst this;obtain⟨q,rfl,_⟩:=aT f;simp only[fN,dF (show¬(i:Int)<(i:Int) by omega),bE]
 |t+1,i,k,u,f=>by
  obtain⟨q,rfl,x⟩:=aT f;have s:=aMh e (n:=n) (r:=i) (by omega) h K n 0 K (by omega) j;simp only[Int.natCast_zero,vZ]at s;have y:aW (40+(i:Int))=some ((40+i:Nat):Int):=yI (m:=0) (by omega) (by omega);have z:aW (47+(i:Int))=some ((47+i:Nat):Int):=yI (m:=0) (by omega) (by omega);have F:rQ (mx (mvn l) i n) [mp (mvn l i) n]=some (mx (mvn l) (i+1) n):=apM (g:=fun r=>mp (mvn l r) n) (by omega);obtain⟨a,b,a1,a2,G,b2,c1,_⟩:=aTx e i;simp only[fN,dT (show(i:Int)<(n:Int) by omega),bJ,s,oB,oV,F,y,a1,a2,z,G,b2,c1,apM (g:=vw l) (i:=i) (by omega),rO (i:=i) (by omega)];exact aP1 e h j t (i+1) q (by omega) (by omega)
def gm(l:List Int)(n i k:Nat):Rat:=sm (fun c=>mvn l i c*mvn l k c) n
def gmd(d:Bool)(l:List Int)(n i k:Nat):Rat:=if d=true∧k=i then gm l n i i+1 else gm l n i k
theorem aTc{f:Nat→Rat}{D e M:Nat}:∀n,(∀c,c<n→dn D e M (f c))→dn D e (n*M) (sm f n)
 |0,_=>dn.zero
 |n+1,h=>by
  rw[Nat.succ_mul];exact(aTc n fun c hc=>h c (by omega)).add (h n (by omega))
theorem aMW{l:List Int}(e:zI l){n:Nat}(f:n≤6)(i k:Nat):dn 6 2 3500 (gm l n i k):=
 (aTc (M:=576) n fun c _=>(aJc e i c).mul (aJc e k c)).mono (by omega)
theorem aJv:dn 6 2 36 (1:Rat):=⟨36,by decide+kernel,by decide⟩
theorem aPi{d:Bool}{l:List Int}(e:zI l){n:Nat}(f:n≤6)(i k:Nat):dn 6 2 4000 (gmd d l n i k):=by
 unfold gmd;split
 ·exact((aMW e f i i).add aJv).mono (by omega)
 ·exact(aMW e f i k).mono (by omega)
theorem aOF{l:List Int}(e:zI l){n:Nat}(h:n≤6){K:Nat}(f:n<K)(i k:Nat):lK K (mp (mvn l i) n) (mp (mvn l k) n)=some (gm l n i k):=
 (aLx (fun c _=>aQK e i c) (fun c _=>aQK e k c) (by omega) (by omega) f).2
theorem aNk{l:List Int}(f:zI l){n i:Nat}(h:i<n)(j:n≤6){K:Nat}(q:n<K):∀(t c k:Nat),c+t=n→t<k→gM K (n:Int) (mx (mvn l) n n) (i:Int) k (mp (gm l n i) c) (c:Int)=some (mp (gm l n i) n)
 |0,c,k,hc,e=>by
  have:c=n:=by omega
  subst this;obtain⟨s,rfl,_⟩:=aT e;simp only[gM,dF (show¬(c:Int)<(c:Int) by omega),bE]
 |t+1,c,k,hc,e=>by
  obtain⟨s,rfl,u⟩:=aT e;simp only[gM,dT (show(c:Int)<(n:Int) by omega),bJ,aB6 (g:=mvn l) (w:=n) h,aB6 (g:=mvn l) (w:=n) (show c<n by omega),oB,aOF f j q i c,apM (g:=gm l n i) (i:=c) (by omega),rO (i:=c) (by omega)];exact aNk f h j q t (c+1) s (by omega) (by omega)
theorem aNd{l:List Int}(f:zI l){n i:Nat}(h:i<n)(j:n≤6){K:Nat}(q:n<K):∀(t c k:Nat),c+t=n→t<k→gQ K (n:Int) (mx (mvn l) n n) (i:Int) k (mp (gm l n i) c) (c:Int)=some (mp (gm l n i) n)
 |0,c,k,hc,e=>by
  have:c=n:=by omega
  subst this;obtain⟨s,rfl,_⟩:=aT e;simp only[gQ,dF (show¬(c:Int)<(c:Int) by omega),bE]
 |t+1,c,k,hc,e=>by
  obtain⟨s,rfl,u⟩:=aT e;simp only[gQ,dT (show(c:Int)<(n:Int) by omega),bJ,aB6 (g:=mvn l) (w:=n) h,aB6 (g:=mvn l) (w:=n) (show c<n by omega),oB,aOF f j q i c,apM (g:=gm l n i) (i:=c) (by omega),rO (i:=c) (by omega)];exact aNd f h j q t (c+1) s (by omega) (by omega)
theorem aVu:Bd 12 (1:Rat):=sH (aJv.mono (by omega))
theorem aNh{d:Bool}{l:List Int}{n i:Nat}(k:i<n):(if d=true then mp (k9 (gm l n i) i (gm l n i i+1)) n else mp (gm l n i) n)=mp (gmd d l n i) n:=by
 cases d with
 |true=>
  rw[if_pos rfl];refine cV fun j f=>?_
  unfold gmd;by_cases e:j=i
  ·subst e;rw[aR,if_pos ⟨rfl,rfl⟩]
  ·rw[bN e,if_neg (fun h=>e h.2)]
 |false=>
  rw[if_neg (by decide)];exact cV fun j f=>by unfold gmd;rw[if_neg (fun h=>absurd h.1 (by decide))]
theorem aMz{l:List Int}(j:zI l){n:Nat}{v5:Int}(q:n≤6){K:Nat}(s:n<K):∀(t i k:Nat),i+t=n→t<k→dR K (n:Int) v5 (mx (mvn l) n n) k (mx (gmd (v5==2) l n) i n) (i:Int)=some (mx (gmd (v5==2) l n) n n)
 |0,i,k,F,u=>by
  have:i=n:=by omega
  subst this;obtain⟨x,rfl,_⟩:=aT u;simp only[dR,dF (show¬(i:Int)<(i:Int) by omega),bE]
 |t+1,i,k,F,u=>by
  obtain⟨x,rfl,G⟩:=aT u;have y:=aNk j (n:=n) (i:=i) (by omega) q s n 0 K (by omega) s;simp only[Int.natCast_zero,vZ]at y;have h:rQ (mx (gmd (v5==2) l n) i n) [mp (gmd (v5==2) l n i) n]=some (mx (gmd (v5==2) l n) (i+1) n):=apM (g:=fun r=>mp (gmd (v5==2) l n r) n) (by omega);have e:=aNh (d:=v5==2) (l:=l) (show i<n by omega);have I:Bd 12 (gm l n i i):=sH ((aMW j q i i).mono (by omega));have ih:=aMz j (v5:=v5) q s t (i+1) x (by omega) (by omega);simp only[dR,dT (show(i:Int)<(n:Int) by omega),bJ,y,oB,oK];cases z:(v5==2) with
  |true=>
   rw[z]at h e ih;rw[if_pos rfl]at e;simp only[bJ,cZ (f:=gm l n i) (show i<n by omega),oB,aEI,aBf I aVu (by omega) (by omega),wT (f:=gm l n i) (show i<n by omega),e,h,rO (i:=i) (by omega)];exact ih
  |false=>
   rw[z]at h e ih;rw[if_neg (by decide)]at e;simp only[bE,e,h,oB,rO (i:=i) (by omega)];exact ih
theorem aNt{l:List Int}(j:zI l){n:Nat}{v5:Int}(q:n≤6){K:Nat}(s:n<K):∀(t i k:Nat),i+t=n→t<k→dP K (n:Int) v5 (mx (mvn l) n n) k (mx (gmd (v5==2) l n) i n) (i:Int)=some (mx (gmd (v5==2) l n) n n)
 |0,i,k,F,u=>by
  have:i=n:=by omega
  subst this;obtain⟨x,rfl,_⟩:=aT u;simp only[dP,dF (show¬(i:Int)<(i:Int) by omega),bE]
 |t+1,i,k,F,u=>by
  obtain⟨x,rfl,G⟩:=aT u;have y:=aNd j (n:=n) (i:=i) (by omega) q s n 0 K (by omega) s;simp only[Int.natCast_zero,vZ]at y;have h:rQ (mx (gmd (v5==2) l n) i n) [mp (gmd (v5==2) l n i) n]=some (mx (gmd (v5==2) l n) (i+1) n):=apM (g:=fun r=>mp (gmd (v5==2) l n r) n) (by omega);have e:=aNh (d:=v5==2) (l:=l) (show i<n by omega);have I:Bd 12 (gm l n i i):=sH ((aMW j q i i).mono (by omega));have ih:=aNt j (v5:=v5) q s t (i+1) x (by omega) (by omega);simp only[dP,dT (show(i:Int)<(n:Int) by omega),bJ,y,oB,o9];cases z:(v5==2) with
  |true=>
   rw[z]at h e ih;rw[if_pos rfl]at e;simp only[bJ,cZ (f:=gm l n i) (show i<n by omega),oB,aEI,aBf I aVu (by omega) (by omega),wT (f:=gm l n i) (show i<n by omega),e,h,rO (i:=i) (by omega)];exact ih
  |false=>
   rw[z]at h e ih;rw[if_neg (by decide)]at e;simp only[bE,e,h,oB,rO (i:=i) (by omega)];exact ih
theorem aVy{α:Type}{f:Nat→α}{n m:Nat}(h:m≤n):slL (mp f n) 0 (m:Int)=some (mp f m):=by
 unfold slL;rw[if_pos ⟨by omega,by omega,by rw[aO];omega⟩];congr 1;apply List.ext_getElem?;intro j;have k:(0:Int).toNat=0:=rfl;rw[k,List.drop_zero,List.getElem?_take,Int.toNat_natCast,Nat.sub_zero];by_cases e:j<m
 ·rw[if_pos e,w8 (by omega),w8 e]
 ·rw[if_neg e,List.getElem?_eq_none (by rw[aO];omega)]
def PB6(n:Nat)(M:Nat→Nat→Rat)(q:Nat→Rat):Prop:=(∀i c,i<n→c<n→dn 6 2 4000 (M i c))∧∀i,i<n→dn 6 2 4000 (q i)
theorem aL9{l:List Int}(hl:zI l){most:Nat}(hm:most≤6)(hm1:4≤most):∃(n:Nat) (M:Nat→Nat→Rat) (q:Nat→Rat),n≤most∧PB6 n M q∧∀K,100≤K→nA K l (most:Int)=some (mx M n n,mp q n):=by
 obtain⟨v,v1,v2,v3⟩:=aHl hl 0 (m:=((most+1:Nat):Int)) (by omega);obtain⟨w,w1,w2,w3⟩:=aHl hl 1 (m:=5) (by omega);obtain⟨n,rfl⟩:∃n:Nat,v=n:=⟨v.toNat,by omega⟩;have e0:aW ((most:Int)+1)=some ((most+1:Nat):Int):=rO (by omega);have hq:∀i,dn 6 2 4000 (vw l i):=fun i=>aJu (aV1 hl i) (by omega)
 have hM:∀i c,dn 6 2 4000 (mvn l i c):=fun i c=>aJu (aJc hl i c) (by omega)
 have hF:∀K,100≤K→nA K l (most:Int)=eD K l (n:Int) w (mp (vw l) n) (mx (mvn l) n n):=fun K hK=>by
  have h1:=aP1 hl (n:=n) (by omega) (K:=K) (by omega) n 0 K (by omega) (by omega);have z:mx (mvn l) 0 n=[]:=rfl;simp only[Int.natCast_zero,vZ,z]at h1;simp only[nA,e0,oB,v1,w1,h1]
 have hG:∀K,100≤K→dR K (n:Int) w (mx (mvn l) n n) K [] 0=some (mx (gmd (w==2) l n) n n):=fun K hK=>by
  have h1:=aMz hl (n:=n) (v5:=w) (by omega) (K:=K) (by omega) n 0 K (by omega) (by omega);have z:mx (gmd (w==2) l n) 0 n=[]:=rfl;simpa only[Int.natCast_zero,z] using h1
 have hG':∀K,100≤K→dP K (n:Int) w (mx (mvn l) n n) K [] 0=some (mx (gmd (w==2) l n) n n):=fun K hK=>by
  have h1:=aNt hl (n:=n) (v5:=w) (by omega) (K:=K) (by omega) n 0 K (by omega) (by omega);have z:mx (gmd (w==2) l n) 0 n=[]:=rfl;simpa only[Int.natCast_zero,z] using h1
 by_cases c0:w=0
 ·exact⟨n,mvn l,vw l,by omega,⟨fun i c _ _=>hM i c,fun i _=>hq i⟩,fun K hK=>by rw[hF K hK];unfold eD;rw[qT c0,bJ]⟩
 by_cases c1:n=0
 ·exact⟨n,mvn l,vw l,by omega,⟨fun i c _ _=>hM i c,fun i _=>hq i⟩,fun K hK=>by rw[hF K hK];unfold eD;rw[qF c0,bE,qT (show(n:Int)=0 by omega),bJ]⟩
 by_cases c4:w=4
 ·by_cases cn:4≤n
  ·obtain⟨m1,a1,a2,a3⟩:=aHl hl 2 (m:=4) (by omega);obtain⟨m2,b1,b2,b3⟩:=aHl hl 3 (m:=5) (by omega);obtain⟨mu,p1,p2⟩:=aCV (p:=m1) (q:=2) (m:=3) (by omega) (by omega) (by omega) (by omega);obtain⟨c,r1,r2⟩:=aCV (p:=m2-2) (q:=2) (m:=2) (by omega) (by omega) (by omega) (by omega);obtain⟨two,s1,s2⟩:=aCV (p:=2) (q:=1) (m:=2) (by omega) (by omega) (by omega) (by omega);obtain⟨mi,t1,t2⟩:=aCV (p:=-1) (q:=1) (m:=1) (by omega) (by omega) (by omega) (by omega);have d2:=aJu p2 (by omega);have d3:=aJu r2 (by omega);have d4:=aJu s2 (by omega);have d5:=aJu t2 (by omega);have d6:dn 6 2 4000 (1:Rat):=aJv.mono (by omega);have n1:=yW (sH d3) (by omega);have n2:=yW (sH d4) (by omega);have sl:slL (mp (vw l) n) 0 3=some (mp (vw l) 3):=aVy (m:=3) (by omega);have ap1:rQ ([]:List Rat) (mp (vw l) 3)=some (mp (vw l) 3):=xV (by rw[aO];simp);have ap2:rQ (mp (vw l) 3) [(0:Rat)]=some (mp (k9 (vw l) 3 0) 4):=by
    rw[apS (by rw[aO];omega),aAs (k9 (vw l) 3 0) 3,aR,cV (f:=vw l) (g:=k9 (vw l) 3 0) fun j hj=>(bN (by omega)).symm]
   refine⟨4,fun i j=>at' (([[two,c,-c,0],[c,two,-two,1],[-c,-two,two,1],[mu,mi,mi,0]]:List (List Rat)).getD i []) j,k9 (vw l) 3 0,by omega,⟨fun i j hi hj=>?_,fun i hi=>?_⟩,fun K hK=>?_⟩
   ·obtain rfl|rfl|rfl|rfl:i=0∨i=1∨i=2∨i=3:=by omega
    all_goals
     obtain rfl|rfl|rfl|rfl:j=0∨j=1∨j=2∨j=3:=by omega
     all_goals first|exact d2|exact d3|exact d4|exact d5|exact d6|exact d3.neg|exact d4.neg|exact dn.zero
   ·by_cases e:i=3
    ·subst e;rw[aR];exact dn.zero
    ·rw[bN e];exact hq i
   ·rw[hF K hK];unfold eD;rw[qF c0,bE,qF (show¬(n:Int)=0 by omega),bE,qT c4,bJ,dT (show(4:Int)≤(n:Int) by omega),bJ];simp only[aEI,oB,a1,p1,b1,t9 (show -9223372036854775808≤m2-2∧m2-2≤9223372036854775807 by omega),r1,s1,t1,n1,n2,sl,ap1,ap2];rfl
  ·refine⟨n,gmd (w==2) l n,vw l,by omega,⟨fun i c _ _=>aPi hl (by omega) i c,fun i _=>hq i⟩,fun K hK=>?_⟩;rw[hF K hK];unfold eD;rw[qF c0,bE,qF (show¬(n:Int)=0 by omega),bE,qT c4,bJ,dF (show¬(4:Int)≤(n:Int) by omega),bE,hG' K hK,oB,oE]
 ·refine⟨n,gmd (w==2) l n,vw l,by omega,⟨fun i c _ _=>aPi hl (by omega) i c,fun i _=>hq i⟩,fun K hK=>?_⟩;rw[hF K hK];unfold eD;rw[qF c0,bE,qF (show¬(n:Int)=0 by omega),bE,qF c4,bE,hG K hK,oB,o6]
theorem aNp{n:Nat}{M:Nat→Nat→Rat}{q:Nat→Rat}(h:PB6 n M q)(j:n≤6):Sm n 200 (z6 M q n):=fun T b s=>by
 have e:((6^2:Nat):Rat)=36:=rfl;refine(s.bd (D:=36) (M:=4000) (k:=200) (by decide+kernel) (fun i c f hc=>?_) (by omega) ?_)
 ·have one:yY 4000 ((1:Rat)*36):=⟨36,by decide+kernel,by decide⟩;have neg:yY 4000 ((-1:Rat)*36):=⟨-36,by decide+kernel,by decide⟩;unfold z6;split
  ·split
   ·exact one
   ·exact⟨0,by decide+kernel,by decide⟩
  ·split
   ·rw[←e];exact(h.1 i (c-n) f (by omega)).neg
   ·split
    ·exact neg
    ·rw[←e];exact h.2 i f
 ·exact Nat.lt_of_le_of_lt (Nat.pow_le_pow_right (by decide) j) (by decide)
theorem aLc{n most:Nat}:∀(f:Nat) (T:Nat→Nat→Rat) (b:Nat→Nat) (r c cnt:Nat),(lem n most f T b r c cnt).2≠0→(lem n most f T b r c cnt).1=⟨[],[],0⟩∧((lem n most f T b r c cnt).2=15∨(lem n most f T b r c cnt).2=16)
 |0,T,b,r,c,cnt,h=>⟨rfl,Or.inr rfl⟩
 |f+1,T,b,r,c,cnt,h=>by
  unfold lem at h ⊢;split at h
  ·rename_i e;rw[if_pos e];exact⟨rfl,Or.inr rfl⟩
  ·rename_i e;rw[if_neg e];split at h
   ·exact absurd rfl h
   ·rename_i j;rw[if_neg j];split at h
    ·exact⟨rfl,Or.inl rfl⟩
    ·exact aLc f _ _ _ _ _ h
theorem aNQ{n most:Nat}{M:Nat→Nat→Rat}{q:Nat→Rat}(h:(aCE M q n most).2≠0):(aCE M q n most).1=⟨[],[],0⟩∧((aCE M q n most).2=15∨(aCE M q n most).2=16):=by
 unfold aCE at h ⊢;cases hneg:ng q n 0
 ·rw[hneg,bE]at h;exact absurd rfl h
 ·rw[hneg,bJ]at h;rw[bJ];exact aLc _ _ _ _ _ _ h
set_option maxRecDepth 100000 in
theorem aSm(K:Nat):fR (K+60)=some true:=by kernel_rfl
theorem aD7{K:Nat}(e:60≤K):fR K=some true:=by
 obtain⟨k,rfl⟩:=Nat.exists_eq_add_of_le e;rw[Nat.add_comm];exact aSm k
def btc(c i:Nat):Bool:=ian ((c:Int).fdiv (2^(min (i:Int).toNat 64))) 1==1
theorem aOL{c n:Nat}{x:List Bool}(h:x.length=n)(y:n≤1000)(K:Nat):∀(t i k:Nat) (f:Nat→Bool),i+t=n→t<k→(∀j,j<i→f j=btc c j)→eS K (c:Int) x k (mp f n) (i:Int)=some (mp (btc c) n)
 |0,i,k,f,z,q,s=>by
  obtain⟨u,rfl,_⟩:=aT q;simp only[eS,h,dF (show¬(i:Int)<(n:Int) by omega),bE];rw[cV fun j F=>s j (by omega)]
 |t+1,i,k,f,z,q,s=>by
  obtain⟨u,rfl,_⟩:=aT q;have G:aQl (c:Int) (i:Int)=some ((c:Int).fdiv (2^(min (i:Int).toNat 64))):=if_neg (by omega);simp only[eS,h,dT (show(i:Int)<(n:Int) by omega),bJ,G,oB,cZ (f:=f) (show i<n by omega),wT (f:=f) (show i<n by omega),rO (i:=i) (by omega)];exact aOL h y K t (i+1) u _ (by omega) (by omega) (fun j F=>by
   by_cases e:j=i
   ·rw[e,aR];rfl
   ·rw[bN e];exact s j (by omega))
theorem aO1{n N:Nat}(u:n≤8)(x:N≤1000){yF:List Bool→List (List Rat)→Option (Nat×List (List Rat))}{out:Nat→List (List Rat)}(f:∀c,c<N→yF (mp (btc c) n) (out c)=some (0,out (c+1))){K:Nat}(h:n<K):∀(t c k:Nat),c+t=N→t<k→dO K (n:Int) yF (N:Int) k (out c) (c:Int)=some (.go (out N))
 |0,c,k,hc,e=>by
  have:c=N:=by omega
  subst this;obtain⟨q,rfl,_⟩:=aT e;simp only[dO,dF (show¬(c:Int)<(c:Int) by omega),bE]
 |t+1,c,k,hc,e=>by
  obtain⟨q,rfl,_⟩:=aT e;have s:=aOL (c:=c) (aO (fun _=>false) n) (show n≤1000 by omega) K n 0 K (fun _=>false) (by omega) h (fun j y=>absurd y (by omega));simp only[Int.natCast_zero]at s;have F:Nat.beq 0 0=true:=rfl;simp only[dO,dT (show(c:Int)<(N:Int) by omega),bJ,aDD (n:=n) (z:=false) (by omega),oB,s,mY,f c (by omega),F,rO (i:=c) (by omega)];exact aO1 u x f h t (c+1) q (by omega) (by omega)
def atl(b:Nat→Bool):Nat→List Nat
 |0=>[]
 |i+1=>bif b i then atl b i++[i] else atl b i
theorem aLp{b:Nat→Bool}:∀n,∀j∈atl b n,j<n
 |0,j,h=>absurd h List.not_mem_nil
 |n+1,j,h=>by
  unfold atl at h;cases hb:b n with
  |true=>
   rw[hb,bJ]at h;rcases List.mem_append.1 h with h|h
   ·have:=aLp n j h;omega
   ·rw[List.mem_singleton.1 h];omega
  |false=>rw[hb,bE]at h;have:=aLp n j h;omega
theorem aIG{b:Nat→Bool}:∀n,(atl b n).length≤n
 |0=>Nat.le_refl _
 |n+1=>by
  unfold atl;have:=aIG (b:=b) n;cases b n with
  |true=>rw[bJ,List.length_append];simp;exact this
  |false=>rw[bE];omega
theorem aTZ{b:Nat→Bool}{n i:Nat}(h:i<(atl b n).length):pat (atl b n) i<n:=aLp n _ (aMu h)
theorem aNO{b:Nat→Bool}{n:Nat}(q:n≤1000)(K:Nat):∀(t i k:Nat),i+t=n→t<k→eR K (mp b n) k (zG (atl b i)) (i:Int)=some (zG (atl b n))
 |0,i,k,s,h=>by
  have:i=n:=by omega
  subst this;obtain⟨j,rfl,_⟩:=aT h;simp only[eR,aO,dF (show¬(i:Int)<(i:Int) by omega),bE]
 |t+1,i,k,s,h=>by
  obtain⟨j,rfl,_⟩:=aT h;have ih:=aNO (b:=b) q K t (i+1) j (by omega) (by omega);have u:=aIG (b:=b) i;simp only[eR,aO,dT (show(i:Int)<(n:Int) by omega),bJ,cZ (f:=b) (show i<n by omega),oB];cases hb:b i with
  |true=>
   have e:atl b (i+1)=atl b i++[i]:=by show(bif b i then _ else _)=_;rw[hb,bJ]
   rw[e]at ih;simp only[bJ,apI (l:=atl b i) (k:=i) (by omega),oB,rO (i:=i) (by omega)];exact ih
  |false=>
   have e:atl b (i+1)=atl b i:=by show(bif b i then _ else _)=_;rw[hb,bE]
   rw[e]at ih;simp only[bE,rO (i:=i) (by omega),oB];exact ih
def sbm(M:Nat→Nat→Rat)(at0:List Nat)(i k:Nat):Rat:=M (pat at0 i) (pat at0 k)
def sbq(q:Nat→Rat)(at0:List Nat)(i:Nat):Rat:=-(q (pat at0 i))
theorem aKT{M:Nat→Nat→Rat}{n i:Nat}{at0:List Nat}(x:n≤1000)(hm:at0.length≤1000)(h:∀j,j<at0.length→pat at0 j<n)(s:i<at0.length)(K:Nat):∀(t c k:Nat),c+t=at0.length→t<k→fX K (mx M n n) (zG at0) ((pat at0 i:Nat):Int) k (mp (sbm M at0 i) c) (c:Int)=some (mp (sbm M at0 i) at0.length)
 |0,c,k,hc,q=>by
  have:c=at0.length:=by omega
  subst this;obtain⟨u,rfl,_⟩:=aT q;simp only[fX,p6,dF (show¬(at0.length:Int)<(at0.length:Int) by omega),bE]
 |t+1,c,k,hc,q=>by
  obtain⟨u,rfl,_⟩:=aT q;simp only[fX,p6,dT (show(c:Int)<(at0.length:Int) by omega),bJ,rdI (ps:=at0) (show c<at0.length by omega),oB,aB6 (g:=M) (w:=n) (h i s),cZ (f:=M (pat at0 i)) (h c (by omega))];have e:rQ (mp (sbm M at0 i) c) [M (pat at0 i) (pat at0 c)]=some (mp (sbm M at0 i) (c+1)):=apM (g:=sbm M at0 i) (by omega);simp only[e,oB,rO (i:=c) (by omega)];exact aKT x hm h s K t (c+1) u (by omega) (by omega)
theorem aMI{M:Nat→Nat→Rat}{q:Nat→Rat}{n B:Nat}{at0:List Nat}(s:n≤1000)(hm:at0.length≤1000)(e:∀j,j<at0.length→pat at0 j<n)(hq:∀i,i<n→Bd B (q i))(hB:B≤1073741824){K:Nat}(u:at0.length<K):∀(t i k:Nat),i+t=at0.length→t<k→eV K (mx M n n) (mp q n) (zG at0) k (mp (sbq q at0) i) (mx (sbm M at0) i at0.length) (i:Int)=some (mp (sbq q at0) at0.length,mx (sbm M at0) at0.length at0.length)
 |0,i,k,z,h=>by
  have:i=at0.length:=by omega
  subst this;obtain⟨x,rfl,_⟩:=aT h;simp only[eV,p6,dF (show¬(at0.length:Int)<(at0.length:Int) by omega),bE]
 |t+1,i,k,z,h=>by
  obtain⟨x,rfl,_⟩:=aT h;have y:=aKT (M:=M) s hm e (show i<at0.length by omega) K at0.length 0 K (by omega) u;simp only[Int.natCast_zero,vZ]at y;have F:rQ (mx (sbm M at0) i at0.length) [mp (sbm M at0 i) at0.length]=some (mx (sbm M at0) (i+1) at0.length):=apM (g:=fun r=>mp (sbm M at0 r) at0.length) (by omega);have G:rQ (mp (sbq q at0) i) [-(q (pat at0 i))]=some (mp (sbq q at0) (i+1)):=apM (g:=sbq q at0) (by omega);have hp:=e i (by omega);simp only[eV,p6,dT (show(i:Int)<(at0.length:Int) by omega),bJ,rdI (ps:=at0) (show i<at0.length by omega),oB,y,n9,F,cZ (f:=q) hp,yW (hq _ hp) hB,G,rO (i:=i) (by omega)];exact aMI s hm e hq hB u t (i+1) x (by omega) (by omega)
def plc(at0:List Nat)(x:List Rat):Nat→Nat→Rat
 |0=>fun _=>0
 |i+1=>k9 (plc at0 x i) (pat at0 i) (at' x i)
theorem aQw{at0:List Nat}{x:List Rat}{B:Nat}(e:Bds B x)(hB:1≤B):∀m,m≤x.length→∀j,Bd B (plc at0 x m j)
 |0,_,j=>Bd.zero.mono hB
 |m+1,hm,j=>by
  unfold plc k9;split
  ·exact e _ (aD1 (by omega))
  ·exact aQw e hB m (by omega) j
theorem aKS{n:Nat}{at0:List Nat}{x:List Rat}{e:Int}(hm:at0.length≤1000)(q:∀j,j<at0.length→pat at0 j<n)(u:x.length=at0.length)(K:Nat):∀(t i k:Nat),i+t=at0.length→t<k→fW K (zG at0) (x,e) k (mp (plc at0 x i) n) (i:Int)=some (mp (plc at0 x at0.length) n)
 |0,i,k,y,h=>by
  have:i=at0.length:=by omega
  subst this;obtain⟨s,rfl,_⟩:=aT h;simp only[fW,p6,dF (show¬(at0.length:Int)<(at0.length:Int) by omega),bE]
 |t+1,i,k,y,h=>by
  obtain⟨s,rfl,_⟩:=aT h;have hp:=q i (by omega);simp only[fW,p6,dT (show(i:Int)<(at0.length:Int) by omega),bJ,rdI (ps:=at0) (show i<at0.length by omega),oB,aOB (l:=x) (i:=i) (by omega),cZ (f:=plc at0 x i) hp,wT (f:=plc at0 x i) hp,rO (i:=i) (by omega)];exact aKS hm q u K t (i+1) s (by omega) (by omega)
def cnd(M:Nat→Nat→Rat)(q:Nat→Rat)(at0:List Nat):Option (Nat→Rat):=
 if at0.length=0 then some (fun _=>0)
 else if aON (sbm M at0) at0.length at0.length=at0.length then(match aFD (sbm M at0) (sbq q at0) at0.length at0.length with
  |none=>none
  |some x=>some (plc at0 x at0.length))
 else none
theorem aLq{M:Nat→Nat→Rat}{q:Nat→Rat}{n B:Nat}{b:Nat→Bool}(hM:uF n n B M)(hq:∀i,i<n→Bd B (q i))(hn:n≤6)(y:2≤B)(hB:B≤5000){K:Nat}(hK:100≤K):
  oJ K (mx M n n) (mp q n) (mp b n)=some (match cnd M q (atl b n) with|none=>([],false)|some z=>(mp z n,true))∧∀z,cnd M q (atl b n)=some z→∀j,Bd (5^6*B) (z j):=by
 have hl:=aIG (b:=b) n;have k:∀j,j<(atl b n).length→pat (atl b n) j<n:=fun j O=>aTZ O
 have s:=aNO (b:=b) (show n≤1000 by omega) K n 0 K (by omega) (by omega);have F:zG (atl b 0)=[]:=rfl;rw[F,Int.natCast_zero]at s;generalize hat:atl b n=at0 at *;have t:=aMI (M:=M) (q:=q) (show n≤1000 by omega) (show at0.length≤1000 by omega) k hq (by omega) (show at0.length<K by omega) at0.length 0 K (by omega) (by omega);have z1:mx (sbm M at0) 0 at0.length=[]:=rfl;rw[z1,vZ,Int.natCast_zero]at t;simp only[oJ,s,oB,oZ,t,oP,aDD (n:=n) (z:=(0:Rat)) (by omega),p6,aO];unfold cnd;by_cases L:at0.length=0
 ·rw[if_pos L];simp only[qT (show(at0.length:Int)=0 by omega),bJ];exact⟨trivial,fun z h j=>by cases h;exact Bd.zero.mono (by have:0<5^6*B:=Nat.mul_pos (by decide) (by omega);omega)⟩
 rw[if_neg L];have G:uF at0.length at0.length B (sbm M at0):=fun i c I hc=>hM _ _ (k i I) (k c hc)
 have u:∀i,i<at0.length→Bd B (sbq q at0 i):=fun i I=>(hq _ (k i I)).neg
 have J:5^at0.length*B≤5^6*B:=Nat.mul_le_mul_right B (Nat.pow_le_pow_right (by decide) (by omega));have hc:Cok at0.length at0.length:=aPB _;have U:=aRs G hc y (by omega) (show at0.length≤64 by omega) (show at0.length≤64 by omega) (show at0.length+at0.length<K by omega);have V:=aOj G u hc y (by omega) (show at0.length≤64 by omega) (show at0.length≤63 by omega) (show at0.length+1+at0.length<K by omega);simp only[qF (show¬(at0.length:Int)=0 by omega),bE,U,oB,nF (rfl:(0:Int)=0)];by_cases hr:aON (sbm M at0) at0.length at0.length=at0.length
 ·rw[if_pos hr];simp only[hr,nF (rfl:(at0.length:Int)=(at0.length:Int)),bE,V,oB];cases X:aFD (sbm M at0) (sbq q at0) at0.length at0.length with
  |none=>simp only[nT (show(6:Int)≠0 by decide),bJ];exact⟨trivial,fun z h=>by cases h⟩
  |some x=>
   obtain⟨x1,Y⟩:=aNS G u y X;have f:=aKS (e:=0) (show at0.length≤1000 by omega) k x1 K at0.length 0 K (by omega) (by omega);have z3:mp (plc at0 x 0) n=mp (fun _=>(0:Rat)) n:=rfl;rw[z3,Int.natCast_zero]at f;simp only[nF (rfl:(0:Int)=0),bE,f,oB,oC];refine⟨trivial,fun z h j=>?_⟩;cases h;exact(aQw Y (by have:0<5^at0.length*B:=Nat.mul_pos (Nat.pow_pos (by decide)) (by omega);omega) _ (by omega) j).mono J
 ·rw[if_neg hr];simp only[nT (show((aON (sbm M at0) at0.length at0.length:Nat):Int)≠(at0.length:Int) by omega),bJ];exact⟨trivial,fun z h=>by cases h⟩
def wvl(M:Nat→Nat→Rat)(q z:Nat→Rat)(n i:Nat):Rat:=sm (fun c=>M i c*z c) n+q i
def aHd(z w:Nat→Rat):Nat→Nat→Bool
 |0,_=>true
 |t+1,i=>bif decide (0<(z i).num.sign) then(bif((w i).num.sign != 0) then false else aHd z w t (i+1)) else aHd z w t (i+1)
def ckb(M:Nat→Nat→Rat)(q z:Nat→Rat)(n:Nat):Bool:=bif ng z n 0 then false else(bif aHd z (wvl M q z n) n 0 then !(ng (wvl M q z n) n 0) else false)
theorem aNK{M:Nat→Nat→Rat}{q z:Nat→Rat}{n B B':Nat}(hM:uF n n B M)(hq:∀i,i<n→Bd B (q i))(h:∀i,i<n→Bd B' (z i))(x:n≤8)(hB:8*(B+B'+1)≤1000000000){K:Nat}(F:100≤K):∀(t i k:Nat) (f:Nat→Rat),i+t=n→t<k→(∀j,j<i→f j=wvl M q z n j)→kC K (mx M n n) (mp q n) (mp z n) k (mp f n) (i:Int)=some (mp (wvl M q z n) n)
 |0,i,k,f,G,s,u=>by
  obtain⟨y,rfl,_⟩:=aT s;simp only[kC,oD,dF (show¬(i:Int)<(n:Int) by omega),bE];rw[cV fun j I=>u j (by omega)]
 |t+1,i,k,f,G,s,u=>by
  obtain⟨y,rfl,_⟩:=aT s;have hnB:n*(B+B'+1)≤1000000000:=Nat.le_trans (Nat.mul_le_mul_right _ x) hB;have d:=aHv (f:=M i) (e:=z) (w:=n) (fun c hc=>hM i c (by omega) hc) h hnB (by omega) (show n<K by omega);have db:=aDO (f:=M i) (e:=z) (w:=n) (fun c hc=>hM i c (by omega) hc) h n (Nat.le_refl n);simp only[kC,oD,dT (show(i:Int)<(n:Int) by omega),bJ,aB6 (g:=M) (w:=n) (show i<n by omega),oB,d,cZ (f:=q) (show i<n by omega),aBf db (hq i (by omega)) (by omega) (by omega),cZ (f:=f) (show i<n by omega),wT (f:=f) (show i<n by omega),rO (i:=i) (by omega)];exact aNK hM hq h x hB F t (i+1) y _ (by omega) (by omega) (fun j I=>by
   by_cases e:j=i
   ·rw[e,aR];rfl
   ·rw[bN e];exact u j (by omega))
theorem aM0{z w:Nat→Rat}{n B B':Nat}(j:∀i,i<n→Bd B (z i))(hw:∀i,i<n→Bd B' (w i))(hB:B≤1073741824)(e:B'≤1073741824)(s:n≤1000)(K:Nat):∀(t i k:Nat),i+t=n→t<k→jB K (mp z n) (mp w n) k (i:Int)=some (bif aHd z w t i then .go () else .ret false)
 |0,i,k,u,h=>by
  obtain⟨q,rfl,_⟩:=aT h;simp only[jB,aO,dF (show¬(i:Int)<(n:Int) by omega),bE,aHd,bJ]
 |t+1,i,k,u,h=>by
  obtain⟨q,rfl,_⟩:=aT h;have ih:=aM0 j hw hB e s K t (i+1) q (by omega) (by omega);simp only[jB,aO,dT (show(i:Int)<(n:Int) by omega),bJ,cZ (f:=z) (show i<n by omega),cZ (f:=w) (show i<n by omega),oB,mZ (j i (by omega)) hB,mZ (hw i (by omega)) e,rO (i:=i) (by omega),aHd];cases decide (0<(z i).num.sign) with
  |true=>
   simp only[bJ];cases((w i).num.sign != 0) with
   |true=>simp only[bJ,bE]
   |false=>simp only[bE];exact ih
  |false=>simp only[bE];exact ih
theorem aLT{M:Nat→Nat→Rat}{q z:Nat→Rat}{n B B':Nat}(hM:uF n n B M)(hq:∀i,i<n→Bd B (q i))(h:∀i,i<n→Bd B' (z i))(t:n≤8)(hB:8*(B+B'+1)≤100000000){K:Nat}(u:100≤K):p8 K (mx M n n) (mp q n) (mp z n)=some (ckb M q z n):=by
 have v:=zK hM hq (by omega) (by omega) u;have g:=aBV (w6 h) (by omega) (show(mp z n).length≤1000 by rw[aO];omega) (show(mp z n).length<K by rw[aO];omega);have ngz:=(aCO h (by omega) (show n≤1000 by omega) (show n<K by omega)).1;have hw:∀i,i<n→Bd (200000000+B) (wvl M q z n i):=fun i x=>by
  have hnB:n*(B+B'+1)≤100000000:=Nat.le_trans (Nat.mul_le_mul_right _ t) hB;have db:=aDO (f:=M i) (e:=z) (w:=n) (fun c hc=>hM i c (by omega) hc) h n (Nat.le_refl n);exact(db.add (hq i x)).mono (by omega)
 have ngw:=(aCO hw (by omega) (show n≤1000 by omega) (show n<K by omega)).1;have k:=aNK hM hq h t (by omega) u n 0 K (fun _=>0) (by omega) (by omega) (fun j y=>absurd y (by omega));have s:=aM0 h hw (by omega) (by omega) (show n≤1000 by omega) K n 0 K (by omega) (by omega);simp only[Int.natCast_zero]at k s;simp only[p8,v,oB,Bool.not_true,bE,aO,nF (rfl:(n:Int)=(n:Int)),g,ngz,ckb];cases ng z n 0 with
 |true=>simp only[bJ]
 |false=>
  simp only[bE,uL,aO,aDD (n:=n) (z:=(0:Rat)) (by omega),oB,k,qZ,s];cases aHd z (wvl M q z n) n 0 with
  |true=>simp only[bJ,r5,ngw,oB]
  |false=>simp only[bE]
theorem aNz{x z:List Rat}{B:Nat}(h:Bds B x)(j:Bds B z)(hB:B≤1073741824)(s:x.length=z.length)(u:x.length≤1000)(K:Nat):∀(t i k:Nat),i+t=x.length→t<k→l9 K x z k (i:Int)=some (if x.drop i=z.drop i then .go () else .ret false)
 |0,i,k,y,f=>by
  obtain⟨q,rfl,_⟩:=aT f;simp only[l9,dF (show¬(i:Int)<(x.length:Int) by omega),bE];rw[List.drop_eq_nil_of_le (by omega),List.drop_eq_nil_of_le (by omega),if_pos rfl]
 |t+1,i,k,y,f=>by
  obtain⟨q,rfl,_⟩:=aT f;have ih:=aNz h j hB s u K t (i+1) q (by omega) (by omega);have F:=h _ (aD1 (l:=x) (i:=i) (by omega));have b2:=j _ (aD1 (l:=z) (i:=i) (by omega));have d1:x.drop i=at' x i::x.drop (i+1):=by unfold at';rw[List.drop_eq_getElem_cons (by omega),List.getD_eq_getElem?_getD,List.getElem?_eq_getElem (by omega)];rfl
  have d2:z.drop i=at' z i::z.drop (i+1):=by unfold at';rw[List.drop_eq_getElem_cons (by omega),List.getD_eq_getElem?_getD,List.getElem?_eq_getElem (by omega)];rfl
  simp only[l9,dT (show(i:Int)<(x.length:Int) by omega),bJ,aOB (l:=x) (i:=i) (by omega),aOB (l:=z) (i:=i) (by omega),oB,aPE F b2 hB hB,rO (i:=i) (by omega)];rw[d1,d2];by_cases e:at' x i=at' z i
  ·simp only[e,decide_true,Bool.not_true,bE,ih,List.cons.injEq,true_and]
  ·simp only[e,decide_false,Bool.not_false,bJ,List.cons.injEq,false_and,if_false]
theorem aRg{x z:List Rat}{B:Nat}(f:Bds B x)(j:Bds B z)(hB:B≤1073741824)(k:x.length=z.length)(q:x.length≤1000){K:Nat}(s:x.length<K):tY K x z=some (decide (x=z)):=by
 have h:=aNz f j hB k q K x.length 0 K (by omega) s;simp only[Int.natCast_zero,List.drop_zero]at h;simp only[tY,h,oB];by_cases e:x=z
 ·rw[if_pos e];simp only[tZ,e,decide_true,qT (rfl:(z.length:Int)=(z.length:Int))]
 ·rw[if_neg e];simp only[e,decide_false]
def aRk(B n:Nat)(out:List (List Rat)):Prop:=∀x∈out,Bds B x∧x.length=n
theorem aMT{out:List (List Rat)}{z:List Rat}{b:Bool}{n B:Nat}(s:aRk B n out)(u:Bds B z)(hzl:z.length=n)(hB:B≤1073741824)(y:n≤1000)(F:out.length≤100000){K:Nat}(G:n<K):∀(t i k:Nat),i+t=out.length→t<k→lW K out (z,b) k (i:Int)=some (if z∈out.drop i then .ret (0,out) else .go ())
 |0,i,k,I,q=>by
  obtain⟨x,rfl,_⟩:=aT q;simp only[lW,dF (show¬(i:Int)<(out.length:Int) by omega),bE];rw[List.drop_eq_nil_of_le (by omega),if_neg List.not_mem_nil]
 |t+1,i,k,I,q=>by
  obtain⟨x,rfl,_⟩:=aT q;have ih:=aMT s u hzl (b:=b) hB y F G t (i+1) x (by omega) (by omega);have f:i<out.length:=by omega
  have d1:out.drop i=out[i]::out.drop (i+1):=List.drop_eq_getElem_cons f;have J:bR out (i:Int)=some out[i]:=rdG (List.getElem?_eq_getElem f);obtain⟨L,O⟩:=s _ (List.getElem_mem f);simp only[lW,dT (show(i:Int)<(out.length:Int) by omega),bJ,J,oB,aRg L u hB (by omega) (by omega) (show out[i].length<K by omega),rO (i:=i) (by omega)];rw[d1];by_cases e:out[i]=z
  ·rw[decide_eq_true e,bJ,if_pos (by rw[e];exact List.mem_cons_self)]
  ·rw[decide_eq_false e,bE,ih];have:(z∈out[i]::out.drop (i+1))↔z∈out.drop (i+1):=by
    rw[List.mem_cons];exact⟨fun h=>h.resolve_left fun j=>e j.symm,Or.inr⟩
   by_cases j:z∈out.drop (i+1)
   ·rw[if_pos j,if_pos (this.2 j)]
   ·rw[if_neg j,if_neg (fun h=>j (this.1 h))]
def aJS(M:Nat→Nat→Rat)(q:Nat→Rat)(n c:Nat)(out:List (List Rat)):List (List Rat):=
 match cnd M q (atl (btc c) n) with
 |none=>out
 |some z=>if ckb M q z n=true then(if mp z n∈out then out else out++[mp z n]) else out
def aAL(M:Nat→Nat→Rat)(q:Nat→Rat)(n:Nat):Nat→List (List Rat)
 |0=>[]
 |c+1=>aJS M q n c (aAL M q n c)
theorem aNN{M:Nat→Nat→Rat}{q:Nat→Rat}{n B:Nat}(hM:uF n n B M)(hq:∀i,i<n→Bd B (q i))(f:n≤6)(k:2≤B)(hB:B≤5000):∀c,aRk (5^6*B) n (aAL M q n c)∧(aAL M q n c).length≤c
 |0=>⟨fun x e=>absurd e List.not_mem_nil,Nat.le_refl _⟩
 |c+1=>by
  obtain⟨i1,i2⟩:=aNN hM hq f k hB c;show aRk _ _ (aJS M q n c (aAL M q n c))∧(aJS M q n c (aAL M q n c)).length≤c+1;unfold aJS;cases hc:cnd M q (atl (btc c) n) with
  |none=>exact⟨i1,by show(aAL M q n c).length≤c+1;omega⟩
  |some z=>
   have s:=(aLq (b:=btc c) hM hq f k hB (K:=100) (Nat.le_refl _)).2 z hc;show aRk _ _ (if _ then _ else _)∧(if _ then _ else _:List (List Rat)).length≤c+1;split
   ·split
    ·exact⟨i1,by omega⟩
    ·refine⟨fun x e=>?_,by rw[List.length_append];simp;exact i2⟩;rcases List.mem_append.1 e with h|h
     ·exact i1 x h
     ·rw[List.mem_singleton.1 h];exact⟨w6 fun j _=>s j,aO _ _⟩
   ·exact⟨i1,by omega⟩
theorem aUi:∀n,n≤6→aRI 1 ((n:Nat):Int)=some ((2^n:Nat):Int):=by decide
theorem aUo{M:Nat→Nat→Rat}{q:Nat→Rat}{n B:Nat}(hM:uF n n B M)(hq:∀i,i<n→Bd B (q i))(f:n≤6)(h:2≤B)(hB:B≤50){K:Nat}(t:1000≤K){c:Nat}(hc:c<100):qW K (mx M n n) (mp q n) (mp (btc c) n) (aAL M q n c)=some (0,aAL M q n (c+1)):=by
 obtain⟨i1,i2⟩:=aNN hM hq f h (show B≤5000 by omega) c;obtain⟨c1,s⟩:=aLq (b:=btc c) hM hq f h (show B≤5000 by omega) (show 100≤K by omega);show _=some (0,aJS M q n c (aAL M q n c));unfold aJS;simp only[qW,c1,oB];cases hcn:cnd M q (atl (btc c) n) with
 |none=>simp only[Bool.not_false,bJ]
 |some z=>
  have k:=s z hcn;have u:5^6=15625:=rfl;have ck:=aLT (K:=K) hM hq (fun i _=>k i) (show n≤8 by omega) (by omega) (by omega);simp only[Bool.not_true,bE,ck,oB];cases ckb M q z n with
  |false=>simp only[Bool.not_false,bJ,Bool.false_eq_true,if_false]
  |true=>
   have hzb:Bds (5^6*B) (mp z n):=w6 fun j _=>k j
   have e:=aMT (b:=true) i1 hzb (aO z n) (by omega) (show n≤1000 by omega) (by omega) (show n<K by omega) (aAL M q n c).length 0 K (by omega) (by omega);simp only[Int.natCast_zero,List.drop_zero]at e;simp only[Bool.not_true,bE,e,oB,if_true];by_cases hm:mp z n∈aAL M q n c
   ·simp only[if_pos hm]
   ·simp only[if_neg hm,tN,apS (xs:=aAL M q n c) (x:=mp z n) (by omega),oB]
theorem aJ6{M:Nat→Nat→Rat}{q:Nat→Rat}{n B:Nat}(hM:uF n n B M)(hq:∀i,i<n→Bd B (q i))(f:n≤6)(h:2≤B)(hB:B≤50){K:Nat}(j:1000≤K):sA K (mx M n n) (mp q n)=some (aAL M q n (2^n),0):=by
 have v:=zK hM hq (by omega) (show n≤32 by omega) (show 100≤K by omega);have k:2^n≤2^6:=Nat.pow_le_pow_right (by decide) f;have e:=aO1 (yF:=qW K (mx M n n) (mp q n)) (out:=aAL M q n) (show n≤8 by omega) (show 2^n≤1000 by omega) (fun c hc=>aUo hM hq f h hB j (by omega)) (show n<K by omega) (2^n) 0 K (by omega) (by omega);have z:aAL M q n 0=[]:=rfl;rw[z,Int.natCast_zero]at e;have s:Nat.beq 0 0=true:=rfl;simp only[sA,v,oB,Bool.not_true,bE,aO,dF (show¬(8:Int)<(n:Int) by omega),rG,pT,aUi n f,e,m6,s,bJ]
theorem aLw{X:List (List aF)}(q:X.length≤1000)(hr:∀r∈X,r.length≤1000)(K:Nat):∀(t i k:Nat),i+t=X.length→t<k→dD K X k (mp id i) (X.take i) (i:Int)=some (mp id X.length,X)
 |0,i,k,s,h=>by
  obtain⟨j,rfl,_⟩:=aT h;have:i=X.length:=by omega
  subst this;simp only[dD,dF (show¬(X.length:Int)<(X.length:Int) by omega),bE,List.take_length]
 |t+1,i,k,s,h=>by
  obtain⟨j,rfl,_⟩:=aT h;have f:i<X.length:=by omega
  have u:bR X (i:Int)=some X[i]:=rdG (List.getElem?_eq_getElem f);have x:=hr _ (List.getElem_mem f);have a1:rQ ([]:List aF) X[i]=some X[i]:=xV (by simp;omega);have tl:(X.take i).length=i:=by rw[List.length_take];omega
  have a2:rQ (mp id i) [i]=some (mp id (i+1)):=apM (g:=id) (by omega);have e:X.take i++[X[i]]=X.take (i+1):=by rw[List.take_append_getElem f]
  simp only[dD,dT (show(i:Int)<(X.length:Int) by omega),bJ,u,oB,a1,tl,a2,rO (i:=i) (by omega),e];exact aLw q hr K t (i+1) j (by omega) (by omega)
theorem aTO{X:List (List aF)}:wW X (mp id X.length)=X:=by
 unfold wW mp;apply List.ext_getElem?;intro j;simp only[List.map_map,List.getElem?_map];by_cases e:j<X.length
 ·simp[e]
 ·rw[List.getElem?_eq_none (by simp;omega),List.getElem?_eq_none (by omega)];rfl
theorem aK6{vld:aF→Bool}{l:List aF}{K:Nat}(h:∀x∈l,lC K x=some (vld x))(q:l.length≤1000):∀(t i k:Nat),i+t=l.length→t<k→jI K l k (i:Int)=some (if(l.drop i).all vld=true then .go () else .ret false)
 |0,i,k,s,f=>by
  obtain⟨j,rfl,_⟩:=aT f;simp only[jI,dF (show¬(i:Int)<(l.length:Int) by omega),bE];rw[List.drop_eq_nil_of_le (by omega)];rfl
 |t+1,i,k,s,f=>by
  obtain⟨j,rfl,_⟩:=aT f;have e:i<l.length:=by omega
  have ih:=aK6 h q t (i+1) j (by omega) (by omega);have d1:l.drop i=l[i]::l.drop (i+1):=List.drop_eq_getElem_cons e;have u:bR l (i:Int)=some l[i]:=rdG (List.getElem?_eq_getElem e);simp only[jI,dT (show(i:Int)<(l.length:Int) by omega),bJ,u,oB,h _ (List.getElem_mem e),rO (i:=i) (by omega)];rw[d1,List.all_cons];cases vld l[i] with
  |true=>simp only[Bool.not_true,bE,Bool.true_and];exact ih
  |false=>simp only[Bool.not_false,bJ,Bool.false_and,Bool.false_eq_true,if_false]
theorem aKJ{vld:aF→Bool}{l:List aF}{K:Nat}(h:∀x∈l,lC K x=some (vld x))(f:l.length≤1000)(j:l.length<K):m8 K l=some (l.all vld):=by
 have e:=aK6 h f l.length 0 K (by omega) j;simp only[Int.natCast_zero,List.drop_zero]at e;simp only[m8,e,oB];cases l.all vld with
 |true=>simp only[if_true,qU]
 |false=>simp only[Bool.false_eq_true,if_false]
theorem aIa{vld:aF→Bool}{l:List aF}{K:Nat}(h:∀x∈l,cJ K x=some (vld x))(q:l.length≤1000):∀(t i k:Nat),i+t=l.length→t<k→iM K l k (i:Int)=some (if(l.drop i).all vld=true then .go () else .ret false)
 |0,i,k,s,f=>by
  obtain⟨j,rfl,_⟩:=aT f;simp only[iM,dF (show¬(i:Int)<(l.length:Int) by omega),bE];rw[List.drop_eq_nil_of_le (by omega)];rfl
 |t+1,i,k,s,f=>by
  obtain⟨j,rfl,_⟩:=aT f;have e:i<l.length:=by omega
  have ih:=aIa h q t (i+1) j (by omega) (by omega);have d1:l.drop i=l[i]::l.drop (i+1):=List.drop_eq_getElem_cons e;have u:bR l (i:Int)=some l[i]:=rdG (List.getElem?_eq_getElem e);simp only[iM,dT (show(i:Int)<(l.length:Int) by omega),bJ,u,oB,h _ (List.getElem_mem e),rO (i:=i) (by omega)];rw[d1,List.all_cons];cases vld l[i] with
  |true=>simp only[Bool.not_true,bE,Bool.true_and];exact ih
  |false=>simp only[Bool.not_false,bJ,Bool.false_and,Bool.false_eq_true,if_false]
theorem aHS{vld:aF→Bool}{l:List aF}{K:Nat}(h:∀x∈l,cJ K x=some (vld x))(f:l.length≤1000)(j:l.length<K):mE K l=some (l.all vld):=by
 have e:=aIa h f l.length 0 K (by omega) j;simp only[Int.natCast_zero,List.drop_zero]at e;simp only[mE,e,oB];cases l.all vld with
 |true=>simp only[if_true,pW]
 |false=>simp only[Bool.false_eq_true,if_false]
theorem aHU{vld:aF→Bool}{X:List (List aF)}{Y:List aF}{n K:Nat}(h:∀r∈X,∀x∈r,lC K x=some (vld x))(hr:∀r∈X,r.length=n)(j:Y.length=n)(s:X.length≤1000)(u:n≤1000)(y:n<K):∀(t i k:Nat),i+t=X.length→t<k→iK K X Y k (i:Int)=some (if(X.drop i).all (fun r=>r.all vld)=true then .go () else .ret false)
 |0,i,k,z,f=>by
  obtain⟨q,rfl,_⟩:=aT f;simp only[iK,dF (show¬(i:Int)<(X.length:Int) by omega),bE];rw[List.drop_eq_nil_of_le (by omega)];rfl
 |t+1,i,k,z,f=>by
  obtain⟨q,rfl,_⟩:=aT f;have e:i<X.length:=by omega
  have ih:=aHU h hr j s u y t (i+1) q (by omega) (by omega);have d1:X.drop i=X[i]::X.drop (i+1):=List.drop_eq_getElem_cons e;have F:bR X (i:Int)=some X[i]:=rdG (List.getElem?_eq_getElem e);have hm:=List.getElem_mem e;have G:=hr _ hm;have g:=aKJ (h _ hm) (show X[i].length≤1000 by omega) (show X[i].length<K by omega);simp only[iK,dT (show(i:Int)<(X.length:Int) by omega),bJ,F,oB,G,j,nF (rfl:(n:Int)=(n:Int)),bE,g,rO (i:=i) (by omega)];rw[d1,List.all_cons];cases X[i].all vld with
  |true=>simp only[Bool.not_true,bE,Bool.true_and];exact ih
  |false=>simp only[Bool.not_false,bJ,Bool.false_and,Bool.false_eq_true,if_false]
theorem aOw{vld:aF→Bool}{X:List (List aF)}{Y:List aF}{n K:Nat}(h:∀r∈X,∀x∈r,lC K x=some (vld x))(j:∀x∈Y,lC K x=some (vld x))(hr:∀r∈X,r.length=n)(k:X.length=n)(e:Y.length=n)(s:n≤32)(q:n<K):jC K X Y=some (Y.all vld&&X.all (fun r=>r.all vld)):=by
 have f:=aHU h hr e (by omega) (by omega) q X.length 0 K (by omega) (by omega);have g:=aKJ j (show Y.length≤1000 by omega) (show Y.length<K by omega);simp only[Int.natCast_zero,List.drop_zero]at f;simp only[jC,k,e,nF (rfl:(n:Int)=(n:Int)),bE,dF (show¬(32:Int)<(n:Int) by omega),g,oB];cases Y.all vld with
 |false=>simp only[Bool.not_false,bJ,Bool.false_and]
 |true=>
  simp only[Bool.not_true,bE,f,oB,Bool.true_and];cases X.all (fun r=>r.all vld) with
  |true=>simp only[if_true,pU]
  |false=>simp only[Bool.false_eq_true,if_false]
theorem aIn{vld:aF→Bool}{X:List (List aF)}{Y:List aF}{n K:Nat}(h:∀r∈X,∀x∈r,cJ K x=some (vld x))(hr:∀r∈X,r.length=n)(j:Y.length=n)(s:X.length≤1000)(u:n≤1000)(y:n<K):∀(t i k:Nat),i+t=X.length→t<k→gP K X Y k (i:Int)=some (if(X.drop i).all (fun r=>r.all vld)=true then .go () else .ret false)
 |0,i,k,z,f=>by
  obtain⟨q,rfl,_⟩:=aT f;simp only[gP,dF (show¬(i:Int)<(X.length:Int) by omega),bE];rw[List.drop_eq_nil_of_le (by omega)];rfl
 |t+1,i,k,z,f=>by
  obtain⟨q,rfl,_⟩:=aT f;have e:i<X.length:=by omega
  have ih:=aIn h hr j s u y t (i+1) q (by omega) (by omega);have d1:X.drop i=X[i]::X.drop (i+1):=List.drop_eq_getElem_cons e;have F:bR X (i:Int)=some X[i]:=rdG (List.getElem?_eq_getElem e);have hm:=List.getElem_mem e;have G:=hr _ hm;have g:=aHS (h _ hm) (show X[i].length≤1000 by omega) (show X[i].length<K by omega);simp only[gP,dT (show(i:Int)<(X.length:Int) by omega),bJ,F,oB,G,j,nF (rfl:(n:Int)=(n:Int)),bE,g,rO (i:=i) (by omega)];rw[d1,List.all_cons];cases X[i].all vld with
  |true=>simp only[Bool.not_true,bE,Bool.true_and];exact ih
  |false=>simp only[Bool.not_false,bJ,Bool.false_and,Bool.false_eq_true,if_false]
theorem aNX{vld:aF→Bool}{X:List (List aF)}{Y:List aF}{n K:Nat}(h:∀r∈X,∀x∈r,cJ K x=some (vld x))(j:∀x∈Y,cJ K x=some (vld x))(hr:∀r∈X,r.length=n)(k:X.length=n)(e:Y.length=n)(s:n≤32)(q:n<K):iA K X Y=some (Y.all vld&&X.all (fun r=>r.all vld)):=by
 have f:=aIn h hr e (by omega) (by omega) q X.length 0 K (by omega) (by omega);have g:=aHS j (show Y.length≤1000 by omega) (show Y.length<K by omega);simp only[Int.natCast_zero,List.drop_zero]at f;simp only[iA,k,e,nF (rfl:(n:Int)=(n:Int)),bE,dF (show¬(32:Int)<(n:Int) by omega),g,oB];cases Y.all vld with
 |false=>simp only[Bool.not_false,bJ,Bool.false_and]
 |true=>
  simp only[Bool.not_true,bE,f,oB,Bool.true_and];cases X.all (fun r=>r.all vld) with
  |true=>simp only[if_true,oN]
  |false=>simp only[Bool.false_eq_true,if_false]
theorem aLD{α β:Type}{f:α→Nat→Option β}{v:α→β}:∀(l:List α),(∀x∈l,Ev (f x) (v x))→∃j,∀K,j≤K→∀x∈l,f x K=some (v x)
 |[],_=>⟨0,fun K _ x e=>absurd e List.not_mem_nil⟩
 |y::l,h=>by
  obtain⟨k,q⟩:=h y List.mem_cons_self;obtain⟨s,t⟩:=aLD l fun x e=>h x (List.mem_cons_of_mem _ e)
  refine⟨k+s,fun K u x e=>?_⟩;rcases List.mem_cons.1 e with rfl|e
  ·exact q K (by omega)
  ·exact t K (by omega) x e
open Classical in
noncomputable def aDT(x:aF):Bool:=decide (∃a:Rat,x=Qr a)
open Classical in
theorem aLa(a:Rat):aDT (Qr a)=true:=decide_eq_true ⟨a,rfl⟩
open Classical in
theorem aFG{x:aF}(h:∀a:Rat,x≠Qr a):aDT x=false:=decide_eq_false fun⟨a,e⟩=>h a e
end Go.Proofs.YtolfcbpgmfbgmaaGreat
