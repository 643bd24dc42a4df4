/- Texts of the proof, part 7: WU. -/
import Derived.Test.YtolfcbpgmfbgmaaGreatZ6
set_option linter.unusedSimpArgs false
set_option linter.unusedVariables false
namespace Go.Proofs.YtolfcbpgmfbgmaaGreat
theorem aOO:∀i,i<6→∀c,c<64→btc c i=(((c/2^i%2:Nat):Int)==1):=by decide
theorem aOu (c i:Nat):c/2^i/2=c/2^(i+1):=by rw [Nat.div_div_eq_div_mul,Nat.pow_succ]
theorem chrN (d:Nat):chr (d:Int) 2=some ((d%2:Nat):Int):=by rw [u5 (by omega) (by omega)];rfl
theorem chqN {d:Nat} (h:d≤1000):chq (d:Int) 2=some ((d/2:Nat):Int):=by rw [xV (by omega) (by omega) (by omega)];rfl
theorem aNH {a1:List Rat} {n c:Nat} (hq:a1.length=n) (hn:n≤6) (hc:c<64) (K:Nat):∀(t i k:Nat),i+t=n→t<k→iC K a1 k (uJ (atl (btc c) i)) ((c/2^i:Nat):Int) (i:Int)=some (uJ (atl (btc c) n))
 |0,i,k,hi,hk=>by
  have:i=n:=by omega
  subst this
  obtain⟨k',rfl,_⟩:=aY hk
  simp only [iC,hq,dF (show¬(i:Int)<(i:Int) by omega),bM]
 |t+1,i,k,hi,hk=>by
  obtain⟨k',rfl,_⟩:=aY hk
  have ih:=aNH hq hn hc K t (i+1) k' (by omega) (by omega)
  have hl:=aEs (b:=btc c) i
  have hle:c/2^i≤c:=Nat.div_le_self _ _
  have e1:chr ((c/2^i:Nat):Int) 2=some ((c/2^i%2:Nat):Int):=chrN _
  have e2:chq ((c/2^i:Nat):Int) 2=some ((c/2^(i+1):Nat):Int):=by rw [chqN (by omega),aOu]
  have hb:=aOO i (by omega) c hc
  simp only [iC,hq,dT (show(i:Int)<(n:Int) by omega),bS,e1,oB,←hb]
  cases hbc:btc c i with
  |true=>
   have e:atl (btc c) (i+1)=atl (btc c) i++[i]:=by show(bif btc c i then _ else _)=_;rw [hbc,bS]
   rw [e] at ih
   simp only [bS,apI (l:=atl (btc c) i) (k:=i) (by omega),oB,e2,uL (i:=i) (by omega)]
   exact ih
  |false=>
   have e:atl (btc c) (i+1)=atl (btc c) i:=by show(bif btc c i then _ else _)=_;rw [hbc,bM]
   rw [e] at ih
   simp only [bM,e2,oB,uL (i:=i) (by omega)]
   exact ih
theorem aLp {M:Nat→Nat→Rat} {n i:Nat} {at0:List Nat} (hm:at0.length≤1000) (ha:∀j,j<at0.length→pat at0 j<n) (hi:i<at0.length) (K:Nat):∀(t c k:Nat),c+t=at0.length→t<k→iX K (mx M n n) (uJ at0) (i:Int) k (mp (sbm M at0 i) c) (c:Int)=some (mp (sbm M at0 i) at0.length)
 |0,c,k,hc,hk=>by
  have:c=at0.length:=by omega
  subst this
  obtain⟨k',rfl,_⟩:=aY hk
  simp only [iX,fU,dF (show¬(at0.length:Int)<(at0.length:Int) by omega),bM]
 |t+1,c,k,hc,hk=>by
  obtain⟨k',rfl,_⟩:=aY hk
  have e:oG (mp (sbm M at0 i) c) [M (pat at0 i) (pat at0 c)]=some (mp (sbm M at0 i) (c+1)):=apM (g:=sbm M at0 i) (by omega)
  simp only [iX,fU,dT (show(c:Int)<(at0.length:Int) by omega),bS,rdI (ps:=at0) (show i<at0.length by omega),rdI (ps:=at0) (show c<at0.length by omega),oB,zG (g:=M) (w:=n) (ha i hi),lX (f:=M (pat at0 i)) (ha c (by omega)),e,uL (i:=c) (by omega)]
  exact aLp hm ha hi K t (c+1) k' (by omega) (by omega)
theorem aKP {M:Nat→Nat→Rat} {q:Nat→Rat} {n B:Nat} {at0:List Nat} (hm:at0.length≤1000) (ha:∀j,j<at0.length→pat at0 j<n) (hq:∀i,i<n→Bd B (q i)) (hB:B≤1073741824) {K:Nat} (hK:at0.length<K):∀(t i k:Nat),i+t=at0.length→t<k→gK K (mx M n n) (mp q n) (uJ at0) k (mp (sbq q at0) i) (mx (sbm M at0) i at0.length) (i:Int)=some (mp (sbq q at0) at0.length,mx (sbm M at0) at0.length at0.length)
 |0,i,k,hi,hk=>by
  have:i=at0.length:=by omega
  subst this
  obtain⟨k',rfl,_⟩:=aY hk
  simp only [gK,fU,dF (show¬(at0.length:Int)<(at0.length:Int) by omega),bM]
 |t+1,i,k,hi,hk=>by
  obtain⟨k',rfl,_⟩:=aY hk
  have h1:=aLp (M:=M) hm ha (show i<at0.length by omega) K at0.length 0 K (by omega) hK
  simp only [Int.natCast_zero,tX] at h1
  have e1:oG (mx (sbm M at0) i at0.length) [mp (sbm M at0 i) at0.length]=some (mx (sbm M at0) (i+1) at0.length):=apM (g:=fun r=>mp (sbm M at0 r) at0.length) (by omega)
  have e2:oG (mp (sbq q at0) i) [-(q (pat at0 i))]=some (mp (sbq q at0) (i+1)):=apM (g:=sbq q at0) (by omega)
  have hp:=ha i (by omega)
  simp only [gK,fU,dT (show(i:Int)<(at0.length:Int) by omega),bS,h1,oB,rB,e1,rdI (ps:=at0) (show i<at0.length by omega),lX (f:=q) hp,aCU (hq _ hp) hB,e2,uL (i:=i) (by omega)]
  exact aKP hm ha hq hB hK t (i+1) k' (by omega) (by omega)
theorem aLr {n:Nat} {at0:List Nat} {x:List Rat} {e:Bool} (hm:at0.length≤1000) (ha:∀j,j<at0.length→pat at0 j<n) (hx:x.length=at0.length) (K:Nat):∀(t i k:Nat),i+t=at0.length→t<k→iU K (uJ at0) (x,e) k (mp (plc at0 x i) n) (i:Int)=some (mp (plc at0 x at0.length) n)
 |0,i,k,hi,hk=>by
  have:i=at0.length:=by omega
  subst this
  obtain⟨k',rfl,_⟩:=aY hk
  simp only [iU,fU,dF (show¬(at0.length:Int)<(at0.length:Int) by omega),bM]
 |t+1,i,k,hi,hk=>by
  obtain⟨k',rfl,_⟩:=aY hk
  have hp:=ha i (by omega)
  simp only [iU,fU,dT (show(i:Int)<(at0.length:Int) by omega),bS,rdI (ps:=at0) (show i<at0.length by omega),oB,aIj (l:=x) (i:=i) (by omega),lX (f:=plc at0 x i) hp,aEm (f:=plc at0 x i) hp,uL (i:=i) (by omega)]
  exact aLr hm ha hx K t (i+1) k' (by omega) (by omega)
theorem aIX {x z:List Rat} {B:Nat} (hx:Bds B x) (hz:Bds B z) (hB:B≤1073741824) (hl:x.length=z.length) (hn:x.length≤1000) (K:Nat):∀(t i k:Nat),i+t=x.length→t<k→d7 K x z k (i:Int)=some (if x.drop i=z.drop i then .go () else .ret false)
 |0,i,k,hi,hk=>by
  obtain⟨k',rfl,_⟩:=aY hk
  simp only [d7,dF (show¬(i:Int)<(x.length:Int) by omega),bM]
  rw [List.drop_eq_nil_of_le (by omega),List.drop_eq_nil_of_le (by omega),if_pos rfl]
 |t+1,i,k,hi,hk=>by
  obtain⟨k',rfl,_⟩:=aY hk
  have ih:=aIX hx hz hB hl hn K t (i+1) k' (by omega) (by omega)
  have b1:=hx _ (aCi (l:=x) (i:=i) (by omega))
  have b2:=hz _ (aCi (l:=z) (i:=i) (by omega))
  have d1:x.drop i=at' x i::x.drop (i+1):=by unfold at';rw [List.drop_eq_getElem_cons (by omega),List.getD_eq_getElem?_getD,List.getElem?_eq_getElem (by omega)];rfl
  have d2:z.drop i=at' z i::z.drop (i+1):=by unfold at';rw [List.drop_eq_getElem_cons (by omega),List.getD_eq_getElem?_getD,List.getElem?_eq_getElem (by omega)];rfl
  simp only [d7,dT (show(i:Int)<(x.length:Int) by omega),bS,aIj (l:=x) (i:=i) (by omega),aIj (l:=z) (i:=i) (by omega),oB,aF8 b1 b2 hB hB,uL (i:=i) (by omega)]
  rw [d1,d2]
  by_cases e:at' x i=at' z i
  ·simp only [e,decide_true,Bool.not_true,bM,ih,List.cons.injEq,true_and]
  ·simp only [e,decide_false,Bool.not_false,bS,List.cons.injEq,false_and,if_false]
theorem aN1 {x z:List Rat} {B:Nat} (hx:Bds B x) (hz:Bds B z) (hB:B≤1073741824) (hl:x.length=z.length) (hn:x.length≤1000) {K:Nat} (hK:x.length<K):fI K x z=some (decide (x=z)):=by
 have h:=aIX hx hz hB hl hn K x.length 0 K (by omega) hK
 simp only [Int.natCast_zero,List.drop_zero] at h
 simp only [fI,nF (show(x.length:Int)=(z.length:Int) by omega),bM,h,oB]
 by_cases e:x=z
 ·rw [if_pos e]
  simp only [oD,e,decide_true]
 ·rw [if_neg e]
  simp only [e,decide_false]
theorem aIF {out:List (List Rat)} {z:List Rat} {n B:Nat} (ho:aGY B n out) (hz:Bds B z) (hzl:z.length=n) (hB:B≤1073741824) (hn:n≤1000) (hl:out.length≤100000) {K:Nat} (hK:n<K):∀(t i k:Nat) (b:Bool),i+t=out.length→t<k→gL K out z k b (i:Int)=some (b||decide (z∈out.drop i))
 |0,i,k,b,hi,hk=>by
  obtain⟨k',rfl,_⟩:=aY hk
  simp only [gL,dF (show¬(i:Int)<(out.length:Int) by omega),bM]
  rw [List.drop_eq_nil_of_le (by omega),decide_eq_false List.not_mem_nil,Bool.or_false]
 |t+1,i,k,b,hi,hk=>by
  obtain⟨k',rfl,_⟩:=aY hk
  have hi':i<out.length:=by omega
  have d1:out.drop i=out[i]::out.drop (i+1):=List.drop_eq_getElem_cons hi'
  have r1:bF out (i:Int)=some out[i]:=rdG (List.getElem?_eq_getElem hi')
  obtain⟨o1,o2⟩:=ho _ (List.getElem_mem hi')
  simp only [gL,dT (show(i:Int)<(out.length:Int) by omega),bS,uL (i:=i) (by omega),oB]
  cases b with
  |true=>
   rw [bS,aIF ho hz hzl hB hn hl hK t (i+1) k' true (by omega) (by omega),Bool.true_or,Bool.true_or]
  |false=>
   have key:decide (z∈out.drop i)=(decide (out[i]=z)||decide (z∈out.drop (i+1))):=by
    rw [d1,←Bool.decide_or,decide_eq_decide,List.mem_cons]
    constructor
    ·rintro(h|h)
     ·exact Or.inl h.symm
     ·exact Or.inr h
    ·rintro(h|h)
     ·exact Or.inl h.symm
     ·exact Or.inr h
   rw [bM,r1,oB,aN1 o1 hz (by omega) (by omega) (by omega) (show out[i].length<K by omega),oB,aIF ho hz hzl hB hn hl hK t (i+1) k' _ (by omega) (by omega),key,Bool.false_or]
theorem aI5 {g:Nat→Nat→Rat} {f:Nat→Rat} {n:Nat} (h:aIg g n n=n):∃x,aBe g f n n=some x:=by
 have e:=(aHa (g:=wid g f n) (g':=g) (h:=n) (w:=n) (fun i c hc=>by unfold wid;rw [if_pos hc]) n (Nat.le_refl n)).1
 unfold aBe
 have hl:(xH (wid g f n) n n).ps.length=n:=by rw [e];exact h
 refine⟨_,if_neg ?_⟩
 show¬aB6 _ n (n-(xH (wid g f n) n n).ps.length) _=true
 rw [hl,Nat.sub_self]
 show¬false=true
 decide
theorem aQq:∀m,m≤6→dtb 12 m≤1000000000:=by decide
theorem aKX {M:Nat→Nat→Rat} {q z:Nat→Rat} {n c:Nat} {out:List (List Rat)} {rec0:(List (List Rat))→Int→Option (List (List Rat))} (hM:yW n n 200000 M) (hq:∀i,i<n→Bd 200000 (q i)) (hz:∀i,i<n→Bd 200000 (z i)) (hn:n≤6) (ho:aGY 200000 n out) (hl:out.length≤1000) (hc:c<100) {K:Nat} (hK:2000≤K):kO K (mx M n n) (mp q n) out (c:Int) rec0 (mp z n)=rec0 (if ckb M q z n=true then(if mp z n∈out then out else out++[mp z n]) else out) ((c+1:Nat):Int):=by
 have ck:=aJL (K:=K) hM hq hz (show n≤8 by omega) (by omega) (by omega)
 have l127:=aIF ho (y8 hz) (aZ z n) (by omega) (show n≤1000 by omega) (by omega) (show n<K by omega) out.length 0 K (!(ckb M q z n)) (by omega) (by omega)
 rw [Int.natCast_zero,List.drop_zero] at l127
 simp only [kO,ck,oB,l127,rG,uL (i:=c) (by omega),apS (xs:=out) (x:=mp z n) (by omega)]
 cases ckb M q z n with
 |false=>simp only [Bool.not_false,Bool.true_or,Bool.not_true,bM,Bool.false_eq_true,if_false]
 |true=>
  simp only [Bool.not_true,Bool.false_or,if_true]
  by_cases hm:mp z n∈out
  ·simp only [hm,decide_true,Bool.not_true,bM,if_true]
  ·simp only [hm,decide_false,Bool.not_false,bS,if_false]
theorem aRf {M:Nat→Nat→Rat} {q:Nat→Rat} {n c:Nat} {out:List (List Rat)} {rec0:(List (List Rat))→Int→Option (List (List Rat))} (hM:yW n n 12 M) (hq:∀i,i<n→Bd 12 (q i)) (hn:n≤6) (ho:aGY 200000 n out) (hl:out.length≤1000) (hc:c<100) {K:Nat} (hK:2000≤K):n0 K (mx M n n) (mp q n) out (c:Int) rec0 (uJ (atl (btc c) n))=rec0 (aGX M q n c out) ((c+1:Nat):Int):=by
 have hl0:=aEs (b:=btc c) n
 have ha:∀j,j<(atl (btc c) n).length→pat (atl (btc c) n) j<n:=fun j hj=>aOG hj
 have zbd:=(aHP (b:=btc c) hM hq hn (by omega) (by omega) (K:=100) (Nat.le_refl _)).2
 have hM2:yW n n 200000 M:=fun i c hi hc=>(hM i c hi hc).mono (by omega)
 have hq2:∀i,i<n→Bd 200000 (q i):=fun i hi=>(hq i hi).mono (by omega)
 have e6:5^6*12=187500:=rfl
 unfold aGX
 generalize atl (btc c) n=at0 at *
 have l105:=aKP (M:=M) (q:=q) (at0:=at0) (show at0.length≤1000 by omega) ha hq (by omega) (show at0.length<K by omega) at0.length 0 K (by omega) (by omega)
 have z1:mx (sbm M at0) 0 at0.length=[]:=rfl
 rw [z1,tX,Int.natCast_zero] at l105
 simp only [n0,l105,oB,qY,aZ,aHN (n:=n) (z:=(0:Rat)) (by omega),fU]
 unfold cnd at zbd ⊢
 by_cases h0:at0.length=0
 ·rw [if_pos h0] at zbd ⊢
  rw [dF (show¬(0:Int)<(at0.length:Int) by omega),bM,aKX hM2 hq2 (fun i hi=>Bd.zero.mono (by omega)) hn ho hl hc hK]
 rw [if_neg h0] at zbd ⊢
 rw [dT (show(0:Int)<(at0.length:Int) by omega),bS]
 have hA:yW at0.length at0.length 12 (sbm M at0):=fun i c hi hc=>hM _ _ (ha i hi) (ha c hc)
 have hb':∀i,i<at0.length→Bd 12 (sbq q at0 i):=fun i hi=>(hq _ (ha i hi)).neg
 have hp6:5^at0.length*12≤5^6*12:=Nat.mul_le_mul_right 12 (Nat.pow_le_pow_right (by decide) (by omega))
 have hcok:Cok at0.length at0.length:=aIW _
 obtain⟨d1,d2⟩:=aO2 hA (show at0.length≤64 by omega) (fun m hm=>aQq m (by omega)) (K:=K) (by omega)
 have d3:=aQq at0.length (by omega)
 have hS:=aMl hA hb' hcok (by omega) (by omega) (show at0.length≤64 by omega) (show at0.length≤63 by omega) (K:=K) (by omega)
 rw [d1,oB,uS d2 (by omega),oB]
 by_cases hr:aIg (sbm M at0) at0.length at0.length=at0.length
 ·rw [if_pos hr] at zbd ⊢
  have hd:¬(dt at0.length (sbm M at0)).num.sign=0:=fun h=>(aLE.2 hr) (aCy.1 h)
  obtain⟨x,hx⟩:=aI5 (f:=sbq q at0) hr
  obtain⟨x1,x2⟩:=aHH hA hb' (by omega) hx
  rw [hx] at hS zbd ⊢
  have l182:=aLr (e:=true) (show at0.length≤1000 by omega) ha x1 K at0.length 0 K (by omega) (by omega)
  have z3:mp (plc at0 x 0) n=mp (fun _=>(0:Rat)) n:=rfl
  rw [z3,Int.natCast_zero] at l182
  have zb:∀i,i<n→Bd 200000 (plc at0 x at0.length i):=fun i _=>(zbd _ rfl i).mono (by omega)
  simp only [qF hd,bM,hS,oB,l182,rH]
  exact aKX hM2 hq2 zb hn ho hl hc hK
 ·rw [if_neg hr]
  have hd:(dt at0.length (sbm M at0)).num.sign=0:=aCy.2 (Classical.byContradiction fun h=>hr (aLE.1 h))
  rw [qT hd,bS,uL (i:=c) (by omega),oB]
theorem aOq {M:Nat→Nat→Rat} {q:Nat→Rat} {n:Nat} (hM:yW n n 12 M) (hq:∀i,i<n→Bd 12 (q i)) (hn:n≤6) {N:Nat} (hN:N≤64) {K:Nat} (hK:2000≤K):∀(t c k:Nat),c+t=N→t<k→cL K (mx M n n) (mp q n) (N:Int) k (w5 M q n c) (c:Int)=some (w5 M q n N)
 |0,c,k,hc,hk=>by
  have:c=N:=by omega
  subst this
  obtain⟨k',rfl,_⟩:=aY hk
  simp only [cL,dF (show¬(c:Int)<(c:Int) by omega),bM]
 |t+1,c,k,hc,hk=>by
  obtain⟨k',rfl,_⟩:=aY hk
  have l65:=aNH (a1:=mp q n) (c:=c) (aZ q n) hn (by omega) K n 0 K (by omega) (by omega)
  have e0:c/2^0=c:=Nat.div_one c
  rw [e0,Int.natCast_zero] at l65
  have z0':uJ (atl (btc c) 0)=[]:=rfl
  rw [z0'] at l65
  obtain⟨o1,o2⟩:=aEh hM hq hn (by omega) (by omega) c
  have e6:5^6*12=187500:=rfl
  have ho:aGY 200000 n (w5 M q n c):=fun x hx=>⟨(o1 x hx).1.mono' (by omega),(o1 x hx).2⟩
  simp only [cL,dT (show(c:Int)<(N:Int) by omega),bS,l65,oB,aRf hM hq hn ho (show(w5 M q n c).length≤1000 by omega) (show c<100 by omega) hK]
  exact aOq hM hq hn hN hK t (c+1) k' (by omega) (by omega)
theorem aOj {a1:List Rat} {n:Nat} (hq:a1.length=n) (hn:n≤8) (K:Nat):∀(t i k:Nat),i+t=n→t<k→jQ K a1 k ((2^i:Nat):Int) (i:Int)=some ((2^n:Nat):Int)
 |0,i,k,hi,hk=>by
  have:i=n:=by omega
  subst this
  obtain⟨k',rfl,_⟩:=aY hk
  simp only [jQ,hq,dF (show¬(i:Int)<(i:Int) by omega),bM]
 |t+1,i,k,hi,hk=>by
  obtain⟨k',rfl,_⟩:=aY hk
  have hp:2^i≤2^8:=Nat.pow_le_pow_right (by decide) (by omega)
  have hs:2^(i+1)=2*2^i:=by rw [Nat.pow_succ,Nat.mul_comm]
  have e1:aS (2*((2^i:Nat):Int))=some ((2^(i+1):Nat):Int):=ckN (m:=0) (by omega) (by omega)
  simp only [jQ,hq,dT (show(i:Int)<(n:Int) by omega),bS,e1,oB,uL (i:=i) (by omega)]
  exact aOj hq hn K t (i+1) k' (by omega) (by omega)
theorem aHg {M:Nat→Nat→Rat} {q:Nat→Rat} {n:Nat} (hM:yW n n 12 M) (hq:∀i,i<n→Bd 12 (q i)) (hn:n≤6) {K:Nat} (hK:2000≤K):lB K (mx M n n) (mp q n)=some (w5 M q n (2^n),0):=by
 have v:=aGq hM hq (by omega) (show n≤32 by omega) (show 100≤K by omega)
 have h64:2^n≤2^6:=Nat.pow_le_pow_right (by decide) hn
 have l12:=aOj (a1:=mp q n) (aZ q n) (show n≤8 by omega) K n 0 K (by omega) (by omega)
 have hpz:((2^0:Nat):Int)=1:=rfl
 rw [hpz,Int.natCast_zero] at l12
 have l34:=aOq hM hq hn (show 2^n≤64 by omega) hK (2^n) 0 K (by omega) (by omega)
 have z:w5 M q n 0=[]:=rfl
 rw [z,Int.natCast_zero] at l34
 simp only [lB,v,oB,Bool.not_true,bM,aZ,dF (show¬(8:Int)<(n:Int) by omega),l12,r9,l34,r8]
theorem aLH {M:Nat→Nat→Rat} {q:Nat→Rat} {n:Nat} (hM:yW n n 12 M) (hq:∀i,i<n→Bd 12 (q i)) (hn:n≤6):∀c x,x∈w5 M q n c→∃z,x=mp z n∧ckb M q z n=true∧∀j,Bd (5^6*12) (z j)
 |0,x,hx=>absurd hx List.not_mem_nil
 |c+1,x,hx=>by
  have ih:=aLH hM hq hn c x
  have zbd:=(aHP (b:=btc c) hM hq hn (by omega) (by omega) (K:=100) (Nat.le_refl _)).2
  have hx':x∈aGX M q n c (w5 M q n c):=hx
  unfold aGX at hx'
  cases hcn:cnd M q (atl (btc c) n) with
  |none=>rw [hcn] at hx';exact ih hx'
  |some z=>
   rw [hcn] at hx'
   have hx2:x∈(if ckb M q z n=true then(if mp z n∈w5 M q n c then w5 M q n c else w5 M q n c++[mp z n]) else w5 M q n c):=hx'
   split at hx2
   ·rename_i hck
    split at hx2
    ·exact ih hx2
    ·rcases List.mem_append.1 hx2 with h|h
     ·exact ih h
     ·exact⟨z,List.mem_singleton.1 h,hck,zbd z hcn⟩
   ·exact ih hx2
theorem aFM {out:List (List Rat)} {n B:Nat} (ho:aGY B n out) (hB:B≤1000000) (hn:n≤1000) (hl:out.length≤100000) {K:Nat} (hK:n<K):∀(t i k:Nat),i+t=out.length→t<k→gS K out out k (i:Int)=some (.go ())
 |0,i,k,hi,hk=>by
  obtain⟨k',rfl,_⟩:=aY hk
  simp only [gS,dF (show¬(i:Int)<(out.length:Int) by omega),bM]
 |t+1,i,k,hi,hk=>by
  obtain⟨k',rfl,_⟩:=aY hk
  have hi':i<out.length:=by omega
  have r1:bF out (i:Int)=some out[i]:=rdG (List.getElem?_eq_getElem hi')
  obtain⟨o1,o2⟩:=ho _ (List.getElem_mem hi')
  simp only [gS,dT (show(i:Int)<(out.length:Int) by omega),bS,r1,oB,aRc o1 hB (by omega) (show out[i].length<K by omega),Bool.not_true,bM,uL (i:=i) (by omega)]
  exact aFM ho hB hn hl hK t (i+1) k' (by omega) (by omega)
theorem aF7 {out:List (List Rat)} {n B:Nat} (ho:aGY B n out) (hB:B≤1000000) (hn:n≤1000) (hl:out.length≤100000) {K:Nat} (hK:n<K) (hK2:out.length<K):hZ K out out=some true:=by
 have h:=aFM ho hB hn hl hK out.length 0 K (by omega) hK2
 rw [Int.natCast_zero] at h
 simp only [hZ,nF (rfl:(out.length:Int)=(out.length:Int)),bM,h,oB,oV]
theorem aJG (K:Nat):∀(t i k:Nat) (g:Nat→List Rat),i+t=9→t<k→(∀j,j<i→g j=mp (fun _=>(0:Rat)) 9)→cU K k (mp g 9) (i:Int)=some (mx (fun _ _=>0) 9 9)
 |0,i,k,g,hi,hk,hg=>by
  obtain⟨k',rfl,_⟩:=aY hk
  have:i=9:=by omega
  subst this
  have e:mp g 9=mx (fun _ _=>0) 9 9:=tA fun j hj=>hg j (by omega)
  simp only [cU,dF (show¬((9:Nat):Int)<9 by omega),bM,e]
 |t+1,i,k,g,hi,hk,hg=>by
  obtain⟨k',rfl,_⟩:=aY hk
  have mk:mkL (9:Int) (0:Rat)=some (mp (fun _=>0) 9):=aHN (n:=9) (z:=(0:Rat)) (by omega)
  simp only [cU,dT (show(i:Int)<9 by omega),bS,mk,oB,lX (f:=g) (show i<9 by omega),aEm (f:=g) (v:=mp (fun _=>(0:Rat)) 9) (show i<9 by omega),uL (i:=i) (by omega)]
  exact aJG K t (i+1) k' _ (by omega) (by omega) (fun j hj=>by
   by_cases e:j=i
   ·rw [e,eH]
   ·rw [l5 e];exact hg j (by omega))
theorem aOv {M:Nat→Nat→Rat} {q:Nat→Rat} {n:Nat} {v5:(List (List Rat))×Int} (hM:yW n n 12 M) (hq:∀i,i<n→Bd 12 (q i)) (hn:n≤6) (h:∀x,x∈v5.1→∃z,x=mp z n∧ckb M q z n=true∧∀j,Bd (5^6*12) (z j)) (hl:v5.1.length≤1000) {K:Nat} (hK:100≤K):∀(t i k:Nat),i+t=v5.1.length→t<k→cT K (mx M n n,mp q n) v5 k (i:Int)=some (.go ())
 |0,i,k,hi,hk=>by
  obtain⟨k',rfl,_⟩:=aY hk
  simp only [cT,dF (show¬(i:Int)<(v5.1.length:Int) by omega),bM]
 |t+1,i,k,hi,hk=>by
  obtain⟨k',rfl,_⟩:=aY hk
  have hi':i<v5.1.length:=by omega
  have r1:bF v5.1 (i:Int)=some v5.1[i]:=rdG (List.getElem?_eq_getElem hi')
  obtain⟨z,z1,z2,z3⟩:=h _ (List.getElem_mem hi')
  have e6:5^6*12=187500:=rfl
  have ck:=aFS (K:=K) hM hq (fun i _=>z3 i) (show n≤8 by omega) (by omega) hK
  rw [z2] at ck
  simp only [cT,dT (show(i:Int)<(v5.1.length:Int) by omega),bS,r1,oB,z1,ck,Bool.not_true,bM,uL (i:=i) (by omega)]
  exact aOv hM hq hn h hl hK t (i+1) k' (by omega) (by omega)
theorem aDN {a0:List Int} {a1 a2:Int} (h0:aCa a0) (h1:I64 a1) (h2:I64 a2):∃K,mL K a0 a1 a2=some true:=by
 obtain⟨n,M,q,hn,hP,hF⟩:=aKp h0 (most:=5) (by omega) (by omega)
 obtain⟨X,Y,K0,hS,hXY⟩:=aMC hP (by omega) h1 h2
 refine⟨K0+6000,?_⟩
 have hF':=hF (K0+6000) (by omega)
 have s5:((5:Nat):Int)=5:=rfl
 rw [s5] at hF'
 have hM:yW n n 12 M:=fun i c hi hc=>aB2 (hP.1 i c hi hc)
 have hq:∀i,i<n→Bd 12 (q i):=fun i hi=>aB2 (hP.2 i hi)
 have hL:=aKF (K:=K0+6000) (by omega)
 have h32:2^n≤2^6:=Nat.pow_le_pow_right (by decide) (by omega)
 have e6:5^6*12=187500:=rfl
 have sm:∀M',yW n n 12 M'→hZ (K0+6000) (w5 M' q n (2^n)) (w5 M' q n (2^n))=some true:=fun M' hM'=>by
  obtain⟨o1,o2⟩:=aEh hM' hq (by omega) (by omega) (by omega) (2^n)
  exact aF7 o1 (by omega) (by omega) (by omega) (by omega) (by omega)
 obtain⟨R,R1,R2,R3⟩:∃R,gG (K0+6000) X Y=some R∧fJ (K0+6000) X Y=some R∧hZ (K0+6000) R.1 R.1=some true:=by
  rcases hXY with⟨M',hP',rfl,rfl⟩|hbad
  ·have hM':yW n n 12 M':=fun i c hi hc=>aB2 (hP'.1 i c hi hc)
   exact⟨(w5 M' q n (2^n),0),by rw [zQ];exact aI8 hM' hq (by omega) (by omega) (by omega) (by omega),by rw [y4];exact aHg hM' hq (by omega) (by omega),sm M' hM'⟩
  ·obtain⟨b1,b2⟩:=aOM (hbad (K0+6000) (by omega))
   exact⟨_,b1,b2,aF7 (B:=1) (n:=0) (fun x hx=>absurd hx List.not_mem_nil) (by omega) (by omega) (by show 0≤_;omega) (by omega) (by show 0<_;omega)⟩
 have hA:=aI8 (K:=K0+6000) hM hq (by omega) (by omega) (by omega) (by omega)
 have hR:=aHg (K:=K0+6000) hM hq (by omega) (by omega)
 have o2:=(aEh hM hq (by omega) (by omega) (by omega) (2^n)).2
 have l23:=aOv (K:=K0+6000) (v5:=(w5 M q n (2^n),0)) hM hq (by omega) (aLH hM hq (by omega) (2^n)) (show(w5 M q n (2^n)).length≤1000 by omega) (by omega) (w5 M q n (2^n)).length 0 (K0+6000) (Nat.zero_add _) (by omega)
 rw [Int.natCast_zero] at l23
 have mk0:mkL (9:Int) ([]:List Rat)=some (mp (fun _=>[]) 9):=aHN (n:=9) (z:=([]:List Rat)) (by omega)
 have mk1:mkL (9:Int) (0:Rat)=some (mp (fun _=>0) 9):=aHN (n:=9) (z:=(0:Rat)) (by omega)
 have l50:=aJG (K0+6000) 9 0 (K0+6000) (fun _=>[]) (by omega) (by omega) (fun j hj=>by omega)
 rw [Int.natCast_zero] at l50
 have v9:=aE1 (M:=fun _ _=>0) (q:=fun _=>0) (n:=9) (B:=1) (fun _ _ _ _=>Bd.zero) (fun _ _=>Bd.zero) (by omega) (by omega) (show 100≤K0+6000 by omega)
 have a9:iL (K0+6000) (mx (fun _ _=>0) 9 9) (mp (fun _=>0) 9)=some ([],4):=by
  simp only [iL,v9,oB,Bool.not_true,bM,aZ,dT (show(8:Int)<((9:Nat):Int) by omega),bS]
 simp only [mL,hF',oB,hS _ (show K0≤K0+6000 by omega),hA,hR,R1,R2,nF (rfl:(0:Int)=0),nF (rfl:R.2=R.2),bM,sm M hM,R3,Bool.not_true,l23,jY,mk0,l50,jX,mk1,a9,qT (rfl:(4:Int)=4),bS,hL]
end Go.Proofs.YtolfcbpgmfbgmaaGreat
