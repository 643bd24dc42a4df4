/- Texts of the proof, part 7: YQ YS YT YW WE YX YU WF WH WI WJ. -/
import Derived.Test.YtldhbdgfpjoamaaGreatZ6
set_option linter.unusedSimpArgs false
set_option linter.unusedVariables false
namespace Go.Proofs.YtldhbdgfpjoamaaGreat
/-- Terms of the first n places, in order. -/
def IO (n:Nat) (l:List aE):Prop:=InT n l∧l.Pairwise (fun a b=>a.dof<b.dof)
theorem IO.nil {n:Nat}:IO n []:=⟨fun t h=>absurd h List.not_mem_nil,List.Pairwise.nil⟩
theorem IO.up {n:Nat} {l:List aE} (h:IO n l):IO (n+1) l:=⟨fun t ht=>⟨(h.1 t ht).1,by have:=(h.1 t ht).2;omega⟩,h.2⟩
theorem IO.snoc {n:Nat} {l:List aE} {q:Rat} (h:IO n l):IO (n+1) (l++[⟨(n:Int),q⟩]):=by
 refine⟨fun t ht=>?_,List.pairwise_append.2 ⟨h.2,List.pairwise_singleton _ _,fun a ha b hb=>?_⟩⟩
 ·rcases List.mem_append.1 ht with h1|h1
  ·exact h.up.1 t h1
  ·rw [List.mem_singleton.1 h1];exact⟨by simp only;omega,by simp only;omega⟩
 ·rw [List.mem_singleton.1 hb];exact(h.1 a ha).2
def NT (n:Nat) (l:List aE):Prop:=TB l∧IO n l
def RN (n w:Nat) (r:aA):Prop:=RC r∧IO w r.j∧IO n r.t∧0≤r.mu
def RsN (n w:Nat) (l:List aA):Prop:=∀r∈l,RN n w r
theorem RsN.snoc {n w:Nat} {l:List aA} {r:aA} (h:RsN n w l) (hr:RN n w r):RsN n w (l++[r]):=fun x hx=>by
 rcases List.mem_append.1 hx with h1|h1
 ·exact h x h1
 ·rw [List.mem_singleton.1 h1];exact hr
theorem aEY {n:Nat} (hn:n≤12):∀(t i:Nat) (out:List aE) (v:Int),i+t=n→0≤v→v≤4000000000000→out.length≤i→(∀t∈out,Bd 8 t.k)→IO i out→∃r,NT n r∧∀K k,t<k→eO K (n:Int) k out v (i:Int)=some r
 |0,i,out,v,hi,h0,h1,hl,hb,hd=>⟨out,⟨⟨by omega,hb⟩,by rw [show n=i by omega];exact hd⟩,fun K k hk=>by
  obtain⟨k',rfl,_⟩:=bD hk
  simp only [eO,dF (show¬(i:Int)<(n:Int) by omega),bU]⟩
 |t+1,i,out,v,hi,h0,h1,hl,hb,hd=>by
  have m7:=aCs (a:=v) (m:=7) h0 (by omega)
  obtain⟨x,x1,x2,x3⟩:=tab7 m7.1 m7.2
  have m3:=aCs (a:=v/7) (m:=3) (by omega) (by omega)
  have e1:yK v 7=some (v%7):=mT h0 (by omega)
  have e2:zX v 7=some (v/7):=tF h0 (by omega) (by omega)
  have e3:yK (v/7) 3=some (v/7%3):=mT (by omega) (by omega)
  have e4:zX (v/7) 3=some (v/7/3):=tF (by omega) (by omega) (by omega)
  have e5:aT (1+v/7%3)=some (1+v/7%3):=k5 (by omega)
  by_cases hx:x=0
  ·obtain⟨r,r1,r2⟩:=aEY hn t (i+1) out (v/7/3) (by omega) (by omega) (by omega) (by omega) hb hd.up
   refine⟨r,r1,fun K k hk=>?_⟩
   obtain⟨k',rfl,_⟩:=bD hk
   simp only [eO,dT (show(i:Int)<(n:Int) by omega),cA,e1,oB,x1,e2,nF hx,bU,e4,oC (i:=i) (by omega)]
   exact r2 K k' (by omega)
  ·obtain⟨q,q1,q2,q3⟩:=aDy (k:=8) (p:=x) (q:=1+v/7%3) (by omega) (by omega) (by omega) (by omega)
   obtain⟨r,r1,r2⟩:=aEY hn t (i+1) (out++[⟨(i:Int),q⟩]) (v/7/3) (by omega) (by omega) (by omega) (by simp;omega) (fun t ht=>by
    rcases List.mem_append.1 ht with h|h
    ·exact hb t h
    ·rw [List.mem_singleton.1 h];exact q3) hd.snoc
   refine⟨r,r1,fun K k hk=>?_⟩
   obtain⟨k',rfl,_⟩:=bD hk
   simp only [eO,dT (show(i:Int)<(n:Int) by omega),cA,e1,oB,x1,e2,nT hx,e3,e5,q1,apS (xs:=out) (x:=(⟨(i:Int),q⟩:aE)) (by omega),e4,oC (i:=i) (by omega)]
   exact r2 K k' (by omega)
theorem aGu {n:Nat} (hn:n≤12) {v:Int} (h0:0≤v) (h1:v≤4000000000000):∃r,NT n r∧∀K,n<K→eF K v (n:Int)=some r:=by
 obtain⟨r,r1,r2⟩:=aEY hn n 0 [] v (by omega) h0 h1 (by simp) (fun t h=>absurd h List.not_mem_nil) IO.nil
 refine⟨r,r1,fun K hK=>?_⟩
 have:=r2 K K hK
 simp only [Int.natCast_zero] at this
 simp only [eF,this,oB,pV]
theorem aOe {p q:Int} (hp:0≤p) (hq:0<q):(0:Rat)≤(p:Rat)/(q:Rat):=by
 rw [←Rat.divInt_eq_div]
 exact(Rat.divInt_nonneg_iff_of_pos_right hq).2 hp
theorem aLm {q:Rat} (h:0≤q):0≤q.num.sign:=by
 have h2:=Rat.num_nonneg.2 h
 rcases Int.lt_or_eq_of_le h2 with h|h
 ·rw [Int.sign_eq_one_of_pos h];omega
 ·rw [←h];decide
theorem aTB {q:Rat} (h:0≤q) (h0:q≠0):0<q.num.sign:=by
 have h1:=aLm h
 have h2:q.num.sign≠0:=fun e=>h0 (aEP.1 e)
 omega
theorem aHx {l:List Int} (hl:aFw l) (i:Nat) (hi:i≤10) (n:Nat) (hn:1≤n∧n≤4):∃v129 v137 v145 v151 q r131 r139 r197,
  bE l (9+3*(i:Int)) 1099511627776=some v129∧bE l (10+3*(i:Int)) 1099511627776=some v137∧bE l (11+3*(i:Int)) 5=some v145∧bE l (11+3*(i:Int)) 3=some v151∧aT (1+v151)=some (1+v151)∧qof v145 (1+v151)=some q∧Bd 8 q∧0≤v129∧v129≤4000000000000∧NT n r131∧NT n r139∧NT (n-1) r197∧0≤q∧
  ∀K,n<K→eF K v129 (n:Int)=some r131∧eF K v137 (n:Int)=some r139∧eF K v129 ((n:Int)-1)=some r197:=by
 obtain⟨v,v1,v2,v3⟩:=aCd hl (9+3*(i:Int)) (m:=1099511627776) (by omega)
 obtain⟨w,w1,w2,w3⟩:=aCd hl (10+3*(i:Int)) (m:=1099511627776) (by omega)
 obtain⟨x,x1,x2,x3⟩:=aCd hl (11+3*(i:Int)) (m:=5) (by omega)
 obtain⟨y,y1,y2,y3⟩:=aCd hl (11+3*(i:Int)) (m:=3) (by omega)
 obtain⟨q,q1,q2,q3⟩:=aDy (k:=8) (p:=x) (q:=1+y) (by omega) (by omega) (by omega) (by omega)
 obtain⟨a,a1,a2⟩:=aGu (n:=n) (v:=v) (by omega) v2 (by omega)
 obtain⟨b,b1,b2⟩:=aGu (n:=n) (v:=w) (by omega) w2 (by omega)
 obtain⟨c,c1,c2⟩:=aGu (n:=n-1) (v:=v) (by omega) v2 (by omega)
 refine⟨v,w,x,y,q,a,b,c,v1,w1,x1,y1,k5 (by omega),q1,q3,v2,by omega,a1,b1,c1,by rw [q2];exact aOe x2 (by omega),fun K hK=>⟨a2 K hK,b2 K hK,?_⟩⟩
 have:=c2 K (by omega)
 rw [show((n-1:Nat):Int)=(n:Int)-1 by omega] at this
 exact this
theorem aHh {l:List Int} (hl:aFw l) {n:Nat} (hn:n≤4):∀(t i:Nat) (a b:List Rat) (d:List aD),i+t=n→a.length=i→b.length=i→d.length=i→sV 8 a→sV 4 b→aG6 d→(∀x∈a,x=0)→d.all aEW=true→
  ∃a' b' d',a'.length=n∧b'.length=n∧d'.length=n∧sV 8 a'∧sV 4 b'∧aG6 d'∧(∀x∈a',x=0)∧d'.all aEW=true∧∀K k,t<k→iL K l (n:Int) k a b d (i:Int)=some (a',b',d')
 |0,i,a,b,d,hi,h1,h2,h3,h4,h5,h6,h7,h8=>⟨a,b,d,by omega,by omega,by omega,h4,h5,h6,h7,h8,fun K k hk=>by
  obtain⟨k',rfl,_⟩:=bD hk
  simp only [iL,dF (show¬(i:Int)<(n:Int) by omega),bU]⟩
 |t+1,i,a,b,d,hi,h1,h2,h3,h4,h5,h6,h7,h8=>by
  obtain⟨v,v1,v2,v3⟩:=aCd hl (1+(i:Int)) (m:=1073741824) (by omega)
  have m3:=aCs (a:=v) (m:=3) v2 (by omega)
  have m4:=aCs (a:=v/3) (m:=4) (by omega) (by omega)
  have m13:=aCs (a:=v/12) (m:=13) (by omega) (by omega)
  have m33:=aCs (a:=v/156) (m:=3) (by omega) (by omega)
  have e0:aT (1+(i:Int))=some (1+(i:Int)):=k5 (by omega)
  have e1:yK v 3=some (v%3):=mT v2 (by omega)
  have e2:aT (1+v%3)=some (1+v%3):=k5 (by omega)
  have e3:zX v 3=some (v/3):=tF v2 (by omega) (by omega)
  have e4:yK (v/3) 4=some (v/3%4):=mT (by omega) (by omega)
  have e5:aT (1+v/3%4)=some (1+v/3%4):=k5 (by omega)
  obtain⟨q,q1,q2,q3⟩:=aDy (k:=8) (p:=1+v%3) (q:=1+v/3%4) (by omega) (by omega) (by omega) (by omega)
  have e6:zX v 12=some (v/12):=tF v2 (by omega) (by omega)
  have e7:yK (v/12) 13=some (v/12%13):=mT (by omega) (by omega)
  have e8:aT (v/12%13-6)=some (v/12%13-6):=k5 (by omega)
  have e9:zX v 156=some (v/156):=tF v2 (by omega) (by omega)
  have e10:yK (v/156) 3=some (v/156%3):=mT (by omega) (by omega)
  have e11:aT (1+v/156%3)=some (1+v/156%3):=k5 (by omega)
  obtain⟨p,p1,p2,p3⟩:=aDy (k:=4) (p:=v/12%13-6) (q:=1+v/156%3) (by omega) (by omega) (by omega) (by omega)
  have hq:aOS ⟨q,0,false,0,0⟩:=⟨q3,by rw [q2];exact aTn (by omega) (by omega),Bd.zero.mono (by omega)⟩
  obtain⟨a',b',d',g1,g2,g3,g4,g5,g6,g8,g9,g7⟩:=aHh hl hn t (i+1) (a++[0]) (b++[p]) (d++[⟨q,0,false,0,0⟩]) (by omega) (by simp;omega) (by simp;omega) (by simp;omega) (h4.snoc (Bd.zero.mono (by omega))) (h5.snoc p3) (fun x hx=>by
   rcases List.mem_append.1 hx with h|h
   ·exact h6 x h
   ·rw [List.mem_singleton.1 h];exact hq) (fun x hx=>by
   rcases List.mem_append.1 hx with h|h
   ·exact h7 x h
   ·rw [List.mem_singleton.1 h]) (by
   rw [List.all_append,h8,List.all_cons,show aEW ⟨q,0,false,0,0⟩=true from decide_eq_true (aTB (by rw [q2];exact aOe (by omega) (by omega)) hq.2.1)];rfl)
  refine⟨a',b',d',g1,g2,g3,g4,g5,g6,g8,g9,fun K k hk=>?_⟩
  obtain⟨k',rfl,_⟩:=bD hk
  simp only [iL,dT (show(i:Int)<(n:Int) by omega),cA,e0,oB,v1,e1,e2,e3,e4,e5,q1,apS (xs:=d) (x:=(⟨q,0,false,0,0⟩:aD)) (by omega),e6,e7,e8,e9,e10,e11,p1,apS (xs:=b) (x:=p) (by omega),apS (xs:=a) (x:=(0:Rat)) (by omega),oC (i:=i) (by omega)]
  exact g7 K k' (by omega)
theorem aGB {x107:List aA} {i:Nat} {v129:Int} {r:aA} {n w:Nat} (hi:i≤10) (hv:0≤v129) (hm:Bd 8 r.mu) (hr:RN n w r) (hl:x107.length≤100):∃r',RN n w r'∧∀K recl,fE K x107 (i:Int) v129 recl r=recl (x107++[r']) ((i+1:Nat):Int):=by
 by_cases h0:r.mu=0
 ·refine⟨⟨r.kind,r.a,r.b,r.edge,r.gap,r.j,[],0,r.e⟩,⟨⟨⟨hr.1.1.1,TB.nil⟩,Bd.zero.mono (by omega)⟩,hr.2.1,IO.nil,Rat.le_refl⟩,fun K recl=>?_⟩
  simp only [fE,mF hm (by omega),oB,qT (aEP.2 h0),cA,apS (show x107.length≤60000000000 by omega),oC (i:=i) (by omega)]
 ·by_cases h1:v129%5=0
  ·refine⟨⟨r.kind,r.a,r.b,r.edge,r.gap,r.j,[],0,r.e⟩,⟨⟨⟨hr.1.1.1,TB.nil⟩,Bd.zero.mono (by omega)⟩,hr.2.1,IO.nil,Rat.le_refl⟩,fun K recl=>?_⟩
   simp only [fE,mF hm (by omega),oB,qF (fun h=>h0 (aEP.1 h)),bU,mT hv (show(0:Int)<5 by omega),qT h1,cA,apS (show x107.length≤60000000000 by omega),oC (i:=i) (by omega)]
  ·refine⟨r,hr,fun K recl=>?_⟩
   simp only [fE,mF hm (by omega),oB,qF (fun h=>h0 (aEP.1 h)),bU,mT hv (show(0:Int)<5 by omega),qF h1,apS (show x107.length≤60000000000 by omega),oC (i:=i) (by omega)]
theorem aK3 {x107:List aA} {i:Nat} {v129:Int} {a b:List aE} {m:Rat} {n w:Nat} (hi:i≤10) (hv:0≤v129) (hm:Bd 8 m) (ha:NT w a) (hb:NT n b) (hm0:0≤m) (hl:x107.length≤100):∃r',RN n w r'∧∀K recl,gM K x107 (i:Int) v129 a b m recl=recl (x107++[r']) ((i+1:Nat):Int):=by
 by_cases h0:m=0
 ·refine⟨⟨0,0,(i:Int),0,0,a,[],0,0⟩,⟨⟨⟨ha.1,TB.nil⟩,Bd.zero.mono (by omega)⟩,ha.2,IO.nil,Rat.le_refl⟩,fun K recl=>?_⟩
  simp only [gM,mF hm (by omega),oB,qT (aEP.2 h0),cA,apS (show x107.length≤60000000000 by omega),oC (i:=i) (by omega)]
 ·by_cases h1:v129%5=0
  ·refine⟨⟨0,0,(i:Int),0,0,a,[],0,0⟩,⟨⟨⟨ha.1,TB.nil⟩,Bd.zero.mono (by omega)⟩,ha.2,IO.nil,Rat.le_refl⟩,fun K recl=>?_⟩
   simp only [gM,mF hm (by omega),oB,qF (fun h=>h0 (aEP.1 h)),bU,mT hv (show(0:Int)<5 by omega),qT h1,cA,apS (show x107.length≤60000000000 by omega),oC (i:=i) (by omega)]
  ·refine⟨⟨0,0,(i:Int),0,0,a,b,m,0⟩,⟨⟨⟨ha.1,hb.1⟩,hm⟩,ha.2,hb.2,hm0⟩,fun K recl=>?_⟩
   simp only [gM,mF hm (by omega),oB,qF (fun h=>h0 (aEP.1 h)),bU,mT hv (show(0:Int)<5 by omega),qF h1,apS (show x107.length≤60000000000 by omega),oC (i:=i) (by omega)]
theorem aDL {l:List Int} (hl:aFw l) (a1:Bool) (n:Nat) (hn:1≤n∧n≤4) {v8:Int} (h8:bE l 8 5=some v8) (h8':v8<5):∀(t i:Nat) (x:List aA),i+t=4→x.length=i→RsN n (bif a1 then n else n-1) x→
  ∃r,RsN n (bif a1 then n else n-1) r∧r.length≤4∧∀K k,n<K→t<k→dH K l a1 (n:Int) k x (i:Int)=some r
 |0,i,x,hi,hx,hr=>⟨x,hr,by omega,fun K k hK hk=>by
  obtain⟨k',rfl,_⟩:=bD hk
  simp only [dH,h8,oB,dF (show¬(i:Int)<v8 by omega),bU]⟩
 |t+1,i,x,hi,hx,hr=>by
  by_cases hlt:(i:Int)<v8
  ·obtain⟨v129,v137,v145,v151,q,r131,r139,r197,b1,b2,b3,b4,b5,b6,b7,b8,b9,b10,b11,b12,b14,b13⟩:=aHx hl i (by omega) n hn
   have e3:aT (3*(i:Int))=some (3*(i:Int)):=k5 (by omega)
   have e9:aT (9+3*(i:Int))=some (9+3*(i:Int)):=k5 (by omega)
   have e10:aT (10+3*(i:Int))=some (10+3*(i:Int)):=k5 (by omega)
   have e11:aT (11+3*(i:Int))=some (11+3*(i:Int)):=k5 (by omega)
   have en:aT ((n:Int)-1)=some ((n:Int)-1):=k5 (by omega)
   cases a1
   ·obtain⟨r',c1,c2⟩:=aGB (x107:=x) (i:=i) (v129:=v129) (r:=⟨0,0,(i:Int),0,0,r197,r139,q,0⟩) (by omega) b8 b7 (n:=n) (w:=n-1) ⟨⟨⟨b12.1,b11.1⟩,b7⟩,b12.2,b11.2,b14⟩ (by omega)
    obtain⟨r,d1,d2,d3⟩:=aDL hl false n hn h8 h8' t (i+1) (x++[r']) (by omega) (by simp;omega) (hr.snoc c1)
    refine⟨r,d1,d2,fun K k hK hk=>?_⟩
    obtain⟨k',rfl,_⟩:=bD hk
    obtain⟨s1,s2,s3⟩:=b13 K hK
    simp only [dH,h8,oB,dT hlt,cA,e3,e9,e10,e11,b1,b2,b3,b4,b5,b6,s1,s2,s3,Bool.not_false,en,c2]
    exact d3 K k' hK (by omega)
   ·obtain⟨r',c1,c2⟩:=aGB (x107:=x) (i:=i) (v129:=v129) (r:=⟨0,0,(i:Int),0,0,r131,r139,q,0⟩) (by omega) b8 b7 (n:=n) (w:=n) ⟨⟨⟨b10.1,b11.1⟩,b7⟩,b10.2,b11.2,b14⟩ (by omega)
    obtain⟨r,d1,d2,d3⟩:=aDL hl true n hn h8 h8' t (i+1) (x++[r']) (by omega) (by simp;omega) (hr.snoc c1)
    refine⟨r,d1,d2,fun K k hK hk=>?_⟩
    obtain⟨k',rfl,_⟩:=bD hk
    obtain⟨s1,s2,s3⟩:=b13 K hK
    simp only [dH,h8,oB,dT hlt,cA,e3,e9,e10,e11,b1,b2,b3,b4,b5,b6,s1,s2,Bool.not_true,bU,c2]
    exact d3 K k' hK (by omega)
  ·refine⟨x,hr,by omega,fun K k hK hk=>?_⟩
   obtain⟨k',rfl,_⟩:=bD hk
   simp only [dH,h8,oB,dF hlt,bU]
theorem aFV {l:List Int} (hl:aFw l) (n:Nat) (hn:1≤n∧n≤4) {v8:Int} (h8:bE l 8 5=some v8) (h8':v8<5):∀(t i:Nat) (x:List aA),i+t=4→x.length=i→RsN n n x→
  ∃r,RsN n n r∧r.length≤4∧∀K k,n<K→t<k→d8 K l (n:Int) k x (i:Int)=some r
 |0,i,x,hi,hx,hr=>⟨x,hr,by omega,fun K k hK hk=>by
  obtain⟨k',rfl,_⟩:=bD hk
  simp only [d8,h8,oB,dF (show¬(i:Int)<v8 by omega),bU]⟩
 |t+1,i,x,hi,hx,hr=>by
  by_cases hlt:(i:Int)<v8
  ·obtain⟨v129,v137,v145,v151,q,r131,r139,r197,b1,b2,b3,b4,b5,b6,b7,b8,b9,b10,b11,b12,b14,b13⟩:=aHx hl i (by omega) n hn
   have e3:aT (3*(i:Int))=some (3*(i:Int)):=k5 (by omega)
   have e9:aT (9+3*(i:Int))=some (9+3*(i:Int)):=k5 (by omega)
   have e10:aT (10+3*(i:Int))=some (10+3*(i:Int)):=k5 (by omega)
   have e11:aT (11+3*(i:Int))=some (11+3*(i:Int)):=k5 (by omega)
   obtain⟨r',c1,c2⟩:=aK3 (x107:=x) (i:=i) (v129:=v129) (a:=r131) (b:=r139) (m:=q) (by omega) b8 b7 b10 b11 b14 (by omega)
   obtain⟨r,d1,d2,d3⟩:=aFV hl n hn h8 h8' t (i+1) (x++[r']) (by omega) (by simp;omega) (hr.snoc c1)
   refine⟨r,d1,d2,fun K k hK hk=>?_⟩
   obtain⟨k',rfl,_⟩:=bD hk
   obtain⟨s1,s2,s3⟩:=b13 K hK
   simp only [d8,h8,oB,dT hlt,cA,e3,e9,e10,e11,b1,b2,b3,b4,b5,b6,s1,s2,c2]
   exact d3 K k' hK (by omega)
  ·refine⟨x,hr,by omega,fun K k hK hk=>?_⟩
   obtain⟨k',rfl,_⟩:=bD hk
   simp only [d8,h8,oB,dF hlt,bU]
theorem aP2 {n w:Nat} {l:List aE} (h:IO w l) (hw:w≤n):∀t i,i+t=l.length→tks n l t i=true
 |0,_,_=>rfl
 |t+1,i,hi=>by
  unfold tks
  rw [aP2 h hw t (i+1) (by omega),Bool.and_true]
  have hil:i<l.length:=by omega
  have e:∀k,(hk:k<l.length)→xN l k=l[k]:=fun k hk=>by
   unfold xN;simp only [List.getD_eq_getElem?_getD,List.getElem?_eq_getElem hk,Option.getD_some]
  have h1:=h.1 l[i] (List.getElem_mem hil)
  refine decide_eq_true ⟨by rw [e i hil];exact h1.1,by rw [e i hil];have:=h1.2;omega,fun h0=>?_⟩
  rw [e i hil,e (i-1) (by omega)]
  exact List.pairwise_iff_getElem.1 h.2 (i-1) i (by omega) hil (by omega)
theorem aRu {v:List Rat}:∀(l:List aE) (x:Rat),(∀t∈l,trm v t=0)→rtf v l x=x
 |[],x,_=>rfl
 |t::l,x,h=>by
  unfold rtf
  rw [h t (List.mem_cons_self ..),Rat.add_zero]
  exact aRu l x fun u hu=>h u (List.mem_cons_of_mem _ hu)
theorem aKT {d:List aD} {f v:List Rat} {l:List aA} {n w:Nat} (hn:n≤4) (hw:w≤n) (hd:d.length=n) (hf:f.length=n) (hv:v.length=n) (hp:d.all aEW=true) (hl:RsN n w l) (h0:∀j,j<w→kP v j=0):z6 d f v l=true:=by
 unfold z6
 rw [hp,decide_eq_true (show d.length≤12∧f.length=d.length∧v.length=d.length by omega),Bool.true_and,Bool.true_and]
 refine List.all_eq_true.2 fun r hr=>?_
 obtain⟨r1,r2,r3,r4⟩:=hl r hr
 have e:rt r.j v=0:=aRu _ _ fun t ht=>by
  have:=r2.1 t ht
  unfold trm
  rw [decide_eq_true (show 0≤t.dof∧t.dof<(v.length:Int) by omega),cA,h0 _ (by omega),Rat.mul_zero]
 unfold aAZ sO tOk
 rw [e,hd,aP2 r2 hw _ _ (Nat.zero_add _),aP2 r3 (Nat.le_refl n) _ _ (Nat.zero_add _),decide_eq_true (aLm r4)];rfl
theorem aIg {a:List Rat} (h:∀x∈a,x=0) (j:Nat):kP a j=0:=by
 by_cases e:j<a.length
 ·exact h _ (jV e)
 ·unfold kP;rw [List.getD_eq_getElem?_getD,List.getElem?_eq_none (by omega)];rfl
theorem aOj {l:List Int} (hl:aFw l) (rest:Bool):∃s,aTt s∧z6 s.dofs s.load s.v s.rows=true∧sV 4 s.load∧Ev (fun K=>lG K l rest) s:=by
 obtain⟨v0,a1,a2,a3⟩:=aCd hl 0 (m:=4) (by omega)
 obtain⟨n,hn⟩:∃n:Nat,1+v0=(n:Int):=⟨(1+v0).toNat,by omega⟩
 have e1:aT (1+v0)=some (n:Int):=by rw [k5 (by omega),hn]
 obtain⟨a,b,d,g1,g2,g3,g4,g5,g6,g8,g9,g7⟩:=aHh hl (n:=n) (by omega) n 0 [] [] [] (by omega) rfl rfl rfl (fun t h=>absurd h List.not_mem_nil) (fun t h=>absurd h List.not_mem_nil) (fun t h=>absurd h List.not_mem_nil) (fun t h=>absurd h List.not_mem_nil) rfl
 obtain⟨v5,b1,b2,b3⟩:=aCd hl 5 (m:=3) (by omega)
 obtain⟨v8,c1,c2,c3⟩:=aCd hl 8 (m:=5) (by omega)
 obtain⟨r,d1,d2,d3⟩:=aFV hl n (by omega) c1 c3 4 0 [] rfl rfl (fun x h=>absurd h List.not_mem_nil)
 obtain⟨r',d1',d2',d3'⟩:=aDL hl rest n (by omega) c1 c3 4 0 [] rfl rfl (fun x h=>absurd h List.not_mem_nil)
 simp only [Int.natCast_zero] at g7 d3 d3'
 by_cases h5:0<v5
 ·cases rest
  ·obtain⟨v6,f1,f2,f3⟩:=aCd hl 6 (m:=9) (by omega)
   obtain⟨v7,f4,f5,f6⟩:=aCd hl 7 (m:=3) (by omega)
   obtain⟨q,q1,q2,q3⟩:=aDy (k:=8) (p:=v6-4) (q:=1+v7) (by omega) (by omega) (by omega) (by omega)
   have e2:aT ((n:Int)-1)=some ((n-1:Nat):Int):=ckN (m:=0) (by omega) (by omega)
   have e3:aT (v6-4)=some (v6-4):=k5 (by omega)
   have e4:aT (1+v7)=some (1+v7):=k5 (by omega)
   refine⟨⟨d,b,a.set (n-1) q,r'⟩,⟨by simp only;omega,by simp only;omega,g6,by simp only;omega,by simp only [List.length_set];omega,(fun x hx=>(g5 x hx).mono (by omega)),fun x hx=>?_,fun x hx=>(d1' x hx).1.1,d2',fun x hx=>(d1' x hx).1⟩,aKT (n:=n) (w:=n-1) (by omega) (by omega) g3 g2 (by simp only [List.length_set];omega) g9 d1' fun j hj=>by unfold kP;rw [List.getD_eq_getElem?_getD,List.getElem?_set_ne (by omega),←List.getD_eq_getElem?_getD];exact aIg g8 j,g5,⟨6+n,fun K hK=>?_⟩⟩
   ·rcases List.mem_or_eq_of_mem_set hx with h|h
    ·exact g4 x h
    ·rw [h];exact q3
   ·simp only [lG,a1,oB,e1,g7 K K (by omega),kF,b1,dT h5,cA,Bool.not_false,e2,f1,e3,f4,e4,q1,aCJ (l:=a) (i:=n-1) (by omega),stG (xs:=a) (i:=n-1) (v:=q) (by omega),kB,d3' K K (by omega) (by omega),lK]
  ·refine⟨⟨d,b,a,r'⟩,⟨by simp only;omega,by simp only;omega,g6,by simp only;omega,by simp only;omega,(fun x hx=>(g5 x hx).mono (by omega)),g4,fun x hx=>(d1' x hx).1.1,d2',fun x hx=>(d1' x hx).1⟩,aKT (n:=n) (w:=n) (by omega) (by omega) g3 g2 g1 g9 d1' fun j _=>aIg g8 j,g5,⟨6+n,fun K hK=>?_⟩⟩
   simp only [lG,a1,oB,e1,g7 K K (by omega),kF,b1,dT h5,cA,Bool.not_true,bU,kB,d3' K K (by omega) (by omega),lK]
 ·refine⟨⟨d,b,a,r⟩,⟨by simp only;omega,by simp only;omega,g6,by simp only;omega,by simp only;omega,(fun x hx=>(g5 x hx).mono (by omega)),g4,fun x hx=>(d1 x hx).1.1,d2,fun x hx=>(d1 x hx).1⟩,aKT (n:=n) (w:=n) (by omega) (by omega) g3 g2 g1 g9 d1 fun j _=>aIg g8 j,g5,⟨6+n,fun K hK=>?_⟩⟩
  simp only [lG,a1,oB,e1,g7 K K (by omega),kF,b1,dF h5,bU,oV,d3 K K (by omega) (by omega),o8]
end Go.Proofs.YtldhbdgfpjoamaaGreat
set_option linter.unusedVariables false
namespace Go.Proofs.YtldhbdgfpjoamaaGreat
end Go.Proofs.YtldhbdgfpjoamaaGreat
set_option linter.unusedVariables false
namespace Go.Proofs.YtldhbdgfpjoamaaGreat
theorem aQs {c:Rat} {f:Nat→Rat} {n:Nat} (t:aE):trm (mp (fun j=>c*f j) n) t=c*trm (mp f n) t:=by
 unfold trm
 rw [bO,bO]
 by_cases h:0≤t.dof∧t.dof<(n:Int)
 ·rw [decide_eq_true h,cA,cA,zM (show t.dof.toNat<n by omega),zM (show t.dof.toNat<n by omega)];grind
 ·rw [decide_eq_false h,bU,bU,Rat.mul_zero]
theorem aMv {c:Rat} {f:Nat→Rat} {n:Nat}:∀(l:List aE) (x:Rat),rtf (mp (fun j=>c*f j) n) l (c*x)=c*rtf (mp f n) l x
 |[],x=>rfl
 |t::l,x=>by
  unfold rtf
  rw [aQs,←Rat.mul_add];exact aMv l _
theorem aLk {c:Rat} {f:Nat→Rat} {n:Nat} (l:List aE):rt l (mp (fun j=>c*f j) n)=c*rt l (mp f n):=by
 have:=aMv (c:=c) (f:=f) (n:=n) l 0
 rwa [Rat.mul_zero] at this
theorem aS8 {c:Rat} {v:List Rat} {l:List aA} {f:Nat→Rat} {n k:Nat}:rv v l (mp (fun j=>c*f j) n) k=c*rv v l (mp f n) k:=by
 unfold rv
 rw [aLk,aLk]
 split
 ·rfl
 ·split
  ·rfl
  ·split
   ·grind
   ·rw [Rat.mul_zero]
end Go.Proofs.YtldhbdgfpjoamaaGreat
set_option linter.unusedVariables false
namespace Go.Proofs.YtldhbdgfpjoamaaGreat
def aPy (p:Nat→aI) (c:Rat) (q:Nat→aI):Nat→aI:=fun i=>⟨(p i).n+c*(q i).n,(p i).f+c*(q i).f⟩
theorem aSH {v:List Rat} {l:List aA} {z y:Nat→Rat} {c:Rat}:pz v l (fun k=>z k+c*y k)=aPy (pz v l z) c (pz v l y):=by
 funext i
 unfold pz aPy
 by_cases h:(hU l i).t.length=0
 ·simp only [if_pos h];congr 1;grind
 ·by_cases h2:(rt (hU l i).t v).num.sign≠0
  ·simp only [if_neg h,if_pos h2];congr 1;grind
  ·simp only [if_neg h,if_neg h2];congr 1;grind
theorem aNN {l:List aA} {p q:Nat→aI} {c:Rat} {m j:Nat}:ptot l (aPy p c q) m j=ptot l p m j+c*ptot l q m j:=by
 unfold ptot
 rw [←rG,←aBJ]
 refine bM fun r _=>?_
 unfold rcq aPy
 grind
theorem aQ9 {d:List aD} {l:List aA} {p q:Nat→aI} {c:Rat}:acc d z0 l (aPy p c q)=fun j=>acc d z0 l p j+c*acc d z0 l q j:=by
 funext j
 unfold acc z0
 rw [aNN];grind
theorem aTI {v:List Rat} {l:List aA} {z y:Nat→Rat} {c:Rat} {k:Nat}:zv v l (fun k=>z k+c*y k) k=zv v l z k+c*zv v l y k:=by
 unfold zv
 split
 ·grind
 ·split
  ·rfl
  ·split
   ·rfl
   ·grind
def gv (d:List aD) (v:List Rat) (l:List aA) (z:Nat→Rat) (i:Nat):Rat:=rv v l (mp (acc d z0 l (pz v l z)) d.length) i+zv v l z i
theorem aOO {d:List aD} {v:List Rat} {l:List aA} {z y:Nat→Rat} {c:Rat} {i:Nat}:gv d v l (fun k=>z k+c*y k) i=gv d v l z i+c*gv d v l y i:=by
 unfold gv
 rw [aSH,aQ9,aTI,aLe,aS8];grind
theorem aQK {d:List aD} {v:List Rat} {l:List aA} {i:Nat}:gv d v l z0 i=0:=by
 have h:=aOO (d:=d) (v:=v) (l:=l) (z:=z0) (y:=z0) (c:=-1) (i:=i)
 have e:(fun k=>z0 k+ -1*z0 k)=z0:=by funext k;show(0:Rat)+ -1*0=0;grind
 rw [e] at h;grind
theorem aKS {d:List aD} {v:List Rat} {l:List aA} {z:Nat→Rat} {i:Nat}:∀m,gv d v l (tz z m) i=sm (fun k=>Mf d v l i k*z k) m
 |0=>by
  have e:tz z 0=z0:=funext fun k=>aEm (Nat.zero_le _)
  rw [e];exact aQK
 |m+1=>by
  have e:tz z (m+1)=fun k=>tz z m k+z m*ek m k:=funext fun k=>by
   by_cases h:k=m
   ·subst h
    rw [aL7 rfl,aEm (Nat.le_refl _)]
    unfold ek;rw [bA];grind
   ·rw [aFk h]
    unfold ek;rw [cG h];show _=_+z m*0;grind
  rw [e,aOO,aKS m]
  show _=sm _ m+Mf d v l i m*z m
  have:gv d v l (ek m) i=Mf d v l i m:=rfl
  rw [this];grind
theorem aS3 {d:List aD} {f v:List Rat} {l:List aA} {z:Nat→Rat} {n i:Nat} (hz:tz z n=z):sm (fun k=>Mf d v l i k*z k) n+qf d (kP f) v l i=vl v l (mp (acc d (kP f) l (pz v l z)) d.length) z i:=by
 rw [←aKS,hz]
 unfold gv vl qf
 rw [aHG (f:=kP f) (p:=pz v l z),aLe]
 generalize rv v l (mp (acc d (kP f) l p0) d.length) i=x
 generalize rv v l (mp (acc d z0 l (pz v l z)) d.length) i=y
 generalize zv v l z i=u
 grind
structure aNo (r:aA) (v:List Rat) (a:List Rat) (p:aI):Prop where
 n0:0≤p.n
 j0:0≤rt r.j a
 nj:p.n=0∨rt r.j a=0
 none:r.t.length=0→p.f=0
 slip:r.t.length≠0→rt r.t v≠0→p.f=(((-(rt r.t v).num.sign:Int):Rat)/((1:Int):Rat))*(r.mu*p.n)
 stick:r.t.length≠0→rt r.t v=0→p.f≤r.mu*p.n∧-(p.f)≤r.mu*p.n∧(0<rt r.t a→p.f=-(r.mu*p.n))∧(rt r.t a<0→p.f=r.mu*p.n)
theorem aOX {d:List aD} {f v:List Rat} {l:List aA} {z w:Nat→Rat} (hz:tz z (off v l l.length)=z) (h:Sol (Mf d v l) (qf d (kP f) v l) (off v l l.length) z w) {r:Nat} (hr:r<l.length):aNo (hU l r) v (mp (acc d (kP f) l (pz v l z)) d.length) (pz v l z r):=by
 have W:∀i,i<off v l l.length→w i=vl v l (mp (acc d (kP f) l (pz v l z)) d.length) z i:=fun i hi=>by rw [h.eq i hi,aS3 hz]
 generalize mp (acc d (kP f) l (pz v l z)) d.length=a at *
 have q0:vq v l r 0:=.inl rfl
 have b0:=sM (v:=v) hr q0
 rw [Nat.add_zero] at b0
 have u0:uk v l (off v l r)=(r,0):=aEy q0 hr
 have w0:w (off v l r)=rt (hU l r).j a:=by
  rw [W _ b0]
  unfold vl rv zv
  simp only [u0,if_true];rw [Rat.add_zero]
 have z1:=h.z0 _ b0
 have z2:=h.w0 _ b0
 have z3:=h.zw _ b0
 rw [w0] at z2 z3
 have pn:(pz v l z r).n=z (off v l r):=by
  unfold pz
  split
  ·rfl
  ·split<;>rfl
 refine⟨by rw [pn];exact z1,z2,by rw [pn];exact z3,fun ht=>?_,fun ht hs=>?_,fun ht hs=>?_⟩
 ·unfold pz;rw [if_pos ht]
 ·have:(rt (hU l r).t v).num.sign≠0:=fun e=>hs (aEP.1 e)
  rw [pn]
  unfold pz;rw [if_neg ht,if_pos this]
 ·have hk:stk v (hU l r)=true:=by
   unfold stk
   rw [decide_eq_true (show 0<(hU l r).t.length by omega),decide_eq_true (aEP.2 hs)];rfl
  have q1:vq v l r 1:=.inr ⟨hk,by omega⟩
  have q2:vq v l r 2:=.inr ⟨hk,by omega⟩
  have q3:vq v l r 3:=.inr ⟨hk,by omega⟩
  have b1:=sM (v:=v) hr q1
  have b2:=sM (v:=v) hr q2
  have b3:=sM (v:=v) hr q3
  have w1:w (off v l r+1)=rt (hU l r).t a+z (off v l r+1+2):=by
   rw [W _ b1];unfold vl rv zv;simp only [aEy q1 hr];rfl
  have w2:w (off v l r+2)=-(rt (hU l r).t a)+z (off v l r+2+1):=by
   rw [W _ b2];unfold vl rv zv;simp only [aEy q2 hr];rfl
  have w3:w (off v l r+3)=0+((hU l r).mu*z (off v l r+3-3)-(z (off v l r+3-2)+z (off v l r+3-1))):=by
   rw [W _ b3];unfold vl rv zv;simp only [aEy q3 hr];rfl
  rw [show off v l r+1+2=off v l r+3 by omega] at w1
  rw [show off v l r+2+1=off v l r+3 by omega] at w2
  rw [show off v l r+3-3=off v l r by omega,show off v l r+3-2=off v l r+1 by omega,show off v l r+3-1=off v l r+2 by omega] at w3
  have f1:=h.z0 _ b1
  have f2:=h.z0 _ b2
  have f3:=h.z0 _ b3
  have g1:=h.w0 _ b1
  have g2:=h.w0 _ b2
  have g3:=h.w0 _ b3
  have c1:=h.zw _ b1
  have c2:=h.zw _ b2
  have c3:=h.zw _ b3
  rw [w1] at g1 c1
  rw [w2] at g2 c2
  rw [w3] at g3 c3
  have pf:(pz v l z r).f=z (off v l r+1)-z (off v l r+2):=by
   unfold pz;rw [if_neg ht,if_neg (fun e=>e (aEP.2 hs))]
  rw [pn,pf]
  generalize rt (hU l r).t a=t at *
  generalize z (off v l r+1)=x1 at *
  generalize z (off v l r+2)=x2 at *
  generalize z (off v l r+3)=x3 at *
  generalize(hU l r).mu*z (off v l r)=m at *
  refine⟨by grind,by grind,fun h=>?_,fun h=>?_⟩
  ·have e1:x1=0:=by grind
   have e3:0+(m-(x1+x2))=0:=by grind
   grind
  ·have e1:x2=0:=by grind
   have e3:0+(m-(x1+x2))=0:=by grind
   grind
theorem aJW {n most:Nat}:∀f T b r c cnt,(lem n most f T b r c cnt).2=0∨(lem n most f T b r c cnt).2=15∨(lem n most f T b r c cnt).2=16
 |0,T,b,r,c,cnt=>Or.inr (Or.inr rfl)
 |f+1,T,b,r,c,cnt=>by
  unfold lem
  by_cases e:cnt=most
  ·rw [if_pos e];exact Or.inr (Or.inr rfl)
  ·rw [if_neg e]
   by_cases e2:b r=2*n
   ·rw [if_pos e2];exact Or.inl rfl
   ·rw [if_neg e2]
    cases sel (pA T r c) n (if b r<n then b r+n else b r-n) n 0 none with
    |none=>exact Or.inr (Or.inl rfl)
    |some r'=>exact aJW f _ _ _ _ _
theorem aHW {M:Nat→Nat→Rat} {q:Nat→Rat} {n most:Nat}:(u5 M q n most).2=0∨(u5 M q n most).2=15∨(u5 M q n most).2=16:=by
 unfold u5
 cases ng q n 0
 ·exact Or.inl rfl
 ·exact aJW _ _ _ _ _ _
theorem aHf {d:List aD} {f v:List Rat} {l:List aA}:((aBe d f v l).2.2=15∨(aBe d f v l).2.2=16)∨∃z,aBe d f v l=(mp (acc d (kP f) l (pz v l z)) d.length,mp (pz v l z) l.length,0)∧∀r,r<l.length→aNo (hU l r) v (mp (acc d (kP f) l (pz v l z)) d.length) (pz v l z r):=by
 by_cases h0:(u5 (Mf d v l) (qf d (kP f) v l) (off v l l.length) 4096).2=0
 ·right
  obtain⟨z,w,h1,h2,h3⟩:=aN0 h0
  have ez:kP (u5 (Mf d v l) (qf d (kP f) v l) (off v l l.length) 4096).1.z=tz z (off v l l.length):=by
   rw [h1];funext j
   unfold tz
   by_cases e:j<off v l l.length
   ·rw [if_pos e,zM e]
   ·rw [if_neg e];unfold kP;rw [List.getD_eq_getElem?_getD,List.getElem?_eq_none (by rw [bO];omega)];rfl
  refine⟨tz z (off v l l.length),?_,fun r hr=>?_⟩
  ·unfold aBe;rw [nF h0,bU,ez]
  ·have tt:tz (tz z (off v l l.length)) (off v l l.length)=tz z (off v l l.length):=funext fun j=>by unfold tz;split<;>rfl
   have hs:Sol (Mf d v l) (qf d (kP f) v l) (off v l l.length) (tz z (off v l l.length)) w:=by
    have e:∀j,j<off v l l.length→tz z (off v l l.length) j=z j:=fun j hj=>if_pos hj
    exact⟨fun j hj=>by rw [e j hj];exact h3.z0 j hj,h3.w0,fun i hi=>by rw [h3.eq i hi];congr 1;exact bM fun j hj=>by rw [e j hj],fun j hj=>by rw [e j hj];exact h3.zw j hj⟩
   exact aOX tt hs hr
 ·left
  unfold aBe;rw [nT h0,cA]
  rcases aHW (M:=Mf d v l) (q:=qf d (kP f) v l) (n:=off v l l.length) (most:=4096) with h|h|h
  ·exact absurd h h0
  ·exact Or.inl h
  ·exact Or.inr h
end Go.Proofs.YtldhbdgfpjoamaaGreat
set_option linter.unusedVariables false
namespace Go.Proofs.YtldhbdgfpjoamaaGreat
theorem aKR {M:Nat→Nat→Rat} {q:Nat→Rat} {n most:Nat} (hP:PSD M q n):(u5 M q n most).2≠15:=by
 unfold u5
 cases hneg:ng q n 0
 ·rw [bU];exact show¬(0:Int)=15 by decide
 ·rw [cA]
  obtain⟨h1,h2,h3⟩:=aPM (M:=M) hneg
  have hm:=aEK (n:=n) (T:=lX M q n) n 0 0 (fun k hk=>by omega)
  generalize hr:xK (lX M q n) n n 0 0=r at *
  intro h
  have hb0:∀v,mem n (iD (fun j=>j) r (2*n)) v↔(v=2*n∨(v<n∧v≠r)):=fun v=>by
   constructor
   ·rintro⟨i,i1,i2⟩
    by_cases e:i=r
    ·rw [e,bA] at i2;exact Or.inl i2.symm
    ·rw [cG e] at i2;exact Or.inr ⟨by omega,by omega⟩
   ·rintro(h|⟨ha,hb⟩)
    ·exact⟨r,h2,by rw [bA,h]⟩
    ·exact⟨v,ha,cG hb⟩
  have cF:∀k,(∀j,j<k→aOI n (rJ n ⟨pA (lX M q n) r (2*n),iD (fun j=>j) r (2*n),wU n r⟩ j))→sel (rJ n ⟨pA (lX M q n) r (2*n),iD (fun j=>j) r (2*n),wU n r⟩ k).t n (rJ n ⟨pA (lX M q n) r (2*n),iD (fun j=>j) r (2*n),wU n r⟩ k).c n 0 none=none→False:=fun k k1 k2=>by
   have run:=aJH (N:=k) (s:=⟨pA (lX M q n) r (2*n),iD (fun j=>j) r (2*n),wU n r⟩) h1 h3 k1
   refine aSG hP run h2 hb0 rfl (fun k hk=>hm k (by omega)) fun i hi hp=>?_
   exact(aCC n 0 none k2).2 i (by omega) (by omega) (aM5.2 hp)
  unfold lem at h
  by_cases e:0=most
  ·rw [if_pos e] at h;exact absurd h (show¬(16:Int)=15 by decide)
  ·rw [if_neg e,if_neg (show¬r=2*n by omega)] at h
   cases hs:sel (pA (lX M q n) r (2*n)) n (if r<n then r+n else r-n) n 0 none with
   |none=>exact cF 0 (fun j hj=>by omega) hs
   |some r'=>
    rw [hs] at h
    obtain⟨k,k1,k2⟩:=aLZ most (pA (lX M q n) r (2*n)) (iD (fun j=>j) r (2*n)) r' _ (0+1) hs h
    exact cF k k1 k2
theorem aO9 {a:Nat→Rat} {n:Nat}:∀(l:List aE) (x:Rat),InT n l→rtf (mp a n) l x=x+sm (fun j=>cf l j*a j) n
 |[],x,_=>by
  show x=x+sm (fun j=>0*a j) n
  rw [qO fun j _=>Rat.zero_mul _,Rat.add_zero]
 |t::l,x,h=>by
  obtain⟨t1,t2⟩:=h t (List.mem_cons_self ..)
  have ih:=aO9 (a:=a) (n:=n) l (x+trm (mp a n) t) (fun u hu=>h u (List.mem_cons_of_mem _ hu))
  show rtf (mp a n) l (x+trm (mp a n) t)=_
  rw [ih]
  have e1:trm (mp a n) t=sm (fun j=>(if t.dof=(j:Int) then t.k else 0)*a j) n:=by
   unfold trm
   rw [bO,decide_eq_true (show 0≤t.dof∧t.dof<(n:Int) from⟨t1,t2⟩),cA,zM (by omega)]
   rw [tZ (p:=t.dof.toNat) (by omega) fun j _ hne=>by rw [if_neg (by omega),Rat.zero_mul],if_pos (by omega)]
  have e2:sm (fun j=>cf (t::l) j*a j) n=sm (fun j=>(if t.dof=(j:Int) then t.k else 0)*a j) n+sm (fun j=>cf l j*a j) n:=by
   rw [←aBJ];exact bM fun j _=>by show((if t.dof=(j:Int) then t.k else 0)+cf l j)*a j=_;grind
  rw [e1,e2];grind
theorem aO0 {a:Nat→Rat} {n:Nat} {l:List aE} (h:InT n l):rt l (mp a n)=sm (fun j=>cf l j*a j) n:=by
 unfold rt;rw [aO9 l 0 h,Rat.zero_add]
def x0 (l:List aA):Prop:=∀r∈l,r.t=[]
theorem x0.at {l:List aA} (h:x0 l) {i:Nat} (hi:i<l.length):(hU l i).t=[]:=h _ (lB hi)
theorem x0.off {v:List Rat} {l:List aA} (h:x0 l):∀m,m≤l.length→Proofs.YtldhbdgfpjoamaaGreat.off v l m=m
 |0,_=>rfl
 |m+1,hm=>by
  have e:stk v (hU l m)=false:=by unfold stk;rw [h.at (by omega)];rfl
  show Go.Proofs.YtldhbdgfpjoamaaGreat.off v l m+(bif stk v (hU l m) then 4 else 1)=m+1
  rw [h.off m (by omega),e];rfl
def Ps (l:List aA) (z:Nat→Rat) (j:Nat):Rat:=sm (fun r=>cf (hU l r).j j*z r) l.length
theorem x0.ptot {l:List aA} (h:x0 l) {p:Nat→aI} {j:Nat}:Go.Proofs.YtldhbdgfpjoamaaGreat.ptot l p l.length j=Ps l (fun r=>(p r).n) j:=by
 unfold Go.Proofs.YtldhbdgfpjoamaaGreat.ptot Ps
 refine bM fun r hr=>?_
 unfold rcq
 rw [h.at hr];show _+0*_=_;rw [Rat.zero_mul,Rat.add_zero]
theorem x0.acc {d:List aD} {f:Nat→Rat} {l:List aA} (h:x0 l) {p:Nat→aI}:Go.Proofs.YtldhbdgfpjoamaaGreat.acc d f l p=fun j=>(f j+Ps l (fun r=>(p r).n) j)*(xL d j).inv:=by
 funext j
 unfold Go.Proofs.YtldhbdgfpjoamaaGreat.acc
 rw [h.ptot]
theorem x0.uk {v:List Rat} {l:List aA} (h:x0 l) {i:Nat} (hi:i<l.length):Go.Proofs.YtldhbdgfpjoamaaGreat.uk v l i=(i,0):=by
 have:=aEy (v:=v) (l:=l) (r:=i) (q:=0) (.inl rfl) hi
 rwa [h.off i (by omega),Nat.add_zero] at this
theorem pz_n {v:List Rat} {l:List aA} {z:Nat→Rat} {r:Nat}:(pz v l z r).n=z (off v l r):=by
 unfold pz
 split
 ·rfl
 ·split<;>rfl
theorem x0.rv {v:List Rat} {l:List aA} (h:x0 l) {n:Nat} (hr:InR n l) {a:Nat→Rat} {i:Nat} (hi:i<l.length):Go.Proofs.YtldhbdgfpjoamaaGreat.rv v l (mp a n) i=sm (fun j=>cf (hU l i).j j*a j) n:=by
 unfold Go.Proofs.YtldhbdgfpjoamaaGreat.rv
 rw [h.uk hi,if_pos rfl]
 exact aO0 (hr _ (lB hi)).1
theorem x0.gv {d:List aD} {v:List Rat} {l:List aA} (h:x0 l) (hr:InR d.length l) {z:Nat→Rat} {i:Nat} (hi:i<l.length):Go.Proofs.YtldhbdgfpjoamaaGreat.gv d v l z i=sm (fun j=>cf (hU l i).j j*(Ps l z j*(xL d j).inv)) d.length:=by
 unfold Go.Proofs.YtldhbdgfpjoamaaGreat.gv
 have e:zv v l z i=0:=by unfold zv;rw [h.uk hi,if_pos rfl]
 rw [e,Rat.add_zero,h.acc,h.rv hr hi]
 refine bM fun j _=>?_
 have e2:Ps l (fun r=>(pz v l z r).n) j=Ps l z j:=bM fun r hr=>by show cf (hU l r).j j*(pz v l z r).n=cf (hU l r).j j*z r;rw [pz_n,h.off r (by omega)]
 rw [e2];show _*((0+_)*_)=_;rw [Rat.zero_add]
theorem aVt {l:List aA} {z:Nat→Rat} {j:Nat}:Ps l (tz z l.length) j=Ps l z j:=bM fun r hr=>by unfold tz;rw [if_pos hr]
theorem x0.Mz {d:List aD} {v:List Rat} {l:List aA} (h:x0 l) (hr:InR d.length l) {z:Nat→Rat} {i:Nat} (hi:i<l.length):sm (fun k=>Mf d v l i k*z k) l.length=sm (fun j=>cf (hU l i).j j*(Ps l z j*(xL d j).inv)) d.length:=by
 rw [←aKS,h.gv hr hi]
 exact bM fun j _=>by rw [aVt]
theorem aJP {l:List aA} {n:Nat} {z g:Nat→Rat}:sm (fun i=>z i*sm (fun j=>cf (hU l i).j j*g j) n) l.length=sm (fun j=>Ps l z j*g j) n:=by
 have e:sm (fun i=>z i*sm (fun j=>cf (hU l i).j j*g j) n) l.length=sm (fun i=>sm (fun j=>z i*(cf (hU l i).j j*g j)) n) l.length:=bM fun i _=>by rw [rG]
 rw [e,aB8]
 refine bM fun j _=>?_
 unfold Ps
 rw [Rat.mul_comm,←rG]
 exact bM fun i _=>by grind
theorem aRC {a b:Rat} (h:0≤b):0≤a*(a*b):=by
 rw [←Rat.mul_assoc]
 refine Rat.mul_nonneg ?_ h
 by_cases e:0≤a
 ·exact Rat.mul_nonneg e e
 ·have:=Rat.mul_nonneg (show 0≤-a by grind) (show 0≤-a by grind)
  grind
theorem x0.psd {d:List aD} {f v:List Rat} {l:List aA} (h:x0 l) (hr:InR d.length l) (hd:∀j,j<d.length→0<(xL d j).inv):PSD (Mf d v l) (qf d (kP f) v l) l.length:=by
 have key:∀z x:Nat→Rat,sm (fun i=>z i*sm (fun j=>Mf d v l i j*x j) l.length) l.length=sm (fun j=>Ps l z j*(Ps l x j*(xL d j).inv)) d.length:=fun z x=>by
  rw [←aJP]
  exact bM fun i hi=>by rw [h.Mz hr hi]
 refine⟨fun z=>by rw [key];exact aBA fun j hj=>aRC (Rat.le_of_lt (hd j hj)),fun z hz=>?_⟩
 rw [key] at hz
 have h0:=aKU (fun j hj=>aRC (Rat.le_of_lt (hd j hj))) hz
 have p0:∀j,j<d.length→Ps l z j=0:=fun j hj=>by
  have h1:=h0 j hj
  have h2:=hd j hj
  refine Classical.byContradiction fun h3=>?_
  have h4:Ps l z j*(xL d j).inv≠0:=by grind
  have:Ps l z j*(Ps l z j*(xL d j).inv)≠0:=by grind
  exact this h1
 refine⟨fun x=>by rw [key];exact qO fun j hj=>by rw [p0 j hj,Rat.zero_mul],?_⟩
 have e:sm (fun i=>z i*qf d (kP f) v l i) l.length=sm (fun j=>Ps l z j*(kP f j*(xL d j).inv)) d.length:=by
  rw [←aJP]
  refine bM fun i hi=>?_
  unfold qf
  rw [h.acc,h.rv hr hi]
  congr 1
  refine bM fun j _=>?_
  have:Ps l (fun r=>(Go.Proofs.YtldhbdgfpjoamaaGreat.p0 r).n) j=0:=qO fun r _=>Rat.mul_zero _
  rw [this,Rat.add_zero]
 rw [e]
 exact qO fun j hj=>by rw [p0 j hj,Rat.zero_mul]
end Go.Proofs.YtldhbdgfpjoamaaGreat
set_option linter.unusedVariables false
namespace Go.Proofs.YtldhbdgfpjoamaaGreat
theorem aVq {d:List aD} {f v:List Rat} {l:List aA} (hf:z6 d f v l=true) {r:Nat} (hr:r<l.length):0≤(hU l r).mu:=by
 unfold z6 at hf
 rw [Bool.and_eq_true] at hf
 have h1:=List.all_eq_true.1 hf.2 _ (lB hr)
 unfold aAZ at h1
 rw [Bool.and_eq_true,Bool.and_eq_true] at h1
 have h2:=of_decide_eq_true h1.1.2
 have h3:0≤(hU l r).mu.num:=by
  rcases Int.lt_or_le (hU l r).mu.num 0 with h|h
  ·rw [Int.sign_eq_neg_one_of_neg h] at h2;omega
  ·exact h
 exact Rat.num_nonneg.1 h3
theorem aHD {d:List aD} {f v:List Rat} {l:List aA} (h:ScB d f v l) (hm:l.length≤4) (h8:∀j,j<d.length→Bd 8 (kP f j)):sV 20000000 (aBe d f v l).1∧(∀p∈(aBe d f v l).2.1,Bd 300000 p.n∧Bd 300000 p.f):=by
 have hn:=h.n8
 have hrb:RsB l:=fun r hr=>(h.sb.sl r hr).1
 unfold aBe
 by_cases h0:(u5 (Mf d v l) (qf d (kP f) v l) (off v l l.length) 4096).2=0
 ·rw [nF h0,bU]
  obtain⟨z1,z2⟩:=aLd (aKC h (show l.length≤5 by omega) h8) (by omega) h0
  have zb:∀j,j<off v l l.length→Bd 100000 (kP (u5 (Mf d v l) (qf d (kP f) v l) (off v l l.length) 4096).1.z j):=fun j hj=>z2 _ (jV (by omega))
  have pb:=aGx zb h.sb.sl
  have hA:(2*100000+11+9)*24*l.length≤400000000:=Nat.le_trans (Nat.mul_le_mul_left _ hm) (by decide)
  have ab:=aFe h.sb.sd h.fbd hrb h.ir pb (by omega) (by omega) (by omega) hA
  have aB:aIK 64 (2*100000+11) l.length≤20000000:=by unfold aIK;omega
  refine⟨fun x hx=>(ab x hx).mono aB,fun p hp=>?_⟩
  obtain⟨i,hi,rfl⟩:=List.mem_map.1 hp
  obtain⟨b1,b2⟩:=pb i (List.mem_range.1 hi)
  exact⟨b1.mono (by omega),b2.mono (by omega)⟩
 ·rw [nT h0,cA]
  exact⟨fun x hx=>absurd hx List.not_mem_nil,fun x hx=>absurd hx List.not_mem_nil⟩
end Go.Proofs.YtldhbdgfpjoamaaGreat
set_option linter.unusedVariables false
namespace Go.Proofs.YtldhbdgfpjoamaaGreat
theorem aQJ {d:List aD} {f v:List Rat} {l:List aA} (h:ScB d f v l) (hm:l.length≤5) (h8:∀j,j<d.length→Bd 8 (kP f j)):sV 100000000 (aBe d f v l).1∧(∀p∈(aBe d f v l).2.1,Bd 100000000 p.n∧Bd 100000000 p.f)∧(aBe d f v l).1.length≤1000∧(aBe d f v l).2.1.length≤1000:=by
 have hn:=h.n8
 have hrb:RsB l:=fun r hr=>(h.sb.sl r hr).1
 unfold aBe
 by_cases h0:(u5 (Mf d v l) (qf d (kP f) v l) (off v l l.length) 4096).2=0
 ·rw [nF h0,bU]
  obtain⟨z1,z2⟩:=aLd (aKC h hm h8) (by omega) h0
  have zb:∀j,j<off v l l.length→Bd 100000 (kP (u5 (Mf d v l) (qf d (kP f) v l) (off v l l.length) 4096).1.z j):=fun j hj=>z2 _ (jV (by omega))
  have pb:=aGx zb h.sb.sl
  have hA:(2*100000+11+9)*24*l.length≤400000000:=Nat.le_trans (Nat.mul_le_mul_left _ hm) (by decide)
  have ab:=aFe h.sb.sd h.fbd hrb h.ir pb (by omega) (by omega) (by omega) hA
  have aB:aIK 64 (2*100000+11) l.length≤100000000:=by unfold aIK;omega
  refine⟨fun x hx=>(ab x hx).mono aB,fun p hp=>?_,by rw [bO];omega,by simp only [mp,List.length_map,List.length_range];omega⟩
  obtain⟨i,hi,rfl⟩:=List.mem_map.1 hp
  obtain⟨b1,b2⟩:=pb i (List.mem_range.1 hi)
  exact⟨b1.mono (by omega),b2.mono (by omega)⟩
 ·rw [nT h0,cA]
  exact⟨fun x hx=>absurd hx List.not_mem_nil,fun x hx=>absurd hx List.not_mem_nil,by simp,by simp⟩
end Go.Proofs.YtldhbdgfpjoamaaGreat
set_option linter.unusedVariables false
namespace Go.Proofs.YtldhbdgfpjoamaaGreat
/-- The rows of a scene without their friction. -/
def plr (l:List aA) (i:Nat):aA:=⟨0,0,(i:Int),0,0,(hU l i).j,[],0,0⟩
def Pl (l0 l:List aA):Prop:=∀r∈l,∃i,i<l0.length∧r=plr l0 i
theorem Pl.plain {l0 l:List aA} (h:Pl l0 l):x0 l:=fun r hr=>by
 obtain⟨i,_,e⟩:=h r hr
 rw [e];rfl
theorem Pl.sb {d:List aD} {f v:List Rat} {l0 l:List aA} (h:Pl l0 l) (hs:SB d f v l0) (hn:l.length≤100):SB d f v l:=by
 refine {hs with sl:=fun r hr=>?_,ll:=hn}
 obtain⟨i,hi,e⟩:=h r hr
 rw [e]
 exact⟨⟨(hs.sl _ (lB hi)).1.1,TB.nil⟩,Bd.zero.mono (by omega)⟩
theorem Pl.fit {d:List aD} {f v:List Rat} {l0 l:List aA} (h:Pl l0 l) (hf:z6 d f v l0=true):z6 d f v l=true:=by
 unfold z6 at hf ⊢
 rw [Bool.and_eq_true] at hf ⊢
 refine⟨hf.1,List.all_eq_true.2 fun r hr=>?_⟩
 obtain⟨i,hi,e⟩:=h r hr
 have h1:=List.all_eq_true.1 hf.2 _ (lB hi)
 rw [e]
 unfold aAZ sO at h1 ⊢
 rw [Bool.and_eq_true,Bool.and_eq_true,Bool.and_eq_true] at h1
 show((tOk d.length (hU l0 i).j&&tOk d.length []&&decide (0≤(0:Rat).num.sign))&&decide ((rt (hU l0 i).j v).num.sign=0))=true
 rw [h1.1.1.1,h1.2];rfl
theorem aPI {d:List aD} {f v:List Rat} {l:List aA} (hf:z6 d f v l=true):∀j,j<d.length→0<(xL d j).inv:=fun j hj=>by
 unfold z6 at hf
 rw [Bool.and_eq_true,Bool.and_eq_true] at hf
 have:=List.all_eq_true.1 hf.1.2 _ (zI hj)
 exact aM5.1 (of_decide_eq_true this)
theorem aM8 {d:List aD} {f v:List Rat} {l0 l:List aA} (h:Pl l0 l) (hs:SB d f v l0) (hf:z6 d f v l0=true) (hn:l.length≤5) (h8:∀j,j<d.length→Bd 8 (kP f j)) {K:Nat} (hK:6000≤K):ScB d f v l∧∃z,lZ K d f v l=some (mp (acc d (kP f) l (pz v l z)) d.length,mp (pz v l z) l.length,0)∧sV 100000000 (mp (acc d (kP f) l (pz v l z)) d.length)∧∀r,r<l.length→aNo (hU l r) v (mp (acc d (kP f) l (pz v l z)) d.length) (pz v l z r):=by
 have hsb:=h.sb hs (by omega)
 have hf':=h.fit hf
 have hS:=aMN hsb (show l.length≤8 by omega) hf'
 obtain⟨p1,_⟩:=aCV hS hf' hn h8 hK
 obtain⟨b1,_⟩:=aQJ hS hn h8
 have hoff:=h.plain.off (v:=v) l.length (Nat.le_refl _)
 have psd:=h.plain.psd (f:=f) (v:=v) hS.ir (aPI hf')
 have h1:=aKR (most:=4096) psd
 have h2:=aNt (M:=Mf d v l) (q:=qf d (kP f) v l) (n:=l.length) (most:=4096) (by
  have:3^l.length≤3^5:=Nat.pow_le_pow_right (by decide) hn
  omega)
 have h0:(u5 (Mf d v l) (qf d (kP f) v l) (off v l l.length) 4096).2=0:=by
  rw [hoff]
  rcases aHW (M:=Mf d v l) (q:=qf d (kP f) v l) (n:=l.length) (most:=4096) with h|h|h
  ·exact h
  ·exact absurd h h1
  ·exact absurd h h2
 have hne:(aBe d f v l).2.2=0:=by unfold aBe;rw [nF h0,bU]
 rcases aHf (d:=d) (f:=f) (v:=v) (l:=l) with hc|⟨z,hz,hc⟩
 ·omega
 ·rw [hz] at p1 b1
  exact⟨hS,z,p1,b1,hc⟩
theorem aS2 {l0:List aA} {g:Nat→Nat} {n i:Nat} (h:i<n):hU (mp (fun k=>plr l0 (g k)) n) i=plr l0 (g i):=by
 unfold hU
 rw [List.getD_eq_getElem?_getD,aBh h];rfl
theorem aVp {l0:List aA} {g:Nat→Nat} {n:Nat} (hg:∀i,i<n→g i<l0.length):Pl l0 (mp (fun k=>plr l0 (g k)) n):=fun r hr=>by
 obtain⟨i,hi,rfl⟩:=List.mem_map.1 hr
 exact⟨g i,hg i (List.mem_range.1 hi),rfl⟩
end Go.Proofs.YtldhbdgfpjoamaaGreat
set_option linter.unusedVariables false
namespace Go.Proofs.YtldhbdgfpjoamaaGreat
theorem aMT {f g h k l m:Nat→Rat}:∀n,(∀i,i<n→f i+g i+h i-(k i+l i)=m i)→sm f n+sm g n+sm h n-(sm k n+sm l n)=sm m n
 |0,_=>by unfold sm;grind
 |n+1,e=>by
  have h1:=aMT n (fun i hi=>e i (by omega))
  have h2:=e n (by omega)
  unfold sm;grind
theorem aOk {v q own f a P I:Rat} (hI:I≠0) (ha:a=(f+P)*I):v*v/I+ -(2*(own*q))+2*((f-own)*(q+(v+1/2*a)-q))-((v+a)*(v+a)/I+ -(2*(own*(q+(v+1/2*a)))))=-((2*v+a)*P):=by
 subst ha
 grind
theorem aOq {l:List aA} {n:Nat} {p:Nat→aI} {x:Nat→Rat} (hr:InR n l):sm (fun j=>x j*ptot l p l.length j) n=sm (fun r=>(p r).n*rt (hU l r).j (mp x n)+(p r).f*rt (hU l r).t (mp x n)) l.length:=by
 have e:sm (fun j=>x j*ptot l p l.length j) n=sm (fun j=>sm (fun r=>x j*rcq l p r j) l.length) n:=bM fun j _=>by unfold ptot;rw [rG]
 rw [e,aB8]
 refine bM fun r hr1=>?_
 rw [aO0 (hr _ (lB hr1)).1,aO0 (hr _ (lB hr1)).2,←rG,←rG,←aBJ]
 exact bM fun j _=>by unfold rcq;grind
theorem aRe {v a:Nat→Rat} {n:Nat} {l:List aE}:rt l (mp (fun j=>2*v j+a j) n)=2*rt l (mp v n)+rt l (mp a n):=by
 rw [aIp (f:=fun j=>2*v j) (g:=a),aLk]
theorem aNo.loses {r:aA} {v a:List Rat} {p:aI} (h:aNo r v a p) (hm:0≤r.mu) (hl:0≤rt r.t v*(rt r.t v+rt r.t a)):p.f*(2*rt r.t v+rt r.t a)≤0:=by
 by_cases h0:r.t.length=0
 ·rw [h.none h0];grind
 ·have hmn:0≤r.mu*p.n:=Rat.mul_nonneg hm h.n0
  generalize hs':rt r.t v=s at *
  by_cases hs:s=0
  ·subst hs
   obtain⟨_,_,s3,s4⟩:=h.stick h0 hs'
   by_cases hp:0<rt r.t a
   ·have:=Rat.mul_nonneg hmn (Rat.le_of_lt hp)
    rw [s3 hp];grind
   ·by_cases hn:rt r.t a<0
    ·have:=Rat.mul_nonneg hmn (show 0≤-(rt r.t a) by grind)
     rw [s4 hn];grind
    ·have:rt r.t a=0:=by grind
     rw [this];grind
  ·have e:=h.slip h0 (by rw [hs'];exact hs)
   rw [hs'] at e
   generalize r.mu*p.n=m at *
   generalize rt r.t a=t at *
   by_cases hp:0<s
   ·have e1:s.num.sign=1:=Int.sign_eq_one_of_pos (aKb.2 hp)
    rw [e1,show(((-1:Int):Rat)/((1:Int):Rat))=-1 by decide+kernel] at e
    have h2:0≤s+t:=Classical.byContradiction fun h2=>by
     have h3:=Rat.mul_pos hp (show 0< -(s+t) by grind)
     grind
    have h3:=Rat.mul_nonneg hmn (show 0≤2*s+t by grind)
    rw [e];grind
   ·have hn:s<0:=by grind
    have e1:s.num.sign=-1:=Int.sign_eq_neg_one_of_neg (by rw [←Int.not_le,Rat.num_nonneg,Rat.not_le];exact hn)
    rw [e1,show(((-(-1):Int):Rat)/((1:Int):Rat))=1 by decide+kernel] at e
    have h2:s+t≤0:=Classical.byContradiction fun h2=>by
     have h3:=Rat.mul_pos (show 0< -s by grind) (show 0<s+t by grind)
     grind
    have h3:=Rat.mul_nonneg hmn (show 0≤-(2*s+t) by grind)
    rw [e];grind
theorem aNw {l:List aA} {n:Nat} {p:Nat→aI} {v a:Nat→Rat} (hr:InR n l) (h0:∀r,r<l.length→rt (hU l r).j (mp v n)=0) (hj:∀r,r<l.length→(p r).n=0∨rt (hU l r).j (mp a n)=0):sm (fun j=>(2*v j+a j)*ptot l p l.length j) n=sm (fun r=>(p r).f*(2*rt (hU l r).t (mp v n)+rt (hU l r).t (mp a n))) l.length:=by
 rw [aOq hr]
 refine bM fun r hr1=>?_
 rw [aRe,aRe,h0 r hr1]
 rcases hj r hr1 with e|e
 ·rw [e];grind
 ·rw [e];grind
end Go.Proofs.YtldhbdgfpjoamaaGreat
set_option linter.unusedVariables false
namespace Go.Proofs.YtldhbdgfpjoamaaGreat
theorem aM3 {x:kY} {s:a8} {M:Nat} (hM:M≤20001000) (hd:aG6 x.dofs) (hs:aIR x.dofs.length M s) (hn:x.dofs.length≤4):Bd (16*M+200) (sm (kf x.dofs s.v) x.dofs.length+sm (sf x.dofs s.q) x.dofs.length)∧Ev (fun K=>uO K x s) (sm (kf x.dofs s.v) x.dofs.length+sm (sf x.dofs s.q) x.dofs.length):=by
 have h:=aPo (c:=M+M+10) (N:=4) (l:=[⟨(x.dofs.length:Int),f7 s.v x.dofs⟩,⟨(x.dofs.length:Int),iA x.dofs s.q⟩]) (fs:=[(x.dofs.length,kf x.dofs s.v),(x.dofs.length,sf x.dofs s.q)]) ⟨(aMm hd hs.v hs.vl (by omega)).mono (by omega),hn,(aLY hd hs.q hs.ql (by omega)).mono (by omega),hn,trivial⟩ (by omega) (by simp) (by simp only [List.length_cons,List.length_nil];omega)
 simp only [tot,Rat.zero_add,List.length_cons,List.length_nil] at h
 refine⟨h.1.mono (by omega),?_⟩
 unfold uO nS o9
 simp only [oB]
 exact Ev.bind h.2 (Ev.pure _)
theorem aIR.up {n m k:Nat} {s:a8} (h:aIR n m s) (hk:m≤k):aIR n k s:=⟨fun x hx=>(h.q x hx).mono hk,fun x hx=>(h.v x hx).mono hk,h.ql,h.vl⟩
theorem aKi {x:kY} {l:List Rat} {a b:a8} {m M:Nat} (hm:m≤1000) (hmM:m≤M) (hM:M≤20001000) (hd:aG6 x.dofs) (hl:sV m l) (hll:l.length=x.dofs.length) (ha:aIR x.dofs.length m a) (hb:aIR x.dofs.length M b) (hn:x.dofs.length≤4):Bd (40*M+20000) (aJq x.dofs l a b)∧Ev (fun K=>tR K x l a b) (aJq x.dofs l a b):=by
 have h:=aPo (c:=M+M+m+10) (N:=4) (l:=[⟨(x.dofs.length:Int),f7 a.v x.dofs⟩,⟨(x.dofs.length:Int),iA x.dofs a.q⟩,⟨(l.length:Int),lC l b a⟩])
  (fs:=[(x.dofs.length,kf x.dofs a.v),(x.dofs.length,sf x.dofs a.q),(x.dofs.length,wf l a.q b.q)])
  ⟨(aMm hd ha.v ha.vl (by omega)).mono (by omega),hn,(aLY hd ha.q ha.ql (by omega)).mono (by omega),hn,hll▸(aQZ hl (ha.up hmM).q hb.q (by rw [ha.ql,hll]) (by rw [hb.ql,hll]) (by omega) (by omega)).mono (by omega),hn,trivial⟩ (by omega) (by simp) (by simp only [List.length_cons,List.length_nil];omega)
 simp only [tot,Rat.zero_add,List.length_cons,List.length_nil] at h
 obtain⟨t1,t2⟩:=aM3 hM hd hb hn
 have h1:=h.1.mono (n:=24*M+14000) (by omega)
 refine⟨(h1.sub t1).mono (by omega),?_⟩
 unfold tR nS o9 zF
 simp only [oB]
 refine Ev.bind h.2 (Ev.bind t2 ?_)
 simp only [zD h1 t1 (by omega) (by omega),oB]
 exact Ev.pure _
theorem aFm {s:a8} {a:List Rat} {m k:Nat} (hs:aIR a.length m s) (ha:sV k a) (hm:m≤1000) (hmk:m≤k) (hk:k≤20000000) (hn:a.length≤100) (ht:s.tick=0):aIR a.length (m+m+k+5) (aB6 s a)∧Ev (fun K=>kX K s a) (aB6 s a):=by
 have hby:sV (m+k+3) (mp (gBy s.v a) a.length):=z7 fun i hi=>by
  exact((hs.v _ (jV (by rw [hs.vl];exact hi))).add (BdH.mul (ha _ (jV hi)))).mono (by omega)
 have hqb:sV (m+k+3) s.q:=fun x hx=>(hs.q x hx).mono (by omega)
 constructor
 ·refine⟨z7 fun i hi=>?_,z7 fun i hi=>?_,bO _ _,bO _ _⟩
  ·exact((hs.q _ (jV (by rw [hs.ql];exact hi))).add (hby _ (jV (by rw [bO];exact hi)))).mono (by omega)
  ·exact((hs.v _ (jV (by rw [hs.vl];exact hi))).add (ha _ (jV hi))).mono (by omega)
 ·refine⟨a.length+1,fun K hK=>?_⟩
  have h1:=aFq (m:=k) (hs.up hmk).v ha hs.vl (by omega) hn K a.length 0 K (by omega) (by omega)
  have h2:=aHN (s:=s) (a:=mp (gBy s.v a) a.length) hqb hby (by rw [bO,hs.ql]) (by omega) (by rw [bO];omega) K a.length 0 K (by rw [bO];omega) (by omega)
  rw [bO] at h2
  simp only [Int.natCast_zero,zG] at h1 h2
  have h3:aT (s.tick+1)=some (s.tick+1):=k5 (by omega)
  simp only [kX,aT3,oB,h1,mY,sB,h3,h2,oS]
  rfl
theorem aLT {d:List aD} {f g v q:List Rat} {l:List aA} {p:Nat→aI} (hd:aG6 d) (hg:∀i,i<d.length→kP g i=kP f i-(dof d i).load) (hv:v.length=d.length) (hir:InR d.length l) (h0:∀r,r<l.length→rt (hU l r).j v=0) (hj:∀r,r<l.length→(p r).n=0∨rt (hU l r).j (mp (acc d (kP f) l p) d.length)=0):
  aJq d g ⟨0,q,v,[]⟩ (aB6 ⟨0,q,v,[]⟩ (mp (acc d (kP f) l p) d.length))=-(sm (fun r=>(p r).f*(2*rt (hU l r).t v+rt (hU l r).t (mp (acc d (kP f) l p) d.length))) l.length):=by
 have hvm:v=mp (kP v) d.length:=by rw [←hv];exact aK0 v
 have e:=aNw (l:=l) (n:=d.length) (p:=p) (v:=kP v) (a:=acc d (kP f) l p) hir (by rw [←hvm];exact h0) hj
 rw [←hvm] at e
 rw [←e,←aBT]
 unfold aJq
 refine aMT d.length fun i hi=>?_
 unfold kf sf wf aB6
 simp only [bO]
 rw [zM hi,zM hi]
 unfold gV
 rw [zM hi]
 unfold gBy
 rw [zM hi,hg i hi]
 exact aOk (hd _ (aD9 hi)).2.1 rfl
def gd (d:List aD) (o:Nat→Rat) (i:Nat):aD:=⟨(xL d i).inv,o i,false,0,0⟩
def gl (f:List Rat) (o:Nat→Rat) (i:Nat):Rat:=kP f i-o i
theorem aSx {l:List Int} (h:aFw l):∃o:Nat→Rat,∀i:Nat,(∃v,bE l (i:Int) 1073741824=some v∧gI v=some (o i))∧Bd 8 (o i):=
 Classical.axiomOfChoice (r:=fun(i:Nat) (q:Rat)=>(∃v,bE l (i:Int) 1073741824=some v∧gI v=some q)∧Bd 8 q) fun i=>by
  obtain⟨v,h1,h0,hv⟩:=aCd h (i:Int) (m:=1073741824) (by omega)
  obtain⟨r,h2,h3⟩:=aJ5 (x:=v) (by omega)
  exact⟨r,⟨v,h1,h2⟩,h3⟩
theorem aNX {l:List Int} {s:bH} {o:Nat→Rat} (ho:∀i:Nat,(∃v,bE l (i:Int) 1073741824=some v∧gI v=some (o i))∧Bd 8 (o i)) (hlo:sV 8 s.load) (hll:s.load.length=s.dofs.length) (hn:s.dofs.length≤4) (K:Nat):∀(t i k:Nat),i+t=s.dofs.length→t<k→dE K l s k (mp (gl s.load o) i) (mp (gd s.dofs o) i) (i:Int)=some (mp (gl s.load o) s.dofs.length,mp (gd s.dofs o) s.dofs.length)
 |0,i,k,hi,hk=>by
  obtain⟨k',rfl,_⟩:=bD hk
  rw [show i=s.dofs.length by omega]
  simp only [dE,dF (show¬(s.dofs.length:Int)<(s.dofs.length:Int) by omega),bU]
 |t+1,i,k,hi,hk=>by
  obtain⟨k',rfl,_⟩:=bD hk
  obtain⟨⟨v,h1,h2⟩,h3⟩:=ho i
  have hb:=hlo _ (jV (l:=s.load) (i:=i) (by omega))
  have ap1:qR (mp (gd s.dofs o) i) [(⟨(xL s.dofs i).inv,o i,false,0,0⟩:aD)]=some (mp (gd s.dofs o) (i+1)):=apM (g:=gd s.dofs o) (by omega)
  have ap2:qR (mp (gl s.load o) i) [kP s.load i-o i]=some (mp (gl s.load o) (i+1)):=apM (g:=gl s.load o) (by omega)
  simp only [dE,dT (show(i:Int)<(s.dofs.length:Int) by omega),cA,h1,h2,aKX (d:=s.dofs) (i:=i) (by omega),oB,ap1,aCJ (l:=s.load) (i:=i) (by omega),zD hb h3 (by omega) (by omega),ap2,oC (i:=i) (by omega)]
  exact aNX ho hlo hll hn K t (i+1) k' (by omega) (by omega)
theorem aPD {s:bH} (hn:s.rows.length≤1000) (K:Nat):∀(t i k:Nat),i+t=s.rows.length→t<k→dD K s k (mp (plr s.rows) i) (i:Int)=some (mp (plr s.rows) s.rows.length)
 |0,i,k,hi,hk=>by
  obtain⟨k',rfl,_⟩:=bD hk
  rw [show i=s.rows.length by omega]
  simp only [dD,dF (show¬(s.rows.length:Int)<(s.rows.length:Int) by omega),bU]
 |t+1,i,k,hi,hk=>by
  obtain⟨k',rfl,_⟩:=bD hk
  have ap:qR (mp (plr s.rows) i) [(⟨0,0,(i:Int),0,0,(hU s.rows i).j,([]:List aE),0,0⟩:aA)]=some (mp (plr s.rows) (i+1)):=apM (g:=plr s.rows) (i:=i) (by omega)
  simp only [dD,dT (show(i:Int)<(s.rows.length:Int) by omega),cA,aDW (l:=s.rows) (i:=i) (by omega),oB,ap,oC (i:=i) (by omega)]
  exact aPD hn K t (i+1) k' (by omega) (by omega)
theorem aUg {d:List aD} {f v:List Rat} {l:List aA} {o:Nat→Rat} (h:SB d f v l):SB (mp (gd d o) d.length) f v l:=
 ⟨fun x hx=>by
  obtain⟨i,hi,rfl⟩:=List.mem_map.1 hx
  exact h.sd (xL d i) (zI (List.mem_range.1 hi)),by rw [bO];exact h.dl,h.sf,h.fl,h.sv,h.vl,h.sl,h.ll⟩
theorem aSI {d:List aD} {f v:List Rat} {l:List aA} {o:Nat→Rat} (h:z6 d f v l=true):z6 (mp (gd d o) d.length) f v l=true:=by
 unfold z6 at h ⊢
 rw [Bool.and_eq_true,Bool.and_eq_true] at h ⊢
 rw [bO]
 refine⟨⟨h.1.1,List.all_eq_true.2 fun x hx=>?_⟩,h.2⟩
 obtain⟨i,hi,rfl⟩:=List.mem_map.1 hx
 exact List.all_eq_true.1 h.1.2 (xL d i) (zI (List.mem_range.1 hi))
theorem aQ2 {d:List aD} {o:Nat→Rat} (h:aG6 d) (ho:∀i,Bd 8 (o i)):aG6 (mp (gd d o) d.length):=fun x hx=>by
 obtain⟨i,hi,rfl⟩:=List.mem_map.1 hx
 have:=h _ (zI (List.mem_range.1 hi))
 exact⟨this.1,this.2.1,ho i⟩
theorem aNc {v a:List Rat} {r:aA} (hv:sV 64 v) (ha:sV 20000000 a) (hr:RB r) {K:Nat} (hK:13≤K):qY K v a r=some (aKo v a r):=by
 have b1:=aJu hv hr.2
 have b2:=aBW ha hr.2
 simp only [qY,aH7 hv hr.2 hK,zT ha (by omega) hr.2 hK,oB,s6 b1 b2 (by omega) (by omega),pU b1 (b1.add b2) (by omega) (by omega),mF (b1.mul (b1.add b2)) (by omega)]
 rfl
theorem aNC {v a:List Rat} {l:List aA} (hv:sV 64 v) (ha:sV 20000000 a) (hl:RsB l) (hn:l.length≤10) {K:Nat} (hK:13≤K):wO K v a l=some (!l.any (aKo v a)):=by
 simp only [wO,aHY (fun r hr=>aNc hv ha (hl r hr) hK) (by omega) (show l.length<K by omega),oB]
end Go.Proofs.YtldhbdgfpjoamaaGreat
set_option linter.unusedVariables false
namespace Go.Proofs.YtldhbdgfpjoamaaGreat
theorem aLi {d:List aD} {f v:List Rat} {l0 l:List aA} (h:Pl l0 l) (hs:SB d f v l0) (hf:z6 d f v l0=true) (hn:l.length≤4) (h8:∀j,j<d.length→Bd 8 (kP f j)):InR d.length l∧∃z,(∀K,6000≤K→lZ K d f v l=some (mp (acc d (kP f) l (pz v l z)) d.length,mp (pz v l z) l.length,0))∧sV 20000000 (mp (acc d (kP f) l (pz v l z)) d.length)∧∀r,r<l.length→aNo (hU l r) v (mp (acc d (kP f) l (pz v l z)) d.length) (pz v l z r):=by
 obtain⟨hS,z,p1,_,pc⟩:=aM8 h hs hf (by omega) h8 (K:=6000) (Nat.le_refl _)
 have hf':=h.fit hf
 have e:=Option.some.inj ((aCV hS hf' (by omega) h8 (K:=6000) (Nat.le_refl _)).1.symm.trans p1)
 have hb:=(aHD hS hn h8).1
 rw [e] at hb
 exact⟨hS.ir,z,fun K hK=>by rw [(aCV hS hf' (by omega) h8 hK).1,e],hb,pc⟩
theorem aR5 {d:List aD} {f v:List Rat} {l:List aA} (hf:z6 d f v l=true) {r:Nat} (hr:r<l.length):rt (hU l r).j v=0:=by
 unfold z6 at hf
 rw [Bool.and_eq_true,Bool.and_eq_true] at hf
 have h2:=List.all_eq_true.1 hf.2 _ (lB hr)
 rw [Bool.and_eq_true] at h2
 have h3:=of_decide_eq_true h2.2
 exact aEP.1 h3
theorem aDC {a0 a1:List Int} {a2:Bool} (h0:aFw a0) (h1:aFw a1):∃K,jG K a0 a1 a2=some true:=by
 obtain⟨s,hs,hf,hl4,hm⟩:=aOj h0 a2
 obtain⟨o,ho⟩:=aSx h1
 have hrl:=hs.rl
 have hll:=hs.ll
 have hvl:=hs.vl
 have hn4:=hs.n4
 obtain⟨q,ql,qb,qe⟩:=aKQ h1 8 (by omega) s.dofs.length (by omega)
 have l46:Ev (fun K=>dE K a1 s K [] [] 0) (mp (gl s.load o) s.dofs.length,mp (gd s.dofs o) s.dofs.length):=⟨s.dofs.length+1,fun K hK=>by
  have:=aNX (l:=a1) (s:=s) ho hs.load hll hn4 K s.dofs.length 0 K (by omega) (by omega)
  simpa only [Int.natCast_zero,zG] using this⟩
 have l75:Ev (fun K=>dD K s K [] 0) (mp (plr s.rows) s.rows.length):=⟨s.rows.length+1,fun K hK=>by
  have:=aPD (s:=s) (by omega) K s.rows.length 0 K (by omega) (by omega)
  simpa only [Int.natCast_zero,zG] using this⟩
 have D1:=aUg (o:=o) hs.sbd
 have D2:=aSI (o:=o) hf
 have D3:=aQ2 hs.dofs fun i=>(ho i).2
 have DL:(mp (gd s.dofs o) s.dofs.length).length=s.dofs.length:=bO _ _
 have hg:∀i,i<s.dofs.length→kP (mp (gl s.load o) s.dofs.length) i=kP s.load i-(dof (mp (gd s.dofs o) s.dofs.length) i).load:=fun i hi=>by
  rw [zM hi]
  unfold dof
  rw [List.getD_eq_getElem?_getD,aBh hi];rfl
 have gb:sV 17 (mp (gl s.load o) s.dofs.length):=z7 fun i hi=>((hs.load _ (jV (by omega))).sub (ho i).2).mono (by omega)
 have gL:(mp (gl s.load o) s.dofs.length).length=s.dofs.length:=bO _ _
 generalize mp (gd s.dofs o) s.dofs.length=D at *
 generalize mp (gl s.load o) s.dofs.length=g at *
 have h8:∀j,j<D.length→Bd 8 (kP s.load j):=fun j hj=>hs.load _ (jV (by omega))
 have A:Pl s.rows (mp (fun k=>plr s.rows (id k)) s.rows.length):=aVp fun i hi=>hi
 have Al:(mp (plr s.rows) s.rows.length).length=s.rows.length:=bO _ _
 obtain⟨i1,z,s1,b1,c1⟩:=aLi (l:=mp (plr s.rows) s.rows.length) A D1 D2 (by omega) h8
 have st:aIR D.length 17 (⟨0,q,s.v,[]⟩:a8):=⟨fun x hx=>(qb x hx).mono (by omega),fun x hx=>(hs.v x hx).mono (by omega),by rw [DL];exact ql,by rw [DL];exact hvl⟩
 have zero:aJq D g ⟨0,q,s.v,[]⟩ (aB6 ⟨0,q,s.v,[]⟩ (mp (acc D (kP s.load) (mp (plr s.rows) s.rows.length) (pz s.v (mp (plr s.rows) s.rows.length) z)) D.length))=0:=by
  have hf2:=A.fit D2
  rw [aLT D3 (fun i hi=>hg i (by omega)) (by omega) i1 (fun r hr=>aR5 hf2 hr) (fun r hr=>(c1 r hr).nj)]
  rw [qO fun r hr=>?_]
  ·rfl
  ·rw [(c1 r hr).none (by rw [Al] at hr;rw [show hU (mp (plr s.rows) s.rows.length) r=plr s.rows r from aS2 (g:=id) hr];rfl)]
   exact Rat.zero_mul _
 have aL:(mp (acc D (kP s.load) (mp (plr s.rows) s.rows.length) (pz s.v (mp (plr s.rows) s.rows.length) z)) D.length).length=D.length:=bO _ _
 obtain⟨P1,P2⟩:=aFm (s:=⟨0,q,s.v,[]⟩) (a:=mp (acc D (kP s.load) (mp (plr s.rows) s.rows.length) (pz s.v (mp (plr s.rows) s.rows.length) z)) D.length) (m:=17) (k:=20000000) (by rw [aL];exact st) b1 (by omega) (by omega) (by omega) (by rw [aL];omega) rfl
 rw [aL] at P1
 obtain⟨L1,L2⟩:=aKi (x:=⟨D,[],[],[]⟩) (l:=g) (m:=17) (M:=17+17+20000000+5) (by omega) (by omega) (by omega) D3 gb (by show g.length=D.length;omega) st P1 (by show D.length≤4;omega)
 refine(?_:Ev (fun K=>jG K a0 a1 a2) true).get
 unfold jG
 refine Ev.bind hm (Ev.bind l46 ?_)
 simp only [jP,DL]
 refine Ev.bind qe (Ev.bind l75 ?_)
 simp only [jM]
 refine Ev.bind ⟨6000,fun K hK=>s1 K hK⟩ ?_
 simp only [nF (rfl:(0:Int)=0),bU,aL,nF (rfl:(D.length:Int)=D.length)]
 refine Ev.bind P2 (Ev.bind L2 ?_)
 have z0:(0:Rat).num.sign=0:=rfl
 refine Ev.bind (x:=(0:Int)) ⟨0,fun K _=>?_⟩ ?_
 ·show zN (aJq D g _ _)=_
  rw [zero,mF (Bd.zero) (by omega),z0]
 simp only [nF (rfl:(0:Int)=0),bU]
 have h:ScB D s.load s.v s.rows:=aMN D1 (by omega) D2
 have p:∀K,6000≤K→lZ K D s.load s.v s.rows=some (aBe D s.load s.v s.rows):=fun K hK=>(aCV h D2 (by omega) h8 hK).1
 have b2:=(aHD h (by omega) h8).1
 rcases aHf (d:=D) (f:=s.load) (v:=s.v) (l:=s.rows) with hc|⟨y,hy,hc⟩
 ·generalize aBe D s.load s.v s.rows=P at *
  refine Ev.bind ⟨6000,fun K hK=>p K hK⟩ ?_
  simp only [nT (show P.2.2≠0 by omega),cA]
  exact Ev.bind aD0 (Ev.pure _)
 ·rw [hy] at p b2
  have eL:=aLT (g:=g) (q:=q) (p:=pz s.v s.rows y) D3 (fun i hi=>hg i (by omega)) (by omega) h.ir (fun r hr=>aR5 D2 hr) (fun r hr=>(hc r hr).nj)
  have cL:(mp (acc D (kP s.load) s.rows (pz s.v s.rows y)) D.length).length=D.length:=bO _ _
  generalize mp (acc D (kP s.load) s.rows (pz s.v s.rows y)) D.length=a at *
  obtain⟨Q1,Q2⟩:=aFm (s:=⟨0,q,s.v,[]⟩) (a:=a) (m:=17) (k:=20000000) (by rw [cL];exact st) b2 (by omega) (by omega) (by omega) (by rw [cL];omega) rfl
  rw [cL] at Q1
  obtain⟨M1,M2⟩:=aKi (x:=⟨D,[],[],[]⟩) (l:=g) (m:=17) (M:=17+17+20000000+5) (by omega) (by omega) (by omega) D3 gb (by show g.length=D.length;omega) st Q1 (by show D.length≤4;omega)
  refine Ev.bind ⟨6000,fun K hK=>p K hK⟩ ?_
  simp only [nF (rfl:(0:Int)=0),bU,cL,nF (rfl:(D.length:Int)=D.length)]
  refine Ev.bind Q2 (Ev.bind M2 (Ev.bind ⟨13,fun K hK=>aNC h.sb.sv b2 (fun r hr=>(h.sb.sl r hr).1) (by omega) hK⟩ ?_))
  by_cases ht:s.rows.any (aKo s.v a)=true
  ·simp only [ht,Bool.not_true,Bool.not_false,cA]
   exact Ev.bind aD0 (Ev.pure _)
  ·have hf:s.rows.any (aKo s.v a)=false:=by simpa using ht
   have hnn:0≤(aJq D g ⟨0,q,s.v,[]⟩ (aB6 ⟨0,q,s.v,[]⟩ a)).num.sign:=by
    refine aLm ?_
    rw [eL,←aBT]
    refine aBA fun r hr=>?_
    have h1:aKo s.v a (hU s.rows r)=false:=List.any_eq_false.1 hf _ (lB hr) |> fun h=>by simpa using h
    have h2:=of_decide_eq_false h1
    have h3:=(hc r hr).loses (aVq D2 hr) (Classical.byContradiction fun h=>by
     have:=aQD (Rat.not_le.1 h)
     omega)
    grind
   simp only [hf,Bool.not_false,Bool.not_true,bU]
   refine Ev.bind (x:=(aJq D g ⟨0,q,s.v,[]⟩ (aB6 ⟨0,q,s.v,[]⟩ a)).num.sign) ⟨0,fun K _=>mF M1 (by omega)⟩ ?_
   simp only [dT hnn,cA]
   exact Ev.bind aD0 (Ev.pure _)
end Go.Proofs.YtldhbdgfpjoamaaGreat
