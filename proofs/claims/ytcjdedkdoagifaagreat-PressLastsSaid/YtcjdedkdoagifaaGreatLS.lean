/- The scene that gantryref19.Make returns; terms, rows and factors of package energy. -/
import Derived.Test.YtcjdedkdoagifaaGreatLD
import Derived.Test.YtcjdedkdoagifaaGreatMC
set_option linter.unusedVariables false
namespace Go.Proofs.YtcjdedkdoagifaaGreat
/-- Terms that are few and small. -/
def TB (l:List aQ):Prop:=l.length≤12∧∀t∈l,Bd 8 t.k
def RB (r:aK):Prop:=TB r.j∧TB r.t
def RsB (l:List aK):Prop:=∀r∈l,RB r
theorem TB.nil:TB []:=⟨by simp,fun t h=>absurd h List.not_mem_nil⟩
theorem RsB.nil:RsB []:=fun t h=>absurd h List.not_mem_nil
theorem RsB.snoc {l:List aK} {r:aK} (h:RsB l) (hr:RB r):RsB (l++[r]):=fun x hx=>by
 rcases List.mem_append.1 hx with h1|h1
 ·exact h x h1
 ·rw [List.mem_singleton.1 h1];exact hr
structure ScOk (s:bH):Prop where
 n1:1≤s.dofs.length
 n4:s.dofs.length≤4
 dofs:aGe s.dofs
 ll:s.load.length=s.dofs.length
 vl:s.v.length=s.dofs.length
 load:xC 8 s.load
 v:xC 8 s.v
 rows:RsB s.rows
 rl:s.rows.length≤4
theorem tab7 {m:Int} (h0:0≤m) (h1:m<7):∃x,dO [0,1,(-1),0,2,(-1),1] m=some x∧-2≤x∧x≤2:=by
 have:m=0∨m=1∨m=2∨m=3∨m=4∨m=5∨m=6:=by omega
 rcases this with rfl|rfl|rfl|rfl|rfl|rfl|rfl<;>exact⟨_,rfl,by omega,by omega⟩
theorem zU {n:Nat} (hn:n≤12):∀(t i:Nat) (out:List aQ) (v:Int),i+t=n→0≤v→v≤4000000000000→out.length≤i→(∀t∈out,Bd 8 t.k)→∃r,TB r∧∀K k,t<k→eE K (n:Int) k out v (i:Int)=some r
 |0,i,out,v,hi,h0,h1,hl,hb=>⟨out,⟨by omega,hb⟩,fun K k hk=>by
  obtain⟨k',rfl,_⟩:=eC hk
  simp only [eE,dF (show¬(i:Int)<(n:Int) by omega),gT]⟩
 |t+1,i,out,v,hi,h0,h1,hl,hb=>by
  have m7:=vR (a:=v) (m:=7) h0 (by omega)
  obtain⟨x,x1,x2,x3⟩:=tab7 m7.1 m7.2
  have m3:=vR (a:=v/7) (m:=3) (by omega) (by omega)
  have e1:r6 v 7=some (v%7):=kL h0 (by omega)
  have e2:r4 v 7=some (v/7):=oM h0 (by omega) (by omega)
  have e3:r6 (v/7) 3=some (v/7%3):=kL (by omega) (by omega)
  have e4:r4 (v/7) 3=some (v/7/3):=oM (by omega) (by omega) (by omega)
  have e5:bQ (1+v/7%3)=some (1+v/7%3):=mM (by omega)
  by_cases hx:x=0
  ·obtain⟨r,r1,r2⟩:=zU hn t (i+1) out (v/7/3) (by omega) (by omega) (by omega) (by omega) hb
   refine⟨r,r1,fun K k hk=>?_⟩
   obtain⟨k',rfl,_⟩:=eC hk
   simp only [eE,dT (show(i:Int)<(n:Int) by omega),gL,e1,oB,x1,e2,nF hx,gT,e4,ckS (i:=i) (by omega)]
   exact r2 K k' (by omega)
  ·obtain⟨q,q1,q2,q3⟩:=yN (k:=8) (p:=x) (q:=1+v/7%3) (by omega) (by omega) (by omega) (by omega)
   obtain⟨r,r1,r2⟩:=zU hn t (i+1) (out++[⟨(i:Int),q⟩]) (v/7/3) (by omega) (by omega) (by omega) (by simp;omega) (fun t ht=>by
    rcases List.mem_append.1 ht with h|h
    ·exact hb t h
    ·rw [List.mem_singleton.1 h];exact q3)
   refine⟨r,r1,fun K k hk=>?_⟩
   obtain⟨k',rfl,_⟩:=eC hk
   simp only [eE,dT (show(i:Int)<(n:Int) by omega),gL,e1,oB,x1,e2,nT hx,e3,e5,q1,apS (xs:=out) (x:=(⟨(i:Int),q⟩:aQ)) (by omega),e4,ckS (i:=i) (by omega)]
   exact r2 K k' (by omega)
theorem aBo {n:Nat} (hn:n≤12) {v:Int} (h0:0≤v) (h1:v≤4000000000000):∃r,TB r∧∀K,n<K→dZ K v (n:Int)=some r:=by
 obtain⟨r,r1,r2⟩:=zU hn n 0 [] v (by omega) h0 h1 (by simp) (fun t h=>absurd h List.not_mem_nil)
 refine⟨r,r1,fun K hK=>?_⟩
 have:=r2 K K hK
 simp only [Int.natCast_zero] at this
 simp only [dZ,this,oB,lP]
theorem aBZ {l:List Int} (hl:z2 l) {n:Nat} (hn:n≤4):∀(t i:Nat) (a b:List Rat) (d:List bE),i+t=n→a.length=i→b.length=i→d.length=i→xC 8 a→xC 8 b→aGe d→
  ∃a' b' d',a'.length=n∧b'.length=n∧d'.length=n∧xC 8 a'∧xC 8 b'∧aGe d'∧∀K k,t<k→f9 K l (n:Int) k a b d (i:Int)=some (a',b',d')
 |0,i,a,b,d,hi,h1,h2,h3,h4,h5,h6=>⟨a,b,d,by omega,by omega,by omega,h4,h5,h6,fun K k hk=>by
  obtain⟨k',rfl,_⟩:=eC hk
  simp only [f9,dF (show¬(i:Int)<(n:Int) by omega),gT]⟩
 |t+1,i,a,b,d,hi,h1,h2,h3,h4,h5,h6=>by
  obtain⟨v,v1,v2,v3⟩:=uY hl (1+(i:Int)) (m:=1073741824) (by omega)
  have m3:=vR (a:=v) (m:=3) v2 (by omega)
  have m4:=vR (a:=v/3) (m:=4) (by omega) (by omega)
  have m13:=vR (a:=v/12) (m:=13) (by omega) (by omega)
  have m33:=vR (a:=v/156) (m:=3) (by omega) (by omega)
  have e0:bQ (1+(i:Int))=some (1+(i:Int)):=mM (by omega)
  have e1:r6 v 3=some (v%3):=kL v2 (by omega)
  have e2:bQ (1+v%3)=some (1+v%3):=mM (by omega)
  have e3:r4 v 3=some (v/3):=oM v2 (by omega) (by omega)
  have e4:r6 (v/3) 4=some (v/3%4):=kL (by omega) (by omega)
  have e5:bQ (1+v/3%4)=some (1+v/3%4):=mM (by omega)
  obtain⟨q,q1,q2,q3⟩:=yN (k:=8) (p:=1+v%3) (q:=1+v/3%4) (by omega) (by omega) (by omega) (by omega)
  have e6:r4 v 12=some (v/12):=oM v2 (by omega) (by omega)
  have e7:r6 (v/12) 13=some (v/12%13):=kL (by omega) (by omega)
  have e8:bQ (v/12%13-6)=some (v/12%13-6):=mM (by omega)
  have e9:r4 v 156=some (v/156):=oM v2 (by omega) (by omega)
  have e10:r6 (v/156) 3=some (v/156%3):=kL (by omega) (by omega)
  have e11:bQ (1+v/156%3)=some (1+v/156%3):=mM (by omega)
  obtain⟨p,p1,p2,p3⟩:=yN (k:=8) (p:=v/12%13-6) (q:=1+v/156%3) (by omega) (by omega) (by omega) (by omega)
  have hq:aFU ⟨q,0,false,0,0⟩:=⟨q3,by rw [q2];exact aGa (by omega) (by omega),Bd.zero.mono (by omega)⟩
  obtain⟨a',b',d',g1,g2,g3,g4,g5,g6,g7⟩:=aBZ hl hn t (i+1) (a++[0]) (b++[p]) (d++[⟨q,0,false,0,0⟩]) (by omega) (by simp;omega) (by simp;omega) (by simp;omega) (h4.snoc (Bd.zero.mono (by omega))) (h5.snoc p3) (fun x hx=>by
   rcases List.mem_append.1 hx with h|h
   ·exact h6 x h
   ·rw [List.mem_singleton.1 h];exact hq)
  refine⟨a',b',d',g1,g2,g3,g4,g5,g6,fun K k hk=>?_⟩
  obtain⟨k',rfl,_⟩:=eC hk
  simp only [f9,dT (show(i:Int)<(n:Int) by omega),gL,e0,oB,v1,e1,e2,e3,e4,e5,q1,apS (xs:=d) (x:=(⟨q,0,false,0,0⟩:bE)) (by omega),e6,e7,e8,e9,e10,e11,p1,apS (xs:=b) (x:=p) (by omega),apS (xs:=a) (x:=(0:Rat)) (by omega),ckS (i:=i) (by omega)]
  exact g7 K k' (by omega)
theorem aBY {l:List Int} (hl:z2 l) (i:Nat) (hi:i≤10) (n:Nat) (hn:1≤n∧n≤4):∃v129 v137 v145 v151 q r131 r139 r197,
  bU l (9+3*(i:Int)) 1099511627776=some v129∧bU l (10+3*(i:Int)) 1099511627776=some v137∧bU l (11+3*(i:Int)) 5=some v145∧bU l (11+3*(i:Int)) 3=some v151∧bQ (1+v151)=some (1+v151)∧wP v145 (1+v151)=some q∧Bd 8 q∧0≤v129∧v129≤4000000000000∧TB r131∧TB r139∧TB r197∧
  ∀K,n<K→dZ K v129 (n:Int)=some r131∧dZ K v137 (n:Int)=some r139∧dZ K v129 ((n:Int)-1)=some r197:=by
 obtain⟨v,v1,v2,v3⟩:=uY hl (9+3*(i:Int)) (m:=1099511627776) (by omega)
 obtain⟨w,w1,w2,w3⟩:=uY hl (10+3*(i:Int)) (m:=1099511627776) (by omega)
 obtain⟨x,x1,x2,x3⟩:=uY hl (11+3*(i:Int)) (m:=5) (by omega)
 obtain⟨y,y1,y2,y3⟩:=uY hl (11+3*(i:Int)) (m:=3) (by omega)
 obtain⟨q,q1,q2,q3⟩:=yN (k:=8) (p:=x) (q:=1+y) (by omega) (by omega) (by omega) (by omega)
 obtain⟨a,a1,a2⟩:=aBo (n:=n) (v:=v) (by omega) v2 (by omega)
 obtain⟨b,b1,b2⟩:=aBo (n:=n) (v:=w) (by omega) w2 (by omega)
 obtain⟨c,c1,c2⟩:=aBo (n:=n-1) (v:=v) (by omega) v2 (by omega)
 refine⟨v,w,x,y,q,a,b,c,v1,w1,x1,y1,mM (by omega),q1,q3,v2,by omega,a1,b1,c1,fun K hK=>⟨a2 K hK,b2 K hK,?_⟩⟩
 have:=c2 K (by omega)
 rw [show((n-1:Nat):Int)=(n:Int)-1 by omega] at this
 exact this
theorem aAI {x107:List aK} {i:Nat} {v129:Int} {r:aK} (hi:i≤10) (hv:0≤v129) (hm:Bd 8 r.mu) (hr:RB r) (hl:x107.length≤100):∃r',RB r'∧∀K recl,eU K x107 (i:Int) v129 recl r=recl (x107++[r']) ((i+1:Nat):Int):=by
 by_cases h0:r.mu=0
 ·refine⟨⟨r.kind,r.a,r.b,r.edge,r.gap,r.j,[],0,r.e⟩,⟨hr.1,TB.nil⟩,fun K recl=>?_⟩
  simp only [eU,sG hm (by omega),oB,qT (aDQ.2 h0),gL,apS (show x107.length≤60000000000 by omega),ckS (i:=i) (by omega)]
 ·by_cases h1:v129%5=0
  ·refine⟨⟨r.kind,r.a,r.b,r.edge,r.gap,r.j,[],0,r.e⟩,⟨hr.1,TB.nil⟩,fun K recl=>?_⟩
   simp only [eU,sG hm (by omega),oB,qF (fun h=>h0 (aDQ.1 h)),gT,kL hv (show(0:Int)<5 by omega),qT h1,gL,apS (show x107.length≤60000000000 by omega),ckS (i:=i) (by omega)]
  ·refine⟨r,hr,fun K recl=>?_⟩
   simp only [eU,sG hm (by omega),oB,qF (fun h=>h0 (aDQ.1 h)),gT,kL hv (show(0:Int)<5 by omega),qF h1,apS (show x107.length≤60000000000 by omega),ckS (i:=i) (by omega)]
theorem aDP {x107:List aK} {i:Nat} {v129:Int} {a b:List aQ} {m:Rat} (hi:i≤10) (hv:0≤v129) (hm:Bd 8 m) (ha:TB a) (hb:TB b) (hl:x107.length≤100):∃r',RB r'∧∀K recl,fQ K x107 (i:Int) v129 a b m recl=recl (x107++[r']) ((i+1:Nat):Int):=by
 by_cases h0:m=0
 ·refine⟨⟨0,0,(i:Int),0,0,a,[],0,0⟩,⟨ha,TB.nil⟩,fun K recl=>?_⟩
  simp only [fQ,sG hm (by omega),oB,qT (aDQ.2 h0),gL,apS (show x107.length≤60000000000 by omega),ckS (i:=i) (by omega)]
 ·by_cases h1:v129%5=0
  ·refine⟨⟨0,0,(i:Int),0,0,a,[],0,0⟩,⟨ha,TB.nil⟩,fun K recl=>?_⟩
   simp only [fQ,sG hm (by omega),oB,qF (fun h=>h0 (aDQ.1 h)),gT,kL hv (show(0:Int)<5 by omega),qT h1,gL,apS (show x107.length≤60000000000 by omega),ckS (i:=i) (by omega)]
  ·refine⟨⟨0,0,(i:Int),0,0,a,b,m,0⟩,⟨ha,hb⟩,fun K recl=>?_⟩
   simp only [fQ,sG hm (by omega),oB,qF (fun h=>h0 (aDQ.1 h)),gT,kL hv (show(0:Int)<5 by omega),qF h1,apS (show x107.length≤60000000000 by omega),ckS (i:=i) (by omega)]
theorem yE {l:List Int} (hl:z2 l) (a1:Bool) (n:Nat) (hn:1≤n∧n≤4) {v8:Int} (h8:bU l 8 5=some v8) (h8':v8<5):∀(t i:Nat) (x:List aK),i+t=4→x.length=i→RsB x→
  ∃r,RsB r∧r.length≤4∧∀K k,n<K→t<k→cX K l a1 (n:Int) k x (i:Int)=some r
 |0,i,x,hi,hx,hr=>⟨x,hr,by omega,fun K k hK hk=>by
  obtain⟨k',rfl,_⟩:=eC hk
  simp only [cX,h8,oB,dF (show¬(i:Int)<v8 by omega),gT]⟩
 |t+1,i,x,hi,hx,hr=>by
  by_cases hlt:(i:Int)<v8
  ·obtain⟨v129,v137,v145,v151,q,r131,r139,r197,b1,b2,b3,b4,b5,b6,b7,b8,b9,b10,b11,b12,b13⟩:=aBY hl i (by omega) n hn
   have e3:bQ (3*(i:Int))=some (3*(i:Int)):=mM (by omega)
   have e9:bQ (9+3*(i:Int))=some (9+3*(i:Int)):=mM (by omega)
   have e10:bQ (10+3*(i:Int))=some (10+3*(i:Int)):=mM (by omega)
   have e11:bQ (11+3*(i:Int))=some (11+3*(i:Int)):=mM (by omega)
   have en:bQ ((n:Int)-1)=some ((n:Int)-1):=mM (by omega)
   cases a1
   ·obtain⟨r',c1,c2⟩:=aAI (x107:=x) (i:=i) (v129:=v129) (r:=⟨0,0,(i:Int),0,0,r197,r139,q,0⟩) (by omega) b8 b7 ⟨b12,b11⟩ (by omega)
    obtain⟨r,d1,d2,d3⟩:=yE hl false n hn h8 h8' t (i+1) (x++[r']) (by omega) (by simp;omega) (hr.snoc c1)
    refine⟨r,d1,d2,fun K k hK hk=>?_⟩
    obtain⟨k',rfl,_⟩:=eC hk
    obtain⟨s1,s2,s3⟩:=b13 K hK
    simp only [cX,h8,oB,dT hlt,gL,e3,e9,e10,e11,b1,b2,b3,b4,b5,b6,s1,s2,s3,Bool.not_false,en,c2]
    exact d3 K k' hK (by omega)
   ·obtain⟨r',c1,c2⟩:=aAI (x107:=x) (i:=i) (v129:=v129) (r:=⟨0,0,(i:Int),0,0,r131,r139,q,0⟩) (by omega) b8 b7 ⟨b10,b11⟩ (by omega)
    obtain⟨r,d1,d2,d3⟩:=yE hl true n hn h8 h8' t (i+1) (x++[r']) (by omega) (by simp;omega) (hr.snoc c1)
    refine⟨r,d1,d2,fun K k hK hk=>?_⟩
    obtain⟨k',rfl,_⟩:=eC hk
    obtain⟨s1,s2,s3⟩:=b13 K hK
    simp only [cX,h8,oB,dT hlt,gL,e3,e9,e10,e11,b1,b2,b3,b4,b5,b6,s1,s2,Bool.not_true,gT,c2]
    exact d3 K k' hK (by omega)
  ·refine⟨x,hr,by omega,fun K k hK hk=>?_⟩
   obtain⟨k',rfl,_⟩:=eC hk
   simp only [cX,h8,oB,dF hlt,gT]
theorem aAL {l:List Int} (hl:z2 l) (n:Nat) (hn:1≤n∧n≤4) {v8:Int} (h8:bU l 8 5=some v8) (h8':v8<5):∀(t i:Nat) (x:List aK),i+t=4→x.length=i→RsB x→
  ∃r,RsB r∧r.length≤4∧∀K k,n<K→t<k→dV K l (n:Int) k x (i:Int)=some r
 |0,i,x,hi,hx,hr=>⟨x,hr,by omega,fun K k hK hk=>by
  obtain⟨k',rfl,_⟩:=eC hk
  simp only [dV,h8,oB,dF (show¬(i:Int)<v8 by omega),gT]⟩
 |t+1,i,x,hi,hx,hr=>by
  by_cases hlt:(i:Int)<v8
  ·obtain⟨v129,v137,v145,v151,q,r131,r139,r197,b1,b2,b3,b4,b5,b6,b7,b8,b9,b10,b11,b12,b13⟩:=aBY hl i (by omega) n hn
   have e3:bQ (3*(i:Int))=some (3*(i:Int)):=mM (by omega)
   have e9:bQ (9+3*(i:Int))=some (9+3*(i:Int)):=mM (by omega)
   have e10:bQ (10+3*(i:Int))=some (10+3*(i:Int)):=mM (by omega)
   have e11:bQ (11+3*(i:Int))=some (11+3*(i:Int)):=mM (by omega)
   obtain⟨r',c1,c2⟩:=aDP (x107:=x) (i:=i) (v129:=v129) (a:=r131) (b:=r139) (m:=q) (by omega) b8 b7 b10 b11 (by omega)
   obtain⟨r,d1,d2,d3⟩:=aAL hl n hn h8 h8' t (i+1) (x++[r']) (by omega) (by simp;omega) (hr.snoc c1)
   refine⟨r,d1,d2,fun K k hK hk=>?_⟩
   obtain⟨k',rfl,_⟩:=eC hk
   obtain⟨s1,s2,s3⟩:=b13 K hK
   simp only [dV,h8,oB,dT hlt,gL,e3,e9,e10,e11,b1,b2,b3,b4,b5,b6,s1,s2,c2]
   exact d3 K k' hK (by omega)
  ·refine⟨x,hr,by omega,fun K k hK hk=>?_⟩
   obtain⟨k',rfl,_⟩:=eC hk
   simp only [dV,h8,oB,dF hlt,gT]
theorem aFp {l:List Int} (hl:z2 l) (rest:Bool):∃s,ScOk s∧Ev (fun K=>iQ K l rest) s:=by
 obtain⟨v0,a1,a2,a3⟩:=uY hl 0 (m:=4) (by omega)
 obtain⟨n,hn⟩:∃n:Nat,1+v0=(n:Int):=⟨(1+v0).toNat,by omega⟩
 have e1:bQ (1+v0)=some (n:Int):=by rw [mM (by omega),hn]
 obtain⟨a,b,d,g1,g2,g3,g4,g5,g6,g7⟩:=aBZ hl (n:=n) (by omega) n 0 [] [] [] (by omega) rfl rfl rfl (fun t h=>absurd h List.not_mem_nil) (fun t h=>absurd h List.not_mem_nil) (fun t h=>absurd h List.not_mem_nil)
 obtain⟨v5,b1,b2,b3⟩:=uY hl 5 (m:=3) (by omega)
 obtain⟨v8,c1,c2,c3⟩:=uY hl 8 (m:=5) (by omega)
 obtain⟨r,d1,d2,d3⟩:=aAL hl n (by omega) c1 c3 4 0 [] rfl rfl RsB.nil
 obtain⟨r',d1',d2',d3'⟩:=yE hl rest n (by omega) c1 c3 4 0 [] rfl rfl RsB.nil
 simp only [Int.natCast_zero] at g7 d3 d3'
 by_cases h5:0<v5
 ·cases rest
  ·obtain⟨v6,f1,f2,f3⟩:=uY hl 6 (m:=9) (by omega)
   obtain⟨v7,f4,f5,f6⟩:=uY hl 7 (m:=3) (by omega)
   obtain⟨q,q1,q2,q3⟩:=yN (k:=8) (p:=v6-4) (q:=1+v7) (by omega) (by omega) (by omega) (by omega)
   have e2:bQ ((n:Int)-1)=some ((n-1:Nat):Int):=uB (m:=0) (by omega) (by omega)
   have e3:bQ (v6-4)=some (v6-4):=mM (by omega)
   have e4:bQ (1+v7)=some (1+v7):=mM (by omega)
   refine⟨⟨d,b,a.set (n-1) q,r'⟩,⟨by simp only;omega,by simp only;omega,g6,by simp only;omega,by simp only [List.length_set];omega,g5,fun x hx=>?_,d1',d2'⟩,⟨6+n,fun K hK=>?_⟩⟩
   ·rcases List.mem_or_eq_of_mem_set hx with h|h
    ·exact g4 x h
    ·rw [h];exact q3
   ·simp only [iQ,a1,oB,e1,g7 K K (by omega),gZ,b1,dT h5,gL,Bool.not_false,e2,f1,e3,f4,e4,q1,aGn (l:=a) (i:=n-1) (by omega),stG (xs:=a) (i:=n-1) (v:=q) (by omega),g9,d3' K K (by omega) (by omega),iW]
  ·refine⟨⟨d,b,a,r'⟩,⟨by simp only;omega,by simp only;omega,g6,by simp only;omega,by simp only;omega,g5,g4,d1',d2'⟩,⟨6+n,fun K hK=>?_⟩⟩
   simp only [iQ,a1,oB,e1,g7 K K (by omega),gZ,b1,dT h5,gL,Bool.not_true,gT,g9,d3' K K (by omega) (by omega),iW]
 ·refine⟨⟨d,b,a,r⟩,⟨by simp only;omega,by simp only;omega,g6,by simp only;omega,by simp only;omega,g5,g4,d1,d2⟩,⟨6+n,fun K hK=>?_⟩⟩
  simp only [iQ,a1,oB,e1,g7 K K (by omega),gZ,b1,dF h5,gT,lG,d3 K K (by omega) (by omega),lA]
end Go.Proofs.YtcjdedkdoagifaaGreat
