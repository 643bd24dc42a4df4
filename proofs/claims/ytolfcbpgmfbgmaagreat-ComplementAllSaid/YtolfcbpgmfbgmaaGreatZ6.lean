/- Texts of the proof, part 6: Q3 QZ WP LB MA MB MC MR MT LG LV MS MN MP MU YC YD LD LS XL XF XA XU XV XW XX XY YE YF YG YH YI YJ YK YL YV WA WB WC WG YM XZ YN WK WL MD WN WQ WR WS WT MX4. -/
import Derived.Test.YtolfcbpgmfbgmaaGreatZ5
set_option linter.unusedSimpArgs false
set_option linter.unusedVariables false
set_option maxRecDepth 100000
namespace Go.Proofs.YtolfcbpgmfbgmaaGreat
def qC (K:Nat) (v11:List Rat):Option Bool:=
 (kQ K v11).bind fun v17=>some (!v17)
def fN (K:Nat) (a2:List Rat) (v11:List Rat):Nat→Int→Option (LR Bool Unit)
 |0,_=>none
 |k+1,x14=>bif(decide (x14<(a2.length:Int))) then((bF a2 x14).bind fun v20=>(xD v20).bind fun v22=>bif(v22 != 0) then((bF v11 x14).bind fun v25=>(xD v25).bind fun v27=>bif(v27 != 0) then(some (.ret false)) else((aS (x14+1)).bind fun v30=>fN K a2 v11 k v30)) else((aS (x14+1)).bind fun v32=>fN K a2 v11 k v32)) else(some (.go ()))
def qS (K:Nat) (a0:List (List Rat)) (a1:List Rat) (a2:List Rat):Option Bool:=
 (fR K a0 a1).bind fun v1=>bif(!v1) then(some false) else(bif((a2.length:Int) != (a1.length:Int)) then(some false) else((lW K a2).bind fun v5=>bif(!v5) then(some false) else((kQ K a2).bind fun v8=>bif v8 then(some false) else((vJ K a0 a1 a2).bind fun v11=>(fN K a2 v11 K 0).bind fun o=>match o with| .ret r=>some r| .go _=>qC K v11))))
theorem aCs {K:Nat} {a0:List (List Rat)} {a1:List Rat} {a2:List Rat} {r:Bool} (hF:qS K a0 a1 a2=some r):Ct Tryz.prog 23 [.vc (pS (bJ cQ) a0),.vc (pS cQ a1),.vc (pS cQ a2)] (.vc (pB r)):=by
 unfold qS at hF
 refine aA Tryz.func23 rfl (by kernel_rfl) Tryz.ntmps23 rfl (fun w0 M0=>?_)
 obtain⟨v1,h2,hF⟩:=aW hF zY
 refine go ?_ ?_
 refine cC hF (fun h3 hF=>?_) (fun h3 hF=>?_)
 ·refine go ?_ ?_
  refine fV rfl ?_
  exact bI
 refine go ?_ ?_
 refine cC hF (fun h4 hF=>?_) (fun h4 hF=>?_)
 ·refine go ?_ ?_
  refine fV rfl ?_
  exact bI
 obtain⟨v5,h6,hF⟩:=aW hF wY
 refine go ?_ ?_
 refine cC hF (fun h7 hF=>?_) (fun h7 hF=>?_)
 ·refine go ?_ ?_
  refine fV rfl ?_
  exact bI
 obtain⟨v8,h9,hF⟩:=aW hF xW
 refine go ?_ ?_
 refine aB hF rfl (fun h10 hF=>?_) (fun h10 hF=>?_)
 ·exact bI
 obtain⟨v11,h12,hF⟩:=aW hF aFb
 refine go ?_ ?_
 refine aG (aP (fun H E=>qC K v11=some r∧H=[]∧E=[(7,.vc (pS cQ v11))]) ?_ (fun Jj16=>?_))
 ·rintro _ _ ⟨hF,rfl,rfl⟩
  unfold qC at hF
  obtain⟨v17,h18,hF⟩:=aW hF xW
  exact bI
 obtain⟨ol15,hL,hRl15⟩:=aM hF
 refine cA (fun k a w=>∃(x14:Int),fN K a2 v11 k x14=some ol15∧hs _ [] [(2,.vc (pS cQ a2)),(7,.vc (pS cQ v11)),(8,.vc (pI .i64 x14))] a w) K (fun a w ⟨_,hF,_⟩=>by cases hF) (fun k a w ⟨x14,hF,hh⟩=>b0 ?_ hh) (fun a w hh=>⟨0,hL,dI [] hh⟩)
 rw [fN.eq_2] at hF
 refine go ?_ ?_
 refine aB hF rfl (fun h19 hF=>?_) (fun h19 hF=>?_)
 ·refine go ?_ ?_
  refine aG ?_
  obtain⟨v20,h21,hF⟩:=aM hF
  obtain⟨v22,h23,hF⟩:=aW hF kZ
  refine go ?_ ?_
  refine cC hF (fun h24 hF=>?_) (fun h24 hF=>?_)
  ·obtain⟨v25,h26,hF⟩:=aM hF
   obtain⟨v27,h28,hF⟩:=aW hF kZ
   refine go ?_ ?_
   refine aB hF rfl (fun h29 hF=>?_) (fun h29 hF=>?_)
   ·exact bI
   obtain⟨v30,h31,hF⟩:=aM hF
   refine go ?_ ?_
   exact aF (fun a w hh=>⟨v30,hF,dI [] hh⟩)
  refine go ?_ ?_
  refine wX rfl ?_
  obtain⟨v32,h33,hF⟩:=aM hF
  refine go ?_ ?_
  exact aF (fun a w hh=>⟨v32,hF,dI [] hh⟩)
 refine aV ?_
 obtain rfl:=eP hF
 exact nK Jj16 ⟨hRl15,rfl,rfl⟩ []
def nO (K:Nat) (x17:List (List Rat)):Option (List (List Rat)):=
 some x17
def fY (K:Nat) (a0:List (List Rat)) (a1:Int):Nat→(List (List Rat))→Int→Option (List (List Rat))
 |0,_,_=>none
 |k+1,x10,x16=>bif(decide (x16<(a0.length:Int))) then((bF a0 x16).bind fun v30=>(slL v30 0 a1).bind fun x32=>(oG ([]:List Rat) x32).bind fun x34=>(bF a0 x16).bind fun v37=>(aS (a1+1)).bind fun v39=>(slL v37 v39 (v37.length:Int)).bind fun x41=>(oG x34 x41).bind fun x43=>(oG x10 [x43]).bind fun x46=>(aS (x16+1)).bind fun v53=>fY K a0 a1 k x46 v53) else(some x10)
def n8 (K:Nat) (a0:List (List Rat)) (a1:Int):Option (List (List Rat)):=
 (fY K a0 a1 K ([]:List (List Rat)) 1).bind fun x17=>nO K x17
theorem aBI {K:Nat} {a0:List (List Rat)} {a1:Int} {r:List (List Rat)} (hF:n8 K a0 a1=some r):Ct Tryz.prog 105 [.vc (pS (bJ cQ) a0),.vc (pI .i64 a1)] (.vc (pS (bJ cQ) r)):=by
 unfold n8 at hF
 refine aA Tryz.func105 rfl (by kernel_rfl) Tryz.ntmps105 rfl (fun w0 M0=>?_)
 refine aC (aH (aI (aL (.inr rfl)) ⟨cD (bJ cQ),trivial⟩ ?_))
 refine aT (aJ (aC (aH (jP (bJ cQ) 24 rfl ?_))))
 refine go ?_ ?_
 refine aG (aP (fun H E=>∃(x17:List (List Rat)),∃(b18:Option Nat),∃(c19:Nat),∃(n20:Nat),nO K x17=some r∧x17.length=n20∧H=[hO (bJ cQ) b18 c19 24 n20 x17]∧E=[(5,.vc (pO b18 n20 c19))]) ?_ (fun Jj24=>?_))
 ·rintro _ _ ⟨x17,b18,c19,n20,hF,q21,rfl,rfl⟩
  unfold nO at hF
  refine go ?_ ?_
  refine dQ (dL (lF 0 [4,5,33] rfl q21 ⟨rfl,rfl,rfl,trivial⟩ rfl ?_))
  obtain rfl:=eP hF
  exact eE (.inl rfl) Tryz.results105 (.tmp rfl .nil) rfl rfl
 obtain⟨x17',hL,hRl23⟩:=aM hF
 refine cA (fun k a w=>∃(x10:List (List Rat)),∃(x16:Int),∃(b11:Option Nat),∃(c12:Nat),∃(n13:Nat),fY K a0 a1 k x10 x16=some x17'∧x10.length=n13∧hs _ [hO (bJ cQ) b11 c12 24 n13 x10] [(0,.vc (pS (bJ cQ) a0)),(1,.vc (pI .i64 a1)),(5,.vc (pO b11 n13 c12)),(6,.vc (pI .i64 x16))] a w) K (fun a w ⟨_,_,_,_,_,hF,_,_⟩=>by cases hF) (fun k a w ⟨x10,x16,b11,c12,n13,hF,q14,hh⟩=>b0 ?_ hh) (fun a w hh=>⟨([]:List (List Rat)),1,none,0,0,hL,rfl,dI [0] hh⟩)
 rw [fY.eq_2] at hF
 refine go ?_ ?_
 refine aB hF rfl (fun h25 hF=>?_) (fun h25 hF=>?_)
 ·refine go ?_ ?_
  refine aG (aC (aH (jP cQ 42 rfl ?_)))
  refine aT (aJ ?_)
  obtain⟨v30,h31,hF⟩:=aM hF
  obtain⟨x32,h33,hF⟩:=aM hF
  obtain⟨x34,h35,hF⟩:=aM hF
  have hF:=tJ h31 hF
  obtain⟨v39,h40,hF⟩:=aM hF
  obtain⟨x41,h42,hF⟩:=aM hF
  obtain⟨x43,h44,hF⟩:=aM hF
  refine r6 (HsM [(0,fun G28=>[hO cQ none 0 42 0 ([]:List Rat),hO (bJ cQ) b11 c12 24 n13 x10]),(1,fun G28=>[hO cQ ((G28 8).1) ((G28 8).2) 42 (0+x32.length) x34,hO (bJ cQ) b11 c12 24 n13 x10]),(3,fun G28=>[hO (bJ cQ) b11 c12 24 n13 x10])]) [8,16] [0,0,0,0,12,28,0,124,254,0,0,1536,3584,0,8192,32256,65534,131070,262143,524287] 18 2 [.v (.vc (pO b11 n13 c12)),.v (.vc (pO none 0 0)),.v (.vc (pS (bJ cQ) a0)),.v (.vc (pI .i64 x16)),.v (.vc (pM ((bJ cQ).e v30))),.v (.vc (pS cQ v30)),.v (.vc (pI .i64 a1)),.v (.vc (pS cQ x32)),.g (fun b c=>.vc (pO b (0+x32.length) c)),.v (.vc (pS (bJ cQ) a0)),.v (.vc (pI .i64 x16)),.v (.vc (pM ((bJ cQ).e v30))),.v (.vc (pS cQ v30)),.v (.vc (pI .i64 a1)),.v (.vc (pI .i64 v39)),.v (.vc (pS cQ x41)),.g (fun _ _=>.vc (pS cQ x43)),.v (.vc (pS (bJ cQ) [x43]))] aU ⟨⟨rfl,.run (L:=[0,1,3]) ⟨fun G28 A=>aL (.inl rfl),fun G28 A=>aL (.inl rfl),fun G28 A=>aL (.inl rfl),trivial⟩ (fun G28=>zU1)⟩,d1 0 (aL (.inl rfl)) zU1,d1 0 (aL (.inl rfl)) zU1,d1 0 (aL (.inl rfl)) zU1,d1 0 (zS rfl tyS23 h31) zU2,d1 0 (x0 1 rfl rfl (.one tyO24)) zU1,d1 0 (aL (.inl rfl)) zU1,d1 0 (aDK rfl tyS24 h33) zU2,⟨rfl,.hvy (ins:=fun G28=>[(.tmp 15,.vc (pO none 0 0)),(.tmp 21,.vc (pS cQ x32))]) [0] ⟨fun G28 A=>aBc 0 rfl tyS24 rfl rfl rfl h35,trivial⟩ (fun G28=>zU2)⟩,⟨rfl,.run (L:=[0,1]) ⟨fun G28 A=>aL (.inl rfl),fun G28 A=>aL (.inl rfl),trivial⟩ (fun G28=>zU1)⟩,⟨rfl,.run (L:=[0,1]) ⟨fun G28 A=>aL (.inl rfl),fun G28 A=>aL (.inl rfl),trivial⟩ (fun G28=>zU1)⟩,⟨rfl,.run (L:=[0,1]) ⟨fun G28 A=>zS rfl tyS23 h31,fun G28 A=>zS rfl tyS23 h31,trivial⟩ (fun G28=>zU2)⟩,⟨rfl,.run (L:=[0,1]) ⟨fun G28 A=>x0 1 rfl rfl (.one tyO24),fun G28 A=>x0 1 rfl rfl (.one tyO24),trivial⟩ (fun G28=>zU1)⟩,⟨rfl,.run (L:=[0,1]) ⟨fun G28 A=>aL (.inl rfl),fun G28 A=>aL (.inl rfl),trivial⟩ (fun G28=>zU1)⟩,⟨rfl,.run (L:=[0,1]) ⟨fun G28 A=>yK rfl h40,fun G28 A=>yK rfl h40,trivial⟩ (fun G28=>⟨rfl,qM _ _,trivial⟩)⟩,⟨rfl,.run (L:=[0,1]) ⟨fun G28 A=>aH3 rfl tyS24 h42,fun G28 A=>aH3 rfl tyS24 h42,trivial⟩ (fun G28=>zU2)⟩,⟨rfl,.hvy (ins:=fun G28=>[(.tmp 22,.vc (pO ((G28 8).1) (0+x32.length) ((G28 8).2))),(.tmp 29,.vc (pS cQ x41))]) [1] ⟨fun G28 A=>aB8 (aJ5 0 (aBc (n:=(0+x32.length)) 0 rfl tyS24 rfl rfl (bD h35 rfl) h44) (fun _ _=>rfl) (bD h44 (bD h35 rfl)) (fun _ _=>rfl)),trivial⟩ (fun G28=>zU2)⟩,d1 3 (eR (C:=(bJ cQ)) (xs:=[.tmp 30]) (ps:=[.vc (pS cQ x43)]) (zs:=[x43]) rfl tyS23 rfl ⟨⟨trivial,rfl⟩,trivial⟩ rfl) zU1,trivial⟩ (fun bs29 G28=>?_)
  obtain⟨x46,h47,hF⟩:=aM hF
  refine iK 0 rfl tyS23 rfl rfl q14 rfl rfl h47 (fun b48 c49 H50 e51=>?_)
  cases e51
  obtain⟨v53,h54,hF⟩:=aM hF
  refine go ?_ ?_
  exact aF (fun a w hh=>⟨x46,v53,b48,c49,(n13+[x43].length),hF,(bD h47 q14),dI [0] hh⟩)
 refine aV ?_
 obtain rfl:=eP hF
 exact nK Jj24 ⟨x10,b11,c12,n13,hRl23,q14,rfl,rfl⟩ [0]
def qD (K:Nat) (x10:Rat):Option Rat:=
 some x10
def dY (K:Nat) (a0:List (List Rat)) (self:(List (List Rat))→Option Rat):Nat→Rat→Int→Option Rat
 |0,_,_=>none
 |k+1,x8,x9=>bif(decide (x9<(a0.length:Int))) then((bF a0 0).bind fun v14=>(bF v14 x9).bind fun v16=>(xD v16).bind fun v18=>bif(v18==0) then((aS (x9+1)).bind fun v21=>dY K a0 self k x8 v21) else((bF a0 0).bind fun v25=>(bF v25 x9).bind fun v27=>(n8 K a0 x9).bind fun v29=>(self v29).bind fun v31=>(aEr v27 v31).bind fun v33=>(chr x9 2).bind fun v35=>bif(v35==1) then((aCh v33).bind fun v38=>(aFc x8 v38).bind fun v40=>(aS (x9+1)).bind fun v42=>dY K a0 self k v40 v42) else((aFc x8 v33).bind fun v44=>(aS (x9+1)).bind fun v46=>dY K a0 self k v44 v46))) else(some x8)
def qN (K:Nat) (self:(List (List Rat))→Option Rat) (a0:List (List Rat)):Option Rat:=
 bif((a0.length:Int)==0) then((qof 1 1).bind fun v3=>some v3) else((dY K a0 self K 0 0).bind fun x10=>qD K x10)
theorem aCE {K:Nat} {self:(List (List Rat))→Option Rat} (hself:∀{a0:List (List Rat)} {r:Rat},self a0=some r→Ct Tryz.prog 67 [.vc (pS (bJ cQ) a0)] (.va (eQ r))) {a0:List (List Rat)} {r:Rat} (hF:qN K self a0=some r):Ct Tryz.prog 67 [.vc (pS (bJ cQ) a0)] (.va (eQ r)):=by
 unfold qN at hF
 refine aA Tryz.func67 rfl (by kernel_rfl) Tryz.ntmps67 rfl (fun w0 M0=>?_)
 refine aC (aH (aN rfl tyZ42q (fun b1=>?_)))
 refine go ?_ ?_
 refine aB hF rfl (fun h2 hF=>?_) (fun h2 hF=>?_)
 ·obtain⟨v3,h4,hF⟩:=aW hF dX
  exact bI
 refine go ?_ ?_
 refine aN rfl tyZ42q (fun b5=>?_)
 refine go ?_ ?_
 refine aG (aP (fun H E=>∃(x10:Rat),qD K x10=some r∧H=[⟨some b5,1,42,4,1,(eQ x10)⟩,⟨some b1,1,42,4,1,(eQ 0)⟩]∧E=[(2,.vc (pP (some b1) 0)),(3,.vc (pP (some b5) 0))]) ?_ (fun Jj12=>?_))
 ·rintro _ _ ⟨x10,hF,rfl,rfl⟩
  unfold qD at hF
  exact bI
 obtain⟨x10',hL,hRl11⟩:=aM hF
 refine cA (fun k a w=>∃(x8:Rat),∃(x9:Int),dY K a0 self k x8 x9=some x10'∧hs _ [⟨some b5,1,42,4,1,(eQ x8)⟩,⟨some b1,1,42,4,1,(eQ 0)⟩] [(0,.vc (pS (bJ cQ) a0)),(2,.vc (pP (some b1) 0)),(3,.vc (pP (some b5) 0)),(4,.vc (pI .i64 x9))] a w) K (fun a w ⟨_,_,hF,_⟩=>by cases hF) (fun k a w ⟨x8,x9,hF,hh⟩=>b0 ?_ hh) (fun a w hh=>⟨0,0,hL,dI [0,1] hh⟩)
 rw [dY.eq_2] at hF
 refine go ?_ ?_
 refine aB hF rfl (fun h13 hF=>?_) (fun h13 hF=>?_)
 ·refine go ?_ ?_
  refine aG ?_
  obtain⟨v14,h15,v16,h17,hF⟩:=tW hF
  obtain⟨v18,h19,hF⟩:=aW hF kZ
  refine go ?_ ?_
  refine aB hF rfl (fun h20 hF=>?_) (fun h20 hF=>?_)
  ·refine aV ?_
   obtain⟨v21,h22,hF⟩:=aM hF
   refine go ?_ ?_
   exact aF (fun a w hh=>⟨x8,v21,hF,dI [0,1] hh⟩)
  have hF:=tJ h15 hF
  have hF:=tJ h17 hF
  obtain⟨v29,h30,hF⟩:=aW hF aBI
  obtain⟨v31,h32,hF⟩:=aM hF
  obtain⟨v33,h34,hF⟩:=aW hF xQ
  refine go ?_ ?_
  refine iQ [0,1,3,0,15,31,0,0,192,448,1023,0,4095] 12 1 [.v (.vc (pS (bJ cQ) a0)),.v (.vc (pM ((bJ cQ).e v14))),.v (.vc (pS cQ v14)),.v (.vc (pI .i64 x9)),.v (.vc (pM (cQ.e v16))),.v (.va (eQ v16)),.v (.vc (pS (bJ cQ) a0)),.v (.vc (pI .i64 x9)),.v (.vc (pS (bJ cQ) v29)),.v (.va (eQ v31)),.v (.va (eQ v33)),.a 42 (eQ 0)] aU ⟨d0 (aL (.inl rfl)) zU1,d0 (zS rfl tyS23 h15) ⟨rfl,qM _ _,trivial⟩,d0 (x0 1 rfl rfl (.one tyO24)) zU1,d0 (aL (.inl rfl)) zU1,d0 (zS rfl tyS24 h17) zU2,d0 (x0 4 rfl rfl (.agg tyA42)) zU1,d0 (aL (.inl rfl)) zU1,d0 (aL (.inl rfl)) zU1,d0 (bE rfl h30 rfl) zU2,d0 (bE rfl (hself h32) rfl) zU1,d0 (bE rfl h34 rfl) zU2,⟨rfl,.alc tyZ42q⟩,trivial⟩ (fun bs24 G23=>?_)
  obtain⟨v35,h36,hF⟩:=aM hF
  refine go ?_ ?_
  refine aB hF rfl (fun h37 hF=>?_) (fun h37 hF=>?_)
  ·obtain⟨v38,h39,hF⟩:=aW hF oO
   obtain⟨v40,h41,hF⟩:=aW hF oH
   obtain⟨v42,h43,hF⟩:=aM hF
   refine go ?_ ?_
   exact aF (fun a w hh=>⟨v40,v42,hF,dI [1,2] hh⟩)
  obtain⟨v44,h45,hF⟩:=aW hF oH
  obtain⟨v46,h47,hF⟩:=aM hF
  refine go ?_ ?_
  exact aF (fun a w hh=>⟨v44,v46,hF,dI [1,2] hh⟩)
 refine aV ?_
 obtain rfl:=eP hF
 exact nK Jj12 ⟨x8,hRl11,rfl,rfl⟩ [0,1]
def kT (K:Nat):Nat→(List (List Rat))→Option Rat
 |0,_=>none
 |k+1,a0=>qN K (kT K k) a0
theorem z4 {K:Nat}:∀(k:Nat) {a0:List (List Rat)} {r:Rat},kT K k a0=some r→Ct Tryz.prog 67 [.vc (pS (bJ cQ) a0)] (.va (eQ r))
 |0,_,_,h=>by cases h
 |k+1,_,_,h=>aCE (fun h=>z4 k h) h
def yT (K:Nat) (a0:List (List Rat)):Option Rat:=kT K K a0
theorem aDD {K:Nat} {a0:List (List Rat)} {r:Rat} (hF:yT K a0=some r):Ct Tryz.prog 67 [.vc (pS (bJ cQ) a0)] (.va (eQ r)):=z4 K hF
def rW (a0:List (List Rat)):Option Int:=
 bif((a0.length:Int)==0) then(some 0) else((bF a0 0).bind fun v2=>some (v2.length:Int))
theorem aDk {a0:List (List Rat)} {r:Int} (hF:rW a0=some r):Ct Tryz.prog 106 [.vc (pS (bJ cQ) a0)] (.vc (pI .i64 r)):=by
 unfold rW at hF
 refine aA Tryz.func106 rfl (by kernel_rfl) Tryz.ntmps106 rfl (fun w0 M0=>?_)
 refine go ?_ ?_
 refine aB hF rfl (fun h1 hF=>?_) (fun h1 hF=>?_)
 ·exact bI
 obtain⟨v2,h3,hF⟩:=aM hF
 exact bI
def q9 (K:Nat) (x18:List Rat):Option (List Rat):=
 some x18
def jA (K:Nat) (a0:List Rat) (a1:Rat):Nat→(List Rat)→Int→Option (List Rat)
 |0,_,_=>none
 |k+1,x11,x17=>bif(decide (x17<(a0.length:Int))) then((bF a0 x17).bind fun v29=>(aGv v29 a1).bind fun v31=>(oG x11 [v31]).bind fun x33=>(aS (x17+1)).bind fun v40=>jA K a0 a1 k x33 v40) else(some x11)
def rX (K:Nat) (a0:List Rat) (a1:Rat):Option (List Rat):=
 (jA K a0 a1 K ([]:List Rat) 0).bind fun x18=>q9 K x18
theorem aDr {K:Nat} {a0:List Rat} {a1:Rat} {r:List Rat} (hF:rX K a0 a1=some r):Ct Tryz.prog 143 [.vc (pS cQ a0),.va (eQ a1)] (.vc (pS cQ r)):=by
 unfold rX at hF
 refine aA Tryz.func143 rfl (by kernel_rfl) Tryz.ntmps143 rfl (fun w0 M0=>?_)
 refine aC (aH (bV rfl rfl trivial (fun b1=>?_)))
 refine aI (aL (.inr rfl)) ⟨cD cQ,trivial⟩ ?_
 refine aT (aJ (aC (aH (jP cQ 42 rfl ?_))))
 refine go ?_ ?_
 refine aG (aP (fun H E=>∃(x18:List Rat),∃(b19:Option Nat),∃(c20:Nat),∃(n21:Nat),q9 K x18=some r∧x18.length=n21∧H=[hO cQ b19 c20 42 n21 x18]∧E=[(5,.vc (pO b19 n21 c20))]) ?_ (fun Jj25=>?_))
 ·rintro _ _ ⟨x18,b19,c20,n21,hF,q22,rfl,rfl⟩
  unfold q9 at hF
  refine go ?_ ?_
  refine dQ (dL (lF 0 [4,5,22] rfl q22 ⟨rfl,rfl,rfl,trivial⟩ rfl ?_))
  obtain rfl:=eP hF
  exact eE (.inl rfl) Tryz.results143 (.tmp rfl .nil) rfl rfl
 obtain⟨x18',hL,hRl24⟩:=aM hF
 refine cA (fun k a w=>∃(x11:List Rat),∃(x17:Int),∃(b12:Option Nat),∃(c13:Nat),∃(n14:Nat),jA K a0 a1 k x11 x17=some x18'∧x11.length=n14∧hs _ [hO cQ b12 c13 42 n14 x11,⟨some b1,1,42,4,1,(eQ a1)⟩] [(0,.vc (pS cQ a0)),(3,.vc (pP (some b1) 0)),(5,.vc (pO b12 n14 c13)),(6,.vc (pI .i64 x17))] a w) K (fun a w ⟨_,_,_,_,_,hF,_,_⟩=>by cases hF) (fun k a w ⟨x11,x17,b12,c13,n14,hF,q15,hh⟩=>b0 ?_ hh) (fun a w hh=>⟨([]:List Rat),0,none,0,0,hL,rfl,dI [0,1] hh⟩)
 rw [jA.eq_2] at hF
 refine go ?_ ?_
 refine aB hF rfl (fun h26 hF=>?_) (fun h26 hF=>?_)
 ·refine go ?_ ?_
  refine aG ?_
  obtain⟨v29,h30,hF⟩:=aM hF
  obtain⟨v31,h32,hF⟩:=aW hF aDE
  refine iQ [0,0,0,6,14,0,62,126,255,511] 8 2 [.v (.vc (pO b12 n14 c13)),.v (.vc (pS cQ a0)),.v (.vc (pI .i64 x17)),.v (.vc (pM (cQ.e v29))),.v (.va (eQ v29)),.v (.va (eQ a1)),.v (.va (eQ v31)),.v (.vc (pS cQ [v31]))] aU ⟨d0 (aL (.inl rfl)) zU1,d0 (aL (.inl rfl)) zU1,d0 (aL (.inl rfl)) zU1,d0 (zS rfl tyS24 h30) zU2,d0 (x0 4 rfl rfl (.agg tyA42)) zU1,d0 (gC 1 4 rfl rfl rfl rfl (.agg tyA42)) zU1,d0 (bE rfl h32 rfl) zU2,d0 (eR (C:=cQ) (xs:=[.tmp 19]) (ps:=[.va (eQ v31)]) (zs:=[v31]) rfl tyS24 rfl ⟨⟨trivial,rfl⟩,trivial⟩ rfl) zU1,trivial⟩ (fun bs28 G27=>?_)
  obtain⟨x33,h34,hF⟩:=aM hF
  refine iK 0 rfl tyS24 rfl rfl q15 rfl rfl h34 (fun b35 c36 H37 e38=>?_)
  cases e38
  obtain⟨v40,h41,hF⟩:=aM hF
  refine go ?_ ?_
  exact aF (fun a w hh=>⟨x33,v40,b35,c36,(n14+[v31].length),hF,(bD h34 q15),dI [0,1] hh⟩)
 refine aV ?_
 obtain rfl:=eP hF
 exact nK Jj25 ⟨x11,b12,c13,n14,hRl24,q15,rfl,rfl⟩ [0]
def rA (K:Nat) (x20:List Rat):Option (List Rat):=
 some x20
def jB (K:Nat) (a0:List Rat) (a1:List Rat) (a2:Rat):Nat→(List Rat)→Int→Option (List Rat)
 |0,_,_=>none
 |k+1,x13,x19=>bif(decide (x19<(a0.length:Int))) then((bF a0 x19).bind fun v31=>(bF a1 x19).bind fun v33=>(aEr a2 v33).bind fun v35=>(aGr v31 v35).bind fun v37=>(oG x13 [v37]).bind fun x39=>(aS (x19+1)).bind fun v46=>jB K a0 a1 a2 k x39 v46) else(some x13)
def oI (K:Nat) (a0:List Rat) (a1:List Rat) (a2:Rat):Option (List Rat):=
 (jB K a0 a1 a2 K ([]:List Rat) 0).bind fun x20=>rA K x20
theorem aCG {K:Nat} {a0:List Rat} {a1:List Rat} {a2:Rat} {r:List Rat} (hF:oI K a0 a1 a2=some r):CtO Tryz.prog 144 [] [.vc (pS cQ a0),.vc (pS cQ a1),.va (eQ a2)] (fun Ho q=>∃b50 c51 n49,r.length=n49∧Ho=[hO cQ b50 c51 42 n49 r]∧q=.vc (pO b50 n49 c51)):=by
 unfold oI at hF
 refine aA Tryz.func144 rfl (by kernel_rfl) Tryz.ntmps144 rfl (fun w0 M0=>?_)
 refine aC (aH (bV rfl rfl trivial (fun b1=>?_)))
 refine jP cQ 42 rfl ?_
 refine aT (aJ (aC (aH (jP cQ 42 rfl ?_))))
 refine go ?_ ?_
 refine aG (aP (fun H E=>∃(x20:List Rat),∃(b21:Option Nat),∃(c22:Nat),∃(n23:Nat),rA K x20=some r∧x20.length=n23∧H=[hO cQ b21 c22 42 n23 x20]∧E=[(7,.vc (pO b21 n23 c22))]) ?_ (fun Jj27=>?_))
 ·rintro _ _ ⟨x20,b21,c22,n23,hF,q24,rfl,rfl⟩
  unfold rA at hF
  refine go ?_ ?_
  refine dQ (dL ?_)
  obtain rfl:=eP hF
  exact aCq (.inl rfl) Tryz.results144 (.tmp rfl .nil) rfl [0] rfl (by decide) ⟨b21,c22,n23,q24,rfl,rfl⟩
 obtain⟨x20',hL,hRl26⟩:=aM hF
 refine cA (fun k a w=>∃(x13:List Rat),∃(x19:Int),∃(b14:Option Nat),∃(c15:Nat),∃(n16:Nat),jB K a0 a1 a2 k x13 x19=some x20'∧x13.length=n16∧hs _ [hO cQ b14 c15 42 n16 x13,⟨some b1,1,42,4,1,(eQ a2)⟩] [(0,.vc (pS cQ a0)),(1,.vc (pS cQ a1)),(5,.vc (pP (some b1) 0)),(7,.vc (pO b14 n16 c15)),(8,.vc (pI .i64 x19))] a w) K (fun a w ⟨_,_,_,_,_,hF,_,_⟩=>by cases hF) (fun k a w ⟨x13,x19,b14,c15,n16,hF,q17,hh⟩=>b0 ?_ hh) (fun a w hh=>⟨([]:List Rat),0,none,0,0,hL,rfl,dI [0,2] hh⟩)
 rw [jB.eq_2] at hF
 refine go ?_ ?_
 refine aB hF rfl (fun h28 hF=>?_) (fun h28 hF=>?_)
 ·refine go ?_ ?_
  refine aG ?_
  obtain⟨v31,h32,hF⟩:=aM hF
  obtain⟨v33,h34,hF⟩:=aM hF
  obtain⟨v35,h36,hF⟩:=aW hF xQ
  obtain⟨v37,h38,hF⟩:=aW hF aD5
  refine iQ [0,0,0,6,14,0,0,0,192,448,992,2046,4094,8191,16383] 13 2 [.v (.vc (pO b14 n16 c15)),.v (.vc (pS cQ a0)),.v (.vc (pI .i64 x19)),.v (.vc (pM (cQ.e v31))),.v (.va (eQ v31)),.v (.va (eQ a2)),.v (.vc (pS cQ a1)),.v (.vc (pI .i64 x19)),.v (.vc (pM (cQ.e v33))),.v (.va (eQ v33)),.v (.va (eQ v35)),.v (.va (eQ v37)),.v (.vc (pS cQ [v37]))] aU ⟨d0 (aL (.inl rfl)) zU1,d0 (aL (.inl rfl)) zU1,d0 (aL (.inl rfl)) zU1,d0 (zS rfl tyS24 h32) zU2,d0 (x0 4 rfl rfl (.agg tyA42)) zU1,d0 (gC 1 4 rfl rfl rfl rfl (.agg tyA42)) zU1,d0 (aL (.inl rfl)) zU1,d0 (aL (.inl rfl)) zU1,d0 (zS rfl tyS24 h34) zU2,d0 (x0 4 rfl rfl (.agg tyA42)) zU1,d0 (bE rfl h36 rfl) zU2,d0 (bE rfl h38 rfl) zU2,d0 (eR (C:=cQ) (xs:=[.tmp 26]) (ps:=[.va (eQ v37)]) (zs:=[v37]) rfl tyS24 rfl ⟨⟨trivial,rfl⟩,trivial⟩ rfl) zU1,trivial⟩ (fun bs30 G29=>?_)
  obtain⟨x39,h40,hF⟩:=aM hF
  refine iK 0 rfl tyS24 rfl rfl q17 rfl rfl h40 (fun b41 c42 H43 e44=>?_)
  cases e44
  obtain⟨v46,h47,hF⟩:=aM hF
  refine go ?_ ?_
  exact aF (fun a w hh=>⟨x39,v46,b41,c42,(n16+[v37].length),hF,(bD h40 q17),dI [0,1] hh⟩)
 refine aV ?_
 obtain rfl:=eP hF
 exact nK Jj27 ⟨x13,b14,c15,n16,hRl26,q17,rfl,rfl⟩ [0]
theorem aDp {K:Nat} {a0:List Rat} {a1:List Rat} {a2:Rat} {r:List Rat} (hF:oI K a0 a1 a2=some r):Ct Tryz.prog 144 [.vc (pS cQ a0),.vc (pS cQ a1),.va (eQ a2)] (.vc (pS cQ r)):=aKK (aCG hF)
def nP (K:Nat) (x38:List Int) (x44:List (List Rat)):Option ((List (List Rat))×(List Int)):=
 some (x44,x38)
def nY (K:Nat) (x25:List Int) (x37:Int) (v69:List Rat) (recl50:(List Int)→(List (List Rat))→Int→Option ((List Int)×(List (List Rat)))) (x92:List (List Rat)):Option ((List Int)×(List (List Rat))):=
 (bF x92 (x25.length:Int)).bind fun v100=>(qL x92 (x25.length:Int) v69).bind fun x102=>(oG x25 [x37]).bind fun x105=>(aS (x37+1)).bind fun v112=>recl50 x105 x102 v112
def gB (K:Nat) (x37:Int) (v69:List Rat):Nat→(List (List Rat))→Int→Option (List (List Rat))
 |0,_,_=>none
 |k+1,x85,x91=>bif(decide (x91<(x85.length:Int))) then((bF x85 x91).bind fun v117=>(bF x85 x91).bind fun v119=>(bF v119 x37).bind fun v121=>(oI K v117 v69 v121).bind fun v123=>(bF x85 x91).bind fun v125=>(qL x85 x91 v123).bind fun x127=>(aS (x91+1)).bind fun v130=>gB K x37 v69 k x127 v130) else(some x85)
def nU (K:Nat) (x25:List Int) (x31:List (List Rat)) (x37:Int) (recl50:(List Int)→(List (List Rat))→Int→Option ((List Int)×(List (List Rat)))) (x55:Int):Option ((List Int)×(List (List Rat))):=
 bif(x55==(x31.length:Int)) then((aS (x37+1)).bind fun v59=>recl50 x25 x31 v59) else((bF x31 x55).bind fun v63=>(bF x31 x55).bind fun v65=>(bF v65 x37).bind fun v67=>(rX K v63 v67).bind fun v69=>(bF x31 (x25.length:Int)).bind fun v71=>(bF x31 x55).bind fun v73=>(qL x31 x55 v71).bind fun x75=>(gB K x37 v69 K x75 0).bind fun x92=>nY K x25 x37 v69 recl50 x92)
def f7 (K:Nat) (x31:List (List Rat)) (x37:Int):Nat→Int→Option Int
 |0,_=>none
 |k+1,x54=>bif(decide (x54<(x31.length:Int))) then((aS ((x31.length:Int)-1)).bind fun v133=>(bF x31 (min x54 v133)).bind fun v135=>(bF v135 x37).bind fun v137=>(xD v137).bind fun v139=>bif(v139==0) then((aS (x54+1)).bind fun v142=>f7 K x31 x37 k v142) else(some x54)) else(some x54)
def cW (K:Nat) (a1:Int):Nat→(List Int)→(List (List Rat))→Int→Option ((List Int)×(List (List Rat)))
 |0,_,_,_=>none
 |k+1,x25,x31,x37=>bif(decide (x37<a1)) then((f7 K x31 x37 K (x25.length:Int)).bind fun x55=>nU K x25 x31 x37 (cW K a1 k) x55) else(some (x25,x31))
def oC (K:Nat) (a0:List (List Rat)) (a1:Int):Option ((List (List Rat))×(List Int)):=
 (oG ([]:List (List Rat)) a0).bind fun x3=>(cW K a1 K ([]:List Int) x3 0).bind fun(x38,x44)=>nP K x38 x44
theorem aBT {K:Nat} {a0:List (List Rat)} {a1:Int} {r:(List (List Rat))×(List Int)} (hF:oC K a0 a1=some r):Ct Tryz.prog 107 [.vc (pS (bJ cQ) a0),.vc (pI .i64 a1)] (.t2 (.vc (pS (bJ cQ) r.1)) (.vc (pS cI r.2))):=by
 unfold oC at hF
 refine aA Tryz.func107 rfl (by kernel_rfl) Tryz.ntmps107 rfl (fun w0 M0=>?_)
 refine aC (aH (aI (aL (.inr rfl)) ⟨cD (bJ cQ),trivial⟩ ?_))
 refine aI (aL (.inr rfl)) ⟨cD cI,trivial⟩ ?_
 refine aT (aJ (aC (aH (jP (bJ cQ) 24 rfl ?_))))
 obtain⟨x3,h4,hF⟩:=aM hF
 refine go ?_ ?_
 refine iK 0 rfl tyS23 rfl rfl rfl rfl rfl h4 (fun b5 c6 H7 e8=>?_)
 cases e8
 refine zP ?_
 refine aT (aJ (aC (aH (jP cI 3 rfl ?_))))
 refine go ?_ ?_
 refine aG (aP (fun H E=>∃(x38:List Int),∃(x44:List (List Rat)),∃(b39:Option Nat),∃(c40:Nat),∃(n41:Nat),nP K x38 x44=some r∧x38.length=n41∧x44.length=(0+a0.length)∧H=[hO cI b39 c40 3 n41 x38,hO (bJ cQ) b5 c6 24 (0+a0.length) x44]∧E=[(6,.vc (pO b5 (0+a0.length) c6)),(7,.vc (pO b39 n41 c40))]) ?_ (fun Jj51=>?_))
 ·rintro _ _ ⟨x38,x44,b39,c40,n41,hF,q42,q48,rfl,rfl⟩
  unfold nP at hF
  refine go ?_ ?_
  refine dQ (dL (lF 1 [4,6,98] rfl q48 ⟨rfl,rfl,rfl,trivial⟩ rfl ?_))
  refine lF 0 [5,7,99] rfl q42 ⟨rfl,rfl,rfl,trivial⟩ rfl ?_
  obtain rfl:=eP hF
  exact eE (.inl rfl) Tryz.results107 (.tmp rfl (.tmp rfl .nil)) rfl rfl
 obtain⟨⟨x38',x44'⟩,hL,hRl50⟩:=aM hF
 refine cA (fun k a w=>∃(x25:List Int),∃(x31:List (List Rat)),∃(x37:Int),∃(b26:Option Nat),∃(c27:Nat),∃(n28:Nat),cW K a1 k x25 x31 x37=some (x38',x44')∧x25.length=n28∧x31.length=(0+a0.length)∧hs _ [hO cI b26 c27 3 n28 x25,hO (bJ cQ) b5 c6 24 (0+a0.length) x31] [(1,.vc (pI .i64 a1)),(6,.vc (pO b5 (0+a0.length) c6)),(7,.vc (pO b26 n28 c27)),(8,.vc (pI .i64 x37))] a w) K (fun a w ⟨_,_,_,_,_,_,hF,_,_,_⟩=>by cases hF) (fun k a w ⟨x25,x31,x37,b26,c27,n28,hF,q29,q35,hh⟩=>b0 ?_ hh) (fun a w hh=>⟨([]:List Int),x3,0,none,0,0,hL,rfl,(bD h4 rfl),dI [0,1] hh⟩)
 rw [cW.eq_2] at hF
 refine go ?_ ?_
 refine aB hF rfl (fun h52 hF=>?_) (fun h52 hF=>?_)
 ·refine go ?_ ?_
  refine aG (go ?_ ?_)
  refine aG (aP (fun H E=>∃(x55:Int),nU K x25 x31 x37 (cW K a1 k) x55=some (x38',x44')∧H=[hO cI b26 c27 3 n28 x25,hO (bJ cQ) b5 c6 24 (0+a0.length) x31]∧E=[(1,.vc (pI .i64 a1)),(6,.vc (pO b5 (0+a0.length) c6)),(7,.vc (pO b26 n28 c27)),(8,.vc (pI .i64 x37)),(9,.vc (pI .i64 (x25.length:Int))),(10,.vc (pI .i64 x55))]) ?_ (fun Jj57=>?_))
  ·rintro _ _ ⟨x55,hF,rfl,rfl⟩
   unfold nU at hF
   refine go ?_ ?_
   refine aB hF rfl (fun h58 hF=>?_) (fun h58 hF=>?_)
   ·refine aV ?_
    obtain⟨v59,h60,hF⟩:=aM hF
    refine go ?_ ?_
    exact aF (fun a w hh=>⟨x25,x31,v59,b26,c27,n28,hF,q29,q35,dI [0,1] hh⟩)
   obtain⟨v63,h64,hF⟩:=aM hF
   have hF:=tJ h64 hF
   obtain⟨v67,h68,hF⟩:=aM hF
   obtain⟨v69,h70,hF⟩:=aW hF aDr
   refine go ?_ ?_
   refine dr [0,0,3,7,0,0,48,112,0,496,1008,2047,4095] 13 0 ?_ (fun bs62 G61=>?_)
   obtain⟨v71,h72,hF⟩:=aM hF
   have hF:=tJ h64 hF
   obtain⟨x75,h76,hF⟩:=aM hF
   refine go ?_ ?_
   refine aG (aP (fun H E=>∃(x92:List (List Rat)),nY K x25 x37 v69 (cW K a1 k) x92=some (x38',x44')∧x92.length=(0+a0.length)∧H=[hO cI b26 c27 3 n28 x25,hO (bJ cQ) b5 c6 24 (0+a0.length) x92]∧E=[(1,.vc (pI .i64 a1)),(6,.vc (pO b5 (0+a0.length) c6)),(7,.vc (pO b26 n28 c27)),(8,.vc (pI .i64 x37)),(9,.vc (pI .i64 (x25.length:Int))),(11,.vc (pS cQ v69))]) ?_ (fun Jj99=>?_))
   ·rintro _ _ ⟨x92,hF,q96,rfl,rfl⟩
    unfold nY at hF
    obtain⟨v100,h101,x102,h103,hF⟩:=tW hF
    refine go ?_ ?_
    refine aI (eR (C:=cI) (xs:=[.tmp 95]) (ps:=[.vc (pI .i64 x37)]) (zs:=[x37]) rfl tyS22 rfl ⟨⟨trivial,rfl⟩,trivial⟩ rfl) zU1 ?_
    obtain⟨x105,h106,hF⟩:=aM hF
    refine iK 0 rfl tyS22 rfl rfl q29 rfl rfl h106 (fun b107 c108 H109 e110=>?_)
    cases e110
    obtain⟨v112,h113,hF⟩:=aM hF
    refine go ?_ ?_
    exact aF (fun a w hh=>⟨x105,x102,v112,b107,c108,(n28+[x37].length),hF,(bD h106 q29),(bC h103 q96),dI [0,1] hh⟩)
   obtain⟨x92',hL,hRl98⟩:=aM hF
   refine cA (fun k a w=>∃(x85:List (List Rat)),∃(x91:Int),gB K x37 v69 k x85 x91=some x92'∧x85.length=(0+a0.length)∧hs _ [hO cI b26 c27 3 n28 x25,hO (bJ cQ) b5 c6 24 (0+a0.length) x85] [(1,.vc (pI .i64 a1)),(6,.vc (pO b5 (0+a0.length) c6)),(7,.vc (pO b26 n28 c27)),(8,.vc (pI .i64 x37)),(9,.vc (pI .i64 (x25.length:Int))),(11,.vc (pS cQ v69)),(12,.vc (pI .i64 x91))] a w) K (fun a w ⟨_,_,hF,_,_⟩=>by cases hF) (fun k a w ⟨x85,x91,hF,q89,hh⟩=>b0 ?_ hh) (fun a w hh=>⟨x75,0,hL,(bC h76 q35),dI [0,1] hh⟩)
   rw [gB.eq_2] at hF
   refine go ?_ ?_
   refine aB hF rfl (fun h114 hF=>?_) (fun h114 hF=>?_)
   ·refine go ?_ ?_
    refine aG ?_
    obtain⟨v117,h118,hF⟩:=aM hF
    have hF:=tJ h118 hF
    obtain⟨v121,h122,hF⟩:=aM hF
    obtain⟨v123,h124,hF⟩:=aW hF aDp
    have hF:=tJ h118 hF
    refine dr [0,0,0,0,12,28,0,0,0,384,896,0,3968,8064,16380,32767,65535] 16 1 ?_ (fun bs116 G115=>?_)
    obtain⟨x127,h128,v130,h131,hF⟩:=tW hF
    refine go ?_ ?_
    exact aF (fun a w hh=>⟨x127,v130,hF,(bC h128 q89),dI [0,1] hh⟩)
   refine aV ?_
   obtain rfl:=eP hF
   exact nK Jj99 ⟨x85,hRl98,q89,rfl,rfl⟩ [0,1]
  obtain⟨x55',hL,hRl56⟩:=aM hF
  refine cA (fun k a w=>∃(x54:Int),f7 K x31 x37 k x54=some x55'∧hs _ [hO cI b26 c27 3 n28 x25,hO (bJ cQ) b5 c6 24 (0+a0.length) x31] [(1,.vc (pI .i64 a1)),(6,.vc (pO b5 (0+a0.length) c6)),(7,.vc (pO b26 n28 c27)),(8,.vc (pI .i64 x37)),(9,.vc (pI .i64 (x25.length:Int))),(10,.vc (pI .i64 x54))] a w) K (fun a w ⟨_,hF,_⟩=>by cases hF) (fun k a w ⟨x54,hF,hh⟩=>b0 ?_ hh) (fun a w hh=>⟨(x25.length:Int),hL,dI [0,1] hh⟩)
  rw [f7.eq_2] at hF
  refine go ?_ ?_
  refine cC hF (fun h132 hF=>?_) (fun h132 hF=>?_)
  ·obtain⟨v133,h134,v135,h136,v137,h138,hF⟩:=bn3 hF
   obtain⟨v139,h140,hF⟩:=aW hF kZ
   refine go ?_ ?_
   refine aB hF rfl (fun h141 hF=>?_) (fun h141 hF=>?_)
   ·refine eU (aJ (aG ?_))
    obtain⟨v142,h143,hF⟩:=aM hF
    refine go ?_ ?_
    exact aF (fun a w hh=>⟨v142,hF,dI [0,1] hh⟩)
   refine aV ?_
   obtain rfl:=eP hF
   exact nK Jj57 ⟨x54,hRl56,rfl,rfl⟩ [0,1]
  refine go ?_ ?_
  refine wX rfl ?_
  refine aV ?_
  obtain rfl:=eP hF
  exact nK Jj57 ⟨x54,hRl56,rfl,rfl⟩ [0,1]
 refine aV ?_
 obtain⟨rfl,rfl⟩:=sm2 hF
 exact nK Jj51 ⟨x25,x31,b26,c27,n28,hRl50,q29,q35,rfl,rfl⟩ [0,1]
def oR (K:Nat) (x17:List (List Rat)):Option (List (List Rat)):=
 some x17
def gM (K:Nat) (a0:List (List Rat)) (a1:List (List Rat)):Nat→(List (List Rat))→Int→Option (List (List Rat))
 |0,_,_=>none
 |k+1,x10,x16=>bif(decide (x16<(a0.length:Int))) then((bF a0 x16).bind fun v30=>(oG ([]:List Rat) v30).bind fun x32=>(bF a1 x16).bind fun v35=>(oG x32 v35).bind fun x37=>(oG x10 [x37]).bind fun x40=>(aS (x16+1)).bind fun v47=>gM K a0 a1 k x40 v47) else(some x10)
def sT (K:Nat) (a0:List (List Rat)) (a1:List (List Rat)):Option (List (List Rat)):=
 (gM K a0 a1 K ([]:List (List Rat)) 0).bind fun x17=>oR K x17
theorem aCb {K:Nat} {a0:List (List Rat)} {a1:List (List Rat)} {r:List (List Rat)} (hF:sT K a0 a1=some r):Ct Tryz.prog 108 [.vc (pS (bJ cQ) a0),.vc (pS (bJ cQ) a1)] (.vc (pS (bJ cQ) r)):=by
 unfold sT at hF
 refine aA Tryz.func108 rfl (by kernel_rfl) Tryz.ntmps108 rfl (fun w0 M0=>?_)
 refine aC (aH (aI (aL (.inr rfl)) ⟨cD (bJ cQ),trivial⟩ ?_))
 refine aT (aJ (aC (aH (jP (bJ cQ) 24 rfl ?_))))
 refine go ?_ ?_
 refine aG (aP (fun H E=>∃(x17:List (List Rat)),∃(b18:Option Nat),∃(c19:Nat),∃(n20:Nat),oR K x17=some r∧x17.length=n20∧H=[hO (bJ cQ) b18 c19 24 n20 x17]∧E=[(5,.vc (pO b18 n20 c19))]) ?_ (fun Jj24=>?_))
 ·rintro _ _ ⟨x17,b18,c19,n20,hF,q21,rfl,rfl⟩
  unfold oR at hF
  refine go ?_ ?_
  refine dQ (dL (lF 0 [4,5,28] rfl q21 ⟨rfl,rfl,rfl,trivial⟩ rfl ?_))
  obtain rfl:=eP hF
  exact eE (.inl rfl) Tryz.results108 (.tmp rfl .nil) rfl rfl
 obtain⟨x17',hL,hRl23⟩:=aM hF
 refine cA (fun k a w=>∃(x10:List (List Rat)),∃(x16:Int),∃(b11:Option Nat),∃(c12:Nat),∃(n13:Nat),gM K a0 a1 k x10 x16=some x17'∧x10.length=n13∧hs _ [hO (bJ cQ) b11 c12 24 n13 x10] [(0,.vc (pS (bJ cQ) a0)),(1,.vc (pS (bJ cQ) a1)),(5,.vc (pO b11 n13 c12)),(6,.vc (pI .i64 x16))] a w) K (fun a w ⟨_,_,_,_,_,hF,_,_⟩=>by cases hF) (fun k a w ⟨x10,x16,b11,c12,n13,hF,q14,hh⟩=>b0 ?_ hh) (fun a w hh=>⟨([]:List (List Rat)),0,none,0,0,hL,rfl,dI [0] hh⟩)
 rw [gM.eq_2] at hF
 refine go ?_ ?_
 refine aB hF rfl (fun h25 hF=>?_) (fun h25 hF=>?_)
 ·refine go ?_ ?_
  refine aG (aC (aH (jP cQ 42 rfl ?_)))
  refine aT (aJ ?_)
  obtain⟨v30,h31,hF⟩:=aM hF
  obtain⟨x32,h33,hF⟩:=aM hF
  obtain⟨v35,h36,hF⟩:=aM hF
  obtain⟨x37,h38,hF⟩:=aM hF
  refine r6 (HsM [(0,fun G28=>[hO cQ none 0 42 0 ([]:List Rat),hO (bJ cQ) b11 c12 24 n13 x10]),(1,fun G28=>[hO cQ ((G28 6).1) ((G28 6).2) 42 (0+v30.length) x32,hO (bJ cQ) b11 c12 24 n13 x10]),(3,fun G28=>[hO (bJ cQ) b11 c12 24 n13 x10])]) [6,11] [0,0,0,0,12,28,62,0,0,384,896,2046,4094,8191,16383] 13 2 [.v (.vc (pO b11 n13 c12)),.v (.vc (pO none 0 0)),.v (.vc (pS (bJ cQ) a0)),.v (.vc (pI .i64 x16)),.v (.vc (pM ((bJ cQ).e v30))),.v (.vc (pS cQ v30)),.g (fun b c=>.vc (pO b (0+v30.length) c)),.v (.vc (pS (bJ cQ) a1)),.v (.vc (pI .i64 x16)),.v (.vc (pM ((bJ cQ).e v35))),.v (.vc (pS cQ v35)),.g (fun _ _=>.vc (pS cQ x37)),.v (.vc (pS (bJ cQ) [x37]))] aU ⟨⟨rfl,.run (L:=[0,1,3]) ⟨fun G28 A=>aL (.inl rfl),fun G28 A=>aL (.inl rfl),fun G28 A=>aL (.inl rfl),trivial⟩ (fun G28=>zU1)⟩,d1 0 (aL (.inl rfl)) zU1,d1 0 (aL (.inl rfl)) zU1,d1 0 (aL (.inl rfl)) zU1,d1 0 (zS rfl tyS23 h31) zU2,d1 0 (x0 1 rfl rfl (.one tyO24)) zU1,⟨rfl,.hvy (ins:=fun G28=>[(.tmp 15,.vc (pO none 0 0)),(.tmp 19,.vc (pS cQ v30))]) [0] ⟨fun G28 A=>aBc 0 rfl tyS24 rfl rfl rfl h33,trivial⟩ (fun G28=>zU2)⟩,⟨rfl,.run (L:=[0,1]) ⟨fun G28 A=>aL (.inl rfl),fun G28 A=>aL (.inl rfl),trivial⟩ (fun G28=>zU1)⟩,⟨rfl,.run (L:=[0,1]) ⟨fun G28 A=>aL (.inl rfl),fun G28 A=>aL (.inl rfl),trivial⟩ (fun G28=>zU1)⟩,⟨rfl,.run (L:=[0,1]) ⟨fun G28 A=>zS rfl tyS23 h36,fun G28 A=>zS rfl tyS23 h36,trivial⟩ (fun G28=>zU2)⟩,⟨rfl,.run (L:=[0,1]) ⟨fun G28 A=>x0 1 rfl rfl (.one tyO24),fun G28 A=>x0 1 rfl rfl (.one tyO24),trivial⟩ (fun G28=>zU1)⟩,⟨rfl,.hvy (ins:=fun G28=>[(.tmp 20,.vc (pO ((G28 6).1) (0+v30.length) ((G28 6).2))),(.tmp 24,.vc (pS cQ v35))]) [1] ⟨fun G28 A=>aB8 (aJ5 0 (aBc (n:=(0+v30.length)) 0 rfl tyS24 rfl rfl (bD h33 rfl) h38) (fun _ _=>rfl) (bD h38 (bD h33 rfl)) (fun _ _=>rfl)),trivial⟩ (fun G28=>zU2)⟩,d1 3 (eR (C:=(bJ cQ)) (xs:=[.tmp 25]) (ps:=[.vc (pS cQ x37)]) (zs:=[x37]) rfl tyS23 rfl ⟨⟨trivial,rfl⟩,trivial⟩ rfl) zU1,trivial⟩ (fun bs29 G28=>?_)
  obtain⟨x40,h41,hF⟩:=aM hF
  refine iK 0 rfl tyS23 rfl rfl q14 rfl rfl h41 (fun b42 c43 H44 e45=>?_)
  cases e45
  obtain⟨v47,h48,hF⟩:=aM hF
  refine go ?_ ?_
  exact aF (fun a w hh=>⟨x40,v47,b42,c43,(n13+[x37].length),hF,(bD h41 q14),dI [0] hh⟩)
 refine aV ?_
 obtain rfl:=eP hF
 exact nK Jj24 ⟨x10,b11,c12,n13,hRl23,q14,rfl,rfl⟩ [0]
def p8 (K:Nat) (x54:List Rat):Option ((List Rat)×Bool):=
 some (x54,true)
def iG (K:Nat) (v1:Int) (v29:(List (List Rat))×(List Int)):Nat→(List Rat)→Int→Option (List Rat)
 |0,_,_=>none
 |k+1,x47,x53=>bif(decide (x53<(v29.2.length:Int))) then((bF v29.2 x53).bind fun v65=>(bF v29.1 x53).bind fun v67=>(bF v67 v1).bind fun v69=>(bF x47 v65).bind fun v71=>(qL x47 v65 v69).bind fun x73=>(aS (x53+1)).bind fun v76=>iG K v1 v29 k x73 v76) else(some x47)
def pQ (K:Nat) (v1:Int) (v29:(List (List Rat))×(List Int)):Option ((List Rat)×Bool):=
 (mkL v1 0).bind fun x35=>(iG K v1 v29 K x35 0).bind fun x54=>p8 K x54
def iH (K:Nat) (v1:Int) (v29:(List (List Rat))×(List Int)):Nat→Int→Option (LR ((List Rat)×Bool) Unit)
 |0,_=>none
 |k+1,x32=>bif(decide (x32<(v29.1.length:Int))) then((bF v29.1 x32).bind fun v79=>(bF v79 v1).bind fun v81=>(xD v81).bind fun v83=>bif(v83 != 0) then(some (.ret ([],false))) else((aS (x32+1)).bind fun v86=>iH K v1 v29 k v86)) else(some (.go ()))
def pZ (K:Nat) (a0:List (List Rat)) (v1:Int) (x19:List (List Rat)):Option ((List Rat)×Bool):=
 (sT K a0 x19).bind fun v27=>(oC K v27 v1).bind fun v29=>(iH K v1 v29 K (v29.2.length:Int)).bind fun o=>match o with| .ret r=>some r| .go _=>pQ K v1 v29
def iM (K:Nat) (a1:List Rat):Nat→(List (List Rat))→Int→Option (List (List Rat))
 |0,_,_=>none
 |k+1,x12,x18=>bif(decide (x18<(a1.length:Int))) then((bF a1 x18).bind fun v89=>(oG x12 [[v89]]).bind fun x91=>(aS (x18+1)).bind fun v98=>iM K a1 k x91 v98) else(some x12)
def qQ (K:Nat) (a0:List (List Rat)) (a1:List Rat):Option ((List Rat)×Bool):=
 (rW a0).bind fun v1=>(iM K a1 K ([]:List (List Rat)) 0).bind fun x19=>pZ K a0 v1 x19
theorem aCC {K:Nat} {a0:List (List Rat)} {a1:List Rat} {r:(List Rat)×Bool} (hF:qQ K a0 a1=some r):Ct Tryz.prog 68 [.vc (pS (bJ cQ) a0),.vc (pS cQ a1)] (.t2 (.vc (pS cQ r.1)) (.vc (pB r.2))):=by
 unfold qQ at hF
 refine aA Tryz.func68 rfl (by kernel_rfl) Tryz.ntmps68 rfl (fun w0 M0=>?_)
 refine aC (aH (aI (aL (.inr rfl)) ⟨cD cQ,trivial⟩ ?_))
 refine aI (aL (.inr rfl)) ⟨k_B _,trivial⟩ ?_
 refine aT (aJ (aC (aH (dS ?_))))
 obtain⟨v1,h2,hF⟩:=aW hF aDk
 refine aI (bE rfl h2 rfl) zU1 ?_
 refine zP ?_
 refine aT (aJ (aC (aH (jP (bJ cQ) 24 rfl ?_))))
 refine go ?_ ?_
 refine aG (aP (fun H E=>∃(x19:List (List Rat)),∃(b20:Option Nat),∃(c21:Nat),∃(n22:Nat),pZ K a0 v1 x19=some r∧x19.length=n22∧H=[hO (bJ cQ) b20 c21 24 n22 x19]∧E=[(0,.vc (pS (bJ cQ) a0)),(6,.vc (pI .i64 v1)),(7,.vc (pO b20 n22 c21))]) ?_ (fun Jj26=>?_))
 ·rintro _ _ ⟨x19,b20,c21,n22,hF,q23,rfl,rfl⟩
  unfold pZ at hF
  refine aJ (aC (aH (dS ?_)))
  refine dS ?_
  refine tV 0 [7,32] rfl q23 zU2 rfl ?_
  obtain⟨v27,h28,hF⟩:=aW hF aCb
  obtain⟨v29,h30,hF⟩:=aW hF aBT
  refine go ?_ ?_
  refine aG (aP (fun H E=>pQ K v1 v29=some r∧H=[]∧E=[(6,.vc (pI .i64 v1)),(9,.vc (pS (bJ cQ) v29.1)),(10,.vc (pS cI v29.2))]) ?_ (fun Jj34=>?_))
  ·rintro _ _ ⟨hF,rfl,rfl⟩
   unfold pQ at hF
   obtain⟨x35,h36,hF⟩:=aM hF
   refine go ?_ ?_
   refine nN (C:=cQ) rfl tyS24 rfl tyZ42q rfl h36 (fun b37=>?_)
   refine go ?_ ?_
   refine aG (aP (fun H E=>∃(x54:List Rat),p8 K x54=some r∧x54.length=x35.length∧H=[hO cQ b37 x35.length 42 x35.length x54]∧E=[(12,.vc (pO b37 x35.length x35.length))]) ?_ (fun Jj61=>?_))
   ·rintro _ _ ⟨x54,hF,q58,rfl,rfl⟩
    unfold p8 at hF
    refine go ?_ ?_
    refine dQ (dL (lF 0 [4,12,76] rfl q58 ⟨rfl,rfl,rfl,trivial⟩ rfl ?_))
    obtain rfl:=eP hF
    exact eE (.inl rfl) Tryz.results68 (.tmp rfl (.tmp rfl .nil)) rfl rfl
   obtain⟨x54',hL,hRl60⟩:=aM hF
   refine cA (fun k a w=>∃(x47:List Rat),∃(x53:Int),iG K v1 v29 k x47 x53=some x54'∧x47.length=x35.length∧hs _ [hO cQ b37 x35.length 42 x35.length x47] [(6,.vc (pI .i64 v1)),(9,.vc (pS (bJ cQ) v29.1)),(10,.vc (pS cI v29.2)),(12,.vc (pO b37 x35.length x35.length)),(13,.vc (pI .i64 x53))] a w) K (fun a w ⟨_,_,hF,_,_⟩=>by cases hF) (fun k a w ⟨x47,x53,hF,q51,hh⟩=>b0 ?_ hh) (fun a w hh=>⟨x35,0,hL,rfl,dI [0] hh⟩)
   rw [iG.eq_2] at hF
   refine go ?_ ?_
   refine aB hF rfl (fun h62 hF=>?_) (fun h62 hF=>?_)
   ·refine go ?_ ?_
    refine aG ?_
    obtain⟨v65,h66,hF⟩:=aM hF
    obtain⟨v67,h68,hF⟩:=aM hF
    obtain⟨v69,h70,hF⟩:=aM hF
    obtain⟨v71,h72,hF⟩:=aM hF
    refine dr [0,0,0,6,14,0,0,96,224,0,992,2016,4095,8191] 13 1 ?_ (fun bs64 G63=>?_)
    obtain⟨x73,h74,v76,h77,hF⟩:=tW hF
    refine go ?_ ?_
    exact aF (fun a w hh=>⟨x73,v76,hF,(bC h74 q51),dI [0] hh⟩)
   refine aV ?_
   obtain rfl:=eP hF
   exact nK Jj61 ⟨x47,hRl60,q51,rfl,rfl⟩ [0]
  obtain⟨ol33,hL,hRl33⟩:=aM hF
  refine cA (fun k a w=>∃(x32:Int),iH K v1 v29 k x32=some ol33∧hs _ [] [(6,.vc (pI .i64 v1)),(9,.vc (pS (bJ cQ) v29.1)),(10,.vc (pS cI v29.2)),(11,.vc (pI .i64 x32))] a w) K (fun a w ⟨_,hF,_⟩=>by cases hF) (fun k a w ⟨x32,hF,hh⟩=>b0 ?_ hh) (fun a w hh=>⟨(v29.2.length:Int),hL,dI [] hh⟩)
  rw [iH.eq_2] at hF
  refine go ?_ ?_
  refine aB hF rfl (fun h78 hF=>?_) (fun h78 hF=>?_)
  ·refine go ?_ ?_
   refine aG ?_
   obtain⟨v79,h80,v81,h82,hF⟩:=tW hF
   obtain⟨v83,h84,hF⟩:=aW hF kZ
   refine go ?_ ?_
   refine aB hF rfl (fun h85 hF=>?_) (fun h85 hF=>?_)
   ·refine aC (aH (aI (aL (.inr rfl)) ⟨cD cQ,trivial⟩ ?_))
    exact bI
   obtain⟨v86,h87,hF⟩:=aM hF
   refine go ?_ ?_
   exact aF (fun a w hh=>⟨v86,hF,dI [] hh⟩)
  refine aV ?_
  obtain rfl:=eP hF
  exact nK Jj34 ⟨hRl33,rfl,rfl⟩ []
 obtain⟨x19',hL,hRl25⟩:=aM hF
 refine cA (fun k a w=>∃(x12:List (List Rat)),∃(x18:Int),∃(b13:Option Nat),∃(c14:Nat),∃(n15:Nat),iM K a1 k x12 x18=some x19'∧x12.length=n15∧hs _ [hO (bJ cQ) b13 c14 24 n15 x12] [(0,.vc (pS (bJ cQ) a0)),(1,.vc (pS cQ a1)),(6,.vc (pI .i64 v1)),(7,.vc (pO b13 n15 c14)),(8,.vc (pI .i64 x18))] a w) K (fun a w ⟨_,_,_,_,_,hF,_,_⟩=>by cases hF) (fun k a w ⟨x12,x18,b13,c14,n15,hF,q16,hh⟩=>b0 ?_ hh) (fun a w hh=>⟨([]:List (List Rat)),0,none,0,0,hL,rfl,dI [0] hh⟩)
 rw [iM.eq_2] at hF
 refine go ?_ ?_
 refine aB hF rfl (fun h88 hF=>?_) (fun h88 hF=>?_)
 ·refine go ?_ ?_
  refine aG ?_
  obtain⟨v89,h90,hF⟩:=aM hF
  refine go ?_ ?_
  refine aI (eR (C:=cQ) (xs:=[.tmp 26]) (ps:=[.va (eQ v89)]) (zs:=[v89]) rfl tyS24 rfl ⟨⟨trivial,rfl⟩,trivial⟩ rfl) zU1 ?_
  refine aI (eR (C:=(bJ cQ)) (xs:=[.tmp 27]) (ps:=[.vc (pS cQ [v89])]) (zs:=[[v89]]) rfl tyS23 rfl ⟨⟨trivial,rfl⟩,trivial⟩ rfl) zU1 ?_
  obtain⟨x91,h92,hF⟩:=aM hF
  refine iK 0 rfl tyS23 rfl rfl q16 rfl rfl h92 (fun b93 c94 H95 e96=>?_)
  cases e96
  obtain⟨v98,h99,hF⟩:=aM hF
  refine go ?_ ?_
  exact aF (fun a w hh=>⟨x91,v98,b93,c94,(n15+[[v89]].length),hF,(bD h92 q16),dI [0] hh⟩)
 refine aV ?_
 obtain rfl:=eP hF
 exact nK Jj26 ⟨x12,b13,c14,n15,hRl25,q16,rfl,rfl⟩ [0]
def r8 (K:Nat) (x28:List (List Rat)):Option ((List (List Rat))×Int):=
 some (x28,0)
def rG (K:Nat) (x21:List (List Rat)) (x27:Int) (x113:List Rat) (recl34:(List (List Rat))→Int→Option (List (List Rat))) (x126:Bool):Option (List (List Rat)):=
 bif(!x126) then((oG x21 [x113]).bind fun x130=>(aS (x27+1)).bind fun v137=>recl34 x130 v137) else((aS (x27+1)).bind fun v139=>recl34 x21 v139)
def gL (K:Nat) (x21:List (List Rat)) (x113:List Rat):Nat→Bool→Int→Option Bool
 |0,_,_=>none
 |k+1,x124,x125=>bif(decide (x125<(x21.length:Int))) then(bif x124 then((aS (x125+1)).bind fun v143=>gL K x21 x113 k true v143) else((bF x21 x125).bind fun v145=>(fI K v145 x113).bind fun v147=>(aS (x125+1)).bind fun v149=>gL K x21 x113 k v147 v149)) else(some x124)
def kO (K:Nat) (a0:List (List Rat)) (a1:List Rat) (x21:List (List Rat)) (x27:Int) (recl34:(List (List Rat))→Int→Option (List (List Rat))) (x113:List Rat):Option (List (List Rat)):=
 (qS K a0 a1 x113).bind fun v120=>(gL K x21 x113 K (!v120) 0).bind fun x126=>rG K x21 x27 x113 recl34 x126
def rH (K:Nat) (a0:List (List Rat)) (a1:List Rat) (x21:List (List Rat)) (x27:Int) (recl34:(List (List Rat))→Int→Option (List (List Rat))) (x176:List Rat):Option (List (List Rat)):=
 kO K a0 a1 x21 x27 recl34 x176
def iU (K:Nat) (x59:List Int) (v160:(List Rat)×Bool):Nat→(List Rat)→Int→Option (List Rat)
 |0,_,_=>none
 |k+1,x169,x175=>bif(decide (x175<(x59.length:Int))) then((bF x59 x175).bind fun v187=>(bF v160.1 x175).bind fun v189=>(bF x169 v187).bind fun v191=>(qL x169 v187 v189).bind fun x193=>(aS (x175+1)).bind fun v196=>iU K x59 v160 k x193 v196) else(some x169)
def qY (K:Nat) (a0:List (List Rat)) (a1:List Rat) (x21:List (List Rat)) (x27:Int) (x59:List Int) (recl34:(List (List Rat))→Int→Option (List (List Rat))) (x93:List Rat) (x99:List (List Rat)):Option (List (List Rat)):=
 (mkL (a1.length:Int) 0).bind fun x107=>bif(decide (0<(x59.length:Int))) then((yT K x99).bind fun v152=>(xD v152).bind fun v155=>bif(v155==0) then((aS (x27+1)).bind fun v158=>recl34 x21 v158) else((qQ K x99 x93).bind fun v160=>(iU K x59 v160 K x107 0).bind fun x176=>rH K a0 a1 x21 x27 recl34 x176)) else(kO K a0 a1 x21 x27 recl34 x107)
def rB (K:Nat) (a1:List Rat) (x59:List Int) (x80:List Rat) (x86:List (List Rat)) (x92:Int) (recl105:(List Rat)→(List (List Rat))→Int→Option ((List Rat)×(List (List Rat)))) (x215:List Rat):Option ((List Rat)×(List (List Rat))):=
 (oG x86 [x215]).bind fun x223=>(bF x59 x92).bind fun v230=>(bF a1 v230).bind fun v232=>(aCh v232).bind fun v234=>(oG x80 [v234]).bind fun x236=>(aS (x92+1)).bind fun v243=>recl105 x236 x223 v243
def iX (K:Nat) (a0:List (List Rat)) (x59:List Int) (x92:Int):Nat→(List Rat)→Int→Option (List Rat)
 |0,_,_=>none
 |k+1,x208,x214=>bif(decide (x214<(x59.length:Int))) then((bF x59 x92).bind fun v248=>(bF a0 v248).bind fun v250=>(bF x59 x214).bind fun v252=>(bF v250 v252).bind fun v254=>(oG x208 [v254]).bind fun x256=>(aS (x214+1)).bind fun v263=>iX K a0 x59 x92 k x256 v263) else(some x208)
def gK (K:Nat) (a0:List (List Rat)) (a1:List Rat) (x59:List Int):Nat→(List Rat)→(List (List Rat))→Int→Option ((List Rat)×(List (List Rat)))
 |0,_,_,_=>none
 |k+1,x80,x86,x92=>bif(decide (x92<(x59.length:Int))) then((iX K a0 x59 x92 K ([]:List Rat) 0).bind fun x215=>rB K a1 x59 x80 x86 x92 (gK K a0 a1 x59 k) x215) else(some (x80,x86))
def n0 (K:Nat) (a0:List (List Rat)) (a1:List Rat) (x21:List (List Rat)) (x27:Int) (recl34:(List (List Rat))→Int→Option (List (List Rat))) (x59:List Int):Option (List (List Rat)):=
 (gK K a0 a1 x59 K ([]:List Rat) ([]:List (List Rat)) 0).bind fun(x93,x99)=>qY K a0 a1 x21 x27 x59 recl34 x93 x99
def iC (K:Nat) (a1:List Rat):Nat→(List Int)→Int→Int→Option (List Int)
 |0,_,_,_=>none
 |k+1,x51,x57,x58=>bif(decide (x58<(a1.length:Int))) then((chr x57 2).bind fun v266=>bif(v266==1) then((oG x51 [x58]).bind fun x269=>(chq x57 2).bind fun v276=>(aS (x58+1)).bind fun v278=>iC K a1 k x269 v276 v278) else((chq x57 2).bind fun v280=>(aS (x58+1)).bind fun v282=>iC K a1 k x51 v280 v282)) else(some x51)
def cL (K:Nat) (a0:List (List Rat)) (a1:List Rat) (x11:Int):Nat→(List (List Rat))→Int→Option (List (List Rat))
 |0,_,_=>none
 |k+1,x21,x27=>bif(decide (x27<x11)) then((iC K a1 K ([]:List Int) x27 0).bind fun x59=>n0 K a0 a1 x21 x27 (cL K a0 a1 x11 k) x59) else(some x21)
def r9 (K:Nat) (a0:List (List Rat)) (a1:List Rat) (x11:Int):Option ((List (List Rat))×Int):=
 (cL K a0 a1 x11 K ([]:List (List Rat)) 0).bind fun x28=>r8 K x28
def jQ (K:Nat) (a1:List Rat):Nat→Int→Int→Option Int
 |0,_,_=>none
 |k+1,x9,x10=>bif(decide (x10<(a1.length:Int))) then((aS (2*x9)).bind fun v285=>(aS (x10+1)).bind fun v287=>jQ K a1 k v285 v287) else(some x9)
def lB (K:Nat) (a0:List (List Rat)) (a1:List Rat):Option ((List (List Rat))×Int):=
 (fR K a0 a1).bind fun v1=>bif(!v1) then(some ([],1)) else(bif(decide (8<(a1.length:Int))) then(some ([],4)) else((jQ K a1 K 1 0).bind fun x11=>r9 K a0 a1 x11))
theorem aAF {K:Nat} {a0:List (List Rat)} {a1:List Rat} {r:(List (List Rat))×Int} (hF:lB K a0 a1=some r):Ct Tryz.prog 25 [.vc (pS (bJ cQ) a0),.vc (pS cQ a1)] (.t2 (.vc (pS (bJ cQ) r.1)) (.vc (pI .i64 r.2))):=by
 unfold lB at hF
 refine aA Tryz.func25 rfl (by kernel_rfl) Tryz.ntmps25 rfl (fun w0 M0=>?_)
 refine aC (aH (aI (aL (.inr rfl)) ⟨cD (bJ cQ),trivial⟩ ?_))
 obtain⟨v1,h2,hF⟩:=aW hF zY
 refine go ?_ ?_
 refine aB hF rfl (fun h3 hF=>?_) (fun h3 hF=>?_)
 ·refine aC (aH (aI (aL (.inr rfl)) ⟨cD (bJ cQ),trivial⟩ ?_))
  exact bI
 refine go ?_ ?_
 refine aB hF rfl (fun h4 hF=>?_) (fun h4 hF=>?_)
 ·refine aC (aH (aI (aL (.inr rfl)) ⟨cD (bJ cQ),trivial⟩ ?_))
  exact bI
 refine eU (aJ (aC (aH (jP (bJ cQ) 24 rfl ?_))))
 refine go ?_ ?_
 refine aG (aP (fun H E=>∃(x11:Int),r9 K a0 a1 x11=some r∧H=[hO (bJ cQ) none 0 24 0 ([]:List (List Rat))]∧E=[(0,.vc (pS (bJ cQ) a0)),(1,.vc (pS cQ a1)),(6,.vc (pI .i64 (a1.length:Int))),(7,.vc (pO none 0 0)),(8,.vc (pI .i64 x11))]) ?_ (fun Jj13=>?_))
 ·rintro _ _ ⟨x11,hF,rfl,rfl⟩
  unfold r9 at hF
  refine go ?_ ?_
  refine aG (aP (fun H E=>∃(x28:List (List Rat)),∃(b29:Option Nat),∃(c30:Nat),∃(n31:Nat),r8 K x28=some r∧x28.length=n31∧H=[hO (bJ cQ) b29 c30 24 n31 x28]∧E=[(7,.vc (pO b29 n31 c30))]) ?_ (fun Jj35=>?_))
  ·rintro _ _ ⟨x28,b29,c30,n31,hF,q32,rfl,rfl⟩
   unfold r8 at hF
   refine go ?_ ?_
   refine dQ (dL (lF 0 [4,7,162] rfl q32 ⟨rfl,rfl,rfl,trivial⟩ rfl ?_))
   obtain rfl:=eP hF
   exact eE (.inl rfl) Tryz.results25 (.tmp rfl (.tmp rfl .nil)) rfl rfl
  obtain⟨x28',hL,hRl34⟩:=aM hF
  refine cA (fun k a w=>∃(x21:List (List Rat)),∃(x27:Int),∃(b22:Option Nat),∃(c23:Nat),∃(n24:Nat),cL K a0 a1 x11 k x21 x27=some x28'∧x21.length=n24∧hs _ [hO (bJ cQ) b22 c23 24 n24 x21] [(0,.vc (pS (bJ cQ) a0)),(1,.vc (pS cQ a1)),(6,.vc (pI .i64 (a1.length:Int))),(7,.vc (pO b22 n24 c23)),(8,.vc (pI .i64 x11)),(10,.vc (pI .i64 x27))] a w) K (fun a w ⟨_,_,_,_,_,hF,_,_⟩=>by cases hF) (fun k a w ⟨x21,x27,b22,c23,n24,hF,q25,hh⟩=>b0 ?_ hh) (fun a w hh=>⟨([]:List (List Rat)),0,none,0,0,hL,rfl,dI [0] hh⟩)
  rw [cL.eq_2] at hF
  refine go ?_ ?_
  refine aB hF rfl (fun h36 hF=>?_) (fun h36 hF=>?_)
  ·refine go ?_ ?_
   refine aG (aC (aH (jP (bJ cQ) 24 rfl ?_)))
   refine aT (aJ (aC (aH (jP cQ 42 rfl ?_))))
   refine aT (aJ (aC (aH (jP cI 3 rfl ?_))))
   refine go ?_ ?_
   refine aG (aP (fun H E=>∃(x59:List Int),∃(b60:Option Nat),∃(c61:Nat),∃(n62:Nat),n0 K a0 a1 x21 x27 (cL K a0 a1 x11 k) x59=some x28'∧x59.length=n62∧H=[hO cI b60 c61 3 n62 x59,hO cQ none 0 42 0 ([]:List Rat),hO (bJ cQ) none 0 24 0 ([]:List (List Rat)),hO (bJ cQ) b22 c23 24 n24 x21]∧E=[(0,.vc (pS (bJ cQ) a0)),(1,.vc (pS cQ a1)),(6,.vc (pI .i64 (a1.length:Int))),(7,.vc (pO b22 n24 c23)),(8,.vc (pI .i64 x11)),(10,.vc (pI .i64 x27)),(11,.vc (pO none 0 0)),(12,.vc (pO none 0 0)),(13,.vc (pO b60 n62 c61))]) ?_ (fun Jj66=>?_))
   ·rintro _ _ ⟨x59,b60,c61,n62,hF,q63,rfl,rfl⟩
    unfold n0 at hF
    refine go ?_ ?_
    refine aG (aP (fun H E=>∃(x93:List Rat),∃(x99:List (List Rat)),∃(b94:Option Nat),∃(c95:Nat),∃(n96:Nat),∃(b100:Option Nat),∃(c101:Nat),∃(n102:Nat),qY K a0 a1 x21 x27 x59 (cL K a0 a1 x11 k) x93 x99=some x28'∧x93.length=n96∧x99.length=n102∧H=[hO cI b60 c61 3 n62 x59,hO cQ b94 c95 42 n96 x93,hO (bJ cQ) b100 c101 24 n102 x99,hO (bJ cQ) b22 c23 24 n24 x21]∧E=[(0,.vc (pS (bJ cQ) a0)),(1,.vc (pS cQ a1)),(6,.vc (pI .i64 (a1.length:Int))),(7,.vc (pO b22 n24 c23)),(8,.vc (pI .i64 x11)),(10,.vc (pI .i64 x27)),(11,.vc (pO b100 n102 c101)),(12,.vc (pO b94 n96 c95)),(13,.vc (pO b60 n62 c61))]) ?_ (fun Jj106=>?_))
    ·rintro _ _ ⟨x93,x99,b94,c95,n96,b100,c101,n102,hF,q97,q103,rfl,rfl⟩
     unfold qY at hF
     obtain⟨x107,h108,hF⟩:=aM hF
     refine go ?_ ?_
     refine nN (C:=cQ) rfl tyS24 rfl tyZ42q rfl h108 (fun b109=>?_)
     refine zP ?_
     refine aT (aJ (aC (aAa (fun H E=>∃(x113:List Rat),kO K a0 a1 x21 x27 (cL K a0 a1 x11 k) x113=some x28'∧x113.length=x107.length∧H=[hO cQ b109 x107.length 42 x107.length x113,hO (bJ cQ) b22 c23 24 n24 x21]∧E=[(0,.vc (pS (bJ cQ) a0)),(1,.vc (pS cQ a1)),(6,.vc (pI .i64 (a1.length:Int))),(7,.vc (pO b22 n24 c23)),(8,.vc (pI .i64 x11)),(10,.vc (pI .i64 x27)),(19,.vc (pO b109 x107.length x107.length))]) ?_ (fun Jj119=>?_))))
     ·rintro _ _ ⟨x113,hF,q117,rfl,rfl⟩
      unfold kO at hF
      refine aC (aH (dS ?_))
      refine dS ?_
      refine dS ?_
      refine tV 0 [19,138] rfl q117 zU2 rfl ?_
      obtain⟨v120,h121,hF⟩:=aW hF aCs
      refine go ?_ ?_
      refine aG (aP (fun H E=>∃(x126:Bool),rG K x21 x27 x113 (cL K a0 a1 x11 k) x126=some x28'∧H=[hO (bJ cQ) b22 c23 24 n24 x21]∧E=[(0,.vc (pS (bJ cQ) a0)),(1,.vc (pS cQ a1)),(6,.vc (pI .i64 (a1.length:Int))),(7,.vc (pO b22 n24 c23)),(8,.vc (pI .i64 x11)),(10,.vc (pI .i64 x27)),(19,.vc (pS cQ x113)),(24,.vc (pB x126))]) ?_ (fun Jj128=>?_))
      ·rintro _ _ ⟨x126,hF,rfl,rfl⟩
       unfold rG at hF
       refine go ?_ ?_
       refine aB hF rfl (fun h129 hF=>?_) (fun h129 hF=>?_)
       ·refine go ?_ ?_
        refine aI (eR (C:=(bJ cQ)) (xs:=[.tmp 159]) (ps:=[.vc (pS cQ x113)]) (zs:=[x113]) rfl tyS23 rfl ⟨⟨trivial,rfl⟩,trivial⟩ rfl) zU1 ?_
        obtain⟨x130,h131,hF⟩:=aM hF
        refine iK 0 rfl tyS23 rfl rfl q25 rfl rfl h131 (fun b132 c133 H134 e135=>?_)
        cases e135
        obtain⟨v137,h138,hF⟩:=aM hF
        refine go ?_ ?_
        exact aF (fun a w hh=>⟨x130,v137,b132,c133,(n24+[x113].length),hF,(bD h131 q25),dI [0] hh⟩)
       obtain⟨v139,h140,hF⟩:=aM hF
       refine go ?_ ?_
       exact aF (fun a w hh=>⟨x21,v139,b22,c23,n24,hF,q25,dI [0] hh⟩)
      obtain⟨x126',hL,hRl127⟩:=aM hF
      refine cA (fun k a w=>∃(x124:Bool),∃(x125:Int),gL K x21 x113 k x124 x125=some x126'∧hs _ [hO (bJ cQ) b22 c23 24 n24 x21] [(0,.vc (pS (bJ cQ) a0)),(1,.vc (pS cQ a1)),(6,.vc (pI .i64 (a1.length:Int))),(7,.vc (pO b22 n24 c23)),(8,.vc (pI .i64 x11)),(10,.vc (pI .i64 x27)),(19,.vc (pS cQ x113)),(24,.vc (pB x124)),(25,.vc (pI .i64 x125))] a w) K (fun a w ⟨_,_,hF,_⟩=>by cases hF) (fun k a w ⟨x124,x125,hF,hh⟩=>b0 ?_ hh) (fun a w hh=>⟨(!v120),0,hL,dI [0] hh⟩)
      rw [gL.eq_2] at hF
      refine go ?_ ?_
      refine aB hF rfl (fun h141 hF=>?_) (fun h141 hF=>?_)
      ·refine go ?_ ?_
       refine aG (go ?_ ?_)
       refine cC hF (fun h142 hF=>?_) (fun h142 hF=>?_)
       ·obtain⟨v143,h144,hF⟩:=aM hF
        refine go ?_ ?_
        exact aF (fun a w hh=>⟨true,v143,hF,dI [0] hh⟩)
       obtain⟨v145,h146,hF⟩:=aM hF
       obtain⟨v147,h148,hF⟩:=aW hF qV
       obtain⟨v149,h150,hF⟩:=aM hF
       refine go ?_ ?_
       exact aF (fun a w hh=>⟨v147,v149,hF,dI [0] hh⟩)
      refine aV ?_
      obtain rfl:=eP hF
      exact nK Jj128 ⟨x124,hRl127,rfl,rfl⟩ [0]
     refine go ?_ ?_
     refine aB hF rfl (fun h151 hF=>?_) (fun h151 hF=>?_)
     ·refine aC (aH (dS ?_))
      refine tV 3 [11,109] rfl q103 zU2 rfl ?_
      obtain⟨v152,h153,hF⟩:=aW hF aDD
      refine aI (bE rfl h153 rfl) zU1 ?_
      refine aN rfl tyZ42q (fun b154=>?_)
      obtain⟨v155,h156,hF⟩:=aW hF kZ
      refine go ?_ ?_
      refine aB hF rfl (fun h157 hF=>?_) (fun h157 hF=>?_)
      ·refine aV ?_
       obtain⟨v158,h159,hF⟩:=aM hF
       refine go ?_ ?_
       exact aF (fun a w hh=>⟨x21,v158,b22,c23,n24,hF,q25,dI [4] hh⟩)
      refine eU (aJ (aC (aH (dS ?_))))
      refine dS ?_
      refine tV 3 [12,116] rfl q97 zU2 rfl ?_
      obtain⟨v160,h161,hF⟩:=aW hF aCC
      refine go ?_ ?_
      refine aG (aP (fun H E=>∃(x176:List Rat),rH K a0 a1 x21 x27 (cL K a0 a1 x11 k) x176=some x28'∧x176.length=x107.length∧H=[hO cQ b109 x107.length 42 x107.length x176,hO (bJ cQ) b22 c23 24 n24 x21]∧E=[(0,.vc (pS (bJ cQ) a0)),(1,.vc (pS cQ a1)),(6,.vc (pI .i64 (a1.length:Int))),(7,.vc (pO b22 n24 c23)),(8,.vc (pI .i64 x11)),(10,.vc (pI .i64 x27)),(19,.vc (pO b109 x107.length x107.length))]) ?_ (fun Jj183=>?_))
      ·rintro _ _ ⟨x176,hF,q180,rfl,rfl⟩
       unfold rH at hF
       exact nK Jj119 ⟨x176,hF,q180,rfl,rfl⟩ [0,1]
      obtain⟨x176',hL,hRl182⟩:=aM hF
      refine cA (fun k a w=>∃(x169:List Rat),∃(x175:Int),iU K x59 v160 k x169 x175=some x176'∧x169.length=x107.length∧hs _ [hO cQ b109 x107.length 42 x107.length x169,hO cI b60 c61 3 n62 x59,hO (bJ cQ) b22 c23 24 n24 x21] [(0,.vc (pS (bJ cQ) a0)),(1,.vc (pS cQ a1)),(6,.vc (pI .i64 (a1.length:Int))),(7,.vc (pO b22 n24 c23)),(8,.vc (pI .i64 x11)),(10,.vc (pI .i64 x27)),(13,.vc (pO b60 n62 c61)),(19,.vc (pO b109 x107.length x107.length)),(21,.vc (pS cQ v160.1)),(23,.vc (pI .i64 x175))] a w) K (fun a w ⟨_,_,hF,_,_⟩=>by cases hF) (fun k a w ⟨x169,x175,hF,q173,hh⟩=>b0 ?_ hh) (fun a w hh=>⟨x107,0,hL,rfl,dI [1,2,3] hh⟩)
      rw [iU.eq_2] at hF
      refine go ?_ ?_
      refine aB hF rfl (fun h184 hF=>?_) (fun h184 hF=>?_)
      ·refine go ?_ ?_
       refine aG ?_
       obtain⟨v187,h188,hF⟩:=aM hF
       obtain⟨v189,h190,hF⟩:=aM hF
       obtain⟨v191,h192,hF⟩:=aM hF
       refine dr [0,0,0,6,14,0,0,96,224,511,1023] 10 1 ?_ (fun bs186 G185=>?_)
       obtain⟨x193,h194,v196,h197,hF⟩:=tW hF
       refine go ?_ ?_
       exact aF (fun a w hh=>⟨x193,v196,hF,(bC h194 q173),dI [0,1,2] hh⟩)
      refine aV ?_
      obtain rfl:=eP hF
      exact nK Jj183 ⟨x169,hRl182,q173,rfl,rfl⟩ [0,2]
     refine eU ?_
     exact nK Jj119 ⟨x107,hF,rfl,rfl,rfl⟩ [0,4]
    obtain⟨⟨x93',x99'⟩,hL,hRl105⟩:=aM hF
    refine cA (fun k a w=>∃(x80:List Rat),∃(x86:List (List Rat)),∃(x92:Int),∃(b81:Option Nat),∃(c82:Nat),∃(n83:Nat),∃(b87:Option Nat),∃(c88:Nat),∃(n89:Nat),gK K a0 a1 x59 k x80 x86 x92=some (x93',x99')∧x80.length=n83∧x86.length=n89∧hs _ [hO cI b60 c61 3 n62 x59,hO cQ b81 c82 42 n83 x80,hO (bJ cQ) b87 c88 24 n89 x86,hO (bJ cQ) b22 c23 24 n24 x21] [(0,.vc (pS (bJ cQ) a0)),(1,.vc (pS cQ a1)),(6,.vc (pI .i64 (a1.length:Int))),(7,.vc (pO b22 n24 c23)),(8,.vc (pI .i64 x11)),(10,.vc (pI .i64 x27)),(11,.vc (pO b87 n89 c88)),(12,.vc (pO b81 n83 c82)),(13,.vc (pO b60 n62 c61)),(16,.vc (pI .i64 x92))] a w) K (fun a w ⟨_,_,_,_,_,_,_,_,_,hF,_,_,_⟩=>by cases hF) (fun k a w ⟨x80,x86,x92,b81,c82,n83,b87,c88,n89,hF,q84,q90,hh⟩=>b0 ?_ hh) (fun a w hh=>⟨([]:List Rat),([]:List (List Rat)),0,none,0,0,none,0,0,hL,rfl,rfl,dI [0,1,2,3] hh⟩)
    rw [gK.eq_2] at hF
    refine go ?_ ?_
    refine aB hF rfl (fun h198 hF=>?_) (fun h198 hF=>?_)
    ·refine go ?_ ?_
     refine aG (aC (aH (jP cQ 42 rfl ?_)))
     refine go ?_ ?_
     refine aG (aP (fun H E=>∃(x215:List Rat),∃(b216:Option Nat),∃(c217:Nat),∃(n218:Nat),rB K a1 x59 x80 x86 x92 (gK K a0 a1 x59 k) x215=some (x93',x99')∧x215.length=n218∧H=[hO cQ b216 c217 42 n218 x215,hO cI b60 c61 3 n62 x59,hO cQ b81 c82 42 n83 x80,hO (bJ cQ) b87 c88 24 n89 x86,hO (bJ cQ) b22 c23 24 n24 x21]∧E=[(0,.vc (pS (bJ cQ) a0)),(1,.vc (pS cQ a1)),(6,.vc (pI .i64 (a1.length:Int))),(7,.vc (pO b22 n24 c23)),(8,.vc (pI .i64 x11)),(10,.vc (pI .i64 x27)),(11,.vc (pO b87 n89 c88)),(12,.vc (pO b81 n83 c82)),(13,.vc (pO b60 n62 c61)),(16,.vc (pI .i64 x92)),(17,.vc (pO b216 n218 c217))]) ?_ (fun Jj222=>?_))
     ·rintro _ _ ⟨x215,b216,c217,n218,hF,q219,rfl,rfl⟩
      unfold rB at hF
      refine aJ (aC (aH (dS ?_)))
      refine dS ?_
      refine tV 0 [17,90] rfl q219 zU2 rfl ?_
      refine aI (eR (C:=(bJ cQ)) (xs:=[.tmp 90]) (ps:=[.vc (pS cQ x215)]) (zs:=[x215]) rfl tyS23 rfl ⟨⟨trivial,rfl⟩,trivial⟩ rfl) zU1 ?_
      obtain⟨x223,h224,hF⟩:=aM hF
      refine iK 2 rfl tyS23 rfl rfl q90 rfl rfl h224 (fun b225 c226 H227 e228=>?_)
      cases e228
      obtain⟨v230,h231,v232,h233,hF⟩:=tW hF
      obtain⟨v234,h235,hF⟩:=aW hF oO
      refine go ?_ ?_
      refine aI (eR (C:=cQ) (xs:=[.tmp 101]) (ps:=[.va (eQ v234)]) (zs:=[v234]) rfl tyS24 rfl ⟨⟨trivial,rfl⟩,trivial⟩ rfl) zU1 ?_
      obtain⟨x236,h237,hF⟩:=aM hF
      refine iK 1 rfl tyS24 rfl rfl q84 rfl rfl h237 (fun b238 c239 H240 e241=>?_)
      cases e241
      obtain⟨v243,h244,hF⟩:=aM hF
      refine go ?_ ?_
      exact aF (fun a w hh=>⟨x236,x223,v243,b238,c239,(n83+[v234].length),b225,c226,(n89+[x215].length),hF,(bD h237 q84),(bD h224 q90),dI [0,1,2,3] hh⟩)
     obtain⟨x215',hL,hRl221⟩:=aM hF
     refine cA (fun k a w=>∃(x208:List Rat),∃(x214:Int),∃(b209:Option Nat),∃(c210:Nat),∃(n211:Nat),iX K a0 x59 x92 k x208 x214=some x215'∧x208.length=n211∧hs _ [hO cQ b209 c210 42 n211 x208,hO cI b60 c61 3 n62 x59,hO cQ b81 c82 42 n83 x80,hO (bJ cQ) b87 c88 24 n89 x86,hO (bJ cQ) b22 c23 24 n24 x21] [(0,.vc (pS (bJ cQ) a0)),(1,.vc (pS cQ a1)),(6,.vc (pI .i64 (a1.length:Int))),(7,.vc (pO b22 n24 c23)),(8,.vc (pI .i64 x11)),(10,.vc (pI .i64 x27)),(11,.vc (pO b87 n89 c88)),(12,.vc (pO b81 n83 c82)),(13,.vc (pO b60 n62 c61)),(16,.vc (pI .i64 x92)),(17,.vc (pO b209 n211 c210)),(18,.vc (pI .i64 x214))] a w) K (fun a w ⟨_,_,_,_,_,hF,_,_⟩=>by cases hF) (fun k a w ⟨x208,x214,b209,c210,n211,hF,q212,hh⟩=>b0 ?_ hh) (fun a w hh=>⟨([]:List Rat),0,none,0,0,hL,rfl,dI [0,1,2,3,4] hh⟩)
     rw [iX.eq_2] at hF
     refine go ?_ ?_
     refine aB hF rfl (fun h245 hF=>?_) (fun h245 hF=>?_)
     ·refine go ?_ ?_
      refine aG ?_
      obtain⟨v248,h249,hF⟩:=aM hF
      obtain⟨v250,h251,hF⟩:=aM hF
      obtain⟨v252,h253,hF⟩:=aM hF
      obtain⟨v254,h255,hF⟩:=aM hF
      refine iQ [0,0,0,0,12,28,62,126,0,0,768,1792,4094,8190,16382,32767,65535] 15 2 [.v (.vc (pO b209 n211 c210)),.v (.vc (pS (bJ cQ) a0)),.v (.vc (pO b60 n62 c61)),.v (.vc (pI .i64 x92)),.v (.vc (pE b60 x92 cI.n 0)),.v (.vc (pI .i64 v248)),.v (.vc (pM ((bJ cQ).e v250))),.v (.vc (pS cQ v250)),.v (.vc (pO b60 n62 c61)),.v (.vc (pI .i64 x214)),.v (.vc (pE b60 x214 cI.n 0)),.v (.vc (pI .i64 v252)),.v (.vc (pM (cQ.e v254))),.v (.va (eQ v254)),.v (.vc (pS cQ [v254]))] aU ⟨d0 (aL (.inl rfl)) zU1,d0 (aL (.inl rfl)) zU1,d0 (aL (.inl rfl)) zU1,d0 (aL (.inl rfl)) zU1,d0 (cY (C:=cI) 1 rfl tyS22 rfl q63 (aD h249).1 (aD h249).2.1) zU2,d0 (iD (k:=1) 1 rfl rfl h249 rfl (.one tyO3) rfl) zU1,d0 (zS rfl tyS23 h251) zU2,d0 (x0 1 rfl rfl (.one tyO24)) zU1,d0 (aL (.inl rfl)) zU1,d0 (aL (.inl rfl)) zU1,d0 (cY (C:=cI) 1 rfl tyS22 rfl q63 (aD h253).1 (aD h253).2.1) zU2,d0 (iD (k:=1) 1 rfl rfl h253 rfl (.one tyO3) rfl) zU1,d0 (zS rfl tyS24 h255) zU2,d0 (x0 4 rfl rfl (.agg tyA42)) zU1,d0 (eR (C:=cQ) (xs:=[.tmp 86]) (ps:=[.va (eQ v254)]) (zs:=[v254]) rfl tyS24 rfl ⟨⟨trivial,rfl⟩,trivial⟩ rfl) zU1,trivial⟩ (fun bs247 G246=>?_)
      obtain⟨x256,h257,hF⟩:=aM hF
      refine iK 0 rfl tyS24 rfl rfl q212 rfl rfl h257 (fun b258 c259 H260 e261=>?_)
      cases e261
      obtain⟨v263,h264,hF⟩:=aM hF
      refine go ?_ ?_
      exact aF (fun a w hh=>⟨x256,v263,b258,c259,(n211+[v254].length),hF,(bD h257 q212),dI [0,1,2,3,4] hh⟩)
     refine aV ?_
     obtain rfl:=eP hF
     exact nK Jj222 ⟨x208,b209,c210,n211,hRl221,q212,rfl,rfl⟩ [0,1,2,3,4]
    refine aV ?_
    obtain⟨rfl,rfl⟩:=sm2 hF
    exact nK Jj106 ⟨x80,x86,b81,c82,n83,b87,c88,n89,hRl105,q84,q90,rfl,rfl⟩ [0,1,2,3]
   obtain⟨x59',hL,hRl65⟩:=aM hF
   refine cA (fun k a w=>∃(x51:List Int),∃(x57:Int),∃(x58:Int),∃(b52:Option Nat),∃(c53:Nat),∃(n54:Nat),iC K a1 k x51 x57 x58=some x59'∧x51.length=n54∧hs _ [hO cI b52 c53 3 n54 x51,hO cQ none 0 42 0 ([]:List Rat),hO (bJ cQ) none 0 24 0 ([]:List (List Rat)),hO (bJ cQ) b22 c23 24 n24 x21] [(0,.vc (pS (bJ cQ) a0)),(1,.vc (pS cQ a1)),(6,.vc (pI .i64 (a1.length:Int))),(7,.vc (pO b22 n24 c23)),(8,.vc (pI .i64 x11)),(10,.vc (pI .i64 x27)),(11,.vc (pO none 0 0)),(12,.vc (pO none 0 0)),(13,.vc (pO b52 n54 c53)),(14,.vc (pI .i64 x57)),(15,.vc (pI .i64 x58))] a w) K (fun a w ⟨_,_,_,_,_,_,hF,_,_⟩=>by cases hF) (fun k a w ⟨x51,x57,x58,b52,c53,n54,hF,q55,hh⟩=>b0 ?_ hh) (fun a w hh=>⟨([]:List Int),x27,0,none,0,0,hL,rfl,dI [0,1,2,3] hh⟩)
   rw [iC.eq_2] at hF
   refine go ?_ ?_
   refine aB hF rfl (fun h265 hF=>?_) (fun h265 hF=>?_)
   ·refine go ?_ ?_
    refine aG ?_
    obtain⟨v266,h267,hF⟩:=aM hF
    refine go ?_ ?_
    refine aB hF rfl (fun h268 hF=>?_) (fun h268 hF=>?_)
    ·refine go ?_ ?_
     refine aI (eR (C:=cI) (xs:=[.tmp 56]) (ps:=[.vc (pI .i64 x58)]) (zs:=[x58]) rfl tyS22 rfl ⟨⟨trivial,rfl⟩,trivial⟩ rfl) zU1 ?_
     obtain⟨x269,h270,hF⟩:=aM hF
     refine iK 0 rfl tyS22 rfl rfl q55 rfl rfl h270 (fun b271 c272 H273 e274=>?_)
     cases e274
     obtain⟨v276,h277,v278,h279,hF⟩:=tW hF
     refine go ?_ ?_
     exact aF (fun a w hh=>⟨x269,v276,v278,b271,c272,(n54+[x58].length),hF,(bD h270 q55),dI [0,1,2,3] hh⟩)
    obtain⟨v280,h281,v282,h283,hF⟩:=tW hF
    refine go ?_ ?_
    exact aF (fun a w hh=>⟨x51,v280,v282,b52,c53,n54,hF,q55,dI [0,1,2,3] hh⟩)
   refine aV ?_
   obtain rfl:=eP hF
   exact nK Jj66 ⟨x51,b52,c53,n54,hRl65,q55,rfl,rfl⟩ [0,1,2,3]
  refine aV ?_
  obtain rfl:=eP hF
  exact nK Jj35 ⟨x21,b22,c23,n24,hRl34,q25,rfl,rfl⟩ [0]
 obtain⟨x11',hL,hRl12⟩:=aM hF
 refine cA (fun k a w=>∃(x9:Int),∃(x10:Int),jQ K a1 k x9 x10=some x11'∧hs _ [hO (bJ cQ) none 0 24 0 ([]:List (List Rat))] [(0,.vc (pS (bJ cQ) a0)),(1,.vc (pS cQ a1)),(6,.vc (pI .i64 (a1.length:Int))),(7,.vc (pO none 0 0)),(8,.vc (pI .i64 x9)),(9,.vc (pI .i64 x10))] a w) K (fun a w ⟨_,_,hF,_⟩=>by cases hF) (fun k a w ⟨x9,x10,hF,hh⟩=>b0 ?_ hh) (fun a w hh=>⟨1,0,hL,dI [0] hh⟩)
 rw [jQ.eq_2] at hF
 refine go ?_ ?_
 refine aB hF rfl (fun h284 hF=>?_) (fun h284 hF=>?_)
 ·refine go ?_ ?_
  refine aG ?_
  obtain⟨v285,h286,v287,h288,hF⟩:=tW hF
  refine go ?_ ?_
  exact aF (fun a w hh=>⟨v285,v287,hF,dI [0] hh⟩)
 refine aV ?_
 obtain rfl:=eP hF
 exact nK Jj13 ⟨x9,hRl12,rfl,rfl⟩ [0]
def oV (K:Nat):Option Bool:=
 some true
def gS (K:Nat) (a0:List (List Rat)) (a1:List (List Rat)):Nat→Int→Option (LR Bool Unit)
 |0,_=>none
 |k+1,x3=>bif(decide (x3<(a0.length:Int))) then((bF a0 x3).bind fun v9=>(bF a1 x3).bind fun v11=>(fI K v9 v11).bind fun v13=>bif(!v13) then(some (.ret false)) else((aS (x3+1)).bind fun v16=>gS K a0 a1 k v16)) else(some (.go ()))
def hZ (K:Nat) (a0:List (List Rat)) (a1:List (List Rat)):Option Bool:=
 bif((a0.length:Int) != (a1.length:Int)) then(some false) else((gS K a0 a1 K 0).bind fun o=>match o with| .ret r=>some r| .go _=>oV K)
theorem yU {K:Nat} {a0:List (List Rat)} {a1:List (List Rat)} {r:Bool} (hF:hZ K a0 a1=some r):Ct Tryz.prog 26 [.vc (pS (bJ cQ) a0),.vc (pS (bJ cQ) a1)] (.vc (pB r)):=by
 unfold hZ at hF
 refine aA Tryz.func26 rfl (by kernel_rfl) Tryz.ntmps26 rfl (fun w0 M0=>?_)
 refine go ?_ ?_
 refine aB hF rfl (fun h1 hF=>?_) (fun h1 hF=>?_)
 ·exact bI
 refine go ?_ ?_
 refine aG (aP (fun H E=>oV K=some r∧H=[]∧E=[]) ?_ (fun Jj5=>?_))
 ·rintro _ _ ⟨hF,rfl,rfl⟩
  unfold oV at hF
  exact bI
 obtain⟨ol4,hL,hRl4⟩:=aM hF
 refine cA (fun k a w=>∃(x3:Int),gS K a0 a1 k x3=some ol4∧hs _ [] [(0,.vc (pS (bJ cQ) a0)),(1,.vc (pS (bJ cQ) a1)),(5,.vc (pI .i64 x3))] a w) K (fun a w ⟨_,hF,_⟩=>by cases hF) (fun k a w ⟨x3,hF,hh⟩=>b0 ?_ hh) (fun a w hh=>⟨0,hL,dI [] hh⟩)
 rw [gS.eq_2] at hF
 refine go ?_ ?_
 refine aB hF rfl (fun h6 hF=>?_) (fun h6 hF=>?_)
 ·refine go ?_ ?_
  refine aG (aC ?_)
  obtain⟨v9,h10,hF⟩:=aM hF
  obtain⟨v11,h12,hF⟩:=aM hF
  obtain⟨v13,h14,hF⟩:=aW hF qV
  refine dr [0,0,3,7,0,0,48,112,255,511] 10 0 ?_ (fun bs8 G7=>?_)
  refine aT (aJ (aB hF rfl (fun h15 hF=>?_) (fun h15 hF=>?_)))
  ·exact bI
  obtain⟨v16,h17,hF⟩:=aM hF
  refine go ?_ ?_
  exact aF (fun a w hh=>⟨v16,hF,dI [] hh⟩)
 refine aV ?_
 obtain rfl:=eP hF
 exact nK Jj5 ⟨hRl4,rfl,rfl⟩ []
noncomputable def pA (K:Nat) (a0:List (List Rat)) (a1:List Rat) (a2 a3:Int):Option (List (List aK)×List aK):=gP K (a0.map (List.map Qr)) (a1.map Qr) a2 a3
theorem aAS {K:Nat} {a0:List (List Rat)} {a1:List Rat} {a2 a3:Int} {r:List (List aK)×List aK} (hF:pA K a0 a1 a2 a3=some r):Ct Tryz.prog aBd [.vc (pS (bJ cQ) a0),.vc (pS cQ a1),.vc (pI .i64 a2),.vc (pI .i64 a3)] (.t2 (.vc (pS (bJ aK.c) r.1)) (.vc (pS aK.c r.2))):=by
 rw [aEn,aIi];exact aAT hF
open Classical in
noncomputable def aIc (K:Nat) (a0:List (List aK)) (a1:List aK) (a2:Int):Option (bQ×Int):=
 match aEW a0,aE4 a1 with
 |some M,some q=>oM K M q a2
 |_,_=>(aBK K a0 a1 a2).bind fun r=>if r=(⟨[],[],0⟩,1) then some (⟨[],[],0⟩,1) else none
open Classical in
noncomputable def gG (K:Nat) (a0:List (List aK)) (a1:List aK):Option (List (List Rat)×Int):=
 match aEW a0,aE4 a1 with
 |some M,some q=>iL K M q
 |_,_=>(mG K a0 a1).bind fun r=>if r.1=[] then some ([],r.2) else none
open Classical in
theorem aCd {K:Nat} {a0:List (List aK)} {a1:List aK} {r:List (List Rat)×Int} (hF:gG K a0 a1=some r):Ct Tryz.prog zW [.vc (pS (bJ aK.c) a0),.vc (pS aK.c a1)] (.t2 (.vc (pS (bJ cQ) r.1)) (.vc (pI .i64 r.2))):=by
 have raw:∀r:List (List Rat)×Int,((mG K a0 a1).bind fun r=>if r.1=[] then some (([]:List (List Rat)),r.2) else none)=some r→Ct Tryz.prog zW [.vc (pS (bJ aK.c) a0),.vc (pS aK.c a1)] (.t2 (.vc (pS (bJ cQ) r.1)) (.vc (pI .i64 r.2))):=fun r hF=>by
  obtain⟨v,h,hF⟩:=aM hF
  obtain⟨v1,v2⟩:=v
  split at hF
  ·rename_i hv
   have hv:v1=[]:=hv
   subst hv
   cases hF
   have:=aCc h
   rw [aEn];exact this
  ·cases hF
 unfold gG at hF
 split at hF
 ·rename_i M q h1 h2
  rw [aHy h1,aHp h2,←aEn,←aIi]
  exact yG hF
 ·exact raw r hF
open Classical in
noncomputable def fJ (K:Nat) (a0:List (List aK)) (a1:List aK):Option (List (List Rat)×Int):=
 match aEW a0,aE4 a1 with
 |some M,some q=>lB K M q
 |_,_=>(lL K a0 a1).bind fun r=>if r.1=[] then some ([],r.2) else none
open Classical in
theorem aBL {K:Nat} {a0:List (List aK)} {a1:List aK} {r:List (List Rat)×Int} (hF:fJ K a0 a1=some r):Ct Tryz.prog y7 [.vc (pS (bJ aK.c) a0),.vc (pS aK.c a1)] (.t2 (.vc (pS (bJ cQ) r.1)) (.vc (pI .i64 r.2))):=by
 have raw:∀r:List (List Rat)×Int,((lL K a0 a1).bind fun r=>if r.1=[] then some (([]:List (List Rat)),r.2) else none)=some r→Ct Tryz.prog y7 [.vc (pS (bJ aK.c) a0),.vc (pS aK.c a1)] (.t2 (.vc (pS (bJ cQ) r.1)) (.vc (pI .i64 r.2))):=fun r hF=>by
  obtain⟨v,h,hF⟩:=aM hF
  obtain⟨v1,v2⟩:=v
  split at hF
  ·rename_i hv
   have hv:v1=[]:=hv
   subst hv
   cases hF
   have:=aBH h
   rw [aEn];exact this
  ·cases hF
 unfold fJ at hF
 split at hF
 ·rename_i M q h1 h2
  rw [aHy h1,aHp h2,←aEn,←aIi]
  exact aAF hF
 ·exact raw r hF
noncomputable def wL (K:Nat) (x17:List Rat):Option (List Rat):=
 some x17
noncomputable def s7 (K:Nat) (a0:List Int):Nat→(List Rat)→Int→Option (List Rat)
 |0,_,_=>none
 |k+1,x10,x16=>bif(decide (x16<(a0.length:Int))) then((bF a0 x16).bind fun v26=>(qof v26 1).bind fun v28=>(oG x10 [v28]).bind fun x30=>(aS (x16+1)).bind fun v37=>s7 K a0 k x30 v37) else(some x10)
noncomputable def dV (K:Nat) (a0:List Int):Option (List Rat):=
 (s7 K a0 K ([]:List Rat) 0).bind fun x17=>wL K x17
theorem eZ {K:Nat} {a0:List Int} {r:List Rat} (hF:dV K a0=some r):Ct Tryz.prog 21 [.vc (pS cI a0)] (.vc (pS cQ r)):=by
 unfold dV at hF
 refine aA Tryz.func21 rfl (by kernel_rfl) Tryz.ntmps21 rfl (fun w0 M0=>?_)
 refine aC (aH (aI (aL (.inr rfl)) ⟨cD cQ,trivial⟩ ?_))
 refine aT (aJ (aC (aH (jP cQ 42 rfl ?_))))
 refine go ?_ ?_
 refine aG (aP (fun H E=>∃(x17:List Rat),∃(b18:Option Nat),∃(c19:Nat),∃(n20:Nat),wL K x17=some r∧x17.length=n20∧H=[hO cQ b18 c19 42 n20 x17]∧E=[(3,.vc (pO b18 n20 c19))]) ?_ (fun Jj24=>?_))
 ·rintro _ _ ⟨x17,b18,c19,n20,hF,q21,rfl,rfl⟩
  unfold wL at hF
  refine go ?_ ?_
  refine dQ (dL (lF 0 [2,3,19] rfl q21 ⟨rfl,rfl,rfl,trivial⟩ rfl ?_))
  obtain rfl:=eP hF
  exact eE (.inl rfl) Tryz.results21 (.tmp rfl .nil) rfl rfl
 obtain⟨x17',hL,hRl23⟩:=aM hF
 refine cA (fun k a w=>∃(x10:List Rat),∃(x16:Int),∃(b11:Option Nat),∃(c12:Nat),∃(n13:Nat),s7 K a0 k x10 x16=some x17'∧x10.length=n13∧hs _ [hO cQ b11 c12 42 n13 x10] [(0,.vc (pS cI a0)),(3,.vc (pO b11 n13 c12)),(4,.vc (pI .i64 x16))] a w) K (fun a w ⟨_,_,_,_,_,hF,_,_⟩=>by cases hF) (fun k a w ⟨x10,x16,b11,c12,n13,hF,q14,hh⟩=>b0 ?_ hh) (fun a w hh=>⟨([]:List Rat),0,none,0,0,hL,rfl,dI [0] hh⟩)
 rw [s7.eq_2] at hF
 refine go ?_ ?_
 refine aB hF rfl (fun h25 hF=>?_) (fun h25 hF=>?_)
 ·refine go ?_ ?_
  refine aG ?_
  obtain⟨v26,h27,hF⟩:=aM hF
  obtain⟨v28,h29,hF⟩:=aW hF dX
  refine go ?_ ?_
  refine aI (eR (C:=cQ) (xs:=[.tmp 16]) (ps:=[.va (eQ v28)]) (zs:=[v28]) rfl tyS24 rfl ⟨⟨trivial,rfl⟩,trivial⟩ rfl) zU1 ?_
  obtain⟨x30,h31,hF⟩:=aM hF
  refine iK 0 rfl tyS24 rfl rfl q14 rfl rfl h31 (fun b32 c33 H34 e35=>?_)
  cases e35
  obtain⟨v37,h38,hF⟩:=aM hF
  refine go ?_ ?_
  exact aF (fun a w hh=>⟨x30,v37,b32,c33,(n13+[v28].length),hF,(bD h31 q14),dI [0] hh⟩)
 refine aV ?_
 obtain rfl:=eP hF
 exact nK Jj24 ⟨x10,b11,c12,n13,hRl23,q14,rfl,rfl⟩ [0]
noncomputable def qO (K:Nat):Option Bool:=
 (dV K [2,1]).bind fun v1=>(dV K [1,2]).bind fun v3=>(dV K [(-5),(-6)]).bind fun v5=>(oM K [v1,v3] v5 9).bind fun v7=>(dV K [(-4),1]).bind fun v10=>(oM K [v1,v3] v10 9).bind fun v12=>(dV K [0]).bind fun v15=>(dV K [(-1)]).bind fun v17=>(oM K [v15] v17 9).bind fun v19=>(dV K [(-5),(-6)]).bind fun v22=>(w6 K [v1,v3] v22).bind fun v24=>bif(v7.2 != 0) then(some false) else(bif(v12.2 != 0) then(some false) else(bif(v19.2 != 15) then(some false) else(bif(v24.2 != 6) then(some false) else((dV K [(-1)]).bind fun v30=>(dV K [1]).bind fun v32=>(wJ K [v15] v30 v32).bind fun v34=>bif(!v34) then(some false) else((qof 4 3).bind fun v37=>(qof 7 3).bind fun v39=>(fI K v7.1.z [v37,v39]).bind fun v43=>bif v43 then((dV K [2,0]).bind fun v46=>(fI K v12.1.z v46).bind fun v48=>bif v48 then((dV K [0,3]).bind fun v51=>(fI K v12.1.w v51).bind fun v53=>bif v53 then((dV K [(-5),(-6)]).bind fun v56=>(l4 K [v1,v3] v56 [v37,v39]).bind fun v58=>some v58) else(some false)) else(some false)) else(some false))))))
theorem aCD {K:Nat} {r:Bool} (hF:qO K=some r):Ct Tryz.prog 18 [] (.vc (pB r)):=by
 unfold qO at hF
 refine aA Tryz.func18 rfl (by kernel_rfl) Tryz.ntmps18 rfl (fun w0 M0=>?_)
 refine go ?_ ?_
 refine aI (eR (C:=cI) (xs:=[.const (.int .i64 (2)),.const (.int .i64 (1))]) (ps:=[.vc (pI .i64 2),.vc (pI .i64 1)]) (zs:=[2,1]) rfl tyS22 rfl ⟨⟨trivial,rfl⟩,⟨trivial,rfl⟩,trivial⟩ rfl) ⟨qM _ _,qM _ _,trivial⟩ ?_
 obtain⟨v1,h2,hF⟩:=aW hF eZ
 refine aI (bE rfl h2 rfl) zU1 ?_
 refine aI (eR (C:=cI) (xs:=[.const (.int .i64 (1)),.const (.int .i64 (2))]) (ps:=[.vc (pI .i64 1),.vc (pI .i64 2)]) (zs:=[1,2]) rfl tyS22 rfl ⟨⟨trivial,rfl⟩,⟨trivial,rfl⟩,trivial⟩ rfl) ⟨qM _ _,qM _ _,trivial⟩ ?_
 obtain⟨v3,h4,hF⟩:=aW hF eZ
 refine aI (bE rfl h4 rfl) zU1 ?_
 refine aI (eR (C:=(bJ cQ)) (xs:=[.tmp 13,.tmp 15]) (ps:=[.vc (pS cQ v1),.vc (pS cQ v3)]) (zs:=[v1,v3]) rfl tyS23 rfl ⟨⟨trivial,rfl⟩,⟨trivial,rfl⟩,trivial⟩ rfl) zU2 ?_
 refine go ?_ ?_
 refine aI (eR (C:=cI) (xs:=[.const (.int .i64 (-5)),.const (.int .i64 (-6))]) (ps:=[.vc (pI .i64 (-5)),.vc (pI .i64 (-6))]) (zs:=[(-5),(-6)]) rfl tyS22 rfl ⟨⟨trivial,rfl⟩,⟨trivial,rfl⟩,trivial⟩ rfl) ⟨qM _ _,qM _ _,trivial⟩ ?_
 obtain⟨v5,h6,hF⟩:=aW hF eZ
 obtain⟨v7,h8,hF⟩:=aW hF wZ
 refine go ?_ ?_
 refine aN rfl tyZ30q (fun b9=>?_)
 refine go ?_ ?_
 refine aI (eR (C:=cI) (xs:=[.const (.int .i64 (-4)),.const (.int .i64 (1))]) (ps:=[.vc (pI .i64 (-4)),.vc (pI .i64 1)]) (zs:=[(-4),1]) rfl tyS22 rfl ⟨⟨trivial,rfl⟩,⟨trivial,rfl⟩,trivial⟩ rfl) ⟨qM _ _,qM _ _,trivial⟩ ?_
 obtain⟨v10,h11,hF⟩:=aW hF eZ
 obtain⟨v12,h13,hF⟩:=aW hF wZ
 refine go ?_ ?_
 refine aN rfl tyZ30q (fun b14=>?_)
 refine go ?_ ?_
 refine aI (eR (C:=cI) (xs:=[.const (.int .i64 (0))]) (ps:=[.vc (pI .i64 0)]) (zs:=[0]) rfl tyS22 rfl ⟨⟨trivial,rfl⟩,trivial⟩ rfl) ⟨qM _ _,trivial⟩ ?_
 obtain⟨v15,h16,hF⟩:=aW hF eZ
 refine aI (bE rfl h16 rfl) zU1 ?_
 refine aI (eR (C:=(bJ cQ)) (xs:=[.tmp 32]) (ps:=[.vc (pS cQ v15)]) (zs:=[v15]) rfl tyS23 rfl ⟨⟨trivial,rfl⟩,trivial⟩ rfl) zU1 ?_
 refine go ?_ ?_
 refine aI (eR (C:=cI) (xs:=[.const (.int .i64 (-1))]) (ps:=[.vc (pI .i64 (-1))]) (zs:=[(-1)]) rfl tyS22 rfl ⟨⟨trivial,rfl⟩,trivial⟩ rfl) ⟨qM _ _,trivial⟩ ?_
 obtain⟨v17,h18,hF⟩:=aW hF eZ
 obtain⟨v19,h20,hF⟩:=aW hF wZ
 refine go ?_ ?_
 refine aN rfl tyZ30q (fun b21=>?_)
 refine go ?_ ?_
 refine aI (eR (C:=cI) (xs:=[.const (.int .i64 (-5)),.const (.int .i64 (-6))]) (ps:=[.vc (pI .i64 (-5)),.vc (pI .i64 (-6))]) (zs:=[(-5),(-6)]) rfl tyS22 rfl ⟨⟨trivial,rfl⟩,⟨trivial,rfl⟩,trivial⟩ rfl) ⟨qM _ _,qM _ _,trivial⟩ ?_
 obtain⟨v22,h23,hF⟩:=aW hF eZ
 obtain⟨v24,h25,hF⟩:=aW hF aCK
 refine go ?_ ?_
 refine cC hF (fun h26 hF=>?_) (fun h26 hF=>?_)
 ·refine go ?_ ?_
  refine fV rfl ?_
  exact bI
 refine go ?_ ?_
 refine cC hF (fun h27 hF=>?_) (fun h27 hF=>?_)
 ·refine go ?_ ?_
  refine fV rfl ?_
  exact bI
 refine go ?_ ?_
 refine cC hF (fun h28 hF=>?_) (fun h28 hF=>?_)
 ·refine go ?_ ?_
  refine fV rfl ?_
  exact bI
 refine go ?_ ?_
 refine cC hF (fun h29 hF=>?_) (fun h29 hF=>?_)
 ·refine go ?_ ?_
  refine fV rfl ?_
  exact bI
 refine w8 (aL (.inl rfl)) zU1 ?_
 refine w8 (eR (C:=cI) (xs:=[.const (.int .i64 (-1))]) (ps:=[.vc (pI .i64 (-1))]) (zs:=[(-1)]) rfl tyS22 rfl ⟨⟨trivial,rfl⟩,trivial⟩ rfl) ⟨qM _ _,trivial⟩ ?_
 obtain⟨v30,h31,hF⟩:=aW hF eZ
 refine w8 (bE rfl h31 rfl) zU1 ?_
 refine w8 (eR (C:=cI) (xs:=[.const (.int .i64 (1))]) (ps:=[.vc (pI .i64 1)]) (zs:=[1]) rfl tyS22 rfl ⟨⟨trivial,rfl⟩,trivial⟩ rfl) ⟨qM _ _,trivial⟩ ?_
 obtain⟨v32,h33,hF⟩:=aW hF eZ
 obtain⟨v34,h35,hF⟩:=aW hF aCg
 refine go ?_ ?_
 refine aB hF rfl (fun h36 hF=>?_) (fun h36 hF=>?_)
 ·exact bI
 obtain⟨v37,h38,hF⟩:=aW hF dX
 obtain⟨v39,h40,hF⟩:=aW hF dX
 refine go ?_ ?_
 refine aI (eR (C:=cQ) (xs:=[.tmp 71,.tmp 72]) (ps:=[.va (eQ v37),.va (eQ v39)]) (zs:=[v37,v39]) rfl tyS24 rfl ⟨⟨trivial,rfl⟩,⟨trivial,rfl⟩,trivial⟩ rfl) zU2 ?_
 obtain⟨v43,h44,hF⟩:=aW hF qV
 refine go ?_ ?_
 rcases Bool.eq_false_or_eq_true v43 with h45|h45
 ·have hF:=vK h45 hF
  obtain⟨v46,h47,hF⟩:=aW hF eZ
  obtain⟨v48,h49,hF⟩:=aW hF qV
  rcases Bool.eq_false_or_eq_true v48 with h50|h50
  ·have hF:=vK h50 hF
   obtain⟨v51,h52,hF⟩:=aW hF eZ
   obtain⟨v53,h54,hF⟩:=aW hF qV
   rcases Bool.eq_false_or_eq_true v53 with h55|h55
   ·have hF:=vK h55 hF
    obtain⟨v56,h57,hF⟩:=aW hF eZ
    obtain⟨v58,h59,hF⟩:=aW hF w4
    refine iQ (0::1::0::7::15::31::63::31::159::511::1023::2047::4095::8191::4095::20479::65535::131071::262143::524287::524287::1572863::524287::8388607::16777215::33554431::[]) 26 0 (.v (.vc (pP (some b9) 0))::.v (.vc (pS cQ v7.1.z))::.v (.vc (pS cQ [v37,v39]))::.v (.vc (pB v43))::.v (.vc (pB true))::.v (.vc (pP (some b14) 0))::.v (.vc (pS cQ v12.1.z))::.v (.vc (pS cI [2,0]))::.v (.vc (pS cQ v46))::.v (.vc (pB v48))::.v (.vc (pB v48))::.v (.vc (pB true))::.v (.vc (pP (some b14) 1))::.v (.vc (pS cQ v12.1.w))::.v (.vc (pS cI [0,3]))::.v (.vc (pS cQ v51))::.v (.vc (pB v53))::.v (.vc (pB v53))::.v (.vc (pB true))::.v (.vc (pS (bJ cQ) [v1,v3]))::.v (.vc (pS cI [(-5),(-6)]))::.v (.vc (pS cQ v56))::.v (.vc (pS cQ [v37,v39]))::.v (.vc (pB v58))::.v (.vc (pB v58))::.v (.vc (pB v58))::[]) aU ⟨d0 (gV (off:=0) (k:=0) rfl tyF30_0) zU1,d0 (gC 2 1 rfl rfl rfl rfl (.one tyO24)) zU1,d0 (aL (.inl rfl)) zU1,d0 (bE rfl h44 rfl) zU2,d0 (nW (aL (.inl rfl)) h45) zU1,g0 (gV (off:=0) (k:=0) rfl tyF30_0) zU1,g0 (gC 1 1 rfl rfl rfl rfl (.one tyO24)) zU1,g0 (eR (C:=cI) (xs:=[.const (.int .i64 (2)),.const (.int .i64 (0))]) (ps:=[.vc (pI .i64 2),.vc (pI .i64 0)]) (zs:=[2,0]) rfl tyS22 rfl ⟨⟨trivial,rfl⟩,⟨trivial,rfl⟩,trivial⟩ rfl) ⟨qM _ _,qM _ _,trivial⟩,g0 (bE rfl h47 rfl) zU1,g0 (bE rfl h49 rfl) zU2,d0 (yA rfl) zU2,d0 (nW (aL (.inl rfl)) h50) zU1,g0 (gV (off:=0) (k:=1) rfl tyF30_1) zU1,g0 (gC 1 1 rfl rfl rfl rfl (.one tyO24)) zU1,g0 (eR (C:=cI) (xs:=[.const (.int .i64 (0)),.const (.int .i64 (3))]) (ps:=[.vc (pI .i64 0),.vc (pI .i64 3)]) (zs:=[0,3]) rfl tyS22 rfl ⟨⟨trivial,rfl⟩,⟨trivial,rfl⟩,trivial⟩ rfl) ⟨qM _ _,qM _ _,trivial⟩,g0 (bE rfl h52 rfl) zU1,g0 (bE rfl h54 rfl) zU2,d0 (yA rfl) zU2,d0 (nW (aL (.inl rfl)) h55) zU1,g0 (aL (.inl rfl)) zU1,g0 (eR (C:=cI) (xs:=[.const (.int .i64 (-5)),.const (.int .i64 (-6))]) (ps:=[.vc (pI .i64 (-5)),.vc (pI .i64 (-6))]) (zs:=[(-5),(-6)]) rfl tyS22 rfl ⟨⟨trivial,rfl⟩,⟨trivial,rfl⟩,trivial⟩ rfl) ⟨qM _ _,qM _ _,trivial⟩,g0 (bE rfl h57 rfl) zU1,g0 (aL (.inl rfl)) zU1,g0 (bE rfl h59 rfl) ⟨rfl,rfl,rfl,trivial⟩,d0 (yA rfl) zU2,d0 (aL (.inr rfl)) zU1,trivial⟩ (fun bs42 G41=>?_)
    refine aT (aJ ?_)
    exact bI
   have hF:=tU h55 hF
   refine iQ (0::1::0::7::15::31::63::31::159::511::1023::2047::4095::8191::4095::20479::65535::131071::262143::524287::524287::1572863::524287::8388607::16777215::33554431::[]) 26 0 (.v (.vc (pP (some b9) 0))::.v (.vc (pS cQ v7.1.z))::.v (.vc (pS cQ [v37,v39]))::.v (.vc (pB v43))::.v (.vc (pB true))::.v (.vc (pP (some b14) 0))::.v (.vc (pS cQ v12.1.z))::.v (.vc (pS cI [2,0]))::.v (.vc (pS cQ v46))::.v (.vc (pB v48))::.v (.vc (pB v48))::.v (.vc (pB true))::.v (.vc (pP (some b14) 1))::.v (.vc (pS cQ v12.1.w))::.v (.vc (pS cI [0,3]))::.v (.vc (pS cQ v51))::.v (.vc (pB v53))::.v (.vc (pB v53))::.v (.vc (pB false))::.v .un::.v .un::.v .un::.v .un::.v .un::.v (.vc (pB false))::.v (.vc (pB false))::[]) aU ⟨d0 (gV (off:=0) (k:=0) rfl tyF30_0) zU1,d0 (gC 2 1 rfl rfl rfl rfl (.one tyO24)) zU1,d0 (aL (.inl rfl)) zU1,d0 (bE rfl h44 rfl) zU2,d0 (nW (aL (.inl rfl)) h45) zU1,g0 (gV (off:=0) (k:=0) rfl tyF30_0) zU1,g0 (gC 1 1 rfl rfl rfl rfl (.one tyO24)) zU1,g0 (eR (C:=cI) (xs:=[.const (.int .i64 (2)),.const (.int .i64 (0))]) (ps:=[.vc (pI .i64 2),.vc (pI .i64 0)]) (zs:=[2,0]) rfl tyS22 rfl ⟨⟨trivial,rfl⟩,⟨trivial,rfl⟩,trivial⟩ rfl) ⟨qM _ _,qM _ _,trivial⟩,g0 (bE rfl h47 rfl) zU1,g0 (bE rfl h49 rfl) zU2,d0 (yA rfl) zU2,d0 (nW (aL (.inl rfl)) h50) zU1,g0 (gV (off:=0) (k:=1) rfl tyF30_1) zU1,g0 (gC 1 1 rfl rfl rfl rfl (.one tyO24)) zU1,g0 (eR (C:=cI) (xs:=[.const (.int .i64 (0)),.const (.int .i64 (3))]) (ps:=[.vc (pI .i64 0),.vc (pI .i64 3)]) (zs:=[0,3]) rfl tyS22 rfl ⟨⟨trivial,rfl⟩,⟨trivial,rfl⟩,trivial⟩ rfl) ⟨qM _ _,qM _ _,trivial⟩,g0 (bE rfl h52 rfl) zU1,g0 (bE rfl h54 rfl) zU2,d0 (yA rfl) zU2,d0 (nW (aL (.inl rfl)) h55) zU1,⟨rfl,.skipN⟩,⟨rfl,.skipN⟩,⟨rfl,.skipN⟩,⟨rfl,.skipN⟩,⟨rfl,.skipN⟩,d0 (aBP rfl) ⟨rfl,k_B _,trivial⟩,d0 (aL (.inr rfl)) zU1,trivial⟩ (fun bs42 G41=>?_)
   refine aT (aJ ?_)
   exact bI
  have hF:=tU h50 hF
  refine iQ (0::1::0::7::15::31::63::31::159::511::1023::2047::4095::8191::4095::20479::65535::131071::262143::524287::524287::1572863::524287::8388607::16777215::33554431::[]) 26 0 (.v (.vc (pP (some b9) 0))::.v (.vc (pS cQ v7.1.z))::.v (.vc (pS cQ [v37,v39]))::.v (.vc (pB v43))::.v (.vc (pB true))::.v (.vc (pP (some b14) 0))::.v (.vc (pS cQ v12.1.z))::.v (.vc (pS cI [2,0]))::.v (.vc (pS cQ v46))::.v (.vc (pB v48))::.v (.vc (pB v48))::.v (.vc (pB false))::.v .un::.v .un::.v .un::.v .un::.v .un::.v (.vc (pB false))::.v (.vc (pB false))::.v .un::.v .un::.v .un::.v .un::.v .un::.v (.vc (pB false))::.v (.vc (pB false))::[]) aU ⟨d0 (gV (off:=0) (k:=0) rfl tyF30_0) zU1,d0 (gC 2 1 rfl rfl rfl rfl (.one tyO24)) zU1,d0 (aL (.inl rfl)) zU1,d0 (bE rfl h44 rfl) zU2,d0 (nW (aL (.inl rfl)) h45) zU1,g0 (gV (off:=0) (k:=0) rfl tyF30_0) zU1,g0 (gC 1 1 rfl rfl rfl rfl (.one tyO24)) zU1,g0 (eR (C:=cI) (xs:=[.const (.int .i64 (2)),.const (.int .i64 (0))]) (ps:=[.vc (pI .i64 2),.vc (pI .i64 0)]) (zs:=[2,0]) rfl tyS22 rfl ⟨⟨trivial,rfl⟩,⟨trivial,rfl⟩,trivial⟩ rfl) ⟨qM _ _,qM _ _,trivial⟩,g0 (bE rfl h47 rfl) zU1,g0 (bE rfl h49 rfl) zU2,d0 (yA rfl) zU2,d0 (nW (aL (.inl rfl)) h50) zU1,⟨rfl,.skipN⟩,⟨rfl,.skipN⟩,⟨rfl,.skipN⟩,⟨rfl,.skipN⟩,⟨rfl,.skipN⟩,d0 (aBP rfl) ⟨rfl,k_B _,trivial⟩,d0 (aL (.inl rfl)) zU1,⟨rfl,.skipN⟩,⟨rfl,.skipN⟩,⟨rfl,.skipN⟩,⟨rfl,.skipN⟩,⟨rfl,.skipN⟩,d0 (aBP rfl) ⟨rfl,k_B _,trivial⟩,d0 (aL (.inr rfl)) zU1,trivial⟩ (fun bs42 G41=>?_)
  refine aT (aJ ?_)
  exact bI
 have hF:=tU h45 hF
 refine drb (0::1::0::7::15::31::63::31::159::511::1023::2047::4095::8191::4095::20479::65535::131071::262143::524287::524287::1572863::524287::8388607::16777215::33554431::[]) 26 0 ?_ (fun bs42 G41=>?_)
 refine aT (aJ ?_)
 exact bI
noncomputable def jX (K:Nat) (x44:List (List Rat)):Option Bool:=
 (mkL 9 0).bind fun x52=>(iL K x44 x52).bind fun v57=>bif(v57.2==4) then((qO K).bind fun v60=>some v60) else(some false)
noncomputable def cU (K:Nat):Nat→(List (List Rat))→Int→Option (List (List Rat))
 |0,_,_=>none
 |k+1,x37,x43=>bif(decide (x43<9)) then((mkL 9 0).bind fun x63=>(bF x37 x43).bind fun v68=>(qL x37 x43 x63).bind fun x70=>(aS (x43+1)).bind fun v73=>cU K k x70 v73) else(some x37)
noncomputable def jY (K:Nat):Option Bool:=
 (mkL 9 []).bind fun x25=>(cU K K x25 0).bind fun x44=>jX K x44
noncomputable def cT (K:Nat) (v1:(List (List Rat))×(List Rat)) (v5:(List (List Rat))×Int):Nat→Int→Option (LR Bool Unit)
 |0,_=>none
 |k+1,x22=>bif(decide (x22<(v5.1.length:Int))) then((bF v5.1 x22).bind fun v76=>(l4 K v1.1 v1.2 v76).bind fun v78=>bif(!v78) then(some (.ret false)) else((aS (x22+1)).bind fun v81=>cT K v1 v5 k v81)) else(some (.go ()))
noncomputable def mL (K:Nat) (a0:List Int) (a1:Int) (a2:Int):Option Bool:=
 (lJ K a0 5).bind fun v1=>(pA K v1.1 v1.2 a1 a2).bind fun v3=>(iL K v1.1 v1.2).bind fun v5=>(lB K v1.1 v1.2).bind fun v7=>(gG K v3.1 v3.2).bind fun v9=>(fJ K v3.1 v3.2).bind fun v11=>bif(v5.2 != v7.2) then(some false) else(bif(v9.2 != v11.2) then(some false) else((hZ K v5.1 v7.1).bind fun v15=>bif(!v15) then(some false) else((hZ K v9.1 v11.1).bind fun v18=>bif(!v18) then(some false) else((cT K v1 v5 K 0).bind fun o=>match o with| .ret r=>some r| .go _=>jY K))))
theorem z7 {K:Nat} {a0:List Int} {a1:Int} {a2:Int} {r:Bool} (hF:mL K a0 a1 a2=some r):Ct Tryz.prog 6 [.vc (pS cI a0),.vc (pI .i64 a1),.vc (pI .i64 a2)] (.vc (pB r)):=by
 unfold mL at hF
 refine aA Tryz.func6 rfl (by kernel_rfl) Tryz.ntmps6 rfl (fun w0 M0=>?_)
 obtain⟨v1,h2,hF⟩:=aW hF aBE
 obtain⟨v3,h4,hF⟩:=aW hF aAS
 obtain⟨v5,h6,hF⟩:=aW hF yG
 obtain⟨v7,h8,hF⟩:=aW hF aAF
 obtain⟨v9,h10,hF⟩:=aW hF aCd
 obtain⟨v11,h12,hF⟩:=aW hF aBL
 refine go ?_ ?_
 refine cC hF (fun h13 hF=>?_) (fun h13 hF=>?_)
 ·refine go ?_ ?_
  refine fV rfl ?_
  exact bI
 refine go ?_ ?_
 refine cC hF (fun h14 hF=>?_) (fun h14 hF=>?_)
 ·refine go ?_ ?_
  refine fV rfl ?_
  exact bI
 obtain⟨v15,h16,hF⟩:=aW hF yU
 refine go ?_ ?_
 refine cC hF (fun h17 hF=>?_) (fun h17 hF=>?_)
 ·refine go ?_ ?_
  refine fV rfl ?_
  exact bI
 obtain⟨v18,h19,hF⟩:=aW hF yU
 refine go ?_ ?_
 refine aB hF rfl (fun h20 hF=>?_) (fun h20 hF=>?_)
 ·exact bI
 refine go ?_ ?_
 refine aG (aP (fun H E=>jY K=some r∧H=[]∧E=[]) ?_ (fun Jj24=>?_))
 ·rintro _ _ ⟨hF,rfl,rfl⟩
  unfold jY at hF
  obtain⟨x25,h26,hF⟩:=aM hF
  refine go ?_ ?_
  refine nN (C:=(bJ cQ)) rfl tyS23 rfl tyZ24q (qM _ _) h26 (fun b27=>?_)
  refine go ?_ ?_
  refine aG (aP (fun H E=>∃(x44:List (List Rat)),jX K x44=some r∧x44.length=x25.length∧H=[hO (bJ cQ) b27 x25.length 24 x25.length x44]∧E=[(20,.vc (pO b27 x25.length x25.length))]) ?_ (fun Jj51=>?_))
  ·rintro _ _ ⟨x44,hF,q48,rfl,rfl⟩
   unfold jX at hF
   obtain⟨x52,h53,hF⟩:=aM hF
   refine go ?_ ?_
   refine nN (C:=cQ) rfl tyS24 rfl tyZ42q (qM _ _) h53 (fun b54=>?_)
   refine tV 1 [20,105] rfl q48 zU2 rfl ?_
   refine tV 0 [106] rfl rfl zU1 rfl ?_
   obtain⟨v57,h58,hF⟩:=aW hF yG
   refine go ?_ ?_
   refine cC hF (fun h59 hF=>?_) (fun h59 hF=>?_)
   ·obtain⟨v60,h61,hF⟩:=aW hF aCD
    exact bI
   exact bI
  obtain⟨x44',hL,hRl50⟩:=aM hF
  refine cA (fun k a w=>∃(x37:List (List Rat)),∃(x43:Int),cU K k x37 x43=some x44'∧x37.length=x25.length∧hs _ [hO (bJ cQ) b27 x25.length 24 x25.length x37] [(20,.vc (pO b27 x25.length x25.length)),(21,.vc (pI .i64 x43))] a w) K (fun a w ⟨_,_,hF,_,_⟩=>by cases hF) (fun k a w ⟨x37,x43,hF,q41,hh⟩=>b0 ?_ hh) (fun a w hh=>⟨x25,0,hL,rfl,dI [0] hh⟩)
  rw [cU.eq_2] at hF
  refine go ?_ ?_
  refine aB hF rfl (fun h62 hF=>?_) (fun h62 hF=>?_)
  ·refine go ?_ ?_
   refine aG ?_
   obtain⟨x63,h64,hF⟩:=aM hF
   refine go ?_ ?_
   refine nN (C:=cQ) rfl tyS24 rfl tyZ42q (qM _ _) h64 (fun b65=>?_)
   obtain⟨v68,h69,hF⟩:=aM hF
   refine aI (cY (C:=(bJ cQ)) 1 rfl tyS23 rfl q41 (aD h69).1 (aD h69).2.1) zU2 ?_
   refine tV 0 [102] rfl rfl zU1 rfl ?_
   obtain⟨x70,h71,v73,h74,hF⟩:=tW hF
   refine go ?_ ?_
   exact aF (fun a w hh=>⟨x70,v73,hF,(bC h71 q41),dI [0] hh⟩)
  refine aV ?_
  obtain rfl:=eP hF
  exact nK Jj51 ⟨x37,hRl50,q41,rfl,rfl⟩ [0]
 obtain⟨ol23,hL,hRl23⟩:=aM hF
 refine cA (fun k a w=>∃(x22:Int),cT K v1 v5 k x22=some ol23∧hs _ [] [(7,.vc (pS (bJ cQ) v1.1)),(8,.vc (pS cQ v1.2)),(11,.vc (pS (bJ cQ) v5.1)),(19,.vc (pI .i64 x22))] a w) K (fun a w ⟨_,hF,_⟩=>by cases hF) (fun k a w ⟨x22,hF,hh⟩=>b0 ?_ hh) (fun a w hh=>⟨0,hL,dI [] hh⟩)
 rw [cT.eq_2] at hF
 refine go ?_ ?_
 refine aB hF rfl (fun h75 hF=>?_) (fun h75 hF=>?_)
 ·refine go ?_ ?_
  refine aG ?_
  obtain⟨v76,h77,hF⟩:=aM hF
  obtain⟨v78,h79,hF⟩:=aW hF w4
  refine go ?_ ?_
  refine aB hF rfl (fun h80 hF=>?_) (fun h80 hF=>?_)
  ·exact bI
  obtain⟨v81,h82,hF⟩:=aM hF
  refine go ?_ ?_
  exact aF (fun a w hh=>⟨v81,hF,dI [] hh⟩)
 refine aV ?_
 obtain rfl:=eP hF
 exact nK Jj24 ⟨hRl23,rfl,rfl⟩ []
end Go.Proofs.YtolfcbpgmfbgmaaGreat
set_option linter.unusedVariables false
set_option maxRecDepth 100000
namespace Go.Proofs.YtolfcbpgmfbgmaaGreat
end Go.Proofs.YtolfcbpgmfbgmaaGreat
set_option linter.unusedVariables false
namespace Go.Proofs.YtolfcbpgmfbgmaaGreat
theorem aLK {q:Int} (h:0<q):(⟨true,(Z q).d⟩:aE)=Z (-q):=by
 have e1:(Z (-q)).d=(Z q).d:=by rw [Z_d,Z_d,Int.natAbs_neg]
 have e2:(Z (-q)).neg=true:=by rw [uA];exact decide_eq_true (by omega)
 cases hz:Z (-q) with
 |mk ng dd=>
  rw [hz] at e1 e2
  simp only at e1 e2
  rw [e1,e2]
theorem aPx:Ev (fun K=>jE K ⟨true,[]⟩) false:=⟨2,fun K hK=>by
 obtain⟨k,rfl⟩:=Nat.exists_eq_add_of_le hK
 rw [Nat.add_comm]
 rfl⟩
theorem aNa:Ev (fun K=>eF K ⟨true,[]⟩) false:=⟨2,fun K hK=>by
 obtain⟨k,rfl⟩:=Nat.exists_eq_add_of_le hK
 rw [Nat.add_comm]
 rfl⟩
theorem aME {a:Rat} (ha:qs a=true):Ev (fun K=>jK K ⟨(Qr a).p,⟨true,(Qr a).q.d⟩⟩) false:=by
 obtain⟨a1,a2⟩:=uN ha
 obtain⟨q1,q2,q3,q4⟩:=@aFL a
 rw [aJb]
 generalize(if a.den=1 then(0:Int) else a.den)=q at *
 unfold jK
 refine Ev.bind (aIf (by omega)) ?_
 simp only [Bool.not_true,bM]
 by_cases h:q=0
 ·subst h
  have e:(Z 0).d=[]:=by rw [Z0]
  rw [e]
  refine Ev.bind aPx ?_
  simp only [Bool.not_false,bS];exact Ev.pure _
 ·rw [aLK (by omega)]
  refine Ev.bind (aIf (by rw [Int.natAbs_neg];omega)) ?_
  simp only [Bool.not_true,bM,uA,dT (show -q<0 by omega),bS];exact Ev.pure _
theorem aKn {a:Rat} (ha:qs a=true):Ev (fun K=>bP K ⟨(Qr a).p,⟨true,(Qr a).q.d⟩⟩) false:=by
 obtain⟨a1,a2⟩:=uN ha
 obtain⟨q1,q2,q3,q4⟩:=@aFL a
 rw [aJb]
 generalize(if a.den=1 then(0:Int) else a.den)=q at *
 unfold bP
 refine Ev.bind (aFt (by omega)) ?_
 simp only [Bool.not_true,bM]
 by_cases h:q=0
 ·subst h
  have e:(Z 0).d=[]:=by rw [Z0]
  rw [e]
  refine Ev.bind aNa ?_
  simp only [Bool.not_false,bS];exact Ev.pure _
 ·rw [aLK (by omega)]
  refine Ev.bind (aFt (by rw [Int.natAbs_neg];omega)) ?_
  simp only [Bool.not_true,bM,uA,dT (show -q<0 by omega),bS];exact Ev.pure _
theorem aEL {xs:List Int} {i:Nat}:(xs++[0]).getD i 0=if i<xs.length then xs.getD i 0 else 0:=by
 simp only [List.getD_eq_getElem?_getD]
 by_cases h:i<xs.length
 ·rw [if_pos h,List.getElem?_append_left h]
 ·rw [if_neg h,List.getElem?_append_right (by omega)]
  cases hi:i-xs.length with
  |zero=>rfl
  |succ j=>rfl
theorem aJE {xs:List Int} (h:lV xs):lV (xs++[0]):=fun i=>by
 rw [aEL]
 split
 ·exact h i
 ·omega
theorem aOU {ng:Bool} {xs:List Int} (hd:lV xs) (hl:xs.length≤8000000000000):Ev (fun K=>jE K ⟨ng,xs++[0]⟩) false:=by
 refine⟨xs.length+2,fun K hK=>?_⟩
 have hlen:(xs++[(0:Int)]).length=xs.length+1:=by simp
 have hc:f8 K (xs++[0]) jV=some false:=by
  unfold f8 mR
  have:=aGN (aJE hd) (by omega) K (xs.length+1) 0 (by omega) K (by omega)
  rw [show((0:Nat):Int)=0 from rfl] at this
  rw [this]
  rfl
 show jE K ⟨ng,xs++[0]⟩=some false
 unfold jE
 simp only [hc,oB,bM,hlen]
 rw [qF (show¬((xs.length+1:Nat):Int)=0 by omega),bM,dT (by omega),bS,show((xs.length+1:Nat):Int)-1=((xs.length:Nat):Int) by omega,aDM (by omega) (by omega),oB,bZ (by omega),oB,aEL,if_neg (by omega)]
 rfl
theorem aOz {g:aE} (hd:lV g.d) (hl:g.d.length≤9000000000000) (K:Nat):∀(m i:Nat),i+m=g.d.length→∀k,m<k→dG K g k i=some (.go ())
 |0,i,h,k+1,_=>by
  simp only [dG]
  rw [dF (by omega),bM]
 |m+1,i,h,k+1,hk=>by
  have hx:=hd i
  simp only [dG]
  rw [dT (by omega),bS,bZ (by omega),oB,dF (by omega),bM,oB,dF (by omega),bM,show((i:Nat):Int)+1=((i+1:Nat):Int) by omega,aDM (by omega) (by omega),oB]
  exact aOz hd hl K m (i+1) (by omega) k (by omega)
theorem aNv {ng:Bool} {xs:List Int} (hd:lV xs) (hl:xs.length≤8000000000000):Ev (fun K=>eF K ⟨ng,xs++[0]⟩) false:=by
 refine⟨xs.length+2,fun K hK=>?_⟩
 have hlen:(xs++[(0:Int)]).length=xs.length+1:=by simp
 have:=aOz (g:=⟨ng,xs++[0]⟩) (aJE hd) (by show(xs++[(0:Int)]).length≤_;omega) K (xs.length+1) 0 (by show 0+(xs.length+1)=(xs++[(0:Int)]).length;omega) K (by omega)
 rw [show((0:Nat):Int)=0 from rfl] at this
 show eF K ⟨ng,xs++[0]⟩=some false
 unfold eF
 rw [this]
 show iW K ⟨ng,xs++[0]⟩=some false
 unfold iW
 simp only [hlen]
 rw [qF (show¬((xs.length+1:Nat):Int)=0 by omega),bM,show((xs.length+1:Nat):Int)-1=((xs.length:Nat):Int) by omega,aDM (by omega) (by omega),oB,bZ (by omega),oB,aEL,if_neg (by omega)]
 rfl
theorem aKu {a:Rat} (ha:qs a=true):Ev (fun K=>jK K ⟨⟨(Qr a).p.neg,(Qr a).p.d++[0]⟩,(Qr a).q⟩) false:=by
 obtain⟨a1,a2⟩:=uN ha
 rw [aJb]
 unfold jK
 refine Ev.bind (aOU (bN _) (by show dl _≤_;omega)) ?_
 simp only [Bool.not_false,bS];exact Ev.pure _
theorem aJq {a:Rat} (ha:qs a=true):Ev (fun K=>bP K ⟨⟨(Qr a).p.neg,(Qr a).p.d++[0]⟩,(Qr a).q⟩) false:=by
 obtain⟨a1,a2⟩:=uN ha
 rw [aJb]
 unfold bP
 refine Ev.bind (aNv (bN _) (by show dl _≤_;omega)) ?_
 simp only [Bool.not_false,bS];exact Ev.pure _
theorem aNS {a b:Rat}:(⟨(Qr a).p,⟨true,(Qr a).q.d⟩⟩:aK)≠Qr b:=fun h=>by
 have e:=congrArg (fun x:aK=>x.q.neg) h
 simp only [aJb b,uA] at e
 have q2:=(@aFL b).2.1
 have:=of_decide_eq_true e.symm
 omega
theorem aMN {a b:Rat}:(⟨⟨(Qr a).p.neg,(Qr a).p.d++[0]⟩,(Qr a).q⟩:aK)≠Qr b:=fun h=>by
 have e:=congrArg (fun x:aK=>x.p.d) h
 simp only [aJb b,Z_d] at e
 have hl:dl b.num.natAbs=((Qr a).p.d).length+1:=by
  show(bO b.num.natAbs).length=_
  rw [←e];simp
 have ht:=aGA (n:=b.num.natAbs) (by omega)
 rw [hl,←e,aEL,if_neg (by omega)] at ht
 exact ht rfl
end Go.Proofs.YtolfcbpgmfbgmaaGreat
set_option linter.unusedVariables false
namespace Go.Proofs.YtolfcbpgmfbgmaaGreat
theorem aAs {x m:Int} (hx:-9223372036854775808≤x∧x≤9223372036854775807) (hm:0<m):∃r,dO x m=some r∧0≤r∧r<m:=by
 unfold dO
 by_cases h:x<0
 ·refine⟨(-(x+1))%m,?_,Int.emod_nonneg _ (by omega),Int.emod_lt_of_pos _ hm⟩
  rw [dT h,bS,vX (by omega),oB,vX (by omega),oB,u5 (by omega) hm,oB]
 ·refine⟨x%m,?_,Int.emod_nonneg _ (by omega),Int.emod_lt_of_pos _ hm⟩
  rw [dF h,bM,u5 (by omega) hm,oB]
theorem aGz {l:List Int} (hl:aCa l) (i:Int) {m:Int} (hm:0<m):∃r,cF l i m=some r∧0≤r∧r<m:=by
 unfold cF
 by_cases h:i<0
 ·exact⟨0,by rw [dT h,bS],by omega,hm⟩
 ·rw [dF h,bM]
  by_cases h2:(l.length:Int)≤i
  ·exact⟨0,by rw [dT h2,bS],by omega,hm⟩
  ·rw [dF h2,bM]
   obtain⟨n,rfl⟩:∃n:Nat,i=n:=⟨i.toNat,by omega⟩
   obtain⟨x,hx,_,hr⟩:=rdM (xs:=l) (i:=n) (by omega)
   obtain⟨r,h3,h4,h5⟩:=aAs (hl x hx) hm
   exact⟨r,by rw [hr,oB,h3,oB],h4,h5⟩
theorem aNM {a m:Int} (h:0≤a) (hm:0<m):0≤a%m∧a%m<m:=⟨Int.emod_nonneg _ (by omega),Int.emod_lt_of_pos _ hm⟩
def Bds (k:Nat) (xs:List Rat):Prop:=∀x∈xs,Bd k x
theorem Bds.snoc {k:Nat} {xs:List Rat} {x:Rat} (h:Bds k xs) (hx:Bd k x):Bds k (xs++[x]):=fun y hy=>by
 rcases List.mem_append.1 hy with h1|h1
 ·exact h y h1
 ·rw [List.mem_singleton.1 h1];exact hx
theorem apS {α:Type} {xs:List α} {x:α} (h:xs.length≤60000000000):oG xs [x]=some (xs++[x]):=xM (by simp;omega)
theorem rdD {α:Type} {xs:List α} {i:Nat} (d:α) (h:i<xs.length):bF xs (i:Int)=some (xs.getD i d):=by
 rw [rdG (x:=xs.getD i d)]
 simp [List.getD_eq_getElem?_getD,h]
def at' (l:List Rat) (i:Nat):Rat:=l.getD i 0
theorem aIj {l:List Rat} {i:Nat} (h:i<l.length):bF l (i:Int)=some (at' l i):=rdD _ h
theorem aCi {l:List Rat} {i:Nat} (h:i<l.length):at' l i∈l:=by
 have:at' l i=l[i]:=by unfold at';simp [List.getD_eq_getElem?_getD,h]
 rw [this];exact List.getElem_mem h
theorem aRE:((1:Int):Rat)/((1:Int):Rat)=1:=by decide+kernel
def mp {α:Type} (g:Nat→α) (n:Nat):List α:=(List.range n).map g
theorem tX {α:Type} (g:Nat→α):mp g 0=[]:=rfl
theorem aBD {α:Type} (g:Nat→α) (n:Nat):mp g (n+1)=mp g n++[g n]:=by unfold mp;rw [List.range_succ,List.map_append];rfl
theorem aZ {α:Type} (g:Nat→α) (n:Nat):(mp g n).length=n:=by simp [mp]
theorem zF {α:Type} {g:Nat→α} {n i:Nat} (h:i<n):(mp g n)[i]?=some (g i):=by simp [mp,h]
theorem aP2 {g:Nat→Rat} {n i:Nat} (h:i<n):at' (mp g n) i=g i:=by
 unfold at' mp
 simp [List.getD_eq_getElem?_getD,h]
theorem y8 {g:Nat→Rat} {n k:Nat} (h:∀i,i<n→Bd k (g i)):Bds k (mp g n):=fun x hx=>by
 obtain⟨i,hi,rfl⟩:=List.mem_map.1 hx
 exact h i (List.mem_range.1 hi)
theorem apM {α:Type} {g:Nat→α} {i:Nat} (h:i≤1000000):oG (mp g i) [g i]=some (mp g (i+1)):=by rw [aBD];exact apS (by rw [aZ];omega)
theorem tA {α:Type} {f g:Nat→α} {n:Nat} (h:∀i,i<n→f i=g i):mp f n=mp g n:=by
 unfold mp
 exact List.map_congr_left fun i hi=>h i (List.mem_range.1 hi)
def wS {α:Type} (f:Nat→α) (i:Nat) (v:α) (j:Nat):α:=if j=i then v else f j
theorem eH {α:Type} {f:Nat→α} {i:Nat} {v:α}:wS f i v i=v:=if_pos rfl
theorem l5 {α:Type} {f:Nat→α} {i j:Nat} {v:α} (h:j≠i):wS f i v j=f j:=if_neg h
theorem aJ9 {α:Type} {f:Nat→α} {n i:Nat} {v:α}:(mp f n).set i v=mp (wS f i v) n:=by
 apply List.ext_getElem?
 intro j
 by_cases hj:j<n
 ·rw [List.getElem?_set,zF hj,aZ,zF hj]
  by_cases he:i=j
  ·subst he;rw [if_pos rfl,if_pos hj,eH]
  ·rw [if_neg he,l5 (by omega)]
 ·rw [List.getElem?_eq_none (by simp [mp];omega),List.getElem?_eq_none (by simp [mp];omega)]
theorem lX {α:Type} {f:Nat→α} {n i:Nat} (h:i<n):bF (mp f n) (i:Int)=some (f i):=rdG (zF h)
theorem aEm {α:Type} {f:Nat→α} {n i:Nat} {v:α} (h:i<n):qL (mp f n) (i:Int) v=some (mp (wS f i v) n):=by
 rw [stG (by rw [aZ];exact h),aJ9]
theorem aOC {α:Type} (z:α):∀n,List.replicate n z=mp (fun _=>z) n
 |0=>rfl
 |n+1=>by rw [aBD,←aOC z n,List.replicate_succ']
theorem aHN {α:Type} {n:Nat} {z:α} (h:n≤68719476736):mkL (n:Int) z=some (mp (fun _=>z) n):=by rw [aBM h,aOC]
theorem aSX {α:Type} {f:Nat→α} {n i:Nat} (h:i≤n):slL (mp f n) (i:Int) (n:Int)=some (mp (fun j=>f (i+j)) (n-i)):=by
 unfold slL
 rw [if_pos ⟨by omega,by omega,by rw [aZ];omega⟩]
 congr 1
 apply List.ext_getElem?
 intro j
 simp only [Int.toNat_natCast]
 rw [List.getElem?_take,List.getElem?_drop]
 by_cases hj:j<n-i
 ·rw [if_pos hj,zF hj,zF (by omega)]
 ·rw [if_neg hj,List.getElem?_eq_none (by simp [mp];omega)]
theorem uL {i:Nat} (h:i≤1000000000):aS ((i:Int)+1)=some ((i+1:Nat):Int):=ckN (m:=0) (n:=i+1) (by omega) (by omega)
theorem aCy {a:Rat}:a.num.sign=0↔a=0:=by rw [Int.sign_eq_zero_iff_zero,Rat.num_eq_zero]
def sm (f:Nat→Rat):Nat→Rat
 |0=>0
 |n+1=>sm f n+f n
end Go.Proofs.YtolfcbpgmfbgmaaGreat
set_option linter.unusedVariables false
namespace Go.Proofs.YtolfcbpgmfbgmaaGreat
/-- A matrix of h rows and w columns. -/
def mx (g:Nat→Nat→Rat) (h w:Nat):List (List Rat):=mp (fun i=>mp (g i) w) h
theorem aGu {g g':Nat→Nat→Rat} {h w:Nat} (e:∀i c,i<h→c<w→g i c=g' i c):mx g h w=mx g' h w:=
 tA fun i hi=>tA fun c hc=>e i c hi hc
theorem aRh {g:Nat→Nat→Rat} {h w i:Nat} {f:Nat→Rat}:mp (wS (fun i=>mp (g i) w) i (mp f w)) h=mx (wS g i f) h w:=by
 refine tA fun j _=>?_
 unfold wS
 split<;>rfl
theorem aQO {g:Nat→Nat→Rat} {h w i:Nat} {f:Nat→Rat} (hi:i<h):qL (mx g h w) (i:Int) (mp f w)=some (mx (wS g i f) h w):=by
 unfold mx
 rw [aEm hi,aRh];rfl
theorem zG {g:Nat→Nat→Rat} {h w i:Nat} (hi:i<h):bF (mx g h w) (i:Int)=some (mp (g i) w):=lX hi
theorem gN {g:Nat→Nat→Rat} {h w:Nat}:(mx g h w).length=h:=aZ _ _
def yW (h w b:Nat) (g:Nat→Nat→Rat):Prop:=∀i c,i<h→c<w→Bd b (g i c)
theorem yW.mono {h w b b':Nat} {g:Nat→Nat→Rat} (hg:yW h w b g) (hb:b≤b'):yW h w b' g:=fun i c hi hc=>(hg i c hi hc).mono hb
def piv (g:Nat→Nat→Rat) (k:Nat):Nat→Nat→Nat
 |0,i=>i
 |t+1,i=>if g i k=0 then piv g k t (i+1) else i
theorem aD6 {g:Nat→Nat→Rat} {k:Nat}:∀(t i:Nat),i≤piv g k t i∧piv g k t i≤i+t
 |0,i=>⟨Nat.le_refl _,Nat.le_refl _⟩
 |t+1,i=>by
  have h:=aD6 (g:=g) (k:=k) t (i+1)
  unfold piv
  split<;>omega
theorem aNb {g:Nat→Nat→Rat} {k:Nat}:∀(t i j:Nat),i≤j→j<piv g k t i→g j k=0
 |0,i,j,h1,h2=>by simp only [piv] at h2;omega
 |t+1,i,j,h1,h2=>by
  unfold piv at h2
  split at h2
  ·rename_i hz
   by_cases he:j=i
   ·rw [he];exact hz
   ·exact aNb t (i+1) j (by omega) h2
  ·omega
theorem aHi {g:Nat→Nat→Rat} {k:Nat}:∀(t i:Nat),piv g k t i<i+t→g (piv g k t i) k≠0
 |0,i,h=>by simp only [piv] at h;omega
 |t+1,i,h=>by
  unfold piv at h ⊢
  split at h
  ·rename_i hz
   rw [if_pos hz]
   exact aHi t (i+1) (by omega)
  ·rename_i hz
   rw [if_neg hz];exact hz
def yV (g:Nat→Nat→Rat) (n at0 i:Nat):Nat→Rat:=g (if i=n then at0 else if i=at0 then n else i)
def pr (g:Nat→Nat→Rat) (at0 k c:Nat):Rat:=g at0 c/g at0 k
def stp (g:Nat→Nat→Rat) (n at0 k i c:Nat):Rat:=if i=n then pr g at0 k c else yV g n at0 i c-yV g n at0 i k*pr g at0 k c
structure RS where
 ps:List Nat
 g:Nat→Nat→Rat
 d:Rat
def aA5 (h k:Nat) (s:RS):RS:=
 if piv s.g k (h-s.ps.length) s.ps.length=h then s
 else⟨s.ps++[k],stp s.g s.ps.length (piv s.g k (h-s.ps.length) s.ps.length) k,(if piv s.g k (h-s.ps.length) s.ps.length=s.ps.length then s.d else -s.d)*s.g (piv s.g k (h-s.ps.length) s.ps.length) k⟩
def xH (g:Nat→Nat→Rat) (h:Nat):Nat→RS
 |0=>⟨[],g,1⟩
 |k+1=>aA5 h k (xH g h k)
structure RI (h w b k:Nat) (s:RS):Prop where
 ph:s.ps.length≤h
 pk:∀j,j∈s.ps→j<k
 z:∀i c,s.ps.length≤i→i<h→c<k→s.g i c=0
 bd:yW h w (5^k*b) s.g
 bdd:Bd (5^k*b) s.d
theorem aLZ {g:Nat→Nat→Rat} {h w b at0 k c:Nat} (hg:yW h w b g) (ha:at0<h) (hk:k<w) (hc:c<w):Bd (b+b) (pr g at0 k c):=(hg _ _ ha hc).div (hg _ _ ha hk)
theorem aGE {h n at0 i:Nat} (hn:n<h) (ha:at0<h) (hi:i<h):(if i=n then at0 else if i=at0 then n else i)<h:=by split;exact ha;split;exact hn;exact hi
theorem aKa {g:Nat→Nat→Rat} {h w b n at0 i c:Nat} (hg:yW h w b g) (hn:n<h) (ha:at0<h) (hi:i<h) (hc:c<w):Bd b (yV g n at0 i c):=hg _ _ (aGE hn ha hi) hc
theorem aRg {g:Nat→Nat→Rat} {h w b n at0 k:Nat} (hg:yW h w b g) (hb:1≤b) (hn:n<h) (ha:at0<h) (hk:k<w):yW h w (5*b) (stp g n at0 k):=fun i c hi hc=>by
 unfold stp
 split
 ·exact(aLZ hg ha hk hc).mono (by omega)
 ·exact((aKa hg hn ha hi hc).sub ((aKa hg hn ha hi hk).mul (aLZ hg ha hk hc))).mono (by omega)
theorem aJM (k b:Nat) (hb:2≤b):2≤5^k*b:=Nat.le_trans hb (Nat.le_mul_of_pos_left b (Nat.pow_pos (by omega)))
theorem aMA {h w b k:Nat} {s:RS} (hs:RI h w b k s) (hb:2≤b) (hk:k<w):RI h w b (k+1) (aA5 h k s):=by
 have hp:=aD6 (g:=s.g) (k:=k) (h-s.ps.length) s.ps.length
 have hl:s.ps.length+(h-s.ps.length)=h:=by have:=hs.ph;omega
 have h5:5^(k+1)*b=5*(5^k*b):=by rw [Nat.pow_succ,Nat.mul_comm (5^k) 5,Nat.mul_assoc]
 have hb':=aJM k b hb
 unfold aA5
 split
 ·rename_i hat
  refine⟨hs.ph,fun j hj=>Nat.lt_succ_of_lt (hs.pk j hj),fun i c hi hh hc=>?_,hs.bd.mono (by omega),hs.bdd.mono (by omega)⟩
  by_cases he:c=k
  ·subst he;exact aNb (h-s.ps.length) s.ps.length i hi (by omega)
  ·exact hs.z i c hi hh (by omega)
 ·rename_i hat
  have hlt:piv s.g k (h-s.ps.length) s.ps.length<h:=by omega
  have hne:=aHi (g:=s.g) (k:=k) (h-s.ps.length) s.ps.length (by omega)
  generalize ha:piv s.g k (h-s.ps.length) s.ps.length=at0 at *
  refine⟨by simp only [List.length_append,List.length_singleton];omega,fun j hj=>?_,fun i c hi hh hc=>?_,?_,?_⟩
  ·simp only [List.mem_append,List.mem_singleton] at hj
   rcases hj with hj|hj
   ·exact Nat.lt_succ_of_lt (hs.pk j hj)
   ·omega
  ·simp only [List.length_append,List.length_singleton] at hi
   have hz:∀c',c'<k→s.g at0 c'=0:=fun c' hc'=>hs.z at0 c' hp.1 hlt hc'
   show stp s.g s.ps.length at0 k i c=0
   unfold stp
   rw [if_neg (by omega)]
   by_cases he:c=k
   ·subst he
    unfold pr
    rw [Rat.div_def,Rat.mul_inv_cancel _ hne,Rat.mul_one,Rat.sub_self]
   ·unfold pr
    rw [hz c (by omega)]
    have:yV s.g s.ps.length at0 i c=0:=by
     unfold yV
     rw [if_neg (by omega)]
     split
     ·exact hs.z _ c (Nat.le_refl _) (by omega) (by omega)
     ·exact hs.z _ c (by omega) hh (by omega)
    rw [this]
    grind
  ·rw [h5]
   exact aRg hs.bd (by omega) (by omega) hlt hk
  ·rw [h5]
   refine Bd.mono (Bd.mul (m:=5^k*b) ?_ (hs.bd _ _ hlt hk)) (by omega)
   split
   ·exact hs.bdd
   ·exact hs.bdd.neg
theorem aEP {g:Nat→Nat→Rat} {h w b:Nat} (hg:yW h w b g) (hb:2≤b):∀k,k≤w→RI h w b k (xH g h k)
 |0,_=>⟨Nat.zero_le _,fun j hj=>by simp [xH] at hj,fun i c _ _ hc=>absurd hc (by omega),by simpa [xH] using hg,by
   have:Bd 2 1:=by constructor<;>decide
   simpa [xH] using this.mono hb⟩
 |k+1,hk=>aMA (aEP hg hb k (by omega)) hb (by omega)
theorem aJO {f:Nat→Rat} {w b:Nat} {d:Rat} (hf:∀c,c<w→Bd b (f c)) (hd:Bd b d) (hb:b≤1073741824) (hw:w≤1000) (K:Nat):∀(t i k:Nat),i+t=w→t<k→jA K (mp f w) d k (mp (fun c=>f c/d) i) (i:Int)=some (mp (fun c=>f c/d) w)
 |0,i,k,hi,hk=>by
  have:i=w:=by omega
  subst this
  obtain⟨k',rfl,_⟩:=aY hk
  simp only [jA,aZ,dF (show¬(i:Int)<(i:Int) by omega),bM]
 |t+1,i,k,hi,hk=>by
  obtain⟨k',rfl,_⟩:=aY hk
  simp only [jA,aZ,dT (show(i:Int)<(w:Int) by omega),bS,lX (f:=f) (show i<w by omega),aLP (hf i (by omega)) hd hb hb,oB,apM (g:=fun c=>f c/d) (i:=i) (by omega),uL (i:=i) (by omega)]
  exact aJO hf hd hb hw K t (i+1) k' (by omega) (by omega)
theorem aO7 {f:Nat→Rat} {w b:Nat} {d:Rat} (hf:∀c,c<w→Bd b (f c)) (hd:Bd b d) (hb:b≤1073741824) (hw:w≤1000) {K:Nat} (hK:w<K):rX K (mp f w) d=some (mp (fun c=>f c/d) w):=by
 have:=aJO hf hd hb hw K w 0 K (by omega) hK
 simp only [Int.natCast_zero,tX] at this
 simp only [rX,this,oB,q9]
theorem aIM {f e:Nat→Rat} {w b b':Nat} {d:Rat} (hf:∀c,c<w→Bd b (f c)) (he:∀c,c<w→Bd b' (e c)) (hd:Bd b d) (hb:b+b+b'≤1073741824) (hw:w≤1000) (K:Nat):∀(t i k:Nat),i+t=w→t<k→jB K (mp f w) (mp e w) d k (mp (fun c=>f c-d*e c) i) (i:Int)=some (mp (fun c=>f c-d*e c) w)
 |0,i,k,hi,hk=>by
  have:i=w:=by omega
  subst this
  obtain⟨k',rfl,_⟩:=aY hk
  simp only [jB,aZ,dF (show¬(i:Int)<(i:Int) by omega),bM]
 |t+1,i,k,hi,hk=>by
  obtain⟨k',rfl,_⟩:=aY hk
  simp only [jB,aZ,dT (show(i:Int)<(w:Int) by omega),bS,lX (f:=f) (show i<w by omega),lX (f:=e) (show i<w by omega),aC1 hd (he i (by omega)) (by omega) (by omega),aLR (hf i (by omega)) (hd.mul (he i (by omega))) (by omega) (by omega),oB,apM (g:=fun c=>f c-d*e c) (i:=i) (by omega),uL (i:=i) (by omega)]
  exact aIM hf he hd hb hw K t (i+1) k' (by omega) (by omega)
theorem aPf {f e:Nat→Rat} {w b b':Nat} {d:Rat} (hf:∀c,c<w→Bd b (f c)) (he:∀c,c<w→Bd b' (e c)) (hd:Bd b d) (hb:b+b+b'≤1073741824) (hw:w≤1000) {K:Nat} (hK:w<K):oI K (mp f w) (mp e w) d=some (mp (fun c=>f c-d*e c) w):=by
 have:=aIM hf he hd hb hw K w 0 K (by omega) hK
 simp only [Int.natCast_zero,tX] at this
 simp only [oI,this,oB,rA]
theorem aLv {g:Nat→Nat→Rat} {h w b c:Nat} (hg:yW h w b g) (hb:b≤1073741824) (hh:h≤1000) (hc:c<w) (K:Nat):∀(t i k:Nat),i+t=h→t<k→f7 K (mx g h w) (c:Int) k (i:Int)=some ((piv g c t i:Nat):Int)
 |0,i,k,hi,hk=>by
  have:i=h:=by omega
  subst this
  obtain⟨k',rfl,_⟩:=aY hk
  simp only [f7,gN,dF (show¬(i:Int)<(i:Int) by omega),bM,piv]
 |t+1,i,k,hi,hk=>by
  obtain⟨k',rfl,_⟩:=aY hk
  have hx:=hg i c (by omega) hc
  have hm:min (i:Int) ((h:Int)-1)=(i:Int):=by omega
  simp only [f7,gN,dT (show(i:Int)<(h:Int) by omega),bS,vX (x:=(h:Int)-1) (by omega),oB,hm,zG (g:=g) (w:=w) (show i<h by omega),lX (f:=g i) hc,uS hx hb,piv]
  by_cases hz:g i c=0
  ·simp only [qT (aCy.2 hz),bS,if_pos hz,uL (i:=i) (by omega),oB]
   exact aLv hg hb hh hc K t (i+1) k' (by omega) (by omega)
  ·simp only [qF (fun h=>hz (aCy.1 h)),bM,if_neg hz]
theorem aLJ {s:Nat→Nat→Rat} {e:Nat→Rat} {h w b b' c:Nat} (hs:yW h w b s) (he:∀j,j<w→Bd b' (e j)) (hb:b+b+b'≤1073741824) (hh:h≤1000) (hw:w≤1000) (hc:c<w) {K:Nat} (hK:w<K):∀(t i k:Nat),i+t=h→t<k→
  gB K (c:Int) (mp e w) k (mx (fun j x=>if j<i then s j x-s j c*e x else s j x) h w) (i:Int)=some (mx (fun j x=>s j x-s j c*e x) h w)
 |0,i,k,hi,hk=>by
  have:i=h:=by omega
  subst this
  obtain⟨k',rfl,_⟩:=aY hk
  simp only [gB,gN,dF (show¬(i:Int)<(i:Int) by omega),bM]
  rw [aGu fun j x hj hx=>if_pos hj]
 |t+1,i,k,hi,hk=>by
  obtain⟨k',rfl,_⟩:=aY hk
  have e1:(fun x=>if i<i then s i x-s i c*e x else s i x)=s i:=by funext x;exact if_neg (Nat.lt_irrefl _)
  have r1:=zG (g:=fun j x=>if j<i then s j x-s j c*e x else s j x) (w:=w) (show i<h by omega)
  simp only [e1] at r1
  simp only [gB,gN,dT (show(i:Int)<(h:Int) by omega),bS,r1,oB,lX (f:=s i) hc,aPf (fun x hx=>hs i x (by omega) hx) he (hs i c (by omega) hc) hb hw hK,aQO (g:=fun j x=>if j<i then s j x-s j c*e x else s j x) (w:=w) (show i<h by omega),uL (i:=i) (by omega)]
  rw [aGu (g':=fun j x=>if j<i+1 then s j x-s j c*e x else s j x) fun j x hj hx=>?_]
  ·exact aLJ hs he hb hh hw hc hK t (i+1) k' (by omega) (by omega)
  ·by_cases hji:j=i
   ·subst hji;rw [eH,if_pos (by omega)]
   ·rw [l5 hji]
    by_cases hlt:j<i
    ·rw [if_pos hlt,if_pos (by omega)]
    ·rw [if_neg hlt,if_neg (by omega)]
def uJ (l:List Nat):List Int:=l.map fun(k:Nat)=>(k:Int)
theorem fU (l:List Nat):(uJ l).length=l.length:=by simp [uJ]
theorem aMB (l:List Nat) (k:Nat):uJ (l++[k])=uJ l++[(k:Int)]:=by simp [uJ]
theorem apI {l:List Nat} {k:Nat} (h:l.length≤1000000):oG (uJ l) [(k:Int)]=some (uJ (l++[k])):=by rw [aMB];exact apS (by rw [fU];omega)
theorem aL4 {i w b:Nat} (hi:i≤w):5^i*b≤5^w*b:=Nat.mul_le_mul_right b (Nat.pow_le_pow_right (by omega) hi)
theorem aLT {g:Nat→Nat→Rat} {h w n b:Nat} (hg:yW h w b g) (hb:2≤b) (hn:n≤w) (hB:5^n*b≤200000000) (hh:h≤1000) (hw:w≤1000) {K:Nat} (hK:w+h<K):∀(t i k:Nat),i+t=n→t<k→
  cW K (n:Int) k (uJ (xH g h i).ps) (mx (xH g h i).g h w) (i:Int)=some (uJ (xH g h n).ps,mx (xH g h n).g h w)
 |0,i,k,hi,hk=>by
  have:i=n:=by omega
  subst this
  obtain⟨k',rfl,_⟩:=aY hk
  simp only [cW,dF (show¬(i:Int)<(i:Int) by omega),bM]
 |t+1,i,k,hi,hk=>by
  obtain⟨k',rfl,_⟩:=aY hk
  have hs:=aEP hg hb i (by omega)
  have ih:=aLT hg hb hn hB hh hw hK t (i+1) k' (by omega) (by omega)
  have h5:5^i*b≤200000000:=Nat.le_trans (aL4 (by omega)) hB
  simp only [xH] at ih
  generalize xH g h i=s at *
  have hp:=aD6 (g:=s.g) (k:=i) (h-s.ps.length) s.ps.length
  have hl:s.ps.length+(h-s.ps.length)=h:=by have:=hs.ph;omega
  simp only [cW,dT (show(i:Int)<(n:Int) by omega),bS,fU,aLv hs.bd (by omega) hh (show i<w by omega) K (h-s.ps.length) s.ps.length K hl (by omega),oB,nU,gN]
  unfold aA5 at ih
  by_cases hat:piv s.g i (h-s.ps.length) s.ps.length=h
  ·rw [if_pos hat] at ih
   simp only [qT (show((piv s.g i (h-s.ps.length) s.ps.length:Nat):Int)=(h:Int) by omega),bS,uL (i:=i) (by omega),oB]
   exact ih
  ·rw [if_neg hat] at ih
   have hlt:piv s.g i (h-s.ps.length) s.ps.length<h:=by omega
   generalize ha:piv s.g i (h-s.ps.length) s.ps.length=at0 at *
   have hov:=aO7 (f:=s.g at0) (d:=s.g at0 i) (fun c hc=>hs.bd at0 c hlt hc) (hs.bd at0 i hlt (by omega)) (by omega) hw (K:=K) (by omega)
   have hsb:yW h w (5^i*b) (wS s.g at0 (s.g s.ps.length)):=fun j c hj hc=>by
    by_cases he:j=at0
    ·rw [he,eH];exact hs.bd _ _ (by omega) hc
    ·rw [l5 he];exact hs.bd _ _ hj hc
   have h98:=aLJ (c:=i) hsb (fun j hj=>aLZ hs.bd hlt (show i<w by omega) hj) (by omega) hh hw (by omega) (K:=K) (by omega) h 0 K (by omega) (by omega)
   simp only [Int.natCast_zero,Nat.not_lt_zero,if_false] at h98
   simp only [qF (show¬((at0:Nat):Int)=(h:Int) by omega),bM,zG (g:=s.g) (w:=w) hlt,zG (g:=s.g) (w:=w) (show s.ps.length<h by omega),oB,lX (f:=s.g at0) (show i<w by omega),hov,aQO (g:=s.g) (w:=w) hlt]
   have hp':(mp (fun c=>s.g at0 c/s.g at0 i) w)=mp (pr s.g at0 i) w:=rfl
   rw [hp',h98]
   simp only [oB,nY,fU]
   rw [zG (show s.ps.length<h by omega)]
   simp only [oB]
   rw [aQO (show s.ps.length<h by omega)]
   simp only [oB,apI (k:=i) (l:=s.ps) (by have:=hs.ph;omega),uL (i:=i) (by omega)]
   rw [aGu (g':=stp s.g s.ps.length at0 i) fun j x hj hx=>?_]
   ·exact ih
   ·unfold stp
    by_cases he:j=s.ps.length
    ·rw [if_pos he,he,eH]
    ·rw [if_neg he,l5 he]
     have e2:wS s.g at0 (s.g s.ps.length) j=yV s.g s.ps.length at0 j:=by
      unfold wS yV
      rw [if_neg he]
      split<;>rfl
     rw [e2]
theorem aKv {g:Nat→Nat→Rat} {h w n b:Nat} (hg:yW h w b g) (hb:2≤b) (hn:n≤w) (hB:5^n*b≤200000000) (hh:h≤1000) (hw:w≤1000) {K:Nat} (hK:w+h<K):oC K (mx g h w) (n:Int)=some (mx (xH g h n).g h w,uJ (xH g h n).ps):=by
 have:=aLT hg hb hn hB hh hw hK n 0 K (by omega) (by omega)
 simp only [Int.natCast_zero,xH] at this
 have e:uJ []=[]:=rfl
 rw [e] at this
 have e2:oG ([]:List (List Rat)) (mx g h w)=some (mx g h w):=by rw [xM (by rw [gN,List.length_nil];omega),List.nil_append]
 simp only [oC,e2,oB,this,nP]
end Go.Proofs.YtolfcbpgmfbgmaaGreat
set_option linter.unusedVariables false
namespace Go.Proofs.YtolfcbpgmfbgmaaGreat
/-- The rows that the list of indices names, in a pool of rows. -/
structure Rep (ι:Nat→Nat) (pool:List (List Rat)) (g:Nat→Nat→Rat) (h w:Nat):Prop where
 inj:∀i j,i<h→j<h→ι i=ι j→i=j
 lt:∀i,i<h→ι i<pool.length
 el:∀i,i<h→pool.getD (ι i) []=mp (g i) w
theorem Rep.set {ι:Nat→Nat} {pool:List (List Rat)} {g:Nat→Nat→Rat} {h w i:Nat} (r:Rep ι pool g h w) (hi:i<h) (f:Nat→Rat):Rep ι (pool.set (ι i) (mp f w)) (wS g i f) h w:=by
 refine⟨r.inj,fun j hj=>by rw [List.length_set];exact r.lt j hj,fun j hj=>?_⟩
 rw [List.getD_eq_getElem?_getD,List.getElem?_set]
 by_cases he:j=i
 ·subst he
  rw [if_pos rfl,if_pos (r.lt j hj),eH];rfl
 ·rw [if_neg (fun h=>he (r.inj j i hj hi h.symm)),←List.getD_eq_getElem?_getD,r.el j hj,l5 he]
theorem Rep.congr {ι:Nat→Nat} {pool:List (List Rat)} {g g':Nat→Nat→Rat} {h w:Nat} (r:Rep ι pool g h w) (e:∀i c,i<h→c<w→g i c=g' i c):Rep ι pool g' h w:=
 ⟨r.inj,r.lt,fun i hi=>by rw [r.el i hi];exact tA fun c hc=>e i c hi hc⟩
theorem Rep.sel {ι:Nat→Nat} {pool:List (List Rat)} {g:Nat→Nat→Rat} {h w:Nat} (r:Rep ι pool g h w):w7 pool (mp ι h)=mx g h w:=by
 unfold w7 mx
 apply List.ext_getElem?
 intro j
 by_cases hj:j<h
 ·rw [List.getElem?_map,zF hj,zF hj,←r.el j hj];rfl
 ·rw [List.getElem?_map,List.getElem?_eq_none (by simp [mp];omega),List.getElem?_eq_none (by simp [mp];omega)];rfl
theorem Rep.swap {ι:Nat→Nat} {pool:List (List Rat)} {g:Nat→Nat→Rat} {h w n a:Nat} (r:Rep ι pool g h w) (hn:n<h) (ha:a<h) (hne:n≠a):Rep (wS (wS ι n (ι a)) a (ι n)) pool (yV g n a) h w:=by
 have key:∀i,wS (wS ι n (ι a)) a (ι n) i=ι (if i=n then a else if i=a then n else i):=fun i=>by
  unfold wS
  by_cases h1:i=n
  ·rw [if_pos h1,if_neg (by omega),if_pos h1]
  ·rw [if_neg h1]
   by_cases h2:i=a
   ·rw [if_pos h2,if_pos h2,if_neg h1]
   ·rw [if_neg h2,if_neg h1,if_neg h2]
 refine⟨fun i j hi hj e=>?_,fun i hi=>?_,fun i hi=>?_⟩
 ·rw [key,key] at e
  have:=r.inj _ _ (aGE hn ha hi) (aGE hn ha hj) e
  split at this<;>split at this<;>(try split at this)<;>(try split at this)<;>omega
 ·rw [key];exact r.lt _ (aGE hn ha hi)
 ·rw [key];exact r.el _ (aGE hn ha hi)
def mid (f e:Nat→Rat) (c j:Nat):Rat:=if j<c then f j else e j
theorem aNl {f e:Nat→Rat} {c:Nat}:mid f e c c=e c:=if_neg (Nat.lt_irrefl c)
theorem aEz {f e:Nat→Rat} {c:Nat}:wS (mid f e c) c (f c)=mid f e (c+1):=by
 funext j
 unfold wS mid
 by_cases h:j=c
 ·rw [if_pos h,if_pos (by omega),h]
 ·rw [if_neg h]
  by_cases hl:j<c
  ·rw [if_pos hl,if_pos (by omega)]
  ·rw [if_neg hl,if_neg (by omega)]
theorem aNo {f e:Nat→Rat} {c:Nat} (h:f c=e c):mid f e c=mid f e (c+1):=by
 funext j
 unfold mid
 by_cases hj:j=c
 ·rw [if_neg (by omega),if_pos (by omega),hj,h]
 ·by_cases hl:j<c
  ·rw [if_pos hl,if_pos (by omega)]
  ·rw [if_neg hl,if_neg (by omega)]
theorem aLz {f e:Nat→Rat} {c j:Nat} (h:j<c):mid f e c j=f j:=if_pos h
theorem aLf {α:Type} {g:Nat→α} {i:Nat} {x y:α}:wS (wS g i x) i y=wS g i y:=by
 funext j
 unfold wS
 split<;>rfl
def clr (g:Nat→Nat→Rat) (i p:Nat) (v:Rat) (c:Nat):Rat:=g i c-v*g p c
theorem aFe {ι:Nat→Nat} {g:Nat→Nat→Rat} {h w b b' i p:Nat} {v:Rat} (hg:∀c,c<w→Bd b (g i c)) (hp':∀c,c<w→Bd b' (g p c)) (hv:Bd b v) (hb:b+b+b'≤1073741824) (hw:w≤1000) (hi:i<h) (hp:p<h) (hne:p≠i) (K:Nat):∀(t c k:Nat) (pool:List (List Rat)),c+t=w→t<k→Rep ι pool (wS g i (mid (clr g i p v) (g i) c)) h w→
  ∃pool',Rep ι pool' (wS g i (clr g i p v)) h w∧gZ K (i:Int) (p:Int) v k (mp ι h) pool (c:Int)=some (mp ι h,pool')
 |0,c,k,pool,hc,hk,r=>by
  have:c=w:=by omega
  subst this
  obtain⟨k',rfl,_⟩:=aY hk
  refine⟨pool,r.congr fun j x hj hx=>?_,?_⟩
  ·by_cases he:j=i
   ·rw [he,eH,eH,aLz hx]
   ·rw [l5 he,l5 he]
  ·simp only [gZ,lX (f:=ι) hi,oB,r.el i hi,aZ,dF (show¬(c:Int)<(c:Int) by omega),bM]
 |t+1,c,k,pool,hc,hk,r=>by
  obtain⟨k',rfl,_⟩:=aY hk
  have hcw:c<w:=by omega
  have e1:=r.el i hi
  rw [eH] at e1
  have e2:=r.el p hp
  rw [l5 hne] at e2
  simp only [gZ,lX (f:=ι) hi,lX (f:=ι) hp,oB,e1,e2,aZ,dT (show(c:Int)<(w:Int) by omega),bS,lX (f:=g p) hcw,uS (hp' c hcw) (by omega)]
  by_cases hz:g p c=0
  ·simp only [nF (aCy.2 hz),bM,uL (i:=c) (by omega),oB]
   refine aFe hg hp' hv hb hw hi hp hne K t (c+1) k' pool (by omega) (by omega) ?_
   rw [←aNo (show clr g i p v c=g i c by unfold clr;rw [hz];grind)]
   exact r
  ·have r':=r.set hi (wS (mid (clr g i p v) (g i) c) c (clr g i p v c))
   rw [aLf,aEz] at r'
   obtain⟨pool',h1,h2⟩:=aFe hg hp' hv hb hw hi hp hne K t (c+1) k' _ (by omega) (by omega) r'
   refine⟨pool',h1,?_⟩
   simp only [nT (fun h=>hz (aCy.1 h)),bS,lX (f:=mid (clr g i p v) (g i) c) hcw,aNl,aC1 hv (hp' c hcw) (by omega) (by omega),aLR (hg c hcw) (hv.mul (hp' c hcw)) (by omega) (by omega),oB,aEm (f:=mid (clr g i p v) (g i) c) hcw,uL (i:=c) (by omega)]
   rw [←aEz] at h2
   exact h2
theorem aOr {ι:Nat→Nat} {pool:List (List Rat)} {g:Nat→Nat→Rat} {h w b b' i p c0:Nat} {ps:List Int} {d:Rat} (hg:∀c,c<w→Bd b (g i c)) (hp':∀c,c<w→Bd b' (g p c)) (hb:b+b+b'≤1073741824) (hw:w≤1000) (hi:i<h) (hp:p<h) (hc:c0<w) (hne:p≠i) (hz:∀c,c<c0→g p c=0) {K:Nat} (hK:w<K) (r:Rep ι pool g h w):
  ∃pool',Rep ι pool' (wS g i (clr g i p (g i c0))) h w∧p7 K ((mp ι h,pool),ps,d) (i:Int) (p:Int) (c0:Int)=some ((mp ι h,pool'),ps,d):=by
 by_cases h0:g i c0=0
 ·refine⟨pool,r.congr fun j x hj hx=>?_,?_⟩
  ·by_cases he:j=i
   ·rw [he,eH];unfold clr;rw [h0];grind
   ·rw [l5 he]
  ·simp only [p7,lX (f:=ι) hi,oB,r.el i hi,lX (f:=g i) hc,uS (hg c0 hc) (by omega),qT (aCy.2 h0),bS]
 ·have e0:mid (clr g i p (g i c0)) (g i) c0=g i:=by
   funext j
   unfold mid
   split
   ·rename_i hj
    unfold clr
    rw [hz j hj];grind
   ·rfl
  obtain⟨pool',h1,h2⟩:=aFe (v:=g i c0) hg hp' (hg c0 hc) hb hw hi hp hne K (w-c0) c0 K pool (by omega) (by omega) (by
   rw [e0]
   exact r.congr fun j x hj hx=>by
    by_cases he:j=i
    ·rw [he,eH]
    ·rw [l5 he])
  refine⟨pool',h1,?_⟩
  simp only [p7,lX (f:=ι) hi,oB,r.el i hi,lX (f:=g i) hc,uS (hg c0 hc) (by omega),qF (fun h=>h0 (aCy.1 h)),bM,h2,sB]
theorem aFk {ι:Nat→Nat} {g:Nat→Nat→Rat} {h w b:Nat} {ps:List Nat} {v:Rat} (hg:∀c,c<w→Bd b (g ps.length c)) (hv:Bd b v) (hb:b≤1073741824) (hw:w≤1000) (hp:ps.length<h) (K:Nat):∀(t c k:Nat) (pool:List (List Rat)),c+t=w→t<k→Rep ι pool (wS g ps.length (mid (fun c=>g ps.length c/v) (g ps.length) c)) h w→
  ∃pool',Rep ι pool' (wS g ps.length (fun c=>g ps.length c/v)) h w∧kB K (uJ ps) v k (mp ι h) pool (c:Int)=some (mp ι h,pool')
 |0,c,k,pool,hc,hk,r=>by
  have:c=w:=by omega
  subst this
  obtain⟨k',rfl,_⟩:=aY hk
  refine⟨pool,r.congr fun j x hj hx=>?_,?_⟩
  ·by_cases he:j=ps.length
   ·rw [he,eH,eH,aLz hx]
   ·rw [l5 he,l5 he]
  ·simp only [kB,fU,lX (f:=ι) hp,oB,r.el _ hp,aZ,dF (show¬(c:Int)<(c:Int) by omega),bM]
 |t+1,c,k,pool,hc,hk,r=>by
  obtain⟨k',rfl,_⟩:=aY hk
  have hcw:c<w:=by omega
  have e1:=r.el _ hp
  rw [eH] at e1
  have r':=r.set hp (wS (mid (fun c=>g ps.length c/v) (g ps.length) c) c (g ps.length c/v))
  rw [aLf,aEz (f:=fun c=>g ps.length c/v)] at r'
  obtain⟨pool',h1,h2⟩:=aFk hg hv hb hw hp K t (c+1) k' _ (by omega) (by omega) r'
  refine⟨pool',h1,?_⟩
  simp only [kB,fU,lX (f:=ι) hp,oB,e1,aZ,dT (show(c:Int)<(w:Int) by omega),bS,lX (f:=mid (fun c=>g ps.length c/v) (g ps.length) c) hcw,aNl,aLP (hg c hcw) hv hb hb,aEm (f:=mid (fun c=>g ps.length c/v) (g ps.length) c) hcw,uL (i:=c) (by omega)]
  rw [←aEz] at h2
  exact h2
def els (g:Nat→Nat→Rat) (p c0 i j c:Nat):Rat:=if j<i∧j≠p then g j c-g j c0*g p c else g j c
theorem aEV {ι:Nat→Nat} {g:Nat→Nat→Rat} {h w b b' c0:Nat} {ps:List Nat} {d:Rat} (hg:∀j c,j<h→j≠ps.length→c<w→Bd b (g j c)) (hp':∀c,c<w→Bd b' (g ps.length c)) (hb:b+b+b'≤1073741824) (hw:w≤1000) (hh:h≤1000) (hp:ps.length<h) (hc:c0<w) (hz:∀c,c<c0→g ps.length c=0) {K:Nat} (hK:w<K):∀(t i k:Nat) (pool:List (List Rat)),i+t=h→t<k→Rep ι pool (els g ps.length c0 i) h w→
  ∃pool',Rep ι pool' (els g ps.length c0 h) h w∧gH K (uJ ps) (c0:Int) (mp ι h) k (uJ ps) (mp ι h) pool d (i:Int)=some (uJ ps,mp ι h,pool',d)
 |0,i,k,pool,hi,hk,r=>by
  have:i=h:=by omega
  subst this
  obtain⟨k',rfl,_⟩:=aY hk
  exact⟨pool,r,by simp only [gH,aZ,dF (show¬(i:Int)<(i:Int) by omega),bM]⟩
 |t+1,i,k,pool,hi,hk,r=>by
  obtain⟨k',rfl,_⟩:=aY hk
  have hih:i<h:=by omega
  by_cases he:i=ps.length
  ·have e:els g ps.length c0 i=els g ps.length c0 (i+1):=by
    funext j c
    unfold els
    by_cases hj:j=ps.length
    ·rw [if_neg (by omega),if_neg (by omega)]
    ·by_cases hl:j<i
     ·rw [if_pos ⟨hl,hj⟩,if_pos ⟨by omega,hj⟩]
     ·rw [if_neg (by omega),if_neg (by omega)]
   rw [e] at r
   obtain⟨pool',h1,h2⟩:=aEV hg hp' hb hw hh hp hc hz hK t (i+1) k' pool (by omega) (by omega) r
   refine⟨pool',h1,?_⟩
   simp only [gH,aZ,dT (show(i:Int)<(h:Int) by omega),bS,fU,nF (show(i:Int)=(ps.length:Int) by omega),bM,uL (i:=i) (by omega),oB]
   exact h2
  ·have e1:els g ps.length c0 i i=g i:=by funext c;unfold els;rw [if_neg (by omega)]
   have e2:els g ps.length c0 i ps.length=g ps.length:=by funext c;unfold els;rw [if_neg (by omega)]
   obtain⟨p1,r1,q1⟩:=aOr (ps:=uJ ps) (d:=d) (g:=els g ps.length c0 i) (i:=i) (p:=ps.length) (c0:=c0) (b:=b) (b':=b') (by rw [e1];exact fun c hc=>hg i c hih he hc) (by rw [e2];exact hp') hb hw hih hp hc (fun h=>he h.symm) (by rw [e2];exact hz) hK r
   have e:wS (els g ps.length c0 i) i (clr (els g ps.length c0 i) i ps.length (els g ps.length c0 i i c0))=els g ps.length c0 (i+1):=by
    funext j c
    by_cases hj:j=i
    ·rw [hj,eH]
     unfold clr
     rw [e1,e2]
     unfold els
     rw [if_pos ⟨by omega,he⟩]
    ·rw [l5 hj]
     unfold els
     by_cases hl:j<i∧j≠ps.length
     ·rw [if_pos hl,if_pos ⟨by omega,hl.2⟩]
     ·rw [if_neg hl,if_neg (by omega)]
   rw [e] at r1
   obtain⟨pool',h1,h2⟩:=aEV hg hp' hb hw hh hp hc hz hK t (i+1) k' p1 (by omega) (by omega) r1
   refine⟨pool',h1,?_⟩
   simp only [gH,aZ,dT (show(i:Int)<(h:Int) by omega),bS,fU,nT (show(i:Int)≠(ps.length:Int) by omega),q1,uL (i:=i) (by omega),oB]
   exact h2
theorem aJz {g:Nat→Nat→Rat} {h w b c n:Nat} (hg:yW h w b g) (hb:b≤1073741824) (hh:h≤1000) (hc:c<w) (hn:n≤h) (K:Nat):∀(t i k:Nat),n+i+t=h→t<k→bW K (mp (fun j=>mp (g (n+j)) w) (h-n)) (lE (c:Int)) k (i:Int)=some (if piv g c t (n+i)=h then .go () else .ret ((piv g c t (n+i):Int)-n))
 |0,i,k,hi,hk=>by
  obtain⟨k',rfl,_⟩:=aY hk
  have e:piv g c 0 (n+i)=h:=by simp only [piv];omega
  rw [if_pos e]
  simp only [bW,aZ,dF (show¬(i:Int)<((h-n:Nat):Int) by omega),bM]
 |t+1,i,k,hi,hk=>by
  obtain⟨k',rfl,_⟩:=aY hk
  have hx:=hg (n+i) c (by omega) hc
  simp only [bW,aZ,dT (show(i:Int)<((h-n:Nat):Int) by omega),bS,lX (f:=fun j=>mp (g (n+j)) w) (show i<h-n by omega),oB,lE,lX (f:=g (n+i)) hc,uS hx hb,piv]
  by_cases hz:g (n+i) c=0
  ·simp only [nF (aCy.2 hz),bM,if_pos hz,uL (i:=i) (by omega),oB]
   exact aJz hg hb hh hc hn K t (i+1) k' (by omega) (by omega)
  ·simp only [nT (fun h=>hz (aCy.1 h)),bS,if_neg hz,if_neg (show¬n+i=h by omega)]
   congr 2
   omega
theorem aM5 {g:Nat→Nat→Rat} {h w b c n:Nat} (hg:yW h w b g) (hb:b≤1073741824) (hh:h≤1000) (hc:c<w) (hn:n≤h) {K:Nat} (hK:h<K):fL K (mp (fun j=>mp (g (n+j)) w) (h-n)) (lE (c:Int))=some (if piv g c (h-n) n=h then -1 else(piv g c (h-n) n:Int)-n):=by
 have:=aJz hg hb hh hc hn K (h-n) 0 K (by omega) (by omega)
 simp only [Int.natCast_zero,Nat.add_zero] at this
 by_cases hat:piv g c (h-n) n=h
 ·rw [if_pos hat] at this ⊢
  simp only [fL,this,oB,kA]
 ·rw [if_neg hat] at this ⊢
  simp only [fL,this,oB]
theorem aFf {g:Nat→Nat→Rat} {h w n b:Nat} (hg:yW h w b g) (hb:2≤b) (hn:n≤w) (hB:5^n*b≤200000000) (hh:h≤1000) (hw:w≤1000) {K:Nat} (hK:w+h<K):∀(t i k:Nat) (ι:Nat→Nat) (pool:List (List Rat)),i+t=n→t<k→Rep ι pool (xH g h i).g h w→
  ∃ι' pool',Rep ι' pool' (xH g h n).g h w∧cG K (n:Int) k (uJ (xH g h i).ps) (mp ι h) pool (xH g h i).d (i:Int)=some (uJ (xH g h n).ps,mp ι' h,pool',(xH g h n).d)
 |0,i,k,ι,pool,hi,hk,r=>by
  have:i=n:=by omega
  subst this
  obtain⟨k',rfl,_⟩:=aY hk
  exact⟨ι,pool,r,by simp only [cG,dF (show¬(i:Int)<(i:Int) by omega),bM]⟩
 |t+1,i,k,ι,pool,hi,hk,r=>by
  obtain⟨k',rfl,_⟩:=aY hk
  have hs:=aEP hg hb i (by omega)
  have ih:=aFf hg hb hn hB hh hw hK t (i+1) k'
  have h5:5^i*b≤200000000:=Nat.le_trans (aL4 (by omega)) hB
  simp only [xH] at ih
  generalize xH g h i=s at *
  have hp:=aD6 (g:=s.g) (k:=i) (h-s.ps.length) s.ps.length
  have hl:s.ps.length+(h-s.ps.length)=h:=by have:=hs.ph;omega
  have hc:i<w:=by omega
  have hsl:=aSX (f:=fun j=>mp (s.g j) w) hs.ph
  simp only [cG,dT (show(i:Int)<(n:Int) by omega),bS,fU,r.sel,gN]
  unfold mx
  simp only [hsl,oB,aM5 hs.bd (by omega) hh hc hs.ph (K:=K) (by omega)]
  unfold aA5 at ih
  by_cases hat:piv s.g i (h-s.ps.length) s.ps.length=h
  ·simp only [if_pos hat] at ih ⊢
   obtain⟨ι',pool',h1,h2⟩:=ih ι pool (by omega) (by omega) r
   refine⟨ι',pool',h1,?_⟩
   simp only [show decide ((-1:Int)<0)=true from rfl,bS,uL (i:=i) (by omega),oB]
   exact h2
  ·simp only [if_neg hat] at ih ⊢
   have hlt:piv s.g i (h-s.ps.length) s.ps.length<h:=by omega
   have hnz:=aHi (g:=s.g) (k:=i) (h-s.ps.length) s.ps.length (by omega)
   generalize ha:piv s.g i (h-s.ps.length) s.ps.length=at0 at *
   have hpl:s.ps.length<h:=by omega
   have hsb:yW h w (5^i*b) (yV s.g s.ps.length at0):=fun j c hj hc=>aKa hs.bd hpl hlt hj hc
   have hs0:yV s.g s.ps.length at0 s.ps.length=s.g at0:=by unfold yV;rw [if_pos rfl]
   have go:∀(ι1:Nat→Nat) (d1:Rat),Rep ι1 pool (yV s.g s.ps.length at0) h w→Bd (5^i*b) d1→d1=(if at0=s.ps.length then s.d else -s.d)→
     ∃ι' pool',Rep ι' pool' (xH g h n).g h w∧mH K (uJ s.ps) (i:Int) (cG K (n:Int) k') (mp ι1 h) pool d1=some (uJ (xH g h n).ps,mp ι' h,pool',(xH g h n).d):=by
    intro ι1 d1 r1 hd1 ed
    have e1:=r1.el _ hpl
    rw [hs0] at e1
    have hrow:∀c,c<w→Bd (5^i*b) (yV s.g s.ps.length at0 s.ps.length c):=fun c hc=>hsb _ c hpl hc
    have hz0:∀c,c<i→s.g at0 c=0:=fun c hc=>hs.z at0 c hp.1 hlt hc
    obtain⟨p2,r2,q2⟩:=aFk (ps:=s.ps) (v:=s.g at0 i) hrow (hs.bd at0 i hlt hc) (by omega) hw hpl K (w-i) i K pool (by omega) (by omega) (by
     refine r1.congr fun j x hj hx=>?_
     by_cases he:j=s.ps.length
     ·rw [he,eH]
      unfold mid
      split
      ·rename_i hxi
       rw [hs0,hz0 x hxi];grind
      ·rfl
     ·rw [l5 he])
    generalize hG:wS (yV s.g s.ps.length at0) s.ps.length (fun c=>yV s.g s.ps.length at0 s.ps.length c/s.g at0 i)=G at *
    have G0:G s.ps.length=pr s.g at0 i:=by rw [←hG,eH];funext c;rw [hs0];rfl
    have G1:∀j,j≠s.ps.length→G j=yV s.g s.ps.length at0 j:=fun j hj=>by rw [←hG,l5 hj]
    obtain⟨p3,r3,q3⟩:=aEV (g:=G) (b:=5^i*b) (b':=5^i*b+5^i*b) (c0:=i) (ps:=s.ps) (d:=d1*s.g at0 i) (fun j c hj hne hc=>by rw [G1 j hne];exact hsb j c hj hc) (fun c hc=>by rw [G0];exact aLZ hs.bd hlt (by omega) hc) (by omega) hw hh hpl hc (fun c hc=>by rw [G0];unfold pr;rw [hz0 c hc];grind) (K:=K) (by omega) h 0 K p2 (by omega) (by omega) (r2.congr fun j x hj hx=>by unfold els;rw [if_neg (by omega)])
    obtain⟨ι',pool',h1,h2⟩:=ih ι1 p3 (by omega) (by omega) (r3.congr fun j x hj hx=>by
     unfold els stp
     by_cases he:j=s.ps.length
     ·rw [if_neg (by omega),if_pos he,he,G0]
     ·rw [if_pos ⟨hj,he⟩,if_neg he,G0,G1 j he])
    refine⟨ι',pool',h1,?_⟩
    simp only [Int.natCast_zero] at q3
    simp only [mH,fU,lX (f:=ι1) hpl,oB,e1,lX (f:=s.g at0) hc,aC1 hd1 (hs.bd at0 i hlt hc) (by omega) (by omega),q2,sR,q3,tF,apI (k:=i) (l:=s.ps) (by have:=hs.ph;omega),uL (i:=i) (by omega)]
    rw [ed]
    exact h2
   by_cases he:at0=s.ps.length
   ·have ew:yV s.g s.ps.length at0=s.g:=by
     funext j
     unfold yV
     split
     ·rename_i hj;rw [he,hj]
     ·split
      ·rename_i h1 h2;exact absurd (h2.trans he) h1
      ·rfl
    obtain⟨ι',pool',h1,h2⟩:=go ι s.d (by rw [ew];exact r) hs.bdd (by rw [if_pos he])
    refine⟨ι',pool',h1,?_⟩
    simp only [dF (show¬((at0:Int)-(s.ps.length:Int)<0) by omega),bM,dF (show¬(0<(at0:Int)-(s.ps.length:Int)) by omega)]
    exact h2
   ·obtain⟨ι',pool',h1,h2⟩:=go _ (-s.d) (r.swap hpl hlt (fun h=>he h.symm)) hs.bdd.neg (by rw [if_neg he])
    refine⟨ι',pool',h1,?_⟩
    have e3:aS ((s.ps.length:Int)+((at0:Int)-(s.ps.length:Int)))=some (at0:Int):=ckN (m:=0) (n:=at0) (by omega) (by omega)
    simp only [dF (show¬((at0:Int)-(s.ps.length:Int)<0) by omega),bM,dT (show(0<(at0:Int)-(s.ps.length:Int)) by omega),bS,e3,oB,lX (f:=ι) hlt,lX (f:=ι) hpl,aEm (f:=ι) hpl,lX (f:=wS ι s.ps.length (ι at0)) hlt,aEm (f:=wS ι s.ps.length (ι at0)) hlt,aCU hs.bdd (by omega)]
    exact h2
theorem aFR {g:Nat→Nat→Rat} {h w:Nat} (hh:h≤1000) (hw:w≤1000) (K:Nat):∀(t i k:Nat),i+t=h→t<k→kW K (mx g h w) k (mp id i) (mp (fun i=>mp (g i) w) i) (i:Int)=some (mp id h,mx g h w)
 |0,i,k,hi,hk=>by
  have:i=h:=by omega
  subst this
  obtain⟨k',rfl,_⟩:=aY hk
  simp only [kW,gN,dF (show¬(i:Int)<(i:Int) by omega),bM]
  rfl
 |t+1,i,k,hi,hk=>by
  obtain⟨k',rfl,_⟩:=aY hk
  have e2:oG ([]:List Rat) (mp (g i) w)=some (mp (g i) w):=by rw [xM (by rw [aZ,List.length_nil];omega),List.nil_append]
  have e3:=apM (g:=(id:Nat→Nat)) (i:=i) (by omega)
  simp only [id] at e3
  simp only [kW,gN,dT (show(i:Int)<(h:Int) by omega),bS,zG (g:=g) (w:=w) (show i<h by omega),oB,iZ,e2,aZ,uL (i:=i) (by omega)]
  have e4:oG (mp id i) [i]=some (mp id (i+1)):=apM (g:=(id:Nat→Nat)) (i:=i) (by omega)
  rw [e4]
  simp only [oB]
  rw [←aBD (fun i=>mp (g i) w) i]
  exact aFR hh hw K t (i+1) k' (by omega) (by omega)
theorem aIO:qof 1 1=some 1:=by rw [aN3 (by omega) (by omega),aRE]
theorem aG8 {g:Nat→Nat→Rat} {h w n b:Nat} (hg:yW h w b g) (hb:2≤b) (hn:n≤w) (hB:5^n*b≤200000000) (hh:h≤1000) (hw:w≤1000) {K:Nat} (hK:w+h<K):sM K (mx g h w) (n:Int)=some ⟨mx (xH g h n).g h w,uJ (xH g h n).ps,(xH g h n).d⟩:=by
 have h1:=aFR (g:=g) hh hw K h 0 K (by omega) (by omega)
 have r0:Rep id (mx g h w) g h w:=⟨fun i j _ _ e=>e,fun i hi=>by rw [gN];exact hi,fun i hi=>by
  rw [List.getD_eq_getElem?_getD];unfold mx;rw [zF (show id i<h from hi)];rfl⟩
 obtain⟨ι',pool',h2,h3⟩:=aFf hg hb hn hB hh hw hK n 0 K id (mx g h w) (by omega) (by omega) r0
 simp only [Int.natCast_zero,tX] at h1 h3
 have e:uJ (xH g h 0).ps=[]:=rfl
 have e':(xH g h 0).d=1:=rfl
 rw [e,e'] at h3
 simp only [sM,aIO,oB,h1,t6,h3,s8,h2.sel]
end Go.Proofs.YtolfcbpgmfbgmaaGreat
set_option linter.unusedVariables false
namespace Go.Proofs.YtolfcbpgmfbgmaaGreat
/-- A list of numbers read by index. -/
def pat (ps:List Nat) (i:Nat):Nat:=ps.getD i 0
theorem aHS {ps:List Nat} {i:Nat} (h:i<ps.length):pat ps i∈ps:=by
 unfold pat
 simp only [List.getD_eq_getElem?_getD,List.getElem?_eq_getElem h,Option.getD_some]
 exact List.getElem_mem h
theorem rdI {ps:List Nat} {i:Nat} (h:i<ps.length):bF (uJ ps) (i:Int)=some ((pat ps i:Nat):Int):=by
 refine rdG ?_
 unfold uJ pat
 rw [List.getElem?_map,List.getD_eq_getElem?_getD,List.getElem?_eq_getElem h];rfl
def Cok (h w:Nat):Prop:=h=0→w=0
theorem aH9 {g:Nat→Nat→Rat} {h w:Nat} (hc:Cok h w):tN (mx g h w)=some (w:Int):=by
 by_cases h0:h=0
 ·subst h0
  rw [hc rfl];rfl
 ·have r0:=zG (g:=g) (w:=w) (show 0<h by omega)
  simp only [Int.natCast_zero] at r0
  simp only [tN,gN,qF (show¬(h:Int)=0 by omega),bM,r0,oB,aZ]
theorem aNK {g:Nat→Nat→Rat} {h w:Nat} (hc:Cok h w):rW (mx g h w)=some (w:Int):=by
 by_cases h0:h=0
 ·subst h0
  rw [hc rfl];rfl
 ·have r0:=zG (g:=g) (w:=w) (show 0<h by omega)
  simp only [Int.natCast_zero] at r0
  simp only [rW,gN,qF (show¬(h:Int)=0 by omega),bM,r0,oB,aZ]
theorem aJe {g:Nat→Nat→Rat} {h w:Nat} (hh:h≤1000) (K:Nat):∀(t i k:Nat),i+t=h→t<k→bW K (mx g h w) (rM (mx g h w)) k (i:Int)=some (.go ())
 |0,i,k,hi,hk=>by
  obtain⟨k',rfl,_⟩:=aY hk
  simp only [bW,gN,dF (show¬(i:Int)<(h:Int) by omega),bM]
 |t+1,i,k,hi,hk=>by
  obtain⟨k',rfl,_⟩:=aY hk
  have r0:=zG (g:=g) (w:=w) (show 0<h by omega)
  simp only [Int.natCast_zero] at r0
  simp only [bW,gN,dT (show(i:Int)<(h:Int) by omega),bS,zG (g:=g) (w:=w) (show i<h by omega),oB,rM,r0,aZ,nF (rfl:(w:Int)=(w:Int)),bM,uL (i:=i) (by omega)]
  exact aJe hh K t (i+1) k' (by omega) (by omega)
theorem aJK {g:Nat→Nat→Rat} {h w:Nat} (hc:Cok h w) (hh:h≤64) (hw:w≤64) {K:Nat} (hK:h<K):uE K (mx g h w)=some true:=by
 have:=aJe (g:=g) (w:=w) (show h≤1000 by omega) K h 0 K (by omega) hK
 simp only [Int.natCast_zero] at this
 simp only [uE,gN,dT (show(h:Int)≤64 by omega),bS,aH9 hc,oB,dT (show(w:Int)≤64 by omega),nD,fL,this,kA]
 rfl
end Go.Proofs.YtolfcbpgmfbgmaaGreat
set_option linter.unusedVariables false
namespace Go.Proofs.YtolfcbpgmfbgmaaGreat
theorem aKJ (f g:Nat→Rat) (a:Rat):∀n,sm (fun c=>f c-a*g c) n=sm f n-a*sm g n
 |0=>by simp only [sm];grind
 |n+1=>by
  have ih:=aKJ f g a n
  simp only [sm]
  rw [ih];grind
theorem aJZ (f:Nat→Rat) (a:Rat):∀n,sm (fun c=>f c*a) n=sm f n*a
 |0=>by simp only [sm];grind
 |n+1=>by
  have ih:=aJZ f a n
  simp only [sm]
  rw [ih];grind
theorem sZ {f g:Nat→Rat}:∀{n:Nat},(∀i,i<n→f i=g i)→sm f n=sm g n
 |0,_=>rfl
 |n+1,h=>by
  simp only [sm]
  rw [sZ fun i hi=>h i (by omega),h n (by omega)]
theorem aL7 {f:Nat→Rat} {n:Nat} (h:∀i,i<n→f i=0):sm f n=0:=by
 rw [sZ (g:=fun _=>0) h]
 induction n with
 |zero=>rfl
 |succ n ih=>simp only [sm];rw [ih fun i hi=>h i (by omega)];grind
theorem aRj {f:Nat→Rat} {n p:Nat} (hp:p<n) (h:∀i,i<n→i≠p→f i=0):sm f n=f p:=by
 induction n with
 |zero=>omega
 |succ n ih=>
  simp only [sm]
  by_cases he:p=n
  ·rw [aL7 fun i hi=>h i (by omega) (by omega),he];grind
  ·rw [ih (by omega) fun i hi hne=>h i (by omega) hne,h n (by omega) (by omega)];grind
theorem aNs (f g:Nat→Rat):∀n,sm (fun c=>f c+g c) n=sm f n+sm g n
 |0=>by simp only [sm];grind
 |n+1=>by
  have ih:=aNs f g n
  simp only [sm]
  rw [ih];grind
def rd (g:Nat→Nat→Rat) (y:Nat→Rat) (n i:Nat):Rat:=sm (fun c=>g i c*y c) n
structure RJ (h k:Nat) (s:RS):Prop where
 ph:s.ps.length≤h
 pk:∀i,i<s.ps.length→pat s.ps i<k
 z:∀i c,s.ps.length≤i→i<h→c<k→s.g i c=0
 one:∀i i',i<s.ps.length→i'<h→s.g i' (pat s.ps i)=if i'=i then 1 else 0
 lead:∀i c,i<s.ps.length→c<pat s.ps i→s.g i c=0
 inc:∀i j,i<j→j<s.ps.length→pat s.ps i<pat s.ps j
 gap:∀c,c<k→c∉s.ps→∀i,i<s.ps.length→c<pat s.ps i→s.g i c=0
theorem aCX {ps:List Nat} {k i:Nat} (h:i<ps.length):pat (ps++[k]) i=pat ps i:=by
 unfold pat
 rw [List.getD_eq_getElem?_getD,List.getD_eq_getElem?_getD,List.getElem?_append_left h]
theorem aFB {ps:List Nat} {k:Nat}:pat (ps++[k]) ps.length=k:=by
 unfold pat
 rw [List.getD_eq_getElem?_getD,List.getElem?_append_right (Nat.le_refl _),Nat.sub_self];rfl
theorem aOA {h k:Nat} {s:RS} (hs:RJ h k s):RJ h (k+1) (aA5 h k s):=by
 have hp:=aD6 (g:=s.g) (k:=k) (h-s.ps.length) s.ps.length
 have hph:=hs.ph
 unfold aA5
 split
 ·rename_i hat
  refine⟨hs.ph,fun i hi=>Nat.lt_succ_of_lt (hs.pk i hi),fun i c hi hh hc=>?_,hs.one,hs.lead,hs.inc,fun c _ _ i hi hlt=>hs.lead i c hi hlt⟩
  by_cases he:c=k
  ·subst he;exact aNb (h-s.ps.length) s.ps.length i hi (by omega)
  ·exact hs.z i c hi hh (by omega)
 ·rename_i hat
  have hlt:piv s.g k (h-s.ps.length) s.ps.length<h:=by omega
  have hne:=aHi (g:=s.g) (k:=k) (h-s.ps.length) s.ps.length (by omega)
  generalize ha:piv s.g k (h-s.ps.length) s.ps.length=at0 at *
  have hz:∀c,c<k→s.g at0 c=0:=fun c hc=>hs.z at0 c hp.1 hlt hc
  have hpr:∀c,c<k→pr s.g at0 k c=0:=fun c hc=>by unfold pr;rw [hz c hc,Rat.div_def,Rat.zero_mul]
  have hprk:pr s.g at0 k k=1:=by unfold pr;rw [Rat.div_def,Rat.mul_inv_cancel _ hne]
  have hswz:∀i c,s.ps.length<i→i<h→c<k→yV s.g s.ps.length at0 i c=0:=fun i c hi hih hc=>by
   unfold yV
   rw [if_neg (by omega)]
   split
   ·exact hs.z _ c (Nat.le_refl _) (by omega) hc
   ·exact hs.z _ c (by omega) hih hc
  have hsw:∀i c,i<s.ps.length→yV s.g s.ps.length at0 i c=s.g i c:=fun i c hi=>by
   unfold yV
   rw [if_neg (by omega),if_neg (by omega)]
  have hlead:∀i c,i<s.ps.length+1→c<pat (s.ps++[k]) i→stp s.g s.ps.length at0 k i c=0:=fun i c hi hc=>by
   by_cases he:i=s.ps.length
   ·subst he
    rw [aFB] at hc
    unfold stp
    rw [if_pos rfl];exact hpr c hc
   ·have hi':i<s.ps.length:=by omega
    rw [aCX hi'] at hc
    unfold stp
    rw [if_neg he,hsw i c hi',hsw i k hi',hs.lead i c hi' hc,hpr c (by have:=hs.pk i hi';omega)]
    grind
  refine⟨by simp only [List.length_append,List.length_singleton];omega,fun i hi=>?_,fun i c hi hh hc=>?_,fun i i' hi hi'=>?_,fun i c hi hc=>hlead i c (by simpa using hi) hc,fun i j hij hj=>?_,fun c _ _ i hi hlt=>hlead i c (by simpa using hi) hlt⟩
  ·simp only [List.length_append,List.length_singleton] at hi
   by_cases he:i=s.ps.length
   ·subst he;simp only [aFB];omega
   ·simp only [aCX (show i<s.ps.length by omega)]
    have:=hs.pk i (by omega);omega
  ·simp only [List.length_append,List.length_singleton] at hi
   show stp s.g s.ps.length at0 k i c=0
   unfold stp
   rw [if_neg (by omega)]
   by_cases he:c=k
   ·subst he
    rw [hprk,Rat.mul_one,Rat.sub_self]
   ·rw [hswz i c (by omega) hh (by omega),hpr c (by omega)]
    grind
  ·simp only [List.length_append,List.length_singleton] at hi
   show stp s.g s.ps.length at0 k i' (pat (s.ps++[k]) i)=_
   unfold stp
   by_cases he:i=s.ps.length
   ·subst he
    rw [aFB]
    by_cases e2:i'=s.ps.length
    ·rw [if_pos e2,if_pos e2,hprk]
    ·rw [if_neg e2,if_neg e2,hprk,Rat.mul_one,Rat.sub_self]
   ·have hi2:i<s.ps.length:=by omega
    rw [aCX hi2,hpr _ (hs.pk i hi2)]
    by_cases e2:i'=s.ps.length
    ·rw [if_pos e2,if_neg (by omega)]
    ·rw [if_neg e2]
     by_cases e3:i'<s.ps.length
     ·rw [hsw i' _ e3,hs.one i i' hi2 (by omega)]
      grind
     ·rw [hswz i' _ (by omega) hi' (hs.pk i hi2),if_neg (by omega)]
      grind
  ·simp only [List.length_append,List.length_singleton] at hj
   by_cases he:j=s.ps.length
   ·subst he
    simp only [aFB,aCX (show i<s.ps.length by omega)]
    exact hs.pk i (by omega)
   ·simp only [aCX (show i<s.ps.length by omega),aCX (show j<s.ps.length by omega)]
    exact hs.inc i j hij (by omega)
theorem aKR {g:Nat→Nat→Rat} {h:Nat}:∀k,RJ h k (xH g h k)
 |0=>⟨Nat.zero_le _,fun i hi=>absurd hi (by simp [xH]),fun i c _ _ hc=>absurd hc (by omega),fun i i' hi _=>absurd hi (by simp [xH]),fun i c hi _=>absurd hi (by simp [xH]),fun i j _ hj=>absurd hj (by simp [xH]),fun c hc=>absurd hc (by omega)⟩
 |k+1=>aOA (aKR k)
theorem aHl {g g':Nat→Nat→Rat} {k:Nat} (e:∀i,g i k=g' i k):∀t i,piv g k t i=piv g' k t i
 |0,_=>rfl
 |t+1,i=>by
  unfold piv
  rw [e i,aHl e t (i+1)]
theorem aHa {g g':Nat→Nat→Rat} {h w:Nat} (e:∀i c,c<w→g i c=g' i c):∀k,k≤w→(xH g h k).ps=(xH g' h k).ps∧∀i c,c<w→(xH g h k).g i c=(xH g' h k).g i c
 |0,_=>⟨rfl,e⟩
 |k+1,hk=>by
  obtain⟨h1,h2⟩:=aHa e k (by omega)
  simp only [xH]
  generalize xH g h k=s at *
  generalize xH g' h k=s' at *
  unfold aA5
  rw [←h1,←aHl (g:=s.g) (g':=s'.g) (k:=k) (fun i=>h2 i k (by omega))]
  split
  ·exact⟨h1,h2⟩
  ·refine⟨by simp only [h1],fun i c hc=>?_⟩
   simp only [stp,pr,yV]
   rw [h2 _ c hc,h2 _ k (by omega),h2 _ c hc,h2 _ k (by omega)]
end Go.Proofs.YtolfcbpgmfbgmaaGreat
set_option linter.unusedVariables false
namespace Go.Proofs.YtolfcbpgmfbgmaaGreat
theorem aLb (F:Nat→Nat→Rat) (m:Nat):∀n,sm (fun i=>sm (F i) m) n=sm (fun j=>sm (fun i=>F i j) n) m
 |0=>by
  simp only [sm]
  exact(aL7 fun i _=>rfl).symm
 |n+1=>by
  simp only [sm]
  rw [aLb F m n,aNs]
theorem aIe (f:Nat→Rat) (a:Rat) (n:Nat):sm (fun c=>a*f c) n=a*sm f n:=by
 rw [Rat.mul_comm,←aJZ]
 exact sZ fun i _=>Rat.mul_comm _ _
theorem aKd (f:Nat→Rat) (n:Nat):sm (fun c=>-(f c)) n=-(sm f n):=by
 have:=aIe f (-1) n
 rw [sZ (g:=fun c=>-1*f c) fun i _=>by grind,this];grind
def skp (k c:Nat):Nat:=if c<k then c else c+1
theorem aOs (F:Nat→Rat) {k:Nat}:∀{n:Nat},k≤n→sm (fun l=>F (skp k l)) n=sm (fun m=>if m=k then 0 else F m) (n+1)
 |0,h=>by
  have:k=0:=by omega
  subst this
  simp only [sm];grind
 |n+1,h=>by
  by_cases hk:k≤n
  ·have ih:=aOs F hk
   rw [sm,ih,sm,sm,sm]
   have e1:skp k n=n+1:=by unfold skp;rw [if_neg (by omega)]
   rw [e1,if_neg (show¬n+1=k by omega)]
  ·have:k=n+1:=by omega
   subst this
   rw [sm.eq_2 _ (n+1),if_pos rfl]
   rw [sZ (g:=F) fun i hi=>by unfold skp;rw [if_pos hi],sZ (g:=F) fun i hi=>if_neg (by omega)]
   grind
def sgn (k:Nat):Rat:=if k%2=0 then 1 else -1
def mnr (g:Nat→Nat→Rat) (k i c:Nat):Rat:=g (i+1) (skp k c)
def dt:Nat→(Nat→Nat→Rat)→Rat
 |0,_=>1
 |n+1,g=>sm (fun k=>sgn k*(g 0 k*dt n (mnr g k))) (n+1)
theorem aNZ {k c n:Nat} (hc:c<n):skp k c<n+1:=by unfold skp;split<;>omega
theorem aCw:∀{n:Nat} {g g':Nat→Nat→Rat},(∀i c,i<n→c<n→g i c=g' i c)→dt n g=dt n g'
 |0,_,_,_=>rfl
 |n+1,g,g',h=>by
  simp only [dt]
  refine sZ fun k hk=>?_
  rw [h 0 k (by omega) hk,aCw (g:=mnr g k) (g':=mnr g' k) fun i c hi hc=>h (i+1) _ (by omega) (aNZ hc)]
theorem aNw {g:Nat→Nat→Rat} {f:Nat→Rat} {k:Nat}:mnr (wS g 0 f) k=mnr g k:=by
 funext i c
 unfold mnr
 rw [l5 (by omega)]
theorem aPa {g:Nat→Nat→Rat} {f:Nat→Rat} {k j:Nat}:mnr (wS g (j+1) f) k=wS (mnr g k) j (fun c=>f (skp k c)):=by
 funext i c
 unfold mnr
 by_cases h:i=j
 ·subst h;rw [eH,eH]
 ·rw [l5 (by omega),l5 h]
theorem aNT {u v:Nat→Rat} {a:Rat}:∀{n:Nat} {g:Nat→Nat→Rat} {i:Nat},i<n→dt n (wS g i (fun c=>u c-a*v c))=dt n (wS g i u)-a*dt n (wS g i v)
 |0,_,_,h=>by omega
 |n+1,g,0,_=>by
  simp only [dt,aNw,eH]
  rw [←aKJ]
  exact sZ fun k _=>by grind
 |n+1,g,j+1,h=>by
  simp only [dt,aPa,l5 (show 0≠j+1 by omega)]
  rw [←aKJ]
  refine sZ fun k _=>?_
  rw [aNT (u:=fun c=>u (skp k c)) (v:=fun c=>v (skp k c)) (a:=a) (show j<n by omega)]
  grind
theorem aEH (k:Nat):sgn (k+1)=-(sgn k):=by
 unfold sgn
 by_cases h:k%2=0
 ·rw [if_pos h,if_neg (by omega)]
 ·rw [if_neg h,if_pos (by omega)];grind
theorem aH2 (k:Nat):∀l,sgn (k+l)=sgn k*sgn l
 |0=>by
  have:sgn 0=1:=rfl
  rw [this,Nat.add_zero];grind
 |l+1=>by
  rw [←Nat.add_assoc,aEH,aH2 k l,aEH];grind
def aMi (k m c:Nat):Nat:=if c<min k m then c else if c+1<max k m then c+1 else c+2
theorem aPw (k l c:Nat):skp k (skp l c)=aMi k (skp k l) c:=by
 unfold aMi skp
 by_cases h1:l<k
 ·rw [if_pos h1]
  repeat' split
  all_goals omega
 ·rw [if_neg h1]
  repeat' split
  all_goals omega
theorem aMO (k m c:Nat):aMi k m c=aMi m k c:=by
 unfold aMi;rw [Nat.min_comm,Nat.max_comm]
def eps (k m:Nat):Rat:=if k<m then sgn (k+m+1) else sgn (k+m)
theorem aM4 {k m:Nat} (h:m≠k):eps k m=-(eps m k):=by
 unfold eps
 by_cases h1:k<m
 ·rw [if_pos h1,if_neg (by omega),aEH,Nat.add_comm]
 ·rw [if_neg h1,if_pos (by omega),aEH,Nat.add_comm];grind
theorem aO9 (k l:Nat):sgn k*sgn l=eps k (skp k l):=by
 unfold eps skp
 by_cases h:l<k
 ·rw [if_pos h,if_neg (by omega),aH2]
 ·rw [if_neg h,if_pos (by omega)]
  rw [show k+(l+1)+1=k+l+2 by omega,show sgn (k+l+2)=sgn (k+l) by unfold sgn;rw [show(k+l+2)%2=(k+l)%2 by omega],aH2]
def aKI (g:Nat→Nat→Rat) (k m i c:Nat):Rat:=g (i+2) (aMi k m c)
theorem aOl {n:Nat} {g:Nat→Nat→Rat}:dt (n+2) g=sm (fun k=>sm (fun m=>if m=k then 0 else eps k m*(g 0 k*(g 1 m*dt n (aKI g k m)))) (n+2)) (n+2):=by
 rw [dt]
 refine sZ fun k hk=>?_
 rw [←aOs (fun m=>eps k m*(g 0 k*(g 1 m*dt n (aKI g k m)))) (show k≤n+1 by omega),dt,←aIe,←aIe]
 refine sZ fun l _=>?_
 rw [←aO9,show dt n (mnr (mnr g k) l)=dt n (aKI g k (skp k l)) from congrArg (dt n) (by
  funext i c
  unfold mnr aKI
  rw [aPw])]
 unfold mnr
 grind
theorem aMP {n:Nat} {g:Nat→Nat→Rat}:dt (n+2) (yV g 0 1)=-(dt (n+2) g):=by
 rw [aOl,aOl,aLb,←aKd]
 refine sZ fun k _=>?_
 rw [←aKd]
 refine sZ fun m _=>?_
 by_cases h:k=m
 ·rw [if_pos h,if_pos h.symm];grind
 ·rw [if_neg h,if_neg (fun e=>h e.symm),aM4 (by exact fun e=>h e)]
  have e:aKI (yV g 0 1) m k=aKI g k m:=by
   funext i c
   unfold aKI yV
   rw [if_neg (by omega),if_neg (by omega),aMO]
  rw [e]
  have e1:yV g 0 1 0=g 1:=by unfold yV;rw [if_pos rfl]
  have e2:yV g 0 1 1=g 0:=by unfold yV;rw [if_neg (by omega),if_pos rfl]
  rw [e1,e2]
  grind
theorem aO4 {g:Nat→Nat→Rat} {a b k:Nat}:mnr (yV g (a+1) (b+1)) k=yV (mnr g k) a b:=by
 funext i c
 unfold mnr yV
 congr 1
 by_cases h1:i=a
 ·rw [if_pos (by omega),if_pos h1]
 ·rw [if_neg (by omega),if_neg h1]
  by_cases h2:i=b
  ·rw [if_pos (by omega),if_pos h2]
  ·rw [if_neg (by omega),if_neg h2]
theorem aH5:∀{n:Nat} {g:Nat→Nat→Rat} {i:Nat},i+1<n→dt n (yV g i (i+1))=-(dt n g)
 |0,_,_,h=>by omega
 |1,_,_,h=>by omega
 |n+2,g,0,_=>aMP
 |n+2,g,i+1,h=>by
  rw [dt,dt,←aKd]
  refine sZ fun k _=>?_
  rw [aO4,aH5 (show i+1<n+1 by omega)]
  have e1:yV g (i+1) (i+1+1) 0=g 0:=by unfold yV;rw [if_neg (by omega),if_neg (by omega)]
  rw [e1];grind
theorem aKB {n:Nat}:∀(t:Nat) {g:Nat→Nat→Rat} {i:Nat},i+t+1<n→dt n (yV g i (i+t+1))=-(dt n g)
 |0,g,i,h=>aH5 h
 |t+1,g,i,h=>by
  have e:yV g i (i+(t+1)+1)=yV (yV (yV g (i+t+1) (i+t+1+1)) i (i+t+1)) (i+t+1) (i+t+1+1):=by
   funext j
   unfold yV
   congr 1
   repeat' split
   all_goals omega
  rw [e,aH5 (by omega),aKB t (by omega),aH5 (by omega)];grind
theorem aOb {g:Nat→Nat→Rat} {a b:Nat}:yV g a b=yV g b a:=by
 funext j
 unfold yV
 congr 1
 repeat' split
 all_goals omega
structure Alt (h:Nat) (D:(Nat→Nat→Rat)→Rat):Prop where
 cong:∀g g':Nat→Nat→Rat,(∀i,i<h→g i=g' i)→D g=D g'
 lin:∀(g:Nat→Nat→Rat) (u v:Nat→Rat) (a:Rat) (i:Nat),i<h→D (wS g i (fun c=>u c-a*v c))=D (wS g i u)-a*D (wS g i v)
 swap:∀(g:Nat→Nat→Rat) (i j:Nat),i<h→j<h→i≠j→D (yV g i j)=-(D g)
theorem aN8 (n:Nat):Alt n (dt n):=⟨fun g g' h=>aCw fun i c hi _=>by rw [h i hi],fun g u v a i hi=>aNT hi,fun g i j hi hj hne=>by
 by_cases h:i<j
 ·obtain⟨t,rfl⟩:∃t,j=i+t+1:=⟨j-i-1,by omega⟩
  exact aKB t hj
 ·obtain⟨t,rfl⟩:∃t,i=j+t+1:=⟨i-j-1,by omega⟩
  rw [aOb]
  exact aKB t hi⟩
theorem Alt.zero {h:Nat} {D:(Nat→Nat→Rat)→Rat} (a:Alt h D) {g:Nat→Nat→Rat} {i:Nat} (hi:i<h) (hz:g i=fun _=>0):D g=0:=by
 have:=a.lin g (g i) (g i) 1 i hi
 have e:(fun c=>g i c-1*g i c)=g i:=by funext c;rw [hz];grind
 have e2:wS g i (g i)=g:=by
  funext j
  unfold wS
  split
  ·rename_i h;rw [h]
  ·rfl
 rw [e,e2] at this
 grind
theorem aNe {α:Type} {g:Nat→α} {i:Nat}:wS g i (g i)=g:=by
 funext j
 unfold wS
 split
 ·rename_i h;rw [h]
 ·rfl
theorem Alt.scale {h:Nat} {D:(Nat→Nat→Rat)→Rat} (a:Alt h D) {g:Nat→Nat→Rat} {u:Nat→Rat} {b:Rat} {i:Nat} (hi:i<h):D (wS g i (fun c=>b*u c))=b*D (wS g i u):=by
 have h1:=a.lin g (fun _=>0) u (-b) i hi
 have h2:D (wS g i (fun _=>0))=0:=a.zero hi eH
 rw [h2] at h1
 have e:(fun c=>(0:Rat)- -b*u c)=fun c=>b*u c:=by funext c;grind
 rw [e] at h1
 rw [h1];grind
theorem Alt.same {h:Nat} {D:(Nat→Nat→Rat)→Rat} (a:Alt h D) {g:Nat→Nat→Rat} {i j:Nat} (hi:i<h) (hj:j<h) (hne:i≠j) (he:g i=g j):D g=0:=by
 have h1:=a.swap g i j hi hj hne
 have e:yV g i j=g:=by
  funext l
  unfold yV
  split
  ·rename_i h;rw [h,he]
  ·split
   ·rename_i h;rw [h,he]
   ·rfl
 rw [e] at h1
 grind
theorem Alt.add {h:Nat} {D:(Nat→Nat→Rat)→Rat} (a:Alt h D) {g:Nat→Nat→Rat} {b:Rat} {i j:Nat} (hi:i<h) (hj:j<h) (hne:i≠j):D (wS g i (fun c=>g i c-b*g j c))=D g:=by
 rw [a.lin g (g i) (g j) b i hi,aNe,a.same (g:=wS g i (g j)) hi hj hne (by rw [eH,l5 (fun e=>hne e.symm)])]
 grind
def elm (g:Nat→Nat→Rat) (n k j i c:Nat):Rat:=if i<j∧i≠n then g i c-g i k*g n c else g i c
theorem Alt.elm0 {h:Nat} {D:(Nat→Nat→Rat)→Rat} (a:Alt h D) {g:Nat→Nat→Rat} {n k:Nat} (hn:n<h):∀j,j≤h→D (elm g n k j)=D g
 |0,_=>a.cong _ _ fun i _=>by
  funext c
  exact if_neg (by omega)
 |j+1,hj=>by
  refine Eq.trans ?_ (Alt.elm0 (k:=k) a hn j (by omega))
  by_cases he:j=n
  ·refine a.cong _ _ fun i _=>?_
   funext c
   unfold elm
   by_cases h1:i<j
   ·rw [if_pos ⟨by omega,by omega⟩,if_pos ⟨h1,by omega⟩]
   ·rw [if_neg (by omega),if_neg (by omega)]
  ·refine Eq.trans ?_ (a.add (g:=elm g n k j) (b:=g j k) (show j<h by omega) hn he)
   refine a.cong _ _ fun i _=>?_
   funext c
   by_cases h1:i=j
   ·subst h1
    rw [eH]
    unfold elm
    rw [if_pos ⟨by omega,he⟩,if_neg (by omega),if_neg (by omega)]
   ·rw [l5 h1]
    unfold elm
    by_cases h2:i<j∧i≠n
    ·rw [if_pos ⟨by omega,h2.2⟩,if_pos h2]
    ·rw [if_neg (by omega),if_neg h2]
theorem Alt.stp0 {h:Nat} {D:(Nat→Nat→Rat)→Rat} (a:Alt h D) {g:Nat→Nat→Rat} {n at0 k:Nat} (hn:n<h) (ha:at0<h) (hne:g at0 k≠0):D g=(if at0=n then 1 else -1)*g at0 k*D (stp g n at0 k):=by
 have e1:D (yV g n at0)=(if at0=n then 1 else -1)*D g:=by
  by_cases h1:at0=n
  ·rw [if_pos h1]
   have:yV g n at0=g:=by
    funext i
    unfold yV
    split
    ·rw [h1];congr 1;omega
    ·split
     ·congr 1;omega
     ·rfl
   rw [this];grind
  ·rw [if_neg h1,a.swap g n at0 hn ha (fun e=>h1 e.symm)];grind
 have e2:D (yV g n at0)=g at0 k*D (wS (yV g n at0) n (pr g at0 k)):=by
  rw [←a.scale hn]
  congr 1
  funext i
  by_cases h1:i=n
  ·subst h1
   rw [eH]
   funext c
   unfold yV pr
   rw [if_pos rfl,Rat.div_def,Rat.mul_comm (g at0 c),←Rat.mul_assoc,Rat.mul_inv_cancel _ hne,Rat.one_mul]
  ·rw [l5 h1]
 have e3:D (stp g n at0 k)=D (wS (yV g n at0) n (pr g at0 k)):=by
  rw [←a.elm0 (g:=wS (yV g n at0) n (pr g at0 k)) (n:=n) (k:=k) hn h (Nat.le_refl _)]
  refine a.cong _ _ fun i hi=>?_
  funext c
  unfold stp elm
  by_cases h1:i=n
  ·subst h1
   rw [if_pos rfl,if_neg (by omega),eH]
  ·rw [if_neg h1,if_pos ⟨hi,h1⟩,l5 h1,eH]
 rw [e3]
 have e4:D g=(if at0=n then 1 else -1)*D (yV g n at0):=by
  rw [e1]
  split<;>grind
 rw [e4,e2];grind
theorem Alt.red0 {h:Nat} {D:(Nat→Nat→Rat)→Rat} (a:Alt h D) {g:Nat→Nat→Rat}:∀k,D g=(xH g h k).d*D (xH g h k).g
 |0=>by simp only [xH];grind
 |k+1=>by
  refine(Alt.red0 a k).trans ?_
  have hl:=(aKR (g:=g) (h:=h) k).ph
  simp only [xH]
  generalize xH g h k=s at *
  unfold aA5
  split
  ·rfl
  ·rename_i hat
   have hp:=aD6 (g:=s.g) (k:=k) (h-s.ps.length) s.ps.length
   have hlt:piv s.g k (h-s.ps.length) s.ps.length<h:=by omega
   have hne:=aHi (g:=s.g) (k:=k) (h-s.ps.length) s.ps.length (by omega)
   rw [a.stp0 (g:=s.g) (n:=s.ps.length) (at0:=piv s.g k (h-s.ps.length) s.ps.length) (k:=k) (by omega) hlt hne]
   simp only
   split<;>grind
end Go.Proofs.YtolfcbpgmfbgmaaGreat
set_option linter.unusedVariables false
namespace Go.Proofs.YtolfcbpgmfbgmaaGreat
/-- What a machine's integer is. -/
def I64 (x:Int):Prop:=-9223372036854775808≤x∧x≤9223372036854775807
theorem aOV {x y:Int} (hx:I64 x) (hy:2≤y):∃v,chq x y=some v∧I64 v:=by
 have h1:(x.tdiv y).natAbs≤x.natAbs:=by
  rw [Int.natAbs_tdiv];exact Nat.div_le_self _ _
 have h2:I64 (x.tdiv y):=by
  have h0:(x.tdiv y).natAbs=x.natAbs/y.natAbs:=Int.natAbs_tdiv x y
  have h3:x.natAbs/y.natAbs≤x.natAbs/2:=Nat.div_le_div_left (by omega) (by omega)
  unfold I64 at *
  omega
 refine⟨x.tdiv y,?_,h2⟩
 unfold chq
 rw [if_neg (by omega)]
 exact vX h2
end Go.Proofs.YtolfcbpgmfbgmaaGreat
set_option linter.unusedVariables false
namespace Go.Proofs.YtolfcbpgmfbgmaaGreat
/-- A matrix with a column more. -/
def wid (g:Nat→Nat→Rat) (f:Nat→Rat) (w i c:Nat):Rat:=if c<w then g i c else f i
theorem aLM {g:Nat→Nat→Rat} {f:Nat→Rat} {w i:Nat}:mp (g i) w++[f i]=mp (wid g f w i) (w+1):=by
 rw [aBD]
 have e:wid g f w i w=f i:=if_neg (Nat.lt_irrefl w)
 rw [e,tA (f:=wid g f w i) (g:=g i) fun c hc=>if_pos hc]
theorem aJ3 {g:Nat→Nat→Rat} {f:Nat→Rat} {h w b:Nat} (hg:yW h w b g) (hf:∀i,i<h→Bd b (f i)):yW h (w+1) b (wid g f w):=fun i c hi hc=>by
 unfold wid
 split
 ·exact hg i c hi ‹_›
 ·exact hf i hi
theorem aHo {g:Nat→Nat→Rat} {f:Nat→Rat} {h w:Nat} (hh:h≤64) (hw:w≤64) (K:Nat):∀(t i k:Nat),i+t=h→t<k→l3 K (mx g h w) (mp f h) k (mx (wid g f w) i (w+1)) (i:Int)=some (mx (wid g f w) h (w+1))
 |0,i,k,hi,hk=>by
  obtain⟨k',rfl,_⟩:=aY hk
  have:i=h:=by omega
  subst this
  simp only [l3,gN,dF (show¬(i:Int)<(i:Int) by omega),bM]
 |t+1,i,k,hi,hk=>by
  obtain⟨k',rfl,_⟩:=aY hk
  have e2:oG ([]:List Rat) (mp (g i) w)=some (mp (g i) w):=by rw [xM (by rw [aZ,List.length_nil];omega),List.nil_append]
  have e3:oG (mp (g i) w) [f i]=some (mp (wid g f w i) (w+1)):=by rw [apS (by rw [aZ];omega),aLM]
  have e4:oG (mx (wid g f w) i (w+1)) [mp (wid g f w i) (w+1)]=some (mx (wid g f w) (i+1) (w+1)):=apM (g:=fun i=>mp (wid g f w i) (w+1)) (by omega)
  simp only [l3,gN,dT (show(i:Int)<(h:Int) by omega),bS,zG (g:=g) (w:=w) (show i<h by omega),oB,iZ,e2,lX (f:=f) (show i<h by omega),e3,e4,uL (i:=i) (by omega)]
  exact aHo hh hw K t (i+1) k' (by omega) (by omega)
theorem aGL {f:Nat→Rat} {h:Nat} (hh:h≤64) (K:Nat):∀(t i k:Nat),i+t=h→t<k→iM K (mp f h) k (mp (fun i=>[f i]) i) (i:Int)=some (mp (fun i=>[f i]) h)
 |0,i,k,hi,hk=>by
  obtain⟨k',rfl,_⟩:=aY hk
  have:i=h:=by omega
  subst this
  simp only [iM,aZ,dF (show¬(i:Int)<(i:Int) by omega),bM]
 |t+1,i,k,hi,hk=>by
  obtain⟨k',rfl,_⟩:=aY hk
  simp only [iM,aZ,dT (show(i:Int)<(h:Int) by omega),bS,lX (f:=f) (show i<h by omega),oB,apM (g:=fun i=>[f i]) (i:=i) (by omega),uL (i:=i) (by omega)]
  exact aGL hh K t (i+1) k' (by omega) (by omega)
theorem aGt {g:Nat→Nat→Rat} {f:Nat→Rat} {h w:Nat} (hh:h≤64) (hw:w≤64) (K:Nat):∀(t i k:Nat),i+t=h→t<k→gM K (mx g h w) (mp (fun i=>[f i]) h) k (mx (wid g f w) i (w+1)) (i:Int)=some (mx (wid g f w) h (w+1))
 |0,i,k,hi,hk=>by
  obtain⟨k',rfl,_⟩:=aY hk
  have:i=h:=by omega
  subst this
  simp only [gM,gN,dF (show¬(i:Int)<(i:Int) by omega),bM]
 |t+1,i,k,hi,hk=>by
  obtain⟨k',rfl,_⟩:=aY hk
  have e2:oG ([]:List Rat) (mp (g i) w)=some (mp (g i) w):=by rw [xM (by rw [aZ,List.length_nil];omega),List.nil_append]
  have e3:oG (mp (g i) w) [f i]=some (mp (wid g f w i) (w+1)):=by rw [apS (by rw [aZ];omega),aLM]
  have e4:oG (mx (wid g f w) i (w+1)) [mp (wid g f w i) (w+1)]=some (mx (wid g f w) (i+1) (w+1)):=apM (g:=fun i=>mp (wid g f w i) (w+1)) (by omega)
  simp only [gM,gN,dT (show(i:Int)<(h:Int) by omega),bS,zG (g:=g) (w:=w) (show i<h by omega),oB,e2,lX (f:=fun i=>[f i]) (show i<h by omega),e3,e4,uL (i:=i) (by omega)]
  exact aGt hh hw K t (i+1) k' (by omega) (by omega)
def aB6 (g:Nat→Nat→Rat) (w:Nat):Nat→Nat→Bool
 |0,_=>false
 |t+1,i=>if g i w=0 then aB6 g w t (i+1) else true
theorem aHj {g:Nat→Nat→Rat} {h w b n:Nat} (hg:yW h (w+1) b g) (hb:b≤1073741824) (hh:h≤1000) (hn:n≤h) (K:Nat):∀(t i k:Nat),n+i+t=h→t<k→l9 K (w:Int) (mp (fun j=>mp (g (n+j)) (w+1)) (h-n)) k (i:Int)=some (if aB6 g w t (n+i)=true then .ret ([],6) else .go ())
 |0,i,k,hi,hk=>by
  obtain⟨k',rfl,_⟩:=aY hk
  simp only [l9,aZ,dF (show¬(i:Int)<((h-n:Nat):Int) by omega),bM,aB6]
  rfl
 |t+1,i,k,hi,hk=>by
  obtain⟨k',rfl,_⟩:=aY hk
  have hx:=hg (n+i) w (by omega) (by omega)
  simp only [l9,aZ,dT (show(i:Int)<((h-n:Nat):Int) by omega),bS,lX (f:=fun j=>mp (g (n+j)) (w+1)) (show i<h-n by omega),oB,lX (f:=g (n+i)) (show w<w+1 by omega),uS hx hb,aB6]
  by_cases hz:g (n+i) w=0
  ·simp only [nF (aCy.2 hz),bM,if_pos hz,uL (i:=i) (by omega),oB]
   exact aHj hg hb hh hn K t (i+1) k' (by omega) (by omega)
  ·simp only [nT (fun h=>hz (aCy.1 h)),bS,if_neg hz,if_true]
theorem aGP {g:Nat→Nat→Rat} {h w b:Nat} {ps:List Int} (hg:yW h (w+1) b g) (hb:b≤1073741824) (hh:h≤1000) (K:Nat):∀(t i k:Nat),i+t=h→t<k→iH K (w:Int) (mx g h (w+1),ps) k (i:Int)=some (if aB6 g w t i=true then .ret ([],false) else .go ())
 |0,i,k,hi,hk=>by
  obtain⟨k',rfl,_⟩:=aY hk
  simp only [iH,gN,dF (show¬(i:Int)<(h:Int) by omega),bM,aB6]
  rfl
 |t+1,i,k,hi,hk=>by
  obtain⟨k',rfl,_⟩:=aY hk
  have hx:=hg i w (by omega) (by omega)
  simp only [iH,gN,dT (show(i:Int)<(h:Int) by omega),bS,zG (g:=g) (w:=w+1) (show i<h by omega),oB,lX (f:=g i) (show w<w+1 by omega),uS hx hb,aB6]
  by_cases hz:g i w=0
  ·simp only [nF (aCy.2 hz),bM,if_pos hz,uL (i:=i) (by omega),oB]
   exact aGP hg hb hh K t (i+1) k' (by omega) (by omega)
  ·simp only [nT (fun h=>hz (aCy.1 h)),bS,if_neg hz,if_true]
def aEM (s:RS) (w:Nat):Nat→Nat→Rat
 |0=>fun _=>0
 |m+1=>wS (aEM s w m) (pat s.ps m) (s.g m w)
theorem aMa {s:RS} {h w b:Nat} (hb:yW h (w+1) b s.g) (h1:1≤b) (hp:s.ps.length≤h):∀m,m≤s.ps.length→∀c,Bd b (aEM s w m c)
 |0,_,c=>Bd.zero.mono h1
 |m+1,hm,c=>by
  unfold aEM wS
  split
  ·exact hb m w (by omega) (by omega)
  ·exact aMa hb h1 hp m (by omega) c
theorem aHI {s:RS} {h w:Nat} (hp:s.ps.length≤h) (hh:h≤1000) (hpw:∀j∈s.ps,j<w) (d:Rat) (K:Nat):∀(t i k:Nat),i+t=s.ps.length→t<k→l7 K (w:Int) ⟨mx s.g h (w+1),uJ s.ps,d⟩ k (mp (aEM s w i) w) (i:Int)=some (mp (aEM s w s.ps.length) w)
 |0,i,k,hi,hk=>by
  obtain⟨k',rfl,_⟩:=aY hk
  have:i=s.ps.length:=by omega
  subst this
  simp only [l7,fU,dF (show¬(s.ps.length:Int)<(s.ps.length:Int) by omega),bM]
 |t+1,i,k,hi,hk=>by
  obtain⟨k',rfl,_⟩:=aY hk
  have hl:i<s.ps.length:=by omega
  have hw':=hpw _ (aHS hl)
  simp only [l7,fU,dT (show(i:Int)<(s.ps.length:Int) by omega),bS,rdI hl,oB,zG (g:=s.g) (w:=w+1) (show i<h by omega),lX (f:=s.g i) (show w<w+1 by omega),lX (f:=aEM s w i) hw',aEm (f:=aEM s w i) hw',uL (i:=i) (by omega)]
  exact aHI hp hh hpw d K t (i+1) k' (by omega) (by omega)
theorem aFX {s:RS} {h w:Nat} (hp:s.ps.length≤h) (hh:h≤1000) (hpw:∀j∈s.ps,j<w) (K:Nat):∀(t i k:Nat),i+t=s.ps.length→t<k→iG K (w:Int) (mx s.g h (w+1),uJ s.ps) k (mp (aEM s w i) w) (i:Int)=some (mp (aEM s w s.ps.length) w)
 |0,i,k,hi,hk=>by
  obtain⟨k',rfl,_⟩:=aY hk
  have:i=s.ps.length:=by omega
  subst this
  simp only [iG,fU,dF (show¬(s.ps.length:Int)<(s.ps.length:Int) by omega),bM]
 |t+1,i,k,hi,hk=>by
  obtain⟨k',rfl,_⟩:=aY hk
  have hl:i<s.ps.length:=by omega
  have hw':=hpw _ (aHS hl)
  simp only [iG,fU,dT (show(i:Int)<(s.ps.length:Int) by omega),bS,rdI hl,oB,zG (g:=s.g) (w:=w+1) (show i<h by omega),lX (f:=s.g i) (show w<w+1 by omega),lX (f:=aEM s w i) hw',aEm (f:=aEM s w i) hw',uL (i:=i) (by omega)]
  exact aFX hp hh hpw K t (i+1) k' (by omega) (by omega)
def aBe (g:Nat→Nat→Rat) (f:Nat→Rat) (h w:Nat):Option (List Rat):=
 let s:=xH (wid g f w) h w
 if aB6 s.g w (h-s.ps.length) s.ps.length=true then none else some (mp (aEM s w s.ps.length) w)
theorem aMG {g:Nat→Nat→Rat} {f:Nat→Rat} {h w b:Nat} (hg:yW h w b g) (hf:∀i,i<h→Bd b (f i)) (hc:Cok h w) (hb:2≤b) (hB:5^w*b≤200000000) (hh:h≤64) (hw:w≤63) {K:Nat} (hK:w+1+h<K):
  wQ K (mx g h w) (mp f h)=some (match aBe g f h w with|none=>([],6)|some x=>(x,0)):=by
 have hgw:=aJ3 hg hf
 have r:=aEP hgw hb w (by omega)
 have h29:=aHo (g:=g) (f:=f) hh (show w≤64 by omega) K h 0 K (by omega) (by omega)
 have z1:mx (wid g f w) 0 (w+1)=[]:=rfl
 rw [z1] at h29
 simp only [Int.natCast_zero,tX] at h29
 have hrd:=aG8 hgw hb (show w≤w+1 by omega) hB (show h≤1000 by omega) (show w+1≤1000 by omega) (K:=K) (by omega)
 have hpk:∀j∈(xH (wid g f w) h w).ps,j<w:=r.pk
 have hbig:5^w*b≤1073741824:=by omega
 unfold aBe
 generalize xH (wid g f w) h w=s at *
 have hp:=r.ph
 have h38:=aHj r.bd hbig (show h≤1000 by omega) hp K (h-s.ps.length) 0 K (by omega) (by omega)
 have h65:=aHI hp (show h≤1000 by omega) hpk s.d K s.ps.length 0 K (by omega) (by omega)
 simp only [Int.natCast_zero,Nat.add_zero,aEM] at h38 h65
 have hsl:slL (mx s.g h (w+1)) (s.ps.length:Int) (h:Int)=some (mp (fun j=>mp (s.g (s.ps.length+j)) (w+1)) (h-s.ps.length)):=aSX (f:=fun j=>mp (s.g j) (w+1)) hp
 simp only [wQ,aJK hc hh (show w≤64 by omega) (K:=K) (by omega),oB,Bool.not_true,bM,aZ,gN,nF (rfl:(h:Int)=(h:Int)),aH9 hc,h29,vC,hrd,fU,hsl,h38]
 by_cases hin:aB6 s.g w (h-s.ps.length) s.ps.length=true
 ·simp only [if_pos hin]
 ·simp only [if_neg hin,vF,aHN (n:=w) (z:=(0:Rat)) (by omega),oB,h65,vG]
theorem aMl {g:Nat→Nat→Rat} {f:Nat→Rat} {h w b:Nat} (hg:yW h w b g) (hf:∀i,i<h→Bd b (f i)) (hc:Cok h w) (hb:2≤b) (hB:5^w*b≤200000000) (hh:h≤64) (hw:w≤63) {K:Nat} (hK:w+1+h<K):
  qQ K (mx g h w) (mp f h)=some (match aBe g f h w with|none=>([],false)|some x=>(x,true)):=by
 have hgw:=aJ3 hg hf
 have r:=aEP hgw hb w (by omega)
 have h25:=aGL (f:=f) hh K h 0 K (by omega) (by omega)
 have h23:=aGt (g:=g) (f:=f) hh (show w≤64 by omega) K h 0 K (by omega) (by omega)
 have z1:mx (wid g f w) 0 (w+1)=[]:=rfl
 rw [z1] at h23
 simp only [Int.natCast_zero,tX] at h25 h23
 have hrr:=aKv hgw hb (show w≤w+1 by omega) hB (show h≤1000 by omega) (show w+1≤1000 by omega) (K:=K) (by omega)
 have hpk:∀j∈(xH (wid g f w) h w).ps,j<w:=r.pk
 have hbig:5^w*b≤1073741824:=by omega
 unfold aBe
 generalize xH (wid g f w) h w=s at *
 have hp:=r.ph
 have h33:=aGP (ps:=uJ s.ps) r.bd hbig (show h≤1000 by omega) K (h-s.ps.length) s.ps.length K (by omega) (by omega)
 have h60:=aFX hp (show h≤1000 by omega) hpk K s.ps.length 0 K (by omega) (by omega)
 simp only [Int.natCast_zero,aEM] at h60
 simp only [qQ,aNK hc,oB,h25,pZ,sT,h23,oR,hrr,fU,h33]
 by_cases hin:aB6 s.g w (h-s.ps.length) s.ps.length=true
 ·simp only [if_pos hin]
 ·simp only [if_neg hin,pQ,aHN (n:=w) (z:=(0:Rat)) (by omega),oB,h60,p8]
theorem aHH {g:Nat→Nat→Rat} {f:Nat→Rat} {h w b:Nat} (hg:yW h w b g) (hf:∀i,i<h→Bd b (f i)) (hb:2≤b) {x:List Rat} (hx:aBe g f h w=some x):x.length=w∧Bds (5^w*b) x:=by
 have r:=aEP (aJ3 hg hf) hb w (by omega)
 unfold aBe at hx
 generalize xH (wid g f w) h w=s at *
 by_cases hin:aB6 s.g w (h-s.ps.length) s.ps.length=true
 ·simp only [if_pos hin] at hx;cases hx
 ·simp only [if_neg hin,Option.some.injEq] at hx
  subst hx
  exact⟨aZ _ _,y8 fun i _=>aMa r.bd (by have:=aJM w b hb;omega) r.ph _ (Nat.le_refl _) i⟩
end Go.Proofs.YtolfcbpgmfbgmaaGreat
set_option linter.unusedVariables false
namespace Go.Proofs.YtolfcbpgmfbgmaaGreat
/-- The size of a sum of products. -/
theorem aK1 {f e:Nat→Rat} {w b b':Nat} (hf:∀c,c<w→Bd b (f c)) (he:∀c,c<w→Bd b' (e c)):∀i,i≤w→Bd (1+i*(b+b'+1)) (sm (fun c=>f c*e c) i)
 |0,_=>Bd.zero.mono (by omega)
 |i+1,hi=>by
  simp only [sm]
  have hs:1+i*(b+b'+1)+(b+b')+1=1+(i+1)*(b+b'+1):=by rw [Nat.add_mul];omega
  exact((aK1 hf he i (by omega)).add ((hf i (by omega)).mul (he i (by omega)))).mono (by omega)
theorem aN6 {f e:Nat→Rat} {w b:Nat} (hf:∀c,c<w→Bd b (f c)) (he:∀c,c<w→Bd b (e c)) (hb:b≤1000000) (hw:w≤100) (K:Nat):∀(t i k:Nat),i+t=w→t<k→Bd (1+i*(b+b+1)) (sm (fun c=>f c*e c) i)→Bd (1+w*(b+b+1)) (sm (fun c=>f c*e c) w)∧kC K (mp f w) (mp e w) k (sm (fun c=>f c*e c) i) (i:Int)=some (sm (fun c=>f c*e c) w)
 |0,i,k,hi,hk,ha=>by
  obtain⟨k',rfl,_⟩:=aY hk
  have:i=w:=by omega
  subst this
  exact⟨ha,by simp only [kC,aZ,dF (show¬(i:Int)<(i:Int) by omega),bM]⟩
 |t+1,i,k,hi,hk,ha=>by
  obtain⟨k',rfl,_⟩:=aY hk
  have hx:=hf i (by omega)
  have hy:=he i (by omega)
  have hib:i*(b+b+1)≤100*2000001:=Nat.mul_le_mul (by omega) (by omega)
  have hs:1+i*(b+b+1)+(b+b)+1=1+(i+1)*(b+b+1):=by rw [Nat.add_mul];omega
  obtain⟨r1,r2⟩:=aN6 hf he hb hw K t (i+1) k' (by omega) (by omega) (by simp only [sm];exact(ha.add (hx.mul hy)).mono (by omega))
  refine⟨r1,?_⟩
  simp only [kC,aZ,dT (show(i:Int)<(w:Int) by omega),bS,lX (f:=f) (show i<w by omega),lX (f:=e) (show i<w by omega),oB,aC1 hx hy (by omega) (by omega),aAX ha (hx.mul hy) (by omega) (by omega),uL (i:=i) (by omega)]
  exact r2
theorem aMX {f e:Nat→Rat} {w b:Nat} (hf:∀c,c<w→Bd b (f c)) (he:∀c,c<w→Bd b (e c)) (hb:b≤1000000) (hw:w≤100) {K:Nat} (hK:w<K):Bd (1+w*(b+b+1)) (sm (fun c=>f c*e c) w)∧k6 K (mp f w) (mp e w)=some (sm (fun c=>f c*e c) w):=by
 obtain⟨r1,r2⟩:=aN6 hf he hb hw K w 0 K (by omega) hK (Bd.zero.mono (by omega))
 simp only [Int.natCast_zero,sm] at r2
 exact⟨r1,by simp only [k6,r2,oB,sV]⟩
end Go.Proofs.YtolfcbpgmfbgmaaGreat
set_option linter.unusedVariables false
namespace Go.Proofs.YtolfcbpgmfbgmaaGreat
end Go.Proofs.YtolfcbpgmfbgmaaGreat
set_option linter.unusedVariables false
namespace Go.Proofs.YtolfcbpgmfbgmaaGreat
end Go.Proofs.YtolfcbpgmfbgmaaGreat
set_option linter.unusedVariables false
namespace Go.Proofs.YtolfcbpgmfbgmaaGreat
theorem aR9:sgn 0=1:=rfl
def aF3 (i c:Nat):Rat:=if i=c then 1 else 0
theorem aL1:∀n,dt n aF3=1
 |0=>rfl
 |n+1=>by
  rw [dt,aRj (p:=0) (by omega) fun k _ hk=>by unfold aF3;rw [if_neg (fun e=>hk e.symm)];grind]
  have e:dt n (mnr aF3 0)=dt n aF3:=aCw fun i c _ _=>by
   unfold mnr aF3 skp
   rw [if_neg (Nat.not_lt_zero c)]
   by_cases h:i=c
   ·rw [if_pos h,if_pos (by omega)]
   ·rw [if_neg h,if_neg (by omega)]
  rw [e,aL1 n,aR9]
  unfold aF3
  rw [if_pos rfl];grind
theorem aJY {g:Nat→Nat→Rat} {h:Nat}:∀k,(xH g h k).d≠0
 |0=>by simp only [xH];decide
 |k+1=>by
  have ih:=aJY (g:=g) (h:=h) k
  have hl:=(aKR (g:=g) (h:=h) k).ph
  simp only [xH]
  generalize xH g h k=s at *
  unfold aA5
  split
  ·exact ih
  ·rename_i hat
   have hp:=aD6 (g:=s.g) (k:=k) (h-s.ps.length) s.ps.length
   have hne:=aHi (g:=s.g) (k:=k) (h-s.ps.length) s.ps.length (by omega)
   simp only
   intro hz
   rcases Rat.mul_eq_zero.1 hz with h1|h1
   ·split at h1
    ·exact ih h1
    ·exact ih (by grind)
   ·exact hne h1
theorem aMW {h k:Nat} {s:RS} (hs:RJ h k s):∀i,i<s.ps.length→i≤pat s.ps i
 |0,_=>Nat.zero_le _
 |i+1,hi=>by
  have:=aMW hs i (by omega)
  have:=hs.inc i (i+1) (by omega) hi
  omega
theorem aJJ {h k:Nat} {s:RS} (hs:RJ h k s):∀t i,i+t+1=s.ps.length→pat s.ps i+t<k
 |0,i,hi=>hs.pk i (by omega)
 |t+1,i,hi=>by
  have:=aJJ hs t (i+1) (by omega)
  have:=hs.inc i (i+1) (by omega) (by omega)
  omega
theorem aOm {h k:Nat} {s:RS} (hs:RJ h k s) (hf:s.ps.length=k) {i:Nat} (hi:i<k):pat s.ps i=i:=by
 have h1:=aMW hs i (by omega)
 have h2:=aJJ hs (k-1-i) i (by omega)
 omega
theorem aMJ {h k:Nat} {s:RS} (hs:RJ h k s) (hf:s.ps.length=k) {i c:Nat} (hi:i<h) (hc:c<k):s.g i c=if i=c then 1 else 0:=by
 have:=hs.one c i (by omega) hi
 rw [aOm hs hf hc] at this
 exact this
def aQY (g:Nat→Nat→Rat) (n:Nat):Rat:=if(xH g n n).ps.length=n then(xH g n n).d else 0
theorem aQ5 {g:Nat→Nat→Rat} {n:Nat}:dt n g=aQY g n:=by
 have hJ:=aKR (g:=g) (h:=n) n
 unfold aQY
 rw [(aN8 n).red0 (g:=g) n]
 split
 ·rename_i hf
  rw [aCw (g':=aF3) fun i c hi hc=>aMJ hJ hf hi hc,aL1];grind
 ·rename_i hf
  have hlt:(xH g n n).ps.length<n:=by have:=hJ.ph;omega
  rw [aCw (g':=fun i c=>if c<n then(xH g n n).g i c else 0) fun i c hi hc=>by rw [if_pos hc],(aN8 n).zero (i:=n-1) (by omega) ?_]
  ·grind
  ·funext c
   split
   ·rename_i hc
    exact hJ.z (n-1) c (by omega) (by omega) hc
   ·rfl
def aIg (g:Nat→Nat→Rat) (h w:Nat):Nat:=(xH g h w).ps.length
theorem aLE {g:Nat→Nat→Rat} {n:Nat}:dt n g≠0↔aIg g n n=n:=by
 rw [aQ5]
 unfold aQY aIg
 split
 ·rename_i h;exact⟨fun _=>h,fun _=>aJY n⟩
 ·rename_i h;exact⟨fun h'=>absurd rfl h',fun h'=>absurd h' h⟩
end Go.Proofs.YtolfcbpgmfbgmaaGreat
set_option linter.unusedVariables false
namespace Go.Proofs.YtolfcbpgmfbgmaaGreat
def isZ (M:Nat) (x:Rat):Prop:=∃q:Int,x=(q:Rat)∧q.natAbs≤M
theorem isZ.mono {M N:Nat} {x:Rat} (h:isZ M x) (hn:M≤N):isZ N x:=by
 obtain⟨q,h1,h2⟩:=h
 exact⟨q,h1,by omega⟩
theorem isZ.add {M N:Nat} {x y:Rat} (h:isZ M x) (k:isZ N y):isZ (M+N) (x+y):=by
 obtain⟨q,h1,h2⟩:=h
 obtain⟨p,k1,k2⟩:=k
 exact⟨q+p,by rw [h1,k1,Rat.intCast_add],by omega⟩
theorem isZ.mul {M N:Nat} {x y:Rat} (h:isZ M x) (k:isZ N y):isZ (M*N) (x*y):=by
 obtain⟨q,h1,h2⟩:=h
 obtain⟨p,k1,k2⟩:=k
 exact⟨q*p,by rw [h1,k1,Rat.intCast_mul],by rw [Int.natAbs_mul];exact Nat.mul_le_mul h2 k2⟩
end Go.Proofs.YtolfcbpgmfbgmaaGreat
set_option linter.unusedVariables false
namespace Go.Proofs.YtolfcbpgmfbgmaaGreat
end Go.Proofs.YtolfcbpgmfbgmaaGreat
set_option linter.unusedVariables false
namespace Go.Proofs.YtolfcbpgmfbgmaaGreat
end Go.Proofs.YtolfcbpgmfbgmaaGreat
set_option linter.unusedVariables false
namespace Go.Proofs.YtolfcbpgmfbgmaaGreat
end Go.Proofs.YtolfcbpgmfbgmaaGreat
set_option linter.unusedVariables false
namespace Go.Proofs.YtolfcbpgmfbgmaaGreat
end Go.Proofs.YtolfcbpgmfbgmaaGreat
set_option linter.unusedVariables false
namespace Go.Proofs.YtolfcbpgmfbgmaaGreat
theorem aLe {m:Nat} {a:Rat} (ha:Bd m a) (hm:m≤1073741824):aMF a=some true:=by unfold aMF;rw [ha.qs hm];rfl
end Go.Proofs.YtolfcbpgmfbgmaaGreat
set_option linter.unusedVariables false
namespace Go.Proofs.YtolfcbpgmfbgmaaGreat
end Go.Proofs.YtolfcbpgmfbgmaaGreat
set_option linter.unusedVariables false
namespace Go.Proofs.YtolfcbpgmfbgmaaGreat
end Go.Proofs.YtolfcbpgmfbgmaaGreat
set_option linter.unusedVariables false
namespace Go.Proofs.YtolfcbpgmfbgmaaGreat
end Go.Proofs.YtolfcbpgmfbgmaaGreat
set_option linter.unusedVariables false
namespace Go.Proofs.YtolfcbpgmfbgmaaGreat
def z0:Nat→Rat:=fun _=>0
end Go.Proofs.YtolfcbpgmfbgmaaGreat
set_option linter.unusedVariables false
namespace Go.Proofs.YtolfcbpgmfbgmaaGreat
def ord (N:Nat):List Nat:=mp (fun i=>i+1) N
end Go.Proofs.YtolfcbpgmfbgmaaGreat
set_option linter.unusedVariables false
namespace Go.Proofs.YtolfcbpgmfbgmaaGreat
end Go.Proofs.YtolfcbpgmfbgmaaGreat
set_option linter.unusedVariables false
namespace Go.Proofs.YtolfcbpgmfbgmaaGreat
/-- A number that is whole when it is multiplied so often. -/
def dn (D e M:Nat) (x:Rat):Prop:=isZ M (x*((D^e:Nat):Rat))
theorem dn.mono {D e M N:Nat} {x:Rat} (h:dn D e M x) (hn:M≤N):dn D e N x:=isZ.mono h hn
theorem dn.zero {D e M:Nat}:dn D e M 0:=⟨0,by rw [Rat.zero_mul];rfl,Nat.zero_le _⟩
theorem dn.add {D e M N:Nat} {x y:Rat} (h:dn D e M x) (k:dn D e N y):dn D e (M+N) (x+y):=by
 unfold dn;rw [Rat.add_mul];exact isZ.add h k
theorem dn.neg {D e M:Nat} {x:Rat} (h:dn D e M x):dn D e M (-x):=by
 obtain⟨q,h1,h2⟩:=h
 exact⟨-q,by rw [Rat.neg_mul,h1,Rat.intCast_neg],by omega⟩
theorem dn.mul {D e e' M N:Nat} {x y:Rat} (h:dn D e M x) (k:dn D e' N y):dn D (e+e') (M*N) (x*y):=by
 have:=isZ.mul h k
 unfold dn
 rw [Nat.pow_add,Rat.natCast_mul]
 have e2:x*y*(((D^e:Nat):Rat)*((D^e':Nat):Rat))=x*((D^e:Nat):Rat)*(y*((D^e':Nat):Rat)):=by
  rw [Rat.mul_assoc,←Rat.mul_assoc y,Rat.mul_comm y,Rat.mul_assoc ((D^e:Nat):Rat),←Rat.mul_assoc]
 rw [e2];exact this
theorem dn.up {D e M:Nat} {x:Rat} (h:dn D e M x):dn D (e+1) (M*D) x:=by
 have h1:dn D 1 D 1:=⟨(D:Int),by rw [Rat.one_mul,Nat.pow_one];rfl,by simp⟩
 have:=h.mul h1
 rwa [Rat.mul_one] at this
end Go.Proofs.YtolfcbpgmfbgmaaGreat
set_option linter.unusedVariables false
namespace Go.Proofs.YtolfcbpgmfbgmaaGreat
end Go.Proofs.YtolfcbpgmfbgmaaGreat
set_option linter.unusedVariables false
namespace Go.Proofs.YtolfcbpgmfbgmaaGreat
def aO5 (n j:Nat):Nat:=if j=0 then 2*n+1 else j-1
def lx (T:Nat→Nat→Rat) (n i:Nat) (c:Rat) (k:Nat) (d:Rat):Nat→Nat→Bool
 |0,_=>false
 |t+1,j=>bif decide (T i (aO5 n j)/c=T k (aO5 n j)/d) then lx T n i c k d t (j+1) else decide (T i (aO5 n j)/c<T k (aO5 n j)/d)
def les (T:Nat→Nat→Rat) (n i:Nat) (c:Rat) (k:Nat) (d:Rat):Bool:=lx T n i c k d (n+1) 0
end Go.Proofs.YtolfcbpgmfbgmaaGreat
set_option linter.unusedVariables false
namespace Go.Proofs.YtolfcbpgmfbgmaaGreat
end Go.Proofs.YtolfcbpgmfbgmaaGreat
set_option linter.unusedVariables false
namespace Go.Proofs.YtolfcbpgmfbgmaaGreat
def enc (s:Option Nat):Int:=match s with|none=>-1|some r=>(r:Int)
end Go.Proofs.YtolfcbpgmfbgmaaGreat
set_option linter.unusedVariables false
namespace Go.Proofs.YtolfcbpgmfbgmaaGreat
end Go.Proofs.YtolfcbpgmfbgmaaGreat
set_option linter.unusedVariables false
namespace Go.Proofs.YtolfcbpgmfbgmaaGreat
theorem aJF {l:List Rat} {B:Nat} (hl:Bds B l) (hB:B≤1073741824) (hn:l.length≤1000) (K:Nat):∀(t i k:Nat),i+t=l.length→t<k→kL K l k (i:Int)=some (.go ())
 |0,i,k,hi,hk=>by
  obtain⟨k',rfl,_⟩:=aY hk
  simp only [kL,dF (show¬(i:Int)<(l.length:Int) by omega),bM]
 |t+1,i,k,hi,hk=>by
  obtain⟨k',rfl,_⟩:=aY hk
  simp only [kL,dT (show(i:Int)<(l.length:Int) by omega),bS,aIj (l:=l) (i:=i) (by omega),oB,aLe (hl _ (aCi (l:=l) (i:=i) (by omega))) hB,Bool.not_true,bM,uL (i:=i) (by omega)]
  exact aJF hl hB hn K t (i+1) k' (by omega) (by omega)
theorem aCL {l:List Rat} {B:Nat} (hl:Bds B l) (hB:B≤1073741824) (hn:l.length≤1000) {K:Nat} (hK:l.length<K):lC K l=some true:=by
 have:=aJF hl hB hn K l.length 0 K (by omega) hK
 simp only [Int.natCast_zero] at this
 simp only [lC,this,oB,s6]
theorem aHu {l:List Rat} {B:Nat} (hl:Bds B l) (hB:B≤1073741824) (hn:l.length≤1000) (K:Nat):∀(t i k:Nat),i+t=l.length→t<k→jN K l k (i:Int)=some (.go ())
 |0,i,k,hi,hk=>by
  obtain⟨k',rfl,_⟩:=aY hk
  simp only [jN,dF (show¬(i:Int)<(l.length:Int) by omega),bM]
 |t+1,i,k,hi,hk=>by
  obtain⟨k',rfl,_⟩:=aY hk
  simp only [jN,dT (show(i:Int)<(l.length:Int) by omega),bS,aIj (l:=l) (i:=i) (by omega),oB,aLe (hl _ (aCi (l:=l) (i:=i) (by omega))) hB,Bool.not_true,bM,uL (i:=i) (by omega)]
  exact aHu hl hB hn K t (i+1) k' (by omega) (by omega)
theorem aBw {l:List Rat} {B:Nat} (hl:Bds B l) (hB:B≤1073741824) (hn:l.length≤1000) {K:Nat} (hK:l.length<K):lW K l=some true:=by
 have:=aHu hl hB hn K l.length 0 K (by omega) hK
 simp only [Int.natCast_zero] at this
 simp only [lW,this,oB,sE]
theorem aHC {M:Nat→Nat→Rat} {q:Nat→Rat} {n B:Nat} (hM:yW n n B M) (hB:B≤1073741824) (hn:n≤32) {K:Nat} (hK:100≤K):∀(t i k:Nat),i+t=n→t<k→d8 K (mx M n n) (mp q n) k (i:Int)=some (.go ())
 |0,i,k,hi,hk=>by
  obtain⟨k',rfl,_⟩:=aY hk
  simp only [d8,gN,dF (show¬(i:Int)<(n:Int) by omega),bM]
 |t+1,i,k,hi,hk=>by
  obtain⟨k',rfl,_⟩:=aY hk
  have hin:i<n:=by omega
  have g:=aCL (l:=mp (M i) n) (y8 fun c hc=>hM i c hin hc) hB (by rw [aZ];omega) (K:=K) (by rw [aZ];omega)
  simp only [d8,gN,dT (show(i:Int)<(n:Int) by omega),bS,zG (g:=M) (w:=n) hin,oB,aZ,nF (rfl:(n:Int)=(n:Int)),bM,g,Bool.not_true,uL (i:=i) (by omega)]
  exact aHC hM hB hn hK t (i+1) k' (by omega) (by omega)
theorem aE1 {M:Nat→Nat→Rat} {q:Nat→Rat} {n B:Nat} (hM:yW n n B M) (hq:∀i,i<n→Bd B (q i)) (hB:B≤1073741824) (hn:n≤32) {K:Nat} (hK:100≤K):dC K (mx M n n) (mp q n)=some true:=by
 have g:=aCL (l:=mp q n) (y8 hq) hB (by rw [aZ];omega) (K:=K) (by rw [aZ];omega)
 have e:=aHC (q:=q) hM hB hn hK n 0 K (by omega) (by omega)
 simp only [Int.natCast_zero] at e
 simp only [dC,gN,aZ,nF (rfl:(n:Int)=(n:Int)),bM,dF (show¬(32:Int)<(n:Int) by omega),g,oB,Bool.not_true,e,r7]
theorem aGn {M:Nat→Nat→Rat} {q:Nat→Rat} {n B:Nat} (hM:yW n n B M) (hB:B≤1073741824) (hn:n≤32) {K:Nat} (hK:100≤K):∀(t i k:Nat),i+t=n→t<k→dH K (mx M n n) (mp q n) k (i:Int)=some (.go ())
 |0,i,k,hi,hk=>by
  obtain⟨k',rfl,_⟩:=aY hk
  simp only [dH,gN,dF (show¬(i:Int)<(n:Int) by omega),bM]
 |t+1,i,k,hi,hk=>by
  obtain⟨k',rfl,_⟩:=aY hk
  have hin:i<n:=by omega
  have g:=aBw (l:=mp (M i) n) (y8 fun c hc=>hM i c hin hc) hB (by rw [aZ];omega) (K:=K) (by rw [aZ];omega)
  simp only [dH,gN,dT (show(i:Int)<(n:Int) by omega),bS,zG (g:=M) (w:=n) hin,oB,aZ,nF (rfl:(n:Int)=(n:Int)),bM,g,Bool.not_true,uL (i:=i) (by omega)]
  exact aGn hM hB hn hK t (i+1) k' (by omega) (by omega)
theorem aGq {M:Nat→Nat→Rat} {q:Nat→Rat} {n B:Nat} (hM:yW n n B M) (hq:∀i,i<n→Bd B (q i)) (hB:B≤1073741824) (hn:n≤32) {K:Nat} (hK:100≤K):fR K (mx M n n) (mp q n)=some true:=by
 have g:=aBw (l:=mp q n) (y8 hq) hB (by rw [aZ];omega) (K:=K) (by rw [aZ];omega)
 have e:=aGn (q:=q) hM hB hn hK n 0 K (by omega) (by omega)
 simp only [Int.natCast_zero] at e
 simp only [fR,gN,aZ,nF (rfl:(n:Int)=(n:Int)),bM,dF (show¬(32:Int)<(n:Int) by omega),g,oB,Bool.not_true,e,qW]
def ng (q:Nat→Rat):Nat→Nat→Bool
 |0,_=>false
 |t+1,i=>bif decide ((q i).num.sign<0) then true else ng q t (i+1)
theorem aOg {q:Nat→Rat} {n B:Nat} (hq:∀i,i<n→Bd B (q i)) (hB:B≤1073741824) (hn:n≤1000) (K:Nat):∀(t i k:Nat),i+t=n→t<k→gR K (mp q n) k (i:Int)=some (bif ng q t i then .ret true else .go ())
 |0,i,k,hi,hk=>by
  obtain⟨k',rfl,_⟩:=aY hk
  simp only [gR,aZ,dF (show¬(i:Int)<(n:Int) by omega),bM,ng]
 |t+1,i,k,hi,hk=>by
  obtain⟨k',rfl,_⟩:=aY hk
  have hin:i<n:=by omega
  simp only [gR,aZ,dT (show(i:Int)<(n:Int) by omega),bS,lX (f:=q) hin,oB,uS (hq i hin) hB,ng]
  by_cases h:(q i).num.sign<0
  ·simp only [dT h,bS]
  ·simp only [dF h,bM,uL (i:=i) (by omega),oB]
   exact aOg hq hB hn K t (i+1) k' (by omega) (by omega)
theorem aLO {q:Nat→Rat} {n B:Nat} (hq:∀i,i<n→Bd B (q i)) (hB:B≤1073741824) (hn:n≤1000) (K:Nat):∀(t i k:Nat),i+t=n→t<k→fX K (mp q n) k (i:Int)=some (bif ng q t i then .ret true else .go ())
 |0,i,k,hi,hk=>by
  obtain⟨k',rfl,_⟩:=aY hk
  simp only [fX,aZ,dF (show¬(i:Int)<(n:Int) by omega),bM,ng]
 |t+1,i,k,hi,hk=>by
  obtain⟨k',rfl,_⟩:=aY hk
  have hin:i<n:=by omega
  simp only [fX,aZ,dT (show(i:Int)<(n:Int) by omega),bS,lX (f:=q) hin,oB,uS (hq i hin) hB,ng]
  by_cases h:(q i).num.sign<0
  ·simp only [dT h,bS]
  ·simp only [dF h,bM,uL (i:=i) (by omega),oB]
   exact aLO hq hB hn K t (i+1) k' (by omega) (by omega)
theorem aH4 {q:Nat→Rat} {n B:Nat} (hq:∀i,i<n→Bd B (q i)) (hB:B≤1073741824) (hn:n≤1000) {K:Nat} (hK:n<K):gX K (mp q n)=some (ng q n 0)∧kQ K (mp q n)=some (ng q n 0):=by
 have e1:=aOg hq hB hn K n 0 K (by omega) hK
 have e2:=aLO hq hB hn K n 0 K (by omega) hK
 simp only [Int.natCast_zero] at e1 e2
 constructor
 ·simp only [gX,e1,oB,oU]
  cases ng q n 0<;>rfl
 ·simp only [kQ,e2,oB,nR]
  cases ng q n 0<;>rfl
end Go.Proofs.YtolfcbpgmfbgmaaGreat
set_option linter.unusedVariables false
namespace Go.Proofs.YtolfcbpgmfbgmaaGreat
/-- The first row of the run. -/
def aPd (T:Nat→Nat→Rat) (n:Nat):Nat→Nat→Nat→Nat
 |0,_,r=>r
 |t+1,i,r=>bif les T n i 1 r 1 then aPd T n t (i+1) i else aPd T n t (i+1) r
end Go.Proofs.YtolfcbpgmfbgmaaGreat
set_option linter.unusedVariables false
namespace Go.Proofs.YtolfcbpgmfbgmaaGreat
theorem aNW {a:Rat}:0<a.num↔0<a:=by
 have h1:=Rat.num_nonneg (q:=a)
 have h2:=Rat.num_eq_zero (q:=a)
 constructor
 ·intro h
  have h3:0≤a:=h1.1 (by omega)
  have h4:a≠0:=fun e=>by have:=h2.2 e;omega
  grind
 ·intro h
  have h3:0≤a.num:=h1.2 (by grind)
  have h4:a.num≠0:=fun e=>by have:=h2.1 e;grind
  omega
theorem sgnP {x:Rat}:0<x.num.sign↔0<x:=by rw [Int.sign_pos_iff];exact aNW
theorem aNC {q:Nat→Rat}:∀t i,ng q t i=false→∀k,i≤k→k<i+t→0≤q k
 |0,i,h,k,h1,h2=>by omega
 |t+1,i,h,k,h1,h2=>by
  unfold ng at h
  by_cases e:(q i).num.sign<0
  ·rw [decide_eq_true e,bS] at h;cases h
  ·rw [decide_eq_false e,bM] at h
   by_cases e2:k=i
   ·rw [Int.sign_neg_iff,←Int.not_le,Rat.num_nonneg] at e
    rw [e2];exact Decidable.not_not.1 e
   ·exact aNC t (i+1) h k (by omega) (by omega)
end Go.Proofs.YtolfcbpgmfbgmaaGreat
set_option linter.unusedVariables false
namespace Go.Proofs.YtolfcbpgmfbgmaaGreat
def mem (n:Nat) (b:Nat→Nat) (v:Nat):Prop:=∃i,i<n∧b i=v
end Go.Proofs.YtolfcbpgmfbgmaaGreat
set_option linter.unusedVariables false
namespace Go.Proofs.YtolfcbpgmfbgmaaGreat
section
variable {n N:Nat} {Z:Nat→Nat→Rat} {TT:Nat→Nat→Nat→Rat} {BB:Nat→Nat→Nat} {CC:Nat→Nat}
end
end Go.Proofs.YtolfcbpgmfbgmaaGreat
set_option linter.unusedVariables false
namespace Go.Proofs.YtolfcbpgmfbgmaaGreat
end Go.Proofs.YtolfcbpgmfbgmaaGreat
set_option linter.unusedVariables false
namespace Go.Proofs.YtolfcbpgmfbgmaaGreat
end Go.Proofs.YtolfcbpgmfbgmaaGreat
set_option linter.unusedVariables false
namespace Go.Proofs.YtolfcbpgmfbgmaaGreat
end Go.Proofs.YtolfcbpgmfbgmaaGreat
set_option linter.unusedVariables false
namespace Go.Proofs.YtolfcbpgmfbgmaaGreat
end Go.Proofs.YtolfcbpgmfbgmaaGreat
set_option linter.unusedVariables false
namespace Go.Proofs.YtolfcbpgmfbgmaaGreat
theorem pw4 {D k m:Nat} (h:D≤2^k) (e:4*k+56=m):64*(2^50*(D*D*D*D))≤2^m:=by
 have e2:=Nat.mul_le_mul (Nat.mul_le_mul (Nat.mul_le_mul h h) h) h
 rw [←Nat.pow_add,←Nat.pow_add,←Nat.pow_add] at e2
 have e3:=Nat.mul_le_mul (Nat.le_refl (2^6)) (Nat.mul_le_mul (Nat.le_refl (2^50)) e2)
 rw [←Nat.pow_add,←Nat.pow_add] at e3
 rw [show m=6+(50+(k+k+k+k)) by omega]
 exact e3
theorem pw8 {D k m:Nat} (h:D≤256^k) (e:8*k=m):D≤2^m:=by
 rw [show(256:Nat)=2^8 from rfl,←Nat.pow_mul,e] at h;exact h
theorem pwn {x k m n:Nat} (h:x≤2^k) (e:k*n<m):x^n<2^m:=by
 refine Nat.lt_of_le_of_lt (Nat.pow_le_pow_left h n) ?_
 rw [←Nat.pow_mul]
 exact Nat.pow_lt_pow_right (by decide) e
theorem sizes {D n sz:Nat} (hs:sz=100000) (hD:D≤256^149) (hn:n≤20):(64*(2^50*(D*D*D*D)))^n<2^sz:=
 pwn (pw4 (pw8 hD (m:=1192) (by decide)) (m:=4824) (by decide)) (by omega)
end Go.Proofs.YtolfcbpgmfbgmaaGreat
set_option linter.unusedVariables false
namespace Go.Proofs.YtolfcbpgmfbgmaaGreat
theorem dn_q {p q:Int} {m:Nat} (hp:p.natAbs≤m) (h1:1≤q) (h3:q≤3):dn 6 1 (6*m) ((p:Rat)/q):=by
 have key:∀k:Int,((q:Rat)⁻¹)*6=(k:Rat)→k.natAbs≤6→dn 6 1 (6*m) ((p:Rat)/q):=fun k hk hk6=>
  ⟨p*k,by
   have e:((6^1:Nat):Rat)=6:=rfl
   rw [Rat.div_def,Rat.intCast_mul,←hk,e,Rat.mul_assoc],by rw [Int.natAbs_mul,Nat.mul_comm];exact Nat.mul_le_mul hk6 hp⟩
 obtain rfl|rfl|rfl:q=1∨q=2∨q=3:=by omega
 ·exact key 6 (by decide+kernel) (by decide)
 ·exact key 3 (by decide+kernel) (by decide)
 ·exact key 2 (by decide+kernel) (by decide)
theorem aDF {p q:Int} {m:Nat} (hp:p.natAbs≤m) (h1:1≤q) (h3:q≤3) (hm:m≤100):∃r,qof p q=some r∧dn 6 1 (6*m) r:=by
 obtain⟨r,r1,r2,_⟩:=aRt (k:=8) (p:=p) (q:=q) (by omega) (by omega) (by omega) (by omega)
 exact⟨r,r1,by rw [r2];exact dn_q hp h1 h3⟩
theorem aB2 {x:Rat} (h:dn 6 2 4000 x):Bd 12 x:=by
 obtain⟨z,h1,h2⟩:=h
 have e:((6^2:Nat):Rat)=36:=rfl
 have h36:((36:Int):Rat)≠0:=by decide+kernel
 have e2:((36:Int):Rat)=36:=rfl
 have:x=(z:Rat)/((36:Int):Rat):=by
  rw [←h1,e,e2,Rat.div_def,Rat.mul_assoc,Rat.mul_inv_cancel _ (by rw [←e2];exact h36),Rat.mul_one]
 rw [this]
 exact Bd.of (by omega) (by omega) (by decide)
theorem aIL {m:Nat} {x:Rat} (h:dn 6 1 m x) (hm:m*6≤4000):dn 6 2 4000 x:=h.up.mono hm
theorem aMf {x:Int} (hx:0≤x∧x<60):∃r,kE x=some r∧dn 6 1 24 r:=by
 obtain⟨v,v1,v2,v3⟩:=aAs (x:=x) (by omega) (m:=60) (by omega)
 unfold kE
 rw [v1,oB]
 by_cases h:v<24
 ·exact⟨0,by rw [dT h,bS],dn.zero⟩
 ·have m9:=aNM (a:=v) (m:=9) v2 (by omega)
  have m3:=aNM (a:=v/9) (m:=3) (by omega) (by omega)
  obtain⟨r,r1,r2⟩:=aDF (p:=v%9-4) (q:=1+v/9%3) (m:=4) (by omega) (by omega) (by omega) (by omega)
  exact⟨r,by rw [dF h,bM,u5 v2 (by omega),oB,vX (by omega),oB,xV v2 (by omega) (by omega),oB,u5 (by omega) (by omega),oB,vX (by omega),oB,r1,oB],r2⟩
def vn (l:List Int) (j:Nat):Rat:=((cF l (j:Int) 60).bind kE).getD 0
def mvn (l:List Int) (r c:Nat):Rat:=vn l (3+6*r+c)
def vw (l:List Int) (i:Nat):Rat:=((cF l ((40+i:Nat):Int) 13).bind fun a=>(cF l ((47+i:Nat):Int) 2).bind fun b=>qof (a-8) (1+b)).getD 0
theorem aN9 {l:List Int} (hl:aCa l) (r c:Nat):∃v,cF l ((3+6*r+c:Nat):Int) 60=some v∧kE v=some (mvn l r c)∧dn 6 1 24 (mvn l r c):=by
 obtain⟨v,v1,v2,v3⟩:=aGz hl ((3+6*r+c:Nat):Int) (m:=60) (by omega)
 obtain⟨x,x1,x2⟩:=aMf ⟨v2,v3⟩
 have e:mvn l r c=x:=by unfold mvn vn;rw [v1,oB,x1];rfl
 exact⟨v,v1,by rw [e];exact x1,by rw [e];exact x2⟩
theorem aPS {l:List Int} (hl:aCa l) (i:Nat):∃a b,cF l ((40+i:Nat):Int) 13=some a∧aS (a-8)=some (a-8)∧cF l ((47+i:Nat):Int) 2=some b∧aS (1+b)=some (1+b)∧qof (a-8) (1+b)=some (vw l i)∧dn 6 1 48 (vw l i):=by
 obtain⟨a,a1,a2,a3⟩:=aGz hl ((40+i:Nat):Int) (m:=13) (by omega)
 obtain⟨b,b1,b2,b3⟩:=aGz hl ((47+i:Nat):Int) (m:=2) (by omega)
 obtain⟨r,r1,r2⟩:=aDF (p:=a-8) (q:=1+b) (m:=8) (by omega) (by omega) (by omega) (by omega)
 have e:vw l i=r:=by unfold vw;rw [a1,oB,b1,oB,r1];rfl
 exact⟨a,b,a1,vX (by omega),b1,vX (by omega),by rw [e];exact r1,by rw [e];exact r2⟩
theorem aHV {l:List Int} (hl:aCa l) (r c:Nat):dn 6 1 24 (mvn l r c):=by
 obtain⟨_,_,_,h⟩:=aN9 hl r c
 exact h
theorem aSO {l:List Int} (hl:aCa l) (i:Nat):dn 6 1 48 (vw l i):=by
 obtain⟨_,_,_,_,_,_,_,h⟩:=aPS hl i
 exact h
theorem aM8 {l:List Int} (hl:aCa l) (r c:Nat):Bd 12 (mvn l r c):=aB2 (aIL (aHV hl r c) (by omega))
theorem aLi {l:List Int} (hl:aCa l) {n r:Nat} (hr:r≤10) (hn:n≤10) (K:Nat):∀(t i k:Nat),i+t=n→t<k→fH K l (n:Int) (r:Int) k (mp (mvn l r) i) (i:Int)=some (mp (mvn l r) n)
 |0,i,k,hi,hk=>by
  have:i=n:=by omega
  subst this
  obtain⟨k',rfl,_⟩:=aY hk
  simp only [fH,dF (show¬(i:Int)<(i:Int) by omega),bM]
 |t+1,i,k,hi,hk=>by
  obtain⟨k',rfl,hk'⟩:=aY hk
  have e1:aS (6*(r:Int))=some ((6*r:Nat):Int):=ckN (m:=0) (by omega) (by omega)
  have e2:aS (3+((6*r:Nat):Int))=some ((3+6*r:Nat):Int):=ckN (m:=0) (by omega) (by omega)
  have e3:aS (((3+6*r:Nat):Int)+(i:Int))=some ((3+6*r+i:Nat):Int):=ckN (m:=0) (by omega) (by omega)
  obtain⟨v,v1,v2,_⟩:=aN9 hl r i
  simp only [fH,dT (show(i:Int)<(n:Int) by omega),bS,e1,e2,e3,oB,v1,v2,apM (g:=mvn l r) (i:=i) (by omega),uL (i:=i) (by omega)]
  exact aLi hl hr hn K t (i+1) k' (by omega) (by omega)
theorem aNF {l:List Int} (hl:aCa l) {n:Nat} (hn:n≤10) {K:Nat} (hK:n<K):∀(t i k:Nat),i+t=n→t<k→d9 K l (n:Int) k (mp (vw l) i) (mx (mvn l) i n) (i:Int)=some (mp (vw l) n,mx (mvn l) n n)
 |0,i,k,hi,hk=>by
  have:i=n:=by omega
  subst this
  obtain⟨k',rfl,_⟩:=aY hk
  simp only [d9,dF (show¬(i:Int)<(i:Int) by omega),bM]
 |t+1,i,k,hi,hk=>by
  obtain⟨k',rfl,hk'⟩:=aY hk
  have h1:=aLi hl (n:=n) (r:=i) (by omega) hn K n 0 K (by omega) hK
  simp only [Int.natCast_zero,tX] at h1
  have e1:aS (40+(i:Int))=some ((40+i:Nat):Int):=ckN (m:=0) (by omega) (by omega)
  have e2:aS (47+(i:Int))=some ((47+i:Nat):Int):=ckN (m:=0) (by omega) (by omega)
  have e3:oG (mx (mvn l) i n) [mp (mvn l i) n]=some (mx (mvn l) (i+1) n):=apM (g:=fun r=>mp (mvn l r) n) (by omega)
  obtain⟨a,b,a1,a2,b1,b2,c1,_⟩:=aPS hl i
  simp only [d9,dT (show(i:Int)<(n:Int) by omega),bS,h1,oB,mV,e3,e1,a1,a2,e2,b1,b2,c1,apM (g:=vw l) (i:=i) (by omega),uL (i:=i) (by omega)]
  exact aNF hl hn hK t (i+1) k' (by omega) (by omega)
def gm (l:List Int) (n i k:Nat):Rat:=sm (fun c=>mvn l i c*mvn l k c) n
def gmd (d:Bool) (l:List Int) (n i k:Nat):Rat:=if d=true∧k=i then gm l n i i+1 else gm l n i k
theorem aPU {f:Nat→Rat} {D e M:Nat}:∀n,(∀c,c<n→dn D e M (f c))→dn D e (n*M) (sm f n)
 |0,_=>dn.zero
 |n+1,h=>by
  rw [Nat.succ_mul]
  exact(aPU n fun c hc=>h c (by omega)).add (h n (by omega))
theorem aLQ {l:List Int} (hl:aCa l) {n:Nat} (hn:n≤6) (i k:Nat):dn 6 2 3500 (gm l n i k):=
 (aPU (M:=576) n fun c _=>(aHV hl i c).mul (aHV hl k c)).mono (by omega)
theorem aIs:dn 6 2 36 (1:Rat):=⟨36,by decide+kernel,by decide⟩
theorem aOw {d:Bool} {l:List Int} (hl:aCa l) {n:Nat} (hn:n≤6) (i k:Nat):dn 6 2 4000 (gmd d l n i k):=by
 unfold gmd
 split
 ·exact((aLQ hl hn i i).add aIs).mono (by omega)
 ·exact(aLQ hl hn i k).mono (by omega)
theorem aNz {l:List Int} (hl:aCa l) {n:Nat} (hn:n≤6) {K:Nat} (hK:n<K) (i k:Nat):k6 K (mp (mvn l i) n) (mp (mvn l k) n)=some (gm l n i k):=
 (aMX (fun c _=>aM8 hl i c) (fun c _=>aM8 hl k c) (by omega) (by omega) hK).2
theorem aKY {l:List Int} (hl:aCa l) {n i:Nat} (hi:i<n) (hn:n≤6) {K:Nat} (hK:n<K):∀(t c k:Nat),c+t=n→t<k→fA K (n:Int) (mx (mvn l) n n) (i:Int) k (mp (gm l n i) c) (c:Int)=some (mp (gm l n i) n)
 |0,c,k,hc,hk=>by
  have:c=n:=by omega
  subst this
  obtain⟨k',rfl,_⟩:=aY hk
  simp only [fA,dF (show¬(c:Int)<(c:Int) by omega),bM]
 |t+1,c,k,hc,hk=>by
  obtain⟨k',rfl,hk'⟩:=aY hk
  simp only [fA,dT (show(c:Int)<(n:Int) by omega),bS,zG (g:=mvn l) (w:=n) hi,zG (g:=mvn l) (w:=n) (show c<n by omega),oB,aNz hl hn hK i c,apM (g:=gm l n i) (i:=c) (by omega),uL (i:=c) (by omega)]
  exact aKY hl hi hn hK t (c+1) k' (by omega) (by omega)
theorem aLu {l:List Int} (hl:aCa l) {n i:Nat} (hi:i<n) (hn:n≤6) {K:Nat} (hK:n<K):∀(t c k:Nat),c+t=n→t<k→fC K (n:Int) (mx (mvn l) n n) (i:Int) k (mp (gm l n i) c) (c:Int)=some (mp (gm l n i) n)
 |0,c,k,hc,hk=>by
  have:c=n:=by omega
  subst this
  obtain⟨k',rfl,_⟩:=aY hk
  simp only [fC,dF (show¬(c:Int)<(c:Int) by omega),bM]
 |t+1,c,k,hc,hk=>by
  obtain⟨k',rfl,hk'⟩:=aY hk
  simp only [fC,dT (show(c:Int)<(n:Int) by omega),bS,zG (g:=mvn l) (w:=n) hi,zG (g:=mvn l) (w:=n) (show c<n by omega),oB,aNz hl hn hK i c,apM (g:=gm l n i) (i:=c) (by omega),uL (i:=c) (by omega)]
  exact aLu hl hi hn hK t (c+1) k' (by omega) (by omega)
theorem aSU:Bd 12 (1:Rat):=aB2 (aIs.mono (by omega))
theorem aLI {d:Bool} {l:List Int} {n i:Nat} (hi:i<n):(if d=true then mp (wS (gm l n i) i (gm l n i i+1)) n else mp (gm l n i) n)=mp (gmd d l n i) n:=by
 cases d with
 |true=>
  rw [if_pos rfl]
  refine tA fun j hj=>?_
  unfold gmd
  by_cases e:j=i
  ·subst e;rw [eH,if_pos ⟨rfl,rfl⟩]
  ·rw [l5 e,if_neg (fun h=>e h.2)]
 |false=>
  rw [if_neg (by decide)]
  exact tA fun j hj=>by unfold gmd;rw [if_neg (fun h=>absurd h.1 (by decide))]
theorem aLd {l:List Int} (hl:aCa l) {n:Nat} {v5:Int} (hn:n≤6) {K:Nat} (hK:n<K):∀(t i k:Nat),i+t=n→t<k→cO K (n:Int) v5 (mx (mvn l) n n) k (mx (gmd (v5==2) l n) i n) (i:Int)=some (mx (gmd (v5==2) l n) n n)
 |0,i,k,hi,hk=>by
  have:i=n:=by omega
  subst this
  obtain⟨k',rfl,_⟩:=aY hk
  simp only [cO,dF (show¬(i:Int)<(i:Int) by omega),bM]
 |t+1,i,k,hi,hk=>by
  obtain⟨k',rfl,hk'⟩:=aY hk
  have h1:=aKY hl (n:=n) (i:=i) (by omega) hn hK n 0 K (by omega) hK
  simp only [Int.natCast_zero,tX] at h1
  have e3:oG (mx (gmd (v5==2) l n) i n) [mp (gmd (v5==2) l n i) n]=some (mx (gmd (v5==2) l n) (i+1) n):=apM (g:=fun r=>mp (gmd (v5==2) l n r) n) (by omega)
  have e4:=aLI (d:=v5==2) (l:=l) (show i<n by omega)
  have b1:Bd 12 (gm l n i i):=aB2 ((aLQ hl hn i i).mono (by omega))
  have ih:=aLd hl (v5:=v5) hn hK t (i+1) k' (by omega) (by omega)
  simp only [cO,dT (show(i:Int)<(n:Int) by omega),bS,h1,oB,mT]
  cases hd:(v5==2) with
  |true=>
   rw [hd] at e3 e4 ih
   rw [if_pos rfl] at e4
   simp only [bS,lX (f:=gm l n i) (show i<n by omega),oB,aIO,aAX b1 aSU (by omega) (by omega),aEm (f:=gm l n i) (show i<n by omega),e4,e3,uL (i:=i) (by omega)]
   exact ih
  |false=>
   rw [hd] at e3 e4 ih
   rw [if_neg (by decide)] at e4
   simp only [bM,e4,e3,oB,uL (i:=i) (by omega)]
   exact ih
theorem aLo {l:List Int} (hl:aCa l) {n:Nat} {v5:Int} (hn:n≤6) {K:Nat} (hK:n<K):∀(t i k:Nat),i+t=n→t<k→cN K (n:Int) v5 (mx (mvn l) n n) k (mx (gmd (v5==2) l n) i n) (i:Int)=some (mx (gmd (v5==2) l n) n n)
 |0,i,k,hi,hk=>by
  have:i=n:=by omega
  subst this
  obtain⟨k',rfl,_⟩:=aY hk
  simp only [cN,dF (show¬(i:Int)<(i:Int) by omega),bM]
 |t+1,i,k,hi,hk=>by
  obtain⟨k',rfl,hk'⟩:=aY hk
  have h1:=aLu hl (n:=n) (i:=i) (by omega) hn hK n 0 K (by omega) hK
  simp only [Int.natCast_zero,tX] at h1
  have e3:oG (mx (gmd (v5==2) l n) i n) [mp (gmd (v5==2) l n i) n]=some (mx (gmd (v5==2) l n) (i+1) n):=apM (g:=fun r=>mp (gmd (v5==2) l n r) n) (by omega)
  have e4:=aLI (d:=v5==2) (l:=l) (show i<n by omega)
  have b1:Bd 12 (gm l n i i):=aB2 ((aLQ hl hn i i).mono (by omega))
  have ih:=aLo hl (v5:=v5) hn hK t (i+1) k' (by omega) (by omega)
  simp only [cN,dT (show(i:Int)<(n:Int) by omega),bS,h1,oB,nC]
  cases hd:(v5==2) with
  |true=>
   rw [hd] at e3 e4 ih
   rw [if_pos rfl] at e4
   simp only [bS,lX (f:=gm l n i) (show i<n by omega),oB,aIO,aAX b1 aSU (by omega) (by omega),aEm (f:=gm l n i) (show i<n by omega),e4,e3,uL (i:=i) (by omega)]
   exact ih
  |false=>
   rw [hd] at e3 e4 ih
   rw [if_neg (by decide)] at e4
   simp only [bM,e4,e3,oB,uL (i:=i) (by omega)]
   exact ih
theorem aSI {α:Type} {f:Nat→α} {n m:Nat} (h:m≤n):slL (mp f n) 0 (m:Int)=some (mp f m):=by
 unfold slL
 rw [if_pos ⟨by omega,by omega,by rw [aZ];omega⟩]
 congr 1
 apply List.ext_getElem?
 intro j
 have e0:(0:Int).toNat=0:=rfl
 rw [e0,List.drop_zero,List.getElem?_take,Int.toNat_natCast,Nat.sub_zero]
 by_cases hj:j<m
 ·rw [if_pos hj,zF (by omega),zF hj]
 ·rw [if_neg hj,List.getElem?_eq_none (by rw [aZ];omega)]
def PB6 (n:Nat) (M:Nat→Nat→Rat) (q:Nat→Rat):Prop:=(∀i c,i<n→c<n→dn 6 2 4000 (M i c))∧∀i,i<n→dn 6 2 4000 (q i)
theorem aKp {l:List Int} (hl:aCa l) {most:Nat} (hm:most≤6) (hm1:4≤most):∃(n:Nat) (M:Nat→Nat→Rat) (q:Nat→Rat),n≤most∧PB6 n M q∧∀K,100≤K→lJ K l (most:Int)=some (mx M n n,mp q n):=by
 obtain⟨v,v1,v2,v3⟩:=aGz hl 0 (m:=((most+1:Nat):Int)) (by omega)
 obtain⟨w,w1,w2,w3⟩:=aGz hl 1 (m:=5) (by omega)
 obtain⟨n,rfl⟩:∃n:Nat,v=n:=⟨v.toNat,by omega⟩
 have e0:aS ((most:Int)+1)=some ((most+1:Nat):Int):=uL (by omega)
 have hq:∀i,dn 6 2 4000 (vw l i):=fun i=>aIL (aSO hl i) (by omega)
 have hM:∀i c,dn 6 2 4000 (mvn l i c):=fun i c=>aIL (aHV hl i c) (by omega)
 have hF:∀K,100≤K→lJ K l (most:Int)=cX K l (n:Int) w (mp (vw l) n) (mx (mvn l) n n):=fun K hK=>by
  have h1:=aNF hl (n:=n) (by omega) (K:=K) (by omega) n 0 K (by omega) (by omega)
  have z:mx (mvn l) 0 n=[]:=rfl
  simp only [Int.natCast_zero,tX,z] at h1
  simp only [lJ,e0,oB,v1,w1,h1]
 have hG:∀K,100≤K→cO K (n:Int) w (mx (mvn l) n n) K [] 0=some (mx (gmd (w==2) l n) n n):=fun K hK=>by
  have h1:=aLd hl (n:=n) (v5:=w) (by omega) (K:=K) (by omega) n 0 K (by omega) (by omega)
  have z:mx (gmd (w==2) l n) 0 n=[]:=rfl
  simpa only [Int.natCast_zero,z] using h1
 have hG':∀K,100≤K→cN K (n:Int) w (mx (mvn l) n n) K [] 0=some (mx (gmd (w==2) l n) n n):=fun K hK=>by
  have h1:=aLo hl (n:=n) (v5:=w) (by omega) (K:=K) (by omega) n 0 K (by omega) (by omega)
  have z:mx (gmd (w==2) l n) 0 n=[]:=rfl
  simpa only [Int.natCast_zero,z] using h1
 by_cases c0:w=0
 ·exact⟨n,mvn l,vw l,by omega,⟨fun i c _ _=>hM i c,fun i _=>hq i⟩,fun K hK=>by rw [hF K hK];unfold cX;rw [qT c0,bS]⟩
 by_cases c1:n=0
 ·exact⟨n,mvn l,vw l,by omega,⟨fun i c _ _=>hM i c,fun i _=>hq i⟩,fun K hK=>by rw [hF K hK];unfold cX;rw [qF c0,bM,qT (show(n:Int)=0 by omega),bS]⟩
 by_cases c4:w=4
 ·by_cases cn:4≤n
  ·obtain⟨m1,a1,a2,a3⟩:=aGz hl 2 (m:=4) (by omega)
   obtain⟨m2,b1,b2,b3⟩:=aGz hl 3 (m:=5) (by omega)
   obtain⟨mu,p1,p2⟩:=aDF (p:=m1) (q:=2) (m:=3) (by omega) (by omega) (by omega) (by omega)
   obtain⟨c,r1,r2⟩:=aDF (p:=m2-2) (q:=2) (m:=2) (by omega) (by omega) (by omega) (by omega)
   obtain⟨two,s1,s2⟩:=aDF (p:=2) (q:=1) (m:=2) (by omega) (by omega) (by omega) (by omega)
   obtain⟨mi,t1,t2⟩:=aDF (p:=-1) (q:=1) (m:=1) (by omega) (by omega) (by omega) (by omega)
   have d2:=aIL p2 (by omega)
   have d3:=aIL r2 (by omega)
   have d4:=aIL s2 (by omega)
   have d5:=aIL t2 (by omega)
   have d6:dn 6 2 4000 (1:Rat):=aIs.mono (by omega)
   have n1:=aCU (aB2 d3) (by omega)
   have n2:=aCU (aB2 d4) (by omega)
   have sl:slL (mp (vw l) n) 0 3=some (mp (vw l) 3):=aSI (m:=3) (by omega)
   have ap1:oG ([]:List Rat) (mp (vw l) 3)=some (mp (vw l) 3):=xM (by rw [aZ];simp)
   have ap2:oG (mp (vw l) 3) [(0:Rat)]=some (mp (wS (vw l) 3 0) 4):=by
    rw [apS (by rw [aZ];omega),aBD (wS (vw l) 3 0) 3,eH,tA (f:=vw l) (g:=wS (vw l) 3 0) fun j hj=>(l5 (by omega)).symm]
   refine⟨4,fun i j=>at' (([[two,c,-c,0],[c,two,-two,1],[-c,-two,two,1],[mu,mi,mi,0]]:List (List Rat)).getD i []) j,wS (vw l) 3 0,by omega,⟨fun i j hi hj=>?_,fun i hi=>?_⟩,fun K hK=>?_⟩
   ·obtain rfl|rfl|rfl|rfl:i=0∨i=1∨i=2∨i=3:=by omega
    all_goals
     obtain rfl|rfl|rfl|rfl:j=0∨j=1∨j=2∨j=3:=by omega
     all_goals first|exact d2|exact d3|exact d4|exact d5|exact d6|exact d3.neg|exact d4.neg|exact dn.zero
   ·by_cases e:i=3
    ·subst e;rw [eH];exact dn.zero
    ·rw [l5 e];exact hq i
   ·rw [hF K hK]
    unfold cX
    rw [qF c0,bM,qF (show¬(n:Int)=0 by omega),bM,qT c4,bS,dT (show(4:Int)≤(n:Int) by omega),bS]
    simp only [aIO,oB,a1,p1,b1,vX (show -9223372036854775808≤m2-2∧m2-2≤9223372036854775807 by omega),r1,s1,t1,n1,n2,sl,ap1,ap2]
    rfl
  ·refine⟨n,gmd (w==2) l n,vw l,by omega,⟨fun i c _ _=>aOw hl (by omega) i c,fun i _=>hq i⟩,fun K hK=>?_⟩
   rw [hF K hK]
   unfold cX
   rw [qF c0,bM,qF (show¬(n:Int)=0 by omega),bM,qT c4,bS,dF (show¬(4:Int)≤(n:Int) by omega),bM,hG' K hK,oB,mW]
 ·refine⟨n,gmd (w==2) l n,vw l,by omega,⟨fun i c _ _=>aOw hl (by omega) i c,fun i _=>hq i⟩,fun K hK=>?_⟩
  rw [hF K hK]
  unfold cX
  rw [qF c0,bM,qF (show¬(n:Int)=0 by omega),bM,qF c4,bM,hG K hK,oB,nH]
theorem aHB {l:List Rat} {b:Nat} (hb:Bds b l) (hB:b≤1000000) (hl:l.length≤1000000) (K:Nat):∀(t i k:Nat),i+t=l.length→t<k→d7 K l l k (i:Int)=some (.go ())
 |0,i,k,hi,hk=>by
  obtain⟨k',rfl,_⟩:=aY hk
  simp only [d7,dF (show¬(i:Int)<(l.length:Int) by omega),bM]
 |t+1,i,k,hi,hk=>by
  obtain⟨k',rfl,hk'⟩:=aY hk
  have h1:=hb _ (aCi (l:=l) (i:=i) (by omega))
  simp only [d7,dT (show(i:Int)<(l.length:Int) by omega),bS,aIj (l:=l) (i:=i) (by omega),oB,aF8 h1 h1 (by omega) (by omega),decide_true,Bool.not_true,bM,uL (i:=i) (by omega)]
  exact aHB hb hB hl K t (i+1) k' (by omega) (by omega)
theorem aRc {l:List Rat} {b:Nat} (hb:Bds b l) (hB:b≤1000000) (hl:l.length≤1000000) {K:Nat} (hK:l.length<K):fI K l l=some true:=by
 have h1:=aHB hb hB hl K l.length 0 K (by omega) hK
 simp only [Int.natCast_zero] at h1
 simp only [fI,nF (rfl:(l.length:Int)=(l.length:Int)),bM,h1,oB,oD]
end Go.Proofs.YtolfcbpgmfbgmaaGreat
set_option linter.unusedVariables false
namespace Go.Proofs.YtolfcbpgmfbgmaaGreat
set_option maxRecDepth 100000 in
theorem aPu (K:Nat):qO (K+60)=some true:=by kernel_rfl
theorem aKF {K:Nat} (hK:60≤K):qO K=some true:=by
 obtain⟨k,rfl⟩:=Nat.exists_eq_add_of_le hK
 rw [Nat.add_comm];exact aPu k
end Go.Proofs.YtolfcbpgmfbgmaaGreat
set_option linter.unusedVariables false
namespace Go.Proofs.YtolfcbpgmfbgmaaGreat
theorem aD8 {w b B:Nat} (h:w*(b+1)≤B) (hw:0<w):b+1≤B:=Nat.le_trans (Nat.le_mul_of_pos_left (b+1) hw) h
theorem aMU {f:Nat→Rat} {w b:Nat} (hf:∀c,c<w→Bd b (f c)) (hB:w*(b+1)≤1000000000) (hw:w≤1000) (K:Nat):∀(t i k:Nat),i+t=w→t<k→Bd (1+i*(b+1)) (sm f i)→vH K (mp f w) k (sm f i) (i:Int)=some (sm f w)
 |0,i,k,hi,hk,ha=>by
  obtain⟨k',rfl,_⟩:=aY hk
  have:i=w:=by omega
  subst this
  simp only [vH,aZ,dF (show¬(i:Int)<(i:Int) by omega),bM]
 |t+1,i,k,hi,hk,ha=>by
  obtain⟨k',rfl,_⟩:=aY hk
  have hx:=hf i (by omega)
  have hb:=aD8 hB (by omega)
  have hib:i*(b+1)≤w*(b+1):=Nat.mul_le_mul_right _ (by omega)
  have hs:1+i*(b+1)+b+1=1+(i+1)*(b+1):=by rw [Nat.add_mul];omega
  simp only [vH,aZ,dT (show(i:Int)<(w:Int) by omega),bS,lX (f:=f) (show i<w by omega),oB,aAX ha hx (by omega) (by omega),uL (i:=i) (by omega)]
  exact aMU hf hB hw K t (i+1) k' (by omega) (by omega) (by simp only [sm];exact(ha.add hx).mono (by omega))
theorem aHr {f e:Nat→Rat} {w b b':Nat} (hf:∀c,c<w→Bd b (f c)) (he:∀c,c<w→Bd b' (e c)) (hB:w*(b+b'+1)≤1000000000) (hw:w≤1000) (K:Nat):∀(t i k:Nat),i+t=w→t<k→tQ K (mp f w) (mp e w) k (mp (fun c=>f c*e c) i) (i:Int)=some (mp (fun c=>f c*e c) w)
 |0,i,k,hi,hk=>by
  obtain⟨k',rfl,_⟩:=aY hk
  have:i=w:=by omega
  subst this
  simp only [tQ,aZ,Int.min_self,dF (show¬(i:Int)<(i:Int) by omega),bM]
 |t+1,i,k,hi,hk=>by
  obtain⟨k',rfl,_⟩:=aY hk
  have hb:=aD8 hB (by omega)
  simp only [tQ,aZ,Int.min_self,dT (show(i:Int)<(w:Int) by omega),bS,lX (f:=f) (show i<w by omega),lX (f:=e) (show i<w by omega),oB,aC1 (hf i (by omega)) (he i (by omega)) (by omega) (by omega),apM (g:=fun c=>f c*e c) (i:=i) (by omega),uL (i:=i) (by omega)]
  exact aHr hf he hB hw K t (i+1) k' (by omega) (by omega)
theorem aOc {f e:Nat→Rat} {w b b':Nat} (hf:∀c,c<w→Bd b (f c)) (he:∀c,c<w→Bd b' (e c)) (hB:w*(b+b'+1)≤1000000000) (hw:w≤1000) {K:Nat} (hK:w<K):zI K (mp f w) (mp e w)=some (sm (fun c=>f c*e c) w):=by
 have h1:=aHr hf he hB hw K w 0 K (by omega) hK
 have h2:=aMU (f:=fun c=>f c*e c) (b:=b+b') (fun c hc=>(hf c hc).mul (he c hc)) hB hw K w 0 K (by omega) hK (Bd.zero.mono (by omega))
 simp only [Int.natCast_zero,tX,sm] at h1 h2
 simp only [zI,h1,oB,zJ,aC5,h2,aAr]
theorem aPk {g:Nat→Nat→Rat} {h w b:Nat} (hg:yW h w b g) (hc:Cok h w) (hb:2≤b) (hB:5^w*b≤200000000) (hh:h≤64) (hw:w≤64) {K:Nat} (hK:w+h<K):xA K (mx g h w)=some ((aIg g h w:Int),0):=by
 simp only [xA,aJK hc hh hw (K:=K) (by omega),oB,Bool.not_true,bM,aH9 hc,aG8 hg hb (Nat.le_refl w) hB (show h≤1000 by omega) (show w≤1000 by omega) hK,fU,aIg]
theorem aIW (n:Nat):Cok n n:=fun h=>h
theorem aN7 {α:Type} {f e:Nat→α} {m:Nat}:∀n,mp f m++mp e n=mp (fun c=>if c<m then f c else e (c-m)) (m+n)
 |0=>by
  rw [tX,List.append_nil,Nat.add_zero]
  exact tA fun c hc=>by rw [if_pos hc]
 |n+1=>by
  rw [aBD,←List.append_assoc,aN7 n,←Nat.add_assoc,aBD,if_neg (by omega),show m+n-m=n by omega]
end Go.Proofs.YtolfcbpgmfbgmaaGreat
set_option linter.unusedVariables false
namespace Go.Proofs.YtolfcbpgmfbgmaaGreat
def btc (c i:Nat):Bool:=ian ((c:Int).fdiv (2^(min (i:Int).toNat 64))) 1==1
theorem aNi {c n:Nat} {x:List Bool} (hx:x.length=n) (hn:n≤1000) (K:Nat):∀(t i k:Nat) (f:Nat→Bool),i+t=n→t<k→(∀j,j<i→f j=btc c j)→dR K (c:Int) x k (mp f n) (i:Int)=some (mp (btc c) n)
 |0,i,k,f,hi,hk,hf=>by
  obtain⟨k',rfl,_⟩:=aY hk
  simp only [dR,hx,dF (show¬(i:Int)<(n:Int) by omega),bM]
  rw [tA fun j hj=>hf j (by omega)]
 |t+1,i,k,f,hi,hk,hf=>by
  obtain⟨k',rfl,_⟩:=aY hk
  have e1:aNQ (c:Int) (i:Int)=some ((c:Int).fdiv (2^(min (i:Int).toNat 64))):=if_neg (by omega)
  simp only [dR,hx,dT (show(i:Int)<(n:Int) by omega),bS,e1,oB,lX (f:=f) (show i<n by omega),aEm (f:=f) (show i<n by omega),uL (i:=i) (by omega)]
  exact aNi hx hn K t (i+1) k' _ (by omega) (by omega) (fun j hj=>by
   by_cases e:j=i
   ·rw [e,eH];rfl
   ·rw [l5 e];exact hf j (by omega))
theorem aNm {n N:Nat} (hn:n≤8) (hN:N≤1000) {yF:List Bool→List (List Rat)→Option (Nat×List (List Rat))} {out:Nat→List (List Rat)} (hy:∀c,c<N→yF (mp (btc c) n) (out c)=some (0,out (c+1))) {K:Nat} (hK:n<K):∀(t c k:Nat),c+t=N→t<k→cM K (n:Int) yF (N:Int) k (out c) (c:Int)=some (.go (out N))
 |0,c,k,hc,hk=>by
  have:c=N:=by omega
  subst this
  obtain⟨k',rfl,_⟩:=aY hk
  simp only [cM,dF (show¬(c:Int)<(c:Int) by omega),bM]
 |t+1,c,k,hc,hk=>by
  obtain⟨k',rfl,_⟩:=aY hk
  have h1:=aNi (c:=c) (aZ (fun _=>false) n) (show n≤1000 by omega) K n 0 K (fun _=>false) (by omega) hK (fun j hj=>absurd hj (by omega))
  simp only [Int.natCast_zero] at h1
  have e0:Nat.beq 0 0=true:=rfl
  simp only [cM,dT (show(c:Int)<(N:Int) by omega),bS,aHN (n:=n) (z:=false) (by omega),oB,h1,k9,hy c (by omega),e0,uL (i:=c) (by omega)]
  exact aNm hn hN hy hK t (c+1) k' (by omega) (by omega)
def atl (b:Nat→Bool):Nat→List Nat
 |0=>[]
 |i+1=>bif b i then atl b i++[i] else atl b i
theorem aKA {b:Nat→Bool}:∀n,∀j∈atl b n,j<n
 |0,j,h=>absurd h List.not_mem_nil
 |n+1,j,h=>by
  unfold atl at h
  cases hb:b n with
  |true=>
   rw [hb,bS] at h
   rcases List.mem_append.1 h with h|h
   ·have:=aKA n j h;omega
   ·rw [List.mem_singleton.1 h];omega
  |false=>rw [hb,bM] at h;have:=aKA n j h;omega
theorem aEs {b:Nat→Bool}:∀n,(atl b n).length≤n
 |0=>Nat.le_refl _
 |n+1=>by
  unfold atl
  have:=aEs (b:=b) n
  cases b n with
  |true=>rw [bS,List.length_append];simp;exact this
  |false=>rw [bM];omega
theorem aOG {b:Nat→Bool} {n i:Nat} (h:i<(atl b n).length):pat (atl b n) i<n:=aKA n _ (aHS h)
theorem aK3 {b:Nat→Bool} {n:Nat} (hn:n≤1000) (K:Nat):∀(t i k:Nat),i+t=n→t<k→dN K (mp b n) k (uJ (atl b i)) (i:Int)=some (uJ (atl b n))
 |0,i,k,hi,hk=>by
  have:i=n:=by omega
  subst this
  obtain⟨k',rfl,_⟩:=aY hk
  simp only [dN,aZ,dF (show¬(i:Int)<(i:Int) by omega),bM]
 |t+1,i,k,hi,hk=>by
  obtain⟨k',rfl,_⟩:=aY hk
  have ih:=aK3 (b:=b) hn K t (i+1) k' (by omega) (by omega)
  have hl:=aEs (b:=b) i
  simp only [dN,aZ,dT (show(i:Int)<(n:Int) by omega),bS,lX (f:=b) (show i<n by omega),oB]
  cases hb:b i with
  |true=>
   have e:atl b (i+1)=atl b i++[i]:=by show(bif b i then _ else _)=_;rw [hb,bS]
   rw [e] at ih
   simp only [bS,apI (l:=atl b i) (k:=i) (by omega),oB,uL (i:=i) (by omega)]
   exact ih
  |false=>
   have e:atl b (i+1)=atl b i:=by show(bif b i then _ else _)=_;rw [hb,bM]
   rw [e] at ih
   simp only [bM,uL (i:=i) (by omega),oB]
   exact ih
def sbm (M:Nat→Nat→Rat) (at0:List Nat) (i k:Nat):Rat:=M (pat at0 i) (pat at0 k)
def sbq (q:Nat→Rat) (at0:List Nat) (i:Nat):Rat:=-(q (pat at0 i))
theorem aIT {M:Nat→Nat→Rat} {n i:Nat} {at0:List Nat} (hn:n≤1000) (hm:at0.length≤1000) (ha:∀j,j<at0.length→pat at0 j<n) (hi:i<at0.length) (K:Nat):∀(t c k:Nat),c+t=at0.length→t<k→eM K (mx M n n) (uJ at0) ((pat at0 i:Nat):Int) k (mp (sbm M at0 i) c) (c:Int)=some (mp (sbm M at0 i) at0.length)
 |0,c,k,hc,hk=>by
  have:c=at0.length:=by omega
  subst this
  obtain⟨k',rfl,_⟩:=aY hk
  simp only [eM,fU,dF (show¬(at0.length:Int)<(at0.length:Int) by omega),bM]
 |t+1,c,k,hc,hk=>by
  obtain⟨k',rfl,_⟩:=aY hk
  simp only [eM,fU,dT (show(c:Int)<(at0.length:Int) by omega),bS,rdI (ps:=at0) (show c<at0.length by omega),oB,zG (g:=M) (w:=n) (ha i hi),lX (f:=M (pat at0 i)) (ha c (by omega))]
  have e:oG (mp (sbm M at0 i) c) [M (pat at0 i) (pat at0 c)]=some (mp (sbm M at0 i) (c+1)):=apM (g:=sbm M at0 i) (by omega)
  simp only [e,oB,uL (i:=c) (by omega)]
  exact aIT hn hm ha hi K t (c+1) k' (by omega) (by omega)
theorem aKU {M:Nat→Nat→Rat} {q:Nat→Rat} {n B:Nat} {at0:List Nat} (hn:n≤1000) (hm:at0.length≤1000) (ha:∀j,j<at0.length→pat at0 j<n) (hq:∀i,i<n→Bd B (q i)) (hB:B≤1073741824) {K:Nat} (hK:at0.length<K):∀(t i k:Nat),i+t=at0.length→t<k→dP K (mx M n n) (mp q n) (uJ at0) k (mp (sbq q at0) i) (mx (sbm M at0) i at0.length) (i:Int)=some (mp (sbq q at0) at0.length,mx (sbm M at0) at0.length at0.length)
 |0,i,k,hi,hk=>by
  have:i=at0.length:=by omega
  subst this
  obtain⟨k',rfl,_⟩:=aY hk
  simp only [dP,fU,dF (show¬(at0.length:Int)<(at0.length:Int) by omega),bM]
 |t+1,i,k,hi,hk=>by
  obtain⟨k',rfl,_⟩:=aY hk
  have h1:=aIT (M:=M) hn hm ha (show i<at0.length by omega) K at0.length 0 K (by omega) hK
  simp only [Int.natCast_zero,tX] at h1
  have e1:oG (mx (sbm M at0) i at0.length) [mp (sbm M at0 i) at0.length]=some (mx (sbm M at0) (i+1) at0.length):=apM (g:=fun r=>mp (sbm M at0 r) at0.length) (by omega)
  have e2:oG (mp (sbq q at0) i) [-(q (pat at0 i))]=some (mp (sbq q at0) (i+1)):=apM (g:=sbq q at0) (by omega)
  have hp:=ha i (by omega)
  simp only [dP,fU,dT (show(i:Int)<(at0.length:Int) by omega),bS,rdI (ps:=at0) (show i<at0.length by omega),oB,h1,mJ,e1,lX (f:=q) hp,aCU (hq _ hp) hB,e2,uL (i:=i) (by omega)]
  exact aKU hn hm ha hq hB hK t (i+1) k' (by omega) (by omega)
def plc (at0:List Nat) (x:List Rat):Nat→Nat→Rat
 |0=>fun _=>0
 |i+1=>wS (plc at0 x i) (pat at0 i) (at' x i)
theorem aOy {at0:List Nat} {x:List Rat} {B:Nat} (hx:Bds B x) (hB:1≤B):∀m,m≤x.length→∀j,Bd B (plc at0 x m j)
 |0,_,j=>Bd.zero.mono hB
 |m+1,hm,j=>by
  unfold plc wS
  split
  ·exact hx _ (aCi (by omega))
  ·exact aOy hx hB m (by omega) j
theorem aI1 {n:Nat} {at0:List Nat} {x:List Rat} {e:Int} (hm:at0.length≤1000) (ha:∀j,j<at0.length→pat at0 j<n) (hx:x.length=at0.length) (K:Nat):∀(t i k:Nat),i+t=at0.length→t<k→eO K (uJ at0) (x,e) k (mp (plc at0 x i) n) (i:Int)=some (mp (plc at0 x at0.length) n)
 |0,i,k,hi,hk=>by
  have:i=at0.length:=by omega
  subst this
  obtain⟨k',rfl,_⟩:=aY hk
  simp only [eO,fU,dF (show¬(at0.length:Int)<(at0.length:Int) by omega),bM]
 |t+1,i,k,hi,hk=>by
  obtain⟨k',rfl,_⟩:=aY hk
  have hp:=ha i (by omega)
  simp only [eO,fU,dT (show(i:Int)<(at0.length:Int) by omega),bS,rdI (ps:=at0) (show i<at0.length by omega),oB,aIj (l:=x) (i:=i) (by omega),lX (f:=plc at0 x i) hp,aEm (f:=plc at0 x i) hp,uL (i:=i) (by omega)]
  exact aI1 hm ha hx K t (i+1) k' (by omega) (by omega)
def cnd (M:Nat→Nat→Rat) (q:Nat→Rat) (at0:List Nat):Option (Nat→Rat):=
 if at0.length=0 then some (fun _=>0)
 else if aIg (sbm M at0) at0.length at0.length=at0.length then(match aBe (sbm M at0) (sbq q at0) at0.length at0.length with
  |none=>none
  |some x=>some (plc at0 x at0.length))
 else none
theorem aHP {M:Nat→Nat→Rat} {q:Nat→Rat} {n B:Nat} {b:Nat→Bool} (hM:yW n n B M) (hq:∀i,i<n→Bd B (q i)) (hn:n≤6) (h2:2≤B) (hB:B≤5000) {K:Nat} (hK:100≤K):
  nE K (mx M n n) (mp q n) (mp b n)=some (match cnd M q (atl b n) with|none=>([],false)|some z=>(mp z n,true))∧∀z,cnd M q (atl b n)=some z→∀j,Bd (5^6*B) (z j):=by
 have hl:=aEs (b:=b) n
 have ha:∀j,j<(atl b n).length→pat (atl b n) j<n:=fun j hj=>aOG hj
 have h23:=aK3 (b:=b) (show n≤1000 by omega) K n 0 K (by omega) (by omega)
 have z0':uJ (atl b 0)=[]:=rfl
 rw [z0',Int.natCast_zero] at h23
 generalize hat:atl b n=at0 at *
 have h67:=aKU (M:=M) (q:=q) (show n≤1000 by omega) (show at0.length≤1000 by omega) ha hq (by omega) (show at0.length<K by omega) at0.length 0 K (by omega) (by omega)
 have z1:mx (sbm M at0) 0 at0.length=[]:=rfl
 rw [z1,tX,Int.natCast_zero] at h67
 simp only [nE,h23,oB,mU,h67,mQ,aHN (n:=n) (z:=(0:Rat)) (by omega),fU,aZ]
 unfold cnd
 by_cases h0:at0.length=0
 ·rw [if_pos h0]
  simp only [qT (show(at0.length:Int)=0 by omega),bS]
  exact⟨trivial,fun z hz j=>by cases hz;exact Bd.zero.mono (by have:0<5^6*B:=Nat.mul_pos (by decide) (by omega);omega)⟩
 rw [if_neg h0]
 have hA:yW at0.length at0.length B (sbm M at0):=fun i c hi hc=>hM _ _ (ha i hi) (ha c hc)
 have hb':∀i,i<at0.length→Bd B (sbq q at0 i):=fun i hi=>(hq _ (ha i hi)).neg
 have hp6:5^at0.length*B≤5^6*B:=Nat.mul_le_mul_right B (Nat.pow_le_pow_right (by decide) (by omega))
 have hc:Cok at0.length at0.length:=aIW _
 have hR:=aPk hA hc h2 (by omega) (show at0.length≤64 by omega) (show at0.length≤64 by omega) (show at0.length+at0.length<K by omega)
 have hS:=aMG hA hb' hc h2 (by omega) (show at0.length≤64 by omega) (show at0.length≤63 by omega) (show at0.length+1+at0.length<K by omega)
 simp only [qF (show¬(at0.length:Int)=0 by omega),bM,hR,oB,nF (rfl:(0:Int)=0)]
 by_cases hr:aIg (sbm M at0) at0.length at0.length=at0.length
 ·rw [if_pos hr]
  simp only [hr,nF (rfl:(at0.length:Int)=(at0.length:Int)),bM,hS,oB]
  cases hx:aBe (sbm M at0) (sbq q at0) at0.length at0.length with
  |none=>simp only [nT (show(6:Int)≠0 by decide),bS];exact⟨trivial,fun z hz=>by cases hz⟩
  |some x=>
   obtain⟨x1,x2⟩:=aHH hA hb' h2 hx
   have h102:=aI1 (e:=0) (show at0.length≤1000 by omega) ha x1 K at0.length 0 K (by omega) (by omega)
   have z3:mp (plc at0 x 0) n=mp (fun _=>(0:Rat)) n:=rfl
   rw [z3,Int.natCast_zero] at h102
   simp only [nF (rfl:(0:Int)=0),bM,h102,oB,mK]
   refine⟨trivial,fun z hz j=>?_⟩
   cases hz
   exact(aOy x2 (by have:0<5^at0.length*B:=Nat.mul_pos (Nat.pow_pos (by decide)) (by omega);omega) _ (by omega) j).mono hp6
 ·rw [if_neg hr]
  simp only [nT (show((aIg (sbm M at0) at0.length at0.length:Nat):Int)≠(at0.length:Int) by omega),bS]
  exact⟨trivial,fun z hz=>by cases hz⟩
def wvl (M:Nat→Nat→Rat) (q z:Nat→Rat) (n i:Nat):Rat:=sm (fun c=>M i c*z c) n+q i
def aFJ (z w:Nat→Rat):Nat→Nat→Bool
 |0,_=>true
 |t+1,i=>bif decide (0<(z i).num.sign) then(bif((w i).num.sign != 0) then false else aFJ z w t (i+1)) else aFJ z w t (i+1)
def ckb (M:Nat→Nat→Rat) (q z:Nat→Rat) (n:Nat):Bool:=bif ng z n 0 then false else(bif aFJ z (wvl M q z n) n 0 then !(ng (wvl M q z n) n 0) else false)
theorem aK2 {M:Nat→Nat→Rat} {q z:Nat→Rat} {n B B':Nat} (hM:yW n n B M) (hq:∀i,i<n→Bd B (q i)) (hz:∀i,i<n→Bd B' (z i)) (hn:n≤8) (hB:8*(B+B'+1)≤1000000000) {K:Nat} (hK:100≤K):∀(t i k:Nat) (f:Nat→Rat),i+t=n→t<k→(∀j,j<i→f j=wvl M q z n j)→iE K (mx M n n) (mp q n) (mp z n) k (mp f n) (i:Int)=some (mp (wvl M q z n) n)
 |0,i,k,f,hi,hk,hf=>by
  obtain⟨k',rfl,_⟩:=aY hk
  simp only [iE,gN,dF (show¬(i:Int)<(n:Int) by omega),bM]
  rw [tA fun j hj=>hf j (by omega)]
 |t+1,i,k,f,hi,hk,hf=>by
  obtain⟨k',rfl,_⟩:=aY hk
  have hnB:n*(B+B'+1)≤1000000000:=Nat.le_trans (Nat.mul_le_mul_right _ hn) hB
  have d:=aOc (f:=M i) (e:=z) (w:=n) (fun c hc=>hM i c (by omega) hc) hz hnB (by omega) (show n<K by omega)
  have db:=aK1 (f:=M i) (e:=z) (w:=n) (fun c hc=>hM i c (by omega) hc) hz n (Nat.le_refl n)
  simp only [iE,gN,dT (show(i:Int)<(n:Int) by omega),bS,zG (g:=M) (w:=n) (show i<n by omega),oB,d,lX (f:=q) (show i<n by omega),aAX db (hq i (by omega)) (by omega) (by omega),lX (f:=f) (show i<n by omega),aEm (f:=f) (show i<n by omega),uL (i:=i) (by omega)]
  exact aK2 hM hq hz hn hB hK t (i+1) k' _ (by omega) (by omega) (fun j hj=>by
   by_cases e:j=i
   ·rw [e,eH];rfl
   ·rw [l5 e];exact hf j (by omega))
theorem aLg {z w:Nat→Rat} {n B B':Nat} (hz:∀i,i<n→Bd B (z i)) (hw:∀i,i<n→Bd B' (w i)) (hB:B≤1073741824) (hB':B'≤1073741824) (hn:n≤1000) (K:Nat):∀(t i k:Nat),i+t=n→t<k→gF K (mp z n) (mp w n) k (i:Int)=some (bif aFJ z w t i then .go () else .ret false)
 |0,i,k,hi,hk=>by
  obtain⟨k',rfl,_⟩:=aY hk
  simp only [gF,aZ,dF (show¬(i:Int)<(n:Int) by omega),bM,aFJ,bS]
 |t+1,i,k,hi,hk=>by
  obtain⟨k',rfl,_⟩:=aY hk
  have ih:=aLg hz hw hB hB' hn K t (i+1) k' (by omega) (by omega)
  simp only [gF,aZ,dT (show(i:Int)<(n:Int) by omega),bS,lX (f:=z) (show i<n by omega),lX (f:=w) (show i<n by omega),oB,uS (hz i (by omega)) hB,uS (hw i (by omega)) hB',uL (i:=i) (by omega),aFJ]
  cases decide (0<(z i).num.sign) with
  |true=>
   simp only [bS]
   cases((w i).num.sign != 0) with
   |true=>simp only [bS,bM]
   |false=>simp only [bM];exact ih
  |false=>simp only [bM];exact ih
theorem aFS {M:Nat→Nat→Rat} {q z:Nat→Rat} {n B B':Nat} (hM:yW n n B M) (hq:∀i,i<n→Bd B (q i)) (hz:∀i,i<n→Bd B' (z i)) (hn:n≤8) (hB:8*(B+B'+1)≤100000000) {K:Nat} (hK:100≤K):l4 K (mx M n n) (mp q n) (mp z n)=some (ckb M q z n):=by
 have v:=aE1 hM hq (by omega) (by omega) hK
 have g:=aCL (y8 hz) (by omega) (show(mp z n).length≤1000 by rw [aZ];omega) (show(mp z n).length<K by rw [aZ];omega)
 have ngz:=(aH4 hz (by omega) (show n≤1000 by omega) (show n<K by omega)).1
 have hw:∀i,i<n→Bd (200000000+B) (wvl M q z n i):=fun i hi=>by
  have hnB:n*(B+B'+1)≤100000000:=Nat.le_trans (Nat.mul_le_mul_right _ hn) hB
  have db:=aK1 (f:=M i) (e:=z) (w:=n) (fun c hc=>hM i c (by omega) hc) hz n (Nat.le_refl n)
  exact(db.add (hq i hi)).mono (by omega)
 have ngw:=(aH4 hw (by omega) (show n≤1000 by omega) (show n<K by omega)).1
 have l26:=aK2 hM hq hz hn (by omega) hK n 0 K (fun _=>0) (by omega) (by omega) (fun j hj=>absurd hj (by omega))
 have l15:=aLg hz hw (by omega) (by omega) (show n≤1000 by omega) K n 0 K (by omega) (by omega)
 simp only [Int.natCast_zero] at l26 l15
 simp only [l4,v,oB,Bool.not_true,bM,aZ,nF (rfl:(n:Int)=(n:Int)),g,ngz,ckb]
 cases ng z n 0 with
 |true=>simp only [bS]
 |false=>
  simp only [bM,t5,aZ,aHN (n:=n) (z:=(0:Rat)) (by omega),oB,l26,p9,l15]
  cases aFJ z (wvl M q z n) n 0 with
  |true=>simp only [bS,rC,ngw,oB]
  |false=>simp only [bM]
theorem aKO {x z:List Rat} {B:Nat} (hx:Bds B x) (hz:Bds B z) (hB:B≤1073741824) (hl:x.length=z.length) (hn:x.length≤1000) (K:Nat):∀(t i k:Nat),i+t=x.length→t<k→kH K x z k (i:Int)=some (if x.drop i=z.drop i then .go () else .ret false)
 |0,i,k,hi,hk=>by
  obtain⟨k',rfl,_⟩:=aY hk
  simp only [kH,dF (show¬(i:Int)<(x.length:Int) by omega),bM]
  rw [List.drop_eq_nil_of_le (by omega),List.drop_eq_nil_of_le (by omega),if_pos rfl]
 |t+1,i,k,hi,hk=>by
  obtain⟨k',rfl,_⟩:=aY hk
  have ih:=aKO hx hz hB hl hn K t (i+1) k' (by omega) (by omega)
  have b1:=hx _ (aCi (l:=x) (i:=i) (by omega))
  have b2:=hz _ (aCi (l:=z) (i:=i) (by omega))
  have d1:x.drop i=at' x i::x.drop (i+1):=by unfold at';rw [List.drop_eq_getElem_cons (by omega),List.getD_eq_getElem?_getD,List.getElem?_eq_getElem (by omega)];rfl
  have d2:z.drop i=at' z i::z.drop (i+1):=by unfold at';rw [List.drop_eq_getElem_cons (by omega),List.getD_eq_getElem?_getD,List.getElem?_eq_getElem (by omega)];rfl
  simp only [kH,dT (show(i:Int)<(x.length:Int) by omega),bS,aIj (l:=x) (i:=i) (by omega),aIj (l:=z) (i:=i) (by omega),oB,aF8 b1 b2 hB hB,uL (i:=i) (by omega)]
  rw [d1,d2]
  by_cases e:at' x i=at' z i
  ·simp only [e,decide_true,Bool.not_true,bM,ih,List.cons.injEq,true_and]
  ·simp only [e,decide_false,Bool.not_false,bS,List.cons.injEq,false_and,if_false]
theorem aOT {x z:List Rat} {B:Nat} (hx:Bds B x) (hz:Bds B z) (hB:B≤1073741824) (hl:x.length=z.length) (hn:x.length≤1000) {K:Nat} (hK:x.length<K):tC K x z=some (decide (x=z)):=by
 have h:=aKO hx hz hB hl hn K x.length 0 K (by omega) hK
 simp only [Int.natCast_zero,List.drop_zero] at h
 simp only [tC,h,oB]
 by_cases e:x=z
 ·rw [if_pos e]
  simp only [tE,e,decide_true,qT (rfl:(z.length:Int)=(z.length:Int))]
 ·rw [if_neg e]
  simp only [e,decide_false]
def aGY (B n:Nat) (out:List (List Rat)):Prop:=∀x∈out,Bds B x∧x.length=n
theorem aKN {out:List (List Rat)} {z:List Rat} {b:Bool} {n B:Nat} (ho:aGY B n out) (hz:Bds B z) (hzl:z.length=n) (hB:B≤1073741824) (hn:n≤1000) (hl:out.length≤100000) {K:Nat} (hK:n<K):∀(t i k:Nat),i+t=out.length→t<k→kK K out (z,b) k (i:Int)=some (if z∈out.drop i then .ret (0,out) else .go ())
 |0,i,k,hi,hk=>by
  obtain⟨k',rfl,_⟩:=aY hk
  simp only [kK,dF (show¬(i:Int)<(out.length:Int) by omega),bM]
  rw [List.drop_eq_nil_of_le (by omega),if_neg List.not_mem_nil]
 |t+1,i,k,hi,hk=>by
  obtain⟨k',rfl,_⟩:=aY hk
  have ih:=aKN ho hz hzl (b:=b) hB hn hl hK t (i+1) k' (by omega) (by omega)
  have hi':i<out.length:=by omega
  have d1:out.drop i=out[i]::out.drop (i+1):=List.drop_eq_getElem_cons hi'
  have r1:bF out (i:Int)=some out[i]:=rdG (List.getElem?_eq_getElem hi')
  obtain⟨o1,o2⟩:=ho _ (List.getElem_mem hi')
  simp only [kK,dT (show(i:Int)<(out.length:Int) by omega),bS,r1,oB,aOT o1 hz hB (by omega) (by omega) (show out[i].length<K by omega),uL (i:=i) (by omega)]
  rw [d1]
  by_cases e:out[i]=z
  ·rw [decide_eq_true e,bS,if_pos (by rw [e];exact List.mem_cons_self)]
  ·rw [decide_eq_false e,bM,ih]
   have:(z∈out[i]::out.drop (i+1))↔z∈out.drop (i+1):=by
    rw [List.mem_cons]
    exact⟨fun h=>h.resolve_left fun h2=>e h2.symm,Or.inr⟩
   by_cases h2:z∈out.drop (i+1)
   ·rw [if_pos h2,if_pos (this.2 h2)]
   ·rw [if_neg h2,if_neg (fun h=>h2 (this.1 h))]
def aGX (M:Nat→Nat→Rat) (q:Nat→Rat) (n c:Nat) (out:List (List Rat)):List (List Rat):=
 match cnd M q (atl (btc c) n) with
 |none=>out
 |some z=>if ckb M q z n=true then(if mp z n∈out then out else out++[mp z n]) else out
def w5 (M:Nat→Nat→Rat) (q:Nat→Rat) (n:Nat):Nat→List (List Rat)
 |0=>[]
 |c+1=>aGX M q n c (w5 M q n c)
theorem aEh {M:Nat→Nat→Rat} {q:Nat→Rat} {n B:Nat} (hM:yW n n B M) (hq:∀i,i<n→Bd B (q i)) (hn:n≤6) (h2:2≤B) (hB:B≤5000):∀c,aGY (5^6*B) n (w5 M q n c)∧(w5 M q n c).length≤c
 |0=>⟨fun x hx=>absurd hx List.not_mem_nil,Nat.le_refl _⟩
 |c+1=>by
  obtain⟨i1,i2⟩:=aEh hM hq hn h2 hB c
  show aGY _ _ (aGX M q n c (w5 M q n c))∧(aGX M q n c (w5 M q n c)).length≤c+1
  unfold aGX
  cases hc:cnd M q (atl (btc c) n) with
  |none=>exact⟨i1,by show(w5 M q n c).length≤c+1;omega⟩
  |some z=>
   have hz:=(aHP (b:=btc c) hM hq hn h2 hB (K:=100) (Nat.le_refl _)).2 z hc
   show aGY _ _ (if _ then _ else _)∧(if _ then _ else _:List (List Rat)).length≤c+1
   split
   ·split
    ·exact⟨i1,by omega⟩
    ·refine⟨fun x hx=>?_,by rw [List.length_append];simp;exact i2⟩
     rcases List.mem_append.1 hx with h|h
     ·exact i1 x h
     ·rw [List.mem_singleton.1 h];exact⟨y8 fun j _=>hz j,aZ _ _⟩
   ·exact⟨i1,by omega⟩
theorem aQT:∀n,n≤6→aOP 1 ((n:Nat):Int)=some ((2^n:Nat):Int):=by decide
theorem aRA {M:Nat→Nat→Rat} {q:Nat→Rat} {n B:Nat} (hM:yW n n B M) (hq:∀i,i<n→Bd B (q i)) (hn:n≤6) (h2:2≤B) (hB:B≤50) {K:Nat} (hK:1000≤K) {c:Nat} (hc:c<100):pJ K (mx M n n) (mp q n) (mp (btc c) n) (w5 M q n c)=some (0,w5 M q n (c+1)):=by
 obtain⟨i1,i2⟩:=aEh hM hq hn h2 (show B≤5000 by omega) c
 obtain⟨c1,c2⟩:=aHP (b:=btc c) hM hq hn h2 (show B≤5000 by omega) (show 100≤K by omega)
 show _=some (0,aGX M q n c (w5 M q n c))
 unfold aGX
 simp only [pJ,c1,oB]
 cases hcn:cnd M q (atl (btc c) n) with
 |none=>simp only [Bool.not_false,bS]
 |some z=>
  have hz:=c2 z hcn
  have e6:5^6=15625:=rfl
  have ck:=aFS (K:=K) hM hq (fun i _=>hz i) (show n≤8 by omega) (by omega) (by omega)
  simp only [Bool.not_true,bM,ck,oB]
  cases ckb M q z n with
  |false=>simp only [Bool.not_false,bS,Bool.false_eq_true,if_false]
  |true=>
   have hzb:Bds (5^6*B) (mp z n):=y8 fun j _=>hz j
   have l35:=aKN (b:=true) i1 hzb (aZ z n) (by omega) (show n≤1000 by omega) (by omega) (show n<K by omega) (w5 M q n c).length 0 K (by omega) (by omega)
   simp only [Int.natCast_zero,List.drop_zero] at l35
   simp only [Bool.not_true,bM,l35,oB,if_true]
   by_cases hm:mp z n∈w5 M q n c
   ·simp only [if_pos hm]
   ·simp only [if_neg hm,sU,apS (xs:=w5 M q n c) (x:=mp z n) (by omega),oB]
theorem aI8 {M:Nat→Nat→Rat} {q:Nat→Rat} {n B:Nat} (hM:yW n n B M) (hq:∀i,i<n→Bd B (q i)) (hn:n≤6) (h2:2≤B) (hB:B≤50) {K:Nat} (hK:1000≤K):iL K (mx M n n) (mp q n)=some (w5 M q n (2^n),0):=by
 have v:=aE1 hM hq (by omega) (show n≤32 by omega) (show 100≤K by omega)
 have h64:2^n≤2^6:=Nat.pow_le_pow_right (by decide) hn
 have l35:=aNm (yF:=pJ K (mx M n n) (mp q n)) (out:=w5 M q n) (show n≤8 by omega) (show 2^n≤1000 by omega) (fun c hc=>aRA hM hq hn h2 hB hK (by omega)) (show n<K by omega) (2^n) 0 K (by omega) (by omega)
 have z:w5 M q n 0=[]:=rfl
 rw [z,Int.natCast_zero] at l35
 have e0:Nat.beq 0 0=true:=rfl
 simp only [iL,v,oB,Bool.not_true,bM,aZ,dF (show¬(8:Int)<(n:Int) by omega),qA,nV,aQT n hn,l35,k5,e0,bS]
end Go.Proofs.YtolfcbpgmfbgmaaGreat
set_option linter.unusedVariables false
namespace Go.Proofs.YtolfcbpgmfbgmaaGreat
theorem aM9 {X:List (List aK)} (hX:X.length≤1000) (hr:∀r∈X,r.length≤1000) (K:Nat):∀(t i k:Nat),i+t=X.length→t<k→cS K X k (mp id i) (X.take i) (i:Int)=some (mp id X.length,X)
 |0,i,k,hi,hk=>by
  obtain⟨k',rfl,_⟩:=aY hk
  have:i=X.length:=by omega
  subst this
  simp only [cS,dF (show¬(X.length:Int)<(X.length:Int) by omega),bM,List.take_length]
 |t+1,i,k,hi,hk=>by
  obtain⟨k',rfl,_⟩:=aY hk
  have hi':i<X.length:=by omega
  have r1:bF X (i:Int)=some X[i]:=rdG (List.getElem?_eq_getElem hi')
  have hl:=hr _ (List.getElem_mem hi')
  have a1:oG ([]:List aK) X[i]=some X[i]:=xM (by simp;omega)
  have tl:(X.take i).length=i:=by rw [List.length_take];omega
  have a2:oG (mp id i) [i]=some (mp id (i+1)):=apM (g:=id) (by omega)
  have e:X.take i++[X[i]]=X.take (i+1):=by rw [List.take_append_getElem hi']
  simp only [cS,dT (show(i:Int)<(X.length:Int) by omega),bS,r1,oB,a1,tl,a2,uL (i:=i) (by omega),e]
  exact aM9 hX hr K t (i+1) k' (by omega) (by omega)
theorem aRw {X:List (List aK)}:w7 X (mp id X.length)=X:=by
 unfold w7 mp
 apply List.ext_getElem?
 intro j
 simp only [List.map_map,List.getElem?_map]
 by_cases hj:j<X.length
 ·simp [hj]
 ·rw [List.getElem?_eq_none (by simp;omega),List.getElem?_eq_none (by omega)];rfl
theorem aI6 {vld:aK→Bool} {l:List aK} {K:Nat} (h:∀x∈l,jK K x=some (vld x)) (hl:l.length≤1000):∀(t i k:Nat),i+t=l.length→t<k→gT K l k (i:Int)=some (if(l.drop i).all vld=true then .go () else .ret false)
 |0,i,k,hi,hk=>by
  obtain⟨k',rfl,_⟩:=aY hk
  simp only [gT,dF (show¬(i:Int)<(l.length:Int) by omega),bM]
  rw [List.drop_eq_nil_of_le (by omega)];rfl
 |t+1,i,k,hi,hk=>by
  obtain⟨k',rfl,_⟩:=aY hk
  have hi':i<l.length:=by omega
  have ih:=aI6 h hl t (i+1) k' (by omega) (by omega)
  have d1:l.drop i=l[i]::l.drop (i+1):=List.drop_eq_getElem_cons hi'
  have r1:bF l (i:Int)=some l[i]:=rdG (List.getElem?_eq_getElem hi')
  simp only [gT,dT (show(i:Int)<(l.length:Int) by omega),bS,r1,oB,h _ (List.getElem_mem hi'),uL (i:=i) (by omega)]
  rw [d1,List.all_cons]
  cases vld l[i] with
  |true=>simp only [Bool.not_true,bM,Bool.true_and];exact ih
  |false=>simp only [Bool.not_false,bS,Bool.false_and,Bool.false_eq_true,if_false]
theorem aJw {vld:aK→Bool} {l:List aK} {K:Nat} (h:∀x∈l,jK K x=some (vld x)) (hl:l.length≤1000) (hK:l.length<K):lI K l=some (l.all vld):=by
 have e:=aI6 h hl l.length 0 K (by omega) hK
 simp only [Int.natCast_zero,List.drop_zero] at e
 simp only [lI,e,oB]
 cases l.all vld with
 |true=>simp only [if_true,o8]
 |false=>simp only [Bool.false_eq_true,if_false]
theorem aHf {vld:aK→Bool} {l:List aK} {K:Nat} (h:∀x∈l,bP K x=some (vld x)) (hl:l.length≤1000):∀(t i k:Nat),i+t=l.length→t<k→f9 K l k (i:Int)=some (if(l.drop i).all vld=true then .go () else .ret false)
 |0,i,k,hi,hk=>by
  obtain⟨k',rfl,_⟩:=aY hk
  simp only [f9,dF (show¬(i:Int)<(l.length:Int) by omega),bM]
  rw [List.drop_eq_nil_of_le (by omega)];rfl
 |t+1,i,k,hi,hk=>by
  obtain⟨k',rfl,_⟩:=aY hk
  have hi':i<l.length:=by omega
  have ih:=aHf h hl t (i+1) k' (by omega) (by omega)
  have d1:l.drop i=l[i]::l.drop (i+1):=List.drop_eq_getElem_cons hi'
  have r1:bF l (i:Int)=some l[i]:=rdG (List.getElem?_eq_getElem hi')
  simp only [f9,dT (show(i:Int)<(l.length:Int) by omega),bS,r1,oB,h _ (List.getElem_mem hi'),uL (i:=i) (by omega)]
  rw [d1,List.all_cons]
  cases vld l[i] with
  |true=>simp only [Bool.not_true,bM,Bool.true_and];exact ih
  |false=>simp only [Bool.not_false,bS,Bool.false_and,Bool.false_eq_true,if_false]
theorem aG9 {vld:aK→Bool} {l:List aK} {K:Nat} (h:∀x∈l,bP K x=some (vld x)) (hl:l.length≤1000) (hK:l.length<K):kM K l=some (l.all vld):=by
 have e:=aHf h hl l.length 0 K (by omega) hK
 simp only [Int.natCast_zero,List.drop_zero] at e
 simp only [kM,e,oB]
 cases l.all vld with
 |true=>simp only [if_true,nX]
 |false=>simp only [Bool.false_eq_true,if_false]
theorem aHD {vld:aK→Bool} {X:List (List aK)} {Y:List aK} {n K:Nat} (h:∀r∈X,∀x∈r,jK K x=some (vld x)) (hr:∀r∈X,r.length=n) (hY:Y.length=n) (hX:X.length≤1000) (hn:n≤1000) (hK:n<K):∀(t i k:Nat),i+t=X.length→t<k→fW K X Y k (i:Int)=some (if(X.drop i).all (fun r=>r.all vld)=true then .go () else .ret false)
 |0,i,k,hi,hk=>by
  obtain⟨k',rfl,_⟩:=aY hk
  simp only [fW,dF (show¬(i:Int)<(X.length:Int) by omega),bM]
  rw [List.drop_eq_nil_of_le (by omega)];rfl
 |t+1,i,k,hi,hk=>by
  obtain⟨k',rfl,_⟩:=aY hk
  have hi':i<X.length:=by omega
  have ih:=aHD h hr hY hX hn hK t (i+1) k' (by omega) (by omega)
  have d1:X.drop i=X[i]::X.drop (i+1):=List.drop_eq_getElem_cons hi'
  have r1:bF X (i:Int)=some X[i]:=rdG (List.getElem?_eq_getElem hi')
  have hm:=List.getElem_mem hi'
  have hl:=hr _ hm
  have g:=aJw (h _ hm) (show X[i].length≤1000 by omega) (show X[i].length<K by omega)
  simp only [fW,dT (show(i:Int)<(X.length:Int) by omega),bS,r1,oB,hl,hY,nF (rfl:(n:Int)=(n:Int)),bM,g,uL (i:=i) (by omega)]
  rw [d1,List.all_cons]
  cases X[i].all vld with
  |true=>simp only [Bool.not_true,bM,Bool.true_and];exact ih
  |false=>simp only [Bool.not_false,bS,Bool.false_and,Bool.false_eq_true,if_false]
theorem aMu {vld:aK→Bool} {X:List (List aK)} {Y:List aK} {n K:Nat} (h:∀r∈X,∀x∈r,jK K x=some (vld x)) (hy:∀x∈Y,jK K x=some (vld x)) (hr:∀r∈X,r.length=n) (hX:X.length=n) (hY:Y.length=n) (hn:n≤32) (hK:n<K):eN K X Y=some (Y.all vld&&X.all (fun r=>r.all vld)):=by
 have l8:=aHD h hr hY (by omega) (by omega) hK X.length 0 K (by omega) (by omega)
 have g:=aJw hy (show Y.length≤1000 by omega) (show Y.length<K by omega)
 simp only [Int.natCast_zero,List.drop_zero] at l8
 simp only [eN,hX,hY,nF (rfl:(n:Int)=(n:Int)),bM,dF (show¬(32:Int)<(n:Int) by omega),g,oB]
 cases Y.all vld with
 |false=>simp only [Bool.not_false,bS,Bool.false_and]
 |true=>
  simp only [Bool.not_true,bM,l8,oB,Bool.true_and]
  cases X.all (fun r=>r.all vld) with
  |true=>simp only [if_true,nQ]
  |false=>simp only [Bool.false_eq_true,if_false]
theorem aHk {vld:aK→Bool} {X:List (List aK)} {Y:List aK} {n K:Nat} (h:∀r∈X,∀x∈r,bP K x=some (vld x)) (hr:∀r∈X,r.length=n) (hY:Y.length=n) (hX:X.length≤1000) (hn:n≤1000) (hK:n<K):∀(t i k:Nat),i+t=X.length→t<k→fD K X Y k (i:Int)=some (if(X.drop i).all (fun r=>r.all vld)=true then .go () else .ret false)
 |0,i,k,hi,hk=>by
  obtain⟨k',rfl,_⟩:=aY hk
  simp only [fD,dF (show¬(i:Int)<(X.length:Int) by omega),bM]
  rw [List.drop_eq_nil_of_le (by omega)];rfl
 |t+1,i,k,hi,hk=>by
  obtain⟨k',rfl,_⟩:=aY hk
  have hi':i<X.length:=by omega
  have ih:=aHk h hr hY hX hn hK t (i+1) k' (by omega) (by omega)
  have d1:X.drop i=X[i]::X.drop (i+1):=List.drop_eq_getElem_cons hi'
  have r1:bF X (i:Int)=some X[i]:=rdG (List.getElem?_eq_getElem hi')
  have hm:=List.getElem_mem hi'
  have hl:=hr _ hm
  have g:=aG9 (h _ hm) (show X[i].length≤1000 by omega) (show X[i].length<K by omega)
  simp only [fD,dT (show(i:Int)<(X.length:Int) by omega),bS,r1,oB,hl,hY,nF (rfl:(n:Int)=(n:Int)),bM,g,uL (i:=i) (by omega)]
  rw [d1,List.all_cons]
  cases X[i].all vld with
  |true=>simp only [Bool.not_true,bM,Bool.true_and];exact ih
  |false=>simp only [Bool.not_false,bS,Bool.false_and,Bool.false_eq_true,if_false]
theorem aMK {vld:aK→Bool} {X:List (List aK)} {Y:List aK} {n K:Nat} (h:∀r∈X,∀x∈r,bP K x=some (vld x)) (hy:∀x∈Y,bP K x=some (vld x)) (hr:∀r∈X,r.length=n) (hX:X.length=n) (hY:Y.length=n) (hn:n≤32) (hK:n<K):fM K X Y=some (Y.all vld&&X.all (fun r=>r.all vld)):=by
 have l8:=aHk h hr hY (by omega) (by omega) hK X.length 0 K (by omega) (by omega)
 have g:=aG9 hy (show Y.length≤1000 by omega) (show Y.length<K by omega)
 simp only [Int.natCast_zero,List.drop_zero] at l8
 simp only [fM,hX,hY,nF (rfl:(n:Int)=(n:Int)),bM,dF (show¬(32:Int)<(n:Int) by omega),g,oB]
 cases Y.all vld with
 |false=>simp only [Bool.not_false,bS,Bool.false_and]
 |true=>
  simp only [Bool.not_true,bM,l8,oB,Bool.true_and]
  cases X.all (fun r=>r.all vld) with
  |true=>simp only [if_true,m7]
  |false=>simp only [Bool.false_eq_true,if_false]
theorem aDn {X:List (List aK)} {Y:List aK} {K:Nat} (hu:aEW X=none∨aE4 Y=none) (hv:eN K X Y=some false):gG K X Y=some ([],1):=by
 have hr:mG K X Y=some ([],1):=by
  simp only [mG,hv,oB,Bool.not_false,bS]
 unfold gG
 split
 ·rename_i M q h1 h2
  rcases hu with h|h
  ·rw [h] at h1;cases h1
  ·rw [h] at h2;cases h2
 ·rw [hr,oB,if_pos rfl]
theorem zQ {M:List (List Rat)} {q:List Rat} {K:Nat}:gG K (M.map (List.map Qr)) (q.map Qr)=iL K M q:=by
 unfold gG
 rw [aI4,aI7]
theorem aCP {X:List (List aK)} {Y:List aK} {K:Nat} (hu:aEW X=none∨aE4 Y=none) (hv:fM K X Y=some false):fJ K X Y=some ([],1):=by
 have hr:lL K X Y=some ([],1):=by
  simp only [lL,hv,oB,Bool.not_false,bS]
 unfold fJ
 split
 ·rename_i M q h1 h2
  rcases hu with h|h
  ·rw [h] at h1;cases h1
  ·rw [h] at h2;cases h2
 ·rw [hr,oB,if_pos rfl]
theorem y4 {M:List (List Rat)} {q:List Rat} {K:Nat}:fJ K (M.map (List.map Qr)) (q.map Qr)=lB K M q:=by
 unfold fJ
 rw [aI4,aI7]
theorem aKy {α β:Type} {f:α→Nat→Option β} {v:α→β}:∀(l:List α),(∀x∈l,Ev (f x) (v x))→∃K0,∀K,K0≤K→∀x∈l,f x K=some (v x)
 |[],_=>⟨0,fun K _ x hx=>absurd hx List.not_mem_nil⟩
 |y::l,h=>by
  obtain⟨k1,h1⟩:=h y List.mem_cons_self
  obtain⟨k2,h2⟩:=aKy l fun x hx=>h x (List.mem_cons_of_mem _ hx)
  refine⟨k1+k2,fun K hK x hx=>?_⟩
  rcases List.mem_cons.1 hx with rfl|hx
  ·exact h1 K (by omega)
  ·exact h2 K (by omega) x hx
open Classical in
noncomputable def aDs (x:aK):Bool:=decide (∃a:Rat,x=Qr a)
open Classical in
theorem aJu (a:Rat):aDs (Qr a)=true:=decide_eq_true ⟨a,rfl⟩
open Classical in
theorem aEX {x:aK} (h:∀a:Rat,x≠Qr a):aDs x=false:=decide_eq_false fun⟨a,e⟩=>h a e
end Go.Proofs.YtolfcbpgmfbgmaaGreat
set_option linter.unusedVariables false
namespace Go.Proofs.YtolfcbpgmfbgmaaGreat
theorem aHR {α:Type} {g:Nat→α} {n:Nat} {x:α} (h:x∈mp g n):∃i,i<n∧x=g i:=by
 obtain⟨i,hi,he⟩:=List.mem_map.1 h
 exact⟨i,List.mem_range.1 hi,he.symm⟩
def lnB (X:List (List Rat)) (n:Nat):Bool:=X.all fun r=>decide (r.length=n)
theorem aG3 {X:List (List Rat)} {Y:List Rat} {B:Nat} (hX:∀r∈X,Bds B r∧r.length≤1000) (hB:B≤1073741824) (hl:X.length≤1000) {K:Nat} (hK:1001≤K):∀(t i k:Nat),i+t=X.length→t<k→d8 K X Y k (i:Int)=some (if lnB (X.drop i) Y.length=true then .go () else .ret false)
 |0,i,k,hi,hk=>by
  obtain⟨k',rfl,_⟩:=aY hk
  simp only [d8,dF (show¬(i:Int)<(X.length:Int) by omega),bM]
  rw [List.drop_eq_nil_of_le (by omega)];rfl
 |t+1,i,k,hi,hk=>by
  obtain⟨k',rfl,_⟩:=aY hk
  have hi':i<X.length:=by omega
  have ih:=aG3 (Y:=Y) hX hB hl hK t (i+1) k' (by omega) (by omega)
  have d1:X.drop i=X[i]::X.drop (i+1):=List.drop_eq_getElem_cons hi'
  have r1:bF X (i:Int)=some X[i]:=rdG (List.getElem?_eq_getElem hi')
  obtain⟨o1,o2⟩:=hX _ (List.getElem_mem hi')
  have g:=aCL o1 hB o2 (show X[i].length<K by omega)
  simp only [d8,dT (show(i:Int)<(X.length:Int) by omega),bS,r1,oB,g,Bool.not_true,bM,uL (i:=i) (by omega)]
  rw [d1]
  unfold lnB at ih ⊢
  rw [List.all_cons]
  by_cases e:X[i].length=Y.length
  ·rw [decide_eq_true e,Bool.true_and,nF (by omega),bM];exact ih
  ·rw [decide_eq_false e,Bool.false_and,nT (by omega),bS];rfl
theorem aFZ {X:List (List Rat)} {Y:List Rat} {B:Nat} (hX:∀r∈X,Bds B r∧r.length≤1000) (hB:B≤1073741824) (hl:X.length≤1000) {K:Nat} (hK:1001≤K):∀(t i k:Nat),i+t=X.length→t<k→dH K X Y k (i:Int)=some (if lnB (X.drop i) Y.length=true then .go () else .ret false)
 |0,i,k,hi,hk=>by
  obtain⟨k',rfl,_⟩:=aY hk
  simp only [dH,dF (show¬(i:Int)<(X.length:Int) by omega),bM]
  rw [List.drop_eq_nil_of_le (by omega)];rfl
 |t+1,i,k,hi,hk=>by
  obtain⟨k',rfl,_⟩:=aY hk
  have hi':i<X.length:=by omega
  have ih:=aFZ (Y:=Y) hX hB hl hK t (i+1) k' (by omega) (by omega)
  have d1:X.drop i=X[i]::X.drop (i+1):=List.drop_eq_getElem_cons hi'
  have r1:bF X (i:Int)=some X[i]:=rdG (List.getElem?_eq_getElem hi')
  obtain⟨o1,o2⟩:=hX _ (List.getElem_mem hi')
  have g:=aBw o1 hB o2 (show X[i].length<K by omega)
  simp only [dH,dT (show(i:Int)<(X.length:Int) by omega),bS,r1,oB,g,Bool.not_true,bM,uL (i:=i) (by omega)]
  rw [d1]
  unfold lnB at ih ⊢
  rw [List.all_cons]
  by_cases e:X[i].length=Y.length
  ·rw [decide_eq_true e,Bool.true_and,nF (by omega),bM];exact ih
  ·rw [decide_eq_false e,Bool.false_and,nT (by omega),bS];rfl
theorem aC8 {X:List (List Rat)} {Y:List Rat} {B:Nat} (hX:∀r∈X,Bds B r∧r.length≤1000) (hY:Bds B Y) (hB:B≤1073741824) (hl:X.length≤30) (hl2:Y.length≤30) (hbad:X.length≠Y.length∨∃r∈X,r.length≠Y.length) {K:Nat} (hK:1001≤K):dC K X Y=some false∧fR K X Y=some false:=by
 by_cases e:X.length=Y.length
 ·have hb:lnB X Y.length=false:=by
   rcases hbad with h|⟨r,h1,h2⟩
   ·exact absurd e h
   ·cases hc:lnB X Y.length with
    |false=>rfl
    |true=>exact absurd (of_decide_eq_true (List.all_eq_true.1 hc r h1)) h2
  have l1:=aG3 (Y:=Y) hX hB (by omega) hK X.length 0 K (by omega) (by omega)
  have l2:=aFZ (Y:=Y) hX hB (by omega) hK X.length 0 K (by omega) (by omega)
  have g1:=aCL hY hB (show Y.length≤1000 by omega) (show Y.length<K by omega)
  have g2:=aBw hY hB (show Y.length≤1000 by omega) (show Y.length<K by omega)
  rw [List.drop_zero,hb,if_neg (by decide),Int.natCast_zero] at l1 l2
  constructor
  ·simp only [dC,nF (show(X.length:Int)=(Y.length:Int) by omega),bM,dF (show¬(32:Int)<(X.length:Int) by omega),g1,oB,Bool.not_true,l1]
  ·simp only [fR,nF (show(X.length:Int)=(Y.length:Int) by omega),bM,dF (show¬(32:Int)<(Y.length:Int) by omega),g2,oB,Bool.not_true,l2]
 ·constructor
  ·simp only [dC,nT (show(X.length:Int)≠(Y.length:Int) by omega),bS]
  ·simp only [fR,nT (show(X.length:Int)≠(Y.length:Int) by omega),bS]
theorem aL8 {X:List (List aK)} {Y:List aK} {n:Nat} (hr:∀r∈X,r.length=n) (hX:X.length=n) (hY:Y.length=n) (hn:n≤32) (ok:∀x,x∈X.flatten++Y→(∃a,x=Qr a∧qs a=true)∨(Ev (fun K=>jK K x) false∧Ev (fun K=>bP K x) false∧∀a,x≠Qr a)) (hb:∃x,x∈X.flatten++Y∧∀a,x≠Qr a):(aEW X=none∨aE4 Y=none)∧∃K0,∀K,K0≤K→eN K X Y=some false∧fM K X Y=some false:=by
 obtain⟨x,x1,x2⟩:=hb
 have hx:=List.mem_append.1 x1
 constructor
 ·rcases hx with h|h
  ·refine Or.inl (aMg fun l hl=>?_)
   obtain⟨r,r1,r2⟩:=List.mem_flatten.1 h
   rw [hl] at r1
   obtain⟨r0,_,rfl⟩:=List.mem_map.1 r1
   obtain⟨a,_,ha⟩:=List.mem_map.1 r2
   exact x2 a ha.symm
  ·refine Or.inr (aMq fun l hl=>?_)
   rw [hl] at h
   obtain⟨a,_,ha⟩:=List.mem_map.1 h
   exact x2 a ha.symm
 ·obtain⟨k1,h1⟩:=aKy (f:=fun x K=>jK K x) (v:=aDs) (X.flatten++Y) fun x hx=>by
   rcases ok x hx with⟨a,rfl,ha⟩|⟨e1,_,e3⟩
   ·rw [aJu];exact aHc ha
   ·rw [aEX e3];exact e1
  obtain⟨k2,h2⟩:=aKy (f:=fun x K=>bP K x) (v:=aDs) (X.flatten++Y) fun x hx=>by
   rcases ok x hx with⟨a,rfl,ha⟩|⟨_,e2,e3⟩
   ·rw [aJu];exact aGw ha
   ·rw [aEX e3];exact e2
  have hall:(Y.all aDs&&X.all (fun r=>r.all aDs))=false:=by
   have hf:=aEX x2
   cases hc:(Y.all aDs&&X.all (fun r=>r.all aDs)) with
   |false=>rfl
   |true=>
    rw [Bool.and_eq_true,List.all_eq_true,List.all_eq_true] at hc
    rcases hx with h|h
    ·obtain⟨r,r1,r2⟩:=List.mem_flatten.1 h
     have:=List.all_eq_true.1 (hc.2 r r1) x r2
     rw [hf] at this;cases this
    ·have:=hc.1 x h
     rw [hf] at this;cases this
  refine⟨k1+k2+n+1,fun K hK=>?_⟩
  have m1:∀r∈X,∀x∈r,x∈X.flatten++Y:=fun r hr x hx=>List.mem_append_left _ (List.mem_flatten.2 ⟨r,hr,hx⟩)
  have m2:∀x∈Y,x∈X.flatten++Y:=fun x hx=>List.mem_append_right _ hx
  rw [aMu (vld:=aDs) (fun r hr x hx=>h1 K (by omega) x (m1 r hr x hx)) (fun x hx=>h1 K (by omega) x (m2 x hx)) hr hX hY hn (by omega),aMK (vld:=aDs) (fun r hr x hx=>h2 K (by omega) x (m1 r hr x hx)) (fun x hx=>h2 K (by omega) x (m2 x hx)) hr hX hY hn (by omega),hall]
  exact⟨rfl,rfl⟩
def aSu (K:Nat) (X:List (List aK)) (Y:List aK):Prop:=
 (∃(M:List (List Rat)) (q:List Rat),X=M.map (List.map Qr)∧Y=q.map Qr∧dC K M q=some false∧fR K M q=some false)∨
 ((aEW X=none∨aE4 Y=none)∧eN K X Y=some false∧fM K X Y=some false)
noncomputable def rwX (M:Nat→Nat→Rat) (n:Nat):List (List aK):=(mx M n n).map (List.map Qr)
theorem xI {M:Nat→Nat→Rat} {n:Nat}:(rwX M n).length=n:=by unfold rwX;rw [List.length_map,gN]
theorem aFA {M:Nat→Nat→Rat} {n:Nat} {r:List aK} (h:r∈rwX M n):r.length=n∧∀x∈r,∃i c,i<n∧c<n∧x=Qr (M i c):=by
 obtain⟨r0,h1,rfl⟩:=List.mem_map.1 h
 unfold mx at h1
 obtain⟨i,hi,rfl⟩:=aHR h1
 refine⟨by rw [List.length_map,aZ],fun x hx=>?_⟩
 obtain⟨a,ha,rfl⟩:=List.mem_map.1 hx
 obtain⟨c,hc,rfl⟩:=aHR ha
 exact⟨i,c,hi,hc,rfl⟩
theorem aIm {M:Nat→Nat→Rat} {n i:Nat} (hi:i<n):(rwX M n).getD i []=(mp (M i) n).map Qr:=by
 unfold rwX mx
 rw [List.getD_eq_getElem?_getD,List.getElem?_map,zF hi];rfl
theorem aHJ {x:Rat} (h:dn 6 2 4000 x):qs x=true:=(aB2 h).qs (by decide)
theorem aK6 {X:List (List aK)} {n:Nat} (h:X.length=n):w7 X (mp id n)=X:=by rw [←h];exact aRw
theorem rdQ {l:List Rat} {i:Nat} (h:i<l.length):bF (l.map Qr) (i:Int)=some (Qr (at' l i)):=by
 refine rdG ?_
 rw [List.getElem?_map,List.getElem?_eq_getElem h]
 show some (Qr l[i])=some (Qr (at' l i))
 unfold at';rw [List.getD_eq_getElem?_getD,List.getElem?_eq_getElem h];rfl
theorem stQ {α:Type} {l:List α} {i:Nat} {v:α} (h:i<l.length):qL l (i:Int) v=some (l.set i v):=stG h
theorem slQ {α:Type} {l:List α} {i:Nat} (h:i≤l.length):slL l 0 (i:Int)=some (l.take i):=by
 unfold slL
 rw [if_pos ⟨by omega,by omega,by omega⟩]
 show some ((l.drop 0).take ((i:Int).toNat-0))=_
 rw [List.drop_zero];rfl
theorem aMC {M:Nat→Nat→Rat} {q:Nat→Rat} {n:Nat} {how b:Int} (hP:PB6 n M q) (hn:n≤6) (h1:I64 how) (h2:I64 b):∃X Y K0,(∀K,K0≤K→pA K (mx M n n) (mp q n) how b=some (X,Y))∧((∃M',PB6 n M' q∧X=(mx M' n n).map (List.map Qr)∧Y=(mp q n).map Qr)∨∀K,K0≤K→aSu K X Y):=by
 have hMb:∀i c,i<n→c<n→Bd 12 (M i c):=fun i c hi hc=>aB2 (hP.1 i c hi hc)
 have hqb:∀i,i<n→Bd 12 (q i):=fun i hi=>aB2 (hP.2 i hi)
 have l43:∀K,n<K→cS K (rwX M n) K ([]:List Nat) ([]:List (List aK)) 0=some (mp id n,rwX M n):=fun K hK=>by
  have:=aM9 (X:=rwX M n) (by rw [xI];omega) (fun r hr=>by rw [(aFA hr).1];omega) K n 0 K (by rw [xI];omega) hK
  rw [xI] at this
  exact this
 have qlen:((mp q n).map Qr).length=n:=by rw [List.length_map,aZ]
 have a1:oG ([]:List aK) ((mp q n).map Qr)=some ((mp q n).map Qr):=xM (by rw [qlen];simp;omega)
 have hX0:∀r∈mx M n n,Bds 12 r∧r.length=n:=fun r hr=>by
  unfold mx at hr
  obtain⟨i,hi,rfl⟩:=aHR hr
  exact⟨y8 fun c hc=>hMb i c hi hc,aZ _ _⟩
 have hY0:Bds 12 (mp q n):=y8 hqb
 by_cases h0:n=0
 ·subst h0
  refine⟨[[]],[],1001,fun K hK=>?_,Or.inr fun K hK=>Or.inl ⟨[[]],[],rfl,rfl,aC8 (B:=12) (fun r hr=>?_) (fun x hx=>absurd hx List.not_mem_nil) (by omega) (by simp) (by simp) (Or.inl (by simp)) hK⟩⟩
  ·show gP K (rwX M 0) _ _ _=_
   have e0:w7 (rwX M 0) (mp id 0)=[]:=rfl
   have e1:((mp id 0:List Nat).length:Int)=0:=rfl
   simp only [gP,l43 K (by omega),oB,jD,a1,e1,qT (rfl:(0:Int)=0),bS,e0]
   rfl
  ·rw [List.mem_singleton.1 hr];exact⟨fun x hx=>absurd hx List.not_mem_nil,by simp⟩
 obtain⟨i,i1,i2,i3⟩:=aAs (x:=b) h2 (m:=(n:Int)) (by omega)
 obtain⟨i,rfl⟩:∃k:Nat,i=k:=⟨i.toNat,by omega⟩
 obtain⟨b7,b71,b72⟩:=aOV h2 (show(2:Int)≤7 by omega)
 obtain⟨c,c1,c2,c3⟩:=aAs (x:=b7) b72 (m:=(n:Int)) (by omega)
 obtain⟨c,rfl⟩:∃k:Nat,c=k:=⟨c.toNat,by omega⟩
 obtain⟨w,w1,w2,w3⟩:=aAs (x:=how) h1 (m:=6) (by omega)
 have hi:i<n:=by omega
 have hc:c<n:=by omega
 have rowl:((mp (M i) n).map Qr).length=n:=by rw [List.length_map,aZ]
 have aPd:w7 (rwX M n) (mp id n)=rwX M n:=aK6 xI
 have hF:∀K,n<K→pA K (mx M n n) (mp q n) how b=bif(w==0) then((slL (rwX M n) 0 (i:Int)).bind fun x76=>some (x76,(mp q n).map Qr)) else(bif(w==1) then((bF (rwX M n) (i:Int)).bind fun v80=>(slL v80 0 (c:Int)).bind fun x82=>(bF (rwX M n) (i:Int)).bind fun v84=>(qL (rwX M n) (i:Int) x82).bind fun x86=>some (x86,(mp q n).map Qr)) else(bif(w==2) then((oG ((mp q n).map Qr) [(⟨(⟨false,([]:List Int)⟩:aE),(⟨false,([]:List Int)⟩:aE)⟩:aK)]).bind fun x90=>some (rwX M n,x90)) else(bif(w==3) then some ((rwX M n).set i (((mp (M i) n).map Qr).set c ⟨(Qr (M i c)).p,⟨true,(Qr (M i c)).q.d⟩⟩),(mp q n).map Qr) else(bif(w==4) then some (rwX M n,((mp q n).map Qr).set i ⟨⟨(Qr (q i)).p.neg,(Qr (q i)).p.d++[0]⟩,(Qr (q i)).q⟩) else((dO b 9).bind fun v137=>(aS (v137-4)).bind fun v139=>(oE K v139 1).bind fun v141=>some ((rwX M n).set i (((mp (M i) n).map Qr).set c v141),(mp q n).map Qr)))))):=fun K hK=>by
  have e0:bF (mp id n) (i:Int)=some i:=lX (f:=id) hi
  have e1:at' (mp (M i) n) c=M i c:=aP2 hc
  have e2:at' (mp q n) i=q i:=aP2 hi
  have r1:=rdQ (l:=mp (M i) n) (i:=c) (by rw [aZ];exact hc)
  have r2:=rdQ (l:=mp q n) (i:=i) (by rw [aZ];exact hi)
  rw [e1] at r1
  rw [e2] at r2
  have dl8:(Qr (q i)).p.d.length≤9000000000000:=(aNR (aHJ (hP.2 i hi))).1
  have dl9:(Qr (q i)).p.d.length≤40000000:=by rw [Qp,Z_d];exact(uN (aHJ (hP.2 i hi))).1
  have ad:oG ([]:List Int) (Qr (q i)).p.d=some (Qr (q i)).p.d:=xM (by simp;omega)
  have ad0:oG (Qr (q i)).p.d [0]=some ((Qr (q i)).p.d++[0]):=xM (by simp;omega)
  have sl:∀v,((rwX M n).set i v).length=n:=fun v=>by rw [List.length_set,xI]
  show gP K (rwX M n) _ _ _=_
  simp only [gP,l43 K hK,oB,jD,a1,aZ,qF (show¬(n:Int)=0 by omega),bM,i1,b71,e0,aIm hi,rowl,c1,w1,aPd,r1,stQ (l:=(mp (M i) n).map Qr) (i:=c) (by rw [rowl];exact hc),aK6 (sl _),r2,ad,ad0,stQ (l:=(mp q n).map Qr) (i:=i) (by rw [qlen];exact hi)]
 have rdi:bF (rwX M n) (i:Int)=some ((mp (M i) n).map Qr):=by
  refine rdG ?_
  have:=aIm (M:=M) hi
  rw [List.getD_eq_getElem?_getD] at this
  have hlt:i<(rwX M n).length:=by rw [xI];exact hi
  rw [List.getElem?_eq_getElem hlt] at this ⊢
  exact congrArg some this
 have okX:∀r∈rwX M n,∀x∈r,∃a,x=Qr a∧qs a=true:=fun r hr x hx=>by
  obtain⟨i,c,hi,hc,rfl⟩:=(aFA hr).2 x hx
  exact⟨_,rfl,aHJ (hP.1 i c hi hc)⟩
 have okY:∀x∈(mp q n).map Qr,∃a,x=Qr a∧qs a=true:=fun x hx=>by
  obtain⟨a,ha,rfl⟩:=List.mem_map.1 hx
  obtain⟨j,hj,rfl⟩:=aHR ha
  exact⟨_,rfl,aHJ (hP.2 j hj)⟩
 by_cases w0:w=0
 ·refine⟨(rwX M n).take i,(mp q n).map Qr,1001,fun K hK=>?_,Or.inr fun K hK=>Or.inl ⟨(mx M n n).take i,mp q n,?_,rfl,aC8 (B:=12) (fun r hr=>?_) hY0 (by omega) ?_ ?_ (Or.inl ?_) hK⟩⟩
  ·rw [hF K (by omega),qT w0,bS,slQ (by rw [xI];omega),oB]
  ·unfold rwX;rw [List.map_take]
  ·have:=hX0 r (List.mem_of_mem_take hr);exact⟨this.1,by omega⟩
  ·rw [List.length_take,gN];omega
  ·rw [aZ];omega
  ·rw [List.length_take,gN,aZ];omega
 by_cases w1':w=1
 ·refine⟨(rwX M n).set i (((mp (M i) n).map Qr).take c),(mp q n).map Qr,1001,fun K hK=>?_,Or.inr fun K hK=>Or.inl ⟨(mx M n n).set i ((mp (M i) n).take c),mp q n,?_,rfl,aC8 (B:=12) (fun r hr=>?_) hY0 (by omega) ?_ ?_ (Or.inr ⟨(mp (M i) n).take c,?_,?_⟩) hK⟩⟩
  ·rw [hF K (by omega),qF w0,bM,qT w1',bS,rdi,oB,slQ (by rw [rowl];omega),oB,oB,stQ (by rw [xI];exact hi),oB]
  ·unfold rwX;rw [List.map_set,List.map_take]
  ·rcases List.mem_or_eq_of_mem_set hr with h|h
   ·have:=hX0 r h;exact⟨this.1,by omega⟩
   ·rw [h];exact⟨fun x hx=>(y8 fun c hc=>hMb i c hi hc) x (List.mem_of_mem_take hx),by rw [List.length_take,aZ];omega⟩
  ·rw [List.length_set,gN];omega
  ·rw [aZ];omega
  ·exact List.mem_set (by rw [gN];exact hi) _
  ·rw [List.length_take,aZ,aZ];omega
 by_cases w2':w=2
 ·refine⟨rwX M n,(mp q n++[0]).map Qr,1001,fun K hK=>?_,Or.inr fun K hK=>Or.inl ⟨mx M n n,mp q n++[0],rfl,rfl,aC8 (B:=12) (fun r hr=>?_) (hY0.snoc (Bd.zero.mono (by omega))) (by omega) ?_ ?_ (Or.inl ?_) hK⟩⟩
  ·rw [hF K (by omega),qF w0,bM,qF w1',bM,qT w2',bS,xM (by rw [qlen];simp;omega),oB,List.map_append,←Qr0];rfl
  ·have:=hX0 r hr;exact⟨this.1,by omega⟩
  ·rw [gN];omega
  ·rw [List.length_append,aZ];simp;omega
  ·rw [gN,List.length_append,aZ];simp
 by_cases w3':w=3
 ·have nf:∀a,(⟨(Qr (M i c)).p,⟨true,(Qr (M i c)).q.d⟩⟩:aK)≠Qr a:=fun a=>aNS
  have qa:=aHJ (hP.1 i c hi hc)
  have v1:=aME qa
  have v2:=aKn qa
  generalize hbad:(⟨(Qr (M i c)).p,⟨true,(Qr (M i c)).q.d⟩⟩:aK)=bad at *
  have hb:=aL8 (X:=(rwX M n).set i (((mp (M i) n).map Qr).set c bad)) (Y:=(mp q n).map Qr) (n:=n) (fun r hr=>by
    rcases List.mem_or_eq_of_mem_set hr with h|h
    ·exact(aFA h).1
    ·rw [h,List.length_set,rowl]) (by rw [List.length_set,xI]) qlen (by omega) (fun x hx=>by
    rcases List.mem_append.1 hx with h|h
    ·obtain⟨r,r1,r2⟩:=List.mem_flatten.1 h
     rcases List.mem_or_eq_of_mem_set r1 with h|h
     ·exact Or.inl (okX r h x r2)
     ·rw [h] at r2
      rcases List.mem_or_eq_of_mem_set r2 with h|h
      ·refine Or.inl (okX _ ?_ x h)
       have:=aIm (M:=M) hi
       rw [←this,List.getD_eq_getElem?_getD,List.getElem?_eq_getElem (by rw [xI];exact hi)]
       exact List.getElem_mem _
      ·rw [h];exact Or.inr ⟨v1,v2,nf⟩
    ·exact Or.inl (okY x h)) ⟨bad,List.mem_append_left _ (List.mem_flatten.2 ⟨_,List.mem_set (by rw [xI];exact hi) _,List.mem_set (by rw [rowl];exact hc) _⟩),nf⟩
  obtain⟨u,K0,hv⟩:=hb
  refine⟨(rwX M n).set i (((mp (M i) n).map Qr).set c bad),(mp q n).map Qr,K0+1001,fun K hK=>?_,Or.inr fun K hK=>Or.inr ⟨u,hv K (by omega)⟩⟩
  rw [hF K (by omega),qF w0,bM,qF w1',bM,qF w2',bM,qT w3',bS]
 by_cases w4':w=4
 ·have nf:∀a,(⟨⟨(Qr (q i)).p.neg,(Qr (q i)).p.d++[0]⟩,(Qr (q i)).q⟩:aK)≠Qr a:=fun a=>aMN
  have qa:=aHJ (hP.2 i hi)
  have v1:=aKu qa
  have v2:=aJq qa
  generalize hbad:(⟨⟨(Qr (q i)).p.neg,(Qr (q i)).p.d++[0]⟩,(Qr (q i)).q⟩:aK)=bad at *
  have hb:=aL8 (X:=rwX M n) (Y:=((mp q n).map Qr).set i bad) (n:=n) (fun r hr=>(aFA hr).1) xI (by rw [List.length_set,qlen]) (by omega) (fun x hx=>by
    rcases List.mem_append.1 hx with h|h
    ·obtain⟨r,r1,r2⟩:=List.mem_flatten.1 h
     exact Or.inl (okX r r1 x r2)
    ·rcases List.mem_or_eq_of_mem_set h with h|h
     ·exact Or.inl (okY x h)
     ·rw [h];exact Or.inr ⟨v1,v2,nf⟩) ⟨bad,List.mem_append_right _ (List.mem_set (by rw [qlen];exact hi) _),nf⟩
  obtain⟨u,K0,hv⟩:=hb
  refine⟨rwX M n,((mp q n).map Qr).set i bad,K0+1001,fun K hK=>?_,Or.inr fun K hK=>Or.inr ⟨u,hv K (by omega)⟩⟩
  rw [hF K (by omega),qF w0,bM,qF w1',bM,qF w2',bM,qF w3',bM,qT w4',bS]
 ·obtain⟨v,y1,y2,y3⟩:=aAs (x:=b) h2 (m:=9) (by omega)
  obtain⟨r,r1,r2⟩:=aDF (p:=v-4) (q:=1) (m:=4) (by omega) (by omega) (by omega) (by omega)
  obtain⟨_,_,r3⟩:=aM6 r1
  obtain⟨K0,hK0⟩:=aK7 (p:=v-4) (q:=1) (by omega) (by omega)
  refine⟨(rwX M n).set i (((mp (M i) n).map Qr).set c (Qr r)),(mp q n).map Qr,K0+1001,fun K hK=>?_,Or.inl ⟨fun a=>if a=i then wS (M i) c r else M a,⟨fun a d ha hd=>?_,hP.2⟩,?_,rfl⟩⟩
  ·have hz:=hK0 K (by omega)
   rw [hF K (by omega),qF w0,bM,qF w1',bM,qF w2',bM,qF w3',bM,qF w4',bM,y1,oB,vX (by omega),oB]
   have:oE K (v-4) 1=some (Qr r):=by rw [r3];exact hz
   rw [this,oB]
  ·by_cases e:a=i
   ·simp only [e,if_true]
    by_cases e2:d=c
    ·rw [e2,eH];exact aIL r2 (by omega)
    ·rw [l5 e2];exact hP.1 i d hi hd
   ·simp only [e,if_false];exact hP.1 a d ha hd
  ·have e1:((mp (M i) n).map Qr).set c (Qr r)=(mp (wS (M i) c r) n).map Qr:=by rw [←List.map_set,aJ9]
   have e2:mx (fun a=>if a=i then wS (M i) c r else M a) n n=(mx M n n).set i (mp (wS (M i) c r) n):=by
    show mp (fun a=>mp ((fun a=>if a=i then wS (M i) c r else M a) a) n) n=(mp (fun a=>mp (M a) n) n).set i (mp (wS (M i) c r) n)
    rw [aJ9]
    refine tA fun a _=>?_
    by_cases e:a=i
    ·rw [e,eH];simp only [if_true]
    ·rw [l5 e];simp only [e,if_false]
   rw [e1,e2,List.map_set];rfl
end Go.Proofs.YtolfcbpgmfbgmaaGreat
set_option linter.unusedVariables false
namespace Go.Proofs.YtolfcbpgmfbgmaaGreat
theorem aOM {X:List (List aK)} {Y:List aK} {K:Nat} (h:aSu K X Y):gG K X Y=some ([],1)∧fJ K X Y=some ([],1):=by
 rcases h with⟨M,q,rfl,rfl,h1,h2⟩|⟨h0,h1,h2⟩
 ·rw [zQ,y4]
  constructor
  ·simp only [iL,h1,oB,Bool.not_false,bS]
  ·simp only [lB,h2,oB,Bool.not_false,bS]
 ·exact⟨aDn h0 h1,aCP h0 h2⟩
theorem aQ1 {M:Nat→Nat→Rat} {q z:Nat→Rat} {n B B' m:Nat} (hM:yW n n B M) (hq:∀i,i<n→Bd B (q i)) (hz:∀i,i<n→Bd B' (z i)) (hm:1+n*(B+B'+1)+B+1≤m):∀i,i<n→Bd m (wvl M q z n i):=fun i hi=>
 ((aK1 (f:=M i) (e:=z) (w:=n) (fun c hc=>hM i c hi hc) hz n (Nat.le_refl n)).add (hq i hi)).mono (by omega)
theorem aQl {M:Nat→Nat→Rat} {q z:Nat→Rat} {n B:Nat} (hM:yW n n B M) (hq:∀i,i<n→Bd B (q i)) (hz:∀i,i<n→Bd B (z i)) (hn:n≤8) (hB:B≤1000000) {K:Nat} (hK:100≤K):∀(t i k:Nat),i+t=n→t<k→kV K (mx M n n) (mp q n) (mp z n) k (mp (wvl M q z n) i) (i:Int)=some (mp (wvl M q z n) n)
 |0,i,k,hi,hk=>by
  obtain⟨k',rfl,_⟩:=aY hk
  have:i=n:=by omega
  subst this
  simp only [kV,aZ,dF (show¬(i:Int)<(i:Int) by omega),bM]
 |t+1,i,k,hi,hk=>by
  obtain⟨k',rfl,_⟩:=aY hk
  obtain⟨d1,d2⟩:=aMX (f:=M i) (e:=z) (w:=n) (fun c hc=>hM i c (by omega) hc) hz hB (by omega) (show n<K by omega)
  have hnB:n*(B+B+1)≤8*2000001:=Nat.mul_le_mul hn (by omega)
  have e1:q i+sm (fun c=>M i c*z c) n=wvl M q z n i:=by unfold wvl;rw [Rat.add_comm]
  simp only [kV,aZ,dT (show(i:Int)<(n:Int) by omega),bS,zG (g:=M) (w:=n) (show i<n by omega),oB,d2,lX (f:=q) (show i<n by omega),aAX (hq i (by omega)) d1 (by omega) (by omega),e1,apM (g:=wvl M q z n) (show i≤1000000 by omega),uL (i:=i) (by omega)]
  exact aQl hM hq hz hn hB hK t (i+1) k' (by omega) (by omega)
theorem W_ok {M:Nat→Nat→Rat} {q z:Nat→Rat} {n B:Nat} (hM:yW n n B M) (hq:∀i,i<n→Bd B (q i)) (hz:∀i,i<n→Bd B (z i)) (hn:n≤8) (hB:B≤1000000) {K:Nat} (hK:100≤K):vJ K (mx M n n) (mp q n) (mp z n)=some (mp (wvl M q z n) n):=by
 have h:=aQl hM hq hz hn hB hK n 0 K (by omega) (by omega)
 simp only [Int.natCast_zero,tX] at h
 simp only [vJ,h,oB,t9]
end Go.Proofs.YtolfcbpgmfbgmaaGreat
set_option linter.unusedVariables false
namespace Go.Proofs.YtolfcbpgmfbgmaaGreat
theorem aQ4 {x:Rat} (h:0≤x):(x.num.sign != 0)=decide (0<x.num.sign):=by
 by_cases h2:0<x
 ·have:=sgnP.2 h2
  rw [decide_eq_true this,nT (by omega)]
 ·have h0:x=0:=Rat.le_antisymm (Rat.not_lt.1 h2) h
  have h1:x.num.sign=0:=aCy.2 h0
  rw [decide_eq_false (by omega),nF h1]
theorem aJm {z w:Nat→Rat} {n B B':Nat} (hz:∀i,i<n→Bd B (z i)) (hz0:∀i,i<n→0≤z i) (hw:∀i,i<n→Bd B' (w i)) (hB:B≤1073741824) (hB':B'≤1073741824) (hn:n≤1000) (K:Nat):∀(t i k:Nat),i+t=n→t<k→fN K (mp z n) (mp w n) k (i:Int)=some (bif aFJ z w t i then .go () else .ret false)
 |0,i,k,hi,hk=>by
  obtain⟨k',rfl,_⟩:=aY hk
  simp only [fN,aZ,dF (show¬(i:Int)<(n:Int) by omega),bM,aFJ,bS]
 |t+1,i,k,hi,hk=>by
  obtain⟨k',rfl,_⟩:=aY hk
  have ih:=aJm hz hz0 hw hB hB' hn K t (i+1) k' (by omega) (by omega)
  simp only [fN,aZ,dT (show(i:Int)<(n:Int) by omega),bS,lX (f:=z) (show i<n by omega),lX (f:=w) (show i<n by omega),oB,uS (hz i (by omega)) hB,uS (hw i (by omega)) hB',uL (i:=i) (by omega),aQ4 (hz0 i (by omega)),aFJ]
  cases decide (0<(z i).num.sign) with
  |true=>
   simp only [bS]
   cases((w i).num.sign != 0) with
   |true=>simp only [bS,bM]
   |false=>simp only [bM];exact ih
  |false=>simp only [bM];exact ih
theorem aJL {M:Nat→Nat→Rat} {q z:Nat→Rat} {n B:Nat} (hM:yW n n B M) (hq:∀i,i<n→Bd B (q i)) (hz:∀i,i<n→Bd B (z i)) (hn:n≤8) (hB:B≤1000000) {K:Nat} (hK:100≤K):qS K (mx M n n) (mp q n) (mp z n)=some (ckb M q z n):=by
 have v:=aGq hM hq (by omega) (by omega) hK
 have g:=aBw (y8 hz) (by omega) (show(mp z n).length≤1000 by rw [aZ];omega) (show(mp z n).length<K by rw [aZ];omega)
 have ngz:=(aH4 hz (by omega) (show n≤1000 by omega) (show n<K by omega)).2
 have h8:n*(B+B+1)≤8*2000001:=Nat.mul_le_mul hn (by omega)
 have hw:=aQ1 (m:=100000000) hM hq hz (by omega)
 have ngw:=(aH4 hw (by omega) (show n≤1000 by omega) (show n<K by omega)).2
 have hW:=W_ok hM hq hz hn hB hK
 simp only [qS,v,oB,Bool.not_true,bM,aZ,nF (rfl:(n:Int)=(n:Int)),g,ngz,ckb]
 cases hc:ng z n 0 with
 |true=>simp only [bS]
 |false=>
  have z0:∀i,i<n→0≤z i:=fun i hi=>aNC n 0 hc i (Nat.zero_le _) (by omega)
  have l15:=aJm hz z0 hw (by omega) (by omega) (show n≤1000 by omega) K n 0 K (by omega) (by omega)
  rw [Int.natCast_zero] at l15
  simp only [bM,hW,oB,l15]
  cases aFJ z (wvl M q z n) n 0 with
  |true=>simp only [bS,qC,ngw,oB]
  |false=>simp only [bM]
theorem Bds.mono' {m k:Nat} {l:List Rat} (h:Bds m l) (hk:m≤k):Bds k l:=fun x hx=>(h x hx).mono hk
end Go.Proofs.YtolfcbpgmfbgmaaGreat
set_option linter.unusedVariables false
namespace Go.Proofs.YtolfcbpgmfbgmaaGreat
theorem aPT {α:Type} {f:Nat→α} {n i j:Nat} (h1:i≤j) (h2:j≤n):slL (mp f n) (i:Int) (j:Int)=some (mp (fun c=>f (i+c)) (j-i)):=by
 unfold slL
 rw [if_pos ⟨by omega,by omega,by rw [aZ];omega⟩]
 congr 1
 apply List.ext_getElem?
 intro c
 simp only [Int.toNat_natCast]
 rw [List.getElem?_take,List.getElem?_drop]
 by_cases hc:c<j-i
 ·rw [if_pos hc,zF hc,zF (by omega)]
 ·rw [if_neg hc,List.getElem?_eq_none (by simp [mp];omega)]
theorem aOI {g:Nat→Nat→Rat} {n k i:Nat} (hk:k<n+1):mp (g (i+1)) k++mp (fun c=>g (i+1) (k+1+c)) (n+1-(k+1))=mp (mnr g k i) n:=by
 rw [aN7,show k+(n+1-(k+1))=n by omega]
 refine tA fun c hc=>?_
 unfold mnr skp
 by_cases h:c<k
 ·rw [if_pos h,if_pos h]
 ·rw [if_neg h,if_neg h,show k+1+(c-k)=c+1 by omega]
theorem aFi {g:Nat→Nat→Rat} {n c:Nat} (hn:n≤64) (hc:c<n+1) (K:Nat):∀(t i k:Nat),i+t=n→t<k→fY K (mx g (n+1) (n+1)) (c:Int) k (mx (mnr g c) i n) ((i+1:Nat):Int)=some (mx (mnr g c) n n)
 |0,i,k,hi,hk=>by
  obtain⟨k',rfl,_⟩:=aY hk
  have:i=n:=by omega
  subst this
  simp only [fY,gN,dF (show¬((i+1:Nat):Int)<((i+1:Nat):Int) by omega),bM]
 |t+1,i,k,hi,hk=>by
  obtain⟨k',rfl,_⟩:=aY hk
  have hl:i+1<n+1:=by omega
  have s1:=aPT (f:=g (i+1)) (n:=n+1) (i:=0) (j:=c) (by omega) (by omega)
  simp only [Int.natCast_zero,Nat.zero_add,Nat.sub_zero] at s1
  have s2:=aPT (f:=g (i+1)) (n:=n+1) (i:=c+1) (j:=n+1) (by omega) (by omega)
  have a1:oG ([]:List Rat) (mp (g (i+1)) c)=some (mp (g (i+1)) c):=by rw [xM (by rw [aZ,List.length_nil];omega),List.nil_append]
  have a2:oG (mp (g (i+1)) c) (mp (fun j=>g (i+1) (c+1+j)) (n+1-(c+1)))=some (mp (mnr g c i) n):=by rw [xM (by rw [aZ,aZ];omega),aOI hc]
  have e4:oG (mx (mnr g c) i n) [mp (mnr g c i) n]=some (mx (mnr g c) (i+1) n):=apM (g:=fun i=>mp (mnr g c i) n) (by omega)
  have e5:(fun c=>g (i+1) c)=g (i+1):=rfl
  simp only [fY,gN,dT (show((i+1:Nat):Int)<((n+1:Nat):Int) by omega),bS,zG (g:=g) (w:=n+1) hl,oB,s1,e5,a1,uL (i:=c) (by omega),aZ,s2,a2,e4,uL (i:=i+1) (by omega)]
  exact aFi hn hc K t (i+1) k' (by omega) (by omega)
theorem aKh {g:Nat→Nat→Rat} {n c:Nat} (hn:n≤64) (hc:c<n+1) {K:Nat} (hK:n<K):n8 K (mx g (n+1) (n+1)) (c:Int)=some (mx (mnr g c) n n):=by
 have:=aFi (g:=g) hn hc K n 0 K (by omega) hK
 have z:mx (mnr g c) 0 n=[]:=rfl
 rw [z,show((0+1:Nat):Int)=1 from rfl] at this
 simp only [n8,this,oB,nO]
def dtb (b:Nat):Nat→Nat
 |0=>2
 |n+1=>1+(n+1)*(b+dtb b n+1)
def dps (g:Nat→Nat→Rat) (n i:Nat):Rat:=sm (fun k=>sgn k*(g 0 k*dt n (mnr g k))) i
theorem aJB {g:Nat→Nat→Rat} {n i:Nat}:dps g n (i+1)=dps g n i+sgn i*(g 0 i*dt n (mnr g i)):=rfl
theorem aKr {m k:Nat} {a:Rat} (h:Bd m a):Bd m (sgn k*a):=by
 unfold sgn
 split
 ·rw [Rat.one_mul];exact h
 ·have:(-1:Rat)*a=-a:=by grind
  rw [this];exact h.neg
theorem aJA {self:List (List Rat)→Option Rat} {g:Nat→Nat→Rat} {n b:Nat} (hg:yW (n+1) (n+1) b g) (hs:∀k,k<n+1→self (mx (mnr g k) n n)=some (dt n (mnr g k))∧Bd (dtb b n) (dt n (mnr g k))) (hB:dtb b (n+1)≤1000000000) (hn:n≤64) {K:Nat} (hK:n<K):
  ∀(t i k:Nat),i+t=n+1→t<k→Bd (1+i*(b+dtb b n+1)) (dps g n i)→dY K (mx g (n+1) (n+1)) self k (dps g n i) (i:Int)=some (dt (n+1) g)∧Bd (dtb b (n+1)) (dt (n+1) g)
 |0,i,k,hi,hk,ha=>by
  obtain⟨k',rfl,_⟩:=aY hk
  have:i=n+1:=by omega
  subst this
  refine⟨?_,ha⟩
  simp only [dY,gN,dF (show¬((n+1:Nat):Int)<((n+1:Nat):Int) by omega),bM]
  rfl
 |t+1,i,k,hi,hk,ha=>by
  obtain⟨k',rfl,_⟩:=aY hk
  have hl:i<n+1:=by omega
  have hx:=hg 0 i (by omega) hl
  obtain⟨s1,s2⟩:=hs i hl
  have hib:i*(b+dtb b n+1)≤(n+1)*(b+dtb b n+1):=Nat.mul_le_mul_right _ (by omega)
  have h1:b+dtb b n+1≤(n+1)*(b+dtb b n+1):=Nat.le_mul_of_pos_left _ (by omega)
  simp only [dtb] at hB
  have ht:=hx.mul s2
  have r0:=zG (g:=g) (w:=n+1) (show 0<n+1 by omega)
  simp only [Int.natCast_zero] at r0
  have hnext:Bd (1+(i+1)*(b+dtb b n+1)) (dps g n (i+1)):=by
   rw [aJB]
   exact(ha.add (aKr ht)).mono (by rw [Nat.add_mul];omega)
  obtain⟨r1,r2⟩:=aJA hg hs (by simp only [dtb];omega) hn hK t (i+1) k' (by omega) (by omega) hnext
  refine⟨?_,r2⟩
  rw [aJB] at r1
  simp only [dY,gN,dT (show(i:Int)<((n+1:Nat):Int) by omega),bS,r0,oB,lX (f:=g 0) hl,uS hx (by omega)]
  by_cases hz:g 0 i=0
  ·rw [hz] at r1
   have e:dps g n i+sgn i*(0*dt n (mnr g i))=dps g n i:=by grind
   rw [e] at r1
   simp only [qT (aCy.2 hz),bS,uL (i:=i) (by omega),oB,r1]
  ·have em:chr (i:Int) 2=some ((i%2:Nat):Int):=by
    rw [u5 (by omega) (by omega)];congr 1
   simp only [qF (fun h=>hz (aCy.1 h)),bM,aKh (g:=g) hn hl hK,oB,s1,aC1 hx s2 (by omega) (by omega),em]
   by_cases hp:i%2=1
   ·have es:sgn i*(g 0 i*dt n (mnr g i))=-(g 0 i*dt n (mnr g i)):=by
     unfold sgn;rw [if_neg (by omega)];grind
    rw [es] at r1
    simp only [qT (show((i%2:Nat):Int)=1 by omega),bS,aCU ht (by omega),oB,aAX ha ht.neg (by omega) (by omega),uL (i:=i) (by omega),r1]
   ·have es:sgn i*(g 0 i*dt n (mnr g i))=g 0 i*dt n (mnr g i):=by
     unfold sgn;rw [if_pos (by omega)];grind
    rw [es] at r1
    simp only [qF (show¬((i%2:Nat):Int)=1 by omega),bM,aAX ha ht (by omega) (by omega),oB,uL (i:=i) (by omega),r1]
theorem aM0 {b:Nat} {K:Nat}:∀(n k:Nat) (g:Nat→Nat→Rat),n<k→n+1<K→n≤64→(∀m,m≤n→dtb b m≤1000000000)→yW n n b g→kT K k (mx g n n)=some (dt n g)∧Bd (dtb b n) (dt n g)
 |0,k,g,hk,hK,hn,hB,hg=>by
  obtain⟨k',rfl,_⟩:=aY hk
  exact⟨by simp only [kT,qN,gN,qT (show((0:Nat):Int)=0 from rfl),bS,aIO,oB,dt],show Bd 2 1 by constructor<;>decide⟩
 |n+1,k,g,hk,hK,hn,hB,hg=>by
  obtain⟨k',rfl,_⟩:=aY hk
  obtain⟨h1,h2⟩:=aJA (self:=kT K k') hg (fun i hi=>aM0 n k' (mnr g i) (by omega) (by omega) (by omega) (fun m hm=>hB m (by omega)) (fun r c hr hc=>hg _ _ (by omega) (aNZ hc))) (hB _ (Nat.le_refl _)) (by omega) (K:=K) (by omega) (n+1) 0 K (by omega) (by omega) (Bd.zero.mono (by omega))
  have z:dps g n 0=0:=rfl
  rw [z] at h1
  simp only [Int.natCast_zero] at h1
  exact⟨by simp only [kT,qN,gN,qF (show¬((n+1:Nat):Int)=0 by omega),bM,h1,oB,qD],h2⟩
theorem aO2 {g:Nat→Nat→Rat} {n b:Nat} (hg:yW n n b g) (hn:n≤64) (hB:∀m,m≤n→dtb b m≤1000000000) {K:Nat} (hK:n+1<K):yT K (mx g n n)=some (dt n g)∧Bd (dtb b n) (dt n g):=aM0 n K g (by omega) hK hn hB hg
end Go.Proofs.YtolfcbpgmfbgmaaGreat
