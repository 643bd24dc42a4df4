/- Rows that are owned inside a list that is owned. -/
import Derived.Test.YtcjdedkdoagifaaGreatD1
set_option linter.unusedVariables false
namespace Go.Proofs.YtcjdedkdoagifaaGreat
/-- A slice's block, length and room. -/
abbrev rY:Type:=Option Nat×Nat×Nat
def iC (gs:List rY) (k:Nat):rY:=gs.getD k (none,0,0)
def cH (gs:List rY):Cd Nat:=⟨1,fun k=>[pO (iC gs k).1 (iC gs k).2.1 (iC gs k).2.2],fun _=>rfl⟩
def gO {α:Type} (C:Cd α) (T:Nat):List rY→List (List α)→List HA
 |g::gs,r::rs=>hO C g.1 g.2.2 T g.2.1 r::gO C T gs rs
 |_,_=>[]
theorem aCw {α:Type} {C:Cd α} {T:Nat}:∀{gs:List rY} {rs:List (List α)} {k:Nat} {r:List α},gs.length=rs.length→rs[k]?=some r→(gO C T gs rs)[k]?=some (hO C (iC gs k).1 (iC gs k).2.2 T (iC gs k).2.1 r)
 |[],[],k,r,_,h=>by simp at h
 |g::gs,x::rs,0,r,_,h=>by simp at h;subst h;rfl
 |g::gs,x::rs,k+1,r,hl,h=>by
  have:=aCw (C:=C) (T:=T) (gs:=gs) (rs:=rs) (k:=k) (r:=r) (by simpa using hl) (by simpa using h)
  simpa [gO,iC] using this
 |[],_::_,_,_,hl,_=>by simp at hl
 |_::_,[],_,_,hl,_=>by simp at hl
theorem aBD {α:Type} {C:Cd α} {T:Nat}:∀{gs:List rY} {rs:List (List α)} {k:Nat} {r:List α},gs.length=rs.length→(gO C T gs rs).set k (hO C (iC gs k).1 (iC gs k).2.2 T (iC gs k).2.1 r)=gO C T gs (rs.set k r)
 |[],[],k,r,_=>by simp [gO]
 |g::gs,x::rs,0,r,_=>rfl
 |g::gs,x::rs,k+1,r,hl=>by
  have:=aBD (C:=C) (T:=T) (gs:=gs) (rs:=rs) (k:=k) (r:=r) (by simpa using hl)
  simp only [gO,List.set_cons_succ]
  rw [←this];rfl
 |[],_::_,_,_,hl=>by simp at hl
 |_::_,[],_,_,hl=>by simp at hl
theorem xS {α:Type} {C:Cd α} {T:Nat}:∀{gs:List rY} {rs:List (List α)},gs.length=rs.length→(gO C T gs rs).length=rs.length
 |[],[],_=>rfl
 |g::gs,x::rs,hl=>by simp [gO,xS (C:=C) (T:=T) (gs:=gs) (rs:=rs) (by simpa using hl)]
 |[],_::_,hl=>by simp at hl
 |_::_,[],hl=>by simp at hl
theorem aBR {α:Type} {C:Cd α} {T:Nat} (g:rY) (r:List α):∀{gs:List rY} {rs:List (List α)},gs.length=rs.length→gO C T (gs++[g]) (rs++[r])=gO C T gs rs++[hO C g.1 g.2.2 T g.2.1 r]
 |[],[],_=>rfl
 |y::gs,x::rs,hl=>by simp [gO,aBR g r (C:=C) (T:=T) (gs:=gs) (rs:=rs) (by simpa using hl)]
 |[],_::_,hl=>by simp at hl
 |_::_,[],hl=>by simp at hl
theorem aFq {gs:List rY} (g:rY) {xs:List Nat} (h:∀k∈xs,k<gs.length):flat (cH (gs++[g])) xs=flat (cH gs) xs:=by
 induction xs with
 |nil=>rfl
 |cons k xs ih=>
  have hk:iC (gs++[g]) k=iC gs k:=by
   unfold iC
   simp only [List.getD_eq_getElem?_getD]
   rw [List.getElem?_append_left (h k (by simp))]
  have e1:(cH (gs++[g])).e k=(cH gs).e k:=by simp only [cH,hk]
  have:=ih fun j hj=>h j (by simp [hj])
  simp only [flat,List.flatMap_cons] at this ⊢
  rw [e1,this]
theorem aGR {H:List HA} {e:HA} {k:Nat} (m:Nat) {R:List HA} (hd:H.drop m=R) (h:R[k]?=some e):H[m+k]?=some e:=by
 subst hd
 rw [←h,List.getElem?_drop]
theorem aCG:∀(m:Nat) {H R:List HA} {k:Nat} {x:HA},H.drop m=R→k<R.length→uE H (m+k) x=some (H.take m++R.set k x)
 |0,H,R,k,x,hd,hk=>by
  simp only [List.drop_zero] at hd
  subst hd
  simp only [Nat.zero_add,List.take_zero,List.nil_append]
  have key:∀(H:List HA) (i:Nat) (x:HA),i<H.length→uE H i x=some (H.set i x):=by
   intro H
   induction H with
   |nil=>intro i x h;simp at h
   |cons e H ih=>
    intro i x h
    cases i with
    |zero=>rfl
    |succ i=>simp [uE,ih i x (by simpa using h)]
  exact key H k x hk
 |m+1,[],R,k,x,hd,hk=>by simp at hd;subst hd;simp at hk
 |m+1,e::H,R,k,x,hd,hk=>by
  have:=aCG m (H:=H) (R:=R) (k:=k) (x:=x) (by simpa using hd) hk
  rw [show m+1+k=(m+k)+1 by omega]
  simp [uE,this]
theorem aFI {α:Type} {C:Cd α} {T:Nat} {gs:List rY} {rs:List (List α)} {k:Nat} {r:List α} (A:List HA) (hl:gs.length=rs.length) (h:rs[k]?=some r):(gO C T gs rs++A)[k]?=some (hO C (iC gs k).1 (iC gs k).2.2 T (iC gs k).2.1 r):=by
 have hk:=(List.getElem?_eq_some_iff.1 h).1
 rw [List.getElem?_append_left (by rw [xS hl];exact hk)]
 exact aCw hl h
theorem aEI {α:Type} {C:Cd α} {T:Nat} {gs:List rY} {rs:List (List α)} {k:Nat} {r:List α} (A:List HA) (hl:gs.length=rs.length) (hk:k<rs.length):(gO C T gs rs++A).set k (hO C (iC gs k).1 (iC gs k).2.2 T (iC gs k).2.1 r)=gO C T gs (rs.set k r)++A:=by
 rw [List.set_append_left _ _ (by rw [xS hl];exact hk),aBD hl]
def aDJ {α:Type} (rs:List (List α)) (xs:List Nat):List (List α):=xs.map fun k=>rs.getD k []
theorem aEg {α:Type} (rs:List (List α)) (xs:List Nat):(aDJ rs xs).length=xs.length:=by simp [aDJ]
def jW {α:Type} (gs:List rY) (rs:List (List α)):Prop:=gs.length=rs.length∧∀k r,rs[k]?=some r→r.length=(iC gs k).2.1
theorem zK {α:Type} {rs:List (List α)} {N k:Nat} (h:rs.length=N) (hk:k<N):rs[k]?=some (rs.getD k []):=by
 have:k<rs.length:=by omega
 simp [List.getD_eq_getElem?_getD,List.getElem?_eq_getElem this]
theorem bW {α:Type} {xs:List α} {j:Int} {z:α} (h:dO xs j=some z):z∈xs:=by
 obtain⟨_,_,hz⟩:=aN h
 exact List.mem_of_getElem? hz
theorem aBx {α:Type} {rs:List (List α)} {N:Nat} {xs:List Nat} (h:rs.length=N) (hx:∀k∈xs,k<N):∀k∈xs,k<rs.length:=fun k hk=>h▸hx k hk
theorem qL {α:Type} {rs:List (List α)} {N k:Nat} {r:List α} (h:rs.length=N):(rs.set k r).length=N:=by simpa using h
theorem sJ {α:Type} {gs:List rY} {rs:List (List α)} {N k:Nat} {r:List α} (hl:jW gs rs) (h:rs.length=N) (hk:k<N) (hr:r.length=(rs.getD k []).length):jW gs (rs.set k r):=by
 refine⟨by simpa using hl.1,fun j x hj=>?_⟩
 rw [List.getElem?_set] at hj
 split at hj
 ·rename_i e;subst e
  split at hj
  ·simp only [Option.some.injEq] at hj
   subst hj
   rw [hr];exact hl.2 _ _ (zK h hk)
  ·cases hj
 ·exact hl.2 j x hj
theorem aGC {xs ys:List Nat} {N k:Nat} {j:Int} (hx:∀k∈xs,k<N) (h:n8 xs j k=some ys) (hk:k<N):∀i∈ys,i<N:=by
 unfold n8 at h
 split at h
 ·simp only [Option.some.injEq] at h
  subst h
  intro i hi
  rcases List.mem_or_eq_of_mem_set hi with h1|h1
  ·exact hx i h1
  ·rw [h1];exact hk
 ·cases h
theorem aGB {α:Type} {rs:List (List α)} {xs ys:List Nat} {N:Nat} (hx:∀k∈xs,k<N) (hl:rs.length=N) (h:tB xs [rs.length]=some ys):∀k∈ys,k<N+1:=by
 unfold tB at h
 split at h
 ·simp only [Option.some.injEq] at h
  subst h
  intro k hk
  rcases List.mem_append.1 hk with h1|h1
  ·have:=hx k h1;omega
  ·simp at h1;omega
 ·cases h
theorem aAQ {α:Type}:jW [] ([]:List (List α)):=⟨rfl,fun k r h=>by simp at h⟩
theorem uF {α:Type} {gs:List rY} {rs:List (List α)} {g:rY} {r:List α} (hl:jW gs rs) (hr:r.length=g.2.1):jW (gs++[g]) (rs++[r]):=by
 refine⟨by simp [hl.1],fun k x hk=>?_⟩
 rw [List.getElem?_append] at hk
 unfold iC
 rw [List.getD_eq_getElem?_getD,List.getElem?_append]
 split at hk
 ·rename_i hlt
  rw [if_pos (by rw [hl.1];exact hlt)]
  have:=hl.2 k x hk
  unfold iC at this
  rwa [List.getD_eq_getElem?_getD] at this
 ·rename_i hge
  rw [if_neg (by rw [hl.1];exact hge),hl.1]
  by_cases e:k-rs.length=0
  ·rw [e] at hk ⊢;simp at hk ⊢;rw [←hk];exact hr
  ·obtain⟨q,hq⟩:=Nat.exists_eq_succ_of_ne_zero e
   rw [hq] at hk;simp at hk
theorem zP {α:Type} {rs:List (List α)} {N:Nat} {r:List α} (h:rs.length=N):(rs++[r]).length=N+1:=by simp [h]
theorem stN {α:Type} {C:Cd α} {T N k:Nat} {H:List HA} {gs:List rY} {rs:List (List α)} {r:List α} (m:Nat) (hd:H.drop m=gO C T gs rs) (hl:jW gs rs) (h:rs.length=N) (hk:k<N):uE H (m+k) (hO C (iC gs k).1 (iC gs k).2.2 T (iC gs k).2.1 r)=some (H.take m++gO C T gs (rs.set k r)):=by
 rw [aCG m hd (by rw [xS hl.1];omega),aBD hl.1]
section
variable {S:Sx} {κ:Kt} {H H':List HA} {E:qS} {ops:Array Oper} {rest:List Oper} {o:Oper}
theorem aGb {α:Type} {C:Cd α} {xs:List α} {n c:Nat} {β:Option Nat} {M M':mX} {v:Value} (hn:xs.length=n) (h:(pO β n c).h M v) (hS:(pS C xs).h M' (sv β n c)):(pS C xs).h M' v:=by
 rcases h with rfl|⟨_,h0,_,a0,rfl⟩
 ·exact hS
 ·have hx:xs=[]:=List.eq_nil_of_length_eq_zero (hn.trans h0)
  subst hx
  exact⟨_,_,rfl,by simp,by simp,fun j x hj=>by simp at hj⟩
theorem St.frz_inn {α:Type} {C:Cd α} {T:Nat} {w:World} {pre:List HA}:∀{gs:List rY} {rs:List (List α)} {M:mX},jW gs rs→St S M w (pre++gO C T gs rs)→
  ∃M',nP M M'∧St S M' w pre∧∀k r,rs[k]?=some r→(pS C r).h M' (sv (iC gs k).1 (iC gs k).2.1 (iC gs k).2.2)
 |[],[],M,_,h=>⟨M,nP.refl M,by simpa [gO] using h,fun k r hk=>by simp at hk⟩
 |g::gs,x::rs,M,hl,h=>by
  have h0:=hl.2 0 x rfl
  obtain⟨M1,g1,g2,g3⟩:=h.frzv (i:=pre.length) (C:=C) (xs:=x) (β:=g.1) (c:=g.2.2) (T:=T) (n:=g.2.1) (by simp [gO]) h0
  have he:(pre++gO C T (g::gs) (x::rs)).eraseIdx pre.length=pre++gO C T gs rs:=by
   rw [List.eraseIdx_append_of_length_le (Nat.le_refl _)];simp [gO]
  rw [he] at g2
  obtain⟨M2,k1,k2,k3⟩:=St.frz_inn (gs:=gs) (rs:=rs) ⟨by simpa using hl.1,fun k r hk=>by
   have:=hl.2 (k+1) r (by simpa using hk)
   simpa [iC] using this⟩ g2
  refine⟨M2,g1.trans k1,k2,fun k r hk=>?_⟩
  cases k with
  |zero=>simp at hk;subst hk;exact(pS C x).mono k1 g3
  |succ k=>have:=k3 k r (by simpa using hk);simpa [iC] using this
 |[],_::_,_,hl,_=>by have:=hl.1;simp at this
 |_::_,[],_,hl,_=>by have:=hl.1;simp at this
theorem aDs {α:Type} {C:Cd α} {gs:List rY} {rs:List (List α)} {M M':mX} (hl:jW gs rs) (hf:∀k r,rs[k]?=some r→(pS C r).h M' (sv (iC gs k).1 (iC gs k).2.1 (iC gs k).2.2)):∀{xs:List Nat} {vs:List Value},(∀k∈xs,k<rs.length)→bR M (flat (cH gs) xs) vs→bR M' (flat (sH C) (aDJ rs xs)) vs
 |[],[],_,_=>trivial
 |[],_::_,_,h=>h.elim
 |k::xs,[],_,h=>h.elim
 |k::xs,v::vs,hx,h=>by
  have hk:=hx k (by simp)
  have hr:rs[k]?=some rs[k]:=List.getElem?_eq_getElem hk
  refine⟨?_,aDs hl hf (fun j hj=>hx j (by simp [hj])) h.2⟩
  have h1:(pO (iC gs k).1 (iC gs k).2.1 (iC gs k).2.2).h M v:=h.1
  have e1:rs.getD k []=rs[k]:=by simp [List.getD_eq_getElem?_getD,hr]
  show(pS C (rs.getD k [])).h M' v
  rw [e1]
  exact aGb (hl.2 k _ hr) h1 (hf k _ hr)
theorem aD0 {α:Type} {C:Cd α} {T T' n c:Nat} {β:Option Nat} {gs:List rY} {rs:List (List α)} {xs:List Nat} (i m:Nat) (hd:H.drop m=gO C T gs rs) (hi:(H.take m)[i]?=some (hO (cH gs) β c T' n xs)) (hl:jW gs rs) (hx:∀k∈xs,k<rs.length) {a:Act} {w:World} (h:hs S H E a w):
  hs S ((H.take m).set i (hO (sH C) β c T' n (aDJ rs xs))) E a w:=by
 obtain⟨M,h1,h2⟩:=h
 rw [←List.take_append_drop m H,hd] at h1
 obtain⟨M',g1,g2,g3⟩:=h1.frz_inn hl
 obtain⟨⟨vs,how,hall⟩,hnone⟩:=g2.own _ (List.mem_of_getElem? hi)
 exact⟨M',g2.put hi (sL w _) ⟨⟨vs,how,aDs hl g3 hx hall⟩,hnone⟩ (.inl rfl),h2.mono g1⟩
theorem aGO {α:Type} {C:Cd α} {T T' n c:Nat} {β:Option Nat} {gs:List rY} {rs:List (List α)} {xs:List Nat} {e:Exit} (i m:Nat) (hd:H.drop m=gO C T gs rs) (hi:(H.take m)[i]?=some (hO (cH gs) β c T' n xs)) (hl:jW gs rs) (hx:∀k∈xs,k<rs.length)
  (k:WX S e κ ((H.take m).set i (hO (sH C) β c T' n (aDJ rs xs))) E):WX S e κ H E:=fun a w hh=>k a w (aD0 i m hd hi hl hx hh)
theorem aAn {α:Type}:∀(l:List α) (i:Nat) (h:i<l.length),([l[i]]++l.eraseIdx i).Perm l
 |[],i,h=>by simp at h
 |x::l,0,h=>by simp
 |x::l,i+1,h=>by
  have:=aAn l i (by simpa using h)
  simp only [List.getElem_cons_succ,List.eraseIdx_cons_succ,List.singleton_append] at this ⊢
  exact(List.Perm.swap _ _ _).trans (this.cons x)
theorem z9 {α:Type} {C:Cd α} {T:Nat} {X':List HA} {gs:List rY} {rs:List (List α)} {r:List α} {g:rY} (i m:Nat) (hd:H.drop m=gO C T gs rs) (hi:(H.take m)[i]?=some (hO C g.1 g.2.2 T g.2.1 r)) (hX:wI (H.take m) i=some X') (hl:jW gs rs)
  (k:WL S ops κ rest (X'++gO C T (gs++[g]) (rs++[r])) E):WL S ops κ rest H E:=by
 rintro a w ⟨M,h1,h2⟩
 refine k a w ⟨M,?_,h2⟩
 rw [←List.take_append_drop m H,hd] at h1
 refine h1.perm ?_
 rw [aBR g r hl.1,uI hX,←List.append_assoc]
 have hlt:=(List.getElem?_eq_some_iff.1 hi).1
 have e:=(List.getElem?_eq_some_iff.1 hi).2
 have p1:((H.take m).eraseIdx i++[hO C g.1 g.2.2 T g.2.1 r]).Perm (H.take m):=by
  refine List.perm_append_comm.trans ?_
  rw [←e]
  exact aAn _ _ hlt
 refine(List.Perm.trans ?_ (p1.append_right (gO C T gs rs)))
 rw [List.append_assoc,List.append_assoc]
 exact List.perm_append_comm.append_left _
theorem aFy {ins:List (Operand×VP)} {out:VP} (t:Tr S o H H ins out) (h:H'=H):Tr S o H H' ins out:=h▸t
theorem St.split {M:mX} {w:World} {X X' R:List HA} {l:List Nat} (h:St S M w (X++R)) (hp:fE X l=some X') (hl:l.Nodup):St S M w (X'++R):=by
 have hn:=h.nodup
 rw [List.filterMap_append] at hn
 obtain⟨n1,n2,n3⟩:=List.nodup_append.1 hn
 have hX:St S M w X:=h.sub (fun e he=>List.mem_append.2 (.inl he)) n1
 have hX':=hX.pick hp hl
 have hm:∀e∈X',e∈X:=fun e he=>by
  obtain⟨j,hj⟩:=List.getElem?_of_mem he
  obtain⟨i,_,hi⟩:=oX hp j e hj
  exact List.mem_of_getElem? hi
 refine h.sub (fun e he=>?_) ?_
 ·rcases List.mem_append.1 he with he|he
  ·exact List.mem_append.2 (.inl (hm e he))
  ·exact List.mem_append.2 (.inr he)
 ·rw [List.filterMap_append]
  refine List.nodup_append.2 ⟨hX'.nodup,n2,fun x hx y hy=>n3 x ?_ y hy⟩
  obtain⟨e,he,heb⟩:=List.mem_filterMap.1 hx
  exact List.mem_filterMap.2 ⟨e,hm e he,heb⟩
theorem cO {X' R:List HA} {E':qS} (m:Nat) (l:List Nat) (hd:H.drop m=R) (hp:fE (H.take m) l=some X') (hl:l.Nodup) (hE:aBr E E') {a:Act} {w:World} (h:hs S H E a w):hs S (X'++R) E' a w:=by
 obtain⟨M,h1,h2⟩:=h
 rw [←List.take_append_drop m H,hd] at h1
 exact⟨M,h1.split hp hl,h2.size,h2.defers,fun d p hd=>h2.get d p (hE.get d p hd)⟩
theorem mJ {PJ:List HA→qS→Prop} {X' R:List HA} {E':qS} (J:∀H E,PJ H E→WX S .normal κ H E) (h:PJ (X'++R) E') (m:Nat) (l:List Nat) (hd:H.drop m=R) (hp:fE (H.take m) l=some X') (hE:aBr E E') (hl:l.Nodup:=by decide):WX S .normal κ H E:=
 fun a w hh=>J _ _ h a w (cO m l hd hp hl hE hh)
theorem tQ {X A B:List HA}:∀{is js:List Nat},fE X is=some A→fE X js=some B→fE X (is++js)=some (A++B)
 |[],js,h1,h2=>by simp [fE] at h1;subst h1;simpa using h2
 |i::is,js,h1,h2=>by
  simp only [fE] at h1
  cases hi:X[i]? with
  |none=>rw [hi] at h1;simp at h1
  |some e=>
   cases hr:fE X is with
   |none=>rw [hi,hr] at h1;simp at h1
   |some A'=>
    rw [hi,hr] at h1
    simp only [Option.some.injEq] at h1
    subst h1
    have:=tQ hr h2
    simp [fE,hi,this]
theorem rG {f d:Nat} {cs:List CP} {A B R:List HA} {pre:List VP} {post:List HA→VP→Prop} {xs:List Operand} {y:Operand} {ts:Array TypeId} (m:Nat) (is js:List Nat) (ho:o.op=.call {callee:=.value y,args:=xs.toArray,argTypes:=ts}) (c:CtO S.P f (A++R) (pre++cs.map .vc) post) (hi:sZ E ((y,.vc (pF f cs))::xs.zip pre)) (hR:H.drop m=R) (h1:fE (H.take m) is=some A) (h2:fE (H.take m) js=some B) (hn:(is++js).Nodup)
  (k:∀Ho q,post Ho q→WL S ops κ rest (Ho++B) ((d,q)::E)) (hl:xs.length=pre.length:=by rfl)
  (hd:o.dst=some d:=by rfl) (hg:o.guard=none:=by rfl) (hN:Nat.blt d S.N=true:=by rfl):WL S ops κ (o::rest) H E:=by
 have key:WL S ops κ (o::rest) ((A++R)++B) E:=by
  refine vA (List.range' 0 (A++R).length) (List.range' (A++R).length B.length) ho c hi ?_ (rU B _ _ rfl) ?_ k hl hd hg hN
  ·have:=rU (A++R) 0 [] rfl
   have e:∀(X Y:List HA) (l:List Nat) (Z:List HA),fE X l=some Z→fE (X++Y) l=some Z:=by
    intro X Y l
    induction l with
    |nil=>intro Z hz;simpa [fE] using hz
    |cons i l ih=>
     intro Z hz
     simp only [fE] at hz
     cases hxi:X[i]? with
     |none=>rw [hxi] at hz;simp at hz
     |some e=>
      cases hr:fE X l with
      |none=>rw [hxi,hr] at hz;simp at hz
      |some Z'=>
       rw [hxi,hr] at hz
       have hlt:=(List.getElem?_eq_some_iff.1 hxi).1
       simp only [fE,List.getElem?_append_left hlt,hxi,ih _ hr]
       exact hz
   exact e _ _ _ _ (by simpa using this)
  ·rw [List.nodup_append]
   refine⟨List.nodup_range',List.nodup_range',fun x hx y hy=>?_⟩
   simp only [List.mem_range'_1] at hx hy
   omega
 rintro a w ⟨M,h3,h4⟩
 rw [←List.take_append_drop m H,hR] at h3
 have h5:=h3.split (tQ h1 h2) hn
 refine key a w ⟨M,h5.perm ?_,h4⟩
 rw [List.append_assoc,List.append_assoc]
 exact(List.perm_append_comm).append_left A
end
end Go.Proofs.YtcjdedkdoagifaaGreat
