/- Rows inside an owned list: more places, cuts that are lent, ends. -/
import Derived.Test.YtcjdedkdoagifaaGreatK12
set_option linter.unusedVariables false
namespace Go.Proofs.YtcjdedkdoagifaaGreat
theorem stNA {α:Type} {C:Cd α} {T N k:Nat} {H A:List HA} {gs:List rY} {rs:List (List α)} {r:List α} (m:Nat) (hd:H.drop m=gO C T gs rs++A) (hl:jW gs rs) (h:rs.length=N) (hk:k<N):uE H (m+k) (hO C (iC gs k).1 (iC gs k).2.2 T (iC gs k).2.1 r)=some (H.take m++(gO C T gs (rs.set k r)++A)):=by
 rw [aCG m hd (by rw [List.length_append,xS hl.1];omega),aEI A hl.1 (by omega)]
theorem xI {α:Type} {C:Cd α} {T N k:Nat} {H:List HA} {gs:List rY} {rs:List (List α)} (m:Nat) (hd:H.drop m=gO C T gs rs) (hl:jW gs rs) (h:rs.length=N) (hk:k<N):H[m+k]?=some (hO C (iC gs k).1 (iC gs k).2.2 T (iC gs k).2.1 (rs.getD k [])):=
 aGR m hd (aCw hl.1 (zK h hk))
theorem iY {α:Type} {C:Cd α} {T N k:Nat} {H A:List HA} {gs:List rY} {rs:List (List α)} (m:Nat) (hd:H.drop m=gO C T gs rs++A) (hl:jW gs rs) (h:rs.length=N) (hk:k<N):H[m+k]?=some (hO C (iC gs k).1 (iC gs k).2.2 T (iC gs k).2.1 (rs.getD k [])):=
 aGR m hd (aFI A hl.1 (zK h hk))
theorem kD {α:Type} {N k:Nat} {gs:List rY} {rs:List (List α)} (hl:jW gs rs) (h:rs.length=N) (hk:k<N):(rs.getD k []).length=(iC gs k).2.1:=hl.2 _ _ (zK h hk)
theorem zX {gs:List rY} {N:Nat} (g:rY) (h:gs.length=N):iC (gs++[g]) N=g:=by
 subst h;simp [iC]
section
variable {S:Sx} {κ:Kt} {H H':List HA} {E:qS} {ops:Array Oper} {rest:List Oper} {o:Oper}
theorem aFr {α:Type} (C:Cd α) (T:Nat) (k:WL S ops κ rest (H++gO C T [] []) E):WL S ops κ rest H E:=by simpa [gO] using k
theorem nD (X R B:List HA):((X++B)++R).Perm ((X++R)++B):=by
 rw [List.append_assoc,List.append_assoc]
 exact List.perm_append_comm.append_left X
theorem aCE {T c n:Nat} {β:Option Nat} {gs:List rY} {xs:List Nat} {N:Nat} (g:rY) (hN:gs.length=N) (hx:∀k∈xs,k<N):hO (cH (gs++[g])) β c T n xs=hO (cH gs) β c T n xs:=by
 show HA.mk β c T _ n _=HA.mk β c T _ n _
 rw [aFq g (fun k hk=>hN▸hx k hk)];rfl
theorem aFn {gs:List rY} {N:Nat} (b:Option Nat) (n c:Nat) (h:gs.length=N):VE (cH (gs++[(b,n,c)])) (.vc (pO b n c)) N:=⟨trivial,by show [_]=[_];rw [zX _ h]⟩
theorem aGH {t e bytes:Nat} {x:Operand} {gs:List rY} {α:Type} {rs:List (List α)} {b:Option Nat} {n c:Nat} (ho:o.op=.buildSlice t 1 ((List.range' 0 1).zip [x]).toArray) (ht:yJ S.P t e 1 bytes) (hl:gs.length=rs.length) (h:H'=H):
  Tr S o H H' [(x,.vc (pO b n c))] (.vc (pS (cH (gs++[(b,n,c)])) [rs.length])):=
 aFy (pX (C:=cH (gs++[(b,n,c)])) (xs:=[x]) (ps:=[.vc (pO b n c)]) (zs:=[rs.length]) ho ht rfl ⟨aFn b n c hl,trivial⟩ rfl) h
theorem uW {P:Program} {fn:Func} {w0:World} {M0:mX} {B:List Nat} {post:List HA→VP→Prop} {N:Nat} {e:Exit} {rs:List ResultVar} {ps:List VP} {R Ho:List HA} (he:e=.ret∨e=.normal) (hrs:fn.results=rs.toArray) (hv:RVs ⟨P,w0,M0,B,N⟩ H E rs ps) (hl:Nat.ble ps.length 4=true)
  (m:Nat) (is:List Nat) (hd:H.drop m=R) (hp:fE (H.take m) is=some Ho) (hn:is.Nodup) (hpost:post (Ho++R) (aD7 ps)):
  WX ⟨P,w0,M0,B,N⟩ e (.base (bodyPost P fn (Rp P w0 M0 B post))) H E:=by
 rintro a w ⟨M,h1,h2⟩
 obtain⟨vs,hall,hr⟩:=zF h1 h2 hv
 have hres:(results fn a.tmps).run P w=.ok (if h:vs.toArray.size=1 then vs.toArray[0] else .tuple vs.toArray) w:=by
  have e:results fn a.tmps=(do let vs ←fn.results.mapM (aAm a.tmps);pure (if h:vs.size=1 then vs[0] else .tuple vs)):=rfl
  rw [e,hrs,List.mapM_toArray]
  simp [hr]
 rw [←List.take_append_drop m H,hd] at h1
 have hR:Rp P w0 M0 B post (.returned (if h:vs.toArray.size=1 then vs.toArray[0] else .tuple vs.toArray)) w:=
  ⟨_,M,Ho++R,aD7 ps,hpost,rfl,(h1.split hp hn).reN P 0,aFT (by simpa using hl) hall⟩
 rcases he with rfl|rfl<;>exact⟨h2.defers,_,hres,hR⟩
theorem aGp {α:Type} (C:Cd α) (T:Nat) {cd:Code} (k:WC S cd κ (hO C none 0 T 0 ([]:List α)::H) E):WC S cd κ H E:=by
 rintro a w ⟨M,h1,h2⟩
 exact k a w ⟨M,h1.new_row (sL w none) ⟨⟨[],World.ownsRow_nil w 0 T C.n,trivial⟩,fun b hb=>by cases hb⟩ (fun b hb=>by cases hb),h2⟩
theorem aFZ (h:H'=H) (k:WL S ops κ rest H' E):WL S ops κ rest H E:=h▸k
theorem aDG {α:Type}:jW [(none,0,0)] [([]:List α)]:=uF (g:=(none,0,0)) (r:=([]:List α)) aAQ rfl
theorem aGz {n:Int} {xs:List Nat} (h:s6 n 0=some xs):∀k∈xs,k<1:=by
 unfold s6 at h
 split at h
 ·simp only [Option.some.injEq] at h
  subst h
  intro k hk
  rw [List.eq_of_mem_replicate hk];exact Nat.one_pos
 ·cases h
theorem aB3 {gs:List rY} {N z:Nat} (g:rY) (h:gs.length=N):tI ((cH (gs++[g])).e z) 0 [pO g.1 g.2.1 g.2.2]=some ((cH (gs++[g])).e N):=by
 show some [_]=some [_]
 rw [zX g h]
theorem pC {xs ys:List Nat} {N k:Nat} {j:Int} (hx:∀k∈xs,k<N) (h:n8 xs j k=some ys) (hk:k=N):∀i∈ys,i<N+1:=
 aGC (fun i hi=>Nat.lt_succ_of_lt (hx i hi)) h (by omega)
theorem aA3 {H:List HA}:∀(t k:Nat),k+t=H.length→fE H (List.range' k t)=some (H.drop k)
 |0,k,h=>by rw [List.drop_eq_nil_of_le (by omega)];rfl
 |t+1,k,h=>by
  have hk:k<H.length:=by omega
  show(match H[k]?,fE H (List.range' (k+1) t) with
   |some e,some r=>some (e::r)
   |_,_=>none)=_
  rw [aA3 t (k+1) (by omega),List.getElem?_eq_getElem hk,List.drop_eq_getElem_cons hk]
theorem aFt {f d:Nat} {pre:List VP} {post:List HA→VP→Prop} {xs:List Operand} {ts:Array TypeId} (ho:o.op=.call {callee:=.value (.func f),args:=xs.toArray,argTypes:=ts}) (c:CtO S.P f [] pre post) (hi:sZ E (xs.zip pre))
  (k:∀Ho q,post Ho q→WL S ops κ rest (Ho++H) ((d,q)::E)) (hl:xs.length=pre.length:=by rfl)
  (hd:o.dst=some d:=by rfl) (hg:o.guard=none:=by rfl) (hN:Nat.blt d S.N=true:=by rfl):WL S ops κ (o::rest) H E:=
 zH [] (List.range' 0 H.length) ho c hi rfl (by rw [aA3 H.length 0 (by omega),List.drop_zero]) (by simpa using List.nodup_range') k hl hd hg hN
end
end Go.Proofs.YtcjdedkdoagifaaGreat
