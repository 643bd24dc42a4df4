/-
  The statement SimplexMoreUpto holds: for every input of bulk at most 2^20 the law returns true, and its arguments read afterwards as before.
  Without any other condition: of the arguments nothing is asked but what the row says of every input.
-/
import Derived.Test.YtnmdhmfofbfkjaaGreatZ6
set_option linter.unusedVariables false
namespace Go.Proofs.YtnmdhmfofbfkjaaGreat
open Go.ChangeShapes Go.WideShapes Go.ChangeAt Go.RowKit
theorem aBo(avs:List AV)(h:aE1 [.ks,.ks] avs)(hu:aDg avs≤1048576):Ct Tryz.prog 9 (avs.map AV.vp) (.vc (pB true)):=by
 match avs,h,hu with
 |[.vs f,.vs a1],h,hu=>
  simp only[aDg,AV.len]at hu;obtain⟨K,e⟩:=aBn h.1.1 h.2.1.1 (by omega);exact uS e
set_option maxRecDepth 100000 in
theorem aAn(os:Os)(started:os.Started)(H:Type)(enc:TypeId×Value→H)(F:Stop.Interp):
  ReturnsInHanded {} Tryz.checked os 9 .any ((Rows.OpenSpec.upto Rows.simplexMoreSpec).pre6 enc Tryz.prog Tryz.f9 Rows.simplexMoreUptoRow.domain false) (((Rows.OpenSpec.upto Rows.simplexMoreSpec).at F).post enc Tryz.prog Tryz.f9 false true false false):=by
 refine returnsInHanded_of_cond (C:=Tryz.checked) (s:=Rows.OpenSpec.upto Rows.simplexMoreSpec) (k:=Rows.uptoSmall) rfl own started (by kernel_rfl) Tryz.func9
  (OpenSpec.witness (enc:=enc) (C:=Tryz.checked) (s:=Rows.OpenSpec.upto Rows.simplexMoreSpec) (k:=Rows.uptoSmall) rfl false ⟨#[],#[.slice none 0 0,.slice none 0 0],[]⟩ 8 (by kernel_rfl) (by kernel_rfl) (by kernel_rfl)
   (x:=([.nil,.nil],[],[])) (by kernel_rfl) rfl (by kernel_rfl)) ?_
 intro W base args ds gs before hval e _ f _;refine aCY (s:=Rows.simplexMoreSpec) (ts:=[22,22]) (ks:=[.ks,.ks]) (tb:=4) Tryz.params9 ⟨⟨3,Tryz.underlying22,Tryz.underlying3,by kernel_rfl⟩,⟨3,Tryz.underlying22,Tryz.underlying3,by kernel_rfl⟩,trivial⟩ aBo rfl (by kernel_rfl) Tryz.underlying4 ?_ hval e f;intro ds h
 match ds,h with
 |[d0,d1],_=>rfl
noncomputable abbrev jp (i:Nat):Bool:=jF Tryz.checked.prog 9 Tryz.f9 (Rows.OpenSpec.upto Rows.simplexMoreSpec).bare Rows.simplexMoreUptoRow i
theorem j0:jp 0=true:=by kernel_rfl
theorem j1:jp 1=true:=by kernel_rfl
theorem j2:jp 2=true:=by kernel_rfl
theorem j3:jp 3=true:=by kernel_rfl
theorem j4:jp 4=true:=by kernel_rfl
theorem j5:jp 5=true:=by kernel_rfl
theorem j6:jp 6=true:=by kernel_rfl
theorem j7:jp 7=true:=by kernel_rfl
theorem j8:jp 8=true:=by kernel_rfl
theorem j9:jp 9=true:=by kernel_rfl
theorem j10:jp 10=true:=by kernel_rfl
theorem j11:jp 11=true:=by kernel_rfl
theorem j12:jp 12=true:=by kernel_rfl
theorem j13:jp 13=true:=by kernel_rfl
theorem j14:jp 14=true:=by kernel_rfl
theorem j15:jp 15=true:=by kernel_rfl
theorem j16:jp 16=true:=by kernel_rfl
theorem j17:jp 17=true:=by kernel_rfl
theorem j18:jp 18=true:=by kernel_rfl
theorem j19:jp 19=true:=by kernel_rfl
theorem j20:jp 20=true:=by kernel_rfl
theorem j21:jp 21=true:=by kernel_rfl
theorem j22:jp 22=true:=by kernel_rfl
theorem j23:jp 23=true:=by kernel_rfl
theorem j24:jp 24=true:=by kernel_rfl
theorem j25:jp 25=true:=by kernel_rfl
theorem j26:jp 26=true:=by kernel_rfl
theorem j27:jp 27=true:=by kernel_rfl
theorem j28:jp 28=true:=by kernel_rfl
theorem j29:jp 29=true:=by kernel_rfl
theorem j30:jp 30=true:=by kernel_rfl
theorem j31:jp 31=true:=by kernel_rfl
theorem aBc:Rows.simplexMoreUptoRow.holds Tryz.pinned (Rows.OpenSpec.upto Rows.simplexMoreSpec):=
 OpenClaim.holds_of_cond 9 Tryz.f9 rfl rfl rfl rfl rfl rfl rfl ⟨rfl,rfl,rfl,rfl,rfl⟩ rfl rfl rfl rfl rfl (by kernel_rfl) Tryz.func9 (aHc (jM j31 (jM j30 (jM j29 (jM j28 (jM j27 (jM j26 (jM j25 (jM j24 (jM j23 (jM j22 (jM j21 (jM j20 (jM j19 (jM j18 (jM j17 (jM j16 (jM j15 (jM j14 (jM j13 (jM j12 (jM j11 (jM j10 (jM j9 (jM j8 (jM j7 (jM j6 (jM j5 (jM j4 (jM j3 (jM j2 (jM j1 (jM j0 (fun i h=>absurd h (Nat.not_lt_zero i)))))))))))))))))))))))))))))))))))
  (of_decide_eq_true (by kernel_rfl)) (by unfold Func.isWrapper;first|(rw[if_pos (by decide+kernel)];kernel_rfl)|(rw[if_neg (by decide+kernel)];exact⟨rfl,rfl⟩))
  (fun os started H enc _ F=>aAn os started H enc F)
theorem simplexMore_holds:Rows.SimplexMoreUptoSaid:=aBc
#print axioms simplexMore_holds
end Go.Proofs.YtnmdhmfofbfkjaaGreat
