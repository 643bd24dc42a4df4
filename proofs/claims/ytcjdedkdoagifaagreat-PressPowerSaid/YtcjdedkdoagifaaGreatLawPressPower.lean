/-
  The statement PressPower holds: for every input the law returns true, and its arguments read afterwards as before.
  Without any condition: of the arguments nothing is asked but what the row says of every input.
-/
import Derived.Test.YtcjdedkdoagifaaGreatZ6
set_option linter.unusedVariables false
namespace Go.Proofs.YtcjdedkdoagifaaGreat
open Go.ChangeShapes Go.WideShapes Go.ChangeAt Go.RowKit
theorem aCs (avs:List AV) (h:aIF [.ks,.kb] avs):Ct Tryz.prog 7 (avs.map AV.vp) (.vc (pB true)):=by
 match avs,h with
 |[.vs a0,.vb a1],h=>
  obtain⟨K,hK⟩:=aCp h.1.1
  exact wZ hK
set_option maxRecDepth 100000 in
theorem aBx (os:Os) (started:os.Started) (H:Type) (enc:TypeId×Value→H):
  ReturnsInHanded {} Tryz.checked os 7 .any (Rows.pressPowerSpec.pre6 enc Tryz.prog Tryz.f7 Rows.pressPowerRow.domain false) (Rows.pressPowerSpec.post enc Tryz.prog Tryz.f7 false true false false):=by
 refine returnsInHanded_of_change (C:=Tryz.checked) own started (by kernel_rfl) Tryz.func7 (ChangeSpec.witness6 (enc:=enc) (C:=Tryz.checked) false ⟨#[],#[.slice none 0 0,.bool false],[]⟩ 8 (by kernel_rfl) (by kernel_rfl) (by kernel_rfl) (by kernel_rfl)) ?_
 intro W base args ds gs before hval hW _ _
 refine aFB (ts:=[22,4]) (ks:=[.ks,.kb]) (tb:=4) Tryz.params7 ⟨⟨3,Tryz.underlying22,Tryz.underlying3,by kernel_rfl⟩,Tryz.underlying4,trivial⟩ aCs rfl (by kernel_rfl) Tryz.underlying4 ?_ hval hW
 intro ds hl
 match ds,hl with
 |[d0,d1],_=>rfl
noncomputable abbrev jp (i:Nat):Bool:=jF Tryz.checked.prog 7 Tryz.f7 Rows.pressPowerSpec Rows.pressPowerRow i
theorem j0:jp 0=true:=by kernel_rfl
theorem j1:jp 1=true:=by kernel_rfl
theorem j2:jp 2=true:=by kernel_rfl
theorem j3:jp 3=true:=by kernel_rfl
theorem j4:jp 4=true:=by kernel_rfl
theorem j5:jp 5=true:=by kernel_rfl
theorem j6:jp 6=true:=by kernel_rfl
theorem j7:jp 7=true:=by kernel_rfl
theorem j8:jp 8=true:=by kernel_rfl
theorem j9:jp 9=true:=by kernel_rfl
theorem j10:jp 10=true:=by kernel_rfl
theorem j11:jp 11=true:=by kernel_rfl
theorem j12:jp 12=true:=by kernel_rfl
theorem j13:jp 13=true:=by kernel_rfl
theorem j14:jp 14=true:=by kernel_rfl
theorem j15:jp 15=true:=by kernel_rfl
theorem j16:jp 16=true:=by kernel_rfl
theorem j17:jp 17=true:=by kernel_rfl
theorem j18:jp 18=true:=by kernel_rfl
theorem j19:jp 19=true:=by kernel_rfl
theorem j20:jp 20=true:=by kernel_rfl
theorem j21:jp 21=true:=by kernel_rfl
theorem j22:jp 22=true:=by kernel_rfl
theorem j23:jp 23=true:=by kernel_rfl
theorem j24:jp 24=true:=by kernel_rfl
theorem j25:jp 25=true:=by kernel_rfl
theorem j26:jp 26=true:=by kernel_rfl
theorem j27:jp 27=true:=by kernel_rfl
theorem j28:jp 28=true:=by kernel_rfl
theorem j29:jp 29=true:=by kernel_rfl
theorem j30:jp 30=true:=by kernel_rfl
theorem j31:jp 31=true:=by kernel_rfl
theorem aCn:Rows.pressPowerRow.holds Tryz.pinned (OpenSpec.ofChange Rows.pressPowerSpec):=
 OpenClaim.holds_of_wide 7 Tryz.f7 rfl rfl rfl rfl rfl rfl rfl ⟨rfl,rfl,rfl,rfl,rfl⟩ rfl rfl rfl rfl rfl (by kernel_rfl) Tryz.func7 (aJI (jS j31 (jS j30 (jS j29 (jS j28 (jS j27 (jS j26 (jS j25 (jS j24 (jS j23 (jS j22 (jS j21 (jS j20 (jS j19 (jS j18 (jS j17 (jS j16 (jS j15 (jS j14 (jS j13 (jS j12 (jS j11 (jS j10 (jS j9 (jS j8 (jS j7 (jS j6 (jS j5 (jS j4 (jS j3 (jS j2 (jS j1 (jS j0 (fun i h=>absurd h (Nat.not_lt_zero i)))))))))))))))))))))))))))))))))))
  (of_decide_eq_true (by kernel_rfl)) (by unfold Func.isWrapper;first|(rw [if_pos (by decide+kernel)];kernel_rfl)|(rw [if_neg (by decide+kernel)];exact⟨rfl,rfl⟩))
  (fun os started H enc _=>aBx os started H enc)
theorem pressPower_holds:Rows.PressPowerSaid:=aCn
#print axioms pressPower_holds
end Go.Proofs.YtcjdedkdoagifaaGreat
