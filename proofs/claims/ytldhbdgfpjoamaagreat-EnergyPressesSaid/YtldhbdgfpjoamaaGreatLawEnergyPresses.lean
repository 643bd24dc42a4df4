/-
  The statement EnergyPresses holds: for every input the law returns true, and its arguments read afterwards as before.
  Without any condition: of the arguments nothing is asked but what the row says of every input.
-/
import Derived.Test.YtldhbdgfpjoamaaGreatZ7
set_option linter.unusedVariables false
namespace Go.Proofs.YtldhbdgfpjoamaaGreat
open Go.ChangeShapes Go.WideShapes Go.ChangeAt Go.RowKit
theorem aDR (avs:List AV) (h:aMt [.ks,.ks,.kb] avs):Ct Tryz.prog 3 (avs.map AV.vp) (.vc (pB true)):=by
 match avs,h with
 |[.vs a0,.vs a1,.vb a2],h=>
  obtain⟨K,hK⟩:=aDC h.1.1 h.2.1.1
  exact zZ hK
set_option maxRecDepth 100000 in
theorem aCI (os:Os) (started:os.Started) (H:Type) (enc:TypeId×Value→H):
  ReturnsInHanded {} Tryz.checked os 3 .any (Rows.energyPressesSpec.pre6 enc Tryz.prog Tryz.f3 Rows.energyPressesRow.domain false) (Rows.energyPressesSpec.post enc Tryz.prog Tryz.f3 false true false false):=by
 refine returnsInHanded_of_change (C:=Tryz.checked) own started (by kernel_rfl) Tryz.func3 (ChangeSpec.witness6 (enc:=enc) (C:=Tryz.checked) false ⟨#[],#[.slice none 0 0,.slice none 0 0,.bool false],[]⟩ 8 (by kernel_rfl) (by kernel_rfl) (by kernel_rfl) (by kernel_rfl)) ?_
 intro W base args ds gs before hval hW _ _
 refine aIx (ts:=[22,22,4]) (ks:=[.ks,.ks,.kb]) (tb:=4) Tryz.params3 ⟨⟨3,Tryz.underlying22,Tryz.underlying3,by kernel_rfl⟩,⟨3,Tryz.underlying22,Tryz.underlying3,by kernel_rfl⟩,Tryz.underlying4,trivial⟩ aDR rfl (by kernel_rfl) Tryz.underlying4 ?_ hval hW
 intro ds hl
 match ds,hl with
 |[d0,d1,d2],_=>rfl
noncomputable abbrev jp (i:Nat):Bool:=jF Tryz.checked.prog 3 Tryz.f3 Rows.energyPressesSpec Rows.energyPressesRow i
theorem j0:jp 0=true:=by kernel_rfl
theorem j1:jp 1=true:=by kernel_rfl
theorem j2:jp 2=true:=by kernel_rfl
theorem j3:jp 3=true:=by kernel_rfl
theorem j4:jp 4=true:=by kernel_rfl
theorem j5:jp 5=true:=by kernel_rfl
theorem j6:jp 6=true:=by kernel_rfl
theorem j7:jp 7=true:=by kernel_rfl
theorem j8:jp 8=true:=by kernel_rfl
theorem j9:jp 9=true:=by kernel_rfl
theorem j10:jp 10=true:=by kernel_rfl
theorem j11:jp 11=true:=by kernel_rfl
theorem j12:jp 12=true:=by kernel_rfl
theorem j13:jp 13=true:=by kernel_rfl
theorem j14:jp 14=true:=by kernel_rfl
theorem j15:jp 15=true:=by kernel_rfl
theorem j16:jp 16=true:=by kernel_rfl
theorem j17:jp 17=true:=by kernel_rfl
theorem j18:jp 18=true:=by kernel_rfl
theorem j19:jp 19=true:=by kernel_rfl
theorem j20:jp 20=true:=by kernel_rfl
theorem j21:jp 21=true:=by kernel_rfl
theorem j22:jp 22=true:=by kernel_rfl
theorem j23:jp 23=true:=by kernel_rfl
theorem j24:jp 24=true:=by kernel_rfl
theorem j25:jp 25=true:=by kernel_rfl
theorem j26:jp 26=true:=by kernel_rfl
theorem j27:jp 27=true:=by kernel_rfl
theorem j28:jp 28=true:=by kernel_rfl
theorem j29:jp 29=true:=by kernel_rfl
theorem j30:jp 30=true:=by kernel_rfl
theorem j31:jp 31=true:=by kernel_rfl
theorem aDA:Rows.energyPressesRow.holds Tryz.pinned (OpenSpec.ofChange Rows.energyPressesSpec):=
 OpenClaim.holds_of_wide 3 Tryz.f3 rfl rfl rfl rfl rfl rfl rfl ⟨rfl,rfl,rfl,rfl,rfl⟩ rfl rfl rfl rfl rfl (by kernel_rfl) Tryz.func3 (aNk (k6 j31 (k6 j30 (k6 j29 (k6 j28 (k6 j27 (k6 j26 (k6 j25 (k6 j24 (k6 j23 (k6 j22 (k6 j21 (k6 j20 (k6 j19 (k6 j18 (k6 j17 (k6 j16 (k6 j15 (k6 j14 (k6 j13 (k6 j12 (k6 j11 (k6 j10 (k6 j9 (k6 j8 (k6 j7 (k6 j6 (k6 j5 (k6 j4 (k6 j3 (k6 j2 (k6 j1 (k6 j0 (fun i h=>absurd h (Nat.not_lt_zero i)))))))))))))))))))))))))))))))))))
  (of_decide_eq_true (by kernel_rfl)) (by unfold Func.isWrapper;first|(rw [if_pos (by decide+kernel)];kernel_rfl)|(rw [if_neg (by decide+kernel)];exact⟨rfl,rfl⟩))
  (fun os started H enc _=>aCI os started H enc)
theorem energyPresses_holds:Rows.EnergyPressesSaid:=aDA
#print axioms energyPresses_holds
end Go.Proofs.YtldhbdgfpjoamaaGreat
