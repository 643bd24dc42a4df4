/-
  The statement PressSmooth holds: for every input the law returns true, and its arguments read afterwards as before.
  Without any condition: of the arguments nothing is asked but what the row says of every input.
-/
import Derived.Test.YtcjdedkdoagifaaGreatZ6
set_option linter.unusedVariables false
namespace Go.Proofs.YtcjdedkdoagifaaGreat
open Go.ChangeShapes Go.WideShapes Go.ChangeAt Go.RowKit
theorem aCE (avs:List AV) (h:aJw [.ks,.kb,.ki] avs):Ct Tryz.prog 5 (avs.map AV.vp) (.vc (pB true)):=by
 match avs,h with
 |[.vs a0,.vb a1,.vi a2],h=>
  obtain⟨K,hK⟩:=aCV h.1.1 h.2.2.1
  exact xO hK
set_option maxRecDepth 100000 in
theorem aB0 (os:Os) (started:os.Started) (H:Type) (enc:TypeId×Value→H):
  ReturnsInHanded {} Tryz.checked os 5 .any (Rows.pressSmoothSpec.pre6 enc Tryz.prog Tryz.f5 Rows.pressSmoothRow.domain false) (Rows.pressSmoothSpec.post enc Tryz.prog Tryz.f5 false true false false):=by
 refine returnsInHanded_of_change (C:=Tryz.checked) own started (by kernel_rfl) Tryz.func5 (ChangeSpec.witness6 (enc:=enc) (C:=Tryz.checked) false ⟨#[],#[.slice none 0 0,.bool false,.int .i64 0],[]⟩ 8 (by kernel_rfl) (by kernel_rfl) (by kernel_rfl) (by kernel_rfl)) ?_
 intro W base args ds gs before hval hW _ _
 refine aGs (ts:=[22,4,3]) (ks:=[.ks,.kb,.ki]) (tb:=4) Tryz.params5 ⟨⟨3,Tryz.underlying22,Tryz.underlying3,by kernel_rfl⟩,Tryz.underlying4,Tryz.underlying3,trivial⟩ aCE rfl (by kernel_rfl) Tryz.underlying4 ?_ hval hW
 intro ds hl
 match ds,hl with
 |[d0,d1,d2],_=>rfl
noncomputable abbrev jp (i:Nat):Bool:=jF Tryz.checked.prog 5 Tryz.f5 Rows.pressSmoothSpec Rows.pressSmoothRow i
theorem j0:jp 0=true:=by kernel_rfl
theorem j1:jp 1=true:=by kernel_rfl
theorem j2:jp 2=true:=by kernel_rfl
theorem j3:jp 3=true:=by kernel_rfl
theorem j4:jp 4=true:=by kernel_rfl
theorem j5:jp 5=true:=by kernel_rfl
theorem j6:jp 6=true:=by kernel_rfl
theorem j7:jp 7=true:=by kernel_rfl
theorem j8:jp 8=true:=by kernel_rfl
theorem j9:jp 9=true:=by kernel_rfl
theorem j10:jp 10=true:=by kernel_rfl
theorem j11:jp 11=true:=by kernel_rfl
theorem j12:jp 12=true:=by kernel_rfl
theorem j13:jp 13=true:=by kernel_rfl
theorem j14:jp 14=true:=by kernel_rfl
theorem j15:jp 15=true:=by kernel_rfl
theorem j16:jp 16=true:=by kernel_rfl
theorem j17:jp 17=true:=by kernel_rfl
theorem j18:jp 18=true:=by kernel_rfl
theorem j19:jp 19=true:=by kernel_rfl
theorem j20:jp 20=true:=by kernel_rfl
theorem j21:jp 21=true:=by kernel_rfl
theorem j22:jp 22=true:=by kernel_rfl
theorem j23:jp 23=true:=by kernel_rfl
theorem j24:jp 24=true:=by kernel_rfl
theorem j25:jp 25=true:=by kernel_rfl
theorem j26:jp 26=true:=by kernel_rfl
theorem j27:jp 27=true:=by kernel_rfl
theorem j28:jp 28=true:=by kernel_rfl
theorem j29:jp 29=true:=by kernel_rfl
theorem j30:jp 30=true:=by kernel_rfl
theorem j31:jp 31=true:=by kernel_rfl
theorem aC1:Rows.pressSmoothRow.holds Tryz.pinned (OpenSpec.ofChange Rows.pressSmoothSpec):=
 OpenClaim.holds_of_wide 5 Tryz.f5 rfl rfl rfl rfl rfl rfl rfl ⟨rfl,rfl,rfl,rfl,rfl⟩ rfl rfl rfl rfl rfl (by kernel_rfl) Tryz.func5 (aK3 (jY j31 (jY j30 (jY j29 (jY j28 (jY j27 (jY j26 (jY j25 (jY j24 (jY j23 (jY j22 (jY j21 (jY j20 (jY j19 (jY j18 (jY j17 (jY j16 (jY j15 (jY j14 (jY j13 (jY j12 (jY j11 (jY j10 (jY j9 (jY j8 (jY j7 (jY j6 (jY j5 (jY j4 (jY j3 (jY j2 (jY j1 (jY j0 (fun i h=>absurd h (Nat.not_lt_zero i)))))))))))))))))))))))))))))))))))
  (of_decide_eq_true (by kernel_rfl)) (by unfold Func.isWrapper;first|(rw [if_pos (by decide+kernel)];kernel_rfl)|(rw [if_neg (by decide+kernel)];exact⟨rfl,rfl⟩))
  (fun os started H enc _=>aB0 os started H enc)
theorem pressSmooth_holds:Rows.PressSmoothSaid:=aC1
#print axioms pressSmooth_holds
end Go.Proofs.YtcjdedkdoagifaaGreat
