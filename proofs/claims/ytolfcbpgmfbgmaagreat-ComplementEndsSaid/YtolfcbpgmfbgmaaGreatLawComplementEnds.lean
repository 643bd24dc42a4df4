/-
  The statement ComplementEnds holds: for every input the law returns true, and its arguments read afterwards as before.
  Without any condition: of the arguments nothing is asked but what the row says of every input.
-/
import Derived.Test.YtolfcbpgmfbgmaaGreatZ6
set_option linter.unusedVariables false
namespace Go.Proofs.YtolfcbpgmfbgmaaGreat
open Go.ChangeShapes Go.WideShapes Go.ChangeAt Go.RowKit
theorem z6 (avs:List AV) (h:aGU [.ks,.ki] avs):Ct Tryz.prog 5 (avs.map AV.vp) (.vc (pB true)):=by
 match avs,h with
 |[.vs a0,.vi a1],h=>
  obtain⟨K,hK⟩:=z9 h.1.1 h.2.1
  exact uJ hK
set_option maxRecDepth 100000 in
theorem yQ (os:Os) (started:os.Started) (H:Type) (enc:TypeId×Value→H):
  ReturnsInHanded {} Tryz.checked os 5 .any (Rows.complementEndsSpec.pre6 enc Tryz.prog Tryz.f5 Rows.complementEndsRow.domain false) (Rows.complementEndsSpec.post enc Tryz.prog Tryz.f5 false true false false):=by
 refine returnsInHanded_of_change (C:=Tryz.checked) own started (by kernel_rfl) Tryz.func5 (ChangeSpec.witness6 (enc:=enc) (C:=Tryz.checked) false ⟨#[],#[.slice none 0 0,.int .i64 0],[]⟩ 8 (by kernel_rfl) (by kernel_rfl) (by kernel_rfl) (by kernel_rfl)) ?_
 intro W base args ds gs before hval hW _ _
 refine aD0 (ts:=[22,3]) (ks:=[.ks,.ki]) (tb:=4) Tryz.params5 ⟨⟨3,Tryz.underlying22,Tryz.underlying3,by kernel_rfl⟩,Tryz.underlying3,trivial⟩ z6 rfl (by kernel_rfl) Tryz.underlying4 ?_ hval hW
 intro ds hl
 match ds,hl with
 |[d0,d1],_=>rfl
noncomputable abbrev jp (i:Nat):Bool:=jF Tryz.checked.prog 5 Tryz.f5 Rows.complementEndsSpec Rows.complementEndsRow i
theorem j0:jp 0=true:=by kernel_rfl
theorem j1:jp 1=true:=by kernel_rfl
theorem j2:jp 2=true:=by kernel_rfl
theorem j3:jp 3=true:=by kernel_rfl
theorem j4:jp 4=true:=by kernel_rfl
theorem j5:jp 5=true:=by kernel_rfl
theorem j6:jp 6=true:=by kernel_rfl
theorem j7:jp 7=true:=by kernel_rfl
theorem j8:jp 8=true:=by kernel_rfl
theorem j9:jp 9=true:=by kernel_rfl
theorem j10:jp 10=true:=by kernel_rfl
theorem j11:jp 11=true:=by kernel_rfl
theorem j12:jp 12=true:=by kernel_rfl
theorem j13:jp 13=true:=by kernel_rfl
theorem j14:jp 14=true:=by kernel_rfl
theorem j15:jp 15=true:=by kernel_rfl
theorem j16:jp 16=true:=by kernel_rfl
theorem j17:jp 17=true:=by kernel_rfl
theorem j18:jp 18=true:=by kernel_rfl
theorem j19:jp 19=true:=by kernel_rfl
theorem j20:jp 20=true:=by kernel_rfl
theorem j21:jp 21=true:=by kernel_rfl
theorem j22:jp 22=true:=by kernel_rfl
theorem j23:jp 23=true:=by kernel_rfl
theorem j24:jp 24=true:=by kernel_rfl
theorem j25:jp 25=true:=by kernel_rfl
theorem j26:jp 26=true:=by kernel_rfl
theorem j27:jp 27=true:=by kernel_rfl
theorem j28:jp 28=true:=by kernel_rfl
theorem j29:jp 29=true:=by kernel_rfl
theorem j30:jp 30=true:=by kernel_rfl
theorem j31:jp 31=true:=by kernel_rfl
theorem z8:Rows.complementEndsRow.holds Tryz.pinned (OpenSpec.ofChange Rows.complementEndsSpec):=
 OpenClaim.holds_of_wide 5 Tryz.f5 rfl rfl rfl rfl rfl rfl rfl ⟨rfl,rfl,rfl,rfl,rfl⟩ rfl rfl rfl rfl rfl (by kernel_rfl) Tryz.func5 (aH0 (iV j31 (iV j30 (iV j29 (iV j28 (iV j27 (iV j26 (iV j25 (iV j24 (iV j23 (iV j22 (iV j21 (iV j20 (iV j19 (iV j18 (iV j17 (iV j16 (iV j15 (iV j14 (iV j13 (iV j12 (iV j11 (iV j10 (iV j9 (iV j8 (iV j7 (iV j6 (iV j5 (iV j4 (iV j3 (iV j2 (iV j1 (iV j0 (fun i h=>absurd h (Nat.not_lt_zero i)))))))))))))))))))))))))))))))))))
  (of_decide_eq_true (by kernel_rfl)) (by unfold Func.isWrapper;first|(rw [if_pos (by decide+kernel)];kernel_rfl)|(rw [if_neg (by decide+kernel)];exact⟨rfl,rfl⟩))
  (fun os started H enc _=>yQ os started H enc)
theorem complementEnds_holds:Rows.ComplementEndsSaid:=z8
#print axioms complementEnds_holds
end Go.Proofs.YtolfcbpgmfbgmaaGreat
