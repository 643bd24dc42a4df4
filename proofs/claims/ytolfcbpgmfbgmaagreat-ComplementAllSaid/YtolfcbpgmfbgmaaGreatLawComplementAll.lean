/-
  The statement ComplementAll holds: for every input the law returns true, and its arguments read afterwards as before.
  Without any condition: of the arguments nothing is asked but what the row says of every input.
-/
import Derived.Test.YtolfcbpgmfbgmaaGreatZ7
set_option linter.unusedVariables false
namespace Go.Proofs.YtolfcbpgmfbgmaaGreat
open Go.ChangeShapes Go.WideShapes Go.ChangeAt Go.RowKit
theorem aD2 (avs:List AV) (h:aLB [.ks,.ki,.ki] avs):Ct Tryz.prog 6 (avs.map AV.vp) (.vc (pB true)):=by
 match avs,h with
 |[.vs a0,.vi a1,.vi a2],h=>
  obtain⟨K,hK⟩:=aDN h.1.1 h.2.1 h.2.2.1
  exact z7 hK
set_option maxRecDepth 100000 in
theorem aCk (os:Os) (started:os.Started) (H:Type) (enc:TypeId×Value→H):
  ReturnsInHanded {} Tryz.checked os 6 .any (Rows.complementAllSpec.pre6 enc Tryz.prog Tryz.f6 Rows.complementAllRow.domain false) (Rows.complementAllSpec.post enc Tryz.prog Tryz.f6 false true false false):=by
 refine returnsInHanded_of_change (C:=Tryz.checked) own started (by kernel_rfl) Tryz.func6 (ChangeSpec.witness6 (enc:=enc) (C:=Tryz.checked) false ⟨#[],#[.slice none 0 0,.int .i64 0,.int .i64 0],[]⟩ 8 (by kernel_rfl) (by kernel_rfl) (by kernel_rfl) (by kernel_rfl)) ?_
 intro W base args ds gs before hval hW _ _
 refine aIC (ts:=[22,3,3]) (ks:=[.ks,.ki,.ki]) (tb:=4) Tryz.params6 ⟨⟨3,Tryz.underlying22,Tryz.underlying3,by kernel_rfl⟩,Tryz.underlying3,Tryz.underlying3,trivial⟩ aD2 rfl (by kernel_rfl) Tryz.underlying4 ?_ hval hW
 intro ds hl
 match ds,hl with
 |[d0,d1,d2],_=>rfl
noncomputable abbrev jp (i:Nat):Bool:=jF Tryz.checked.prog 6 Tryz.f6 Rows.complementAllSpec Rows.complementAllRow i
theorem j0:jp 0=true:=by kernel_rfl
theorem j1:jp 1=true:=by kernel_rfl
theorem j2:jp 2=true:=by kernel_rfl
theorem j3:jp 3=true:=by kernel_rfl
theorem j4:jp 4=true:=by kernel_rfl
theorem j5:jp 5=true:=by kernel_rfl
theorem j6:jp 6=true:=by kernel_rfl
theorem j7:jp 7=true:=by kernel_rfl
theorem j8:jp 8=true:=by kernel_rfl
theorem j9:jp 9=true:=by kernel_rfl
theorem j10:jp 10=true:=by kernel_rfl
theorem j11:jp 11=true:=by kernel_rfl
theorem j12:jp 12=true:=by kernel_rfl
theorem j13:jp 13=true:=by kernel_rfl
theorem j14:jp 14=true:=by kernel_rfl
theorem j15:jp 15=true:=by kernel_rfl
theorem j16:jp 16=true:=by kernel_rfl
theorem j17:jp 17=true:=by kernel_rfl
theorem j18:jp 18=true:=by kernel_rfl
theorem j19:jp 19=true:=by kernel_rfl
theorem j20:jp 20=true:=by kernel_rfl
theorem j21:jp 21=true:=by kernel_rfl
theorem j22:jp 22=true:=by kernel_rfl
theorem j23:jp 23=true:=by kernel_rfl
theorem j24:jp 24=true:=by kernel_rfl
theorem j25:jp 25=true:=by kernel_rfl
theorem j26:jp 26=true:=by kernel_rfl
theorem j27:jp 27=true:=by kernel_rfl
theorem j28:jp 28=true:=by kernel_rfl
theorem j29:jp 29=true:=by kernel_rfl
theorem j30:jp 30=true:=by kernel_rfl
theorem j31:jp 31=true:=by kernel_rfl
theorem aDW:Rows.complementAllRow.holds Tryz.pinned (OpenSpec.ofChange Rows.complementAllSpec):=
 OpenClaim.holds_of_wide 6 Tryz.f6 rfl rfl rfl rfl rfl rfl rfl ⟨rfl,rfl,rfl,rfl,rfl⟩ rfl rfl rfl rfl rfl (by kernel_rfl) Tryz.func6 (aMv (lO j31 (lO j30 (lO j29 (lO j28 (lO j27 (lO j26 (lO j25 (lO j24 (lO j23 (lO j22 (lO j21 (lO j20 (lO j19 (lO j18 (lO j17 (lO j16 (lO j15 (lO j14 (lO j13 (lO j12 (lO j11 (lO j10 (lO j9 (lO j8 (lO j7 (lO j6 (lO j5 (lO j4 (lO j3 (lO j2 (lO j1 (lO j0 (fun i h=>absurd h (Nat.not_lt_zero i)))))))))))))))))))))))))))))))))))
  (of_decide_eq_true (by kernel_rfl)) (by unfold Func.isWrapper;first|(rw [if_pos (by decide+kernel)];kernel_rfl)|(rw [if_neg (by decide+kernel)];exact⟨rfl,rfl⟩))
  (fun os started H enc _=>aCk os started H enc)
theorem complementAll_holds:Rows.ComplementAllSaid:=aDW
#print axioms complementAll_holds
end Go.Proofs.YtolfcbpgmfbgmaaGreat
