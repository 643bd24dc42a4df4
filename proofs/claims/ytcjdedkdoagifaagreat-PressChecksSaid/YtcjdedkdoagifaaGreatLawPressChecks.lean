/-
  The statement PressChecks holds: for every input the law returns true, and its arguments read afterwards as before.
  Without any condition: of the arguments nothing is asked but what the row says of every input.
-/
import Derived.Test.YtcjdedkdoagifaaGreatZ7
set_option linter.unusedVariables false
namespace Go.Proofs.YtcjdedkdoagifaaGreat
open Go.ChangeShapes Go.WideShapes Go.ChangeAt Go.RowKit
theorem aDB (avs:List AV) (h:aKY [.ks,.kb,.ki,.ki,.ki] avs):Ct Tryz.prog 3 (avs.map AV.vp) (.vc (pB true)):=by
 match avs,h with
 |[.vs a0,.vb a1,.vi a2,.vi a3,.vi a4],h=>
  obtain⟨K,hK⟩:=aDv h.1.1 h.2.2.1 h.2.2.2.1 h.2.2.2.2.1
  exact zF hK
set_option maxRecDepth 100000 in
theorem aCu (os:Os) (started:os.Started) (H:Type) (enc:TypeId×Value→H):
  ReturnsInHanded {} Tryz.checked os 3 .any (Rows.pressChecksSpec.pre6 enc Tryz.prog Tryz.f3 Rows.pressChecksRow.domain false) (Rows.pressChecksSpec.post enc Tryz.prog Tryz.f3 false true false false):=by
 refine returnsInHanded_of_change (C:=Tryz.checked) own started (by kernel_rfl) Tryz.func3 (ChangeSpec.witness6 (enc:=enc) (C:=Tryz.checked) false ⟨#[],#[.slice none 0 0,.bool false,.int .i64 0,.int .i64 0,.int .i64 0],[]⟩ 8 (by kernel_rfl) (by kernel_rfl) (by kernel_rfl) (by kernel_rfl)) ?_
 intro W base args ds gs before hval hW _ _
 refine aHd (ts:=[22,4,3,3,3]) (ks:=[.ks,.kb,.ki,.ki,.ki]) (tb:=4) Tryz.params3 ⟨⟨3,Tryz.underlying22,Tryz.underlying3,by kernel_rfl⟩,Tryz.underlying4,Tryz.underlying3,Tryz.underlying3,Tryz.underlying3,trivial⟩ aDB rfl (by kernel_rfl) Tryz.underlying4 ?_ hval hW
 intro ds hl
 match ds,hl with
 |[d0,d1,d2,d3,d4],_=>rfl
noncomputable abbrev jp (i:Nat):Bool:=jF Tryz.checked.prog 3 Tryz.f3 Rows.pressChecksSpec Rows.pressChecksRow i
theorem j0:jp 0=true:=by kernel_rfl
theorem j1:jp 1=true:=by kernel_rfl
theorem j2:jp 2=true:=by kernel_rfl
theorem j3:jp 3=true:=by kernel_rfl
theorem j4:jp 4=true:=by kernel_rfl
theorem j5:jp 5=true:=by kernel_rfl
theorem j6:jp 6=true:=by kernel_rfl
theorem j7:jp 7=true:=by kernel_rfl
theorem j8:jp 8=true:=by kernel_rfl
theorem j9:jp 9=true:=by kernel_rfl
theorem j10:jp 10=true:=by kernel_rfl
theorem j11:jp 11=true:=by kernel_rfl
theorem j12:jp 12=true:=by kernel_rfl
theorem j13:jp 13=true:=by kernel_rfl
theorem j14:jp 14=true:=by kernel_rfl
theorem j15:jp 15=true:=by kernel_rfl
theorem j16:jp 16=true:=by kernel_rfl
theorem j17:jp 17=true:=by kernel_rfl
theorem j18:jp 18=true:=by kernel_rfl
theorem j19:jp 19=true:=by kernel_rfl
theorem j20:jp 20=true:=by kernel_rfl
theorem j21:jp 21=true:=by kernel_rfl
theorem j22:jp 22=true:=by kernel_rfl
theorem j23:jp 23=true:=by kernel_rfl
theorem j24:jp 24=true:=by kernel_rfl
theorem j25:jp 25=true:=by kernel_rfl
theorem j26:jp 26=true:=by kernel_rfl
theorem j27:jp 27=true:=by kernel_rfl
theorem j28:jp 28=true:=by kernel_rfl
theorem j29:jp 29=true:=by kernel_rfl
theorem j30:jp 30=true:=by kernel_rfl
theorem j31:jp 31=true:=by kernel_rfl
theorem aDo:Rows.pressChecksRow.holds Tryz.pinned (OpenSpec.ofChange Rows.pressChecksSpec):=
 OpenClaim.holds_of_wide 3 Tryz.f3 rfl rfl rfl rfl rfl rfl rfl ⟨rfl,rfl,rfl,rfl,rfl⟩ rfl rfl rfl rfl rfl (by kernel_rfl) Tryz.func3 (aLR (lG j31 (lG j30 (lG j29 (lG j28 (lG j27 (lG j26 (lG j25 (lG j24 (lG j23 (lG j22 (lG j21 (lG j20 (lG j19 (lG j18 (lG j17 (lG j16 (lG j15 (lG j14 (lG j13 (lG j12 (lG j11 (lG j10 (lG j9 (lG j8 (lG j7 (lG j6 (lG j5 (lG j4 (lG j3 (lG j2 (lG j1 (lG j0 (fun i h=>absurd h (Nat.not_lt_zero i)))))))))))))))))))))))))))))))))))
  (of_decide_eq_true (by kernel_rfl)) (by unfold Func.isWrapper;first|(rw [if_pos (by decide+kernel)];kernel_rfl)|(rw [if_neg (by decide+kernel)];exact⟨rfl,rfl⟩))
  (fun os started H enc _=>aCu os started H enc)
theorem pressChecks_holds:Rows.PressChecksSaid:=aDo
#print axioms pressChecks_holds
end Go.Proofs.YtcjdedkdoagifaaGreat
