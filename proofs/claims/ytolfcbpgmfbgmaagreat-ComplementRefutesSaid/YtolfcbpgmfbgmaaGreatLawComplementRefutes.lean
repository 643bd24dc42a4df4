/-
  The statement ComplementRefutes holds: for every input the law returns true, and its arguments read afterwards as before.
  Without any condition: of the arguments nothing is asked but what the row says of every input.
-/
import Derived.Test.YtolfcbpgmfbgmaaGreatZ7
set_option linter.unusedVariables false
namespace Go.Proofs.YtolfcbpgmfbgmaaGreat
open Go.ChangeShapes Go.WideShapes Go.ChangeAt Go.RowKit
theorem aCr(avs:List AV)(h:aM9 [.ks,.ki,.ki,.ks] avs):Ct Tryz.prog 7 (avs.map AV.vp) (.vc (pB true)):=by
 match avs,h with
 |[.vs f,.vi a1,.vi a2,.vs a3],h=>
  obtain⟨K,e⟩:=aCi h.1.1 h.2.1 h.2.2.1 h.2.2.2.1.1;exact yV e
set_option maxRecDepth 100000 in
theorem aBB(os:Os)(started:os.Started)(H:Type)(enc:TypeId×Value→H):
  ReturnsInHanded {} Tryz.checked os 7 .any (Rows.complementRefutesSpec.pre6 enc Tryz.prog Tryz.f7 Rows.complementRefutesRow.domain false) (Rows.complementRefutesSpec.post enc Tryz.prog Tryz.f7 false true false false):=by
 refine returnsInHanded_of_change (C:=Tryz.checked) own started (by kernel_rfl) Tryz.func7 (ChangeSpec.witness6 (enc:=enc) (C:=Tryz.checked) false ⟨#[],#[.slice none 0 0,.int .i64 0,.int .i64 0,.slice none 0 0],[]⟩ 8 (by kernel_rfl) (by kernel_rfl) (by kernel_rfl) (by kernel_rfl)) ?_;intro W base args ds gs before hval e _ _;refine aJr (ts:=[22,3,3,22]) (ks:=[.ks,.ki,.ki,.ks]) (tb:=4) Tryz.params7 ⟨⟨3,Tryz.underlying22,Tryz.underlying3,by kernel_rfl⟩,Tryz.underlying3,Tryz.underlying3,⟨3,Tryz.underlying22,Tryz.underlying3,by kernel_rfl⟩,trivial⟩ aCr rfl (by kernel_rfl) Tryz.underlying4 ?_ hval e;intro ds f
 match ds,f with
 |[d0,d1,d2,d3],_=>rfl
noncomputable abbrev jp (i:Nat):Bool:=jF Tryz.checked.prog 7 Tryz.f7 Rows.complementRefutesSpec Rows.complementRefutesRow i
theorem j0:jp 0=true:=by kernel_rfl
theorem j1:jp 1=true:=by kernel_rfl
theorem j2:jp 2=true:=by kernel_rfl
theorem j3:jp 3=true:=by kernel_rfl
theorem j4:jp 4=true:=by kernel_rfl
theorem j5:jp 5=true:=by kernel_rfl
theorem j6:jp 6=true:=by kernel_rfl
theorem j7:jp 7=true:=by kernel_rfl
theorem j8:jp 8=true:=by kernel_rfl
theorem j9:jp 9=true:=by kernel_rfl
theorem j10:jp 10=true:=by kernel_rfl
theorem j11:jp 11=true:=by kernel_rfl
theorem j12:jp 12=true:=by kernel_rfl
theorem j13:jp 13=true:=by kernel_rfl
theorem j14:jp 14=true:=by kernel_rfl
theorem j15:jp 15=true:=by kernel_rfl
theorem j16:jp 16=true:=by kernel_rfl
theorem j17:jp 17=true:=by kernel_rfl
theorem j18:jp 18=true:=by kernel_rfl
theorem j19:jp 19=true:=by kernel_rfl
theorem j20:jp 20=true:=by kernel_rfl
theorem j21:jp 21=true:=by kernel_rfl
theorem j22:jp 22=true:=by kernel_rfl
theorem j23:jp 23=true:=by kernel_rfl
theorem j24:jp 24=true:=by kernel_rfl
theorem j25:jp 25=true:=by kernel_rfl
theorem j26:jp 26=true:=by kernel_rfl
theorem j27:jp 27=true:=by kernel_rfl
theorem j28:jp 28=true:=by kernel_rfl
theorem j29:jp 29=true:=by kernel_rfl
theorem j30:jp 30=true:=by kernel_rfl
theorem j31:jp 31=true:=by kernel_rfl
theorem aCs:Rows.complementRefutesRow.holds Tryz.pinned (OpenSpec.ofChange Rows.complementRefutesSpec):=
 OpenClaim.holds_of_wide 7 Tryz.f7 rfl rfl rfl rfl rfl rfl rfl ⟨rfl,rfl,rfl,rfl,rfl⟩ rfl rfl rfl rfl rfl (by kernel_rfl) Tryz.func7 (aN0 (nC j31 (nC j30 (nC j29 (nC j28 (nC j27 (nC j26 (nC j25 (nC j24 (nC j23 (nC j22 (nC j21 (nC j20 (nC j19 (nC j18 (nC j17 (nC j16 (nC j15 (nC j14 (nC j13 (nC j12 (nC j11 (nC j10 (nC j9 (nC j8 (nC j7 (nC j6 (nC j5 (nC j4 (nC j3 (nC j2 (nC j1 (nC j0 (fun i h=>absurd h (Nat.not_lt_zero i)))))))))))))))))))))))))))))))))))
  (of_decide_eq_true (by kernel_rfl)) (by unfold Func.isWrapper;first|(rw[if_pos (by decide+kernel)];kernel_rfl)|(rw[if_neg (by decide+kernel)];exact⟨rfl,rfl⟩))
  (fun os started H enc _=>aBB os started H enc)
theorem complementRefutes_holds:Rows.ComplementRefutesSaid:=aCs
#print axioms complementRefutes_holds
end Go.Proofs.YtolfcbpgmfbgmaaGreat
