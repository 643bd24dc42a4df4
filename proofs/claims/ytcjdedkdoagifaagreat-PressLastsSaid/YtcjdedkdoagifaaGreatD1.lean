/- How the data of the program lie in cells. -/
import Derived.Test.YtcjdedkdoagifaaGreatK11
set_option linter.unusedVariables false
namespace Go.Proofs.YtcjdedkdoagifaaGreat
def cI:Cd Int:=⟨1,fun x=>[pI .i64 x],fun _=>rfl⟩
def sH {α:Type} (C:Cd α):Cd (List α):=⟨1,fun x=>[pS C x],fun _=>rfl⟩
structure aP where
 neg:Bool
 d:List Int
 deriving DecidableEq,Inhabited
def aP.e (x:aP):List CP:=[pB x.neg,pS cI x.d]
def aP.c:Cd aP:=⟨2,aP.e,fun _=>rfl⟩
structure cB where
 p:aP
 q:aP
 deriving DecidableEq,Inhabited
def cB.e (x:cB):List CP:=[pB x.p.neg,pS cI x.p.d,pB x.q.neg,pS cI x.q.d]
def cB.c:Cd cB:=⟨4,cB.e,fun _=>rfl⟩
theorem mkB {P:Program} {t:Nat} {z:Value} {fs:Array Field} {pl:List (Nat×Nat)} {zs:List CP} (hz:(P.info? t).map (·.zero)=some (some z)) (hu:P.underlying t=some (.struct fs))
  (hp:fs.toList.mapM (fun f=>(P.info? f.type).map fun i=>(f.offset,i.size))=some pl) (hzs:∀M,bR M zs z.cells.toList):TyB P t pl zs:=by
 refine⟨z,(pl.toArray[·]?),fun parts=>?_,fun i _=>by simp,hzs⟩
 cases hi:P.info? t with
 |none=>rw [hi] at hz;simp at hz
 |some it=>
  rw [hi] at hz
  simp only [Option.map_some,Option.some.injEq] at hz
  simp only [Program.built,hi,hu,hz,hp]
end Go.Proofs.YtcjdedkdoagifaaGreat
