/- Parts of the proof of ReplayBack: lemmas, each with its own conditions. -/
import Derived.Test.YthafeihjlamhhaaGreatDoorY29
set_option maxHeartbeats 64000000
namespace Go.Proofs.YthafeihjlamhhaaGreatDoor
set_option maxRecDepth 100000
section
open Go
attribute [-simp] zJ zT zk zL zm
abbrev Sg:=Int×Int×Int
end
section
open Go
end
section
open Go
attribute [-simp] zJ zT zk zL zm
structure Mf where
 v:Int
 f:Int
 n:Int
 segs:List Sg
 deriving DecidableEq
end
section
open Go
end
section
open Go
attribute [-simp] zJ zT zk zL zm
end
section
open Go
attribute [-simp] zJ zT zk zL zm
mutual
theorem zM0(g:Nat->Nat):∀x:AV,free x=true->reA g x=x
 | .top,_ | .bool _,_ | .int _ _,_ | .str _,_ | .nilp,_ | .nils,_ | .nilm,_ | .nilf,_=>rfl
 | .ptr ..,h | .slice ..,h | .sl ..,h | .map _,h | .yld _,h=>by simp[free]at h
 | .func f xs ys,h=>by simp at h;simp[ZS g xs h.1,ZS g ys h.2]
 | .agg l,h=>by simp at h;simp[ZS g l h]
 | .tuple l,h=>by simp at h;simp[ZS g l h]
theorem ZS(g:Nat->Nat):∀xs:List AV,zP xs=true->ZQ g xs=xs
 | [],_=>rfl
 | x::xs,h=>by simp at h;simp[zM0 g x h.1,ZS g xs h.2]
end
end
section
open Go
attribute [-simp] zJ zT zk zL zm
def Mf.fit(m:Mf)(s:List Sg):Prop:=m.segs.length<=1000000/\s.length<=1000000/\-4611686018427387904<=m.v/\m.v<=4611686018427387904/\-4611686018427387904<=m.n/\m.n<=4611686018427387904
instance (m:Mf) (s:List Sg):Decidable (m.fit s):=by unfold Mf.fit;infer_instance
end
section
open Go Go.Lib
end
section
open Go Go.Lib
attribute [-simp] zJ zT zk zL zm
end
section
open Go Go.Lib Go.Sort
attribute [-simp] zJ zT zk zL zm
end
end Go.Proofs.YthafeihjlamhhaaGreatDoor
