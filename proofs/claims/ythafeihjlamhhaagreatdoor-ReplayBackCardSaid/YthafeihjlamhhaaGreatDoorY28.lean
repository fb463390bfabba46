/- Parts of the proof of ReplayBack: lemmas, each with its own conditions. -/
import Derived.Test.YthafeihjlamhhaaGreatDoorY7
set_option maxHeartbeats 64000000
open List renaming take_of_length_le → q6Z
namespace Go.Proofs.YthafeihjlamhhaaGreatDoor
open _root_.Go.Proofs.Tryz renaming prog → Pz
set_option maxRecDepth 100000
section
open Go
attribute [-simp] zJ zT zk zL zm
def zE1:zU:=zAP fun
 | [.str s,.str p]=>if p.length<=1000000000000/\s.length<=1000000000000 then some (if s.take p.length=p then .tuple [.str (s.drop p.length),.bool true] else .tuple [.str s,.bool false]) else none
 | _=>none
def zJK:List FuncId:=[219,123]
theorem zMJ:GOk Pz (zAJ Pz (zj []) 0 zJK 2):=zd hmix zE 0 zJK 2
theorem zXi(s p:List UInt8)(_hs:s.length<=1000000000000)(_hp:p.length<=1000000000000) :
   Ct Pz 153 [.str s,.str p] [] (if s.take p.length=p then .tuple [.str (s.drop p.length),.bool true] else .tuple [.str s,.bool false]) []:=by
 by_cases h:s.take p.length=p
 · have hl:p.length<=s.length:=by have:=congrArg List.length h;simp at this;omega
   have hd:(s.drop p.length).take (s.length-p.length)=s.drop p.length:=q6Z (by simp)
   rw[if_pos h]
   refine Zq hmix zMJ (n:=0) Tryz.func153 ?_ (by simp)
   unfold Tryz.f153;simp[zJK,Tryz.f219,Tryz.f123,h,hl,hd]
 · rw[if_neg h]
   refine Zq hmix zMJ (n:=0) Tryz.func153 ?_ (by simp)
   unfold Tryz.f153;by_cases hl:p.length<=s.length
   · simp[zJK,Tryz.f219,Tryz.f123,h,hl]
   · simp[zJK,Tryz.f219,Tryz.f123,hl]
theorem zSG:Sound Pz 153 zE1:=by
 refine zo (zG Tryz.func153 rfl (by decide)) fun args v h=>?_
 split at h <;> try cases h
 rename_i s p
 split at h <;> cases h
 rename_i hc
 exact⟨zXi s p hc.2 hc.1,by simp,by split <;> simp⟩
end
end Go.Proofs.YthafeihjlamhhaaGreatDoor
