/- Parts of the proof of WalKeeps: lemmas, each with its own conditions. -/
import Derived.Test.YtpmfecnajoojeaaGreatDoorY16
set_option maxHeartbeats 64000000
open List renaming replicate → qbZ, mem_cons → qwZ, flatten_cons → rcZ, replicate_succ → rvZ
namespace Go.Proofs.YtpmfecnajoojeaaGreatDoor
set_option maxRecDepth 100000
section
open Go Go.Lib
theorem row_u16s:∀{n:Nat} {l:List AV},All2 PrimA (qbZ n [Prim.int .u16]).flatten l→∃zs:List Int,l=numA zs∧zs.length=n∧∀z∈zs,0≤z∧z≤65535
 | 0,[],_=>⟨[],rfl,rfl,by simp⟩
 | n+1,x::l,h=>by
   rw[rvZ,rcZ]at h;obtain⟨a,rfl,ha⟩:=h.1;obtain⟨zs,rfl,hl,hq⟩:=row_u16s (n:=n) (l:=l) h.2;have ba:=bounds_u16 ha
   refine ⟨a::zs,rfl,by simp[hl],fun x hx=>?_⟩
   rcases qwZ.1 hx with rfl | hx
   · exact⟨ba.1,by omega⟩
   · exact hq x hx
 | 0,_::_,h=>h.elim
 | n+1,[],h=>by
   rw[rvZ,rcZ]at h;exact h.elim
end
end Go.Proofs.YtpmfecnajoojeaaGreatDoor
