/- Parts of the proof of SweepLess: lemmas, each with its own conditions. -/
import Derived.Test.YtpmfecnajoojeaaGreatDoorY18
import Derived.Test.YtpmfecnajoojeaaGreatDoorY17
set_option maxHeartbeats 64000000
namespace Go.Proofs.YtpmfecnajoojeaaGreatDoor
set_option maxRecDepth 100000
section
open Go Go.Lib
attribute [-simp] drawOk_eq adraw qrun acode aops
end
section
open Go Go.Lib
attribute [-simp] drawOk_eq adraw qrun acode aops
noncomputable section
open Classical
end
end
section
open Go Go.Lib
end
section
open Go Go.Lib
attribute [-simp] drawOk_eq adraw qrun acode aops
def flA:List (List UInt8×List UInt8)→List AV
 | []=>[]
 | e::l=>.str e.1::.str e.2::flA l
@[simp] theorem flA_length:∀l,(flA l).length=l.length*2
 | []=>rfl
 | e::l=>by simp[flA,flA_length l];omega
theorem flA_append:∀l m,flA (l++m)=flA l++flA m
 | [],m=>rfl
 | e::l,m=>by simp[flA,flA_append l m]
@[simp] theorem frees_flA:∀l,frees (flA l)=true
 | []=>rfl
 | e::l=>by simp[flA,frees_flA l]
theorem flA_get:∀(l:List (List UInt8×List UInt8)) (k:Nat) (h:k<l.length),((flA l).drop (k*2)).take 2=[.str l[k].1,.str l[k].2]
 | a::l,0,_=>by simp[flA]
 | a::l,k+1,h=>by
   have:=flA_get l k (by simpa using h)
   rw[show (k+1)*2=2+k*2 by omega]
   simp only[flA,List.getElem_cons_succ];rw[←List.drop_drop];simpa using this
end
section
open Go Go.Lib
attribute [-simp] drawOk_eq adraw qrun acode aops
noncomputable section
open Classical
end
end
section
open Go Go.Lib
attribute [-simp] drawOk_eq adraw qrun acode aops
noncomputable section
open Classical
end
end
section
open Go Go.Lib
attribute [-simp] drawOk_eq adraw qrun acode aops
end
end Go.Proofs.YtpmfecnajoojeaaGreatDoor
