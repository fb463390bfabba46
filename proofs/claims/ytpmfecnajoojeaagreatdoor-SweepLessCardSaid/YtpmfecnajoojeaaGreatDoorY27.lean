/- Parts of the proof of SweepLess: lemmas, each with its own conditions. -/
import Derived.Lib.BitFns
import Derived.RegionTactic
import Derived.BigQuiet
import Derived.Deep.QuietTactic
import Derived.Deep.RegionWith
import Derived.Test.YtpmfecnajoojeaaGreatDoorY8
set_option maxHeartbeats 64000000
namespace Vy
open Go
def blen(n:Nat):Nat:=(Lib.bitLen n+7) / 8
def le:Nat→Nat→List UInt8
 | 0,_=>[]
 | m+1,n=>UInt8.ofNat (n % 256)::le m (n / 256)
def val:List UInt8→Nat
 | []=>0
 | b::r=>b.toNat+256*val r
def enc(n:Nat):List UInt8:=if n<248 then [UInt8.ofNat n] else UInt8.ofNat (247+blen n)::le (blen n) n
def size(n:Nat):Nat:=if n<248 then 1 else 1+blen n
def put(l:List Nat):List UInt8:=l.flatMap enc
def lb(n j:Nat):Nat:=((enc n).getD j 0).toNat
def get(s:List UInt8)(at_:Int):Nat×Int×Int :=
 if at_<0∨(s.length:Int)≤at_ then (0,at_,3) else
 let k:=at_.toNat
 let b:=(s.getD k 0).toNat
 if b<248 then (b,at_+1,0) else
 if s.length-k≤b-247 then (0,at_,3) else
 let n:=val ((s.drop (k+1)).take (b-247))
 if size n=1+(b-247) then (n,at_+1+(b-247:Nat),0) else (0,at_,5)
def row(s:List UInt8)(a:Int):Nat→List Nat×Int×Int
 | 0=>([],a,0)
 | m+1=>if (get s a).2.2=0 then
     (if (row s (get s a).2.1 m).2.2=0 then ((get s a).1::(row s (get s a).2.1 m).1,(row s (get s a).2.1 m).2) else ([],(row s (get s a).2.1 m).2))
   else ([],(get s a).2)
end Vy
namespace Vy
end Vy
namespace Go.Proofs.YtpmfecnajoojeaaGreatDoor
open Go.RowKit
end Go.Proofs.YtpmfecnajoojeaaGreatDoor
namespace Go.Proofs.YtpmfecnajoojeaaGreatDoor
open Go
end Go.Proofs.YtpmfecnajoojeaaGreatDoor
namespace Go.Proofs.YtpmfecnajoojeaaGreatDoor
def Cr.bit(n b:Nat):Nat:=if n % 2=b then n / 2 else (n / 2) ^^^ 3988292384
def Cr.bits:Nat→Nat→Nat→Nat
 | 0,n,_=>n
 | k+1,n,c=>Cr.bits k (Cr.bit n (c % 2)) (c / 2)
end Go.Proofs.YtpmfecnajoojeaaGreatDoor
namespace Go.Proofs.YtpmfecnajoojeaaGreatDoor
open Go
set_option maxRecDepth 100000
end Go.Proofs.YtpmfecnajoojeaaGreatDoor
namespace Go.Proofs.YtpmfecnajoojeaaGreatDoor
end Go.Proofs.YtpmfecnajoojeaaGreatDoor
namespace Go.Proofs.YtpmfecnajoojeaaGreatDoor
open Go
set_option maxRecDepth 100000
attribute [-simp] drawOk_eq adraw qrun acode aops
end Go.Proofs.YtpmfecnajoojeaaGreatDoor
