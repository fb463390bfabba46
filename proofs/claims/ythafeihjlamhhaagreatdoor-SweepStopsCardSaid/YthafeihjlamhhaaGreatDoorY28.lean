/- Parts of the proof of SweepStops: lemmas, each with its own conditions. -/
import Derived.Lib.BitFns
import Derived.RegionTactic
import Derived.BigQuiet
import Derived.Deep.QuietTactic
import Derived.Deep.RegionWith
import Derived.Test.YthafeihjlamhhaaGreatDoorY8
set_option maxHeartbeats 64000000
open List renaming getD_eq_getElem?_getD → q2Z, getElem?_eq_getElem → q3Z, length_cons → q7Z, length_take → qjZ, length_drop → qkZ
open Nat renaming lt_of_lt_of_le → rlZ
namespace Vy
open Go
def blen(n:Nat):Nat:=(Lib.bitLen n+7) / 8
def le:Nat→Nat→List UInt8
 | 0,_=>[]
 | m+1,n=>UInt8.ofNat (n % 256)::le m (n / 256)
theorem le_length(m n:Nat):(le m n).length=m:=by
 induction m generalizing n with
 | zero=>rfl
 | succ m ih=>simp[le,ih]
def val:List UInt8→Nat
 | []=>0
 | b::r=>b.toNat+256*val r
theorem val_lt(l:List UInt8):val l<256 ^ l.length:=by
 induction l with
 | nil=>simp[val]
 | cons b r ih =>
   have:=UInt8.toNat_lt b;simp only[val,q7Z,Nat.pow_succ];omega
theorem le_val(l:List UInt8):le l.length (val l)=l:=by
 induction l with
 | nil=>rfl
 | cons b r ih =>
   have hb:=UInt8.toNat_lt b;simp only[q7Z,le,val]
   have h1:(b.toNat+256*val r) % 256=b.toNat:=by omega
   have h2:(b.toNat+256*val r) / 256=val r:=by omega
   rw[h1,h2,ih];simp
def enc(n:Nat):List UInt8:=if n<248 then [UInt8.ofNat n] else UInt8.ofNat (247+blen n)::le (blen n) n
def size(n:Nat):Nat:=if n<248 then 1 else 1+blen n
theorem enc_length(n:Nat):(enc n).length=size n:=by
 unfold enc size
 split <;> simp[le_length,Nat.add_comm]
def put(l:List Nat):List UInt8:=l.flatMap enc
def lb(n j:Nat):Nat:=((enc n).getD j 0).toNat
def get(s:List UInt8)(at_:Int):Nat×Int×Int :=
 if at_<0∨(s.length:Int)≤at_ then (0,at_,3) else
 let k:=at_.toNat
 let b:=(s.getD k 0).toNat
 if b<248 then (b,at_+1,0) else
 if s.length-k≤b-247 then (0,at_,3) else
 let n:=val ((s.drop (k+1)).take (b-247))
 if size n=1+(b-247) then (n,at_+1+(b-247:Nat),0) else (0,at_,5)
def row(s:List UInt8)(a:Int):Nat→List Nat×Int×Int
 | 0=>([],a,0)
 | m+1=>if (get s a).2.2=0 then
     (if (row s (get s a).2.1 m).2.2=0 then ((get s a).1::(row s (get s a).2.1 m).1,(row s (get s a).2.1 m).2) else ([],(row s (get s a).2.1 m).2))
   else ([],(get s a).2)
theorem enc_of(s:List UInt8)(k m:Nat)(h:k<s.length)(hm:(s[k]).toNat=m+247)(h1:1≤m)(hs:m<s.length-k) :
   enc (val ((s.drop (k+1)).take m))=(s.drop k).take (1+m)↔size (val ((s.drop (k+1)).take m))=1+m:=by
 have hl:((s.drop (k+1)).take m).length=m:=by rw[qjZ,qkZ];omega
 have hd:(s.drop k).take (1+m)=s[k]::(s.drop (k+1)).take m:=by
   rw[List.drop_eq_getElem_cons h,Nat.add_comm 1 m,List.take_succ_cons]
 constructor
 · intro e
   have:=congrArg List.length e;rw[enc_length,hd,q7Z,hl]at this;omega
 · intro e
   rw[hd];unfold size at e;split at e
   · omega
   · rename_i hn
     unfold enc;rw[if_neg hn]
     have hb:blen (val ((s.drop (k+1)).take m))=m:=by omega
     rw[hb];have h3:=le_val ((s.drop (k+1)).take m);rw[hl]at h3;rw[h3]
     congr 1
     have:s[k]=UInt8.ofNat (247+m):=by
       rw[Nat.add_comm,←hm];simp
     exact this.symm
end Vy
namespace Vy
theorem get_put(s:List UInt8)(p:Nat)(v:Nat)(x:Int)(h:get s p=(v,x,0)):enc v=(s.drop p).take (x.toNat-p)∧v<2 ^ 64:=by
 unfold get at h;split at h
 · simp only[Prod.mk.injEq]at h;omega
 · rename_i h1
   have hp:p<s.length:=by omega
   have hg:s.getD p 0=s[p]:=by rw[q2Z,q3Z hp];rfl
   simp only[Int.toNat_natCast,hg]at h;split at h
   · rename_i h2
     simp only[Prod.mk.injEq]at h;obtain⟨rfl,rfl,_⟩:=h
     have e:((p:Int)+1).toNat-p=1:=by
       show (((p+1:Nat):Int)).toNat-p=1
       rw[Int.toNat_natCast];omega
     rw[e,List.drop_eq_getElem_cons hp]
     exact⟨by rw[List.take_succ_cons,List.take_zero];simp[enc,h2],rlZ h2 (by decide)⟩
   · rename_i h2
     split at h
     · simp only[Prod.mk.injEq]at h;omega
     · rename_i h3
       split at h
       · rename_i h4
         have h8:=UInt8.toNat_lt s[p]
         obtain⟨m,hm⟩:∃m,s[p].toNat=m+247:=⟨s[p].toNat-247,by omega⟩
         rw[hm]at h h3 h4 h8;rw[Nat.add_sub_cancel]at h h3 h4;simp only[Prod.mk.injEq]at h;obtain⟨rfl,rfl,_⟩:=h
         have:=(enc_of s p m hp hm (by omega) (by omega)).2 h4
         have e:((p:Int)+1+(m:Nat)).toNat-p=1+m:=by
           show (((p+1+m:Nat):Int)).toNat-p=1+m
           rw[Int.toNat_natCast];omega
         rw[e];refine ⟨this,?_⟩;have hv:=val_lt ((s.drop (p+1)).take m)
         have hq:((s.drop (p+1)).take m).length≤8:=by rw[qjZ];omega
         have h9:(256:Nat) ^ ((s.drop (p+1)).take m).length≤256 ^ 8:=Nat.pow_le_pow_right (by decide) hq
         exact rlZ hv h9
       · simp only[Prod.mk.injEq]at h;omega
end Vy
namespace Go.Proofs.YthafeihjlamhhaaGreatDoor
open Go.RowKit
end Go.Proofs.YthafeihjlamhhaaGreatDoor
namespace Go.Proofs.YthafeihjlamhhaaGreatDoor
open Go
end Go.Proofs.YthafeihjlamhhaaGreatDoor
namespace Go.Proofs.YthafeihjlamhhaaGreatDoor
def Cr.tab:List Nat:=[0,498536548,997073096,651767980,1994146192,1802195444,1303535960,1342533948,3988292384,4027552580,3604390888,3412177804,2607071920,2262029012,2685067896,3183342108]
@[simp] theorem Cr.tab_length:Cr.tab.length=16:=rfl
def Cr.bit(n b:Nat):Nat:=if n % 2=b then n / 2 else (n / 2) ^^^ 3988292384
def Cr.bits:Nat→Nat→Nat→Nat
 | 0,n,_=>n
 | k+1,n,c=>Cr.bits k (Cr.bit n (c % 2)) (c / 2)
end Go.Proofs.YthafeihjlamhhaaGreatDoor
namespace Go.Proofs.YthafeihjlamhhaaGreatDoor
open Go
set_option maxRecDepth 100000
end Go.Proofs.YthafeihjlamhhaaGreatDoor
namespace Go.Proofs.YthafeihjlamhhaaGreatDoor
end Go.Proofs.YthafeihjlamhhaaGreatDoor
namespace Go.Proofs.YthafeihjlamhhaaGreatDoor
open Go
set_option maxRecDepth 100000
attribute [-simp] drawOk_eq adraw qrun acode aops
def sgNums:List Sg→List Nat
 | []=>[]
 | s::l=>[s.1.toNat,s.2.1.toNat,s.2.2.toNat]++sgNums l
@[simp] theorem sgNums_length:∀l,(sgNums l).length=l.length*3
 | []=>rfl
 | s::l=>by simp[sgNums,sgNums_length l];omega
end Go.Proofs.YthafeihjlamhhaaGreatDoor
