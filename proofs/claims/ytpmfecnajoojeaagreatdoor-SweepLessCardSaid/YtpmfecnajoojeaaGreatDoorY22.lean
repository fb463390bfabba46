/- Parts of the proof of SweepLess: lemmas, each with its own conditions. -/
import Derived.Test.YtpmfecnajoojeaaGreatDoorY21
set_option maxHeartbeats 64000000
open List renaming getElem?_append_right → q5Z, mem_of_getElem? → qcZ, length_append → qdZ, take_append_drop → r6Z, mem_filter → sbZ
open Nat renaming le_refl → qnZ
open Bool renaming false_eq_true → qsZ
namespace Go.Proofs.YtpmfecnajoojeaaGreatDoor
set_option maxRecDepth 100000
section
open Go Go.Lib
theorem orph_count(m:Mf){l K:List (List UInt8)}(h:l.Perm K):(orph m l).length=(K.filter fun k=>!lives m k).length:=by
 unfold orph;rw[(sortU_perm _).length_eq,(h.filter _).length_eq]
open Go.RowKit Go.Maps Go.Sort in
theorem orph_less{m n:Mf}(h:∀s,lives m s=true→lives n s=true)(l:List (List UInt8)):orph n l=(orph m l).filter fun s=>!lives n s:=by
 have hp:(orph n l).Perm ((orph m l).filter fun s=>!lives n s):=by
   unfold orph;refine (sortU_perm _).trans (List.Perm.trans ?_ ((sortU_perm _).filter _).symm);rw[List.filter_filter]
   refine List.Perm.of_eq (List.filter_congr fun s _=>?_)
   cases h1:lives m s with
   | true=>simp[h s h1]
   | false=>simp
 refine List.Perm.eq_of_pairwise (le:=fun a b=>leB a b=true) (fun a b _ _ h1 h2=>?_) (sortU_sorted _) ((sortU_sorted _).filter _) hp
 simp only[leB,decide_eq_true_eq]at h1 h2;exact List.le_antisymm h1 h2
theorem filter_step{α:Type _}(p:α→Bool)(a:List α)(i:Nat)(hi:i<a.length):((a.take (i+1)).filter p).length=((a.take i).filter p).length+(if p a[i]=true then 1 else 0):=by
 rw[List.take_succ_eq_append_getElem hi,List.filter_append,qdZ]
 cases h:p a[i] <;> simp[h]
theorem filter_at{α:Type _}[DecidableEq α](p:α→Bool){a:List α}(hnd:a.Nodup)(i:Nat)(hi:i<a.length):(a.filter p)[((a.take i).filter p).length]? = some a[i]↔p a[i]=true:=by
 have e:a=a.take i++a[i]::a.drop (i+1):=by rw[←List.drop_eq_getElem_cons hi,r6Z]
 have e2:a.filter p=(a.take i).filter p++(a[i]::a.drop (i+1)).filter p:=by
   conv=>lhs;rw[e]
   rw[List.filter_append]
 rw[e2,q5Z (qnZ _),Nat.sub_self]
 cases hp:p a[i] with
 | true=>rw[List.filter_cons_of_pos hp];simp
 | false =>
   simp only[List.filter_cons,hp,qsZ,if_false,iff_false];intro h;have hm:a[i]∈(a.drop (i+1)).filter p:=qcZ h;have hm2:=(sbZ.1 hm).2;rw[hp]at hm2;cases hm2
end
end Go.Proofs.YtpmfecnajoojeaaGreatDoor
