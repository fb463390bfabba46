/- Parts of the proof of SweepLeaves: lemmas, each with its own conditions. -/
import Derived.Test.YthafeihjlamhhaaGreatDoorY22
set_option maxHeartbeats 64000000
open List renaming length_append → qdZ, mem_cons_self → qhZ, length_map → r7Z, mem_filter → sbZ
open Nat renaming le_refl → qnZ
namespace Go.Proofs.YthafeihjlamhhaaGreatDoor
set_option maxRecDepth 100000
section
open Go Go.Lib
theorem filter_split{α:Type _}(p:α→Bool):∀l:List α,(l.filter fun x=>!p x).length+(l.filter p).length=l.length
 | []=>rfl
 | x::l=>by
   have:=filter_split p l
   cases h:p x <;> simp[h] <;> omega
theorem names_perm{d:DS}(hd:d.down=false)(hc:Core d.fd d.fs){K:List (List UInt8)}(hK:K.Nodup)(h:∀k,(∃n,d.fd.now.get k=some n)↔k∈K):d.list.Perm K :=
 (List.perm_ext_iff_of_nodup (list_nd hd hc) hK).2 fun k=>by rw[list_some hd,h]
theorem orph_none{m:Mf}{l:List (List UInt8)}(h:∀k∈l,lives m k=true):orph m l=[]:=by
 cases ho:orph m l with
 | nil=>rfl
 | cons x xs =>
   have hx:x∈orph m l:=by rw[ho];exact qhZ ..
   obtain⟨h1,h2⟩:=(orph_mem m l x).1 hx;rw[h x h1]at h2;cases h2
theorem sweep_none{m:Mf}{d:DS}(h:∀k∈d.list,lives m k=true):d.sweep m=(d,0,0):=by
 unfold DS.sweep;rw[orph_none h];rfl
theorem orph_count(m:Mf){l K:List (List UInt8)}(h:l.Perm K):(orph m l).length=(K.filter fun k=>!lives m k).length:=by
 unfold orph;rw[(sortU_perm _).length_eq,(h.filter _).length_eq]
theorem map_filter_fst(m:Mf)(F:List (List UInt8×List UInt8)):(F.map Prod.fst).filter (lives m)=(F.filter fun e=>lives m e.1).map Prod.fst:=by
 rw[List.filter_map];rfl
theorem leaves_law(m:Mf)(F:List (List UInt8×List UInt8))(hm:∀e∈F,mayF e.1∧e.2.length≤9)(hnd:(F.map Prod.fst).Nodup)(hF:F.length≤30)(l:List Int) :
   ∃d,DS.ofF F 100=some d∧d.ok 62 9∧∃(d1:DS) (n:Nat),d.sweep m=(d1,n,0)∧n≤30∧d1.ok 124 9∧d1.sweep m=(d1,0,0)∧d1.steps=(if n=0 then 0 else (n:Int)+1) ∧
     (∀e∈F,(d1.restart l).readAt e.1 0 9=if lives m e.1=true then (e.2,0) else ([],9))∧n+(F.filter fun e=>lives m e.1).length=F.length∧(d1.restart l).list.length=(F.filter fun e=>lives m e.1).length:=by
 obtain⟨d,e1,e2,e3,e4,e5,e6,e7,e8,e9⟩:=swof_law F hm hnd 100 (by decide) (by decide) (lives m)
 have hp:=names_perm e6 e8.core hnd e9;have hl:=orph_len m e8 e6;have hc:=calm_sweep m e5 e6
 have ho:=ok_sweep m e2 (L:=30) (by omega)
 obtain⟨g1,g2,g3,g4⟩:=sweep_law m e6 e8;obtain⟨d1,n,e,hs⟩:∃d1 n e,d.sweep m=(d1,n,e):=⟨_,_,_,rfl⟩;rw[hs]at hc ho g1 g2 g3 g4;dsimp only at hc ho g1 g2 g3 g4;rcases g4 with⟨k1,k2,k3,k4,k5,k6⟩ | ⟨k1,k2⟩;rotate_left
 · rw[hc.2]at k2;cases k2
 subst k1
 have live:∀k∈d1.list,lives m k=true:=fun k hk=>((k6 k).1 ((list_some k2 k).1 hk)).2
 have ha:=k5 e7;obtain⟨r1,r2,r3⟩:=SwG.restart ho g2 l;have hnow:=r3 ha;have up:(d1.restart l).down=false:=rfl;have hok:=DS.ok_restart ho l
 refine ⟨d,e1,DS.ok_mono e2 (by omega) (qnZ _),d1,n,hs,by omega,DS.ok_mono ho (by omega) (qnZ _),sweep_none live,?_,fun x hx=>?_,?_,?_⟩
 · rw[k4,e4,←k3]
   split <;> simp <;> omega
 · obtain⟨_,hx2⟩:=hm x hx
   split
   · rename_i hv
     have h9:=(FD.each_now r1.each).1 x hx hv
     have h8:=readAt_cont up h9 (m:=9) (by simpa[PF.now,runs] using hx2)
     simpa[PF.now,runs] using h8
   · rename_i hv
     have h9:cont (d1.restart l).fs (d1.restart l).fd.now x.1=none:=by
       rw[hnow];refine cont_none ?_
       cases hg:NM.get d1.fd.now x.1 with
       | none=>rfl
       | some n=>exact absurd ((k6 x.1).1 ⟨n,hg⟩).2 hv
     exact readAt_none hok up 0 9 h9
 · have h1:=orph_count m hp
   have h2:=filter_split (lives m) (F.map Prod.fst);rw[map_filter_fst,r7Z,r7Z]at h2;omega
 · have hq:=names_perm (d:=d1.restart l) (K:=(F.map Prod.fst).filter (lives m)) up r1.core (hnd.filter _) fun k=>by
     rw[hnow,k6,e9,sbZ]
   rw[hq.length_eq,map_filter_fst,r7Z]
theorem filter_step{α:Type _}(p:α→Bool)(a:List α)(i:Nat)(hi:i<a.length):((a.take (i+1)).filter p).length=((a.take i).filter p).length+(if p a[i]=true then 1 else 0):=by
 rw[List.take_succ_eq_append_getElem hi,List.filter_append,qdZ]
 cases h:p a[i] <;> simp[h]
end
end Go.Proofs.YthafeihjlamhhaaGreatDoor
