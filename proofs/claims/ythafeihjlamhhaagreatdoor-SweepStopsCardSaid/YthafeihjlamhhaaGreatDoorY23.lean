/- Parts of the proof of SweepStops: lemmas, each with its own conditions. -/
import Derived.Test.YthafeihjlamhhaaGreatDoorY22
set_option maxHeartbeats 64000000
open Nat renaming le_refl → qnZ
open Bool renaming false_eq_true → qsZ
open List renaming mem_map → reZ
namespace Go.Proofs.YthafeihjlamhhaaGreatDoor
set_option maxRecDepth 100000
section
open Go Go.Lib
theorem sortU_congr{l l':List (List UInt8)}(h:l.Perm l'):sortU l=sortU l':=(sortU_eq (List.Perm.refl l)).symm.trans (sortU_eq h)
def cleanD(d:DS)(m:Mf):Bool:=m.segs.all (fun g=>decide (mk 4 g.1∈d.list))&&decide ((orph m d.list).length=0)
theorem stops_law(m:Mf)(F:List (List UInt8×List UInt8))(hm:∀e∈F,mayF e.1∧e.2.length≤9)(hnd:(F.map Prod.fst).Nodup)(hF:F.length≤30)(t:Int)(t0:0≤t)(t1:t≤100)(l:List Int) :
   ∃d,DS.ofF F 100=some d∧d.ok 62 9∧∃(w:DS) (n:Nat),d.sweep m=(w,n,0)∧n≤30∧w.ok 124 9 ∧
     ∃(d1:DS) (k:Nat) (e:Int),(d.arm t).sweep m=(d1,k,e)∧(e=0∧d1.down=false∨e=13∧d1.down=true)∧k≤F.length∧d1.ok 124 9∧w.list.length≤30 ∧
     (∀k∈w.list,∃z,(d1.restart l).size k=(z,0))∧∃(d2:DS) (j:Nat),(d1.restart l).sweep m=(d2,j,0)∧j≤30∧d2.ok 186 9∧d2.list=w.list:=by
 obtain⟨d,e1,e2,e3,e4,e5,e6,e7,e8,e9⟩:=swof_law F hm hnd 100 (by decide) (by decide) (lives m)
 have hl:=orph_len m e8 e6;have hc:=calm_sweep m e5 e6
 have ho:=ok_sweep m e2 (L:=30) (by omega)
 obtain⟨g1,g2,g3,g4⟩:=sweep_law m e6 e8;obtain⟨w,n,e,hs⟩:∃d1 n e,d.sweep m=(d1,n,e):=⟨_,_,_,rfl⟩;rw[hs]at hc ho g1 g2 g3 g4;dsimp only at hc ho g1 g2 g3 g4;rcases g4 with⟨k1,k2,k3,k4,k5,k6⟩ | ⟨k1,k2⟩;rotate_left
 · rw[hc.2]at k2;cases k2
 subst k1
 have wn:∀k,k∈w.list↔k∈F.map Prod.fst∧lives m k=true:=fun k=>by rw[list_some k2,k6,e9]
 have ha2:=DS.ok_arm e2 t (by omega)
 have hla:(orph m (d.arm t).list).length≤30:=by
   have:(d.arm t).list=d.list:=rfl
   rw[this];omega
 have ho2:=ok_sweep m ha2 (L:=30) hla;obtain⟨p1,p2,p3,p4⟩:=sweep_law (d:=d.arm t) m e6 e8;obtain⟨d1,k,e,hs1⟩:∃d1 n e,(d.arm t).sweep m=(d1,n,e):=⟨_,_,_,rfl⟩;rw[hs1]at ho2 p1 p2 p3 p4;dsimp only at ho2 p1 p2 p3 p4;obtain⟨r1,r2,r3⟩:=SwG.restart ho2 p2 l;have hok:=DS.ok_restart ho2 l;have up:(d1.restart l).down=false:=rfl
 have there:∀k,k∈F.map Prod.fst→lives m k=true→∃n,(d1.restart l).fd.now.get k=some n:=fun k hk hv=>by
   obtain⟨x,hx,rfl⟩:=reZ.1 hk;obtain⟨n,h1,_⟩:=cont_get ((FD.each_now r1.each).1 x hx hv);exact⟨n,h1⟩
 have sub:∀k,(∃n,(d1.restart l).fd.now.get k=some n)→k∈F.map Prod.fst:=fun k ⟨n,hn⟩=>by
   obtain⟨b,h1,_⟩:=(FD.each_now r1.each).2 k n hn;exact reZ.2 ⟨_,h1,rfl⟩
 have hc2:=calm_sweep (d:=d1.restart l) m rfl up;have hl2:=orph_len m r1 up
 have ho3:=ok_sweep m hok (L:=30) (by omega)
 obtain⟨q1,q2,q3,q4⟩:=sweep_law (d:=d1.restart l) m up r1;obtain⟨d2,j,e',hs2⟩:∃x n e,(d1.restart l).sweep m=(x,n,e):=⟨_,_,_,rfl⟩;rw[hs2]at hc2 ho3 q1 q2 q3 q4;dsimp only at hc2 ho3 q1 q2 q3 q4;rcases q4 with⟨v1,v2,v3,v4,v5,v6⟩ | ⟨v1,v2⟩;rotate_left
 · rw[hc2.2]at v2;cases v2
 subst v1
 have wl:w.list.length≤30:=by
   have:=nd_len (list_nd k2 g2.core) (b:=F.map Prod.fst) fun x hx=>((wn x).1 hx).1
   simp at this;omega
 refine ⟨d,e1,DS.ok_mono e2 (by omega) (qnZ _),w,n,hs,by omega,DS.ok_mono ho (by omega) (qnZ _),d1,k,e,hs1,?_,p3,DS.ok_mono ho2 (by omega) (qnZ _),wl,fun k hk=>?_,d2,j,hs2,by omega,DS.ok_mono ho3 (by omega) (qnZ _),?_⟩
 · rcases p4 with⟨h1,h2,_⟩ | ⟨h1,h2⟩
   · exact .inl ⟨h1,h2⟩
   · exact .inr ⟨h1,h2⟩
 · obtain⟨h1,h2⟩:=(wn k).1 hk
   obtain⟨n,hn⟩:=there k h1 h2;obtain⟨f,hf,_⟩:=DS.has_file hok hn;unfold DS.size;rw[up,hn];simp only[qsZ,if_false];rw[hf];exact⟨_,rfl⟩
 · -- sorted rows of the same names
   have hp:d2.list.Perm w.list:=(List.perm_ext_iff_of_nodup (list_nd v2 q2.core) (list_nd k2 g2.core)).2 fun k=>by
     rw[wn,list_some v2,v6];constructor
     · rintro⟨a,b⟩;exact⟨sub k a,b⟩
     · rintro⟨a,b⟩;exact⟨there k a b,b⟩
   unfold DS.list at hp ⊢;rw[v2,k2]at hp ⊢;simp only[qsZ,if_false]at hp ⊢;unfold FD.names at hp ⊢;exact sortU_congr (((sortU_perm _).symm.trans hp).trans (sortU_perm _))
end
end Go.Proofs.YthafeihjlamhhaaGreatDoor
