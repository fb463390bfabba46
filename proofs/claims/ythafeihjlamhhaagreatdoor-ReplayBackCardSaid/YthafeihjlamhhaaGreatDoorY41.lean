/- Parts of the proof of ReplayBack: lemmas, each with its own conditions. -/
import Derived.Test.YthafeihjlamhhaaGreatDoorY32
set_option maxHeartbeats 64000000
open List renaming getElem?_eq_some_iff → q1Z, getD_eq_getElem?_getD → q2Z, getElem?_append_left → q4Z, mem_of_getElem? → qcZ, length_append → qdZ, mem_cons_self → qhZ, mem_cons_of_mem → qiZ, mem_cons → qwZ, mem_map → reZ, getElem?_range → rfZ, map_cons → s1Z
namespace Go.Proofs.YthafeihjlamhhaaGreatDoor
open _root_.Go.Proofs.Tryz renaming prog → Pz
set_option maxRecDepth 100000
section
open Go
attribute [-simp] zJ zT zk zL zm
theorem zIW:∀(ds ds':List Dr) (k:Nat),ds.length=ds'.length->Zu k ds=Zu k ds'->zCH ds=zCH ds'->ds=ds'
 | [],[],_,_,_,_=>rfl
 | [],_::_,_,h,_,_=>by simp at h
 | _::_,[],_,h,_,_=>by simp at h
 | (l,n,g)::ds,(l',n',g')::ds',k,hl,hc,hb=>by
   simp only[Zu,List.cons.injEq,AV.sl.injEq,AV.int.injEq,AV.bool.injEq,true_and,and_true]at hc;simp only[zCH,s1Z,List.cons.injEq,ABlk.cells.injEq,true_and]at hb;obtain⟨_,rfl,rfl,hc⟩:=hc
   have hll:l=l':=by
     have:=congrArg (zAx .u8) hb.1;simpa[zKM] using this
   subst hll
   rw[zIW ds ds' (k+1) (by simpa using hl) hc hb.2]
theorem zVy{ds ds':List Dr}{T T':zA}(hl:ds.length=ds'.length)(h:drH ds++T=drH ds'++T'):ds=ds':=by
 obtain⟨h1,_⟩:=List.append_inj h (by rw[zAc,zAc,hl])
 simp only[drH,List.cons.injEq,ABlk.cells.injEq,true_and]at h1;exact zIW ds ds' 1 hl h1.1 h1.2
def DrAt(args:List AV)(H:zA)(ds:List Dr)(m:Nat):Prop :=
 args=[.sl 0 0 ds.length 3 false,.int .i64 m]/\(∃T,H=drH ds++T)/\m<=100/\zSU ds/\ds.length<=9223372036854775807
theorem DrAt.uniq{args:List AV}{H:zA}{ds ds':List Dr}{m m':Nat}(h:DrAt args H ds m)(h':DrAt args H ds' m'):ds=ds'/\m=m':=by
 obtain⟨h1,⟨T,h2⟩,_⟩:=h;obtain⟨g1,⟨T',g2⟩,_⟩:=h';rw[h1]at g1;simp only[List.cons.injEq,AV.sl.injEq,AV.int.injEq,and_true,true_and]at g1
 exact⟨zVy g1.1 (h2▸g2),by omega⟩
open Classical in
noncomputable def zCo:zU:=fun args H =>
 if h:∃ds m,DrAt args H ds m then some (.sl H.length 0 (dEs (h.choose.take h.choose_spec.choose)).length 3 false,H++[.cells true (zM (dEs (h.choose.take h.choose_spec.choose)))],[]) else none
theorem zNV{args:List AV}{H:zA}{ds:List Dr}{m:Nat}(h:DrAt args H ds m) :
   zCo args H=some (.sl H.length 0 (dEs (ds.take m)).length 3 false,H++[.cells true (zM (dEs (ds.take m)))],[]):=by
 have h0:∃ds m,DrAt args H ds m:=⟨ds,m,h⟩;obtain⟨e1,e2⟩:=h0.choose_spec.choose_spec.uniq h;unfold zCo;rw[dif_pos h0,e2,e1]
theorem zG9(g:Nat->Nat):∀(H:zA) (em:List Nat) (H0 H1:zA),(∀B∈H0,B.own=false)->zX g H em H0 H1=H
 | H,[],_,_,_=>by simp[zX]
 | H,_::_,[],_,_=>by simp[zX]
 | H,_::_,_::_,[],_=>by simp[zX]
 | H,e::em,B0::H0,B1::H1,h=>by
   unfold zX
   rw[if_neg (by rw[h B0 (qhZ ..)];decide),zG9 g H em H0 H1 fun B hB=>h B (qiZ _ hB)]
theorem zNu(g:Nat->Nat):∀es:List En,ZQ g (zM es)=zM es
 | []=>rfl
 | e::es=>by
   have:=zNu g es;simp[zM,enA]at this ⊢;exact this
theorem zWE(ds:List Dr)(T:zA):AWh (List.range (ds.length+1)) (drH ds++T) (drH ds) (List.range (ds.length+1)):=by
 have hN:=zAc ds
 refine AWh.of _ _ (by simp[hN]) fun i x b hx hb=>?_
 have hi:i<ds.length+1:=by rw[<-hN];exact (q1Z.1 hx).1
 have hbi:b=i:=by rw[rfZ hi]at hb;cases hb;rfl
 subst hbi
 rw[q2Z,q4Z (by omega),hx]
 obtain⟨o,l,rfl,hl⟩:=zFT ds x (qcZ hx)
 exact⟨⟨id,AWs.pre (fun i hi=>rfZ hi) l hl⟩,by rw[qdZ];omega⟩
theorem zPo(ds:List Dr)(T:zA)(m:Nat)(hm:m<=100)(hd:zSU ds)(hl:ds.length<=9223372036854775807) :
   Ct Pz 16 [.sl 0 0 ds.length 3 false,.int .i64 m] (drH ds++T) (.sl (drH ds++T).length 0 (dEs (ds.take m)).length 3 false) ((drH ds++T)++[.cells true (zM (dEs (ds.take m)))]):=by
 have h:=zz (args:=[.sl 0 0 ds.length 3 false,.int .i64 m]) (H:=drH ds++T) (zPR ds m hm hd hl) (List.range (ds.length+1)) List.nodup_range (by simp[AWs,AW]) (zWE ds T) (by rw[List.drop_left];rfl)
 rw[zG9 _ _ _ _ _ (by
   intro B hB;obtain⟨o,l,rfl,_⟩:=zFT ds B hB;rcases qwZ.1 hB with h | h
   · cases h;rfl
   · obtain⟨d,_,h⟩:=reZ.1 h
     cases h;rfl),List.drop_left]at h
 simpa[reA,reB,Zd,zNu] using h
theorem zJk:Sound Pz 16 zCo:=by
 refine ⟨zG Tryz.func16 rfl (by decide),fun args H v H' W hs=>?_,fun args H v H' W hs=>?_⟩ <;> (unfold zCo at hs;split at hs <;> cases hs)
 · rename_i h0
   have h1:=h0.choose_spec.choose_spec;generalize h0.choose_spec.choose=m at h1 ⊢;generalize h0.choose=ds at h1 ⊢;obtain⟨rfl,⟨T,rfl⟩,hm,hd,hl⟩:=h1;exact zPo ds T m hm hd hl
 · exact⟨by simp,fun b hb _=>by rw[q4Z hb]⟩
end
end Go.Proofs.YthafeihjlamhhaaGreatDoor
