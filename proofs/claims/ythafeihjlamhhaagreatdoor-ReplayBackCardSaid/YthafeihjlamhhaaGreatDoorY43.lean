/- Parts of the proof of ReplayBack: lemmas, each with its own conditions. -/
import Derived.Test.YthafeihjlamhhaaGreatDoorY41
import Derived.Test.YthafeihjlamhhaaGreatDoorY40
import Derived.Test.YthafeihjlamhhaaGreatDoorY42
set_option maxHeartbeats 64000000
open List renaming getElem?_eq_some_iff → q1Z, getD_eq_getElem?_getD → q2Z, take_of_length_le → q6Z, cons_append → q9Z, replicate → qbZ, mem_of_getElem? → qcZ, length_append → qdZ, mem_cons → qwZ, mem_append → qxZ, getElem?_cons_succ → r9Z, getElem?_cons_zero → raZ, flatten_cons → rcZ, mem_map → reZ, getElem?_range → rfZ, replicate_succ → rvZ
open Option renaming getD_some → rgZ
namespace Go.Proofs.YthafeihjlamhhaaGreatDoor
set_option maxRecDepth 100000
section
open Go
attribute [-simp] zJ zT zk zL zm
theorem zAs{el:List Prim}{ts:List CT}{k:Nat}{xs:List AV}{H:zA}(h:zAR (.row el::ts) k xs H) :
   ∃x ys l n H2,xs=x::ys/\H=.cells false l::H2/\(n=0/\x=.nils\/x=.slice k 0 n el.length false)/\n<=maxLen/\All2 zFF (qbZ n el).flatten l/\zAR ts (k+1) ys H2:=by
 cases xs with
 | nil=>exact h.elim
 | cons x ys =>
   cases H with
   | nil=>exact h.elim
   | cons B H1 =>
     simp only[zAR]at h;obtain⟨⟨l,n,rfl,h3,h4,h5⟩,h6⟩:=h;exact⟨x,ys,l,n,H1,rfl,rfl,h3,h4,h5,h6⟩
theorem zGV:∀{n:Nat} {l:List AV},All2 zFF (qbZ n [Prim.int .u8]).flatten l->∃ls:List Nat,l=ls.map aB/\ls.length=n/\∀c∈ls,c<256
 | 0,[],_=>⟨[],rfl,rfl,by simp⟩
 | n+1,x::l,h=>by
   rw[rvZ,rcZ]at h;obtain⟨a,rfl,ha⟩:=h.1;obtain⟨ls,rfl,hl,h2⟩:=zGV (n:=n) (l:=l) h.2;have hb:=bounds_u8 ha
   refine ⟨a.toNat::ls,by simp[aB];omega,by simp[hl],fun c hc=>?_⟩
   rcases qwZ.1 hc with rfl | hc
   · omega
   · exact h2 c hc
 | 0,_::_,h=>h.elim
 | n+1,[],h=>by
   rw[rvZ,rcZ]at h;exact h.elim
theorem zI6:∀(n k:Nat) (ys:List AV) (H:zA),zAR (qbZ n [CT.row [.int .u8],.one (.int .u32),.one .bool]).flatten k ys H ->
   ∃ds:List Dr,ds.length=n/\zSU ds/\(∀d∈ds,0<=d.2.1/\d.2.1<4294967296)/\H=zCH ds/\∀rn:List Nat,(∀i,i<n->rn[k+i]? = some (k+i))->AWs rn (Zu k ds) ys
 | 0,k,ys,H,h=>by
   obtain⟨rfl,rfl⟩:=zKI h
   exact⟨[],rfl,by simp[zSU],by simp,rfl,fun _ _=>by simp[Zu,AWs]⟩
 | n+1,k,ys,H,h=>by
   rw[rvZ,rcZ]at h;obtain⟨x1,w1,l,m,H3,rfl,rfl,hx,hmx,hl,k1⟩:=zAs h;obtain⟨x2,w2,rfl,⟨na,rfl,hna⟩,k2⟩:=zEB k1;obtain⟨x3,w3,rfl,⟨ga,rfl⟩,k3⟩:=zEB k2;obtain⟨la,rfl,hn,ha⟩:=zGV hl;subst hn;have ba:=bounds_u32 hna;obtain⟨ds,e1,e2,e3,e4,e5⟩:=zI6 n (k+1) w3 H3 k3
   refine ⟨(la,na,ga)::ds,by simp[e1],?_,?_,by simp[zCH,e4],fun rn hr=>?_⟩
   · intro d hd
     rcases qwZ.1 hd with rfl | hd
     · exact⟨ha,by unfold maxLen at hmx;dsimp only;omega⟩
     · exact e2 d hd
   · intro d hd
     rcases qwZ.1 hd with rfl | hd
     · dsimp only;omega
     · exact e3 d hd
   · have h0:=hr 0 (by omega)
     have hrest:=e5 rn fun i hi=>by
       have:=hr (i+1) (by omega)
       rwa [show k+(i+1)=k+1+i by omega]at this
     simp only[Zu,AWs];refine ⟨?_,?_,?_,hrest⟩
     · rcases hx with⟨h1,rfl⟩ | rfl
       · simp[AW,h1]
       · simpa[AW] using h0
     · simp[AW]
     · simp[AW]
end
section
open Go Go.Lib
attribute [-simp] zJ zT zk zL zm
theorem zK1{ds:List Dr}{ys:List AV}{T:zA}{F Fn:List AV}
   (hy:∀rn:List Nat,(∀i,i<ds.length->rn[1+i]? = some (1+i))->AWs rn (Zu 1 ds) ys) (hT:∀B∈T,∃o l,B=ABlk.cells o l/\zP l=true)
   (hF:∀rn:List Nat,(∀i,i<ds.length+1+T.length->rn[i]? = some i)->AWs rn Fn F) :
   Weak (ABlk.cells false ys::zCH ds++T).length F (ABlk.cells false ys::zCH ds++T) Fn (drH ds++T):=by
 have hM:(ABlk.cells false ys::zCH ds++T).length=ds.length+1+T.length:=by simp[zCH];omega
 rw[hM];obtain⟨M,hm⟩:∃M,ds.length+1+T.length=M:=⟨_,rfl⟩;rw[hm]at hM hF ⊢
 have hrn:∀i,i<M->(List.range M)[i]? = some i:=fun i hi=>rfZ hi
 refine Weak.mk' (List.range M) List.nodup_range (by rw[q6Z (by simp)]) (hF _ hrn) (AWg.of _ _ (by simp[zAc];omega) fun i B b hB hb hlt=>?_)
 have hi:i<M:=by
   have:=(q1Z.1 hB).1;rw[qdZ,zAc]at this;omega
 have hbi:b=i:=by rw[rfZ hi]at hb;cases hb;rfl
 subst hbi
 cases b with
 | zero =>
   simp only[drH,q9Z,raZ,Option.some.injEq]at hB;subst hB
   exact⟨id,hy _ fun i hi=>hrn _ (by omega)⟩
 | succ b =>
   simp only[drH,q9Z,r9Z]at hB;rw[q2Z];simp only[q9Z,r9Z,hB,rgZ];rcases qxZ.1 (qcZ hB) with h | h
   · obtain⟨d,_,rfl⟩:=reZ.1 h
     exact⟨id,AWs.refl _ _ (zCs _)⟩
   · obtain⟨o,l,rfl,hl⟩:=hT _ h
     exact⟨id,AWs.refl _ _ hl⟩
theorem zO0{n:Nat}{x:AV}(hx:n=0/\x=.nils\/x=.slice 0 0 n 3 false){rn:List Nat}(h0:rn[0]? = some 0):AW rn (.sl 0 0 n 3 false) x:=by
 rcases hx with⟨h1,rfl⟩ | rfl
 · simp[AW,h1]
 · simp only[AW,true_and]
   exact⟨h0,id⟩
theorem zXj{ds:List Dr}(h:∀d∈ds,0<=d.2.1/\d.2.1<4294967296)(m:Nat):∀e∈dEs (ds.take m),okE e:=fun e he=>by
 obtain⟨d,hd,rfl⟩:=reZ.1 he;have:=h d (List.mem_of_mem_take hd)
 exact zYR d.1 d.2.1 d.2.2 (by simp[okN];omega)
abbrev zW1:List CT:=[.row [.int .u8],.one (.int .u32),.one .bool]
end
end Go.Proofs.YthafeihjlamhhaaGreatDoor
