/- Parts of the proof of WalTells: lemmas, each with its own conditions. -/
import Derived.Test.YtfhidaoiofeooaaGreatDoorY31
set_option maxHeartbeats 64000000
open List renaming replicate → qbZ, mem_cons → qwZ, flatten_cons → rcZ, replicate_succ → rvZ
namespace Go.Proofs.YtfhidaoiofeooaaGreatDoor
set_option maxRecDepth 100000
section
open Go
attribute [-simp] zH zc zq zK zy
theorem zMB{el:List Prim}{ts:List CT}{k:Nat}{xs:List AV}{H:zA}(h:zDr (.row el::ts) k xs H) :
   ∃x ys l n H2,xs=x::ys/\H=.cells false l::H2/\(n=0/\x=.nils\/x=.slice k 0 n el.length false)/\n<=maxLen/\All2 zE2 (qbZ n el).flatten l/\zDr ts (k+1) ys H2:=by
 cases xs with
 | nil=>exact h.elim
 | cons x ys =>
   cases H with
   | nil=>exact h.elim
   | cons B H1 =>
     simp only[zDr]at h;obtain⟨⟨l,n,rfl,h3,h4,h5⟩,h6⟩:=h;exact⟨x,ys,l,n,H1,rfl,rfl,h3,h4,h5,h6⟩
theorem zLN:∀{n:Nat} {l:List AV},All2 zE2 (qbZ n [Prim.int .u8]).flatten l->∃ls:List Nat,l=ls.map aB/\ls.length=n/\∀c∈ls,c<256
 | 0,[],_=>⟨[],rfl,rfl,by simp⟩
 | n+1,x::l,h=>by
   rw[rvZ,rcZ]at h;obtain⟨a,rfl,ha⟩:=h.1;obtain⟨ls,rfl,hl,h2⟩:=zLN (n:=n) (l:=l) h.2;have hb:=bounds_u8 ha;refine ⟨a.toNat::ls,by simp[aB];omega,by simp[hl],fun c hc=>?_⟩;rcases qwZ.1 hc with rfl | hc
   · omega
   · exact h2 c hc
 | 0,_::_,h=>h.elim
 | n+1,[],h=>by
   rw[rvZ,rcZ]at h;exact h.elim
theorem zKG:∀(n k:Nat) (ys:List AV) (H:zA),zDr (qbZ n [CT.row [.int .u8],.one (.int .u32),.one .bool]).flatten k ys H ->
   ∃ds:List Dr,ds.length=n/\zQn ds/\(∀d∈ds,0<=d.2.1/\d.2.1<4294967296)/\H=zCm ds/\∀rn:List Nat,(∀i,i<n->rn[k+i]? = some (k+i))->AWs rn (Zc k ds) ys
 | 0,k,ys,H,h=>by
   obtain⟨rfl,rfl⟩:=zTO h;exact⟨[],rfl,by simp[zQn],by simp,rfl,fun _ _=>by simp[Zc,AWs]⟩
 | n+1,k,ys,H,h=>by
   rw[rvZ,rcZ]at h;obtain⟨x1,w1,l,m,H3,rfl,rfl,hx,hmx,hl,k1⟩:=zMB h;obtain⟨x2,w2,rfl,⟨na,rfl,hna⟩,k2⟩:=zK6 k1;obtain⟨x3,w3,rfl,⟨ga,rfl⟩,k3⟩:=zK6 k2;obtain⟨la,rfl,hn,ha⟩:=zLN hl;subst hn;have ba:=bounds_u32 hna;obtain⟨ds,e1,e2,e3,e4,e5⟩:=zKG n (k+1) w3 H3 k3;refine ⟨(la,na,ga)::ds,by simp[e1],?_,?_,by simp[zCm,e4],fun rn hr=>?_⟩
   · intro d hd
     rcases qwZ.1 hd with rfl | hd
     · exact⟨ha,by unfold maxLen at hmx;dsimp only;omega⟩
     · exact e2 d hd
   · intro d hd
     rcases qwZ.1 hd with rfl | hd
     · dsimp only;omega
     · exact e3 d hd
   · have h0:=hr 0 (by omega)
     have hrest:=e5 rn fun i hi=>by
       have:=hr (i+1) (by omega)
       rwa [show k+(i+1)=k+1+i by omega]at this
     simp only[Zc,AWs];refine ⟨?_,?_,?_,hrest⟩
     · rcases hx with⟨h1,rfl⟩ | rfl
       · simp[AW,h1]
       · simpa[AW] using h0
     · simp[AW]
     · simp[AW]
end
end Go.Proofs.YtfhidaoiofeooaaGreatDoor
