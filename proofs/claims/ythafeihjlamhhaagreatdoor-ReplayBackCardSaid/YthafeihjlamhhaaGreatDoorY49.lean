/- Parts of the proof of ReplayBack: lemmas, each with its own conditions. -/
import Derived.Test.YthafeihjlamhhaaGreatDoorY48
set_option maxHeartbeats 64000000
open List renaming replicate → qbZ, mem_cons → qwZ, flatten_cons → rcZ, not_mem_nil → rtZ, replicate_succ → rvZ
namespace Go.Proofs.YthafeihjlamhhaaGreatDoor
open _root_.Go.Proofs.Tryz renaming prog → Pz
set_option maxRecDepth 100000
section
open Go Go.Lib
theorem zF6:∀{n:Nat} {l:List AV},All2 zFF (qbZ n [Prim.int .u16]).flatten l->∃zs:List Int,l=Z2 zs/\zs.length=n/\∀z∈zs,0<=z/\z<=65535
 | 0,[],_=>⟨[],rfl,rfl,by simp⟩
 | n+1,x::l,h=>by
   rw[rvZ,rcZ]at h;obtain⟨a,rfl,ha⟩:=h.1;obtain⟨zs,rfl,hl,hq⟩:=zF6 (n:=n) (l:=l) h.2;have ba:=bounds_u16 ha
   refine ⟨a::zs,rfl,by simp[hl],fun x hx=>?_⟩
   rcases qwZ.1 hx with rfl | hx
   · exact⟨ba.1,by omega⟩
   · exact hq x hx
 | 0,_::_,h=>h.elim
 | n+1,[],h=>by
   rw[rvZ,rcZ]at h;exact h.elim
def zCb:List AS:=[.rows zW1,.flat true [.one (.int .u8),.row [.int .u8],.one (.int .u8),.row [.int .u16],.row [.int .u16],.row [.int .u16]]]
theorem zGA{k m n:Nat}{x:AV}{rn:List Nat}(hx:n=0/\x=.nils\/x=.slice k 0 n 1 false)(hk:m=k)(h:rn[k]? = some k):AW rn (.sl m 0 n 1 false) x:=by
 subst hk;rcases hx with⟨h1,rfl⟩ | rfl
 · simp[AW,h1]
 · simp[AW,h]
theorem zI8:∀xs H,zAF zCb 0 xs H->∃H',Ct Pz 14 xs H (.bool true) H':=by
 intro xs H h0;obtain⟨x0,y0,n0,ys,H1,H2,rfl,hx0,hm0,hd0,rfl,h1⟩:=zJf h0;obtain⟨ds,rfl,e2,e3,rfl,e5⟩:=zI6 _ _ _ _ hd0;obtain⟨z1,y1,H3,H4,rfl,k0,rfl,h2⟩:=zLw h1;obtain⟨rfl,rfl⟩:=zLA h2;obtain⟨a1,w1,rfl,⟨mo,rfl,hmo⟩,k1⟩:=zEB k0;obtain⟨a2,w2,r0,m0,H5,rfl,rfl,hz0,hn0,hr0,k2⟩:=zAs k1;obtain⟨a3,w3,rfl,⟨st,rfl,hst⟩,k3⟩:=zEB k2;obtain⟨a4,w4,r1,m1,H6,rfl,rfl,hz1,hn1,hr1,k4⟩:=zAs k3;obtain⟨a5,w5,r2,m2,H7,rfl,rfl,hz2,hn2,hr2,k5⟩:=zAs k4;obtain⟨a6,w6,r3,m3,H8,rfl,rfl,hz3,hn3,hr3,k6⟩:=zAs k5;obtain⟨rfl,rfl⟩:=zKI k6;obtain⟨ls,rfl,rfl,hls⟩:=zGV hr0;obtain⟨s0,rfl,rfl,hs0⟩:=zF6 hr1;obtain⟨s1,rfl,rfl,hs1⟩:=zF6 hr2;obtain⟨s2,rfl,rfl,hs2⟩:=zF6 hr3;have bm:=bounds_u8 hmo;have bs:=bounds_u8 hst;unfold maxLen at hm0 hn0 hn1 hn2 hn3
 obtain⟨H',h⟩:=zVV ds e2 e3 (by omega) mo.toNat st.toNat (by omega) (by omega) ls hls (by omega) s0 s1 s2 hs0 hs1 hs2 (by omega) (by omega) (by omega)
 rw[show ((mo.toNat:Nat):Int)=mo by omega,show ((st.toNat:Nat):Int)=st by omega]at h
 refine ⟨H',zQA ?_ h⟩
 have hdl:(zCH ds).length=ds.length:=by simp[zCH]
 rw[hdl]at hz0 hz1 hz2 hz3;have:=zK1 (ds:=ds) (T:=[.cells false (ls.map aB),.cells false (Z2 s0),.cells false (Z2 s1),.cells false (Z2 s2)]) (F:=[x0,.agg [.int .u8 mo,a2,.int .u8 st,a4,a5,a6]])
   (Fn:=[.sl 0 0 ds.length 3 false,.agg [.int .u8 mo,.sl (ds.length+1) 0 ls.length 1 false,.int .u8 st,.sl (ds.length+2) 0 s0.length 1 false,.sl (ds.length+3) 0 s1.length 1 false,.sl (ds.length+4) 0 s2.length 1 false]]) e5
   (fun B hB=>by
     simp only[qwZ,rtZ,or_false]at hB;rcases hB with rfl | rfl | rfl | rfl
     · exact⟨_,_,rfl,zCs ls⟩
     · exact⟨_,_,rfl,zBs _⟩
     · exact⟨_,_,rfl,zBs _⟩
     · exact⟨_,_,rfl,zBs _⟩)
   fun rn hr=>⟨zO0 hx0 (hr 0 (by omega)),⟨⟨rfl,rfl⟩,zGA hz0 (by omega) (hr _ (by simp;omega)),⟨rfl,rfl⟩,zGA hz1 (by omega) (hr _ (by simp;omega)),zGA hz2 (by omega) (hr _ (by simp;omega)),zGA hz3 (by omega) (hr _ (by simp;omega)),trivial⟩,trivial⟩
 simpa[rbH] using this
end
end Go.Proofs.YthafeihjlamhhaaGreatDoor
