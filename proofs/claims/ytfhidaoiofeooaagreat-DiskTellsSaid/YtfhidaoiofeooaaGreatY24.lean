/- Parts of the proof of DiskTells: lemmas, each with its own conditions. -/
import Derived.Test.YtfhidaoiofeooaaGreatY20
set_option maxHeartbeats 64000000
open List renaming getElem?_eq_some_iff → q1Z, getD_eq_getElem?_getD → q2Z, getElem?_append_left → q4Z, getElem?_append_right → q5Z, take_of_length_le → q6Z, length_cons → q7Z, length_nil → q8Z, cons_append → q9Z, nil_append → qaZ, replicate → qbZ, getElem?_set_ne → qfZ, getElem?_set_self → qgZ, mem_cons → qwZ, mem_append → qxZ, getElem?_map → qzZ, mem_singleton → r1Z, getElem?_cons_succ → r9Z, nodup_cons → rdZ, mem_map → reZ, map_cons → s1Z, all_eq_true → s5Z, set_cons_zero → s9Z, set_cons_succ → saZ
open Nat renaming le_refl → qnZ, zero_add → s8Z
namespace Go.Proofs.YtfhidaoiofeooaaGreat
open _root_.Go.Proofs.Tryz renaming prog → Pz
set_option maxRecDepth 100000
section
open Go
theorem Step.recell{n:Nat}{j:Inj}{H:zA}{w:World}(hR:R j H w){b:Nat}{own:Bool}{l l':List AV}(hb:H[b]? = some (.cells own l))(hn:n<=H.length)(hc:∀p,j b=some p->BRel j w (.cells own l') p) :
   Step n j H w j (H.set b (.cells own l')) w:=by
 have hbl:b<H.length:=(q1Z.1 hb).1
 have hat:∀c x,(H.set b (.cells own l'))[c]? = some x->c=b/\x=.cells own l'\/c≠b/\H[c]? = some x:=by
   intro c x hx;by_cases hcb:c=b
   · subst hcb
     rw[qgZ hbl]at hx;exact .inl ⟨rfl,(Option.some.inj hx).symm⟩
   · rw[qfZ (Ne.symm hcb)]at hx
     exact .inr ⟨hcb,hx⟩
 have kin:∀c x p,(H.set b (.cells own l'))[c]? = some x->x≠.dead->j c=some p->Kin w j H j x c p:=by
   intro c x p hx hd hp;rcases hat c x hx with⟨rfl,rfl⟩ | ⟨hcb,hx⟩
   · exact .inr ⟨c,_,p,hb,by simp,hp,rfl,id,fun h=>by cases h⟩
   · exact .inr ⟨c,x,p,hx,hd,hp,rfl,id,fun _=>⟨rfl,rfl,rfl,rfl⟩⟩
 refine Step.make hR ⟨fun c hc=>hR.dom c (by simpa using hc),fun c x p hx hp=>?_,fun c c' y x p p' hy ho hx hd hne hp hp'=>?_⟩ (fun _ _=>rfl) (by simpa using hn) (Keeps0.refl _ _ _) kin
 · rcases hat c x hx with⟨rfl,rfl⟩ | ⟨_,hx⟩
   · exact hc p hp
   · exact hR.blk c x p hx hp
 · rcases hat c y hy with⟨rfl,rfl⟩ | ⟨h1,gy⟩ <;> rcases hat c' x hx with⟨rfl,rfl⟩ | ⟨h2,gx⟩
   · exact absurd rfl hne
   · exact hR.inj c c' _ x p p' hb ho gx hd hne hp hp'
   · exact hR.inj c c' y _ p p' gy ho hb (by simp) hne hp hp'
   · exact hR.inj c c' y x p p' gy ho gx hd hne hp hp'
theorem Aft.splitSl{n0:Nat}{F:List AV}{H:zA}{K:List AV->zA->Prop}{b i:Nat}{own:Bool}{l:List AV}{c off n sz:Nat}{cl:Bool}(hb:H[b]? = some (.cells own l))(hi:l[i]? = some (.sl c off n sz cl))(hn:n0<=H.length)
   (h1:n=0->Aft n0 F (H.set b (.cells own (l.set i .nils))) K) (h2:Aft n0 F (H.set b (.cells own (l.set i (.slice c off n sz cl)))) K):Aft n0 F H K:=by
 intro j w vs hR hF;have hil:i<l.length:=(q1Z.1 hi).1
 have key:∀x',(∀p,j b=some p->BRel j w (.cells own (l.set i x')) p)->Aft n0 F (H.set b (.cells own (l.set i x'))) K->∃F2 H2 j2,K F2 H2/\VRs j2 F2 vs/\Step n0 j H w j2 H2 w:=fun x' hx h=>by
   have st:=Step.recell hR hb hn hx;obtain⟨F2,H2,j2,k1,k2,k3⟩:=h j w vs st.rel hF;exact⟨F2,H2,j2,k1,k2,st.trans k3 (qnZ _)⟩
 cases hj:j b with
 | none=>exact key (.slice c off n sz cl) (fun p hp=>by rw[hj]at hp;cases hp) h2
 | some p =>
   obtain⟨cs,T,fz,e1,e2,e3,e4,e5⟩:=hR.blk b _ p hb hj;obtain⟨v,hv,hvr⟩:=e4 i _ hi
   have hset:∀x',VR j x' v->∀p',j b=some p'->BRel j w (.cells own (l.set i x')) p':=by
     intro x' hx p' hp';cases hj.symm.trans hp'
     refine ⟨cs,T,fz,e1,e2,by simpa using e3,fun k x hk=>?_,e5⟩
     by_cases hki:k=i
     · subst hki
       rw[qgZ hil]at hk;cases hk;exact⟨v,hv,hx⟩
     · rw[qfZ (Ne.symm hki)]at hk
       exact e4 k x hk
   rcases zES hvr with⟨k0,k⟩ | k
   · exact key .nils (hset _ k) (h1 k0)
   · exact key _ (hset _ k) h2
end
section
open Go
attribute [-simp] zN zr ZI zT ZL
theorem zJ2:∀(l:List FAct) (k:Nat) (x:AV),x∈zAt k l->zm x=true
 | a::l,k,x,h=>by
   rcases qwZ.1 h with rfl | h
   · cases a <;> rfl
   · exact zJ2 l (k+1) x h
theorem zAA{H:zA}{ks:List Nat}{b c:Nat}{o:Bool}{sub:zA}(hcb:c≠b)(hc:c∉ks):(zi H b ks o sub)[c]? = H[c]?:=by
 unfold zi;rw[qfZ (Ne.symm hcb),zAf _ _ _ hc]
theorem zTL(f:PF)(hk:f.acts.length<=1000000000):Ct Pz 26 [.ptr 0 0] [.obj true f.blks] (.ptr 1 0) [.obj true f.blks,.obj true f.blks]:=by
 have hΓ:=zBb;refine zG Tryz.func26 rfl ?_;simp only[Tryz.ntmps26,q7Z,q8Z,Nat.reduceAdd,Nat.reduceSub,qbZ,q9Z,qaZ]
 refine Sim.aft (Aft.open (b:=0) rfl (by simp) (Aft.done (by simp[zX]) ?_))
 rw[zCv];obtain⟨d,acts⟩:=f;obtain⟨s,es⟩:∃s,PF.now ⟨d,acts⟩=s:=⟨_,rfl⟩;rw[es];dsimp only at hk ⊢;simp only[q8Z,s8Z,qaZ]
 refine Sim.aft (Aft.splitSl (b:=0) (i:=1) rfl rfl (by simp) (fun h0=>?_) ?_)
 · have ha:acts=[]:=List.eq_nil_of_length_eq_zero h0
   subst ha
   refine Aft.done (by simp) ?_
   simp only[s9Z,saZ,zAt,List.map_nil]
   refine Sim.after (Sim.exec hmix hΓ (n:=0) (by simp +decide [zFG,Tryz.f87];exact⟨rfl,rfl,rfl⟩) (by simp) ?_)
   refine Aft.closeF ⟨d,[]⟩ 2 100 [] (o:=true) (x:=.nils) (by rw[es];rfl) (by simp[AW]) (by simp) rfl (by simp) (by decide) (by simp) ?_
   refine Aft.closeF ⟨d,[]⟩ 0 1 [] (o:=true) (x:=.nils) (by rw[es];rfl) (by simp[AW]) (by intro _;rfl) rfl (by simp) (by decide) (by simp) (Aft.done (by simp) ?_)
   refine ⟨.inr rfl,_,by simp[Tryz.f26] <;> rfl,Weak.mk' [0,2] (by decide) (by decide) (by simp) (zJ (b:=0) (by simp) _ _ rfl fun i c x h1 h2=>?_)⟩
   match i,h1,h2 with
   | 0,h1,h2=>cases h1;cases h2;exact .inl ⟨rfl,rfl⟩
   | 1,h1,h2=>cases h1;cases h2;exact .inr ⟨⟨by decide,by decide⟩,by simp[AWb,zi,zBB]⟩
 · refine Aft.done (by simp) ?_
   simp only[s9Z,saZ]
   cases acts with
   | nil =>
     simp only[zAt,List.map_nil,q8Z]
     refine Sim.after (Sim.exec hmix hΓ (n:=0) (by simp +decide [zFG,Tryz.f87];exact⟨rfl,rfl,rfl⟩) (by simp) ?_)
     refine Aft.closeF ⟨d,[]⟩ 2 3 [] (o:=true) (x:=.slice 3 0 0 1 true) (by rw[es];rfl) (by simp[AW]) (by intro _;rfl) rfl (by simp) (by decide) (by simp) ?_
     refine Aft.closeF ⟨d,[]⟩ 0 1 [] (o:=true) (x:=.slice 1 0 0 1 false) (by rw[es];rfl) (by simp[AW]) (by intro _;rfl) rfl (by simp) (by decide) (by simp) (Aft.done (by simp) ?_)
     refine ⟨.inr rfl,_,by simp[Tryz.f26] <;> rfl,Weak.mk' [0,2] (by decide) (by decide) (by simp) (zJ (b:=0) (by simp) _ _ rfl fun i c x h1 h2=>?_)⟩
     match i,h1,h2 with
     | 0,h1,h2=>cases h1;cases h2;exact .inl ⟨rfl,rfl⟩
     | 1,h1,h2=>cases h1;cases h2;exact .inr ⟨⟨by decide,by decide⟩,by simp[AWb,zi,zBB]⟩
   | cons a acts =>
     obtain⟨R,eR⟩:∃R,zAt 2 (a::acts)=R:=⟨_,rfl⟩;obtain⟨X,eX⟩:∃X,(a::acts).map FAct.box=X:=⟨_,rfl⟩;obtain⟨k,ek⟩:∃k,(a::acts).length=k:=⟨_,rfl⟩
     have hR:R.length=k:=by rw[<-eR,<-ek];simp
     have hX:X.length=k:=by rw[<-eX,<-ek];simp
     have k0:0<k:=by rw[<-ek];simp
     have kn:k≠0:=by omega
     have Rn:R≠[]:=by intro h;rw[h]at hR;simp at hR;omega
     have hRf:(∀x:AV,x∈R->zm x=true)=True:=eq_true (by rw[<-eR];exact zJ2 _ _)
     unfold zm at hRf;rw[eR,eX];rw[ek]at hk ⊢
     have b1:k*8<=140737488355328:=by omega
     have b2:k<=9223372036854775807:=by omega
     have tR:R.take k=R:=q6Z (by omega)
     refine Sim.after (Sim.exec hmix hΓ (n:=0) (by simp +decide [zFG,Tryz.f87,hR,hX,tR,b1,b2,kn,hRf];exact⟨rfl,rfl,rfl⟩) (by simp) ?_)
     obtain⟨H,hH⟩:∃H:zA,ABlk.cells true [AV.str d,AV.slice 1 0 k 1 false,AV.str s]::ABlk.cells true R::(X++[ABlk.cells true [AV.str d,AV.slice (k+2+1+1) 0 k 1 false,AV.str s],ABlk.cells true [],ABlk.cells true R])=H:=⟨_,rfl⟩;rw[hH]
     have hHl:H.length=k+5:=by rw[<-hH];simp[hX]
     have h0:H[0]? = some (ABlk.cells true [AV.str d,AV.slice 1 0 k 1 false,AV.str s]):=by rw[<-hH];rfl
     have h1:H[1]? = some (ABlk.cells true R):=by rw[<-hH];rfl
     have h2:H[k+2]? = some (ABlk.cells true [AV.str d,AV.slice (k+4) 0 k 1 false,AV.str s]):=by
       rw[<-hH];simp only[r9Z]
       rw[q5Z (by omega),hX]
       simp
     have h4:H[k+4]? = some (ABlk.cells true R):=by
       rw[<-hH];simp only[r9Z]
       rw[q5Z (by omega),hX]
       simp
     have hB:∀i,i<k->H[2+i]? = X[i]?:=fun i hi=>by
       rw[<-hH,show 2+i=i+1+1 by omega]
       simp only[r9Z]
       rw[q4Z (by omega)]
     have hRN:R=zK7 (List.range' 2 k) (a::acts):=by rw[<-eR,zOd,ek]
     have hbx:∀(i c:Nat) (a':FAct),(List.range' 2 k)[i]? = some c->(a::acts)[i]? = some a'->c<k+2/\2<=c/\H[c]? = some a'.box:=by
       intro i c a' g1 g2
       have hik:i<k:=by rw[<-ek];exact (q1Z.1 g2).1
       rw[List.getElem?_range' hik]at g1;simp only[Nat.one_mul,Option.some.injEq]at g1;subst g1
       refine ⟨by omega,by omega,?_⟩
       rw[hB i hik,<-eX,qzZ,g2];rfl
     refine Aft.closeF ⟨d,a::acts⟩ (k+2) (k+4) (List.range' 2 k) (o:=true) (x:=.slice (k+4) 0 k 1 false) (by rw[es];exact h2) (by simp[AW,<-ek]) (fun _=>by rw[h4,hRN]) (by simp[<-ek]) (fun i c a' g1 g2=>(hbx i c a' g1 g2).2.2) ?_ (by omega) ?_
     · simp only[rdZ,qwZ,List.mem_range'_1]
       exact⟨by omega,by omega,List.nodup_range'⟩
     refine Aft.closeF ⟨d,a::acts⟩ 0 1 (List.range' 2 k) (o:=true) (x:=.slice 1 0 k 1 false) ?_ (by simp[AW,<-ek]) (fun _=>?_) (by simp[<-ek]) (fun i c a' g1 g2=>?_) ?_ (by simp;omega) (Aft.done (by simp;omega) ?_)
     · rw[zAA (by omega) (by simp),h0,es]
     · rw[zAA (by omega) (by simp),h1,hRN]
     · obtain⟨g3,g4,g5⟩:=hbx i c a' g1 g2
       rw[zAA (by omega) (by simp;omega),g5]
     · simp only[rdZ,qwZ,List.mem_range'_1]
       exact⟨by omega,by omega,List.nodup_range'⟩
     refine ⟨.inr rfl,_,by simp[Tryz.f26] <;> rfl,Weak.mk' [0,k+2] (by simp) (by rfl) (by simp[AWs,AW]) (zJ (b:=0) (by simp;omega) _ _ rfl fun i c x h1 h2=>?_)⟩
     match i,h1,h2 with
     | 0,h1,h2=>cases h1;cases h2;exact .inl ⟨rfl,rfl⟩
     | 1,h1,h2 =>
       cases h1;cases h2
       refine .inr ⟨⟨by omega,by simp⟩,?_⟩
       rw[zCg (by omega)]
       exact⟨rfl,rfl⟩
end
section
open Go Go.Lib
attribute [-simp] zN zr ZI zT ZL
theorem zFI(N:Nat):∀a b:List AV,ze N (a++b)=(ze N a&&ze N b)
 | [],b=>by simp[ze]
 | x::a,b=>by simp[ze,zFI N a b,Bool.and_assoc]
theorem zGz(N:Nat)(g:Nat->Nat):∀(l:List DAct) (k:Nat),(∀i,k<=i->i<k+nbD l->g i<N)->ze N (Zb g k l)=true
 | [],_,_=>rfl
 | x::l,k,h=>by
   have ih:=zGz N g l (k+x.nb) fun i h1 h2=>h i (by omega) (by simp only[nbD,s1Z,List.sum_cons]at h2 ⊢;omega)
   rw[Zb,zFI,ih,Bool.and_true]
   have h':∀i,k<=i->i<k+x.nb->g i<N:=fun i h1 h2=>h i h1 (by simp only[nbD,s1Z,List.sum_cons];omega)
   cases x with
   | cre a n =>
     have h0:=h' k (qnZ _) (by simp[DAct.nb])
     have h1:=h' (k+1) (by omega) (by simp[DAct.nb])
     simp[DAct.fn,ze,below,h0,h1]
   | ren a b n =>
     have h0:=h' k (qnZ _) (by simp[DAct.nb])
     have h1:=h' (k+1) (by omega) (by simp[DAct.nb])
     have h2:=h' (k+2) (by omega) (by simp[DAct.nb])
     simp[DAct.fn,ze,below,h0,h1,h2]
   | rem a =>
     have h0:=h' k (qnZ _) (by simp[DAct.nb])
     simp[DAct.fn,ze,below,h0]
theorem zKX(g:Nat->Nat):∀(l:List DAct) (k:Nat) (x:AV),x∈Zb g k l->zm x=true
 | a::l,k,x,h=>by
   simp only[Zb]at h;rcases qxZ.1 h with h | h
   · cases a <;> simp[DAct.fn]at h <;> rcases h with rfl | rfl <;> rfl
   · exact zKX g l _ x h
theorem zRf(H:zA)(b k:Nat)(c o:Bool)(R:List AV)(hb:H[b]? = some (.cells o R))(hR:R.length=k*2)(hk:k<=1000000)(h0:¬k=0)(hc:∀x∈R,zm x=true) :
   Ct Pz 83 [.slice b 0 k 2 c] H (.slice (H.length+1) 0 k 2 false) (H++[.cells true [],.cells true R]):=by
 have hbl:b<H.length:=(q1Z.1 hb).1
 have h1:∀T:zA,(H++T)[b]? = some (.cells o R):=fun T=>by rw[q4Z hbl];exact hb
 have h2:∀T:zA,(H++T)[H.length]? = T[0]?:=fun T=>(ZC H rfl).get0 T
 have h3:∀(T:zA) v,(H++T).set H.length v=H++T.set 0 v:=fun T v=>(ZC H rfl).set0 T v
 have b1:k*24<=140737488355328:=by omega
 have b2:k<=9223372036854775807:=by omega
 have tR:R.take (k*2)=R:=q6Z (by omega)
 have hRf:(∀x:AV,x∈R->zm x=true)=True:=eq_true hc
 have Rn:R≠[]:=by intro h;rw[h]at hR;simp at hR;omega
 unfold zm at hRf;refine zR Tryz.func83 rfl ?_;simp only[Tryz.ntmps83,q7Z,q8Z,Nat.reduceAdd,Nat.reduceSub,qbZ,q9Z,qaZ]
 refine Sim.step hmix zC (n:=0) (by simp;exact⟨rfl,rfl⟩) (by simp) ?_
 refine Sim.step hmix zC (n:=0) (by simp;exact⟨rfl,rfl⟩) (by simp) ?_
 refine Sim.exec hmix zC (n:=0) (by simp +decide [h1,hR,tR,b1,b2,h0,hRf];exact⟨rfl,rfl,rfl⟩) (by simp) ?_
 exact⟨.inr rfl,by simp[Tryz.f83],by simp⟩
noncomputable def zDM:zU:=open Classical in fun args H=>match args with
 | [.nils]=>some (.nils,H,[])
 | [.slice b 0 k 2 _]=>match H[b]? with
   | some (.cells _ R)=>if k=0 then some (.slice H.length 0 0 2 true,H++[.cells true []],[]) else if R.length=k*2/\k<=1000000/\¬k=0/\(∀x∈R,zm x=true) then some (.slice (H.length+1) 0 k 2 false,H++[.cells true [],.cells true R],[]) else none
   | _=>none
 | _=>none
theorem zME(H:zA)(b:Nat)(c o:Bool)(R:List AV)(hb:H[b]? = some (.cells o R)):Ct Pz 83 [.slice b 0 0 2 c] H (.slice H.length 0 0 2 true) (H++[.cells true []]):=by
 have hbl:b<H.length:=(q1Z.1 hb).1
 have h1:∀T:zA,(H++T)[b]? = some (.cells o R):=fun T=>by rw[q4Z hbl];exact hb
 have h2:∀T:zA,(H++T)[H.length]? = T[0]?:=fun T=>(ZC H rfl).get0 T
 refine zR Tryz.func83 rfl ?_;simp only[Tryz.ntmps83,q7Z,q8Z,Nat.reduceAdd,Nat.reduceSub,qbZ,q9Z,qaZ]
 refine Sim.step hmix zC (n:=0) (by simp;exact⟨rfl,rfl⟩) (by simp) ?_
 refine Sim.step hmix zC (n:=0) (by simp;exact⟨rfl,rfl⟩) (by simp) ?_
 refine Sim.exec hmix zC (n:=0) (by simp +decide [h1];exact⟨rfl,rfl,rfl⟩) (by simp) ?_
 exact⟨.inr rfl,by simp[Tryz.f83],by simp⟩
theorem zPl(H:zA):Ct Pz 83 [.nils] H .nils H:=by
 refine zR Tryz.func83 rfl ?_;simp only[Tryz.ntmps83,q7Z,q8Z,Nat.reduceAdd,Nat.reduceSub,qbZ,q9Z,qaZ]
 refine Sim.step hmix zC (n:=0) (by simp;exact⟨rfl,rfl⟩) (by simp) ?_
 refine Sim.exec hmix zC (n:=0) (by simp;exact⟨rfl,rfl,rfl⟩) (by simp) ?_
 exact⟨.inr rfl,by simp[Tryz.f83],rfl⟩
theorem zK6:Sound Pz 83 zDM:=by
 refine ⟨zE Tryz.func83 rfl (by decide),fun args H v H' W hs=>?_,fun args H v H' W hs=>?_⟩
 · unfold zDM at hs
   split at hs
   · cases hs;exact zPl _
   · rename_i b k c
     split at hs <;> try cases hs
     rename_i o R hb;split at hs
     · rename_i h0;subst h0;cases hs;exact zME _ b c o R hb
     split at hs <;> cases hs
     rename_i hk;exact zRf _ b k c o R hb hk.1 hk.2.1 hk.2.2.1 hk.2.2.2
   · cases hs
 · unfold zDM at hs
   split at hs
   · cases hs;exact⟨qnZ _,fun _ _ _=>rfl⟩
   · split at hs <;> try cases hs
     split at hs
     · cases hs;exact⟨by simp,fun c hc _=>by rw[q4Z hc]⟩
     split at hs <;> cases hs
     exact⟨by simp,fun c hc _=>by rw[q4Z hc]⟩
   · cases hs
noncomputable def zK2:Gam:=zo [(82,zAC),(83,zDM)]
theorem zTN:GOk Pz zK2:=zB zB8 (zB zK6 zC)
theorem zRu(f:FD)(hk:f.acts.length<=1000000):Ct Pz 22 [.ptr 0 0] [.obj true f.blks] (.ptr 1 0) [.obj true f.blks,.obj true f.blks]:=by
 have hΓ:=zTN;refine zG Tryz.func22 rfl ?_;simp only[Tryz.ntmps22,q7Z,q8Z,Nat.reduceAdd,Nat.reduceSub,qbZ,q9Z,qaZ]
 refine Sim.aft (Aft.open (b:=0) rfl (by simp) (Aft.done (by simp[zX]) ?_))
 rw[zA9];simp only[q7Z,q8Z,Nat.reduceAdd,s9Z,q9Z,qaZ]
 refine Sim.aft (Aft.splitSl (b:=0) (i:=2) rfl rfl (by simp) (fun h0=>?_) ?_)
 · have ha:f.acts=[]:=List.eq_nil_of_length_eq_zero h0
   obtain⟨d,acts,last⟩:=f;dsimp only at ha;subst ha
   refine Aft.done (by simp) ?_
   simp only[s9Z,saZ,Zb,zg,List.flatMap_nil]
   refine Sim.step hmix hΓ (n:=0) (by simp;exact⟨rfl,rfl⟩) (by simp) ?_
   refine Sim.step hmix hΓ (n:=0) (by simp;exact⟨rfl,rfl⟩) (by simp) ?_
   refine Sim.seq (Sim.draw hmix (by simp) ?_)
   refine SimR.many hΓ 19 (by simp[zI];rfl) (by omega) (by kernel_rfl) (by simp +decide [zK2,zAC,zDM];first | exact⟨rfl,rfl⟩ | exact⟨by kernel_rfl,rfl,rfl⟩) ?_
   refine SimR.many hΓ 22 (by simp[zI,zS];rfl) (by omega) (by kernel_rfl) (by simp +decide;first | exact⟨rfl,rfl⟩ | exact⟨by kernel_rfl,rfl,rfl⟩) ?_
   refine SimR.done rfl ?_;dsimp only
   refine Sim.after (Sim.exec hmix hΓ (n:=0) (by simp;exact⟨rfl,rfl,rfl⟩) (by simp) ?_)
   refine Aft.closeFD ⟨d,[],last⟩ 6 4 5 100 [] (fun i=>i) (x:=.nils) (o:=true) rfl (by simp[AW]) rfl rfl (fun h=>absurd h (by simp)) rfl (fun i hi=>absurd hi (by simp[nbD])) (fun i k B h=>by simp at h) (by decide) (by simp) ?_
   refine Aft.closeFD ⟨d,[],last⟩ 0 1 2 101 [] (fun i=>i) (x:=.nils) (o:=true) rfl (by simp[AW]) rfl rfl (fun h=>absurd h (by simp)) rfl (fun i hi=>absurd hi (by simp[nbD])) (fun i k B h=>by simp at h) (by decide) (by simp) (Aft.done (by simp) ?_)
   refine ⟨.inr rfl,_,by simp[Tryz.f22] <;> rfl,Weak.mk' [0,6] (by decide) (by decide) (by simp) (zJ (b:=0) (by simp) _ _ rfl fun i c x h1 h2=>?_)⟩
   match i,h1,h2 with
   | 0,h1,h2=>cases h1;cases h2;exact .inl ⟨rfl,rfl⟩
   | 1,h1,h2=>cases h1;cases h2;exact .inr ⟨⟨by decide,by decide⟩,by simp[AWb,zi,zBB]⟩
 · refine Aft.done (by simp) ?_
   simp only[s9Z,saZ]
   obtain⟨R,eR⟩:∃R,Zb (fun i=>1+3+i) 0 f.acts=R:=⟨_,rfl⟩
   obtain⟨X,eX⟩:∃X,zg f.acts=X:=⟨_,rfl⟩;obtain⟨k,ek⟩:∃k,f.acts.length=k:=⟨_,rfl⟩;obtain⟨q,eq⟩:∃q,nbD f.acts=q:=⟨_,rfl⟩
   have hR:R.length=k*2:=by rw[<-eR,<-ek];simp
   have hX:X.length=q:=by rw[<-eX,<-eq,zj]
   have hRf:(∀x:AV,x∈R->zm x=true)=True:=eq_true (by rw[<-eR];exact zKX _ _ _)
   have hRb:∀N,q+4<=N->ze N R=true:=fun N h=>by rw[<-eR];exact zGz N _ _ _ fun i _ hi=>by rw[eq]at hi;omega
   have hXb:∀N,X.all (zA5 N)=true:=fun N=>by
     rw[s5Z];intro B hB;rw[<-eX]at hB;obtain⟨z,rfl,_⟩:=zEu hB;rfl
   have hEb:∀(N:Nat) (l:NM),((zZ l).all fun e=>below N e.1&&below N e.2)=true:=fun N l=>by
     rw[s5Z];intro e he;obtain⟨x,_,rfl⟩:=reZ.1 he;rfl
   have hq1:(q+1 != q)=true:=by simp
   have hq2:(q+2 != q)=true:=by simp
   have hXd:∀T:zA,(X++T).drop q=T:=fun T=>List.drop_left' hX
   have hXd2:∀(T:zA) j,(X++T).drop (q+j)=T.drop j:=fun T j=>by rw[<-hX,List.drop_length_add_append]
   unfold zm at hRf;rw[eR,eX];rw[ek]at hk ⊢
   refine Sim.step hmix hΓ (n:=0) (by simp;exact⟨rfl,rfl⟩) (by simp) ?_
   refine Sim.step hmix hΓ (n:=0) (by simp;exact⟨rfl,rfl⟩) (by simp) ?_
   have b1:k*24<=140737488355328:=by omega
   have b2:k<=9223372036854775807:=by omega
   have tR:R.take (k*2)=R:=q6Z (by omega)
   by_cases k0:k=0
   · have ha:f.acts=[]:=List.eq_nil_of_length_eq_zero (by omega)
     have hR0:R=[]:=by rw[<-eR,ha];rfl
     have hX0:X=[]:=by rw[<-eX,ha];rfl
     clear hRf hRb hXb hEb hXd hXd2 tR eR eX eq hX hR
     subst hR0;subst hX0;subst k0
     obtain⟨d,acts,last⟩:=f;dsimp only at ha;subst ha
     refine Sim.seq (Sim.draw hmix (by simp) ?_)
     refine SimR.many hΓ 19 (by simp[zI];rfl) (by omega) (by kernel_rfl) (by simp +decide [zK2,zAC,zDM];first | exact⟨rfl,rfl⟩ | exact⟨by kernel_rfl,rfl,rfl⟩) ?_
     refine SimR.many hΓ 22 (by simp[zI,zS];rfl) (by omega) (by kernel_rfl) (by simp +decide;first | exact⟨rfl,rfl⟩ | exact⟨by kernel_rfl,rfl,rfl⟩) ?_
     refine SimR.done rfl ?_;dsimp only
     refine Sim.after (Sim.exec hmix hΓ (n:=0) (by simp;exact⟨rfl,rfl,rfl⟩) (by simp) ?_)
     refine Aft.closeFD ⟨d,[],last⟩ 7 4 5 6 [] (fun i=>i) (x:=.slice 6 0 0 2 true) (o:=true) rfl (by simp[AW]) rfl rfl (fun _=>rfl) rfl (fun i hi=>absurd hi (by simp[nbD])) (fun i k B h=>by simp at h) (by decide) (by simp) ?_
     refine Aft.closeFD ⟨d,[],last⟩ 0 1 2 3 [] (fun i=>i) (x:=.slice 3 0 0 2 false) (o:=true) rfl (by simp[AW]) rfl rfl (fun _=>rfl) rfl (fun i hi=>absurd hi (by simp[nbD])) (fun i k B h=>by simp at h) (by decide) (by simp) (Aft.done (by simp) ?_)
     refine ⟨.inr rfl,_,by simp[Tryz.f22] <;> rfl,Weak.mk' [0,7] (by decide) (by decide) (by simp) (zJ (b:=0) (by simp) _ _ rfl fun i c x h1 h2=>?_)⟩
     match i,h1,h2 with
     | 0,h1,h2=>cases h1;cases h2;exact .inl ⟨rfl,rfl⟩
     | 1,h1,h2=>cases h1;cases h2;exact .inr ⟨⟨by decide,by decide⟩,by simp[AWb,zi,zBB]⟩
   have Rn:R≠[]:=by intro h;rw[h]at hR;simp at hR;omega
   refine Sim.seq (Sim.draw hmix (by simp) ?_)
   refine SimR.many hΓ 19 (by simp[zI];rfl) (by omega) (by kernel_rfl) (by simp +decide [zK2,zAC,zDM,scA,zA5,zDc,ABlk.own,hRb,hXb,hEb,hq1,hq2,hXd,hXd2,hk,hR,hX,k0,hRf];first | exact⟨rfl,rfl⟩ | exact⟨by kernel_rfl,rfl,rfl⟩) ?_
   refine SimR.many hΓ 22 (by simp[zI,zS];rfl) (by omega) (by kernel_rfl) (by simp +decide;first | exact⟨rfl,rfl⟩ | exact⟨by kernel_rfl,rfl,rfl⟩) ?_
   refine SimR.done rfl ?_;dsimp only
   refine Sim.after (Sim.exec hmix hΓ (n:=0) (by simp;exact⟨rfl,rfl,rfl⟩) (by simp) ?_)
   obtain⟨H,hH⟩:∃H:zA,ABlk.cells true [AV.map 1,AV.map 2,AV.slice 3 0 k 2 false,AV.int IntKind.i64 f.last]::ABlk.map (zZ f.d)::ABlk.map (zZ f.now)::ABlk.cells true R::(X++[ABlk.map (zZ f.d),ABlk.map (zZ f.now),ABlk.cells true [],ABlk.cells true R,ABlk.cells true [AV.map (q+4),AV.map (q+5),AV.slice (q+7) 0 k 2 false,AV.int IntKind.i64 f.last]])=H:=⟨_,rfl⟩;have hXb2:=ZC X hX
   have hHl:H.length=q+9:=by rw[<-hH];simp[hX]
   have g0:H[0]? = some (.cells true [.map 1,.map 2,.slice 3 0 k 2 false,.int .i64 f.last]):=by rw[<-hH];rfl
   have g1:H[1]? = some (.map (zZ f.d)):=by rw[<-hH];rfl
   have g2:H[2]? = some (.map (zZ f.now)):=by rw[<-hH];rfl
   have g3:H[3]? = some (.cells true R):=by rw[<-hH];rfl
   have gn:∀j,H[q+4+j]? = [ABlk.map (zZ f.d),ABlk.map (zZ f.now),ABlk.cells true [],ABlk.cells true R,ABlk.cells true [AV.map (q+4),AV.map (q+5),AV.slice (q+7) 0 k 2 false,AV.int IntKind.i64 f.last]][j]?:=fun j=>by
     rw[<-hH,show q+4+j=q+j+1+1+1+1 by omega]
     simp only[r9Z];exact hXb2.get _ j
   have gx:∀(i:Nat) (B:ABlk),(zg f.acts)[i]? = some B->H[4+i]? = some B:=fun i B h=>by
     rw[eX]at h
     rw[<-hH,show 4+i=i+1+1+1+1 by omega]
     simp only[r9Z]
     rw[q4Z (q1Z.1 h).1];exact h
   have hbx:∀(i c:Nat) (B:ABlk),(List.range' 4 q)[i]? = some c->(zg f.acts)[i]? = some B->(4<=c/\c<q+4)/\H[c]? = some B:=fun i c B h1 h2=>by
     have hi:i<q:=by have:=(q1Z.1 h1).1;simpa using this
     rw[List.getElem?_range' hi]at h1;simp only[Nat.one_mul,Option.some.injEq]at h1;subst h1
     exact⟨by omega,gx i B h2⟩
   have eR4:R=Zb (fun i=>4+i) 0 f.acts:=by rw[<-eR]
   rw[show X.length+4+1+1+1+1=q+8 by omega,show q+1+1+1+1=q+4 by omega,show q+4+1=q+5 by omega,show q+2+1+1+1+1+1=q+7 by omega,hH]
   refine Aft.closeFD f (q+8) (q+4) (q+5) (q+7) (List.range' 4 q) (fun i=>4+i) (x:=.slice (q+7) 0 k 2 false) (o:=true) (gn 4) ?_ (gn 0) (gn 1) (fun _=>by rw[show q+7=q+4+3 by omega,gn 3,<-eR4];rfl) (by simp[eq]) (fun i hi=>?_) (fun i c B h1 h2=>(hbx i c B h1 h2).2) ?_ (by omega) ?_
   · simp[AW,ek]
   · rw[eq]at hi;rw[List.getElem?_range' hi];simp
   · simp only[rdZ,qwZ,List.mem_range'_1,not_or]
     exact⟨by omega,by omega,by omega,by omega,List.nodup_range'⟩
   refine Aft.closeFD f 0 1 2 3 (List.range' 4 q) (fun i=>4+i) (x:=.slice 3 0 k 2 false) (o:=true) ?_ ?_ ?_ ?_ (fun _=>?_) (by simp[eq]) (fun i hi=>?_) (fun i c B h1 h2=>?_) ?_ (by simp;omega) (Aft.done (by simp;omega) ?_)
   · rw[zAA (by omega) (by simp),g0]
   · simp[AW,ek]
   · rw[zAA (by omega) (by simp),g1]
   · rw[zAA (by omega) (by simp),g2]
   · rw[zAA (by omega) (by simp),g3,<-eR4]
   · rw[eq]at hi;rw[List.getElem?_range' hi];simp
   · obtain⟨h3,h4⟩:=hbx i c B h1 h2
     rw[zAA (by omega) (by simp;omega),h4]
   · simp only[rdZ,qwZ,List.mem_range'_1,not_or]
     exact⟨by omega,by omega,by omega,by omega,List.nodup_range'⟩
   refine ⟨.inr rfl,_,by simp[Tryz.f22] <;> rfl,Weak.mk' [0,q+8] (by simp) (by rfl) (by simp[AWs,AW]) (zJ (b:=0) (by simp;omega) _ _ rfl fun i c x h1 h2=>?_)⟩
   match i,h1,h2 with
   | 0,h1,h2=>cases h1;cases h2;exact .inl ⟨rfl,rfl⟩
   | 1,h1,h2 =>
     cases h1;cases h2
     refine .inr ⟨⟨by omega,by simp⟩,?_⟩
     rw[zCg (by omega)]
     exact⟨rfl,rfl⟩
theorem zSH(a:List (List UInt8)):zKD a []=a.flatten:=by
 cases a with
 | nil=>rfl
 | cons x r=>simp[zKD]
open Classical in
noncomputable def zGH:zU:=fun args H=>match args with
 | [.ptr b 0,.str k,.slice b2 off n 1 _c]=>match H[b]?,H[b2]? with
   | some (.obj true sub),some (.cells _ l)=>match dsD sub,(if off+n<=l.length then ZF ((l.drop off).take n) else none) with
     | some d,some a=>if d.small/\d.quota<=1000000000000/\zk l=true/\a.flatten.length<=140737488355328/\a.length<=140737488355328 then some (.int .i64 (d.append k a.flatten).2,H.set b (.obj true (d.append k a.flatten).1.blks),[b]) else none
     | _,_=>none
   | _,_=>none
 | _=>none
theorem zO6:Sound Pz 10 zGH:=by
 have key:∀args H v H' W,zGH args H=some (v,H',W)->∃b B,W=[b]/\H'=H.set b B/\Ct Pz 10 args H v H':=by
   intro args H v H' W hs;unfold zGH at hs;split at hs;rotate_left
   · cases hs
   rename_i b k b2 off n c
   split at hs <;> try cases hs
   rename_i sub o l hb hb2
   split at hs <;> try cases hs
   rename_i d a hd hl
   split at hl <;> try cases hl
   rename_i hle
   split at hs <;> cases hs
   rename_i hc;obtain⟨h1,h2,h3,h4,h5⟩:=hc;have e:=Zu hd;subst e;refine ⟨b,_,rfl,rfl,?_⟩;have hbl:b<H.length:=(q1Z.1 hb).1;have hbl2:b2<H.length:=(q1Z.1 hb2).1
   have hne:b≠b2:=by rintro rfl;rw[hb]at hb2;cases hb2
   have hct:=zKI d h1 (by decide) (by decide) h2 l h3 off n c k a.flatten (by omega) fun H2 q hq=>by
     refine (join_sound2.ct _ _ _ _ [] ?_)
     have hrs:zAL H2 (.sl q off n 1 c)=some a:=by
       by_cases hn:n=0
       · subst hn
         have e:ZF []=some a:=by simpa using hl
         have e2:a=[]:=by simpa[ZF] using e.symm
         subst e2;simp[zAL]
       · simp only[zAL,if_neg hn,hq,if_pos hle]
         exact hl
     unfold zPa Zl;simp only[hrs,zSH];rw[if_pos ⟨h4,h5⟩]
   have:=zc (H:=H) (args:=[.ptr b 0,.str k,.slice b2 off n 1 c]) hct [b,b2] (by simp[hne]) ⟨⟨rfl,rfl⟩,rfl,⟨rfl,rfl,rfl,rfl,fun h=>h⟩,trivial⟩ ⟨by rw[q2Z,hb];exact⟨rfl,rfl⟩,hbl,by rw[q2Z,hb2];exact⟨fun h=>(by cases h),ZD _ h3⟩,hbl2,trivial⟩ rfl
   simpa[zb,ABlk.own,reB,reA] using this
 refine ⟨zE Tryz.func10 rfl (by decide),fun args H v H' W hs=>?_,fun args H v H' W hs=>?_⟩
 · obtain⟨b,B,_,_,h⟩:=key args H v H' W hs
   exact h
 · obtain⟨b,B,rfl,rfl,_⟩:=key args H v H' W hs
   refine ⟨by simp,fun c hc hn=>?_⟩
   simp only[r1Z]at hn;rw[qfZ (Ne.symm hn)]
theorem zV3{P:Program}{f:FuncId}{args:List AV}{H H1 H':zA}{v v1:AV}(h:Ct P f args H v1 H1)(hw:Weak H.length [v1] H1 [v] H'):Ct P f args H v H':=by
 intro j w cargs hR hargs;refine (h j w cargs hR hargs).mono ?_;rintro e w' ⟨cv,j',rfl,g2,hs⟩;obtain⟨j2,k1,k2⟩:=hw.step (qnZ _) hs (vs:=[cv]) ⟨cv,[],rfl,g2,rfl⟩;simp only[VRs]at k2;obtain⟨_,_,e,k3,_⟩:=k2;cases e;exact⟨cv,j2,rfl,k3,k1⟩
theorem zMH(d:DS)(hd:d.small):Ct Pz 11 [.ptr 0 0,.nils] [.obj true d.blks] (.tuple []) [.obj true (d.restart []).blks]:=by
 have h:=zIc d hd (by decide) (by decide) [] (by simp) (by simp) 0 (qnZ _) false
 simp only[List.take_nil,zp]at h
 refine zV3 (zQb (Weak.mk' [0,100] (by decide) rfl (by simp[AWs,AW]) (by simp[AWg,AWb])) h) (Weak.mk' [0] (by decide) rfl (by simp[AWs,AW]) (by simp[AWg,AWb]))
open Classical in
noncomputable def zLV:zU:=Zk dsD DS.blks fun d xs _=>match xs with
 | [.nils]=>if d.small then some (d.restart [],.tuple []) else none
 | _=>none
theorem drest0_sound:Sound Pz 11 zLV:=by
 refine zM (zE Tryz.func11 rfl (by decide)) (fun _ _=>Zu) fun d xs H s' v b hg hb=>?_
 split at hg;rotate_left
 · cases hg
 split at hg <;> cases hg
 rename_i hs;exact zY (zMH d hs) rfl rfl hb
noncomputable def zLM:zU:=fun args H=>match args with
 | [.ptr b 0,.nils]=>zLV [.ptr b 0,.nils] H
 | [.ptr b 0,.slice b2 o L sz c]=>zFX [.ptr b 0,.slice b2 o L sz c] H
 | [.ptr b 0,.sl b2 o L sz c]=>zFX [.ptr b 0,.sl b2 o L sz c] H
 | _=>none
theorem zLn:Sound Pz 11 zLM:=by
 refine ⟨drest_sound.enter,fun args H v H' W hs=>?_,fun args H v H' W hs=>?_⟩ <;> (unfold zLM at hs;split at hs)
 · exact drest0_sound.ct _ _ _ _ _ hs
 · exact drest_sound.ct _ _ _ _ _ hs
 · exact drest_sound.ct _ _ _ _ _ hs
 · cases hs
 · exact drest0_sound.keep _ _ _ _ _ hs
 · exact drest_sound.keep _ _ _ _ _ hs
 · exact drest_sound.keep _ _ _ _ _ hs
 · cases hs
end
end Go.Proofs.YtfhidaoiofeooaaGreat
