/- Parts of the proof of SweepTells: lemmas, each with its own conditions. -/
import Derived.Test.YtfhidaoiofeooaaGreatDoorY7
set_option maxHeartbeats 64000000
open List renaming getElem?_eq_some_iff → q1Z, getD_eq_getElem?_getD → q2Z, getElem?_eq_getElem → q3Z, getElem?_append_left → q4Z, cons_append → q9Z, mem_of_getElem? → qcZ, length_append → qdZ, getElem?_set_ne → qfZ, getElem?_set_self → qgZ, length_drop → qkZ, mem_cons → qwZ, mem_append → qxZ, getElem?_map → qzZ, getElem?_drop → r5Z, length_map → r7Z, length_set → r8Z, getElem?_cons_succ → r9Z, getElem?_cons_zero → raZ, map_cons → s1Z, getElem?_append → s7Z
open Option renaming map_eq_some_iff → qlZ, getD_some → rgZ, bind_eq_some_iff → s6Z
open Nat renaming le_refl → qnZ, lt_or_ge → s2Z
namespace Go.Proofs.YtfhidaoiofeooaaGreatDoor
open _root_.Go.Proofs.Tryz renaming prog → Pz
set_option maxRecDepth 100000
section
open Go
def zBU(b k:Nat)(i:Nat):Nat:=if i=0 then b else k+(i-1)
def zK8(b k:Nat)(j js:Inj)(o:Bool):Inj :=
 ⟨fun c=>if c<k then j c else if o then js (c-k+1) else none,
  fun c=>if c=b then js.foot 0 else if c<k then j.foot c else js.foot (c-k+1),
  fun c=>if c=b then js.shr 0 else if c<k then j.shr c else js.shr (c-k+1)⟩
def zo(H:zA)(b:Nat)(sub:zA):zA:=H.set b (reB (zBU b H.length) (sub.getD 0 .dead))++(sub.drop 1).map (reB (zBU b H.length))
theorem Step.open{n:Nat}{j:Inj}{H:zA}{w:World}(hR:R j H w){b:Nat}{sub:zA}(hb:H[b]? = some (.obj true sub))(hn:n<=H.length) :
   ∃j',(∀c p,j c=some p->j' c=some p)/\Step n j H w j' (zo H b sub) w:=by
 have hbl:b<H.length:=(q1Z.1 hb).1;cases hjb:j b with
 | none =>
   refine ⟨j,fun _ _ h=>h,?_⟩;have hof:∀c x p,(zo H b sub)[c]? = some x->j c=some p->H[c]? = some x:=by
     intro c x p hc hp;have hcl:c<H.length:=by
       rcases s2Z c H.length with h1 | h1
       · exact h1
       · rw[hR.dom c h1]at hp;cases hp
     have hcb:c≠b:=by rintro rfl;rw[hjb]at hp;cases hp
     unfold zo at hc;rw[q4Z (by simpa using hcl),qfZ (Ne.symm hcb)]at hc;exact hc
   exact Step.make hR ⟨fun c hc=>hR.dom c (by unfold zo at hc;simp at hc;omega),fun c x p hc hp=>hR.blk c x p (hof c x p hc hp) hp,fun c c' y x p p' hc hy hc' hx hne hp hp'=>hR.inj c c' y x p p' (hof _ _ _ hc hp) hy (hof _ _ _ hc' hp') hx hne hp hp'⟩ (fun _ _=>rfl) (by unfold zo;simp;omega) (Keeps0.refl _ _ _) fun c x p hc hx hp=>.same (hof c x p hc hp) hx hp rfl rfl
 | some p =>
   obtain⟨js,ok,hS⟩:=hR.obj b true sub p hb hjb
   let g:=zBU b H.length
   let J:=zK8 b H.length j js true
   have hJat:∀c,J c=if c<H.length then j c else js (c-H.length+1):=fun c=>by simp[J,zK8]
   have hle:JLe j J:=by
     intro c q hq;have hcl:c<H.length:=by
       rcases s2Z c H.length with h1 | h1
       · exact h1
       · rw[hR.dom c h1]at hq;cases hq
     rw[hJat,if_pos hcl];exact hq
   have hJ:∀i q,js i=some q->J (g i)=some q:=by
     intro i q hq;by_cases hi:i=0
     · subst hi
       rw[ok.root]at hq;cases hq;simp only[g,zBU,if_true];rw[hJat,if_pos hbl];exact hjb
     · simp only[g,zBU,if_neg hi]
       rw[hJat,if_neg (by omega),show H.length+(i-1)-H.length+1=i by omega];exact hq
   have hcase:∀c x q,(zo H b sub)[c]? = some x->J c=some q ->
       (c<H.length/\c≠b/\H[c]? = some x/\j c=some q)\/(∃i y,(c=b/\i=0\/c=H.length+(i-1)/\0<i)/\sub[i]? = some y/\x=reB g y/\js i=some q):=by
     intro c x q hc hq;rw[hJat]at hq;unfold zo at hc;rw[s7Z,r8Z]at hc;split at hc <;> rename_i hcl
     · rw[if_pos hcl]at hq
       by_cases hcb:c=b
       · subst hcb
         rw[qgZ hcl]at hc;obtain⟨B,hB,_⟩:=ok.own;rw[q2Z,hB]at hc;rw[hjb]at hq;cases hq;exact .inr ⟨0,B,.inl ⟨rfl,rfl⟩,hB,(Option.some.inj hc).symm,ok.root⟩
       · rw[qfZ (Ne.symm hcb)]at hc
         exact .inl ⟨hcl,hcb,hc,hq⟩
     · rw[if_neg hcl]at hq
       rw[qzZ,r5Z]at hc;obtain⟨y,hy,rfl⟩:=qlZ.1 hc;exact .inr ⟨c-H.length+1,y,.inr ⟨by omega,by omega⟩,by rw[<-hy];congr 1;omega,rfl,hq⟩
   have hfoot:∀c i,(c=b/\i=0\/c=H.length+(i-1)/\0<i)->J.foot c=js.foot i/\J.shr c=js.shr i:=by
     rintro c i (⟨rfl,rfl⟩ | ⟨rfl,hi⟩)
     · simp[J,zK8]
     · have h1:¬H.length+(i-1)=b:=by omega
       have h2:¬H.length+(i-1)<H.length:=by omega
       have h3:H.length+(i-1)-H.length+1=i:=by omega
       simp only[J,zK8,h1,h2,h3,if_false,and_self]
   have hfootH:∀c,c<H.length->c≠b->J.foot c=j.foot c/\J.shr c=j.shr c:=by
     intro c h1 h2;simp only[J,zK8,if_neg h2,if_pos h1,and_self]
   have subO:∀(i:Nat) y q c x,(c=b/\i=0\/c=H.length+(i-1)/\0<i)->sub[i]? = some y->x=reB g y->js i=some q->x.own=true->y.own=true/\∀u,(u=q.blk\/u∈Zu J x c)->(u=q.blk\/u∈Zu js y i):=by
     rintro i y q c x hc hy rfl hq ho;refine ⟨by rwa [zGz]at ho,fun u hu=>hu.imp id (zAq (fun h=>⟨(zEq g h).symm,hfoot c i hc⟩) u)⟩
   have subT:∀(i:Nat) y q c x,(c=b/\i=0\/c=H.length+(i-1)/\0<i)->sub[i]? = some y->x=reB g y->js i=some q->x≠.dead->y≠.dead/\∀u,(u=q.blk\/u∈ZN J x c)->(u=q.blk\/u∈ZN js y i):=by
     rintro i y q c x hc hy rfl hq hx;exact⟨zKb hx,fun u hu=>hu.imp id (zA1 (fun h=>⟨(zEq g h).symm,hfoot c i hc⟩) u)⟩
   have oldO:∀c y,c<H.length->c≠b->∀u,u∈Zu J y c->u∈Zu j y c:=fun c y h1 h2 u=>zAq (fun _=>⟨rfl,hfootH c h1 h2⟩) u;have oldT:∀c y,c<H.length->c≠b->∀u,u∈ZN J y c->u∈ZN j y c:=fun c y h1 h2 u=>zA1 (fun _=>⟨rfl,hfootH c h1 h2⟩) u;have mine:∀(i:Nat) y q u,sub[i]? = some y->y.own=true->js i=some q->(u=q.blk\/u∈Zu js y i)->u=p.blk\/u∈Zu j (.obj true sub) b:=by
     intro i y q u hy ho hq hu;have hm:=ok.mine i y q hy ho hq;rcases hu with rfl | hu
     · by_cases hi:i=0
       · subst hi;rw[ok.root]at hq;cases hq;exact .inl rfl
       · exact .inr (hm.1 hi)
     · exact .inr (hm.2 u hu)
   have all:∀(i:Nat) y q u,sub[i]? = some y->y≠.dead->js i=some q->(u=q.blk\/u∈ZN js y i)->u=p.blk\/u∈ZN j (.obj true sub) b:=by
     intro i y q u hy ho hq hu;exact ok.tch ⟨i,y,q,hy,ho,hq,hu⟩
   have ap:∀c c' y x q q',(zo H b sub)[c]? = some y->y.own=true->(zo H b sub)[c']? = some x->x≠.dead->c≠c'->J c=some q->J c'=some q'->∀u,(u=q.blk\/u∈Zu J y c)->¬(u=q'.blk\/u∈ZN J x c'):=by
     intro c c' y x q q' hc hy hc' hx hne hq hq' u hu hv;rcases hcase c y q hc hq with⟨g1,g2,g3,g4⟩ | ⟨i,z,g1,g2,g3,g4⟩ <;> rcases hcase c' x q' hc' hq' with⟨k1,k2,k3,k4⟩ | ⟨i',z',k1,k2,k3,k4⟩
     · exact hR.apart g3 hy k3 hx hne g4 k4 (hu.imp id (oldO c y g1 g2 u)) (hv.imp id (oldT c' x k1 k2 u))
     · obtain⟨t1,t2⟩:=subT i' z' q' c' x k1 k2 k3 k4 hx
       exact hR.apart g3 hy hb (by simp) g2 g4 hjb (hu.imp id (oldO c y g1 g2 u)) (all i' z' q' u k2 t1 k4 (t2 u hv))
     · obtain⟨t1,t2⟩:=subO i z q c y g1 g2 g3 g4 hy
       exact hR.apart hb rfl k3 hx (Ne.symm k2) hjb k4 (mine i z q u g2 t1 g4 (t2 u hu)) (hv.imp id (oldT c' x k1 k2 u))
     · obtain⟨t1,t2⟩:=subO i z q c y g1 g2 g3 g4 hy
       obtain⟨t3,t4⟩:=subT i' z' q' c' x k1 k2 k3 k4 hx;refine hS.apart g2 t1 k2 t3 ?_ g4 k4 (t2 u hu) (t4 u hv);rintro rfl;apply hne;rcases g1 with⟨rfl,h1⟩ | ⟨rfl,h1⟩ <;> rcases k1 with⟨rfl,h2⟩ | ⟨rfl,h2⟩ <;> omega
   have frs:∀u,Occ J (zo H b sub) u->w.heap.size<=u\/Occ j H u:=by
     rintro u ⟨c,y,q,hc,hy,hq,hu⟩;rcases hcase c y q hc hq with⟨g1,g2,g3,g4⟩ | ⟨i,z,g1,g2,g3,g4⟩
     · exact .inr ⟨c,y,q,g3,hy,g4,hu.imp id (oldO c y g1 g2 u)⟩
     · obtain⟨t1,t2⟩:=subO i z q c y g1 g2 g3 g4 hy
       exact .inr ⟨b,_,p,hb,rfl,hjb,mine i z q u g2 t1 g4 (t2 u hu)⟩
   refine ⟨J,hle,R.mk' (fun c hc=>?_) (fun c x q hc hq=>?_) (fun c c' y x q q' hc hy hc' hx hne hq hq'=>(zBk (ap c c' y x q q' hc hy hc' hx hne hq hq')).1) (fun c c' y x q q' hc hy hc' hx hne hq hq'=>(zBk (ap c c' y x q q' hc hy hc' hx hne hq hq')).2) (fun c o s q hc hq=>?_) (hR.glo.next (qnZ _) (fun _ _ _=>rfl) frs),
     fun c hc=>?_,(by unfold zo;simp;omega),Keeps.refl _ _ _,frs,?_⟩
   · unfold zo at hc
     simp only[qdZ,r8Z,r7Z,qkZ]at hc;obtain⟨B,hB,_⟩:=ok.own;have:=(q1Z.1 hB).1;rw[hJat,if_neg (by omega)];exact hS.dom _ (by omega)
   · rcases hcase c x q hc hq with⟨g1,g2,g3,g4⟩ | ⟨i,z,g1,g2,rfl,g4⟩
     · exact (hR.blk c x q g3 g4).mono hle fun _=>rfl
     · exact zOP hJ (hS.blk i z q g2 g4)
   · rcases hcase c _ q hc hq with⟨g1,g2,g3,g4⟩ | ⟨i,z,g1,g2,g3,g4⟩
     · rw[(hfootH c g1 g2).1,(hfootH c g1 g2).2]
       exact hR.obj c o s q g3 g4
     · have hz:z=.obj o s:=by
         have h1:(reB g z).isObj=true:=by rw[<-g3];rfl
         rw[<-zEq g h1];exact g3.symm
       rw[(hfoot c i g1).1,(hfoot c i g1).2];exact hS.obj i o s q (by rw[<-hz];exact g2) g4
   · rw[hJat,if_pos (by omega)]
   · rintro u ⟨c,y,q,hc,hy,hq,hu⟩
     rcases hcase c y q hc hq with⟨g1,g2,g3,g4⟩ | ⟨i,z,g1,g2,g3,g4⟩
     · exact .inr ⟨c,y,q,g3,hy,g4,hu.imp id (oldT c y g1 g2 u)⟩
     · obtain⟨t1,t2⟩:=subT i z q c y g1 g2 g3 g4 (zEo hy)
       exact .inr ⟨b,_,p,hb,rfl,hjb,all i z q u g2 t1 g4 (t2 u hu)⟩
def zC1(H:zA):List Nat->zA
 | []=>H
 | k::ks=>zC1 (H.set k .dead) ks
theorem ZT:∀(ks:List Nat) (H:zA),(zC1 H ks).length=H.length
 | [],_=>rfl
 | k::ks,H=>by rw[zC1,ZT ks,r8Z]
theorem zHl:∀(ks:List Nat) (H:zA) (c:Nat) (x:ABlk),(zC1 H ks)[c]? = some x->x≠.dead->c∉ks/\H[c]? = some x
 | [],H,c,x,h,_=>⟨by simp,h⟩
 | k::ks,H,c,x,h,hx=>by
   obtain⟨h1,h2⟩:=zHl ks _ c x h hx;rw[List.getElem?_set]at h2;split at h2
   · split at h2
     · cases h2;exact absurd rfl hx
     · cases h2
   · rename_i hne
     exact⟨by simp only[qwZ,not_or];exact⟨fun e=>hne e.symm,h1⟩,h2⟩
def ZF(H:zA)(b:Nat)(ks:List Nat)(o:Bool)(sub:zA):zA:=(zC1 H ks).set b (.obj o sub)
def zUs(js:Inj)(sub:zA)(i:Nat):List Nat:=match js i with
 | some q=>if (sub.getD i .dead).own=true then (if i=0 then [] else [q.blk])++Zu js (sub.getD i .dead) i else []
 | none=>[]
def zUw(js:Inj)(sub:zA)(i:Nat):List Nat:=match js i with
 | some q=>if (sub.getD i .dead).str=true then (if i=0 then [] else [q.blk])++ZN js (sub.getD i .dead) i else []
 | none=>[]
def zOw(js:Inj)(sub:zA):List Nat:=(List.range sub.length).flatMap (zUs js sub)
def zTQ(js:Inj)(sub:zA):List Nat:=(List.range sub.length).flatMap (zUw js sub)
theorem mem_footL{js:Inj}{sub:zA}{u:Nat}:u∈zOw js sub↔∃(i:Nat) (y:ABlk) (q:JB),sub[i]? = some y/\y.own=true/\js i=some q/\(i≠0/\u=q.blk\/u∈Zu js y i):=by
 unfold zOw;rw[List.mem_flatMap];constructor
 · rintro⟨i,hi,hu⟩
   have hil:i<sub.length:=List.mem_range.1 hi;have hg:sub.getD i .dead=sub[i]:=by rw[q2Z,q3Z hil];rfl
   unfold zUs at hu;split at hu
   · rename_i q hq
     rw[hg]at hu;split at hu
     · rename_i ho
       rcases qxZ.1 hu with h1 | h1
       · split at h1
         · cases h1
         · rename_i h0
           exact⟨i,_,q,q3Z hil,ho,hq,.inl ⟨h0,by simpa using h1⟩⟩
       · exact⟨i,_,q,q3Z hil,ho,hq,.inr h1⟩
     · cases hu
   · cases hu
 · rintro⟨i,y,q,hy,ho,hq,hu⟩
   have hil:i<sub.length:=(q1Z.1 hy).1;refine ⟨i,List.mem_range.2 hil,?_⟩;unfold zUs;rw[hq];simp only[q2Z,hy,rgZ];rw[if_pos ho,qxZ];rcases hu with⟨h0,rfl⟩ | hu
   · rw[if_neg h0];exact .inl (by simp)
   · exact .inr hu
theorem mem_shrL{js:Inj}{sub:zA}{u:Nat}:u∈zTQ js sub↔∃(i:Nat) (y:ABlk) (q:JB),sub[i]? = some y/\y.str=true/\js i=some q/\(i≠0/\u=q.blk\/u∈ZN js y i):=by
 unfold zTQ;rw[List.mem_flatMap];constructor
 · rintro⟨i,hi,hu⟩
   have hil:i<sub.length:=List.mem_range.1 hi;have hg:sub.getD i .dead=sub[i]:=by rw[q2Z,q3Z hil];rfl
   unfold zUw at hu;split at hu
   · rename_i q hq
     rw[hg]at hu;split at hu
     · rename_i ho
       rcases qxZ.1 hu with h1 | h1
       · split at h1
         · cases h1
         · rename_i h0
           exact⟨i,_,q,q3Z hil,ho,hq,.inl ⟨h0,by simpa using h1⟩⟩
       · exact⟨i,_,q,q3Z hil,ho,hq,.inr h1⟩
     · cases hu
   · cases hu
 · rintro⟨i,y,q,hy,ho,hq,hu⟩
   have hil:i<sub.length:=(q1Z.1 hy).1;refine ⟨i,List.mem_range.2 hil,?_⟩;unfold zUw;rw[hq];simp only[q2Z,hy,rgZ];rw[if_pos ho,qxZ];rcases hu with⟨h0,rfl⟩ | hu
   · rw[if_neg h0];exact .inl (by simp)
   · exact .inr hu
theorem Step.close{n:Nat}{j:Inj}{H:zA}{w:World}(hR:R j H w){b:Nat}{rs ks:List Nat}{sub:zA}{o:Bool}(h0:rs[0]? = some b)(hnd:rs.Nodup)(hbl:b<H.length)(hks:∀c x,c∈rs->c≠b->H[c]? = some x->x.own=true->c∈ks)(hh:AWg rs H sub rs)
   (hown:∃B,sub[0]? = some B/\B.own=true) (hstr:∀(i:Nat) (y:ABlk),sub[i]? = some y->y≠.dead->y.str=true) (hn:n<=H.length) :
   ∃j',(∀c p,j c=some p->j' c=some p)/\Step n j H w j' (ZF H b ks o sub) w:=by
 obtain⟨hl,hat⟩:=hh.at
 let js:=zDT rs j
 have hS:R js sub w:=hR.ren hnd hh;have hbm:b∈rs:=qcZ h0
 let J:Inj:=⟨j.fn,fun c=>if c=b then zOw js sub else j.foot c,fun c=>if c=b then zTQ js sub else j.shr c⟩
 have hJ:∀c,J c=j c:=fun _=>rfl;have hcase:∀c x,(ZF H b ks o sub)[c]? = some x->x≠.dead->(c≠b/\c∉ks/\H[c]? = some x)\/(c=b/\x=.obj o sub):=by
   intro c x hc hx;unfold ZF at hc;by_cases hcb:c=b
   · subst hcb
     rw[qgZ (by rw[ZT];exact hbl)]at hc;exact .inr ⟨rfl,(Option.some.inj hc).symm⟩
   · rw[qfZ (Ne.symm hcb)]at hc
     obtain⟨h1,h2⟩:=zHl _ _ _ _ hc hx;exact .inl ⟨hcb,h1,h2⟩
 have hfr:∀(i c:Nat),rs[i]? = some c->js.foot i=j.foot c/\js.shr i=j.shr c:=by
   intro i c hi;have hg:rs.getD i 0=c:=by rw[q2Z,hi];rfl
   exact⟨by show j.foot (rs.getD i 0)=_;rw[hg],by show j.shr (rs.getD i 0)=_;rw[hg]⟩
 have hsub:∀(i:Nat) y q,sub[i]? = some y->js i=some q->∃c z,rs[i]? = some c/\c∈rs/\j c=some q/\H[c]? = some z/\AWb rs y z:=by
   intro i y q hy hq;obtain⟨c,h1,h2⟩:=s6Z.1 hq;have hm:=qcZ h1;have hcl:c<H.length:=by
     rcases s2Z c H.length with h3 | h3
     · exact h3
     · rw[hR.dom c h3]at h2;cases h2
   obtain⟨z,h3,h4⟩:=hat i y c hy h1 hcl;exact⟨c,z,h1,hm,h2,h3,h4⟩
 have occS:∀u,Occ js sub u->∃c z q,c∈rs/\H[c]? = some z/\z.own=true/\j c=some q/\(u=q.blk\/u∈Zu j z c):=by
   rintro u ⟨i,y,q,hy,ho,hq,hu⟩;obtain⟨c,z,h1,h2,h3,h4,h5⟩:=hsub i y q hy hq;exact⟨c,z,q,h2,h4,h5.own ho,h3,hu.imp id (zAq (fun h=>⟨h5.obj h,hfr i c h1⟩) u)⟩
 have tchS:∀u,Tch js sub u->∃c z q,c∈rs/\H[c]? = some z/\z.str=true/\j c=some q/\(u=q.blk\/u∈ZN j z c):=by
   rintro u ⟨i,y,q,hy,hd,hq,hu⟩;obtain⟨c,z,h1,h2,h3,h4,h5⟩:=hsub i y q hy hq;exact⟨c,z,q,h2,h4,zKK h5.own h5.obj (hstr i y hy hd),h3,hu.imp id (zA1 (fun h=>⟨h5.obj h,hfr i c h1⟩) u)⟩
 have hjs0:js 0=j b:=by show (rs[0]?).bind j=_;rw[h0];rfl
 have foot_occ:∀u,u∈zOw js sub->Occ js sub u:=by
   intro u hu;obtain⟨i,y,q,h1,h2,h3,h4⟩:=mem_footL.1 hu;exact⟨i,y,q,h1,h2,h3,h4.imp (·.2) id⟩
 have shr_tch:∀u,u∈zTQ js sub->Tch js sub u:=by
   intro u hu;obtain⟨i,y,q,h1,h2,h3,h4⟩:=mem_shrL.1 hu;exact⟨i,y,q,h1,zEo h2,h3,h4.imp (·.2) id⟩
 have rootO:∀p,j b=some p->Occ js sub p.blk:=by
   intro p hp;obtain⟨B,h1,h2⟩:=hown;exact⟨0,B,p,h1,h2,hjs0.trans hp,.inl rfl⟩
 have objT:∀p u,j b=some p->(u=p.blk\/u∈ZN J (.obj o sub) b)->Tch js sub u:=by
   intro p u hp hu;rcases hu with rfl | hu
   · exact (rootO p hp).tch
   · simp only[ZN,J,if_true,qxZ]at hu
     rcases hu with hu | hu
     · exact (foot_occ u hu).tch
     · exact shr_tch u hu
 have objO:∀p u,j b=some p->o=true->(u=p.blk\/u∈Zu J (.obj o sub) b)->Occ js sub u:=by
   intro p u hp ho hu;subst ho;rcases hu with rfl | hu
   · exact rootO p hp
   · simp only[Zu,J,if_true]at hu
     exact foot_occ u hu
 have oldF:∀c,c≠b->J.foot c=j.foot c/\J.shr c=j.shr c:=fun c h=>by simp only[J,if_neg h,and_self]
 have ap:∀c c' y x q q',(ZF H b ks o sub)[c]? = some y->y.own=true->(ZF H b ks o sub)[c']? = some x->x≠.dead->c≠c'->J c=some q->J c'=some q'->∀u,(u=q.blk\/u∈Zu J y c)->¬(u=q'.blk\/u∈ZN J x c'):=by
   intro c c' y x q q' hc hy hc' hx hne hq hq' u hu hv;rcases hcase c y hc (Zj hy) with⟨g1,g2,g3⟩ | ⟨rfl,rfl⟩ <;> rcases hcase c' x hc' hx with⟨k1,k2,k3⟩ | ⟨rfl,rfl⟩
   · exact hR.apart g3 hy k3 hx hne hq hq' (hu.imp id (zAq (fun _=>⟨rfl,oldF c g1⟩) u)) (hv.imp id (zA1 (fun _=>⟨rfl,oldF c' k1⟩) u))
   · obtain⟨c0,z,q0,m1,m2,m3,m4,m5⟩:=tchS u (objT q' u hq' hv)
     exact hR.apart g3 hy m2 (zEo m3) (fun e=>g2 (hks c y (e▸m1) g1 g3 hy)) hq m4 (hu.imp id (zAq (fun _=>⟨rfl,oldF c g1⟩) u)) m5
   · obtain⟨c0,z,q0,m1,m2,m3,m4,m5⟩:=occS u (objO q u hq hy hu)
     exact hR.apart m2 m3 k3 hx (fun e=>k2 (hks c' z (e▸m1) k1 (e▸m2) m3)) m4 hq' m5 (hv.imp id (zA1 (fun _=>⟨rfl,oldF c' k1⟩) u))
   · exact hne rfl
 have frs:∀u,Occ J (ZF H b ks o sub) u->w.heap.size<=u\/Occ j H u:=by
   rintro u ⟨c,y,q,hc,hy,hq,hu⟩;rcases hcase c y hc (Zj hy) with⟨g1,g2,g3⟩ | ⟨rfl,rfl⟩
   · exact .inr ⟨c,y,q,g3,hy,hq,hu.imp id (zAq (fun _=>⟨rfl,oldF c g1⟩) u)⟩
   · obtain⟨c0,z,q0,m1,m2,m3,m4,m5⟩:=occS u (objO q u hq hy hu)
     exact .inr ⟨c0,z,q0,m2,m3,m4,m5⟩
 refine ⟨J,fun c p h=>h,R.mk' (fun c hc=>?_) (fun c x q hc hq=>?_) (fun c c' y x q q' hc hy hc' hx hne hq hq'=>(zBk (ap c c' y x q q' hc hy hc' hx hne hq hq')).1) (fun c c' y x q q' hc hy hc' hx hne hq hq'=>(zBk (ap c c' y x q q' hc hy hc' hx hne hq hq')).2) (fun c o' s q hc hq=>?_) (hR.glo.next (qnZ _) (fun _ _ _=>rfl) frs),
   fun c _=>rfl,(by unfold ZF;rw[r8Z,ZT];exact hn),Keeps.refl _ _ _,frs,?_⟩
 · unfold ZF at hc
   rw[r8Z,ZT]at hc;exact hR.dom c hc
 · by_cases hd:x=.dead
   · subst hd;trivial
   rcases hcase c x hc hd with⟨g1,g2,g3⟩ | ⟨rfl,rfl⟩
   · exact (hR.blk c x q g3 hq).mono (fun _ _ h=>h) fun _=>rfl
   · trivial
 · rcases hcase c _ hc (by simp) with⟨g1,g2,g3⟩ | ⟨rfl,e⟩
   · rw[(oldF c g1).1,(oldF c g1).2]
     exact hR.obj c o' s q g3 hq
   · cases e
     refine ⟨js,⟨hjs0.trans hq,hown,hS.nd (rootO q hq).tch,fun u hu=>hS.nd (objT q u hq (.inr (by simpa only[ZN] using hu))),?_,hstr,?_⟩,hS⟩
     · intro i y p hy ho hp
       simp only[J,if_true];exact⟨fun hi=>mem_footL.2 ⟨i,y,p,hy,ho,hp,.inl ⟨hi,rfl⟩⟩,fun u hu=>mem_footL.2 ⟨i,y,p,hy,ho,hp,.inr hu⟩⟩
     · intro i y p hy hd hp
       simp only[J,if_true,qxZ];exact⟨fun hi=>.inr (mem_shrL.2 ⟨i,y,p,hy,hstr i y hy hd,hp,.inl ⟨hi,rfl⟩⟩),fun u hu=>.inr (mem_shrL.2 ⟨i,y,p,hy,hstr i y hy hd,hp,.inr hu⟩)⟩
 · rintro u ⟨c,y,q,hc,hy,hq,hu⟩
   rcases hcase c y hc (zEo hy) with⟨g1,g2,g3⟩ | ⟨rfl,rfl⟩
   · exact .inr ⟨c,y,q,g3,hy,hq,hu.imp id (zA1 (fun _=>⟨rfl,oldF c g1⟩) u)⟩
   · obtain⟨c0,z,q0,m1,m2,m3,m4,m5⟩:=tchS u (objT q u hq hu)
     exact .inr ⟨c0,z,q0,m2,m3,m4,m5⟩
def Aft(n0:Nat)(F:List AV)(H:zA)(K:List AV->zA->Prop):Prop :=
 ∀(j:Inj) (w:World) (vs:List Value),R j H w->VRs j F vs->∃F2 H2 j2,K F2 H2/\VRs j2 F2 vs/\Step n0 j H w j2 H2 w
theorem Aft.done{n0:Nat}{F:List AV}{H:zA}{K:List AV->zA->Prop}(hn:n0<=H.length)(h:K F H):Aft n0 F H K :=
 fun j _ _ hR hF=>⟨F,H,j,h,hF,Step.refl hR hn⟩
theorem Aft.weak{n0:Nat}{F Fn:List AV}{H Hn:zA}{K:List AV->zA->Prop}(hw:Weak n0 F H Fn Hn)(hn:n0<=H.length)(h:Aft n0 Fn Hn K):Aft n0 F H K:=by
 intro j w vs hR hF;obtain⟨j1,s1,v1⟩:=hw.step (qnZ _) (Step.refl hR hn) hF;obtain⟨F2,H2,j2,h1,h2,h3⟩:=h j1 w vs s1.rel v1;exact⟨F2,H2,j2,h1,h2,s1.trans h3 (qnZ _)⟩
theorem Aft.open{n0:Nat}{F:List AV}{H:zA}{K:List AV->zA->Prop}{b:Nat}{sub:zA}(hb:H[b]? = some (.obj true sub))(hn:n0<=H.length)(h:Aft n0 F (zo H b sub) K):Aft n0 F H K:=by
 intro j w vs hR hF;obtain⟨j1,hle,s1⟩:=Step.open hR hb hn;obtain⟨F2,H2,j2,h1,h2,h3⟩:=h j1 w vs s1.rel (VRs.mono hle _ _ hF);exact⟨F2,H2,j2,h1,h2,s1.trans h3 (qnZ _)⟩
theorem Aft.close{n0:Nat}{F:List AV}{H:zA}{K:List AV->zA->Prop}{b:Nat}{rs ks:List Nat}{sub:zA}{o:Bool}(h0:rs[0]? = some b)(hnd:rs.Nodup)(hbl:b<H.length)(hks:∀c x,c∈rs->c≠b->H[c]? = some x->x.own=true->c∈ks)(hh:AWg rs H sub rs)
   (hown:∃B,sub[0]? = some B/\B.own=true) (hstr:∀(i:Nat) (y:ABlk),sub[i]? = some y->y≠.dead->y.str=true) (hn:n0<=H.length) (h:Aft n0 F (ZF H b ks o sub) K):Aft n0 F H K:=by
 intro j w vs hR hF;obtain⟨j1,hle,s1⟩:=Step.close (o:=o) hR h0 hnd hbl hks hh hown hstr hn;obtain⟨F2,H2,j2,h1,h2,h3⟩:=h j1 w vs s1.rel (VRs.mono hle _ _ hF);exact⟨F2,H2,j2,h1,h2,s1.trans h3 (qnZ _)⟩
theorem Sim.aft{P:Program}{r:Option Nat}{n0:Nat}{c:Code}{F:List AV}{H:zA}{Q:AX->List AV->zA->Prop}(h:Aft n0 F H fun F' H'=>Sim P r n0 c F' H' Q):Sim P r n0 c F H Q:=by
 intro B j w a m hB hR hF hd;obtain⟨F2,H2,j2,h1,h2,h3⟩:=h j w _ hR hF;refine wpIn_mono (h1 B j2 w a m hB h3.rel h2 hd) ?_;rintro e a' w' ⟨x,F',H',j3,g1,g2,g3,g4,g5⟩;exact⟨x,F',H',j3,g1,g2,g3,g4,h3.trans g5 (qnZ _)⟩
theorem Sim.after{P:Program}{r:Option Nat}{n0:Nat}{c:Code}{F:List AV}{H:zA}{Q:AX->List AV->zA->Prop}
   (h:Sim P r n0 c F H fun e F' H'=>Aft n0 F' H' (Q e)):Sim P r n0 c F H Q:=by
 intro B j w a m hB hR hF hd;refine wpIn_mono (h B j w a m hB hR hF hd) ?_;rintro e a' w' ⟨x',F',H',j',rfl,h2,h3,h4,h5⟩;obtain⟨F2,H2,j2,g1,g2,g3⟩:=h2 j' w' _ h5.rel h3;exact⟨x',F2,H2,j2,rfl,g1,g2,h4,h5.trans g3 (qnZ _)⟩
def LessF:List AV->List AV->Prop
 | [],[]=>True
 | x::xs,y::ys=>(x=.top\/x=y)/\LessF xs ys
 | _,_=>False
theorem LessF.ok{j:Inj}:∀{xs ys:List AV} {vs:List Value},LessF xs ys->VRs j ys vs->VRs j xs vs
 | [],[],_,_,h=>h
 | x::xs,y::ys,vs,h,hv=>by
   simp only[VRs]at hv ⊢;obtain⟨v,ws,e,h1,h2⟩:=hv;refine ⟨v,ws,e,?_,LessF.ok h.2 h2⟩;rcases h.1 with rfl | rfl
   · simp[VR]
   · exact h1
 | [],_::_,_,h,_=>h.elim
 | _::_,[],_,h,_=>h.elim
theorem Sim.less{P:Program}{r:Option Nat}{n0:Nat}{c:Code}{F Fn:List AV}{H:zA}{Q:AX->List AV->zA->Prop}(hl:LessF Fn F)(h:Sim P r n0 c Fn H Q):Sim P r n0 c F H Q :=
 fun B j w a m hB hR hF hd=>h B j w a m hB hR (hl.ok hF) hd
theorem Sim.loopS{P:Program}{r:Option Nat}{n0:Nat}{x:Code}{Q:AX->List AV->zA->Prop}{σ:Type}(I:σ->Prop)(Fs:σ->List AV)(Hs:σ->zA)(μ:σ->Nat)(s0:σ){F:List AV}{H:zA}(hn:n0<=H.length)(hI:I s0)(h0:LessF (Fs s0) F/\H=Hs s0)
   (round:∀s,I s->Sim P r n0 x (Fs s) (Hs s) fun e F' H'=>match e with | .normal=>∃s',I s'/\(LessF (Fs s') F'/\H'=Hs s')/\μ s'<μ s | e=>Q e F' H'):Sim P r n0 (.loop x) F H Q:=by
 refine Sim.loop (fun s F H=>I s/\(LessF (Fs s) F/\H=Hs s)) μ s0 hn ⟨hI,h0⟩ fun s F H hn ⟨hi,hw⟩=>?_;obtain⟨h1,rfl⟩:=hw;refine Sim.less h1 ((round s hi).mono fun e F' H' _ hq=>?_);cases e with
 | normal =>
   obtain⟨s',h1,h2,h3⟩:=hq;exact⟨s',⟨h1,h2⟩,h3⟩
 | exit id=>exact hq
 | ret=>exact hq
attribute [simp] LessF
end
section
open Go
theorem zCI:∀(ks:List Nat) (H:zA) (c:Nat),c∉ks->(zC1 H ks)[c]? = H[c]?
 | [],_,_,_=>rfl
 | k::ks,H,c,h=>by
   simp only[qwZ,not_or]at h;rw[zC1,zCI ks _ c h.2,qfZ (Ne.symm h.1)]
theorem zK1{H:zA}{ks:List Nat}{b:Nat}{o:Bool}{sub:zA}(hb:b<H.length):(ZF H b ks o sub).getD b .dead=.obj o sub:=by
 unfold ZF;rw[q2Z,qgZ (by rw[ZT];exact hb)];rfl
theorem zKf{H:zA}{ks:List Nat}{b c:Nat}{o:Bool}{sub:zA}(hcb:c≠b)(hc:c∉ks):(ZF H b ks o sub).getD c .dead=H.getD c .dead:=by
 unfold ZF;simp only[q2Z];rw[qfZ (Ne.symm hcb),zCI _ _ _ hc]
@[simp] theorem zSy(H:zA)(b:Nat)(ks:List Nat)(o:Bool)(sub:zA):(ZF H b ks o sub).length=H.length:=by simp[ZF,ZT]
theorem zR{H:zA}{ks:List Nat}{b:Nat}{o:Bool}{sub:zA}{rn:List Nat}(hb:b<H.length):∀(Hn:zA) (cs:List Nat),Hn.length=cs.length ->
   (∀(i c:Nat) (x:ABlk),cs[i]? = some c->Hn[i]? = some x->c=b/\x=.obj o sub\/(c≠b/\c∉ks)/\AWb rn x (H.getD c .dead))->AWg rn (ZF H b ks o sub) Hn cs
 | [],cs,h,_=>by
   have:cs=[]:=List.eq_nil_of_length_eq_zero (by simpa using h.symm);subst this;trivial
 | x::Hn,[],h,_=>by simp at h
 | x::Hn,c::cs,h,hall=>by
   refine ⟨?_,zR hb Hn cs (by simpa using h) fun i c x h1 h2=>hall (i+1) c x (by simpa using h1) (by simpa using h2)⟩;split
   · rcases hall 0 c x rfl rfl with⟨rfl,rfl⟩ | ⟨⟨h1,h3⟩,h2⟩
     · rw[zK1 hb];exact⟨rfl,rfl⟩
     · rw[zKf h1 h3];exact h2
   · trivial
theorem Aft.freeze{n0:Nat}{F:List AV}{H:zA}{K:List AV->zA->Prop}(q:Nat)(y:AV)(hq:H[q]? = some (.cells true [y]))(hy:∀rn,AW rn y y)(hn:n0<=H.length)
   (h:Aft n0 F (H.set q (.obj false [.cells true [y]])) K):Aft n0 F H K:=by
 refine Aft.close (b:=q) (rs:=[q]) (ks:=[]) (sub:=[.cells true [y]]) (o:=false) rfl (by simp) (q1Z.1 hq).1 (fun c x hc hne _ _=>absurd (by simpa using hc) hne) ⟨?_,trivial⟩ ⟨_,rfl,rfl⟩ (fun i z h _=>?_) hn h
 · split
   · rw[q2Z,hq]
     exact⟨fun h=>h,hy _,trivial⟩
   · trivial
 · match i,h with
   | 0,h=>cases h;rfl
inductive FAct where
 | add (s:List UInt8)
 | cut (n:Nat)
structure PF where
 d:List UInt8
 acts:List FAct
def FAct.run(a:FAct)(s:List UInt8):List UInt8:=match a with
 | .add m=>s++m
 | .cut n=>s.take n
def zD5(s:List UInt8):List FAct->List UInt8
 | []=>s
 | a::l=>zD5 (a.run s) l
def PF.now(f:PF):List UInt8:=zD5 f.d f.acts
def fits(s:List UInt8):List FAct->Prop
 | []=>True
 | a::l=>(match a with | .add _=>True | .cut n=>n<=s.length)/\fits (a.run s) l
theorem zMi(s:List UInt8)(l m:List FAct):zD5 s (l++m)=zD5 (zD5 s l) m:=by
 induction l generalizing s with
 | nil=>rfl
 | cons a l ih=>exact ih _
theorem zMx(s:List UInt8)(l m:List FAct):fits s (l++m)↔fits s l/\fits (zD5 s l) m:=by
 induction l generalizing s with
 | nil=>simp[fits,zD5]
 | cons a l ih=>simp only[q9Z,fits,zD5,ih,and_assoc]
def FAct.fn(k:Nat):FAct->AV
 | .add _=>.func 195 [] [.ptr k 0]
 | .cut _=>.func 309 [] [.ptr k 0]
def FAct.box:FAct->ABlk
 | .add s=>.obj false [.cells true [.str s]]
 | .cut n=>.obj false [.cells true [.int .i64 n]]
def zNl:Nat->List FAct->List AV
 | _,[]=>[]
 | k,a::l=>a.fn k::zNl (k+1) l
def zVF:List Nat->List FAct->List AV
 | b::bs,a::l=>a.fn b::zVF bs l
 | _,_=>[]
@[simp] theorem zMp:∀(l:List FAct) (k:Nat),(zNl k l).length=l.length
 | [],_=>rfl
 | a::l,k=>by simp[zNl,zMp l]
def PF.blks(f:PF):zA:=.cells true [.str f.d,.sl 1 0 f.acts.length 1 false,.str f.now]::.cells true (zNl 2 f.acts)::f.acts.map FAct.box
theorem zLk(rs:List Nat):∀(l:List FAct) (k:Nat) (bs:List Nat),bs.length=l.length->(∀i,i<bs.length->rs[k+i]? = bs[i]?)->AWs rs (zNl k l) (zVF bs l)
 | [],k,bs,h,_=>by
   have:bs=[]:=List.eq_nil_of_length_eq_zero (by simpa using h);subst this;trivial
 | a::l,k,b::bs,h,hr=>by
   have h0:=hr 0 (by simp);simp only[Nat.add_zero,raZ]at h0;have ih:=zLk rs l (k+1) bs (by simpa using h) fun i hi=>by
     have:=hr (i+1) (by simpa using hi);rw[show k+1+i=k+(i+1) by omega,this];simp
   cases a <;> exact⟨⟨rfl,trivial,⟨h0,rfl⟩,trivial⟩,ih⟩
 | a::l,k,[],h,_=>by simp at h
theorem zJO(rs:List Nat)(H:zA):∀(l:List FAct) (bs:List Nat),bs.length=l.length->(∀(i b:Nat) (a:FAct),bs[i]? = some b->l[i]? = some a->H[b]? = some a.box)->AWg rs H (l.map FAct.box) bs
 | [],bs,h,_=>by
   have:bs=[]:=List.eq_nil_of_length_eq_zero (by simpa using h);subst this;trivial
 | a::l,b::bs,h,hr=>by
   have h0:=hr 0 b a rfl rfl;simp only[s1Z,AWg];refine ⟨?_,zJO rs H l bs (by simpa using h) fun i b a h1 h2=>hr (i+1) b a (by simpa using h1) (by simpa using h2)⟩;split
   · rw[q2Z,h0]
     cases a <;> exact⟨rfl,rfl⟩
   · trivial
 | a::l,[],h,_=>by simp at h
theorem Aft.closeF{n0:Nat}{F:List AV}{H:zA}{K:List AV->zA->Prop}(f:PF)(b r1:Nat)(bs:List Nat){x:AV}{o:Bool}
   (hb:H[b]? = some (.cells true [.str f.d,x,.str f.now])) (hx:AW (b::r1::bs) (.sl 1 0 f.acts.length 1 false) x)
   (hr:r1<H.length->H[r1]? = some (.cells true (zVF bs f.acts))) (hl:bs.length=f.acts.length) (hbx:∀(i k:Nat) (a:FAct),bs[i]? = some k->f.acts[i]? = some a->H[k]? = some a.box)
   (hnd:(b::r1::bs).Nodup) (hn:n0<=H.length) (h:Aft n0 F (ZF H b [r1] o f.blks) K):Aft n0 F H K:=by
 refine Aft.close (o:=o) (b:=b) (rs:=b::r1::bs) (ks:=[r1]) rfl hnd (q1Z.1 hb).1 ?_ ?_ ⟨_,rfl,rfl⟩ ?_ hn h
 · intro c x hc hcb hx ho
   rcases qwZ.1 hc with e | hc
   · exact absurd e hcb
   rcases qwZ.1 hc with e | hc
   · simp[e]
   obtain⟨i,hi⟩:=List.getElem?_of_mem hc;have hil:i<f.acts.length:=by rw[<-hl];exact (q1Z.1 hi).1
   have:=hbx i c _ hi (q3Z hil);rw[this]at hx;cases hx;cases hfa:f.acts[i] <;> rw[hfa]at ho <;> cases ho
 · refine ⟨?_,?_,zJO _ _ _ _ hl hbx⟩
   · split
     · rw[q2Z,hb]
       exact⟨fun h=>h,rfl,hx,rfl,trivial⟩
     · trivial
   · split
     · rename_i h1
       rw[q2Z,hr h1];exact⟨fun h=>h,zLk _ _ _ _ hl fun i _=>by rw[show 2+i=i+1+1 by omega];simp⟩
     · trivial
 · intro i y hy hd
   match i,hy with
   | 0,hy=>cases hy;rfl
   | 1,hy=>cases hy;rfl
   | i+2,hy =>
     simp only[PF.blks,r9Z,qzZ]at hy;obtain⟨a,_,rfl⟩:=qlZ.1 hy;cases a <;> rfl
def zR0:AV->ABlk->Option FAct
 | .func f _ _,.obj _ [.cells _ [.str s]]=>if f=195 then some (.add s) else none
 | .func f _ _,.obj _ [.cells _ [.int _ n]]=>if f=309/\0<=n then some (.cut n.toNat) else none
 | _,_=>none
def zKA:List AV->List ABlk->Option (List FAct)
 | [],[]=>some []
 | x::xs,B::Bs=>match zR0 x B,zKA xs Bs with
   | some a,some l=>some (a::l)
   | _,_=>none
 | _,_=>none
def zM6:zA->Option PF
 | .cells _ (.str d::_)::.cells _ row::bx=>(zKA row bx).map fun l=>⟨d,l⟩
 | _=>none
theorem zIT:∀(l:List FAct) (k:Nat),zKA (zNl k l) (l.map FAct.box)=some l
 | [],_=>rfl
 | a::l,k=>by
   have h:zR0 (a.fn k) a.box=some a:=by cases a <;> simp[FAct.fn,FAct.box,zR0]
   simp only[zNl,s1Z,zKA,h,zIT l]
@[simp] theorem zGH(f:PF):zM6 f.blks=some f:=by simp[zM6,PF.blks,zIT]
end
section
open Go
attribute [-simp] zG zT zc zJ zn
def zUZ:List FuncId:=[194,195,174,309,175,261]
theorem zKN:GOk Pz (zAF Pz (zh [(96,zUY)]) 0 zUZ 4):=zq hmix (zC zOY zB) 0 zUZ 4
def PF.cut(f:PF)(n:Int):PF×Int:=if n<0\/(f.now.length:Int)<n then (f,17) else if n<f.now.length then (⟨f.d,f.acts++[.cut n.toNat]⟩,0) else (f,0)
end
end Go.Proofs.YtfhidaoiofeooaaGreatDoor
