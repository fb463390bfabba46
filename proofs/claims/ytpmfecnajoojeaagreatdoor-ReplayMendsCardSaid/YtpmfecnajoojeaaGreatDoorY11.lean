/- Parts of the proof of ReplayMends: lemmas, each with its own conditions. -/
import Derived.Test.YtpmfecnajoojeaaGreatDoorY6
set_option maxHeartbeats 64000000
open List renaming getElem?_eq_some_iff → q1Z, getD_eq_getElem?_getD → q2Z, getElem?_eq_getElem → q3Z, getElem?_append_left → q4Z, mem_of_getElem? → qcZ, length_append → qdZ, getElem?_set_ne → qfZ, getElem?_set_self → qgZ, length_drop → qkZ, mem_cons → qwZ, mem_append → qxZ, getElem?_map → qzZ, getElem?_drop → r5Z, length_map → r7Z, length_set → r8Z, getElem?_append → s7Z
open Option renaming map_eq_some_iff → qlZ, getD_some → rgZ, bind_eq_some_iff → s6Z
open Nat renaming le_refl → qnZ, lt_or_ge → s2Z
namespace Go.Proofs.YtpmfecnajoojeaaGreatDoor
set_option maxRecDepth 100000
section
open Go
def zAG(b k:Nat)(i:Nat):Nat:=if i=0 then b else k+(i-1)
def zMh(b k:Nat)(j js:Inj)(o:Bool):Inj :=
 ⟨fun c=>if c<k then j c else if o then js (c-k+1) else none,
  fun c=>if c=b then js.foot 0 else if c<k then j.foot c else js.foot (c-k+1),
  fun c=>if c=b then js.shr 0 else if c<k then j.shr c else js.shr (c-k+1)⟩
def ZD(H:zA)(b:Nat)(sub:zA):zA:=H.set b (reB (zAG b H.length) (sub.getD 0 .dead))++(sub.drop 1).map (reB (zAG b H.length))
theorem Step.open{n:Nat}{j:Inj}{H:zA}{w:World}(hR:R j H w){b:Nat}{sub:zA}(hb:H[b]? = some (.obj true sub))(hn:n<=H.length) :
   ∃j',(∀c p,j c=some p->j' c=some p)/\Step n j H w j' (ZD H b sub) w:=by
 have hbl:b<H.length:=(q1Z.1 hb).1
 cases hjb:j b with
 | none =>
   refine ⟨j,fun _ _ h=>h,?_⟩
   have hof:∀c x p,(ZD H b sub)[c]? = some x->j c=some p->H[c]? = some x:=by
     intro c x p hc hp
     have hcl:c<H.length:=by
       rcases s2Z c H.length with h1 | h1
       · exact h1
       · rw[hR.dom c h1]at hp;cases hp
     have hcb:c≠b:=by rintro rfl;rw[hjb]at hp;cases hp
     unfold ZD at hc
     rw[q4Z (by simpa using hcl),qfZ (Ne.symm hcb)]at hc
     exact hc
   exact Step.make hR ⟨fun c hc=>hR.dom c (by unfold ZD at hc;simp at hc;omega),fun c x p hc hp=>hR.blk c x p (hof c x p hc hp) hp,fun c c' y x p p' hc hy hc' hx hne hp hp'=>hR.inj c c' y x p p' (hof _ _ _ hc hp) hy (hof _ _ _ hc' hp') hx hne hp hp'⟩ (fun _ _=>rfl) (by unfold ZD;simp;omega) (Keeps0.refl _ _ _) fun c x p hc hx hp=>.same (hof c x p hc hp) hx hp rfl rfl
 | some p =>
   obtain⟨js,ok,hS⟩:=hR.obj b true sub p hb hjb
   let g:=zAG b H.length
   let J:=zMh b H.length j js true
   have hJat:∀c,J c=if c<H.length then j c else js (c-H.length+1):=fun c=>by simp[J,zMh]
   have hle:JLe j J:=by
     intro c q hq
     have hcl:c<H.length:=by
       rcases s2Z c H.length with h1 | h1
       · exact h1
       · rw[hR.dom c h1]at hq;cases hq
     rw[hJat,if_pos hcl];exact hq
   have hJ:∀i q,js i=some q->J (g i)=some q:=by
     intro i q hq;by_cases hi:i=0
     · subst hi
       rw[ok.root]at hq;cases hq;simp only[g,zAG,if_true]
       rw[hJat,if_pos hbl];exact hjb
     · simp only[g,zAG,if_neg hi]
       rw[hJat,if_neg (by omega),show H.length+(i-1)-H.length+1=i by omega]
       exact hq
   have hcase:∀c x q,(ZD H b sub)[c]? = some x->J c=some q ->
       (c<H.length/\c≠b/\H[c]? = some x/\j c=some q)\/(∃i y,(c=b/\i=0\/c=H.length+(i-1)/\0<i)/\sub[i]? = some y/\x=reB g y/\js i=some q):=by
     intro c x q hc hq;rw[hJat]at hq;unfold ZD at hc;rw[s7Z,r8Z]at hc
     split at hc <;> rename_i hcl
     · rw[if_pos hcl]at hq
       by_cases hcb:c=b
       · subst hcb
         rw[qgZ hcl]at hc;obtain⟨B,hB,_⟩:=ok.own;rw[q2Z,hB]at hc;rw[hjb]at hq;cases hq;exact .inr ⟨0,B,.inl ⟨rfl,rfl⟩,hB,(Option.some.inj hc).symm,ok.root⟩
       · rw[qfZ (Ne.symm hcb)]at hc
         exact .inl ⟨hcl,hcb,hc,hq⟩
     · rw[if_neg hcl]at hq
       rw[qzZ,r5Z]at hc;obtain⟨y,hy,rfl⟩:=qlZ.1 hc
       exact .inr ⟨c-H.length+1,y,.inr ⟨by omega,by omega⟩,by rw[<-hy];congr 1;omega,rfl,hq⟩
   have hfoot:∀c i,(c=b/\i=0\/c=H.length+(i-1)/\0<i)->J.foot c=js.foot i/\J.shr c=js.shr i:=by
     rintro c i (⟨rfl,rfl⟩ | ⟨rfl,hi⟩)
     · simp[J,zMh]
     · have h1:¬H.length+(i-1)=b:=by omega
       have h2:¬H.length+(i-1)<H.length:=by omega
       have h3:H.length+(i-1)-H.length+1=i:=by omega
       simp only[J,zMh,h1,h2,h3,if_false,and_self]
   have hfootH:∀c,c<H.length->c≠b->J.foot c=j.foot c/\J.shr c=j.shr c:=by
     intro c h1 h2;simp only[J,zMh,if_neg h2,if_pos h1,and_self]
   have subO:∀(i:Nat) y q c x,(c=b/\i=0\/c=H.length+(i-1)/\0<i)->sub[i]? = some y->x=reB g y->js i=some q->x.own=true->y.own=true/\∀u,(u=q.blk\/u∈Zv J x c)->(u=q.blk\/u∈Zv js y i):=by
     rintro i y q c x hc hy rfl hq ho
     refine ⟨by rwa [zHK]at ho,fun u hu=>hu.imp id (zAm (fun h=>⟨(zFn g h).symm,hfoot c i hc⟩) u)⟩
   have subT:∀(i:Nat) y q c x,(c=b/\i=0\/c=H.length+(i-1)/\0<i)->sub[i]? = some y->x=reB g y->js i=some q->x≠.dead->y≠.dead/\∀u,(u=q.blk\/u∈ZQ J x c)->(u=q.blk\/u∈ZQ js y i):=by
     rintro i y q c x hc hy rfl hq hx
     exact⟨zKs hx,fun u hu=>hu.imp id (zAt (fun h=>⟨(zFn g h).symm,hfoot c i hc⟩) u)⟩
   have oldO:∀c y,c<H.length->c≠b->∀u,u∈Zv J y c->u∈Zv j y c:=fun c y h1 h2 u=>zAm (fun _=>⟨rfl,hfootH c h1 h2⟩) u
   have oldT:∀c y,c<H.length->c≠b->∀u,u∈ZQ J y c->u∈ZQ j y c:=fun c y h1 h2 u=>zAt (fun _=>⟨rfl,hfootH c h1 h2⟩) u
   have mine:∀(i:Nat) y q u,sub[i]? = some y->y.own=true->js i=some q->(u=q.blk\/u∈Zv js y i)->u=p.blk\/u∈Zv j (.obj true sub) b:=by
     intro i y q u hy ho hq hu;have hm:=ok.mine i y q hy ho hq;rcases hu with rfl | hu
     · by_cases hi:i=0
       · subst hi;rw[ok.root]at hq;cases hq;exact .inl rfl
       · exact .inr (hm.1 hi)
     · exact .inr (hm.2 u hu)
   have all:∀(i:Nat) y q u,sub[i]? = some y->y≠.dead->js i=some q->(u=q.blk\/u∈ZQ js y i)->u=p.blk\/u∈ZQ j (.obj true sub) b:=by
     intro i y q u hy ho hq hu;exact ok.tch ⟨i,y,q,hy,ho,hq,hu⟩
   have ap:∀c c' y x q q',(ZD H b sub)[c]? = some y->y.own=true->(ZD H b sub)[c']? = some x->x≠.dead->c≠c'->J c=some q->J c'=some q'->∀u,(u=q.blk\/u∈Zv J y c)->¬(u=q'.blk\/u∈ZQ J x c'):=by
     intro c c' y x q q' hc hy hc' hx hne hq hq' u hu hv
     rcases hcase c y q hc hq with⟨g1,g2,g3,g4⟩ | ⟨i,z,g1,g2,g3,g4⟩ <;> rcases hcase c' x q' hc' hq' with⟨k1,k2,k3,k4⟩ | ⟨i',z',k1,k2,k3,k4⟩
     · exact hR.apart g3 hy k3 hx hne g4 k4 (hu.imp id (oldO c y g1 g2 u)) (hv.imp id (oldT c' x k1 k2 u))
     · obtain⟨t1,t2⟩:=subT i' z' q' c' x k1 k2 k3 k4 hx
       exact hR.apart g3 hy hb (by simp) g2 g4 hjb (hu.imp id (oldO c y g1 g2 u)) (all i' z' q' u k2 t1 k4 (t2 u hv))
     · obtain⟨t1,t2⟩:=subO i z q c y g1 g2 g3 g4 hy
       exact hR.apart hb rfl k3 hx (Ne.symm k2) hjb k4 (mine i z q u g2 t1 g4 (t2 u hu)) (hv.imp id (oldT c' x k1 k2 u))
     · obtain⟨t1,t2⟩:=subO i z q c y g1 g2 g3 g4 hy
       obtain⟨t3,t4⟩:=subT i' z' q' c' x k1 k2 k3 k4 hx;refine hS.apart g2 t1 k2 t3 ?_ g4 k4 (t2 u hu) (t4 u hv);rintro rfl;apply hne
       rcases g1 with⟨rfl,h1⟩ | ⟨rfl,h1⟩ <;> rcases k1 with⟨rfl,h2⟩ | ⟨rfl,h2⟩ <;> omega
   have frs:∀u,Occ J (ZD H b sub) u->w.heap.size<=u\/Occ j H u:=by
     rintro u ⟨c,y,q,hc,hy,hq,hu⟩;rcases hcase c y q hc hq with⟨g1,g2,g3,g4⟩ | ⟨i,z,g1,g2,g3,g4⟩
     · exact .inr ⟨c,y,q,g3,hy,g4,hu.imp id (oldO c y g1 g2 u)⟩
     · obtain⟨t1,t2⟩:=subO i z q c y g1 g2 g3 g4 hy
       exact .inr ⟨b,_,p,hb,rfl,hjb,mine i z q u g2 t1 g4 (t2 u hu)⟩
   refine ⟨J,hle,R.mk' (fun c hc=>?_) (fun c x q hc hq=>?_) (fun c c' y x q q' hc hy hc' hx hne hq hq'=>(zBi (ap c c' y x q q' hc hy hc' hx hne hq hq')).1) (fun c c' y x q q' hc hy hc' hx hne hq hq'=>(zBi (ap c c' y x q q' hc hy hc' hx hne hq hq')).2) (fun c o s q hc hq=>?_) (hR.glo.next (qnZ _) (fun _ _ _=>rfl) frs),
     fun c hc=>?_,(by unfold ZD;simp;omega),Keeps.refl _ _ _,frs,?_⟩
   · unfold ZD at hc
     simp only[qdZ,r8Z,r7Z,qkZ]at hc;obtain⟨B,hB,_⟩:=ok.own;have:=(q1Z.1 hB).1
     rw[hJat,if_neg (by omega)]
     exact hS.dom _ (by omega)
   · rcases hcase c x q hc hq with⟨g1,g2,g3,g4⟩ | ⟨i,z,g1,g2,rfl,g4⟩
     · exact (hR.blk c x q g3 g4).mono hle fun _=>rfl
     · exact zOM hJ (hS.blk i z q g2 g4)
   · rcases hcase c _ q hc hq with⟨g1,g2,g3,g4⟩ | ⟨i,z,g1,g2,g3,g4⟩
     · rw[(hfootH c g1 g2).1,(hfootH c g1 g2).2]
       exact hR.obj c o s q g3 g4
     · have hz:z=.obj o s:=by
         have h1:(reB g z).isObj=true:=by rw[<-g3];rfl
         rw[<-zFn g h1];exact g3.symm
       rw[(hfoot c i g1).1,(hfoot c i g1).2]
       exact hS.obj i o s q (by rw[<-hz];exact g2) g4
   · rw[hJat,if_pos (by omega)]
   · rintro u ⟨c,y,q,hc,hy,hq,hu⟩
     rcases hcase c y q hc hq with⟨g1,g2,g3,g4⟩ | ⟨i,z,g1,g2,g3,g4⟩
     · exact .inr ⟨c,y,q,g3,hy,g4,hu.imp id (oldT c y g1 g2 u)⟩
     · obtain⟨t1,t2⟩:=subT i z q c y g1 g2 g3 g4 (zE0 hy)
       exact .inr ⟨b,_,p,hb,rfl,hjb,all i z q u g2 t1 g4 (t2 u hu)⟩
def zAj(H:zA):List Nat->zA
 | []=>H
 | k::ks=>zAj (H.set k .dead) ks
theorem Zq:∀(ks:List Nat) (H:zA),(zAj H ks).length=H.length
 | [],_=>rfl
 | k::ks,H=>by rw[zAj,Zq ks,r8Z]
theorem zHq:∀(ks:List Nat) (H:zA) (c:Nat) (x:ABlk),(zAj H ks)[c]? = some x->x≠.dead->c∉ks/\H[c]? = some x
 | [],H,c,x,h,_=>⟨by simp,h⟩
 | k::ks,H,c,x,h,hx=>by
   obtain⟨h1,h2⟩:=zHq ks _ c x h hx;rw[List.getElem?_set]at h2;split at h2
   · split at h2
     · cases h2;exact absurd rfl hx
     · cases h2
   · rename_i hne
     exact⟨by simp only[qwZ,not_or];exact⟨fun e=>hne e.symm,h1⟩,h2⟩
def zy(H:zA)(b:Nat)(ks:List Nat)(o:Bool)(sub:zA):zA:=(zAj H ks).set b (.obj o sub)
def zWy(js:Inj)(sub:zA)(i:Nat):List Nat:=match js i with
 | some q=>if (sub.getD i .dead).own=true then (if i=0 then [] else [q.blk])++Zv js (sub.getD i .dead) i else []
 | none=>[]
def zXK(js:Inj)(sub:zA)(i:Nat):List Nat:=match js i with
 | some q=>if (sub.getD i .dead).str=true then (if i=0 then [] else [q.blk])++ZQ js (sub.getD i .dead) i else []
 | none=>[]
def zQJ(js:Inj)(sub:zA):List Nat:=(List.range sub.length).flatMap (zWy js sub)
def zV6(js:Inj)(sub:zA):List Nat:=(List.range sub.length).flatMap (zXK js sub)
theorem mem_footL{js:Inj}{sub:zA}{u:Nat}:u∈zQJ js sub↔∃(i:Nat) (y:ABlk) (q:JB),sub[i]? = some y/\y.own=true/\js i=some q/\(i≠0/\u=q.blk\/u∈Zv js y i):=by
 unfold zQJ;rw[List.mem_flatMap];constructor
 · rintro⟨i,hi,hu⟩
   have hil:i<sub.length:=List.mem_range.1 hi
   have hg:sub.getD i .dead=sub[i]:=by rw[q2Z,q3Z hil];rfl
   unfold zWy at hu;split at hu
   · rename_i q hq
     rw[hg]at hu;split at hu
     · rename_i ho
       rcases qxZ.1 hu with h1 | h1
       · split at h1
         · cases h1
         · rename_i h0
           exact⟨i,_,q,q3Z hil,ho,hq,.inl ⟨h0,by simpa using h1⟩⟩
       · exact⟨i,_,q,q3Z hil,ho,hq,.inr h1⟩
     · cases hu
   · cases hu
 · rintro⟨i,y,q,hy,ho,hq,hu⟩
   have hil:i<sub.length:=(q1Z.1 hy).1;refine ⟨i,List.mem_range.2 hil,?_⟩;unfold zWy;rw[hq];simp only[q2Z,hy,rgZ];rw[if_pos ho,qxZ];rcases hu with⟨h0,rfl⟩ | hu
   · rw[if_neg h0];exact .inl (by simp)
   · exact .inr hu
theorem mem_shrL{js:Inj}{sub:zA}{u:Nat}:u∈zV6 js sub↔∃(i:Nat) (y:ABlk) (q:JB),sub[i]? = some y/\y.str=true/\js i=some q/\(i≠0/\u=q.blk\/u∈ZQ js y i):=by
 unfold zV6;rw[List.mem_flatMap];constructor
 · rintro⟨i,hi,hu⟩
   have hil:i<sub.length:=List.mem_range.1 hi
   have hg:sub.getD i .dead=sub[i]:=by rw[q2Z,q3Z hil];rfl
   unfold zXK at hu;split at hu
   · rename_i q hq
     rw[hg]at hu;split at hu
     · rename_i ho
       rcases qxZ.1 hu with h1 | h1
       · split at h1
         · cases h1
         · rename_i h0
           exact⟨i,_,q,q3Z hil,ho,hq,.inl ⟨h0,by simpa using h1⟩⟩
       · exact⟨i,_,q,q3Z hil,ho,hq,.inr h1⟩
     · cases hu
   · cases hu
 · rintro⟨i,y,q,hy,ho,hq,hu⟩
   have hil:i<sub.length:=(q1Z.1 hy).1;refine ⟨i,List.mem_range.2 hil,?_⟩;unfold zXK;rw[hq];simp only[q2Z,hy,rgZ];rw[if_pos ho,qxZ];rcases hu with⟨h0,rfl⟩ | hu
   · rw[if_neg h0];exact .inl (by simp)
   · exact .inr hu
theorem Step.close{n:Nat}{j:Inj}{H:zA}{w:World}(hR:R j H w){b:Nat}{rs ks:List Nat}{sub:zA}{o:Bool}(h0:rs[0]? = some b)(hnd:rs.Nodup)(hbl:b<H.length)(hks:∀c x,c∈rs->c≠b->H[c]? = some x->x.own=true->c∈ks)(hh:AWg rs H sub rs)
   (hown:∃B,sub[0]? = some B/\B.own=true) (hstr:∀(i:Nat) (y:ABlk),sub[i]? = some y->y≠.dead->y.str=true) (hn:n<=H.length) :
   ∃j',(∀c p,j c=some p->j' c=some p)/\Step n j H w j' (zy H b ks o sub) w:=by
 obtain⟨hl,hat⟩:=hh.at
 let js:=zDu rs j
 have hS:R js sub w:=hR.ren hnd hh;have hbm:b∈rs:=qcZ h0
 let J:Inj:=⟨j.fn,fun c=>if c=b then zQJ js sub else j.foot c,fun c=>if c=b then zV6 js sub else j.shr c⟩
 have hJ:∀c,J c=j c:=fun _=>rfl
 have hcase:∀c x,(zy H b ks o sub)[c]? = some x->x≠.dead->(c≠b/\c∉ks/\H[c]? = some x)\/(c=b/\x=.obj o sub):=by
   intro c x hc hx;unfold zy at hc;by_cases hcb:c=b
   · subst hcb
     rw[qgZ (by rw[Zq];exact hbl)]at hc
     exact .inr ⟨rfl,(Option.some.inj hc).symm⟩
   · rw[qfZ (Ne.symm hcb)]at hc
     obtain⟨h1,h2⟩:=zHq _ _ _ _ hc hx;exact .inl ⟨hcb,h1,h2⟩
 have hfr:∀(i c:Nat),rs[i]? = some c->js.foot i=j.foot c/\js.shr i=j.shr c:=by
   intro i c hi
   have hg:rs.getD i 0=c:=by rw[q2Z,hi];rfl
   exact⟨by show j.foot (rs.getD i 0)=_;rw[hg],by show j.shr (rs.getD i 0)=_;rw[hg]⟩
 have hsub:∀(i:Nat) y q,sub[i]? = some y->js i=some q->∃c z,rs[i]? = some c/\c∈rs/\j c=some q/\H[c]? = some z/\AWb rs y z:=by
   intro i y q hy hq;obtain⟨c,h1,h2⟩:=s6Z.1 hq;have hm:=qcZ h1
   have hcl:c<H.length:=by
     rcases s2Z c H.length with h3 | h3
     · exact h3
     · rw[hR.dom c h3]at h2;cases h2
   obtain⟨z,h3,h4⟩:=hat i y c hy h1 hcl;exact⟨c,z,h1,hm,h2,h3,h4⟩
 have occS:∀u,Occ js sub u->∃c z q,c∈rs/\H[c]? = some z/\z.own=true/\j c=some q/\(u=q.blk\/u∈Zv j z c):=by
   rintro u ⟨i,y,q,hy,ho,hq,hu⟩;obtain⟨c,z,h1,h2,h3,h4,h5⟩:=hsub i y q hy hq
   exact⟨c,z,q,h2,h4,h5.own ho,h3,hu.imp id (zAm (fun h=>⟨h5.obj h,hfr i c h1⟩) u)⟩
 have tchS:∀u,Tch js sub u->∃c z q,c∈rs/\H[c]? = some z/\z.str=true/\j c=some q/\(u=q.blk\/u∈ZQ j z c):=by
   rintro u ⟨i,y,q,hy,hd,hq,hu⟩;obtain⟨c,z,h1,h2,h3,h4,h5⟩:=hsub i y q hy hq
   exact⟨c,z,q,h2,h4,zLr h5.own h5.obj (hstr i y hy hd),h3,hu.imp id (zAt (fun h=>⟨h5.obj h,hfr i c h1⟩) u)⟩
 have hjs0:js 0=j b:=by show (rs[0]?).bind j=_;rw[h0];rfl
 have foot_occ:∀u,u∈zQJ js sub->Occ js sub u:=by
   intro u hu;obtain⟨i,y,q,h1,h2,h3,h4⟩:=mem_footL.1 hu
   exact⟨i,y,q,h1,h2,h3,h4.imp (·.2) id⟩
 have shr_tch:∀u,u∈zV6 js sub->Tch js sub u:=by
   intro u hu;obtain⟨i,y,q,h1,h2,h3,h4⟩:=mem_shrL.1 hu
   exact⟨i,y,q,h1,zE0 h2,h3,h4.imp (·.2) id⟩
 have rootO:∀p,j b=some p->Occ js sub p.blk:=by
   intro p hp;obtain⟨B,h1,h2⟩:=hown;exact⟨0,B,p,h1,h2,hjs0.trans hp,.inl rfl⟩
 have objT:∀p u,j b=some p->(u=p.blk\/u∈ZQ J (.obj o sub) b)->Tch js sub u:=by
   intro p u hp hu;rcases hu with rfl | hu
   · exact (rootO p hp).tch
   · simp only[ZQ,J,if_true,qxZ]at hu
     rcases hu with hu | hu
     · exact (foot_occ u hu).tch
     · exact shr_tch u hu
 have objO:∀p u,j b=some p->o=true->(u=p.blk\/u∈Zv J (.obj o sub) b)->Occ js sub u:=by
   intro p u hp ho hu;subst ho;rcases hu with rfl | hu
   · exact rootO p hp
   · simp only[Zv,J,if_true]at hu
     exact foot_occ u hu
 have oldF:∀c,c≠b->J.foot c=j.foot c/\J.shr c=j.shr c:=fun c h=>by simp only[J,if_neg h,and_self]
 have ap:∀c c' y x q q',(zy H b ks o sub)[c]? = some y->y.own=true->(zy H b ks o sub)[c']? = some x->x≠.dead->c≠c'->J c=some q->J c'=some q'->∀u,(u=q.blk\/u∈Zv J y c)->¬(u=q'.blk\/u∈ZQ J x c'):=by
   intro c c' y x q q' hc hy hc' hx hne hq hq' u hu hv
   rcases hcase c y hc (Zh hy) with⟨g1,g2,g3⟩ | ⟨rfl,rfl⟩ <;> rcases hcase c' x hc' hx with⟨k1,k2,k3⟩ | ⟨rfl,rfl⟩
   · exact hR.apart g3 hy k3 hx hne hq hq' (hu.imp id (zAm (fun _=>⟨rfl,oldF c g1⟩) u)) (hv.imp id (zAt (fun _=>⟨rfl,oldF c' k1⟩) u))
   · obtain⟨c0,z,q0,m1,m2,m3,m4,m5⟩:=tchS u (objT q' u hq' hv)
     exact hR.apart g3 hy m2 (zE0 m3) (fun e=>g2 (hks c y (e▸m1) g1 g3 hy)) hq m4 (hu.imp id (zAm (fun _=>⟨rfl,oldF c g1⟩) u)) m5
   · obtain⟨c0,z,q0,m1,m2,m3,m4,m5⟩:=occS u (objO q u hq hy hu)
     exact hR.apart m2 m3 k3 hx (fun e=>k2 (hks c' z (e▸m1) k1 (e▸m2) m3)) m4 hq' m5 (hv.imp id (zAt (fun _=>⟨rfl,oldF c' k1⟩) u))
   · exact hne rfl
 have frs:∀u,Occ J (zy H b ks o sub) u->w.heap.size<=u\/Occ j H u:=by
   rintro u ⟨c,y,q,hc,hy,hq,hu⟩;rcases hcase c y hc (Zh hy) with⟨g1,g2,g3⟩ | ⟨rfl,rfl⟩
   · exact .inr ⟨c,y,q,g3,hy,hq,hu.imp id (zAm (fun _=>⟨rfl,oldF c g1⟩) u)⟩
   · obtain⟨c0,z,q0,m1,m2,m3,m4,m5⟩:=occS u (objO q u hq hy hu)
     exact .inr ⟨c0,z,q0,m2,m3,m4,m5⟩
 refine ⟨J,fun c p h=>h,R.mk' (fun c hc=>?_) (fun c x q hc hq=>?_) (fun c c' y x q q' hc hy hc' hx hne hq hq'=>(zBi (ap c c' y x q q' hc hy hc' hx hne hq hq')).1) (fun c c' y x q q' hc hy hc' hx hne hq hq'=>(zBi (ap c c' y x q q' hc hy hc' hx hne hq hq')).2) (fun c o' s q hc hq=>?_) (hR.glo.next (qnZ _) (fun _ _ _=>rfl) frs),
   fun c _=>rfl,(by unfold zy;rw[r8Z,Zq];exact hn),Keeps.refl _ _ _,frs,?_⟩
 · unfold zy at hc
   rw[r8Z,Zq]at hc;exact hR.dom c hc
 · by_cases hd:x=.dead
   · subst hd;trivial
   rcases hcase c x hc hd with⟨g1,g2,g3⟩ | ⟨rfl,rfl⟩
   · exact (hR.blk c x q g3 hq).mono (fun _ _ h=>h) fun _=>rfl
   · trivial
 · rcases hcase c _ hc (by simp) with⟨g1,g2,g3⟩ | ⟨rfl,e⟩
   · rw[(oldF c g1).1,(oldF c g1).2]
     exact hR.obj c o' s q g3 hq
   · cases e
     refine ⟨js,⟨hjs0.trans hq,hown,hS.nd (rootO q hq).tch,fun u hu=>hS.nd (objT q u hq (.inr (by simpa only[ZQ] using hu))),?_,hstr,?_⟩,hS⟩
     · intro i y p hy ho hp
       simp only[J,if_true]
       exact⟨fun hi=>mem_footL.2 ⟨i,y,p,hy,ho,hp,.inl ⟨hi,rfl⟩⟩,fun u hu=>mem_footL.2 ⟨i,y,p,hy,ho,hp,.inr hu⟩⟩
     · intro i y p hy hd hp
       simp only[J,if_true,qxZ]
       exact⟨fun hi=>.inr (mem_shrL.2 ⟨i,y,p,hy,hstr i y hy hd,hp,.inl ⟨hi,rfl⟩⟩),fun u hu=>.inr (mem_shrL.2 ⟨i,y,p,hy,hstr i y hy hd,hp,.inr hu⟩)⟩
 · rintro u ⟨c,y,q,hc,hy,hq,hu⟩
   rcases hcase c y hc (zE0 hy) with⟨g1,g2,g3⟩ | ⟨rfl,rfl⟩
   · exact .inr ⟨c,y,q,g3,hy,hq,hu.imp id (zAt (fun _=>⟨rfl,oldF c g1⟩) u)⟩
   · obtain⟨c0,z,q0,m1,m2,m3,m4,m5⟩:=tchS u (objT q u hq hu)
     exact .inr ⟨c0,z,q0,m2,m3,m4,m5⟩
def Aft(n0:Nat)(F:List AV)(H:zA)(K:List AV->zA->Prop):Prop :=
 ∀(j:Inj) (w:World) (vs:List Value),R j H w->VRs j F vs->∃F2 H2 j2,K F2 H2/\VRs j2 F2 vs/\Step n0 j H w j2 H2 w
theorem Aft.done{n0:Nat}{F:List AV}{H:zA}{K:List AV->zA->Prop}(hn:n0<=H.length)(h:K F H):Aft n0 F H K :=
 fun j _ _ hR hF=>⟨F,H,j,h,hF,Step.refl hR hn⟩
theorem Aft.weak{n0:Nat}{F Fn:List AV}{H Hn:zA}{K:List AV->zA->Prop}(hw:Weak n0 F H Fn Hn)(hn:n0<=H.length)(h:Aft n0 Fn Hn K):Aft n0 F H K:=by
 intro j w vs hR hF;obtain⟨j1,s1,v1⟩:=hw.step (qnZ _) (Step.refl hR hn) hF;obtain⟨F2,H2,j2,h1,h2,h3⟩:=h j1 w vs s1.rel v1;exact⟨F2,H2,j2,h1,h2,s1.trans h3 (qnZ _)⟩
theorem Aft.open{n0:Nat}{F:List AV}{H:zA}{K:List AV->zA->Prop}{b:Nat}{sub:zA}(hb:H[b]? = some (.obj true sub))(hn:n0<=H.length)(h:Aft n0 F (ZD H b sub) K):Aft n0 F H K:=by
 intro j w vs hR hF;obtain⟨j1,hle,s1⟩:=Step.open hR hb hn;obtain⟨F2,H2,j2,h1,h2,h3⟩:=h j1 w vs s1.rel (VRs.mono hle _ _ hF);exact⟨F2,H2,j2,h1,h2,s1.trans h3 (qnZ _)⟩
theorem Aft.close{n0:Nat}{F:List AV}{H:zA}{K:List AV->zA->Prop}{b:Nat}{rs ks:List Nat}{sub:zA}{o:Bool}(h0:rs[0]? = some b)(hnd:rs.Nodup)(hbl:b<H.length)(hks:∀c x,c∈rs->c≠b->H[c]? = some x->x.own=true->c∈ks)(hh:AWg rs H sub rs)
   (hown:∃B,sub[0]? = some B/\B.own=true) (hstr:∀(i:Nat) (y:ABlk),sub[i]? = some y->y≠.dead->y.str=true) (hn:n0<=H.length) (h:Aft n0 F (zy H b ks o sub) K):Aft n0 F H K:=by
 intro j w vs hR hF;obtain⟨j1,hle,s1⟩:=Step.close (o:=o) hR h0 hnd hbl hks hh hown hstr hn;obtain⟨F2,H2,j2,h1,h2,h3⟩:=h j1 w vs s1.rel (VRs.mono hle _ _ hF);exact⟨F2,H2,j2,h1,h2,s1.trans h3 (qnZ _)⟩
theorem Sim.aft{P:Program}{r:Option Nat}{n0:Nat}{c:Code}{F:List AV}{H:zA}{Q:AX->List AV->zA->Prop}(h:Aft n0 F H fun F' H'=>Sim P r n0 c F' H' Q):Sim P r n0 c F H Q:=by
 intro B j w a m hB hR hF hd;obtain⟨F2,H2,j2,h1,h2,h3⟩:=h j w _ hR hF;refine wpIn_mono (h1 B j2 w a m hB h3.rel h2 hd) ?_;rintro e a' w' ⟨x,F',H',j3,g1,g2,g3,g4,g5⟩;exact⟨x,F',H',j3,g1,g2,g3,g4,h3.trans g5 (qnZ _)⟩
theorem Sim.after{P:Program}{r:Option Nat}{n0:Nat}{c:Code}{F:List AV}{H:zA}{Q:AX->List AV->zA->Prop}
   (h:Sim P r n0 c F H fun e F' H'=>Aft n0 F' H' (Q e)):Sim P r n0 c F H Q:=by
 intro B j w a m hB hR hF hd;refine wpIn_mono (h B j w a m hB hR hF hd) ?_;rintro e a' w' ⟨x',F',H',j',rfl,h2,h3,h4,h5⟩;obtain⟨F2,H2,j2,g1,g2,g3⟩:=h2 j' w' _ h5.rel h3;exact⟨x',F2,H2,j2,rfl,g1,g2,h4,h5.trans g3 (qnZ _)⟩
def LessF:List AV->List AV->Prop
 | [],[]=>True
 | x::xs,y::ys=>(x=.top\/x=y)/\LessF xs ys
 | _,_=>False
theorem LessF.ok{j:Inj}:∀{xs ys:List AV} {vs:List Value},LessF xs ys->VRs j ys vs->VRs j xs vs
 | [],[],_,_,h=>h
 | x::xs,y::ys,vs,h,hv=>by
   simp only[VRs]at hv ⊢;obtain⟨v,ws,e,h1,h2⟩:=hv;refine ⟨v,ws,e,?_,LessF.ok h.2 h2⟩;rcases h.1 with rfl | rfl
   · simp[VR]
   · exact h1
 | [],_::_,_,h,_=>h.elim
 | _::_,[],_,h,_=>h.elim
theorem Sim.less{P:Program}{r:Option Nat}{n0:Nat}{c:Code}{F Fn:List AV}{H:zA}{Q:AX->List AV->zA->Prop}(hl:LessF Fn F)(h:Sim P r n0 c Fn H Q):Sim P r n0 c F H Q :=
 fun B j w a m hB hR hF hd=>h B j w a m hB hR (hl.ok hF) hd
theorem Sim.loopS{P:Program}{r:Option Nat}{n0:Nat}{x:Code}{Q:AX->List AV->zA->Prop}{σ:Type}(I:σ->Prop)(Fs:σ->List AV)(Hs:σ->zA)(μ:σ->Nat)(s0:σ){F:List AV}{H:zA}(hn:n0<=H.length)(hI:I s0)(h0:LessF (Fs s0) F/\H=Hs s0)
   (round:∀s,I s->Sim P r n0 x (Fs s) (Hs s) fun e F' H'=>match e with | .normal=>∃s',I s'/\(LessF (Fs s') F'/\H'=Hs s')/\μ s'<μ s | e=>Q e F' H'):Sim P r n0 (.loop x) F H Q:=by
 refine Sim.loop (fun s F H=>I s/\(LessF (Fs s) F/\H=Hs s)) μ s0 hn ⟨hI,h0⟩ fun s F H hn ⟨hi,hw⟩=>?_
 obtain⟨h1,rfl⟩:=hw
 refine Sim.less h1 ((round s hi).mono fun e F' H' _ hq=>?_)
 cases e with
 | normal =>
   obtain⟨s',h1,h2,h3⟩:=hq;exact⟨s',⟨h1,h2⟩,h3⟩
 | exit id=>exact hq
 | ret=>exact hq
attribute [simp] LessF
end
section
open Go
theorem zCN:∀(ks:List Nat) (H:zA) (c:Nat),c∉ks->(zAj H ks)[c]? = H[c]?
 | [],_,_,_=>rfl
 | k::ks,H,c,h=>by
   simp only[qwZ,not_or]at h;rw[zAj,zCN ks _ c h.2,qfZ (Ne.symm h.1)]
theorem zCA{H:zA}{ks:List Nat}{b:Nat}{o:Bool}{sub:zA}(hb:b<H.length):(zy H b ks o sub).getD b .dead=.obj o sub:=by
 unfold zy
 rw[q2Z,qgZ (by rw[Zq];exact hb)]
 rfl
theorem zLU{H:zA}{ks:List Nat}{b c:Nat}{o:Bool}{sub:zA}(hcb:c≠b)(hc:c∉ks):(zy H b ks o sub).getD c .dead=H.getD c .dead:=by
 unfold zy;simp only[q2Z];rw[qfZ (Ne.symm hcb),zCN _ _ _ hc]
@[simp] theorem zUL(H:zA)(b:Nat)(ks:List Nat)(o:Bool)(sub:zA):(zy H b ks o sub).length=H.length:=by simp[zy,Zq]
theorem zT{H:zA}{ks:List Nat}{b:Nat}{o:Bool}{sub:zA}{rn:List Nat}(hb:b<H.length):∀(Hn:zA) (cs:List Nat),Hn.length=cs.length ->
   (∀(i c:Nat) (x:ABlk),cs[i]? = some c->Hn[i]? = some x->c=b/\x=.obj o sub\/(c≠b/\c∉ks)/\AWb rn x (H.getD c .dead))->AWg rn (zy H b ks o sub) Hn cs
 | [],cs,h,_=>by
   have:cs=[]:=List.eq_nil_of_length_eq_zero (by simpa using h.symm)
   subst this;trivial
 | x::Hn,[],h,_=>by simp at h
 | x::Hn,c::cs,h,hall=>by
   refine ⟨?_,zT hb Hn cs (by simpa using h) fun i c x h1 h2=>hall (i+1) c x (by simpa using h1) (by simpa using h2)⟩
   split
   · rcases hall 0 c x rfl rfl with⟨rfl,rfl⟩ | ⟨⟨h1,h3⟩,h2⟩
     · rw[zCA hb];exact⟨rfl,rfl⟩
     · rw[zLU h1 h3];exact h2
   · trivial
theorem Aft.freeze{n0:Nat}{F:List AV}{H:zA}{K:List AV->zA->Prop}(q:Nat)(y:AV)(hq:H[q]? = some (.cells true [y]))(hy:∀rn,AW rn y y)(hn:n0<=H.length)
   (h:Aft n0 F (H.set q (.obj false [.cells true [y]])) K):Aft n0 F H K:=by
 refine Aft.close (b:=q) (rs:=[q]) (ks:=[]) (sub:=[.cells true [y]]) (o:=false) rfl (by simp) (q1Z.1 hq).1 (fun c x hc hne _ _=>absurd (by simpa using hc) hne) ⟨?_,trivial⟩ ⟨_,rfl,rfl⟩ (fun i z h _=>?_) hn h
 · split
   · rw[q2Z,hq]
     exact⟨fun h=>h,hy _,trivial⟩
   · trivial
 · match i,h with
   | 0,h=>cases h;rfl
end
end Go.Proofs.YtpmfecnajoojeaaGreatDoor
