/- Parts of the proof of SweepTells: lemmas, each with its own conditions. -/
import Derived.Test.YtfhidaoiofeooaaGreatDoorY2
set_option maxHeartbeats 64000000
open List renaming getElem?_eq_some_iff → q1Z, getD_eq_getElem?_getD → q2Z, getElem?_eq_getElem → q3Z, getElem?_append_left → q4Z, getElem?_append_right → q5Z, length_cons → q7Z, cons_append → q9Z, nil_append → qaZ, replicate → qbZ, mem_of_getElem? → qcZ, length_append → qdZ, append_assoc → qeZ, getElem?_set_ne → qfZ, getElem?_set_self → qgZ, mem_cons_self → qhZ, mem_cons_of_mem → qiZ, length_drop → qkZ, mem_cons → qwZ, mem_append → qxZ, getElem?_map → qzZ, getElem_mem → r3Z, getElem?_take → r4Z, getElem?_drop → r5Z, length_map → r7Z, nodup_cons → rdZ, mem_map → reZ, not_mem_nil → rtZ, map_cons → s1Z, getElem?_eq_none → s4Z, all_eq_true → s5Z, getElem?_append → s7Z, mem_filter → sbZ
open Option renaming map_eq_some_iff → qlZ, map_some → rhZ, bind_eq_some_iff → s6Z
open Nat renaming le_refl → qnZ, zero_le → qqZ, lt_of_lt_of_le → rlZ, lt_or_ge → s2Z, add_sub_cancel_left → s3Z, zero_add → s8Z
open Bool renaming and_eq_true → qrZ, false_eq_true → qsZ
open Array renaming getElem?_eq_some_iff → qtZ, length_toList → rjZ, toList_append → rxZ
namespace Go.Proofs.YtfhidaoiofeooaaGreatDoor
set_option maxRecDepth 100000
mutual
def AW(rn:List Nat):AV->AV->Prop
 | .top,_=>True
 | .bool b,.bool b'=>b=b'
 | .int k n,.int k' n'=>k=k'/\n=n'
 | .str s,.str s'=>s=s'
 | .ptr b o,.ptr b' o'=>rn[b]? = some b'/\o=o'
 | .nilp,.nilp=>True
 | .slice b o l sz c,.slice b' o' l' sz' c'=>rn[b]? = some b'/\o=o'/\l=l'/\sz=sz'/\(c=true->c'=true)
 | .sl b o l sz c,.slice b' o' l' sz' c'=>rn[b]? = some b'/\o=o'/\l=l'/\sz=sz'/\(c=true->c'=true)
 | .sl b o l sz c,.sl b' o' l' sz' c'=>rn[b]? = some b'/\o=o'/\l=l'/\sz=sz'/\(c=true->c'=true)
 | .sl _ _ l _ _,.nils=>l=0
 | .nils,.nils=>True
 | .map b,.map b'=>rn[b]? = some b'
 | .nilm,.nilm=>True
 | .func f xs ys,.func f' xs' ys'=>f=f'/\AWs rn xs xs'/\AWs rn ys ys'
 | .yld b,.yld b'=>rn[b]? = some b'
 | .nilf,.nilf=>True
 | .agg l,.agg l'=>AWs rn l l'
 | .tuple l,.tuple l'=>AWs rn l l'
 | _,_=>False
def AWs(rn:List Nat):List AV->List AV->Prop
 | [],[]=>True
 | x::xs,y::ys=>AW rn x y/\AWs rn xs ys
 | _,_=>False
end
def zDT(rn:List Nat)(j:Inj):Inj:=⟨fun b=>(rn[b]?).bind j,fun b=>j.foot (rn.getD b 0),fun b=>j.shr (rn.getD b 0)⟩
theorem zPE(rn:List Nat)(j:Inj)(b:Nat):zDT rn j b=(rn[b]?).bind j:=rfl
theorem zA4{rn:List Nat}{j:Inj}{b b':Nat}{p:JB}(h:rn[b]? = some b')(hp:j b'=some p):zDT rn j b=some p:=by simp[zDT,h,hp]
mutual
theorem AW.ok{rn:List Nat}{j:Inj}:∀(x y:AV) (v:Value),AW rn x y->VR j y v->VR (zDT rn j) x v
 | .top,_,_,_,_=>by simp[VR]
 | .bool b,y,v,h,hv=>by cases y <;> simp_all [AW,VR]
 | .int k n,y,v,h,hv=>by cases y <;> simp_all [AW,VR]
 | .str s,y,v,h,hv=>by cases y <;> simp_all [AW,VR]
 | .ptr b o,y,v,h,hv=>by
   cases y <;> simp only[AW]at h
   obtain⟨h1,rfl⟩:=h;simp only[VR]at hv ⊢;obtain⟨p,hp,e⟩:=hv;exact⟨p,zA4 h1 hp,e⟩
 | .nilp,y,v,h,hv=>by cases y <;> simp_all [AW,VR]
 | .slice b o l sz c,y,v,h,hv=>by
   cases y <;> simp only[AW]at h
   obtain⟨h1,rfl,rfl,rfl,h2⟩:=h;simp only[VR]at hv ⊢;obtain⟨p,a,cap,hp,e1,e2,e3,e4⟩:=hv;exact⟨p,a,cap,zA4 h1 hp,e1,e2,fun hc=>e3 (h2 hc),e4⟩
 | .sl b o l sz c,y,v,h,hv=>by
   cases y <;> simp only[AW]at h
   case slice =>
     obtain⟨h1,rfl,rfl,rfl,h2⟩:=h;simp only[VR]at hv ⊢;obtain⟨p,a,cap,hp,e1,e2,e3,e4⟩:=hv;exact .inr ⟨p,a,cap,zA4 h1 hp,e1,e2,fun hc=>e3 (h2 hc),e4⟩
   case sl =>
     obtain⟨h1,rfl,rfl,rfl,h2⟩:=h;simp only[VR]at hv ⊢;rcases hv with hv | ⟨p,a,cap,hp,e1,e2,e3,e4⟩
     · exact .inl hv
     · exact .inr ⟨p,a,cap,zA4 h1 hp,e1,e2,fun hc=>e3 (h2 hc),e4⟩
   case nils =>
     simp only[VR]at hv ⊢;exact .inl ⟨h,hv⟩
 | .nils,y,v,h,hv=>by cases y <;> simp_all [AW,VR]
 | .map b,y,v,h,hv=>by
   cases y <;> simp only[AW]at h
   simp only[VR]at hv ⊢;obtain⟨p,hp,e⟩:=hv;exact⟨p,zA4 h hp,e⟩
 | .nilm,y,v,h,hv=>by cases y <;> simp_all [AW,VR]
 | .func f xs ys,y,v,h,hv=>by
   cases y <;> simp only[AW]at h
   obtain⟨rfl,h1,h2⟩:=h;simp only[VR]at hv ⊢;obtain⟨cx,cy,e,g1,g2⟩:=hv;exact⟨cx,cy,e,AWs.ok _ _ _ h1 g1,AWs.ok _ _ _ h2 g2⟩
 | .yld b,y,v,h,hv=>by
   cases y <;> simp only[AW]at h
   simp only[VR]at hv ⊢;obtain⟨p,hp,e⟩:=hv;exact⟨p,zA4 h hp,e⟩
 | .nilf,y,v,h,hv=>by cases y <;> simp_all [AW,VR]
 | .agg l,y,v,h,hv=>by
   cases y <;> simp only[AW]at h
   simp only[VR]at hv ⊢;obtain⟨cs,e,g1⟩:=hv;exact⟨cs,e,AWs.ok _ _ _ h g1⟩
 | .tuple l,y,v,h,hv=>by
   cases y <;> simp only[AW]at h
   simp only[VR]at hv ⊢;obtain⟨cs,e,g1⟩:=hv;exact⟨cs,e,AWs.ok _ _ _ h g1⟩
theorem AWs.ok{rn:List Nat}{j:Inj}:∀(xs ys:List AV) (vs:List Value),AWs rn xs ys->VRs j ys vs->VRs (zDT rn j) xs vs
 | [],ys,vs,h,hv=>by cases ys <;> simp_all [AWs,VRs]
 | x::xs,ys,vs,h,hv=>by
   cases ys <;> simp only[AWs]at h
   simp only[VRs]at hv ⊢;obtain⟨v,ws,e,g1,g2⟩:=hv;exact⟨v,ws,e,AW.ok _ _ _ h.1 g1,AWs.ok _ _ _ h.2 g2⟩
end
theorem AWs.len{rn:List Nat}:∀{xs ys:List AV},AWs rn xs ys->xs.length=ys.length
 | [],ys,h=>by cases ys <;> simp_all [AWs]
 | x::xs,ys,h=>by
   cases ys <;> simp only[AWs]at h
   simp[AWs.len h.2]
theorem AWs.at{rn:List Nat}:∀{xs ys:List AV},AWs rn xs ys->∀(i:Nat) x,xs[i]? = some x->∃y,ys[i]? = some y/\AW rn x y
 | [],ys,h,i,x,hx=>by simp at hx
 | x::xs,ys,h,i,x',hx=>by
   cases ys <;> simp only[AWs]at h
   cases i with
   | zero=>simp at hx;subst hx;exact⟨_,rfl,h.1⟩
   | succ i=>simpa using AWs.at h.2 i x' (by simpa using hx)
def AWb(rn:List Nat):ABlk->ABlk->Prop
 | .dead,_=>True
 | .cells o l,.cells o' l'=>(o=true->o'=true)/\AWs rn l l'
 | .loop ps asg body st pe F,.loop ps' asg' body' st' pe' F'=>ps=ps'/\asg=asg'/\body=body'/\st=st'/\pe=pe'/\AWs rn F F'
 | .map es,.map es'=>AWs rn (es.map (·.1)) (es'.map (·.1))/\AWs rn (es.map (·.2)) (es'.map (·.2))
 | .obj o s,.obj o' s'=>o=o'/\s=s'
 | .pin l,.pin l'=>AWs rn l l'
 | _,_=>False
theorem AWb.own{rn:List Nat}{x y:ABlk}(h:AWb rn x y)(hx:x.own=true):y.own=true:=by
 cases x <;> cases y <;> simp_all [AWb,ABlk.own]
theorem AWb.nd{rn:List Nat}{x y:ABlk}(h:AWb rn x y)(hx:x≠.dead):y≠.dead:=by
 cases x <;> cases y <;> simp_all [AWb]
theorem AWb.ok{rn:List Nat}{j:Inj}{w:World}{x y:ABlk}{p:JB}(hw:AWb rn x y)(this:BRel j w y p):BRel (zDT rn j) w x p:=by
 cases x with
 | dead=>trivial
 | cells o l =>
   cases y with
   | dead=>simp[AWb]at hw
   | loop _ _ _ _ _ _=>simp[AWb]at hw
   | map _=>simp[AWb]at hw
   | obj _ _=>simp[AWb]at hw
   | pin _=>simp[AWb]at hw
   | cells o' l' =>
     obtain⟨w1,w2⟩:=hw;obtain⟨cs,T,fz,g1,g2,g3,g4,g5⟩:=this;refine ⟨cs,T,fz,g1,g2,by rw[w2.len];exact g3,fun i z hz=>?_,fun ho=>g5 (w1 ho)⟩;obtain⟨z',hz',hzw⟩:=w2.at i z hz;obtain⟨v,hv,hr⟩:=g4 i z' hz';exact⟨v,hv,AW.ok _ _ _ hzw hr⟩
 | loop ps asg body st pe F =>
   cases y with
   | dead=>simp[AWb]at hw
   | cells _ _=>simp[AWb]at hw
   | map _=>simp[AWb]at hw
   | obj _ _=>simp[AWb]at hw
   | pin _=>simp[AWb]at hw
   | loop ps' asg' body' st' pe' F' =>
     obtain⟨rfl,rfl,rfl,rfl,rfl,w2⟩:=hw;obtain⟨fn,tmps,D,g1,g2⟩:=this;exact⟨fn,tmps,D,g1,AWs.ok _ _ _ w2 g2⟩
 | map es =>
   cases y with
   | dead=>simp[AWb]at hw
   | cells _ _=>simp[AWb]at hw
   | loop _ _ _ _ _ _=>simp[AWb]at hw
   | obj _ _=>simp[AWb]at hw
   | pin _=>simp[AWb]at hw
   | map es' =>
     obtain⟨w1,w2⟩:=hw;obtain⟨ents,cl,g1,gs,g2,g3⟩:=this;have hl:=w1.len;simp at hl;refine ⟨ents,cl,g1,gs,by omega,fun i z e hz he=>?_⟩;obtain⟨k',hk',hkw⟩:=w1.at i z.1 (by rw[qzZ,hz];rfl);obtain⟨v',hv',hvw⟩:=w2.at i z.2 (by rw[qzZ,hz];rfl);rw[qzZ]at hk' hv';cases hx:es'[i]? with
     | none=>rw[hx]at hk';cases hk'
     | some x =>
       rw[hx]at hk' hv';cases hk';cases hv'
       have:=g3 i x e hx he;exact⟨AW.ok _ _ _ hkw this.1,AW.ok _ _ _ hvw this.2⟩
 | obj _ _=>trivial
 | pin l =>
   cases y with
   | dead=>simp[AWb]at hw
   | cells _ _=>simp[AWb]at hw
   | loop _ _ _ _ _ _=>simp[AWb]at hw
   | map _=>simp[AWb]at hw
   | obj _ _=>simp[AWb]at hw
   | pin l' =>
     have w2:AWs rn l l':=hw;obtain⟨h0,cs,T,fz,g1,g4⟩:=this;refine ⟨h0,cs,T,fz,g1,fun i z hz=>?_⟩;obtain⟨z',hz',hzw⟩:=w2.at i z hz;obtain⟨v,hv,hr⟩:=g4 i z' hz';exact⟨v,hv,AW.ok _ _ _ hzw hr⟩
theorem AWb.obj{rn:List Nat}{x y:ABlk}(h:AWb rn x y)(hx:x.isObj=true):y=x:=by
 cases x <;> cases y <;> simp_all [AWb,ABlk.isObj]
def AWh(rn:List Nat)(H:zA):zA->List Nat->Prop
 | [],[]=>True
 | x::xs,b::bs=>AWb rn x (H.getD b .dead)/\b<H.length/\AWh rn H xs bs
 | _,_=>False
theorem AWh.at{rn:List Nat}{H:zA}:∀{xs:zA} {bs:List Nat},AWh rn H xs bs->xs.length=bs.length/\∀(i:Nat) x b,xs[i]? = some x->bs[i]? = some b->∃y,H[b]? = some y/\AWb rn x y
 | [],bs,h=>by cases bs <;> simp_all [AWh]
 | x::xs,bs,h=>by
   cases bs <;> simp only[AWh]at h
   rename_i b bs;obtain⟨h1,h2,h3⟩:=h;obtain⟨g1,g2⟩:=AWh.at h3;refine ⟨by simp[g1],fun i x' b' hx hb=>?_⟩;cases i with
   | zero =>
     simp at hx hb;subst hx;subst hb
     refine ⟨H[b],q3Z h2,?_⟩;rw[q2Z,q3Z h2]at h1;exact h1
   | succ i=>exact g2 i x' b' (by simpa using hx) (by simpa using hb)
def AWg(rn:List Nat)(H:zA):zA->List Nat->Prop
 | [],[]=>True
 | x::xs,b::bs=>(if b<H.length then AWb rn x (H.getD b .dead) else True)/\AWg rn H xs bs
 | _,_=>False
theorem AWg.at{rn:List Nat}{H:zA}:∀{xs:zA} {bs:List Nat},AWg rn H xs bs->xs.length=bs.length/\∀(i:Nat) x b,xs[i]? = some x->bs[i]? = some b->b<H.length->∃y,H[b]? = some y/\AWb rn x y
 | [],bs,h=>by cases bs <;> simp_all [AWg]
 | x::xs,bs,h=>by
   cases bs <;> simp only[AWg]at h
   rename_i b bs;obtain⟨h1,h3⟩:=h;obtain⟨g1,g2⟩:=AWg.at h3;refine ⟨by simp[g1],fun i x' b' hx hb hlt=>?_⟩;cases i with
   | zero =>
     simp at hx hb;subst hx;subst hb
     rw[if_pos hlt]at h1;refine ⟨H[b],q3Z hlt,?_⟩;rw[q2Z,q3Z hlt]at h1;exact h1
   | succ i=>exact g2 i x' b' (by simpa using hx) (by simpa using hb) hlt
theorem AWh.toG{rn:List Nat}{H:zA}:∀{xs:zA} {bs:List Nat},AWh rn H xs bs->AWg rn H xs bs
 | [],bs,h=>by cases bs <;> simp_all [AWh,AWg]
 | x::xs,bs,h=>by
   cases bs <;> simp only[AWh]at h
   obtain⟨h1,h2,h3⟩:=h;exact⟨by rw[if_pos h2];exact h1,h3.toG⟩
structure Weak (n:Nat) (F:List AV) (H:zA) (Fn:List AV) (Hn:zA):Prop where
 rn:∃rn:List Nat,rn.Nodup/\n<=rn.length/\(∀b,b<n->rn[b]? = some b)/\AWs rn Fn F/\AWg rn H Hn rn
theorem Weak.mk'{n:Nat}{F:List AV}{H:zA}{Fn:List AV}{Hn:zA}(rn:List Nat)(h1:rn.Nodup)(h2:rn.take n=List.range n)(h3:AWs rn Fn F)(h4:AWg rn H Hn rn):Weak n F H Fn Hn:=by
 have hl:n<=rn.length:=by
   have:=congrArg List.length h2;simp at this;omega
 refine ⟨rn,h1,hl,fun b hb=>?_,h3,h4⟩;have:(rn.take n)[b]? = (List.range n)[b]?:=by rw[h2]
 rw[r4Z,if_pos hb]at this;rw[this];simp[hb]
theorem Step.ren{n:Nat}{j:Inj}{H Hn:zA}{w:World}(h:R j H w){rn:List Nat}(hnd:rn.Nodup)(hh:AWg rn H Hn rn)(hn:∀b,b<n->rn[b]? = some b)(hln:n<=rn.length):Step n j H w (zDT rn j) Hn w:=by
 obtain⟨hl,hat⟩:=hh.at;have hget:∀b p,zDT rn j b=some p->∃b',rn[b]? = some b'/\j b'=some p:=fun b p hp=>s6Z.1 hp;have hlt:∀b' p,j b'=some p->b'<H.length:=by
   intro b' p hp;rcases s2Z b' H.length with h1 | h1
   · exact h1
   · rw[h.dom b' h1]at hp;cases hp
 refine Step.make h ⟨fun b hb=>?_,fun b x p hb hp=>?_,fun b b' yb x p p' hb hyb hb' hd hne hp hp'=>?_⟩ (fun b hb=>?_) (by omega) (Keeps0.refl _ _ _) fun b x p hb hx hp=>?_
 · rw[zPE,s4Z (show rn.length<=b by omega)];rfl
 · obtain⟨b',h1,h2⟩:=hget b p hp
   obtain⟨y,hy,hw⟩:=hat b x b' hb h1 (hlt b' p h2);exact hw.ok (h.blk b' y p hy h2)
 · obtain⟨c,h1,h2⟩:=hget b p hp
   obtain⟨c',k1,k2⟩:=hget b' p' hp';obtain⟨y,hy,hw⟩:=hat b _ c hb h1 (hlt c p h2);obtain⟨y',hy',hw'⟩:=hat b' _ c' hb' k1 (hlt c' p' k2);have hcc:c≠c':=by
     intro e;subst e;have hlt:b<rn.length:=(q1Z.1 h1).1;exact hne ((List.getElem?_inj hlt hnd).1 (h1.trans k1.symm))
   exact h.inj c c' y y' p p' hy (hw.own hyb) hy' (hw'.nd hd) hcc h2 k2
 · rw[zPE,hn b hb];rfl
 · obtain⟨c,k1,k2⟩:=hget b p hp
   obtain⟨y,hy,hw⟩:=hat b _ c hb k1 (hlt c p k2);have hg:rn.getD b 0=c:=by rw[q2Z,k1];rfl
   exact .inr ⟨c,y,p,hy,hw.nd hx,k2,rfl,hw.own,fun ho=>⟨hw.obj ho,rfl,by show j.foot (rn.getD b 0)=_;rw[hg],by show j.shr (rn.getD b 0)=_;rw[hg]⟩⟩
theorem R.ren{j:Inj}{H Hn:zA}{w:World}(h:R j H w){rn:List Nat}(hnd:rn.Nodup)(hh:AWg rn H Hn rn):R (zDT rn j) Hn w:=(Step.ren (n:=0) h hnd hh (fun b hb=>by omega) (qqZ _)).rel
theorem Weak.step{n m:Nat}{F Fn:List AV}{H Hn H0:zA}{j0 j:Inj}{w0 w:World}(h:Weak n F H Fn Hn)(hm:m<=n)(hs:Step m j0 H0 w0 j H w){vs:List Value}(hF:VRs j F vs) :
   ∃j',Step m j0 H0 w0 j' Hn w/\VRs j' Fn vs:=by
 obtain⟨rn,h1,h2,h3,h4,h5⟩:=h;exact⟨zDT rn j,hs.trans (Step.ren hs.rel h1 h5 h3 h2) hm,AWs.ok _ _ _ h4 hF⟩
theorem Sim.weak{P:Program}{r:Option Nat}{n0:Nat}{c:Code}{F Fn:List AV}{H Hn:zA}{Q:AX->List AV->zA->Prop}(hw:Weak n0 F H Fn Hn)(hn:n0<=H.length)(h:Sim P r n0 c Fn Hn Q):Sim P r n0 c F H Q:=by
 intro B j w a m hB hR hF hd;obtain⟨j',hs,hF'⟩:=hw.step (qnZ _) (Step.refl hR hn) hF;refine wpIn_mono (h B j' w a m hB hs.rel hF' hd) ?_;rintro e a' w' ⟨x,F',H',j2,h1,h2,h3,h4,h5⟩;exact⟨x,F',H',j2,h1,h2,h3,h4,hs.trans h5 (qnZ _)⟩
def zKZ(P:Program)(F:List AV)(H:zA):ResultVar->Option AV
 | .tmp t=>some (F.getD t zV)
 | .cell a t=>zGQ P H t (F.getD a zV)
def zDl(P:Program)(F:List AV)(H:zA):List ResultVar->Option (List AV)
 | []=>some []
 | x::xs=>match zKZ P F H x,zDl P F H xs with
   | some v,some vs=>some (v::vs)
   | _,_=>none
def zCt(P:Program)(rs:List ResultVar)(F:List AV)(H:zA):Option AV :=
 match zDl P F H rs with
 | some [v]=>some v
 | some vs=>some (.tuple vs)
 | none=>none
theorem zRB{j:Inj}{F:List AV}{tmps:Array Value}(h:VRs j F tmps.toList)(t:Nat):VR j (F.getD t zV) (tmps.getD t undef) :=
 zQ (a:={ tmps,defers:=[] }) h (.tmp t)
def zJ0(tmps:Array Value):ResultVar->Sem Value
 | .tmp t=>pure (tmps.getD t undef)
 | .cell a t=>do loadVar t (<-asAddr (tmps.getD a undef))
theorem zPy{P:Program}{j:Inj}{F:List AV}{H:zA}{w:World}(hR:R j H w){tmps:Array Value}(hF:VRs j F tmps.toList){x:ResultVar}{v:AV}(h:zKZ P F H x=some v) :
   ∃cv,Sem.run P (zJ0 tmps x) w=.ok cv w/\VR j v cv:=by
 cases x with
 | tmp t=>cases h;exact⟨_,rfl,zRB hF t⟩
 | cell a t =>
   simp only[zKZ]at h;have ha:=zRB hF a;obtain⟨cv,h1,h2⟩:=zLJ hR h ha;refine ⟨cv,?_,h2⟩;unfold Instr.loadAt at h1;have hp:∃b off,F.getD a zV=.ptr b off:=by
     unfold zGQ at h;split at h
     · rename_i b off e;exact⟨b,off,e⟩
     · cases h
   obtain⟨b,off,e⟩:=hp;rw[e]at ha;simp only[VR]at ha;obtain⟨p,hp,hv⟩:=ha;show Sem.run P (do loadVar t (<-asAddr (tmps.getD a undef))) w=_;rw[hv]at h1 ⊢;exact h1
theorem zHs{P:Program}{j:Inj}{F:List AV}{H:zA}{w:World}(hR:R j H w){tmps:Array Value}(hF:VRs j F tmps.toList):∀{xs:List ResultVar} {vs:List AV},zDl P F H xs=some vs ->
   ∃cvs,Sem.run P (xs.mapM (zJ0 tmps)) w=.ok cvs w/\VRs j vs cvs
 | [],vs,h=>by cases h;exact⟨[],rfl,rfl⟩
 | x::xs,vs,h=>by
   unfold zDl at h;split at h
   · rename_i v vs' h1 h2
     cases h;obtain⟨cv,g1,g2⟩:=zPy hR hF h1;obtain⟨cvs,k1,k2⟩:=zHs hR hF h2;refine ⟨cv::cvs,?_,cv,cvs,rfl,g2,k2⟩;rw[List.mapM_cons,rb g1,rb k1];rfl
   · cases h
theorem zTm{P:Program}{j:Inj}{F:List AV}{H:zA}{w:World}(hR:R j H w){tmps:Array Value}(hF:VRs j F tmps.toList){fn:Func}{v:AV}(h:zCt P fn.results.toList F H=some v) :
   ∃cv,(results fn tmps).run P w=.ok cv w/\VR j v cv:=by
 have run:∀vs,zDl P F H fn.results.toList=some vs->∃cvs,VRs j vs cvs/\(results fn tmps).run P w=.ok (if h:cvs.toArray.size=1 then cvs.toArray[0] else .tuple cvs.toArray) w:=by
   intro vs hvs;obtain⟨cvs,h1,h2⟩:=zHs hR hF hvs;refine ⟨cvs,h2,?_⟩;show Sem.run P (fn.results.mapM (zJ0 tmps) >>= fun vs=>pure (if h:vs.size=1 then vs[0] else .tuple vs)) w=_;have e:Sem.run P (fn.results.mapM (zJ0 tmps)) w=.ok cvs.toArray w:=by
     rw[Array.mapM_eq_mapM_toList];show Sem.run P (List.toArray <$> fn.results.toList.mapM _) w=_;rw[map_eq_pure_bind,rb h1];rfl
   rw[rb e];rfl
 unfold zCt at h;split at h
 · rename_i v' hv
   cases h;obtain⟨cvs,h1,h2⟩:=run _ hv;simp only[VRs]at h1;obtain⟨c,ws,rfl,h3,rfl⟩:=h1;exact⟨c,by rw[h2];rfl,h3⟩
 · rename_i vs hne hv
   cases h;obtain⟨cvs,h1,h2⟩:=run _ hv;refine ⟨.tuple cvs.toArray,?_,cvs.toArray,rfl,by simpa using h1⟩;rw[h2,dif_neg];have hl:=h1.length;simp;rw[<-hl];intro e1
   match vs,e1 with
   | [x],_=>exact hne x rfl
 · cases h
def zSg:List Nat->World->World
 | [],w=>w
 | D::Ds,w=>zSg Ds (w.putObj D (.deferred none))
theorem zJW{n:Nat}{j0 j:Inj}{H0 H:zA}{w0:World}(hg0:gsz<=w0.heap.size):∀(Ds:List Nat) (w:World),Step n j0 H0 w0 j H w->Ds.Nodup->(∀D∈Ds,w0.heap.size<=D/\w.heap[D]? = some (.deferred (some [])))->Step n j0 H0 w0 j H (zSg Ds w)
 | [],w,hs,_,_=>hs
 | D::Ds,w,hs,hn,hd=>by
   obtain⟨hd1,hd2⟩:=hd D (qhZ);refine zJW hg0 Ds _ ?_ (rdZ.1 hn).2 fun D' hD'=>?_
   · refine ⟨hs.rel.same_on (by simp) (fun u hu=>World.putObj_heap_other (by omega)) fun u hu=>World.putObj_heap_other ?_,hs.ext,hs.len,⟨hs.keeps.os,hs.keeps.tape,hs.keeps.output,by simpa using hs.keeps.size,fun c hc ho=>?_⟩,hs.fresh,hs.tch⟩
     · rintro rfl
       obtain⟨o,g1,g2⟩:=hs.rel.nd hu;rw[g1]at hd2;cases hd2;exact g2 _ rfl
     · rw[World.putObj_heap_other (by omega)];exact hs.keeps.block c hc ho
   · refine ⟨(hd D' (qiZ _ hD')).1,?_⟩
     rw[World.putObj_heap_other (show D'≠D from fun e=>(rdZ.1 hn).1 (by rw[<-e];exact hD'))];exact (hd D' (qiZ _ hD')).2
theorem zGC{F:Fence}{n:Nat}{P:Program}{fn:Func}{tmps:Array Value}{R:Ending->World->Prop}:∀(Ds:List Nat) (w:World),Ds.Nodup->(∀D∈Ds,w.heap[D]? = some (.deferred (some []))) ->
   (∃v,(results fn tmps).run P (zSg Ds w)=.ok v (zSg Ds w)/\R (.returned v) (zSg Ds w))->LeavesInM F n P fn tmps R (Ds.map zFN) .returning w
 | [],w,_,_,h=>h
 | D::Ds,w,hn,hd,h=>by
   refine ⟨by simp,.inl ⟨D,w.putObj D (.deferred none),rfl,run_takeDeferred (hd D (qhZ)),?_⟩⟩;refine zGC Ds _ (rdZ.1 hn).2 (fun D' hD'=>?_) h;rw[World.putObj_heap_other (show D'≠D from fun e=>(rdZ.1 hn).1 (by rw[<-e];exact hD'))];exact hd D' (qiZ _ hD')
theorem zFS{P:Program}{fn:Func}{F1:List AV}{H H1:zA}{v1:AV}{j j':Inj}{w w':World}{a':Act}{n:Nat}{x:AX}(hg0:gsz<=w.heap.size)(hx:x=.normal\/x=.ret)(hv1:zCt P fn.results.toList F1 H1=some v1)(h3:VRs j' F1 a'.tmps.toList)(h4:DefOk w.heap.size w' a'.defers)
   (h5:Step H.length j H w j' H1 w') {R:Ending->World->Prop} (hR:∀cv w2,VR j' v1 cv->Step H.length j H w j' H1 w2->R (.returned cv) w2):bodyPostM (FW none) n P fn R (AX.toExit x) a' w':=by
 obtain⟨Ds,e,hn,hd⟩:=h4;have hs:=zJW hg0 Ds w' h5 hn hd;obtain⟨cv,g1,g2⟩:=zTm hs.rel h3 hv1;have:=zGC (F:=FW none) (n:=n) (P:=P) (fn:=fn) (tmps:=a'.tmps) (R:=R) Ds w' hn (fun D hD=>(hd D hD).2) ⟨cv,g1,hR cv _ g2 hs⟩;rcases hx with rfl | rfl
 · show LeavesInM (FW none) n P fn a'.tmps R a'.defers .returning w'
   rw[e];exact this
 · show LeavesInM (FW none) n P fn a'.tmps R a'.defers .returning w'
   rw[e];exact this
theorem zE{P:Program}{f:FuncId}{fn:Func}{c:Code}(hf:P.funcs[f]? = some fn)(hb:fn.body=some c){args:List AV}{H H':zA}{v:AV}
   (h:Sim P none H.length c (args++qbZ (fn.ntmps-args.length) zV) H fun x F1 H1=>(x=.normal\/x=.ret)/\∃v1,zCt P fn.results.toList F1 H1=some v1/\Weak H.length [v1] H1 [v] H'):Ct P f args H v H':=by
 intro j w cargs hR hargs;refine (callsIn_wide (n:=0)).1 ?_;refine callsIn_of_wp_marks hf hb trivial ?_ rfl;have hl:=hargs.length;have hF:VRs j (args++qbZ (fn.ntmps-args.length) zV) (cargs++Array.replicate (fn.ntmps-cargs.size) undef).toList:=by
   rw[rxZ,Array.toList_replicate,hl,rjZ];exact hargs.append (VRs.replicate (v:=undef) (show VR j zV undef from ⟨#[],rfl,rfl⟩) _)
 refine wpIn_mono (h w.heap.size j w { tmps:=cargs++Array.replicate (fn.ntmps-cargs.size) undef,defers:=[] } 0 (qnZ _) hR hF (DefOk.nil _ _)) ?_;rintro e a' w' ⟨x,F',H1,j',rfl,⟨hx,v1,hv1,hw⟩,h3,h4,h5⟩;refine zFS hR.glo.1.2 hx hv1 h3 h4 h5 fun cv w2 g2 hs=>?_;obtain⟨j2,k1,k2⟩:=hw.step (qnZ _) hs (vs:=[cv]) ⟨cv,[],rfl,g2,rfl⟩;simp only[VRs]at k2;obtain⟨_,_,e,k3,_⟩:=k2;cases e;exact⟨cv,j2,rfl,k3,k1⟩
section
def zIq(P:Program)(Γ:Gam)(n:Nat)(fn:Func)(args:List AV)(H:zA):Option (AV×zA) :=
 match fn.body with
 | none=>none
 | some c =>
   match zJ P Γ n true c (args++qbZ (fn.ntmps-args.length) zV) H with
   | some (.ret,F',H')=>(zCt P fn.results.toList F' H').map (·,H')
   | some (.normal,F',H')=>(zCt P fn.results.toList F' H').map (·,H')
   | _=>none
theorem zSW{P:Program}{Γ:Gam}(hm:P.follows .mixedOrders=true)(hΓ:GOk P Γ){n:Nat}{f:FuncId}{fn:Func}(hf:P.funcs[f]? = some fn){args:List AV}{H H1 H':zA}{v1 v:AV}(h:zIq P Γ n fn args H=some (v1,H1))(hw:Weak H.length [v1] H1 [v] H') :
   Ct P f args H v H':=by
 unfold zIq at h;split at h
 · cases h
 rename_i c hc;refine zE hf hc ?_;split at h
 · rename_i F' H2 hr
   obtain⟨v2,hv,e⟩:=qlZ.1 h;cases e;exact Sim.exec hm hΓ hr (qnZ _) ⟨.inr rfl,_,hv,hw⟩
 · rename_i F' H2 hr
   obtain⟨v2,hv,e⟩:=qlZ.1 h;cases e;exact Sim.exec hm hΓ hr (qnZ _) ⟨.inl rfl,_,hv,hw⟩
 · cases h
abbrev zS:=List AV->zA->Option (AV×zA×List Nat)
def gam:List (FuncId×zS)->Gam
 | [],_,_,_=>none
 | (g,s)::l,f,args,H=>if f=g then s args H else gam l f args H
def zBJ(g:List AV->Option AV):zS:=fun args H=>match g args with
 | some v=>some (v,H,[])
 | none=>none
theorem ZM{P:Program}{f:FuncId}{g:List AV->Option AV}(he:∀cargs w,(callFunc f cargs).run P w=.ok (.enter f cargs) w)
   (h:∀args v,g args=some v->Ct P f args [] v []/\zL args=true/\free v=true):Sound P f (zBJ g):=by
 refine ⟨he,fun args H v H' W hs=>?_,fun args H v H' W hs=>?_⟩ <;> (unfold zBJ at hs;split at hs <;> cases hs)
 · rename_i v hg
   obtain⟨h1,h2,h3⟩:=h args _ hg;exact zT4 h1 h2 h3
 · exact⟨qnZ _,fun _ _ _=>rfl⟩
def ZD(g:List AV->zA->Option AV):zS:=fun args H=>match g args H with
 | some v=>some (v,H,[])
 | none=>none
theorem ZU{P:Program}{f:FuncId}{g:List AV->zA->Option AV}(he:∀cargs w,(callFunc f cargs).run P w=.ok (.enter f cargs) w)
   (h:∀args H v,g args H=some v->Ct P f args H v H):Sound P f (ZD g):=by
 refine ⟨he,fun args H v H' W hs=>?_,fun args H v H' W hs=>?_⟩ <;> (unfold ZD at hs;split at hs <;> cases hs)
 · rename_i v hg
   exact h args _ _ hg
 · exact⟨qnZ _,fun _ _ _=>rfl⟩
mutual
theorem AW.refl(rn:List Nat):∀x,free x=true->AW rn x x
 | .top,_=>by simp[AW]
 | .bool b,_=>by simp[AW]
 | .int k n,_=>by simp[AW]
 | .str s,_=>by simp[AW]
 | .ptr b o,hf=>by simp[Go.Proofs.YtfhidaoiofeooaaGreatDoor.free]at hf
 | .nilp,_=>by simp[AW]
 | .slice ..,hf=>by simp[Go.Proofs.YtfhidaoiofeooaaGreatDoor.free]at hf
 | .sl ..,hf=>by simp[Go.Proofs.YtfhidaoiofeooaaGreatDoor.free]at hf
 | .nils,_=>by simp[AW]
 | .map _,hf=>by simp[Go.Proofs.YtfhidaoiofeooaaGreatDoor.free]at hf
 | .nilm,_=>by simp[AW]
 | .func f xs ys,hf=>by
   simp[Go.Proofs.YtfhidaoiofeooaaGreatDoor.free]at hf;simp only[AW];exact⟨trivial,AWs.refl rn xs hf.1,AWs.refl rn ys hf.2⟩
 | .yld _,hf=>by simp[Go.Proofs.YtfhidaoiofeooaaGreatDoor.free]at hf
 | .nilf,_=>by simp[AW]
 | .agg l,hf=>by
   simp[Go.Proofs.YtfhidaoiofeooaaGreatDoor.free]at hf;simp only[AW];exact AWs.refl rn l hf
 | .tuple l,hf=>by
   simp[Go.Proofs.YtfhidaoiofeooaaGreatDoor.free]at hf;simp only[AW];exact AWs.refl rn l hf
theorem AWs.refl(rn:List Nat):∀xs,zL xs=true->AWs rn xs xs
 | [],_=>by simp[AWs]
 | x::xs,hf=>by
   simp[zL]at hf;exact⟨AW.refl rn x hf.1,AWs.refl rn xs hf.2⟩
end
theorem zQ0{v:AV}{H:zA}(h:free v=true):Weak 0 [v] H [v] [] :=
 ⟨[],by simp,qnZ _,fun b hb=>by omega,⟨AW.refl [] v h,trivial⟩,trivial⟩
theorem Sim.loopW{P:Program}{r:Option Nat}{n0:Nat}{x:Code}{Q:AX->List AV->zA->Prop}{σ:Type}(I:σ->Prop)(Fs:σ->List AV)(Hs:σ->zA)(μ:σ->Nat)(s0:σ){F:List AV}{H:zA}(hn:n0<=H.length)(hI:I s0)(h0:Weak n0 F H (Fs s0) (Hs s0))
   (round:∀s,I s->Sim P r n0 x (Fs s) (Hs s) fun e F' H'=>match e with | .normal=>∃s',I s'/\Weak n0 F' H' (Fs s') (Hs s')/\μ s'<μ s | e=>Q e F' H'):Sim P r n0 (.loop x) F H Q:=by
 refine Sim.loop (fun s F H=>I s/\Weak n0 F H (Fs s) (Hs s)) μ s0 hn ⟨hI,h0⟩ fun s F H hn ⟨hi,hw⟩=>?_;refine Sim.weak hw hn ((round s hi).mono fun e F' H' _ hq=>?_);cases e with
 | normal =>
   obtain⟨s',h1,h2,h3⟩:=hq;exact⟨s',⟨h1,h2⟩,h3⟩
 | exit id=>exact hq
 | ret=>exact hq
theorem Sim.step{P:Program}{Γ:Gam}(hm:P.follows .mixedOrders=true)(hΓ:GOk P Γ){r:Option Nat}{n0 n:Nat}{x y:Code}{F F':List AV}{H H':zA}{Q:AX->List AV->zA->Prop}(h:zJ P Γ n r.isNone x F H=some (.normal,F',H'))(hn:n0<=H.length)(k:Sim P r n0 y F' H' Q):Sim P r n0 (.seq x y) F H Q :=
 Sim.seq (Sim.exec hm hΓ h hn k)
@[simp] theorem Z7{rn:List Nat}{xs:List AV}(h:zL xs=true):AWs rn xs xs↔True:=⟨fun _=>trivial,fun _=>AWs.refl rn xs h⟩
theorem frees_iff:∀{xs:List AV},zL xs=true↔∀x∈xs,free x=true
 | []=>by simp[zL]
 | x::xs=>by simp[zL,frees_iff (xs:=xs)]
theorem zH{α:Type}(l:List α)(f:α->AV)(h:∀x,free (f x)=true):zL (l.map f)=true:=by
 rw[frees_iff];intro x hx;obtain⟨a,_,rfl⟩:=reZ.1 hx;exact h a
@[simp] theorem zVk:free .top=true:=rfl
@[simp] theorem zVQ(b:Bool):free (.bool b)=true:=rfl
@[simp] theorem zVd(k:IntKind)(n:Int):free (.int k n)=true:=rfl
@[simp] theorem zVj(s:List UInt8):free (.str s)=true:=rfl
@[simp] theorem zVN:free .nilp=true:=rfl
@[simp] theorem zVY:free .nils=true:=rfl
@[simp] theorem zVW:free .nilm=true:=rfl
@[simp] theorem zVR:free .nilf=true:=rfl
@[simp] theorem zVZ(l:List AV):free (.agg l)=zL l:=rfl
@[simp] theorem zUj(l:List AV):free (.tuple l)=zL l:=rfl
@[simp] theorem zVM(f:Nat)(xs ys:List AV):free (.func f xs ys)=(zL xs&&zL ys):=rfl
@[simp] theorem zVU:zL []=true:=rfl
@[simp] theorem zEl(x:AV)(xs:List AV):zL (x::xs)=(free x&&zL xs):=rfl
def aB(n:Nat):AV:=.int .u8 n
@[simp] theorem zVp(n:Nat):free (aB n)=true:=rfl
@[simp] theorem zUd(s:List UInt8):zL (zAZ s)=true:=zH s _ fun _=>rfl
theorem zVA{n:Int}(h0:0<=n)(h:n<=4294967295):IntKind.u32.wrap n=n:=by rw[IntKind.wrap_u32];omega
theorem zUo{n:Int}(h0:0<=n)(h:n<=18446744073709551615):IntKind.u64.wrap n=n:=by rw[IntKind.wrap_u64];omega
theorem zEH{n:Int}(h0:0<=n)(h:n<=255):IntKind.u8.wrap n=n:=by rw[IntKind.wrap_u8];omega
theorem zK{n:Int}(h0 : -9223372036854775808<=n)(h:n<=9223372036854775807):IntKind.i64.wrap n=n:=IntWalk.i64_in n (by omega)
attribute [simp] zJ zn opA zAm ev ofV zMD zAM ZW zTe zUi zUx zUm zV unA zOl zL4 zS4 zTz zOm zFY zH9 zGQ zRz zAs zF9 zAC zx zLu zKT zB2 zAT Zv zG6 zFb Zf zC8 zt ZX zMR zDS zCq zJt zGg zHY zCt zDl zKZ zDb zM9 zVw eqA gam zBJ ZD zIq aloop zT zc zDd qop zP zC3 zAa zGd IntKind.bits AW AWs AWb AWh AWg zA9 zGn zIX zj zGk zBB zDt zGs zGo zGt zLr zFV zBK zBW zFe zDY zPB zS1 zBE Z3 zCh zHC scC
end
section
mutual
def zAj:AV->AV->Bool
 | .top,.top=>true
 | .bool a,.bool b=>a==b
 | .int k n,.int k' n'=>k==k'&&n==n'
 | .str s,.str s'=>s==s'
 | .ptr b o,.ptr b' o'=>b==b'&&o==o'
 | .nilp,.nilp=>true
 | .slice b o l sz c,.slice b' o' l' sz' c'=>b==b'&&o==o'&&l==l'&&sz==sz'&&c==c'
 | .sl b o l sz c,.sl b' o' l' sz' c'=>b==b'&&o==o'&&l==l'&&sz==sz'&&c==c'
 | .nils,.nils=>true
 | .map b,.map b'=>b==b'
 | .nilm,.nilm=>true
 | .func f xs ys,.func f' xs' ys'=>f==f'&&zBS xs xs'&&zBS ys ys'
 | .yld b,.yld b'=>b==b'
 | .nilf,.nilf=>true
 | .agg l,.agg l'=>zBS l l'
 | .tuple l,.tuple l'=>zBS l l'
 | _,_=>false
def zBS:List AV->List AV->Bool
 | [],[]=>true
 | x::xs,y::ys=>zAj x y&&zBS xs ys
 | _,_=>false
end
mutual
theorem zUF:∀{x y:AV},zAj x y=true->x=y
 | .top,y,h=>by cases y <;> simp_all [zAj]
 | .bool b,y,h=>by cases y <;> simp_all [zAj]
 | .int k n,y,h=>by cases y <;> simp_all [zAj]
 | .str s,y,h=>by cases y <;> simp_all [zAj]
 | .ptr b o,y,h=>by cases y <;> simp_all [zAj]
 | .nilp,y,h=>by cases y <;> simp_all [zAj]
 | .slice b o l sz c,y,h=>by cases y <;> simp_all [zAj]
 | .sl b o l sz c,y,h=>by cases y <;> simp_all [zAj]
 | .nils,y,h=>by cases y <;> simp_all [zAj]
 | .map b,y,h=>by cases y <;> simp_all [zAj]
 | .nilm,y,h=>by cases y <;> simp_all [zAj]
 | .func f xs ys,y,h=>by
   cases y <;> simp only[zAj,qsZ]at h
   simp only[qrZ,beq_iff_eq]at h;rw[h.1.1,Z9 h.1.2,Z9 h.2]
 | .yld b,y,h=>by cases y <;> simp_all [zAj]
 | .nilf,y,h=>by cases y <;> simp_all [zAj]
 | .agg l,y,h=>by
   cases y <;> simp only[zAj,qsZ]at h
   rw[Z9 h]
 | .tuple l,y,h=>by
   cases y <;> simp only[zAj,qsZ]at h
   rw[Z9 h]
theorem Z9:∀{xs ys:List AV},zBS xs ys=true->xs=ys
 | [],ys,h=>by cases ys <;> simp_all [zBS]
 | x::xs,ys,h=>by
   cases ys <;> simp only[zBS,qsZ]at h
   simp only[qrZ]at h;rw[zUF h.1,Z9 h.2]
end
mutual
theorem zJJ:∀(x:AV),zAj x x=true
 | .top | .nilp | .nils | .nilm | .nilf=>rfl
 | .bool b=>by simp[zAj]
 | .int k n=>by simp[zAj]
 | .str s=>by simp[zAj]
 | .ptr b o=>by simp[zAj]
 | .slice b o l sz c=>by simp[zAj]
 | .sl b o l sz c=>by simp[zAj]
 | .map b=>by simp[zAj]
 | .func f xs ys=>by simp[zAj,zA2 xs,zA2 ys]
 | .yld b=>by simp[zAj]
 | .agg l=>by simp[zAj,zA2 l]
 | .tuple l=>by simp[zAj,zA2 l]
theorem zA2:∀(xs:List AV),zBS xs xs=true
 | []=>rfl
 | x::xs=>by simp[zBS,zJJ x,zA2 xs]
end
attribute [simp] zJJ zA2
def ZP:ABlk->ABlk->Bool
 | .dead,.dead=>true
 | .cells o l,.cells o' l'=>o==o'&&zBS l l'
 | .map es,.map es'=>zBS (es.map (·.1)) (es'.map (·.1))&&zBS (es.map (·.2)) (es'.map (·.2))
 | .pin l,.pin l'=>zBS l l'
 | .obj false [.cells true l],.obj false [.cells true l']=>zBS l l'
 | _,_=>false
def heapEq:zA->zA->Bool
 | [],[]=>true
 | x::xs,y::ys=>ZP x y&&heapEq xs ys
 | _,_=>false
theorem zLh:∀{es es':List (AV×AV)},es.map (·.1)=es'.map (·.1)->es.map (·.2)=es'.map (·.2)->es=es'
 | [],[],_,_=>rfl
 | (a,b)::es,(c,d)::es',h1,h2=>by
   simp only[s1Z,List.cons.injEq]at h1 h2;rw[h1.1,h2.1,zLh h1.2 h2.2]
 | [],_::_,h,_=>by simp at h
 | _::_,[],h,_=>by simp at h
theorem zFo{x y:ABlk}(h:ZP x y=true):x=y:=by
 unfold ZP at h;split at h
 · rfl
 · simp only[qrZ,beq_iff_eq]at h
   rw[h.1,Z9 h.2]
 · simp only[qrZ]at h
   rw[zLh (Z9 h.1) (Z9 h.2)]
 · rw[Z9 h]
 · rw[Z9 h]
 · cases h
theorem zJf:∀{xs ys:zA},heapEq xs ys=true->xs=ys
 | [],ys,h=>by cases ys <;> simp_all [heapEq]
 | x::xs,ys,h=>by
   cases ys <;> simp only[heapEq,qsZ]at h
   simp only[qrZ]at h;rw[zFo h.1,zJf h.2]
attribute [simp] heapEq
def zEK(args0:List AV)(H0:zA)(v:AV)(H1:zA)(W:List Nat):zS:=fun args H=>if zBS args args0&&heapEq H H0 then some (v,H1,W) else none
theorem zC4{P:Program}{f:FuncId}{args0:List AV}{H0 H1:zA}{v:AV}{W:List Nat}(he:∀cargs w,(callFunc f cargs).run P w=.ok (.enter f cargs) w)(h:Ct P f args0 H0 v H1)(hl:H0.length<=H1.length)(hk:∀b,b<H0.length->b∉W->H1[b]? = H0[b]?) :
   Sound P f (zEK args0 H0 v H1 W):=by
 refine ⟨he,fun args H v' H' W' hs=>?_,fun args H v' H' W' hs=>?_⟩ <;> (unfold zEK at hs;split at hs <;> cases hs) <;> (rename_i hc;simp only[qrZ]at hc;obtain⟨h1,h2⟩:=hc;have e1:=Z9 h1;have e2:=zJf h2;subst e1;subst e2)
 · exact h
 · exact⟨hl,hk⟩
def zh:List (FuncId×zS)->Gam
 | [],_,_,_=>none
 | (g,s)::l,f,args,H=>if f=g then (match s args H with | some r=>some r | none=>zh l f args H) else zh l f args H
theorem zB{P:Program}:GOk P (zh []):=⟨fun _ _ ⟨_,_,_,h⟩=>by simp[zh]at h,fun _ _ _ _ _ _ h=>by simp[zh]at h⟩
theorem zC{P:Program}{g:FuncId}{s:zS}{l:List (FuncId×zS)}(h:Sound P g s)(hl:GOk P (zh l))(hg:g≠yl:=by decide):GOk P (zh ((g,s)::l)):=by
 refine ⟨fun f hne hf=>?_,?_⟩
 · by_cases e:f=g
   · subst e
     refine ⟨h.enter,fun args H v H' W hs=>?_,fun args H v H' W hs=>?_⟩ <;> (simp only[zh,if_true]at hs;split at hs)
     · rename_i r hr
       cases hs;exact h.ct _ _ _ _ _ hr
     · exact (hl.1 f hne ⟨_,_,_,hs⟩).ct _ _ _ _ _ hs
     · rename_i r hr
       cases hs;exact h.keep _ _ _ _ _ hr
     · exact (hl.1 f hne ⟨_,_,_,hs⟩).keep _ _ _ _ _ hs
   · have:zh ((g,s)::l) f=zh l f:=by funext args H;simp[zh,e]
     rw[this]at hf ⊢;exact hl.1 f hne hf
 · have:zh ((g,s)::l) yl=zh l yl:=by funext args H;simp only[zh];rw[if_neg (Ne.symm hg)]
   rw[this];exact hl.2
mutual
def zAR(wd:List (Nat×Nat)):AV->AV->Prop
 | .slice i 0 n sz false,.slice b off n' sz' _=>wd[i]? = some (b,off)/\n=n'/\sz=sz'
 | .sl i 0 n sz false,.slice b off n' sz' _=>wd[i]? = some (b,off)/\n=n'/\sz=sz'
 | .sl i 0 n sz false,.sl b off n' sz' _=>wd[i]? = some (b,off)/\n=n'/\sz=sz'
 | .sl _ 0 n _ false,.nils=>n=0
 | .agg xs,.agg ys=>zCS wd xs ys
 | x,y=>x=y/\free x=true
def zCS(wd:List (Nat×Nat)):List AV->List AV->Prop
 | [],[]=>True
 | x::xs,y::ys=>zAR wd x y/\zCS wd xs ys
 | _,_=>False
end
mutual
theorem zTx{wd:List (Nat×Nat)}{j j0:Inj}(hj:∀i b off p,wd[i]? = some (b,off)->j b=some p->j0 i=some ⟨p.blk,p.base+off,p.size⟩):∀(x y:AV) (v:Value),zAR wd x y->VR j y v->VR j0 x v
 | x,y,v,hw,h1=>by
   unfold zAR at hw;split at hw
   · rename_i i n sz b off n' sz' c
     obtain⟨w1,rfl,rfl⟩:=hw;simp only[VR]at h1 ⊢;obtain⟨p,a,cap,hp,e1,e2,e3,e4,e5⟩:=h1;refine ⟨⟨p.blk,p.base+off,p.size⟩,a,cap,hj _ _ _ _ w1 hp,e1,e2,(fun hh=>by cases hh),e4,?_⟩;rcases e5 with e5 | ⟨e5,e6⟩
     · exact .inl e5
     · exact .inr ⟨by rw[e5];simp,by simpa using e6⟩
   · rename_i i n sz b off n' sz' c
     obtain⟨w1,rfl,rfl⟩:=hw;simp only[VR]at h1 ⊢;obtain⟨p,a,cap,hp,e1,e2,e3,e4,e5⟩:=h1;refine .inr ⟨⟨p.blk,p.base+off,p.size⟩,a,cap,hj _ _ _ _ w1 hp,e1,e2,(fun hh=>by cases hh),e4,?_⟩;rcases e5 with e5 | ⟨e5,e6⟩
     · exact .inl e5
     · exact .inr ⟨by rw[e5];simp,by simpa using e6⟩
   · rename_i i n sz b off n' sz' c
     obtain⟨w1,rfl,rfl⟩:=hw;simp only[VR]at h1 ⊢;rcases h1 with h1 | ⟨p,a,cap,hp,e1,e2,e3,e4,e5⟩
     · exact .inl h1
     refine .inr ⟨⟨p.blk,p.base+off,p.size⟩,a,cap,hj _ _ _ _ w1 hp,e1,e2,(fun hh=>by cases hh),e4,?_⟩;rcases e5 with e5 | ⟨e5,e6⟩
     · exact .inl e5
     · exact .inr ⟨by rw[e5];simp,by simpa using e6⟩
   · subst hw
     simp only[VR]at h1 ⊢;exact .inl ⟨trivial,h1⟩
   · rename_i xs ys
     simp only[VR]at h1 ⊢;obtain⟨cs,e,g⟩:=h1;exact⟨cs,e,zEr hj xs ys _ hw g⟩
   · obtain⟨rfl,hf⟩:=hw
     exact VR.free _ _ hf h1
theorem zEr{wd:List (Nat×Nat)}{j j0:Inj}(hj:∀i b off p,wd[i]? = some (b,off)->j b=some p->j0 i=some ⟨p.blk,p.base+off,p.size⟩):∀(xs ys:List AV) (vs:List Value),zCS wd xs ys->VRs j ys vs->VRs j0 xs vs
 | [],ys,vs,h,hv=>by cases ys <;> simp_all [zCS,VRs]
 | x::xs,ys,vs,h,hv=>by
   cases ys with
   | nil=>simp[zCS]at h
   | cons y ys =>
     simp only[zCS]at h;simp only[VRs]at hv ⊢;obtain⟨u,us,e,h1,h2⟩:=hv;exact⟨u,us,e,zTx hj x y u h.1 h1,zEr hj xs ys us h.2 h2⟩
end
def winH(H:zA):zA->List (Nat×Nat)->Prop
 | [],[]=>True
 | .cells false l0::xs,(b,off)::wd=>(match H[b]? with | some (.cells _ l)=>off+l0.length<=l.length/\l0=(l.drop off).take l0.length | none=>True | _=>False)/\zL l0=true/\winH H xs wd
 | _,_=>False
theorem winH.at{H:zA}:∀{xs:zA} {wd:List (Nat×Nat)},winH H xs wd->xs.length=wd.length/\∀(i:Nat) x b off,xs[i]? = some x->wd[i]? = some (b,off) ->
   (∃l0,x=.cells false l0)/\∀y,H[b]? = some y->∃l0 o l,x=.cells false l0/\H[b]? = some (.cells o l)/\off+l0.length<=l.length/\l0=(l.drop off).take l0.length/\zL l0=true
 | [],wd,h=>by cases wd <;> simp_all [winH]
 | .dead::xs,wd,h=>by simp[winH]at h
 | .cells true l0::xs,wd,h=>by simp[winH]at h
 | .loop _ _ _ _ _ _::xs,wd,h=>by simp[winH]at h
 | .map _::xs,wd,h=>by simp[winH]at h
 | .pin _::xs,wd,h=>by simp[winH]at h
 | .cells false l0::xs,[],h=>by simp[winH]at h
 | .cells false l0::xs,(b,off)::wd,h=>by
   simp only[winH]at h;obtain⟨h1,h2,h3⟩:=h;obtain⟨g1,g2⟩:=winH.at h3;refine ⟨by simp[g1],fun i x b' off' hx hb=>?_⟩;cases i with
   | zero =>
     simp at hx hb;obtain⟨rfl,rfl⟩:=hb;subst hx;refine ⟨⟨l0,rfl⟩,fun y hy=>?_⟩;split at h1
     · rename_i o l hl
       exact⟨l0,o,l,rfl,hl,h1.1,h1.2,h2⟩
     · rename_i hn;rw[hn]at hy;cases hy
     · exact h1.elim
   | succ i=>exact g2 i x b' off' (by simpa using hx) (by simpa using hb)
theorem zJ7{P:Program}{f:FuncId}{args0 args:List AV}{H0 H:zA}{v:AV}(h:Ct P f args0 H0 v H0)(hv:free v=true)(wd:List (Nat×Nat))(ha:zCS wd args0 args)(hH:winH H H0 wd):Ct P f args H v H:=by
 intro j w cargs hR hargs;obtain⟨hl,hat⟩:=hH.at
 let j0:Inj:=⟨fun i=>match wd[i]? with
   | some (b,off)=>(j b).map fun p=>⟨p.blk,p.base+off,p.size⟩
   | none=>none,fun _=>[],fun _=>[]⟩
 have hj0:∀i p,j0 i=some p->∃b off q,wd[i]? = some (b,off)/\j b=some q/\p=⟨q.blk,q.base+off,q.size⟩:=by
   intro i p hp;simp only[j0]at hp;split at hp
   · rename_i b off e
     obtain⟨q,hq,rfl⟩:=qlZ.1 hp;exact⟨b,off,q,e,hq,rfl⟩
   · cases hp
 have hro:H0.all zGd=true:=by
   rw[s5Z];intro x hx;obtain⟨i,hi⟩:=List.getElem?_of_mem hx;have hil:i<wd.length:=by rw[<-hl];exact (q1Z.1 hi).1
   obtain⟨⟨l0,rfl⟩,_⟩:=hat i x _ _ hi (q3Z hil);rfl
 have hR0:R j0 H0 w:=by
   refine R.ro (fun b hb=>?_) (fun i x p hx hp=>?_) hro hR.glo.1
   · simp only[j0]
     rw[s4Z (show wd.length<=b by omega)]
   · obtain⟨b,off,q,h1,h2,rfl⟩:=hj0 i p hp
     obtain⟨y0,hy0⟩:=hR.live h2;obtain⟨l0,o,l,rfl,hb,h3,h4,h5⟩:=(hat i x b off hx h1).2 y0 hy0;obtain⟨cs,T,fz,g1,g2,g3,g4,g5⟩:=hR.blk b _ q hb h2;refine ⟨cs,T,fz,g1,g2,by dsimp only;omega,fun k z hz=>?_,fun ho=>by cases ho⟩;rw[h4,r4Z]at hz;split at hz
     · rw[r5Z]at hz
       obtain⟨v',hv',hr⟩:=g4 _ z hz;refine ⟨v',by dsimp only;rw[show q.base+off+k=q.base+(off+k) by omega];exact hv',?_⟩;refine VR.free z v' ?_ hr;refine frees_iff.1 h5 z ?_;rw[h4];refine qcZ (i:=k) ?_;rw[r4Z,if_pos ‹_›,r5Z];exact hz
     · cases hz
 have hargs0:∀(xs ys:List AV) (vs:List Value),zCS wd xs ys->VRs j ys vs->VRs j0 xs vs:=zEr fun i b off p h1 h2=>by simp only[j0,h1,h2,rhZ]
 refine (h j0 w cargs hR0 (hargs0 _ _ _ ha hargs)).mono ?_;rintro e w' ⟨cv,j',rfl,h1,h2⟩;exact⟨cv,j,rfl,VR.free v cv hv h1,h2.forget hR hro (qnZ _)⟩
def zCF(k:IntKind):List AV->Option (List Nat)
 | []=>some []
 | .int k' n::xs=>if k'=k/\0<=n then (zCF k xs).map (n.toNat::·) else none
 | _=>none
theorem zJQ{k:IntKind}:∀{xs:List AV} {l:List Nat},zCF k xs=some l->xs=l.map fun n:Nat=>.int k (n:Int)
 | [],l,h=>by cases h;rfl
 | x::xs,l,h=>by
   unfold zCF at h;split at h
   · cases ‹_=[]›
   · rename_i k' n ys e
     cases e;split at h
     · rename_i hc
       obtain⟨rfl,hn⟩:=hc;obtain⟨l',hl',rfl⟩:=qlZ.1 h;rw[zJQ hl'];simp only[s1Z]
       congr 2
       omega
     · cases h
   · cases h
def zp:List AV->Option (List (List UInt8))
 | []=>some []
 | .str s::xs=>(zp xs).map (s::·)
 | _=>none
theorem zAL:∀{xs:List AV} {l:List (List UInt8)},zp xs=some l->xs=l.map .str
 | [],l,h=>by cases h;rfl
 | x::xs,l,h=>by
   unfold zp at h;split at h
   · cases ‹_=[]›
   · rename_i s ys e
     cases e;obtain⟨l',hl',rfl⟩:=qlZ.1 h;rw[zAL hl'];rfl
   · cases h
@[simp] theorem zNp(k:IntKind)(l:List Nat):zCF k (l.map fun n:Nat=>.int k (n:Int))=some l:=by
 induction l with
 | nil=>rfl
 | cons n l ih=>simp[zCF,ih]
@[simp] theorem zVS(l:List Nat):zCF .u8 (l.map aB)=some l:=zNp .u8 l
@[simp] theorem Zw(l:List (List UInt8)):zp (l.map .str)=some l:=by
 induction l with
 | nil=>rfl
 | cons n l ih=>simp[zp,ih]
@[simp] theorem zVT(l:List (List UInt8)):zL (l.map .str)=true:=zH _ _ fun _=>rfl
@[simp] theorem zCd(l:List Nat):zL (l.map aB)=true:=zH _ _ fun _=>rfl
structure QF where
 st:Option (Nat×Nat×Nat)
 rd:Option Nat
 call:Bool
 grows:Bool
 sc:Bool
def QR.fl(q:QR):QF:=⟨q.st.map fun s=>(s.1,s.2.1,s.2.2.length),q.rd,q.call,q.grows,q.sc⟩
def zRr(a b:Nat×Nat×Nat):Bool:=a.1 != b.1 || decide (a.2.1+a.2.2<=b.2.1) || decide (b.2.1+b.2.2<=a.2.1)
def zGh(before:Bool)(si sk:List Nat)(di dk:Option Nat)(qi qk:QF):Bool :=
 (match di with
  | some d=>!sk.contains d || before
  | none=>true) &&
 (match dk with
  | some d=>(!si.contains d || before)&&dk != di
  | none=>true) &&
 (match qi.st with
  | some s=>qk.rd != some s.1&&!qk.call&&(match qk.st with | some s'=>zRr s s' | none=>true)
  | none=>true) &&
 (match qk.st with
  | some s=>(qi.rd != some s.1 || before)&&(!qi.call || before)
  | none=>true) &&
 (!qi.call || !qk.grows || before || qi.sc)
theorem zP0(before:Bool)(si sk:List Nat)(di dk:Option Nat)(qi qk:QR):ZB before si sk di dk qi qk=zGh before si sk di dk qi.fl qk.fl:=by
 unfold ZB zGh QR.fl;cases qi.st <;> cases qk.st <;> rfl
def zDq(ops:List Oper)(slots:List (List Nat))(qs:List QF)(pr:List Nat):Bool :=
 (List.range ops.length).all fun k =>
   ((ops.getD k default).after.toList.all fun e=>!Region.binds .any e || e.on<k) &&
   (List.range k).all fun i =>
     zGh ((pr.getD k 0).testBit i) (slots.getD i []) (slots.getD k []) (ops.getD i default).dst (ops.getD k default).dst (qs.getD i ⟨none,none,false,false,false⟩) (qs.getD k ⟨none,none,false,false,false⟩)
theorem zTG(qs:List QR)(i:Nat):(qs.getD i ⟨.top,[],none,none,false,false,false⟩).fl=(qs.map QR.fl).getD i ⟨none,none,false,false,false⟩:=by
 rw[q2Z,q2Z,qzZ];cases qs[i]? <;> rfl
@[simp] theorem zG(ops:List Oper)(slots:List (List Nat))(qs:List QR)(pr:List Nat):zC5 ops slots qs pr=zDq ops slots (qs.map QR.fl) pr:=by
 unfold zC5 zDq;simp only[zP0,zTG]
mutual
theorem zOL(n:Nat):∀x:AV,free x=true->below n x=true
 | .top,_ | .bool _,_ | .int _ _,_ | .str _,_ | .nilp,_ | .nils,_ | .nilm,_ | .nilf,_=>rfl
 | .ptr ..,h | .slice ..,h | .sl ..,h | .map _,h | .yld _,h=>by simp[free]at h
 | .func f xs ys,h=>by simp at h;simp[below,zk n xs h.1,zk n ys h.2]
 | .agg l,h=>by simp at h;simp[below,zk n l h]
 | .tuple l,h=>by simp at h;simp[below,zk n l h]
theorem zk(n:Nat):∀xs:List AV,zL xs=true->ze n xs=true
 | [],_=>rfl
 | x::xs,h=>by simp at h;simp[ze,zOL n x h.1,zk n xs h.2]
end
@[simp] theorem zQ1{n:Nat}{xs:List AV}(h:zL xs=true):ze n xs=true:=zk n xs h
attribute [simp] below ze zCA zFQ scA
@[simp] theorem zHg{wd:List (Nat×Nat)}:∀{xs:List AV},zL xs=true->zCS wd xs xs
 | [],_=>trivial
 | x::xs,h=>by
   simp only[zEl,qrZ]at h;refine ⟨?_,zHg h.2⟩;have hx:=h.1;cases x
   case agg l=>exact zHg hx
   all_goals first
     | (unfold zAR;exact⟨rfl,hx⟩)
     | (simp[free]at hx)
theorem ZY{P:Program}{Γ:Gam}(hm:P.follows .mixedOrders=true)(hΓ:GOk P Γ){n:Nat}{f:FuncId}{fn:Func}(hf:P.funcs[f]? = some fn){args:List AV}{v:AV}(h:∃H1,zIq P Γ n fn args []=some (v,H1))(hv:free v=true):Ct P f args [] v []:=by
 obtain⟨H1,h⟩:=h;exact zSW hm hΓ hf h (zQ0 hv)
@[simp] theorem zSx(s:List UInt8):(zAZ s).length=s.length:=by simp[zAZ]
@[simp] theorem zQ2(s:List UInt8):Zv (zAZ s)=some s:=zIb s
@[simp] theorem zSU(s:List UInt8)(l:List AV):Zv (zAZ s++l)=(Zv l).map (s++·):=by
 induction s with
 | nil=>show Zv l=_;cases Zv l <;> simp
 | cons b s ih =>
   show Option.map (UInt8.ofNat (Int.toNat (b.toNat:Int))::·) (Zv (zAZ s++l))=_
   rw[ih];cases Zv l <;> simp
@[simp] theorem zUI(n:Nat):((n:Int)<0)↔False:=⟨fun h=>by omega,fun h=>h.elim⟩
@[simp] theorem zVr{n:Int}(h0 : -9223372036854775808<=n)(h:n<=9223372036854775807):IntKind.i64.wrap n=n:=zK h0 h
@[simp] theorem zVn{n:Int}(h0:0<=n)(h:n<=18446744073709551615):IntKind.u64.wrap n=n:=zUo h0 h
@[simp] theorem zVu{n:Int}(h0:0<=n)(h:n<=4294967295):IntKind.u32.wrap n=n:=zVA h0 h
@[simp] theorem zVv{n:Int}(h0:0<=n)(h:n<=255):IntKind.u8.wrap n=n:=zEH h0 h
attribute [simp] QR.fl zFl Op.operands Call.operands Region.binds
attribute [simp] zEK zh zAR zCS winH zCF zp IntKind.signed IntKind.max
end
section
def zCn(H H':zA):List Nat:=(List.range H.length).filter fun b=>!(ZP (H.getD b .dead) (H'.getD b .dead))
def zI(P:Program)(f:FuncId):Option Func:=P.funcs[f]?
def zCz(F:List AV)(ps:List Tmp)(args:List AV):List AV:=(ps.zip args).foldl (fun t pv=>t.set pv.1 pv.2) F
def zVG(ps:Array Tmp)(asg body:Code)(F:List AV):AX->ABlk
 | .normal=>.loop ps asg body .ready none F
 | .ret=>.loop ps asg body .done (some .ret) F
 | .exit id=>.loop ps asg body .done (some (.exit id)) F
def zVB:AX->Bool
 | .normal=>true
 | _=>false
def zKl(P:Program)(Γ:Gam)(n:Nat):List AV->zA->Option (AV×zA×List Nat)
 | .yld b::args,H =>
   match H[b]? with
   | some (.loop ps asg body .ready _ F) =>
     if args.length=ps.size then
       match zJ P Γ n false asg (zCz F ps.toList args) H with
       | some (.normal,F1,H1) =>
         match H1[b]? with
         | some (.loop ps1 asg1 body1 .ready pe1 F') =>
           match zJ P Γ n false body F1 (H1.set b (.loop ps1 asg1 body1 .busy pe1 F')) with
           | some (x,_,H2) =>
             match H2[b]? with
             | some (.loop ps2 asg2 body2 _ _ F'')=>some (.bool (zVB x),H2.set b (zVG ps2 asg2 body2 F'' x),[])
             | _=>none
           | none=>none
         | _=>none
       | _=>none
     else none
   | _=>none
 | _,_=>none
theorem zEg{j:Inj}:∀(ps:List Tmp) (args:List AV) (cargs:List Value) (F:List AV) (tmps:Array Value),VRs j F tmps.toList->VRs j args cargs ->
   VRs j (zCz F ps args) ((ps.zip cargs).foldl (fun t pv=>t.setIfInBounds pv.1 pv.2) tmps).toList
 | [],_,_,F,tmps,hF,_=>by simpa[zCz] using hF
 | p::ps,[],cargs,F,tmps,hF,ha=>by
   simp only[VRs]at ha;subst ha;simpa[zCz] using hF
 | p::ps,x::args,cargs,F,tmps,hF,ha=>by
   simp only[VRs]at ha;obtain⟨v,ws,rfl,h1,h2⟩:=ha;have:=zEg ps args ws (F.set p x) (tmps.setIfInBounds p v) (by rw[Array.toList_setIfInBounds];exact hF.set p h1) h2;simpa[zCz] using this
theorem zQy{P:Program}(hm:P.follows .mixedOrders=true){Γ:Gam}(hΓ:GOk P Γ)(n:Nat):zNC P (zKl P Γ n):=by
 intro b args H v H' W h j w cargs p m hR hargs hp;simp only[zKl]at h;split at h;rotate_left
 · cases h
 rename_i ps asg body pe F hb;split at h;rotate_left
 · cases h
 rename_i hlen;split at h;rotate_left
 · cases h
 rename_i F1 H1 ha;split at h;rotate_left
 · cases h
 rename_i ps1 asg1 body1 pe1 F' hb1;split at h;rotate_left
 · cases h
 rename_i x F2 H2 hbody;split at h;rotate_left
 · cases h
 rename_i ps2 asg2 body2 st2 pe2 F'' hb2;cases h;obtain⟨fn,tmps,D,hl,hF⟩:=hR.blk _ _ p hb hp;have hblt:b<H.length:=(q1Z.1 hb).1;have hsz:cargs.size=ps.size:=by
   have:=hargs.length;simp at this;omega
 refine ⟨fn,_,asg,body,run_yield hl hsz,roundIn_of_wpIn trivial ?_⟩;have hF1:=zEg (j:=j) ps.toList args cargs.toList F tmps hF hargs;have etm:((ps.zip cargs).foldl (fun t (x:Tmp×Value)=>t.setIfInBounds x.1 x.2) tmps)=((ps.toList.zip cargs.toList).foldl (fun t pv=>t.setIfInBounds pv.1 pv.2) tmps):=by
   rw[<-Array.foldl_toList,Array.toList_zip]
 refine wpIn_mono (zAI hm hΓ (some p.blk) n false (by simp) asg _ F1 H H1 .normal ha 0 j w _ m (qqZ _) hR (by rw[etm];exact hF1) (DefOk.nil _ _)) ?_;rintro e a1 w1 ⟨x1,F1',H1',j1,rfl,⟨rfl,rfl,rfl⟩,g3,g4,s1⟩;have hp1:j1 b=some p:=by rw[s1.ext b hblt];exact hp
 obtain⟨fn1,tmps1,D1,hl1,hF1'⟩:=s1.rel.blk _ _ p hb1 hp1;have s2:=zAw (o:=.loop { ({ state:=.ready,pending:=pe1,fn:=fn1,tmps:=tmps1,params:=ps1,assign:=asg1,body:=body1,defers:=D1 }:Loop) with state:=.busy }) (y:=.loop ps1 asg1 body1 .busy pe1 F') s1.rel hb1 rfl hp1 (.inr rfl) ⟨fn1,tmps1,D1,World.putObj_heap_same (qtZ.1 hl1).1,hF1'⟩;refine ⟨_,run_beginRound hl1 rfl,?_⟩;have s12:=s1.trans s2 s1.len;refine wpIn_mono (zAI hm hΓ (some p.blk) n false (by simp) body _ F2 _ H2 x hbody 0 j1 _ a1 m (qqZ _) s2.rel g3 (g4.step s1.rel s2)) ?_;rintro e a2 w2 ⟨x2,F2',H2',j2,rfl,⟨rfl,rfl,rfl⟩,k3,k4,s3⟩;have hblt1:b<H1'.length:=(q1Z.1 hb1).1;have hp2:j2 b=some p:=by rw[s3.ext b (by simpa using hblt1)];exact hp1
 obtain⟨fn2,tmps2,D2,hl2,hF2⟩:=s3.rel.blk _ _ p hb2 hp2;have s123:=s12.trans s3 (by simpa using s1.len);have fin:∀st pe,Step H.length j H w j2 (H2'.set b (.loop ps2 asg2 body2 st pe F'')) (w2.putObj p.blk (.loop { ({ state:=st2,pending:=pe2,fn:=fn2,tmps:=tmps2,params:=ps2,assign:=asg2,body:=body2,defers:=D2 }:Loop) with state:=st,pending:=pe })):=fun st pe =>
   s123.trans (zAw (y:=.loop ps2 asg2 body2 st pe F'') s3.rel hb2 rfl hp2 (.inr rfl) ⟨fn2,tmps2,D2,World.putObj_heap_same (qtZ.1 hl2).1,hF2⟩) s123.len
 cases x2 with
 | normal=>exact⟨_,_,run_endRound none hl2,_,j2,rfl,rfl,fin .ready none⟩
 | ret=>exact⟨_,_,run_endRound (some .ret) hl2,_,j2,rfl,rfl,fin .done (some .ret)⟩
 | exit id=>exact⟨_,_,run_endRound (some (.exit id)) hl2,_,j2,rfl,rfl,fin .done (some (.exit id))⟩
def zAF(P:Program)(Γ:Gam)(n:Nat)(inl:List FuncId):Nat->FuncId->List AV->zA->Option (AV×zA×List Nat)
 | 0,f,args,H=>Γ f args H
 | k+1,f,args,H =>
   if f=yl then (match zKl P (zAF P Γ n inl k) n args H with | some r=>some r | none=>Γ f args H)
   else if inl.contains f then
     match zI P f with
     | none=>none
     | some fn =>
       if fn.name == "runtime.NumGoroutine" then none else
       match zIq P (zAF P Γ n inl k) n fn args H with
       | some (v,H')=>if H.length<=H'.length then some (v,H',zCn H H') else none
       | none=>none
   else Γ f args H
theorem zP2{v:AV}{H:zA}{P:Program}{f:FuncId}{args:List AV}{fn:Func}{Γ:Gam}{n:Nat}(hm:P.follows .mixedOrders=true)(hΓ:GOk P Γ)(hf:P.funcs[f]? = some fn){H1:zA}(h:zIq P Γ n fn args H=some (v,H1)):Ct P f args H v H1:=by
 unfold zIq at h;split at h
 · cases h
 rename_i c hc;intro j w cargs hR hargs;refine (callsIn_wide (n:=0)).1 ?_;refine callsIn_of_wp_marks hf hc trivial ?_ rfl;have hl:=hargs.length;have hF:VRs j (args++qbZ (fn.ntmps-args.length) zV) (cargs++Array.replicate (fn.ntmps-cargs.size) undef).toList:=by
   rw[rxZ,Array.toList_replicate,hl,rjZ];exact hargs.append (VRs.replicate (v:=undef) (show VR j zV undef from ⟨#[],rfl,rfl⟩) _)
 have key:∀(x:AX) (hx:x=.ret\/x=.normal) F' H',zJ P Γ n true c (args++qbZ (fn.ntmps-args.length) zV) H=some (x,F',H')->zCt P fn.results.toList F' H'=some v->H'=H1 ->
     c.wpIn (FW none) 0 P (bodyPostM (FW none) 0 P fn fun e w'=>∃cv j',e=.returned cv/\VR j' v cv/\Step H.length j H w j' H1 w') { tmps:=cargs++Array.replicate (fn.ntmps-cargs.size) undef,defers:=[] } w:=by
   intro x hx F' H' hr hv e;subst e;refine wpIn_mono (zAI hm hΓ none n true (fun _=>rfl) c _ F' H H' x hr w.heap.size j w { tmps:=cargs++Array.replicate (fn.ntmps-cargs.size) undef,defers:=[] } 0 (qnZ _) hR hF (DefOk.nil _ _)) ?_;rintro e a' w' ⟨x',F2,H2,j',rfl,⟨rfl,rfl,rfl⟩,h3,h4,h5⟩;exact zFS hR.glo.1.2 hx.symm hv h3 h4 h5 fun cv w2 g2 hs=>⟨cv,j',rfl,g2,hs⟩
 split at h
 · rename_i F' H2 hr
   obtain⟨v2,hv,e⟩:=qlZ.1 h;cases e;exact key _ (.inl rfl) _ _ hr hv rfl
 · rename_i F' H2 hr
   obtain⟨v2,hv,e⟩:=qlZ.1 h;cases e;exact key _ (.inr rfl) _ _ hr hv rfl
 · cases h
theorem zq{P:Program}(hm:P.follows .mixedOrders=true){Γ:Gam}(hΓ:GOk P Γ)(n:Nat)(inl:List FuncId):∀k,GOk P (zAF P Γ n inl k)
 | 0=>by
   have:zAF P Γ n inl 0=Γ:=by funext f args H;simp[zAF]
   rw[this];exact hΓ
 | k+1=>by
   have ih:=zq hm hΓ n inl k;refine ⟨?_,?_⟩;rotate_left
   · intro b args H v H' W h
     unfold zAF at h;rw[if_pos rfl]at h;split at h
     · rename_i r hr
       cases h;exact zQy hm ih n b args H v H' W hr
     · exact hΓ.2 b args H v H' W h
   intro f hfy ⟨args0,H0,r0,h0⟩;by_cases hi:inl.contains f=true
   · have one : ∀ args H v H' W, zAF P Γ n inl (k + 1) f args H = some (v, H', W) → ∃ fn, P.funcs[f]? = some fn ∧ (fn.name == "runtime.NumGoroutine") = false ∧ zIq P (zAF P Γ n inl k) n fn args H = some (v, H') ∧ H.length ≤ H'.length ∧ W = zCn H H' := by
       intro args H v H' W h;unfold zAF at h;rw[if_neg hfy,if_pos hi]at h;split at h
       · cases h
       rename_i fn hfn;split at h
       · cases h
       rename_i hn;split at h
       · rename_i v1 H1 hr
         split at h <;> cases h
         exact⟨fn,hfn,by simpa using hn,hr,‹_›,rfl⟩
       · cases h
     obtain⟨v0,H0',W0⟩:=r0;obtain⟨fn,hfn,hn,hr,_,_⟩:=one _ _ _ _ _ h0;have hbody:fn.body.isSome=true:=by
       unfold zIq at hr;split at hr
       · cases hr
       · rename_i c hc;rw[hc];rfl
     refine ⟨zD hfn hbody hn,fun args H v H' W h=>?_,fun args H v H' W h=>?_⟩
     · obtain⟨fn',hfn',_,hr',_,_⟩:=one _ _ _ _ _ h
       rw[hfn]at hfn';cases hfn';exact zP2 hm ih hfn hr'
     · obtain⟨fn',hfn',_,hr',hl,rfl⟩:=one _ _ _ _ _ h
       refine ⟨hl,fun b hb hnb=>?_⟩;have:ZP (H.getD b .dead) (H'.getD b .dead)=true:=by
         cases hx:ZP (H.getD b .dead) (H'.getD b .dead) with
         | true=>rfl
         | false=>exact absurd (sbZ.2 ⟨List.mem_range.2 hb,by rw[hx];rfl⟩) hnb
       have e:=zFo this;rw[q2Z,q2Z,q3Z hb,q3Z (show b<H'.length by omega)]at e;rw[q3Z hb,q3Z (show b<H'.length by omega)];simpa using e.symm
   · have e:zAF P Γ n inl (k+1) f=Γ f:=by
       funext args H
       simp only[zAF];rw[if_neg hfy,if_neg hi]
     rw[e]at h0 ⊢;exact hΓ.1 f hfy ⟨args0,H0,r0,h0⟩
def chg:Nat->zA->zA->List Nat
 | _,[],_=>[]
 | n,x::xs,[]=>if ZP x .dead then chg (n+1) xs [] else n::chg (n+1) xs []
 | n,x::xs,y::ys=>if ZP x y then chg (n+1) xs ys else n::chg (n+1) xs ys
theorem zOZ:∀(H H':zA) (n:Nat),((List.range H.length).filter fun b=>!(ZP (H.getD b .dead) (H'.getD b .dead))).map (n+·)=chg n H H'
 | [],H',n=>by simp[chg]
 | x::xs,[],n=>by
   have ih:=zOZ xs [] (n+1);simp only[List.getD_nil]at ih;rw[q7Z,List.range_succ_eq_map,List.filter_cons,List.filter_map];have e:((fun b=>!(ZP ((x::xs).getD b .dead) (([]:zA).getD b .dead))) ∘ Nat.succ)=fun b=>!(ZP (xs.getD b .dead) (([]:zA).getD b .dead)):=by funext b;simp
   rw[e];have e2:∀l:List Nat,(l.map Nat.succ).map (n+·)=l.map (n+1+·):=fun l=>by
     rw[List.map_map];apply List.map_congr_left;intro a _;simp;omega
   unfold chg;by_cases h:ZP x .dead=true
   · simp only[h,List.getD_cons_zero,List.getD_nil,Bool.not_true,qsZ,if_false,if_true,e2,ih]
   · simp only[h,List.getD_cons_zero,List.getD_nil,Bool.not_false,if_true,if_false,s1Z,e2,ih,Nat.add_zero,qsZ]
 | x::xs,y::ys,n=>by
   have ih:=zOZ xs ys (n+1);rw[q7Z,List.range_succ_eq_map,List.filter_cons,List.filter_map];have e:((fun b=>!(ZP ((x::xs).getD b .dead) ((y::ys).getD b .dead))) ∘ Nat.succ)=fun b=>!(ZP (xs.getD b .dead) (ys.getD b .dead)):=by funext b;simp
   rw[e];have e2:∀l:List Nat,(l.map Nat.succ).map (n+·)=l.map (n+1+·):=fun l=>by
     rw[List.map_map];apply List.map_congr_left;intro a _;simp;omega
   unfold chg;by_cases h:ZP x y=true
   · simp only[h,List.getD_cons_zero,Bool.not_true,qsZ,if_false,if_true,e2,ih]
   · simp only[h,List.getD_cons_zero,Bool.not_false,if_true,if_false,s1Z,e2,ih,Nat.add_zero,qsZ]
@[simp] theorem zUu(H H':zA):zCn H H'=chg 0 H H':=by
 have:=zOZ H H' 0;simp only[s8Z]at this;rw[<-this];simp[zCn]
attribute [simp] zAF chg ZP yl zKl zCz zVG zVB
end
open Classical in
theorem zRt{P:Program}{f:FuncId}{args:List AV}{H:zA}{v:AV}{H':zA}(he:∀cargs w,(callFunc f cargs).run P w=.ok (.enter f cargs) w)(hf:f≠yl)(h:Ct P f args H v H')(hl:H.length<=H'.length) :
   GOk P (fun g a h=>if g=f/\a=args/\h=H then some (v,H',List.range H.length) else none):=by
 refine ⟨fun g hg ⟨a,h0,r,hr⟩=>?_,fun b a h0 v0 h1 W0 hr=>?_⟩
 · dsimp only at hr
   split at hr;rotate_left
   · cases hr
   rename_i e;obtain⟨rfl,rfl,rfl⟩:=e;refine ⟨he,fun a2 h2 v2 h3 W hs=>?_,fun a2 h2 v2 h3 W hs=>?_⟩
   · dsimp only at hs
     split at hs;rotate_left
     · cases hs
     rename_i e;obtain⟨_,rfl,rfl⟩:=e;cases hs;exact h
   · dsimp only at hs
     split at hs;rotate_left
     · cases hs
     rename_i e;obtain⟨_,rfl,rfl⟩:=e;cases hs;exact⟨hl,fun b hb hn=>absurd (List.mem_range.2 hb) hn⟩
 · dsimp only at hr
   split at hr
   · rename_i e
     exact absurd e.1.symm hf
   · cases hr
def zNr(pe:Option Code):Option AX :=
 match pe with
 | none=>some .normal
 | some .ret=>some .ret
 | some (.exit id)=>some (.exit id)
 | _=>none
theorem Sim.rangeFunc{P:Program}(hm:P.follows .mixedOrders=true){n0:Nat}{g:Operand}{ps:Array Tmp}{asg body:Code}{F:List AV}{H H1:zA}{Q:AX->List AV->zA->Prop}{gf:FuncId}{cap:List AV}{v:AV}{x:AX}
   {ps':Array Tmp} {asg' body':Code} {st:LoopState} {pe:Option Code} {F':List AV}
   (hg:ev F g=.func gf [] cap) (he:∀cargs w,(callFunc gf cargs).run P w=.ok (.enter gf cargs) w) (hne:gf≠yl)
   (h:Ct P gf (.yld H.length::cap) (H++[.loop ps asg body .ready none F]) v H1) (hl:H.length<H1.length) (hk:H1[H.length]? = some (.loop ps' asg' body' st pe F')) (hst:st≠.busy) (hx:zNr pe=some x) (hn:n0<=H.length)
   (hq:Q x F (H1.set H.length .dead)):Sim P none n0 (.rangeFunc g ps asg body) F H Q:=by
 refine Sim.exec hm (zRt he hne h (by simp;omega)) (n:=0) (x:=x) (F':=F) (H':=H1.set H.length .dead) ?_ hn hq;unfold zJ;rw[hg];simp only[Option.isNone,if_true,hne,if_false,and_self,hk];unfold zNr at hx;cases st with
 | busy=>exact absurd rfl hst
 | ready=>split at hx <;> cases hx <;> rfl
 | done=>split at hx <;> cases hx <;> rfl
 | exhausted=>split at hx <;> cases hx <;> rfl
theorem Sim.rangeFuncN{P:Program}(hm:P.follows .mixedOrders=true)(mk:ABlk->zA)(st:LoopState)(pe:Option Code)(v:AV){n0:Nat}{g:Operand}{ps:Array Tmp}{asg body:Code}{F:List AV}{H:zA}{Q:AX->List AV->zA->Prop}{gf:FuncId}{cap:List AV}{x:AX}
   (hg:ev F g=.func gf [] cap) (he:∀cargs w,(callFunc gf cargs).run P w=.ok (.enter gf cargs) w) (hne:gf≠yl)
   (hl:H.length<(mk (.loop ps asg body st pe F)).length) (hk:(mk (.loop ps asg body st pe F))[H.length]? = some (.loop ps asg body st pe F)) (hst:st≠.busy) (hx:zNr pe=some x) (hn:n0<=H.length)
   (h:Ct P gf (.yld H.length::cap) (H++[.loop ps asg body .ready none F]) v (mk (.loop ps asg body st pe F)))
   (hq:Q x F ((mk (.loop ps asg body st pe F)).set H.length .dead)):Sim P none n0 (.rangeFunc g ps asg body) F H Q :=
 Sim.rangeFunc hm hg he hne h hl hk hst hx hn hq
section
mutual
def shA(k:Nat):AV->AV
 | .ptr b o=>.ptr (k+b) o
 | .slice b o l sz c=>.slice (k+b) o l sz c
 | .sl b o l sz c=>.sl (k+b) o l sz c
 | .map b=>.map (k+b)
 | .func f xs ys=>.func f (zAK k xs) (zAK k ys)
 | .yld b=>.yld (k+b)
 | .agg l=>.agg (zAK k l)
 | .tuple l=>.tuple (zAK k l)
 | x=>x
def zAK(k:Nat):List AV->List AV
 | []=>[]
 | x::xs=>shA k x::zAK k xs
end
def shB(k:Nat):ABlk->ABlk
 | .dead=>.dead
 | .cells o l=>.cells o (zAK k l)
 | .loop ps a b st pe F=>.loop ps a b st pe (zAK k F)
 | .map es=>.map (es.map fun e=>(shA k e.1,shA k e.2))
 | .obj o s=>.obj o s
 | .pin l=>.pin (zAK k l)
def zD4(k:Nat)(j j':Inj):Inj:=⟨fun b=>if b<k then j b else j' (b-k),fun b=>if b<k then j.foot b else j'.foot (b-k),fun b=>if b<k then j.shr b else j'.shr (b-k)⟩
theorem zAo(k:Nat)(j j':Inj)(b:Nat):zD4 k j j' b=if b<k then j b else j' (b-k):=rfl
@[simp] theorem zVt(k b:Nat)(j j':Inj):zD4 k j j' (k+b)=j' b:=by
 rw[zAo,if_neg (by omega),s3Z]
mutual
theorem zEi{k:Nat}{j j':Inj}:∀(x:AV) (v:Value),VR j' x v->VR (zD4 k j j') (shA k x) v
 | .top,_,_=>by simp[shA,VR]
 | .bool b,v,h=>by simpa[shA,VR] using h
 | .int _ n,v,h=>by simpa[shA,VR] using h
 | .str s,v,h=>by simpa[shA,VR] using h
 | .ptr b o,v,h=>by simpa[shA,VR] using h
 | .nilp,v,h=>by simpa[shA,VR] using h
 | .slice b o l sz c,v,h=>by simpa[shA,VR] using h
 | .sl b o l sz c,v,h=>by simpa[shA,VR] using h
 | .nils,v,h=>by simpa[shA,VR] using h
 | .map b,v,h=>by simpa[shA,VR] using h
 | .nilm,v,h=>by simpa[shA,VR] using h
 | .func f xs ys,v,h=>by
   simp only[shA,VR]at h ⊢;obtain⟨cx,cy,e,h1,h2⟩:=h;exact⟨cx,cy,e,zDu xs _ h1,zDu ys _ h2⟩
 | .yld b,v,h=>by simpa[shA,VR] using h
 | .nilf,v,h=>by simpa[shA,VR] using h
 | .agg l,v,h=>by
   simp only[shA,VR]at h ⊢;obtain⟨cs,e,h1⟩:=h;exact⟨cs,e,zDu l _ h1⟩
 | .tuple l,v,h=>by
   simp only[shA,VR]at h ⊢;obtain⟨cs,e,h1⟩:=h;exact⟨cs,e,zDu l _ h1⟩
theorem zDu{k:Nat}{j j':Inj}:∀(xs:List AV) (vs:List Value),VRs j' xs vs->VRs (zD4 k j j') (zAK k xs) vs
 | [],vs,h=>by simpa[zAK,VRs] using h
 | x::xs,vs,h=>by
   simp only[zAK,VRs]at h ⊢;obtain⟨v,ws,e,h1,h2⟩:=h;exact⟨v,ws,e,zEi x v h1,zDu xs ws h2⟩
end
theorem zDR(k:Nat):∀xs:List AV,(zAK k xs).length=xs.length
 | []=>rfl
 | x::xs=>by simp[zAK,zDR k xs]
theorem zDe(k:Nat):∀(xs:List AV) (i:Nat),(zAK k xs)[i]? = (xs[i]?).map (shA k)
 | [],i=>by simp[zAK]
 | x::xs,0=>by simp[zAK]
 | x::xs,i+1=>by simp[zAK,zDe k xs i]
theorem zE2(k:Nat)(y:ABlk):(shB k y).own=y.own:=by cases y <;> rfl
theorem zSJ{k:Nat}{j j':Inj}{w:World}{y:ABlk}{p:JB}(h:BRel j' w y p):BRel (zD4 k j j') w (shB k y) p:=by
 cases y with
 | dead=>trivial
 | cells o l =>
   obtain⟨cs,T,fz,g1,g2,g3,g4,g5⟩:=h;refine ⟨cs,T,fz,g1,g2,by rw[zDR];exact g3,fun i x hx=>?_,g5⟩;rw[zDe]at hx;obtain⟨x',hx',rfl⟩:=qlZ.1 hx;obtain⟨v,hv,hr⟩:=g4 i x' hx';exact⟨v,hv,zEi x' v hr⟩
 | loop ps a b st pe F =>
   obtain⟨fn,tmps,D,g1,g2⟩:=h;exact⟨fn,tmps,D,g1,zDu F _ g2⟩
 | map es =>
   obtain⟨ents,cl,g1,gs,g2,g3⟩:=h;refine ⟨ents,cl,g1,gs,by simpa using g2,fun i z e hz he=>?_⟩;rw[qzZ]at hz;obtain⟨x,hx,rfl⟩:=qlZ.1 hz;have:=g3 i x e hx he;exact⟨zEi _ _ this.1,zEi _ _ this.2⟩
 | obj _ _=>trivial
 | pin l =>
   obtain⟨h0,cs,T,fz,g1,g4⟩:=h;refine ⟨h0,cs,T,fz,g1,fun i x hx=>?_⟩;rw[zDe]at hx;obtain⟨x',hx',rfl⟩:=qlZ.1 hx;obtain⟨v,hv,hr⟩:=g4 i x' hx';exact⟨v,hv,zEi x' v hr⟩
theorem zTO(k:Nat){y:ABlk}(h:(shB k y).isObj=true):shB k y=y:=by cases y <;> simp_all [shB,ABlk.isObj]
theorem zOK(k:Nat){y:ABlk}(h:shB k y≠.dead):y≠.dead:=by rintro rfl;exact h rfl
def zBM(H:zA):Bool:=H.all fun x=>match x with | .cells o _=>o | .obj o _=>o | .pin _=>false | _=>true
theorem zU3{P:Program}{f:FuncId}{args:List AV}{H H':zA}{v:AV}(h:Ct P f args [] v H')(ha:zL args=true)(ho:zBM H'=true):Ct P f args H (shA H.length v) (H++H'.map (shB H.length)):=by
 intro j w cargs hR hargs;refine (h zU5 w cargs (R.nothing hR.glo.1) (VRs.free _ _ ha hargs)).mono ?_;rintro e w' ⟨cv,j',rfl,h1,h2⟩;have hk:=zFs h2.keeps (by rfl);have hown:∀(b:Nat) (y:ABlk),H'[b]? = some y->y≠.dead->y.own=true:=by
   intro b y hb hy;have:=s5Z.1 ho _ (qcZ hb);cases y <;> simp_all [ABlk.own]
 have hle:JLe j (zD4 H.length j j'):=by
   intro b p hp;have hb:b<H.length:=by
     rcases s2Z b H.length with h3 | h3
     · exact h3
     · rw[hR.dom b h3]at hp;cases hp
   rw[zAo,if_pos hb];exact hp
 have hcase:∀c y q,(H++H'.map (shB H.length))[c]? = some y->zD4 H.length j j' c=some q->(c<H.length/\H[c]? = some y/\j c=some q)\/(∃b y',c=H.length+b/\H'[b]? = some y'/\y=shB H.length y'/\j' b=some q):=by
   intro c y q hc hq;rw[s7Z]at hc;split at hc <;> rename_i hlt
   · rw[zAo,if_pos hlt]at hq
     exact .inl ⟨hlt,hc,hq⟩
   · rw[qzZ]at hc
     obtain⟨y',hy',rfl⟩:=qlZ.1 hc;rw[zAo,if_neg hlt]at hq;exact .inr ⟨c-H.length,y',by omega,hy',rfl,hq⟩
 refine ⟨cv,zD4 H.length j j',rfl,zEi v cv h1,Step.mergeF hR h2 (fun _=>False) (fun u ⟨b,y,p,h,_⟩=>by simp at h) (fun u ⟨b,y,p,h,_⟩=>by simp at h) (fun b hb=>?_) (fun b x p hb hp=>?_)
   (fun b=>if b<H.length then (false,b) else (true,b-H.length)) (fun b x p hb hx hp=>?_) (fun b b' x x' p p' hb _ hp hb' _ hp' hne e=>?_) (fun b hb=>?_) (by simp)⟩
 · simp at hb
   rw[zAo,if_neg (by omega)];exact h2.rel.dom _ (by omega)
 · rcases hcase b x p hb hp with⟨_,g1,g2⟩ | ⟨b',y',rfl,g1,rfl,g2⟩
   · exact (hR.blk b x p g1 g2).mono hle fun hx=>hk _ (hR.ltx g1 hx g2)
   · exact zSJ (h2.rel.blk b' y' p g1 g2)
 · rcases hcase b x p hb hp with⟨g0,g1,g2⟩ | ⟨b',y',rfl,g1,rfl,g2⟩
   · simp only[g0,if_true,qsZ,if_false]
     exact⟨⟨x,g1,hx,g2,id,fun _=>⟨rfl,by simp[zD4,g0],by simp[zD4,g0]⟩⟩,fun _ _ _ h=>h⟩
   · simp only[show ¬H.length+b'<H.length by omega,if_false,if_true,s3Z]
     refine ⟨⟨y',g1,zOK _ hx,g2,fun h=>by rwa [zE2]at h,fun ho=>⟨(zTO _ ho).symm,by show (if _ then _ else _)=_;rw[if_neg (by omega),s3Z],by show (if _ then _ else _)=_;rw[if_neg (by omega),s3Z]⟩⟩,.inl (zFZ ?_)⟩;rw[zE2];exact hown b' y' g1 (zOK _ hx)
 · rcases hcase b x p hb hp with⟨g0,_,_⟩ | ⟨c,_,rfl,_,_,_⟩ <;> rcases hcase b' x' p' hb' hp' with⟨k0,_,_⟩ | ⟨c',_,rfl,_,_,_⟩
   · simp only[g0,k0,if_true]at e
     exact hne (Prod.mk.inj e).2
   · simp only[g0,show ¬H.length+c'<H.length by omega,if_true,if_false]at e
     cases (Prod.mk.inj e).1
   · simp only[k0,show ¬H.length+c<H.length by omega,if_true,if_false]at e
     cases (Prod.mk.inj e).1
   · simp only[show ¬H.length+c<H.length by omega,show ¬H.length+c'<H.length by omega,if_false,s3Z]at e
     exact hne (by rw[(Prod.mk.inj e).2])
 · rw[zAo,if_pos hb]
def zON(g:List AV->Option (AV×zA)):zS:=fun args H=>match g args with
 | some (v,H')=>some (shA H.length v,H++H'.map (shB H.length),[])
 | none=>none
theorem zJd{P:Program}{f:FuncId}{g:List AV->Option (AV×zA)}(he:∀cargs w,(callFunc f cargs).run P w=.ok (.enter f cargs) w)
   (h:∀args v H',g args=some (v,H')->Ct P f args [] v H'/\zL args=true/\zBM H'=true):Sound P f (zON g):=by
 refine ⟨he,fun args H v H' W hs=>?_,fun args H v H' W hs=>?_⟩ <;> (unfold zON at hs;split at hs <;> cases hs)
 · rename_i v0 H0 hg
   obtain⟨h1,h2,h3⟩:=h args _ _ hg;exact zU3 h1 h2 h3
 · exact⟨by simp,fun b hb _=>by rw[q4Z hb]⟩
attribute [simp] shA zAK shB zON
end
section
def Zg{α:Type}(n:Nat)(k:Nat->α):α:=Nat.rec (motive:=fun _=>α) (k 0) (fun m _=>k (m+1)) n
theorem ZR{α:Type}(n:Nat)(k:Nat->α):Zg n k=k n:=by cases n <;> rfl
def zDc(acc:List Nat):List Edge->Nat->Nat
 | [],m=>m
 | e::es,m=>zDc acc es (if Region.binds .any e then m ||| (1 <<< e.on) ||| acc.getD e.on 0 else m)
def zGw(k:List Nat->Bool):List Oper->List Nat->Bool
 | [],acc=>k acc
 | o::rest,acc=>Zg (zDc acc o.after.toList 0) fun m=>zGw k rest (acc++[m])
theorem zDF(acc:List Nat):∀(es:List Edge) (m:Nat),zDc acc es m=es.foldl (fun m e=>if Region.binds .any e then m ||| (1 <<< e.on) ||| acc.getD e.on 0 else m) m
 | [],m=>rfl
 | e::es,m=>by
   unfold zDc;rw[zDF acc es];rfl
theorem zEY(k:List Nat->Bool):∀(ops:List Oper) (acc:List Nat),zGw k ops acc=k (zA7 ops acc)
 | [],acc=>rfl
 | o::rest,acc=>by
   unfold zGw zA7;rw[ZR,zEY k rest,zDF]
def zDA(ops:List Oper)(slots:List (List Nat))(qs:List QF):Bool:=zGw (zDq ops slots qs) ops []
attribute [-simp] zG
@[simp] theorem zCi(ops:List Oper)(slots:List (List Nat))(qs:List QR):zC5 ops slots qs (Zl ops)=zDA ops slots (qs.map QR.fl):=by
 unfold zDA;rw[zEY,zG];rfl
theorem zT5(rs:List Nat)(F:List AV)(x:Operand)(h:∀t,x=.tmp t->t∈rs):ev (zAu rs F) x=ev F x:=by
 cases x with
 | tmp t =>
   show (zAu rs F).getD t zV=F.getD t zV;rw[q2Z,q2Z,zFl];have:=h t rfl;cases F[t]? with
   | none=>rfl
   | some x=>simp[this]
 | const v=>rfl
 | global g=>rfl
 | func f=>rfl
theorem zJ2{F F':List AV}{l:List Operand}(h:∀x∈l,ev F' x=ev F x):l.map (ev F')=l.map (ev F):=List.map_congr_left h
theorem zMg{F F':List AV}{l:List (Nat×Operand)}(h:∀x∈l.map (·.2),ev F' x=ev F x):(l.map fun (i,x)=>(i,ev F' x))=l.map fun (i,x)=>(i,ev F x) :=
 List.map_congr_left fun p hp=>by
   have:=h p.2 (reZ.2 ⟨p,hp,rfl⟩);obtain⟨i,x⟩:=p;simp only at this ⊢;rw[this]
theorem zNi{F F':List AV}{lo hi:Option Operand}(h1:∀x∈lo.toArray.toList,ev F' x=ev F x)(h2:∀x∈hi.toArray.toList,ev F' x=ev F x)(n c:Nat):zt F' lo hi n c=zt F lo hi n c:=by
 unfold zt;cases lo <;> cases hi <;> simp at h1 h2 <;> simp[h1,h2]
theorem zNn{P:Program}{F F':List AV}{lo hi mx:Option Operand}(h1:∀x∈lo.toArray.toList,ev F' x=ev F x)(h2:∀x∈hi.toArray.toList,ev F' x=ev F x)(h3:∀x∈mx.toArray.toList,ev F' x=ev F x)(t:TypeId)(v:AV):zA9 P F' t v lo hi mx=zA9 P F t v lo hi mx:=by
 have e:zt F' lo hi=zt F lo hi:=by funext n c;exact zNi h1 h2 n c
 have e2:∀y,hi=some y->zt F' lo (some y)=zt F lo (some y):=by rintro y rfl;exact e
 unfold zA9;rw[e];cases mx with
 | none =>
   cases P.underlying t with
   | none=>rfl
   | some d=>cases d <;> cases v <;> rfl
 | some m =>
   have:=h3 m (by simp);cases hi with
   | none =>
     cases P.underlying t with
     | none=>rfl
     | some d=>cases d <;> cases v <;> first | rfl | simp only[this]
   | some y =>
     have e3:=e2 y rfl;cases P.underlying t with
     | none=>rfl
     | some d=>cases d <;> cases v <;> first | rfl | simp only[this,e3]
theorem zP6{P:Program}{F F':List AV}{lo hi mx:Option Operand}(h1:∀x∈lo.toArray.toList,ev F' x=ev F x)(h2:∀x∈hi.toArray.toList,ev F' x=ev F x)(h3:∀x∈mx.toArray.toList,ev F' x=ev F x)(t:TypeId)(v:AV):zC8 P F' t v lo hi mx=zC8 P F t v lo hi mx:=by
 have e:=fun v=>zNn (P:=P) h1 h2 h3 t v;unfold zC8;simp only[e]
theorem zUy{P:Program}{Γ:Gam}{F F':List AV}{H:zA}{op:Op}(h:∀x∈op.operands.toList,ev F' x=ev F x):qop P Γ F' H op=qop P Γ F H op:=by
 cases op
 case slice t x lo hi mx =>
   simp only[Op.operands,rxZ,qxZ]at h;have hx:ev F' x=ev F x:=h x (by simp);have e:=fun t v=>zP6 (P:=P) (F:=F) (F':=F') (lo:=lo) (hi:=hi) (mx:=mx) (fun y hy=>h y (.inl (.inl (.inr hy)))) (fun y hy=>h y (.inl (.inr hy))) (fun y hy=>h y (.inr hy)) t v;simp only[qop,zAm,zAT,zB2,zC3,hx,e]
 case build t ps =>
   have e:=zMg (F:=F) (F':=F') (l:=ps.toList) (by simpa[Op.operands] using h);simp only[qop,zAm,zG6,zAT,zB2,e]
 case buildSlice t n ps =>
   have e:=zMg (F:=F) (F':=F') (l:=ps.toList) (by simpa[Op.operands] using h);simp only[qop,zKT,e]
 case makeFunc f a b =>
   simp only[Op.operands,rxZ,qxZ]at h;have e1:=zJ2 (F:=F) (F':=F') (l:=a.toList) fun x hx=>h x (.inl hx);have e2:=zJ2 (F:=F) (F':=F') (l:=b.toList) fun x hx=>h x (.inr hx);cases f <;> simp only[qop,zAm,zAT,zB2,e1,e2]
 case call c =>
   obtain⟨g,args,ts⟩:=c;cases g with
   | value g =>
     simp only[Op.operands,Call.operands,rxZ,qxZ]at h;have e1:ev F' g=ev F g:=h g (.inl (by simp));have e2:=zJ2 (F:=F) (F':=F') (l:=args.toList) fun x hx=>h x (.inr hx);simp only[qop,zLr,zDb,scC,e1,e2]
   | invoke r m=>simp only[qop,zAm,zAT,zB2]
   | builtin b =>
     simp only[Op.operands,Call.operands,rxZ,qxZ]at h;have e2:=zJ2 (F:=F) (F':=F') (l:=args.toList) fun x hx=>h x (.inr hx);have e3:∀x,x∈args.toList->ev F' x=ev F x:=fun x hx=>h x (.inr hx);cases b
     case len =>
       simp only[qop,zAm,zAT,zB2,zC3];cases hts:ts.toList <;> cases hal:args.toList <;> simp only[] <;> rw[e3 _ (by rw[hal];simp)]
     case cap =>
       simp only[qop,zAm,zAT,zB2];cases hts:ts.toList <;> cases hal:args.toList <;> simp only[] <;> rw[e3 _ (by rw[hal];simp)]
     all_goals simp only[qop,zAm,zAT,zB2,e2]
 all_goals
   simp only[Op.operands,qwZ,rtZ,or_false,forall_eq_or_imp,forall_eq]at h;simp only[qop,zAm,zAT,zB2,zLu,zKT,zC3,h]
def zAb(P:Program)(Γ:Gam)(ops:Array Oper)(F:List AV)(H:zA)(o:Oper):Option QR :=
 match zAM ops o F with
 | none=>none
 | some false=>some ⟨zV,H,none,none,false,false,false⟩
 | some true=>qop P Γ F H o.op
theorem zQf{ops:Array Oper}{o:Oper}{t:Nat}(h:.tmp t∈o.op.operands.toList):t∈zP ops o:=by
 unfold zP;exact List.mem_append_left _ (List.mem_filterMap.2 ⟨.tmp t,h,rfl⟩)
theorem zPa(ops:Array Oper)(o:Oper)(F:List AV):zAM ops o (zAu (zP ops o) F)=zAM ops o F:=by
 unfold zAM;split
 · rfl
 · rename_i j want hg
   split
   · rfl
   · rename_i t ht
     have:t∈zP ops o:=by
       unfold zP;refine List.mem_append_right _ ?_;rw[hg];dsimp only;rw[ht];simp
     generalize zP ops o=rs at this;have e:(zAu rs F)[t]? = F[t]?:=by
       rw[zFl];cases F[t]? with
       | none=>rfl
       | some x=>simp[this]
     rw[e]
theorem zFX(P:Program)(Γ:Gam)(ops:Array Oper)(F:List AV)(H:zA)(o:Oper):zDd P Γ ops F H o=zAb P Γ ops F H o:=by
 unfold zDd zAb;have e:qop P Γ (zAu (zP ops o) F) H o.op=qop P Γ F H o.op:=zUy fun x hx=>zT5 _ F x (by
   rintro t rfl;exact zQf hx)
 rw[zPa,e];cases zAM ops o F with
 | none=>rfl
 | some b=>cases b <;> rfl
def zCL(P:Program)(Γ:Gam)(ops:Array Oper):List Oper->List AV->zA->List QF->List (Nat×Nat×List AV)->Option (List AV×zA)
 | [],F,H,fs,ss=>if zDA ops.toList (ops.toList.map (zP ops)) fs then some (F,ss.foldl zAa H) else none
 | o::rest,F,H,fs,ss =>
   match zAb P Γ ops F H o with
   | none=>none
   | some q=>zCL P Γ ops rest (ZW F o.dst q.v) q.H (fs++[q.fl]) (ss++q.st.toList)
theorem zLU(P:Program)(Γ:Gam)(ops:Array Oper):∀(l:List Oper) (F:List AV) (H:zA) (fs:List QF) (ss:List (Nat×Nat×List AV)),zCL P Γ ops l F H fs ss =
   match zc P Γ ops l F H with
   | none=>none
   | some (qs,F',H')=>if zDA ops.toList (ops.toList.map (zP ops)) (fs++qs.map QR.fl) then some (F',(ss++qs.filterMap (·.st)).foldl zAa H') else none
 | [],F,H,fs,ss=>by simp[zCL,zc]
 | o::rest,F,H,fs,ss=>by
   unfold zCL zc;rw[zFX];cases hq:zAb P Γ ops F H o with
   | none=>rfl
   | some q =>
     dsimp only;rw[zLU P Γ ops rest];cases hr:zc P Γ ops rest (ZW F o.dst q.v) q.H with
     | none=>rfl
     | some r =>
       obtain⟨qs,F',H'⟩:=r;dsimp only;have e:ss++q.st.toList++qs.filterMap (·.st)=ss++(q::qs).filterMap (·.st):=by
         rw[List.filterMap_cons];cases q.st <;> simp
       rw[e,qeZ,s1Z];rfl
attribute [-simp] zT zc
@[simp] theorem zD0(P:Program)(Γ:Gam)(ops:Array Oper)(F:List AV)(H:zA):zT P Γ ops F H=zCL P Γ ops ops.toList F H [] []:=by
 rw[zLU];unfold zT;cases hr:zc P Γ ops ops.toList F H with
 | none=>rfl
 | some r =>
   obtain⟨qs,F',H'⟩:=r;dsimp only;rw[zCi];simp
noncomputable def zIr:Program->Gam->Array Oper->List Oper->List AV->zA->Option (List AV×zA):=Classical.choose (⟨zn,rfl⟩:∃f,f=zn)
theorem zHQ:zIr=zn:=Classical.choose_spec (⟨zn,rfl⟩:∃f,f=zn)
noncomputable def zJh:Program->Gam->Array Oper->List Oper->List AV->zA->List QF->List (Nat×Nat×List AV)->Option (List AV×zA):=Classical.choose (⟨zCL,rfl⟩:∃f,f=zCL)
theorem zFF:zJh=zCL:=Classical.choose_spec (⟨zCL,rfl⟩:∃f,f=zCL)
noncomputable def Zt:Program->Gam->Nat->Bool->Code->List AV->zA->zOW:=Classical.choose (⟨zJ,rfl⟩:∃f,f=zJ)
theorem Za:Zt=zJ:=Classical.choose_spec (⟨zJ,rfl⟩:∃f,f=zJ)
attribute [-simp] zJ zn
@[simp] theorem zVm(P:Program)(Γ:Gam)(n:Nat)(q:Bool)(c:Code)(F:List AV)(H:zA):zJ P Γ n q c F H=Zt P Γ n q c F H:=by rw[Za]
@[simp] theorem zVL(P:Program)(Γ:Gam)(ops:Array Oper)(F:List AV)(H:zA):zIr P Γ ops [] F H=some (F,H):=by rw[zHQ];rfl
@[simp] theorem zU6(P:Program)(Γ:Gam)(ops:Array Oper)(o:Oper)(rest:List Oper)(F:List AV)(H:zA):zIr P Γ ops (o::rest) F H =
   match zAM ops o F with
   | none=>none
   | some false=>zIr P Γ ops rest (ZW F o.dst zV) H
   | some true =>
     match opA P Γ F H o.op with
     | none=>none
     | some (v,H')=>zIr P Γ ops rest (ZW F o.dst v) H':=by
 rw[zHQ];rfl
@[simp] theorem zVP(P:Program)(Γ:Gam)(ops:Array Oper)(F:List AV)(H:zA)(fs:List QF)(ss:List (Nat×Nat×List AV)):zJh P Γ ops [] F H fs ss=if zDA ops.toList (ops.toList.map (zP ops)) fs then some (F,ss.foldl zAa H) else none:=by
 rw[zFF];rfl
@[simp] theorem zVE(P:Program)(Γ:Gam)(ops:Array Oper)(o:Oper)(rest:List Oper)(F:List AV)(H:zA)(fs:List QF)(ss:List (Nat×Nat×List AV)):zJh P Γ ops (o::rest) F H fs ss =
   match zAb P Γ ops F H o with
   | none=>none
   | some q=>zJh P Γ ops rest (ZW F o.dst q.v) q.H (fs++[q.fl]) (ss++q.st.toList):=by
 rw[zFF];rfl
attribute [simp] zAb
@[simp] theorem zUR(P:Program)(Γ:Gam)(n:Nat)(q:Bool)(F:List AV)(H:zA):Zt P Γ n q .skip F H=some (.normal,F,H):=by rw[Za];rfl
@[simp] theorem zTr(P:Program)(Γ:Gam)(n:Nat)(q:Bool)(l)(F:List AV)(H:zA):Zt P Γ n q (.label l) F H=some (.normal,F,H):=by rw[Za];rfl
@[simp] theorem zUz(P:Program)(Γ:Gam)(n:Nat)(q:Bool)(k)(ops:Array Oper)(F:List AV)(H:zA):Zt P Γ n q (.region k ops false) F H=(zIr P Γ ops ops.toList F H).map fun r=>(.normal,r):=by
 rw[Za,zHQ];rfl
@[simp] theorem zUS(P:Program)(Γ:Gam)(n:Nat)(q:Bool)(k)(ops:Array Oper)(F:List AV)(H:zA):Zt P Γ n q (.region k ops true) F H=(zJh P Γ ops ops.toList F H [] []).map fun r=>(.normal,r):=by
 rw[Za,zFF,<-zD0];rfl
@[simp] theorem zU2(P:Program)(Γ:Gam)(n:Nat)(q:Bool)(x y:Code)(F:List AV)(H:zA):Zt P Γ n q (.seq x y) F H =
   match Zt P Γ n q x F H with
   | some (.normal,F',H')=>Zt P Γ n q y F' H'
   | r=>r:=by
 rw[Za];rfl
@[simp] theorem zUL(P:Program)(Γ:Gam)(n:Nat)(q:Bool)(c:Operand)(x y:Code)(F:List AV)(H:zA):Zt P Γ n q (.cond c x y) F H =
   match ev F c with
   | .bool t=>if t then Zt P Γ n q x F H else Zt P Γ n q y F H
   | _=>none:=by
 rw[Za];rfl
@[simp] theorem zTn(P:Program)(Γ:Gam)(n:Nat)(q:Bool)(id:Nat)(x:Code)(F:List AV)(H:zA):Zt P Γ n q (.block id x) F H =
   match Zt P Γ n q x F H with
   | some (.exit id',F',H')=>if id'=id then some (.normal,F',H') else some (.exit id',F',H')
   | r=>r:=by
 rw[Za];rfl
@[simp] theorem zUO(P:Program)(Γ:Gam)(n:Nat)(q:Bool)(x:Code)(F:List AV)(H:zA):Zt P Γ n q (.loop x) F H=aloop (fun F H=>Zt P Γ n q x F H) n F H:=by
 rw[Za];rfl
@[simp] theorem zS3(P:Program)(Γ:Gam)(n:Nat)(q:Bool)(x:Code)(F:List AV)(H:zA):Zt P Γ n q (.scope x) F H=Zt P Γ n q x F H:=by rw[Za];rfl
@[simp] theorem zUK(P:Program)(Γ:Gam)(n:Nat)(q:Bool)(id:Nat)(F:List AV)(H:zA):Zt P Γ n q (.exit id) F H=some (.exit id,F,H):=by rw[Za];rfl
@[simp] theorem zUh(P:Program)(Γ:Gam)(n:Nat)(q:Bool)(F:List AV)(H:zA):Zt P Γ n q .ret F H=some (.ret,F,H):=by rw[Za];rfl
end
section
mutual
def reA(g:Nat->Nat):AV->AV
 | .ptr b o=>.ptr (g b) o
 | .slice b o l sz c=>.slice (g b) o l sz c
 | .sl b o l sz c=>.sl (g b) o l sz c
 | .map b=>.map (g b)
 | .func f xs ys=>.func f (ZV g xs) (ZV g ys)
 | .yld b=>.yld (g b)
 | .agg l=>.agg (ZV g l)
 | .tuple l=>.tuple (ZV g l)
 | x=>x
def ZV(g:Nat->Nat):List AV->List AV
 | []=>[]
 | x::xs=>reA g x::ZV g xs
end
def reB(g:Nat->Nat):ABlk->ABlk
 | .dead=>.dead
 | .cells o l=>.cells o (ZV g l)
 | .loop ps a b st pe F=>.loop ps a b st pe (ZV g F)
 | .map es=>.map (es.map fun e=>(reA g e.1,reA g e.2))
 | .obj o s=>.obj o s
 | .pin l=>.pin (ZV g l)
mutual
theorem zFv{g:Nat->Nat}{j j':Inj}(hg:∀b p,j b=some p->j' (g b)=some p):∀(x:AV) (v:Value),VR j x v->VR j' (reA g x) v
 | .top,_,_=>by simp[reA,VR]
 | .bool b,v,h=>by simpa[reA,VR] using h
 | .int _ n,v,h=>by simpa[reA,VR] using h
 | .str s,v,h=>by simpa[reA,VR] using h
 | .ptr b o,v,h=>by
   simp only[reA,VR]at h ⊢;obtain⟨p,h1,h2⟩:=h;exact⟨p,hg b p h1,h2⟩
 | .nilp,v,h=>by simpa[reA,VR] using h
 | .slice b o l sz c,v,h=>by
   simp only[reA,VR]at h ⊢;obtain⟨p,a,cap,h1,h2⟩:=h;exact⟨p,a,cap,hg b p h1,h2⟩
 | .sl b o l sz c,v,h=>by
   simp only[reA,VR]at h ⊢;rcases h with h | ⟨p,a,cap,hp,r⟩
   · exact .inl h
   · exact .inr ⟨p,a,cap,hg b p hp,r⟩
 | .nils,v,h=>by simpa[reA,VR] using h
 | .map b,v,h=>by
   simp only[reA,VR]at h ⊢;obtain⟨p,h1,h2⟩:=h;exact⟨p,hg b p h1,h2⟩
 | .nilm,v,h=>by simpa[reA,VR] using h
 | .func f xs ys,v,h=>by
   simp only[reA,VR]at h ⊢;obtain⟨cx,cy,e,h1,h2⟩:=h;exact⟨cx,cy,e,zD2 hg xs _ h1,zD2 hg ys _ h2⟩
 | .yld b,v,h=>by
   simp only[reA,VR]at h ⊢;obtain⟨p,h1,h2⟩:=h;exact⟨p,hg b p h1,h2⟩
 | .nilf,v,h=>by simpa[reA,VR] using h
 | .agg l,v,h=>by
   simp only[reA,VR]at h ⊢;obtain⟨cs,e,h1⟩:=h;exact⟨cs,e,zD2 hg l _ h1⟩
 | .tuple l,v,h=>by
   simp only[reA,VR]at h ⊢;obtain⟨cs,e,h1⟩:=h;exact⟨cs,e,zD2 hg l _ h1⟩
theorem zD2{g:Nat->Nat}{j j':Inj}(hg:∀b p,j b=some p->j' (g b)=some p):∀(xs:List AV) (vs:List Value),VRs j xs vs->VRs j' (ZV g xs) vs
 | [],vs,h=>by simpa[ZV,VRs] using h
 | x::xs,vs,h=>by
   simp only[ZV,VRs]at h ⊢;obtain⟨v,ws,e,h1,h2⟩:=h;exact⟨v,ws,e,zFv hg x v h1,zD2 hg xs ws h2⟩
end
theorem zGO(g:Nat->Nat):∀xs:List AV,(ZV g xs).length=xs.length
 | []=>rfl
 | x::xs=>by simp[ZV,zGO g xs]
theorem zG7(g:Nat->Nat):∀(xs:List AV) (i:Nat),(ZV g xs)[i]? = (xs[i]?).map (reA g)
 | [],i=>by simp[ZV]
 | x::xs,0=>by simp[ZV]
 | x::xs,i+1=>by simp[ZV,zG7 g xs i]
theorem zGz(g:Nat->Nat)(y:ABlk):(reB g y).own=y.own:=by cases y <;> rfl
theorem zKb{g:Nat->Nat}{y:ABlk}(h:reB g y≠.dead):y≠.dead:=by rintro rfl;exact h rfl
theorem zOP{g:Nat->Nat}{j j':Inj}(hg:∀b p,j b=some p->j' (g b)=some p){w:World}{y:ABlk}{p:JB}(h:BRel j w y p):BRel j' w (reB g y) p:=by
 cases y with
 | dead=>trivial
 | cells o l =>
   obtain⟨cs,T,fz,g1,g2,g3,g4,g5⟩:=h;refine ⟨cs,T,fz,g1,g2,by rw[zGO];exact g3,fun i x hx=>?_,g5⟩;rw[zG7]at hx;obtain⟨x',hx',rfl⟩:=qlZ.1 hx;obtain⟨v,hv,hr⟩:=g4 i x' hx';exact⟨v,hv,zFv hg x' v hr⟩
 | loop ps a b st pe F =>
   obtain⟨fn,tmps,D,g1,g2⟩:=h;exact⟨fn,tmps,D,g1,zD2 hg F _ g2⟩
 | map es =>
   obtain⟨ents,cl,g1,gs,g2,g3⟩:=h;refine ⟨ents,cl,g1,gs,by simpa using g2,fun i z e hz he=>?_⟩;rw[qzZ]at hz;obtain⟨x,hx,rfl⟩:=qlZ.1 hz;have:=g3 i x e hx he;exact⟨zFv hg _ _ this.1,zFv hg _ _ this.2⟩
 | obj _ _=>trivial
 | pin l =>
   obtain⟨h0,cs,T,fz,g1,g4⟩:=h;refine ⟨h0,cs,T,fz,g1,fun i x hx=>?_⟩;rw[zG7]at hx;obtain⟨x',hx',rfl⟩:=qlZ.1 hx;obtain⟨v,hv,hr⟩:=g4 i x' hx';exact⟨v,hv,zFv hg x' v hr⟩
theorem zEq(g:Nat->Nat){y:ABlk}(h:(reB g y).isObj=true):reB g y=y:=by cases y <;> simp_all [reB,ABlk.isObj]
def Zr(em:List Nat)(n:Nat)(i:Nat):Nat:=match em[i]? with
 | some e=>e
 | none=>n+(i-em.length)
def zW(g:Nat->Nat):zA->List Nat->zA->zA->zA
 | H,e::em,B0::H0,B1::H1=>zW g (if B0.own then H.set e (reB g B1) else H) em H0 H1
 | H,_,_,_=>H
theorem zAP(g:Nat->Nat):∀(H:zA) (em:List Nat) (H0 H1:zA),(zW g H em H0 H1).length=H.length
 | H,[],_,_=>by simp[zW]
 | H,_::_,[],_=>by simp[zW]
 | H,_::_,_::_,[]=>by simp[zW]
 | H,e::em,B0::H0,B1::H1=>by
   unfold zW;rw[zAP];split <;> simp
theorem zBd(g:Nat->Nat):∀(H:zA) (em:List Nat) (H0 H1:zA) (c:Nat),(∀(i:Nat) B,em[i]? = some c->H0[i]? = some B->¬B.own=true)->(zW g H em H0 H1)[c]? = H[c]?
 | H,[],_,_,c,_=>by simp[zW]
 | H,_::_,[],_,c,_=>by simp[zW]
 | H,_::_,_::_,[],c,_=>by simp[zW]
 | H,e::em,B0::H0,B1::H1,c,h=>by
   unfold zW;rw[zBd g _ em H0 H1 c fun i B h1 h2=>h (i+1) B (by simpa using h1) (by simpa using h2)];split
   · rename_i ho
     have:e≠c:=by
       rintro rfl;exact h 0 B0 rfl rfl ho
     rw[qfZ this]
   · rfl
theorem zF4(g:Nat->Nat):∀(H:zA) (em:List Nat) (H0 H1:zA) (i e:Nat) (B0 B1:ABlk),em.Nodup->(∀x∈em,x<H.length)->em[i]? = some e->H0[i]? = some B0->B0.own=true->H1[i]? = some B1->(zW g H em H0 H1)[e]? = some (reB g B1)
 | H,[],_,_,i,e,B0,B1,_,_,h,_,_,_=>by simp at h
 | H,_::_,[],_,i,e,B0,B1,_,_,_,h,_,_=>by simp at h
 | H,_::_,_::_,[],i,e,B0,B1,_,_,_,_,_,h=>by simp at h
 | H,e'::em,B0'::H0,B1'::H1,0,e,B0,B1,hn,hl,h1,h2,h3,h4=>by
   simp at h1 h2 h4;subst h1;subst h2;subst h4
   unfold zW;rw[if_pos h3,zBd g _ em H0 H1 e' fun i B k1 _=>?_]
   · rw[qgZ (hl e' (qhZ ..))]
   · exact absurd (qcZ k1) (rdZ.1 hn).1
 | H,e'::em,B0'::H0,B1'::H1,i+1,e,B0,B1,hn,hl,h1,h2,h3,h4=>by
   unfold zW;refine zF4 g _ em H0 H1 i e B0 B1 (rdZ.1 hn).2 (fun x hx=>?_) (by simpa using h1) (by simpa using h2) h3 (by simpa using h4);have:=hl x (qiZ _ hx);split <;> simpa using this
theorem zZ{P:Program}{f:FuncId}{args0 args:List AV}{H0 H1 H:zA}{v:AV}(h:Ct P f args0 H0 v H1)(em:List Nat)(hn:em.Nodup)(ha:AWs em args0 args)(hH:AWh em H H0 em)(ho:zBM (H1.drop H0.length)=true) :
   Ct P f args H (reA (Zr em H.length) v) (zW (Zr em H.length) H em H0 H1++(H1.drop H0.length).map (reB (Zr em H.length))):=by
 intro j w cargs hR hargs;obtain⟨hl,hat⟩:=hH.at;have hlt:∀x∈em,x<H.length:=by
   intro x hx;obtain⟨i,hi⟩:=List.getElem?_of_mem hx;have hil:i<H0.length:=by rw[hl];exact (q1Z.1 hi).1
   obtain⟨y,hy,_⟩:=hat i _ x (q3Z hil) hi;exact (q1Z.1 hy).1
 have hidx:∀i c,em[i]? = some c->em.idxOf c=i:=by
   intro i c hi;have hm:c∈em:=qcZ hi;have h1:em[em.idxOf c]? = some c:=by
     rw[q3Z (List.idxOf_lt_length_iff.2 hm),List.getElem_idxOf]
   exact (List.getElem?_inj (List.idxOf_lt_length_iff.2 hm) hn).1 (h1.trans hi.symm)
 have hR0:R (zDT em j) H0 w:=hR.ren hn hH.toG;refine (h (zDT em j) w cargs hR0 (AWs.ok _ _ _ ha hargs)).mono ?_;rintro e w' ⟨cv,j',rfl,h1,h2⟩
 let g:=Zr em H.length
 let ov:Nat->Prop:=fun b=>b∈em/\(H0.getD (em.idxOf b) .dead).own=true
 have dov:∀b,Decidable (ov b):=fun b=>inferInstanceAs (Decidable (_/\_))
 let J:Inj:=⟨fun b=>if b<H.length then j b else j' (H0.length+(b-H.length)),
   fun b=>if b<H.length then (if ov b then j'.foot (em.idxOf b) else j.foot b) else j'.foot (H0.length+(b-H.length)),
   fun b=>if b<H.length then (if ov b then j'.shr (em.idxOf b) else j.shr b) else j'.shr (H0.length+(b-H.length))⟩
 have hJat:∀b,J b=if b<H.length then j b else j' (H0.length+(b-H.length)):=fun _=>rfl
 have hov:∀(i:Nat) B c,em[i]? = some c->H0[i]? = some B->B.own=true->ov c:=by
   intro i B c k1 k2 k3;refine ⟨qcZ k1,?_⟩;rw[hidx i c k1,q2Z,k2];exact k3
 have hnov:∀c,(∀(i:Nat) B,em[i]? = some c->H0[i]? = some B->¬B.own=true)->¬ov c:=by
   rintro c hc ⟨k1,k2⟩;obtain⟨i,hi⟩:=List.getElem?_of_mem k1;rw[hidx i c hi]at k2;cases hb:H0[i]? with
   | none=>rw[q2Z,hb]at k2;cases k2
   | some B =>
     rw[q2Z,hb]at k2;exact hc i B hi hb k2
 have hgold:∀i e,em[i]? = some e->g i=e:=fun i e hi=>by simp only[g,Zr,hi]
 have hgnew:∀k,g (H0.length+k)=H.length+k:=fun k=>by
   simp only[g,Zr];rw[s4Z (by omega)];dsimp only;omega
 have hJ:∀b p,j' b=some p->J (g b)=some p:=by
   intro b p hp;rcases s2Z b H0.length with hb | hb
   · have hbe:em[b]? = some (em[b]'(by omega)):=q3Z (by omega)
     rw[hgold b _ hbe];rw[h2.ext b hb]at hp;obtain⟨c,k1,k2⟩:=s6Z.1 hp;rw[hbe]at k1;cases k1;rw[hJat,if_pos (hlt _ (r3Z _))];exact k2
   · obtain⟨k,rfl⟩:=Nat.exists_eq_add_of_le hb
     rw[hgnew k,hJat,if_neg (by omega),s3Z];exact hp
 have hle:JLe j J:=by
   intro b p hp;have hb:b<H.length:=by
     rcases s2Z b H.length with h3 | h3
     · exact h3
     · rw[hR.dom b h3]at hp;cases hp
   rw[hJat,if_pos hb];exact hp
 have hlen:=zAP g H em H0 H1;have hcase:∀c y q,(zW g H em H0 H1++(H1.drop H0.length).map (reB g))[c]? = some y->J c=some q ->
     (c<H.length/\H[c]? = some y/\j c=some q/\∀(i:Nat) B,em[i]? = some c->H0[i]? = some B->¬B.own=true) \/
     (∃(i:Nat) (B0 B1 z:ABlk),c<H.length/\em[i]? = some c/\H0[i]? = some B0/\B0.own=true/\H1[i]? = some B1/\y=reB g B1/\j c=some q/\j' i=some q/\H[c]? = some z/\z.own=true) \/
     (∃(k:Nat) (B1:ABlk),c=H.length+k/\H1[H0.length+k]? = some B1/\y=reB g B1/\j' (H0.length+k)=some q):=by
   intro c y q hc hq;rw[hJat]at hq;rw[s7Z,hlen]at hc;split at hc <;> rename_i hcl
   · have hjc:j c=some q:=by rwa [if_pos hcl]at hq
     by_cases hown:∃(i:Nat) (B:ABlk),em[i]? = some c/\H0[i]? = some B/\B.own=true
     · obtain⟨i,B,k1,k2,k3⟩:=hown
       have hi0:i<H0.length:=(q1Z.1 k2).1;have hi1:i<H1.length:=rlZ hi0 h2.len;have k4:H1[i]? = some H1[i]:=q3Z hi1;have k5:=zF4 g H em H0 H1 i c B _ hn hlt k1 k2 k3 k4;rw[k5]at hc;cases hc;obtain⟨z,hz,hw⟩:=hat i B c k2 k1;refine .inr (.inl ⟨i,B,_,z,hcl,k1,k2,k3,k4,rfl,hjc,?_,hz,hw.own k3⟩);rw[h2.ext i hi0];exact zA4 k1 hjc
     · rw[zBd g H em H0 H1 c fun i B k1 k2 k3=>hown ⟨i,B,k1,k2,k3⟩]at hc
       exact .inl ⟨hcl,hc,hjc,fun i B k1 k2 k3=>hown ⟨i,B,k1,k2,k3⟩⟩
   · rw[qzZ,r5Z]at hc
     obtain⟨B1,hB,rfl⟩:=qlZ.1 hc;rw[if_neg hcl]at hq;exact .inr (.inr ⟨c-H.length,B1,by omega,hB,rfl,hq⟩)
 let seen:Nat->Prop:=fun c=>∃(i:Nat) (B:ABlk),em[i]? = some c/\H0[i]? = some B/\B.own=true
 have hjfoot:∀(i c:Nat),em[i]? = some c->(zDT em j).foot i=j.foot c/\(zDT em j).shr i=j.shr c:=by
   intro i c hi;have hg:em.getD i 0=c:=by rw[q2Z,hi];rfl
   exact⟨by show j.foot (em.getD i 0)=_;rw[hg],by show j.shr (em.getD i 0)=_;rw[hg]⟩
 have hocc:∀u,Occ (zDT em j) H0 u->∃c y p,seen c/\H[c]? = some y/\y.own=true/\j c=some p/\(u=p.blk\/u∈Zu j y c):=by
   rintro u ⟨i,B,p,k1,k2,k3,k4⟩;obtain⟨c,m1,m2⟩:=s6Z.1 k3;obtain⟨z,hz,hw⟩:=hat i B c k1 m1;exact⟨c,z,p,⟨i,B,m1,k1,k2⟩,hz,hw.own k2,m2,k4.imp id (zAq (fun ho=>⟨hw.obj ho,hjfoot i c m1⟩) u)⟩
 have htch:∀u,Sch (zDT em j) H0 u->∃c y p,(y.own=true->seen c)/\H[c]? = some y/\y.str=true/\j c=some p/\(u=p.blk\/u∈ZN j y c):=by
   rintro u ⟨i,B,p,k1,k2,k3,k4⟩;obtain⟨c,m1,m2⟩:=s6Z.1 k3;obtain⟨z,hz,hw⟩:=hat i B c k1 m1;refine ⟨c,z,p,fun ho=>⟨i,B,m1,k1,?_⟩,hz,zKK hw.own hw.obj k2,m2,k4.imp id (zA1 (fun ho=>⟨hw.obj ho,hjfoot i c m1⟩) u)⟩;cases hob:B.isObj with
   | false=>simpa[ABlk.str,hob] using k2
   | true=>rw[<-hw.obj hob];exact ho
 refine ⟨cv,J,rfl,zFv hJ v cv h1,Step.mergeF hR h2 seen hocc htch (fun b hb=>?_) (fun b x p hb hp=>?_)
   (fun b=>if b<H.length then (if ov b then (true,em.idxOf b) else (false,b)) else (true,H0.length+(b-H.length))) (fun b x p hb hx hp=>?_) (fun b b' x x' p p' hb _ hp hb' _ hp' hne e=>?_) (fun b hb=>?_) (by rw[qdZ,hlen];omega)⟩
 · rw[qdZ,hlen,r7Z,qkZ]at hb
   rw[hJat,if_neg (by omega)];exact h2.rel.dom _ (by have:=h2.len;omega)
 · rcases hcase b x p hb hp with⟨g0,g1,g2,g3⟩ | ⟨i,B0,B1,z,_,g1,g2,g3,g4,rfl,g6,g7,_,_⟩ | ⟨k,B1,rfl,g2,rfl,g4⟩
   · exact (hR.blk b x p g1 g2).mono hle fun hx=>Step.stay hR h2 hocc g1 hx g2 (fun _ ⟨i,B,m1,m2,m3⟩=>g3 i B m1 m2 m3) (.inl rfl)
   · exact zOP hJ (h2.rel.blk i B1 p g4 g7)
   · exact zOP hJ (h2.rel.blk _ B1 p g2 g4)
 · rcases hcase b x p hb hp with⟨g0,g1,g2,g3⟩ | ⟨i,B0,B1,z,g0,g1,g2,g3,g4,rfl,g6,g7,g8,g9⟩ | ⟨k,B1,rfl,g2,rfl,g4⟩
   · have hno:=hnov b g3
     simp only[g0,hno,if_true,if_false,qsZ];exact⟨⟨x,g1,hx,g2,id,fun _=>⟨rfl,by simp only[J,g0,hno,if_true,if_false],by simp only[J,g0,hno,if_true,if_false]⟩⟩,fun y hy ho ⟨i,B,m1,m2,m3⟩=>g3 i B m1 m2 m3⟩
   · have hyes:=hov i B0 b g1 g2 g3
     have hi:=hidx i b g1;simp only[g0,hyes,if_true,hi];refine ⟨⟨B1,g4,zKb hx,g7,fun h=>by rwa [zGz]at h,fun ho=>⟨(zEq g ho).symm,by simp only[J,g0,hyes,if_true,hi],by simp only[J,g0,hyes,if_true,hi]⟩⟩,?_⟩;cases ho:(reB g B1).isObj with
     | true=>exact .inl (zO1 ho)
     | false=>exact .inr (.inr ⟨rfl,b,z,⟨i,B0,g1,g2,g3⟩,g8,Zj g9,g6⟩)
   · have hyo:B1.own=true:=by
       have:B1∈H1.drop H0.length:=qcZ (i:=k) (by rw[r5Z];exact g2)
       have:=s5Z.1 ho _ this;have hnd:=zKb hx;cases B1 <;> simp_all [ABlk.own]
     simp only[show ¬H.length+k<H.length by omega,if_false,if_true,s3Z];exact⟨⟨B1,g2,zKb hx,g4,fun h=>by rwa [zGz]at h,fun ho=>⟨(zEq g ho).symm,by show (if _ then _ else _)=_;rw[if_neg (by omega),s3Z],by show (if _ then _ else _)=_;rw[if_neg (by omega),s3Z]⟩⟩,.inl (zFZ (by rw[zGz];exact hyo))⟩
 · rcases hcase b x p hb hp with⟨g0,g1,g2,g3⟩ | ⟨i,B0,B1,z,g0,g1,g2,g3,g4,rfl,g6,g7,g8,g9⟩ | ⟨k,B1,rfl,g2,rfl,g4⟩ <;>
     rcases hcase b' x' p' hb' hp' with⟨k0,k1,k2,k3⟩ | ⟨i',B0',B1',z',k0,k1,k2,k3,k4,rfl,k6,k7,k8,k9⟩ | ⟨k',B1',rfl,k2,rfl,k4⟩
   · simp only[g0,hnov b g3,k0,hnov b' k3,if_true,if_false]at e
     exact hne (Prod.mk.inj e).2
   · simp only[g0,hnov b g3,k0,hov i' B0' b' k1 k2 k3,if_true,if_false]at e
     cases (Prod.mk.inj e).1
   · simp only[g0,hnov b g3,show ¬H.length+k'<H.length by omega,if_true,if_false]at e
     cases (Prod.mk.inj e).1
   · simp only[g0,hov i B0 b g1 g2 g3,k0,hnov b' k3,if_true,if_false]at e
     cases (Prod.mk.inj e).1
   · simp only[g0,hov i B0 b g1 g2 g3,k0,hov i' B0' b' k1 k2 k3,if_true,hidx i b g1,hidx i' b' k1]at e
     have:=(Prod.mk.inj e).2;subst this;rw[g1]at k1;exact hne (Option.some.inj k1).symm
   · simp only[g0,hov i B0 b g1 g2 g3,show ¬H.length+k'<H.length by omega,if_true,if_false,hidx i b g1]at e
     have:=(Prod.mk.inj e).2;have:=(q1Z.1 g2).1;omega
   · simp only[k0,hnov b' k3,show ¬H.length+k<H.length by omega,if_true,if_false]at e
     cases (Prod.mk.inj e).1
   · simp only[k0,hov i' B0' b' k1 k2 k3,show ¬H.length+k<H.length by omega,if_true,if_false,hidx i' b' k1]at e
     have:=(Prod.mk.inj e).2;have:=(q1Z.1 k2).1;omega
   · simp only[show ¬H.length+k<H.length by omega,show ¬H.length+k'<H.length by omega,if_false,s3Z]at e
     have:=(Prod.mk.inj e).2;exact hne (by omega)
 · rw[hJat,if_pos hb]
def zUe(F:List AV->zA->Option (List Nat×zA×AV×zA)):zS:=fun args H=>match F args H with
 | some (em,H0,v,H1)=>some (reA (Zr em H.length) v,zW (Zr em H.length) H em H0 H1++(H1.drop H0.length).map (reB (Zr em H.length)),em)
 | none=>none
attribute [simp] reA ZV reB Zr zW zUe ABlk.own zBM
@[simp] theorem zQK(g:Nat->Nat):∀l:List (List UInt8),ZV g (l.map AV.str)=l.map AV.str
 | []=>rfl
 | x::l=>by simp[zQK g l]
end
section
def jsh(k:Nat)(j:Inj):Inj:=⟨fun b=>j (k+b),fun b=>j.foot (k+b),fun b=>j.shr (k+b)⟩
@[simp] theorem zVx(k:Nat)(j:Inj)(b:Nat):jsh k j b=j (k+b):=rfl
mutual
theorem zD1{k:Nat}{j:Inj}:∀(x:AV) (v:Value),VR j (shA k x) v->VR (jsh k j) x v
 | .top,_,_=>by simp[VR]
 | .bool b,v,h=>by simpa[shA,VR] using h
 | .int _ n,v,h=>by simpa[shA,VR] using h
 | .str s,v,h=>by simpa[shA,VR] using h
 | .ptr b o,v,h=>by simpa[shA,VR] using h
 | .nilp,v,h=>by simpa[shA,VR] using h
 | .slice b o l sz c,v,h=>by simpa[shA,VR] using h
 | .sl b o l sz c,v,h=>by simpa[shA,VR] using h
 | .nils,v,h=>by simpa[shA,VR] using h
 | .map b,v,h=>by simpa[shA,VR] using h
 | .nilm,v,h=>by simpa[shA,VR] using h
 | .func f xs ys,v,h=>by
   simp only[shA,VR]at h ⊢;obtain⟨cx,cy,e,h1,h2⟩:=h;exact⟨cx,cy,e,zCR xs _ h1,zCR ys _ h2⟩
 | .yld b,v,h=>by simpa[shA,VR] using h
 | .nilf,v,h=>by simpa[shA,VR] using h
 | .agg l,v,h=>by
   simp only[shA,VR]at h ⊢;obtain⟨cs,e,h1⟩:=h;exact⟨cs,e,zCR l _ h1⟩
 | .tuple l,v,h=>by
   simp only[shA,VR]at h ⊢;obtain⟨cs,e,h1⟩:=h;exact⟨cs,e,zCR l _ h1⟩
theorem zCR{k:Nat}{j:Inj}:∀(xs:List AV) (vs:List Value),VRs j (zAK k xs) vs->VRs (jsh k j) xs vs
 | [],vs,h=>by simpa[zAK,VRs] using h
 | x::xs,vs,h=>by
   simp only[zAK,VRs]at h ⊢;obtain⟨v,ws,e,h1,h2⟩:=h;exact⟨v,ws,e,zD1 x v h1,zCR xs ws h2⟩
end
theorem zTw{k:Nat}{j:Inj}{w:World}{y:ABlk}{p:JB}(h:BRel j w (shB k y) p):BRel (jsh k j) w y p:=by
 cases y with
 | dead=>trivial
 | cells o l =>
   obtain⟨cs,T,fz,g1,g2,g3,g4,g5⟩:=h;refine ⟨cs,T,fz,g1,g2,by rw[zDR]at g3;exact g3,fun i x hx=>?_,g5⟩;obtain⟨v,hv,hr⟩:=g4 i (shA k x) (by rw[zDe,hx];rfl);exact⟨v,hv,zD1 x v hr⟩
 | loop ps a b st pe F =>
   obtain⟨fn,tmps,D,g1,g2⟩:=h;exact⟨fn,tmps,D,g1,zCR F _ g2⟩
 | map es =>
   obtain⟨ents,cl,g1,gs,g2,g3⟩:=h;refine ⟨ents,cl,g1,gs,by simpa using g2,fun i z e hz he=>?_⟩;have:=g3 i (shA k z.1,shA k z.2) e (by rw[qzZ,hz];rfl) he;exact⟨zD1 _ _ this.1,zD1 _ _ this.2⟩
 | obj _ _=>trivial
 | pin l =>
   obtain⟨h0,cs,T,fz,g1,g4⟩:=h;refine ⟨h0,cs,T,fz,g1,fun i x hx=>?_⟩;obtain⟨v,hv,hr⟩:=g4 i (shA k x) (by rw[zDe,hx];rfl);exact⟨v,hv,zD1 x v hr⟩
theorem zSo{j j':Inj}{H N:zA}{w w':World}{v:AV}{cv:Value}(hR:R j H w)(hk:∀c,c<w.heap.size->w'.heap[c]? = w.heap[c]?)(hos:w'.os=w.os)(ht:w'.tape=w.tape)(ho:w'.output=w.output)(hsz:w.heap.size<=w'.heap.size)
   (hN:R0 j' N w') (hfr:∀(b:Nat) (y:ABlk) (p:JB),N[b]? = some y->y≠.dead->j' b=some p->(y.own=true/\w.heap.size<=p.blk)/\y.isObj=false) (hv:VR j' v cv) :
   VR (zD4 H.length j j') (shA H.length v) cv/\Step H.length j H w (zD4 H.length j j') (H++N.map (shB H.length)) w':=by
 have hle:JLe j (zD4 H.length j j'):=by
   intro b p hp;have hb:b<H.length:=by
     rcases s2Z b H.length with h3 | h3
     · exact h3
     · rw[hR.dom b h3]at hp;cases hp
   rw[zAo,if_pos hb];exact hp
 have hcase:∀c y q,(H++N.map (shB H.length))[c]? = some y->zD4 H.length j j' c=some q->(H[c]? = some y/\j c=some q)\/(∃b y',c=H.length+b/\N[b]? = some y'/\y=shB H.length y'/\j' b=some q):=by
   intro c y q hc hq;rw[s7Z]at hc;split at hc <;> rename_i hlt
   · rw[zAo,if_pos hlt]at hq
     exact .inl ⟨hc,hq⟩
   · rw[qzZ]at hc
     obtain⟨y',hy',rfl⟩:=qlZ.1 hc;rw[zAo,if_neg hlt]at hq;exact .inr ⟨c-H.length,y',by omega,hy',rfl,hq⟩
 refine ⟨zEi v cv hv,Step.make hR ⟨?_,?_,?_⟩ ?_ (by simp) ⟨hos,ht,ho,hsz,fun c hc _=>hk c hc⟩ ?_⟩
 · intro b hb
   simp at hb;rw[zAo,if_neg (by omega)];exact hN.dom _ (by omega)
 · intro b x p hb hp
   rcases hcase b x p hb hp with⟨g1,g2⟩ | ⟨b',y',rfl,g1,rfl,g2⟩
   · exact (hR.blk b x p g1 g2).mono hle fun hx=>hk _ (hR.ltx g1 hx g2)
   · exact zSJ (hN.blk b' y' p g1 g2)
 · intro b b' y x p p' hb hy hb' hx hne hp hp'
   have nd:∀y':ABlk,shB H.length y'≠.dead->y'≠.dead:=by rintro y' h rfl;exact h rfl
   rcases hcase b y p hb hp with⟨g1,g2⟩ | ⟨c,y',rfl,g1,rfl,g2⟩ <;> rcases hcase b' x p' hb' hp' with⟨k1,k2⟩ | ⟨c',x',rfl,k1,rfl,k2⟩
   · exact hR.inj b b' y x p p' g1 hy k1 hx hne g2 k2
   · have:=hR.ltx g1 (Zj hy) g2
     have:=(hfr c' x' p' k1 (nd _ hx) k2).1.2;omega
   · have:=hR.ltx k1 hx k2
     have:=(hfr c y' p g1 (nd _ (Zj hy)) g2).1.2;omega
   · exact hN.inj c c' y' x' p p' g1 (by rw[<-zE2 H.length];exact hy) k1 (nd _ hx) (fun e=>hne (by rw[e])) g2 k2
 · intro b hb
   rw[zAo,if_pos hb]
 · intro b y p hb hy hp
   rcases hcase b y p hb hp with⟨g1,g2⟩ | ⟨c,y',rfl,g1,rfl,g2⟩
   · have hbl:b<H.length:=(q1Z.1 g1).1
     exact .same g1 hy g2 (by simp[zD4,hbl]) (by simp[zD4,hbl])
   · have:=hfr c y' p g1 (zOK _ hy) g2
     refine .inl ⟨this.1.2,?_⟩;cases y' <;> simp_all [shB,ABlk.isObj]
theorem zB4{P:Program}{f:FuncId}{args0 args:List AV}{H0 H N:zA}{v:AV}(h:Ct P f args0 H0 (shA H0.length v) (H0++N.map (shB H0.length)))(ho:zBM N=true)(wd:List (Nat×Nat))(ha:zCS wd args0 args)(hH:winH H H0 wd)(hno:N.all (fun x=>!x.isObj)=true:=by first | rfl | simp[ABlk.isObj]) :
   Ct P f args H (shA H.length v) (H++N.map (shB H.length)):=by
 intro j w cargs hR hargs;obtain⟨hl,hat⟩:=hH.at
 let j0:Inj:=⟨fun i=>match wd[i]? with
   | some (b,off)=>(j b).map fun p=>⟨p.blk,p.base+off,p.size⟩
   | none=>none,fun _=>[],fun _=>[]⟩
 have hj0:∀i p,j0 i=some p->∃b off q,wd[i]? = some (b,off)/\j b=some q/\p=⟨q.blk,q.base+off,q.size⟩:=by
   intro i p hp;simp only[j0]at hp;split at hp
   · rename_i b off e
     obtain⟨q,hq,rfl⟩:=qlZ.1 hp;exact⟨b,off,q,e,hq,rfl⟩
   · cases hp
 have hro:H0.all zGd=true:=by
   rw[s5Z];intro x hx;obtain⟨i,hi⟩:=List.getElem?_of_mem hx;have hil:i<wd.length:=by rw[<-hl];exact (q1Z.1 hi).1
   obtain⟨⟨l0,rfl⟩,_⟩:=hat i x _ _ hi (q3Z hil);rfl
 have hR0:R j0 H0 w:=by
   refine R.ro (fun b hb=>?_) (fun i x p hx hp=>?_) hro hR.glo.1
   · simp only[j0]
     rw[s4Z (show wd.length<=b by omega)]
   · obtain⟨b,off,q,h1,h2,rfl⟩:=hj0 i p hp
     obtain⟨y0,hy0⟩:=hR.live h2;obtain⟨l0,o,l,rfl,hb,h3,h4,h5⟩:=(hat i x b off hx h1).2 y0 hy0;obtain⟨cs,T,fz,g1,g2,g3,g4,g5⟩:=hR.blk b _ q hb h2;refine ⟨cs,T,fz,g1,g2,by dsimp only;omega,fun k z hz=>?_,fun ho=>by cases ho⟩;rw[h4,r4Z]at hz;split at hz
     · rw[r5Z]at hz
       obtain⟨v',hv',hr⟩:=g4 _ z hz;refine ⟨v',by dsimp only;rw[show q.base+off+k=q.base+(off+k) by omega];exact hv',?_⟩;refine VR.free z v' ?_ hr;refine frees_iff.1 h5 z ?_;rw[h4];refine qcZ (i:=k) ?_;rw[r4Z,if_pos ‹_›,r5Z];exact hz
     · cases hz
 have hargs0:∀(xs ys:List AV) (vs:List Value),zCS wd xs ys->VRs j ys vs->VRs j0 xs vs:=zEr fun i b off p h1 h2=>by simp only[j0,h1,h2,rhZ]
 refine (h j0 w cargs hR0 (hargs0 _ _ _ ha hargs)).mono ?_;rintro e w' ⟨cv,j',rfl,h1,h2⟩;have hk:=zFs h2.keeps hro;have hfr:∀(b:Nat) (y:ABlk) (p:JB),N[b]? = some y->y≠.dead->j' (H0.length+b)=some p->(y.own=true/\w.heap.size<=p.blk)/\y.isObj=false:=by
   intro b y p hb hy hp;have hpl:y.isObj=false:=by simpa using s5Z.1 hno _ (qcZ hb)
   have hyo:y.own=true:=by
     have:=s5Z.1 ho _ (qcZ hb);cases y <;> simp_all [ABlk.own]
   have hb':(H0++N.map (shB H0.length))[H0.length+b]? = some (shB H0.length y):=by
     rw[q5Z (by omega),s3Z,qzZ,hb];rfl
   refine ⟨⟨hyo,?_⟩,hpl⟩;rcases h2.fresh p.blk ⟨_,_,p,hb',by rw[zE2];exact hyo,hp,.inl rfl⟩ with h3 | ⟨b0,y0,p0,h3,h4,_⟩
   · exact h3
   · exact absurd h4 (zNz (s5Z.1 hro _ (qcZ h3)))
 have hN:R0 (jsh H0.length j') N w':=by
   refine ⟨fun b hb=>h2.rel.dom _ (by simp;omega),fun b x p hb hp=>?_,fun b b' y x p p' hb hy hb' hx hne hp hp'=>?_⟩
   · refine zTw (h2.rel.blk (H0.length+b) (shB H0.length x) p ?_ hp)
     rw[q5Z (by omega),s3Z,qzZ,hb];rfl
   · refine h2.rel.inj (H0.length+b) (H0.length+b') (shB H0.length y) (shB H0.length x) p p' ?_ (by rw[zE2];exact hy) ?_ ?_ (by omega) hp hp'
     · rw[q5Z (by omega),s3Z,qzZ,hb];rfl
     · rw[q5Z (by omega),s3Z,qzZ,hb'];rfl
     · cases x <;> simp_all [shB]
 obtain⟨g1,g2⟩:=zSo hR hk h2.keeps.os h2.keeps.tape h2.keeps.output h2.keeps.size hN hfr (zD1 v cv h1);exact⟨cv,_,rfl,g1,g2⟩
def zi(g:List AV->zA->Option (AV×zA)):zS:=fun args H=>match g args H with
 | some (v,N)=>some (shA H.length v,H++N.map (shB H.length),[])
 | none=>none
theorem ZQ{P:Program}{f:FuncId}{g:List AV->zA->Option (AV×zA)}(he:∀cargs w,(callFunc f cargs).run P w=.ok (.enter f cargs) w)
   (h:∀args H v N,g args H=some (v,N)->Ct P f args H (shA H.length v) (H++N.map (shB H.length))):Sound P f (zi g):=by
 refine ⟨he,fun args H v H' W hs=>?_,fun args H v H' W hs=>?_⟩ <;> (unfold zi at hs;split at hs <;> cases hs)
 · rename_i v0 N hg
   exact h args H _ _ hg
 · exact⟨by simp,fun b hb _=>by rw[q4Z hb]⟩
attribute [simp] zi
theorem zKE{P:Program}{Γ:Gam}(hm:P.follows .mixedOrders=true)(hΓ:GOk P Γ){n:Nat}{f:FuncId}{fn:Func}(hf:P.funcs[f]? = some fn){args:List AV}{H H':zA}{v:AV}(h:∃v1 H1,zIq P Γ n fn args H=some (v1,H1)/\Weak H.length [v1] H1 [v] H') :
   Ct P f args H v H':=by
 obtain⟨v1,H1,h1,h2⟩:=h;exact zSW hm hΓ hf h1 h2
theorem zRP{P:Program}{f:FuncId}{pre post:List AV}{b off n sz:Nat}{c:Bool}{H H':zA}{v:AV}(h1:Ct P f (pre++.slice b off n sz c::post) H v H')(h2:n=0->Ct P f (pre++.nils::post) H v H'):Ct P f (pre++.sl b off n sz c::post) H v H':=by
 intro j w cargs hR hargs;have hx:∃y,(y=.slice b off n sz c\/(n=0/\y=.nils))/\VRs j (pre++y::post) cargs.toList:=by
   obtain⟨L,hL⟩:∃L,cargs.toList=L:=⟨_,rfl⟩
   rw[hL]at hargs ⊢;clear h1 h2 hL;induction pre generalizing L with
   | nil =>
     simp only[qaZ,VRs]at hargs ⊢;obtain⟨u,ws,rfl,k1,k2⟩:=hargs;rcases zDC k1 with⟨k3,k4⟩ | k3
     · exact⟨.nils,.inr ⟨k3,rfl⟩,u,ws,rfl,k4,k2⟩
     · exact⟨_,.inl rfl,u,ws,rfl,k3,k2⟩
   | cons x pre ih =>
     simp only[q9Z,VRs]at hargs ⊢;obtain⟨u,ws,rfl,k1,k2⟩:=hargs;obtain⟨y,hy,hv⟩:=ih ws k2;exact⟨y,hy,u,ws,rfl,k1,hv⟩
 obtain⟨y,rfl | ⟨h0,rfl⟩,hv⟩:=hx
 · exact h1 j w cargs hR hv
 · exact h2 h0 j w cargs hR hv
end
end Go.Proofs.YtfhidaoiofeooaaGreatDoor
