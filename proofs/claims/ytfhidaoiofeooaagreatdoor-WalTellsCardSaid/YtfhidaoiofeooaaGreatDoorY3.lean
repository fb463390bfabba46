/- Parts of the proof of WalTells: lemmas, each with its own conditions. -/
import Derived.Test.YtfhidaoiofeooaaGreatDoorY2
set_option maxHeartbeats 64000000
open List renaming getElem?_eq_some_iff → q1Z, getD_eq_getElem?_getD → q2Z, getElem?_eq_getElem → q3Z, getElem?_append_left → q4Z, getElem?_append_right → q5Z, length_cons → q7Z, replicate → qbZ, mem_of_getElem? → qcZ, length_append → qdZ, append_assoc → qeZ, getElem?_set_ne → qfZ, getElem?_set_self → qgZ, mem_cons_self → qhZ, mem_cons_of_mem → qiZ, length_drop → qkZ, mem_cons → qwZ, mem_append → qxZ, getElem?_map → qzZ, getElem_mem → r3Z, getElem?_take → r4Z, getElem?_drop → r5Z, length_map → r7Z, nodup_cons → rdZ, mem_map → reZ, not_mem_nil → rtZ, map_cons → s1Z, getElem?_eq_none → s4Z, all_eq_true → s5Z, getElem?_append → s7Z, mem_filter → sbZ
open Option renaming map_eq_some_iff → qlZ, map_some → rhZ, bind_eq_some_iff → s6Z
open Nat renaming le_refl → qnZ, zero_le → qqZ, lt_of_lt_of_le → rlZ, lt_or_ge → s2Z, add_sub_cancel_left → s3Z, zero_add → s8Z
open Bool renaming and_eq_true → qrZ, false_eq_true → qsZ
open Array renaming getElem?_eq_some_iff → qtZ, length_toList → rjZ, toList_append → rxZ
open Int renaming tmod_eq_emod_of_nonneg → rrZ
namespace Go.Proofs.YtfhidaoiofeooaaGreatDoor
set_option maxRecDepth 100000
mutual
def AW(rn:List Nat):AV->AV->Prop
 | .top,_=>True
 | .bool b,.bool b'=>b=b'
 | .int k n,.int k' n'=>k=k'/\n=n'
 | .str s,.str s'=>s=s'
 | .ptr b o,.ptr b' o'=>rn[b]? = some b'/\o=o'
 | .nilp,.nilp=>True
 | .slice b o l sz c,.slice b' o' l' sz' c'=>rn[b]? = some b'/\o=o'/\l=l'/\sz=sz'/\(c=true->c'=true)
 | .sl b o l sz c,.slice b' o' l' sz' c'=>rn[b]? = some b'/\o=o'/\l=l'/\sz=sz'/\(c=true->c'=true)
 | .sl b o l sz c,.sl b' o' l' sz' c'=>rn[b]? = some b'/\o=o'/\l=l'/\sz=sz'/\(c=true->c'=true)
 | .sl _ _ l _ _,.nils=>l=0
 | .nils,.nils=>True
 | .map b,.map b'=>rn[b]? = some b'
 | .nilm,.nilm=>True
 | .func f xs ys,.func f' xs' ys'=>f=f'/\AWs rn xs xs'/\AWs rn ys ys'
 | .yld b,.yld b'=>rn[b]? = some b'
 | .nilf,.nilf=>True
 | .agg l,.agg l'=>AWs rn l l'
 | .tuple l,.tuple l'=>AWs rn l l'
 | _,_=>False
def AWs(rn:List Nat):List AV->List AV->Prop
 | [],[]=>True
 | x::xs,y::ys=>AW rn x y/\AWs rn xs ys
 | _,_=>False
end
def zEA(rn:List Nat)(j:Inj):Inj:=⟨fun b=>(rn[b]?).bind j,fun b=>j.foot (rn.getD b 0),fun b=>j.shr (rn.getD b 0)⟩
theorem zR7(rn:List Nat)(j:Inj)(b:Nat):zEA rn j b=(rn[b]?).bind j:=rfl
theorem zBN{rn:List Nat}{j:Inj}{b b':Nat}{p:JB}(h:rn[b]? = some b')(hp:j b'=some p):zEA rn j b=some p:=by simp[zEA,h,hp]
mutual
theorem AW.ok{rn:List Nat}{j:Inj}:∀(x y:AV) (v:Value),AW rn x y->VR j y v->VR (zEA rn j) x v
 | .top,_,_,_,_=>by simp[VR]
 | .bool b,y,v,h,hv=>by cases y <;> simp_all [AW,VR]
 | .int k n,y,v,h,hv=>by cases y <;> simp_all [AW,VR]
 | .str s,y,v,h,hv=>by cases y <;> simp_all [AW,VR]
 | .ptr b o,y,v,h,hv=>by
   cases y <;> simp only[AW]at h
   obtain⟨h1,rfl⟩:=h;simp only[VR]at hv ⊢;obtain⟨p,hp,e⟩:=hv;exact⟨p,zBN h1 hp,e⟩
 | .nilp,y,v,h,hv=>by cases y <;> simp_all [AW,VR]
 | .slice b o l sz c,y,v,h,hv=>by
   cases y <;> simp only[AW]at h
   obtain⟨h1,rfl,rfl,rfl,h2⟩:=h;simp only[VR]at hv ⊢;obtain⟨p,a,cap,hp,e1,e2,e3,e4⟩:=hv;exact⟨p,a,cap,zBN h1 hp,e1,e2,fun hc=>e3 (h2 hc),e4⟩
 | .sl b o l sz c,y,v,h,hv=>by
   cases y <;> simp only[AW]at h
   case slice =>
     obtain⟨h1,rfl,rfl,rfl,h2⟩:=h;simp only[VR]at hv ⊢;obtain⟨p,a,cap,hp,e1,e2,e3,e4⟩:=hv;exact .inr ⟨p,a,cap,zBN h1 hp,e1,e2,fun hc=>e3 (h2 hc),e4⟩
   case sl =>
     obtain⟨h1,rfl,rfl,rfl,h2⟩:=h;simp only[VR]at hv ⊢;rcases hv with hv | ⟨p,a,cap,hp,e1,e2,e3,e4⟩
     · exact .inl hv
     · exact .inr ⟨p,a,cap,zBN h1 hp,e1,e2,fun hc=>e3 (h2 hc),e4⟩
   case nils =>
     simp only[VR]at hv ⊢;exact .inl ⟨h,hv⟩
 | .nils,y,v,h,hv=>by cases y <;> simp_all [AW,VR]
 | .map b,y,v,h,hv=>by
   cases y <;> simp only[AW]at h
   simp only[VR]at hv ⊢;obtain⟨p,hp,e⟩:=hv;exact⟨p,zBN h hp,e⟩
 | .nilm,y,v,h,hv=>by cases y <;> simp_all [AW,VR]
 | .func f xs ys,y,v,h,hv=>by
   cases y <;> simp only[AW]at h
   obtain⟨rfl,h1,h2⟩:=h;simp only[VR]at hv ⊢;obtain⟨cx,cy,e,g1,g2⟩:=hv;exact⟨cx,cy,e,AWs.ok _ _ _ h1 g1,AWs.ok _ _ _ h2 g2⟩
 | .yld b,y,v,h,hv=>by
   cases y <;> simp only[AW]at h
   simp only[VR]at hv ⊢;obtain⟨p,hp,e⟩:=hv;exact⟨p,zBN h hp,e⟩
 | .nilf,y,v,h,hv=>by cases y <;> simp_all [AW,VR]
 | .agg l,y,v,h,hv=>by
   cases y <;> simp only[AW]at h
   simp only[VR]at hv ⊢;obtain⟨cs,e,g1⟩:=hv;exact⟨cs,e,AWs.ok _ _ _ h g1⟩
 | .tuple l,y,v,h,hv=>by
   cases y <;> simp only[AW]at h
   simp only[VR]at hv ⊢;obtain⟨cs,e,g1⟩:=hv;exact⟨cs,e,AWs.ok _ _ _ h g1⟩
theorem AWs.ok{rn:List Nat}{j:Inj}:∀(xs ys:List AV) (vs:List Value),AWs rn xs ys->VRs j ys vs->VRs (zEA rn j) xs vs
 | [],ys,vs,h,hv=>by cases ys <;> simp_all [AWs,VRs]
 | x::xs,ys,vs,h,hv=>by
   cases ys <;> simp only[AWs]at h
   simp only[VRs]at hv ⊢;obtain⟨v,ws,e,g1,g2⟩:=hv;exact⟨v,ws,e,AW.ok _ _ _ h.1 g1,AWs.ok _ _ _ h.2 g2⟩
end
theorem AWs.len{rn:List Nat}:∀{xs ys:List AV},AWs rn xs ys->xs.length=ys.length
 | [],ys,h=>by cases ys <;> simp_all [AWs]
 | x::xs,ys,h=>by
   cases ys <;> simp only[AWs]at h
   simp[AWs.len h.2]
theorem AWs.at{rn:List Nat}:∀{xs ys:List AV},AWs rn xs ys->∀(i:Nat) x,xs[i]? = some x->∃y,ys[i]? = some y/\AW rn x y
 | [],ys,h,i,x,hx=>by simp at hx
 | x::xs,ys,h,i,x',hx=>by
   cases ys <;> simp only[AWs]at h
   cases i with
   | zero=>simp at hx;subst hx;exact⟨_,rfl,h.1⟩
   | succ i=>simpa using AWs.at h.2 i x' (by simpa using hx)
def AWb(rn:List Nat):ABlk->ABlk->Prop
 | .dead,_=>True
 | .cells o l,.cells o' l'=>(o=true->o'=true)/\AWs rn l l'
 | .loop ps asg body st pe F,.loop ps' asg' body' st' pe' F'=>ps=ps'/\asg=asg'/\body=body'/\st=st'/\pe=pe'/\AWs rn F F'
 | .map es,.map es'=>AWs rn (es.map (·.1)) (es'.map (·.1))/\AWs rn (es.map (·.2)) (es'.map (·.2))
 | .obj o s,.obj o' s'=>o=o'/\s=s'
 | .pin l,.pin l'=>AWs rn l l'
 | _,_=>False
theorem AWb.own{rn:List Nat}{x y:ABlk}(h:AWb rn x y)(hx:x.own=true):y.own=true:=by
 cases x <;> cases y <;> simp_all [AWb,ABlk.own]
theorem AWb.nd{rn:List Nat}{x y:ABlk}(h:AWb rn x y)(hx:x≠.dead):y≠.dead:=by
 cases x <;> cases y <;> simp_all [AWb]
theorem AWb.ok{rn:List Nat}{j:Inj}{w:World}{x y:ABlk}{p:JB}(hw:AWb rn x y)(this:BRel j w y p):BRel (zEA rn j) w x p:=by
 cases x with
 | dead=>trivial
 | cells o l =>
   cases y with
   | dead=>simp[AWb]at hw
   | loop _ _ _ _ _ _=>simp[AWb]at hw
   | map _=>simp[AWb]at hw
   | obj _ _=>simp[AWb]at hw
   | pin _=>simp[AWb]at hw
   | cells o' l' =>
     obtain⟨w1,w2⟩:=hw;obtain⟨cs,T,fz,g1,g2,g3,g4,g5⟩:=this;refine ⟨cs,T,fz,g1,g2,by rw[w2.len];exact g3,fun i z hz=>?_,fun ho=>g5 (w1 ho)⟩;obtain⟨z',hz',hzw⟩:=w2.at i z hz;obtain⟨v,hv,hr⟩:=g4 i z' hz';exact⟨v,hv,AW.ok _ _ _ hzw hr⟩
 | loop ps asg body st pe F =>
   cases y with
   | dead=>simp[AWb]at hw
   | cells _ _=>simp[AWb]at hw
   | map _=>simp[AWb]at hw
   | obj _ _=>simp[AWb]at hw
   | pin _=>simp[AWb]at hw
   | loop ps' asg' body' st' pe' F' =>
     obtain⟨rfl,rfl,rfl,rfl,rfl,w2⟩:=hw;obtain⟨fn,tmps,D,g1,g2⟩:=this;exact⟨fn,tmps,D,g1,AWs.ok _ _ _ w2 g2⟩
 | map es =>
   cases y with
   | dead=>simp[AWb]at hw
   | cells _ _=>simp[AWb]at hw
   | loop _ _ _ _ _ _=>simp[AWb]at hw
   | obj _ _=>simp[AWb]at hw
   | pin _=>simp[AWb]at hw
   | map es' =>
     obtain⟨w1,w2⟩:=hw;obtain⟨ents,cl,g1,gs,g2,g3⟩:=this;have hl:=w1.len;simp at hl;refine ⟨ents,cl,g1,gs,by omega,fun i z e hz he=>?_⟩;obtain⟨k',hk',hkw⟩:=w1.at i z.1 (by rw[qzZ,hz];rfl);obtain⟨v',hv',hvw⟩:=w2.at i z.2 (by rw[qzZ,hz];rfl);rw[qzZ]at hk' hv';cases hx:es'[i]? with
     | none=>rw[hx]at hk';cases hk'
     | some x =>
       rw[hx]at hk' hv';cases hk';cases hv'
       have:=g3 i x e hx he;exact⟨AW.ok _ _ _ hkw this.1,AW.ok _ _ _ hvw this.2⟩
 | obj _ _=>trivial
 | pin l =>
   cases y with
   | dead=>simp[AWb]at hw
   | cells _ _=>simp[AWb]at hw
   | loop _ _ _ _ _ _=>simp[AWb]at hw
   | map _=>simp[AWb]at hw
   | obj _ _=>simp[AWb]at hw
   | pin l' =>
     have w2:AWs rn l l':=hw;obtain⟨h0,cs,T,fz,g1,g4⟩:=this;refine ⟨h0,cs,T,fz,g1,fun i z hz=>?_⟩;obtain⟨z',hz',hzw⟩:=w2.at i z hz;obtain⟨v,hv,hr⟩:=g4 i z' hz';exact⟨v,hv,AW.ok _ _ _ hzw hr⟩
theorem AWb.obj{rn:List Nat}{x y:ABlk}(h:AWb rn x y)(hx:x.isObj=true):y=x:=by
 cases x <;> cases y <;> simp_all [AWb,ABlk.isObj]
def AWh(rn:List Nat)(H:zA):zA->List Nat->Prop
 | [],[]=>True
 | x::xs,b::bs=>AWb rn x (H.getD b .dead)/\b<H.length/\AWh rn H xs bs
 | _,_=>False
theorem AWh.at{rn:List Nat}{H:zA}:∀{xs:zA} {bs:List Nat},AWh rn H xs bs->xs.length=bs.length/\∀(i:Nat) x b,xs[i]? = some x->bs[i]? = some b->∃y,H[b]? = some y/\AWb rn x y
 | [],bs,h=>by cases bs <;> simp_all [AWh]
 | x::xs,bs,h=>by
   cases bs <;> simp only[AWh]at h
   rename_i b bs;obtain⟨h1,h2,h3⟩:=h;obtain⟨g1,g2⟩:=AWh.at h3;refine ⟨by simp[g1],fun i x' b' hx hb=>?_⟩;cases i with
   | zero =>
     simp at hx hb;subst hx;subst hb
     refine ⟨H[b],q3Z h2,?_⟩;rw[q2Z,q3Z h2]at h1;exact h1
   | succ i=>exact g2 i x' b' (by simpa using hx) (by simpa using hb)
def AWg(rn:List Nat)(H:zA):zA->List Nat->Prop
 | [],[]=>True
 | x::xs,b::bs=>(if b<H.length then AWb rn x (H.getD b .dead) else True)/\AWg rn H xs bs
 | _,_=>False
theorem AWg.at{rn:List Nat}{H:zA}:∀{xs:zA} {bs:List Nat},AWg rn H xs bs->xs.length=bs.length/\∀(i:Nat) x b,xs[i]? = some x->bs[i]? = some b->b<H.length->∃y,H[b]? = some y/\AWb rn x y
 | [],bs,h=>by cases bs <;> simp_all [AWg]
 | x::xs,bs,h=>by
   cases bs <;> simp only[AWg]at h
   rename_i b bs;obtain⟨h1,h3⟩:=h;obtain⟨g1,g2⟩:=AWg.at h3;refine ⟨by simp[g1],fun i x' b' hx hb hlt=>?_⟩;cases i with
   | zero =>
     simp at hx hb;subst hx;subst hb
     rw[if_pos hlt]at h1;refine ⟨H[b],q3Z hlt,?_⟩;rw[q2Z,q3Z hlt]at h1;exact h1
   | succ i=>exact g2 i x' b' (by simpa using hx) (by simpa using hb) hlt
theorem AWh.toG{rn:List Nat}{H:zA}:∀{xs:zA} {bs:List Nat},AWh rn H xs bs->AWg rn H xs bs
 | [],bs,h=>by cases bs <;> simp_all [AWh,AWg]
 | x::xs,bs,h=>by
   cases bs <;> simp only[AWh]at h
   obtain⟨h1,h2,h3⟩:=h;exact⟨by rw[if_pos h2];exact h1,h3.toG⟩
structure Weak (n:Nat) (F:List AV) (H:zA) (Fn:List AV) (Hn:zA):Prop where
 rn:∃rn:List Nat,rn.Nodup/\n<=rn.length/\(∀b,b<n->rn[b]? = some b)/\AWs rn Fn F/\AWg rn H Hn rn
theorem Weak.mk'{n:Nat}{F:List AV}{H:zA}{Fn:List AV}{Hn:zA}(rn:List Nat)(h1:rn.Nodup)(h2:rn.take n=List.range n)(h3:AWs rn Fn F)(h4:AWg rn H Hn rn):Weak n F H Fn Hn:=by
 have hl:n<=rn.length:=by
   have:=congrArg List.length h2;simp at this;omega
 refine ⟨rn,h1,hl,fun b hb=>?_,h3,h4⟩;have:(rn.take n)[b]? = (List.range n)[b]?:=by rw[h2]
 rw[r4Z,if_pos hb]at this;rw[this];simp[hb]
theorem Step.ren{n:Nat}{j:Inj}{H Hn:zA}{w:World}(h:R j H w){rn:List Nat}(hnd:rn.Nodup)(hh:AWg rn H Hn rn)(hn:∀b,b<n->rn[b]? = some b)(hln:n<=rn.length):Step n j H w (zEA rn j) Hn w:=by
 obtain⟨hl,hat⟩:=hh.at;have hget:∀b p,zEA rn j b=some p->∃b',rn[b]? = some b'/\j b'=some p:=fun b p hp=>s6Z.1 hp;have hlt:∀b' p,j b'=some p->b'<H.length:=by
   intro b' p hp;rcases s2Z b' H.length with h1 | h1
   · exact h1
   · rw[h.dom b' h1]at hp;cases hp
 refine Step.make h ⟨fun b hb=>?_,fun b x p hb hp=>?_,fun b b' yb x p p' hb hyb hb' hd hne hp hp'=>?_⟩ (fun b hb=>?_) (by omega) (Keeps0.refl _ _ _) fun b x p hb hx hp=>?_
 · rw[zR7,s4Z (show rn.length<=b by omega)];rfl
 · obtain⟨b',h1,h2⟩:=hget b p hp
   obtain⟨y,hy,hw⟩:=hat b x b' hb h1 (hlt b' p h2);exact hw.ok (h.blk b' y p hy h2)
 · obtain⟨c,h1,h2⟩:=hget b p hp
   obtain⟨c',k1,k2⟩:=hget b' p' hp';obtain⟨y,hy,hw⟩:=hat b _ c hb h1 (hlt c p h2);obtain⟨y',hy',hw'⟩:=hat b' _ c' hb' k1 (hlt c' p' k2);have hcc:c≠c':=by
     intro e;subst e;have hlt:b<rn.length:=(q1Z.1 h1).1;exact hne ((List.getElem?_inj hlt hnd).1 (h1.trans k1.symm))
   exact h.inj c c' y y' p p' hy (hw.own hyb) hy' (hw'.nd hd) hcc h2 k2
 · rw[zR7,hn b hb];rfl
 · obtain⟨c,k1,k2⟩:=hget b p hp
   obtain⟨y,hy,hw⟩:=hat b _ c hb k1 (hlt c p k2);have hg:rn.getD b 0=c:=by rw[q2Z,k1];rfl
   exact .inr ⟨c,y,p,hy,hw.nd hx,k2,rfl,hw.own,fun ho=>⟨hw.obj ho,rfl,by show j.foot (rn.getD b 0)=_;rw[hg],by show j.shr (rn.getD b 0)=_;rw[hg]⟩⟩
theorem R.ren{j:Inj}{H Hn:zA}{w:World}(h:R j H w){rn:List Nat}(hnd:rn.Nodup)(hh:AWg rn H Hn rn):R (zEA rn j) Hn w:=(Step.ren (n:=0) h hnd hh (fun b hb=>by omega) (qqZ _)).rel
theorem Weak.step{n m:Nat}{F Fn:List AV}{H Hn H0:zA}{j0 j:Inj}{w0 w:World}(h:Weak n F H Fn Hn)(hm:m<=n)(hs:Step m j0 H0 w0 j H w){vs:List Value}(hF:VRs j F vs) :
   ∃j',Step m j0 H0 w0 j' Hn w/\VRs j' Fn vs:=by
 obtain⟨rn,h1,h2,h3,h4,h5⟩:=h;exact⟨zEA rn j,hs.trans (Step.ren hs.rel h1 h5 h3 h2) hm,AWs.ok _ _ _ h4 hF⟩
theorem Sim.weak{P:Program}{r:Option Nat}{n0:Nat}{c:Code}{F Fn:List AV}{H Hn:zA}{Q:AX->List AV->zA->Prop}(hw:Weak n0 F H Fn Hn)(hn:n0<=H.length)(h:Sim P r n0 c Fn Hn Q):Sim P r n0 c F H Q:=by
 intro B j w a m hB hR hF hd;obtain⟨j',hs,hF'⟩:=hw.step (qnZ _) (Step.refl hR hn) hF;refine wpIn_mono (h B j' w a m hB hs.rel hF' hd) ?_;rintro e a' w' ⟨x,F',H',j2,h1,h2,h3,h4,h5⟩;exact⟨x,F',H',j2,h1,h2,h3,h4,hs.trans h5 (qnZ _)⟩
def zMY(P:Program)(F:List AV)(H:zA):ResultVar->Option AV
 | .tmp t=>some (F.getD t zX)
 | .cell a t=>zHZ P H t (F.getD a zX)
def zEp(P:Program)(F:List AV)(H:zA):List ResultVar->Option (List AV)
 | []=>some []
 | x::xs=>match zMY P F H x,zEp P F H xs with
   | some v,some vs=>some (v::vs)
   | _,_=>none
def zDB(P:Program)(rs:List ResultVar)(F:List AV)(H:zA):Option AV :=
 match zEp P F H rs with
 | some [v]=>some v
 | some vs=>some (.tuple vs)
 | none=>none
theorem zV1{j:Inj}{F:List AV}{tmps:Array Value}(h:VRs j F tmps.toList)(t:Nat):VR j (F.getD t zX) (tmps.getD t undef) :=
 zR (a:={ tmps,defers:=[] }) h (.tmp t)
def zMm(tmps:Array Value):ResultVar->Sem Value
 | .tmp t=>pure (tmps.getD t undef)
 | .cell a t=>do loadVar t (<-asAddr (tmps.getD a undef))
theorem zSq{P:Program}{j:Inj}{F:List AV}{H:zA}{w:World}(hR:R j H w){tmps:Array Value}(hF:VRs j F tmps.toList){x:ResultVar}{v:AV}(h:zMY P F H x=some v) :
   ∃cv,Sem.run P (zMm tmps x) w=.ok cv w/\VR j v cv:=by
 cases x with
 | tmp t=>cases h;exact⟨_,rfl,zV1 hF t⟩
 | cell a t =>
   simp only[zMY]at h;have ha:=zV1 hF a;obtain⟨cv,h1,h2⟩:=zNM hR h ha;refine ⟨cv,?_,h2⟩;unfold Instr.loadAt at h1;have hp:∃b off,F.getD a zX=.ptr b off:=by
     unfold zHZ at h;split at h
     · rename_i b off e;exact⟨b,off,e⟩
     · cases h
   obtain⟨b,off,e⟩:=hp;rw[e]at ha;simp only[VR]at ha;obtain⟨p,hp,hv⟩:=ha;show Sem.run P (do loadVar t (<-asAddr (tmps.getD a undef))) w=_;rw[hv]at h1 ⊢;exact h1
theorem zJP{P:Program}{j:Inj}{F:List AV}{H:zA}{w:World}(hR:R j H w){tmps:Array Value}(hF:VRs j F tmps.toList):∀{xs:List ResultVar} {vs:List AV},zEp P F H xs=some vs ->
   ∃cvs,Sem.run P (xs.mapM (zMm tmps)) w=.ok cvs w/\VRs j vs cvs
 | [],vs,h=>by cases h;exact⟨[],rfl,rfl⟩
 | x::xs,vs,h=>by
   unfold zEp at h;split at h
   · rename_i v vs' h1 h2
     cases h;obtain⟨cv,g1,g2⟩:=zSq hR hF h1;obtain⟨cvs,k1,k2⟩:=zJP hR hF h2;refine ⟨cv::cvs,?_,cv,cvs,rfl,g2,k2⟩;rw[List.mapM_cons,rb g1,rb k1];rfl
   · cases h
theorem zXo{P:Program}{j:Inj}{F:List AV}{H:zA}{w:World}(hR:R j H w){tmps:Array Value}(hF:VRs j F tmps.toList){fn:Func}{v:AV}(h:zDB P fn.results.toList F H=some v) :
   ∃cv,(results fn tmps).run P w=.ok cv w/\VR j v cv:=by
 have run:∀vs,zEp P F H fn.results.toList=some vs->∃cvs,VRs j vs cvs/\(results fn tmps).run P w=.ok (if h:cvs.toArray.size=1 then cvs.toArray[0] else .tuple cvs.toArray) w:=by
   intro vs hvs;obtain⟨cvs,h1,h2⟩:=zJP hR hF hvs;refine ⟨cvs,h2,?_⟩;show Sem.run P (fn.results.mapM (zMm tmps) >>= fun vs=>pure (if h:vs.size=1 then vs[0] else .tuple vs)) w=_;have e:Sem.run P (fn.results.mapM (zMm tmps)) w=.ok cvs.toArray w:=by
     rw[Array.mapM_eq_mapM_toList];show Sem.run P (List.toArray <$> fn.results.toList.mapM _) w=_;rw[map_eq_pure_bind,rb h1];rfl
   rw[rb e];rfl
 unfold zDB at h;split at h
 · rename_i v' hv
   cases h;obtain⟨cvs,h1,h2⟩:=run _ hv;simp only[VRs]at h1;obtain⟨c,ws,rfl,h3,rfl⟩:=h1;exact⟨c,by rw[h2];rfl,h3⟩
 · rename_i vs hne hv
   cases h;obtain⟨cvs,h1,h2⟩:=run _ hv;refine ⟨.tuple cvs.toArray,?_,cvs.toArray,rfl,by simpa using h1⟩;rw[h2,dif_neg];have hl:=h1.length;simp;rw[<-hl];intro e1
   match vs,e1 with
   | [x],_=>exact hne x rfl
 · cases h
def zVI:List Nat->World->World
 | [],w=>w
 | D::Ds,w=>zVI Ds (w.putObj D (.deferred none))
theorem zKy{n:Nat}{j0 j:Inj}{H0 H:zA}{w0:World}(hg0:gsz<=w0.heap.size):∀(Ds:List Nat) (w:World),Step n j0 H0 w0 j H w->Ds.Nodup->(∀D∈Ds,w0.heap.size<=D/\w.heap[D]? = some (.deferred (some [])))->Step n j0 H0 w0 j H (zVI Ds w)
 | [],w,hs,_,_=>hs
 | D::Ds,w,hs,hn,hd=>by
   obtain⟨hd1,hd2⟩:=hd D (qhZ);refine zKy hg0 Ds _ ?_ (rdZ.1 hn).2 fun D' hD'=>?_
   · refine ⟨hs.rel.same_on (by simp) (fun u hu=>World.putObj_heap_other (by omega)) fun u hu=>World.putObj_heap_other ?_,hs.ext,hs.len,⟨hs.keeps.os,hs.keeps.tape,hs.keeps.output,by simpa using hs.keeps.size,fun c hc ho=>?_⟩,hs.fresh,hs.tch⟩
     · rintro rfl
       obtain⟨o,g1,g2⟩:=hs.rel.nd hu;rw[g1]at hd2;cases hd2;exact g2 _ rfl
     · rw[World.putObj_heap_other (by omega)];exact hs.keeps.block c hc ho
   · refine ⟨(hd D' (qiZ _ hD')).1,?_⟩
     rw[World.putObj_heap_other (show D'≠D from fun e=>(rdZ.1 hn).1 (by rw[<-e];exact hD'))];exact (hd D' (qiZ _ hD')).2
theorem zHf{F:Fence}{n:Nat}{P:Program}{fn:Func}{tmps:Array Value}{R:Ending->World->Prop}:∀(Ds:List Nat) (w:World),Ds.Nodup->(∀D∈Ds,w.heap[D]? = some (.deferred (some []))) ->
   (∃v,(results fn tmps).run P (zVI Ds w)=.ok v (zVI Ds w)/\R (.returned v) (zVI Ds w))->LeavesInM F n P fn tmps R (Ds.map zGM) .returning w
 | [],w,_,_,h=>h
 | D::Ds,w,hn,hd,h=>by
   refine ⟨by simp,.inl ⟨D,w.putObj D (.deferred none),rfl,run_takeDeferred (hd D (qhZ)),?_⟩⟩;refine zHf Ds _ (rdZ.1 hn).2 (fun D' hD'=>?_) h;rw[World.putObj_heap_other (show D'≠D from fun e=>(rdZ.1 hn).1 (by rw[<-e];exact hD'))];exact hd D' (qiZ _ hD')
theorem zFv{P:Program}{fn:Func}{F1:List AV}{H H1:zA}{v1:AV}{j j':Inj}{w w':World}{a':Act}{n:Nat}{x:AX}(hg0:gsz<=w.heap.size)(hx:x=.normal\/x=.ret)(hv1:zDB P fn.results.toList F1 H1=some v1)(h3:VRs j' F1 a'.tmps.toList)(h4:DefOk w.heap.size w' a'.defers)
   (h5:Step H.length j H w j' H1 w') {R:Ending->World->Prop} (hR:∀cv w2,VR j' v1 cv->Step H.length j H w j' H1 w2->R (.returned cv) w2):bodyPostM (FW none) n P fn R (AX.toExit x) a' w':=by
 obtain⟨Ds,e,hn,hd⟩:=h4;have hs:=zKy hg0 Ds w' h5 hn hd;obtain⟨cv,g1,g2⟩:=zXo hs.rel h3 hv1;have:=zHf (F:=FW none) (n:=n) (P:=P) (fn:=fn) (tmps:=a'.tmps) (R:=R) Ds w' hn (fun D hD=>(hd D hD).2) ⟨cv,g1,hR cv _ g2 hs⟩;rcases hx with rfl | rfl
 · show LeavesInM (FW none) n P fn a'.tmps R a'.defers .returning w'
   rw[e];exact this
 · show LeavesInM (FW none) n P fn a'.tmps R a'.defers .returning w'
   rw[e];exact this
theorem zE{P:Program}{f:FuncId}{fn:Func}{c:Code}(hf:P.funcs[f]? = some fn)(hb:fn.body=some c){args:List AV}{H H':zA}{v:AV}
   (h:Sim P none H.length c (args++qbZ (fn.ntmps-args.length) zX) H fun x F1 H1=>(x=.normal\/x=.ret)/\∃v1,zDB P fn.results.toList F1 H1=some v1/\Weak H.length [v1] H1 [v] H'):Ct P f args H v H':=by
 intro j w cargs hR hargs;refine (callsIn_wide (n:=0)).1 ?_;refine callsIn_of_wp_marks hf hb trivial ?_ rfl;have hl:=hargs.length;have hF:VRs j (args++qbZ (fn.ntmps-args.length) zX) (cargs++Array.replicate (fn.ntmps-cargs.size) undef).toList:=by
   rw[rxZ,Array.toList_replicate,hl,rjZ];exact hargs.append (VRs.replicate (v:=undef) (show VR j zX undef from ⟨#[],rfl,rfl⟩) _)
 refine wpIn_mono (h w.heap.size j w { tmps:=cargs++Array.replicate (fn.ntmps-cargs.size) undef,defers:=[] } 0 (qnZ _) hR hF (DefOk.nil _ _)) ?_;rintro e a' w' ⟨x,F',H1,j',rfl,⟨hx,v1,hv1,hw⟩,h3,h4,h5⟩;refine zFv hR.glo.1.2 hx hv1 h3 h4 h5 fun cv w2 g2 hs=>?_;obtain⟨j2,k1,k2⟩:=hw.step (qnZ _) hs (vs:=[cv]) ⟨cv,[],rfl,g2,rfl⟩;simp only[VRs]at k2;obtain⟨_,_,e,k3,_⟩:=k2;cases e;exact⟨cv,j2,rfl,k3,k1⟩
section
def zKk(P:Program)(Γ:Gam)(n:Nat)(fn:Func)(args:List AV)(H:zA):Option (AV×zA) :=
 match fn.body with
 | none=>none
 | some c =>
   match zK P Γ n true c (args++qbZ (fn.ntmps-args.length) zX) H with
   | some (.ret,F',H')=>(zDB P fn.results.toList F' H').map (·,H')
   | some (.normal,F',H')=>(zDB P fn.results.toList F' H').map (·,H')
   | _=>none
theorem zL0{P:Program}{Γ:Gam}(hm:P.follows .mixedOrders=true)(hΓ:GOk P Γ){n:Nat}{f:FuncId}{fn:Func}(hf:P.funcs[f]? = some fn){args:List AV}{H H1 H':zA}{v1 v:AV}(h:zKk P Γ n fn args H=some (v1,H1))(hw:Weak H.length [v1] H1 [v] H') :
   Ct P f args H v H':=by
 unfold zKk at h;split at h
 · cases h
 rename_i c hc;refine zE hf hc ?_;split at h
 · rename_i F' H2 hr
   obtain⟨v2,hv,e⟩:=qlZ.1 h;cases e;exact Sim.exec hm hΓ hr (qnZ _) ⟨.inr rfl,_,hv,hw⟩
 · rename_i F' H2 hr
   obtain⟨v2,hv,e⟩:=qlZ.1 h;cases e;exact Sim.exec hm hΓ hr (qnZ _) ⟨.inl rfl,_,hv,hw⟩
 · cases h
abbrev zJ:=List AV->zA->Option (AV×zA×List Nat)
def gam:List (FuncId×zJ)->Gam
 | [],_,_,_=>none
 | (g,s)::l,f,args,H=>if f=g then s args H else gam l f args H
def Zt(g:List AV->Option AV):zJ:=fun args H=>match g args with
 | some v=>some (v,H,[])
 | none=>none
theorem zU{P:Program}{f:FuncId}{g:List AV->Option AV}(he:∀cargs w,(callFunc f cargs).run P w=.ok (.enter f cargs) w)
   (h:∀args v,g args=some v->Ct P f args [] v []/\zV args=true/\free v=true):Sound P f (Zt g):=by
 refine ⟨he,fun args H v H' W hs=>?_,fun args H v H' W hs=>?_⟩ <;> (unfold Zt at hs;split at hs <;> cases hs)
 · rename_i v hg
   obtain⟨h1,h2,h3⟩:=h args _ hg;exact zXM h1 h2 h3
 · exact⟨qnZ _,fun _ _ _=>rfl⟩
def ZS(g:List AV->zA->Option AV):zJ:=fun args H=>match g args H with
 | some v=>some (v,H,[])
 | none=>none
theorem Zm{P:Program}{f:FuncId}{g:List AV->zA->Option AV}(he:∀cargs w,(callFunc f cargs).run P w=.ok (.enter f cargs) w)
   (h:∀args H v,g args H=some v->Ct P f args H v H):Sound P f (ZS g):=by
 refine ⟨he,fun args H v H' W hs=>?_,fun args H v H' W hs=>?_⟩ <;> (unfold ZS at hs;split at hs <;> cases hs)
 · rename_i v hg
   exact h args _ _ hg
 · exact⟨qnZ _,fun _ _ _=>rfl⟩
mutual
theorem AW.refl(rn:List Nat):∀x,free x=true->AW rn x x
 | .top,_=>by simp[AW]
 | .bool b,_=>by simp[AW]
 | .int k n,_=>by simp[AW]
 | .str s,_=>by simp[AW]
 | .ptr b o,hf=>by simp[Go.Proofs.YtfhidaoiofeooaaGreatDoor.free]at hf
 | .nilp,_=>by simp[AW]
 | .slice ..,hf=>by simp[Go.Proofs.YtfhidaoiofeooaaGreatDoor.free]at hf
 | .sl ..,hf=>by simp[Go.Proofs.YtfhidaoiofeooaaGreatDoor.free]at hf
 | .nils,_=>by simp[AW]
 | .map _,hf=>by simp[Go.Proofs.YtfhidaoiofeooaaGreatDoor.free]at hf
 | .nilm,_=>by simp[AW]
 | .func f xs ys,hf=>by
   simp[Go.Proofs.YtfhidaoiofeooaaGreatDoor.free]at hf;simp only[AW];exact⟨trivial,AWs.refl rn xs hf.1,AWs.refl rn ys hf.2⟩
 | .yld _,hf=>by simp[Go.Proofs.YtfhidaoiofeooaaGreatDoor.free]at hf
 | .nilf,_=>by simp[AW]
 | .agg l,hf=>by
   simp[Go.Proofs.YtfhidaoiofeooaaGreatDoor.free]at hf;simp only[AW];exact AWs.refl rn l hf
 | .tuple l,hf=>by
   simp[Go.Proofs.YtfhidaoiofeooaaGreatDoor.free]at hf;simp only[AW];exact AWs.refl rn l hf
theorem AWs.refl(rn:List Nat):∀xs,zV xs=true->AWs rn xs xs
 | [],_=>by simp[AWs]
 | x::xs,hf=>by
   simp[zV]at hf;exact⟨AW.refl rn x hf.1,AWs.refl rn xs hf.2⟩
end
theorem zGs{v:AV}{H:zA}(h:free v=true):Weak 0 [v] H [v] [] :=
 ⟨[],by simp,qnZ _,fun b hb=>by omega,⟨AW.refl [] v h,trivial⟩,trivial⟩
theorem Sim.loopW{P:Program}{r:Option Nat}{n0:Nat}{x:Code}{Q:AX->List AV->zA->Prop}{σ:Type}(I:σ->Prop)(Fs:σ->List AV)(Hs:σ->zA)(μ:σ->Nat)(s0:σ){F:List AV}{H:zA}(hn:n0<=H.length)(hI:I s0)(h0:Weak n0 F H (Fs s0) (Hs s0))
   (round:∀s,I s->Sim P r n0 x (Fs s) (Hs s) fun e F' H'=>match e with | .normal=>∃s',I s'/\Weak n0 F' H' (Fs s') (Hs s')/\μ s'<μ s | e=>Q e F' H'):Sim P r n0 (.loop x) F H Q:=by
 refine Sim.loop (fun s F H=>I s/\Weak n0 F H (Fs s) (Hs s)) μ s0 hn ⟨hI,h0⟩ fun s F H hn ⟨hi,hw⟩=>?_;refine Sim.weak hw hn ((round s hi).mono fun e F' H' _ hq=>?_);cases e with
 | normal =>
   obtain⟨s',h1,h2,h3⟩:=hq;exact⟨s',⟨h1,h2⟩,h3⟩
 | exit id=>exact hq
 | ret=>exact hq
theorem Sim.step{P:Program}{Γ:Gam}(hm:P.follows .mixedOrders=true)(hΓ:GOk P Γ){r:Option Nat}{n0 n:Nat}{x y:Code}{F F':List AV}{H H':zA}{Q:AX->List AV->zA->Prop}(h:zK P Γ n r.isNone x F H=some (.normal,F',H'))(hn:n0<=H.length)(k:Sim P r n0 y F' H' Q):Sim P r n0 (.seq x y) F H Q :=
 Sim.seq (Sim.exec hm hΓ h hn k)
@[simp] theorem zC0{rn:List Nat}{xs:List AV}(h:zV xs=true):AWs rn xs xs↔True:=⟨fun _=>trivial,fun _=>AWs.refl rn xs h⟩
theorem frees_iff:∀{xs:List AV},zV xs=true↔∀x∈xs,free x=true
 | []=>by simp[zV]
 | x::xs=>by simp[zV,frees_iff (xs:=xs)]
theorem ZO{α:Type}(l:List α)(f:α->AV)(h:∀x,free (f x)=true):zV (l.map f)=true:=by
 rw[frees_iff];intro x hx;obtain⟨a,_,rfl⟩:=reZ.1 hx;exact h a
@[simp] theorem zaC:free .top=true:=rfl
@[simp] theorem zZo(b:Bool):free (.bool b)=true:=rfl
@[simp] theorem zZy(k:IntKind)(n:Int):free (.int k n)=true:=rfl
@[simp] theorem zZs(s:List UInt8):free (.str s)=true:=rfl
@[simp] theorem zZf:free .nilp=true:=rfl
@[simp] theorem zZn:free .nils=true:=rfl
@[simp] theorem zZk:free .nilm=true:=rfl
@[simp] theorem zZb:free .nilf=true:=rfl
@[simp] theorem zZp(l:List AV):free (.agg l)=zV l:=rfl
@[simp] theorem zZH(l:List AV):free (.tuple l)=zV l:=rfl
@[simp] theorem zZd(f:Nat)(xs ys:List AV):free (.func f xs ys)=(zV xs&&zV ys):=rfl
@[simp] theorem zZe:zV []=true:=rfl
@[simp] theorem zFK(x:AV)(xs:List AV):zV (x::xs)=(free x&&zV xs):=rfl
def aW(n:Nat):AV:=.int .u32 n
def aB(n:Nat):AV:=.int .u8 n
def aU(n:Nat):AV:=.int .u64 n
@[simp] theorem zaL(n:Nat):free (aW n)=true:=rfl
@[simp] theorem zaO(n:Nat):free (aB n)=true:=rfl
@[simp] theorem zaH(n:Nat):free (aU n)=true:=rfl
@[simp] theorem zYM(s:List UInt8):zV (zAd s)=true:=ZO s _ fun _=>rfl
theorem zF7{a b:Int}(h:0<=a):a.tdiv b=a / b:=Int.tdiv_eq_ediv_of_nonneg h
theorem zDT{a b:Int}(h:0<=a):a.tmod b=a % b:=rrZ h
theorem zEV{n:Int}(h0:0<=n)(h:n<=4294967295):IntKind.u32.wrap n=n:=by rw[IntKind.wrap_u32];omega
theorem zIr{n:Int}(h0:0<=n)(h:n<=18446744073709551615):IntKind.u64.wrap n=n:=by rw[IntKind.wrap_u64];omega
theorem zCw{n:Int}(h0:0<=n)(h:n<=255):IntKind.u8.wrap n=n:=by rw[IntKind.wrap_u8];omega
theorem zI{n:Int}(h0 : -9223372036854775808<=n)(h:n<=9223372036854775807):IntKind.i64.wrap n=n:=IntWalk.i64_in n (by omega)
attribute [simp] zK zy opA zAu ev ofV zNl zAk Zu zXt zY7 zYm zYz zX unA zRo zNo zXC zWU zSD zFe zJv zHZ zVS zAT zHA zAN ZG zNe zMI zCR zAZ Zi zIc zGF Zb zDY zv Zd zO3 zAx zDC zLy zH6 zIa zDB zEp zMY zEP zRU zaU eqA gam Zt ZS zKk aloop zc zq zEI qop zQ zDP zAo zHr IntKind.bits AW AWs AWb AWh AWg zBQ zIH zJT zk zH2 zBT zEc zIJ zHu zH9 zNd zFi zAL zA8 zF0 zDu zR1 zXI zBS Zz zDN zJK scC
end
section
mutual
def zAm:AV->AV->Bool
 | .top,.top=>true
 | .bool a,.bool b=>a==b
 | .int k n,.int k' n'=>k==k'&&n==n'
 | .str s,.str s'=>s==s'
 | .ptr b o,.ptr b' o'=>b==b'&&o==o'
 | .nilp,.nilp=>true
 | .slice b o l sz c,.slice b' o' l' sz' c'=>b==b'&&o==o'&&l==l'&&sz==sz'&&c==c'
 | .sl b o l sz c,.sl b' o' l' sz' c'=>b==b'&&o==o'&&l==l'&&sz==sz'&&c==c'
 | .nils,.nils=>true
 | .map b,.map b'=>b==b'
 | .nilm,.nilm=>true
 | .func f xs ys,.func f' xs' ys'=>f==f'&&zBd xs xs'&&zBd ys ys'
 | .yld b,.yld b'=>b==b'
 | .nilf,.nilf=>true
 | .agg l,.agg l'=>zBd l l'
 | .tuple l,.tuple l'=>zBd l l'
 | _,_=>false
def zBd:List AV->List AV->Bool
 | [],[]=>true
 | x::xs,y::ys=>zAm x y&&zBd xs ys
 | _,_=>false
end
mutual
theorem zWq:∀{x y:AV},zAm x y=true->x=y
 | .top,y,h=>by cases y <;> simp_all [zAm]
 | .bool b,y,h=>by cases y <;> simp_all [zAm]
 | .int k n,y,h=>by cases y <;> simp_all [zAm]
 | .str s,y,h=>by cases y <;> simp_all [zAm]
 | .ptr b o,y,h=>by cases y <;> simp_all [zAm]
 | .nilp,y,h=>by cases y <;> simp_all [zAm]
 | .slice b o l sz c,y,h=>by cases y <;> simp_all [zAm]
 | .sl b o l sz c,y,h=>by cases y <;> simp_all [zAm]
 | .nils,y,h=>by cases y <;> simp_all [zAm]
 | .map b,y,h=>by cases y <;> simp_all [zAm]
 | .nilm,y,h=>by cases y <;> simp_all [zAm]
 | .func f xs ys,y,h=>by
   cases y <;> simp only[zAm,qsZ]at h
   simp only[qrZ,beq_iff_eq]at h;rw[h.1.1,zAJ h.1.2,zAJ h.2]
 | .yld b,y,h=>by cases y <;> simp_all [zAm]
 | .nilf,y,h=>by cases y <;> simp_all [zAm]
 | .agg l,y,h=>by
   cases y <;> simp only[zAm,qsZ]at h
   rw[zAJ h]
 | .tuple l,y,h=>by
   cases y <;> simp only[zAm,qsZ]at h
   rw[zAJ h]
theorem zAJ:∀{xs ys:List AV},zBd xs ys=true->xs=ys
 | [],ys,h=>by cases ys <;> simp_all [zBd]
 | x::xs,ys,h=>by
   cases ys <;> simp only[zBd,qsZ]at h
   simp only[qrZ]at h;rw[zWq h.1,zAJ h.2]
end
mutual
theorem zLG:∀(x:AV),zAm x x=true
 | .top | .nilp | .nils | .nilm | .nilf=>rfl
 | .bool b=>by simp[zAm]
 | .int k n=>by simp[zAm]
 | .str s=>by simp[zAm]
 | .ptr b o=>by simp[zAm]
 | .slice b o l sz c=>by simp[zAm]
 | .sl b o l sz c=>by simp[zAm]
 | .map b=>by simp[zAm]
 | .func f xs ys=>by simp[zAm,zBJ xs,zBJ ys]
 | .yld b=>by simp[zAm]
 | .agg l=>by simp[zAm,zBJ l]
 | .tuple l=>by simp[zAm,zBJ l]
theorem zBJ:∀(xs:List AV),zBd xs xs=true
 | []=>rfl
 | x::xs=>by simp[zBd,zLG x,zBJ xs]
end
attribute [simp] zLG zBJ
def ZN:ABlk->ABlk->Bool
 | .dead,.dead=>true
 | .cells o l,.cells o' l'=>o==o'&&zBd l l'
 | .map es,.map es'=>zBd (es.map (·.1)) (es'.map (·.1))&&zBd (es.map (·.2)) (es'.map (·.2))
 | .pin l,.pin l'=>zBd l l'
 | .obj false [.cells true l],.obj false [.cells true l']=>zBd l l'
 | _,_=>false
def heapEq:zA->zA->Bool
 | [],[]=>true
 | x::xs,y::ys=>ZN x y&&heapEq xs ys
 | _,_=>false
theorem zOY:∀{es es':List (AV×AV)},es.map (·.1)=es'.map (·.1)->es.map (·.2)=es'.map (·.2)->es=es'
 | [],[],_,_=>rfl
 | (a,b)::es,(c,d)::es',h1,h2=>by
   simp only[s1Z,List.cons.injEq]at h1 h2;rw[h1.1,h2.1,zOY h1.2 h2.2]
 | [],_::_,h,_=>by simp at h
 | _::_,[],h,_=>by simp at h
theorem zIv{x y:ABlk}(h:ZN x y=true):x=y:=by
 unfold ZN at h;split at h
 · rfl
 · simp only[qrZ,beq_iff_eq]at h
   rw[h.1,zAJ h.2]
 · simp only[qrZ]at h
   rw[zOY (zAJ h.1) (zAJ h.2)]
 · rw[zAJ h]
 · rw[zAJ h]
 · cases h
attribute [simp] heapEq
def zZ8(args0:List AV)(H0:zA)(v:AV)(H1:zA)(W:List Nat):zJ:=fun args H=>if zBd args args0&&heapEq H H0 then some (v,H1,W) else none
def zZ:List (FuncId×zJ)->Gam
 | [],_,_,_=>none
 | (g,s)::l,f,args,H=>if f=g then (match s args H with | some r=>some r | none=>zZ l f args H) else zZ l f args H
theorem zC{P:Program}:GOk P (zZ []):=⟨fun _ _ ⟨_,_,_,h⟩=>by simp[zZ]at h,fun _ _ _ _ _ _ h=>by simp[zZ]at h⟩
theorem zB{P:Program}{g:FuncId}{s:zJ}{l:List (FuncId×zJ)}(h:Sound P g s)(hl:GOk P (zZ l))(hg:g≠yl:=by decide):GOk P (zZ ((g,s)::l)):=by
 refine ⟨fun f hne hf=>?_,?_⟩
 · by_cases e:f=g
   · subst e
     refine ⟨h.enter,fun args H v H' W hs=>?_,fun args H v H' W hs=>?_⟩ <;> (simp only[zZ,if_true]at hs;split at hs)
     · rename_i r hr
       cases hs;exact h.ct _ _ _ _ _ hr
     · exact (hl.1 f hne ⟨_,_,_,hs⟩).ct _ _ _ _ _ hs
     · rename_i r hr
       cases hs;exact h.keep _ _ _ _ _ hr
     · exact (hl.1 f hne ⟨_,_,_,hs⟩).keep _ _ _ _ _ hs
   · have:zZ ((g,s)::l) f=zZ l f:=by funext args H;simp[zZ,e]
     rw[this]at hf ⊢;exact hl.1 f hne hf
 · have:zZ ((g,s)::l) yl=zZ l yl:=by funext args H;simp only[zZ];rw[if_neg (Ne.symm hg)]
   rw[this];exact hl.2
mutual
def zC3(wd:List (Nat×Nat)):AV->AV->Prop
 | .slice i 0 n sz false,.slice b off n' sz' _=>wd[i]? = some (b,off)/\n=n'/\sz=sz'
 | .sl i 0 n sz false,.slice b off n' sz' _=>wd[i]? = some (b,off)/\n=n'/\sz=sz'
 | .sl i 0 n sz false,.sl b off n' sz' _=>wd[i]? = some (b,off)/\n=n'/\sz=sz'
 | .sl _ 0 n _ false,.nils=>n=0
 | .agg xs,.agg ys=>zBn wd xs ys
 | x,y=>x=y/\free x=true
def zBn(wd:List (Nat×Nat)):List AV->List AV->Prop
 | [],[]=>True
 | x::xs,y::ys=>zC3 wd x y/\zBn wd xs ys
 | _,_=>False
end
mutual
theorem zXY{wd:List (Nat×Nat)}{j j0:Inj}(hj:∀i b off p,wd[i]? = some (b,off)->j b=some p->j0 i=some ⟨p.blk,p.base+off,p.size⟩):∀(x y:AV) (v:Value),zC3 wd x y->VR j y v->VR j0 x v
 | x,y,v,hw,h1=>by
   unfold zC3 at hw;split at hw
   · rename_i i n sz b off n' sz' c
     obtain⟨w1,rfl,rfl⟩:=hw;simp only[VR]at h1 ⊢;obtain⟨p,a,cap,hp,e1,e2,e3,e4,e5⟩:=h1;refine ⟨⟨p.blk,p.base+off,p.size⟩,a,cap,hj _ _ _ _ w1 hp,e1,e2,(fun hh=>by cases hh),e4,?_⟩;rcases e5 with e5 | ⟨e5,e6⟩
     · exact .inl e5
     · exact .inr ⟨by rw[e5];simp,by simpa using e6⟩
   · rename_i i n sz b off n' sz' c
     obtain⟨w1,rfl,rfl⟩:=hw;simp only[VR]at h1 ⊢;obtain⟨p,a,cap,hp,e1,e2,e3,e4,e5⟩:=h1;refine .inr ⟨⟨p.blk,p.base+off,p.size⟩,a,cap,hj _ _ _ _ w1 hp,e1,e2,(fun hh=>by cases hh),e4,?_⟩;rcases e5 with e5 | ⟨e5,e6⟩
     · exact .inl e5
     · exact .inr ⟨by rw[e5];simp,by simpa using e6⟩
   · rename_i i n sz b off n' sz' c
     obtain⟨w1,rfl,rfl⟩:=hw;simp only[VR]at h1 ⊢;rcases h1 with h1 | ⟨p,a,cap,hp,e1,e2,e3,e4,e5⟩
     · exact .inl h1
     refine .inr ⟨⟨p.blk,p.base+off,p.size⟩,a,cap,hj _ _ _ _ w1 hp,e1,e2,(fun hh=>by cases hh),e4,?_⟩;rcases e5 with e5 | ⟨e5,e6⟩
     · exact .inl e5
     · exact .inr ⟨by rw[e5];simp,by simpa using e6⟩
   · subst hw
     simp only[VR]at h1 ⊢;exact .inl ⟨trivial,h1⟩
   · rename_i xs ys
     simp only[VR]at h1 ⊢;obtain⟨cs,e,g⟩:=h1;exact⟨cs,e,zF5 hj xs ys _ hw g⟩
   · obtain⟨rfl,hf⟩:=hw
     exact VR.free _ _ hf h1
theorem zF5{wd:List (Nat×Nat)}{j j0:Inj}(hj:∀i b off p,wd[i]? = some (b,off)->j b=some p->j0 i=some ⟨p.blk,p.base+off,p.size⟩):∀(xs ys:List AV) (vs:List Value),zBn wd xs ys->VRs j ys vs->VRs j0 xs vs
 | [],ys,vs,h,hv=>by cases ys <;> simp_all [zBn,VRs]
 | x::xs,ys,vs,h,hv=>by
   cases ys with
   | nil=>simp[zBn]at h
   | cons y ys =>
     simp only[zBn]at h;simp only[VRs]at hv ⊢;obtain⟨u,us,e,h1,h2⟩:=hv;exact⟨u,us,e,zXY hj x y u h.1 h1,zF5 hj xs ys us h.2 h2⟩
end
def winH(H:zA):zA->List (Nat×Nat)->Prop
 | [],[]=>True
 | .cells false l0::xs,(b,off)::wd=>(match H[b]? with | some (.cells _ l)=>off+l0.length<=l.length/\l0=(l.drop off).take l0.length | none=>True | _=>False)/\zV l0=true/\winH H xs wd
 | _,_=>False
theorem winH.at{H:zA}:∀{xs:zA} {wd:List (Nat×Nat)},winH H xs wd->xs.length=wd.length/\∀(i:Nat) x b off,xs[i]? = some x->wd[i]? = some (b,off) ->
   (∃l0,x=.cells false l0)/\∀y,H[b]? = some y->∃l0 o l,x=.cells false l0/\H[b]? = some (.cells o l)/\off+l0.length<=l.length/\l0=(l.drop off).take l0.length/\zV l0=true
 | [],wd,h=>by cases wd <;> simp_all [winH]
 | .dead::xs,wd,h=>by simp[winH]at h
 | .cells true l0::xs,wd,h=>by simp[winH]at h
 | .loop _ _ _ _ _ _::xs,wd,h=>by simp[winH]at h
 | .map _::xs,wd,h=>by simp[winH]at h
 | .pin _::xs,wd,h=>by simp[winH]at h
 | .cells false l0::xs,[],h=>by simp[winH]at h
 | .cells false l0::xs,(b,off)::wd,h=>by
   simp only[winH]at h;obtain⟨h1,h2,h3⟩:=h;obtain⟨g1,g2⟩:=winH.at h3;refine ⟨by simp[g1],fun i x b' off' hx hb=>?_⟩;cases i with
   | zero =>
     simp at hx hb;obtain⟨rfl,rfl⟩:=hb;subst hx;refine ⟨⟨l0,rfl⟩,fun y hy=>?_⟩;split at h1
     · rename_i o l hl
       exact⟨l0,o,l,rfl,hl,h1.1,h1.2,h2⟩
     · rename_i hn;rw[hn]at hy;cases hy
     · exact h1.elim
   | succ i=>exact g2 i x b' off' (by simpa using hx) (by simpa using hb)
theorem zIu{P:Program}{f:FuncId}{args0 args:List AV}{H0 H:zA}{v:AV}(h:Ct P f args0 H0 v H0)(hv:free v=true)(wd:List (Nat×Nat))(ha:zBn wd args0 args)(hH:winH H H0 wd):Ct P f args H v H:=by
 intro j w cargs hR hargs;obtain⟨hl,hat⟩:=hH.at
 let j0:Inj:=⟨fun i=>match wd[i]? with
   | some (b,off)=>(j b).map fun p=>⟨p.blk,p.base+off,p.size⟩
   | none=>none,fun _=>[],fun _=>[]⟩
 have hj0:∀i p,j0 i=some p->∃b off q,wd[i]? = some (b,off)/\j b=some q/\p=⟨q.blk,q.base+off,q.size⟩:=by
   intro i p hp;simp only[j0]at hp;split at hp
   · rename_i b off e
     obtain⟨q,hq,rfl⟩:=qlZ.1 hp;exact⟨b,off,q,e,hq,rfl⟩
   · cases hp
 have hro:H0.all zHr=true:=by
   rw[s5Z];intro x hx;obtain⟨i,hi⟩:=List.getElem?_of_mem hx;have hil:i<wd.length:=by rw[<-hl];exact (q1Z.1 hi).1
   obtain⟨⟨l0,rfl⟩,_⟩:=hat i x _ _ hi (q3Z hil);rfl
 have hR0:R j0 H0 w:=by
   refine R.ro (fun b hb=>?_) (fun i x p hx hp=>?_) hro hR.glo.1
   · simp only[j0]
     rw[s4Z (show wd.length<=b by omega)]
   · obtain⟨b,off,q,h1,h2,rfl⟩:=hj0 i p hp
     obtain⟨y0,hy0⟩:=hR.live h2;obtain⟨l0,o,l,rfl,hb,h3,h4,h5⟩:=(hat i x b off hx h1).2 y0 hy0;obtain⟨cs,T,fz,g1,g2,g3,g4,g5⟩:=hR.blk b _ q hb h2;refine ⟨cs,T,fz,g1,g2,by dsimp only;omega,fun k z hz=>?_,fun ho=>by cases ho⟩;rw[h4,r4Z]at hz;split at hz
     · rw[r5Z]at hz
       obtain⟨v',hv',hr⟩:=g4 _ z hz;refine ⟨v',by dsimp only;rw[show q.base+off+k=q.base+(off+k) by omega];exact hv',?_⟩;refine VR.free z v' ?_ hr;refine frees_iff.1 h5 z ?_;rw[h4];refine qcZ (i:=k) ?_;rw[r4Z,if_pos ‹_›,r5Z];exact hz
     · cases hz
 have hargs0:∀(xs ys:List AV) (vs:List Value),zBn wd xs ys->VRs j ys vs->VRs j0 xs vs:=zF5 fun i b off p h1 h2=>by simp only[j0,h1,h2,rhZ]
 refine (h j0 w cargs hR0 (hargs0 _ _ _ ha hargs)).mono ?_;rintro e w' ⟨cv,j',rfl,h1,h2⟩;exact⟨cv,j,rfl,VR.free v cv hv h1,h2.forget hR hro (qnZ _)⟩
def zA6(k:IntKind):List AV->Option (List Nat)
 | []=>some []
 | .int k' n::xs=>if k'=k/\0<=n then (zA6 k xs).map (n.toNat::·) else none
 | _=>none
theorem zEi{k:IntKind}:∀{xs:List AV} {l:List Nat},zA6 k xs=some l->xs=l.map fun n:Nat=>.int k (n:Int)
 | [],l,h=>by cases h;rfl
 | x::xs,l,h=>by
   unfold zA6 at h;split at h
   · cases ‹_=[]›
   · rename_i k' n ys e
     cases e;split at h
     · rename_i hc
       obtain⟨rfl,hn⟩:=hc;obtain⟨l',hl',rfl⟩:=qlZ.1 h;rw[zEi hl'];simp only[s1Z]
       congr 2
       omega
     · cases h
   · cases h
def ZY:List AV->Option (List (List UInt8))
 | []=>some []
 | .str s::xs=>(ZY xs).map (s::·)
 | _=>none
theorem zB2:∀{xs:List AV} {l:List (List UInt8)},ZY xs=some l->xs=l.map .str
 | [],l,h=>by cases h;rfl
 | x::xs,l,h=>by
   unfold ZY at h;split at h
   · cases ‹_=[]›
   · rename_i s ys e
     cases e;obtain⟨l',hl',rfl⟩:=qlZ.1 h;rw[zB2 hl'];rfl
   · cases h
@[simp] theorem zJi(k:IntKind)(l:List Nat):zA6 k (l.map fun n:Nat=>.int k (n:Int))=some l:=by
 induction l with
 | nil=>rfl
 | cons n l ih=>simp[zA6,ih]
@[simp] theorem zLV(l:List Nat):zA6 .u8 (l.map aB)=some l:=zJi .u8 l
@[simp] theorem zZm(l:List Nat):zA6 .u64 (l.map aU)=some l:=zJi .u64 l
@[simp] theorem zYl(l:List (List UInt8)):ZY (l.map .str)=some l:=by
 induction l with
 | nil=>rfl
 | cons n l ih=>simp[ZY,ih]
@[simp] theorem zZc(l:List (List UInt8)):zV (l.map .str)=true:=ZO _ _ fun _=>rfl
@[simp] theorem zEB(l:List Nat):zV (l.map aB)=true:=ZO _ _ fun _=>rfl
@[simp] theorem zZq(l:List Nat):zV (l.map aU)=true:=ZO _ _ fun _=>rfl
@[simp] theorem zZ4(l:List Nat):zV (l.map aW)=true:=ZO _ _ fun _=>rfl
structure QF where
 st:Option (Nat×Nat×Nat)
 rd:Option Nat
 call:Bool
 grows:Bool
 sc:Bool
def QR.fl(q:QR):QF:=⟨q.st.map fun s=>(s.1,s.2.1,s.2.2.length),q.rd,q.call,q.grows,q.sc⟩
def zVN(a b:Nat×Nat×Nat):Bool:=a.1 != b.1 || decide (a.2.1+a.2.2<=b.2.1) || decide (b.2.1+b.2.2<=a.2.1)
def zHw(before:Bool)(si sk:List Nat)(di dk:Option Nat)(qi qk:QF):Bool :=
 (match di with
  | some d=>!sk.contains d || before
  | none=>true) &&
 (match dk with
  | some d=>(!si.contains d || before)&&dk != di
  | none=>true) &&
 (match qi.st with
  | some s=>qk.rd != some s.1&&!qk.call&&(match qk.st with | some s'=>zVN s s' | none=>true)
  | none=>true) &&
 (match qk.st with
  | some s=>(qi.rd != some s.1 || before)&&(!qi.call || before)
  | none=>true) &&
 (!qi.call || !qk.grows || before || qi.sc)
theorem zTK(before:Bool)(si sk:List Nat)(di dk:Option Nat)(qi qk:QR):ZM before si sk di dk qi qk=zHw before si sk di dk qi.fl qk.fl:=by
 unfold ZM zHw QR.fl;cases qi.st <;> cases qk.st <;> rfl
def zEW(ops:List Oper)(slots:List (List Nat))(qs:List QF)(pr:List Nat):Bool :=
 (List.range ops.length).all fun k =>
   ((ops.getD k default).after.toList.all fun e=>!Region.binds .any e || e.on<k) &&
   (List.range k).all fun i =>
     zHw ((pr.getD k 0).testBit i) (slots.getD i []) (slots.getD k []) (ops.getD i default).dst (ops.getD k default).dst (qs.getD i ⟨none,none,false,false,false⟩) (qs.getD k ⟨none,none,false,false,false⟩)
theorem zX1(qs:List QR)(i:Nat):(qs.getD i ⟨.top,[],none,none,false,false,false⟩).fl=(qs.map QR.fl).getD i ⟨none,none,false,false,false⟩:=by
 rw[q2Z,q2Z,qzZ];cases qs[i]? <;> rfl
@[simp] theorem zH(ops:List Oper)(slots:List (List Nat))(qs:List QR)(pr:List Nat):zFO ops slots qs pr=zEW ops slots (qs.map QR.fl) pr:=by
 unfold zFO zEW;simp only[zTK,zX1]
mutual
theorem zPW(n:Nat):∀x:AV,free x=true->below n x=true
 | .top,_ | .bool _,_ | .int _ _,_ | .str _,_ | .nilp,_ | .nils,_ | .nilm,_ | .nilf,_=>rfl
 | .ptr ..,h | .slice ..,h | .sl ..,h | .map _,h | .yld _,h=>by simp[free]at h
 | .func f xs ys,h=>by simp at h;simp[below,Zj n xs h.1,Zj n ys h.2]
 | .agg l,h=>by simp at h;simp[below,Zj n l h]
 | .tuple l,h=>by simp at h;simp[below,Zj n l h]
theorem Zj(n:Nat):∀xs:List AV,zV xs=true->zi n xs=true
 | [],_=>rfl
 | x::xs,h=>by simp at h;simp[zi,zPW n x h.1,Zj n xs h.2]
end
@[simp] theorem zTy{n:Nat}{xs:List AV}(h:zV xs=true):zi n xs=true:=Zj n xs h
attribute [simp] below zi zEL zGd scA
@[simp] theorem zJy{wd:List (Nat×Nat)}:∀{xs:List AV},zV xs=true->zBn wd xs xs
 | [],_=>trivial
 | x::xs,h=>by
   simp only[zFK,qrZ]at h;refine ⟨?_,zJy h.2⟩;have hx:=h.1;cases x
   case agg l=>exact zJy hx
   all_goals first
     | (unfold zC3;exact⟨rfl,hx⟩)
     | (simp[free]at hx)
theorem zx{P:Program}{Γ:Gam}(hm:P.follows .mixedOrders=true)(hΓ:GOk P Γ){n:Nat}{f:FuncId}{fn:Func}(hf:P.funcs[f]? = some fn){args:List AV}{v:AV}(h:∃H1,zKk P Γ n fn args []=some (v,H1))(hv:free v=true):Ct P f args [] v []:=by
 obtain⟨H1,h⟩:=h;exact zL0 hm hΓ hf h (zGs hv)
@[simp] theorem zWP(s:List UInt8):(zAd s).length=s.length:=by simp[zAd]
@[simp] theorem zTx(s:List UInt8):Zi (zAd s)=some s:=zJU s
@[simp] theorem zUG(s:List UInt8)(l:List AV):Zi (zAd s++l)=(Zi l).map (s++·):=by
 induction s with
 | nil=>show Zi l=_;cases Zi l <;> simp
 | cons b s ih =>
   show Option.map (UInt8.ofNat (Int.toNat (b.toNat:Int))::·) (Zi (zAd s++l))=_
   rw[ih];cases Zi l <;> simp
@[simp] theorem zYc(n:Nat):((n:Int)<0)↔False:=⟨fun h=>by omega,fun h=>h.elim⟩
@[simp] theorem zaI{n:Int}(h0 : -9223372036854775808<=n)(h:n<=9223372036854775807):IntKind.i64.wrap n=n:=zI h0 h
@[simp] theorem zaQ{n:Int}(h0:0<=n)(h:n<=18446744073709551615):IntKind.u64.wrap n=n:=zIr h0 h
@[simp] theorem zaN{n:Int}(h0:0<=n)(h:n<=4294967295):IntKind.u32.wrap n=n:=zEV h0 h
@[simp] theorem zaV{n:Int}(h0:0<=n)(h:n<=255):IntKind.u8.wrap n=n:=zCw h0 h
attribute [simp] QR.fl zFu Op.operands Call.operands Region.binds
attribute [simp] zZ8 zZ zC3 zBn winH zA6 ZY IntKind.signed IntKind.max
end
section
def zDU(H H':zA):List Nat:=(List.range H.length).filter fun b=>!(ZN (H.getD b .dead) (H'.getD b .dead))
def zG(P:Program)(f:FuncId):Option Func:=P.funcs[f]?
def zDV(F:List AV)(ps:List Tmp)(args:List AV):List AV:=(ps.zip args).foldl (fun t pv=>t.set pv.1 pv.2) F
def zY8(ps:Array Tmp)(asg body:Code)(F:List AV):AX->ABlk
 | .normal=>.loop ps asg body .ready none F
 | .ret=>.loop ps asg body .done (some .ret) F
 | .exit id=>.loop ps asg body .done (some (.exit id)) F
def zYw:AX->Bool
 | .normal=>true
 | _=>false
def zMH(P:Program)(Γ:Gam)(n:Nat):List AV->zA->Option (AV×zA×List Nat)
 | .yld b::args,H =>
   match H[b]? with
   | some (.loop ps asg body .ready _ F) =>
     if args.length=ps.size then
       match zK P Γ n false asg (zDV F ps.toList args) H with
       | some (.normal,F1,H1) =>
         match H1[b]? with
         | some (.loop ps1 asg1 body1 .ready pe1 F') =>
           match zK P Γ n false body F1 (H1.set b (.loop ps1 asg1 body1 .busy pe1 F')) with
           | some (x,_,H2) =>
             match H2[b]? with
             | some (.loop ps2 asg2 body2 _ _ F'')=>some (.bool (zYw x),H2.set b (zY8 ps2 asg2 body2 F'' x),[])
             | _=>none
           | none=>none
         | _=>none
       | _=>none
     else none
   | _=>none
 | _,_=>none
theorem zFV{j:Inj}:∀(ps:List Tmp) (args:List AV) (cargs:List Value) (F:List AV) (tmps:Array Value),VRs j F tmps.toList->VRs j args cargs ->
   VRs j (zDV F ps args) ((ps.zip cargs).foldl (fun t pv=>t.setIfInBounds pv.1 pv.2) tmps).toList
 | [],_,_,F,tmps,hF,_=>by simpa[zDV] using hF
 | p::ps,[],cargs,F,tmps,hF,ha=>by
   simp only[VRs]at ha;subst ha;simpa[zDV] using hF
 | p::ps,x::args,cargs,F,tmps,hF,ha=>by
   simp only[VRs]at ha;obtain⟨v,ws,rfl,h1,h2⟩:=ha;have:=zFV ps args ws (F.set p x) (tmps.setIfInBounds p v) (by rw[Array.toList_setIfInBounds];exact hF.set p h1) h2;simpa[zDV] using this
theorem zSv{P:Program}(hm:P.follows .mixedOrders=true){Γ:Gam}(hΓ:GOk P Γ)(n:Nat):zQQ P (zMH P Γ n):=by
 intro b args H v H' W h j w cargs p m hR hargs hp;simp only[zMH]at h;split at h;rotate_left
 · cases h
 rename_i ps asg body pe F hb;split at h;rotate_left
 · cases h
 rename_i hlen;split at h;rotate_left
 · cases h
 rename_i F1 H1 ha;split at h;rotate_left
 · cases h
 rename_i ps1 asg1 body1 pe1 F' hb1;split at h;rotate_left
 · cases h
 rename_i x F2 H2 hbody;split at h;rotate_left
 · cases h
 rename_i ps2 asg2 body2 st2 pe2 F'' hb2;cases h;obtain⟨fn,tmps,D,hl,hF⟩:=hR.blk _ _ p hb hp;have hblt:b<H.length:=(q1Z.1 hb).1;have hsz:cargs.size=ps.size:=by
   have:=hargs.length;simp at this;omega
 refine ⟨fn,_,asg,body,run_yield hl hsz,roundIn_of_wpIn trivial ?_⟩;have hF1:=zFV (j:=j) ps.toList args cargs.toList F tmps hF hargs;have etm:((ps.zip cargs).foldl (fun t (x:Tmp×Value)=>t.setIfInBounds x.1 x.2) tmps)=((ps.toList.zip cargs.toList).foldl (fun t pv=>t.setIfInBounds pv.1 pv.2) tmps):=by
   rw[<-Array.foldl_toList,Array.toList_zip]
 refine wpIn_mono (zAH hm hΓ (some p.blk) n false (by simp) asg _ F1 H H1 .normal ha 0 j w _ m (qqZ _) hR (by rw[etm];exact hF1) (DefOk.nil _ _)) ?_;rintro e a1 w1 ⟨x1,F1',H1',j1,rfl,⟨rfl,rfl,rfl⟩,g3,g4,s1⟩;have hp1:j1 b=some p:=by rw[s1.ext b hblt];exact hp
 obtain⟨fn1,tmps1,D1,hl1,hF1'⟩:=s1.rel.blk _ _ p hb1 hp1;have s2:=zAr (o:=.loop { ({ state:=.ready,pending:=pe1,fn:=fn1,tmps:=tmps1,params:=ps1,assign:=asg1,body:=body1,defers:=D1 }:Loop) with state:=.busy }) (y:=.loop ps1 asg1 body1 .busy pe1 F') s1.rel hb1 rfl hp1 (.inr rfl) ⟨fn1,tmps1,D1,World.putObj_heap_same (qtZ.1 hl1).1,hF1'⟩;refine ⟨_,run_beginRound hl1 rfl,?_⟩;have s12:=s1.trans s2 s1.len;refine wpIn_mono (zAH hm hΓ (some p.blk) n false (by simp) body _ F2 _ H2 x hbody 0 j1 _ a1 m (qqZ _) s2.rel g3 (g4.step s1.rel s2)) ?_;rintro e a2 w2 ⟨x2,F2',H2',j2,rfl,⟨rfl,rfl,rfl⟩,k3,k4,s3⟩;have hblt1:b<H1'.length:=(q1Z.1 hb1).1;have hp2:j2 b=some p:=by rw[s3.ext b (by simpa using hblt1)];exact hp1
 obtain⟨fn2,tmps2,D2,hl2,hF2⟩:=s3.rel.blk _ _ p hb2 hp2;have s123:=s12.trans s3 (by simpa using s1.len);have fin:∀st pe,Step H.length j H w j2 (H2'.set b (.loop ps2 asg2 body2 st pe F'')) (w2.putObj p.blk (.loop { ({ state:=st2,pending:=pe2,fn:=fn2,tmps:=tmps2,params:=ps2,assign:=asg2,body:=body2,defers:=D2 }:Loop) with state:=st,pending:=pe })):=fun st pe =>
   s123.trans (zAr (y:=.loop ps2 asg2 body2 st pe F'') s3.rel hb2 rfl hp2 (.inr rfl) ⟨fn2,tmps2,D2,World.putObj_heap_same (qtZ.1 hl2).1,hF2⟩) s123.len
 cases x2 with
 | normal=>exact⟨_,_,run_endRound none hl2,_,j2,rfl,rfl,fin .ready none⟩
 | ret=>exact⟨_,_,run_endRound (some .ret) hl2,_,j2,rfl,rfl,fin .done (some .ret)⟩
 | exit id=>exact⟨_,_,run_endRound (some (.exit id)) hl2,_,j2,rfl,rfl,fin .done (some (.exit id))⟩
def zAV(P:Program)(Γ:Gam)(n:Nat)(inl:List FuncId):Nat->FuncId->List AV->zA->Option (AV×zA×List Nat)
 | 0,f,args,H=>Γ f args H
 | k+1,f,args,H =>
   if f=yl then (match zMH P (zAV P Γ n inl k) n args H with | some r=>some r | none=>Γ f args H)
   else if inl.contains f then
     match zG P f with
     | none=>none
     | some fn =>
       if fn.name == "runtime.NumGoroutine" then none else
       match zKk P (zAV P Γ n inl k) n fn args H with
       | some (v,H')=>if H.length<=H'.length then some (v,H',zDU H H') else none
       | none=>none
   else Γ f args H
theorem zTf{v:AV}{H:zA}{P:Program}{f:FuncId}{args:List AV}{fn:Func}{Γ:Gam}{n:Nat}(hm:P.follows .mixedOrders=true)(hΓ:GOk P Γ)(hf:P.funcs[f]? = some fn){H1:zA}(h:zKk P Γ n fn args H=some (v,H1)):Ct P f args H v H1:=by
 unfold zKk at h;split at h
 · cases h
 rename_i c hc;intro j w cargs hR hargs;refine (callsIn_wide (n:=0)).1 ?_;refine callsIn_of_wp_marks hf hc trivial ?_ rfl;have hl:=hargs.length;have hF:VRs j (args++qbZ (fn.ntmps-args.length) zX) (cargs++Array.replicate (fn.ntmps-cargs.size) undef).toList:=by
   rw[rxZ,Array.toList_replicate,hl,rjZ];exact hargs.append (VRs.replicate (v:=undef) (show VR j zX undef from ⟨#[],rfl,rfl⟩) _)
 have key:∀(x:AX) (hx:x=.ret\/x=.normal) F' H',zK P Γ n true c (args++qbZ (fn.ntmps-args.length) zX) H=some (x,F',H')->zDB P fn.results.toList F' H'=some v->H'=H1 ->
     c.wpIn (FW none) 0 P (bodyPostM (FW none) 0 P fn fun e w'=>∃cv j',e=.returned cv/\VR j' v cv/\Step H.length j H w j' H1 w') { tmps:=cargs++Array.replicate (fn.ntmps-cargs.size) undef,defers:=[] } w:=by
   intro x hx F' H' hr hv e;subst e;refine wpIn_mono (zAH hm hΓ none n true (fun _=>rfl) c _ F' H H' x hr w.heap.size j w { tmps:=cargs++Array.replicate (fn.ntmps-cargs.size) undef,defers:=[] } 0 (qnZ _) hR hF (DefOk.nil _ _)) ?_;rintro e a' w' ⟨x',F2,H2,j',rfl,⟨rfl,rfl,rfl⟩,h3,h4,h5⟩;exact zFv hR.glo.1.2 hx.symm hv h3 h4 h5 fun cv w2 g2 hs=>⟨cv,j',rfl,g2,hs⟩
 split at h
 · rename_i F' H2 hr
   obtain⟨v2,hv,e⟩:=qlZ.1 h;cases e;exact key _ (.inl rfl) _ _ hr hv rfl
 · rename_i F' H2 hr
   obtain⟨v2,hv,e⟩:=qlZ.1 h;cases e;exact key _ (.inr rfl) _ _ hr hv rfl
 · cases h
theorem zp{P:Program}(hm:P.follows .mixedOrders=true){Γ:Gam}(hΓ:GOk P Γ)(n:Nat)(inl:List FuncId):∀k,GOk P (zAV P Γ n inl k)
 | 0=>by
   have:zAV P Γ n inl 0=Γ:=by funext f args H;simp[zAV]
   rw[this];exact hΓ
 | k+1=>by
   have ih:=zp hm hΓ n inl k;refine ⟨?_,?_⟩;rotate_left
   · intro b args H v H' W h
     unfold zAV at h;rw[if_pos rfl]at h;split at h
     · rename_i r hr
       cases h;exact zSv hm ih n b args H v H' W hr
     · exact hΓ.2 b args H v H' W h
   intro f hfy ⟨args0,H0,r0,h0⟩;by_cases hi:inl.contains f=true
   · have one : ∀ args H v H' W, zAV P Γ n inl (k + 1) f args H = some (v, H', W) → ∃ fn, P.funcs[f]? = some fn ∧ (fn.name == "runtime.NumGoroutine") = false ∧ zKk P (zAV P Γ n inl k) n fn args H = some (v, H') ∧ H.length ≤ H'.length ∧ W = zDU H H' := by
       intro args H v H' W h;unfold zAV at h;rw[if_neg hfy,if_pos hi]at h;split at h
       · cases h
       rename_i fn hfn;split at h
       · cases h
       rename_i hn;split at h
       · rename_i v1 H1 hr
         split at h <;> cases h
         exact⟨fn,hfn,by simpa using hn,hr,‹_›,rfl⟩
       · cases h
     obtain⟨v0,H0',W0⟩:=r0;obtain⟨fn,hfn,hn,hr,_,_⟩:=one _ _ _ _ _ h0;have hbody:fn.body.isSome=true:=by
       unfold zKk at hr;split at hr
       · cases hr
       · rename_i c hc;rw[hc];rfl
     refine ⟨zD hfn hbody hn,fun args H v H' W h=>?_,fun args H v H' W h=>?_⟩
     · obtain⟨fn',hfn',_,hr',_,_⟩:=one _ _ _ _ _ h
       rw[hfn]at hfn';cases hfn';exact zTf hm ih hfn hr'
     · obtain⟨fn',hfn',_,hr',hl,rfl⟩:=one _ _ _ _ _ h
       refine ⟨hl,fun b hb hnb=>?_⟩;have:ZN (H.getD b .dead) (H'.getD b .dead)=true:=by
         cases hx:ZN (H.getD b .dead) (H'.getD b .dead) with
         | true=>rfl
         | false=>exact absurd (sbZ.2 ⟨List.mem_range.2 hb,by rw[hx];rfl⟩) hnb
       have e:=zIv this;rw[q2Z,q2Z,q3Z hb,q3Z (show b<H'.length by omega)]at e;rw[q3Z hb,q3Z (show b<H'.length by omega)];simpa using e.symm
   · have e:zAV P Γ n inl (k+1) f=Γ f:=by
       funext args H
       simp only[zAV];rw[if_neg hfy,if_neg hi]
     rw[e]at h0 ⊢;exact hΓ.1 f hfy ⟨args0,H0,r0,h0⟩
def chg:Nat->zA->zA->List Nat
 | _,[],_=>[]
 | n,x::xs,[]=>if ZN x .dead then chg (n+1) xs [] else n::chg (n+1) xs []
 | n,x::xs,y::ys=>if ZN x y then chg (n+1) xs ys else n::chg (n+1) xs ys
theorem zPn:∀(H H':zA) (n:Nat),((List.range H.length).filter fun b=>!(ZN (H.getD b .dead) (H'.getD b .dead))).map (n+·)=chg n H H'
 | [],H',n=>by simp[chg]
 | x::xs,[],n=>by
   have ih:=zPn xs [] (n+1);simp only[List.getD_nil]at ih;rw[q7Z,List.range_succ_eq_map,List.filter_cons,List.filter_map];have e:((fun b=>!(ZN ((x::xs).getD b .dead) (([]:zA).getD b .dead))) ∘ Nat.succ)=fun b=>!(ZN (xs.getD b .dead) (([]:zA).getD b .dead)):=by funext b;simp
   rw[e];have e2:∀l:List Nat,(l.map Nat.succ).map (n+·)=l.map (n+1+·):=fun l=>by
     rw[List.map_map];apply List.map_congr_left;intro a _;simp;omega
   unfold chg;by_cases h:ZN x .dead=true
   · simp only[h,List.getD_cons_zero,List.getD_nil,Bool.not_true,qsZ,if_false,if_true,e2,ih]
   · simp only[h,List.getD_cons_zero,List.getD_nil,Bool.not_false,if_true,if_false,s1Z,e2,ih,Nat.add_zero,qsZ]
 | x::xs,y::ys,n=>by
   have ih:=zPn xs ys (n+1);rw[q7Z,List.range_succ_eq_map,List.filter_cons,List.filter_map];have e:((fun b=>!(ZN ((x::xs).getD b .dead) ((y::ys).getD b .dead))) ∘ Nat.succ)=fun b=>!(ZN (xs.getD b .dead) (ys.getD b .dead)):=by funext b;simp
   rw[e];have e2:∀l:List Nat,(l.map Nat.succ).map (n+·)=l.map (n+1+·):=fun l=>by
     rw[List.map_map];apply List.map_congr_left;intro a _;simp;omega
   unfold chg;by_cases h:ZN x y=true
   · simp only[h,List.getD_cons_zero,Bool.not_true,qsZ,if_false,if_true,e2,ih]
   · simp only[h,List.getD_cons_zero,Bool.not_false,if_true,if_false,s1Z,e2,ih,Nat.add_zero,qsZ]
@[simp] theorem zZE(H H':zA):zDU H H'=chg 0 H H':=by
 have:=zPn H H' 0;simp only[s8Z]at this;rw[<-this];simp[zDU]
attribute [simp] zAV chg ZN yl zMH zDV zY8 zYw
end
open Classical in
theorem zUE{P:Program}{f:FuncId}{args:List AV}{H:zA}{v:AV}{H':zA}(he:∀cargs w,(callFunc f cargs).run P w=.ok (.enter f cargs) w)(hf:f≠yl)(h:Ct P f args H v H')(hl:H.length<=H'.length) :
   GOk P (fun g a h=>if g=f/\a=args/\h=H then some (v,H',List.range H.length) else none):=by
 refine ⟨fun g hg ⟨a,h0,r,hr⟩=>?_,fun b a h0 v0 h1 W0 hr=>?_⟩
 · dsimp only at hr
   split at hr;rotate_left
   · cases hr
   rename_i e;obtain⟨rfl,rfl,rfl⟩:=e;refine ⟨he,fun a2 h2 v2 h3 W hs=>?_,fun a2 h2 v2 h3 W hs=>?_⟩
   · dsimp only at hs
     split at hs;rotate_left
     · cases hs
     rename_i e;obtain⟨_,rfl,rfl⟩:=e;cases hs;exact h
   · dsimp only at hs
     split at hs;rotate_left
     · cases hs
     rename_i e;obtain⟨_,rfl,rfl⟩:=e;cases hs;exact⟨hl,fun b hb hn=>absurd (List.mem_range.2 hb) hn⟩
 · dsimp only at hr
   split at hr
   · rename_i e
     exact absurd e.1.symm hf
   · cases hr
def zP2(pe:Option Code):Option AX :=
 match pe with
 | none=>some .normal
 | some .ret=>some .ret
 | some (.exit id)=>some (.exit id)
 | _=>none
theorem Sim.rangeFunc{P:Program}(hm:P.follows .mixedOrders=true){n0:Nat}{g:Operand}{ps:Array Tmp}{asg body:Code}{F:List AV}{H H1:zA}{Q:AX->List AV->zA->Prop}{gf:FuncId}{cap:List AV}{v:AV}{x:AX}
   {ps':Array Tmp} {asg' body':Code} {st:LoopState} {pe:Option Code} {F':List AV}
   (hg:ev F g=.func gf [] cap) (he:∀cargs w,(callFunc gf cargs).run P w=.ok (.enter gf cargs) w) (hne:gf≠yl)
   (h:Ct P gf (.yld H.length::cap) (H++[.loop ps asg body .ready none F]) v H1) (hl:H.length<H1.length) (hk:H1[H.length]? = some (.loop ps' asg' body' st pe F')) (hst:st≠.busy) (hx:zP2 pe=some x) (hn:n0<=H.length)
   (hq:Q x F (H1.set H.length .dead)):Sim P none n0 (.rangeFunc g ps asg body) F H Q:=by
 refine Sim.exec hm (zUE he hne h (by simp;omega)) (n:=0) (x:=x) (F':=F) (H':=H1.set H.length .dead) ?_ hn hq;unfold zK;rw[hg];simp only[Option.isNone,if_true,hne,if_false,and_self,hk];unfold zP2 at hx;cases st with
 | busy=>exact absurd rfl hst
 | ready=>split at hx <;> cases hx <;> rfl
 | done=>split at hx <;> cases hx <;> rfl
 | exhausted=>split at hx <;> cases hx <;> rfl
theorem Sim.rangeFuncN{P:Program}(hm:P.follows .mixedOrders=true)(mk:ABlk->zA)(st:LoopState)(pe:Option Code)(v:AV){n0:Nat}{g:Operand}{ps:Array Tmp}{asg body:Code}{F:List AV}{H:zA}{Q:AX->List AV->zA->Prop}{gf:FuncId}{cap:List AV}{x:AX}
   (hg:ev F g=.func gf [] cap) (he:∀cargs w,(callFunc gf cargs).run P w=.ok (.enter gf cargs) w) (hne:gf≠yl)
   (hl:H.length<(mk (.loop ps asg body st pe F)).length) (hk:(mk (.loop ps asg body st pe F))[H.length]? = some (.loop ps asg body st pe F)) (hst:st≠.busy) (hx:zP2 pe=some x) (hn:n0<=H.length)
   (h:Ct P gf (.yld H.length::cap) (H++[.loop ps asg body .ready none F]) v (mk (.loop ps asg body st pe F)))
   (hq:Q x F ((mk (.loop ps asg body st pe F)).set H.length .dead)):Sim P none n0 (.rangeFunc g ps asg body) F H Q :=
 Sim.rangeFunc hm hg he hne h hl hk hst hx hn hq
section
mutual
def shA(k:Nat):AV->AV
 | .ptr b o=>.ptr (k+b) o
 | .slice b o l sz c=>.slice (k+b) o l sz c
 | .sl b o l sz c=>.sl (k+b) o l sz c
 | .map b=>.map (k+b)
 | .func f xs ys=>.func f (zA9 k xs) (zA9 k ys)
 | .yld b=>.yld (k+b)
 | .agg l=>.agg (zA9 k l)
 | .tuple l=>.tuple (zA9 k l)
 | x=>x
def zA9(k:Nat):List AV->List AV
 | []=>[]
 | x::xs=>shA k x::zA9 k xs
end
def shB(k:Nat):ABlk->ABlk
 | .dead=>.dead
 | .cells o l=>.cells o (zA9 k l)
 | .loop ps a b st pe F=>.loop ps a b st pe (zA9 k F)
 | .map es=>.map (es.map fun e=>(shA k e.1,shA k e.2))
 | .obj o s=>.obj o s
 | .pin l=>.pin (zA9 k l)
def zEv(k:Nat)(j j':Inj):Inj:=⟨fun b=>if b<k then j b else j' (b-k),fun b=>if b<k then j.foot b else j'.foot (b-k),fun b=>if b<k then j.shr b else j'.shr (b-k)⟩
theorem zBA(k:Nat)(j j':Inj)(b:Nat):zEv k j j' b=if b<k then j b else j' (b-k):=rfl
@[simp] theorem zaP(k b:Nat)(j j':Inj):zEv k j j' (k+b)=j' b:=by
 rw[zBA,if_neg (by omega),s3Z]
mutual
theorem zFF{k:Nat}{j j':Inj}:∀(x:AV) (v:Value),VR j' x v->VR (zEv k j j') (shA k x) v
 | .top,_,_=>by simp[shA,VR]
 | .bool b,v,h=>by simpa[shA,VR] using h
 | .int _ n,v,h=>by simpa[shA,VR] using h
 | .str s,v,h=>by simpa[shA,VR] using h
 | .ptr b o,v,h=>by simpa[shA,VR] using h
 | .nilp,v,h=>by simpa[shA,VR] using h
 | .slice b o l sz c,v,h=>by simpa[shA,VR] using h
 | .sl b o l sz c,v,h=>by simpa[shA,VR] using h
 | .nils,v,h=>by simpa[shA,VR] using h
 | .map b,v,h=>by simpa[shA,VR] using h
 | .nilm,v,h=>by simpa[shA,VR] using h
 | .func f xs ys,v,h=>by
   simp only[shA,VR]at h ⊢;obtain⟨cx,cy,e,h1,h2⟩:=h;exact⟨cx,cy,e,zEe xs _ h1,zEe ys _ h2⟩
 | .yld b,v,h=>by simpa[shA,VR] using h
 | .nilf,v,h=>by simpa[shA,VR] using h
 | .agg l,v,h=>by
   simp only[shA,VR]at h ⊢;obtain⟨cs,e,h1⟩:=h;exact⟨cs,e,zEe l _ h1⟩
 | .tuple l,v,h=>by
   simp only[shA,VR]at h ⊢;obtain⟨cs,e,h1⟩:=h;exact⟨cs,e,zEe l _ h1⟩
theorem zEe{k:Nat}{j j':Inj}:∀(xs:List AV) (vs:List Value),VRs j' xs vs->VRs (zEv k j j') (zA9 k xs) vs
 | [],vs,h=>by simpa[zA9,VRs] using h
 | x::xs,vs,h=>by
   simp only[zA9,VRs]at h ⊢;obtain⟨v,ws,e,h1,h2⟩:=h;exact⟨v,ws,e,zFF x v h1,zEe xs ws h2⟩
end
theorem zEE(k:Nat):∀xs:List AV,(zA9 k xs).length=xs.length
 | []=>rfl
 | x::xs=>by simp[zA9,zEE k xs]
theorem zD9(k:Nat):∀(xs:List AV) (i:Nat),(zA9 k xs)[i]? = (xs[i]?).map (shA k)
 | [],i=>by simp[zA9]
 | x::xs,0=>by simp[zA9]
 | x::xs,i+1=>by simp[zA9,zD9 k xs i]
theorem zGP(k:Nat)(y:ABlk):(shB k y).own=y.own:=by cases y <;> rfl
theorem zUw{k:Nat}{j j':Inj}{w:World}{y:ABlk}{p:JB}(h:BRel j' w y p):BRel (zEv k j j') w (shB k y) p:=by
 cases y with
 | dead=>trivial
 | cells o l =>
   obtain⟨cs,T,fz,g1,g2,g3,g4,g5⟩:=h;refine ⟨cs,T,fz,g1,g2,by rw[zEE];exact g3,fun i x hx=>?_,g5⟩;rw[zD9]at hx;obtain⟨x',hx',rfl⟩:=qlZ.1 hx;obtain⟨v,hv,hr⟩:=g4 i x' hx';exact⟨v,hv,zFF x' v hr⟩
 | loop ps a b st pe F =>
   obtain⟨fn,tmps,D,g1,g2⟩:=h;exact⟨fn,tmps,D,g1,zEe F _ g2⟩
 | map es =>
   obtain⟨ents,cl,g1,gs,g2,g3⟩:=h;refine ⟨ents,cl,g1,gs,by simpa using g2,fun i z e hz he=>?_⟩;rw[qzZ]at hz;obtain⟨x,hx,rfl⟩:=qlZ.1 hz;have:=g3 i x e hx he;exact⟨zFF _ _ this.1,zFF _ _ this.2⟩
 | obj _ _=>trivial
 | pin l =>
   obtain⟨h0,cs,T,fz,g1,g4⟩:=h;refine ⟨h0,cs,T,fz,g1,fun i x hx=>?_⟩;rw[zD9]at hx;obtain⟨x',hx',rfl⟩:=qlZ.1 hx;obtain⟨v,hv,hr⟩:=g4 i x' hx';exact⟨v,hv,zFF x' v hr⟩
theorem zW7(k:Nat){y:ABlk}(h:(shB k y).isObj=true):shB k y=y:=by cases y <;> simp_all [shB,ABlk.isObj]
theorem zQ3(k:Nat){y:ABlk}(h:shB k y≠.dead):y≠.dead:=by rintro rfl;exact h rfl
def zA5(H:zA):Bool:=H.all fun x=>match x with | .cells o _=>o | .obj o _=>o | .pin _=>false | _=>true
theorem zY9{P:Program}{f:FuncId}{args:List AV}{H H':zA}{v:AV}(h:Ct P f args [] v H')(ha:zV args=true)(ho:zA5 H'=true):Ct P f args H (shA H.length v) (H++H'.map (shB H.length)):=by
 intro j w cargs hR hargs;refine (h zZS w cargs (R.nothing hR.glo.1) (VRs.free _ _ ha hargs)).mono ?_;rintro e w' ⟨cv,j',rfl,h1,h2⟩;have hk:=zHE h2.keeps (by rfl);have hown:∀(b:Nat) (y:ABlk),H'[b]? = some y->y≠.dead->y.own=true:=by
   intro b y hb hy;have:=s5Z.1 ho _ (qcZ hb);cases y <;> simp_all [ABlk.own]
 have hle:JLe j (zEv H.length j j'):=by
   intro b p hp;have hb:b<H.length:=by
     rcases s2Z b H.length with h3 | h3
     · exact h3
     · rw[hR.dom b h3]at hp;cases hp
   rw[zBA,if_pos hb];exact hp
 have hcase:∀c y q,(H++H'.map (shB H.length))[c]? = some y->zEv H.length j j' c=some q->(c<H.length/\H[c]? = some y/\j c=some q)\/(∃b y',c=H.length+b/\H'[b]? = some y'/\y=shB H.length y'/\j' b=some q):=by
   intro c y q hc hq;rw[s7Z]at hc;split at hc <;> rename_i hlt
   · rw[zBA,if_pos hlt]at hq
     exact .inl ⟨hlt,hc,hq⟩
   · rw[qzZ]at hc
     obtain⟨y',hy',rfl⟩:=qlZ.1 hc;rw[zBA,if_neg hlt]at hq;exact .inr ⟨c-H.length,y',by omega,hy',rfl,hq⟩
 refine ⟨cv,zEv H.length j j',rfl,zFF v cv h1,Step.mergeF hR h2 (fun _=>False) (fun u ⟨b,y,p,h,_⟩=>by simp at h) (fun u ⟨b,y,p,h,_⟩=>by simp at h) (fun b hb=>?_) (fun b x p hb hp=>?_)
   (fun b=>if b<H.length then (false,b) else (true,b-H.length)) (fun b x p hb hx hp=>?_) (fun b b' x x' p p' hb _ hp hb' _ hp' hne e=>?_) (fun b hb=>?_) (by simp)⟩
 · simp at hb
   rw[zBA,if_neg (by omega)];exact h2.rel.dom _ (by omega)
 · rcases hcase b x p hb hp with⟨_,g1,g2⟩ | ⟨b',y',rfl,g1,rfl,g2⟩
   · exact (hR.blk b x p g1 g2).mono hle fun hx=>hk _ (hR.ltx g1 hx g2)
   · exact zUw (h2.rel.blk b' y' p g1 g2)
 · rcases hcase b x p hb hp with⟨g0,g1,g2⟩ | ⟨b',y',rfl,g1,rfl,g2⟩
   · simp only[g0,if_true,qsZ,if_false]
     exact⟨⟨x,g1,hx,g2,id,fun _=>⟨rfl,by simp[zEv,g0],by simp[zEv,g0]⟩⟩,fun _ _ _ h=>h⟩
   · simp only[show ¬H.length+b'<H.length by omega,if_false,if_true,s3Z]
     refine ⟨⟨y',g1,zQ3 _ hx,g2,fun h=>by rwa [zGP]at h,fun ho=>⟨(zW7 _ ho).symm,by show (if _ then _ else _)=_;rw[if_neg (by omega),s3Z],by show (if _ then _ else _)=_;rw[if_neg (by omega),s3Z]⟩⟩,.inl (zGe ?_)⟩;rw[zGP];exact hown b' y' g1 (zQ3 _ hx)
 · rcases hcase b x p hb hp with⟨g0,_,_⟩ | ⟨c,_,rfl,_,_,_⟩ <;> rcases hcase b' x' p' hb' hp' with⟨k0,_,_⟩ | ⟨c',_,rfl,_,_,_⟩
   · simp only[g0,k0,if_true]at e
     exact hne (Prod.mk.inj e).2
   · simp only[g0,show ¬H.length+c'<H.length by omega,if_true,if_false]at e
     cases (Prod.mk.inj e).1
   · simp only[k0,show ¬H.length+c<H.length by omega,if_true,if_false]at e
     cases (Prod.mk.inj e).1
   · simp only[show ¬H.length+c<H.length by omega,show ¬H.length+c'<H.length by omega,if_false,s3Z]at e
     exact hne (by rw[(Prod.mk.inj e).2])
 · rw[zBA,if_pos hb]
def zL6(g:List AV->Option (AV×zA)):zJ:=fun args H=>match g args with
 | some (v,H')=>some (shA H.length v,H++H'.map (shB H.length),[])
 | none=>none
theorem zEt{P:Program}{f:FuncId}{g:List AV->Option (AV×zA)}(he:∀cargs w,(callFunc f cargs).run P w=.ok (.enter f cargs) w)
   (h:∀args v H',g args=some (v,H')->Ct P f args [] v H'/\zV args=true/\zA5 H'=true):Sound P f (zL6 g):=by
 refine ⟨he,fun args H v H' W hs=>?_,fun args H v H' W hs=>?_⟩ <;> (unfold zL6 at hs;split at hs <;> cases hs)
 · rename_i v0 H0 hg
   obtain⟨h1,h2,h3⟩:=h args _ _ hg;exact zY9 h1 h2 h3
 · exact⟨by simp,fun b hb _=>by rw[q4Z hb]⟩
attribute [simp] shA zA9 shB zL6
end
section
def Zo{α:Type}(n:Nat)(k:Nat->α):α:=Nat.rec (motive:=fun _=>α) (k 0) (fun m _=>k (m+1)) n
theorem ZV{α:Type}(n:Nat)(k:Nat->α):Zo n k=k n:=by cases n <;> rfl
def zET(acc:List Nat):List Edge->Nat->Nat
 | [],m=>m
 | e::es,m=>zET acc es (if Region.binds .any e then m ||| (1 <<< e.on) ||| acc.getD e.on 0 else m)
def zIG(k:List Nat->Bool):List Oper->List Nat->Bool
 | [],acc=>k acc
 | o::rest,acc=>Zo (zET acc o.after.toList 0) fun m=>zIG k rest (acc++[m])
theorem zDs(acc:List Nat):∀(es:List Edge) (m:Nat),zET acc es m=es.foldl (fun m e=>if Region.binds .any e then m ||| (1 <<< e.on) ||| acc.getD e.on 0 else m) m
 | [],m=>rfl
 | e::es,m=>by
   unfold zET;rw[zDs acc es];rfl
theorem zFc(k:List Nat->Bool):∀(ops:List Oper) (acc:List Nat),zIG k ops acc=k (zBE ops acc)
 | [],acc=>rfl
 | o::rest,acc=>by
   unfold zIG zBE;rw[ZV,zFc k rest,zDs]
def zDI(ops:List Oper)(slots:List (List Nat))(qs:List QF):Bool:=zIG (zEW ops slots qs) ops []
attribute [-simp] zH
@[simp] theorem zIw(ops:List Oper)(slots:List (List Nat))(qs:List QR):zFO ops slots qs (zAR ops)=zDI ops slots (qs.map QR.fl):=by
 unfold zDI;rw[zFc,zH];rfl
theorem zXN(rs:List Nat)(F:List AV)(x:Operand)(h:∀t,x=.tmp t->t∈rs):ev (zA4 rs F) x=ev F x:=by
 cases x with
 | tmp t =>
   show (zA4 rs F).getD t zX=F.getD t zX;rw[q2Z,q2Z,zFu];have:=h t rfl;cases F[t]? with
   | none=>rfl
   | some x=>simp[this]
 | const v=>rfl
 | global g=>rfl
 | func f=>rfl
theorem zMn{F F':List AV}{l:List Operand}(h:∀x∈l,ev F' x=ev F x):l.map (ev F')=l.map (ev F):=List.map_congr_left h
theorem zNy{F F':List AV}{l:List (Nat×Operand)}(h:∀x∈l.map (·.2),ev F' x=ev F x):(l.map fun (i,x)=>(i,ev F' x))=l.map fun (i,x)=>(i,ev F x) :=
 List.map_congr_left fun p hp=>by
   have:=h p.2 (reZ.2 ⟨p,hp,rfl⟩);obtain⟨i,x⟩:=p;simp only at this ⊢;rw[this]
theorem zQt{F F':List AV}{lo hi:Option Operand}(h1:∀x∈lo.toArray.toList,ev F' x=ev F x)(h2:∀x∈hi.toArray.toList,ev F' x=ev F x)(n c:Nat):zv F' lo hi n c=zv F lo hi n c:=by
 unfold zv;cases lo <;> cases hi <;> simp at h1 h2 <;> simp[h1,h2]
theorem zPX{P:Program}{F F':List AV}{lo hi mx:Option Operand}(h1:∀x∈lo.toArray.toList,ev F' x=ev F x)(h2:∀x∈hi.toArray.toList,ev F' x=ev F x)(h3:∀x∈mx.toArray.toList,ev F' x=ev F x)(t:TypeId)(v:AV):zBQ P F' t v lo hi mx=zBQ P F t v lo hi mx:=by
 have e:zv F' lo hi=zv F lo hi:=by funext n c;exact zQt h1 h2 n c
 have e2:∀y,hi=some y->zv F' lo (some y)=zv F lo (some y):=by rintro y rfl;exact e
 unfold zBQ;rw[e];cases mx with
 | none =>
   cases P.underlying t with
   | none=>rfl
   | some d=>cases d <;> cases v <;> rfl
 | some m =>
   have:=h3 m (by simp);cases hi with
   | none =>
     cases P.underlying t with
     | none=>rfl
     | some d=>cases d <;> cases v <;> first | rfl | simp only[this]
   | some y =>
     have e3:=e2 y rfl;cases P.underlying t with
     | none=>rfl
     | some d=>cases d <;> cases v <;> first | rfl | simp only[this,e3]
theorem zSj{P:Program}{F F':List AV}{lo hi mx:Option Operand}(h1:∀x∈lo.toArray.toList,ev F' x=ev F x)(h2:∀x∈hi.toArray.toList,ev F' x=ev F x)(h3:∀x∈mx.toArray.toList,ev F' x=ev F x)(t:TypeId)(v:AV):zDY P F' t v lo hi mx=zDY P F t v lo hi mx:=by
 have e:=fun v=>zPX (P:=P) h1 h2 h3 t v;unfold zDY;simp only[e]
theorem zYh{P:Program}{Γ:Gam}{F F':List AV}{H:zA}{op:Op}(h:∀x∈op.operands.toList,ev F' x=ev F x):qop P Γ F' H op=qop P Γ F H op:=by
 cases op
 case slice t x lo hi mx =>
   simp only[Op.operands,rxZ,qxZ]at h;have hx:ev F' x=ev F x:=h x (by simp);have e:=fun t v=>zSj (P:=P) (F:=F) (F':=F') (lo:=lo) (hi:=hi) (mx:=mx) (fun y hy=>h y (.inl (.inl (.inr hy)))) (fun y hy=>h y (.inl (.inr hy))) (fun y hy=>h y (.inr hy)) t v;simp only[qop,zAu,zAZ,zCR,zDP,hx,e]
 case build t ps =>
   have e:=zNy (F:=F) (F':=F') (l:=ps.toList) (by simpa[Op.operands] using h);simp only[qop,zAu,zIc,zAZ,zCR,e]
 case buildSlice t n ps =>
   have e:=zNy (F:=F) (F':=F') (l:=ps.toList) (by simpa[Op.operands] using h);simp only[qop,zMI,e]
 case makeFunc f a b =>
   simp only[Op.operands,rxZ,qxZ]at h;have e1:=zMn (F:=F) (F':=F') (l:=a.toList) fun x hx=>h x (.inl hx);have e2:=zMn (F:=F) (F':=F') (l:=b.toList) fun x hx=>h x (.inr hx);cases f <;> simp only[qop,zAu,zAZ,zCR,e1,e2]
 case call c =>
   obtain⟨g,args,ts⟩:=c;cases g with
   | value g =>
     simp only[Op.operands,Call.operands,rxZ,qxZ]at h;have e1:ev F' g=ev F g:=h g (.inl (by simp));have e2:=zMn (F:=F) (F':=F') (l:=args.toList) fun x hx=>h x (.inr hx);simp only[qop,zNd,zEP,scC,e1,e2]
   | invoke r m=>simp only[qop,zAu,zAZ,zCR]
   | builtin b =>
     simp only[Op.operands,Call.operands,rxZ,qxZ]at h;have e2:=zMn (F:=F) (F':=F') (l:=args.toList) fun x hx=>h x (.inr hx);have e3:∀x,x∈args.toList->ev F' x=ev F x:=fun x hx=>h x (.inr hx);cases b
     case len =>
       simp only[qop,zAu,zAZ,zCR,zDP];cases hts:ts.toList <;> cases hal:args.toList <;> simp only[] <;> rw[e3 _ (by rw[hal];simp)]
     case cap =>
       simp only[qop,zAu,zAZ,zCR];cases hts:ts.toList <;> cases hal:args.toList <;> simp only[] <;> rw[e3 _ (by rw[hal];simp)]
     all_goals simp only[qop,zAu,zAZ,zCR,e2]
 all_goals
   simp only[Op.operands,qwZ,rtZ,or_false,forall_eq_or_imp,forall_eq]at h;simp only[qop,zAu,zAZ,zCR,zNe,zMI,zDP,h]
def zAy(P:Program)(Γ:Gam)(ops:Array Oper)(F:List AV)(H:zA)(o:Oper):Option QR :=
 match zAk ops o F with
 | none=>none
 | some false=>some ⟨zX,H,none,none,false,false,false⟩
 | some true=>qop P Γ F H o.op
theorem zTb{ops:Array Oper}{o:Oper}{t:Nat}(h:.tmp t∈o.op.operands.toList):t∈zQ ops o:=by
 unfold zQ;exact List.mem_append_left _ (List.mem_filterMap.2 ⟨.tmp t,h,rfl⟩)
theorem zSx(ops:Array Oper)(o:Oper)(F:List AV):zAk ops o (zA4 (zQ ops o) F)=zAk ops o F:=by
 unfold zAk;split
 · rfl
 · rename_i j want hg
   split
   · rfl
   · rename_i t ht
     have:t∈zQ ops o:=by
       unfold zQ;refine List.mem_append_right _ ?_;rw[hg];dsimp only;rw[ht];simp
     generalize zQ ops o=rs at this;have e:(zA4 rs F)[t]? = F[t]?:=by
       rw[zFu];cases F[t]? with
       | none=>rfl
       | some x=>simp[this]
     rw[e]
theorem zIW(P:Program)(Γ:Gam)(ops:Array Oper)(F:List AV)(H:zA)(o:Oper):zEI P Γ ops F H o=zAy P Γ ops F H o:=by
 unfold zEI zAy;have e:qop P Γ (zA4 (zQ ops o) F) H o.op=qop P Γ F H o.op:=zYh fun x hx=>zXN _ F x (by
   rintro t rfl;exact zTb hx)
 rw[zSx,e];cases zAk ops o F with
 | none=>rfl
 | some b=>cases b <;> rfl
def zCz(P:Program)(Γ:Gam)(ops:Array Oper):List Oper->List AV->zA->List QF->List (Nat×Nat×List AV)->Option (List AV×zA)
 | [],F,H,fs,ss=>if zDI ops.toList (ops.toList.map (zQ ops)) fs then some (F,ss.foldl zAo H) else none
 | o::rest,F,H,fs,ss =>
   match zAy P Γ ops F H o with
   | none=>none
   | some q=>zCz P Γ ops rest (Zu F o.dst q.v) q.H (fs++[q.fl]) (ss++q.st.toList)
theorem zOO(P:Program)(Γ:Gam)(ops:Array Oper):∀(l:List Oper) (F:List AV) (H:zA) (fs:List QF) (ss:List (Nat×Nat×List AV)),zCz P Γ ops l F H fs ss =
   match zq P Γ ops l F H with
   | none=>none
   | some (qs,F',H')=>if zDI ops.toList (ops.toList.map (zQ ops)) (fs++qs.map QR.fl) then some (F',(ss++qs.filterMap (·.st)).foldl zAo H') else none
 | [],F,H,fs,ss=>by simp[zCz,zq]
 | o::rest,F,H,fs,ss=>by
   unfold zCz zq;rw[zIW];cases hq:zAy P Γ ops F H o with
   | none=>rfl
   | some q =>
     dsimp only;rw[zOO P Γ ops rest];cases hr:zq P Γ ops rest (Zu F o.dst q.v) q.H with
     | none=>rfl
     | some r =>
       obtain⟨qs,F',H'⟩:=r;dsimp only;have e:ss++q.st.toList++qs.filterMap (·.st)=ss++(q::qs).filterMap (·.st):=by
         rw[List.filterMap_cons];cases q.st <;> simp
       rw[e,qeZ,s1Z];rfl
attribute [-simp] zc zq
@[simp] theorem zEf(P:Program)(Γ:Gam)(ops:Array Oper)(F:List AV)(H:zA):zc P Γ ops F H=zCz P Γ ops ops.toList F H [] []:=by
 rw[zOO];unfold zc;cases hr:zq P Γ ops ops.toList F H with
 | none=>rfl
 | some r =>
   obtain⟨qs,F',H'⟩:=r;dsimp only;rw[zIw];simp
noncomputable def zLQ:Program->Gam->Array Oper->List Oper->List AV->zA->Option (List AV×zA):=Classical.choose (⟨zy,rfl⟩:∃f,f=zy)
theorem zI6:zLQ=zy:=Classical.choose_spec (⟨zy,rfl⟩:∃f,f=zy)
noncomputable def zLi:Program->Gam->Array Oper->List Oper->List AV->zA->List QF->List (Nat×Nat×List AV)->Option (List AV×zA):=Classical.choose (⟨zCz,rfl⟩:∃f,f=zCz)
theorem zFf:zLi=zCz:=Classical.choose_spec (⟨zCz,rfl⟩:∃f,f=zCz)
noncomputable def Z1:Program->Gam->Nat->Bool->Code->List AV->zA->zQD:=Classical.choose (⟨zK,rfl⟩:∃f,f=zK)
theorem Zf:Z1=zK:=Classical.choose_spec (⟨zK,rfl⟩:∃f,f=zK)
attribute [-simp] zK zy
@[simp] theorem zaJ(P:Program)(Γ:Gam)(n:Nat)(q:Bool)(c:Code)(F:List AV)(H:zA):zK P Γ n q c F H=Z1 P Γ n q c F H:=by rw[Zf]
@[simp] theorem zZl(P:Program)(Γ:Gam)(ops:Array Oper)(F:List AV)(H:zA):zLQ P Γ ops [] F H=some (F,H):=by rw[zI6];rfl
@[simp] theorem zYq(P:Program)(Γ:Gam)(ops:Array Oper)(o:Oper)(rest:List Oper)(F:List AV)(H:zA):zLQ P Γ ops (o::rest) F H =
   match zAk ops o F with
   | none=>none
   | some false=>zLQ P Γ ops rest (Zu F o.dst zX) H
   | some true =>
     match opA P Γ F H o.op with
     | none=>none
     | some (v,H')=>zLQ P Γ ops rest (Zu F o.dst v) H':=by
 rw[zI6];rfl
@[simp] theorem zZj(P:Program)(Γ:Gam)(ops:Array Oper)(F:List AV)(H:zA)(fs:List QF)(ss:List (Nat×Nat×List AV)):zLi P Γ ops [] F H fs ss=if zDI ops.toList (ops.toList.map (zQ ops)) fs then some (F,ss.foldl zAo H) else none:=by
 rw[zFf];rfl
@[simp] theorem zZK(P:Program)(Γ:Gam)(ops:Array Oper)(o:Oper)(rest:List Oper)(F:List AV)(H:zA)(fs:List QF)(ss:List (Nat×Nat×List AV)):zLi P Γ ops (o::rest) F H fs ss =
   match zAy P Γ ops F H o with
   | none=>none
   | some q=>zLi P Γ ops rest (Zu F o.dst q.v) q.H (fs++[q.fl]) (ss++q.st.toList):=by
 rw[zFf];rfl
attribute [simp] zAy
@[simp] theorem zYK(P:Program)(Γ:Gam)(n:Nat)(q:Bool)(F:List AV)(H:zA):Z1 P Γ n q .skip F H=some (.normal,F,H):=by rw[Zf];rfl
@[simp] theorem zXG(P:Program)(Γ:Gam)(n:Nat)(q:Bool)(l)(F:List AV)(H:zA):Z1 P Γ n q (.label l) F H=some (.normal,F,H):=by rw[Zf];rfl
@[simp] theorem zZG(P:Program)(Γ:Gam)(n:Nat)(q:Bool)(k)(ops:Array Oper)(F:List AV)(H:zA):Z1 P Γ n q (.region k ops false) F H=(zLQ P Γ ops ops.toList F H).map fun r=>(.normal,r):=by
 rw[Zf,zI6];rfl
@[simp] theorem zYF(P:Program)(Γ:Gam)(n:Nat)(q:Bool)(k)(ops:Array Oper)(F:List AV)(H:zA):Z1 P Γ n q (.region k ops true) F H=(zLi P Γ ops ops.toList F H [] []).map fun r=>(.normal,r):=by
 rw[Zf,zFf,<-zEf];rfl
@[simp] theorem zYr(P:Program)(Γ:Gam)(n:Nat)(q:Bool)(x y:Code)(F:List AV)(H:zA):Z1 P Γ n q (.seq x y) F H =
   match Z1 P Γ n q x F H with
   | some (.normal,F',H')=>Z1 P Γ n q y F' H'
   | r=>r:=by
 rw[Zf];rfl
@[simp] theorem zYS(P:Program)(Γ:Gam)(n:Nat)(q:Bool)(c:Operand)(x y:Code)(F:List AV)(H:zA):Z1 P Γ n q (.cond c x y) F H =
   match ev F c with
   | .bool t=>if t then Z1 P Γ n q x F H else Z1 P Γ n q y F H
   | _=>none:=by
 rw[Zf];rfl
@[simp] theorem zWv(P:Program)(Γ:Gam)(n:Nat)(q:Bool)(id:Nat)(x:Code)(F:List AV)(H:zA):Z1 P Γ n q (.block id x) F H =
   match Z1 P Γ n q x F H with
   | some (.exit id',F',H')=>if id'=id then some (.normal,F',H') else some (.exit id',F',H')
   | r=>r:=by
 rw[Zf];rfl
@[simp] theorem zYH(P:Program)(Γ:Gam)(n:Nat)(q:Bool)(x:Code)(F:List AV)(H:zA):Z1 P Γ n q (.loop x) F H=aloop (fun F H=>Z1 P Γ n q x F H) n F H:=by
 rw[Zf];rfl
@[simp] theorem zW3(P:Program)(Γ:Gam)(n:Nat)(q:Bool)(x:Code)(F:List AV)(H:zA):Z1 P Γ n q (.scope x) F H=Z1 P Γ n q x F H:=by rw[Zf];rfl
@[simp] theorem zYN(P:Program)(Γ:Gam)(n:Nat)(q:Bool)(id:Nat)(F:List AV)(H:zA):Z1 P Γ n q (.exit id) F H=some (.exit id,F,H):=by rw[Zf];rfl
@[simp] theorem zYt(P:Program)(Γ:Gam)(n:Nat)(q:Bool)(F:List AV)(H:zA):Z1 P Γ n q .ret F H=some (.ret,F,H):=by rw[Zf];rfl
end
section
mutual
def reA(g:Nat->Nat):AV->AV
 | .ptr b o=>.ptr (g b) o
 | .slice b o l sz c=>.slice (g b) o l sz c
 | .sl b o l sz c=>.sl (g b) o l sz c
 | .map b=>.map (g b)
 | .func f xs ys=>.func f (zj g xs) (zj g ys)
 | .yld b=>.yld (g b)
 | .agg l=>.agg (zj g l)
 | .tuple l=>.tuple (zj g l)
 | x=>x
def zj(g:Nat->Nat):List AV->List AV
 | []=>[]
 | x::xs=>reA g x::zj g xs
end
def reB(g:Nat->Nat):ABlk->ABlk
 | .dead=>.dead
 | .cells o l=>.cells o (zj g l)
 | .loop ps a b st pe F=>.loop ps a b st pe (zj g F)
 | .map es=>.map (es.map fun e=>(reA g e.1,reA g e.2))
 | .obj o s=>.obj o s
 | .pin l=>.pin (zj g l)
mutual
theorem zGq{g:Nat->Nat}{j j':Inj}(hg:∀b p,j b=some p->j' (g b)=some p):∀(x:AV) (v:Value),VR j x v->VR j' (reA g x) v
 | .top,_,_=>by simp[reA,VR]
 | .bool b,v,h=>by simpa[reA,VR] using h
 | .int _ n,v,h=>by simpa[reA,VR] using h
 | .str s,v,h=>by simpa[reA,VR] using h
 | .ptr b o,v,h=>by
   simp only[reA,VR]at h ⊢;obtain⟨p,h1,h2⟩:=h;exact⟨p,hg b p h1,h2⟩
 | .nilp,v,h=>by simpa[reA,VR] using h
 | .slice b o l sz c,v,h=>by
   simp only[reA,VR]at h ⊢;obtain⟨p,a,cap,h1,h2⟩:=h;exact⟨p,a,cap,hg b p h1,h2⟩
 | .sl b o l sz c,v,h=>by
   simp only[reA,VR]at h ⊢;rcases h with h | ⟨p,a,cap,hp,r⟩
   · exact .inl h
   · exact .inr ⟨p,a,cap,hg b p hp,r⟩
 | .nils,v,h=>by simpa[reA,VR] using h
 | .map b,v,h=>by
   simp only[reA,VR]at h ⊢;obtain⟨p,h1,h2⟩:=h;exact⟨p,hg b p h1,h2⟩
 | .nilm,v,h=>by simpa[reA,VR] using h
 | .func f xs ys,v,h=>by
   simp only[reA,VR]at h ⊢;obtain⟨cx,cy,e,h1,h2⟩:=h;exact⟨cx,cy,e,zEb hg xs _ h1,zEb hg ys _ h2⟩
 | .yld b,v,h=>by
   simp only[reA,VR]at h ⊢;obtain⟨p,h1,h2⟩:=h;exact⟨p,hg b p h1,h2⟩
 | .nilf,v,h=>by simpa[reA,VR] using h
 | .agg l,v,h=>by
   simp only[reA,VR]at h ⊢;obtain⟨cs,e,h1⟩:=h;exact⟨cs,e,zEb hg l _ h1⟩
 | .tuple l,v,h=>by
   simp only[reA,VR]at h ⊢;obtain⟨cs,e,h1⟩:=h;exact⟨cs,e,zEb hg l _ h1⟩
theorem zEb{g:Nat->Nat}{j j':Inj}(hg:∀b p,j b=some p->j' (g b)=some p):∀(xs:List AV) (vs:List Value),VRs j xs vs->VRs j' (zj g xs) vs
 | [],vs,h=>by simpa[zj,VRs] using h
 | x::xs,vs,h=>by
   simp only[zj,VRs]at h ⊢;obtain⟨v,ws,e,h1,h2⟩:=h;exact⟨v,ws,e,zGq hg x v h1,zEb hg xs ws h2⟩
end
theorem zHq(g:Nat->Nat):∀xs:List AV,(zj g xs).length=xs.length
 | []=>rfl
 | x::xs=>by simp[zj,zHq g xs]
theorem zKP(g:Nat->Nat):∀(xs:List AV) (i:Nat),(zj g xs)[i]? = (xs[i]?).map (reA g)
 | [],i=>by simp[zj]
 | x::xs,0=>by simp[zj]
 | x::xs,i+1=>by simp[zj,zKP g xs i]
theorem zIK(g:Nat->Nat)(y:ABlk):(reB g y).own=y.own:=by cases y <;> rfl
theorem zL7{g:Nat->Nat}{y:ABlk}(h:reB g y≠.dead):y≠.dead:=by rintro rfl;exact h rfl
theorem zQH{g:Nat->Nat}{j j':Inj}(hg:∀b p,j b=some p->j' (g b)=some p){w:World}{y:ABlk}{p:JB}(h:BRel j w y p):BRel j' w (reB g y) p:=by
 cases y with
 | dead=>trivial
 | cells o l =>
   obtain⟨cs,T,fz,g1,g2,g3,g4,g5⟩:=h;refine ⟨cs,T,fz,g1,g2,by rw[zHq];exact g3,fun i x hx=>?_,g5⟩;rw[zKP]at hx;obtain⟨x',hx',rfl⟩:=qlZ.1 hx;obtain⟨v,hv,hr⟩:=g4 i x' hx';exact⟨v,hv,zGq hg x' v hr⟩
 | loop ps a b st pe F =>
   obtain⟨fn,tmps,D,g1,g2⟩:=h;exact⟨fn,tmps,D,g1,zEb hg F _ g2⟩
 | map es =>
   obtain⟨ents,cl,g1,gs,g2,g3⟩:=h;refine ⟨ents,cl,g1,gs,by simpa using g2,fun i z e hz he=>?_⟩;rw[qzZ]at hz;obtain⟨x,hx,rfl⟩:=qlZ.1 hz;have:=g3 i x e hx he;exact⟨zGq hg _ _ this.1,zGq hg _ _ this.2⟩
 | obj _ _=>trivial
 | pin l =>
   obtain⟨h0,cs,T,fz,g1,g4⟩:=h;refine ⟨h0,cs,T,fz,g1,fun i x hx=>?_⟩;rw[zKP]at hx;obtain⟨x',hx',rfl⟩:=qlZ.1 hx;obtain⟨v,hv,hr⟩:=g4 i x' hx';exact⟨v,hv,zGq hg x' v hr⟩
theorem zFo(g:Nat->Nat){y:ABlk}(h:(reB g y).isObj=true):reB g y=y:=by cases y <;> simp_all [reB,ABlk.isObj]
def zn(em:List Nat)(n:Nat)(i:Nat):Nat:=match em[i]? with
 | some e=>e
 | none=>n+(i-em.length)
def zN(g:Nat->Nat):zA->List Nat->zA->zA->zA
 | H,e::em,B0::H0,B1::H1=>zN g (if B0.own then H.set e (reB g B1) else H) em H0 H1
 | H,_,_,_=>H
theorem zAD(g:Nat->Nat):∀(H:zA) (em:List Nat) (H0 H1:zA),(zN g H em H0 H1).length=H.length
 | H,[],_,_=>by simp[zN]
 | H,_::_,[],_=>by simp[zN]
 | H,_::_,_::_,[]=>by simp[zN]
 | H,e::em,B0::H0,B1::H1=>by
   unfold zN;rw[zAD];split <;> simp
theorem zAQ(g:Nat->Nat):∀(H:zA) (em:List Nat) (H0 H1:zA) (c:Nat),(∀(i:Nat) B,em[i]? = some c->H0[i]? = some B->¬B.own=true)->(zN g H em H0 H1)[c]? = H[c]?
 | H,[],_,_,c,_=>by simp[zN]
 | H,_::_,[],_,c,_=>by simp[zN]
 | H,_::_,_::_,[],c,_=>by simp[zN]
 | H,e::em,B0::H0,B1::H1,c,h=>by
   unfold zN;rw[zAQ g _ em H0 H1 c fun i B h1 h2=>h (i+1) B (by simpa using h1) (by simpa using h2)];split
   · rename_i ho
     have:e≠c:=by
       rintro rfl;exact h 0 B0 rfl rfl ho
     rw[qfZ this]
   · rfl
theorem zCv(g:Nat->Nat):∀(H:zA) (em:List Nat) (H0 H1:zA) (i e:Nat) (B0 B1:ABlk),em.Nodup->(∀x∈em,x<H.length)->em[i]? = some e->H0[i]? = some B0->B0.own=true->H1[i]? = some B1->(zN g H em H0 H1)[e]? = some (reB g B1)
 | H,[],_,_,i,e,B0,B1,_,_,h,_,_,_=>by simp at h
 | H,_::_,[],_,i,e,B0,B1,_,_,_,h,_,_=>by simp at h
 | H,_::_,_::_,[],i,e,B0,B1,_,_,_,_,_,h=>by simp at h
 | H,e'::em,B0'::H0,B1'::H1,0,e,B0,B1,hn,hl,h1,h2,h3,h4=>by
   simp at h1 h2 h4;subst h1;subst h2;subst h4
   unfold zN;rw[if_pos h3,zAQ g _ em H0 H1 e' fun i B k1 _=>?_]
   · rw[qgZ (hl e' (qhZ ..))]
   · exact absurd (qcZ k1) (rdZ.1 hn).1
 | H,e'::em,B0'::H0,B1'::H1,i+1,e,B0,B1,hn,hl,h1,h2,h3,h4=>by
   unfold zN;refine zCv g _ em H0 H1 i e B0 B1 (rdZ.1 hn).2 (fun x hx=>?_) (by simpa using h1) (by simpa using h2) h3 (by simpa using h4);have:=hl x (qiZ _ hx);split <;> simpa using this
theorem zP{P:Program}{f:FuncId}{args0 args:List AV}{H0 H1 H:zA}{v:AV}(h:Ct P f args0 H0 v H1)(em:List Nat)(hn:em.Nodup)(ha:AWs em args0 args)(hH:AWh em H H0 em)(ho:zA5 (H1.drop H0.length)=true) :
   Ct P f args H (reA (zn em H.length) v) (zN (zn em H.length) H em H0 H1++(H1.drop H0.length).map (reB (zn em H.length))):=by
 intro j w cargs hR hargs;obtain⟨hl,hat⟩:=hH.at;have hlt:∀x∈em,x<H.length:=by
   intro x hx;obtain⟨i,hi⟩:=List.getElem?_of_mem hx;have hil:i<H0.length:=by rw[hl];exact (q1Z.1 hi).1
   obtain⟨y,hy,_⟩:=hat i _ x (q3Z hil) hi;exact (q1Z.1 hy).1
 have hidx:∀i c,em[i]? = some c->em.idxOf c=i:=by
   intro i c hi;have hm:c∈em:=qcZ hi;have h1:em[em.idxOf c]? = some c:=by
     rw[q3Z (List.idxOf_lt_length_iff.2 hm),List.getElem_idxOf]
   exact (List.getElem?_inj (List.idxOf_lt_length_iff.2 hm) hn).1 (h1.trans hi.symm)
 have hR0:R (zEA em j) H0 w:=hR.ren hn hH.toG;refine (h (zEA em j) w cargs hR0 (AWs.ok _ _ _ ha hargs)).mono ?_;rintro e w' ⟨cv,j',rfl,h1,h2⟩
 let g:=zn em H.length
 let ov:Nat->Prop:=fun b=>b∈em/\(H0.getD (em.idxOf b) .dead).own=true
 have dov:∀b,Decidable (ov b):=fun b=>inferInstanceAs (Decidable (_/\_))
 let J:Inj:=⟨fun b=>if b<H.length then j b else j' (H0.length+(b-H.length)),
   fun b=>if b<H.length then (if ov b then j'.foot (em.idxOf b) else j.foot b) else j'.foot (H0.length+(b-H.length)),
   fun b=>if b<H.length then (if ov b then j'.shr (em.idxOf b) else j.shr b) else j'.shr (H0.length+(b-H.length))⟩
 have hJat:∀b,J b=if b<H.length then j b else j' (H0.length+(b-H.length)):=fun _=>rfl
 have hov:∀(i:Nat) B c,em[i]? = some c->H0[i]? = some B->B.own=true->ov c:=by
   intro i B c k1 k2 k3;refine ⟨qcZ k1,?_⟩;rw[hidx i c k1,q2Z,k2];exact k3
 have hnov:∀c,(∀(i:Nat) B,em[i]? = some c->H0[i]? = some B->¬B.own=true)->¬ov c:=by
   rintro c hc ⟨k1,k2⟩;obtain⟨i,hi⟩:=List.getElem?_of_mem k1;rw[hidx i c hi]at k2;cases hb:H0[i]? with
   | none=>rw[q2Z,hb]at k2;cases k2
   | some B =>
     rw[q2Z,hb]at k2;exact hc i B hi hb k2
 have hgold:∀i e,em[i]? = some e->g i=e:=fun i e hi=>by simp only[g,zn,hi]
 have hgnew:∀k,g (H0.length+k)=H.length+k:=fun k=>by
   simp only[g,zn];rw[s4Z (by omega)];dsimp only;omega
 have hJ:∀b p,j' b=some p->J (g b)=some p:=by
   intro b p hp;rcases s2Z b H0.length with hb | hb
   · have hbe:em[b]? = some (em[b]'(by omega)):=q3Z (by omega)
     rw[hgold b _ hbe];rw[h2.ext b hb]at hp;obtain⟨c,k1,k2⟩:=s6Z.1 hp;rw[hbe]at k1;cases k1;rw[hJat,if_pos (hlt _ (r3Z _))];exact k2
   · obtain⟨k,rfl⟩:=Nat.exists_eq_add_of_le hb
     rw[hgnew k,hJat,if_neg (by omega),s3Z];exact hp
 have hle:JLe j J:=by
   intro b p hp;have hb:b<H.length:=by
     rcases s2Z b H.length with h3 | h3
     · exact h3
     · rw[hR.dom b h3]at hp;cases hp
   rw[hJat,if_pos hb];exact hp
 have hlen:=zAD g H em H0 H1;have hcase:∀c y q,(zN g H em H0 H1++(H1.drop H0.length).map (reB g))[c]? = some y->J c=some q ->
     (c<H.length/\H[c]? = some y/\j c=some q/\∀(i:Nat) B,em[i]? = some c->H0[i]? = some B->¬B.own=true) \/
     (∃(i:Nat) (B0 B1 z:ABlk),c<H.length/\em[i]? = some c/\H0[i]? = some B0/\B0.own=true/\H1[i]? = some B1/\y=reB g B1/\j c=some q/\j' i=some q/\H[c]? = some z/\z.own=true) \/
     (∃(k:Nat) (B1:ABlk),c=H.length+k/\H1[H0.length+k]? = some B1/\y=reB g B1/\j' (H0.length+k)=some q):=by
   intro c y q hc hq;rw[hJat]at hq;rw[s7Z,hlen]at hc;split at hc <;> rename_i hcl
   · have hjc:j c=some q:=by rwa [if_pos hcl]at hq
     by_cases hown:∃(i:Nat) (B:ABlk),em[i]? = some c/\H0[i]? = some B/\B.own=true
     · obtain⟨i,B,k1,k2,k3⟩:=hown
       have hi0:i<H0.length:=(q1Z.1 k2).1;have hi1:i<H1.length:=rlZ hi0 h2.len;have k4:H1[i]? = some H1[i]:=q3Z hi1;have k5:=zCv g H em H0 H1 i c B _ hn hlt k1 k2 k3 k4;rw[k5]at hc;cases hc;obtain⟨z,hz,hw⟩:=hat i B c k2 k1;refine .inr (.inl ⟨i,B,_,z,hcl,k1,k2,k3,k4,rfl,hjc,?_,hz,hw.own k3⟩);rw[h2.ext i hi0];exact zBN k1 hjc
     · rw[zAQ g H em H0 H1 c fun i B k1 k2 k3=>hown ⟨i,B,k1,k2,k3⟩]at hc
       exact .inl ⟨hcl,hc,hjc,fun i B k1 k2 k3=>hown ⟨i,B,k1,k2,k3⟩⟩
   · rw[qzZ,r5Z]at hc
     obtain⟨B1,hB,rfl⟩:=qlZ.1 hc;rw[if_neg hcl]at hq;exact .inr (.inr ⟨c-H.length,B1,by omega,hB,rfl,hq⟩)
 let seen:Nat->Prop:=fun c=>∃(i:Nat) (B:ABlk),em[i]? = some c/\H0[i]? = some B/\B.own=true
 have hjfoot:∀(i c:Nat),em[i]? = some c->(zEA em j).foot i=j.foot c/\(zEA em j).shr i=j.shr c:=by
   intro i c hi;have hg:em.getD i 0=c:=by rw[q2Z,hi];rfl
   exact⟨by show j.foot (em.getD i 0)=_;rw[hg],by show j.shr (em.getD i 0)=_;rw[hg]⟩
 have hocc:∀u,Occ (zEA em j) H0 u->∃c y p,seen c/\H[c]? = some y/\y.own=true/\j c=some p/\(u=p.blk\/u∈Z2 j y c):=by
   rintro u ⟨i,B,p,k1,k2,k3,k4⟩;obtain⟨c,m1,m2⟩:=s6Z.1 k3;obtain⟨z,hz,hw⟩:=hat i B c k1 m1;exact⟨c,z,p,⟨i,B,m1,k1,k2⟩,hz,hw.own k2,m2,k4.imp id (zA2 (fun ho=>⟨hw.obj ho,hjfoot i c m1⟩) u)⟩
 have htch:∀u,Sch (zEA em j) H0 u->∃c y p,(y.own=true->seen c)/\H[c]? = some y/\y.str=true/\j c=some p/\(u=p.blk\/u∈ZR j y c):=by
   rintro u ⟨i,B,p,k1,k2,k3,k4⟩;obtain⟨c,m1,m2⟩:=s6Z.1 k3;obtain⟨z,hz,hw⟩:=hat i B c k1 m1;refine ⟨c,z,p,fun ho=>⟨i,B,m1,k1,?_⟩,hz,zLx hw.own hw.obj k2,m2,k4.imp id (zAv (fun ho=>⟨hw.obj ho,hjfoot i c m1⟩) u)⟩;cases hob:B.isObj with
   | false=>simpa[ABlk.str,hob] using k2
   | true=>rw[<-hw.obj hob];exact ho
 refine ⟨cv,J,rfl,zGq hJ v cv h1,Step.mergeF hR h2 seen hocc htch (fun b hb=>?_) (fun b x p hb hp=>?_)
   (fun b=>if b<H.length then (if ov b then (true,em.idxOf b) else (false,b)) else (true,H0.length+(b-H.length))) (fun b x p hb hx hp=>?_) (fun b b' x x' p p' hb _ hp hb' _ hp' hne e=>?_) (fun b hb=>?_) (by rw[qdZ,hlen];omega)⟩
 · rw[qdZ,hlen,r7Z,qkZ]at hb
   rw[hJat,if_neg (by omega)];exact h2.rel.dom _ (by have:=h2.len;omega)
 · rcases hcase b x p hb hp with⟨g0,g1,g2,g3⟩ | ⟨i,B0,B1,z,_,g1,g2,g3,g4,rfl,g6,g7,_,_⟩ | ⟨k,B1,rfl,g2,rfl,g4⟩
   · exact (hR.blk b x p g1 g2).mono hle fun hx=>Step.stay hR h2 hocc g1 hx g2 (fun _ ⟨i,B,m1,m2,m3⟩=>g3 i B m1 m2 m3) (.inl rfl)
   · exact zQH hJ (h2.rel.blk i B1 p g4 g7)
   · exact zQH hJ (h2.rel.blk _ B1 p g2 g4)
 · rcases hcase b x p hb hp with⟨g0,g1,g2,g3⟩ | ⟨i,B0,B1,z,g0,g1,g2,g3,g4,rfl,g6,g7,g8,g9⟩ | ⟨k,B1,rfl,g2,rfl,g4⟩
   · have hno:=hnov b g3
     simp only[g0,hno,if_true,if_false,qsZ];exact⟨⟨x,g1,hx,g2,id,fun _=>⟨rfl,by simp only[J,g0,hno,if_true,if_false],by simp only[J,g0,hno,if_true,if_false]⟩⟩,fun y hy ho ⟨i,B,m1,m2,m3⟩=>g3 i B m1 m2 m3⟩
   · have hyes:=hov i B0 b g1 g2 g3
     have hi:=hidx i b g1;simp only[g0,hyes,if_true,hi];refine ⟨⟨B1,g4,zL7 hx,g7,fun h=>by rwa [zIK]at h,fun ho=>⟨(zFo g ho).symm,by simp only[J,g0,hyes,if_true,hi],by simp only[J,g0,hyes,if_true,hi]⟩⟩,?_⟩;cases ho:(reB g B1).isObj with
     | true=>exact .inl (zR3 ho)
     | false=>exact .inr (.inr ⟨rfl,b,z,⟨i,B0,g1,g2,g3⟩,g8,Zn g9,g6⟩)
   · have hyo:B1.own=true:=by
       have:B1∈H1.drop H0.length:=qcZ (i:=k) (by rw[r5Z];exact g2)
       have:=s5Z.1 ho _ this;have hnd:=zL7 hx;cases B1 <;> simp_all [ABlk.own]
     simp only[show ¬H.length+k<H.length by omega,if_false,if_true,s3Z];exact⟨⟨B1,g2,zL7 hx,g4,fun h=>by rwa [zIK]at h,fun ho=>⟨(zFo g ho).symm,by show (if _ then _ else _)=_;rw[if_neg (by omega),s3Z],by show (if _ then _ else _)=_;rw[if_neg (by omega),s3Z]⟩⟩,.inl (zGe (by rw[zIK];exact hyo))⟩
 · rcases hcase b x p hb hp with⟨g0,g1,g2,g3⟩ | ⟨i,B0,B1,z,g0,g1,g2,g3,g4,rfl,g6,g7,g8,g9⟩ | ⟨k,B1,rfl,g2,rfl,g4⟩ <;>
     rcases hcase b' x' p' hb' hp' with⟨k0,k1,k2,k3⟩ | ⟨i',B0',B1',z',k0,k1,k2,k3,k4,rfl,k6,k7,k8,k9⟩ | ⟨k',B1',rfl,k2,rfl,k4⟩
   · simp only[g0,hnov b g3,k0,hnov b' k3,if_true,if_false]at e
     exact hne (Prod.mk.inj e).2
   · simp only[g0,hnov b g3,k0,hov i' B0' b' k1 k2 k3,if_true,if_false]at e
     cases (Prod.mk.inj e).1
   · simp only[g0,hnov b g3,show ¬H.length+k'<H.length by omega,if_true,if_false]at e
     cases (Prod.mk.inj e).1
   · simp only[g0,hov i B0 b g1 g2 g3,k0,hnov b' k3,if_true,if_false]at e
     cases (Prod.mk.inj e).1
   · simp only[g0,hov i B0 b g1 g2 g3,k0,hov i' B0' b' k1 k2 k3,if_true,hidx i b g1,hidx i' b' k1]at e
     have:=(Prod.mk.inj e).2;subst this;rw[g1]at k1;exact hne (Option.some.inj k1).symm
   · simp only[g0,hov i B0 b g1 g2 g3,show ¬H.length+k'<H.length by omega,if_true,if_false,hidx i b g1]at e
     have:=(Prod.mk.inj e).2;have:=(q1Z.1 g2).1;omega
   · simp only[k0,hnov b' k3,show ¬H.length+k<H.length by omega,if_true,if_false]at e
     cases (Prod.mk.inj e).1
   · simp only[k0,hov i' B0' b' k1 k2 k3,show ¬H.length+k<H.length by omega,if_true,if_false,hidx i' b' k1]at e
     have:=(Prod.mk.inj e).2;have:=(q1Z.1 k2).1;omega
   · simp only[show ¬H.length+k<H.length by omega,show ¬H.length+k'<H.length by omega,if_false,s3Z]at e
     have:=(Prod.mk.inj e).2;exact hne (by omega)
 · rw[hJat,if_pos hb]
def zZD(F:List AV->zA->Option (List Nat×zA×AV×zA)):zJ:=fun args H=>match F args H with
 | some (em,H0,v,H1)=>some (reA (zn em H.length) v,zN (zn em H.length) H em H0 H1++(H1.drop H0.length).map (reB (zn em H.length)),em)
 | none=>none
attribute [simp] reA zj reB zn zN zZD ABlk.own zA5
@[simp] theorem zTF(g:Nat->Nat):∀l:List (List UInt8),zj g (l.map AV.str)=l.map AV.str
 | []=>rfl
 | x::l=>by simp[zTF g l]
end
section
def jsh(k:Nat)(j:Inj):Inj:=⟨fun b=>j (k+b),fun b=>j.foot (k+b),fun b=>j.shr (k+b)⟩
@[simp] theorem zaS(k:Nat)(j:Inj)(b:Nat):jsh k j b=j (k+b):=rfl
mutual
theorem zEl{k:Nat}{j:Inj}:∀(x:AV) (v:Value),VR j (shA k x) v->VR (jsh k j) x v
 | .top,_,_=>by simp[VR]
 | .bool b,v,h=>by simpa[shA,VR] using h
 | .int _ n,v,h=>by simpa[shA,VR] using h
 | .str s,v,h=>by simpa[shA,VR] using h
 | .ptr b o,v,h=>by simpa[shA,VR] using h
 | .nilp,v,h=>by simpa[shA,VR] using h
 | .slice b o l sz c,v,h=>by simpa[shA,VR] using h
 | .sl b o l sz c,v,h=>by simpa[shA,VR] using h
 | .nils,v,h=>by simpa[shA,VR] using h
 | .map b,v,h=>by simpa[shA,VR] using h
 | .nilm,v,h=>by simpa[shA,VR] using h
 | .func f xs ys,v,h=>by
   simp only[shA,VR]at h ⊢;obtain⟨cx,cy,e,h1,h2⟩:=h;exact⟨cx,cy,e,zCs xs _ h1,zCs ys _ h2⟩
 | .yld b,v,h=>by simpa[shA,VR] using h
 | .nilf,v,h=>by simpa[shA,VR] using h
 | .agg l,v,h=>by
   simp only[shA,VR]at h ⊢;obtain⟨cs,e,h1⟩:=h;exact⟨cs,e,zCs l _ h1⟩
 | .tuple l,v,h=>by
   simp only[shA,VR]at h ⊢;obtain⟨cs,e,h1⟩:=h;exact⟨cs,e,zCs l _ h1⟩
theorem zCs{k:Nat}{j:Inj}:∀(xs:List AV) (vs:List Value),VRs j (zA9 k xs) vs->VRs (jsh k j) xs vs
 | [],vs,h=>by simpa[zA9,VRs] using h
 | x::xs,vs,h=>by
   simp only[zA9,VRs]at h ⊢;obtain⟨v,ws,e,h1,h2⟩:=h;exact⟨v,ws,e,zEl x v h1,zCs xs ws h2⟩
end
theorem zXh{k:Nat}{j:Inj}{w:World}{y:ABlk}{p:JB}(h:BRel j w (shB k y) p):BRel (jsh k j) w y p:=by
 cases y with
 | dead=>trivial
 | cells o l =>
   obtain⟨cs,T,fz,g1,g2,g3,g4,g5⟩:=h;refine ⟨cs,T,fz,g1,g2,by rw[zEE]at g3;exact g3,fun i x hx=>?_,g5⟩;obtain⟨v,hv,hr⟩:=g4 i (shA k x) (by rw[zD9,hx];rfl);exact⟨v,hv,zEl x v hr⟩
 | loop ps a b st pe F =>
   obtain⟨fn,tmps,D,g1,g2⟩:=h;exact⟨fn,tmps,D,g1,zCs F _ g2⟩
 | map es =>
   obtain⟨ents,cl,g1,gs,g2,g3⟩:=h;refine ⟨ents,cl,g1,gs,by simpa using g2,fun i z e hz he=>?_⟩;have:=g3 i (shA k z.1,shA k z.2) e (by rw[qzZ,hz];rfl) he;exact⟨zEl _ _ this.1,zEl _ _ this.2⟩
 | obj _ _=>trivial
 | pin l =>
   obtain⟨h0,cs,T,fz,g1,g4⟩:=h;refine ⟨h0,cs,T,fz,g1,fun i x hx=>?_⟩;obtain⟨v,hv,hr⟩:=g4 i (shA k x) (by rw[zD9,hx];rfl);exact⟨v,hv,zEl x v hr⟩
theorem zUQ{j j':Inj}{H N:zA}{w w':World}{v:AV}{cv:Value}(hR:R j H w)(hk:∀c,c<w.heap.size->w'.heap[c]? = w.heap[c]?)(hos:w'.os=w.os)(ht:w'.tape=w.tape)(ho:w'.output=w.output)(hsz:w.heap.size<=w'.heap.size)
   (hN:R0 j' N w') (hfr:∀(b:Nat) (y:ABlk) (p:JB),N[b]? = some y->y≠.dead->j' b=some p->(y.own=true/\w.heap.size<=p.blk)/\y.isObj=false) (hv:VR j' v cv) :
   VR (zEv H.length j j') (shA H.length v) cv/\Step H.length j H w (zEv H.length j j') (H++N.map (shB H.length)) w':=by
 have hle:JLe j (zEv H.length j j'):=by
   intro b p hp;have hb:b<H.length:=by
     rcases s2Z b H.length with h3 | h3
     · exact h3
     · rw[hR.dom b h3]at hp;cases hp
   rw[zBA,if_pos hb];exact hp
 have hcase:∀c y q,(H++N.map (shB H.length))[c]? = some y->zEv H.length j j' c=some q->(H[c]? = some y/\j c=some q)\/(∃b y',c=H.length+b/\N[b]? = some y'/\y=shB H.length y'/\j' b=some q):=by
   intro c y q hc hq;rw[s7Z]at hc;split at hc <;> rename_i hlt
   · rw[zBA,if_pos hlt]at hq
     exact .inl ⟨hc,hq⟩
   · rw[qzZ]at hc
     obtain⟨y',hy',rfl⟩:=qlZ.1 hc;rw[zBA,if_neg hlt]at hq;exact .inr ⟨c-H.length,y',by omega,hy',rfl,hq⟩
 refine ⟨zFF v cv hv,Step.make hR ⟨?_,?_,?_⟩ ?_ (by simp) ⟨hos,ht,ho,hsz,fun c hc _=>hk c hc⟩ ?_⟩
 · intro b hb
   simp at hb;rw[zBA,if_neg (by omega)];exact hN.dom _ (by omega)
 · intro b x p hb hp
   rcases hcase b x p hb hp with⟨g1,g2⟩ | ⟨b',y',rfl,g1,rfl,g2⟩
   · exact (hR.blk b x p g1 g2).mono hle fun hx=>hk _ (hR.ltx g1 hx g2)
   · exact zUw (hN.blk b' y' p g1 g2)
 · intro b b' y x p p' hb hy hb' hx hne hp hp'
   have nd:∀y':ABlk,shB H.length y'≠.dead->y'≠.dead:=by rintro y' h rfl;exact h rfl
   rcases hcase b y p hb hp with⟨g1,g2⟩ | ⟨c,y',rfl,g1,rfl,g2⟩ <;> rcases hcase b' x p' hb' hp' with⟨k1,k2⟩ | ⟨c',x',rfl,k1,rfl,k2⟩
   · exact hR.inj b b' y x p p' g1 hy k1 hx hne g2 k2
   · have:=hR.ltx g1 (Zn hy) g2
     have:=(hfr c' x' p' k1 (nd _ hx) k2).1.2;omega
   · have:=hR.ltx k1 hx k2
     have:=(hfr c y' p g1 (nd _ (Zn hy)) g2).1.2;omega
   · exact hN.inj c c' y' x' p p' g1 (by rw[<-zGP H.length];exact hy) k1 (nd _ hx) (fun e=>hne (by rw[e])) g2 k2
 · intro b hb
   rw[zBA,if_pos hb]
 · intro b y p hb hy hp
   rcases hcase b y p hb hp with⟨g1,g2⟩ | ⟨c,y',rfl,g1,rfl,g2⟩
   · have hbl:b<H.length:=(q1Z.1 g1).1
     exact .same g1 hy g2 (by simp[zEv,hbl]) (by simp[zEv,hbl])
   · have:=hfr c y' p g1 (zQ3 _ hy) g2
     refine .inl ⟨this.1.2,?_⟩;cases y' <;> simp_all [shB,ABlk.isObj]
theorem zL2{P:Program}{f:FuncId}{args0 args:List AV}{H0 H N:zA}{v:AV}(h:Ct P f args0 H0 (shA H0.length v) (H0++N.map (shB H0.length)))(ho:zA5 N=true)(wd:List (Nat×Nat))(ha:zBn wd args0 args)(hH:winH H H0 wd)(hno:N.all (fun x=>!x.isObj)=true:=by first | rfl | simp[ABlk.isObj]) :
   Ct P f args H (shA H.length v) (H++N.map (shB H.length)):=by
 intro j w cargs hR hargs;obtain⟨hl,hat⟩:=hH.at
 let j0:Inj:=⟨fun i=>match wd[i]? with
   | some (b,off)=>(j b).map fun p=>⟨p.blk,p.base+off,p.size⟩
   | none=>none,fun _=>[],fun _=>[]⟩
 have hj0:∀i p,j0 i=some p->∃b off q,wd[i]? = some (b,off)/\j b=some q/\p=⟨q.blk,q.base+off,q.size⟩:=by
   intro i p hp;simp only[j0]at hp;split at hp
   · rename_i b off e
     obtain⟨q,hq,rfl⟩:=qlZ.1 hp;exact⟨b,off,q,e,hq,rfl⟩
   · cases hp
 have hro:H0.all zHr=true:=by
   rw[s5Z];intro x hx;obtain⟨i,hi⟩:=List.getElem?_of_mem hx;have hil:i<wd.length:=by rw[<-hl];exact (q1Z.1 hi).1
   obtain⟨⟨l0,rfl⟩,_⟩:=hat i x _ _ hi (q3Z hil);rfl
 have hR0:R j0 H0 w:=by
   refine R.ro (fun b hb=>?_) (fun i x p hx hp=>?_) hro hR.glo.1
   · simp only[j0]
     rw[s4Z (show wd.length<=b by omega)]
   · obtain⟨b,off,q,h1,h2,rfl⟩:=hj0 i p hp
     obtain⟨y0,hy0⟩:=hR.live h2;obtain⟨l0,o,l,rfl,hb,h3,h4,h5⟩:=(hat i x b off hx h1).2 y0 hy0;obtain⟨cs,T,fz,g1,g2,g3,g4,g5⟩:=hR.blk b _ q hb h2;refine ⟨cs,T,fz,g1,g2,by dsimp only;omega,fun k z hz=>?_,fun ho=>by cases ho⟩;rw[h4,r4Z]at hz;split at hz
     · rw[r5Z]at hz
       obtain⟨v',hv',hr⟩:=g4 _ z hz;refine ⟨v',by dsimp only;rw[show q.base+off+k=q.base+(off+k) by omega];exact hv',?_⟩;refine VR.free z v' ?_ hr;refine frees_iff.1 h5 z ?_;rw[h4];refine qcZ (i:=k) ?_;rw[r4Z,if_pos ‹_›,r5Z];exact hz
     · cases hz
 have hargs0:∀(xs ys:List AV) (vs:List Value),zBn wd xs ys->VRs j ys vs->VRs j0 xs vs:=zF5 fun i b off p h1 h2=>by simp only[j0,h1,h2,rhZ]
 refine (h j0 w cargs hR0 (hargs0 _ _ _ ha hargs)).mono ?_;rintro e w' ⟨cv,j',rfl,h1,h2⟩;have hk:=zHE h2.keeps hro;have hfr:∀(b:Nat) (y:ABlk) (p:JB),N[b]? = some y->y≠.dead->j' (H0.length+b)=some p->(y.own=true/\w.heap.size<=p.blk)/\y.isObj=false:=by
   intro b y p hb hy hp;have hpl:y.isObj=false:=by simpa using s5Z.1 hno _ (qcZ hb)
   have hyo:y.own=true:=by
     have:=s5Z.1 ho _ (qcZ hb);cases y <;> simp_all [ABlk.own]
   have hb':(H0++N.map (shB H0.length))[H0.length+b]? = some (shB H0.length y):=by
     rw[q5Z (by omega),s3Z,qzZ,hb];rfl
   refine ⟨⟨hyo,?_⟩,hpl⟩;rcases h2.fresh p.blk ⟨_,_,p,hb',by rw[zGP];exact hyo,hp,.inl rfl⟩ with h3 | ⟨b0,y0,p0,h3,h4,_⟩
   · exact h3
   · exact absurd h4 (zRG (s5Z.1 hro _ (qcZ h3)))
 have hN:R0 (jsh H0.length j') N w':=by
   refine ⟨fun b hb=>h2.rel.dom _ (by simp;omega),fun b x p hb hp=>?_,fun b b' y x p p' hb hy hb' hx hne hp hp'=>?_⟩
   · refine zXh (h2.rel.blk (H0.length+b) (shB H0.length x) p ?_ hp)
     rw[q5Z (by omega),s3Z,qzZ,hb];rfl
   · refine h2.rel.inj (H0.length+b) (H0.length+b') (shB H0.length y) (shB H0.length x) p p' ?_ (by rw[zGP];exact hy) ?_ ?_ (by omega) hp hp'
     · rw[q5Z (by omega),s3Z,qzZ,hb];rfl
     · rw[q5Z (by omega),s3Z,qzZ,hb'];rfl
     · cases x <;> simp_all [shB]
 obtain⟨g1,g2⟩:=zUQ hR hk h2.keeps.os h2.keeps.tape h2.keeps.output h2.keeps.size hN hfr (zEl v cv h1);exact⟨cv,_,rfl,g1,g2⟩
def zAs(g:List AV->zA->Option (AV×zA)):zJ:=fun args H=>match g args H with
 | some (v,N)=>some (shA H.length v,H++N.map (shB H.length),[])
 | none=>none
theorem zCh{P:Program}{f:FuncId}{g:List AV->zA->Option (AV×zA)}(he:∀cargs w,(callFunc f cargs).run P w=.ok (.enter f cargs) w)
   (h:∀args H v N,g args H=some (v,N)->Ct P f args H (shA H.length v) (H++N.map (shB H.length))):Sound P f (zAs g):=by
 refine ⟨he,fun args H v H' W hs=>?_,fun args H v H' W hs=>?_⟩ <;> (unfold zAs at hs;split at hs <;> cases hs)
 · rename_i v0 N hg
   exact h args H _ _ hg
 · exact⟨by simp,fun b hb _=>by rw[q4Z hb]⟩
attribute [simp] zAs
theorem zBt{P:Program}{Γ:Gam}(hm:P.follows .mixedOrders=true)(hΓ:GOk P Γ){n:Nat}{f:FuncId}{fn:Func}(hf:P.funcs[f]? = some fn){args:List AV}{H H':zA}{v:AV}(h:∃v1 H1,zKk P Γ n fn args H=some (v1,H1)/\Weak H.length [v1] H1 [v] H') :
   Ct P f args H v H':=by
 obtain⟨v1,H1,h1,h2⟩:=h;exact zL0 hm hΓ hf h1 h2
end
end Go.Proofs.YtfhidaoiofeooaaGreatDoor
