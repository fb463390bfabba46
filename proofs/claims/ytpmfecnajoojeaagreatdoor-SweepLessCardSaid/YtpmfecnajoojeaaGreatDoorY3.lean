/- Parts of the proof of SweepLess: lemmas, each with its own conditions. -/
import Derived.Test.YtpmfecnajoojeaaGreatDoorY2
set_option maxHeartbeats 64000000
open List renaming getElem?_eq_some_iff → q1Z, getD_eq_getElem?_getD → q2Z, getElem?_eq_getElem → q3Z, getElem?_append_left → q4Z, getElem?_append_right → q5Z, length_cons → q7Z, cons_append → q9Z, nil_append → qaZ, replicate → qbZ, mem_of_getElem? → qcZ, length_append → qdZ, append_assoc → qeZ, getElem?_set_ne → qfZ, getElem?_set_self → qgZ, mem_cons_self → qhZ, mem_cons_of_mem → qiZ, length_drop → qkZ, mem_cons → qwZ, mem_append → qxZ, getElem?_map → qzZ, getElem_mem → r3Z, getElem?_take → r4Z, getElem?_drop → r5Z, length_map → r7Z, nodup_cons → rdZ, mem_map → reZ, not_mem_nil → rtZ, map_cons → s1Z, getElem?_eq_none → s4Z, all_eq_true → s5Z, getElem?_append → s7Z, mem_filter → sbZ
open Option renaming map_eq_some_iff → qlZ, map_some → rhZ, bind_eq_some_iff → s6Z
open Nat renaming le_refl → qnZ, zero_le → qqZ, lt_of_lt_of_le → rlZ, lt_or_ge → s2Z, add_sub_cancel_left → s3Z, zero_add → s8Z
open Bool renaming and_eq_true → qrZ, false_eq_true → qsZ
open Array renaming getElem?_eq_some_iff → qtZ, length_toList → rjZ, toList_append → rxZ
namespace Go.Proofs.YtpmfecnajoojeaaGreatDoor
set_option maxRecDepth 100000
mutual
def AW(rn:List Nat):AV→AV→Prop
 | .top,_=>True
 | .bool b,.bool b'=>b=b'
 | .int k n,.int k' n'=>k=k'∧n=n'
 | .str s,.str s'=>s=s'
 | .ptr b o,.ptr b' o'=>rn[b]? = some b'∧o=o'
 | .nilp,.nilp=>True
 | .slice b o l sz c,.slice b' o' l' sz' c'=>rn[b]? = some b'∧o=o'∧l=l'∧sz=sz'∧(c=true→c'=true)
 | .sl b o l sz c,.slice b' o' l' sz' c'=>rn[b]? = some b'∧o=o'∧l=l'∧sz=sz'∧(c=true→c'=true)
 | .sl b o l sz c,.sl b' o' l' sz' c'=>rn[b]? = some b'∧o=o'∧l=l'∧sz=sz'∧(c=true→c'=true)
 | .sl _ _ l _ _,.nils=>l=0
 | .nils,.nils=>True
 | .map b,.map b'=>rn[b]? = some b'
 | .nilm,.nilm=>True
 | .func f xs ys,.func f' xs' ys'=>f=f'∧AWs rn xs xs'∧AWs rn ys ys'
 | .yld b,.yld b'=>rn[b]? = some b'
 | .nilf,.nilf=>True
 | .agg l,.agg l'=>AWs rn l l'
 | .tuple l,.tuple l'=>AWs rn l l'
 | _,_=>False
def AWs(rn:List Nat):List AV→List AV→Prop
 | [],[]=>True
 | x::xs,y::ys=>AW rn x y∧AWs rn xs ys
 | _,_=>False
end
def jren(rn:List Nat)(j:Inj):Inj:=⟨fun b=>(rn[b]?).bind j,fun b=>j.foot (rn.getD b 0),fun b=>j.shr (rn.getD b 0)⟩
theorem jren_at(rn:List Nat)(j:Inj)(b:Nat):jren rn j b=(rn[b]?).bind j:=rfl
theorem jren_some{rn:List Nat}{j:Inj}{b b':Nat}{p:JB}(h:rn[b]? = some b')(hp:j b'=some p):jren rn j b=some p:=by simp[jren,h,hp]
mutual
theorem AW.ok{rn:List Nat}{j:Inj}:∀(x y:AV) (v:Value),AW rn x y→VR j y v→VR (jren rn j) x v
 | .top,_,_,_,_=>by simp[VR]
 | .bool b,y,v,h,hv=>by cases y <;> simp_all [AW,VR]
 | .int k n,y,v,h,hv=>by cases y <;> simp_all [AW,VR]
 | .str s,y,v,h,hv=>by cases y <;> simp_all [AW,VR]
 | .ptr b o,y,v,h,hv=>by
   cases y <;> simp only[AW]at h
   obtain⟨h1,rfl⟩:=h;simp only[VR]at hv ⊢;obtain⟨p,hp,e⟩:=hv;exact⟨p,jren_some h1 hp,e⟩
 | .nilp,y,v,h,hv=>by cases y <;> simp_all [AW,VR]
 | .slice b o l sz c,y,v,h,hv=>by
   cases y <;> simp only[AW]at h
   obtain⟨h1,rfl,rfl,rfl,h2⟩:=h;simp only[VR]at hv ⊢;obtain⟨p,a,cap,hp,e1,e2,e3,e4⟩:=hv
   exact⟨p,a,cap,jren_some h1 hp,e1,e2,fun hc=>e3 (h2 hc),e4⟩
 | .sl b o l sz c,y,v,h,hv=>by
   cases y <;> simp only[AW]at h
   case slice =>
     obtain⟨h1,rfl,rfl,rfl,h2⟩:=h;simp only[VR]at hv ⊢;obtain⟨p,a,cap,hp,e1,e2,e3,e4⟩:=hv
     exact .inr ⟨p,a,cap,jren_some h1 hp,e1,e2,fun hc=>e3 (h2 hc),e4⟩
   case sl =>
     obtain⟨h1,rfl,rfl,rfl,h2⟩:=h;simp only[VR]at hv ⊢;rcases hv with hv | ⟨p,a,cap,hp,e1,e2,e3,e4⟩
     · exact .inl hv
     · exact .inr ⟨p,a,cap,jren_some h1 hp,e1,e2,fun hc=>e3 (h2 hc),e4⟩
   case nils =>
     simp only[VR]at hv ⊢;exact .inl ⟨h,hv⟩
 | .nils,y,v,h,hv=>by cases y <;> simp_all [AW,VR]
 | .map b,y,v,h,hv=>by
   cases y <;> simp only[AW]at h
   simp only[VR]at hv ⊢;obtain⟨p,hp,e⟩:=hv;exact⟨p,jren_some h hp,e⟩
 | .nilm,y,v,h,hv=>by cases y <;> simp_all [AW,VR]
 | .func f xs ys,y,v,h,hv=>by
   cases y <;> simp only[AW]at h
   obtain⟨rfl,h1,h2⟩:=h;simp only[VR]at hv ⊢;obtain⟨cx,cy,e,g1,g2⟩:=hv;exact⟨cx,cy,e,AWs.ok _ _ _ h1 g1,AWs.ok _ _ _ h2 g2⟩
 | .yld b,y,v,h,hv=>by
   cases y <;> simp only[AW]at h
   simp only[VR]at hv ⊢;obtain⟨p,hp,e⟩:=hv;exact⟨p,jren_some h hp,e⟩
 | .nilf,y,v,h,hv=>by cases y <;> simp_all [AW,VR]
 | .agg l,y,v,h,hv=>by
   cases y <;> simp only[AW]at h
   simp only[VR]at hv ⊢;obtain⟨cs,e,g1⟩:=hv;exact⟨cs,e,AWs.ok _ _ _ h g1⟩
 | .tuple l,y,v,h,hv=>by
   cases y <;> simp only[AW]at h
   simp only[VR]at hv ⊢;obtain⟨cs,e,g1⟩:=hv;exact⟨cs,e,AWs.ok _ _ _ h g1⟩
theorem AWs.ok{rn:List Nat}{j:Inj}:∀(xs ys:List AV) (vs:List Value),AWs rn xs ys→VRs j ys vs→VRs (jren rn j) xs vs
 | [],ys,vs,h,hv=>by cases ys <;> simp_all [AWs,VRs]
 | x::xs,ys,vs,h,hv=>by
   cases ys <;> simp only[AWs]at h
   simp only[VRs]at hv ⊢;obtain⟨v,ws,e,g1,g2⟩:=hv;exact⟨v,ws,e,AW.ok _ _ _ h.1 g1,AWs.ok _ _ _ h.2 g2⟩
end
theorem AWs.len{rn:List Nat}:∀{xs ys:List AV},AWs rn xs ys→xs.length=ys.length
 | [],ys,h=>by cases ys <;> simp_all [AWs]
 | x::xs,ys,h=>by
   cases ys <;> simp only[AWs]at h
   simp[AWs.len h.2]
theorem AWs.at{rn:List Nat}:∀{xs ys:List AV},AWs rn xs ys→∀(i:Nat) x,xs[i]? = some x→∃y,ys[i]? = some y∧AW rn x y
 | [],ys,h,i,x,hx=>by simp at hx
 | x::xs,ys,h,i,x',hx=>by
   cases ys <;> simp only[AWs]at h
   cases i with
   | zero=>simp at hx;subst hx;exact⟨_,rfl,h.1⟩
   | succ i=>simpa using AWs.at h.2 i x' (by simpa using hx)
def AWb(rn:List Nat):ABlk→ABlk→Prop
 | .dead,_=>True
 | .cells o l,.cells o' l'=>(o=true→o'=true)∧AWs rn l l'
 | .loop ps asg body st pe F,.loop ps' asg' body' st' pe' F'=>ps=ps'∧asg=asg'∧body=body'∧st=st'∧pe=pe'∧AWs rn F F'
 | .map es,.map es'=>AWs rn (es.map (·.1)) (es'.map (·.1))∧AWs rn (es.map (·.2)) (es'.map (·.2))
 | .obj o s,.obj o' s'=>o=o'∧s=s'
 | .pin l,.pin l'=>AWs rn l l'
 | _,_=>False
theorem AWb.own{rn:List Nat}{x y:ABlk}(h:AWb rn x y)(hx:x.own=true):y.own=true:=by
 cases x <;> cases y <;> simp_all [AWb,ABlk.own]
theorem AWb.nd{rn:List Nat}{x y:ABlk}(h:AWb rn x y)(hx:x≠.dead):y≠.dead:=by
 cases x <;> cases y <;> simp_all [AWb]
theorem AWb.ok{rn:List Nat}{j:Inj}{w:World}{x y:ABlk}{p:JB}(hw:AWb rn x y)(this:BRel j w y p):BRel (jren rn j) w x p:=by
 cases x with
 | dead=>trivial
 | cells o l =>
   cases y with
   | dead=>simp[AWb]at hw
   | loop _ _ _ _ _ _=>simp[AWb]at hw
   | map _=>simp[AWb]at hw
   | obj _ _=>simp[AWb]at hw
   | pin _=>simp[AWb]at hw
   | cells o' l' =>
     obtain⟨w1,w2⟩:=hw;obtain⟨cs,T,fz,g1,g2,g3,g4,g5⟩:=this
     refine ⟨cs,T,fz,g1,g2,by rw[w2.len];exact g3,fun i z hz=>?_,fun ho=>g5 (w1 ho)⟩
     obtain⟨z',hz',hzw⟩:=w2.at i z hz;obtain⟨v,hv,hr⟩:=g4 i z' hz';exact⟨v,hv,AW.ok _ _ _ hzw hr⟩
 | loop ps asg body st pe F =>
   cases y with
   | dead=>simp[AWb]at hw
   | cells _ _=>simp[AWb]at hw
   | map _=>simp[AWb]at hw
   | obj _ _=>simp[AWb]at hw
   | pin _=>simp[AWb]at hw
   | loop ps' asg' body' st' pe' F' =>
     obtain⟨rfl,rfl,rfl,rfl,rfl,w2⟩:=hw;obtain⟨fn,tmps,D,g1,g2⟩:=this;exact⟨fn,tmps,D,g1,AWs.ok _ _ _ w2 g2⟩
 | map es =>
   cases y with
   | dead=>simp[AWb]at hw
   | cells _ _=>simp[AWb]at hw
   | loop _ _ _ _ _ _=>simp[AWb]at hw
   | obj _ _=>simp[AWb]at hw
   | pin _=>simp[AWb]at hw
   | map es' =>
     obtain⟨w1,w2⟩:=hw;obtain⟨ents,cl,g1,gs,g2,g3⟩:=this;have hl:=w1.len;simp at hl
     refine ⟨ents,cl,g1,gs,by omega,fun i z e hz he=>?_⟩
     obtain⟨k',hk',hkw⟩:=w1.at i z.1 (by rw[qzZ,hz];rfl)
     obtain⟨v',hv',hvw⟩:=w2.at i z.2 (by rw[qzZ,hz];rfl)
     rw[qzZ]at hk' hv'
     cases hx:es'[i]? with
     | none=>rw[hx]at hk';cases hk'
     | some x =>
       rw[hx]at hk' hv'
       cases hk';cases hv'
       have:=g3 i x e hx he;exact⟨AW.ok _ _ _ hkw this.1,AW.ok _ _ _ hvw this.2⟩
 | obj _ _=>trivial
 | pin l =>
   cases y with
   | dead=>simp[AWb]at hw
   | cells _ _=>simp[AWb]at hw
   | loop _ _ _ _ _ _=>simp[AWb]at hw
   | map _=>simp[AWb]at hw
   | obj _ _=>simp[AWb]at hw
   | pin l' =>
     have w2:AWs rn l l':=hw;obtain⟨h0,cs,T,fz,g1,g4⟩:=this
     refine ⟨h0,cs,T,fz,g1,fun i z hz=>?_⟩
     obtain⟨z',hz',hzw⟩:=w2.at i z hz;obtain⟨v,hv,hr⟩:=g4 i z' hz';exact⟨v,hv,AW.ok _ _ _ hzw hr⟩
theorem AWb.obj{rn:List Nat}{x y:ABlk}(h:AWb rn x y)(hx:x.isObj=true):y=x:=by
 cases x <;> cases y <;> simp_all [AWb,ABlk.isObj]
def AWh(rn:List Nat)(H:AHeap):AHeap→List Nat→Prop
 | [],[]=>True
 | x::xs,b::bs=>AWb rn x (H.getD b .dead)∧b<H.length∧AWh rn H xs bs
 | _,_=>False
theorem AWh.at{rn:List Nat}{H:AHeap}:∀{xs:AHeap} {bs:List Nat},AWh rn H xs bs→xs.length=bs.length∧∀(i:Nat) x b,xs[i]? = some x→bs[i]? = some b→∃y,H[b]? = some y∧AWb rn x y
 | [],bs,h=>by cases bs <;> simp_all [AWh]
 | x::xs,bs,h=>by
   cases bs <;> simp only[AWh]at h
   rename_i b bs;obtain⟨h1,h2,h3⟩:=h;obtain⟨g1,g2⟩:=AWh.at h3
   refine ⟨by simp[g1],fun i x' b' hx hb=>?_⟩
   cases i with
   | zero =>
     simp at hx hb
     subst hx;subst hb
     refine ⟨H[b],q3Z h2,?_⟩;rw[q2Z,q3Z h2]at h1;exact h1
   | succ i=>exact g2 i x' b' (by simpa using hx) (by simpa using hb)
def AWg(rn:List Nat)(H:AHeap):AHeap→List Nat→Prop
 | [],[]=>True
 | x::xs,b::bs=>(if b<H.length then AWb rn x (H.getD b .dead) else True)∧AWg rn H xs bs
 | _,_=>False
theorem AWg.at{rn:List Nat}{H:AHeap}:∀{xs:AHeap} {bs:List Nat},AWg rn H xs bs→xs.length=bs.length∧∀(i:Nat) x b,xs[i]? = some x→bs[i]? = some b→b<H.length→∃y,H[b]? = some y∧AWb rn x y
 | [],bs,h=>by cases bs <;> simp_all [AWg]
 | x::xs,bs,h=>by
   cases bs <;> simp only[AWg]at h
   rename_i b bs;obtain⟨h1,h3⟩:=h;obtain⟨g1,g2⟩:=AWg.at h3
   refine ⟨by simp[g1],fun i x' b' hx hb hlt=>?_⟩
   cases i with
   | zero =>
     simp at hx hb
     subst hx;subst hb
     rw[if_pos hlt]at h1;refine ⟨H[b],q3Z hlt,?_⟩;rw[q2Z,q3Z hlt]at h1;exact h1
   | succ i=>exact g2 i x' b' (by simpa using hx) (by simpa using hb) hlt
theorem AWh.toG{rn:List Nat}{H:AHeap}:∀{xs:AHeap} {bs:List Nat},AWh rn H xs bs→AWg rn H xs bs
 | [],bs,h=>by cases bs <;> simp_all [AWh,AWg]
 | x::xs,bs,h=>by
   cases bs <;> simp only[AWh]at h
   obtain⟨h1,h2,h3⟩:=h
   exact⟨by rw[if_pos h2];exact h1,h3.toG⟩
structure Weak (n:Nat) (F:List AV) (H:AHeap) (Fn:List AV) (Hn:AHeap):Prop where
 rn:∃rn:List Nat,rn.Nodup∧n≤rn.length∧(∀b,b<n→rn[b]? = some b)∧AWs rn Fn F∧AWg rn H Hn rn
theorem Weak.mk'{n:Nat}{F:List AV}{H:AHeap}{Fn:List AV}{Hn:AHeap}(rn:List Nat)(h1:rn.Nodup)(h2:rn.take n=List.range n)(h3:AWs rn Fn F)(h4:AWg rn H Hn rn):Weak n F H Fn Hn:=by
 have hl:n≤rn.length:=by
   have:=congrArg List.length h2;simp at this;omega
 refine ⟨rn,h1,hl,fun b hb=>?_,h3,h4⟩
 have:(rn.take n)[b]? = (List.range n)[b]?:=by rw[h2]
 rw[r4Z,if_pos hb]at this;rw[this];simp[hb]
theorem Step.ren{n:Nat}{j:Inj}{H Hn:AHeap}{w:World}(h:R j H w){rn:List Nat}(hnd:rn.Nodup)(hh:AWg rn H Hn rn)(hn:∀b,b<n→rn[b]? = some b)(hln:n≤rn.length):Step n j H w (jren rn j) Hn w:=by
 obtain⟨hl,hat⟩:=hh.at
 have hget:∀b p,jren rn j b=some p→∃b',rn[b]? = some b'∧j b'=some p:=fun b p hp=>s6Z.1 hp
 have hlt:∀b' p,j b'=some p→b'<H.length:=by
   intro b' p hp;rcases s2Z b' H.length with h1 | h1
   · exact h1
   · rw[h.dom b' h1]at hp;cases hp
 refine Step.make h ⟨fun b hb=>?_,fun b x p hb hp=>?_,fun b b' yb x p p' hb hyb hb' hd hne hp hp'=>?_⟩ (fun b hb=>?_) (by omega) (Keeps0.refl _ _ _) fun b x p hb hx hp=>?_
 · rw[jren_at,s4Z (show rn.length≤b by omega)];rfl
 · obtain⟨b',h1,h2⟩:=hget b p hp
   obtain⟨y,hy,hw⟩:=hat b x b' hb h1 (hlt b' p h2);exact hw.ok (h.blk b' y p hy h2)
 · obtain⟨c,h1,h2⟩:=hget b p hp
   obtain⟨c',k1,k2⟩:=hget b' p' hp';obtain⟨y,hy,hw⟩:=hat b _ c hb h1 (hlt c p h2);obtain⟨y',hy',hw'⟩:=hat b' _ c' hb' k1 (hlt c' p' k2)
   have hcc:c≠c':=by
     intro e;subst e;have hlt:b<rn.length:=(q1Z.1 h1).1;exact hne ((List.getElem?_inj hlt hnd).1 (h1.trans k1.symm))
   exact h.inj c c' y y' p p' hy (hw.own hyb) hy' (hw'.nd hd) hcc h2 k2
 · rw[jren_at,hn b hb];rfl
 · obtain⟨c,k1,k2⟩:=hget b p hp
   obtain⟨y,hy,hw⟩:=hat b _ c hb k1 (hlt c p k2)
   have hg:rn.getD b 0=c:=by rw[q2Z,k1];rfl
   exact .inr ⟨c,y,p,hy,hw.nd hx,k2,rfl,hw.own,fun ho=>⟨hw.obj ho,rfl,by show j.foot (rn.getD b 0)=_;rw[hg],by show j.shr (rn.getD b 0)=_;rw[hg]⟩⟩
theorem R.ren{j:Inj}{H Hn:AHeap}{w:World}(h:R j H w){rn:List Nat}(hnd:rn.Nodup)(hh:AWg rn H Hn rn):R (jren rn j) Hn w:=(Step.ren (n:=0) h hnd hh (fun b hb=>by omega) (qqZ _)).rel
theorem Weak.step{n m:Nat}{F Fn:List AV}{H Hn H0:AHeap}{j0 j:Inj}{w0 w:World}(h:Weak n F H Fn Hn)(hm:m≤n)(hs:Step m j0 H0 w0 j H w){vs:List Value}(hF:VRs j F vs) :
   ∃j',Step m j0 H0 w0 j' Hn w∧VRs j' Fn vs:=by
 obtain⟨rn,h1,h2,h3,h4,h5⟩:=h;exact⟨jren rn j,hs.trans (Step.ren hs.rel h1 h5 h3 h2) hm,AWs.ok _ _ _ h4 hF⟩
theorem Sim.weak{P:Program}{r:Option Nat}{n0:Nat}{c:Code}{F Fn:List AV}{H Hn:AHeap}{Q:AX→List AV→AHeap→Prop}(hw:Weak n0 F H Fn Hn)(hn:n0≤H.length)(h:Sim P r n0 c Fn Hn Q):Sim P r n0 c F H Q:=by
 intro B j w a m hB hR hF hd;obtain⟨j',hs,hF'⟩:=hw.step (qnZ _) (Step.refl hR hn) hF;refine wpIn_mono (h B j' w a m hB hs.rel hF' hd) ?_;rintro e a' w' ⟨x,F',H',j2,h1,h2,h3,h4,h5⟩;exact⟨x,F',H',j2,h1,h2,h3,h4,hs.trans h5 (qnZ _)⟩
def resOne(P:Program)(F:List AV)(H:AHeap):ResultVar→Option AV
 | .tmp t=>some (F.getD t undefA)
 | .cell a t=>loadA P H t (F.getD a undefA)
def resList(P:Program)(F:List AV)(H:AHeap):List ResultVar→Option (List AV)
 | []=>some []
 | x::xs=>match resOne P F H x,resList P F H xs with
   | some v,some vs=>some (v::vs)
   | _,_=>none
def resA(P:Program)(rs:List ResultVar)(F:List AV)(H:AHeap):Option AV :=
 match resList P F H rs with
 | some [v]=>some v
 | some vs=>some (.tuple vs)
 | none=>none
theorem tmp_ok{j:Inj}{F:List AV}{tmps:Array Value}(h:VRs j F tmps.toList)(t:Nat):VR j (F.getD t undefA) (tmps.getD t undef) :=
 ev_ok (a:={ tmps,defers:=[] }) h (.tmp t)
def resVal(tmps:Array Value):ResultVar→Sem Value
 | .tmp t=>pure (tmps.getD t undef)
 | .cell a t=>do loadVar t (←asAddr (tmps.getD a undef))
theorem resOne_ok{P:Program}{j:Inj}{F:List AV}{H:AHeap}{w:World}(hR:R j H w){tmps:Array Value}(hF:VRs j F tmps.toList){x:ResultVar}{v:AV}(h:resOne P F H x=some v) :
   ∃cv,Sem.run P (resVal tmps x) w=.ok cv w∧VR j v cv:=by
 cases x with
 | tmp t=>cases h;exact⟨_,rfl,tmp_ok hF t⟩
 | cell a t =>
   simp only[resOne]at h;have ha:=tmp_ok hF a;obtain⟨cv,h1,h2⟩:=loadA_ok hR h ha;refine ⟨cv,?_,h2⟩;unfold Instr.loadAt at h1
   have hp:∃b off,F.getD a undefA=.ptr b off:=by
     unfold loadA at h;split at h
     · rename_i b off e;exact⟨b,off,e⟩
     · cases h
   obtain⟨b,off,e⟩:=hp;rw[e]at ha;simp only[VR]at ha;obtain⟨p,hp,hv⟩:=ha
   show Sem.run P (do loadVar t (←asAddr (tmps.getD a undef))) w=_
   rw[hv]at h1 ⊢;exact h1
theorem resList_ok{P:Program}{j:Inj}{F:List AV}{H:AHeap}{w:World}(hR:R j H w){tmps:Array Value}(hF:VRs j F tmps.toList):∀{xs:List ResultVar} {vs:List AV},resList P F H xs=some vs →
   ∃cvs,Sem.run P (xs.mapM (resVal tmps)) w=.ok cvs w∧VRs j vs cvs
 | [],vs,h=>by cases h;exact⟨[],rfl,rfl⟩
 | x::xs,vs,h=>by
   unfold resList at h;split at h
   · rename_i v vs' h1 h2
     cases h;obtain⟨cv,g1,g2⟩:=resOne_ok hR hF h1;obtain⟨cvs,k1,k2⟩:=resList_ok hR hF h2;refine ⟨cv::cvs,?_,cv,cvs,rfl,g2,k2⟩;rw[List.mapM_cons,rb g1,rb k1];rfl
   · cases h
theorem resA_ok{P:Program}{j:Inj}{F:List AV}{H:AHeap}{w:World}(hR:R j H w){tmps:Array Value}(hF:VRs j F tmps.toList){fn:Func}{v:AV}(h:resA P fn.results.toList F H=some v) :
   ∃cv,(results fn tmps).run P w=.ok cv w∧VR j v cv:=by
 have run:∀vs,resList P F H fn.results.toList=some vs→∃cvs,VRs j vs cvs∧(results fn tmps).run P w=.ok (if h:cvs.toArray.size=1 then cvs.toArray[0] else .tuple cvs.toArray) w:=by
   intro vs hvs;obtain⟨cvs,h1,h2⟩:=resList_ok hR hF hvs;refine ⟨cvs,h2,?_⟩
   show Sem.run P (fn.results.mapM (resVal tmps) >>= fun vs=>pure (if h:vs.size=1 then vs[0] else .tuple vs)) w=_
   have e:Sem.run P (fn.results.mapM (resVal tmps)) w=.ok cvs.toArray w:=by
     rw[Array.mapM_eq_mapM_toList];show Sem.run P (List.toArray <$> fn.results.toList.mapM _) w=_;rw[map_eq_pure_bind,rb h1];rfl
   rw[rb e];rfl
 unfold resA at h;split at h
 · rename_i v' hv
   cases h;obtain⟨cvs,h1,h2⟩:=run _ hv;simp only[VRs]at h1;obtain⟨c,ws,rfl,h3,rfl⟩:=h1
   exact⟨c,by rw[h2];rfl,h3⟩
 · rename_i vs hne hv
   cases h;obtain⟨cvs,h1,h2⟩:=run _ hv
   refine ⟨.tuple cvs.toArray,?_,cvs.toArray,rfl,by simpa using h1⟩
   rw[h2,dif_neg];have hl:=h1.length;simp;rw[←hl];intro e1
   match vs,e1 with
   | [x],_=>exact hne x rfl
 · cases h
def shut:List Nat→World→World
 | [],w=>w
 | D::Ds,w=>shut Ds (w.putObj D (.deferred none))
theorem step_shut{n:Nat}{j0 j:Inj}{H0 H:AHeap}{w0:World}(hg0:gsz≤w0.heap.size):∀(Ds:List Nat) (w:World),Step n j0 H0 w0 j H w→Ds.Nodup→(∀D∈Ds,w0.heap.size≤D∧w.heap[D]? = some (.deferred (some [])))→Step n j0 H0 w0 j H (shut Ds w)
 | [],w,hs,_,_=>hs
 | D::Ds,w,hs,hn,hd=>by
   obtain⟨hd1,hd2⟩:=hd D (qhZ)
   refine step_shut hg0 Ds _ ?_ (rdZ.1 hn).2 fun D' hD'=>?_
   · refine ⟨hs.rel.same_on (by simp) (fun u hu=>World.putObj_heap_other (by omega)) fun u hu=>World.putObj_heap_other ?_,hs.ext,hs.len,⟨hs.keeps.os,hs.keeps.tape,hs.keeps.output,by simpa using hs.keeps.size,fun c hc ho=>?_⟩,hs.fresh,hs.tch⟩
     · rintro rfl
       obtain⟨o,g1,g2⟩:=hs.rel.nd hu;rw[g1]at hd2;cases hd2;exact g2 _ rfl
     · rw[World.putObj_heap_other (by omega)];exact hs.keeps.block c hc ho
   · refine ⟨(hd D' (qiZ _ hD')).1,?_⟩
     rw[World.putObj_heap_other (show D'≠D from fun e=>(rdZ.1 hn).1 (by rw[←e];exact hD'))]
     exact (hd D' (qiZ _ hD')).2
theorem leaves_shut{F:Fence}{n:Nat}{P:Program}{fn:Func}{tmps:Array Value}{R:Ending→World→Prop}:∀(Ds:List Nat) (w:World),Ds.Nodup→(∀D∈Ds,w.heap[D]? = some (.deferred (some []))) →
   (∃v,(results fn tmps).run P (shut Ds w)=.ok v (shut Ds w)∧R (.returned v) (shut Ds w))→LeavesInM F n P fn tmps R (Ds.map amark) .returning w
 | [],w,_,_,h=>h
 | D::Ds,w,hn,hd,h=>by
   refine ⟨by simp,.inl ⟨D,w.putObj D (.deferred none),rfl,run_takeDeferred (hd D (qhZ)),?_⟩⟩
   refine leaves_shut Ds _ (rdZ.1 hn).2 (fun D' hD'=>?_) h
   rw[World.putObj_heap_other (show D'≠D from fun e=>(rdZ.1 hn).1 (by rw[←e];exact hD'))]
   exact hd D' (qiZ _ hD')
theorem body_end{P:Program}{fn:Func}{F1:List AV}{H H1:AHeap}{v1:AV}{j j':Inj}{w w':World}{a':Act}{n:Nat}{x:AX}(hg0:gsz≤w.heap.size)(hx:x=.normal∨x=.ret)(hv1:resA P fn.results.toList F1 H1=some v1)(h3:VRs j' F1 a'.tmps.toList)(h4:DefOk w.heap.size w' a'.defers)
   (h5:Step H.length j H w j' H1 w') {R:Ending→World→Prop} (hR:∀cv w2,VR j' v1 cv→Step H.length j H w j' H1 w2→R (.returned cv) w2):bodyPostM (FW none) n P fn R (AX.toExit x) a' w':=by
 obtain⟨Ds,e,hn,hd⟩:=h4;have hs:=step_shut hg0 Ds w' h5 hn hd;obtain⟨cv,g1,g2⟩:=resA_ok hs.rel h3 hv1
 have:=leaves_shut (F:=FW none) (n:=n) (P:=P) (fn:=fn) (tmps:=a'.tmps) (R:=R) Ds w' hn (fun D hD=>(hd D hD).2) ⟨cv,g1,hR cv _ g2 hs⟩
 rcases hx with rfl | rfl
 · show LeavesInM (FW none) n P fn a'.tmps R a'.defers .returning w'
   rw[e];exact this
 · show LeavesInM (FW none) n P fn a'.tmps R a'.defers .returning w'
   rw[e];exact this
theorem ct_of_sim{P:Program}{f:FuncId}{fn:Func}{c:Code}(hf:P.funcs[f]? = some fn)(hb:fn.body=some c){args:List AV}{H H':AHeap}{v:AV}
   (h:Sim P none H.length c (args++qbZ (fn.ntmps-args.length) undefA) H fun x F1 H1=>(x=.normal∨x=.ret)∧∃v1,resA P fn.results.toList F1 H1=some v1∧Weak H.length [v1] H1 [v] H'):Ct P f args H v H':=by
 intro j w cargs hR hargs;refine (callsIn_wide (n:=0)).1 ?_;refine callsIn_of_wp_marks hf hb trivial ?_ rfl;have hl:=hargs.length
 have hF:VRs j (args++qbZ (fn.ntmps-args.length) undefA) (cargs++Array.replicate (fn.ntmps-cargs.size) undef).toList:=by
   rw[rxZ,Array.toList_replicate,hl,rjZ]
   exact hargs.append (VRs.replicate (v:=undef) (show VR j undefA undef from ⟨#[],rfl,rfl⟩) _)
 refine wpIn_mono (h w.heap.size j w { tmps:=cargs++Array.replicate (fn.ntmps-cargs.size) undef,defers:=[] } 0 (qnZ _) hR hF (DefOk.nil _ _)) ?_;rintro e a' w' ⟨x,F',H1,j',rfl,⟨hx,v1,hv1,hw⟩,h3,h4,h5⟩
 refine body_end hR.glo.1.2 hx hv1 h3 h4 h5 fun cv w2 g2 hs=>?_
 obtain⟨j2,k1,k2⟩:=hw.step (qnZ _) hs (vs:=[cv]) ⟨cv,[],rfl,g2,rfl⟩;simp only[VRs]at k2;obtain⟨_,_,e,k3,_⟩:=k2;cases e;exact⟨cv,j2,rfl,k3,k1⟩
section
def runF(P:Program)(Γ:Gam)(n:Nat)(fn:Func)(args:List AV)(H:AHeap):Option (AV×AHeap) :=
 match fn.body with
 | none=>none
 | some c =>
   match acode P Γ n true c (args++qbZ (fn.ntmps-args.length) undefA) H with
   | some (.ret,F',H')=>(resA P fn.results.toList F' H').map (·,H')
   | some (.normal,F',H')=>(resA P fn.results.toList F' H').map (·,H')
   | _=>none
theorem ct_run{P:Program}{Γ:Gam}(hm:P.follows .mixedOrders=true)(hΓ:GOk P Γ){n:Nat}{f:FuncId}{fn:Func}(hf:P.funcs[f]? = some fn){args:List AV}{H H1 H':AHeap}{v1 v:AV}(h:runF P Γ n fn args H=some (v1,H1))(hw:Weak H.length [v1] H1 [v] H') :
   Ct P f args H v H':=by
 unfold runF at h;split at h
 · cases h
 rename_i c hc;refine ct_of_sim hf hc ?_;split at h
 · rename_i F' H2 hr
   obtain⟨v2,hv,e⟩:=qlZ.1 h;cases e;exact Sim.exec hm hΓ hr (qnZ _) ⟨.inr rfl,_,hv,hw⟩
 · rename_i F' H2 hr
   obtain⟨v2,hv,e⟩:=qlZ.1 h;cases e;exact Sim.exec hm hΓ hr (qnZ _) ⟨.inl rfl,_,hv,hw⟩
 · cases h
abbrev Summ:=List AV→AHeap→Option (AV×AHeap×List Nat)
def gam:List (FuncId×Summ)→Gam
 | [],_,_,_=>none
 | (g,s)::l,f,args,H=>if f=g then s args H else gam l f args H
def pureS(g:List AV→Option AV):Summ:=fun args H=>match g args with
 | some v=>some (v,H,[])
 | none=>none
theorem sound_pure{P:Program}{f:FuncId}{g:List AV→Option AV}(he:∀cargs w,(callFunc f cargs).run P w=.ok (.enter f cargs) w)
   (h:∀args v,g args=some v→Ct P f args [] v []∧frees args=true∧free v=true):Sound P f (pureS g):=by
 refine ⟨he,fun args H v H' W hs=>?_,fun args H v H' W hs=>?_⟩ <;> (unfold pureS at hs;split at hs <;> cases hs)
 · rename_i v hg
   obtain⟨h1,h2,h3⟩:=h args _ hg;exact ct_pure h1 h2 h3
 · exact⟨qnZ _,fun _ _ _=>rfl⟩
def readS(g:List AV→AHeap→Option AV):Summ:=fun args H=>match g args H with
 | some v=>some (v,H,[])
 | none=>none
theorem sound_read{P:Program}{f:FuncId}{g:List AV→AHeap→Option AV}(he:∀cargs w,(callFunc f cargs).run P w=.ok (.enter f cargs) w)
   (h:∀args H v,g args H=some v→Ct P f args H v H):Sound P f (readS g):=by
 refine ⟨he,fun args H v H' W hs=>?_,fun args H v H' W hs=>?_⟩ <;> (unfold readS at hs;split at hs <;> cases hs)
 · rename_i v hg
   exact h args _ _ hg
 · exact⟨qnZ _,fun _ _ _=>rfl⟩
mutual
theorem AW.refl(rn:List Nat):∀x,free x=true→AW rn x x
 | .top,_=>by simp[AW]
 | .bool b,_=>by simp[AW]
 | .int k n,_=>by simp[AW]
 | .str s,_=>by simp[AW]
 | .ptr b o,hf=>by simp[Go.Proofs.YtpmfecnajoojeaaGreatDoor.free]at hf
 | .nilp,_=>by simp[AW]
 | .slice ..,hf=>by simp[Go.Proofs.YtpmfecnajoojeaaGreatDoor.free]at hf
 | .sl ..,hf=>by simp[Go.Proofs.YtpmfecnajoojeaaGreatDoor.free]at hf
 | .nils,_=>by simp[AW]
 | .map _,hf=>by simp[Go.Proofs.YtpmfecnajoojeaaGreatDoor.free]at hf
 | .nilm,_=>by simp[AW]
 | .func f xs ys,hf=>by
   simp[Go.Proofs.YtpmfecnajoojeaaGreatDoor.free]at hf;simp only[AW];exact⟨trivial,AWs.refl rn xs hf.1,AWs.refl rn ys hf.2⟩
 | .yld _,hf=>by simp[Go.Proofs.YtpmfecnajoojeaaGreatDoor.free]at hf
 | .nilf,_=>by simp[AW]
 | .agg l,hf=>by
   simp[Go.Proofs.YtpmfecnajoojeaaGreatDoor.free]at hf;simp only[AW];exact AWs.refl rn l hf
 | .tuple l,hf=>by
   simp[Go.Proofs.YtpmfecnajoojeaaGreatDoor.free]at hf;simp only[AW];exact AWs.refl rn l hf
theorem AWs.refl(rn:List Nat):∀xs,frees xs=true→AWs rn xs xs
 | [],_=>by simp[AWs]
 | x::xs,hf=>by
   simp[frees]at hf;exact⟨AW.refl rn x hf.1,AWs.refl rn xs hf.2⟩
end
theorem weak_pure{v:AV}{H:AHeap}(h:free v=true):Weak 0 [v] H [v] [] :=
 ⟨[],by simp,qnZ _,fun b hb=>by omega,⟨AW.refl [] v h,trivial⟩,trivial⟩
theorem Sim.loopW{P:Program}{r:Option Nat}{n0:Nat}{x:Code}{Q:AX→List AV→AHeap→Prop}{σ:Type}(I:σ→Prop)(Fs:σ→List AV)(Hs:σ→AHeap)(μ:σ→Nat)(s0:σ){F:List AV}{H:AHeap}(hn:n0≤H.length)(hI:I s0)(h0:Weak n0 F H (Fs s0) (Hs s0))
   (round:∀s,I s→Sim P r n0 x (Fs s) (Hs s) fun e F' H'=>match e with | .normal=>∃s',I s'∧Weak n0 F' H' (Fs s') (Hs s')∧μ s'<μ s | e=>Q e F' H'):Sim P r n0 (.loop x) F H Q:=by
 refine Sim.loop (fun s F H=>I s∧Weak n0 F H (Fs s) (Hs s)) μ s0 hn ⟨hI,h0⟩ fun s F H hn ⟨hi,hw⟩=>?_
 refine Sim.weak hw hn ((round s hi).mono fun e F' H' _ hq=>?_)
 cases e with
 | normal =>
   obtain⟨s',h1,h2,h3⟩:=hq;exact⟨s',⟨h1,h2⟩,h3⟩
 | exit id=>exact hq
 | ret=>exact hq
theorem Sim.step{P:Program}{Γ:Gam}(hm:P.follows .mixedOrders=true)(hΓ:GOk P Γ){r:Option Nat}{n0 n:Nat}{x y:Code}{F F':List AV}{H H':AHeap}{Q:AX→List AV→AHeap→Prop}(h:acode P Γ n r.isNone x F H=some (.normal,F',H'))(hn:n0≤H.length)(k:Sim P r n0 y F' H' Q):Sim P r n0 (.seq x y) F H Q :=
 Sim.seq (Sim.exec hm hΓ h hn k)
@[simp] theorem AWs_free{rn:List Nat}{xs:List AV}(h:frees xs=true):AWs rn xs xs↔True:=⟨fun _=>trivial,fun _=>AWs.refl rn xs h⟩
theorem frees_iff:∀{xs:List AV},frees xs=true↔∀x∈xs,free x=true
 | []=>by simp[frees]
 | x::xs=>by simp[frees,frees_iff (xs:=xs)]
theorem frees_map{α:Type}(l:List α)(f:α→AV)(h:∀x,free (f x)=true):frees (l.map f)=true:=by
 rw[frees_iff];intro x hx;obtain⟨a,_,rfl⟩:=reZ.1 hx;exact h a
@[simp] theorem free_top:free .top=true:=rfl
@[simp] theorem free_bool(b:Bool):free (.bool b)=true:=rfl
@[simp] theorem free_int(k:IntKind)(n:Int):free (.int k n)=true:=rfl
@[simp] theorem free_str(s:List UInt8):free (.str s)=true:=rfl
@[simp] theorem free_nilp:free .nilp=true:=rfl
@[simp] theorem free_nils:free .nils=true:=rfl
@[simp] theorem free_nilm:free .nilm=true:=rfl
@[simp] theorem free_nilf:free .nilf=true:=rfl
@[simp] theorem free_agg(l:List AV):free (.agg l)=frees l:=rfl
@[simp] theorem free_tuple(l:List AV):free (.tuple l)=frees l:=rfl
@[simp] theorem free_func(f:Nat)(xs ys:List AV):free (.func f xs ys)=(frees xs&&frees ys):=rfl
@[simp] theorem frees_nil:frees []=true:=rfl
@[simp] theorem frees_cons(x:AV)(xs:List AV):frees (x::xs)=(free x&&frees xs):=rfl
def aB(n:Nat):AV:=.int .u8 n
@[simp] theorem free_aB(n:Nat):free (aB n)=true:=rfl
@[simp] theorem frees_bytes(s:List UInt8):frees (bytesA s)=true:=frees_map s _ fun _=>rfl
theorem wr_u32{n:Int}(h0:0≤n)(h:n≤4294967295):IntKind.u32.wrap n=n:=by rw[IntKind.wrap_u32];omega
theorem wr_u64{n:Int}(h0:0≤n)(h:n≤18446744073709551615):IntKind.u64.wrap n=n:=by rw[IntKind.wrap_u64];omega
theorem wr_u8{n:Int}(h0:0≤n)(h:n≤255):IntKind.u8.wrap n=n:=by rw[IntKind.wrap_u8];omega
theorem wr_i64{n:Int}(h0 : -9223372036854775808≤n)(h:n≤9223372036854775807):IntKind.i64.wrap n=n:=IntWalk.i64_in n (by omega)
attribute [simp] acode aops opA apure ev ofV ofV1 wantA putA abin intA cmpA strA undefA unA pickA convA lenA idxA elemA partA isAggA loadA peekA flatA storeA cellsA isCell newA rowA textA readA bytesOf buildA fillA zerosA sliceA lowHigh boundA minsA minA fieldAddrA fieldA appendA srcA resA resList resOne callA isU8 nilA eqA gam pureS readS runF aloop adraw qrun qstep qop slotsOf readsOf putS isRo IntKind.bits AW AWs AWb AWh AWg sliceA0 append0 nothingA appendA0 appendB appendS appendM appendN appendU appendZ pureA lookupA findA mapSetA mapLenA keyOk abin0 capA cellsEq primEq kindsOk kindOk scC
end
section
mutual
def avEq:AV→AV→Bool
 | .top,.top=>true
 | .bool a,.bool b=>a==b
 | .int k n,.int k' n'=>k==k'&&n==n'
 | .str s,.str s'=>s==s'
 | .ptr b o,.ptr b' o'=>b==b'&&o==o'
 | .nilp,.nilp=>true
 | .slice b o l sz c,.slice b' o' l' sz' c'=>b==b'&&o==o'&&l==l'&&sz==sz'&&c==c'
 | .sl b o l sz c,.sl b' o' l' sz' c'=>b==b'&&o==o'&&l==l'&&sz==sz'&&c==c'
 | .nils,.nils=>true
 | .map b,.map b'=>b==b'
 | .nilm,.nilm=>true
 | .func f xs ys,.func f' xs' ys'=>f==f'&&avsEq xs xs'&&avsEq ys ys'
 | .yld b,.yld b'=>b==b'
 | .nilf,.nilf=>true
 | .agg l,.agg l'=>avsEq l l'
 | .tuple l,.tuple l'=>avsEq l l'
 | _,_=>false
def avsEq:List AV→List AV→Bool
 | [],[]=>true
 | x::xs,y::ys=>avEq x y&&avsEq xs ys
 | _,_=>false
end
mutual
theorem avEq_eq:∀{x y:AV},avEq x y=true→x=y
 | .top,y,h=>by cases y <;> simp_all [avEq]
 | .bool b,y,h=>by cases y <;> simp_all [avEq]
 | .int k n,y,h=>by cases y <;> simp_all [avEq]
 | .str s,y,h=>by cases y <;> simp_all [avEq]
 | .ptr b o,y,h=>by cases y <;> simp_all [avEq]
 | .nilp,y,h=>by cases y <;> simp_all [avEq]
 | .slice b o l sz c,y,h=>by cases y <;> simp_all [avEq]
 | .sl b o l sz c,y,h=>by cases y <;> simp_all [avEq]
 | .nils,y,h=>by cases y <;> simp_all [avEq]
 | .map b,y,h=>by cases y <;> simp_all [avEq]
 | .nilm,y,h=>by cases y <;> simp_all [avEq]
 | .func f xs ys,y,h=>by
   cases y <;> simp only[avEq,qsZ]at h
   simp only[qrZ,beq_iff_eq]at h;rw[h.1.1,avsEq_eq h.1.2,avsEq_eq h.2]
 | .yld b,y,h=>by cases y <;> simp_all [avEq]
 | .nilf,y,h=>by cases y <;> simp_all [avEq]
 | .agg l,y,h=>by
   cases y <;> simp only[avEq,qsZ]at h
   rw[avsEq_eq h]
 | .tuple l,y,h=>by
   cases y <;> simp only[avEq,qsZ]at h
   rw[avsEq_eq h]
theorem avsEq_eq:∀{xs ys:List AV},avsEq xs ys=true→xs=ys
 | [],ys,h=>by cases ys <;> simp_all [avsEq]
 | x::xs,ys,h=>by
   cases ys <;> simp only[avsEq,qsZ]at h
   simp only[qrZ]at h;rw[avEq_eq h.1,avsEq_eq h.2]
end
mutual
theorem avEq_refl:∀(x:AV),avEq x x=true
 | .top | .nilp | .nils | .nilm | .nilf=>rfl
 | .bool b=>by simp[avEq]
 | .int k n=>by simp[avEq]
 | .str s=>by simp[avEq]
 | .ptr b o=>by simp[avEq]
 | .slice b o l sz c=>by simp[avEq]
 | .sl b o l sz c=>by simp[avEq]
 | .map b=>by simp[avEq]
 | .func f xs ys=>by simp[avEq,avsEq_refl xs,avsEq_refl ys]
 | .yld b=>by simp[avEq]
 | .agg l=>by simp[avEq,avsEq_refl l]
 | .tuple l=>by simp[avEq,avsEq_refl l]
theorem avsEq_refl:∀(xs:List AV),avsEq xs xs=true
 | []=>rfl
 | x::xs=>by simp[avsEq,avEq_refl x,avsEq_refl xs]
end
attribute [simp] avEq_refl avsEq_refl
def blkEq:ABlk→ABlk→Bool
 | .dead,.dead=>true
 | .cells o l,.cells o' l'=>o==o'&&avsEq l l'
 | .map es,.map es'=>avsEq (es.map (·.1)) (es'.map (·.1))&&avsEq (es.map (·.2)) (es'.map (·.2))
 | .pin l,.pin l'=>avsEq l l'
 | .obj false [.cells true l],.obj false [.cells true l']=>avsEq l l'
 | _,_=>false
def heapEq:AHeap→AHeap→Bool
 | [],[]=>true
 | x::xs,y::ys=>blkEq x y&&heapEq xs ys
 | _,_=>false
theorem pairs_eq:∀{es es':List (AV×AV)},es.map (·.1)=es'.map (·.1)→es.map (·.2)=es'.map (·.2)→es=es'
 | [],[],_,_=>rfl
 | (a,b)::es,(c,d)::es',h1,h2=>by
   simp only[s1Z,List.cons.injEq]at h1 h2;rw[h1.1,h2.1,pairs_eq h1.2 h2.2]
 | [],_::_,h,_=>by simp at h
 | _::_,[],h,_=>by simp at h
theorem blkEq_eq{x y:ABlk}(h:blkEq x y=true):x=y:=by
 unfold blkEq at h;split at h
 · rfl
 · simp only[qrZ,beq_iff_eq]at h
   rw[h.1,avsEq_eq h.2]
 · simp only[qrZ]at h
   rw[pairs_eq (avsEq_eq h.1) (avsEq_eq h.2)]
 · rw[avsEq_eq h]
 · rw[avsEq_eq h]
 · cases h
theorem heapEq_eq:∀{xs ys:AHeap},heapEq xs ys=true→xs=ys
 | [],ys,h=>by cases ys <;> simp_all [heapEq]
 | x::xs,ys,h=>by
   cases ys <;> simp only[heapEq,qsZ]at h
   simp only[qrZ]at h;rw[blkEq_eq h.1,heapEq_eq h.2]
attribute [simp] heapEq
def onceS(args0:List AV)(H0:AHeap)(v:AV)(H1:AHeap)(W:List Nat):Summ:=fun args H=>if avsEq args args0&&heapEq H H0 then some (v,H1,W) else none
theorem sound_once{P:Program}{f:FuncId}{args0:List AV}{H0 H1:AHeap}{v:AV}{W:List Nat}(he:∀cargs w,(callFunc f cargs).run P w=.ok (.enter f cargs) w)(h:Ct P f args0 H0 v H1)(hl:H0.length≤H1.length)(hk:∀b,b<H0.length→b∉W→H1[b]? = H0[b]?) :
   Sound P f (onceS args0 H0 v H1 W):=by
 refine ⟨he,fun args H v' H' W' hs=>?_,fun args H v' H' W' hs=>?_⟩ <;> (unfold onceS at hs;split at hs <;> cases hs) <;> (rename_i hc;simp only[qrZ]at hc;obtain⟨h1,h2⟩:=hc;have e1:=avsEq_eq h1;have e2:=heapEq_eq h2;subst e1;subst e2)
 · exact h
 · exact⟨hl,hk⟩
def gams:List (FuncId×Summ)→Gam
 | [],_,_,_=>none
 | (g,s)::l,f,args,H=>if f=g then (match s args H with | some r=>some r | none=>gams l f args H) else gams l f args H
theorem goks_nil{P:Program}:GOk P (gams []):=⟨fun _ _ ⟨_,_,_,h⟩=>by simp[gams]at h,fun _ _ _ _ _ _ h=>by simp[gams]at h⟩
theorem goks_cons{P:Program}{g:FuncId}{s:Summ}{l:List (FuncId×Summ)}(h:Sound P g s)(hl:GOk P (gams l))(hg:g≠yl:=by decide):GOk P (gams ((g,s)::l)):=by
 refine ⟨fun f hne hf=>?_,?_⟩
 · by_cases e:f=g
   · subst e
     refine ⟨h.enter,fun args H v H' W hs=>?_,fun args H v H' W hs=>?_⟩ <;> (simp only[gams,if_true]at hs;split at hs)
     · rename_i r hr
       cases hs;exact h.ct _ _ _ _ _ hr
     · exact (hl.1 f hne ⟨_,_,_,hs⟩).ct _ _ _ _ _ hs
     · rename_i r hr
       cases hs;exact h.keep _ _ _ _ _ hr
     · exact (hl.1 f hne ⟨_,_,_,hs⟩).keep _ _ _ _ _ hs
   · have:gams ((g,s)::l) f=gams l f:=by funext args H;simp[gams,e]
     rw[this]at hf ⊢;exact hl.1 f hne hf
 · have:gams ((g,s)::l) yl=gams l yl:=by funext args H;simp only[gams];rw[if_neg (Ne.symm hg)]
   rw[this];exact hl.2
mutual
def winA(wd:List (Nat×Nat)):AV→AV→Prop
 | .slice i 0 n sz false,.slice b off n' sz' _=>wd[i]? = some (b,off)∧n=n'∧sz=sz'
 | .sl i 0 n sz false,.slice b off n' sz' _=>wd[i]? = some (b,off)∧n=n'∧sz=sz'
 | .sl i 0 n sz false,.sl b off n' sz' _=>wd[i]? = some (b,off)∧n=n'∧sz=sz'
 | .sl _ 0 n _ false,.nils=>n=0
 | .agg xs,.agg ys=>winAs wd xs ys
 | x,y=>x=y∧free x=true
def winAs(wd:List (Nat×Nat)):List AV→List AV→Prop
 | [],[]=>True
 | x::xs,y::ys=>winA wd x y∧winAs wd xs ys
 | _,_=>False
end
mutual
theorem winA_ok{wd:List (Nat×Nat)}{j j0:Inj}(hj:∀i b off p,wd[i]? = some (b,off)→j b=some p→j0 i=some ⟨p.blk,p.base+off,p.size⟩):∀(x y:AV) (v:Value),winA wd x y→VR j y v→VR j0 x v
 | x,y,v,hw,h1=>by
   unfold winA at hw;split at hw
   · rename_i i n sz b off n' sz' c
     obtain⟨w1,rfl,rfl⟩:=hw;simp only[VR]at h1 ⊢;obtain⟨p,a,cap,hp,e1,e2,e3,e4,e5⟩:=h1
     refine ⟨⟨p.blk,p.base+off,p.size⟩,a,cap,hj _ _ _ _ w1 hp,e1,e2,(fun hh=>by cases hh),e4,?_⟩
     rcases e5 with e5 | ⟨e5,e6⟩
     · exact .inl e5
     · exact .inr ⟨by rw[e5];simp,by simpa using e6⟩
   · rename_i i n sz b off n' sz' c
     obtain⟨w1,rfl,rfl⟩:=hw;simp only[VR]at h1 ⊢;obtain⟨p,a,cap,hp,e1,e2,e3,e4,e5⟩:=h1
     refine .inr ⟨⟨p.blk,p.base+off,p.size⟩,a,cap,hj _ _ _ _ w1 hp,e1,e2,(fun hh=>by cases hh),e4,?_⟩
     rcases e5 with e5 | ⟨e5,e6⟩
     · exact .inl e5
     · exact .inr ⟨by rw[e5];simp,by simpa using e6⟩
   · rename_i i n sz b off n' sz' c
     obtain⟨w1,rfl,rfl⟩:=hw;simp only[VR]at h1 ⊢;rcases h1 with h1 | ⟨p,a,cap,hp,e1,e2,e3,e4,e5⟩
     · exact .inl h1
     refine .inr ⟨⟨p.blk,p.base+off,p.size⟩,a,cap,hj _ _ _ _ w1 hp,e1,e2,(fun hh=>by cases hh),e4,?_⟩
     rcases e5 with e5 | ⟨e5,e6⟩
     · exact .inl e5
     · exact .inr ⟨by rw[e5];simp,by simpa using e6⟩
   · subst hw
     simp only[VR]at h1 ⊢;exact .inl ⟨trivial,h1⟩
   · rename_i xs ys
     simp only[VR]at h1 ⊢;obtain⟨cs,e,g⟩:=h1;exact⟨cs,e,winAs_ok hj xs ys _ hw g⟩
   · obtain⟨rfl,hf⟩:=hw
     exact VR.free _ _ hf h1
theorem winAs_ok{wd:List (Nat×Nat)}{j j0:Inj}(hj:∀i b off p,wd[i]? = some (b,off)→j b=some p→j0 i=some ⟨p.blk,p.base+off,p.size⟩):∀(xs ys:List AV) (vs:List Value),winAs wd xs ys→VRs j ys vs→VRs j0 xs vs
 | [],ys,vs,h,hv=>by cases ys <;> simp_all [winAs,VRs]
 | x::xs,ys,vs,h,hv=>by
   cases ys with
   | nil=>simp[winAs]at h
   | cons y ys =>
     simp only[winAs]at h;simp only[VRs]at hv ⊢;obtain⟨u,us,e,h1,h2⟩:=hv;exact⟨u,us,e,winA_ok hj x y u h.1 h1,winAs_ok hj xs ys us h.2 h2⟩
end
def winH(H:AHeap):AHeap→List (Nat×Nat)→Prop
 | [],[]=>True
 | .cells false l0::xs,(b,off)::wd=>(match H[b]? with | some (.cells _ l)=>off+l0.length≤l.length∧l0=(l.drop off).take l0.length | none=>True | _=>False)∧frees l0=true∧winH H xs wd
 | _,_=>False
theorem winH.at{H:AHeap}:∀{xs:AHeap} {wd:List (Nat×Nat)},winH H xs wd→xs.length=wd.length∧∀(i:Nat) x b off,xs[i]? = some x→wd[i]? = some (b,off) →
   (∃l0,x=.cells false l0)∧∀y,H[b]? = some y→∃l0 o l,x=.cells false l0∧H[b]? = some (.cells o l)∧off+l0.length≤l.length∧l0=(l.drop off).take l0.length∧frees l0=true
 | [],wd,h=>by cases wd <;> simp_all [winH]
 | .dead::xs,wd,h=>by simp[winH]at h
 | .cells true l0::xs,wd,h=>by simp[winH]at h
 | .loop _ _ _ _ _ _::xs,wd,h=>by simp[winH]at h
 | .map _::xs,wd,h=>by simp[winH]at h
 | .pin _::xs,wd,h=>by simp[winH]at h
 | .cells false l0::xs,[],h=>by simp[winH]at h
 | .cells false l0::xs,(b,off)::wd,h=>by
   simp only[winH]at h;obtain⟨h1,h2,h3⟩:=h;obtain⟨g1,g2⟩:=winH.at h3
   refine ⟨by simp[g1],fun i x b' off' hx hb=>?_⟩
   cases i with
   | zero =>
     simp at hx hb;obtain⟨rfl,rfl⟩:=hb;subst hx
     refine ⟨⟨l0,rfl⟩,fun y hy=>?_⟩
     split at h1
     · rename_i o l hl
       exact⟨l0,o,l,rfl,hl,h1.1,h1.2,h2⟩
     · rename_i hn;rw[hn]at hy;cases hy
     · exact h1.elim
   | succ i=>exact g2 i x b' off' (by simpa using hx) (by simpa using hb)
theorem ct_win{P:Program}{f:FuncId}{args0 args:List AV}{H0 H:AHeap}{v:AV}(h:Ct P f args0 H0 v H0)(hv:free v=true)(wd:List (Nat×Nat))(ha:winAs wd args0 args)(hH:winH H H0 wd):Ct P f args H v H:=by
 intro j w cargs hR hargs;obtain⟨hl,hat⟩:=hH.at
 let j0:Inj:=⟨fun i=>match wd[i]? with
   | some (b,off)=>(j b).map fun p=>⟨p.blk,p.base+off,p.size⟩
   | none=>none,fun _=>[],fun _=>[]⟩
 have hj0:∀i p,j0 i=some p→∃b off q,wd[i]? = some (b,off)∧j b=some q∧p=⟨q.blk,q.base+off,q.size⟩:=by
   intro i p hp;simp only[j0]at hp;split at hp
   · rename_i b off e
     obtain⟨q,hq,rfl⟩:=qlZ.1 hp;exact⟨b,off,q,e,hq,rfl⟩
   · cases hp
 have hro:H0.all isRo=true:=by
   rw[s5Z];intro x hx;obtain⟨i,hi⟩:=List.getElem?_of_mem hx
   have hil:i<wd.length:=by rw[←hl];exact (q1Z.1 hi).1
   obtain⟨⟨l0,rfl⟩,_⟩:=hat i x _ _ hi (q3Z hil);rfl
 have hR0:R j0 H0 w:=by
   refine R.ro (fun b hb=>?_) (fun i x p hx hp=>?_) hro hR.glo.1
   · simp only[j0]
     rw[s4Z (show wd.length≤b by omega)]
   · obtain⟨b,off,q,h1,h2,rfl⟩:=hj0 i p hp
     obtain⟨y0,hy0⟩:=hR.live h2;obtain⟨l0,o,l,rfl,hb,h3,h4,h5⟩:=(hat i x b off hx h1).2 y0 hy0;obtain⟨cs,T,fz,g1,g2,g3,g4,g5⟩:=hR.blk b _ q hb h2
     refine ⟨cs,T,fz,g1,g2,by dsimp only;omega,fun k z hz=>?_,fun ho=>by cases ho⟩
     rw[h4,r4Z]at hz;split at hz
     · rw[r5Z]at hz
       obtain⟨v',hv',hr⟩:=g4 _ z hz
       refine ⟨v',by dsimp only;rw[show q.base+off+k=q.base+(off+k) by omega];exact hv',?_⟩
       refine VR.free z v' ?_ hr;refine frees_iff.1 h5 z ?_;rw[h4];refine qcZ (i:=k) ?_;rw[r4Z,if_pos ‹_›,r5Z];exact hz
     · cases hz
 have hargs0:∀(xs ys:List AV) (vs:List Value),winAs wd xs ys→VRs j ys vs→VRs j0 xs vs:=winAs_ok fun i b off p h1 h2=>by simp only[j0,h1,h2,rhZ]
 refine (h j0 w cargs hR0 (hargs0 _ _ _ ha hargs)).mono ?_;rintro e w' ⟨cv,j',rfl,h1,h2⟩;exact⟨cv,j,rfl,VR.free v cv hv h1,h2.forget hR hro (qnZ _)⟩
def natsOf(k:IntKind):List AV→Option (List Nat)
 | []=>some []
 | .int k' n::xs=>if k'=k∧0≤n then (natsOf k xs).map (n.toNat::·) else none
 | _=>none
theorem natsOf_eq{k:IntKind}:∀{xs:List AV} {l:List Nat},natsOf k xs=some l→xs=l.map fun n:Nat=>.int k (n:Int)
 | [],l,h=>by cases h;rfl
 | x::xs,l,h=>by
   unfold natsOf at h;split at h
   · cases ‹_=[]›
   · rename_i k' n ys e
     cases e;split at h
     · rename_i hc
       obtain⟨rfl,hn⟩:=hc;obtain⟨l',hl',rfl⟩:=qlZ.1 h;rw[natsOf_eq hl'];simp only[s1Z]
       congr 2
       omega
     · cases h
   · cases h
def strsOf:List AV→Option (List (List UInt8))
 | []=>some []
 | .str s::xs=>(strsOf xs).map (s::·)
 | _=>none
theorem strsOf_eq:∀{xs:List AV} {l:List (List UInt8)},strsOf xs=some l→xs=l.map .str
 | [],l,h=>by cases h;rfl
 | x::xs,l,h=>by
   unfold strsOf at h;split at h
   · cases ‹_=[]›
   · rename_i s ys e
     cases e;obtain⟨l',hl',rfl⟩:=qlZ.1 h;rw[strsOf_eq hl'];rfl
   · cases h
@[simp] theorem natsOf_map(k:IntKind)(l:List Nat):natsOf k (l.map fun n:Nat=>.int k (n:Int))=some l:=by
 induction l with
 | nil=>rfl
 | cons n l ih=>simp[natsOf,ih]
@[simp] theorem natsOf_aB(l:List Nat):natsOf .u8 (l.map aB)=some l:=natsOf_map .u8 l
@[simp] theorem strsOf_map(l:List (List UInt8)):strsOf (l.map .str)=some l:=by
 induction l with
 | nil=>rfl
 | cons n l ih=>simp[strsOf,ih]
@[simp] theorem frees_str(l:List (List UInt8)):frees (l.map .str)=true:=frees_map _ _ fun _=>rfl
@[simp] theorem frees_aB(l:List Nat):frees (l.map aB)=true:=frees_map _ _ fun _=>rfl
structure QF where
 st:Option (Nat×Nat×Nat)
 rd:Option Nat
 call:Bool
 grows:Bool
 sc:Bool
def QR.fl(q:QR):QF:=⟨q.st.map fun s=>(s.1,s.2.1,s.2.2.length),q.rd,q.call,q.grows,q.sc⟩
def apartF(a b:Nat×Nat×Nat):Bool:=a.1 != b.1 || decide (a.2.1+a.2.2≤b.2.1) || decide (b.2.1+b.2.2≤a.2.1)
def pairOkF(before:Bool)(si sk:List Nat)(di dk:Option Nat)(qi qk:QF):Bool :=
 (match di with
  | some d=>!sk.contains d || before
  | none=>true) &&
 (match dk with
  | some d=>(!si.contains d || before)&&dk != di
  | none=>true) &&
 (match qi.st with
  | some s=>qk.rd != some s.1&&!qk.call&&(match qk.st with | some s'=>apartF s s' | none=>true)
  | none=>true) &&
 (match qk.st with
  | some s=>(qi.rd != some s.1 || before)&&(!qi.call || before)
  | none=>true) &&
 (!qi.call || !qk.grows || before || qi.sc)
theorem pairOk_eq(before:Bool)(si sk:List Nat)(di dk:Option Nat)(qi qk:QR):pairOk before si sk di dk qi qk=pairOkF before si sk di dk qi.fl qk.fl:=by
 unfold pairOk pairOkF QR.fl
 cases qi.st <;> cases qk.st <;> rfl
def drawOkF(ops:List Oper)(slots:List (List Nat))(qs:List QF)(pr:List Nat):Bool :=
 (List.range ops.length).all fun k =>
   ((ops.getD k default).after.toList.all fun e=>!Region.binds .any e || e.on<k) &&
   (List.range k).all fun i =>
     pairOkF ((pr.getD k 0).testBit i) (slots.getD i []) (slots.getD k []) (ops.getD i default).dst (ops.getD k default).dst (qs.getD i ⟨none,none,false,false,false⟩) (qs.getD k ⟨none,none,false,false,false⟩)
theorem getD_fl(qs:List QR)(i:Nat):(qs.getD i ⟨.top,[],none,none,false,false,false⟩).fl=(qs.map QR.fl).getD i ⟨none,none,false,false,false⟩:=by
 rw[q2Z,q2Z,qzZ]
 cases qs[i]? <;> rfl
@[simp] theorem drawOk_eq(ops:List Oper)(slots:List (List Nat))(qs:List QR)(pr:List Nat):drawOk ops slots qs pr=drawOkF ops slots (qs.map QR.fl) pr:=by
 unfold drawOk drawOkF;simp only[pairOk_eq,getD_fl]
mutual
theorem below_free(n:Nat):∀x:AV,free x=true→below n x=true
 | .top,_ | .bool _,_ | .int _ _,_ | .str _,_ | .nilp,_ | .nils,_ | .nilm,_ | .nilf,_=>rfl
 | .ptr ..,h | .slice ..,h | .sl ..,h | .map _,h | .yld _,h=>by simp[free]at h
 | .func f xs ys,h=>by simp at h;simp[below,belows_free n xs h.1,belows_free n ys h.2]
 | .agg l,h=>by simp at h;simp[below,belows_free n l h]
 | .tuple l,h=>by simp at h;simp[below,belows_free n l h]
theorem belows_free(n:Nat):∀xs:List AV,frees xs=true→belows n xs=true
 | [],_=>rfl
 | x::xs,h=>by simp at h;simp[belows,below_free n x h.1,belows_free n xs h.2]
end
@[simp] theorem belows_of_frees{n:Nat}{xs:List AV}(h:frees xs=true):belows n xs=true:=belows_free n xs h
attribute [simp] below belows belowB ownDead scA
@[simp] theorem winAs_free{wd:List (Nat×Nat)}:∀{xs:List AV},frees xs=true→winAs wd xs xs
 | [],_=>trivial
 | x::xs,h=>by
   simp only[frees_cons,qrZ]at h;refine ⟨?_,winAs_free h.2⟩;have hx:=h.1;cases x
   case agg l=>exact winAs_free hx
   all_goals first
     | (unfold winA;exact⟨rfl,hx⟩)
     | (simp[free]at hx)
theorem ct_val{P:Program}{Γ:Gam}(hm:P.follows .mixedOrders=true)(hΓ:GOk P Γ){n:Nat}{f:FuncId}{fn:Func}(hf:P.funcs[f]? = some fn){args:List AV}{v:AV}(h:∃H1,runF P Γ n fn args []=some (v,H1))(hv:free v=true):Ct P f args [] v []:=by
 obtain⟨H1,h⟩:=h;exact ct_run hm hΓ hf h (weak_pure hv)
@[simp] theorem bytesA_length(s:List UInt8):(bytesA s).length=s.length:=by simp[bytesA]
@[simp] theorem bytesOf_bytesA'(s:List UInt8):bytesOf (bytesA s)=some s:=bytesOf_bytesA s
@[simp] theorem bytesOf_append(s:List UInt8)(l:List AV):bytesOf (bytesA s++l)=(bytesOf l).map (s++·):=by
 induction s with
 | nil=>show bytesOf l=_;cases bytesOf l <;> simp
 | cons b s ih =>
   show Option.map (UInt8.ofNat (Int.toNat (b.toNat:Int))::·) (bytesOf (bytesA s++l))=_
   rw[ih]
   cases bytesOf l <;> simp
@[simp] theorem nat_not_neg(n:Nat):((n:Int)<0)↔False:=⟨fun h=>by omega,fun h=>h.elim⟩
@[simp] theorem wr_i64'{n:Int}(h0 : -9223372036854775808≤n)(h:n≤9223372036854775807):IntKind.i64.wrap n=n:=wr_i64 h0 h
@[simp] theorem wr_u64'{n:Int}(h0:0≤n)(h:n≤18446744073709551615):IntKind.u64.wrap n=n:=wr_u64 h0 h
@[simp] theorem wr_u32'{n:Int}(h0:0≤n)(h:n≤4294967295):IntKind.u32.wrap n=n:=wr_u32 h0 h
@[simp] theorem wr_u8'{n:Int}(h0:0≤n)(h:n≤255):IntKind.u8.wrap n=n:=wr_u8 h0 h
attribute [simp] QR.fl mask_get Op.operands Call.operands Region.binds
attribute [simp] onceS gams winA winAs winH natsOf strsOf IntKind.signed IntKind.max
end
section
def changed(H H':AHeap):List Nat:=(List.range H.length).filter fun b=>!(blkEq (H.getD b .dead) (H'.getD b .dead))
def fnOf(P:Program)(f:FuncId):Option Func:=P.funcs[f]?
def setTmps(F:List AV)(ps:List Tmp)(args:List AV):List AV:=(ps.zip args).foldl (fun t pv=>t.set pv.1 pv.2) F
def endA(ps:Array Tmp)(asg body:Code)(F:List AV):AX→ABlk
 | .normal=>.loop ps asg body .ready none F
 | .ret=>.loop ps asg body .done (some .ret) F
 | .exit id=>.loop ps asg body .done (some (.exit id)) F
def endV:AX→Bool
 | .normal=>true
 | _=>false
def yieldG(P:Program)(Γ:Gam)(n:Nat):List AV→AHeap→Option (AV×AHeap×List Nat)
 | .yld b::args,H =>
   match H[b]? with
   | some (.loop ps asg body .ready _ F) =>
     if args.length=ps.size then
       match acode P Γ n false asg (setTmps F ps.toList args) H with
       | some (.normal,F1,H1) =>
         match H1[b]? with
         | some (.loop ps1 asg1 body1 .ready pe1 F') =>
           match acode P Γ n false body F1 (H1.set b (.loop ps1 asg1 body1 .busy pe1 F')) with
           | some (x,_,H2) =>
             match H2[b]? with
             | some (.loop ps2 asg2 body2 _ _ F'')=>some (.bool (endV x),H2.set b (endA ps2 asg2 body2 F'' x),[])
             | _=>none
           | none=>none
         | _=>none
       | _=>none
     else none
   | _=>none
 | _,_=>none
theorem setTmps_ok{j:Inj}:∀(ps:List Tmp) (args:List AV) (cargs:List Value) (F:List AV) (tmps:Array Value),VRs j F tmps.toList→VRs j args cargs →
   VRs j (setTmps F ps args) ((ps.zip cargs).foldl (fun t pv=>t.setIfInBounds pv.1 pv.2) tmps).toList
 | [],_,_,F,tmps,hF,_=>by simpa[setTmps] using hF
 | p::ps,[],cargs,F,tmps,hF,ha=>by
   simp only[VRs]at ha;subst ha;simpa[setTmps] using hF
 | p::ps,x::args,cargs,F,tmps,hF,ha=>by
   simp only[VRs]at ha;obtain⟨v,ws,rfl,h1,h2⟩:=ha
   have:=setTmps_ok ps args ws (F.set p x) (tmps.setIfInBounds p v) (by rw[Array.toList_setIfInBounds];exact hF.set p h1) h2
   simpa[setTmps] using this
theorem yieldG_ok{P:Program}(hm:P.follows .mixedOrders=true){Γ:Gam}(hΓ:GOk P Γ)(n:Nat):YSound P (yieldG P Γ n):=by
 intro b args H v H' W h j w cargs p m hR hargs hp;simp only[yieldG]at h;split at h;rotate_left
 · cases h
 rename_i ps asg body pe F hb;split at h;rotate_left
 · cases h
 rename_i hlen;split at h;rotate_left
 · cases h
 rename_i F1 H1 ha;split at h;rotate_left
 · cases h
 rename_i ps1 asg1 body1 pe1 F' hb1;split at h;rotate_left
 · cases h
 rename_i x F2 H2 hbody;split at h;rotate_left
 · cases h
 rename_i ps2 asg2 body2 st2 pe2 F'' hb2;cases h;obtain⟨fn,tmps,D,hl,hF⟩:=hR.blk _ _ p hb hp;have hblt:b<H.length:=(q1Z.1 hb).1
 have hsz:cargs.size=ps.size:=by
   have:=hargs.length;simp at this;omega
 refine ⟨fn,_,asg,body,run_yield hl hsz,roundIn_of_wpIn trivial ?_⟩;have hF1:=setTmps_ok (j:=j) ps.toList args cargs.toList F tmps hF hargs
 have etm:((ps.zip cargs).foldl (fun t (x:Tmp×Value)=>t.setIfInBounds x.1 x.2) tmps)=((ps.toList.zip cargs.toList).foldl (fun t pv=>t.setIfInBounds pv.1 pv.2) tmps):=by
   rw[←Array.foldl_toList,Array.toList_zip]
 refine wpIn_mono (acode_ok hm hΓ (some p.blk) n false (by simp) asg _ F1 H H1 .normal ha 0 j w _ m (qqZ _) hR (by rw[etm];exact hF1) (DefOk.nil _ _)) ?_
 rintro e a1 w1 ⟨x1,F1',H1',j1,rfl,⟨rfl,rfl,rfl⟩,g3,g4,s1⟩
 have hp1:j1 b=some p:=by rw[s1.ext b hblt];exact hp
 obtain⟨fn1,tmps1,D1,hl1,hF1'⟩:=s1.rel.blk _ _ p hb1 hp1;have s2:=step_put (o:=.loop { ({ state:=.ready,pending:=pe1,fn:=fn1,tmps:=tmps1,params:=ps1,assign:=asg1,body:=body1,defers:=D1 }:Loop) with state:=.busy }) (y:=.loop ps1 asg1 body1 .busy pe1 F') s1.rel hb1 rfl hp1 (.inr rfl) ⟨fn1,tmps1,D1,World.putObj_heap_same (qtZ.1 hl1).1,hF1'⟩;refine ⟨_,run_beginRound hl1 rfl,?_⟩;have s12:=s1.trans s2 s1.len
 refine wpIn_mono (acode_ok hm hΓ (some p.blk) n false (by simp) body _ F2 _ H2 x hbody 0 j1 _ a1 m (qqZ _) s2.rel g3 (g4.step s1.rel s2)) ?_
 rintro e a2 w2 ⟨x2,F2',H2',j2,rfl,⟨rfl,rfl,rfl⟩,k3,k4,s3⟩;have hblt1:b<H1'.length:=(q1Z.1 hb1).1
 have hp2:j2 b=some p:=by rw[s3.ext b (by simpa using hblt1)];exact hp1
 obtain⟨fn2,tmps2,D2,hl2,hF2⟩:=s3.rel.blk _ _ p hb2 hp2
 have s123:=s12.trans s3 (by simpa using s1.len)
 have fin:∀st pe,Step H.length j H w j2 (H2'.set b (.loop ps2 asg2 body2 st pe F'')) (w2.putObj p.blk (.loop { ({ state:=st2,pending:=pe2,fn:=fn2,tmps:=tmps2,params:=ps2,assign:=asg2,body:=body2,defers:=D2 }:Loop) with state:=st,pending:=pe })):=fun st pe =>
   s123.trans (step_put (y:=.loop ps2 asg2 body2 st pe F'') s3.rel hb2 rfl hp2 (.inr rfl) ⟨fn2,tmps2,D2,World.putObj_heap_same (qtZ.1 hl2).1,hF2⟩) s123.len
 cases x2 with
 | normal=>exact⟨_,_,run_endRound none hl2,_,j2,rfl,rfl,fin .ready none⟩
 | ret=>exact⟨_,_,run_endRound (some .ret) hl2,_,j2,rfl,rfl,fin .done (some .ret)⟩
 | exit id=>exact⟨_,_,run_endRound (some (.exit id)) hl2,_,j2,rfl,rfl,fin .done (some (.exit id))⟩
def runG(P:Program)(Γ:Gam)(n:Nat)(inl:List FuncId):Nat→FuncId→List AV→AHeap→Option (AV×AHeap×List Nat)
 | 0,f,args,H=>Γ f args H
 | k+1,f,args,H =>
   if f=yl then (match yieldG P (runG P Γ n inl k) n args H with | some r=>some r | none=>Γ f args H)
   else if inl.contains f then
     match fnOf P f with
     | none=>none
     | some fn =>
       if fn.name == "runtime.NumGoroutine" then none else
       match runF P (runG P Γ n inl k) n fn args H with
       | some (v,H')=>if H.length≤H'.length then some (v,H',changed H H') else none
       | none=>none
   else Γ f args H
theorem weak_refl{v:AV}{H:AHeap}{P:Program}{f:FuncId}{args:List AV}{fn:Func}{Γ:Gam}{n:Nat}(hm:P.follows .mixedOrders=true)(hΓ:GOk P Γ)(hf:P.funcs[f]? = some fn){H1:AHeap}(h:runF P Γ n fn args H=some (v,H1)):Ct P f args H v H1:=by
 unfold runF at h;split at h
 · cases h
 rename_i c hc;intro j w cargs hR hargs;refine (callsIn_wide (n:=0)).1 ?_;refine callsIn_of_wp_marks hf hc trivial ?_ rfl;have hl:=hargs.length
 have hF:VRs j (args++qbZ (fn.ntmps-args.length) undefA) (cargs++Array.replicate (fn.ntmps-cargs.size) undef).toList:=by
   rw[rxZ,Array.toList_replicate,hl,rjZ]
   exact hargs.append (VRs.replicate (v:=undef) (show VR j undefA undef from ⟨#[],rfl,rfl⟩) _)
 have key:∀(x:AX) (hx:x=.ret∨x=.normal) F' H',acode P Γ n true c (args++qbZ (fn.ntmps-args.length) undefA) H=some (x,F',H')→resA P fn.results.toList F' H'=some v→H'=H1 →
     c.wpIn (FW none) 0 P (bodyPostM (FW none) 0 P fn fun e w'=>∃cv j',e=.returned cv∧VR j' v cv∧Step H.length j H w j' H1 w') { tmps:=cargs++Array.replicate (fn.ntmps-cargs.size) undef,defers:=[] } w:=by
   intro x hx F' H' hr hv e;subst e
   refine wpIn_mono (acode_ok hm hΓ none n true (fun _=>rfl) c _ F' H H' x hr w.heap.size j w { tmps:=cargs++Array.replicate (fn.ntmps-cargs.size) undef,defers:=[] } 0 (qnZ _) hR hF (DefOk.nil _ _)) ?_
   rintro e a' w' ⟨x',F2,H2,j',rfl,⟨rfl,rfl,rfl⟩,h3,h4,h5⟩
   exact body_end hR.glo.1.2 hx.symm hv h3 h4 h5 fun cv w2 g2 hs=>⟨cv,j',rfl,g2,hs⟩
 split at h
 · rename_i F' H2 hr
   obtain⟨v2,hv,e⟩:=qlZ.1 h;cases e;exact key _ (.inl rfl) _ _ hr hv rfl
 · rename_i F' H2 hr
   obtain⟨v2,hv,e⟩:=qlZ.1 h;cases e;exact key _ (.inr rfl) _ _ hr hv rfl
 · cases h
theorem gok_run{P:Program}(hm:P.follows .mixedOrders=true){Γ:Gam}(hΓ:GOk P Γ)(n:Nat)(inl:List FuncId):∀k,GOk P (runG P Γ n inl k)
 | 0=>by
   have:runG P Γ n inl 0=Γ:=by funext f args H;simp[runG]
   rw[this];exact hΓ
 | k+1=>by
   have ih:=gok_run hm hΓ n inl k;refine ⟨?_,?_⟩;rotate_left
   · intro b args H v H' W h
     unfold runG at h;rw[if_pos rfl]at h;split at h
     · rename_i r hr
       cases h;exact yieldG_ok hm ih n b args H v H' W hr
     · exact hΓ.2 b args H v H' W h
   intro f hfy ⟨args0,H0,r0,h0⟩;by_cases hi:inl.contains f=true
   · have one : ∀ args H v H' W, runG P Γ n inl (k + 1) f args H = some (v, H', W) → ∃ fn, P.funcs[f]? = some fn ∧ (fn.name == "runtime.NumGoroutine") = false ∧ runF P (runG P Γ n inl k) n fn args H = some (v, H') ∧ H.length ≤ H'.length ∧ W = changed H H' := by
       intro args H v H' W h;unfold runG at h;rw[if_neg hfy,if_pos hi]at h;split at h
       · cases h
       rename_i fn hfn;split at h
       · cases h
       rename_i hn;split at h
       · rename_i v1 H1 hr
         split at h <;> cases h
         exact⟨fn,hfn,by simpa using hn,hr,‹_›,rfl⟩
       · cases h
     obtain⟨v0,H0',W0⟩:=r0;obtain⟨fn,hfn,hn,hr,_,_⟩:=one _ _ _ _ _ h0
     have hbody:fn.body.isSome=true:=by
       unfold runF at hr;split at hr
       · cases hr
       · rename_i c hc;rw[hc];rfl
     refine ⟨enter_of hfn hbody hn,fun args H v H' W h=>?_,fun args H v H' W h=>?_⟩
     · obtain⟨fn',hfn',_,hr',_,_⟩:=one _ _ _ _ _ h
       rw[hfn]at hfn';cases hfn';exact weak_refl hm ih hfn hr'
     · obtain⟨fn',hfn',_,hr',hl,rfl⟩:=one _ _ _ _ _ h
       refine ⟨hl,fun b hb hnb=>?_⟩
       have:blkEq (H.getD b .dead) (H'.getD b .dead)=true:=by
         cases hx:blkEq (H.getD b .dead) (H'.getD b .dead) with
         | true=>rfl
         | false=>exact absurd (sbZ.2 ⟨List.mem_range.2 hb,by rw[hx];rfl⟩) hnb
       have e:=blkEq_eq this
       rw[q2Z,q2Z,q3Z hb,q3Z (show b<H'.length by omega)]at e
       rw[q3Z hb,q3Z (show b<H'.length by omega)]
       simpa using e.symm
   · have e:runG P Γ n inl (k+1) f=Γ f:=by
       funext args H
       simp only[runG];rw[if_neg hfy,if_neg hi]
     rw[e]at h0 ⊢;exact hΓ.1 f hfy ⟨args0,H0,r0,h0⟩
def chg:Nat→AHeap→AHeap→List Nat
 | _,[],_=>[]
 | n,x::xs,[]=>if blkEq x .dead then chg (n+1) xs [] else n::chg (n+1) xs []
 | n,x::xs,y::ys=>if blkEq x y then chg (n+1) xs ys else n::chg (n+1) xs ys
theorem chg_eq:∀(H H':AHeap) (n:Nat),((List.range H.length).filter fun b=>!(blkEq (H.getD b .dead) (H'.getD b .dead))).map (n+·)=chg n H H'
 | [],H',n=>by simp[chg]
 | x::xs,[],n=>by
   have ih:=chg_eq xs [] (n+1);simp only[List.getD_nil]at ih;rw[q7Z,List.range_succ_eq_map,List.filter_cons,List.filter_map]
   have e:((fun b=>!(blkEq ((x::xs).getD b .dead) (([]:AHeap).getD b .dead))) ∘ Nat.succ)=fun b=>!(blkEq (xs.getD b .dead) (([]:AHeap).getD b .dead)):=by funext b;simp
   rw[e]
   have e2:∀l:List Nat,(l.map Nat.succ).map (n+·)=l.map (n+1+·):=fun l=>by
     rw[List.map_map];apply List.map_congr_left;intro a _;simp;omega
   unfold chg;by_cases h:blkEq x .dead=true
   · simp only[h,List.getD_cons_zero,List.getD_nil,Bool.not_true,qsZ,if_false,if_true,e2,ih]
   · simp only[h,List.getD_cons_zero,List.getD_nil,Bool.not_false,if_true,if_false,s1Z,e2,ih,Nat.add_zero,qsZ]
 | x::xs,y::ys,n=>by
   have ih:=chg_eq xs ys (n+1);rw[q7Z,List.range_succ_eq_map,List.filter_cons,List.filter_map]
   have e:((fun b=>!(blkEq ((x::xs).getD b .dead) ((y::ys).getD b .dead))) ∘ Nat.succ)=fun b=>!(blkEq (xs.getD b .dead) (ys.getD b .dead)):=by funext b;simp
   rw[e]
   have e2:∀l:List Nat,(l.map Nat.succ).map (n+·)=l.map (n+1+·):=fun l=>by
     rw[List.map_map];apply List.map_congr_left;intro a _;simp;omega
   unfold chg;by_cases h:blkEq x y=true
   · simp only[h,List.getD_cons_zero,Bool.not_true,qsZ,if_false,if_true,e2,ih]
   · simp only[h,List.getD_cons_zero,Bool.not_false,if_true,if_false,s1Z,e2,ih,Nat.add_zero,qsZ]
@[simp] theorem changed_eq(H H':AHeap):changed H H'=chg 0 H H':=by
 have:=chg_eq H H' 0;simp only[s8Z]at this;rw[←this];simp[changed]
attribute [simp] runG chg blkEq yl yieldG setTmps endA endV
end
section
mutual
def shA(k:Nat):AV→AV
 | .ptr b o=>.ptr (k+b) o
 | .slice b o l sz c=>.slice (k+b) o l sz c
 | .sl b o l sz c=>.sl (k+b) o l sz c
 | .map b=>.map (k+b)
 | .func f xs ys=>.func f (shAs k xs) (shAs k ys)
 | .yld b=>.yld (k+b)
 | .agg l=>.agg (shAs k l)
 | .tuple l=>.tuple (shAs k l)
 | x=>x
def shAs(k:Nat):List AV→List AV
 | []=>[]
 | x::xs=>shA k x::shAs k xs
end
def shB(k:Nat):ABlk→ABlk
 | .dead=>.dead
 | .cells o l=>.cells o (shAs k l)
 | .loop ps a b st pe F=>.loop ps a b st pe (shAs k F)
 | .map es=>.map (es.map fun e=>(shA k e.1,shA k e.2))
 | .obj o s=>.obj o s
 | .pin l=>.pin (shAs k l)
def jadd(k:Nat)(j j':Inj):Inj:=⟨fun b=>if b<k then j b else j' (b-k),fun b=>if b<k then j.foot b else j'.foot (b-k),fun b=>if b<k then j.shr b else j'.shr (b-k)⟩
theorem jadd_at(k:Nat)(j j':Inj)(b:Nat):jadd k j j' b=if b<k then j b else j' (b-k):=rfl
@[simp] theorem jadd_ge(k b:Nat)(j j':Inj):jadd k j j' (k+b)=j' b:=by
 rw[jadd_at,if_neg (by omega),s3Z]
mutual
theorem shA_ok{k:Nat}{j j':Inj}:∀(x:AV) (v:Value),VR j' x v→VR (jadd k j j') (shA k x) v
 | .top,_,_=>by simp[shA,VR]
 | .bool b,v,h=>by simpa[shA,VR] using h
 | .int _ n,v,h=>by simpa[shA,VR] using h
 | .str s,v,h=>by simpa[shA,VR] using h
 | .ptr b o,v,h=>by simpa[shA,VR] using h
 | .nilp,v,h=>by simpa[shA,VR] using h
 | .slice b o l sz c,v,h=>by simpa[shA,VR] using h
 | .sl b o l sz c,v,h=>by simpa[shA,VR] using h
 | .nils,v,h=>by simpa[shA,VR] using h
 | .map b,v,h=>by simpa[shA,VR] using h
 | .nilm,v,h=>by simpa[shA,VR] using h
 | .func f xs ys,v,h=>by
   simp only[shA,VR]at h ⊢;obtain⟨cx,cy,e,h1,h2⟩:=h;exact⟨cx,cy,e,shAs_ok xs _ h1,shAs_ok ys _ h2⟩
 | .yld b,v,h=>by simpa[shA,VR] using h
 | .nilf,v,h=>by simpa[shA,VR] using h
 | .agg l,v,h=>by
   simp only[shA,VR]at h ⊢;obtain⟨cs,e,h1⟩:=h;exact⟨cs,e,shAs_ok l _ h1⟩
 | .tuple l,v,h=>by
   simp only[shA,VR]at h ⊢;obtain⟨cs,e,h1⟩:=h;exact⟨cs,e,shAs_ok l _ h1⟩
theorem shAs_ok{k:Nat}{j j':Inj}:∀(xs:List AV) (vs:List Value),VRs j' xs vs→VRs (jadd k j j') (shAs k xs) vs
 | [],vs,h=>by simpa[shAs,VRs] using h
 | x::xs,vs,h=>by
   simp only[shAs,VRs]at h ⊢;obtain⟨v,ws,e,h1,h2⟩:=h;exact⟨v,ws,e,shA_ok x v h1,shAs_ok xs ws h2⟩
end
theorem shAs_length(k:Nat):∀xs:List AV,(shAs k xs).length=xs.length
 | []=>rfl
 | x::xs=>by simp[shAs,shAs_length k xs]
theorem shAs_get(k:Nat):∀(xs:List AV) (i:Nat),(shAs k xs)[i]? = (xs[i]?).map (shA k)
 | [],i=>by simp[shAs]
 | x::xs,0=>by simp[shAs]
 | x::xs,i+1=>by simp[shAs,shAs_get k xs i]
theorem shB_own(k:Nat)(y:ABlk):(shB k y).own=y.own:=by cases y <;> rfl
theorem shB_ok{k:Nat}{j j':Inj}{w:World}{y:ABlk}{p:JB}(h:BRel j' w y p):BRel (jadd k j j') w (shB k y) p:=by
 cases y with
 | dead=>trivial
 | cells o l =>
   obtain⟨cs,T,fz,g1,g2,g3,g4,g5⟩:=h
   refine ⟨cs,T,fz,g1,g2,by rw[shAs_length];exact g3,fun i x hx=>?_,g5⟩
   rw[shAs_get]at hx;obtain⟨x',hx',rfl⟩:=qlZ.1 hx;obtain⟨v,hv,hr⟩:=g4 i x' hx';exact⟨v,hv,shA_ok x' v hr⟩
 | loop ps a b st pe F =>
   obtain⟨fn,tmps,D,g1,g2⟩:=h;exact⟨fn,tmps,D,g1,shAs_ok F _ g2⟩
 | map es =>
   obtain⟨ents,cl,g1,gs,g2,g3⟩:=h
   refine ⟨ents,cl,g1,gs,by simpa using g2,fun i z e hz he=>?_⟩
   rw[qzZ]at hz;obtain⟨x,hx,rfl⟩:=qlZ.1 hz;have:=g3 i x e hx he;exact⟨shA_ok _ _ this.1,shA_ok _ _ this.2⟩
 | obj _ _=>trivial
 | pin l =>
   obtain⟨h0,cs,T,fz,g1,g4⟩:=h
   refine ⟨h0,cs,T,fz,g1,fun i x hx=>?_⟩
   rw[shAs_get]at hx;obtain⟨x',hx',rfl⟩:=qlZ.1 hx;obtain⟨v,hv,hr⟩:=g4 i x' hx';exact⟨v,hv,shA_ok x' v hr⟩
theorem shB_nd(k:Nat){y:ABlk}(h:shB k y≠.dead):y≠.dead:=by rintro rfl;exact h rfl
def allOwn(H:AHeap):Bool:=H.all fun x=>match x with | .cells o _=>o | .obj o _=>o | .pin _=>false | _=>true
def newS(g:List AV→Option (AV×AHeap)):Summ:=fun args H=>match g args with
 | some (v,H')=>some (shA H.length v,H++H'.map (shB H.length),[])
 | none=>none
attribute [simp] shA shAs shB newS
end
section
def forceN{α:Type}(n:Nat)(k:Nat→α):α:=Nat.rec (motive:=fun _=>α) (k 0) (fun m _=>k (m+1)) n
theorem forceN_eq{α:Type}(n:Nat)(k:Nat→α):forceN n k=k n:=by cases n <;> rfl
def presBits(acc:List Nat):List Edge→Nat→Nat
 | [],m=>m
 | e::es,m=>presBits acc es (if Region.binds .any e then m ||| (1 <<< e.on) ||| acc.getD e.on 0 else m)
def presGoF(k:List Nat→Bool):List Oper→List Nat→Bool
 | [],acc=>k acc
 | o::rest,acc=>forceN (presBits acc o.after.toList 0) fun m=>presGoF k rest (acc++[m])
theorem presBits_eq(acc:List Nat):∀(es:List Edge) (m:Nat),presBits acc es m=es.foldl (fun m e=>if Region.binds .any e then m ||| (1 <<< e.on) ||| acc.getD e.on 0 else m) m
 | [],m=>rfl
 | e::es,m=>by
   unfold presBits;rw[presBits_eq acc es];rfl
theorem presGoF_eq(k:List Nat→Bool):∀(ops:List Oper) (acc:List Nat),presGoF k ops acc=k (presGo ops acc)
 | [],acc=>rfl
 | o::rest,acc=>by
   unfold presGoF presGo;rw[forceN_eq,presGoF_eq k rest,presBits_eq]
def drawOkG(ops:List Oper)(slots:List (List Nat))(qs:List QF):Bool:=presGoF (drawOkF ops slots qs) ops []
attribute [-simp] drawOk_eq
@[simp] theorem drawOk_eqG(ops:List Oper)(slots:List (List Nat))(qs:List QR):drawOk ops slots qs (pres ops)=drawOkG ops slots (qs.map QR.fl):=by
 unfold drawOkG;rw[presGoF_eq,drawOk_eq];rfl
theorem ev_mask(rs:List Nat)(F:List AV)(x:Operand)(h:∀t,x=.tmp t→t∈rs):ev (maskF rs F) x=ev F x:=by
 cases x with
 | tmp t =>
   show (maskF rs F).getD t undefA=F.getD t undefA;rw[q2Z,q2Z,mask_get];have:=h t rfl
   cases F[t]? with
   | none=>rfl
   | some x=>simp[this]
 | const v=>rfl
 | global g=>rfl
 | func f=>rfl
theorem map_ev{F F':List AV}{l:List Operand}(h:∀x∈l,ev F' x=ev F x):l.map (ev F')=l.map (ev F):=List.map_congr_left h
theorem parts_ev{F F':List AV}{l:List (Nat×Operand)}(h:∀x∈l.map (·.2),ev F' x=ev F x):(l.map fun (i,x)=>(i,ev F' x))=l.map fun (i,x)=>(i,ev F x) :=
 List.map_congr_left fun p hp=>by
   have:=h p.2 (reZ.2 ⟨p,hp,rfl⟩);obtain⟨i,x⟩:=p;simp only at this ⊢;rw[this]
theorem lowHigh_ev{F F':List AV}{lo hi:Option Operand}(h1:∀x∈lo.toArray.toList,ev F' x=ev F x)(h2:∀x∈hi.toArray.toList,ev F' x=ev F x)(n c:Nat):lowHigh F' lo hi n c=lowHigh F lo hi n c:=by
 unfold lowHigh
 cases lo <;> cases hi <;> simp at h1 h2 <;> simp[h1,h2]
theorem sliceA0_ev{P:Program}{F F':List AV}{lo hi mx:Option Operand}(h1:∀x∈lo.toArray.toList,ev F' x=ev F x)(h2:∀x∈hi.toArray.toList,ev F' x=ev F x)(h3:∀x∈mx.toArray.toList,ev F' x=ev F x)(t:TypeId)(v:AV):sliceA0 P F' t v lo hi mx=sliceA0 P F t v lo hi mx:=by
 have e:lowHigh F' lo hi=lowHigh F lo hi:=by funext n c;exact lowHigh_ev h1 h2 n c
 have e2:∀y,hi=some y→lowHigh F' lo (some y)=lowHigh F lo (some y):=by rintro y rfl;exact e
 unfold sliceA0;rw[e]
 cases mx with
 | none =>
   cases P.underlying t with
   | none=>rfl
   | some d=>cases d <;> cases v <;> rfl
 | some m =>
   have:=h3 m (by simp)
   cases hi with
   | none =>
     cases P.underlying t with
     | none=>rfl
     | some d=>cases d <;> cases v <;> first | rfl | simp only[this]
   | some y =>
     have e3:=e2 y rfl
     cases P.underlying t with
     | none=>rfl
     | some d=>cases d <;> cases v <;> first | rfl | simp only[this,e3]
theorem sliceA_ev{P:Program}{F F':List AV}{lo hi mx:Option Operand}(h1:∀x∈lo.toArray.toList,ev F' x=ev F x)(h2:∀x∈hi.toArray.toList,ev F' x=ev F x)(h3:∀x∈mx.toArray.toList,ev F' x=ev F x)(t:TypeId)(v:AV):sliceA P F' t v lo hi mx=sliceA P F t v lo hi mx:=by
 have e:=fun v=>sliceA0_ev (P:=P) h1 h2 h3 t v
 unfold sliceA;simp only[e]
theorem qop_ev{P:Program}{Γ:Gam}{F F':List AV}{H:AHeap}{op:Op}(h:∀x∈op.operands.toList,ev F' x=ev F x):qop P Γ F' H op=qop P Γ F H op:=by
 cases op
 case slice t x lo hi mx =>
   simp only[Op.operands,rxZ,qxZ]at h
   have hx:ev F' x=ev F x:=h x (by simp)
   have e:=fun t v=>sliceA_ev (P:=P) (F:=F) (F':=F') (lo:=lo) (hi:=hi) (mx:=mx) (fun y hy=>h y (.inl (.inl (.inr hy)))) (fun y hy=>h y (.inl (.inr hy))) (fun y hy=>h y (.inr hy)) t v
   simp only[qop,apure,readA,textA,readsOf,hx,e]
 case build t ps =>
   have e:=parts_ev (F:=F) (F':=F') (l:=ps.toList) (by simpa[Op.operands] using h)
   simp only[qop,apure,buildA,readA,textA,e]
 case buildSlice t n ps =>
   have e:=parts_ev (F:=F) (F':=F') (l:=ps.toList) (by simpa[Op.operands] using h)
   simp only[qop,rowA,e]
 case makeFunc f a b =>
   simp only[Op.operands,rxZ,qxZ]at h
   have e1:=map_ev (F:=F) (F':=F') (l:=a.toList) fun x hx=>h x (.inl hx)
   have e2:=map_ev (F:=F) (F':=F') (l:=b.toList) fun x hx=>h x (.inr hx)
   cases f <;> simp only[qop,apure,readA,textA,e1,e2]
 case call c =>
   obtain⟨g,args,ts⟩:=c
   cases g with
   | value g =>
     simp only[Op.operands,Call.operands,rxZ,qxZ]at h
     have e1:ev F' g=ev F g:=h g (.inl (by simp))
     have e2:=map_ev (F:=F) (F':=F') (l:=args.toList) fun x hx=>h x (.inr hx)
     simp only[qop,pureA,callA,scC,e1,e2]
   | invoke r m=>simp only[qop,apure,readA,textA]
   | builtin b =>
     simp only[Op.operands,Call.operands,rxZ,qxZ]at h
     have e2:=map_ev (F:=F) (F':=F') (l:=args.toList) fun x hx=>h x (.inr hx)
     have e3:∀x,x∈args.toList→ev F' x=ev F x:=fun x hx=>h x (.inr hx)
     cases b
     case len =>
       simp only[qop,apure,readA,textA,readsOf]
       cases hts:ts.toList <;> cases hal:args.toList <;> simp only[] <;> rw[e3 _ (by rw[hal];simp)]
     case cap =>
       simp only[qop,apure,readA,textA]
       cases hts:ts.toList <;> cases hal:args.toList <;> simp only[] <;> rw[e3 _ (by rw[hal];simp)]
     all_goals simp only[qop,apure,readA,textA,e2]
 all_goals
   simp only[Op.operands,qwZ,rtZ,or_false,forall_eq_or_imp,forall_eq]at h;simp only[qop,apure,readA,textA,newA,rowA,readsOf,h]
def qstepU(P:Program)(Γ:Gam)(ops:Array Oper)(F:List AV)(H:AHeap)(o:Oper):Option QR :=
 match wantA ops o F with
 | none=>none
 | some false=>some ⟨undefA,H,none,none,false,false,false⟩
 | some true=>qop P Γ F H o.op
theorem mem_slots{ops:Array Oper}{o:Oper}{t:Nat}(h:.tmp t∈o.op.operands.toList):t∈slotsOf ops o:=by
 unfold slotsOf;exact List.mem_append_left _ (List.mem_filterMap.2 ⟨.tmp t,h,rfl⟩)
theorem want_mask(ops:Array Oper)(o:Oper)(F:List AV):wantA ops o (maskF (slotsOf ops o) F)=wantA ops o F:=by
 unfold wantA;split
 · rfl
 · rename_i j want hg
   split
   · rfl
   · rename_i t ht
     have:t∈slotsOf ops o:=by
       unfold slotsOf;refine List.mem_append_right _ ?_;rw[hg];dsimp only;rw[ht];simp
     generalize slotsOf ops o=rs at this
     have e:(maskF rs F)[t]? = F[t]?:=by
       rw[mask_get]
       cases F[t]? with
       | none=>rfl
       | some x=>simp[this]
     rw[e]
theorem qstep_eq(P:Program)(Γ:Gam)(ops:Array Oper)(F:List AV)(H:AHeap)(o:Oper):qstep P Γ ops F H o=qstepU P Γ ops F H o:=by
 unfold qstep qstepU
 have e:qop P Γ (maskF (slotsOf ops o) F) H o.op=qop P Γ F H o.op:=qop_ev fun x hx=>ev_mask _ F x (by
   rintro t rfl
   exact mem_slots hx)
 rw[want_mask,e]
 cases wantA ops o F with
 | none=>rfl
 | some b=>cases b <;> rfl
def qrunT(P:Program)(Γ:Gam)(ops:Array Oper):List Oper→List AV→AHeap→List QF→List (Nat×Nat×List AV)→Option (List AV×AHeap)
 | [],F,H,fs,ss=>if drawOkG ops.toList (ops.toList.map (slotsOf ops)) fs then some (F,ss.foldl putS H) else none
 | o::rest,F,H,fs,ss =>
   match qstepU P Γ ops F H o with
   | none=>none
   | some q=>qrunT P Γ ops rest (putA F o.dst q.v) q.H (fs++[q.fl]) (ss++q.st.toList)
theorem qrunT_eq(P:Program)(Γ:Gam)(ops:Array Oper):∀(l:List Oper) (F:List AV) (H:AHeap) (fs:List QF) (ss:List (Nat×Nat×List AV)),qrunT P Γ ops l F H fs ss =
   match qrun P Γ ops l F H with
   | none=>none
   | some (qs,F',H')=>if drawOkG ops.toList (ops.toList.map (slotsOf ops)) (fs++qs.map QR.fl) then some (F',(ss++qs.filterMap (·.st)).foldl putS H') else none
 | [],F,H,fs,ss=>by simp[qrunT,qrun]
 | o::rest,F,H,fs,ss=>by
   unfold qrunT qrun;rw[qstep_eq]
   cases hq:qstepU P Γ ops F H o with
   | none=>rfl
   | some q =>
     dsimp only;rw[qrunT_eq P Γ ops rest]
     cases hr:qrun P Γ ops rest (putA F o.dst q.v) q.H with
     | none=>rfl
     | some r =>
       obtain⟨qs,F',H'⟩:=r;dsimp only
       have e:ss++q.st.toList++qs.filterMap (·.st)=ss++(q::qs).filterMap (·.st):=by
         rw[List.filterMap_cons]
         cases q.st <;> simp
       rw[e,qeZ,s1Z];rfl
attribute [-simp] adraw qrun
@[simp] theorem adraw_eqT(P:Program)(Γ:Gam)(ops:Array Oper)(F:List AV)(H:AHeap):adraw P Γ ops F H=qrunT P Γ ops ops.toList F H [] []:=by
 rw[qrunT_eq];unfold adraw
 cases hr:qrun P Γ ops ops.toList F H with
 | none=>rfl
 | some r =>
   obtain⟨qs,F',H'⟩:=r;dsimp only;rw[drawOk_eqG];simp
noncomputable def aopsO:Program→Gam→Array Oper→List Oper→List AV→AHeap→Option (List AV×AHeap):=Classical.choose (⟨aops,rfl⟩:∃f,f=aops)
theorem aopsO_eq:aopsO=aops:=Classical.choose_spec (⟨aops,rfl⟩:∃f,f=aops)
noncomputable def qrunO:Program→Gam→Array Oper→List Oper→List AV→AHeap→List QF→List (Nat×Nat×List AV)→Option (List AV×AHeap):=Classical.choose (⟨qrunT,rfl⟩:∃f,f=qrunT)
theorem qrunO_eq:qrunO=qrunT:=Classical.choose_spec (⟨qrunT,rfl⟩:∃f,f=qrunT)
noncomputable def acodeO:Program→Gam→Nat→Bool→Code→List AV→AHeap→ARes:=Classical.choose (⟨acode,rfl⟩:∃f,f=acode)
theorem acodeO_eq:acodeO=acode:=Classical.choose_spec (⟨acode,rfl⟩:∃f,f=acode)
attribute [-simp] acode aops
@[simp] theorem acode_O(P:Program)(Γ:Gam)(n:Nat)(q:Bool)(c:Code)(F:List AV)(H:AHeap):acode P Γ n q c F H=acodeO P Γ n q c F H:=by rw[acodeO_eq]
@[simp] theorem aopsO_nil(P:Program)(Γ:Gam)(ops:Array Oper)(F:List AV)(H:AHeap):aopsO P Γ ops [] F H=some (F,H):=by rw[aopsO_eq];rfl
@[simp] theorem aopsO_cons(P:Program)(Γ:Gam)(ops:Array Oper)(o:Oper)(rest:List Oper)(F:List AV)(H:AHeap):aopsO P Γ ops (o::rest) F H =
   match wantA ops o F with
   | none=>none
   | some false=>aopsO P Γ ops rest (putA F o.dst undefA) H
   | some true =>
     match opA P Γ F H o.op with
     | none=>none
     | some (v,H')=>aopsO P Γ ops rest (putA F o.dst v) H':=by
 rw[aopsO_eq];rfl
@[simp] theorem qrunO_nil(P:Program)(Γ:Gam)(ops:Array Oper)(F:List AV)(H:AHeap)(fs:List QF)(ss:List (Nat×Nat×List AV)):qrunO P Γ ops [] F H fs ss=if drawOkG ops.toList (ops.toList.map (slotsOf ops)) fs then some (F,ss.foldl putS H) else none:=by
 rw[qrunO_eq];rfl
@[simp] theorem qrunO_cons(P:Program)(Γ:Gam)(ops:Array Oper)(o:Oper)(rest:List Oper)(F:List AV)(H:AHeap)(fs:List QF)(ss:List (Nat×Nat×List AV)):qrunO P Γ ops (o::rest) F H fs ss =
   match qstepU P Γ ops F H o with
   | none=>none
   | some q=>qrunO P Γ ops rest (putA F o.dst q.v) q.H (fs++[q.fl]) (ss++q.st.toList):=by
 rw[qrunO_eq];rfl
attribute [simp] qstepU
@[simp] theorem acodeO_skip(P:Program)(Γ:Gam)(n:Nat)(q:Bool)(F:List AV)(H:AHeap):acodeO P Γ n q .skip F H=some (.normal,F,H):=by rw[acodeO_eq];rfl
@[simp] theorem acodeO_label(P:Program)(Γ:Gam)(n:Nat)(q:Bool)(l)(F:List AV)(H:AHeap):acodeO P Γ n q (.label l) F H=some (.normal,F,H):=by rw[acodeO_eq];rfl
@[simp] theorem acodeO_reg(P:Program)(Γ:Gam)(n:Nat)(q:Bool)(k)(ops:Array Oper)(F:List AV)(H:AHeap):acodeO P Γ n q (.region k ops false) F H=(aopsO P Γ ops ops.toList F H).map fun r=>(.normal,r):=by
 rw[acodeO_eq,aopsO_eq];rfl
@[simp] theorem acodeO_draw(P:Program)(Γ:Gam)(n:Nat)(q:Bool)(k)(ops:Array Oper)(F:List AV)(H:AHeap):acodeO P Γ n q (.region k ops true) F H=(qrunO P Γ ops ops.toList F H [] []).map fun r=>(.normal,r):=by
 rw[acodeO_eq,qrunO_eq,←adraw_eqT];rfl
@[simp] theorem acodeO_seq(P:Program)(Γ:Gam)(n:Nat)(q:Bool)(x y:Code)(F:List AV)(H:AHeap):acodeO P Γ n q (.seq x y) F H =
   match acodeO P Γ n q x F H with
   | some (.normal,F',H')=>acodeO P Γ n q y F' H'
   | r=>r:=by
 rw[acodeO_eq];rfl
@[simp] theorem acodeO_cond(P:Program)(Γ:Gam)(n:Nat)(q:Bool)(c:Operand)(x y:Code)(F:List AV)(H:AHeap):acodeO P Γ n q (.cond c x y) F H =
   match ev F c with
   | .bool t=>if t then acodeO P Γ n q x F H else acodeO P Γ n q y F H
   | _=>none:=by
 rw[acodeO_eq];rfl
@[simp] theorem acodeO_block(P:Program)(Γ:Gam)(n:Nat)(q:Bool)(id:Nat)(x:Code)(F:List AV)(H:AHeap):acodeO P Γ n q (.block id x) F H =
   match acodeO P Γ n q x F H with
   | some (.exit id',F',H')=>if id'=id then some (.normal,F',H') else some (.exit id',F',H')
   | r=>r:=by
 rw[acodeO_eq];rfl
@[simp] theorem acodeO_loop(P:Program)(Γ:Gam)(n:Nat)(q:Bool)(x:Code)(F:List AV)(H:AHeap):acodeO P Γ n q (.loop x) F H=aloop (fun F H=>acodeO P Γ n q x F H) n F H:=by
 rw[acodeO_eq];rfl
@[simp] theorem acodeO_scope(P:Program)(Γ:Gam)(n:Nat)(q:Bool)(x:Code)(F:List AV)(H:AHeap):acodeO P Γ n q (.scope x) F H=acodeO P Γ n q x F H:=by rw[acodeO_eq];rfl
@[simp] theorem acodeO_exit(P:Program)(Γ:Gam)(n:Nat)(q:Bool)(id:Nat)(F:List AV)(H:AHeap):acodeO P Γ n q (.exit id) F H=some (.exit id,F,H):=by rw[acodeO_eq];rfl
@[simp] theorem acodeO_ret(P:Program)(Γ:Gam)(n:Nat)(q:Bool)(F:List AV)(H:AHeap):acodeO P Γ n q .ret F H=some (.ret,F,H):=by rw[acodeO_eq];rfl
end
section
mutual
def reA(g:Nat→Nat):AV→AV
 | .ptr b o=>.ptr (g b) o
 | .slice b o l sz c=>.slice (g b) o l sz c
 | .sl b o l sz c=>.sl (g b) o l sz c
 | .map b=>.map (g b)
 | .func f xs ys=>.func f (reAs g xs) (reAs g ys)
 | .yld b=>.yld (g b)
 | .agg l=>.agg (reAs g l)
 | .tuple l=>.tuple (reAs g l)
 | x=>x
def reAs(g:Nat→Nat):List AV→List AV
 | []=>[]
 | x::xs=>reA g x::reAs g xs
end
def reB(g:Nat→Nat):ABlk→ABlk
 | .dead=>.dead
 | .cells o l=>.cells o (reAs g l)
 | .loop ps a b st pe F=>.loop ps a b st pe (reAs g F)
 | .map es=>.map (es.map fun e=>(reA g e.1,reA g e.2))
 | .obj o s=>.obj o s
 | .pin l=>.pin (reAs g l)
mutual
theorem reA_ok{g:Nat→Nat}{j j':Inj}(hg:∀b p,j b=some p→j' (g b)=some p):∀(x:AV) (v:Value),VR j x v→VR j' (reA g x) v
 | .top,_,_=>by simp[reA,VR]
 | .bool b,v,h=>by simpa[reA,VR] using h
 | .int _ n,v,h=>by simpa[reA,VR] using h
 | .str s,v,h=>by simpa[reA,VR] using h
 | .ptr b o,v,h=>by
   simp only[reA,VR]at h ⊢;obtain⟨p,h1,h2⟩:=h;exact⟨p,hg b p h1,h2⟩
 | .nilp,v,h=>by simpa[reA,VR] using h
 | .slice b o l sz c,v,h=>by
   simp only[reA,VR]at h ⊢;obtain⟨p,a,cap,h1,h2⟩:=h;exact⟨p,a,cap,hg b p h1,h2⟩
 | .sl b o l sz c,v,h=>by
   simp only[reA,VR]at h ⊢;rcases h with h | ⟨p,a,cap,hp,r⟩
   · exact .inl h
   · exact .inr ⟨p,a,cap,hg b p hp,r⟩
 | .nils,v,h=>by simpa[reA,VR] using h
 | .map b,v,h=>by
   simp only[reA,VR]at h ⊢;obtain⟨p,h1,h2⟩:=h;exact⟨p,hg b p h1,h2⟩
 | .nilm,v,h=>by simpa[reA,VR] using h
 | .func f xs ys,v,h=>by
   simp only[reA,VR]at h ⊢;obtain⟨cx,cy,e,h1,h2⟩:=h;exact⟨cx,cy,e,reAs_ok hg xs _ h1,reAs_ok hg ys _ h2⟩
 | .yld b,v,h=>by
   simp only[reA,VR]at h ⊢;obtain⟨p,h1,h2⟩:=h;exact⟨p,hg b p h1,h2⟩
 | .nilf,v,h=>by simpa[reA,VR] using h
 | .agg l,v,h=>by
   simp only[reA,VR]at h ⊢;obtain⟨cs,e,h1⟩:=h;exact⟨cs,e,reAs_ok hg l _ h1⟩
 | .tuple l,v,h=>by
   simp only[reA,VR]at h ⊢;obtain⟨cs,e,h1⟩:=h;exact⟨cs,e,reAs_ok hg l _ h1⟩
theorem reAs_ok{g:Nat→Nat}{j j':Inj}(hg:∀b p,j b=some p→j' (g b)=some p):∀(xs:List AV) (vs:List Value),VRs j xs vs→VRs j' (reAs g xs) vs
 | [],vs,h=>by simpa[reAs,VRs] using h
 | x::xs,vs,h=>by
   simp only[reAs,VRs]at h ⊢;obtain⟨v,ws,e,h1,h2⟩:=h;exact⟨v,ws,e,reA_ok hg x v h1,reAs_ok hg xs ws h2⟩
end
theorem reAs_length(g:Nat→Nat):∀xs:List AV,(reAs g xs).length=xs.length
 | []=>rfl
 | x::xs=>by simp[reAs,reAs_length g xs]
theorem reAs_get(g:Nat→Nat):∀(xs:List AV) (i:Nat),(reAs g xs)[i]? = (xs[i]?).map (reA g)
 | [],i=>by simp[reAs]
 | x::xs,0=>by simp[reAs]
 | x::xs,i+1=>by simp[reAs,reAs_get g xs i]
theorem reB_own(g:Nat→Nat)(y:ABlk):(reB g y).own=y.own:=by cases y <;> rfl
theorem reB_nd{g:Nat→Nat}{y:ABlk}(h:reB g y≠.dead):y≠.dead:=by rintro rfl;exact h rfl
theorem reB_ok{g:Nat→Nat}{j j':Inj}(hg:∀b p,j b=some p→j' (g b)=some p){w:World}{y:ABlk}{p:JB}(h:BRel j w y p):BRel j' w (reB g y) p:=by
 cases y with
 | dead=>trivial
 | cells o l =>
   obtain⟨cs,T,fz,g1,g2,g3,g4,g5⟩:=h
   refine ⟨cs,T,fz,g1,g2,by rw[reAs_length];exact g3,fun i x hx=>?_,g5⟩
   rw[reAs_get]at hx;obtain⟨x',hx',rfl⟩:=qlZ.1 hx;obtain⟨v,hv,hr⟩:=g4 i x' hx';exact⟨v,hv,reA_ok hg x' v hr⟩
 | loop ps a b st pe F =>
   obtain⟨fn,tmps,D,g1,g2⟩:=h;exact⟨fn,tmps,D,g1,reAs_ok hg F _ g2⟩
 | map es =>
   obtain⟨ents,cl,g1,gs,g2,g3⟩:=h
   refine ⟨ents,cl,g1,gs,by simpa using g2,fun i z e hz he=>?_⟩
   rw[qzZ]at hz;obtain⟨x,hx,rfl⟩:=qlZ.1 hz;have:=g3 i x e hx he;exact⟨reA_ok hg _ _ this.1,reA_ok hg _ _ this.2⟩
 | obj _ _=>trivial
 | pin l =>
   obtain⟨h0,cs,T,fz,g1,g4⟩:=h
   refine ⟨h0,cs,T,fz,g1,fun i x hx=>?_⟩
   rw[reAs_get]at hx;obtain⟨x',hx',rfl⟩:=qlZ.1 hx;obtain⟨v,hv,hr⟩:=g4 i x' hx';exact⟨v,hv,reA_ok hg x' v hr⟩
theorem reB_obj(g:Nat→Nat){y:ABlk}(h:(reB g y).isObj=true):reB g y=y:=by cases y <;> simp_all [reB,ABlk.isObj]
def nameG(em:List Nat)(n:Nat)(i:Nat):Nat:=match em[i]? with
 | some e=>e
 | none=>n+(i-em.length)
def setOwn(g:Nat→Nat):AHeap→List Nat→AHeap→AHeap→AHeap
 | H,e::em,B0::H0,B1::H1=>setOwn g (if B0.own then H.set e (reB g B1) else H) em H0 H1
 | H,_,_,_=>H
theorem setOwn_length(g:Nat→Nat):∀(H:AHeap) (em:List Nat) (H0 H1:AHeap),(setOwn g H em H0 H1).length=H.length
 | H,[],_,_=>by simp[setOwn]
 | H,_::_,[],_=>by simp[setOwn]
 | H,_::_,_::_,[]=>by simp[setOwn]
 | H,e::em,B0::H0,B1::H1=>by
   unfold setOwn;rw[setOwn_length]
   split <;> simp
theorem setOwn_other(g:Nat→Nat):∀(H:AHeap) (em:List Nat) (H0 H1:AHeap) (c:Nat),(∀(i:Nat) B,em[i]? = some c→H0[i]? = some B→¬B.own=true)→(setOwn g H em H0 H1)[c]? = H[c]?
 | H,[],_,_,c,_=>by simp[setOwn]
 | H,_::_,[],_,c,_=>by simp[setOwn]
 | H,_::_,_::_,[],c,_=>by simp[setOwn]
 | H,e::em,B0::H0,B1::H1,c,h=>by
   unfold setOwn
   rw[setOwn_other g _ em H0 H1 c fun i B h1 h2=>h (i+1) B (by simpa using h1) (by simpa using h2)]
   split
   · rename_i ho
     have:e≠c:=by
       rintro rfl;exact h 0 B0 rfl rfl ho
     rw[qfZ this]
   · rfl
theorem setOwn_at(g:Nat→Nat):∀(H:AHeap) (em:List Nat) (H0 H1:AHeap) (i e:Nat) (B0 B1:ABlk),em.Nodup→(∀x∈em,x<H.length)→em[i]? = some e→H0[i]? = some B0→B0.own=true→H1[i]? = some B1→(setOwn g H em H0 H1)[e]? = some (reB g B1)
 | H,[],_,_,i,e,B0,B1,_,_,h,_,_,_=>by simp at h
 | H,_::_,[],_,i,e,B0,B1,_,_,_,h,_,_=>by simp at h
 | H,_::_,_::_,[],i,e,B0,B1,_,_,_,_,_,h=>by simp at h
 | H,e'::em,B0'::H0,B1'::H1,0,e,B0,B1,hn,hl,h1,h2,h3,h4=>by
   simp at h1 h2 h4
   subst h1;subst h2;subst h4
   unfold setOwn
   rw[if_pos h3,setOwn_other g _ em H0 H1 e' fun i B k1 _=>?_]
   · rw[qgZ (hl e' (qhZ ..))]
   · exact absurd (qcZ k1) (rdZ.1 hn).1
 | H,e'::em,B0'::H0,B1'::H1,i+1,e,B0,B1,hn,hl,h1,h2,h3,h4=>by
   unfold setOwn
   refine setOwn_at g _ em H0 H1 i e B0 B1 (rdZ.1 hn).2 (fun x hx=>?_) (by simpa using h1) (by simpa using h2) h3 (by simpa using h4)
   have:=hl x (qiZ _ hx)
   split <;> simpa using this
theorem ct_frame{P:Program}{f:FuncId}{args0 args:List AV}{H0 H1 H:AHeap}{v:AV}(h:Ct P f args0 H0 v H1)(em:List Nat)(hn:em.Nodup)(ha:AWs em args0 args)(hH:AWh em H H0 em)(ho:allOwn (H1.drop H0.length)=true) :
   Ct P f args H (reA (nameG em H.length) v) (setOwn (nameG em H.length) H em H0 H1++(H1.drop H0.length).map (reB (nameG em H.length))):=by
 intro j w cargs hR hargs;obtain⟨hl,hat⟩:=hH.at
 have hlt:∀x∈em,x<H.length:=by
   intro x hx;obtain⟨i,hi⟩:=List.getElem?_of_mem hx
   have hil:i<H0.length:=by rw[hl];exact (q1Z.1 hi).1
   obtain⟨y,hy,_⟩:=hat i _ x (q3Z hil) hi;exact (q1Z.1 hy).1
 have hidx:∀i c,em[i]? = some c→em.idxOf c=i:=by
   intro i c hi;have hm:c∈em:=qcZ hi
   have h1:em[em.idxOf c]? = some c:=by
     rw[q3Z (List.idxOf_lt_length_iff.2 hm),List.getElem_idxOf]
   exact (List.getElem?_inj (List.idxOf_lt_length_iff.2 hm) hn).1 (h1.trans hi.symm)
 have hR0:R (jren em j) H0 w:=hR.ren hn hH.toG;refine (h (jren em j) w cargs hR0 (AWs.ok _ _ _ ha hargs)).mono ?_;rintro e w' ⟨cv,j',rfl,h1,h2⟩
 let g:=nameG em H.length
 let ov:Nat→Prop:=fun b=>b∈em∧(H0.getD (em.idxOf b) .dead).own=true
 have dov:∀b,Decidable (ov b):=fun b=>inferInstanceAs (Decidable (_∧_))
 let J:Inj:=⟨fun b=>if b<H.length then j b else j' (H0.length+(b-H.length)),
   fun b=>if b<H.length then (if ov b then j'.foot (em.idxOf b) else j.foot b) else j'.foot (H0.length+(b-H.length)),
   fun b=>if b<H.length then (if ov b then j'.shr (em.idxOf b) else j.shr b) else j'.shr (H0.length+(b-H.length))⟩
 have hJat:∀b,J b=if b<H.length then j b else j' (H0.length+(b-H.length)):=fun _=>rfl
 have hov:∀(i:Nat) B c,em[i]? = some c→H0[i]? = some B→B.own=true→ov c:=by
   intro i B c k1 k2 k3;refine ⟨qcZ k1,?_⟩;rw[hidx i c k1,q2Z,k2];exact k3
 have hnov:∀c,(∀(i:Nat) B,em[i]? = some c→H0[i]? = some B→¬B.own=true)→¬ov c:=by
   rintro c hc ⟨k1,k2⟩;obtain⟨i,hi⟩:=List.getElem?_of_mem k1;rw[hidx i c hi]at k2
   cases hb:H0[i]? with
   | none=>rw[q2Z,hb]at k2;cases k2
   | some B =>
     rw[q2Z,hb]at k2;exact hc i B hi hb k2
 have hgold:∀i e,em[i]? = some e→g i=e:=fun i e hi=>by simp only[g,nameG,hi]
 have hgnew:∀k,g (H0.length+k)=H.length+k:=fun k=>by
   simp only[g,nameG]
   rw[s4Z (by omega)]
   dsimp only;omega
 have hJ:∀b p,j' b=some p→J (g b)=some p:=by
   intro b p hp;rcases s2Z b H0.length with hb | hb
   · have hbe:em[b]? = some (em[b]'(by omega)):=q3Z (by omega)
     rw[hgold b _ hbe];rw[h2.ext b hb]at hp;obtain⟨c,k1,k2⟩:=s6Z.1 hp;rw[hbe]at k1;cases k1;rw[hJat,if_pos (hlt _ (r3Z _))];exact k2
   · obtain⟨k,rfl⟩:=Nat.exists_eq_add_of_le hb
     rw[hgnew k,hJat,if_neg (by omega),s3Z]
     exact hp
 have hle:JLe j J:=by
   intro b p hp
   have hb:b<H.length:=by
     rcases s2Z b H.length with h3 | h3
     · exact h3
     · rw[hR.dom b h3]at hp;cases hp
   rw[hJat,if_pos hb];exact hp
 have hlen:=setOwn_length g H em H0 H1
 have hcase:∀c y q,(setOwn g H em H0 H1++(H1.drop H0.length).map (reB g))[c]? = some y→J c=some q →
     (c<H.length∧H[c]? = some y∧j c=some q∧∀(i:Nat) B,em[i]? = some c→H0[i]? = some B→¬B.own=true) ∨
     (∃(i:Nat) (B0 B1 z:ABlk),c<H.length∧em[i]? = some c∧H0[i]? = some B0∧B0.own=true∧H1[i]? = some B1∧y=reB g B1∧j c=some q∧j' i=some q∧H[c]? = some z∧z.own=true) ∨
     (∃(k:Nat) (B1:ABlk),c=H.length+k∧H1[H0.length+k]? = some B1∧y=reB g B1∧j' (H0.length+k)=some q):=by
   intro c y q hc hq;rw[hJat]at hq;rw[s7Z,hlen]at hc
   split at hc <;> rename_i hcl
   · have hjc:j c=some q:=by rwa [if_pos hcl]at hq
     by_cases hown:∃(i:Nat) (B:ABlk),em[i]? = some c∧H0[i]? = some B∧B.own=true
     · obtain⟨i,B,k1,k2,k3⟩:=hown
       have hi0:i<H0.length:=(q1Z.1 k2).1;have hi1:i<H1.length:=rlZ hi0 h2.len;have k4:H1[i]? = some H1[i]:=q3Z hi1;have k5:=setOwn_at g H em H0 H1 i c B _ hn hlt k1 k2 k3 k4;rw[k5]at hc;cases hc;obtain⟨z,hz,hw⟩:=hat i B c k2 k1;refine .inr (.inl ⟨i,B,_,z,hcl,k1,k2,k3,k4,rfl,hjc,?_,hz,hw.own k3⟩);rw[h2.ext i hi0];exact jren_some k1 hjc
     · rw[setOwn_other g H em H0 H1 c fun i B k1 k2 k3=>hown ⟨i,B,k1,k2,k3⟩]at hc
       exact .inl ⟨hcl,hc,hjc,fun i B k1 k2 k3=>hown ⟨i,B,k1,k2,k3⟩⟩
   · rw[qzZ,r5Z]at hc
     obtain⟨B1,hB,rfl⟩:=qlZ.1 hc;rw[if_neg hcl]at hq
     exact .inr (.inr ⟨c-H.length,B1,by omega,hB,rfl,hq⟩)
 let seen:Nat→Prop:=fun c=>∃(i:Nat) (B:ABlk),em[i]? = some c∧H0[i]? = some B∧B.own=true
 have hjfoot:∀(i c:Nat),em[i]? = some c→(jren em j).foot i=j.foot c∧(jren em j).shr i=j.shr c:=by
   intro i c hi
   have hg:em.getD i 0=c:=by rw[q2Z,hi];rfl
   exact⟨by show j.foot (em.getD i 0)=_;rw[hg],by show j.shr (em.getD i 0)=_;rw[hg]⟩
 have hocc:∀u,Occ (jren em j) H0 u→∃c y p,seen c∧H[c]? = some y∧y.own=true∧j c=some p∧(u=p.blk∨u∈ownB j y c):=by
   rintro u ⟨i,B,p,k1,k2,k3,k4⟩;obtain⟨c,m1,m2⟩:=s6Z.1 k3;obtain⟨z,hz,hw⟩:=hat i B c k1 m1
   exact⟨c,z,p,⟨i,B,m1,k1,k2⟩,hz,hw.own k2,m2,k4.imp id (ownB_le (fun ho=>⟨hw.obj ho,hjfoot i c m1⟩) u)⟩
 have htch:∀u,Sch (jren em j) H0 u→∃c y p,(y.own=true→seen c)∧H[c]? = some y∧y.str=true∧j c=some p∧(u=p.blk∨u∈hidB j y c):=by
   rintro u ⟨i,B,p,k1,k2,k3,k4⟩;obtain⟨c,m1,m2⟩:=s6Z.1 k3;obtain⟨z,hz,hw⟩:=hat i B c k1 m1
   refine ⟨c,z,p,fun ho=>⟨i,B,m1,k1,?_⟩,hz,str_le hw.own hw.obj k2,m2,k4.imp id (hidB_le (fun ho=>⟨hw.obj ho,hjfoot i c m1⟩) u)⟩
   cases hob:B.isObj with
   | false=>simpa[ABlk.str,hob] using k2
   | true=>rw[←hw.obj hob];exact ho
 refine ⟨cv,J,rfl,reA_ok hJ v cv h1,Step.mergeF hR h2 seen hocc htch (fun b hb=>?_) (fun b x p hb hp=>?_)
   (fun b=>if b<H.length then (if ov b then (true,em.idxOf b) else (false,b)) else (true,H0.length+(b-H.length))) (fun b x p hb hx hp=>?_) (fun b b' x x' p p' hb _ hp hb' _ hp' hne e=>?_) (fun b hb=>?_) (by rw[qdZ,hlen];omega)⟩
 · rw[qdZ,hlen,r7Z,qkZ]at hb
   rw[hJat,if_neg (by omega)]
   exact h2.rel.dom _ (by have:=h2.len;omega)
 · rcases hcase b x p hb hp with⟨g0,g1,g2,g3⟩ | ⟨i,B0,B1,z,_,g1,g2,g3,g4,rfl,g6,g7,_,_⟩ | ⟨k,B1,rfl,g2,rfl,g4⟩
   · exact (hR.blk b x p g1 g2).mono hle fun hx=>Step.stay hR h2 hocc g1 hx g2 (fun _ ⟨i,B,m1,m2,m3⟩=>g3 i B m1 m2 m3) (.inl rfl)
   · exact reB_ok hJ (h2.rel.blk i B1 p g4 g7)
   · exact reB_ok hJ (h2.rel.blk _ B1 p g2 g4)
 · rcases hcase b x p hb hp with⟨g0,g1,g2,g3⟩ | ⟨i,B0,B1,z,g0,g1,g2,g3,g4,rfl,g6,g7,g8,g9⟩ | ⟨k,B1,rfl,g2,rfl,g4⟩
   · have hno:=hnov b g3
     simp only[g0,hno,if_true,if_false,qsZ]
     exact⟨⟨x,g1,hx,g2,id,fun _=>⟨rfl,by simp only[J,g0,hno,if_true,if_false],by simp only[J,g0,hno,if_true,if_false]⟩⟩,fun y hy ho ⟨i,B,m1,m2,m3⟩=>g3 i B m1 m2 m3⟩
   · have hyes:=hov i B0 b g1 g2 g3
     have hi:=hidx i b g1;simp only[g0,hyes,if_true,hi]
     refine ⟨⟨B1,g4,reB_nd hx,g7,fun h=>by rwa [reB_own]at h,fun ho=>⟨(reB_obj g ho).symm,by simp only[J,g0,hyes,if_true,hi],by simp only[J,g0,hyes,if_true,hi]⟩⟩,?_⟩
     cases ho:(reB g B1).isObj with
     | true=>exact .inl (str_obj ho)
     | false=>exact .inr (.inr ⟨rfl,b,z,⟨i,B0,g1,g2,g3⟩,g8,own_nd g9,g6⟩)
   · have hyo:B1.own=true:=by
       have:B1∈H1.drop H0.length:=qcZ (i:=k) (by rw[r5Z];exact g2)
       have:=s5Z.1 ho _ this;have hnd:=reB_nd hx
       cases B1 <;> simp_all [ABlk.own]
     simp only[show ¬H.length+k<H.length by omega,if_false,if_true,s3Z]
     exact⟨⟨B1,g2,reB_nd hx,g4,fun h=>by rwa [reB_own]at h,fun ho=>⟨(reB_obj g ho).symm,by show (if _ then _ else _)=_;rw[if_neg (by omega),s3Z],by show (if _ then _ else _)=_;rw[if_neg (by omega),s3Z]⟩⟩,.inl (str_own (by rw[reB_own];exact hyo))⟩
 · rcases hcase b x p hb hp with⟨g0,g1,g2,g3⟩ | ⟨i,B0,B1,z,g0,g1,g2,g3,g4,rfl,g6,g7,g8,g9⟩ | ⟨k,B1,rfl,g2,rfl,g4⟩ <;>
     rcases hcase b' x' p' hb' hp' with⟨k0,k1,k2,k3⟩ | ⟨i',B0',B1',z',k0,k1,k2,k3,k4,rfl,k6,k7,k8,k9⟩ | ⟨k',B1',rfl,k2,rfl,k4⟩
   · simp only[g0,hnov b g3,k0,hnov b' k3,if_true,if_false]at e
     exact hne (Prod.mk.inj e).2
   · simp only[g0,hnov b g3,k0,hov i' B0' b' k1 k2 k3,if_true,if_false]at e
     cases (Prod.mk.inj e).1
   · simp only[g0,hnov b g3,show ¬H.length+k'<H.length by omega,if_true,if_false]at e
     cases (Prod.mk.inj e).1
   · simp only[g0,hov i B0 b g1 g2 g3,k0,hnov b' k3,if_true,if_false]at e
     cases (Prod.mk.inj e).1
   · simp only[g0,hov i B0 b g1 g2 g3,k0,hov i' B0' b' k1 k2 k3,if_true,hidx i b g1,hidx i' b' k1]at e
     have:=(Prod.mk.inj e).2;subst this;rw[g1]at k1;exact hne (Option.some.inj k1).symm
   · simp only[g0,hov i B0 b g1 g2 g3,show ¬H.length+k'<H.length by omega,if_true,if_false,hidx i b g1]at e
     have:=(Prod.mk.inj e).2;have:=(q1Z.1 g2).1;omega
   · simp only[k0,hnov b' k3,show ¬H.length+k<H.length by omega,if_true,if_false]at e
     cases (Prod.mk.inj e).1
   · simp only[k0,hov i' B0' b' k1 k2 k3,show ¬H.length+k<H.length by omega,if_true,if_false,hidx i' b' k1]at e
     have:=(Prod.mk.inj e).2;have:=(q1Z.1 k2).1;omega
   · simp only[show ¬H.length+k<H.length by omega,show ¬H.length+k'<H.length by omega,if_false,s3Z]at e
     have:=(Prod.mk.inj e).2
     exact hne (by omega)
 · rw[hJat,if_pos hb]
def frameS(F:List AV→AHeap→Option (List Nat×AHeap×AV×AHeap)):Summ:=fun args H=>match F args H with
 | some (em,H0,v,H1)=>some (reA (nameG em H.length) v,setOwn (nameG em H.length) H em H0 H1++(H1.drop H0.length).map (reB (nameG em H.length)),em)
 | none=>none
attribute [simp] reA reAs reB nameG setOwn frameS ABlk.own allOwn
@[simp] theorem reAs_strs(g:Nat→Nat):∀l:List (List UInt8),reAs g (l.map AV.str)=l.map AV.str
 | []=>rfl
 | x::l=>by simp[reAs_strs g l]
end
section
def jsh(k:Nat)(j:Inj):Inj:=⟨fun b=>j (k+b),fun b=>j.foot (k+b),fun b=>j.shr (k+b)⟩
@[simp] theorem jsh_at(k:Nat)(j:Inj)(b:Nat):jsh k j b=j (k+b):=rfl
mutual
theorem shA_inv{k:Nat}{j:Inj}:∀(x:AV) (v:Value),VR j (shA k x) v→VR (jsh k j) x v
 | .top,_,_=>by simp[VR]
 | .bool b,v,h=>by simpa[shA,VR] using h
 | .int _ n,v,h=>by simpa[shA,VR] using h
 | .str s,v,h=>by simpa[shA,VR] using h
 | .ptr b o,v,h=>by simpa[shA,VR] using h
 | .nilp,v,h=>by simpa[shA,VR] using h
 | .slice b o l sz c,v,h=>by simpa[shA,VR] using h
 | .sl b o l sz c,v,h=>by simpa[shA,VR] using h
 | .nils,v,h=>by simpa[shA,VR] using h
 | .map b,v,h=>by simpa[shA,VR] using h
 | .nilm,v,h=>by simpa[shA,VR] using h
 | .func f xs ys,v,h=>by
   simp only[shA,VR]at h ⊢;obtain⟨cx,cy,e,h1,h2⟩:=h;exact⟨cx,cy,e,shAs_inv xs _ h1,shAs_inv ys _ h2⟩
 | .yld b,v,h=>by simpa[shA,VR] using h
 | .nilf,v,h=>by simpa[shA,VR] using h
 | .agg l,v,h=>by
   simp only[shA,VR]at h ⊢;obtain⟨cs,e,h1⟩:=h;exact⟨cs,e,shAs_inv l _ h1⟩
 | .tuple l,v,h=>by
   simp only[shA,VR]at h ⊢;obtain⟨cs,e,h1⟩:=h;exact⟨cs,e,shAs_inv l _ h1⟩
theorem shAs_inv{k:Nat}{j:Inj}:∀(xs:List AV) (vs:List Value),VRs j (shAs k xs) vs→VRs (jsh k j) xs vs
 | [],vs,h=>by simpa[shAs,VRs] using h
 | x::xs,vs,h=>by
   simp only[shAs,VRs]at h ⊢;obtain⟨v,ws,e,h1,h2⟩:=h;exact⟨v,ws,e,shA_inv x v h1,shAs_inv xs ws h2⟩
end
theorem shB_inv{k:Nat}{j:Inj}{w:World}{y:ABlk}{p:JB}(h:BRel j w (shB k y) p):BRel (jsh k j) w y p:=by
 cases y with
 | dead=>trivial
 | cells o l =>
   obtain⟨cs,T,fz,g1,g2,g3,g4,g5⟩:=h
   refine ⟨cs,T,fz,g1,g2,by rw[shAs_length]at g3;exact g3,fun i x hx=>?_,g5⟩
   obtain⟨v,hv,hr⟩:=g4 i (shA k x) (by rw[shAs_get,hx];rfl)
   exact⟨v,hv,shA_inv x v hr⟩
 | loop ps a b st pe F =>
   obtain⟨fn,tmps,D,g1,g2⟩:=h;exact⟨fn,tmps,D,g1,shAs_inv F _ g2⟩
 | map es =>
   obtain⟨ents,cl,g1,gs,g2,g3⟩:=h
   refine ⟨ents,cl,g1,gs,by simpa using g2,fun i z e hz he=>?_⟩
   have:=g3 i (shA k z.1,shA k z.2) e (by rw[qzZ,hz];rfl) he
   exact⟨shA_inv _ _ this.1,shA_inv _ _ this.2⟩
 | obj _ _=>trivial
 | pin l =>
   obtain⟨h0,cs,T,fz,g1,g4⟩:=h
   refine ⟨h0,cs,T,fz,g1,fun i x hx=>?_⟩
   obtain⟨v,hv,hr⟩:=g4 i (shA k x) (by rw[shAs_get,hx];rfl)
   exact⟨v,hv,shA_inv x v hr⟩
theorem new_core{j j':Inj}{H N:AHeap}{w w':World}{v:AV}{cv:Value}(hR:R j H w)(hk:∀c,c<w.heap.size→w'.heap[c]? = w.heap[c]?)(hos:w'.os=w.os)(ht:w'.tape=w.tape)(ho:w'.output=w.output)(hsz:w.heap.size≤w'.heap.size)
   (hN:R0 j' N w') (hfr:∀(b:Nat) (y:ABlk) (p:JB),N[b]? = some y→y≠.dead→j' b=some p→(y.own=true∧w.heap.size≤p.blk)∧y.isObj=false) (hv:VR j' v cv) :
   VR (jadd H.length j j') (shA H.length v) cv∧Step H.length j H w (jadd H.length j j') (H++N.map (shB H.length)) w':=by
 have hle:JLe j (jadd H.length j j'):=by
   intro b p hp
   have hb:b<H.length:=by
     rcases s2Z b H.length with h3 | h3
     · exact h3
     · rw[hR.dom b h3]at hp;cases hp
   rw[jadd_at,if_pos hb];exact hp
 have hcase:∀c y q,(H++N.map (shB H.length))[c]? = some y→jadd H.length j j' c=some q→(H[c]? = some y∧j c=some q)∨(∃b y',c=H.length+b∧N[b]? = some y'∧y=shB H.length y'∧j' b=some q):=by
   intro c y q hc hq;rw[s7Z]at hc
   split at hc <;> rename_i hlt
   · rw[jadd_at,if_pos hlt]at hq
     exact .inl ⟨hc,hq⟩
   · rw[qzZ]at hc
     obtain⟨y',hy',rfl⟩:=qlZ.1 hc;rw[jadd_at,if_neg hlt]at hq
     exact .inr ⟨c-H.length,y',by omega,hy',rfl,hq⟩
 refine ⟨shA_ok v cv hv,Step.make hR ⟨?_,?_,?_⟩ ?_ (by simp) ⟨hos,ht,ho,hsz,fun c hc _=>hk c hc⟩ ?_⟩
 · intro b hb
   simp at hb
   rw[jadd_at,if_neg (by omega)]
   exact hN.dom _ (by omega)
 · intro b x p hb hp
   rcases hcase b x p hb hp with⟨g1,g2⟩ | ⟨b',y',rfl,g1,rfl,g2⟩
   · exact (hR.blk b x p g1 g2).mono hle fun hx=>hk _ (hR.ltx g1 hx g2)
   · exact shB_ok (hN.blk b' y' p g1 g2)
 · intro b b' y x p p' hb hy hb' hx hne hp hp'
   have nd:∀y':ABlk,shB H.length y'≠.dead→y'≠.dead:=by rintro y' h rfl;exact h rfl
   rcases hcase b y p hb hp with⟨g1,g2⟩ | ⟨c,y',rfl,g1,rfl,g2⟩ <;> rcases hcase b' x p' hb' hp' with⟨k1,k2⟩ | ⟨c',x',rfl,k1,rfl,k2⟩
   · exact hR.inj b b' y x p p' g1 hy k1 hx hne g2 k2
   · have:=hR.ltx g1 (own_nd hy) g2
     have:=(hfr c' x' p' k1 (nd _ hx) k2).1.2;omega
   · have:=hR.ltx k1 hx k2
     have:=(hfr c y' p g1 (nd _ (own_nd hy)) g2).1.2;omega
   · exact hN.inj c c' y' x' p p' g1 (by rw[←shB_own H.length];exact hy) k1 (nd _ hx) (fun e=>hne (by rw[e])) g2 k2
 · intro b hb
   rw[jadd_at,if_pos hb]
 · intro b y p hb hy hp
   rcases hcase b y p hb hp with⟨g1,g2⟩ | ⟨c,y',rfl,g1,rfl,g2⟩
   · have hbl:b<H.length:=(q1Z.1 g1).1
     exact .same g1 hy g2 (by simp[jadd,hbl]) (by simp[jadd,hbl])
   · have:=hfr c y' p g1 (shB_nd _ hy) g2
     refine .inl ⟨this.1.2,?_⟩
     cases y' <;> simp_all [shB,ABlk.isObj]
theorem ct_winN{P:Program}{f:FuncId}{args0 args:List AV}{H0 H N:AHeap}{v:AV}(h:Ct P f args0 H0 (shA H0.length v) (H0++N.map (shB H0.length)))(ho:allOwn N=true)(wd:List (Nat×Nat))(ha:winAs wd args0 args)(hH:winH H H0 wd)(hno:N.all (fun x=>!x.isObj)=true:=by first | rfl | simp[ABlk.isObj]) :
   Ct P f args H (shA H.length v) (H++N.map (shB H.length)):=by
 intro j w cargs hR hargs;obtain⟨hl,hat⟩:=hH.at
 let j0:Inj:=⟨fun i=>match wd[i]? with
   | some (b,off)=>(j b).map fun p=>⟨p.blk,p.base+off,p.size⟩
   | none=>none,fun _=>[],fun _=>[]⟩
 have hj0:∀i p,j0 i=some p→∃b off q,wd[i]? = some (b,off)∧j b=some q∧p=⟨q.blk,q.base+off,q.size⟩:=by
   intro i p hp;simp only[j0]at hp;split at hp
   · rename_i b off e
     obtain⟨q,hq,rfl⟩:=qlZ.1 hp;exact⟨b,off,q,e,hq,rfl⟩
   · cases hp
 have hro:H0.all isRo=true:=by
   rw[s5Z];intro x hx;obtain⟨i,hi⟩:=List.getElem?_of_mem hx
   have hil:i<wd.length:=by rw[←hl];exact (q1Z.1 hi).1
   obtain⟨⟨l0,rfl⟩,_⟩:=hat i x _ _ hi (q3Z hil);rfl
 have hR0:R j0 H0 w:=by
   refine R.ro (fun b hb=>?_) (fun i x p hx hp=>?_) hro hR.glo.1
   · simp only[j0]
     rw[s4Z (show wd.length≤b by omega)]
   · obtain⟨b,off,q,h1,h2,rfl⟩:=hj0 i p hp
     obtain⟨y0,hy0⟩:=hR.live h2;obtain⟨l0,o,l,rfl,hb,h3,h4,h5⟩:=(hat i x b off hx h1).2 y0 hy0;obtain⟨cs,T,fz,g1,g2,g3,g4,g5⟩:=hR.blk b _ q hb h2
     refine ⟨cs,T,fz,g1,g2,by dsimp only;omega,fun k z hz=>?_,fun ho=>by cases ho⟩
     rw[h4,r4Z]at hz;split at hz
     · rw[r5Z]at hz
       obtain⟨v',hv',hr⟩:=g4 _ z hz
       refine ⟨v',by dsimp only;rw[show q.base+off+k=q.base+(off+k) by omega];exact hv',?_⟩
       refine VR.free z v' ?_ hr;refine frees_iff.1 h5 z ?_;rw[h4];refine qcZ (i:=k) ?_;rw[r4Z,if_pos ‹_›,r5Z];exact hz
     · cases hz
 have hargs0:∀(xs ys:List AV) (vs:List Value),winAs wd xs ys→VRs j ys vs→VRs j0 xs vs:=winAs_ok fun i b off p h1 h2=>by simp only[j0,h1,h2,rhZ]
 refine (h j0 w cargs hR0 (hargs0 _ _ _ ha hargs)).mono ?_;rintro e w' ⟨cv,j',rfl,h1,h2⟩;have hk:=keeps_all h2.keeps hro
 have hfr:∀(b:Nat) (y:ABlk) (p:JB),N[b]? = some y→y≠.dead→j' (H0.length+b)=some p→(y.own=true∧w.heap.size≤p.blk)∧y.isObj=false:=by
   intro b y p hb hy hp
   have hpl:y.isObj=false:=by simpa using s5Z.1 hno _ (qcZ hb)
   have hyo:y.own=true:=by
     have:=s5Z.1 ho _ (qcZ hb)
     cases y <;> simp_all [ABlk.own]
   have hb':(H0++N.map (shB H0.length))[H0.length+b]? = some (shB H0.length y):=by
     rw[q5Z (by omega),s3Z,qzZ,hb];rfl
   refine ⟨⟨hyo,?_⟩,hpl⟩
   rcases h2.fresh p.blk ⟨_,_,p,hb',by rw[shB_own];exact hyo,hp,.inl rfl⟩ with h3 | ⟨b0,y0,p0,h3,h4,_⟩
   · exact h3
   · exact absurd h4 (ro_own (s5Z.1 hro _ (qcZ h3)))
 have hN:R0 (jsh H0.length j') N w':=by
   refine ⟨fun b hb=>h2.rel.dom _ (by simp;omega),fun b x p hb hp=>?_,fun b b' y x p p' hb hy hb' hx hne hp hp'=>?_⟩
   · refine shB_inv (h2.rel.blk (H0.length+b) (shB H0.length x) p ?_ hp)
     rw[q5Z (by omega),s3Z,qzZ,hb];rfl
   · refine h2.rel.inj (H0.length+b) (H0.length+b') (shB H0.length y) (shB H0.length x) p p' ?_ (by rw[shB_own];exact hy) ?_ ?_ (by omega) hp hp'
     · rw[q5Z (by omega),s3Z,qzZ,hb];rfl
     · rw[q5Z (by omega),s3Z,qzZ,hb'];rfl
     · cases x <;> simp_all [shB]
 obtain⟨g1,g2⟩:=new_core hR hk h2.keeps.os h2.keeps.tape h2.keeps.output h2.keeps.size hN hfr (shA_inv v cv h1);exact⟨cv,_,rfl,g1,g2⟩
def readNewS(g:List AV→AHeap→Option (AV×AHeap)):Summ:=fun args H=>match g args H with
 | some (v,N)=>some (shA H.length v,H++N.map (shB H.length),[])
 | none=>none
theorem sound_readNew{P:Program}{f:FuncId}{g:List AV→AHeap→Option (AV×AHeap)}(he:∀cargs w,(callFunc f cargs).run P w=.ok (.enter f cargs) w)
   (h:∀args H v N,g args H=some (v,N)→Ct P f args H (shA H.length v) (H++N.map (shB H.length))):Sound P f (readNewS g):=by
 refine ⟨he,fun args H v H' W hs=>?_,fun args H v H' W hs=>?_⟩ <;> (unfold readNewS at hs;split at hs <;> cases hs)
 · rename_i v0 N hg
   exact h args H _ _ hg
 · exact⟨by simp,fun b hb _=>by rw[q4Z hb]⟩
attribute [simp] readNewS
theorem ct_runE{P:Program}{Γ:Gam}(hm:P.follows .mixedOrders=true)(hΓ:GOk P Γ){n:Nat}{f:FuncId}{fn:Func}(hf:P.funcs[f]? = some fn){args:List AV}{H H':AHeap}{v:AV}(h:∃v1 H1,runF P Γ n fn args H=some (v1,H1)∧Weak H.length [v1] H1 [v] H') :
   Ct P f args H v H':=by
 obtain⟨v1,H1,h1,h2⟩:=h;exact ct_run hm hΓ hf h1 h2
theorem ct_slN{P:Program}{f:FuncId}{pre post:List AV}{b off n sz:Nat}{c:Bool}{H H':AHeap}{v:AV}(h1:Ct P f (pre++.slice b off n sz c::post) H v H')(h2:n=0→Ct P f (pre++.nils::post) H v H'):Ct P f (pre++.sl b off n sz c::post) H v H':=by
 intro j w cargs hR hargs
 have hx:∃y,(y=.slice b off n sz c∨(n=0∧y=.nils))∧VRs j (pre++y::post) cargs.toList:=by
   obtain⟨L,hL⟩:∃L,cargs.toList=L:=⟨_,rfl⟩;rw[hL]at hargs ⊢;clear h1 h2 hL
   induction pre generalizing L with
   | nil =>
     simp only[qaZ,VRs]at hargs ⊢;obtain⟨u,ws,rfl,k1,k2⟩:=hargs;rcases VR_sl k1 with⟨k3,k4⟩ | k3
     · exact⟨.nils,.inr ⟨k3,rfl⟩,u,ws,rfl,k4,k2⟩
     · exact⟨_,.inl rfl,u,ws,rfl,k3,k2⟩
   | cons x pre ih =>
     simp only[q9Z,VRs]at hargs ⊢;obtain⟨u,ws,rfl,k1,k2⟩:=hargs;obtain⟨y,hy,hv⟩:=ih ws k2;exact⟨y,hy,u,ws,rfl,k1,hv⟩
 obtain⟨y,rfl | ⟨h0,rfl⟩,hv⟩:=hx
 · exact h1 j w cargs hR hv
 · exact h2 h0 j w cargs hR hv
end
end Go.Proofs.YtpmfecnajoojeaaGreatDoor
