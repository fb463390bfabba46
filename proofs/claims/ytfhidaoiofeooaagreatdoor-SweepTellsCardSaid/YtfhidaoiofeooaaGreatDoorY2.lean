/- Parts of the proof of SweepTells: lemmas, each with its own conditions. -/
import Derived.RangeFuncSeq
import Derived.OrdersIn
import Derived.Scope
import Derived.Test.YtfhidaoiofeooaaGreatDoorY1
set_option maxHeartbeats 64000000
open List renaming getElem?_eq_some_iff → q1Z, getD_eq_getElem?_getD → q2Z, getElem?_eq_getElem → q3Z, getElem?_append_right → q5Z, take_of_length_le → q6Z, length_cons → q7Z, cons_append → q9Z, replicate → qbZ, mem_of_getElem? → qcZ, append_assoc → qeZ, getElem?_set_self → qgZ, mem_cons_self → qhZ, mem_cons_of_mem → qiZ, mem_cons → qwZ, mem_append → qxZ, getElem?_map → qzZ, getElem?_take → r4Z, getElem?_drop → r5Z, length_set → r8Z, getElem?_cons_zero → raZ, nodup_cons → rdZ, replicate_succ → rvZ, getElem?_eq_none → s4Z, all_eq_true → s5Z, getElem?_append → s7Z, set_cons_succ → saZ, mem_filter → sbZ
open Option renaming map_eq_some_iff → qlZ, getD_some → rgZ, map_some → rhZ, bind_eq_some_iff → s6Z
open Nat renaming le_refl → qnZ, lt_or_ge → s2Z, add_sub_cancel_left → s3Z
open Bool renaming and_eq_true → qrZ, false_eq_true → qsZ
open Array renaming getElem?_eq_some_iff → qtZ, getElem?_eq_getElem → quZ, getD_eq_getD_getElem? → qvZ, getElem?_toList → riZ, toList_append → rxZ
namespace Go.Proofs.YtfhidaoiofeooaaGreatDoor
set_option maxRecDepth 100000
theorem zCc{j:Inj}{H:zA}{w:World}(h:R j H w)(b:Nat):Step H.length j H w j (H.set b .dead) w:=by
 have hsub:∀(c:Nat) (y:ABlk),(H.set b .dead)[c]? = some y->y≠.dead->H[c]? = some y:=by
   intro c y hc hy;rw[List.getElem?_set]at hc;split at hc
   · split at hc
     · cases hc;exact absurd rfl hy
     · cases hc
   · exact hc
 refine Step.make h ⟨fun c hc=>h.dom c (by simpa using hc),fun c x p hc hp=>?_,fun c c' y x p p' hc hy hc' hd hne hp hp'=>h.inj c c' y x p p' (hsub _ _ hc (Zj hy)) hy (hsub _ _ hc' hd) hd hne hp hp'⟩ (fun _ _=>rfl) (by simp) (Keeps0.refl _ _ _) fun c y p hc hy hp=>.same (hsub _ _ hc hy) hy hp rfl rfl;cases x with
 | dead=>trivial
 | obj _ _=>trivial
 | cells o l=>exact h.blk c _ p (hsub _ _ hc (by simp)) hp
 | loop _ _ _ _ _ _=>exact h.blk c _ p (hsub _ _ hc (by simp)) hp
 | map _=>exact h.blk c _ p (hsub _ _ hc (by simp)) hp
 | pin _=>exact h.blk c _ p (hsub _ _ hc (by simp)) hp
theorem zI9{j:Inj}{H:zA}{w:World}(h:R j H w){b:Nat}{l:List AV}{p:JB}(hb:H[b]? = some (.cells true l))(hp:j b=some p)(off:Nat)(hoff:off<=l.length)(xs:List AV)(vs:List Value)
   (hx:VRs j xs vs) (hn:p.base+l.length+xs.length<=p.size) :
   Step H.length j H w (zBO j H.length ⟨p.blk,p.base+off,p.size⟩) (H.set b .dead++[.cells true (l.drop off++xs)]) (w.setCells p.blk (p.base+l.length) vs):=by
 obtain⟨cs,T,fz,h1,h2,h3,h4,h5⟩:=h.blk b _ p hb hp;have hlt:b<H.length:=(q1Z.1 hb).1;obtain⟨cs',e1,e2,e3⟩:=zCG p.blk vs (p.base+l.length) w cs h1;obtain⟨s1,s2,s3,s4⟩:=zCK p.blk vs (p.base+l.length) w;have hxl:=(VRs_iff.1 hx).1;have hnone:j H.length=none:=h.dom _ (qnZ _);have hle:JLe j (zBO j H.length ⟨p.blk,p.base+off,p.size⟩):=zBb hnone;have hcase:∀(c:Nat) (y:ABlk) (q:JB),(H.set b .dead++[ABlk.cells true (l.drop off++xs)])[c]? = some y->y≠.dead->zBO j H.length ⟨p.blk,p.base+off,p.size⟩ c=some q ->
     (c=H.length/\y=.cells true (l.drop off++xs)/\q=⟨p.blk,p.base+off,p.size⟩)\/(H[c]? = some y/\j c=some q/\c≠b):=by
   intro c y q hc hy hq;rw[s7Z]at hc;split at hc <;> rename_i hlt'
   · simp at hlt'
     have hq':j c=some q:=by rw[ZC,if_neg (by omega)]at hq;exact hq
     rw[List.getElem?_set]at hc;by_cases hne:b=c
     · subst hne
       simp[hlt]at hc;exact absurd hc.symm hy
     · rw[if_neg hne]at hc
       exact .inr ⟨hc,hq',fun e=>hne e.symm⟩
   · simp at hlt' hc
     have hc0:c=H.length:=by
       rcases s2Z (c-H.length) 1 with h6 | h6
       · omega
       · rw[s4Z (by simpa using h6)]at hc;cases hc
     subst hc0;simp at hc;rw[zb]at hq;cases hq;exact .inl ⟨rfl,hc.symm,rfl⟩
 have hother:∀(c:Nat) (y:ABlk) (q:JB),H[c]? = some y->y≠.dead->j c=some q->c≠b->q.blk≠p.blk:=fun c y q hc hy hq hne e=>h.inj b c _ y p q hb rfl hc hy (Ne.symm hne) hp hq e.symm;refine Step.make h ⟨?_,?_,?_⟩ ?_ (by simp) ⟨s1,s2,s3,by omega,?_⟩ ?_
 · intro c hc
   simp at hc;rw[ZC];rw[if_neg (by omega)];exact h.dom c (by omega)
 · intro c x q hc hq
   cases x with
   | dead=>trivial
   | cells o m =>
     rcases hcase c _ q hc (by simp) hq with⟨rfl,e,rfl⟩ | ⟨k1,k2,k3⟩
     · cases e
       refine ⟨cs',T,fz,e1,by rw[e2,h2],by simp;omega,fun i x hxi=>?_,h5⟩;have hi:=(q1Z.1 hxi).1;simp at hi;dsimp only;rw[e3 _ (by omega)];rw[s7Z]at hxi;split at hxi <;> rename_i hio
       · simp at hio
         rw[if_neg (by omega)];rw[r5Z]at hxi;obtain⟨v,hv,hr⟩:=h4 _ x hxi;exact⟨v,by rw[show p.base+off+i=p.base+(off+i) by omega];exact hv,hr.mono hle⟩
       · simp at hio
         rw[if_pos (by omega)];obtain⟨v,hv,hr⟩:=hx.at hxi;exact⟨v,by rw[show p.base+off+i-(p.base+l.length)=i-(l.drop off).length by simp;omega];exact hv,hr.mono hle⟩
     · exact (h.blk c _ q k1 k2).mono hle fun _=>zd _ _ _ _ _ (hother c _ q k1 (by simp) k2 k3)
   | loop _ _ _ _ _ _ =>
     rcases hcase c _ q hc (by simp) hq with⟨rfl,e,rfl⟩ | ⟨k1,k2,k3⟩
     · cases e
     · exact (h.blk c _ q k1 k2).mono hle fun _=>zd _ _ _ _ _ (hother c _ q k1 (by simp) k2 k3)
   | obj _ _=>trivial
   | map _ =>
     rcases hcase c _ q hc (by simp) hq with⟨rfl,e,rfl⟩ | ⟨k1,k2,k3⟩
     · cases e
     · exact (h.blk c _ q k1 k2).mono hle fun _=>zd _ _ _ _ _ (hother c _ q k1 (by simp) k2 k3)
   | pin _ =>
     rcases hcase c _ q hc (by simp) hq with⟨rfl,e,rfl⟩ | ⟨k1,k2,k3⟩
     · cases e
     · exact (h.blk c _ q k1 k2).mono hle fun _=>zd _ _ _ _ _ (hother c _ q k1 (by simp) k2 k3)
 · intro c c' l' x q q' hc hy hc' hd hne hq hq'
   rcases hcase c _ q hc (Zj hy) hq with⟨rfl,_,rfl⟩ | ⟨k1,k2,k3⟩ <;> rcases hcase c' _ q' hc' hd hq' with⟨rfl,_,rfl⟩ | ⟨g1,g2,g3⟩
   · exact absurd rfl hne
   · exact (hother c' _ q' g1 hd g2 g3).symm
   · exact hother c _ q k1 (Zj hy) k2 k3
   · exact h.inj c c' l' x q q' k1 hy g1 hd hne k2 g2
 · intro c hc
   rw[ZC,if_neg (by omega)]
 · intro c _ ho
   exact zd _ _ _ _ _ (fun e=>ho b _ p hb rfl rfl hp e.symm)
 · intro c l' q hc hy hq
   rcases hcase c _ q hc hy hq with⟨rfl,rfl,rfl⟩ | ⟨k1,k2,k3⟩
   · exact .inr ⟨b,_,p,hb,by simp,hp,rfl,fun _=>rfl,fun ho=>by cases ho⟩
   · exact .same k1 hy k2 rfl rfl
def zHY(H:zA)(sz:Nat):AV->Option (Nat×List AV)
 | .nils=>some (0,[])
 | .slice b off n sz' _ =>
   if sz'=sz then
     match H[b]? with
     | some (.cells _ l)=>if off+n*sz<=l.length then some (n,(l.drop off).take (n*sz)) else none
     | _=>none
   else none
 | .sl b off n sz' _ =>
   if sz'=sz then
     match H[b]? with
     | some (.cells _ l)=>if off+n*sz<=l.length then some (n,(l.drop off).take (n*sz)) else if n=0 then some (0,[]) else none
     | _=>if n=0 then some (0,[]) else none
   else none
 | _=>none
def zj(P:Program)(H:zA)(t:TypeId)(s x:AV):Option (AV×zA) :=
 match P.underlying t with
 | some (.slice e) =>
   match ZA P e,zB1 P e,(zBo P e).bind zAC with
   | some isz,some iby,some z =>
     if z.length=isz/\0<isz then
       match zHY H isz x with
       | none=>none
       | some (m,news) =>
         match s with
         | .nils=>if m=0 then some (s,H) else if news.all zx/\m*iby<=140737488355328/\m<=9223372036854775807 then some (.slice H.length 0 m isz false,H++[.cells true news]) else none
         | .slice b off len sz clip =>
           if m=0 then some (s,H) else
           if sz=isz/\news.all zx/\(len+m)*iby<=140737488355328/\len+m<=9223372036854775807 then
             match H[b]? with
             | some (.cells own l) =>
               if clip then (if off+len*sz<=l.length then some (.slice H.length 0 (len+m) sz false,H++[.cells true ((l.drop off).take (len*sz)++news)]) else none)
               else if own&&off+len*sz==l.length then some (.slice H.length 0 (len+m) sz false,H.set b .dead++[.cells true (l.drop off++news)]) else none
             | _=>none
           else none
         | _=>none
     else none
   | _,_,_=>none
 | _=>none
theorem zDk{j:Inj}{H:zA}{w:World}(hR:R j H w){sz m:Nat}{x:AV}{cx:Value}{news:List AV}(h:zHY H sz x=some (m,news))(hx:VR j x cx) :
   (m=0/\news=[]/\∃a c,cx=.slice a 0 c)\/(∃vs ad c,0<m/\cx=.slice (some ad) m c/\VRs j news vs/\vs.length=m*sz/\∀(k:Nat) v,vs[k]? = some v->w.cell? (ad.add k)=some v):=by
 unfold zHY at h;split at h
 · cases h
   simp only[VR]at hx;exact .inl ⟨rfl,rfl,none,0,hx⟩
 · rename_i b off n sz' c
   simp only[VR]at hx;obtain⟨p,ad,cap,hp,rfl,hlc,hclip,hm,hadr⟩:=hx;split at h;rotate_left
   · cases h
   rename_i hsz;subst hsz;split at h;rotate_left
   · cases h
   rename_i own l hb;split at h <;> cases h
   rename_i hle;rcases Nat.eq_zero_or_pos m with h0 | h0
   · subst h0
     exact .inl ⟨rfl,by simp,_,_,rfl⟩
   · obtain⟨vs,v1,v2,v3⟩:=hR.cells hb hp off (m*sz') hle
     rcases hadr with h1 | ⟨rfl,_⟩
     · omega
     exact .inr ⟨vs,_,_,h0,rfl,v1,v2,v3⟩
 · rename_i b off n sz' c
   split at h;rotate_left
   · cases h
   rename_i hsz;subst hsz;have zero:n=0->some (0,([]:List AV))=some (m,news)->(m=0/\news=[]/\∃a c,cx=.slice a 0 c):=by
     intro hn0 e;cases e;subst hn0;rcases zDC hx with⟨_,hx'⟩ | hx'
     · exact⟨rfl,rfl,none,0,hx'⟩
     · simp only[VR]at hx'
       obtain⟨p,ad,cap,hp,rfl,_⟩:=hx';exact⟨rfl,rfl,_,_,rfl⟩
   split at h
   · rename_i own l hb
     split at h
     · rename_i hle
       by_cases hn0:n=0
       · subst hn0
         exact .inl (zero rfl (by rw[<-h];simp))
       · cases h
         have hx':=zCP (by omega) hx;simp only[VR]at hx';obtain⟨p,ad,cap,hp,rfl,hlc,hclip,hm,hadr⟩:=hx';obtain⟨vs,v1,v2,v3⟩:=hR.cells hb hp off (m*sz') hle;rcases hadr with h1 | ⟨rfl,_⟩
         · omega
         exact .inr ⟨vs,_,_,by omega,rfl,v1,v2,v3⟩
     · split at h
       · exact .inl (zero ‹_› h)
       · cases h
   · split at h
     · exact .inl (zero ‹_› h)
     · cases h
 · cases h
theorem ZJ{P:Program}{j:Inj}{H H':zA}{w:World}(hR:R j H w){t ty:TypeId}{s x r:AV}{cs cx:Value}(h:zj P H t s x=some (r,H'))(hs:VR j s cs)(hx:VR j x cx) :
   ∃cv j' w',(Builtin.append_ #[t,t] ty #[cs,cx]).run P w=.ok cv w'/\VR j' r cv/\Step H.length j H w j' H' w':=by
 unfold zj at h;split at h;rotate_left
 · cases h
 rename_i e ht;split at h;rotate_left
 · cases h
 rename_i isz iby z hsi hby hz;split at h;rotate_left
 · cases h
 rename_i hzl;obtain⟨hzl,hsz0⟩:=hzl;obtain⟨za,hza,hzc⟩:=s6Z.1 hz;obtain⟨i,cz,hi,hiz,hrz,hvz⟩:=zAX hza j w;obtain⟨i',hi',e1⟩:=qlZ.1 hsi;rw[hi]at hi';cases hi';obtain⟨i',hi',e2⟩:=qlZ.1 hby
 rw[hi]at hi';cases hi';subst e1;subst e2
 clear hby
 have hcz:=Zc hzc hvz;have hczl:cz.cells.size=i.size:=by have:=hcz.length;simp at this;omega
 split at h
 · cases h
 rename_i m news hsrc;have hsr:=zDk hR hsrc hx;have hnil:∀a n c d,m=0->cs=.slice d n c->n<=c->cx=.slice a 0 0\/cx=.slice a 0 (match cx with | .slice _ _ c=>c | _=>0)->(Builtin.append_ #[t,t] ty #[cs,cx]).run P w=.ok cs w:=by
   intro a n c d hm hcs hnc hcx;have hcx':∃c',cx=.slice a 0 c':=by rcases hcx with h | h <;> exact⟨_,h⟩
   obtain⟨c',rfl⟩:=hcx';subst hcs;cases d <;> cases a <;> simp[Builtin.append_,run_underlying ht,sizeOf,typeInfo,hi,Builtin.lenOf,Builtin.firstCells,hnc,loadCells,loadCellsFrom,storeCells]
 split at h
 · -- onto nil
   simp only[VR]at hs;subst hs;split at h
   · rename_i h0
     cases h;subst h0;rcases hsr with⟨_,_,a,c,rfl⟩ | ⟨vs,ad,c,h1,_⟩
     · exact⟨_,j,w,hnil a 0 0 none rfl rfl (qnZ _) (.inr rfl),by simp[VR],Step.refl hR (qnZ _)⟩
     · omega
   · rename_i h0
     split at h <;> cases h
     rename_i hc;obtain⟨hall,hby,hmx⟩:=hc;rcases hsr with⟨h1,_⟩ | ⟨vs,ad,c,h1,rfl,v1,v2,v3⟩
     · exact absurd h1 h0
     have hrun:=run_append_nil (P:=P) w t ty e i cz ht hi hiz ad m c vs v2 v3 h1 (by omega) (by omega);have hge:=grownCap_ge w m 0 e;have hnl:news.length=vs.length:=v1.length;refine ⟨_,_,_,hrun,?_,zDs (w':=w.drew.alloc _) hR true news _ e (0,0) rfl rfl rfl rfl (by simp;omega) ?_ (fun _ k _ hh=>by simp at hh)⟩
     · refine ⟨_,_,_,zb _ _ _,rfl,hge,by simp,grownCap_le_maxLen w m 0 e hmx,.inr ⟨rfl,?_⟩⟩
       simp[Builtin.zeroCells,hczl,v2];rw[<-Nat.add_mul];exact Nat.le_of_eq (by congr 1;omega)
     · rw[hnl]
       simp only[rxZ];rw[List.take_append_of_le_length (qnZ _),List.take_length];exact v1
 · rename_i b off len sz clip
   simp only[VR]at hs;obtain⟨p,ad0,cap,hp,rfl,hlc,hclip,hcm,hadr⟩:=hs;split at h
   · rename_i h0
     cases h;subst h0;rcases hsr with⟨_,_,a,c,rfl⟩ | ⟨vs,ad,c,h1,_⟩
     · refine ⟨_,j,w,hnil a len cap _ rfl rfl hlc (.inr rfl),?_,Step.refl hR (qnZ _)⟩
       simp only[VR];exact⟨p,_,_,hp,rfl,hlc,hclip,hcm,hadr⟩
     · omega
   rename_i h0;split at h;rotate_left
   · cases h
   rename_i hc;obtain⟨rfl,hall,hby,hmx⟩:=hc;rcases hsr with⟨h1,_⟩ | ⟨vs,ad,c,h1,rfl,v1,v2,v3⟩
   · exact absurd h1 h0
   have hnl:news.length=vs.length:=v1.length;split at h;rotate_left
   · cases h
   rename_i own l hb;have grow:∀(H1:zA) (hR1:R j H1 w) (hH1:H1.length=H.length) (hst:Step H.length j H w j H1 w),off+len*i.size<=l.length->cap<len+m ->
       ∃cv j' w',(Builtin.append_ #[t,t] ty #[.slice (some ad0) len cap,.slice (some ad) m c]).run P w=.ok cv w'/\VR j' (.slice H.length 0 (len+m) i.size false) cv/\Step H.length j H w j' (H1++[.cells true ((l.drop off).take (len*i.size)++news)]) w':=by
     intro H1 hR1 hH1 hst hfit hg;obtain⟨os,o1,o2,o3⟩:=hR.cells hb hp off (len*i.size) hfit;have hold:∀(k:Nat) v,os[k]? = some v->w.cell? (ad0.add k)=some v:=by
       intro k v hk;have hkl:=(q1Z.1 hk).1;rcases hadr with h6 | ⟨rfl,_⟩
       · have:len=0:=by omega
         subst this;simp at o2;rw[o2]at hkl;simp at hkl
       · exact o3 k v hk
     have hrun:=run_append_grow (P:=P) w t ty e i cz ht hi hiz ad0 len cap os o2 hold ad m c vs v2 v3 hg (by omega) (growslice_fits hg hby);have hge:=grownCap_ge w (len+m) cap e;have hall2:=o1.append v1;have hlen2:=hall2.length;refine ⟨_,_,_,hrun,?_,hst.trans (zDs (w':=w.drew.alloc _) hR1 true ((l.drop off).take (len*i.size)++news) _ e (0,0) rfl rfl rfl rfl (by rw[hlen2];simp) ?_ (fun _ k _ hh=>by simp at hh)) (by omega)⟩
     · rw[<-hH1]
       refine ⟨_,_,_,zb _ _ _,rfl,hge,by simp,grownCap_le_maxLen w (len+m) cap e hmx,.inr ⟨rfl,?_⟩⟩;simp[Builtin.zeroCells,hczl,v2,o2];rw[<-Nat.add_mul,<-Nat.add_mul];exact Nat.le_of_eq (by congr 1;omega)
     · have e9:(os.toArray++vs.toArray++Builtin.zeroCells cz.cells (grownCap w (len+m) cap e-(len+m))).toList.take ((l.drop off).take (len*i.size)++news).length=os++vs:=by
         rw[hlen2];simp only[rxZ];rw[List.take_append_of_le_length (by simp),q6Z (by simp)]
       rw[e9];exact hall2
   split at h
   · rename_i hcl
     split at h <;> cases h
     rename_i hfit;exact grow H hR rfl (Step.refl hR (qnZ _)) hfit (by have:=hclip hcl;omega)
   · split at h <;> cases h
     rename_i hown;simp only[qrZ,beq_iff_eq]at hown;obtain⟨rfl,hend⟩:=hown;rcases s2Z cap (len+m) with hg | hg
     · have:=grow (H.set b .dead) (zCc hR b).rel (by simp) (zCc hR b) (by omega) hg
       rw[q6Z (by simp;omega)]at this;exact this
     · rcases hadr with h6 | ⟨rfl,hroom⟩
       · omega
       obtain⟨cs,T,fz,g1,g2,g3,g4,g5⟩:=hR.blk b _ p hb hp;have hmul:(len+m)*i.size<=cap*i.size:=Nat.mul_le_mul_right _ hg;rw[Nat.add_mul]at hmul;have hrun:=run_append_room_cells (P:=P) w t ty e i ht hi p.blk (p.base+off) len cap ad m c vs v2 v3 (zEN hall v1) hg
         (fun k hk=>by
           simp[World.cell?,g1];omega)
         (fun k hk=>by
           have:=g5 rfl (p.base+off+len*i.size+k) (by omega);obtain⟨f1,f2⟩:=fz;simp[World.frozen?,g1]at this ⊢;omega)
       have hstep:=zI9 hR hb hp off (by omega) news vs v1 (by omega);rw[show p.base+off+len*i.size=p.base+l.length by omega]at hrun;refine ⟨_,_,_,hrun,?_,hstep⟩;refine ⟨_,_,_,zb _ _ _,rfl,hg,by simp,hcm,.inr ⟨rfl,?_⟩⟩;simp only[Nat.add_zero];omega
 · cases h
theorem zCw{j:Inj}{H:zA}{w:World}(h:R j H w)(b:Nat){own:Bool}{l:List AV}(hb:H[b]? = some (.cells own l))(k:Nat):Step H.length j H w j (H.set b (.cells own (l.take k))) w:=by
 have hlt:b<H.length:=(q1Z.1 hb).1;have hof:∀(c:Nat) (z:ABlk),(H.set b (.cells own (l.take k)))[c]? = some z->(c=b/\z=.cells own (l.take k))\/H[c]? = some z:=by
   intro c z hc;rw[List.getElem?_set]at hc;by_cases e:b=c
   · subst e
     simp[hlt]at hc;exact .inl ⟨rfl,hc.symm⟩
   · rw[if_neg e]at hc
     exact .inr hc
 have hback:∀(c:Nat) (z:ABlk),(H.set b (.cells own (l.take k)))[c]? = some z->∃z',H[c]? = some z'/\(z.own=true->z'.own=true)/\(z≠.dead->z'≠.dead):=by
   intro c z hc;rcases hof c z hc with⟨rfl,rfl⟩ | h1
   · exact⟨_,hb,fun ho=>ho,fun _=>by simp⟩
   · exact⟨z,h1,id,id⟩
 refine Step.make h ⟨fun c hc=>h.dom c (by simpa using hc),fun c z p hc hp=>?_,fun c c' y z p p' hc hy hc' hd hne hp hp'=>?_⟩ (fun _ _=>rfl) (by simp) (Keeps0.refl _ _ _) fun c y p hc hy hp=>?_
 · rcases hof c z hc with⟨rfl,rfl⟩ | h1
   · obtain⟨cs,T,fz,g1,g2,g3,g4,g5⟩:=h.blk c _ p hb hp
     refine ⟨cs,T,fz,g1,g2,by simp;omega,fun i x hx=>?_,g5⟩;rw[r4Z]at hx;split at hx
     · exact g4 i x hx
     · cases hx
   · exact h.blk c z p h1 hp
 · obtain⟨y',k1,k2,_⟩:=hback c y hc
   obtain⟨z',g1,_,g2⟩:=hback c' z hc';exact h.inj c c' y' z' p p' k1 (k2 hy) g1 (g2 hd) hne hp hp'
 · rcases hof c y hc with⟨rfl,rfl⟩ | h1
   · exact .inr ⟨_,_,p,hb,by simp,hp,rfl,id,fun ho=>by cases ho⟩
   · exact .same h1 hy hp rfl rfl
def zGk(P:Program)(H:zA)(t:TypeId)(s x:AV):Option (AV×zA) :=
 match s with
 | .slice b off len sz false =>
   match H[b]? with
   | some (.cells true l)=>if off+len*sz<l.length then zj P (H.set b (.cells true (l.take (off+len*sz)))) t s x else zj P H t s x
   | _=>zj P H t s x
 | s=>zj P H t s x
theorem zOI{P:Program}{j:Inj}{H H':zA}{w:World}(hR:R j H w){t ty:TypeId}{s x r:AV}{cs cx:Value}(h:zGk P H t s x=some (r,H'))(hs:VR j s cs)(hx:VR j x cx) :
   ∃cv j' w',(Builtin.append_ #[t,t] ty #[cs,cx]).run P w=.ok cv w'/\VR j' r cv/\Step H.length j H w j' H' w':=by
 unfold zGk at h;split at h
 · split at h
   · rename_i hb
     split at h
     · obtain⟨cv,j',w',h1,h2,h3⟩:=ZJ (ty:=ty) (zCw hR _ hb _).rel h hs hx
       exact⟨cv,j',w',h1,h2,(zCw hR _ hb _).trans h3 (by simp)⟩
     · exact ZJ hR h hs hx
   · exact ZJ hR h hs hx
 · exact ZJ hR h hs hx
def zBB(P:Program)(H:zA)(t:TypeId)(s x:AV):Option (AV×zA) :=
 match s with
 | .sl b off len sz clip =>
   match P.underlying t with
   | some (.slice e) =>
     match ZA P e,zHY H sz x with
     | some isz,some (m,_) =>
       if isz=sz then
         if m=0 then (zj P H t .nils x).map fun _=>(.sl b off len sz clip,H)
         else match H[b]? with
           | some (.cells own l)=>if clip || (own&&off+len*sz==l.length) then zj P H t (.slice b off len sz clip) x else none
           | _=>none
       else none
     | _,_=>none
   | _=>none
 | s=>zGk P H t s x
theorem zBu{P:Program}{j:Inj}{H H':zA}{w:World}(hR:R j H w){t ty:TypeId}{s x r:AV}{cs cx:Value}(h:zBB P H t s x=some (r,H'))(hs:VR j s cs)(hx:VR j x cx) :
   ∃cv j' w',(Builtin.append_ #[t,t] ty #[cs,cx]).run P w=.ok cv w'/\VR j' r cv/\Step H.length j H w j' H' w':=by
 unfold zBB at h;split at h;rotate_left
 · exact zOI hR h hs hx
 rename_i b off len sz clip;split at h;rotate_left
 · cases h
 rename_i e ht;split at h;rotate_left
 · cases h
 rename_i isz m news hsi hsrc;split at h;rotate_left
 · cases h
 rename_i hss;subst hss;have onnil:∀r1 H1,zj P H t .nils x=some (r1,H1)->(m=0->r1=.nils/\H1=H)/\(m≠0->r1=.slice H.length 0 m isz false/\H1=H++[.cells true news]):=by
   intro r1 H1 h1;unfold zj at h1;rw[ht]at h1;dsimp only at h1;split at h1;rotate_left
   · cases h1
   rename_i isz' iby z hsi' hby hz;rw[hsi]at hsi';cases hsi';split at h1;rotate_left
   · cases h1
   rw[hsrc]at h1;dsimp only at h1;split at h1
   · rename_i h0
     cases h1;exact⟨fun _=>⟨rfl,rfl⟩,fun hn=>absurd h0 hn⟩
   · rename_i h0
     split at h1 <;> cases h1
     exact⟨fun hm=>absurd hm h0,fun _=>⟨rfl,rfl⟩⟩
 split at h
 · rename_i hm
   subst hm;obtain⟨⟨r1,H1⟩,h1,e1⟩:=qlZ.1 h;cases e1;obtain⟨rfl,rfl⟩:=(onnil r1 H1 h1).1 rfl;rcases zDC hs with⟨rfl,rfl⟩ | hs'
   · obtain⟨cv,j',w',g1,g2,g3⟩:=ZJ (ty:=ty) (cs:=.slice none 0 0) hR h1 (by simp[VR]) hx
     simp only[VR]at g2;subst g2;exact⟨_,j',w',g1,.inl ⟨rfl,rfl⟩,g3⟩
   · -- nothing is appended to a slice
     simp only[VR]at hs';obtain⟨p,ad0,cap,hp,rfl,hlc,hclip,hcm,hadr⟩:=hs';obtain⟨i,hi,e1⟩:=qlZ.1 hsi;rcases zDk hR hsrc hx with⟨_,_,a,c,rfl⟩ | ⟨vs,ad,c,h2,_⟩
     · refine ⟨.slice (some ad0) len cap,j,w,?_,.inr ⟨p,ad0,cap,hp,rfl,hlc,hclip,hcm,hadr⟩,Step.refl hR (qnZ _)⟩
       cases a <;> simp[Builtin.append_,run_underlying ht,sizeOf,typeInfo,hi,Builtin.lenOf,Builtin.firstCells,hlc,loadCells,loadCellsFrom,storeCells]
     · omega
 · rename_i hm
   split at h;rotate_left
   · cases h
   rename_i own l hb;split at h;rotate_left
   · cases h
   rename_i hcond;rcases zDC hs with⟨rfl,rfl⟩ | hs';rotate_left
   · exact ZJ hR h hs' hx
   have hres:∃r1 H1,zj P H t .nils x=some (r1,H1)/\r=.slice H.length 0 m isz false/\((H'=H1)\/(H'=H1.set b .dead)):=by
     have hb':b<H.length:=(q1Z.1 hb).1;unfold zj at h ⊢;rw[ht]at h ⊢;dsimp only at h ⊢;split at h;rotate_left
     · cases h
     rename_i isz' iby z hsi' hby hz;rw[hsi]at hsi';cases hsi';split at h;rotate_left
     · cases h
     rename_i hzl;rw[if_pos hzl];rw[hsrc]at h ⊢;dsimp only at h ⊢;rw[if_neg hm]at h ⊢;split at h;rotate_left
     · cases h
     rename_i hc;rw[if_pos ⟨hc.2.1,by simpa using hc.2.2.1,by simpa using hc.2.2.2⟩];rw[hb]at h;dsimp only at h;split at h
     · split at h <;> cases h
       exact⟨_,_,rfl,by simp,.inl (by simp)⟩
     · rename_i hcl
       split at h <;> cases h
       rename_i hown;simp only[qrZ,beq_iff_eq]at hown;refine ⟨_,_,rfl,by simp,.inr ?_⟩;rw[List.set_append_left _ _ hb',List.drop_of_length_le (by omega)];rfl
   obtain⟨r1,H1,h1,rfl,hH⟩:=hres;obtain⟨rfl,rfl⟩:=(onnil r1 H1 h1).2 hm;obtain⟨cv,j',w',g1,g2,g3⟩:=ZJ (ty:=ty) (cs:=.slice none 0 0) hR h1 (by simp[VR]) hx;rcases hH with rfl | rfl
   · exact⟨cv,j',w',g1,g2,g3⟩
   · exact⟨cv,j',w',g1,g2,g3.trans (zCc g3.rel b) (by simp)⟩
theorem zHO{j:Inj}{H:zA}{w:World}(h:R j H w)(x:ABlk):Step H.length j H w j (H++[x]) w:=by
 have hn:j H.length=none:=h.dom _ (qnZ _);have hof:∀(c:Nat) (z:ABlk) (p:JB),(H++[x])[c]? = some z->j c=some p->H[c]? = some z:=by
   intro c z p hc hp;rw[s7Z]at hc;split at hc
   · exact hc
   · rename_i hlt
     rw[h.dom c (by omega)]at hp;cases hp
 exact Step.make h ⟨fun c hc=>h.dom c (by simp at hc;omega),fun c z p hc hp=>h.blk c z p (hof c z p hc hp) hp,fun c c' y z p p' hc hy hc' hd hne hp hp'=>h.inj c c' y z p p' (hof _ _ _ hc hp) hy (hof _ _ _ hc' hp') hd hne hp hp'⟩ (fun _ _=>rfl) (by simp) (Keeps0.refl _ _ _) fun c y p hc hy hp=>.same (hof _ _ _ hc hp) hy hp rfl rfl
theorem zIS{j:Inj}{H:zA}{w:World}(h:R j H w){b:Nat}{l:List AV}(hb:H[b]? = some (.cells true l))(off:Nat)(hoff:off<=l.length) :
   Step H.length j H w (match j b with | some p=>zBO j H.length ⟨p.blk,p.base+off,p.size⟩ | none=>j) (H.set b .dead++[.cells true (l.drop off)]) w:=by
 have hbl:b<H.length:=(q1Z.1 hb).1;cases hp:j b with
 | none =>
   dsimp only;have h1:=zCc h b;have h2:=zHO h1.rel (.cells true (l.drop off));exact h1.trans h2 (by simp)
 | some p =>
   dsimp only;obtain⟨cs,T,fz,g1,g2,g3,g4,g5⟩:=h.blk b _ p hb hp;have:=zI9 h hb hp off hoff [] [] rfl (by simp;omega);simpa[World.setCells] using this
def zDt(P:Program)(H:zA)(t:TypeId)(b off len sz:Nat)(x:AV):Option (AV×zA) :=
 match P.underlying t with
 | some (.slice e) =>
   match H[b]? with
   | some (.cells true l) =>
     match ZA P e,zB1 P e,(zBo P e).bind zAC,zHY (H.set b (.cells true (l.take (off+len*sz)))) sz x with
     | some isz,some iby,some z,some (m,news) =>
       if z.length=isz/\0<isz/\isz=sz/\off+len*sz<=l.length/\news.all zx/\(len+m)*iby<=140737488355328/\len+m<=9223372036854775807 then
         some (.sl H.length 0 (len+m) sz false,H.set b .dead++[.cells true ((l.drop off).take (len*sz)++news)])
       else none
     | _,_,_,_=>none
   | _=>none
 | _=>none
theorem zNK{P:Program}{j:Inj}{H H':zA}{w:World}(hR:R j H w){t ty:TypeId}{b off len sz:Nat}{x r:AV}{cs cx:Value}(h:zDt P H t b off len sz x=some (r,H'))(hs:VR j (.sl b off len sz false) cs)(hx:VR j x cx) :
   ∃cv j' w',(Builtin.append_ #[t,t] ty #[cs,cx]).run P w=.ok cv w'/\VR j' r cv/\Step H.length j H w j' H' w':=by
 unfold zDt at h;split at h;rotate_left
 · cases h
 rename_i e ht;split at h;rotate_left
 · cases h
 rename_i l hb;split at h;rotate_left
 · cases h
 rename_i isz iby z m news hsi hby hz hsrc;split at h <;> cases h
 rename_i hc;obtain⟨c1,c2,rfl,c4,c5,c6,c7⟩:=hc;have hbl:b<H.length:=(q1Z.1 hb).1;obtain⟨H1,hH1⟩:∃H1,H1=H.set b (.cells true (l.take (off+len*isz))):=⟨_,rfl⟩
 have st1:=zCw hR b hb (off+len*isz);rw[<-hH1]at st1 hsrc;have hb1:H1[b]? = some (.cells true (l.take (off+len*isz))):=by rw[hH1,qgZ hbl]
 have hlen1:H1.length=H.length:=by rw[hH1];simp
 have hset:H1.set b .dead=H.set b .dead:=by rw[hH1,List.set_set]
 have hcut:(l.take (off+len*isz)).drop off=(l.drop off).take (len*isz):=by
   rw[List.drop_take,s3Z]
 have hl1:(l.take (off+len*isz)).length=off+len*isz:=by simp;omega
 by_cases hm:m=0
 · subst hm
   have hn:news=[]:=by
     rcases zDk st1.rel hsrc hx with⟨_,h2,_⟩ | ⟨_,_,_,h2,_⟩
     · exact h2
     · omega
   subst hn;have hA:zBB P H1 t (.sl b off len isz false) x=some (.sl b off len isz false,H1):=by
     unfold zBB;simp only[ht,hsi,hsrc,if_true];unfold zj;simp only[ht,hsi,hby,hz,hsrc,if_true,c1,c2,and_self,rhZ]
   obtain⟨cv,j',w',g1,g2,g3⟩:=zBu (ty:=ty) st1.rel hA hs hx;have st2:=zIS g3.rel hb1 off (by omega);rw[hcut,hset,hlen1]at st2;refine ⟨cv,_,w',g1,?_,(st1.trans g3 (by omega)).trans (by simpa using st2) (by omega)⟩;rcases zDC g2 with⟨k1,k2⟩ | k
   · exact .inl ⟨by omega,k2⟩
   · simp only[VR]at k
     obtain⟨p,a,cap,hp,k2,k3,k4,k5,k6⟩:=k;rw[hp];exact .inr ⟨_,a,cap,zb _ _ _,by simpa using k2,by simpa using k3,by simp,k5,by simpa using k6⟩
 · have hA:zBB P H1 t (.sl b off len isz false) x=some (.slice H.length 0 (len+m) isz false,H.set b .dead++[.cells true ((l.drop off).take (len*isz)++news)]):=by
     unfold zBB;simp only[ht,hsi,hsrc,if_true,hm,if_false,hb1,hl1];unfold zj;simp only[ht,hsi,hby,hz,hsrc,if_true,hm,if_false,c1,c2,and_self,hb1,hl1,c5,c6,c7,hset,hlen1,hcut,qsZ,Bool.true_and,BEq.rfl,Bool.or_true]
   obtain⟨cv,j',w',g1,g2,g3⟩:=zBu (ty:=ty) st1.rel hA hs hx;exact⟨cv,j',w',g1,zE4 g2,st1.trans g3 (by omega)⟩
def zGs(P:Program)(H:zA)(t:TypeId)(b off len sz:Nat)(x:AV):Option (AV×zA) :=
 match zDt P H t b off len sz x with
 | some (.sl b' o' l' s' c',H')=>some (.slice b' o' l' s' c',H')
 | _=>none
theorem zNy{P:Program}{j:Inj}{H H':zA}{w:World}(hR:R j H w){t ty:TypeId}{b off len sz:Nat}{x r:AV}{cs cx:Value}(h:zGs P H t b off len sz x=some (r,H'))(hs:VR j (.slice b off len sz false) cs)(hx:VR j x cx) :
   ∃cv j' w',(Builtin.append_ #[t,t] ty #[cs,cx]).run P w=.ok cv w'/\VR j' r cv/\Step H.length j H w j' H' w':=by
 unfold zGs at h;split at h;rotate_left
 · cases h
 rename_i b' o' l' s' c' H1' hM;cases h;unfold zDt at hM;split at hM;rotate_left
 · cases hM
 rename_i e ht;split at hM;rotate_left
 · cases hM
 rename_i l hb;split at hM;rotate_left
 · cases hM
 rename_i isz iby z m news hsi hby hz hsrc;split at hM <;> cases hM
 rename_i hc;obtain⟨c1,c2,rfl,c4,c5,c6,c7⟩:=hc;have hbl:b<H.length:=(q1Z.1 hb).1;obtain⟨H1,hH1⟩:∃H1,H1=H.set b (.cells true (l.take (off+len*isz))):=⟨_,rfl⟩
 have st1:=zCw hR b hb (off+len*isz);rw[<-hH1]at st1 hsrc;have hb1:H1[b]? = some (.cells true (l.take (off+len*isz))):=by rw[hH1,qgZ hbl]
 have hlen1:H1.length=H.length:=by rw[hH1];simp
 have hset:H1.set b .dead=H.set b .dead:=by rw[hH1,List.set_set]
 have hcut:(l.take (off+len*isz)).drop off=(l.drop off).take (len*isz):=by
   rw[List.drop_take,s3Z]
 have hl1:(l.take (off+len*isz)).length=off+len*isz:=by simp;omega
 by_cases hm:m=0
 · subst hm
   have hn:news=[]:=by
     rcases zDk st1.rel hsrc hx with⟨_,h2,_⟩ | ⟨_,_,_,h2,_⟩
     · exact h2
     · omega
   subst hn;have hA:zj P H1 t (.slice b off len isz false) x=some (.slice b off len isz false,H1):=by
     unfold zj;simp only[ht,hsi,hby,hz,hsrc,if_true,c1,c2,and_self]
   obtain⟨cv,j',w',g1,g2,g3⟩:=ZJ (ty:=ty) st1.rel hA hs hx;have st2:=zIS g3.rel hb1 off (by omega);rw[hcut,hset,hlen1]at st2;refine ⟨cv,_,w',g1,?_,(st1.trans g3 (by omega)).trans (by simpa using st2) (by omega)⟩;simp only[VR]at g2;obtain⟨p,a,cap,hp,k2,k3,k4,k5,k6⟩:=g2;rw[hp];exact⟨_,a,cap,zb _ _ _,by simpa using k2,by simpa using k3,by simp,k5,by simpa using k6⟩
 · have hA:zj P H1 t (.slice b off len isz false) x=some (.slice H.length 0 (len+m) isz false,H.set b .dead++[.cells true ((l.drop off).take (len*isz)++news)]):=by
     unfold zj;simp only[ht,hsi,hby,hz,hsrc,if_true,hm,if_false,c1,c2,and_self,hb1,hl1,c5,c6,c7,hset,hlen1,hcut,qsZ,Bool.true_and,BEq.rfl]
   obtain⟨cv,j',w',g1,g2,g3⟩:=ZJ (ty:=ty) st1.rel hA hs hx;exact⟨cv,j',w',g1,g2,st1.trans g3 (by omega)⟩
def zGo(P:Program)(H:zA)(t:TypeId)(x:AV):Option (AV×zA) :=
 match P.underlying t with
 | some (.slice e) =>
   match ZA P e,zB1 P e,(zBo P e).bind zAC with
   | some isz,some iby,some z =>
     match zHY H isz x with
     | some (m,news)=>if z.length=isz/\0<isz/\news.all zx/\m*iby<=140737488355328/\m<=9223372036854775807 then some (.sl H.length 0 m isz false,H++[.cells true news]) else none
     | none=>none
   | _,_,_=>none
 | _=>none
theorem zNA{P:Program}{j:Inj}{H H':zA}{w:World}(hR:R j H w){t ty:TypeId}{x r:AV}{cs cx:Value}(h:zGo P H t x=some (r,H'))(hs:VR j .nils cs)(hx:VR j x cx) :
   ∃cv j' w',(Builtin.append_ #[t,t] ty #[cs,cx]).run P w=.ok cv w'/\VR j' r cv/\Step H.length j H w j' H' w':=by
 unfold zGo at h;split at h;rotate_left
 · cases h
 rename_i e ht;split at h;rotate_left
 · cases h
 rename_i isz iby z hsi hby hz;split at h;rotate_left
 · cases h
 rename_i m news hsrc;split at h <;> cases h
 rename_i hc;obtain⟨c1,c2,c5,c6,c7⟩:=hc;by_cases hm:m=0
 · subst hm
   have hn:news=[]:=by
     rcases zDk hR hsrc hx with⟨_,h2,_⟩ | ⟨_,_,_,h2,_⟩
     · exact h2
     · omega
   subst hn;have hA:zj P H t .nils x=some (.nils,H):=by
     unfold zj;simp only[ht,hsi,hby,hz,hsrc,if_true,c1,c2,and_self]
   obtain⟨cv,j',w',g1,g2,g3⟩:=ZJ (ty:=ty) hR hA hs hx;exact⟨cv,j',w',g1,.inl ⟨rfl,g2⟩,g3.trans (zHO g3.rel _) (qnZ _)⟩
 · have hA:zj P H t .nils x=some (.slice H.length 0 m isz false,H++[.cells true news]):=by
     unfold zj;simp only[ht,hsi,hby,hz,hsrc,if_true,hm,if_false,c1,c2,and_self,c5,c6,c7]
   obtain⟨cv,j',w',g1,g2,g3⟩:=ZJ (ty:=ty) hR hA hs hx;exact⟨cv,j',w',g1,zE4 g2,g3⟩
def zGg(P:Program)(H:zA)(t:TypeId)(s x:AV):Option (AV×zA) :=
 match s with
 | .sl b off len sz false=>zDt P H t b off len sz x
 | .slice b off len sz false=>match zGs P H t b off len sz x with
   | some r=>some r
   | none=>zBB P H t s x
 | .nils=>match x with
   | .sl b off n sz c=>zGo P H t (.sl b off n sz c)
   | x=>zBB P H t .nils x
 | s=>zBB P H t s x
theorem zNE{P:Program}{j:Inj}{H H':zA}{w:World}(hR:R j H w){t ty:TypeId}{s x r:AV}{cs cx:Value}(h:zGg P H t s x=some (r,H'))(hs:VR j s cs)(hx:VR j x cx) :
   ∃cv j' w',(Builtin.append_ #[t,t] ty #[cs,cx]).run P w=.ok cv w'/\VR j' r cv/\Step H.length j H w j' H' w':=by
 unfold zGg at h;split at h
 · exact zNK hR h hs hx
 · split at h
   · rename_i hN
     cases h;exact zNy hR hN hs hx
   · exact zBu hR h hs hx
 · split at h
   · exact zNA hR h hs hx
   · exact zBu hR h hs hx
 · exact zBu hR h hs hx
def zGt(P:Program)(H:zA)(t u:TypeId)(s x:AV):Option (AV×zA) :=
 match P.underlying t,P.underlying u,s,x with
 | some (.slice e),some (.int _),.nils,.int _ n =>
   match ZA P e,zB1 P e,(zBo P e).bind zAC with
   | some isz,some iby,some z =>
     if z.length=isz/\0<isz/\0<n/\n.toNat*iby<=140737488355328/\n.toNat<=9223372036854775807 then some (.slice H.length 0 n.toNat isz false,H++[.cells true (Zf z n.toNat)]) else none
   | _,_,_=>none
 | _,_,_,_=>none
theorem zDP{P:Program}(w:World)(t u ty e:TypeId)(k k':IntKind)(i:TypeInfo)(z:Value)(ht:P.underlying t=some (.slice e))(hu:P.underlying u=some (.int k))(hi:P.info? e=some i)(hz:i.zero=some z)
   (n:Nat) (h0:0<n) (hs:0<i.size) (h63:n<=9223372036854775807) (h48:n*i.bytes<=281474976710656) :
   (Builtin.append_ #[t,u] ty #[.slice none 0 0,.int k' n]).run P w =
     .ok (.slice (some ⟨w.heap.size,0,none⟩) n (grownCap w n 0 e)) (w.drew.alloc (.cells (Builtin.zeroCells z.cells n++Builtin.zeroCells z.cells (grownCap w n 0 e-n)) e)):=by
 have hn:n≠0:=by omega
 have hw:IntKind.i64.wrap (n:Int)=n:=IntWalk.i64_in _ (by omega);have h63':¬(9223372036854775807<(n:Int)):=by omega
 have h48':¬(281474976710656<Builtin.nextslicecap n 0*i.bytes):=by rw[nextslicecap_zero h0];omega
 have h48'':¬(281474976710656<(n:Int)*(i.bytes:Int)):=by
   have:((n*i.bytes:Nat):Int)<=281474976710656:=by omega
   push_cast at this
   omega
 have hne:¬(n=0\/i.size=0):=by omega
 have hs0:i.size≠0:=by omega
 have hneg:¬((n:Int)<0):=by omega
 have hmul:¬(n*i.size=0):=by rw[Nat.mul_eq_zero];omega
 simp[Builtin.append_,run_underlying ht,run_underlying hu,sizeOf,typeInfo,zeroValue,hi,hz,asInt,asIntOf,hw,hn,hneg,hmul,h63',h48',h48'',Question.forced,run_firstCells_none,newRow,grownCap]
theorem zOQ{P:Program}{j:Inj}{H H':zA}{w:World}(hR:R j H w){t u ty:TypeId}{s x r:AV}{cs cx:Value}(h:zGt P H t u s x=some (r,H'))(hs:VR j s cs)(hx:VR j x cx) :
   ∃cv j' w',(Builtin.append_ #[t,u] ty #[cs,cx]).run P w=.ok cv w'/\VR j' r cv/\Step H.length j H w j' H' w':=by
 unfold zGt at h;split at h;rotate_left
 · cases h
 rename_i e k k' n ht hu;split at h;rotate_left
 · cases h
 rename_i isz iby z hsi hby hz;split at h <;> cases h
 rename_i hc;obtain⟨hzl,hs0,hn0,hb1,hb2⟩:=hc;obtain⟨za,hza,hzc⟩:=s6Z.1 hz;obtain⟨i,cz,hi,hiz,hrz,hvz⟩:=zAX hza j w;obtain⟨i',hi',e1⟩:=qlZ.1 hsi;rw[hi]at hi';cases hi';obtain⟨i',hi',e2⟩:=qlZ.1 hby
 rw[hi]at hi';cases hi';subst e1;subst e2
 simp only[VR]at hs hx;subst hs;subst hx
 have hcz:=Zc hzc hvz;have hczl:cz.cells.size=i.size:=by have:=hcz.length;simp at this;omega
 have hnn:((n.toNat:Nat):Int)=n:=by omega
 have hrun:=zDP (P:=P) w t u ty e k k' i cz ht hu hi hiz n.toNat (by omega) hs0 hb2 (by omega);rw[hnn]at hrun;have hge:=grownCap_ge w n.toNat 0 e;have hzr:=zFd hcz n.toNat;have hlz:(Zf z n.toNat).length=n.toNat*i.size:=by rw[zAW,hzl]
 refine ⟨_,_,_,hrun,?_,zDs (w':=w.drew.alloc _) hR true (Zf z n.toNat) _ e (0,0) rfl rfl rfl rfl (by rw[hlz];simp[Builtin.zeroCells,hczl]) ?_ (fun _ k _ hh=>by simp at hh)⟩
 · refine ⟨_,_,_,zb _ _ _,rfl,hge,by simp,grownCap_le_maxLen w n.toNat 0 e hb2,.inr ⟨rfl,?_⟩⟩
   simp[Builtin.zeroCells,hczl];rw[<-Nat.add_mul];exact Nat.le_of_eq (by congr 1;omega)
 · rw[rxZ,List.take_append_of_le_length (by rw[hlz];simp[Builtin.zeroCells,hczl]),q6Z (by rw[hlz];simp[Builtin.zeroCells,hczl])]
   exact hzr
def Zn(P:Program)(H:zA)(t:TypeId)(s x:AV):Option (Nat×Nat×List AV) :=
 match P.underlying t with
 | some (.slice e) =>
   match ZA P e,zB1 P e,(zBo P e).bind zAC with
   | some isz,some iby,some z =>
     if z.length=isz/\0<isz then
       match zHY H isz x with
       | none=>none
       | some (m,news) =>
         if 0<m then
           match s with
           | .nils=>if news.all zx/\m*iby<=140737488355328/\m<=9223372036854775807 then some (m,isz,news) else none
           | .slice b off len sz true =>
             if sz=isz/\news.all zx/\(len+m)*iby<=140737488355328/\len+m<=9223372036854775807 then
               match H[b]? with
               | some (.cells _ l)=>if off+len*sz<=l.length then some (len+m,isz,(l.drop off).take (len*sz)++news) else none
               | _=>none
             else none
           | _=>none
         else none
     else none
   | _,_,_=>none
 | _=>none
theorem zQn{H H':zA}(h:∀(b:Nat) x,H[b]? = some x->H'[b]? = some x){sz:Nat}{x:AV}{m:Nat}{news:List AV}(hs:zHY H sz x=some (m,news))(hm:0<m):zHY H' sz x=some (m,news):=by
 unfold zHY at hs ⊢;split at hs
 · cases hs;rfl
 · split at hs
   rotate_left
   · cases hs
   rename_i hsz;rw[if_pos hsz];split at hs;rotate_left
   · cases hs
   rename_i hb;rw[h _ _ hb];exact hs
 · split at hs
   rotate_left
   · cases hs
   rename_i hsz;rw[if_pos hsz];split at hs
   · rename_i hb
     rw[h _ _ hb];exact hs
   · split at hs <;> cases hs
     omega
 · cases hs
theorem zEA{P:Program}{H H':zA}(h:∀(b:Nat) x,H[b]? = some x->H'[b]? = some x){t:TypeId}{s x:AV}{r:Nat×Nat×List AV}(hs:Zn P H t s x=some r):Zn P H' t s x=some r:=by
 unfold Zn at hs ⊢;split at hs;rotate_left
 · cases hs
 split at hs;rotate_left
 · cases hs
 split at hs;rotate_left
 · cases hs
 rename_i hz;rw[if_pos hz];split at hs
 · cases hs
 rename_i m news hsrc;split at hs;rotate_left
 · cases hs
 rename_i hm;rw[zQn h hsrc hm];dsimp only;rw[if_pos hm];split at hs
 · exact hs
 · split at hs
   rotate_left
   · cases hs
   rename_i hc;rw[if_pos hc];split at hs;rotate_left
   · cases hs
   rename_i hb;rw[h _ _ hb];exact hs
 · cases hs
theorem zC2{P:Program}{j:Inj}{H:zA}{w:World}(hR:R j H w){t ty:TypeId}{s x:AV}{cs cx:Value}{n sz:Nat}{l0:List AV}(h:Zn P H t s x=some (n,sz,l0))(hs:VR j s cs)(hx:VR j x cx) :
   ∃cv ca T fz w',(Builtin.append_ #[t,t] ty #[cs,cx]).run P w=.ok cv w'/\w'.heap=w.heap.push (.cells ca T fz)/\w'.os=w.os/\w'.tape=w.tape/\w'.output=w.output/\l0.length<=ca.size /\
     VRs j l0 (ca.toList.take l0.length)/\(∀i,i<ca.size->¬(fz.1<=i/\i<fz.2))/\∀(j':Inj) id,j' id=some ⟨w.heap.size,0,ca.size⟩->VR j' (.slice id 0 n sz false) cv:=by
 unfold Zn at h;split at h;rotate_left
 · cases h
 rename_i e ht;split at h;rotate_left
 · cases h
 rename_i isz iby z hsi hby hz;split at h;rotate_left
 · cases h
 rename_i hzl;obtain⟨hzl,hsz0⟩:=hzl;obtain⟨za,hza,hzc⟩:=s6Z.1 hz;obtain⟨i,cz,hi,hiz,hrz,hvz⟩:=zAX hza j w;obtain⟨i',hi',e1⟩:=qlZ.1 hsi;rw[hi]at hi';cases hi';obtain⟨i',hi',e2⟩:=qlZ.1 hby
 rw[hi]at hi';cases hi';subst e1;subst e2
 clear hby
 have hcz:=Zc hzc hvz;have hczl:cz.cells.size=i.size:=by have:=hcz.length;simp at this;omega
 split at h
 · cases h
 rename_i m news hsrc;have hsr:=zDk hR hsrc hx;split at h;rotate_left
 · cases h
 rename_i hm0;rcases hsr with⟨h1,_⟩ | ⟨vs,ad,c,_,rfl,v1,v2,v3⟩
 · omega
 have hnl:news.length=vs.length:=v1.length;split at h
 · simp only[VR]at hs
   subst hs;split at h <;> cases h
   rename_i hc;obtain⟨hall,hby,hmx⟩:=hc;have hrun:=run_append_nil (P:=P) w t ty e i cz ht hi hiz ad n c vs v2 v3 hm0 (by omega) (by omega);have hge:=grownCap_ge w n 0 e;refine ⟨_,_,_,(0,0),w.drew.alloc _,hrun,rfl,rfl,rfl,rfl,by simp;omega,?_,fun _ _ hh=>by simp at hh,fun j' id hj=>?_⟩
   · rw[hnl]
     simp only[rxZ];rw[List.take_append_of_le_length (qnZ _),List.take_length];exact v1
   · refine ⟨_,_,_,hj,rfl,hge,by simp,grownCap_le_maxLen w n 0 e hmx,.inr ⟨rfl,?_⟩⟩
     simp[Builtin.zeroCells,hczl,v2];rw[<-Nat.add_mul];exact Nat.le_of_eq (by congr 1;omega)
 · rename_i b off len sz'
   simp only[VR]at hs;obtain⟨p,ad0,cap,hp,rfl,hlc,hclip,hcm,hadr⟩:=hs;have hcl:=hclip trivial;split at h;rotate_left
   · cases h
   rename_i hc;obtain⟨rfl,hall,hby,hmx⟩:=hc;split at h;rotate_left
   · cases h
   rename_i own l hb;split at h <;> cases h
   rename_i hfit;obtain⟨os,o1,o2,o3⟩:=hR.cells hb hp off (len*i.size) hfit;have hold:∀(k:Nat) v,os[k]? = some v->w.cell? (ad0.add k)=some v:=by
     intro k v hk;have hkl:=(q1Z.1 hk).1;rcases hadr with h6 | ⟨rfl,_⟩
     · have:len=0:=by omega
       subst this;simp at o2;rw[o2]at hkl;simp at hkl
     · exact o3 k v hk
   have hg:cap<len+m:=by omega
   have hrun:=run_append_grow (P:=P) w t ty e i cz ht hi hiz ad0 len cap os o2 hold ad m c vs v2 v3 hg (by omega) (growslice_fits hg hby);have hge:=grownCap_ge w (len+m) cap e;have hall2:=o1.append v1;have hlen2:=hall2.length;refine ⟨_,_,_,(0,0),w.drew.alloc _,hrun,rfl,rfl,rfl,rfl,by rw[hlen2];simp,?_,fun _ _ hh=>by simp at hh,fun j' id hj=>?_⟩
   · have e9:(os.toArray++vs.toArray++Builtin.zeroCells cz.cells (grownCap w (len+m) cap e-(len+m))).toList.take ((l.drop off).take (len*i.size)++news).length=os++vs:=by
       rw[hlen2];simp only[rxZ];rw[List.take_append_of_le_length (by simp),q6Z (by simp)]
     rw[e9];exact hall2
   · refine ⟨_,_,_,hj,rfl,hge,by simp,grownCap_le_maxLen w (len+m) cap e hmx,.inr ⟨rfl,?_⟩⟩
     simp[Builtin.zeroCells,hczl,v2,o2];rw[<-Nat.add_mul,<-Nat.add_mul];exact Nat.le_of_eq (by congr 1;omega)
 · cases h
theorem zJ5{P:Program}{H:zA}{t:TypeId}{b off sz:Nat}{x:AV}{r:Nat×Nat×List AV}(h:Zn P H t (.slice b off 0 sz true) x=some r):Zn P H t .nils x=some r:=by
 unfold Zn at h ⊢;split at h;rotate_left
 · cases h
 split at h;rotate_left
 · cases h
 split at h;rotate_left
 · cases h
 rename_i hz;rw[if_pos hz];split at h
 · cases h
 split at h;rotate_left
 · cases h
 rename_i hm;dsimp only at h ⊢;rw[if_pos hm];split at h;rotate_left
 · cases h
 rename_i hc;split at h;rotate_left
 · cases h
 split at h <;> cases h
 obtain⟨h1,h2,h3,h4⟩:=hc;rw[if_pos ⟨h2,by simpa using h3,by omega⟩];simp
def zBZ(P:Program)(H:zA)(t:TypeId)(s x:AV):Option (Nat×Nat×List AV):=match s with
 | .sl b off len sz true=>Zn P H t (.slice b off len sz true) x
 | s=>Zn P H t s x
theorem zJm{P:Program}{H H':zA}(h:∀(b:Nat) x,H[b]? = some x->H'[b]? = some x){t:TypeId}{s x:AV}{r:Nat×Nat×List AV}(hs:zBZ P H t s x=some r):zBZ P H' t s x=some r:=by
 unfold zBZ at hs ⊢;split at hs
 · exact zEA h hs
 · exact zEA h hs
theorem zK4{P:Program}{j:Inj}{H:zA}{w:World}(hR:R j H w){t ty:TypeId}{s x:AV}{cs cx:Value}{n sz:Nat}{l0:List AV}(h:zBZ P H t s x=some (n,sz,l0))(hs:VR j s cs)(hx:VR j x cx) :
   ∃cv ca T fz w',(Builtin.append_ #[t,t] ty #[cs,cx]).run P w=.ok cv w'/\w'.heap=w.heap.push (.cells ca T fz)/\w'.os=w.os/\w'.tape=w.tape/\w'.output=w.output/\l0.length<=ca.size /\
     VRs j l0 (ca.toList.take l0.length)/\(∀i,i<ca.size->¬(fz.1<=i/\i<fz.2))/\∀(j':Inj) id,j' id=some ⟨w.heap.size,0,ca.size⟩->VR j' (.slice id 0 n sz false) cv:=by
 unfold zBZ at h;split at h
 · rcases zDC hs with⟨rfl,rfl⟩ | hs'
   · exact zC2 hR (zJ5 h) rfl hx
   · exact zC2 hR h hs' hx
 · exact zC2 hR h hs hx
def zIX:AV->Bool
 | .nils=>true
 | .slice _ _ n _ _=>n==0
 | .sl _ _ n _ _=>n==0
 | _=>false
def zGn(P:Program)(t:TypeId)(s x:AV):Option AV :=
 match P.underlying t with
 | some (.slice e)=>match ZA P e with
   | some _=>if zIX x then match s with
     | .nils=>some .nils
     | .slice b off n sz c=>some (.slice b off n sz c)
     | _=>none else none
   | none=>none
 | _=>none
theorem zIY{P:Program}{j:Inj}{t ty:TypeId}{s x r:AV}{cs cx:Value}(h:zGn P t s x=some r)(hs:VR j s cs)(hx:VR j x cx)(w:World) :
   (Builtin.append_ #[t,t] ty #[cs,cx]).run P w=.ok cs w/\VR j r cs:=by
 unfold zGn at h;split at h;rotate_left
 · cases h
 rename_i e ht;split at h;rotate_left
 · cases h
 rename_i isz hsi;obtain⟨i,hi,_⟩:=qlZ.1 hsi;split at h;rotate_left
 · cases h
 rename_i hn;have hcx:∃a c',cx=.slice a 0 c':=by
   unfold zIX at hn;split at hn
   · simp only[VR]at hx
     exact⟨_,_,hx⟩
   · obtain rfl:=of_decide_eq_true hn
     simp only[VR]at hx;obtain⟨p,ad,cap,_,rfl,_⟩:=hx;exact⟨_,_,rfl⟩
   · obtain rfl:=of_decide_eq_true hn
     rcases zDC hx with⟨_,hx⟩ | hx
     · exact⟨_,_,hx⟩
     · simp only[VR]at hx
       obtain⟨p,ad,cap,_,rfl,_⟩:=hx;exact⟨_,_,rfl⟩
   · cases hn
 obtain⟨a,c',rfl⟩:=hcx;have hnil:∀n c d,cs=.slice d n c->n<=c->(Builtin.append_ #[t,t] ty #[cs,.slice a 0 c']).run P w=.ok cs w:=by
   intro n c d hcs hnc;subst hcs;cases d <;> cases a <;> simp[Builtin.append_,run_underlying ht,sizeOf,typeInfo,hi,Builtin.lenOf,Builtin.firstCells,hnc,loadCells,loadCellsFrom,storeCells]
 split at h <;> cases h
 · have hs':=hs
   simp only[VR]at hs';exact⟨hnil 0 0 none hs' (qnZ _),hs⟩
 · have hs':=hs
   simp only[VR]at hs';obtain⟨p,ad,cap,_,hc,hlc,_⟩:=hs';exact⟨hnil _ _ _ hc hlc,hs⟩
def zHM(P:Program)(H:zA)(t:TypeId)(x:AV):Option zA :=
 match P.underlying t,x with
 | some (.slice e),.slice b off n sz _ =>
   if n=0 then some H else
   match H[b]?,(zBo P e).bind zAC with
   | some (.cells true l),some z=>if z.length=sz/\off+n*sz<=l.length/\z.all zx then some (H.set b (.cells true (l.take off++Zf z n++l.drop (off+n*sz)))) else none
   | _,_=>none
 | _,_=>none
theorem zHi{z:List AV}(h:z.all zx=true):∀n,(Zf z n).all zx=true
 | 0=>rfl
 | n+1=>by simp only[Zf,List.all_append,h,zHi h n,Bool.and_self]
theorem zQG{P:Program}{j:Inj}{H H':zA}{w:World}(hR:R j H w){t ty:TypeId}{x:AV}{cx:Value}{ts:Array TypeId}{args:Array Value}(h:zHM P H t x=some H')(hx:VR j x cx)
   (e1:ts[0]? = some t) (e2:args[0]? = some cx) :
   ∃w',(Builtin.clear_ ts ty args).run P w=.ok (.tuple #[]) w'/\Step H.length j H w j H' w':=by
 unfold zHM at h;split at h;rotate_left
 · cases h
 rename_i e b off n sz c ht;simp only[VR]at hx;obtain⟨p,ad,cap,hp,rfl,hlc,hclip,hm,hadr⟩:=hx;unfold Builtin.clear_;rw[e1,e2];dsimp only;rw[rb (zO ht w)];split at h
 · rename_i h0
   cases h;subst h0;exact⟨w,rfl,Step.refl hR (qnZ _)⟩
 rename_i h0;obtain⟨n,rfl⟩:∃m,n=m+1:=⟨n-1,by omega⟩
 split at h;rotate_left
 · cases h
 rename_i l z hb hz;split at h <;> cases h
 rename_i hc;obtain⟨hzl,hle,hall⟩:=hc;obtain⟨za,hza,hzc⟩:=s6Z.1 hz;obtain⟨i,cz,hi,hiz,hrz,hvz⟩:=zAX hza j w;have hcz:=Zc hzc hvz;rcases hadr with h1 | ⟨rfl,_⟩
 · omega
 show ∃w',Sem.run P (do
   let z <-zeroValue e
   storeCells ⟨p.blk,p.base+off,none⟩ (Builtin.zeroCells z.cells (n+1)).toList
   pure (Value.tuple #[])) w=.ok (.tuple #[]) w'/\_
 rw[rb hrz];have hzr:=zFd hcz (n+1);have hlen:=(VRs_iff.1 hzr).1;have hlz:(Zf z (n+1)).length=(n+1)*sz:=by rw[zAW,hzl]
 have st:=zEb hR hb hp off _ _ hzr (by rw[hlz];exact hle);rw[hlz]at st;obtain⟨cs,T,fz,h1,h2,h3,h4,h5⟩:=hR.blk b _ p hb hp;have:=run_storeCells_cells (P:=P) p.blk (p.base+off) ((Array.range ((n+1)*cz.cells.size)).map (cz.cells[· % cz.cells.size]!)).toList 0 w
   (fun k hk=>by
     simp[World.cell?,h1];rw[<-hlen,hlz]at hk;omega)
   (fun k hk=>by
     rw[<-hlen,hlz]at hk;have hk':p.base+off+0+k<p.size:=by omega
     have:=h5 rfl (p.base+off+0+k) hk';obtain⟨f1,f2⟩:=fz;simp[World.frozen?,h1]at this ⊢;omega)
   (zEN (zHi hall _) hzr)
 refine ⟨_,?_,st⟩;have hst:Sem.run P (storeCells ⟨p.blk,p.base+off,none⟩ (Builtin.zeroCells cz.cells (n+1)).toList) w=.ok () (w.setCells p.blk (p.base+off) (Builtin.zeroCells cz.cells (n+1)).toList):=this;rw[rb hst];rfl
def zG6(P:Program)(F:List AV)(t:TypeId)(ps:Array (Nat×Operand)):Option AV :=
 match P.underlying t,(zBo P t).bind zAC with
 | some (.struct fs),some z =>
   if fs.toList.all fun f=>(ZA P f.type).isSome then
     (zFb (fun i=>(fs[i]?).map fun f=>(f.offset,(ZA P f.type).getD 0)) z (ps.toList.map fun (i,x)=>(i,ev F x))).map .agg
   else none
 | some (.array _ e),some z =>
   match ZA P e with
   | some sz=>(zFb (fun i=>some (i*sz,sz)) z (ps.toList.map fun (i,x)=>(i,ev F x))).map .agg
   | none=>none
 | _,_=>none
theorem zSm{j:Inj}{F:List AV}{a:Act}(hF:VRs j F a.tmps.toList)(ps:Array (Nat×Operand)) :
   (ps.toList.map fun (i,x)=>(i,ev F x)).length=(ps.map fun (i,x)=>(i,a.eval x)).toList.length /\
   ∀(k:Nat) p c,(ps.toList.map fun (i,x)=>(i,ev F x))[k]? = some p->(ps.map fun (i,x)=>(i,a.eval x)).toList[k]? = some c->p.1=c.1/\VR j p.2 c.2:=by
 refine ⟨by simp,fun k p c hp hc=>?_⟩;simp only[qzZ,Array.toList_map]at hp hc;cases hg:ps.toList[k]? with
 | none=>rw[hg]at hp;cases hp
 | some q =>
   rw[hg]at hp hc;obtain⟨qi,qx⟩:=q;cases hp;cases hc
   exact⟨rfl,zQ hF qx⟩
theorem zIG{P:Program}(w:World):∀(fs:List Field),(fs.all fun f=>(ZA P f.type).isSome)=true ->
   Sem.run P (fs.mapM fun f=>do pure (f.offset,<-sizeOf f.type)) w=.ok (fs.map fun f=>(f.offset,(ZA P f.type).getD 0)) w
 | [],_=>rfl
 | f::fs,h=>by
   simp only[List.all_cons,qrZ]at h;obtain⟨i,hi⟩:=Option.isSome_iff_exists.1 h.1;rw[List.mapM_cons];have e:Sem.run P (do pure (f.offset,<-sizeOf f.type)) w=.ok (f.offset,i) w:=by
     rw[rb (ZO hi w)];rfl
   rw[rb e,rb (zIG w fs h.2)];simp[hi]
theorem zQj{P:Program}{j:Inj}{F:List AV}{a:Act}(hF:VRs j F a.tmps.toList){t:TypeId}{ps:Array (Nat×Operand)}{r:AV}(h:zG6 P F t ps=some r)(w:World) :
   ∃cv,(Instr.build t (ps.map fun (i,x)=>(i,a.eval x))).run P w=.ok cv w/\VR j r cv:=by
 unfold zG6 at h;obtain⟨hpl,hpp⟩:=zSm hF ps;unfold Instr.build;split at h
 · rename_i fs z ht hz
   obtain⟨za,hza,hzc⟩:=s6Z.1 hz;obtain⟨i,cz,hi,hiz,hr,hv⟩:=zAX hza j w;have hcz:=Zc hzc hv;split at h;rotate_left
   · cases h
   rename_i hall;obtain⟨l,hl,rfl⟩:=qlZ.1 h;obtain⟨cr,hf,hcr⟩:=zFU (j:=j) _ _ _ _ _ hl hcz hpl hpp;refine ⟨.agg cr,?_,cr,rfl,hcr⟩;rw[rb hr,rb (zO ht w)];dsimp only;have e:Sem.run P (fs.mapM fun f=>do pure (f.offset,<-sizeOf f.type)) w=.ok (fs.map fun f=>(f.offset,(ZA P f.type).getD 0)) w:=by
     rw[Array.mapM_eq_mapM_toList];show Sem.run P (List.toArray <$> fs.toList.mapM _) w=_;rw[map_eq_pure_bind,rb (zIG w fs.toList hall)];show Result.ok _ w=_
     congr 1
     apply Array.ext';simp
   rw[rb e];have e2:(fun x:Nat=>(fs.map fun f=>(f.offset,(ZA P f.type).getD 0))[x]?)=(fun i:Nat=>(fs[i]?).map fun f:Field=>(f.offset,(ZA P f.type).getD 0)):=by
     funext x;simp
   rw[e2,hf];rfl
 · rename_i n e z ht hz
   obtain⟨za,hza,hzc⟩:=s6Z.1 hz;obtain⟨i,cz,hi,hiz,hr,hv⟩:=zAX hza j w;have hcz:=Zc hzc hv;split at h;rotate_left
   · cases h
   rename_i sz hsz;obtain⟨l,hl,rfl⟩:=qlZ.1 h;obtain⟨cr,hf,hcr⟩:=zFU (j:=j) _ _ _ _ _ hl hcz hpl hpp;refine ⟨.agg cr,?_,cr,rfl,hcr⟩;rw[rb hr,rb (zO ht w)];dsimp only;rw[rb (ZO hsz w),hf];rfl
 · cases h
def zAm(P:Program)(F:List AV):Op->Option AV
 | .move x | .assign x=>some (ev F x)
 | .pick c x y=>match ev F c with
   | .bool t=>some (zOl t (ev F x) (ev F y))
   | _=>none
 | .nilCheck x=>match ev F x with
   | .ptr b off=>some (.ptr b off)
   | .func f x y=>some (.func f x y)
   | .yld b=>some (.yld b)
   | _=>none
 | .binOp op t x y _=>zTe P t op (ev F x) (ev F y)
 | .unOp op _ x=>unA op (ev F x)
 | .convert s d x=>zL4 P s d (ev F x)
 | .makeFunc (.func f) first cap=>some (.func f (first.toList.map (ev F)) (cap.toList.map (ev F)))
 | .slice t x lo hi mx=>match ev F x with
   | .ptr ..=>none
   | v=>zC8 P F t v lo hi mx
 | .fieldAddr t x f=>zCq P t (ev F x) f
 | .field t x f=>zJt P t (ev F x) f
 | .indexAddr t x i=>zTz P t (ev F x) (ev F i)
 | .index t x i=>zOm P t (ev F x) (ev F i)
 | .extract x i=>match ev F x with
   | .tuple l=>l[i]?
   | _=>none
 | .build t ps=>zG6 P F t ps
 | .call ⟨.builtin .len,args,ts⟩=>match ts.toList,args.toList with
   | t::_,x::_=>zS4 P t (ev F x)
   | _,_=>none
 | .call ⟨.builtin .cap,args,ts⟩=>match ts.toList,args.toList with
   | t::_,x::_=>zS1 P t (ev F x)
   | _,_=>none
 | .call ⟨.builtin .min,args,_⟩=>zMR false (args.toList.map (ev F))
 | .call ⟨.builtin .max,args,_⟩=>zMR true (args.toList.map (ev F))
 | _=>none
theorem zDK{j:Inj}{F:List AV}{a:Act}(hF:VRs j F a.tmps.toList)(l:Array Operand):VRs j (l.toList.map (ev F)) (l.map a.eval).toList:=by
 rw[Array.toList_map];exact VRs.map l.toList _ _ fun x _=>zQ hF x
theorem zII{P:Program}{j:Inj}{F:List AV}{a:Act}(hF:VRs j F a.tmps.toList){o:Oper}{r:AV}(h:zAm P F o.op=some r)(w:World) :
   ∃cv,(execOp a.eval o).run P w=.ok (.value cv) w/\VR j r cv:=by
 have lift:∀(s:Sem Value),(∃cv,s.run P w=.ok cv w/\VR j r cv)->∃cv,Sem.run P (do pure (.value (<-s)):Sem Next) w=.ok (.value cv) w/\VR j r cv:=by
   rintro s ⟨cv,h1,h2⟩;exact⟨cv,by rw[rb h1];rfl,h2⟩
 unfold zAm at h;unfold execOp;split at h
 · rename_i x ho
   rw[ho];cases h
   exact⟨_,rfl,zQ hF x⟩
 · rename_i x ho
   rw[ho];cases h
   exact⟨_,rfl,zQ hF x⟩
 · rename_i c x y ho
   rw[ho];have hc:=zQ hF c;split at h <;> cases h
   rename_i t ht;rw[ht]at hc;simp only[VR]at hc;dsimp only;rw[hc];refine ⟨if t then a.eval x else a.eval y,?_,zSI (fun _=>zQ hF x) (fun _=>zQ hF y)⟩;rw[rb (a:=t) (w':=w) rfl];cases t <;> rfl
 · rename_i x ho
   rw[ho];have hx:=zQ hF x;dsimp only;split at h <;> cases h <;> rename_i e <;> rw[e]at hx <;> simp only[VR]at hx
   · obtain⟨p,hp,hv⟩:=hx
     rw[hv];exact⟨_,rfl,p,hp,rfl⟩
   · obtain⟨cx,cy,hv,h1,h2⟩:=hx
     rw[hv];exact⟨_,rfl,cx,cy,rfl,h1,h2⟩
   · obtain⟨p,hp,hv⟩:=hx
     rw[hv];exact⟨_,rfl,p,hp,rfl⟩
 · rename_i op t x y yt ho
   rw[ho];exact lift _ (zTU h (zQ hF x) (zQ hF y) w x y)
 · rename_i op t x ho
   rw[ho];exact lift _ (zU7 h (zQ hF x) w)
 · rename_i s d x ho
   rw[ho];exact lift _ (zSK h (zQ hF x) w)
 · rename_i f first cap ho
   rw[ho];cases h
   exact⟨_,rfl,_,_,rfl,zDK hF first,zDK hF cap⟩
 · rename_i t x lo hi mx ho
   rw[ho];have hx:=zQ hF x;split at h
   · cases h
   · rename_i hnp
     exact lift _ (zJe hF h hx w (fun b off n e sz e1=>absurd e1 (hnp b off)))
 · rename_i t x f ho
   rw[ho];exact lift _ (zIi h (zQ hF x) w)
 · rename_i t x f ho
   rw[ho];exact lift _ (zQQ h (zQ hF x) w)
 · rename_i t x i ho
   rw[ho];exact lift _ (zT3 h (zQ hF x) (zQ hF i) w)
 · rename_i t x i ho
   rw[ho];exact lift _ (zSY h (zQ hF x) (zQ hF i) w)
 · rename_i x i ho
   rw[ho];have hx:=zQ hF x;split at h;rotate_left
   · cases h
   rename_i l e;rw[e]at hx;simp only[VR]at hx;obtain⟨cs,hv,hl⟩:=hx;obtain⟨v,h1,h2⟩:=hl.at h;refine lift _ ⟨v,?_,h2⟩;rw[hv];unfold Instr.extract;dsimp only;have:cs[i]? = some v:=by simpa using h1
   rw[this];rfl
 · rename_i t ps ho
   rw[ho];exact lift _ (zQj hF h w)
 · rename_i args ts ho
   rw[ho];dsimp only;split at h;rotate_left
   · cases h
   rename_i t _ x _ e1 e2;have e1':ts[0]? = some t:=by rw[<-riZ,e1];rfl
   have e2':(args.map a.eval)[0]? = some (a.eval x):=by rw[<-riZ,Array.toList_map,e2];rfl
   have:=zT6 (ty:=o.type) h (zQ hF x) e1' e2' w;obtain⟨cv,h1,h2⟩:=lift _ this;exact⟨cv,by rw[rb (a:=(⟨.builtin .len ts o.type (args.map fun | .const _=>true | _=>false),args.map a.eval⟩:Deferred)) (w':=w) rfl];exact h1,h2⟩
 · rename_i args ts ho
   rw[ho];dsimp only;split at h;rotate_left
   · cases h
   rename_i t _ x _ e1 e2;have e1':ts[0]? = some t:=by rw[<-riZ,e1];rfl
   have e2':(args.map a.eval)[0]? = some (a.eval x):=by rw[<-riZ,Array.toList_map,e2];rfl
   have:=zS7 (ty:=o.type) h (zQ hF x) e1' e2' w;obtain⟨cv,h1,h2⟩:=lift _ this;exact⟨cv,by rw[rb (a:=(⟨.builtin .cap ts o.type (args.map fun | .const _=>true | _=>false),args.map a.eval⟩:Deferred)) (w':=w) rfl];exact h1,h2⟩
 · rename_i args ts ho
   rw[ho];dsimp only;unfold zMR at h;split at h
   · cases h
   · rename_i x xs e
     have hargs:=zDK hF args;rw[e]at hargs;simp only[VRs]at hargs;obtain⟨v,ws,e3,h1,h2⟩:=hargs;have:=zI6 (P:=P) w xs ws x r v h h1 h2;obtain⟨cv,h4,h5⟩:=lift _ this;refine ⟨cv,?_,h5⟩;rw[rb (a:=(⟨.builtin .min ts o.type (args.map fun | .const _=>true | _=>false),args.map a.eval⟩:Deferred)) (w':=w) rfl];show Sem.run P (do pure (Next.value (<-Builtin.min_ ts o.type (args.map a.eval)))) w=_;unfold Builtin.min_;rw[e3];exact h4
 · rename_i args ts ho
   rw[ho];dsimp only;unfold zMR at h;split at h
   · cases h
   · rename_i x xs e
     have hargs:=zDK hF args;rw[e]at hargs;simp only[VRs]at hargs;obtain⟨v,ws,e3,h1,h2⟩:=hargs;have:=zIz (P:=P) w xs ws x r v h h1 h2;obtain⟨cv,h4,h5⟩:=lift _ this;refine ⟨cv,?_,h5⟩;rw[rb (a:=(⟨.builtin .max ts o.type (args.map fun | .const _=>true | _=>false),args.map a.eval⟩:Deferred)) (w':=w) rfl];show Sem.run P (do pure (Next.value (<-Builtin.max_ ts o.type (args.map a.eval)))) w=_;unfold Builtin.max_;rw[e3];exact h4
 · cases h
def FW(r:Option Nat):Fence:={ Fence.wide with round:=r }
def Ct(P:Program)(f:FuncId)(args:List AV)(H:zA)(v:AV)(H':zA):Prop :=
 ∀j w cargs,R j H w->VRs j args cargs.toList->Calls P f cargs w fun e w'=>∃cv j',e=.returned cv/\VR j' v cv/\Step H.length j H w j' H' w'
abbrev Gam:=FuncId->List AV->zA->Option (AV×zA×List Nat)
structure Sound (P:Program) (f:FuncId) (s:List AV->zA->Option (AV×zA×List Nat)):Prop where
 enter:∀cargs w,(callFunc f cargs).run P w=.ok (.enter f cargs) w
 ct:∀args H v H' W,s args H=some (v,H',W)->Ct P f args H v H'
 keep:∀args H v H' W,s args H=some (v,H',W)->H.length<=H'.length/\∀b,b<H.length->b∉W->H'[b]? = H[b]?
abbrev yl:FuncId:=1000000000
def zNC(P:Program)(s:List AV->zA->Option (AV×zA×List Nat)):Prop :=
 ∀b args H v H' W,s (.yld b::args) H=some (v,H',W)->∀j w cargs p m,R j H w->VRs j args cargs.toList->j b=some p ->
   YieldAt Fence.wide m P p.blk cargs w fun e w'=>∃cv j',e=.returned cv/\VR j' v cv/\Step H.length j H w j' H' w'
def GOk(P:Program)(Γ:Gam):Prop:=(∀f,f≠yl->(∃args H r,Γ f args H=some r)->Sound P f (Γ f))/\zNC P (Γ yl)
theorem zD {P : Program} {f : FuncId} {fn : Func} (hf : P.funcs[f]? = some fn) (hb : fn.body.isSome = true) (hn : (fn.name == "runtime.NumGoroutine") = false) (cargs : Array Value) (w : World) :
   (callFunc f cargs).run P w=.ok (.enter f cargs) w:=by
 unfold callFunc;rw[rb (a:=P) (w':=w) rfl,hf];dsimp only;rw[hn];simp only[qsZ,if_false];have:fn.body.isNone=false:=by cases h:fn.body <;> simp_all
 rw[this];rfl
theorem zEU{r:Option Nat}{n:Nat}{P:Program}{f:FuncId}{args:Array Value}{w:World}{Q:Ending->World->Prop}(h:Calls P f args w Q):CallsIn (FW r) n P f args w Q :=
 (callsIn_wide (n:=n)).2 h
def zDb(Γ:Gam)(F:List AV)(H:zA)(g:Operand)(args:Array Operand):Option (AV×zA×List Nat) :=
 match ev F g with
 | .func f first cap=>if f=yl then none else Γ f (first++args.toList.map (ev F)++cap) H
 | _=>none
def opA(P:Program)(Γ:Gam)(F:List AV)(H:zA):Op->Option (AV×zA)
 | .lookup t x i ok=>(zAT P F H (.lookup t x i ok)).map (·,H)
 | .makeMap _ none=>some (.map H.length,H++[.map []])
 | .mapUpdate t m k v=>(zBW P H t (ev F m) (ev F k) (ev F v)).map (zV,·)
 | .load t x=>(zGQ P H t (ev F x)).map (·,H)
 | .convert s d x=>match zL4 P s d (ev F x) with
   | some v=>some (v,H)
   | none=>match zAT P F H (.convert s d x) with
     | some v=>some (v,H)
     | none=>(zB2 P F (.convert s d x)).map fun s=>(.slice H.length 0 s.length 1 false,H++[.cells true (zAZ s)])
 | .alloc t=>(zLu P F (.alloc t)).map fun l=>(.ptr H.length 0,H++[.cells true l])
 | .box t x=>(zLu P F (.box t x)).map fun l=>(.ptr H.length 0,H++[.cells true l])
 | .buildSlice t n ps=>(zKT P F (.buildSlice t n ps)).map fun (n,sz,l)=>(.slice H.length 0 n sz true,H++[.cells true l])
 | .makeSlice t l c=>(zKT P F (.makeSlice t l c)).map fun (n,sz,l)=>(.slice H.length 0 n sz true,H++[.cells true l])
 | .slice t x lo hi mx=>match ev F x with
   | .ptr ..=>(zAT P F H (.slice t x lo hi mx)).map (·,H)
   | v=>(zC8 P F t v lo hi mx).map (·,H)
 | .store t x v=>(zF9 P H t (ev F x) (ev F v)).map (zV,·)
 | .call ⟨.builtin .append,args,ts⟩=>match ts.toList,args.toList with
   | [t,t'],[s,x]=>if t=t' then zGg P H t (ev F s) (ev F x) else zGt P H t t' (ev F s) (ev F x)
   | _,_=>none
 | .call ⟨.value g,args,_⟩=>match ev F g with
   | .yld b=>(Γ yl (.yld b::args.toList.map (ev F)) H).map fun (v,H',_)=>(v,H')
   | _=>(zDb Γ F H g args).map fun (v,H',_)=>(v,H')
 | .insert t m k v=>(zBW P H t (ev F m) (ev F k) (ev F v)).map (zV,·)
 | .makeMap t (some x)=>match P.underlying t,ev F x with
   | some (.map _ _),.int _ _=>some (.map H.length,H++[.map []])
   | _,_=>none
 | .call ⟨.builtin .delete,args,ts⟩=>match ts.toList,args.toList with
   | t::_,m::k::_=>(zBX P H t (ev F m) (ev F k)).map (zV,·)
   | _,_=>none
 | .call ⟨.builtin .clear,args,ts⟩=>match ts.toList,args.toList with
   | t::_,x::_=>(zHM P H t (ev F x)).map (zV,·)
   | _,_=>none
 | .call ⟨.builtin .len,args,ts⟩=>match zAm P F (.call ⟨.builtin .len,args,ts⟩) with
   | some v=>some (v,H)
   | none=>(zAT P F H (.call ⟨.builtin .len,args,ts⟩)).map (·,H)
 | op=>(zAm P F op).map (·,H)
def OpRun(P:Program)(o:Oper)(a:Act)(j:Inj)(H:zA)(w:World)(v:AV)(H':zA):Prop :=
 ∃nx cv j' w',(execOp a.eval o).run P w=.ok nx w'/\(nx=.value cv\/(nx=.skip/\cv=undef))/\VR j' v cv/\Step H.length j H w j' H' w'
theorem OpRun.wpIn{P:Program}{o:Oper}{a:Act}{j:Inj}{H H':zA}{w:World}{v:AV}(h:OpRun P o a j H w v H')(hd:∀c,o.op≠.defer c)(r:Option Nat)(n:Nat){K:Act->World->Prop}{Q:Exit->Act->World->Prop}
   (hk:∀cv j' w',VR j' v cv->Step H.length j H w j' H' w'->K (a.put o.dst cv) w'):o.wpIn (FW r) n P a w K Q:=by
 obtain⟨nx,cv,j',w',h1,h2,h3,h4⟩:=h;refine ⟨fun _ _=>trivial,?_⟩;rw[Oper.semAt_eq _ _ _ hd,h1];rcases h2 with rfl | ⟨rfl,rfl⟩
 · exact hk cv j' w' h3 h4
 · exact hk undef j' w' h3 h4
theorem zQU{P:Program}{Γ:Gam}(hΓ:GOk P Γ){o:Oper}{a:Act}{j:Inj}{F:List AV}{H H':zA}{W:List Nat}{w:World}{v:AV}{g:Operand}{args:Array Operand}{ts:Array TypeId}
   (ho:o.op=.call ⟨.value g,args,ts⟩) (h:zDb Γ F H g args=some (v,H',W)) (hF:VRs j F a.tmps.toList) (hR:R j H w) (r:Option Nat) (n:Nat) {K:Act->World->Prop} {Q:Exit->Act->World->Prop}
   (hk:∀cv j' w',VR j' v cv->Step H.length j H w j' H' w'->K (a.put o.dst cv) w'):o.wpIn (FW r) n P a w K Q:=by
 unfold zDb at h;split at h;rotate_left
 · cases h
 rename_i f first cap hg
 split at h
 · cases h
 rename_i hne;have hgv:=zQ hF g;rw[hg]at hgv;simp only[VR]at hgv;obtain⟨cx,cy,hv,h1,h2⟩:=hgv;have hs:=hΓ.1 f hne ⟨_,_,_,h⟩;have hargs:=zDK hF args;refine ⟨fun _ _=>trivial,?_⟩;rw[Oper.semAt_eq _ _ _ (by rw[ho];simp)];have e:(execOp a.eval o).run P w=.ok (.enter f (cx++args.map a.eval++cy)) w:=by
   unfold execOp;rw[ho];dsimp only;have e1:Sem.run P (resolve a.eval ⟨.value g,args,ts⟩ o.type) w=.ok { target:=.fn (.func f) cy,args:=cx++args.map a.eval } w:=by
     unfold resolve;dsimp only;rw[hv];rfl
   rw[rb e1];exact hs.enter _ w
 rw[e];refine ⟨(fun hh=>by simp[FW,Fence.wide]at hh),zEU ?_⟩;refine (hs.ct _ _ _ _ _ h j w (cx++args.map a.eval++cy) hR (by
   rw[rxZ,rxZ];exact (h1.append hargs).append h2)).mono ?_
 rintro e w' ⟨cv,j',rfl,h3,h4⟩;exact hk cv j' w' h3 h4
mutual
def free:AV->Bool
 | .ptr .. | .slice .. | .sl .. | .map .. | .yld ..=>false
 | .func _ xs ys=>zL xs&&zL ys
 | .agg l=>zL l
 | .tuple l=>zL l
 | _=>true
def zL:List AV->Bool
 | []=>true
 | x::xs=>free x&&zL xs
end
mutual
theorem VR.free{j j':Inj}:∀(x:AV) (v:Value),free x=true->VR j x v->VR j' x v
 | .top,_,_,_=>by simp[VR]
 | .bool b,v,_,h=>by simpa[VR] using h
 | .int k n,v,_,h=>by simpa[VR] using h
 | .str s,v,_,h=>by simpa[VR] using h
 | .ptr b o,_,hf,_=>by simp[Go.Proofs.YtfhidaoiofeooaaGreatDoor.free]at hf
 | .nilp,v,_,h=>by simpa[VR] using h
 | .slice ..,_,hf,_=>by simp[Go.Proofs.YtfhidaoiofeooaaGreatDoor.free]at hf
 | .sl ..,_,hf,_=>by simp[Go.Proofs.YtfhidaoiofeooaaGreatDoor.free]at hf
 | .nils,v,_,h=>by simpa[VR] using h
 | .map _,_,hf,_=>by simp[Go.Proofs.YtfhidaoiofeooaaGreatDoor.free]at hf
 | .nilm,v,_,h=>by simpa[VR] using h
 | .func f xs ys,v,hf,h=>by
   simp[Go.Proofs.YtfhidaoiofeooaaGreatDoor.free]at hf;simp only[VR]at h ⊢;obtain⟨cx,cy,e,h1,h2⟩:=h;exact⟨cx,cy,e,VRs.free xs _ hf.1 h1,VRs.free ys _ hf.2 h2⟩
 | .yld _,_,hf,_=>by simp[Go.Proofs.YtfhidaoiofeooaaGreatDoor.free]at hf
 | .nilf,v,_,h=>by simpa[VR] using h
 | .agg l,v,hf,h=>by
   simp[Go.Proofs.YtfhidaoiofeooaaGreatDoor.free]at hf;simp only[VR]at h ⊢;obtain⟨cs,e,h1⟩:=h;exact⟨cs,e,VRs.free l _ hf h1⟩
 | .tuple l,v,hf,h=>by
   simp[Go.Proofs.YtfhidaoiofeooaaGreatDoor.free]at hf;simp only[VR]at h ⊢;obtain⟨cs,e,h1⟩:=h;exact⟨cs,e,VRs.free l _ hf h1⟩
theorem VRs.free{j j':Inj}:∀(xs:List AV) (vs:List Value),zL xs=true->VRs j xs vs->VRs j' xs vs
 | [],vs,_,h=>by simpa[VRs] using h
 | x::xs,vs,hf,h=>by
   simp[zL]at hf;simp only[VRs]at h ⊢;obtain⟨v,ws,e,h1,h2⟩:=h;exact⟨v,ws,e,VR.free x _ hf.1 h1,VRs.free xs _ hf.2 h2⟩
end
def zGd:ABlk->Bool
 | .cells true _=>false
 | .loop ..=>false
 | .map _=>false
 | .obj _ _=>false
 | _=>true
theorem zNz{x:ABlk}(h:zGd x=true):¬x.own=true:=by
 cases x with
 | dead=>simp[ABlk.own]
 | cells o l=>cases o <;> simp_all [zGd,ABlk.own]
 | loop _ _ _ _ _ _=>simp[zGd]at h
 | map _=>simp[zGd]at h
 | obj _ _=>simp[zGd]at h
 | pin _=>simp[ABlk.own]
theorem zFs{j:Inj}{H:zA}{w w':World}(h:Keeps j H w w')(hro:H.all zGd=true):∀c,c<w.heap.size->w'.heap[c]? = w.heap[c]?:=by
 intro c hc;refine h.block c hc fun ⟨b,y,p,hb,hy,hp,_⟩=>?_;exact absurd hy (zNz (s5Z.1 hro _ (qcZ hb)))
theorem R.same{j:Inj}{H:zA}{w w':World}(h:R j H w)(hs:w.heap.size<=w'.heap.size)(hw:∀c,c<w.heap.size->w'.heap[c]? = w.heap[c]?):R j H w' :=
 h.same_on hs (fun u hu=>hw u (by have:=h.glo.1.2;omega)) fun u hu=>hw u (h.tlt hu)
theorem R.ro{j:Inj}{H:zA}{w:World}(dom:∀b,H.length<=b->j b=none)(blk:∀b x p,H[b]? = some x->j b=some p->BRel j w x p)(hro:H.all zGd=true)(hg:GloW w):R j H w:=by
 have hno:∀(b:Nat) (y:ABlk),H[b]? = some y->y.own=true->False:=fun b y hb hy=>zNz (s5Z.1 hro _ (qcZ hb)) hy;refine R.mk' dom blk (fun b b' y x p p' hb hy=>(hno b y hb hy).elim) (fun b b' y x p p' hb hy=>(hno b y hb hy).elim) (fun b o s p hb=>?_) ⟨hg,fun u _ ⟨b,y,p,hb,hy,_⟩=>hno b y hb hy⟩;have:=s5Z.1 hro _ (qcZ hb);cases this
def zU5:Inj:=⟨fun _=>none,fun _=>[],fun _=>[]⟩
theorem R.nothing{w:World}(hg:GloW w):R zU5 [] w:=R.mk' (fun _ _=>rfl) (fun b x p hb=>by simp at hb) (fun b b' l x p p' hb=>by simp at hb) (fun b b' l x p p' hb=>by simp at hb) (fun b o s p hb=>by simp at hb) ⟨hg,fun u _ ⟨b,y,p,hb,_⟩=>by simp at hb⟩
theorem Step.forget{n m:Nat}{j jH j1:Inj}{H Hc H1:zA}{w w':World}(hR:R j H w)(st:Step m jH Hc w j1 H1 w')(hro:Hc.all zGd=true)(hn:n<=H.length):Step n j H w j H w' :=
 have hk:=zFs st.keeps hro
 ⟨hR.same st.keeps.size hk,fun _ _=>rfl,hn,⟨st.keeps.os,st.keeps.tape,st.keeps.output,st.keeps.size,fun c hc _=>hk c hc⟩,fun _ hu=>.inr hu,fun _ hu=>.inr hu⟩
theorem Step.below{n:Nat}{j:Inj}{H:zA}{w w':World}(hR:R j H w)(hb:RowKit.Below w.heap.size w w')(hn:n<=H.length):Step n j H w j H w' :=
 ⟨hR.same hb.size fun c hc=>hb.block c hc,fun _ _=>rfl,hn,⟨hb.os,hb.tape,hb.output,hb.size,fun c hc _=>hb.block c hc⟩,fun _ hu=>.inr hu,fun _ hu=>.inr hu⟩
theorem zKz{P:Program}{f:FuncId}{args:List AV}{H H1:zA}{v:AV}(h:Ct P f args [] v H1)(ha:zL args=true)(hv:free v=true) :
   ∀j w cargs,R j H w->VRs j args cargs.toList->Calls P f cargs w fun e w'=>∃cv,e=.returned cv/\VR j v cv/\Step H.length j H w j H w':=by
 intro j w cargs hR hargs;refine (h zU5 w cargs (R.nothing hR.glo.1) (VRs.free _ _ ha hargs)).mono ?_;rintro e w' ⟨cv,j',rfl,h1,h2⟩;exact⟨cv,rfl,VR.free v cv hv h1,h2.forget hR (by rfl) (qnZ _)⟩
theorem zT4{P:Program}{f:FuncId}{args:List AV}{H:zA}{v:AV}(h:Ct P f args [] v [])(ha:zL args=true)(hv:free v=true):Ct P f args H v H:=by
 intro j w cargs hR hargs;refine (zKz h ha hv j w cargs hR hargs).mono ?_;rintro e w' ⟨cv,rfl,h1,h2⟩;exact⟨cv,j,rfl,h1,h2⟩
def zLr(Γ:Gam)(F:List AV)(g:Operand)(args:Array Operand):Option AV :=
 if zL (args.toList.map (ev F)) then
   match ev F g with
   | .func _ first cap =>
     if zL first&&zL cap then
       match zDb Γ F [] g args with
       | some (v,_,_)=>if free v then some v else none
       | none=>none
     else none
   | _=>none
 else none
theorem zIy{P:Program}{Γ:Gam}(hΓ:GOk P Γ){o:Oper}{a:Act}{j:Inj}{F:List AV}{H:zA}{w:World}{v:AV}{g:Operand}{args:Array Operand}{ts:Array TypeId}
   (ho:o.op=.call ⟨.value g,args,ts⟩) (h:zLr Γ F g args=some v) (hF:VRs j F a.tmps.toList) (hR:R j H w) (r:Option Nat) (n:Nat) {K:Act->World->Prop} {Q:Exit->Act->World->Prop}
   (hk:∀cv w',VR j v cv->Step H.length j H w j H w'->K (a.put o.dst cv) w'):o.wpIn (FW r) n P a w K Q:=by
 unfold zLr at h;split at h;rotate_left
 · cases h
 rename_i hfa;split at h;rotate_left
 · cases h
 rename_i f first cap hg
 split at h;rotate_left
 · cases h
 rename_i hfc;split at h;rotate_left
 · cases h
 rename_i v1 H1 W hc;split at h <;> cases h
 rename_i hfv;unfold zDb at hc;rw[hg]at hc;dsimp only at hc;split at hc
 · cases hc
 rename_i hne;have hgv:=zQ hF g;rw[hg]at hgv;simp only[VR]at hgv;obtain⟨cx,cy,hv,h1,h2⟩:=hgv;have hs:=hΓ.1 f hne ⟨_,_,_,hc⟩;have hargs:=zDK hF args;refine ⟨fun _ _=>trivial,?_⟩;rw[Oper.semAt_eq _ _ _ (by rw[ho];simp)];have e:(execOp a.eval o).run P w=.ok (.enter f (cx++args.map a.eval++cy)) w:=by
   unfold execOp;rw[ho];dsimp only;have e1:Sem.run P (resolve a.eval ⟨.value g,args,ts⟩ o.type) w=.ok { target:=.fn (.func f) cy,args:=cx++args.map a.eval } w:=by
     unfold resolve;dsimp only;rw[hv];rfl
   rw[rb e1];exact hs.enter _ w
 rw[e];refine ⟨(fun hh=>by simp[FW,Fence.wide]at hh),zEU ?_⟩;have hfr:zL (first++args.toList.map (ev F)++cap)=true:=by
   have app:∀xs ys:List AV,zL xs=true->zL ys=true->zL (xs++ys)=true:=by
     intro xs;induction xs with
     | nil=>intro ys _ hy;exact hy
     | cons x xs ih =>
       intro ys hx hy;simp only[q9Z,zL,qrZ]at hx ⊢;exact⟨hx.1,ih ys hx.2 hy⟩
   rw[qrZ]at hfc;exact app _ _ (app _ _ hfc.1 hfa) hfc.2
 refine (zKz (hs.ct _ _ _ _ _ hc) hfr hfv j w (cx++args.map a.eval++cy) hR (by
   rw[rxZ,rxZ];exact (h1.append hargs).append h2)).mono ?_
 rintro e w' ⟨cv,rfl,h3,h4⟩;exact hk cv w' h3 h4
theorem zN6{P:Program}{Γ:Gam}(hΓ:GOk P Γ){o:Oper}{a:Act}{j:Inj}{F:List AV}{H H':zA}{W:List Nat}{w:World}{v:AV}{g:Operand}{args:Array Operand}{ts:Array TypeId}{b:Nat}
   (ho:o.op=.call ⟨.value g,args,ts⟩) (hg:ev F g=.yld b) (h:Γ yl (.yld b::args.toList.map (ev F)) H=some (v,H',W)) (hF:VRs j F a.tmps.toList) (hR:R j H w) (r:Option Nat) (n:Nat) {K:Act->World->Prop} {Q:Exit->Act->World->Prop}
   (hk:∀cv j' w',VR j' v cv->Step H.length j H w j' H' w'->K (a.put o.dst cv) w'):o.wpIn (FW r) n P a w K Q:=by
 have hgv:=zQ hF g;rw[hg]at hgv;simp only[VR]at hgv;obtain⟨p,hp,hv⟩:=hgv;have hargs:=zDK hF args;obtain⟨fn,tmps,asg,body,hy,hr⟩:=hΓ.2 b _ H v H' W h j w (args.map a.eval) p (n-1) hR hargs hp;refine ⟨fun _ _=>trivial,?_⟩;rw[Oper.semAt_eq _ _ _ (by rw[ho];simp)];have e:(execOp a.eval o).run P w=.ok (.round p.blk fn tmps asg body) w:=by
   unfold execOp;rw[ho];dsimp only;have e1:Sem.run P (resolve a.eval ⟨.value g,args,ts⟩ o.type) w=.ok { target:=.fn (.yield p.blk) #[],args:=args.map a.eval } w:=by
     unfold resolve;dsimp only;rw[hv];simp[go_sem]
   rw[rb e1];simp[invoke,go_sem,hy]
 rw[e];refine ⟨(fun hh=>by simp[FW,Fence.wide]at hh),?_⟩;refine RoundIn.mono (F:=FW r) (R:=fun e w'=>∃cv j',e=.returned cv/\VR j' v cv/\Step H.length j H w j' H' w') hr ?_;rintro e w' ⟨cv,j',rfl,h3,h4⟩;exact hk cv j' w' h3 h4
theorem zCU{P:Program}{o:Oper}{a:Act}{j:Inj}{H:zA}{w:World}{v:AV}(hR:R j H w)(h:∃cv,(execOp a.eval o).run P w=.ok (.value cv) w/\VR j v cv):OpRun P o a j H w v H:=by
 obtain⟨cv,h1,h2⟩:=h;exact⟨_,cv,j,w,h1,.inl rfl,h2,Step.refl hR (qnZ _)⟩
theorem zCB{P:Program}{o:Oper}{a:Act}{j:Inj}{H H':zA}{w:World}{v:AV}(h:∃cv j' w',(execOp a.eval o).run P w=.ok (.value cv) w'/\VR j' v cv/\Step H.length j H w j' H' w'):OpRun P o a j H w v H':=by
 obtain⟨cv,j',w',h1,h2,h3⟩:=h;exact⟨_,cv,j',w',h1,.inl rfl,h2,h3⟩
theorem zKU{P:Program}{Γ:Gam}(hΓ:GOk P Γ){o:Oper}{a:Act}{j:Inj}{F:List AV}{H H':zA}{w:World}{v:AV}(h:opA P Γ F H o.op=some (v,H'))(hF:VRs j F a.tmps.toList)(hR:R j H w)(r:Option Nat)(n:Nat)
   {K:Act->World->Prop} {Q:Exit->Act->World->Prop} (hk:∀cv j' w',VR j' v cv->Step H.length j H w j' H' w'->K (a.put o.dst cv) w'):o.wpIn (FW r) n P a w K Q:=by
 have pu:∀v',zAm P F o.op=some v'->v'=v->H=H'->o.wpIn (FW r) n P a w K Q:=by
   intro v' hp e1 e2;subst e1;subst e2
   refine (zCU hR (zII hF hp w)).wpIn ?_ r n hk;intro c hc;rw[hc]at hp;simp[zAm]at hp
 unfold opA at h;split at h
 · rename_i t x i ok ho
   obtain⟨v',hv,e⟩:=qlZ.1 h;cases e;exact (zCU hR (zBp hF hR (by rw[ho];exact hv))).wpIn (by rw[ho];simp) r n hk
 · rename_i t ho
   cases h;obtain⟨cv,j',w',h1,h2,h3⟩:=zHL (P:=P) hR t;refine (zCB ⟨cv,j',w',?_,h2,h3⟩).wpIn (by rw[ho];simp) r n hk;unfold execOp;rw[ho];dsimp only[Option.map];rw[rb h1];rfl
 · rename_i t m k v' ho
   obtain⟨H'',hs,e⟩:=qlZ.1 h;cases e;obtain⟨w',h1,h2⟩:=zHu hR hs (zQ hF m) (zQ hF k) (zQ hF v');have:OpRun P o a j H w zV H':=⟨.skip,undef,j,w',by
     unfold execOp;rw[ho];dsimp only;rw[rb h1];rfl,.inr ⟨rfl,rfl⟩,⟨#[],rfl,rfl⟩,h2⟩
   exact this.wpIn (by rw[ho];simp) r n hk
 · rename_i t x ho
   obtain⟨v',hv,e⟩:=qlZ.1 h;cases e;exact (zCU hR (zBp hF hR (by rw[ho];exact hv))).wpIn (by rw[ho];simp) r n hk
 · rename_i s d x ho
   split at h
   · rename_i v' hv
     cases h;exact pu _ (by rw[ho];exact hv) rfl rfl
   · split at h
     · rename_i v' hv
       cases h;exact (zCU hR (zBp hF hR (by rw[ho];exact hv))).wpIn (by rw[ho];simp) r n hk
     · obtain⟨s',hs,e⟩:=qlZ.1 h
       cases e;exact (zCB ((zLR hF w (by rw[ho];exact hs)).step hR)).wpIn (by rw[ho];simp) r n hk
 · rename_i t ho
   obtain⟨l,hl,e⟩:=qlZ.1 h;cases e;exact (zCB ((zGx hF w (by rw[ho];exact hl)).step hR)).wpIn (by rw[ho];simp) r n hk
 · rename_i t x ho
   obtain⟨l,hl,e⟩:=qlZ.1 h;cases e;exact (zCB ((zGx hF w (by rw[ho];exact hl)).step hR)).wpIn (by rw[ho];simp) r n hk
 · rename_i t m ps ho
   obtain⟨⟨n',sz,l⟩,hl,e⟩:=qlZ.1 h;cases e;exact (zCB ((zGu hF w (by rw[ho];exact hl)).step hR)).wpIn (by rw[ho];simp) r n hk
 · rename_i t l c ho
   obtain⟨⟨n',sz,l⟩,hl,e⟩:=qlZ.1 h;cases e;exact (zCB ((zGu hF w (by rw[ho];exact hl)).step hR)).wpIn (by rw[ho];simp) r n hk
 · rename_i t x lo hi mx ho
   split at h
   · rename_i b off hx
     obtain⟨v',hv,e⟩:=qlZ.1 h;cases e;exact (zCU hR (zBp hF hR (by rw[ho];exact hv))).wpIn (by rw[ho];simp) r n hk
   · rename_i hx
     obtain⟨v',hv,e⟩:=qlZ.1 h;cases e;refine pu _ ?_ rfl rfl;rw[ho];simp only[zAm];exact hv
 · rename_i t x v' ho
   obtain⟨H'',hs,e⟩:=qlZ.1 h;cases e;obtain⟨w',h1,h2⟩:=zJC hR hs (zQ hF x) (zQ hF v');have:OpRun P o a j H w zV H':=⟨.skip,undef,j,w',by
     unfold execOp;rw[ho];dsimp only;rw[rb h1];rfl,.inr ⟨rfl,rfl⟩,⟨#[],rfl,rfl⟩,h2⟩
   exact this.wpIn (by rw[ho];simp) r n hk
 · rename_i args ts ho
   split at h;rotate_left
   · cases h
   rename_i t t' s x hts hargs;have key:∃cv j' w',(Builtin.append_ #[t,t'] o.type #[a.eval s,a.eval x]).run P w=.ok cv w'/\VR j' v cv/\Step H.length j H w j' H' w':=by
     split at h
     · rename_i ht
       subst ht;exact zNE hR h (zQ hF s) (zQ hF x)
     · exact zOQ hR h (zQ hF s) (zQ hF x)
   obtain⟨cv,j',w',h1,h2,h3⟩:=key;refine (zCB ⟨cv,j',w',?_,h2,h3⟩).wpIn (by rw[ho];simp) r n hk;unfold execOp;rw[ho];dsimp only;rw[rb (a:=(⟨.builtin .append ts o.type (args.map fun | .const _=>true | _=>false),args.map a.eval⟩:Deferred)) (w':=w) rfl];show Sem.run P (do pure (Next.value (<-Builtin.append_ ts o.type (args.map a.eval)))) w=_;have e1:ts=#[t,t']:=by apply Array.ext';rw[hts]
   have e2:args.map a.eval=#[a.eval s,a.eval x]:=by apply Array.ext';rw[Array.toList_map,hargs];rfl
   rw[e1,e2,rb h1];rfl
 · rename_i g args ts ho
   split at h
   · rename_i b hb
     obtain⟨⟨v',H'',W⟩,hc,e⟩:=qlZ.1 h;cases e;exact zN6 hΓ ho hb hc hF hR r n hk
   · obtain⟨⟨v',H'',W⟩,hc,e⟩:=qlZ.1 h
     cases e;exact zQU hΓ ho hc hF hR r n hk
 · rename_i t m k v' ho
   obtain⟨H'',hs,e⟩:=qlZ.1 h;cases e;obtain⟨w',h1,h2⟩:=zHu hR hs (zQ hF m) (zQ hF k) (zQ hF v');have:OpRun P o a j H w zV H':=⟨.skip,undef,j,w',by
     unfold execOp;rw[ho];dsimp only;rw[rb h1];rfl,.inr ⟨rfl,rfl⟩,⟨#[],rfl,rfl⟩,h2⟩
   exact this.wpIn (by rw[ho];simp) r n hk
 · rename_i t x ho
   split at h;rotate_left
   · cases h
   rename_i kt et k v' ht hx;cases h;obtain⟨cv,j',w',h1,h2,h3⟩:=zHL (P:=P) hR t;refine (zCB ⟨cv,j',w',?_,h2,h3⟩).wpIn (by rw[ho];simp) r n hk;have hv:=zQ hF x;rw[hx]at hv;simp only[VR]at hv;unfold execOp;rw[ho];dsimp only[Option.map];have e:Sem.run P (Instr.makeMap t (some (a.eval x))) w=.ok cv w':=by
     rw[hv];unfold Instr.makeMap;dsimp only;rw[rb (zO ht w)];exact h1
   rw[rb e];rfl
 · rename_i args ts ho
   split at h;rotate_left
   · cases h
   rename_i t _ m k _ hts hargs;obtain⟨H'',hs,e⟩:=qlZ.1 h;cases e;obtain⟨w',h1,h2⟩:=zNX (ty:=o.type) (ts:=ts) (args:=args.map a.eval) hR hs (zQ hF m) (zQ hF k) (by rw[<-riZ,hts];rfl)
     (by rw[<-riZ,Array.toList_map,hargs];rfl) (by rw[<-riZ,Array.toList_map,hargs];rfl)
   refine (zCB ⟨.tuple #[],j,w',?_,(show VR j zV (.tuple #[]) from ⟨#[],rfl,rfl⟩),h2⟩).wpIn (by rw[ho];simp) r n hk;unfold execOp;rw[ho];dsimp only;rw[rb (a:=(⟨.builtin .delete ts o.type (args.map fun | .const _=>true | _=>false),args.map a.eval⟩:Deferred)) (w':=w) rfl];show Sem.run P (do pure (Next.value (<-Builtin.delete_ ts o.type (args.map a.eval)))) w=_;rw[rb h1];rfl
 · rename_i args ts ho
   split at h;rotate_left
   · cases h
   rename_i t _ x _ hts hargs;obtain⟨H'',hs,e⟩:=qlZ.1 h;cases e;obtain⟨w',h1,h2⟩:=zQG (ty:=o.type) (ts:=ts) (args:=args.map a.eval) hR hs (zQ hF x) (by rw[<-riZ,hts];rfl)
     (by rw[<-riZ,Array.toList_map,hargs];rfl)
   refine (zCB ⟨.tuple #[],j,w',?_,(show VR j zV (.tuple #[]) from ⟨#[],rfl,rfl⟩),h2⟩).wpIn (by rw[ho];simp) r n hk;unfold execOp;rw[ho];dsimp only;rw[rb (a:=(⟨.builtin .clear ts o.type (args.map fun | .const _=>true | _=>false),args.map a.eval⟩:Deferred)) (w':=w) rfl];show Sem.run P (do pure (Next.value (<-Builtin.clear_ ts o.type (args.map a.eval)))) w=_;rw[rb h1];rfl
 · rename_i args ts ho
   split at h
   · rename_i v' hv
     cases h;exact pu _ (by rw[ho];exact hv) rfl rfl
   · obtain⟨v',hv,e⟩:=qlZ.1 h
     cases e;exact (zCU hR (zBp hF hR (by rw[ho];exact hv))).wpIn (by rw[ho];simp) r n hk
 · obtain⟨v',hv,e⟩:=qlZ.1 h
   cases e;exact pu _ hv rfl rfl
def ZW(F:List AV)(dst:Option Tmp)(v:AV):List AV :=
 match dst with
 | some d=>F.set d v
 | none=>F
theorem zGj{j:Inj}{F:List AV}{a:Act}(hF:VRs j F a.tmps.toList)(dst:Option Tmp){v:AV}{cv:Value}(hv:VR j v cv):VRs j (ZW F dst v) (a.put dst cv).tmps.toList:=by
 cases dst with
 | none=>exact hF
 | some d =>
   simp only[ZW,Act.put,Array.toList_setIfInBounds];exact hF.set d hv
def zAM(ops:Array Oper)(o:Oper)(F:List AV):Option Bool :=
 match o.guard with
 | none=>some true
 | some (j,want) =>
   match (ops[j]?).bind (·.dst) with
   | none=>some false
   | some t =>
     match F[t]? with
     | some (.bool b)=>some (b==want)
     | some (.tuple _)=>some false
     | _=>none
theorem zAQ{ops:Array Oper}{o:Oper}{j:Inj}{F:List AV}{tmps:Array Value}{t:Bool}(h:zAM ops o F=some t)(hF:VRs j F tmps.toList):Region.wanted o (yielded ops tmps)=t:=by
 unfold zAM at h;unfold Region.wanted;split at h
 · rename_i e;rw[e];cases h;rfl
 · rename_i k want e
   rw[e];dsimp only;unfold yielded;split at h
   · rename_i e1;rw[e1];cases h;rfl
   · rename_i d e1
     rw[e1];split at h
     · rename_i b hb
       cases h;obtain⟨v,hv,hr⟩:=hF.at hb;simp only[VR]at hr;subst hr;have:tmps[d]? = some (.bool b):=by simpa using hv
       simp[this]
     · rename_i l hl
       cases h;obtain⟨v,hv,hr⟩:=hF.at hl;simp only[VR]at hr;obtain⟨cs,rfl,_⟩:=hr;have:tmps[d]? = some (.tuple cs):=by simpa using hv
       simp[this]
     · cases h
def zP(ops:Array Oper)(o:Oper):List Nat :=
 o.op.operands.toList.filterMap (fun | .tmp t=>some t | _=>none) ++
   (match o.guard with
    | some (j,_)=>match (ops[j]?).bind (·.dst) with
      | some t=>[t]
      | none=>[]
    | none=>[])
def zAu(rs:List Nat)(F:List AV):List AV:=F.mapIdx fun t x=>if rs.contains t then x else .top
def zC3(F:List AV):Op->Option Nat
 | .lookup _ x _ _=>match ev F x with
   | .map b=>some b
   | _=>none
 | .load _ x | .slice _ x _ _ _ | .convert _ _ x=>match ev F x with
   | .ptr b _=>some b
   | .slice b _ _ _ _=>some b
   | .sl b _ _ _ _=>some b
   | _=>none
 | .call ⟨.builtin .len,args,_⟩=>match args.toList with
   | x::_=>match ev F x with
     | .map b=>some b
     | _=>none
   | _=>none
 | _=>none
mutual
def below(n:Nat):AV->Bool
 | .ptr b _ | .slice b _ _ _ _ | .sl b _ _ _ _ | .map b | .yld b=>decide (b<n)
 | .func _ xs ys=>ze n xs&&ze n ys
 | .agg l=>ze n l
 | .tuple l=>ze n l
 | _=>true
def ze(n:Nat):List AV->Bool
 | []=>true
 | x::xs=>below n x&&ze n xs
end
def zCA(n:Nat):ABlk->Bool
 | .dead=>true
 | .cells _ l=>ze n l
 | .loop _ _ _ _ _ F=>ze n F
 | .map es=>es.all fun e=>below n e.1&&below n e.2
 | .obj _ _=>true
 | .pin l=>ze n l
def zFQ:ABlk->Bool
 | .dead=>true
 | x=>x.own
def scA(H H':zA)(args:List AV):Bool:=ze H.length args&&H.all (zCA H.length)&&(H'.drop H.length).all zFQ
def scC(F:List AV)(H H':zA)(g:Operand)(args:Array Operand):Bool :=
 match ev F g with
 | .func _ first cap=>scA H H' (first++args.toList.map (ev F)++cap)
 | _=>false
structure QR where
 v:AV
 H:zA
 st:Option (Nat×Nat×List AV)
 rd:Option Nat
 call:Bool
 grows:Bool
 sc:Bool
def qop(P:Program)(Γ:Gam)(F:List AV)(H:zA):Op->Option QR
 | .store t x v=>match ev F x,zAC (ev F v) with
   | .ptr b off,some xs =>
     match H[b]? with
     | some (.cells true l)=>if ZA P t=some xs.length/\off+xs.length<=l.length/\xs.all zx then some ⟨zV,H,some (b,off,xs),none,false,false,false⟩ else none
     | _=>none
   | _,_=>none
 | .call ⟨.builtin .append,args,ts⟩=>match ts.toList,args.toList.map (ev F) with
   | [t,t'],[s,x]=>if t=t' then match zBZ P H t s x with
     | some (n,sz,l)=>some ⟨.slice H.length 0 n sz false,H++[.cells true l],none,none,true,true,true⟩
     | none=>(zGn P t s x).map fun v=>⟨v,H,none,none,false,false,false⟩ else none
   | _,_=>none
 | .call ⟨.value g,args,_⟩=>match zLr Γ F g args with
   | some v=>some ⟨v,H,none,none,false,false,false⟩
   | none=>match zDb Γ F H g args with
     | some (v,H',[])=>some ⟨v,H',none,none,true,H'.length != H.length,scC F H H' g args⟩
     | _=>none
 | .alloc t=>(zLu P F (.alloc t)).map fun l=>⟨.ptr H.length 0,H++[.cells true l],none,none,false,true,false⟩
 | .box t x=>(zLu P F (.box t x)).map fun l=>⟨.ptr H.length 0,H++[.cells true l],none,none,false,true,false⟩
 | .buildSlice t n ps=>(zKT P F (.buildSlice t n ps)).map fun (n,sz,l)=>⟨.slice H.length 0 n sz true,H++[.cells true l],none,none,false,true,false⟩
 | .makeSlice t l c=>(zKT P F (.makeSlice t l c)).map fun (n,sz,l)=>⟨.slice H.length 0 n sz true,H++[.cells true l],none,none,false,true,false⟩
 | op=>match zAm P F op with
   | some v=>some ⟨v,H,none,none,false,false,false⟩
   | none=>match zAT P F H op with
     | some v=>some ⟨v,H,none,zC3 F op,false,false,false⟩
     | none=>(zB2 P F op).map fun s=>⟨.slice H.length 0 s.length 1 false,H++[.cells true (zAZ s)],none,none,false,true,false⟩
def zDd(P:Program)(Γ:Gam)(ops:Array Oper)(F:List AV)(H:zA)(o:Oper):Option QR :=
 match zAM ops o (zAu (zP ops o) F) with
 | none=>none
 | some false=>some ⟨zV,H,none,none,false,false,false⟩
 | some true=>qop P Γ (zAu (zP ops o) F) H o.op
def zc(P:Program)(Γ:Gam)(ops:Array Oper):List Oper->List AV->zA->Option (List QR×List AV×zA)
 | [],F,H=>some ([],F,H)
 | o::rest,F,H =>
   match zDd P Γ ops F H o with
   | none=>none
   | some q =>
     match zc P Γ ops rest (ZW F o.dst q.v) q.H with
     | none=>none
     | some (qs,F',H')=>some (q::qs,F',H')
def zA7:List Oper->List Nat->List Nat
 | [],acc=>acc
 | o::rest,acc=>zA7 rest (acc++[o.after.toList.foldl (fun m e=>if Region.binds .any e then m ||| (1 <<< e.on) ||| acc.getD e.on 0 else m) 0])
def Zl(ops:List Oper):List Nat:=zA7 ops []
def zOS(a b:Nat×Nat×List AV):Bool:=a.1 != b.1 || decide (a.2.1+a.2.2.length<=b.2.1) || decide (b.2.1+b.2.2.length<=a.2.1)
def ZB(before:Bool)(si sk:List Nat)(di dk:Option Nat)(qi qk:QR):Bool :=
 (match di with
  | some d=>!sk.contains d || before
  | none=>true) &&
 (match dk with
  | some d=>(!si.contains d || before)&&dk != di
  | none=>true) &&
 (match qi.st with
  | some s=>qk.rd != some s.1&&!qk.call&&(match qk.st with | some s'=>zOS s s' | none=>true)
  | none=>true) &&
 (match qk.st with
  | some s=>(qi.rd != some s.1 || before)&&(!qi.call || before)
  | none=>true) &&
 (!qi.call || !qk.grows || before || qi.sc)
def zC5(ops:List Oper)(slots:List (List Nat))(qs:List QR)(pr:List Nat):Bool :=
 (List.range ops.length).all fun k =>
   ((ops.getD k default).after.toList.all fun e=>!Region.binds .any e || e.on<k) &&
   (List.range k).all fun i =>
     ZB ((pr.getD k 0).testBit i) (slots.getD i []) (slots.getD k []) (ops.getD i default).dst (ops.getD k default).dst (qs.getD i ⟨.top,[],none,none,false,false,false⟩) (qs.getD k ⟨.top,[],none,none,false,false,false⟩)
def zAa(H:zA)(s:Nat×Nat×List AV):zA :=
 match H[s.1]? with
 | some (.cells o l)=>if s.2.1+s.2.2.length<=l.length then H.set s.1 (.cells o (l.take s.2.1++s.2.2++l.drop (s.2.1+s.2.2.length))) else H
 | _=>H
def zT(P:Program)(Γ:Gam)(ops:Array Oper)(F:List AV)(H:zA):Option (List AV×zA) :=
 match zc P Γ ops ops.toList F H with
 | none=>none
 | some (qs,F',H')=>if zC5 ops.toList (ops.toList.map (zP ops)) qs (Zl ops.toList) then some (F',(qs.filterMap (·.st)).foldl zAa H') else none
theorem zMl(H:zA)(s:Nat×Nat×List AV):(zAa H s).length=H.length:=by
 unfold zAa;split
 · split <;> simp
 · rfl
def zEm(l:List AV)(s:Nat×Nat×List AV):List AV:=if s.2.1+s.2.2.length<=l.length then l.take s.2.1++s.2.2++l.drop (s.2.1+s.2.2.length) else l
theorem zCC(l:List AV)(s:Nat×Nat×List AV):(zEm l s).length=l.length:=by
 unfold zEm;split
 · simp;omega
 · rfl
theorem zCx(l:List AV)(s:Nat×Nat×List AV)(i:Nat):(zEm l s)[i]? = if s.2.1+s.2.2.length<=l.length/\s.2.1<=i/\i<s.2.1+s.2.2.length then s.2.2[i-s.2.1]? else l[i]?:=by
 unfold zEm;split
 · rename_i hm
   rw[qeZ,s7Z];have hl:(l.take s.2.1).length=s.2.1:=by simp;omega
   rw[hl];split
   · rename_i hi
     rw[r4Z,if_pos hi,if_neg (by omega)]
   · rename_i hi
     rw[s7Z];split
     · rename_i hx
       rw[if_pos (by omega)]
     · rename_i hx
       rw[if_neg (by omega),r5Z]
       congr 1
       omega
 · rename_i hm
   rw[if_neg (fun h=>hm h.1)]
theorem zBH(H:zA)(s:Nat×Nat×List AV)(b:Nat):(zAa H s)[b]? = if b=s.1 then (match H[b]? with | some (.cells o l)=>some (.cells o (zEm l s)) | x=>x) else H[b]?:=by
 unfold zAa zEm;split
 · rename_i o l hs
   by_cases e:b=s.1
   · subst e
     have:=(q1Z.1 hs).1;rw[if_pos rfl,hs];dsimp only;split
     · rw[List.getElem?_set,if_pos rfl,if_pos this]
     · exact hs
   · rw[if_neg e]
     split
     · rw[List.getElem?_set,if_neg (Ne.symm e)]
     · rfl
 · rename_i hn
   by_cases e:b=s.1
   · subst e
     rw[if_pos rfl];split
     · rename_i o l h;exact absurd h (hn o l)
     · rfl
   · rw[if_neg e]
theorem zDj(H:zA){s t:Nat×Nat×List AV}(h:zOS s t=true):zAa (zAa H s) t=zAa (zAa H t) s:=by
 apply List.ext_getElem?
 intro b;rw[zBH,zBH,zBH,zBH];by_cases e1:b=s.1 <;> by_cases e2:b=t.1
 · rw[if_pos e2,if_pos e1,if_pos e1,if_pos e2]
   cases hb:H[b]? with
   | none=>rfl
   | some x =>
     cases x with
     | dead=>rfl
     | loop _ _ _ _ _ _=>rfl
     | map _=>rfl
     | obj _ _=>rfl
     | pin _=>rfl
     | cells o l =>
       dsimp only;have:s.1=t.1:=by rw[<-e1,<-e2]
       simp[zOS,this]at h
       congr 2
       apply List.ext_getElem?
       intro i;rw[zCx,zCx,zCx,zCx,zCC,zCC];repeat' split
       all_goals first
         | rfl
         | omega
 · rw[if_neg e2,if_pos e1,if_pos e1,if_neg e2]
 · rw[if_pos e2,if_neg e1,if_neg e1,if_pos e2]
 · rw[if_neg e2,if_neg e1,if_neg e1,if_neg e2]
theorem zMH(l:List (Nat×Nat×List AV)):∀H:zA,(l.foldl zAa H).length=H.length:=by
 induction l with
 | nil=>exact fun _=>rfl
 | cons s l ih=>exact fun H=>by rw[List.foldl_cons,ih,zMl]
theorem zL7(l:List (Nat×Nat×List AV))(b:Nat):∀H:zA,
   (∀o m,H[b]? = some (.cells o m)->∃m',(l.foldl zAa H)[b]? = some (.cells o m')/\m'.length=m.length)/\((∀s∈l,s.1≠b)->(l.foldl zAa H)[b]? = H[b]?)/\(H[b]? = some .dead->(l.foldl zAa H)[b]? = some .dead):=by
 induction l with
 | nil=>exact fun H=>⟨fun o m h=>⟨m,h,rfl⟩,fun _=>rfl,fun h=>h⟩
 | cons s l ih =>
   intro H;rw[List.foldl_cons];obtain⟨h1,h2,h3⟩:=ih (zAa H s);refine ⟨fun o m hm=>?_,fun hn=>?_,fun hd=>?_⟩
   · by_cases e:b=s.1
     · obtain⟨m',g1,g2⟩:=h1 o (zEm m s) (by rw[zBH,if_pos e,hm])
       exact⟨m',g1,by rw[g2,zCC]⟩
     · exact h1 o m (by rw[zBH,if_neg e];exact hm)
   · rw[h2 (fun s' hs'=>hn s' (qiZ _ hs')),zBH,if_neg (fun e=>hn s (qhZ) e.symm)]
   · refine h3 ?_
     rw[zBH];split
     · rw[hd]
     · exact hd
theorem zFt{P:Program}{Γ:Gam}{ops:Array Oper}:∀(l:List Oper) (F:List AV) (H:zA) (qs:List QR) (F':List AV) (H':zA),zc P Γ ops l F H=some (qs,F',H') ->
   qs.length=l.length/\∃(Fs:Nat->List AV) (Hs:Nat->zA),Fs 0=F/\Hs 0=H/\Fs l.length=F'/\Hs l.length=H' /\
     ∀(i:Nat) o q,l[i]? = some o->qs[i]? = some q->zDd P Γ ops (Fs i) (Hs i) o=some q/\Fs (i+1)=ZW (Fs i) o.dst q.v/\Hs (i+1)=q.H
 | [],F,H,qs,F',H',h=>by
   cases h;exact⟨rfl,fun _=>F,fun _=>H,rfl,rfl,rfl,rfl,fun i o q ho=>by cases ho⟩
 | o::rest,F,H,qs,F',H',h=>by
   unfold zc at h;split at h
   · cases h
   rename_i q hq;split at h
   · cases h
   rename_i qs' F'' H'' hr;cases h;obtain⟨hl,Fs,Hs,f0,h0,fn,hn,hall⟩:=zFt rest _ _ _ _ _ hr;refine ⟨by simp[hl],fun i=>if i=0 then F else Fs (i-1),fun i=>if i=0 then H else Hs (i-1),rfl,rfl,by simp[fn],by simp[hn],fun i o' q' ho hq'=>?_⟩;cases i with
   | zero =>
     cases ho;cases hq'
     exact⟨hq,by simp[f0],by simp[h0]⟩
   | succ i =>
     have:=hall i o' q' (by simpa using ho) (by simpa using hq');simpa using this
theorem zRZ{P:Program}{Γ:Gam}(hΓ:GOk P Γ){F:List AV}{H:zA}{op:Op}{q:QR}(h:qop P Γ F H op=some q) :
   H.length<=q.H.length/\(∀b,b<H.length->q.H[b]? = H[b]?)/\(q.grows=false->q.H.length=H.length)/\(q.st.isSome=true->q.H=H):=by
 have same:q.H=H->H.length<=q.H.length/\(∀b,b<H.length->q.H[b]? = H[b]?)/\(q.grows=false->q.H.length=H.length)/\(q.st.isSome=true->q.H=H):=by
   intro e;rw[e];exact⟨qnZ _,fun _ _=>rfl,fun _=>rfl,fun _=>rfl⟩
 have more:∀x,q.H=H++[x]->q.grows=true->q.st=none->H.length<=q.H.length/\(∀b,b<H.length->q.H[b]? = H[b]?)/\(q.grows=false->q.H.length=H.length)/\(q.st.isSome=true->q.H=H):=by
   intro x e g hst;refine ⟨by rw[e];simp,fun b hb=>by rw[e,s7Z,if_pos hb],fun hg=>?_,fun hs=>?_⟩
   · rw[g]at hg;cases hg
   · rw[hst]at hs;cases hs
 unfold qop at h;split at h
 · split at h
   rotate_left
   · cases h
   split at h;rotate_left
   · cases h
   split at h <;> cases h
   exact same rfl
 · split at h
   rotate_left
   · cases h
   split at h;rotate_left
   · cases h
   split at h
   · cases h
     exact more _ rfl rfl rfl
   · obtain⟨v,_,e⟩:=qlZ.1 h
     subst e;exact same rfl
 · split at h
   · cases h;exact same rfl
   split at h
   · rename_i v H' hc
     cases h;unfold zDb at hc;split at hc
     · rename_i f first cap hg
       split at hc
       · cases hc
       obtain⟨h1,h2⟩:=(hΓ.1 f ‹_› ⟨_,_,_,hc⟩).keep _ _ _ _ _ hc;exact⟨h1,fun b hb=>h2 b hb (by simp),fun hg=>by simpa using hg,fun hs=>by cases hs⟩
     · cases hc
   · cases h
 · obtain⟨l,_,e⟩:=qlZ.1 h
   subst e;exact more _ rfl rfl rfl
 · obtain⟨l,_,e⟩:=qlZ.1 h
   subst e;exact more _ rfl rfl rfl
 · obtain⟨⟨n,sz,l⟩,_,e⟩:=qlZ.1 h
   subst e;exact more _ rfl rfl rfl
 · obtain⟨⟨n,sz,l⟩,_,e⟩:=qlZ.1 h
   subst e;exact more _ rfl rfl rfl
 · split at h
   · cases h;exact same rfl
   · split at h
     · cases h;exact same rfl
     · obtain⟨l,_,e⟩:=qlZ.1 h
       subst e;exact more _ rfl rfl rfl
theorem zHk{P:Program}{Γ:Gam}(hΓ:GOk P Γ){ops:Array Oper}{F:List AV}{H:zA}{o:Oper}{q:QR}(h:zDd P Γ ops F H o=some q) :
   H.length<=q.H.length/\(∀b,b<H.length->q.H[b]? = H[b]?)/\(q.grows=false->q.H.length=H.length)/\(q.st.isSome=true->q.H=H):=by
 unfold zDd at h;split at h
 · cases h
 · cases h
   exact⟨qnZ _,fun _ _=>rfl,fun _=>rfl,fun _=>rfl⟩
 · exact zRZ hΓ h
theorem zLZ(l:List Oper):∀(acc:List Nat) (k:Nat),acc.length<=k->k<acc.length+l.length->∃o,l[k-acc.length]? = some o /\
   (zA7 l acc).getD k 0=o.after.toList.foldl (fun m e=>if Region.binds .any e then m ||| (1 <<< e.on) ||| (if e.on<k then (zA7 l acc).getD e.on 0 else 0) else m) 0:=by
 have keep:∀(l:List Oper) (acc:List Nat) (k:Nat),k<acc.length->(zA7 l acc).getD k 0=acc.getD k 0:=by
   intro l;induction l with
   | nil=>exact fun _ _ _=>rfl
   | cons o l ih =>
     intro acc k hk;unfold zA7;rw[ih _ k (by simp;omega),q2Z,q2Z,s7Z,if_pos hk]
 induction l with
 | nil=>intro acc k h1 h2;simp at h2;omega
 | cons o l ih =>
   intro acc k h1 h2;by_cases e:k=acc.length
   · subst e
     refine ⟨o,by simp,?_⟩;unfold zA7;rw[keep l _ _ (by simp),q2Z,q5Z (qnZ _)];simp only[Nat.sub_self,raZ,rgZ]
     congr 1
     funext m e
     split
     · congr 1
       by_cases hlt:e.on<acc.length
       · rw[if_pos hlt,keep l _ _ (by simp;omega),q2Z,q2Z,s7Z,if_pos hlt]
       · rw[if_neg hlt,q2Z,s4Z (by omega)]
         rfl
     · rfl
   · obtain⟨o',ho',he⟩:=ih (acc++[o.after.toList.foldl (fun m e=>if Region.binds .any e then m ||| (1 <<< e.on) ||| acc.getD e.on 0 else m) 0]) k (by simp;omega) (by simp at h2 ⊢;omega)
     refine ⟨o',?_,?_⟩
     · simp at ho'
       rw[show k-acc.length=(k-(acc.length+1))+1 by omega];simpa using ho'
     · exact he
theorem zID(pr:Nat->Nat)(i:Nat):∀(es:List Edge) (m:Nat),(es.foldl (fun m e=>if Region.binds .any e then m ||| (1 <<< e.on) ||| pr e.on else m) m).testBit i=true ->
   m.testBit i=true\/∃e∈es,Region.binds .any e=true/\(e.on=i\/(pr e.on).testBit i=true)
 | [],m,h=>.inl h
 | e::es,m,h=>by
   rw[List.foldl_cons]at h;rcases zID pr i es _ h with h1 | ⟨e',he',hb,hi⟩
   · split at h1
     · rename_i hb
       rw[Nat.testBit_or,Nat.testBit_or]at h1;simp only[Bool.or_eq_true]at h1;rcases h1 with (h1 | h1) | h1
       · exact .inl h1
       · refine .inr ⟨e,by simp,hb,.inl ?_⟩
         rw[Nat.one_shiftLeft,Nat.testBit_two_pow]at h1;simpa using h1
       · exact .inr ⟨e,by simp,hb,.inr h1⟩
     · exact .inl h1
   · exact .inr ⟨e',by simp[he'],hb,hi⟩
theorem ZZ{ops:List Oper}{D:Nat->Prop}(hD:∀k o e,D k->ops[k]? = some o->e∈o.after.toList->Region.binds .any e=true->D e.on) :
   ∀(k:Nat) (o:Oper),ops[k]? = some o->(∀e∈o.after.toList,Region.binds .any e=true->D e.on)->∀i,((Zl ops).getD k 0).testBit i=true->D i:=by
 intro k;induction k using Nat.strongRecOn with
 | _ k ih =>
   intro o ho he i hi;have hk:k<ops.length:=(q1Z.1 ho).1;obtain⟨o',ho',e1⟩:=zLZ ops [] k (by simp) (by simpa using hk);simp at ho';rw[ho]at ho';cases ho';unfold Zl at hi;rw[e1]at hi;rcases zID (fun x=>if x<k then (zA7 ops []).getD x 0 else 0) i _ 0 hi with h0 | ⟨e,hm,hb,hx⟩
   · simp at h0
   · have hDe:=he e hm hb
     rcases hx with rfl | hx
     · exact hDe
     · split at hx
       · rename_i hlt
         have hon:ops[e.on]? = some (ops[e.on]'(by omega)):=q3Z _;exact ih e.on hlt _ hon (fun e' he' hb'=>hD e.on _ e' hDe hon he' hb') i hx
       · simp at hx
section
def nf:List Bool->Nat
 | []=>0
 | b::l=>(if b then 0 else 1)+nf l
theorem zIQ:∀(l:List Bool) (i:Nat),l[i]? = some false->nf (l.set i true)+1=nf l
 | b::l,0,h=>by
   simp at h;subst h;simp[nf];omega
 | b::l,i+1,h=>by
   have:=zIQ l i (by simpa using h);simp only[saZ,nf];omega
theorem zFE:∀(l:List Bool),nf l=0->∀(i:Nat),l[i]?≠some false
 | [],_,i,h=>by simp at h
 | b::l,hz,i,h=>by
   simp only[nf]at hz;cases i with
   | zero=>simp at h;subst h;simp at hz
   | succ i=>exact zFE l (by omega) i (by simpa using h)
theorem zBY(n:Nat):nf (qbZ n false)=n:=by
 induction n with
 | zero=>rfl
 | succ n ih=>rw[rvZ];simp only[nf,ih];simp;omega
theorem R.more{j:Inj}{H H':zA}{w:World}(h:R j H w)(hl:H.length<=H'.length)(he:∀b,b<H.length->H'[b]? = H[b]?):R j H' w:=by
 have hlt:∀(b:Nat) (p:JB) (x:ABlk),j b=some p->H'[b]? = some x->H[b]? = some x:=fun b p x hp hb=>by
   rcases s2Z b H.length with h1 | h1
   · rw[<-he b h1];exact hb
   · rw[h.dom b h1]at hp;cases hp
 exact R.mk' (fun b hb=>h.dom b (by omega)) (fun b x p hb hp=>h.blk b x p (hlt _ _ _ hp hb) hp) (fun b b' y x p p' hb hy hb' hd hne hp hp'=>h.inj b b' y x p p' (hlt _ _ _ hp hb) hy (hlt _ _ _ hp' hb') hd hne hp hp') (fun b b' y x p p' hb hy hb' hd hne hp hp'=>h.hid b b' y x p p' (hlt _ _ _ hp hb) hy (hlt _ _ _ hp' hb') hd hne hp hp') (fun b o s p hb hp=>h.obj b o s p (hlt _ _ _ hp hb) hp) ⟨h.glo.1,fun u hu ⟨b,y,p,hb,hy,hp,hq⟩=>h.glo.2 u hu ⟨b,y,p,hlt _ _ _ hp hb,hy,hp,hq⟩⟩
theorem Step.shows{n:Nat}{j:Inj}{H H':zA}{w:World}(h:R j H w)(hl:H.length<=H'.length)(he:∀b,b<H.length->H'[b]? = H[b]?)(hn:n<=H.length):Step n j H w j H' w:=by
 have h1:=h.more hl he;refine Step.make h ⟨h1.dom,h1.blk,h1.inj⟩ (fun _ _=>rfl) (by omega) (Keeps0.refl _ _ _) fun b x p hb hx hp=>?_;have hbl:b<H.length:=by
   rcases s2Z b H.length with h1 | h1
   · exact h1
   · rw[h.dom b h1]at hp;cases hp
 exact .same (by rw[<-he b hbl];exact hb) hx hp rfl rfl
theorem zKj{n id:Nat}{j:Inj}{H:zA}{w w':World}{l:List AV}{cs:Array Value}{T:Nat}{fz:Nat×Nat}(h:R j H w)(hx:H[id]? = some (.cells true l))(hj:j id=none)(hn:n<=id)(hw:w'.heap=w.heap.push (.cells cs T fz))
   (hos:w'.os=w.os) (htape:w'.tape=w.tape) (hout:w'.output=w.output) (hle0:l.length<=cs.size) (hl:VRs j l (cs.toList.take l.length)) (hfz:∀i,i<cs.size->¬(fz.1<=i/\i<fz.2)) :
   Step n j H w (zBO j id ⟨w.heap.size,0,cs.size⟩) H w':=by
 have hid:id<H.length:=(q1Z.1 hx).1;have hle:JLe j (zBO j id ⟨w.heap.size,0,cs.size⟩):=zBb hj;have hold:∀c,c<w.heap.size->w'.heap[c]? = w.heap[c]?:=fun c hc=>by
   rw[hw,Array.getElem?_push,if_neg (by omega)]
 have hnew:w'.heap[w.heap.size]? = some (.cells cs T fz):=by rw[hw];simp
 have hcase:∀c q,zBO j id ⟨w.heap.size,0,cs.size⟩ c=some q->(c=id/\q=⟨w.heap.size,0,cs.size⟩)\/(c≠id/\j c=some q):=by
   intro c q hq;rw[ZC]at hq;split at hq
   · cases hq;exact .inl ⟨‹_›,rfl⟩
   · exact .inr ⟨‹_›,hq⟩
 refine Step.make h ⟨?_,?_,?_⟩ ?_ (by omega) ⟨hos,htape,hout,by rw[hw];simp,fun c hc _=>hold c hc⟩ ?_
 · intro b hb
   rw[ZC,if_neg (by omega)];exact h.dom b hb
 · intro b x p hb hp
   rcases hcase b p hp with⟨rfl,rfl⟩ | ⟨hne,hp'⟩
   · rw[hx]at hb
     cases hb;refine ⟨cs,T,fz,hnew,rfl,by simpa using hle0,fun i x hxi=>?_,fun _=>hfz⟩;obtain⟨v,hv,hr⟩:=hl.at hxi;have hil:i<l.length:=(q1Z.1 hxi).1;refine ⟨v,?_,hr.mono hle⟩;rw[r4Z,if_pos hil]at hv;simpa using hv
   · exact (h.blk b x p hb hp').mono hle fun hd=>hold _ (h.ltx hb hd hp')
 · intro b b' l' x p p' hb hy hb' hd hne hp hp'
   rcases hcase b p hp with⟨rfl,rfl⟩ | ⟨h1,h2⟩ <;> rcases hcase b' p' hp' with⟨rfl,rfl⟩ | ⟨k1,k2⟩
   · exact absurd rfl hne
   · have:=h.ltx hb' hd k2;dsimp only;omega
   · have:=h.ltx hb (Zj hy) h2;dsimp only;omega
   · exact h.inj b b' l' x p p' hb hy hb' hd hne h2 k2
 · intro b hb
   rw[ZC,if_neg (by omega)]
 · intro b l' p hb hy hp
   rcases hcase b p hp with⟨rfl,rfl⟩ | ⟨h1,h2⟩
   · rw[hx]at hb;cases hb
     exact .inl ⟨qnZ _,rfl⟩
   · exact .same hb hy h2 rfl rfl
theorem zFl(rs:List Nat)(F:List AV)(t:Nat):(zAu rs F)[t]? = (F[t]?).map fun x=>if rs.contains t then x else .top:=by
 unfold zAu;rw[List.getElem?_mapIdx]
theorem zPK{rs:List Nat}{F:List AV}{j:Inj}{tmps:Array Value}(hl:F.length=tmps.size)(h:∀t∈rs,∀x v,F[t]? = some x->tmps[t]? = some v->VR j x v):VRs j (zAu rs F) tmps.toList:=by
 refine VRs_iff.2 ⟨by simp[zAu,hl],fun i x v hx hv=>?_⟩;rw[zFl]at hx;obtain⟨y,hy,rfl⟩:=qlZ.1 hx;split
 · rename_i hc
   exact h i (by simpa using hc) y v hy (by simpa using hv)
 · trivial
structure Txt (P:Program) (Γ:Gam) (ops:Array Oper) (F0:List AV) (H0:zA) (qs:List QR) (Fs:Nat->List AV) (Hs:Nat->zA):Prop where
 f0:Fs 0=F0
 h0:Hs 0=H0
 len:qs.length=ops.size
 each:∀(i:Nat) o q,ops[i]? = some o->qs[i]? = some q->zDd P Γ ops (Fs i) (Hs i) o=some q/\Fs (i+1)=ZW (Fs i) o.dst q.v/\Hs (i+1)=q.H
 edges:∀(k:Nat) o e,ops[k]? = some o->e∈o.after.toList->Region.binds .any e=true->e.on<k
 pairs:∀(i k:Nat) oi ok qi qk,i<k->ops[i]? = some oi->ops[k]? = some ok->qs[i]? = some qi->qs[k]? = some qk ->
   ZB (((Zl ops.toList).getD k 0).testBit i) (zP ops oi) (zP ops ok) oi.dst ok.dst qi qk=true
theorem zSQ{P:Program}{Γ:Gam}{ops:Array Oper}{F0 F':List AV}{H0 H':zA}(h:zT P Γ ops F0 H0=some (F',H')) :
   ∃qs Fs Hs,Txt P Γ ops F0 H0 qs Fs Hs/\F'=Fs ops.size/\H'=(qs.filterMap (·.st)).foldl zAa (Hs ops.size):=by
 unfold zT at h;split at h
 · cases h
 rename_i qs Fn Hn hq;split at h <;> cases h
 rename_i hd;obtain⟨hl,Fs,Hs,f0,h0,fn,hn,hall⟩:=zFt _ _ _ _ _ _ hq;unfold zC5 at hd;rw[s5Z]at hd;refine ⟨qs,Fs,Hs,⟨f0,h0,by simpa using hl,fun i o q ho hqi=>hall i o q (by simpa using ho) hqi,?_,?_⟩,by simpa using fn.symm,by rw[<-hn];simp⟩
 · intro k o e ho he hb
   have hk:k<ops.size:=(qtZ.1 ho).1;have h1:=hd k (by simpa using hk);rw[qrZ]at h1;have h2:=h1.1;rw[s5Z]at h2;have:=h2 e (by rw[q2Z,riZ,ho];exact he);rw[hb]at this;simpa using this
 · intro i k oi ok qi qk hik hoi hok hqi hqk
   have hk:k<ops.size:=(qtZ.1 hok).1;have h1:=hd k (by simpa using hk);rw[qrZ]at h1;have h2:=h1.2;rw[s5Z]at h2;have:=h2 i (by simpa using hik);simp only[q2Z,qzZ,riZ,hoi,hok,hqi,hqk,rhZ,rgZ]at this;rw[q2Z];exact this
section
variable {P:Program} {Γ:Gam} {ops:Array Oper} {F0:List AV} {H0:zA} {qs:List QR} {Fs:Nat->List AV} {Hs:Nat->zA}
theorem Txt.q(T:Txt P Γ ops F0 H0 qs Fs Hs){i:Nat}{o:Oper}(ho:ops[i]? = some o):∃q,qs[i]? = some q:=by
 have hi:i<ops.size:=(qtZ.1 ho).1;exact⟨_,q3Z (by rw[T.len];exact hi)⟩
theorem Txt.heap(hΓ:GOk P Γ)(T:Txt P Γ ops F0 H0 qs Fs Hs):∀k,k<=ops.size->∀i,i<=k->(Hs i).length<=(Hs k).length/\∀b,b<(Hs i).length->(Hs k)[b]? = (Hs i)[b]?:=by
 intro k;induction k with
 | zero =>
   intro _ i hi;obtain rfl:i=0:=by omega
   exact⟨qnZ _,fun _ _=>rfl⟩
 | succ k ih =>
   intro hk i hi;by_cases e:i=k+1
   · subst e;exact⟨qnZ _,fun _ _=>rfl⟩
   · obtain⟨h1,h2⟩:=ih (by omega) i (by omega)
     have ho:ops[k]? = some ops[k]:=quZ _;obtain⟨q,hq⟩:=T.q ho;obtain⟨s1,_,s3⟩:=T.each k _ q ho hq;obtain⟨g1,g2,_⟩:=zHk hΓ s1;rw[s3];exact⟨by omega,fun b hb=>by rw[g2 b (by omega)];exact h2 b hb⟩
theorem Txt.flen(T:Txt P Γ ops F0 H0 qs Fs Hs):∀k,k<=ops.size->(Fs k).length=F0.length:=by
 intro k;induction k with
 | zero=>intro _;rw[T.f0]
 | succ k ih =>
   intro hk;have ho:ops[k]? = some ops[k]:=quZ _;obtain⟨q,hq⟩:=T.q ho;obtain⟨_,s2,_⟩:=T.each k _ q ho hq;rw[s2];unfold ZW;split
   · rw[r8Z,ih (by omega)]
   · exact ih (by omega)
theorem Txt.slot(T:Txt P Γ ops F0 H0 qs Fs Hs)(t:Nat)(x:AV):∀k,k<=ops.size->(Fs k)[t]? = some x ->
   (∃i o q,i<k/\ops[i]? = some o/\qs[i]? = some q/\o.dst=some t/\x=q.v)\/((∀i o,i<k->ops[i]? = some o->o.dst≠some t)/\F0[t]? = some x):=by
 intro k;induction k with
 | zero =>
   intro _ hx;rw[T.f0]at hx;exact .inr ⟨fun i o hi=>by omega,hx⟩
 | succ k ih =>
   intro hk hx;have ho:ops[k]? = some ops[k]:=quZ _;obtain⟨q,hq⟩:=T.q ho;obtain⟨_,s2,_⟩:=T.each k _ q ho hq;rw[s2]at hx;by_cases hd:ops[k].dst=some t
   · rw[hd]at hx
     simp only[ZW]at hx;rw[List.getElem?_set,if_pos rfl]at hx;split at hx
     · cases hx
       exact .inl ⟨k,_,q,by omega,ho,hq,hd,rfl⟩
     · cases hx
   · have hx':(Fs k)[t]? = some x:=by
       unfold ZW at hx;split at hx
       · rename_i d e
         rw[List.getElem?_set]at hx;rw[if_neg (by intro e1;subst e1;exact hd e)]at hx;exact hx
       · exact hx
     rcases ih (by omega) hx' with⟨i,o,q',h1,h2⟩ | ⟨h1,h2⟩
     · exact .inl ⟨i,o,q',by omega,h2⟩
     · refine .inr ⟨fun i o hi hoi=>?_,h2⟩
       by_cases e:i=k
       · subst e
         rw[ho]at hoi;cases hoi;exact hd
       · exact h1 i o (by omega) hoi
structure DI (ds:List Deferred) (j0:Inj) (F0:List AV) (H0:zA) (w0:World) (ops:Array Oper) (qs:List QR) (Hs:Nat->zA) (D:Nat->Prop) (σ:List Nat) (a:Act) (j:Inj) (w:World):Prop where
 step:Step H0.length j0 H0 w0 j ((σ.filterMap fun k=>(qs[k]?).bind (·.st)).foldl zAa (Hs ops.size)) w
 dom:∀b p,j b=some p->b<H0.length\/∃k,k<ops.size/\D k/\(Hs k).length<=b/\b<(Hs (k+1)).length
 size:F0.length=a.tmps.size
 set:∀(k:Nat) o q t v,D k->ops[k]? = some o->qs[k]? = some q->o.dst=some t->a.tmps[t]? = some v->VR j q.v v
 old:∀t x v,(∀(k:Nat) o,D k->ops[k]? = some o->o.dst≠some t)->F0[t]? = some x->a.tmps[t]? = some v->VR j x v
 sig:∀k,k∈σ↔(k<ops.size/\D k/\∃q,qs[k]? = some q/\q.st.isSome)
 nodup:σ.Nodup
 sdom:∀k,k∈σ->∀q s,qs[k]? = some q->q.st=some s->∃p,j s.1=some p
 defers:a.defers=ds
end
def zCV(n:Nat)(j:Inj):Inj:=⟨fun b=>if b<n then j b else none,j.foot,j.shr⟩
theorem zFm(n:Nat)(j:Inj)(b:Nat):zCV n j b=if b<n then j b else none:=rfl
mutual
theorem VR.cut{n:Nat}{j:Inj}:∀(x:AV) (v:Value),below n x=true->VR j x v->VR (zCV n j) x v
 | .top,_,_,_=>by simp[VR]
 | .bool b,v,_,h=>by simpa[VR] using h
 | .int _ n,v,_,h=>by simpa[VR] using h
 | .str s,v,_,h=>by simpa[VR] using h
 | .ptr b o,v,hb,h=>by
   simp only[below,decide_eq_true_eq]at hb;simp only[VR,zCV,hb,if_true]at h ⊢;exact h
 | .nilp,v,_,h=>by simpa[VR] using h
 | .slice b o l sz c,v,hb,h=>by
   simp only[below,decide_eq_true_eq]at hb;simp only[VR,zCV,hb,if_true]at h ⊢;exact h
 | .sl b o l sz c,v,hb,h=>by
   simp only[below,decide_eq_true_eq]at hb;simp only[VR,zCV,hb,if_true]at h ⊢;exact h
 | .nils,v,_,h=>by simpa[VR] using h
 | .map b,v,hb,h=>by
   simp only[below,decide_eq_true_eq]at hb;simp only[VR,zCV,hb,if_true]at h ⊢;exact h
 | .nilm,v,_,h=>by simpa[VR] using h
 | .func f xs ys,v,hb,h=>by
   simp only[below,qrZ]at hb;simp only[VR]at h ⊢;obtain⟨cx,cy,e,h1,h2⟩:=h;exact⟨cx,cy,e,VRs.cut xs _ hb.1 h1,VRs.cut ys _ hb.2 h2⟩
 | .yld b,v,hb,h=>by
   simp only[below,decide_eq_true_eq]at hb;simp only[VR,zCV,hb,if_true]at h ⊢;exact h
 | .nilf,v,_,h=>by simpa[VR] using h
 | .agg l,v,hb,h=>by
   simp only[below]at hb;simp only[VR]at h ⊢;obtain⟨cs,e,h1⟩:=h;exact⟨cs,e,VRs.cut l _ hb h1⟩
 | .tuple l,v,hb,h=>by
   simp only[below]at hb;simp only[VR]at h ⊢;obtain⟨cs,e,h1⟩:=h;exact⟨cs,e,VRs.cut l _ hb h1⟩
theorem VRs.cut{n:Nat}{j:Inj}:∀(xs:List AV) (vs:List Value),ze n xs=true->VRs j xs vs->VRs (zCV n j) xs vs
 | [],vs,_,h=>by simpa[VRs] using h
 | x::xs,vs,hb,h=>by
   simp only[ze,qrZ]at hb;simp only[VRs]at h ⊢;obtain⟨v,ws,e,h1,h2⟩:=h;exact⟨v,ws,e,VR.cut x v hb.1 h1,VRs.cut xs ws hb.2 h2⟩
end
theorem zET{n:Nat}:∀{xs:List AV},ze n xs=true->∀(i:Nat) x,xs[i]? = some x->below n x=true
 | [],_,i,x,h=>by simp at h
 | y::ys,hb,i,x,h=>by
   simp only[ze,qrZ]at hb;cases i with
   | zero=>simp at h;subst h;exact hb.1
   | succ i=>exact zET hb.2 i x (by simpa using h)
theorem BRel.cut{n:Nat}{j:Inj}{w:World}{x:ABlk}{p:JB}(hb:zCA n x=true)(h:BRel j w x p):BRel (zCV n j) w x p:=by
 cases x with
 | dead=>trivial
 | cells o l =>
   obtain⟨cs,T,fz,g1,g2,g3,g4,g5⟩:=h;refine ⟨cs,T,fz,g1,g2,g3,fun i x hx=>?_,g5⟩;obtain⟨v,hv,hr⟩:=g4 i x hx;exact⟨v,hv,VR.cut x v (zET hb i x hx) hr⟩
 | loop ps a b st pe F =>
   obtain⟨fn,tmps,D,g1,g2⟩:=h;exact⟨fn,tmps,D,g1,VRs.cut F _ hb g2⟩
 | map es =>
   obtain⟨ents,cl,g1,gs,g2,g3⟩:=h;refine ⟨ents,cl,g1,gs,g2,fun i x e hx he=>?_⟩;have h1:=g3 i x e hx he;have h2:=s5Z.1 hb x (qcZ hx);rw[qrZ]at h2;exact⟨VR.cut _ _ h2.1 h1.1,VR.cut _ _ h2.2 h1.2⟩
 | obj _ _=>trivial
 | pin l =>
   obtain⟨h0,cs,T,fz,g1,g2⟩:=h;refine ⟨h0,cs,T,fz,g1,fun i x hx=>?_⟩;obtain⟨v,hv,hr⟩:=g2 i x hx;exact⟨v,hv,VR.cut x v (zET hb i x hx) hr⟩
theorem zPL{n:Nat}{j:Inj}(h:∀b,n<=b->j b=none):zCV n j=j:=by
 obtain⟨f,g,k⟩:=j;unfold zCV
 congr
 funext b
 split
 · rfl
 · exact (h b (by omega)).symm
theorem R.cut{j:Inj}{H H':zA}{w:World}(h:R j H' w)(he:∀b,b<H.length->H'[b]? = H[b]?)(hb:(∀b,H.length<=b->j b=none)\/H.all (zCA H.length)=true):R (zCV H.length j) H w:=by
 have hlt:∀(b:Nat) (x:ABlk),H[b]? = some x->H'[b]? = some x:=fun b x hb=>by rw[he b (q1Z.1 hb).1];exact hb
 have hj:∀b p,zCV H.length j b=some p->j b=some p:=by
   intro b p hp;rw[zFm]at hp;split at hp
   · exact hp
   · cases hp
 refine R.mk' (fun b hb=>by rw[zFm,if_neg (by omega)]) (fun b x p hx hp=>?_) (fun b b' y x p p' hb hy hb' hx hne hp hp'=>h.inj b b' y x p p' (hlt _ _ hb) hy (hlt _ _ hb') hx hne (hj _ _ hp) (hj _ _ hp')) (fun b b' y x p p' hb hy hb' hx hne hp hp'=>h.hid b b' y x p p' (hlt _ _ hb) hy (hlt _ _ hb') hx hne (hj _ _ hp) (hj _ _ hp')) (fun b o s p hb hp=>h.obj b o s p (hlt _ _ hb) (hj _ _ hp)) ⟨h.glo.1,fun u hu ⟨b,y,p,hb,hy,hp,hq⟩=>h.glo.2 u hu ⟨b,y,p,hlt _ _ hb,hy,hj _ _ hp,hq.imp id (by cases y <;> exact id)⟩⟩;have h1:=h.blk b x p (hlt _ _ hx) (hj _ _ hp);rcases hb with hb | hb
 · rw[zPL hb];exact h1
 · exact h1.cut (s5Z.1 hb x (qcZ hx))
def zEF(n:Nat)(j1 j:Inj):Inj:=⟨fun b=>if b<n then j1 b else j b,fun b=>if b<n then j1.foot b else j.foot b,fun b=>if b<n then j1.shr b else j.shr b⟩
theorem zBm(n:Nat)(j1 j:Inj)(b:Nat):zEF n j1 j b=if b<n then j1 b else j b:=rfl
theorem zPz{n:Nat}{j j1:Inj}{H H1 B:zA}{w w':World}(hR:R j B w)(_hpl:H.length<=B.length)(hpe:∀b,b<H.length->B[b]? = H[b]?)(hpl1:H1.length<=B.length)(hpe1:∀b,b<H1.length->B[b]? = H1[b]?)
   (hnone:∀b,H.length<=b->b<H1.length->j b=none) (hst:Step H.length (zCV H.length j) H w j1 H1 w') (hn:n<=H.length) (hsc:(∀b,H.length<=b->j b=none)\/(H1.drop H.length).all zFQ=true) :
   JLe j (zEF H1.length j1 j)/\JLe j1 (zEF H1.length j1 j)/\Step n j B w (zEF H1.length j1 j) B w':=by
 have hl:=hst.len;have hext:∀b,b<H.length->j1 b=j b:=fun b hb=>by rw[hst.ext b hb];rw[zFm,if_pos hb]
 have hJ1:JLe j1 (zEF H1.length j1 j):=by
   intro b p hp;have:b<H1.length:=by
     rcases s2Z b H1.length with h1 | h1
     · exact h1
     · rw[hst.rel.dom b h1]at hp;cases hp
   rw[zBm,if_pos this];exact hp
 have hJ:JLe j (zEF H1.length j1 j):=by
   intro b p hp;rw[zBm];split
   · rename_i hb
     rcases s2Z b H.length with h1 | h1
     · rw[hext b h1];exact hp
     · rw[hnone b h1 hb]at hp;cases hp
   · exact hp
 have hcutp:∀b p,zCV H.length j b=some p->j b=some p:=by
   intro b p hp;rw[zFm]at hp;split at hp
   · exact hp
   · cases hp
 have hown:∀y b,Zu (zCV H.length j) y b=Zu j y b:=fun y b=>by cases y <;> rfl
 have hhid:∀y b,ZN (zCV H.length j) y b=ZN j y b:=fun y b=>by cases y <;> rfl
 have hwk:∀b x,b<H1.length->B[b]? = some x->x≠.dead->(x.str=true\/(∀c y p,B[c]? = some y->y.own=true->j c=some p->c<H.length))\/b<H.length:=by
   intro b x hb hx hd;rcases s2Z b H.length with h1 | h1
   · exact .inr h1
   rcases hsc with h2 | h2
   · refine .inl (.inr fun c y p _ _ hp=>?_)
     rcases s2Z c H.length with h3 | h3
     · exact h3
     · rw[h2 c h3]at hp;cases hp
   · have:x∈H1.drop H.length:=qcZ (i:=b-H.length) (by rw[r5Z,Nat.add_sub_cancel' h1,<-hpe1 b hb];exact hx)
     have:=s5Z.1 h2 x this;exact .inl (.inl (zFZ (by cases x <;> simp_all [zFQ])))
 have hocc:∀u,Occ (zCV H.length j) H u->∃c y p,c<H.length/\B[c]? = some y/\y.own=true/\j c=some p/\(u=p.blk\/u∈Zu j y c):=by
   rintro u ⟨c,y,p,h1,h2,h3,h4⟩;have hc:c<H.length:=(q1Z.1 h1).1;exact⟨c,y,p,hc,by rw[hpe c hc];exact h1,h2,hcutp _ _ h3,by rw[<-hown];exact h4⟩
 have htch:∀u,Sch (zCV H.length j) H u->∃c y p,(y.own=true->c<H.length)/\B[c]? = some y/\y.str=true/\j c=some p/\(u=p.blk\/u∈ZN j y c):=by
   rintro u ⟨c,y,p,h1,h2,h3,h4⟩;have hc:c<H.length:=(q1Z.1 h1).1;exact⟨c,y,p,fun _=>hc,by rw[hpe c hc];exact h1,h2,hcutp _ _ h3,by rw[<-hhid];exact h4⟩
 refine ⟨hJ,hJ1,Step.mergeF hR hst (fun c=>c<H.length) hocc htch (fun b hb=>?_) (fun b x p hx hp=>?_) (fun b=>(decide (b<H1.length/\((B.getD b .dead).str=true\/H.length<=b)),b)) (fun b x p hb hx hp=>?_) (fun b b' x x' p p' _ _ _ _ _ _ hne e=>hne (Prod.mk.inj e).2) (fun b hb=>?_) (by omega)⟩
 · rw[zBm,if_neg (by omega)]
   exact hR.dom b hb
 · rw[zBm]at hp
   split at hp
   · rename_i h1
     exact (hst.rel.blk b x p (by rw[<-hpe1 b h1];exact hx) hp).mono hJ1 fun _=>rfl
   · rename_i h1
     refine (hR.blk b x p hx hp).mono hJ fun hd=>?_;exact Step.stay hR hst hocc hx hd hp (fun _=>by omega) (.inl rfl)
 · rw[zBm]at hp
   have hg:B.getD b .dead=x:=by rw[q2Z,hb];rfl
   simp only[hg];by_cases h1:b<H1.length/\(x.str=true\/H.length<=b)
   · rw[if_pos h1.1]at hp
     rw[decide_eq_true h1,if_pos rfl];refine ⟨⟨x,by rw[<-hpe1 b h1.1];exact hb,hx,hp,id,fun _=>⟨rfl,by simp[zEF,h1.1],by simp[zEF,h1.1]⟩⟩,?_⟩;rcases h1.2 with h2 | h2
     · exact .inl h2
     · rcases hwk b x h1.1 hb hx with h3 | h3
       · exact h3.imp id .inl
       · omega
   · rw[decide_eq_false h1,if_neg (by simp)]
     by_cases h2:b<H1.length
     · rw[if_pos h2]at hp
       have h3:¬x.str=true/\b<H.length:=by
         refine ⟨fun e=>h1 ⟨h2,.inl e⟩,?_⟩;rcases s2Z b H.length with h4 | h4
         · exact h4
         · exact absurd ⟨h2,.inr h4⟩ h1
       rw[hext b h3.2]at hp;exact⟨⟨x,hb,hx,hp,id,fun ho=>absurd (zO1 ho) h3.1⟩,fun y hy ho=>absurd (zFZ ho) (by rw[hb]at hy;cases hy;exact h3.1)⟩
     · rw[if_neg h2]at hp
       exact⟨⟨x,hb,hx,hp,id,fun _=>⟨rfl,by simp[zEF,h2],by simp[zEF,h2]⟩⟩,fun _ _ _=>by show ¬b<H.length;omega⟩
 · rw[zBm,if_pos (by omega)]
   exact hext b (by omega)
theorem zNS{P:Program}{Γ:Gam}(hΓ:GOk P Γ){o:Oper}{a:Act}{j jr:Inj}{F:List AV}{H H':zA}{W:List Nat}{w:World}{v:AV}{g:Operand}{args:Array Operand}{ts:Array TypeId}
   (ho:o.op=.call ⟨.value g,args,ts⟩) (h:zDb Γ F H g args=some (v,H',W)) (hF:VRs j F a.tmps.toList) (hR:R jr H w)
   (hargs:∀f first cap vs,ev F g=.func f first cap->VRs j (first++args.toList.map (ev F)++cap) vs->VRs jr (first++args.toList.map (ev F)++cap) vs) (r:Option Nat) (n:Nat) {K:Act->World->Prop} {Q:Exit->Act->World->Prop}
   (hk:∀cv j' w',VR j' v cv->Step H.length jr H w j' H' w'->K (a.put o.dst cv) w'):o.wpIn (FW r) n P a w K Q:=by
 unfold zDb at h;split at h;rotate_left
 · cases h
 rename_i f first cap hg
 split at h
 · cases h
 rename_i hne;have hgv:=zQ hF g;rw[hg]at hgv;simp only[VR]at hgv;obtain⟨cx,cy,hv,h1,h2⟩:=hgv;have hs:=hΓ.1 f hne ⟨_,_,_,h⟩;have hev:=zDK hF args;refine ⟨fun _ _=>trivial,?_⟩;rw[Oper.semAt_eq _ _ _ (by rw[ho];simp)];have e:(execOp a.eval o).run P w=.ok (.enter f (cx++args.map a.eval++cy)) w:=by
   unfold execOp;rw[ho];dsimp only;have e1:Sem.run P (resolve a.eval ⟨.value g,args,ts⟩ o.type) w=.ok { target:=.fn (.func f) cy,args:=cx++args.map a.eval } w:=by
     unfold resolve;dsimp only;rw[hv];rfl
   rw[rb e1];exact hs.enter _ w
 rw[e];refine ⟨(fun hh=>by simp[FW,Fence.wide]at hh),zEU ?_⟩;refine (hs.ct _ _ _ _ _ h jr w (cx++args.map a.eval++cy) hR (by
   rw[rxZ,rxZ];exact hargs f first cap _ hg ((h1.append hev).append h2))).mono ?_
 rintro e w' ⟨cv,j',rfl,h3,h4⟩;exact hk cv j' w' h3 h4
end
section
theorem zGM{P:Program}{F:List AV}{H H':zA}{op:Op}{v:AV}(h:zAT P F H op=some v)(he:∀b x,zC3 F op=some b->H[b]? = some x->H'[b]? = some x):zAT P F H' op=some v:=by
 unfold zAT at h ⊢;unfold zC3 at he;split at h
 · rename_i t x i ok
   dsimp only at he ⊢;unfold zFV at h ⊢;cases hx:ev F x <;> rw[hx]at h he <;> try exact h
   rename_i b;dsimp only at he h ⊢;cases hb:H[b]? with
   | none=>rw[hb]at h;split at h <;> (try split at h) <;> (try split at h) <;> simp_all
   | some y=>rw[he b y rfl hb];rw[hb]at h;exact h
 · rename_i t x
   dsimp only at he ⊢;unfold zGQ at h ⊢;cases hx:ev F x <;> rw[hx]at h he <;> dsimp only at h he ⊢ <;> try cases h
   rename_i b off;cases hb:H[b]? with
   | none=>rw[hb]at h;cases h
   | some y=>rw[hb]at h;rw[he b y rfl hb];exact h
 · rename_i s d x
   dsimp only at he ⊢;split at h
   · rename_i e b off n c h1 h2 h3
     rw[h3]at he;dsimp only at he;split at h;rotate_left
     · cases h
     rename_i hu;cases hb:H[b]? with
     | none=>rw[hb]at h;cases h
     | some y =>
       rw[hb]at h;simp only[hu,he b y rfl hb,if_true];exact h
   · exact h
   · rename_i e b off n c h1 h2 h3
     rw[h3]at he;dsimp only at he;split at h;rotate_left
     · cases h
     rename_i hu;rw[if_pos hu];split at h
     · rename_i hn
       rw[if_pos hn];exact h
     · rename_i hn
       rw[if_neg hn];cases hb:H[b]? with
       | none=>rw[hb]at h;cases h
       | some y =>
         rw[hb]at h;rw[he b y rfl hb];exact h
   · cases h
 · rename_i t x lo hi mx
   dsimp only at he ⊢;split at h
   · rename_i n e b off h1 h2
     rw[h2]at he;dsimp only at he;cases hb:H[b]? with
     | none=>rw[hb]at h;split at h <;> simp_all
     | some y =>
       rw[hb]at h;simp only[he b y rfl hb];exact h
   · cases h
 · rename_i args ts
   dsimp only at he ⊢;split at h;rotate_left
   · cases h
   rename_i t _ x _ e1 e2;rw[e2]at he;dsimp only at he ⊢;unfold zFe at h ⊢;split at h
   · rename_i kk ee b hu hx
     rw[hx]at he;dsimp only at he;cases hb:H[b]? with
     | none=>rw[hb]at h;cases h
     | some y =>
       rw[hb]at h;rw[he b y rfl hb];exact h
   · cases h
 · cases h
section
variable {ds:List Deferred} {P:Program} {Γ:Gam} {ops:Array Oper} {F0:List AV} {H0:zA} {w0:World} {j0:Inj} {qs:List QR} {Fs:Nat->List AV} {Hs:Nat->zA} {D:Nat->Prop} {σ:List Nat} {a:Act} {j:Inj} {w:World}
theorem DI.put(h:DI ds j0 F0 H0 w0 ops qs Hs D σ a j w)(T:Txt P Γ ops F0 H0 qs Fs Hs){i:Nat}{o:Oper}{q:QR}(ho:ops[i]? = some o)(hq:qs[i]? = some q){j':Inj}{w':World}{σ':List Nat}{cv:Value}(hle:JLe j j')(hv:VR j' q.v cv)
   (hstep:Step H0.length j0 H0 w0 j' ((σ'.filterMap fun k=>(qs[k]?).bind (·.st)).foldl zAa (Hs ops.size)) w')
   (hdom:∀b p,j' b=some p->j b=some p\/((Hs i).length<=b/\b<(Hs (i+1)).length))
   (hsig:∀k,k∈σ'↔(k<ops.size/\(D k\/k=i)/\∃q,qs[k]? = some q/\q.st.isSome)) (hnd:σ'.Nodup) (hsd:∀k,k∈σ'->∀q s,qs[k]? = some q->q.st=some s->∃p,j' s.1=some p) (hD:¬D i):DI ds j0 F0 H0 w0 ops qs Hs (fun k=>D k\/k=i) σ' (a.put o.dst cv) j' w':=by
 have hi:i<ops.size:=(qtZ.1 ho).1;have hget:∀t,o.dst≠some t->(a.put o.dst cv).tmps[t]? = a.tmps[t]?:=by
   intro t ht;unfold Act.put;split
   · rename_i d hd
     rw[Array.getElem?_setIfInBounds,if_neg (by intro e;subst e;exact ht hd)]
   · rfl
 refine ⟨hstep,?_,?_,?_,?_,hsig,hnd,hsd,?_⟩
 · intro b p hp
   rcases hdom b p hp with h1 | ⟨h1,h2⟩
   · rcases h.dom b p h1 with h2 | ⟨k,k1,k2,k3⟩
     · exact .inl h2
     · exact .inr ⟨k,k1,.inl k2,k3⟩
   · exact .inr ⟨i,hi,.inr rfl,h1,h2⟩
 · rw[h.size]
   unfold Act.put;split <;> simp
 · intro k o' q' t v hk ho' hq' hd hv'
   rcases hk with hk | rfl
   · have hki:k≠i:=fun e=>hD (e▸hk)
     have hne:o.dst≠some t:=by
       intro e;rcases Nat.lt_or_gt_of_ne hki with h1 | h1
       · have:=T.pairs k i o' o q' q h1 ho' ho hq' hq
         unfold ZB at this;rw[e,hd]at this;simp at this
       · have:=T.pairs i k o o' q q' h1 ho ho' hq hq'
         unfold ZB at this;rw[e,hd]at this;simp at this
     rw[hget t hne]at hv';exact (h.set k o' q' t v hk ho' hq' hd hv').mono hle
   · rw[ho]at ho'
     cases ho';rw[hq]at hq';cases hq';have hlt:t<a.tmps.size:=by
       rcases s2Z t a.tmps.size with h1 | h1
       · exact h1
       · have hsz:(a.put o.dst cv).tmps.size=a.tmps.size:=by unfold Act.put;split <;> simp
         rw[Array.getElem?_eq_none (by omega)]at hv';cases hv'
     have:(a.put o.dst cv).tmps[t]? = some cv:=by
       unfold Act.put;rw[hd];dsimp only;rw[Array.getElem?_setIfInBounds,if_pos rfl,if_pos hlt]
     rw[this]at hv';cases hv';exact hv
 · intro t x v hn hx hv'
   have hne:o.dst≠some t:=hn i o (.inr rfl) ho;rw[hget t hne]at hv';exact (h.old t x v (fun k o' hk=>hn k o' (.inl hk)) hx hv').mono hle
 · have:(a.put o.dst cv).defers=a.defers:=by unfold Act.put;split <;> rfl
   rw[this];exact h.defers
theorem DI.now(h:DI ds j0 F0 H0 w0 ops qs Hs D σ a j w)(T:Txt P Γ ops F0 H0 qs Fs Hs){i:Nat}{o:Oper}{q:QR}(ho:ops[i]? = some o)(hq:qs[i]? = some q)(hD:¬D i)
   (hc:∀(k:Nat) o e,D k->ops[k]? = some o->e∈o.after.toList->Region.binds .any e=true->D e.on) (he:∀e∈o.after.toList,Region.binds .any e=true->D e.on) :
   (∀m,((Zl ops.toList).getD i 0).testBit m=true->D m)/\(∀(k:Nat) ok qk,i<k->D k->ops[k]? = some ok->qs[k]? = some qk->ZB false (zP ops o) (zP ops ok) o.dst ok.dst q qk=true) /\
     VRs j (zAu (zP ops o) (Fs i)) a.tmps.toList:=by
 have hi:i<ops.size:=(qtZ.1 ho).1;have hc':∀(k:Nat) o e,D k->ops.toList[k]? = some o->e∈o.after.toList->Region.binds .any e=true->D e.on:=fun k o e hk hok=>hc k o e hk (by simpa using hok);have h1:∀m,((Zl ops.toList).getD i 0).testBit m=true->D m:=ZZ hc' i o (by simpa using ho) he;have h2:∀(k:Nat) ok qk,i<k->D k->ops[k]? = some ok->qs[k]? = some qk->ZB false (zP ops o) (zP ops ok) o.dst ok.dst q qk=true:=by
   intro k ok qk hik hk hok hqk;have:=T.pairs i k o ok q qk hik ho hok hq hqk;have hb:((Zl ops.toList).getD k 0).testBit i=false:=by
     cases hb:((Zl ops.toList).getD k 0).testBit i with
     | false=>rfl
     | true=>exact absurd (ZZ hc' k ok (by simpa using hok) (fun e he hbe=>hc k ok e hk hok he hbe) i hb) hD
   rw[hb]at this;exact this
 refine ⟨h1,h2,zPK (by rw[T.flen i (by omega)];exact h.size) fun t ht x v hx hv=>?_⟩;have htc:(zP ops o).contains t=true:=by simpa using ht
 rcases T.slot t x i (by omega) hx with⟨k,ok,qk,k1,k2,k3,k4,rfl⟩ | ⟨k1,k2⟩
 · have:=T.pairs k i ok o qk q k1 k2 ho k3 hq
   unfold ZB at this;rw[k4]at this;simp only[htc,Bool.not_true,Bool.false_or,qrZ]at this;exact h.set k ok qk t v (h1 k this.1.1.1.1) k2 k3 k4 hv
 · refine h.old t x v (fun k ok hk hok e=>?_) k2 hv
   rcases Nat.lt_trichotomy k i with h3 | h3 | h3
   · exact k1 k ok h3 hok e
   · subst h3;exact hD hk
   · obtain⟨qk,hqk⟩:=T.q hok
     have:=h2 k ok qk h3 hk hok hqk;unfold ZB at this;rw[e]at this;simp at this;exact absurd ht this.1.1.1.2.1
theorem DI.dom_now(hΓ:GOk P Γ)(h:DI ds j0 F0 H0 w0 ops qs Hs D σ a j w)(T:Txt P Γ ops F0 H0 qs Fs Hs){i:Nat}(hi:i<ops.size)(hD:¬D i):∀b,(Hs i).length<=b->b<(Hs (i+1)).length->j b=none:=by
 intro b h1 h2;cases hb:j b with
 | none=>rfl
 | some p =>
   have h00:=(T.heap hΓ i (by omega) 0 (by omega)).1;rw[T.h0]at h00;rcases h.dom b p hb with h3 | ⟨k,k1,k2,k3,k4⟩
   · omega
   · rcases Nat.lt_trichotomy k i with h5 | h5 | h5
     · have:=(T.heap hΓ i (by omega) (k+1) (by omega)).1
       omega
     · subst h5;exact absurd k2 hD
     · have:=(T.heap hΓ k (by omega) (i+1) (by omega)).1
       omega
theorem DI.nost(h:DI ds j0 F0 H0 w0 ops qs Hs D σ a j w){i:Nat}{q:QR}(hq:qs[i]? = some q)(hst:q.st=none) :
   (∀k,k∈σ↔(k<ops.size/\(D k\/k=i)/\∃q,qs[k]? = some q/\q.st.isSome))/\(∀(j':Inj),JLe j j'->∀k,k∈σ->∀q s,qs[k]? = some q->q.st=some s->∃p,j' s.1=some p):=by
 refine ⟨fun k=>?_,fun j' hle k hk q' s hq' hs=>?_⟩
 · rw[h.sig k]
   constructor
   · rintro⟨h1,h2,h3⟩;exact⟨h1,.inl h2,h3⟩
   · rintro⟨h1,h2 | rfl,q',h3,h4⟩
     · exact⟨h1,h2,q',h3,h4⟩
     · rw[hq]at h3;cases h3;rw[hst]at h4;cases h4
 · obtain⟨p,hp⟩:=h.sdom k hk q' s hq' hs
   exact⟨p,hle _ _ hp⟩
theorem zIs(hΓ:GOk P Γ)(T:Txt P Γ ops F0 H0 qs Fs Hs){i:Nat}(hi:i<=ops.size){b:Nat}{x:ABlk}(hx:(Hs i)[b]? = some x)
   (hn:∀k,k∈σ->∀q s,qs[k]? = some q->q.st=some s->s.1≠b):((σ.filterMap fun k=>(qs[k]?).bind (·.st)).foldl zAa (Hs ops.size))[b]? = some x:=by
 have hb:=(q1Z.1 hx).1;rw[(zL7 _ b _).2.1 (fun s hs=>?_),(T.heap hΓ ops.size (qnZ _) i hi).2 b hb,hx];obtain⟨k,hk,e⟩:=List.mem_filterMap.1 hs;obtain⟨q,hq,e⟩:=s6Z.1 e;exact hn k hk q s hq e
theorem DI.go(hΓ:GOk P Γ)(h:DI ds j0 F0 H0 w0 ops qs Hs D σ a j w)(T:Txt P Γ ops F0 H0 qs Fs Hs){i:Nat}{o:Oper}(ho:ops[i]? = some o)(hD:¬D i)
   (hc:∀(k:Nat) o e,D k->ops[k]? = some o->e∈o.after.toList->Region.binds .any e=true->D e.on) (he:∀e∈o.after.toList,Region.binds .any e=true->D e.on)
   (r:Option Nat) (n:Nat) {K:Act->World->Prop} {Q:Exit->Act->World->Prop} (hk:∀σ' a' j' w',DI ds j0 F0 H0 w0 ops qs Hs (fun k=>D k\/k=i) σ' a' j' w'->K a' w'):wpOpIn (FW r) n P ops Q i K a w:=by
 have hi:i<ops.size:=(qtZ.1 ho).1;obtain⟨q,hq⟩:=T.q ho;obtain⟨s1,s2,s3⟩:=T.each i o q ho hq;obtain⟨n1,n2,hM⟩:=h.now T ho hq hD hc he;have hR:=h.step.rel;obtain⟨Hσ,hHσ⟩:∃Hσ,(σ.filterMap fun k=>(qs[k]?).bind (·.st)).foldl zAa (Hs ops.size)=Hσ:=⟨_,rfl⟩
 have hHl:Hσ.length=(Hs ops.size).length:=by rw[<-hHσ,zMH]
 have quiet:q.st=none->∀cv,VR j q.v cv->K (a.put o.dst cv) w:=by
   intro hst cv hv;obtain⟨g1,g2⟩:=h.nost hq hst;exact hk _ _ _ _ (h.put T ho hq (JLe.refl j) hv h.step (fun b p hp=>.inl hp) g1 h.nodup (g2 j (JLe.refl j)) hD)
 unfold wpOpIn;rw[ho];dsimp only;unfold zDd at s1;split at s1
 · cases s1
 · rename_i hw
   cases s1;rw[zAQ hw hM];refine ⟨fun _ _=>trivial,quiet rfl undef ?_⟩;exact⟨#[],rfl,rfl⟩
 · rename_i hw
   rw[zAQ hw hM];simp only[if_true];have value:q.st=none->(∃cv,(execOp a.eval o).run P w=.ok (.value cv) w/\VR j q.v cv)->(∀c,o.op≠.defer c)->o.wpIn (FW r) n P a w K Q:=by
     intro hst hv hdf;obtain⟨cv,h1,h2⟩:=hv;refine ⟨fun _ _=>trivial,?_⟩;rw[Oper.semAt_eq _ _ _ hdf,h1];exact quiet hst cv h2
   have fresh:∀mk l,NewRun P o a j w mk l->q.v=mk (Hs i).length->q.H=Hs i++[.cells true l]->q.st=none->(∀c,o.op≠.defer c)->o.wpIn (FW r) n P a w K Q:=by
     intro mk l hnr hv hH hst hdf;obtain⟨cv,cs,T',fz,w',h1,h2,h3,h4,h5,h6,h7,h8,h9⟩:=hnr;have hlen1:(Hs (i+1)).length=(Hs i).length+1:=by rw[s3,hH];simp
     have hjn:j (Hs i).length=none:=h.dom_now hΓ T hi hD _ (qnZ _) (by omega);have hx1:(Hs (i+1))[(Hs i).length]? = some (.cells true l):=by rw[s3,hH];simp
     have hx:Hσ[(Hs i).length]? = some (.cells true l):=by
       rw[<-hHσ];refine zIs hΓ T (i:=i+1) (by omega) hx1 fun k hks q' s hq' hs e=>?_;obtain⟨p,hp⟩:=h.sdom k hks q' s hq' hs;rw[e,hjn]at hp;cases hp
     have h00:=(T.heap hΓ i (by omega) 0 (by omega)).1;rw[T.h0]at h00;rw[hHσ]at hR;have hst1:=zKj hR hx hjn h00 h2 h3 h4 h5 h6 h7 h8;refine ⟨fun _ _=>trivial,?_⟩;rw[Oper.semAt_eq _ _ _ hdf,h1];obtain⟨g1,g2⟩:=h.nost hq hst;have hle:JLe j (zBO j (Hs i).length ⟨w.heap.size,0,cs.size⟩):=zBb hjn;have hs0:=h.step;rw[hHσ]at hs0;refine hk _ _ _ _ (h.put T ho hq hle ?_ (by rw[hHσ];exact hs0.trans hst1 (qnZ _)) (fun b p hp=>?_) g1 h.nodup (g2 _ hle) hD)
     · rw[hv];exact h9 _ _ (zb _ _ _)
     · rw[ZC]at hp
       split at hp
       · subst_vars;exact .inr ⟨qnZ _,by omega⟩
       · exact .inl hp
   have still:q.H=Hs i->Hs (i+1)=Hs i:=fun e=>by rw[s3,e]
   unfold qop at s1;split at s1
   · -- a store
     rename_i t x v hop;split at s1;rotate_left
     · cases s1
     rename_i b off xs hx hv;split at s1;rotate_left
     · cases s1
     rename_i l hb;split at s1 <;> cases s1
     rename_i hcond;obtain⟨c1,c2,c3⟩:=hcond;have hxv:=zQ hM x;have hvv:=zQ hM v;have hbi:=(T.heap hΓ ops.size (qnZ _) i (by omega)).2 b (q1Z.1 hb).1;rw[hb]at hbi;obtain⟨l',hl',hll⟩:=(zL7 (σ.filterMap fun k=>(qs[k]?).bind (·.st)) b (Hs ops.size)).1 _ _ hbi
     rw[hHσ]at hl';have hsA:zF9 P Hσ t (ev (zAu (zP ops o) (Fs i)) x) (ev (zAu (zP ops o) (Fs i)) v)=some (zAa Hσ (b,off,xs)):=by
       unfold zF9 zAa;rw[hx,hv];dsimp only;rw[hl'];dsimp only;rw[if_pos ⟨c1,by omega,c3⟩,if_pos (by omega)]
     rw[hHσ]at hR;obtain⟨w',h1,h2⟩:=zJC hR hsA hxv hvv;have hs0:=h.step;rw[hHσ]at hs0;refine ⟨fun _ _=>trivial,?_⟩;have e1:(execOp a.eval o).run P w=.ok .skip w':=by
       unfold execOp;rw[hop];dsimp only;rw[rb h1];rfl
     rw[Oper.semAt_eq _ _ _ (by rw[hop];simp),e1];have hnot:i∉σ:=fun hm=>hD ((h.sig i).1 hm).2.1;rw[hx]at hxv;simp only[VR]at hxv;obtain⟨pb,hpb,_⟩:=hxv;refine hk _ _ _ _ (h.put T ho hq (σ':=σ++[i]) (JLe.refl j) (cv:=undef) ⟨#[],rfl,rfl⟩ ?_ (fun b p hp=>.inl hp) (fun k=>?_) ?_ (fun k hkm q' s hq' hs=>?_) hD)
     · rw[List.filterMap_append,List.foldl_append,hHσ]
       have:List.filterMap (fun k=>(qs[k]?).bind (·.st)) [i]=[(b,off,xs)]:=by
         simp[hq]
       rw[this];exact hs0.trans h2 (by rw[hHl];have:=(T.heap hΓ ops.size (qnZ _) 0 (by omega)).1;rw[T.h0]at this;exact this)
     · rw[qxZ,h.sig k]
       constructor
       · rintro (⟨k1,k2,k3⟩ | hk')
         · exact⟨k1,.inl k2,k3⟩
         · obtain rfl:k=i:=by simpa using hk'
           exact⟨hi,.inr rfl,_,hq,rfl⟩
       · rintro⟨k1,k2 | rfl,k3⟩
         · exact .inl ⟨k1,k2,k3⟩
         · exact .inr (by simp)
     · rw[List.nodup_append]
       exact⟨h.nodup,by simp,fun a ha b hb=>by simp at hb;subst hb;intro e;subst e;exact hnot ha⟩
     · rcases qxZ.1 hkm with hk' | hk'
       · exact h.sdom k hk' q' s hq' hs
       · obtain rfl:k=i:=by simpa using hk'
         rw[hq]at hq';cases hq';cases hs;exact⟨pb,hpb⟩
   · -- an append that makes a row
     rename_i args ts hop;split at s1;rotate_left
     · cases s1
     rename_i t t' s x hts hargs;split at s1;rotate_left
     · cases s1
     rename_i htt;subst htt;obtain⟨s0,x0,hargs0,e1,e2⟩:∃s0 x0,args.toList=[s0,x0]/\ev (zAu (zP ops o) (Fs i)) s0=s/\ev (zAu (zP ops o) (Fs i)) x0=x:=by
       cases ha:args.toList with
       | nil=>rw[ha]at hargs;simp at hargs
       | cons s0 r =>
         cases r with
         | nil=>rw[ha]at hargs;simp at hargs
         | cons x0 r =>
           rw[ha]at hargs;simp at hargs;obtain⟨h1,h2,h3⟩:=hargs;subst h3;exact⟨s0,x0,rfl,h1,h2⟩
     have e3:ts=#[t,t]:=by apply Array.ext';rw[hts]
     have e4:args.map a.eval=#[a.eval s0,a.eval x0]:=by apply Array.ext';rw[Array.toList_map,hargs0];rfl
     split at s1;rotate_left
     · obtain⟨v,hv,e⟩:=qlZ.1 s1
       subst e;obtain⟨k1,k2⟩:=zIY (ty:=o.type) hv (e1▸zQ hM s0) (e2▸zQ hM x0) w;refine value rfl ⟨_,?_,k2⟩ (by rw[hop];simp);unfold execOp;rw[hop];dsimp only;rw[rb (a:=(⟨.builtin .append ts o.type (args.map fun | .const _=>true | _=>false),args.map a.eval⟩:Deferred)) (w':=w) rfl];show Sem.run P (do pure (Next.value (<-Builtin.append_ ts o.type (args.map a.eval)))) w=_;rw[e3,e4,rb k1];rfl
     rename_i n' sz l hl;cases s1;have hnos:σ=[]:=by
       cases hσ:σ with
       | nil=>rfl
       | cons k rest =>
         have hkm:k∈σ:=by rw[hσ];simp
         obtain⟨k1,k2,qk,k3,k4⟩:=(h.sig k).1 hkm;obtain⟨ok,hok⟩:∃ok,ops[k]? = some ok:=⟨_,quZ k1⟩
         obtain⟨s,hs⟩:=Option.isSome_iff_exists.1 k4;rcases Nat.lt_trichotomy k i with h3 | h3 | h3
         · have:=T.pairs k i ok o qk _ h3 hok ho k3 hq
           unfold ZB at this;rw[hs]at this;simp at this
         · subst h3;exact absurd k2 hD
         · have:=n2 k ok qk h3 k2 hok k3
           unfold ZB at this;rw[hs]at this;simp at this
     subst hnos;have hl':=zJm (H':=Hs ops.size) (fun b y hb=>by rw[(T.heap hΓ ops.size (qnZ _) i (by omega)).2 b (q1Z.1 hb).1];exact hb) hl;have hRs:R j (Hs ops.size) w:=by simpa using hR
     obtain⟨cv,ca,T',fz,w',k1,k2,k3⟩:=zK4 (ty:=o.type) hRs hl' (e1▸zQ hM s0) (e2▸zQ hM x0);refine fresh (fun id=>.slice id 0 n' sz false) l ⟨cv,ca,T',fz,w',?_,k2,k3⟩ rfl rfl rfl (by rw[hop];simp);unfold execOp;rw[hop];dsimp only;rw[rb (a:=(⟨.builtin .append ts o.type (args.map fun | .const _=>true | _=>false),args.map a.eval⟩:Deferred)) (w':=w) rfl];show Sem.run P (do pure (Next.value (<-Builtin.append_ ts o.type (args.map a.eval)))) w=_;rw[e3,e4,rb k1];rfl
   · -- a call
     rename_i g args ts hop;split at s1
     · -- of values alone
       rename_i v hpure;cases s1;dsimp only at s3;obtain⟨g1,g2⟩:=h.nost hq rfl;have hs0:=h.step;rw[hHσ]at hs0 hR;refine zIy hΓ hop hpure hM hR r n fun cv w' hv hst=>?_;exact hk _ _ _ _ (h.put T ho hq (JLe.refl j) hv (by rw[hHσ];exact hs0.trans hst hs0.len) (fun b p hp=>.inl hp) g1 h.nodup (g2 j (JLe.refl j)) hD)
     split at s1;rotate_left
     · cases s1
     rename_i v H' hcall;cases s1;dsimp only at s3;have hnos:σ=[]:=by
       cases hσ:σ with
       | nil=>rfl
       | cons k rest =>
         have hkm:k∈σ:=by rw[hσ];simp
         obtain⟨k1,k2,qk,k3,k4⟩:=(h.sig k).1 hkm;obtain⟨ok,hok⟩:∃ok,ops[k]? = some ok:=⟨_,quZ k1⟩
         obtain⟨s,hs⟩:=Option.isSome_iff_exists.1 k4;rcases Nat.lt_trichotomy k i with h3 | h3 | h3
         · have:=T.pairs k i ok o qk _ h3 hok ho k3 hq
           unfold ZB at this;rw[hs]at this;simp at this
         · subst h3;exact absurd k2 hD
         · have:=n2 k ok qk h3 k2 hok k3
           unfold ZB at this;rw[hs]at this;simp at this
     subst hnos;obtain⟨hpl,hpe⟩:=T.heap hΓ ops.size (qnZ _) i (by omega);obtain⟨hpl',hpe'⟩:=T.heap hΓ ops.size (qnZ _) (i+1) (by omega);have h00:=(T.heap hΓ i (by omega) 0 (by omega)).1;rw[T.h0]at h00;have hmid:∀b,(Hs i).length<=b->b<(Hs (i+1)).length->j b=none:=by
       intro b hb hb2;cases hj:j b with
       | none=>rfl
       | some p =>
         rcases h.dom b p hj with h3 | ⟨k,k1,k2,k3,k4⟩
         · omega
         · rcases Nat.lt_trichotomy k i with h5 | h5 | h5
           · have:=(T.heap hΓ i (by omega) (k+1) (by omega)).1
             omega
           · subst h5;exact absurd k2 hD
           · have:=(T.heap hΓ k (by omega) (i+1) (by omega)).1
             omega
     have hdom:scC (zAu (zP ops o) (Fs i)) (Hs i) H' g args=true\/∀b,(Hs i).length<=b->j b=none:=by
       by_cases hsc:scC (zAu (zP ops o) (Fs i)) (Hs i) H' g args=true
       · exact .inl hsc
       refine .inr fun b hb=>?_;cases hj:j b with
       | none=>rfl
       | some p =>
         rcases h.dom b p hj with h3 | ⟨k,k1,k2,k3,k4⟩
         · omega
         · rcases Nat.lt_trichotomy k i with h5 | h5 | h5
           · have:=(T.heap hΓ i (by omega) (k+1) (by omega)).1
             omega
           · subst h5;exact absurd k2 hD
           · obtain⟨ok,hok⟩:∃ok,ops[k]? = some ok:=⟨_,quZ k1⟩
             obtain⟨qk,hqk⟩:=T.q hok;have:=n2 k ok qk h5 k2 hok hqk;unfold ZB at this;simp[hsc]at this;have hg:=this.2;obtain⟨t1,_,t3⟩:=T.each k ok qk hok hqk;have:=(zHk hΓ t1).2.2.1 hg;rw[t3]at k4;omega
     have hsc2:(∀b,(Hs i).length<=b->j b=none)\/(Hs i).all (zCA (Hs i).length)=true:=by
       rcases hdom with h1 | h1
       · unfold scC at h1
         split at h1
         · unfold scA at h1
           simp only[qrZ]at h1;exact .inr h1.1.2
         · cases h1
       · exact .inl h1
     have hsc3:(∀b,(Hs i).length<=b->j b=none)\/(H'.drop (Hs i).length).all zFQ=true:=by
       rcases hdom with h1 | h1
       · unfold scC at h1
         split at h1
         · unfold scA at h1
           simp only[qrZ]at h1;exact .inr h1.2
         · cases h1
       · exact .inl h1
     have hR':R (zCV (Hs i).length j) (Hs i) w:=R.cut hR hpe hsc2;refine zNS hΓ hop hcall hM hR' (fun f first cap vs hf hvs=>?_) r n fun cv j' w' hv hst=>?_
     · rcases hdom with h1 | h1
       · unfold scC at h1
         rw[hf]at h1;unfold scA at h1;simp only[qrZ]at h1;exact VRs.cut _ _ h1.1.1 hvs
       · rw[zPL h1];exact hvs
     obtain⟨g1,g2⟩:=h.nost hq rfl;rw[<-s3]at hst hsc3;obtain⟨hle,hle1,hst2⟩:=zPz (n:=H0.length) hR hpl hpe hpl' hpe' hmid hst (by omega) hsc3;refine hk _ _ _ _ (h.put T ho hq hle (VR.mono hle1 _ _ hv) (h.step.trans hst2 (qnZ _)) (fun b p hp=>?_) g1 h.nodup (g2 _ hle) hD);rw[zBm]at hp;split at hp
     · rename_i hb
       rcases s2Z b (Hs i).length with h1 | h1
       · rw[hst.ext b h1]at hp
         rw[zFm]at hp;rw[if_pos h1]at hp;exact .inl hp
       · exact .inr ⟨h1,hb⟩
     · exact .inl hp
   · rename_i t hop
     obtain⟨l,hl,e⟩:=qlZ.1 s1;subst e;exact fresh _ l (zGx hM w (by rw[hop];exact hl)) rfl rfl rfl (by rw[hop];simp)
   · rename_i t x hop
     obtain⟨l,hl,e⟩:=qlZ.1 s1;subst e;exact fresh _ l (zGx hM w (by rw[hop];exact hl)) rfl rfl rfl (by rw[hop];simp)
   · rename_i t m ps hop
     obtain⟨⟨n',sz,l⟩,hl,e⟩:=qlZ.1 s1;subst e;exact fresh _ l (zGu hM w (by rw[hop];exact hl)) rfl rfl rfl (by rw[hop];simp)
   · rename_i t l c hop
     obtain⟨⟨n',sz,l⟩,hl,e⟩:=qlZ.1 s1;subst e;exact fresh _ l (zGu hM w (by rw[hop];exact hl)) rfl rfl rfl (by rw[hop];simp)
   · rename_i g1 g2 g3 g4 g5 g6 g7
     split at s1
     · rename_i v hv
       cases s1;refine value rfl (zII hM hv w) ?_;intro c hc';rw[hc']at hv;simp[zAm]at hv
     · split at s1
       · rename_i v hv
         cases s1;refine value rfl ?_ ?_
         · rw[hHσ]at hR
           refine zBp hM hR (zGM hv fun b x hrb hbx=>?_);rw[<-hHσ];refine zIs hΓ T (i:=i) (by omega) hbx fun k hkm q' s hq' hs e=>?_;obtain⟨k1,k2,_⟩:=(h.sig k).1 hkm;obtain⟨ok,hok⟩:∃ok,ops[k]? = some ok:=⟨_,quZ k1⟩
           rcases Nat.lt_trichotomy k i with h3 | h3 | h3
           · have:=T.pairs k i ok o q' _ h3 hok ho hq' hq
             unfold ZB at this;rw[hs]at this;simp[hrb,e]at this
           · subst h3;exact absurd k2 hD
           · have:=n2 k ok q' h3 k2 hok hq'
             unfold ZB at this;rw[hs]at this;simp[hrb,e]at this
         · intro c hc'
           rw[hc']at hv;simp[zAT]at hv
       · obtain⟨s,hs,e⟩:=qlZ.1 s1
         subst e;refine fresh _ _ (zLR hM w hs) rfl rfl rfl ?_;intro c hc';rw[hc']at hs;simp[zB2]at hs
end
end
theorem zBN{α β:Type}(f:α->Option β):∀(l:List α),(List.range l.length).filterMap (fun k=>(l[k]?).bind f)=l.filterMap f
 | []=>rfl
 | x::l=>by
   rw[q7Z,List.range_succ_eq_map,List.filterMap_cons,List.filterMap_map];have e:((fun k=>((x::l)[k]?).bind f) ∘ Nat.succ)=fun k=>(l[k]?).bind f:=by funext k;simp
   rw[e,zBN f l,List.filterMap_cons];simp
theorem R.heapEq{j:Inj}{H:zA}{w w':World}(h:R j H w)(hw:w'.heap=w.heap):R j H w':=h.same_on (by rw[hw];exact qnZ _) (fun u _=>by rw[hw]) fun u _=>by rw[hw]
theorem zCe{n:Nat}{j j':Inj}{H H':zA}{w w':World}(h:Step n j H { w with drawn:=w.drawn+1 } j' H' w'):Step n j H w j' H' w' :=
 ⟨h.rel,h.ext,h.len,⟨h.keeps.os,h.keeps.tape,h.keeps.output,h.keeps.size,h.keeps.block⟩,h.fresh,h.tch⟩
theorem ready_iff{ops:Array Oper}{listed:Array Bool}{i:Nat}:i∈Region.ready .any ops listed↔i<ops.size/\listed.getD i true=false/\∃o,ops[i]? = some o/\∀e∈o.after.toList,Region.binds .any e=true->listed.getD e.on false=true:=by
 unfold Region.ready;rw[sbZ,List.mem_range];refine and_congr_right fun hi=>?_;rw[qrZ];refine and_congr (by simp) ?_;rw[quZ hi];simp only[rhZ,rgZ,<-Array.all_toList,s5Z,Option.some.injEq,exists_eq_left',Bool.or_eq_true,Bool.not_eq_true'];constructor
 · intro h e he hb
   rcases h e he with h1 | h1
   · rw[hb]at h1;cases h1
   · exact h1
 · intro h e he
   cases hb:Region.binds .any e with
   | false=>exact .inl rfl
   | true=>exact .inr (h e he hb)
theorem zOu{P:Program}{Γ:Gam}(hΓ:GOk P Γ){ops:Array Oper}{F0 F':List AV}{H0 H':zA}(hd:zT P Γ ops F0 H0=some (F',H')){j0:Inj}{w0:World}{a0:Act}(hR:R j0 H0 w0)(hF:VRs j0 F0 a0.tmps.toList){ds:List Deferred}(hdf:a0.defers=ds)
   (r:Option Nat) (n:Nat) {Q:Exit->Act->World->Prop} (hq:∀j a w,VRs j F' a.tmps.toList->a.defers=ds->Step H0.length j0 H0 w0 j H' w->Q .normal a w) :
   wpAnyIn (FW r) n P .any ops Q ops.size (Array.replicate ops.size false) a0 w0:=by
 obtain⟨qs,Fs,Hs,T,rfl,rfl⟩:=zSQ hd;have hFl:F0.length=a0.tmps.size:=by simpa using hF.length
 have done:∀(D:Nat->Prop) σ a j w,DI ds j0 F0 H0 w0 ops qs Hs D σ a j w->(∀i,i<ops.size->D i)->Q .normal a w:=by
   intro D σ a j w h hall;refine hq j a w ?_ h.defers ?_
   · refine VRs_iff.2 ⟨by rw[T.flen ops.size (qnZ _)];simpa using h.size,fun t x v hx hv=>?_⟩
     have hv':a.tmps[t]? = some v:=by simpa using hv
     rcases T.slot t x ops.size (qnZ _) hx with⟨i,o,q,h1,h2,h3,h4,rfl⟩ | ⟨h1,h2⟩
     · exact h.set i o q t v (hall i h1) h2 h3 h4 hv'
     · exact h.old t x v (fun k o _ hok=>h1 k o (qtZ.1 hok).1 hok) h2 hv'
   · have hperm:σ.Perm ((List.range qs.length).filter fun k=>((qs[k]?).bind (·.st)).isSome):=by
       refine (List.perm_ext_iff_of_nodup h.nodup (List.nodup_range.sublist List.filter_sublist)).2 fun k=>?_;rw[h.sig k,sbZ,List.mem_range,T.len];constructor
       · rintro⟨h1,_,q,h2,h3⟩
         exact⟨h1,by rw[h2];exact h3⟩
       · rintro⟨h1,h2⟩
         obtain⟨q,hq'⟩:∃q,qs[k]? = some q:=⟨_,q3Z (by rw[T.len];exact h1)⟩
         rw[hq']at h2;exact⟨h1,hall k h1,q,hq',h2⟩
     have hp2:=hperm.filterMap (fun k=>(qs[k]?).bind (·.st))
     have e1:((List.range qs.length).filter fun k=>((qs[k]?).bind (·.st)).isSome).filterMap (fun k=>(qs[k]?).bind (·.st))=qs.filterMap (·.st):=by
       rw[<-zBN (·.st) qs,List.filterMap_filter]
       congr 1
       funext k
       cases hk:(qs[k]?).bind (·.st) <;> simp
     rw[e1]at hp2;have hcomm:=hp2.foldl_eq' (f:=zAa) (fun x hx y hy z=>by
       obtain⟨i,hi,ei⟩:=List.mem_filterMap.1 hx;obtain⟨k,hk,ek⟩:=List.mem_filterMap.1 hy;obtain⟨qi,hqi,si⟩:=s6Z.1 ei;obtain⟨qk,hqk,sk⟩:=s6Z.1 ek;have hil:=(h.sig i).1 hi;have hkl:=(h.sig k).1 hk;obtain⟨oi,hoi⟩:∃oi,ops[i]? = some oi:=⟨_,quZ hil.1⟩
       obtain⟨ok,hok⟩:∃ok,ops[k]? = some ok:=⟨_,quZ hkl.1⟩
       rcases Nat.lt_trichotomy i k with h1 | h1 | h1
       · have:=T.pairs i k oi ok qi qk h1 hoi hok hqi hqk
         unfold ZB at this;rw[si,sk]at this;simp only[qrZ]at this;exact zDj z this.1.1.2.2
       · subst h1
         rw[hqi]at hqk;cases hqk;rw[si]at sk;cases sk;rfl
       · have:=T.pairs k i ok oi qk qi h1 hok hoi hqk hqi
         unfold ZB at this;rw[si,sk]at this;simp only[qrZ]at this;exact (zDj z this.1.1.2.2).symm) (Hs ops.size)
     rw[<-hcomm];exact h.step
 have way:∀fuel (listed:Array Bool) σ a j w,listed.size=ops.size->nf listed.toList<=fuel->DI ds j0 F0 H0 w0 ops qs Hs (fun i=>listed.getD i false=true) σ a j w ->
     (∀(k:Nat) o e,listed.getD k false=true->ops[k]? = some o->e∈o.after.toList->Region.binds .any e=true->listed.getD e.on false=true)->wpAnyIn (FW r) n P .any ops Q fuel listed a w:=by
   intro fuel;induction fuel with
   | zero =>
     intro listed σ a j w hs hnf h _;have hall:∀i,i<ops.size->listed.getD i false=true:=by
       intro i hi;have:=zFE listed.toList (by omega) i;rw[qvZ];have hli:listed[i]? = some listed[i]:=quZ (by omega);rw[hli];cases hb:listed[i] with
       | true=>rfl
       | false=>rw[hb]at hli;exact absurd (by simpa using hli) this
     refine ⟨?_,done _ σ a j w h hall⟩;rw[List.eq_nil_iff_forall_not_mem];intro i hi;obtain⟨h1,h2,_⟩:=ready_iff.1 hi;have:=hall i h1;rw[qvZ,quZ (show i<listed.size by omega)]at this h2;simp at this h2;rw[this]at h2;cases h2
   | succ fuel ih =>
     intro listed σ a j w hs hnf h hc;refine ⟨fun hnil=>done _ σ a j w h ?_,fun i hi=>?_⟩
     · intro i
       induction i using Nat.strongRecOn with
       | _ i ihi =>
         intro hi;cases hb:listed.getD i false with
         | true=>rfl
         | false =>
           exfalso;have:i∈Region.ready .any ops listed:=by
             refine ready_iff.2 ⟨hi,?_,ops[i],quZ hi,fun e he hbe=>?_⟩
             · rw[qvZ,quZ (show i<listed.size by omega)]at hb ⊢
               exact hb
             · have hlt:=T.edges i _ e (quZ hi) he hbe
               exact ihi e.on hlt (by omega)
           rw[hnil]at this;cases this
     · obtain⟨h1,h2,o,ho,he⟩:=ready_iff.1 hi
       have hli:listed[i]? = some false:=by
         rw[qvZ,quZ (show i<listed.size by omega)]at h2;rw[quZ (show i<listed.size by omega)];simpa using h2
       have hset:∀k,(listed.setIfInBounds i true).getD k false=true↔(listed.getD k false=true\/k=i):=by
         intro k;rw[qvZ,qvZ,Array.getElem?_setIfInBounds];by_cases e:i=k
         · subst e
           rw[if_pos rfl,if_pos (by omega)];simp
         · rw[if_neg e]
           constructor
           · exact fun h=>.inl h
           · rintro (h | h)
             · exact h
             · exact absurd h.symm e
       refine h.go hΓ T ho (by rw[qvZ,hli];simp) hc he r n fun σ' a' j' w' h'=>?_;refine ih _ σ' a' j' w' (by simpa using hs) ?_ ?_ ?_
       · have:=zIQ listed.toList i (by simpa using hli)
         rw[Array.toList_setIfInBounds];omega
       · have e:(fun k=>listed.getD k false=true\/k=i)=fun k=>(listed.setIfInBounds i true).getD k false=true:=by
           funext k;exact propext (hset k).symm
         rw[<-e];exact h'
       · intro k o' e hk hok hee hbe
         rw[hset]at hk ⊢;rcases hk with hk | rfl
         · exact .inl (hc k o' e hk hok hee hbe)
         · rw[ho]at hok
           cases hok;exact .inl (he e hee hbe)
 have hl0:=T.heap hΓ ops.size (qnZ _) 0 (by omega);rw[T.h0]at hl0;have hfalse:∀i,¬((Array.replicate ops.size false).getD i false=true):=by
   intro i;rw[qvZ,Array.getElem?_replicate];split <;> simp
 refine way ops.size _ [] a0 j0 w0 (by simp) (by rw[Array.toList_replicate,zBY];exact qnZ _) ⟨?_,fun b p hp=>.inl ?_,hFl,fun k o q t v hk=>absurd hk (hfalse k),fun t x v _ hx hv=>?_,fun k=>?_,by simp,fun k hk=>by simp at hk,hdf⟩ (fun k o e hk=>absurd hk (hfalse k))
 · exact Step.shows hR hl0.1 hl0.2 (qnZ _)
 · rcases s2Z b H0.length with h1 | h1
   · exact h1
   · rw[hR.dom b h1]at hp;cases hp
 · exact (VRs_iff.1 hF).2 t x v hx (by simpa using hv)
 · constructor
   · intro hk;simp at hk
   · rintro⟨_,hk,_⟩;exact absurd hk (hfalse k)
section
inductive AX where
 | normal | exit (id:Nat) | ret
 deriving Inhabited,DecidableEq
def AX.toExit:AX->Exit
 | .normal=>.normal
 | .exit id=>.exit id
 | .ret=>.ret
abbrev zOW:=Option (AX×List AV×zA)
def zn(P:Program)(Γ:Gam)(ops:Array Oper):List Oper->List AV->zA->Option (List AV×zA)
 | [],F,H=>some (F,H)
 | o::rest,F,H =>
   match zAM ops o F with
   | none=>none
   | some false=>zn P Γ ops rest (ZW F o.dst zV) H
   | some true =>
     match opA P Γ F H o.op with
     | none=>none
     | some (v,H')=>zn P Γ ops rest (ZW F o.dst v) H'
def aloop(body:List AV->zA->zOW):Nat->List AV->zA->zOW
 | 0,_,_=>none
 | n+1,F,H =>
   match body F H with
   | some (.normal,F',H')=>aloop body n F' H'
   | r=>r
def zJ(P:Program)(Γ:Gam)(n:Nat)(q:Bool):Code->List AV->zA->zOW
 | .skip,F,H=>some (.normal,F,H)
 | .label _,F,H=>some (.normal,F,H)
 | .region _ ops false,F,H=>(zn P Γ ops ops.toList F H).map fun r=>(.normal,r)
 | .region _ ops true,F,H=>(zT P Γ ops F H).map fun r=>(.normal,r)
 | .seq x y,F,H =>
   match zJ P Γ n q x F H with
   | some (.normal,F',H')=>zJ P Γ n q y F' H'
   | r=>r
 | .cond c x y,F,H =>
   match ev F c with
   | .bool t=>if t then zJ P Γ n q x F H else zJ P Γ n q y F H
   | _=>none
 | .block id x,F,H =>
   match zJ P Γ n q x F H with
   | some (.exit id',F',H')=>if id'=id then some (.normal,F',H') else some (.exit id',F',H')
   | r=>r
 | .loop x,F,H=>aloop (fun F H=>zJ P Γ n q x F H) n F H
 | .scope x,F,H=>zJ P Γ n q x F H
 | .exit id,F,H=>some (.exit id,F,H)
 | .ret,F,H=>some (.ret,F,H)
 | .rangeFunc g ps asg body,F,H =>
   if q then
     match ev F g with
     | .func gf [] cap =>
       if gf=yl then none else
       match Γ gf (.yld H.length::cap) (H++[.loop ps asg body .ready none F]) with
       | some (_,H',_) =>
         match H'[H.length]? with
         | some (.loop _ _ _ .busy _ _)=>none
         | some (.loop _ _ _ _ none _)=>some (.normal,F,H'.set H.length .dead)
         | some (.loop _ _ _ _ (some .ret) _)=>some (.ret,F,H'.set H.length .dead)
         | some (.loop _ _ _ _ (some (.exit id)) _)=>some (.exit id,F,H'.set H.length .dead)
         | _=>none
       | none=>none
     | _=>none
   else none
 | _,_,_=>none
def zFN(D:Nat):Deferred:={ target:=.collected D,args:=#[] }
def DefOk(B:Nat)(w:World)(ds:List Deferred):Prop:=∃Ds:List Nat,ds=Ds.map zFN/\Ds.Nodup/\∀D∈Ds,B<=D/\w.heap[D]? = some (.deferred (some []))
theorem DefOk.nil(B:Nat)(w:World):DefOk B w []:=⟨[],rfl,by simp,by simp⟩
theorem DefOk.step{n B:Nat}{j j':Inj}{H H':zA}{w w':World}{ds:List Deferred}(h:DefOk B w ds)(hR:R j H w)(hs:Step n j H w j' H' w'):DefOk B w' ds:=by
 obtain⟨Ds,h1,h2,h3⟩:=h;refine ⟨Ds,h1,h2,fun D hD=>⟨(h3 D hD).1,?_⟩⟩;have hd:=(h3 D hD).2;rw[hs.keeps.block D (qtZ.1 hd).1 ?_]
 · exact hd
 intro ho;obtain⟨o,g1,g2⟩:=hR.nd ho.tch;rw[g1]at hd;cases hd;exact g2 _ rfl
def Sim(P:Program)(r:Option Nat)(n0:Nat)(c:Code)(F:List AV)(H:zA)(Q:AX->List AV->zA->Prop):Prop :=
 ∀B j w a m,B<=w.heap.size->R j H w->VRs j F a.tmps.toList->DefOk B w a.defers->c.wpIn (FW r) m P (fun e a' w'=>∃x F' H' j',e=AX.toExit x/\Q x F' H'/\VRs j' F' a'.tmps.toList/\DefOk B w' a'.defers/\Step n0 j H w j' H' w') a w
theorem zAY(a:Act)(d:Option Tmp)(v:Value):(a.put d v).defers=a.defers:=by unfold Act.put;split <;> rfl
theorem zGm{P:Program}{Γ:Gam}(hΓ:GOk P Γ){ops:Array Oper}(r:Option Nat)(m:Nat){Q:Exit->Act->World->Prop}:∀(l:List Oper) (F F':List AV) (H H':zA) (j:Inj) (w:World) (a:Act),
   zn P Γ ops l F H=some (F',H')->R j H w->VRs j F a.tmps.toList->∀ds,a.defers=ds ->
   (∀j' w' a',VRs j' F' a'.tmps.toList->a'.defers=ds->Step H.length j H w j' H' w'->Q .normal a' w')->wpListIn (FW r) m P ops Q l a w
 | [],F,F',H,H',j,w,a,h,hR,hF,ds,hd,hq=>by
   cases h;exact hq j w a hF hd (Step.refl hR (qnZ _))
 | o::rest,F,F',H,H',j,w,a,h,hR,hF,ds,hd,hq=>by
   unfold zn at h;unfold wpListIn;split at h
   · cases h
   · rename_i hw
     rw[zAQ hw hF];refine ⟨fun _ _=>trivial,?_⟩;exact zGm hΓ r m rest _ F' H H' j w _ h hR (zGj hF o.dst ⟨#[],rfl,rfl⟩) ds (by rw[zAY];exact hd) hq
   · rename_i hw
     rw[zAQ hw hF];simp only[if_true];split at h
     · cases h
     · rename_i v H1 ho
       refine zKU hΓ ho hF hR r m fun cv j' w' hv hst=>?_;have hle:=hst.jle hR (qnZ _);refine zGm hΓ r m rest _ F' H1 H' j' w' _ h hst.rel (zGj (VRs.mono hle _ _ hF) o.dst hv) ds (by rw[zAY];exact hd) fun j2 w2 a2 h1 h2 h3=>?_;exact hq j2 w2 a2 h1 h2 (hst.trans h3 hst.len)
theorem Sim.mono{P:Program}{r:Option Nat}{n0:Nat}{c:Code}{F:List AV}{H:zA}{Q Q':AX->List AV->zA->Prop}(h:Sim P r n0 c F H Q)(hq:∀x F' H',n0<=H'.length->Q x F' H'->Q' x F' H'):Sim P r n0 c F H Q':=by
 intro B j w a m hB hR hF hd;refine wpIn_mono (h B j w a m hB hR hF hd) ?_;rintro e a' w' ⟨x,F',H',j',h1,h2,h3,h4,h5⟩;exact⟨x,F',H',j',h1,hq _ _ _ h5.len h2,h3,h4,h5⟩
theorem Sim.seq{P:Program}{r:Option Nat}{n0:Nat}{x y:Code}{F:List AV}{H:zA}{Q:AX->List AV->zA->Prop}
   (h:Sim P r n0 x F H fun e F' H'=>match e with | .normal=>Sim P r n0 y F' H' Q | e=>Q e F' H'):Sim P r n0 (.seq x y) F H Q:=by
 intro B j w a m hB hR hF hd;refine wpIn_seq (wpIn_mono (h B j w a m hB hR hF hd) ?_);rintro e a' w' ⟨x',F',H',j',rfl,h2,h3,h4,h5⟩;cases x' with
 | normal =>
   refine wpIn_mono (h2 B j' w' a' m (Nat.le_trans hB h5.keeps.size) h5.rel h3 h4) ?_;rintro e a2 w2 ⟨x2,F2,H2,j2,g1,g2,g3,g4,g5⟩;exact⟨x2,F2,H2,j2,g1,g2,g3,g4,h5.trans g5 (qnZ _)⟩
 | exit id=>exact⟨_,F',H',j',rfl,h2,h3,h4,h5⟩
 | ret=>exact⟨_,F',H',j',rfl,h2,h3,h4,h5⟩
theorem Sim.block{P:Program}{r:Option Nat}{n0 id:Nat}{x:Code}{F:List AV}{H:zA}{Q:AX->List AV->zA->Prop}
   (h:Sim P r n0 x F H fun e F' H'=>match e with | .exit id'=>if id'=id then Q .normal F' H' else Q (.exit id') F' H' | e=>Q e F' H'):Sim P r n0 (.block id x) F H Q:=by
 intro B j w a m hB hR hF hd;refine wpIn_block (wpIn_mono (h B j w a m hB hR hF hd) ?_);rintro e a' w' ⟨x',F',H',j',rfl,h2,h3,h4,h5⟩;cases x' with
 | normal=>exact⟨_,F',H',j',rfl,h2,h3,h4,h5⟩
 | exit id' =>
   show (if id'=id then _ else _);dsimp only at h2;split at h2
   · rename_i e;rw[if_pos e];exact⟨.normal,F',H',j',rfl,h2,h3,h4,h5⟩
   · rename_i e;rw[if_neg e];exact⟨.exit id',F',H',j',rfl,h2,h3,h4,h5⟩
 | ret=>exact⟨_,F',H',j',rfl,h2,h3,h4,h5⟩
section
variable {P:Program} {Fc:Fence} {m:Nat} {b:Frame} {a:Act} {k:List Item} {cs:List Frame} {w:World} {Q:Exit->Act->World->Prop}
theorem zAh{c:Code}:step P (lone (b.atR a (.code (.scope c)::k)) cs w)=.next (lone (b.atR a (.code c::.inScope c::k)) cs w) :=
 step_lone_go (by simp[stepG,stepG.exec,Frame.atR])
theorem zIk{c:Code}:step P (lone (b.atR a (.inScope c::k)) cs w)=.next (lone (b.atR a k) cs w) :=
 step_lone_go (by simp[stepG,stepG.exec,Frame.atR])
theorem zNc{c:Code}(h:c.wpIn Fc m P (Exit.noGoto Q) a w):(Code.scope c).wpIn Fc m P Q a w:=by
 intro b k cs hro hb hr;have h0:(lone (b.atR a (.code (.scope c)::k)) cs w).fenced P Fc:=fenced_calm hb hr rfl;obtain⟨e,a₁,w₁,hq,harr⟩:=h b (.inScope c::k) cs hro hb hr;cases e with
 | normal=>exact⟨.normal,a₁,w₁,hq,.head h0 zAh (StepsIn.trans harr (.one (fenced_calm hb hr rfl) zIk))⟩
 | exit id =>
   have hx:exitTo id (.inScope c::k)=exitTo id k:=by simp[exitTo]
   exact⟨.exit id,a₁,w₁,hq,fun k' hk=>.head h0 zAh (harr.1 k' (by rw[hx];exact hk)),
     fun hr' hk=>let ⟨k₁,h1,h2⟩:=harr.2 hr' (by rw[hx];exact hk);⟨k₁,h1,.head h0 zAh h2⟩⟩
 | goto l=>exact hq.elim
 | ret=>exact⟨_,a₁,w₁,hq,.of_steps (.one h0 zAh) harr⟩
 | panic ch=>exact⟨_,a₁,w₁,hq,.of_steps (.one h0 zAh) harr⟩
 | outgrown=>exact⟨_,a₁,w₁,hq,.of_steps (.one h0 zAh) harr⟩
end
theorem Sim.scope{P:Program}{r:Option Nat}{n0:Nat}{x:Code}{F:List AV}{H:zA}{Q:AX->List AV->zA->Prop}(h:Sim P r n0 x F H Q):Sim P r n0 (.scope x) F H Q:=by
 intro B j w a m hB hR hF hd;refine zNc (wpIn_mono (h B j w a m hB hR hF hd) ?_);rintro e a' w' ⟨x',F',H',j',rfl,h2,h3,h4,h5⟩;cases x' with
 | normal=>exact⟨.normal,F',H',j',rfl,h2,h3,h4,h5⟩
 | exit id=>exact⟨.exit id,F',H',j',rfl,h2,h3,h4,h5⟩
 | ret=>exact⟨.ret,F',H',j',rfl,h2,h3,h4,h5⟩
theorem Sim.cond{P:Program}{r:Option Nat}{n0:Nat}{c:Operand}{x y:Code}{F:List AV}{H:zA}{Q:AX->List AV->zA->Prop}{t:Bool}(hc:ev F c=.bool t)
   (h:Sim P r n0 (if t then x else y) F H Q):Sim P r n0 (.cond c x y) F H Q:=by
 intro B j w a m hB hR hF hd;have hv:=zQ hF c;rw[hc]at hv;simp only[VR]at hv;exact wpIn_cond hv (h B j w a m hB hR hF hd)
theorem Sim.loop{P:Program}{r:Option Nat}{n0:Nat}{x:Code}{Q:AX->List AV->zA->Prop}{σ:Type}(I:σ->List AV->zA->Prop)(μ:σ->Nat)(s0:σ){F:List AV}{H:zA}(hn:n0<=H.length)(h0:I s0 F H)
   (round:∀s F H,n0<=H.length->I s F H->Sim P r n0 x F H fun e F' H'=>match e with | .normal=>∃s',I s' F' H'/\μ s'<μ s | e=>Q e F' H'):Sim P r n0 (.loop x) F H Q:=by
 intro B j w a m hB hR hF hd;refine wpIn_loop_rounds (μ s0+1) ?_;have key:∀k s F1 H1 j1 w1 a1,μ s<k->I s F1 H1->VRs j1 F1 a1.tmps.toList->DefOk B w1 a1.defers->Step n0 j H w j1 H1 w1 ->
     Code.roundsIn (FW r) m P x (fun e a' w'=>∃x F' H' j',e=AX.toExit x/\Q x F' H'/\VRs j' F' a'.tmps.toList/\DefOk B w' a'.defers/\Step n0 j H w j' H' w') k a1 w1:=by
   intro k;induction k with
   | zero=>intro s _ _ _ _ _ hk;omega
   | succ k ih =>
     intro s F1 H1 j1 w1 a1 hk hi hv hdf hst;refine wpIn_mono (round s F1 H1 hst.len hi B j1 w1 a1 m (Nat.le_trans hB hst.keeps.size) hst.rel hv hdf) ?_;rintro e a2 w2 ⟨x',F2,H2,j2,rfl,g2,g3,g4,g5⟩;have hst2:=hst.trans g5 (qnZ _);cases x' with
     | normal =>
       obtain⟨s',hi',hlt⟩:=g2;exact ih s' F2 H2 j2 w2 a2 (by omega) hi' g3 g4 hst2
     | exit id=>exact⟨_,F2,H2,j2,rfl,g2,g3,g4,hst2⟩
     | ret=>exact⟨_,F2,H2,j2,rfl,g2,g3,g4,hst2⟩
 exact key _ s0 F H j w a (Nat.lt_succ_self _) h0 hF hd (Step.refl hR hn)
theorem Sim.aloop{P:Program}{r:Option Nat}{c:Code}(body:List AV->zA->zOW)(hb:∀F H x F' H',body F H=some (x,F',H')->Sim P r H.length c F H fun x1 F1 H1=>x1=x/\F1=F'/\H1=H') :
   ∀(n:Nat) F H x F' H',aloop body n F H=some (x,F',H')->Sim P r H.length (.loop c) F H fun x1 F1 H1=>x1=x/\F1=F'/\H1=H':=by
 intro n F H x F' H' h B j w a m hB hR hF hd;refine wpIn_loop_rounds n ?_;have key:∀n F1 H1 j1 w1 a1,_root_.Go.Proofs.YtfhidaoiofeooaaGreatDoor.aloop body n F1 H1=some (x,F',H')->VRs j1 F1 a1.tmps.toList->DefOk B w1 a1.defers->Step H.length j H w j1 H1 w1 ->
     Code.roundsIn (FW r) m P c (fun e a' w'=>∃x1 F1 H1 j',e=AX.toExit x1/\(x1=x/\F1=F'/\H1=H')/\VRs j' F1 a'.tmps.toList/\DefOk B w' a'.defers/\Step H.length j H w j' H1 w') n a1 w1:=by
   intro n;induction n with
   | zero=>intro F1 H1 j1 w1 a1 h;cases h
   | succ n ih =>
     intro F1 H1 j1 w1 a1 h hv hdf hst;unfold _root_.Go.Proofs.YtfhidaoiofeooaaGreatDoor.aloop at h;cases hbo:body F1 H1 with
     | none=>rw[hbo]at h;cases h
     | some r1 =>
       obtain⟨x1,F2,H2⟩:=r1;rw[hbo]at h;refine wpIn_mono (hb F1 H1 x1 F2 H2 hbo B j1 w1 a1 m (Nat.le_trans hB hst.keeps.size) hst.rel hv hdf) ?_;rintro e a2 w2 ⟨x',F3,H3,j2,rfl,⟨rfl,rfl,rfl⟩,g3,g4,g5⟩;have hst2:=hst.trans g5 hst.len;cases x' with
       | normal=>exact ih _ _ j2 w2 a2 h g3 g4 hst2
       | exit id=>cases h;exact⟨_,_,_,j2,rfl,⟨rfl,rfl,rfl⟩,g3,g4,hst2⟩
       | ret=>cases h;exact⟨_,_,_,j2,rfl,⟨rfl,rfl,rfl⟩,g3,g4,hst2⟩
 exact key n F H j w a h hF hd (Step.refl hR (qnZ _))
theorem Sim.len{P:Program}{r:Option Nat}{n0 n1:Nat}{c:Code}{F:List AV}{H:zA}{Q:AX->List AV->zA->Prop}(h:Sim P r n1 c F H Q)(hn:n0<=n1):Sim P r n0 c F H Q:=by
 intro B j w a m hB hR hF hd;refine wpIn_mono (h B j w a m hB hR hF hd) ?_;rintro e a' w' ⟨x,F',H',j',h1,h2,h3,h4,h5⟩;exact⟨x,F',H',j',h1,h2,h3,h4,h5.weaken hn⟩
theorem zQB{j:Inj}{H:zA}{w:World}(h:R j H w)(fn:FuncId){tmps:Array Value}(ps:Array Tmp)(asg body:Code){F:List AV}(hF:VRs j F tmps.toList) :
   Step H.length j H w (zBO j H.length ⟨w.heap.size+1,0,0⟩) (H++[.loop ps asg body .ready none F]) ((w.alloc (.deferred (some []))).alloc (zNa fn tmps ps asg body w.heap.size .ready none)):=by
 obtain⟨W1,hW⟩:∃W1,W1=(w.alloc (.deferred (some []))).alloc (zNa fn tmps ps asg body w.heap.size .ready none):=⟨_,rfl⟩
 rw[<-hW];have hh:W1.heap=(w.heap.push (.deferred (some []))).push (zNa fn tmps ps asg body w.heap.size .ready none):=by rw[hW];rfl
 have hos:W1.os=w.os:=by rw[hW];rfl
 have htape:W1.tape=w.tape:=by rw[hW];rfl
 have hout:W1.output=w.output:=by rw[hW];rfl
 clear hW;have hnone:j H.length=none:=h.dom _ (qnZ _);have hle:JLe j (zBO j H.length ⟨w.heap.size+1,0,0⟩):=zBb hnone;have hold:∀c,c<w.heap.size->W1.heap[c]? = w.heap[c]?:=fun c hc=>by
   rw[hh,Array.getElem?_push,if_neg (by simp;omega),Array.getElem?_push,if_neg (by omega)]
 have hnew:W1.heap[w.heap.size+1]? = some (zNa fn tmps ps asg body w.heap.size .ready none):=by
   rw[hh,Array.getElem?_push,if_pos (by simp)]
 have hcase:∀c y q,(H++[ABlk.loop ps asg body .ready none F])[c]? = some y->zBO j H.length ⟨w.heap.size+1,0,0⟩ c=some q->(c=H.length/\y=.loop ps asg body .ready none F/\q=⟨w.heap.size+1,0,0⟩)\/(c≠H.length/\H[c]? = some y/\j c=some q):=by
   intro c y q hc hq;rw[s7Z]at hc;split at hc <;> rename_i hlt
   · exact .inr ⟨by omega,hc,by rw[ZC,if_neg (by omega)]at hq;exact hq⟩
   · have hc0:c=H.length:=by
       rcases s2Z (c-H.length) 1 with h1 | h1
       · omega
       · rw[s4Z (by simpa using h1)]at hc;cases hc
     subst hc0;simp at hc;rw[zb]at hq;cases hq;exact .inl ⟨rfl,hc.symm,rfl⟩
 refine Step.make h ⟨?_,?_,?_⟩ ?_ (by simp) ⟨hos,htape,hout,by rw[hh];simp;omega,fun c hc _=>hold c hc⟩ ?_
 · intro b hb
   simp at hb;rw[ZC,if_neg (by omega)];exact h.dom b (by omega)
 · intro b x p hb hp
   rcases hcase b x p hb hp with⟨rfl,rfl,rfl⟩ | ⟨_,hb',hp'⟩
   · exact⟨fn,tmps,w.heap.size,hnew,VRs.mono hle _ _ hF⟩
   · exact (h.blk b x p hb' hp').mono hle fun hx=>hold _ (h.ltx hb' hx hp')
 · intro b b' y x p p' hb hy hb' hx hne hp hp'
   rcases hcase b y p hb hp with⟨rfl,rfl,rfl⟩ | ⟨e1,h1,h2⟩ <;> rcases hcase b' x p' hb' hp' with⟨rfl,rfl,rfl⟩ | ⟨e2,k1,k2⟩
   · exact absurd rfl hne
   · have:=h.ltx k1 hx k2;dsimp only;omega
   · have:=h.ltx h1 (Zj hy) h2;dsimp only;omega
   · exact h.inj b b' y x p p' h1 hy k1 hx hne h2 k2
 · intro b hb
   rw[ZC,if_neg (by omega)]
 · intro b y p hb hy hp
   rcases hcase b y p hb hp with⟨rfl,rfl,rfl⟩ | ⟨_,hb',hp'⟩
   · exact .inl ⟨by dsimp only;omega,rfl⟩
   · exact .same hb' hy hp' rfl rfl
theorem zSP{n:Nat}{P:Program}{g:Operand}{ps:Array Tmp}{assign body:Code}{Q:Exit->Act->World->Prop}{a:Act}{w:World}{gf:Nat}{lb:Array Value}
   (hg:a.eval g=.func (.func gf) #[] lb) (eg:∀args w,(callFunc gf args).run P w=.ok (.enter gf args) w)
   (h:∀fn W1,W1=(w.alloc (.deferred (some []))).alloc (zNa fn a.tmps ps assign body w.heap.size .ready none) ->
     Calls P gf (#[.func (.yield (w.heap.size+1)) #[] #[]]++lb) W1 fun e W2=>∃v rc,e=.returned v/\rc.state≠.busy/\W2.heap[w.heap.size+1]? = some (.loop rc) /\
       (match rc.pending with
       | none=>Q .normal { a with defers:=zFN w.heap.size::a.defers } (W2.putObj (w.heap.size+1) (.loop { rc with state:=.exhausted }))
       | some c=>c.wpIn Fence.wide n P Q { a with defers:=zFN w.heap.size::a.defers } (W2.putObj (w.heap.size+1) (.loop { rc with state:=.exhausted })))) :
   (Code.rangeFunc g ps assign body).wpIn Fence.wide n P Q a w:=by
 refine wpIn_rangeFunc ?_;intro fn _;obtain⟨W1,hW1⟩:∃W1,W1=(w.alloc (.deferred (some []))).alloc (zNa fn a.tmps ps assign body w.heap.size .ready none):=⟨_,rfl⟩
 refine ⟨w.heap.size+1,[zFN w.heap.size],W1,{ target:=.fn (.func gf) lb,args:=#[.func (.yield (w.heap.size+1)) #[] #[]] },W1,gf,
   #[.func (.yield (w.heap.size+1)) #[] #[]]++lb,W1,?_,?_,?_,?_,?_,?_⟩
 · rw[hW1];exact run_enterLoop_outer _ _ _ _ _
 · simp only[resolve,hg]
   simp[go_sem]
 · intro f' _;trivial
 · simp[invoke,go_sem,eg]
 · intro hd;cases hd
 · refine callsIn_wide.2 ((h fn W1 hW1).mono ?_)
   rintro e W2 ⟨v,rc,rfl,hst,hl,hq⟩;refine ⟨rc.pending,_,run_endLoop hl hst,?_⟩;cases hp:rc.pending with
   | none=>rw[hp]at hq;exact hq
   | some c=>rw[hp]at hq;exact hq
theorem zFL{P:Program}{Γ:Gam}(_hm:P.follows .mixedOrders=true)(hΓ:GOk P Γ)(r:Option Nat)(n:Nat)(q:Bool)(hqr:q=true->r=none){g:Operand}{ps:Array Tmp}{asg body:Code}{F F':List AV}{H H':zA}{x:AX}
   (h:zJ P Γ n q (.rangeFunc g ps asg body) F H=some (x,F',H')):Sim P r H.length (.rangeFunc g ps asg body) F H fun x1 F1 H1=>x1=x/\F1=F'/\H1=H':=by
 simp only[zJ]at h;split at h;rotate_left
 · cases h
 rename_i hq;have:=hqr hq;subst this;split at h;rotate_left
 · cases h
 rename_i gf cap hg;split at h
 · cases h
 rename_i hne;split at h;rotate_left
 · cases h
 rename_i v H1 W hcall;intro B j w a m hB hR hF hd;have hs:=hΓ.1 gf hne ⟨_,_,_,hcall⟩;have hgv:=zQ hF g;rw[hg]at hgv;simp only[VR]at hgv;obtain⟨cx,cy,hgv,h1,h2⟩:=hgv;have hcx:cx=#[]:=by apply Array.ext';simpa[VRs] using h1
 subst hcx;refine zSP (n:=m) hgv hs.enter fun fn W1 hW1=>?_;have st1:=zQB hR fn ps asg body hF;rw[<-hW1]at st1;have hle:=st1.jle hR (qnZ _);refine (hs.ct _ _ _ _ _ hcall _ W1 _ st1.rel ?_).mono ?_
 · rw[rxZ]
   exact⟨_,_,rfl,⟨_,zb _ _ _,rfl⟩,VRs.mono hle _ _ h2⟩
 rintro e W2 ⟨cv,j2,rfl,_,st2⟩;have hj2:j2 H.length=some ⟨w.heap.size+1,0,0⟩:=by rw[st2.ext _ (by simp)];exact zb _ _ _
 have key:∀ps' asg' body' st pe F1,H1[H.length]? = some (.loop ps' asg' body' st pe F1)->st≠.busy->∃rc:Loop,rc.state=st/\rc.pending=pe/\W2.heap[w.heap.size+1]? = some (.loop rc) /\
     Step H.length j H w j2 (H1.set H.length .dead) (W2.putObj (w.heap.size+1) (.loop { rc with state:=.exhausted })) /\
     DefOk B (W2.putObj (w.heap.size+1) (.loop { rc with state:=.exhausted })) (zFN w.heap.size::a.defers):=by
   intro ps' asg' body' st pe F1 hl hst;obtain⟨fn',tmps',D',g1,g2⟩:=st2.rel.blk H.length _ _ hl hj2;have st3:=zAw (o:=.loop { ({ state:=st,pending:=pe,fn:=fn',tmps:=tmps',params:=ps',assign:=asg',body:=body',defers:=D' }:Loop) with state:=.exhausted }) st2.rel hl rfl hj2 (.inl rfl) trivial;have st12:=st1.trans st2 (by simp);have stA:=st12.trans st3 (by have:=st2.len;simp at this;omega);refine ⟨_,rfl,rfl,g1,stA,?_⟩;have hd1:DefOk B W1 (zFN w.heap.size::a.defers):=by
     obtain⟨Ds,e1,e2,e3⟩:=hd;refine ⟨w.heap.size::Ds,by rw[e1];rfl,rdZ.2 ⟨fun hm=>?_,e2⟩,fun D hD=>?_⟩
     · have:=(qtZ.1 (e3 _ hm).2).1
       omega
     · rcases qwZ.1 hD with rfl | hD
       · refine ⟨hB,?_⟩
         rw[hW1];show ((w.heap.push (.deferred (some []))).push _)[w.heap.size]? = _;rw[Array.getElem?_push,if_neg (by simp),Array.getElem?_push,if_pos rfl]
       · refine ⟨(e3 D hD).1,?_⟩
         have:=(qtZ.1 (e3 D hD).2).1;rw[st1.keeps.block D this ?_]
         · exact (e3 D hD).2
         intro ho;have h9:=(e3 _ hD).2;obtain⟨o,k1,k2⟩:=hR.nd ho.tch;rw[k1]at h9;cases h9;exact k2 _ rfl
   exact (hd1.step st1.rel st2).step st2.rel st3
 have fin:∀(st:LoopState) (pe:Option Code) (e:AX),st≠.busy->(∃ps' asg' body' F1,H1[H.length]? = some (.loop ps' asg' body' st pe F1))->(match pe with | none=>e=.normal | some .ret=>e=.ret | some (.exit id)=>e=.exit id | _=>False)->some (e,F,H1.set H.length .dead)=some (x,F',H')->∃v rc,Ending.returned cv=.returned v/\rc.state≠.busy/\W2.heap[w.heap.size+1]? = some (.loop rc) /\
       (match rc.pending with
       | none=>(fun e a' w'=>∃x1 F1 H1 j',e=AX.toExit x1/\(x1=x/\F1=F'/\H1=H')/\VRs j' F1 a'.tmps.toList/\DefOk B w' a'.defers/\Step H.length j H w j' H1 w') Exit.normal { a with defers:=zFN w.heap.size::a.defers } (W2.putObj (w.heap.size+1) (.loop { rc with state:=.exhausted }))
       | some c=>c.wpIn Fence.wide m P (fun e a' w'=>∃x1 F1 H1 j',e=AX.toExit x1/\(x1=x/\F1=F'/\H1=H')/\VRs j' F1 a'.tmps.toList/\DefOk B w' a'.defers/\Step H.length j H w j' H1 w') { a with defers:=zFN w.heap.size::a.defers } (W2.putObj (w.heap.size+1) (.loop { rc with state:=.exhausted }))):=by
   rintro st pe e hst ⟨ps',asg',body',F1,hl⟩ hpe heq;cases heq;obtain⟨rc,e1,e2,e3,e4,e5⟩:=key ps' asg' body' st pe F1 hl hst;refine ⟨_,rc,rfl,by rw[e1];exact hst,e3,?_⟩;rw[e2]at e4 e5 ⊢;have hF':VRs j2 F a.tmps.toList:=VRs.mono (e4.jle hR (qnZ _)) _ _ hF;split at hpe
   · subst hpe
     exact⟨.normal,_,_,j2,rfl,⟨rfl,rfl,rfl⟩,hF',e5,e4⟩
   · subst hpe
     exact wpIn_ret ⟨.ret,_,_,j2,rfl,⟨rfl,rfl,rfl⟩,hF',e5,e4⟩
   · subst hpe
     exact wpIn_exit ⟨.exit _,_,_,j2,rfl,⟨rfl,rfl,rfl⟩,hF',e5,e4⟩
   · exact hpe.elim
 split at h <;> first | (cases h;done) | skip
 · rename_i hb hl
   exact fin _ _ .normal (fun e=>hb e) ⟨_,_,_,_,hl⟩ rfl h
 · rename_i hb hl
   exact fin _ _ .ret (fun e=>hb e) ⟨_,_,_,_,hl⟩ rfl h
 · rename_i hb hl
   exact fin _ _ (.exit _) (fun e=>hb e) ⟨_,_,_,_,hl⟩ rfl h
theorem zAI{P:Program}{Γ:Gam}(hm:P.follows .mixedOrders=true)(hΓ:GOk P Γ)(r:Option Nat)(n:Nat)(q:Bool)(hqr:q=true->r=none):∀(c:Code) (F F':List AV) (H H':zA) (x:AX),zJ P Γ n q c F H=some (x,F',H') ->
   Sim P r H.length c F H fun x1 F1 H1=>x1=x/\F1=F'/\H1=H'
 | .skip,F,F',H,H',x,h=>fun B j w a m hB hR hF hd=>by
   simp only[zJ]at h;cases h;exact wpIn_skip ⟨.normal,F,H,j,rfl,⟨rfl,rfl,rfl⟩,hF,hd,Step.refl hR (qnZ _)⟩
 | .label l,F,F',H,H',x,h=>fun B j w a m hB hR hF hd=>by
   simp only[zJ]at h;cases h;exact wpIn_label ⟨.normal,F,H,j,rfl,⟨rfl,rfl,rfl⟩,hF,hd,Step.refl hR (qnZ _)⟩
 | .region id ops false,F,F',H,H',x,h=>fun B j w a m hB hR hF hd=>by
   simp only[zJ]at h;obtain⟨⟨F1,H1⟩,h1,e⟩:=qlZ.1 h;cases e;refine wpIn_region_list (zGm hΓ r m ops.toList F F' H H' j w a h1 hR hF _ rfl fun j' w' a' g1 g2 g3=>?_);exact⟨.normal,F',H',j',rfl,⟨rfl,rfl,rfl⟩,g1,by rw[g2];exact hd.step hR g3,g3⟩
 | .region id ops true,F,F',H,H',x,h=>fun B j w a m hB hR hF hd=>by
   simp only[zJ]at h;obtain⟨⟨F1,H1⟩,h1,e⟩:=qlZ.1 h;cases e;refine wpIn_region_any hm (zOu (w0:={ w with drawn:=w.drawn+1 }) hΓ h1 (hR.heapEq rfl) hF rfl r m fun j' a' w' g1 g2 g3=>?_);exact⟨.normal,F',H',j',rfl,⟨rfl,rfl,rfl⟩,g1,by rw[g2];exact hd.step hR (zCe g3),zCe g3⟩
 | .seq c d,F,F',H,H',x,h=>by
   simp only[zJ]at h;refine Sim.seq ?_;cases hc:zJ P Γ n q c F H with
   | none=>rw[hc]at h;cases h
   | some r1 =>
     obtain⟨x1,F1,H1⟩:=r1;rw[hc]at h;refine (zAI hm hΓ r n q hqr c F F1 H H1 x1 hc).mono ?_;rintro x2 F2 H2 hl ⟨rfl,rfl,rfl⟩;cases x2 with
     | normal=>exact (zAI hm hΓ r n q hqr d _ _ _ _ _ h).len hl
     | exit id=>cases h;exact⟨rfl,rfl,rfl⟩
     | ret=>cases h;exact⟨rfl,rfl,rfl⟩
 | .cond c t e,F,F',H,H',x,h=>by
   simp only[zJ]at h;split at h
   · rename_i b hb
     refine Sim.cond hb ?_;cases b with
     | true=>exact zAI hm hΓ r n q hqr t _ _ _ _ _ h
     | false=>exact zAI hm hΓ r n q hqr e _ _ _ _ _ h
   · cases h
 | .block id c,F,F',H,H',x,h=>by
   simp only[zJ]at h;refine Sim.block ?_;cases hc:zJ P Γ n q c F H with
   | none=>rw[hc]at h;cases h
   | some r1 =>
     obtain⟨x1,F1,H1⟩:=r1;rw[hc]at h;refine (zAI hm hΓ r n q hqr c F F1 H H1 x1 hc).mono ?_;rintro x2 F2 H2 _ ⟨rfl,rfl,rfl⟩;cases x2 with
     | normal=>cases h;exact⟨rfl,rfl,rfl⟩
     | exit id' =>
       dsimp only at h ⊢;split at h
       · rename_i e;rw[if_pos e];cases h;exact⟨rfl,rfl,rfl⟩
       · rename_i e;rw[if_neg e];cases h;exact⟨rfl,rfl,rfl⟩
     | ret=>cases h;exact⟨rfl,rfl,rfl⟩
 | .loop c,F,F',H,H',x,h=>by
   simp only[zJ]at h;exact Sim.aloop _ (fun F1 H1 x1 F2 H2 h1=>zAI hm hΓ r n q hqr c F1 F2 H1 H2 x1 h1) n F H x F' H' h
 | .exit id,F,F',H,H',x,h=>fun B j w a m hB hR hF hd=>by
   simp only[zJ]at h;cases h;exact wpIn_exit ⟨.exit id,F,H,j,rfl,⟨rfl,rfl,rfl⟩,hF,hd,Step.refl hR (qnZ _)⟩
 | .ret,F,F',H,H',x,h=>fun B j w a m hB hR hF hd=>by
   simp only[zJ]at h;cases h;exact wpIn_ret ⟨.ret,F,H,j,rfl,⟨rfl,rfl,rfl⟩,hF,hd,Step.refl hR (qnZ _)⟩
 | .rangeFunc g ps asg body,F,F',H,H',x,h=>zFL hm hΓ r n q hqr h
 | .scope c,F,F',H,H',x,h=>by
   simp only[zJ]at h;exact Sim.scope (zAI hm hΓ r n q hqr c F F' H H' x h)
 | .goto _,_,_,_,_,_,h=>by simp[zJ]at h
 | .refuse _,_,_,_,_,_,h=>by simp[zJ]at h
theorem Sim.exec{P:Program}{Γ:Gam}(hm:P.follows .mixedOrders=true)(hΓ:GOk P Γ){r:Option Nat}{n0 n:Nat}{c:Code}{F F':List AV}{H H':zA}{x:AX}{Q:AX->List AV->zA->Prop}(h:zJ P Γ n r.isNone c F H=some (x,F',H'))(hn:n0<=H.length)(hq:Q x F' H'):Sim P r n0 c F H Q :=
 ((zAI hm hΓ r n r.isNone (by cases r <;> simp) c F F' H H' x h).len hn).mono fun x1 F1 H1 _ ⟨e1,e2,e3⟩=>by rw[e1,e2,e3];exact hq
end
end Go.Proofs.YtfhidaoiofeooaaGreatDoor
