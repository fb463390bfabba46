/- Parts of the proof of SweepTells: lemmas, each with its own conditions. -/
import Derived.Test.YtfhidaoiofeooaaGreatDoorY3
set_option maxHeartbeats 64000000
open List renaming getElem?_eq_some_iff → q1Z, getD_eq_getElem?_getD → q2Z, getElem?_eq_getElem → q3Z, getElem?_append_left → q4Z, getElem?_append_right → q5Z, take_of_length_le → q6Z, length_cons → q7Z, cons_append → q9Z, nil_append → qaZ, replicate → qbZ, mem_of_getElem? → qcZ, length_append → qdZ, append_assoc → qeZ, mem_cons_self → qhZ, mem_cons_of_mem → qiZ, length_take → qjZ, length_drop → qkZ, mem_cons → qwZ, getElem?_map → qzZ, getElem_mem → r3Z, getElem?_take → r4Z, getElem?_drop → r5Z, take_append_drop → r6Z, length_map → r7Z, getElem?_cons_succ → r9Z, getElem?_cons_zero → raZ, mem_map → reZ, getElem?_range → rfZ, replicate_succ → rvZ, length_replicate → rwZ, map_cons → s1Z, getElem?_eq_none → s4Z, all_eq_true → s5Z, mem_filter → sbZ, drop_append → sdZ, take_append → seZ
open Option renaming map_eq_some_iff → qlZ, getD_some → rgZ, map_some → rhZ, bind_eq_some_iff → s6Z
open Nat renaming le_refl → qnZ, zero_le → qqZ, lt_or_ge → s2Z, zero_add → s8Z, min_eq_left → sfZ
open Bool renaming and_eq_true → qrZ, false_eq_true → qsZ
open Array renaming getElem?_eq_some_iff → qtZ, getElem?_eq_getElem → quZ, getD_eq_getD_getElem? → qvZ, getElem?_toList → riZ, length_toList → rjZ, toList_append → rxZ
namespace Go.Proofs.YtfhidaoiofeooaaGreatDoor
set_option maxRecDepth 100000
def zM(o:Oper):Oper:={ o with op:=(match o.dst with | some d=>.move (.tmp d) | none=>.move (.const (.bool false))),after:=#[],guard:=none }
def zF(ops:Array Oper)(c c':Nat):Array Oper:=((ops.toList.take c).map zM++(ops.toList.drop c).take (c'-c)).toArray
theorem zEn{ops:Array Oper}{c c':Nat}(h:c<=c')(h':c'<=ops.size):(zF ops c c').size=c':=by
 unfold zF;simp;omega
theorem zCX{ops:Array Oper}{c c' i:Nat}(h:c<=c')(h':c'<=ops.size)(hi:i<c):(zF ops c c')[i]? = (ops[i]?).map zM:=by
 unfold zF;simp only[List.getElem?_toArray];rw[q4Z (by simp;omega),qzZ,r4Z,if_pos hi,riZ]
theorem zBz{ops:Array Oper}{c c' i:Nat}(h:c<=c')(h':c'<=ops.size)(hi:c<=i)(hi':i<c'):(zF ops c c')[i]? = ops[i]?:=by
 unfold zF;simp only[List.getElem?_toArray];rw[q5Z (by simp;omega),r4Z,if_pos (by simp;omega),r5Z,riZ]
 congr 1
 simp;omega
theorem zI7{ops:Array Oper}{c c' i:Nat}(h:c<=c')(h':c'<=ops.size)(hi:i<c'):((zF ops c c')[i]?).bind (·.dst)=(ops[i]?).bind (·.dst):=by
 rcases s2Z i c with h1 | h1
 · rw[zCX h h' h1]
   cases ops[i]? <;> rfl
 · rw[zBz h h' h1 hi]
theorem zR6(F:List AV)(d:Nat):F.set d (F.getD d zV)=F:=by
 rcases s2Z d F.length with h | h
 · rw[q2Z,q3Z h]
   simp
 · exact List.set_eq_of_length_le h
theorem zAE(P:Program)(Γ:Gam)(ops:Array Oper)(F:List AV)(H:zA)(o:Oper):∃v,zDd P Γ ops F H (zM o)=some ⟨v,H,none,none,false,false,false⟩/\ZW F (zM o).dst v=F/\∀d,o.dst=some d->v=F.getD d zV:=by
 rw[zFX];unfold zAb;have hw:zAM ops (zM o) F=some true:=rfl;rw[hw];dsimp only;cases hd:o.dst with
 | none =>
   have e:(zM o).op=.move (.const (.bool false)):=by simp[zM,hd]
   rw[e];refine ⟨_,rfl,?_,fun d h=>by cases h⟩;simp[zM,hd,ZW]
 | some d =>
   have e:(zM o).op=.move (.tmp d):=by simp[zM,hd]
   rw[e];refine ⟨F.getD d zV,rfl,?_,fun d' h=>by cases h;rfl⟩;simp only[zM,hd,ZW];exact zR6 F d
def lst(n c:Nat):Array Bool:=Array.replicate c true++Array.replicate (n-c) false
theorem zm(n c k:Nat):(lst n c).getD k false=decide (k<c):=by
 unfold lst;rw[qvZ,Array.getElem?_append];simp only[Array.size_replicate];split
 · rename_i h
   rw[Array.getElem?_replicate,if_pos h];simp[h]
 · rename_i h
   rw[Array.getElem?_replicate];split <;> simp[h]
theorem zAV{n c:Nat}(h:c<=n):(lst n c).size=n:=by simp[lst];omega
def Cut(ops:Array Oper)(c':Nat):Prop:=c'<=ops.size/\(∀k,c'<=k->k<ops.size->∀m,m<c'->((Zl ops.toList).getD k 0).testBit m=true)/\∀(i:Nat) o j want,i<c'->ops[i]? = some o->o.guard=some (j,want)->j<c'
theorem zFp{a b:Array Bool}(hs:a.size=b.size)(h:∀k,a.getD k false=b.getD k false):a=b:=by
 apply Array.ext hs;intro i h1 h2;have:=h i;rw[qvZ,qvZ,quZ h1,quZ h2]at this;simpa using this
theorem zD3{ops:Array Oper}{listed:Array Bool}(hc:∀(k:Nat) o e,listed.getD k false=true->ops[k]? = some o->e∈o.after.toList->Region.binds .any e=true->listed.getD e.on false=true){i:Nat}(hi:i∈Region.ready .any ops listed) :
   ∀m,((Zl ops.toList).getD i 0).testBit m=true->listed.getD m false=true:=by
 obtain⟨h1,h2,o,ho,he⟩:=ready_iff.1 hi;exact ZZ (D:=fun k=>listed.getD k false=true) (fun k o e hk hok=>hc k o e hk (by simpa using hok)) i o (by simpa using ho) he
theorem zMc{P:Program}{Γ:Gam}(hΓ:GOk P Γ){ops:Array Oper}{c c':Nat}(hcc:c<=c')(hcut:Cut ops c'){F0 F':List AV}{H0 H':zA}(hd:zT P Γ (zF ops c c') F0 H0=some (F',H')){j0:Inj}{w0:World}{a0:Act}(hR:R j0 H0 w0)(hF:VRs j0 F0 a0.tmps.toList){ds:List Deferred}(hdf:a0.defers=ds)
   (r:Option Nat) (n:Nat) {Q:Exit->Act->World->Prop} (hq:∀j a w,VRs j F' a.tmps.toList->a.defers=ds->Step H0.length j0 H0 w0 j H' w->wpAnyIn (FW r) n P .any ops Q (ops.size-c') (lst ops.size c') a w)
   (hclosed:∀(k:Nat) o e,k<c->ops[k]? = some o->e∈o.after.toList->Region.binds .any e=true->e.on<c) :
   wpAnyIn (FW r) n P .any ops Q (ops.size-c) (lst ops.size c) a0 w0:=by
 obtain⟨hsz,hbits,hguard⟩:=hcut;obtain⟨qs,Fs,Hs,T,rfl,rfl⟩:=zSQ hd;have hvs:=zEn hcc hsz;have hFl:F0.length=a0.tmps.size:=by simpa using hF.length
 have low:∀k,k<=c->Fs k=F0/\Hs k=H0:=by
   intro k;induction k with
   | zero=>exact fun _=>⟨T.f0,T.h0⟩
   | succ k ih =>
     intro hk;obtain⟨e1,e2⟩:=ih (by omega);have ho:(zF ops c c')[k]? = some (zM ops[k]):=by rw[zCX hcc hsz (by omega),quZ (by omega)];rfl
     obtain⟨q,hq1⟩:=T.q ho;obtain⟨s1,s2,s3⟩:=T.each k _ q ho hq1;obtain⟨v,g1,g2,_⟩:=zAE P Γ (zF ops c c') (Fs k) (Hs k) ops[k];rw[g1]at s1;cases s1;exact⟨by rw[s2,g2,e1],by rw[s3,e2]⟩
 have lowq:∀k o q,k<c->(zF ops c c')[k]? = some o->qs[k]? = some q->q.st=none/\∀d,o.dst=some d->q.v=F0.getD d zV:=by
   intro k o q hk ho hqk;have ho':=ho;rw[zCX hcc hsz hk,quZ (by omega)]at ho;cases ho;obtain⟨s1,s2,s3⟩:=T.each k _ q ho' hqk;obtain⟨v,g1,g2,g3⟩:=zAE P Γ (zF ops c c') (Fs k) (Hs k) ops[k];rw[g1]at s1;cases s1;refine ⟨rfl,fun d hd=>?_⟩;rw[<-(low k (by omega)).1];exact g3 d hd
 have done:∀(D:Nat->Prop) σ a j w,DI ds j0 F0 H0 w0 (zF ops c c') qs Hs D σ a j w->(∀i,i<c'->D i)->VRs j (Fs (zF ops c c').size) a.tmps.toList/\a.defers=ds/\Step H0.length j0 H0 w0 j ((qs.filterMap (·.st)).foldl zAa (Hs (zF ops c c').size)) w:=by
   intro D σ a j w h hall;rw[<-hvs]at hall;refine ⟨?_,h.defers,?_⟩
   · refine VRs_iff.2 ⟨by rw[T.flen _ (qnZ _)];simpa using h.size,fun t x v hx hv=>?_⟩
     have hv':a.tmps[t]? = some v:=by simpa using hv
     rcases T.slot t x _ (qnZ _) hx with⟨i,o,q,h1,h2,h3,h4,rfl⟩ | ⟨h1,h2⟩
     · exact h.set i o q t v (hall i h1) h2 h3 h4 hv'
     · exact h.old t x v (fun k o _ hok=>h1 k o (qtZ.1 hok).1 hok) h2 hv'
   · have hperm:σ.Perm ((List.range qs.length).filter fun k=>((qs[k]?).bind (·.st)).isSome):=by
       refine (List.perm_ext_iff_of_nodup h.nodup (List.nodup_range.sublist List.filter_sublist)).2 fun k=>?_;rw[h.sig k,sbZ,List.mem_range,T.len];constructor
       · rintro⟨h1,_,q,h2,h3⟩
         exact⟨h1,by rw[h2];exact h3⟩
       · rintro⟨h1,h2⟩
         obtain⟨q,hq'⟩:∃q,qs[k]? = some q:=⟨_,q3Z (by rw[T.len];exact h1)⟩
         rw[hq']at h2;exact⟨h1,hall k h1,q,hq',h2⟩
     have hp2:=hperm.filterMap (fun k=>(qs[k]?).bind (·.st))
     have e1:((List.range qs.length).filter fun k=>((qs[k]?).bind (·.st)).isSome).filterMap (fun k=>(qs[k]?).bind (·.st))=qs.filterMap (·.st):=by
       rw[<-zBN (·.st) qs,List.filterMap_filter]
       congr 1
       funext k
       cases hk:(qs[k]?).bind (·.st) <;> simp
     rw[e1]at hp2;have hcomm:=hp2.foldl_eq' (f:=zAa) (fun x hx y hy z=>by
       obtain⟨i,hi,ei⟩:=List.mem_filterMap.1 hx;obtain⟨k,hk,ek⟩:=List.mem_filterMap.1 hy;obtain⟨qi,hqi,si⟩:=s6Z.1 ei;obtain⟨qk,hqk,sk⟩:=s6Z.1 ek;have hil:=(h.sig i).1 hi;have hkl:=(h.sig k).1 hk;obtain⟨oi,hoi⟩:∃oi,(zF ops c c')[i]? = some oi:=⟨_,quZ hil.1⟩
       obtain⟨ok,hok⟩:∃ok,(zF ops c c')[k]? = some ok:=⟨_,quZ hkl.1⟩
       rcases Nat.lt_trichotomy i k with h1 | h1 | h1
       · have:=T.pairs i k oi ok qi qk h1 hoi hok hqi hqk
         unfold ZB at this;rw[si,sk]at this;simp only[qrZ]at this;exact zDj z this.1.1.2.2
       · subst h1
         rw[hqi]at hqk;cases hqk;rw[si]at sk;cases sk;rfl
       · have:=T.pairs k i ok oi qk qi h1 hok hoi hqk hqi
         unfold ZB at this;rw[si,sk]at this;simp only[qrZ]at this;exact (zDj z this.1.1.2.2).symm) (Hs (zF ops c c').size)
     rw[<-hcomm];exact h.step
 have way:∀u (listed:Array Bool) σ a j w,listed.size=ops.size->nf (listed.toList.take c')=u->(∀k,c'<=k->listed.getD k false=false)->(∀k,k<c->listed.getD k false=true)->DI ds j0 F0 H0 w0 (zF ops c c') qs Hs (fun i=>listed.getD i false=true) σ a j w ->
     (∀(k:Nat) o e,listed.getD k false=true->ops[k]? = some o->e∈o.after.toList->Region.binds .any e=true->listed.getD e.on false=true)->wpAnyIn (FW r) n P .any ops Q (ops.size-c'+u) listed a w:=by
   intro u;induction u with
   | zero =>
     intro listed σ a j w hs hnf hhi hlo h _;have hall:∀i,i<c'->listed.getD i false=true:=by
       intro i hi;have:=zFE (listed.toList.take c') hnf i;rw[r4Z,if_pos hi,riZ]at this;rw[qvZ];have hli:listed[i]? = some listed[i]:=quZ (by omega);rw[hli]at this ⊢;cases hb:listed[i] with
       | true=>rfl
       | false=>exact absurd (by rw[hb]) this
     have e:listed=lst ops.size c':=by
       refine zFp (by rw[hs,zAV hsz]) fun k=>?_;rw[zm];rcases s2Z k c' with h1 | h1
       · rw[hall k h1];simp[h1]
       · rw[hhi k h1];simp;exact h1
     rw[e];obtain⟨d1,d2,d3⟩:=done _ σ a j w h hall;exact hq j a w d1 d2 d3
   | succ u ih =>
     intro listed σ a j w hs hnf hhi hlo h hc;have hun:∃i,i<c'/\listed.getD i false=false:=by
       refine Classical.byContradiction fun hno=>?_;have hall:∀b∈listed.toList.take c',b=true:=by
         intro b hb;obtain⟨i,hi⟩:=List.getElem?_of_mem hb;rw[r4Z]at hi;split at hi
         · rename_i hlt
           cases hbb:b with
           | true=>rfl
           | false =>
             exfalso;refine hno ⟨i,hlt,?_⟩;rw[qvZ];rw[riZ]at hi;rw[hi,hbb];rfl
         · cases hi
       have:∀l:List Bool,(∀b∈l,b=true)->nf l=0:=by
         intro l;induction l with
         | nil=>intro _;rfl
         | cons b l ihl =>
           intro hl;have h1:=hl b (qhZ ..);subst h1;have h2:=ihl fun b hb=>hl b (qiZ _ hb);simpa[nf] using h2
       rw[this _ hall]at hnf;cases hnf
     obtain⟨i0,hi0,hli0⟩:=hun;have hready:Region.ready .any ops listed≠[]:=by
       intro hnil;have:∀i,i<c'->listed.getD i false=true:=by
         intro i;induction i using Nat.strongRecOn with
         | _ i ihi =>
           intro hi;cases hb:listed.getD i false with
           | true=>rfl
           | false =>
             exfalso;have hic:c<=i:=by
               rcases s2Z i c with h1 | h1
               · rw[hlo i h1]at hb;cases hb
               · exact h1
             have:i∈Region.ready .any ops listed:=by
               refine ready_iff.2 ⟨by omega,?_,ops[i],quZ (by omega),fun e he hbe=>?_⟩
               · rw[qvZ,quZ (show i<listed.size by omega)]at hb ⊢
                 exact hb
               · have ho:(zF ops c c')[i]? = some ops[i]:=by rw[zBz hcc hsz hic hi];exact quZ (by omega)
                 have hlt:=T.edges i _ e ho he hbe;exact ihi e.on hlt (by omega)
             rw[hnil]at this;cases this
       rw[this i0 hi0]at hli0;cases hli0
     rw[show ops.size-c'+(u+1)=(ops.size-c'+u)+1 by omega];refine ⟨fun hnil=>absurd hnil hready,fun i hi=>?_⟩;obtain⟨h1,h2,o,ho,he⟩:=ready_iff.1 hi;have hi':i<c':=by
       rcases s2Z i c' with h3 | h3
       · exact h3
       · exfalso
         have:=zD3 hc hi i0 (hbits i h3 h1 i0 hi0);rw[this]at hli0;cases hli0
     have hli:listed[i]? = some false:=by
       rw[qvZ,quZ (show i<listed.size by omega)]at h2;rw[quZ (show i<listed.size by omega)];simpa using h2
     have hic:c<=i:=by
       rcases s2Z i c with h3 | h3
       · have:=hlo i h3
         rw[qvZ,hli]at this;cases this
       · exact h3
     have hoV:(zF ops c c')[i]? = some o:=by rw[zBz hcc hsz hic hi'];exact ho
     have hset:∀k,(listed.setIfInBounds i true).getD k false=true↔(listed.getD k false=true\/k=i):=by
       intro k;rw[qvZ,qvZ,Array.getElem?_setIfInBounds];by_cases e:i=k
       · subst e
         rw[if_pos rfl,if_pos (by omega)];simp
       · rw[if_neg e]
         constructor
         · exact fun h=>.inl h
         · rintro (h | h)
           · exact h
           · exact absurd h.symm e
     have hcV:∀(k:Nat) o e,listed.getD k false=true->(zF ops c c')[k]? = some o->e∈o.after.toList->Region.binds .any e=true->listed.getD e.on false=true:=by
       intro k o' e hk hok hee hbe;rcases s2Z k c with h3 | h3
       · rw[zCX hcc hsz h3]at hok
         obtain⟨o2,_,rfl⟩:=qlZ.1 hok;simp[zM]at hee
       · have hk':k<c':=by rw[<-hvs];exact (qtZ.1 hok).1
         rw[zBz hcc hsz h3 hk']at hok;exact hc k o' e hk hok hee hbe
     have key:=h.go hΓ T hoV (by rw[qvZ,hli];simp) hcV he r n (Q:=Q) (K:=wpAnyIn (FW r) n P .any ops Q (ops.size-c'+u) (listed.setIfInBounds i true)) fun σ' a' j' w' h'=>?_
     · unfold wpOpIn at key ⊢
       rw[hoV]at key;rw[ho];dsimp only at key ⊢;have ew:Region.wanted o (yielded ops a.tmps)=Region.wanted o (yielded (zF ops c c') a.tmps):=by
         unfold Region.wanted;split
         · rfl
         · rename_i j' want hg
           have hj:=hguard i o j' want hi' ho hg;have ed:=zI7 hcc hsz hj;unfold yielded;rw[ed]
       rw[ew];exact key
     · refine ih _ σ' a' j' w' (by simpa using hs) ?_ ?_ ?_ ?_ ?_
       · have:=zIQ (listed.toList.take c') i (by rw[r4Z,if_pos hi'];simpa using hli)
         rw[Array.toList_setIfInBounds,List.take_set];omega
       · intro k hk
         have h3:¬((listed.setIfInBounds i true).getD k false=true):=by
           rw[hset,hhi k hk];simp;omega
         simpa using h3
       · intro k hk
         rw[hset];exact .inl (hlo k hk)
       · have e:(fun k=>listed.getD k false=true\/k=i)=fun k=>(listed.setIfInBounds i true).getD k false=true:=by
           funext k;exact propext (hset k).symm
         rw[<-e];exact h'
       · intro k o' e hk hok hee hbe
         rw[hset]at hk ⊢;rcases hk with hk | rfl
         · exact .inl (hc k o' e hk hok hee hbe)
         · rw[ho]at hok
           cases hok;exact .inl (he e hee hbe)
 have hl0:=T.heap hΓ (zF ops c c').size (qnZ _) 0 (by omega);rw[T.h0]at hl0;have hnf:nf ((lst ops.size c).toList.take c')=c'-c:=by
   unfold lst;rw[rxZ,Array.toList_replicate,Array.toList_replicate,seZ,q6Z (by simp;omega),List.take_replicate,rwZ];have:∀(m k:Nat),nf (qbZ m true++qbZ k false)=k:=by
     intro m k;induction m with
     | zero=>simpa using zBY k
     | succ m ih=>rw[rvZ,q9Z];simpa[nf] using ih
   rw[this];omega
 have e0:ops.size-c=ops.size-c'+(c'-c):=by omega
 rw[e0];refine way (c'-c) _ [] a0 j0 w0 (zAV (by omega)) hnf (fun k hk=>by rw[zm];simp;omega) (fun k hk=>by rw[zm];simpa using hk) ⟨?_,fun b p hp=>.inl ?_,hFl,fun k o q t v hk ho hqk hdt hv=>?_,fun t x v _ hx hv=>?_,fun k=>?_,by simp,fun k hk=>by simp at hk,hdf⟩ (fun k o e hk ho hee hbe=>?_)
 · exact Step.shows hR hl0.1 hl0.2 (qnZ _)
 · rcases s2Z b H0.length with h1 | h1
   · exact h1
   · rw[hR.dom b h1]at hp;cases hp
 · rw[zm]at hk
   have hkc:k<c:=by simpa using hk
   rw[(lowq k o q hkc ho hqk).2 t hdt];have htl:t<F0.length:=by rw[hFl];exact (qtZ.1 hv).1
   refine (VRs_iff.1 hF).2 t _ v ?_ (by simpa using hv);rw[q2Z,q3Z htl];rfl
 · exact (VRs_iff.1 hF).2 t x v hx (by simpa using hv)
 · constructor
   · intro hk;simp at hk
   · rintro⟨hk1,hk,q,hqk,hst⟩
     rw[zm]at hk;have hkc:k<c:=by simpa using hk
     rw[(lowq k _ q hkc (quZ hk1) hqk).1]at hst;cases hst
 · rw[zm]at hk ⊢
   have hkc:k<c:=by simpa using hk
   simpa using hclosed k o e hkc ho hee hbe
section
theorem zJk{P:Program}{Γ:Gam}(hΓ:GOk P Γ){ops:Array Oper}{c:Nat}{o:Oper}(ho:ops[c]? = some o)(hcut:Cut ops (c+1)){F0:List AV}{H0:zA}{j0:Inj}{w0:World}{a0:Act}(hR:R j0 H0 w0)(hF:VRs j0 F0 a0.tmps.toList){ds:List Deferred}(hdf:a0.defers=ds)
   (hedge:∀(k:Nat) o e,ops[k]? = some o->e∈o.after.toList->Region.binds .any e=true->e.on<k)
   (r:Option Nat) (n:Nat) {Q:Exit->Act->World->Prop} {F':List AV} {H':zA}
   (hrun:(zAM ops o F0=some false/\F'=ZW F0 o.dst zV/\H'=H0)\/(zAM ops o F0=some true/\∃v,opA P Γ F0 H0 o.op=some (v,H')/\F'=ZW F0 o.dst v))
   (hq:∀j a w,VRs j F' a.tmps.toList->a.defers=ds->Step H0.length j0 H0 w0 j H' w->wpAnyIn (FW r) n P .any ops Q (ops.size-(c+1)) (lst ops.size (c+1)) a w) :
   wpAnyIn (FW r) n P .any ops Q (ops.size-c) (lst ops.size c) a0 w0:=by
 have hc:c<ops.size:=(qtZ.1 ho).1;have hls:(lst ops.size c).size=ops.size:=zAV (by omega);have hcl:∀(k:Nat) o e,(lst ops.size c).getD k false=true->ops[k]? = some o->e∈o.after.toList->Region.binds .any e=true->(lst ops.size c).getD e.on false=true:=by
   intro k o e hk hok he hb;rw[zm]at hk ⊢;have:=hedge k o e hok he hb;simp at hk ⊢;omega
 have hset:(lst ops.size c).setIfInBounds c true=lst ops.size (c+1):=by
   refine zFp (by rw[Array.size_setIfInBounds,hls,zAV (by omega)]) fun k=>?_;rw[zm,qvZ,Array.getElem?_setIfInBounds];by_cases e:c=k
   · subst e
     rw[if_pos rfl,if_pos (by omega)];simp
   · rw[if_neg e,<-qvZ,zm]
     simp only[decide_eq_decide];omega
 rw[show ops.size-c=(ops.size-(c+1))+1 by omega];refine ⟨fun hnil=>?_,fun i hi=>?_⟩
 · exfalso
   have:c∈Region.ready .any ops (lst ops.size c):=by
     refine ready_iff.2 ⟨hc,?_,o,ho,fun e he hbe=>?_⟩
     · have:=zm ops.size c c
       rw[qvZ,quZ (show c<(lst ops.size c).size by omega)]at this ⊢;simpa using this
     · rw[zm]
       simpa using hedge c o e ho he hbe
   rw[hnil]at this;cases this
 · obtain⟨h1,h2,o',ho',he⟩:=ready_iff.1 hi
   have hlow:c<=i:=by
     rcases s2Z i c with h3 | h3
     · exfalso
       have:=zm ops.size c i;rw[qvZ,quZ (show i<(lst ops.size c).size by omega)]at h2 this;simp at h2 this;rw[this]at h2;simp at h2;omega
     · exact h3
   have hic:i=c:=by
     rcases s2Z c i with h3 | h3
     · exfalso
       have:=zD3 hcl hi c (hcut.2.1 i (by omega) h1 c (by omega));rw[zm]at this;simp at this
     · omega
   subst hic;rw[hset];unfold wpOpIn;rw[ho];dsimp only;rcases hrun with⟨hw,rfl,rfl⟩ | ⟨hw,v,hv,rfl⟩
   · rw[zAQ hw hF]
     refine ⟨fun _ _=>trivial,?_⟩;exact hq j0 _ w0 (zGj hF o.dst ⟨#[],rfl,rfl⟩) (by rw[zAY];exact hdf) (Step.refl hR (qnZ _))
   · rw[zAQ hw hF]
     simp only[if_true];refine zKU hΓ hv hF hR r n fun cv j' w' hcv hst=>?_;exact hq j' _ w' (zGj (VRs.mono (hst.jle hR (qnZ _)) _ _ hF) o.dst hcv) (by rw[zAY];exact hdf) hst
def hrun(P:Program)(Γ:Gam)(V:Array Oper)(k:List AV->zA->List QF->Option (List AV×zA)):List Oper->List AV->zA->List QF->Option (List AV×zA)
 | [],F,H,fs=>k F H fs
 | o::rest,F,H,fs =>
   match zAb P Γ V F H o with
   | none=>none
   | some q=>hrun P Γ V k rest (ZW F o.dst q.v) q.H (fs++[q.fl])
theorem zPF(P:Program)(Γ:Gam)(V:Array Oper)(k:List AV->zA->List QF->Option (List AV×zA)):∀(l:List Oper) (F:List AV) (H:zA) (fs:List QF),hrun P Γ V k l F H fs =
   match zc P Γ V l F H with
   | none=>none
   | some (qs,F',H')=>k F' H' (fs++qs.map QR.fl)
 | [],F,H,fs=>by simp[hrun,zc]
 | o::rest,F,H,fs=>by
   unfold hrun zc;rw[zFX];cases hq:zAb P Γ V F H o with
   | none=>rfl
   | some q =>
     dsimp only;rw[zPF P Γ V k rest];cases hr:zc P Γ V rest (ZW F o.dst q.v) q.H with
     | none=>rfl
     | some r =>
       obtain⟨qs,F',H'⟩:=r;dsimp only;rw[qeZ,s1Z];rfl
def zNb:QF:=⟨none,none,true,true,false⟩
def zAp(V:Array Oper)(p:Nat):List Nat->List AV->List AV
 | [],F=>F
 | k::ks,F=>zAp V p ks (if p.testBit k then F else match (V[k]?).bind (·.dst) with | some d=>F.set d .top | none=>F)
def zHZ(V:Array Oper)(p:Nat)(d:Option Tmp)(fs:List QF)(H H':zA)(h:Nat):Bool:=(List.range h).all fun k =>
 (match (V[k]?).bind (·.dst) with | some e=>d != some e | none=>true) &&
 (p.testBit k || ((!(fs.getD k zNb).call&&!(fs.getD k zNb).grows)&&(match d with | some e=>!((V[k]?).map (zP V)).any (·.contains e) | none=>true)&&(match (fs.getD k zNb).rd with | some b=>decide (b<H'.length)&&ZP (H.getD b .dead) (H'.getD b .dead) | none=>true)))
def zAn(before:Bool)(qi qk:QF):Bool :=
 (match qi.st with
  | some s=>qk.rd != some s.1&&!qk.call&&(match qk.st with | some s'=>zRr s s' | none=>true)
  | none=>true) &&
 (match qk.st with
  | some s=>(qi.rd != some s.1 || before)&&(!qi.call || before)
  | none=>true) &&
 (!qi.call || !qk.grows || before || qi.sc)
def zM3(before:Bool)(si sk:List Nat)(di dk:Option Nat):Bool :=
 (match di with
  | some d=>!sk.contains d || before
  | none=>true) &&
 (match dk with
  | some d=>(!si.contains d || before)&&dk != di
  | none=>true)
theorem zMr(before:Bool)(si sk:List Nat)(di dk:Option Nat)(qi qk:QF):zGh before si sk di dk qi qk=(zM3 before si sk di dk&&zAn before qi qk):=by
 have key:∀a b c d e:Bool,((((a&&b)&&c)&&d)&&e)=((a&&b)&&((c&&d)&&e)):=by decide
 exact key _ _ _ _ _
def zJX(ops:List Oper)(slots:List (List Nat))(pr:List Nat):Bool :=
 (List.range ops.length).all fun k =>
   ((ops.getD k default).after.toList.all fun e=>!Region.binds .any e || e.on<k) &&
   (List.range k).all fun i=>zM3 ((pr.getD k 0).testBit i) (slots.getD i []) (slots.getD k []) (ops.getD i default).dst (ops.getD k default).dst
def zKY(q:QF):Bool:=q.st.isSome || (q.rd.isSome || (q.call || q.grows))
theorem zL2{b:Bool}{qi qk:QF}(h:zKY qi=false):zAn b qi qk=true:=by
 unfold zKY at h;simp only[Bool.or_eq_false_iff,Option.isSome_eq_false_iff,Option.isNone_iff_eq_none]at h;obtain⟨h1,h2,h3,h4⟩:=h;unfold zAn;rw[h1,h2,h3];cases qk.st <;> simp
theorem zJV{b:Bool}{qi qk:QF}(h:zKY qk=false):zAn b qi qk=true:=by
 unfold zKY at h;simp only[Bool.or_eq_false_iff,Option.isSome_eq_false_iff,Option.isNone_iff_eq_none]at h;obtain⟨h1,h2,h3,h4⟩:=h;unfold zAn;rw[h1,h2,h3,h4];cases qi.st <;> simp
def zF6:Nat->List QF->Nat->List (Nat×QF)
 | 0,_,_=>[]
 | _+1,[],_=>[]
 | r+1,q::fs,i=>if zKY q then (i,q)::zF6 r fs (i+1) else zF6 r fs (i+1)
def zMw(pr:List Nat):List (Nat×QF)->Bool
 | []=>true
 | x::l=>l.all (fun y=>zAn ((pr.getD y.1 0).testBit x.1) x.2 y.2)&&zMw pr l
theorem zH1:∀(r:Nat) (fs:List QF) (i:Nat) (y:Nat×QF),y∈zF6 r fs i↔∃k,y.1=i+k/\k<r/\fs[k]? = some y.2/\zKY y.2=true
 | 0,fs,i,y=>by simp[zF6]
 | r+1,[],i,y=>by simp[zF6]
 | r+1,q::fs,i,y=>by
   have ih:=zH1 r fs (i+1) y;have rest:(∃k,y.1=i+1+k/\k<r/\fs[k]? = some y.2/\zKY y.2=true)↔∃k,y.1=i+(k+1)/\k+1<r+1/\(q::fs)[k+1]? = some y.2/\zKY y.2=true:=by
     constructor
     · rintro⟨k,h1,h2,h3,h4⟩;exact⟨k,by omega,by omega,by simpa using h3,h4⟩
     · rintro⟨k,h1,h2,h3,h4⟩;exact⟨k,by omega,by omega,by simpa using h3,h4⟩
   simp only[zF6];split
   · rename_i hq
     rw[qwZ,ih,rest];constructor
     · rintro (rfl | ⟨k,h⟩)
       · exact⟨0,rfl,by omega,rfl,hq⟩
       · exact⟨k+1,h⟩
     · rintro⟨k,h1,h2,h3,h4⟩
       cases k with
       | zero =>
         refine .inl ?_;obtain⟨a,b⟩:=y;simp only[raZ,Option.some.injEq]at h3;simp only at h1 h3;rw[h1,h3];rfl
       | succ k=>exact .inr ⟨k,h1,h2,h3,h4⟩
   · rename_i hq
     rw[ih,rest];constructor
     · rintro⟨k,h⟩;exact⟨k+1,h⟩
     · rintro⟨k,h1,h2,h3,h4⟩
       cases k with
       | zero=>simp only[raZ,Option.some.injEq]at h3;rw[<-h3]at h4;exact absurd h4 hq
       | succ k=>exact⟨k,h1,h2,h3,h4⟩
theorem zMQ(pr:List Nat):∀(r:Nat) (fs:List QF) (i:Nat),zMw pr (zF6 r fs i)=true↔∀a b,a<b->b<r->∀qa qb,fs[a]? = some qa->fs[b]? = some qb->zAn ((pr.getD (i+b) 0).testBit (i+a)) qa qb=true
 | 0,fs,i=>by simp[zF6,zMw]
 | r+1,[],i=>by simp[zF6,zMw]
 | r+1,q::fs,i=>by
   have ih:=zMQ pr r fs (i+1);have ih':zMw pr (zF6 r fs (i+1))=true↔∀a b,a<b->b+1<r+1->∀qa qb,(q::fs)[a+1]? = some qa->(q::fs)[b+1]? = some qb->zAn ((pr.getD (i+(b+1)) 0).testBit (i+(a+1))) qa qb=true:=by
     rw[ih];constructor
     · intro h a b hab hb qa qb h1 h2
       have:=h a b hab (by omega) qa qb (by simpa using h1) (by simpa using h2);rw[show i+(b+1)=i+1+b by omega,show i+(a+1)=i+1+a by omega];exact this
     · intro h a b hab hb qa qb h1 h2
       have:=h a b hab (by omega) qa qb (by simpa using h1) (by simpa using h2);rw[show i+1+b=i+(b+1) by omega,show i+1+a=i+(a+1) by omega];exact this
   have split2:(∀a b,a<b->b<r+1->∀qa qb,(q::fs)[a]? = some qa->(q::fs)[b]? = some qb->zAn ((pr.getD (i+b) 0).testBit (i+a)) qa qb=true) ↔
       (∀b,b+1<r+1->∀qb,(q::fs)[b+1]? = some qb->zAn ((pr.getD (i+(b+1)) 0).testBit i) q qb=true)/\(∀a b,a<b->b+1<r+1->∀qa qb,(q::fs)[a+1]? = some qa->(q::fs)[b+1]? = some qb->zAn ((pr.getD (i+(b+1)) 0).testBit (i+(a+1))) qa qb=true):=by
     constructor
     · exact fun h=>⟨fun b hb qb h2=>h 0 (b+1) (by omega) hb q qb rfl h2,fun a b hab hb qa qb h1 h2=>h (a+1) (b+1) (by omega) hb qa qb h1 h2⟩
     · rintro⟨h1,h2⟩ a b hab hb qa qb ha hbb
       cases b with
       | zero=>omega
       | succ b =>
         cases a with
         | zero=>simp only[raZ,Option.some.injEq]at ha;subst ha;exact h1 b hb qb hbb
         | succ a=>exact h2 a b (by omega) hb qa qb ha hbb
   rw[split2,<-ih'];simp only[zF6];split
   · rename_i hq
     simp only[zMw,qrZ,s5Z];refine and_congr_left fun _=>?_;constructor
     · intro h b hb qb h2
       by_cases hd:zKY qb=true
       · have:=h (i+1+b,qb) ((zH1 r fs (i+1) _).2 ⟨b,rfl,by omega,by simpa using h2,hd⟩)
         rw[show i+(b+1)=i+1+b by omega];exact this
       · exact zJV (by simpa using hd)
     · rintro h y hy
       obtain⟨k,h1,h2,h3,h4⟩:=(zH1 r fs (i+1) y).1 hy;have:=h k (by omega) y.2 (by simpa using h3);rw[h1,show i+1+k=i+(k+1) by omega];exact this
   · rename_i hq
     constructor
     · exact fun h=>⟨fun b _ qb _=>zL2 (by simpa using hq),h⟩
     · exact fun h=>h.2
inductive BxP where
 | mk (l:List Nat)
def zGl:List Oper->List Nat->BxP
 | [],acc=>.mk acc
 | o::rest,acc=>Zg (zDc acc o.after.toList 0) fun m=>zGl rest (acc++[m])
theorem zHf:∀(ops:List Oper) (acc:List Nat),zGl ops acc=.mk (zA7 ops acc)
 | [],acc=>rfl
 | o::rest,acc=>by
   unfold zGl zA7;rw[ZR,zHf rest,zDF]
inductive BxT where
 | mk (l:List Nat) (n:Nat) (ok:Bool)
def textB(ops:Array Oper):BxT:=match zGl ops.toList [] with
 | .mk l=>Zg ops.toList.length fun n=>frcT l n (zJX ops.toList (ops.toList.map (zP ops)) l)
where frcT (l:List Nat) (n:Nat) (b:Bool):BxT:=match b with
 | true=>.mk l n true
 | false=>.mk l n false
theorem zRd(ops:Array Oper):textB ops=.mk (Zl ops.toList) ops.toList.length (zJX ops.toList (ops.toList.map (zP ops)) (Zl ops.toList)):=by
 unfold textB;rw[zHf];simp only[ZR];unfold textB.frcT;have e:zA7 ops.toList []=Zl ops.toList:=rfl;rw[e];cases zJX ops.toList (ops.toList.map (zP ops)) (Zl ops.toList) <;> rfl
def zCv(ops:Array Oper)(fs:List QF):Bool:=match textB ops with
 | .mk l n true=>zMw l (zF6 n fs 0)
 | .mk _ _ false=>false
theorem zCk(ops:Array Oper)(fs:List QF):zCv ops fs=zDA ops.toList (ops.toList.map (zP ops)) fs:=by
 unfold zDA;rw[zEY];show _=zDq ops.toList (ops.toList.map (zP ops)) fs (Zl ops.toList);unfold zCv;rw[zRd];rw[Bool.eq_iff_iff];have e:zDq ops.toList (ops.toList.map (zP ops)) fs (Zl ops.toList)=true↔zJX ops.toList (ops.toList.map (zP ops)) (Zl ops.toList)=true/\zMw (Zl ops.toList) (zF6 ops.toList.length fs 0)=true:=by
   rw[zMQ];unfold zDq zJX;simp only[s5Z,List.mem_range,qrZ,zMr];constructor
   · intro h
     refine ⟨fun k hk=>⟨(h k hk).1,fun i hi=>((h k hk).2 i hi).1⟩,fun a b hab hb qa qb h1 h2=>?_⟩;have:=((h b hb).2 a hab).2;simp only[q2Z,h1,h2,rgZ,s8Z]at this ⊢;exact this
   · rintro⟨h1,h2⟩ k hk
     refine ⟨(h1 k hk).1,fun i hi=>⟨(h1 k hk).2 i hi,?_⟩⟩;simp only[q2Z];cases ha:fs[i]? with
     | none=>exact zL2 rfl
     | some qa =>
       cases hb:fs[k]? with
       | none=>exact zJV rfl
       | some qb =>
         have:=h2 i k hi hk qa qb ha hb;simp only[q2Z,s8Z]at this;exact this
 rw[e];cases zJX ops.toList (ops.toList.map (zP ops)) (Zl ops.toList) <;> simp
def zJI(P:Program)(Γ:Gam)(ops:Array Oper):List Oper->List AV->zA->List QF->List (Nat×Nat×List AV)->Option (List AV×zA)
 | [],F,H,fs,ss=>if zCv ops fs then some (F,ss.foldl zAa H) else none
 | o::rest,F,H,fs,ss =>
   match zAb P Γ ops F H o with
   | none=>none
   | some q=>zJI P Γ ops rest (ZW F o.dst q.v) q.H (fs++[q.fl]) (ss++q.st.toList)
theorem zIM(P:Program)(Γ:Gam)(ops:Array Oper):∀(l:List Oper) (F:List AV) (H:zA) (fs:List QF) (ss:List (Nat×Nat×List AV)),zJI P Γ ops l F H fs ss=zCL P Γ ops l F H fs ss
 | [],F,H,fs,ss=>by unfold zJI zCL;rw[zCk]
 | o::rest,F,H,fs,ss=>by
   unfold zJI zCL;cases zAb P Γ ops F H o with
   | none=>rfl
   | some q=>exact zIM P Γ ops rest _ _ _ _
def zFM(P:Program)(Γ:Gam)(ops:Array Oper)(c h:Nat)(F:List AV)(H:zA):Option (List AV×zA) :=
 match ops[h]? with
 | none=>none
 | some o=>Zg ((Zl ops.toList).getD h 0) fun p =>
   hrun P Γ (zF ops c h) (fun F1 H1 fs =>
     if (ops.toList.take h).all (fun o=>match o.guard with | some (j,_)=>Nat.blt j h | none=>true)&&(fs.all (fun q=>q.st.isNone)&&zCv (zF ops c h) fs) then
       match zAM ops o (zAp (zF ops c h) p (List.range h) F1) with
       | some true=>match opA P Γ (zAp (zF ops c h) p (List.range h) F1) H1 o.op with
         | some (v,H')=>if zHZ (zF ops c h) p o.dst fs H1 H' h then some (ZW F1 o.dst v,H') else none
         | none=>none
       | _=>none
     else none) (zF ops c h).toList F H []
theorem zKs{P:Program}{Γ:Gam}{ops:Array Oper}{F0 F':List AV}{H0 H':zA}{qs:List QR}(hq:zc P Γ ops ops.toList F0 H0=some (qs,F',H'))(hd:zC5 ops.toList (ops.toList.map (zP ops)) qs (Zl ops.toList)=true) :
   ∃Fs Hs,Txt P Γ ops F0 H0 qs Fs Hs/\F'=Fs ops.size/\H'=Hs ops.size:=by
 obtain⟨hl,Fs,Hs,f0,h0,fn,hn,hall⟩:=zFt _ _ _ _ _ _ hq;unfold zC5 at hd;rw[s5Z]at hd;refine ⟨Fs,Hs,⟨f0,h0,by simpa using hl,fun i o q ho hqi=>hall i o q (by simpa using ho) hqi,?_,?_⟩,by simpa using fn.symm,by simpa using hn.symm⟩
 · intro k o e ho he hb
   have hk:k<ops.size:=(qtZ.1 ho).1;have h1:=hd k (by simpa using hk);rw[qrZ]at h1;have h2:=h1.1;rw[s5Z]at h2;have:=h2 e (by rw[q2Z,riZ,ho];exact he);rw[hb]at this;simpa using this
 · intro i k oi ok qi qk hik hoi hok hqi hqk
   have hk:k<ops.size:=(qtZ.1 hok).1;have h1:=hd k (by simpa using hk);rw[qrZ]at h1;have h2:=h1.2;rw[s5Z]at h2;have:=h2 i (by simpa using hik);simp only[q2Z,qzZ,riZ,hoi,hok,hqi,hqk,rhZ,rgZ]at this;rw[q2Z];exact this
theorem zQO{P:Program}{Γ:Gam}(hΓ:GOk P Γ){o:Oper}{a:Act}{j:Inj}{F:List AV}{H X:zA}{w:World}{q:QR}(h:qop P Γ F H o.op=some q)(h1:q.st=none)(h2:q.call=false)(h3:q.grows=false)
   (hX:∀(b:Nat) x,q.rd=some b->H[b]? = some x->X[b]? = some x) (hF:VRs j F a.tmps.toList) (hR:R j X w) (r:Option Nat) (n:Nat) {K:Act->World->Prop} {Q:Exit->Act->World->Prop}
   (hk:∀cv w',VR j q.v cv->Step X.length j X w j X w'->K (a.put o.dst cv) w'):o.wpIn (FW r) n P a w K Q:=by
 have value:(∃cv,(execOp a.eval o).run P w=.ok (.value cv) w/\VR j q.v cv)->(∀c,o.op≠.defer c)->o.wpIn (FW r) n P a w K Q:=by
   intro hv hdf;obtain⟨cv,k1,k2⟩:=hv;refine ⟨fun _ _=>trivial,?_⟩;rw[Oper.semAt_eq _ _ _ hdf,k1];exact hk cv w k2 (Step.refl hR (qnZ _))
 unfold qop at h;split at h
 · split at h
   rotate_left
   · cases h
   split at h;rotate_left
   · cases h
   split at h <;> cases h
   cases h1
 · rename_i args ts hop
   split at h;rotate_left
   · cases h
   rename_i t t' s x hts hargs;split at h;rotate_left
   · cases h
   rename_i htt;subst htt;split at h
   · cases h
     cases h2
   · obtain⟨v,hv,e⟩:=qlZ.1 h
     subst e;obtain⟨s0,x0,hargs0,e1,e2⟩:∃s0 x0,args.toList=[s0,x0]/\ev F s0=s/\ev F x0=x:=by
       cases ha:args.toList with
       | nil=>rw[ha]at hargs;simp at hargs
       | cons s0 r =>
         cases r with
         | nil=>rw[ha]at hargs;simp at hargs
         | cons x0 r =>
           rw[ha]at hargs;simp at hargs;obtain⟨h1,h2,h3⟩:=hargs;subst h3;exact⟨s0,x0,rfl,h1,h2⟩
     obtain⟨k1,k2⟩:=zIY (ty:=o.type) hv (e1▸zQ hF s0) (e2▸zQ hF x0) w;refine value ⟨_,?_,k2⟩ (by rw[hop];simp);have e3:ts=#[t,t]:=by apply Array.ext';rw[hts]
     have e4:args.map a.eval=#[a.eval s0,a.eval x0]:=by apply Array.ext';rw[Array.toList_map,hargs0];rfl
     unfold execOp;rw[hop];dsimp only;rw[rb (a:=(⟨.builtin .append ts o.type (args.map fun | .const _=>true | _=>false),args.map a.eval⟩:Deferred)) (w':=w) rfl];show Sem.run P (do pure (Next.value (<-Builtin.append_ ts o.type (args.map a.eval)))) w=_;rw[e3,e4,rb k1];rfl
 · rename_i g args ts hop
   split at h
   · rename_i v hp
     cases h;exact zIy hΓ hop hp hF hR r n hk
   split at h
   · cases h
     cases h2
   · cases h
 · obtain⟨l,_,e⟩:=qlZ.1 h
   subst e;cases h3
 · obtain⟨l,_,e⟩:=qlZ.1 h
   subst e;cases h3
 · obtain⟨⟨n,sz,l⟩,_,e⟩:=qlZ.1 h
   subst e;cases h3
 · obtain⟨⟨n,sz,l⟩,_,e⟩:=qlZ.1 h
   subst e;cases h3
 · split at h
   · rename_i v hp
     cases h;exact value (zII hF hp w) (fun c hc=>by rw[hc]at hp;simp[zAm]at hp)
   · split at h
     · rename_i v hp
       cases h;have:=zGM (H':=X) hp (fun b x hb hx=>hX b x hb hx);exact value (zBp hF hR this) (fun c hc=>by rw[hc]at hp;simp[zAT]at hp)
     · obtain⟨l,_,e⟩:=qlZ.1 h
       subst e;cases h3
structure HI (ds:List Deferred) (j0:Inj) (H0:zA) (w0:World) (V:Array Oper) (qs:List QR) (Fb:List AV) (X:zA) (D:Nat->Prop) (a:Act) (j:Inj) (w:World):Prop where
 step:Step H0.length j0 H0 w0 j X w
 size:Fb.length=a.tmps.size
 set:∀(k:Nat) o q t v,D k->V[k]? = some o->qs[k]? = some q->o.dst=some t->a.tmps[t]? = some v->VR j q.v v
 old:∀t x v,(∀(k:Nat) o,D k->V[k]? = some o->o.dst≠some t)->Fb[t]? = some x->a.tmps[t]? = some v->VR j x v
 defers:a.defers=ds
section
variable {P:Program} {Γ:Gam} {V:Array Oper} {F0 Fb:List AV} {H0 X:zA} {qs:List QR} {Fs:Nat->List AV} {Hs:Nat->zA} {ds:List Deferred} {j0 j:Inj} {w0 w:World} {D:Nat->Prop} {a:Act}
theorem HI.go(hΓ:GOk P Γ)(h:HI ds j0 H0 w0 V qs Fb X D a j w)(T:Txt P Γ V F0 H0 qs Fs Hs){i:Nat}(hs:∀q,qs[i]? = some q->q.st=none/\q.call=false/\q.grows=false){o:Oper}(ho:V[i]? = some o)(hD:¬D i)
   (hc:∀(k:Nat) o e,D k->V[k]? = some o->e∈o.after.toList->Region.binds .any e=true->D e.on) (he:∀e∈o.after.toList,Region.binds .any e=true->D e.on)
   (hFb:∀t∈zP V o,∀x,F0[t]? = some x->Fb[t]? = some x) (hFl:Fb.length=F0.length) (hX:∀q,qs[i]? = some q->∀(b:Nat) x,q.rd=some b->(Hs i)[b]? = some x->X[b]? = some x)
   (r:Option Nat) (n:Nat) {K:Act->World->Prop} {Q:Exit->Act->World->Prop} (hk:∀a' w',HI ds j0 H0 w0 V qs Fb X (fun k=>D k\/k=i) a' j w'->K a' w'):wpOpIn (FW r) n P V Q i K a w:=by
 have hi:i<V.size:=(qtZ.1 ho).1;obtain⟨q,hq⟩:=T.q ho;obtain⟨s1,_,_⟩:=T.each i o q ho hq;have hc':∀(k:Nat) o e,D k->V.toList[k]? = some o->e∈o.after.toList->Region.binds .any e=true->D e.on:=fun k o e hk hok=>hc k o e hk (by simpa using hok);have h1:∀m,((Zl V.toList).getD i 0).testBit m=true->D m:=ZZ hc' i o (by simpa using ho) he;have h2:∀(k:Nat) ok qk,i<k->D k->V[k]? = some ok->qs[k]? = some qk->ZB false (zP V o) (zP V ok) o.dst ok.dst q qk=true:=by
   intro k ok qk hik hk hok hqk;have:=T.pairs i k o ok q qk hik ho hok hq hqk;have hb:((Zl V.toList).getD k 0).testBit i=false:=by
     cases hb:((Zl V.toList).getD k 0).testBit i with
     | false=>rfl
     | true=>exact absurd (ZZ hc' k ok (by simpa using hok) (fun e he hbe=>hc k ok e hk hok he hbe) i hb) hD
   rw[hb]at this;exact this
 have hM:VRs j (zAu (zP V o) (Fs i)) a.tmps.toList:=by
   refine zPK (by rw[T.flen i (by omega),<-hFl];exact h.size) fun t ht x v hx hv=>?_;have htc:(zP V o).contains t=true:=by simpa using ht
   rcases T.slot t x i (by omega) hx with⟨k,ok,qk,k1,k2,k3,k4,rfl⟩ | ⟨k1,k2⟩
   · have:=T.pairs k i ok o qk q k1 k2 ho k3 hq
     unfold ZB at this;rw[k4]at this;simp only[htc,Bool.not_true,Bool.false_or,qrZ]at this;exact h.set k ok qk t v (h1 k this.1.1.1.1) k2 k3 k4 hv
   · refine h.old t x v (fun k ok hkd hok e=>?_) (hFb t ht x k2) hv
     rcases Nat.lt_trichotomy k i with h3 | h3 | h3
     · exact k1 k ok h3 hok e
     · subst h3;exact hD hkd
     · obtain⟨qk,hqk⟩:=T.q hok
       have:=h2 k ok qk h3 hkd hok hqk;unfold ZB at this;rw[e]at this;simp only[htc,Bool.not_true,Bool.false_or,qrZ]at this;exact absurd this.1.1.1.2.1 (by simp)
 have put:∀cv w',VR j q.v cv->Step X.length j X w j X w'->K (a.put o.dst cv) w':=by
   intro cv w' hv hst;have hget:∀t,o.dst≠some t->(a.put o.dst cv).tmps[t]? = a.tmps[t]?:=by
     intro t ht;unfold Act.put;split
     · rename_i d hd
       rw[Array.getElem?_setIfInBounds,if_neg (by intro e;subst e;exact ht hd)]
     · rfl
   refine hk _ _ ⟨h.step.trans hst h.step.len,?_,?_,?_,by rw[zAY];exact h.defers⟩
   · rw[h.size]
     unfold Act.put;split <;> simp
   · intro k o' q' t v hk' ho' hq' hd hv'
     rcases hk' with hk' | rfl
     · have hki:k≠i:=fun e=>hD (e▸hk')
       have hne:o.dst≠some t:=by
         intro e;rcases Nat.lt_or_gt_of_ne hki with h1 | h1
         · have:=T.pairs k i o' o q' q h1 ho' ho hq' hq
           unfold ZB at this;rw[e,hd]at this;simp at this
         · have:=T.pairs i k o o' q q' h1 ho ho' hq hq'
           unfold ZB at this;rw[e,hd]at this;simp at this
       rw[hget t hne]at hv';exact h.set k o' q' t v hk' ho' hq' hd hv'
     · rw[ho]at ho'
       cases ho';rw[hq]at hq';cases hq';unfold Act.put at hv';rw[hd]at hv';dsimp only at hv';rw[Array.getElem?_setIfInBounds,if_pos rfl]at hv';split at hv'
       · cases hv';exact hv
       · cases hv'
   · intro t x v hno hx hv'
     have hne:o.dst≠some t:=hno i o (.inr rfl) ho;rw[hget t hne]at hv';exact h.old t x v (fun k o' hk' ho'=>hno k o' (.inl hk') ho') hx hv'
 unfold wpOpIn;rw[ho];dsimp only;unfold zDd at s1;split at s1
 · cases s1
 · rename_i hw
   cases s1;rw[zAQ hw hM];refine ⟨fun _ _=>trivial,put undef w ?_ (Step.refl h.step.rel (qnZ _))⟩;exact⟨#[],rfl,rfl⟩
 · rename_i hw
   rw[zAQ hw hM];simp only[if_true];obtain⟨g1,g2,g3⟩:=hs q hq;exact zQO hΓ s1 g1 g2 g3 (hX q hq) hM h.step.rel r n put
end
theorem zIf(V:Array Oper)(p:Nat):∀(ks:List Nat) (F:List AV) (t:Nat) (x:AV),(zAp V p ks F)[t]? = some x->x=.top\/(F[t]? = some x/\∀k∈ks,p.testBit k=false->∀o,V[k]? = some o->o.dst≠some t)
 | [],F,t,x,h=>.inr ⟨h,by simp⟩
 | k::ks,F,t,x,h=>by
   unfold zAp at h;rcases zIf V p ks _ t x h with h1 | ⟨h1,h2⟩
   · exact .inl h1
   · cases hp:p.testBit k with
     | true =>
       rw[hp]at h1;refine .inr ⟨h1,fun k' hk' hpk o ho=>?_⟩;rcases qwZ.1 hk' with rfl | hk'
       · rw[hp]at hpk;cases hpk
       · exact h2 k' hk' hpk o ho
     | false =>
       rw[hp]at h1;simp only[qsZ,if_false]at h1;cases hd:(V[k]?).bind (·.dst) with
       | none =>
         rw[hd]at h1;refine .inr ⟨h1,fun k' hk' hpk o ho e=>?_⟩;rcases qwZ.1 hk' with rfl | hk'
         · rw[ho]at hd
           simp only[Option.bind_some]at hd;rw[hd]at e;cases e
         · exact h2 k' hk' hpk o ho e
       | some d =>
         rw[hd]at h1;dsimp only at h1;rw[List.getElem?_set]at h1;by_cases e:d=t
         · subst e
           rw[if_pos rfl]at h1;split at h1 <;> cases h1
           exact .inl rfl
         · rw[if_neg e]at h1
           refine .inr ⟨h1,fun k' hk' hpk o ho e2=>?_⟩;rcases qwZ.1 hk' with rfl | hk'
           · rw[ho]at hd
             simp only[Option.bind_some]at hd;rw[hd]at e2;cases e2;exact e rfl
           · exact h2 k' hk' hpk o ho e2
theorem zE9(V:Array Oper)(p:Nat):∀(ks:List Nat) (F:List AV),(zAp V p ks F).length=F.length
 | [],F=>rfl
 | k::ks,F=>by
   unfold zAp;rw[zE9 V p ks];split
   · rfl
   · split <;> simp
theorem zCT(F:List AV)(d:Option Tmp)(v:AV):(ZW F d v).length=F.length:=by
 unfold ZW;split <;> simp
theorem zLi(a:Act)(d:Option Tmp)(v:Value):(a.put d v).tmps.size=a.tmps.size:=by
 unfold Act.put;split <;> simp
theorem zDx(a:Act)(d:Option Tmp)(v:Value)(t:Nat)(h:d≠some t):(a.put d v).tmps[t]? = a.tmps[t]?:=by
 unfold Act.put;split
 · rename_i e
   rw[Array.getElem?_setIfInBounds,if_neg (by intro e2;subst e2;exact h rfl)]
 · rfl
theorem zBn(F:List AV)(d:Option Tmp)(v:AV)(t:Nat)(h:d≠some t):(ZW F d v)[t]? = F[t]?:=by
 unfold ZW;split
 · rename_i e
   rw[List.getElem?_set,if_neg (by intro e2;subst e2;exact h rfl)]
 · rfl
theorem zO9{P:Program}{Γ:Gam}(hΓ:GOk P Γ){ops:Array Oper}{c h:Nat}(hch:c<=h)(hcut:Cut ops (h+1)){F0 F':List AV}{H0 H':zA}(hd:zFM P Γ ops c h F0 H0=some (F',H')){j0:Inj}{w0:World}{a0:Act}(hR:R j0 H0 w0)(hF:VRs j0 F0 a0.tmps.toList){ds:List Deferred}(hdf:a0.defers=ds)
   (r:Option Nat) (n:Nat) {Q:Exit->Act->World->Prop} (hq:∀j a w,VRs j F' a.tmps.toList->a.defers=ds->Step H0.length j0 H0 w0 j H' w->wpAnyIn (FW r) n P .any ops Q (ops.size-(h+1)) (lst ops.size (h+1)) a w)
   (hclosed:∀(k:Nat) o e,k<c->ops[k]? = some o->e∈o.after.toList->Region.binds .any e=true->e.on<c) (hedge0:∀(k:Nat) o e,ops[k]? = some o->e∈o.after.toList->Region.binds .any e=true->e.on<k) :
   wpAnyIn (FW r) n P .any ops Q (ops.size-c) (lst ops.size c) a0 w0:=by
 obtain⟨hsz,hbits,_⟩:=hcut;unfold zFM at hd;split at hd
 · cases hd
 rename_i oh hoh;rw[ZR,zPF]at hd;split at hd
 · cases hd
 rename_i qs F1 H1 hqr;simp only[qaZ]at hd;split at hd;rotate_left
 · cases hd
 rename_i hchk;rw[qrZ,qrZ]at hchk;obtain⟨hgd,hchk⟩:=hchk;split at hd;rotate_left
 · cases hd
 rename_i hw;split at hd;rotate_left
 · cases hd
 rename_i v H2 hop;split at hd <;> cases hd
 rename_i hok;obtain⟨V,hV⟩:∃V,zF ops c h=V:=⟨_,rfl⟩
 obtain⟨p,hp⟩:∃p,(Zl ops.toList).getD h 0=p:=⟨_,rfl⟩
 rw[hV]at hqr hchk hw hop hok;rw[hp]at hw hop hok;have hvs:V.size=h:=by rw[<-hV];exact zEn hch (by omega)
 have hFl:F0.length=a0.tmps.size:=by simpa using hF.length
 have hlo:∀k,k<c->V[k]? = (ops[k]?).map zM:=fun k hk=>by rw[<-hV];exact zCX hch (by omega) hk
 have hhi:∀k,c<=k->k<h->V[k]? = ops[k]?:=fun k h1 h2=>by rw[<-hV];exact zBz hch (by omega) h1 h2
 have hdst:∀k,k<h->(V[k]?).bind (·.dst)=(ops[k]?).bind (·.dst):=fun k hk=>by rw[<-hV];exact zI7 hch (by omega) hk
 obtain⟨Fs,Hs,T,rfl,rfl⟩:=zKs hqr (by rw[zCi,<-zCk];exact hchk.2);have hst0:∀q∈qs,q.st=none:=by
   intro q hq;have:=s5Z.1 hchk.1 q.fl (reZ.2 ⟨q,hq,rfl⟩);simpa[QR.fl] using this
 have hputs:∀(σ:List Nat) (G:zA),(σ.filterMap fun k=>(qs[k]?).bind (·.st)).foldl zAa G=G:=by
   intro σ G;have:(σ.filterMap fun k=>(qs[k]?).bind (·.st))=[]:=by
     refine List.filterMap_eq_nil_iff.2 fun k _=>?_;cases hk:qs[k]? with
     | none=>rfl
     | some q=>exact hst0 q (qcZ hk)
   rw[this];rfl
 have ok:∀k o,k<h->V[k]? = some o->(∀e,o.dst=some e->oh.dst≠some e)/\(p.testBit k=true\/((∀e,oh.dst=some e->e∉zP V o)/\(∀q,qs[k]? = some q->∀(b:Nat) x,q.rd=some b->(Hs k)[b]? = some x->H'[b]? = some x)/\∀q,qs[k]? = some q->q.st=none/\q.call=false/\q.grows=false)):=by
   intro k o hk ho;unfold zHZ at hok;have:=s5Z.1 hok k (List.mem_range.2 hk);rw[ho]at this;simp only[Option.bind_some,rhZ,qrZ,Bool.or_eq_true]at this;obtain⟨h1,h2⟩:=this;refine ⟨fun e he=>?_,h2.imp id fun h3=>⟨fun e he=>?_,fun q hqk b x hb hx=>?_,fun q hqk=>?_⟩⟩
   · rw[he]at h1
     simpa using h1
   · have h4:=h3.1.2
     rw[he]at h4;simpa[-zP] using h4
   · have h4:=h3.2
     have e1:(qs.map QR.fl).getD k zNb=q.fl:=by rw[q2Z,qzZ,hqk];rfl
     rw[e1]at h4;have e2:q.fl.rd=some b:=hb;rw[e2]at h4;simp only[qrZ,decide_eq_true_eq]at h4;have h5:=zFo h4.2;have hx2:(Hs V.size)[b]? = some x:=by rw[(T.heap hΓ V.size (qnZ _) k (by omega)).2 b (q1Z.1 hx).1];exact hx
     rw[q2Z,q2Z,hx2]at h5;have hb2:b<H'.length:=h4.1;rw[q3Z hb2]at h5 ⊢;simpa using h5.symm
   · have h4:=h3.1.1
     have e1:(qs.map QR.fl).getD k zNb=q.fl:=by rw[q2Z,qzZ,hqk];rfl
     rw[e1]at h4;simp only[QR.fl,qrZ,Bool.not_eq_true']at h4;exact⟨hst0 q (qcZ hqk),h4.1,h4.2⟩
 have way:∀u (listed:Array Bool) a j w,listed.size=ops.size->nf (listed.toList.take (h+1))=u->(∀k,h+1<=k->listed.getD k false=false)->(∀k,k<c->listed.getD k false=true) ->
     (∀(k:Nat) o e,listed.getD k false=true->ops[k]? = some o->e∈o.after.toList->Region.binds .any e=true->listed.getD e.on false=true) ->
     ((listed.getD h false=false/\∃σ,DI ds j0 F0 H0 w0 V qs Hs (fun i=>i<h/\listed.getD i false=true) σ a j w)\/(listed.getD h false=true/\HI ds j0 H0 w0 V qs (ZW F0 oh.dst v) H' (fun i=>i<h/\listed.getD i false=true) a j w)) ->
     wpAnyIn (FW r) n P .any ops Q (ops.size-(h+1)+u) listed a w:=by
   intro u;induction u with
   | zero =>
     intro listed a j w hs' hnf hhi' hlo' _ hst;have hall:∀i,i<h+1->listed.getD i false=true:=by
       intro i hi;have:=zFE (listed.toList.take (h+1)) hnf i;rw[r4Z,if_pos hi,riZ]at this;rw[qvZ];have hli:listed[i]? = some listed[i]:=quZ (by omega);rw[hli]at this ⊢;cases hb:listed[i] with
       | true=>rfl
       | false=>exact absurd (by rw[hb]) this
     have e:listed=lst ops.size (h+1):=by
       refine zFp (by rw[hs',zAV hsz]) fun k=>?_;rw[zm];rcases s2Z k (h+1) with h1 | h1
       · rw[hall k h1];simp[h1]
       · rw[hhi' k h1];simp;omega
     rcases hst with⟨h1,_⟩ | ⟨_,hi⟩
     · rw[hall h (by omega)]at h1;cases h1
     rw[e];refine hq j a w ?_ hi.defers hi.step;refine VRs_iff.2 ⟨by rw[zCT,T.flen _ (qnZ _)];have:=hi.size;rw[zCT]at this;simpa using this,fun t x u hx hu=>?_⟩;have hu':a.tmps[t]? = some u:=by simpa using hu
     by_cases ed:oh.dst=some t
     · refine hi.old t x u (fun k o hk hko e=>(ok k o hk.1 hko).1 t e ed) ?_ hu'
       have hlen:t<F0.length:=by
         have:=(q1Z.1 hx).1;rw[zCT,T.flen _ (qnZ _)]at this;exact this
       unfold ZW at hx ⊢;rw[ed]at hx ⊢;dsimp only at hx ⊢;rw[List.getElem?_set,if_pos rfl]at hx ⊢;rw[if_pos hlen];split at hx
       · exact hx
       · cases hx
     · rw[zBn _ _ _ _ ed]at hx
       rcases T.slot t x _ (qnZ _) hx with⟨i,o,q,h1,h2,h3,h4,rfl⟩ | ⟨h1,h2⟩
       · exact hi.set i o q t u ⟨by omega,hall i (by omega)⟩ h2 h3 h4 hu'
       · exact hi.old t x u (fun k o hk hko=>h1 k o (by omega) hko) (by rw[zBn _ _ _ _ ed];exact h2) hu'
   | succ u ih =>
     intro listed a j w hs' hnf hhi' hlo' hc hst;have hun:∃i,i<h+1/\listed.getD i false=false:=by
       refine Classical.byContradiction fun hno=>?_;have hall:∀b∈listed.toList.take (h+1),b=true:=by
         intro b hb;obtain⟨i,hi⟩:=List.getElem?_of_mem hb;rw[r4Z]at hi;split at hi
         · rename_i hlt
           cases hbb:b with
           | true=>rfl
           | false =>
             exfalso;refine hno ⟨i,hlt,?_⟩;rw[qvZ];rw[riZ]at hi;rw[hi,hbb];rfl
         · cases hi
       have:∀l:List Bool,(∀b∈l,b=true)->nf l=0:=by
         intro l;induction l with
         | nil=>intro _;rfl
         | cons b l ihl =>
           intro hl;have h1:=hl b (qhZ ..);subst h1;have h2:=ihl fun b hb=>hl b (qiZ _ hb);simpa[nf] using h2
       rw[this _ hall]at hnf;cases hnf
     obtain⟨i0,hi0,hli0⟩:=hun;have hedge:∀(i:Nat) o e,i<h->V[i]? = some o->e∈o.after.toList->Region.binds .any e=true->e.on<i:=fun i o e _ ho he hb=>T.edges i o e ho he hb;have hpre:∀m,p.testBit m=true->listed.getD h false=true->listed.getD m false=true:=by
       intro m hm hl;exact ZZ (ops:=ops.toList) (D:=fun k=>listed.getD k false=true) (fun k o e hk hok=>hc k o e hk (by simpa using hok)) h oh (by simpa using hoh) (fun e he hb=>hc h oh e hl hoh he hb) m (by rw[hp];exact hm)
     have hready:Region.ready .any ops listed≠[]:=by
       intro hnil;have:∀i,i<h->listed.getD i false=true:=by
         intro i;induction i using Nat.strongRecOn with
         | _ i ihi =>
           intro hi;cases hb:listed.getD i false with
           | true=>rfl
           | false =>
             exfalso;have hic:c<=i:=by
               rcases s2Z i c with h1 | h1
               · rw[hlo' i h1]at hb;cases hb
               · exact h1
             have:i∈Region.ready .any ops listed:=by
               refine ready_iff.2 ⟨by omega,?_,ops[i],quZ (by omega),fun e he hbe=>?_⟩
               · rw[qvZ,quZ (show i<listed.size by omega)]at hb ⊢
                 exact hb
               · have ho:V[i]? = some ops[i]:=by rw[hhi i hic hi];exact quZ (by omega)
                 have hlt:=hedge i _ e hi ho he hbe;exact ihi e.on hlt (by omega)
             rw[hnil]at this;cases this
       have hh:listed.getD h false=false:=by
         rcases s2Z i0 h with h1 | h1
         · rw[this i0 h1]at hli0;cases hli0
         · obtain rfl:i0=h:=by omega
           exact hli0
       have:h∈Region.ready .any ops listed:=by
         refine ready_iff.2 ⟨by omega,?_,oh,hoh,fun e he hbe=>?_⟩
         · rw[qvZ,quZ (show h<listed.size by omega)]at hh ⊢
           exact hh
         · exact this e.on (hedge0 h oh e hoh he hbe)
       rw[hnil]at this;cases this
     rw[show ops.size-(h+1)+(u+1)=(ops.size-(h+1)+u)+1 by omega];refine ⟨fun hnil=>absurd hnil hready,fun i hi=>?_⟩;obtain⟨h1,h2,o,ho,he⟩:=ready_iff.1 hi;have hi':i<h+1:=by
       rcases s2Z i (h+1) with h3 | h3
       · exact h3
       · exfalso
         have:=zD3 hc hi i0 (hbits i h3 h1 i0 hi0);rw[this]at hli0;cases hli0
     have hli:listed[i]? = some false:=by
       rw[qvZ,quZ (show i<listed.size by omega)]at h2;rw[quZ (show i<listed.size by omega)];simpa using h2
     have hlif:listed.getD i false=false:=by rw[qvZ,hli];rfl
     have hic:c<=i:=by
       rcases s2Z i c with h3 | h3
       · have:=hlo' i h3
         rw[hlif]at this;cases this
       · exact h3
     have hset:∀k,(listed.setIfInBounds i true).getD k false=true↔(listed.getD k false=true\/k=i):=by
       intro k;rw[qvZ,qvZ,Array.getElem?_setIfInBounds];by_cases e:i=k
       · subst e
         rw[if_pos rfl,if_pos (by omega)];simp
       · rw[if_neg e]
         constructor
         · exact fun h=>.inl h
         · rintro (h | h)
           · exact h
           · exact absurd h.symm e
     have hsetf:∀k,k≠i->(listed.setIfInBounds i true).getD k false=listed.getD k false:=by
       intro k hk;cases hb:listed.getD k false with
       | true=>exact (hset k).2 (.inl hb)
       | false =>
         cases hb2:(listed.setIfInBounds i true).getD k false with
         | false=>rfl
         | true =>
           rcases (hset k).1 hb2 with h3 | h3
           · rw[hb]at h3;cases h3
           · exact absurd h3 hk
     have hnf':nf ((listed.setIfInBounds i true).toList.take (h+1))=u:=by
       have:=zIQ (listed.toList.take (h+1)) i (by rw[r4Z,if_pos hi'];simpa using hli);rw[Array.toList_setIfInBounds,List.take_set];omega
     have hhi2:∀k,h+1<=k->(listed.setIfInBounds i true).getD k false=false:=fun k hk=>by rw[hsetf k (by omega)];exact hhi' k hk
     have hlo2:∀k,k<c->(listed.setIfInBounds i true).getD k false=true:=fun k hk=>(hset k).2 (.inl (hlo' k hk));have hc2:∀(k:Nat) o e,(listed.setIfInBounds i true).getD k false=true->ops[k]? = some o->e∈o.after.toList->Region.binds .any e=true->(listed.setIfInBounds i true).getD e.on false=true:=by
       intro k o' e hk hok' hee hbe;rw[hset]at hk ⊢;rcases hk with hk | rfl
       · exact .inl (hc k o' e hk hok' hee hbe)
       · rw[ho]at hok'
         cases hok';exact .inl (he e hee hbe)
     rcases s2Z i h with hih | hih
     · -- one that only looks
       have hoV:V[i]? = some o:=by rw[hhi i hic hih];exact ho
       have hD':(fun k=>(k<h/\listed.getD k false=true)\/k=i)=fun k=>k<h/\(listed.setIfInBounds i true).getD k false=true:=by
         funext k
         refine propext ⟨?_,?_⟩
         · rintro (⟨k1,k2⟩ | rfl)
           · exact⟨k1,(hset k).2 (.inl k2)⟩
           · exact⟨hih,(hset k).2 (.inr rfl)⟩
         · rintro⟨k1,k2⟩
           exact ((hset k).1 k2).imp (fun h=>⟨k1,h⟩) id
       have hcV:∀(k:Nat) o e,(k<h/\listed.getD k false=true)->V[k]? = some o->e∈o.after.toList->Region.binds .any e=true->e.on<h/\listed.getD e.on false=true:=by
         intro k o' e ⟨hkh,hk⟩ hok' hee hbe;have hlt:=hedge k o' e hkh hok' hee hbe;rcases s2Z k c with h3 | h3
         · rw[hlo k h3]at hok'
           obtain⟨o2,_,rfl⟩:=qlZ.1 hok';simp[zM]at hee
         · rw[hhi k h3 hkh]at hok'
           exact⟨by omega,hc k o' e hk hok' hee hbe⟩
       have heV:∀e∈o.after.toList,Region.binds .any e=true->e.on<h/\listed.getD e.on false=true:=fun e hee hbe=>⟨by have:=hedge i o e hih hoV hee hbe;omega,he e hee hbe⟩
       have turn:∀{K:Act->World->Prop},wpOpIn (FW r) n P V Q i K a w->wpOpIn (FW r) n P ops Q i K a w:=by
         intro K key;unfold wpOpIn at key ⊢;rw[hoV]at key;rw[ho];dsimp only at key ⊢;have ew:Region.wanted o (yielded ops a.tmps)=Region.wanted o (yielded V a.tmps):=by
           unfold Region.wanted;split
           · rfl
           · rename_i j' want hg
             have hj:j'<h:=by
               have:=s5Z.1 hgd o (qcZ (i:=i) (by rw[r4Z,if_pos hih,riZ];exact ho));rw[hg]at this;simpa using this
             have ed:=hdst j' hj;unfold yielded;rw[ed]
         rw[ew];exact key
       rcases hst with⟨hlh,σ,hi1⟩ | ⟨hlh,hi1⟩
       · refine turn (hi1.go hΓ T hoV (fun hh=>by rw[hlif]at hh;cases hh.2) hcV heV r n fun σ' a' j' w' h'=>?_)
         rw[hD']at h';exact ih _ a' j' w' (by simpa using hs') hnf' hhi2 hlo2 hc2 (.inl ⟨by rw[hsetf h (by omega)];exact hlh,σ',h'⟩)
       · have hpi:p.testBit i=false:=by
           cases hb:p.testBit i with
           | false=>rfl
           | true=>rw[hpre i hb hlh]at hlif;cases hlif
         obtain⟨_,ok2⟩:=ok i o hih hoV;rcases ok2 with ok2 | ok2
         · rw[hpi]at ok2;cases ok2
         refine turn (hi1.go hΓ T ok2.2.2 hoV (fun hh=>by rw[hlif]at hh;cases hh.2) hcV heV (fun t ht x hx=>?_) (zCT _ _ _) ok2.2.1 r n fun a' w' h'=>?_)
         · rw[zBn _ _ _ _ (fun e=>ok2.1 t e ht)]
           exact hx
         · rw[hD']at h'
           exact ih _ a' j w' (by simpa using hs') hnf' hhi2 hlo2 hc2 (.inr ⟨by rw[hsetf h (by omega)];exact hlh,h'⟩)
     · -- the last one
       obtain rfl:i=h:=by omega
       rw[hoh]at ho;cases ho;rcases hst with⟨_,σ,hi1⟩ | ⟨hlh,_⟩;rotate_left
       · rw[hlif]at hlh;cases hlh
       have hM:VRs j (zAp V p (List.range i) (Fs V.size)) a.tmps.toList:=by
         refine VRs_iff.2 ⟨by rw[zE9,T.flen _ (qnZ _)];simpa using hi1.size,fun t x u hx hu=>?_⟩;have hu':a.tmps[t]? = some u:=by simpa using hu
         rcases zIf V p _ _ t x hx with rfl | ⟨h3,h4⟩
         · trivial
         rcases T.slot t x _ (qnZ _) h3 with⟨k,ok',q,k1,k2,k3,k4,rfl⟩ | ⟨k1,k2⟩
         · have hpk:p.testBit k=true:=by
             cases hb:p.testBit k with
             | true=>rfl
             | false=>exact absurd k4 (h4 k (List.mem_range.2 (by omega)) hb ok' k2)
           refine hi1.set k ok' q t u ⟨by omega,?_⟩ k2 k3 k4 hu';exact ZZ (ops:=ops.toList) (D:=fun k=>listed.getD k false=true) (fun k o e hk hok=>hc k o e hk (by simpa using hok)) i oh (by simpa using hoh) he k (by rw[hp];exact hpk)
         · exact hi1.old t x u (fun k o hk hko=>k1 k o (by omega) hko) k2 hu'
       unfold wpOpIn;rw[hoh];dsimp only;rw[zAQ hw hM];simp only[if_true];have hstep:=hi1.step;rw[hputs]at hstep;refine zKU hΓ hop hM hstep.rel r n fun cv j' w' hv hst2=>?_;have hjl:=hst2.jle hstep.rel (qnZ _);refine ih _ _ j' w' (by simpa using hs') hnf' hhi2 hlo2 hc2 (.inr ⟨(hset i).2 (.inr rfl),hstep.trans hst2 hstep.len,by rw[zCT,zLi];exact hi1.size,fun k o q t u hk hko hqk hdt hu=>?_,fun t x u hno hx hu=>?_,by rw[zAY];exact hi1.defers⟩)
       · have hk':k<i/\listed.getD k false=true:=⟨hk.1,by rw[<-hsetf k (by omega)];exact hk.2⟩
         rw[zDx _ _ _ _ ((ok k o hk.1 hko).1 t hdt)]at hu;exact (hi1.set k o q t u hk' hko hqk hdt hu).mono hjl
       · by_cases ed:oh.dst=some t
         · unfold ZW at hx
           unfold Act.put at hu;rw[ed]at hx hu;dsimp only at hx hu;rw[List.getElem?_set,if_pos rfl]at hx;rw[Array.getElem?_setIfInBounds,if_pos rfl]at hu;split at hx <;> split at hu <;> cases hx <;> cases hu
           exact hv
         · rw[zBn _ _ _ _ ed]at hx
           rw[zDx _ _ _ _ ed]at hu;exact (hi1.old t x u (fun k o hk hko=>hno k o ⟨hk.1,(hset k).2 (.inl hk.2)⟩ hko) hx hu).mono hjl
 have hnf:nf ((lst ops.size c).toList.take (h+1))=h+1-c:=by
   unfold lst;rw[rxZ,Array.toList_replicate,Array.toList_replicate,seZ,q6Z (by simp;omega),List.take_replicate,rwZ];have:∀(m k:Nat),nf (qbZ m true++qbZ k false)=k:=by
     intro m k;induction m with
     | zero=>simpa using zBY k
     | succ m ih=>rw[rvZ,q9Z];simpa[nf] using ih
   rw[this];omega
 have hl0:=T.heap hΓ V.size (qnZ _) 0 (by omega);rw[T.h0]at hl0;have e0:ops.size-c=ops.size-(h+1)+(h+1-c):=by omega
 rw[e0];refine way (h+1-c) _ a0 j0 w0 (zAV (by omega)) hnf (fun k hk=>by rw[zm];simp;omega) (fun k hk=>by rw[zm];simpa using hk) (fun k o e hk ho hee hbe=>?_) (.inl ⟨by rw[zm];simp;omega,[],by rw[hputs];exact Step.shows hR hl0.1 hl0.2 (qnZ _),fun b p hp=>.inl ?_,hFl,fun k o q t u hk ho hqk hdt hu=>?_,fun t x u _ hx hu=>?_,fun k=>⟨fun hk=>by simp at hk,?_⟩,by simp,fun k hk=>by simp at hk,hdf⟩)
 · rw[zm]at hk ⊢
   have hkc:k<c:=by simpa using hk
   simpa using hclosed k o e hkc ho hee hbe
 · rcases s2Z b H0.length with h1 | h1
   · exact h1
   · rw[hR.dom b h1]at hp;cases hp
 · have hk2:=hk.2
   rw[zm]at hk2;have hkc:k<c:=by simpa using hk2
   obtain⟨o1,ho1,rfl⟩:∃o1,ops[k]? = some o1/\o=zM o1:=by
     rw[hlo k hkc]at ho;obtain⟨o1,h1,h2⟩:=qlZ.1 ho;exact⟨o1,h1,h2.symm⟩
   have low:∀m,m<=c->Fs m=F0:=by
     intro m;induction m with
     | zero=>exact fun _=>T.f0
     | succ m ih =>
       intro hm;have hom:V[m]? = some (zM ops[m]):=by rw[hlo m (by omega),quZ (by omega)];rfl
       obtain⟨q1,hq1⟩:=T.q hom;obtain⟨s1,s2,_⟩:=T.each m _ q1 hom hq1;obtain⟨v1,g1,g2,_⟩:=zAE P Γ V (Fs m) (Hs m) ops[m];rw[g1]at s1;cases s1;rw[s2,g2];exact ih (by omega)
   obtain⟨s1,_,_⟩:=T.each k _ q ho hqk;obtain⟨v1,g1,_,g3⟩:=zAE P Γ V (Fs k) (Hs k) o1;rw[g1]at s1;cases s1;have hd1:o1.dst=some t:=hdt;have:=g3 t hd1;dsimp only;rw[this,low k (by omega)];have htl:t<F0.length:=by rw[hFl];exact (qtZ.1 hu).1
   refine (VRs_iff.1 hF).2 t _ u ?_ (by simpa using hu);rw[q2Z,q3Z htl];rfl
 · exact (VRs_iff.1 hF).2 t x u hx (by simpa using hu)
 · rintro⟨_,_,q,hqk,hst⟩
   rw[hst0 q (qcZ hqk)]at hst;cases hst
def zMU(ops:List Oper)(prs:List Nat)(c':Nat):Bool :=
 Nat.ble c' ops.length&&(List.range ops.length).all (fun k=>Nat.blt k c' || (prs.getD k 0) &&& (2 ^ c'-1)==2 ^ c'-1)&&(ops.take c').all (fun o=>match o.guard with | some (j,_)=>Nat.blt j c' | none=>true)
def zEZ(ops:List Oper):Bool:=(List.range ops.length).all fun k=>(ops.getD k default).after.toList.all fun e=>!Region.binds .any e || Nat.blt e.on k
theorem zFG{ops:Array Oper}{c':Nat}(h:zMU ops.toList (Zl ops.toList) c'=true):Cut ops c':=by
 unfold zMU at h;simp only[qrZ,s5Z,List.mem_range,Bool.or_eq_true,Nat.blt_eq,Nat.ble_eq]at h;obtain⟨⟨h1,h2⟩,h3⟩:=h;refine ⟨by simpa using h1,fun k hk hks m hm=>?_,fun i o j want hi ho hg=>?_⟩
 · rcases h2 k (by simpa using hks) with h4 | h4
   · omega
   · have h5:(Zl ops.toList).getD k 0 &&& (2 ^ c'-1)=2 ^ c'-1:=by simpa using h4
     have:=congrArg (fun x=>x.testBit m) h5;simp only[Nat.testBit_and,Nat.testBit_two_pow_sub_one]at this;simpa[hm] using this
 · have:=h3 o (qcZ (i:=i) (by rw[r4Z,if_pos hi,riZ];exact ho))
   rw[hg]at this;simpa using this
theorem zA6{ops:Array Oper}(h:zEZ ops.toList=true):∀(k:Nat) o e,ops[k]? = some o->e∈o.after.toList->Region.binds .any e=true->e.on<k:=by
 intro k o e ho he hb;unfold zEZ at h;simp only[s5Z,List.mem_range,Bool.or_eq_true,Bool.not_eq_true',Nat.blt_eq]at h;have hk:k<ops.size:=(qtZ.1 ho).1;rcases h k (by simpa using hk) e (by rw[q2Z,riZ,ho];exact he) with h1 | h1
 · rw[hb]at h1;cases h1
 · exact h1
def zAg(P:Program)(Γ:Gam)(ops:Array Oper):List Nat->Nat->List AV->zA->Option (List AV×zA)
 | [],c,F,H=>if c=ops.size then some (F,H) else none
 | c'::cs,c,F,H =>
   if zMU ops.toList (Zl ops.toList) c' then
     if c'=c+1 then
       match ops[c]? with
       | none=>none
       | some o =>
         match zAM ops o F with
         | none=>none
         | some false=>zAg P Γ ops cs c' (ZW F o.dst zV) H
         | some true =>
           match opA P Γ F H o.op with
           | none=>none
           | some (v,H')=>zAg P Γ ops cs c' (ZW F o.dst v) H'
     else if c<c' then
       match zJI P Γ (zF ops c c') (zF ops c c').toList F H [] [] with
       | none=>match zFM P Γ ops c (c'-1) F H with
         | none=>none
         | some (F',H')=>zAg P Γ ops cs c' F' H'
       | some (F',H')=>zAg P Γ ops cs c' F' H'
     else none
   else none
theorem zAx{P:Program}{Γ:Gam}(hΓ:GOk P Γ){ops:Array Oper}(hedge:∀(k:Nat) o e,ops[k]? = some o->e∈o.after.toList->Region.binds .any e=true->e.on<k){ds:List Deferred}(r:Option Nat)(n:Nat){Q:Exit->Act->World->Prop}{F':List AV}{H':zA} :
   ∀(cs:List Nat) (c:Nat) (F0:List AV) (H0:zA) (j0:Inj) (w0:World) (a0:Act),zAg P Γ ops cs c F0 H0=some (F',H')->R j0 H0 w0->VRs j0 F0 a0.tmps.toList->a0.defers=ds ->
     (∀j a w,VRs j F' a.tmps.toList->a.defers=ds->Step H0.length j0 H0 w0 j H' w->Q .normal a w)->wpAnyIn (FW r) n P .any ops Q (ops.size-c) (lst ops.size c) a0 w0
 | [],c,F0,H0,j0,w0,a0,h,hR,hF,hdf,hq=>by
   unfold zAg at h;split at h <;> cases h
   rename_i hc;subst hc;rw[Nat.sub_self];refine ⟨?_,hq j0 a0 w0 hF hdf (Step.refl hR (qnZ _))⟩;rw[List.eq_nil_iff_forall_not_mem];intro i hi;obtain⟨h1,h2,_⟩:=ready_iff.1 hi;have:=zm ops.size ops.size i;rw[qvZ,quZ (show i<(lst ops.size ops.size).size by rw[zAV (qnZ _)];exact h1)]at h2 this;simp at h2 this;rw[this]at h2;simp at h2;omega
 | c'::cs,c,F0,H0,j0,w0,a0,h,hR,hF,hdf,hq=>by
   unfold zAg at h;split at h;rotate_left
   · cases h
   rename_i hcut;have hcut:=zFG hcut;split at h
   · rename_i hc'
     subst hc';split at h
     · cases h
     rename_i o ho;split at h
     · cases h
     · rename_i hw
       exact zJk hΓ ho hcut hR hF hdf hedge r n (.inl ⟨hw,rfl,rfl⟩) fun j a w h1 h2 h3 =>
         zAx hΓ hedge r n cs (c+1) _ H0 j w a h h3.rel h1 h2 fun j2 a2 w2 g1 g2 g3=>hq j2 a2 w2 g1 g2 (h3.trans g3 h3.len)
     · rename_i hw
       split at h
       · cases h
       rename_i v H1 hv;exact zJk hΓ ho hcut hR hF hdf hedge r n (.inr ⟨hw,v,hv,rfl⟩) fun j a w h1 h2 h3 =>
         zAx hΓ hedge r n cs (c+1) _ H1 j w a h h3.rel h1 h2 fun j2 a2 w2 g1 g2 g3=>hq j2 a2 w2 g1 g2 (h3.trans g3 h3.len)
   · split at h
     rotate_left
     · cases h
     rename_i hne hle;split at h
     · split at h
       · cases h
       rename_i F1 H1 hst;have e1:c'-1+1=c':=by omega
       exact zO9 hΓ (c:=c) (h:=c'-1) (by omega) (by rw[e1];exact hcut) hst hR hF hdf r n (fun j a w h1 h2 h3=>by
         rw[e1];exact zAx hΓ hedge r n cs c' _ H1 j w a h h3.rel h1 h2 fun j2 a2 w2 g1 g2 g3=>hq j2 a2 w2 g1 g2 (h3.trans g3 h3.len)) (fun k o e hk ho hee hbe=>by have:=hedge k o e ho hee hbe;omega) hedge
     rename_i F1 H1 hst;rw[zIM,<-zD0]at hst;exact zMc hΓ (Nat.le_of_lt hle) hcut hst hR hF hdf r n (fun j a w h1 h2 h3 =>
       zAx hΓ hedge r n cs c' _ H1 j w a h h3.rel h1 h2 fun j2 a2 w2 g1 g2 g3=>hq j2 a2 w2 g1 g2 (h3.trans g3 h3.len)) (fun k o e hk ho hee hbe=>by have:=hedge k o e ho hee hbe;omega)
def zU9(ops:List Oper):List Nat:=(List.range ops.length).filterMap fun c=>if zMU ops (Zl ops) (c+1) then some (c+1) else none
def zOV(P:Program)(Γ:Gam)(ops:Array Oper)(F:List AV)(H:zA):Option (List AV×zA) :=
 match zJI P Γ ops ops.toList F H [] [] with
 | some r=>some r
 | none=>if zEZ ops.toList then zAg P Γ ops (zU9 ops.toList) 0 F H else none
theorem zQk{P:Program}{Γ:Gam}(hΓ:GOk P Γ){ops:Array Oper}{F0 F':List AV}{H0 H':zA}(hd:zOV P Γ ops F0 H0=some (F',H')){j0:Inj}{w0:World}{a0:Act}(hR:R j0 H0 w0)(hF:VRs j0 F0 a0.tmps.toList){ds:List Deferred}(hdf:a0.defers=ds)
   (r:Option Nat) (n:Nat) {Q:Exit->Act->World->Prop} (hq:∀j a w,VRs j F' a.tmps.toList->a.defers=ds->Step H0.length j0 H0 w0 j H' w->Q .normal a w) :
   wpAnyIn (FW r) n P .any ops Q ops.size (Array.replicate ops.size false) a0 w0:=by
 unfold zOV at hd;split at hd
 · rename_i r' hr
   cases hd;rw[zIM,<-zD0]at hr;exact zOu hΓ hr hR hF hdf r n hq
 · split at hd
   rotate_left
   · cases hd
   rename_i he;have:=zAx hΓ (zA6 he) r n (Q:=Q) (ds:=ds) _ 0 F0 H0 j0 w0 a0 hd hR hF hdf hq;have e:lst ops.size 0=Array.replicate ops.size false:=by simp[lst]
   rw[e]at this;exact this
end
def SimR(P:Program)(r:Option Nat)(n0:Nat)(ops:Array Oper)(c:Nat)(F:List AV)(H:zA)(Q:AX->List AV->zA->Prop):Prop :=
 ∀B jb Hb wb j w a m,B<=wb.heap.size->Step n0 jb Hb wb j H w->VRs j F a.tmps.toList->DefOk B w a.defers ->
   wpAnyIn (FW r) m P .any ops (fun e a' w'=>∃x F' H' j',e=AX.toExit x/\Q x F' H'/\VRs j' F' a'.tmps.toList/\DefOk B w' a'.defers/\Step n0 jb Hb wb j' H' w') (ops.size-c) (lst ops.size c) a w
theorem Sim.draw{P:Program}(hm:P.follows .mixedOrders=true){r:Option Nat}{n0 k:Nat}{ops:Array Oper}{F:List AV}{H:zA}{Q:AX->List AV->zA->Prop}(hn:n0<=H.length)(h:SimR P r n0 ops 0 F H Q):Sim P r n0 (.region k ops true) F H Q:=by
 intro B j w a m hB hR hF hd;refine wpIn_region_any hm ?_;have:=h B j H w j { w with drawn:=w.drawn+1 } a m hB (zCe (Step.refl (hR.heapEq rfl) hn)) hF hd;have e:lst ops.size 0=Array.replicate ops.size false:=by simp[lst]
 rw[e]at this;exact this
theorem SimR.done{P:Program}{r:Option Nat}{n0 c:Nat}{ops:Array Oper}{F:List AV}{H:zA}{Q:AX->List AV->zA->Prop}(hc:c=ops.size)(h:Q .normal F H):SimR P r n0 ops c F H Q:=by
 intro B jb Hb wb j w a m hB hs hF hd;subst hc;rw[Nat.sub_self];refine ⟨?_,.normal,F,H,j,rfl,h,hF,hd,hs⟩;rw[List.eq_nil_iff_forall_not_mem];intro i hi;obtain⟨h1,h2,_⟩:=ready_iff.1 hi;have:=zm ops.size ops.size i;rw[qvZ,quZ (show i<(lst ops.size ops.size).size by rw[zAV (qnZ _)];exact h1)]at h2 this;simp at h2 this;rw[this]at h2;simp at h2;omega
theorem SimR.one{P:Program}{Γ:Gam}(hΓ:GOk P Γ){r:Option Nat}{n0 c:Nat}{ops:Array Oper}{F F':List AV}{H H':zA}{Q:AX->List AV->zA->Prop}(o:Oper)(ho:ops[c]? = some o)(hb:(zEZ ops.toList&&zMU ops.toList (Zl ops.toList) (c+1))=true)
   (hrun:(match zAM ops o F with | none=>none | some false=>some (ZW F o.dst zV,H) | some true=>match opA P Γ F H o.op with | none=>none | some (v,H1)=>some (ZW F o.dst v,H1))=some (F',H')) (k:SimR P r n0 ops (c+1) F' H' Q):SimR P r n0 ops c F H Q:=by
 intro B jb Hb wb j w a m hB hs hF hd;rw[qrZ]at hb;have hrun':(zAM ops o F=some false/\F'=ZW F o.dst zV/\H'=H)\/(zAM ops o F=some true/\∃v,opA P Γ F H o.op=some (v,H')/\F'=ZW F o.dst v):=by
   split at hrun
   · cases hrun
   · rename_i hw;cases hrun;exact .inl ⟨hw,rfl,rfl⟩
   · rename_i hw
     split at hrun
     · cases hrun
     · rename_i v H1 hv;cases hrun;exact .inr ⟨hw,v,hv,rfl⟩
 exact zJk hΓ ho (zFG hb.2) hs.rel hF rfl (zA6 hb.1) r m hrun' fun j1 a1 w1 h1 h2 h3 =>
   k B jb Hb wb j1 w1 a1 m hB (hs.trans h3 hs.len) h1 (by rw[h2];exact hd.step hs.rel h3)
theorem SimR.many{P:Program}{Γ:Gam}(hΓ:GOk P Γ){r:Option Nat}{n0 c:Nat}(c':Nat){ops:Array Oper}{F F':List AV}{H H':zA}{Q:AX->List AV->zA->Prop}{A:Array Oper}(hA:zF ops c c'=A)(hcc:c<=c')(hb:(zEZ ops.toList&&zMU ops.toList (Zl ops.toList) c')=true)
   (hrun:zJh P Γ A A.toList F H [] []=some (F',H')) (k:SimR P r n0 ops c' F' H' Q):SimR P r n0 ops c F H Q:=by
 intro B jb Hb wb j w a m hB hs hF hd;rw[qrZ]at hb;subst hA;rw[zFF,<-zD0]at hrun;exact zMc hΓ hcc (zFG hb.2) hrun hs.rel hF rfl r m (fun j1 a1 w1 h1 h2 h3 =>
   k B jb Hb wb j1 w1 a1 m hB (hs.trans h3 hs.len) h1 (by rw[h2];exact hd.step hs.rel h3)) (fun k o e hk ho hee hbe=>by have:=zA6 hb.1 k o e ho hee hbe;omega)
def zJM:Nat->Code->Code
 | 0,c=>c
 | n+1,.seq _ y=>zJM n y
 | _+1,_=>.skip
def zU0(f:Func):Code:=f.body.getD .skip
def zu(P:Program)(Γ:Gam)(n:Nat)(q:Bool):Code->List AV->zA->zOW
 | .skip,F,H=>some (.normal,F,H)
 | .label _,F,H=>some (.normal,F,H)
 | .region _ ops false,F,H=>(zn P Γ ops ops.toList F H).map fun r=>(.normal,r)
 | .region _ ops true,F,H=>(zOV P Γ ops F H).map fun r=>(.normal,r)
 | .seq x y,F,H =>
   match zu P Γ n q x F H with
   | some (.normal,F',H')=>zu P Γ n q y F' H'
   | r=>r
 | .cond c x y,F,H =>
   match ev F c with
   | .bool t=>if t then zu P Γ n q x F H else zu P Γ n q y F H
   | _=>none
 | .block id x,F,H =>
   match zu P Γ n q x F H with
   | some (.exit id',F',H')=>if id'=id then some (.normal,F',H') else some (.exit id',F',H')
   | r=>r
 | .loop x,F,H=>aloop (fun F H=>zu P Γ n q x F H) n F H
 | .scope x,F,H=>zu P Γ n q x F H
 | .exit id,F,H=>some (.exit id,F,H)
 | .ret,F,H=>some (.ret,F,H)
 | .rangeFunc g ps asg body,F,H=>zJ P Γ n q (.rangeFunc g ps asg body) F H
 | _,_,_=>none
theorem Zb{P:Program}{Γ:Gam}(hm:P.follows .mixedOrders=true)(hΓ:GOk P Γ)(r:Option Nat)(n:Nat)(q:Bool)(hqr:q=true->r=none):∀(c:Code) (F F':List AV) (H H':zA) (x:AX),zu P Γ n q c F H=some (x,F',H') ->
   Sim P r H.length c F H fun x1 F1 H1=>x1=x/\F1=F'/\H1=H'
 | .skip,F,F',H,H',x,h=>fun B j w a m hB hR hF hd=>by
   simp only[zu]at h;cases h;exact wpIn_skip ⟨.normal,F,H,j,rfl,⟨rfl,rfl,rfl⟩,hF,hd,Step.refl hR (qnZ _)⟩
 | .label l,F,F',H,H',x,h=>fun B j w a m hB hR hF hd=>by
   simp only[zu]at h;cases h;exact wpIn_label ⟨.normal,F,H,j,rfl,⟨rfl,rfl,rfl⟩,hF,hd,Step.refl hR (qnZ _)⟩
 | .region id ops false,F,F',H,H',x,h=>fun B j w a m hB hR hF hd=>by
   simp only[zu]at h;obtain⟨⟨F1,H1⟩,h1,e⟩:=qlZ.1 h;cases e;refine wpIn_region_list (zGm hΓ r m ops.toList F F' H H' j w a h1 hR hF _ rfl fun j' w' a' g1 g2 g3=>?_);exact⟨.normal,F',H',j',rfl,⟨rfl,rfl,rfl⟩,g1,by rw[g2];exact hd.step hR g3,g3⟩
 | .region id ops true,F,F',H,H',x,h=>fun B j w a m hB hR hF hd=>by
   simp only[zu]at h;obtain⟨⟨F1,H1⟩,h1,e⟩:=qlZ.1 h;cases e;refine wpIn_region_any hm (zQk (w0:={ w with drawn:=w.drawn+1 }) hΓ h1 (hR.heapEq rfl) hF rfl r m fun j' a' w' g1 g2 g3=>?_);exact⟨.normal,F',H',j',rfl,⟨rfl,rfl,rfl⟩,g1,by rw[g2];exact hd.step hR (zCe g3),zCe g3⟩
 | .seq c d,F,F',H,H',x,h=>by
   simp only[zu]at h;refine Sim.seq ?_;cases hc:zu P Γ n q c F H with
   | none=>rw[hc]at h;cases h
   | some r1 =>
     obtain⟨x1,F1,H1⟩:=r1;rw[hc]at h;refine (Zb hm hΓ r n q hqr c F F1 H H1 x1 hc).mono ?_;rintro x2 F2 H2 hl ⟨rfl,rfl,rfl⟩;cases x2 with
     | normal=>exact (Zb hm hΓ r n q hqr d _ _ _ _ _ h).len hl
     | exit id=>cases h;exact⟨rfl,rfl,rfl⟩
     | ret=>cases h;exact⟨rfl,rfl,rfl⟩
 | .cond c t e,F,F',H,H',x,h=>by
   simp only[zu]at h;split at h
   · rename_i b hb
     refine Sim.cond hb ?_;cases b with
     | true=>exact Zb hm hΓ r n q hqr t _ _ _ _ _ h
     | false=>exact Zb hm hΓ r n q hqr e _ _ _ _ _ h
   · cases h
 | .block id c,F,F',H,H',x,h=>by
   simp only[zu]at h;refine Sim.block ?_;cases hc:zu P Γ n q c F H with
   | none=>rw[hc]at h;cases h
   | some r1 =>
     obtain⟨x1,F1,H1⟩:=r1;rw[hc]at h;refine (Zb hm hΓ r n q hqr c F F1 H H1 x1 hc).mono ?_;rintro x2 F2 H2 _ ⟨rfl,rfl,rfl⟩;cases x2 with
     | normal=>cases h;exact⟨rfl,rfl,rfl⟩
     | exit id' =>
       dsimp only at h ⊢;split at h
       · rename_i e;rw[if_pos e];cases h;exact⟨rfl,rfl,rfl⟩
       · rename_i e;rw[if_neg e];cases h;exact⟨rfl,rfl,rfl⟩
     | ret=>cases h;exact⟨rfl,rfl,rfl⟩
 | .loop c,F,F',H,H',x,h=>by
   simp only[zu]at h;exact Sim.aloop _ (fun F1 H1 x1 F2 H2 h1=>Zb hm hΓ r n q hqr c F1 F2 H1 H2 x1 h1) n F H x F' H' h
 | .exit id,F,F',H,H',x,h=>fun B j w a m hB hR hF hd=>by
   simp only[zu]at h;cases h;exact wpIn_exit ⟨.exit id,F,H,j,rfl,⟨rfl,rfl,rfl⟩,hF,hd,Step.refl hR (qnZ _)⟩
 | .ret,F,F',H,H',x,h=>fun B j w a m hB hR hF hd=>by
   simp only[zu]at h;cases h;exact wpIn_ret ⟨.ret,F,H,j,rfl,⟨rfl,rfl,rfl⟩,hF,hd,Step.refl hR (qnZ _)⟩
 | .rangeFunc g ps asg body,F,F',H,H',x,h=>zFL hm hΓ r n q hqr h
 | .scope c,F,F',H,H',x,h=>by
   simp only[zu]at h;exact Sim.scope (Zb hm hΓ r n q hqr c F F' H H' x h)
 | .goto _,_,_,_,_,_,h=>by simp[zu]at h
 | .refuse _,_,_,_,_,_,h=>by simp[zu]at h
def zEC(P:Program)(Γ:Gam)(n:Nat)(fn:Func)(args:List AV)(H:zA):Option (AV×zA) :=
 match fn.body with
 | none=>none
 | some c =>
   match zu P Γ n true c (args++qbZ (fn.ntmps-args.length) zV) H with
   | some (.ret,F',H')=>(zCt P fn.results.toList F' H').map (·,H')
   | some (.normal,F',H')=>(zCt P fn.results.toList F' H').map (·,H')
   | _=>none
def zE7(P:Program)(Γ:Gam)(n:Nat):List AV->zA->Option (AV×zA×List Nat)
 | .yld b::args,H =>
   match H[b]? with
   | some (.loop ps asg body .ready _ F) =>
     if args.length=ps.size then
       match zu P Γ n false asg (zCz F ps.toList args) H with
       | some (.normal,F1,H1) =>
         match H1[b]? with
         | some (.loop ps1 asg1 body1 .ready pe1 F') =>
           match zu P Γ n false body F1 (H1.set b (.loop ps1 asg1 body1 .busy pe1 F')) with
           | some (x,_,H2) =>
             match H2[b]? with
             | some (.loop ps2 asg2 body2 _ _ F'')=>some (.bool (zVB x),H2.set b (zVG ps2 asg2 body2 F'' x),[])
             | _=>none
           | none=>none
         | _=>none
       | _=>none
     else none
   | _=>none
 | _,_=>none
theorem zNB{P:Program}(hm:P.follows .mixedOrders=true){Γ:Gam}(hΓ:GOk P Γ)(n:Nat):zNC P (zE7 P Γ n):=by
 intro b args H v H' W h j w cargs p m hR hargs hp;simp only[zE7]at h;split at h;rotate_left
 · cases h
 rename_i ps asg body pe F hb;split at h;rotate_left
 · cases h
 rename_i hlen;split at h;rotate_left
 · cases h
 rename_i F1 H1 ha;split at h;rotate_left
 · cases h
 rename_i ps1 asg1 body1 pe1 F' hb1;split at h;rotate_left
 · cases h
 rename_i x F2 H2 hbody;split at h;rotate_left
 · cases h
 rename_i ps2 asg2 body2 st2 pe2 F'' hb2;cases h;obtain⟨fn,tmps,D,hl,hF⟩:=hR.blk _ _ p hb hp;have hblt:b<H.length:=(q1Z.1 hb).1;have hsz:cargs.size=ps.size:=by
   have:=hargs.length;simp at this;omega
 refine ⟨fn,_,asg,body,run_yield hl hsz,roundIn_of_wpIn trivial ?_⟩;have hF1:=zEg (j:=j) ps.toList args cargs.toList F tmps hF hargs;have etm:((ps.zip cargs).foldl (fun t (x:Tmp×Value)=>t.setIfInBounds x.1 x.2) tmps)=((ps.toList.zip cargs.toList).foldl (fun t pv=>t.setIfInBounds pv.1 pv.2) tmps):=by
   rw[<-Array.foldl_toList,Array.toList_zip]
 refine wpIn_mono (Zb hm hΓ (some p.blk) n false (by simp) asg _ F1 H H1 .normal ha 0 j w _ m (qqZ _) hR (by rw[etm];exact hF1) (DefOk.nil _ _)) ?_;rintro e a1 w1 ⟨x1,F1',H1',j1,rfl,⟨rfl,rfl,rfl⟩,g3,g4,s1⟩;have hp1:j1 b=some p:=by rw[s1.ext b hblt];exact hp
 obtain⟨fn1,tmps1,D1,hl1,hF1'⟩:=s1.rel.blk _ _ p hb1 hp1;have s2:=zAw (o:=.loop { ({ state:=.ready,pending:=pe1,fn:=fn1,tmps:=tmps1,params:=ps1,assign:=asg1,body:=body1,defers:=D1 }:Loop) with state:=.busy }) (y:=.loop ps1 asg1 body1 .busy pe1 F') s1.rel hb1 rfl hp1 (.inr rfl) ⟨fn1,tmps1,D1,World.putObj_heap_same (qtZ.1 hl1).1,hF1'⟩;refine ⟨_,run_beginRound hl1 rfl,?_⟩;have s12:=s1.trans s2 s1.len;refine wpIn_mono (Zb hm hΓ (some p.blk) n false (by simp) body _ F2 _ H2 x hbody 0 j1 _ a1 m (qqZ _) s2.rel g3 (g4.step s1.rel s2)) ?_;rintro e a2 w2 ⟨x2,F2',H2',j2,rfl,⟨rfl,rfl,rfl⟩,k3,k4,s3⟩;have hblt1:b<H1'.length:=(q1Z.1 hb1).1;have hp2:j2 b=some p:=by rw[s3.ext b (by simpa using hblt1)];exact hp1
 obtain⟨fn2,tmps2,D2,hl2,hF2⟩:=s3.rel.blk _ _ p hb2 hp2;have s123:=s12.trans s3 (by simpa using s1.len);have fin:∀st pe,Step H.length j H w j2 (H2'.set b (.loop ps2 asg2 body2 st pe F'')) (w2.putObj p.blk (.loop { ({ state:=st2,pending:=pe2,fn:=fn2,tmps:=tmps2,params:=ps2,assign:=asg2,body:=body2,defers:=D2 }:Loop) with state:=st,pending:=pe })):=fun st pe =>
   s123.trans (zAw (y:=.loop ps2 asg2 body2 st pe F'') s3.rel hb2 rfl hp2 (.inr rfl) ⟨fn2,tmps2,D2,World.putObj_heap_same (qtZ.1 hl2).1,hF2⟩) s123.len
 cases x2 with
 | normal=>exact⟨_,_,run_endRound none hl2,_,j2,rfl,rfl,fin .ready none⟩
 | ret=>exact⟨_,_,run_endRound (some .ret) hl2,_,j2,rfl,rfl,fin .done (some .ret)⟩
 | exit id=>exact⟨_,_,run_endRound (some (.exit id)) hl2,_,j2,rfl,rfl,fin .done (some (.exit id))⟩
def ZL:ABlk->Bool
 | .loop ..=>true
 | _=>false
def noY:AV->Bool
 | .yld _=>false
 | .func _ xs ys=>(xs.all fun x=>match x with | .yld _=>false | _=>true)&&ys.all fun x=>match x with | .yld _=>false | _=>true
 | _=>true
def zB5(H:zA):zA:=H.map fun x=>if ZL x then .dead else x
def zBV:zA->zA->zA
 | [],H1=>H1
 | x::H,y::H1=>(if x.own&&!ZL x then y else x)::zBV H H1
 | _::_,[]=>[]
def zId(H H':zA):List Nat:=(List.range H.length).filter fun b=>!(ZL (H.getD b .dead) || ZP (H.getD b .dead) (H'.getD b .dead))
def zBR(x:ABlk):ABlk:=match x with
 | .cells o _=>if o then x else .dead
 | .obj o _=>if o then x else .dead
 | .pin _=>.dead
 | _=>x
def zE1:Nat->zA->zA
 | 0,B=>B.map zBR
 | _+1,[]=>[]
 | n+1,x::A=>x::zE1 n A
theorem zPp(x:ABlk):zBM [zBR x]=true:=by
 cases x with
 | cells o l=>cases o <;> simp[zBR,zBM]
 | obj o s=>cases o <;> simp[zBR,zBM]
 | _=>simp[zBR,zBM]
theorem zLE(x:ABlk):zBR x=x\/zBR x=.dead:=by
 cases x with
 | cells o l=>cases o <;> simp[zBR]
 | obj o s=>cases o <;> simp[zBR]
 | _=>simp[zBR]
theorem zLd:∀(B:zA),zBM (B.map zBR)=true
 | []=>rfl
 | x::B=>by
   have h1:=zPp x;have h2:=zLd B;unfold zBM at h1 h2 ⊢;simp only[s1Z,List.all_cons,List.all_nil,Bool.and_true,qrZ]at h1 h2 ⊢;exact⟨h1,h2⟩
theorem zMG:∀(n:Nat) (H:zA),zE1 n H=H.take n++(H.drop n).map zBR
 | 0,B=>by simp[zE1]
 | _+1,[]=>by simp[zE1]
 | n+1,x::A=>by simp[zE1,zMG n A]
theorem zO4{P:Program}{f:FuncId}{args:List AV}{H:zA}{v:AV}:∀(B A:zA),H.length<=A.length->Ct P f args H v (A++B)->Ct P f args H v (A++B.map zBR)
 | [],A,_,h=>by simpa using h
 | x::B,A,hl,h=>by
   have h1:Ct P f args H v (A++zBR x::B):=by
     rcases zLE x with e | e
     · rw[e];exact h
     · rw[e]
       intro j w cargs hR hargs;refine (h j w cargs hR hargs).mono ?_;rintro e' w' ⟨cv,j',rfl,hv,st⟩;have hk:=zCc st.rel A.length;have he:(A++x::B).set A.length .dead=A++ABlk.dead::B:=by simp
       rw[he]at hk;exact⟨cv,j',rfl,hv,st.trans hk st.len⟩
   have h2:=zO4 (P:=P) (f:=f) (args:=args) (H:=H) (v:=v) B (A++[zBR x]) (by simp;omega) (by simpa using h1);simpa using h2
def zT7(args:List AV)(H:zA):Bool:=H.any ZL&&(args.all noY&&(ze H.length args&&H.all (zCA H.length)))
def zSB(P:Program)(Γ:Gam)(n:Nat)(fn:Func)(args:List AV)(H:zA):Option (AV×zA×List Nat) :=
 if zT7 args H then
   match zEC P Γ n fn args (zB5 H) with
   | some (v,H1)=>if Nat.ble H.length H1.length then some (v,zBV H (zE1 H.length H1),zId H (zBV H (zE1 H.length H1))) else none
   | none=>none
 else none
def zLg(P:Program)(Γ:Gam)(n:Nat)(fn:Func)(args:List AV)(H:zA):Option (AV×zA×List Nat) :=
 match zSB P Γ n fn args H with
 | some r=>some r
 | none=>if zT7 args H then none else match zEC P Γ n fn args H with
   | some (v,H')=>if H.length<=H'.length then some (v,H',zCn H H') else none
   | none=>none
mutual
theorem AW.range{n:Nat}:∀(x:AV),below n x=true->AW (List.range n) x x
 | .top,_=>by simp[AW]
 | .bool _,_=>by simp[AW]
 | .int _ _,_=>by simp[AW]
 | .str _,_=>by simp[AW]
 | .ptr b o,h=>by
   simp only[below,decide_eq_true_eq]at h;simp[AW,h]
 | .nilp,_=>by simp[AW]
 | .slice b o l sz c,h=>by
   simp only[below,decide_eq_true_eq]at h;simp[AW,h]
 | .sl b o l sz c,h=>by
   simp only[below,decide_eq_true_eq]at h;simp[AW,h]
 | .nils,_=>by simp[AW]
 | .map b,h=>by
   simp only[below,decide_eq_true_eq]at h;simp[AW,h]
 | .nilm,_=>by simp[AW]
 | .func f xs ys,h=>by
   simp only[below,qrZ]at h;simp only[AW,true_and];exact⟨AWs.range xs h.1,AWs.range ys h.2⟩
 | .yld b,h=>by
   simp only[below,decide_eq_true_eq]at h;simp[AW,h]
 | .nilf,_=>by simp[AW]
 | .agg l,h=>by
   simp only[below]at h;simp only[AW];exact AWs.range l h
 | .tuple l,h=>by
   simp only[below]at h;simp only[AW];exact AWs.range l h
theorem AWs.range{n:Nat}:∀(l:List AV),ze n l=true->AWs (List.range n) l l
 | [],_=>by simp[AWs]
 | x::xs,h=>by
   simp only[ze,qrZ]at h;simp only[AWs];exact⟨AW.range x h.1,AWs.range xs h.2⟩
end
theorem zNQ{n:Nat}{es:List (AV×AV)}(h:(es.all fun e=>below n e.1&&below n e.2)=true):ze n (es.map (·.1))=true/\ze n (es.map (·.2))=true:=by
 induction es with
 | nil=>exact⟨rfl,rfl⟩
 | cons e es ih =>
   simp only[List.all_cons,qrZ]at h;obtain⟨h1,h2⟩:=ih h.2;simp only[s1Z,ze,qrZ];exact⟨⟨h.1.1,h1⟩,h.1.2,h2⟩
theorem AWb.rangeL{n:Nat}{x:ABlk}(h:zCA n x=true):AWb (List.range n) (if ZL x then .dead else x) x:=by
 cases x with
 | dead=>simp[ZL,AWb]
 | cells o l=>simp only[ZL,qsZ,if_false,AWb];exact⟨id,AWs.range l h⟩
 | loop=>simp[ZL,AWb]
 | map es =>
   simp only[ZL,qsZ,if_false,AWb];obtain⟨h1,h2⟩:=zNQ h;exact⟨AWs.range _ h1,AWs.range _ h2⟩
 | obj o s=>simp[ZL,AWb]
 | pin l=>simp only[ZL,qsZ,if_false,AWb];exact AWs.range l h
theorem AWh.of{rn:List Nat}{H:zA}:∀(xs:zA) (bs:List Nat),xs.length=bs.length->(∀(i:Nat) x b,xs[i]? = some x->bs[i]? = some b->AWb rn x (H.getD b .dead)/\b<H.length)->AWh rn H xs bs
 | [],[],_,_=>by simp[AWh]
 | [],_::_,h,_=>by simp at h
 | _::_,[],h,_=>by simp at h
 | x::xs,b::bs,h,hall=>by
   simp only[AWh];obtain⟨h1,h2⟩:=hall 0 x b rfl rfl;refine ⟨h1,h2,AWh.of xs bs (by simpa using h) fun i y c hy hc=>hall (i+1) y c (by simpa using hy) (by simpa using hc)⟩
theorem AWh.rangeL{H:zA}(h:H.all (zCA H.length)=true):AWh (List.range H.length) H (zB5 H) (List.range H.length):=by
 refine AWh.of _ _ (by simp[zB5]) fun i x b hx hb=>?_;obtain⟨hi,rfl⟩:=q1Z.1 hb;rw[List.length_range]at hi;rw[List.getElem_range];unfold zB5 at hx;rw[qzZ,q3Z hi]at hx;cases hx;rw[q2Z,q3Z hi];exact⟨AWb.rangeL (s5Z.1 h _ (r3Z hi)),hi⟩
theorem zGY(n i:Nat):Zr (List.range n) n i=i:=by
 unfold Zr;by_cases h:i<n
 · rw[rfZ h]
 · rw[s4Z (by simpa using h)]
   simp only[List.length_range];omega
mutual
theorem zOA{g:Nat->Nat}(hg:∀i,g i=i):∀(x:AV),reA g x=x
 | .top=>by simp[reA]
 | .bool _=>by simp[reA]
 | .int _ _=>by simp[reA]
 | .str _=>by simp[reA]
 | .ptr _ _=>by simp[reA,hg]
 | .nilp=>by simp[reA]
 | .slice _ _ _ _ _=>by simp[reA,hg]
 | .sl _ _ _ _ _=>by simp[reA,hg]
 | .nils=>by simp[reA]
 | .map _=>by simp[reA,hg]
 | .nilm=>by simp[reA]
 | .func f xs ys=>by simp only[reA];rw[zDn hg xs,zDn hg ys]
 | .yld _=>by simp[reA,hg]
 | .nilf=>by simp[reA]
 | .agg l=>by simp only[reA];rw[zDn hg l]
 | .tuple l=>by simp only[reA];rw[zDn hg l]
theorem zDn{g:Nat->Nat}(hg:∀i,g i=i):∀(l:List AV),ZV g l=l
 | []=>by simp[ZV]
 | x::xs=>by simp only[ZV];rw[zOA hg x,zDn hg xs]
end
theorem zDJ{g:Nat->Nat}(hg:∀i,g i=i)(x:ABlk):reB g x=x:=by
 cases x <;> simp[reB,zDn hg,zOA hg]
theorem zH7:∀(H H1:zA) (b:Nat) (x y:ABlk),H[b]? = some x->H1[b]? = some y->(zBV H H1)[b]? = some (if x.own&&!ZL x then y else x)
 | [],_,_,_,_,h,_=>by simp at h
 | _::_,[],_,_,_,_,h=>by simp at h
 | x::H,y::H1,0,x',y',h,h'=>by
   simp only[raZ,Option.some.injEq]at h h';subst h;subst h';simp[zBV]
 | x::H,y::H1,b+1,x',y',h,h'=>by
   simp only[r9Z]at h h';simp only[zBV,r9Z];exact zH7 H H1 b x' y' h h'
theorem zCl:∀(H H1:zA),H.length<=H1.length->(zBV H H1).length=H1.length
 | [],_,_=>by simp[zBV]
 | _::_,[],h=>by simp at h
 | _::H,_::H1,h=>by
   simp only[zBV,q7Z];rw[zCl H H1 (by simpa using h)]
theorem zHc:∀(H H1:zA) (b:Nat),H.length<=b->(zBV H H1)[b]? = H1[b]?
 | [],_,_,_=>by simp[zBV]
 | _::_,[],_,_=>by simp[zBV]
 | _::H,_::H1,0,h=>by simp at h
 | _::H,_::H1,b+1,h=>by
   simp only[zBV,r9Z];exact zHc H H1 b (by simpa using h)
theorem zRK{H H1:zA}(hl:H.length<=H1.length){g:Nat->Nat}(hg:∀i,g i=i) :
   zW g H (List.range H.length) (zB5 H) H1++(H1.drop H.length).map (reB g)=zBV H H1:=by
 refine List.ext_getElem? fun b=>?_;by_cases hb:b<H.length
 · rw[q4Z (by rw[zAP];exact hb)]
   have hb1:b<H1.length:=by omega
   rw[zH7 H H1 b _ _ (q3Z hb) (q3Z hb1)];have hm:(zB5 H)[b]? = some (if ZL H[b] then .dead else H[b]):=by
     unfold zB5;rw[qzZ,q3Z hb];rfl
   cases ho:(H[b]).own&&!ZL H[b] with
   | true =>
     rw[qrZ,Bool.not_eq_true']at ho;rw[if_pos rfl];rw[ho.2]at hm;rw[zF4 g H (List.range H.length) (zB5 H) H1 b b _ _ List.nodup_range (fun x hx=>List.mem_range.1 hx) (rfZ hb) hm ho.1 (q3Z hb1),zDJ hg]
   | false =>
     rw[if_neg (by simp)];rw[zBd g H (List.range H.length) (zB5 H) H1 b,q3Z hb];intro i B hi hB;obtain⟨hi1,hi2⟩:=q1Z.1 hi;rw[List.getElem_range]at hi2;subst hi2;rw[hm]at hB;cases hB;cases hl:ZL H[i] with
     | true=>simp[ABlk.own]
     | false =>
       rw[hl]at ho;simpa using ho
 · rw[q5Z (by rw[zAP];omega),zAP,zHc H H1 b (by omega),qzZ,r5Z,show H.length+(b-H.length)=b by omega]
   cases H1[b]? with
   | none=>rfl
   | some x=>exact congrArg some (zDJ hg x)
def zUv{α:Type}(n:Int)(k:Int->α):α:=match n with
 | .ofNat m=>Zg m fun m=>k (.ofNat m)
 | .negSucc m=>Zg m fun m=>k (.negSucc m)
theorem zTP{α:Type}(n:Int)(k:Int->α):zUv n k=k n:=by
 cases n <;> simp[zUv,ZR]
def zVc{α:Type}(t:IntKind)(k:IntKind->α):α:=match t with
 | .i8=>k .i8
 | .i16=>k .i16
 | .i32=>k .i32
 | .i64=>k .i64
 | .u8=>k .u8
 | .u16=>k .u16
 | .u32=>k .u32
 | .u64=>k .u64
theorem zTF{α:Type}(t:IntKind)(k:IntKind->α):zVc t k=k t:=by cases t <;> rfl
def zR5{α:Type}(b:Bool)(k:Bool->α):α:=match b with
 | true=>k true
 | false=>k false
theorem zG1{α:Type}(b:Bool)(k:Bool->α):zR5 b k=k b:=by cases b <;> rfl
def zTW{α:Type}:List UInt8->(List UInt8->α)->α
 | [],k=>k []
 | b::s,k=>Zg b.toNat fun n=>zTW s fun s=>k (UInt8.ofNat n::s)
theorem zOy{α:Type}:∀(s:List UInt8) (k:List UInt8->α),zTW s k=k s
 | [],_=>rfl
 | b::s,k=>by simp only[zTW];rw[ZR,zOy s,UInt8.ofNat_toNat]
mutual
def zCD{α:Type}:AV->(AV->α)->α
 | .top,k=>k .top
 | .bool b,k=>zR5 b fun b=>k (.bool b)
 | .int t n,k=>zVc t fun t=>zUv n fun n=>k (.int t n)
 | .str s,k=>zTW s fun s=>k (.str s)
 | .ptr b o,k=>Zg b fun b=>Zg o fun o=>k (.ptr b o)
 | .nilp,k=>k .nilp
 | .slice b o l z c,k=>Zg b fun b=>Zg o fun o=>Zg l fun l=>Zg z fun z=>zR5 c fun c=>k (.slice b o l z c)
 | .sl b o l z c,k=>Zg b fun b=>Zg o fun o=>Zg l fun l=>Zg z fun z=>zR5 c fun c=>k (.sl b o l z c)
 | .nils,k=>k .nils
 | .map b,k=>Zg b fun b=>k (.map b)
 | .nilm,k=>k .nilm
 | .func f xs ys,k=>Zg f fun f=>zEL xs fun xs=>zEL ys fun ys=>k (.func f xs ys)
 | .yld b,k=>Zg b fun b=>k (.yld b)
 | .nilf,k=>k .nilf
 | .agg l,k=>zEL l fun l=>k (.agg l)
 | .tuple l,k=>zEL l fun l=>k (.tuple l)
def zEL{α:Type}:List AV->(List AV->α)->α
 | [],k=>k []
 | x::l,k=>zCD x fun x=>zEL l fun l=>k (x::l)
end
mutual
theorem zGr{α:Type}:∀(x:AV) (k:AV->α),zCD x k=k x
 | .top,_=>by simp only[zCD]
 | .bool b,k=>by simp only[zCD,zG1]
 | .int t n,k=>by simp only[zCD,zTF,zTP]
 | .str s,k=>by simp only[zCD,zOy]
 | .ptr b o,k=>by simp only[zCD,ZR]
 | .nilp,_=>by simp only[zCD]
 | .slice b o l z c,k=>by simp only[zCD,ZR,zG1]
 | .sl b o l z c,k=>by simp only[zCD,ZR,zG1]
 | .nils,_=>by simp only[zCD]
 | .map b,k=>by simp only[zCD,ZR]
 | .nilm,_=>by simp only[zCD]
 | .func f xs ys,k=>by simp only[zCD];rw[ZR,zBr xs,zBr ys]
 | .yld b,k=>by simp only[zCD,ZR]
 | .nilf,_=>by simp only[zCD]
 | .agg l,k=>by simp only[zCD];rw[zBr l]
 | .tuple l,k=>by simp only[zCD];rw[zBr l]
theorem zBr{α:Type}:∀(l:List AV) (k:List AV->α),zEL l k=k l
 | [],_=>by simp only[zEL]
 | x::l,k=>by simp only[zEL];rw[zGr x,zBr l]
end
inductive BxV where
 | mk (v:AV)
inductive BxB where
 | mk (v:ABlk)
def bxV(v:AV):BxV:=zCD v .mk
theorem zVD(v:AV):bxV v=.mk v:=zGr v _
def fcV{α:Type}(v:AV)(k:AV->α):α:=match bxV v with
 | .mk v=>k v
theorem zOO{α:Type}(v:AV)(k:AV->α):fcV v k=k v:=by unfold fcV;rw[zVD]
def zPg{α:Type}:List AV->(List AV->α)->α
 | [],k=>k []
 | x::l,k=>fcV x fun x=>zPg l fun l=>k (x::l)
theorem zGq{α:Type}:∀(l:List AV) (k:List AV->α),zPg l k=k l
 | [],_=>rfl
 | x::l,k=>by simp only[zPg];rw[zOO,zGq l]
def zTS{α:Type}:List (AV×AV)->(List (AV×AV)->α)->α
 | [],k=>k []
 | (x,y)::l,k=>zCD x fun x=>zCD y fun y=>zTS l fun l=>k ((x,y)::l)
theorem zPD{α:Type}:∀(l:List (AV×AV)) (k:List (AV×AV)->α),zTS l k=k l
 | [],_=>rfl
 | (x,y)::l,k=>by simp only[zTS];rw[zGr,zGr,zPD l]
def zQP{α:Type}:ABlk->(ABlk->α)->α
 | .dead,k=>k .dead
 | .cells o l,k=>zR5 o fun o=>zEL l fun l=>k (.cells o l)
 | .loop ps asg body st pe F,k=>zPg F fun F=>match st with
   | .ready=>k (.loop ps asg body .ready pe F)
   | .busy=>k (.loop ps asg body .busy pe F)
   | .done=>k (.loop ps asg body .done pe F)
   | .exhausted=>k (.loop ps asg body .exhausted pe F)
 | .map es,k=>zTS es fun es=>k (.map es)
 | .obj o s,k=>k (.obj o s)
 | .pin l,k=>zEL l fun l=>k (.pin l)
theorem zTh{α:Type}(x:ABlk)(k:ABlk->α):zQP x k=k x:=by
 cases x with
 | dead=>rfl
 | cells o l=>simp only[zQP];rw[zG1,zBr]
 | loop ps asg body st pe F=>simp only[zQP];rw[zGq];cases st <;> rfl
 | map es=>simp only[zQP];rw[zPD]
 | obj o s=>rfl
 | pin l=>simp only[zQP];rw[zBr]
def bxB(x:ABlk):BxB:=zQP x .mk
theorem zUl(x:ABlk):bxB x=.mk x:=zTh x _
def fcH{α:Type}:zA->(zA->α)->α
 | [],k=>k []
 | x::H,k=>match bxB x with
   | .mk x=>fcH H fun H=>k (x::H)
theorem zEc{α:Type}:∀(H:zA) (k:zA->α),fcH H k=k H
 | [],_=>rfl
 | x::H,k=>by simp only[fcH];rw[zUl];simp only[];rw[zEc H]
def Zy(lp:Bool):Nat->zA->zA->List Nat
 | _,[],_=>[]
 | i,x::H,[]=>if (lp&&ZL x) || ZP x .dead then Zy lp (i+1) H [] else i::Zy lp (i+1) H []
 | i,x::H,y::H1=>if (lp&&ZL x) || ZP x y then Zy lp (i+1) H H1 else i::Zy lp (i+1) H H1
theorem zB0(lp:Bool):∀(H H1:zA) (i:Nat),Zy lp i H H1=((List.range H.length).filter fun b=>!((lp&&ZL (H.getD b .dead)) || ZP (H.getD b .dead) (H1.getD b .dead))).map (·+i)
 | [],_,_=>by simp[Zy]
 | x::H,[],i=>by
   simp only[Zy,q7Z,List.range_succ_eq_map,List.filter_cons,List.getD_cons_zero,List.filter_map];rw[zB0 lp H [] (i+1)];have e:((fun b=>!((lp&&ZL ((x::H).getD b .dead)) || ZP ((x::H).getD b .dead) (([]:zA).getD b .dead))) ∘ Nat.succ)=fun b=>!((lp&&ZL (H.getD b .dead)) || ZP (H.getD b .dead) (([]:zA).getD b .dead)):=by
     funext b;simp
   rw[e];have e2:∀l:List Nat,(l.map Nat.succ).map (·+i)=l.map (·+(i+1)):=fun l=>by
     rw[List.map_map];apply List.map_congr_left;intro b _;simp;omega
   have e3:(([]:zA).getD 0 .dead)=.dead:=rfl;rw[e3];cases (lp&&ZL x) || ZP x .dead <;> simp[e2] <;> intros <;> omega
 | x::H,y::H1,i=>by
   simp only[Zy,q7Z,List.range_succ_eq_map,List.filter_cons,List.getD_cons_zero,List.filter_map];rw[zB0 lp H H1 (i+1)];have e:((fun b=>!((lp&&ZL ((x::H).getD b .dead)) || ZP ((x::H).getD b .dead) ((y::H1).getD b .dead))) ∘ Nat.succ)=fun b=>!((lp&&ZL (H.getD b .dead)) || ZP (H.getD b .dead) (H1.getD b .dead)):=by
     funext b;simp
   rw[e];have e2:∀l:List Nat,(l.map Nat.succ).map (·+i)=l.map (·+(i+1)):=fun l=>by
     rw[List.map_map];apply List.map_congr_left;intro b _;simp;omega
   cases (lp&&ZL x) || ZP x y <;> simp[e2] <;> intros <;> omega
theorem zIg(H H1:zA):Zy true 0 H H1=zId H H1:=by rw[zB0];simp[zId]
theorem zHV(H H1:zA):Zy false 0 H H1=zCn H H1:=by rw[zB0];simp[zCn]
def zPT(P:Program)(Γ:Gam)(n:Nat)(fn:Func)(args:List AV)(H:zA):Option (AV×zA) :=
 match zEC P Γ n fn args H with
 | some (v,H1)=>fcV v fun v=>fcH H1 fun H1=>some (v,H1)
 | none=>none
theorem zKu(P:Program)(Γ:Gam)(n:Nat)(fn:Func)(args:List AV)(H:zA):zPT P Γ n fn args H=zEC P Γ n fn args H:=by
 unfold zPT;split
 · rename_i h;rw[zOO,zEc,h]
 · rename_i h;rw[h]
def zRE(P:Program)(Γ:Gam)(n:Nat)(fn:Func)(args:List AV)(H:zA):Option (AV×zA×List Nat) :=
 zPg args fun args=>fcH H fun H =>
   if zT7 args H then
     fcH (zB5 H) fun Hm=>match zPT P Γ n fn args Hm with
     | some (v,H1)=>if Nat.ble H.length H1.length then fcH (zBV H (zE1 H.length H1)) fun H2=>some (v,H2,Zy true 0 H H2) else none
     | none=>none
   else match zPT P Γ n fn args H with
     | some (v,H')=>if Nat.ble H.length H'.length then some (v,H',Zy false 0 H H') else none
     | none=>none
theorem zR9(P:Program)(Γ:Gam)(n:Nat)(fn:Func)(args:List AV)(H:zA):zRE P Γ n fn args H=zLg P Γ n fn args H:=by
 unfold zRE zLg zSB;rw[zGq,zEc];split
 · rw[zEc,zKu]
   cases zEC P Γ n fn args (zB5 H) with
   | none=>rfl
   | some r =>
     obtain⟨v,H1⟩:=r;simp only[zEc,zIg];split <;> rfl
 · rw[zKu]
   cases zEC P Γ n fn args H with
   | none=>rfl
   | some r =>
     obtain⟨v,H1⟩:=r;simp only[zHV,Nat.ble_eq]
def zKJ(P:Program)(Γ:Gam)(n:Nat)(args:List AV)(H:zA):Option (AV×zA×List Nat) :=
 match zE7 P Γ n args H with
 | some (v,H1,W)=>fcV v fun v=>fcH H1 fun H1=>some (v,H1,W)
 | none=>none
def zNH(P:Program)(Γ:Gam)(n:Nat)(args:List AV)(H:zA):Option (AV×zA×List Nat) :=
 zPg args fun args=>fcH H fun H=>match zKJ P Γ n args H with
 | some r=>some r
 | none=>none
theorem zQW(P:Program)(Γ:Gam)(n:Nat)(args:List AV)(H:zA):zNH P Γ n args H=zE7 P Γ n args H:=by
 unfold zNH;rw[zGq,zEc];have e:zKJ P Γ n args H=zE7 P Γ n args H:=by
   unfold zKJ;split
   · rename_i h;rw[zOO,zEc,h]
   · rename_i h;rw[h]
 rw[e];split <;> rename_i h <;> rw[h]
def zBL(P:Program)(Γ:Gam)(n:Nat)(inl:List FuncId):Nat->FuncId->List AV->zA->Option (AV×zA×List Nat)
 | 0,f,args,H=>Γ f args H
 | k+1,f,args,H =>
   if f=yl then (match zNH P (zBL P Γ n inl k) n args H with | some r=>some r | none=>Γ f args H)
   else if inl.contains f then
     match zI P f with
     | none=>none
     | some fn =>
       if fn.name == "runtime.NumGoroutine" then none else zRE P (zBL P Γ n inl k) n fn args H
   else Γ f args H
theorem zIa{v:AV}{H:zA}{P:Program}{f:FuncId}{args:List AV}{fn:Func}{Γ:Gam}{n:Nat}(hm:P.follows .mixedOrders=true)(hΓ:GOk P Γ)(hf:P.funcs[f]? = some fn){H1:zA}(h:zEC P Γ n fn args H=some (v,H1)):Ct P f args H v H1:=by
 unfold zEC at h;split at h
 · cases h
 rename_i c hc;intro j w cargs hR hargs;refine (callsIn_wide (n:=0)).1 ?_;refine callsIn_of_wp_marks hf hc trivial ?_ rfl;have hl:=hargs.length;have hF:VRs j (args++qbZ (fn.ntmps-args.length) zV) (cargs++Array.replicate (fn.ntmps-cargs.size) undef).toList:=by
   rw[rxZ,Array.toList_replicate,hl,rjZ];exact hargs.append (VRs.replicate (v:=undef) (show VR j zV undef from ⟨#[],rfl,rfl⟩) _)
 have key:∀(x:AX) (hx:x=.ret\/x=.normal) F' H',zu P Γ n true c (args++qbZ (fn.ntmps-args.length) zV) H=some (x,F',H')->zCt P fn.results.toList F' H'=some v->H'=H1 ->
     c.wpIn (FW none) 0 P (bodyPostM (FW none) 0 P fn fun e w'=>∃cv j',e=.returned cv/\VR j' v cv/\Step H.length j H w j' H1 w') { tmps:=cargs++Array.replicate (fn.ntmps-cargs.size) undef,defers:=[] } w:=by
   intro x hx F' H' hr hv e;subst e;refine wpIn_mono (Zb hm hΓ none n true (fun _=>rfl) c _ F' H H' x hr w.heap.size j w { tmps:=cargs++Array.replicate (fn.ntmps-cargs.size) undef,defers:=[] } 0 (qnZ _) hR hF (DefOk.nil _ _)) ?_;rintro e a' w' ⟨x',F2,H2,j',rfl,⟨rfl,rfl,rfl⟩,h3,h4,h5⟩;exact zFS hR.glo.1.2 hx.symm hv h3 h4 h5 fun cv w2 g2 hs=>⟨cv,j',rfl,g2,hs⟩
 split at h
 · rename_i F' H2 hr
   obtain⟨v2,hv,e⟩:=qlZ.1 h;cases e;exact key _ (.inl rfl) _ _ hr hv rfl
 · rename_i F' H2 hr
   obtain⟨v2,hv,e⟩:=qlZ.1 h;cases e;exact key _ (.inr rfl) _ _ hr hv rfl
 · cases h
theorem zMP{P:Program}(hm:P.follows .mixedOrders=true){Γ:Gam}(hΓ:GOk P Γ)(n:Nat)(inl:List FuncId):∀k,GOk P (zBL P Γ n inl k)
 | 0=>by
   have:zBL P Γ n inl 0=Γ:=by funext f args H;simp[zBL]
   rw[this];exact hΓ
 | k+1=>by
   have ih:=zMP hm hΓ n inl k;refine ⟨?_,?_⟩;rotate_left
   · intro b args H v H' W h
     unfold zBL at h;rw[if_pos rfl,zQW]at h;split at h
     · rename_i r hr
       cases h;exact zNB hm ih n b args H v H' W hr
     · exact hΓ.2 b args H v H' W h
   intro f hfy ⟨args0,H0,r0,h0⟩;by_cases hi:inl.contains f=true
   · have one : ∀ args H v H' W, zBL P Γ n inl (k + 1) f args H = some (v, H', W) → ∃ fn, P.funcs[f]? = some fn ∧ (fn.name == "runtime.NumGoroutine") = false ∧ zLg P (zBL P Γ n inl k) n fn args H = some (v, H', W) := by
       intro args H v H' W h;unfold zBL at h;rw[if_neg hfy,if_pos hi]at h;split at h
       · cases h
       rename_i fn hfn;split at h
       · cases h
       rename_i hn;rw[zR9]at h;exact⟨fn,hfn,by simpa using hn,h⟩
     have keepE:∀{H H':zA} {b:Nat},b<H.length->H.length<=H'.length->ZP (H.getD b .dead) (H'.getD b .dead)=true->H'[b]? = H[b]?:=by
       intro H H' b hb hl this;have e:=zFo this;rw[q2Z,q2Z,q3Z hb,q3Z (show b<H'.length by omega)]at e;rw[q3Z hb,q3Z (show b<H'.length by omega)];simpa using e.symm
     have two:∀fn args H v H' W,zLg P (zBL P Γ n inl k) n fn args H=some (v,H',W)->P.funcs[f]? = some fn ->
         fn.body.isSome=true/\Ct P f args H v H'/\H.length<=H'.length/\∀b,b<H.length->b∉W->H'[b]? = H[b]?:=by
       intro fn args H v H' W h hfn;have body:∀{args H r},zEC P (zBL P Γ n inl k) n fn args H=some r->fn.body.isSome=true:=by
         intro args H r hr;unfold zEC at hr;split at hr
         · cases hr
         · rename_i c hc;rw[hc];rfl
       unfold zLg at h;split at h
       · rename_i r hr
         cases h;unfold zSB at hr;split at hr;rotate_left
         · cases hr
         rename_i hc;split at hr;rotate_left
         · cases hr
         rename_i v1 H2 hr1;split at hr;rotate_left
         · cases hr
         rename_i hl0;cases hr;rw[Nat.ble_eq]at hl0;unfold zT7 at hc;rw[qrZ,qrZ,qrZ]at hc;have hml:(zB5 H).length=H.length:=by simp[zB5]
         have h0:=zIa hm ih hfn hr1;obtain⟨H1,hH1⟩:∃H1,H1=zE1 H.length H2:=⟨_,rfl⟩
         rw[<-hH1];rw[zMG]at hH1;have hl1:H.length<=H1.length:=by rw[hH1,qdZ,qjZ,r7Z,qkZ];omega
         have hd1:H1.drop H.length=(H2.drop H.length).map zBR:=by
           rw[hH1,sdZ,List.drop_eq_nil_of_le (by rw[qjZ];omega),qjZ,sfZ hl0,Nat.sub_self];simp
         have hl:H.length<=H1.length/\zBM (H1.drop H.length)=true:=⟨hl1,by rw[hd1];exact zLd _⟩
         have h1:Ct P f args (zB5 H) v H1:=by
           rw[hH1];refine zO4 _ _ (by rw[hml,qjZ];omega) ?_;rw[r6Z];exact h0
         have h2:=zZ h1 (List.range H.length) List.nodup_range (AWs.range args hc.2.2.1) (AWh.rangeL hc.2.2.2) (by rw[hml];exact hl.2);rw[hml,zRK hl.1 (zGY H.length),zOA (zGY H.length)]at h2;refine ⟨body hr1,h2,by rw[zCl H H1 hl.1];exact hl.1,fun b hb hnb=>?_⟩;cases hlp:ZL (H.getD b .dead) with
         | true =>
           rw[zH7 H H1 b _ _ (q3Z hb) (q3Z (show b<H1.length by omega)),q3Z hb];rw[q2Z,q3Z hb]at hlp;have hlp':ZL H[b]=true:=hlp;rw[hlp'];simp
         | false =>
           refine keepE hb (by rw[zCl H H1 hl.1];exact hl.1) ?_;cases hx:ZP (H.getD b .dead) ((zBV H H1).getD b .dead) with
           | true=>rfl
           | false=>exact absurd (sbZ.2 ⟨List.mem_range.2 hb,by rw[hx,hlp];rfl⟩) hnb
       · split at h
         · cases h
         split at h
         · rename_i v1 H1 hr
           split at h <;> cases h
           rename_i hl;refine ⟨body hr,zIa hm ih hfn hr,hl,fun b hb hnb=>keepE hb hl ?_⟩;cases hx:ZP (H.getD b .dead) (H'.getD b .dead) with
           | true=>rfl
           | false=>exact absurd (sbZ.2 ⟨List.mem_range.2 hb,by rw[hx];rfl⟩) hnb
         · cases h
     obtain⟨v0,H0',W0⟩:=r0;obtain⟨fn,hfn,hn,hr⟩:=one _ _ _ _ _ h0;refine ⟨zD hfn (two _ _ _ _ _ _ hr hfn).1 hn,fun args H v H' W h=>?_,fun args H v H' W h=>?_⟩
     · obtain⟨fn',hfn',_,hr'⟩:=one _ _ _ _ _ h
       exact (two _ _ _ _ _ _ hr' hfn').2.1
     · obtain⟨fn',hfn',_,hr'⟩:=one _ _ _ _ _ h
       exact (two _ _ _ _ _ _ hr' hfn').2.2
   · have e:zBL P Γ n inl (k+1) f=Γ f:=by
       funext args H
       simp only[zBL];rw[if_neg hfy,if_neg hi]
     rw[e]at h0 ⊢;exact hΓ.1 f hfy ⟨args0,H0,r0,h0⟩
end Go.Proofs.YtfhidaoiofeooaaGreatDoor
