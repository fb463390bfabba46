/- Parts of the proof of SweepTells: lemmas, each with its own conditions. -/
import Derived.Test.YtfhidaoiofeooaaGreatDoorY23
import Derived.Test.YtfhidaoiofeooaaGreatDoorY27
set_option maxHeartbeats 64000000
open List renaming getElem?_eq_some_iff → q1Z, getD_eq_getElem?_getD → q2Z, getElem?_eq_getElem → q3Z, take_of_length_le → q6Z, length_cons → q7Z, length_nil → q8Z, cons_append → q9Z, nil_append → qaZ, replicate → qbZ, mem_of_getElem? → qcZ, mem_cons_self → qhZ, mem_cons_of_mem → qiZ, length_take → qjZ, mem_append → qxZ, mem_singleton → r1Z, getElem_mem → r3Z, getElem?_take → r4Z, length_map → r7Z, mem_map → reZ, map_append → roZ, replicate_succ → rvZ, length_replicate → rwZ, all_eq_true → s5Z, take_append → seZ
open Option renaming map_eq_some_iff → qlZ, map_some → rhZ
open Nat renaming le_refl → qnZ, zero_le → qqZ, lt_or_ge → s2Z
open Bool renaming and_eq_true → qrZ
open Array renaming getElem?_eq_some_iff → qtZ, getElem?_eq_getElem → quZ, getD_eq_getD_getElem? → qvZ, getElem?_toList → riZ, length_toList → rjZ, toList_append → rxZ
open Int renaming tmod_eq_emod_of_nonneg → rrZ
namespace Go.Proofs.YtfhidaoiofeooaaGreatDoor
open _root_.Go.Proofs.Tryz renaming prog → Pz
set_option maxRecDepth 100000
section
open Go Go.Lib
attribute [-simp] zG zT zc zJ zn
section
variable {P:Program} {Γ:Gam} {V:Array Oper} {F0 Fb:List AV} {H0 X:zA} {qs:List QR} {Fs:Nat->List AV} {Hs:Nat->zA} {ds:List Deferred} {j0 j:Inj} {w0 w:World} {D:Nat->Prop} {a:Act}
end
theorem zKL(P:Program)(Γ:Gam)(V:Array Oper):∀(l:List Oper) (F:List AV) (H:zA) (fs fs':List QF) (F1:List AV) (H1:zA),hqT P Γ V l F H fs=some (fs',F1,H1)->∃qs,zc P Γ V l F H=some (qs,F1,H1)/\fs'=fs++qs.map QR.fl
 | [],F,H,fs,fs',F1,H1,h=>by cases h;exact⟨[],rfl,by simp⟩
 | o::rest,F,H,fs,fs',F1,H1,h=>by
   unfold hqT at h;unfold zc;rw[zFX];cases hq:zAb P Γ V F H o with
   | none=>rw[hq]at h;cases h
   | some q =>
     rw[hq]at h;obtain⟨qs,h1,h2⟩:=zKL P Γ V rest _ _ _ _ _ _ h;dsimp only;rw[h1];exact⟨q::qs,rfl,by rw[h2];simp⟩
end
section
open Go Go.Lib
attribute [-simp] zG zT zc zJ zn
section
variable {P:Program} {Γ:Gam} {V:Array Oper} {F0 Fb:List AV} {H0 X:zA} {qs:List QR} {Fs:Nat->List AV} {Hs:Nat->zA} {ds:List Deferred} {j0 j:Inj} {w0 w:World} {D:Nat->Prop} {a:Act}
end
end
section
open Go Go.Lib
attribute [-simp] zG zT zc zJ zn
def zBT(ops:Array Oper)(c h d n:Nat):Array Oper:=((zF ops c n).toList.mapIdx fun k o=>if k=h\/d.testBit k=true then zM o else o).toArray
theorem zPC{ops:Array Oper}{c h d n:Nat}(hc:c<=n)(hn:n<=ops.size):(zBT ops c h d n).size=n:=by
 unfold zBT;rw[List.size_toArray,List.length_mapIdx,rjZ,zEn hc hn]
theorem zOB{ops:Array Oper}{c h d n:Nat}(k:Nat):(zBT ops c h d n)[k]? = ((zF ops c n)[k]?).map fun o=>if k=h\/d.testBit k=true then zM o else o:=by
 unfold zBT;rw[List.getElem?_toArray,List.getElem?_mapIdx,riZ]
section
variable {P:Program} {Γ:Gam} {V:Array Oper} {F0:List AV} {H0:zA} {qs:List QR} {Fs:Nat->List AV} {Hs:Nat->zA}
theorem Txt.uniq(T:Txt P Γ V F0 H0 qs Fs Hs){i k:Nat}{oi ok:Oper}{t:Nat}(h1:V[i]? = some oi)(h2:V[k]? = some ok)(h3:oi.dst=some t)(h4:ok.dst=some t):i=k:=by
 obtain⟨qi,hqi⟩:=T.q h1;obtain⟨qk,hqk⟩:=T.q h2;rcases Nat.lt_trichotomy i k with h | h | h
 · have:=T.pairs i k oi ok qi qk h h1 h2 hqi hqk
   unfold ZB at this;rw[h3,h4]at this;simp at this
 · exact h
 · have:=T.pairs k i ok oi qk qi h h2 h1 hqk hqi
   unfold ZB at this;rw[h3,h4]at this;simp at this
theorem Txt.at_end(T:Txt P Γ V F0 H0 qs Fs Hs){k:Nat}{o:Oper}{q:QR}{t:Nat}(h1:V[k]? = some o)(h2:qs[k]? = some q)(h3:o.dst=some t)(ht:t<F0.length):(Fs V.size)[t]? = some q.v:=by
 have hl:t<(Fs V.size).length:=by rw[T.flen _ (qnZ _)];exact ht
 obtain⟨x,hx⟩:∃x,(Fs V.size)[t]? = some x:=⟨_,q3Z hl⟩
 rw[hx];rcases T.slot t x _ (qnZ _) hx with⟨i,oi,qi,a1,a2,a3,a4,rfl⟩ | ⟨a1,_⟩
 · have:=T.uniq a2 h1 a4 h3
   subst this;rw[h2]at a3;cases a3;rfl
 · exact absurd h3 (a1 k o (qtZ.1 h1).1 h1)
theorem Txt.blank(T:Txt P Γ V F0 H0 qs Fs Hs){k:Nat}{o1:Oper}{q:QR}{t:Nat}(h1:V[k]? = some (zM o1))(h2:qs[k]? = some q)(h3:o1.dst=some t)(ht:t<F0.length):F0[t]? = some q.v:=by
 obtain⟨s1,_,_⟩:=T.each k _ q h1 h2;obtain⟨v1,g1,_,g3⟩:=zAE P Γ V (Fs k) (Hs k) o1;rw[g1]at s1;cases s1;dsimp only;have hk:k<V.size:=(qtZ.1 h1).1;have hl:t<(Fs k).length:=by rw[T.flen _ (by omega)];exact ht
 rw[g3 t h3,q2Z];obtain⟨x,hx⟩:∃x,(Fs k)[t]? = some x:=⟨_,q3Z hl⟩
 rw[hx];rcases T.slot t x k (by omega) hx with⟨i,oi,qi,a1,a2,a3,a4,rfl⟩ | ⟨_,a2⟩
 · have:=T.uniq a2 h1 a4 (show (zM o1).dst=some t from h3)
   omega
 · exact a2
end
theorem zUp{P:Program}{Γ:Gam}(hΓ:GOk P Γ){ops:Array Oper}{c h m p d:Nat}(hch:c<=h)(hhm:h<m)(hcut:Cut ops m){F0 F1 F3:List AV}{H0 H1 H3 H':zA}{V1 V2:Array Oper}(hV1:zBT ops c h d m=V1)(hV2:zBT ops c h p m=V2){oh:Oper}(hoh:ops[h]? = some oh)(hp:(Zl ops.toList).getD h 0=p)
   (hdb:((List.range m).all fun k=>d.testBit k==((Zl ops.toList).getD k 0).testBit h)=true) {qs1 qs2:List QR} {v:AV}
   (hqr1:zc P Γ V1 V1.toList F0 H0=some (qs1,F1,H1)) (hstn1:qs1.all (fun q=>q.st.isNone)=true) (hdr1:zC5 V1.toList (V1.toList.map (zP V1)) qs1 (Zl V1.toList)=true) (hw:zAM ops oh (zAp V1 p (List.range m) F1)=some true) (hop:opA P Γ (zAp V1 p (List.range m) F1) H1 oh.op=some (v,H'))
   (hqr2:zc P Γ V2 V2.toList (ZW (zAp V1 p (List.range m) F1) oh.dst v) H'=some (qs2,F3,H3)) (hstn2:qs2.all (fun q=>q.st.isNone)=true) (hdr2:zC5 V2.toList (V2.toList.map (zP V2)) qs2 (Zl V2.toList)=true)
   (hU:∀k o t,c<=k->k<m->k≠h->p.testBit k=false->d.testBit k=false->ops[k]? = some o->o.dst=some t->F1[t]? = F3[t]?)
   {j0:Inj} {w0:World} {a0:Act} (hR:R j0 H0 w0) (hF:VRs j0 F0 a0.tmps.toList) {ds:List Deferred} (hdf:a0.defers=ds)
   (r:Option Nat) (n:Nat) {Q:Exit->Act->World->Prop} (hq:∀j a w,VRs j F3 a.tmps.toList->a.defers=ds->Step H0.length j0 H0 w0 j H3 w->wpAnyIn (FW r) n P .any ops Q (ops.size-m) (lst ops.size m) a w)
   (hclosed:∀(k:Nat) o e,k<c->ops[k]? = some o->e∈o.after.toList->Region.binds .any e=true->e.on<c) (hedge0:∀(k:Nat) o e,ops[k]? = some o->e∈o.after.toList->Region.binds .any e=true->e.on<k) :
   wpAnyIn (FW r) n P .any ops Q (ops.size-c) (lst ops.size c) a0 w0:=by
 obtain⟨hsz,hbits,hgd⟩:=hcut;have hv1s:V1.size=m:=by rw[<-hV1];exact zPC (by omega) hsz
 have hv2s:V2.size=m:=by rw[<-hV2];exact zPC (by omega) hsz
 have hFl:F0.length=a0.tmps.size:=by simpa using hF.length
 have lowO:∀(x:Nat) (V:Array Oper),zBT ops c h x m=V->∀k,k<c->V[k]? = (ops[k]?).map zM:=fun x V hV k hk=>by
   rw[<-hV,zOB,zCX (by omega) hsz hk,Option.map_map]
   congr 1
   funext o
   simp only[Function.comp_apply];split <;> rfl
 have hiB:∀(x:Nat) (V:Array Oper),zBT ops c h x m=V->∀k,c<=k->k<m->(k=h\/x.testBit k=true)->V[k]? = (ops[k]?).map zM:=fun x V hV k h1 h2 h3=>by
   rw[<-hV,zOB,zBz (by omega) hsz h1 h2]
   congr 1
   funext o
   rw[if_pos h3]
 have hiN:∀(x:Nat) (V:Array Oper),zBT ops c h x m=V->∀k,c<=k->k<m->¬(k=h\/x.testBit k=true)->V[k]? = ops[k]?:=fun x V hV k h1 h2 h3=>by
   rw[<-hV,zOB,zBz (by omega) hsz h1 h2];cases ops[k]? with
   | none=>rfl
   | some o=>simp only[rhZ];rw[if_neg h3]
 have hdst:∀(x:Nat) (V:Array Oper),zBT ops c h x m=V->∀k,k<m->(V[k]?).bind (·.dst)=(ops[k]?).bind (·.dst):=fun x V hV k hk=>by
   rcases s2Z k c with h1 | h1
   · rw[lowO x V hV k h1];cases ops[k]? <;> rfl
   · by_cases h2:k=h\/x.testBit k=true
     · rw[hiB x V hV k h1 hk h2];cases ops[k]? <;> rfl
     · rw[hiN x V hV k h1 hk h2]
 have hV1h:V1[h]? = some (zM oh):=by rw[hiB d V1 hV1 h hch hhm (.inl rfl),hoh];rfl
 have hV2h:V2[h]? = some (zM oh):=by rw[hiB p V2 hV2 h hch hhm (.inl rfl),hoh];rfl
 obtain⟨Fs,Hs,T1,rfl,rfl⟩:=zKs hqr1 hdr1;obtain⟨G,hG⟩:∃G,ZW (zAp V1 p (List.range m) (Fs V1.size)) oh.dst v=G:=⟨_,rfl⟩
 rw[hG]at hqr2;obtain⟨Fs2,Hs2,T2,rfl,rfl⟩:=zKs hqr2 hdr2;have hGl:G.length=F0.length:=by rw[<-hG,zCT,zE9,T1.flen _ (qnZ _)]
 have stn:∀(qs:List QR),qs.all (fun q=>q.st.isNone)=true->∀q∈qs,q.st=none:=fun qs h q hq=>by
   have:=s5Z.1 h q hq;simpa using this
 have hputs:∀(qs:List QR),qs.all (fun q=>q.st.isNone)=true->∀(σ:List Nat) (G:zA),(σ.filterMap fun k=>(qs[k]?).bind (·.st)).foldl zAa G=G:=by
   intro qs hqs σ G;have:(σ.filterMap fun k=>(qs[k]?).bind (·.st))=[]:=by
     refine List.filterMap_eq_nil_iff.2 fun k _=>?_;cases hk:qs[k]? with
     | none=>rfl
     | some q=>exact stn qs hqs q (qcZ hk)
   rw[this];rfl
 have hph:∀k,p.testBit k=true->k<h:=fun k hk=>by
   rw[<-hp]at hk;exact ZZ (ops:=ops.toList) (D:=fun k=>k<h) (fun k o e hk hok hee hbe=>by have:=hedge0 k o e (by simpa using hok) hee hbe;omega) h oh (by simpa using hoh) (fun e hee hbe=>hedge0 h oh e hoh hee hbe) k hk
 have hdk:∀k,k<m->d.testBit k=((Zl ops.toList).getD k 0).testBit h:=fun k hk=>by
   have:=s5Z.1 hdb k (List.mem_range.2 hk);simpa using this
 have hnoD:∀(listed:Array Bool),(∀(k:Nat) o e,listed.getD k false=true->ops[k]? = some o->e∈o.after.toList->Region.binds .any e=true->listed.getD e.on false=true)->listed.getD h false=false->∀k,k<m->listed.getD k false=true->d.testBit k=false:=by
   intro listed hc hlh k hk hl;cases hb:d.testBit k with
   | false=>rfl
   | true =>
     exfalso;rw[hdk k hk]at hb;have hks:k<ops.size:=by omega
     have:=ZZ (ops:=ops.toList) (D:=fun k=>listed.getD k false=true) (fun k o e hk hok=>hc k o e hk (by simpa using hok)) k ops[k] (by simp[hks]) (fun e he hbe=>hc k _ e hl (quZ hks) he hbe) h hb;rw[hlh]at this;cases this
 have way:∀u (listed:Array Bool) a j w,listed.size=ops.size->nf (listed.toList.take m)=u->(∀k,m<=k->listed.getD k false=false)->(∀k,k<c->listed.getD k false=true) ->
     (∀(k:Nat) o e,listed.getD k false=true->ops[k]? = some o->e∈o.after.toList->Region.binds .any e=true->listed.getD e.on false=true) ->
     ((listed.getD h false=false/\∃σ,DI ds j0 F0 H0 w0 V1 qs1 Hs (fun i=>i<m/\listed.getD i false=true) σ a j w)\/(listed.getD h false=true/\∃σ jb wb,Step H0.length j0 H0 w0 jb H' wb/\DI ds jb G H' wb V2 qs2 Hs2 (fun i=>i<m/\listed.getD i false=true) σ a j w)) ->
     wpAnyIn (FW r) n P .any ops Q (ops.size-m+u) listed a w:=by
   intro u;induction u with
   | zero =>
     intro listed a j w hs' hnf hhi' hlo' _ hst;have hall:∀i,i<m->listed.getD i false=true:=by
       intro i hi;have:=zFE (listed.toList.take m) hnf i;rw[r4Z,if_pos hi,riZ]at this;rw[qvZ];have hli:listed[i]? = some listed[i]:=quZ (by omega);rw[hli]at this ⊢;cases hb:listed[i] with
       | true=>rfl
       | false=>exact absurd (by rw[hb]) this
     have e:listed=lst ops.size m:=by
       refine zFp (by rw[hs',zAV hsz]) fun k=>?_;rw[zm];rcases s2Z k m with h1 | h1
       · rw[hall k h1];simp[h1]
       · rw[hhi' k h1];simp;omega
     rcases hst with⟨h1,_⟩ | ⟨_,σ,jb,wb,hsb,hi⟩
     · rw[hall h (by omega)]at h1;cases h1
     rw[e];have hstep:=hi.step;rw[hputs qs2 hstn2]at hstep;refine hq j a w ?_ hi.defers (hsb.trans hstep hsb.len);refine VRs_iff.2 ⟨by rw[T2.flen _ (qnZ _)];simpa using hi.size,fun t x u hx hu=>?_⟩;have hu':a.tmps[t]? = some u:=by simpa using hu
     rcases T2.slot t x _ (qnZ _) hx with⟨i,o,q,h1,h2,h3,h4,rfl⟩ | ⟨h1,h2⟩
     · exact hi.set i o q t u ⟨by omega,hall i (by omega)⟩ h2 h3 h4 hu'
     · exact hi.old t x u (fun k o hk hko=>h1 k o (by omega) hko) h2 hu'
   | succ u ih =>
     intro listed a j w hs' hnf hhi' hlo' hc hst;have hun:∃i,i<m/\listed.getD i false=false:=by
       refine Classical.byContradiction fun hno=>?_;have hall:∀b∈listed.toList.take m,b=true:=by
         intro b hb;obtain⟨i,hi⟩:=List.getElem?_of_mem hb;rw[r4Z]at hi;split at hi
         · rename_i hlt
           cases hbb:b with
           | true=>rfl
           | false =>
             exfalso;refine hno ⟨i,hlt,?_⟩;rw[qvZ];rw[riZ]at hi;rw[hi,hbb];rfl
         · cases hi
       have:∀l:List Bool,(∀b∈l,b=true)->nf l=0:=by
         intro l;induction l with
         | nil=>intro _;rfl
         | cons b l ihl =>
           intro hl;have h1:=hl b (qhZ ..);subst h1;have h2:=ihl fun b hb=>hl b (qiZ _ hb);simpa[nf] using h2
       rw[this _ hall]at hnf;cases hnf
     obtain⟨i0,hi0,hli0⟩:=hun;have hpre:∀b,p.testBit b=true->listed.getD h false=true->listed.getD b false=true:=by
       intro b hm hl;exact ZZ (ops:=ops.toList) (D:=fun k=>listed.getD k false=true) (fun k o e hk hok=>hc k o e hk (by simpa using hok)) h oh (by simpa using hoh) (fun e he hb=>hc h oh e hl hoh he hb) b (by rw[hp];exact hm)
     have hready:Region.ready .any ops listed≠[]:=by
       intro hnil;have:∀i,i<m->listed.getD i false=true:=by
         intro i;induction i using Nat.strongRecOn with
         | _ i ihi =>
           intro hi;cases hb:listed.getD i false with
           | true=>rfl
           | false =>
             exfalso;have:i∈Region.ready .any ops listed:=by
               refine ready_iff.2 ⟨by omega,?_,ops[i],quZ (by omega),fun e he hbe=>?_⟩
               · rw[qvZ,quZ (show i<listed.size by omega)]at hb ⊢
                 exact hb
               · have hlt:=hedge0 i _ e (quZ (by omega)) he hbe
                 exact ihi e.on hlt (by omega)
             rw[hnil]at this;cases this
       rw[this i0 hi0]at hli0;cases hli0
     rw[show ops.size-m+(u+1)=(ops.size-m+u)+1 by omega];refine ⟨fun hnil=>absurd hnil hready,fun i hi=>?_⟩;obtain⟨h1,h2,o,ho,he⟩:=ready_iff.1 hi;have hi':i<m:=by
       rcases s2Z i m with h3 | h3
       · exact h3
       · exfalso
         have:=zD3 hc hi i0 (hbits i h3 h1 i0 hi0);rw[this]at hli0;cases hli0
     have hli:listed[i]? = some false:=by
       rw[qvZ,quZ (show i<listed.size by omega)]at h2;rw[quZ (show i<listed.size by omega)];simpa using h2
     have hlif:listed.getD i false=false:=by rw[qvZ,hli];rfl
     have hic:c<=i:=by
       rcases s2Z i c with h3 | h3
       · have:=hlo' i h3
         rw[hlif]at this;cases this
       · exact h3
     have hset:∀k,(listed.setIfInBounds i true).getD k false=true↔(listed.getD k false=true\/k=i):=by
       intro k;rw[qvZ,qvZ,Array.getElem?_setIfInBounds];by_cases e:i=k
       · subst e
         rw[if_pos rfl,if_pos (by omega)];simp
       · rw[if_neg e]
         constructor
         · exact fun h=>.inl h
         · rintro (h | h)
           · exact h
           · exact absurd h.symm e
     have hsetf:∀k,k≠i->(listed.setIfInBounds i true).getD k false=listed.getD k false:=by
       intro k hk;cases hb:listed.getD k false with
       | true=>exact (hset k).2 (.inl hb)
       | false =>
         cases hb2:(listed.setIfInBounds i true).getD k false with
         | false=>rfl
         | true =>
           rcases (hset k).1 hb2 with h3 | h3
           · rw[hb]at h3;cases h3
           · exact absurd h3 hk
     have hnf':nf ((listed.setIfInBounds i true).toList.take m)=u:=by
       have:=zIQ (listed.toList.take m) i (by rw[r4Z,if_pos hi'];simpa using hli);rw[Array.toList_setIfInBounds,List.take_set];omega
     have hhi2:∀k,m<=k->(listed.setIfInBounds i true).getD k false=false:=fun k hk=>by rw[hsetf k (by omega)];exact hhi' k hk
     have hlo2:∀k,k<c->(listed.setIfInBounds i true).getD k false=true:=fun k hk=>(hset k).2 (.inl (hlo' k hk));have hc2:∀(k:Nat) o e,(listed.setIfInBounds i true).getD k false=true->ops[k]? = some o->e∈o.after.toList->Region.binds .any e=true->(listed.setIfInBounds i true).getD e.on false=true:=by
       intro k o' e hk hok' hee hbe;rw[hset]at hk ⊢;rcases hk with hk | rfl
       · exact .inl (hc k o' e hk hok' hee hbe)
       · rw[ho]at hok'
         cases hok';exact .inl (he e hee hbe)
     have hD':(fun k=>(k<m/\listed.getD k false=true)\/k=i)=fun k=>k<m/\(listed.setIfInBounds i true).getD k false=true:=by
       funext k
       refine propext ⟨?_,?_⟩
       · rintro (⟨k1,k2⟩ | rfl)
         · exact⟨k1,(hset k).2 (.inl k2)⟩
         · exact⟨hi',(hset k).2 (.inr rfl)⟩
       · rintro⟨k1,k2⟩
         exact ((hset k).1 k2).imp (fun h=>⟨k1,h⟩) id
     have turn:∀(x:Nat) (V:Array Oper),zBT ops c h x m=V->V[i]? = some o->∀{K:Act->World->Prop},wpOpIn (FW r) n P V Q i K a w->wpOpIn (FW r) n P ops Q i K a w:=by
       intro x V hV hoV K key;unfold wpOpIn at key ⊢;rw[hoV]at key;rw[ho];dsimp only at key ⊢;have ew:Region.wanted o (yielded ops a.tmps)=Region.wanted o (yielded V a.tmps):=by
         unfold Region.wanted;split
         · rfl
         · rename_i j' want hg
           have hj:j'<m:=hgd i o j' want hi' ho hg;have ed:=hdst x V hV j' hj;unfold yielded;rw[ed]
       rw[ew];exact key
     have hcV:∀(x:Nat) (V:Array Oper),zBT ops c h x m=V->∀(k:Nat) o e,(k<m/\listed.getD k false=true)->V[k]? = some o->e∈o.after.toList->Region.binds .any e=true->e.on<m/\listed.getD e.on false=true:=by
       intro x V hV k o' e ⟨hkm,hk⟩ hok' hee hbe;rcases s2Z k c with h3 | h3
       · rw[lowO x V hV k h3]at hok'
         obtain⟨o2,_,rfl⟩:=qlZ.1 hok';simp[zM]at hee
       · by_cases h2:k=h\/x.testBit k=true
         · rw[hiB x V hV k h3 hkm h2]at hok'
           obtain⟨o2,_,rfl⟩:=qlZ.1 hok';simp[zM]at hee
         · rw[hiN x V hV k h3 hkm h2]at hok'
           exact⟨by have:=hedge0 k o' e hok' hee hbe;omega,hc k o' e hk hok' hee hbe⟩
     have heV:∀e∈o.after.toList,Region.binds .any e=true->e.on<m/\listed.getD e.on false=true:=fun e hee hbe=>⟨by have:=hedge0 i o e ho hee hbe;omega,he e hee hbe⟩
     rcases hst with⟨hlh,σ,hi1⟩ | ⟨hlh,σ,jb,wb,hsb,hi1⟩;rotate_left
     · -- behind the call
       have hih:i≠h:=by rintro rfl;rw[hlif]at hlh;cases hlh
       have hpi:p.testBit i=false:=by
         cases hb:p.testBit i with
         | false=>rfl
         | true=>rw[hpre i hb hlh]at hlif;cases hlif
       have hoV:V2[i]? = some o:=by rw[hiN p V2 hV2 i hic hi' (by rintro (h | h);exact hih h;rw[hpi]at h;cases h),ho]
       refine turn p V2 hV2 hoV (hi1.go hΓ T2 hoV (fun hh=>by rw[hlif]at hh;cases hh.2) (hcV p V2 hV2) heV r n fun σ' a' j' w' h'=>?_);rw[hD']at h';exact ih _ a' j' w' (by simpa using hs') hnf' hhi2 hlo2 hc2 (.inr ⟨by rw[hsetf h (Ne.symm hih)];exact hlh,σ',jb,wb,hsb,h'⟩)
     by_cases hih:i≠h
     · -- ahead of the call
       have hdi:d.testBit i=false:=by
         cases hb:d.testBit i with
         | false=>rfl
         | true =>
           exfalso;rw[hdk i hi']at hb;have:=ZZ (ops:=ops.toList) (D:=fun k=>listed.getD k false=true) (fun k o e hk hok=>hc k o e hk (by simpa using hok)) i o (by simpa using ho) he h hb;rw[hlh]at this;cases this
       have hoV:V1[i]? = some o:=by rw[hiN d V1 hV1 i hic hi' (by rintro (h | h);exact hih h;rw[hdi]at h;cases h),ho]
       refine turn d V1 hV1 hoV (hi1.go hΓ T1 hoV (fun hh=>by rw[hlif]at hh;cases hh.2) (hcV d V1 hV1) heV r n fun σ' a' j' w' h'=>?_);rw[hD']at h';exact ih _ a' j' w' (by simpa using hs') hnf' hhi2 hlo2 hc2 (.inl ⟨by rw[hsetf h (Ne.symm hih)];exact hlh,σ',h'⟩)
     · -- the call
       obtain rfl:i=h:=Classical.not_not.1 hih;rw[hoh]at ho;cases ho;have hnd:=hnoD listed hc hlh;have hpl:∀k,p.testBit k=true->listed.getD k false=true:=fun k hk=>ZZ (ops:=ops.toList) (D:=fun k=>listed.getD k false=true) (fun k o e hk hok=>hc k o e hk (by simpa using hok)) i oh (by simpa using hoh) he k (by rw[hp];exact hk);have hvr:∀t x u,(zAp V1 p (List.range m) (Fs V1.size))[t]? = some x->a.tmps[t]? = some u->VR j x u:=fun t x u hx hu'=>by
         rcases zIf V1 p _ _ t x hx with rfl | ⟨h3,h4⟩
         · trivial
         rcases T1.slot t x _ (qnZ _) h3 with⟨k,ok',q,k1,k2,k3,k4,rfl⟩ | ⟨k1,k2⟩
         · have hpk:p.testBit k=true:=by
             cases hb:p.testBit k with
             | true=>rfl
             | false=>exact absurd k4 (h4 k (List.mem_range.2 (by omega)) hb ok' k2)
           exact hi1.set k ok' q t u ⟨by omega,hpl k hpk⟩ k2 k3 k4 hu'
         · exact hi1.old t x u (fun k o hk hko=>k1 k o (by omega) hko) k2 hu'
       have hM:VRs j (zAp V1 p (List.range m) (Fs V1.size)) a.tmps.toList :=
         VRs_iff.2 ⟨by rw[zE9,T1.flen _ (qnZ _)];simpa using hi1.size,fun t x u hx hu=>hvr t x u hx (by simpa using hu)⟩
       unfold wpOpIn;rw[hoh];dsimp only;rw[zAQ hw hM];simp only[if_true];have hstep:=hi1.step;rw[hputs qs1 hstn1]at hstep;refine zKU hΓ hop hM hstep.rel r n fun cv j' w' hv hst2=>?_;have hjl:=hst2.jle hstep.rel (qnZ _);have hsb:=hstep.trans hst2 hstep.len;have hl2:=T2.heap hΓ V2.size (qnZ _) 0 (by omega);rw[T2.h0]at hl2;have hsz2:(a.put oh.dst cv).tmps.size=a.tmps.size:=zLi ..;have hgv:∀t x u,G[t]? = some x->(a.put oh.dst cv).tmps[t]? = some u->VR j' x u:=fun t x u hx hu=>by
         rw[<-hG]at hx;by_cases ed:oh.dst=some t
         · unfold ZW at hx
           unfold Act.put at hu;rw[ed]at hx hu;dsimp only at hx hu;rw[List.getElem?_set,if_pos rfl]at hx;rw[Array.getElem?_setIfInBounds,if_pos rfl]at hu;split at hx <;> split at hu <;> cases hx <;> cases hu
           exact hv
         · rw[zBn _ _ _ _ ed]at hx
           rw[zDx _ _ _ _ ed]at hu;exact (hvr t x u hx hu).mono hjl
       refine ih _ _ j' w' (by simpa using hs') hnf' hhi2 hlo2 hc2 (.inr ⟨(hset i).2 (.inr rfl),[],j',w',hsb,⟨by rw[hputs qs2 hstn2];exact Step.shows hst2.rel hl2.1 hl2.2 (qnZ _),fun b p' hp'=>.inl ?_,by rw[hGl,hsz2];exact hi1.size,fun k o q t u hk hko hqk hdt hu=>?_,fun t x u _ hx hu=>hgv t x u hx hu,fun k=>⟨fun hk=>by simp at hk,?_⟩,by simp,fun k hk=>by simp at hk,by rw[zAY];exact hi1.defers⟩⟩)
       · rcases s2Z b H'.length with h1 | h1
         · exact h1
         · rw[hst2.rel.dom b h1]at hp';cases hp'
       · obtain⟨hkm,hkl⟩:=hk
         have htl:t<G.length:=by
           rw[hGl,hi1.size,<-hsz2];exact (qtZ.1 hu).1
         have blank:∀o1,V2[k]? = some (zM o1)->VR j' q.v u:=fun o1 h1=>by
           rw[hko]at h1;cases h1;exact hgv t q.v u (T2.blank hko hqk hdt htl) hu
         rcases s2Z k c with h3 | h3
         · obtain⟨o1,ho1,_⟩:=qlZ.1 (by rw[<-lowO p V2 hV2 k h3];exact hko)
           exact blank o1 (by rw[lowO p V2 hV2 k h3,ho1];rfl)
         by_cases h2:k=i\/p.testBit k=true
         · obtain⟨o1,ho1,_⟩:=qlZ.1 (by rw[<-hiB p V2 hV2 k h3 hkm h2];exact hko)
           exact blank o1 (by rw[hiB p V2 hV2 k h3 hkm h2,ho1];rfl)
         · have hki:k≠i:=fun h=>h2 (.inl h)
           have hpk:p.testBit k=false:=by
             cases hb:p.testBit k with
             | false=>rfl
             | true=>exact absurd (.inr hb) h2
           have hkl0:listed.getD k false=true:=by rw[<-hsetf k hki];exact hkl
           have hdk0:=hnd k hkm hkl0;have hok:ops[k]? = some o:=by rw[<-hiN p V2 hV2 k h3 hkm h2];exact hko
           have hoV1:V1[k]? = some o:=by rw[hiN d V1 hV1 k h3 hkm (by rintro (h | h);exact hki h;rw[hdk0]at h;cases h)];exact hok
           obtain⟨q1,hq1⟩:=T1.q hoV1;have e1:=T1.at_end hoV1 hq1 hdt (by rw[<-hGl];exact htl);have e2:=T2.at_end hko hqk hdt htl;rw[hU k o t h3 hkm hki hpk hdk0 hok hdt,e2]at e1;have e3:q.v=q1.v:=Option.some.inj e1;have hne:oh.dst≠some t:=fun ed=>hki (T1.uniq hoV1 hV1h hdt (show (zM oh).dst=some t from ed));rw[zDx _ _ _ _ hne]at hu;rw[e3];exact (hi1.set k o q1 t u ⟨hkm,hkl0⟩ hoV1 hq1 hdt hu).mono hjl
       · rintro⟨_,_,q,hqk,hst⟩
         rw[stn qs2 hstn2 q (qcZ hqk)]at hst;cases hst
 have hnf:nf ((lst ops.size c).toList.take m)=m-c:=by
   unfold lst;rw[rxZ,Array.toList_replicate,Array.toList_replicate,seZ,q6Z (by simp;omega),List.take_replicate,rwZ];have:∀(m k:Nat),nf (qbZ m true++qbZ k false)=k:=by
     intro m k;induction m with
     | zero=>simpa using zBY k
     | succ m ih=>rw[rvZ,q9Z];simpa[nf] using ih
   rw[this];omega
 have hl0:=T1.heap hΓ V1.size (qnZ _) 0 (by omega);rw[T1.h0]at hl0;have e0:ops.size-c=ops.size-m+(m-c):=by omega
 rw[e0];refine way (m-c) _ a0 j0 w0 (zAV (by omega)) hnf (fun k hk=>by rw[zm];simp;omega) (fun k hk=>by rw[zm];simpa using hk) (fun k o e hk ho hee hbe=>?_) (.inl ⟨by rw[zm];simp;omega,[],by rw[hputs qs1 hstn1];exact Step.shows hR hl0.1 hl0.2 (qnZ _),fun b p hp=>.inl ?_,hFl,fun k o q t u hk ho hqk hdt hu=>?_,fun t x u _ hx hu=>?_,fun k=>⟨fun hk=>by simp at hk,?_⟩,by simp,fun k hk=>by simp at hk,hdf⟩)
 · rw[zm]at hk ⊢
   have hkc:k<c:=by simpa using hk
   simpa using hclosed k o e hkc ho hee hbe
 · rcases s2Z b H0.length with h1 | h1
   · exact h1
   · rw[hR.dom b h1]at hp;cases hp
 · have hk2:=hk.2
   rw[zm]at hk2;have hkc:k<c:=by simpa using hk2
   obtain⟨o1,ho1,rfl⟩:∃o1,ops[k]? = some o1/\o=zM o1:=by
     rw[lowO d V1 hV1 k hkc]at ho;obtain⟨o1,h1,h2⟩:=qlZ.1 ho;exact⟨o1,h1,h2.symm⟩
   have low:∀m,m<=c->Fs m=F0:=by
     intro m;induction m with
     | zero=>exact fun _=>T1.f0
     | succ m ih =>
       intro hm;have hom:V1[m]? = some (zM ops[m]):=by rw[lowO d V1 hV1 m (by omega),quZ (by omega)];rfl
       obtain⟨q1,hq1⟩:=T1.q hom;obtain⟨s1,s2,_⟩:=T1.each m _ q1 hom hq1;obtain⟨v1,g1,g2,_⟩:=zAE P Γ V1 (Fs m) (Hs m) ops[m];rw[g1]at s1;cases s1;rw[s2,g2];exact ih (by omega)
   obtain⟨s1,_,_⟩:=T1.each k _ q ho hqk;obtain⟨v1,g1,_,g3⟩:=zAE P Γ V1 (Fs k) (Hs k) o1;rw[g1]at s1;cases s1;have hd1:o1.dst=some t:=hdt;have:=g3 t hd1;dsimp only;rw[this,low k (by omega)];have htl:t<F0.length:=by rw[hFl];exact (qtZ.1 hu).1
   refine (VRs_iff.1 hF).2 t _ u ?_ (by simpa using hu);rw[q2Z,q3Z htl];rfl
 · exact (VRs_iff.1 hF).2 t x u hx (by simpa using hu)
 · rintro⟨_,_,q,hqk,hst⟩
   rw[stn qs1 hstn1 q (qcZ hqk)]at hst;cases hst
def zPJ(ops:Array Oper)(c h p d m:Nat):List Nat:=(List.range m).filterMap fun k=>if k<c\/k=h\/p.testBit k=true\/d.testBit k=true then none else (ops[k]?).bind (·.dst)
theorem SimR.two{P:Program}{Γ:Gam}(hΓ:GOk P Γ){r:Option Nat}{n0 c:Nat}(h p d m:Nat){ops:Array Oper}{F F1 F2 F3:List AV}{H H1 H3 H':zA}{fs fs2:List QF}{v:AV}{us:List Nat}{Q:AX->List AV->zA->Prop}(o:Oper)(ho:ops[h]? = some o){A A2:Array Oper}(hA:zBT ops c h d m=A)(hA2:zBT ops c h p m=A2)(hch:c<=h)(hhm:h<m)
   (hb:(zEZ ops.toList&&zMU ops.toList (Zl ops.toList) m&&(List.range m).all fun k=>d.testBit k==((Zl ops.toList).getD k 0).testBit h)=true) (hp:(Zl ops.toList).getD h 0=p) (hq:hqO P Γ A A.toList F H []=some (fs,F1,H1))
   (hchk:(fs.all (fun q=>q.st.isNone)&&zCv A fs)=true)
   (hF2:zAp A p (List.range m) F1=F2) (hrun:zAM ops o F2=some true/\opA P Γ F2 H1 o.op=some (v,H')) (hq2:hqO P Γ A2 A2.toList (ZW F2 o.dst v) H' []=some (fs2,F3,H3)) (hchk2:(fs2.all (fun q=>q.st.isNone)&&zCv A2 fs2)=true)
   (hus:zPJ ops c h p d m=us) (hU:∀t∈us,F1[t]? = F3[t]?) (k:SimR P r n0 ops m F3 H3 Q):SimR P r n0 ops c F H Q:=by
 intro B jb Hb wb j w a nn hB hs hF hd;rw[qrZ]at hb hchk hchk2;rw[qrZ]at hb;rw[zKM]at hq hq2;obtain⟨qs,hqr,e⟩:=zKL _ _ _ _ _ _ _ _ _ _ hq;obtain⟨qs2,hqr2,e2⟩:=zKL _ _ _ _ _ _ _ _ _ _ hq2;rw[qaZ]at e e2;subst e;subst e2
 refine zUp hΓ hch hhm (zFG hb.1.2) hA hA2 ho hp hb.2 hqr ?_ (by rw[zCi,<-zCk];exact hchk.2) (by rw[hF2];exact hrun.1) (by rw[hF2];exact hrun.2) (by rw[hF2];exact hqr2) ?_ (by rw[zCi,<-zCk];exact hchk2.2) (fun k o t h1 h2 h3 h4 h5 h6 h7=>hU t ?_) hs.rel hF rfl r nn (fun j1 a1 w1 h1 h2 h3 =>
   k B jb Hb wb j1 w1 a1 nn hB (hs.trans h3 hs.len) h1 (by rw[h2];exact hd.step hs.rel h3)) (fun k o e hk ho hee hbe=>by have:=zA6 hb.1.1 k o e ho hee hbe;omega) (fun k o e ho hee hbe=>zA6 hb.1.1 k o e ho hee hbe)
 · have:=hchk.1
   simpa[List.all_map,Function.comp_def,QR.fl] using this
 · have:=hchk2.1
   simpa[List.all_map,Function.comp_def,QR.fl] using this
 · rw[<-hus]
   unfold zPJ;refine List.mem_filterMap.2 ⟨k,List.mem_range.2 h2,?_⟩;rw[if_neg (by rintro (h | h | h | h);omega;exact h3 h;rw[h4]at h;cases h;rw[h5]at h;cases h),h6];exact h7
end
section
open Go Go.Lib
attribute [-simp] zG zT zc zJ zn
def zLM{σ:Type}(dec:zA->Option σ)(g:σ->Option AV):zS:=fun args H=>match args with
 | [.ptr b 0]=>match H[b]? with
   | some (.obj true sub)=>match dec sub with
     | some s=>match g s with
       | some v=>some (v,H,[])
       | none=>none
     | none=>none
   | _=>none
 | _=>none
theorem zHA{P:Program}{f:FuncId}{σ:Type}{dec:zA->Option σ}{enc:σ->zA}{g:σ->Option AV}(he:∀cargs w,(callFunc f cargs).run P w=.ok (.enter f cargs) w)(hd:∀sub s,dec sub=some s->sub=enc s)
   (h:∀s v,g s=some v->zD9 v=true/\Ct P f [.ptr 0 0] [.obj true (enc s)] v [.obj true (enc s)]):Sound P f (zLM dec g):=by
 refine ⟨he,fun args H v H' W hs=>?_,fun args H v H' W hs=>?_⟩
 · unfold zLM at hs
   split at hs <;> try cases hs
   split at hs <;> try cases hs
   rename_i sub hb;split at hs <;> try cases hs
   rename_i s hds;split at hs <;> cases hs
   rename_i hg;obtain⟨h0,h2⟩:=h _ _ hg;have e:=hd _ _ hds;subst e;have:=zy h2 rfl h0 hb;obtain⟨h1,h2⟩:=q1Z.1 hb;rw[<-h2,List.set_getElem_self]at this;exact this
 · unfold zLM at hs
   split at hs <;> try cases hs
   split at hs <;> try cases hs
   split at hs <;> try cases hs
   split at hs <;> cases hs
   exact⟨qnZ _,fun _ _ _=>rfl⟩
attribute [simp] zLM
noncomputable def zRQ:zS:=zLM dsD fun d=>some (.int .i64 d.steps)
theorem zK2:Sound Pz 45 zRQ :=
 zHA (zD Tryz.func45 rfl (by decide)) (fun _ _=>zCE) fun d v h=>by cases h;exact⟨rfl,zE8 (zNU d) rfl⟩
noncomputable def zSO:zS:=zLM dsD fun d=>some (.bool d.down)
theorem zLj:Sound Pz 46 zSO :=
 zHA (zD Tryz.func46 rfl (by decide)) (fun _ _=>zCE) fun d v h=>by cases h;exact⟨rfl,zE8 (zSH d) rfl⟩
end
section
open Go Go.Lib
attribute [-simp] zG zT zc zJ zn
noncomputable def zAi(K:List (List UInt8)):Gam:=zh [(50,zFB),(30,zN0),(31,zKS),(32,zTb),(33,zO7),(34,zKp),(35,zCu),(36,zEJ),(38,zN2 K),(39,zCp),(40,zDf),(37,zKH),(41,zDy),(42,zDv),(14,zRN),(15,zOC),(43,zM2),(44,zLx),(45,zRQ),(46,zSO),(48,zG0),(49,zF3),(47,zJu)]
theorem zRJ(K:List (List UInt8)):GOk Pz (zAi K):=zC zKW (zC zMn (zC zKg (zC zPk (zC zNT (zC zKr (zC zEu (zC zNh (zC (zLq K) (zC zDV (zC zDW (zC zKm (zC zKG (zC zJz (zC zM8 (zC zL9 (zC zNP (zC zND (zC zK2 (zC zLj (zC zKR (zC zGB (zC zMk zB))))))))))))))))))))))
theorem zPi(f:Nat)(hf:f<256)(ls:List Nat)(hl0:∀c∈ls,c<256)(hn0:ls.length<=9223372036854775807)(l:List Nm)(hl:zRh l)(hll:l.length<=9223372036854775807)(a:Nat)(ha:a<256)(raw:List UInt8)(hraw:raw.length<=140737488351232) :
   ∃H',Ct Pz 4 [.agg [.int .u8 f,.sl 0 0 ls.length 1 false,.sl 1 0 l.length 3 false],.int .u8 a,.str raw] [.cells false (ls.map aB),.cells false (nmA l)] (.bool true) H':=by
 have a0:(∀x∈ls,x<256)=True:=by simpa using hl0
 have t0:(ls.map aB).take ls.length=ls.map aB:=q6Z (by simp);have t1:(nmA l).take (l.length*3)=nmA l:=q6Z (by simp);have hfI:(f:Int)<256:=by omega
 obtain⟨F1,F2,F3⟩:=zRH l;have hseg:((sdM f ls).segs).length<=6:=by simp[sdM];omega
 obtain⟨F,hF⟩:∃F,Z5 l=F:=⟨_,rfl⟩
 rw[hF]at F1 F2 F3;obtain⟨X,hX⟩:∃X,sdM f ls=X:=⟨_,rfl⟩
 rw[hX]at hseg;have hshort:zJ3 F:=fun e he=>by have:=(F1 e he).1.2;omega
 have hF6:F.length<=1000000:=by omega
 have hF9:F.length<=900000:=by omega
 have ta:(a:Int).tmod 20=((a % 20:Nat):Int):=by rw[rrZ (by omega)];omega
 obtain⟨t,ht⟩:∃t:Nat,a % 20=t:=⟨_,rfl⟩
 have ht34:t<20:=by omega
 rw[ht]at ta;have w1:IntKind.u8.wrap (t:Int)=t:=zEH (by omega) (by omega);have w2:IntKind.i64.wrap (t:Int)=t:=zK (by omega) (by omega);obtain⟨d,r,e1,e2,e3,e4,e5,e6,e7,e8,e9,e10,d1,r1,k,e,e11,e12,e13,e14,e15,e16,e17,e18⟩:=zLL X F F1 F2 F3 (t:Int) (by omega) (by omega);have k0:d.ok 200000 1000000000000:=DS.ok_mono e3 (by omega) (by omega);have s0:d.small:=DS.ok_mono e3 (by omega) (by omega);have rk0:RSk r 200000 1000000000000:=e4.mono (by omega) (by omega);have rs0:r.small:=e4.small (by omega) (by omega);have kA:(d.arm (t:Int)).ok 200000 1000000000000:=DS.ok_mono e9 (by omega) (by omega);have rkA:RSk (r.arm (t:Int)) 100000 1000000000000:=e10.mono (by omega) (by omega);have k1:d1.ok 200000 1000000000000:=DS.ok_mono e13 (by omega) (by omega);have s1:d1.small:=DS.ok_mono e13 (by omega) (by omega);have rk1:RSk r1 200000 1000000000000:=e14.mono (by omega) (by omega);have rs1:r1.small:=e14.small (by omega) (by omega);obtain⟨dA,hdA⟩:∃x,d.arm (t:Int)=x:=⟨_,rfl⟩
 rw[hdA]at e11 kA;obtain⟨rA,hrA⟩:∃x,r.arm (t:Int)=x:=⟨_,rfl⟩
 rw[hrA]at e12 rkA;obtain⟨K,hK⟩:∃K,F.map Prod.fst=K:=⟨_,rfl⟩
 have hKm:F.map (fun e=>AV.str e.1)=K.map AV.str:=by rw[<-hK];simp[Function.comp_def]
 have hKnd:K.Nodup:=by rw[<-hK];exact F2
 have hKs:zHy K:=⟨hKnd,by rw[<-hK];simpa using hF6,fun s hs=>by
   rw[<-hK]at hs;obtain⟨x,hx,rfl⟩:=reZ.1 hs;have:=(F1 x hx).1.2;omega⟩
 rw[hK]at e5;obtain⟨N,hN⟩:∃N,F.length=N:=⟨_,rfl⟩
 have hKl:K.length=N:=by rw[<-hK,r7Z,hN]
 rw[hN]at F3 hF6 hF9;have hK5:N<=100000:=by omega
 have hΓ:=zRJ K;refine ⟨[.cells false (ls.map aB),.cells false (nmA l)],zE Tryz.func4 rfl ?_⟩;simp only[Tryz.ntmps4,q7Z,q8Z,Nat.reduceAdd,Nat.reduceSub,qbZ,q9Z,qaZ];have hA0:∀rn:List Nat,AWs rn (ls.map aB) (ls.map aB):=fun rn=>AWs.refl _ _ (zCd ls);have hA1:∀rn:List Nat,AWs rn (nmA l) (nmA l):=fun rn=>AWs.refl _ _ (zA3 l);have hA2:∀rn:List Nat,AWs rn (flA F) (flA F):=fun rn=>AWs.refl _ _ (ZE F);obtain⟨v,g,nx,sg⟩:=X;simp only at hseg;have hsg12:sg.length<=1000000000000:=by omega
 have hA3:∀rn:List Nat,AWs rn (zN sg) (zN sg):=fun rn=>AWs.refl _ _ (by simp);have hS4:∀k,zAK k (flA F)=flA F:=fun k=>Z0 k _ (ZE F);have hB0:∀m,ze m (ls.map aB)=true:=fun m=>zk m _ (zCd ls);have hB1:∀m,ze m (nmA l)=true:=fun m=>zk m _ (zA3 l);have hB3:∀m,ze m (flA F)=true:=fun m=>zk m _ (ZE F);have h0:(zN sg).take (sg.length*3)=zN sg:=q6Z (by simp);have fin:∀(T:zA),Weak 2 [.bool true] (.cells false (ls.map aB)::.cells false (nmA l)::T) [.bool true] [.cells false (ls.map aB),.cells false (nmA l)]:=fun T =>
   wW [0,1] (by simp[AWb,AWg,hA0,hA1])
 refine wS hΓ (by simp;exact wR) ?_;refine Sim.seq (Sim.draw hmix (by simp) ?_);refine SimR.many hΓ 7 (by simp[zF];rfl) (by omega) (by kernel_rfl) (by simp +decide [zAi,zN0,zKS,zi,zLP,zL8,t0,t1,a0,hn0,hfI,hl,hll,hX,hF,mfA,shA,shB,hS4,scA,hB0,hB1,hB3];first | exact wR | exact⟨by kernel_rfl,wR⟩) ?_;refine SimR.done rfl ?_;dsimp only;refine wS hΓ (by simp +decide [zAi,zTb,zO7,e1,e2,hshort,hF6,hF9,hN];exact wR) ?_;refine wS hΓ (by simp +decide;exact wR) ?_;refine wS hΓ (by simp +decide;exact wR) ?_;refine Sim.seq (wS hΓ (by simp +decide;exact wR) ?_);refine Sim.block (Sim.loopW (fun i:Nat=>i<=N)
   (fun i=>[.top,.int .u8 a,.str raw,.top,.top,.top,.top,.ptr 4 0,.sl 3 0 N 2 false,.ptr 5 0,.ptr 6 0,.sl 7 0 i 1 false,.int .i64 i]++qbZ 149 .top)
   (fun i=>[.cells false (ls.map aB),.cells false (nmA l),.cells true (zN sg),.cells true (flA F),.cells true [.int .i64 v,.int .i64 g,.int .i64 nx,.sl 2 0 sg.length 3 false],.obj true d.blks,.obj true r.blks,.cells true ((F.take i).map fun e=>.str e.1)]) (fun i=>N-i) 0 (by simp) (qqZ _)
   (wW [0,1,3,4,5,6,7,100] (by simp[AWb,AWg,AW,hA0,hA1,hA2,hA3])) fun i hi=>?_)
 by_cases hiN:i<N
 · have hiI:(i:Int)<N:=by omega
   have hiF:i<F.length:=by omega
   obtain⟨f1,f2⟩:=zLH F i hiF;have hnmb:=(F1 F[i] (r3Z hiF)).1.2;have hnext:(F.take (i+1)).map (fun e=>AV.str e.1)=(F.take i).map (fun e=>AV.str e.1)++[AV.str F[i].1]:=by
     rw[List.take_add_one,q3Z hiF,roZ];rfl
   obtain⟨⟨nm,bs⟩,hFi⟩:∃e,F[i]=e:=⟨_,rfl⟩
   rw[hFi]at f1 f2 hnmb hnext;dsimp only at f1 f2 hnmb hnext;have hnm6:nm.length<=140737488351232:=by omega
   have i1:i*2<N*2:=by omega
   have i2:i*2+2<=N*2:=by omega
   have i3:i*2<(flA F).length:=by rw[zBt];omega
   have i6:i*2+2<=F.length*2:=by omega
   have i8:i*2<F.length*2:=by omega
   have y1:IntKind.i64.wrap ((i:Int)+1)=i+1:=zK (by omega) (by omega);have b1:(i+1)*16<=140737488355328:=by omega
   have b2:i+1<=9223372036854775807:=by omega
   obtain⟨R,hR⟩:∃R,(F.take i).map (fun e=>AV.str e.1)=R:=⟨_,rfl⟩
   have hRl:R.length=i:=by rw[<-hR,r7Z,qjZ];omega
   have hRf:zL R=true:=by rw[<-hR];exact zH _ _ fun _=>rfl
   have hRt:R.take i=R:=q6Z (by omega);rw[hR]at hnext ⊢;have hR1:∀rn:List Nat,AWs rn (R++[AV.str nm]) (R++[AV.str nm]):=fun rn=>AWs.refl _ _ (frees_iff.2 fun v hv=>by
     rcases qxZ.1 hv with h | h
     · exact frees_iff.1 hRf v h
     · rw[r1Z.1 h];rfl)
   obtain⟨lv,hlv⟩:∃b,Zp ⟨v,g,nx,sg⟩ nm=b:=⟨_,rfl⟩
   refine wS hΓ (by simp[hiI,hiN];exact wR) ?_;refine Sim.seq (Sim.block ?_);refine wS hΓ (by simp +decide [hiN,hN,f1,f2,i1,i2,i3,i6,i8,hRl,hRt,b1,b2];exact wR) ?_;refine Sim.seq (Sim.draw hmix (by simp) ?_);refine SimR.many hΓ 16 (by simp[zF];rfl) (by omega) (by kernel_rfl) (by simp +decide [zAi,zKp,zCu,zEJ,ZD,zAe,h0,hsg12,hnm6,hlv,hiN,hN,f1,f2,i1,i2,i3,i6,i8,scA,hB0,hB1,hB3];first | exact wR | exact⟨by kernel_rfl,wR⟩) ?_;refine SimR.done rfl ?_;dsimp only;refine wE hΓ (by simp +decide;exact wT) ?_;dsimp only;refine wE hΓ (by simp[y1];exact wT) ?_;refine ⟨i+1,by omega,?_,by omega⟩;rw[hnext];exact wW [0,1,2,3,4,5,6,9] (by simp[AWb,AWg,AW,hA0,hA1,hA2,hA3,hR1])
 · have hie:i=N:=by omega
   subst hie;have hft:F.take i=F:=q6Z (by omega);rw[hft,hKm];refine wE hΓ (by simp;exact wT) ?_;dsimp only;rw[if_pos rfl];refine Sim.seq (Sim.seq (Sim.draw hmix (by simp) ?_));refine SimR.many hΓ 9 (by simp[zF];rfl) (by omega) (by kernel_rfl) (by simp +decide [zAi,zKp,zCu,zEJ,ZD,zAe,h0,hsg12,hraw,scA,hB0,hB1,hB3];first | exact wR | exact⟨by kernel_rfl,wR⟩) ?_;have hKt:(K.map AV.str).take i=K.map AV.str:=q6Z (by simp;omega);have hKt2:(K.map AV.str++K.map AV.str).take (i+i)=K.map AV.str++K.map AV.str:=q6Z (by simp;omega);have hSt:zp (K.map AV.str++K.map AV.str)=some (K++K):=by rw[<-roZ];exact Zw _
   obtain⟨O,hO⟩:∃O,Zm ⟨v,g,nx,sg⟩ K=O:=⟨_,rfl⟩
   have hWf:=zE6 ⟨v,g,nx,sg⟩ K;have hWt0:(zB8 ⟨v,g,nx,sg⟩ K).take O.length=O.map AV.str:=by
     unfold zB8;rw[hO];exact List.take_left' (by simp)
   have hWl:O.length<=(zB8 ⟨v,g,nx,sg⟩ K).length:=by unfold zB8;rw[hO];simp
   have hOl:O.length<=i:=by rw[<-hO,<-hKl];exact zDw _ _
   obtain⟨W,hW⟩:∃W,zB8 ⟨v,g,nx,sg⟩ K=W:=⟨_,rfl⟩
   rw[hW]at hWf hWt0 hWl;rw[hO]at e5;rw[<-e5]at e6;obtain⟨V,hV⟩:∃V,d.list=V:=⟨_,rfl⟩
   rw[hV]at e6 e7;obtain⟨L,hL⟩:∃L,V.length=L:=⟨_,rfl⟩
   rw[hL]at e7;have hL6:L<=1000000:=by omega
   have hVt:(V.map AV.str).take L=V.map AV.str:=q6Z (by rw[r7Z];omega);have hOt:(O.map AV.str).take O.length=O.map AV.str:=q6Z (by simp);have hO12:O.length<=1000000000000:=by omega
   have hS5:∀k,zAK k W=W:=fun k=>Z0 k _ hWf;have hS6:∀k,zAK k (O.map AV.str)=O.map AV.str:=fun k=>Z0 k _ (zH _ _ fun _=>rfl);have hB5:∀m,ze m W=true:=fun m=>zk m _ hWf;have hB7:∀m,ze m (V.map AV.str)=true:=fun m=>zk m _ (zH _ _ fun _=>rfl);have hB8:∀m,ze m (O.map AV.str)=true:=fun m=>zk m _ (zH _ _ fun _=>rfl);have hB6:∀m,ze m (K.map AV.str++K.map AV.str)=true:=fun m=>zk m _ (by rw[<-roZ];exact zH _ _ fun _=>rfl);have c1:(i+i)*16<=140737488355328:=by omega
   have c2:i+i<=9223372036854775807:=by omega
   refine SimR.two hΓ 12 3583 40960 17 _ rfl (by simp[zBT,zF,zM];rfl) (by simp[zBT,zF,zM];rfl) (by omega) (by omega) (by kernel_rfl) (by kernel_rfl) (by simp +decide [zAi,zEJ];exact wT) (by kernel_rfl)
     (by simp +decide [zAp,List.range,List.range.loop];rfl) (by simp +decide [hKl,hKt,c1,c2];exact wR) (by simp +decide [zAi,zEJ,zN2,zi,zAf,zAe,h0,hSt,hKl,hKt2,hKs,hK5,hsg12,hO,hW,shA,shB,hS5,scA,hB0,hB1,hB3,hB5,hB6];exact wT) (us:=[70,75,77]) (by kernel_rfl) (by kernel_rfl) (by simp +decide) ?_
   refine SimR.many hΓ 23 (by simp[zF,zM];rfl) (by omega) (by kernel_rfl) (by simp +decide [zAi,zDf,s0,hV,hL,zCp,zi,zAf,zAe,h0,hVt,hL6,e6,zKH,ZD,hWt0,hWl,hOt,hO12,hsg12,shA,shB,hS6,scA,hB0,hB1,hB3,hB5,hB6,hB7,hB8];first | exact wR | exact⟨by kernel_rfl,wR⟩) ?_;obtain⟨rl,tl,hrb,hr3,hr5⟩:∃(rl:List AV) (tl:zA),r1.blks=.cells true rl::tl/\rl[3]? = some (.int .i64 r1.steps)/\rl[5]? = some (.bool r1.down):=⟨_,_,rfl,rfl,rfl⟩
   have hrO:zGc (.cells true rl::tl)=some r1:=by rw[<-hrb];exact zQv r1
   have hfl:d1.files.length<=9223372036854775807:=by
     have:=(zAA e13).2;unfold DS.files;rw[r7Z];omega
   have hB9:∀m,ze m (flA d1.files)=true:=fun m=>zk m _ (ZE _);refine SimR.many hΓ 32 (by simp[zF,zM];rfl) (by omega) (by kernel_rfl) (by simp +decide [zAi,zDy,zDv,zEJ,k0,rk0,e8,hsg12,scA,hB0,hB1,hB3,hB5,hB6,hB7,hB8,hB9];first | exact wR | exact⟨by kernel_rfl,wR⟩) ?_;refine SimR.done rfl ?_;dsimp only;refine wE hΓ (by simp +decide;exact wT) ?_;dsimp only;refine wS hΓ (by simp +decide [zAi,zRN,ta,w1,w2,hdA];exact wR) ?_;refine wS hΓ (by simp +decide [zAi,zOC,rs0,ta,w1,w2,hrA];exact wR) ?_;refine wS hΓ (by simp +decide [zAi,zM2,kA,e11,hsg12];exact wR) ?_;refine wS hΓ (by simp +decide [zAi,zEJ,zLx,rkA,e12,hsg12];exact wR) ?_;refine Sim.seq (Sim.draw hmix (by simp) ?_);refine SimR.many hΓ 4 (by simp[zF,zM];rfl) (by omega) (by kernel_rfl) (by simp +decide [zAi,scA,hB0,hB1,hB3,hB5,hB6,hB7,hB8,hB9];first | exact wR | exact⟨by kernel_rfl,wR⟩) ?_;refine SimR.many hΓ 9 (by simp[zF,zM];rfl) (by omega) (by kernel_rfl) (by simp +decide [zAi,scA,hB0,hB1,hB3,hB5,hB6,hB7,hB8,hB9];first | exact wR | exact⟨by kernel_rfl,wR⟩) ?_;refine SimR.many hΓ 18 (by simp[zF,zM];rfl) (by omega) (by kernel_rfl) (by simp +decide [zAi,zRQ,zLM,hrb,hr3,e15,scA,hB0,hB1,hB3,hB5,hB6,hB7,hB8,hB9];first | exact wR | exact⟨by kernel_rfl,wR⟩) ?_;refine SimR.many hΓ 27 (by simp[zF,zM];rfl) (by omega) (by kernel_rfl) (by simp +decide [zAi,zSO,zLM,hr5,e16,scA,hB0,hB1,hB3,hB5,hB6,hB7,hB8,hB9];first | exact wR | exact⟨by kernel_rfl,wR⟩) ?_;refine SimR.many hΓ 34 (by simp[zF,zM];rfl) (by omega) (by kernel_rfl) (by simp +decide [zAi,zG0,zF3,hrO,s1,rs1,e17,hfl,zJu,scA,hB0,hB1,hB3,hB5,hB6,hB7,hB8,hB9];first | exact wR | exact⟨by kernel_rfl,wR⟩) ?_;refine SimR.many hΓ 44 (by simp[zF,zM];rfl) (by omega) (by kernel_rfl) (by simp +decide [zAi,zDy,zDv,zEJ,hrO,k1,rk1,e18,hsg12,scA,hB0,hB1,hB3,hB5,hB6,hB7,hB8,hB9];first | exact wR | exact⟨by kernel_rfl,wR⟩) ?_;refine SimR.many hΓ 47 (by simp[zF,zM];rfl) (by omega) (by kernel_rfl) (by simp +decide [zAi,zFB,scA,hB0,hB1,hB3,hB5,hB6,hB7,hB8,hB9];first | exact wR | exact⟨by kernel_rfl,wR⟩) ?_;refine SimR.done rfl ?_;dsimp only;refine wE hΓ (by simp;exact wT) ?_;exact⟨.inr rfl,_,by simp[Tryz.f4] <;> rfl,fin _⟩
end
section
open Go Go.Lib
def zCg:List AS:=[.flat true zUT,.flat false [.one (.int .u8)],.flat false [.one .str]]
theorem zHG:∀xs H,zAD zCg 0 xs H->(∀s,xs[2]? = some (.str s)->s.length<=140737488351232)->∃H',Ct Pz 4 xs H (.bool true) H':=by
 intro xs H h0 hx;obtain⟨z1,y1,H1,H2,rfl,k0,rfl,h1⟩:=zJ1 h0;obtain⟨f,ls,l,x0,x1,c1,c2,c3,c4,c5,w0,w1,rfl,rfl⟩:=zUr k0;obtain⟨x,ys,rfl,⟨a,rfl,ha⟩,h2⟩:=zFO h1;obtain⟨y,zs,rfl,⟨s,rfl,hs⟩,h3⟩:=zFO h2;obtain⟨rfl,rfl⟩:=zKq h3;have ba:=bounds_u8 ha;obtain⟨H',h⟩:=zPi f c1 ls c2 c3 l c4 c5 a.toNat (by omega) s (hx s rfl);rw[show ((a.toNat:Nat):Int)=a by omega]at h;obtain⟨v0,v1⟩:=zTc w0 w1 [0,1] rfl rfl;have hA0:∀rn:List Nat,AWs rn (ls.map aB) (ls.map aB):=fun rn=>AWs.refl _ _ (zCd ls);have hA1:∀rn:List Nat,AWs rn (nmA l) (nmA l):=fun rn=>AWs.refl _ _ (zA3 l);refine ⟨H',zTy ?_ h⟩;exact Weak.mk' [0,1] (by decide) rfl ⟨⟨⟨rfl,rfl⟩,v0,v1,trivial⟩,⟨rfl,rfl⟩,rfl,trivial⟩ (by simp[AWb,AWg,hA0,hA1])
end
end Go.Proofs.YtfhidaoiofeooaaGreatDoor
