/- Parts of the proof of DiskTells: lemmas, each with its own conditions. -/
import Derived.Test.YtfhidaoiofeooaaGreatY26
set_option maxHeartbeats 64000000
open List renaming getElem?_eq_some_iff → q1Z, getD_eq_getElem?_getD → q2Z, getElem?_eq_getElem → q3Z, getElem?_append_left → q4Z, take_of_length_le → q6Z, length_cons → q7Z, length_nil → q8Z, cons_append → q9Z, nil_append → qaZ, replicate → qbZ, mem_of_getElem? → qcZ, mem_cons_self → qhZ, mem_cons_of_mem → qiZ, length_take → qjZ, getElem?_take → r4Z, take_append_drop → r6Z, replicate_succ → rvZ, length_replicate → rwZ, all_eq_true → s5Z, take_append → seZ
open Option renaming map_eq_some_iff → qlZ
open Nat renaming le_refl → qnZ, lt_or_ge → s2Z
open Bool renaming and_eq_true → qrZ
open Array renaming getElem?_eq_some_iff → qtZ, getElem?_eq_getElem → quZ, getD_eq_getD_getElem? → qvZ, getElem?_toList → riZ, length_toList → rjZ, toList_append → rxZ
open Int renaming tmod_eq_emod_of_nonneg → rrZ
namespace Go.Proofs.YtfhidaoiofeooaaGreat
open _root_.Go.Proofs.Tryz renaming prog → Pz
set_option maxRecDepth 100000
section
open Go Go.Lib
attribute [-simp] zN zr ZI zT ZL
def zAu(h:Nat)(o:Oper):Oper:={ o with after:=o.after.filter fun e=>e.on != h }
def zFj(ops:Array Oper)(c h n:Nat):Array Oper:=((zI ops c n).toList.mapIdx fun k o=>if k=h then zS o else zAu h o).toArray
theorem zSf{ops:Array Oper}{c h n:Nat}(hc:c<=n)(hn:n<=ops.size):(zFj ops c h n).size=n:=by
 unfold zFj;rw[List.size_toArray,List.length_mapIdx,rjZ,zFN hc hn]
theorem zLY{ops:Array Oper}{c h n:Nat}(k:Nat):(zFj ops c h n)[k]? = ((zI ops c n)[k]?).map fun o=>if k=h then zS o else zAu h o:=by
 unfold zFj;rw[List.getElem?_toArray,List.getElem?_mapIdx,riZ]
theorem zK1(h:Nat)(o:Oper):zAu h (zS o)=zS o:=by
 unfold zAu zS;simp
theorem zOf{P:Program}{Γ:Gam}(hΓ:GOk P Γ){o:Oper}{a:Act}{j:Inj}{F:List AV}{X:zA}{w:World}{q:QR}(h:qop P Γ F X o.op=some q)(h1:q.call=true)(h2:q.H=X)(hF:VRs j F a.tmps.toList)(hR:R j X w)(r:Option Nat)(n:Nat){K:Act->World->Prop}{Q:Exit->Act->World->Prop}
   (hk:∀cv j' w',VR j' q.v cv->Step X.length j X w j' X w'->K (a.put o.dst cv) w'):o.wpIn (FW r) n P a w K Q:=by
 have key:∃g args ts W,o.op=.call ⟨.value g,args,ts⟩/\zDy Γ F X g args=some (q.v,X,W):=by
   unfold qop at h;split at h
   · repeat' (split at h <;> try cases h)
     all_goals cases h1
   · split at h <;> try cases h
     split at h <;> try cases h
     split at h
     · cases h
       exact absurd (congrArg List.length h2) (by simp)
     · obtain⟨_,_,rfl⟩:=qlZ.1 h
       cases h1
   · rename_i g args ts ho
     split at h
     · cases h;cases h1
     · split at h <;> cases h
       rename_i v H' hc;dsimp only at h2;subst h2;exact⟨g,args,ts,[],ho,hc⟩
   · obtain⟨_,_,rfl⟩:=qlZ.1 h
     cases h1
   · obtain⟨_,_,rfl⟩:=qlZ.1 h
     cases h1
   · obtain⟨_,_,rfl⟩:=qlZ.1 h
     cases h1
   · obtain⟨_,_,rfl⟩:=qlZ.1 h
     cases h1
   · split at h
     · cases h;cases h1
     · split at h
       · cases h;cases h1
       · obtain⟨_,_,rfl⟩:=qlZ.1 h
         cases h1
 obtain⟨g,args,ts,W,ho,hc⟩:=key;exact zKc hΓ ho hc hF hR r n hk
section
variable {P:Program} {Γ:Gam} {V:Array Oper} {F0 Fb:List AV} {H0 X:zA} {qs:List QR} {Fs:Nat->List AV} {Hs:Nat->zA} {ds:List Deferred} {j0 j:Inj} {w0 w:World} {D:Nat->Prop} {a:Act}
theorem HI.go2(hΓ:GOk P Γ)(h:HI ds j0 H0 w0 V qs Fb X D a j w)(T:Txt P Γ V F0 H0 qs Fs Hs){i:Nat}{o:Oper}(ho:V[i]? = some o)(hD:¬D i)
   (hc:∀(k:Nat) o e,D k->V[k]? = some o->e∈o.after.toList->Region.binds .any e=true->D e.on) (he:∀e∈o.after.toList,Region.binds .any e=true->D e.on)
   (hFb:∀t∈zO V o,∀x,F0[t]? = some x->Fb[t]? = some x) (hFl:Fb.length=F0.length) (hX:∀q,qs[i]? = some q->(q.st=none/\q.call=false/\q.grows=false/\∀(b:Nat) x,q.rd=some b->(Hs i)[b]? = some x->X[b]? = some x)\/∃q2,zCV P Γ V (Fs i) X o=some q2/\q2.call=true/\q2.v=q.v/\q2.H=X)
   (r:Option Nat) (n:Nat) {K:Act->World->Prop} {Q:Exit->Act->World->Prop} (hk:∀a' j' w',HI ds j0 H0 w0 V qs Fb X (fun k=>D k\/k=i) a' j' w'->K a' w'):wpOpIn (FW r) n P V Q i K a w:=by
 have hi:i<V.size:=(qtZ.1 ho).1;obtain⟨q,hq⟩:=T.q ho;obtain⟨s1,_,_⟩:=T.each i o q ho hq
 have hc':∀(k:Nat) o e,D k->V.toList[k]? = some o->e∈o.after.toList->Region.binds .any e=true->D e.on:=fun k o e hk hok=>hc k o e hk (by simpa using hok)
 have h1:∀m,((Z5 V.toList).getD i 0).testBit m=true->D m:=Zn hc' i o (by simpa using ho) he
 have h2:∀(k:Nat) ok qk,i<k->D k->V[k]? = some ok->qs[k]? = some qk->zy false (zO V o) (zO V ok) o.dst ok.dst q qk=true:=by
   intro k ok qk hik hk hok hqk;have:=T.pairs i k o ok q qk hik ho hok hq hqk
   have hb:((Z5 V.toList).getD k 0).testBit i=false:=by
     cases hb:((Z5 V.toList).getD k 0).testBit i with
     | false=>rfl
     | true=>exact absurd (Zn hc' k ok (by simpa using hok) (fun e he hbe=>hc k ok e hk hok he hbe) i hb) hD
   rw[hb]at this;exact this
 have hM:VRs j (zAw (zO V o) (Fs i)) a.tmps.toList:=by
   refine zLI (by rw[T.flen i (by omega),<-hFl];exact h.size) fun t ht x v hx hv=>?_
   have htc:(zO V o).contains t=true:=by simpa using ht
   rcases T.slot t x i (by omega) hx with⟨k,ok,qk,k1,k2,k3,k4,rfl⟩ | ⟨k1,k2⟩
   · have:=T.pairs k i ok o qk q k1 k2 ho k3 hq
     unfold zy at this;rw[k4]at this;simp only[htc,Bool.not_true,Bool.false_or,qrZ]at this;exact h.set k ok qk t v (h1 k this.1.1.1.1) k2 k3 k4 hv
   · refine h.old t x v (fun k ok hkd hok e=>?_) (hFb t ht x k2) hv
     rcases Nat.lt_trichotomy k i with h3 | h3 | h3
     · exact k1 k ok h3 hok e
     · subst h3;exact hD hkd
     · obtain⟨qk,hqk⟩:=T.q hok
       have:=h2 k ok qk h3 hkd hok hqk;unfold zy at this;rw[e]at this;simp only[htc,Bool.not_true,Bool.false_or,qrZ]at this
       exact absurd this.1.1.1.2.1 (by simp)
 have put:∀cv j' w',VR j' q.v cv->Step X.length j X w j' X w'->K (a.put o.dst cv) w':=by
   intro cv j' w' hv hst;have hjl:=hst.jle h.step.rel (qnZ _)
   have hget:∀t,o.dst≠some t->(a.put o.dst cv).tmps[t]? = a.tmps[t]?:=by
     intro t ht;unfold Act.put;split
     · rename_i d hd
       rw[Array.getElem?_setIfInBounds,if_neg (by intro e;subst e;exact ht hd)]
     · rfl
   refine hk _ j' _ ⟨h.step.trans hst h.step.len,?_,?_,?_,by rw[ZU];exact h.defers⟩
   · rw[h.size]
     unfold Act.put
     split <;> simp
   · intro k o' q' t v hk' ho' hq' hd hv'
     rcases hk' with hk' | rfl
     · have hki:k≠i:=fun e=>hD (e▸hk')
       have hne:o.dst≠some t:=by
         intro e;rcases Nat.lt_or_gt_of_ne hki with h1 | h1
         · have:=T.pairs k i o' o q' q h1 ho' ho hq' hq
           unfold zy at this;rw[e,hd]at this;simp at this
         · have:=T.pairs i k o o' q q' h1 ho ho' hq hq'
           unfold zy at this;rw[e,hd]at this;simp at this
       rw[hget t hne]at hv';exact (h.set k o' q' t v hk' ho' hq' hd hv').mono hjl
     · rw[ho]at ho'
       cases ho';rw[hq]at hq';cases hq';unfold Act.put at hv';rw[hd]at hv';dsimp only at hv';rw[Array.getElem?_setIfInBounds,if_pos rfl]at hv';split at hv'
       · cases hv';exact hv
       · cases hv'
   · intro t x v hno hx hv'
     have hne:o.dst≠some t:=hno i o (.inr rfl) ho;rw[hget t hne]at hv'
     exact (h.old t x v (fun k o' hk' ho'=>hno k o' (.inl hk') ho') hx hv').mono hjl
 unfold wpOpIn;rw[ho];dsimp only;unfold zCV at s1;split at s1
 · cases s1
 · rename_i hw
   cases s1;rw[Za hw hM]
   refine ⟨fun _ _=>trivial,put undef j w ?_ (Step.refl h.step.rel (qnZ _))⟩
   exact⟨#[],rfl,rfl⟩
 · rename_i hw
   rw[Za hw hM];simp only[if_true];rcases hX q hq with⟨g1,g2,g3,g4⟩ | ⟨q2,g1,g2,g3,g4⟩
   · exact zKj hΓ s1 g1 g2 g3 g4 hM h.step.rel r n fun cv w'=>put cv j w'
   · unfold zCV at g1
     rw[hw]at g1;dsimp only at g1;refine zOf hΓ g1 g2 g4 hM h.step.rel r n ?_;rw[g3];exact put
end
def zNw(P:Program)(Γ:Gam)(V:Array Oper)(p:Nat)(d:Option Tmp)(c h:Nat)(X:zA):Nat->List Oper->List AV->zA->Prop
 | _,[],_,_=>True
 | k,o::rest,F,H=>match Z8 P Γ V F H o with
   | none=>False
   | some q=>((k<c\/k=h\/p.testBit k=true)\/((match d with | some e=>(zO V o).contains e=false | none=>True)/\q.grows=false /\
       if q.call=true then (match Z8 P Γ V F X o with | some q2=>q2.call=true/\q2.v=q.v/\q2.H=X | none=>False) else (match q.rd with | some b=>X[b]? = H[b]? | none=>True)))/\zNw P Γ V p d c h X (k+1) rest (ZW F o.dst q.v) q.H
theorem zVH{P:Program}{Γ:Gam}{V:Array Oper}{p:Nat}{d:Option Tmp}{c h:Nat}{X:zA}{F0:List AV}{H0:zA}{qs:List QR}{Fs:Nat->List AV}{Hs:Nat->zA}(T:Txt P Γ V F0 H0 qs Fs Hs)(hm:zNw P Γ V p d c h X 0 V.toList F0 H0) :
   ∀k o q,V[k]? = some o->qs[k]? = some q->(k<c\/k=h\/p.testBit k=true)\/((match d with | some e=>(zO V o).contains e=false | none=>True)/\q.grows=false /\
       if q.call=true then (match Z8 P Γ V (Fs k) X o with | some q2=>q2.call=true/\q2.v=q.v/\q2.H=X | none=>False) else (match q.rd with | some b=>X[b]? = (Hs k)[b]? | none=>True)):=by
 have key:∀k,k<=V.size->zNw P Γ V p d c h X k (V.toList.drop k) (Fs k) (Hs k):=by
   intro k
   induction k with
   | zero=>intro _;rw[T.f0,T.h0,List.drop_zero];exact hm
   | succ k ih =>
     intro hk
     have h1:=ih (by omega)
     have ho:V[k]? = some V[k]:=quZ (by omega)
     have hd:V.toList.drop k=V[k]::V.toList.drop (k+1):=by
       rw[List.drop_eq_getElem_cons (by simpa using (by omega:k<V.size))]
       simp
     obtain⟨q,hq⟩:=T.q ho;obtain⟨s1,s2,s3⟩:=T.each k _ q ho hq;rw[zCF]at s1;rw[hd]at h1;unfold zNw at h1;rw[s1]at h1;dsimp only at h1;rw[s2,s3];exact h1.2
 intro k o q ho hq;have hk:k<V.size:=(qtZ.1 ho).1
 have h1:=key k (by omega)
 have hd:V.toList.drop k=V[k]::V.toList.drop (k+1):=by
   rw[List.drop_eq_getElem_cons (by simpa using hk)]
   simp
 have e:V[k]=o:=by rw[quZ hk]at ho;exact Option.some.inj ho
 obtain⟨s1,s2,s3⟩:=T.each k _ q ho hq;rw[zCF]at s1;rw[hd,e]at h1;unfold zNw at h1;rw[s1]at h1;exact h1.1
theorem zWk{P:Program}{Γ:Gam}(hΓ:GOk P Γ){ops:Array Oper}{c h m p:Nat}(hch:c<=h)(hhm:h<m)(hcut:Cut ops m){F0 F1:List AV}{H0 H1 H':zA}{V:Array Oper}(hV:zFj ops c h m=V){oh:Oper}(hoh:ops[h]? = some oh)(hp:(Z5 ops.toList).getD h 0=p){qs:List QR}{v:AV}
   (hqr:ZI P Γ V V.toList F0 H0=some (qs,F1,H1)) (hstn:qs.all (fun q=>q.st.isNone)=true) (hdr:zEC V.toList (V.toList.map (zO V)) qs (Z5 V.toList)=true) (hw:zAI ops oh (zBL V p (List.range m) F1)=some true) (hop:opA P Γ (zBL V p (List.range m) F1) H1 oh.op=some (v,H'))
   (hdd:((List.range m).all fun k=>decide (k=h) || (match (V[k]?).bind (·.dst) with | some e=>oh.dst != some e | none=>true))=true) (hmid:zNw P Γ V p oh.dst c h H' 0 V.toList F0 H0)
   {j0:Inj} {w0:World} {a0:Act} (hR:R j0 H0 w0) (hF:VRs j0 F0 a0.tmps.toList) {ds:List Deferred} (hdf:a0.defers=ds)
   (r:Option Nat) (n:Nat) {Q:Exit->Act->World->Prop} (hq:∀j a w,VRs j (ZW F1 oh.dst v) a.tmps.toList->a.defers=ds->Step H0.length j0 H0 w0 j H' w->wpAnyIn (FW r) n P .any ops Q (ops.size-m) (lst ops.size m) a w)
   (hclosed:∀(k:Nat) o e,k<c->ops[k]? = some o->e∈o.after.toList->Region.binds .any e=true->e.on<c) (hedge0:∀(k:Nat) o e,ops[k]? = some o->e∈o.after.toList->Region.binds .any e=true->e.on<k) :
   wpAnyIn (FW r) n P .any ops Q (ops.size-c) (lst ops.size c) a0 w0:=by
 obtain⟨hsz,hbits,hgd⟩:=hcut
 have hvs:V.size=m:=by rw[<-hV];exact zSf (by omega) hsz
 have hFl:F0.length=a0.tmps.size:=by simpa using hF.length
 have hlo:∀k,k<c->V[k]? = (ops[k]?).map zS:=fun k hk=>by
   rw[<-hV,zLY,zDC (by omega) hsz hk,Option.map_map]
   congr 1
   funext o
   simp only[Function.comp_apply]
   rw[if_neg (by omega),zK1]
 have hhi:∀k,c<=k->k<m->k≠h->V[k]? = (ops[k]?).map (zAu h):=fun k h1 h2 h3=>by
   rw[<-hV,zLY,zCT (by omega) hsz h1 h2]
   congr 1
   funext o
   rw[if_neg h3]
 have hVh:V[h]? = some (zS oh):=by
   rw[<-hV,zLY,zCT (by omega) hsz hch hhm,hoh]
   simp
 have hdst:∀k,k<m->(V[k]?).bind (·.dst)=(ops[k]?).bind (·.dst):=fun k hk=>by
   rcases s2Z k c with h1 | h1
   · rw[hlo k h1];cases ops[k]? <;> rfl
   · by_cases h2:k=h
     · subst h2;rw[hVh,hoh];rfl
     · rw[hhi k h1 hk h2];cases ops[k]? <;> rfl
 obtain⟨Fs,Hs,T,rfl,rfl⟩:=zQk hqr hdr
 have hst0:∀q∈qs,q.st=none:=by
   intro q hq;have:=s5Z.1 hstn q hq;simpa using this
 have hputs:∀(σ:List Nat) (G:zA),(σ.filterMap fun k=>(qs[k]?).bind (·.st)).foldl zAr G=G:=by
   intro σ G
   have:(σ.filterMap fun k=>(qs[k]?).bind (·.st))=[]:=by
     refine List.filterMap_eq_nil_iff.2 fun k _=>?_
     cases hk:qs[k]? with
     | none=>rfl
     | some q=>exact hst0 q (qcZ hk)
   rw[this];rfl
 have hph:∀k,p.testBit k=true->k<h:=fun k hk=>by
   rw[<-hp]at hk
   exact Zn (ops:=ops.toList) (D:=fun k=>k<h) (fun k o e hk hok hee hbe=>by have:=hedge0 k o e (by simpa using hok) hee hbe;omega) h oh (by simpa using hoh) (fun e hee hbe=>hedge0 h oh e hoh hee hbe) k hk
 have dne:∀k o,k<m->k≠h->V[k]? = some o->∀e,o.dst=some e->oh.dst≠some e:=by
   intro k o hk hkh ho e he;have:=s5Z.1 hdd k (List.mem_range.2 hk);rw[ho]at this;simp only[Option.bind_some,he,Bool.or_eq_true,decide_eq_true_eq,bne_iff_ne]at this;exact this.resolve_left hkh
 have hmk:=zVH T hmid
 have way:∀u (listed:Array Bool) a j w,listed.size=ops.size->nf (listed.toList.take m)=u->(∀k,m<=k->listed.getD k false=false)->(∀k,k<c->listed.getD k false=true) ->
     (∀(k:Nat) o e,listed.getD k false=true->ops[k]? = some o->e∈o.after.toList->Region.binds .any e=true->listed.getD e.on false=true) ->
     ((listed.getD h false=false/\∃σ,DI ds j0 F0 H0 w0 V qs Hs (fun i=>(i<m/\i≠h)/\listed.getD i false=true) σ a j w)\/(listed.getD h false=true/\HI ds j0 H0 w0 V qs (ZW F0 oh.dst v) H' (fun i=>(i<m/\i≠h)/\listed.getD i false=true) a j w)) ->
     wpAnyIn (FW r) n P .any ops Q (ops.size-m+u) listed a w:=by
   intro u
   induction u with
   | zero =>
     intro listed a j w hs' hnf hhi' hlo' _ hst
     have hall:∀i,i<m->listed.getD i false=true:=by
       intro i hi;have:=zF1 (listed.toList.take m) hnf i;rw[r4Z,if_pos hi,riZ]at this;rw[qvZ]
       have hli:listed[i]? = some listed[i]:=quZ (by omega)
       rw[hli]at this ⊢
       cases hb:listed[i] with
       | true=>rfl
       | false=>exact absurd (by rw[hb]) this
     have e:listed=lst ops.size m:=by
       refine zGP (by rw[hs',zAn hsz]) fun k=>?_
       rw[zv];rcases s2Z k m with h1 | h1
       · rw[hall k h1];simp[h1]
       · rw[hhi' k h1];simp;omega
     rcases hst with⟨h1,_⟩ | ⟨_,hi⟩
     · rw[hall h (by omega)]at h1;cases h1
     rw[e];refine hq j a w ?_ hi.defers hi.step
     refine VRs_iff.2 ⟨by rw[zAg,T.flen _ (qnZ _)];have:=hi.size;rw[zAg]at this;simpa using this,fun t x u hx hu=>?_⟩
     have hu':a.tmps[t]? = some u:=by simpa using hu
     by_cases ed:oh.dst=some t
     · refine hi.old t x u (fun k o hk hko e=>dne k o hk.1.1 hk.1.2 hko t e ed) ?_ hu'
       have hlen:t<F0.length:=by
         have:=(q1Z.1 hx).1;rw[zAg,T.flen _ (qnZ _)]at this;exact this
       unfold ZW at hx ⊢;rw[ed]at hx ⊢;dsimp only at hx ⊢;rw[List.getElem?_set,if_pos rfl]at hx ⊢;rw[if_pos hlen];split at hx
       · exact hx
       · cases hx
     · rw[zAV _ _ _ _ ed]at hx
       rcases T.slot t x _ (qnZ _) hx with⟨i,o,q,h1,h2,h3,h4,rfl⟩ | ⟨h1,h2⟩
       · have hih:i≠h:=by
           rintro rfl;rw[hVh]at h2;cases h2;exact ed h4
         exact hi.set i o q t u ⟨⟨by omega,hih⟩,hall i (by omega)⟩ h2 h3 h4 hu'
       · exact hi.old t x u (fun k o hk hko=>h1 k o (by omega) hko) (by rw[zAV _ _ _ _ ed];exact h2) hu'
   | succ u ih =>
     intro listed a j w hs' hnf hhi' hlo' hc hst
     have hun:∃i,i<m/\listed.getD i false=false:=by
       refine Classical.byContradiction fun hno=>?_
       have hall:∀b∈listed.toList.take m,b=true:=by
         intro b hb;obtain⟨i,hi⟩:=List.getElem?_of_mem hb;rw[r4Z]at hi;split at hi
         · rename_i hlt
           cases hbb:b with
           | true=>rfl
           | false =>
             exfalso;refine hno ⟨i,hlt,?_⟩;rw[qvZ];rw[riZ]at hi
             rw[hi,hbb];rfl
         · cases hi
       have:∀l:List Bool,(∀b∈l,b=true)->nf l=0:=by
         intro l
         induction l with
         | nil=>intro _;rfl
         | cons b l ihl =>
           intro hl;have h1:=hl b (qhZ ..);subst h1
           have h2:=ihl fun b hb=>hl b (qiZ _ hb)
           simpa[nf] using h2
       rw[this _ hall]at hnf;cases hnf
     obtain⟨i0,hi0,hli0⟩:=hun
     have hedge:∀(i:Nat) o e,i<m->V[i]? = some o->e∈o.after.toList->Region.binds .any e=true->e.on<i:=fun i o e _ ho he hb=>T.edges i o e ho he hb
     have hpre:∀b,p.testBit b=true->listed.getD h false=true->listed.getD b false=true:=by
       intro b hm hl
       exact Zn (ops:=ops.toList) (D:=fun k=>listed.getD k false=true) (fun k o e hk hok=>hc k o e hk (by simpa using hok)) h oh (by simpa using hoh) (fun e he hb=>hc h oh e hl hoh he hb) b (by rw[hp];exact hm)
     have hready:Region.ready .any ops listed≠[]:=by
       intro hnil
       have:∀i,i<m->listed.getD i false=true:=by
         intro i
         induction i using Nat.strongRecOn with
         | _ i ihi =>
           intro hi
           cases hb:listed.getD i false with
           | true=>rfl
           | false =>
             exfalso
             have:i∈Region.ready .any ops listed:=by
               refine ready_iff.2 ⟨by omega,?_,ops[i],quZ (by omega),fun e he hbe=>?_⟩
               · rw[qvZ,quZ (show i<listed.size by omega)]at hb ⊢
                 exact hb
               · have hlt:=hedge0 i _ e (quZ (by omega)) he hbe
                 exact ihi e.on hlt (by omega)
             rw[hnil]at this;cases this
       rw[this i0 hi0]at hli0;cases hli0
     rw[show ops.size-m+(u+1)=(ops.size-m+u)+1 by omega]
     refine ⟨fun hnil=>absurd hnil hready,fun i hi=>?_⟩
     obtain⟨h1,h2,o,ho,he⟩:=ready_iff.1 hi
     have hi':i<m:=by
       rcases s2Z i m with h3 | h3
       · exact h3
       · exfalso
         have:=zEg hc hi i0 (hbits i h3 h1 i0 hi0);rw[this]at hli0;cases hli0
     have hli:listed[i]? = some false:=by
       rw[qvZ,quZ (show i<listed.size by omega)]at h2
       rw[quZ (show i<listed.size by omega)]
       simpa using h2
     have hlif:listed.getD i false=false:=by rw[qvZ,hli];rfl
     have hic:c<=i:=by
       rcases s2Z i c with h3 | h3
       · have:=hlo' i h3
         rw[hlif]at this;cases this
       · exact h3
     have hset:∀k,(listed.setIfInBounds i true).getD k false=true↔(listed.getD k false=true\/k=i):=by
       intro k;rw[qvZ,qvZ,Array.getElem?_setIfInBounds];by_cases e:i=k
       · subst e
         rw[if_pos rfl,if_pos (by omega)]
         simp
       · rw[if_neg e]
         constructor
         · exact fun h=>.inl h
         · rintro (h | h)
           · exact h
           · exact absurd h.symm e
     have hsetf:∀k,k≠i->(listed.setIfInBounds i true).getD k false=listed.getD k false:=by
       intro k hk
       cases hb:listed.getD k false with
       | true=>exact (hset k).2 (.inl hb)
       | false =>
         cases hb2:(listed.setIfInBounds i true).getD k false with
         | false=>rfl
         | true =>
           rcases (hset k).1 hb2 with h3 | h3
           · rw[hb]at h3;cases h3
           · exact absurd h3 hk
     have hnf':nf ((listed.setIfInBounds i true).toList.take m)=u:=by
       have:=zH1 (listed.toList.take m) i (by rw[r4Z,if_pos hi'];simpa using hli)
       rw[Array.toList_setIfInBounds,List.take_set];omega
     have hhi2:∀k,m<=k->(listed.setIfInBounds i true).getD k false=false:=fun k hk=>by rw[hsetf k (by omega)];exact hhi' k hk
     have hlo2:∀k,k<c->(listed.setIfInBounds i true).getD k false=true:=fun k hk=>(hset k).2 (.inl (hlo' k hk))
     have hc2:∀(k:Nat) o e,(listed.setIfInBounds i true).getD k false=true->ops[k]? = some o->e∈o.after.toList->Region.binds .any e=true->(listed.setIfInBounds i true).getD e.on false=true:=by
       intro k o' e hk hok' hee hbe;rw[hset]at hk ⊢;rcases hk with hk | rfl
       · exact .inl (hc k o' e hk hok' hee hbe)
       · rw[ho]at hok'
         cases hok';exact .inl (he e hee hbe)
     by_cases hih:i≠h
     · -- one that only looks
       have hoV:V[i]? = some (zAu h o):=by rw[hhi i hic hi' hih,ho];rfl
       have hD':(fun k=>((k<m/\k≠h)/\listed.getD k false=true)\/k=i)=fun k=>(k<m/\k≠h)/\(listed.setIfInBounds i true).getD k false=true:=by
         funext k
         refine propext ⟨?_,?_⟩
         · rintro (⟨k1,k2⟩ | rfl)
           · exact⟨k1,(hset k).2 (.inl k2)⟩
           · exact⟨⟨hi',hih⟩,(hset k).2 (.inr rfl)⟩
         · rintro⟨k1,k2⟩
           exact ((hset k).1 k2).imp (fun h=>⟨k1,h⟩) id
       have hcV:∀(k:Nat) o e,((k<m/\k≠h)/\listed.getD k false=true)->V[k]? = some o->e∈o.after.toList->Region.binds .any e=true->(e.on<m/\e.on≠h)/\listed.getD e.on false=true:=by
         intro k o' e ⟨⟨hkm,hkh⟩,hk⟩ hok' hee hbe;have hlt:=hedge k o' e hkm hok' hee hbe;rcases s2Z k c with h3 | h3
         · rw[hlo k h3]at hok'
           obtain⟨o2,_,rfl⟩:=qlZ.1 hok';simp[zS]at hee
         · rw[hhi k h3 hkm hkh]at hok'
           obtain⟨o2,ho2,rfl⟩:=qlZ.1 hok'
           obtain⟨he1,he2⟩:e∈o2.after.toList/\e.on≠h:=by simpa[zAu] using hee
           exact⟨⟨by omega,he2⟩,hc k o2 e hk ho2 he1 hbe⟩
       have heV:∀e∈(zAu h o).after.toList,Region.binds .any e=true->(e.on<m/\e.on≠h)/\listed.getD e.on false=true:=fun e hee hbe=>by
         obtain⟨he1,he2⟩:e∈o.after.toList/\e.on≠h:=by simpa[zAu] using hee
         exact⟨⟨by have:=hedge i _ e hi' hoV hee hbe;omega,he2⟩,he e he1 hbe⟩
       have turn:∀{K:Act->World->Prop},wpOpIn (FW r) n P V Q i K a w->wpOpIn (FW r) n P ops Q i K a w:=by
         intro K key;unfold wpOpIn at key ⊢;rw[hoV]at key;rw[ho];dsimp only at key ⊢
         have ew:Region.wanted o (yielded ops a.tmps)=Region.wanted (zAu h o) (yielded V a.tmps):=by
           unfold Region.wanted zAu;dsimp only;split
           · rfl
           · rename_i j' want hg
             have hj:j'<m:=hgd i o j' want hi' ho hg;have ed:=hdst j' hj;unfold yielded;rw[ed]
         rw[ew];exact key
       rcases hst with⟨hlh,σ,hi1⟩ | ⟨hlh,hi1⟩
       · refine turn (hi1.go hΓ T hoV (fun hh=>by rw[hlif]at hh;cases hh.2) hcV heV r n fun σ' a' j' w' h'=>?_)
         rw[hD']at h'
         exact ih _ a' j' w' (by simpa using hs') hnf' hhi2 hlo2 hc2 (.inl ⟨by rw[hsetf h (Ne.symm hih)];exact hlh,σ',h'⟩)
       · have hpi:p.testBit i=false:=by
           cases hb:p.testBit i with
           | false=>rfl
           | true=>rw[hpre i hb hlh]at hlif;cases hlif
         have hX:∀q,qs[i]? = some q->(q.st=none/\q.call=false/\q.grows=false/\∀(b:Nat) x,q.rd=some b->(Hs i)[b]? = some x->H'[b]? = some x)\/∃q2,zCV P Γ V (Fs i) H' (zAu h o)=some q2/\q2.call=true/\q2.v=q.v/\q2.H=H':=by
           intro q hqi;rcases hmk i _ q hoV hqi with (h3 | h3 | h3) | ⟨_,h4,h5⟩
           · omega
           · exact absurd h3 hih
           · rw[hpi]at h3;cases h3
           · split at h5
             · right
               split at h5
               · rename_i q2 hq2
                 exact⟨q2,by rw[zCF];exact hq2,h5⟩
               · exact h5.elim
             · rename_i hcl
               refine .inl ⟨hst0 q (qcZ hqi),by simpa using hcl,h4,fun b x hb hx=>?_⟩
               rw[hb]at h5;dsimp only at h5;rw[h5,hx]
         have hno:∀t∈zO V (zAu h o),oh.dst≠some t:=by
           intro t ht e;obtain⟨q,hqi⟩:=T.q hoV;rcases hmk i _ q hoV hqi with (h3 | h3 | h3) | ⟨h3,_⟩
           · omega
           · exact absurd h3 hih
           · rw[hpi]at h3;cases h3
           · rw[e]at h3
             dsimp only at h3
             have:(zO V (zAu h o)).contains t=true:=by simpa using ht
             rw[this]at h3;cases h3
         refine turn (hi1.go2 hΓ T hoV (fun hh=>by rw[hlif]at hh;cases hh.2) hcV heV (fun t ht x hx=>?_) (zAg _ _ _) hX r n fun a' j' w' h'=>?_)
         · rw[zAV _ _ _ _ (hno t ht)]
           exact hx
         · rw[hD']at h'
           exact ih _ a' j' w' (by simpa using hs') hnf' hhi2 hlo2 hc2 (.inr ⟨by rw[hsetf h (Ne.symm hih)];exact hlh,h'⟩)
     · -- the last one
       obtain rfl:i=h:=Classical.not_not.1 hih;rw[hoh]at ho;cases ho;rcases hst with⟨_,σ,hi1⟩ | ⟨hlh,_⟩;rotate_left
       · rw[hlif]at hlh;cases hlh
       have hM:VRs j (zBL V p (List.range m) (Fs V.size)) a.tmps.toList:=by
         refine VRs_iff.2 ⟨by rw[zJR,T.flen _ (qnZ _)];simpa using hi1.size,fun t x u hx hu=>?_⟩
         have hu':a.tmps[t]? = some u:=by simpa using hu
         rcases zIq V p _ _ t x hx with rfl | ⟨h3,h4⟩
         · trivial
         rcases T.slot t x _ (qnZ _) h3 with⟨k,ok',q,k1,k2,k3,k4,rfl⟩ | ⟨k1,k2⟩
         · have hpk:p.testBit k=true:=by
             cases hb:p.testBit k with
             | true=>rfl
             | false=>exact absurd k4 (h4 k (List.mem_range.2 (by omega)) hb ok' k2)
           refine hi1.set k ok' q t u ⟨⟨by omega,by have:=hph k hpk;omega⟩,?_⟩ k2 k3 k4 hu'
           exact Zn (ops:=ops.toList) (D:=fun k=>listed.getD k false=true) (fun k o e hk hok=>hc k o e hk (by simpa using hok)) i oh (by simpa using hoh) he k (by rw[hp];exact hpk)
         · exact hi1.old t x u (fun k o hk hko=>k1 k o (by omega) hko) k2 hu'
       unfold wpOpIn;rw[hoh];dsimp only;rw[Za hw hM];simp only[if_true];have hstep:=hi1.step;rw[hputs]at hstep
       refine zIJ hΓ hop hM hstep.rel r n fun cv j' w' hv hst2=>?_
       have hjl:=hst2.jle hstep.rel (qnZ _)
       refine ih _ _ j' w' (by simpa using hs') hnf' hhi2 hlo2 hc2 (.inr ⟨(hset i).2 (.inr rfl),hstep.trans hst2 hstep.len,by rw[zAg,zMQ];exact hi1.size,fun k o q t u hk hko hqk hdt hu=>?_,fun t x u hno hx hu=>?_,by rw[ZU];exact hi1.defers⟩)
       · have hk':(k<m/\k≠i)/\listed.getD k false=true:=⟨hk.1,by rw[<-hsetf k hk.1.2];exact hk.2⟩
         rw[zEi _ _ _ _ (dne k o hk.1.1 hk.1.2 hko t hdt)]at hu;exact (hi1.set k o q t u hk' hko hqk hdt hu).mono hjl
       · by_cases ed:oh.dst=some t
         · unfold ZW at hx
           unfold Act.put at hu;rw[ed]at hx hu;dsimp only at hx hu;rw[List.getElem?_set,if_pos rfl]at hx;rw[Array.getElem?_setIfInBounds,if_pos rfl]at hu
           split at hx <;> split at hu <;> cases hx <;> cases hu
           exact hv
         · rw[zAV _ _ _ _ ed]at hx
           rw[zEi _ _ _ _ ed]at hu
           exact (hi1.old t x u (fun k o hk hko=>hno k o ⟨hk.1,(hset k).2 (.inl hk.2)⟩ hko) hx hu).mono hjl
 have hnf:nf ((lst ops.size c).toList.take m)=m-c:=by
   unfold lst
   rw[rxZ,Array.toList_replicate,Array.toList_replicate,seZ,q6Z (by simp;omega),List.take_replicate,rwZ]
   have:∀(m k:Nat),nf (qbZ m true++qbZ k false)=k:=by
     intro m k
     induction m with
     | zero=>simpa using zB4 k
     | succ m ih=>rw[rvZ,q9Z];simpa[nf] using ih
   rw[this];omega
 have hl0:=T.heap hΓ V.size (qnZ _) 0 (by omega)
 rw[T.h0]at hl0
 have e0:ops.size-c=ops.size-m+(m-c):=by omega
 rw[e0]
 refine way (m-c) _ a0 j0 w0 (zAn (by omega)) hnf (fun k hk=>by rw[zv];simp;omega) (fun k hk=>by rw[zv];simpa using hk) (fun k o e hk ho hee hbe=>?_) (.inl ⟨by rw[zv];simp;omega,[],by rw[hputs];exact Step.shows hR hl0.1 hl0.2 (qnZ _),fun b p hp=>.inl ?_,hFl,fun k o q t u hk ho hqk hdt hu=>?_,fun t x u _ hx hu=>?_,fun k=>⟨fun hk=>by simp at hk,?_⟩,by simp,fun k hk=>by simp at hk,hdf⟩)
 · rw[zv]at hk ⊢
   have hkc:k<c:=by simpa using hk
   simpa using hclosed k o e hkc ho hee hbe
 · rcases s2Z b H0.length with h1 | h1
   · exact h1
   · rw[hR.dom b h1]at hp;cases hp
 · have hk2:=hk.2
   rw[zv]at hk2
   have hkc:k<c:=by simpa using hk2
   obtain⟨o1,ho1,rfl⟩:∃o1,ops[k]? = some o1/\o=zS o1:=by
     rw[hlo k hkc]at ho;obtain⟨o1,h1,h2⟩:=qlZ.1 ho;exact⟨o1,h1,h2.symm⟩
   have low:∀m,m<=c->Fs m=F0:=by
     intro m
     induction m with
     | zero=>exact fun _=>T.f0
     | succ m ih =>
       intro hm
       have hom:V[m]? = some (zS ops[m]):=by rw[hlo m (by omega),quZ (by omega)];rfl
       obtain⟨q1,hq1⟩:=T.q hom;obtain⟨s1,s2,_⟩:=T.each m _ q1 hom hq1;obtain⟨v1,g1,g2,_⟩:=zA0 P Γ V (Fs m) (Hs m) ops[m];rw[g1]at s1;cases s1;rw[s2,g2]
       exact ih (by omega)
   obtain⟨s1,_,_⟩:=T.each k _ q ho hqk;obtain⟨v1,g1,_,g3⟩:=zA0 P Γ V (Fs k) (Hs k) o1;rw[g1]at s1;cases s1;have hd1:o1.dst=some t:=hdt;have:=g3 t hd1;dsimp only
   rw[this,low k (by omega)]
   have htl:t<F0.length:=by rw[hFl];exact (qtZ.1 hu).1
   refine (VRs_iff.1 hF).2 t _ u ?_ (by simpa using hu)
   rw[q2Z,q3Z htl];rfl
 · exact (VRs_iff.1 hF).2 t x u hx (by simpa using hu)
 · rintro⟨_,_,q,hqk,hst⟩
   rw[hst0 q (qcZ hqk)]at hst;cases hst
theorem zQK(P:Program)(Γ:Gam)(V:Array Oper):∀(l:List Oper) (F:List AV) (H:zA) (fs fs':List QF) (F1:List AV) (H1:zA),hqT P Γ V l F H fs=some (fs',F1,H1)->∃qs,ZI P Γ V l F H=some (qs,F1,H1)/\fs'=fs++qs.map QR.fl
 | [],F,H,fs,fs',F1,H1,h=>by cases h;exact⟨[],rfl,by simp⟩
 | o::rest,F,H,fs,fs',F1,H1,h=>by
   unfold hqT at h;unfold ZI;rw[zCF]
   cases hq:Z8 P Γ V F H o with
   | none=>rw[hq]at h;cases h
   | some q =>
     rw[hq]at h;obtain⟨qs,h1,h2⟩:=zQK P Γ V rest _ _ _ _ _ _ h;dsimp only;rw[h1]
     exact⟨q::qs,rfl,by rw[h2];simp⟩
theorem SimR.mid{P:Program}{Γ:Gam}(hΓ:GOk P Γ){r:Option Nat}{n0 c:Nat}(h p m:Nat){ops:Array Oper}{F F1 F2:List AV}{H H1 H':zA}{fs:List QF}{v:AV}{Q:AX->List AV->zA->Prop}(o:Oper)(ho:ops[h]? = some o){A:Array Oper}(hA:zFj ops c h m=A)(hch:c<=h)(hhm:h<m)
   (hb:(zFJ ops.toList&&zMK ops.toList (Z5 ops.toList) m)=true) (hp:(Z5 ops.toList).getD h 0=p) (hq:hqO P Γ A A.toList F H []=some (fs,F1,H1))
   (hchk:(fs.all (fun q=>q.st.isNone)&&zEf A fs)=true) (hdd:((List.range m).all fun k=>decide (k=h) || (match (A[k]?).bind (·.dst) with | some e=>o.dst != some e | none=>true))=true)
   (hF2:zBL A p (List.range m) F1=F2) (hrun:zAI ops o F2=some true/\opA P Γ F2 H1 o.op=some (v,H')) (hmid:zNw P Γ A p o.dst c h H' 0 A.toList F H) (k:SimR P r n0 ops m (ZW F1 o.dst v) H' Q):SimR P r n0 ops c F H Q:=by
 intro B jb Hb wb j w a nn hB hs hF hd;rw[qrZ]at hb hchk;rw[zKw]at hq;obtain⟨qs,hqr,e⟩:=zQK _ _ _ _ _ _ _ _ _ _ hq;rw[qaZ]at e;subst e
 refine zWk hΓ hch hhm (zGN hb.2) hA ho hp hqr ?_ (by rw[zFV,<-zFk];exact hchk.2) (by rw[hF2];exact hrun.1) (by rw[hF2];exact hrun.2) hdd hmid hs.rel hF rfl r nn (fun j1 a1 w1 h1 h2 h3 =>
   k B jb Hb wb j1 w1 a1 nn hB (hs.trans h3 hs.len) h1 (by rw[h2];exact hd.step hs.rel h3)) (fun k o e hk ho hee hbe=>by have:=zBS hb.1 k o e ho hee hbe;omega) (fun k o e ho hee hbe=>zBS hb.1 k o e ho hee hbe)
 have:=hchk.1;simpa[List.all_map,Function.comp_def,QR.fl] using this
end
section
open Go Go.Lib
attribute [-simp] zN zr ZI zT ZL
theorem zBl(d:DS)(g:DS->DS×Int)(hg:∀d,(g d).1.quota=d.quota):(d.step g).1.quota=d.quota:=by
 unfold DS.step;split
 · simp
 · rw[hg];simp
theorem zGv(d:DS)(k:List UInt8)(g:DS->PF->PF×Int):(d.of k g).1.quota=d.quota:=zBl d _ fun d=>by
 split
 · rfl
 · split
   · rfl
   · rfl
theorem zE5(d:DS)(k:List UInt8):(d.create k).1.quota=d.quota:=zBl d _ fun d=>by split <;> rfl
noncomputable def zFd(S:zU):zU:=open Classical in fun args H=>match S args H with
 | some (v,H',_)=>if H'=H then some (v,H,[]) else none
 | none=>none
theorem zCe{P:Program}{f:FuncId}{S:zU}(h:Sound P f S):Sound P f (zFd S):=by
 refine ⟨h.enter,fun args H v H' W hs=>?_,fun args H v H' W hs=>?_⟩ <;> (unfold zFd at hs;split at hs <;> try cases hs) <;> (rename_i v1 H1 W1 h1;split at hs <;> cases hs;rename_i e)
 · subst e
   exact h.ct _ _ _ _ _ h1
 · exact⟨qnZ _,fun _ _ _=>rfl⟩
noncomputable def Ze:Gam:=zo [(39,zBO),(42,zDZ),
 (9,zJ6),(10,zGH),(41,zTG),(44,zK5),(46,zHo),(48,zSp),(50,zTY),(52,zFd zTd),(54,zFd zPR),(56,zTn),(11,zFX),
 (40,zLk),(59,zDU),(43,zPM),(45,zK8),(47,zLU),(49,zOX),(51,zP9),(53,zFd zPw),(55,zFd zPB),(57,zQB),(58,zIQ)]
theorem zAl:GOk Pz Ze:=zB zMh (zB zLP (zB zIV (zB zO6 (zB zOu (zB zMC (zB zLH (zB zO5 (zB zPI (zB (zCe zPJ) (zB (zCe zNy) (zB zOb (zB drest_sound
 (zB zL3 (zB zMJ (zB zMm (zB zNB (zB zM5 (zB zNT (zB zMy (zB (zCe zNt) (zB (zCe zOA) (zB zNu (zB zMV zC)))))))))))))))))))))))
theorem Z4(s:List UInt8)(m:Nat)(hs:s.length<=9223372036854775807):(nmD s m).length<=9223372036854775807:=by
 unfold nmD;split
 · exact hs
 · have:m % 4<4:=Nat.mod_lt _ (by decide)
   obtain⟨k,hk⟩:∃k,m % 4=k:=⟨_,rfl⟩;rw[hk]at this ⊢
   match k,this with
   | 0,_=>decide
   | 1,_=>decide
   | 2,_=>decide
   | 3,_=>decide
theorem zUq(a b:Int)(hb:0<b) : -b<a.tmod b/\a.tmod b<b:=by
 rcases Int.le_total 0 a with h | h
 · rw[rrZ h]
   have h1:=Int.emod_nonneg a (Int.ne_of_gt hb);have h2:=Int.emod_lt_of_pos a hb;omega
 · obtain⟨m,rfl⟩:∃m,a = -m:=⟨-a,by omega⟩
   rw[Int.neg_tmod,rrZ (by omega)]
   have h1:=Int.emod_nonneg m (Int.ne_of_gt hb);have h2:=Int.emod_lt_of_pos m hb;omega
theorem zWS(n:Int)(h : -32768<=n/\n<=32767) : -40000<=smD n/\smD n<=40000:=by
 unfold smD;split
 · omega
 · have:=zUq (n.tmod 32+32) 32 (by decide)
   omega
abbrev zIF(x:DA)(d:DS)(r:RS)(A B:Nat):Prop:=∃d' r',RD r' d' (A+2) (B+40000)/\d'.quota=d.quota /\
 Ct Pz 12 [.agg [.int .u8 x.w,.int .u8 x.a,.int .u8 x.b,.str x.s,.int .i16 x.n,.sl 2 0 x.l.length 1 false],.ptr 0 0,.ptr 1 0] [.obj true d.blks,.obj true r.blks,.cells false (zp x.l)] (.bool true) [.obj true d'.blks,.obj true r'.blks,.cells false (zp x.l)]
theorem zLc(x:DA)(hx:x.ok)(d:DS)(r:RS){A B:Nat}(h:RD r d A B)(hA:A+2<=800000)(hB:B+40000<=900000000)(_hq:d.quota<=40000)(hc:x.w % 17=0\/x.w % 17=1):zIF x d r A B:=by
 have hΓ:=zAl;obtain⟨hw,ha,hb,hs,⟨hn1,hn2⟩,hl,hlb⟩:=hx
 have hd:d.small:=DS.ok_mono h.ok (by omega) (by omega)
 have hr:r.small:=(h.mono (show A<=900000 by omega) (show B<=1000000000000 by omega)).rok
 have hxl:=Z4 x.s x.a hs;have hyl:=Z4 x.s x.b hs;obtain⟨X,hX⟩:∃X,nmD x.s x.a=X:=⟨_,rfl⟩;obtain⟨Y,hY⟩:∃Y,nmD x.s x.b=Y:=⟨_,rfl⟩;rw[hX]at hxl;rw[hY]at hyl
 have t1:(x.w:Int).tmod 17=((x.w % 17:Nat):Int):=by rw[rrZ (by omega)];omega
 obtain⟨K,hK⟩:∃K:Nat,min (x.s.length:Int) 20=K:=⟨min x.s.length 20,by omega⟩
 have haI:(x.a:Int)<=255:=by omega
 have hbI:(x.b:Int)<=255:=by omega
 have hK0:(0:Int)<=K:=by omega
 have hK1:(K:Int)<=x.s.length:=by omega
 have hK2:K<=x.s.length:=by omega
 obtain⟨S,hS⟩:∃S,x.s.take K=S:=⟨_,rfl⟩
 have hSl:S.length<=20:=by rw[<-hS,qjZ];omega
 have hA0:∀rn:List Nat,AWs rn (zp x.l) (zp x.l):=fun rn=>AWs.refl _ _ (ZB _)
 obtain⟨hR,hE⟩:=h.create X;have hQ:(d.create X).1.quota=d.quota:=zE5 d X;obtain⟨⟨d',e⟩,hd'⟩:∃z,(d.create X)=z:=⟨_,rfl⟩;obtain⟨⟨r',e2⟩,hr'⟩:∃z,(r.create X)=z:=⟨_,rfl⟩;rw[hd',hr']at hR hE;rw[hd']at hQ;dsimp only at hR hE hQ;subst hE
 refine ⟨d',r',hR.mono (by omega) (by omega),hQ,?_⟩
 refine zG Tryz.func12 rfl ?_;simp only[Tryz.ntmps12,q7Z,q8Z,Nat.reduceAdd,Nat.reduceSub,qbZ,q9Z,qaZ]
 refine Sim.step hmix hΓ (n:=0) (by simp;exact⟨rfl,rfl⟩) (by simp) ?_
 refine Sim.step hmix hΓ (n:=0) (by simp +decide [-ZK,zn,Ze,zBO,haI,hbI,hX,hY,hK,hK0,hK1,hS];first | exact⟨rfl,rfl⟩ | exact⟨by kernel_rfl,rfl,rfl⟩) (by simp) ?_
 rcases hc with hc | hc
 · refine Sim.exec hmix hΓ (n:=0) (by simp +decide [-ZK,Ze,t1,hc,hd,hr,hxl,zJ6,zLk,hd',hr'];first | exact⟨rfl,rfl,rfl⟩ | exact⟨by kernel_rfl,rfl,rfl,rfl⟩) (by simp) ?_
   exact⟨.inr rfl,_,by simp[Tryz.f12] <;> rfl,Weak.mk' [0,1,2] (by decide) (by decide) (by simp) (by simp[AWb])⟩
 · refine Sim.exec hmix hΓ (n:=0) (by simp +decide [-ZK,Ze,t1,hc,hd,hr,hxl,zJ6,zLk,hd',hr'];first | exact⟨rfl,rfl,rfl⟩ | exact⟨by kernel_rfl,rfl,rfl,rfl⟩) (by simp) ?_
   exact⟨.inr rfl,_,by simp[Tryz.f12] <;> rfl,Weak.mk' [0,1,2] (by decide) (by decide) (by simp) (by simp[AWb])⟩
theorem zIo(x:DA)(hx:x.ok)(d:DS)(r:RS){A B:Nat}(h:RD r d A B)(hA:A+2<=800000)(hB:B+40000<=900000000)(_hq:d.quota<=40000)(hc:x.w % 17=6):zIF x d r A B:=by
 have hΓ:=zAl;obtain⟨hw,ha,hb,hs,⟨hn1,hn2⟩,hl,hlb⟩:=hx
 have hd:d.small:=DS.ok_mono h.ok (by omega) (by omega)
 have hr:r.small:=(h.mono (show A<=900000 by omega) (show B<=1000000000000 by omega)).rok
 have hxl:=Z4 x.s x.a hs;have hyl:=Z4 x.s x.b hs;obtain⟨X,hX⟩:∃X,nmD x.s x.a=X:=⟨_,rfl⟩;obtain⟨Y,hY⟩:∃Y,nmD x.s x.b=Y:=⟨_,rfl⟩;rw[hX]at hxl;rw[hY]at hyl
 have t1:(x.w:Int).tmod 17=((x.w % 17:Nat):Int):=by rw[rrZ (by omega)];omega
 obtain⟨K,hK⟩:∃K:Nat,min (x.s.length:Int) 20=K:=⟨min x.s.length 20,by omega⟩
 have haI:(x.a:Int)<=255:=by omega
 have hbI:(x.b:Int)<=255:=by omega
 have hK0:(0:Int)<=K:=by omega
 have hK1:(K:Int)<=x.s.length:=by omega
 have hK2:K<=x.s.length:=by omega
 obtain⟨S,hS⟩:∃S,x.s.take K=S:=⟨_,rfl⟩
 have hSl:S.length<=20:=by rw[<-hS,qjZ];omega
 have hA0:∀rn:List Nat,AWs rn (zp x.l) (zp x.l):=fun rn=>AWs.refl _ _ (ZB _)
 obtain⟨M,hM⟩:∃M,smD x.n=M:=⟨_,rfl⟩;obtain⟨hR,hE⟩:=h.truncate X M;have hQ:(d.truncate X M).1.quota=d.quota:=zGv d _ _;obtain⟨⟨d',e⟩,hd'⟩:∃z,(d.truncate X M)=z:=⟨_,rfl⟩;obtain⟨⟨r',e2⟩,hr'⟩:∃z,(r.truncate X M)=z:=⟨_,rfl⟩;rw[hd',hr']at hR hE;rw[hd']at hQ;dsimp only at hR hE hQ;subst hE
 refine ⟨d',r',hR.mono (by omega) (by omega),hQ,?_⟩
 refine zG Tryz.func12 rfl ?_;simp only[Tryz.ntmps12,q7Z,q8Z,Nat.reduceAdd,Nat.reduceSub,qbZ,q9Z,qaZ]
 refine Sim.step hmix hΓ (n:=0) (by simp;exact⟨rfl,rfl⟩) (by simp) ?_
 refine Sim.step hmix hΓ (n:=0) (by simp +decide [-ZK,zn,Ze,zBO,haI,hbI,hX,hY,hK,hK0,hK1,hS];first | exact⟨rfl,rfl⟩ | exact⟨by kernel_rfl,rfl,rfl⟩) (by simp) ?_
 refine Sim.seq (Sim.step hmix hΓ (n:=0) (by simp +decide [t1,hc];exact⟨rfl,rfl⟩) (by simp) ?_)
 refine Sim.block ?_
 refine Sim.seq (Sim.exec hmix hΓ (n:=0) (by simp +decide;exact⟨rfl,rfl,rfl⟩) (by simp) ?_)
 dsimp only
 refine Sim.cond (t:=false) (by simp) ?_
 rw[if_neg (by decide)]
 refine Sim.step hmix hΓ (n:=0) (by simp +decide;exact⟨rfl,rfl⟩) (by simp) ?_
 refine Sim.cond (t:=true) (by simp) ?_
 rw[if_pos rfl]
 refine Sim.seq (Sim.draw hmix (by simp) ?_)
 refine SimR.mid hΓ 4 15 9 _ rfl (by simp[zFj,zI,zS,zAu];rfl) (by omega) (by omega) (by kernel_rfl) (by kernel_rfl) (by simp +decide [Ze,zDZ,hn1,hn2,hM];exact⟨rfl,rfl,rfl⟩) (by kernel_rfl) (by kernel_rfl) (by simp +decide [zBL,List.range,List.range.loop];rfl) (by simp +decide [Ze,zTG,hd,hd'];exact⟨rfl,rfl⟩) (by simp +decide [zNw,Z8,Ze,zDZ,hn1,hn2,hM]) ?_
 refine SimR.one hΓ _ rfl (by kernel_rfl) (by simp +decide [Ze,zPM,hr,hr'];exact⟨rfl,rfl⟩) ?_
 refine SimR.many hΓ 12 (by simp[zI,zS];rfl) (by omega) (by kernel_rfl) (by simp +decide;first | exact⟨rfl,rfl⟩ | exact⟨by kernel_rfl,rfl,rfl⟩) ?_
 refine SimR.done rfl ?_;dsimp only
 refine Sim.exec hmix hΓ (n:=0) (by simp;exact⟨rfl,rfl,rfl⟩) (by simp) ?_
 exact⟨.inr rfl,_,by simp[Tryz.f12] <;> rfl,Weak.mk' [0,1,2] (by decide) (by decide) (by simp) (by simp[AWb])⟩
theorem zPz(x:DA)(hx:x.ok)(d:DS)(r:RS){A B:Nat}(h:RD r d A B)(hA:A+2<=800000)(hB:B+40000<=900000000)(_hq:d.quota<=40000)(hc:x.w % 17=7\/x.w % 17=8):zIF x d r A B:=by
 have hΓ:=zAl;obtain⟨hw,ha,hb,hs,⟨hn1,hn2⟩,hl,hlb⟩:=hx
 have hd:d.small:=DS.ok_mono h.ok (by omega) (by omega)
 have hr:r.small:=(h.mono (show A<=900000 by omega) (show B<=1000000000000 by omega)).rok
 have hxl:=Z4 x.s x.a hs;have hyl:=Z4 x.s x.b hs;obtain⟨X,hX⟩:∃X,nmD x.s x.a=X:=⟨_,rfl⟩;obtain⟨Y,hY⟩:∃Y,nmD x.s x.b=Y:=⟨_,rfl⟩;rw[hX]at hxl;rw[hY]at hyl
 have t1:(x.w:Int).tmod 17=((x.w % 17:Nat):Int):=by rw[rrZ (by omega)];omega
 obtain⟨K,hK⟩:∃K:Nat,min (x.s.length:Int) 20=K:=⟨min x.s.length 20,by omega⟩
 have haI:(x.a:Int)<=255:=by omega
 have hbI:(x.b:Int)<=255:=by omega
 have hK0:(0:Int)<=K:=by omega
 have hK1:(K:Int)<=x.s.length:=by omega
 have hK2:K<=x.s.length:=by omega
 obtain⟨S,hS⟩:∃S,x.s.take K=S:=⟨_,rfl⟩
 have hSl:S.length<=20:=by rw[<-hS,qjZ];omega
 have hA0:∀rn:List Nat,AWs rn (zp x.l) (zp x.l):=fun rn=>AWs.refl _ _ (ZB _)
 obtain⟨hR,hE⟩:=h.sync X;have hQ:(d.sync X).1.quota=d.quota:=zGv d _ _;obtain⟨⟨d',e⟩,hd'⟩:∃z,(d.sync X)=z:=⟨_,rfl⟩;obtain⟨⟨r',e2⟩,hr'⟩:∃z,(r.sync X)=z:=⟨_,rfl⟩;rw[hd',hr']at hR hE;rw[hd']at hQ;dsimp only at hR hE hQ;subst hE
 refine ⟨d',r',hR.mono (by omega) (by omega),hQ,?_⟩
 refine zG Tryz.func12 rfl ?_;simp only[Tryz.ntmps12,q7Z,q8Z,Nat.reduceAdd,Nat.reduceSub,qbZ,q9Z,qaZ]
 refine Sim.step hmix hΓ (n:=0) (by simp;exact⟨rfl,rfl⟩) (by simp) ?_
 refine Sim.step hmix hΓ (n:=0) (by simp +decide [-ZK,zn,Ze,zBO,haI,hbI,hX,hY,hK,hK0,hK1,hS];first | exact⟨rfl,rfl⟩ | exact⟨by kernel_rfl,rfl,rfl⟩) (by simp) ?_
 rcases hc with hc | hc
 · refine Sim.exec hmix hΓ (n:=0) (by simp +decide [-ZK,Ze,t1,hc,hd,hr,zK5,zK8,hd',hr'];first | exact⟨rfl,rfl,rfl⟩ | exact⟨by kernel_rfl,rfl,rfl,rfl⟩) (by simp) ?_
   exact⟨.inr rfl,_,by simp[Tryz.f12] <;> rfl,Weak.mk' [0,1,2] (by decide) (by decide) (by simp) (by simp[AWb])⟩
 · refine Sim.exec hmix hΓ (n:=0) (by simp +decide [-ZK,Ze,t1,hc,hd,hr,zK5,zK8,hd',hr'];first | exact⟨rfl,rfl,rfl⟩ | exact⟨by kernel_rfl,rfl,rfl,rfl⟩) (by simp) ?_
   exact⟨.inr rfl,_,by simp[Tryz.f12] <;> rfl,Weak.mk' [0,1,2] (by decide) (by decide) (by simp) (by simp[AWb])⟩
theorem zJj(x:DA)(hx:x.ok)(d:DS)(r:RS){A B:Nat}(h:RD r d A B)(hA:A+2<=800000)(hB:B+40000<=900000000)(_hq:d.quota<=40000)(hc:x.w % 17=9\/x.w % 17=10):zIF x d r A B:=by
 have hΓ:=zAl;obtain⟨hw,ha,hb,hs,⟨hn1,hn2⟩,hl,hlb⟩:=hx
 have hd:d.small:=DS.ok_mono h.ok (by omega) (by omega)
 have hr:r.small:=(h.mono (show A<=900000 by omega) (show B<=1000000000000 by omega)).rok
 have hxl:=Z4 x.s x.a hs;have hyl:=Z4 x.s x.b hs;obtain⟨X,hX⟩:∃X,nmD x.s x.a=X:=⟨_,rfl⟩;obtain⟨Y,hY⟩:∃Y,nmD x.s x.b=Y:=⟨_,rfl⟩;rw[hX]at hxl;rw[hY]at hyl
 have t1:(x.w:Int).tmod 17=((x.w % 17:Nat):Int):=by rw[rrZ (by omega)];omega
 obtain⟨K,hK⟩:∃K:Nat,min (x.s.length:Int) 20=K:=⟨min x.s.length 20,by omega⟩
 have haI:(x.a:Int)<=255:=by omega
 have hbI:(x.b:Int)<=255:=by omega
 have hK0:(0:Int)<=K:=by omega
 have hK1:(K:Int)<=x.s.length:=by omega
 have hK2:K<=x.s.length:=by omega
 obtain⟨S,hS⟩:∃S,x.s.take K=S:=⟨_,rfl⟩
 have hSl:S.length<=20:=by rw[<-hS,qjZ];omega
 have hA0:∀rn:List Nat,AWs rn (zp x.l) (zp x.l):=fun rn=>AWs.refl _ _ (ZB _)
 obtain⟨hR,hE⟩:=h.syncDir 
 have hQ:d.syncDir.1.quota=d.quota:=zBl d _ fun _=>rfl
 obtain⟨⟨d',e⟩,hd'⟩:∃z,d.syncDir=z:=⟨_,rfl⟩;obtain⟨⟨r',e2⟩,hr'⟩:∃z,r.syncDir=z:=⟨_,rfl⟩;rw[hd',hr']at hR hE;rw[hd']at hQ;dsimp only at hR hE hQ;subst hE
 refine ⟨d',r',hR.mono (by omega) (by omega),hQ,?_⟩
 refine zG Tryz.func12 rfl ?_;simp only[Tryz.ntmps12,q7Z,q8Z,Nat.reduceAdd,Nat.reduceSub,qbZ,q9Z,qaZ]
 refine Sim.step hmix hΓ (n:=0) (by simp;exact⟨rfl,rfl⟩) (by simp) ?_
 refine Sim.step hmix hΓ (n:=0) (by simp +decide [-ZK,zn,Ze,zBO,haI,hbI,hX,hY,hK,hK0,hK1,hS];first | exact⟨rfl,rfl⟩ | exact⟨by kernel_rfl,rfl,rfl⟩) (by simp) ?_
 rcases hc with hc | hc
 · refine Sim.exec hmix hΓ (n:=0) (by simp +decide [-ZK,Ze,t1,hc,hd,hr,zHo,zLU,hd',hr'];first | exact⟨rfl,rfl,rfl⟩ | exact⟨by kernel_rfl,rfl,rfl,rfl⟩) (by simp) ?_
   exact⟨.inr rfl,_,by simp[Tryz.f12] <;> rfl,Weak.mk' [0,1,2] (by decide) (by decide) (by simp) (by simp[AWb])⟩
 · refine Sim.exec hmix hΓ (n:=0) (by simp +decide [-ZK,Ze,t1,hc,hd,hr,zHo,zLU,hd',hr'];first | exact⟨rfl,rfl,rfl⟩ | exact⟨by kernel_rfl,rfl,rfl,rfl⟩) (by simp) ?_
   exact⟨.inr rfl,_,by simp[Tryz.f12] <;> rfl,Weak.mk' [0,1,2] (by decide) (by decide) (by simp) (by simp[AWb])⟩
theorem zK0(x:DA)(hx:x.ok)(d:DS)(r:RS){A B:Nat}(h:RD r d A B)(hA:A+2<=800000)(hB:B+40000<=900000000)(_hq:d.quota<=40000)(hc:x.w % 17=11):zIF x d r A B:=by
 have hΓ:=zAl;obtain⟨hw,ha,hb,hs,⟨hn1,hn2⟩,hl,hlb⟩:=hx
 have hd:d.small:=DS.ok_mono h.ok (by omega) (by omega)
 have hr:r.small:=(h.mono (show A<=900000 by omega) (show B<=1000000000000 by omega)).rok
 have hxl:=Z4 x.s x.a hs;have hyl:=Z4 x.s x.b hs;obtain⟨X,hX⟩:∃X,nmD x.s x.a=X:=⟨_,rfl⟩;obtain⟨Y,hY⟩:∃Y,nmD x.s x.b=Y:=⟨_,rfl⟩;rw[hX]at hxl;rw[hY]at hyl
 have t1:(x.w:Int).tmod 17=((x.w % 17:Nat):Int):=by rw[rrZ (by omega)];omega
 obtain⟨K,hK⟩:∃K:Nat,min (x.s.length:Int) 20=K:=⟨min x.s.length 20,by omega⟩
 have haI:(x.a:Int)<=255:=by omega
 have hbI:(x.b:Int)<=255:=by omega
 have hK0:(0:Int)<=K:=by omega
 have hK1:(K:Int)<=x.s.length:=by omega
 have hK2:K<=x.s.length:=by omega
 obtain⟨S,hS⟩:∃S,x.s.take K=S:=⟨_,rfl⟩
 have hSl:S.length<=20:=by rw[<-hS,qjZ];omega
 have hA0:∀rn:List Nat,AWs rn (zp x.l) (zp x.l):=fun rn=>AWs.refl _ _ (ZB _)
 obtain⟨hR,hE⟩:=h.rename X Y
 have hQ:(d.rename X Y).1.quota=d.quota:=zBl d _ fun _=>rfl
 obtain⟨⟨d',e⟩,hd'⟩:∃z,(d.rename X Y)=z:=⟨_,rfl⟩;obtain⟨⟨r',e2⟩,hr'⟩:∃z,(r.rename X Y)=z:=⟨_,rfl⟩;rw[hd',hr']at hR hE;rw[hd']at hQ;dsimp only at hR hE hQ;subst hE
 refine ⟨d',r',hR.mono (by omega) (by omega),hQ,?_⟩
 refine zG Tryz.func12 rfl ?_;simp only[Tryz.ntmps12,q7Z,q8Z,Nat.reduceAdd,Nat.reduceSub,qbZ,q9Z,qaZ]
 refine Sim.step hmix hΓ (n:=0) (by simp;exact⟨rfl,rfl⟩) (by simp) ?_
 refine Sim.step hmix hΓ (n:=0) (by simp +decide [-ZK,zn,Ze,zBO,haI,hbI,hX,hY,hK,hK0,hK1,hS];first | exact⟨rfl,rfl⟩ | exact⟨by kernel_rfl,rfl,rfl⟩) (by simp) ?_
 refine Sim.exec hmix hΓ (n:=0) (by simp +decide [-ZK,Ze,t1,hc,hd,hr,hyl,zSp,zOX,hd',hr'];first | exact⟨rfl,rfl,rfl⟩ | exact⟨by kernel_rfl,rfl,rfl,rfl⟩) (by simp) ?_
 exact⟨.inr rfl,_,by simp[Tryz.f12] <;> rfl,Weak.mk' [0,1,2] (by decide) (by decide) (by simp) (by simp[AWb])⟩
theorem zLA(x:DA)(hx:x.ok)(d:DS)(r:RS){A B:Nat}(h:RD r d A B)(hA:A+2<=800000)(hB:B+40000<=900000000)(_hq:d.quota<=40000)(hc:x.w % 17=12):zIF x d r A B:=by
 have hΓ:=zAl;obtain⟨hw,ha,hb,hs,⟨hn1,hn2⟩,hl,hlb⟩:=hx
 have hd:d.small:=DS.ok_mono h.ok (by omega) (by omega)
 have hr:r.small:=(h.mono (show A<=900000 by omega) (show B<=1000000000000 by omega)).rok
 have hxl:=Z4 x.s x.a hs;have hyl:=Z4 x.s x.b hs;obtain⟨X,hX⟩:∃X,nmD x.s x.a=X:=⟨_,rfl⟩;obtain⟨Y,hY⟩:∃Y,nmD x.s x.b=Y:=⟨_,rfl⟩;rw[hX]at hxl;rw[hY]at hyl
 have t1:(x.w:Int).tmod 17=((x.w % 17:Nat):Int):=by rw[rrZ (by omega)];omega
 obtain⟨K,hK⟩:∃K:Nat,min (x.s.length:Int) 20=K:=⟨min x.s.length 20,by omega⟩
 have haI:(x.a:Int)<=255:=by omega
 have hbI:(x.b:Int)<=255:=by omega
 have hK0:(0:Int)<=K:=by omega
 have hK1:(K:Int)<=x.s.length:=by omega
 have hK2:K<=x.s.length:=by omega
 obtain⟨S,hS⟩:∃S,x.s.take K=S:=⟨_,rfl⟩
 have hSl:S.length<=20:=by rw[<-hS,qjZ];omega
 have hA0:∀rn:List Nat,AWs rn (zp x.l) (zp x.l):=fun rn=>AWs.refl _ _ (ZB _)
 obtain⟨hR,hE⟩:=h.remove X
 have hQ:(d.remove X).1.quota=d.quota:=zBl d _ fun _=>rfl
 obtain⟨⟨d',e⟩,hd'⟩:∃z,(d.remove X)=z:=⟨_,rfl⟩;obtain⟨⟨r',e2⟩,hr'⟩:∃z,(r.remove X)=z:=⟨_,rfl⟩;rw[hd',hr']at hR hE;rw[hd']at hQ;dsimp only at hR hE hQ;subst hE
 refine ⟨d',r',hR.mono (by omega) (by omega),hQ,?_⟩
 refine zG Tryz.func12 rfl ?_;simp only[Tryz.ntmps12,q7Z,q8Z,Nat.reduceAdd,Nat.reduceSub,qbZ,q9Z,qaZ]
 refine Sim.step hmix hΓ (n:=0) (by simp;exact⟨rfl,rfl⟩) (by simp) ?_
 refine Sim.step hmix hΓ (n:=0) (by simp +decide [-ZK,zn,Ze,zBO,haI,hbI,hX,hY,hK,hK0,hK1,hS];first | exact⟨rfl,rfl⟩ | exact⟨by kernel_rfl,rfl,rfl⟩) (by simp) ?_
 refine Sim.exec hmix hΓ (n:=0) (by simp +decide [-ZK,Ze,t1,hc,hd,hr,zTY,zP9,hd',hr'];first | exact⟨rfl,rfl,rfl⟩ | exact⟨by kernel_rfl,rfl,rfl,rfl⟩) (by simp) ?_
 exact⟨.inr rfl,_,by simp[Tryz.f12] <;> rfl,Weak.mk' [0,1,2] (by decide) (by decide) (by simp) (by simp[AWb])⟩
theorem zKo(x:DA)(hx:x.ok)(d:DS)(r:RS){A B:Nat}(h:RD r d A B)(hA:A+2<=800000)(hB:B+40000<=900000000)(_hq:d.quota<=40000)(hc:x.w % 17=13):zIF x d r A B:=by
 have hΓ:=zAl;obtain⟨hw,ha,hb,hs,⟨hn1,hn2⟩,hl,hlb⟩:=hx
 have hd:d.small:=DS.ok_mono h.ok (by omega) (by omega)
 have hr:r.small:=(h.mono (show A<=900000 by omega) (show B<=1000000000000 by omega)).rok
 have hxl:=Z4 x.s x.a hs;have hyl:=Z4 x.s x.b hs;obtain⟨X,hX⟩:∃X,nmD x.s x.a=X:=⟨_,rfl⟩;obtain⟨Y,hY⟩:∃Y,nmD x.s x.b=Y:=⟨_,rfl⟩;rw[hX]at hxl;rw[hY]at hyl
 have t1:(x.w:Int).tmod 17=((x.w % 17:Nat):Int):=by rw[rrZ (by omega)];omega
 obtain⟨K,hK⟩:∃K:Nat,min (x.s.length:Int) 20=K:=⟨min x.s.length 20,by omega⟩
 have haI:(x.a:Int)<=255:=by omega
 have hbI:(x.b:Int)<=255:=by omega
 have hK0:(0:Int)<=K:=by omega
 have hK1:(K:Int)<=x.s.length:=by omega
 have hK2:K<=x.s.length:=by omega
 obtain⟨S,hS⟩:∃S,x.s.take K=S:=⟨_,rfl⟩
 have hSl:S.length<=20:=by rw[<-hS,qjZ];omega
 have hA0:∀rn:List Nat,AWs rn (zp x.l) (zp x.l):=fun rn=>AWs.refl _ _ (ZB _)
 obtain⟨M,hM⟩:∃M,smD x.n=M:=⟨_,rfl⟩;have e1:=h.readAt X M x.b;have e2:=h.size X
 have w1:IntKind.i64.wrap (x.b:Int)=x.b:=zV (by omega) (by omega)
 refine ⟨d,r,h.mono (by omega) (by omega),rfl,?_⟩
 refine zG Tryz.func12 rfl ?_;simp only[Tryz.ntmps12,q7Z,q8Z,Nat.reduceAdd,Nat.reduceSub,qbZ,q9Z,qaZ]
 refine Sim.step hmix hΓ (n:=0) (by simp;exact⟨rfl,rfl⟩) (by simp) ?_
 refine Sim.step hmix hΓ (n:=0) (by simp +decide [-ZK,zn,Ze,zBO,haI,hbI,hX,hY,hK,hK0,hK1,hS];first | exact⟨rfl,rfl⟩ | exact⟨by kernel_rfl,rfl,rfl⟩) (by simp) ?_
 refine Sim.exec hmix hΓ (n:=0) (by simp +decide [-ZK,Ze,t1,hc,hd,hr,zFd,zTd,zPw,zPR,zPB,zDZ,hn1,hn2,hM,e1,e2,w1];first | exact⟨rfl,rfl,rfl⟩ | exact⟨by kernel_rfl,rfl,rfl,rfl⟩) (by simp) ?_
 exact⟨.inr rfl,_,by simp[Tryz.f12] <;> rfl,Weak.mk' [0,1,2] (by decide) (by decide) (by simp) (by simp[AWb])⟩
theorem zRX(x:DA)(hx:x.ok)(d:DS)(r:RS){A B:Nat}(h:RD r d A B)(hA:A+2<=800000)(hB:B+40000<=900000000)(_hq:d.quota<=40000)(hc:x.w % 17=14):zIF x d r A B:=by
 have hΓ:=zAl;obtain⟨hw,ha,hb,hs,⟨hn1,hn2⟩,hl,hlb⟩:=hx
 have hd:d.small:=DS.ok_mono h.ok (by omega) (by omega)
 have hr:r.small:=(h.mono (show A<=900000 by omega) (show B<=1000000000000 by omega)).rok
 have hxl:=Z4 x.s x.a hs;have hyl:=Z4 x.s x.b hs;obtain⟨X,hX⟩:∃X,nmD x.s x.a=X:=⟨_,rfl⟩;obtain⟨Y,hY⟩:∃Y,nmD x.s x.b=Y:=⟨_,rfl⟩;rw[hX]at hxl;rw[hY]at hyl
 have t1:(x.w:Int).tmod 17=((x.w % 17:Nat):Int):=by rw[rrZ (by omega)];omega
 obtain⟨K,hK⟩:∃K:Nat,min (x.s.length:Int) 20=K:=⟨min x.s.length 20,by omega⟩
 have haI:(x.a:Int)<=255:=by omega
 have hbI:(x.b:Int)<=255:=by omega
 have hK0:(0:Int)<=K:=by omega
 have hK1:(K:Int)<=x.s.length:=by omega
 have hK2:K<=x.s.length:=by omega
 obtain⟨S,hS⟩:∃S,x.s.take K=S:=⟨_,rfl⟩
 have hSl:S.length<=20:=by rw[<-hS,qjZ];omega
 have hA0:∀rn:List Nat,AWs rn (zp x.l) (zp x.l):=fun rn=>AWs.refl _ _ (ZB _)
 obtain⟨M,hM⟩:∃M,smD x.n=M:=⟨_,rfl⟩;obtain⟨Q,hQ⟩:∃Q,M.tdiv 3=Q:=⟨_,rfl⟩
 have hM1 : -40000<=M/\M<=40000:=by
   rw[<-hM];exact zWS x.n ⟨hn1,hn2⟩
 have hQ1 : -40000<=Q/\Q<=40000:=by
   rw[<-hQ];rcases Int.le_total 0 M with h0 | h0
   · rw[Int.tdiv_eq_ediv_of_nonneg h0];omega
   · obtain⟨m,rfl⟩:∃m,M = -m:=⟨-M,by omega⟩
     rw[Int.neg_tdiv,Int.tdiv_eq_ediv_of_nonneg (by omega)];omega
 have w1:IntKind.i64.wrap Q=Q:=zV (by omega) (by omega)
 refine ⟨d.arm Q,r.arm Q,(h.arm Q (by omega)).mono (by omega) (by omega),rfl,?_⟩
 refine zG Tryz.func12 rfl ?_;simp only[Tryz.ntmps12,q7Z,q8Z,Nat.reduceAdd,Nat.reduceSub,qbZ,q9Z,qaZ]
 refine Sim.step hmix hΓ (n:=0) (by simp;exact⟨rfl,rfl⟩) (by simp) ?_
 refine Sim.step hmix hΓ (n:=0) (by simp +decide [-ZK,zn,Ze,zBO,haI,hbI,hX,hY,hK,hK0,hK1,hS];first | exact⟨rfl,rfl⟩ | exact⟨by kernel_rfl,rfl,rfl⟩) (by simp) ?_
 refine Sim.exec hmix hΓ (n:=0) (by simp +decide [-ZK,Ze,t1,hc,hr,zTn,zQB,zDZ,hn1,hn2,hM,hQ,w1];first | exact⟨rfl,rfl,rfl⟩ | exact⟨by kernel_rfl,rfl,rfl,rfl⟩) (by simp) ?_
 exact⟨.inr rfl,_,by simp[Tryz.f12] <;> rfl,Weak.mk' [0,1,2] (by decide) (by decide) (by simp) (by simp[AWb])⟩
theorem zJl(x:DA)(hx:x.ok)(d:DS)(r:RS){A B:Nat}(h:RD r d A B)(hA:A+2<=800000)(hB:B+40000<=900000000)(_hq:d.quota<=40000)(hc:x.w % 17=15):zIF x d r A B:=by
 have hΓ:=zAl;obtain⟨hw,ha,hb,hs,⟨hn1,hn2⟩,hl,hlb⟩:=hx
 have hd:d.small:=DS.ok_mono h.ok (by omega) (by omega)
 have hr:r.small:=(h.mono (show A<=900000 by omega) (show B<=1000000000000 by omega)).rok
 have hxl:=Z4 x.s x.a hs;have hyl:=Z4 x.s x.b hs;obtain⟨X,hX⟩:∃X,nmD x.s x.a=X:=⟨_,rfl⟩;obtain⟨Y,hY⟩:∃Y,nmD x.s x.b=Y:=⟨_,rfl⟩;rw[hX]at hxl;rw[hY]at hyl
 have t1:(x.w:Int).tmod 17=((x.w % 17:Nat):Int):=by rw[rrZ (by omega)];omega
 obtain⟨K,hK⟩:∃K:Nat,min (x.s.length:Int) 20=K:=⟨min x.s.length 20,by omega⟩
 have haI:(x.a:Int)<=255:=by omega
 have hbI:(x.b:Int)<=255:=by omega
 have hK0:(0:Int)<=K:=by omega
 have hK1:(K:Int)<=x.s.length:=by omega
 have hK2:K<=x.s.length:=by omega
 obtain⟨S,hS⟩:∃S,x.s.take K=S:=⟨_,rfl⟩
 have hSl:S.length<=20:=by rw[<-hS,qjZ];omega
 have hA0:∀rn:List Nat,AWs rn (zp x.l) (zp x.l):=fun rn=>AWs.refl _ _ (ZB _)
 obtain⟨P,hP⟩:∃P:Nat,min (x.l.length:Int) 12=P:=⟨min x.l.length 12,by omega⟩
 have hP0:(0:Int)<=P:=by omega
 have hP1:(P:Int)<=x.l.length:=by omega
 have hP2:P<=x.l.length:=by omega
 have hl1:(∀z∈x.l,0<=z/\z<=65535)=True:=by simpa using hlb
 refine ⟨d.restart (x.l.take P),r.restart (x.l.take P),(h.restart _).mono (by omega) (by omega),rfl,?_⟩
 refine zG Tryz.func12 rfl ?_;simp only[Tryz.ntmps12,q7Z,q8Z,Nat.reduceAdd,Nat.reduceSub,qbZ,q9Z,qaZ]
 refine Sim.step hmix hΓ (n:=0) (by simp;exact⟨rfl,rfl⟩) (by simp) ?_
 refine Sim.step hmix hΓ (n:=0) (by simp +decide [-ZK,zn,Ze,zBO,haI,hbI,hX,hY,hK,hK0,hK1,hS];first | exact⟨rfl,rfl⟩ | exact⟨by kernel_rfl,rfl,rfl⟩) (by simp) ?_
 refine Sim.exec hmix hΓ (n:=0) (by simp +decide [-ZK,zn,Ze,t1,hc,hd,hr,zFX,zIQ,zBq,zAz,hP,hP0,hP1,hP2,hl,hl1];first | exact⟨rfl,rfl,rfl⟩ | exact⟨by kernel_rfl,rfl,rfl,rfl⟩) (by simp) ?_
 exact⟨.inr rfl,_,by simp[Tryz.f12] <;> rfl,Weak.mk' [0,1,2] (by decide) (by decide) (by simp) (by simp[AWb])⟩
theorem zKy(x:DA)(hx:x.ok)(d:DS)(r:RS){A B:Nat}(h:RD r d A B)(hA:A+2<=800000)(hB:B+40000<=900000000)(hq:d.quota<=40000)(hc:x.w % 17=2\/x.w % 17=3\/x.w % 17=4\/x.w % 17=5\/x.w % 17=16):zIF x d r A B:=by
 have hΓ:=zAl;obtain⟨hw,ha,hb,hs,⟨hn1,hn2⟩,hl,hlb⟩:=hx
 have hd:d.small:=DS.ok_mono h.ok (by omega) (by omega)
 have hr:r.small:=(h.mono (show A<=900000 by omega) (show B<=1000000000000 by omega)).rok
 have hxl:=Z4 x.s x.a hs;have hyl:=Z4 x.s x.b hs;obtain⟨X,hX⟩:∃X,nmD x.s x.a=X:=⟨_,rfl⟩;obtain⟨Y,hY⟩:∃Y,nmD x.s x.b=Y:=⟨_,rfl⟩;rw[hX]at hxl;rw[hY]at hyl
 have t1:(x.w:Int).tmod 17=((x.w % 17:Nat):Int):=by rw[rrZ (by omega)];omega
 obtain⟨K,hK⟩:∃K:Nat,min (x.s.length:Int) 20=K:=⟨min x.s.length 20,by omega⟩
 have haI:(x.a:Int)<=255:=by omega
 have hbI:(x.b:Int)<=255:=by omega
 have hK0:(0:Int)<=K:=by omega
 have hK1:(K:Int)<=x.s.length:=by omega
 have hK2:K<=x.s.length:=by omega
 obtain⟨S,hS⟩:∃S,x.s.take K=S:=⟨_,rfl⟩
 have hSl:S.length<=20:=by rw[<-hS,qjZ];omega
 have hA0:∀rn:List Nat,AWs rn (zp x.l) (zp x.l):=fun rn=>AWs.refl _ _ (ZB _)
 obtain⟨p,hp⟩:∃p,S.length / 3=p:=⟨_,rfl⟩
 have s1:(S.length:Int).tdiv 3=p:=by rw[Int.tdiv_eq_ediv_of_nonneg (by omega)];omega
 have s2:IntKind.i64.wrap (p:Int)=p:=zV (by omega) (by omega)
 have p0:(0:Int)<=p:=by omega
 have p1:(p:Int)<=S.length:=by omega
 have p2:p<=S.length:=by omega
 have tkd:(S.drop p).take (S.length-p)=S.drop p:=q6Z (by simp)
 have hS1:S.length<=140737488355328:=by omega
 have hS2:S.length<=1000000000000:=by omega
 have hcat:S.take p++S.drop p=S:=r6Z p S
 have dq:d.quota<=1000000000000:=by omega
 obtain⟨hR,hE⟩:=h.append X S 40000 (by decide) hq
 have hQ:(d.append X S).1.quota=d.quota:=zGv d _ _;obtain⟨⟨d',e⟩,hd'⟩:∃z,(d.append X S)=z:=⟨_,rfl⟩;obtain⟨⟨r',e2⟩,hr'⟩:∃z,(r.append X S)=z:=⟨_,rfl⟩;rw[hd',hr']at hR hE;rw[hd']at hQ;dsimp only at hR hE hQ;subst hE
 refine ⟨d',r',hR.mono (by omega) (by omega),hQ,?_⟩
 refine zG Tryz.func12 rfl ?_;simp only[Tryz.ntmps12,q7Z,q8Z,Nat.reduceAdd,Nat.reduceSub,qbZ,q9Z,qaZ]
 refine Sim.step hmix hΓ (n:=0) (by simp;exact⟨rfl,rfl⟩) (by simp) ?_
 refine Sim.step hmix hΓ (n:=0) (by simp +decide [-ZK,zn,Ze,zBO,haI,hbI,hX,hY,hK,hK0,hK1,hS];first | exact⟨rfl,rfl⟩ | exact⟨by kernel_rfl,rfl,rfl⟩) (by simp) ?_
 rcases hc with hc | hc | hc | hc | hc
 · refine Sim.exec hmix hΓ (n:=0) (by simp +decide [-ZK,Ze,t1,hc,hd,hr,zGH,zDU,hd',hr',s1,s2,p0,p1,hcat,tkd,hS1,hS2,zBq,ZF,dq,zk,Zx];first | exact⟨rfl,rfl,rfl⟩ | exact⟨by kernel_rfl,rfl,rfl,rfl⟩) (by simp) ?_
   exact⟨.inr rfl,_,by simp[Tryz.f12] <;> rfl,Weak.mk' [0,1,2] (by decide) (by decide) (by simp) (by simp[AWb])⟩
 · refine Sim.exec hmix hΓ (n:=0) (by simp +decide [-ZK,Ze,t1,hc,hd,hr,zGH,zDU,hd',hr',s1,s2,p0,p1,hcat,tkd,hS1,hS2,zBq,ZF,dq,zk,Zx];first | exact⟨rfl,rfl,rfl⟩ | exact⟨by kernel_rfl,rfl,rfl,rfl⟩) (by simp) ?_
   exact⟨.inr rfl,_,by simp[Tryz.f12] <;> rfl,Weak.mk' [0,1,2] (by decide) (by decide) (by simp) (by simp[AWb])⟩
 · refine Sim.exec hmix hΓ (n:=0) (by simp +decide [-ZK,Ze,t1,hc,hd,hr,zGH,zDU,hd',hr',s1,s2,p0,p1,hcat,tkd,hS1,hS2,zBq,ZF,dq,zk,Zx];first | exact⟨rfl,rfl,rfl⟩ | exact⟨by kernel_rfl,rfl,rfl,rfl⟩) (by simp) ?_
   exact⟨.inr rfl,_,by simp[Tryz.f12] <;> rfl,Weak.mk' [0,1,2] (by decide) (by decide) (by simp) (by simp[AWb])⟩
 · refine Sim.exec hmix hΓ (n:=0) (by simp +decide [-ZK,Ze,t1,hc,hd,hr,zGH,zDU,hd',hr',s1,s2,p0,p1,hcat,tkd,hS1,hS2,zBq,ZF,dq,zk,Zx];first | exact⟨rfl,rfl,rfl⟩ | exact⟨by kernel_rfl,rfl,rfl,rfl⟩) (by simp) ?_
   exact⟨.inr rfl,_,by simp[Tryz.f12] <;> rfl,Weak.mk' [0,1,2] (by decide) (by decide) (by simp) (by simp[AWb])⟩
 · refine Sim.exec hmix hΓ (n:=0) (by simp +decide [-ZK,Ze,t1,hc,hd,hr,zGH,zDU,hd',hr',s1,s2,p0,p1,hcat,tkd,hS1,hS2,zBq,ZF,dq,zk,Zx];first | exact⟨rfl,rfl,rfl⟩ | exact⟨by kernel_rfl,rfl,rfl,rfl⟩) (by simp) ?_
   exact⟨.inr rfl,_,by simp[Tryz.f12] <;> rfl,Weak.mk' [0,1,2] (by decide) (by decide) (by simp) (by simp[AWb])⟩
theorem zSa(x:DA)(hx:x.ok)(d:DS)(r:RS){A B:Nat}(h:RD r d A B)(hA:A+2<=800000)(hB:B+40000<=900000000)(hq:d.quota<=40000):zIF x d r A B:=by
 have h17:x.w % 17<17:=Nat.mod_lt _ (by decide)
 by_cases c1:x.w % 17=0\/x.w % 17=1
 · exact zLc x hx d r h hA hB hq c1
 by_cases c2:x.w % 17=6
 · exact zIo x hx d r h hA hB hq c2
 by_cases c3:x.w % 17=7\/x.w % 17=8
 · exact zPz x hx d r h hA hB hq c3
 by_cases c4:x.w % 17=9\/x.w % 17=10
 · exact zJj x hx d r h hA hB hq c4
 by_cases c5:x.w % 17=11
 · exact zK0 x hx d r h hA hB hq c5
 by_cases c6:x.w % 17=12
 · exact zLA x hx d r h hA hB hq c6
 by_cases c7:x.w % 17=13
 · exact zKo x hx d r h hA hB hq c7
 by_cases c8:x.w % 17=14
 · exact zRX x hx d r h hA hB hq c8
 by_cases c9:x.w % 17=15
 · exact zJl x hx d r h hA hB hq c9
 exact zKy x hx d r h hA hB hq (by omega)
theorem zVb(q:Int)(hq:q<0):Ct Pz 4 [.nils,.int .i64 q] [] .nilp []:=by
 refine zG Tryz.func4 rfl ?_;simp only[Tryz.ntmps4,q7Z,q8Z,Nat.reduceAdd,Nat.reduceSub,qbZ,q9Z,qaZ]
 refine Sim.step hmix zC (n:=0) (by simp;exact⟨rfl,rfl⟩) (by simp) ?_
 refine Sim.exec hmix zC (n:=0) (by simp[hq];exact⟨rfl,rfl,rfl⟩) (by simp) ?_
 exact⟨.inr rfl,_,by simp[Tryz.f4] <;> rfl,Weak.mk' [] (by decide) rfl (by simp) (by simp)⟩
noncomputable def zVx:zU:=zD9 fun
 | [.nils,.int .i64 q]=>if q<0 then some (.nilp,[]) else none
 | _=>none
theorem zOY:Sound Pz 4 zVx:=by
 refine zDD (zE Tryz.func4 rfl (by decide)) fun args v H' h=>?_
 split at h;rotate_left
 · cases h
 split at h <;> cases h
 rename_i hq;exact⟨zVb _ hq,rfl,rfl⟩
theorem zVL(q:Int)(hq:q<0):Ct Pz 6 [.int .i64 q] [] .nilp []:=by
 have hΓ:=zB zOY zC;refine zG Tryz.func6 rfl ?_;simp only[Tryz.ntmps6,q7Z,q8Z,Nat.reduceAdd,Nat.reduceSub,qbZ,q9Z,qaZ]
 refine Sim.step hmix hΓ (n:=0) (by simp;exact⟨rfl,rfl⟩) (by simp) ?_
 refine Sim.exec hmix hΓ (n:=0) (by simp[zVx,zD9,hq];exact⟨rfl,rfl,rfl⟩) (by simp) ?_
 exact⟨.inr rfl,_,by simp[Tryz.f6] <;> rfl,Weak.mk' [] (by decide) rfl (by simp) (by simp)⟩
noncomputable def zFg:zU:=zD9 fun
 | [.int .i64 q]=>if 0<=q then some (.ptr 0 0,[.obj true (DS.new q).blks]) else some (.nilp,[])
 | _=>none
theorem zNf:Sound Pz 6 zFg:=by
 refine zDD (zE Tryz.func6 rfl (by decide)) fun args v H' h=>?_
 split at h;rotate_left
 · cases h
 split at h <;> cases h <;> rename_i hq
 · exact⟨zVC _ hq,rfl,rfl⟩
 · exact⟨zVL _ (by omega),rfl,rfl⟩
open Classical in
noncomputable def zML:zU:=fun args H=>match args with
 | [.sl b 0 n 2 _c,.int .i64 q]=>match H[b]? with
   | some (.cells _ l)=>match flD l with
     | some x=>match DS.ofF x q with
       | some d=>if n=x.length/\x.length<=1000000/\zJF x then some (.ptr H.length 0,H++[.obj true d.blks],[]) else none
       | none=>if n=x.length/\x.length<=1000000/\zJF x then some (.nilp,H,[]) else none
     | none=>none
   | _=>none
 | _=>none
theorem zP4:Sound Pz 4 zML:=by
 refine ⟨zE Tryz.func4 rfl (by decide),fun args H v H' W hs=>?_,fun args H v H' W hs=>?_⟩ <;> (unfold zML at hs;split at hs <;> try cases hs) <;> (rename_i b n c q;split at hs <;> try cases hs) <;> (rename_i o l hb;split at hs <;> try cases hs) <;> (rename_i x hx;split at hs) <;> (rename_i hd;split at hs <;> cases hs;rename_i hk)
 · obtain⟨rfl,h1,h2⟩:=hk
   have e:=zGn hx;subst e;have hbl:b<H.length:=(q1Z.1 hb).1;have hct:=zSq x h1 h2 q;rw[hd]at hct;dsimp only at hct
   have:=zc (H:=H) (args:=[.sl b 0 x.length 2 c,.int .i64 q]) hct [b] (by simp) ⟨⟨rfl,rfl,rfl,by simp⟩,⟨rfl,rfl⟩,trivial⟩ ⟨by rw[q2Z,hb];exact⟨by simp,ZD _ (Zj x)⟩,hbl,trivial⟩ rfl
   simpa[zb,ABlk.own,reA,reB,ZQ] using this
 · obtain⟨rfl,h1,h2⟩:=hk
   have e:=zGn hx;subst e;have hbl:b<H.length:=(q1Z.1 hb).1;have hct:=zSq x h1 h2 q;rw[hd]at hct;dsimp only at hct
   have:=zc (H:=H) (args:=[.sl b 0 x.length 2 c,.int .i64 q]) hct [b] (by simp) ⟨⟨rfl,rfl,rfl,by simp⟩,⟨rfl,rfl⟩,trivial⟩ ⟨by rw[q2Z,hb];exact⟨by simp,ZD _ (Zj x)⟩,hbl,trivial⟩ rfl
   simpa[zb,ABlk.own,reA,reB,ZQ] using this
 · exact⟨by simp,fun c hc _=>by rw[q4Z hc]⟩
 · exact⟨by simp,fun c hc _=>rfl⟩
open Classical in
noncomputable def zFs:zU:=fun args H=>match args with
 | [.ptr a 0,.ptr b 0]=>match H[a]?,H[b]? with
   | some (.obj true s1),some (.obj true s2)=>match dsD s1,zDQ s2 with
     | some d,some r=>if a≠b/\RD r d 800000 1000000000000 then some (.bool true,H,[]) else none
     | _,_=>none
   | _,_=>none
 | _=>none
theorem zLz:Sound Pz 13 zFs:=by
 refine ⟨zE Tryz.func13 rfl (by decide),fun args H v H' W hs=>?_,fun args H v H' W hs=>?_⟩ <;> (unfold zFs at hs;split at hs <;> try cases hs) <;> (rename_i a b;split at hs <;> try cases hs) <;> (rename_i s1 s2 ha hb;split at hs <;> try cases hs) <;> (rename_i d r hd hr;split at hs <;> cases hs;rename_i hk)
 · obtain⟨hne,hrd⟩:=hk
   have e1:=Zu hd;have e2:=zAJ hr
   subst e1;subst e2
   have hal:a<H.length:=(q1Z.1 ha).1;have hbl:b<H.length:=(q1Z.1 hb).1
   have:=zc (H:=H) (args:=[.ptr a 0,.ptr b 0]) (zRP r d hrd) [a,b] (by simp[hne]) (by simp[AWs,AW]) ⟨by rw[q2Z,ha];exact⟨rfl,rfl⟩,hal,by rw[q2Z,hb];exact⟨rfl,rfl⟩,hbl,trivial⟩ rfl
   have s1:H.set a (.obj true d.blks)=H:=by
     obtain⟨h1,h2⟩:=q1Z.1 ha;rw[<-h2,List.set_getElem_self]
   have s2:H.set b (.obj true r.blks)=H:=by
     obtain⟨h1,h2⟩:=q1Z.1 hb;rw[<-h2,List.set_getElem_self]
   simpa[zb,ABlk.own,reA,reB,ZQ,s1,s2] using this
 · exact⟨qnZ _,fun _ _ _=>rfl⟩
theorem zTy{A:zA}{N:Nat}(hN:A.length=N)(x:DA)(hx:x.ok)(b:Nat)(hb:A[b]? = some (.cells false (zp x.l)))(d:DS)(r:RS){A1 B1:Nat}(h:RD r d A1 B1)(hA:A1+2<=800000)(hB:B1+40000<=900000000)(hq:d.quota<=40000) :
   ∃d' r',RD r' d' (A1+2) (B1+40000)/\d'.quota=d.quota /\
     Ct Pz 12 [.agg [.int .u8 x.w,.int .u8 x.a,.int .u8 x.b,.str x.s,.int .i16 x.n,.sl b 0 x.l.length 1 false],.ptr N 0,.ptr (N+1) 0] (A++[.obj true d.blks,.obj true r.blks]) (.bool true) (A++[.obj true d'.blks,.obj true r'.blks]):=by
 obtain⟨d',r',h1,h2,h3⟩:=zSa x hx d r h hA hB hq;refine ⟨d',r',h1,h2,?_⟩
 have hbl:b<N:=by rw[<-hN];exact (q1Z.1 hb).1
 have hX:=ZC A hN;have hXg:=hX.get;have hXg0:=hX.get0;have hXs:=hX.set;have hXs0:=hX.set0
 have hb':∀T:zA,(A++T)[b]? = some (.cells false (zp x.l)):=fun T=>by rw[q4Z (by omega)];exact hb
 have:=zc (H:=A++[.obj true d.blks,.obj true r.blks]) (args:=[.agg [.int .u8 x.w,.int .u8 x.a,.int .u8 x.b,.str x.s,.int .i16 x.n,.sl b 0 x.l.length 1 false],.ptr N 0,.ptr (N+1) 0]) h3 [N,N+1,b] (by simp;omega) (by simp[AWs,AW])
   ⟨by rw[q2Z,hXg0];exact⟨rfl,rfl⟩,by simp[hN],by rw[q2Z,hXg];exact⟨rfl,rfl⟩,by simp[hN],by rw[q2Z,hb'];exact⟨by simp,ZD _ (zDg x.l)⟩,by simp[hN];omega,trivial⟩ rfl
 simpa[zb,ABlk.own,reA,reB,ZQ,hXs,hXs0] using this
end
end Go.Proofs.YtfhidaoiofeooaaGreat
