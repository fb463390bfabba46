/- Parts of the proof of ReplayMends: lemmas, each with its own conditions. -/
import Derived.Test.YtpmfecnajoojeaaGreatDoorY33
import Derived.Test.YtpmfecnajoojeaaGreatDoorY31
set_option maxHeartbeats 64000000
open List renaming getElem?_eq_some_iff → q1Z, getD_eq_getElem?_getD → q2Z, getElem?_eq_getElem → q3Z, getElem?_append_left → q4Z, take_of_length_le → q6Z, length_cons → q7Z, length_nil → q8Z, cons_append → q9Z, nil_append → qaZ, replicate → qbZ, mem_of_getElem? → qcZ, length_append → qdZ, getElem?_set_ne → qfZ, length_drop → qkZ, mem_cons → qwZ, mem_singleton → r1Z, getElem?_take → r4Z, getElem?_drop → r5Z, length_map → r7Z, all_eq_true → s5Z
open Nat renaming le_refl → qnZ, zero_le → qqZ
open Bool renaming false_eq_true → qsZ
namespace Go.Proofs.YtpmfecnajoojeaaGreatDoor
open _root_.Go.Proofs.Tryz renaming prog → Pz
set_option maxRecDepth 100000
section
open Go Go.Lib
attribute [-simp] zJ zY zn zL zl
theorem zMc{d:DS}{A B:Nat}(hok:d.ok A B):(∀k∈d.list,k.length<=64)/\d.list.length<=A:=by
 have h:=FD.ok_now hok.fd;unfold DS.list;split
 · exact⟨fun k hk=>by simp at hk,qqZ _⟩
 · unfold FD.names
   refine ⟨fun k hk=>h.1 k ((ZN _).subset hk),?_⟩
   rw[(ZN _).length_eq];unfold NM.keys;rw[r7Z];exact h.2
def zOi:zc:=zBj fun args H=>match args with
 | [.int .i64 x,y]=>match zKG H y with
   | some names=>if (-9223372036854775808<=x/\x<=9223372036854775807)/\names.length<=1000000/\(names.all fun s=>decide (s.length<=1000000))=true then
       some (.tuple [.sl 0 (zBQ x (zAM 3 names)) (ZL x names).1.length 1 false,.int .i64 (ZL x names).2],[.cells true (lgB names)]) else none
   | none=>none
 | _=>none
theorem zNQ:Sound Pz 99 zOi:=by
 refine zEs (zH Tryz.func99 rfl (by decide)) fun args H v N h=>?_
 split at h <;> try cases h
 rename_i x y
 split at h <;> try cases h
 rename_i names hy
 split at h <;> cases h
 rename_i hc;obtain⟨b1,o1,w1,g1⟩:=zKk hy
 refine zQS (H0:=[.cells false (names.map AV.str)]) (args0:=[.int .i64 x,.sl 0 0 names.length 1 false]) ?_ rfl [(b1,o1)] ⟨⟨rfl,rfl⟩,w1 0 _ rfl,trivial⟩ ⟨g1,ZK _ _ fun _=>rfl,trivial⟩
 have:=zVf x hc.1 names hc.2.1 (fun s hs=>by simpa using s5Z.1 hc.2.2 s hs)
 simpa[shA,zAV,shB,Zk 1 _ (zCX names)] using this
theorem zQi{x:Int}{names:List (List UInt8)}{k:Nat}{n:Int}(h:(ZL x names).1[k]? = some n):(∀h',(lgB names)[zBQ x (zAM 3 names)+k]'h'=.int .i64 n)/\(lgB names)[zBQ x (zAM 3 names)+k]? = some (.int .i64 n):=by
 have e:(lgB names)[zBQ x (zAM 3 names)+k]? = some (.int .i64 n):=by
   rcases zBl x names with e | e
   · rw[e]at h;simp at h
   · rw[e]at h
     unfold zDa at h;rw[r5Z]at h;have h2:=(zDl h).2;rw[<-zIB,r4Z]at h2;split at h2
     · exact h2
     · cases h2
 exact⟨fun h'=>(q1Z.1 e).2,e⟩
def fnV(b e p:Nat)(f:Fnd):AV:=.agg [.sl b p f.logs.length 1 false,.sl e 0 f.es.length 3 false,.int .i64 f.good,.bool f.torn]
noncomputable def zP8:Gam:=zv [(20,zK2),(25,zLy),(99,zOi),(76,mkS),(79,zK5),(75,zQI),(97,zK3)]
def zMd:List FuncId:=[106]
theorem zV8:GOk Pz (zAL Pz zP8 0 zMd 2):=zq hmix (zC zNL (zC zMa (zC zNQ (zC zCx (zC zG7 (zC zId (zC zIJ zD))))))) 0 zMd 2
theorem zRL{d:DS}(hd:d.down=false){k:List UInt8}{f:PF}(h:Z3 d.fs d.fd.now k=some f):d.size k=((f.now.length:Int),0):=by
 obtain⟨n,h2,h3⟩:=zAk h;unfold DS.size;rw[hd,h2];simp only[qsZ,if_false];rw[h3]
theorem zN0{get:List UInt8->List UInt8}{l:List Int}{k:Nat}{n:Int}(h:l[k]? = some n)(f:Fnd):zg get (l.drop k) f=if f.torn=true then (Fnd.no,12) else zg get (l.drop (k+1)) (f.add (get (mk 3 n))):=by
 obtain⟨h1,h2⟩:=q1Z.1 h;rw[List.drop_eq_getElem_cons h1,h2];rfl
theorem zJs:∀(l:List En) (x:AV),x∈zS l->ZA x=true
 | [],x,h=>by simp[zS]at h
 | s::l,x,h=>by
   simp only[zS,enA,q9Z,qaZ,qwZ]at h;rcases h with rfl | rfl | rfl | h
   · rfl
   · rfl
   · rfl
   · exact zJs l x h
noncomputable def zTH:Gam:=zv [(76,mkS),(79,zK5),(75,zQI),(97,zK3)]
theorem zVm:GOk Pz zTH:=zC zCx (zC zG7 (zC zId (zC zIJ zD)))
theorem zTD(d:DS)(hsm:d.small)(n:Int)(t:List UInt8)(hsz:d.size (mk 3 n)=((t.length:Int),0))(hrd:d.readAt (mk 3 n) 0 t.length=(t,0))(ht:t.length<=500000000)(lg:AV)(B:List AV)(hlg:∀rn:List Nat,rn[3]? = some 3->AW rn lg lg)(hB:∀rn:List Nat,AWs rn B B)(es:List En)(he:es.length<=5000000000000)(good:Int)(torn:Bool) :
   Ct Pz 106 [.int .i64 n,.ptr 1 0,.ptr 2 0] [.obj true d.blks,.cells true [.ptr 0 0],.cells true [lg,.sl 4 0 es.length 3 false,.int .i64 good,.bool torn],.cells true B,.cells true (zS es)] (.int .i64 0)
     [.obj true d.blks,.cells true [.ptr 0 0],.cells true [lg,.sl 5 0 (es++(Rp.rd t 0).1).length 3 false,.int .i64 (Rp.rd t 0).2,.bool (decide ((Rp.rd t 0).2<(t.length:Int)))],.cells true B,.dead,.cells true (zS (es++(Rp.rd t 0).1))]:=by
 have hΓ:=zVm;have hrl:=Rp.len_le t;obtain⟨kn,hkn⟩:∃kn,mk 3 n=kn:=⟨_,rfl⟩;rw[hkn]at hsz hrd;obtain⟨⟨es2,good2⟩,hes2⟩:∃r,Rp.rd t 0=r:=⟨_,rfl⟩;rw[hes2]at hrl ⊢;dsimp only at hrl ⊢;obtain⟨T,hT⟩:∃T,t.length=T:=⟨_,rfl⟩;rw[hT]at hsz hrd ht hrl ⊢
 have ht9:T<=1000000000:=by omega
 have e1:(zS es).take (es.length*3)=zS es:=q6Z (by simp)
 have e2:(zS es2).take (es2.length*3)=zS es2:=q6Z (by simp)
 have e3:zS (es++es2)=zS es++zS es2:=by simp[zS]
 have b1:(es.length+es2.length)*24<=140737488355328:=by omega
 have b2:es.length+es2.length<=9223372036854775807:=by omega
 have hfe:=zp es;have hfe2:=zp es2
 have hsE:∀k,zAV k (zS es2)=zS es2:=fun k=>Zk k _ hfe2
 have hic:(∀x:AV,x∈zS es2->ZA x=true)=True:=eq_true (zJs es2);unfold ZA at hic
 have hAe2:∀rn:List Nat,AWs rn (zS es++zS es2) (zS es++zS es2):=fun rn=>by rw[<-e3];exact AWs.refl _ _ (zp _)
 rw[e3];refine zK Tryz.func106 rfl ?_;simp only[Tryz.ntmps106,q7Z,q8Z,Nat.reduceAdd,Nat.reduceSub,qbZ,q9Z,qaZ]
 refine Sim.step hmix hΓ (n:=0) (by simp;exact⟨rfl,rfl⟩) (by simp) ?_
 refine Sim.step hmix hΓ (n:=0) (by simp +decide [zTH,mkS,hkn];exact⟨rfl,rfl⟩) (by simp) ?_
 refine Sim.step hmix hΓ (n:=0) (by simp +decide [zTH,zK5,hsm,hsz];exact⟨rfl,rfl⟩) (by simp) ?_
 refine Sim.step hmix hΓ (n:=0) (by simp +decide;exact⟨rfl,rfl⟩) (by simp) ?_
 refine Sim.step hmix hΓ (n:=0) (by simp +decide [zTH,zQI,hsm,hrd];exact⟨rfl,rfl⟩) (by simp) ?_
 refine Sim.step hmix hΓ (n:=0) (by simp +decide;exact⟨rfl,rfl⟩) (by simp) ?_
 refine Sim.step hmix hΓ (n:=0) (by simp +decide [zTH,zK3,zR4,ht9,hT,hes2,shA,zAV,shB,hsE];exact⟨rfl,rfl⟩) (by simp) ?_
 refine Sim.step hmix hΓ (n:=0) (by simp +decide [e1,e2,b1,b2,hfe,hfe2,hic];exact⟨rfl,rfl⟩) (by simp) ?_
 refine Sim.step hmix hΓ (n:=0) (by simp +decide;exact⟨rfl,rfl⟩) (by simp) ?_
 refine Sim.exec hmix hΓ (n:=0) (by simp +decide;exact⟨rfl,rfl,rfl⟩) (by simp) ?_
 exact⟨.inr rfl,_,by simp[Tryz.f106] <;> rfl,Weak.mk' [0,1,2,3,4,6] (by decide) (by decide) (by simp) (by simp[AWg,AWb,AW,hlg,hB,hAe2])⟩
theorem zU7(d:DS)(hok:d.ok 10000 500000000)(x:Int)(hx : -9223372036854775808<=x/\x<=9223372036854775807) :
   Ct Pz 36 [.ptr 0 0,.int .i64 x] [.obj true d.blks] (.tuple [fnV 1 2 (zBQ x (zAM 3 d.list)) (d.load x).1,.int .i64 (d.load x).2]) [.obj true d.blks,.cells true (lgB d.list),.cells true (zS (d.load x).1.es)]:=by
 have hΓ:=zV8
 have hsm:d.small:=DS.ok_mono hok (by omega) (by omega)
 obtain⟨hn1,hn2⟩:=zMc hok
 have hl6:d.list.length<=1000000:=by omega
 have hall3:∀s∈d.list,s.length<=1000000:=fun s h=>by have:=hn1 s h;omega
 have hall:(d.list.all fun s=>decide (s.length<=1000000))=true:=s5Z.2 fun s h=>by simpa using hall3 s h
 have hall2:(∀s∈d.list,s.length<=1000000)=True:=by simpa using hall3
 have ht:(d.list.map AV.str).take d.list.length=d.list.map AV.str:=q6Z (by simp)
 have hbf:=zCX d.list
 have hlB:∀rn:List Nat,AWs rn (lgB d.list) (lgB d.list):=fun rn=>AWs.refl _ _ hbf
 have hsB:∀k,zAV k (lgB d.list)=lgB d.list:=fun k=>Zk k _ hbf
 have hget:=fun k n h=>zQi (x:=x) (names:=d.list) (k:=k) (n:=n) h
 have hthere:=fun n (hd:d.down=false) h=>zEy hok hd (x:=x) (m:=n) h
 have hlive:(ZL x d.list).1.length<=d.list.length:=by
   have h9:=zJF d.list;rcases zBl x d.list with e | e
   · rw[e];exact qqZ _
   · rw[e];unfold zDa;rw[qkZ];omega
 obtain⟨p,hp⟩:∃p,zBQ x (zAM 3 d.list)=p:=⟨_,rfl⟩;rw[hp]at hget ⊢;obtain⟨⟨lg,er⟩,hlv⟩:∃r,ZL x d.list=r:=⟨_,rfl⟩
 have hld:d.load x=if d.down=true then (Fnd.no,13) else if er=0 then zg d.text lg ⟨lg,[],0,false⟩ else (Fnd.no,er):=by
   unfold DS.load;rw[hlv]
 rw[hlv]at hget hthere hlive;dsimp only at hget hthere hlive;rw[hld];obtain⟨B,hB⟩:∃B,lgB d.list=B:=⟨_,rfl⟩;rw[hB]at hbf hlB hsB hget ⊢;refine zK Tryz.func36 rfl ?_;simp only[Tryz.ntmps36,q7Z,q8Z,Nat.reduceAdd,Nat.reduceSub,qbZ,q9Z,qaZ]
 refine Sim.step hmix hΓ (n:=0) (by simp;exact⟨rfl,rfl⟩) (by simp) ?_
 cases hdn:d.down with
 | true =>
   rw[if_pos rfl]
   refine Sim.exec hmix hΓ (n:=0) (by simp +decide [zMd,zP8,zK2,hdn];exact⟨rfl,rfl,rfl⟩) (by simp) ?_
   exact⟨.inr rfl,_,by simp[Tryz.f36] <;> rfl,Weak.mk' [0,100,101] (by decide) (by decide) (by simp[fnV,Fnd.no,AWs,AW]) (by simp[AWg,AWb,Fnd.no,zS])⟩
 | false =>
 rw[if_neg (by decide)]
 refine Sim.step hmix hΓ (n:=0) (by simp +decide [zMd,zP8,zK2,hdn];exact⟨rfl,rfl⟩) (by simp) ?_
 refine Sim.seq (Sim.step hmix hΓ (n:=0) (by simp +decide [zMd,zP8,zLy,hsm,zOi,zBj,zKG,ht,hl6,hall,hall2,hx,shA,zAV,shB,hsB,hB,hlv,hp];exact⟨rfl,rfl⟩) (by simp) ?_)
 by_cases her:er=0;rotate_left
 · have herb:(er==0)=false:=by simpa using her
   rw[if_neg her]
   refine Sim.exec hmix hΓ (n:=0) (by simp +decide [her,herb];exact⟨rfl,rfl,rfl⟩) (by simp) ?_
   exact⟨.inr rfl,_,by simp[Tryz.f36] <;> rfl,Weak.mk' [0,100,101] (by decide) (by decide) (by simp[fnV,Fnd.no,AWs,AW]) (by simp[AWg,AWb,Fnd.no,zS])⟩
 subst her;rw[if_pos rfl];obtain⟨R,hR⟩:∃R,zg d.text lg ⟨lg,[],0,false⟩=R:=⟨_,rfl⟩;rw[hR];obtain⟨L,hL⟩:∃L,lg.length=L:=⟨_,rfl⟩;rw[hL]at hlive
 have hL4:L<=10000:=by omega
 refine Sim.exec hmix hΓ (n:=0) (by simp +decide;exact⟨rfl,rfl,rfl⟩) (by simp) ?_
 dsimp only
 refine Sim.step hmix hΓ (n:=0) (by simp +decide;exact⟨rfl,rfl⟩) (by simp) ?_
 refine Sim.seq (Sim.step hmix hΓ (n:=0) (by simp +decide [hL];exact⟨rfl,rfl⟩) (by simp) ?_)
 refine Sim.block (Sim.loopW (fun r:Nat×Fnd=>r.1<=L/\zg d.text (lg.drop r.1) r.2=R/\r.2.logs=lg/\r.2.es.length<=r.1*500000000)
   (fun r=>[.top,.top,.ptr 1 0,.top,.ptr 2 0,.int .i64 0,.func 106 [] [.ptr 1 0,.ptr 2 0]]++qbZ 25 .top++[.sl 3 p L 1 false,.int .i64 L,.int .i64 r.1]++qbZ 15 .top)
   (fun r=>[.obj true d.blks,.cells true [.ptr 0 0],.cells true [.sl 3 p L 1 false,.sl 4 0 r.2.es.length 3 false,.int .i64 r.2.good,.bool r.2.torn],.cells true B,.cells true (zS r.2.es)]) (fun r=>L-r.1) (0,⟨lg,[],0,false⟩) (by simp) ⟨qqZ _,hR,rfl,by simp⟩
   (Weak.mk' [0,1,2,4,100] (by decide) (by decide) (by simp) (by simp[AWb,AWg,AW,hlB,hL,zS])) fun r hr=>?_)
 obtain⟨k,f⟩:=r;obtain⟨hk,hk1,hk2,hk3⟩:=hr;dsimp only at hk hk1 hk2 hk3 ⊢;obtain⟨flg,es,good,torn⟩:=f;dsimp only at hk2 hk3 ⊢;subst hk2;have hfe:=zp es
 have hAe:∀rn:List Nat,AWs rn (zS es) (zS es):=fun rn=>AWs.refl _ _ hfe
 by_cases hlt:k<L
 · have hltI:(k:Int)<L:=by omega
   obtain⟨n,hn⟩:∃n,flg[k]? = some n:=⟨_,q3Z (by omega)⟩
   obtain⟨g1,g2⟩:=hget k n hn;obtain⟨fl,hfl⟩:=hthere n hdn (qcZ hn);have hpk:p+k<B.length:=(q1Z.1 g2).1
   have hpk1:p+k+1<=B.length:=by omega
   rw[zN0 hn]at hk1
   have y1:IntKind.i64.wrap ((k:Int)+1)=k+1:=zX (by omega) (by omega)
   refine Sim.step hmix hΓ (n:=0) (by simp[hltI];exact⟨rfl,rfl⟩) (by simp) ?_
   refine Sim.step hmix hΓ (n:=0) (by simp;exact⟨rfl,rfl⟩) (by simp) ?_
   refine Sim.seq (Sim.block ?_)
   refine Sim.step hmix hΓ (n:=0) (by simp +decide [hlt,hpk,hpk1,g1,g2];exact⟨rfl,rfl⟩) (by simp) ?_
   cases torn with
   | true =>
     rw[if_pos rfl]at hk1;subst hk1
     refine Sim.exec hmix hΓ (n:=0) (by simp +decide;exact⟨rfl,rfl,rfl⟩) (by simp) ?_
     exact⟨.inr rfl,_,by simp[Tryz.f36] <;> rfl,Weak.mk' [0,100,101] (by decide) (by decide) (by simp[fnV,Fnd.no,AWs,AW]) (by simp[AWg,AWb,Fnd.no,zS])⟩
   | false =>
     rw[if_neg (by simp)]at hk1
     have htx:=zCV hfl;have hsz:=zRL hdn hfl;have hrd:=zNN hdn hfl (m:=fl.now.length) (qnZ _);rw[htx]at hk1
     have hfb:fl.now.length<=500000000:=by
       obtain⟨m,h1,h2⟩:=zAk hfl;exact PF.ok_now (hok.fine _ (FS.get_mem h2))
     have hrl:=Rp.len_le fl.now
     have hct:=zTD d hsm n fl.now hsz hrd hfb (.sl 3 p L 1 false) B (fun rn h=>by simp[AW,h]) hlB es (by omega) good false
     unfold Fnd.add at hk1;dsimp only at hk1;obtain⟨⟨es2,good2⟩,hes2⟩:∃r,Rp.rd fl.now 0=r:=⟨_,rfl⟩;rw[hes2]at hk1 hrl hct;dsimp only at hk1 hrl hct;obtain⟨tn,htn⟩:∃tn,decide (good2<(fl.now.length:Int))=tn:=⟨_,rfl⟩;rw[htn]at hk1 hct;obtain⟨E,hE⟩:∃E,es++es2=E:=⟨_,rfl⟩
     have hEl:E.length<=(k+1)*500000000:=by rw[<-hE,qdZ];omega
     rw[hE]at hk1 hct
     have hAe2:∀rn:List Nat,AWs rn (zS E) (zS E):=fun rn=>AWs.refl _ _ (zp _)
     have hΓ2:GOk Pz (zv [(106,zDY _ _ _ _)]):=zC (Zf (zH Tryz.func106 rfl (by decide)) hct (by simp)) zD
     refine Sim.step hmix hΓ (n:=0) (by simp +decide;exact⟨rfl,rfl⟩) (by simp) ?_
     refine Sim.step hmix hΓ2 (n:=0) (by simp +decide;exact⟨rfl,rfl⟩) (by simp) ?_
     refine Sim.exec hmix hΓ (n:=0) (by simp +decide;exact⟨rfl,rfl,rfl⟩) (by simp) ?_
     dsimp only
     refine Sim.exec hmix hΓ (n:=0) (by simp[y1];exact⟨rfl,rfl,rfl⟩) (by simp) ?_
     refine ⟨(k+1,⟨flg,E,good2,tn⟩),⟨by dsimp only;omega,hk1,rfl,hEl⟩,Weak.mk' [0,1,2,3,5] (by decide) (by decide) (by simp) (by simp[AWb,AWg,AW,hlB,hAe2]),by dsimp only;omega⟩
 · have hke:k=L:=by omega
   subst hke
   rw[List.drop_of_length_le (by omega)]at hk1
   subst hk1
   refine Sim.exec hmix hΓ (n:=0) (by simp;exact⟨rfl,rfl,rfl⟩) (by simp) ?_
   dsimp only;rw[if_pos rfl]
   refine Sim.exec hmix hΓ (n:=0) (by simp +decide;exact⟨rfl,rfl,rfl⟩) (by simp) ?_
   exact⟨.inr rfl,_,by simp[Tryz.f36] <;> rfl,Weak.mk' [0,3,4] (by decide) (by decide) (by simp[fnV,zg,AWs,AW,hL]) (by simp[AWg,AWb,zg,hlB,hAe])⟩
open Classical in
noncomputable def zKJ:zc:=fun args H=>match args with
 | [.ptr b 0,.int .i64 x]=>match H[b]? with
   | some (.obj true sub)=>match dsD sub with
     | some d=>if d.ok 10000 500000000/\(-9223372036854775808<=x/\x<=9223372036854775807) then
         some (.tuple [fnV H.length (H.length+1) (zBQ x (zAM 3 d.list)) (d.load x).1,.int .i64 (d.load x).2],H++[.cells true (lgB d.list),.cells true (zS (d.load x).1.es)],[]) else none
     | none=>none
   | _=>none
 | _=>none
theorem zPa:Sound Pz 36 zKJ:=by
 refine ⟨zH Tryz.func36 rfl (by decide),fun args H v H' W hs=>?_,fun args H v H' W hs=>?_⟩ <;> (unfold zKJ at hs;split at hs <;> try cases hs) <;> (rename_i b x;split at hs <;> try cases hs) <;> (rename_i sub hb;split at hs <;> try cases hs) <;> (rename_i d hd;split at hs <;> cases hs;rename_i hk)
 · have e:=zAb hd
   subst e;have hbl:b<H.length:=(q1Z.1 hb).1
   have h1:=fun g=>ZS g _ (zCX d.list)
   have h2:=fun g=>ZS g _ (zp (d.load x).1.es)
   have:=ZE (H:=H) (args:=[.ptr b 0,.int .i64 x]) (zU7 d hk.1 x hk.2) [b] (by simp) ⟨⟨rfl,rfl⟩,⟨rfl,rfl⟩,trivial⟩ ⟨by rw[q2Z,hb];exact⟨rfl,rfl⟩,hbl,trivial⟩ rfl
   obtain⟨h3,h4⟩:=q1Z.1 hb
   have hset:H.set b (.obj true d.blks)=H:=by rw[<-h4,List.set_getElem_self]
   simpa[zf,ABlk.own,reB,reA,Zo,Z5,hset,h1,h2,fnV] using this
 · exact⟨by simp,fun c hc _=>by rw[q4Z hc]⟩
noncomputable def zRR:Gam:=zv [(76,mkS),(112,zQU),(113,zKr)]
theorem zV3:GOk Pz zRR:=zC zCx (zC zPj (zC zNR zD))
theorem zVg(d:DS)(hok:d.ok 800000 100000000000)(f:Fnd)(p:Nat)(B:List AV)(hB:zZ B=true)(hBg:∀k n,f.logs[k]? = some n->B[p+k]? = some (.int .i64 n))(hL:f.logs.length<=1000000) :
   Ct Pz 38 [.ptr 0 0,fnV 1 2 p f] [.obj true d.blks,.cells true B,.cells true (zS f.es)] (.int .i64 (d.mend f).2) [.obj true (d.mend f).1.blks,.cells true B,.cells true (zS f.es)]:=by
 have hΓ:=zV3
 have hsm:d.small:=DS.ok_mono hok (by omega) (by omega)
 have hA1:∀rn:List Nat,AWs rn B B:=fun rn=>AWs.refl _ _ hB
 have hA2:∀rn:List Nat,AWs rn (zS f.es) (zS f.es):=fun rn=>AWs.refl _ _ (zp _)
 have htr:=DS.ok_truncate hok (zd f) f.good;unfold fnV DS.mend;have hlast:zd f=mk 3 (f.logs.getD (f.logs.length-1) 0):=rfl;obtain⟨k,hk⟩:∃k,zd f=k:=⟨_,rfl⟩;rw[hk]at hlast htr ⊢;obtain⟨lg,es,good,torn⟩:=f;dsimp only at hBg hL hA2 hlast htr ⊢;obtain⟨L,hLL⟩:∃L,lg.length=L:=⟨_,rfl⟩;rw[hLL]at hL hlast ⊢;refine zK Tryz.func38 rfl ?_;simp only[Tryz.ntmps38,q7Z,q8Z,Nat.reduceAdd,Nat.reduceSub,qbZ,q9Z,qaZ]
 refine Sim.step hmix hΓ (n:=0) (by simp;exact⟨rfl,rfl⟩) (by simp) ?_
 refine Sim.step hmix hΓ (n:=0) (by simp;exact⟨rfl,rfl⟩) (by simp) ?_
 refine Sim.step hmix hΓ (n:=0) (by simp +decide;exact⟨rfl,rfl⟩) (by simp) ?_
 by_cases hL0:L=0
 · subst hL0
   rw[if_pos rfl]
   refine Sim.exec hmix hΓ (n:=0) (by simp +decide;exact⟨rfl,rfl,rfl⟩) (by simp) ?_
   exact⟨.inr rfl,_,by simp[Tryz.f38] <;> rfl,Weak.mk' [0,1,2] (by decide) (by decide) (by simp) (by simp[AWg,AWb,hA1,hA2])⟩
 rw[if_neg hL0]
 have hLi:¬(L:Int)=0:=by omega
 have hLb:((L:Int)==0)=false:=beq_eq_false_iff_ne.2 hLi
 have y1:IntKind.i64.wrap ((L:Int)-1)=((L-1:Nat):Int):=by rw[zX (by omega) (by omega)];omega
 obtain⟨n,hn⟩:∃n,lg[L-1]? = some n:=⟨_,q3Z (by omega)⟩
 have hgd:lg.getD (L-1) 0=n:=by rw[q2Z,hn];rfl
 rw[hgd]at hlast;have g2:=hBg _ _ hn;obtain⟨q,hq⟩:∃q,L-1=q:=⟨_,rfl⟩;rw[hq]at g2 y1
 have q1:q<L:=by omega
 have q2:(q:Int)<L:=by omega
 have q7:p+q<B.length:=(q1Z.1 g2).1
 have q9:p+q+1<=B.length:=by omega
 have g1:∀h',B[p+q]'h'=.int .i64 n:=fun h'=>(q1Z.1 g2).2
 refine Sim.step hmix hΓ (n:=0) (by simp +decide [hLi,hLb];exact⟨rfl,rfl⟩) (by simp) ?_
 refine Sim.step hmix hΓ (n:=0) (by simp +decide [zRR,mkS,y1,q1,q2,q7,q9,g1,g2,<-hlast];exact⟨rfl,rfl⟩) (by simp) ?_
 cases torn with
 | false =>
   simp only[qsZ,if_false];obtain⟨d',e',hsy⟩:∃d' e',d.sync k=(d',e'):=⟨_,_,rfl⟩;rw[hsy]
   refine Sim.step hmix hΓ (n:=0) (by simp +decide;exact⟨rfl,rfl⟩) (by simp) ?_
   refine Sim.exec hmix hΓ (n:=0) (by simp +decide [zRR,zKr,hsm,hsy];exact⟨rfl,rfl,rfl⟩) (by simp) ?_
   exact⟨.inr rfl,_,by simp[Tryz.f38] <;> rfl,Weak.mk' [0,1,2] (by decide) (by decide) (by simp) (by simp[AWg,AWb,hA1,hA2])⟩
 | true =>
   rw[if_pos rfl];unfold zOX;obtain⟨d1,e1,htu⟩:∃d' e',d.truncate k good=(d',e'):=⟨_,_,rfl⟩;rw[htu]at htr ⊢;dsimp only at htr ⊢
   have hs1:d1.small:=DS.ok_mono htr (by omega) (by omega)
   by_cases he1:e1=0
   · subst he1
     rw[if_pos rfl];obtain⟨d',e',hsy⟩:∃d' e',d1.sync k=(d',e'):=⟨_,_,rfl⟩;rw[hsy]
     refine Sim.step hmix hΓ (n:=0) (by simp +decide [zRR,zQU,hsm,htu];exact⟨rfl,rfl⟩) (by simp) ?_
     refine Sim.exec hmix hΓ (n:=0) (by simp +decide [zRR,zKr,hs1,hsy];exact⟨rfl,rfl,rfl⟩) (by simp) ?_
     exact⟨.inr rfl,_,by simp[Tryz.f38] <;> rfl,Weak.mk' [0,1,2] (by decide) (by decide) (by simp) (by simp[AWg,AWb,hA1,hA2])⟩
   · have he1b:(e1==0)=false:=by simpa using he1
     rw[if_neg he1]
     refine Sim.exec hmix hΓ (n:=0) (by simp +decide [zRR,zQU,hsm,htu,he1,he1b];exact⟨rfl,rfl,rfl⟩) (by simp) ?_
     exact⟨.inr rfl,_,by simp[Tryz.f38] <;> rfl,Weak.mk' [0,1,2] (by decide) (by decide) (by simp) (by simp[AWg,AWb,hA1,hA2])⟩
open Classical in
noncomputable def zKS:zc:=fun args H=>match args with
 | [.ptr b 0,.agg [.sl b1 p L 1 _c,.sl b2 0 m 3 _c2,.int .i64 good,.bool torn]]=>match H[b]?,H[b1]?,H[b2]? with
   | some (.obj true sub),some (.cells true B),some (.cells true E)=>match dsD sub,zAr ((B.drop p).take L),zDg E with
     | some d,some lg,some es=>if d.ok 800000 100000000000/\zZ B=true/\p+L<=B.length/\lg.length=L/\es.length=m/\L<=1000000/\b1≠b2 then
         some (.int .i64 (d.mend ⟨lg,es,good,torn⟩).2,H.set b (.obj true (d.mend ⟨lg,es,good,torn⟩).1.blks),[b]) else none
     | _,_,_=>none
   | _,_,_=>none
 | _=>none
theorem zMx:Sound Pz 38 zKS:=by
 have key:∀args H v H' W,zKS args H=some (v,H',W)->∃b B,W=[b]/\H'=H.set b B/\Ct Pz 38 args H v H':=by
   intro args H v H' W hs;unfold zKS at hs;split at hs;rotate_left
   · cases hs
   rename_i b b1 p L c b2 m c2 good torn
   split at hs <;> try cases hs
   rename_i sub B E hb hb1 hb2
   split at hs <;> try cases hs
   rename_i d lg es hd hlg hes
   split at hs <;> cases hs
   rename_i hc;obtain⟨h1,h2,h3,h4,h5,h6,n3⟩:=hc;have e:=zAb hd;have e2:=zIr hes;have e3:=zCZ hlg
   subst e;subst e2;subst h4;subst h5
   refine ⟨b,_,rfl,rfl,?_⟩;have hbl:b<H.length:=(q1Z.1 hb).1;have hbl1:b1<H.length:=(q1Z.1 hb1).1;have hbl2:b2<H.length:=(q1Z.1 hb2).1
   have n1:b≠b1:=by rintro rfl;rw[hb]at hb1;cases hb1
   have n2:b≠b2:=by rintro rfl;rw[hb]at hb2;cases hb2
   have hct:=zVg d h1 ⟨lg,es,good,torn⟩ p B h2 (fun k n hn=>by
     have h7:=(zDl hn).2;rw[<-e3,r4Z]at h7;split at h7
     · rw[r5Z]at h7;exact h7
     · cases h7) h6
   have:=ZE (H:=H) (args:=[.ptr b 0,.agg [.sl b1 p lg.length 1 c,.sl b2 0 es.length 3 c2,.int .i64 good,.bool torn]]) hct [b,b1,b2] (by simp[n1,n2,n3]) (by simp[fnV,AWs,AW]) ⟨by rw[q2Z,hb];exact⟨rfl,rfl⟩,hbl,by rw[q2Z,hb1];exact⟨fun h=>h,AWs.refl _ _ h2⟩,hbl1,by rw[q2Z,hb2];exact⟨fun h=>h,AWs.refl _ _ (zp _)⟩,hbl2,trivial⟩ rfl
   have hr1:=fun g=>ZS g _ h2
   have hr2:=fun g=>ZS g _ (zp es)
   have hb1':∀X,(H.set b X)[b2]? = some (.cells true (zS es)):=fun X=>by rw[qfZ n2];exact hb2
   have hs1:∀X,((H.set b X).set b1 (.cells true B))=H.set b X:=fun X=>zM8 hb1 n1
   have hs2:∀X,((H.set b X).set b2 (.cells true (zS es)))=H.set b X:=fun X=>zM8 hb2 n2
   simpa[zf,ABlk.own,reB,reA,hs1,hs2,hr1,hr2] using this
 refine ⟨zH Tryz.func38 rfl (by decide),fun args H v H' W hs=>?_,fun args H v H' W hs=>?_⟩
 · obtain⟨b,B,_,_,h⟩:=key args H v H' W hs
   exact h
 · obtain⟨b,B,rfl,rfl,_⟩:=key args H v H' W hs
   refine ⟨by simp,fun c hc hn=>?_⟩
   simp only[r1Z]at hn;rw[qfZ (Ne.symm hn)]
end
section
open Go Go.Lib
theorem zTe{B:List AV}{l:List Int}{p:Nat}(hp:p<=B.length)(h:∀k n,l[k]? = some n->B[p+k]? = some (.int .i64 n)):zAr ((B.drop p).take l.length)=some l/\p+l.length<=B.length:=by
 have hle:p+l.length<=B.length:=by
   by_cases h0:l.length=0
   · omega
   · have:=(q1Z.1 (h (l.length-1) _ (q3Z (by omega)))).1
     omega
 refine ⟨?_,hle⟩
 have e:(B.drop p).take l.length=zU l:=by
   refine List.ext_getElem? fun k=>?_
   rw[r4Z,r5Z];split
   · rename_i hk
     rw[h k _ (q3Z hk)];simp[zU,hk]
   · rename_i hk
     simp[zU,hk]
 rw[e];exact zCu _
theorem zII{d:DS}{x:Int}{f:Fnd}(h:d.load x=(f,0)):zAr (((lgB d.list).drop (zBQ x (zAM 3 d.list))).take f.logs.length)=some f.logs/\zBQ x (zAM 3 d.list)+f.logs.length<=(lgB d.list).length/\f.logs.length<=d.list.length:=by
 obtain⟨_,_,_,hl⟩:=zFY h
 have hp:zBQ x (zAM 3 d.list)<=(zAM 3 d.list).length:=by
   unfold zBQ;exact (List.takeWhile_prefix _).length_le
 have:=zLI d.list;have hn:=zJF d.list
 obtain⟨h1,h2⟩:=zTe (B:=lgB d.list) (l:=f.logs) (p:=zBQ x (zAM 3 d.list)) (by omega) fun k n hk=>(zQi (x:=x) (names:=d.list) (by rw[<-hl];exact hk)).2
 refine ⟨h1,h2,?_⟩;rw[hl];rcases zBl x d.list with e | e
 · rw[e];simp
 · rw[e];unfold zDa;rw[qkZ];omega
end
end Go.Proofs.YtpmfecnajoojeaaGreatDoor
