/- Parts of the proof of WalKeeps: lemmas, each with its own conditions. -/
import Derived.Test.YtpmfecnajoojeaaGreatDoorY25
set_option maxHeartbeats 64000000
open List renaming getElem?_eq_some_iff → q1Z, getD_eq_getElem?_getD → q2Z, getElem?_eq_getElem → q3Z, take_of_length_le → q6Z, length_cons → q7Z, length_nil → q8Z, cons_append → q9Z, nil_append → qaZ, replicate → qbZ, getElem?_set_ne → qfZ, getElem?_set_self → qgZ, length_take → qjZ, mem_cons → qwZ, mem_append → qxZ, getElem_mem → r3Z, not_mem_nil → rtZ, map_cons → s1Z
open Nat renaming le_refl → qnZ, zero_le → qqZ
namespace Go.Proofs.YtpmfecnajoojeaaGreatDoor
open _root_.Go.Proofs.Tryz renaming prog → Pz
set_option maxRecDepth 100000
section
open Go Go.Lib
attribute [-simp] drawOk_eq adraw qrun acode aops
def wfΓ:Gam:=gams [(128,eputS),(129,fputS)]
theorem wfΓ_ok:GOk Pz wfΓ:=goks_cons eput_sound (goks_cons fput_sound goks_nil)
def frsA(es:List En):List AV:=es.map fun e=>AV.str (frE e)
@[simp] theorem frsA_length(es:List En):(frsA es).length=es.length:=by simp[frsA]
theorem frees_frs(es:List En):frees (frsA es)=true:=frees_map _ _ fun _=>rfl
theorem frames_ct(es:List En)(h:∀e∈es,okE e)(hl:es.length≤1000) :
   Ct Pz 64 [.sl 0 0 es.length 3 false] [.cells false (ensA es)] (.tuple [.sl 1 0 es.length 1 false,.int .i64 0]) [.cells false (ensA es),.cells true (frsA es)]:=by
 have hΓ:=wfΓ_ok;obtain⟨L,hL⟩:∃L,es.length=L:=⟨_,rfl⟩;refine ct_of_sim Tryz.func64 rfl ?_;rw[hL]at hl ⊢;simp only[Tryz.ntmps64,q7Z,q8Z,Nat.reduceAdd,Nat.reduceSub,qbZ,q9Z,qaZ];have hfe:=frees_ens es
 have hA1:∀rn:List Nat,AWs rn (ensA es) (ensA es):=fun rn=>AWs.refl _ _ hfe
 refine Sim.step hmix hΓ (n:=0) (by simp;exact⟨rfl,rfl⟩) (by simp) ?_
 refine Sim.step hmix hΓ (n:=0) (by simp;exact⟨rfl,rfl⟩) (by simp) ?_
 refine Sim.seq (Sim.step hmix hΓ (n:=0) (by simp;exact⟨rfl,rfl⟩) (by simp) ?_)
 refine Sim.block (Sim.loopW (fun k:Nat=>k≤L) (fun k=>[.top,.top,.top,.top,.sl 1 0 k 1 false,.top,.top,.top,.top,.top,.sl 0 0 L 3 false,.int .i64 L,.int .i64 k]++qbZ 23 .top)
   (fun k=>[.cells false (ensA es),.cells true (frsA (es.take k))]) (fun k=>L-k) 0 (by simp) (qqZ _) (Weak.mk' [0,100] (by decide) (by decide) (by simp) (by simp[AWb])) fun k hk=>?_)
 by_cases hlt:k<L
 · have hltI:(k:Int)<L:=by omega
   have hke:k<es.length:=by omega
   obtain⟨e,he⟩:∃e,es[k]=e:=⟨_,rfl⟩
   have hok:=h e (by rw[←he];exact r3Z hke)
   have g:=ens_get es k hke;rw[he]at g;obtain⟨p,hp⟩:∃p,(eput e).1=p:=⟨_,rfl⟩;have hpo:=eput_okE hok;have hput:eput e=(p,0):=Prod.ext hp hpo.2
   have hpl:p.length≤1000000000:=by have:=hpo.1.2;rw[hp]at this;omega
   obtain⟨s,hs⟩:∃s,frE e=s:=⟨_,rfl⟩
   have hfp:Fr.put p=(s,0):=by
     refine Prod.ext ?_ ?_
     · rw[←hs,←hp];rfl
     · rw[←hp];exact (Fr.put_ok _).2 hpo.1
   have hnext:frsA (es.take (k+1))=frsA (es.take k)++[AV.str s]:=by
     rw[List.take_add_one,q3Z hke,he];simp[frsA,hs]
   obtain⟨R,hR⟩:∃R,frsA (es.take k)=R:=⟨_,rfl⟩
   have hRl:R.length=k:=by rw[←hR,frsA_length,qjZ];omega
   have hRf:frees R=true:=by rw[←hR];exact frees_frs _
   have hRt:R.take k=R:=q6Z (by omega)
   rw[hR]at hnext ⊢
   have y1:IntKind.i64.wrap ((k:Int)+1)=k+1:=wr_i64 (by omega) (by omega)
   have k3:k*3+3≤L*3:=by omega
   have b1:(k+1)*16≤140737488355328:=by omega
   have b2:k+1≤9223372036854775807:=by omega
   obtain⟨ew,en,eg⟩:=e;simp only[enA]at g;have hN:okN en=true:=hok.2.1
   refine Sim.step hmix hΓ (n:=0) (by simp[hltI];exact⟨rfl,rfl⟩) (by simp) ?_
   refine Sim.step hmix hΓ (n:=0) (by simp;exact⟨rfl,rfl⟩) (by simp) ?_
   refine Sim.seq (Sim.block ?_)
   refine Sim.step hmix hΓ (n:=0) (by simp +decide [hlt,hL,g,k3];exact⟨rfl,rfl⟩) (by simp) ?_
   refine Sim.step hmix hΓ (n:=0) (by simp +decide [wfΓ,eputS,hN,hput];exact⟨rfl,rfl⟩) (by simp) ?_
   refine Sim.step hmix hΓ (n:=0) (by simp +decide;exact⟨rfl,rfl⟩) (by simp) ?_
   refine Sim.step hmix hΓ (n:=0) (by simp +decide [wfΓ,fputS,hpl,hfp];exact⟨rfl,rfl⟩) (by simp) ?_
   refine Sim.exec hmix hΓ (n:=0) (by simp +decide [hRl,hRt,b1,b2];exact⟨rfl,rfl,rfl⟩) (by simp) ?_
   dsimp only
   refine Sim.exec hmix hΓ (n:=0) (by simp[y1];exact⟨rfl,rfl,rfl⟩) (by simp) ?_
   refine ⟨k+1,by omega,?_,by omega⟩
   rw[hnext]
   have hR1:∀rn:List Nat,AWs rn (R++[AV.str s]) (R++[AV.str s]):=fun rn=>AWs.refl _ _ (frees_iff.2 fun v hv=>by
     rcases qxZ.1 hv with h | h
     · exact frees_iff.1 hRf v h
     · simp at h;subst h;rfl)
   exact Weak.mk' [0,4] (by decide) (by decide) (by simp) (by simp[AWb,hR1])
 · have hke:k=L:=by omega
   subst hke
   have ht:es.take k=es:=q6Z (by omega)
   rw[ht]
   have hA2:∀rn:List Nat,AWs rn (frsA es) (frsA es):=fun rn=>AWs.refl _ _ (frees_frs es)
   refine Sim.exec hmix hΓ (n:=0) (by simp;exact⟨rfl,rfl,rfl⟩) (by simp) ?_
   dsimp only;rw[if_pos rfl]
   refine Sim.exec hmix hΓ (n:=0) (by simp;exact⟨rfl,rfl,rfl⟩) (by simp) ?_
   exact⟨.inr rfl,_,by simp[Tryz.f64] <;> rfl,Weak.mk' [0,1] (by decide) (by decide) (by simp) (by simp[AWb,hA2])⟩
def okEs(es:List En):Prop:=∀e∈es,okE e
open Classical in
noncomputable def framesS:Summ:=readNewS fun args H=>match args with
 | [x]=>match rowEns H x with
   | some es=>if okEs es∧es.length≤1000 then some (.tuple [.sl 0 0 es.length 1 false,.int .i64 0],[.cells true (frsA es)]) else none
   | none=>none
 | _=>none
theorem frames_sound:Sound Pz 64 framesS:=by
 refine sound_readNew (enter_of Tryz.func64 rfl (by decide)) fun args H v N h=>?_
 split at h <;> try cases h
 rename_i x
 split at h <;> try cases h
 rename_i es hx
 split at h <;> cases h
 rename_i hc;obtain⟨b1,o1,w1,g1⟩:=rowEns_win hx;refine ct_winN (H0:=[.cells false (ensA es)]) (args0:=[.sl 0 0 es.length 3 false]) ?_ rfl [(b1,o1)] ⟨w1 0 _ rfl,trivial⟩ ⟨g1,frees_ens _,trivial⟩;have:=frames_ct es hc.1 hc.2;have hsh:shAs 1 (frsA es)=frsA es:=shAs_freeS 1 _ (frees_frs es);simpa[shA,shAs,shB,hsh] using this
noncomputable def apΓ0:Gam:=gams [(69,wreadyS),(65,app1S)]
theorem apΓ0_ok:GOk Pz apΓ0:=goks_cons wready_sound (goks_cons app1_sound goks_nil)
abbrev apH(w:WL)(R S:ABlk)(s:List UInt8):AHeap:=[wlB 1 w,.obj true w.d.blks,R,.cells true [.ptr 0 0],S,.cells true [.str s],.cells true [.func 69 [.ptr 0 0] [],.func 65 [] [.ptr 3 0,.ptr 5 0]]]
abbrev WL.appd(w:WL)(s:List UInt8):WL:=⟨(w.d.append (wn w.file) s).1,w.most,w.file,w.next,w.done,w.bad⟩
theorem arow_ct(w:WL)(h0:w.d.ok 800000 500000000000)(hn:w.next≤1000000000)(s:List UInt8)(hs:s.length≤140737488355328)(h1:w.ready.1.d.small)(hq:w.ready.1.d.quota≤1000000000000)(R S:ABlk)(hR:∀rn:List Nat,AWb rn R R)(hS:∀rn:List Nat,AWb rn S S) :
   Ct Pz 68 [.ptr 0 0,.slice 6 0 2 1 true] (apH w R S s) (.int .i64 (if w.ready.2=0 then (w.ready.1.d.append (wn w.ready.1.file) s).2 else w.ready.2)) (if w.ready.2=0 then apH (w.ready.1.appd s) R S s else apH w.ready.1 R S s):=by
 refine first2_ct apΓ0_ok 7 0 6 true (by decide) (apH w R S s) (apH w.ready.1 R S s) (apH (w.ready.1.appd s) R S s) _ _ [.ptr 0 0] [] [] [.ptr 3 0,.ptr 5 0] _ _ rfl rfl rfl rfl rfl rfl (by decide) (by decide) (fun H hH rn hr B hB=>?_) (fun X=>?_) (fun _ X=>?_)
 · have q:∀j,j<7→rn[j]? = some j:=hr
   rcases hH with rfl | rfl | rfl <;> (simp only[apH,qwZ,rtZ,or_false]at hB;rcases hB with rfl | rfl | rfl | rfl | rfl | rfl | rfl <;> first | exact hR rn | exact hS rn | simp[wlC,AWb,AW,q])
 · simp +decide [apΓ0,wreadyS,wlS,h0,hn]
 · simp +decide [apΓ0,app1S,h1,hq,hs]
theorem add_eq(w:WL)(s:List UInt8){e1 e2 E:Int}{w1:WL}{D d':DS}(h1:w.ready=(w1,e1))(h2:w1.d.append (wn w1.file) s=(d',e2))(hE:(if e1=0 then e2 else e1)=E)(hD:(if e1=0 then d' else w1.d)=D) :
   w.add s=if E=0 then (⟨D,w1.most,w1.file,w1.next,w1.done+1,false⟩,0) else (⟨D,w1.most,w1.file,w1.next,w1.done,true⟩,E):=by
 unfold WL.add;rw[h1];dsimp only;rw[h2];dsimp only
 subst hE;subst hD
 by_cases h:e1=0
 · simp only[h,if_true]
 · simp only[h,if_false]
theorem fresh_next(w:WL):w.fresh.1.next≤w.next+1:=by
 unfold WL.fresh;split
 · dsimp only;omega
 split
 · split
   · exact qnZ _
   · dsimp only;omega
 · dsimp only;omega
theorem ready_next(w:WL):w.ready.1.next≤w.next+1:=by
 unfold WL.ready;split
 · exact fresh_next w
 split
 · split
   · exact fresh_next ⟨(w.d.sync (wn w.file)).1,w.most,w.file,w.next,w.done,w.bad⟩
   · dsimp only;omega
 · dsimp only;omega
theorem add_next(w:WL)(s:List UInt8):(w.add s).1.next≤w.next+1:=by
 have:=ready_next w;unfold WL.add;split
 · split
   · exact this
   · exact this
 · exact this
theorem fresh_done(w:WL):w.fresh.1.done=w.done:=by
 unfold WL.fresh;split
 · rfl
 split
 · split <;> rfl
 · rfl
theorem ready_done(w:WL):w.ready.1.done=w.done:=by
 unfold WL.ready;split
 · exact fresh_done w
 split
 · split
   · exact fresh_done ⟨(w.d.sync (wn w.file)).1,w.most,w.file,w.next,w.done,w.bad⟩
   · rfl
 · rfl
theorem wappend_ct(w:WL)(hb:w.bad=false){A B:Nat}(hok:w.d.ok A B)(hq:w.d.quota≤1048576)(o:Bool)(l:List AV)(hfl:frees l=true)(off n:Nat)(c:Bool)(hoff:off+n*3≤l.length)(es:List En)(hes:ensOf ((l.drop off).take (n*3))=some es)(he:∀e∈es,okE e)(hln:es.length≤1000)
   (hA:A+6*es.length+10≤800000) (hB:B+1048576*es.length≤400000000000) (hnx:w.next+es.length≤1000000000) (hdn:0≤w.done∧w.done≤1000000000) :
   Ct Pz 19 [.ptr 0 0,.sl 2 off n 3 c] [wlB 1 w,.obj true w.d.blks,.cells o l] (.int .i64 (w.adds (es.map frE)).2) [wlB 1 (w.adds (es.map frE)).1,.obj true (w.adds (es.map frE)).1.d.blks,.cells o l]:=by
 obtain⟨W,hW⟩:∃W,w.adds (es.map frE)=W:=⟨_,rfl⟩;rw[hW];obtain⟨L,hL⟩:∃L,es.length=L:=⟨_,rfl⟩
 have hA1:∀rn:List Nat,AWs rn l l:=fun rn=>AWs.refl _ _ hfl
 have hfs:frees (frsA es)=true:=frees_frs es
 have hA2:∀rn:List Nat,AWs rn (frsA es) (frsA es):=fun rn=>AWs.refl _ _ hfs
 have hfl2:(frsA es).length=L:=by rw[frsA_length,hL]
 have hmay:GOk Pz (gams [(60,mayR),(64,framesS)]):=goks_cons may_sound (goks_cons frames_sound goks_nil);have he1:okEs es:=he;rw[hL]at hln hA hB hnx;refine ct_of_sim Tryz.func19 rfl ?_;obtain⟨d0,m0,f0,n0,dn0,bd0⟩:=w;dsimp only at hb hok hq hnx hdn;subst hb;simp only[wlB,wlC,Tryz.ntmps19,q7Z,q8Z,Nat.reduceAdd,Nat.reduceSub,qbZ,q9Z,qaZ]
 refine Sim.step hmix hmay (n:=0) (by simp;exact⟨rfl,rfl⟩) (by simp) ?_
 refine Sim.step hmix hmay (n:=0) (by simp +decide [mayR,wlR];exact⟨rfl,rfl⟩) (by simp) ?_
 refine Sim.step hmix hmay (n:=0) (by simp +decide [framesS,rowEns,hoff,hes,he1,hL,hln,shAs_freeS 4 _ hfs,shA,shAs,shB];exact⟨rfl,rfl⟩) (by simp) ?_
 refine Sim.step hmix hmay (n:=0) (by simp +decide;exact⟨rfl,rfl⟩) (by simp) ?_
 refine Sim.seq (Sim.step hmix hmay (n:=0) (by simp +decide;exact⟨rfl,rfl⟩) (by simp) ?_)
 refine Sim.block (Sim.loopW (fun r:Nat×WL=>r.1≤L∧r.2.adds ((es.drop r.1).map frE)=W∧r.2.d.ok (A+6*r.1) (B+1048576*r.1)∧r.2.d.quota≤1048576∧r.2.next≤n0+r.1∧r.2.bad=false∧0≤r.2.done∧r.2.done≤dn0+r.1)
   (fun r=>[.ptr 0 0,.top,.ptr 3 0,.top,.top,.top,.top,.top,.top,.top,.top,.top]++qbZ 13 .top++[.sl 4 0 L 1 false,.int .i64 L,.int .i64 r.1]++qbZ 23 .top)
   (fun r=>[wlB 1 r.2,.obj true r.2.d.blks,.cells o l,.cells true [.ptr 0 0],.cells true (frsA es)]) (fun r=>L-r.1) (0,⟨d0,m0,f0,n0,dn0,false⟩) (by simp) ⟨qqZ _,hW,by simpa using hok,hq,by simp,rfl,hdn.1,by simp⟩ (Weak.mk' [0,1,2,3,4] (by decide) (by decide) (by simp) (by simp[AWb,AW,wlC,hA1,hA2])) fun r hr=>?_)
 obtain⟨k,wk⟩:=r;obtain⟨hk,hk1,hk2,hk3,hk4,hk5,hk8,hk9⟩:=hr;dsimp only at hk hk1 hk2 hk3 hk4 hk5 hk8 hk9 ⊢;by_cases hlt:k<L
 · have hltI:(k:Int)<L:=by omega
   have hke:k<es.length:=by omega
   obtain⟨e,hee⟩:∃e,es[k]=e:=⟨_,rfl⟩
   have hdr:es.drop k=e::es.drop (k+1):=by rw[List.drop_eq_getElem_cons hke,hee]
   rw[hdr,s1Z]at hk1;obtain⟨s,hs⟩:∃s,frE e=s:=⟨_,rfl⟩
   have hsl:s.length≤140737488355328:=by have:=frE_le e;rw[hs]at this;omega
   rw[hs]at hk1
   have hg:∀h,(frsA es)[k]'h=.str s:=fun h=>by simp only[frsA,List.getElem_map,hee,hs]
   have y1:IntKind.i64.wrap ((k:Int)+1)=k+1:=wr_i64 (by omega) (by omega)
   have k6:wk.d.ok 800000 500000000000:=DS.ok_mono hk2 (by omega) (by omega)
   have k7:wk.next≤1000000000:=by omega
   obtain⟨r1,r2⟩:=ready_ok hk2 hk3;have a1:=add_ok hk2 hk3 s;have a2:=add_next wk s;have a3:=ready_done wk
   have hrow:=arow_ct wk k6 k7 s hsl (DS.ok_mono r1 (by omega) (by omega)) (by rw[r2];omega) (.cells o l) (.cells true (frsA es)) (fun rn=>⟨id,hA1 rn⟩) (fun rn=>⟨id,hA2 rn⟩)
   obtain⟨w1,e1,hw1⟩:∃w1 e1,wk.ready=(w1,e1):=⟨_,_,rfl⟩;obtain⟨d',e2,hd'⟩:∃d' e2,w1.d.append (wn w1.file) s=(d',e2):=⟨_,_,rfl⟩
   obtain⟨E,hE⟩:∃E,(if e1=0 then e2 else e1)=E:=⟨_,rfl⟩
   obtain⟨D,hD⟩:∃D,(if e1=0 then d' else w1.d)=D:=⟨_,rfl⟩
   have hadd:=add_eq wk s hw1 hd' hE hD;rw[hw1]at hrow a3;dsimp only at hrow a3
   have hH:(if e1=0 then apH (w1.appd s) (.cells o l) (.cells true (frsA es)) s else apH w1 (.cells o l) (.cells true (frsA es)) s)=apH ⟨D,w1.most,w1.file,w1.next,w1.done,w1.bad⟩ (.cells o l) (.cells true (frsA es)) s:=by
     rw[←hD];unfold WL.appd;rw[hd']
     split <;> rfl
   rw[hd']at hrow;dsimp only at hrow;rw[hE,hH]at hrow;clear hH hD hE hd' hw1 r1 r2;obtain⟨dk,mk0,fk,nk,dnk,bdk⟩:=wk;obtain⟨d1,m1,f1,n1,dn1,bd1⟩:=w1;dsimp only at hk5 hadd a2 a3 hk4 hk8 hk9;subst hk5;subst a3;simp only[apH,wlB,wlC]at hrow
   have hΓ:GOk Pz (gams [(68,oneAt _ _ _ _),(61,judgedS)]):=goks_cons (oneAt_sound (enter_of Tryz.func68 rfl (by decide)) hrow (qnZ _)) (goks_cons judged_sound goks_nil)
   dsimp only[wlB,wlC]
   refine Sim.step hmix hΓ (n:=0) (by simp[hltI];exact⟨rfl,rfl⟩) (by simp) ?_
   refine Sim.step hmix hΓ (n:=0) (by simp;exact⟨rfl,rfl⟩) (by simp) ?_
   refine Sim.seq (Sim.block ?_)
   refine Sim.step hmix hΓ (n:=0) (by simp +decide [hlt,hfl2,hg];exact⟨rfl,rfl⟩) (by simp) ?_
   refine Sim.step hmix hΓ (n:=0) (by simp +decide;exact⟨rfl,rfl⟩) (by simp) ?_
   refine Sim.seq (Sim.seq (Sim.draw hmix (by simp) ?_))
   refine SimR.hard hΓ 6 62 _ rfl (by simp[stageOps];rfl) (by omega) (by kernel_rfl) (by kernel_rfl) (by simp +decide;exact⟨rfl,rfl,rfl⟩) (by kernel_rfl) (by simp +decide [topsA,List.range,List.range.loop];rfl) (by simp +decide;exact⟨rfl,rfl⟩) (by simp +decide [hardOk,noQF,blkEq,List.range,List.range.loop]) ?_
   refine SimR.one hΓ _ rfl (by kernel_rfl) (by simp +decide [judgedS,wlS];exact⟨rfl,rfl⟩) ?_
   refine SimR.many hΓ 9 (by simp[stageOps,blankOp];rfl) (by omega) (by kernel_rfl) (by simp +decide;first | exact⟨rfl,rfl⟩ | exact⟨by kernel_rfl,rfl,rfl⟩) ?_
   refine SimR.done rfl ?_;dsimp only;unfold WL.adds at hk1;rw[hadd]at hk1 a1 a2;by_cases hE0:E=0
   · subst hE0
     rw[if_pos rfl]at hk1 a1 a2;rw[if_pos rfl]at hk1;dsimp only at a1 a2
     have y2:IntKind.i64.wrap (dn1+1)=dn1+1:=wr_i64 (by omega) (by omega)
     refine Sim.exec hmix hΓ (n:=0) (by simp +decide;exact⟨rfl,rfl,rfl⟩) (by simp) ?_
     dsimp only
     refine Sim.exec hmix hΓ (n:=0) (by simp +decide [wlC,y2];exact⟨rfl,rfl,rfl⟩) (by simp) ?_
     dsimp only
     refine Sim.exec hmix hΓ (n:=0) (by simp[y1];exact⟨rfl,rfl,rfl⟩) (by simp) ?_
     refine ⟨(k+1,⟨D,m1,f1,n1,dn1+1,false⟩),⟨by dsimp only;omega,hk1,DS.ok_mono a1.1 (by dsimp only;omega) (by dsimp only;omega),by dsimp only;rw[a1.2];exact hk3,by dsimp only;omega,rfl,by dsimp only;omega,by dsimp only;omega⟩,?_,by dsimp only;omega⟩
     exact Weak.mk' [0,1,2,3,4] (by decide) (by decide) (by simp) (by simp[AWb,AW,hA1,hA2])
   · rw[if_neg hE0]at hk1
     rw[if_neg (show ¬(_,E).2=0 from hE0)]at hk1
     have hEb:(E==0)=false:=by simpa using hE0
     have hEn:(E != 0)=true:=by simpa using hE0
     subst hk1
     refine Sim.exec hmix hΓ (n:=0) (by simp +decide [hE0,hEn];exact⟨rfl,rfl,rfl⟩) (by simp) ?_
     exact⟨.inr rfl,_,by simp[Tryz.f19] <;> rfl,Weak.mk' [0,1,2] (by decide) (by decide) (by simp) (by simp[AWb,AW,wlC,hA1])⟩
 · have hke:k=L:=by omega
   subst hke
   rw[List.drop_of_length_le (by omega)]at hk1
   have hWe:W=(wk,0):=hk1.symm;subst hWe;obtain⟨dk,mk0,fk,nk,dnk,bdk⟩:=wk
   refine Sim.exec hmix goks_nil (n:=0) (by simp;exact⟨rfl,rfl,rfl⟩) (by simp) ?_
   dsimp only;rw[if_pos rfl]
   refine Sim.exec hmix goks_nil (n:=0) (by simp;exact⟨rfl,rfl,rfl⟩) (by simp) ?_
   exact⟨.inr rfl,_,by simp[Tryz.f19] <;> rfl,Weak.mk' [0,1,2] (by decide) (by decide) (by simp) (by simp[AWb,AW,wlC,hA1])⟩
def WL.appends(w:WL)(es:List En):WL×Int:=if w.bad=true then (w,11) else w.adds (es.map frE)
theorem wappendB_ct(w:WL)(hb:w.bad=true)(o:Bool)(l:List AV)(hfl:frees l=true)(off n:Nat)(c:Bool) :
   Ct Pz 19 [.ptr 0 0,.sl 2 off n 3 c] [wlB 1 w,.obj true w.d.blks,.cells o l] (.int .i64 11) [wlB 1 w,.obj true w.d.blks,.cells o l]:=by
 have hA1:∀rn:List Nat,AWs rn l l:=fun rn=>AWs.refl _ _ hfl
 have hmay:GOk Pz (gams [(60,mayR)]):=goks_cons may_sound goks_nil;refine ct_of_sim Tryz.func19 rfl ?_;obtain⟨d0,m0,f0,n0,dn0,bd0⟩:=w;dsimp only at hb;subst hb;simp only[wlB,wlC,Tryz.ntmps19,q7Z,q8Z,Nat.reduceAdd,Nat.reduceSub,qbZ,q9Z,qaZ]
 refine Sim.step hmix hmay (n:=0) (by simp;exact⟨rfl,rfl⟩) (by simp) ?_
 refine Sim.exec hmix hmay (n:=0) (by simp +decide [mayR,wlR];exact⟨rfl,rfl,rfl⟩) (by simp) ?_
 exact⟨.inr rfl,_,by simp[Tryz.f19] <;> rfl,Weak.mk' [0,1,2] (by decide) (by decide) (by simp) (by simp[AWb,AW,hA1])⟩
structure WOk (w:WL) (k:Nat):Prop where
 ok:w.d.ok 700000 300000000000
 quota:w.d.quota≤1048576
 next:w.next+k≤1000000000
 done:0≤w.done∧w.done≤1000000000
open Classical in
noncomputable def wappendS:Summ:=fun args H=>match args with
 | [.ptr b 0,.sl e off n 3 _c]=>match H[b]?,H[e]? with
   | some (.cells true l),some (.cells _o r)=>match wlOf l with
     | some (q,m,f,nx,dn,bd)=>match H[q]? with
       | some (.obj true sub)=>match dsD sub,ensOf ((r.drop off).take (n*3)) with
         | some d,some es=>if off+n*3≤r.length∧frees r=true∧okEs es∧es.length≤1000∧WOk ⟨d,m,f,nx,dn,bd⟩ es.length then
             some (.int .i64 ((⟨d,m,f,nx,dn,bd⟩:WL).appends es).2,(H.set b (wlB q ((⟨d,m,f,nx,dn,bd⟩:WL).appends es).1)).set q (.obj true ((⟨d,m,f,nx,dn,bd⟩:WL).appends es).1.d.blks),[b,q]) else none
         | _,_=>none
       | _=>none
     | none=>none
   | _,_=>none
 | _=>none
theorem wappend_sound:Sound Pz 19 wappendS:=by
 have key:∀args H v H' W,wappendS args H=some (v,H',W)→∃b q B C,W=[b,q]∧H'=(H.set b B).set q C∧Ct Pz 19 args H v H':=by
   intro args H v H' W hs;unfold wappendS at hs
   split at hs <;> try cases hs
   rename_i b e off n c
   split at hs <;> try cases hs
   rename_i l o r hb he
   split at hs <;> try cases hs
   rename_i q m f nx dn bd hw
   split at hs <;> try cases hs
   rename_i sub hq
   split at hs <;> try cases hs
   rename_i d es hd hes
   split at hs <;> cases hs
   rename_i hc;obtain⟨h1,h2,h3,h4,h5⟩:=hc;have e1:=dsD_eq hd;have e2:=wlOf_eq hw
   subst e1;subst e2
   refine ⟨b,q,_,_,rfl,rfl,?_⟩;obtain⟨w',hw'⟩:∃w',(⟨d,m,f,nx,dn,bd⟩:WL).appends es=w':=⟨_,rfl⟩;rw[hw']
   have hct:Ct Pz 19 [.ptr 0 0,.sl 2 off n 3 c] [wlB 1 ⟨d,m,f,nx,dn,bd⟩,.obj true d.blks,.cells o r] (.int .i64 w'.2) [wlB 1 w'.1,.obj true w'.1.d.blks,.cells o r]:=by
     rw[←hw'];unfold WL.appends;split
     · rename_i hbad
       exact wappendB_ct ⟨d,m,f,nx,dn,bd⟩ hbad o r h2 off n c
     · rename_i hbad
       have hbad':bd=false:=by simpa using hbad
       exact wappend_ct ⟨d,m,f,nx,dn,bd⟩ hbad' h5.ok h5.quota o r h2 off n c h1 es hes h3 h4 (by omega) (by omega) h5.next h5.done
   have hbl:b<H.length:=(q1Z.1 hb).1;have hql:q<H.length:=(q1Z.1 hq).1;have hel:e<H.length:=(q1Z.1 he).1
   have n1:b≠q:=by rintro rfl;rw[hb]at hq;cases hq
   have n2:e≠q:=by rintro rfl;rw[he]at hq;cases hq
   by_cases n3:b=e
   · subst n3
     rw[hb]at he;cases he;exfalso;simp[wlC,free,frees]at h2
   have:=ct_frame (H:=H) (args:=[.ptr b 0,.sl e off n 3 c]) hct [b,q,e] (by simp[n1,n3,Ne.symm n2]) (by simp[AWs,AW]) ⟨by rw[q2Z,hb];simp[AWb,wlB,wlC,AW],hbl,by rw[q2Z,hq];exact⟨rfl,rfl⟩,hql,by rw[q2Z,he];exact⟨fun h=>h,AWs.refl _ _ h2⟩,hel,trivial⟩ rfl
   have s3:∀B C,((H.set b B).set q C).set e (.cells o r)=(H.set b B).set q C:=fun B C=>by
     refine List.ext_getElem? fun i=>?_
     by_cases hi:i=e
     · subst hi
       rw[qgZ (by simpa using hel),qfZ (Ne.symm n2),qfZ n3,he]
     · rw[qfZ (Ne.symm hi)]
   have hre:∀g,reAs g r=r:=fun g=>reAs_freeS g r h2
   cases o with
   | true=>simpa[setOwn,ABlk.own,reB,reA,reAs,wlB,wlC,nameG,s3,hre] using this
   | false=>simpa[setOwn,ABlk.own,reB,reA,reAs,wlB,wlC,nameG] using this
 refine ⟨enter_of Tryz.func19 rfl (by decide),fun args H v H' W hs=>?_,fun args H v H' W hs=>?_⟩
 · obtain⟨b,q,B,C,_,_,h⟩:=key args H v H' W hs
   exact h
 · obtain⟨b,q,B,C,rfl,rfl,_⟩:=key args H v H' W hs
   refine ⟨by simp,fun c hc hn=>?_⟩
   simp only[qwZ,rtZ,or_false,not_or]at hn;rw[qfZ (Ne.symm hn.2),qfZ (Ne.symm hn.1)]
end
end Go.Proofs.YtpmfecnajoojeaaGreatDoor
