/- Parts of the proof of SweepStops: lemmas, each with its own conditions. -/
import Derived.Test.YthafeihjlamhhaaGreatDoorY15
import Derived.Test.YthafeihjlamhhaaGreatDoorY13
set_option maxHeartbeats 64000000
open List renaming getElem?_eq_some_iff → q1Z, getD_eq_getElem?_getD → q2Z, getElem?_append_left → q4Z, take_of_length_le → q6Z, length_cons → q7Z, length_nil → q8Z, cons_append → q9Z, nil_append → qaZ, replicate → qbZ, getElem?_set_ne → qfZ, mem_cons_self → qhZ, mem_cons_of_mem → qiZ, mem_cons → qwZ, mem_append → qxZ, mem_singleton → r1Z, length_map → r7Z, getElem?_cons_succ → r9Z, nodup_cons → rdZ, mem_map → reZ, map_append → roZ, not_mem_nil → rtZ, map_cons → s1Z, set_cons_zero → s9Z, set_cons_succ → saZ
open Nat renaming le_refl → qnZ, zero_add → s8Z
open Option renaming map_some → rhZ
namespace Go.Proofs.YthafeihjlamhhaaGreatDoor
open _root_.Go.Proofs.Tryz renaming prog → Pz
set_option maxRecDepth 100000
section
open Go Go.Lib
end
section
open Go Go.Lib
attribute [-simp] drawOk_eq adraw qrun acode aops
def doInl:List FuncId:=[163,246,245]
theorem doΓ_ok:GOk Pz (runG Pz (gams []) 0 doInl 2):=gok_run hmix goks_nil 0 doInl 2
theorem do_cre_ct(f:FD)(k:List UInt8)(n:Int)(hg:NM.get f.now k=none)(hok:f.acts.length≤1000000) :
   Ct Pz 162 [.ptr 0 0,.str [99,114,101,97,116,101],.func 163 [] [.ptr 1 0,.ptr 2 0]] (.obj true f.blks::[boxA (.int .i64 n),boxA (.str k)]) (.int .i64 0) (.obj true (⟨f.d,f.acts++[.cre k n],f.last⟩:FD).blks::[boxA (.int .i64 n),boxA (.str k)]):=by
 have hΓ:=doΓ_ok;simp only[boxA];refine ct_of_sim Tryz.func162 rfl ?_;simp only[Tryz.ntmps162,q7Z,q8Z,Nat.reduceAdd,Nat.reduceSub,qbZ,q9Z,qaZ]
 refine Sim.aft (Aft.open (b:=0) rfl (by simp) (Aft.done (by simp[openH]) ?_))
 rw[open_fd];simp only[q7Z,q8Z,Nat.reduceAdd,s9Z,q9Z,qaZ]
 obtain⟨R,eR⟩:∃R,rowD (fun i=>3+3+i) 0 f.acts=R:=⟨_,rfl⟩
 simp only[Nat.reduceAdd]at eR;obtain⟨X,eX⟩:∃X,boxesD f.acts=X:=⟨_,rfl⟩;obtain⟨k0,ek⟩:∃k,f.acts.length=k:=⟨_,rfl⟩;obtain⟨q,eq⟩:∃q,nbD f.acts=q:=⟨_,rfl⟩
 have hR:R.length=k0*2:=by rw[←eR,←ek];simp
 have hX:X.length=q:=by rw[←eX,←eq,boxesD_length]
 rw[eR,eX,ek];rw[ek]at hok
 have b1:(k0+1)*24≤140737488355328:=by omega
 have b2:k0+1≤9223372036854775807:=by omega
 have tR:R.take (k0*2)=R:=q6Z (by omega)
 have hf:=find_ents k f.now 0;rw[hg]at hf;simp only[Option.map_none,s8Z]at hf;have hs:=ents_new n hg
 refine Sim.step hmix hΓ (n:=0) (by simp;exact⟨rfl,rfl⟩) (by simp) ?_
 refine Sim.step hmix hΓ (n:=0) (by simp[hX];exact⟨rfl,rfl⟩) (by simp) ?_
 refine Sim.step hmix hΓ (n:=0) (by simp +decide [appendC,appendC0,hX,hR,tR,b1,b2];first | exact⟨rfl,rfl⟩ | exact⟨by kernel_rfl,rfl,rfl⟩) (by simp) ?_
 refine Sim.seq (Sim.draw hmix (by simp) ?_)
 refine SimR.many hΓ 6 (by simp[stageOps];rfl) (by omega) (by kernel_rfl) (by simp +decide [hX];first | exact⟨rfl,rfl⟩ | exact⟨by kernel_rfl,rfl,rfl⟩) ?_
 refine SimR.one hΓ _ rfl (by kernel_rfl) (by simp +decide [hX,doInl,Tryz.f163,hf,hs];exact⟨rfl,rfl⟩) ?_
 refine SimR.done rfl ?_;dsimp only
 refine Sim.aft (Aft.closeFA f (.cre k n) f.last 0 3 4 (q+8) 6 [1,2] (y:=.slice (q+8) 0 (k0+1) 2 false) ?_ ?_ ?_ ?_ ?_ ?_ ?_ ?_ ?_ ?_ (by simp) ?_)
 · rfl
 · simp[AW,ek]
 · rfl
 · exact rfl
 · rw[eR,show q+8=(((((((X.length+2)+1)+1)+1)+1)+1)+1) by omega]
   simp[DAct.fn]
 · intro i B hB
   rw[eX]at hB;have h3:i<X.length:=(q1Z.1 hB).1
   rw[show 6+i=((((((i+1)+1)+1)+1)+1)+1) by omega]
   simp only[r9Z];rw[q4Z h3];exact hB
 · intro i c B h1 h2
   match i,h1,h2 with
   | 0,h1,h2=>cases h1;cases h2;rfl
   | 1,h1,h2=>cases h1;cases h2;rfl
 · rfl
 · simp <;> omega
 · intro c hc
   rw[eq];simp only[qwZ,rtZ,or_false]at hc;omega
 · refine Aft.weak (Fn:=qbZ 39 .top) (Hn:=[.obj true (⟨f.d,f.acts++[.cre k n],f.last⟩:FD).blks,.obj false [.cells true [.int .i64 n]],.obj false [.cells true [.str k]]]) (Weak.mk' [0,1,2] (by decide) (by decide) (AWs_tops _ _ _ rfl) (AWg_closed (b:=0) (by simp) _ _ rfl fun i c x h1 h2=>?_)) (by simp) (Aft.done (by simp) ?_)
   · match i,h1,h2 with
     | 0,h1,h2=>cases h1;cases h2;exact .inl ⟨rfl,rfl⟩
     | 1,h1,h2=>cases h1;cases h2;exact .inr ⟨⟨by simp,by simp⟩,⟨rfl,rfl⟩⟩
     | 2,h1,h2=>cases h1;cases h2;exact .inr ⟨⟨by simp,by simp⟩,⟨rfl,rfl⟩⟩
   refine Sim.exec hmix hΓ (n:=0) (by simp;exact⟨rfl,rfl,rfl⟩) (by simp) ?_
   exact⟨.inr rfl,_,by simp[Tryz.f162] <;> rfl,Weak.mk' [0,1,2] (by decide) (by decide) (by simp) (by simp[AWb])⟩
theorem do_ren_ct(f:FD)(a b:List UInt8)(n:Int)(hg:NM.get f.now a=some n)(hok:f.acts.length≤1000000) :
   Ct Pz 162 [.ptr 0 0,.str [114,101,110,97,109,101],.func 246 [] [.ptr 1 0,.ptr 2 0,.ptr 3 0]] (.obj true f.blks::[boxA (.str a),boxA (.int .i64 n),boxA (.str b)]) (.int .i64 0) (.obj true (⟨f.d,f.acts++[.ren a b n],f.last⟩:FD).blks::[boxA (.str a),boxA (.int .i64 n),boxA (.str b)]):=by
 have hΓ:=doΓ_ok;simp only[boxA];refine ct_of_sim Tryz.func162 rfl ?_;simp only[Tryz.ntmps162,q7Z,q8Z,Nat.reduceAdd,Nat.reduceSub,qbZ,q9Z,qaZ]
 refine Sim.aft (Aft.open (b:=0) rfl (by simp) (Aft.done (by simp[openH]) ?_))
 rw[open_fd];simp only[q7Z,q8Z,Nat.reduceAdd,s9Z,q9Z,qaZ]
 obtain⟨R,eR⟩:∃R,rowD (fun i=>4+3+i) 0 f.acts=R:=⟨_,rfl⟩
 simp only[Nat.reduceAdd]at eR;obtain⟨X,eX⟩:∃X,boxesD f.acts=X:=⟨_,rfl⟩;obtain⟨k0,ek⟩:∃k,f.acts.length=k:=⟨_,rfl⟩;obtain⟨q,eq⟩:∃q,nbD f.acts=q:=⟨_,rfl⟩
 have hR:R.length=k0*2:=by rw[←eR,←ek];simp
 have hX:X.length=q:=by rw[←eX,←eq,boxesD_length]
 rw[eR,eX,ek];rw[ek]at hok
 have b1:(k0+1)*24≤140737488355328:=by omega
 have b2:k0+1≤9223372036854775807:=by omega
 have tR:R.take (k0*2)=R:=q6Z (by omega)
 have hf:=find_ents a f.now 0;rw[hg]at hf;simp only[rhZ,s8Z]at hf;have hd:=ents_del hg
 refine Sim.step hmix hΓ (n:=0) (by simp;exact⟨rfl,rfl⟩) (by simp) ?_
 refine Sim.step hmix hΓ (n:=0) (by simp[hX];exact⟨rfl,rfl⟩) (by simp) ?_
 refine Sim.step hmix hΓ (n:=0) (by simp +decide [appendC,appendC0,hX,hR,tR,b1,b2];first | exact⟨rfl,rfl⟩ | exact⟨by kernel_rfl,rfl,rfl⟩) (by simp) ?_
 refine Sim.seq (Sim.draw hmix (by simp) ?_)
 refine SimR.many hΓ 6 (by simp[stageOps];rfl) (by omega) (by kernel_rfl) (by simp +decide [hX];first | exact⟨rfl,rfl⟩ | exact⟨by kernel_rfl,rfl,rfl⟩) ?_
 have hf2:=find_ents b (NM.del f.now a) 0
 cases hg2:NM.get (NM.del f.now a) b with
 | none =>
   rw[hg2]at hf2;simp only[Option.map_none,s8Z]at hf2;have hs2:=ents_new n hg2
   refine SimR.one hΓ _ rfl (by kernel_rfl) (by simp +decide [hX,doInl,mapDelA,Tryz.f246,hf,hd,hf2,hs2];exact⟨rfl,rfl⟩) ?_
   refine SimR.done rfl ?_;dsimp only
   refine Sim.aft (Aft.closeFA f (.ren a b n) f.last 0 4 5 (q+9) 7 [1,2,3] (y:=.slice (q+9) 0 (k0+1) 2 false) ?_ ?_ ?_ ?_ ?_ ?_ ?_ ?_ ?_ ?_ (by simp) ?_)
   · rfl
   · simp[AW,ek]
   · rfl
   · exact rfl
   · rw[eR,show q+9=((((((((X.length+2)+1)+1)+1)+1)+1)+1)+1) by omega]
     simp[DAct.fn]
   · intro i B hB
     rw[eX]at hB;have h3:i<X.length:=(q1Z.1 hB).1
     rw[show 7+i=(((((((i+1)+1)+1)+1)+1)+1)+1) by omega]
     simp only[r9Z];rw[q4Z h3];exact hB
   · intro i c B h1 h2
     match i,h1,h2 with
     | 0,h1,h2=>cases h1;cases h2;rfl
     | 1,h1,h2=>cases h1;cases h2;rfl
     | 2,h1,h2=>cases h1;cases h2;rfl
   · rfl
   · simp <;> omega
   · intro c hc
     rw[eq];simp only[qwZ,rtZ,or_false]at hc;omega
   · refine Aft.weak (Fn:=qbZ 39 .top) (Hn:=[.obj true (⟨f.d,f.acts++[.ren a b n],f.last⟩:FD).blks,.obj false [.cells true [.str a]],.obj false [.cells true [.int .i64 n]],.obj false [.cells true [.str b]]]) (Weak.mk' [0,1,2,3] (by decide) (by decide) (AWs_tops _ _ _ rfl) (AWg_closed (b:=0) (by simp) _ _ rfl fun i c x h1 h2=>?_)) (by simp) (Aft.done (by simp) ?_)
     · match i,h1,h2 with
       | 0,h1,h2=>cases h1;cases h2;exact .inl ⟨rfl,rfl⟩
       | 1,h1,h2=>cases h1;cases h2;exact .inr ⟨⟨by simp,by simp⟩,⟨rfl,rfl⟩⟩
       | 2,h1,h2=>cases h1;cases h2;exact .inr ⟨⟨by simp,by simp⟩,⟨rfl,rfl⟩⟩
       | 3,h1,h2=>cases h1;cases h2;exact .inr ⟨⟨by simp,by simp⟩,⟨rfl,rfl⟩⟩
     refine Sim.exec hmix hΓ (n:=0) (by simp;exact⟨rfl,rfl,rfl⟩) (by simp) ?_
     exact⟨.inr rfl,_,by simp[Tryz.f162] <;> rfl,Weak.mk' [0,1,2,3] (by decide) (by decide) (by simp) (by simp[AWb])⟩
 | some v =>
   rw[hg2]at hf2;simp only[rhZ,s8Z]at hf2;have hs2:=ents_set (v:=n) hg2
   refine SimR.one hΓ _ rfl (by kernel_rfl) (by simp +decide [hX,doInl,mapDelA,Tryz.f246,hf,hd,hf2,hs2];exact⟨rfl,rfl⟩) ?_
   refine SimR.done rfl ?_;dsimp only
   refine Sim.aft (Aft.closeFA f (.ren a b n) f.last 0 4 5 (q+9) 7 [1,2,3] (y:=.slice (q+9) 0 (k0+1) 2 false) ?_ ?_ ?_ ?_ ?_ ?_ ?_ ?_ ?_ ?_ (by simp) ?_)
   · rfl
   · simp[AW,ek]
   · rfl
   · exact rfl
   · rw[eR,show q+9=((((((((X.length+2)+1)+1)+1)+1)+1)+1)+1) by omega]
     simp[DAct.fn]
   · intro i B hB
     rw[eX]at hB;have h3:i<X.length:=(q1Z.1 hB).1
     rw[show 7+i=(((((((i+1)+1)+1)+1)+1)+1)+1) by omega]
     simp only[r9Z];rw[q4Z h3];exact hB
   · intro i c B h1 h2
     match i,h1,h2 with
     | 0,h1,h2=>cases h1;cases h2;rfl
     | 1,h1,h2=>cases h1;cases h2;rfl
     | 2,h1,h2=>cases h1;cases h2;rfl
   · rfl
   · simp <;> omega
   · intro c hc
     rw[eq];simp only[qwZ,rtZ,or_false]at hc;omega
   · refine Aft.weak (Fn:=qbZ 39 .top) (Hn:=[.obj true (⟨f.d,f.acts++[.ren a b n],f.last⟩:FD).blks,.obj false [.cells true [.str a]],.obj false [.cells true [.int .i64 n]],.obj false [.cells true [.str b]]]) (Weak.mk' [0,1,2,3] (by decide) (by decide) (AWs_tops _ _ _ rfl) (AWg_closed (b:=0) (by simp) _ _ rfl fun i c x h1 h2=>?_)) (by simp) (Aft.done (by simp) ?_)
     · match i,h1,h2 with
       | 0,h1,h2=>cases h1;cases h2;exact .inl ⟨rfl,rfl⟩
       | 1,h1,h2=>cases h1;cases h2;exact .inr ⟨⟨by simp,by simp⟩,⟨rfl,rfl⟩⟩
       | 2,h1,h2=>cases h1;cases h2;exact .inr ⟨⟨by simp,by simp⟩,⟨rfl,rfl⟩⟩
       | 3,h1,h2=>cases h1;cases h2;exact .inr ⟨⟨by simp,by simp⟩,⟨rfl,rfl⟩⟩
     refine Sim.exec hmix hΓ (n:=0) (by simp;exact⟨rfl,rfl,rfl⟩) (by simp) ?_
     exact⟨.inr rfl,_,by simp[Tryz.f162] <;> rfl,Weak.mk' [0,1,2,3] (by decide) (by decide) (by simp) (by simp[AWb])⟩
theorem do_rem_ct(f:FD)(k:List UInt8)(n:Int)(hg:NM.get f.now k=some n)(hok:f.acts.length≤1000000) :
   Ct Pz 162 [.ptr 0 0,.str [114,101,109,111,118,101],.func 245 [] [.ptr 1 0]] (.obj true f.blks::[boxA (.str k)]) (.int .i64 0) (.obj true (⟨f.d,f.acts++[.rem k],f.last⟩:FD).blks::[boxA (.str k)]):=by
 have hΓ:=doΓ_ok;simp only[boxA];refine ct_of_sim Tryz.func162 rfl ?_;simp only[Tryz.ntmps162,q7Z,q8Z,Nat.reduceAdd,Nat.reduceSub,qbZ,q9Z,qaZ]
 refine Sim.aft (Aft.open (b:=0) rfl (by simp) (Aft.done (by simp[openH]) ?_))
 rw[open_fd];simp only[q7Z,q8Z,Nat.reduceAdd,s9Z,q9Z,qaZ]
 obtain⟨R,eR⟩:∃R,rowD (fun i=>2+3+i) 0 f.acts=R:=⟨_,rfl⟩
 simp only[Nat.reduceAdd]at eR;obtain⟨X,eX⟩:∃X,boxesD f.acts=X:=⟨_,rfl⟩;obtain⟨k0,ek⟩:∃k,f.acts.length=k:=⟨_,rfl⟩;obtain⟨q,eq⟩:∃q,nbD f.acts=q:=⟨_,rfl⟩
 have hR:R.length=k0*2:=by rw[←eR,←ek];simp
 have hX:X.length=q:=by rw[←eX,←eq,boxesD_length]
 rw[eR,eX,ek];rw[ek]at hok
 have b1:(k0+1)*24≤140737488355328:=by omega
 have b2:k0+1≤9223372036854775807:=by omega
 have tR:R.take (k0*2)=R:=q6Z (by omega)
 have hf:=find_ents k f.now 0;rw[hg]at hf;simp only[rhZ,s8Z]at hf;have hd:=ents_del hg
 refine Sim.step hmix hΓ (n:=0) (by simp;exact⟨rfl,rfl⟩) (by simp) ?_
 refine Sim.step hmix hΓ (n:=0) (by simp[hX];exact⟨rfl,rfl⟩) (by simp) ?_
 refine Sim.step hmix hΓ (n:=0) (by simp +decide [appendC,appendC0,hX,hR,tR,b1,b2];first | exact⟨rfl,rfl⟩ | exact⟨by kernel_rfl,rfl,rfl⟩) (by simp) ?_
 refine Sim.seq (Sim.draw hmix (by simp) ?_)
 refine SimR.many hΓ 6 (by simp[stageOps];rfl) (by omega) (by kernel_rfl) (by simp +decide [hX];first | exact⟨rfl,rfl⟩ | exact⟨by kernel_rfl,rfl,rfl⟩) ?_
 refine SimR.one hΓ _ rfl (by kernel_rfl) (by simp +decide [hX,doInl,mapDelA,Tryz.f245,hf,hd];exact⟨rfl,rfl⟩) ?_
 refine SimR.done rfl ?_;dsimp only
 refine Sim.aft (Aft.closeFA f (.rem k) f.last 0 2 3 (q+7) 5 [1] (y:=.slice (q+7) 0 (k0+1) 2 false) ?_ ?_ ?_ ?_ ?_ ?_ ?_ ?_ ?_ ?_ (by simp) ?_)
 · rfl
 · simp[AW,ek]
 · rfl
 · exact rfl
 · rw[eR,show q+7=((((((X.length+2)+1)+1)+1)+1)+1) by omega]
   simp[DAct.fn]
 · intro i B hB
   rw[eX]at hB;have h3:i<X.length:=(q1Z.1 hB).1
   rw[show 5+i=(((((i+1)+1)+1)+1)+1) by omega]
   simp only[r9Z];rw[q4Z h3];exact hB
 · intro i c B h1 h2
   match i,h1,h2 with
   | 0,h1,h2=>cases h1;cases h2;rfl
 · rfl
 · simp <;> omega
 · intro c hc
   rw[eq];simp only[qwZ,rtZ,or_false]at hc;omega
 · refine Aft.weak (Fn:=qbZ 39 .top) (Hn:=[.obj true (⟨f.d,f.acts++[.rem k],f.last⟩:FD).blks,.obj false [.cells true [.str k]]]) (Weak.mk' [0,1] (by decide) (by decide) (AWs_tops _ _ _ rfl) (AWg_closed (b:=0) (by simp) _ _ rfl fun i c x h1 h2=>?_)) (by simp) (Aft.done (by simp) ?_)
   · match i,h1,h2 with
     | 0,h1,h2=>cases h1;cases h2;exact .inl ⟨rfl,rfl⟩
     | 1,h1,h2=>cases h1;cases h2;exact .inr ⟨⟨by simp,by simp⟩,⟨rfl,rfl⟩⟩
   refine Sim.exec hmix hΓ (n:=0) (by simp;exact⟨rfl,rfl,rfl⟩) (by simp) ?_
   exact⟨.inr rfl,_,by simp[Tryz.f162] <;> rfl,Weak.mk' [0,1] (by decide) (by decide) (by simp) (by simp[AWb])⟩
end
section
open Go Go.Lib
attribute [-simp] drawOk_eq adraw qrun acode aops
theorem Aft.closeFS{n0:Nat}{F:List AV}{H:AHeap}{K:List AV→AHeap→Prop}(f:FD)(b L:Nat)
   (hb:H[b]?=some (.cells true [.map L,.map (L+1),.sl (L+2) 0 f.acts.length 2 false,.int .i64 f.last]))
   (h1:H[L]?=some (.map (entsA f.d))) (h2:H[L+1]?=some (.map (entsA f.now))) (hr:H[L+2]?=some (.cells true (rowD (fun i=>L+3+i) 0 f.acts)))
   (hX:∀(i:Nat) (B:ABlk),(boxesD f.acts)[i]?=some B→H[L+3+i]?=some B) (hbL:b<L) (hn:n0≤H.length) (h:Aft n0 F (closeH H b [L,L+1,L+2] true f.blks) K):Aft n0 F H K:=by
 refine Aft.closeFD f b L (L+1) (L+2) (List.range' (L+3) (nbD f.acts)) (fun i=>L+3+i) (x:=.sl (L+2) 0 f.acts.length 2 false) (o:=true) hb ?_ h1 h2 (fun _=>hr) (by simp) ?_ ?_ ?_ hn h
 · simp[AW]
 · intro i hi
   rw[List.getElem?_range' hi];simp
 · intro i k B e1 e2
   have hi:i<nbD f.acts:=by rw[←boxesD_length];exact (q1Z.1 e2).1
   rw[List.getElem?_range' hi]at e1;simp only[Nat.one_mul,Option.some.injEq]at e1;subst e1;exact hX i B e2
 · simp only[rdZ,qwZ,List.mem_range'_1,not_or]
   exact⟨by omega,by omega,by omega,by omega,List.nodup_range'⟩
def creW:List UInt8:=[99,114,101,97,116,101]
def renW:List UInt8:=[114,101,110,97,109,101]
def remW:List UInt8:=[114,101,109,111,118,101]
def capOf(H:AHeap)(c:Nat):Option AV:=match H[c]? with
 | some (.obj false [.cells true [x]])=>some x
 | _=>none
theorem capOf_eq{H:AHeap}{c:Nat}{x:AV}(h:capOf H c=some x):H[c]?=some (boxA x):=by
 unfold capOf at h;split at h
 · rename_i hc
   cases h;exact hc
 · cases h
noncomputable section
open Classical
def doS:Summ:=fun args H=>match args with
 | [.ptr b 0,.str w,.func F [] [.ptr c1 0]]=>match H[b]?,capOf H c1 with
   | some (.obj true sub),some (.str k)=>match fdOf sub with
     | some f=>if F=245∧w=remW∧(∃n,NM.get f.now k=some n)∧f.acts.length≤1000000∧b≠c1 then some (.int .i64 0,H.set b (.obj true (⟨f.d,f.acts++[.rem k],f.last⟩:FD).blks),[b]) else none
     | none=>none
   | _,_=>none
 | [.ptr b 0,.str w,.func F [] [.ptr c1 0,.ptr c2 0]]=>match H[b]?,capOf H c1,capOf H c2 with
   | some (.obj true sub),some (.int .i64 n),some (.str k)=>match fdOf sub with
     | some f=>if F=163∧w=creW∧NM.get f.now k=none∧f.acts.length≤1000000∧b≠c1∧b≠c2∧c1≠c2 then some (.int .i64 0,H.set b (.obj true (⟨f.d,f.acts++[.cre k n],f.last⟩:FD).blks),[b]) else none
     | none=>none
   | _,_,_=>none
 | [.ptr b 0,.str w,.func F [] [.ptr c1 0,.ptr c2 0,.ptr c3 0]]=>match H[b]?,capOf H c1,capOf H c2,capOf H c3 with
   | some (.obj true sub),some (.str x),some (.int .i64 n),some (.str y)=>match fdOf sub with
     | some f=>if F=246∧w=renW∧NM.get f.now x=some n∧f.acts.length≤1000000∧b≠c1∧b≠c2∧b≠c3∧c1≠c2∧c1≠c3∧c2≠c3 then some (.int .i64 0,H.set b (.obj true (⟨f.d,f.acts++[.ren x y n],f.last⟩:FD).blks),[b]) else none
     | none=>none
   | _,_,_,_=>none
 | _=>none
theorem do_sound:Sound Pz 162 doS:=by
 have key:∀args H v H' W,doS args H=some (v,H',W)→∃b B,W=[b]∧H'=H.set b B∧Ct Pz 162 args H v H':=by
   intro args H v H' W hs;unfold doS at hs;split at hs
   · rename_i b w F c1
     split at hs <;> try cases hs
     rename_i sub k hb hc1
     split at hs <;> try cases hs
     rename_i f hf
     split at hs <;> cases hs
     rename_i hc;obtain⟨rfl,rfl,⟨n,hg⟩,hk,hn1⟩:=hc;have e:=fdOf_eq hf;subst e;have q1:=capOf_eq hc1;have hbl:b<H.length:=(q1Z.1 hb).1;have l1:c1<H.length:=(q1Z.1 q1).1;refine ⟨b,_,rfl,rfl,?_⟩
     have:=ct_frame (H:=H) (args:=[.ptr b 0,.str remW,.func 245 [] [.ptr c1 0]]) (do_rem_ct f k n hg hk) [b,c1] (by simp[hn1]) ⟨⟨rfl,rfl⟩,rfl,⟨rfl,trivial,⟨rfl,rfl⟩,trivial⟩,trivial⟩
       ⟨by rw[q2Z,hb];exact⟨rfl,rfl⟩,hbl,by rw[q2Z,q1];exact⟨rfl,rfl⟩,l1,trivial⟩ rfl
     simpa[setOwn,ABlk.own,reB,reA,boxA] using this
   · rename_i b w F c1 c2
     split at hs <;> try cases hs
     rename_i sub n k hb hc1 hc2
     split at hs <;> try cases hs
     rename_i f hf
     split at hs <;> cases hs
     rename_i hc;obtain⟨rfl,rfl,hg,hk,hn1,hn2,hn3⟩:=hc;have e:=fdOf_eq hf;subst e;have q1:=capOf_eq hc1;have q2:=capOf_eq hc2;have hbl:b<H.length:=(q1Z.1 hb).1;have l1:c1<H.length:=(q1Z.1 q1).1;have l2:c2<H.length:=(q1Z.1 q2).1;refine ⟨b,_,rfl,rfl,?_⟩
     have:=ct_frame (H:=H) (args:=[.ptr b 0,.str creW,.func 163 [] [.ptr c1 0,.ptr c2 0]]) (do_cre_ct f k n hg hk) [b,c1,c2] (by simp[hn1,hn2,hn3]) ⟨⟨rfl,rfl⟩,rfl,⟨rfl,trivial,⟨rfl,rfl⟩,⟨rfl,rfl⟩,trivial⟩,trivial⟩
       ⟨by rw[q2Z,hb];exact⟨rfl,rfl⟩,hbl,by rw[q2Z,q1];exact⟨rfl,rfl⟩,l1,by rw[q2Z,q2];exact⟨rfl,rfl⟩,l2,trivial⟩ rfl
     simpa[setOwn,ABlk.own,reB,reA,boxA] using this
   · rename_i b w F c1 c2 c3
     split at hs <;> try cases hs
     rename_i sub x n y hb hc1 hc2 hc3
     split at hs <;> try cases hs
     rename_i f hf
     split at hs <;> cases hs
     rename_i hc;obtain⟨rfl,rfl,hg,hk,hn1,hn2,hn3,hn4,hn5,hn6⟩:=hc;have e:=fdOf_eq hf;subst e;have q1:=capOf_eq hc1;have q2:=capOf_eq hc2;have q3:=capOf_eq hc3;have hbl:b<H.length:=(q1Z.1 hb).1;have l1:c1<H.length:=(q1Z.1 q1).1;have l2:c2<H.length:=(q1Z.1 q2).1;have l3:c3<H.length:=(q1Z.1 q3).1;refine ⟨b,_,rfl,rfl,?_⟩
     have:=ct_frame (H:=H) (args:=[.ptr b 0,.str renW,.func 246 [] [.ptr c1 0,.ptr c2 0,.ptr c3 0]]) (do_ren_ct f x y n hg hk) [b,c1,c2,c3] (by simp[hn1,hn2,hn3,hn4,hn5,hn6]) ⟨⟨rfl,rfl⟩,rfl,⟨rfl,trivial,⟨rfl,rfl⟩,⟨rfl,rfl⟩,⟨rfl,rfl⟩,trivial⟩,trivial⟩
       ⟨by rw[q2Z,hb];exact⟨rfl,rfl⟩,hbl,by rw[q2Z,q1];exact⟨rfl,rfl⟩,l1,by rw[q2Z,q2];exact⟨rfl,rfl⟩,l2,by rw[q2Z,q3];exact⟨rfl,rfl⟩,l3,trivial⟩ rfl
     simpa[setOwn,ABlk.own,reB,reA,boxA] using this
   · cases hs
 refine ⟨enter_of Tryz.func162 rfl (by decide),fun args H v H' W hs=>?_,fun args H v H' W hs=>?_⟩
 · obtain⟨b,B,rfl,rfl,h⟩:=key args H v H' W hs
   exact h
 · obtain⟨b,B,rfl,rfl,h⟩:=key args H v H' W hs
   refine ⟨by simp,fun c hc hn=>?_⟩
   rw[qfZ (fun e=>hn (by simp[e]))]
end
def fmInl:List FuncId:=[161]
noncomputable def fmΓ0:Gam:=gams [(162,doS)]
theorem fmΓ_ok:GOk Pz (runG Pz fmΓ0 0 fmInl 2):=gok_run hmix (goks_cons do_sound goks_nil) 0 fmInl 2
end
section
open Go Go.Lib
attribute [-simp] drawOk_eq adraw qrun acode aops
theorem new_ct:Ct Pz 94 [] [] (.ptr 0 0) [.obj true FD.new.blks]:=by
 refine ct_of_sim Tryz.func94 rfl ?_;simp only[Tryz.ntmps94,q8Z,Nat.reduceSub,qbZ,qaZ]
 refine Sim.step hmix goks_nil (n:=0) (by simp;exact⟨rfl,rfl⟩) (by simp) ?_
 refine Sim.step hmix goks_nil (n:=0) (by simp;exact⟨rfl,rfl⟩) (by simp) ?_
 refine Sim.aft (Aft.closeFD FD.new 2 0 1 3 [] (fun i=>i) (x:=.nils) (o:=true) rfl rfl rfl rfl (fun h=>absurd h (by decide)) rfl (fun i hi=>absurd hi (by simp[FD.new,nbD])) (fun i k B h=>by simp at h) (by decide) (by simp) ?_)
 refine Aft.weak (Fn:=[.ptr 0 0]++qbZ 4 .top) (Hn:=[.obj true FD.new.blks]) (Weak.mk' [2] (by decide) (by decide) (by simp) (AWg_closed (b:=2) (by simp) _ _ rfl fun i c x h1 h2=>?_)) (by simp) (Aft.done (by simp) ?_)
 · match i,h1,h2 with
   | 0,h1,h2=>cases h1;cases h2;exact .inl ⟨rfl,rfl⟩
 refine Sim.exec hmix goks_nil (n:=0) (by simp;exact⟨rfl,rfl,rfl⟩) (by simp) ?_
 exact⟨.inr rfl,_,by simp[Tryz.f94] <;> rfl,Weak.mk' [0] (by decide) (by decide) (by simp) (by simp[AWb])⟩
def FD.find(f:FD)(k:List UInt8):Int×Bool:=match f.now.get k with
 | some v=>(v,true)
 | none=>(0,false)
theorem closeF1(f:FD){n0:Nat}{F:List AV}{K:List AV→AHeap→Prop}(hn:n0≤1)(h:Aft n0 F [.obj true f.blks] K)(hF:∀rn:List Nat,AWs rn F F) :
   Aft n0 F (.cells true [.map 1,.map 2,.sl 3 0 f.acts.length 2 false,.int .i64 f.last]::.map (entsA f.d)::.map (entsA f.now)::.cells true (rowD (fun i=>1+3+i) 0 f.acts)::boxesD f.acts) K:=by
 refine Aft.closeFS f 0 1 rfl rfl rfl rfl (fun i B hB=>?_) (by decide) (by simp;omega) ?_
 · rw[show 1+3+i=i+1+1+1+1 by omega]
   simp only[r9Z];exact hB
 refine Aft.weak (Fn:=F) (Hn:=[.obj true f.blks]) ?_ (by simp;omega) h
 by_cases h0:n0=0
 · subst h0
   exact Weak.mk' [0] (by decide) (by decide) (hF _) (AWg_closed (b:=0) (by simp) _ _ rfl fun i c x h1 h2=>by
     match i,h1,h2 with
     | 0,h1,h2=>cases h1;cases h2;exact .inl ⟨rfl,rfl⟩)
 · have:n0=1:=by omega
   subst this
   exact Weak.mk' [0] (by decide) (by decide) (hF _) (AWg_closed (b:=0) (by simp) _ _ rfl fun i c x h1 h2=>by
     match i,h1,h2 with
     | 0,h1,h2=>cases h1;cases h2;exact .inl ⟨rfl,rfl⟩)
theorem find_ct(f:FD)(k:List UInt8):Ct Pz 103 [.ptr 0 0,.str k] [.obj true f.blks] (.tuple [.int .i64 (f.find k).1,.bool (f.find k).2]) [.obj true f.blks]:=by
 refine ct_of_sim Tryz.func103 rfl ?_;simp only[Tryz.ntmps103,q7Z,q8Z,Nat.reduceAdd,Nat.reduceSub,qbZ,q9Z,qaZ]
 refine Sim.aft (Aft.open (b:=0) rfl (by simp) (Aft.done (by simp[openH]) ?_))
 rw[open_fd];simp only[q7Z,q8Z,Nat.reduceAdd,s9Z,q9Z,qaZ]
 obtain⟨R,eR⟩:∃R,rowD (fun i=>4+i) 0 f.acts=R:=⟨_,rfl⟩
 obtain⟨X,eX⟩:∃X,boxesD f.acts=X:=⟨_,rfl⟩;rw[eX]
 refine Sim.step hmix goks_nil (n:=0) (by simp;exact⟨rfl,rfl⟩) (by simp) ?_
 refine Sim.step hmix goks_nil (n:=0) (by simp;exact⟨rfl,rfl⟩) (by simp) ?_
 have hf:=find_ents k f.now 0;obtain⟨v,is,hv⟩:∃v is,f.find k=(v,is):=⟨_,_,rfl⟩;rw[hv]
 refine Sim.seq (Sim.mono (Q:=fun e F' H'=>e=.normal∧LessF ([.top,.top,.top,.top,.int .i64 0,.bool false,.int .i64 v,.bool is]++qbZ 13 .top) F'∧H'=.cells true [.map 1,.map 2,.sl 3 0 f.acts.length 2 false,.int .i64 f.last]::.map (entsA f.d)::.map (entsA f.now)::.cells true (rowD (fun i=>1+3+i) 0 f.acts)::X) ?_ ?_)
 · unfold FD.find at hv
   cases hg:NM.get f.now k with
   | none =>
     rw[hg]at hf hv;cases hv;simp only[Option.map_none,s8Z]at hf
     refine Sim.exec hmix goks_nil (n:=0) (by simp +decide [hf];exact⟨rfl,rfl,rfl⟩) (by simp) ?_
     exact⟨rfl,by simp,rfl⟩
   | some u =>
     rw[hg]at hf hv;cases hv;simp only[rhZ,s8Z]at hf
     refine Sim.exec hmix goks_nil (n:=0) (by simp +decide [hf];exact⟨rfl,rfl,rfl⟩) (by simp) ?_
     exact⟨rfl,by simp,rfl⟩
 rintro e F' H' hlen ⟨rfl,hF,rfl⟩;dsimp only;refine Sim.less hF ?_;rw[←eX]
 refine Sim.aft (closeF1 f (by decide) (Aft.done (by simp) ?_) (by simp))
 refine Sim.exec hmix goks_nil (n:=0) (by simp;exact⟨rfl,rfl,rfl⟩) (by simp) ?_
 exact⟨.inr rfl,_,by simp[Tryz.f103] <;> rfl,Weak.mk' [0] (by decide) (by decide) (by simp) (by simp[AWb])⟩
theorem pending_ct(f:FD):Ct Pz 164 [.ptr 0 0] [.obj true f.blks] (.int .i64 f.acts.length) [.obj true f.blks]:=by
 refine ct_of_sim Tryz.func164 rfl ?_;simp only[Tryz.ntmps164,q7Z,q8Z,Nat.reduceAdd,Nat.reduceSub,qbZ,q9Z,qaZ]
 refine Sim.aft (Aft.open (b:=0) rfl (by simp) (Aft.done (by simp[openH]) ?_))
 rw[open_fd];simp only[q7Z,q8Z,Nat.reduceAdd,s9Z,q9Z,qaZ];obtain⟨X,eX⟩:∃X,boxesD f.acts=X:=⟨_,rfl⟩;rw[eX]
 refine Sim.step hmix goks_nil (n:=0) (by simp;exact⟨rfl,rfl⟩) (by simp) ?_
 refine Sim.step hmix goks_nil (n:=0) (by simp;exact⟨rfl,rfl⟩) (by simp) ?_
 refine Sim.step hmix goks_nil (n:=0) (by simp;exact⟨rfl,rfl⟩) (by simp) ?_
 refine Sim.less (Fn:=[.top,.top,.int .i64 f.acts.length]++qbZ 7 .top) (by simp) ?_
 rw[←eX]
 refine Sim.aft (closeF1 f (by decide) (Aft.done (by simp) ?_) (by simp))
 refine Sim.exec hmix goks_nil (n:=0) (by simp;exact⟨rfl,rfl,rfl⟩) (by simp) ?_
 exact⟨.inr rfl,_,by simp[Tryz.f164] <;> rfl,Weak.mk' [0] (by decide) (by decide) (by simp) (by simp[AWb])⟩
end
section
open Go Go.Lib
abbrev FS:=List (Int×PF)
def FS.keys(l:FS):List Int:=l.map (·.1)
def FS.get:FS→Int→Option PF
 | [],_=>none
 | e::l,n=>if e.1=n then some e.2 else FS.get l n
def FS.upd:FS→Int→(PF→PF)→FS
 | [],_,_=>[]
 | e::l,n,g=>if e.1=n then (n,g e.2)::l else e::FS.upd l n g
def FS.at(l:FS)(n:Int):Nat:=(FS.keys l).idxOf n
theorem FS.get_none{l:FS}{n:Int}:FS.get l n=none↔n∉FS.keys l:=by
 induction l with
 | nil=>simp[FS.get,FS.keys]
 | cons e l ih =>
   unfold FS.get;simp only[FS.keys,s1Z,qwZ,not_or]at ih ⊢;split
   · rename_i h;simp[h]
   · rename_i h;rw[ih];simp[Ne.symm h]
theorem FS.get_some{l:FS}{n:Int}:(∃f,FS.get l n=some f)↔n∈FS.keys l:=by
 cases h:FS.get l n with
 | none=>simp[FS.get_none.1 h]
 | some v =>
   have:n∈FS.keys l:=by
     apply Classical.byContradiction;intro hn
     rw[FS.get_none.2 hn]at h;cases h
   simp[this]
theorem FS.get_mem:∀{l:FS} {n:Int} {f:PF},FS.get l n=some f→(n,f)∈l
 | e::l,n,f,h=>by
   unfold FS.get at h;split at h
   · rename_i hk
     cases h;subst hk;exact qhZ ..
   · exact qiZ _ (FS.get_mem h)
theorem FS.keys_upd(l:FS)(n:Int)(g:PF→PF):FS.keys (FS.upd l n g)=FS.keys l:=by
 induction l with
 | nil=>rfl
 | cons e l ih =>
   unfold FS.upd;split
   · rename_i h;simp[FS.keys,h]
   · simp only[FS.keys,s1Z]at ih ⊢;rw[ih]
theorem FS.get_upd(l:FS)(n m:Int)(g:PF→PF):FS.get (FS.upd l n g) m=if m=n then (FS.get l n).map g else FS.get l m:=by
 induction l with
 | nil=>simp[FS.upd,FS.get]
 | cons e l ih =>
   unfold FS.upd;split
   · rename_i h
     subst h;unfold FS.get;by_cases hk:m=e.1
     · simp[hk]
     · rw[if_neg hk,if_neg (Ne.symm hk),if_neg (Ne.symm hk)]
   · rename_i h
     unfold FS.get;rw[ih];by_cases hk:e.1=m
     · rw[if_pos hk,if_pos hk,if_neg (by rintro rfl;exact h hk)]
     · rw[if_neg hk,if_neg hk,if_neg h]
theorem FS.mem_upd{l:FS}{n:Int}{g:PF→PF}{e:Int×PF}(h:e∈FS.upd l n g):e∈l∨∃f,(n,f)∈l∧e=(n,g f):=by
 induction l with
 | nil=>cases h
 | cons x l ih =>
   unfold FS.upd at h;split at h
   · rename_i hk
     rcases qwZ.1 h with rfl | h
     · exact .inr ⟨x.2,by rw[←hk];exact qhZ ..,rfl⟩
     · exact .inl (qiZ _ h)
   · rcases qwZ.1 h with rfl | h
     · exact .inl (qhZ ..)
     · rcases ih h with h | ⟨f,h1,h2⟩
       · exact .inl (qiZ _ h)
       · exact .inr ⟨f,qiZ _ h1,h2⟩
theorem FS.get_app(l:FS)(n m:Int)(f:PF):FS.get (l++[(n,f)]) m=match FS.get l m with | some x=>some x | none=>if n=m then some f else none:=by
 induction l with
 | nil=>rfl
 | cons e l ih =>
   rw[q9Z];unfold FS.get;split
   · rfl
   · exact ih
theorem FS.at_lt{l:FS}{n:Int}{f:PF}(h:FS.get l n=some f):FS.at l n<l.length:=by
 have:n∈FS.keys l:=FS.get_some.1 ⟨f,h⟩;have:=List.idxOf_lt_length_of_mem this;simpa[FS.at,FS.keys] using this
theorem FS.at_get:∀{l:FS} {n:Int} {f:PF},FS.get l n=some f→l[FS.at l n]?=some (n,f)
 | e::l,n,f,h=>by
   unfold FS.get at h;split at h
   · rename_i hk;subst hk;cases h;simp[FS.at,FS.keys]
   · rename_i hk
     have ih:=FS.at_get h
     have h3:(e.1==n)=false:=by simpa using hk
     simp only[FS.at,FS.keys,s1Z]at ih ⊢;rw[List.idxOf_cons,h3];simpa using ih
theorem FS.upd_set:∀{l:FS} {n:Int} {f:PF} (g:PF→PF),FS.get l n=some f→FS.upd l n g=l.set (FS.at l n) (n,g f)
 | e::l,n,f,g,h=>by
   unfold FS.get at h;unfold FS.upd;split at h
   · rename_i hk;subst hk;cases h;simp[FS.at,FS.keys]
   · rename_i hk
     have ih:=FS.upd_set g h
     have h3:(e.1==n)=false:=by simpa using hk
     simp only[FS.at,FS.keys,s1Z]at ih ⊢;rw[if_neg hk,List.idxOf_cons,h3];simp only[cond_false,saZ,ih]
structure DS where
 fd:FD
 fs:FS
 quota:Int
 steps:Int
 armed:Int
 down:Bool
def DS.new(q:Int):DS:=⟨FD.new,[],q,0,0,false⟩
def DS.count(d:DS):DS :=
 if 0<d.armed∧d.down=false then ⟨d.fd,d.fs,d.quota,d.steps+1,d.armed-1,decide (d.armed-1=0)⟩
 else ⟨d.fd,d.fs,d.quota,d.steps+1,d.armed,d.down⟩
def DS.step(d:DS)(g:DS→DS×Int):DS×Int:=if d.count.down then (d.count,13) else g d.count
def DS.list(d:DS):List (List UInt8):=if d.down then [] else d.fd.names
def DS.create(d:DS)(k:List UInt8):DS×Int:=d.step fun d =>
 if (d.fd.create k).2.2=0 then (⟨(d.fd.create k).1,d.fs++[((d.fd.create k).2.1,⟨[],[]⟩)],d.quota,d.steps,d.armed,d.down⟩,0)
 else (⟨(d.fd.create k).1,d.fs,d.quota,d.steps,d.armed,d.down⟩,(d.fd.create k).2.2)
def DS.of(d:DS)(k:List UInt8)(g:DS→PF→PF×Int):DS×Int:=d.step fun d =>
 match d.fd.now.get k with
 | none=>(d,9)
 | some n=>match FS.get d.fs n with
   | none=>(d,1)
   | some f=>(⟨d.fd,FS.upd d.fs n fun _=>(g d f).1,d.quota,d.steps,d.armed,d.down⟩,(g d f).2)
def DS.syncDir(d:DS):DS×Int:=d.step fun d=>(⟨d.fd.survive d.fd.acts.length,d.fs,d.quota,d.steps,d.armed,d.down⟩,0)
def DS.remove(d:DS)(a:List UInt8):DS×Int:=d.step fun d=>(⟨(d.fd.remove a).1,d.fs,d.quota,d.steps,d.armed,d.down⟩,(d.fd.remove a).2)
def DS.arm(d:DS)(n:Int):DS:=⟨d.fd,d.fs,d.quota,d.steps,max 0 n,d.down⟩
def DS.size(d:DS)(k:List UInt8):Int×Int:=if d.down then (0,13) else match d.fd.now.get k with
 | none=>(0,9)
 | some m=>match FS.get d.fs m with
   | none=>(0,0)
   | some f=>(f.now.length,0)
def stay1(fd:FD)(s:List Int×FS×List Int)(k:List UInt8):List Int×FS×List Int :=
 (s.1.tail.tail,FS.upd s.2.1 (fd.find k).1 (fun f=>⟨f.stays (s.1.headD 0) (s.1.tail.headD 0),[]⟩),if (fd.find k).1∈s.2.2 then s.2.2 else s.2.2++[(fd.find k).1])
def thereF(fs:FS)(th:List Int):FS:=th.map fun n=>(n,(FS.get fs n).getD ⟨[],[]⟩)
def stayAll(fd:FD)(l:List Int)(fs:FS)(ks:List (List UInt8)):List Int×FS×List Int:=ks.foldl (stay1 fd) (l,fs,[])
def DS.restart(d:DS)(l:List Int):DS :=
 ⟨d.fd.survive (l.headD 0),thereF (stayAll (d.fd.survive (l.headD 0)) l.tail d.fs (d.fd.survive (l.headD 0)).names).2.1 (stayAll (d.fd.survive (l.headD 0)) l.tail d.fs (d.fd.survive (l.headD 0)).names).2.2,d.quota,d.steps,0,false⟩
def hasP(fs:FS)(l:NM)(_:Int):Prop:=∀k n,NM.get l k=some n→n∈FS.keys fs
structure DS.ok (d:DS) (A B:Nat):Prop where
 fd:d.fd.ok A
 num:d.fd.numOk
 has:d.fd.each (hasP d.fs)
 rng:∀n∈FS.keys d.fs,1≤n∧n≤d.fd.last
 nd:(FS.keys d.fs).Nodup
 fine:∀e∈d.fs,e.2.ok B
 len:d.fs.length≤A
 q0:0≤d.quota
 q1:d.quota≤4611686018427387903
 s0:0≤d.steps
 s1:d.steps≤A
 a0:0≤d.armed
 a1:d.armed≤4611686018427387903
theorem DS.ok_new(q:Int)(h0:0≤q)(h1:q≤4611686018427387903):(DS.new q).ok 0 0 :=
 ⟨FD.ok_new,FD.numOk_new,fun i _ k n h=>by simp[DS.new,FD.new,druns,NM.get]at h,(fun n h=>by simp[DS.new,FS.keys]at h),List.nodup_nil,(fun e h=>by simp[DS.new]at h),qnZ _,h0,h1,Int.le_refl _,Int.le_refl _,Int.le_refl _,by simp[DS.new]⟩
theorem DS.ok_mono{d:DS}{A B A' B':Nat}(h:d.ok A B)(ha:A≤A')(hb:B≤B'):d.ok A' B' :=
 ⟨FD.ok_mono h.fd ha,h.num,h.has,h.rng,h.nd,fun e he=>PF.ok_mono (h.fine e he) hb,by have:=h.len;omega,h.q0,h.q1,h.s0,by have:=h.s1;omega,h.a0,h.a1⟩
theorem DS.ok_count{d:DS}{A B:Nat}(h:d.ok A B):d.count.ok (A+1) B:=by
 have h1:=h.s0;have h2:=h.s1;have h3:=h.a0;have h4:=h.a1;have h5:=h.len;unfold DS.count;split
 · exact⟨FD.ok_mono h.fd (by omega),h.num,h.has,h.rng,h.nd,h.fine,by dsimp only;omega,h.q0,h.q1,by dsimp only;omega,by dsimp only;omega,by dsimp only;omega,by dsimp only;omega⟩
 · exact⟨FD.ok_mono h.fd (by omega),h.num,h.has,h.rng,h.nd,h.fine,by dsimp only;omega,h.q0,h.q1,by dsimp only;omega,by dsimp only;omega,h3,h4⟩
theorem DS.has_file{d:DS}{A B:Nat}(h:d.ok A B){k:List UInt8}{n:Int}(hk:d.fd.now.get k=some n):∃f,FS.get d.fs n=some f∧f.ok B:=by
 obtain⟨f,hf⟩:=FS.get_some.2 (FD.each_now h.has k n hk);exact⟨f,hf,h.fine _ (FS.get_mem hf)⟩
@[simp] theorem DS.count_fd(d:DS):d.count.fd=d.fd:=by unfold DS.count;split <;> rfl
@[simp] theorem DS.count_fs(d:DS):d.count.fs=d.fs:=by unfold DS.count;split <;> rfl
@[simp] theorem DS.count_quota(d:DS):d.count.quota=d.quota:=by unfold DS.count;split <;> rfl
@[simp] theorem DS.count_steps(d:DS):d.count.steps=d.steps+1:=by unfold DS.count;split <;> rfl
theorem each_imp{f:FD}{p q:NM→Int→Prop}(h:f.each p)(hpq:∀l n,p l n→q l n):f.each q:=fun i hi=>hpq _ _ (h i hi)
theorem hasP_mono{fs gs:FS}(h:∀n∈FS.keys fs,n∈FS.keys gs):∀l n,hasP fs l n→hasP gs l n:=fun _ _ hp k n hk=>h n (hp k n hk)
theorem DS.ok_fd{d:DS}{A B:Nat}(h:d.ok A B){f:FD}(h1:f.ok (A+1))(h2:f.numOk)(h3:f.each (hasP d.fs))(h4:d.fd.last≤f.last):(⟨f,d.fs,d.quota,d.steps,d.armed,d.down⟩:DS).ok (A+1) B :=
 ⟨h1,h2,h3,fun n hn=>by have:=h.rng n hn;dsimp only;omega,h.nd,h.fine,by have:=h.len;dsimp only;omega,h.q0,h.q1,h.s0,by have:=h.s1;dsimp only;omega,h.a0,h.a1⟩
theorem DS.ok_fs{d:DS}{A B C:Nat}(h:d.ok A B)(n:Int)(g:PF→PF)(hg:∀f,(n,f)∈d.fs→(g f).ok C)(hBC:B≤C):(⟨d.fd,FS.upd d.fs n g,d.quota,d.steps,d.armed,d.down⟩:DS).ok A C:=by
 refine ⟨h.fd,h.num,each_imp h.has (hasP_mono fun m hm=>by dsimp only;rw[FS.keys_upd];exact hm),(fun m hm=>h.rng m (by dsimp only at hm;rw[FS.keys_upd]at hm;exact hm)),(by dsimp only;rw[FS.keys_upd];exact h.nd),fun e he=>?_,?_,h.q0,h.q1,h.s0,h.s1,h.a0,h.a1⟩
 · rcases FS.mem_upd he with he | ⟨f,h1,rfl⟩
   · exact PF.ok_mono (h.fine e he) hBC
   · exact hg f h1
 · have:=congrArg List.length (FS.keys_upd d.fs n g)
   simp only[FS.keys,r7Z]at this;have:=h.len
   dsimp only;omega
theorem DS.ok_create{d:DS}{A B:Nat}(h:d.ok A B)(k:List UInt8):(d.create k).1.ok (A+2) B:=by
 have hc:=DS.ok_count h;unfold DS.create DS.step;split
 · exact DS.ok_mono hc (by omega) (qnZ _)
 · generalize d.count=d at hc
   have h1:=FD.ok_create hc.fd k;have h2:=FD.numOk_create hc.num k;dsimp only;unfold FD.create at h1 h2 ⊢;split
   · rename_i hm
     cases hg:d.fd.now.get k with
     | some n =>
       simp only
       rw[if_neg (by decide)]
       exact DS.ok_mono hc (by omega) (qnZ _)
     | none =>
       simp only[hg,if_pos hm]at h1 h2 ⊢;rw[if_pos trivial]
       refine ⟨h1,h2,?_,?_,?_,fun e he=>?_,?_,hc.q0,hc.q1,hc.s0,?_,hc.a0,hc.a1⟩
       · have hk:∀n∈FS.keys d.fs,n∈FS.keys (d.fs++[(d.fd.last+1,(⟨[],[]⟩:PF))]):=fun n hn=>by simp only[FS.keys,roZ,qxZ]at hn ⊢;exact .inl hn
         refine FD.each_one (f:=d.fd) (each_imp hc.has (hasP_mono hk)) (fun l a b _ hl=>hl) _ rfl rfl (by dsimp only;omega) ?_
         intro k' n hn;simp only[DAct.run]at hn;rw[NM.get_put]at hn;split at hn
         · cases hn;simp[FS.keys]
         · exact hk n (FD.each_now hc.has k' n hn)
       · intro n hn
         simp only[FS.keys,roZ,qxZ,s1Z,List.map_nil,r1Z]at hn;rcases hn with hn | hn
         · have:=hc.rng n hn;dsimp only;omega
         · have:=hc.num.1;dsimp only;omega
       · simp only[FS.keys,roZ,s1Z,List.map_nil]
         rw[List.nodup_append]
         refine ⟨hc.nd,by simp,fun a ha b hb=>?_⟩
         simp at hb;have:=hc.rng a ha;omega
       · rcases qxZ.1 he with he | he
         · exact hc.fine e he
         · simp at he;subst he;exact PF.ok_new _ _ (by simp)
       · have:=hc.len;simp;omega
       · have:=hc.s1;dsimp only;omega
   · rw[if_neg (by dsimp only;omega)]
     exact DS.ok_mono hc (by omega) (qnZ _)
theorem DS.ok_syncDir{d:DS}{A B:Nat}(h:d.ok A B):d.syncDir.1.ok (A+2) B:=by
 have hc:=DS.ok_count h;unfold DS.syncDir DS.step;split
 · exact DS.ok_mono hc (by omega) (qnZ _)
 · exact DS.ok_fd hc (FD.ok_mono (FD.ok_survive hc.fd _) (by omega)) (FD.numOk_survive hc.num _) (FD.each_survive hc.has _) (Int.le_refl _)
theorem DS.ok_remove{d:DS}{A B:Nat}(h:d.ok A B)(a:List UInt8):(d.remove a).1.ok (A+2) B:=by
 have hc:=DS.ok_count h;unfold DS.remove DS.step;split
 · exact DS.ok_mono hc (by omega) (qnZ _)
 · generalize d.count=d at hc
   refine DS.ok_fd hc (FD.ok_remove hc.fd a) (FD.numOk_remove hc.num a) ?_ ?_
   · unfold FD.remove
     split
     · refine FD.each_one hc.has (fun l a b _ hl=>hl) _ rfl rfl (Int.le_refl _) ?_
       intro k' m hm;simp only[DAct.run]at hm;rw[NM.get_del (FD.each_now hc.num.2).nd]at hm;split at hm
       · cases hm
       · exact FD.each_now hc.has _ _ hm
     · exact hc.has
   · unfold FD.remove
     split <;> exact Int.le_refl _
theorem DS.ok_arm{d:DS}{A B:Nat}(h:d.ok A B)(n:Int)(hn:n≤4611686018427387903):(d.arm n).ok A B :=
 ⟨h.fd,h.num,h.has,h.rng,h.nd,h.fine,h.len,h.q0,h.q1,h.s0,h.s1,by simp only[DS.arm];omega,by simp only[DS.arm];omega⟩
structure StOk (fd:FD) (B:Nat) (s:List Int×FS×List Int) (fs:FS):Prop where
 keys:FS.keys s.2.1=FS.keys fs
 fine:∀e∈s.2.1,e.2.ok B
 nd:s.2.2.Nodup
 sub:∀n∈s.2.2,n∈FS.keys fs
theorem stay1_ok{fd:FD}{B:Nat}{s:List Int×FS×List Int}{fs:FS}(h:StOk fd B s fs)(k:List UInt8)(hk:(fd.find k).1∈FS.keys fs):StOk fd B (stay1 fd s k) fs:=by
 refine ⟨?_,fun e he=>?_,?_,fun n hn=>?_⟩
 · simp only[stay1];rw[FS.keys_upd];exact h.keys
 · simp only[stay1]at he
   rcases FS.mem_upd he with he | ⟨f,h1,rfl⟩
   · exact h.fine e he
   · exact PF.ok_new _ _ (PF.ok_stays (h.fine _ h1) _ _)
 · simp only[stay1]
   split
   · exact h.nd
   · rename_i hn
     rw[List.nodup_append]
     exact⟨h.nd,by simp,fun a ha b hb=>by simp at hb;subst hb;rintro rfl;exact hn ha⟩
 · simp only[stay1]at hn
   split at hn
   · exact h.sub n hn
   · rcases qxZ.1 hn with hn | hn
     · exact h.sub n hn
     · simp at hn;subst hn;exact hk
theorem stayAll_mem(fd:FD):∀(ks:List (List UInt8)) (s:List Int×FS×List Int) (n:Int),n∈(ks.foldl (stay1 fd) s).2.2↔n∈s.2.2∨∃k∈ks,(fd.find k).1=n
 | [],s,n=>by simp
 | k::ks,s,n=>by
   rw[List.foldl_cons,stayAll_mem fd ks]
   have:n∈(stay1 fd s k).2.2↔n∈s.2.2∨(fd.find k).1=n:=by
     simp only[stay1];split
     · rename_i h
       constructor
       · exact .inl
       · rintro (h1 | rfl)
         · exact h1
         · exact h
     · simp[eq_comm]
   rw[this];simp only[qwZ,exists_eq_or_imp,or_assoc]
theorem stayAll_ok{fd:FD}{B:Nat}{fs:FS}:∀(ks:List (List UInt8)) {s:List Int×FS×List Int},StOk fd B s fs→(∀k∈ks,(fd.find k).1∈FS.keys fs)→StOk fd B (ks.foldl (stay1 fd) s) fs
 | [],_,h,_=>h
 | k::ks,_s,h,hk=>stayAll_ok ks (stay1_ok h k (hk k (qhZ ..))) fun k' h'=>hk k' (qiZ _ h')
theorem FD.names_get{f:FD}{k:List UInt8}(h:k∈f.names):∃n,f.now.get k=some n:=NM.get_some.2 ((sortU_perm _).subset h)
theorem FD.names_of{f:FD}{k:List UInt8}{n:Int}(h:f.now.get k=some n):k∈f.names:=(sortU_perm _).symm.subset (NM.get_some.1 ⟨n,h⟩)
theorem FD.find_get{f:FD}{k:List UInt8}{n:Int}(h:f.now.get k=some n):f.find k=(n,true):=by unfold FD.find;rw[h]
theorem keys_there(fs:FS)(th:List Int):FS.keys (thereF fs th)=th:=by simp[FS.keys,thereF,Function.comp_def]
theorem get_there(fs:FS):∀(th:List Int) (n:Int),n∈th→FS.get (thereF fs th) n=some ((FS.get fs n).getD ⟨[],[]⟩)
 | a::th,n,h=>by
   simp only[thereF,s1Z,FS.get];split
   · rename_i e;subst e;rfl
   · rename_i e
     rcases qwZ.1 h with h | h
     · exact absurd h.symm e
     · exact get_there fs th n h
theorem nodup_sub_len{l m:List Int}(h:l.Nodup)(hs:∀n∈l,n∈m):l.length≤m.length:=h.length_le_of_subset hs
theorem DS.ok_restart{d:DS}{A B:Nat}(h:d.ok A B)(l:List Int):(d.restart l).ok A B:=by
 obtain⟨fd,hfd⟩:∃fd,d.fd.survive (l.headD 0)=fd:=⟨_,rfl⟩;obtain⟨r,hr⟩:∃r,stayAll fd l.tail d.fs fd.names=r:=⟨_,rfl⟩
 have h1:fd.ok A:=by rw[←hfd];exact FD.ok_survive h.fd _
 have h2:fd.numOk:=by rw[←hfd];exact FD.numOk_survive h.num _
 have h3:fd.each (hasP d.fs):=by rw[←hfd];exact FD.each_survive h.has _
 have h4:fd.last=d.fd.last:=by rw[←hfd];rfl
 have h5:fd.acts=[]:=by rw[←hfd];rfl
 have hk:∀k∈fd.names,(fd.find k).1∈FS.keys d.fs:=fun k hk=>by
   obtain⟨n,hn⟩:=FD.names_get hk;rw[FD.find_get hn];exact FD.each_now h3 k n hn
 have hs:StOk fd B r d.fs:=by rw[←hr];exact stayAll_ok _ ⟨rfl,h.fine,List.nodup_nil,fun n hn=>by cases hn⟩ hk
 have hm:=stayAll_mem fd fd.names (l.tail,d.fs,[]);unfold DS.restart;rw[hfd,hr]
 have hmm:∀n,n∈r.2.2↔∃k∈fd.names,(fd.find k).1=n:=fun n=>by rw[←hr];unfold stayAll;rw[hm];simp
 refine ⟨h1,h2,fun i hi=>?_,fun n hn=>?_,by dsimp only;rw[keys_there];exact hs.nd,fun e he=>?_,?_,h.q0,h.q1,h.s0,h.s1,Int.le_refl _,by dsimp only;omega⟩
 · dsimp only at hi ⊢
   intro k n hn
   have:druns fd.d (fd.acts.take i)=fd.now:=by unfold FD.now;rw[h5,List.take_nil]
   rw[this]at hn;rw[keys_there,hmm]
   exact⟨k,FD.names_of hn,by rw[FD.find_get hn]⟩
 · dsimp only at hn ⊢
   rw[keys_there]at hn;rw[h4];exact h.rng n (hs.sub n hn)
 · obtain⟨n,hn,rfl⟩:=reZ.1 he
   obtain⟨f,hf⟩:=FS.get_some.2 (by rw[hs.keys];exact hs.sub n hn:n∈FS.keys r.2.1)
   dsimp only;rw[hf];exact hs.fine _ (FS.get_mem hf)
 · have:=nodup_sub_len hs.nd hs.sub
   have h6:=h.len;simp only[thereF,r7Z,FS.keys]at this ⊢;omega
end
end Go.Proofs.YthafeihjlamhhaaGreatDoor
