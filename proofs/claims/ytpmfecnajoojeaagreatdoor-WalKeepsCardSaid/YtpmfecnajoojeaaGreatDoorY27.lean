/- Parts of the proof of WalKeeps: lemmas, each with its own conditions. -/
import Derived.Test.YtpmfecnajoojeaaGreatDoorY26
set_option maxHeartbeats 64000000
open List renaming getElem?_append_left → q4Z, length_cons → q7Z, length_nil → q8Z, cons_append → q9Z, nil_append → qaZ, replicate → qbZ, length_append → qdZ, length_map → r7Z, map_append → roZ
open Nat renaming le_refl → qnZ
namespace Go.Proofs.YtpmfecnajoojeaaGreatDoor
open _root_.Go.Proofs.Tryz renaming prog → Pz
set_option maxRecDepth 100000
section
open Go Go.Lib
attribute [-simp] drawOk_eq adraw qrun acode aops
theorem ct_out{P:Program}{f:FuncId}{args:List AV}{H H1 H':AHeap}{v v1:AV}(h:Ct P f args H v1 H1)(hw:Weak H.length [v1] H1 [v] H'):Ct P f args H v H':=by
 intro j w cargs hR hargs;refine (h j w cargs hR hargs).mono ?_;rintro e w' ⟨cv,j',rfl,g2,hs⟩;obtain⟨j2,k1,k2⟩:=hw.step (qnZ _) hs (vs:=[cv]) ⟨cv,[],rfl,g2,rfl⟩;simp only[VRs]at k2;obtain⟨_,_,e,k3,_⟩:=k2;cases e;exact⟨cv,j2,rfl,k3,k1⟩
theorem restart0_ct(d:DS)(hd:d.small):Ct Pz 22 [.ptr 0 0,.nils] [.obj true d.blks] (.tuple []) [.obj true (d.restart []).blks]:=by
 have h:=restart_ct d hd (by decide) (by decide) [] (by simp) (by simp) 0 (qnZ _) false
 simp only[List.take_nil,numA]at h
 refine ct_out (ct_weak (Weak.mk' [0,100] (by decide) rfl (by simp[AWs,AW]) (by simp[AWg,AWb])) h) (Weak.mk' [0] (by decide) rfl (by simp[AWs,AW]) (by simp[AWg,AWb]))
open Classical in
noncomputable def drest0S:Summ:=objS dsD DS.blks fun d xs _=>match xs with
 | [.nils]=>if d.small then some (d.restart [],.tuple []) else none
 | _=>none
theorem drest0_sound:Sound Pz 22 drest0S:=by
 refine sound_obj (enter_of Tryz.func22 rfl (by decide)) (fun _ _=>dsD_eq) fun d xs H s' v b hg hb=>?_
 split at hg;rotate_left
 · cases hg
 split at hg <;> cases hg
 rename_i hs;exact ct_obj1 (restart0_ct d hs) rfl rfl hb
noncomputable def drestN:Summ:=fun args H=>match args with
 | [.ptr b 0,.nils]=>drest0S [.ptr b 0,.nils] H
 | [.ptr b 0,.slice b2 o L sz c]=>drestS [.ptr b 0,.slice b2 o L sz c] H
 | [.ptr b 0,.sl b2 o L sz c]=>drestS [.ptr b 0,.sl b2 o L sz c] H
 | _=>none
theorem drestN_sound:Sound Pz 22 drestN:=by
 refine ⟨drest_sound.enter,fun args H v H' W hs=>?_,fun args H v H' W hs=>?_⟩ <;> (unfold drestN at hs;split at hs)
 · exact drest0_sound.ct _ _ _ _ _ hs
 · exact drest_sound.ct _ _ _ _ _ hs
 · exact drest_sound.ct _ _ _ _ _ hs
 · cases hs
 · exact drest0_sound.keep _ _ _ _ _ hs
 · exact drest_sound.keep _ _ _ _ _ hs
 · exact drest_sound.keep _ _ _ _ _ hs
 · cases hs
def WL.syncs(w:WL):WL×Int:=if w.bad=true then (w,11) else w.sync
noncomputable def wyΓ:Gam:=gams [(60,mayR),(62,wsyncLS),(61,judgedS)]
theorem wyΓ_ok:GOk Pz wyΓ:=goks_cons may_sound (goks_cons wsyncL_sound (goks_cons judged_sound goks_nil))
theorem wsyncs_ct(w:WL)(hd:w.d.small):Ct Pz 16 [.ptr 0 0] [wlB 1 w,.obj true w.d.blks] (.int .i64 w.syncs.2) [wlB 1 w.syncs.1,.obj true w.syncs.1.d.blks]:=by
 have hΓ:=wyΓ_ok;obtain⟨d,m,f,n,dn,bd⟩:=w;dsimp only at hd;refine ct_of_sim Tryz.func16 rfl ?_;unfold WL.syncs WL.sync;dsimp only;simp only[wlB,wlC,Tryz.ntmps16,q7Z,q8Z,Nat.reduceAdd,Nat.reduceSub,qbZ,q9Z,qaZ]
 refine Sim.step hmix hΓ (n:=0) (by simp;exact⟨rfl,rfl⟩) (by simp) ?_
 cases bd with
 | true =>
   rw[if_pos rfl]
   refine Sim.exec hmix hΓ (n:=0) (by simp +decide [wyΓ,mayR,wlR];exact⟨rfl,rfl,rfl⟩) (by simp) ?_
   exact⟨.inr rfl,_,by simp[Tryz.f16] <;> rfl,Weak.mk' [0,1] (by decide) (by decide) (by simp) (by simp[AWb,AW])⟩
 | false =>
   rw[if_neg (by decide)]
   by_cases hf:f=0
   · subst hf
     rw[if_pos rfl]
     refine Sim.exec hmix hΓ (n:=0) (by simp +decide [wyΓ,mayR,wlR];exact⟨rfl,rfl,rfl⟩) (by simp) ?_
     exact⟨.inr rfl,_,by simp[Tryz.f16] <;> rfl,Weak.mk' [0,1] (by decide) (by decide) (by simp) (by simp[AWb,AW])⟩
   · rw[if_neg hf]
     have hfI:¬(f:Int)=0:=by omega
     have hfb:((f:Int)==0)=false:=by simpa using hf
     obtain⟨d',e,hs⟩:∃d' e,d.sync (wn f)=(d',e):=⟨_,_,rfl⟩;rw[hs];dsimp only
     refine Sim.exec hmix hΓ (n:=0) (by simp +decide [wyΓ,mayR,wlR,wsyncLS,wlS,judgedS,wlC,hfb,hd,hs];exact⟨rfl,rfl,rfl⟩) (by simp) ?_
     exact⟨.inr rfl,_,by simp[Tryz.f16] <;> rfl,Weak.mk' [0,1] (by decide) (by decide) (by simp) (by simp[AWb,AW,wlC])⟩
open Classical in
noncomputable def wsyncsS:Summ:=wlS fun w xs=>match xs with
 | []=>if w.d.small then some (w.syncs.1,.int .i64 w.syncs.2) else none
 | _=>none
theorem wsyncs_sound:Sound Pz 16 wsyncsS:=by
 refine sound_wl (enter_of Tryz.func16 rfl (by decide)) fun w xs w' v hg=>?_
 split at hg;rotate_left
 · cases hg
 split at hg <;> cases hg
 rename_i hs
 exact⟨rfl,fun _=>rfl,wsyncs_ct w hs⟩
theorem wdone_ct(w:WL):Ct Pz 18 [.ptr 0 0] [wlB 1 w,.obj true w.d.blks] (.int .i64 w.done) [wlB 1 w,.obj true w.d.blks]:=by
 refine ct_of_simE Tryz.func18 rfl ?_;simp only[wlB,wlC,Tryz.ntmps18,q7Z,q8Z,Nat.reduceAdd,Nat.reduceSub,qbZ,q9Z,qaZ]
 refine Sim.exec hmix goks_nil (n:=0) (by simp +decide;exact⟨rfl,rfl,rfl⟩) (by simp) ?_
 exact⟨.inr rfl,by simp[Tryz.f18],rfl⟩
noncomputable def wdoneR:Summ:=wlR fun w xs=>match xs with
 | []=>some (.int .i64 w.done)
 | _=>none
theorem wdone_sound:Sound Pz 18 wdoneR:=by
 refine sound_wlR (enter_of Tryz.func18 rfl (by decide)) fun w xs v hg=>?_
 split at hg <;> cases hg
 exact⟨rfl,fun _=>rfl,wdone_ct w⟩
theorem wbad_ct(w:WL):Ct Pz 21 [.ptr 0 0] [wlB 1 w,.obj true w.d.blks] (.bool w.bad) [wlB 1 w,.obj true w.d.blks]:=by
 refine ct_of_simE Tryz.func21 rfl ?_;simp only[wlB,wlC,Tryz.ntmps21,q7Z,q8Z,Nat.reduceAdd,Nat.reduceSub,qbZ,q9Z,qaZ]
 refine Sim.exec hmix goks_nil (n:=0) (by simp +decide;exact⟨rfl,rfl,rfl⟩) (by simp) ?_
 exact⟨.inr rfl,by simp[Tryz.f21],rfl⟩
noncomputable def wbadR:Summ:=wlR fun w xs=>match xs with
 | []=>some (.bool w.bad)
 | _=>none
theorem wbad_sound:Sound Pz 21 wbadR:=by
 refine sound_wlR (enter_of Tryz.func21 rfl (by decide)) fun w xs v hg=>?_
 split at hg <;> cases hg
 exact⟨rfl,fun _=>rfl,wbad_ct w⟩
def wnewS:Summ:=fun args H=>match args with
 | [.ptr q 0,.int .i64 n,.int .i64 m]=>if q<H.length∧1≤n∧n≤1000000000∧1≤m then some (.ptr H.length 0,H++[.cells true [.ptr q 0,.int .i64 m,.int .i64 0,.int .i64 n,.int .i64 0,.bool false]],[]) else none
 | _=>none
theorem wnew_sound:Sound Pz 14 wnewS:=by
 refine ⟨enter_of Tryz.func14 rfl (by decide),fun args H v H' W hs=>?_,fun args H v H' W hs=>?_⟩ <;> (unfold wnewS at hs;split at hs <;> try cases hs) <;> (rename_i q n m;split at hs <;> cases hs;rename_i hc;obtain⟨h1,h2,h3,h4⟩:=hc)
 · have g1:¬n<1:=by omega
   have g2:¬1000000000<n:=by omega
   have g3:¬m<1:=by omega
   refine ct_of_simE Tryz.func14 rfl ?_;simp only[Tryz.ntmps14,q7Z,q8Z,Nat.reduceAdd,Nat.reduceSub,qbZ,q9Z,qaZ]
   refine Sim.exec hmix goks_nil (n:=0) (by simp +decide [g1,g2,g3];exact⟨rfl,rfl,rfl⟩) (by simp) ?_
   exact⟨.inr rfl,by simp[Tryz.f14],rfl⟩
 · exact⟨by simp,fun c hc _=>by rw[q4Z hc]⟩
end
section
open Go Go.Lib
structure Wri (n1:Nat) (most:Int) (all:List En) (sy:Nat) (w:WL):Prop where
 up:w.d.down=false
 bad:w.bad=false
 wp:∃cs,WP n1 most cs sy w∧cs.flatten=all.map frE∧cs.length≤all.length
structure Ded (n1:Nat) (all:List En) (sy:Nat) (w:WL):Prop where
 dn:w.d.down=true
 bad:w.bad=true
 wb:WB n1 (all.map frE) sy w.d.fd w.d.fs
structure Bd (A B n D:Nat) (w:WL):Prop where
 ok:w.d.ok A B
 quota:w.d.quota=1048576
 next:w.next≤n
 done0:0≤w.done
 done1:w.done≤D
theorem Bd.mono{A B n D A' B' n' D':Nat}{w:WL}(h:Bd A B n D w)(h1:A≤A')(h2:B≤B')(h3:n≤n')(h4:D≤D'):Bd A' B' n' D' w :=
 ⟨DS.ok_mono h.ok h1 h2,h.quota,by have:=h.next;omega,h.done0,by have:=h.done1;omega⟩
theorem Bd.wok{A B n D:Nat}{w:WL}(h:Bd A B n D w)(k:Nat)(h1:A≤700000)(h2:B≤300000000000)(h3:n+k≤1000000000)(h4:D≤1000000000):WOk w k :=
 ⟨DS.ok_mono h.ok h1 h2,by rw[h.quota];decide,by have:=h.next;omega,h.done0,by have:=h.done1;omega⟩
theorem add_done(w:WL)(s:List UInt8):w.done≤(w.add s).1.done∧(w.add s).1.done≤w.done+1:=by
 have h:=ready_done w;unfold WL.add;split
 · split
   · dsimp only;omega
   · dsimp only;omega
 · dsimp only;omega
theorem adds_done:∀(l:List (List UInt8)) (w:WL),w.done≤(w.adds l).1.done∧(w.adds l).1.done≤w.done+l.length
 | [],w=>⟨Int.le_refl _,by simp[WL.adds]⟩
 | s::l,w=>by
   have h1:=add_done w s;unfold WL.adds;simp only[q7Z];split
   · have h2:=adds_done l (w.add s).1
     omega
   · omega
theorem adds_next:∀(l:List (List UInt8)) (w:WL),(w.adds l).1.next≤w.next+l.length
 | [],w=>by simp[WL.adds]
 | s::l,w=>by
   have h1:=add_next w s;unfold WL.adds;simp only[q7Z];split
   · have h2:=adds_next l (w.add s).1
     omega
   · omega
theorem Bd.append{A B n D:Nat}{w:WL}(h:Bd A B n D w)(own:List En):Bd (A+6*own.length) (B+1048576*own.length) (n+own.length) (D+own.length) (w.appends own).1:=by
 unfold WL.appends;split
 · exact h.mono (by omega) (by omega) (by omega) (by omega)
 · have h1:=adds_ok (own.map frE) h.ok (by rw[h.quota];decide)
   have h2:=adds_next (own.map frE) w;have h3:=adds_done (own.map frE) w;rw[r7Z]at h1 h2 h3;have:=h.next;have:=h.done0;have:=h.done1
   exact⟨h1.1,h1.2.trans h.quota,by omega,by omega,by omega⟩
theorem Bd.sync{A B n D:Nat}{w:WL}(h:Bd A B n D w):Bd (A+1) B n D w.syncs.1:=by
 unfold WL.syncs;split
 · exact h.mono (by omega) (by omega) (by omega) (by omega)
 · have h1:=wsync_ok h.ok
   refine ⟨h1.1,h1.2.trans h.quota,?_,?_,?_⟩ <;> unfold WL.sync <;> split <;> first | exact h.next | exact h.done0 | exact h.done1
theorem Wri.append{n1:Nat}{most:Int}{all:List En}{sy:Nat}{w:WL}(h:Wri n1 most all sy w)(h1:1≤n1)(own:List En)(hn:n1+all.length+own.length≤3000) :
   ((w.appends own).2=0∧Wri n1 most (all++own) sy (w.appends own).1∧(w.appends own).1.done=w.done+own.length)∨((w.appends own).2=13∧Ded n1 (all++own) sy (w.appends own).1):=by
 obtain⟨cs,p,e,hl⟩:=h.wp;have f1:=frames_len all;have f2:=frames_len own
 have hs:=adds_stage h1 (own.map frE) cs w h.up p (by rw[r7Z];omega) (by rw[e];omega)
 have hb:=adds_bad (own.map frE) w
 have hap:w.appends own=w.adds (own.map frE):=by unfold WL.appends;rw[h.bad];rfl
 rw[hap];have hfl:=foldl_flat most (own.map frE) cs;have hfn:=foldl_len most (own.map frE) cs;rw[r7Z]at hfn;rw[e,←roZ]at hfl;rcases hs with⟨a1,a2,a3,a4⟩ | ⟨a1,a2,a3⟩
 · refine .inl ⟨a1,⟨a2,a4 h.bad,_,a3,hfl,by rw[qdZ];omega⟩,?_⟩
   rw[a3.done,p.done,hfl,e];simp
 · refine .inr ⟨a1,a2,hb (by omega),?_⟩
   rw[e,←roZ]at a3;exact a3
theorem Wri.sync{n1:Nat}{most:Int}{all:List En}{sy:Nat}{w:WL}(h:Wri n1 most all sy w)(h1:1≤n1)(hn:n1+all.length≤3000) :
   (w.syncs.2=0∧Wri n1 most all all.length w.syncs.1∧w.syncs.1.done=w.done)∨(w.syncs.2=13∧Ded n1 all sy w.syncs.1):=by
 obtain⟨cs,p,e,hl⟩:=h.wp
 have hs:=sync_stage h.up p h.bad h1 (by omega)
 have hsy:w.syncs=w.sync:=by unfold WL.syncs;rw[h.bad];rfl
 rw[hsy]
 have hlen:cs.flatten.length=all.length:=by rw[e,r7Z]
 have hb:w.sync.2=13→w.sync.1.bad=true:=fun h2=>by
   unfold WL.sync at h2 ⊢;split
   · rename_i h0;rw[if_pos h0]at h2;exact absurd (show (0:Int)=13 from h2) (by decide)
   · rename_i h0;rw[if_neg h0]at h2;dsimp only at h2 ⊢;rw[h2];rfl
 rcases hs with⟨a1,a2,a3,a4⟩ | ⟨a1,a2,a3⟩
 · rw[hlen]at a3
   refine .inl ⟨a1,⟨a2,a4,cs,a3,e,hl⟩,?_⟩;rw[a3.done,p.done]
 · rw[e]at a3
   exact .inr ⟨a1,a2,hb a1,a3⟩
theorem Ded.append{n1:Nat}{all:List En}{sy:Nat}{w:WL}(h:Ded n1 all sy w)(own:List En):w.appends own=(w,11)∧Ded n1 (all++own) sy w:=by
 refine ⟨by unfold WL.appends;rw[h.bad];rfl,h.dn,h.bad,?_⟩
 rw[roZ];exact h.wb.more (List.prefix_append _ _)
theorem Ded.sync{n1:Nat}{all:List En}{sy:Nat}{w:WL}(h:Ded n1 all sy w):w.syncs=(w,11):=by unfold WL.syncs;rw[h.bad];rfl
theorem Wri.wb{n1:Nat}{most:Int}{all:List En}{sy:Nat}{w:WL}(h:Wri n1 most all sy w)(hn:n1+all.length≤3000){all':List En}(ha:all <+: all'):WB n1 (all'.map frE) sy w.d.fd w.d.fs:=by
 obtain⟨cs,p,e,hl⟩:=h.wp
 have h1:=p.bad (by omega)
 rw[e]at h1;obtain⟨t,rfl⟩:=ha;rw[roZ];exact h1.more (List.prefix_append _ _)
theorem Wri.arm{n1:Nat}{most:Int}{all:List En}{sy:Nat}{w:WL}(h:Wri n1 most all sy w)(t:Int):Wri n1 most all sy ⟨w.d.arm t,w.most,w.file,w.next,w.done,w.bad⟩:=by
 obtain⟨cs,p,e,hl⟩:=h.wp;exact⟨h.up,h.bad,cs,⟨p.quota,p.core,p.acts,p.view,p.next,p.file,p.most',p.done,p.le⟩,e,hl⟩
theorem Bd.arm{A B n D:Nat}{w:WL}(h:Bd A B n D w){t:Int}(ht:t≤4611686018427387903):Bd A B n D ⟨w.d.arm t,w.most,w.file,w.next,w.done,w.bad⟩ :=
 ⟨DS.ok_arm h.ok t ht,h.quota,h.next,h.done0,h.done1⟩
theorem Wri.new(most:Int)(n1:Nat):Wri n1 most [] 0 (WL.new most n1):=⟨rfl,rfl,[],WP.new most,rfl,qnZ _⟩
theorem Bd.new(most:Int)(n1:Nat):Bd 0 0 n1 0 (WL.new most n1):=⟨DS.ok_new 1048576 (by decide) (by decide),rfl,qnZ _,Int.le_refl _,Int.le_refl _⟩
end
end Go.Proofs.YtpmfecnajoojeaaGreatDoor
