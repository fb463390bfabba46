/- Parts of the proof of ReplayBack: lemmas, each with its own conditions. -/
import Derived.Test.YthafeihjlamhhaaGreatDoorY26
set_option maxHeartbeats 64000000
open List renaming getElem?_append_left → q4Z, length_cons → q7Z, length_nil → q8Z, cons_append → q9Z, nil_append → qaZ, replicate → qbZ, length_append → qdZ, length_map → r7Z, map_append → roZ
open Nat renaming le_refl → qnZ
namespace Go.Proofs.YthafeihjlamhhaaGreatDoor
open _root_.Go.Proofs.Tryz renaming prog → Pz
set_option maxRecDepth 100000
section
open Go Go.Lib
attribute [-simp] zJ zT zk zL zm
theorem zXO{P:Program}{f:FuncId}{args:List AV}{H H1 H':zA}{v v1:AV}(h:Ct P f args H v1 H1)(hw:Weak H.length [v1] H1 [v] H'):Ct P f args H v H':=by
 intro j w cargs hR hargs;refine (h j w cargs hR hargs).mono ?_;rintro e w' ⟨cv,j',rfl,g2,hs⟩;obtain⟨j2,k1,k2⟩:=hw.step (qnZ _) hs (vs:=[cv]) ⟨cv,[],rfl,g2,rfl⟩;simp only[VRs]at k2;obtain⟨_,_,e,k3,_⟩:=k2;cases e;exact⟨cv,j2,rfl,k3,k1⟩
theorem zL4(d:DS)(hd:d.small):Ct Pz 35 [.ptr 0 0,.nils] [.obj true d.blks] (.tuple []) [.obj true (d.restart []).blks]:=by
 have h:=zH0 d hd (by decide) (by decide) [] (by simp) (by simp) 0 (qnZ _) false
 simp only[List.take_nil,Z2]at h
 refine zXO (zQA (Weak.mk' [0,100] (by decide) rfl (by simp[AWs,AW]) (by simp[AWg,AWb])) h) (Weak.mk' [0] (by decide) rfl (by simp[AWs,AW]) (by simp[AWg,AWb]))
open Classical in
noncomputable def zFs:zU:=zBb dsD DS.blks fun d xs _=>match xs with
 | [.nils]=>if d.small then some (d.restart [],.tuple []) else none
 | _=>none
theorem drest0_sound:Sound Pz 35 zFs:=by
 refine ze (zG Tryz.func35 rfl (by decide)) (fun _ _=>Zt) fun d xs H s' v b hg hb=>?_
 split at hg;rotate_left
 · cases hg
 split at hg <;> cases hg
 rename_i hs;exact ZI (zL4 d hs) rfl rfl hb
noncomputable def zGQ:zU:=fun args H=>match args with
 | [.ptr b 0,.nils]=>zFs [.ptr b 0,.nils] H
 | [.ptr b 0,.slice b2 o L sz c]=>zD3 [.ptr b 0,.slice b2 o L sz c] H
 | [.ptr b 0,.sl b2 o L sz c]=>zD3 [.ptr b 0,.sl b2 o L sz c] H
 | _=>none
theorem zK7:Sound Pz 35 zGQ:=by
 refine ⟨drest_sound.enter,fun args H v H' W hs=>?_,fun args H v H' W hs=>?_⟩ <;> (unfold zGQ at hs;split at hs)
 · exact drest0_sound.ct _ _ _ _ _ hs
 · exact drest_sound.ct _ _ _ _ _ hs
 · exact drest_sound.ct _ _ _ _ _ hs
 · cases hs
 · exact drest0_sound.keep _ _ _ _ _ hs
 · exact drest_sound.keep _ _ _ _ _ hs
 · exact drest_sound.keep _ _ _ _ _ hs
 · cases hs
def WL.syncs(w:WL):WL×Int:=if w.bad=true then (w,11) else w.sync
noncomputable def zVN:Gam:=zj [(72,zLy),(80,zFf),(77,zFu)]
theorem zVW:GOk Pz zVN:=zC zGP (zC zF0 (zC zFL zE))
theorem zRy(w:WL)(hd:w.d.small):Ct Pz 20 [.ptr 0 0] [wlB 1 w,.obj true w.d.blks] (.int .i64 w.syncs.2) [wlB 1 w.syncs.1,.obj true w.syncs.1.d.blks]:=by
 have hΓ:=zVW;obtain⟨d,m,f,n,dn,bd⟩:=w;dsimp only at hd;refine zI Tryz.func20 rfl ?_;unfold WL.syncs WL.sync;dsimp only;simp only[wlB,wlC,Tryz.ntmps20,q7Z,q8Z,Nat.reduceAdd,Nat.reduceSub,qbZ,q9Z,qaZ]
 refine Sim.step hmix hΓ (n:=0) (by simp;exact⟨rfl,rfl⟩) (by simp) ?_
 cases bd with
 | true =>
   rw[if_pos rfl]
   refine Sim.exec hmix hΓ (n:=0) (by simp +decide [zVN,zLy,wlR];exact⟨rfl,rfl,rfl⟩) (by simp) ?_
   exact⟨.inr rfl,_,by simp[Tryz.f20] <;> rfl,Weak.mk' [0,1] (by decide) (by decide) (by simp) (by simp[AWb,AW])⟩
 | false =>
   rw[if_neg (by decide)]
   by_cases hf:f=0
   · subst hf
     rw[if_pos rfl]
     refine Sim.exec hmix hΓ (n:=0) (by simp +decide [zVN,zLy,wlR];exact⟨rfl,rfl,rfl⟩) (by simp) ?_
     exact⟨.inr rfl,_,by simp[Tryz.f20] <;> rfl,Weak.mk' [0,1] (by decide) (by decide) (by simp) (by simp[AWb,AW])⟩
   · rw[if_neg hf]
     have hfI:¬(f:Int)=0:=by omega
     have hfb:((f:Int)==0)=false:=by simpa using hf
     obtain⟨d',e,hs⟩:∃d' e,d.sync (wn f)=(d',e):=⟨_,_,rfl⟩;rw[hs];dsimp only
     refine Sim.exec hmix hΓ (n:=0) (by simp +decide [zVN,zLy,wlR,zFf,wlS,zFu,wlC,hfb,hd,hs];exact⟨rfl,rfl,rfl⟩) (by simp) ?_
     exact⟨.inr rfl,_,by simp[Tryz.f20] <;> rfl,Weak.mk' [0,1] (by decide) (by decide) (by simp) (by simp[AWb,AW,wlC])⟩
open Classical in
noncomputable def zHJ:zU:=wlS fun w xs=>match xs with
 | []=>if w.d.small then some (w.syncs.1,.int .i64 w.syncs.2) else none
 | _=>none
theorem zLi:Sound Pz 20 zHJ:=by
 refine zCx (zG Tryz.func20 rfl (by decide)) fun w xs w' v hg=>?_
 split at hg;rotate_left
 · cases hg
 split at hg <;> cases hg
 rename_i hs
 exact⟨rfl,fun _=>rfl,zRy w hs⟩
def zQI:zU:=fun args H=>match args with
 | [.ptr q 0,.int .i64 n,.int .i64 m]=>if q<H.length/\1<=n/\n<=1000000000/\1<=m then some (.ptr H.length 0,H++[.cells true [.ptr q 0,.int .i64 m,.int .i64 0,.int .i64 n,.int .i64 0,.bool false]],[]) else none
 | _=>none
theorem zOf:Sound Pz 18 zQI:=by
 refine ⟨zG Tryz.func18 rfl (by decide),fun args H v H' W hs=>?_,fun args H v H' W hs=>?_⟩ <;> (unfold zQI at hs;split at hs <;> try cases hs) <;> (rename_i q n m;split at hs <;> cases hs;rename_i hc;obtain⟨h1,h2,h3,h4⟩:=hc)
 · have g1:¬n<1:=by omega
   have g2:¬1000000000<n:=by omega
   have g3:¬m<1:=by omega
   refine zh Tryz.func18 rfl ?_;simp only[Tryz.ntmps18,q7Z,q8Z,Nat.reduceAdd,Nat.reduceSub,qbZ,q9Z,qaZ]
   refine Sim.exec hmix zE (n:=0) (by simp +decide [g1,g2,g3];exact⟨rfl,rfl,rfl⟩) (by simp) ?_
   exact⟨.inr rfl,by simp[Tryz.f18],rfl⟩
 · exact⟨by simp,fun c hc _=>by rw[q4Z hc]⟩
end
section
open Go Go.Lib
structure Wri (n1:Nat) (most:Int) (all:List En) (sy:Nat) (w:WL):Prop where
 up:w.d.down=false
 bad:w.bad=false
 wp:∃cs,WP n1 most cs sy w/\cs.flatten=all.map frE/\cs.length<=all.length
structure Ded (n1:Nat) (all:List En) (sy:Nat) (w:WL):Prop where
 dn:w.d.down=true
 bad:w.bad=true
 wb:WB n1 (all.map frE) sy w.d.fd w.d.fs
structure Bd (A B n D:Nat) (w:WL):Prop where
 ok:w.d.ok A B
 quota:w.d.quota=1048576
 next:w.next<=n
 done0:0<=w.done
 done1:w.done<=D
theorem Bd.mono{A B n D A' B' n' D':Nat}{w:WL}(h:Bd A B n D w)(h1:A<=A')(h2:B<=B')(h3:n<=n')(h4:D<=D'):Bd A' B' n' D' w :=
 ⟨DS.ok_mono h.ok h1 h2,h.quota,by have:=h.next;omega,h.done0,by have:=h.done1;omega⟩
theorem Bd.wok{A B n D:Nat}{w:WL}(h:Bd A B n D w)(k:Nat)(h1:A<=700000)(h2:B<=300000000000)(h3:n+k<=1000000000)(h4:D<=1000000000):WOk w k :=
 ⟨DS.ok_mono h.ok h1 h2,by rw[h.quota];decide,by have:=h.next;omega,h.done0,by have:=h.done1;omega⟩
theorem zUX(w:WL)(s:List UInt8):w.done<=(w.add s).1.done/\(w.add s).1.done<=w.done+1:=by
 have h:=zI0 w;unfold WL.add;split
 · split
   · dsimp only;omega
   · dsimp only;omega
 · dsimp only;omega
theorem zKN:∀(l:List (List UInt8)) (w:WL),w.done<=(w.adds l).1.done/\(w.adds l).1.done<=w.done+l.length
 | [],w=>⟨Int.le_refl _,by simp[WL.adds]⟩
 | s::l,w=>by
   have h1:=zUX w s;unfold WL.adds;simp only[q7Z];split
   · have h2:=zKN l (w.add s).1
     omega
   · omega
theorem zKb:∀(l:List (List UInt8)) (w:WL),(w.adds l).1.next<=w.next+l.length
 | [],w=>by simp[WL.adds]
 | s::l,w=>by
   have h1:=zMk w s;unfold WL.adds;simp only[q7Z];split
   · have h2:=zKb l (w.add s).1
     omega
   · omega
theorem Bd.append{A B n D:Nat}{w:WL}(h:Bd A B n D w)(own:List En):Bd (A+6*own.length) (B+1048576*own.length) (n+own.length) (D+own.length) (w.appends own).1:=by
 unfold WL.appends;split
 · exact h.mono (by omega) (by omega) (by omega) (by omega)
 · have h1:=zQG (own.map frE) h.ok (by rw[h.quota];decide)
   have h2:=zKb (own.map frE) w;have h3:=zKN (own.map frE) w;rw[r7Z]at h1 h2 h3;have:=h.next;have:=h.done0;have:=h.done1
   exact⟨h1.1,h1.2.trans h.quota,by omega,by omega,by omega⟩
theorem Bd.sync{A B n D:Nat}{w:WL}(h:Bd A B n D w):Bd (A+1) B n D w.syncs.1:=by
 unfold WL.syncs;split
 · exact h.mono (by omega) (by omega) (by omega) (by omega)
 · have h1:=zUI h.ok
   refine ⟨h1.1,h1.2.trans h.quota,?_,?_,?_⟩ <;> unfold WL.sync <;> split <;> first | exact h.next | exact h.done0 | exact h.done1
theorem Wri.append{n1:Nat}{most:Int}{all:List En}{sy:Nat}{w:WL}(h:Wri n1 most all sy w)(h1:1<=n1)(own:List En)(hn:n1+all.length+own.length<=3000) :
   ((w.appends own).2=0/\Wri n1 most (all++own) sy (w.appends own).1/\(w.appends own).1.done=w.done+own.length)\/((w.appends own).2=13/\Ded n1 (all++own) sy (w.appends own).1):=by
 obtain⟨cs,p,e,hl⟩:=h.wp;have f1:=zI7 all;have f2:=zI7 own
 have hs:=zH4 h1 (own.map frE) cs w h.up p (by rw[r7Z];omega) (by rw[e];omega)
 have hb:=zN2 (own.map frE) w
 have hap:w.appends own=w.adds (own.map frE):=by unfold WL.appends;rw[h.bad];rfl
 rw[hap];have hfl:=zID most (own.map frE) cs;have hfn:=zKL most (own.map frE) cs;rw[r7Z]at hfn;rw[e,<-roZ]at hfl;rcases hs with⟨a1,a2,a3,a4⟩ | ⟨a1,a2,a3⟩
 · refine .inl ⟨a1,⟨a2,a4 h.bad,_,a3,hfl,by rw[qdZ];omega⟩,?_⟩
   rw[a3.done,p.done,hfl,e];simp
 · refine .inr ⟨a1,a2,hb (by omega),?_⟩
   rw[e,<-roZ]at a3;exact a3
theorem Wri.sync{n1:Nat}{most:Int}{all:List En}{sy:Nat}{w:WL}(h:Wri n1 most all sy w)(h1:1<=n1)(hn:n1+all.length<=3000) :
   (w.syncs.2=0/\Wri n1 most all all.length w.syncs.1/\w.syncs.1.done=w.done)\/(w.syncs.2=13/\Ded n1 all sy w.syncs.1):=by
 obtain⟨cs,p,e,hl⟩:=h.wp
 have hs:=zOW h.up p h.bad h1 (by omega)
 have hsy:w.syncs=w.sync:=by unfold WL.syncs;rw[h.bad];rfl
 rw[hsy]
 have hlen:cs.flatten.length=all.length:=by rw[e,r7Z]
 have hb:w.sync.2=13->w.sync.1.bad=true:=fun h2=>by
   unfold WL.sync at h2 ⊢;split
   · rename_i h0;rw[if_pos h0]at h2;exact absurd (show (0:Int)=13 from h2) (by decide)
   · rename_i h0;rw[if_neg h0]at h2;dsimp only at h2 ⊢;rw[h2];rfl
 rcases hs with⟨a1,a2,a3,a4⟩ | ⟨a1,a2,a3⟩
 · rw[hlen]at a3
   refine .inl ⟨a1,⟨a2,a4,cs,a3,e,hl⟩,?_⟩;rw[a3.done,p.done]
 · rw[e]at a3
   exact .inr ⟨a1,a2,hb a1,a3⟩
theorem Wri.wb{n1:Nat}{most:Int}{all:List En}{sy:Nat}{w:WL}(h:Wri n1 most all sy w)(hn:n1+all.length<=3000){all':List En}(ha:all <+: all'):WB n1 (all'.map frE) sy w.d.fd w.d.fs:=by
 obtain⟨cs,p,e,hl⟩:=h.wp
 have h1:=p.bad (by omega)
 rw[e]at h1;obtain⟨t,rfl⟩:=ha;rw[roZ];exact h1.more (List.prefix_append _ _)
theorem Ded.wb_more{n1:Nat}{all:List En}{sy:Nat}{w:WL}(h:Ded n1 all sy w){all':List En}(ha:all <+: all'):WB n1 (all'.map frE) sy w.d.fd w.d.fs:=by
 obtain⟨t,rfl⟩:=ha;rw[roZ];exact h.wb.more (List.prefix_append _ _)
theorem Wri.arm{n1:Nat}{most:Int}{all:List En}{sy:Nat}{w:WL}(h:Wri n1 most all sy w)(t:Int):Wri n1 most all sy ⟨w.d.arm t,w.most,w.file,w.next,w.done,w.bad⟩:=by
 obtain⟨cs,p,e,hl⟩:=h.wp;exact⟨h.up,h.bad,cs,⟨p.quota,p.core,p.acts,p.view,p.next,p.file,p.most',p.done,p.le⟩,e,hl⟩
theorem Bd.arm{A B n D:Nat}{w:WL}(h:Bd A B n D w){t:Int}(ht:t<=4611686018427387903):Bd A B n D ⟨w.d.arm t,w.most,w.file,w.next,w.done,w.bad⟩ :=
 ⟨DS.ok_arm h.ok t ht,h.quota,h.next,h.done0,h.done1⟩
theorem Wri.new(most:Int)(n1:Nat):Wri n1 most [] 0 (WL.new most n1):=⟨rfl,rfl,[],WP.new most,rfl,qnZ _⟩
theorem Bd.new(most:Int)(n1:Nat):Bd 0 0 n1 0 (WL.new most n1):=⟨DS.ok_new 1048576 (by decide) (by decide),rfl,qnZ _,Int.le_refl _,Int.le_refl _⟩
end
end Go.Proofs.YthafeihjlamhhaaGreatDoor
