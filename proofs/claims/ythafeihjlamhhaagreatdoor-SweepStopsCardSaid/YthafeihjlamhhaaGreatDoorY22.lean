/- Parts of the proof of SweepStops: lemmas, each with its own conditions. -/
import Derived.Test.YthafeihjlamhhaaGreatDoorY21
import Derived.Test.YthafeihjlamhhaaGreatDoorY10
set_option maxHeartbeats 64000000
open List renaming getElem?_eq_some_iff → q1Z, getD_eq_getElem?_getD → q2Z, getElem?_append_left → q4Z, take_of_length_le → q6Z, length_cons → q7Z, length_nil → q8Z, cons_append → q9Z, nil_append → qaZ, replicate → qbZ, mem_of_getElem? → qcZ, length_append → qdZ, mem_cons_self → qhZ, mem_cons_of_mem → qiZ, mem_cons → qwZ, mem_append → qxZ, mem_singleton → r1Z, getElem_mem → r3Z, getElem?_cons_succ → r9Z, getElem?_cons_zero → raZ, nodup_cons → rdZ, mem_map → reZ, map_append → roZ, map_cons → s1Z, mem_filter → sbZ
open Nat renaming le_refl → qnZ, zero_le → qqZ, min_eq_left → sfZ
open Option renaming getD_some → rgZ, map_some → rhZ
namespace Go.Proofs.YthafeihjlamhhaaGreatDoor
open _root_.Go.Proofs.Tryz renaming prog → Pz
set_option maxRecDepth 100000
section
open Go Go.Lib
attribute [-simp] drawOk_eq adraw qrun acode aops
def ofFold:FD×FS→List (List UInt8×List UInt8)→Option (FD×FS)
 | s,[]=>some s
 | s,e::l=>if (s.1.create e.1).2.2=0 then ofFold ((s.1.create e.1).1,s.2++[((s.1.create e.1).2.1,⟨e.2,[]⟩)]) l else none
theorem ofFold_cons(s:FD×FS)(e:List UInt8×List UInt8)(l:List (List UInt8×List UInt8)):ofFold s (e::l)=if (s.1.create e.1).2.2=0 then ofFold ((s.1.create e.1).1,s.2++[((s.1.create e.1).2.1,⟨e.2,[]⟩)]) l else none:=rfl
theorem ofFold_nil(s:FD×FS):ofFold s []=some s:=rfl
def DS.ofF(x:List (List UInt8×List UInt8))(q:Int):Option DS :=
 if q<0 then none else (ofFold (FD.new,[]) x).map fun s=>⟨s.1.survive s.1.acts.length,s.2,q,0,0,false⟩
noncomputable def ofΓ:Gam:=gams [(94,fnew0S),(95,fcreS),(97,fsyn0S),(96,fnewS)]
theorem ofΓ_ok_Jof:GOk Pz ofΓ:=goks_cons fnew0_sound (goks_cons fcre_sound (goks_cons fsyn0_sound (goks_cons fnew_sound goks_nil)))
def ofH(row:ABlk)(q:Int)(s:FD×FS):AHeap:=row::.obj true s.1.blks::.map (fileM (fun i=>i+4) 0 s.2)::.cells true [.ptr 1 0,.map 2,.int .i64 q,.int .i64 0,.int .i64 0,.bool false]::filesB s.2
structure OfI (x:List (List UInt8×List UInt8)) (i:Nat) (s:FD×FS):Prop where
 rest:ofFold s (x.drop i)=ofFold (FD.new,[]) x
 ok:s.1.ok i
 len:s.2.length=i
 keys:∀n∈FS.keys s.2,n≤s.1.last
theorem of_weak(row:ABlk)(hrow:∀rn:List Nat,AWb rn row row)(q:Int)(fd:FD)(fs:FS)(e:Int×PF)(i:Nat)(hi:fs.length=i)(J:ABlk){F Fn:List AV}(hF:AWs (List.range (4+i)++[i+5]) Fn F) :
   Weak 1 F (row::.obj true fd.blks::.map (fileM (fun i=>i+4) 0 fs++[(.int .i64 e.1,.ptr (i+5) 0)])::.cells true [.ptr 1 0,.map 2,.int .i64 q,.int .i64 0,.int .i64 0,.bool false]::(filesB fs++[J,.obj true e.2.blks])) Fn (ofH row q (fd,fs++[e])):=by
 have hr:∀k,k<4+i→(List.range (4+i)++[i+5])[k]?=some k:=fun k hk=>range_at _ _ hk
 have hr2:(List.range (4+i)++[i+5])[4+i]?=some (i+5):=range_beh0 _ _;have hX:=behind fs;rw[hi]at hX
 refine Weak.mk' (List.range (4+i)++[i+5]) ?_ ?_ hF (AWg.of _ _ (by simp[ofH,hi];omega) fun k x b hx hb hlt=>?_)
 · rw[List.nodup_append]
   exact⟨List.nodup_range,by simp,fun a ha b hb=>by have:=List.mem_range.1 ha;simp at hb;omega⟩
 · rw[List.take_append_of_le_length (by simp;omega),List.take_range,sfZ (by omega)]
 · have hk:k<4+i+1:=by
     have:=(q1Z.1 hb).1;simpa using this
   rw[q2Z]
   match k,hx,hb with
   | 0,hx,hb=>rw[hr 0 (by omega)]at hb;cases hb;cases hx;exact hrow _
   | 1,hx,hb=>rw[hr 1 (by omega)]at hb;cases hb;cases hx;exact⟨rfl,rfl⟩
   | 2,hx,hb =>
     rw[hr 2 (by omega)]at hb;cases hb;cases hx
     have:fileM (fun k=>if k<i then k+4 else i+5) 0 (fs++[e])=fileM (fun i=>i+4) 0 fs++[(.int .i64 e.1,.ptr (i+5) 0)]:=by
       rw[fileM_app,fileM_congr 0 fs (fun k _ hk=>if_pos (by omega))]
       simp[hi]
     simp only[r9Z,raZ,rgZ];rw[←this]
     refine AWb_fileM fun j hj=>?_
     simp only[qdZ,q7Z,q8Z,hi]at hj;by_cases h:j<i
     · rw[if_pos h,hr _ (by omega)]
     · have:j=i:=by omega
       subst this
       rw[if_neg h,Nat.add_comm j 4];exact hr2
   | 3,hx,hb =>
     rw[hr 3 (by omega)]at hb;cases hb;cases hx
     exact⟨id,⟨hr 1 (by omega),rfl⟩,by simp[AW,hr 2 (by omega)],⟨rfl,rfl⟩,⟨rfl,rfl⟩,⟨rfl,rfl⟩,rfl,trivial⟩
   | j+4,hx,hb =>
     unfold ofH at hx;simp only[r9Z]at hx;by_cases h:j<i
     · rw[hr _ (by omega)]at hb;cases hb
       simp only[r9Z]
       have hj:j<(filesB fs).length:=by rw[hX.len];exact h
       rw[q4Z hj]
       have e1:filesB (fs++[e])=filesB fs++[.obj true e.2.blks]:=by simp[filesB]
       rw[e1,q4Z hj]at hx;rw[hx];obtain⟨y,_,rfl⟩:=reZ.1 (qcZ hx);exact⟨rfl,rfl⟩
     · have:j=i:=by omega
       subst this
       rw[Nat.add_comm j 4,hr2]at hb;cases hb
       simp only[r9Z];rw[hX.get]
       have e1:filesB (fs++[e])=filesB fs++[.obj true e.2.blks]:=by simp[filesB]
       rw[e1,hX.get0]at hx;cases hx;exact⟨rfl,rfl⟩
theorem of_ctF(x:List (List UInt8×List UInt8))(hx:x.length≤1000000)(hk:∀e∈x,e.1.length≤9223372036854775807)(q:Int) : 
   Ct Pz 31 [.sl 0 0 x.length 2 false,.int .i64 q] [.cells false (flA x)] (match DS.ofF x q with | some _=>.ptr 1 0 | none=>.nilp) (match DS.ofF x q with | some d=>[.cells false (flA x),.obj true d.blks] | none=>[.cells false (flA x)]):=by
 have hΓ:=ofΓ_ok_Jof;refine ct_of_sim Tryz.func31 rfl ?_;simp only[Tryz.ntmps31,q7Z,q8Z,Nat.reduceAdd,Nat.reduceSub,qbZ,q9Z,qaZ];obtain⟨L,hL⟩:∃L,x.length=L:=⟨_,rfl⟩;obtain⟨row,hrow⟩:∃row:ABlk,ABlk.cells false (flA x)=row:=⟨_,rfl⟩
 have hrw:∀rn:List Nat,AWb rn row row:=fun rn=>by rw[←hrow];exact⟨id,(AWs_free (frees_flA x)).2 trivial⟩
 rw[hL]at hx ⊢
 refine Sim.step hmix hΓ (n:=0) (by simp;exact⟨rfl,rfl⟩) (by simp) ?_
 by_cases hq:q<0
 · have e:DS.ofF x q=none:=by unfold DS.ofF;rw[if_pos hq]
   rw[e]
   refine Sim.exec hmix hΓ (n:=0) (by simp[hq];exact⟨rfl,rfl,rfl⟩) (by simp) ?_
   exact⟨.inr rfl,_,by simp[Tryz.f31] <;> rfl,Weak.mk' [0] (by decide) (by decide) (by simp) (by simp[AWb])⟩
 have e:DS.ofF x q=(ofFold (FD.new,[]) x).map fun s=>⟨s.1.survive s.1.acts.length,s.2,q,0,0,false⟩:=by unfold DS.ofF;rw[if_neg hq]
 rw[e]
 refine Sim.step hmix hΓ (n:=0) (by simp[hq];exact⟨rfl,rfl⟩) (by simp) ?_
 refine Sim.step hmix hΓ (n:=0) (by simp[ofΓ,fnew0S];exact⟨rfl,rfl⟩) (by simp) ?_
 refine Sim.seq (Sim.mono (Q:=fun e F' H'=>(e=.normal∧∃s,OfI x L s∧Weak 1 F' H' ([.top,.top,.top,.top,.top,.ptr 3 0]++qbZ 44 .top) (ofH row q s))∨(e=.ret∧ofFold (FD.new,[]) x=none∧∃v1,resA Pz Tryz.f31.results.toList F' H'=some v1∧Weak 1 [v1] H' [.nilp] [row])) (Sim.step hmix hΓ (n:=0) (by simp;exact⟨rfl,rfl⟩) (by simp) ?_) ?_)
 · refine Sim.block (Sim.loopW (fun r:Nat×FD×FS=>r.1≤L∧OfI x r.1 r.2) (fun r=>[.sl 0 0 L 2 false,.int .i64 q,.top,.top,.top,.ptr 3 0]++qbZ 11 .top++[.sl 0 0 L 2 false,.int .i64 L,.int .i64 r.1]++qbZ 30 .top) (fun r=>ofH row q r.2) (fun r=>L-r.1) (0,FD.new,[]) (by simp) ⟨qqZ _,by simp,FD.ok_new,rfl,fun n hn=>by simp[FS.keys]at hn⟩ ?_ fun r hr=>?_)
   · rw[hrow]
     exact Weak.mk' [0,1,2,3] (by decide) (by decide) (by simp) ⟨by simpa using hrw _,by simp[AWb,AW,fileM,filesB,AWg]⟩
   · obtain⟨i,fd,fs⟩:=r
     obtain⟨hi,hr1,hr2,hr3,hr4⟩:=hr;dsimp only at hi hr1 hr2 hr3 hr4 ⊢;have hX:=behind fs;rw[hr3]at hX;have hXl:=hX.len;have hXg:=hX.get;have hXg0:=hX.get0;by_cases hlt:i<L;rotate_left
     · have hin:i=L:=by omega
       subst hin
       refine Sim.exec hmix hΓ (n:=0) (by simp;exact⟨rfl,rfl,rfl⟩) (by simp[ofH]) ?_
       dsimp only;rw[if_pos rfl]
       refine .inl ⟨by trivial,(fd,fs),⟨hr1,hr2,hr3,hr4⟩,?_⟩
       refine weak_idN (M:=i+4) (by simp[ofH,hr3]) (by omega) (fun rn hr=>by simp[AW,hr 3 (by omega)]) (by simp[ofH,hr3]) fun rn hr k x y hx hy=>?_
       rw[hx]at hy;cases hy
       unfold ofH at hx
       match k,hx with
       | 0,hx=>cases hx;exact hrw rn
       | 1,hx=>cases hx;exact⟨rfl,rfl⟩
       | 2,hx=>cases hx;exact AWb_fileM fun j hj=>hr _ (by rw[hr3]at hj;omega)
       | 3,hx=>cases hx;exact⟨id,⟨hr 1 (by omega),rfl⟩,by simp[AW,hr 2 (by omega)],⟨rfl,rfl⟩,⟨rfl,rfl⟩,⟨rfl,rfl⟩,rfl,trivial⟩
       | k+4,hx =>
         simp only[r9Z]at hx;obtain⟨e,_,rfl⟩:=reZ.1 (qcZ hx);exact⟨rfl,rfl⟩
     have hltI:(i:Int)<L:=by omega
     have hil:i<x.length:=by omega
     obtain⟨e,he⟩:∃e,x[i]=e:=⟨_,rfl⟩;have hg:=flA_get x i hil;rw[he]at hg
     have hek:=hk e (by rw[←he];exact r3Z hil)
     have hdr:x.drop i=e::x.drop (i+1):=by rw[List.drop_eq_getElem_cons hil,he]
     rw[hdr,ofFold_cons]at hr1
     have k1:i*2+2≤L*2:=by omega
     have y1:IntKind.i64.wrap ((i:Int)+1)=i+1:=wr_i64 (by omega) (by omega)
     have hsm:fd.small:=FD.ok_mono hr2 (by omega)
     have hok':=FD.ok_create hr2 e.1
     have hz:(fd.create e.1).2.2=0→(fd.create e.1).2.1=fd.last+1∧(fd.create e.1).1.last=fd.last+1:=by
       unfold FD.create;split
       · split
         · intro h;exact absurd h (by dsimp only;omega)
         · intro _;exact⟨rfl,rfl⟩
       · intro h;exact absurd h (by dsimp only;omega)
     obtain⟨f',num,er,hc⟩:∃f' num er,fd.create e.1=(f',num,er):=⟨_,_,_,rfl⟩;rw[hc]at hr1 hok' hz;dsimp only at hr1 hok' hz
     have hlook:=find_files (fun i=>i+4) num 0 fs 0
     have hA0:(ABlk.cells false (flA x))=row:=hrow
     have hw:=fun J F Fn hF=>of_weak row hrw q f' fs (num,⟨e.2,[]⟩) i hr3 J (F:=F) (Fn:=Fn) hF
     unfold ofH;dsimp only;obtain⟨X,eX⟩:∃X,filesB fs=X:=⟨_,rfl⟩;rw[eX]at hXl hXg hXg0 hw ⊢;rw[←hrow]
     refine Sim.step hmix hΓ (n:=0) (by simp[hltI];exact⟨rfl,rfl⟩) (by simp) ?_
     refine Sim.step hmix hΓ (n:=0) (by simp;exact⟨rfl,rfl⟩) (by simp) ?_
     refine Sim.seq (Sim.block ?_)
     refine Sim.step hmix hΓ (n:=0) (by simp +decide [hlt,hL,hg,k1,hXl];exact⟨rfl,rfl⟩) (by simp) ?_
     refine Sim.seq (Sim.draw hmix (by simp) ?_)
     refine SimR.many hΓ 6 (by simp[stageOps];rfl) (by omega) (by kernel_rfl) (by simp +decide [hXl,hXg,hXg0];first | exact⟨rfl,rfl⟩ | exact⟨by kernel_rfl,rfl,rfl⟩) ?_
     refine SimR.one hΓ _ rfl (by kernel_rfl) (by simp +decide [ofΓ,fcreS,hsm,hek,hc];exact⟨rfl,rfl⟩) ?_
     refine SimR.many hΓ 12 (by simp[stageOps,blankOp];rfl) (by omega) (by kernel_rfl) (by simp +decide;first | exact⟨rfl,rfl⟩ | exact⟨by kernel_rfl,rfl,rfl⟩) ?_
     refine SimR.done rfl ?_;dsimp only;by_cases her:er=0
     · subst her
       obtain⟨hnum,hlast⟩:=hz rfl;rw[if_pos rfl]at hr1
       have hfr:FS.get fs num=none:=FS.get_none.2 fun hm=>by have:=hr4 _ hm;omega
       rw[hfr]at hlook;simp only[Option.map_none]at hlook
       refine Sim.step hmix hΓ (n:=0) (by simp;exact⟨rfl,rfl⟩) (by simp) ?_
       refine Sim.draw hmix (by simp) ?_
       refine SimR.many hΓ 8 (by simp[stageOps];rfl) (by omega) (by kernel_rfl) (by simp +decide [ofΓ,fnewS,hXl,hXg,hXg0];first | exact⟨rfl,rfl⟩ | exact⟨by kernel_rfl,rfl,rfl⟩) ?_
       refine SimR.one hΓ _ rfl (by kernel_rfl) (by simp +decide [hlook];exact⟨rfl,rfl⟩) ?_
       refine SimR.done rfl ?_;dsimp only
       refine Sim.exec hmix hΓ (n:=0) (by simp[y1];exact⟨rfl,rfl,rfl⟩) (by simp) ?_
       dsimp only
       refine ⟨(i+1,f',fs++[(num,⟨e.2,[]⟩)]),⟨by dsimp only;omega,hr1,hok',by simp[hr3],fun n hn=>?_⟩,?_,by dsimp only;omega⟩
       · simp only[FS.keys,roZ,qxZ,s1Z,List.map_nil,r1Z]at hn
         rcases hn with hn | hn
         · have:=hr4 n hn;dsimp only;omega
         · dsimp only;omega
       · rw[hrow]
         have r0:(List.range (4+i)++[i+5])[0]?=some 0:=range_at _ _ (by omega)
         have r3:(List.range (4+i)++[i+5])[3]?=some 3:=range_at _ _ (by omega)
         have r0':∀h,(List.range (4+i)++[i+5])[0]'h=0:=fun h=>(q1Z.1 r0).2
         have r3':∀h,(List.range (4+i)++[i+5])[3]'h=3:=fun h=>(q1Z.1 r3).2
         refine hw _ _ _ ?_;simp[AW,r0,r3,r0',r3']
     · have her':(er==0)=false:=by simpa using her
       rw[if_neg her]at hr1
       refine Sim.exec hmix hΓ (n:=0) (by simp +decide [her,her'];exact⟨rfl,rfl,rfl⟩) (by simp) ?_
       dsimp only
       refine .inr ⟨by trivial,hr1.symm,.nilp,by simp[Tryz.f31],?_⟩
       rw[hrow]
       exact Weak.mk' [0] (by decide) (by decide) (by simp) ⟨by simpa using hrw _,trivial⟩
 rintro e F' H' hlen (⟨rfl,s,hs,hwk⟩ | ⟨rfl,hno,v1,hv1,hwk⟩)
 · dsimp only
   refine Sim.weak hwk hlen ?_;clear hwk hlen;have hfold:=hs.rest
   rw[List.drop_of_length_le (by omega),ofFold_nil]at hfold
   rw[←hfold];simp only[rhZ,q9Z,qaZ,qbZ];obtain⟨fd,fs⟩:=s
   have hal:fd.acts.length≤1000000:=by have:=hs.ok.len;dsimp only at this;omega
   have hfl:=hs.len;dsimp only at hfl ⊢;unfold ofH;dsimp only;obtain⟨d,hd⟩:∃d:DS,(⟨fd.survive fd.acts.length,fs,q,0,0,false⟩:DS)=d:=⟨_,rfl⟩
   refine Sim.step hmix hΓ (n:=0) (by simp[ofΓ,fsyn0S,hal];exact⟨rfl,rfl⟩) (by simp) ?_
   refine Sim.after (Sim.exec hmix hΓ (n:=0) (by simp;exact⟨rfl,rfl,rfl⟩) (by simp) ?_)
   have hat:DAt (row::.obj true (fd.survive fd.acts.length).blks::.map (fileM (fun i=>i+4) 0 fs)::.cells true [.ptr 1 0,.map 2,.int .i64 q,.int .i64 0,.int .i64 0,.bool false]::filesB fs) d 3 1 2 (·+4):=by
     rw[←hd]
     refine ⟨rfl,rfl,rfl,fun i e he=>?_,?_⟩
     · simp only[r9Z]
       exact filesB_get he
     · refine rdZ.2 ⟨fun h=>?_,rdZ.2 ⟨fun h=>?_,rdZ.2 ⟨fun h=>?_,?_⟩⟩⟩
       · rcases qwZ.1 h with h | h
         · omega
         rcases qwZ.1 h with h | h
         · omega
         · obtain⟨c,_,h⟩:=reZ.1 h;omega
       · rcases qwZ.1 h with h | h
         · omega
         · obtain⟨c,_,h⟩:=reZ.1 h;omega
       · obtain⟨c,_,h⟩:=reZ.1 h;omega
       · rw[List.nodup_iff_pairwise_ne,List.pairwise_map]
         exact (List.nodup_iff_pairwise_ne.1 List.nodup_range).imp fun h e=>h (by omega)
   rw[hd,hrow]
   refine Aft.closeAt hat (by simp) (Aft.done (by simp) ?_)
   refine ⟨.inr rfl,_,by simp[Tryz.f31] <;> rfl,Weak.mk' [0,3] (by decide) (by decide) (by simp[AWs,AW]) (AWg_closed (b:=3) (by simp) _ _ rfl fun i c x h1 h2=>?_)⟩
   match i,h1,h2 with
   | 0,h1,h2 =>
     cases h1;cases h2
     refine .inr ⟨⟨by omega,fun h=>?_⟩,hrw _⟩
     rcases qwZ.1 h with h | h
     · omega
     rcases qwZ.1 h with h | h
     · omega
     · obtain⟨c,_,h⟩:=reZ.1 h;omega
   | 1,h1,h2=>cases h1;cases h2;exact .inl ⟨rfl,rfl⟩
 · rw[hno]
   exact⟨.inr rfl,v1,hv1,by simpa[hrow] using hwk⟩
end
section
open Go Go.Lib
def orph(m:Mf)(l:List (List UInt8)):List (List UInt8):=sortU (l.filter fun s=>!lives m s)
theorem orph_mem(m:Mf)(l:List (List UInt8))(s:List UInt8):s∈orph m l↔s∈l∧lives m s=false:=by
 unfold orph;rw[(sortU_perm _).mem_iff,sbZ];simp
theorem orph_nd(m:Mf){l:List (List UInt8)}(h:l.Nodup):(orph m l).Nodup:=(sortU_perm _).symm.nodup (h.filter _)
def DS.drops:List (List UInt8)→DS→DS×Nat×Int
 | [],d=>(d,0,0)
 | s::l,d=>if (d.remove s).2=0 then ((DS.drops l (d.remove s).1).1,(DS.drops l (d.remove s).1).2.1+1,(DS.drops l (d.remove s).1).2.2) else ((d.remove s).1,0,(d.remove s).2)
def swE(r:DS×Nat×Int):DS×Nat×Int:=if r.2.2=0 then (if 0<r.2.1 then (r.1.syncDir.1,r.2.1,r.1.syncDir.2) else (r.1,r.2.1,0)) else r
def DS.sweep(d:DS)(m:Mf):DS×Nat×Int:=swE (DS.drops (orph m d.list) d)
structure SwG (F:List (List UInt8×List UInt8)) (lv:List UInt8→Bool) (fd:FD) (fs:FS):Prop where
 core:Core fd fs
 each:fd.each fun l _=>(∀e∈F,lv e.1=true→cont fs l e.1=some ⟨e.2,[]⟩)∧∀k n,NM.get l k=some n→∃b,(k,b)∈F∧cont fs l k=some ⟨b,[]⟩
theorem SwG.rem{F:List (List UInt8×List UInt8)}{lv:List UInt8→Bool}{fd:FD}{fs:FS}(h:SwG F lv fd fs){x:List UInt8}(hx:lv x=false):SwG F lv ⟨fd.d,fd.acts++[.rem x],fd.last⟩ fs:=by
 refine ⟨h.core.rem,FD.each_one h.each (fun _ _ _ _ h=>h) (.rem x) rfl rfl (Int.le_refl _) ?_⟩
 have hnd:=(FD.each_now h.core.num.2).nd;obtain⟨h1,h2⟩:=FD.each_now h.each
 have other:∀k,k≠x→cont fs (DAct.run (.rem x) fd.now) k=cont fs fd.now k:=fun k hk=>by
   unfold cont;simp only[DAct.run];rw[NM.get_del hnd,if_neg hk]
 refine ⟨fun e he hl=>?_,fun k n hk=>?_⟩
 · rw[other e.1 (by rintro rfl;rw[hx]at hl;cases hl)]
   exact h1 e he hl
 · simp only[DAct.run]at hk
   rw[NM.get_del hnd]at hk;split at hk
   · cases hk
   · rename_i hne
     rw[other k hne];exact h2 k n hk
theorem SwG.sync{F:List (List UInt8×List UInt8)}{lv:List UInt8→Bool}{fd:FD}{fs:FS}(h:SwG F lv fd fs):SwG F lv ⟨fd.now,[],fd.last⟩ fs:=by
 have e:∀i,druns fd.now (([]:List DAct).take i)=fd.now:=fun i=>by simp[druns]
 refine ⟨⟨⟨h.core.num.1,fun i _=>?_⟩,fun i _=>?_,h.core.rng⟩,fun i _=>?_⟩
 · dsimp only;rw[e];exact FD.each_now h.core.num.2
 · dsimp only;rw[e];exact FD.each_now h.core.has
 · dsimp only;rw[e];exact FD.each_now h.each
theorem drops_law{F:List (List UInt8×List UInt8)}{lv:List UInt8→Bool}:∀(xs:List (List UInt8)) (d:DS),d.down=false→SwG F lv d.fd d.fs→xs.Nodup→(∀x∈xs,lv x=false∧∃n,d.fd.now.get x=some n) →
   (DS.drops xs d).1.quota=d.quota∧SwG F lv (DS.drops xs d).1.fd (DS.drops xs d).1.fs∧(DS.drops xs d).2.1≤xs.length ∧
   (((DS.drops xs d).2.2=0∧(DS.drops xs d).1.down=false∧(DS.drops xs d).2.1=xs.length∧(DS.drops xs d).1.steps=d.steps+xs.length∧(∀k,(∃n,(DS.drops xs d).1.fd.now.get k=some n)↔(∃n,d.fd.now.get k=some n)∧k∉xs))∨((DS.drops xs d).2.2=13∧(DS.drops xs d).1.down=true))
 | [],d,h1,h2,h3,h4=>⟨rfl,h2,qnZ _,.inl ⟨rfl,h1,rfl,by simp[DS.drops],fun k=>by simp[DS.drops]⟩⟩
 | x::xs,d,h1,h2,h3,h4=>by
   obtain⟨hx,n,hn⟩:=h4 x (qhZ ..)
   obtain⟨q1,hs⟩:=stage_remove h1 (P:=fun fd fs=>fd=⟨d.fd.d,d.fd.acts++[.rem x],d.fd.last⟩∧fs=d.fs) (B:=SwG F lv) hn h2 ⟨rfl,rfl⟩
   have hst:(d.remove x).1.steps=d.steps+1∨(d.remove x).2≠0:=by
     unfold DS.remove DS.step;split
     · exact .inr (show (13:Int)≠0 by decide)
     · refine .inl ?_
       dsimp only;unfold DS.count
       split <;> rfl
   obtain⟨r1,r2,r3,r4⟩ | ⟨r1,r2,r3⟩:=hs
   · obtain⟨hx2,h3'⟩:=rdZ.1 h3
     have hnd:=(FD.each_now h2.core.num.2).nd
     have hnow:(d.remove x).1.fd.now=NM.del d.fd.now x:=by rw[r3,now_more];rfl
     have hget:∀k,(∃n,(d.remove x).1.fd.now.get k=some n)↔(∃n,d.fd.now.get k=some n)∧k≠x:=fun k=>by
       rw[hnow,NM.get_del hnd];split
       · rename_i e;simp[e]
       · rename_i e;simp[e]
     have ih:=drops_law xs (d.remove x).1 r2 (by rw[r3,r4];exact h2.rem hx) h3' fun y hy=>⟨(h4 y (qiZ _ hy)).1,(hget y).2 ⟨(h4 y (qiZ _ hy)).2,by rintro rfl;exact hx2 hy⟩⟩
     have hst:(d.remove x).1.steps=d.steps+1:=by
       rcases hst with h | h
       · exact h
       · exact absurd r1 h
     unfold DS.drops;rw[if_pos r1];dsimp only;obtain⟨g1,g2,g3,g4⟩:=ih
     refine ⟨g1.trans q1,g2,by simp;omega,?_⟩
     rcases g4 with⟨k1,k2,k3,k4,k5⟩ | g4
     · refine .inl ⟨k1,k2,by simp[k3],by rw[k4,hst];simp;omega,fun k=>?_⟩
       rw[k5,hget];simp only[qwZ,not_or];constructor
       · rintro⟨⟨a,b⟩,c⟩;exact⟨a,b,c⟩
       · rintro⟨a,b,c⟩;exact⟨⟨a,b⟩,c⟩
     · exact .inr g4
   · unfold DS.drops
     rw[if_neg (by omega)]
     dsimp only;exact⟨q1,r3,qqZ _,.inr ⟨r1,r2⟩⟩
theorem calm_drops:∀(xs:List (List UInt8)) (d:DS),d.armed=0→d.down=false→(DS.drops xs d).1.armed=0∧(DS.drops xs d).1.down=false
 | [],d,h1,h2=>⟨h1,h2⟩
 | x::xs,d,h1,h2=>by
   have c:=calm_remove x d h1 h2;unfold DS.drops;split
   · exact calm_drops xs _ c.1 c.2
   · exact c
theorem calm_sweep(m:Mf){d:DS}(h1:d.armed=0)(h2:d.down=false):(d.sweep m).1.armed=0∧(d.sweep m).1.down=false:=by
 have c:=calm_drops (orph m d.list) d h1 h2;unfold DS.sweep swE;split
 · split
   · exact calm_syncDir _ c.1 c.2
   · exact c
 · exact c
theorem ok_drops:∀(xs:List (List UInt8)) {d:DS} {A B:Nat},d.ok A B→(DS.drops xs d).1.ok (A+2*xs.length) B
 | [],d,A,B,h=>h
 | x::xs,d,A,B,h=>by
   have h1:=DS.ok_remove h x;unfold DS.drops;simp only[q7Z];split
   · exact DS.ok_mono (ok_drops xs h1) (by omega) (qnZ _)
   · exact DS.ok_mono h1 (by omega) (qnZ _)
theorem ok_sweep(m:Mf){d:DS}{A B:Nat}(h:d.ok A B){L:Nat}(hL:(orph m d.list).length≤L):(d.sweep m).1.ok (A+2*L+2) B:=by
 have h1:=ok_drops (orph m d.list) h;unfold DS.sweep swE;split
 · split
   · exact DS.ok_mono (DS.ok_syncDir h1) (by omega) (qnZ _)
   · exact DS.ok_mono h1 (by omega) (qnZ _)
 · exact DS.ok_mono h1 (by omega) (qnZ _)
theorem list_nd{d:DS}(hd:d.down=false)(hc:Core d.fd d.fs):d.list.Nodup:=by
 unfold DS.list;rw[hd];exact FD.names_nd hc.num
theorem list_some{d:DS}(hd:d.down=false)(x:List UInt8):x∈d.list↔∃n,d.fd.now.get x=some n:=by
 rw[list_mem hd]
 cases d.fd.now.get x <;> simp
theorem SwG.sub{F:List (List UInt8×List UInt8)}{lv:List UInt8→Bool}{d:DS}(h:SwG F lv d.fd d.fs)(hd:d.down=false):∀k∈d.list,k∈F.map Prod.fst:=fun k hk=>by
 obtain⟨n,hn⟩:=(list_some hd k).1 hk;obtain⟨b,h1,_⟩:=(FD.each_now h.each).2 k n hn;exact reZ.2 ⟨_,h1,rfl⟩
theorem nd_len:∀{a b:List (List UInt8)},a.Nodup→(∀x∈a,x∈b)→a.length≤b.length
 | [],_,_,_=>qqZ _
 | x::a,b,ha,h=>by
   obtain⟨h1,h2⟩:=rdZ.1 ha;have hx:=h x (qhZ ..)
   have:=nd_len (a:=a) (b:=b.erase x) h2 fun y hy=>(List.mem_erase_of_ne (by rintro rfl;exact h1 hy)).2 (h y (qiZ _ hy))
   rw[List.length_erase_of_mem hx]at this;have:=List.length_pos_of_mem hx;simp only[q7Z];omega
theorem orph_len{F:List (List UInt8×List UInt8)}{lv:List UInt8→Bool}{d:DS}(m:Mf)(h:SwG F lv d.fd d.fs)(hd:d.down=false):(orph m d.list).length≤F.length:=by
 have:=nd_len (orph_nd m (list_nd hd h.core)) (b:=F.map Prod.fst) fun x hx=>h.sub hd x ((orph_mem m _ x).1 hx).1
 simpa using this
theorem sweep_law{F:List (List UInt8×List UInt8)}(m:Mf){d:DS}(hd:d.down=false)(h:SwG F (lives m) d.fd d.fs) :
   (d.sweep m).1.quota=d.quota∧SwG F (lives m) (d.sweep m).1.fd (d.sweep m).1.fs∧(d.sweep m).2.1≤F.length ∧
   (((d.sweep m).2.2=0∧(d.sweep m).1.down=false∧(d.sweep m).2.1=(orph m d.list).length∧(d.sweep m).1.steps=d.steps+(if (orph m d.list).length=0 then 0 else (orph m d.list).length+1)∧(d.fd.acts=[]→(d.sweep m).1.fd.acts=[]) ∧
     (∀k,(∃n,(d.sweep m).1.fd.now.get k=some n)↔(∃n,d.fd.now.get k=some n)∧lives m k=true))∨((d.sweep m).2.2=13∧(d.sweep m).1.down=true)):=by
 have hl:=orph_len m h hd
 obtain⟨g1,g2,g3,g4⟩:=drops_law (orph m d.list) d hd h (orph_nd m (list_nd hd h.core)) fun x hx=>by
   obtain⟨h1,h2⟩:=(orph_mem m _ x).1 hx;exact⟨h2,(list_some hd x).1 h1⟩
 obtain⟨r,hr⟩:∃r,DS.drops (orph m d.list) d=r:=⟨_,rfl⟩
 have hsw:d.sweep m=swE r:=by unfold DS.sweep;rw[hr]
 rw[hr]at g1 g2 g3 g4;rw[hsw];rcases g4 with⟨k1,k2,k3,k4,k5⟩ | ⟨k1,k2⟩;rotate_left
 · unfold swE
   rw[if_neg (by omega)]
   exact⟨g1,g2,by omega,.inr ⟨k1,k2⟩⟩
 have names:∀k,(∃n,r.1.fd.now.get k=some n)↔(∃n,d.fd.now.get k=some n)∧lives m k=true:=fun k=>by
   rw[k5,orph_mem,list_some hd];constructor
   · rintro⟨a,b⟩
     refine ⟨a,?_⟩
     cases hv:lives m k with
     | true=>rfl
     | false=>exact absurd ⟨a,hv⟩ b
   · rintro⟨a,b⟩
     exact⟨a,fun c=>by rw[b]at c;cases c.2⟩
 unfold swE;rw[if_pos k1];split
 · rename_i hn
   have hne:¬(orph m d.list).length=0:=by omega
   obtain⟨q1,hs⟩:=stage_syncDir k2 (P:=fun fd fs=>fd=⟨r.1.fd.now,[],r.1.fd.last⟩∧fs=r.1.fs) (B:=SwG F (lives m)) g2 ⟨rfl,rfl⟩
   dsimp only;obtain⟨r1,r2,r3,r4⟩ | ⟨r1,r2,r3⟩:=hs
   · have hst:r.1.syncDir.1.steps=r.1.steps+1:=by
       unfold DS.syncDir DS.step at r1 ⊢;split
       · rename_i hx;rw[if_pos hx]at r1;exact absurd (show (13:Int)=0 from r1) (by decide)
       · simp
     refine ⟨q1.trans g1,by rw[r3,r4];exact g2.sync,by omega,.inl ⟨r1,r2,k3,?_,fun _=>by rw[r3],fun k=>?_⟩⟩
     · rw[hst,k4,if_neg hne];omega
     · rw[←names,r3]
       exact Iff.rfl
   · exact⟨q1.trans g1,r3,by omega,.inr ⟨r1,r2⟩⟩
 · rename_i hn
   have h0:(orph m d.list).length=0:=by omega
   have he:orph m d.list=[]:=List.length_eq_zero_iff.1 h0
   have hrd:r.1=d:=by rw[←hr,he];rfl
   refine ⟨g1,g2,by dsimp only;omega,.inl ⟨rfl,k2,k3,by rw[k4,h0];simp,fun h9=>by dsimp only;rw[hrd];exact h9,names⟩⟩
theorem SwG.restart{F:List (List UInt8×List UInt8)}{lv:List UInt8→Bool}{d:DS}{A B:Nat}(hok:d.ok A B)(h:SwG F lv d.fd d.fs)(l:List Int) :
   SwG F lv (d.restart l).fd (d.restart l).fs∧(d.restart l).fd.acts=[]∧(d.fd.acts=[]→(d.restart l).fd.now=d.fd.now):=by
 obtain⟨i,hi,e1,e2,_,_,e5⟩:=restart_cont hok l
 have hnow:(d.restart l).fd.now=druns d.fd.d (d.fd.acts.take i):=by rw[e1];simp[FD.now,druns]
 have hall:∀j,druns (d.restart l).fd.d ((d.restart l).fd.acts.take j)=(d.restart l).fd.now:=fun j=>by rw[e1];simp[FD.now,druns]
 have hset:∀k b,cont d.fs (druns d.fd.d (d.fd.acts.take i)) k=some ⟨b,[]⟩→cont (d.restart l).fs (d.restart l).fd.now k=some ⟨b,[]⟩:=fun k b hk=>by
   rcases e5 k with⟨g1,g2⟩ | ⟨f0,f',g1,g2,g3⟩
   · rw[g1]at hk;cases hk
   · rw[g1]at hk
     cases hk
     rw[g2,g3 (fun x=>x=⟨b,[]⟩) rfl fun g a c hg=>by subst hg;rw[PF.stays_settled]]
 refine ⟨⟨(DS.ok_restart hok l).core,fun j hj=>?_⟩,by rw[e1],fun ha=>by rw[hnow,ha];simp[FD.now,ha]⟩
 dsimp only;rw[hall j];obtain⟨h1,h2⟩:=h.each i hi
 refine ⟨fun e he hl=>hset _ _ (h1 e he hl),fun k n hk=>?_⟩
 rw[hnow]at hk;obtain⟨b,h3,h4⟩:=h2 k n hk;exact⟨b,h3,hset _ _ h4⟩
theorem ok_steps{fd:FD}{fs:FS}{q st ar:Int}{dn:Bool}{A B:Nat}(h:DS.ok ⟨fd,fs,q,st,ar,dn⟩ A B):DS.ok ⟨fd,fs,q,0,0,false⟩ A B :=
 ⟨h.fd,h.num,h.has,h.rng,h.nd,h.fine,h.len,h.q0,h.q1,Int.le_refl _,by dsimp only;omega,Int.le_refl _,by dsimp only;omega⟩
theorem swof_step{fd:FD}{fs:FS}{q:Int}{A B:Nat}(h:DS.ok ⟨fd,fs,q,0,0,false⟩ A B){k b:List UInt8}(hb:b.length≤B)(hm:mayF k)(hg:fd.now.get k=none):DS.ok ⟨fdN fd k,fsN fd fs ⟨b,[]⟩,q,0,0,false⟩ (A+2) B:=by
 have h1:=DS.ok_create h k
 have e:((⟨fd,fs,q,0,0,false⟩:DS).create k).1=⟨fdN fd k,fsN fd fs ⟨[],[]⟩,q,1,0,false⟩:=by
   unfold DS.create DS.step DS.count FD.create;simp[hm,hg]
 rw[e]at h1
 have h2:=DS.ok_fs (C:=B) h1 (fd.last+1) (fun _=>⟨b,[]⟩) (fun f _=>PF.ok_new _ _ hb) (qnZ _)
 have hf:fd.last+1∉FS.keys fs:=fun hn=>by have:=(h.rng _ hn).2;dsimp only at this;omega
 dsimp only at h2;rw[FS.upd_app hf]at h2;exact ok_steps h2
theorem swof_fold{q:Int}{B:Nat}:∀(F dn:List (List UInt8×List UInt8)) (fd:FD) (fs:FS) (A:Nat),DS.ok ⟨fd,fs,q,0,0,false⟩ A B→(∀e∈F,mayF e.1∧e.2.length≤B)→((dn++F).map Prod.fst).Nodup →
   (∀k,(∃n,fd.now.get k=some n)↔k∈dn.map Prod.fst)→(∀e∈dn,cont fs fd.now e.1=some ⟨e.2,[]⟩) →
   ∃fd' fs',ofFold (fd,fs) F=some (fd',fs')∧DS.ok ⟨fd',fs',q,0,0,false⟩ (A+2*F.length) B∧(∀k,(∃n,fd'.now.get k=some n)↔k∈(dn++F).map Prod.fst)∧∀e∈dn++F,cont fs' fd'.now e.1=some ⟨e.2,[]⟩
 | [],dn,fd,fs,A,h,_,_,h3,h4=>⟨fd,fs,rfl,h,by simpa using h3,by simpa using h4⟩
 | e::F,dn,fd,fs,A,h,hm,hnd,h3,h4=>by
   have hg:fd.now.get e.1=none:=by
     cases hx:fd.now.get e.1 with
     | none=>rfl
     | some n =>
       have h9:=(h3 e.1).1 ⟨n,hx⟩;rw[roZ,List.nodup_append]at hnd
       exact absurd rfl (hnd.2.2 _ h9 _ (by simp))
   obtain⟨m1,m2⟩:=hm e (qhZ ..);have hs:=swof_step h m2 m1 hg
   have hcr:fd.create e.1=(fdN fd e.1,fd.last+1,0):=by
     unfold FD.create;rw[if_pos m1,hg]
   have hnow:(fdN fd e.1).now=NM.put fd.now e.1 (fd.last+1):=by rw[now_more];rfl
   have hf:fd.last+1∉FS.keys fs:=fun hn=>by have:=(h.rng _ hn).2;dsimp only at this;omega
   have e1:dn++e::F=(dn++[e])++F:=by simp
   rw[e1]at hnd ⊢
   obtain⟨fd',fs',g1,g2,g3,g4⟩:=swof_fold F (dn++[e]) (fdN fd e.1) (fsN fd fs ⟨e.2,[]⟩) (A+2) hs (fun x hx=>hm x (qiZ _ hx)) hnd (fun k=>by
       rw[hnow,NM.get_put];simp only[roZ,s1Z,List.map_nil,qxZ,r1Z];split
       · rename_i ek;simp[ek]
       · rename_i ek;rw[h3];simp[ek]) (fun x hx=>by
       rcases qxZ.1 hx with hx | hx
       · obtain⟨n,k1,k2⟩:=cont_get (h4 x hx)
         have hne:x.1≠e.1:=fun ek=>by rw[ek,hg]at k1;cases k1
         rw[cont_of (n:=n) (by rw[hnow,NM.get_put,if_neg hne];exact k1),FS.get_app,k2]
       · simp only[r1Z]at hx
         subst hx
         rw[cont_of (n:=fd.last+1) (by rw[hnow,NM.get_put,if_pos rfl])]
         exact FS.get_new hf)
   refine ⟨fd',fs',?_,DS.ok_mono g2 (by simp;omega) (qnZ _),g3,g4⟩
   rw[ofFold_cons];dsimp only;rw[hcr];exact (if_pos rfl).trans g1
theorem swof_law(F:List (List UInt8×List UInt8)){B:Nat}(hm:∀e∈F,mayF e.1∧e.2.length≤B)(hnd:(F.map Prod.fst).Nodup)(q:Int)(hq:0≤q)(hq2:q≤4611686018427387903)(lv:List UInt8→Bool) :
   ∃d,DS.ofF F q=some d∧d.ok (2*F.length+2) B∧d.quota=q∧d.steps=0∧d.armed=0∧d.down=false∧d.fd.acts=[]∧SwG F lv d.fd d.fs∧(∀k,(∃n,d.fd.now.get k=some n)↔k∈F.map Prod.fst):=by
 have h0:DS.ok ⟨FD.new,[],q,0,0,false⟩ 0 B:=DS.ok_mono (DS.ok_new q hq hq2) (qnZ _) (qqZ _)
 obtain⟨fd,fs,g1,g2,g3,g4⟩:=swof_fold F [] FD.new [] 0 h0 hm (by simpa using hnd) (fun k=>by simp[FD.new,FD.now,druns,NM.get]) (fun e he=>by simp at he)
 simp only[qaZ]at g3 g4
 have hsv:fd.survive fd.acts.length=⟨fd.now,[],fd.last⟩:=by
   unfold FD.survive FD.now
   have:fd.clamp fd.acts.length=fd.acts.length:=by unfold FD.clamp;omega
   rw[this,List.take_length]
 have h1:=DS.ok_syncDir g2
 have e:((⟨fd,fs,q,0,0,false⟩:DS).syncDir).1=⟨⟨fd.now,[],fd.last⟩,fs,q,1,0,false⟩:=by
   unfold DS.syncDir DS.step DS.count;simp[hsv]
 rw[e]at h1;have h2:=ok_steps h1
 refine ⟨⟨⟨fd.now,[],fd.last⟩,fs,q,0,0,false⟩,?_,DS.ok_mono h2 (by omega) (qnZ _),rfl,rfl,rfl,rfl,rfl,⟨h2.core,fun i _=>?_⟩,g3⟩
 · unfold DS.ofF
   rw[if_neg (by omega),g1]
   simp[hsv]
 · have e:druns fd.now (([]:List DAct).take i)=fd.now:=by simp[druns]
   dsimp only;rw[e]
   refine ⟨fun x hx _=>g4 x hx,fun k n hk=>?_⟩
   obtain⟨x,hx,rfl⟩:=reZ.1 ((g3 k).1 ⟨n,hk⟩);exact⟨x.2,hx,g4 x hx⟩
end
section
open Go Go.Lib
attribute [-simp] drawOk_eq adraw qrun acode aops
theorem tclone_ct(s:List (List UInt8))(hs:s.length≤1000000000)(h0:s≠[]) :
   Ct Pz 90 [.sl 0 0 s.length 1 false] [.cells false (s.map AV.str)] (.slice 1 0 s.length 1 false) [.cells false (s.map AV.str),.cells true (s.map AV.str)]:=by
 have b1:s.length*16≤140737488355328:=by omega
 have b2:s.length≤9223372036854775807:=by omega
 have h1:s.length≠0:=by simpa using h0
 have ht:(s.map AV.str).take s.length=s.map AV.str:=q6Z (by simp)
 have hA:∀rn:List Nat,AWs rn (s.map AV.str) (s.map AV.str):=fun rn=>AWs.refl _ _ (frees_map _ _ fun _=>rfl)
 refine ct_slN (pre:=[]) ?_ fun h2=>absurd h2 h1
 refine ct_runE hmix goks_nil (n:=0) Tryz.func90 ?_;unfold Tryz.f90
 exact⟨_,_,(by simp[h0,h1,b1,b2,ht];exact⟨rfl,rfl⟩),Weak.mk' [0,2] (by decide) rfl (by simp) (by simp[AWg,AWb,hA])⟩
def tcloneS:Summ:=readNewS fun args H=>match args with
 | [x]=>match rowSt H x with
   | some a=>if a.length≠0∧a.length≤1000000000 then some (.slice 0 0 a.length 1 false,[.cells true (a.map AV.str)]) else none
   | none=>none
 | _=>none
theorem tclone_sound:Sound Pz 90 tcloneS:=by
 refine sound_readNew (enter_of Tryz.func90 rfl (by decide)) fun args H v N h=>?_
 split at h <;> try cases h
 rename_i x
 split at h <;> try cases h
 rename_i a hx
 split at h <;> cases h
 rename_i hc;obtain⟨b1,o1,w1,g1⟩:=rowSt_win hx
 refine ct_winN (H0:=[.cells false (a.map AV.str)]) (args0:=[.sl 0 0 a.length 1 false]) ?_ rfl [(b1,o1)] ⟨w1 0 _ rfl,trivial⟩ ⟨g1,frees_map _ _ fun _=>rfl,trivial⟩
 have:=tclone_ct a hc.2 (by rintro rfl;exact hc.1 rfl)
 simpa[shA,shB,shAs_freeN 1 _ (frees_map a AV.str fun _=>rfl)] using this
def tsortN:Summ:=fun args H=>match args with
 | [.nils]=>some (.tuple [],H,[])
 | _=>none
theorem tsortN_sound:Sound Pz 92 tsortN:=by
 refine ⟨enter_of Tryz.func92 rfl (by decide),fun args H v H' W hs=>?_,fun args H v H' W hs=>?_⟩ <;> (unfold tsortN at hs;split at hs <;> cases hs)
 · intro j w cargs hR hargs
   obtain⟨v,cs,e,h1,h2⟩:=hargs;simp only[VRs]at h2;subst h2;simp only[VR]at h1;subst h1
   obtain rfl:cargs=#[.slice none 0 0]:=by apply Array.ext';rw[e]
   refine (Tryz.slices_Sort_string_none none 0 w).mono ?_;rintro e w' ⟨rfl,rfl⟩;exact⟨_,j,rfl,⟨#[],rfl,rfl⟩,Step.refl hR (qnZ _)⟩
 · exact⟨qnZ _,fun _ _ _=>rfl⟩
theorem orph_keep(m:Mf)(l:List (List UInt8)):orph m l=sortU (keepL m l):=rfl
theorem noTwin_nd{l:List (List UInt8)}(h:l.Nodup):noTwin l:=fun k hk e=>by
 exact List.pairwise_iff_getElem.1 h k (k+1) (by omega) hk (by omega) e.symm
def orphR(m:Mf)(l:List (List UInt8)):List AV:=(orph m l).map AV.str++qbZ (l.length-(orph m l).length) (.str [])
theorem frees_orphR(m:Mf)(l:List (List UInt8)):frees (orphR m l)=true:=frees_iff.2 fun v hv=>by
 rcases qxZ.1 hv with h | h
 · obtain⟨_,_,rfl⟩:=reZ.1 h;rfl
 · rw[List.eq_of_mem_replicate h];rfl
noncomputable def dlX(m:Mf)(l:List (List UInt8)):Summ:=onceS [.slice 3 0 l.length 1 false,.func 91 [] [.ptr 2 0]] (dlH m false (l.map .str) (l.map .str)) (.slice 3 0 (keepL m l).length 1 false)
 (dlH m false (l.map .str) ((keepL m l).map .str++qbZ (l.length-(keepL m l).length) (.str []))) [3]
theorem opΓ_ok(m:Mf)(l:List (List UInt8))(hm:m.segs.length≤1000000000000)(hl:l.length≤1000000000000)(hs:∀s∈l,s.length≤1000000) :
   GOk Pz (gams [(90,tcloneS),(89,dlX m l),(92,tsortS),(93,tcompS)]) :=
 goks_cons tclone_sound (goks_cons (sound_once (enter_of Tryz.func89 rfl (by decide)) (deleteT_ct m false (l.map .str) (frees_map _ _ fun _=>rfl) l hm hl hs) (by simp[dlH]) fun b hb hn=>by
   simp only[r1Z]at hn
   match b,hb,hn with
   | 0,_,_=>rfl
   | 1,_,_=>rfl
   | 2,_,_=>rfl
   | 3,_,hn=>exact absurd rfl hn
   | b+4,hb,_=>simp only[dlH,q7Z,q8Z]at hb;omega) (goks_cons tsort_sound (goks_cons tcomp_sound goks_nil)))
def opInl:List FuncId:=[90,89,158,93]
theorem op0Γ_ok:GOk Pz (runG Pz (gams [(92,tsortN)]) 4 opInl 3):=gok_run hmix (goks_cons tsortN_sound goks_nil) 4 opInl 3
theorem op1Γ_ok:GOk Pz (runG Pz (gams [(92,tsortS)]) 4 opInl 3):=gok_run hmix (goks_cons tsort_sound goks_nil) 4 opInl 3
theorem orph_ct(m:Mf)(l:List (List UInt8))(hm:m.segs.length≤1000000000000)(hl:l.length≤1000000)(hs:∀s∈l,s.length≤1000000)(hnd:l.Nodup) :
   Ct Pz 30 [mfA 0 m,.sl 1 0 l.length 1 false] [.cells false (sgsA m.segs),.cells false (l.map AV.str)] (.sl 2 0 (orph m l).length 1 false) [.cells false (sgsA m.segs),.cells false (l.map AV.str),.cells true (orphR m l)]:=by
 have hA3:∀rn:List Nat,AWs rn (sgsA m.segs) (sgsA m.segs):=fun rn=>AWs.refl _ _ (by simp)
 by_cases h0:l=[]
 · subst h0
   have he:orph m []=[]:=rfl;have hr:orphR m []=[]:=rfl;rw[he,hr];obtain⟨v,f,nx,sg⟩:=m;simp only[mfA];dsimp only at hA3 ⊢
   refine ct_slN (pre:=[.agg [.int .i64 v,.int .i64 f,.int .i64 nx,.sl 0 0 sg.length 3 false]]) ?_ fun _=>?_
   · refine ct_of_sim Tryz.func30 rfl ?_
     simp only[Tryz.ntmps30,q7Z,q8Z,Nat.reduceAdd,Nat.reduceSub,qbZ,q9Z,qaZ]
     refine Sim.step hmix op1Γ_ok (n:=4) (by simp;exact⟨rfl,rfl⟩) (by simp) ?_
     refine Sim.step hmix op1Γ_ok (n:=4) (by simp +decide [opInl,Tryz.f90,Tryz.f89,Tryz.f158];exact⟨rfl,rfl⟩) (by simp) ?_
     refine Sim.step hmix op1Γ_ok (n:=4) (by simp +decide [opInl,tsortS,strsOf,sortU];exact⟨rfl,rfl⟩) (by simp) ?_
     refine Sim.exec hmix op1Γ_ok (n:=4) (by simp +decide [opInl,Tryz.f93];exact⟨rfl,rfl,rfl⟩) (by simp) ?_
     exact⟨.inr rfl,_,by simp[Tryz.f30] <;> rfl,Weak.mk' [0,1,3] (by decide) (by decide) (by simp) (by simp[AWg,AWb,hA3])⟩
   · refine ct_of_sim Tryz.func30 rfl ?_
     simp only[Tryz.ntmps30,q7Z,q8Z,Nat.reduceAdd,Nat.reduceSub,qbZ,q9Z,qaZ]
     refine Sim.step hmix op0Γ_ok (n:=4) (by simp;exact⟨rfl,rfl⟩) (by simp) ?_
     refine Sim.step hmix op0Γ_ok (n:=4) (by simp +decide [opInl,Tryz.f90,Tryz.f89,Tryz.f158];exact⟨rfl,rfl⟩) (by simp) ?_
     refine Sim.step hmix op0Γ_ok (n:=4) (by simp +decide [opInl,tsortN];exact⟨rfl,rfl⟩) (by simp) ?_
     refine Sim.exec hmix op0Γ_ok (n:=4) (by simp +decide [opInl,Tryz.f93];exact⟨rfl,rfl,rfl⟩) (by simp) ?_
     exact⟨.inr rfl,_,by simp[Tryz.f30] <;> rfl,Weak.mk' [0,1,100] (by decide) (by decide) (by simp) (by simp[AWg,AWb,hA3])⟩
 · have hne:l.length≠0:=by simpa using h0
   have hΓ:=opΓ_ok m l hm (by omega) hs
   have hl9:l.length≤1000000000:=by omega
   have ht:(l.map AV.str).take l.length=l.map AV.str:=q6Z (by simp)
   have hst:strsOf (l.map AV.str)=some l:=strsOf_map l;have hS:dlX m l=dlX m l:=rfl
   conv at hS=>rhs;unfold dlX dlH
   unfold orphR;rw[orph_keep];obtain⟨K,hK⟩:∃K,keepL m l=K:=⟨_,rfl⟩
   have hKn:(sortU K).Nodup:=by rw[←hK,←orph_keep];exact orph_nd m hnd
   have hKl:K.length≤l.length:=by rw[←hK];exact keepL_le m l
   have hsl:(sortU K).length=K.length:=(sortU_perm K).length_eq;rw[hK]at hS ⊢;rw[hsl];obtain⟨k,hk⟩:∃k,K.length=k:=⟨_,rfl⟩;rw[hk]at hS hKl hsl ⊢;obtain⟨R,hR⟩:∃R,qbZ (l.length-k) (AV.str [])=R:=⟨_,rfl⟩
   have hRf:frees R=true:=by rw[←hR];exact frees_iff.2 fun v hv=>by rw[List.eq_of_mem_replicate hv];rfl
   rw[hR]at hS ⊢;obtain⟨B,hB⟩:∃B,K.map AV.str++R=B:=⟨_,rfl⟩
   have hBt:strsOf (B.take k)=some K:=by rw[←hB,List.take_append_of_le_length (by simp[hk]),q6Z (by simp[hk]),strsOf_map]
   have hBd:B.drop k=R:=by rw[←hB,List.drop_append_of_le_length (by simp[hk]),List.drop_of_length_le (by simp[hk]),qaZ]
   rw[hB]at hS;obtain⟨C,hC⟩:∃C,(sortU K).map AV.str++R=C:=⟨_,rfl⟩
   have hCt:strsOf (C.take k)=some (sortU K):=by rw[←hC,List.take_append_of_le_length (by simp[hsl]),q6Z (by simp[hsl]),strsOf_map]
   have hCd:C.drop k=R:=by rw[←hC,List.drop_append_of_le_length (by simp[hsl]),List.drop_of_length_le (by simp[hsl]),qaZ]
   rw[hC]
   have hCf:frees C=true:=by rw[←hC];exact frees_iff.2 fun v hv=>by
                                     rcases qxZ.1 hv with h | h
                                     · obtain⟨_,_,rfl⟩:=reZ.1 h;rfl
                                     · exact frees_iff.1 hRf v h
   have hA4:∀rn:List Nat,AWs rn C C:=fun rn=>AWs.refl _ _ hCf
   have hA1:∀rn:List Nat,AWs rn (l.map AV.str) (l.map AV.str):=fun rn=>AWs.refl _ _ (frees_map _ _ fun _=>rfl)
   have hk9:k≤1000000000:=by omega
   have hk12:k≤1000000000000:=by omega
   have hnt:=noTwin_nd hKn
   have hsh:shAs 3 (l.map AV.str)=l.map AV.str:=shAs_freeN 3 _ (frees_map l AV.str fun _=>rfl)
   obtain⟨v,f,nx,sg⟩:=m;simp only[mfA];dsimp only at hA3 hS ⊢;refine ct_of_sim Tryz.func30 rfl ?_;simp only[Tryz.ntmps30,q7Z,q8Z,Nat.reduceAdd,Nat.reduceSub,qbZ,q9Z,qaZ]
   refine Sim.step hmix hΓ (n:=0) (by simp;exact⟨rfl,rfl⟩) (by simp) ?_
   refine Sim.step hmix hΓ (n:=0) (by simp +decide [tcloneS,readNewS,rowSt,ht,hst,hne,h0,hl9,shA,shB,hsh,hS,onceS];exact⟨rfl,rfl⟩) (by simp) ?_
   refine Sim.step hmix hΓ (n:=0) (by simp +decide [tsortS,hBt,hBd,hk,hk9,hC];exact⟨rfl,rfl⟩) (by simp) ?_
   refine Sim.exec hmix hΓ (n:=0) (by simp +decide [tcompS,hCt,hCd,hsl,hk12,hnt,hRf];exact⟨rfl,rfl,rfl⟩) (by simp) ?_
   exact⟨.inr rfl,_,by simp[Tryz.f30] <;> rfl,Weak.mk' [0,1,3] (by decide) (by decide) (by simp) (by simp[AWg,AWb,hA1,hA3,hA4])⟩
def smallT(l:List (List UInt8)):Prop:=l.Nodup∧l.length≤1000000∧∀s∈l,s.length≤1000000
open Classical in
noncomputable def orphS:Summ:=readNewS fun args H=>match args with
 | [x,y]=>match mfOf H x,rowSt H y with
   | some m,some l=>if smallT l∧m.segs.length≤1000000000000 then some (.sl 0 0 (orph m l).length 1 false,[.cells true (orphR m l)]) else none
   | _,_=>none
 | _=>none
theorem orph_sound:Sound Pz 30 orphS:=by
 refine sound_readNew (enter_of Tryz.func30 rfl (by decide)) fun args H v N h=>?_
 split at h <;> try cases h
 rename_i x y
 split at h <;> try cases h
 rename_i m l hx hy
 split at h <;> cases h
 rename_i hc;obtain⟨⟨c1,c2,c3⟩,c4⟩:=hc;obtain⟨b1,o1,w1,g1⟩:=mf_win hx;obtain⟨b2,o2,w2,g2⟩:=rowSt_win hy
 refine ct_winN (H0:=[.cells false (sgsA m.segs),.cells false (l.map AV.str)]) (args0:=[mfA 0 m,.sl 1 0 l.length 1 false]) ?_ rfl [(b1,o1),(b2,o2)] ⟨w1 0 _ rfl,w2 1 _ rfl,trivial⟩ ⟨g1,by simp,g2,frees_map _ _ fun _=>rfl,trivial⟩
 have:=orph_ct m l c4 c2 c3 c1;simpa[shA,shB,shAs_freeN 2 _ (frees_orphR m l)] using this
end
end Go.Proofs.YthafeihjlamhhaaGreatDoor
