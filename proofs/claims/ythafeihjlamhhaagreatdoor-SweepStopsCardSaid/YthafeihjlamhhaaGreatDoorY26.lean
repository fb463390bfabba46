/- Parts of the proof of SweepStops: lemmas, each with its own conditions. -/
import Derived.Test.YthafeihjlamhhaaGreatDoorY23
import Derived.Test.YthafeihjlamhhaaGreatDoorY24
import Derived.Test.YthafeihjlamhhaaGreatDoorY25
set_option maxHeartbeats 64000000
open List renaming getElem?_eq_some_iff → q1Z, getD_eq_getElem?_getD → q2Z, getElem?_append_left → q4Z, take_of_length_le → q6Z, length_cons → q7Z, length_nil → q8Z, cons_append → q9Z, nil_append → qaZ, replicate → qbZ, getElem?_set_ne → qfZ, getElem?_set_self → qgZ, mem_cons → qwZ, mem_singleton → r1Z, length_map → r7Z, not_mem_nil → rtZ
open Nat renaming le_refl → qnZ, zero_le → qqZ
namespace Go.Proofs.YthafeihjlamhhaaGreatDoor
open _root_.Go.Proofs.Tryz renaming prog → Pz
set_option maxRecDepth 100000
section
open Go
theorem set_same{H:AHeap}{b b2:Nat}{B X:ABlk}(h:H[b2]?=some X)(hne:b≠b2):(H.set b B).set b2 X=H.set b B:=by
 have hbl2:b2<H.length:=(q1Z.1 h).1
 refine List.ext_getElem? fun i=>?_
 by_cases hi:i=b2
 · subst hi
   rw[qgZ (by simpa using hbl2),qfZ hne,h]
 · rw[qfZ (Ne.symm hi)]
end
section
open Go Go.Lib
attribute [-simp] drawOk_eq adraw qrun acode aops
noncomputable def dpΓ0:Gam:=gams [(115,dremS)]
theorem dpΓ_ok:GOk Pz (runG Pz dpΓ0 0 [181] 2):=gok_run hmix (goks_cons drem_sound goks_nil) 0 [181] 2
abbrev dpC:List AV:=[.func 181 [] [.ptr 2 0,.ptr 3 0]]
abbrev dpH(s:List UInt8)(d:DS):AHeap:=[.obj true d.blks,.cells true [.str s],.cells true [.func 115 [.ptr 0 0] []],.cells true [.str s],.cells true dpC,.cells true dpC]
theorem dprow_ct(d:DS)(hd:d.small)(s:List UInt8):Ct Pz 119 [.slice 5 0 1 1 false] (dpH s d) (.int .i64 (d.remove s).2) (dpH s (d.remove s).1):=by
 have c0:∀X,∃W,runG Pz dpΓ0 0 [181] 2 181 ([]++[.ptr 2 0,.ptr 3 0]) (dpH s d++X)=some (.int .i64 (d.remove s).2,dpH s (d.remove s).1++X,W):=fun X=>by
   simp[dpΓ0,dremS,hd,Tryz.f181]
 by_cases h:(d.remove s).2=0
 · have:=row_ct dpΓ_ok 6 5 1 (by decide) (fun i=>dpH s (if i=0 then d else (d.remove s).1)) dpC (fun _=>181) (fun _=>[]) (fun _=>[.ptr 2 0,.ptr 3 0]) (fun _=>(d.remove s).2) 1 (by decide) (fun i _=>rfl) (fun i _=>rfl) rfl (fun i hi=>?_) (fun i hi=>by decide) (fun i hi rn hr B hB=>?_) (fun i _=>h) (fun h=>by omega) (fun i hi hi4 X=>?_)
   · rw[h]
     exact this
   · match i,hi with
     | 0,_=>exact rfl
   · simp only[dpH,qwZ,rtZ,or_false]at hB
     have q:∀j,j<6→rn[j]?=some j:=hr
     rcases hB with rfl | rfl | rfl | rfl | rfl | rfl <;> simp[AWb,AW,q]
   · match i,hi4 with
     | 0,_=>exact c0 X
 · have:=row_ct dpΓ_ok 6 5 1 (by decide) (fun i=>dpH s (if i=0 then d else (d.remove s).1)) dpC (fun _=>181) (fun _=>[]) (fun _=>[.ptr 2 0,.ptr 3 0]) (fun _=>(d.remove s).2) 0 (by decide) (fun i _=>rfl) (fun i _=>rfl) rfl (fun i hi=>?_) (fun i hi=>by decide) (fun i hi rn hr B hB=>?_) (fun i hi=>by omega) (fun _=>h) (fun i hi hi4 X=>?_)
   · exact this
   · match i,hi with
     | 0,_=>exact rfl
   · simp only[dpH,qwZ,rtZ,or_false]at hB
     have q:∀j,j<6→rn[j]?=some j:=hr
     rcases hB with rfl | rfl | rfl | rfl | rfl | rfl <;> simp[AWb,AW,q]
   · match i,hi4 with
     | 0,_=>exact c0 X
theorem drop1_ct(d:DS)(hd:d.small)(s:List UInt8)(c:Bool):Ct Pz 98 [.ptr 0 0,.slice 1 0 1 1 c] [.obj true d.blks,.cells true [.str s]] (.int .i64 (d.remove s).2) [.obj true (d.remove s).1.blks,.cells true [.str s]]:=by
 have hrow:=dprow_ct d hd s;obtain⟨d',hd'⟩:∃d',(d.remove s).1=d':=⟨_,rfl⟩;obtain⟨e',he'⟩:∃e',(d.remove s).2=e':=⟨_,rfl⟩;rw[hd',he']at hrow ⊢;simp only[dpH,dpC]at hrow
 have hΓ:GOk Pz (gams [(114,pofS),(119,oneAt _ _ _ _)]) :=
   goks_cons pof_sound (goks_cons (oneAt_sound (enter_of Tryz.func119 rfl (by decide)) hrow (qnZ _)) goks_nil)
 refine ct_of_sim Tryz.func98 rfl ?_;simp only[Tryz.ntmps98,q7Z,q8Z,Nat.reduceAdd,Nat.reduceSub,qbZ,q9Z,qaZ]
 refine Sim.step hmix hΓ (n:=0) (by simp;exact⟨rfl,rfl⟩) (by simp) ?_
 refine Sim.step hmix hΓ (n:=0) (by simp;exact⟨rfl,rfl⟩) (by simp) ?_
 refine Sim.seq (Sim.step hmix hΓ (n:=0) (by simp;exact⟨rfl,rfl⟩) (by simp) ?_)
 refine Sim.block (Sim.loopW (fun k:Nat=>k≤1)
   (fun k=>[.ptr 0 0,.top,.top,.top,.top,(if k=0 then .nils else .slice 5 0 1 1 false),.top,.top,.slice 1 0 1 1 c,.int .i64 1,.int .i64 k]++qbZ 13 .top)
   (fun k=>if k=0 then [.obj true d.blks,.cells true [.str s]] else [.obj true d.blks,.cells true [.str s],.cells true [.func 115 [.ptr 0 0] []],.cells true [.str s],.cells true [.func 181 [] [.ptr 2 0,.ptr 3 0]],.cells true [.func 181 [] [.ptr 2 0,.ptr 3 0]]]) (fun k=>1-k) 0 (by simp) (by omega) (Weak.mk' [0,1] (by decide) (by decide) (by simp) (by simp[AWb])) fun k hk=>?_)
 match k,hk with
 | 0,_ =>
   simp only[if_pos]
   refine Sim.step hmix hΓ (n:=0) (by simp;exact⟨rfl,rfl⟩) (by simp) ?_
   refine Sim.step hmix hΓ (n:=0) (by simp;exact⟨rfl,rfl⟩) (by simp) ?_
   refine Sim.seq (Sim.block ?_)
   refine Sim.step hmix hΓ (n:=0) (by simp;exact⟨rfl,rfl⟩) (by simp) ?_
   refine Sim.exec hmix hΓ (n:=0) (by simp +decide [pofS];exact⟨rfl,rfl,rfl⟩) (by simp) ?_
   dsimp only
   refine Sim.exec hmix hΓ (n:=0) (by simp;exact⟨rfl,rfl,rfl⟩) (by simp) ?_
   exact⟨1,by omega,Weak.mk' [0,1,2,3,4,5] (by decide) (by decide) (by simp) (by simp[AWb,AW]),by omega⟩
 | 1,_ =>
   simp only[if_neg (show ¬(1:Nat)=0 by decide)]
   refine Sim.exec hmix hΓ (n:=0) (by simp;exact⟨rfl,rfl,rfl⟩) (by simp) ?_
   dsimp only;rw[if_pos rfl]
   refine Sim.exec hmix hΓ (n:=0) (by simp;exact⟨rfl,rfl,rfl⟩) (by simp) ?_
   exact⟨.inr rfl,_,by simp[Tryz.f98] <;> rfl,Weak.mk' [0,1] (by decide) (by decide) (by simp) (by simp[AWb])⟩
open Classical in
noncomputable def pdropS:Summ:=fun args H=>match args with
 | [.ptr b 0,.slice b2 0 1 1 _c]=>match H[b]?,H[b2]? with
   | some (.obj true sub),some (.cells true [.str s])=>match dsD sub with
     | some d=>if d.small then some (.int .i64 (d.remove s).2,H.set b (.obj true (d.remove s).1.blks),[b]) else none
     | none=>none
   | _,_=>none
 | _=>none
theorem pdrop_sound:Sound Pz 98 pdropS:=by
 have key:∀args H v H' W,pdropS args H=some (v,H',W)→∃b B,W=[b]∧H'=H.set b B∧Ct Pz 98 args H v H':=by
   intro args H v H' W hs;unfold pdropS at hs;split at hs;rotate_left
   · cases hs
   rename_i b b2 c
   split at hs <;> try cases hs
   rename_i sub s hb hb2
   split at hs <;> try cases hs
   rename_i d hd
   split at hs <;> cases hs
   rename_i hc;have e:=dsD_eq hd;subst e;refine ⟨b,_,rfl,rfl,?_⟩;have hbl:b<H.length:=(q1Z.1 hb).1;have hbl2:b2<H.length:=(q1Z.1 hb2).1
   have hne:b≠b2:=by rintro rfl;rw[hb]at hb2;cases hb2
   have:=ct_frame (H:=H) (args:=[.ptr b 0,.slice b2 0 1 1 c]) (drop1_ct d hc s c) [b,b2] (by simp[hne]) ⟨⟨rfl,rfl⟩,⟨rfl,rfl,rfl,rfl,fun h=>h⟩,trivial⟩ ⟨by rw[q2Z,hb];exact⟨rfl,rfl⟩,hbl,by rw[q2Z,hb2];exact⟨fun h=>h,rfl,trivial⟩,hbl2,trivial⟩ rfl
   simpa[setOwn,ABlk.own,reB,reA,reAs,set_same hb2 hne] using this
 refine ⟨enter_of Tryz.func98 rfl (by decide),fun args H v H' W hs=>?_,fun args H v H' W hs=>?_⟩
 · obtain⟨b,B,_,_,h⟩:=key args H v H' W hs
   exact h
 · obtain⟨b,B,rfl,rfl,_⟩:=key args H v H' W hs
   refine ⟨by simp,fun c hc hn=>?_⟩
   simp only[r1Z]at hn;rw[qfZ (Ne.symm hn)]
noncomputable def suΓ:Gam:=gams [(36,dlistS),(30,orphS),(98,pdropS),(99,dsyncDS)]
theorem suΓ_ok:GOk Pz suΓ:=goks_cons dlist_sound (goks_cons orph_sound (goks_cons pdrop_sound (goks_cons dsyncD_sound goks_nil)))
theorem names_short{d:DS}{A B:Nat}(hok:d.ok A B):(∀k∈d.list,k.length≤64)∧d.list.length≤A:=by
 have h:=FD.ok_now hok.fd;unfold DS.list;split
 · exact⟨fun k hk=>by simp at hk,qqZ _⟩
 · unfold FD.names
   refine ⟨fun k hk=>h.1 k ((sortU_perm _).subset hk),?_⟩
   rw[(sortU_perm _).length_eq];unfold NM.keys;rw[r7Z];exact h.2
theorem list_small{d:DS}{A B:Nat}(hok:d.ok A B)(hA:A≤1000000):smallT d.list:=by
 obtain⟨h1,h2⟩:=names_short hok
 refine ⟨?_,by omega,fun s hs=>by have:=h1 s hs;omega⟩
 unfold DS.list;split
 · exact List.nodup_nil
 · exact FD.names_nd hok.core.num
theorem orph_le(m:Mf)(l:List (List UInt8)):(orph m l).length≤l.length:=by
 unfold orph;rw[(sortU_perm _).length_eq];exact List.length_filter_le _ _
theorem orphR_get(m:Mf)(l:List (List UInt8)){k:Nat}(hk:k<(orph m l).length):∀h,(orphR m l)[k]'h=.str (orph m l)[k]:=fun h=>by
 have e:(orphR m l)[k]?=some (.str (orph m l)[k]):=by
   unfold orphR
   rw[q4Z (by simpa using hk)]
   simp[hk]
 exact (q1Z.1 e).2
theorem orphR_len(m:Mf)(l:List (List UInt8)):(orphR m l).length=l.length:=by
 have:=orph_le m l;unfold orphR;simp;omega
theorem drops_cons(s:List UInt8)(l:List (List UInt8))(d:DS):DS.drops (s::l) d=if (d.remove s).2=0 then ((DS.drops l (d.remove s).1).1,(DS.drops l (d.remove s).1).2.1+1,(DS.drops l (d.remove s).1).2.2) else ((d.remove s).1,0,(d.remove s).2):=rfl
theorem srun_ct(m:Mf)(hm:m.segs.length≤1000000000000)(d:DS){B:Nat}(hB:B≤1000000000000)(hok:d.ok 200000 B) :
   Ct Pz 32 [.ptr 0 0,mfA 1 m] [.obj true d.blks,.cells true (sgsA m.segs)] (.tuple [.int .i64 (d.sweep m).2.1,.int .i64 (d.sweep m).2.2]) [.obj true (d.sweep m).1.blks,.cells true (sgsA m.segs)]:=by
 have hΓ:=suΓ_ok
 have hA3:∀rn:List Nat,AWs rn (sgsA m.segs) (sgsA m.segs):=fun rn=>AWs.refl _ _ (by simp)
 have hsm:d.small:=DS.ok_mono hok (by omega) (by omega)
 obtain⟨hn1,hn2⟩:=names_short hok
 have hls:=list_small hok (by decide)
 have hol:=orph_le m d.list;have hrl:=orphR_len m d.list;have hrf:=frees_orphR m d.list
 have hg:=fun k hk=>orphR_get m d.list (k:=k) hk
 have hl9:d.list.length≤1000000:=by omega
 have ht:(d.list.map AV.str).take d.list.length=d.list.map AV.str:=q6Z (by simp)
 have hlf:∀rn:List Nat,AWs rn (d.list.map AV.str) (d.list.map AV.str):=fun rn=>AWs.refl _ _ (frees_map _ _ fun _=>rfl)
 obtain⟨Rr,hR⟩:∃R,DS.sweep d m=R:=⟨_,rfl⟩;rw[hR];obtain⟨R0,hR0⟩:∃R,DS.drops (orph m d.list) d=R:=⟨_,rfl⟩
 have hsw:swE R0=Rr:=by rw[←hR,←hR0];rfl
 have hdo:=ok_drops (orph m d.list) hok
 have hsh:∀k,shAs k (orphR m d.list)=orphR m d.list:=fun k=>shAs_freeN k _ hrf
 obtain⟨O,hO⟩:∃O,orph m d.list=O:=⟨_,rfl⟩;rw[hO]at hol hg hR0 hdo;obtain⟨OR,hOR⟩:∃OR,orphR m d.list=OR:=⟨_,rfl⟩;rw[hOR]at hrl hrf hg hsh
 have hoS:∀(H:AHeap) (x y:AV),mfOf H x=some m→rowSt H y=some d.list→orphS [x,y] H=some (.sl H.length 0 O.length 1 false,H++[.cells true OR],[]):=fun H x y h1 h2=>by
   simp[orphS,readNewS,h1,h2,hls,hm,hO,hOR,hsh,shA,shB]
 obtain⟨L,hL⟩:∃L,O.length=L:=⟨_,rfl⟩
 have hAr:∀rn:List Nat,AWs rn OR OR:=fun rn=>AWs.refl _ _ hrf
 obtain⟨v,f,nx,sg⟩:=m;simp only[mfA];dsimp only at hA3 hm ⊢
 have h0:(sgsA sg).take (sg.length*3)=sgsA sg:=q6Z (by simp)
 have hLl:L≤200000:=by omega
 refine ct_of_sim Tryz.func32 rfl ?_;simp only[Tryz.ntmps32,q7Z,q8Z,Nat.reduceAdd,Nat.reduceSub,qbZ,q9Z,qaZ]
 refine Sim.step hmix hΓ (n:=0) (by simp;exact⟨rfl,rfl⟩) (by simp) ?_
 refine Sim.step hmix hΓ (n:=0) (by simp;exact⟨rfl,rfl⟩) (by simp) ?_
 refine Sim.step hmix hΓ (n:=0) (by simp +decide [suΓ,dlistS,hsm,hoS,rowSgs,rowSt,h0,ht,free];first | exact⟨rfl,rfl⟩ | exact⟨by kernel_rfl,rfl,rfl⟩) (by simp) ?_
 refine Sim.seq (Sim.step hmix hΓ (n:=0) (by simp +decide [hL];exact⟨rfl,rfl⟩) (by simp) ?_)
 refine Sim.block (Sim.loopW (fun r:Nat×DS=>r.1≤L∧((DS.drops (O.drop r.1) r.2).1,(DS.drops (O.drop r.1) r.2).2.1+r.1,(DS.drops (O.drop r.1) r.2).2.2)=R0∧r.2.ok (200000+2*r.1) B)
   (fun r=>[.ptr 0 0,.top,.top,.top,.int .i64 r.1,.int .i64 0]++qbZ 9 .top++[.sl 4 0 L 1 false,.int .i64 L,.int .i64 r.1]++qbZ 20 .top)
   (fun r=>[.obj true r.2.blks,.cells true (sgsA sg),.cells true [.int .i64 v,.int .i64 f,.int .i64 nx,.sl 1 0 sg.length 3 false],.cells true (d.list.map .str),.cells true OR]) (fun r=>L-r.1) (0,d) (by simp) ⟨qqZ _,by rw[←hR0];rfl,hok⟩ (Weak.mk' [0,1,2,3,4] (by decide) (by decide) (by simp) (by simp[AWb,AWg,AW,hA3,hlf,hAr])) fun r hr=>?_)
 obtain⟨k,dk⟩:=r;obtain⟨hk,hk1,hk2⟩:=hr;dsimp only at hk hk1 hk2 ⊢
 have hsk:dk.small:=DS.ok_mono hk2 (by omega) (by omega)
 by_cases hlt:k<L
 · have hltI:(k:Int)<L:=by omega
   have hkO:k<O.length:=by omega
   have hkR:k<OR.length:=by omega
   obtain⟨s,hs⟩:∃s,O[k]=s:=⟨_,rfl⟩;have hgk:=hg k hkO;rw[hs]at hgk;rw[List.drop_eq_getElem_cons hkO,hs,drops_cons]at hk1;have hok':=DS.ok_remove hk2 s;obtain⟨d',e',hrm⟩:∃d' e',dk.remove s=(d',e'):=⟨_,_,rfl⟩;rw[hrm]at hk1 hok';dsimp only at hk1 hok'
   have y1:IntKind.i64.wrap ((k:Int)+1)=k+1:=wr_i64 (by omega) (by omega)
   refine Sim.step hmix hΓ (n:=0) (by simp[hltI];exact⟨rfl,rfl⟩) (by simp) ?_
   refine Sim.step hmix hΓ (n:=0) (by simp;exact⟨rfl,rfl⟩) (by simp) ?_
   refine Sim.seq (Sim.block ?_)
   refine Sim.step hmix hΓ (n:=0) (by simp +decide [hlt,hkR,hgk];exact⟨rfl,rfl⟩) (by simp) ?_
   by_cases he:e'=0
   · subst he
     rw[if_pos rfl]at hk1
     refine Sim.step hmix hΓ (n:=0) (by simp +decide [suΓ,pdropS,hsk,hrm];exact⟨rfl,rfl⟩) (by simp) ?_
     refine Sim.exec hmix hΓ (n:=0) (by simp +decide [y1];exact⟨rfl,rfl,rfl⟩) (by simp) ?_
     dsimp only
     refine Sim.exec hmix hΓ (n:=0) (by simp +decide [y1];exact⟨rfl,rfl,rfl⟩) (by simp) ?_
     refine ⟨(k+1,d'),⟨by dsimp only;omega,by rw[←hk1];dsimp only;rw[Nat.add_assoc,Nat.add_comm 1 k],DS.ok_mono hok' (by dsimp only;omega) (qnZ _)⟩,Weak.mk' [0,1,2,3,4] (by decide) (by decide) (by simp) (by simp[AWb,AWg,AW,hA3,hlf,hAr]),by dsimp only;omega⟩
   · have heb:(e'==0)=false:=by simpa using he
     rw[if_neg he]at hk1
     have hRr:Rr=(d',k,e'):=by
       rw[←hsw,←hk1];unfold swE
       rw[if_neg (by exact he)]
       simp
     subst hRr
     refine Sim.exec hmix hΓ (n:=0) (by simp +decide [suΓ,pdropS,hsk,hrm,he,heb];exact⟨rfl,rfl,rfl⟩) (by simp) ?_
     exact⟨.inr rfl,_,by simp[Tryz.f32] <;> rfl,Weak.mk' [0,1] (by decide) (by decide) (by simp) (by simp[AWb,AWg,AW,hA3])⟩
 · have hke:k=L:=by omega
   subst hke
   rw[List.drop_of_length_le (by omega)]at hk1
   have hR1:R0=(dk,k,0):=by rw[←hk1];simp[DS.drops]
   subst hR1;unfold swE at hsw;rw[if_pos rfl]at hsw;dsimp only at hsw
   refine Sim.exec hmix hΓ (n:=0) (by simp;exact⟨rfl,rfl,rfl⟩) (by simp) ?_
   dsimp only;rw[if_pos rfl];by_cases h9:0<k
   · rw[if_pos h9]at hsw
     have h9I:(0:Int)<k:=by omega
     obtain⟨d',e',hsy⟩:∃d' e',dk.syncDir=(d',e'):=⟨_,_,rfl⟩;rw[hsy]at hsw;subst hsw
     refine Sim.step hmix hΓ (n:=0) (by simp +decide [suΓ,dsyncDS,hsk,hsy,h9,h9I];exact⟨rfl,rfl⟩) (by simp) ?_
     refine Sim.exec hmix hΓ (n:=0) (by simp +decide;exact⟨rfl,rfl,rfl⟩) (by simp) ?_
     exact⟨.inr rfl,_,by simp[Tryz.f32] <;> rfl,Weak.mk' [0,1] (by decide) (by decide) (by simp) (by simp[AWb,AWg,AW,hA3])⟩
   · have h0k:k=0:=by omega
     subst h0k
     rw[if_neg (by omega)]at hsw
     subst hsw
     refine Sim.step hmix hΓ (n:=0) (by simp +decide;exact⟨rfl,rfl⟩) (by simp) ?_
     refine Sim.exec hmix hΓ (n:=0) (by simp +decide;exact⟨rfl,rfl,rfl⟩) (by simp) ?_
     exact⟨.inr rfl,_,by simp[Tryz.f32] <;> rfl,Weak.mk' [0,1] (by decide) (by decide) (by simp) (by simp[AWb,AWg,AW,hA3])⟩
theorem flatsT_sgs:∀l:List Sg,flatsA (sgsA l)=true:=fun l=>by
 induction l with
 | nil=>rfl
 | cons x l ih=>simp only[sgsA,sgA,q9Z,qaZ,flatsA,List.all_cons,flatA,Bool.true_and]at ih ⊢;exact ih
open Classical in
noncomputable def srunS:Summ:=fun args H=>match args with
 | [.ptr b 0,.agg [.int .i64 v,.int .i64 f,.int .i64 n,.sl b2 0 L 3 _c]]=>match H[b]?,H[b2]? with
   | some (.obj true sub),some (.cells true l)=>match dsD sub,sgsOf l with
     | some d,some a=>if d.ok 200000 1000000000000∧a.length=L∧L≤1000000000000 then some (.tuple [.int .i64 (d.sweep ⟨v,f,n,a⟩).2.1,.int .i64 (d.sweep ⟨v,f,n,a⟩).2.2],H.set b (.obj true (d.sweep ⟨v,f,n,a⟩).1.blks),[b]) else none
     | _,_=>none
   | _,_=>none
 | _=>none
theorem srun_sound:Sound Pz 32 srunS:=by
 have key:∀args H v H' W,srunS args H=some (v,H',W)→∃b B,W=[b]∧H'=H.set b B∧Ct Pz 32 args H v H':=by
   intro args H v H' W hs;unfold srunS at hs;split at hs;rotate_left
   · cases hs
   rename_i b v f n b2 L c
   split at hs <;> try cases hs
   rename_i sub l hb hb2
   split at hs <;> try cases hs
   rename_i d a hd hl
   split at hs <;> cases hs
   rename_i hc;obtain⟨h1,h4,h5⟩:=hc;have e:=dsD_eq hd;have e2:=sgsOf_eq hl
   subst e;subst e2;subst h4
   refine ⟨b,_,rfl,rfl,?_⟩;have hbl:b<H.length:=(q1Z.1 hb).1;have hbl2:b2<H.length:=(q1Z.1 hb2).1
   have hne:b≠b2:=by rintro rfl;rw[hb]at hb2;cases hb2
   have hct:=srun_ct ⟨v,f,n,a⟩ h5 d (qnZ _) h1
   have:=ct_frame (H:=H) (args:=[.ptr b 0,.agg [.int .i64 v,.int .i64 f,.int .i64 n,.sl b2 0 a.length 3 c]]) hct [b,b2] (by simp[hne]) (by simp[mfA,AWs,AW]) ⟨by rw[q2Z,hb];exact⟨rfl,rfl⟩,hbl,by rw[q2Z,hb2];exact⟨fun h=>h,AWs_flat _ (flatsT_sgs _)⟩,hbl2,trivial⟩ rfl
   simpa[setOwn,ABlk.own,reB,reA,reAs,set_same hb2 hne,reAs_flat _ _ (flatsT_sgs _)] using this
 refine ⟨enter_of Tryz.func32 rfl (by decide),fun args H v H' W hs=>?_,fun args H v H' W hs=>?_⟩
 · obtain⟨b,B,_,_,h⟩:=key args H v H' W hs
   exact h
 · obtain⟨b,B,rfl,rfl,_⟩:=key args H v H' W hs
   refine ⟨by simp,fun c hc hn=>?_⟩
   simp only[r1Z]at hn;rw[qfZ (Ne.symm hn)]
noncomputable def scΓ:Gam:=gams [(36,dlistS),(58,mkS),(106,contTS),(30,orphS)]
theorem scΓ_ok:GOk Pz scΓ:=goks_cons dlist_sound (goks_cons make_sound (goks_cons contT_sound (goks_cons orph_sound goks_nil)))
theorem sclean_ct(m:Mf)(hm:m.segs.length≤1000000000000)(d:DS){B:Nat}(hB:B≤1000000000000)(hok:d.ok 200000 B) :
   Ct Pz 39 [.ptr 0 0,mfA 1 m] [.obj true d.blks,.cells true (sgsA m.segs)] (.bool (cleanD d m)) [.obj true d.blks,.cells true (sgsA m.segs)]:=by
 have hΓ:=scΓ_ok
 have hA3:∀rn:List Nat,AWs rn (sgsA m.segs) (sgsA m.segs):=fun rn=>AWs.refl _ _ (by simp)
 have hsm:d.small:=DS.ok_mono hok (by omega) (by omega)
 obtain⟨hn1,hn2⟩:=names_short hok
 have hls:=list_small hok (by decide)
 have hrf:=frees_orphR m d.list;have hol:=orph_le m d.list
 have ht:(d.list.map AV.str).take d.list.length=d.list.map AV.str:=q6Z (by simp)
 have hlf:∀rn:List Nat,AWs rn (d.list.map AV.str) (d.list.map AV.str):=fun rn=>AWs.refl _ _ (frees_map _ _ fun _=>rfl)
 have hln:d.list.length≤9223372036854775807:=by omega
 have hsh:∀k,shAs k (orphR m d.list)=orphR m d.list:=fun k=>shAs_freeN k _ hrf
 unfold cleanD;obtain⟨O,hO⟩:∃O,orph m d.list=O:=⟨_,rfl⟩;rw[hO]at hol ⊢;obtain⟨OR,hOR⟩:∃OR,orphR m d.list=OR:=⟨_,rfl⟩;rw[hOR]at hrf hsh
 have hoS:∀(H:AHeap) (x y:AV),mfOf H x=some m→rowSt H y=some d.list→orphS [x,y] H=some (.sl H.length 0 O.length 1 false,H++[.cells true OR],[]):=fun H x y h1 h2=>by
   simp[orphS,readNewS,h1,h2,hls,hm,hO,hOR,hsh,shA,shB]
 obtain⟨L,hL⟩:∃L,O.length=L:=⟨_,rfl⟩;obtain⟨v,f,nx,sg⟩:=m;simp only[mfA];dsimp only at hA3 hm ⊢
 have h0:(sgsA sg).take (sg.length*3)=sgsA sg:=q6Z (by simp)
 rw[hL];refine ct_of_sim Tryz.func39 rfl ?_;simp only[Tryz.ntmps39,q7Z,q8Z,Nat.reduceAdd,Nat.reduceSub,qbZ,q9Z,qaZ]
 refine Sim.step hmix hΓ (n:=0) (by simp;exact⟨rfl,rfl⟩) (by simp) ?_
 refine Sim.step hmix hΓ (n:=0) (by simp;exact⟨rfl,rfl⟩) (by simp) ?_
 refine Sim.step hmix hΓ (n:=0) (by simp +decide [scΓ,dlistS,hsm];exact⟨rfl,rfl⟩) (by simp) ?_
 refine Sim.seq (Sim.step hmix hΓ (n:=0) (by simp +decide;exact⟨rfl,rfl⟩) (by simp) ?_)
 refine Sim.block (Sim.loopW (fun k:Nat=>k≤sg.length∧(sg.all fun g=>decide (mk 4 g.1∈d.list))=((sg.drop k).all fun g=>decide (mk 4 g.1∈d.list)))
   (fun k=>[.ptr 0 0,.top,.top,.ptr 2 0,.top,.sl 3 0 d.list.length 1 false]++qbZ 7 .top++[.sl 1 0 sg.length 3 false,.int .i64 sg.length,.int .i64 k]++qbZ 15 .top)
   (fun _=>[.obj true d.blks,.cells true (sgsA sg),.cells true [.int .i64 v,.int .i64 f,.int .i64 nx,.sl 1 0 sg.length 3 false],.cells true (d.list.map .str)]) (fun k=>sg.length-k) 0 (by simp) ⟨qqZ _,rfl⟩ (Weak.mk' [0,1,2,3] (by decide) (by decide) (by simp) (by simp[AWb,AWg,AW,hA3,hlf])) fun k hk=>?_)
 obtain⟨hk,hk1⟩:=hk;by_cases hlt:k<sg.length
 · have hltI:(k:Int)<sg.length:=by omega
   obtain⟨s,hs⟩:∃s,sg[k]=s:=⟨_,rfl⟩;have g1:=sgs_get sg k hlt
   have k1:k*3+3≤sg.length*3:=by omega
   have y1:IntKind.i64.wrap ((k:Int)+1)=k+1:=wr_i64 (by omega) (by omega)
   rw[List.drop_eq_getElem_cons hlt]at hk1;rw[hs]at g1 hk1;obtain⟨x,y,z⟩:=s;rw[List.all_cons]at hk1;dsimp only at hk1
   refine Sim.step hmix hΓ (n:=0) (by simp[hltI];exact⟨rfl,rfl⟩) (by simp) ?_
   refine Sim.step hmix hΓ (n:=0) (by simp;exact⟨rfl,rfl⟩) (by simp) ?_
   refine Sim.seq (Sim.block ?_)
   refine Sim.step hmix hΓ (n:=0) (by simp +decide [hlt,g1,k1,sgA];exact⟨rfl,rfl⟩) (by simp) ?_
   by_cases hin:mk 4 x∈d.list
   · have hin2:decide (mk 4 x∈d.list)=true:=by simpa using hin
     rw[hin2,Bool.true_and]at hk1
     refine Sim.exec hmix hΓ (n:=0) (by simp +decide [scΓ,mkS,contTS,readS,hln,hin];exact⟨rfl,rfl,rfl⟩) (by simp) ?_
     dsimp only
     refine Sim.exec hmix hΓ (n:=0) (by simp +decide [y1];exact⟨rfl,rfl,rfl⟩) (by simp) ?_
     exact⟨k+1,⟨by omega,hk1⟩,Weak.mk' [0,1,2,3] (by decide) (by decide) (by simp) (by simp[AWb,AWg,AW,hA3,hlf]),by omega⟩
   · have hin2:decide (mk 4 x∈d.list)=false:=by simpa using hin
     rw[hin2,Bool.false_and]at hk1;rw[hk1,Bool.false_and]
     refine Sim.exec hmix hΓ (n:=0) (by simp +decide [scΓ,mkS,contTS,readS,hln,hin];exact⟨rfl,rfl,rfl⟩) (by simp) ?_
     exact⟨.inr rfl,_,by simp[Tryz.f39] <;> rfl,Weak.mk' [0,1] (by decide) (by decide) (by simp) (by simp[AWb,AWg,AW,hA3])⟩
 · have hke:k=sg.length:=by omega
   subst hke;rw[List.drop_of_length_le (qnZ _),List.all_nil]at hk1;rw[hk1,Bool.true_and]
   refine Sim.exec hmix hΓ (n:=0) (by simp;exact⟨rfl,rfl,rfl⟩) (by simp) ?_
   dsimp only;rw[if_pos rfl]
   refine Sim.exec hmix hΓ (n:=0) (by simp +decide [scΓ,hoS,rowSgs,rowSt,h0,ht,hL];exact⟨rfl,rfl,rfl⟩) (by simp) ?_
   exact⟨.inr rfl,_,by simp[Tryz.f39] <;> rfl,Weak.mk' [0,1] (by decide) (by decide) (by simp[AWs,AW];rw[Bool.eq_iff_iff];simp) (by simp[AWb,AWg,AW,hA3])⟩
open Classical in
noncomputable def scleanS:Summ:=fun args H=>match args with
 | [.ptr b 0,.agg [.int .i64 v,.int .i64 f,.int .i64 n,.sl b2 0 L 3 _c]]=>match H[b]?,H[b2]? with
   | some (.obj true sub),some (.cells true l)=>match dsD sub,sgsOf l with
     | some d,some a=>if d.ok 200000 1000000000000∧a.length=L∧L≤1000000000000 then some (.bool (cleanD d ⟨v,f,n,a⟩),H,[]) else none
     | _,_=>none
   | _,_=>none
 | _=>none
theorem sclean_sound:Sound Pz 39 scleanS:=by
 have key:∀args H v H' W,scleanS args H=some (v,H',W)→H'=H∧Ct Pz 39 args H v H':=by
   intro args H v H' W hs;unfold scleanS at hs;split at hs;rotate_left
   · cases hs
   rename_i b v f n b2 L c
   split at hs <;> try cases hs
   rename_i sub l hb hb2
   split at hs <;> try cases hs
   rename_i d a hd hl
   split at hs <;> cases hs
   rename_i hc;obtain⟨h1,h4,h5⟩:=hc;have e:=dsD_eq hd;have e2:=sgsOf_eq hl
   subst e;subst e2;subst h4
   refine ⟨rfl,?_⟩;have hbl:b<H.length:=(q1Z.1 hb).1;have hbl2:b2<H.length:=(q1Z.1 hb2).1
   have hne:b≠b2:=by rintro rfl;rw[hb]at hb2;cases hb2
   have hct:=sclean_ct ⟨v,f,n,a⟩ h5 d (qnZ _) h1
   have:=ct_frame (H:=H) (args:=[.ptr b 0,.agg [.int .i64 v,.int .i64 f,.int .i64 n,.sl b2 0 a.length 3 c]]) hct [b,b2] (by simp[hne]) (by simp[mfA,AWs,AW]) ⟨by rw[q2Z,hb];exact⟨rfl,rfl⟩,hbl,by rw[q2Z,hb2];exact⟨fun h=>h,AWs_flat _ (flatsT_sgs _)⟩,hbl2,trivial⟩ rfl
   have hs:H.set b (.obj true d.blks)=H:=by
     obtain⟨h1,h2⟩:=q1Z.1 hb;rw[←h2,List.set_getElem_self]
   have hs2:H.set b2 (.cells true (sgsA a))=H:=by
     obtain⟨h1,h2⟩:=q1Z.1 hb2;rw[←h2,List.set_getElem_self]
   simpa[setOwn,ABlk.own,reB,reA,set_same hb2 hne,reAs_flat _ _ (flatsT_sgs _),hs,hs2] using this
 refine ⟨enter_of Tryz.func39 rfl (by decide),fun args H v H' W hs=>?_,fun args H v H' W hs=>?_⟩
 · exact (key args H v H' W hs).2
 · have:=(key args H v H' W hs).1
   subst this
   exact⟨qnZ _,fun _ _ _=>rfl⟩
end
end Go.Proofs.YthafeihjlamhhaaGreatDoor
