/- Parts of the proof of SweepStops: lemmas, each with its own conditions. -/
import Derived.Test.YthafeihjlamhhaaGreatDoorY19
set_option maxHeartbeats 64000000
open List renaming getElem?_eq_some_iff → q1Z, getD_eq_getElem?_getD → q2Z, getElem?_eq_getElem → q3Z, take_of_length_le → q6Z, length_cons → q7Z, length_nil → q8Z, cons_append → q9Z, nil_append → qaZ, replicate → qbZ, length_take → qjZ, getElem_mem → r3Z, take_append_drop → r6Z
open Nat renaming zero_le → qqZ
namespace Go.Proofs.YthafeihjlamhhaaGreatDoor
open _root_.Go.Proofs.Tryz renaming prog → Pz
set_option maxRecDepth 100000
section
open Go Go.Lib
attribute [-simp] drawOk_eq adraw qrun acode aops
theorem index_ctT(l:List (List UInt8))(v:List UInt8)(hl:l.length≤9223372036854775807):Ct Pz 173 [.sl 0 0 l.length 1 false,.str v] [.cells true (l.map .str)] (.int .i64 (if v∈l then (l.idxOf v:Int) else -1)) [.cells true (l.map .str)]:=by
 refine ct_of_sim Tryz.func173 rfl ?_;simp only[Tryz.ntmps173,q7Z,q8Z,Nat.reduceAdd,Nat.reduceSub,qbZ,q9Z,qaZ];obtain⟨L,hL⟩:∃L,l.length=L:=⟨_,rfl⟩;rw[hL]at hl ⊢
 have hfr:frees (l.map AV.str)=true:=frees_map _ _ fun _=>rfl
 refine Sim.step hmix goks_nil (n:=0) (by simp;exact⟨rfl,rfl⟩) (by simp) ?_
 refine Sim.seq (Sim.mono (Q:=fun e F' H'=>(e=.normal∧v∉l∧Weak 1 F' H' ([.top,.top,.top,.top,.int .i64 0]++qbZ 14 .top) [.cells true (l.map .str)])∨(e=.ret∧∃v1,resA Pz Tryz.f173.results.toList F' H'=some v1∧Weak 1 [v1] H' [.int .i64 (if v∈l then (l.idxOf v:Int) else -1)] [.cells true (l.map .str)]))
   (Sim.step hmix goks_nil (n:=0) (by simp;exact⟨rfl,rfl⟩) (by simp) (Sim.block (Sim.loopW (fun k:Nat=>k≤L∧v∉l.take k) (fun k=>[.sl 0 0 L 1 false,.str v,.top,.top,.int .i64 0,.top,.top,.int .i64 L,.int .i64 k]++qbZ 10 .top) (fun _=>[.cells true (l.map .str)]) (fun k=>L-k) 0 (by simp) ⟨qqZ _,by simp⟩ ?_ fun k hk=>?_))) ?_)
 · exact Weak.mk' [0] (by decide) (by decide) (by simp) (by simp[AWb,AWs_free hfr])
 · obtain⟨hk1,hk2⟩:=hk
   by_cases hlt:k<L
   · have hltI:(k:Int)<L:=by omega
     have hkl:k<l.length:=by omega
     have y1:IntKind.i64.wrap ((k:Int)+1)=k+1:=wr_i64 (by omega) (by omega)
     obtain⟨u,hu⟩:∃u,l[k]=u:=⟨_,rfl⟩;by_cases he:v=u
     · have hb:(v==u)=true:=by simpa using he
       refine Sim.exec hmix goks_nil (n:=0) (by simp +decide [hltI,hlt,hL,hu,he,hb];exact⟨rfl,rfl,rfl⟩) (by simp) ?_
       have hmem:v∈l:=by rw[he,←hu];exact r3Z hkl
       have hidx:l.idxOf v=k:=by
         have h1:l.idxOf v≤k:=by
           have:v∈l.take (k+1):=by rw[List.take_add_one,q3Z hkl,hu,←he];simp
           have h3:l.idxOf v=(l.take (k+1)).idxOf v:=by
             conv=>lhs;rw[←r6Z (k+1) l]
             rw[List.idxOf_append,if_pos this]
           have h4:=List.idxOf_lt_length_of_mem this;rw[qjZ]at h4;omega
         have h2:k≤l.idxOf v:=by
           apply Nat.le_of_not_lt;intro h;apply hk2
           have h5:l.idxOf v<l.length:=by omega
           have h6:l[l.idxOf v]=v:=List.getElem_idxOf h5;rw[←h6]
           exact List.mem_take_iff_getElem.2 ⟨l.idxOf v,by omega,rfl⟩
         omega
       rw[if_pos hmem]
       exact .inr ⟨rfl,_,by simp[Tryz.f173] <;> rfl,Weak.mk' [0] (by decide) (by decide) (by simp[hidx]) (by simp[AWb,AWs_free hfr])⟩
     · have hb:(v==u)=false:=by simpa using he
       refine Sim.exec hmix goks_nil (n:=0) (by simp +decide [hltI,hlt,hL,hu,he,hb,y1];exact⟨rfl,rfl,rfl⟩) (by simp) ?_
       refine ⟨k+1,⟨by omega,?_⟩,Weak.mk' [0] (by decide) (by decide) (by simp) (by simp[AWb,AWs_free hfr]),by omega⟩
       rw[List.take_add_one,q3Z hkl,hu];simp[hk2,he]
   · have hin:k=L:=by omega
     subst hin
     refine Sim.exec hmix goks_nil (n:=0) (by simp;exact⟨rfl,rfl,rfl⟩) (by simp) ?_
     dsimp only;rw[if_pos rfl]
     rw[q6Z (by omega)]at hk2
     exact .inl ⟨rfl,hk2,Weak.mk' [0] (by decide) (by decide) (by simp) (by simp[AWb,AWs_free hfr])⟩
 · rintro e F' H' hlen (⟨rfl,h1,hw⟩ | ⟨rfl,hw⟩)
   · dsimp only
     refine Sim.weak hw hlen ?_;simp only[q9Z,qaZ,qbZ];rw[if_neg h1]
     refine Sim.exec hmix goks_nil (n:=0) (by simp;exact⟨rfl,rfl,rfl⟩) (by simp) ?_
     exact⟨.inr rfl,_,by simp[Tryz.f173] <;> rfl,Weak.mk' [0] (by decide) (by decide) (by simp) (by simp[AWb,AWs_free hfr])⟩
   · exact⟨.inr rfl,hw⟩
noncomputable def indexTS:Summ:=readS fun args H=>match args with
 | [.sl b 0 n 1 _c,.str v]=>match H[b]? with
   | some (.cells true l)=>match strsOf l with
     | some a=>if n=a.length∧a.length≤9223372036854775807 then some (.int .i64 (if v∈a then (a.idxOf v:Int) else -1)) else none
     | none=>none
   | _=>none
 | _=>none
theorem indexT_sound:Sound Pz 173 indexTS:=by
 refine sound_read (enter_of Tryz.func173 rfl (by decide)) fun args H v h=>?_
 split at h <;> try cases h
 rename_i b n c w
 split at h <;> try cases h
 rename_i l hb
 split at h <;> try cases h
 rename_i a ha
 split at h <;> cases h
 rename_i hc;obtain⟨rfl,hl⟩:=hc;have e:=strsOf_eq ha;subst e;have hbl:b<H.length:=(q1Z.1 hb).1
 have hfr:frees (a.map AV.str)=true:=frees_map _ _ fun _=>rfl
 have:=ct_frame (H:=H) (args:=[.sl b 0 a.length 1 c,.str w]) (index_ctT a w hl) [b] (by simp) ⟨⟨rfl,rfl,rfl,by simp⟩,rfl,trivial⟩ ⟨by rw[q2Z,hb];exact⟨id,AWs.refl _ _ hfr⟩,hbl,trivial⟩ rfl
 obtain⟨h1,h2⟩:=q1Z.1 hb
 have hset:H.set b (.cells true (a.map .str))=H:=by rw[←h2,List.set_getElem_self]
 simpa[setOwn,ABlk.own,reB,reA,hset,reAs_flat _ _ (show flatsA (a.map AV.str)=true by simp[flatsA,flatA])] using this
noncomputable def contTS:Summ:=readS fun args H=>match args with
 | [.sl b 0 n 1 _c,.str v]=>match H[b]? with
   | some (.cells true l)=>match strsOf l with
     | some a=>if n=a.length∧a.length≤9223372036854775807 then some (.bool (decide (v∈a))) else none
     | none=>none
   | _=>none
 | _=>none
theorem contT_sound:Sound Pz 106 contTS:=by
 refine sound_read (enter_of Tryz.func106 rfl (by decide)) fun args H v h=>?_
 split at h <;> try cases h
 rename_i b n c w
 split at h <;> try cases h
 rename_i l hb
 split at h <;> try cases h
 rename_i a ha
 split at h <;> cases h
 rename_i hc;have hΓ:GOk Pz (gams [(173,indexTS)]):=goks_cons indexT_sound goks_nil;refine ct_of_simE Tryz.func106 rfl ?_;simp only[Tryz.ntmps106,q7Z,q8Z,Nat.reduceAdd,Nat.reduceSub,qbZ,q9Z,qaZ];have hn:=hc.1;have hl:=hc.2;by_cases hm:w∈a
 · have h0:(0:Int)≤(a.idxOf w:Int):=by omega
   refine Sim.exec hmix hΓ (n:=0) (by simp +decide [indexTS,readS,hb,ha,hn,hl,hm,h0];exact⟨rfl,rfl,rfl⟩) (by simp) ?_
   exact⟨.inr rfl,by simp[Tryz.f106,hm],rfl⟩
 · refine Sim.exec hmix hΓ (n:=0) (by simp +decide [indexTS,readS,hb,ha,hn,hl,hm];exact⟨rfl,rfl,rfl⟩) (by simp) ?_
   exact⟨.inr rfl,by simp[Tryz.f106,hm],rfl⟩
end
end Go.Proofs.YthafeihjlamhhaaGreatDoor
