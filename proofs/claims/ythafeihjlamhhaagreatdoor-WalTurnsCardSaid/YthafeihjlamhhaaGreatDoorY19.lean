/- Parts of the proof of WalTurns: lemmas, each with its own conditions. -/
import Derived.Test.YthafeihjlamhhaaGreatDoorY16
set_option maxHeartbeats 64000000
open List renaming getElem?_eq_some_iff → q1Z, getD_eq_getElem?_getD → q2Z, getElem?_set_ne → qfZ, mem_singleton → r1Z
namespace Go.Proofs.YthafeihjlamhhaaGreatDoor
open _root_.Go.Proofs.Tryz renaming prog → Pz
set_option maxRecDepth 100000
section
open Go Go.Lib
attribute [-simp] drawOk_eq adraw qrun acode aops
theorem joinU_nil(a:List (List UInt8)):joinU a []=a.flatten:=by
 cases a with
 | nil=>rfl
 | cons x r=>simp[joinU]
open Classical in
noncomputable def dappS:Summ:=fun args H=>match args with
 | [.ptr b 0,.str k,.slice b2 off n 1 _c]=>match H[b]?,H[b2]? with
   | some (.obj true sub),some (.cells _ l)=>match dsD sub,(if off+n≤l.length then strsOf ((l.drop off).take n) else none) with
     | some d,some a=>if d.small∧d.quota≤1000000000000∧flatsA l=true∧a.flatten.length≤140737488355328∧a.length≤140737488355328 then some (.int .i64 (d.append k a.flatten).2,H.set b (.obj true (d.append k a.flatten).1.blks),[b]) else none
     | _,_=>none
   | _,_=>none
 | _=>none
theorem dapp_sound:Sound Pz 75 dappS:=by
 have key:∀args H v H' W,dappS args H=some (v,H',W)→∃b B,W=[b]∧H'=H.set b B∧Ct Pz 75 args H v H':=by
   intro args H v H' W hs;unfold dappS at hs;split at hs;rotate_left
   · cases hs
   rename_i b k b2 off n c
   split at hs <;> try cases hs
   rename_i sub o l hb hb2
   split at hs <;> try cases hs
   rename_i d a hd hl
   split at hl <;> try cases hl
   rename_i hle
   split at hs <;> cases hs
   rename_i hc;obtain⟨h1,h2,h3,h4,h5⟩:=hc;have e:=dsD_eq hd;subst e;refine ⟨b,_,rfl,rfl,?_⟩;have hbl:b<H.length:=(q1Z.1 hb).1;have hbl2:b2<H.length:=(q1Z.1 hb2).1
   have hne:b≠b2:=by rintro rfl;rw[hb]at hb2;cases hb2
   have hct:=append_ct d h1 (by decide) (by decide) h2 l h3 off n c k a.flatten (by omega) fun H2 q hq=>by
     refine (join_sound2.ct _ _ _ _ [] ?_)
     have hrs:rowStrs H2 (.sl q off n 1 c)=some a:=by
       by_cases hn:n=0
       · subst hn
         have e:strsOf []=some a:=by simpa using hl
         have e2:a=[]:=by simpa[strsOf] using e.symm
         subst e2;simp[rowStrs]
       · simp only[rowStrs,if_neg hn,hq,if_pos hle]
         exact hl
     unfold joinS2 readS;simp only[hrs,joinU_nil];rw[if_pos ⟨h4,h5⟩]
   have:=ct_frame (H:=H) (args:=[.ptr b 0,.str k,.slice b2 off n 1 c]) hct [b,b2] (by simp[hne]) ⟨⟨rfl,rfl⟩,rfl,⟨rfl,rfl,rfl,rfl,fun h=>h⟩,trivial⟩ ⟨by rw[q2Z,hb];exact⟨rfl,rfl⟩,hbl,by rw[q2Z,hb2];exact⟨fun h=>(by cases h),AWs_flat _ h3⟩,hbl2,trivial⟩ rfl
   simpa[setOwn,ABlk.own,reB,reA] using this
 refine ⟨enter_of Tryz.func75 rfl (by decide),fun args H v H' W hs=>?_,fun args H v H' W hs=>?_⟩
 · obtain⟨b,B,_,_,h⟩:=key args H v H' W hs
   exact h
 · obtain⟨b,B,rfl,rfl,_⟩:=key args H v H' W hs
   refine ⟨by simp,fun c hc hn=>?_⟩
   simp only[r1Z]at hn;rw[qfZ (Ne.symm hn)]
end
end Go.Proofs.YthafeihjlamhhaaGreatDoor
