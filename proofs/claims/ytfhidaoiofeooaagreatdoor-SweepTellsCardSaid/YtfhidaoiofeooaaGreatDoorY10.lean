/- Parts of the proof of SweepTells: lemmas, each with its own conditions. -/
import Derived.Test.YtfhidaoiofeooaaGreatDoorY9
set_option maxHeartbeats 64000000
open List renaming getElem?_eq_some_iff → q1Z, getD_eq_getElem?_getD → q2Z, length_cons → q7Z, length_nil → q8Z, cons_append → q9Z, nil_append → qaZ, replicate → qbZ, mem_append → qxZ, getElem_append_left → qyZ, take_append_drop → r6Z, mem_map → reZ
open Nat renaming le_refl → qnZ
namespace Go.Proofs.YtfhidaoiofeooaaGreatDoor
open _root_.Go.Proofs.Tryz renaming prog → Pz
set_option maxRecDepth 100000
section
open Go Go.Lib
attribute [-simp] zG zT zc zJ zn
theorem zMj(l:List (List UInt8))(r:List AV)(c:Bool)(hd:∀(k:Nat) (h:k+1<l.length),l[k+1]≠l[k])(hl:l.length<=1000000000000)(hr:zL r=true) :
   Ct Pz 125 [.slice 0 0 l.length 1 c] [.cells true (l.map AV.str++r)] (.slice 0 0 l.length 1 c) [.cells true (l.map AV.str++r)]:=by
 obtain⟨B,hB⟩:∃B,l.map AV.str++r=B:=⟨_,rfl⟩
 have hfr:zL B=true:=by
   rw[<-hB];exact frees_iff.2 fun v hv=>by
     rcases qxZ.1 hv with h | h
     · obtain⟨_,_,rfl⟩:=reZ.1 h;rfl
     · exact frees_iff.1 hr v h
 have hBl:l.length<=B.length:=by rw[<-hB];simp
 have hBg:∀(k:Nat) (h:k<l.length) h',B[k]'h'=.str l[k]:=fun k h h'=>by
   subst hB;rw[qyZ (by simpa using h)];simp
 rw[hB];have hA1:∀rn:List Nat,AWs rn B B:=fun rn=>AWs.refl _ _ hfr;refine zE Tryz.func125 rfl ?_;simp only[Tryz.ntmps125,q7Z,q8Z,Nat.reduceAdd,Nat.reduceSub,qbZ,q9Z,qaZ];refine wS zB (by simp;exact wR) ?_;by_cases h2:(l.length:Int)<2
 · refine wE zB (by simp[h2];exact wT) ?_
   exact⟨.inr rfl,_,by simp <;> rfl,wW [0] (by simp[AWg,AWb,hA1])⟩
 refine wS zB (by simp[h2];exact wR) ?_;refine Sim.seq (wS zB (by simp[h2];exact wR) ?_);refine Sim.block (Sim.loopW (fun k:Nat=>1<=k/\k<=l.length)
   (fun k=>[.slice 0 0 l.length 1 c,.top,.top,.int .i64 k]++qbZ 57 .top)
   (fun _=>[.cells true B]) (fun k=>l.length-k) 1 (by simp) (by omega) (wW [0] (by simp[AWg,AWb,hA1])) fun k hk=>?_)
 obtain⟨hk1,hk2⟩:=hk;by_cases hlt:k<l.length
 · have hlti:(k:Int)<l.length:=by omega
   obtain⟨j,rfl⟩:∃j,k=j+1:=⟨k-1,by omega⟩
   have hj:j<l.length:=by omega
   have hB1:j+1<B.length:=by omega
   have hB0:j<B.length:=by omega
   have g1:=hBg (j+1) hlt hB1;have g0:=hBg j hj hB0;have hne:(l[j+1]==l[j])=false:=by simpa using hd j hlt
   have hltj:(j:Int)+1<l.length:=by omega
   have hw:IntKind.i64.wrap ((j:Int)+1+1)=(j:Int)+1+1:=zK (by omega) (by omega);have hw1:IntKind.i64.wrap (j:Int)=(j:Int):=zK (by omega) (by omega);have hj0:(0:Int)<=(j:Int)+1:=by omega
   have hjt:((j:Int)+1).toNat=j+1:=by omega
   refine wS zB (by simp[hltj];exact wR) ?_;refine wE zB (by simp +decide [hlt,hj,hltj,hj0,hjt,hw,hw1,g1,g0,hne,hB1,hB0];exact wT) ?_;dsimp only;exact⟨j+2,by omega,Weak.mk' [0] (by decide) (by decide) (by simp;omega) (by simp[AWg,AWb,hA1]),by omega⟩
 · have hke:k=l.length:=by omega
   subst hke;refine wE zB (by simp +decide;exact wT) ?_;dsimp only;rw[if_pos rfl];refine wE zB (by simp +decide;exact wT) ?_;exact⟨.inr rfl,_,by simp <;> rfl,wW [0] (by simp[AWg,AWb,hA1])⟩
def zOU(l:List (List UInt8)):Prop:=∀(k:Nat) (h:k+1<l.length),l[k+1]≠l[k]
open Classical in
noncomputable def zIO:zS:=fun args H=>match args with
 | [.slice b 0 n 1 c]=>match H[b]? with
   | some (.cells true l)=>match zp (l.take n) with
     | some ss=>if n=ss.length/\ss.length<=1000000000000/\zOU ss/\zL (l.drop n)=true then some (.slice b 0 n 1 c,H,[]) else none
     | none=>none
   | _=>none
 | _=>none
theorem zLW:Sound Pz 125 zIO:=by
 refine ⟨zD Tryz.func125 rfl (by decide),fun args H v H' W hs=>?_,fun args H v H' W hs=>?_⟩ <;> (unfold zIO at hs;split at hs <;> try cases hs) <;> (split at hs <;> try cases hs) <;> (rename_i b n c _ l hb;split at hs <;> try cases hs) <;> (rename_i ss hz;split at hs <;> cases hs;rename_i hc)
 · have e0:l=ss.map AV.str++l.drop n:=by
     have:=zAL hz;rw[<-this,r6Z]
   obtain⟨h1,h2,h3,h4⟩:=hc;have hlt:b<H.length:=(q1Z.1 hb).1;have hct:=zMj ss (l.drop n) c h3 h2 h4;rw[<-e0,<-h1]at hct;have hfl:zL l=true:=by
     rw[e0];exact frees_iff.2 fun v hv=>by
       rcases qxZ.1 hv with h | h
       · obtain⟨_,_,rfl⟩:=reZ.1 h;rfl
       · exact frees_iff.1 h4 v h
   have:=zZ (H:=H) (args:=[.slice b 0 n 1 c]) hct [b] (by simp) (by simp[AWs,AW]) ⟨by rw[q2Z,hb];exact⟨fun h=>h,AWs.refl _ _ hfl⟩,hlt,trivial⟩ rfl;have e1:H.set b (.cells true l)=H:=by
     obtain⟨g1,g2⟩:=q1Z.1 hb;rw[<-g2,List.set_getElem_self]
   simpa[reA,Zr,zW,ABlk.own,reB,Zd _ _ hfl,e1] using this
 · exact⟨qnZ _,fun _ _ _=>rfl⟩
end
end Go.Proofs.YtfhidaoiofeooaaGreatDoor
