/- Parts of the proof of ReplayMends: lemmas, each with its own conditions. -/
import Derived.Test.YtpmfecnajoojeaaGreatDoorY30
import Derived.Test.YtpmfecnajoojeaaGreatDoorY25
import Derived.Test.YtpmfecnajoojeaaGreatDoorY28
set_option maxHeartbeats 64000000
open List renaming getElem?_eq_some_iff → q1Z, getD_eq_getElem?_getD → q2Z, getElem?_eq_getElem → q3Z, take_of_length_le → q6Z, length_cons → q7Z, length_nil → q8Z, cons_append → q9Z, nil_append → qaZ, replicate → qbZ, getElem?_set_ne → qfZ, getElem?_set_self → qgZ, length_take → qjZ, length_drop → qkZ, getElem?_take → r4Z, getElem?_drop → r5Z, length_map → r7Z, all_eq_true → s5Z
namespace Go.Proofs.YtpmfecnajoojeaaGreatDoor
open _root_.Go.Proofs.Tryz renaming prog → Pz
set_option maxRecDepth 100000
section
open Go
theorem zM8{H:zA}{b b2:Nat}{B X:ABlk}(h:H[b2]? = some X)(hne:b≠b2):(H.set b B).set b2 X=H.set b B:=by
 have hbl2:b2<H.length:=(q1Z.1 h).1
 refine List.ext_getElem? fun i=>?_
 by_cases hi:i=b2
 · subst hi
   rw[qgZ (by simpa using hbl2),qfZ hne,h]
 · rw[qfZ (Ne.symm hi)]
end
section
open Go Go.Lib
attribute [-simp] zJ zY zn zL zl
end
section
open Go Go.Lib
end
section
open Go Go.Lib
attribute [-simp] zJ zY zn zL zl
def lgB(names:List (List UInt8)):List AV:=zU (cpt (srt (zAR 3 names)))
theorem zCX(names:List (List UInt8)):zZ (lgB names)=true:=ZZ _
theorem zIB(names:List (List UInt8)):(lgB names).take (zAM 3 names).length=zU (zAM 3 names):=zQ7 _
theorem zLI(names:List (List UInt8)):(zAM 3 names).length<=(lgB names).length:=by
 have:=congrArg List.length (zIB names);rw[qjZ]at this;simp only[zU,r7Z]at this;omega
theorem zJF(names:List (List UInt8)):(zAM 3 names).length<=names.length:=by
 have h1:=zLI names
 have h2:(lgB names).length<=names.length:=by
   unfold lgB;have:(cpt (srt (zAR 3 names))).length=(srt (zAR 3 names)).length:=zC8 _;simp only[zU,r7Z];rw[this,zIW];exact zEd 3 names
 omega
noncomputable def zTv:Gam:=zv [(169,zHv),(170,zXG)]
theorem zTp:GOk Pz zTv:=zC zJk (zC zRm zD)
theorem zVf(x:Int)(hx : -9223372036854775808<=x/\x<=9223372036854775807)(names:List (List UInt8))(hl:names.length<=1000000)(hs:∀s∈names,s.length<=1000000) :
   Ct Pz 99 [.int .i64 x,.sl 0 0 names.length 1 false] [.cells false (names.map AV.str)] (.tuple [.sl 1 (zBQ x (zAM 3 names)) (ZL x names).1.length 1 false,.int .i64 (ZL x names).2]) [.cells false (names.map AV.str),.cells true (lgB names)]:=by
 have hΓ:=zTp
 have hA1:∀rn:List Nat,AWs rn (names.map AV.str) (names.map AV.str):=fun rn=>AWs.refl _ _ (ZK _ _ fun _=>rfl)
 have hbf:=zCX names;have htk:=zIB names;have hbl:=zLI names;have hnl:=zJF names;have hasc:=zMR 3 names
 have ht:(names.map AV.str).take names.length=names.map AV.str:=q6Z (by simp)
 have hsa:(names.all fun s=>decide (s.length<=1000000))=true:=s5Z.2 fun s h=>by simpa using hs s h
 have hsa2:(∀s∈names,s.length<=1000000)=True:=by simpa using hs
 have hunf:lgB names=zU (cpt (srt (zAR 3 names))):=rfl;have hpl:=zVq x (zAM 3 names);obtain⟨r,hr⟩:∃r,ZL x names=r:=⟨_,rfl⟩;rw[hr];unfold ZL at hr;obtain⟨nums,hnums⟩:∃n,zAM 3 names=n:=⟨_,rfl⟩;rw[hnums]at htk hbl hnl hasc hpl hr ⊢;obtain⟨B,hB⟩:∃B,lgB names=B:=⟨_,rfl⟩;rw[hB]at hbf htk hbl hunf ⊢;obtain⟨p,hp⟩:∃p,zBQ x nums=p:=⟨_,rfl⟩;rw[hp]at hpl ⊢;obtain⟨N,hN⟩:∃N,nums.length=N:=⟨_,rfl⟩;rw[hN]at htk hbl hnl hpl
 have hsB:∀k,zAV k B=B:=fun k=>Zk k _ hbf
 have hA2:∀rn:List Nat,AWs rn B B:=fun rn=>AWs.refl _ _ hbf
 have hBg:∀i (h:i<N),(∀h',B[i]'h'=.int .i64 (nums.getD i 0))/\B[i]? = some (.int .i64 (nums.getD i 0)):=fun i h=>by
   have e:B[i]? = some (.int .i64 (nums.getD i 0)):=by
     have h1:(B.take N)[i]? = some (.int .i64 (nums.getD i 0)):=by
       rw[htk];refine (zDl ?_).2
       rw[q2Z,q3Z (by omega)]
       rfl
     rw[r4Z,if_pos h]at h1;exact h1
   exact⟨fun h'=>(q1Z.1 e).2,e⟩
 have hN6:N<=1000000:=by omega
 have hrs:zAr (B.take N)=some nums:=by rw[htk,zCu]
 have hdg:∀i,(nums.drop p).getD i 0=nums.getD (p+i) 0:=fun i=>by rw[q2Z,r5Z,<-q2Z]
 have hfl:(zDa x nums).length=N-p:=by unfold zDa;rw[qkZ,hp,hN]
 have hok:okL x (zDa x nums)↔nums.getD p 0=x/\nums.getD (p+(N-p-1)) 0=x+((N-p:Nat):Int)-1/\nums.getD (p+(N-p-1)) 0<=900000000:=by
   unfold okL;rw[hfl];unfold zDa;rw[hp,hdg,hdg,Nat.add_zero]
 refine zK Tryz.func99 rfl ?_;simp only[Tryz.ntmps99,q7Z,q8Z,Nat.reduceAdd,Nat.reduceSub,qbZ,q9Z,qaZ]
 refine Sim.step hmix hΓ (n:=0) (by simp;exact⟨rfl,rfl⟩) (by simp) ?_
 by_cases hc:x<1\/900000000<x
 · rw[if_pos hc]at hr
   subst hr;by_cases h1:x<1
   · refine Sim.exec hmix hΓ (n:=0) (by simp[h1];exact⟨rfl,rfl,rfl⟩) (by simp) ?_
     exact⟨.inr rfl,_,by simp <;> rfl,Weak.mk' [0,100] (by decide) (by decide) (by simp[AWs,AW]) (by simp[AWg,AWb,hA1])⟩
   · have h2:900000000<x:=by omega
     refine Sim.exec hmix hΓ (n:=0) (by simp[h1,h2];exact⟨rfl,rfl,rfl⟩) (by simp) ?_
     exact⟨.inr rfl,_,by simp <;> rfl,Weak.mk' [0,100] (by decide) (by decide) (by simp[AWs,AW]) (by simp[AWg,AWb,hA1])⟩
 rw[if_neg hc]at hr
 have h1:¬x<1:=fun h=>hc (.inl h)
 have h2:¬900000000<x:=fun h=>hc (.inr h)
 have hpN:(p:Int)<=(N:Int):=by omega
 refine Sim.step hmix hΓ (n:=0) (by simp[h1,h2];exact⟨rfl,rfl⟩) (by simp) ?_
 refine Sim.step hmix hΓ (n:=0) (by simp +decide [zTv,zHv,zBj,zKG,ht,hl,hsa,hsa2,hnums,hN,<-hunf,shA,shB,hsB];exact⟨rfl,rfl⟩) (by simp) ?_
 refine Sim.step hmix hΓ (n:=0) (by simp +decide [zTv,zXG,zAZ,zIi,hbl,hrs,hN6,hN,hasc,hp];exact⟨rfl,rfl⟩) (by simp) ?_
 refine Sim.step hmix hΓ (n:=0) (by simp +decide [hpl,hpN];exact⟨rfl,rfl⟩) (by simp) ?_
 obtain⟨L,hL⟩:∃L,N-p=L:=⟨_,rfl⟩;rw[hL]at hfl hok ⊢
 refine Sim.seq (Sim.step hmix hΓ (n:=0) (by simp +decide;exact⟨rfl,rfl⟩) (by simp) ?_)
 by_cases hL0:L=0
 · rw[if_pos (hfl.trans hL0)]at hr
   subst hL0;subst hr
   refine Sim.exec hmix hΓ (n:=0) (by simp[hL];exact⟨rfl,rfl,rfl⟩) (by simp) ?_
   exact⟨.inr rfl,_,by simp <;> rfl,Weak.mk' [0,1] (by decide) (by decide) (by simp[AWs,AW]) (by simp[AWg,AWb,hA1,hA2])⟩
 rw[if_neg (by rw[hfl];exact hL0)]at hr
 obtain⟨g1,g2⟩:=hBg p (by omega)
 obtain⟨g3,g4⟩:=hBg (p+(L-1)) (by omega)
 obtain⟨l0,hl0⟩:∃z,nums.getD p 0=z:=⟨_,rfl⟩;obtain⟨l1,hl1⟩:∃z,nums.getD (p+(L-1)) 0=z:=⟨_,rfl⟩;rw[hl0]at g1 g2 hok;rw[hl1]at g3 g4 hok
 have hLi:¬(L:Int)=0:=by omega
 have hLb:((L:Int)==0)=false:=beq_eq_false_iff_ne.2 hLi
 have y1:IntKind.i64.wrap ((L:Int)-1)=((L-1:Nat):Int):=by rw[zX (by omega) (by omega)];omega
 have y2:IntKind.i64.wrap (x+(L:Int))=x+L:=zX (by omega) (by omega)
 have y3:IntKind.i64.wrap (x+(L:Int)-1)=x+L-1:=zX (by omega) (by omega)
 obtain⟨q,hq⟩:∃q,L-1=q:=⟨_,rfl⟩;rw[hq]at g3 g4 y1
 have q1:q<L:=by omega
 have q2:(q:Int)<L:=by omega
 have q3:(0:Int)<=(q:Int):=by omega
 have q4:0<L:=by omega
 have q5:(0:Int)<(L:Int):=by omega
 have q6:p<B.length:=by omega
 have q7:p+q<B.length:=by omega
 have q8:p+1<=B.length:=by omega
 have q9:p+q+1<=B.length:=by omega
 have hLn:L≠0:=hL0
 refine Sim.step hmix hΓ (n:=0) (by simp +decide [hLi,hLb];exact⟨rfl,rfl⟩) (by simp) ?_
 refine Sim.cond (t:=false) (by simp) ?_
 rw[if_neg (by decide)]
 refine Sim.seq (Sim.plain (by simp) ?_)
 by_cases e1:l0=x;rotate_left
 · have e1b:(l0==x)=false:=by simpa using e1
   have e1c:(l0 != x)=true:=by simpa using e1
   rw[if_neg fun h=>e1 (hok.1 h).1]at hr
   subst hr
   refine SimP.many hΓ 6 rfl rfl (by simp +decide [g1,g2,q4,q5,q6,q8,e1,e1b,e1c];exact⟨rfl,rfl⟩) ?_
   refine SimP.many hΓ 19 rfl rfl (by simp +decide;exact⟨rfl,rfl⟩) ?_
   refine SimP.done ?_;dsimp only
   refine Sim.exec hmix hΓ (n:=0) (by simp +decide;exact⟨rfl,rfl,rfl⟩) (by simp) ?_
   exact⟨.inr rfl,_,by simp <;> rfl,Weak.mk' [0,1] (by decide) (by decide) (by simp[AWs,AW]) (by simp[AWg,AWb,hA1,hA2])⟩
 subst e1
 refine SimP.many hΓ 6 rfl rfl (by simp +decide [g1,g2,q4,q5,q6,q8];exact⟨rfl,rfl⟩) ?_
 by_cases e2:l1=l0+(L:Int)-1;rotate_left
 · have e2b:(l1==l0+(L:Int)-1)=false:=by simpa using e2
   have e2c:(l1 != l0+(L:Int)-1)=true:=by simpa using e2
   rw[if_neg fun h=>e2 (hok.1 h).2.1]at hr
   subst hr
   refine SimP.many hΓ 10 rfl rfl (by simp +decide [g3,g4,q1,q2,q3,q7,q9,y1,y2,y3,e2,e2b,e2c];exact⟨rfl,rfl⟩) ?_
   refine SimP.many hΓ 9 rfl rfl (by simp +decide;exact⟨rfl,rfl⟩) ?_
   refine SimP.done ?_;dsimp only
   refine Sim.exec hmix hΓ (n:=0) (by simp +decide;exact⟨rfl,rfl,rfl⟩) (by simp) ?_
   exact⟨.inr rfl,_,by simp <;> rfl,Weak.mk' [0,1] (by decide) (by decide) (by simp[AWs,AW]) (by simp[AWg,AWb,hA1,hA2])⟩
 have e2b:(l1==l0+(L:Int)-1)=true:=by simpa using e2
 have e2c:(l1 != l0+(L:Int)-1)=false:=by simpa using e2
 refine SimP.many hΓ 10 rfl rfl (by simp +decide [g3,g4,q1,q2,q3,q7,q9,y1,y2,y3,e2b,e2c];exact⟨rfl,rfl⟩) ?_
 by_cases e3:l1<=900000000;rotate_left
 · have e3b:(900000000:Int)<l1:=by omega
   rw[if_neg fun h=>e3 (hok.1 h).2.2]at hr
   subst hr
   refine SimP.many hΓ 9 rfl rfl (by simp +decide [g3,g4,q1,q2,q3,q7,q9,y1,e3b];exact⟨rfl,rfl⟩) ?_
   refine SimP.done ?_;dsimp only
   refine Sim.exec hmix hΓ (n:=0) (by simp +decide;exact⟨rfl,rfl,rfl⟩) (by simp) ?_
   exact⟨.inr rfl,_,by simp <;> rfl,Weak.mk' [0,1] (by decide) (by decide) (by simp[AWs,AW]) (by simp[AWg,AWb,hA1,hA2])⟩
 have e3b:¬(900000000:Int)<l1:=by omega
 rw[if_pos (hok.2 ⟨rfl,e2,e3⟩)]at hr;subst hr;rw[hfl]
 refine SimP.many hΓ 9 rfl rfl (by simp +decide [g3,g4,q1,q2,q3,q7,q9,y1,e3b];exact⟨rfl,rfl⟩) ?_
 refine SimP.done ?_;dsimp only
 refine Sim.exec hmix hΓ (n:=0) (by simp +decide;exact⟨rfl,rfl,rfl⟩) (by simp) ?_
 dsimp only
 refine Sim.exec hmix hΓ (n:=0) (by simp +decide;exact⟨rfl,rfl,rfl⟩) (by simp) ?_
 exact⟨.inr rfl,_,by simp <;> rfl,Weak.mk' [0,1] (by decide) (by decide) (by simp[AWs,AW,hL]) (by simp[AWg,AWb,hA1,hA2])⟩
end
end Go.Proofs.YtpmfecnajoojeaaGreatDoor
