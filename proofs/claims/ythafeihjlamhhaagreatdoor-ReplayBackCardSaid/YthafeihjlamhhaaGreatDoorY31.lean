/- Parts of the proof of ReplayBack: lemmas, each with its own conditions. -/
import Derived.Test.YthafeihjlamhhaaGreatDoorY30
set_option maxHeartbeats 64000000
open List renaming getElem?_eq_some_iff → q1Z, getD_eq_getElem?_getD → q2Z, getElem?_eq_getElem → q3Z, take_of_length_le → q6Z, length_cons → q7Z, length_nil → q8Z, cons_append → q9Z, nil_append → qaZ, replicate → qbZ, length_take → qjZ, length_drop → qkZ, getElem?_take → r4Z, getElem?_drop → r5Z, length_map → r7Z, getElem?_eq_none → s4Z, all_eq_true → s5Z
open Nat renaming le_refl → qnZ, lt_or_ge → s2Z
namespace Go.Proofs.YthafeihjlamhhaaGreatDoor
open _root_.Go.Proofs.Tryz renaming prog → Pz
set_option maxRecDepth 100000
section
open Go Go.Lib
attribute [-simp] zJ zT zk zL zm
theorem zQw(x:Int):∀(l:List Int) (i:Nat),i<=l.length->(∀k y,k<i->l[k]? = some y->y<x)->(∀y,l[i]? = some y->¬y<x)->zBE x l=i
 | [],i,h,_,_=>by simp at h;subst h;rfl
 | y::l,0,_,_,h=>by
   have:=h y rfl;simp[zBE,List.takeWhile_cons,this]
 | y::l,i+1,h,h1,h2=>by
   have h3:=h1 0 y (by omega) rfl
   have:=zQw x l i (by simpa using h) (fun k y hk hy=>h1 (k+1) y (by omega) (by simpa using hy)) (fun y hy=>h2 y (by simpa using hy))
   unfold zBE at this ⊢
   rw[List.takeWhile_cons,if_pos (by simpa using h3),q7Z,this]
theorem zVp(x:Int)(l:List Int):zBE x l<=l.length:=(List.takeWhile_prefix _).length_le
theorem zQX{l:List Int}(h:zI4 l){i k:Nat}{x y:Int}(hik:i<k)(hx:l[i]? = some x)(hy:l[k]? = some y):x<y:=by
 obtain⟨h1,e1⟩:=q1Z.1 hx;obtain⟨h2,e2⟩:=q1Z.1 hy;have:=(List.pairwise_iff_getElem.1 h) i k h1 h2 hik
 rwa [e1,e2]at this
def zIt:List FuncId:=[263,295,264]
theorem zWS:GOk Pz (zAJ Pz (zj []) 0 zIt 3):=zd hmix zE 0 zIt 3
theorem zXl(l:List Int)(x:Int)(hl:l.length<=1000000)(ha:zI4 l) :
   Ct Pz 205 [.sl 0 0 l.length 1 false,.int .i64 x] [.cells false (zR l)] (.tuple [.int .i64 (zBE x l),.top]) [.cells false (zR l)]:=by
 have hΓ:=zWS
 have hA1:∀rn:List Nat,AWs rn (zR l) (zR l):=fun rn=>AWs.refl _ _ (ZV l)
 refine zI Tryz.func205 rfl ?_;simp only[Tryz.ntmps205,q7Z,q8Z,Nat.reduceAdd,Nat.reduceSub,qbZ,q9Z,qaZ]
 refine Sim.step hmix hΓ (n:=0) (by simp;exact⟨rfl,rfl⟩) (by simp) ?_
 refine Sim.step hmix hΓ (n:=0) (by simp;exact⟨rfl,rfl⟩) (by simp) ?_
 refine Sim.step hmix hΓ (n:=0) (by simp;exact⟨rfl,rfl⟩) (by simp) ?_
 refine Sim.seq (Sim.block (Sim.loopW (fun p:Nat×Nat=>p.1<=p.2/\p.2<=l.length/\(∀k y,k<p.1->l[k]? = some y->y<x)/\(∀k y,p.2<=k->l[k]? = some y->¬y<x))
   (fun p=>[.sl 0 0 l.length 1 false,.int .i64 x,.top,.top,.int .i64 0,.bool false,.int .i64 l.length,.int .i64 p.1,.int .i64 p.2]++qbZ 45 .top)
   (fun _=>[.cells false (zR l)]) (fun p=>p.2-p.1) (0,l.length) (by simp) ⟨by simp,by simp,fun k x h=>by omega,fun k x h hx=>by rw[s4Z (by omega)]at hx;cases hx⟩ (Weak.mk' [0] (by decide) (by decide) (by simp) (by simp[AWg,AWb,hA1])) fun ⟨i,h⟩ ⟨h1,h2,h3,h4⟩=>?_))
 dsimp only at h1 h2 h3 h4 ⊢;by_cases hlt:i<h
 · obtain⟨m,hm⟩:∃m,(i+h) / 2=m:=⟨_,rfl⟩
   have m1:i<=m:=by omega
   have m2:m<h:=by omega
   have ml:m<l.length:=by omega
   have w1:IntKind.i64.wrap ((i:Int)+h)=i+h:=zW (by omega) (by omega)
   have w2:IntKind.u64.wrap ((i:Int)+h)=i+h:=zHg (by omega) (by omega)
   have w3:((i:Int)+h).fdiv 2=m:=by rw[Int.fdiv_eq_ediv_of_nonneg _ (by omega)];omega
   have w4:IntKind.i64.wrap (m:Int)=m:=zW (by omega) (by omega)
   have w5:IntKind.u64.wrap (m:Int)=m:=zHg (by omega) (by omega)
   have w6:IntKind.i64.wrap ((m:Int)+1)=m+1:=zW (by omega) (by omega)
   obtain⟨y,hy⟩:∃y,l[m]? = some y:=⟨_,q3Z ml⟩;obtain⟨g1,g2⟩:=zDj hy;by_cases hb:y<x
   · refine Sim.exec hmix hΓ (n:=0) (by simp +decide [hlt,ml,g1,g2,w1,w2,w3,w4,w5,w6,hb,zIt,Tryz.f263,Tryz.f295];exact⟨rfl,rfl,rfl⟩) (by simp) ?_
     refine ⟨(m+1,h),⟨by dsimp only;omega,h2,fun k z hk hz=>?_,h4⟩,Weak.mk' [0] (by decide) (by decide) (by simp) (by simp[AWg,AWb,hA1]),by dsimp only;omega⟩
     rcases s2Z k m with hkm | hkm
     · have h5:=zQX ha hkm hz hy
       omega
     · have:k=m:=by dsimp only at hk;omega
       subst this
       rw[hy]at hz;cases hz;exact hb
   · refine Sim.exec hmix hΓ (n:=0) (by simp +decide [hlt,ml,g1,g2,w1,w2,w3,w4,w5,w6,hb,zIt,Tryz.f263,Tryz.f295];exact⟨rfl,rfl,rfl⟩) (by simp) ?_
     refine ⟨(i,m),⟨m1,by dsimp only;omega,h3,fun k z hk hz=>?_⟩,Weak.mk' [0] (by decide) (by decide) (by simp) (by simp[AWg,AWb,hA1]),by dsimp only;omega⟩
     rcases s2Z m k with hkm | hkm
     · have h5:=zQX ha hkm hy hz
       omega
     · have:k=m:=by dsimp only at hk;omega
       subst this
       rw[hy]at hz;cases hz;exact hb
 · have hih:i=h:=by omega
   subst hih
   have hp:zBE x l=i:=zQw x l i h2 h3 fun y hy=>h4 i y (qnZ _) hy
   rw[hp]
   refine Sim.exec hmix hΓ (n:=0) (by simp[hlt];exact⟨rfl,rfl,rfl⟩) (by simp) ?_
   dsimp only;rw[if_pos rfl];by_cases hin:i<l.length
   · obtain⟨y,hy⟩:∃y,l[i]? = some y:=⟨_,q3Z hin⟩
     obtain⟨g1,g2⟩:=zDj hy;by_cases he:y=x
     · subst he
       refine Sim.exec hmix hΓ (n:=0) (by simp +decide [hin,g1,g2,zIt,Tryz.f264];exact⟨rfl,rfl,rfl⟩) (by simp) ?_
       exact⟨.inr rfl,_,by simp;rfl,Weak.mk' [0] (by decide) (by decide) (by simp[AWs,AW]) (by simp[AWg,AWb,hA1])⟩
     · have he2:(y==x)=false:=by simpa using he
       refine Sim.exec hmix hΓ (n:=0) (by simp +decide [hin,g1,g2,he,he2,zIt,Tryz.f264];exact⟨rfl,rfl,rfl⟩) (by simp) ?_
       exact⟨.inr rfl,_,by simp;rfl,Weak.mk' [0] (by decide) (by decide) (by simp[AWs,AW]) (by simp[AWg,AWb,hA1])⟩
   · refine Sim.exec hmix hΓ (n:=0) (by simp +decide [hin,zIt];exact⟨rfl,rfl,rfl⟩) (by simp) ?_
     exact⟨.inr rfl,_,by simp;rfl,Weak.mk' [0] (by decide) (by decide) (by simp[AWs,AW]) (by simp[AWg,AWb,hA1])⟩
def zGu(H:zA):AV->Option (List Int)
 | .nils=>some []
 | .slice b off len 1 _=>match H[b]? with
   | some (.cells _ l)=>if off+len<=l.length then zA5 ((l.drop off).take len) else none
   | _=>none
 | .sl b off len 1 _=>match H[b]? with
   | some (.cells _ l)=>if off+len<=l.length then zA5 ((l.drop off).take len) else none
   | _=>none
 | _=>none
theorem zGU{H:zA}{x:AV}{a:List Int}(h:zGu H x=some a):∃b off,(∀(i:Nat) (wd:List (Nat×Nat)),wd[i]? = some (b,off)->zBq wd (.sl i 0 a.length 1 false) x) /\
   (match H[b]? with | some (.cells _ l)=>off+(zR a).length<=l.length/\zR a=(l.drop off).take (zR a).length | none=>True | _=>False):=by
 have key:∀(b off len:Nat) (o:Bool) (l:List AV),H[b]? = some (.cells o l)->off+len<=l.length->zA5 ((l.drop off).take len)=some a->len=a.length/\off+(zR a).length<=l.length/\zR a=(l.drop off).take (zR a).length:=by
   intro b off len o l hb hle hs;have e:=zCq hs
   have hil:(zR a).length=a.length:=by simp[zR]
   have hlen:len=a.length:=by
     have:=congrArg List.length e;simp[hil]at this;omega
   subst hlen
   exact⟨rfl,by rw[hil];exact hle,by rw[hil];exact e.symm⟩
 unfold zGu at h;split at h
 · cases h
   exact⟨H.length,0,fun i wd _=>by simp[zBq],by simp[zR]⟩
 · rename_i b off len c
   split at h;rotate_left
   · cases h
   rename_i o l hb;split at h;rotate_left
   · cases h
   rename_i hle;obtain⟨rfl,h1,h2⟩:=key b off len o l hb hle h
   exact⟨b,off,fun i wd hw=>by simp[zBq,hw],by rw[hb];exact⟨h1,h2⟩⟩
 · rename_i b off len c
   split at h;rotate_left
   · cases h
   rename_i o l hb;split at h;rotate_left
   · cases h
   rename_i hle;obtain⟨rfl,h1,h2⟩:=key b off len o l hb hle h
   exact⟨b,off,fun i wd hw=>by simp[zBq,hw],by rw[hb];exact⟨h1,h2⟩⟩
 · cases h
open Classical in
noncomputable def zXn:zU:=Zz fun args H=>match args with
 | [y,.int .i64 x]=>match zGu H y with
   | some l=>if l.length<=1000000/\zI4 l then some (.tuple [.int .i64 (zBE x l),.top]) else none
   | none=>none
 | _=>none
theorem zRB:Sound Pz 205 zXn:=by
 refine Zx (zG Tryz.func205 rfl (by decide)) fun args H v h=>?_
 split at h <;> try cases h
 rename_i y x
 split at h <;> try cases h
 rename_i l hx
 split at h <;> cases h
 rename_i hc;obtain⟨b1,o1,w1,g1⟩:=zGU hx;refine zEp (zXl l x hc.1 hc.2) rfl [(b1,o1)] ?_ ?_
 · exact⟨w1 0 _ rfl,⟨rfl,rfl⟩,trivial⟩
 · exact⟨g1,ZV _,trivial⟩
def lgB(names:List (List UInt8)):List AV:=zR (cpt (srt (zAT 3 names)))
theorem zAj(names:List (List UInt8)):zP (lgB names)=true:=ZV _
theorem zIX(names:List (List UInt8)):(lgB names).take (Z3 3 names).length=zR (Z3 3 names):=zRi _
theorem zLe(names:List (List UInt8)):(Z3 3 names).length<=(lgB names).length:=by
 have:=congrArg List.length (zIX names);rw[qjZ]at this;simp only[zR,r7Z]at this;omega
theorem zHw(names:List (List UInt8)):(Z3 3 names).length<=names.length:=by
 have h1:=zLe names
 have h2:(lgB names).length<=names.length:=by
   unfold lgB;have:(cpt (srt (zAT 3 names))).length=(srt (zAT 3 names)).length:=zDH _;simp only[zR,r7Z];rw[this,zIZ];exact zEl 3 names
 omega
noncomputable def zTT:Gam:=zj [(204,zIR),(205,zXn)]
theorem zUF:GOk Pz zTT:=zC zJg (zC zRB zE)
theorem zVx(x:Int)(hx : -9223372036854775808<=x/\x<=9223372036854775807)(names:List (List UInt8))(hl:names.length<=1000000)(hs:∀s∈names,s.length<=1000000) :
   Ct Pz 139 [.int .i64 x,.sl 0 0 names.length 1 false] [.cells false (names.map AV.str)] (.tuple [.sl 1 (zBE x (Z3 3 names)) (ZM x names).1.length 1 false,.int .i64 (ZM x names).2]) [.cells false (names.map AV.str),.cells true (lgB names)]:=by
 have hΓ:=zUF
 have hA1:∀rn:List Nat,AWs rn (names.map AV.str) (names.map AV.str):=fun rn=>AWs.refl _ _ (ZA _ _ fun _=>rfl)
 have hbf:=zAj names;have htk:=zIX names;have hbl:=zLe names;have hnl:=zHw names;have hasc:=zIq 3 names
 have ht:(names.map AV.str).take names.length=names.map AV.str:=q6Z (by simp)
 have hsa:(names.all fun s=>decide (s.length<=1000000))=true:=s5Z.2 fun s h=>by simpa using hs s h
 have hsa2:(∀s∈names,s.length<=1000000)=True:=by simpa using hs
 have hunf:lgB names=zR (cpt (srt (zAT 3 names))):=rfl;have hpl:=zVp x (Z3 3 names);obtain⟨r,hr⟩:∃r,ZM x names=r:=⟨_,rfl⟩;rw[hr];unfold ZM at hr;obtain⟨nums,hnums⟩:∃n,Z3 3 names=n:=⟨_,rfl⟩;rw[hnums]at htk hbl hnl hasc hpl hr ⊢;obtain⟨B,hB⟩:∃B,lgB names=B:=⟨_,rfl⟩;rw[hB]at hbf htk hbl hunf ⊢;obtain⟨p,hp⟩:∃p,zBE x nums=p:=⟨_,rfl⟩;rw[hp]at hpl ⊢;obtain⟨N,hN⟩:∃N,nums.length=N:=⟨_,rfl⟩;rw[hN]at htk hbl hnl hpl
 have hsB:∀k,Z6 k B=B:=fun k=>Zg k _ hbf
 have hA2:∀rn:List Nat,AWs rn B B:=fun rn=>AWs.refl _ _ hbf
 have hBg:∀i (h:i<N),(∀h',B[i]'h'=.int .i64 (nums.getD i 0))/\B[i]? = some (.int .i64 (nums.getD i 0)):=fun i h=>by
   have e:B[i]? = some (.int .i64 (nums.getD i 0)):=by
     have h1:(B.take N)[i]? = some (.int .i64 (nums.getD i 0)):=by
       rw[htk];refine (zDj ?_).2
       rw[q2Z,q3Z (by omega)]
       rfl
     rw[r4Z,if_pos h]at h1;exact h1
   exact⟨fun h'=>(q1Z.1 e).2,e⟩
 have hN6:N<=1000000:=by omega
 have hrs:zA5 (B.take N)=some nums:=by rw[htk,zDD]
 have hdg:∀i,(nums.drop p).getD i 0=nums.getD (p+i) 0:=fun i=>by rw[q2Z,r5Z,<-q2Z]
 have hfl:(zCB x nums).length=N-p:=by unfold zCB;rw[qkZ,hp,hN]
 have hok:okL x (zCB x nums)↔nums.getD p 0=x/\nums.getD (p+(N-p-1)) 0=x+((N-p:Nat):Int)-1/\nums.getD (p+(N-p-1)) 0<=900000000:=by
   unfold okL;rw[hfl];unfold zCB;rw[hp,hdg,hdg,Nat.add_zero]
 refine zI Tryz.func139 rfl ?_;simp only[Tryz.ntmps139,q7Z,q8Z,Nat.reduceAdd,Nat.reduceSub,qbZ,q9Z,qaZ]
 refine Sim.step hmix hΓ (n:=0) (by simp;exact⟨rfl,rfl⟩) (by simp) ?_
 by_cases hc:x<1\/900000000<x
 · rw[if_pos hc]at hr
   subst hr;by_cases h1:x<1
   · refine Sim.exec hmix hΓ (n:=0) (by simp[h1];exact⟨rfl,rfl,rfl⟩) (by simp) ?_
     exact⟨.inr rfl,_,by simp <;> rfl,Weak.mk' [0,100] (by decide) (by decide) (by simp[AWs,AW]) (by simp[AWg,AWb,hA1])⟩
   · have h2:900000000<x:=by omega
     refine Sim.exec hmix hΓ (n:=0) (by simp[h1,h2];exact⟨rfl,rfl,rfl⟩) (by simp) ?_
     exact⟨.inr rfl,_,by simp <;> rfl,Weak.mk' [0,100] (by decide) (by decide) (by simp[AWs,AW]) (by simp[AWg,AWb,hA1])⟩
 rw[if_neg hc]at hr
 have h1:¬x<1:=fun h=>hc (.inl h)
 have h2:¬900000000<x:=fun h=>hc (.inr h)
 have hpN:(p:Int)<=(N:Int):=by omega
 refine Sim.step hmix hΓ (n:=0) (by simp[h1,h2];exact⟨rfl,rfl⟩) (by simp) ?_
 refine Sim.step hmix hΓ (n:=0) (by simp +decide [zTT,zIR,zBV,zJ7,ht,hl,hsa,hsa2,hnums,hN,<-hunf,shA,shB,hsB];exact⟨rfl,rfl⟩) (by simp) ?_
 refine Sim.step hmix hΓ (n:=0) (by simp +decide [zTT,zXn,Zz,zGu,hbl,hrs,hN6,hN,hasc,hp];exact⟨rfl,rfl⟩) (by simp) ?_
 refine Sim.step hmix hΓ (n:=0) (by simp +decide [hpl,hpN];exact⟨rfl,rfl⟩) (by simp) ?_
 obtain⟨L,hL⟩:∃L,N-p=L:=⟨_,rfl⟩;rw[hL]at hfl hok ⊢
 refine Sim.seq (Sim.step hmix hΓ (n:=0) (by simp +decide;exact⟨rfl,rfl⟩) (by simp) ?_)
 by_cases hL0:L=0
 · rw[if_pos (hfl.trans hL0)]at hr
   subst hL0;subst hr
   refine Sim.exec hmix hΓ (n:=0) (by simp[hL];exact⟨rfl,rfl,rfl⟩) (by simp) ?_
   exact⟨.inr rfl,_,by simp <;> rfl,Weak.mk' [0,1] (by decide) (by decide) (by simp[AWs,AW]) (by simp[AWg,AWb,hA1,hA2])⟩
 rw[if_neg (by rw[hfl];exact hL0)]at hr
 obtain⟨g1,g2⟩:=hBg p (by omega)
 obtain⟨g3,g4⟩:=hBg (p+(L-1)) (by omega)
 obtain⟨l0,hl0⟩:∃z,nums.getD p 0=z:=⟨_,rfl⟩;obtain⟨l1,hl1⟩:∃z,nums.getD (p+(L-1)) 0=z:=⟨_,rfl⟩;rw[hl0]at g1 g2 hok;rw[hl1]at g3 g4 hok
 have hLi:¬(L:Int)=0:=by omega
 have hLb:((L:Int)==0)=false:=beq_eq_false_iff_ne.2 hLi
 have y1:IntKind.i64.wrap ((L:Int)-1)=((L-1:Nat):Int):=by rw[zW (by omega) (by omega)];omega
 have y2:IntKind.i64.wrap (x+(L:Int))=x+L:=zW (by omega) (by omega)
 have y3:IntKind.i64.wrap (x+(L:Int)-1)=x+L-1:=zW (by omega) (by omega)
 obtain⟨q,hq⟩:∃q,L-1=q:=⟨_,rfl⟩;rw[hq]at g3 g4 y1
 have q1:q<L:=by omega
 have q2:(q:Int)<L:=by omega
 have q3:(0:Int)<=(q:Int):=by omega
 have q4:0<L:=by omega
 have q5:(0:Int)<(L:Int):=by omega
 have q6:p<B.length:=by omega
 have q7:p+q<B.length:=by omega
 have q8:p+1<=B.length:=by omega
 have q9:p+q+1<=B.length:=by omega
 have hLn:L≠0:=hL0
 refine Sim.step hmix hΓ (n:=0) (by simp +decide [hLi,hLb];exact⟨rfl,rfl⟩) (by simp) ?_
 refine Sim.cond (t:=false) (by simp) ?_
 rw[if_neg (by decide)]
 refine Sim.seq (Sim.plain (by simp) ?_)
 by_cases e1:l0=x;rotate_left
 · have e1b:(l0==x)=false:=by simpa using e1
   have e1c:(l0 != x)=true:=by simpa using e1
   rw[if_neg fun h=>e1 (hok.1 h).1]at hr
   subst hr
   refine SimP.many hΓ 6 rfl rfl (by simp +decide [g1,g2,q4,q5,q6,q8,e1,e1b,e1c];exact⟨rfl,rfl⟩) ?_
   refine SimP.many hΓ 19 rfl rfl (by simp +decide;exact⟨rfl,rfl⟩) ?_
   refine SimP.done ?_;dsimp only
   refine Sim.exec hmix hΓ (n:=0) (by simp +decide;exact⟨rfl,rfl,rfl⟩) (by simp) ?_
   exact⟨.inr rfl,_,by simp <;> rfl,Weak.mk' [0,1] (by decide) (by decide) (by simp[AWs,AW]) (by simp[AWg,AWb,hA1,hA2])⟩
 subst e1
 refine SimP.many hΓ 6 rfl rfl (by simp +decide [g1,g2,q4,q5,q6,q8];exact⟨rfl,rfl⟩) ?_
 by_cases e2:l1=l0+(L:Int)-1;rotate_left
 · have e2b:(l1==l0+(L:Int)-1)=false:=by simpa using e2
   have e2c:(l1 != l0+(L:Int)-1)=true:=by simpa using e2
   rw[if_neg fun h=>e2 (hok.1 h).2.1]at hr
   subst hr
   refine SimP.many hΓ 10 rfl rfl (by simp +decide [g3,g4,q1,q2,q3,q7,q9,y1,y2,y3,e2,e2b,e2c];exact⟨rfl,rfl⟩) ?_
   refine SimP.many hΓ 9 rfl rfl (by simp +decide;exact⟨rfl,rfl⟩) ?_
   refine SimP.done ?_;dsimp only
   refine Sim.exec hmix hΓ (n:=0) (by simp +decide;exact⟨rfl,rfl,rfl⟩) (by simp) ?_
   exact⟨.inr rfl,_,by simp <;> rfl,Weak.mk' [0,1] (by decide) (by decide) (by simp[AWs,AW]) (by simp[AWg,AWb,hA1,hA2])⟩
 have e2b:(l1==l0+(L:Int)-1)=true:=by simpa using e2
 have e2c:(l1 != l0+(L:Int)-1)=false:=by simpa using e2
 refine SimP.many hΓ 10 rfl rfl (by simp +decide [g3,g4,q1,q2,q3,q7,q9,y1,y2,y3,e2b,e2c];exact⟨rfl,rfl⟩) ?_
 by_cases e3:l1<=900000000;rotate_left
 · have e3b:(900000000:Int)<l1:=by omega
   rw[if_neg fun h=>e3 (hok.1 h).2.2]at hr
   subst hr
   refine SimP.many hΓ 9 rfl rfl (by simp +decide [g3,g4,q1,q2,q3,q7,q9,y1,e3b];exact⟨rfl,rfl⟩) ?_
   refine SimP.done ?_;dsimp only
   refine Sim.exec hmix hΓ (n:=0) (by simp +decide;exact⟨rfl,rfl,rfl⟩) (by simp) ?_
   exact⟨.inr rfl,_,by simp <;> rfl,Weak.mk' [0,1] (by decide) (by decide) (by simp[AWs,AW]) (by simp[AWg,AWb,hA1,hA2])⟩
 have e3b:¬(900000000:Int)<l1:=by omega
 rw[if_pos (hok.2 ⟨rfl,e2,e3⟩)]at hr;subst hr;rw[hfl]
 refine SimP.many hΓ 9 rfl rfl (by simp +decide [g3,g4,q1,q2,q3,q7,q9,y1,e3b];exact⟨rfl,rfl⟩) ?_
 refine SimP.done ?_;dsimp only
 refine Sim.exec hmix hΓ (n:=0) (by simp +decide;exact⟨rfl,rfl,rfl⟩) (by simp) ?_
 dsimp only
 refine Sim.exec hmix hΓ (n:=0) (by simp +decide;exact⟨rfl,rfl,rfl⟩) (by simp) ?_
 exact⟨.inr rfl,_,by simp <;> rfl,Weak.mk' [0,1] (by decide) (by decide) (by simp[AWs,AW,hL]) (by simp[AWg,AWb,hA1,hA2])⟩
end
end Go.Proofs.YthafeihjlamhhaaGreatDoor
