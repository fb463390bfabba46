/- Parts of the proof of WalTells: lemmas, each with its own conditions. -/
import Derived.Test.YtfhidaoiofeooaaGreatDoorY23
import Derived.Test.YtfhidaoiofeooaaGreatDoorY24
import Derived.Test.YtfhidaoiofeooaaGreatDoorY20
import Derived.Test.YtfhidaoiofeooaaGreatDoorY22
set_option maxHeartbeats 64000000
open List renaming getElem?_eq_some_iff → q1Z, getD_eq_getElem?_getD → q2Z, length_cons → q7Z, length_nil → q8Z, cons_append → q9Z, nil_append → qaZ, replicate → qbZ, getElem?_set_ne → qfZ, getElem?_set_self → qgZ, mem_cons → qwZ, not_mem_nil → rtZ
open Nat renaming le_refl → qnZ
open Int renaming toNat_of_nonneg → rqZ
namespace Go.Proofs.YtfhidaoiofeooaaGreatDoor
open _root_.Go.Proofs.Tryz renaming prog → Pz
set_option maxRecDepth 100000
section
open Go
theorem zIX{H:zA}{b b2:Nat}{B X:ABlk}(h:H[b2]? = some X)(hne:b≠b2):(H.set b B).set b2 X=H.set b B:=by
 have hbl2:b2<H.length:=(q1Z.1 h).1;refine List.ext_getElem? fun i=>?_;by_cases hi:i=b2
 · subst hi
   rw[qgZ (by simpa using hbl2),qfZ hne,h]
 · rw[qfZ (Ne.symm hi)]
mutual
theorem zSz(k:Nat):∀x:AV,free x=true->shA k x=x
 | .top,_ | .bool _,_ | .int _ _,_ | .str _,_ | .nilp,_ | .nils,_ | .nilm,_ | .nilf,_=>rfl
 | .ptr ..,h | .slice ..,h | .sl ..,h | .map _,h | .yld _,h=>by simp[free]at h
 | .func f xs ys,h=>by simp at h;simp[zAe k xs h.1,zAe k ys h.2]
 | .agg l,h=>by simp at h;simp[zAe k l h]
 | .tuple l,h=>by simp at h;simp[zAe k l h]
theorem zAe(k:Nat):∀xs:List AV,zV xs=true->zA9 k xs=xs
 | [],_=>rfl
 | x::xs,h=>by simp at h;simp[zSz k x h.1,zAe k xs h.2]
end
end
section
open Go Go.Lib
attribute [-simp] zH zc zq zK zy
def wlC(q:Nat)(m:Int)(f n:Nat)(dn:Int)(bd:Bool):List AV:=[.ptr q 0,.int .i64 m,.int .i64 f,.int .i64 n,.int .i64 dn,.bool bd]
abbrev wlB(q:Nat)(w:WL):ABlk:=.cells true (wlC q w.most w.file w.next w.done w.bad)
def zIh:List AV->Option (Nat×Int×Nat×Nat×Int×Bool)
 | [.ptr q 0,.int .i64 m,.int .i64 f,.int .i64 n,.int .i64 dn,.bool bd]=>if 0<=f/\0<=n then some (q,m,f.toNat,n.toNat,dn,bd) else none
 | _=>none
@[simp] theorem zUu(q:Nat)(m:Int)(f n:Nat)(dn:Int)(bd:Bool):zIh (wlC q m f n dn bd)=some (q,m,f,n,dn,bd):=by
 simp[wlC,zIh]
@[simp] theorem zZ3(q:Nat)(m f n dn:Int)(bd:Bool):zIh [AV.ptr q 0,.int .i64 m,.int .i64 f,.int .i64 n,.int .i64 dn,.bool bd]=if 0<=f/\0<=n then some (q,m,f.toNat,n.toNat,dn,bd) else none:=rfl
theorem zEm{l:List AV}{q:Nat}{m:Int}{f n:Nat}{dn:Int}{bd:Bool}(h:zIh l=some (q,m,f,n,dn,bd)):l=wlC q m f n dn bd:=by
 unfold zIh at h;split at h <;> try cases h
 split at h <;> cases h
 rename_i hc;unfold wlC;rw[rqZ hc.1,rqZ hc.2]
noncomputable def wlS(g:WL->List AV->Option (WL×AV)):zJ:=fun args H=>match args with
 | .ptr b 0::xs=>match H[b]? with
   | some (.cells true l)=>match zIh l with
     | some (q,m,f,n,dn,bd)=>match H[q]? with
       | some (.obj true sub)=>match dsD sub with
         | some d=>match g ⟨d,m,f,n,dn,bd⟩ xs with
           | some (w',v)=>some (v,(H.set b (wlB q w')).set q (.obj true w'.d.blks),[b,q])
           | none=>none
         | none=>none
       | _=>none
     | none=>none
   | _=>none
 | _=>none
theorem zCt{f:FuncId}{g:WL->List AV->Option (WL×AV)}(he:∀cargs w,(callFunc f cargs).run Pz w=.ok (.enter f cargs) w)
   (h:∀w xs w' v,g w xs=some (w',v)->zV xs=true/\(∀k,reA k v=v)/\Ct Pz f (.ptr 0 0::xs) [wlB 1 w,.obj true w.d.blks] v [wlB 1 w',.obj true w'.d.blks]):Sound Pz f (wlS g):=by
 have key:∀args H v H' W,wlS g args H=some (v,H',W)->∃b q B C,W=[b,q]/\H'=(H.set b B).set q C/\Ct Pz f args H v H':=by
   intro args H v H' W hs;unfold wlS at hs;split at hs <;> try cases hs
   rename_i b xs;split at hs <;> try cases hs
   rename_i l hb;split at hs <;> try cases hs
   rename_i q m fl n dn bd hw;split at hs <;> try cases hs
   rename_i sub hq;split at hs <;> try cases hs
   rename_i d hd;split at hs <;> cases hs
   rename_i w' hg;have e:=Z7 hd;have e2:=zEm hw;subst e;subst e2
   refine ⟨b,q,_,_,rfl,rfl,?_⟩;obtain⟨h1,h2,h3⟩:=h _ _ _ _ hg;have hbl:b<H.length:=(q1Z.1 hb).1;have hql:q<H.length:=(q1Z.1 hq).1;have hne:b≠q:=by rintro rfl;rw[hb]at hq;cases hq
   have hx:AWs [b,q] xs xs:=AWs.refl _ _ h1;have:=zP (H:=H) (args:=.ptr b 0::xs) h3 [b,q] (by simp[hne]) (by simp[AWs,AW,hx]) ⟨by rw[q2Z,hb];simp[AWb,wlB,wlC,AW],hbl,by rw[q2Z,hq];exact⟨rfl,rfl⟩,hql,trivial⟩ rfl;simpa[zN,ABlk.own,reB,reA,zj,wlB,wlC,zn,h2] using this
 refine ⟨he,fun args H v H' W hs=>?_,fun args H v H' W hs=>?_⟩
 · obtain⟨b,q,B,C,_,_,h⟩:=key args H v H' W hs
   exact h
 · obtain⟨b,q,B,C,rfl,rfl,_⟩:=key args H v H' W hs
   refine ⟨by simp,fun c hc hn=>?_⟩;simp only[qwZ,rtZ,or_false,not_or]at hn;rw[qfZ (Ne.symm hn.2),qfZ (Ne.symm hn.1)]
def zCa:zJ:=fun args H=>match args with
 | [.ptr _ _,.int .i64 n]=>some (.str (mk 3 n),H,[])
 | _=>none
theorem zHj:Sound Pz 84 zCa:=by
 have hΓ:GOk Pz (zZ [(127,mkS)]):=zB zRV zC;refine ⟨zD Tryz.func84 rfl (by decide),fun args H v H' W hs=>?_,fun args H v H' W hs=>?_⟩ <;> (unfold zCa at hs;split at hs <;> cases hs)
 · refine zL Tryz.func84 rfl ?_
   simp only[Tryz.ntmps84,q7Z,q8Z,Nat.reduceAdd,Nat.reduceSub,qbZ,q9Z,qaZ];refine wE hΓ (by simp[mkS];exact wT) ?_;exact⟨.inr rfl,by simp[Tryz.f84],rfl⟩
 · exact⟨qnZ _,fun _ _ _=>rfl⟩
theorem zGp{Γ0:Gam}(hΓ0:GOk Pz Γ0)(N a b:Nat)(cl:Bool)(ha:a<N)(H0 H1 H2:zA)(f0 f1:FuncId)(x0 x1 c0 c1:List AV)(E0 E1:Int)(n0:H0.length=N)(n1:H1.length=N)(n2:H2.length=N)
   (b0:H0[b]? = some (.cells true [.func f0 x0 c0,.func f1 x1 c1])) (b1:H1[b]? = some (.cells true [.func f0 x0 c0,.func f1 x1 c1])) (b2:H2[b]? = some (.cells true [.func f0 x0 c0,.func f1 x1 c1])) (y0:f0≠yl) (y1:f1≠yl)
   (hid:∀H,H=H0\/H=H1\/H=H2->∀rn:List Nat,(∀j,j<N->rn[j]? = some j)->∀B∈H,AWb rn B B)
   (h0:∀X,∃W,Γ0 f0 (x0++c0) (H0++X)=some (.int .i64 E0,H1++X,W)) (h1:E0=0->∀X,∃W,Γ0 f1 (x1++c1) (H1++X)=some (.int .i64 E1,H2++X,W)) :
   Ct Pz 104 [.ptr a 0,.slice b 0 2 1 cl] H0 (.int .i64 (if E0=0 then E1 else E0)) (if E0=0 then H2 else H1):=by
 have hc:∃S,S<=2/\(∀i,i<S->(fun i=>if i=0 then E0 else E1) i=0)/\(S<2->(fun i=>if i=0 then E0 else E1) S≠0)/\(S=0->E0≠0)/\(0<S->E0=0)/\(S=2->E1=0):=by
   by_cases e0:E0=0
   · by_cases e1:E1=0
     · exact⟨2,by omega,fun i hi=>by match i,hi with | 0,_=>exact e0 | 1,_=>exact e1,fun h=>by omega,fun h=>by omega,fun _=>e0,fun _=>e1⟩
     · exact⟨1,by omega,fun i hi=>by match i,hi with | 0,_=>exact e0,fun _=>e1,fun h=>by omega,fun _=>e0,fun h=>by omega⟩
   · exact⟨0,by omega,fun i hi=>by omega,fun _=>e0,fun _=>e0,fun h=>by omega,fun h=>by omega⟩
 obtain⟨S,s1,s2,s3,s4,s5,s6⟩:=hc;have:=zWN hΓ0 N a b 2 cl ha (by decide) (fun i=>if i=0 then H0 else if i=1 then H1 else H2) [.func f0 x0 c0,.func f1 x1 c1] (fun i=>if i=0 then f0 else f1) (fun i=>if i=0 then x0 else x1) (fun i=>if i=0 then c0 else c1) (fun i=>if i=0 then E0 else E1) S s1
   (fun i hi=>by match i,hi with | 0,_=>exact n0 | 1,_=>exact n1 | 2,_=>exact n2) (fun i hi=>by match i,hi with | 0,_=>exact b0 | 1,_=>exact b1 | 2,_=>exact b2) rfl
   (fun i hi=>by match i,hi with | 0,_=>rfl | 1,_=>rfl) (fun i hi=>by match i,hi with | 0,_=>exact y0 | 1,_=>exact y1)
   (fun i hi rn hr B hB=>by match i,hi,hB with | 0,_,hB=>exact hid H0 (.inl rfl) rn hr B hB | 1,_,hB=>exact hid H1 (.inr (.inl rfl)) rn hr B hB | 2,_,hB=>exact hid H2 (.inr (.inr rfl)) rn hr B hB) s2 s3
   (fun i hi hi2 X=>by
     match i,hi2 with
     | 0,_=>exact h0 X
     | 1,_=>exact h1 (s5 (by omega)) X)
 by_cases e0:E0=0
 · rw[if_pos e0,if_pos e0]
   have hS:S=1\/S=2:=by
     by_cases h:S=0
     · exact absurd e0 (s4 h)
     · omega
   rcases hS with rfl | rfl
   · simpa using this
   · rw[s6 rfl]
     simpa using this
 · rw[if_neg e0,if_neg e0]
   have hS:S=0:=by
     by_cases h:S=0
     · exact h
     · exact absurd (s5 (by omega)) e0
   subst hS;simpa using this
def rlC(q:Nat)(m:Int)(f n:Nat)(bd:Bool)(dn:Int):List AV:=[.ptr q 0,.int .i64 m,.int .i64 f,.int .i64 n,.bool bd,.int .i64 dn]
abbrev rlB(q:Nat)(w:RL):ABlk:=.cells true (rlC q w.most w.file w.next w.bad w.done)
def zMT:List AV->Option (Nat×Int×Nat×Nat×Bool×Int)
 | [.ptr q 0,.int .i64 m,.int .i64 f,.int .i64 n,.bool bd,.int .i64 dn]=>if 0<=f/\0<=n then some (q,m,f.toNat,n.toNat,bd,dn) else none
 | _=>none
@[simp] theorem zZ9(q:Nat)(m:Int)(f n:Nat)(bd:Bool)(dn:Int):zMT (rlC q m f n bd dn)=some (q,m,f,n,bd,dn):=by
 simp[rlC,zMT]
@[simp] theorem zZ6(q:Nat)(m f n dn:Int)(bd:Bool):zMT [AV.ptr q 0,.int .i64 m,.int .i64 f,.int .i64 n,.bool bd,.int .i64 dn]=if 0<=f/\0<=n then some (q,m,f.toNat,n.toNat,bd,dn) else none:=rfl
theorem zIA{l:List AV}{q:Nat}{m:Int}{f n:Nat}{dn:Int}{bd:Bool}(h:zMT l=some (q,m,f,n,bd,dn)):l=rlC q m f n bd dn:=by
 unfold zMT at h;split at h <;> try cases h
 split at h <;> cases h
 rename_i hc;unfold rlC;rw[rqZ hc.1,rqZ hc.2]
noncomputable def rlS(g:RL->List AV->Option (RL×AV)):zJ:=fun args H=>match args with
 | .ptr b 0::xs=>match H[b]? with
   | some (.cells true l)=>match zMT l with
     | some (q,m,f,n,bd,dn)=>match H[q]? with
       | some (.obj true sub)=>match zDQ sub with
         | some d=>match g ⟨d,m,f,n,dn,bd⟩ xs with
           | some (w',v)=>some (v,(H.set b (rlB q w')).set q (.obj true w'.d.blks),[b,q])
           | none=>none
         | none=>none
       | _=>none
     | none=>none
   | _=>none
 | _=>none
theorem zJG{f:FuncId}{g:RL->List AV->Option (RL×AV)}(he:∀cargs w,(callFunc f cargs).run Pz w=.ok (.enter f cargs) w)
   (h:∀w xs w' v,g w xs=some (w',v)->zV xs=true/\(∀k,reA k v=v)/\Ct Pz f (.ptr 0 0::xs) [rlB 1 w,.obj true w.d.blks] v [rlB 1 w',.obj true w'.d.blks]):Sound Pz f (rlS g):=by
 have key:∀args H v H' W,rlS g args H=some (v,H',W)->∃b q B C,W=[b,q]/\H'=(H.set b B).set q C/\Ct Pz f args H v H':=by
   intro args H v H' W hs;unfold rlS at hs;split at hs <;> try cases hs
   rename_i b xs;split at hs <;> try cases hs
   rename_i l hb;split at hs <;> try cases hs
   rename_i q m fl n bd dn hw;split at hs <;> try cases hs
   rename_i sub hq;split at hs <;> try cases hs
   rename_i d hd;split at hs <;> cases hs
   rename_i w' hg;have e:=zAE hd;have e2:=zIA hw;subst e;subst e2
   refine ⟨b,q,_,_,rfl,rfl,?_⟩;obtain⟨h1,h2,h3⟩:=h _ _ _ _ hg;have hbl:b<H.length:=(q1Z.1 hb).1;have hql:q<H.length:=(q1Z.1 hq).1;have hne:b≠q:=by rintro rfl;rw[hb]at hq;cases hq
   have hx:AWs [b,q] xs xs:=AWs.refl _ _ h1;have:=zP (H:=H) (args:=.ptr b 0::xs) h3 [b,q] (by simp[hne]) (by simp[AWs,AW,hx]) ⟨by rw[q2Z,hb];simp[AWb,rlB,rlC,AW],hbl,by rw[q2Z,hq];exact⟨rfl,rfl⟩,hql,trivial⟩ rfl;simpa[zN,ABlk.own,reB,reA,zj,rlB,rlC,zn,h2] using this
 refine ⟨he,fun args H v H' W hs=>?_,fun args H v H' W hs=>?_⟩
 · obtain⟨b,q,B,C,_,_,h⟩:=key args H v H' W hs
   exact h
 · obtain⟨b,q,B,C,rfl,rfl,_⟩:=key args H v H' W hs
   refine ⟨by simp,fun c hc hn=>?_⟩;simp only[qwZ,rtZ,or_false,not_or]at hn;rw[qfZ (Ne.symm hn.2),qfZ (Ne.symm hn.1)]
def zCb:zJ:=Zt fun
 | [.int .i64 n]=>some (.str (mk 3 n))
 | _=>none
theorem zD1:Sound Pz 72 zCb:=by
 have hΓ:GOk Pz (zZ [(129,mkS)]):=zB zOZ zC;refine zU (zD Tryz.func72 rfl (by decide)) fun args v h=>?_;split at h <;> cases h
 refine ⟨?_,rfl,rfl⟩;refine zE Tryz.func72 rfl ?_;simp only[Tryz.ntmps72,q7Z,q8Z,Nat.reduceAdd,Nat.reduceSub,qbZ,q9Z,qaZ];refine wE hΓ (by simp[mkS];exact wT) ?_;exact⟨.inr rfl,_,by simp[Tryz.f72] <;> rfl,Weak.mk' [] (by decide) rfl (by simp) (by simp)⟩
noncomputable def zNH:Gam:=zZ [(72,zCb),(85,zKS),(22,zJt),(133,zPi),(71,zJq)]
theorem zMe:GOk Pz zNH:=zB zD1 (zB zHV (zB zHI (zB zPI (zB zHG zC))))
theorem zTs(w:RL)(hd:w.d.small):Ct Pz 110 [.ptr 0 0] [rlB 1 w,.obj true w.d.blks] (.int .i64 w.size) [rlB 1 w,.obj true w.d.blks]:=by
 have hΓ:=zMe;obtain⟨d,m,f,n,dn,bd⟩:=w;dsimp only at hd;refine zE Tryz.func110 rfl ?_;simp only[rlB,rlC,Tryz.ntmps110,q7Z,q8Z,Nat.reduceAdd,Nat.reduceSub,qbZ,q9Z,qaZ];unfold RL.size;dsimp only;refine wS hΓ (by simp;exact wR) ?_;by_cases h0:f=0
 · subst h0
   rw[if_pos rfl];refine wE hΓ (by simp +decide;exact wT) ?_;exact⟨.inr rfl,_,by simp[Tryz.f110] <;> rfl,wW [0,1] (by simp[AWb,AW])⟩
 · rw[if_neg h0]
   have hI:((f:Int)==0)=false:=by simp;omega
   have hwn:mk 3 (f:Int)=wn f:=rfl;obtain⟨k,hk⟩:∃k,wn f=k:=⟨_,rfl⟩
   rw[hk]at hwn ⊢;refine wS hΓ (by simp +decide [h0,hI];exact wR) ?_;refine Sim.seq (Sim.draw hmix (by simp) ?_);refine SimR.many hΓ 9 (by simp[zF];rfl) (by omega) (by kernel_rfl) (by simp +decide [zNH,zCb,hwn];first | exact wR | exact⟨by kernel_rfl,wR⟩) ?_;refine SimR.one hΓ _ rfl (by kernel_rfl) (by simp +decide [zNH,zKS,hd];exact wR) ?_;refine SimR.many hΓ 15 (by simp[zF,zW];rfl) (by omega) (by kernel_rfl) (by simp +decide;first | exact wR | exact⟨by kernel_rfl,wR⟩) ?_;refine SimR.done rfl ?_;dsimp only;refine wE hΓ (by simp;exact wT) ?_;exact⟨.inr rfl,_,by simp[Tryz.f110] <;> rfl,wW [0,1] (by simp[AWb,AW])⟩
open Classical in
noncomputable def zBv:zJ:=fun args H=>match args with
 | [.ptr b 0]=>match H[b]? with
   | some (.cells true l)=>match zMT l with
     | some (q,m,f,n,bd,dn)=>match H[q]? with
       | some (.obj true sub)=>match zDQ sub with
         | some d=>if d.small then some (.int .i64 (RL.size ⟨d,m,f,n,dn,bd⟩),H,[]) else none
         | none=>none
       | _=>none
     | none=>none
   | _=>none
 | _=>none
theorem zGJ:Sound Pz 110 zBv:=by
 refine ⟨zD Tryz.func110 rfl (by decide),fun args H v H' W hs=>?_,fun args H v H' W hs=>?_⟩ <;> (unfold zBv at hs;split at hs <;> try cases hs) <;> (rename_i b;split at hs <;> try cases hs) <;> (rename_i l hb;split at hs <;> try cases hs) <;> (rename_i q m fl n bd dn hw;split at hs <;> try cases hs) <;> (rename_i sub hq;split at hs <;> try cases hs) <;> (rename_i d hd;split at hs <;> cases hs;rename_i hk)
 · have e:=zAE hd
   have e2:=zIA hw;subst e;subst e2
   have hbl:b<H.length:=(q1Z.1 hb).1;have hql:q<H.length:=(q1Z.1 hq).1;have hne:b≠q:=by rintro rfl;rw[hb]at hq;cases hq
   have:=zP (H:=H) (args:=[.ptr b 0]) (zTs ⟨d,m,fl,n,dn,bd⟩ hk) [b,q] (by simp[hne]) (by simp[AWs,AW]) ⟨by rw[q2Z,hb];simp[AWb,rlB,rlC,AW],hbl,by rw[q2Z,hq];exact⟨rfl,rfl⟩,hql,trivial⟩ rfl;have s1:H.set b (.cells true [.ptr q 0,.int .i64 m,.int .i64 fl,.int .i64 n,.bool bd,.int .i64 dn])=H:=by
     obtain⟨h1,h2⟩:=q1Z.1 hb;rw[<-show rlC q m fl n bd dn=[.ptr q 0,.int .i64 m,.int .i64 fl,.int .i64 n,.bool bd,.int .i64 dn] from rfl,<-h2,List.set_getElem_self]
   have s2:H.set q (.obj true d.blks)=H:=by
     obtain⟨h1,h2⟩:=q1Z.1 hq;rw[<-h2,List.set_getElem_self]
   simpa[zN,ABlk.own,reB,reA,zj,rlB,rlC,zn,s1,s2] using this
 · exact⟨qnZ _,fun _ _ _=>rfl⟩
theorem zPb(w:RL)(hd:w.d.small)(hd1:(w.d.create (wn w.next)).1.small)(hn:w.next<=1000000001):Ct Pz 201 [.ptr 0 0] [rlB 1 w,.obj true w.d.blks] (.int .i64 w.fresh.2) [rlB 1 w.fresh.1,.obj true w.fresh.1.d.blks]:=by
 have hΓ:=zMe;obtain⟨d,m,f,n,dn,bd⟩:=w;dsimp only at hd hd1 hn;refine zE Tryz.func201 rfl ?_;simp only[rlB,rlC,Tryz.ntmps201,q7Z,q8Z,Nat.reduceAdd,Nat.reduceSub,qbZ,q9Z,qaZ];unfold RL.fresh;dsimp only;refine wS hΓ (by simp;exact wR) ?_;by_cases h0:1000000000<n
 · rw[if_pos h0]
   have hI:(1000000000:Int)<n:=by omega
   refine wE hΓ (by simp +decide [hI];exact wT) ?_;exact⟨.inr rfl,_,by simp[Tryz.f201] <;> rfl,wW [0,1] (by simp[AWb,AW])⟩
 rw[if_neg h0];have hI:¬(1000000000:Int)<n:=by omega
 have hwn:mk 3 (n:Int)=wn n:=rfl;obtain⟨k,hk⟩:∃k,wn n=k:=⟨_,rfl⟩
 rw[hk]at hwn hd1 ⊢;have hkl:k.length<=9223372036854775807:=by rw[<-hk];have:=zJJ 3 n;show (mk 3 n).length<=_;omega
 obtain⟨⟨d1,e1⟩,hc⟩:∃z,d.create k=z:=⟨_,rfl⟩
 rw[hc]at hd1 ⊢;dsimp only at hd1 ⊢;obtain⟨⟨d2,e2⟩,hs⟩:∃z,d1.syncDir=z:=⟨_,rfl⟩
 rw[hs];dsimp only;have w1:IntKind.i64.wrap ((n:Int)+1)=(n:Int)+1:=zI (by omega) (by omega);refine wS hΓ (by simp +decide [hI];exact wR) ?_;refine Sim.seq (Sim.draw hmix (by simp) ?_);refine SimR.many hΓ 9 (by simp[zF];rfl) (by omega) (by kernel_rfl) (by simp +decide [zNH,zCb,hwn];first | exact wR | exact⟨by kernel_rfl,wR⟩) ?_;refine SimR.one hΓ _ rfl (by kernel_rfl) (by simp +decide [zNH,zJt,hd,hkl,hc];exact wR) ?_;refine SimR.many hΓ 11 (by simp[zF,zW];rfl) (by omega) (by kernel_rfl) (by simp +decide;first | exact wR | exact⟨by kernel_rfl,wR⟩) ?_;refine SimR.done rfl ?_;dsimp only;by_cases he:e1=0;rotate_left
 · rw[if_neg he]
   have he2:(e1 != 0)=true:=by simpa using he
   refine wE hΓ (by simp +decide [he,he2];exact wT) ?_;exact⟨.inr rfl,_,by simp[Tryz.f201] <;> rfl,wW [0,1] (by simp[AWb,AW])⟩
 subst he;rw[if_pos rfl];refine wS hΓ (by simp +decide;exact wR) ?_;refine wS hΓ (by simp +decide [zNH,zPi,hd1,hs];exact wR) ?_;by_cases he:e2=0;rotate_left
 · rw[if_neg he]
   have he2:(e2 != 0)=true:=by simpa using he
   refine wE hΓ (by simp +decide [he,he2];exact wT) ?_;exact⟨.inr rfl,_,by simp[Tryz.f201] <;> rfl,wW [0,1] (by simp[AWb,AW])⟩
 subst he;rw[if_pos rfl];refine wS hΓ (by simp +decide;exact wR) ?_;refine wE hΓ (by simp +decide [w1];exact wT) ?_;exact⟨.inr rfl,_,by simp[Tryz.f201] <;> rfl,wW [0,1] (by simp[AWb,AW])⟩
open Classical in
noncomputable def zGO:zJ:=rlS fun w xs=>match xs with
 | []=>if w.d.small/\(w.d.create (wn w.next)).1.small/\w.next<=1000000001 then some (w.fresh.1,.int .i64 w.fresh.2) else none
 | _=>none
theorem zKY:Sound Pz 201 zGO:=by
 refine zJG (zD Tryz.func201 rfl (by decide)) fun w xs w' v hg=>?_;split at hg;rotate_left
 · cases hg
 split at hg <;> cases hg
 rename_i hs;exact⟨rfl,fun _=>rfl,zPb w hs.1 hs.2.1 hs.2.2⟩
theorem zSc(w:RL)(hd:w.d.small):Ct Pz 13 [.ptr 0 0] [rlB 1 w,.obj true w.d.blks] (.int .i64 w.sync.2) [rlB 1 w.sync.1,.obj true w.sync.1.d.blks]:=by
 have hΓ:=zMe;obtain⟨d,m,f,n,dn,bd⟩:=w;dsimp only at hd;refine zE Tryz.func13 rfl ?_;simp only[rlB,rlC,Tryz.ntmps13,q7Z,q8Z,Nat.reduceAdd,Nat.reduceSub,qbZ,q9Z,qaZ];unfold RL.sync;dsimp only;refine wS hΓ (by simp;exact wR) ?_;cases bd with
 | true =>
   rw[if_pos rfl];refine wE hΓ (by simp +decide;exact wT) ?_;exact⟨.inr rfl,_,by simp[Tryz.f13] <;> rfl,wW [0,1] (by simp[AWb,AW])⟩
 | false =>
   rw[if_neg (by decide)];refine wS hΓ (by simp +decide;exact wR) ?_;by_cases h0:f=0
   · subst h0
     rw[if_pos rfl];refine wE hΓ (by simp +decide;exact wT) ?_;exact⟨.inr rfl,_,by simp[Tryz.f13] <;> rfl,wW [0,1] (by simp[AWb,AW])⟩
   rw[if_neg h0];have hI:((f:Int)==0)=false:=by simp;omega
   have hwn:mk 3 (f:Int)=wn f:=rfl;obtain⟨k,hk⟩:∃k,wn f=k:=⟨_,rfl⟩
   rw[hk]at hwn ⊢;obtain⟨⟨d1,e1⟩,hc⟩:∃z,d.sync k=z:=⟨_,rfl⟩
   rw[hc];dsimp only;have hb:(e1 != 0)=decide (e1≠0):=by by_cases h:e1=0 <;> simp[h]
   refine wS hΓ (by simp +decide [h0,hI];exact wR) ?_;refine Sim.seq (Sim.draw hmix (by simp) ?_);refine SimR.many hΓ 9 (by simp[zF];rfl) (by omega) (by kernel_rfl) (by simp +decide [zNH,zCb,hwn];first | exact wR | exact⟨by kernel_rfl,wR⟩) ?_;refine SimR.one hΓ _ rfl (by kernel_rfl) (by simp +decide [zNH,zJq,hd,hc];exact wR) ?_;refine SimR.many hΓ 11 (by simp[zF,zW];rfl) (by omega) (by kernel_rfl) (by simp +decide;first | exact wR | exact⟨by kernel_rfl,wR⟩) ?_;refine SimR.done rfl ?_;dsimp only;refine wE hΓ (by simp +decide [hb];exact wT) ?_;exact⟨.inr rfl,_,by simp[Tryz.f13] <;> rfl,wW [0,1] (by simp[AWb,AW])⟩
open Classical in
noncomputable def zIF:zJ:=rlS fun w xs=>match xs with
 | []=>if w.d.small then some (w.sync.1,.int .i64 w.sync.2) else none
 | _=>none
theorem zMt:Sound Pz 13 zIF:=by
 refine zJG (zD Tryz.func13 rfl (by decide)) fun w xs w' v hg=>?_;split at hg;rotate_left
 · cases hg
 split at hg <;> cases hg
 rename_i hs;exact⟨rfl,fun _=>rfl,zSc w hs⟩
end
end Go.Proofs.YtfhidaoiofeooaaGreatDoor
