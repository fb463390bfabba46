/- Parts of the proof of WalKeeps: lemmas, each with its own conditions. -/
import Derived.Test.YtpmfecnajoojeaaGreatDoorY23
import Derived.Test.YtpmfecnajoojeaaGreatDoorY24
import Derived.Test.YtpmfecnajoojeaaGreatDoorY22
set_option maxHeartbeats 64000000
open List renaming getElem?_eq_some_iff → q1Z, getD_eq_getElem?_getD → q2Z, length_cons → q7Z, length_nil → q8Z, cons_append → q9Z, nil_append → qaZ, replicate → qbZ, getElem?_set_ne → qfZ, getElem?_set_self → qgZ, mem_cons → qwZ, not_mem_nil → rtZ
open Option renaming map_eq_some_iff → qlZ, map_some → rhZ
open Nat renaming le_refl → qnZ
open Int renaming toNat_of_nonneg → rqZ
namespace Go.Proofs.YtpmfecnajoojeaaGreatDoor
open _root_.Go.Proofs.Tryz renaming prog → Pz
set_option maxRecDepth 100000
section
open Go
theorem set_same{H:AHeap}{b b2:Nat}{B X:ABlk}(h:H[b2]? = some X)(hne:b≠b2):(H.set b B).set b2 X=H.set b B:=by
 have hbl2:b2<H.length:=(q1Z.1 h).1
 refine List.ext_getElem? fun i=>?_
 by_cases hi:i=b2
 · subst hi
   rw[qgZ (by simpa using hbl2),qfZ hne,h]
 · rw[qfZ (Ne.symm hi)]
mutual
theorem shA_freeS(k:Nat):∀x:AV,free x=true→shA k x=x
 | .top,_ | .bool _,_ | .int _ _,_ | .str _,_ | .nilp,_ | .nils,_ | .nilm,_ | .nilf,_=>rfl
 | .ptr ..,h | .slice ..,h | .sl ..,h | .map _,h | .yld _,h=>by simp[free]at h
 | .func f xs ys,h=>by simp at h;simp[shAs_freeS k xs h.1,shAs_freeS k ys h.2]
 | .agg l,h=>by simp at h;simp[shAs_freeS k l h]
 | .tuple l,h=>by simp at h;simp[shAs_freeS k l h]
theorem shAs_freeS(k:Nat):∀xs:List AV,frees xs=true→shAs k xs=xs
 | [],_=>rfl
 | x::xs,h=>by simp at h;simp[shA_freeS k x h.1,shAs_freeS k xs h.2]
end
mutual
theorem reA_freeS(g:Nat→Nat):∀x:AV,free x=true→reA g x=x
 | .top,_ | .bool _,_ | .int _ _,_ | .str _,_ | .nilp,_ | .nils,_ | .nilm,_ | .nilf,_=>rfl
 | .ptr ..,h | .slice ..,h | .sl ..,h | .map _,h | .yld _,h=>by simp[free]at h
 | .func f xs ys,h=>by simp at h;simp[reAs_freeS g xs h.1,reAs_freeS g ys h.2]
 | .agg l,h=>by simp at h;simp[reAs_freeS g l h]
 | .tuple l,h=>by simp at h;simp[reAs_freeS g l h]
theorem reAs_freeS(g:Nat→Nat):∀xs:List AV,frees xs=true→reAs g xs=xs
 | [],_=>rfl
 | x::xs,h=>by simp at h;simp[reA_freeS g x h.1,reAs_freeS g xs h.2]
end
end
section
open Go Go.Lib
attribute [-simp] drawOk_eq adraw qrun acode aops
def wlC(q:Nat)(m:Int)(f n:Nat)(dn:Int)(bd:Bool):List AV:=[.ptr q 0,.int .i64 m,.int .i64 f,.int .i64 n,.int .i64 dn,.bool bd]
abbrev wlB(q:Nat)(w:WL):ABlk:=.cells true (wlC q w.most w.file w.next w.done w.bad)
def wlOf:List AV→Option (Nat×Int×Nat×Nat×Int×Bool)
 | [.ptr q 0,.int .i64 m,.int .i64 f,.int .i64 n,.int .i64 dn,.bool bd]=>if 0≤f∧0≤n then some (q,m,f.toNat,n.toNat,dn,bd) else none
 | _=>none
@[simp] theorem wlOf_wlC(q:Nat)(m:Int)(f n:Nat)(dn:Int)(bd:Bool):wlOf (wlC q m f n dn bd)=some (q,m,f,n,dn,bd):=by
 simp[wlC,wlOf]
@[simp] theorem wlOf_lit(q:Nat)(m f n dn:Int)(bd:Bool):wlOf [AV.ptr q 0,.int .i64 m,.int .i64 f,.int .i64 n,.int .i64 dn,.bool bd]=if 0≤f∧0≤n then some (q,m,f.toNat,n.toNat,dn,bd) else none:=rfl
theorem wlOf_eq{l:List AV}{q:Nat}{m:Int}{f n:Nat}{dn:Int}{bd:Bool}(h:wlOf l=some (q,m,f,n,dn,bd)):l=wlC q m f n dn bd:=by
 unfold wlOf at h
 split at h <;> try cases h
 split at h <;> cases h
 rename_i hc;unfold wlC;rw[rqZ hc.1,rqZ hc.2]
noncomputable def wlS(g:WL→List AV→Option (WL×AV)):Summ:=fun args H=>match args with
 | .ptr b 0::xs=>match H[b]? with
   | some (.cells true l)=>match wlOf l with
     | some (q,m,f,n,dn,bd)=>match H[q]? with
       | some (.obj true sub)=>match dsD sub with
         | some d=>match g ⟨d,m,f,n,dn,bd⟩ xs with
           | some (w',v)=>some (v,(H.set b (wlB q w')).set q (.obj true w'.d.blks),[b,q])
           | none=>none
         | none=>none
       | _=>none
     | none=>none
   | _=>none
 | _=>none
theorem sound_wl{f:FuncId}{g:WL→List AV→Option (WL×AV)}(he:∀cargs w,(callFunc f cargs).run Pz w=.ok (.enter f cargs) w)
   (h:∀w xs w' v,g w xs=some (w',v)→frees xs=true∧(∀k,reA k v=v)∧Ct Pz f (.ptr 0 0::xs) [wlB 1 w,.obj true w.d.blks] v [wlB 1 w',.obj true w'.d.blks]):Sound Pz f (wlS g):=by
 have key:∀args H v H' W,wlS g args H=some (v,H',W)→∃b q B C,W=[b,q]∧H'=(H.set b B).set q C∧Ct Pz f args H v H':=by
   intro args H v H' W hs;unfold wlS at hs
   split at hs <;> try cases hs
   rename_i b xs
   split at hs <;> try cases hs
   rename_i l hb
   split at hs <;> try cases hs
   rename_i q m fl n dn bd hw
   split at hs <;> try cases hs
   rename_i sub hq
   split at hs <;> try cases hs
   rename_i d hd
   split at hs <;> cases hs
   rename_i w' hg;have e:=dsD_eq hd;have e2:=wlOf_eq hw
   subst e;subst e2
   refine ⟨b,q,_,_,rfl,rfl,?_⟩;obtain⟨h1,h2,h3⟩:=h _ _ _ _ hg;have hbl:b<H.length:=(q1Z.1 hb).1;have hql:q<H.length:=(q1Z.1 hq).1
   have hne:b≠q:=by rintro rfl;rw[hb]at hq;cases hq
   have hx:AWs [b,q] xs xs:=AWs.refl _ _ h1
   have:=ct_frame (H:=H) (args:=.ptr b 0::xs) h3 [b,q] (by simp[hne]) (by simp[AWs,AW,hx]) ⟨by rw[q2Z,hb];simp[AWb,wlB,wlC,AW],hbl,by rw[q2Z,hq];exact⟨rfl,rfl⟩,hql,trivial⟩ rfl
   simpa[setOwn,ABlk.own,reB,reA,reAs,wlB,wlC,nameG,h2] using this
 refine ⟨he,fun args H v H' W hs=>?_,fun args H v H' W hs=>?_⟩
 · obtain⟨b,q,B,C,_,_,h⟩:=key args H v H' W hs
   exact h
 · obtain⟨b,q,B,C,rfl,rfl,_⟩:=key args H v H' W hs
   refine ⟨by simp,fun c hc hn=>?_⟩
   simp only[qwZ,rtZ,or_false,not_or]at hn;rw[qfZ (Ne.symm hn.2),qfZ (Ne.symm hn.1)]
def wnameS:Summ:=fun args H=>match args with
 | [.ptr _ _,.int .i64 n]=>some (.str (mk 3 n),H,[])
 | _=>none
theorem wname_sound:Sound Pz 67 wnameS:=by
 have hΓ:GOk Pz (gams [(76,mkS)]):=goks_cons make_sound goks_nil
 refine ⟨enter_of Tryz.func67 rfl (by decide),fun args H v H' W hs=>?_,fun args H v H' W hs=>?_⟩ <;> (unfold wnameS at hs;split at hs <;> cases hs)
 · refine ct_of_simE Tryz.func67 rfl ?_
   simp only[Tryz.ntmps67,q7Z,q8Z,Nat.reduceAdd,Nat.reduceSub,qbZ,q9Z,qaZ]
   refine Sim.exec hmix hΓ (n:=0) (by simp[mkS];exact⟨rfl,rfl,rfl⟩) (by simp) ?_
   exact⟨.inr rfl,by simp[Tryz.f67],rfl⟩
 · exact⟨qnZ _,fun _ _ _=>rfl⟩
theorem first2_ct{Γ0:Gam}(hΓ0:GOk Pz Γ0)(N a b:Nat)(cl:Bool)(ha:a<N)(H0 H1 H2:AHeap)(f0 f1:FuncId)(x0 x1 c0 c1:List AV)(E0 E1:Int)(n0:H0.length=N)(n1:H1.length=N)(n2:H2.length=N)
   (b0:H0[b]? = some (.cells true [.func f0 x0 c0,.func f1 x1 c1])) (b1:H1[b]? = some (.cells true [.func f0 x0 c0,.func f1 x1 c1])) (b2:H2[b]? = some (.cells true [.func f0 x0 c0,.func f1 x1 c1])) (y0:f0≠yl) (y1:f1≠yl)
   (hid:∀H,H=H0∨H=H1∨H=H2→∀rn:List Nat,(∀j,j<N→rn[j]? = some j)→∀B∈H,AWb rn B B)
   (h0:∀X,∃W,Γ0 f0 (x0++c0) (H0++X)=some (.int .i64 E0,H1++X,W)) (h1:E0=0→∀X,∃W,Γ0 f1 (x1++c1) (H1++X)=some (.int .i64 E1,H2++X,W)) :
   Ct Pz 68 [.ptr a 0,.slice b 0 2 1 cl] H0 (.int .i64 (if E0=0 then E1 else E0)) (if E0=0 then H2 else H1):=by
 have hc:∃S,S≤2∧(∀i,i<S→(fun i=>if i=0 then E0 else E1) i=0)∧(S<2→(fun i=>if i=0 then E0 else E1) S≠0)∧(S=0→E0≠0)∧(0<S→E0=0)∧(S=2→E1=0):=by
   by_cases e0:E0=0
   · by_cases e1:E1=0
     · exact⟨2,by omega,fun i hi=>by match i,hi with | 0,_=>exact e0 | 1,_=>exact e1,fun h=>by omega,fun h=>by omega,fun _=>e0,fun _=>e1⟩
     · exact⟨1,by omega,fun i hi=>by match i,hi with | 0,_=>exact e0,fun _=>e1,fun h=>by omega,fun _=>e0,fun h=>by omega⟩
   · exact⟨0,by omega,fun i hi=>by omega,fun _=>e0,fun _=>e0,fun h=>by omega,fun h=>by omega⟩
 obtain⟨S,s1,s2,s3,s4,s5,s6⟩:=hc
 have:=first_ct hΓ0 N a b 2 cl ha (by decide) (fun i=>if i=0 then H0 else if i=1 then H1 else H2) [.func f0 x0 c0,.func f1 x1 c1] (fun i=>if i=0 then f0 else f1) (fun i=>if i=0 then x0 else x1) (fun i=>if i=0 then c0 else c1) (fun i=>if i=0 then E0 else E1) S s1
   (fun i hi=>by match i,hi with | 0,_=>exact n0 | 1,_=>exact n1 | 2,_=>exact n2) (fun i hi=>by match i,hi with | 0,_=>exact b0 | 1,_=>exact b1 | 2,_=>exact b2) rfl
   (fun i hi=>by match i,hi with | 0,_=>rfl | 1,_=>rfl) (fun i hi=>by match i,hi with | 0,_=>exact y0 | 1,_=>exact y1)
   (fun i hi rn hr B hB=>by match i,hi,hB with | 0,_,hB=>exact hid H0 (.inl rfl) rn hr B hB | 1,_,hB=>exact hid H1 (.inr (.inl rfl)) rn hr B hB | 2,_,hB=>exact hid H2 (.inr (.inr rfl)) rn hr B hB) s2 s3
   (fun i hi hi2 X=>by
     match i,hi2 with
     | 0,_=>exact h0 X
     | 1,_=>exact h1 (s5 (by omega)) X)
 by_cases e0:E0=0
 · rw[if_pos e0,if_pos e0]
   have hS:S=1∨S=2:=by
     by_cases h:S=0
     · exact absurd e0 (s4 h)
     · omega
   rcases hS with rfl | rfl
   · simpa using this
   · rw[s6 rfl]
     simpa using this
 · rw[if_neg e0,if_neg e0]
   have hS:S=0:=by
     by_cases h:S=0
     · exact h
     · exact absurd (s5 (by omega)) e0
   subst hS;simpa using this
noncomputable def wsΓ:Gam:=gams [(67,wnameS),(81,dcreS),(66,dappS),(113,dsyncS),(79,dsizeS)]
theorem wsΓ_ok:GOk Pz wsΓ:=goks_cons wname_sound (goks_cons dcre_sound (goks_cons dapp_sound (goks_cons dsync_sound (goks_cons dsize_sound goks_nil))))
theorem fre1_ct(m:Int)(f n:Nat)(dn:Int)(bd:Bool)(d:DS)(hd:d.small) :
   Ct Pz 209 [.ptr 2 0] [.cells true (wlC 1 m f n dn bd),.obj true d.blks,.cells true [.ptr 0 0]] (.int .i64 (d.create (wn n)).2) [.cells true (wlC 1 m f n dn bd),.obj true (d.create (wn n)).1.blks,.cells true [.ptr 0 0]]:=by
 have hΓ:=wsΓ_ok
 have hk:(mk 3 (n:Int)).length≤9223372036854775807:=by have:=mkN_length 3 n;omega
 obtain⟨k,hk2⟩:∃k,mk 3 (n:Int)=k:=⟨_,rfl⟩;unfold wn;rw[hk2]at hk ⊢;refine ct_of_sim Tryz.func209 rfl ?_;simp only[wlC,Tryz.ntmps209,q7Z,q8Z,Nat.reduceAdd,Nat.reduceSub,qbZ,q9Z,qaZ]
 refine Sim.step hmix hΓ (n:=0) (by simp;exact⟨rfl,rfl⟩) (by simp) ?_
 refine Sim.seq (Sim.draw hmix (by simp) ?_)
 refine SimR.many hΓ 10 (by simp[stageOps];rfl) (by omega) (by kernel_rfl) (by simp +decide [wsΓ,wnameS,hk2];first | exact⟨rfl,rfl⟩ | exact⟨by kernel_rfl,rfl,rfl⟩) ?_
 refine SimR.one hΓ _ rfl (by kernel_rfl) (by simp +decide [wsΓ,dcreS,hd,hk];exact⟨rfl,rfl⟩) ?_
 refine SimR.many hΓ 12 (by simp[stageOps,blankOp];rfl) (by omega) (by kernel_rfl) (by simp +decide;first | exact⟨rfl,rfl⟩ | exact⟨by kernel_rfl,rfl,rfl⟩) ?_
 refine SimR.done rfl ?_;dsimp only
 refine Sim.exec hmix hΓ (n:=0) (by simp;exact⟨rfl,rfl,rfl⟩) (by simp) ?_
 exact⟨.inr rfl,_,by simp[Tryz.f209] <;> rfl,Weak.mk' [0,1,2] (by decide) (by decide) (by simp) (by simp[AWb,AW])⟩
open Classical in
noncomputable def fre1S:Summ:=fun args H=>match args with
 | [.ptr p 0]=>match H[p]? with
   | some (.cells true [.ptr b 0])=>match H[b]? with
     | some (.cells true l)=>match wlOf l with
       | some (q,_m,_f,n,_dn,_bd)=>match H[q]? with
         | some (.obj true sub)=>match dsD sub with
           | some d=>if d.small∧p≠b∧p≠q∧b≠q then some (.int .i64 (d.create (wn n)).2,H.set q (.obj true (d.create (wn n)).1.blks),[q]) else none
           | none=>none
         | _=>none
       | none=>none
     | _=>none
   | _=>none
 | _=>none
theorem fre1_sound:Sound Pz 209 fre1S:=by
 have key:∀args H v H' W,fre1S args H=some (v,H',W)→∃q C,W=[q]∧H'=H.set q C∧Ct Pz 209 args H v H':=by
   intro args H v H' W hs;unfold fre1S at hs
   split at hs <;> try cases hs
   rename_i p
   split at hs <;> try cases hs
   rename_i b hp
   split at hs <;> try cases hs
   rename_i l hb
   split at hs <;> try cases hs
   rename_i q m fl n dn bd hw
   split at hs <;> try cases hs
   rename_i sub hq
   split at hs <;> try cases hs
   rename_i d hd
   split at hs <;> cases hs
   rename_i hc;obtain⟨h1,n1,n2,n3⟩:=hc;have e:=dsD_eq hd;have e2:=wlOf_eq hw
   subst e;subst e2
   refine ⟨q,_,rfl,rfl,?_⟩;have hpl:p<H.length:=(q1Z.1 hp).1;have hbl:b<H.length:=(q1Z.1 hb).1;have hql:q<H.length:=(q1Z.1 hq).1
   have:=ct_frame (H:=H) (args:=[.ptr p 0]) (fre1_ct m fl n dn bd d h1) [b,q,p] (by simp[n3,Ne.symm n1,Ne.symm n2]) (by simp[AWs,AW]) ⟨by rw[q2Z,hb];simp[AWb,wlC,AW],hbl,by rw[q2Z,hq];exact⟨rfl,rfl⟩,hql,by rw[q2Z,hp];simp[AWb,AW],hpl,trivial⟩ rfl
   have s1:H.set b (.cells true (wlC q m fl n dn bd))=H:=by
     obtain⟨h1,h2⟩:=q1Z.1 hb;rw[←h2,List.set_getElem_self]
   have s2:∀C,(H.set q C).set p (.cells true [.ptr b 0])=H.set q C:=fun C=>set_same hp (Ne.symm n2)
   simpa[setOwn,ABlk.own,reB,reA,reAs,wlC,nameG,s2,(show H.set b (.cells true [.ptr q 0,.int .i64 m,.int .i64 fl,.int .i64 n,.int .i64 dn,.bool bd])=H from s1)] using this
 refine ⟨enter_of Tryz.func209 rfl (by decide),fun args H v H' W hs=>?_,fun args H v H' W hs=>?_⟩
 · obtain⟨q,C,_,_,h⟩:=key args H v H' W hs
   exact h
 · obtain⟨q,C,rfl,rfl,_⟩:=key args H v H' W hs
   refine ⟨by simp,fun c hc hn=>?_⟩
   simp only[qwZ,rtZ,or_false]at hn;rw[qfZ (Ne.symm hn)]
theorem app1_ct(m:Int)(f n:Nat)(dn:Int)(bd:Bool)(d:DS)(hd:d.small)(hq:d.quota≤1000000000000)(s:List UInt8)(hs:s.length≤140737488355328) :
   Ct Pz 65 [.ptr 2 0,.ptr 3 0] [.cells true (wlC 1 m f n dn bd),.obj true d.blks,.cells true [.ptr 0 0],.cells true [.str s]] (.int .i64 (d.append (wn f) s).2) [.cells true (wlC 1 m f n dn bd),.obj true (d.append (wn f) s).1.blks,.cells true [.ptr 0 0],.cells true [.str s]]:=by
 have hΓ:=wsΓ_ok;obtain⟨k,hk2⟩:∃k,mk 3 (f:Int)=k:=⟨_,rfl⟩;unfold wn;rw[hk2];refine ct_of_sim Tryz.func65 rfl ?_;simp only[wlC,Tryz.ntmps65,q7Z,q8Z,Nat.reduceAdd,Nat.reduceSub,qbZ,q9Z,qaZ]
 refine Sim.step hmix hΓ (n:=0) (by simp;exact⟨rfl,rfl⟩) (by simp) ?_
 refine Sim.seq (Sim.draw hmix (by simp) ?_)
 refine SimR.many hΓ 12 (by simp[stageOps];rfl) (by omega) (by kernel_rfl) (by simp +decide [wsΓ,wnameS,hk2];first | exact⟨rfl,rfl⟩ | exact⟨by kernel_rfl,rfl,rfl⟩) ?_
 refine SimR.one hΓ _ rfl (by kernel_rfl) (by simp +decide [wsΓ,dappS,strsOf,flatsA,flatA,hd,hq,hs];exact⟨rfl,rfl⟩) ?_
 refine SimR.many hΓ 14 (by simp[stageOps,blankOp];rfl) (by omega) (by kernel_rfl) (by simp +decide;first | exact⟨rfl,rfl⟩ | exact⟨by kernel_rfl,rfl,rfl⟩) ?_
 refine SimR.done rfl ?_;dsimp only
 refine Sim.exec hmix hΓ (n:=0) (by simp;exact⟨rfl,rfl,rfl⟩) (by simp) ?_
 exact⟨.inr rfl,_,by simp[Tryz.f65] <;> rfl,Weak.mk' [0,1,2,3] (by decide) (by decide) (by simp) (by simp[AWb,AW])⟩
open Classical in
noncomputable def app1S:Summ:=fun args H=>match args with
 | [.ptr p 0,.ptr x 0]=>match H[p]?,H[x]? with
   | some (.cells true [.ptr b 0]),some (.cells true [.str s])=>match H[b]? with
     | some (.cells true l)=>match wlOf l with
       | some (q,_m,f,_n,_dn,_bd)=>match H[q]? with
         | some (.obj true sub)=>match dsD sub with
           | some d=>if d.small∧d.quota≤1000000000000∧s.length≤140737488355328∧p≠b∧p≠q∧b≠q∧x≠b∧x≠q∧x≠p then some (.int .i64 (d.append (wn f) s).2,H.set q (.obj true (d.append (wn f) s).1.blks),[q]) else none
           | none=>none
         | _=>none
       | none=>none
     | _=>none
   | _,_=>none
 | _=>none
theorem app1_sound:Sound Pz 65 app1S:=by
 have key:∀args H v H' W,app1S args H=some (v,H',W)→∃q C,W=[q]∧H'=H.set q C∧Ct Pz 65 args H v H':=by
   intro args H v H' W hs;unfold app1S at hs
   split at hs <;> try cases hs
   rename_i p x
   split at hs <;> try cases hs
   rename_i b s hp hx
   split at hs <;> try cases hs
   rename_i l hb
   split at hs <;> try cases hs
   rename_i q m fl n dn bd hw
   split at hs <;> try cases hs
   rename_i sub hq
   split at hs <;> try cases hs
   rename_i d hd
   split at hs <;> cases hs
   rename_i hc;obtain⟨h1,h2,h3,n1,n2,n3,n4,n5,n6⟩:=hc;have e:=dsD_eq hd;have e2:=wlOf_eq hw
   subst e;subst e2
   refine ⟨q,_,rfl,rfl,?_⟩;have hpl:p<H.length:=(q1Z.1 hp).1;have hxl:x<H.length:=(q1Z.1 hx).1;have hbl:b<H.length:=(q1Z.1 hb).1;have hql:q<H.length:=(q1Z.1 hq).1
   have:=ct_frame (H:=H) (args:=[.ptr p 0,.ptr x 0]) (app1_ct m fl n dn bd d h1 h2 s h3) [b,q,p,x] (by simp[n3,Ne.symm n1,Ne.symm n2,Ne.symm n4,Ne.symm n5,Ne.symm n6]) (by simp[AWs,AW]) ⟨by rw[q2Z,hb];simp[AWb,wlC,AW],hbl,by rw[q2Z,hq];exact⟨rfl,rfl⟩,hql,by rw[q2Z,hp];simp[AWb,AW],hpl,by rw[q2Z,hx];simp[AWb,AW],hxl,trivial⟩ rfl
   have s1:H.set b (.cells true (wlC q m fl n dn bd))=H:=by
     obtain⟨h1,h2⟩:=q1Z.1 hb;rw[←h2,List.set_getElem_self]
   have s2:∀C,(H.set q C).set p (.cells true [.ptr b 0])=H.set q C:=fun C=>set_same hp (Ne.symm n2)
   have s3:∀C,(H.set q C).set x (.cells true [.str s])=H.set q C:=fun C=>set_same hx (Ne.symm n5)
   simpa[setOwn,ABlk.own,reB,reA,reAs,wlC,nameG,s2,s3,(show H.set b (.cells true [.ptr q 0,.int .i64 m,.int .i64 fl,.int .i64 n,.int .i64 dn,.bool bd])=H from s1)] using this
 refine ⟨enter_of Tryz.func65 rfl (by decide),fun args H v H' W hs=>?_,fun args H v H' W hs=>?_⟩
 · obtain⟨q,C,_,_,h⟩:=key args H v H' W hs
   exact h
 · obtain⟨q,C,rfl,rfl,_⟩:=key args H v H' W hs
   refine ⟨by simp,fun c hc hn=>?_⟩
   simp only[qwZ,rtZ,or_false]at hn;rw[qfZ (Ne.symm hn)]
theorem wsync_ct(w:WL)(hd:w.d.small):Ct Pz 62 [.ptr 0 0] [wlB 1 w,.obj true w.d.blks] (.int .i64 (w.d.sync (wn w.file)).2) [wlB 1 w,.obj true (w.d.sync (wn w.file)).1.blks]:=by
 have hΓ:=wsΓ_ok;obtain⟨d,m,f,n,dn,bd⟩:=w;dsimp only at hd ⊢;obtain⟨k,hk2⟩:∃k,mk 3 (f:Int)=k:=⟨_,rfl⟩;unfold wn;rw[hk2];refine ct_of_sim Tryz.func62 rfl ?_;simp only[wlB,wlC,Tryz.ntmps62,q7Z,q8Z,Nat.reduceAdd,Nat.reduceSub,qbZ,q9Z,qaZ]
 refine Sim.step hmix hΓ (n:=0) (by simp;exact⟨rfl,rfl⟩) (by simp) ?_
 refine Sim.seq (Sim.draw hmix (by simp) ?_)
 refine SimR.many hΓ 10 (by simp[stageOps];rfl) (by omega) (by kernel_rfl) (by simp +decide [wsΓ,wnameS,hk2];first | exact⟨rfl,rfl⟩ | exact⟨by kernel_rfl,rfl,rfl⟩) ?_
 refine SimR.one hΓ _ rfl (by kernel_rfl) (by simp +decide [wsΓ,dsyncS,hd];exact⟨rfl,rfl⟩) ?_
 refine SimR.many hΓ 12 (by simp[stageOps,blankOp];rfl) (by omega) (by kernel_rfl) (by simp +decide;first | exact⟨rfl,rfl⟩ | exact⟨by kernel_rfl,rfl,rfl⟩) ?_
 refine SimR.done rfl ?_;dsimp only
 refine Sim.exec hmix hΓ (n:=0) (by simp;exact⟨rfl,rfl,rfl⟩) (by simp) ?_
 exact⟨.inr rfl,_,by simp[Tryz.f62] <;> rfl,Weak.mk' [0,1] (by decide) (by decide) (by simp) (by simp[AWb,AW])⟩
theorem wsize_ct(w:WL)(hd:w.d.small):Ct Pz 59 [.ptr 0 0] [wlB 1 w,.obj true w.d.blks] (.int .i64 w.size) [wlB 1 w,.obj true w.d.blks]:=by
 have hΓ:=wsΓ_ok;obtain⟨d,m,f,n,dn,bd⟩:=w;dsimp only at hd ⊢;unfold WL.size;dsimp only;refine ct_of_sim Tryz.func59 rfl ?_;simp only[wlB,wlC,Tryz.ntmps59,q7Z,q8Z,Nat.reduceAdd,Nat.reduceSub,qbZ,q9Z,qaZ]
 refine Sim.step hmix hΓ (n:=0) (by simp;exact⟨rfl,rfl⟩) (by simp) ?_
 by_cases hf:f=0
 · subst hf
   rw[if_pos rfl]
   refine Sim.exec hmix hΓ (n:=0) (by simp +decide;exact⟨rfl,rfl,rfl⟩) (by simp) ?_
   exact⟨.inr rfl,_,by simp[Tryz.f59] <;> rfl,Weak.mk' [0,1] (by decide) (by decide) (by simp) (by simp[AWb,AW])⟩
 · rw[if_neg hf]
   obtain⟨k,hk2⟩:∃k,mk 3 (f:Int)=k:=⟨_,rfl⟩;obtain⟨z,e,hz⟩:∃z e,d.size k=(z,e):=⟨_,_,rfl⟩;unfold wn;rw[hk2,hz]
   have hfI:¬(f:Int)=0:=by omega
   have hfb:((f:Int)==0)=false:=by simpa using hf
   refine Sim.step hmix hΓ (n:=0) (by simp +decide [hfb];exact⟨rfl,rfl⟩) (by simp) ?_
   refine Sim.seq (Sim.draw hmix (by simp) ?_)
   refine SimR.many hΓ 10 (by simp[stageOps];rfl) (by omega) (by kernel_rfl) (by simp +decide [wsΓ,wnameS,hk2];first | exact⟨rfl,rfl⟩ | exact⟨by kernel_rfl,rfl,rfl⟩) ?_
   refine SimR.one hΓ _ rfl (by kernel_rfl) (by simp +decide [wsΓ,dsizeS,hd,hz];exact⟨rfl,rfl⟩) ?_
   refine SimR.many hΓ 16 (by simp[stageOps,blankOp];rfl) (by omega) (by kernel_rfl) (by simp +decide;first | exact⟨rfl,rfl⟩ | exact⟨by kernel_rfl,rfl,rfl⟩) ?_
   refine SimR.done rfl ?_;dsimp only
   refine Sim.exec hmix hΓ (n:=0) (by simp;exact⟨rfl,rfl,rfl⟩) (by simp) ?_
   exact⟨.inr rfl,_,by simp[Tryz.f59] <;> rfl,Weak.mk' [0,1] (by decide) (by decide) (by simp) (by simp[AWb,AW])⟩
abbrev wfrH(m:Int)(f n:Nat)(dn:Int)(bd:Bool)(d:DS):AHeap:=[.cells true (wlC 1 m f n dn bd),.obj true d.blks,.cells true [.ptr 0 0],.cells true [.func 209 [] [.ptr 2 0],.func 95 [.ptr 1 0] []]]
noncomputable def wfrΓ0:Gam:=gams [(209,fre1S),(95,dsyncDS)]
theorem wfrΓ_ok:GOk Pz wfrΓ0:=goks_cons fre1_sound (goks_cons dsyncD_sound goks_nil)
theorem wfrow_ct(m:Int)(f n:Nat)(dn:Int)(bd:Bool)(d:DS)(h0:d.small)(h1:(d.create (wn n)).1.small) :
   Ct Pz 68 [.ptr 0 0,.slice 3 0 2 1 true] (wfrH m f n dn bd d) (.int .i64 (if (d.create (wn n)).2=0 then (d.create (wn n)).1.syncDir.2 else (d.create (wn n)).2)) (if (d.create (wn n)).2=0 then wfrH m f n dn bd (d.create (wn n)).1.syncDir.1 else wfrH m f n dn bd (d.create (wn n)).1):=by
 refine first2_ct wfrΓ_ok 4 0 3 true (by decide) (wfrH m f n dn bd d) (wfrH m f n dn bd (d.create (wn n)).1) (wfrH m f n dn bd (d.create (wn n)).1.syncDir.1) _ _ [] [.ptr 1 0] [.ptr 2 0] [] _ _ rfl rfl rfl rfl rfl rfl (by decide) (by decide) (fun H hH rn hr B hB=>?_) (fun X=>?_) (fun _ X=>?_)
 · have q:∀j,j<4→rn[j]? = some j:=hr
   rcases hH with rfl | rfl | rfl <;> (simp only[wfrH,qwZ,rtZ,or_false]at hB;rcases hB with rfl | rfl | rfl | rfl <;> simp[wlC,AWb,AW,q])
 · simp +decide [wfrΓ0,fre1S,h0]
 · simp +decide [wfrΓ0,dsyncDS,h1]
theorem fresh_ct(w:WL)(h0:w.d.small)(h1:(w.d.create (wn w.next)).1.small)(hn:w.next≤1000000001) :
   Ct Pz 135 [.ptr 0 0] [wlB 1 w,.obj true w.d.blks] (.int .i64 w.fresh.2) [wlB 1 w.fresh.1,.obj true w.fresh.1.d.blks]:=by
 obtain⟨d,m,f,n,dn,bd⟩:=w;dsimp only at h0 h1 hn;have hrow:=wfrow_ct m f n dn bd d h0 h1;unfold WL.fresh;dsimp only;by_cases hb:1000000000<n
 · rw[if_pos hb]
   have hbI:(1000000000:Int)<n:=by omega
   refine ct_of_sim Tryz.func135 rfl ?_;simp only[wlB,wlC,Tryz.ntmps135,q7Z,q8Z,Nat.reduceAdd,Nat.reduceSub,qbZ,q9Z,qaZ]
   refine Sim.step hmix goks_nil (n:=0) (by simp;exact⟨rfl,rfl⟩) (by simp) ?_
   refine Sim.exec hmix goks_nil (n:=0) (by simp +decide [hbI];exact⟨rfl,rfl,rfl⟩) (by simp) ?_
   exact⟨.inr rfl,_,by simp[Tryz.f135] <;> rfl,Weak.mk' [0,1] (by decide) (by decide) (by simp) (by simp[AWb,AW])⟩
 rw[if_neg hb]
 have hbI:¬(1000000000:Int)<n:=by omega
 obtain⟨d1,e1,hc⟩:∃d1 e1,d.create (wn n)=(d1,e1):=⟨_,_,rfl⟩;rw[hc]at hrow ⊢;dsimp only at hrow ⊢;obtain⟨d2,e2,hs⟩:∃d2 e2,d1.syncDir=(d2,e2):=⟨_,_,rfl⟩;rw[hs]at hrow ⊢;dsimp only at hrow ⊢
 obtain⟨E,hE⟩:∃E,(if e1=0 then e2 else e1)=E:=⟨_,rfl⟩
 obtain⟨D,hD⟩:∃D,(if e1=0 then d2 else d1)=D:=⟨_,rfl⟩
 have hH:(if e1=0 then wfrH m f n dn bd d2 else wfrH m f n dn bd d1)=wfrH m f n dn bd D:=by
   rw[←hD];split <;> rfl
 rw[hE,hH]at hrow
 have hend:(if e1=0 then (if e2=0 then ((⟨d2,m,n,n+1,dn,bd⟩:WL),(0:Int)) else (⟨d2,m,f,n,dn,bd⟩,e2)) else (⟨d1,m,f,n,dn,bd⟩,e1))=(if E=0 then ((⟨D,m,n,n+1,dn,bd⟩:WL),E) else (⟨D,m,f,n,dn,bd⟩,E)):=by
   rw[←hE,←hD];split
   · split
     · rename_i h;rw[h]
     · rfl
   · first | rfl | (rename_i h;rw[if_neg h])
 rw[hend];simp only[wfrH,wlC]at hrow
 have hΓ:GOk Pz (gams [(68,oneAt _ _ _ _)]):=goks_cons (oneAt_sound (enter_of Tryz.func68 rfl (by decide)) hrow (qnZ _)) goks_nil
 have w1:IntKind.i64.wrap ((n:Int)+1)=(n:Int)+1:=wr_i64 (by omega) (by omega)
 refine ct_of_sim Tryz.func135 rfl ?_;simp only[wlB,wlC,Tryz.ntmps135,q7Z,q8Z,Nat.reduceAdd,Nat.reduceSub,qbZ,q9Z,qaZ]
 refine Sim.step hmix hΓ (n:=0) (by simp;exact⟨rfl,rfl⟩) (by simp) ?_
 refine Sim.step hmix hΓ (n:=0) (by simp +decide [hbI];exact⟨rfl,rfl⟩) (by simp) ?_
 refine Sim.seq (Sim.draw hmix (by simp) ?_)
 refine SimR.many hΓ 8 (by simp[stageOps];rfl) (by omega) (by kernel_rfl) (by simp +decide;first | exact⟨rfl,rfl⟩ | exact⟨by kernel_rfl,rfl,rfl⟩) ?_
 refine SimR.one hΓ _ rfl (by kernel_rfl) (by simp +decide;exact⟨rfl,rfl⟩) ?_
 refine SimR.many hΓ 10 (by simp[stageOps,blankOp];rfl) (by omega) (by kernel_rfl) (by simp +decide;first | exact⟨rfl,rfl⟩ | exact⟨by kernel_rfl,rfl,rfl⟩) ?_
 refine SimR.done rfl ?_;dsimp only;by_cases hE0:E=0
 · subst hE0
   rw[if_pos rfl]
   refine Sim.step hmix hΓ (n:=0) (by simp +decide [w1];first | exact⟨rfl,rfl⟩ | exact⟨by kernel_rfl,rfl,rfl⟩) (by simp) ?_
   refine Sim.exec hmix hΓ (n:=0) (by simp;exact⟨rfl,rfl,rfl⟩) (by simp) ?_
   exact⟨.inr rfl,_,by simp[Tryz.f135] <;> rfl,Weak.mk' [0,1] (by decide) (by decide) (by simp) (by simp[AWb,AW])⟩
 · rw[if_neg hE0]
   have hEb:(E==0)=false:=by simpa using hE0
   refine Sim.step hmix hΓ (n:=0) (by simp +decide [hEb];exact⟨rfl,rfl⟩) (by simp) ?_
   refine Sim.exec hmix hΓ (n:=0) (by simp;exact⟨rfl,rfl,rfl⟩) (by simp) ?_
   exact⟨.inr rfl,_,by simp[Tryz.f135] <;> rfl,Weak.mk' [0,1] (by decide) (by decide) (by simp) (by simp[AWb,AW])⟩
noncomputable def wlR(g:WL→List AV→Option AV):Summ:=fun args H=>match args with
 | .ptr b 0::xs=>match H[b]? with
   | some (.cells true l)=>match wlOf l with
     | some (q,m,f,n,dn,bd)=>match H[q]? with
       | some (.obj true sub)=>match dsD sub with
         | some d=>match g ⟨d,m,f,n,dn,bd⟩ xs with
           | some v=>some (v,H,[])
           | none=>none
         | none=>none
       | _=>none
     | none=>none
   | _=>none
 | _=>none
theorem sound_wlR{f:FuncId}{g:WL→List AV→Option AV}(he:∀cargs w,(callFunc f cargs).run Pz w=.ok (.enter f cargs) w)
   (h:∀w xs v,g w xs=some v→frees xs=true∧(∀k,reA k v=v)∧Ct Pz f (.ptr 0 0::xs) [wlB 1 w,.obj true w.d.blks] v [wlB 1 w,.obj true w.d.blks]):Sound Pz f (wlR g):=by
 have hw:Sound Pz f (wlS fun w xs=>(g w xs).map fun v=>(w,v)):=sound_wl he fun w xs w' v hg=>by
   obtain⟨v',h1,h2⟩:=qlZ.1 hg;cases h2;exact h w xs v h1
 have key:∀args H v H' W,wlR g args H=some (v,H',W)→H'=H∧W=[]∧Ct Pz f args H v H:=by
   intro args H v H' W hs;unfold wlR at hs
   split at hs <;> try cases hs
   rename_i b xs
   split at hs <;> try cases hs
   rename_i l hb
   split at hs <;> try cases hs
   rename_i q m fl n dn bd hwl
   split at hs <;> try cases hs
   rename_i sub hq
   split at hs <;> try cases hs
   rename_i d hd
   split at hs <;> cases hs
   rename_i hg;refine ⟨rfl,rfl,?_⟩;have e:=dsD_eq hd;have e2:=wlOf_eq hwl
   subst e;subst e2
   have:=hw.ct (.ptr b 0::xs) H v ((H.set b (wlB q ⟨d,m,fl,n,dn,bd⟩)).set q (.obj true d.blks)) [b,q] (by
     unfold wlS
     simp only[hb,wlOf_wlC,hq,dsD_blks,hg,rhZ])
   have s1:H.set b (wlB q ⟨d,m,fl,n,dn,bd⟩)=H:=by
     obtain⟨h1,h2⟩:=q1Z.1 hb;show H.set b (.cells true (wlC q m fl n dn bd))=H;rw[←h2,List.set_getElem_self]
   have s2:H.set q (.obj true d.blks)=H:=by
     obtain⟨h1,h2⟩:=q1Z.1 hq;rw[←h2,List.set_getElem_self]
   rw[s1,s2]at this;exact this
 refine ⟨he,fun args H v H' W hs=>?_,fun args H v H' W hs=>?_⟩
 · obtain⟨rfl,_,h⟩:=key args H v H' W hs
   exact h
 · obtain⟨rfl,_,_⟩:=key args H v H' W hs
   exact⟨qnZ _,fun _ _ _=>rfl⟩
open Classical in
noncomputable def wfreshS:Summ:=wlS fun w xs=>match xs with
 | []=>if w.d.small∧(w.d.create (wn w.next)).1.small∧w.next≤1000000001 then some (w.fresh.1,.int .i64 w.fresh.2) else none
 | _=>none
theorem wfresh_sound:Sound Pz 135 wfreshS:=by
 refine sound_wl (enter_of Tryz.func135 rfl (by decide)) fun w xs w' v hg=>?_
 split at hg;rotate_left
 · cases hg
 split at hg <;> cases hg
 rename_i hs
 exact⟨rfl,fun _=>rfl,fresh_ct w hs.1 hs.2.1 hs.2.2⟩
open Classical in
noncomputable def wsyncLS:Summ:=wlS fun w xs=>match xs with
 | []=>if w.d.small then some (⟨(w.d.sync (wn w.file)).1,w.most,w.file,w.next,w.done,w.bad⟩,.int .i64 (w.d.sync (wn w.file)).2) else none
 | _=>none
theorem wsyncL_sound:Sound Pz 62 wsyncLS:=by
 refine sound_wl (enter_of Tryz.func62 rfl (by decide)) fun w xs w' v hg=>?_
 split at hg;rotate_left
 · cases hg
 split at hg <;> cases hg
 rename_i hs
 exact⟨rfl,fun _=>rfl,wsync_ct w hs⟩
open Classical in
noncomputable def wsizeR:Summ:=wlR fun w xs=>match xs with
 | []=>if w.d.small then some (.int .i64 w.size) else none
 | _=>none
theorem wsize_sound:Sound Pz 59 wsizeR:=by
 refine sound_wlR (enter_of Tryz.func59 rfl (by decide)) fun w xs v hg=>?_
 split at hg;rotate_left
 · cases hg
 split at hg <;> cases hg
 rename_i hs
 exact⟨rfl,fun _=>rfl,wsize_ct w hs⟩
theorem judged_ct(w:WL)(e:Int):Ct Pz 61 [.ptr 0 0,.int .i64 e] [wlB 1 w,.obj true w.d.blks] (.int .i64 e) [wlB 1 ⟨w.d,w.most,w.file,w.next,w.done,decide (e≠0)⟩,.obj true w.d.blks]:=by
 have he:(e != 0)=decide (e≠0):=by by_cases h:e=0 <;> simp[h]
 refine ct_of_simE Tryz.func61 rfl ?_;simp only[wlB,wlC,Tryz.ntmps61,q7Z,q8Z,Nat.reduceAdd,Nat.reduceSub,qbZ,q9Z,qaZ]
 refine Sim.exec hmix goks_nil (n:=0) (by simp +decide;exact⟨rfl,rfl,rfl⟩) (by simp) ?_
 exact⟨.inr rfl,by simp[Tryz.f61],by simp[he]⟩
noncomputable def judgedS:Summ:=wlS fun w xs=>match xs with
 | [.int .i64 e]=>some (⟨w.d,w.most,w.file,w.next,w.done,decide (e≠0)⟩,.int .i64 e)
 | _=>none
theorem judged_sound:Sound Pz 61 judgedS:=by
 refine sound_wl (enter_of Tryz.func61 rfl (by decide)) fun w xs w' v hg=>?_
 split at hg <;> cases hg
 exact⟨rfl,fun _=>rfl,judged_ct w _⟩
theorem may_ct(w:WL):Ct Pz 60 [.ptr 0 0] [wlB 1 w,.obj true w.d.blks] (.int .i64 (if w.bad=true then 11 else 0)) [wlB 1 w,.obj true w.d.blks]:=by
 obtain⟨d,m,f,n,dn,bd⟩:=w;refine ct_of_simE Tryz.func60 rfl ?_;simp only[wlB,wlC,Tryz.ntmps60,q7Z,q8Z,Nat.reduceAdd,Nat.reduceSub,qbZ,q9Z,qaZ]
 cases bd with
 | true =>
   refine Sim.exec hmix goks_nil (n:=0) (by simp +decide;exact⟨rfl,rfl,rfl⟩) (by simp) ?_
   exact⟨.inr rfl,by simp[Tryz.f60],by simp⟩
 | false =>
   refine Sim.exec hmix goks_nil (n:=0) (by simp +decide;exact⟨rfl,rfl,rfl⟩) (by simp) ?_
   exact⟨.inr rfl,by simp[Tryz.f60],by simp⟩
noncomputable def mayR:Summ:=wlR fun w xs=>match xs with
 | []=>some (.int .i64 (if w.bad=true then 11 else 0))
 | _=>none
theorem may_sound:Sound Pz 60 mayR:=by
 refine sound_wlR (enter_of Tryz.func60 rfl (by decide)) fun w xs v hg=>?_
 split at hg <;> cases hg
 exact⟨rfl,fun _=>rfl,may_ct w⟩
noncomputable def rdyΓ0:Gam:=gams [(62,wsyncLS),(135,wfreshS)]
theorem rdyΓ0_ok:GOk Pz rdyΓ0:=goks_cons wsyncL_sound (goks_cons wfresh_sound goks_nil)
abbrev rdH(w:WL):AHeap:=[wlB 1 w,.obj true w.d.blks,.cells true [.func 62 [.ptr 0 0] [],.func 135 [.ptr 0 0] []]]
abbrev WL.synced(w:WL):WL:=⟨(w.d.sync (wn w.file)).1,w.most,w.file,w.next,w.done,w.bad⟩
theorem rrow_ct(w:WL)(h0:w.d.small)(h1:w.synced.d.small)(h2:(w.synced.d.create (wn w.next)).1.small)(hn:w.next≤1000000001) :
   Ct Pz 68 [.ptr 0 0,.slice 2 0 2 1 true] (rdH w) (.int .i64 (if (w.d.sync (wn w.file)).2=0 then w.synced.fresh.2 else (w.d.sync (wn w.file)).2)) (if (w.d.sync (wn w.file)).2=0 then rdH w.synced.fresh.1 else rdH w.synced):=by
 refine first2_ct rdyΓ0_ok 3 0 2 true (by decide) (rdH w) (rdH w.synced) (rdH w.synced.fresh.1) _ _ [.ptr 0 0] [.ptr 0 0] [] [] _ _ rfl rfl rfl rfl rfl rfl (by decide) (by decide) (fun H hH rn hr B hB=>?_) (fun X=>?_) (fun _ X=>?_)
 · have q:∀j,j<3→rn[j]? = some j:=hr
   rcases hH with rfl | rfl | rfl <;> (simp only[rdH,qwZ,rtZ,or_false]at hB;rcases hB with rfl | rfl | rfl <;> simp[wlC,AWb,AW,q])
 · simp +decide [rdyΓ0,wsyncLS,wlS,h0]
 · simp +decide [rdyΓ0,wfreshS,wlS,h1,h2,hn]
theorem ready_ct(w:WL){A B:Nat}(hok:w.d.ok A B)(hA:A+10≤900000)(hB:B≤1000000000000)(hn:w.next≤1000000000) :
   Ct Pz 69 [.ptr 0 0] [wlB 1 w,.obj true w.d.blks] (.int .i64 w.ready.2) [wlB 1 w.ready.1,.obj true w.ready.1.d.blks]:=by
 have h0:w.d.small:=DS.ok_mono hok (by omega) (by omega)
 have h1:w.synced.d.small:=DS.ok_mono (DS.ok_sync hok _) (by omega) (by omega)
 have h2:(w.d.create (wn w.next)).1.small:=DS.ok_mono (DS.ok_create hok _) (by omega) (by omega)
 have h3:(w.synced.d.create (wn w.next)).1.small:=DS.ok_mono (DS.ok_create (DS.ok_sync hok (wn w.file)) _) (by omega) (by omega)
 have hn1:w.next≤1000000001:=by omega
 have hrow:=rrow_ct w h0 h1 h3 hn1;obtain⟨sz,hsz⟩:∃sz,w.size=sz:=⟨_,rfl⟩;obtain⟨W0,hW0⟩:∃W0,w.fresh=W0:=⟨_,rfl⟩;obtain⟨w0,e0⟩:=W0;obtain⟨ws,hws⟩:∃ws,w.synced=ws:=⟨_,rfl⟩;obtain⟨es,hes⟩:∃es,(w.d.sync (wn w.file)).2=es:=⟨_,rfl⟩
 have hrd:w.ready=if w.file=0 then (w0,e0) else if w.most≤sz then (if es=0 then ws.fresh else (ws,es)) else (w,0):=by
   unfold WL.ready;rw[hsz,hW0,hes,←hws]
 rw[hws,hes]at hrow
 obtain⟨E,hE⟩:∃E,(if es=0 then ws.fresh.2 else es)=E:=⟨_,rfl⟩
 obtain⟨V,hV⟩:∃V,(if es=0 then ws.fresh.1 else ws)=V:=⟨_,rfl⟩
 have hH:(if es=0 then rdH ws.fresh.1 else rdH ws)=rdH V:=by rw[←hV];split <;> rfl
 have hVE:(if es=0 then ws.fresh else (ws,es))=(V,E):=by rw[←hV,←hE];split <;> rfl
 rw[hE,hH]at hrow;rw[hVE]at hrd;rw[hrd];clear hrd hVE hH hV hE hes hws h1 h3;obtain⟨d,m,f,n,dn,bd⟩:=w;obtain⟨dV,mV,fV,nV,dnV,bdV⟩:=V;obtain⟨d0,m0,f0,n0,dn0,bd0⟩:=w0;simp only[rdH,wlB,wlC]at hrow;dsimp only at h0 h2 hn hn1 hsz hW0 ⊢
 have hΓ:GOk Pz (gams [(59,wsizeR),(135,wfreshS),(68,oneAt _ _ _ _)]):=goks_cons wsize_sound (goks_cons wfresh_sound (goks_cons (oneAt_sound (enter_of Tryz.func68 rfl (by decide)) hrow (qnZ _)) goks_nil))
 refine ct_of_sim Tryz.func69 rfl ?_;simp only[wlB,wlC,Tryz.ntmps69,q7Z,q8Z,Nat.reduceAdd,Nat.reduceSub,qbZ,q9Z,qaZ]
 refine Sim.step hmix hΓ (n:=0) (by simp;exact⟨rfl,rfl⟩) (by simp) ?_
 by_cases hf:f=0
 · subst hf
   rw[if_pos rfl]
   refine Sim.exec hmix hΓ (n:=0) (by simp +decide [wfreshS,wlS,h0,h2,hn1,hW0];exact⟨rfl,rfl,rfl⟩) (by simp) ?_
   exact⟨.inr rfl,_,by simp[Tryz.f69] <;> rfl,Weak.mk' [0,1] (by decide) (by decide) (by simp) (by simp[AWb,AW,wlC])⟩
 · rw[if_neg hf]
   have hfI:¬(f:Int)=0:=by omega
   have hfb:((f:Int)==0)=false:=by simpa using hf
   refine Sim.seq (Sim.block ?_)
   refine Sim.step hmix hΓ (n:=0) (by simp +decide;exact⟨rfl,rfl⟩) (by simp) ?_
   by_cases hm:m≤sz
   · rw[if_pos hm]
     refine Sim.exec hmix hΓ (n:=0) (by simp +decide [hfb,wsizeR,wlR,h0,hsz,hm];exact⟨rfl,rfl,rfl⟩) (by simp) ?_
     exact⟨.inr rfl,_,by simp[Tryz.f69] <;> rfl,Weak.mk' [0,1] (by decide) (by decide) (by simp) (by simp[AWb,AW])⟩
   · rw[if_neg hm]
     refine Sim.exec hmix hΓ (n:=0) (by simp +decide [hfb,wsizeR,wlR,h0,hsz,hm];exact⟨rfl,rfl,rfl⟩) (by simp) ?_
     dsimp only
     refine Sim.exec hmix hΓ (n:=0) (by simp;exact⟨rfl,rfl,rfl⟩) (by simp) ?_
     exact⟨.inr rfl,_,by simp[Tryz.f69] <;> rfl,Weak.mk' [0,1] (by decide) (by decide) (by simp) (by simp[AWb,AW])⟩
open Classical in
noncomputable def wreadyS:Summ:=wlS fun w xs=>match xs with
 | []=>if w.d.ok 800000 500000000000∧w.next≤1000000000 then some (w.ready.1,.int .i64 w.ready.2) else none
 | _=>none
theorem wready_sound:Sound Pz 69 wreadyS:=by
 refine sound_wl (enter_of Tryz.func69 rfl (by decide)) fun w xs w' v hg=>?_
 split at hg;rotate_left
 · cases hg
 split at hg <;> cases hg
 rename_i hs
 exact⟨rfl,fun _=>rfl,ready_ct w hs.1 (by omega) (by omega) hs.2⟩
end
end Go.Proofs.YtpmfecnajoojeaaGreatDoor
