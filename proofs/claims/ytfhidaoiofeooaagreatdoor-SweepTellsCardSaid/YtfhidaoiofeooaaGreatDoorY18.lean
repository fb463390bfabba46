/- Parts of the proof of SweepTells: lemmas, each with its own conditions. -/
import Derived.Test.YtfhidaoiofeooaaGreatDoorY16
set_option maxHeartbeats 64000000
open List renaming getElem?_eq_some_iff → q1Z, getD_eq_getElem?_getD → q2Z, getElem?_eq_getElem → q3Z, getElem?_append_left → q4Z, getElem?_append_right → q5Z, length_cons → q7Z, length_nil → q8Z, cons_append → q9Z, nil_append → qaZ, replicate → qbZ, length_append → qdZ, append_assoc → qeZ, mem_cons → qwZ, mem_append → qxZ, getElem?_map → qzZ, append_nil → r2Z, getElem?_range → rfZ, not_mem_nil → rtZ, set_cons_zero → s9Z, set_cons_succ → saZ
open Option renaming map_eq_some_iff → qlZ
open Nat renaming le_refl → qnZ, zero_le → qqZ, add_sub_cancel_left → s3Z
namespace Go.Proofs.YtfhidaoiofeooaaGreatDoor
open _root_.Go.Proofs.Tryz renaming prog → Pz
set_option maxRecDepth 100000
section
open Go Go.Lib
attribute [-simp] zG zT zc zJ zn
theorem Weak.tail3{A:zA}{N:Nat}(hN:A.length=N)(hA:∀rn:List Nat,(∀i,i<N->rn[i]? = some i)->∀B∈A,AWb rn B B){T Tn:zA}{F Fn:List AV}(ts:List Nat)(hts:ts.Nodup)
   (hF:AWs (List.range N++ts.map (N+·)) Fn F) (hlen:Tn.length=ts.length)
   (hT:∀(i t:Nat) x y,ts[i]? = some t->Tn[i]? = some x->T[t]? = some y->AWb (List.range N++ts.map (N+·)) x y):Weak N F (A++T) Fn (A++Tn):=by
 refine Weak.tailG hN hA ts hts hF (AWg.of _ _ (by simp[hlen]) fun i x b hx hb hlt=>?_);rw[qzZ]at hb;obtain⟨t,ht,rfl⟩:=qlZ.1 hb;rw[qdZ,hN]at hlt;have htl:t<T.length:=by omega
 rw[q2Z,q5Z (by omega),hN,s3Z,q3Z htl];exact hT i t x _ ht hx (q3Z htl)
theorem zTJ:GOk Pz (zAF Pz (zh []) 0 [289] 1):=zq hmix zB 0 [289] 1
theorem zR4{Γ0:Gam}(hΓ0:GOk Pz Γ0)(N b n:Nat)(hn:n<=1000)(Hk:Nat->zA)(fs:List AV)(fn:Nat->FuncId)(first cap:Nat->List AV)(E:Nat->Int)(S:Nat)(hS:S<=n)
   (hN:∀i,i<=n->(Hk i).length=N) (hb:∀i,i<=n->(Hk i)[b]? = some (.cells true fs)) (hfs:fs.length=n) (hf:∀i,i<n->fs[i]? = some (.func (fn i) (first i) (cap i))) (hy:∀i,i<n->fn i≠yl)
   (hid:∀i,i<=n->∀rn:List Nat,(∀j,j<N->rn[j]? = some j)->∀B∈Hk i,AWb rn B B)
   (hE:∀i,i<S->E i=0) (hE2:S<n->E S≠0) (hcall:∀i,i<=S->i<n->∀X,∃W,Γ0 (fn i) (first i++cap i) (Hk i++X)=some (.int .i64 (E i),Hk (i+1)++X,W)) :
   Ct Pz 218 [.slice b 0 n 1 false] (Hk 0) (.int .i64 (if S<n then E S else 0)) (Hk (if S<n then S+1 else n)):=by
 have hΓ:=zTJ;have hl0:=hN 0 (qqZ _);have hb0:b<N:=by
   have:=(q1Z.1 (hb 0 (qqZ _))).1;omega
 refine zE Tryz.func218 rfl ?_;rw[hl0];simp only[Tryz.ntmps218,q7Z,q8Z,Nat.reduceAdd,Nat.reduceSub,qbZ,q9Z,qaZ];obtain⟨A0,hA0⟩:∃A0,Hk 0=A0:=⟨_,rfl⟩
 have hAl:A0.length=N:=hA0▸hl0;have hX:=Z4 A0 hAl;have hXg:=hX.get;have hXg0:=hX.get0;have hXs:=hX.set;have hXs0:=hX.set0;rw[hA0];refine wS hΓ (by simp[hAl];exact wR) ?_ (by simp[hAl]);refine Sim.seq (wS hΓ (by simp[Tryz.f289,hAl];exact wR) ?_ (by simp[hAl]));refine Sim.block ?_;have hend:∀(K:Nat),K<=n->∀(T:zA) (F Fn:List AV),AWs (List.range N++[].map (N+·)) Fn F->Weak N F (Hk K++T) Fn (Hk K):=fun K hK T F Fn hF=>by
   have:=Weak.tail3 (hN K hK) (hid K hK) (T:=T) (Tn:=[]) (F:=F) (Fn:=Fn) [] (by decide) hF rfl (fun j t x y h=>by simp at h)
   rwa [r2Z]at this
 have hK:(if S<n then S+1 else n)<=n:=by split <;> omega
 obtain⟨K,hKe⟩:∃K,(if S<n then S+1 else n)=K:=⟨_,rfl⟩
 rw[hKe]at hK ⊢;have hXK:=Z4 (Hk K) (hN K hK);have hKg:=hXK.get;have hKg0:=hXK.get0;have hKs:=hXK.set;have hKs0:=hXK.set0;have hnl:(n:Int)<=9223372036854775807:=by omega
 have hw0:∀i T,i<=n->(Hk i++T)[b]? = some (.cells true fs):=fun i T hi=>by
   rw[q4Z (by rw[hN i hi];exact hb0)];exact hb i hi
 have keep3:∀i,i<=n->∀x:ABlk,(∀rn:List Nat,(∀j,j<N+3->rn[j]? = some j)->AWb rn x x)->∀(e:Int) (T:zA) (F Fn:List AV),AWs (List.range (N+3)++[].map (N+3+·)) Fn F ->
     Weak (N+3) F (Hk i++.cells true [.int .i64 e]::.cells true [.slice b 0 n 1 false]::x::T) Fn (Hk i++[.cells true [.int .i64 e],.cells true [.slice b 0 n 1 false],x]):=fun i hi x hx e T F Fn hF=>by
   have:=Weak.tail3 (A:=Hk i++[.cells true [.int .i64 e],.cells true [.slice b 0 n 1 false],x]) (N:=N+3) (by simp[hN i hi]) (fun rn hr B hB=>by
     rcases qxZ.1 hB with h | h
     · exact hid i hi rn (fun j hj=>hr j (by omega)) B h
     · simp only[qwZ,rtZ,or_false]at h
       rcases h with rfl | rfl | rfl
       · exact⟨id,AWs.refl _ _ rfl⟩
       · exact⟨id,by simp[AW,hr b (by omega)]⟩
       · exact hx rn hr) (T:=T) (Tn:=[]) (F:=F) (Fn:=Fn) [] (by decide) hF rfl (fun j t x y h=>by simp at h)
   rw[r2Z,qeZ]at this;exact this
 have q0:∀ts:List Nat,(List.range (N+3)++ts)[b]? = some b:=fun ts=>zBw _ _ (by omega);have q1:∀ts:List Nat,(List.range (N+3)++ts)[N+2]? = some (N+2):=fun ts=>zBw _ _ (by omega);have q2:(List.range (N+3))[b]? = some b:=rfZ (by omega);have q3:(List.range (N+3))[N+2]? = some (N+2):=rfZ (by omega);have hAl2:(A0++[ABlk.cells true [AV.int IntKind.i64 0],ABlk.cells true [AV.slice b 0 n 1 false]]).length=N+2:=by simp[hAl]
 by_cases hSn:S<n
 · rw[if_pos hSn]
   rw[if_pos hSn]at hKe;refine Sim.rangeFuncN hmix (fun rc=>Hk K++[.cells true [.int .i64 (E S)],.cells true [.slice b 0 n 1 false],rc]) .done (some .ret) (.tuple []) (gf:=334) (cap:=[.ptr (N+1) 0]) (by simp) (zD Tryz.func334 rfl (by decide)) (by decide) (by simp[hAl,hN K hK]) (by simp[hAl,hN K hK]) (by simp) rfl (by simp[hAl]) ?_ ?_
   · generalize hrc:ABlk.loop _ _ _ LoopState.ready none _=rc
     have hrcW:∀rn:List Nat,(∀j,j<N+3->rn[j]? = some j)->AWb rn rc rc:=fun rn hr=>by
       subst hrc;simp[AWb,AW,hr N (by omega),hr (N+1) (by omega),hr b (by omega)]
     refine zE Tryz.func334 rfl ?_;simp only[Tryz.ntmps334,q7Z,q8Z,qbZ,q9Z,qaZ,qeZ];rw[show (A0++[ABlk.cells true [AV.int IntKind.i64 0],ABlk.cells true [AV.slice b 0 n 1 false],rc]).length=N+3 by simp[hAl]];refine wS zB (by simp[hAl];exact wR) ?_ (by simp[hAl]);refine Sim.block (Sim.loopW (fun i:Nat=>i<=S) (fun i=>[.yld (N+2),.top,.top,.top,.top,.slice b 0 n 1 false,.int .i64 n,.int .i64 i]++qbZ 9 .top) (fun i=>Hk i++[.cells true [.int .i64 0],.cells true [.slice b 0 n 1 false],rc]) (fun i=>S-i) 0 (by simp[hAl]) (qqZ _) ?_ fun i hi=>?_)
     · rw[hA0]
       have key:=keep3 0 (qqZ _) rc hrcW 0 [];rw[hA0]at key;exact key _ _ (by simp[AW,q2])
     · have hin:i<n:=by omega
       have hltI:(i:Int)<n:=by omega
       have hfi:=hf i hin;have hfl:i<fs.length:=by omega
       have hfi':∀h,fs[i]'h=.func (fn i) (first i) (cap i):=fun h=>by rw[q3Z h]at hfi;exact Option.some.inj hfi
       have hc:=hcall i hi hin;have hyi:¬fn i=1000000000:=hy i hin;have hbA:=fun T=>hw0 i T (by omega);have y1:IntKind.i64.wrap ((i:Int)+1)=i+1:=zK (by omega) (by omega);obtain⟨A,hA⟩:∃A,Hk i=A:=⟨_,rfl⟩
       obtain⟨A',hA'⟩:∃A',Hk (i+1)=A':=⟨_,rfl⟩
       have hAN:A.length=N:=hA▸hN i (by omega);have hAN':A'.length=N:=hA'▸hN (i+1) (by omega);have hY:=Z4 A hAN;have hYg:=hY.get;have hYg0:=hY.get0;have hY':=Z4 A' hAN';have hYg':=hY'.get;have hYg0':=hY'.get0;have hYs':=hY'.set;have hYs0':=hY'.set0;rw[hA,hA']at hc;rw[hA]at hbA ⊢;subst hrc;obtain⟨Wf,hc⟩:∃Wf:zA->List Nat,∀X,Γ0 (fn i) (first i++cap i) (A++X)=some (.int .i64 (E i),A'++X,Wf X):=⟨fun X=>(hc X).choose,fun X=>(hc X).choose_spec⟩
       have hΓ2:=zq hmix hΓ0 0 [] 1;by_cases hiS:i=S
       · subst hiS
         have hE':=hE2 hSn;have e1:(E i==0)=false:=by simpa using hE'
         have e2:(E i != 0)=true:=by simpa using hE'
         refine wE hΓ2 (by simp +decide [hltI,hbA,hfl,hfi',hc,hyi,e2,hAN',hYs',hYs0'];exact wT) ?_ (by simp[hAN]);refine ⟨.inr rfl,_,by simp[Tryz.f334];rfl,?_⟩;rw[<-hKe,<-hA'];exact keep3 (i+1) (by omega) _ (fun rn hr=>by simp[AWb,AW,hr N (by omega),hr (N+1) (by omega),hr b (by omega)]) (E i) _ _ _ (by simp[AW])
       · have hE':=hE i (by omega)
         refine wE hΓ2 (by simp +decide [hltI,hbA,hfl,hfi',hc,hyi,hE',y1,hAN',hYs'];exact wT) ?_ (by simp[hAN]);refine ⟨i+1,by omega,?_,by omega⟩;rw[<-hA'];exact keep3 (i+1) (by omega) _ hrcW 0 _ _ _ (by simp[AW,q2])
   · refine ⟨.inr rfl,.int .i64 (E S),by simp[Tryz.f218,hAl,hKg0,hKs],?_⟩
     rw[hAl2,hKs];exact hend K hK _ _ _ (by simp[AW])
 · rw[if_neg hSn]
   rw[if_neg hSn]at hKe;have hSe:S=n:=by omega
   refine Sim.rangeFuncN hmix (fun rc=>Hk K++[.cells true [.int .i64 0],.cells true [.slice b 0 n 1 false],rc]) .ready none (.tuple []) (gf:=334) (cap:=[.ptr (N+1) 0]) (by simp) (zD Tryz.func334 rfl (by decide)) (by decide) (by simp[hAl,hN K hK]) (by simp[hAl,hN K hK]) (by simp) rfl (by simp[hAl]) ?_ ?_
   · generalize hrc:ABlk.loop _ _ _ LoopState.ready none _=rc
     have hrcW:∀rn:List Nat,(∀j,j<N+3->rn[j]? = some j)->AWb rn rc rc:=fun rn hr=>by
       subst hrc;simp[AWb,AW,hr N (by omega),hr (N+1) (by omega),hr b (by omega)]
     refine zE Tryz.func334 rfl ?_;simp only[Tryz.ntmps334,q7Z,q8Z,qbZ,q9Z,qaZ,qeZ];rw[show (A0++[ABlk.cells true [AV.int IntKind.i64 0],ABlk.cells true [AV.slice b 0 n 1 false],rc]).length=N+3 by simp[hAl]];refine wS zB (by simp[hAl];exact wR) ?_ (by simp[hAl]);refine Sim.block (Sim.loopW (fun i:Nat=>i<=n) (fun i=>[.yld (N+2),.top,.top,.top,.top,.slice b 0 n 1 false,.int .i64 n,.int .i64 i]++qbZ 9 .top) (fun i=>Hk i++[.cells true [.int .i64 0],.cells true [.slice b 0 n 1 false],rc]) (fun i=>n-i) 0 (by simp[hAl]) (qqZ _) ?_ fun i hi=>?_)
     · rw[hA0]
       have key:=keep3 0 (qqZ _) rc hrcW 0 [];rw[hA0]at key;exact key _ _ (by simp[AW,q2])
     · by_cases hin:i<n
       rotate_left
       · have hie:i=n:=by omega
         subst hie;refine wE zB (by simp;exact wT) ?_ (by simp[hN i (qnZ _)]);dsimp only;rw[if_pos rfl];refine ⟨.inl rfl,_,by simp[Tryz.f334];rfl,?_⟩;rw[<-hKe];exact keep3 i (qnZ _) rc hrcW 0 [] _ _ (by simp[AW])
       have hltI:(i:Int)<n:=by omega
       have hfi:=hf i hin;have hfl:i<fs.length:=by omega
       have hfi':∀h,fs[i]'h=.func (fn i) (first i) (cap i):=fun h=>by rw[q3Z h]at hfi;exact Option.some.inj hfi
       have hc:=hcall i (by omega) hin;have hyi:¬fn i=1000000000:=hy i hin;have hbA:=fun T=>hw0 i T (by omega);have y1:IntKind.i64.wrap ((i:Int)+1)=i+1:=zK (by omega) (by omega);obtain⟨A,hA⟩:∃A,Hk i=A:=⟨_,rfl⟩
       obtain⟨A',hA'⟩:∃A',Hk (i+1)=A':=⟨_,rfl⟩
       have hAN:A.length=N:=hA▸hN i (by omega);have hAN':A'.length=N:=hA'▸hN (i+1) (by omega);have hY:=Z4 A hAN;have hYg:=hY.get;have hYg0:=hY.get0;have hY':=Z4 A' hAN';have hYg':=hY'.get;have hYg0':=hY'.get0;have hYs':=hY'.set;have hYs0':=hY'.set0;rw[hA,hA']at hc;rw[hA]at hbA ⊢;subst hrc;obtain⟨Wf,hc⟩:∃Wf:zA->List Nat,∀X,Γ0 (fn i) (first i++cap i) (A++X)=some (.int .i64 (E i),A'++X,Wf X):=⟨fun X=>(hc X).choose,fun X=>(hc X).choose_spec⟩
       have hΓ2:=zq hmix hΓ0 0 [] 1;have hE':=hE i (by omega);refine wE hΓ2 (by simp +decide [hltI,hbA,hfl,hfi',hc,hyi,hE',y1,hAN',hYs'];exact wT) ?_ (by simp[hAN]);refine ⟨i+1,by omega,?_,by omega⟩;rw[<-hA'];exact keep3 (i+1) (by omega) _ hrcW 0 _ _ _ (by simp[AW,q2])
   · dsimp only
     rw[hAl2,hKs];dsimp only[s9Z,saZ];refine wE hΓ (by simp[hKs0,hN K hK];exact wT) ?_ (by simp[hN K hK]);refine ⟨.inr rfl,.int .i64 0,by simp[Tryz.f218,hKg0],?_⟩;exact hend K hK _ _ _ (by simp[AW])
def zSz:zS:=fun args H=>match args with
 | [.func f [.ptr q 0] [],.str k]=>if q<H.length then some (.func 286 [] [.ptr H.length 0,.ptr (H.length+1) 0],H++[.cells true [.func f [.ptr q 0] []],.cells true [.str k]],[]) else none
 | _=>none
theorem zQR:Sound Pz 216 zSz:=by
 refine ⟨zD Tryz.func216 rfl (by decide),fun args H v H' W hs=>?_,fun args H v H' W hs=>?_⟩ <;> (unfold zSz at hs;split at hs <;> try cases hs) <;> (rename_i f q k;split at hs <;> cases hs;rename_i hq)
 · refine ZG Tryz.func216 rfl ?_
   simp only[Tryz.ntmps216,q7Z,q8Z,Nat.reduceAdd,Nat.reduceSub,qbZ,q9Z,qaZ];refine wE zB (by simp;exact wT) ?_;exact⟨.inr rfl,by simp[Tryz.f216],rfl⟩
 · exact⟨by simp,fun c hc _=>by rw[q4Z hc]⟩
end
end Go.Proofs.YtfhidaoiofeooaaGreatDoor
