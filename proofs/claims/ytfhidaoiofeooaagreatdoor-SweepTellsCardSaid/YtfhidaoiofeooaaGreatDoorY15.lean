/- Parts of the proof of SweepTells: lemmas, each with its own conditions. -/
import Derived.Test.YtfhidaoiofeooaaGreatDoorY14
set_option maxHeartbeats 64000000
open List renaming getElem?_eq_some_iff → q1Z, getElem?_eq_getElem → q3Z, getElem?_append_left → q4Z, getElem?_append_right → q5Z, take_of_length_le → q6Z, length_cons → q7Z, length_nil → q8Z, cons_append → q9Z, nil_append → qaZ, replicate → qbZ, length_append → qdZ, append_assoc → qeZ, length_take → qjZ, getElem?_cons_succ → r9Z, map_cons → s1Z, all_eq_true → s5Z, set_cons_zero → s9Z
open Nat renaming le_refl → qnZ, zero_add → s8Z
open Option renaming map_some → rhZ
namespace Go.Proofs.YtfhidaoiofeooaaGreatDoor
open _root_.Go.Proofs.Tryz renaming prog → Pz
set_option maxRecDepth 100000
section
open Go
theorem AWg.append{rn:List Nat}{H:zA}:∀{xs ys:zA} {bs cs:List Nat},AWg rn H xs bs->AWg rn H ys cs->AWg rn H (xs++ys) (bs++cs)
 | [],_,[],_,_,h=>h
 | _::_,_,_::_,_,h,h'=>⟨h.1,AWg.append h.2 h'⟩
 | [],_,_::_,_,h,_=>h.elim
 | _::_,_,[],_,h,_=>h.elim
theorem AWg.of{rn:List Nat}{H:zA}:∀(xs:zA) (bs:List Nat),xs.length=bs.length->(∀(i:Nat) x b,xs[i]? = some x->bs[i]? = some b->b<H.length->AWb rn x (H.getD b .dead))->AWg rn H xs bs
 | [],[],_,_=>trivial
 | [],_::_,h,_=>by simp at h
 | _::_,[],h,_=>by simp at h
 | x::xs,b::bs,h,hall=>by
   simp only[AWg];refine ⟨?_,AWg.of xs bs (by simpa using h) fun i y c hy hc=>hall (i+1) y c (by simpa using hy) (by simpa using hc)⟩;split
   · exact hall 0 x b rfl rfl ‹_›
   · trivial
end
section
open Go Go.Lib
attribute [-simp] zG zT zc zJ zn
theorem zPX(B0:ABlk)(l:NM)(T:zA)(k:List UInt8)(v:Int):zBW Pz (B0::.map (zX l)::T) 225 (.map 1) (.str k) (.int .i64 v)=some (B0::.map (zX (NM.put l k v))::T):=by
 have hf:=Z2 k l 0;cases hg:NM.get l k with
 | none =>
   rw[hg]at hf;simp only[Option.map_none,s8Z]at hf;have hs:=zHW v hg;simp[hf,hs]
 | some u =>
   rw[hg]at hf;simp only[rhZ,s8Z]at hf;have hs:=zG5 (v:=v) hg;simp[hf,hs]
theorem zPA(B0:ABlk)(l:NM)(T:zA)(k:List UInt8):zBX Pz (B0::.map (zX l)::T) 225 (.map 1) (.str k)=some (B0::.map (zX (NM.del l k))::T):=by
 have hf:=Z2 k l 0;cases hg:NM.get l k with
 | none =>
   rw[hg]at hf;simp only[Option.map_none,s8Z]at hf;simp[zBX,hf,zRY hg]
 | some u =>
   rw[hg]at hf;simp only[rhZ,s8Z]at hf;have hd:=zFP hg;simp[zBX,hf,hd]
def zI0:List FuncId:=zEI
theorem zTd:GOk Pz (zAF Pz (zh [(170,zEy)]) 0 zI0 2):=zq hmix (zC zEz zB) 0 zI0 2
def zDU(g:Nat->Nat):Nat->List DAct->zA
 | _,[]=>[]
 | k,x::l=>.cells true (x.fn g k)::zDU g (k+x.nb) l
@[simp] theorem zDB(g:Nat->Nat):∀(l:List DAct) (k:Nat),(zDU g k l).length=l.length
 | [],_=>rfl
 | x::l,k=>by simp[zDU,zDB g l]
theorem zIc(g:Nat->Nat):∀(l:List DAct) (k i:Nat) (h:i<l.length),zDU g k (l.take (i+1))=zDU g k (l.take i)++[.cells true (l[i].fn g (k+nbD (l.take i)))]
 | x::l,k,0,_=>by simp[zDU,nbD]
 | x::l,k,i+1,h=>by
   have ih:=zIc g l (k+x.nb) i (by simpa using h);simp only[List.take_succ_cons,zDU,List.getElem_cons_succ,q9Z,ih,nbD,s1Z,List.sum_cons];rw[show k+x.nb+((l.take i).map DAct.nb).sum=k+(x.nb+((l.take i).map DAct.nb).sum) by omega]
theorem zN3(l:NM)(xs:List DAct)(i:Nat)(h:i<xs.length):Z6 l (xs.take (i+1))=xs[i].run (Z6 l (xs.take i)):=by
 rw[List.take_add_one,q3Z h,Option.toList_some,zAr];rfl
theorem zNY(f:FD)(m:Int)(hal:f.acts.length<=1000000) :
   Ct Pz 74 [.ptr 0 0,.int .i64 m] [.obj true f.blks] (.tuple []) [.obj true (f.survive m).blks]:=by
 have hΓ:=zTd;refine zE Tryz.func74 rfl ?_;simp only[Tryz.ntmps74,q7Z,q8Z,Nat.reduceAdd,Nat.reduceSub,qbZ,q9Z,qaZ];refine Sim.aft (Aft.open (b:=0) rfl (by simp) (Aft.done (by simp[zo]) ?_));rw[zBa];simp only[q7Z,q8Z,Nat.reduceAdd,s9Z,q9Z,qaZ];obtain⟨R,eR⟩:∃R,Zs (fun i=>i+4) 0 f.acts=R:=⟨_,rfl⟩
 rw[zHR (g':=fun i=>i+4) (fun i=>by omega),eR];obtain⟨X,eX⟩:∃X,zf f.acts=X:=⟨_,rfl⟩
 have hR:R.length=f.acts.length*2:=by rw[<-eR];simp
 have hX:X.length=nbD f.acts:=by rw[<-eX,zl]
 have gR:∀(i:Nat) (h:i<f.acts.length),(R.drop (i*2)).take 2=f.acts[i].fn (fun i=>i+4) (nbD (f.acts.take i)):=fun i h=>by
   have:=zMm (fun i=>i+4) f.acts 0 i h;rw[eR,s8Z]at this;exact this
 have gX:∀(i:Nat) (h:i<f.acts.length) (q:Nat),q<(f.acts[i]).nb->X[nbD (f.acts.take i)+q]? = (f.acts[i].boxes)[q]?:=fun i h q hq=>by rw[<-eX];exact zIV f.acts i h q hq
 rw[eX];obtain⟨k0,ek⟩:∃k,f.acts.length=k:=⟨_,rfl⟩
 obtain⟨q0,eq⟩:∃q,nbD f.acts=q:=⟨_,rfl⟩
 rw[eq]at hX;obtain⟨n,en⟩:∃n,f.clamp m=n:=⟨_,rfl⟩
 have en1:=en;unfold FD.clamp at en1;rw[ek]at en1 hal hR ⊢;have en2:max 0 (min m (k0:Int))=n:=by omega
 have hnk:n<=k0:=by omega
 have hnk2:(n:Int)<=(k0:Int):=by omega
 refine wS hΓ (by simp;exact wR) ?_;refine Sim.seq (wS hΓ (by simp +decide [-zDS,zIK,zFq,en2,hnk2];first | exact wR | exact⟨by kernel_rfl,wR⟩) ?_);obtain⟨HH,eH⟩:∃HH:Nat->zA,HH=fun i=>.cells true [.map 1,.map 2,.sl 3 0 k0 2 false,.int .i64 f.last]::.map (zX (Z6 f.d (f.acts.take i)))::.map (zX f.now)::.cells true R::(X++zDU (fun i=>i+4) 0 (f.acts.take i)):=⟨_,rfl⟩
 refine Sim.mono (Q:=fun e F' H'=>e=.normal/\LessF ([.ptr 0 0]++qbZ 44 .top) F'/\H'=HH n) ?_ ?_
 · refine Sim.block (Sim.loopS (fun i:Nat=>i<=n)
     (fun i=>[.ptr 0 0,.int .i64 m]++qbZ 18 .top++[.sl 3 0 n 2 false,.int .i64 n,.int .i64 i]++qbZ 22 .top)
     HH (fun i=>n-i) 0 (by simp) (by simp) ⟨by simp,by rw[eH];simp[Z6,zDU]⟩ fun i hi=>?_)
   by_cases hlt:i<n;rotate_left
   · have:i=n:=by omega
     subst this;have hH:=congrFun eH i;rw[hH];refine wE hΓ (by simp;exact wT) ?_;dsimp only;rw[if_pos rfl];exact⟨by trivial,by simp,hH.symm▸rfl⟩
   have hik:i<f.acts.length:=by omega
   obtain⟨x,hx⟩:∃x,f.acts[i]=x:=⟨_,rfl⟩
   obtain⟨kk,hkk⟩:∃kk,nbD (f.acts.take i)=kk:=⟨_,rfl⟩
   obtain⟨J,hJe⟩:∃J,zDU (fun i=>i+4) 0 (f.acts.take i)=J:=⟨_,rfl⟩
   have hJ:J.length=i:=by rw[<-hJe,zDB,qjZ];omega
   have hj:=zIc (fun i=>i+4) f.acts 0 i hik;have g1:=gR i hik;have gXi:=gX i hik;have e1:=zN3 f.d f.acts i hik;rw[hx]at hj g1 gXi e1;rw[hkk]at hj g1 gXi;rw[hJe,s8Z]at hj;obtain⟨cur,hcur⟩:∃cur,Z6 f.d (f.acts.take i)=cur:=⟨_,rfl⟩
   rw[hcur]at e1;have hN:∀c:ABlk,(X++(J++[c]))[q0+i]? = some c:=fun c=>by
     rw[<-qeZ,show q0+i=(X++J).length by rw[qdZ,hX,hJ],q5Z (qnZ _)];simp
   have k1:i*2+2<=k0*2:=by omega
   have hltI:(i:Int)<n:=by omega
   have y1:IntKind.i64.wrap ((i:Int)+1)=i+1:=zK (by omega) (by omega);have hH:=congrFun eH i;have hH1:=congrFun eH (i+1);try dsimp only at hH hH1
   rw[hcur,hJe]at hH;rw[hH];rw[hj,e1]at hH1;refine wS hΓ (by simp[hltI];exact wR) ?_;refine wS hΓ (by simp;exact wR) ?_;refine Sim.seq (Sim.block ?_);cases x with
   | cre k v =>
     simp only[DAct.fn]at g1;have p0:∀c,(X++(J++[c]))[kk]? = some (.obj false [.cells true [.int .i64 v]]):=fun c=>by
       have h:=gXi 0 (by simp[DAct.nb]);rw[Nat.add_zero]at h;rw[q4Z (q1Z.1 h).1];exact h
     have p1:∀c,(X++(J++[c]))[kk+1]? = some (.obj false [.cells true [.str k]]):=fun c=>by
       have h:=gXi 1 (by simp[DAct.nb]);rw[q4Z (q1Z.1 h).1];exact h
     refine wS hΓ (by simp +decide [hlt,hR,k1,g1,hX,hJ];exact wR) ?_;refine Sim.draw hmix (by simp) ?_;refine SimR.many hΓ 6 (by simp[zF];rfl) (by omega) (by kernel_rfl) (by simp +decide [hX,hJ];first | exact wR | exact⟨by kernel_rfl,wR⟩) ?_;refine SimR.one hΓ _ rfl (by kernel_rfl) (by simp +decide [-zBW,zI0,zEI,Tryz.f186,zPX,p0,p1];exact wR) ?_;refine SimR.done rfl ?_;dsimp only;refine wE hΓ (by simp[y1];exact wT) ?_;exact⟨i+1,by omega,⟨by simp,by rw[hH1];simp[DAct.run,DAct.fn]⟩,by omega⟩
   | ren a b v =>
     simp only[DAct.fn]at g1;have p0:∀c,(X++(J++[c]))[kk]? = some (.obj false [.cells true [.str a]]):=fun c=>by
       have h:=gXi 0 (by simp[DAct.nb]);rw[Nat.add_zero]at h;rw[q4Z (q1Z.1 h).1];exact h
     have p1:∀c,(X++(J++[c]))[kk+1]? = some (.obj false [.cells true [.int .i64 v]]):=fun c=>by
       have h:=gXi 1 (by simp[DAct.nb]);rw[q4Z (q1Z.1 h).1];exact h
     have p2:∀c,(X++(J++[c]))[kk+2]? = some (.obj false [.cells true [.str b]]):=fun c=>by
       have h:=gXi 2 (by simp[DAct.nb]);rw[q4Z (q1Z.1 h).1];exact h
     refine wS hΓ (by simp +decide [hlt,hR,k1,g1,hX,hJ];exact wR) ?_;refine Sim.draw hmix (by simp) ?_;refine SimR.many hΓ 6 (by simp[zF];rfl) (by omega) (by kernel_rfl) (by simp +decide [hX,hJ];first | exact wR | exact⟨by kernel_rfl,wR⟩) ?_;refine SimR.one hΓ _ rfl (by kernel_rfl) (by simp +decide [-zBW,zI0,zEI,Tryz.f335,zPX,zPA,p0,p1,p2];exact wR) ?_;refine SimR.done rfl ?_;dsimp only;refine wE hΓ (by simp[y1];exact wT) ?_;exact⟨i+1,by omega,⟨by simp,by rw[hH1];simp[DAct.run,DAct.fn]⟩,by omega⟩
   | rem k =>
     simp only[DAct.fn]at g1;have p0:∀c,(X++(J++[c]))[kk]? = some (.obj false [.cells true [.str k]]):=fun c=>by
       have h:=gXi 0 (by simp[DAct.nb]);rw[Nat.add_zero]at h;rw[q4Z (q1Z.1 h).1];exact h
     refine wS hΓ (by simp +decide [hlt,hR,k1,g1,hX,hJ];exact wR) ?_;refine Sim.draw hmix (by simp) ?_;refine SimR.many hΓ 6 (by simp[zF];rfl) (by omega) (by kernel_rfl) (by simp +decide [hX,hJ];first | exact wR | exact⟨by kernel_rfl,wR⟩) ?_;refine SimR.one hΓ _ rfl (by kernel_rfl) (by simp +decide [-zBW,zI0,zEI,Tryz.f333,zPA,p0];exact wR) ?_;refine SimR.done rfl ?_;dsimp only;refine wE hΓ (by simp[y1];exact wT) ?_;exact⟨i+1,by omega,⟨by simp,by rw[hH1];simp[DAct.run,DAct.fn]⟩,by omega⟩
 rintro e F' H' hlen ⟨rfl,hF,rfl⟩;dsimp only;refine Sim.less hF ?_;obtain⟨J,hJe⟩:∃J,zDU (fun i=>i+4) 0 (f.acts.take n)=J:=⟨_,rfl⟩
 have hJ:J.length=n:=by rw[<-hJe,zDB,qjZ];omega
 obtain⟨cur,hcur⟩:∃cur,Z6 f.d (f.acts.take n)=cur:=⟨_,rfl⟩
 have hsv:f.survive m=⟨cur,[],f.last⟩:=by unfold FD.survive;rw[en,hcur]
 have hH:=congrFun eH n;try dsimp only at hH
 rw[hcur,hJe]at hH;rw[hsv,hH];refine Sim.after (wE hΓ (by simp +decide [zI0,zEy,hX,hJ];exact wT) ?_);refine Aft.closeFD (⟨cur,[],f.last⟩:FD) 0 1 (q0+n+4) (q0+n+5) [] (fun i=>i) (x:=.nils) (o:=true) ?_ rfl rfl ?_ (fun h=>absurd h ?_) rfl (fun i hi=>absurd hi (by simp[nbD])) (fun i k B h=>by simp at h) ?_ (by simp) ?_
 · rfl
 · rw[show q0+n+4=((X++J).length)+1+1+1+1 by rw[qdZ,hX,hJ]]
   simp only[r9Z];rw[<-qeZ,q5Z (qnZ _)];simp[FD.now,Z6]
 · simp;omega
 · simp <;> omega
 refine Aft.weak (Fn:=qbZ 45 .top) (Hn:=[.obj true (⟨cur,[],f.last⟩:FD).blks]) (Weak.mk' [0] (by decide) (by decide) (zCZ _ _ _ rfl) (zR (b:=0) (by simp) _ _ rfl fun i c x h1 h2=>?_)) (by simp) (Aft.done (by simp) ?_)
 · match i,h1,h2 with
   | 0,h1,h2=>cases h1;cases h2;exact .inl ⟨rfl,rfl⟩
 exact⟨.inl rfl,_,by simp[Tryz.f74] <;> rfl,wW [0] (by simp[AWb])⟩
def zLY:List FuncId:=[173]
theorem zS0:GOk Pz (zAF Pz (zh [(172,zJG),(171,zCj)]) 0 zLY 2):=zq hmix (zC zH5 (zC zFR zB)) 0 zLY 2
theorem zGN:∀l:NM,zp ((zX l).map (·.1))=some (NM.keys l)
 | []=>rfl
 | e::l=>by
   have:=zGN l;simp only[zX,NM.keys,s1Z,zp]at this ⊢;rw[this];rfl
theorem zRF(f:FD)(hok:f.small):Ct Pz 75 [.ptr 0 0] [.obj true f.blks] (.sl 1 0 f.names.length 1 false) [.obj true f.blks,.cells true (f.names.map .str)]:=by
 have hΓ:=zS0;obtain⟨hsh,hnl⟩:=FD.ok_now hok;refine zE Tryz.func75 rfl ?_;simp only[Tryz.ntmps75,q7Z,q8Z,Nat.reduceAdd,Nat.reduceSub,qbZ,q9Z,qaZ];refine Sim.aft (Aft.open (b:=0) rfl (by simp) (Aft.done (by simp[zo]) ?_));rw[zBa];simp only[q7Z,q8Z,Nat.reduceAdd,s9Z,q9Z,qaZ];obtain⟨X,eX⟩:∃X,zf f.acts=X:=⟨_,rfl⟩
 obtain⟨q,eq⟩:∃q,X.length=q:=⟨_,rfl⟩
 rw[eX];obtain⟨ks,hks⟩:∃ks,f.names=ks:=⟨_,rfl⟩
 obtain⟨n,hn⟩:∃n,ks.length=n:=⟨_,rfl⟩
 have hkl:(NM.keys f.now).length=n:=by rw[<-hn,<-hks];unfold FD.names;rw[(zU _).length_eq]
 have hnow:f.now.length=n:=by rw[<-hkl];simp[NM.keys]
 have hn6:n<=1000000:=by omega
 have hstr:=zGN f.now;have hall:((NM.keys f.now).all fun k=>decide (k.length<=1000000))=true:=by
   rw[s5Z];intro k hk;have:=hsh k hk;simp;omega
 have hallP:∀x,x∈NM.keys f.now->x.length<=1000000:=fun k hk=>by have:=hsh k hk;omega
 have hallT:(∀x,x∈NM.keys f.now->x.length<=1000000)=True:=eq_true hallP;have hsort:ZI (NM.keys f.now)=ks:=hks;rw[hks,hn];refine wS hΓ (by simp[eq];exact wR) ?_;refine wS hΓ (by simp;exact wR) ?_;have fks:∀rn:List Nat,AWs rn (ks.map AV.str) (ks.map AV.str):=fun rn=>(Z7 (zH ks AV.str fun _=>rfl)).2 trivial;obtain⟨Fn,hFn⟩:∃Fn:List AV,Fn=[.top,.top,.ptr 1 0,.sl 2 0 n 1 false]++qbZ 17 .top:=⟨_,rfl⟩
 obtain⟨Hn,hHn⟩:∃Hn:zA,Hn=[.obj true f.blks,.cells true [.nils],.cells true (ks.map .str)]:=⟨_,rfl⟩
 refine Sim.seq (Sim.mono (Q:=fun e F' H'=>e=.normal/\F'=Fn/\H'=Hn) (Sim.after ?_) ?_)
 · by_cases h0:n=0
   · subst h0
     have hk0:ks=[]:=List.length_eq_zero_iff.1 hn;have hkn:NM.keys f.now=[]:=List.length_eq_zero_iff.1 hkl;rw[hkn]at hstr;refine wE hΓ (by simp +decide [eq,zLY,zJG,zCj,hstr];exact wT) ?_;refine Aft.closeFS f 0 1 rfl rfl rfl rfl (fun i B hB=>?_) (by decide) (by simp) ?_
     · rw[show 1+3+i=i+1+1+1+1 by omega]
       simp only[r9Z];rw[eX]at hB;rw[q4Z (q1Z.1 hB).1];exact hB
     refine Aft.weak (Fn:=[.top,.top,.ptr 1 0,.nils]++qbZ 17 .top) (Hn:=[.obj true f.blks,.cells true [.nils]]) ?_ (by simp) (Aft.weak (Fn:=Fn) (Hn:=Hn) ?_ (by simp) (Aft.done (by simp[hHn]) ⟨rfl,rfl,rfl⟩))
     · refine Weak.mk' [0,q+4] (by simp) (by simp) (by simp) (zR (b:=0) (by simp) _ _ rfl fun i c x h1 h2=>?_)
       match i,h1,h2 with
       | 0,h1,h2=>cases h1;cases h2;exact .inl ⟨rfl,rfl⟩
       | 1,h1,h2 =>
         cases h1;cases h2
         refine .inr ⟨⟨by omega,by simp⟩,?_⟩;rw[show q+4=(X.length+0)+1+1+1+1 by omega];simp[AWb]
     · rw[hFn,hHn]
       exact wW [0,1,100] (by simp[AWb])
   · have h0':¬(NM.keys f.now).length=0:=by omega
     have hkn:¬NM.keys f.now=[]:=fun e=>h0' (by rw[e];rfl);refine wE hΓ (by simp +decide [eq,zLY,zJG,zCj,hstr,hkn,hkl,hn6,hallT,hsort];exact wT) ?_;refine Aft.closeFS f 0 1 rfl rfl rfl rfl (fun i B hB=>?_) (by decide) (by simp) ?_
     · rw[show 1+3+i=i+1+1+1+1 by omega]
       simp only[r9Z];rw[eX]at hB;rw[q4Z (q1Z.1 hB).1];exact hB
     refine Aft.weak (Fn:=Fn) (Hn:=Hn) ?_ (by simp) (Aft.done (by simp[hHn]) ⟨rfl,rfl,rfl⟩);rw[hFn,hHn];refine Weak.mk' [0,q+4,q+6] (by simp) (by simp) (by simp) (zR (b:=0) (by simp) _ _ rfl fun i c x h1 h2=>?_)
     match i,h1,h2 with
     | 0,h1,h2=>cases h1;cases h2;exact .inl ⟨rfl,rfl⟩
     | 1,h1,h2 =>
       cases h1;cases h2
       refine .inr ⟨⟨by omega,by simp⟩,?_⟩;rw[show q+4=(X.length+0)+1+1+1+1 by omega];simp[AWb]
     | 2,h1,h2 =>
       cases h1;cases h2
       refine .inr ⟨⟨by omega,by simp⟩,?_⟩;rw[show q+6=(X.length+2)+1+1+1+1 by omega];simp[AWb]
 rintro e F' H' hlen ⟨rfl,rfl,rfl⟩;dsimp only;subst hFn;subst hHn
 clear hlen;simp only[q9Z,qaZ,qbZ];refine Sim.seq (wS hΓ (by simp[zLY,Tryz.f173];exact wR) ?_);refine Sim.block ?_;refine Sim.rangeFuncN hmix (fun rc=>[.obj true f.blks,.cells true [.sl 5 0 n 1 false],.cells true (ks.map .str),.cells true [.sl 2 0 n 1 false],rc,.cells true (ks.map .str)]) .ready none (.tuple []) (gf:=254) (cap:=[.ptr 3 0]) (by simp) (zD Tryz.func254 rfl (by decide)) (by decide) (by simp) (by simp) (by simp) rfl (by simp) ?_ ?_
 · generalize hrc:ABlk.loop _ _ _ LoopState.ready none _=rc
   refine zE Tryz.func254 rfl ?_;simp only[Tryz.ntmps254,q7Z,q8Z,Nat.reduceAdd,Nat.reduceSub,qbZ,q9Z,qaZ];refine wS zB (by simp;exact wR) ?_;refine Sim.block (Sim.loopW (fun i:Nat=>i<=n)
     (fun i=>[.yld 4,.ptr 3 0,.top,.top,.top,.sl 2 0 n 1 false,.int .i64 n,.int .i64 i]++qbZ 8 .top)
     (fun i=>[.obj true f.blks,.cells true [.sl 5 0 i 1 false],.cells true (ks.map .str),.cells true [.sl 2 0 n 1 false],rc,.cells true ((ks.take i).map .str)]) (fun i=>n-i) 0 (by simp) (by simp) ?_ fun i hi=>?_)
   · subst hrc
     exact wW [0,1,2,3,4,100] (by simp[AWb])
   · subst hrc
     have hΓ2:=zq (P:=Pz) hmix zB 0 [] 1;by_cases hlt:i<n
     · have hltI:(i:Int)<n:=by omega
       have hlk:i<ks.length:=by omega
       obtain⟨x,hx1⟩:∃x,ks[i]=x:=⟨_,rfl⟩
       have hg:∀h,ks[i]'h=x:=fun h=>hx1;obtain⟨acc,hacc⟩:∃acc,ks.take i=acc:=⟨_,rfl⟩
       have hal:acc.length=i:=by rw[<-hacc,qjZ];omega
       have hnx:ks.take (i+1)=acc++[x]:=by rw[List.take_add_one,q3Z hlk,hx1,hacc];rfl
       have htk:List.take i (acc.map AV.str)=acc.map AV.str:=q6Z (by simp;omega);have b1:(i+1)*16<=140737488355328:=by omega
       have b2:i+1<=9223372036854775807:=by omega
       have y1:IntKind.i64.wrap ((i:Int)+1)=i+1:=zK (by omega) (by omega);rw[hacc];refine wE hΓ2 (by simp +decide [hlt,hltI,hn,hg,hal,htk,b1,b2,y1];exact wT) ?_;exact⟨i+1,by omega,by rw[hnx];exact wW [0,1,2,3,4,7] (by simp[AWb]),by omega⟩
     · have hin:i=n:=by omega
       subst hin;rw[q6Z (by omega)];refine wE hΓ2 (by simp;exact wT) ?_;dsimp only;rw[if_pos rfl];exact⟨.inl rfl,_,by simp[Tryz.f254] <;> rfl,wW [0,1,2,3,4,5] (by simp[AWb])⟩
 · dsimp only
   refine wE hΓ (by simp;exact wT) ?_;exact⟨.inr rfl,_,by simp[Tryz.f75] <;> rfl,wW [0,5] (by simp[AWb])⟩
end
end Go.Proofs.YtfhidaoiofeooaaGreatDoor
