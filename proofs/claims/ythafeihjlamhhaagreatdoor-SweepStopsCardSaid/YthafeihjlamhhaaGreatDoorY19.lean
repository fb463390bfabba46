/- Parts of the proof of SweepStops: lemmas, each with its own conditions. -/
import Derived.Test.YthafeihjlamhhaaGreatDoorY18
import Derived.Test.YthafeihjlamhhaaGreatDoorY17
set_option maxHeartbeats 64000000
open List renaming getElem?_eq_some_iff → q1Z, getD_eq_getElem?_getD → q2Z, getElem?_eq_getElem → q3Z, getElem?_append_left → q4Z, getElem?_append_right → q5Z, take_of_length_le → q6Z, length_cons → q7Z, length_nil → q8Z, cons_append → q9Z, nil_append → qaZ, replicate → qbZ, mem_of_getElem? → qcZ, length_append → qdZ, append_assoc → qeZ, getElem?_set_ne → qfZ, length_take → qjZ, mem_cons → qwZ, mem_append → qxZ, getElem?_map → qzZ, mem_singleton → r1Z, append_nil → r2Z, getElem_mem → r3Z, getElem?_drop → r5Z, length_map → r7Z, getElem?_cons_succ → r9Z, flatten_cons → rcZ, nodup_cons → rdZ, mem_map → reZ, getElem?_range → rfZ, replicate_succ → rvZ, map_cons → s1Z, getElem?_eq_none → s4Z, all_eq_true → s5Z, set_cons_zero → s9Z
open Option renaming map_eq_some_iff → qlZ, map_some → rhZ
open Nat renaming le_refl → qnZ, add_sub_cancel_left → s3Z, zero_add → s8Z
open Array renaming length_toList → rjZ, toList_append → rxZ
namespace Go.Proofs.YthafeihjlamhhaaGreatDoor
open _root_.Go.Proofs.Tryz renaming prog → Pz
set_option maxRecDepth 100000
section
open Go Go.Lib
attribute [-simp] drawOk_eq adraw qrun acode aops
theorem set_at1(B0:ABlk)(l:NM)(T:AHeap)(k:List UInt8)(v:Int):mapSetA Pz (B0::.map (entsA l)::T) 235 (.map 1) (.str k) (.int .i64 v)=some (B0::.map (entsA (NM.put l k v))::T):=by
 have hf:=find_ents k l 0
 cases hg:NM.get l k with
 | none =>
   rw[hg]at hf;simp only[Option.map_none,s8Z]at hf;have hs:=ents_new v hg;simp[hf,hs]
 | some u =>
   rw[hg]at hf;simp only[rhZ,s8Z]at hf;have hs:=ents_set (v:=v) hg;simp[hf,hs]
theorem del_at1(B0:ABlk)(l:NM)(T:AHeap)(k:List UInt8):mapDelA Pz (B0::.map (entsA l)::T) 235 (.map 1) (.str k)=some (B0::.map (entsA (NM.del l k))::T):=by
 have hf:=find_ents k l 0
 cases hg:NM.get l k with
 | none =>
   rw[hg]at hf;simp only[Option.map_none,s8Z]at hf;simp[mapDelA,hf,del_none hg]
 | some u =>
   rw[hg]at hf;simp only[rhZ,s8Z]at hf;have hd:=ents_del hg;simp[mapDelA,hf,hd]
def svInl:List FuncId:=doInl
theorem svΓ_ok:GOk Pz (runG Pz (gams [(167,mcloneS)]) 0 svInl 2):=gok_run hmix (goks_cons mclone_sound goks_nil) 0 svInl 2
def junkD(g:Nat→Nat):Nat→List DAct→AHeap
 | _,[]=>[]
 | k,x::l=>.cells true (x.fn g k)::junkD g (k+x.nb) l
@[simp] theorem junkD_length(g:Nat→Nat):∀(l:List DAct) (k:Nat),(junkD g k l).length=l.length
 | [],_=>rfl
 | x::l,k=>by simp[junkD,junkD_length g l]
theorem junkD_snoc(g:Nat→Nat):∀(l:List DAct) (k i:Nat) (h:i<l.length),junkD g k (l.take (i+1))=junkD g k (l.take i)++[.cells true (l[i].fn g (k+nbD (l.take i)))]
 | x::l,k,0,_=>by simp[junkD,nbD]
 | x::l,k,i+1,h=>by
   have ih:=junkD_snoc g l (k+x.nb) i (by simpa using h)
   simp only[List.take_succ_cons,junkD,List.getElem_cons_succ,q9Z,ih,nbD,s1Z,List.sum_cons]
   rw[show k+x.nb+((l.take i).map DAct.nb).sum=k+(x.nb+((l.take i).map DAct.nb).sum) by omega]
theorem druns_take(l:NM)(xs:List DAct)(i:Nat)(h:i<xs.length):druns l (xs.take (i+1))=xs[i].run (druns l (xs.take i)):=by
 rw[List.take_add_one,q3Z h,Option.toList_some,druns_append];rfl
theorem survive_ct(f:FD)(m:Int)(hal:f.acts.length≤1000000) :
   Ct Pz 101 [.ptr 0 0,.int .i64 m] [.obj true f.blks] (.tuple []) [.obj true (f.survive m).blks]:=by
 have hΓ:=svΓ_ok;refine ct_of_sim Tryz.func101 rfl ?_;simp only[Tryz.ntmps101,q7Z,q8Z,Nat.reduceAdd,Nat.reduceSub,qbZ,q9Z,qaZ]
 refine Sim.aft (Aft.open (b:=0) rfl (by simp) (Aft.done (by simp[openH]) ?_))
 rw[open_fd];simp only[q7Z,q8Z,Nat.reduceAdd,s9Z,q9Z,qaZ]
 obtain⟨R,eR⟩:∃R,rowD (fun i=>i+4) 0 f.acts=R:=⟨_,rfl⟩
 rw[rowD_congr (g':=fun i=>i+4) (fun i=>by omega),eR]
 obtain⟨X,eX⟩:∃X,boxesD f.acts=X:=⟨_,rfl⟩
 have hR:R.length=f.acts.length*2:=by rw[←eR];simp
 have hX:X.length=nbD f.acts:=by rw[←eX,boxesD_length]
 have gR:∀(i:Nat) (h:i<f.acts.length),(R.drop (i*2)).take 2=f.acts[i].fn (fun i=>i+4) (nbD (f.acts.take i)):=fun i h=>by
   have:=rowD_get (fun i=>i+4) f.acts 0 i h
   rw[eR,s8Z]at this;exact this
 have gX:∀(i:Nat) (h:i<f.acts.length) (q:Nat),q<(f.acts[i]).nb→X[nbD (f.acts.take i)+q]?=(f.acts[i].boxes)[q]?:=fun i h q hq=>by rw[←eX];exact boxesD_get f.acts i h q hq
 rw[eX];obtain⟨k0,ek⟩:∃k,f.acts.length=k:=⟨_,rfl⟩;obtain⟨q0,eq⟩:∃q,nbD f.acts=q:=⟨_,rfl⟩;rw[eq]at hX;obtain⟨n,en⟩:∃n,f.clamp m=n:=⟨_,rfl⟩;have en1:=en;unfold FD.clamp at en1;rw[ek]at en1 hal hR ⊢
 have en2:max 0 (min m (k0:Int))=n:=by omega
 have hnk:n≤k0:=by omega
 have hnk2:(n:Int)≤(k0:Int):=by omega
 refine Sim.step hmix hΓ (n:=0) (by simp;exact⟨rfl,rfl⟩) (by simp) ?_
 refine Sim.seq (Sim.step hmix hΓ (n:=0) (by simp +decide [-minA,minA_min,minA_max,en2,hnk2];first | exact⟨rfl,rfl⟩ | exact⟨by kernel_rfl,rfl,rfl⟩) (by simp) ?_)
 obtain⟨HH,eH⟩:∃HH:Nat→AHeap,HH=fun i=>.cells true [.map 1,.map 2,.sl 3 0 k0 2 false,.int .i64 f.last]::.map (entsA (druns f.d (f.acts.take i)))::.map (entsA f.now)::.cells true R::(X++junkD (fun i=>i+4) 0 (f.acts.take i)):=⟨_,rfl⟩
 refine Sim.mono (Q:=fun e F' H'=>e=.normal∧LessF ([.ptr 0 0]++qbZ 44 .top) F'∧H'=HH n) ?_ ?_
 · refine Sim.block (Sim.loopS (fun i:Nat=>i≤n)
     (fun i=>[.ptr 0 0,.int .i64 m]++qbZ 18 .top++[.sl 3 0 n 2 false,.int .i64 n,.int .i64 i]++qbZ 22 .top)
     HH (fun i=>n-i) 0 (by simp) (by simp) ⟨by simp,by rw[eH];simp[druns,junkD]⟩ fun i hi=>?_)
   by_cases hlt:i<n;rotate_left
   · have:i=n:=by omega
     subst this;have hH:=congrFun eH i;rw[hH]
     refine Sim.exec hmix hΓ (n:=0) (by simp;exact⟨rfl,rfl,rfl⟩) (by simp) ?_
     dsimp only;rw[if_pos rfl]
     exact⟨by trivial,by simp,hH.symm▸rfl⟩
   have hik:i<f.acts.length:=by omega
   obtain⟨x,hx⟩:∃x,f.acts[i]=x:=⟨_,rfl⟩;obtain⟨kk,hkk⟩:∃kk,nbD (f.acts.take i)=kk:=⟨_,rfl⟩
   obtain⟨J,hJe⟩:∃J,junkD (fun i=>i+4) 0 (f.acts.take i)=J:=⟨_,rfl⟩
   have hJ:J.length=i:=by rw[←hJe,junkD_length,qjZ];omega
   have hj:=junkD_snoc (fun i=>i+4) f.acts 0 i hik
   have g1:=gR i hik;have gXi:=gX i hik;have e1:=druns_take f.d f.acts i hik;rw[hx]at hj g1 gXi e1;rw[hkk]at hj g1 gXi;rw[hJe,s8Z]at hj;obtain⟨cur,hcur⟩:∃cur,druns f.d (f.acts.take i)=cur:=⟨_,rfl⟩;rw[hcur]at e1
   have hN:∀c:ABlk,(X++(J++[c]))[q0+i]?=some c:=fun c=>by
     rw[←qeZ,show q0+i=(X++J).length by rw[qdZ,hX,hJ],q5Z (qnZ _)];simp
   have k1:i*2+2≤k0*2:=by omega
   have hltI:(i:Int)<n:=by omega
   have y1:IntKind.i64.wrap ((i:Int)+1)=i+1:=wr_i64 (by omega) (by omega)
   have hH:=congrFun eH i;have hH1:=congrFun eH (i+1)
   try dsimp only at hH hH1
   rw[hcur,hJe]at hH;rw[hH];rw[hj,e1]at hH1
   refine Sim.step hmix hΓ (n:=0) (by simp[hltI];exact⟨rfl,rfl⟩) (by simp) ?_
   refine Sim.step hmix hΓ (n:=0) (by simp;exact⟨rfl,rfl⟩) (by simp) ?_
   refine Sim.seq (Sim.block ?_)
   cases x with
   | cre k v =>
     simp only[DAct.fn]at g1
     have p0:∀c,(X++(J++[c]))[kk]?=some (.obj false [.cells true [.int .i64 v]]):=fun c=>by
       have h:=gXi 0 (by simp[DAct.nb])
       rw[Nat.add_zero]at h;rw[q4Z (q1Z.1 h).1];exact h
     have p1:∀c,(X++(J++[c]))[kk+1]?=some (.obj false [.cells true [.str k]]):=fun c=>by
       have h:=gXi 1 (by simp[DAct.nb])
       rw[q4Z (q1Z.1 h).1];exact h
     refine Sim.step hmix hΓ (n:=0) (by simp +decide [hlt,hR,k1,g1,hX,hJ];exact⟨rfl,rfl⟩) (by simp) ?_
     refine Sim.draw hmix (by simp) ?_
     refine SimR.many hΓ 6 (by simp[stageOps];rfl) (by omega) (by kernel_rfl) (by simp +decide [hX,hJ];first | exact⟨rfl,rfl⟩ | exact⟨by kernel_rfl,rfl,rfl⟩) ?_
     refine SimR.one hΓ _ rfl (by kernel_rfl) (by simp +decide [-mapSetA,svInl,doInl,Tryz.f163,set_at1,p0,p1];exact⟨rfl,rfl⟩) ?_
     refine SimR.done rfl ?_;dsimp only
     refine Sim.exec hmix hΓ (n:=0) (by simp[y1];exact⟨rfl,rfl,rfl⟩) (by simp) ?_
     exact⟨i+1,by omega,⟨by simp,by rw[hH1];simp[DAct.run,DAct.fn]⟩,by omega⟩
   | ren a b v =>
     simp only[DAct.fn]at g1
     have p0:∀c,(X++(J++[c]))[kk]?=some (.obj false [.cells true [.str a]]):=fun c=>by
       have h:=gXi 0 (by simp[DAct.nb])
       rw[Nat.add_zero]at h;rw[q4Z (q1Z.1 h).1];exact h
     have p1:∀c,(X++(J++[c]))[kk+1]?=some (.obj false [.cells true [.int .i64 v]]):=fun c=>by
       have h:=gXi 1 (by simp[DAct.nb])
       rw[q4Z (q1Z.1 h).1];exact h
     have p2:∀c,(X++(J++[c]))[kk+2]?=some (.obj false [.cells true [.str b]]):=fun c=>by
       have h:=gXi 2 (by simp[DAct.nb])
       rw[q4Z (q1Z.1 h).1];exact h
     refine Sim.step hmix hΓ (n:=0) (by simp +decide [hlt,hR,k1,g1,hX,hJ];exact⟨rfl,rfl⟩) (by simp) ?_
     refine Sim.draw hmix (by simp) ?_
     refine SimR.many hΓ 6 (by simp[stageOps];rfl) (by omega) (by kernel_rfl) (by simp +decide [hX,hJ];first | exact⟨rfl,rfl⟩ | exact⟨by kernel_rfl,rfl,rfl⟩) ?_
     refine SimR.one hΓ _ rfl (by kernel_rfl) (by simp +decide [-mapSetA,svInl,doInl,Tryz.f246,set_at1,del_at1,p0,p1,p2];exact⟨rfl,rfl⟩) ?_
     refine SimR.done rfl ?_;dsimp only
     refine Sim.exec hmix hΓ (n:=0) (by simp[y1];exact⟨rfl,rfl,rfl⟩) (by simp) ?_
     exact⟨i+1,by omega,⟨by simp,by rw[hH1];simp[DAct.run,DAct.fn]⟩,by omega⟩
   | rem k =>
     simp only[DAct.fn]at g1
     have p0:∀c,(X++(J++[c]))[kk]?=some (.obj false [.cells true [.str k]]):=fun c=>by
       have h:=gXi 0 (by simp[DAct.nb])
       rw[Nat.add_zero]at h;rw[q4Z (q1Z.1 h).1];exact h
     refine Sim.step hmix hΓ (n:=0) (by simp +decide [hlt,hR,k1,g1,hX,hJ];exact⟨rfl,rfl⟩) (by simp) ?_
     refine Sim.draw hmix (by simp) ?_
     refine SimR.many hΓ 6 (by simp[stageOps];rfl) (by omega) (by kernel_rfl) (by simp +decide [hX,hJ];first | exact⟨rfl,rfl⟩ | exact⟨by kernel_rfl,rfl,rfl⟩) ?_
     refine SimR.one hΓ _ rfl (by kernel_rfl) (by simp +decide [-mapSetA,svInl,doInl,Tryz.f245,del_at1,p0];exact⟨rfl,rfl⟩) ?_
     refine SimR.done rfl ?_;dsimp only
     refine Sim.exec hmix hΓ (n:=0) (by simp[y1];exact⟨rfl,rfl,rfl⟩) (by simp) ?_
     exact⟨i+1,by omega,⟨by simp,by rw[hH1];simp[DAct.run,DAct.fn]⟩,by omega⟩
 rintro e F' H' hlen ⟨rfl,hF,rfl⟩;dsimp only;refine Sim.less hF ?_
 obtain⟨J,hJe⟩:∃J,junkD (fun i=>i+4) 0 (f.acts.take n)=J:=⟨_,rfl⟩
 have hJ:J.length=n:=by rw[←hJe,junkD_length,qjZ];omega
 obtain⟨cur,hcur⟩:∃cur,druns f.d (f.acts.take n)=cur:=⟨_,rfl⟩
 have hsv:f.survive m=⟨cur,[],f.last⟩:=by unfold FD.survive;rw[en,hcur]
 have hH:=congrFun eH n
 try dsimp only at hH
 rw[hcur,hJe]at hH;rw[hsv,hH]
 refine Sim.after (Sim.exec hmix hΓ (n:=0) (by simp +decide [svInl,mcloneS,hX,hJ];exact⟨rfl,rfl,rfl⟩) (by simp) ?_)
 refine Aft.closeFD (⟨cur,[],f.last⟩:FD) 0 1 (q0+n+4) (q0+n+5) [] (fun i=>i) (x:=.nils) (o:=true) ?_ rfl rfl ?_ (fun h=>absurd h ?_) rfl (fun i hi=>absurd hi (by simp[nbD])) (fun i k B h=>by simp at h) ?_ (by simp) ?_
 · rfl
 · rw[show q0+n+4=((X++J).length)+1+1+1+1 by rw[qdZ,hX,hJ]]
   simp only[r9Z];rw[←qeZ,q5Z (qnZ _)];simp[FD.now,druns]
 · simp;omega
 · simp <;> omega
 refine Aft.weak (Fn:=qbZ 45 .top) (Hn:=[.obj true (⟨cur,[],f.last⟩:FD).blks]) (Weak.mk' [0] (by decide) (by decide) (AWs_tops _ _ _ rfl) (AWg_closed (b:=0) (by simp) _ _ rfl fun i c x h1 h2=>?_)) (by simp) (Aft.done (by simp) ?_)
 · match i,h1,h2 with
   | 0,h1,h2=>cases h1;cases h2;exact .inl ⟨rfl,rfl⟩
 exact⟨.inl rfl,_,by simp[Tryz.f101] <;> rfl,Weak.mk' [0] (by decide) (by decide) (by simp) (by simp[AWb])⟩
def nmInl:List FuncId:=[170]
theorem nmΓ_ok:GOk Pz (runG Pz (gams [(169,keysS),(168,sortedS)]) 0 nmInl 2):=gok_run hmix (goks_cons keys_sound (goks_cons sorted_sound goks_nil)) 0 nmInl 2
theorem strsOf_ents:∀l:NM,strsOf ((entsA l).map (·.1))=some (NM.keys l)
 | []=>rfl
 | e::l=>by
   have:=strsOf_ents l;simp only[entsA,NM.keys,s1Z,strsOf]at this ⊢
   rw[this];rfl
theorem names_ct(f:FD)(hok:f.small):Ct Pz 102 [.ptr 0 0] [.obj true f.blks] (.sl 1 0 f.names.length 1 false) [.obj true f.blks,.cells true (f.names.map .str)]:=by
 have hΓ:=nmΓ_ok;obtain⟨hsh,hnl⟩:=FD.ok_now hok;refine ct_of_sim Tryz.func102 rfl ?_;simp only[Tryz.ntmps102,q7Z,q8Z,Nat.reduceAdd,Nat.reduceSub,qbZ,q9Z,qaZ]
 refine Sim.aft (Aft.open (b:=0) rfl (by simp) (Aft.done (by simp[openH]) ?_))
 rw[open_fd];simp only[q7Z,q8Z,Nat.reduceAdd,s9Z,q9Z,qaZ];obtain⟨X,eX⟩:∃X,boxesD f.acts=X:=⟨_,rfl⟩;obtain⟨q,eq⟩:∃q,X.length=q:=⟨_,rfl⟩;rw[eX];obtain⟨ks,hks⟩:∃ks,f.names=ks:=⟨_,rfl⟩;obtain⟨n,hn⟩:∃n,ks.length=n:=⟨_,rfl⟩
 have hkl:(NM.keys f.now).length=n:=by rw[←hn,←hks];unfold FD.names;rw[(sortU_perm _).length_eq]
 have hnow:f.now.length=n:=by rw[←hkl];simp[NM.keys]
 have hn6:n≤1000000:=by omega
 have hstr:=strsOf_ents f.now
 have hall:((NM.keys f.now).all fun k=>decide (k.length≤1000000))=true:=by
   rw[s5Z];intro k hk;have:=hsh k hk;simp;omega
 have hallP:∀x,x∈NM.keys f.now→x.length≤1000000:=fun k hk=>by have:=hsh k hk;omega
 have hallT:(∀x,x∈NM.keys f.now→x.length≤1000000)=True:=eq_true hallP;have hsort:sortU (NM.keys f.now)=ks:=hks;rw[hks,hn]
 refine Sim.step hmix hΓ (n:=0) (by simp[eq];exact⟨rfl,rfl⟩) (by simp) ?_
 refine Sim.step hmix hΓ (n:=0) (by simp;exact⟨rfl,rfl⟩) (by simp) ?_
 have fks:∀rn:List Nat,AWs rn (ks.map AV.str) (ks.map AV.str):=fun rn=>(AWs_free (frees_map ks AV.str fun _=>rfl)).2 trivial
 obtain⟨Fn,hFn⟩:∃Fn:List AV,Fn=[.top,.top,.ptr 1 0,.sl 2 0 n 1 false]++qbZ 17 .top:=⟨_,rfl⟩;obtain⟨Hn,hHn⟩:∃Hn:AHeap,Hn=[.obj true f.blks,.cells true [.nils],.cells true (ks.map .str)]:=⟨_,rfl⟩
 refine Sim.seq (Sim.mono (Q:=fun e F' H'=>e=.normal∧F'=Fn∧H'=Hn) (Sim.after ?_) ?_)
 · by_cases h0:n=0
   · subst h0
     have hk0:ks=[]:=List.length_eq_zero_iff.1 hn;have hkn:NM.keys f.now=[]:=List.length_eq_zero_iff.1 hkl;rw[hkn]at hstr
     refine Sim.exec hmix hΓ (n:=0) (by simp +decide [eq,nmInl,keysS,sortedS,hstr];exact⟨rfl,rfl,rfl⟩) (by simp) ?_
     refine Aft.closeFS f 0 1 rfl rfl rfl rfl (fun i B hB=>?_) (by decide) (by simp) ?_
     · rw[show 1+3+i=i+1+1+1+1 by omega]
       simp only[r9Z];rw[eX]at hB;rw[q4Z (q1Z.1 hB).1];exact hB
     refine Aft.weak (Fn:=[.top,.top,.ptr 1 0,.nils]++qbZ 17 .top) (Hn:=[.obj true f.blks,.cells true [.nils]]) ?_ (by simp) (Aft.weak (Fn:=Fn) (Hn:=Hn) ?_ (by simp) (Aft.done (by simp[hHn]) ⟨rfl,rfl,rfl⟩))
     · refine Weak.mk' [0,q+4] (by simp) (by simp) (by simp) (AWg_closed (b:=0) (by simp) _ _ rfl fun i c x h1 h2=>?_)
       match i,h1,h2 with
       | 0,h1,h2=>cases h1;cases h2;exact .inl ⟨rfl,rfl⟩
       | 1,h1,h2 =>
         cases h1;cases h2
         refine .inr ⟨⟨by omega,by simp⟩,?_⟩
         rw[show q+4=(X.length+0)+1+1+1+1 by omega]
         simp[AWb]
     · rw[hFn,hHn]
       exact Weak.mk' [0,1,100] (by decide) (by decide) (by simp) (by simp[AWb])
   · have h0':¬(NM.keys f.now).length=0:=by omega
     have hkn:¬NM.keys f.now=[]:=fun e=>h0' (by rw[e];rfl)
     refine Sim.exec hmix hΓ (n:=0) (by simp +decide [eq,nmInl,keysS,sortedS,hstr,hkn,hkl,hn6,hallT,hsort];exact⟨rfl,rfl,rfl⟩) (by simp) ?_
     refine Aft.closeFS f 0 1 rfl rfl rfl rfl (fun i B hB=>?_) (by decide) (by simp) ?_
     · rw[show 1+3+i=i+1+1+1+1 by omega]
       simp only[r9Z];rw[eX]at hB;rw[q4Z (q1Z.1 hB).1];exact hB
     refine Aft.weak (Fn:=Fn) (Hn:=Hn) ?_ (by simp) (Aft.done (by simp[hHn]) ⟨rfl,rfl,rfl⟩)
     rw[hFn,hHn]
     refine Weak.mk' [0,q+4,q+6] (by simp) (by simp) (by simp) (AWg_closed (b:=0) (by simp) _ _ rfl fun i c x h1 h2=>?_)
     match i,h1,h2 with
     | 0,h1,h2=>cases h1;cases h2;exact .inl ⟨rfl,rfl⟩
     | 1,h1,h2 =>
       cases h1;cases h2
       refine .inr ⟨⟨by omega,by simp⟩,?_⟩
       rw[show q+4=(X.length+0)+1+1+1+1 by omega]
       simp[AWb]
     | 2,h1,h2 =>
       cases h1;cases h2
       refine .inr ⟨⟨by omega,by simp⟩,?_⟩
       rw[show q+6=(X.length+2)+1+1+1+1 by omega]
       simp[AWb]
 rintro e F' H' hlen ⟨rfl,rfl,rfl⟩;dsimp only
 subst hFn;subst hHn
 clear hlen;simp only[q9Z,qaZ,qbZ]
 refine Sim.seq (Sim.step hmix hΓ (n:=0) (by simp[nmInl,Tryz.f170];exact⟨rfl,rfl⟩) (by simp) ?_)
 refine Sim.block ?_
 refine Sim.rangeFuncN hmix (fun rc=>[.obj true f.blks,.cells true [.sl 5 0 n 1 false],.cells true (ks.map .str),.cells true [.sl 2 0 n 1 false],rc,.cells true (ks.map .str)]) .ready none (.tuple []) (gf:=236) (cap:=[.ptr 3 0]) (by simp) (enter_of Tryz.func236 rfl (by decide)) (by decide) (by simp) (by simp) (by simp) rfl (by simp) ?_ ?_
 · generalize hrc:ABlk.loop _ _ _ LoopState.ready none _=rc
   refine ct_of_sim Tryz.func236 rfl ?_;simp only[Tryz.ntmps236,q7Z,q8Z,Nat.reduceAdd,Nat.reduceSub,qbZ,q9Z,qaZ]
   refine Sim.step hmix goks_nil (n:=0) (by simp;exact⟨rfl,rfl⟩) (by simp) ?_
   refine Sim.block (Sim.loopW (fun i:Nat=>i≤n)
     (fun i=>[.yld 4,.ptr 3 0,.top,.top,.top,.sl 2 0 n 1 false,.int .i64 n,.int .i64 i]++qbZ 8 .top)
     (fun i=>[.obj true f.blks,.cells true [.sl 5 0 i 1 false],.cells true (ks.map .str),.cells true [.sl 2 0 n 1 false],rc,.cells true ((ks.take i).map .str)]) (fun i=>n-i) 0 (by simp) (by simp) ?_ fun i hi=>?_)
   · subst hrc
     exact Weak.mk' [0,1,2,3,4,100] (by decide) (by decide) (by simp) (by simp[AWb])
   · subst hrc
     have hΓ2:=gok_run (P:=Pz) hmix goks_nil 0 [] 1;by_cases hlt:i<n
     · have hltI:(i:Int)<n:=by omega
       have hlk:i<ks.length:=by omega
       obtain⟨x,hx1⟩:∃x,ks[i]=x:=⟨_,rfl⟩
       have hg:∀h,ks[i]'h=x:=fun h=>hx1
       obtain⟨acc,hacc⟩:∃acc,ks.take i=acc:=⟨_,rfl⟩
       have hal:acc.length=i:=by rw[←hacc,qjZ];omega
       have hnx:ks.take (i+1)=acc++[x]:=by rw[List.take_add_one,q3Z hlk,hx1,hacc];rfl
       have htk:List.take i (acc.map AV.str)=acc.map AV.str:=q6Z (by simp;omega)
       have b1:(i+1)*16≤140737488355328:=by omega
       have b2:i+1≤9223372036854775807:=by omega
       have y1:IntKind.i64.wrap ((i:Int)+1)=i+1:=wr_i64 (by omega) (by omega)
       rw[hacc]
       refine Sim.exec hmix hΓ2 (n:=0) (by simp +decide [hlt,hltI,hn,hg,hal,htk,b1,b2,y1];exact⟨rfl,rfl,rfl⟩) (by simp) ?_
       exact⟨i+1,by omega,by rw[hnx];exact Weak.mk' [0,1,2,3,4,7] (by decide) (by decide) (by simp) (by simp[AWb]),by omega⟩
     · have hin:i=n:=by omega
       subst hin
       rw[q6Z (by omega)]
       refine Sim.exec hmix hΓ2 (n:=0) (by simp;exact⟨rfl,rfl,rfl⟩) (by simp) ?_
       dsimp only;rw[if_pos rfl]
       exact⟨.inl rfl,_,by simp[Tryz.f236] <;> rfl,Weak.mk' [0,1,2,3,4,5] (by decide) (by decide) (by simp) (by simp[AWb])⟩
 · dsimp only
   refine Sim.exec hmix hΓ (n:=0) (by simp;exact⟨rfl,rfl,rfl⟩) (by simp) ?_
   exact⟨.inr rfl,_,by simp[Tryz.f102] <;> rfl,Weak.mk' [0,5] (by decide) (by decide) (by simp) (by simp[AWb])⟩
end
section
open Go Go.Lib
attribute [-simp] drawOk_eq adraw qrun acode aops
noncomputable section
open Classical
def fcreS:Summ:=objS fdOf FD.blks fun f xs _=>match xs with
 | [.str k]=>if f.small∧k.length≤9223372036854775807 then some ((f.create k).1,.tuple [.int .i64 (f.create k).2.1,.int .i64 (f.create k).2.2]) else none
 | _=>none
theorem fcre_sound:Sound Pz 95 fcreS:=by
 refine sound_obj (enter_of Tryz.func95 rfl (by decide)) (fun _ _=>fdOf_eq) fun f xs H s' v b hg hb=>?_
 split at hg;rotate_left
 · cases hg
 split at hg <;> cases hg
 rename_i hs;exact ct_obj1 (create_ct f _ hs.1 hs.2) rfl rfl hb
def fremS:Summ:=objS fdOf FD.blks fun f xs _=>match xs with
 | [.str a]=>if f.small then some ((f.remove a).1,.int .i64 (f.remove a).2) else none
 | _=>none
theorem frem_sound:Sound Pz 183 fremS:=by
 refine sound_obj (enter_of Tryz.func183 rfl (by decide)) (fun _ _=>fdOf_eq) fun f xs H s' v b hg hb=>?_
 split at hg;rotate_left
 · cases hg
 split at hg <;> cases hg
 rename_i hs;exact ct_obj1 (remove_ct f _ hs) rfl rfl hb
def ffindS:Summ:=objS fdOf FD.blks fun f xs _=>match xs with
 | [.str a]=>some (f,.tuple [.int .i64 (f.find a).1,.bool (f.find a).2])
 | _=>none
theorem ffind_sound:Sound Pz 103 ffindS:=by
 refine sound_obj (enter_of Tryz.func103 rfl (by decide)) (fun _ _=>fdOf_eq) fun f xs H s' v b hg hb=>?_
 split at hg <;> cases hg
 exact ct_obj1 (find_ct f _) rfl rfl hb
def fpendS:Summ:=objS fdOf FD.blks fun f xs _=>match xs with
 | []=>some (f,.int .i64 f.acts.length)
 | _=>none
theorem fpend_sound:Sound Pz 164 fpendS:=by
 refine sound_obj (enter_of Tryz.func164 rfl (by decide)) (fun _ _=>fdOf_eq) fun f xs H s' v b hg hb=>?_
 split at hg <;> cases hg
 exact ct_obj1 (pending_ct f) rfl rfl hb
def fsurvS:Summ:=objS fdOf FD.blks fun f xs _=>match xs with
 | [.int .i64 m]=>if f.acts.length≤1000000 then some (f.survive m,.tuple []) else none
 | _=>none
theorem fsurv_sound:Sound Pz 101 fsurvS:=by
 refine sound_obj (enter_of Tryz.func101 rfl (by decide)) (fun _ _=>fdOf_eq) fun f xs H s' v b hg hb=>?_
 split at hg;rotate_left
 · cases hg
 split at hg <;> cases hg
 rename_i hs;exact ct_obj1 (survive_ct f _ hs) rfl rfl hb
def fnamesS:Summ:=fun args H=>match args with
 | [.ptr b 0]=>match H[b]? with
   | some (.obj true sub)=>match fdOf sub with
     | some f=>if f.small then some (.sl H.length 0 f.names.length 1 false,H++[.cells true (f.names.map .str)],[]) else none
     | none=>none
   | _=>none
 | _=>none
theorem fnames_sound:Sound Pz 102 fnamesS:=by
 refine ⟨enter_of Tryz.func102 rfl (by decide),fun args H v H' W hs=>?_,fun args H v H' W hs=>?_⟩ <;> (unfold fnamesS at hs;split at hs <;> try cases hs) <;> (split at hs <;> try cases hs) <;> (rename_i b _ sub hb;split at hs <;> try cases hs) <;> (rename_i f hf;split at hs <;> cases hs;rename_i hk)
 · have e:=fdOf_eq hf
   subst e;have hbl:b<H.length:=(q1Z.1 hb).1
   have fs:∀g,reAs g (f.names.map AV.str)=f.names.map AV.str:=fun g=>reAs_flat g _ (by simp[flatsA,flatA])
   have:=ct_frame (H:=H) (args:=[.ptr b 0]) (names_ct f hk) [b] (by simp) ⟨⟨rfl,rfl⟩,trivial⟩ ⟨by rw[q2Z,hb];exact⟨rfl,rfl⟩,hbl,trivial⟩ rfl
   obtain⟨h1,h2⟩:=q1Z.1 hb
   have hset:H.set b (.obj true f.blks)=H:=by rw[←h2,List.set_getElem_self]
   simpa[setOwn,ABlk.own,reB,reA,nameG,hset,fs] using this
 · exact⟨by simp,fun c hc _=>by rw[q4Z hc]⟩
def fnew0S:Summ:=fun args H=>match args with
 | []=>some (.ptr H.length 0,H++[.obj true FD.new.blks],[])
 | _=>none
theorem fnew0_sound:Sound Pz 94 fnew0S:=by
 refine ⟨enter_of Tryz.func94 rfl (by decide),fun args H v H' W hs=>?_,fun args H v H' W hs=>?_⟩ <;> (unfold fnew0S at hs;split at hs <;> cases hs)
 · have:=ct_frame (H:=H) (args:=[]) new_ct [] (by simp) trivial trivial rfl
   simpa[setOwn,ABlk.own,reB,reA,nameG] using this
 · exact⟨by simp,fun c hc _=>by rw[q4Z hc]⟩
def syΓ:Gam:=gams [(164,fpendS),(101,fsurvS)]
theorem syΓ_ok:GOk Pz syΓ:=goks_cons fpend_sound (goks_cons fsurv_sound goks_nil)
theorem sync_ct(f:FD)(hal:f.acts.length≤1000000):Ct Pz 97 [.ptr 0 0] [.obj true f.blks] (.tuple []) [.obj true (f.survive f.acts.length).blks]:=by
 refine ct_of_sim Tryz.func97 rfl ?_;simp only[Tryz.ntmps97,q7Z,q8Z,Nat.reduceAdd,Nat.reduceSub,qbZ,q9Z,qaZ]
 refine Sim.exec hmix syΓ_ok (n:=0) (by simp[syΓ,fpendS,fsurvS,hal];exact⟨rfl,rfl,rfl⟩) (by simp) ?_
 exact⟨.inl rfl,_,by simp[Tryz.f97] <;> rfl,Weak.mk' [0] (by decide) (by decide) (by simp) (by simp[AWb])⟩
def fsyn0S:Summ:=objS fdOf FD.blks fun f xs _=>match xs with
 | []=>if f.acts.length≤1000000 then some (f.survive f.acts.length,.tuple []) else none
 | _=>none
theorem fsyn0_sound:Sound Pz 97 fsyn0S:=by
 refine sound_obj (enter_of Tryz.func97 rfl (by decide)) (fun _ _=>fdOf_eq) fun f xs H s' v b hg hb=>?_
 split at hg;rotate_left
 · cases hg
 split at hg <;> cases hg
 rename_i hs;exact ct_obj1 (sync_ct f hs) rfl rfl hb
end
end
section
open Go Go.Lib
noncomputable def oneAt(args:List AV)(H:AHeap)(v:AV)(H':AHeap):Summ:=open Classical in fun a h=>if a=args∧h=H then some (v,H',List.range H.length) else none
theorem oneAt_sound{P:Program}{f:FuncId}{args:List AV}{H H':AHeap}{v:AV}(he:∀cargs w,(callFunc f cargs).run P w=.ok (.enter f cargs) w)(h:Ct P f args H v H')(hl:H.length≤H'.length):Sound P f (oneAt args H v H'):=by
 refine ⟨he,fun a h1 v1 H1 W hs=>?_,fun a h1 v1 H1 W hs=>?_⟩ <;> (unfold oneAt at hs;split at hs <;> cases hs) <;> (rename_i hc;obtain⟨rfl,rfl⟩:=hc)
 · exact h
 · exact⟨hl,fun b hb hn=>absurd (List.mem_range.2 hb) hn⟩
@[simp] theorem oneAt_at(args:List AV)(H:AHeap)(v:AV)(H':AHeap):oneAt args H v H' args H=some (v,H',List.range H.length):=by
 unfold oneAt;rw[if_pos ⟨rfl,rfl⟩]
theorem ct_of_simE{P:Program}{f:FuncId}{fn:Func}{c:Code}(hf:P.funcs[f]?=some fn)(hb:fn.body=some c){args:List AV}{H H':AHeap}{v:AV}
   (h:Sim P none H.length c (args++qbZ (fn.ntmps-args.length) undefA) H fun x F1 H1=>(x=.normal∨x=.ret)∧resA P fn.results.toList F1 H1=some v∧H1=H'):Ct P f args H v H':=by
 intro j w cargs hR hargs;refine (callsIn_wide (n:=0)).1 ?_;refine callsIn_of_wp_marks hf hb trivial ?_ rfl;have hl:=hargs.length
 have hF:VRs j (args++qbZ (fn.ntmps-args.length) undefA) (cargs++Array.replicate (fn.ntmps-cargs.size) undef).toList:=by
   rw[rxZ,Array.toList_replicate,hl,rjZ]
   exact hargs.append (VRs.replicate (v:=undef) (show VR j undefA undef from ⟨#[],rfl,rfl⟩) _)
 refine wpIn_mono (h w.heap.size j w { tmps:=cargs++Array.replicate (fn.ntmps-cargs.size) undef,defers:=[] } 0 (qnZ _) hR hF (DefOk.nil _ _)) ?_;rintro e a' w' ⟨x,F',H1,j',rfl,⟨hx,hv1,rfl⟩,h3,h4,h5⟩
 refine body_end hR.glo.1.2 hx hv1 h3 h4 h5 fun cv w2 g2 hs=>?_
 exact⟨cv,j',rfl,g2,hs⟩
theorem ct_opened{P:Program}{f:FuncId}{xs:List AV}{v v':AV}{sub H' H'':AHeap}(h:Ct P f xs sub v H')(hne:1≤sub.length)(hA:Aft 1 [v] H' fun F H=>F=[v']∧H=H''):Ct P f xs [.obj true sub] v' H'':=by
 intro j w cargs hR hargs
 obtain⟨j1,hle,s1⟩:=Step.open (n:=1) hR (b:=0) rfl (by simp)
 have e:openH [.obj true sub] 0 sub=sub:=by
   have hg:∀i,openG 0 1 i=i:=fun i=>by unfold openG;split <;> omega
   cases sub with
   | nil=>simp at hne
   | cons B r =>
     unfold openH;simp only[q7Z,q8Z,List.getD_cons_zero,s9Z,List.drop_succ_cons,List.drop_zero,q9Z,qaZ,s8Z]
     rw[reB_id hg,List.map_congr_left (fun B _=>reB_id hg B)]
     simp
 rw[e]at s1;refine (h j1 w cargs s1.rel (VRs.mono hle _ _ hargs)).mono ?_;rintro e w' ⟨cv,j2,rfl,hv,s2⟩;obtain⟨F3,H3,j3,⟨rfl,rfl⟩,h3,s3⟩:=hA j2 w' [cv] s2.rel ⟨cv,[],rfl,hv,rfl⟩;obtain⟨cv',ws,e1,h4,h5⟩:=h3;cases e1;exact⟨cv,j3,rfl,h4,(s1.trans s2 hne).trans s3 (qnZ _)⟩
def fileM(g:Nat→Nat):Nat→FS→List (AV×AV)
 | _,[]=>[]
 | k,e::l=>(.int .i64 e.1,.ptr (g k) 0)::fileM g (k+1) l
def filesB(l:FS):AHeap:=l.map fun e=>.obj true e.2.blks
@[simp] theorem fileM_length(g:Nat→Nat):∀(k:Nat) (l:FS),(fileM g k l).length=l.length
 | _,[]=>rfl
 | k,e::l=>by simp[fileM,fileM_length g (k+1) l]
@[simp] theorem filesB_length(l:FS):(filesB l).length=l.length:=by simp[filesB]
theorem filesB_get{l:FS}{i:Nat}{e:Int×PF}(h:l[i]?=some e):(filesB l)[i]?=some (.obj true e.2.blks):=by simp[filesB,h]
theorem find_files(g:Nat→Nat)(n:Int):∀(k:Nat) (l:FS) (i:Nat),findA (fileM g k l) (.int .i64 n) i=some ((FS.get l n).map fun _=>(i+FS.at l n,.ptr (g (k+FS.at l n)) 0))
 | k,[],i=>by simp[fileM,findA,FS.get]
 | k,e::l,i=>by
   have ih:=find_files g n (k+1) l (i+1);by_cases h:e.1=n
   · subst h
     simp[fileM,findA,primEq,FS.get,FS.at,FS.keys]
   · have h2:(n==e.1)=false:=by simpa using (fun q=>h q.symm)
     have h3:(e.1==n)=false:=by simpa using h
     simp only[fileM,findA,primEq,h2,ih,FS.get,h,if_false,FS.at,FS.keys,s1Z];rw[List.idxOf_cons,h3]
     cases FS.get l n <;> simp
     exact⟨by omega,by congr 1;omega⟩
theorem fileM_app(g:Nat→Nat):∀(k:Nat) (l:FS) (e:Int×PF),fileM g k (l++[e])=fileM g k l++[(.int .i64 e.1,.ptr (g (k+l.length)) 0)]
 | k,[],e=>rfl
 | k,x::l,e=>by
   simp only[q9Z,fileM,fileM_app g (k+1) l e,q7Z]
   rw[show k+1+l.length=k+(l.length+1) by omega]
theorem fileM_upd(g:Nat→Nat)(n:Int)(h:PF→PF):∀(k:Nat) (l:FS),fileM g k (FS.upd l n h)=fileM g k l
 | k,[]=>rfl
 | k,e::l=>by
   unfold FS.upd;split
   · rename_i hn;simp[fileM,hn]
   · simp only[fileM,fileM_upd g n h (k+1) l]
theorem filesB_upd{l:FS}{n:Int}{f:PF}(h:PF→PF)(hf:FS.get l n=some f):filesB (FS.upd l n h)=(filesB l).set (FS.at l n) (.obj true (h f).blks):=by
 rw[FS.upd_set h hf];simp[filesB,List.map_set]
theorem fileM_congr{g g':Nat→Nat}:∀(k:Nat) (l:FS),(∀i,k≤i→i<k+l.length→g i=g' i)→fileM g k l=fileM g' k l
 | _,[],_=>rfl
 | k,e::l,h=>by
   simp only[fileM]
   rw[h k (qnZ _) (by simp),fileM_congr (k+1) l fun i h1 h2=>h i (by omega) (by simp;omega)]
theorem AWs_fileM1(rn:List Nat)(g g':Nat→Nat):∀(k:Nat) (l:FS),AWs rn ((fileM g k l).map (·.1)) ((fileM g' k l).map (·.1))
 | _,[]=>trivial
 | k,_::l=>⟨⟨rfl,rfl⟩,AWs_fileM1 rn g g' (k+1) l⟩
theorem AWs_fileM2(rn:List Nat)(g g':Nat→Nat):∀(k:Nat) (l:FS),(∀i,k≤i→i<k+l.length→rn[g i]?=some (g' i))→AWs rn ((fileM g k l).map (·.2)) ((fileM g' k l).map (·.2))
 | _,[],_=>trivial
 | k,_::l,h=>⟨⟨h k (qnZ _) (by simp),rfl⟩,AWs_fileM2 rn g g' (k+1) l fun i h1 h2=>h i (by omega) (by simp;omega)⟩
theorem AWb_fileM{rn:List Nat}{g g':Nat→Nat}{l:FS}(h:∀i,i<l.length→rn[g i]?=some (g' i)):AWb rn (.map (fileM g 0 l)) (.map (fileM g' 0 l)) :=
 ⟨AWs_fileM1 rn g g' 0 l,AWs_fileM2 rn g g' 0 l fun i _ h2=>h i (by omega)⟩
theorem reB_fileM{h g:Nat→Nat}:∀(k:Nat) (l:FS),(fileM g k l).map (fun e=>(reA h e.1,reA h e.2))=fileM (fun i=>h (g i)) k l
 | _,[]=>rfl
 | k,_::l=>by simp only[fileM,s1Z,reA,reB_fileM (k+1) l]
def DS.cell0(d:DS)(fo m:Nat):ABlk:=.cells true [.ptr fo 0,.map m,.int .i64 d.quota,.int .i64 d.steps,.int .i64 d.armed,.bool d.down]
def DS.blks(d:DS):AHeap:=d.cell0 1 2::.obj true d.fd.blks::.map (fileM (fun i=>i+3) 0 d.fs)::filesB d.fs
theorem DS.blks_length(d:DS):d.blks.length=d.fs.length+3:=by simp[DS.blks]
theorem DS.blks_id(d:DS)(rn:List Nat)(hr:∀i,i<d.blks.length→rn[i]?=some i):∀B∈d.blks,AWb rn B B:=by
 rw[DS.blks_length]at hr;intro B hB;simp only[DS.blks,DS.cell0,qwZ]at hB;rcases hB with rfl | rfl | rfl | hB
 · exact⟨id,⟨hr 1 (by omega),rfl⟩,hr 2 (by omega),⟨rfl,rfl⟩,⟨rfl,rfl⟩,⟨rfl,rfl⟩,rfl,trivial⟩
 · exact⟨rfl,rfl⟩
 · exact AWb_fileM fun i hi=>hr (i+3) (by omega)
 · obtain⟨e,_,rfl⟩:=reZ.1 hB
   exact⟨rfl,rfl⟩
theorem Weak.tailG{A T Tn:AHeap}{F Fn:List AV}{N:Nat}(hN:A.length=N)(hA:∀rn:List Nat,(∀i,i<N→rn[i]?=some i)→∀B∈A,AWb rn B B)(ts:List Nat)(hts:ts.Nodup)
   (hF:AWs (List.range N++ts.map (N+·)) Fn F) (hT:AWg (List.range N++ts.map (N+·)) (A++T) Tn (ts.map (N+·))):Weak N F (A++T) Fn (A++Tn):=by
 have hr:∀i,i<N→(List.range N++ts.map (N+·))[i]?=some i:=fun i hi=>by
   rw[q4Z (by simpa using hi),rfZ hi]
 refine Weak.mk' (List.range N++ts.map (N+·)) ?_ ?_ hF (AWg.append ?_ hT)
 · rw[List.nodup_append]
   refine ⟨List.nodup_range,?_,fun a ha b hb=>?_⟩
   · rw[List.nodup_iff_pairwise_ne,List.pairwise_map]
     exact (List.nodup_iff_pairwise_ne.1 hts).imp fun h e=>h (by omega)
   · obtain⟨c,_,rfl⟩:=reZ.1 hb
     have:=List.mem_range.1 ha;omega
 · rw[List.take_left' (by simp)]
 · refine AWg.of _ _ (by simp[hN]) fun i x b hx hb hlt=>?_
   have hi:i<N:=by rw[←hN];exact (q1Z.1 hx).1
   have hbi:b=i:=by rw[rfZ hi]at hb;cases hb;rfl
   subst hbi
   rw[q2Z,q4Z (by omega),hx]
   exact hA _ hr x (qcZ hx)
structure DAt (H:AHeap) (d:DS) (b fo m:Nat) (g:Nat→Nat):Prop where
 c0:H[b]?=some (d.cell0 fo m)
 fold:H[fo]?=some (.obj true d.fd.blks)
 map:H[m]?=some (.map (fileM g 0 d.fs))
 file:∀(i:Nat) e,d.fs[i]?=some e→H[g i]?=some (.obj true e.2.blks)
 nd:(b::fo::m::(List.range d.fs.length).map g).Nodup
theorem DAt.awg{H:AHeap}{d:DS}{b fo m:Nat}{g:Nat→Nat}(h:DAt H d b fo m g)(rn:List Nat)(hr:∀i,i<d.fs.length+3→rn[i]?=(b::fo::m::(List.range d.fs.length).map g)[i]?) :
   AWg rn H d.blks (b::fo::m::(List.range d.fs.length).map g):=by
 refine AWg.of _ _ (by simp[DS.blks]) fun i x c hx hc hlt=>?_
 have hil:i<d.fs.length+3:=by rw[←DS.blks_length];exact (q1Z.1 hx).1
 rw[q2Z]
 match i,hx,hc with
 | 0,hx,hc =>
   cases hx;cases hc
   rw[h.c0]
   exact⟨id,⟨hr 1 (by omega),rfl⟩,hr 2 (by omega),⟨rfl,rfl⟩,⟨rfl,rfl⟩,⟨rfl,rfl⟩,rfl,trivial⟩
 | 1,hx,hc =>
   cases hx;cases hc
   rw[h.fold];exact⟨rfl,rfl⟩
 | 2,hx,hc =>
   cases hx;cases hc
   rw[h.map]
   refine AWb_fileM fun i hi=>?_
   rw[hr (i+3) (by omega)]
   simp[hi]
 | i+3,hx,hc =>
   simp only[DS.blks,r9Z]at hx hc
   have hi:i<d.fs.length:=by omega
   have he:=q3Z hi;rw[filesB_get he]at hx;cases hx;simp[hi]at hc;subst hc;rw[h.file i _ he];exact⟨rfl,rfl⟩
theorem Aft.closeDS(d:DS){T Tn:AHeap}{v v':AV}(ts:List Nat)(hts:ts.Nodup)(hlen:Tn.length=ts.length)(hF:AW (0::ts.map (d.fs.length+3+·)) v' v)
   (hT:∀(i t:Nat) x,ts[i]?=some t→Tn[i]?=some x→∃y,T[t]?=some y∧AWb (0::ts.map (d.fs.length+3+·)) x y):Aft 1 [v] (d.blks++T) fun F H=>F=[v']∧H=.obj true d.blks::Tn:=by
 have hl:=d.blks_length
 have hr:∀i,i<d.blks.length→(List.range d.blks.length)[i]?=some i:=fun i hi=>rfZ hi
 refine Aft.close (o:=true) (b:=0) (sub:=d.blks) (rs:=List.range d.blks.length) (ks:=List.range' 1 (d.fs.length+2)) (hr 0 (by omega)) List.nodup_range (by simp;omega) ?_ ?_ ⟨d.cell0 1 2,rfl,rfl⟩ ?_ (by simp;omega) ?_
 · intro c x hc h0 _ _
   have:=List.mem_range.1 hc
   rw[List.mem_range'_1];omega
 · refine AWg.of _ _ (by simp) fun i x b hx hb hlt=>?_
   have hi:i<d.blks.length:=(q1Z.1 hx).1
   rw[hr i hi]at hb;cases hb
   rw[q2Z,q4Z hi,hx];exact d.blks_id _ hr x (qcZ hx)
 · intro i y hy hd
   have hm:=qcZ hy;simp only[DS.blks,DS.cell0,qwZ]at hm;rcases hm with rfl | rfl | rfl | hm
   · rfl
   · rfl
   · rfl
   · obtain⟨e,_,rfl⟩:=reZ.1 hm
     rfl
 · refine Aft.weak (Fn:=[v']) (Hn:=.obj true d.blks::Tn) (Weak.mk' (0::ts.map (d.fs.length+3+·)) ?_ rfl ⟨hF,trivial⟩ (AWg_closed (b:=0) (by simp;omega) _ _ (by simp[hlen]) fun i c x h1 h2=>?_)) (by simp;omega) (Aft.done (by simp) ⟨rfl,rfl⟩)
   · rw[rdZ]
     refine ⟨fun h=>?_,?_⟩
     · obtain⟨a,_,h⟩:=reZ.1 h;omega
     · rw[List.nodup_iff_pairwise_ne,List.pairwise_map]
       exact (List.nodup_iff_pairwise_ne.1 hts).imp fun h e=>h (by omega)
   · cases i with
     | zero =>
       cases h1;cases h2;exact .inl ⟨rfl,rfl⟩
     | succ i =>
       simp only[r9Z,qzZ]at h1 h2;obtain⟨t,ht,rfl⟩:=qlZ.1 h1;obtain⟨y,hy,hw⟩:=hT i t x ht h2
       refine .inr ⟨⟨by omega,by rw[List.mem_range'_1];omega⟩,?_⟩
       rw[q2Z,q5Z (by omega),hl,s3Z,hy]
       exact hw
noncomputable def dsD(sub:AHeap):Option DS:=open Classical in if h:∃d:DS,sub=d.blks then some h.choose else none
theorem dsD_eq{sub:AHeap}{d:DS}(h:dsD sub=some d):sub=d.blks:=by
 unfold dsD at h;split at h
 · rename_i hx
   cases h;exact hx.choose_spec
 · cases h
theorem fileM_inj(g:Nat→Nat):∀(k:Nat) {l m:FS},fileM g k l=fileM g k m→filesB l=filesB m→l=m
 | _,[],[],_,_=>rfl
 | _,[],_::_,h,_=>by simp[fileM]at h
 | _,_::_,[],h,_=>by simp[fileM]at h
 | k,(a,x)::l,(b,y)::m,h,h'=>by
   simp only[fileM,List.cons.injEq,Prod.mk.injEq,AV.int.injEq,true_and,and_true]at h;simp only[filesB,s1Z,List.cons.injEq,ABlk.obj.injEq,true_and]at h';have h3:=congrArg fileD h'.1;rw[fileD_blks,fileD_blks]at h3;rw[h.1,Option.some.inj h3,fileM_inj g (k+1) h.2 h'.2]
theorem dblks_inj{d e:DS}(h:d.blks=e.blks):d=e:=by
 obtain⟨fd,fs,q,s,a,w⟩:=d;obtain⟨fd',fs',q',s',a',w'⟩:=e;simp only[DS.blks,DS.cell0,List.cons.injEq,ABlk.cells.injEq,ABlk.obj.injEq,ABlk.map.injEq,AV.int.injEq,AV.bool.injEq,true_and,and_true]at h;obtain⟨⟨h1,h2,h3,h4⟩,h5,h6,h7⟩:=h;rw[h1,h2,h3,h4,blks_inj h5,fileM_inj _ 0 h6 h7]
@[simp] theorem dsD_blks(d:DS):dsD d.blks=some d:=by
 unfold dsD;have h:∃e:DS,d.blks=e.blks:=⟨d,rfl⟩;rw[dif_pos h];have:=Classical.choose_spec h;exact congrArg some (dblks_inj this).symm
end
section
open Go Go.Lib
attribute [-simp] drawOk_eq adraw qrun acode aops
theorem DS.blks_head(d:DS)(T:AHeap):d.blks++T=.cells true [.ptr 1 0,.map 2,.int .i64 d.quota,.int .i64 d.steps,.int .i64 d.armed,.bool d.down]::(.obj true d.fd.blks::.map (fileM (fun i=>i+3) 0 d.fs)::(filesB d.fs++T)):=rfl
theorem step_ct(d:DS)(T:AHeap)(F:FuncId)(caps:List AV){v:AV}{H':AHeap}(he:∀cargs w,(callFunc F cargs).run Pz w=.ok (.enter F cargs) w)(hF:F≠yl)
   (hs:0≤d.steps∧d.steps≤4611686018427387903) (ha:0≤d.armed∧d.armed≤4611686018427387903) (hlen:(d.blks++T).length≤H'.length)
   (hdown:d.count.down=true→v=.int .i64 13∧H'=d.count.blks++T)
   (hup:d.count.down=false→Ct Pz F caps (d.count.blks++T) v H') :
   Ct Pz 121 [.ptr 0 0,.func F [] caps] (d.blks++T) v H':=by
 have hw:IntKind.i64.wrap (d.steps+1)=d.steps+1:=wr_i64 (by omega) (by omega)
 have hb:=DS.blks_head d T;have hb2:=DS.blks_head d.count T;rw[DS.count_fd,DS.count_fs,DS.count_quota,DS.count_steps]at hb2
 obtain⟨rest,hrest⟩:∃rest:AHeap,.obj true d.fd.blks::.map (fileM (fun i=>i+3) 0 d.fs)::(filesB d.fs++T)=rest:=⟨_,rfl⟩
 rw[hrest]at hb hb2;obtain⟨a',ea⟩:∃a',d.count.armed=a':=⟨_,rfl⟩;obtain⟨w',ew⟩:∃w',d.count.down=w':=⟨_,rfl⟩;rw[ea,ew]at hb2;rw[ew]at hdown hup;rw[hb2]at hdown hup;rw[hb]at hlen ⊢;refine ct_of_simE Tryz.func121 rfl ?_;simp only[Tryz.ntmps121,q7Z,q8Z,Nat.reduceAdd,Nat.reduceSub,qbZ,q9Z,qaZ]
 refine Sim.step hmix goks_nil (n:=0) (by simp;exact⟨rfl,rfl⟩) (by simp) ?_
 refine Sim.step hmix goks_nil (n:=0) (by simp;exact⟨rfl,rfl⟩) (by simp) ?_
 refine Sim.step hmix goks_nil (n:=0) (by simp[hw];exact⟨rfl,rfl⟩) (by simp) ?_
 refine Sim.seq (Sim.mono (Q:=fun e F' H1=>e=.normal∧LessF ([.ptr 0 0,.func F [] caps,.top,.top,.int .i64 0]++qbZ 42 .top) F'∧H1=.cells true [.ptr 1 0,.map 2,.int .i64 d.quota,.int .i64 (d.steps+1),.int .i64 a',.bool w']::rest) ?_ ?_)
 · by_cases h1:0<d.armed
   · cases h2:d.down with
     | true =>
       have e:d.count=⟨d.fd,d.fs,d.quota,d.steps+1,d.armed,d.down⟩:=by unfold DS.count;rw[if_neg (by simp[h2])]
       rw[e]at ea ew;dsimp only at ea ew;rw[h2]at ew
       subst ea;subst ew
       refine Sim.exec hmix goks_nil (n:=0) (by simp[h1];exact⟨rfl,rfl,rfl⟩) (by simp) ?_
       exact⟨rfl,by simp,rfl⟩
     | false =>
       have e:d.count=⟨d.fd,d.fs,d.quota,d.steps+1,d.armed-1,decide (d.armed-1=0)⟩:=by unfold DS.count;rw[if_pos ⟨h1,h2⟩]
       rw[e]at ea ew;dsimp only at ea ew
       have hw1:IntKind.i64.wrap (d.armed-1)=d.armed-1:=wr_i64 (by omega) (by omega)
       rw[ea]at hw1 ew
       have ew':(a'==0)=w':=by rw[←ew];by_cases h:a'=0 <;> simp[h]
       refine Sim.exec hmix goks_nil (n:=0) (by simp[h1,ea,hw1,ew'];exact⟨rfl,rfl,rfl⟩) (by simp) ?_
       exact⟨rfl,by simp,rfl⟩
   · have e:d.count=⟨d.fd,d.fs,d.quota,d.steps+1,d.armed,d.down⟩:=by unfold DS.count;rw[if_neg (by simp[h1])]
     rw[e]at ea ew;dsimp only at ea ew
     subst ea;subst ew
     refine Sim.exec hmix goks_nil (n:=0) (by simp[h1];exact⟨rfl,rfl,rfl⟩) (by simp) ?_
     exact⟨rfl,by simp,rfl⟩
 rintro e F' H1 hlen1 ⟨rfl,hF,rfl⟩;dsimp only;refine Sim.less hF ?_;clear hF hlen1;simp only[q9Z,qaZ,qbZ]
 cases w' with
 | true =>
   obtain⟨rfl,rfl⟩:=hdown rfl
   refine Sim.exec hmix goks_nil (n:=0) (by simp;exact⟨rfl,rfl,rfl⟩) (by simp) ?_
   exact⟨.inr rfl,by simp[Tryz.f121],rfl⟩
 | false =>
   have hΓ:GOk Pz (gams [(F,oneAt caps (.cells true [.ptr 1 0,.map 2,.int .i64 d.quota,.int .i64 (d.steps+1),.int .i64 a',.bool false]::rest) v H')]):=goks_cons (oneAt_sound he (hup rfl) (by simpa using hlen)) goks_nil (hg:=hF)
   refine Sim.step hmix hΓ (n:=0) (by simp;exact⟨rfl,rfl⟩) (by simp) ?_
   have hF':¬F=1000000000:=hF
   refine Sim.exec hmix hΓ (n:=0) (by simp[hF'];exact⟨rfl,rfl,rfl⟩) (by simp) ?_
   exact⟨.inr rfl,by simp[Tryz.f121],rfl⟩
def DS.heap(d:DS)(T:AHeap):AHeap:=d.cell0 1 2::.obj true d.fd.blks::.map (fileM (fun i=>i+3) 0 d.fs)::(filesB d.fs++T)
theorem DS.heap_eq(d:DS)(T:AHeap):d.heap T=d.blks++T:=rfl
theorem DS.heap_length(d:DS)(T:AHeap):(d.heap T).length=d.fs.length+T.length+3:=by simp[DS.heap]
structure Behind (X:AHeap) (n:Nat):Prop where
 len:X.length=n
 get:∀(T:AHeap) (j:Nat),(X++T)[n+j]?=T[j]?
 get0:∀(T:AHeap),(X++T)[n]?=T[0]?
 set:∀(T:AHeap) (j:Nat) v,(X++T).set (n+j) v=X++T.set j v
 set0:∀(T:AHeap) v,(X++T).set n v=X++T.set 0 v
theorem behind(fs:FS):Behind (filesB fs) fs.length:=by
 have hl:(filesB fs).length=fs.length:=filesB_length fs
 refine ⟨hl,fun T j=>?_,fun T=>?_,fun T j v=>?_,fun T v=>?_⟩
 · rw[q5Z (by omega),hl];congr 1;omega
 · rw[q5Z (by omega),hl,Nat.sub_self]
 · rw[List.set_append_right _ _ (by omega),hl];congr 2;omega
 · rw[List.set_append_right _ _ (by omega),hl,Nat.sub_self]
theorem DS.tail(d:DS){T Tn:AHeap}{F Fn:List AV}(ts:List Nat)(hts:ts.Nodup)
   (hF:AWs (List.range (d.fs.length+3)++ts.map (d.fs.length+3+·)) Fn F) (hlen:Tn.length=ts.length)
   (hT:∀(i t:Nat) x y,ts[i]?=some t→Tn[i]?=some x→T[t]?=some y→AWb (List.range (d.fs.length+3)++ts.map (d.fs.length+3+·)) x y):Weak (d.fs.length+3) F (d.heap T) Fn (d.heap Tn):=by
 have hl:=d.blks_length;rw[DS.heap_eq,DS.heap_eq]
 refine Weak.tailG hl (fun rn hr=>d.blks_id rn (by rw[hl];exact hr)) ts hts hF (AWg.of _ _ (by simp[hlen]) fun i x b hx hb hlt=>?_)
 rw[qzZ]at hb;obtain⟨t,ht,rfl⟩:=qlZ.1 hb;rw[qdZ,hl]at hlt
 have htl:t<T.length:=by omega
 rw[q2Z,q5Z (by omega),hl,s3Z,q3Z htl]
 exact hT i t x _ ht hx (q3Z htl)
theorem range_at(n:Nat)(ts:List Nat){i:Nat}(hi:i<n):(List.range n++ts)[i]?=some i:=by
 rw[q4Z (by simpa using hi),rfZ hi]
theorem range_beh0(n:Nat)(ts:List Nat):(List.range n++ts)[n]?=ts[0]?:=by
 rw[q5Z (by simp)];simp
def dnInl:List FuncId:=[34]
noncomputable def liΓ0:Gam:=gams [(102,fnamesS)]
theorem liΓ_ok:GOk Pz (runG Pz liΓ0 0 dnInl 2):=gok_run hmix (goks_cons fnames_sound goks_nil) 0 dnInl 2
theorem list_ct(d:DS)(hsm:d.fd.small):Ct Pz 36 [.ptr 0 0] (d.heap []) (.sl (d.fs.length+3) 0 d.list.length 1 false) (d.heap [.cells true (d.list.map .str)]):=by
 have hΓ:=liΓ_ok;have hlen:=d.heap_length [];obtain⟨n,hn⟩:∃n,d.fs.length=n:=⟨_,rfl⟩;have hX:=behind d.fs
 have tl:=fun {T Tn F Fn}=>DS.tail d (T:=T) (Tn:=Tn) (F:=F) (Fn:=Fn)
 rw[hn]at hlen hX tl;refine ct_of_sim Tryz.func36 rfl ?_;simp only[Tryz.ntmps36,q7Z,q8Z,Nat.reduceAdd,Nat.reduceSub,qbZ,q9Z,qaZ];rw[hlen,hn];unfold DS.heap DS.cell0;have hXl:=hX.len;obtain⟨X,eX⟩:∃X,filesB d.fs=X:=⟨_,rfl⟩;rw[eX]at hX hXl ⊢
 refine Sim.step hmix hΓ (n:=0) (by simp;exact⟨rfl,rfl⟩) (by simp[hXl]) ?_
 cases hd:d.down with
 | true =>
   have hl:d.list=[]:=by unfold DS.list;rw[hd];rfl
   rw[hl]
   refine Sim.exec hmix hΓ (n:=0) (by simp +decide [dnInl,Tryz.f34];exact⟨rfl,rfl,rfl⟩) (by simp[hXl]) ?_
   refine ⟨.inr rfl,_,by simp[Tryz.f36] <;> rfl,?_⟩
   have:=tl (T:=[]) (Tn:=[.cells true []]) (F:=[.nils]) (Fn:=[.sl (n+3) 0 0 1 false]) [100] (by decide) (by simp[AWs,AW]) rfl (fun i t x y h1 h2 h3=>by simp at h3)
   unfold DS.heap DS.cell0 at this;rw[eX,hd]at this;simpa using this
 | false =>
   have hl:d.list=d.fd.names:=by unfold DS.list;rw[hd];rfl
   rw[hl]
   refine Sim.step hmix hΓ (n:=0) (by simp +decide [dnInl,Tryz.f34];exact⟨rfl,rfl⟩) (by simp[hXl]) ?_
   refine Sim.exec hmix hΓ (n:=0) (by simp +decide [liΓ0,fnamesS,hsm,hXl];exact⟨rfl,rfl,rfl⟩) (by simp[hXl]) ?_
   refine ⟨.inr rfl,_,by simp[Tryz.f36] <;> rfl,?_⟩
   have:=tl (T:=[.cells true (d.fd.names.map .str)]) (Tn:=[.cells true (d.fd.names.map .str)]) (F:=[.sl (n+3) 0 d.fd.names.length 1 false]) (Fn:=[.sl (n+3) 0 d.fd.names.length 1 false]) [0] (by decide) (by simp[AWs,AW]) rfl (fun i t x y h1 h2 h3=>by
     match i,h1,h2 with
     | 0,h1,h2=>cases h1;cases h2;cases h3;exact⟨id,(AWs_free (frees_map d.fd.names AV.str fun _=>rfl)).2 trivial⟩)
   unfold DS.heap DS.cell0 at this;rw[eX,hd]at this;simpa using this
def flA:List (List UInt8×List UInt8)→List AV
 | []=>[]
 | e::l=>.str e.1::.str e.2::flA l
@[simp] theorem flA_length:∀l,(flA l).length=l.length*2
 | []=>rfl
 | e::l=>by simp[flA,flA_length l];omega
theorem flA_append:∀l m,flA (l++m)=flA l++flA m
 | [],m=>rfl
 | e::l,m=>by simp[flA,flA_append l m]
@[simp] theorem frees_flA:∀l,frees (flA l)=true
 | []=>rfl
 | e::l=>by simp[flA,frees_flA l]
theorem flA_get:∀(l:List (List UInt8×List UInt8)) (k:Nat) (h:k<l.length),((flA l).drop (k*2)).take 2=[.str l[k].1,.str l[k].2]
 | a::l,0,_=>by simp[flA]
 | a::l,k+1,h=>by
   have:=flA_get l k (by simpa using h)
   rw[show (k+1)*2=2+k*2 by omega]
   simp only[flA,List.getElem_cons_succ];rw[←List.drop_drop];simpa using this
def rdInlD:List FuncId:=[81]
def boxD:ABlk:=.cells true [.ptr 0 0]
def boxS(k:List UInt8):ABlk:=.cells true [.str k]
theorem DS.small_fd{d:DS}{A B:Nat}(h:d.ok A B)(hA:A≤1000000):d.fd.small:=FD.ok_mono h.fd hA
theorem heap_weak(d:DS)(T:AHeap)(v:AV)(hv:flatT v=true):Weak (d.fs.length+3) [v] (d.heap T) [v] (d.heap []) :=
 DS.tail d [] (by decide) ⟨AW_flatT _ hv,trivial⟩ rfl fun i t x y h=>by simp at h
theorem stepped(d:DS){A B:Nat}(hok:d.ok A B)(hA:A≤999999)(T T2:AHeap)(F:FuncId)(caps:List AV)(g:DS→DS×Int)(he:∀cargs w,(callFunc F cargs).run Pz w=.ok (.enter F cargs) w)(hF:F≠yl)
   (hfs:(g d.count).1.fs.length=d.fs.length) (hT:T.length≤T2.length) (hcl:d.count.down=false→Ct Pz F caps (d.count.heap T) (.int .i64 (g d.count).2) ((g d.count).1.heap T2)) :
   ∃H1,Ct Pz 121 [.ptr 0 0,.func F [] caps] (d.heap T) (.int .i64 (d.step g).2) H1∧(d.heap T).length≤H1.length∧(∃T3,H1=(d.step g).1.heap T3∧T.length≤T3.length)∧(d.step g).1.fs.length=d.fs.length ∧
     Sound Pz 121 (oneAt [.ptr 0 0,.func F [] caps] (d.heap T) (.int .i64 (d.step g).2) H1):=by
 have e:(d.step g).1.fs.length=d.fs.length:=by
   unfold DS.step;split
   · rw[DS.count_fs]
   · exact hfs
 obtain⟨T3,hT3⟩:∃T3,T3=(if d.count.down=true then T else T2):=⟨_,rfl⟩
 have hl3:T.length≤T3.length:=by rw[hT3];split <;> omega
 have hl:(d.heap T).length≤((d.step g).1.heap T3).length:=by rw[DS.heap_length,DS.heap_length,e];omega
 have hct:Ct Pz 121 [.ptr 0 0,.func F [] caps] (d.heap T) (.int .i64 (d.step g).2) ((d.step g).1.heap T3):=by
   refine step_ct d T F caps he hF ⟨hok.s0,by have:=hok.s1;omega⟩ ⟨hok.a0,hok.a1⟩ hl (fun hd=>?_) fun hd=>?_
   · unfold DS.step
     rw[if_pos hd,hT3,if_pos hd];exact⟨rfl,rfl⟩
   · have:=hcl hd
     unfold DS.step
     rw[if_neg (by rw[hd];decide),hT3,if_neg (by rw[hd];decide)]
     exact this
 exact⟨_,hct,hl,⟨T3,rfl,hl3⟩,e,oneAt_sound (enter_of Tryz.func121 rfl (by decide)) hct hl⟩
theorem heap_weak'{d e:DS}(T:AHeap)(v:AV)(hv:flatT v=true)(h:e.fs.length=d.fs.length):Weak (d.fs.length+3) [v] (e.heap T) [v] (e.heap []):=by
 rw[←h];exact heap_weak e T v hv
def DS.fdTo(d:DS)(f:FD):DS:=⟨f,d.fs,d.quota,d.steps,d.armed,d.down⟩
noncomputable def syΓ1:Gam:=gams [(97,fsyn0S)]
theorem syΓ1_ok:GOk Pz syΓ1:=goks_cons fsyn0_sound goks_nil
theorem syncDir1_ct(d:DS)(hk:d.fd.acts.length≤1000000):Ct Pz 165 [.ptr (d.fs.length+3) 0] (d.heap [boxD]) (.int .i64 0) ((d.fdTo (d.fd.survive d.fd.acts.length)).heap [boxD]):=by
 have hΓ:=syΓ1_ok;obtain⟨n,hn⟩:∃n,d.fs.length=n:=⟨_,rfl⟩;have hX:=behind d.fs;rw[hn]at hX;refine ct_of_simE Tryz.func165 rfl ?_;simp only[Tryz.ntmps165,q7Z,q8Z,Nat.reduceAdd,Nat.reduceSub,qbZ,q9Z,qaZ];have hXl:=hX.len;have hXg:=hX.get;have hXg0:=hX.get0;unfold DS.heap DS.cell0 boxD DS.fdTo;rw[hn];obtain⟨X,eX⟩:∃X,filesB d.fs=X:=⟨_,rfl⟩;rw[eX]at hXl hXg hXg0 ⊢
 refine Sim.step hmix hΓ (n:=0) (by simp;exact⟨rfl,rfl⟩) (by simp[hXl]) ?_
 refine Sim.step hmix hΓ (n:=0) (by simp[syΓ1,fsyn0S,hk,hXl];exact⟨rfl,rfl⟩) (by simp[hXl]) ?_
 refine Sim.exec hmix hΓ (n:=0) (by simp;exact⟨rfl,rfl,rfl⟩) (by simp[hXl]) ?_
 exact⟨.inr rfl,by simp[Tryz.f165],rfl⟩
theorem syncDir_ctD(d:DS){A B:Nat}(hok:d.ok A B)(hA:A≤999999):Ct Pz 99 [.ptr 0 0] (d.heap []) (.int .i64 d.syncDir.2) (d.syncDir.1.heap []):=by
 have hc:=DS.ok_count hok
 obtain⟨H1,hct,hl,⟨T3,hT3,_⟩,hfs,hsound⟩:=stepped d hok hA [boxD] [boxD] 165 [.ptr (d.fs.length+3) 0] (fun d=>(⟨d.fd.survive d.fd.acts.length,d.fs,d.quota,d.steps,d.armed,d.down⟩,0)) (enter_of Tryz.func165 rfl (by decide)) (by decide)
   (by dsimp only;rw[DS.count_fs]) (qnZ _) fun _=>by
     have:=syncDir1_ct d.count (by have:=hc.fd.len;omega)
     rw[DS.count_fs]at this;exact this
 have hΓ:=goks_cons hsound goks_nil;have hfin:=heap_weak' (d:=d) T3 (.int .i64 d.syncDir.2) rfl hfs;rw[←hT3]at hfin;unfold DS.syncDir at hfin ⊢;refine ct_of_sim Tryz.func99 rfl ?_;simp only[Tryz.ntmps99,q7Z,q8Z,Nat.reduceAdd,Nat.reduceSub,qbZ,q9Z,qaZ];rw[DS.heap_length];simp only[q8Z,Nat.add_zero];clear hct hT3;generalize DS.step d _=R at hΓ hfin ⊢;generalize R.1.heap []=HF at hfin ⊢;generalize R.2=e at hΓ hfin ⊢;have hX:=behind d.fs;obtain⟨n,hn⟩:∃n,d.fs.length=n:=⟨_,rfl⟩;rw[hn]at hX hΓ hfin ⊢;have hXl:=hX.len;have hXg:=hX.get;have hXg0:=hX.get0;unfold DS.heap DS.cell0 boxD at hΓ;unfold DS.heap DS.cell0;obtain⟨X,eX⟩:∃X,filesB d.fs=X:=⟨_,rfl⟩;rw[eX]at hXl hXg hXg0 hΓ ⊢
 refine Sim.step hmix hΓ (n:=0) (by simp;exact⟨rfl,rfl⟩) (by simp[hXl]) ?_
 refine Sim.exec hmix hΓ (n:=0) (by simp[hXl];exact⟨rfl,rfl,rfl⟩) (by simp[hXl]) ?_
 exact⟨.inr rfl,_,by simp[Tryz.f99] <;> rfl,hfin⟩
noncomputable def rmΓ1:Gam:=gams [(183,fremS)]
theorem rmΓ1_ok:GOk Pz rmΓ1:=goks_cons frem_sound goks_nil
theorem remove1_ct(d:DS)(hsm:d.fd.small)(k:List UInt8):Ct Pz 182 [.ptr (d.fs.length+3) 0,.ptr (d.fs.length+4) 0] (d.heap [boxD,boxS k]) (.int .i64 (d.fd.remove k).2) ((d.fdTo (d.fd.remove k).1).heap [boxD,boxS k]):=by
 have hΓ:=rmΓ1_ok;obtain⟨n,hn⟩:∃n,d.fs.length=n:=⟨_,rfl⟩;have hX:=behind d.fs;rw[hn]at hX;refine ct_of_simE Tryz.func182 rfl ?_;simp only[Tryz.ntmps182,q7Z,q8Z,Nat.reduceAdd,Nat.reduceSub,qbZ,q9Z,qaZ];have hXl:=hX.len;have hXg:=hX.get;have hXg0:=hX.get0;unfold DS.heap DS.cell0 boxD boxS DS.fdTo;rw[hn];obtain⟨X,eX⟩:∃X,filesB d.fs=X:=⟨_,rfl⟩;rw[eX]at hXl hXg hXg0 ⊢
 refine Sim.step hmix hΓ (n:=0) (by simp;exact⟨rfl,rfl⟩) (by simp[hXl]) ?_
 refine Sim.seq (Sim.draw hmix (by simp) ?_)
 refine SimR.many hΓ 5 (by simp[stageOps];rfl) (by omega) (by kernel_rfl) (by simp +decide [hXl];first | exact⟨rfl,rfl⟩ | exact⟨by kernel_rfl,rfl,rfl⟩) ?_
 refine SimR.one hΓ _ rfl (by kernel_rfl) (by simp +decide [rmΓ1,fremS,hsm];exact⟨rfl,rfl⟩) ?_
 refine SimR.many hΓ 7 (by simp[stageOps,blankOp];rfl) (by omega) (by kernel_rfl) (by simp +decide;first | exact⟨rfl,rfl⟩ | exact⟨by kernel_rfl,rfl,rfl⟩) ?_
 refine SimR.done rfl ?_;dsimp only
 refine Sim.exec hmix hΓ (n:=0) (by simp;exact⟨rfl,rfl,rfl⟩) (by simp[hXl]) ?_
 exact⟨.inr rfl,by simp[Tryz.f182],rfl⟩
theorem remove_ctD(d:DS){A B:Nat}(hok:d.ok A B)(hA:A≤999999)(k:List UInt8):Ct Pz 115 [.ptr 0 0,.str k] (d.heap []) (.int .i64 (d.remove k).2) ((d.remove k).1.heap []):=by
 have hc:=DS.ok_count hok
 obtain⟨H1,hct,hl,⟨T3,hT3,_⟩,hfs,hsound⟩:=stepped d hok hA [boxD,boxS k] [boxD,boxS k] 182 [.ptr (d.fs.length+3) 0,.ptr (d.fs.length+4) 0] (fun d=>(⟨(d.fd.remove k).1,d.fs,d.quota,d.steps,d.armed,d.down⟩,(d.fd.remove k).2)) (enter_of Tryz.func182 rfl (by decide)) (by decide)
   (by dsimp only;rw[DS.count_fs]) (qnZ _) fun _=>by
     have:=remove1_ct d.count (DS.small_fd hc (by omega)) k
     rw[DS.count_fs]at this;exact this
 have hΓ:=goks_cons hsound goks_nil;have hfin:=heap_weak' (d:=d) T3 (.int .i64 (d.remove k).2) rfl hfs;rw[←hT3]at hfin;unfold DS.remove at hfin ⊢;refine ct_of_sim Tryz.func115 rfl ?_;simp only[Tryz.ntmps115,q7Z,q8Z,Nat.reduceAdd,Nat.reduceSub,qbZ,q9Z,qaZ];rw[DS.heap_length];simp only[q8Z,Nat.add_zero];clear hct hT3;generalize DS.step d _=R at hΓ hfin ⊢;generalize R.1.heap []=HF at hfin ⊢;generalize R.2=e at hΓ hfin ⊢;have hX:=behind d.fs;obtain⟨n,hn⟩:∃n,d.fs.length=n:=⟨_,rfl⟩;rw[hn]at hX hΓ hfin ⊢;have hXl:=hX.len;have hXg:=hX.get;have hXg0:=hX.get0;unfold DS.heap DS.cell0 boxD boxS at hΓ;unfold DS.heap DS.cell0;obtain⟨X,eX⟩:∃X,filesB d.fs=X:=⟨_,rfl⟩;rw[eX]at hXl hXg hXg0 hΓ ⊢
 refine Sim.step hmix hΓ (n:=0) (by simp;exact⟨rfl,rfl⟩) (by simp[hXl]) ?_
 refine Sim.exec hmix hΓ (n:=0) (by simp[hXl];exact⟨rfl,rfl,rfl⟩) (by simp[hXl]) ?_
 exact⟨.inr rfl,_,by simp[Tryz.f115] <;> rfl,hfin⟩
theorem behindX(X:AHeap){n:Nat}(hl:X.length=n):Behind X n:=by
 refine ⟨hl,fun T j=>?_,fun T=>?_,fun T j v=>?_,fun T v=>?_⟩
 · rw[q5Z (by omega),hl];congr 1;omega
 · rw[q5Z (by omega),hl,Nat.sub_self]
 · rw[List.set_append_right _ _ (by omega),hl];congr 2;omega
 · rw[List.set_append_right _ _ (by omega),hl,Nat.sub_self]
theorem heap_file{d:DS}{v:Int}{f:PF}(hf:FS.get d.fs v=some f)(T:AHeap):(filesB d.fs++T)[FS.at d.fs v]?=some (.obj true f.blks):=by
 rw[q4Z (by rw[filesB_length];exact FS.at_lt hf)]
 exact filesB_get (FS.at_get hf)
theorem AWh.ofs{rn:List Nat}{H:AHeap}:∀(xs:AHeap) (bs:List Nat),xs.length=bs.length→(∀(i:Nat) x b,xs[i]?=some x→bs[i]?=some b→∃y,H[b]?=some y∧AWb rn x y)→AWh rn H xs bs
 | [],[],_,_=>trivial
 | [],_::_,h,_=>by simp at h
 | _::_,[],h,_=>by simp at h
 | x::xs,b::bs,h,hall=>by
   obtain⟨y,h1,h2⟩:=hall 0 x b rfl rfl
   refine ⟨?_,(q1Z.1 h1).1,AWh.ofs xs bs (by simpa using h) fun i y c hy hc=>hall (i+1) y c (by simpa using hy) (by simpa using hc)⟩
   rw[q2Z,h1];exact h2
theorem ct_openedT{P:Program}{f:FuncId}{xs:List AV}{v v':AV}{sub T HO H' H'':AHeap}(hO:openH (.obj true sub::T) 0 sub=HO)(h:Ct P f xs HO v H')(hA:Aft (T.length+1) [v] H' fun F H=>F=[v']∧H=H'')(hl:T.length+1≤HO.length):Ct P f xs (.obj true sub::T) v' H'':=by
 intro j w cargs hR hargs
 obtain⟨j1,hle,s1⟩:=Step.open (n:=T.length+1) hR (b:=0) rfl (by simp)
 rw[hO]at s1;refine (h j1 w cargs s1.rel (VRs.mono hle _ _ hargs)).mono ?_;rintro e w' ⟨cv,j2,rfl,hv,s2⟩;obtain⟨F3,H3,j3,⟨rfl,rfl⟩,h3,s3⟩:=hA j2 w' [cv] s2.rel ⟨cv,[],rfl,hv,rfl⟩;obtain⟨cv',ws,e1,h4,h5⟩:=h3;cases e1;exact⟨cv,j3,rfl,h4,(s1.trans s2 hl).trans s3 (qnZ _)⟩
theorem Aft.closeAt{n0:Nat}{F:List AV}{H:AHeap}{K:List AV→AHeap→Prop}{d:DS}{b fo m:Nat}{g:Nat→Nat}(h:DAt H d b fo m g)(hn:n0≤H.length)
   (k:Aft n0 F (closeH H b (fo::m::(List.range d.fs.length).map g) true d.blks) K):Aft n0 F H K:=by
 refine Aft.close (o:=true) (b:=b) (sub:=d.blks) (rs:=b::fo::m::(List.range d.fs.length).map g) (ks:=fo::m::(List.range d.fs.length).map g) rfl h.nd (q1Z.1 h.c0).1 ?_ (h.awg _ fun _ _=>rfl) ⟨d.cell0 1 2,rfl,rfl⟩ ?_ hn k
 · intro c x hc hcb _ _
   rcases qwZ.1 hc with e | hc
   · exact absurd e hcb
   · exact hc
 · intro i y hy hd
   have hm:=qcZ hy;simp only[DS.blks,DS.cell0,qwZ]at hm;rcases hm with rfl | rfl | rfl | hm
   · rfl
   · rfl
   · rfl
   · obtain⟨e,_,rfl⟩:=reZ.1 hm
     rfl
def emR(n:Nat):List Nat:=0::2::3::((List.range n).map (·+4)++[1])
theorem emR_length(n:Nat):(emR n).length=n+4:=by simp[emR]
theorem emR_get(n i:Nat):(emR n)[i]?=if i=0 then some 0 else if i<n+3 then some (i+1) else if i=n+3 then some 1 else none:=by
 unfold emR
 match i with
 | 0=>rfl
 | 1=>simp
 | 2=>simp
 | i+3 =>
   simp only[r9Z]
   rw[if_neg (by omega)]
   by_cases h:i<n
   · rw[if_pos (by omega),q4Z (by simpa using h),qzZ,rfZ h];rfl
   · rw[if_neg (by omega),q5Z (by simp;omega)]
     simp only[r7Z,List.length_range];by_cases h2:i=n
     · subst h2;simp
     · rw[if_neg (by omega),s4Z (by simp;omega)]
theorem emR_nodup(n:Nat):(emR n).Nodup:=by
 have h0:((List.range n).map (·+4)++[1]).Nodup:=by
   rw[List.nodup_append]
   refine ⟨?_,by simp,fun a ha b hb=>?_⟩
   · rw[List.nodup_iff_pairwise_ne,List.pairwise_map]
     exact (List.nodup_iff_pairwise_ne.1 (List.nodup_range (n:=n))).imp fun h e=>h (by omega)
   · obtain⟨c,_,rfl⟩:=reZ.1 ha
     simp at hb;omega
 have hm:∀x,x∈(List.range n).map (·+4)++[1]→x=1∨4≤x:=by
   intro x hx;rcases qxZ.1 hx with h | h
   · obtain⟨c,_,rfl⟩:=reZ.1 h;exact .inr (by omega)
   · exact .inl (by simpa using h)
 unfold emR
 refine rdZ.2 ⟨fun h=>?_,rdZ.2 ⟨fun h=>?_,rdZ.2 ⟨fun h=>?_,h0⟩⟩⟩
 · rcases qwZ.1 h with h | h
   · omega
   rcases qwZ.1 h with h | h
   · omega
   · have:=hm _ h;omega
 · rcases qwZ.1 h with h | h
   · omega
   · have:=hm _ h;omega
 · have:=hm _ h;omega
def ggR(n i:Nat):Nat:=if i=0 then 0 else if i<n+3 then i+1 else if i=n+3 then 1 else i
theorem ggR_name(n i:Nat):nameG (emR n) (n+4) i=ggR n i:=by
 unfold nameG ggR;rw[emR_get,emR_length]
 repeat' split
 all_goals first | rfl | (simp_all;done) | (simp_all;omega)
theorem ggR_inj(n i j:Nat)(h:ggR n i=ggR n j):i=j:=by
 unfold ggR at h
 repeat' split at h
 all_goals omega
theorem row_open(d:DS)(l:List AV):openH [.obj true d.blks,.cells false l] 0 d.blks=d.cell0 2 3::.cells false l::.obj true d.fd.blks::.map (fileM (fun i=>i+4) 0 d.fs)::filesB d.fs:=by
 unfold openH DS.blks;simp only[q7Z,q8Z,List.getD_cons_zero,s9Z,List.drop_succ_cons,List.drop_zero,s1Z,q9Z,qaZ,s8Z,Nat.reduceAdd]
 have e1:reB (openG 0 2) (d.cell0 1 2)=d.cell0 2 3:=by simp[DS.cell0,reB,reAs,reA,openG]
 have e2:reB (openG 0 2) (.map (fileM (fun i=>i+3) 0 d.fs))=.map (fileM (fun i=>i+4) 0 d.fs):=by
   simp only[reB]
   rw[reB_fileM,fileM_congr 0 d.fs fun i _ _=>?_]
   simp only[openG]
   rw[if_neg (by omega)];omega
 have e3:(filesB d.fs).map (reB (openG 0 2))=filesB d.fs:=by
   simp[filesB,reB]
 rw[e1,e2,e3];rfl
theorem ct_opened2{P:Program}{f:FuncId}{ys ys':List AV}{v:AV}{d d':DS}{l:List AV}{H1:AHeap}{m:Nat}{g:Nat→Nat}(h:Ct P f (.ptr 0 0::ys) (d.heap [.cells false l]) v H1)(hv:flatT v=true)(hys:AWs (emR d.fs.length) ys ys')(hl:flatsA l=true)
   (hat:DAt H1 d' 0 1 m g) (hne:d.fs.length+3∉0::1::m::(List.range d'.fs.length).map g) (hown:allOwn (H1.drop (d.fs.length+4))=true) (hlen:d.fs.length+4≤H1.length) :
   Ct P f (.ptr 0 0::ys') [.obj true d.blks,.cells false l] v [.obj true d'.blks,.cells false l]:=by
 have h0l:(d.heap [.cells false l]).length=d.fs.length+4:=by rw[DS.heap_length];simp
 obtain⟨n,hn⟩:∃n,d.fs.length=n:=⟨_,rfl⟩;rw[hn]at hys hne hown hlen h0l
 obtain⟨HO,hHO⟩:∃HO:AHeap,HO=d.cell0 2 3::.cells false l::.obj true d.fd.blks::.map (fileM (fun i=>i+4) 0 d.fs)::filesB d.fs:=⟨_,rfl⟩
 have hHOl:HO.length=n+4:=by rw[hHO];simp[hn]
 have hg0:∀i,i<n+4→∃x y,(d.heap [.cells false l])[i]?=some x∧HO[ggR n i]?=some y∧AWb (emR n) x y∧(i≠n+3→x.own=true):=by
   intro i hi;unfold ggR
   match i,hi with
   | 0,_ =>
     refine ⟨d.cell0 1 2,d.cell0 2 3,rfl,by rw[hHO];rfl,⟨id,⟨by rw[emR_get];simp,rfl⟩,by simp[AW,emR_get],⟨rfl,rfl⟩,⟨rfl,rfl⟩,⟨rfl,rfl⟩,rfl,trivial⟩,fun _=>rfl⟩
   | 1,_ =>
     rw[if_neg (by omega),if_pos (by omega),hHO]
     exact⟨_,_,rfl,rfl,⟨rfl,rfl⟩,fun _=>rfl⟩
   | 2,_ =>
     rw[if_neg (by omega),if_pos (by omega),hHO]
     refine ⟨_,_,rfl,rfl,AWb_fileM fun i hi=>?_,fun _=>rfl⟩
     rw[emR_get,if_neg (by omega),if_pos (by omega)]
   | i+3,hi =>
     rw[if_neg (by omega)]
     by_cases h1:i<n
     · rw[if_pos (by omega),hHO]
       have he:=q3Z (l:=d.fs) (i:=i) (by omega)
       refine ⟨.obj true d.fs[i].2.blks,.obj true d.fs[i].2.blks,?_,?_,⟨rfl,rfl⟩,fun _=>rfl⟩
       · unfold DS.heap
         simp only[r9Z]
         rw[q4Z (by rw[filesB_length];omega)]
         exact filesB_get he
       · simp only[r9Z]
         exact filesB_get he
     · have:i=n:=by omega
       subst this
       rw[if_neg (by omega),if_pos rfl,hHO]
       refine ⟨.cells false l,.cells false l,?_,rfl,⟨id,AWs_flat l hl⟩,fun h=>absurd rfl h⟩
       unfold DS.heap;simp only[r9Z]
       rw[q5Z (by rw[filesB_length];omega),filesB_length,hn,Nat.sub_self]
       rfl
 have hem:∀i c,(emR n)[i]?=some c→i<n+4∧c=ggR n i:=by
   intro i c hc
   have hi:i<n+4:=by rw[←emR_length];exact (q1Z.1 hc).1
   refine ⟨hi,?_⟩;rw[emR_get]at hc;unfold ggR
   repeat' split at hc
   all_goals simp_all
 have hfr:=ct_frame (H:=HO) (args:=.ptr 0 0::ys') h (emR n) (emR_nodup n) ⟨⟨by rw[emR_get];simp,rfl⟩,hys⟩ (AWh.ofs _ _ (by rw[emR_length,h0l]) fun i x c hx hc=>by
   obtain⟨hi,rfl⟩:=hem i c hc;obtain⟨x',y,h1,h2,h3,_⟩:=hg0 i hi
   rw[h1]at hx;cases hx
   exact⟨y,h2,h3⟩) (by rw[h0l];exact hown)
 rw[reA_flatT _ hv,h0l,hHOl]at hfr;have hG:nameG (emR n) (n+4)=ggR n:=funext (ggR_name n);rw[hG]at hfr;obtain⟨H2,hH2⟩:∃H2,setOwn (ggR n) HO (emR n) (d.heap [.cells false l]) H1++(H1.drop (n+4)).map (reB (ggR n))=H2:=⟨_,rfl⟩
 have hso:(setOwn (ggR n) HO (emR n) (d.heap [.cells false l]) H1).length=n+4:=by rw[setOwn_length,hHOl]
 rw[hH2]at hfr
 have hemL:∀x∈emR n,x<HO.length:=by
   intro x hx;obtain⟨i,hi⟩:=List.getElem?_of_mem hx;obtain⟨h1,rfl⟩:=hem i x hi;obtain⟨_,y,_,h2,_⟩:=hg0 i h1;exact (q1Z.1 h2).1
 have hpt:∀c B,c≠n+3→H1[c]?=some B→H2[ggR n c]?=some (reB (ggR n) B):=by
   intro c B hc hB;rw[←hH2];by_cases h1:c<n+4
   · obtain⟨x,y,g1,g2,g3,g4⟩:=hg0 c h1
     have hemc:(emR n)[c]?=some (ggR n c):=by
       obtain⟨e,he⟩:∃e,(emR n)[c]?=some e:=⟨_,q3Z (by rw[emR_length];exact h1)⟩
       rw[he,(hem c e he).2]
     rw[q4Z (by rw[hso,←hHOl];exact (q1Z.1 g2).1)]
     exact setOwn_at _ HO (emR n) _ H1 c _ x B (emR_nodup n) hemL hemc g1 (g4 hc) hB
   · have e:ggR n c=c:=by unfold ggR;rw[if_neg (by omega),if_neg (by omega),if_neg (by omega)]
     rw[e,q5Z (by rw[hso];omega),hso,qzZ,r5Z,show n+4+(c-(n+4))=c by omega,hB]
     rfl
 have hrow:H2[1]?=some (.cells false l):=by
   rw[←hH2,q4Z (by rw[hso];omega),setOwn_other _ HO _ _ _ 1 fun i B h1 h2=>?_]
   · rw[hHO];rfl
   · obtain⟨hi,e⟩:=hem i 1 h1
     have:i=n+3:=by
       unfold ggR at e
       repeat' split at e
       all_goals omega
     subst this;unfold DS.heap at h2;simp only[r9Z]at h2
     rw[q5Z (by rw[filesB_length];omega),filesB_length,hn,Nat.sub_self]at h2
     cases h2;exact Bool.false_ne_true
 simp only[qwZ,not_or]at hne
 have hat2:DAt H2 d' (ggR n 0) (ggR n 1) (ggR n m) (fun i=>ggR n (g i)):=by
   refine ⟨?_,?_,?_,fun i e he=>?_,?_⟩
   · have:=hpt 0 _ (by omega) hat.c0
     rw[this];simp[DS.cell0,reB,reAs,reA]
   · exact hpt 1 _ (by omega) hat.fold
   · have:=hpt m _ (fun e=>hne.2.2.1 e.symm) hat.map
     rw[this];simp only[reB];rw[reB_fileM]
   · refine hpt (g i) _ (fun e'=>hne.2.2.2 ?_) (hat.file i e he)
     exact reZ.2 ⟨i,List.mem_range.2 (q1Z.1 he).1,e'⟩
   · have:=hat.nd
     have h2:((0::1::m::(List.range d'.fs.length).map g).map (ggR n)).Nodup:=by
       rw[List.nodup_iff_pairwise_ne,List.pairwise_map]
       exact (List.nodup_iff_pairwise_ne.1 this).imp fun h e=>h (ggR_inj n _ _ e)
     simpa[Function.comp_def] using h2
 refine ct_openedT (row_open d l) (by rw[←hHO];exact hfr) ?_ (by simp)
 have h2l:n+4≤H2.length:=by rw[←hH2,qdZ,hso];omega
 refine Aft.closeAt hat2 (by simp;omega) ?_
 refine Aft.weak (Fn:=[v]) (Hn:=[.obj true d'.blks,.cells false l]) (Weak.mk' [0,1] (by decide) rfl ⟨AW_flatT _ hv,trivial⟩ (AWg_closed (b:=ggR n 0) (by rw[show ggR n 0=0 from rfl];omega) _ _ rfl fun i c x h1 h2=>?_)) (by simp;omega) (Aft.done (by simp) ⟨rfl,rfl⟩)
 match i,h1,h2 with
 | 0,h1,h2=>cases h1;cases h2;exact .inl ⟨rfl,rfl⟩
 | 1,h1,h2 =>
   cases h1;cases h2
   have g1:ggR n (n+3)=1:=by unfold ggR;rw[if_neg (by omega),if_neg (by omega),if_pos rfl]
   refine .inr ⟨⟨by rw[show ggR n 0=0 from rfl];omega,?_⟩,?_⟩
   · simp only[qwZ,not_or]
     refine ⟨fun e=>?_,fun e=>?_,fun e=>?_⟩
     · rw[←g1]at e;have:=ggR_inj n _ _ e;omega
     · rw[←g1]at e;exact hne.2.2.1 (ggR_inj n _ _ e)
     · obtain⟨i,hi,e⟩:=reZ.1 e
       rw[←g1]at e;exact hne.2.2.2 (reZ.2 ⟨i,hi,ggR_inj n _ _ e⟩)
   · rw[q2Z,hrow]
     exact⟨id,AWs_flat l hl⟩
theorem arm_ctD(d:DS)(m:Int):Ct Pz 33 [.ptr 0 0,.int .i64 m] (d.heap []) (.tuple []) ((d.arm m).heap []):=by
 refine ct_of_simE Tryz.func33 rfl ?_;simp only[Tryz.ntmps33,q7Z,q8Z,Nat.reduceAdd,Nat.reduceSub,qbZ,q9Z,qaZ];unfold DS.heap DS.cell0 DS.arm;obtain⟨k,hk⟩:∃k,max 0 m=k:=⟨_,rfl⟩;rw[hk]
 refine Sim.step hmix goks_nil (n:=0) (by simp;exact⟨rfl,rfl⟩) (by simp) ?_
 refine Sim.exec hmix goks_nil (n:=0) (by simp +decide [-minA,minA_max,hk];exact⟨rfl,rfl,rfl⟩) (by simp) ?_
 exact⟨.inl rfl,by simp[Tryz.f33],by simp⟩
theorem down_ctD(d:DS):Ct Pz 34 [.ptr 0 0] (d.heap []) (.bool d.down) (d.heap []):=by
 refine ct_of_simE Tryz.func34 rfl ?_;simp only[Tryz.ntmps34,q7Z,q8Z,Nat.reduceAdd,Nat.reduceSub,qbZ,q9Z,qaZ];unfold DS.heap DS.cell0
 refine Sim.step hmix goks_nil (n:=0) (by simp;exact⟨rfl,rfl⟩) (by simp) ?_
 refine Sim.exec hmix goks_nil (n:=0) (by simp +decide;exact⟨rfl,rfl,rfl⟩) (by simp) ?_
 exact⟨.inr rfl,by simp[Tryz.f34],by simp⟩
theorem ct_objD{f:FuncId}{d d':DS}{xs:List AV}{v:AV}(h:Ct Pz f (.ptr 0 0::xs) (d.heap []) v (d'.heap []))(hv:flatT v=true):Ct Pz f (.ptr 0 0::xs) [.obj true d.blks] v [.obj true d'.blks]:=by
 rw[DS.heap_eq,DS.heap_eq,r2Z]at h
 refine ct_opened h (by simp[DS.blks]) ?_
 have:=Aft.closeDS d' (T:=[]) (Tn:=[]) (v:=v) (v':=v) [] (by decide) rfl (AW_flatT _ hv) (fun i t x h=>by simp at h)
 exact this
def numA(l:List Int):List AV:=l.map (.int .u16)
@[simp] theorem numA_length(l:List Int):(numA l).length=l.length:=by simp[numA]
@[simp] theorem frees_numA:∀l,frees (numA l)=true
 | []=>rfl
 | _::l=>by have:=frees_numA l;simpa[numA,free] using this
def nxt(l:List Int)(o n:Nat):Int:=((l.drop o).take n).headD 0
def nxO(o n:Nat):Nat:=o+min 1 n
def nxN(n:Nat):Nat:=n-1
def nxOk(l:List Int)(o n:Nat):Prop:=o+n≤l.length∧l.length≤9223372036854775807∧∀x∈l,0≤x∧x≤65535
theorem next_ct(H:AHeap)(c b o n:Nat)(w cl:Bool)(l:List Int)(hok:nxOk l o n)(hc:H[c]?=some (.cells true [.sl b o n 1 cl]))(hb:H[b]?=some (.cells w (numA l))) :
   Ct Pz 166 [.ptr c 0] H (.int .i64 (nxt l o n)) (H.set c (.cells true [.sl b (nxO o n) (nxN n) 1 cl])):=by
 obtain⟨ho,hl,hr⟩:=hok;have hcl:c<H.length:=(q1Z.1 hc).1;refine ct_of_simE Tryz.func166 rfl ?_;simp only[Tryz.ntmps166,q7Z,q8Z,Nat.reduceAdd,Nat.reduceSub,qbZ,q9Z,qaZ]
 refine Sim.step hmix goks_nil (n:=0) (by simp;exact⟨rfl,rfl⟩) (by simp) ?_
 by_cases h:0<n
 · have hol:o<l.length:=by omega
   obtain⟨x,hx⟩:∃x,l[o]=x:=⟨_,rfl⟩
   have hxr:=hr x (by rw[←hx];exact r3Z hol)
   have hd:nxt l o n=x:=by
     unfold nxt
     obtain⟨m,rfl⟩:∃m,n=m+1:=⟨n-1,by omega⟩
     rw[List.drop_eq_getElem_cons hol,hx];rfl
   have hat:∀q,(numA l)[o]'q=.int .u16 x:=fun q=>by simp[numA,hx]
   have hlt:o<(numA l).length:=by simpa using hol
   have hw:IntKind.i64.wrap x=x:=wr_i64 (by omega) (by omega)
   have p1:(0:Int)<(n:Int):=by omega
   have p3:1≤n:=by omega
   have p4:(1:Int)≤(n:Int):=by omega
   have e1:nxO o n=o+1:=by unfold nxO;omega
   have e2:nxN n=n-1:=rfl;rw[hd,e1,e2]
   refine Sim.seq (Sim.step hmix goks_nil (n:=0) (by simp[hc,h];exact⟨rfl,rfl⟩) (by simp) (Sim.cond (t:=true) (by simp) ?_))
   rw[if_pos rfl]
   refine Sim.draw hmix (by simp) ?_
   refine SimR.many goks_nil 7 (by simp[stageOps];rfl) (by omega) (by kernel_rfl) (by simp +decide [hc,hb,hat,hol,h,hw,p4];first | exact⟨rfl,rfl⟩ | exact⟨by kernel_rfl,rfl,rfl⟩) ?_
   refine SimR.one goks_nil _ rfl (by kernel_rfl) (by simp +decide [hc];exact⟨rfl,rfl⟩) ?_
   refine SimR.done rfl ?_;dsimp only
   refine Sim.exec hmix goks_nil (n:=0) (by simp;exact⟨rfl,rfl,rfl⟩) (by simp) ?_
   exact⟨.inr rfl,by simp[Tryz.f166],rfl⟩
 · have e:n=0:=by omega
   subst e
   have hd:nxt l o 0=0:=by unfold nxt;rw[List.take_zero];rfl
   have hset:H.set c (.cells true [.sl b (nxO o 0) (nxN 0) 1 cl])=H:=by
     show H.set c (.cells true [.sl b o 0 1 cl])=H;obtain⟨h1,h2⟩:=q1Z.1 hc;rw[←h2,List.set_getElem_self]
   rw[hd,hset]
   refine Sim.step hmix goks_nil (n:=0) (by simp[hc];exact⟨rfl,rfl⟩) (by simp) ?_
   refine Sim.exec hmix goks_nil (n:=0) (by simp;exact⟨rfl,rfl,rfl⟩) (by simp) ?_
   exact⟨.inr rfl,by simp[Tryz.f166],rfl⟩
def numsOf:List AV→Option (List Int)
 | []=>some []
 | .int .u16 n::l=>(numsOf l).map (n::·)
 | _=>none
theorem numsOf_at:∀l:List Int,numsOf (numA l)=some l
 | []=>rfl
 | x::l=>by
   have:=numsOf_at l;simp only[numA,s1Z,numsOf]at this ⊢
   rw[this];rfl
theorem numsOf_eq:∀{a:List AV} {l:List Int},numsOf a=some l→a=numA l
 | [],_,h=>by cases h;rfl
 | x::a,l,h=>by
   unfold numsOf at h;split at h
   · rename_i h0;cases h0
   · rename_i n a' e
     cases e;obtain⟨l',h1,rfl⟩:=qlZ.1 h
     rw[numsOf_eq h1];rfl
   · cases h
noncomputable def nextS:Summ:=open Classical in fun args H=>match args with
 | [.ptr c 0]=>match H[c]? with
   | some (.cells true [.sl b o n 1 cl])=>match H[b]? with
     | some (.cells _ a)=>match numsOf a with
       | some l=>if nxOk l o n then some (.int .i64 (nxt l o n),H.set c (.cells true [.sl b (nxO o n) (nxN n) 1 cl]),[c]) else none
       | none=>none
     | _=>none
   | _=>none
 | _=>none
theorem next_sound:Sound Pz 166 nextS:=by
 refine ⟨enter_of Tryz.func166 rfl (by decide),fun args H v H' W hs=>?_,fun args H v H' W hs=>?_⟩ <;> (unfold nextS at hs;split at hs <;> try cases hs) <;> (split at hs <;> try cases hs) <;> (rename_i c _ b o n cl hc;split at hs <;> try cases hs) <;> (rename_i w a hb;split at hs <;> try cases hs) <;> (rename_i l hl;split at hs <;> cases hs;rename_i hk)
 · have e:=numsOf_eq hl
   subst e;exact next_ct H c b o n w cl l hk hc hb
 · refine ⟨by simp,fun d hd hn=>?_⟩
   simp only[r1Z]at hn;rw[qfZ (Ne.symm hn)]
def thM(g:Int→Nat)(th:List Int):List (AV×AV):=th.map fun n=>(.int .i64 n,.ptr (g n) 0)
theorem find_th(g:Int→Nat)(v:Int):∀(th:List Int) (i:Nat),findA (thM g th) (.int .i64 v) i=some (if v∈th then some (i+th.idxOf v,.ptr (g v) 0) else none)
 | [],i=>by simp[thM,findA]
 | a::th,i=>by
   have ih:=find_th g v th (i+1);simp only[thM]at ih;by_cases h:a=v
   · subst h
     simp[thM,findA,primEq]
   · have h2:(v==a)=false:=by simpa using (fun q=>h q.symm)
     have h3:(a==v)=false:=by simpa using h
     simp only[thM,s1Z,findA,primEq,h2,ih,qwZ,Ne.symm h,false_or];rw[List.idxOf_cons,h3]
     by_cases hm:v∈th <;> simp[hm]
     omega
theorem th_set(g:Int→Nat){v:Int}{th:List Int}(h:v∈th):(thM g th).set (th.idxOf v) (.int .i64 v,.ptr (g v) 0)=thM g th:=by
 have hl:th.idxOf v<th.length:=List.idxOf_lt_length_of_mem h
 have e:(thM g th)[th.idxOf v]'(by simpa[thM] using hl)=(.int .i64 v,.ptr (g v) 0):=by
   simp[thM,List.getElem_idxOf hl]
 rw[←e,List.set_getElem_self]
theorem FS.at_keys{l m:FS}(h:FS.keys l=FS.keys m)(n:Int):FS.at l n=FS.at m n:=by unfold FS.at;rw[h]
end
section
open Go Go.Lib
theorem row_u16s:∀{n:Nat} {l:List AV},All2 PrimA (qbZ n [Prim.int .u16]).flatten l→∃zs:List Int,l=numA zs∧zs.length=n∧∀z∈zs,0≤z∧z≤65535
 | 0,[],_=>⟨[],rfl,rfl,by simp⟩
 | n+1,x::l,h=>by
   rw[rvZ,rcZ]at h;obtain⟨a,rfl,ha⟩:=h.1;obtain⟨zs,rfl,hl,hq⟩:=row_u16s (n:=n) (l:=l) h.2;have ba:=bounds_u16 ha
   refine ⟨a::zs,rfl,by simp[hl],fun x hx=>?_⟩
   rcases qwZ.1 hx with rfl | hx
   · exact⟨ba.1,by omega⟩
   · exact hq x hx
 | 0,_::_,h=>h.elim
 | n+1,[],h=>by
   rw[rvZ,rcZ]at h;exact h.elim
end
end Go.Proofs.YthafeihjlamhhaaGreatDoor
