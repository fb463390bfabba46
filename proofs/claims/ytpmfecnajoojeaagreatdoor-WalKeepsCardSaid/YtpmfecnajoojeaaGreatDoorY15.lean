/- Parts of the proof of WalKeeps: lemmas, each with its own conditions. -/
import Derived.Test.YtpmfecnajoojeaaGreatDoorY12
import Derived.Test.YtpmfecnajoojeaaGreatDoorY14
import Derived.Test.YtpmfecnajoojeaaGreatDoorY13
set_option maxHeartbeats 64000000
open List renaming getElem?_eq_some_iff → q1Z, getD_eq_getElem?_getD → q2Z, getElem?_eq_getElem → q3Z, getElem?_append_left → q4Z, getElem?_append_right → q5Z, take_of_length_le → q6Z, length_cons → q7Z, length_nil → q8Z, cons_append → q9Z, nil_append → qaZ, replicate → qbZ, mem_of_getElem? → qcZ, length_append → qdZ, append_assoc → qeZ, mem_cons_self → qhZ, mem_cons_of_mem → qiZ, length_take → qjZ, mem_cons → qwZ, getElem?_map → qzZ, append_nil → r2Z, getElem_mem → r3Z, getElem?_cons_succ → r9Z, getElem?_cons_zero → raZ, nodup_cons → rdZ, mem_map → reZ, getElem?_range → rfZ, map_cons → s1Z, getElem?_eq_none → s4Z, all_eq_true → s5Z, set_cons_zero → s9Z
open Option renaming map_eq_some_iff → qlZ, map_some → rhZ
open Nat renaming le_refl → qnZ, lt_or_ge → s2Z, add_sub_cancel_left → s3Z, zero_add → s8Z
open Bool renaming false_eq_true → qsZ
open Array renaming length_toList → rjZ, toList_append → rxZ
namespace Go.Proofs.YtpmfecnajoojeaaGreatDoor
open _root_.Go.Proofs.Tryz renaming prog → Pz
set_option maxRecDepth 100000
section
open Go Go.Lib
attribute [-simp] drawOk_eq adraw qrun acode aops
theorem set_at1(B0:ABlk)(l:NM)(T:AHeap)(k:List UInt8)(v:Int):mapSetA Pz (B0::.map (entsA l)::T) 208 (.map 1) (.str k) (.int .i64 v)=some (B0::.map (entsA (NM.put l k v))::T):=by
 have hf:=find_ents k l 0
 cases hg:NM.get l k with
 | none =>
   rw[hg]at hf;simp only[Option.map_none,s8Z]at hf;have hs:=ents_new v hg;simp[hf,hs]
 | some u =>
   rw[hg]at hf;simp only[rhZ,s8Z]at hf;have hs:=ents_set (v:=v) hg;simp[hf,hs]
theorem del_at1(B0:ABlk)(l:NM)(T:AHeap)(k:List UInt8):mapDelA Pz (B0::.map (entsA l)::T) 208 (.map 1) (.str k)=some (B0::.map (entsA (NM.del l k))::T):=by
 have hf:=find_ents k l 0
 cases hg:NM.get l k with
 | none =>
   rw[hg]at hf;simp only[Option.map_none,s8Z]at hf;simp[mapDelA,hf,del_none hg]
 | some u =>
   rw[hg]at hf;simp only[rhZ,s8Z]at hf;have hd:=ents_del hg;simp[mapDelA,hf,hd]
def svInl:List FuncId:=doInl
theorem svΓ_ok:GOk Pz (runG Pz (gams [(137,mcloneS)]) 0 svInl 2):=gok_run hmix (goks_cons mclone_sound goks_nil) 0 svInl 2
def junkD(g:Nat→Nat):Nat→List DAct→AHeap
 | _,[]=>[]
 | k,x::l=>.cells true (x.fn g k)::junkD g (k+x.nb) l
@[simp] theorem junkD_length(g:Nat→Nat):∀(l:List DAct) (k:Nat),(junkD g k l).length=l.length
 | [],_=>rfl
 | x::l,k=>by simp[junkD,junkD_length g l]
theorem junkD_snoc(g:Nat→Nat):∀(l:List DAct) (k i:Nat) (h:i<l.length),junkD g k (l.take (i+1))=junkD g k (l.take i)++[.cells true (l[i].fn g (k+nbD (l.take i)))]
 | x::l,k,0,_=>by simp[junkD,nbD]
 | x::l,k,i+1,h=>by
   have ih:=junkD_snoc g l (k+x.nb) i (by simpa using h)
   simp only[List.take_succ_cons,junkD,List.getElem_cons_succ,q9Z,ih,nbD,s1Z,List.sum_cons]
   rw[show k+x.nb+((l.take i).map DAct.nb).sum=k+(x.nb+((l.take i).map DAct.nb).sum) by omega]
theorem druns_take(l:NM)(xs:List DAct)(i:Nat)(h:i<xs.length):druns l (xs.take (i+1))=xs[i].run (druns l (xs.take i)):=by
 rw[List.take_add_one,q3Z h,Option.toList_some,druns_append];rfl
theorem survive_ct(f:FD)(m:Int)(hal:f.acts.length≤1000000) :
   Ct Pz 71 [.ptr 0 0,.int .i64 m] [.obj true f.blks] (.tuple []) [.obj true (f.survive m).blks]:=by
 have hΓ:=svΓ_ok;refine ct_of_sim Tryz.func71 rfl ?_;simp only[Tryz.ntmps71,q7Z,q8Z,Nat.reduceAdd,Nat.reduceSub,qbZ,q9Z,qaZ]
 refine Sim.aft (Aft.open (b:=0) rfl (by simp) (Aft.done (by simp[openH]) ?_))
 rw[open_fd];simp only[q7Z,q8Z,Nat.reduceAdd,s9Z,q9Z,qaZ]
 obtain⟨R,eR⟩:∃R,rowD (fun i=>i+4) 0 f.acts=R:=⟨_,rfl⟩
 rw[rowD_congr (g':=fun i=>i+4) (fun i=>by omega),eR]
 obtain⟨X,eX⟩:∃X,boxesD f.acts=X:=⟨_,rfl⟩
 have hR:R.length=f.acts.length*2:=by rw[←eR];simp
 have hX:X.length=nbD f.acts:=by rw[←eX,boxesD_length]
 have gR:∀(i:Nat) (h:i<f.acts.length),(R.drop (i*2)).take 2=f.acts[i].fn (fun i=>i+4) (nbD (f.acts.take i)):=fun i h=>by
   have:=rowD_get (fun i=>i+4) f.acts 0 i h
   rw[eR,s8Z]at this;exact this
 have gX:∀(i:Nat) (h:i<f.acts.length) (q:Nat),q<(f.acts[i]).nb→X[nbD (f.acts.take i)+q]? = (f.acts[i].boxes)[q]?:=fun i h q hq=>by rw[←eX];exact boxesD_get f.acts i h q hq
 rw[eX];obtain⟨k0,ek⟩:∃k,f.acts.length=k:=⟨_,rfl⟩;obtain⟨q0,eq⟩:∃q,nbD f.acts=q:=⟨_,rfl⟩;rw[eq]at hX;obtain⟨n,en⟩:∃n,f.clamp m=n:=⟨_,rfl⟩;have en1:=en;unfold FD.clamp at en1;rw[ek]at en1 hal hR ⊢
 have en2:max 0 (min m (k0:Int))=n:=by omega
 have hnk:n≤k0:=by omega
 have hnk2:(n:Int)≤(k0:Int):=by omega
 refine Sim.step hmix hΓ (n:=0) (by simp;exact⟨rfl,rfl⟩) (by simp) ?_
 refine Sim.seq (Sim.step hmix hΓ (n:=0) (by simp +decide [-minA,minA_min,minA_max,en2,hnk2];first | exact⟨rfl,rfl⟩ | exact⟨by kernel_rfl,rfl,rfl⟩) (by simp) ?_)
 obtain⟨HH,eH⟩:∃HH:Nat→AHeap,HH=fun i=>.cells true [.map 1,.map 2,.sl 3 0 k0 2 false,.int .i64 f.last]::.map (entsA (druns f.d (f.acts.take i)))::.map (entsA f.now)::.cells true R::(X++junkD (fun i=>i+4) 0 (f.acts.take i)):=⟨_,rfl⟩
 refine Sim.mono (Q:=fun e F' H'=>e=.normal∧LessF ([.ptr 0 0]++qbZ 44 .top) F'∧H'=HH n) ?_ ?_
 · refine Sim.block (Sim.loopS (fun i:Nat=>i≤n)
     (fun i=>[.ptr 0 0,.int .i64 m]++qbZ 18 .top++[.sl 3 0 n 2 false,.int .i64 n,.int .i64 i]++qbZ 22 .top)
     HH (fun i=>n-i) 0 (by simp) (by simp) ⟨by simp,by rw[eH];simp[druns,junkD]⟩ fun i hi=>?_)
   by_cases hlt:i<n;rotate_left
   · have:i=n:=by omega
     subst this;have hH:=congrFun eH i;rw[hH]
     refine Sim.exec hmix hΓ (n:=0) (by simp;exact⟨rfl,rfl,rfl⟩) (by simp) ?_
     dsimp only;rw[if_pos rfl]
     exact⟨by trivial,by simp,hH.symm▸rfl⟩
   have hik:i<f.acts.length:=by omega
   obtain⟨x,hx⟩:∃x,f.acts[i]=x:=⟨_,rfl⟩;obtain⟨kk,hkk⟩:∃kk,nbD (f.acts.take i)=kk:=⟨_,rfl⟩
   obtain⟨J,hJe⟩:∃J,junkD (fun i=>i+4) 0 (f.acts.take i)=J:=⟨_,rfl⟩
   have hJ:J.length=i:=by rw[←hJe,junkD_length,qjZ];omega
   have hj:=junkD_snoc (fun i=>i+4) f.acts 0 i hik
   have g1:=gR i hik;have gXi:=gX i hik;have e1:=druns_take f.d f.acts i hik;rw[hx]at hj g1 gXi e1;rw[hkk]at hj g1 gXi;rw[hJe,s8Z]at hj;obtain⟨cur,hcur⟩:∃cur,druns f.d (f.acts.take i)=cur:=⟨_,rfl⟩;rw[hcur]at e1
   have hN:∀c:ABlk,(X++(J++[c]))[q0+i]? = some c:=fun c=>by
     rw[←qeZ,show q0+i=(X++J).length by rw[qdZ,hX,hJ],q5Z (qnZ _)];simp
   have k1:i*2+2≤k0*2:=by omega
   have hltI:(i:Int)<n:=by omega
   have y1:IntKind.i64.wrap ((i:Int)+1)=i+1:=wr_i64 (by omega) (by omega)
   have hH:=congrFun eH i;have hH1:=congrFun eH (i+1)
   try dsimp only at hH hH1
   rw[hcur,hJe]at hH;rw[hH];rw[hj,e1]at hH1
   refine Sim.step hmix hΓ (n:=0) (by simp[hltI];exact⟨rfl,rfl⟩) (by simp) ?_
   refine Sim.step hmix hΓ (n:=0) (by simp;exact⟨rfl,rfl⟩) (by simp) ?_
   refine Sim.seq (Sim.block ?_)
   cases x with
   | cre k v =>
     simp only[DAct.fn]at g1
     have p0:∀c,(X++(J++[c]))[kk]? = some (.obj false [.cells true [.int .i64 v]]):=fun c=>by
       have h:=gXi 0 (by simp[DAct.nb])
       rw[Nat.add_zero]at h;rw[q4Z (q1Z.1 h).1];exact h
     have p1:∀c,(X++(J++[c]))[kk+1]? = some (.obj false [.cells true [.str k]]):=fun c=>by
       have h:=gXi 1 (by simp[DAct.nb])
       rw[q4Z (q1Z.1 h).1];exact h
     refine Sim.step hmix hΓ (n:=0) (by simp +decide [hlt,hR,k1,g1,hX,hJ];exact⟨rfl,rfl⟩) (by simp) ?_
     refine Sim.draw hmix (by simp) ?_
     refine SimR.many hΓ 6 (by simp[stageOps];rfl) (by omega) (by kernel_rfl) (by simp +decide [hX,hJ];first | exact⟨rfl,rfl⟩ | exact⟨by kernel_rfl,rfl,rfl⟩) ?_
     refine SimR.one hΓ _ rfl (by kernel_rfl) (by simp +decide [-mapSetA,svInl,doInl,Tryz.f174,set_at1,p0,p1];exact⟨rfl,rfl⟩) ?_
     refine SimR.done rfl ?_;dsimp only
     refine Sim.exec hmix hΓ (n:=0) (by simp[y1];exact⟨rfl,rfl,rfl⟩) (by simp) ?_
     exact⟨i+1,by omega,⟨by simp,by rw[hH1];simp[DAct.run,DAct.fn]⟩,by omega⟩
   | ren a b v =>
     simp only[DAct.fn]at g1
     have p0:∀c,(X++(J++[c]))[kk]? = some (.obj false [.cells true [.str a]]):=fun c=>by
       have h:=gXi 0 (by simp[DAct.nb])
       rw[Nat.add_zero]at h;rw[q4Z (q1Z.1 h).1];exact h
     have p1:∀c,(X++(J++[c]))[kk+1]? = some (.obj false [.cells true [.int .i64 v]]):=fun c=>by
       have h:=gXi 1 (by simp[DAct.nb])
       rw[q4Z (q1Z.1 h).1];exact h
     have p2:∀c,(X++(J++[c]))[kk+2]? = some (.obj false [.cells true [.str b]]):=fun c=>by
       have h:=gXi 2 (by simp[DAct.nb])
       rw[q4Z (q1Z.1 h).1];exact h
     refine Sim.step hmix hΓ (n:=0) (by simp +decide [hlt,hR,k1,g1,hX,hJ];exact⟨rfl,rfl⟩) (by simp) ?_
     refine Sim.draw hmix (by simp) ?_
     refine SimR.many hΓ 6 (by simp[stageOps];rfl) (by omega) (by kernel_rfl) (by simp +decide [hX,hJ];first | exact⟨rfl,rfl⟩ | exact⟨by kernel_rfl,rfl,rfl⟩) ?_
     refine SimR.one hΓ _ rfl (by kernel_rfl) (by simp +decide [-mapSetA,svInl,doInl,Tryz.f225,set_at1,del_at1,p0,p1,p2];exact⟨rfl,rfl⟩) ?_
     refine SimR.done rfl ?_;dsimp only
     refine Sim.exec hmix hΓ (n:=0) (by simp[y1];exact⟨rfl,rfl,rfl⟩) (by simp) ?_
     exact⟨i+1,by omega,⟨by simp,by rw[hH1];simp[DAct.run,DAct.fn]⟩,by omega⟩
   | rem k =>
     simp only[DAct.fn]at g1
     have p0:∀c,(X++(J++[c]))[kk]? = some (.obj false [.cells true [.str k]]):=fun c=>by
       have h:=gXi 0 (by simp[DAct.nb])
       rw[Nat.add_zero]at h;rw[q4Z (q1Z.1 h).1];exact h
     refine Sim.step hmix hΓ (n:=0) (by simp +decide [hlt,hR,k1,g1,hX,hJ];exact⟨rfl,rfl⟩) (by simp) ?_
     refine Sim.draw hmix (by simp) ?_
     refine SimR.many hΓ 6 (by simp[stageOps];rfl) (by omega) (by kernel_rfl) (by simp +decide [hX,hJ];first | exact⟨rfl,rfl⟩ | exact⟨by kernel_rfl,rfl,rfl⟩) ?_
     refine SimR.one hΓ _ rfl (by kernel_rfl) (by simp +decide [-mapSetA,svInl,doInl,Tryz.f224,del_at1,p0];exact⟨rfl,rfl⟩) ?_
     refine SimR.done rfl ?_;dsimp only
     refine Sim.exec hmix hΓ (n:=0) (by simp[y1];exact⟨rfl,rfl,rfl⟩) (by simp) ?_
     exact⟨i+1,by omega,⟨by simp,by rw[hH1];simp[DAct.run,DAct.fn]⟩,by omega⟩
 rintro e F' H' hlen ⟨rfl,hF,rfl⟩;dsimp only;refine Sim.less hF ?_
 obtain⟨J,hJe⟩:∃J,junkD (fun i=>i+4) 0 (f.acts.take n)=J:=⟨_,rfl⟩
 have hJ:J.length=n:=by rw[←hJe,junkD_length,qjZ];omega
 obtain⟨cur,hcur⟩:∃cur,druns f.d (f.acts.take n)=cur:=⟨_,rfl⟩
 have hsv:f.survive m=⟨cur,[],f.last⟩:=by unfold FD.survive;rw[en,hcur]
 have hH:=congrFun eH n
 try dsimp only at hH
 rw[hcur,hJe]at hH;rw[hsv,hH]
 refine Sim.after (Sim.exec hmix hΓ (n:=0) (by simp +decide [svInl,mcloneS,hX,hJ];exact⟨rfl,rfl,rfl⟩) (by simp) ?_)
 refine Aft.closeFD (⟨cur,[],f.last⟩:FD) 0 1 (q0+n+4) (q0+n+5) [] (fun i=>i) (x:=.nils) (o:=true) ?_ rfl rfl ?_ (fun h=>absurd h ?_) rfl (fun i hi=>absurd hi (by simp[nbD])) (fun i k B h=>by simp at h) ?_ (by simp) ?_
 · rfl
 · rw[show q0+n+4=((X++J).length)+1+1+1+1 by rw[qdZ,hX,hJ]]
   simp only[r9Z];rw[←qeZ,q5Z (qnZ _)];simp[FD.now,druns]
 · simp;omega
 · simp <;> omega
 refine Aft.weak (Fn:=qbZ 45 .top) (Hn:=[.obj true (⟨cur,[],f.last⟩:FD).blks]) (Weak.mk' [0] (by decide) (by decide) (AWs_tops _ _ _ rfl) (AWg_closed (b:=0) (by simp) _ _ rfl fun i c x h1 h2=>?_)) (by simp) (Aft.done (by simp) ?_)
 · match i,h1,h2 with
   | 0,h1,h2=>cases h1;cases h2;exact .inl ⟨rfl,rfl⟩
 exact⟨.inl rfl,_,by simp[Tryz.f71] <;> rfl,Weak.mk' [0] (by decide) (by decide) (by simp) (by simp[AWb])⟩
def nmInl:List FuncId:=[140]
theorem nmΓ_ok:GOk Pz (runG Pz (gams [(139,keysS),(138,sortedS)]) 0 nmInl 2):=gok_run hmix (goks_cons keys_sound (goks_cons sorted_sound goks_nil)) 0 nmInl 2
theorem strsOf_ents:∀l:NM,strsOf ((entsA l).map (·.1))=some (NM.keys l)
 | []=>rfl
 | e::l=>by
   have:=strsOf_ents l;simp only[entsA,NM.keys,s1Z,strsOf]at this ⊢
   rw[this];rfl
theorem names_ct(f:FD)(hok:f.small):Ct Pz 72 [.ptr 0 0] [.obj true f.blks] (.sl 1 0 f.names.length 1 false) [.obj true f.blks,.cells true (f.names.map .str)]:=by
 have hΓ:=nmΓ_ok;obtain⟨hsh,hnl⟩:=FD.ok_now hok;refine ct_of_sim Tryz.func72 rfl ?_;simp only[Tryz.ntmps72,q7Z,q8Z,Nat.reduceAdd,Nat.reduceSub,qbZ,q9Z,qaZ]
 refine Sim.aft (Aft.open (b:=0) rfl (by simp) (Aft.done (by simp[openH]) ?_))
 rw[open_fd];simp only[q7Z,q8Z,Nat.reduceAdd,s9Z,q9Z,qaZ];obtain⟨X,eX⟩:∃X,boxesD f.acts=X:=⟨_,rfl⟩;obtain⟨q,eq⟩:∃q,X.length=q:=⟨_,rfl⟩;rw[eX];obtain⟨ks,hks⟩:∃ks,f.names=ks:=⟨_,rfl⟩;obtain⟨n,hn⟩:∃n,ks.length=n:=⟨_,rfl⟩
 have hkl:(NM.keys f.now).length=n:=by rw[←hn,←hks];unfold FD.names;rw[(sortU_perm _).length_eq]
 have hnow:f.now.length=n:=by rw[←hkl];simp[NM.keys]
 have hn6:n≤1000000:=by omega
 have hstr:=strsOf_ents f.now
 have hall:((NM.keys f.now).all fun k=>decide (k.length≤1000000))=true:=by
   rw[s5Z];intro k hk;have:=hsh k hk;simp;omega
 have hallP:∀x,x∈NM.keys f.now→x.length≤1000000:=fun k hk=>by have:=hsh k hk;omega
 have hallT:(∀x,x∈NM.keys f.now→x.length≤1000000)=True:=eq_true hallP;have hsort:sortU (NM.keys f.now)=ks:=hks;rw[hks,hn]
 refine Sim.step hmix hΓ (n:=0) (by simp[eq];exact⟨rfl,rfl⟩) (by simp) ?_
 refine Sim.step hmix hΓ (n:=0) (by simp;exact⟨rfl,rfl⟩) (by simp) ?_
 have fks:∀rn:List Nat,AWs rn (ks.map AV.str) (ks.map AV.str):=fun rn=>(AWs_free (frees_map ks AV.str fun _=>rfl)).2 trivial
 obtain⟨Fn,hFn⟩:∃Fn:List AV,Fn=[.top,.top,.ptr 1 0,.sl 2 0 n 1 false]++qbZ 17 .top:=⟨_,rfl⟩;obtain⟨Hn,hHn⟩:∃Hn:AHeap,Hn=[.obj true f.blks,.cells true [.nils],.cells true (ks.map .str)]:=⟨_,rfl⟩
 refine Sim.seq (Sim.mono (Q:=fun e F' H'=>e=.normal∧F'=Fn∧H'=Hn) (Sim.after ?_) ?_)
 · by_cases h0:n=0
   · subst h0
     have hk0:ks=[]:=List.length_eq_zero_iff.1 hn;have hkn:NM.keys f.now=[]:=List.length_eq_zero_iff.1 hkl;rw[hkn]at hstr
     refine Sim.exec hmix hΓ (n:=0) (by simp +decide [eq,nmInl,keysS,sortedS,hstr];exact⟨rfl,rfl,rfl⟩) (by simp) ?_
     refine Aft.closeFS f 0 1 rfl rfl rfl rfl (fun i B hB=>?_) (by decide) (by simp) ?_
     · rw[show 1+3+i=i+1+1+1+1 by omega]
       simp only[r9Z];rw[eX]at hB;rw[q4Z (q1Z.1 hB).1];exact hB
     refine Aft.weak (Fn:=[.top,.top,.ptr 1 0,.nils]++qbZ 17 .top) (Hn:=[.obj true f.blks,.cells true [.nils]]) ?_ (by simp) (Aft.weak (Fn:=Fn) (Hn:=Hn) ?_ (by simp) (Aft.done (by simp[hHn]) ⟨rfl,rfl,rfl⟩))
     · refine Weak.mk' [0,q+4] (by simp) (by simp) (by simp) (AWg_closed (b:=0) (by simp) _ _ rfl fun i c x h1 h2=>?_)
       match i,h1,h2 with
       | 0,h1,h2=>cases h1;cases h2;exact .inl ⟨rfl,rfl⟩
       | 1,h1,h2 =>
         cases h1;cases h2
         refine .inr ⟨⟨by omega,by simp⟩,?_⟩
         rw[show q+4=(X.length+0)+1+1+1+1 by omega]
         simp[AWb]
     · rw[hFn,hHn]
       exact Weak.mk' [0,1,100] (by decide) (by decide) (by simp) (by simp[AWb])
   · have h0':¬(NM.keys f.now).length=0:=by omega
     have hkn:¬NM.keys f.now=[]:=fun e=>h0' (by rw[e];rfl)
     refine Sim.exec hmix hΓ (n:=0) (by simp +decide [eq,nmInl,keysS,sortedS,hstr,hkn,hkl,hn6,hallT,hsort];exact⟨rfl,rfl,rfl⟩) (by simp) ?_
     refine Aft.closeFS f 0 1 rfl rfl rfl rfl (fun i B hB=>?_) (by decide) (by simp) ?_
     · rw[show 1+3+i=i+1+1+1+1 by omega]
       simp only[r9Z];rw[eX]at hB;rw[q4Z (q1Z.1 hB).1];exact hB
     refine Aft.weak (Fn:=Fn) (Hn:=Hn) ?_ (by simp) (Aft.done (by simp[hHn]) ⟨rfl,rfl,rfl⟩)
     rw[hFn,hHn]
     refine Weak.mk' [0,q+4,q+6] (by simp) (by simp) (by simp) (AWg_closed (b:=0) (by simp) _ _ rfl fun i c x h1 h2=>?_)
     match i,h1,h2 with
     | 0,h1,h2=>cases h1;cases h2;exact .inl ⟨rfl,rfl⟩
     | 1,h1,h2 =>
       cases h1;cases h2
       refine .inr ⟨⟨by omega,by simp⟩,?_⟩
       rw[show q+4=(X.length+0)+1+1+1+1 by omega]
       simp[AWb]
     | 2,h1,h2 =>
       cases h1;cases h2
       refine .inr ⟨⟨by omega,by simp⟩,?_⟩
       rw[show q+6=(X.length+2)+1+1+1+1 by omega]
       simp[AWb]
 rintro e F' H' hlen ⟨rfl,rfl,rfl⟩;dsimp only
 subst hFn;subst hHn
 clear hlen;simp only[q9Z,qaZ,qbZ]
 refine Sim.seq (Sim.step hmix hΓ (n:=0) (by simp[nmInl,Tryz.f140];exact⟨rfl,rfl⟩) (by simp) ?_)
 refine Sim.block ?_
 refine Sim.rangeFuncN hmix (fun rc=>[.obj true f.blks,.cells true [.sl 5 0 n 1 false],.cells true (ks.map .str),.cells true [.sl 2 0 n 1 false],rc,.cells true (ks.map .str)]) .ready none (.tuple []) (gf:=212) (cap:=[.ptr 3 0]) (by simp) (enter_of Tryz.func212 rfl (by decide)) (by decide) (by simp) (by simp) (by simp) rfl (by simp) ?_ ?_
 · generalize hrc:ABlk.loop _ _ _ LoopState.ready none _=rc
   refine ct_of_sim Tryz.func212 rfl ?_;simp only[Tryz.ntmps212,q7Z,q8Z,Nat.reduceAdd,Nat.reduceSub,qbZ,q9Z,qaZ]
   refine Sim.step hmix goks_nil (n:=0) (by simp;exact⟨rfl,rfl⟩) (by simp) ?_
   refine Sim.block (Sim.loopW (fun i:Nat=>i≤n)
     (fun i=>[.yld 4,.ptr 3 0,.top,.top,.top,.sl 2 0 n 1 false,.int .i64 n,.int .i64 i]++qbZ 8 .top)
     (fun i=>[.obj true f.blks,.cells true [.sl 5 0 i 1 false],.cells true (ks.map .str),.cells true [.sl 2 0 n 1 false],rc,.cells true ((ks.take i).map .str)]) (fun i=>n-i) 0 (by simp) (by simp) ?_ fun i hi=>?_)
   · subst hrc
     exact Weak.mk' [0,1,2,3,4,100] (by decide) (by decide) (by simp) (by simp[AWb])
   · subst hrc
     have hΓ2:=gok_run (P:=Pz) hmix goks_nil 0 [] 1;by_cases hlt:i<n
     · have hltI:(i:Int)<n:=by omega
       have hlk:i<ks.length:=by omega
       obtain⟨x,hx1⟩:∃x,ks[i]=x:=⟨_,rfl⟩
       have hg:∀h,ks[i]'h=x:=fun h=>hx1
       obtain⟨acc,hacc⟩:∃acc,ks.take i=acc:=⟨_,rfl⟩
       have hal:acc.length=i:=by rw[←hacc,qjZ];omega
       have hnx:ks.take (i+1)=acc++[x]:=by rw[List.take_add_one,q3Z hlk,hx1,hacc];rfl
       have htk:List.take i (acc.map AV.str)=acc.map AV.str:=q6Z (by simp;omega)
       have b1:(i+1)*16≤140737488355328:=by omega
       have b2:i+1≤9223372036854775807:=by omega
       have y1:IntKind.i64.wrap ((i:Int)+1)=i+1:=wr_i64 (by omega) (by omega)
       rw[hacc]
       refine Sim.exec hmix hΓ2 (n:=0) (by simp +decide [hlt,hltI,hn,hg,hal,htk,b1,b2,y1];exact⟨rfl,rfl,rfl⟩) (by simp) ?_
       exact⟨i+1,by omega,by rw[hnx];exact Weak.mk' [0,1,2,3,4,7] (by decide) (by decide) (by simp) (by simp[AWb]),by omega⟩
     · have hin:i=n:=by omega
       subst hin
       rw[q6Z (by omega)]
       refine Sim.exec hmix hΓ2 (n:=0) (by simp;exact⟨rfl,rfl,rfl⟩) (by simp) ?_
       dsimp only;rw[if_pos rfl]
       exact⟨.inl rfl,_,by simp[Tryz.f212] <;> rfl,Weak.mk' [0,1,2,3,4,5] (by decide) (by decide) (by simp) (by simp[AWb])⟩
 · dsimp only
   refine Sim.exec hmix hΓ (n:=0) (by simp;exact⟨rfl,rfl,rfl⟩) (by simp) ?_
   exact⟨.inr rfl,_,by simp[Tryz.f72] <;> rfl,Weak.mk' [0,5] (by decide) (by decide) (by simp) (by simp[AWb])⟩
end
section
open Go Go.Lib
attribute [-simp] drawOk_eq adraw qrun acode aops
noncomputable section
open Classical
def fcreS:Summ:=objS fdOf FD.blks fun f xs _=>match xs with
 | [.str k]=>if f.small∧k.length≤9223372036854775807 then some ((f.create k).1,.tuple [.int .i64 (f.create k).2.1,.int .i64 (f.create k).2.2]) else none
 | _=>none
theorem fcre_sound:Sound Pz 103 fcreS:=by
 refine sound_obj (enter_of Tryz.func103 rfl (by decide)) (fun _ _=>fdOf_eq) fun f xs H s' v b hg hb=>?_
 split at hg;rotate_left
 · cases hg
 split at hg <;> cases hg
 rename_i hs;exact ct_obj1 (create_ct f _ hs.1 hs.2) rfl rfl hb
def ffindS:Summ:=objS fdOf FD.blks fun f xs _=>match xs with
 | [.str a]=>some (f,.tuple [.int .i64 (f.find a).1,.bool (f.find a).2])
 | _=>none
theorem ffind_sound:Sound Pz 73 ffindS:=by
 refine sound_obj (enter_of Tryz.func73 rfl (by decide)) (fun _ _=>fdOf_eq) fun f xs H s' v b hg hb=>?_
 split at hg <;> cases hg
 exact ct_obj1 (find_ct f _) rfl rfl hb
def fpendS:Summ:=objS fdOf FD.blks fun f xs _=>match xs with
 | []=>some (f,.int .i64 f.acts.length)
 | _=>none
theorem fpend_sound:Sound Pz 175 fpendS:=by
 refine sound_obj (enter_of Tryz.func175 rfl (by decide)) (fun _ _=>fdOf_eq) fun f xs H s' v b hg hb=>?_
 split at hg <;> cases hg
 exact ct_obj1 (pending_ct f) rfl rfl hb
def fsurvS:Summ:=objS fdOf FD.blks fun f xs _=>match xs with
 | [.int .i64 m]=>if f.acts.length≤1000000 then some (f.survive m,.tuple []) else none
 | _=>none
theorem fsurv_sound:Sound Pz 71 fsurvS:=by
 refine sound_obj (enter_of Tryz.func71 rfl (by decide)) (fun _ _=>fdOf_eq) fun f xs H s' v b hg hb=>?_
 split at hg;rotate_left
 · cases hg
 split at hg <;> cases hg
 rename_i hs;exact ct_obj1 (survive_ct f _ hs) rfl rfl hb
def fnamesS:Summ:=fun args H=>match args with
 | [.ptr b 0]=>match H[b]? with
   | some (.obj true sub)=>match fdOf sub with
     | some f=>if f.small then some (.sl H.length 0 f.names.length 1 false,H++[.cells true (f.names.map .str)],[]) else none
     | none=>none
   | _=>none
 | _=>none
theorem fnames_sound:Sound Pz 72 fnamesS:=by
 refine ⟨enter_of Tryz.func72 rfl (by decide),fun args H v H' W hs=>?_,fun args H v H' W hs=>?_⟩ <;> (unfold fnamesS at hs;split at hs <;> try cases hs) <;> (split at hs <;> try cases hs) <;> (rename_i b _ sub hb;split at hs <;> try cases hs) <;> (rename_i f hf;split at hs <;> cases hs;rename_i hk)
 · have e:=fdOf_eq hf
   subst e;have hbl:b<H.length:=(q1Z.1 hb).1
   have fs:∀g,reAs g (f.names.map AV.str)=f.names.map AV.str:=fun g=>reAs_flat g _ (by simp[flatsA,flatA])
   have:=ct_frame (H:=H) (args:=[.ptr b 0]) (names_ct f hk) [b] (by simp) ⟨⟨rfl,rfl⟩,trivial⟩ ⟨by rw[q2Z,hb];exact⟨rfl,rfl⟩,hbl,trivial⟩ rfl
   obtain⟨h1,h2⟩:=q1Z.1 hb
   have hset:H.set b (.obj true f.blks)=H:=by rw[←h2,List.set_getElem_self]
   simpa[setOwn,ABlk.own,reB,reA,nameG,hset,fs] using this
 · exact⟨by simp,fun c hc _=>by rw[q4Z hc]⟩
def fnew0S:Summ:=fun args H=>match args with
 | []=>some (.ptr H.length 0,H++[.obj true FD.new.blks],[])
 | _=>none
theorem fnew0_sound:Sound Pz 102 fnew0S:=by
 refine ⟨enter_of Tryz.func102 rfl (by decide),fun args H v H' W hs=>?_,fun args H v H' W hs=>?_⟩ <;> (unfold fnew0S at hs;split at hs <;> cases hs)
 · have:=ct_frame (H:=H) (args:=[]) new_ct [] (by simp) trivial trivial rfl
   simpa[setOwn,ABlk.own,reB,reA,nameG] using this
 · exact⟨by simp,fun c hc _=>by rw[q4Z hc]⟩
def syΓ:Gam:=gams [(175,fpendS),(71,fsurvS)]
theorem syΓ_ok:GOk Pz syΓ:=goks_cons fpend_sound (goks_cons fsurv_sound goks_nil)
theorem sync_ct(f:FD)(hal:f.acts.length≤1000000):Ct Pz 105 [.ptr 0 0] [.obj true f.blks] (.tuple []) [.obj true (f.survive f.acts.length).blks]:=by
 refine ct_of_sim Tryz.func105 rfl ?_;simp only[Tryz.ntmps105,q7Z,q8Z,Nat.reduceAdd,Nat.reduceSub,qbZ,q9Z,qaZ]
 refine Sim.exec hmix syΓ_ok (n:=0) (by simp[syΓ,fpendS,fsurvS,hal];exact⟨rfl,rfl,rfl⟩) (by simp) ?_
 exact⟨.inl rfl,_,by simp[Tryz.f105] <;> rfl,Weak.mk' [0] (by decide) (by decide) (by simp) (by simp[AWb])⟩
def fsyn0S:Summ:=objS fdOf FD.blks fun f xs _=>match xs with
 | []=>if f.acts.length≤1000000 then some (f.survive f.acts.length,.tuple []) else none
 | _=>none
theorem fsyn0_sound:Sound Pz 105 fsyn0S:=by
 refine sound_obj (enter_of Tryz.func105 rfl (by decide)) (fun _ _=>fdOf_eq) fun f xs H s' v b hg hb=>?_
 split at hg;rotate_left
 · cases hg
 split at hg <;> cases hg
 rename_i hs;exact ct_obj1 (sync_ct f hs) rfl rfl hb
end
end
section
open Go Go.Lib
noncomputable def oneAt(args:List AV)(H:AHeap)(v:AV)(H':AHeap):Summ:=open Classical in fun a h=>if a=args∧h=H then some (v,H',List.range H.length) else none
theorem oneAt_sound{P:Program}{f:FuncId}{args:List AV}{H H':AHeap}{v:AV}(he:∀cargs w,(callFunc f cargs).run P w=.ok (.enter f cargs) w)(h:Ct P f args H v H')(hl:H.length≤H'.length):Sound P f (oneAt args H v H'):=by
 refine ⟨he,fun a h1 v1 H1 W hs=>?_,fun a h1 v1 H1 W hs=>?_⟩ <;> (unfold oneAt at hs;split at hs <;> cases hs) <;> (rename_i hc;obtain⟨rfl,rfl⟩:=hc)
 · exact h
 · exact⟨hl,fun b hb hn=>absurd (List.mem_range.2 hb) hn⟩
@[simp] theorem oneAt_at(args:List AV)(H:AHeap)(v:AV)(H':AHeap):oneAt args H v H' args H=some (v,H',List.range H.length):=by
 unfold oneAt;rw[if_pos ⟨rfl,rfl⟩]
theorem ct_of_simE{P:Program}{f:FuncId}{fn:Func}{c:Code}(hf:P.funcs[f]? = some fn)(hb:fn.body=some c){args:List AV}{H H':AHeap}{v:AV}
   (h:Sim P none H.length c (args++qbZ (fn.ntmps-args.length) undefA) H fun x F1 H1=>(x=.normal∨x=.ret)∧resA P fn.results.toList F1 H1=some v∧H1=H'):Ct P f args H v H':=by
 intro j w cargs hR hargs;refine (callsIn_wide (n:=0)).1 ?_;refine callsIn_of_wp_marks hf hb trivial ?_ rfl;have hl:=hargs.length
 have hF:VRs j (args++qbZ (fn.ntmps-args.length) undefA) (cargs++Array.replicate (fn.ntmps-cargs.size) undef).toList:=by
   rw[rxZ,Array.toList_replicate,hl,rjZ]
   exact hargs.append (VRs.replicate (v:=undef) (show VR j undefA undef from ⟨#[],rfl,rfl⟩) _)
 refine wpIn_mono (h w.heap.size j w { tmps:=cargs++Array.replicate (fn.ntmps-cargs.size) undef,defers:=[] } 0 (qnZ _) hR hF (DefOk.nil _ _)) ?_;rintro e a' w' ⟨x,F',H1,j',rfl,⟨hx,hv1,rfl⟩,h3,h4,h5⟩
 refine body_end hR.glo.1.2 hx hv1 h3 h4 h5 fun cv w2 g2 hs=>?_
 exact⟨cv,j',rfl,g2,hs⟩
theorem ct_opened{P:Program}{f:FuncId}{xs:List AV}{v v':AV}{sub H' H'':AHeap}(h:Ct P f xs sub v H')(hne:1≤sub.length)(hA:Aft 1 [v] H' fun F H=>F=[v']∧H=H''):Ct P f xs [.obj true sub] v' H'':=by
 intro j w cargs hR hargs
 obtain⟨j1,hle,s1⟩:=Step.open (n:=1) hR (b:=0) rfl (by simp)
 have e:openH [.obj true sub] 0 sub=sub:=by
   have hg:∀i,openG 0 1 i=i:=fun i=>by unfold openG;split <;> omega
   cases sub with
   | nil=>simp at hne
   | cons B r =>
     unfold openH;simp only[q7Z,q8Z,List.getD_cons_zero,s9Z,List.drop_succ_cons,List.drop_zero,q9Z,qaZ,s8Z]
     rw[reB_id hg,List.map_congr_left (fun B _=>reB_id hg B)]
     simp
 rw[e]at s1;refine (h j1 w cargs s1.rel (VRs.mono hle _ _ hargs)).mono ?_;rintro e w' ⟨cv,j2,rfl,hv,s2⟩;obtain⟨F3,H3,j3,⟨rfl,rfl⟩,h3,s3⟩:=hA j2 w' [cv] s2.rel ⟨cv,[],rfl,hv,rfl⟩;obtain⟨cv',ws,e1,h4,h5⟩:=h3;cases e1;exact⟨cv,j3,rfl,h4,(s1.trans s2 hne).trans s3 (qnZ _)⟩
theorem setOwn_same{g:Nat→Nat}{H:AHeap}{em:List Nat}{H0 H1:AHeap}(hn:em.Nodup)(hl:∀x∈em,x<H.length)(hle:H0.length≤H1.length)
   (h:∀(i e:Nat) (B0 B1:ABlk),em[i]? = some e→H0[i]? = some B0→B0.own=true→H1[i]? = some B1→H[e]? = some (reB g B1)):setOwn g H em H0 H1=H:=by
 refine List.ext_getElem? fun c=>?_
 by_cases hc:∃(i:Nat) (B:ABlk),em[i]? = some c∧H0[i]? = some B∧B.own=true
 · obtain⟨i,B,h1,h2,h3⟩:=hc
   have hi:i<H1.length:=by have:=(q1Z.1 h2).1;omega
   have h4:H1[i]? = some H1[i]:=q3Z hi;rw[setOwn_at g H em H0 H1 i c B _ hn hl h1 h2 h3 h4,h i c B _ h1 h2 h3 h4]
 · refine setOwn_other g H em H0 H1 c fun i B h1 h2 h3=>hc ⟨i,B,h1,h2,h3⟩
theorem ct_more{P:Program}{f:FuncId}{args:List AV}{v v':AV}{H0 N N' T:AHeap}(h:Ct P f args H0 v (H0++N))(ha:∀rn:List Nat,(∀i,i<H0.length→rn[i]? = some i)→AWs rn args args)
   (hB:∀rn:List Nat,(∀i,i<H0.length→rn[i]? = some i)→∀B∈H0,AWb rn B B) (hf:∀g:Nat→Nat,(∀i,i<H0.length→g i=i)→∀B∈H0,reB g B=B) (ho:allOwn N=true)
   (hv:∀g:Nat→Nat,(∀i,i<H0.length→g i=i)→(∀i,H0.length≤i→g i=i+T.length)→reA g v=v'∧N.map (reB g)=N'):Ct P f args (H0++T) v' (H0++T++N'):=by
 have hr:∀i,i<H0.length→(List.range H0.length)[i]? = some i:=fun i hi=>rfZ hi
 have hg1:∀i,i<H0.length→nameG (List.range H0.length) (H0++T).length i=i:=fun i hi=>by unfold nameG;rw[hr i hi]
 have hg2:∀i,H0.length≤i→nameG (List.range H0.length) (H0++T).length i=i+T.length:=fun i hi=>by
   unfold nameG
   rw[s4Z (by simpa using hi)]
   simp only[qdZ,List.length_range];omega
 have hH:∀(X:AHeap) (k:Nat),(∀B∈X,AWb (List.range H0.length) B B)→(∀i B,X[i]? = some B→(H0++T)[k+i]? = some B)→AWh (List.range H0.length) (H0++T) X (List.range' k X.length):=by
   intro X
   induction X with
   | nil=>intro k _ _;trivial
   | cons B X ih =>
     intro k h1 h2;rw[q7Z,List.range'_succ];have h0:=h2 0 B rfl;rw[Nat.add_zero]at h0
     refine ⟨?_,(q1Z.1 h0).1,ih (k+1) (fun C hC=>h1 C (qiZ _ hC)) fun i C hC=>?_⟩
     · rw[q2Z,h0];exact h1 B (qhZ ..)
     · rw[show k+1+i=k+(i+1) by omega];exact h2 (i+1) C (by simpa using hC)
 have:=ct_frame (H:=H0++T) (args:=args) h (List.range H0.length) List.nodup_range (ha _ hr) (by
   have h1:=hH H0 0 (hB _ hr) fun i B hi=>by rw[s8Z,q4Z (q1Z.1 hi).1];exact hi
   rw[←List.range_eq_range']at h1
   exact h1) (by rw[List.drop_left];exact ho)
 obtain⟨h1,h2⟩:=hv _ hg1 hg2
 rw[List.drop_left,h1,h2,setOwn_same List.nodup_range (fun x hx=>by have:=List.mem_range.1 hx;simp;omega) (by simp) (fun i e B0 B1 k1 k2 k3 k4=>?_)]at this
 · exact this
 · have hi:i<H0.length:=(q1Z.1 k2).1
   rw[hr i hi]at k1;cases k1;rw[q4Z hi]at k4;rw[q4Z hi,k4,hf _ hg1 B1 (qcZ k4)]
def fileM(g:Nat→Nat):Nat→FS→List (AV×AV)
 | _,[]=>[]
 | k,e::l=>(.int .i64 e.1,.ptr (g k) 0)::fileM g (k+1) l
def filesB(l:FS):AHeap:=l.map fun e=>.obj true e.2.blks
@[simp] theorem fileM_length(g:Nat→Nat):∀(k:Nat) (l:FS),(fileM g k l).length=l.length
 | _,[]=>rfl
 | k,e::l=>by simp[fileM,fileM_length g (k+1) l]
@[simp] theorem filesB_length(l:FS):(filesB l).length=l.length:=by simp[filesB]
theorem filesB_get{l:FS}{i:Nat}{e:Int×PF}(h:l[i]? = some e):(filesB l)[i]? = some (.obj true e.2.blks):=by simp[filesB,h]
theorem find_files(g:Nat→Nat)(n:Int):∀(k:Nat) (l:FS) (i:Nat),findA (fileM g k l) (.int .i64 n) i=some ((FS.get l n).map fun _=>(i+FS.at l n,.ptr (g (k+FS.at l n)) 0))
 | k,[],i=>by simp[fileM,findA,FS.get]
 | k,e::l,i=>by
   have ih:=find_files g n (k+1) l (i+1);by_cases h:e.1=n
   · subst h
     simp[fileM,findA,primEq,FS.get,FS.at,FS.keys]
   · have h2:(n==e.1)=false:=by simpa using (fun q=>h q.symm)
     have h3:(e.1==n)=false:=by simpa using h
     simp only[fileM,findA,primEq,h2,ih,FS.get,h,if_false,FS.at,FS.keys,s1Z];rw[List.idxOf_cons,h3]
     cases FS.get l n <;> simp
     exact⟨by omega,by congr 1;omega⟩
theorem fileM_app(g:Nat→Nat):∀(k:Nat) (l:FS) (e:Int×PF),fileM g k (l++[e])=fileM g k l++[(.int .i64 e.1,.ptr (g (k+l.length)) 0)]
 | k,[],e=>rfl
 | k,x::l,e=>by
   simp only[q9Z,fileM,fileM_app g (k+1) l e,q7Z]
   rw[show k+1+l.length=k+(l.length+1) by omega]
theorem fileM_upd(g:Nat→Nat)(n:Int)(h:PF→PF):∀(k:Nat) (l:FS),fileM g k (FS.upd l n h)=fileM g k l
 | k,[]=>rfl
 | k,e::l=>by
   unfold FS.upd;split
   · rename_i hn;simp[fileM,hn]
   · simp only[fileM,fileM_upd g n h (k+1) l]
theorem filesB_upd{l:FS}{n:Int}{f:PF}(h:PF→PF)(hf:FS.get l n=some f):filesB (FS.upd l n h)=(filesB l).set (FS.at l n) (.obj true (h f).blks):=by
 rw[FS.upd_set h hf];simp[filesB,List.map_set]
theorem fileM_congr{g g':Nat→Nat}:∀(k:Nat) (l:FS),(∀i,k≤i→i<k+l.length→g i=g' i)→fileM g k l=fileM g' k l
 | _,[],_=>rfl
 | k,e::l,h=>by
   simp only[fileM]
   rw[h k (qnZ _) (by simp),fileM_congr (k+1) l fun i h1 h2=>h i (by omega) (by simp;omega)]
theorem AWs_fileM1(rn:List Nat)(g g':Nat→Nat):∀(k:Nat) (l:FS),AWs rn ((fileM g k l).map (·.1)) ((fileM g' k l).map (·.1))
 | _,[]=>trivial
 | k,_::l=>⟨⟨rfl,rfl⟩,AWs_fileM1 rn g g' (k+1) l⟩
theorem AWs_fileM2(rn:List Nat)(g g':Nat→Nat):∀(k:Nat) (l:FS),(∀i,k≤i→i<k+l.length→rn[g i]? = some (g' i))→AWs rn ((fileM g k l).map (·.2)) ((fileM g' k l).map (·.2))
 | _,[],_=>trivial
 | k,_::l,h=>⟨⟨h k (qnZ _) (by simp),rfl⟩,AWs_fileM2 rn g g' (k+1) l fun i h1 h2=>h i (by omega) (by simp;omega)⟩
theorem AWb_fileM{rn:List Nat}{g g':Nat→Nat}{l:FS}(h:∀i,i<l.length→rn[g i]? = some (g' i)):AWb rn (.map (fileM g 0 l)) (.map (fileM g' 0 l)) :=
 ⟨AWs_fileM1 rn g g' 0 l,AWs_fileM2 rn g g' 0 l fun i _ h2=>h i (by omega)⟩
theorem reB_fileM{h g:Nat→Nat}:∀(k:Nat) (l:FS),(fileM g k l).map (fun e=>(reA h e.1,reA h e.2))=fileM (fun i=>h (g i)) k l
 | _,[]=>rfl
 | k,_::l=>by simp only[fileM,s1Z,reA,reB_fileM (k+1) l]
def DS.cell0(d:DS)(fo m:Nat):ABlk:=.cells true [.ptr fo 0,.map m,.int .i64 d.quota,.int .i64 d.steps,.int .i64 d.armed,.bool d.down]
def DS.blks(d:DS):AHeap:=d.cell0 1 2::.obj true d.fd.blks::.map (fileM (fun i=>i+3) 0 d.fs)::filesB d.fs
theorem DS.blks_length(d:DS):d.blks.length=d.fs.length+3:=by simp[DS.blks]
theorem DS.blks_id(d:DS)(rn:List Nat)(hr:∀i,i<d.blks.length→rn[i]? = some i):∀B∈d.blks,AWb rn B B:=by
 rw[DS.blks_length]at hr;intro B hB;simp only[DS.blks,DS.cell0,qwZ]at hB;rcases hB with rfl | rfl | rfl | hB
 · exact⟨id,⟨hr 1 (by omega),rfl⟩,hr 2 (by omega),⟨rfl,rfl⟩,⟨rfl,rfl⟩,⟨rfl,rfl⟩,rfl,trivial⟩
 · exact⟨rfl,rfl⟩
 · exact AWb_fileM fun i hi=>hr (i+3) (by omega)
 · obtain⟨e,_,rfl⟩:=reZ.1 hB
   exact⟨rfl,rfl⟩
theorem DS.blks_fix(d:DS)(g:Nat→Nat)(hg:∀i,i<d.blks.length→g i=i):∀B∈d.blks,reB g B=B:=by
 rw[DS.blks_length]at hg;intro B hB;simp only[DS.blks,DS.cell0,qwZ]at hB;rcases hB with rfl | rfl | rfl | hB
 · simp[reB,reAs,reA,hg 1 (by omega),hg 2 (by omega)]
 · rfl
 · simp only[reB]
   rw[reB_fileM,fileM_congr 0 d.fs fun i _ hi=>hg (i+3) (by omega)]
 · obtain⟨e,_,rfl⟩:=reZ.1 hB
   rfl
theorem Weak.tailG{A T Tn:AHeap}{F Fn:List AV}{N:Nat}(hN:A.length=N)(hA:∀rn:List Nat,(∀i,i<N→rn[i]? = some i)→∀B∈A,AWb rn B B)(ts:List Nat)(hts:ts.Nodup)
   (hF:AWs (List.range N++ts.map (N+·)) Fn F) (hT:AWg (List.range N++ts.map (N+·)) (A++T) Tn (ts.map (N+·))):Weak N F (A++T) Fn (A++Tn):=by
 have hr:∀i,i<N→(List.range N++ts.map (N+·))[i]? = some i:=fun i hi=>by
   rw[q4Z (by simpa using hi),rfZ hi]
 refine Weak.mk' (List.range N++ts.map (N+·)) ?_ ?_ hF (AWg.append ?_ hT)
 · rw[List.nodup_append]
   refine ⟨List.nodup_range,?_,fun a ha b hb=>?_⟩
   · rw[List.nodup_iff_pairwise_ne,List.pairwise_map]
     exact (List.nodup_iff_pairwise_ne.1 hts).imp fun h e=>h (by omega)
   · obtain⟨c,_,rfl⟩:=reZ.1 hb
     have:=List.mem_range.1 ha;omega
 · rw[List.take_left' (by simp)]
 · refine AWg.of _ _ (by simp[hN]) fun i x b hx hb hlt=>?_
   have hi:i<N:=by rw[←hN];exact (q1Z.1 hx).1
   have hbi:b=i:=by rw[rfZ hi]at hb;cases hb;rfl
   subst hbi
   rw[q2Z,q4Z (by omega),hx]
   exact hA _ hr x (qcZ hx)
structure DAt (H:AHeap) (d:DS) (b fo m:Nat) (g:Nat→Nat):Prop where
 c0:H[b]? = some (d.cell0 fo m)
 fold:H[fo]? = some (.obj true d.fd.blks)
 map:H[m]? = some (.map (fileM g 0 d.fs))
 file:∀(i:Nat) e,d.fs[i]? = some e→H[g i]? = some (.obj true e.2.blks)
 nd:(b::fo::m::(List.range d.fs.length).map g).Nodup
theorem DAt.awg{H:AHeap}{d:DS}{b fo m:Nat}{g:Nat→Nat}(h:DAt H d b fo m g)(rn:List Nat)(hr:∀i,i<d.fs.length+3→rn[i]? = (b::fo::m::(List.range d.fs.length).map g)[i]?) :
   AWg rn H d.blks (b::fo::m::(List.range d.fs.length).map g):=by
 refine AWg.of _ _ (by simp[DS.blks]) fun i x c hx hc hlt=>?_
 have hil:i<d.fs.length+3:=by rw[←DS.blks_length];exact (q1Z.1 hx).1
 rw[q2Z]
 match i,hx,hc with
 | 0,hx,hc =>
   cases hx;cases hc
   rw[h.c0]
   exact⟨id,⟨hr 1 (by omega),rfl⟩,hr 2 (by omega),⟨rfl,rfl⟩,⟨rfl,rfl⟩,⟨rfl,rfl⟩,rfl,trivial⟩
 | 1,hx,hc =>
   cases hx;cases hc
   rw[h.fold];exact⟨rfl,rfl⟩
 | 2,hx,hc =>
   cases hx;cases hc
   rw[h.map]
   refine AWb_fileM fun i hi=>?_
   rw[hr (i+3) (by omega)]
   simp[hi]
 | i+3,hx,hc =>
   simp only[DS.blks,r9Z]at hx hc
   have hi:i<d.fs.length:=by omega
   have he:=q3Z hi;rw[filesB_get he]at hx;cases hx;simp[hi]at hc;subst hc;rw[h.file i _ he];exact⟨rfl,rfl⟩
theorem DAt.weak{H:AHeap}{d:DS}{b fo m:Nat}{g:Nat→Nat}(h:DAt H d b fo m g){F Fn:List AV}{n:Nat}(hn:(b::fo::m::(List.range d.fs.length).map g).take n=List.range n)(hF:AWs (b::fo::m::(List.range d.fs.length).map g) Fn F) :
   Weak n F H Fn d.blks :=
 Weak.mk' _ h.nd hn hF (h.awg _ fun _ _=>rfl)
theorem Aft.closeDS(d:DS){T Tn:AHeap}{v v':AV}(ts:List Nat)(hts:ts.Nodup)(hlen:Tn.length=ts.length)(hF:AW (0::ts.map (d.fs.length+3+·)) v' v)
   (hT:∀(i t:Nat) x,ts[i]? = some t→Tn[i]? = some x→∃y,T[t]? = some y∧AWb (0::ts.map (d.fs.length+3+·)) x y):Aft 1 [v] (d.blks++T) fun F H=>F=[v']∧H=.obj true d.blks::Tn:=by
 have hl:=d.blks_length
 have hr:∀i,i<d.blks.length→(List.range d.blks.length)[i]? = some i:=fun i hi=>rfZ hi
 refine Aft.close (o:=true) (b:=0) (sub:=d.blks) (rs:=List.range d.blks.length) (ks:=List.range' 1 (d.fs.length+2)) (hr 0 (by omega)) List.nodup_range (by simp;omega) ?_ ?_ ⟨d.cell0 1 2,rfl,rfl⟩ ?_ (by simp;omega) ?_
 · intro c x hc h0 _ _
   have:=List.mem_range.1 hc
   rw[List.mem_range'_1];omega
 · refine AWg.of _ _ (by simp) fun i x b hx hb hlt=>?_
   have hi:i<d.blks.length:=(q1Z.1 hx).1
   rw[hr i hi]at hb;cases hb
   rw[q2Z,q4Z hi,hx];exact d.blks_id _ hr x (qcZ hx)
 · intro i y hy hd
   have hm:=qcZ hy;simp only[DS.blks,DS.cell0,qwZ]at hm;rcases hm with rfl | rfl | rfl | hm
   · rfl
   · rfl
   · rfl
   · obtain⟨e,_,rfl⟩:=reZ.1 hm
     rfl
 · refine Aft.weak (Fn:=[v']) (Hn:=.obj true d.blks::Tn) (Weak.mk' (0::ts.map (d.fs.length+3+·)) ?_ rfl ⟨hF,trivial⟩ (AWg_closed (b:=0) (by simp;omega) _ _ (by simp[hlen]) fun i c x h1 h2=>?_)) (by simp;omega) (Aft.done (by simp) ⟨rfl,rfl⟩)
   · rw[rdZ]
     refine ⟨fun h=>?_,?_⟩
     · obtain⟨a,_,h⟩:=reZ.1 h;omega
     · rw[List.nodup_iff_pairwise_ne,List.pairwise_map]
       exact (List.nodup_iff_pairwise_ne.1 hts).imp fun h e=>h (by omega)
   · cases i with
     | zero =>
       cases h1;cases h2;exact .inl ⟨rfl,rfl⟩
     | succ i =>
       simp only[r9Z,qzZ]at h1 h2;obtain⟨t,ht,rfl⟩:=qlZ.1 h1;obtain⟨y,hy,hw⟩:=hT i t x ht h2
       refine .inr ⟨⟨by omega,by rw[List.mem_range'_1];omega⟩,?_⟩
       rw[q2Z,q5Z (by omega),hl,s3Z,hy]
       exact hw
noncomputable def dsD(sub:AHeap):Option DS:=open Classical in if h:∃d:DS,sub=d.blks then some h.choose else none
theorem dsD_eq{sub:AHeap}{d:DS}(h:dsD sub=some d):sub=d.blks:=by
 unfold dsD at h;split at h
 · rename_i hx
   cases h;exact hx.choose_spec
 · cases h
theorem fileM_inj(g:Nat→Nat):∀(k:Nat) {l m:FS},fileM g k l=fileM g k m→filesB l=filesB m→l=m
 | _,[],[],_,_=>rfl
 | _,[],_::_,h,_=>by simp[fileM]at h
 | _,_::_,[],h,_=>by simp[fileM]at h
 | k,(a,x)::l,(b,y)::m,h,h'=>by
   simp only[fileM,List.cons.injEq,Prod.mk.injEq,AV.int.injEq,true_and,and_true]at h;simp only[filesB,s1Z,List.cons.injEq,ABlk.obj.injEq,true_and]at h';have h3:=congrArg fileD h'.1;rw[fileD_blks,fileD_blks]at h3;rw[h.1,Option.some.inj h3,fileM_inj g (k+1) h.2 h'.2]
theorem dblks_inj{d e:DS}(h:d.blks=e.blks):d=e:=by
 obtain⟨fd,fs,q,s,a,w⟩:=d;obtain⟨fd',fs',q',s',a',w'⟩:=e;simp only[DS.blks,DS.cell0,List.cons.injEq,ABlk.cells.injEq,ABlk.obj.injEq,ABlk.map.injEq,AV.int.injEq,AV.bool.injEq,true_and,and_true]at h;obtain⟨⟨h1,h2,h3,h4⟩,h5,h6,h7⟩:=h;rw[h1,h2,h3,h4,blks_inj h5,fileM_inj _ 0 h6 h7]
@[simp] theorem dsD_blks(d:DS):dsD d.blks=some d:=by
 unfold dsD;have h:∃e:DS,d.blks=e.blks:=⟨d,rfl⟩;rw[dif_pos h];have:=Classical.choose_spec h;exact congrArg some (dblks_inj this).symm
end
section
open Go Go.Lib
attribute [-simp] drawOk_eq adraw qrun acode aops
theorem DS.blks_head(d:DS)(T:AHeap):d.blks++T=.cells true [.ptr 1 0,.map 2,.int .i64 d.quota,.int .i64 d.steps,.int .i64 d.armed,.bool d.down]::(.obj true d.fd.blks::.map (fileM (fun i=>i+3) 0 d.fs)::(filesB d.fs++T)):=rfl
theorem step_ct(d:DS)(T:AHeap)(F:FuncId)(caps:List AV){v:AV}{H':AHeap}(he:∀cargs w,(callFunc F cargs).run Pz w=.ok (.enter F cargs) w)(hF:F≠yl)
   (hs:0≤d.steps∧d.steps≤4611686018427387903) (ha:0≤d.armed∧d.armed≤4611686018427387903) (hlen:(d.blks++T).length≤H'.length)
   (hdown:d.count.down=true→v=.int .i64 13∧H'=d.count.blks++T)
   (hup:d.count.down=false→Ct Pz F caps (d.count.blks++T) v H') :
   Ct Pz 149 [.ptr 0 0,.func F [] caps] (d.blks++T) v H':=by
 have hw:IntKind.i64.wrap (d.steps+1)=d.steps+1:=wr_i64 (by omega) (by omega)
 have hb:=DS.blks_head d T;have hb2:=DS.blks_head d.count T;rw[DS.count_fd,DS.count_fs,DS.count_quota,DS.count_steps]at hb2
 obtain⟨rest,hrest⟩:∃rest:AHeap,.obj true d.fd.blks::.map (fileM (fun i=>i+3) 0 d.fs)::(filesB d.fs++T)=rest:=⟨_,rfl⟩
 rw[hrest]at hb hb2;obtain⟨a',ea⟩:∃a',d.count.armed=a':=⟨_,rfl⟩;obtain⟨w',ew⟩:∃w',d.count.down=w':=⟨_,rfl⟩;rw[ea,ew]at hb2;rw[ew]at hdown hup;rw[hb2]at hdown hup;rw[hb]at hlen ⊢;refine ct_of_simE Tryz.func149 rfl ?_;simp only[Tryz.ntmps149,q7Z,q8Z,Nat.reduceAdd,Nat.reduceSub,qbZ,q9Z,qaZ]
 refine Sim.step hmix goks_nil (n:=0) (by simp;exact⟨rfl,rfl⟩) (by simp) ?_
 refine Sim.step hmix goks_nil (n:=0) (by simp;exact⟨rfl,rfl⟩) (by simp) ?_
 refine Sim.step hmix goks_nil (n:=0) (by simp[hw];exact⟨rfl,rfl⟩) (by simp) ?_
 refine Sim.seq (Sim.mono (Q:=fun e F' H1=>e=.normal∧LessF ([.ptr 0 0,.func F [] caps,.top,.top,.int .i64 0]++qbZ 42 .top) F'∧H1=.cells true [.ptr 1 0,.map 2,.int .i64 d.quota,.int .i64 (d.steps+1),.int .i64 a',.bool w']::rest) ?_ ?_)
 · by_cases h1:0<d.armed
   · cases h2:d.down with
     | true =>
       have e:d.count=⟨d.fd,d.fs,d.quota,d.steps+1,d.armed,d.down⟩:=by unfold DS.count;rw[if_neg (by simp[h2])]
       rw[e]at ea ew;dsimp only at ea ew;rw[h2]at ew
       subst ea;subst ew
       refine Sim.exec hmix goks_nil (n:=0) (by simp[h1];exact⟨rfl,rfl,rfl⟩) (by simp) ?_
       exact⟨rfl,by simp,rfl⟩
     | false =>
       have e:d.count=⟨d.fd,d.fs,d.quota,d.steps+1,d.armed-1,decide (d.armed-1=0)⟩:=by unfold DS.count;rw[if_pos ⟨h1,h2⟩]
       rw[e]at ea ew;dsimp only at ea ew
       have hw1:IntKind.i64.wrap (d.armed-1)=d.armed-1:=wr_i64 (by omega) (by omega)
       rw[ea]at hw1 ew
       have ew':(a'==0)=w':=by rw[←ew];by_cases h:a'=0 <;> simp[h]
       refine Sim.exec hmix goks_nil (n:=0) (by simp[h1,ea,hw1,ew'];exact⟨rfl,rfl,rfl⟩) (by simp) ?_
       exact⟨rfl,by simp,rfl⟩
   · have e:d.count=⟨d.fd,d.fs,d.quota,d.steps+1,d.armed,d.down⟩:=by unfold DS.count;rw[if_neg (by simp[h1])]
     rw[e]at ea ew;dsimp only at ea ew
     subst ea;subst ew
     refine Sim.exec hmix goks_nil (n:=0) (by simp[h1];exact⟨rfl,rfl,rfl⟩) (by simp) ?_
     exact⟨rfl,by simp,rfl⟩
 rintro e F' H1 hlen1 ⟨rfl,hF,rfl⟩;dsimp only;refine Sim.less hF ?_;clear hF hlen1;simp only[q9Z,qaZ,qbZ]
 cases w' with
 | true =>
   obtain⟨rfl,rfl⟩:=hdown rfl
   refine Sim.exec hmix goks_nil (n:=0) (by simp;exact⟨rfl,rfl,rfl⟩) (by simp) ?_
   exact⟨.inr rfl,by simp[Tryz.f149],rfl⟩
 | false =>
   have hΓ:GOk Pz (gams [(F,oneAt caps (.cells true [.ptr 1 0,.map 2,.int .i64 d.quota,.int .i64 (d.steps+1),.int .i64 a',.bool false]::rest) v H')]):=goks_cons (oneAt_sound he (hup rfl) (by simpa using hlen)) goks_nil (hg:=hF)
   refine Sim.step hmix hΓ (n:=0) (by simp;exact⟨rfl,rfl⟩) (by simp) ?_
   have hF':¬F=1000000000:=hF
   refine Sim.exec hmix hΓ (n:=0) (by simp[hF'];exact⟨rfl,rfl,rfl⟩) (by simp) ?_
   exact⟨.inr rfl,by simp[Tryz.f149],rfl⟩
def DS.heap(d:DS)(T:AHeap):AHeap:=d.cell0 1 2::.obj true d.fd.blks::.map (fileM (fun i=>i+3) 0 d.fs)::(filesB d.fs++T)
theorem DS.heap_eq(d:DS)(T:AHeap):d.heap T=d.blks++T:=rfl
theorem DS.heap_length(d:DS)(T:AHeap):(d.heap T).length=d.fs.length+T.length+3:=by simp[DS.heap]
structure Behind (X:AHeap) (n:Nat):Prop where
 len:X.length=n
 get:∀(T:AHeap) (j:Nat),(X++T)[n+j]? = T[j]?
 get0:∀(T:AHeap),(X++T)[n]? = T[0]?
 set:∀(T:AHeap) (j:Nat) v,(X++T).set (n+j) v=X++T.set j v
 set0:∀(T:AHeap) v,(X++T).set n v=X++T.set 0 v
theorem behind(fs:FS):Behind (filesB fs) fs.length:=by
 have hl:(filesB fs).length=fs.length:=filesB_length fs
 refine ⟨hl,fun T j=>?_,fun T=>?_,fun T j v=>?_,fun T v=>?_⟩
 · rw[q5Z (by omega),hl];congr 1;omega
 · rw[q5Z (by omega),hl,Nat.sub_self]
 · rw[List.set_append_right _ _ (by omega),hl];congr 2;omega
 · rw[List.set_append_right _ _ (by omega),hl,Nat.sub_self]
theorem DS.tail(d:DS){T Tn:AHeap}{F Fn:List AV}(ts:List Nat)(hts:ts.Nodup)
   (hF:AWs (List.range (d.fs.length+3)++ts.map (d.fs.length+3+·)) Fn F) (hlen:Tn.length=ts.length)
   (hT:∀(i t:Nat) x y,ts[i]? = some t→Tn[i]? = some x→T[t]? = some y→AWb (List.range (d.fs.length+3)++ts.map (d.fs.length+3+·)) x y):Weak (d.fs.length+3) F (d.heap T) Fn (d.heap Tn):=by
 have hl:=d.blks_length;rw[DS.heap_eq,DS.heap_eq]
 refine Weak.tailG hl (fun rn hr=>d.blks_id rn (by rw[hl];exact hr)) ts hts hF (AWg.of _ _ (by simp[hlen]) fun i x b hx hb hlt=>?_)
 rw[qzZ]at hb;obtain⟨t,ht,rfl⟩:=qlZ.1 hb;rw[qdZ,hl]at hlt
 have htl:t<T.length:=by omega
 rw[q2Z,q5Z (by omega),hl,s3Z,q3Z htl]
 exact hT i t x _ ht hx (q3Z htl)
theorem range_at(n:Nat)(ts:List Nat){i:Nat}(hi:i<n):(List.range n++ts)[i]? = some i:=by
 rw[q4Z (by simpa using hi),rfZ hi]
theorem range_beh(n:Nat)(ts:List Nat)(i:Nat):(List.range n++ts)[n+i]? = ts[i]?:=by
 rw[q5Z (by simp)];simp
def dnInl:List FuncId:=[20]
noncomputable def liΓ0:Gam:=gams [(72,fnamesS)]
theorem liΓ_ok:GOk Pz (runG Pz liΓ0 0 dnInl 2):=gok_run hmix (goks_cons fnames_sound goks_nil) 0 dnInl 2
theorem list_ct(d:DS)(hsm:d.fd.small):Ct Pz 25 [.ptr 0 0] (d.heap []) (.sl (d.fs.length+3) 0 d.list.length 1 false) (d.heap [.cells true (d.list.map .str)]):=by
 have hΓ:=liΓ_ok;have hlen:=d.heap_length [];obtain⟨n,hn⟩:∃n,d.fs.length=n:=⟨_,rfl⟩;have hX:=behind d.fs
 have tl:=fun {T Tn F Fn}=>DS.tail d (T:=T) (Tn:=Tn) (F:=F) (Fn:=Fn)
 rw[hn]at hlen hX tl;refine ct_of_sim Tryz.func25 rfl ?_;simp only[Tryz.ntmps25,q7Z,q8Z,Nat.reduceAdd,Nat.reduceSub,qbZ,q9Z,qaZ];rw[hlen,hn];unfold DS.heap DS.cell0;have hXl:=hX.len;obtain⟨X,eX⟩:∃X,filesB d.fs=X:=⟨_,rfl⟩;rw[eX]at hX hXl ⊢
 refine Sim.step hmix hΓ (n:=0) (by simp;exact⟨rfl,rfl⟩) (by simp[hXl]) ?_
 cases hd:d.down with
 | true =>
   have hl:d.list=[]:=by unfold DS.list;rw[hd];rfl
   rw[hl]
   refine Sim.exec hmix hΓ (n:=0) (by simp +decide [dnInl,Tryz.f20];exact⟨rfl,rfl,rfl⟩) (by simp[hXl]) ?_
   refine ⟨.inr rfl,_,by simp[Tryz.f25] <;> rfl,?_⟩
   have:=tl (T:=[]) (Tn:=[.cells true []]) (F:=[.nils]) (Fn:=[.sl (n+3) 0 0 1 false]) [100] (by decide) (by simp[AWs,AW]) rfl (fun i t x y h1 h2 h3=>by simp at h3)
   unfold DS.heap DS.cell0 at this;rw[eX,hd]at this;simpa using this
 | false =>
   have hl:d.list=d.fd.names:=by unfold DS.list;rw[hd];rfl
   rw[hl]
   refine Sim.step hmix hΓ (n:=0) (by simp +decide [dnInl,Tryz.f20];exact⟨rfl,rfl⟩) (by simp[hXl]) ?_
   refine Sim.exec hmix hΓ (n:=0) (by simp +decide [liΓ0,fnamesS,hsm,hXl];exact⟨rfl,rfl,rfl⟩) (by simp[hXl]) ?_
   refine ⟨.inr rfl,_,by simp[Tryz.f25] <;> rfl,?_⟩
   have:=tl (T:=[.cells true (d.fd.names.map .str)]) (Tn:=[.cells true (d.fd.names.map .str)]) (F:=[.sl (n+3) 0 d.fd.names.length 1 false]) (Fn:=[.sl (n+3) 0 d.fd.names.length 1 false]) [0] (by decide) (by simp[AWs,AW]) rfl (fun i t x y h1 h2 h3=>by
     match i,h1,h2 with
     | 0,h1,h2=>cases h1;cases h2;cases h3;exact⟨id,(AWs_free (frees_map d.fd.names AV.str fun _=>rfl)).2 trivial⟩)
   unfold DS.heap DS.cell0 at this;rw[eX,hd]at this;simpa using this
def flA:List (List UInt8×List UInt8)→List AV
 | []=>[]
 | e::l=>.str e.1::.str e.2::flA l
@[simp] theorem flA_length:∀l,(flA l).length=l.length*2
 | []=>rfl
 | e::l=>by simp[flA,flA_length l];omega
theorem flA_append:∀l m,flA (l++m)=flA l++flA m
 | [],m=>rfl
 | e::l,m=>by simp[flA,flA_append l m]
@[simp] theorem frees_flA:∀l,frees (flA l)=true
 | []=>rfl
 | e::l=>by simp[flA,frees_flA l]
theorem flA_get:∀(l:List (List UInt8×List UInt8)) (k:Nat) (h:k<l.length),((flA l).drop (k*2)).take 2=[.str l[k].1,.str l[k].2]
 | a::l,0,_=>by simp[flA]
 | a::l,k+1,h=>by
   have:=flA_get l k (by simpa using h)
   rw[show (k+1)*2=2+k*2 by omega]
   simp only[flA,List.getElem_cons_succ];rw[←List.drop_drop];simpa using this
def rdInlD:List FuncId:=[114]
noncomputable def fsΓ0(d:DS):Gam:=gams [(25,oneAt [.ptr 0 0] (d.heap []) (.sl (d.fs.length+3) 0 d.list.length 1 false) (d.heap [.cells true (d.list.map .str)])),(73,ffindS),(115,fbytesS)]
theorem fsΓ_ok(d:DS)(hsm:d.fd.small):GOk Pz (runG Pz (fsΓ0 d) 0 rdInlD 2):=gok_run hmix (goks_cons (oneAt_sound (enter_of Tryz.func25 rfl (by decide)) (list_ct d hsm) (by simp[DS.heap])) (goks_cons ffind_sound (goks_cons fbytes_sound goks_nil))) 0 rdInlD 2
theorem files_ct(d:DS){A B:Nat}(hok:d.ok A B)(hA:A≤1000000):Ct Pz 40 [.ptr 0 0] (d.heap []) (.sl (d.fs.length+3) 0 d.files.length 2 false) (d.heap [.cells true (flA d.files)]):=by
 have hsm:d.fd.small:=FD.ok_mono hok.fd hA;have hΓ:=fsΓ_ok d hsm;have hlen:=d.heap_length [];obtain⟨n,hn⟩:∃n,d.fs.length=n:=⟨_,rfl⟩;have hX:=behind d.fs
 have tl:=fun {T Tn F Fn}=>DS.tail d (T:=T) (Tn:=Tn) (F:=F) (Fn:=Fn)
 rw[hn]at hlen hX tl;refine ct_of_sim Tryz.func40 rfl ?_;simp only[Tryz.ntmps40,q7Z,q8Z,Nat.reduceAdd,Nat.reduceSub,qbZ,q9Z,qaZ];rw[hlen,hn]
 have hfl:d.files.length=d.list.length:=by simp[DS.files]
 obtain⟨ks,hks⟩:∃ks,d.list=ks:=⟨_,rfl⟩;obtain⟨m,hm⟩:∃m,ks.length=m:=⟨_,rfl⟩
 have hm6:m≤1000000:=by
   rw[←hm,←hks];unfold DS.list;split
   · simp
   · have h1:=(FD.ok_now hsm).2
     unfold FD.names;rw[(sortU_perm _).length_eq];simpa[NM.keys] using h1
 have hdn:0<m→d.down=false:=fun h=>by
   cases hd:d.down with
   | false=>rfl
   | true=>unfold DS.list at hks;rw[hd]at hks;rw[←hks]at hm;simp at hm;omega
 rw[hfl,hks,hm];simp only[q8Z,Nat.add_zero]at hlen ⊢
 have fks:∀rn:List Nat,AWs rn (ks.map AV.str) (ks.map AV.str):=fun rn=>(AWs_free (frees_map ks AV.str fun _=>rfl)).2 trivial
 refine Sim.step hmix hΓ (n:=0) (by simp;exact⟨rfl,rfl⟩) (by simp[DS.heap,hn]) ?_
 refine Sim.seq (Sim.mono (Q:=fun e F' H'=>e=.normal∧Weak (n+3) F' H' ([.ptr 0 0,.top,.sl (n+4) 0 m 2 false]++qbZ 26 .top) (d.heap [.cells true (ks.map .str),.cells true (flA d.files)])) (Sim.step hmix hΓ (n:=0) (by simp[rdInlD,fsΓ0,hks,hm,hn];exact⟨rfl,rfl⟩) (by simp[DS.heap,hn]) ?_) ?_)
 · refine Sim.block (Sim.loopW (fun i:Nat=>i≤m)
     (fun i=>[.ptr 0 0,.top,.sl (n+4) 0 i 2 false,.top,.top,.top,.top,.top,.sl (n+3) 0 m 1 false,.int .i64 m,.int .i64 i]++qbZ 18 .top)
     (fun i=>d.heap [.cells true (ks.map .str),.cells true (flA (d.files.take i))]) (fun i=>m-i) 0 (by simp[DS.heap,hn]) (by simp) ?_ fun i hi=>?_)
   · refine tl (T:=[.cells true (ks.map .str)]) [0,100] (by decide) ?_ rfl ?_
     · simp[AW]
     · intro j t x y h1 h2 h3
       match j,h1,h2 with
       | 0,h1,h2=>cases h1;cases h2;cases h3;exact⟨id,fks _⟩
       | 1,h1,h2=>cases h1;cases h3
   · by_cases hlt:i<m
     · have hltI:(i:Int)<m:=by omega
       have hilt:i<ks.length:=by omega
       obtain⟨k,hk⟩:∃k,ks[i]=k:=⟨_,rfl⟩
       have hg:∀h,ks[i]'h=k:=fun h=>hk
       have hd:=hdn (by omega)
       have hmem:k∈d.fd.names:=by
         rw[←hk]
         have:ks=d.fd.names:=by rw[←hks];unfold DS.list;rw[hd];rfl
         rw[←this];exact r3Z hilt
       obtain⟨v,hv⟩:=FD.names_get hmem;obtain⟨f,hf,hfok⟩:=DS.has_file hok hv;have hfind:=FD.find_get hv
       have hlook:=find_files (fun i=>i+3) v 0 d.fs 0
       rw[hf]at hlook;simp only[rhZ,s8Z]at hlook;have hfb:=filesB_get (FS.at_get hf);have hal:=FS.at_lt hf;obtain⟨q,hq⟩:∃q,FS.at d.fs v=q:=⟨_,rfl⟩;rw[hq]at hlook hfb hal;rw[hn]at hal;dsimp only at hfb
       have htext:d.text k=f.now:=by unfold DS.text DS.file;rw[hv];dsimp only;rw[hf]
       have hnx:d.files.take (i+1)=d.files.take i++[(k,f.now)]:=by
         rw[List.take_add_one]
         congr 1
         unfold DS.files;rw[hks,qzZ,q3Z hilt,hk];simp[htext]
       obtain⟨acc,hacc⟩:∃acc,d.files.take i=acc:=⟨_,rfl⟩
       have hal2:acc.length=i:=by rw[←hacc,qjZ,hfl,hks,hm];omega
       rw[hacc]at hnx ⊢;have hXl:=hX.len;have hXg:=hX.get;have hXg0:=hX.get0;unfold DS.heap DS.cell0;obtain⟨X,eX⟩:∃X,filesB d.fs=X:=⟨_,rfl⟩;rw[eX]at hfb hXl hXg hXg0 ⊢
       have hXq:∀T,(X++T)[q]? = some (.obj true f.blks):=fun T=>by rw[q4Z (by omega)];exact hfb
       have hXsq:∀T,(X++T).set q (.obj true f.blks)=X++T:=fun T=>by
         have hql:q<(X++T).length:=by simp;omega
         have h1:(X++T)[q]'hql=.obj true f.blks:=by have:=hXq T;rw[q3Z hql]at this;exact Option.some.inj this
         rw[←h1,List.set_getElem_self]
       have hXs:=hX.set;have hXs0:=hX.set0;rw[eX]at hXs hXs0
       have y1:IntKind.i64.wrap ((i:Int)+1)=i+1:=wr_i64 (by omega) (by omega)
       have b1:(i+1)*32≤140737488355328:=by omega
       have b2:i+1≤9223372036854775807:=by omega
       have htk:List.take (i*2) (flA acc)=flA acc:=q6Z (by simp[hal2])
       rw[hd]
       refine Sim.step hmix hΓ (n:=0) (by simp[hltI];exact⟨rfl,rfl⟩) (by simp[hXl]) ?_
       refine Sim.step hmix hΓ (n:=0) (by simp;exact⟨rfl,rfl⟩) (by simp[hXl]) ?_
       refine Sim.seq (Sim.block ?_)
       refine Sim.step hmix hΓ (n:=0) (by simp[hlt,hXl,hm,hg];exact⟨rfl,rfl⟩) (by simp[hXl]) ?_
       refine Sim.step hmix hΓ (n:=0) (by simp[rdInlD,fsΓ0,ffindS,hfind,hlook,Tryz.f114];exact⟨rfl,rfl⟩) (by simp[hXl]) ?_
       refine Sim.exec hmix hΓ (n:=0) (by simp[rdInlD,fsΓ0,fbytesS,hXq,hXsq,hXs,hXl,hal2,htk,b1,b2];exact⟨rfl,rfl,rfl⟩) (by simp[hXl]) ?_
       dsimp only
       refine Sim.exec hmix hΓ (n:=0) (by simp[y1];exact⟨rfl,rfl,rfl⟩) (by simp[hXl]) ?_
       dsimp only
       refine ⟨i+1,by omega,?_,by omega⟩
       rw[hnx,flA_append]
       have tlx:=fun {T Tn F Fn}=>tl (T:=T) (Tn:=Tn) (F:=F) (Fn:=Fn) [0,3] (by decide)
       unfold DS.heap DS.cell0 at tlx;rw[eX,hd]at tlx
       refine tlx ?_ rfl fun j t x y h1 h2 h3=>?_
       · simp[AW]
       · match j,h1,h2 with
         | 0,h1,h2=>cases h1;cases h2;cases h3;exact⟨id,fks _⟩
         | 1,h1,h2=>cases h1;cases h2;cases h3;simp[AWb,flA]
     · have hin:i=m:=by omega
       subst hin
       have hltI:¬(i:Int)<i:=by omega
       refine Sim.exec hmix hΓ (n:=0) (by simp;exact⟨rfl,rfl,rfl⟩) (by simp[DS.heap,hn]) ?_
       dsimp only;rw[if_pos rfl]
       refine ⟨by trivial,?_⟩
       have hall:d.files.take i=d.files:=q6Z (by rw[hfl,hks,hm];exact qnZ _)
       rw[hall]
       refine tl [0,1] (by decide) ?_ rfl fun j t x y h1 h2 h3=>?_
       · simp[AW]
       · match j,h1,h2 with
         | 0,h1,h2=>cases h1;cases h2;cases h3;exact⟨id,fks _⟩
         | 1,h1,h2=>cases h1;cases h2;cases h3;simp[AWb]
 rintro e F' H' hlen1 ⟨rfl,hwk⟩;dsimp only;refine Sim.weak hwk hlen1 ?_;clear hwk hlen1;simp only[q9Z,qaZ,qbZ]
 refine Sim.exec hmix hΓ (n:=0) (by simp;exact⟨rfl,rfl,rfl⟩) (by simp[DS.heap,hn]) ?_
 refine ⟨.inr rfl,_,by simp[Tryz.f40] <;> rfl,?_⟩
 refine tl [1] (by decide) ?_ rfl fun j t x y h1 h2 h3=>?_
 · simp[AW]
 · match j,h1,h2 with
   | 0,h1,h2=>cases h1;cases h2;cases h3;simp[AWb]
def sumL(l:List (List UInt8×List UInt8)):Nat:=(l.map fun e=>e.2.length).sum
theorem sumL_snoc(l:List (List UInt8×List UInt8))(e:List UInt8×List UInt8):sumL (l++[e])=sumL l+e.2.length:=by simp[sumL]
theorem DS.used_sum(d:DS):d.used=sumL d.files:=by simp[DS.used,sumL,DS.files,Function.comp_def]
theorem DS.text_le{d:DS}{A B:Nat}(h:d.ok A B)(k:List UInt8):(d.text k).length≤B:=by
 unfold DS.text DS.file
 cases hg:d.fd.now.get k with
 | none=>simp
 | some n =>
   obtain⟨f,hf,hk⟩:=DS.has_file h hg;dsimp only;rw[hf];exact PF.ok_now hk
theorem DS.list_le{d:DS}{A B:Nat}(h:d.ok A B):d.list.length≤A:=by
 unfold DS.list;split
 · simp
 · have h1:=(FD.ok_now h.fd).2
   unfold FD.names;rw[(sortU_perm _).length_eq];simpa[NM.keys] using h1
theorem sumL_le{B:Nat}:∀(l:List (List UInt8×List UInt8)),(∀e∈l,e.2.length≤B)→sumL l≤l.length*B
 | [],_=>by simp[sumL]
 | e::l,h=>by
   have h1:=h e (qhZ ..)
   have h2:=sumL_le l fun x hx=>h x (qiZ _ hx)
   simp only[sumL,s1Z,List.sum_cons,q7Z,Nat.succ_mul]at h2 ⊢;omega
theorem DS.sum_le{d:DS}{A B:Nat}(h:d.ok A B)(hA:A≤1000000)(hB:B≤1000000000000)(i:Nat):sumL (d.files.take i)≤1000000000000000000:=by
 have h1:=sumL_le (B:=B) (d.files.take i) fun e he=>by
   obtain⟨k,_,rfl⟩:=reZ.1 (List.mem_of_mem_take he);exact DS.text_le h k
 have h2:(d.files.take i).length≤1000000:=by
   have:=DS.list_le h
   simp[DS.files];omega
 have h3:=Nat.mul_le_mul h2 hB;omega
noncomputable def usΓ(d:DS):Gam:=gams [(40,oneAt [.ptr 0 0] (d.heap []) (.sl (d.fs.length+3) 0 d.files.length 2 false) (d.heap [.cells true (flA d.files)]))]
theorem usΓ_ok(d:DS){A B:Nat}(hok:d.ok A B)(hA:A≤1000000):GOk Pz (usΓ d):=goks_cons (oneAt_sound (enter_of Tryz.func40 rfl (by decide)) (files_ct d hok hA) (by simp[DS.heap])) goks_nil
theorem used_ct(d:DS){A B:Nat}(hok:d.ok A B)(hA:A≤1000000)(hB:B≤1000000000000):Ct Pz 32 [.ptr 0 0] (d.heap []) (.int .i64 d.used) (d.heap []):=by
 have hΓ:=usΓ_ok d hok hA;have hlen:=d.heap_length [];have hsum:=DS.sum_le hok hA hB;rw[DS.used_sum];obtain⟨n,hn⟩:∃n,d.fs.length=n:=⟨_,rfl⟩;have hX:=behind d.fs
 have tl:=fun {T Tn F Fn}=>DS.tail d (T:=T) (Tn:=Tn) (F:=F) (Fn:=Fn)
 rw[hn]at hlen hX tl;refine ct_of_sim Tryz.func32 rfl ?_;simp only[Tryz.ntmps32,q7Z,q8Z,Nat.reduceAdd,Nat.reduceSub,qbZ,q9Z,qaZ];rw[hlen];obtain⟨l,hl⟩:∃l,d.files=l:=⟨_,rfl⟩;obtain⟨m,hm⟩:∃m,l.length=m:=⟨_,rfl⟩;rw[hl]at hsum ⊢
 have hm6:m≤1000000:=by
   have:=DS.list_le hok
   rw[←hm,←hl];simp[DS.files];omega
 simp only[q8Z,Nat.add_zero]at hlen ⊢
 refine Sim.step hmix hΓ (n:=0) (by simp;exact⟨rfl,rfl⟩) (by simp[DS.heap,hn]) ?_
 refine Sim.seq (Sim.mono (Q:=fun e F' H'=>e=.normal∧Weak (n+3) F' H' ([.ptr 0 0,.top,.int .i64 (sumL l)]++qbZ 16 .top) (d.heap [])) (Sim.step hmix hΓ (n:=0) (by simp[usΓ,hl,hm,hn];exact⟨rfl,rfl⟩) (by simp[DS.heap,hn]) ?_) ?_)
 · refine Sim.block (Sim.loopW (fun i:Nat=>i≤m)
     (fun i=>[.ptr 0 0,.top,.int .i64 (sumL (l.take i)),.top,.top,.top,.sl (n+3) 0 m 2 false,.int .i64 m,.int .i64 i]++qbZ 10 .top)
     (fun i=>d.heap [.cells true (flA l)]) (fun i=>m-i) 0 (by simp[DS.heap,hn]) (by simp) ?_ fun i hi=>?_)
   · refine tl [0] (by decide) ?_ rfl ?_
     · simp[AW,sumL]
     · intro j t x y h1 h2 h3
       match j,h1,h2 with
       | 0,h1,h2=>cases h1;cases h2;cases h3;simp[AWb]
   · by_cases hlt:i<m
     · have hltI:(i:Int)<m:=by omega
       have hilt:i<l.length:=by omega
       obtain⟨e,he⟩:∃e,l[i]=e:=⟨_,rfl⟩;have hg:=flA_get l i hilt;rw[he]at hg
       have hnx:l.take (i+1)=l.take i++[e]:=by rw[List.take_add_one,q3Z hilt,he];rfl
       have hs:=hsum (i+1);rw[hnx,sumL_snoc]at hs;have hXl:=hX.len;have hXg:=hX.get;have hXg0:=hX.get0;have hXs:=hX.set;have hXs0:=hX.set0
       have k1:i*2+2≤m*2:=by omega
       have y1:IntKind.i64.wrap ((i:Int)+1)=i+1:=wr_i64 (by omega) (by omega)
       obtain⟨s,hs0⟩:∃s,sumL (l.take i)=s:=⟨_,rfl⟩;rw[hs0]at hs ⊢
       have y2:IntKind.i64.wrap ((s:Int)+e.2.length)=s+e.2.length:=wr_i64 (by omega) (by omega)
       unfold DS.heap DS.cell0;obtain⟨X,eX⟩:∃X,filesB d.fs=X:=⟨_,rfl⟩;rw[eX]at hXl hXg hXg0 hXs hXs0 ⊢
       refine Sim.step hmix hΓ (n:=0) (by simp[hltI];exact⟨rfl,rfl⟩) (by simp[hXl]) ?_
       refine Sim.step hmix hΓ (n:=0) (by simp;exact⟨rfl,rfl⟩) (by simp[hXl]) ?_
       refine Sim.seq (Sim.block ?_)
       refine Sim.step hmix hΓ (n:=0) (by simp +decide [hlt,hXl,hm,hg,k1];exact⟨rfl,rfl⟩) (by simp[hXl]) ?_
       refine Sim.exec hmix hΓ (n:=0) (by simp[hXl,y2];exact⟨rfl,rfl,rfl⟩) (by simp[hXl]) ?_
       dsimp only
       refine Sim.exec hmix hΓ (n:=0) (by simp[y1];exact⟨rfl,rfl,rfl⟩) (by simp[hXl]) ?_
       dsimp only
       refine ⟨i+1,by omega,?_,by omega⟩
       rw[hnx,sumL_snoc,hs0]
       have tlx:=fun {T Tn F Fn}=>tl (T:=T) (Tn:=Tn) (F:=F) (Fn:=Fn) [0] (by decide)
       unfold DS.heap DS.cell0 at tlx;rw[eX]at tlx
       refine tlx ?_ rfl fun j t x y h1 h2 h3=>?_
       · simp[AW]
       · match j,h1,h2 with
         | 0,h1,h2=>cases h1;cases h2;cases h3;simp[AWb]
     · have hin:i=m:=by omega
       subst hin
       refine Sim.exec hmix hΓ (n:=0) (by simp;exact⟨rfl,rfl,rfl⟩) (by simp[DS.heap,hn]) ?_
       dsimp only;rw[if_pos rfl]
       refine ⟨by trivial,?_⟩
       rw[q6Z (by omega)]
       refine tl [] (by decide) ?_ rfl fun j t x y h1 h2 h3=>by simp at h1
       simp[AW]
 rintro e F' H' hlen1 ⟨rfl,hwk⟩;dsimp only;refine Sim.weak hwk hlen1 ?_;clear hwk hlen1;simp only[q9Z,qaZ,qbZ]
 refine Sim.exec hmix hΓ (n:=0) (by simp;exact⟨rfl,rfl,rfl⟩) (by simp[DS.heap,hn]) ?_
 refine ⟨.inr rfl,_,by simp[Tryz.f32] <;> rfl,?_⟩
 refine tl [] (by decide) ?_ rfl fun j t x y h1 h2 h3=>by simp at h1
 simp
def boxD:ABlk:=.cells true [.ptr 0 0]
def boxS(k:List UInt8):ABlk:=.cells true [.str k]
def madeH(d:DS)(fd:FD)(n:Int)(T:AHeap)(B:ABlk):AHeap :=
 d.cell0 1 2::.obj true fd.blks::.map (fileM (fun i=>i+3) 0 d.fs++[(.int .i64 n,.ptr (d.fs.length+3+T.length) 0)])::(filesB d.fs++(T++[B]))
noncomputable def crΓ0:Gam:=gams [(103,fcreS),(104,fnewS)]
theorem crΓ_ok:GOk Pz crΓ0:=goks_cons fcre_sound (goks_cons fnew_sound goks_nil)
theorem DS.small_fd{d:DS}{A B:Nat}(h:d.ok A B)(hA:A≤1000000):d.fd.small:=FD.ok_mono h.fd hA
theorem DS.fresh{d:DS}{A B:Nat}(h:d.ok A B):FS.get d.fs (d.fd.last+1)=none:=FS.get_none.2 fun hm=>by have:=h.rng _ hm;omega
theorem create1_ct(d:DS){A B:Nat}(hok:d.ok A B)(hA:A≤1000000)(k:List UInt8)(hk:k.length≤9223372036854775807) :
   Ct Pz 150 [.ptr (d.fs.length+3) 0,.ptr (d.fs.length+4) 0] (d.heap [boxD,boxS k]) (.int .i64 (d.fd.create k).2.2)
     (if (d.fd.create k).2.2=0 then madeH d (d.fd.create k).1 (d.fd.create k).2.1 [boxD,boxS k] (.obj true (⟨[],[]⟩:PF).blks) else (⟨(d.fd.create k).1,d.fs,d.quota,d.steps,d.armed,d.down⟩:DS).heap [boxD,boxS k]):=by
 have hΓ:=crΓ_ok;have hsm:=DS.small_fd hok hA;obtain⟨n,hn⟩:∃n,d.fs.length=n:=⟨_,rfl⟩;have hX:=behind d.fs;rw[hn]at hX;refine ct_of_simE Tryz.func150 rfl ?_;simp only[Tryz.ntmps150,q7Z,q8Z,Nat.reduceAdd,Nat.reduceSub,qbZ,q9Z,qaZ];have hXl:=hX.len;have hXg:=hX.get;have hXg0:=hX.get0;have hXs:=hX.set;have hXs0:=hX.set0
 have hz:(d.fd.create k).2.2=0→(d.fd.create k).2.1=d.fd.last+1:=by
   unfold FD.create;split
   · split
     · intro h;exact absurd h (by dsimp only;omega)
     · intro _;rfl
   · intro h;exact absurd h (by dsimp only;omega)
 obtain⟨f',num,e,hc⟩:∃f' num e,d.fd.create k=(f',num,e):=⟨_,_,_,rfl⟩;rw[hc]at hz ⊢;dsimp only at hz ⊢;have hfr:=DS.fresh hok;unfold DS.heap madeH DS.cell0 boxD boxS;rw[hn]
 have hlook:=find_files (fun i=>i+3) num 0 d.fs 0
 obtain⟨X,eX⟩:∃X,filesB d.fs=X:=⟨_,rfl⟩;rw[eX]at hXl hXg hXg0 hXs hXs0 ⊢
 refine Sim.step hmix hΓ (n:=0) (by simp;exact⟨rfl,rfl⟩) (by simp[hXl]) ?_
 refine Sim.seq (Sim.draw hmix (by simp) ?_)
 refine SimR.many hΓ 5 (by simp[stageOps];rfl) (by omega) (by kernel_rfl) (by simp +decide [hXl];first | exact⟨rfl,rfl⟩ | exact⟨by kernel_rfl,rfl,rfl⟩) ?_
 refine SimR.one hΓ _ rfl (by kernel_rfl) (by simp +decide [crΓ0,fcreS,hsm,hk,hc];exact⟨rfl,rfl⟩) ?_
 refine SimR.many hΓ 11 (by simp[stageOps,blankOp];rfl) (by omega) (by kernel_rfl) (by simp +decide;first | exact⟨rfl,rfl⟩ | exact⟨by kernel_rfl,rfl,rfl⟩) ?_
 refine SimR.done rfl ?_;dsimp only;by_cases he:e=0
 · subst he
   have hnum:=hz rfl;subst hnum;rw[hfr]at hlook;simp only[Option.map_none]at hlook
   refine Sim.seq (Sim.step hmix hΓ (n:=0) (by simp;exact⟨rfl,rfl⟩) (by simp[hXl]) (Sim.cond (t:=true) (by simp) ?_))
   rw[if_pos rfl]
   refine Sim.draw hmix (by simp) ?_
   refine SimR.many hΓ 6 (by simp[stageOps];rfl) (by omega) (by kernel_rfl) (by simp +decide [crΓ0,fnewS,hXl];first | exact⟨rfl,rfl⟩ | exact⟨by kernel_rfl,rfl,rfl⟩) ?_
   refine SimR.one hΓ _ rfl (by kernel_rfl) (by simp +decide [hlook];exact⟨rfl,rfl⟩) ?_
   refine SimR.done rfl ?_;dsimp only
   refine Sim.exec hmix hΓ (n:=0) (by simp;exact⟨rfl,rfl,rfl⟩) (by simp[hXl]) ?_
   refine ⟨.inr rfl,by simp[Tryz.f150],?_⟩
   simp
 · have he':(e==0)=false:=by simpa using he
   refine Sim.step hmix hΓ (n:=0) (by simp +decide [he'];exact⟨rfl,rfl⟩) (by simp[hXl]) ?_
   refine Sim.exec hmix hΓ (n:=0) (by simp;exact⟨rfl,rfl,rfl⟩) (by simp[hXl]) ?_
   refine ⟨.inr rfl,by simp[Tryz.f150],?_⟩
   simp[he]
theorem names_made(n t:Nat):(0::1::2::(List.range (n+1)).map fun i=>if i<n then i+3 else n+3+t)=List.range (n+3)++[n+3+t]:=by
 refine List.ext_getElem? fun i=>?_
 rcases s2Z i (n+3) with h | h
 · rw[q4Z (by simpa using h),rfZ h]
   match i,h with
   | 0,_=>rfl
   | 1,_=>rfl
   | 2,_=>rfl
   | i+3,h =>
     simp only[r9Z]
     rw[qzZ,rfZ (by omega),rhZ,if_pos (by omega)]
 · obtain⟨j,rfl⟩:∃j,i=n+3+j:=⟨i-(n+3),by omega⟩
   rw[range_beh,show n+3+j=n+j+1+1+1 by omega]
   simp only[r9Z]
   cases j with
   | zero=>simp
   | succ j=>simp
theorem madeH_weak(d:DS)(fd:FD)(n:Int)(T:AHeap)(f:PF)(v:AV)(hv:flatT v=true) :
   Weak (d.fs.length+3) [v] (madeH d fd n T (.obj true f.blks)) [v] ((⟨fd,d.fs++[(n,f)],d.quota,d.steps,d.armed,d.down⟩:DS).heap []):=by
 obtain⟨N,hN⟩:∃N,d.fs.length=N:=⟨_,rfl⟩;have hX:=behind d.fs;rw[hN]at hX
 have hat:DAt (madeH d fd n T (.obj true f.blks)) ⟨fd,d.fs++[(n,f)],d.quota,d.steps,d.armed,d.down⟩ 0 1 2 (fun i=>if i<N then i+3 else N+3+T.length):=by
   unfold madeH
   refine ⟨rfl,rfl,?_,fun i e he=>?_,?_⟩
   · simp only[r9Z,raZ]
     rw[fileM_app,fileM_congr 0 d.fs (fun i _ hi=>if_pos (by omega))]
     simp[hN]
   · dsimp only at he ⊢
     by_cases hi:i<N
     · rw[if_pos hi]
       simp only[r9Z]
       rw[q4Z (by omega)]at he
       rw[q4Z (by rw[hX.len];exact hi),filesB_get he]
     · rw[if_neg hi]
       have hie:i=N:=by
         have:=(q1Z.1 he).1
         simp at this;omega
       subst hie
       rw[q5Z (by omega),hN,Nat.sub_self]at he
       simp at he;subst he
       rw[show i+3+T.length=i+T.length+1+1+1 by omega]
       simp only[r9Z];rw[hX.get,q5Z (qnZ _),Nat.sub_self];rfl
   · dsimp only
     rw[qdZ,hN];simp only[q7Z,q8Z,s8Z];rw[names_made,List.nodup_append]
     exact⟨List.nodup_range,by simp,fun a ha b hb=>by have:=List.mem_range.1 ha;simp at hb;omega⟩
 have:=hat.weak (F:=[v]) (Fn:=[v]) (n:=N+3) (by
   dsimp only;rw[qdZ,hN];simp only[q7Z,q8Z,s8Z]
   rw[names_made,List.take_left' (by simp)]) ⟨AW_flatT _ hv,trivial⟩
 rw[hN,DS.heap_eq,r2Z];exact this
theorem heap_weak(d:DS)(T:AHeap)(v:AV)(hv:flatT v=true):Weak (d.fs.length+3) [v] (d.heap T) [v] (d.heap []) :=
 DS.tail d [] (by decide) ⟨AW_flatT _ hv,trivial⟩ rfl fun i t x y h=>by simp at h
theorem create_ctD(d:DS){A B:Nat}(hok:d.ok A B)(hA:A≤999999)(k:List UInt8)(hk:k.length≤9223372036854775807) :
   Ct Pz 81 [.ptr 0 0,.str k] (d.heap []) (.int .i64 (d.create k).2) ((d.create k).1.heap []):=by
 have hc:=DS.ok_count hok
 have hl1:(d.heap [boxD,boxS k]).length=d.fs.length+5:=by rw[DS.heap_length];simp
 obtain⟨H1,hH1⟩:∃H1:AHeap,H1=(if d.count.down=true then d.count.heap [boxD,boxS k] else if (d.count.fd.create k).2.2=0 then madeH d.count (d.count.fd.create k).1 (d.count.fd.create k).2.1 [boxD,boxS k] (.obj true (⟨[],[]⟩:PF).blks) else (⟨(d.count.fd.create k).1,d.count.fs,d.count.quota,d.count.steps,d.count.armed,d.count.down⟩:DS).heap [boxD,boxS k]):=⟨_,rfl⟩
 have hl2:(d.heap [boxD,boxS k]).length≤H1.length:=by
   rw[hH1,hl1];split
   · simp[DS.heap_length]
   split
   · simp[madeH]
   · simp[DS.heap_length]
 have hst:=step_ct d [boxD,boxS k] 150 [.ptr (d.fs.length+3) 0,.ptr (d.fs.length+4) 0] (v:=.int .i64 (d.create k).2) (H':=H1) (enter_of Tryz.func150 rfl (by decide)) (by decide)
   ⟨hok.s0,by have:=hok.s1;omega⟩ ⟨hok.a0,hok.a1⟩ hl2 (fun hd=>?_) (fun hd=>?_)
 rotate_left
 · refine ⟨by unfold DS.create DS.step;rw[if_pos hd],by rw[hH1,if_pos hd];rfl⟩
 · have:=create1_ct d.count hc (by omega) k hk
   rw[DS.count_fs]at this
   have hd':¬d.count.down=true:=by rw[hd];decide
   have e:(d.create k).2=(d.count.fd.create k).2.2:=by
     unfold DS.create DS.step;rw[if_neg hd'];dsimp only;split
     · rename_i h;rw[h]
     · rfl
   rw[e,hH1,if_neg hd'];rw[DS.count_fs];exact this
 have hΓ:GOk Pz (gams [(149,oneAt [.ptr 0 0,.func 150 [] [.ptr (d.fs.length+3) 0,.ptr (d.fs.length+4) 0]] (d.heap [boxD,boxS k]) (.int .i64 (d.create k).2) H1)]) :=
   goks_cons (oneAt_sound (enter_of Tryz.func149 rfl (by decide)) hst hl2) goks_nil
 have hfin:Weak (d.fs.length+3) [.int .i64 (d.create k).2] H1 [.int .i64 (d.create k).2] ((d.create k).1.heap []):=by
   rw[hH1];unfold DS.create DS.step;by_cases hd:d.count.down=true
   · rw[if_pos hd,if_pos hd]
     have:=heap_weak d.count [boxD,boxS k] (.int .i64 13) rfl;rw[DS.count_fs]at this;exact this
   · rw[if_neg hd,if_neg hd]
     by_cases he:(d.count.fd.create k).2.2=0
     · simp only[if_pos he]
       have:=madeH_weak d.count (d.count.fd.create k).1 (d.count.fd.create k).2.1 [boxD,boxS k] ⟨[],[]⟩ (.int .i64 0) rfl;rw[DS.count_fs]at this ⊢;exact this
     · simp only[if_neg he]
       have:=heap_weak (⟨(d.count.fd.create k).1,d.count.fs,d.count.quota,d.count.steps,d.count.armed,d.count.down⟩:DS) [boxD,boxS k] (.int .i64 (d.count.fd.create k).2.2) rfl;dsimp only at this;rw[DS.count_fs]at this ⊢;exact this
 refine ct_of_sim Tryz.func81 rfl ?_;simp only[Tryz.ntmps81,q7Z,q8Z,Nat.reduceAdd,Nat.reduceSub,qbZ,q9Z,qaZ];rw[DS.heap_length];simp only[q8Z,Nat.add_zero];have hX:=behind d.fs;obtain⟨n,hn⟩:∃n,d.fs.length=n:=⟨_,rfl⟩;rw[hn]at hX hΓ hfin ⊢;have hXl:=hX.len;have hXg:=hX.get;have hXg0:=hX.get0;generalize (d.create k).2=e at hΓ hfin ⊢;generalize (d.create k).1.heap []=HF at hfin ⊢;clear hst hl1 hH1;unfold DS.heap DS.cell0 boxD boxS at hΓ;unfold DS.heap DS.cell0;obtain⟨X,eX⟩:∃X,filesB d.fs=X:=⟨_,rfl⟩;rw[eX]at hXl hXg hXg0 hΓ ⊢
 refine Sim.step hmix hΓ (n:=0) (by simp;exact⟨rfl,rfl⟩) (by simp[hXl]) ?_
 refine Sim.exec hmix hΓ (n:=0) (by simp[hXl];exact⟨rfl,rfl,rfl⟩) (by simp[hXl]) ?_
 exact⟨.inr rfl,_,by simp[Tryz.f81] <;> rfl,hfin⟩
theorem stepped(d:DS){A B:Nat}(hok:d.ok A B)(hA:A≤999999)(T T2:AHeap)(F:FuncId)(caps:List AV)(g:DS→DS×Int)(he:∀cargs w,(callFunc F cargs).run Pz w=.ok (.enter F cargs) w)(hF:F≠yl)
   (hfs:(g d.count).1.fs.length=d.fs.length) (hT:T.length≤T2.length) (hcl:d.count.down=false→Ct Pz F caps (d.count.heap T) (.int .i64 (g d.count).2) ((g d.count).1.heap T2)) :
   ∃H1,Ct Pz 149 [.ptr 0 0,.func F [] caps] (d.heap T) (.int .i64 (d.step g).2) H1∧(d.heap T).length≤H1.length∧(∃T3,H1=(d.step g).1.heap T3∧T.length≤T3.length)∧(d.step g).1.fs.length=d.fs.length ∧
     Sound Pz 149 (oneAt [.ptr 0 0,.func F [] caps] (d.heap T) (.int .i64 (d.step g).2) H1):=by
 have e:(d.step g).1.fs.length=d.fs.length:=by
   unfold DS.step;split
   · rw[DS.count_fs]
   · exact hfs
 obtain⟨T3,hT3⟩:∃T3,T3=(if d.count.down=true then T else T2):=⟨_,rfl⟩
 have hl3:T.length≤T3.length:=by rw[hT3];split <;> omega
 have hl:(d.heap T).length≤((d.step g).1.heap T3).length:=by rw[DS.heap_length,DS.heap_length,e];omega
 have hct:Ct Pz 149 [.ptr 0 0,.func F [] caps] (d.heap T) (.int .i64 (d.step g).2) ((d.step g).1.heap T3):=by
   refine step_ct d T F caps he hF ⟨hok.s0,by have:=hok.s1;omega⟩ ⟨hok.a0,hok.a1⟩ hl (fun hd=>?_) fun hd=>?_
   · unfold DS.step
     rw[if_pos hd,hT3,if_pos hd];exact⟨rfl,rfl⟩
   · have:=hcl hd
     unfold DS.step
     rw[if_neg (by rw[hd];decide),hT3,if_neg (by rw[hd];decide)]
     exact this
 exact⟨_,hct,hl,⟨T3,rfl,hl3⟩,e,oneAt_sound (enter_of Tryz.func149 rfl (by decide)) hct hl⟩
theorem heap_weak'{d e:DS}(T:AHeap)(v:AV)(hv:flatT v=true)(h:e.fs.length=d.fs.length):Weak (d.fs.length+3) [v] (e.heap T) [v] (e.heap []):=by
 rw[←h];exact heap_weak e T v hv
def DS.fdTo(d:DS)(f:FD):DS:=⟨f,d.fs,d.quota,d.steps,d.armed,d.down⟩
noncomputable def syΓ1:Gam:=gams [(105,fsyn0S)]
theorem syΓ1_ok:GOk Pz syΓ1:=goks_cons fsyn0_sound goks_nil
theorem syncDir1_ct(d:DS)(hk:d.fd.acts.length≤1000000):Ct Pz 164 [.ptr (d.fs.length+3) 0] (d.heap [boxD]) (.int .i64 0) ((d.fdTo (d.fd.survive d.fd.acts.length)).heap [boxD]):=by
 have hΓ:=syΓ1_ok;obtain⟨n,hn⟩:∃n,d.fs.length=n:=⟨_,rfl⟩;have hX:=behind d.fs;rw[hn]at hX;refine ct_of_simE Tryz.func164 rfl ?_;simp only[Tryz.ntmps164,q7Z,q8Z,Nat.reduceAdd,Nat.reduceSub,qbZ,q9Z,qaZ];have hXl:=hX.len;have hXg:=hX.get;have hXg0:=hX.get0;unfold DS.heap DS.cell0 boxD DS.fdTo;rw[hn];obtain⟨X,eX⟩:∃X,filesB d.fs=X:=⟨_,rfl⟩;rw[eX]at hXl hXg hXg0 ⊢
 refine Sim.step hmix hΓ (n:=0) (by simp;exact⟨rfl,rfl⟩) (by simp[hXl]) ?_
 refine Sim.step hmix hΓ (n:=0) (by simp[syΓ1,fsyn0S,hk,hXl];exact⟨rfl,rfl⟩) (by simp[hXl]) ?_
 refine Sim.exec hmix hΓ (n:=0) (by simp;exact⟨rfl,rfl,rfl⟩) (by simp[hXl]) ?_
 exact⟨.inr rfl,by simp[Tryz.f164],rfl⟩
theorem syncDir_ctD(d:DS){A B:Nat}(hok:d.ok A B)(hA:A≤999999):Ct Pz 95 [.ptr 0 0] (d.heap []) (.int .i64 d.syncDir.2) (d.syncDir.1.heap []):=by
 have hc:=DS.ok_count hok
 obtain⟨H1,hct,hl,⟨T3,hT3,_⟩,hfs,hsound⟩:=stepped d hok hA [boxD] [boxD] 164 [.ptr (d.fs.length+3) 0] (fun d=>(⟨d.fd.survive d.fd.acts.length,d.fs,d.quota,d.steps,d.armed,d.down⟩,0)) (enter_of Tryz.func164 rfl (by decide)) (by decide)
   (by dsimp only;rw[DS.count_fs]) (qnZ _) fun _=>by
     have:=syncDir1_ct d.count (by have:=hc.fd.len;omega)
     rw[DS.count_fs]at this;exact this
 have hΓ:=goks_cons hsound goks_nil;have hfin:=heap_weak' (d:=d) T3 (.int .i64 d.syncDir.2) rfl hfs;rw[←hT3]at hfin;unfold DS.syncDir at hfin ⊢;refine ct_of_sim Tryz.func95 rfl ?_;simp only[Tryz.ntmps95,q7Z,q8Z,Nat.reduceAdd,Nat.reduceSub,qbZ,q9Z,qaZ];rw[DS.heap_length];simp only[q8Z,Nat.add_zero];clear hct hT3;generalize DS.step d _=R at hΓ hfin ⊢;generalize R.1.heap []=HF at hfin ⊢;generalize R.2=e at hΓ hfin ⊢;have hX:=behind d.fs;obtain⟨n,hn⟩:∃n,d.fs.length=n:=⟨_,rfl⟩;rw[hn]at hX hΓ hfin ⊢;have hXl:=hX.len;have hXg:=hX.get;have hXg0:=hX.get0;unfold DS.heap DS.cell0 boxD at hΓ;unfold DS.heap DS.cell0;obtain⟨X,eX⟩:∃X,filesB d.fs=X:=⟨_,rfl⟩;rw[eX]at hXl hXg hXg0 hΓ ⊢
 refine Sim.step hmix hΓ (n:=0) (by simp;exact⟨rfl,rfl⟩) (by simp[hXl]) ?_
 refine Sim.exec hmix hΓ (n:=0) (by simp[hXl];exact⟨rfl,rfl,rfl⟩) (by simp[hXl]) ?_
 exact⟨.inr rfl,_,by simp[Tryz.f95] <;> rfl,hfin⟩
theorem behindX(X:AHeap){n:Nat}(hl:X.length=n):Behind X n:=by
 refine ⟨hl,fun T j=>?_,fun T=>?_,fun T j v=>?_,fun T v=>?_⟩
 · rw[q5Z (by omega),hl];congr 1;omega
 · rw[q5Z (by omega),hl,Nat.sub_self]
 · rw[List.set_append_right _ _ (by omega),hl];congr 2;omega
 · rw[List.set_append_right _ _ (by omega),hl,Nat.sub_self]
def boxF(F:FuncId)(caps:List AV):ABlk:=.cells true [.func F [] caps]
def ofG(k:List UInt8)(g:DS→PF→PF×Int)(d:DS):DS×Int:=match d.fd.now.get k with
 | none=>(d,9)
 | some n=>match FS.get d.fs n with
   | none=>(d,1)
   | some f=>(⟨d.fd,FS.upd d.fs n fun _=>(g d f).1,d.quota,d.steps,d.armed,d.down⟩,(g d f).2)
theorem of_step(d:DS)(k:List UInt8)(g:DS→PF→PF×Int):d.of k g=d.step (ofG k g):=rfl
def DS.fileTo(d:DS)(n:Int)(f:PF):DS:=⟨d.fd,FS.upd d.fs n fun _=>f,d.quota,d.steps,d.armed,d.down⟩
theorem of1_ct(d:DS){A B:Nat}(hok:d.ok A B)(T0 T2:AHeap)(k:List UInt8)(F:FuncId)(caps:List AV)(g:DS→PF→PF×Int)(he:∀cargs w,(callFunc F cargs).run Pz w=.ok (.enter F cargs) w)(hF:F≠yl)(hF2:F≠73)
   (hT2:T0.length+3≤T2.length)
   (hcl:∀v f,d.fd.now.get k=some v→FS.get d.fs v=some f→Ct Pz F (.ptr (FS.at d.fs v+3) 0::caps) (d.heap (T0++[boxD,boxS k,boxF F caps])) (.int .i64 (g d f).2) ((d.fileTo v (g d f).1).heap T2)) :
   Ct Pz 202 [.ptr (d.fs.length+T0.length+3) 0,.ptr (d.fs.length+T0.length+4) 0,.ptr (d.fs.length+T0.length+5) 0] (d.heap (T0++[boxD,boxS k,boxF F caps])) (.int .i64 (ofG k g d).2) ((ofG k g d).1.heap (if (d.fd.now.get k).isSome then T2 else T0++[boxD,boxS k,boxF F caps])):=by
 obtain⟨n,hn⟩:∃n,d.fs.length+T0.length=n:=⟨_,rfl⟩
 have hX:=behindX (filesB d.fs++T0) (n:=n) (by rw[qdZ,filesB_length,hn])
 have hlen:(d.heap (T0++[boxD,boxS k,boxF F caps])).length=n+6:=by rw[DS.heap_length,qdZ,←hn];simp;omega
 refine ct_of_simE Tryz.func202 rfl ?_;simp only[Tryz.ntmps202,q7Z,q8Z,Nat.reduceAdd,Nat.reduceSub,qbZ,q9Z,qaZ];rw[hlen,hn];have hXl:=hX.len;have hXg:=hX.get;have hXg0:=hX.get0
 have hlook:∀v f,d.fd.now.get k=some v→FS.get d.fs v=some f→findA (fileM (fun i=>i+3) 0 d.fs) (.int .i64 v) 0=some (some (FS.at d.fs v,.ptr (FS.at d.fs v+3) 0)):=fun v f _ hf=>by
   have:=find_files (fun i=>i+3) v 0 d.fs 0
   rw[hf]at this;simpa using this
 have hheap:d.heap (T0++[boxD,boxS k,boxF F caps])=.cells true [.ptr 1 0,.map 2,.int .i64 d.quota,.int .i64 d.steps,.int .i64 d.armed,.bool d.down]::.obj true d.fd.blks::.map (fileM (fun i=>i+3) 0 d.fs)::(filesB d.fs++T0++[.cells true [.ptr 0 0],.cells true [.str k],.cells true [.func F [] caps]]):=by
   unfold DS.heap DS.cell0
   rw[qeZ];rfl
 cases hg:d.fd.now.get k with
 | none =>
   have hfind:d.fd.find k=(0,false):=by unfold FD.find;rw[hg]
   have e:ofG k g d=(d,9):=by unfold ofG;rw[hg]
   rw[e];simp only[Option.isSome_none,qsZ,if_false];have hΓ:GOk Pz (gams [(73,ffindS)]):=goks_cons ffind_sound goks_nil;rw[hheap];obtain⟨X,eX⟩:∃X,filesB d.fs++T0=X:=⟨_,rfl⟩;rw[eX]at hXl hXg hXg0 ⊢
   refine Sim.step hmix hΓ (n:=0) (by simp;exact⟨rfl,rfl⟩) (by simp[hXl]) ?_
   refine Sim.seq (Sim.draw hmix (by simp[hXl]) ?_)
   refine SimR.many hΓ 5 (by simp[stageOps];rfl) (by omega) (by kernel_rfl) (by simp +decide [hXl];first | exact⟨rfl,rfl⟩ | exact⟨by kernel_rfl,rfl,rfl⟩) ?_
   refine SimR.one hΓ _ rfl (by kernel_rfl) (by simp +decide [ffindS,hfind];exact⟨rfl,rfl⟩) ?_
   refine SimR.many hΓ 11 (by simp[stageOps,blankOp];rfl) (by omega) (by kernel_rfl) (by simp +decide;first | exact⟨rfl,rfl⟩ | exact⟨by kernel_rfl,rfl,rfl⟩) ?_
   refine SimR.done rfl ?_;dsimp only
   refine Sim.exec hmix hΓ (n:=0) (by simp;exact⟨rfl,rfl,rfl⟩) (by simp[hXl]) ?_
   exact⟨.inr rfl,by simp[Tryz.f202],rfl⟩
 | some v =>
   have hfind:d.fd.find k=(v,true):=FD.find_get hg;obtain⟨f,hf,hfok⟩:=DS.has_file hok hg
   have e:ofG k g d=(d.fileTo v (g d f).1,(g d f).2):=by unfold ofG;rw[hg];dsimp only;rw[hf];rfl
   rw[e];simp only[Option.isSome_some,if_true];have hl:=hlook v f hg hf;have hc:=hcl v f hg hf
   have hle:(d.heap (T0++[boxD,boxS k,boxF F caps])).length≤((d.fileTo v (g d f).1).heap T2).length:=by
     rw[hlen,DS.heap_length]
     have:(d.fileTo v (g d f).1).fs.length=d.fs.length:=by
       have:=congrArg List.length (FS.keys_upd d.fs v fun _=>(g d f).1)
       simpa[FS.keys,DS.fileTo] using this
     rw[this];omega
   have hΓ:GOk Pz (gams [(73,ffindS),(F,oneAt (.ptr (FS.at d.fs v+3) 0::caps) (d.heap (T0++[boxD,boxS k,boxF F caps])) (.int .i64 (g d f).2) ((d.fileTo v (g d f).1).heap T2))]) :=
     goks_cons ffind_sound (goks_cons (oneAt_sound he hc hle) goks_nil (hg:=hF))
   have hF':¬F=1000000000:=hF;have hF2':¬F=73:=hF2;rw[hlen]at hle;generalize (g d f).2=r at hΓ ⊢;generalize (d.fileTo v (g d f).1).heap T2=HF at hΓ hle ⊢;generalize FS.at d.fs v=q at hΓ hl ⊢;rw[hheap]at hΓ ⊢;obtain⟨X,eX⟩:∃X,filesB d.fs++T0=X:=⟨_,rfl⟩;rw[eX]at hXl hXg hXg0 hΓ ⊢
   refine Sim.step hmix hΓ (n:=0) (by simp;exact⟨rfl,rfl⟩) (by simp[hXl]) ?_
   refine Sim.seq (Sim.draw hmix (by simp[hXl]) ?_)
   refine SimR.many hΓ 5 (by simp[stageOps];rfl) (by omega) (by kernel_rfl) (by simp +decide [hXl];first | exact⟨rfl,rfl⟩ | exact⟨by kernel_rfl,rfl,rfl⟩) ?_
   refine SimR.one hΓ _ rfl (by kernel_rfl) (by simp +decide [ffindS,hfind];exact⟨rfl,rfl⟩) ?_
   refine SimR.many hΓ 11 (by simp[stageOps,blankOp];rfl) (by omega) (by kernel_rfl) (by simp +decide;first | exact⟨rfl,rfl⟩ | exact⟨by kernel_rfl,rfl,rfl⟩) ?_
   refine SimR.done rfl ?_;dsimp only
   refine Sim.step hmix hΓ (n:=0) (by simp;exact⟨rfl,rfl⟩) (by simp[hXl]) ?_
   refine Sim.seq (Sim.draw hmix (by simp[hXl]) ?_)
   refine SimR.many hΓ 7 (by simp[stageOps];rfl) (by omega) (by kernel_rfl) (by simp +decide [hl,hXl];first | exact⟨rfl,rfl⟩ | exact⟨by kernel_rfl,rfl,rfl⟩) ?_
   refine SimR.one hΓ _ rfl (by kernel_rfl) (by simp +decide [hF',hF2'];exact⟨rfl,rfl⟩) ?_
   refine SimR.many hΓ 9 (by simp[stageOps,blankOp];rfl) (by omega) (by kernel_rfl) (by simp +decide;first | exact⟨rfl,rfl⟩ | exact⟨by kernel_rfl,rfl,rfl⟩) ?_
   refine SimR.done rfl ?_;dsimp only
   refine Sim.exec hmix hΓ (n:=0) (by simp;exact⟨rfl,rfl,rfl⟩) hle ?_
   exact⟨.inr rfl,by simp[Tryz.f202],rfl⟩
theorem fileTo_len(d:DS)(v:Int)(f:PF):(d.fileTo v f).fs.length=d.fs.length:=by
 have:=congrArg List.length (FS.keys_upd d.fs v fun _=>f)
 simpa[FS.keys,DS.fileTo] using this
theorem ofG_len(d:DS)(k:List UInt8)(g:DS→PF→PF×Int):(ofG k g d).1.fs.length=d.fs.length:=by
 unfold ofG;split
 · rfl
 split
 · rfl
 · exact fileTo_len d _ _
theorem of_ctD(d:DS){A B:Nat}(hok:d.ok A B)(hA:A≤999999)(T0 T2:AHeap)(k:List UInt8)(F:FuncId)(caps:List AV)(g:DS→PF→PF×Int)(he:∀cargs w,(callFunc F cargs).run Pz w=.ok (.enter F cargs) w)(hF:F≠yl)(hF2:F≠73)
   (hT2:T0.length+3≤T2.length)
   (hcl:∀v f,d.fd.now.get k=some v→FS.get d.fs v=some f→Ct Pz F (.ptr (FS.at d.fs v+3) 0::caps) (d.count.heap (T0++[boxD,boxS k,boxF F caps])) (.int .i64 (g d.count f).2) ((d.count.fileTo v (g d.count f).1).heap T2)) :
   ∃H1,Ct Pz 130 [.ptr 0 0,.str k,.func F [] caps] (d.heap T0) (.int .i64 (d.of k g).2) H1∧(d.heap T0).length≤H1.length∧(∃T3,H1=(d.of k g).1.heap T3∧T0.length≤T3.length)∧(d.of k g).1.fs.length=d.fs.length:=by
 have hc:=DS.ok_count hok
 obtain⟨H1,hct,hl,⟨T3,hT3,hl3⟩,hfs,hsound⟩:=stepped d hok hA (T0++[boxD,boxS k,boxF F caps]) (if (d.fd.now.get k).isSome then T2 else T0++[boxD,boxS k,boxF F caps]) 202 [.ptr (d.fs.length+T0.length+3) 0,.ptr (d.fs.length+T0.length+4) 0,.ptr (d.fs.length+T0.length+5) 0] (ofG k g) (enter_of Tryz.func202 rfl (by decide)) (by decide)
   (by rw[ofG_len,DS.count_fs]) (by split <;> simp <;> omega) fun _=>by
     have:=of1_ct d.count hc T0 T2 k F caps g he hF hF2 hT2 (by rw[DS.count_fd,DS.count_fs];exact hcl)
     rw[DS.count_fs,DS.count_fd]at this;exact this
 have hΓ:=goks_cons hsound goks_nil;rw[of_step]
 refine ⟨H1,?_,by rw[DS.heap_length]at hl ⊢;simp at hl;omega,⟨T3,hT3,by simp at hl3;omega⟩,hfs⟩
 obtain⟨n,hn⟩:∃n,d.fs.length+T0.length=n:=⟨_,rfl⟩
 have hX:=behindX (filesB d.fs++T0) (n:=n) (by rw[qdZ,filesB_length,hn])
 have hlen:(d.heap T0).length=n+3:=by rw[DS.heap_length,←hn]
 refine ct_of_simE Tryz.func130 rfl ?_;simp only[Tryz.ntmps130,q7Z,q8Z,Nat.reduceAdd,Nat.reduceSub,qbZ,q9Z,qaZ];rw[hlen];have hXl:=hX.len;have hXg:=hX.get;have hXg0:=hX.get0
 have hheap:d.heap (T0++[boxD,boxS k,boxF F caps])=.cells true [.ptr 1 0,.map 2,.int .i64 d.quota,.int .i64 d.steps,.int .i64 d.armed,.bool d.down]::.obj true d.fd.blks::.map (fileM (fun i=>i+3) 0 d.fs)::(filesB d.fs++T0++[.cells true [.ptr 0 0],.cells true [.str k],.cells true [.func F [] caps]]):=by
   unfold DS.heap DS.cell0
   rw[qeZ];rfl
 have hle:n+3≤H1.length:=by rw[DS.heap_length]at hl;simp at hl;omega
 rw[hn,hheap]at hΓ;clear hct hT3 hl hheap;unfold DS.heap DS.cell0;generalize (DS.step d (ofG k g)).2=e at hΓ ⊢;obtain⟨X,eX⟩:∃X,filesB d.fs++T0=X:=⟨_,rfl⟩;rw[eX]at hXl hXg hXg0 hΓ ⊢
 refine Sim.step hmix hΓ (n:=0) (by simp[hXl];exact⟨rfl,rfl⟩) (by simp[hXl]) ?_
 refine Sim.step hmix hΓ (n:=0) (by simp[hXl];exact⟨rfl,rfl⟩) (by simp[hXl]) ?_
 refine Sim.exec hmix hΓ (n:=0) (by simp;exact⟨rfl,rfl,rfl⟩) hle ?_
 exact⟨.inr rfl,by simp[Tryz.f130],rfl⟩
theorem fileTo_heap{d:DS}{v:Int}{f:PF}(g:PF)(hf:FS.get d.fs v=some f)(T:AHeap):(d.fileTo v g).heap T=d.cell0 1 2::.obj true d.fd.blks::.map (fileM (fun i=>i+3) 0 d.fs)::(filesB d.fs++T).set (FS.at d.fs v) (.obj true g.blks):=by
 unfold DS.heap DS.fileTo DS.cell0;dsimp only
 rw[fileM_upd,filesB_upd (fun _=>g) hf,List.set_append_left _ _ (by rw[filesB_length];exact FS.at_lt hf)]
theorem heap_file{d:DS}{v:Int}{f:PF}(hf:FS.get d.fs v=some f)(T:AHeap):(filesB d.fs++T)[FS.at d.fs v]? = some (.obj true f.blks):=by
 rw[q4Z (by rw[filesB_length];exact FS.at_lt hf)]
 exact filesB_get (FS.at_get hf)
noncomputable def sfΓ1:Gam:=gams [(184,fsyncS)]
theorem sfΓ1_ok:GOk Pz sfΓ1:=goks_cons fsync_sound goks_nil
theorem sync1_ct(d:DS)(T:AHeap)(v:Int)(f:PF)(hf:FS.get d.fs v=some f):Ct Pz 183 [.ptr (FS.at d.fs v+3) 0] (d.heap T) (.int .i64 0) ((d.fileTo v ⟨f.now,[]⟩).heap T):=by
 have hΓ:=sfΓ1_ok;rw[fileTo_heap _ hf];have hq:=heap_file hf T;refine ct_of_simE Tryz.func183 rfl ?_;simp only[Tryz.ntmps183,q7Z,q8Z,Nat.reduceAdd,Nat.reduceSub,qbZ,q9Z,qaZ];unfold DS.heap DS.cell0;obtain⟨X,eX⟩:∃X,filesB d.fs++T=X:=⟨_,rfl⟩;obtain⟨q,eq⟩:∃q,FS.at d.fs v=q:=⟨_,rfl⟩;rw[eX]at hq ⊢;rw[eq]at hq ⊢
 refine Sim.step hmix hΓ (n:=0) (by simp;exact⟨rfl,rfl⟩) (by simp) ?_
 refine Sim.exec hmix hΓ (n:=0) (by simp[sfΓ1,fsyncS,hq];exact⟨rfl,rfl,rfl⟩) (by simp) ?_
 exact⟨.inr rfl,by simp[Tryz.f183],rfl⟩
theorem sync_ctD(d:DS){A B:Nat}(hok:d.ok A B)(hA:A≤999999)(k:List UInt8):Ct Pz 113 [.ptr 0 0,.str k] (d.heap []) (.int .i64 (d.sync k).2) ((d.sync k).1.heap []):=by
 obtain⟨H1,hct,hl,⟨T3,hT3,_⟩,hfs⟩:=of_ctD d hok hA [] [boxD,boxS k,boxF 183 []] k 183 [] (fun _ f=>(⟨f.now,[]⟩,0)) (enter_of Tryz.func183 rfl (by decide)) (by decide) (by decide) (by simp) fun v f _ hf=>by
   have:=sync1_ct d.count [boxD,boxS k,boxF 183 []] v f (by rw[DS.count_fs];exact hf)
   rw[DS.count_fs]at this;exact this
 have hΓ:=goks_cons (oneAt_sound (enter_of Tryz.func130 rfl (by decide)) hct hl) goks_nil
 have hfin:=heap_weak' (d:=d) T3 (.int .i64 (d.sync k).2) rfl hfs;unfold DS.sync at hfin ⊢;rw[←hT3]at hfin;refine ct_of_sim Tryz.func113 rfl ?_;simp only[Tryz.ntmps113,q7Z,q8Z,Nat.reduceAdd,Nat.reduceSub,qbZ,q9Z,qaZ];rw[DS.heap_length]at hl ⊢;simp only[q8Z,Nat.add_zero]at hl ⊢;clear hct hT3;generalize DS.of d k _=R at hΓ hfin ⊢;generalize R.1.heap []=HF at hfin ⊢;generalize R.2=e at hΓ hfin ⊢
 have hX:(d.heap []).length=d.fs.length+3:=by rw[DS.heap_length];rfl
 generalize d.heap []=H0 at hΓ hX ⊢
 refine Sim.step hmix hΓ (n:=0) (by simp;exact⟨rfl,rfl⟩) (by omega) ?_
 refine Sim.exec hmix hΓ (n:=0) (by simp;exact⟨rfl,rfl,rfl⟩) (by omega) ?_
 exact⟨.inr rfl,_,by simp[Tryz.f113] <;> rfl,hfin⟩
end
end Go.Proofs.YtpmfecnajoojeaaGreatDoor
