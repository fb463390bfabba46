/- Parts of the proof of ReplayMends: lemmas, each with its own conditions. -/
import Derived.Test.YtpmfecnajoojeaaGreatDoorY16
import Derived.Test.YtpmfecnajoojeaaGreatDoorY17
set_option maxHeartbeats 64000000
open List renaming getElem?_eq_some_iff → q1Z, getD_eq_getElem?_getD → q2Z, getElem?_eq_getElem → q3Z, getElem?_append_left → q4Z, getElem?_append_right → q5Z, take_of_length_le → q6Z, length_cons → q7Z, length_nil → q8Z, cons_append → q9Z, nil_append → qaZ, replicate → qbZ, mem_of_getElem? → qcZ, length_append → qdZ, append_assoc → qeZ, getElem?_set_ne → qfZ, mem_cons_self → qhZ, mem_cons_of_mem → qiZ, length_take → qjZ, mem_cons → qwZ, mem_append → qxZ, getElem?_map → qzZ, mem_singleton → r1Z, append_nil → r2Z, getElem_mem → r3Z, getElem?_drop → r5Z, length_map → r7Z, getElem?_cons_succ → r9Z, getElem?_cons_zero → raZ, flatten_cons → rcZ, nodup_cons → rdZ, mem_map → reZ, getElem?_range → rfZ, replicate_succ → rvZ, map_cons → s1Z, getElem?_eq_none → s4Z, all_eq_true → s5Z, set_cons_zero → s9Z
open Option renaming map_eq_some_iff → qlZ, map_some → rhZ
open Nat renaming le_refl → qnZ, add_sub_cancel_left → s3Z, zero_add → s8Z
open Bool renaming false_eq_true → qsZ
open Array renaming length_toList → rjZ, toList_append → rxZ
namespace Go.Proofs.YtpmfecnajoojeaaGreatDoor
open _root_.Go.Proofs.Tryz renaming prog → Pz
set_option maxRecDepth 100000
section
open Go Go.Lib
attribute [-simp] zJ zY zn zL zl
theorem zQL(B0:ABlk)(l:NM)(T:zA)(k:List UInt8)(v:Int):zAN Pz (B0::.map (zW l)::T) 208 (.map 1) (.str k) (.int .i64 v)=some (B0::.map (zW (NM.put l k v))::T):=by
 have hf:=zAJ k l 0
 cases hg:NM.get l k with
 | none =>
   rw[hg]at hf;simp only[Option.map_none,s8Z]at hf;have hs:=zHw v hg;simp[hf,hs]
 | some u =>
   rw[hg]at hf;simp only[rhZ,s8Z]at hf;have hs:=zIZ (v:=v) hg;simp[hf,hs]
theorem zQD(B0:ABlk)(l:NM)(T:zA)(k:List UInt8):zBc Pz (B0::.map (zW l)::T) 208 (.map 1) (.str k)=some (B0::.map (zW (NM.del l k))::T):=by
 have hf:=zAJ k l 0
 cases hg:NM.get l k with
 | none =>
   rw[hg]at hf;simp only[Option.map_none,s8Z]at hf;simp[zBc,hf,zTn hg]
 | some u =>
   rw[hg]at hf;simp only[rhZ,s8Z]at hf;have hd:=zFv hg;simp[zBc,hf,hd]
def zJ4:List FuncId:=zEi
theorem zVC:GOk Pz (zAL Pz (zv [(137,zAO)]) 0 zJ4 2):=zq hmix (zC zDG zD) 0 zJ4 2
def zD5(g:Nat->Nat):Nat->List DAct->zA
 | _,[]=>[]
 | k,x::l=>.cells true (x.fn g k)::zD5 g (k+x.nb) l
@[simp] theorem zDS(g:Nat->Nat):∀(l:List DAct) (k:Nat),(zD5 g k l).length=l.length
 | [],_=>rfl
 | x::l,k=>by simp[zD5,zDS g l]
theorem zIc(g:Nat->Nat):∀(l:List DAct) (k i:Nat) (h:i<l.length),zD5 g k (l.take (i+1))=zD5 g k (l.take i)++[.cells true (l[i].fn g (k+nbD (l.take i)))]
 | x::l,k,0,_=>by simp[zD5,nbD]
 | x::l,k,i+1,h=>by
   have ih:=zIc g l (k+x.nb) i (by simpa using h)
   simp only[List.take_succ_cons,zD5,List.getElem_cons_succ,q9Z,ih,nbD,s1Z,List.sum_cons]
   rw[show k+x.nb+((l.take i).map DAct.nb).sum=k+(x.nb+((l.take i).map DAct.nb).sum) by omega]
theorem zP2(l:NM)(xs:List DAct)(i:Nat)(h:i<xs.length):ZU l (xs.take (i+1))=xs[i].run (ZU l (xs.take i)):=by
 rw[List.take_add_one,q3Z h,Option.toList_some,zBa];rfl
theorem zPS(f:FD)(m:Int)(hal:f.acts.length<=1000000) :
   Ct Pz 71 [.ptr 0 0,.int .i64 m] [.obj true f.blks] (.tuple []) [.obj true (f.survive m).blks]:=by
 have hΓ:=zVC;refine zK Tryz.func71 rfl ?_;simp only[Tryz.ntmps71,q7Z,q8Z,Nat.reduceAdd,Nat.reduceSub,qbZ,q9Z,qaZ]
 refine Sim.aft (Aft.open (b:=0) rfl (by simp) (Aft.done (by simp[ZD]) ?_))
 rw[zBY];simp only[q7Z,q8Z,Nat.reduceAdd,s9Z,q9Z,qaZ]
 obtain⟨R,eR⟩:∃R,ZW (fun i=>i+4) 0 f.acts=R:=⟨_,rfl⟩
 rw[zIj (g':=fun i=>i+4) (fun i=>by omega),eR]
 obtain⟨X,eX⟩:∃X,zi f.acts=X:=⟨_,rfl⟩
 have hR:R.length=f.acts.length*2:=by rw[<-eR];simp
 have hX:X.length=nbD f.acts:=by rw[<-eX,zj]
 have gR:∀(i:Nat) (h:i<f.acts.length),(R.drop (i*2)).take 2=f.acts[i].fn (fun i=>i+4) (nbD (f.acts.take i)):=fun i h=>by
   have:=zMH (fun i=>i+4) f.acts 0 i h
   rw[eR,s8Z]at this;exact this
 have gX:∀(i:Nat) (h:i<f.acts.length) (q:Nat),q<(f.acts[i]).nb->X[nbD (f.acts.take i)+q]? = (f.acts[i].boxes)[q]?:=fun i h q hq=>by rw[<-eX];exact zHz f.acts i h q hq
 rw[eX];obtain⟨k0,ek⟩:∃k,f.acts.length=k:=⟨_,rfl⟩;obtain⟨q0,eq⟩:∃q,nbD f.acts=q:=⟨_,rfl⟩;rw[eq]at hX;obtain⟨n,en⟩:∃n,f.clamp m=n:=⟨_,rfl⟩;have en1:=en;unfold FD.clamp at en1;rw[ek]at en1 hal hR ⊢
 have en2:max 0 (min m (k0:Int))=n:=by omega
 have hnk:n<=k0:=by omega
 have hnk2:(n:Int)<=(k0:Int):=by omega
 refine Sim.step hmix hΓ (n:=0) (by simp;exact⟨rfl,rfl⟩) (by simp) ?_
 refine Sim.seq (Sim.step hmix hΓ (n:=0) (by simp +decide [-zCG,zBJ,zFZ,en2,hnk2];first | exact⟨rfl,rfl⟩ | exact⟨by kernel_rfl,rfl,rfl⟩) (by simp) ?_)
 obtain⟨HH,eH⟩:∃HH:Nat->zA,HH=fun i=>.cells true [.map 1,.map 2,.sl 3 0 k0 2 false,.int .i64 f.last]::.map (zW (ZU f.d (f.acts.take i)))::.map (zW f.now)::.cells true R::(X++zD5 (fun i=>i+4) 0 (f.acts.take i)):=⟨_,rfl⟩
 refine Sim.mono (Q:=fun e F' H'=>e=.normal/\LessF ([.ptr 0 0]++qbZ 44 .top) F'/\H'=HH n) ?_ ?_
 · refine Sim.block (Sim.loopS (fun i:Nat=>i<=n)
     (fun i=>[.ptr 0 0,.int .i64 m]++qbZ 18 .top++[.sl 3 0 n 2 false,.int .i64 n,.int .i64 i]++qbZ 22 .top)
     HH (fun i=>n-i) 0 (by simp) (by simp) ⟨by simp,by rw[eH];simp[ZU,zD5]⟩ fun i hi=>?_)
   by_cases hlt:i<n;rotate_left
   · have:i=n:=by omega
     subst this;have hH:=congrFun eH i;rw[hH]
     refine Sim.exec hmix hΓ (n:=0) (by simp;exact⟨rfl,rfl,rfl⟩) (by simp) ?_
     dsimp only;rw[if_pos rfl]
     exact⟨by trivial,by simp,hH.symm▸rfl⟩
   have hik:i<f.acts.length:=by omega
   obtain⟨x,hx⟩:∃x,f.acts[i]=x:=⟨_,rfl⟩;obtain⟨kk,hkk⟩:∃kk,nbD (f.acts.take i)=kk:=⟨_,rfl⟩
   obtain⟨J,hJe⟩:∃J,zD5 (fun i=>i+4) 0 (f.acts.take i)=J:=⟨_,rfl⟩
   have hJ:J.length=i:=by rw[<-hJe,zDS,qjZ];omega
   have hj:=zIc (fun i=>i+4) f.acts 0 i hik
   have g1:=gR i hik;have gXi:=gX i hik;have e1:=zP2 f.d f.acts i hik;rw[hx]at hj g1 gXi e1;rw[hkk]at hj g1 gXi;rw[hJe,s8Z]at hj;obtain⟨cur,hcur⟩:∃cur,ZU f.d (f.acts.take i)=cur:=⟨_,rfl⟩;rw[hcur]at e1
   have hN:∀c:ABlk,(X++(J++[c]))[q0+i]? = some c:=fun c=>by
     rw[<-qeZ,show q0+i=(X++J).length by rw[qdZ,hX,hJ],q5Z (qnZ _)];simp
   have k1:i*2+2<=k0*2:=by omega
   have hltI:(i:Int)<n:=by omega
   have y1:IntKind.i64.wrap ((i:Int)+1)=i+1:=zX (by omega) (by omega)
   have hH:=congrFun eH i;have hH1:=congrFun eH (i+1)
   try dsimp only at hH hH1
   rw[hcur,hJe]at hH;rw[hH];rw[hj,e1]at hH1
   refine Sim.step hmix hΓ (n:=0) (by simp[hltI];exact⟨rfl,rfl⟩) (by simp) ?_
   refine Sim.step hmix hΓ (n:=0) (by simp;exact⟨rfl,rfl⟩) (by simp) ?_
   refine Sim.seq (Sim.block ?_)
   cases x with
   | cre k v =>
     simp only[DAct.fn]at g1
     have p0:∀c,(X++(J++[c]))[kk]? = some (.obj false [.cells true [.int .i64 v]]):=fun c=>by
       have h:=gXi 0 (by simp[DAct.nb])
       rw[Nat.add_zero]at h;rw[q4Z (q1Z.1 h).1];exact h
     have p1:∀c,(X++(J++[c]))[kk+1]? = some (.obj false [.cells true [.str k]]):=fun c=>by
       have h:=gXi 1 (by simp[DAct.nb])
       rw[q4Z (q1Z.1 h).1];exact h
     refine Sim.step hmix hΓ (n:=0) (by simp +decide [hlt,hR,k1,g1,hX,hJ];exact⟨rfl,rfl⟩) (by simp) ?_
     refine Sim.draw hmix (by simp) ?_
     refine SimR.many hΓ 6 (by simp[zI];rfl) (by omega) (by kernel_rfl) (by simp +decide [hX,hJ];first | exact⟨rfl,rfl⟩ | exact⟨by kernel_rfl,rfl,rfl⟩) ?_
     refine SimR.one hΓ _ rfl (by kernel_rfl) (by simp +decide [-zAN,zJ4,zEi,Tryz.f174,zQL,p0,p1];exact⟨rfl,rfl⟩) ?_
     refine SimR.done rfl ?_;dsimp only
     refine Sim.exec hmix hΓ (n:=0) (by simp[y1];exact⟨rfl,rfl,rfl⟩) (by simp) ?_
     exact⟨i+1,by omega,⟨by simp,by rw[hH1];simp[DAct.run,DAct.fn]⟩,by omega⟩
   | ren a b v =>
     simp only[DAct.fn]at g1
     have p0:∀c,(X++(J++[c]))[kk]? = some (.obj false [.cells true [.str a]]):=fun c=>by
       have h:=gXi 0 (by simp[DAct.nb])
       rw[Nat.add_zero]at h;rw[q4Z (q1Z.1 h).1];exact h
     have p1:∀c,(X++(J++[c]))[kk+1]? = some (.obj false [.cells true [.int .i64 v]]):=fun c=>by
       have h:=gXi 1 (by simp[DAct.nb])
       rw[q4Z (q1Z.1 h).1];exact h
     have p2:∀c,(X++(J++[c]))[kk+2]? = some (.obj false [.cells true [.str b]]):=fun c=>by
       have h:=gXi 2 (by simp[DAct.nb])
       rw[q4Z (q1Z.1 h).1];exact h
     refine Sim.step hmix hΓ (n:=0) (by simp +decide [hlt,hR,k1,g1,hX,hJ];exact⟨rfl,rfl⟩) (by simp) ?_
     refine Sim.draw hmix (by simp) ?_
     refine SimR.many hΓ 6 (by simp[zI];rfl) (by omega) (by kernel_rfl) (by simp +decide [hX,hJ];first | exact⟨rfl,rfl⟩ | exact⟨by kernel_rfl,rfl,rfl⟩) ?_
     refine SimR.one hΓ _ rfl (by kernel_rfl) (by simp +decide [-zAN,zJ4,zEi,Tryz.f225,zQL,zQD,p0,p1,p2];exact⟨rfl,rfl⟩) ?_
     refine SimR.done rfl ?_;dsimp only
     refine Sim.exec hmix hΓ (n:=0) (by simp[y1];exact⟨rfl,rfl,rfl⟩) (by simp) ?_
     exact⟨i+1,by omega,⟨by simp,by rw[hH1];simp[DAct.run,DAct.fn]⟩,by omega⟩
   | rem k =>
     simp only[DAct.fn]at g1
     have p0:∀c,(X++(J++[c]))[kk]? = some (.obj false [.cells true [.str k]]):=fun c=>by
       have h:=gXi 0 (by simp[DAct.nb])
       rw[Nat.add_zero]at h;rw[q4Z (q1Z.1 h).1];exact h
     refine Sim.step hmix hΓ (n:=0) (by simp +decide [hlt,hR,k1,g1,hX,hJ];exact⟨rfl,rfl⟩) (by simp) ?_
     refine Sim.draw hmix (by simp) ?_
     refine SimR.many hΓ 6 (by simp[zI];rfl) (by omega) (by kernel_rfl) (by simp +decide [hX,hJ];first | exact⟨rfl,rfl⟩ | exact⟨by kernel_rfl,rfl,rfl⟩) ?_
     refine SimR.one hΓ _ rfl (by kernel_rfl) (by simp +decide [-zAN,zJ4,zEi,Tryz.f224,zQD,p0];exact⟨rfl,rfl⟩) ?_
     refine SimR.done rfl ?_;dsimp only
     refine Sim.exec hmix hΓ (n:=0) (by simp[y1];exact⟨rfl,rfl,rfl⟩) (by simp) ?_
     exact⟨i+1,by omega,⟨by simp,by rw[hH1];simp[DAct.run,DAct.fn]⟩,by omega⟩
 rintro e F' H' hlen ⟨rfl,hF,rfl⟩;dsimp only;refine Sim.less hF ?_
 obtain⟨J,hJe⟩:∃J,zD5 (fun i=>i+4) 0 (f.acts.take n)=J:=⟨_,rfl⟩
 have hJ:J.length=n:=by rw[<-hJe,zDS,qjZ];omega
 obtain⟨cur,hcur⟩:∃cur,ZU f.d (f.acts.take n)=cur:=⟨_,rfl⟩
 have hsv:f.survive m=⟨cur,[],f.last⟩:=by unfold FD.survive;rw[en,hcur]
 have hH:=congrFun eH n
 try dsimp only at hH
 rw[hcur,hJe]at hH;rw[hsv,hH]
 refine Sim.after (Sim.exec hmix hΓ (n:=0) (by simp +decide [zJ4,zAO,hX,hJ];exact⟨rfl,rfl,rfl⟩) (by simp) ?_)
 refine Aft.closeFD (⟨cur,[],f.last⟩:FD) 0 1 (q0+n+4) (q0+n+5) [] (fun i=>i) (x:=.nils) (o:=true) ?_ rfl rfl ?_ (fun h=>absurd h ?_) rfl (fun i hi=>absurd hi (by simp[nbD])) (fun i k B h=>by simp at h) ?_ (by simp) ?_
 · rfl
 · rw[show q0+n+4=((X++J).length)+1+1+1+1 by rw[qdZ,hX,hJ]]
   simp only[r9Z];rw[<-qeZ,q5Z (qnZ _)];simp[FD.now,ZU]
 · simp;omega
 · simp <;> omega
 refine Aft.weak (Fn:=qbZ 45 .top) (Hn:=[.obj true (⟨cur,[],f.last⟩:FD).blks]) (Weak.mk' [0] (by decide) (by decide) (zAh _ _ _ rfl) (zT (b:=0) (by simp) _ _ rfl fun i c x h1 h2=>?_)) (by simp) (Aft.done (by simp) ?_)
 · match i,h1,h2 with
   | 0,h1,h2=>cases h1;cases h2;exact .inl ⟨rfl,rfl⟩
 exact⟨.inl rfl,_,by simp[Tryz.f71] <;> rfl,Weak.mk' [0] (by decide) (by decide) (by simp) (by simp[AWb])⟩
def zNT:List FuncId:=[140]
theorem zUu:GOk Pz (zAL Pz (zv [(139,zKb),(138,zCw)]) 0 zNT 2):=zq hmix (zC zHn (zC zF8 zD)) 0 zNT 2
theorem zGo:∀l:NM,zAC ((zW l).map (·.1))=some (NM.keys l)
 | []=>rfl
 | e::l=>by
   have:=zGo l;simp only[zW,NM.keys,s1Z,zAC]at this ⊢
   rw[this];rfl
theorem zSO(f:FD)(hok:f.small):Ct Pz 72 [.ptr 0 0] [.obj true f.blks] (.sl 1 0 f.names.length 1 false) [.obj true f.blks,.cells true (f.names.map .str)]:=by
 have hΓ:=zUu;obtain⟨hsh,hnl⟩:=FD.ok_now hok;refine zK Tryz.func72 rfl ?_;simp only[Tryz.ntmps72,q7Z,q8Z,Nat.reduceAdd,Nat.reduceSub,qbZ,q9Z,qaZ]
 refine Sim.aft (Aft.open (b:=0) rfl (by simp) (Aft.done (by simp[ZD]) ?_))
 rw[zBY];simp only[q7Z,q8Z,Nat.reduceAdd,s9Z,q9Z,qaZ];obtain⟨X,eX⟩:∃X,zi f.acts=X:=⟨_,rfl⟩;obtain⟨q,eq⟩:∃q,X.length=q:=⟨_,rfl⟩;rw[eX];obtain⟨ks,hks⟩:∃ks,f.names=ks:=⟨_,rfl⟩;obtain⟨n,hn⟩:∃n,ks.length=n:=⟨_,rfl⟩
 have hkl:(NM.keys f.now).length=n:=by rw[<-hn,<-hks];unfold FD.names;rw[(ZN _).length_eq]
 have hnow:f.now.length=n:=by rw[<-hkl];simp[NM.keys]
 have hn6:n<=1000000:=by omega
 have hstr:=zGo f.now
 have hall:((NM.keys f.now).all fun k=>decide (k.length<=1000000))=true:=by
   rw[s5Z];intro k hk;have:=hsh k hk;simp;omega
 have hallP:∀x,x∈NM.keys f.now->x.length<=1000000:=fun k hk=>by have:=hsh k hk;omega
 have hallT:(∀x,x∈NM.keys f.now->x.length<=1000000)=True:=eq_true hallP;have hsort:zDx (NM.keys f.now)=ks:=hks;rw[hks,hn]
 refine Sim.step hmix hΓ (n:=0) (by simp[eq];exact⟨rfl,rfl⟩) (by simp) ?_
 refine Sim.step hmix hΓ (n:=0) (by simp;exact⟨rfl,rfl⟩) (by simp) ?_
 have fks:∀rn:List Nat,AWs rn (ks.map AV.str) (ks.map AV.str):=fun rn=>(zBP (ZK ks AV.str fun _=>rfl)).2 trivial
 obtain⟨Fn,hFn⟩:∃Fn:List AV,Fn=[.top,.top,.ptr 1 0,.sl 2 0 n 1 false]++qbZ 17 .top:=⟨_,rfl⟩;obtain⟨Hn,hHn⟩:∃Hn:zA,Hn=[.obj true f.blks,.cells true [.nils],.cells true (ks.map .str)]:=⟨_,rfl⟩
 refine Sim.seq (Sim.mono (Q:=fun e F' H'=>e=.normal/\F'=Fn/\H'=Hn) (Sim.after ?_) ?_)
 · by_cases h0:n=0
   · subst h0
     have hk0:ks=[]:=List.length_eq_zero_iff.1 hn;have hkn:NM.keys f.now=[]:=List.length_eq_zero_iff.1 hkl;rw[hkn]at hstr
     refine Sim.exec hmix hΓ (n:=0) (by simp +decide [eq,zNT,zKb,zCw,hstr];exact⟨rfl,rfl,rfl⟩) (by simp) ?_
     refine Aft.closeFS f 0 1 rfl rfl rfl rfl (fun i B hB=>?_) (by decide) (by simp) ?_
     · rw[show 1+3+i=i+1+1+1+1 by omega]
       simp only[r9Z];rw[eX]at hB;rw[q4Z (q1Z.1 hB).1];exact hB
     refine Aft.weak (Fn:=[.top,.top,.ptr 1 0,.nils]++qbZ 17 .top) (Hn:=[.obj true f.blks,.cells true [.nils]]) ?_ (by simp) (Aft.weak (Fn:=Fn) (Hn:=Hn) ?_ (by simp) (Aft.done (by simp[hHn]) ⟨rfl,rfl,rfl⟩))
     · refine Weak.mk' [0,q+4] (by simp) (by simp) (by simp) (zT (b:=0) (by simp) _ _ rfl fun i c x h1 h2=>?_)
       match i,h1,h2 with
       | 0,h1,h2=>cases h1;cases h2;exact .inl ⟨rfl,rfl⟩
       | 1,h1,h2 =>
         cases h1;cases h2
         refine .inr ⟨⟨by omega,by simp⟩,?_⟩
         rw[show q+4=(X.length+0)+1+1+1+1 by omega]
         simp[AWb]
     · rw[hFn,hHn]
       exact Weak.mk' [0,1,100] (by decide) (by decide) (by simp) (by simp[AWb])
   · have h0':¬(NM.keys f.now).length=0:=by omega
     have hkn:¬NM.keys f.now=[]:=fun e=>h0' (by rw[e];rfl)
     refine Sim.exec hmix hΓ (n:=0) (by simp +decide [eq,zNT,zKb,zCw,hstr,hkn,hkl,hn6,hallT,hsort];exact⟨rfl,rfl,rfl⟩) (by simp) ?_
     refine Aft.closeFS f 0 1 rfl rfl rfl rfl (fun i B hB=>?_) (by decide) (by simp) ?_
     · rw[show 1+3+i=i+1+1+1+1 by omega]
       simp only[r9Z];rw[eX]at hB;rw[q4Z (q1Z.1 hB).1];exact hB
     refine Aft.weak (Fn:=Fn) (Hn:=Hn) ?_ (by simp) (Aft.done (by simp[hHn]) ⟨rfl,rfl,rfl⟩)
     rw[hFn,hHn]
     refine Weak.mk' [0,q+4,q+6] (by simp) (by simp) (by simp) (zT (b:=0) (by simp) _ _ rfl fun i c x h1 h2=>?_)
     match i,h1,h2 with
     | 0,h1,h2=>cases h1;cases h2;exact .inl ⟨rfl,rfl⟩
     | 1,h1,h2 =>
       cases h1;cases h2
       refine .inr ⟨⟨by omega,by simp⟩,?_⟩
       rw[show q+4=(X.length+0)+1+1+1+1 by omega]
       simp[AWb]
     | 2,h1,h2 =>
       cases h1;cases h2
       refine .inr ⟨⟨by omega,by simp⟩,?_⟩
       rw[show q+6=(X.length+2)+1+1+1+1 by omega]
       simp[AWb]
 rintro e F' H' hlen ⟨rfl,rfl,rfl⟩;dsimp only
 subst hFn;subst hHn
 clear hlen;simp only[q9Z,qaZ,qbZ]
 refine Sim.seq (Sim.step hmix hΓ (n:=0) (by simp[zNT,Tryz.f140];exact⟨rfl,rfl⟩) (by simp) ?_)
 refine Sim.block ?_
 refine Sim.rangeFuncN hmix (fun rc=>[.obj true f.blks,.cells true [.sl 5 0 n 1 false],.cells true (ks.map .str),.cells true [.sl 2 0 n 1 false],rc,.cells true (ks.map .str)]) .ready none (.tuple []) (gf:=212) (cap:=[.ptr 3 0]) (by simp) (zH Tryz.func212 rfl (by decide)) (by decide) (by simp) (by simp) (by simp) rfl (by simp) ?_ ?_
 · generalize hrc:ABlk.loop _ _ _ LoopState.ready none _=rc
   refine zK Tryz.func212 rfl ?_;simp only[Tryz.ntmps212,q7Z,q8Z,Nat.reduceAdd,Nat.reduceSub,qbZ,q9Z,qaZ]
   refine Sim.step hmix zD (n:=0) (by simp;exact⟨rfl,rfl⟩) (by simp) ?_
   refine Sim.block (Sim.loopW (fun i:Nat=>i<=n)
     (fun i=>[.yld 4,.ptr 3 0,.top,.top,.top,.sl 2 0 n 1 false,.int .i64 n,.int .i64 i]++qbZ 8 .top)
     (fun i=>[.obj true f.blks,.cells true [.sl 5 0 i 1 false],.cells true (ks.map .str),.cells true [.sl 2 0 n 1 false],rc,.cells true ((ks.take i).map .str)]) (fun i=>n-i) 0 (by simp) (by simp) ?_ fun i hi=>?_)
   · subst hrc
     exact Weak.mk' [0,1,2,3,4,100] (by decide) (by decide) (by simp) (by simp[AWb])
   · subst hrc
     have hΓ2:=zq (P:=Pz) hmix zD 0 [] 1;by_cases hlt:i<n
     · have hltI:(i:Int)<n:=by omega
       have hlk:i<ks.length:=by omega
       obtain⟨x,hx1⟩:∃x,ks[i]=x:=⟨_,rfl⟩
       have hg:∀h,ks[i]'h=x:=fun h=>hx1
       obtain⟨acc,hacc⟩:∃acc,ks.take i=acc:=⟨_,rfl⟩
       have hal:acc.length=i:=by rw[<-hacc,qjZ];omega
       have hnx:ks.take (i+1)=acc++[x]:=by rw[List.take_add_one,q3Z hlk,hx1,hacc];rfl
       have htk:List.take i (acc.map AV.str)=acc.map AV.str:=q6Z (by simp;omega)
       have b1:(i+1)*16<=140737488355328:=by omega
       have b2:i+1<=9223372036854775807:=by omega
       have y1:IntKind.i64.wrap ((i:Int)+1)=i+1:=zX (by omega) (by omega)
       rw[hacc]
       refine Sim.exec hmix hΓ2 (n:=0) (by simp +decide [hlt,hltI,hn,hg,hal,htk,b1,b2,y1];exact⟨rfl,rfl,rfl⟩) (by simp) ?_
       exact⟨i+1,by omega,by rw[hnx];exact Weak.mk' [0,1,2,3,4,7] (by decide) (by decide) (by simp) (by simp[AWb]),by omega⟩
     · have hin:i=n:=by omega
       subst hin
       rw[q6Z (by omega)]
       refine Sim.exec hmix hΓ2 (n:=0) (by simp;exact⟨rfl,rfl,rfl⟩) (by simp) ?_
       dsimp only;rw[if_pos rfl]
       exact⟨.inl rfl,_,by simp[Tryz.f212] <;> rfl,Weak.mk' [0,1,2,3,4,5] (by decide) (by decide) (by simp) (by simp[AWb])⟩
 · dsimp only
   refine Sim.exec hmix hΓ (n:=0) (by simp;exact⟨rfl,rfl,rfl⟩) (by simp) ?_
   exact⟨.inr rfl,_,by simp[Tryz.f72] <;> rfl,Weak.mk' [0,5] (by decide) (by decide) (by simp) (by simp[AWb])⟩
end
section
open Go Go.Lib
attribute [-simp] zJ zY zn zL zl
noncomputable section
open Classical
def zS3:zc:=zBv zFe FD.blks fun f xs _=>match xs with
 | [.str k]=>if f.small/\k.length<=9223372036854775807 then some ((f.create k).1,.tuple [.int .i64 (f.create k).2.1,.int .i64 (f.create k).2.2]) else none
 | _=>none
theorem zPG:Sound Pz 103 zS3:=by
 refine zr (zH Tryz.func103 rfl (by decide)) (fun _ _=>zBF) fun f xs H s' v b hg hb=>?_
 split at hg;rotate_left
 · cases hg
 split at hg <;> cases hg
 rename_i hs;exact ZM (zRe f _ hs.1 hs.2) rfl rfl hb
def zAS:zc:=zBv zFe FD.blks fun f xs _=>match xs with
 | [.str a]=>some (f,.tuple [.int .i64 (f.find a).1,.bool (f.find a).2])
 | _=>none
theorem zAI:Sound Pz 73 zAS:=by
 refine zr (zH Tryz.func73 rfl (by decide)) (fun _ _=>zBF) fun f xs H s' v b hg hb=>?_
 split at hg <;> cases hg
 exact ZM (zVG f _) rfl rfl hb
def zPv:zc:=zBv zFe FD.blks fun f xs _=>match xs with
 | []=>some (f,.int .i64 f.acts.length)
 | _=>none
theorem zN8:Sound Pz 175 zPv:=by
 refine zr (zH Tryz.func175 rfl (by decide)) (fun _ _=>zBF) fun f xs H s' v b hg hb=>?_
 split at hg <;> cases hg
 exact ZM (zP5 f) rfl rfl hb
def zIh:zc:=zBv zFe FD.blks fun f xs _=>match xs with
 | [.int .i64 m]=>if f.acts.length<=1000000 then some (f.survive m,.tuple []) else none
 | _=>none
theorem zGh:Sound Pz 71 zIh:=by
 refine zr (zH Tryz.func71 rfl (by decide)) (fun _ _=>zBF) fun f xs H s' v b hg hb=>?_
 split at hg;rotate_left
 · cases hg
 split at hg <;> cases hg
 rename_i hs;exact ZM (zPS f _ hs) rfl rfl hb
def zEL:zc:=fun args H=>match args with
 | [.ptr b 0]=>match H[b]? with
   | some (.obj true sub)=>match zFe sub with
     | some f=>if f.small then some (.sl H.length 0 f.names.length 1 false,H++[.cells true (f.names.map .str)],[]) else none
     | none=>none
   | _=>none
 | _=>none
theorem zFU:Sound Pz 72 zEL:=by
 refine ⟨zH Tryz.func72 rfl (by decide),fun args H v H' W hs=>?_,fun args H v H' W hs=>?_⟩ <;> (unfold zEL at hs;split at hs <;> try cases hs) <;> (split at hs <;> try cases hs) <;> (rename_i b _ sub hb;split at hs <;> try cases hs) <;> (rename_i f hf;split at hs <;> cases hs;rename_i hk)
 · have e:=zBF hf
   subst e;have hbl:b<H.length:=(q1Z.1 hb).1
   have fs:∀g,Zo g (f.names.map AV.str)=f.names.map AV.str:=fun g=>zCY g _ (by simp[Z4,zBz])
   have:=ZE (H:=H) (args:=[.ptr b 0]) (zSO f hk) [b] (by simp) ⟨⟨rfl,rfl⟩,trivial⟩ ⟨by rw[q2Z,hb];exact⟨rfl,rfl⟩,hbl,trivial⟩ rfl
   obtain⟨h1,h2⟩:=q1Z.1 hb
   have hset:H.set b (.obj true f.blks)=H:=by rw[<-h2,List.set_getElem_self]
   simpa[zf,ABlk.own,reB,reA,Z5,hset,fs] using this
 · exact⟨by simp,fun c hc _=>by rw[q4Z hc]⟩
def zLN:zc:=fun args H=>match args with
 | []=>some (.ptr H.length 0,H++[.obj true FD.new.blks],[])
 | _=>none
theorem zNw:Sound Pz 102 zLN:=by
 refine ⟨zH Tryz.func102 rfl (by decide),fun args H v H' W hs=>?_,fun args H v H' W hs=>?_⟩ <;> (unfold zLN at hs;split at hs <;> cases hs)
 · have:=ZE (H:=H) (args:=[]) zXH [] (by simp) trivial trivial rfl
   simpa[zf,ABlk.own,reB,reA,Z5] using this
 · exact⟨by simp,fun c hc _=>by rw[q4Z hc]⟩
def zX7:Gam:=zv [(175,zPv),(71,zIh)]
theorem zVo:GOk Pz zX7:=zC zN8 (zC zGh zD)
theorem zVr(f:FD)(hal:f.acts.length<=1000000):Ct Pz 105 [.ptr 0 0] [.obj true f.blks] (.tuple []) [.obj true (f.survive f.acts.length).blks]:=by
 refine zK Tryz.func105 rfl ?_;simp only[Tryz.ntmps105,q7Z,q8Z,Nat.reduceAdd,Nat.reduceSub,qbZ,q9Z,qaZ]
 refine Sim.exec hmix zVo (n:=0) (by simp[zX7,zPv,zIh,hal];exact⟨rfl,rfl,rfl⟩) (by simp) ?_
 exact⟨.inl rfl,_,by simp[Tryz.f105] <;> rfl,Weak.mk' [0] (by decide) (by decide) (by simp) (by simp[AWb])⟩
def zOo:zc:=zBv zFe FD.blks fun f xs _=>match xs with
 | []=>if f.acts.length<=1000000 then some (f.survive f.acts.length,.tuple []) else none
 | _=>none
theorem zMp:Sound Pz 105 zOo:=by
 refine zr (zH Tryz.func105 rfl (by decide)) (fun _ _=>zBF) fun f xs H s' v b hg hb=>?_
 split at hg;rotate_left
 · cases hg
 split at hg <;> cases hg
 rename_i hs;exact ZM (zVr f hs) rfl rfl hb
end
end
section
open Go Go.Lib
noncomputable def zDY(args:List AV)(H:zA)(v:AV)(H':zA):zc:=open Classical in fun a h=>if a=args/\h=H then some (v,H',List.range H.length) else none
theorem Zf{P:Program}{f:FuncId}{args:List AV}{H H':zA}{v:AV}(he:∀cargs w,(callFunc f cargs).run P w=.ok (.enter f cargs) w)(h:Ct P f args H v H')(hl:H.length<=H'.length):Sound P f (zDY args H v H'):=by
 refine ⟨he,fun a h1 v1 H1 W hs=>?_,fun a h1 v1 H1 W hs=>?_⟩ <;> (unfold zDY at hs;split at hs <;> cases hs) <;> (rename_i hc;obtain⟨rfl,rfl⟩:=hc)
 · exact h
 · exact⟨hl,fun b hb hn=>absurd (List.mem_range.2 hb) hn⟩
@[simp] theorem zXv(args:List AV)(H:zA)(v:AV)(H':zA):zDY args H v H' args H=some (v,H',List.range H.length):=by
 unfold zDY;rw[if_pos ⟨rfl,rfl⟩]
theorem zz{P:Program}{f:FuncId}{fn:Func}{c:Code}(hf:P.funcs[f]? = some fn)(hb:fn.body=some c){args:List AV}{H H':zA}{v:AV}
   (h:Sim P none H.length c (args++qbZ (fn.ntmps-args.length) zb) H fun x F1 H1=>(x=.normal\/x=.ret)/\zDA P fn.results.toList F1 H1=some v/\H1=H'):Ct P f args H v H':=by
 intro j w cargs hR hargs;refine (callsIn_wide (n:=0)).1 ?_;refine callsIn_of_wp_marks hf hb trivial ?_ rfl;have hl:=hargs.length
 have hF:VRs j (args++qbZ (fn.ntmps-args.length) zb) (cargs++Array.replicate (fn.ntmps-cargs.size) undef).toList:=by
   rw[rxZ,Array.toList_replicate,hl,rjZ]
   exact hargs.append (VRs.replicate (v:=undef) (show VR j zb undef from ⟨#[],rfl,rfl⟩) _)
 refine wpIn_mono (h w.heap.size j w { tmps:=cargs++Array.replicate (fn.ntmps-cargs.size) undef,defers:=[] } 0 (qnZ _) hR hF (DefOk.nil _ _)) ?_;rintro e a' w' ⟨x,F',H1,j',rfl,⟨hx,hv1,rfl⟩,h3,h4,h5⟩
 refine zF4 hR.glo.1.2 hx hv1 h3 h4 h5 fun cv w2 g2 hs=>?_
 exact⟨cv,j',rfl,g2,hs⟩
theorem zGL{P:Program}{f:FuncId}{xs:List AV}{v v':AV}{sub H' H'':zA}(h:Ct P f xs sub v H')(hne:1<=sub.length)(hA:Aft 1 [v] H' fun F H=>F=[v']/\H=H''):Ct P f xs [.obj true sub] v' H'':=by
 intro j w cargs hR hargs
 obtain⟨j1,hle,s1⟩:=Step.open (n:=1) hR (b:=0) rfl (by simp)
 have e:ZD [.obj true sub] 0 sub=sub:=by
   have hg:∀i,zAG 0 1 i=i:=fun i=>by unfold zAG;split <;> omega
   cases sub with
   | nil=>simp at hne
   | cons B r =>
     unfold ZD;simp only[q7Z,q8Z,List.getD_cons_zero,s9Z,List.drop_succ_cons,List.drop_zero,q9Z,qaZ,s8Z]
     rw[zDw hg,List.map_congr_left (fun B _=>zDw hg B)]
     simp
 rw[e]at s1;refine (h j1 w cargs s1.rel (VRs.mono hle _ _ hargs)).mono ?_;rintro e w' ⟨cv,j2,rfl,hv,s2⟩;obtain⟨F3,H3,j3,⟨rfl,rfl⟩,h3,s3⟩:=hA j2 w' [cv] s2.rel ⟨cv,[],rfl,hv,rfl⟩;obtain⟨cv',ws,e1,h4,h5⟩:=h3;cases e1;exact⟨cv,j3,rfl,h4,(s1.trans s2 hne).trans s3 (qnZ _)⟩
def zO(g:Nat->Nat):Nat->FS->List (AV×AV)
 | _,[]=>[]
 | k,e::l=>(.int .i64 e.1,.ptr (g k) 0)::zO g (k+1) l
def zM(l:FS):zA:=l.map fun e=>.obj true e.2.blks
@[simp] theorem zK9(g:Nat->Nat):∀(k:Nat) (l:FS),(zO g k l).length=l.length
 | _,[]=>rfl
 | k,e::l=>by simp[zO,zK9 g (k+1) l]
@[simp] theorem zu(l:FS):(zM l).length=l.length:=by simp[zM]
theorem Zj{l:FS}{i:Nat}{e:Int×PF}(h:l[i]? = some e):(zM l)[i]? = some (.obj true e.2.blks):=by simp[zM,h]
theorem zAB(g:Nat->Nat)(n:Int):∀(k:Nat) (l:FS) (i:Nat),zAA (zO g k l) (.int .i64 n) i=some ((FS.get l n).map fun _=>(i+FS.at l n,.ptr (g (k+FS.at l n)) 0))
 | k,[],i=>by simp[zO,zAA,FS.get]
 | k,e::l,i=>by
   have ih:=zAB g n (k+1) l (i+1);by_cases h:e.1=n
   · subst h
     simp[zO,zAA,Zp,FS.get,FS.at,FS.keys]
   · have h2:(n==e.1)=false:=by simpa using (fun q=>h q.symm)
     have h3:(e.1==n)=false:=by simpa using h
     simp only[zO,zAA,Zp,h2,ih,FS.get,h,if_false,FS.at,FS.keys,s1Z];rw[List.idxOf_cons,h3]
     cases FS.get l n <;> simp
     exact⟨by omega,by congr 1;omega⟩
theorem zKW(g:Nat->Nat):∀(k:Nat) (l:FS) (e:Int×PF),zO g k (l++[e])=zO g k l++[(.int .i64 e.1,.ptr (g (k+l.length)) 0)]
 | k,[],e=>rfl
 | k,x::l,e=>by
   simp only[q9Z,zO,zKW g (k+1) l e,q7Z]
   rw[show k+1+l.length=k+(l.length+1) by omega]
theorem zEK(g:Nat->Nat)(n:Int)(h:PF->PF):∀(k:Nat) (l:FS),zO g k (FS.upd l n h)=zO g k l
 | k,[]=>rfl
 | k,e::l=>by
   unfold FS.upd;split
   · rename_i hn;simp[zO,hn]
   · simp only[zO,zEK g n h (k+1) l]
theorem zHl{l:FS}{n:Int}{f:PF}(h:PF->PF)(hf:FS.get l n=some f):zM (FS.upd l n h)=(zM l).set (FS.at l n) (.obj true (h f).blks):=by
 rw[FS.upd_set h hf];simp[zM,List.map_set]
theorem zBM{g g':Nat->Nat}:∀(k:Nat) (l:FS),(∀i,k<=i->i<k+l.length->g i=g' i)->zO g k l=zO g' k l
 | _,[],_=>rfl
 | k,e::l,h=>by
   simp only[zO]
   rw[h k (qnZ _) (by simp),zBM (k+1) l fun i h1 h2=>h i (by omega) (by simp;omega)]
theorem zJD(rn:List Nat)(g g':Nat->Nat):∀(k:Nat) (l:FS),AWs rn ((zO g k l).map (·.1)) ((zO g' k l).map (·.1))
 | _,[]=>trivial
 | k,_::l=>⟨⟨rfl,rfl⟩,zJD rn g g' (k+1) l⟩
theorem zJP(rn:List Nat)(g g':Nat->Nat):∀(k:Nat) (l:FS),(∀i,k<=i->i<k+l.length->rn[g i]? = some (g' i))->AWs rn ((zO g k l).map (·.2)) ((zO g' k l).map (·.2))
 | _,[],_=>trivial
 | k,_::l,h=>⟨⟨h k (qnZ _) (by simp),rfl⟩,zJP rn g g' (k+1) l fun i h1 h2=>h i (by omega) (by simp;omega)⟩
theorem zBg{rn:List Nat}{g g':Nat->Nat}{l:FS}(h:∀i,i<l.length->rn[g i]? = some (g' i)):AWb rn (.map (zO g 0 l)) (.map (zO g' 0 l)) :=
 ⟨zJD rn g g' 0 l,zJP rn g g' 0 l fun i _ h2=>h i (by omega)⟩
theorem zGR{h g:Nat->Nat}:∀(k:Nat) (l:FS),(zO g k l).map (fun e=>(reA h e.1,reA h e.2))=zO (fun i=>h (g i)) k l
 | _,[]=>rfl
 | k,_::l=>by simp only[zO,s1Z,reA,zGR (k+1) l]
def DS.cell0(d:DS)(fo m:Nat):ABlk:=.cells true [.ptr fo 0,.map m,.int .i64 d.quota,.int .i64 d.steps,.int .i64 d.armed,.bool d.down]
def DS.blks(d:DS):zA:=d.cell0 1 2::.obj true d.fd.blks::.map (zO (fun i=>i+3) 0 d.fs)::zM d.fs
theorem DS.blks_length(d:DS):d.blks.length=d.fs.length+3:=by simp[DS.blks]
theorem DS.blks_id(d:DS)(rn:List Nat)(hr:∀i,i<d.blks.length->rn[i]? = some i):∀B∈d.blks,AWb rn B B:=by
 rw[DS.blks_length]at hr;intro B hB;simp only[DS.blks,DS.cell0,qwZ]at hB;rcases hB with rfl | rfl | rfl | hB
 · exact⟨id,⟨hr 1 (by omega),rfl⟩,hr 2 (by omega),⟨rfl,rfl⟩,⟨rfl,rfl⟩,⟨rfl,rfl⟩,rfl,trivial⟩
 · exact⟨rfl,rfl⟩
 · exact zBg fun i hi=>hr (i+3) (by omega)
 · obtain⟨e,_,rfl⟩:=reZ.1 hB
   exact⟨rfl,rfl⟩
theorem Weak.tailG{A T Tn:zA}{F Fn:List AV}{N:Nat}(hN:A.length=N)(hA:∀rn:List Nat,(∀i,i<N->rn[i]? = some i)->∀B∈A,AWb rn B B)(ts:List Nat)(hts:ts.Nodup)
   (hF:AWs (List.range N++ts.map (N+·)) Fn F) (hT:AWg (List.range N++ts.map (N+·)) (A++T) Tn (ts.map (N+·))):Weak N F (A++T) Fn (A++Tn):=by
 have hr:∀i,i<N->(List.range N++ts.map (N+·))[i]? = some i:=fun i hi=>by
   rw[q4Z (by simpa using hi),rfZ hi]
 refine Weak.mk' (List.range N++ts.map (N+·)) ?_ ?_ hF (AWg.append ?_ hT)
 · rw[List.nodup_append]
   refine ⟨List.nodup_range,?_,fun a ha b hb=>?_⟩
   · rw[List.nodup_iff_pairwise_ne,List.pairwise_map]
     exact (List.nodup_iff_pairwise_ne.1 hts).imp fun h e=>h (by omega)
   · obtain⟨c,_,rfl⟩:=reZ.1 hb
     have:=List.mem_range.1 ha;omega
 · rw[List.take_left' (by simp)]
 · refine AWg.of _ _ (by simp[hN]) fun i x b hx hb hlt=>?_
   have hi:i<N:=by rw[<-hN];exact (q1Z.1 hx).1
   have hbi:b=i:=by rw[rfZ hi]at hb;cases hb;rfl
   subst hbi
   rw[q2Z,q4Z (by omega),hx]
   exact hA _ hr x (qcZ hx)
structure DAt (H:zA) (d:DS) (b fo m:Nat) (g:Nat->Nat):Prop where
 c0:H[b]? = some (d.cell0 fo m)
 fold:H[fo]? = some (.obj true d.fd.blks)
 map:H[m]? = some (.map (zO g 0 d.fs))
 file:∀(i:Nat) e,d.fs[i]? = some e->H[g i]? = some (.obj true e.2.blks)
 nd:(b::fo::m::(List.range d.fs.length).map g).Nodup
theorem DAt.awg{H:zA}{d:DS}{b fo m:Nat}{g:Nat->Nat}(h:DAt H d b fo m g)(rn:List Nat)(hr:∀i,i<d.fs.length+3->rn[i]? = (b::fo::m::(List.range d.fs.length).map g)[i]?) :
   AWg rn H d.blks (b::fo::m::(List.range d.fs.length).map g):=by
 refine AWg.of _ _ (by simp[DS.blks]) fun i x c hx hc hlt=>?_
 have hil:i<d.fs.length+3:=by rw[<-DS.blks_length];exact (q1Z.1 hx).1
 rw[q2Z]
 match i,hx,hc with
 | 0,hx,hc =>
   cases hx;cases hc
   rw[h.c0]
   exact⟨id,⟨hr 1 (by omega),rfl⟩,hr 2 (by omega),⟨rfl,rfl⟩,⟨rfl,rfl⟩,⟨rfl,rfl⟩,rfl,trivial⟩
 | 1,hx,hc =>
   cases hx;cases hc
   rw[h.fold];exact⟨rfl,rfl⟩
 | 2,hx,hc =>
   cases hx;cases hc
   rw[h.map]
   refine zBg fun i hi=>?_
   rw[hr (i+3) (by omega)]
   simp[hi]
 | i+3,hx,hc =>
   simp only[DS.blks,r9Z]at hx hc
   have hi:i<d.fs.length:=by omega
   have he:=q3Z hi;rw[Zj he]at hx;cases hx;simp[hi]at hc;subst hc;rw[h.file i _ he];exact⟨rfl,rfl⟩
theorem Aft.closeDS(d:DS){T Tn:zA}{v v':AV}(ts:List Nat)(hts:ts.Nodup)(hlen:Tn.length=ts.length)(hF:AW (0::ts.map (d.fs.length+3+·)) v' v)
   (hT:∀(i t:Nat) x,ts[i]? = some t->Tn[i]? = some x->∃y,T[t]? = some y/\AWb (0::ts.map (d.fs.length+3+·)) x y):Aft 1 [v] (d.blks++T) fun F H=>F=[v']/\H=.obj true d.blks::Tn:=by
 have hl:=d.blks_length
 have hr:∀i,i<d.blks.length->(List.range d.blks.length)[i]? = some i:=fun i hi=>rfZ hi
 refine Aft.close (o:=true) (b:=0) (sub:=d.blks) (rs:=List.range d.blks.length) (ks:=List.range' 1 (d.fs.length+2)) (hr 0 (by omega)) List.nodup_range (by simp;omega) ?_ ?_ ⟨d.cell0 1 2,rfl,rfl⟩ ?_ (by simp;omega) ?_
 · intro c x hc h0 _ _
   have:=List.mem_range.1 hc
   rw[List.mem_range'_1];omega
 · refine AWg.of _ _ (by simp) fun i x b hx hb hlt=>?_
   have hi:i<d.blks.length:=(q1Z.1 hx).1
   rw[hr i hi]at hb;cases hb
   rw[q2Z,q4Z hi,hx];exact d.blks_id _ hr x (qcZ hx)
 · intro i y hy hd
   have hm:=qcZ hy;simp only[DS.blks,DS.cell0,qwZ]at hm;rcases hm with rfl | rfl | rfl | hm
   · rfl
   · rfl
   · rfl
   · obtain⟨e,_,rfl⟩:=reZ.1 hm
     rfl
 · refine Aft.weak (Fn:=[v']) (Hn:=.obj true d.blks::Tn) (Weak.mk' (0::ts.map (d.fs.length+3+·)) ?_ rfl ⟨hF,trivial⟩ (zT (b:=0) (by simp;omega) _ _ (by simp[hlen]) fun i c x h1 h2=>?_)) (by simp;omega) (Aft.done (by simp) ⟨rfl,rfl⟩)
   · rw[rdZ]
     refine ⟨fun h=>?_,?_⟩
     · obtain⟨a,_,h⟩:=reZ.1 h;omega
     · rw[List.nodup_iff_pairwise_ne,List.pairwise_map]
       exact (List.nodup_iff_pairwise_ne.1 hts).imp fun h e=>h (by omega)
   · cases i with
     | zero =>
       cases h1;cases h2;exact .inl ⟨rfl,rfl⟩
     | succ i =>
       simp only[r9Z,qzZ]at h1 h2;obtain⟨t,ht,rfl⟩:=qlZ.1 h1;obtain⟨y,hy,hw⟩:=hT i t x ht h2
       refine .inr ⟨⟨by omega,by rw[List.mem_range'_1];omega⟩,?_⟩
       rw[q2Z,q5Z (by omega),hl,s3Z,hy]
       exact hw
noncomputable def dsD(sub:zA):Option DS:=open Classical in if h:∃d:DS,sub=d.blks then some h.choose else none
theorem zAb{sub:zA}{d:DS}(h:dsD sub=some d):sub=d.blks:=by
 unfold dsD at h;split at h
 · rename_i hx
   cases h;exact hx.choose_spec
 · cases h
theorem zJ2(g:Nat->Nat):∀(k:Nat) {l m:FS},zO g k l=zO g k m->zM l=zM m->l=m
 | _,[],[],_,_=>rfl
 | _,[],_::_,h,_=>by simp[zO]at h
 | _,_::_,[],h,_=>by simp[zO]at h
 | k,(a,x)::l,(b,y)::m,h,h'=>by
   simp only[zO,List.cons.injEq,Prod.mk.injEq,AV.int.injEq,true_and,and_true]at h;simp only[zM,s1Z,List.cons.injEq,ABlk.obj.injEq,true_and]at h';have h3:=congrArg zDX h'.1;rw[zIt,zIt]at h3;rw[h.1,Option.some.inj h3,zJ2 g (k+1) h.2 h'.2]
theorem zRQ{d e:DS}(h:d.blks=e.blks):d=e:=by
 obtain⟨fd,fs,q,s,a,w⟩:=d;obtain⟨fd',fs',q',s',a',w'⟩:=e;simp only[DS.blks,DS.cell0,List.cons.injEq,ABlk.cells.injEq,ABlk.obj.injEq,ABlk.map.injEq,AV.int.injEq,AV.bool.injEq,true_and,and_true]at h;obtain⟨⟨h1,h2,h3,h4⟩,h5,h6,h7⟩:=h;rw[h1,h2,h3,h4,zNk h5,zJ2 _ 0 h6 h7]
@[simp] theorem zX3(d:DS):dsD d.blks=some d:=by
 unfold dsD;have h:∃e:DS,d.blks=e.blks:=⟨d,rfl⟩;rw[dif_pos h];have:=Classical.choose_spec h;exact congrArg some (zRQ this).symm
end
section
open Go Go.Lib
attribute [-simp] zJ zY zn zL zl
theorem DS.blks_head(d:DS)(T:zA):d.blks++T=.cells true [.ptr 1 0,.map 2,.int .i64 d.quota,.int .i64 d.steps,.int .i64 d.armed,.bool d.down]::(.obj true d.fd.blks::.map (zO (fun i=>i+3) 0 d.fs)::(zM d.fs++T)):=rfl
theorem zUM(d:DS)(T:zA)(F:FuncId)(caps:List AV){v:AV}{H':zA}(he:∀cargs w,(callFunc F cargs).run Pz w=.ok (.enter F cargs) w)(hF:F≠yl)
   (hs:0<=d.steps/\d.steps<=4611686018427387903) (ha:0<=d.armed/\d.armed<=4611686018427387903) (hlen:(d.blks++T).length<=H'.length)
   (hdown:d.count.down=true->v=.int .i64 13/\H'=d.count.blks++T)
   (hup:d.count.down=false->Ct Pz F caps (d.count.blks++T) v H') :
   Ct Pz 149 [.ptr 0 0,.func F [] caps] (d.blks++T) v H':=by
 have hw:IntKind.i64.wrap (d.steps+1)=d.steps+1:=zX (by omega) (by omega)
 have hb:=DS.blks_head d T;have hb2:=DS.blks_head d.count T;rw[DS.count_fd,DS.count_fs,DS.count_quota,DS.count_steps]at hb2
 obtain⟨rest,hrest⟩:∃rest:zA,.obj true d.fd.blks::.map (zO (fun i=>i+3) 0 d.fs)::(zM d.fs++T)=rest:=⟨_,rfl⟩
 rw[hrest]at hb hb2;obtain⟨a',ea⟩:∃a',d.count.armed=a':=⟨_,rfl⟩;obtain⟨w',ew⟩:∃w',d.count.down=w':=⟨_,rfl⟩;rw[ea,ew]at hb2;rw[ew]at hdown hup;rw[hb2]at hdown hup;rw[hb]at hlen ⊢;refine zz Tryz.func149 rfl ?_;simp only[Tryz.ntmps149,q7Z,q8Z,Nat.reduceAdd,Nat.reduceSub,qbZ,q9Z,qaZ]
 refine Sim.step hmix zD (n:=0) (by simp;exact⟨rfl,rfl⟩) (by simp) ?_
 refine Sim.step hmix zD (n:=0) (by simp;exact⟨rfl,rfl⟩) (by simp) ?_
 refine Sim.step hmix zD (n:=0) (by simp[hw];exact⟨rfl,rfl⟩) (by simp) ?_
 refine Sim.seq (Sim.mono (Q:=fun e F' H1=>e=.normal/\LessF ([.ptr 0 0,.func F [] caps,.top,.top,.int .i64 0]++qbZ 42 .top) F'/\H1=.cells true [.ptr 1 0,.map 2,.int .i64 d.quota,.int .i64 (d.steps+1),.int .i64 a',.bool w']::rest) ?_ ?_)
 · by_cases h1:0<d.armed
   · cases h2:d.down with
     | true =>
       have e:d.count=⟨d.fd,d.fs,d.quota,d.steps+1,d.armed,d.down⟩:=by unfold DS.count;rw[if_neg (by simp[h2])]
       rw[e]at ea ew;dsimp only at ea ew;rw[h2]at ew
       subst ea;subst ew
       refine Sim.exec hmix zD (n:=0) (by simp[h1];exact⟨rfl,rfl,rfl⟩) (by simp) ?_
       exact⟨rfl,by simp,rfl⟩
     | false =>
       have e:d.count=⟨d.fd,d.fs,d.quota,d.steps+1,d.armed-1,decide (d.armed-1=0)⟩:=by unfold DS.count;rw[if_pos ⟨h1,h2⟩]
       rw[e]at ea ew;dsimp only at ea ew
       have hw1:IntKind.i64.wrap (d.armed-1)=d.armed-1:=zX (by omega) (by omega)
       rw[ea]at hw1 ew
       have ew':(a'==0)=w':=by rw[<-ew];by_cases h:a'=0 <;> simp[h]
       refine Sim.exec hmix zD (n:=0) (by simp[h1,ea,hw1,ew'];exact⟨rfl,rfl,rfl⟩) (by simp) ?_
       exact⟨rfl,by simp,rfl⟩
   · have e:d.count=⟨d.fd,d.fs,d.quota,d.steps+1,d.armed,d.down⟩:=by unfold DS.count;rw[if_neg (by simp[h1])]
     rw[e]at ea ew;dsimp only at ea ew
     subst ea;subst ew
     refine Sim.exec hmix zD (n:=0) (by simp[h1];exact⟨rfl,rfl,rfl⟩) (by simp) ?_
     exact⟨rfl,by simp,rfl⟩
 rintro e F' H1 hlen1 ⟨rfl,hF,rfl⟩;dsimp only;refine Sim.less hF ?_;clear hF hlen1;simp only[q9Z,qaZ,qbZ]
 cases w' with
 | true =>
   obtain⟨rfl,rfl⟩:=hdown rfl
   refine Sim.exec hmix zD (n:=0) (by simp;exact⟨rfl,rfl,rfl⟩) (by simp) ?_
   exact⟨.inr rfl,by simp[Tryz.f149],rfl⟩
 | false =>
   have hΓ:GOk Pz (zv [(F,zDY caps (.cells true [.ptr 1 0,.map 2,.int .i64 d.quota,.int .i64 (d.steps+1),.int .i64 a',.bool false]::rest) v H')]):=zC (Zf he (hup rfl) (by simpa using hlen)) zD (hg:=hF)
   refine Sim.step hmix hΓ (n:=0) (by simp;exact⟨rfl,rfl⟩) (by simp) ?_
   have hF':¬F=1000000000:=hF
   refine Sim.exec hmix hΓ (n:=0) (by simp[hF'];exact⟨rfl,rfl,rfl⟩) (by simp) ?_
   exact⟨.inr rfl,by simp[Tryz.f149],rfl⟩
def DS.heap(d:DS)(T:zA):zA:=d.cell0 1 2::.obj true d.fd.blks::.map (zO (fun i=>i+3) 0 d.fs)::(zM d.fs++T)
theorem DS.heap_eq(d:DS)(T:zA):d.heap T=d.blks++T:=rfl
theorem DS.heap_length(d:DS)(T:zA):(d.heap T).length=d.fs.length+T.length+3:=by simp[DS.heap]
structure Behind (X:zA) (n:Nat):Prop where
 len:X.length=n
 get:∀(T:zA) (j:Nat),(X++T)[n+j]? = T[j]?
 get0:∀(T:zA),(X++T)[n]? = T[0]?
 set:∀(T:zA) (j:Nat) v,(X++T).set (n+j) v=X++T.set j v
 set0:∀(T:zA) v,(X++T).set n v=X++T.set 0 v
theorem behind(fs:FS):Behind (zM fs) fs.length:=by
 have hl:(zM fs).length=fs.length:=zu fs
 refine ⟨hl,fun T j=>?_,fun T=>?_,fun T j v=>?_,fun T v=>?_⟩
 · rw[q5Z (by omega),hl];congr 1;omega
 · rw[q5Z (by omega),hl,Nat.sub_self]
 · rw[List.set_append_right _ _ (by omega),hl];congr 2;omega
 · rw[List.set_append_right _ _ (by omega),hl,Nat.sub_self]
theorem DS.tail(d:DS){T Tn:zA}{F Fn:List AV}(ts:List Nat)(hts:ts.Nodup)
   (hF:AWs (List.range (d.fs.length+3)++ts.map (d.fs.length+3+·)) Fn F) (hlen:Tn.length=ts.length)
   (hT:∀(i t:Nat) x y,ts[i]? = some t->Tn[i]? = some x->T[t]? = some y->AWb (List.range (d.fs.length+3)++ts.map (d.fs.length+3+·)) x y):Weak (d.fs.length+3) F (d.heap T) Fn (d.heap Tn):=by
 have hl:=d.blks_length;rw[DS.heap_eq,DS.heap_eq]
 refine Weak.tailG hl (fun rn hr=>d.blks_id rn (by rw[hl];exact hr)) ts hts hF (AWg.of _ _ (by simp[hlen]) fun i x b hx hb hlt=>?_)
 rw[qzZ]at hb;obtain⟨t,ht,rfl⟩:=qlZ.1 hb;rw[qdZ,hl]at hlt
 have htl:t<T.length:=by omega
 rw[q2Z,q5Z (by omega),hl,s3Z,q3Z htl]
 exact hT i t x _ ht hx (q3Z htl)
theorem zBh(n:Nat)(ts:List Nat){i:Nat}(hi:i<n):(List.range n++ts)[i]? = some i:=by
 rw[q4Z (by simpa using hi),rfZ hi]
theorem zPT(n:Nat)(ts:List Nat):(List.range n++ts)[n]? = ts[0]?:=by
 rw[q5Z (by simp)];simp
def zQr:List FuncId:=[20]
noncomputable def zWQ:Gam:=zv [(72,zEL)]
theorem zV2:GOk Pz (zAL Pz zWQ 0 zQr 2):=zq hmix (zC zFU zD) 0 zQr 2
theorem zQO(d:DS)(hsm:d.fd.small):Ct Pz 25 [.ptr 0 0] (d.heap []) (.sl (d.fs.length+3) 0 d.list.length 1 false) (d.heap [.cells true (d.list.map .str)]):=by
 have hΓ:=zV2;have hlen:=d.heap_length [];obtain⟨n,hn⟩:∃n,d.fs.length=n:=⟨_,rfl⟩;have hX:=behind d.fs
 have tl:=fun {T Tn F Fn}=>DS.tail d (T:=T) (Tn:=Tn) (F:=F) (Fn:=Fn)
 rw[hn]at hlen hX tl;refine zK Tryz.func25 rfl ?_;simp only[Tryz.ntmps25,q7Z,q8Z,Nat.reduceAdd,Nat.reduceSub,qbZ,q9Z,qaZ];rw[hlen,hn];unfold DS.heap DS.cell0;have hXl:=hX.len;obtain⟨X,eX⟩:∃X,zM d.fs=X:=⟨_,rfl⟩;rw[eX]at hX hXl ⊢
 refine Sim.step hmix hΓ (n:=0) (by simp;exact⟨rfl,rfl⟩) (by simp[hXl]) ?_
 cases hd:d.down with
 | true =>
   have hl:d.list=[]:=by unfold DS.list;rw[hd];rfl
   rw[hl]
   refine Sim.exec hmix hΓ (n:=0) (by simp +decide [zQr,Tryz.f20];exact⟨rfl,rfl,rfl⟩) (by simp[hXl]) ?_
   refine ⟨.inr rfl,_,by simp[Tryz.f25] <;> rfl,?_⟩
   have:=tl (T:=[]) (Tn:=[.cells true []]) (F:=[.nils]) (Fn:=[.sl (n+3) 0 0 1 false]) [100] (by decide) (by simp[AWs,AW]) rfl (fun i t x y h1 h2 h3=>by simp at h3)
   unfold DS.heap DS.cell0 at this;rw[eX,hd]at this;simpa using this
 | false =>
   have hl:d.list=d.fd.names:=by unfold DS.list;rw[hd];rfl
   rw[hl]
   refine Sim.step hmix hΓ (n:=0) (by simp +decide [zQr,Tryz.f20];exact⟨rfl,rfl⟩) (by simp[hXl]) ?_
   refine Sim.exec hmix hΓ (n:=0) (by simp +decide [zWQ,zEL,hsm,hXl];exact⟨rfl,rfl,rfl⟩) (by simp[hXl]) ?_
   refine ⟨.inr rfl,_,by simp[Tryz.f25] <;> rfl,?_⟩
   have:=tl (T:=[.cells true (d.fd.names.map .str)]) (Tn:=[.cells true (d.fd.names.map .str)]) (F:=[.sl (n+3) 0 d.fd.names.length 1 false]) (Fn:=[.sl (n+3) 0 d.fd.names.length 1 false]) [0] (by decide) (by simp[AWs,AW]) rfl (fun i t x y h1 h2 h3=>by
     match i,h1,h2 with
     | 0,h1,h2=>cases h1;cases h2;cases h3;exact⟨id,(zBP (ZK d.fd.names AV.str fun _=>rfl)).2 trivial⟩)
   unfold DS.heap DS.cell0 at this;rw[eX,hd]at this;simpa using this
def flA:List (List UInt8×List UInt8)->List AV
 | []=>[]
 | e::l=>.str e.1::.str e.2::flA l
@[simp] theorem zBn:∀l,(flA l).length=l.length*2
 | []=>rfl
 | e::l=>by simp[flA,zBn l];omega
theorem zDC:∀l m,flA (l++m)=flA l++flA m
 | [],m=>rfl
 | e::l,m=>by simp[flA,zDC l m]
@[simp] theorem zAP:∀l,zZ (flA l)=true
 | []=>rfl
 | e::l=>by simp[flA,zAP l]
theorem zC0:∀(l:List (List UInt8×List UInt8)) (k:Nat) (h:k<l.length),((flA l).drop (k*2)).take 2=[.str l[k].1,.str l[k].2]
 | a::l,0,_=>by simp[flA]
 | a::l,k+1,h=>by
   have:=zC0 l k (by simpa using h)
   rw[show (k+1)*2=2+k*2 by omega]
   simp only[flA,List.getElem_cons_succ];rw[<-List.drop_drop];simpa using this
def zAc:List FuncId:=[114]
noncomputable def zP7(d:DS):Gam:=zv [(25,zDY [.ptr 0 0] (d.heap []) (.sl (d.fs.length+3) 0 d.list.length 1 false) (d.heap [.cells true (d.list.map .str)])),(73,zAS),(115,zKx)]
theorem zUa(d:DS)(hsm:d.fd.small):GOk Pz (zAL Pz (zP7 d) 0 zAc 2):=zq hmix (zC (Zf (zH Tryz.func25 rfl (by decide)) (zQO d hsm) (by simp[DS.heap])) (zC zAI (zC zLO zD))) 0 zAc 2
theorem zOA(d:DS){A B:Nat}(hok:d.ok A B)(hA:A<=1000000):Ct Pz 40 [.ptr 0 0] (d.heap []) (.sl (d.fs.length+3) 0 d.files.length 2 false) (d.heap [.cells true (flA d.files)]):=by
 have hsm:d.fd.small:=FD.ok_mono hok.fd hA;have hΓ:=zUa d hsm;have hlen:=d.heap_length [];obtain⟨n,hn⟩:∃n,d.fs.length=n:=⟨_,rfl⟩;have hX:=behind d.fs
 have tl:=fun {T Tn F Fn}=>DS.tail d (T:=T) (Tn:=Tn) (F:=F) (Fn:=Fn)
 rw[hn]at hlen hX tl;refine zK Tryz.func40 rfl ?_;simp only[Tryz.ntmps40,q7Z,q8Z,Nat.reduceAdd,Nat.reduceSub,qbZ,q9Z,qaZ];rw[hlen,hn]
 have hfl:d.files.length=d.list.length:=by simp[DS.files]
 obtain⟨ks,hks⟩:∃ks,d.list=ks:=⟨_,rfl⟩;obtain⟨m,hm⟩:∃m,ks.length=m:=⟨_,rfl⟩
 have hm6:m<=1000000:=by
   rw[<-hm,<-hks];unfold DS.list;split
   · simp
   · have h1:=(FD.ok_now hsm).2
     unfold FD.names;rw[(ZN _).length_eq];simpa[NM.keys] using h1
 have hdn:0<m->d.down=false:=fun h=>by
   cases hd:d.down with
   | false=>rfl
   | true=>unfold DS.list at hks;rw[hd]at hks;rw[<-hks]at hm;simp at hm;omega
 rw[hfl,hks,hm];simp only[q8Z,Nat.add_zero]at hlen ⊢
 have fks:∀rn:List Nat,AWs rn (ks.map AV.str) (ks.map AV.str):=fun rn=>(zBP (ZK ks AV.str fun _=>rfl)).2 trivial
 refine Sim.step hmix hΓ (n:=0) (by simp;exact⟨rfl,rfl⟩) (by simp[DS.heap,hn]) ?_
 refine Sim.seq (Sim.mono (Q:=fun e F' H'=>e=.normal/\Weak (n+3) F' H' ([.ptr 0 0,.top,.sl (n+4) 0 m 2 false]++qbZ 26 .top) (d.heap [.cells true (ks.map .str),.cells true (flA d.files)])) (Sim.step hmix hΓ (n:=0) (by simp[zAc,zP7,hks,hm,hn];exact⟨rfl,rfl⟩) (by simp[DS.heap,hn]) ?_) ?_)
 · refine Sim.block (Sim.loopW (fun i:Nat=>i<=m)
     (fun i=>[.ptr 0 0,.top,.sl (n+4) 0 i 2 false,.top,.top,.top,.top,.top,.sl (n+3) 0 m 1 false,.int .i64 m,.int .i64 i]++qbZ 18 .top)
     (fun i=>d.heap [.cells true (ks.map .str),.cells true (flA (d.files.take i))]) (fun i=>m-i) 0 (by simp[DS.heap,hn]) (by simp) ?_ fun i hi=>?_)
   · refine tl (T:=[.cells true (ks.map .str)]) [0,100] (by decide) ?_ rfl ?_
     · simp[AW]
     · intro j t x y h1 h2 h3
       match j,h1,h2 with
       | 0,h1,h2=>cases h1;cases h2;cases h3;exact⟨id,fks _⟩
       | 1,h1,h2=>cases h1;cases h3
   · by_cases hlt:i<m
     · have hltI:(i:Int)<m:=by omega
       have hilt:i<ks.length:=by omega
       obtain⟨k,hk⟩:∃k,ks[i]=k:=⟨_,rfl⟩
       have hg:∀h,ks[i]'h=k:=fun h=>hk
       have hd:=hdn (by omega)
       have hmem:k∈d.fd.names:=by
         rw[<-hk]
         have:ks=d.fd.names:=by rw[<-hks];unfold DS.list;rw[hd];rfl
         rw[<-this];exact r3Z hilt
       obtain⟨v,hv⟩:=FD.names_get hmem;obtain⟨f,hf,hfok⟩:=DS.has_file hok hv;have hfind:=FD.find_get hv
       have hlook:=zAB (fun i=>i+3) v 0 d.fs 0
       rw[hf]at hlook;simp only[rhZ,s8Z]at hlook;have hfb:=Zj (FS.at_get hf);have hal:=FS.at_lt hf;obtain⟨q,hq⟩:∃q,FS.at d.fs v=q:=⟨_,rfl⟩;rw[hq]at hlook hfb hal;rw[hn]at hal;dsimp only at hfb
       have htext:d.text k=f.now:=by unfold DS.text DS.file;rw[hv];dsimp only;rw[hf]
       have hnx:d.files.take (i+1)=d.files.take i++[(k,f.now)]:=by
         rw[List.take_add_one]
         congr 1
         unfold DS.files;rw[hks,qzZ,q3Z hilt,hk];simp[htext]
       obtain⟨acc,hacc⟩:∃acc,d.files.take i=acc:=⟨_,rfl⟩
       have hal2:acc.length=i:=by rw[<-hacc,qjZ,hfl,hks,hm];omega
       rw[hacc]at hnx ⊢;have hXl:=hX.len;have hXg:=hX.get;have hXg0:=hX.get0;unfold DS.heap DS.cell0;obtain⟨X,eX⟩:∃X,zM d.fs=X:=⟨_,rfl⟩;rw[eX]at hfb hXl hXg hXg0 ⊢
       have hXq:∀T,(X++T)[q]? = some (.obj true f.blks):=fun T=>by rw[q4Z (by omega)];exact hfb
       have hXsq:∀T,(X++T).set q (.obj true f.blks)=X++T:=fun T=>by
         have hql:q<(X++T).length:=by simp;omega
         have h1:(X++T)[q]'hql=.obj true f.blks:=by have:=hXq T;rw[q3Z hql]at this;exact Option.some.inj this
         rw[<-h1,List.set_getElem_self]
       have hXs:=hX.set;have hXs0:=hX.set0;rw[eX]at hXs hXs0
       have y1:IntKind.i64.wrap ((i:Int)+1)=i+1:=zX (by omega) (by omega)
       have b1:(i+1)*32<=140737488355328:=by omega
       have b2:i+1<=9223372036854775807:=by omega
       have htk:List.take (i*2) (flA acc)=flA acc:=q6Z (by simp[hal2])
       rw[hd]
       refine Sim.step hmix hΓ (n:=0) (by simp[hltI];exact⟨rfl,rfl⟩) (by simp[hXl]) ?_
       refine Sim.step hmix hΓ (n:=0) (by simp;exact⟨rfl,rfl⟩) (by simp[hXl]) ?_
       refine Sim.seq (Sim.block ?_)
       refine Sim.step hmix hΓ (n:=0) (by simp[hlt,hXl,hm,hg];exact⟨rfl,rfl⟩) (by simp[hXl]) ?_
       refine Sim.step hmix hΓ (n:=0) (by simp[zAc,zP7,zAS,hfind,hlook,Tryz.f114];exact⟨rfl,rfl⟩) (by simp[hXl]) ?_
       refine Sim.exec hmix hΓ (n:=0) (by simp[zAc,zP7,zKx,hXq,hXsq,hXs,hXl,hal2,htk,b1,b2];exact⟨rfl,rfl,rfl⟩) (by simp[hXl]) ?_
       dsimp only
       refine Sim.exec hmix hΓ (n:=0) (by simp[y1];exact⟨rfl,rfl,rfl⟩) (by simp[hXl]) ?_
       dsimp only
       refine ⟨i+1,by omega,?_,by omega⟩
       rw[hnx,zDC]
       have tlx:=fun {T Tn F Fn}=>tl (T:=T) (Tn:=Tn) (F:=F) (Fn:=Fn) [0,3] (by decide)
       unfold DS.heap DS.cell0 at tlx;rw[eX,hd]at tlx
       refine tlx ?_ rfl fun j t x y h1 h2 h3=>?_
       · simp[AW]
       · match j,h1,h2 with
         | 0,h1,h2=>cases h1;cases h2;cases h3;exact⟨id,fks _⟩
         | 1,h1,h2=>cases h1;cases h2;cases h3;simp[AWb,flA]
     · have hin:i=m:=by omega
       subst hin
       have hltI:¬(i:Int)<i:=by omega
       refine Sim.exec hmix hΓ (n:=0) (by simp;exact⟨rfl,rfl,rfl⟩) (by simp[DS.heap,hn]) ?_
       dsimp only;rw[if_pos rfl]
       refine ⟨by trivial,?_⟩
       have hall:d.files.take i=d.files:=q6Z (by rw[hfl,hks,hm];exact qnZ _)
       rw[hall]
       refine tl [0,1] (by decide) ?_ rfl fun j t x y h1 h2 h3=>?_
       · simp[AW]
       · match j,h1,h2 with
         | 0,h1,h2=>cases h1;cases h2;cases h3;exact⟨id,fks _⟩
         | 1,h1,h2=>cases h1;cases h2;cases h3;simp[AWb]
 rintro e F' H' hlen1 ⟨rfl,hwk⟩;dsimp only;refine Sim.weak hwk hlen1 ?_;clear hwk hlen1;simp only[q9Z,qaZ,qbZ]
 refine Sim.exec hmix hΓ (n:=0) (by simp;exact⟨rfl,rfl,rfl⟩) (by simp[DS.heap,hn]) ?_
 refine ⟨.inr rfl,_,by simp[Tryz.f40] <;> rfl,?_⟩
 refine tl [1] (by decide) ?_ rfl fun j t x y h1 h2 h3=>?_
 · simp[AW]
 · match j,h1,h2 with
   | 0,h1,h2=>cases h1;cases h2;cases h3;simp[AWb]
def zGE(l:List (List UInt8×List UInt8)):Nat:=(l.map fun e=>e.2.length).sum
theorem zJq(l:List (List UInt8×List UInt8))(e:List UInt8×List UInt8):zGE (l++[e])=zGE l+e.2.length:=by simp[zGE]
theorem DS.used_sum(d:DS):d.used=zGE d.files:=by simp[DS.used,zGE,DS.files,Function.comp_def]
theorem DS.text_le{d:DS}{A B:Nat}(h:d.ok A B)(k:List UInt8):(d.text k).length<=B:=by
 unfold DS.text DS.file
 cases hg:d.fd.now.get k with
 | none=>simp
 | some n =>
   obtain⟨f,hf,hk⟩:=DS.has_file h hg;dsimp only;rw[hf];exact PF.ok_now hk
theorem DS.list_le{d:DS}{A B:Nat}(h:d.ok A B):d.list.length<=A:=by
 unfold DS.list;split
 · simp
 · have h1:=(FD.ok_now h.fd).2
   unfold FD.names;rw[(ZN _).length_eq];simpa[NM.keys] using h1
theorem zQt{B:Nat}:∀(l:List (List UInt8×List UInt8)),(∀e∈l,e.2.length<=B)->zGE l<=l.length*B
 | [],_=>by simp[zGE]
 | e::l,h=>by
   have h1:=h e (qhZ ..)
   have h2:=zQt l fun x hx=>h x (qiZ _ hx)
   simp only[zGE,s1Z,List.sum_cons,q7Z,Nat.succ_mul]at h2 ⊢;omega
theorem DS.sum_le{d:DS}{A B:Nat}(h:d.ok A B)(hA:A<=1000000)(hB:B<=1000000000000)(i:Nat):zGE (d.files.take i)<=1000000000000000000:=by
 have h1:=zQt (B:=B) (d.files.take i) fun e he=>by
   obtain⟨k,_,rfl⟩:=reZ.1 (List.mem_of_mem_take he);exact DS.text_le h k
 have h2:(d.files.take i).length<=1000000:=by
   have:=DS.list_le h
   simp[DS.files];omega
 have h3:=Nat.mul_le_mul h2 hB;omega
noncomputable def zXz(d:DS):Gam:=zv [(40,zDY [.ptr 0 0] (d.heap []) (.sl (d.fs.length+3) 0 d.files.length 2 false) (d.heap [.cells true (flA d.files)]))]
theorem zVy(d:DS){A B:Nat}(hok:d.ok A B)(hA:A<=1000000):GOk Pz (zXz d):=zC (Zf (zH Tryz.func40 rfl (by decide)) (zOA d hok hA) (by simp[DS.heap])) zD
theorem zVL(d:DS){A B:Nat}(hok:d.ok A B)(hA:A<=1000000)(hB:B<=1000000000000):Ct Pz 32 [.ptr 0 0] (d.heap []) (.int .i64 d.used) (d.heap []):=by
 have hΓ:=zVy d hok hA;have hlen:=d.heap_length [];have hsum:=DS.sum_le hok hA hB;rw[DS.used_sum];obtain⟨n,hn⟩:∃n,d.fs.length=n:=⟨_,rfl⟩;have hX:=behind d.fs
 have tl:=fun {T Tn F Fn}=>DS.tail d (T:=T) (Tn:=Tn) (F:=F) (Fn:=Fn)
 rw[hn]at hlen hX tl;refine zK Tryz.func32 rfl ?_;simp only[Tryz.ntmps32,q7Z,q8Z,Nat.reduceAdd,Nat.reduceSub,qbZ,q9Z,qaZ];rw[hlen];obtain⟨l,hl⟩:∃l,d.files=l:=⟨_,rfl⟩;obtain⟨m,hm⟩:∃m,l.length=m:=⟨_,rfl⟩;rw[hl]at hsum ⊢
 have hm6:m<=1000000:=by
   have:=DS.list_le hok
   rw[<-hm,<-hl];simp[DS.files];omega
 simp only[q8Z,Nat.add_zero]at hlen ⊢
 refine Sim.step hmix hΓ (n:=0) (by simp;exact⟨rfl,rfl⟩) (by simp[DS.heap,hn]) ?_
 refine Sim.seq (Sim.mono (Q:=fun e F' H'=>e=.normal/\Weak (n+3) F' H' ([.ptr 0 0,.top,.int .i64 (zGE l)]++qbZ 16 .top) (d.heap [])) (Sim.step hmix hΓ (n:=0) (by simp[zXz,hl,hm,hn];exact⟨rfl,rfl⟩) (by simp[DS.heap,hn]) ?_) ?_)
 · refine Sim.block (Sim.loopW (fun i:Nat=>i<=m)
     (fun i=>[.ptr 0 0,.top,.int .i64 (zGE (l.take i)),.top,.top,.top,.sl (n+3) 0 m 2 false,.int .i64 m,.int .i64 i]++qbZ 10 .top)
     (fun i=>d.heap [.cells true (flA l)]) (fun i=>m-i) 0 (by simp[DS.heap,hn]) (by simp) ?_ fun i hi=>?_)
   · refine tl [0] (by decide) ?_ rfl ?_
     · simp[AW,zGE]
     · intro j t x y h1 h2 h3
       match j,h1,h2 with
       | 0,h1,h2=>cases h1;cases h2;cases h3;simp[AWb]
   · by_cases hlt:i<m
     · have hltI:(i:Int)<m:=by omega
       have hilt:i<l.length:=by omega
       obtain⟨e,he⟩:∃e,l[i]=e:=⟨_,rfl⟩;have hg:=zC0 l i hilt;rw[he]at hg
       have hnx:l.take (i+1)=l.take i++[e]:=by rw[List.take_add_one,q3Z hilt,he];rfl
       have hs:=hsum (i+1);rw[hnx,zJq]at hs;have hXl:=hX.len;have hXg:=hX.get;have hXg0:=hX.get0;have hXs:=hX.set;have hXs0:=hX.set0
       have k1:i*2+2<=m*2:=by omega
       have y1:IntKind.i64.wrap ((i:Int)+1)=i+1:=zX (by omega) (by omega)
       obtain⟨s,hs0⟩:∃s,zGE (l.take i)=s:=⟨_,rfl⟩;rw[hs0]at hs ⊢
       have y2:IntKind.i64.wrap ((s:Int)+e.2.length)=s+e.2.length:=zX (by omega) (by omega)
       unfold DS.heap DS.cell0;obtain⟨X,eX⟩:∃X,zM d.fs=X:=⟨_,rfl⟩;rw[eX]at hXl hXg hXg0 hXs hXs0 ⊢
       refine Sim.step hmix hΓ (n:=0) (by simp[hltI];exact⟨rfl,rfl⟩) (by simp[hXl]) ?_
       refine Sim.step hmix hΓ (n:=0) (by simp;exact⟨rfl,rfl⟩) (by simp[hXl]) ?_
       refine Sim.seq (Sim.block ?_)
       refine Sim.step hmix hΓ (n:=0) (by simp +decide [hlt,hXl,hm,hg,k1];exact⟨rfl,rfl⟩) (by simp[hXl]) ?_
       refine Sim.exec hmix hΓ (n:=0) (by simp[hXl,y2];exact⟨rfl,rfl,rfl⟩) (by simp[hXl]) ?_
       dsimp only
       refine Sim.exec hmix hΓ (n:=0) (by simp[y1];exact⟨rfl,rfl,rfl⟩) (by simp[hXl]) ?_
       dsimp only
       refine ⟨i+1,by omega,?_,by omega⟩
       rw[hnx,zJq,hs0]
       have tlx:=fun {T Tn F Fn}=>tl (T:=T) (Tn:=Tn) (F:=F) (Fn:=Fn) [0] (by decide)
       unfold DS.heap DS.cell0 at tlx;rw[eX]at tlx
       refine tlx ?_ rfl fun j t x y h1 h2 h3=>?_
       · simp[AW]
       · match j,h1,h2 with
         | 0,h1,h2=>cases h1;cases h2;cases h3;simp[AWb]
     · have hin:i=m:=by omega
       subst hin
       refine Sim.exec hmix hΓ (n:=0) (by simp;exact⟨rfl,rfl,rfl⟩) (by simp[DS.heap,hn]) ?_
       dsimp only;rw[if_pos rfl]
       refine ⟨by trivial,?_⟩
       rw[q6Z (by omega)]
       refine tl [] (by decide) ?_ rfl fun j t x y h1 h2 h3=>by simp at h1
       simp[AW]
 rintro e F' H' hlen1 ⟨rfl,hwk⟩;dsimp only;refine Sim.weak hwk hlen1 ?_;clear hwk hlen1;simp only[q9Z,qaZ,qbZ]
 refine Sim.exec hmix hΓ (n:=0) (by simp;exact⟨rfl,rfl,rfl⟩) (by simp[DS.heap,hn]) ?_
 refine ⟨.inr rfl,_,by simp[Tryz.f32] <;> rfl,?_⟩
 refine tl [] (by decide) ?_ rfl fun j t x y h1 h2 h3=>by simp at h1
 simp
def zE5:ABlk:=.cells true [.ptr 0 0]
def zFK(k:List UInt8):ABlk:=.cells true [.str k]
theorem DS.small_fd{d:DS}{A B:Nat}(h:d.ok A B)(hA:A<=1000000):d.fd.small:=FD.ok_mono h.fd hA
theorem zRu(d:DS)(T:zA)(v:AV)(hv:zEo v=true):Weak (d.fs.length+3) [v] (d.heap T) [v] (d.heap []) :=
 DS.tail d [] (by decide) ⟨zFX _ hv,trivial⟩ rfl fun i t x y h=>by simp at h
theorem zVS(d:DS){A B:Nat}(hok:d.ok A B)(hA:A<=999999)(T T2:zA)(F:FuncId)(caps:List AV)(g:DS->DS×Int)(he:∀cargs w,(callFunc F cargs).run Pz w=.ok (.enter F cargs) w)(hF:F≠yl)
   (hfs:(g d.count).1.fs.length=d.fs.length) (hT:T.length<=T2.length) (hcl:d.count.down=false->Ct Pz F caps (d.count.heap T) (.int .i64 (g d.count).2) ((g d.count).1.heap T2)) :
   ∃H1,Ct Pz 149 [.ptr 0 0,.func F [] caps] (d.heap T) (.int .i64 (d.step g).2) H1/\(d.heap T).length<=H1.length/\(∃T3,H1=(d.step g).1.heap T3/\T.length<=T3.length)/\(d.step g).1.fs.length=d.fs.length /\
     Sound Pz 149 (zDY [.ptr 0 0,.func F [] caps] (d.heap T) (.int .i64 (d.step g).2) H1):=by
 have e:(d.step g).1.fs.length=d.fs.length:=by
   unfold DS.step;split
   · rw[DS.count_fs]
   · exact hfs
 obtain⟨T3,hT3⟩:∃T3,T3=(if d.count.down=true then T else T2):=⟨_,rfl⟩
 have hl3:T.length<=T3.length:=by rw[hT3];split <;> omega
 have hl:(d.heap T).length<=((d.step g).1.heap T3).length:=by rw[DS.heap_length,DS.heap_length,e];omega
 have hct:Ct Pz 149 [.ptr 0 0,.func F [] caps] (d.heap T) (.int .i64 (d.step g).2) ((d.step g).1.heap T3):=by
   refine zUM d T F caps he hF ⟨hok.s0,by have:=hok.s1;omega⟩ ⟨hok.a0,hok.a1⟩ hl (fun hd=>?_) fun hd=>?_
   · unfold DS.step
     rw[if_pos hd,hT3,if_pos hd];exact⟨rfl,rfl⟩
   · have:=hcl hd
     unfold DS.step
     rw[if_neg (by rw[hd];decide),hT3,if_neg (by rw[hd];decide)]
     exact this
 exact⟨_,hct,hl,⟨T3,rfl,hl3⟩,e,Zf (zH Tryz.func149 rfl (by decide)) hct hl⟩
theorem zH3{d e:DS}(T:zA)(v:AV)(hv:zEo v=true)(h:e.fs.length=d.fs.length):Weak (d.fs.length+3) [v] (e.heap T) [v] (e.heap []):=by
 rw[<-h];exact zRu e T v hv
theorem zB0(X:zA){n:Nat}(hl:X.length=n):Behind X n:=by
 refine ⟨hl,fun T j=>?_,fun T=>?_,fun T j v=>?_,fun T v=>?_⟩
 · rw[q5Z (by omega),hl];congr 1;omega
 · rw[q5Z (by omega),hl,Nat.sub_self]
 · rw[List.set_append_right _ _ (by omega),hl];congr 2;omega
 · rw[List.set_append_right _ _ (by omega),hl,Nat.sub_self]
def zFD(F:FuncId)(caps:List AV):ABlk:=.cells true [.func F [] caps]
def ofG(k:List UInt8)(g:DS->PF->PF×Int)(d:DS):DS×Int:=match d.fd.now.get k with
 | none=>(d,9)
 | some n=>match FS.get d.fs n with
   | none=>(d,1)
   | some f=>(⟨d.fd,FS.upd d.fs n fun _=>(g d f).1,d.quota,d.steps,d.armed,d.down⟩,(g d f).2)
theorem zVx(d:DS)(k:List UInt8)(g:DS->PF->PF×Int):d.of k g=d.step (ofG k g):=rfl
def DS.fileTo(d:DS)(n:Int)(f:PF):DS:=⟨d.fd,FS.upd d.fs n fun _=>f,d.quota,d.steps,d.armed,d.down⟩
theorem zWh(d:DS){A B:Nat}(hok:d.ok A B)(T0 T2:zA)(k:List UInt8)(F:FuncId)(caps:List AV)(g:DS->PF->PF×Int)(he:∀cargs w,(callFunc F cargs).run Pz w=.ok (.enter F cargs) w)(hF:F≠yl)(hF2:F≠73)
   (hT2:T0.length+3<=T2.length)
   (hcl:∀v f,d.fd.now.get k=some v->FS.get d.fs v=some f->Ct Pz F (.ptr (FS.at d.fs v+3) 0::caps) (d.heap (T0++[zE5,zFK k,zFD F caps])) (.int .i64 (g d f).2) ((d.fileTo v (g d f).1).heap T2)) :
   Ct Pz 202 [.ptr (d.fs.length+T0.length+3) 0,.ptr (d.fs.length+T0.length+4) 0,.ptr (d.fs.length+T0.length+5) 0] (d.heap (T0++[zE5,zFK k,zFD F caps])) (.int .i64 (ofG k g d).2) ((ofG k g d).1.heap (if (d.fd.now.get k).isSome then T2 else T0++[zE5,zFK k,zFD F caps])):=by
 obtain⟨n,hn⟩:∃n,d.fs.length+T0.length=n:=⟨_,rfl⟩
 have hX:=zB0 (zM d.fs++T0) (n:=n) (by rw[qdZ,zu,hn])
 have hlen:(d.heap (T0++[zE5,zFK k,zFD F caps])).length=n+6:=by rw[DS.heap_length,qdZ,<-hn];simp;omega
 refine zz Tryz.func202 rfl ?_;simp only[Tryz.ntmps202,q7Z,q8Z,Nat.reduceAdd,Nat.reduceSub,qbZ,q9Z,qaZ];rw[hlen,hn];have hXl:=hX.len;have hXg:=hX.get;have hXg0:=hX.get0
 have hlook:∀v f,d.fd.now.get k=some v->FS.get d.fs v=some f->zAA (zO (fun i=>i+3) 0 d.fs) (.int .i64 v) 0=some (some (FS.at d.fs v,.ptr (FS.at d.fs v+3) 0)):=fun v f _ hf=>by
   have:=zAB (fun i=>i+3) v 0 d.fs 0
   rw[hf]at this;simpa using this
 have hheap:d.heap (T0++[zE5,zFK k,zFD F caps])=.cells true [.ptr 1 0,.map 2,.int .i64 d.quota,.int .i64 d.steps,.int .i64 d.armed,.bool d.down]::.obj true d.fd.blks::.map (zO (fun i=>i+3) 0 d.fs)::(zM d.fs++T0++[.cells true [.ptr 0 0],.cells true [.str k],.cells true [.func F [] caps]]):=by
   unfold DS.heap DS.cell0
   rw[qeZ];rfl
 cases hg:d.fd.now.get k with
 | none =>
   have hfind:d.fd.find k=(0,false):=by unfold FD.find;rw[hg]
   have e:ofG k g d=(d,9):=by unfold ofG;rw[hg]
   rw[e];simp only[Option.isSome_none,qsZ,if_false];have hΓ:GOk Pz (zv [(73,zAS)]):=zC zAI zD;rw[hheap];obtain⟨X,eX⟩:∃X,zM d.fs++T0=X:=⟨_,rfl⟩;rw[eX]at hXl hXg hXg0 ⊢
   refine Sim.step hmix hΓ (n:=0) (by simp;exact⟨rfl,rfl⟩) (by simp[hXl]) ?_
   refine Sim.seq (Sim.draw hmix (by simp[hXl]) ?_)
   refine SimR.many hΓ 5 (by simp[zI];rfl) (by omega) (by kernel_rfl) (by simp +decide [hXl];first | exact⟨rfl,rfl⟩ | exact⟨by kernel_rfl,rfl,rfl⟩) ?_
   refine SimR.one hΓ _ rfl (by kernel_rfl) (by simp +decide [zAS,hfind];exact⟨rfl,rfl⟩) ?_
   refine SimR.many hΓ 11 (by simp[zI,zh];rfl) (by omega) (by kernel_rfl) (by simp +decide;first | exact⟨rfl,rfl⟩ | exact⟨by kernel_rfl,rfl,rfl⟩) ?_
   refine SimR.done rfl ?_;dsimp only
   refine Sim.exec hmix hΓ (n:=0) (by simp;exact⟨rfl,rfl,rfl⟩) (by simp[hXl]) ?_
   exact⟨.inr rfl,by simp[Tryz.f202],rfl⟩
 | some v =>
   have hfind:d.fd.find k=(v,true):=FD.find_get hg;obtain⟨f,hf,hfok⟩:=DS.has_file hok hg
   have e:ofG k g d=(d.fileTo v (g d f).1,(g d f).2):=by unfold ofG;rw[hg];dsimp only;rw[hf];rfl
   rw[e];simp only[Option.isSome_some,if_true];have hl:=hlook v f hg hf;have hc:=hcl v f hg hf
   have hle:(d.heap (T0++[zE5,zFK k,zFD F caps])).length<=((d.fileTo v (g d f).1).heap T2).length:=by
     rw[hlen,DS.heap_length]
     have:(d.fileTo v (g d f).1).fs.length=d.fs.length:=by
       have:=congrArg List.length (FS.keys_upd d.fs v fun _=>(g d f).1)
       simpa[FS.keys,DS.fileTo] using this
     rw[this];omega
   have hΓ:GOk Pz (zv [(73,zAS),(F,zDY (.ptr (FS.at d.fs v+3) 0::caps) (d.heap (T0++[zE5,zFK k,zFD F caps])) (.int .i64 (g d f).2) ((d.fileTo v (g d f).1).heap T2))]) :=
     zC zAI (zC (Zf he hc hle) zD (hg:=hF))
   have hF':¬F=1000000000:=hF;have hF2':¬F=73:=hF2;rw[hlen]at hle;generalize (g d f).2=r at hΓ ⊢;generalize (d.fileTo v (g d f).1).heap T2=HF at hΓ hle ⊢;generalize FS.at d.fs v=q at hΓ hl ⊢;rw[hheap]at hΓ ⊢;obtain⟨X,eX⟩:∃X,zM d.fs++T0=X:=⟨_,rfl⟩;rw[eX]at hXl hXg hXg0 hΓ ⊢
   refine Sim.step hmix hΓ (n:=0) (by simp;exact⟨rfl,rfl⟩) (by simp[hXl]) ?_
   refine Sim.seq (Sim.draw hmix (by simp[hXl]) ?_)
   refine SimR.many hΓ 5 (by simp[zI];rfl) (by omega) (by kernel_rfl) (by simp +decide [hXl];first | exact⟨rfl,rfl⟩ | exact⟨by kernel_rfl,rfl,rfl⟩) ?_
   refine SimR.one hΓ _ rfl (by kernel_rfl) (by simp +decide [zAS,hfind];exact⟨rfl,rfl⟩) ?_
   refine SimR.many hΓ 11 (by simp[zI,zh];rfl) (by omega) (by kernel_rfl) (by simp +decide;first | exact⟨rfl,rfl⟩ | exact⟨by kernel_rfl,rfl,rfl⟩) ?_
   refine SimR.done rfl ?_;dsimp only
   refine Sim.step hmix hΓ (n:=0) (by simp;exact⟨rfl,rfl⟩) (by simp[hXl]) ?_
   refine Sim.seq (Sim.draw hmix (by simp[hXl]) ?_)
   refine SimR.many hΓ 7 (by simp[zI];rfl) (by omega) (by kernel_rfl) (by simp +decide [hl,hXl];first | exact⟨rfl,rfl⟩ | exact⟨by kernel_rfl,rfl,rfl⟩) ?_
   refine SimR.one hΓ _ rfl (by kernel_rfl) (by simp +decide [hF',hF2'];exact⟨rfl,rfl⟩) ?_
   refine SimR.many hΓ 9 (by simp[zI,zh];rfl) (by omega) (by kernel_rfl) (by simp +decide;first | exact⟨rfl,rfl⟩ | exact⟨by kernel_rfl,rfl,rfl⟩) ?_
   refine SimR.done rfl ?_;dsimp only
   refine Sim.exec hmix hΓ (n:=0) (by simp;exact⟨rfl,rfl,rfl⟩) hle ?_
   exact⟨.inr rfl,by simp[Tryz.f202],rfl⟩
theorem zPF(d:DS)(v:Int)(f:PF):(d.fileTo v f).fs.length=d.fs.length:=by
 have:=congrArg List.length (FS.keys_upd d.fs v fun _=>f)
 simpa[FS.keys,DS.fileTo] using this
theorem zVB(d:DS)(k:List UInt8)(g:DS->PF->PF×Int):(ofG k g d).1.fs.length=d.fs.length:=by
 unfold ofG;split
 · rfl
 split
 · rfl
 · exact zPF d _ _
theorem zTA(d:DS){A B:Nat}(hok:d.ok A B)(hA:A<=999999)(T0 T2:zA)(k:List UInt8)(F:FuncId)(caps:List AV)(g:DS->PF->PF×Int)(he:∀cargs w,(callFunc F cargs).run Pz w=.ok (.enter F cargs) w)(hF:F≠yl)(hF2:F≠73)
   (hT2:T0.length+3<=T2.length)
   (hcl:∀v f,d.fd.now.get k=some v->FS.get d.fs v=some f->Ct Pz F (.ptr (FS.at d.fs v+3) 0::caps) (d.count.heap (T0++[zE5,zFK k,zFD F caps])) (.int .i64 (g d.count f).2) ((d.count.fileTo v (g d.count f).1).heap T2)) :
   ∃H1,Ct Pz 130 [.ptr 0 0,.str k,.func F [] caps] (d.heap T0) (.int .i64 (d.of k g).2) H1/\(d.heap T0).length<=H1.length/\(∃T3,H1=(d.of k g).1.heap T3/\T0.length<=T3.length)/\(d.of k g).1.fs.length=d.fs.length:=by
 have hc:=DS.ok_count hok
 obtain⟨H1,hct,hl,⟨T3,hT3,hl3⟩,hfs,hsound⟩:=zVS d hok hA (T0++[zE5,zFK k,zFD F caps]) (if (d.fd.now.get k).isSome then T2 else T0++[zE5,zFK k,zFD F caps]) 202 [.ptr (d.fs.length+T0.length+3) 0,.ptr (d.fs.length+T0.length+4) 0,.ptr (d.fs.length+T0.length+5) 0] (ofG k g) (zH Tryz.func202 rfl (by decide)) (by decide)
   (by rw[zVB,DS.count_fs]) (by split <;> simp <;> omega) fun _=>by
     have:=zWh d.count hc T0 T2 k F caps g he hF hF2 hT2 (by rw[DS.count_fd,DS.count_fs];exact hcl)
     rw[DS.count_fs,DS.count_fd]at this;exact this
 have hΓ:=zC hsound zD;rw[zVx]
 refine ⟨H1,?_,by rw[DS.heap_length]at hl ⊢;simp at hl;omega,⟨T3,hT3,by simp at hl3;omega⟩,hfs⟩
 obtain⟨n,hn⟩:∃n,d.fs.length+T0.length=n:=⟨_,rfl⟩
 have hX:=zB0 (zM d.fs++T0) (n:=n) (by rw[qdZ,zu,hn])
 have hlen:(d.heap T0).length=n+3:=by rw[DS.heap_length,<-hn]
 refine zz Tryz.func130 rfl ?_;simp only[Tryz.ntmps130,q7Z,q8Z,Nat.reduceAdd,Nat.reduceSub,qbZ,q9Z,qaZ];rw[hlen];have hXl:=hX.len;have hXg:=hX.get;have hXg0:=hX.get0
 have hheap:d.heap (T0++[zE5,zFK k,zFD F caps])=.cells true [.ptr 1 0,.map 2,.int .i64 d.quota,.int .i64 d.steps,.int .i64 d.armed,.bool d.down]::.obj true d.fd.blks::.map (zO (fun i=>i+3) 0 d.fs)::(zM d.fs++T0++[.cells true [.ptr 0 0],.cells true [.str k],.cells true [.func F [] caps]]):=by
   unfold DS.heap DS.cell0
   rw[qeZ];rfl
 have hle:n+3<=H1.length:=by rw[DS.heap_length]at hl;simp at hl;omega
 rw[hn,hheap]at hΓ;clear hct hT3 hl hheap;unfold DS.heap DS.cell0;generalize (DS.step d (ofG k g)).2=e at hΓ ⊢;obtain⟨X,eX⟩:∃X,zM d.fs++T0=X:=⟨_,rfl⟩;rw[eX]at hXl hXg hXg0 hΓ ⊢
 refine Sim.step hmix hΓ (n:=0) (by simp[hXl];exact⟨rfl,rfl⟩) (by simp[hXl]) ?_
 refine Sim.step hmix hΓ (n:=0) (by simp[hXl];exact⟨rfl,rfl⟩) (by simp[hXl]) ?_
 refine Sim.exec hmix hΓ (n:=0) (by simp;exact⟨rfl,rfl,rfl⟩) hle ?_
 exact⟨.inr rfl,by simp[Tryz.f130],rfl⟩
theorem zGm{d:DS}{v:Int}{f:PF}(g:PF)(hf:FS.get d.fs v=some f)(T:zA):(d.fileTo v g).heap T=d.cell0 1 2::.obj true d.fd.blks::.map (zO (fun i=>i+3) 0 d.fs)::(zM d.fs++T).set (FS.at d.fs v) (.obj true g.blks):=by
 unfold DS.heap DS.fileTo DS.cell0;dsimp only
 rw[zEK,zHl (fun _=>g) hf,List.set_append_left _ _ (by rw[zu];exact FS.at_lt hf)]
theorem zET{d:DS}{v:Int}{f:PF}(hf:FS.get d.fs v=some f)(T:zA):(zM d.fs++T)[FS.at d.fs v]? = some (.obj true f.blks):=by
 rw[q4Z (by rw[zu];exact FS.at_lt hf)]
 exact Zj (FS.at_get hf)
noncomputable def zWL:Gam:=zv [(184,zOO)]
theorem zSi:GOk Pz zWL:=zC zNW zD
theorem zSk(d:DS)(T:zA)(v:Int)(f:PF)(hf:FS.get d.fs v=some f):Ct Pz 183 [.ptr (FS.at d.fs v+3) 0] (d.heap T) (.int .i64 0) ((d.fileTo v ⟨f.now,[]⟩).heap T):=by
 have hΓ:=zSi;rw[zGm _ hf];have hq:=zET hf T;refine zz Tryz.func183 rfl ?_;simp only[Tryz.ntmps183,q7Z,q8Z,Nat.reduceAdd,Nat.reduceSub,qbZ,q9Z,qaZ];unfold DS.heap DS.cell0;obtain⟨X,eX⟩:∃X,zM d.fs++T=X:=⟨_,rfl⟩;obtain⟨q,eq⟩:∃q,FS.at d.fs v=q:=⟨_,rfl⟩;rw[eX]at hq ⊢;rw[eq]at hq ⊢
 refine Sim.step hmix hΓ (n:=0) (by simp;exact⟨rfl,rfl⟩) (by simp) ?_
 refine Sim.exec hmix hΓ (n:=0) (by simp[zWL,zOO,hq];exact⟨rfl,rfl,rfl⟩) (by simp) ?_
 exact⟨.inr rfl,by simp[Tryz.f183],rfl⟩
theorem zUE(d:DS){A B:Nat}(hok:d.ok A B)(hA:A<=999999)(k:List UInt8):Ct Pz 113 [.ptr 0 0,.str k] (d.heap []) (.int .i64 (d.sync k).2) ((d.sync k).1.heap []):=by
 obtain⟨H1,hct,hl,⟨T3,hT3,_⟩,hfs⟩:=zTA d hok hA [] [zE5,zFK k,zFD 183 []] k 183 [] (fun _ f=>(⟨f.now,[]⟩,0)) (zH Tryz.func183 rfl (by decide)) (by decide) (by decide) (by simp) fun v f _ hf=>by
   have:=zSk d.count [zE5,zFK k,zFD 183 []] v f (by rw[DS.count_fs];exact hf)
   rw[DS.count_fs]at this;exact this
 have hΓ:=zC (Zf (zH Tryz.func130 rfl (by decide)) hct hl) zD
 have hfin:=zH3 (d:=d) T3 (.int .i64 (d.sync k).2) rfl hfs;unfold DS.sync at hfin ⊢;rw[<-hT3]at hfin;refine zK Tryz.func113 rfl ?_;simp only[Tryz.ntmps113,q7Z,q8Z,Nat.reduceAdd,Nat.reduceSub,qbZ,q9Z,qaZ];rw[DS.heap_length]at hl ⊢;simp only[q8Z,Nat.add_zero]at hl ⊢;clear hct hT3;generalize DS.of d k _=R at hΓ hfin ⊢;generalize R.1.heap []=HF at hfin ⊢;generalize R.2=e at hΓ hfin ⊢
 have hX:(d.heap []).length=d.fs.length+3:=by rw[DS.heap_length];rfl
 generalize d.heap []=H0 at hΓ hX ⊢
 refine Sim.step hmix hΓ (n:=0) (by simp;exact⟨rfl,rfl⟩) (by omega) ?_
 refine Sim.exec hmix hΓ (n:=0) (by simp;exact⟨rfl,rfl,rfl⟩) (by omega) ?_
 exact⟨.inr rfl,_,by simp[Tryz.f113] <;> rfl,hfin⟩
theorem AWh.ofs{rn:List Nat}{H:zA}:∀(xs:zA) (bs:List Nat),xs.length=bs.length->(∀(i:Nat) x b,xs[i]? = some x->bs[i]? = some b->∃y,H[b]? = some y/\AWb rn x y)->AWh rn H xs bs
 | [],[],_,_=>trivial
 | [],_::_,h,_=>by simp at h
 | _::_,[],h,_=>by simp at h
 | x::xs,b::bs,h,hall=>by
   obtain⟨y,h1,h2⟩:=hall 0 x b rfl rfl
   refine ⟨?_,(q1Z.1 h1).1,AWh.ofs xs bs (by simpa using h) fun i y c hy hc=>hall (i+1) y c (by simpa using hy) (by simpa using hc)⟩
   rw[q2Z,h1];exact h2
theorem zOe{P:Program}{f:FuncId}{xs:List AV}{v v':AV}{sub T HO H' H'':zA}(hO:ZD (.obj true sub::T) 0 sub=HO)(h:Ct P f xs HO v H')(hA:Aft (T.length+1) [v] H' fun F H=>F=[v']/\H=H'')(hl:T.length+1<=HO.length):Ct P f xs (.obj true sub::T) v' H'':=by
 intro j w cargs hR hargs
 obtain⟨j1,hle,s1⟩:=Step.open (n:=T.length+1) hR (b:=0) rfl (by simp)
 rw[hO]at s1;refine (h j1 w cargs s1.rel (VRs.mono hle _ _ hargs)).mono ?_;rintro e w' ⟨cv,j2,rfl,hv,s2⟩;obtain⟨F3,H3,j3,⟨rfl,rfl⟩,h3,s3⟩:=hA j2 w' [cv] s2.rel ⟨cv,[],rfl,hv,rfl⟩;obtain⟨cv',ws,e1,h4,h5⟩:=h3;cases e1;exact⟨cv,j3,rfl,h4,(s1.trans s2 hl).trans s3 (qnZ _)⟩
theorem Aft.closeAt{n0:Nat}{F:List AV}{H:zA}{K:List AV->zA->Prop}{d:DS}{b fo m:Nat}{g:Nat->Nat}(h:DAt H d b fo m g)(hn:n0<=H.length)
   (k:Aft n0 F (zy H b (fo::m::(List.range d.fs.length).map g) true d.blks) K):Aft n0 F H K:=by
 refine Aft.close (o:=true) (b:=b) (sub:=d.blks) (rs:=b::fo::m::(List.range d.fs.length).map g) (ks:=fo::m::(List.range d.fs.length).map g) rfl h.nd (q1Z.1 h.c0).1 ?_ (h.awg _ fun _ _=>rfl) ⟨d.cell0 1 2,rfl,rfl⟩ ?_ hn k
 · intro c x hc hcb _ _
   rcases qwZ.1 hc with e | hc
   · exact absurd e hcb
   · exact hc
 · intro i y hy hd
   have hm:=qcZ hy;simp only[DS.blks,DS.cell0,qwZ]at hm;rcases hm with rfl | rfl | rfl | hm
   · rfl
   · rfl
   · rfl
   · obtain⟨e,_,rfl⟩:=reZ.1 hm
     rfl
def emR(n:Nat):List Nat:=0::2::3::((List.range n).map (·+4)++[1])
theorem zDJ(n:Nat):(emR n).length=n+4:=by simp[emR]
theorem zDM(n i:Nat):(emR n)[i]? = if i=0 then some 0 else if i<n+3 then some (i+1) else if i=n+3 then some 1 else none:=by
 unfold emR
 match i with
 | 0=>rfl
 | 1=>simp
 | 2=>simp
 | i+3 =>
   simp only[r9Z]
   rw[if_neg (by omega)]
   by_cases h:i<n
   · rw[if_pos (by omega),q4Z (by simpa using h),qzZ,rfZ h];rfl
   · rw[if_neg (by omega),q5Z (by simp;omega)]
     simp only[r7Z,List.length_range];by_cases h2:i=n
     · subst h2;simp
     · rw[if_neg (by omega),s4Z (by simp;omega)]
theorem zKY(n:Nat):(emR n).Nodup:=by
 have h0:((List.range n).map (·+4)++[1]).Nodup:=by
   rw[List.nodup_append]
   refine ⟨?_,by simp,fun a ha b hb=>?_⟩
   · rw[List.nodup_iff_pairwise_ne,List.pairwise_map]
     exact (List.nodup_iff_pairwise_ne.1 (List.nodup_range (n:=n))).imp fun h e=>h (by omega)
   · obtain⟨c,_,rfl⟩:=reZ.1 ha
     simp at hb;omega
 have hm:∀x,x∈(List.range n).map (·+4)++[1]->x=1\/4<=x:=by
   intro x hx;rcases qxZ.1 hx with h | h
   · obtain⟨c,_,rfl⟩:=reZ.1 h;exact .inr (by omega)
   · exact .inl (by simpa using h)
 unfold emR
 refine rdZ.2 ⟨fun h=>?_,rdZ.2 ⟨fun h=>?_,rdZ.2 ⟨fun h=>?_,h0⟩⟩⟩
 · rcases qwZ.1 h with h | h
   · omega
   rcases qwZ.1 h with h | h
   · omega
   · have:=hm _ h;omega
 · rcases qwZ.1 h with h | h
   · omega
   · have:=hm _ h;omega
 · have:=hm _ h;omega
def ggR(n i:Nat):Nat:=if i=0 then 0 else if i<n+3 then i+1 else if i=n+3 then 1 else i
theorem zT8(n i:Nat):Z5 (emR n) (n+4) i=ggR n i:=by
 unfold Z5 ggR;rw[zDM,zDJ]
 repeat' split
 all_goals first | rfl | (simp_all;done) | (simp_all;omega)
theorem zHa(n i j:Nat)(h:ggR n i=ggR n j):i=j:=by
 unfold ggR at h
 repeat' split at h
 all_goals omega
theorem zSz(d:DS)(l:List AV):ZD [.obj true d.blks,.cells false l] 0 d.blks=d.cell0 2 3::.cells false l::.obj true d.fd.blks::.map (zO (fun i=>i+4) 0 d.fs)::zM d.fs:=by
 unfold ZD DS.blks;simp only[q7Z,q8Z,List.getD_cons_zero,s9Z,List.drop_succ_cons,List.drop_zero,s1Z,q9Z,qaZ,s8Z,Nat.reduceAdd]
 have e1:reB (zAG 0 2) (d.cell0 1 2)=d.cell0 2 3:=by simp[DS.cell0,reB,Zo,reA,zAG]
 have e2:reB (zAG 0 2) (.map (zO (fun i=>i+3) 0 d.fs))=.map (zO (fun i=>i+4) 0 d.fs):=by
   simp only[reB]
   rw[zGR,zBM 0 d.fs fun i _ _=>?_]
   simp only[zAG]
   rw[if_neg (by omega)];omega
 have e3:(zM d.fs).map (reB (zAG 0 2))=zM d.fs:=by
   simp[zM,reB]
 rw[e1,e2,e3];rfl
theorem zPn{P:Program}{f:FuncId}{ys ys':List AV}{v:AV}{d d':DS}{l:List AV}{H1:zA}{m:Nat}{g:Nat->Nat}(h:Ct P f (.ptr 0 0::ys) (d.heap [.cells false l]) v H1)(hv:zEo v=true)(hys:AWs (emR d.fs.length) ys ys')(hl:Z4 l=true)
   (hat:DAt H1 d' 0 1 m g) (hne:d.fs.length+3∉0::1::m::(List.range d'.fs.length).map g) (hown:zA7 (H1.drop (d.fs.length+4))=true) (hlen:d.fs.length+4<=H1.length) :
   Ct P f (.ptr 0 0::ys') [.obj true d.blks,.cells false l] v [.obj true d'.blks,.cells false l]:=by
 have h0l:(d.heap [.cells false l]).length=d.fs.length+4:=by rw[DS.heap_length];simp
 obtain⟨n,hn⟩:∃n,d.fs.length=n:=⟨_,rfl⟩;rw[hn]at hys hne hown hlen h0l
 obtain⟨HO,hHO⟩:∃HO:zA,HO=d.cell0 2 3::.cells false l::.obj true d.fd.blks::.map (zO (fun i=>i+4) 0 d.fs)::zM d.fs:=⟨_,rfl⟩
 have hHOl:HO.length=n+4:=by rw[hHO];simp[hn]
 have hg0:∀i,i<n+4->∃x y,(d.heap [.cells false l])[i]? = some x/\HO[ggR n i]? = some y/\AWb (emR n) x y/\(i≠n+3->x.own=true):=by
   intro i hi;unfold ggR
   match i,hi with
   | 0,_ =>
     refine ⟨d.cell0 1 2,d.cell0 2 3,rfl,by rw[hHO];rfl,⟨id,⟨by rw[zDM];simp,rfl⟩,by simp[AW,zDM],⟨rfl,rfl⟩,⟨rfl,rfl⟩,⟨rfl,rfl⟩,rfl,trivial⟩,fun _=>rfl⟩
   | 1,_ =>
     rw[if_neg (by omega),if_pos (by omega),hHO]
     exact⟨_,_,rfl,rfl,⟨rfl,rfl⟩,fun _=>rfl⟩
   | 2,_ =>
     rw[if_neg (by omega),if_pos (by omega),hHO]
     refine ⟨_,_,rfl,rfl,zBg fun i hi=>?_,fun _=>rfl⟩
     rw[zDM,if_neg (by omega),if_pos (by omega)]
   | i+3,hi =>
     rw[if_neg (by omega)]
     by_cases h1:i<n
     · rw[if_pos (by omega),hHO]
       have he:=q3Z (l:=d.fs) (i:=i) (by omega)
       refine ⟨.obj true d.fs[i].2.blks,.obj true d.fs[i].2.blks,?_,?_,⟨rfl,rfl⟩,fun _=>rfl⟩
       · unfold DS.heap
         simp only[r9Z]
         rw[q4Z (by rw[zu];omega)]
         exact Zj he
       · simp only[r9Z]
         exact Zj he
     · have:i=n:=by omega
       subst this
       rw[if_neg (by omega),if_pos rfl,hHO]
       refine ⟨.cells false l,.cells false l,?_,rfl,⟨id,zBs l hl⟩,fun h=>absurd rfl h⟩
       unfold DS.heap;simp only[r9Z]
       rw[q5Z (by rw[zu];omega),zu,hn,Nat.sub_self]
       rfl
 have hem:∀i c,(emR n)[i]? = some c->i<n+4/\c=ggR n i:=by
   intro i c hc
   have hi:i<n+4:=by rw[<-zDJ];exact (q1Z.1 hc).1
   refine ⟨hi,?_⟩;rw[zDM]at hc;unfold ggR
   repeat' split at hc
   all_goals simp_all
 have hfr:=ZE (H:=HO) (args:=.ptr 0 0::ys') h (emR n) (zKY n) ⟨⟨by rw[zDM];simp,rfl⟩,hys⟩ (AWh.ofs _ _ (by rw[zDJ,h0l]) fun i x c hx hc=>by
   obtain⟨hi,rfl⟩:=hem i c hc;obtain⟨x',y,h1,h2,h3,_⟩:=hg0 i hi
   rw[h1]at hx;cases hx
   exact⟨y,h2,h3⟩) (by rw[h0l];exact hown)
 rw[zEU _ hv,h0l,hHOl]at hfr;have hG:Z5 (emR n) (n+4)=ggR n:=funext (zT8 n);rw[hG]at hfr;obtain⟨H2,hH2⟩:∃H2,zf (ggR n) HO (emR n) (d.heap [.cells false l]) H1++(H1.drop (n+4)).map (reB (ggR n))=H2:=⟨_,rfl⟩
 have hso:(zf (ggR n) HO (emR n) (d.heap [.cells false l]) H1).length=n+4:=by rw[Z1,hHOl]
 rw[hH2]at hfr
 have hemL:∀x∈emR n,x<HO.length:=by
   intro x hx;obtain⟨i,hi⟩:=List.getElem?_of_mem hx;obtain⟨h1,rfl⟩:=hem i x hi;obtain⟨_,y,_,h2,_⟩:=hg0 i h1;exact (q1Z.1 h2).1
 have hpt:∀c B,c≠n+3->H1[c]? = some B->H2[ggR n c]? = some (reB (ggR n) B):=by
   intro c B hc hB;rw[<-hH2];by_cases h1:c<n+4
   · obtain⟨x,y,g1,g2,g3,g4⟩:=hg0 c h1
     have hemc:(emR n)[c]? = some (ggR n c):=by
       obtain⟨e,he⟩:∃e,(emR n)[c]? = some e:=⟨_,q3Z (by rw[zDJ];exact h1)⟩
       rw[he,(hem c e he).2]
     rw[q4Z (by rw[hso,<-hHOl];exact (q1Z.1 g2).1)]
     exact zEM _ HO (emR n) _ H1 c _ x B (zKY n) hemL hemc g1 (g4 hc) hB
   · have e:ggR n c=c:=by unfold ggR;rw[if_neg (by omega),if_neg (by omega),if_neg (by omega)]
     rw[e,q5Z (by rw[hso];omega),hso,qzZ,r5Z,show n+4+(c-(n+4))=c by omega,hB]
     rfl
 have hrow:H2[1]? = some (.cells false l):=by
   rw[<-hH2,q4Z (by rw[hso];omega),zAw _ HO _ _ _ 1 fun i B h1 h2=>?_]
   · rw[hHO];rfl
   · obtain⟨hi,e⟩:=hem i 1 h1
     have:i=n+3:=by
       unfold ggR at e
       repeat' split at e
       all_goals omega
     subst this;unfold DS.heap at h2;simp only[r9Z]at h2
     rw[q5Z (by rw[zu];omega),zu,hn,Nat.sub_self]at h2
     cases h2;exact Bool.false_ne_true
 simp only[qwZ,not_or]at hne
 have hat2:DAt H2 d' (ggR n 0) (ggR n 1) (ggR n m) (fun i=>ggR n (g i)):=by
   refine ⟨?_,?_,?_,fun i e he=>?_,?_⟩
   · have:=hpt 0 _ (by omega) hat.c0
     rw[this];simp[DS.cell0,reB,Zo,reA]
   · exact hpt 1 _ (by omega) hat.fold
   · have:=hpt m _ (fun e=>hne.2.2.1 e.symm) hat.map
     rw[this];simp only[reB];rw[zGR]
   · refine hpt (g i) _ (fun e'=>hne.2.2.2 ?_) (hat.file i e he)
     exact reZ.2 ⟨i,List.mem_range.2 (q1Z.1 he).1,e'⟩
   · have:=hat.nd
     have h2:((0::1::m::(List.range d'.fs.length).map g).map (ggR n)).Nodup:=by
       rw[List.nodup_iff_pairwise_ne,List.pairwise_map]
       exact (List.nodup_iff_pairwise_ne.1 this).imp fun h e=>h (zHa n _ _ e)
     simpa[Function.comp_def] using h2
 refine zOe (zSz d l) (by rw[<-hHO];exact hfr) ?_ (by simp)
 have h2l:n+4<=H2.length:=by rw[<-hH2,qdZ,hso];omega
 refine Aft.closeAt hat2 (by simp;omega) ?_
 refine Aft.weak (Fn:=[v]) (Hn:=[.obj true d'.blks,.cells false l]) (Weak.mk' [0,1] (by decide) rfl ⟨zFX _ hv,trivial⟩ (zT (b:=ggR n 0) (by rw[show ggR n 0=0 from rfl];omega) _ _ rfl fun i c x h1 h2=>?_)) (by simp;omega) (Aft.done (by simp) ⟨rfl,rfl⟩)
 match i,h1,h2 with
 | 0,h1,h2=>cases h1;cases h2;exact .inl ⟨rfl,rfl⟩
 | 1,h1,h2 =>
   cases h1;cases h2
   have g1:ggR n (n+3)=1:=by unfold ggR;rw[if_neg (by omega),if_neg (by omega),if_pos rfl]
   refine .inr ⟨⟨by rw[show ggR n 0=0 from rfl];omega,?_⟩,?_⟩
   · simp only[qwZ,not_or]
     refine ⟨fun e=>?_,fun e=>?_,fun e=>?_⟩
     · rw[<-g1]at e;have:=zHa n _ _ e;omega
     · rw[<-g1]at e;exact hne.2.2.1 (zHa n _ _ e)
     · obtain⟨i,hi,e⟩:=reZ.1 e
       rw[<-g1]at e;exact hne.2.2.2 (reZ.2 ⟨i,hi,zHa n _ _ e⟩)
   · rw[q2Z,hrow]
     exact⟨id,zBs l hl⟩
theorem zVl(d:DS)(T:zA)(g:Nat->Nat)(hg:∀i,i<d.fs.length->g i=i+3):DAt (d.heap T) d 0 1 2 g:=by
 refine ⟨rfl,rfl,?_,fun i e he=>?_,?_⟩
 · unfold DS.heap
   simp only[r9Z,raZ]
   rw[zBM 0 d.fs fun i _ hi=>hg i (by omega)]
 · have hi:=(q1Z.1 he).1
   rw[hg i hi];unfold DS.heap;simp only[r9Z]
   rw[q4Z (by rw[zu];exact hi)]
   exact Zj he
 · have e:(List.range d.fs.length).map g=(List.range d.fs.length).map (·+3):=List.map_congr_left fun i hi=>hg i (List.mem_range.1 hi)
   rw[e,rdZ,rdZ,rdZ]
   refine ⟨fun h=>?_,fun h=>?_,fun h=>?_,?_⟩
   · rcases qwZ.1 h with h | h
     · omega
     rcases qwZ.1 h with h | h
     · omega
     · obtain⟨c,_,h⟩:=reZ.1 h;omega
   · rcases qwZ.1 h with h | h
     · omega
     · obtain⟨c,_,h⟩:=reZ.1 h;omega
   · obtain⟨c,_,h⟩:=reZ.1 h;omega
   · rw[List.nodup_iff_pairwise_ne,List.pairwise_map]
     exact (List.nodup_iff_pairwise_ne.1 List.nodup_range).imp fun h e=>h (by omega)
theorem zVh(d:DS)(m:Int):Ct Pz 15 [.ptr 0 0,.int .i64 m] (d.heap []) (.tuple []) ((d.arm m).heap []):=by
 refine zz Tryz.func15 rfl ?_;simp only[Tryz.ntmps15,q7Z,q8Z,Nat.reduceAdd,Nat.reduceSub,qbZ,q9Z,qaZ];unfold DS.heap DS.cell0 DS.arm;obtain⟨k,hk⟩:∃k,max 0 m=k:=⟨_,rfl⟩;rw[hk]
 refine Sim.step hmix zD (n:=0) (by simp;exact⟨rfl,rfl⟩) (by simp) ?_
 refine Sim.exec hmix zD (n:=0) (by simp +decide [-zCG,zFZ,hk];exact⟨rfl,rfl,rfl⟩) (by simp) ?_
 exact⟨.inl rfl,by simp[Tryz.f15],by simp⟩
theorem zSf(d:DS):Ct Pz 20 [.ptr 0 0] (d.heap []) (.bool d.down) (d.heap []):=by
 refine zz Tryz.func20 rfl ?_;simp only[Tryz.ntmps20,q7Z,q8Z,Nat.reduceAdd,Nat.reduceSub,qbZ,q9Z,qaZ];unfold DS.heap DS.cell0
 refine Sim.step hmix zD (n:=0) (by simp;exact⟨rfl,rfl⟩) (by simp) ?_
 refine Sim.exec hmix zD (n:=0) (by simp +decide;exact⟨rfl,rfl,rfl⟩) (by simp) ?_
 exact⟨.inr rfl,by simp[Tryz.f20],by simp⟩
theorem zCC{f:FuncId}{d d':DS}{xs:List AV}{v:AV}(h:Ct Pz f (.ptr 0 0::xs) (d.heap []) v (d'.heap []))(hv:zEo v=true):Ct Pz f (.ptr 0 0::xs) [.obj true d.blks] v [.obj true d'.blks]:=by
 rw[DS.heap_eq,DS.heap_eq,r2Z]at h
 refine zGL h (by simp[DS.blks]) ?_
 have:=Aft.closeDS d' (T:=[]) (Tn:=[]) (v:=v) (v':=v) [] (by decide) rfl (zFX _ hv) (fun i t x h=>by simp at h)
 exact this
def Z6(l:List Int):List AV:=l.map (.int .u16)
@[simp] theorem zWa(l:List Int):(Z6 l).length=l.length:=by simp[Z6]
@[simp] theorem zDD:∀l,zZ (Z6 l)=true
 | []=>rfl
 | _::l=>by have:=zDD l;simpa[Z6,free] using this
def nxt(l:List Int)(o n:Nat):Int:=((l.drop o).take n).headD 0
def nxO(o n:Nat):Nat:=o+min 1 n
def nxN(n:Nat):Nat:=n-1
def zXU(l:List Int)(o n:Nat):Prop:=o+n<=l.length/\l.length<=9223372036854775807/\∀x∈l,0<=x/\x<=65535
theorem zVE(H:zA)(c b o n:Nat)(w cl:Bool)(l:List Int)(hok:zXU l o n)(hc:H[c]? = some (.cells true [.sl b o n 1 cl]))(hb:H[b]? = some (.cells w (Z6 l))) :
   Ct Pz 136 [.ptr c 0] H (.int .i64 (nxt l o n)) (H.set c (.cells true [.sl b (nxO o n) (nxN n) 1 cl])):=by
 obtain⟨ho,hl,hr⟩:=hok;have hcl:c<H.length:=(q1Z.1 hc).1;refine zz Tryz.func136 rfl ?_;simp only[Tryz.ntmps136,q7Z,q8Z,Nat.reduceAdd,Nat.reduceSub,qbZ,q9Z,qaZ]
 refine Sim.step hmix zD (n:=0) (by simp;exact⟨rfl,rfl⟩) (by simp) ?_
 by_cases h:0<n
 · have hol:o<l.length:=by omega
   obtain⟨x,hx⟩:∃x,l[o]=x:=⟨_,rfl⟩
   have hxr:=hr x (by rw[<-hx];exact r3Z hol)
   have hd:nxt l o n=x:=by
     unfold nxt
     obtain⟨m,rfl⟩:∃m,n=m+1:=⟨n-1,by omega⟩
     rw[List.drop_eq_getElem_cons hol,hx];rfl
   have hat:∀q,(Z6 l)[o]'q=.int .u16 x:=fun q=>by simp[Z6,hx]
   have hlt:o<(Z6 l).length:=by simpa using hol
   have hw:IntKind.i64.wrap x=x:=zX (by omega) (by omega)
   have p1:(0:Int)<(n:Int):=by omega
   have p3:1<=n:=by omega
   have p4:(1:Int)<=(n:Int):=by omega
   have e1:nxO o n=o+1:=by unfold nxO;omega
   have e2:nxN n=n-1:=rfl;rw[hd,e1,e2]
   refine Sim.seq (Sim.step hmix zD (n:=0) (by simp[hc,h];exact⟨rfl,rfl⟩) (by simp) (Sim.cond (t:=true) (by simp) ?_))
   rw[if_pos rfl]
   refine Sim.draw hmix (by simp) ?_
   refine SimR.many zD 7 (by simp[zI];rfl) (by omega) (by kernel_rfl) (by simp +decide [hc,hb,hat,hol,h,hw,p4];first | exact⟨rfl,rfl⟩ | exact⟨by kernel_rfl,rfl,rfl⟩) ?_
   refine SimR.one zD _ rfl (by kernel_rfl) (by simp +decide [hc];exact⟨rfl,rfl⟩) ?_
   refine SimR.done rfl ?_;dsimp only
   refine Sim.exec hmix zD (n:=0) (by simp;exact⟨rfl,rfl,rfl⟩) (by simp) ?_
   exact⟨.inr rfl,by simp[Tryz.f136],rfl⟩
 · have e:n=0:=by omega
   subst e
   have hd:nxt l o 0=0:=by unfold nxt;rw[List.take_zero];rfl
   have hset:H.set c (.cells true [.sl b (nxO o 0) (nxN 0) 1 cl])=H:=by
     show H.set c (.cells true [.sl b o 0 1 cl])=H;obtain⟨h1,h2⟩:=q1Z.1 hc;rw[<-h2,List.set_getElem_self]
   rw[hd,hset]
   refine Sim.step hmix zD (n:=0) (by simp[hc];exact⟨rfl,rfl⟩) (by simp) ?_
   refine Sim.exec hmix zD (n:=0) (by simp;exact⟨rfl,rfl,rfl⟩) (by simp) ?_
   exact⟨.inr rfl,by simp[Tryz.f136],rfl⟩
def zFE:List AV->Option (List Int)
 | []=>some []
 | .int .u16 n::l=>(zFE l).map (n::·)
 | _=>none
theorem zCa:∀l:List Int,zFE (Z6 l)=some l
 | []=>rfl
 | x::l=>by
   have:=zCa l;simp only[Z6,s1Z,zFE]at this ⊢
   rw[this];rfl
theorem zGU:∀{a:List AV} {l:List Int},zFE a=some l->a=Z6 l
 | [],_,h=>by cases h;rfl
 | x::a,l,h=>by
   unfold zFE at h;split at h
   · rename_i h0;cases h0
   · rename_i n a' e
     cases e;obtain⟨l',h1,rfl⟩:=qlZ.1 h
     rw[zGU h1];rfl
   · cases h
noncomputable def zJx:zc:=open Classical in fun args H=>match args with
 | [.ptr c 0]=>match H[c]? with
   | some (.cells true [.sl b o n 1 cl])=>match H[b]? with
     | some (.cells _ a)=>match zFE a with
       | some l=>if zXU l o n then some (.int .i64 (nxt l o n),H.set c (.cells true [.sl b (nxO o n) (nxN n) 1 cl]),[c]) else none
       | none=>none
     | _=>none
   | _=>none
 | _=>none
theorem zPD:Sound Pz 136 zJx:=by
 refine ⟨zH Tryz.func136 rfl (by decide),fun args H v H' W hs=>?_,fun args H v H' W hs=>?_⟩ <;> (unfold zJx at hs;split at hs <;> try cases hs) <;> (split at hs <;> try cases hs) <;> (rename_i c _ b o n cl hc;split at hs <;> try cases hs) <;> (rename_i w a hb;split at hs <;> try cases hs) <;> (rename_i l hl;split at hs <;> cases hs;rename_i hk)
 · have e:=zGU hl
   subst e;exact zVE H c b o n w cl l hk hc hb
 · refine ⟨by simp,fun d hd hn=>?_⟩
   simp only[r1Z]at hn;rw[qfZ (Ne.symm hn)]
def thM(g:Int->Nat)(th:List Int):List (AV×AV):=th.map fun n=>(.int .i64 n,.ptr (g n) 0)
theorem zKz(g:Int->Nat)(v:Int):∀(th:List Int) (i:Nat),zAA (thM g th) (.int .i64 v) i=some (if v∈th then some (i+th.idxOf v,.ptr (g v) 0) else none)
 | [],i=>by simp[thM,zAA]
 | a::th,i=>by
   have ih:=zKz g v th (i+1);simp only[thM]at ih;by_cases h:a=v
   · subst h
     simp[thM,zAA,Zp]
   · have h2:(v==a)=false:=by simpa using (fun q=>h q.symm)
     have h3:(a==v)=false:=by simpa using h
     simp only[thM,s1Z,zAA,Zp,h2,ih,qwZ,Ne.symm h,false_or];rw[List.idxOf_cons,h3]
     by_cases hm:v∈th <;> simp[hm]
     omega
theorem zWi(g:Int->Nat){v:Int}{th:List Int}(h:v∈th):(thM g th).set (th.idxOf v) (.int .i64 v,.ptr (g v) 0)=thM g th:=by
 have hl:th.idxOf v<th.length:=List.idxOf_lt_length_of_mem h
 have e:(thM g th)[th.idxOf v]'(by simpa[thM] using hl)=(.int .i64 v,.ptr (g v) 0):=by
   simp[thM,List.getElem_idxOf hl]
 rw[<-e,List.set_getElem_self]
theorem FS.at_keys{l m:FS}(h:FS.keys l=FS.keys m)(n:Int):FS.at l n=FS.at m n:=by unfold FS.at;rw[h]
end
section
open Go Go.Lib
theorem zNO:∀{n:Nat} {l:List AV},All2 zEc (qbZ n [Prim.int .u16]).flatten l->∃zs:List Int,l=Z6 zs/\zs.length=n/\∀z∈zs,0<=z/\z<=65535
 | 0,[],_=>⟨[],rfl,rfl,by simp⟩
 | n+1,x::l,h=>by
   rw[rvZ,rcZ]at h;obtain⟨a,rfl,ha⟩:=h.1;obtain⟨zs,rfl,hl,hq⟩:=zNO (n:=n) (l:=l) h.2;have ba:=bounds_u16 ha
   refine ⟨a::zs,rfl,by simp[hl],fun x hx=>?_⟩
   rcases qwZ.1 hx with rfl | hx
   · exact⟨ba.1,by omega⟩
   · exact hq x hx
 | 0,_::_,h=>h.elim
 | n+1,[],h=>by
   rw[rvZ,rcZ]at h;exact h.elim
end
end Go.Proofs.YtpmfecnajoojeaaGreatDoor
