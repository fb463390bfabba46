/- Parts of the proof of SweepStops: lemmas, each with its own conditions. -/
import Derived.Test.YthafeihjlamhhaaGreatDoorY26
import Derived.Test.YthafeihjlamhhaaGreatDoorY29
import Derived.Test.YthafeihjlamhhaaGreatDoorY30
import Derived.Test.YthafeihjlamhhaaGreatDoorY31
import Derived.Test.YthafeihjlamhhaaGreatDoorY32
set_option maxHeartbeats 64000000
open List renaming take_of_length_le → q6Z, length_cons → q7Z, length_nil → q8Z, cons_append → q9Z, nil_append → qaZ, replicate → qbZ, mem_cons → qwZ, getElem_mem → r3Z, length_map → r7Z, flatten_cons → rcZ, replicate_succ → rvZ
open Nat renaming zero_le → qqZ
open Int renaming tmod_eq_emod_of_nonneg → rrZ
namespace Go.Proofs.YthafeihjlamhhaaGreatDoor
open _root_.Go.Proofs.Tryz renaming prog → Pz
set_option maxRecDepth 100000
section
open Go
attribute [-simp] drawOk_eq adraw qrun acode aops
theorem absOk_row_Eo{el:List Prim}{ts:List CT}{k:Nat}{xs:List AV}{H:AHeap}(h:AbsOk (.row el::ts) k xs H) :
   ∃x ys l n H2,xs=x::ys∧H=.cells false l::H2∧(n=0∧x=.nils∨x=.slice k 0 n el.length false)∧n≤maxLen∧All2 PrimA (qbZ n el).flatten l∧AbsOk ts (k+1) ys H2:=by
 cases xs with
 | nil=>exact h.elim
 | cons x ys =>
   cases H with
   | nil=>exact h.elim
   | cons B H1 =>
     simp only[AbsOk]at h;obtain⟨⟨l,n,rfl,h3,h4,h5⟩,h6⟩:=h;exact⟨x,ys,l,n,H1,rfl,rfl,h3,h4,h5,h6⟩
theorem row_bytes:∀{n:Nat} {l:List AV},All2 PrimA (qbZ n [Prim.int .u8]).flatten l→∃ls:List Nat,l=ls.map aB∧ls.length=n∧∀c∈ls,c<256
 | 0,[],_=>⟨[],rfl,rfl,by simp⟩
 | n+1,x::l,h=>by
   rw[rvZ,rcZ]at h;obtain⟨a,rfl,ha⟩:=h.1;obtain⟨ls,rfl,hl,h2⟩:=row_bytes (n:=n) (l:=l) h.2;have hb:=bounds_u8 ha
   refine ⟨a.toNat::ls,by simp[aB];omega,by simp[hl],fun c hc=>?_⟩
   rcases qwZ.1 hc with rfl | hc
   · omega
   · exact h2 c hc
 | 0,_::_,h=>h.elim
 | n+1,[],h=>by
   rw[rvZ,rcZ]at h;exact h.elim
end
section
open Go Go.Lib
attribute [-simp] drawOk_eq adraw qrun acode aops
theorem sw_files(l:List Nm):(∀e∈swFiles l,mayF e.1∧e.2.length≤9)∧((swFiles l).map Prod.fst).Nodup∧(swFiles l).length≤30:=by
 obtain⟨h1,h2⟩:=swOut_ok l (min l.length 30);have h3:=swOut_len l (min l.length 30)
 exact⟨h1,h2,by unfold swFiles;omega⟩
theorem row_nms:∀{n:Nat} {l:List AV},All2 PrimA (qbZ n [Prim.int .u8,.int .u8,.str]).flatten l→∃xs:List Nm,l=nmA xs∧xs.length=n∧nmOk xs
 | 0,[],_=>⟨[],rfl,rfl,fun x hx=>by simp at hx⟩
 | n+1,l,h=>by
   rw[rvZ,rcZ]at h
   match l,h with
   | x::y::z::l,h =>
     obtain⟨⟨a,rfl,ha⟩,⟨b,rfl,hb⟩,⟨s,rfl,hs⟩,h⟩:=h;obtain⟨xs,rfl,h1,h2⟩:=row_nms (n:=n) (l:=l) h;have b1:=bounds_u8 ha;have b2:=bounds_u8 hb;unfold maxLen at hs
     refine ⟨(a.toNat,b.toNat,s)::xs,?_,by simp[h1],fun x hx=>?_⟩
     · simp only[nmA,List.flatMap_cons,q9Z,qaZ]
       rw[show ((a.toNat:Nat):Int)=a by omega,show ((b.toNat:Nat):Int)=b by omega]
     · rcases qwZ.1 hx with rfl | hx
       · exact⟨by dsimp only;omega,by dsimp only;omega,by dsimp only;omega⟩
       · exact h2 x hx
 | 0,_::_,h=>h.elim
abbrev sd_ct:List CT:=[.one (.int .u8),.row [.int .u8],.row [.int .u8,.int .u8,.str]]
theorem row_sd{k:Nat}{ys:List AV}{H:AHeap}(h:AbsOk sd_ct k ys H):∃(f:Nat) (ls:List Nat) (l:List Nm) (x0 x1:AV),f<256∧(∀c∈ls,c<256)∧ls.length≤9223372036854775807∧nmOk l∧l.length≤9223372036854775807 ∧
   (ls.length=0∧x0=.nils∨x0=.slice k 0 ls.length 1 false)∧(l.length=0∧x1=.nils∨x1=.slice (k+1) 0 l.length 3 false)∧ys=[.int .u8 f,x0,x1]∧H=[.cells false (ls.map aB),.cells false (nmA l)]:=by
 obtain⟨x1,y1,rfl,⟨f,rfl,hf⟩,k1⟩:=absOk_one h;obtain⟨x2,y2,r0,n0,H0,rfl,rfl,hx0,hm0,hr0,k2⟩:=absOk_row_Eo k1;obtain⟨x3,y3,r1,n1,H1,rfl,rfl,hx1,hm1,hr1,k3⟩:=absOk_row_Eo k2;obtain⟨rfl,rfl⟩:=absOk_nil k3;obtain⟨ls,rfl,rfl,hls⟩:=row_bytes hr0;obtain⟨l,rfl,rfl,hl⟩:=row_nms hr1;have b1:=bounds_u8 hf;unfold maxLen at hm0 hm1
 exact⟨f.toNat,ls,l,x2,x3,by omega,hls,by omega,hl,by omega,hx0,hx1,by rw[show ((f.toNat:Nat):Int)=f by omega],rfl⟩
theorem sd_weak{k:Nat}{ls:List Nat}{l:List Nm}{x0 x1:AV}(h0:ls.length=0∧x0=.nils∨x0=.slice k 0 ls.length 1 false)(h1:l.length=0∧x1=.nils∨x1=.slice (k+1) 0 l.length 3 false)(rn:List Nat)(r0:rn[k]?=some k)(r1:rn[k+1]?=some (k+1)) :
   AW rn (.sl k 0 ls.length 1 false) x0∧AW rn (.sl (k+1) 0 l.length 3 false) x1:=by
 constructor
 · rcases h0 with⟨h,rfl⟩ | rfl
   · simp[AW,h]
   · simp[AW,r0]
 · rcases h1 with⟨h,rfl⟩ | rfl
   · simp[AW,h]
   · simp[AW,r1]
noncomputable def sstΓ:Gam:=gams [(26,trueK_U6),(27,smadeS),(28,sfilesS),(31,dofS),(32,srunS),(33,darmS),(34,ddownS),(35,drestN),(36,dlistS),(37,dsizeS),(38,same26S),(39,scleanS)]
theorem sstΓ_ok:GOk Pz sstΓ:=goks_cons swpWS0_sound (goks_cons smade_sound (goks_cons sfiles_sound (goks_cons dof_sound (goks_cons srun_sound (goks_cons darm_sound (goks_cons ddown_sound (goks_cons drestN_sound (goks_cons dlist_sound (goks_cons dsize_sound (goks_cons same26_sound (goks_cons sclean_sound goks_nil)))))))))))
theorem stops_ct(f:Nat)(hf:f<256)(ls:List Nat)(hl0:∀c∈ls,c<256)(hn0:ls.length≤9223372036854775807)(l:List Nm)(hl:nmOk l)(hll:l.length≤9223372036854775807)(a:Nat)(ha:a<256)(nums:List Int)(hnums:∀x∈nums,0≤x∧x≤65535)(hMl:nums.length≤9223372036854775807) :
   ∃H',Ct Pz 5 [.agg [.int .u8 f,.sl 0 0 ls.length 1 false,.sl 1 0 l.length 3 false],.int .u8 a,.sl 2 0 nums.length 1 false] [.cells false (ls.map aB),.cells false (nmA l),.cells false (numA nums)] (.bool true) H':=by
 have hΓ:=sstΓ_ok;refine ⟨[.cells false (ls.map aB),.cells false (nmA l),.cells false (numA nums)],ct_of_sim Tryz.func5 rfl ?_⟩;simp only[Tryz.ntmps5,q7Z,q8Z,Nat.reduceAdd,Nat.reduceSub,qbZ,q9Z,qaZ];obtain⟨M,hM⟩:∃M,nums.length=M:=⟨_,rfl⟩;rw[hM]at hMl ⊢
 obtain⟨J,hJ⟩:∃J:Nat,min (M:Int) 70=J:=⟨min M 70,by omega⟩
 have hJM:J≤M:=by omega
 have hJMI:(J:Int)≤M:=by omega
 have hJ0:(0:Int)≤J:=by omega
 have hn1':(∀x∈nums,0≤x∧x≤65535)=True:=by simpa using hnums
 have a0:(∀x∈ls,x<256)=True:=by simpa using hl0
 have t0:(ls.map aB).take ls.length=ls.map aB:=q6Z (by simp)
 have t1:(nmA l).take (l.length*3)=nmA l:=q6Z (by simp)
 have hfI:(f:Int)<256:=by omega
 obtain⟨F1,F2,F3⟩:=sw_files l
 have hseg:((sdM f ls).segs).length≤6:=by simp[sdM];omega
 obtain⟨F,hF⟩:∃F,swFiles l=F:=⟨_,rfl⟩;rw[hF]at F1 F2 F3;obtain⟨X,hX⟩:∃X,sdM f ls=X:=⟨_,rfl⟩;rw[hX]at hseg
 have hshort:shortF F:=fun e he=>by have:=(F1 e he).1.2;omega
 have hF6:F.length≤1000000:=by omega
 have ta:(a:Int).tmod 34=((a % 34:Nat):Int):=by rw[rrZ (by omega)];omega
 obtain⟨t,ht⟩:∃t:Nat,a % 34=t:=⟨_,rfl⟩
 have ht34:t<34:=by omega
 rw[ht]at ta
 have w1:IntKind.u8.wrap (t:Int)=t:=wr_u8 (by omega) (by omega)
 have w2:IntKind.i64.wrap (t:Int)=t:=wr_i64 (by omega) (by omega)
 obtain⟨d,e1,e2,w,n,e3,e4,e5,d1,k,e,e6,e7,e8,e9,e10,e11,d2,j,e12,e13,e14,e15⟩:=stops_law X F F1 F2 F3 (t:Int) (by omega) (by omega) (nums.take J)
 have k0:d.ok 200000 1000000000000:=DS.ok_mono e2 (by omega) (by omega)
 have kA:(d.arm (t:Int)).ok 200000 1000000000000:=DS.ok_mono (DS.ok_arm e2 (t:Int) (by omega)) (by omega) (by omega)
 have kW:w.ok 200000 1000000000000:=DS.ok_mono e5 (by omega) (by omega)
 have sW:w.small:=DS.ok_mono e5 (by omega) (by omega)
 have s1:d1.small:=DS.ok_mono e9 (by omega) (by omega)
 have kR:(d1.restart (nums.take J)).ok 200000 1000000000000:=DS.ok_mono (DS.ok_restart e9 (nums.take J)) (by omega) (by omega)
 have sR:(d1.restart (nums.take J)).small:=DS.ok_mono (DS.ok_restart e9 (nums.take J)) (by omega) (by omega)
 have k2:d2.ok 200000 1000000000000:=DS.ok_mono e14 (by omega) (by omega)
 have s2:d2.small:=DS.ok_mono e14 (by omega) (by omega)
 have hclean:cleanD d2 X=cleanD w X:=by unfold cleanD;rw[e15]
 obtain⟨dR,hdR⟩:∃d2,d1.restart (nums.take J)=d2:=⟨_,rfl⟩;rw[hdR]at e11 e12 kR sR;obtain⟨dA,hdA⟩:∃x,d.arm (t:Int)=x:=⟨_,rfl⟩;rw[hdA]at e6 kA;obtain⟨cl,hcl⟩:∃c,cleanD w X=c:=⟨_,rfl⟩;rw[hcl]at hclean;obtain⟨N,hN⟩:∃N,F.length=N:=⟨_,rfl⟩;rw[hN]at e8 F3 hF6;obtain⟨V,hV⟩:∃V,w.list=V:=⟨_,rfl⟩;rw[hV]at e10 e11 e15;obtain⟨L,hL⟩:∃L,V.length=L:=⟨_,rfl⟩;rw[hL]at e10
 have hdd:(e==0)=!d1.down:=by
   rcases e7 with⟨h1,h2⟩ | ⟨h1,h2⟩
   · rw[h1,h2];rfl
   · rw[h1,h2];rfl
 have hkN:¬(N:Int)<k:=by omega
 have hVt:(V.map AV.str).take L=V.map AV.str:=q6Z (by rw[r7Z];omega)
 have hL12:L≤1000000000000:=by omega
 have hfr:∀rn:List Nat,AWs rn (numA nums) (numA nums):=fun rn=>AWs_flat _ (flatsA_num _)
 have hA0:∀rn:List Nat,AWs rn (ls.map aB) (ls.map aB):=fun rn=>AWs.refl _ _ (frees_aB ls)
 have hA1:∀rn:List Nat,AWs rn (nmA l) (nmA l):=fun rn=>AWs.refl _ _ (frees_nmA l)
 have hA2:∀rn:List Nat,AWs rn (flA F) (flA F):=fun rn=>AWs.refl _ _ (frees_flA F)
 have hA4:∀rn:List Nat,AWs rn (V.map AV.str) (V.map AV.str):=fun rn=>AWs.refl _ _ (frees_map _ _ fun _=>rfl)
 obtain⟨v,g,nx,sg⟩:=X;simp only at hseg
 have hsg12:sg.length≤1000000000000:=by omega
 have hA3:∀rn:List Nat,AWs rn (sgsA sg) (sgsA sg):=fun rn=>AWs.refl _ _ (by simp)
 have hS4:∀k,shAs k (flA F)=flA F:=fun k=>shAs_free k _ (frees_flA F)
 have hB0:∀m,belows m (ls.map aB)=true:=fun m=>belows_free m _ (frees_aB ls)
 have hB1:∀m,belows m (nmA l)=true:=fun m=>belows_free m _ (frees_nmA l)
 have hB2:∀m,belows m (numA nums)=true:=fun m=>belows_flats m _ (flatsA_num _)
 have hB3:∀m,belows m (flA F)=true:=fun m=>belows_free m _ (frees_flA F)
 have hB4:∀m,belows m (V.map AV.str)=true:=fun m=>belows_free m _ (frees_map _ _ fun _=>rfl)
 have fin:∀(T:AHeap),Weak 3 [.bool true] (.cells false (ls.map aB)::.cells false (nmA l)::.cells false (numA nums)::T) [.bool true] [.cells false (ls.map aB),.cells false (nmA l),.cells false (numA nums)]:=fun T =>
   Weak.mk' [0,1,2] (by decide) (by decide) (by simp) (by simp[AWb,AWg,hA0,hA1,hfr])
 refine Sim.step hmix hΓ (n:=0) (by simp;exact⟨rfl,rfl⟩) (by simp) ?_
 refine Sim.step hmix hΓ (n:=0) (by simp[sstΓ,trueK_U6];exact⟨rfl,rfl⟩) (by simp) ?_
 refine Sim.seq (Sim.draw hmix (by simp) ?_)
 refine SimR.many hΓ 7 (by simp[stageOps];rfl) (by omega) (by kernel_rfl) (by simp +decide [sstΓ,smadeS,sfilesS,readNewS,rowNs,rowNm,t0,t1,a0,hn0,hfI,hl,hll,hX,hF,mfA,shA,shB,hS4,scA,hB0,hB1,hB2,hB3];first | exact⟨rfl,rfl⟩ | exact⟨by kernel_rfl,rfl,rfl⟩) ?_
 refine SimR.done rfl ?_;dsimp only
 refine Sim.step hmix hΓ (n:=0) (by simp +decide [sstΓ,dofS,e1,hshort,hF6,hN];exact⟨rfl,rfl⟩) (by simp) ?_
 refine Sim.step hmix hΓ (n:=0) (by simp +decide;exact⟨rfl,rfl⟩) (by simp) ?_
 refine Sim.step hmix hΓ (n:=0) (by simp +decide [sstΓ,srunS,k0,e3,hsg12];exact⟨rfl,rfl⟩) (by simp) ?_
 refine Sim.step hmix hΓ (n:=0) (by simp +decide [sstΓ,darmS,ta,w1,w2,hdA];exact⟨rfl,rfl⟩) (by simp) ?_
 refine Sim.step hmix hΓ (n:=0) (by simp +decide [sstΓ,srunS,kA,e6,hsg12];exact⟨rfl,rfl⟩) (by simp) ?_
 refine Sim.step hmix hΓ (n:=0) (by simp +decide [sstΓ,ddownS,hdd,hkN,hN];exact⟨rfl,rfl⟩) (by simp) ?_
 refine Sim.step hmix hΓ (n:=0) (by simp +decide [-minA,minA_min,sstΓ,drestN,drest0S,drestS,rowArg,numsOf_at,s1,hdR,hJ,hM,hJM,hJMI,hJ0,hMl,hn1'];exact⟨rfl,rfl⟩) (by simp) ?_
 refine Sim.step hmix hΓ (n:=0) (by simp +decide [sstΓ,dlistS,sW,hV,hL];exact⟨rfl,rfl⟩) (by simp) ?_
 refine Sim.seq (Sim.step hmix hΓ (n:=0) (by simp +decide;exact⟨rfl,rfl⟩) (by simp) ?_)
 refine Sim.block (Sim.loopW (fun i:Nat=>i≤L)
   (fun i=>[.top,.top,.top,.top,.top,.top,.top,.ptr 6 0,.top,.ptr 7 0,.ptr 8 0,.top,.top,.sl 9 0 L 1 false,.int .i64 i]++qbZ 94 .top)
   (fun _=>[.cells false (ls.map aB),.cells false (nmA l),.cells false (numA nums),.cells true [.int .u8 f,.sl 0 0 ls.length 1 false,.sl 1 0 l.length 3 false],.cells true (sgsA sg),.cells true (flA F),.cells true [.int .i64 v,.int .i64 g,.int .i64 nx,.sl 4 0 sg.length 3 false],.obj true dR.blks,.obj true w.blks,.cells true (V.map AV.str)]) (fun i=>L-i) 0 (by simp) (qqZ _)
   (Weak.mk' [0,1,2,3,4,5,6,7,8,9] (by decide) (by decide) (by simp) (by simp[AWb,AWg,AW,hA0,hA1,hA2,hA3,hA4,hfr])) fun i hi=>?_)
 by_cases hiL:i<L
 · have hiI:(i:Int)<L:=by omega
   have hiV:i<V.length:=by omega
   obtain⟨nm,hnm⟩:∃s,V[i]=s:=⟨_,rfl⟩;obtain⟨z,hz⟩:=e11 V[i] (r3Z hiV);rw[hnm]at hz
   have g1:∀h,(V.map AV.str)[i]'h=.str nm:=fun h=>by simp[hnm]
   have y1:IntKind.i64.wrap ((i:Int)+1)=i+1:=wr_i64 (by omega) (by omega)
   refine Sim.step hmix hΓ (n:=0) (by simp[hiI,hiL];exact⟨rfl,rfl⟩) (by simp) ?_
   refine Sim.seq (Sim.block ?_)
   refine Sim.step hmix hΓ (n:=0) (by simp +decide [sstΓ,dsizeS,sR,hiL,hiV,hL,hnm,g1,hz];exact⟨rfl,rfl⟩) (by simp) ?_
   refine Sim.exec hmix hΓ (n:=0) (by simp +decide;exact⟨rfl,rfl,rfl⟩) (by simp) ?_
   dsimp only
   refine Sim.exec hmix hΓ (n:=0) (by simp[y1];exact⟨rfl,rfl,rfl⟩) (by simp) ?_
   exact⟨i+1,by omega,Weak.mk' [0,1,2,3,4,5,6,7,8,9] (by decide) (by decide) (by simp) (by simp[AWb,AWg,AW,hA0,hA1,hA2,hA3,hA4,hfr]),by omega⟩
 · have hie:i=L:=by omega
   subst hie
   refine Sim.exec hmix hΓ (n:=0) (by simp;exact⟨rfl,rfl,rfl⟩) (by simp) ?_
   dsimp only;rw[if_pos rfl]
   refine Sim.step hmix hΓ (n:=0) (by simp +decide [sstΓ,srunS,kR,e12,hsg12];exact⟨rfl,rfl⟩) (by simp) ?_
   refine Sim.seq (Sim.draw hmix (by simp) ?_)
   refine SimR.many hΓ 3 (by simp[stageOps];rfl) (by omega) (by kernel_rfl) (by simp +decide;first | exact⟨rfl,rfl⟩ | exact⟨by kernel_rfl,rfl,rfl⟩) ?_
   refine SimR.many hΓ 9 (by simp[stageOps,blankOp];rfl) (by omega) (by kernel_rfl) (by simp +decide [sstΓ,dlistS,s2,e15,hL,same26S,readS,rowSt,hVt,hL12,e10,scA,hB0,hB1,hB2,hB3,hB4];first | exact⟨rfl,rfl⟩ | exact⟨by kernel_rfl,rfl,rfl⟩) ?_
   refine SimR.many hΓ 18 (by simp[stageOps,blankOp];rfl) (by omega) (by kernel_rfl) (by simp +decide [sstΓ,scleanS,k2,kW,hclean,hcl,hsg12,scA,hB0,hB1,hB2,hB3,hB4];first | exact⟨rfl,rfl⟩ | exact⟨by kernel_rfl,rfl,rfl⟩) ?_
   refine SimR.done rfl ?_;dsimp only
   refine Sim.exec hmix hΓ (n:=0) (by simp;exact⟨rfl,rfl,rfl⟩) (by simp) ?_
   exact⟨.inr rfl,_,by simp[Tryz.f5] <;> rfl,fin _⟩
def sweepStops_shape:List AS:=[.flat true sd_ct,.flat false [.one (.int .u8)],.flat false [.row [.int .u16]]]
theorem sweepStops_law:∀xs H,AbsArgs2 sweepStops_shape 0 xs H→∃H',Ct Pz 5 xs H (.bool true) H':=by
 intro xs H h0;obtain⟨z1,y1,H1,H2,rfl,k0,rfl,h1⟩:=absArgs2_agg h0;obtain⟨f,ls,l,x0,x1,c1,c2,c3,c4,c5,w0,w1,rfl,rfl⟩:=row_sd k0;obtain⟨x,ys,rfl,⟨a,rfl,ha⟩,h2⟩:=absArgs2_one h1;obtain⟨y,zs,r,n,H2,rfl,rfl,hy,hm,hr,h3⟩:=absArgs2_row h2;obtain⟨nums,rfl,rfl,hok⟩:=row_u16s hr;obtain⟨rfl,rfl⟩:=absArgs2_nil h3;have ba:=bounds_u8 ha;unfold maxLen at hm
 obtain⟨H',h⟩:=stops_ct f c1 ls c2 c3 l c4 c5 a.toNat (by omega) nums hok (by omega)
 rw[show ((a.toNat:Nat):Int)=a by omega]at h
 obtain⟨v0,v1⟩:=sd_weak w0 w1 [0,1,2] rfl rfl
 have v2:AW [0,1,2] (.sl 2 0 nums.length 1 false) y:=by
   rcases hy with⟨h,rfl⟩ | rfl
   · simp[AW,h]
   · simp[AW]
 have hfr:∀rn:List Nat,AWs rn (numA nums) (numA nums):=fun rn=>AWs_flat _ (flatsA_num _)
 have hA0:∀rn:List Nat,AWs rn (ls.map aB) (ls.map aB):=fun rn=>AWs.refl _ _ (frees_aB ls)
 have hA1:∀rn:List Nat,AWs rn (nmA l) (nmA l):=fun rn=>AWs.refl _ _ (frees_nmA l)
 refine ⟨H',ct_weak ?_ h⟩
 exact Weak.mk' [0,1,2] (by decide) rfl ⟨⟨⟨rfl,rfl⟩,v0,v1,trivial⟩,⟨rfl,rfl⟩,v2,trivial⟩ (by simp[AWb,AWg,hA0,hA1,hfr])
end
end Go.Proofs.YthafeihjlamhhaaGreatDoor
