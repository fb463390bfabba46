/- Parts of the proof of SweepLeaves: lemmas, each with its own conditions. -/
import Derived.Test.YthafeihjlamhhaaGreatDoorY26
import Derived.Test.YthafeihjlamhhaaGreatDoorY29
import Derived.Test.YthafeihjlamhhaaGreatDoorY30
import Derived.Test.YthafeihjlamhhaaGreatDoorY31
import Derived.Test.YthafeihjlamhhaaGreatDoorY32
set_option maxHeartbeats 64000000
open List renaming getElem?_eq_some_iff → q1Z, take_of_length_le → q6Z, length_cons → q7Z, length_nil → q8Z, cons_append → q9Z, nil_append → qaZ, replicate → qbZ, length_take → qjZ, mem_cons → qwZ, getElem_mem → r3Z, getElem?_take → r4Z, getElem?_drop → r5Z, flatten_cons → rcZ, replicate_succ → rvZ
open Nat renaming zero_le → qqZ
namespace Go.Proofs.YthafeihjlamhhaaGreatDoor
open _root_.Go.Proofs.Tryz renaming prog → Pz
set_option maxRecDepth 100000
section
open Go
attribute [-simp] drawOk_eq adraw qrun acode aops
theorem absOk_row_Eo{el:List Prim}{ts:List CT}{k:Nat}{xs:List AV}{H:AHeap}(h:AbsOk (.row el::ts) k xs H) :
   ∃x ys l n H2,xs=x::ys∧H=.cells false l::H2∧(n=0∧x=.nils∨x=.slice k 0 n el.length false)∧n≤maxLen∧All2 PrimA (qbZ n el).flatten l∧AbsOk ts (k+1) ys H2:=by
 cases xs with
 | nil=>exact h.elim
 | cons x ys =>
   cases H with
   | nil=>exact h.elim
   | cons B H1 =>
     simp only[AbsOk]at h;obtain⟨⟨l,n,rfl,h3,h4,h5⟩,h6⟩:=h;exact⟨x,ys,l,n,H1,rfl,rfl,h3,h4,h5,h6⟩
theorem row_bytes:∀{n:Nat} {l:List AV},All2 PrimA (qbZ n [Prim.int .u8]).flatten l→∃ls:List Nat,l=ls.map aB∧ls.length=n∧∀c∈ls,c<256
 | 0,[],_=>⟨[],rfl,rfl,by simp⟩
 | n+1,x::l,h=>by
   rw[rvZ,rcZ]at h;obtain⟨a,rfl,ha⟩:=h.1;obtain⟨ls,rfl,hl,h2⟩:=row_bytes (n:=n) (l:=l) h.2;have hb:=bounds_u8 ha
   refine ⟨a.toNat::ls,by simp[aB];omega,by simp[hl],fun c hc=>?_⟩
   rcases qwZ.1 hc with rfl | hc
   · omega
   · exact h2 c hc
 | 0,_::_,h=>h.elim
 | n+1,[],h=>by
   rw[rvZ,rcZ]at h;exact h.elim
end
section
open Go Go.Lib
attribute [-simp] drawOk_eq adraw qrun acode aops
noncomputable def slvΓ:Gam:=gams [(26,trueK_U6),(27,smadeS),(28,sfilesS),(31,dofS),(32,srunS),(40,dstepsS),(35,drestN),(41,dreaS),(29,livesS),(36,dlistS)]
theorem slvΓ_ok:GOk Pz slvΓ:=goks_cons swpWS0_sound (goks_cons smade_sound (goks_cons sfiles_sound (goks_cons dof_sound (goks_cons srun_sound (goks_cons dsteps_sound (goks_cons drestN_sound (goks_cons drea_sound (goks_cons lives_sound (goks_cons dlist_sound goks_nil)))))))))
theorem sw_files(l:List Nm):(∀e∈swFiles l,mayF e.1∧e.2.length≤9)∧((swFiles l).map Prod.fst).Nodup∧(swFiles l).length≤30:=by
 obtain⟨h1,h2⟩:=swOut_ok l (min l.length 30);have h3:=swOut_len l (min l.length 30)
 exact⟨h1,h2,by unfold swFiles;omega⟩
theorem flA_cell2(l:List (List UInt8×List UInt8))(k:Nat)(h:k<l.length):(∀h',(flA l)[k*2+1]'h'=.str l[k].2)∧(flA l)[k*2+1]?=some (.str l[k].2):=by
 have e:(flA l)[k*2+1]?=some (.str l[k].2):=by
   have:=flA_get l k h
   have h2:(((flA l).drop (k*2)).take 2)[1]?=some (.str l[k].2):=by rw[this];rfl
   rw[r4Z,if_pos (by decide),r5Z]at h2
   exact h2
 exact⟨fun h'=>(q1Z.1 e).2,e⟩
theorem leaves_ct(f:Nat)(hf:f<256)(ls:List Nat)(hl0:∀c∈ls,c<256)(hn0:ls.length≤9223372036854775807)(l:List Nm)(hl:nmOk l)(hll:l.length≤9223372036854775807)(nums:List Int)(hnums:∀x∈nums,0≤x∧x≤65535)(hMl:nums.length≤9223372036854775807) :
   ∃H',Ct Pz 6 [.agg [.int .u8 f,.sl 0 0 ls.length 1 false,.sl 1 0 l.length 3 false],.sl 2 0 nums.length 1 false] [.cells false (ls.map aB),.cells false (nmA l),.cells false (numA nums)] (.bool true) H':=by
 have hΓ:=slvΓ_ok;refine ⟨[.cells false (ls.map aB),.cells false (nmA l),.cells false (numA nums)],ct_of_sim Tryz.func6 rfl ?_⟩;simp only[Tryz.ntmps6,q7Z,q8Z,Nat.reduceAdd,Nat.reduceSub,qbZ,q9Z,qaZ];obtain⟨M,hM⟩:∃M,nums.length=M:=⟨_,rfl⟩;rw[hM]at hMl ⊢
 obtain⟨J,hJ⟩:∃J:Nat,min (M:Int) 70=J:=⟨min M 70,by omega⟩
 have hJM:J≤M:=by omega
 have hJMI:(J:Int)≤M:=by omega
 have hJ0:(0:Int)≤J:=by omega
 have hn1':(∀x∈nums,0≤x∧x≤65535)=True:=by simpa using hnums
 have a0:(∀x∈ls,x<256)=True:=by simpa using hl0
 have t0:(ls.map aB).take ls.length=ls.map aB:=q6Z (by simp)
 have t1:(nmA l).take (l.length*3)=nmA l:=q6Z (by simp)
 have hfI:(f:Int)<256:=by omega
 obtain⟨F1,F2,F3⟩:=sw_files l
 have hseg:((sdM f ls).segs).length≤6:=by simp[sdM];omega
 obtain⟨F,hF⟩:∃F,swFiles l=F:=⟨_,rfl⟩;rw[hF]at F1 F2 F3;obtain⟨X,hX⟩:∃X,sdM f ls=X:=⟨_,rfl⟩;rw[hX]at hseg
 have hshort:shortF F:=fun e he=>by have:=(F1 e he).1.2;omega
 have hF6:F.length≤1000000:=by omega
 obtain⟨d,e1,e2,d1,n,e3,e4,e5,e6,e7,e8,e9,e10⟩:=leaves_law X F F1 F2 F3 (nums.take J)
 have k0:d.ok 200000 1000000000000:=DS.ok_mono e2 (by omega) (by omega)
 have k1:d1.ok 200000 1000000000000:=DS.ok_mono e5 (by omega) (by omega)
 have s1:d1.small:=DS.ok_mono e5 (by omega) (by omega)
 have s2:(d1.restart (nums.take J)).small:=DS.ok_mono (DS.ok_restart e5 (nums.take J)) (by omega) (by omega)
 obtain⟨d2,hd2⟩:∃d2,d1.restart (nums.take J)=d2:=⟨_,rfl⟩;rw[hd2]at e8 e10 s2;obtain⟨N,hN⟩:∃N,F.length=N:=⟨_,rfl⟩;rw[hN]at e9 F3 hF6
 have hfr:∀rn:List Nat,AWs rn (numA nums) (numA nums):=fun rn=>AWs_flat _ (flatsA_num _)
 have hA0:∀rn:List Nat,AWs rn (ls.map aB) (ls.map aB):=fun rn=>AWs.refl _ _ (frees_aB ls)
 have hA1:∀rn:List Nat,AWs rn (nmA l) (nmA l):=fun rn=>AWs.refl _ _ (frees_nmA l)
 have hA2:∀rn:List Nat,AWs rn (flA F) (flA F):=fun rn=>AWs.refl _ _ (frees_flA F)
 obtain⟨v,g,nx,sg⟩:=X;simp only at hseg
 have hsg12:sg.length≤1000000000000:=by omega
 have hA3:∀rn:List Nat,AWs rn (sgsA sg) (sgsA sg):=fun rn=>AWs.refl _ _ (by simp)
 have hS4:∀k,shAs k (flA F)=flA F:=fun k=>shAs_free k _ (frees_flA F)
 have hB0:∀m,belows m (ls.map aB)=true:=fun m=>belows_free m _ (frees_aB ls)
 have hB1:∀m,belows m (nmA l)=true:=fun m=>belows_free m _ (frees_nmA l)
 have hB2:∀m,belows m (numA nums)=true:=fun m=>belows_flats m _ (flatsA_num _)
 have hB3:∀m,belows m (flA F)=true:=fun m=>belows_free m _ (frees_flA F)
 have fin:∀(T:AHeap),Weak 3 [.bool true] (.cells false (ls.map aB)::.cells false (nmA l)::.cells false (numA nums)::T) [.bool true] [.cells false (ls.map aB),.cells false (nmA l),.cells false (numA nums)]:=fun T =>
   Weak.mk' [0,1,2] (by decide) (by decide) (by simp) (by simp[AWb,AWg,hA0,hA1,hfr])
 refine Sim.step hmix hΓ (n:=0) (by simp;exact⟨rfl,rfl⟩) (by simp) ?_
 refine Sim.step hmix hΓ (n:=0) (by simp[slvΓ,trueK_U6];exact⟨rfl,rfl⟩) (by simp) ?_
 refine Sim.seq (Sim.draw hmix (by simp) ?_)
 refine SimR.many hΓ 7 (by simp[stageOps];rfl) (by omega) (by kernel_rfl) (by simp +decide [slvΓ,smadeS,sfilesS,readNewS,rowNs,rowNm,t0,t1,a0,hn0,hfI,hl,hll,hX,hF,mfA,shA,shB,hS4,scA,hB0,hB1,hB2,hB3];first | exact⟨rfl,rfl⟩ | exact⟨by kernel_rfl,rfl,rfl⟩) ?_
 refine SimR.done rfl ?_;dsimp only
 refine Sim.step hmix hΓ (n:=0) (by simp +decide [slvΓ,dofS,e1,hshort,hF6,hN];exact⟨rfl,rfl⟩) (by simp) ?_
 refine Sim.step hmix hΓ (n:=0) (by simp +decide;exact⟨rfl,rfl⟩) (by simp) ?_
 refine Sim.step hmix hΓ (n:=0) (by simp +decide [slvΓ,srunS,k0,e3,hsg12];exact⟨rfl,rfl⟩) (by simp) ?_
 refine Sim.step hmix hΓ (n:=0) (by simp +decide [slvΓ,dstepsS];exact⟨rfl,rfl⟩) (by simp) ?_
 refine Sim.step hmix hΓ (n:=0) (by simp +decide [slvΓ,srunS,k1,e6,hsg12];exact⟨rfl,rfl⟩) (by simp) ?_
 refine Sim.seq (Sim.mono (Q:=fun e' F' H'=>e'=.normal∧Weak 3 F' H' ([.top,.sl 2 0 M 1 false,.top,.top,.top,.ptr 5 0,.sl 4 0 N 2 false,.ptr 6 0,.int .i64 n]++qbZ 129 .top)
   [.cells false (ls.map aB),.cells false (nmA l),.cells false (numA nums),.cells true (sgsA sg),.cells true (flA F),.cells true [.int .i64 v,.int .i64 g,.int .i64 nx,.sl 3 0 sg.length 3 false],.obj true d1.blks]) ?_ ?_)
 · by_cases hn0':n=0
   · subst hn0'
     rw[if_pos rfl]at e7
     refine Sim.exec hmix hΓ (n:=0) (by simp +decide [slvΓ,dstepsS,e7];exact⟨rfl,rfl,rfl⟩) (by simp) ?_
     exact⟨rfl,Weak.mk' [0,1,2,4,5,6,7] (by decide) (by decide) (by simp) (by simp[AWb,AWg,AW,hA0,hA1,hA2,hA3,hfr])⟩
   · rw[if_neg hn0']at e7
     have n1:((n:Int)==0)=false:=by rw[beq_eq_false_iff_ne];omega
     have n2:(0:Int)<n:=by omega
     have n3:¬(n:Int)=0:=by omega
     have n4:IntKind.i64.wrap ((n:Int)+1)=n+1:=wr_i64 (by omega) (by omega)
     have n5:0<n:=by omega
     refine Sim.exec hmix hΓ (n:=0) (by simp +decide [slvΓ,dstepsS,e7,n1,n2,n3,n4,n5,hn0'];exact⟨rfl,rfl,rfl⟩) (by simp) ?_
     exact⟨rfl,Weak.mk' [0,1,2,4,5,6,7] (by decide) (by decide) (by simp) (by simp[AWb,AWg,AW,hA0,hA1,hA2,hA3,hfr])⟩
 rintro _ F6 H6 hl6 ⟨rfl,hw6⟩;refine Sim.weak hw6 hl6 ?_;clear hw6 hl6 F6 H6;dsimp only[qbZ,q9Z,qaZ]
 refine Sim.step hmix hΓ (n:=0) (by simp +decide [-minA,minA_min,slvΓ,drestN,drest0S,drestS,rowArg,numsOf_at,s1,hd2,hJ,hM,hJM,hJMI,hJ0,hMl,hn1'];exact⟨rfl,rfl⟩) (by simp) ?_
 refine Sim.step hmix hΓ (n:=0) (by simp +decide;exact⟨rfl,rfl⟩) (by simp) ?_
 refine Sim.seq (Sim.step hmix hΓ (n:=0) (by simp +decide;exact⟨rfl,rfl⟩) (by simp) ?_)
 obtain⟨p,hp⟩:∃p:List UInt8×List UInt8→Bool,p=fun e=>lives ⟨v,g,nx,sg⟩ e.1:=⟨_,rfl⟩
 have hpe:∀e,p e=lives ⟨v,g,nx,sg⟩ e.1:=fun e=>by rw[hp]
 rw[←hp]at e9 e10
 have hstep:=fun i (hi:i<F.length)=>filter_step p F i hi
 have hfull:((F.take N).filter p).length=(F.filter p).length:=by rw[←hN,List.take_length]
 have hle:∀i,((F.take i).filter p).length≤i:=fun i=>Nat.le_trans (List.length_filter_le _ _) (by rw[qjZ];omega)
 obtain⟨C,hC⟩:∃C:Nat→Nat,∀i,C i=((F.take i).filter p).length:=⟨_,fun _=>rfl⟩
 have hC0:C 0=0:=by rw[hC];rfl
 have h0:(sgsA sg).take (sg.length*3)=sgsA sg:=q6Z (by simp)
 refine Sim.block (Sim.loopW (fun i:Nat=>i≤N)
   (fun i=>[.top,.top,.top,.top,.top,.ptr 5 0,.sl 4 0 N 2 false,.ptr 6 0,.int .i64 n,.top,.top,.top,.top,.int .i64 (C i),.int .i64 i]++qbZ 123 .top)
   (fun _=>[.cells false (ls.map aB),.cells false (nmA l),.cells false (numA nums),.cells true (sgsA sg),.cells true (flA F),.cells true [.int .i64 v,.int .i64 g,.int .i64 nx,.sl 3 0 sg.length 3 false],.obj true d2.blks]) (fun i=>N-i) 0 (by simp) (qqZ _)
   (Weak.mk' [0,1,2,3,4,5,6] (by decide) (by decide) (by simp[hC0]) (by simp[AWb,AWg,AW,hA0,hA1,hA2,hA3,hfr])) fun i hi=>?_)
 by_cases hiN:i<N
 · have hiI:(i:Int)<N:=by omega
   have hiF:i<F.length:=by omega
   obtain⟨f1,f2⟩:=flA_cell F i hiF;obtain⟨f3,f4⟩:=flA_cell2 F i hiF;have he8:=e8 F[i] (r3Z hiF);have hCs:=hstep i hiF;rw[←hC,←hC,hpe]at hCs;have hCb:=hle i;rw[←hC]at hCb;have hnmb:=(F1 F[i] (r3Z hiF)).1.2;obtain⟨⟨nm,bs⟩,hFi⟩:∃e,F[i]=e:=⟨_,rfl⟩;rw[hFi]at f1 f2 f3 f4 he8 hCs hnmb;dsimp only at f1 f2 f3 f4 he8 hCs hnmb
   have hnm6:nm.length≤1000000:=by omega
   have i1:i*2<N*2:=by omega
   have i2:i*2+2≤N*2:=by omega
   have i3:i*2<(flA F).length:=by rw[flA_length];omega
   have i4:i*2+1<N*2:=by omega
   have i5:i*2+1<(flA F).length:=by rw[flA_length];omega
   have i6:i*2+2≤F.length*2:=by omega
   have i7:i*2+1<F.length*2:=by omega
   have i8:i*2<F.length*2:=by omega
   have y1:IntKind.i64.wrap ((i:Int)+1)=i+1:=wr_i64 (by omega) (by omega)
   have y2:IntKind.i64.wrap ((C i:Int)+1)=C i+1:=wr_i64 (by omega) (by omega)
   refine Sim.step hmix hΓ (n:=0) (by simp[hiI,hiN];exact⟨rfl,rfl⟩) (by simp) ?_
   refine Sim.seq (Sim.block ?_);obtain⟨lv,hlv⟩:∃b,lives ⟨v,g,nx,sg⟩ nm=b:=⟨_,rfl⟩;rw[hlv]at he8 hCs
   cases lv with
   | true =>
     rw[if_pos rfl]at he8 hCs
     refine Sim.step hmix hΓ (n:=0) (by simp +decide [slvΓ,dreaS,s2,he8,hiN,f1,f2,i1,i2,i3,i6,i8];exact⟨rfl,rfl⟩) (by simp) ?_
     refine Sim.step hmix hΓ (n:=0) (by simp +decide [slvΓ,livesS,readS,rowSgs,h0,hsg12,hnm6,hlv,hiN,f1,f2,i1,i2,i3,i6,i8];first | exact⟨rfl,rfl⟩ | exact⟨by kernel_rfl,rfl,rfl⟩) (by simp) ?_
     refine Sim.step hmix hΓ (n:=0) (by simp +decide [hiN,f3,f4,i2,i4,i5,i6,i7];exact⟨rfl,rfl⟩) (by simp) ?_
     refine Sim.exec hmix hΓ (n:=0) (by simp +decide [y2];exact⟨rfl,rfl,rfl⟩) (by simp) ?_
     dsimp only
     refine Sim.exec hmix hΓ (n:=0) (by simp[y1];exact⟨rfl,rfl,rfl⟩) (by simp) ?_
     exact⟨i+1,by omega,Weak.mk' [0,1,2,3,4,5,6] (by decide) (by decide) (by simp[hCs]) (by simp[AWb,AWg,AW,hA0,hA1,hA2,hA3,hfr]),by omega⟩
   | false =>
     rw[if_neg (by decide)]at he8 hCs
     refine Sim.step hmix hΓ (n:=0) (by simp +decide [slvΓ,dreaS,s2,he8,hiN,f1,f2,i1,i2,i3,i6,i8];exact⟨rfl,rfl⟩) (by simp) ?_
     refine Sim.step hmix hΓ (n:=0) (by simp +decide [slvΓ,livesS,readS,rowSgs,h0,hsg12,hnm6,hlv,hiN,f1,f2,i1,i2,i3,i6,i8];first | exact⟨rfl,rfl⟩ | exact⟨by kernel_rfl,rfl,rfl⟩) (by simp) ?_
     refine Sim.step hmix hΓ (n:=0) (by simp +decide [hiN,f3,f4,i2,i4,i5,i6,i7];exact⟨rfl,rfl⟩) (by simp) ?_
     refine Sim.exec hmix hΓ (n:=0) (by simp +decide [y2];exact⟨rfl,rfl,rfl⟩) (by simp) ?_
     dsimp only
     refine Sim.exec hmix hΓ (n:=0) (by simp[y1];exact⟨rfl,rfl,rfl⟩) (by simp) ?_
     exact⟨i+1,by omega,Weak.mk' [0,1,2,3,4,5,6] (by decide) (by decide) (by simp[hCs]) (by simp[AWb,AWg,AW,hA0,hA1,hA2,hA3,hfr]),by omega⟩
 · have hie:i=N:=by omega
   subst hie
   have hCN:C i=(F.filter p).length:=by rw[hC,hfull]
   rw[←hCN]at e9 e10;obtain⟨c,hc⟩:∃c,C i=c:=⟨_,rfl⟩;rw[hc]at e9 e10 ⊢
   have y3:IntKind.i64.wrap ((c:Int)+(n:Int))=(i:Int):=by rw[wr_i64 (by omega) (by omega)];omega
   refine Sim.exec hmix hΓ (n:=0) (by simp;exact⟨rfl,rfl,rfl⟩) (by simp) ?_
   dsimp only;rw[if_pos rfl]
   refine Sim.exec hmix hΓ (n:=0) (by simp +decide [slvΓ,dlistS,s2,y3,e10];exact⟨rfl,rfl,rfl⟩) (by simp) ?_
   exact⟨.inr rfl,_,by simp[Tryz.f6] <;> rfl,fin _⟩
theorem row_nms:∀{n:Nat} {l:List AV},All2 PrimA (qbZ n [Prim.int .u8,.int .u8,.str]).flatten l→∃xs:List Nm,l=nmA xs∧xs.length=n∧nmOk xs
 | 0,[],_=>⟨[],rfl,rfl,fun x hx=>by simp at hx⟩
 | n+1,l,h=>by
   rw[rvZ,rcZ]at h
   match l,h with
   | x::y::z::l,h =>
     obtain⟨⟨a,rfl,ha⟩,⟨b,rfl,hb⟩,⟨s,rfl,hs⟩,h⟩:=h;obtain⟨xs,rfl,h1,h2⟩:=row_nms (n:=n) (l:=l) h;have b1:=bounds_u8 ha;have b2:=bounds_u8 hb;unfold maxLen at hs
     refine ⟨(a.toNat,b.toNat,s)::xs,?_,by simp[h1],fun x hx=>?_⟩
     · simp only[nmA,List.flatMap_cons,q9Z,qaZ]
       rw[show ((a.toNat:Nat):Int)=a by omega,show ((b.toNat:Nat):Int)=b by omega]
     · rcases qwZ.1 hx with rfl | hx
       · exact⟨by dsimp only;omega,by dsimp only;omega,by dsimp only;omega⟩
       · exact h2 x hx
 | 0,_::_,h=>h.elim
abbrev sd_ct:List CT:=[.one (.int .u8),.row [.int .u8],.row [.int .u8,.int .u8,.str]]
theorem row_sd{k:Nat}{ys:List AV}{H:AHeap}(h:AbsOk sd_ct k ys H):∃(f:Nat) (ls:List Nat) (l:List Nm) (x0 x1:AV),f<256∧(∀c∈ls,c<256)∧ls.length≤9223372036854775807∧nmOk l∧l.length≤9223372036854775807 ∧
   (ls.length=0∧x0=.nils∨x0=.slice k 0 ls.length 1 false)∧(l.length=0∧x1=.nils∨x1=.slice (k+1) 0 l.length 3 false)∧ys=[.int .u8 f,x0,x1]∧H=[.cells false (ls.map aB),.cells false (nmA l)]:=by
 obtain⟨x1,y1,rfl,⟨f,rfl,hf⟩,k1⟩:=absOk_one h;obtain⟨x2,y2,r0,n0,H0,rfl,rfl,hx0,hm0,hr0,k2⟩:=absOk_row_Eo k1;obtain⟨x3,y3,r1,n1,H1,rfl,rfl,hx1,hm1,hr1,k3⟩:=absOk_row_Eo k2;obtain⟨rfl,rfl⟩:=absOk_nil k3;obtain⟨ls,rfl,rfl,hls⟩:=row_bytes hr0;obtain⟨l,rfl,rfl,hl⟩:=row_nms hr1;have b1:=bounds_u8 hf;unfold maxLen at hm0 hm1
 exact⟨f.toNat,ls,l,x2,x3,by omega,hls,by omega,hl,by omega,hx0,hx1,by rw[show ((f.toNat:Nat):Int)=f by omega],rfl⟩
theorem sd_weak{k:Nat}{ls:List Nat}{l:List Nm}{x0 x1:AV}(h0:ls.length=0∧x0=.nils∨x0=.slice k 0 ls.length 1 false)(h1:l.length=0∧x1=.nils∨x1=.slice (k+1) 0 l.length 3 false)(rn:List Nat)(r0:rn[k]?=some k)(r1:rn[k+1]?=some (k+1)) :
   AW rn (.sl k 0 ls.length 1 false) x0∧AW rn (.sl (k+1) 0 l.length 3 false) x1:=by
 constructor
 · rcases h0 with⟨h,rfl⟩ | rfl
   · simp[AW,h]
   · simp[AW,r0]
 · rcases h1 with⟨h,rfl⟩ | rfl
   · simp[AW,h]
   · simp[AW,r1]
def sweepLeaves_shape:List AS:=[.flat true sd_ct,.flat false [.row [.int .u16]]]
theorem sweepLeaves_law:∀xs H,AbsArgs2 sweepLeaves_shape 0 xs H→∃H',Ct Pz 6 xs H (.bool true) H':=by
 intro xs H h0;obtain⟨z1,y1,H1,H2,rfl,k0,rfl,h1⟩:=absArgs2_agg h0;obtain⟨f,ls,l,x0,x1,c1,c2,c3,c4,c5,w0,w1,rfl,rfl⟩:=row_sd k0;obtain⟨y,zs,r,n,H2,rfl,rfl,hy,hm,hr,h3⟩:=absArgs2_row h1;obtain⟨nums,rfl,rfl,hok⟩:=row_u16s hr;obtain⟨rfl,rfl⟩:=absArgs2_nil h3;unfold maxLen at hm
 obtain⟨H',h⟩:=leaves_ct f c1 ls c2 c3 l c4 c5 nums hok (by omega)
 obtain⟨v0,v1⟩:=sd_weak w0 w1 [0,1,2] rfl rfl
 have v2:AW [0,1,2] (.sl 2 0 nums.length 1 false) y:=by
   rcases hy with⟨h,rfl⟩ | rfl
   · simp[AW,h]
   · simp[AW]
 have hfr:∀rn:List Nat,AWs rn (numA nums) (numA nums):=fun rn=>AWs_flat _ (flatsA_num _)
 have hA0:∀rn:List Nat,AWs rn (ls.map aB) (ls.map aB):=fun rn=>AWs.refl _ _ (frees_aB ls)
 have hA1:∀rn:List Nat,AWs rn (nmA l) (nmA l):=fun rn=>AWs.refl _ _ (frees_nmA l)
 refine ⟨H',ct_weak ?_ h⟩
 exact Weak.mk' [0,1,2] (by decide) rfl ⟨⟨⟨rfl,rfl⟩,v0,v1,trivial⟩,v2,trivial⟩ (by simp[AWb,AWg,hA0,hA1,hfr])
end
end Go.Proofs.YthafeihjlamhhaaGreatDoor
