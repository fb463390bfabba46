/- Parts of the proof of SweepLess: lemmas, each with its own conditions. -/
import Derived.Test.YtpmfecnajoojeaaGreatDoorY25
import Derived.Test.YtpmfecnajoojeaaGreatDoorY28
import Derived.Test.YtpmfecnajoojeaaGreatDoorY29
import Derived.Test.YtpmfecnajoojeaaGreatDoorY30
import Derived.Test.YtpmfecnajoojeaaGreatDoorY31
import Derived.Test.YtpmfecnajoojeaaGreatDoorY32
set_option maxHeartbeats 64000000
open List renaming getElem?_eq_getElem → q3Z, take_of_length_le → q6Z, length_cons → q7Z, length_nil → q8Z, cons_append → q9Z, nil_append → qaZ, replicate → qbZ, length_append → qdZ, length_take → qjZ, mem_cons → qwZ, getElem?_map → qzZ, getElem_mem → r3Z, length_map → r7Z, flatten_cons → rcZ, mem_map → reZ, replicate_succ → rvZ, getElem?_eq_none → s4Z, all_eq_true → s5Z
open Nat renaming zero_le → qqZ, zero_add → s8Z
open Bool renaming false_eq_true → qsZ
namespace Go.Proofs.YtpmfecnajoojeaaGreatDoor
open _root_.Go.Proofs.Tryz renaming prog → Pz
set_option maxRecDepth 100000
section
open Go
attribute [-simp] drawOk_eq adraw qrun acode aops
theorem absOk_row_Eo{el:List Prim}{ts:List CT}{k:Nat}{xs:List AV}{H:AHeap}(h:AbsOk (.row el::ts) k xs H) :
   ∃x ys l n H2,xs=x::ys∧H=.cells false l::H2∧(n=0∧x=.nils∨x=.slice k 0 n el.length false)∧n≤maxLen∧All2 PrimA (qbZ n el).flatten l∧AbsOk ts (k+1) ys H2:=by
 cases xs with
 | nil=>exact h.elim
 | cons x ys =>
   cases H with
   | nil=>exact h.elim
   | cons B H1 =>
     simp only[AbsOk]at h;obtain⟨⟨l,n,rfl,h3,h4,h5⟩,h6⟩:=h;exact⟨x,ys,l,n,H1,rfl,rfl,h3,h4,h5,h6⟩
theorem row_bytes:∀{n:Nat} {l:List AV},All2 PrimA (qbZ n [Prim.int .u8]).flatten l→∃ls:List Nat,l=ls.map aB∧ls.length=n∧∀c∈ls,c<256
 | 0,[],_=>⟨[],rfl,rfl,by simp⟩
 | n+1,x::l,h=>by
   rw[rvZ,rcZ]at h;obtain⟨a,rfl,ha⟩:=h.1;obtain⟨ls,rfl,hl,h2⟩:=row_bytes (n:=n) (l:=l) h.2;have hb:=bounds_u8 ha
   refine ⟨a.toNat::ls,by simp[aB];omega,by simp[hl],fun c hc=>?_⟩
   rcases qwZ.1 hc with rfl | hc
   · omega
   · exact h2 c hc
 | 0,_::_,h=>h.elim
 | n+1,[],h=>by
   rw[rvZ,rcZ]at h;exact h.elim
end
section
open Go Go.Lib
attribute [-simp] drawOk_eq adraw qrun acode aops
theorem sw_files(l:List Nm):(∀e∈swFiles l,mayF e.1∧e.2.length≤9)∧((swFiles l).map Prod.fst).Nodup∧(swFiles l).length≤30:=by
 obtain⟨h1,h2⟩:=swOut_ok l (min l.length 30);have h3:=swOut_len l (min l.length 30)
 exact⟨h1,h2,by unfold swFiles;omega⟩
theorem row_nms:∀{n:Nat} {l:List AV},All2 PrimA (qbZ n [Prim.int .u8,.int .u8,.str]).flatten l→∃xs:List Nm,l=nmA xs∧xs.length=n∧nmOk xs
 | 0,[],_=>⟨[],rfl,rfl,fun x hx=>by simp at hx⟩
 | n+1,l,h=>by
   rw[rvZ,rcZ]at h
   match l,h with
   | x::y::z::l,h =>
     obtain⟨⟨a,rfl,ha⟩,⟨b,rfl,hb⟩,⟨s,rfl,hs⟩,h⟩:=h;obtain⟨xs,rfl,h1,h2⟩:=row_nms (n:=n) (l:=l) h;have b1:=bounds_u8 ha;have b2:=bounds_u8 hb;unfold maxLen at hs
     refine ⟨(a.toNat,b.toNat,s)::xs,?_,by simp[h1],fun x hx=>?_⟩
     · simp only[nmA,List.flatMap_cons,q9Z,qaZ]
       rw[show ((a.toNat:Nat):Int)=a by omega,show ((b.toNat:Nat):Int)=b by omega]
     · rcases qwZ.1 hx with rfl | hx
       · exact⟨by dsimp only;omega,by dsimp only;omega,by dsimp only;omega⟩
       · exact h2 x hx
 | 0,_::_,h=>h.elim
abbrev sd_ct:List CT:=[.one (.int .u8),.row [.int .u8],.row [.int .u8,.int .u8,.str]]
theorem row_sd{k:Nat}{ys:List AV}{H:AHeap}(h:AbsOk sd_ct k ys H):∃(f:Nat) (ls:List Nat) (l:List Nm) (x0 x1:AV),f<256∧(∀c∈ls,c<256)∧ls.length≤9223372036854775807∧nmOk l∧l.length≤9223372036854775807 ∧
   (ls.length=0∧x0=.nils∨x0=.slice k 0 ls.length 1 false)∧(l.length=0∧x1=.nils∨x1=.slice (k+1) 0 l.length 3 false)∧ys=[.int .u8 f,x0,x1]∧H=[.cells false (ls.map aB),.cells false (nmA l)]:=by
 obtain⟨x1,y1,rfl,⟨f,rfl,hf⟩,k1⟩:=absOk_one h;obtain⟨x2,y2,r0,n0,H0,rfl,rfl,hx0,hm0,hr0,k2⟩:=absOk_row_Eo k1;obtain⟨x3,y3,r1,n1,H1,rfl,rfl,hx1,hm1,hr1,k3⟩:=absOk_row_Eo k2;obtain⟨rfl,rfl⟩:=absOk_nil k3;obtain⟨ls,rfl,rfl,hls⟩:=row_bytes hr0;obtain⟨l,rfl,rfl,hl⟩:=row_nms hr1;have b1:=bounds_u8 hf;unfold maxLen at hm0 hm1
 exact⟨f.toNat,ls,l,x2,x3,by omega,hls,by omega,hl,by omega,hx0,hx1,by rw[show ((f.toNat:Nat):Int)=f by omega],rfl⟩
theorem sd_weak{k:Nat}{ls:List Nat}{l:List Nm}{x0 x1:AV}(h0:ls.length=0∧x0=.nils∨x0=.slice k 0 ls.length 1 false)(h1:l.length=0∧x1=.nils∨x1=.slice (k+1) 0 l.length 3 false)(rn:List Nat)(r0:rn[k]? = some k)(r1:rn[k+1]? = some (k+1)) :
   AW rn (.sl k 0 ls.length 1 false) x0∧AW rn (.sl (k+1) 0 l.length 3 false) x1:=by
 constructor
 · rcases h0 with⟨h,rfl⟩ | rfl
   · simp[AW,h]
   · simp[AW,r0]
 · rcases h1 with⟨h,rfl⟩ | rfl
   · simp[AW,h]
   · simp[AW,r1]
def moreM(x y:Mf):Mf:=⟨x.v,min x.f y.f,x.n,x.segs++y.segs⟩
theorem lives_more(x y:Mf)(s:List UInt8)(h:lives x s=true):lives (moreM x y) s=true:=by
 unfold lives moreM at *;dsimp only;split
 · rfl
 rename_i h1;rw[if_neg h1]at h;split
 · rename_i h3
   rw[if_pos h3]at h;simp only[decide_eq_true_eq]at h ⊢;omega
 rename_i h3;rw[if_neg h3]at h;split
 · rename_i h4
   rw[if_pos h4]at h;rw[List.any_append,h,Bool.true_or]
 · rename_i h4
   rw[if_neg h4]at h;exact h
open Go.RowKit Go.Maps Go.Sort in
theorem orph_rises(m:Mf){l:List (List UInt8)}(hl:l.Nodup)(i:Nat)(h:i+1<(orph m l).length):¬(orph m l)[i+1]≤(orph m l)[i]:=by
 have hs:(orph m l).Pairwise fun a b=>leB a b=true:=sortU_sorted _
 have h1:=List.pairwise_iff_getElem.1 hs i (i+1) (by omega) h (by omega)
 have h2:=List.pairwise_iff_getElem.1 (orph_nd m hl) i (i+1) (by omega) h (by omega)
 simp only[leB,decide_eq_true_eq]at h1
 exact fun h3=>h2 (List.le_antisymm h1 h3)
open Go.RowKit Go.Maps Go.Sort in
theorem bl_ge{a b:List UInt8}(h:¬a≤b):Op.bytesLess a b=false:=by
 rw[bytesLess_eq];simp only[decide_eq_false_iff_not]
 exact fun hl=>h (Std.le_of_lt hl)
noncomputable def sleΓ:Gam:=gams [(7,trueK_U6),(8,smadeS),(9,sfilesS),(10,livesS),(11,orphS)]
theorem sleΓ_ok:GOk Pz sleΓ:=goks_cons swpWS0_sound (goks_cons smade_sound (goks_cons sfiles_sound (goks_cons lives_sound (goks_cons orph_sound goks_nil))))
theorem less_ct(f:Nat)(hf:f<256)(ls:List Nat)(hl0:∀c∈ls,c<256)(hn0:ls.length≤9223372036854775807)(l:List Nm)(hl:nmOk l)(hll:l.length≤9223372036854775807)
   (f':Nat) (hf':f'<256) (ls':List Nat) (hl0':∀c∈ls',c<256) (hn0':ls'.length≤9223372036854775807) (l':List Nm) (_hl':nmOk l') (_hll':l'.length≤9223372036854775807) :
   ∃H',Ct Pz 3 [.agg [.int .u8 f,.sl 0 0 ls.length 1 false,.sl 1 0 l.length 3 false],.agg [.int .u8 f',.sl 2 0 ls'.length 1 false,.sl 3 0 l'.length 3 false]] [.cells false (ls.map aB),.cells false (nmA l),.cells false (ls'.map aB),.cells false (nmA l')] (.bool true) H':=by
 have hΓ:=sleΓ_ok;refine ⟨[.cells false (ls.map aB),.cells false (nmA l),.cells false (ls'.map aB),.cells false (nmA l')],ct_of_sim Tryz.func3 rfl ?_⟩;simp only[Tryz.ntmps3,q7Z,q8Z,Nat.reduceAdd,Nat.reduceSub,qbZ,q9Z,qaZ]
 have a0:(∀x∈ls,x<256)=True:=by simpa using hl0
 have a0':(∀x∈ls',x<256)=True:=by simpa using hl0'
 have t0:(ls.map aB).take ls.length=ls.map aB:=q6Z (by simp)
 have t1:(nmA l).take (l.length*3)=nmA l:=q6Z (by simp)
 have t0':(ls'.map aB).take ls'.length=ls'.map aB:=q6Z (by simp)
 have t1':(nmA l').take (l'.length*3)=nmA l':=q6Z (by simp)
 have hfI:(f:Int)<256:=by omega
 have hfI':(f':Int)<256:=by omega
 obtain⟨F1,F2,F3⟩:=sw_files l
 have hseg:((sdM f ls).segs).length≤6:=by simp[sdM];omega
 have hseg':((sdM f' ls').segs).length≤6:=by simp[sdM];omega
 obtain⟨F,hF⟩:∃F,swFiles l=F:=⟨_,rfl⟩;rw[hF]at F1 F2 F3;obtain⟨X,hX⟩:∃X,sdM f ls=X:=⟨_,rfl⟩;obtain⟨Y,hY⟩:∃Y,sdM f' ls'=Y:=⟨_,rfl⟩;rw[hX]at hseg;rw[hY]at hseg';obtain⟨K,hK⟩:∃K,F.map Prod.fst=K:=⟨_,rfl⟩;rw[hK]at F2;obtain⟨Z,hZ⟩:∃Z,moreM X Y=Z:=⟨_,rfl⟩
 have hlm:=fun s=>lives_more X Y s
 rw[hZ]at hlm;have hless:=orph_less hlm K
 have hris:=fun i h=>orph_rises X F2 i h
 have hAl:(orph X K).length=(K.filter fun s=>!lives X s).length:=orph_count X (List.Perm.refl K)
 obtain⟨N,hN⟩:∃N,F.length=N:=⟨_,rfl⟩;rw[hN]at F3
 have hKN:K.length=N:=by rw[←hK,r7Z,hN]
 have hsm:smallT K:=⟨F2,by omega,fun s hs=>by
   rw[←hK]at hs;obtain⟨e,he,rfl⟩:=reZ.1 hs;have:=(F1 e he).1.2
   omega⟩
 have hA0:∀rn:List Nat,AWs rn (ls.map aB) (ls.map aB):=fun rn=>AWs.refl _ _ (frees_aB ls)
 have hA1:∀rn:List Nat,AWs rn (nmA l) (nmA l):=fun rn=>AWs.refl _ _ (frees_nmA l)
 have hA0':∀rn:List Nat,AWs rn (ls'.map aB) (ls'.map aB):=fun rn=>AWs.refl _ _ (frees_aB ls')
 have hA1':∀rn:List Nat,AWs rn (nmA l') (nmA l'):=fun rn=>AWs.refl _ _ (frees_nmA l')
 have hA2:∀rn:List Nat,AWs rn (flA F) (flA F):=fun rn=>AWs.refl _ _ (frees_flA F)
 obtain⟨v,g,nx,sg⟩:=X;obtain⟨v',g',nx',sg'⟩:=Y;obtain⟨v2,g2,nx2,sg2⟩:=Z;simp only at hseg hseg';simp only[moreM,Mf.mk.injEq]at hZ;obtain⟨hz1,hz2,hz3,hz4⟩:=hZ
 subst hz1;subst hz3
 have hsg2:sg2.length=sg.length+sg'.length:=by rw[←hz4,qdZ]
 have hsgA:sgsA sg++sgsA sg'=sgsA sg2:=by rw[←hz4];exact (sgsA_append sg sg').symm
 have hsg12:sg.length≤1000000000000:=by omega
 have hsg122:sg2.length≤1000000000000:=by omega
 have hA3:∀(s:List Sg) (rn:List Nat),AWs rn (sgsA s) (sgsA s):=fun s rn=>AWs.refl _ _ (by simp)
 have hS4:∀k,shAs k (flA F)=flA F:=fun k=>shAs_free k _ (frees_flA F)
 have hB0:∀m,belows m (ls.map aB)=true:=fun m=>belows_free m _ (frees_aB ls)
 have hB1:∀m,belows m (nmA l)=true:=fun m=>belows_free m _ (frees_nmA l)
 have hB0':∀m,belows m (ls'.map aB)=true:=fun m=>belows_free m _ (frees_aB ls')
 have hB1':∀m,belows m (nmA l')=true:=fun m=>belows_free m _ (frees_nmA l')
 have hB3:∀m,belows m (flA F)=true:=fun m=>belows_free m _ (frees_flA F)
 have fin:∀(T:AHeap),Weak 4 [.bool true] (.cells false (ls.map aB)::.cells false (nmA l)::.cells false (ls'.map aB)::.cells false (nmA l')::T) [.bool true] [.cells false (ls.map aB),.cells false (nmA l),.cells false (ls'.map aB),.cells false (nmA l')]:=fun T =>
   Weak.mk' [0,1,2,3] (by decide) (by decide) (by simp) (by simp[AWb,AWg,hA1,hA1'])
 refine Sim.step hmix hΓ (n:=0) (by simp;exact⟨rfl,rfl⟩) (by simp) ?_
 refine Sim.step hmix hΓ (n:=0) (by simp[sleΓ,trueK_U6];exact⟨rfl,rfl⟩) (by simp) ?_
 refine Sim.seq (Sim.draw hmix (by simp) ?_)
 refine SimR.many hΓ 7 (by simp[stageOps];rfl) (by omega) (by kernel_rfl) (by simp +decide [sleΓ,smadeS,sfilesS,readNewS,rowNs,rowNm,t0,t1,a0,hn0,hfI,hl,hll,hX,hF,mfA,shA,shB,hS4,scA,hB1,hB1'];first | exact⟨rfl,rfl⟩ | exact⟨by kernel_rfl,rfl,rfl⟩) ?_
 refine SimR.done rfl ?_;dsimp only
 refine Sim.step hmix hΓ (n:=0) (by simp +decide;exact⟨rfl,rfl⟩) (by simp) ?_
 refine Sim.seq (Sim.draw hmix (by simp) ?_)
 refine SimR.many hΓ 8 (by simp[stageOps];rfl) (by omega) (by kernel_rfl) (by simp +decide [-minA,minA_min,sleΓ,smadeS,readNewS,rowNs,rowNm,t0',t1',a0',hn0',hfI',hY,hz2,mfA,shA,shB,scA,hB1,hB1'];first | exact⟨rfl,rfl⟩ | exact⟨by kernel_rfl,rfl,rfl⟩) ?_
 refine SimR.done rfl ?_;dsimp only
 have c1:sg.length*24≤140737488355328:=by omega
 have c2:(sg.length+sg'.length)*24≤140737488355328:=by omega
 have c3:sg.length+sg'.length≤9223372036854775807:=by omega
 have c4:sg.length≤9223372036854775807:=by omega
 have c1':sg'.length*24≤140737488355328:=by omega
 have c4':sg'.length≤9223372036854775807:=by omega
 refine Sim.seq (Sim.mono (Q:=fun e' F' H'=>e'=.normal∧Weak 4 F' H' ([.top,.top,.top,.top,.top,.ptr 6 0,.sl 5 0 N 2 false,.ptr 7 0]++qbZ 138 .top)
   [.cells false (ls.map aB),.cells false (nmA l),.cells false (ls'.map aB),.cells false (nmA l'),.cells true (sgsA sg),.cells true (flA F),.cells true [.int .i64 v,.int .i64 g,.int .i64 nx,.sl 4 0 sg.length 3 false],.cells true [.int .i64 v,.int .i64 g2,.int .i64 nx,.sl 8 0 sg2.length 3 false],.cells true (sgsA sg2)]) ?_ ?_)
 · by_cases hs0:sg=[]
   · subst hs0
     simp only[q8Z,s8Z,sgsA,qaZ]at hsg2 hsgA ⊢;by_cases hs1:sg'=[]
     · subst hs1
       obtain rfl:sg2=[]:=by rw[←hz4];rfl
       refine Sim.draw hmix (by simp) ?_
       refine SimR.many hΓ 10 (by simp[stageOps];rfl) (by omega) (by kernel_rfl) (by simp +decide [sleΓ,smadeS,readNewS,rowNs,rowNm,t0',t1',a0',hn0',hfI',hY,mfA,shA,shB,scA,hB1,hB1',appendC,appendC0];first | exact⟨rfl,rfl⟩ | exact⟨by kernel_rfl,rfl,rfl⟩) ?_
       refine SimR.done rfl ?_
       exact⟨rfl,Weak.mk' [0,1,2,3,6,7,8,9,11] (by decide) (by decide) (by simp[AWs,AW,hN]) (by simp[AWb,AWg,AW,hA1,hA1',sgsA])⟩
     · have hs2:0<sg'.length:=List.length_pos_iff.2 hs1
       obtain rfl:sg2=sg':=by rw[←hz4];rfl
       refine Sim.draw hmix (by simp) ?_
       refine SimR.many hΓ 10 (by simp[stageOps];rfl) (by omega) (by kernel_rfl) (by simp +decide [sleΓ,smadeS,readNewS,rowNs,rowNm,t0',t1',a0',hn0',hfI',hY,mfA,shA,shB,scA,hB1,hB1',appendC,appendC0,hs2,c1',c4'];first | exact⟨rfl,rfl⟩ | exact⟨by kernel_rfl,rfl,rfl⟩) ?_
       refine SimR.done rfl ?_
       exact⟨rfl,Weak.mk' [0,1,2,3,6,7,8,9,13] (by decide) (by decide) (by simp[AWs,AW,hN]) (by simp[AWb,AWg,AW,hA1,hA1'])⟩
   · have hs1:0<sg.length:=List.length_pos_iff.2 hs0
     refine Sim.draw hmix (by simp) ?_
     refine SimR.many hΓ 7 (by simp[stageOps];rfl) (by omega) (by kernel_rfl) (by simp +decide [sleΓ,smadeS,readNewS,rowNs,rowNm,t0',t1',a0',hn0',hfI',hY,mfA,shA,shB,scA,hB1,hB1',appendC,appendC0,hs1,c1,c4];first | exact⟨rfl,rfl⟩ | exact⟨by kernel_rfl,rfl,rfl⟩) ?_
     refine SimR.one hΓ _ rfl (by kernel_rfl) (by simp +decide [c2,c3,hsgA];exact⟨rfl,rfl⟩) ?_
     refine SimR.many hΓ 10 (by simp[stageOps,blankOp];rfl) (by omega) (by kernel_rfl) (by simp +decide;first | exact⟨rfl,rfl⟩ | exact⟨by kernel_rfl,rfl,rfl⟩) ?_
     refine SimR.done rfl ?_
     exact⟨rfl,Weak.mk' [0,1,2,3,6,7,8,9,14] (by decide) (by decide) (by simp[AWs,AW,hN]) (by simp[AWb,AWg,AW,hA1,hA1',hsg2])⟩
 rintro _ F6 H6 hl6 ⟨rfl,hw6⟩;refine Sim.weak hw6 hl6 ?_;clear hw6 hl6 F6 H6;dsimp only[qbZ,q9Z,qaZ];obtain⟨BH,hBH⟩:∃B:AHeap,B=[.cells false (ls.map aB),.cells false (nmA l),.cells false (ls'.map aB),.cells false (nmA l'),.cells true (sgsA sg),.cells true (flA F),.cells true [.int .i64 v,.int .i64 g,.int .i64 nx,.sl 4 0 sg.length 3 false],.cells true [.int .i64 v,.int .i64 g2,.int .i64 nx,.sl 8 0 sg2.length 3 false],.cells true (sgsA sg2)]:=⟨_,rfl⟩
 have h0:(sgsA sg).take (sg.length*3)=sgsA sg:=q6Z (by simp)
 have h02:(sgsA sg2).take (sg2.length*3)=sgsA sg2:=q6Z (by simp)
 have hKe:∀i (h:i<F.length),F[i].1=K[i]'(by rw[←hK,r7Z];exact h):=fun i h=>by simp only[←hK,List.getElem_map]
 have hlm':∀s,lives ⟨v,g,nx,sg⟩ s=true→lives ⟨v,g2,nx,sg2⟩ s=true:=hlm;obtain⟨pX,hpX⟩:∃p,lives ⟨v,g,nx,sg⟩=p:=⟨_,rfl⟩;obtain⟨pZ,hpZ⟩:∃p,lives ⟨v,g2,nx,sg2⟩=p:=⟨_,rfl⟩;rw[hpX,hpZ]at hlm'
 refine Sim.step hmix hΓ (n:=0) (by simp +decide;exact⟨rfl,rfl⟩) (by simp) ?_
 refine Sim.seq (Sim.step hmix hΓ (n:=0) (by simp +decide;exact⟨rfl,rfl⟩) (by simp) ?_)
 refine Sim.block (Sim.loopW (fun i:Nat=>i≤N)
   (fun i=>[.top,.top,.top,.top,.top,.ptr 6 0,.sl 5 0 N 2 false,.ptr 7 0,.sl 9 0 i 1 false,.int .i64 i]++qbZ 136 .top)
   (fun i=>[.cells false (ls.map aB),.cells false (nmA l),.cells false (ls'.map aB),.cells false (nmA l'),.cells true (sgsA sg),.cells true (flA F),.cells true [.int .i64 v,.int .i64 g,.int .i64 nx,.sl 4 0 sg.length 3 false],.cells true [.int .i64 v,.int .i64 g2,.int .i64 nx,.sl 8 0 sg2.length 3 false],.cells true (sgsA sg2),.cells true ((K.take i).map .str)]) (fun i=>N-i) 0 (by simp) (qqZ _)
   (Weak.mk' [0,1,2,3,4,5,6,7,8,100] (by decide) (by decide) (by simp[AWs,AW]) (by simp[AWb,AWg,AW,hA1,hA1'])) fun i hi=>?_)
 by_cases hiN:i<N
 · have hiI:(i:Int)<N:=by omega
   have hiF:i<F.length:=by omega
   have hiK:i<K.length:=by omega
   obtain⟨f1,f2⟩:=flA_cell F i hiF;have hnmb:=(F1 F[i] (r3Z hiF)).1.2;have hKi:=hKe i hiF;obtain⟨nm,hFi⟩:∃e,F[i].1=e:=⟨_,rfl⟩;rw[hFi]at f1 f2 hnmb hKi
   have hnm6:nm.length≤1000000:=by omega
   have hR:(K.take i).map AV.str++[AV.str nm]=(K.map AV.str).take (i+1):=by rw[←List.map_take,List.take_succ_eq_append_getElem hiK,←hKi];simp
   have hRl:((K.take i).map AV.str).length=i:=by simp;omega
   have hAR:∀(j:Nat) (rn:List Nat),AWs rn ((K.map AV.str).take j) ((K.map AV.str).take j):=fun j rn=>by rw[←List.map_take];exact AWs.refl _ _ (frees_map _ _ fun _=>rfl)
   obtain⟨RW,hRW⟩:∃R,(K.take i).map AV.str=R:=⟨_,rfl⟩
   have hRc:RW.all isCell=true:=s5Z.2 fun v hv=>by rw[←hRW]at hv;obtain⟨s,_,rfl⟩:=reZ.1 hv;rfl
   rw[hRW]at hR hRl ⊢
   have i1:i*2<N*2:=by omega
   have i2:i*2+2≤N*2:=by omega
   have i3:i*2<(flA F).length:=by rw[flA_length];omega
   have i6:i*2+2≤F.length*2:=by omega
   have i8:i*2<F.length*2:=by omega
   have i9:(i+1)*16≤140737488355328:=by omega
   have i10:i+1≤9223372036854775807:=by omega
   have i11:i≤RW.length:=by omega
   have hRt:RW.take i=RW:=q6Z (by omega)
   have y1:IntKind.i64.wrap ((i:Int)+1)=i+1:=wr_i64 (by omega) (by omega)
   have hl1:lives ⟨v,g,nx,sg⟩ nm=pX nm:=by rw[hpX]
   have hl2:lives ⟨v,g2,nx,sg2⟩ nm=pZ nm:=by rw[hpZ]
   refine Sim.step hmix hΓ (n:=0) (by simp[hiI];exact⟨rfl,rfl⟩) (by simp) ?_
   refine Sim.seq (Sim.block ?_)
   refine Sim.step hmix hΓ (n:=0) (by simp +decide [hiN,f1,i8,i9,i10,hRl,hR,hRt];exact⟨rfl,rfl⟩) (by simp) ?_
   refine Sim.seq (Sim.draw hmix (by simp) ?_)
   cases hlx:pX nm with
   | false =>
     rw[hlx]at hl1
     refine SimR.many hΓ 17 (by simp[stageOps];rfl) (by omega) (by kernel_rfl) (by simp +decide [sleΓ,livesS,readS,rowSgs,h0,hsg12,hnm6,hl1,hiN,f1,i8];first | exact⟨rfl,rfl⟩ | exact⟨by kernel_rfl,rfl,rfl⟩) ?_
     refine SimR.done rfl ?_;dsimp only
     refine Sim.exec hmix hΓ (n:=0) (by simp +decide;exact⟨rfl,rfl,rfl⟩) (by simp) ?_
     dsimp only
     refine Sim.exec hmix hΓ (n:=0) (by simp[y1];exact⟨rfl,rfl,rfl⟩) (by simp) ?_
     exact⟨i+1,by omega,Weak.mk' [0,1,2,3,4,5,6,7,8,11] (by decide) (by decide) (by simp[AWs,AW]) (by simp[AWb,AWg,AW,hA1,hA1',hAR]),by omega⟩
   | true =>
     rw[hlx]at hl1;rw[hlm' nm hlx]at hl2
     refine SimR.many hΓ 17 (by simp[stageOps];rfl) (by omega) (by kernel_rfl) (by simp +decide [sleΓ,livesS,readS,rowSgs,h0,h02,hsg12,hsg122,hnm6,hl1,hl2,hiN,f1,i8];first | exact⟨rfl,rfl⟩ | exact⟨by kernel_rfl,rfl,rfl⟩) ?_
     refine SimR.done rfl ?_;dsimp only
     refine Sim.exec hmix hΓ (n:=0) (by simp +decide;exact⟨rfl,rfl,rfl⟩) (by simp) ?_
     dsimp only
     refine Sim.exec hmix hΓ (n:=0) (by simp[y1];exact⟨rfl,rfl,rfl⟩) (by simp) ?_
     exact⟨i+1,by omega,Weak.mk' [0,1,2,3,4,5,6,7,8,11] (by decide) (by decide) (by simp[AWs,AW]) (by simp[AWb,AWg,AW,hA1,hA1',hAR]),by omega⟩
 have hie:i=N:=by omega
 subst hie
 rw[q6Z (by omega)]
 have hAK:∀(rn:List Nat),AWs rn (K.map AV.str) (K.map AV.str):=fun rn=>AWs.refl _ _ (frees_map _ _ fun _=>rfl)
 have hBK:∀m,belows m (K.map AV.str)=true:=fun m=>belows_free m _ (frees_map _ _ fun _=>rfl)
 have hB4:∀(s:List Sg) m,belows m (sgsA s)=true:=fun s m=>belows_free m _ (by simp)
 have hKs:strsOf ((K.map AV.str).take i)=some K:=by rw[q6Z (by simp;omega)];exact strsOf_map K
 obtain⟨A,hA⟩:∃A,orph ⟨v,g,nx,sg⟩ K=A:=⟨_,rfl⟩;obtain⟨B,hB⟩:∃B,orph ⟨v,g2,nx,sg2⟩ K=B:=⟨_,rfl⟩
 have hRA:=fun k (h:k<(orph ⟨v,g,nx,sg⟩ K).length)=>orphR_get ⟨v,g,nx,sg⟩ K h
 have hRB:=fun k (h:k<(orph ⟨v,g2,nx,sg2⟩ K).length)=>orphR_get ⟨v,g2,nx,sg2⟩ K h
 have hndA:=orph_nd ⟨v,g,nx,sg⟩ F2
 have hmA:∀s∈orph ⟨v,g,nx,sg⟩ K,s∈K∧lives ⟨v,g,nx,sg⟩ s=false:=fun s hs=>by
   have:=(sortU_perm _).mem_iff.1 hs;simpa using this
 have frA:=frees_orphR ⟨v,g,nx,sg⟩ K;have frB:=frees_orphR ⟨v,g2,nx,sg2⟩ K
 have ORl1:(orph ⟨v,g,nx,sg⟩ K).length≤(orphR ⟨v,g,nx,sg⟩ K).length:=by simp[orphR]
 have ORl2:(orph ⟨v,g2,nx,sg2⟩ K).length≤(orphR ⟨v,g2,nx,sg2⟩ K).length:=by simp[orphR]
 obtain⟨RA,hRAe⟩:∃R,orphR ⟨v,g,nx,sg⟩ K=R:=⟨_,rfl⟩;obtain⟨RB,hRBe⟩:∃R,orphR ⟨v,g2,nx,sg2⟩ K=R:=⟨_,rfl⟩;simp only[hA,hB,hRAe,hRBe]at hless hris hAl hRA hRB hndA hmA frA frB ORl1 ORl2;rw[hpX]at hmA hAl;rw[hpZ]at hless
 have hshA:∀k,shAs k RA=RA:=fun k=>shAs_free k _ frA
 have hshB:∀k,shAs k RB=RB:=fun k=>shAs_free k _ frB
 have hARA:∀rn:List Nat,AWs rn RA RA:=fun rn=>AWs.refl _ _ frA
 have hARB:∀rn:List Nat,AWs rn RB RB:=fun rn=>AWs.refl _ _ frB
 obtain⟨LA,hLA⟩:∃n,A.length=n:=⟨_,rfl⟩;obtain⟨LB,hLB⟩:∃n,B.length=n:=⟨_,rfl⟩
 have hLAN:LA≤i:=by rw[←hLA,hAl];exact Nat.le_trans (List.length_filter_le _ _) (by omega)
 have hLBA:LB≤LA:=by rw[←hLB,←hLA,hless];exact List.length_filter_le _ _
 refine Sim.exec hmix hΓ (n:=0) (by simp;exact⟨rfl,rfl,rfl⟩) (by simp) ?_
 dsimp only;rw[if_pos rfl]
 refine Sim.seq (Sim.draw hmix (by simp) ?_)
 refine SimR.many hΓ 8 (by simp[stageOps];rfl) (by omega) (by kernel_rfl) (by simp +decide [sleΓ,orphS,readNewS,rowSgs,rowSt,h0,h02,hKs,hKN,hsm,hsg12,hsg122,hA,hB,hRAe,hRBe,hLA,hLB,shA,shB,hshA,hshB,scA,hB1,hB1'];first | exact⟨rfl,rfl⟩ | exact⟨by kernel_rfl,rfl,rfl⟩) ?_
 refine SimR.done rfl ?_;dsimp only
 have hAs:∀k,(h:k<A.length)→A[k]∈K∧pX A[k]=false:=fun k h=>hmA _ (r3Z h)
 have hK64:∀s∈K,s.length≤1000000:=hsm.2.2
 obtain⟨p,hp⟩:∃p:List UInt8→Bool,p=fun s=>!pZ s:=⟨_,rfl⟩
 rw[←hp]at hless
 have hstep:=fun i (hi:i<A.length)=>filter_step p A i hi
 have hat:=fun i (hi:i<A.length)=>filter_at p hndA i hi
 rw[←hless]at hat
 obtain⟨C,hC⟩:∃C:Nat→Nat,∀i,C i=((A.take i).filter p).length:=⟨_,fun _=>rfl⟩
 have hC0:C 0=0:=by rw[hC];rfl
 have hCn:C LA=LB:=by rw[hC,←hLA,List.take_length,←hless,hLB]
 have hCle:∀i,C i≤i:=fun i=>by rw[hC];exact Nat.le_trans (List.length_filter_le _ _) (by rw[qjZ];omega)
 have hCB:∀i,C i≤LB:=fun i=>by rw[hC,←hLB,hless];exact ((List.take_sublist i A).filter p).length_le
 refine Sim.step hmix hΓ (n:=0) (by simp +decide;exact⟨rfl,rfl⟩) (by simp) ?_
 refine Sim.seq (Sim.step hmix hΓ (n:=0) (by simp +decide;exact⟨rfl,rfl⟩) (by simp) ?_)
 refine Sim.block (Sim.loopW (fun j:Nat=>j≤LA)
   (fun j=>[.top,.top,.top,.top,.top,.ptr 6 0,.top,.top,.sl 9 0 i 1 false,.top,.sl 10 0 LA 1 false,.sl 11 0 LB 1 false,.int .i64 (C j),.int .i64 j]++qbZ 132 .top)
   (fun _=>[.cells false (ls.map aB),.cells false (nmA l),.cells false (ls'.map aB),.cells false (nmA l'),.cells true (sgsA sg),.cells true (flA F),.cells true [.int .i64 v,.int .i64 g,.int .i64 nx,.sl 4 0 sg.length 3 false],.cells true [.int .i64 v,.int .i64 g2,.int .i64 nx,.sl 8 0 sg2.length 3 false],.cells true (sgsA sg2),.cells true (K.map .str),.cells true RA,.cells true RB]) (fun j=>LA-j) 0 (by simp) (qqZ _)
   (Weak.mk' [0,1,2,3,4,5,6,7,8,9,10,11] (by decide) (by decide) (by simp[AWs,AW,hC0]) (by simp[AWb,AWg,AW,hA1,hA1',hARA,hARB])) fun j hj=>?_)
 by_cases hjL:j<LA
 · have hjA:j<A.length:=by omega
   have hjI:(j:Int)<LA:=by omega
   have g1:=hRA j hjA;have g2':=hAs j hjA;have g3:=hK64 _ g2'.1;have g4:=hstep j hjA;rw[←hC,←hC]at g4;have g5:=hat j hjA;rw[←hC]at g5;have g6:=hCB j;have g7:=hCle j
   have hr0:∀(k:Nat),j=k+1→∃t,(∀h,RA[k]'h=.str t)∧(Op.bytesLess A[j] t=false)∧¬A[j]=t:=fun k hk=>by
     subst hk
     have hk:k<A.length:=by omega
     refine ⟨A[k],hRA k hk,?_,?_⟩
     · exact bl_ge (hris k hjA)
     · exact fun h=>hris k hjA (by rw[h];exact List.le_refl _)
   obtain⟨s,hs⟩:∃s,A[j]=s:=⟨_,rfl⟩;rw[hs]at g1 g2' g3 g4 g5 hr0;obtain⟨_,g2'⟩:=g2'
   have hl1:lives ⟨v,g,nx,sg⟩ s=false:=by rw[hpX];exact g2'
   obtain⟨c,hc⟩:∃c,C j=c:=⟨_,rfl⟩;rw[hc]at g4 g5 g6 g7 ⊢
   have j1:j<RA.length:=by omega
   have y1:IntKind.i64.wrap ((j:Int)+1)=j+1:=wr_i64 (by omega) (by omega)
   have y2:IntKind.i64.wrap ((c:Int)+1)=c+1:=wr_i64 (by omega) (by omega)
   refine Sim.step hmix hΓ (n:=0) (by simp[hjI];exact⟨rfl,rfl⟩) (by simp) ?_
   refine Sim.seq (Sim.block ?_)
   refine Sim.seq (Sim.mono (Q:=fun e' F' H'=>e'=.normal∧LessF ([.top,.top,.top,.top,.top,.ptr 6 0,.top,.top,.sl 9 0 i 1 false,.top,.sl 10 0 LA 1 false,.sl 11 0 LB 1 false,.int .i64 c,.int .i64 j]++qbZ 132 .top) F'∧H'=[.cells false (ls.map aB),.cells false (nmA l),.cells false (ls'.map aB),.cells false (nmA l'),.cells true (sgsA sg),.cells true (flA F),.cells true [.int .i64 v,.int .i64 g,.int .i64 nx,.sl 4 0 sg.length 3 false],.cells true [.int .i64 v,.int .i64 g2,.int .i64 nx,.sl 8 0 sg2.length 3 false],.cells true (sgsA sg2),.cells true (K.map .str),.cells true RA,.cells true RB]) ?_ ?_)
   · refine Sim.seq (Sim.draw hmix (by simp) ?_)
     rcases Nat.eq_zero_or_pos j with hj0 | hj0
     · subst hj0
       refine SimR.many hΓ 22 (by simp[stageOps];rfl) (by omega) (by kernel_rfl) (by simp +decide [sleΓ,livesS,readS,rowSgs,h0,hsg12,g1,g3,hl1,hjL,j1];first | exact⟨rfl,rfl⟩ | exact⟨by kernel_rfl,rfl,rfl⟩) ?_
       refine SimR.done rfl ?_;dsimp only
       refine Sim.exec hmix hΓ (n:=0) (by simp +decide;exact⟨rfl,rfl,rfl⟩) (by simp) ?_
       exact⟨rfl,by simp,rfl⟩
     · obtain⟨k,rfl⟩:∃k,j=k+1:=⟨j-1,by omega⟩
       obtain⟨t,t1,t2,t3⟩:=hr0 k rfl
       have k1:k<RA.length:=by omega
       have k2:k<LA:=by omega
       have k3:(0:Int)<(k:Int)+1:=by omega
       have k4:IntKind.i64.wrap (k:Int)=k:=wr_i64 (by omega) (by omega)
       have k5:¬t=s:=fun h=>t3 h.symm
       have k6:(s==t)=false:=beq_eq_false_iff_ne.2 t3
       have k7:(k:Int)+1<LA:=by omega
       have k8:((k:Int)+1).toNat=k+1:=by omega
       have k9:(0:Int)≤(k:Int)+1:=by omega
       have k10:IntKind.i64.wrap ((k:Int)+1-1)=k:=by rw[show (k:Int)+1-1=k by omega];exact k4
       refine SimR.many hΓ 3 (by simp[stageOps];rfl) (by omega) (by kernel_rfl) (by simp +decide [k3];first | exact⟨rfl,rfl⟩ | exact⟨by kernel_rfl,rfl,rfl⟩) ?_
       refine SimR.many hΓ 15 (by simp[stageOps,blankOp];rfl) (by omega) (by kernel_rfl) (by simp +decide [g1,j1,t1,t2,k1,k2,k4,k6,k7,k8,k9];first | exact⟨rfl,rfl⟩ | exact⟨by kernel_rfl,rfl,rfl⟩) ?_
       refine SimR.many hΓ 22 (by simp[stageOps,blankOp];rfl) (by omega) (by kernel_rfl) (by simp +decide [sleΓ,livesS,readS,rowSgs,h0,hsg12,g1,g3,hl1,j1,k7,k8,k9];first | exact⟨rfl,rfl⟩ | exact⟨by kernel_rfl,rfl,rfl⟩) ?_
       refine SimR.done rfl ?_;dsimp only
       refine Sim.exec hmix hΓ (n:=0) (by simp +decide;exact⟨rfl,rfl,rfl⟩) (by simp) ?_
       exact⟨rfl,by simp,rfl⟩
   rintro e F' H' hlen1 ⟨rfl,hF',rfl⟩;dsimp only;refine Sim.less hF' ?_;clear hF' hlen1;simp only[q9Z,qaZ,qbZ]
   refine Sim.seq (Sim.draw hmix (by simp) ?_)
   by_cases hcB:c<LB
   · have hcBI:(c:Int)<LB:=by omega
     have hcl:c<B.length:=by omega
     have g8:=hRB c hcl;rw[q3Z hcl]at g5;obtain⟨u,hu⟩:∃u,B[c]=u:=⟨_,rfl⟩;rw[hu]at g8 g5
     have c1:c<RB.length:=by omega
     by_cases hus:u=s
     · subst hus
       rw[if_pos (g5.1 rfl)]at g4
       refine SimR.many hΓ 15 (by simp[stageOps];rfl) (by omega) (by kernel_rfl) (by simp +decide [g1,g8,hjL,hcBI,j1,c1];first | exact⟨rfl,rfl⟩ | exact⟨by kernel_rfl,rfl,rfl⟩) ?_
       refine SimR.done rfl ?_;dsimp only
       refine Sim.exec hmix hΓ (n:=0) (by simp +decide [y2];exact⟨rfl,rfl,rfl⟩) (by simp) ?_
       dsimp only
       refine Sim.exec hmix hΓ (n:=0) (by simp[y1];exact⟨rfl,rfl,rfl⟩) (by simp) ?_
       exact⟨j+1,by omega,Weak.mk' [0,1,2,3,4,5,6,7,8,9,10,11] (by decide) (by decide) (by simp[AWs,AW,g4]) (by simp[AWb,AWg,AW,hA1,hA1',hARA,hARB]),by omega⟩
     · have hus2:(u==s)=false:=beq_eq_false_iff_ne.2 hus
       rw[if_neg fun h=>hus (Option.some.inj (g5.2 h)),Nat.add_zero]at g4
       refine SimR.many hΓ 15 (by simp[stageOps];rfl) (by omega) (by kernel_rfl) (by simp +decide [g1,g8,hjL,hcBI,j1,c1,hus2];first | exact⟨rfl,rfl⟩ | exact⟨by kernel_rfl,rfl,rfl⟩) ?_
       refine SimR.done rfl ?_;dsimp only
       refine Sim.exec hmix hΓ (n:=0) (by simp +decide;exact⟨rfl,rfl,rfl⟩) (by simp) ?_
       dsimp only
       refine Sim.exec hmix hΓ (n:=0) (by simp[y1];exact⟨rfl,rfl,rfl⟩) (by simp) ?_
       exact⟨j+1,by omega,Weak.mk' [0,1,2,3,4,5,6,7,8,9,10,11] (by decide) (by decide) (by simp[AWs,AW,g4]) (by simp[AWb,AWg,AW,hA1,hA1',hARA,hARB]),by omega⟩
   · have hcBI:¬(c:Int)<LB:=by omega
     rw[s4Z (by omega)]at g5
     rw[if_neg (fun h=>by have:=g5.2 h;cases this),Nat.add_zero]at g4
     refine SimR.many hΓ 15 (by simp[stageOps];rfl) (by omega) (by kernel_rfl) (by simp +decide [hcBI];first | exact⟨rfl,rfl⟩ | exact⟨by kernel_rfl,rfl,rfl⟩) ?_
     refine SimR.done rfl ?_;dsimp only
     refine Sim.exec hmix hΓ (n:=0) (by simp +decide;exact⟨rfl,rfl,rfl⟩) (by simp) ?_
     dsimp only
     refine Sim.exec hmix hΓ (n:=0) (by simp[y1];exact⟨rfl,rfl,rfl⟩) (by simp) ?_
     exact⟨j+1,by omega,Weak.mk' [0,1,2,3,4,5,6,7,8,9,10,11] (by decide) (by decide) (by simp[AWs,AW,g4]) (by simp[AWb,AWg,AW,hA1,hA1',hARA,hARB]),by omega⟩
 have hje:j=LA:=by omega
 subst hje;rw[hCn]
 obtain⟨q,hq⟩:∃q:List UInt8→Bool,q=fun s=>!pX s:=⟨_,rfl⟩
 rw[←hq]at hAl
 have hstq:=fun i (hi:i<K.length)=>filter_step q K i hi
 obtain⟨D,hD⟩:∃D:Nat→Nat,∀i,D i=((K.take i).filter q).length:=⟨_,fun _=>rfl⟩
 have hD0:D 0=0:=by rw[hD];rfl
 have hDn:D i=j:=by rw[hD,←hKN,List.take_length,←hAl,hLA]
 have hDle:∀k,D k≤k:=fun k=>by rw[hD];exact Nat.le_trans (List.length_filter_le _ _) (by rw[qjZ];omega)
 refine Sim.exec hmix hΓ (n:=0) (by simp;exact⟨rfl,rfl,rfl⟩) (by simp) ?_
 dsimp only;rw[if_pos rfl]
 refine Sim.step hmix hΓ (n:=0) (by simp +decide;exact⟨rfl,rfl⟩) (by simp) ?_
 refine Sim.seq (Sim.step hmix hΓ (n:=0) (by simp +decide;exact⟨rfl,rfl⟩) (by simp) ?_)
 refine Sim.block (Sim.loopW (fun k:Nat=>k≤i)
   (fun k=>[.top,.top,.top,.top,.top,.ptr 6 0,.top,.top,.sl 9 0 i 1 false,.top,.sl 10 0 j 1 false,.sl 11 0 LB 1 false,.int .i64 LB,.top,.int .i64 (D k),.int .i64 k]++qbZ 130 .top)
   (fun _=>[.cells false (ls.map aB),.cells false (nmA l),.cells false (ls'.map aB),.cells false (nmA l'),.cells true (sgsA sg),.cells true (flA F),.cells true [.int .i64 v,.int .i64 g,.int .i64 nx,.sl 4 0 sg.length 3 false],.cells true [.int .i64 v,.int .i64 g2,.int .i64 nx,.sl 8 0 sg2.length 3 false],.cells true (sgsA sg2),.cells true (K.map .str),.cells true RA,.cells true RB]) (fun k=>i-k) 0 (by simp) (qqZ _)
   (Weak.mk' [0,1,2,3,4,5,6,7,8,9,10,11] (by decide) (by decide) (by simp[AWs,AW,hD0]) (by simp[AWb,AWg,AW,hA1,hA1',hARA,hARB])) fun k hk=>?_)
 by_cases hki:k<i
 · have hkK:k<K.length:=by omega
   have hkI:(k:Int)<i:=by omega
   have e1:∀h,(K.map AV.str)[k]'h=.str K[k]:=fun h=>List.getElem_map _
   have e3:=hK64 _ (r3Z hkK);have e4:=hstq k hkK;rw[←hD,←hD]at e4;have e5:=hDle k;obtain⟨s,hs⟩:∃s,K[k]=s:=⟨_,rfl⟩;rw[hs]at e1 e3 e4
   have e6:(K.map AV.str)[k]? = some (.str s):=by rw[qzZ,q3Z hkK,hs];rfl
   obtain⟨c,hc⟩:∃c,D k=c:=⟨_,rfl⟩;rw[hc]at e4 e5 ⊢
   have hqs:q s=!pX s:=by rw[hq]
   have hl1:lives ⟨v,g,nx,sg⟩ s=pX s:=by rw[hpX]
   have y1:IntKind.i64.wrap ((k:Int)+1)=k+1:=wr_i64 (by omega) (by omega)
   have y2:IntKind.i64.wrap ((c:Int)+1)=c+1:=wr_i64 (by omega) (by omega)
   have k1:k<(K.map AV.str).length:=by simp;omega
   refine Sim.step hmix hΓ (n:=0) (by simp[hkI];exact⟨rfl,rfl⟩) (by simp) ?_
   refine Sim.seq (Sim.block ?_)
   refine Sim.seq (Sim.draw hmix (by simp) ?_)
   cases hx:pX s with
   | true =>
     rw[hqs,hx]at e4;rw[hx]at hl1;simp only[Bool.not_true,qsZ,if_false,Nat.add_zero]at e4
     refine SimR.many hΓ 7 (by simp[stageOps];rfl) (by omega) (by kernel_rfl) (by simp +decide [sleΓ,livesS,readS,rowSgs,h0,hsg12,hKN,e1,e3,hl1,hki];first | exact⟨rfl,rfl⟩ | exact⟨by kernel_rfl,rfl,rfl⟩) ?_
     refine SimR.done rfl ?_;dsimp only
     refine Sim.exec hmix hΓ (n:=0) (by simp +decide;exact⟨rfl,rfl,rfl⟩) (by simp) ?_
     dsimp only
     refine Sim.exec hmix hΓ (n:=0) (by simp[y1];exact⟨rfl,rfl,rfl⟩) (by simp) ?_
     exact⟨k+1,by omega,Weak.mk' [0,1,2,3,4,5,6,7,8,9,10,11] (by decide) (by decide) (by simp[AWs,AW,e4]) (by simp[AWb,AWg,AW,hA1,hA1',hARA,hARB]),by omega⟩
   | false =>
     rw[hqs,hx]at e4;rw[hx]at hl1;simp only[Bool.not_false,if_true]at e4
     refine SimR.many hΓ 7 (by simp[stageOps];rfl) (by omega) (by kernel_rfl) (by simp +decide [sleΓ,livesS,readS,rowSgs,h0,hsg12,hKN,e1,e3,hl1,hki];first | exact⟨rfl,rfl⟩ | exact⟨by kernel_rfl,rfl,rfl⟩) ?_
     refine SimR.done rfl ?_;dsimp only
     refine Sim.exec hmix hΓ (n:=0) (by simp +decide [y2];exact⟨rfl,rfl,rfl⟩) (by simp) ?_
     dsimp only
     refine Sim.exec hmix hΓ (n:=0) (by simp[y1];exact⟨rfl,rfl,rfl⟩) (by simp) ?_
     exact⟨k+1,by omega,Weak.mk' [0,1,2,3,4,5,6,7,8,9,10,11] (by decide) (by decide) (by simp[AWs,AW,e4]) (by simp[AWb,AWg,AW,hA1,hA1',hARA,hARB]),by omega⟩
 have hke:k=i:=by omega
 subst hke;rw[hDn]
 refine Sim.exec hmix hΓ (n:=0) (by simp;exact⟨rfl,rfl,rfl⟩) (by simp) ?_
 dsimp only;rw[if_pos rfl]
 refine Sim.exec hmix hΓ (n:=0) (by simp +decide;exact⟨rfl,rfl,rfl⟩) (by simp) ?_
 exact⟨.inr rfl,_,by simp[Tryz.f3] <;> rfl,fin _⟩
end
section
open Go Go.Lib
def sweepLess_shape:List AS:=[.flat true sd_ct,.flat true sd_ct]
theorem sweepLess_law:∀xs H,AbsArgs2 sweepLess_shape 0 xs H→∃H',Ct Pz 3 xs H (.bool true) H':=by
 intro xs H h0;obtain⟨z1,y1,H1,H2,rfl,k0,rfl,h1⟩:=absArgs2_agg h0;obtain⟨f,ls,l,x0,x1,c1,c2,c3,c4,c5,w0,w1,rfl,rfl⟩:=row_sd k0;obtain⟨z2,y2,H3,H4,rfl,k1,rfl,h2⟩:=absArgs2_agg h1;obtain⟨f',ls',l',x2,x3,d1,d2,d3,d4,d5,w2,w3,rfl,rfl⟩:=row_sd k1;obtain⟨rfl,rfl⟩:=absArgs2_nil h2;obtain⟨H',h⟩:=less_ct f c1 ls c2 c3 l c4 c5 f' d1 ls' d2 d3 l' d4 d5;obtain⟨v0,v1⟩:=sd_weak w0 w1 [0,1,2,3] rfl rfl;obtain⟨v2,v3⟩:=sd_weak w2 w3 [0,1,2,3] rfl rfl
 have hA0:∀(ls:List Nat) (rn:List Nat),AWs rn (ls.map aB) (ls.map aB):=fun ls rn=>AWs.refl _ _ (frees_aB ls)
 have hA1:∀(l:List Nm) (rn:List Nat),AWs rn (nmA l) (nmA l):=fun l rn=>AWs.refl _ _ (frees_nmA l)
 refine ⟨H',ct_weak ?_ h⟩
 exact Weak.mk' [0,1,2,3] (by decide) rfl ⟨⟨⟨rfl,rfl⟩,v0,v1,trivial⟩,⟨⟨rfl,rfl⟩,v2,v3,trivial⟩,trivial⟩ (by simp[AWb,AWg,hA1])
end
end Go.Proofs.YtpmfecnajoojeaaGreatDoor
