/- Parts of the proof of ReplayBack: lemmas, each with its own conditions. -/
import Derived.Test.YthafeihjlamhhaaGreatDoorY39
import Derived.Test.YthafeihjlamhhaaGreatDoorY47
set_option maxHeartbeats 64000000
open List renaming take_of_length_le → q6Z, length_cons → q7Z, length_nil → q8Z, cons_append → q9Z, nil_append → qaZ, replicate → qbZ, length_append → qdZ, append_assoc → qeZ, length_take → qjZ, length_drop → qkZ, mem_cons → qwZ, mem_append → qxZ, append_nil → r2Z, getElem_mem → r3Z, not_mem_nil → rtZ, all_eq_true → s5Z, drop_append → sdZ
open Nat renaming zero_le → qqZ
open Int renaming tmod_eq_emod_of_nonneg → rrZ
namespace Go.Proofs.YthafeihjlamhhaaGreatDoor
open _root_.Go.Proofs.Tryz renaming prog → Pz
set_option maxRecDepth 100000
section
open Go
def zEZ:List FuncId:=[33,54,34,24,36,41,37,40,209,144,207,143,211,147,81,121,82,265,208,105,107,210,215,172,163,95,103,102,164,101,97,162,69,140,200,261,292,260,291,199,135,198,258,134,46,62,244,240,112,179,285,284,17,31,108,96,94,161,251,252,253,254,255,256,257,191,249,192,290,250,58,204,87,124,125,262,139,142,67,68,63,201,136,174,238,175,239,263,295,219,123,160,233,205,268,294,293,236,170,313,264,308,153]
def zFq:zU:=zAP fun | []=>some (.bool true) | _=>none
theorem zH3 {f : FuncId} {fn : Func} (hf : Tryz.prog.funcs[f]? = some fn) (hb : fn.body.isSome = true) (hn : (fn.name == "runtime.NumGoroutine") = false) (h : Ct Pz f [] [] (.bool true) []) : Sound Pz f zFq := by
 refine zo (zG hf hb hn) fun args v hv=>?_
 split at hv <;> cases hv
 exact⟨h,rfl,rfl⟩
def zEW:Gam:=zj [(169,zKB),(168,zDO),(167,zFH),(149,zPC),(126,zN7),(154,zJ2)]
theorem zPD:GOk Pz zEW:=zC zIg (zC zFM (zC zF2 (zC join_sound2 (zC zIj (zC zHj zE)))))
noncomputable abbrev zIN:Code:=zIM Tryz.f65
noncomputable abbrev zTH:List AV:=[]++qbZ (Tryz.f65.ntmps-0) zV
abbrev zUG:zA:=[]
noncomputable abbrev zMb:Code:=zDz 3 zIN
def zNv:List AV:=[.bool false,.slice 0 0 2 3 true,.slice 1 0 2 3 false,.int .i64 (15),.tuple [],.tuple [],.top]++qbZ 9 (.tuple [])++qbZ 10 .top++qbZ 99 (.tuple [])
def zN5:zA:=[.cells true [.str [97],.int .u32 (1),.bool false,.str [98],.int .u32 (0),.bool true],.cells true [.str [97],.int .u32 (1),.bool false,.str [98],.int .u32 (0),.bool true]]
theorem zSI:zKc 0 (zCN Pz (zA8 Pz zEW 400 zEZ 30) 400 true 3 zIN zTH zUG) zNv zN5=true:=by kernel_rfl
noncomputable abbrev zNA:Code:=zDz 4 zMb
def zML:List AV:=[.bool false,.slice 0 0 2 3 true,.slice 1 0 2 3 false,.int .i64 (15),.slice 2 1 2 1 false,.int .i64 (0),.top,.int .i64 (12),.nils,.int .i64 (0),.slice 3 0 2 2 true]++qbZ 5 (.tuple [])++qbZ 31 .top++qbZ 78 (.tuple [])
def zMt:zA:=[.cells true [.str [97],.int .u32 (1),.bool false,.str [98],.int .u32 (0),.bool true],.cells true [.str [97],.int .u32 (1),.bool false,.str [98],.int .u32 (0),.bool true],.cells true [.int .i64 (1),.int .i64 (2),.int .i64 (3)],.cells true [.str [119,97,108,45,49],.str [3,1,1,97,74,122,157,17],.str [119,97,108,45,50],.str [3,1,2,98,51,120,185,163,120,121]]]
theorem zRb:zKc 0 (zCN Pz (zA8 Pz zEW 400 zEZ 30) 400 true 4 zMb zNv zN5) zML zMt=true:=by kernel_rfl
noncomputable abbrev zMs:Code:=zDz 2 zNA
def zNd:List AV:=[.bool false,.slice 0 0 2 3 true,.slice 1 0 2 3 false,.int .i64 (15),.slice 2 1 2 1 false,.int .i64 (0),.top,.int .i64 (12),.nils,.int .i64 (0),.top,.slice 3 0 2 2 true,.ptr 6 0,.int .i64 (0),.tuple [],.tuple []]++qbZ 43 .top++qbZ 66 (.tuple [])
def zMv:zA:=[.cells true [.str [97],.int .u32 (1),.bool false,.str [98],.int .u32 (0),.bool true],.cells true [.str [97],.int .u32 (1),.bool false,.str [98],.int .u32 (0),.bool true],.cells true [.int .i64 (1),.int .i64 (2),.int .i64 (3)],.cells true [.str [119,97,108,45,49],.str [3,1,1,97,74,122,157,17,120,121],.str [119,97,108,45,50],.str [3,1,2,98,51,120,185,163]],.cells true [.int .i64 (1),.int .i64 (2)],.cells true [.str [97],.int .u32 (1),.bool false,.str [98],.int .u32 (2),.bool false],.cells true [.slice 4 0 2 1 false,.slice 5 0 2 3 false,.int .i64 (8),.bool true]]
theorem zR5:zKc 0 (zCN Pz (zA8 Pz zEW 400 zEZ 30) 400 true 2 zNA zML zMt) zNd zMv=true:=by kernel_rfl
noncomputable abbrev zT9:Code:=zDz 2 zMs
def zN1:List AV:=[.bool true]++qbZ 124 .top
def zMm:zA:=[]
theorem zR4:zKc 0 (zCN Pz (zA8 Pz zEW 400 zEZ 30) 400 true 2 zMs zNd zMv) zN1 zMm=true:=by kernel_rfl
theorem zPe:zSo Pz Tryz.f65.results.toList (zx Pz (zA8 Pz zEW 400 zEZ 30) 400 true zT9 zN1 zMm)=true:=by kernel_rfl
theorem zRe:Ct Pz 65 [] [] (.bool true) []:=by
 have hΓ:=zMZ hmix zPD 400 zEZ 30
 refine zI (c:=zIN) Tryz.func65 (by kernel_rfl) ?_
 refine Sim.kmanyM (n:=400) hmix hΓ 3 zSI (qqZ _) ?_;refine Sim.kmanyM (n:=400) hmix hΓ 4 zRb (qqZ _) ?_;refine Sim.kmanyM (n:=400) hmix hΓ 2 zR5 (qqZ _) ?_;refine Sim.kmanyM (n:=400) hmix hΓ 2 zR4 (qqZ _) ?_;exact Sim.kret (n:=400) hmix hΓ zPe
theorem zK6:Sound Pz 65 zFq:=zH3 Tryz.func65 rfl (by decide) zRe
end
section
open Go Go.Lib
attribute [-simp] zJ zT zk zL zm
noncomputable def zCQ:Gam:=zj [(65,zFq),(16,zCo),(17,zS6),(18,zQI),(19,zCc),(20,zHJ),(33,zT8)]
theorem zR6:GOk Pz zCQ:=zC zK6 (zC zJk (zC zOp (zC zOf (zC zJo (zC zLi (zC zPq zE))))))
noncomputable def zCm:Gam:=zj [(46,zCZ),(35,zGQ),(67,zIK),(68,zMV),(69,zHV)]
theorem zUO:GOk Pz zCm:=zC zJY (zC zK7 (zC zOs (zC zMI (zC zKw zE))))
def rbH(ds:List Dr)(ls:List Nat)(s0 s1 s2:List Int):zA:=drH ds++[.cells false (ls.map aB),.cells false (Z2 s0),.cells false (Z2 s1),.cells false (Z2 s2)]
theorem zVV(ds:List Dr)(hds:zSU ds)(hdn:∀d∈ds,0<=d.2.1/\d.2.1<4294967296)(hdl:ds.length<=9223372036854775807)(mo st:Nat)(hmo:mo<256)(hst:st<256)
   (ls:List Nat) (hls:∀c∈ls,c<256) (hll:ls.length<=9223372036854775807) (s0 s1 s2:List Int) (h0:∀x∈s0,0<=x/\x<=65535) (h1:∀x∈s1,0<=x/\x<=65535) (h2:∀x∈s2,0<=x/\x<=65535)
   (k0:s0.length<=9223372036854775807) (k1:s1.length<=9223372036854775807) (k2:s2.length<=9223372036854775807) :
   ∃H',Ct Pz 14 [.sl 0 0 ds.length 3 false,.agg [.int .u8 mo,.sl (ds.length+1) 0 ls.length 1 false,.int .u8 st,.sl (ds.length+2) 0 s0.length 1 false,.sl (ds.length+3) 0 s1.length 1 false,.sl (ds.length+4) 0 s2.length 1 false]]
     (rbH ds ls s0 s1 s2) (.bool true) H':=by
 have hΓ0:=zR6;have hΓ:=zUO;refine ⟨rbH ds ls s0 s1 s2,zI Tryz.func14 rfl ?_⟩;have hYl:=zAc ds;have hYf:=zFT ds;obtain⟨all,hall⟩:∃all,dEs (ds.take 60)=all:=⟨_,rfl⟩
 have hent:∀T,zCo [.sl 0 0 ds.length 3 false,.int .i64 60] (rbH ds ls s0 s1 s2++T)=some (.sl (rbH ds ls s0 s1 s2++T).length 0 all.length 3 false,rbH ds ls s0 s1 s2++T++[.cells true (zM all)],[]):=fun T=>by
   have:=zNV (args:=[.sl 0 0 ds.length 3 false,.int .i64 60]) (H:=rbH ds ls s0 s1 s2++T) (ds:=ds) (m:=60) ⟨rfl,⟨_,by unfold rbH;rw[qeZ]⟩,by decide,hds,hdl⟩
   rw[hall]at this;exact this
 have hokE:zTJ all:=by rw[<-hall];exact zXj hdn 60
 have hL60:all.length<=60:=by rw[<-hall];simp[dEs];omega
 obtain⟨N,hN⟩:∃N,ds.length+5=N:=⟨_,rfl⟩
 have hN0:0<N:=by omega
 have hXl:(rbH ds ls s0 s1 s2).length=N:=by unfold rbH;rw[qdZ,hYl];exact hN
 have hXid:∀rn:List Nat,(∀i,i<N->rn[i]? = some i)->∀B∈rbH ds ls s0 s1 s2,AWb rn B B:=fun rn hr B hB=>by
   unfold rbH at hB;rcases qxZ.1 hB with hB | hB
   · obtain⟨o,l,rfl,hl⟩:=hYf B hB
     exact⟨id,AWs.pre (fun i hi=>hr i (by omega)) _ hl⟩
   · simp only[qwZ,rtZ,or_false]at hB
     rcases hB with rfl | rfl | rfl | rfl
     · exact⟨id,AWs.refl _ _ (zCs ls)⟩
     · exact⟨id,zAB _ (zAE _)⟩
     · exact⟨id,zAB _ (zAE _)⟩
     · exact⟨id,zAB _ (zAE _)⟩
 obtain⟨b0,hb0⟩:∃b,ds.length+1=b:=⟨_,rfl⟩;obtain⟨b1,hb1⟩:∃b,ds.length+2=b:=⟨_,rfl⟩;obtain⟨b2,hb2⟩:∃b,ds.length+3=b:=⟨_,rfl⟩;obtain⟨b3,hb3⟩:∃b,ds.length+4=b:=⟨_,rfl⟩;have hbeh:=(zAt (drH ds) hYl).get
 have r0:∀T,(rbH ds ls s0 s1 s2++T)[b0]? = some (.cells false (ls.map aB)):=fun T=>by
   unfold rbH;rw[qeZ,<-hb0];exact hbeh _ 0
 have r1:∀T,(rbH ds ls s0 s1 s2++T)[b1]? = some (.cells false (Z2 s0)):=fun T=>by
   unfold rbH;rw[qeZ,<-hb1];exact hbeh _ 1
 have r2:∀T,(rbH ds ls s0 s1 s2++T)[b2]? = some (.cells false (Z2 s1)):=fun T=>by
   unfold rbH;rw[qeZ,<-hb2];exact hbeh _ 2
 have r3:∀T,(rbH ds ls s0 s1 s2++T)[b3]? = some (.cells false (Z2 s2)):=fun T=>by
   unfold rbH;rw[qeZ,<-hb3];exact hbeh _ 3
 have o0:∀ts:List Nat,(List.range N++ts)[b0]? = some b0:=fun ts=>zBv _ _ (by omega)
 have o1:∀ts:List Nat,(List.range N++ts)[b1]? = some b1:=fun ts=>zBv _ _ (by omega)
 have o2:∀ts:List Nat,(List.range N++ts)[b2]? = some b2:=fun ts=>zBv _ _ (by omega)
 have o3:∀ts:List Nat,(List.range N++ts)[b3]? = some b3:=fun ts=>zBv _ _ (by omega)
 have u0:∀k,b0<N+k:=fun k=>by omega
 have u1:∀k,b1<N+k:=fun k=>by omega
 have u2:∀k,b2<N+k:=fun k=>by omega
 have u3:∀k,b3<N+k:=fun k=>by omega
 have hXb:∀k,(rbH ds ls s0 s1 s2).all (zCR (N+k))=true:=fun k=>by
   rw[s5Z];intro B hB;unfold rbH at hB;rcases qxZ.1 hB with hB | hB
   · obtain⟨o,l,rfl,hl⟩:=hYf B hB
     simpa[zCR] using zAk (by omega) l hl
   · simp only[qwZ,rtZ,or_false]at hB
     rcases hB with rfl | rfl | rfl | rfl
     · exact ZE _ _ (zCs ls)
     · exact zBk _ _ (zAE _)
     · exact zBk _ _ (zAE _)
     · exact zBk _ _ (zAE _)
 rw[hb0,hb1,hb2,hb3];obtain⟨X,hX⟩:∃X,rbH ds ls s0 s1 s2=X:=⟨_,rfl⟩;rw[hX]at hXl hXid hXb hent r0 r1 r2 r3 ⊢
 have hXd:∀(T:zA) (k:Nat),(X++T).drop (N+k)=T.drop k:=fun T k=>by
   rw[sdZ,List.drop_of_length_le (by omega),qaZ];congr 1;omega
 clear hX hbeh hb0 hb1 hb2 hb3;have hBX:=zAt X hXl;have hXg:=hBX.get;have hXg0:=hBX.get0;have hXs:=hBX.set;have hXs0:=hBX.set0;obtain⟨L,hL⟩:∃L,all.length=L:=⟨_,rfl⟩;obtain⟨Tn,hT⟩:∃Tn,ls.length=Tn:=⟨_,rfl⟩;obtain⟨n0,hn0⟩:∃n,s0.length=n:=⟨_,rfl⟩;obtain⟨n1,hn1⟩:∃n,s1.length=n:=⟨_,rfl⟩;obtain⟨n2,hn2⟩:∃n,s2.length=n:=⟨_,rfl⟩;rw[hT]at hll;rw[hn0]at k0;rw[hn1]at k1;rw[hn2]at k2;rw[hXl,hT,hn0,hn1,hn2];simp only[Tryz.ntmps14,q7Z,q8Z,Nat.reduceAdd,Nat.reduceSub,qbZ,q9Z,qaZ]
 have y3:IntKind.i64.wrap (mo:Int)=mo:=zW (by omega) (by omega)
 have y4:IntKind.i64.wrap (1+(mo:Int))=1+mo:=zW (by omega) (by omega)
 have m1:(1:Int)<=1+mo:=by omega
 obtain⟨q,hq⟩:∃q:Nat,st % 2=q:=⟨_,rfl⟩;obtain⟨u,hu⟩:∃u:Nat,st / 2=u:=⟨_,rfl⟩
 have tq:(st:Int).tmod 2=q:=by rw[rrZ (by omega)];omega
 have tu:(st:Int).tdiv 2=u:=by rw[Int.tdiv_eq_ediv_of_nonneg (by omega)];omega
 have w1:IntKind.u8.wrap (q:Int)=q:=zFd (by omega) (by omega)
 have w2:IntKind.u8.wrap (u:Int)=u:=zFd (by omega) (by omega)
 have w3:IntKind.i64.wrap (u:Int)=u:=zW (by omega) (by omega)
 have w4:IntKind.i64.wrap (1+(u:Int))=1+u:=zW (by omega) (by omega)
 have hfe:zP (zM all)=true:=zl all
 have hel:(zM all).length=L*3:=by rw[zBP,hL]
 obtain⟨D0,hD0⟩:∃D0,DS.new 1048576=D0:=⟨_,rfl⟩;have hB0:=Bw.new (1+(mo:Int)) all;rw[hD0]at hB0
 refine Sim.step hmix hΓ0 (n:=0) (by simp;exact⟨rfl,rfl⟩) (by simp[hXl]) ?_
 refine Sim.step hmix hΓ0 (n:=0) (by simp[zCQ,zFq];exact⟨rfl,rfl⟩) (by simp[hXl]) ?_
 refine Sim.step hmix hΓ0 (n:=0) (by simp +decide [zCQ,hent,hXl,hL];exact⟨rfl,rfl⟩) (by simp[hXl]) ?_
 refine Sim.step hmix hΓ0 (n:=0) (by simp +decide [zCQ,zS6,zJe,hXl,hD0];exact⟨rfl,rfl⟩) (by simp[hXl]) ?_
 refine Sim.step hmix hΓ0 (n:=0) (by simp +decide [zCQ,zQI,hXl,hXg0,y3,y4,m1];exact⟨rfl,rfl⟩) (by simp[hXl]) ?_
 refine Sim.step hmix hΓ0 (n:=0) (by simp +decide;exact⟨rfl,rfl⟩) (by simp[hXl]) ?_
 refine Sim.seq (Sim.mono (Q:=fun e' F' H'=>e'=.normal/\∃d:DS,Bw (1+(mo:Int)) all 0 0 0 ⟨d,1+mo,0,1,0,false⟩/\Weak N F' H' ([.top,.top,.top,.ptr N 0,.bool false,.sl (N+1) 0 L 3 false,.ptr (N+2) 0,.ptr (N+3) 0]++qbZ 187 .top)
   (X++[.cells true [.int .u8 mo,.sl b0 0 Tn 1 false,.int .u8 st,.sl b1 0 n0 1 false,.sl b2 0 n1 1 false,.sl b3 0 n2 1 false],.cells true (zM all),.obj true d.blks,.cells true (wlC (N+2) (1+mo) 0 1 0 false)])) ?_ ?_)
 · by_cases hq1:q=1
   · subst hq1
     refine Sim.exec hmix hΓ0 (n:=0) (by simp +decide [zCQ,zT8,hXl,hXg,hXg0,hXs,tq,tu,w1,w2,w3,w4];exact⟨rfl,rfl,rfl⟩) (by simp[hXl]) ?_
     exact⟨rfl,D0.arm (1+(u:Int)),hB0.arm (by omega),Weak.tailG hXl hXid [0,1,2,3] (by decide) (by simp[AWs,AW]) (by simp[AWg,AWb,AW,wlC,hXg,hXg0,o0,o1,o2,o3])⟩
   · have hqI:¬(q:Int)=1:=by omega
     have hqb:((q:Int)==1)=false:=beq_eq_false_iff_ne.2 hqI
     refine Sim.exec hmix hΓ0 (n:=0) (by simp +decide [hXl,hXg,hXg0,tq,w1,hqI,hqb];exact⟨rfl,rfl,rfl⟩) (by simp[hXl]) ?_
     exact⟨rfl,D0,hB0,Weak.tailG hXl hXid [0,1,2,3] (by decide) (by simp[AWs,AW]) (by simp[AWg,AWb,AW,wlC,hXg,hXg0,o0,o1,o2,o3])⟩
 rintro _ F6 H6 hl6 ⟨rfl,d1,hB1,hw6⟩;refine Sim.weak hw6 hl6 ?_;clear hw6 hl6 F6 H6 hB0 hD0 D0;dsimp only[qbZ,q9Z,qaZ]
 refine Sim.step hmix hΓ0 (n:=0) (by simp +decide;exact⟨rfl,rfl⟩) (by simp[hXl]) ?_
 have hro:∀(T:zA) (m:Nat),m<=L->(X++T)[N+1]? = some (.cells true (zM all))->zBY (X++T) (.sl (N+1) 0 m 3 false)=some (all.take m):=fun T m hm h=>by
   have q1:zBy ((zM all).take (m*3))=some (all.take m):=by rw[zF3];exact zA9 _
   have q2:m*3<=L*3:=by omega
   simp[zBY,h,hel,q1,q2]
 have hA1:∀rn:List Nat,AWs rn (zM all) (zM all):=fun rn=>AWs.refl _ _ hfe
 refine Sim.seq (Sim.step hmix hΓ0 (n:=0) (by simp +decide;exact⟨rfl,rfl⟩) (by simp[hXl]) ?_)
 refine Sim.block (Sim.mono (Q:=fun e' F' H'=>e'=.exit 0/\∃(su:Nat) (d:DS),Bo all su d/\Weak N F' H' ([.top,.top,.top,.ptr N 0,.bool false,.sl (N+1) 0 L 3 false,.ptr (N+2) 0,.top,.top,.int .i64 su]++qbZ 185 .top)
   (X++[.cells true [.int .u8 mo,.sl b0 0 Tn 1 false,.int .u8 st,.sl b1 0 n0 1 false,.sl b2 0 n1 1 false,.sl b3 0 n2 1 false],.cells true (zM all),.obj true d.blks])) (Sim.loopW (fun s:Nat×Nat×Nat×WL=>s.1<=Tn/\s.1<=40/\s.2.1<=L/\Bw (1+(mo:Int)) all s.1 s.2.1 s.2.2.1 s.2.2.2)
   (fun s=>[.top,.top,.top,.ptr N 0,.bool false,.sl (N+1) 0 L 3 false,.ptr (N+2) 0,.ptr (N+3) 0,.int .i64 s.2.1,.int .i64 s.2.2.1,.int .i64 s.1]++qbZ 184 .top)
   (fun s=>X++[.cells true [.int .u8 mo,.sl b0 0 Tn 1 false,.int .u8 st,.sl b1 0 n0 1 false,.sl b2 0 n1 1 false,.sl b3 0 n2 1 false],.cells true (zM all),.obj true s.2.2.2.d.blks,.cells true (wlC (N+2) s.2.2.2.most s.2.2.2.file s.2.2.2.next s.2.2.2.done s.2.2.2.bad)])
   (fun s=>Tn-s.1) (0,0,0,⟨d1,1+mo,0,1,0,false⟩) (by simp[hXl]) ⟨qqZ _,qqZ _,qqZ _,hB1⟩ (Weak.tailG hXl hXid [0,1,2,3] (by decide) (by simp[AWs,AW]) (by simp[AWg,AWb,AW,wlC,hXg,hXg0,o0,o1,o2,o3,hA1])) fun s hs=>?_) ?_)
 · obtain⟨i,at',su,⟨d,m,f,n,dn,bd⟩⟩:=s
   obtain⟨hi1,hi2,hi3,hB⟩:=hs;dsimp only at hi1 hi2 hi3 hB;dsimp only[qbZ,q9Z,qaZ];by_cases hlt:i<Tn/\i<40
   · obtain⟨hlt1,hlt2⟩:=hlt
     have g1:(i:Int)<Tn:=by omega
     have g2:(i:Int)<40:=by omega
     have hil:i<ls.length:=by omega
     obtain⟨c,hc⟩:∃c,ls[i]=c:=⟨_,rfl⟩
     have hc2:c<256:=by rw[<-hc];exact hls _ (r3Z hil)
     have g3:∀h',(ls.map aB)[i]'h'=.int .u8 c:=fun h'=>by simp[aB,hc]
     obtain⟨c1,hc1⟩:∃x,c / 2=x:=⟨_,rfl⟩;obtain⟨c8,hc8⟩:∃x,c1 % 8=x:=⟨_,rfl⟩;obtain⟨cq,hcq⟩:∃x,c % 2=x:=⟨_,rfl⟩
     have t1:(c:Int).tdiv 2=c1:=by rw[Int.tdiv_eq_ediv_of_nonneg (by omega)];omega
     have t2:(c1:Int).tmod 8=c8:=by rw[rrZ (by omega)];omega
     have t3:(c:Int).tmod 2=cq:=by rw[rrZ (by omega)];omega
     have v1:IntKind.u8.wrap (c1:Int)=c1:=zFd (by omega) (by omega)
     have v2:IntKind.u8.wrap (c8:Int)=c8:=zFd (by omega) (by omega)
     have v3:IntKind.u8.wrap (cq:Int)=cq:=zFd (by omega) (by omega)
     have v4:IntKind.i64.wrap (c8:Int)=c8:=zW (by omega) (by omega)
     have v5:IntKind.i64.wrap ((at':Int)+c8)=(at':Int)+c8:=zW (by omega) (by omega)
     have v6:IntKind.i64.wrap ((i:Int)+1)=(i:Int)+1:=zW (by omega) (by omega)
     obtain⟨nn,hnn⟩:∃nn:Nat,min (L:Int) ((at':Int)+c8)=nn:=⟨min L (at'+c8),by omega⟩
     have hn1':at'<=nn:=by omega
     have hn2':nn<=L:=by omega
     refine Sim.step hmix hΓ0 (n:=0) (by simp +decide [hXl,hXg0,g1,g2,hlt1,hlt2];exact⟨rfl,rfl⟩) (by simp[hXl]) ?_
     refine Sim.seq (Sim.block ?_)
     refine Sim.step hmix hΓ0 (n:=0) (by simp +decide [-zCS,zB1,hXl,hXg0,hlt1,hil,r0,g3,t1,t2,v1,v2,v4,v5,hnn];exact⟨rfl,rfl⟩) (by simp[hXl]) ?_
     have hap:=hB.append hL60 (n:=nn) hn1' (by omega) (by omega)
     have hwk:WOk ⟨d,m,f,n,dn,bd⟩ (nn-at'):=hB.wok (by omega) (by omega) (by omega)
     have z1:zBy (((zM all).drop (at'*3)).take ((nn-at')*3))=some ((all.drop at').take (nn-at')):=by
       rw[zNb,zF3];exact zA9 _
     have z2:zTJ ((all.drop at').take (nn-at')):=fun e he=>hokE e (List.mem_of_mem_drop (List.mem_of_mem_take he))
     have z3:((all.drop at').take (nn-at')).length=nn-at':=by rw[qjZ,qkZ];omega
     obtain⟨own,hown⟩:∃own,(all.drop at').take (nn-at')=own:=⟨_,rfl⟩;rw[hown]at hap z1 z2 z3
     have z4:at'*3+(nn-at')*3<=L*3:=by omega
     have z5:nn-at'<=1000:=by omega
     have z6:(at':Int)<=nn:=by omega
     have z7:(nn:Int)<=L:=by omega
     have z8:(0:Int)<=at':=by omega
     obtain⟨⟨d',m',f',n',dn',bd'⟩,e,hx⟩:∃w e,(⟨d,m,f,n,dn,bd⟩:WL).appends own=(w,e):=⟨_,_,rfl⟩;rw[hx]at hap;dsimp only at hap;rcases hap with⟨rfl,hB'⟩ | ⟨rfl,hO⟩;rotate_left
     · refine Sim.exec hmix hΓ0 (n:=0) (by simp +decide [zCQ,zCc,hXl,hXg,hXg0,hXs,hXs0,hel,hfe,z1,z2,z3,z4,z5,z6,z7,z8,hn1',hn2',hwk,hx];exact⟨rfl,rfl,rfl⟩) (by simp[hXl]) ?_
       exact⟨rfl,su,d',hO,Weak.tailG hXl hXid [0,1,2] (by decide) (by simp[AWs,AW]) (by simp[AWg,AWb,AW,hXg,hXg0,o0,o1,o2,o3,hA1])⟩
     refine Sim.step hmix hΓ0 (n:=0) (by simp +decide [zCQ,zCc,hXl,hXg,hXg0,hXs,hXs0,hel,hfe,z1,z2,z3,z4,z5,z6,z7,z8,hn1',hn2',hwk,hx];exact⟨rfl,rfl⟩) (by simp[hXl]) ?_
     refine Sim.step hmix hΓ0 (n:=0) (by simp +decide;exact⟨rfl,rfl⟩) (by simp[hXl]) ?_
     by_cases hq1:cq=1
     · subst hq1
       have hsy:=hB'.sync hL60 (by omega) (by omega)
       have hsm:d'.small:=hB'.small (by omega) (by omega)
       obtain⟨⟨d2,m2,f2,n2',dn2,bd2⟩,e2,hx2⟩:∃w e,(⟨d',m',f',n',dn',bd'⟩:WL).syncs=(w,e):=⟨_,_,rfl⟩;rw[hx2]at hsy;dsimp only at hsy;rcases hsy with⟨rfl,hB2⟩ | ⟨rfl,hO⟩
       · refine Sim.exec hmix hΓ0 (n:=0) (by simp +decide [zCQ,zHJ,wlS,hXl,hXg,hXg0,hXs,hXs0,hlt1,hil,r0,g3,t3,v3,hsm,hx2];exact⟨rfl,rfl,rfl⟩) (by simp[hXl]) ?_
         dsimp only
         refine Sim.exec hmix hΓ0 (n:=0) (by simp +decide [v6];exact⟨rfl,rfl,rfl⟩) (by simp[hXl]) ?_
         exact⟨(i+1,nn,nn,⟨d2,m2,f2,n2',dn2,bd2⟩),⟨by dsimp only;omega,by dsimp only;omega,hn2',hB2⟩,Weak.tailG hXl hXid [0,1,2,3] (by decide) (by simp[AWs,AW]) (by simp[AWg,AWb,AW,wlC,hXg,hXg0,o0,o1,o2,o3,hA1]),by dsimp only;omega⟩
       · refine Sim.exec hmix hΓ0 (n:=0) (by simp +decide [zCQ,zHJ,wlS,hXl,hXg,hXg0,hXs,hXs0,hlt1,hil,r0,g3,t3,v3,hsm,hx2];exact⟨rfl,rfl,rfl⟩) (by simp[hXl]) ?_
         exact⟨rfl,su,d2,hO,Weak.tailG hXl hXid [0,1,2] (by decide) (by simp[AWs,AW]) (by simp[AWg,AWb,AW,hXg,hXg0,o0,o1,o2,o3,hA1])⟩
     · have hqI:¬(cq:Int)=1:=by omega
       have hqb:((cq:Int)==1)=false:=beq_eq_false_iff_ne.2 hqI
       refine Sim.exec hmix hΓ0 (n:=0) (by simp +decide [hXl,hXg,hXg0,hlt1,hil,r0,g3,t3,v3,hqI,hqb];exact⟨rfl,rfl,rfl⟩) (by simp[hXl]) ?_
       dsimp only
       refine Sim.exec hmix hΓ0 (n:=0) (by simp +decide [v6];exact⟨rfl,rfl,rfl⟩) (by simp[hXl]) ?_
       exact⟨(i+1,nn,su,⟨d',m',f',n',dn',bd'⟩),⟨by dsimp only;omega,by dsimp only;omega,hn2',hB'.next⟩,Weak.tailG hXl hXid [0,1,2,3] (by decide) (by simp[AWs,AW]) (by simp[AWg,AWb,AW,wlC,hXg,hXg0,o0,o1,o2,o3,hA1]),by dsimp only;omega⟩
   · have hO:=hB.out hL60 (by omega) (by omega)
     dsimp only at hO;by_cases hc1:i<Tn
     · have hc2:¬(i:Int)<40:=by omega
       refine Sim.exec hmix hΓ0 (n:=0) (by simp +decide [hXl,hXg0,hc1,hc2];exact⟨rfl,rfl,rfl⟩) (by simp[hXl]) ?_
       exact⟨rfl,su,d,hO,Weak.tailG hXl hXid [0,1,2] (by decide) (by simp[AWs,AW]) (by simp[AWg,AWb,AW,hXg,hXg0,o0,o1,o2,o3,hA1])⟩
     · refine Sim.exec hmix hΓ0 (n:=0) (by simp +decide [hXl,hXg0,hc1];exact⟨rfl,rfl,rfl⟩) (by simp[hXl]) ?_
       exact⟨rfl,su,d,hO,Weak.tailG hXl hXid [0,1,2] (by decide) (by simp[AWs,AW]) (by simp[AWg,AWb,AW,hXg,hXg0,o0,o1,o2,o3,hA1])⟩
 rintro e F6 H6 hl6 ⟨rfl,su,d,hO,hw6⟩;dsimp only;rw[if_pos rfl];refine Sim.weak hw6 hl6 ?_;clear hw6 hl6 F6 H6;dsimp only[qbZ,q9Z,qaZ]
 have fin:∀(T:zA),Weak N [.bool true] (X++T) [.bool true] X:=fun T=>by
   have:=Weak.tail3 hXl hXid (T:=T) (Tn:=[]) (F:=[.bool true]) (Fn:=[.bool true]) [] (by decide) (by simp[AWs,AW]) rfl (fun j t x y h=>by simp at h)
   rwa [r2Z]at this
 obtain⟨⟨lg,es,good,torn⟩,f1,e1,e2,e3,e4,e5,e6,e7,e8,e9,e10,e11,e12⟩:=zUC hokE (by omega) hO.ok hO.wb s0 s1 s2
 dsimp only at e2 e3 e4 e10 e11 e12
 have sm0:d.small:=DS.ok_mono hO.ok (by omega) (by omega)
 obtain⟨g0,hg0⟩:∃g,d.restart s0=g:=⟨_,rfl⟩;rw[hg0]at e1 e5 e6;obtain⟨f2,hf2⟩:∃g,f1.restart s1=g:=⟨_,rfl⟩;rw[hf2]at e8 e9 e11 e12;obtain⟨f3,hf3⟩:∃g,f2.restart s2=g:=⟨_,rfl⟩;rw[hf3]at e9 e12
 have c0:g0.ok 10000 500000000:=DS.ok_mono e6 (by omega) (by omega)
 have c1:f1.ok 10000 500000000:=DS.ok_mono e7 (by omega) (by omega)
 have c2:f2.ok 10000 500000000:=DS.ok_mono e8 (by omega) (by omega)
 have c3:f3.ok 10000 500000000:=DS.ok_mono e9 (by omega) (by omega)
 have cm:g0.ok 800000 100000000000:=DS.ok_mono e6 (by omega) (by omega)
 have sm1:f1.small:=DS.ok_mono e7 (by omega) (by omega)
 have sm2:f2.small:=DS.ok_mono e8 (by omega) (by omega)
 have h0':(∀x∈s0,0<=x/\x<=65535)=True:=by simpa using h0
 have h1':(∀x∈s1,0<=x/\x<=65535)=True:=by simpa using h1
 have h2':(∀x∈s2,0<=x/\x<=65535)=True:=by simpa using h2
 have tk0:s0.take n0=s0:=q6Z (by omega)
 have tk1:s1.take n1=s1:=q6Z (by omega)
 have tk2:s2.take n2=s2:=q6Z (by omega)
 refine Sim.step hmix hΓ (n:=0) (by simp +decide [zCm,zGQ,zFs,zD3,zIp,zBA,hXl,hXg,hXg0,hXs,hXs0,r1,sm0,hn0,k0,h0',tk0,hg0];exact⟨rfl,rfl⟩) (by simp[hXl]) ?_
 obtain⟨q1,q2,q3⟩:=zFX e1;obtain⟨p1,q4,q5⟩:=zFX e10;obtain⟨p2,q6,q7⟩:=zFX e11;obtain⟨p3,q8,q9⟩:=zFX e12;dsimp only at q1 q2 q3 p1 q4 q5 p2 q6 q7 p3 q8 q9;have q3':=DS.list_le c0;have l0:=zAj g0.list;have l1:=zAj f1.list;have l2:=zAj f2.list;have l3:=zAj f3.list;obtain⟨B0,hB0⟩:∃B,lgB g0.list=B:=⟨_,rfl⟩;obtain⟨B1,hB1'⟩:∃B,lgB f1.list=B:=⟨_,rfl⟩;obtain⟨B2,hB2⟩:∃B,lgB f2.list=B:=⟨_,rfl⟩;obtain⟨B3,hB3⟩:∃B,lgB f3.list=B:=⟨_,rfl⟩;obtain⟨P0,hP0⟩:∃p,zBE 1 (Z3 3 g0.list)=p:=⟨_,rfl⟩;obtain⟨P1,hP1⟩:∃p,zBE 1 (Z3 3 f1.list)=p:=⟨_,rfl⟩;obtain⟨P2,hP2⟩:∃p,zBE 1 (Z3 3 f2.list)=p:=⟨_,rfl⟩;obtain⟨P3,hP3⟩:∃p,zBE 1 (Z3 3 f3.list)=p:=⟨_,rfl⟩;rw[hB0]at q1 q2 l0;rw[hB1']at p1 q4 l1;rw[hB2]at p2 q6 l2;rw[hB3]at p3 q8 l3;rw[hP0]at q1 q2;rw[hP1]at p1 q4;rw[hP2]at p2 q6;rw[hP3]at p3 q8;obtain⟨La,hLa⟩:∃n,lg.length=n:=⟨_,rfl⟩;obtain⟨Le,hLe⟩:∃n,es.length=n:=⟨_,rfl⟩;rw[hLa]at q1 q2 q3 p1 q4 q5 p2 q6 q7 p3 q8 q9;rw[hLe]at e2 e3 e4;rw[hL]at e3
 refine Sim.step hmix hΓ (n:=0) (by simp +decide [zCm,zIK,fnV,Nat.add_assoc,hXl,hXg,hXg0,hXs,hXs0,c0,e1,hB0,hP0,hLa,hLe];exact⟨rfl,rfl⟩) (by simp[hXl]) ?_
 have f1e:zP (zM es)=true:=zl es
 have ele:(zM es).length=Le*3:=by rw[zBP,hLe]
 have en1:zBy ((zM es).take (Le*3))=some es:=by rw[<-ele,List.take_length];exact zA9 es
 have en2:zBy ((zM all).take (Le*3))=some es:=by rw[zF3,<-e4];exact zA9 _
 have i1:¬(Le:Int)<su:=by omega
 have i2:¬(L:Int)<Le:=by omega
 have i3:Le*3<=L*3:=by omega
 have i4:(Le:Int)<=L:=by omega
 have i5:Le<=1000000000000:=by omega
 have bl0:∀m,zi m (zM all)=true:=fun m=>ZE m _ hfe
 have bl1:∀m,zi m (zM es)=true:=fun m=>ZE m _ f1e
 have bl2:∀m,zi m B0=true:=fun m=>ZE m _ l0
 refine Sim.seq (Sim.seq (Sim.draw hmix (by simp[hXl]) ?_))
 refine SimR.many hΓ 28 (by simp[zK];rfl) (by omega) (by kernel_rfl) (by simp +decide [zCm,zCZ,Zz,zBY,hXl,hXg,hXg0,hel,ele,en1,en2,i1,i2,i3,i4,i5,hLe,hL,scA,bl0,bl1,bl2,hXb,hXd,u0,u1,u2,u3];first | exact⟨rfl,rfl⟩ | exact⟨by kernel_rfl,rfl,rfl⟩) ?_
 refine SimR.done rfl ?_;dsimp only
 refine Sim.exec hmix hΓ (n:=0) (by simp +decide;exact⟨rfl,rfl,rfl⟩) (by simp[hXl]) ?_
 dsimp only
 refine Sim.step hmix hΓ (n:=0) (by simp +decide [zCm,zMV,hXl,hXg,hXg0,hXs,hXs0,cm,l0,q1,q2,zA9,e5,hLa,hLe,show La<=1000000 by omega];exact⟨rfl,rfl⟩) (by simp[hXl]) ?_
 refine Sim.seq (Sim.step hmix hΓ (n:=0) (by simp +decide;exact⟨rfl,rfl⟩) (by simp[hXl]) ?_)
 have hle1:∀rn:List Nat,AWs rn (zM es) (zM es):=fun rn=>AWs.refl _ _ f1e
 have hlb0:∀rn:List Nat,AWs rn B0 B0:=fun rn=>AWs.refl _ _ l0
 have la12:La<=1000000000000:=by omega
 obtain⟨dd,hdd⟩:∃dd:Nat->DS,dd 0=f1/\dd 1=f2/\dd 2=f3:=⟨fun i=>if i=0 then f1 else if i=1 then f2 else f3,rfl,rfl,rfl⟩
 obtain⟨dd0,dd1,dd2⟩:=hdd
 refine Sim.block (Sim.loopW (fun i:Nat=>i<=2)
   (fun i=>[.top,.top,.top,.ptr N 0,.bool false,.top,.ptr (N+2) 0,.top,.top,.top,.top,.top,.ptr (N+5) 0,.top,.int .i64 (1+(i:Int))]++qbZ 180 .top)
   (fun i=>X++[.cells true [.int .u8 mo,.sl b0 0 Tn 1 false,.int .u8 st,.sl b1 0 n0 1 false,.sl b2 0 n1 1 false,.sl b3 0 n2 1 false],.cells true (zM all),.obj true (dd i).blks,.cells true B0,.cells true (zM es),.cells true [.sl (N+3) P0 La 1 false,.sl (N+4) 0 Le 3 false,.int .i64 good,.bool torn]])
   (fun i=>2-i) 0 (by simp[hXl]) (by decide) (Weak.tailG hXl hXid [0,1,2,3,4,5] (by decide) (by simp[AWs,AW]) (by simp[AWg,AWb,AW,dd0,hXg,hXg0,o0,o1,o2,o3,hA1,hle1,hlb0])) fun i hi=>?_)
 obtain rfl | rfl | rfl:i=0\/i=1\/i=2:=by omega
 · dsimp only[qbZ,q9Z,qaZ]
   rw[dd0]
   refine Sim.step hmix hΓ (n:=0) (by simp +decide;exact⟨rfl,rfl⟩) (by simp[hXl]) ?_
   refine Sim.seq (Sim.block ?_)
   refine Sim.step hmix hΓ (n:=0) (by simp +decide [zCm,zIK,fnV,Nat.add_assoc,hXl,hXg,hXg0,hXs,hXs0,c1,e10,hB1',hP1,hLa,hLe];exact⟨rfl,rfl⟩) (by simp[hXl]) ?_
   refine Sim.step hmix hΓ (n:=0) (by simp +decide [zCm,zCZ,zHV,zGu,zBY,hXl,hXg,hXg0,ele,en1,q1,q2,p1,q4,la12,i5,hLa,hLe];exact⟨rfl,rfl⟩) (by simp[hXl]) ?_
   refine Sim.exec hmix hΓ (n:=0) (by simp +decide [zCm,zGQ,zFs,zD3,zIp,zBA,hXl,hXg,hXg0,hXs,hXs0,r2,sm1,hn1,k1,h1',tk1,hf2];exact⟨rfl,rfl,rfl⟩) (by simp[hXl]) ?_
   dsimp only
   refine Sim.exec hmix hΓ (n:=0) (by simp +decide;exact⟨rfl,rfl,rfl⟩) (by simp[hXl]) ?_
   exact⟨1,by decide,Weak.tailG hXl hXid [0,1,2,3,4,5] (by decide) (by simp[AWs,AW]) (by simp[AWg,AWb,AW,dd1,hXg,hXg0,o0,o1,o2,o3,hA1,hle1,hlb0]),by decide⟩
 · dsimp only[qbZ,q9Z,qaZ]
   rw[dd1]
   refine Sim.step hmix hΓ (n:=0) (by simp +decide;exact⟨rfl,rfl⟩) (by simp[hXl]) ?_
   refine Sim.seq (Sim.block ?_)
   refine Sim.step hmix hΓ (n:=0) (by simp +decide [zCm,zIK,fnV,Nat.add_assoc,hXl,hXg,hXg0,hXs,hXs0,c2,e11,hB2,hP2,hLa,hLe];exact⟨rfl,rfl⟩) (by simp[hXl]) ?_
   refine Sim.step hmix hΓ (n:=0) (by simp +decide [zCm,zCZ,zHV,zGu,zBY,hXl,hXg,hXg0,ele,en1,q1,q2,p2,q6,la12,i5,hLa,hLe];exact⟨rfl,rfl⟩) (by simp[hXl]) ?_
   refine Sim.exec hmix hΓ (n:=0) (by simp +decide [zCm,zGQ,zFs,zD3,zIp,zBA,hXl,hXg,hXg0,hXs,hXs0,r3,sm2,hn2,k2,h2',tk2,hf3];exact⟨rfl,rfl,rfl⟩) (by simp[hXl]) ?_
   dsimp only
   refine Sim.exec hmix hΓ (n:=0) (by simp +decide;exact⟨rfl,rfl,rfl⟩) (by simp[hXl]) ?_
   exact⟨2,by decide,Weak.tailG hXl hXid [0,1,2,3,4,5] (by decide) (by simp[AWs,AW]) (by simp[AWg,AWb,AW,dd2,hXg,hXg0,o0,o1,o2,o3,hA1,hle1,hlb0]),by decide⟩
 · dsimp only[qbZ,q9Z,qaZ]
   rw[dd2]
   refine Sim.exec hmix hΓ (n:=0) (by simp +decide;exact⟨rfl,rfl,rfl⟩) (by simp[hXl]) ?_
   dsimp only;rw[if_pos rfl]
   refine Sim.step hmix hΓ (n:=0) (by simp +decide [zCm,zIK,fnV,Nat.add_assoc,hXl,hXg,hXg0,hXs,hXs0,c3,e12,hB3,hP3,hLa,hLe];exact⟨rfl,rfl⟩) (by simp[hXl]) ?_
   refine Sim.exec hmix hΓ (n:=0) (by simp +decide [zCm,zCZ,zBY,hXl,hXg,hXg0,ele,en1,i5,hLe];exact⟨rfl,rfl,rfl⟩) (by simp[hXl]) ?_
   exact⟨.inr rfl,_,by simp[Tryz.f14] <;> rfl,fin _⟩
end
end Go.Proofs.YthafeihjlamhhaaGreatDoor
