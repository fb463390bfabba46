/- Parts of the proof of WalKeeps: lemmas, each with its own conditions. -/
import Derived.Test.YtpmfecnajoojeaaGreatDoorY28
import Derived.Test.YtpmfecnajoojeaaGreatDoorY34
set_option maxHeartbeats 64000000
open List renaming getElem?_eq_getElem → q3Z, getElem?_append_right → q5Z, take_of_length_le → q6Z, length_cons → q7Z, length_nil → q8Z, cons_append → q9Z, nil_append → qaZ, replicate → qbZ, length_append → qdZ, append_assoc → qeZ, mem_cons → qwZ, mem_append → qxZ, mem_singleton → r1Z, append_nil → r2Z, getElem_mem → r3Z, mem_map → reZ, getElem?_range → rfZ, all_eq_true → s5Z, drop_append → sdZ
open Nat renaming zero_le → qqZ
open Int renaming tmod_eq_emod_of_nonneg → rrZ
namespace Go.Proofs.YtpmfecnajoojeaaGreatDoor
open _root_.Go.Proofs.Tryz renaming prog → Pz
set_option maxRecDepth 100000
section
open Go
def walWInl:List FuncId:=[131,66,150,81,20,40,25,22,79,183,113,164,95,32,202,130,114,149,207,133,115,148,74,184,206,142,174,103,73,72,175,71,105,173,65,19,21,18,57,58,59,16,68,209,135,61,60,67,69,62,56,26,223,86,154,265,264,13,35,136,70,128,104,141,102,172,129,201,76,117,120,87,155,14,64,208,134,217,147,218,199,249,212,140]
def trueK_U0:Summ:=pureS fun | []=>some (.bool true) | _=>none
theorem trueK_sound_U0 {f : FuncId} {fn : Func} (hf : Tryz.prog.funcs[f]? = some fn) (hb : fn.body.isSome = true) (hn : (fn.name == "runtime.NumGoroutine") = false) (h : Ct Pz f [] [] (.bool true) []) : Sound Pz f trueK_U0 := by
 refine sound_pure (enter_of hf hb hn) fun args v hv=>?_
 split at hv <;> cases hv
 exact⟨h,rfl,rfl⟩
def walWS0G:Gam:=gams [(139,keysS),(138,sortedS),(137,mcloneS),(132,joinS2),(144,itoaS)]
theorem walWS0G_ok:GOk Pz walWS0G:=goks_cons keys_sound (goks_cons sorted_sound (goks_cons mclone_sound (goks_cons join_sound2 (goks_cons itoa_sound goks_nil))))
noncomputable abbrev walWS0C0:Code:=bodyOf Tryz.f12
noncomputable abbrev walWS0F0:List AV:=[]++qbZ (Tryz.f12.ntmps-0) undefA
abbrev walWS0H0:AHeap:=[]
noncomputable abbrev walWS0C1:Code:=restC 2 walWS0C0
def walWS0F1:List AV:=[.bool false,.ptr 3 0,.ptr 4 0]++qbZ 7 (.tuple [])++[.top,.top,.top,.top]++qbZ 55 (.tuple [])++[.top]++qbZ 46 (.tuple [])
def walWS0H1:AHeap:=[.map [(.str [119,97,108,45,53],.int .i64 (1))],.cells true [.map 0,.map 6,.nils,.int .i64 (1)],.map [(.int .i64 (1),.ptr 5 0)],.cells true [.ptr 1 0,.map 2,.int .i64 (100),.int .i64 (4),.int .i64 (0),.bool false],.cells true [.ptr 3 0,.int .i64 (12),.int .i64 (5),.int .i64 (6),.int .i64 (2),.bool false],.cells true [.str [],.slice 9 0 2 1 false,.str [3,1,1,97,74,122,157,17,3,1,2,98,51,120,185,163]],.map [(.str [119,97,108,45,53],.int .i64 (1))],.cells true [.str [3,1,1,97,74,122,157,17]],.cells true [.str [3,1,2,98,51,120,185,163]],.cells true [.func 207 [] [.ptr 7 0],.func 207 [] [.ptr 8 0]]]
theorem walWS0_k1:kendM 0 (acodeN Pz (runGK Pz walWS0G 400 walWInl 30) 400 true 2 walWS0C0 walWS0F0 walWS0H0) walWS0F1 walWS0H1=true:=by kernel_rfl
noncomputable abbrev walWS0C2:Code:=restC 4 walWS0C1
def walWS0F2:List AV:=[.bool false,.ptr 3 0,.top,.top,.int .i64 (0)]++qbZ 5 (.tuple [])++qbZ 58 .top++[.tuple [],.top]++qbZ 46 (.tuple [])
def walWS0H2:AHeap:=[.map [(.str [119,97,108,45,53],.int .i64 (1)),(.str [119,97,108,45,54],.int .i64 (2))],.cells true [.map 0,.map 6,.nils,.int .i64 (2)],.map [(.int .i64 (1),.ptr 4 0),(.int .i64 (2),.ptr 5 0)],.cells true [.ptr 1 0,.map 2,.int .i64 (100),.int .i64 (9),.int .i64 (0),.bool false],.cells true [.str [3,1,1,97,74,122,157,17,3,1,2,98,51,120,185,163],.nils,.str [3,1,1,97,74,122,157,17,3,1,2,98,51,120,185,163]],.cells true [.str [3,1,3,99,228,121,165,205],.nils,.str [3,1,3,99,228,121,165,205]],.map [(.str [119,97,108,45,53],.int .i64 (1)),(.str [119,97,108,45,54],.int .i64 (2))]]
theorem walWS0_k2:kendM 0 (acodeN Pz (runGK Pz walWS0G 400 walWInl 30) 400 true 4 walWS0C1 walWS0F1 walWS0H1) walWS0F2 walWS0H2=true:=by kernel_rfl
noncomputable abbrev walWS0C3:Code:=restC 6 walWS0C2
def walWS0F3:List AV:=[.bool true]++qbZ 115 .top
def walWS0H3:AHeap:=[]
theorem walWS0_k3:kendM 0 (acodeN Pz (runGK Pz walWS0G 400 walWInl 30) 400 true 6 walWS0C2 walWS0F2 walWS0H2) walWS0F3 walWS0H3=true:=by kernel_rfl
theorem walWS0_end:kretB Pz Tryz.f12.results.toList (acodeK Pz (runGK Pz walWS0G 400 walWInl 30) 400 true walWS0C3 walWS0F3 walWS0H3)=true:=by kernel_rfl
theorem walWS0_ct:Ct Pz 12 [] [] (.bool true) []:=by
 have hΓ:=gok_runK hmix walWS0G_ok 400 walWInl 30
 refine ct_of_sim (c:=walWS0C0) Tryz.func12 (by kernel_rfl) ?_
 refine Sim.kmanyM (n:=400) hmix hΓ 2 walWS0_k1 (qqZ _) ?_;refine Sim.kmanyM (n:=400) hmix hΓ 4 walWS0_k2 (qqZ _) ?_;refine Sim.kmanyM (n:=400) hmix hΓ 6 walWS0_k3 (qqZ _) ?_;exact Sim.kret (n:=400) hmix hΓ walWS0_end
theorem walWS0_sound:Sound Pz 12 trueK_U0:=trueK_sound_U0 Tryz.func12 rfl (by decide) walWS0_ct
end
section
open Go Go.Lib
attribute [-simp] drawOk_eq adraw qrun acode aops
theorem dEs_ok{ds:List Dr}(h:∀d∈ds,0≤d.2.1∧d.2.1<4294967296)(m:Nat):∀e∈dEs (ds.take m),okE e:=fun e he=>by
 obtain⟨d,hd,rfl⟩:=reZ.1 he;have:=h d (List.mem_of_mem_take hd)
 exact dE_ok d.1 d.2.1 d.2.2 (by simp[okN];omega)
noncomputable def wkΓ:Gam:=gams [(12,trueK_U0),(13,dnewS),(14,wnewS),(15,darmS),(19,wappendS),(16,wsyncsS),(18,wdoneR),(21,wbadR),(20,ddownS),(22,drestN),(24,sameS_Ez),(25,dlistS),(26,logSzS)]
theorem wkΓ_ok:GOk Pz wkΓ:=goks_cons walWS0_sound (goks_cons dnew_sound (goks_cons wnew_sound (goks_cons darm_sound (goks_cons wappend_sound (goks_cons wsyncs_sound (goks_cons wdone_sound (goks_cons wbad_sound (goks_cons ddown_sound (goks_cons drestN_sound (goks_cons same_sound_Ez (goks_cons dlist_sound (goks_cons logSz_sound goks_nil))))))))))))
def wkInl:List FuncId:=[17]
noncomputable def wkΓ0:Gam:=gams [(63,drS entsOf)]
theorem wkΓ1_ok:GOk Pz (runG Pz wkΓ0 0 wkInl 2):=gok_run hmix (goks_cons entries2_sound goks_nil) 0 wkInl 2
def keH(cs:List Ac)(st:List Int):AHeap:=.cells false (acells 1 cs)::ablks 1 cs++[.cells false (numA st)]
theorem keH_length(cs:List Ac)(st:List Int):(keH cs st).length=(ablks 1 cs).length+2:=by simp[keH]
theorem keH_flat(cs:List Ac)(st:List Int):∀B∈keH cs st,∃o l,B=ABlk.cells o l∧belows (keH cs st).length l=true:=by
 intro B hB;rw[keH_length];unfold keH at hB;rcases qxZ.1 hB with hB | hB
 · rcases qwZ.1 hB with rfl | hB
   · exact⟨_,_,rfl,acells_free_above 1 _ cs (by omega)⟩
   · exact ablks_flat 1 _ cs (by omega) B hB
 · simp only[r1Z]at hB
   subst hB;exact⟨_,_,rfl,belows_free _ _ (frees_numA _)⟩
theorem keeps_ct(mo at':Nat)(hmo:mo<256)(hat:at'<256)(cs:List Ac)(hcs:∀c∈cs,AcOk c)(hcl:cs.length≤9223372036854775807)(st:List Int)(hst:∀x∈st,0≤x∧x≤65535)(hsl:st.length≤9223372036854775807) :
   ∃H',Ct Pz 4 [.agg [.int .u8 mo,.int .u8 at',.sl 0 0 cs.length 4 false,.sl ((ablks 1 cs).length+1) 0 st.length 1 false]] (keH cs st) (.bool true) H':=by
 have hΓ:=wkΓ_ok;have hΓ1:=wkΓ1_ok;refine ⟨keH cs st,ct_of_sim Tryz.func4 rfl ?_⟩;obtain⟨N,hXl⟩:∃N,(keH cs st).length=N:=⟨_,rfl⟩;have hXf:=keH_flat cs st;have hNl:=keH_length cs st;rw[hXl]at hXf hNl
 have hN0:0<N:=by omega
 have hXid:∀rn:List Nat,(∀i,i<N→rn[i]? = some i)→∀B∈keH cs st,AWb rn B B:=fun rn hr B hB=>by
   obtain⟨o,l,rfl,hl⟩:=hXf B hB;exact⟨id,AWs.pre hr _ hl⟩
 have hXb:∀k,(keH cs st).all (belowB (N+k))=true:=fun k=>by
   rw[s5Z];intro B hB;obtain⟨o,l,rfl,hl⟩:=hXf B hB
   simpa[belowB] using belows_mono (by omega) l hl
 obtain⟨s,hs⟩:∃s,(ablks 1 cs).length+1=s:=⟨_,rfl⟩
 have hX0:∀T:AHeap,(keH cs st++T)[0]? = some (.cells false (acells 1 cs)):=fun T=>by simp[keH]
 have hXs':∀T:AHeap,(keH cs st++T)[s]? = some (.cells false (numA st)):=fun T=>by
   rw[←hs];unfold keH
   rw[qeZ,q5Z (by simp)]
   simp
 have hact:∀(i:Nat) (hi:i<cs.length),∃k1 k2,((acells 1 cs).drop (i*4)).take 4=[.int .u8 cs[i].1,.int .u8 cs[i].2.1,.sl k1 0 cs[i].2.2.1.length 3 false,.sl k2 0 cs[i].2.2.2.length 1 false]∧k1<N∧k2<N ∧
     ∀T,drS entsOf [.sl k1 0 cs[i].2.2.1.length 3 false,.int .i64 3] (keH cs st++T)=some (.sl (keH cs st++T).length 0 (entsOf cs[i].2.2.1 3).length 3 false,keH cs st++T++[.cells true (ensA (entsOf cs[i].2.2.1 3))],[]):=fun i hi=>by
   obtain⟨k1,k2,T0,T,h1,h2,h3,h4,h5⟩:=ac_at cs 1 [.cells false (acells 1 cs)] [.cells false (numA st)] i hi rfl;have hok:=hcs _ (r3Z hi)
   refine ⟨k1,k2,h1,by simp at h4;omega,by simp at h5;omega,fun T'=>?_⟩
   have e:keH cs st++T'=T0++(drK k1 cs[i].2.2.1++(T++T')):=by
     unfold keH;have:(.cells false (acells 1 cs)::ablks 1 cs++[.cells false (numA st)]:AHeap)=[.cells false (acells 1 cs)]++ablks 1 cs++[.cells false (numA st)]:=rfl;rw[this,h2];simp
   exact drS_at (m:=3) ⟨rfl,⟨T0,T++T',h3,e⟩,by decide,hok.2.2.1,hok.2.2.2.2⟩
 rw[hs];obtain⟨X,hX⟩:∃X,keH cs st=X:=⟨_,rfl⟩;rw[hX]at hXl hXid hXb hX0 hXs' hact ⊢;clear hX
 have hXd:∀(T:AHeap) (k:Nat),(X++T).drop (N+k)=T.drop k:=fun T k=>by
   rw[sdZ,List.drop_of_length_le (by omega),qaZ];congr 1;omega
 have hBX:=behindX X hXl;have hXg:=hBX.get;have hXg0:=hBX.get0;have hXs:=hBX.set;have hXs0:=hBX.set0
 have us:∀k,s<N+k:=fun k=>by omega
 have u0:∀k,0<N+k:=fun k=>by omega
 have os:∀ts:List Nat,(List.range N++ts)[s]? = some s:=fun ts=>range_at _ _ (by omega)
 have o0:∀ts:List Nat,(List.range N++ts)[0]? = some 0:=fun ts=>range_at _ _ (by omega)
 have o0g:∀(ts:List Nat) h,(List.range N++ts)[0]'h=0:=fun ts h=>by
   have:=o0 ts;rw[q3Z h]at this;exact Option.some.inj this
 have hX0g:∀(T:AHeap) h,(X++T)[0]'h=.cells false (acells 1 cs):=fun T h=>by
   have:=hX0 T;rw[q3Z h]at this;exact Option.some.inj this
 obtain⟨n,hn⟩:∃n,cs.length=n:=⟨_,rfl⟩;obtain⟨m,hm⟩:∃m,st.length=m:=⟨_,rfl⟩;have gl:=acells_length 1 cs;rw[hn]at hcl gl;rw[hm]at hsl;rw[hXl,hn,hm];simp only[Tryz.ntmps4,q7Z,q8Z,Nat.reduceAdd,Nat.reduceSub,qbZ,q9Z,qaZ]
 have y3:IntKind.i64.wrap (mo:Int)=mo:=wr_i64 (by omega) (by omega)
 have y4:IntKind.i64.wrap (1+(mo:Int))=1+mo:=wr_i64 (by omega) (by omega)
 have y5:IntKind.i64.wrap (at':Int)=at':=wr_i64 (by omega) (by omega)
 have m1:(1:Int)≤1+mo:=by omega
 obtain⟨J,hJ⟩:∃J:Nat,min (m:Int) 30=J:=⟨min m 30,by omega⟩
 have hJm:J≤m:=by omega
 have hJI:(J:Int)≤m:=by omega
 have hJ0:(0:Int)≤J:=by omega
 have hst':(∀x∈st,0≤x∧x≤65535)=True:=by simpa using hst
 obtain⟨D0,hD0⟩:∃D0,DS.new 1048576=D0:=⟨_,rfl⟩
 have hB0:=Kb.new (1+(mo:Int)) at' (by omega)
 rw[hD0]at hB0
 refine Sim.step hmix hΓ (n:=0) (by simp;exact⟨rfl,rfl⟩) (by simp[hXl]) ?_
 refine Sim.step hmix hΓ (n:=0) (by simp[wkΓ,trueK_U0];exact⟨rfl,rfl⟩) (by simp[hXl]) ?_
 refine Sim.seq (Sim.draw hmix (by simp[hXl]) ?_)
 refine SimR.many hΓ 12 (by simp[stageOps];rfl) (by omega) (by kernel_rfl) (by simp +decide [hXl];first | exact⟨rfl,rfl⟩ | exact⟨by kernel_rfl,rfl,rfl⟩) ?_
 refine SimR.done rfl ?_;dsimp only
 refine Sim.step hmix hΓ (n:=0) (by simp +decide [wkΓ,dnewS,newS,hXl,hD0];exact⟨rfl,rfl⟩) (by simp[hXl]) ?_
 refine Sim.step hmix hΓ (n:=0) (by simp +decide [wkΓ,wnewS,hXl,y3,y4,m1];exact⟨rfl,rfl⟩) (by simp[hXl]) ?_
 refine Sim.step hmix hΓ (n:=0) (by simp +decide;exact⟨rfl,rfl⟩) (by simp[hXl]) ?_
 refine Sim.step hmix hΓ (n:=0) (by simp +decide [wkΓ,darmS,hXl,hXs,y5];exact⟨rfl,rfl⟩) (by simp[hXl]) ?_
 refine Sim.step hmix hΓ (n:=0) (by simp +decide;exact⟨rfl,rfl⟩) (by simp[hXl]) ?_
 refine Sim.step hmix hΓ (n:=0) (by simp +decide;exact⟨rfl,rfl⟩) (by simp[hXl]) ?_
 refine Sim.seq (Sim.step hmix hΓ (n:=0) (by simp +decide;exact⟨rfl,rfl⟩) (by simp[hXl]) ?_)
 refine Sim.block (Sim.mono (Q:=fun e' F' H'=>e'=.exit 0∧∃(all:List En) (i su:Nat) (w:WL),Kb (1+(mo:Int)) all i su w∧(∀e∈all,okE e)∧all.length≤75∧i≤25∧Weak N F' H' ([.top,.top,.bool false,.top,.top,.top,.sl s 0 m 1 false,.ptr N 0,.top,.sl (N+1) 0 all.length 3 false,.int .i64 su]++qbZ 134 .top)
   (X++[.obj true w.d.blks,.cells true (ensA all)])) (Sim.loopW (fun r:Nat×List En×Nat×WL=>r.1≤n∧r.1≤25∧r.2.1.length≤3*r.1∧(∀e∈r.2.1,okE e)∧Kb (1+(mo:Int)) r.2.1 r.1 r.2.2.1 r.2.2.2)
   (fun r=>[.top,.top,.bool false,.top,.sl 0 0 n 4 false,.top,.sl s 0 m 1 false,.ptr N 0,.ptr (N+1) 0,.sl (N+2) 0 r.2.1.length 3 false,.int .i64 r.2.2.1,.int .i64 r.1]++qbZ 133 .top)
   (fun r=>X++[.obj true r.2.2.2.d.blks,.cells true (wlC N r.2.2.2.most r.2.2.2.file r.2.2.2.next r.2.2.2.done r.2.2.2.bad),.cells true (ensA r.2.1)])
   (fun r=>n-r.1) (0,[],0,⟨D0.arm (at':Int),1+mo,0,3,0,false⟩) (by simp[hXl]) ⟨qqZ _,qqZ _,qqZ _,by simp,hB0⟩ (Weak.tailG hXl hXid [1,2,100] (by decide) (by simp[AWs,AW,o0g,os]) (by simp[AWg,AWb,AW,wlC,hXl])) fun r hr=>?_) ?_)
 · obtain⟨i,all,su,⟨d,wm,wf,wn',wd,wb⟩⟩:=r
   obtain⟨hi1,hi2,hi3,hokE,hB⟩:=hr;dsimp only at hi1 hi2 hi3 hokE hB;dsimp only[qbZ,q9Z,qaZ];obtain⟨L,hL⟩:∃L,all.length=L:=⟨_,rfl⟩;have hfe:frees (ensA all)=true:=frees_ens all
   have hA1:∀rn:List Nat,AWs rn (ensA all) (ensA all):=fun rn=>AWs.refl _ _ hfe
   have hL75:L≤75:=by omega
   rw[hL]at hi3 ⊢;by_cases hlt:i<n∧i<25
   · obtain⟨hlt1,hlt2⟩:=hlt
     have g1:(i:Int)<n:=by omega
     have g2:(i:Int)<25:=by omega
     have hil:i<cs.length:=by omega
     obtain⟨c1,c2,a1,a2,a3,a4⟩:=hact i hil;have hok:=hcs _ (r3Z hil);obtain⟨⟨wh,nn,ds,nl⟩,hc⟩:∃c,cs[i]=c:=⟨_,rfl⟩;rw[hc]at a1 a4 hok;dsimp only at a1 a4;obtain⟨⟨ok1,ok2⟩,_,_,ok5,_⟩:=hok;dsimp only at ok1 ok2 ok5
     have k4:i*4+4≤n*4:=by omega
     obtain⟨W,rfl⟩:∃W:Nat,wh=W:=⟨wh.toNat,by omega⟩
     obtain⟨q,hq⟩:∃q,W % 10=q:=⟨_,rfl⟩
     have t1:(W:Int).tmod 10=q:=by rw[rrZ (by omega)];omega
     have v1:IntKind.u8.wrap (q:Int)=q:=wr_u8 (by omega) (by omega)
     have v6:IntKind.i64.wrap ((i:Int)+1)=(i:Int)+1:=wr_i64 (by omega) (by omega)
     have hsm:d.small:=hB.small (by omega) (by omega)
     refine Sim.step hmix hΓ (n:=0) (by simp +decide [g1,g2];exact⟨rfl,rfl⟩) (by simp[hXl]) ?_
     refine Sim.seq (Sim.block ?_)
     refine Sim.step hmix hΓ (n:=0) (by simp +decide [hXl,hX0g,hlt1,a1,gl,k4];exact⟨rfl,rfl⟩) (by simp[hXl]) ?_
     by_cases hq5:5≤q
     · have hqI:(5:Int)≤q:=by omega
       have hsy:=hB.sync (by omega)
       obtain⟨⟨d2,m2,f2,n2,dn2,b2⟩,e2,hx2⟩:∃w e,(⟨d,wm,wf,wn',wd,wb⟩:WL).syncs=(w,e):=⟨_,_,rfl⟩;rw[hx2]at hsy;dsimp only at hsy;rcases hsy with⟨rfl,hB2⟩ | ⟨he,hB2⟩
       · rw[hL]at hB2
         refine Sim.exec hmix hΓ (n:=0) (by simp +decide [wkΓ,wsyncsS,wlS,hXl,hXs,hXs0,t1,hqI,hsm,hx2];exact⟨rfl,rfl,rfl⟩) (by simp[hXl]) ?_
         dsimp only;rw[if_pos rfl]
         refine Sim.exec hmix hΓ (n:=0) (by simp +decide [v6];exact⟨rfl,rfl,rfl⟩) (by simp[hXl]) ?_
         exact⟨(i+1,all,L,⟨d2,m2,f2,n2,dn2,b2⟩),⟨by dsimp only;omega,by dsimp only;omega,by dsimp only;omega,hokE,hB2⟩,Weak.tailG hXl hXid [0,1,2] (by decide) (by simp[AWs,AW,o0g,os,hL]) (by simp[AWg,AWb,AW,wlC,hXl]),by dsimp only;omega⟩
       · have heb:(e2==0)=false:=by simpa using he
         refine Sim.exec hmix hΓ (n:=0) (by simp +decide [wkΓ,wsyncsS,wlS,hXl,hXs,hXs0,t1,hqI,hsm,hx2,heb];exact⟨rfl,rfl,rfl⟩) (by simp[hXl]) ?_
         dsimp only;rw[if_pos rfl]
         refine Sim.exec hmix hΓ (n:=0) (by simp +decide [v6];exact⟨rfl,rfl,rfl⟩) (by simp[hXl]) ?_
         exact⟨(i+1,all,su,⟨d2,m2,f2,n2,dn2,b2⟩),⟨by dsimp only;omega,by dsimp only;omega,by dsimp only;omega,hokE,hB2⟩,Weak.tailG hXl hXid [0,1,2] (by decide) (by simp[AWs,AW,o0g,os,hL]) (by simp[AWg,AWb,AW,wlC,hXl]),by dsimp only;omega⟩
     have hqI:¬(5:Int)≤q:=by omega
     refine Sim.step hmix hΓ (n:=0) (by simp +decide [hXl,t1,hqI];exact⟨rfl,rfl⟩) (by simp[hXl]) ?_
     obtain⟨own,hown⟩:∃own,entsOf ds 3=own:=⟨_,rfl⟩;rw[hown]at a4
     have hokO:okEs own:=by rw[←hown];exact dEs_ok ok5 3
     have hO3:own.length≤3:=by rw[←hown];exact dEs_length ds 3
     obtain⟨M,hM⟩:∃M,own.length=M:=⟨_,rfl⟩;rw[hM]at a4 hO3
     refine Sim.step hmix hΓ1 (n:=0) (by simp +decide [wkInl,wkΓ0,Tryz.f17,a4,hXl];exact⟨rfl,rfl⟩) (by simp[hXl]) ?_
     refine Sim.step hmix hΓ (n:=0) (by simp +decide [wkΓ,wdoneR,wlR,hXl];exact⟨rfl,rfl⟩) (by simp[hXl]) ?_
     have hap:=hB.append own (by omega)
     have hwk:WOk ⟨d,wm,wf,wn',wd,wb⟩ M:=hB.wok (by omega) (by omega) (by omega)
     have hd0:=hB.bd.done0;have hd1:=hB.bd.done1;dsimp only at hd0 hd1;obtain⟨⟨d2,m2,f2,n2,dn2,b2⟩,e2,hx2⟩:∃w e,(⟨d,wm,wf,wn',wd,wb⟩:WL).appends own=(w,e):=⟨_,_,rfl⟩;rw[hx2]at hap;dsimp only at hap;rw[hM]at hap;have hfo:frees (ensA own)=true:=frees_ens own
     have elo:(ensA own).length=M*3:=by rw[ensA_length,hM]
     have el:(ensA all).length=L*3:=by rw[ensA_length,hL]
     have z1:ensOf ((ensA own).take (M*3))=some own:=by rw[←elo,List.take_length];exact ensOf_ensA own
     have z5:M≤1000:=by omega
     have tk1:(ensA all).take (L*3)=ensA all:=q6Z (by omega)
     have tk2:(ensA own).take (M*3)=ensA own:=q6Z (by omega)
     have e3:ensA (all++own)=ensA all++ensA own:=by simp
     have p1:(L+M)*24≤140737488355328:=by omega
     have p2:L+M≤9223372036854775807:=by omega
     have hic:(∀x:AV,x∈ensA own→isCell x=true)=True:=eq_true fun x hx=>s5Z.1 (cells_ens own) x hx
     unfold isCell at hic
     have hA2:∀rn:List Nat,AWs rn (ensA all++ensA own) (ensA all++ensA own):=fun rn=>by rw[←e3];exact AWs.refl _ _ (frees_ens _)
     have hokA:∀e∈all++own,okE e:=fun e he=>by
       rcases qxZ.1 he with he | he
       · exact hokE e he
       · exact hokO e he
     have hLM:(all++own).length=L+M:=by rw[qdZ,hL,hM]
     have yw:IntKind.i64.wrap (wd+(M:Int))=wd+(M:Int):=wr_i64 (by omega) (by omega)
     refine Sim.step hmix hΓ (n:=0) (by simp +decide [wkΓ,wappendS,hXl,hXs,hXs0,elo,hfo,z1,hokO,z5,hM,hwk,hx2];exact⟨rfl,rfl⟩) (by simp[hXl]) ?_
     rcases hap with⟨rfl,hdn,hB2⟩ | ⟨he,hdn,hbd,hB2⟩
     · subst hdn
       refine Sim.seq (Sim.seq (Sim.plain (by simp[hXl]) ?_))
       refine SimP.many hΓ 3 rfl rfl (by simp +decide;exact⟨rfl,rfl⟩) ?_
       refine SimP.many hΓ 10 rfl rfl (by simp +decide;exact⟨rfl,rfl⟩) ?_
       refine SimP.many hΓ 3 rfl rfl (by simp +decide;exact⟨rfl,rfl⟩) ?_
       refine SimP.many hΓ 7 rfl rfl (by simp +decide [wkΓ,wdoneR,wlR,hXl,yw];exact⟨rfl,rfl⟩) ?_
       refine SimP.many hΓ 2 rfl rfl (by simp +decide;exact⟨rfl,rfl⟩) ?_
       refine SimP.done ?_;dsimp only
       refine Sim.exec hmix hΓ (n:=0) (by simp +decide;exact⟨rfl,rfl,rfl⟩) (by simp[hXl]) ?_
       dsimp only
       refine Sim.step hmix hΓ (n:=0) (by simp +decide [hXl,hXs,tk1,tk2,el,elo,p1,p2];exact⟨rfl,rfl⟩) (by simp[hXl]) ?_
       refine Sim.exec hmix hΓ (n:=0) (by simp +decide;exact⟨rfl,rfl,rfl⟩) (by simp[hXl]) ?_
       dsimp only
       refine Sim.exec hmix hΓ (n:=0) (by simp +decide [v6];exact⟨rfl,rfl,rfl⟩) (by simp[hXl]) ?_
       exact⟨(i+1,all++own,su,⟨d2,m2,f2,n2,wd+(M:Int),b2⟩),⟨by dsimp only;omega,by dsimp only;omega,by dsimp only;omega,hokA,hB2⟩,Weak.tailG hXl hXid [0,1,6] (by decide) (by simp[AWs,AW,o0g,os,hL,hM]) (by simp[AWg,AWb,AW,wlC,hXl,e3]),by dsimp only;omega⟩
     · have heb:(e2==0)=false:=by simpa using he
       have hen:(e2 != 0)=true:=by simpa using he
       subst hbd
       refine Sim.seq (Sim.seq (Sim.plain (by simp[hXl]) ?_))
       refine SimP.many hΓ 3 rfl rfl (by simp +decide [hen];exact⟨rfl,rfl⟩) ?_
       refine SimP.many hΓ 4 rfl rfl (by simp +decide [wkΓ,ddownS,hXl,hdn];exact⟨rfl,rfl⟩) ?_
       refine SimP.many hΓ 6 rfl rfl (by simp +decide [wkΓ,wbadR,wlR,hXl];exact⟨rfl,rfl⟩) ?_
       refine SimP.many hΓ 3 rfl rfl (by simp +decide [heb];exact⟨rfl,rfl⟩) ?_
       refine SimP.many hΓ 7 rfl rfl (by simp +decide;exact⟨rfl,rfl⟩) ?_
       refine SimP.many hΓ 2 rfl rfl (by simp +decide;exact⟨rfl,rfl⟩) ?_
       refine SimP.done ?_;dsimp only
       refine Sim.exec hmix hΓ (n:=0) (by simp +decide;exact⟨rfl,rfl,rfl⟩) (by simp[hXl]) ?_
       dsimp only
       refine Sim.step hmix hΓ (n:=0) (by simp +decide [hXl,hXs,tk1,tk2,el,elo,p1,p2];exact⟨rfl,rfl⟩) (by simp[hXl]) ?_
       refine Sim.exec hmix hΓ (n:=0) (by simp +decide [hen];exact⟨rfl,rfl,rfl⟩) (by simp[hXl]) ?_
       exact⟨rfl,all++own,i+1,su,_,hB2,hokA,by omega,by omega,Weak.tailG hXl hXid [0,6] (by decide) (by simp[AWs,AW,os,hL,hM]) (by simp[AWg,AWb,hXl,e3])⟩
   · have hout:∃(all':List En) (i su':Nat) (w:WL),Kb (1+(mo:Int)) all' i su' w∧(∀e∈all',okE e)∧all'.length≤75∧i≤25∧all'=all∧su'=su∧w=⟨d,wm,wf,wn',wd,wb⟩:=⟨all,i,su,_,hB,hokE,by omega,hi2,rfl,rfl,rfl⟩
     by_cases hc1:i<n
     · have hc2:¬(i:Int)<25:=by omega
       refine Sim.exec hmix hΓ (n:=0) (by simp +decide [hc1,hc2];exact⟨rfl,rfl,rfl⟩) (by simp[hXl]) ?_
       exact⟨rfl,all,i,su,_,hB,hokE,by omega,hi2,Weak.tailG hXl hXid [0,2] (by decide) (by simp[AWs,AW,os,hL]) (by simp[AWg,AWb,hXl])⟩
     · refine Sim.exec hmix hΓ (n:=0) (by simp +decide [hc1];exact⟨rfl,rfl,rfl⟩) (by simp[hXl]) ?_
       exact⟨rfl,all,i,su,_,hB,hokE,by omega,hi2,Weak.tailG hXl hXid [0,2] (by decide) (by simp[AWs,AW,os,hL]) (by simp[AWg,AWb,hXl])⟩
 rintro e F6 H6 hl6 ⟨rfl,all,i,su,w,hB,hokE,hL,hi,hw6⟩;dsimp only;rw[if_pos rfl];refine Sim.weak hw6 hl6 ?_;clear hw6 hl6 F6 H6;dsimp only[qbZ,q9Z,qaZ]
 have fin:∀(T:AHeap),Weak N [.bool true] (X++T) [.bool true] X:=fun T=>by
   have:=Weak.tail3 hXl hXid (T:=T) (Tn:=[]) (F:=[.bool true]) (Fn:=[.bool true]) [] (by decide) (by simp[AWs,AW]) rfl (fun j t x y h=>by simp at h)
   rwa [r2Z]at this
 obtain⟨f1,fnd,f2,f3,f4,f5,f6,f7⟩:=keeps_law hB hokE (by omega) (by omega) (st.take J)
 obtain⟨D,hD⟩:∃D,w.d.restart (st.take J)=D:=⟨_,rfl⟩;rw[hD]at f5 f6 f7;have hΓL:GOk Pz (gams [(23,logsAt D 3 fnd)]):=goks_cons f6 goks_nil;obtain⟨L,hL'⟩:∃L,all.length=L:=⟨_,rfl⟩;obtain⟨M,hM⟩:∃M,fnd.length=M:=⟨_,rfl⟩;rw[hL']at hL f4 ⊢;rw[hM]at f2 f3 f4
 have el:(ensA all).length=L*3:=by rw[ensA_length,hL']
 have elf:(ensA fnd).length=M*3:=by rw[ensA_length,hM]
 have q1:ensOf ((ensA fnd).take (M*3))=some fnd:=by rw[←elf,List.take_length];exact ensOf_ensA fnd
 have q2:ensOf ((ensA all).take (M*3))=some fnd:=by rw[ens_take,←f2];exact ensOf_ensA _
 have i1:¬(M:Int)<su:=by omega
 have i2:¬(L:Int)<M:=by omega
 have i3:M*3≤L*3:=by omega
 have i4:(M:Int)≤L:=by omega
 have i5:M≤1000000000000:=by omega
 have hfe:frees (ensA all)=true:=frees_ens all;have hff:frees (ensA fnd)=true:=frees_ens fnd
 refine Sim.step hmix hΓ (n:=0) (by simp +decide [-minA,minA_min,wkΓ,drestN,drest0S,drestS,rowArg,numsOf_at,hXl,hXs0,hXs',f1,hm,hJ,hJm,hJI,hJ0,hsl,hst',hD];exact⟨rfl,rfl⟩) (by simp[hXl]) ?_
 refine Sim.step hmix hΓL (n:=0) (by simp +decide [logsAt,hXl,hM];exact⟨rfl,rfl⟩) (by simp[hXl]) ?_
 refine Sim.seq (Sim.seq (Sim.plain (by simp[hXl]) ?_))
 refine SimP.many hΓ 3 rfl rfl (by simp +decide;exact⟨rfl,rfl⟩) ?_
 refine SimP.many hΓ 6 rfl rfl (by simp +decide [i1];exact⟨rfl,rfl⟩) ?_
 refine SimP.many hΓ 7 rfl rfl (by simp +decide [i2];exact⟨rfl,rfl⟩) ?_
 refine SimP.many hΓ 8 rfl rfl (by simp +decide [wkΓ,sameS_Ez,readS,rowEns,hXl,el,elf,q1,q2,i3,i4,i5,hM];exact⟨rfl,rfl⟩) ?_
 refine SimP.done ?_;dsimp only
 refine Sim.exec hmix hΓ (n:=0) (by simp +decide;exact⟨rfl,rfl,rfl⟩) (by simp[hXl]) ?_
 dsimp only;obtain⟨Q,hQ⟩:∃q,D.list.length=q:=⟨_,rfl⟩;rw[hQ]at f7;by_cases hQ0:Q=0
 · subst hQ0
   refine Sim.exec hmix hΓ (n:=0) (by simp +decide [wkΓ,dlistS,hXl,f5,hQ];exact⟨rfl,rfl,rfl⟩) (by simp[hXl]) ?_
   exact⟨.inr rfl,_,by simp[Tryz.f4] <;> rfl,fin _⟩
 · have f8:0≤logSz D 3:=f7.resolve_left hQ0
   have hQI:¬(Q:Int)=0:=by omega
   have hQb:((Q:Int)==0)=false:=beq_eq_false_iff_ne.2 hQI
   refine Sim.exec hmix hΓ (n:=0) (by simp +decide [wkΓ,dlistS,logSzS,hXl,f5,hQ,hQb,f8];exact⟨rfl,rfl,rfl⟩) (by simp[hXl]) ?_
   exact⟨.inr rfl,_,by simp[Tryz.f4] <;> rfl,fin _⟩
end
section
open Go Go.Lib
def walKeeps_shape:List (Bool×List ST):=[(true,[.one (.int .u8),.one (.int .u8),.row actST,.row [.one (.int .u16)]])]
theorem walKeeps_law:∀xs H,AbsArgsT walKeeps_shape 0 xs H→∃H',Ct Pz 4 xs H (.bool true) H':=by
 intro xs H h0;obtain⟨z1,y1,H1,H2,rfl,k0,rfl,h1⟩:=absArgsT_agg h0;obtain⟨rfl,rfl⟩:=absArgsT_nil h1;obtain⟨x1,w1,rfl,⟨a,rfl,ha⟩,k1⟩:=absT_one k0;obtain⟨x2,w2,rfl,⟨b,rfl,hb⟩,k2⟩:=absT_one k1;obtain⟨x3,w3,m3,y3,H3,H4,rfl,hx3,hm3,hd3,rfl,k3⟩:=absT_row k2;obtain⟨x4,w4,m4,y4,H5,H6,rfl,hx4,hm4,hd4,rfl,k4⟩:=absT_row k3;obtain⟨rfl,rfl⟩:=absT_nil k4;obtain⟨cs,c1,c2,c3⟩:=row_acts _ _ _ _ hd3;obtain⟨st,rfl,s2,s3,rfl⟩:=rowT_nums hd4
 subst c1;subst s2
 have ba:=bounds_u8 ha;have bb:=bounds_u8 hb;unfold maxLen at hm3 hm4
 obtain⟨H',h⟩:=keeps_ct a.toNat b.toNat (by omega) (by omega) cs c2 (by omega) st s3 (by omega)
 rw[show ((a.toNat:Nat):Int)=a by omega,show ((b.toNat:Nat):Int)=b by omega]at h
 refine ⟨H',ct_weak (Weak.args fun rn hr=>?_) h⟩
 have hlen:H3.length=(ablks 1 cs).length:=(all2_len (c3 (List.range (1+H3.length)) (fun i hi=>rfZ (by omega))).2).symm
 have hr':∀i,i<H3.length+2→rn[i]? = some i:=fun i hi=>hr i (by simp;omega)
 obtain⟨g1,g2⟩:=c3 rn fun i hi=>hr' i (by omega)
 refine ⟨⟨⟨⟨rfl,rfl⟩,⟨rfl,rfl⟩,sl_weak hx3 (hr' 0 (by omega)),?_,trivial⟩,trivial⟩,?_⟩
 · have:=sl_weak hx4 (rn:=rn) (hr' _ (by omega))
   rwa [hlen,show 0+1+(ablks 1 cs).length=(ablks 1 cs).length+1 by omega]at this
 · have e:(.cells false y3::(H3++.cells false (numA st)::([]++[]))++[]:AHeap)=(.cells false y3::H3)++[.cells false (numA st)]:=by simp
   rw[e];exact All2.app ⟨⟨id,g1⟩,g2⟩ ⟨⟨id,AWs.refl _ _ (frees_numA _)⟩,trivial⟩
end
end Go.Proofs.YtpmfecnajoojeaaGreatDoor
