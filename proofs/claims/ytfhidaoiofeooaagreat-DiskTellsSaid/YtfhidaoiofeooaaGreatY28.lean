/- Parts of the proof of DiskTells: lemmas, each with its own conditions. -/
import Derived.Test.YtfhidaoiofeooaaGreatY27
set_option maxHeartbeats 64000000
open List renaming getElem?_eq_some_iff → q1Z, getD_eq_getElem?_getD → q2Z, getElem?_eq_getElem → q3Z, getElem?_append_left → q4Z, take_of_length_le → q6Z, length_cons → q7Z, length_nil → q8Z, cons_append → q9Z, nil_append → qaZ, replicate → qbZ, mem_of_getElem? → qcZ, length_take → qjZ, mem_cons → qwZ, getElem?_map → qzZ, append_nil → r2Z, getElem_mem → r3Z, getElem?_take → r4Z, getElem?_drop → r5Z, getElem?_cons_succ → r9Z, flatten_cons → rcZ, mem_map → reZ, getElem?_range → rfZ, replicate_succ → rvZ
open Option renaming map_eq_some_iff → qlZ, getD_some → rgZ, map_some → rhZ
open Nat renaming le_refl → qnZ, zero_le → qqZ, min_eq_left → sfZ
open Int renaming tmod_eq_emod_of_nonneg → rrZ
namespace Go.Proofs.YtfhidaoiofeooaaGreat
open _root_.Go.Proofs.Tryz renaming prog → Pz
set_option maxRecDepth 100000
section
open Go
def zGI:List FuncId:=[4,9,10,44,48,11,70,32,52,54,67,68,6,41,50,46,69,64,61,71,56,15,16,17,18,27,28,29,30,33,105,106,109,110,22,26,34,35,36,37,38,60,115,116,118,101,102,112,113,108,124,72,73,74,75,88,92,93,94,99,133,83,87,95,98,132,135,127,131,176,177]
def zF0:zU:=zMX fun | []=>some (.bool true) | _=>none
theorem zIm {f : FuncId} {fn : Func} (hf : Tryz.prog.funcs[f]? = some fn) (hb : fn.body.isSome = true) (hn : (fn.name == "runtime.NumGoroutine") = false) (h : Ct Pz f [] [] (.bool true) []) : Sound Pz f zF0 := by
 refine zI3 (zE hf hb hn) fun args v hv=>?_
 split at hv <;> cases hv
 exact⟨h,rfl,rfl⟩
noncomputable def zFx:Gam:=zo [(97,zKG),(96,zDP),(82,zAC),(31,zPa),(8,zTI)]
theorem zNo:GOk Pz zFx:=zB zIR (zB zFo (zB zB8 (zB join_sound2 (zB zMs zC))))
noncomputable abbrev zGZ:Code:=zCO Tryz.f14
noncomputable abbrev zSO:List AV:=[]++qbZ (Tryz.f14.ntmps-0) zd
abbrev zRh:zA:=[]
noncomputable abbrev zJ8:Code:=zBx 6 zGZ
def zJs:List AV:=[.bool false,.ptr 2 0,.int .i64 (0),.int .i64 (0),.int .i64 (10),.bool true,.ptr 8 0,.ptr 16 0,.tuple [],.tuple [],.tuple [],.tuple []]++qbZ 16 .top++[.tuple [],.tuple [],.top,.tuple [],.tuple [],.top,.tuple [],.tuple [],.top]++qbZ 51 (.tuple [])
def zJu:zA:=[.map [],.cells true [.map 0,.map 3,.nils,.int .i64 (1)],.cells true [.ptr 1 0,.map 4,.int .i64 (10),.int .i64 (3),.int .i64 (0),.bool false],.map [],.map [],.map [(.str [97],.int .i64 (1))],.cells true [.map 5,.map 10,.nils,.int .i64 (1)],.map [(.int .i64 (1),.ptr 9 0)],.cells true [.ptr 6 0,.map 7,.int .i64 (10),.int .i64 (5),.int .i64 (0),.bool false],.cells true [.str [120,121],.slice 12 0 1 1 false,.str [120,121,122]],.map [(.str [97],.int .i64 (1))],.cells true [.str [122]],.cells true [.func 93 [] [.ptr 11 0]],.map [(.str [97],.int .i64 (1))],.cells true [.map 13,.map 18,.nils,.int .i64 (1)],.map [(.int .i64 (1),.ptr 17 0)],.cells true [.ptr 14 0,.map 15,.int .i64 (10),.int .i64 (5),.int .i64 (0),.bool false],.cells true [.str [120,121],.slice 20 0 1 1 false,.str [120,121,122]],.map [(.str [97],.int .i64 (1))],.cells true [.str [122]],.cells true [.func 93 [] [.ptr 19 0]]]
theorem zPp:zQa 0 (zDK Pz (zBf Pz zFx 400 zGI 30) 400 true 6 zGZ zSO zRh) zJs zJu=true:=by kernel_rfl
noncomputable abbrev zR9:Code:=zBx 6 zJ8
def zKf:List AV:=[.bool true]++qbZ 87 .top
def zKV:zA:=[]
theorem zPk:zQa 0 (zDK Pz (zBf Pz zFx 400 zGI 30) 400 true 6 zJ8 zJs zJu) zKf zKV=true:=by kernel_rfl
theorem zM7:zUI Pz Tryz.f14.results.toList (zq Pz (zBf Pz zFx 400 zGI 30) 400 true zR9 zKf zKV)=true:=by kernel_rfl
theorem zPU:Ct Pz 14 [] [] (.bool true) []:=by
 have hΓ:=zJD hmix zNo 400 zGI 30
 refine zG (c:=zGZ) Tryz.func14 (by kernel_rfl) ?_
 refine Sim.kmanyM (n:=400) hmix hΓ 6 zPp (qqZ _) ?_;refine Sim.kmanyM (n:=400) hmix hΓ 6 zPk (qqZ _) ?_;exact Sim.kret (n:=400) hmix hΓ zM7
theorem zJk:Sound Pz 14 zF0:=zIm Tryz.func14 rfl (by decide) zPU
end
section
open Go Go.Lib
attribute [-simp] zN zr ZI zT ZL
noncomputable def zFS:Gam:=zo [(14,zF0),(4,zML),(5,zNK),(6,zFg),(7,zCk),(8,zHh),(9,zJ6),(10,zIt),(11,zLM),(13,zFs)]
theorem zQi:GOk Pz zFS:=zB zJk (zB zP4 (zB zPg (zB zNf (zB zHL (zB zKn (zB zIV (zB zND (zB zLn (zB zLz zC)))))))))
abbrev zGc(x:List (List UInt8×List UInt8)):List (List UInt8×List UInt8):=x.map fun e=>(e.1,e.2.take 30)
abbrev dtF(n L:Nat)(q:Int):List AV:=[.sl 0 0 n 2 false,.int .i16 q,.sl 1 0 L 6 false,.top,.top,.top,.top]
def zTw:Code->Code
 | .seq x _=>x
 | c=>c
theorem zVB(A:zA)(N L n:Nat)(q:Int)(hNe:L+2=N)(hN:A.length=N)(l:List DA)(hok:∀a∈l,a.ok)(hL:l.length=L)(hA1:A[1]? = some (.cells false (zBn 2 l)))(hA2:∀i (h:i<l.length),A[i+2]? = some (.cells false (zp l[i].l)))
   (hid:∀rn:List Nat,(∀i,i<N->rn[i]? = some i)->∀B∈A,AWb rn B B) (d0:DS) (r0:RS) (h0:RD r0 d0 18 30) (hq0:d0.quota<=40000) (hll:L<=9223372036854775807) :
   Sim Pz none N (zTw (zBx 6 (zCO Tryz.f3))) (dtF n L q++[.top,.top,.ptr N 0,.ptr (N+1) 0]++qbZ 106 .top) (A++[.obj true d0.blks,.obj true r0.blks])
     fun e F' H'=>e=.normal/\Weak N F' H' (qbZ 117 .top) A:=by
 have hΓ:=zQi;simp only[zCO,Tryz.f3,rgZ,zBx,zTw,qbZ,q9Z,qaZ];have hX:=ZC A hN;have hXg:=hX.get;have hXg0:=hX.get0;have hXs:=hX.set;have hXs0:=hX.set0
 have l0:0<N:=by omega
 have l1:1<N:=by omega
 have c1:∀T:zA,(A++T)[1]? = some (.cells false (zBn 2 l)):=fun T=>by rw[q4Z (by omega)];exact hA1
 have c1':∀(T:zA) h,(A++T)[1]'h=.cells false (zBn 2 l):=fun T h=>(q1Z.1 (c1 T)).2
 have o0:∀ts:List Nat,(List.range N++ts)[0]? = some 0:=fun ts=>zAh _ _ (by omega)
 have o1:∀ts:List Nat,(List.range N++ts)[1]? = some 1:=fun ts=>zAh _ _ (by omega)
 have o2:∀ts:List Nat,(List.range N++ts)[N]? = ts[0]?:=fun ts=>zFW _ _
 have o3:∀ts:List Nat,(List.range N++ts)[N+1]? = ts[1]?:=fun ts=>zGu N ts 1
 have o0':∀(ts:List Nat) h,(List.range N++ts)[0]'h=0:=fun ts h=>(q1Z.1 (o0 ts)).2
 have o1':∀(ts:List Nat) h,(List.range N++ts)[1]'h=1:=fun ts h=>(q1Z.1 (o1 ts)).2
 have gd:(zBn 2 l).length=L*6:=by rw[zD2,hL]
 have keep:∀(i:Nat) (d:DS) (r:RS) (a b:Nat) (F:List AV) (T:zA),a≠b->(A++T)[N+a]? = some (.obj true d.blks)->(A++T)[N+b]? = some (.obj true r.blks)->AWs (List.range N++[N+a,N+b]) (dtF n L q++.top::.top::.ptr N 0::.ptr (N+1) 0::.int .i64 i::qbZ 105 .top) F ->
     Weak N F (A++T) (dtF n L q++.top::.top::.ptr N 0::.ptr (N+1) 0::.int .i64 i::qbZ 105 .top) (A++[.obj true d.blks,.obj true r.blks]):=fun i d r a b F T hab ha hb hF =>
   Weak.tailG hN hid [a,b] (by simp[hab]) hF (by simp[AWg,AWb,q2Z,ha,hb,hN])
 refine Sim.step hmix hΓ (n:=0) (by simp;exact⟨rfl,rfl⟩) (by simp[hN]) ?_
 refine Sim.block (Sim.loopW (fun s:Nat×DS×RS=>s.1<=L/\s.1<=50/\RD s.2.2 s.2.1 (18+2*s.1) (30+40000*s.1)/\s.2.1.quota<=40000) (fun s=>dtF n L q++.top::.top::.ptr N 0::.ptr (N+1) 0::.int .i64 s.1::qbZ 105 .top) (fun s=>A++[.obj true s.2.1.blks,.obj true s.2.2.blks])
   (fun s=>50-s.1) (0,d0,r0) (by simp[hN]) ⟨qqZ _,qqZ _,h0,hq0⟩ (keep 0 d0 r0 0 1 _ _ (by decide) (by simp[hXg0]) (by simp[hXg]) (by simp[AWs,AW,o0',o1'])) fun s hs=>?_)
 obtain⟨i,d,r⟩:=s;obtain⟨hi1,hi2,hrd,hq⟩:=hs;dsimp only at hi1 hi2 hrd hq;dsimp only[qbZ,q9Z,qaZ];by_cases hlt:i<L/\i<50;rotate_left
 · have hend:∀(T:zA) (F:List AV),F.length=117->Weak N F (A++T) (qbZ 117 .top) A:=fun T F hF=>by
     have:=Weak.tailG hN hid (T:=T) (Tn:=[]) (F:=F) (Fn:=qbZ 117 .top) [] (by decide) (zAO _ _ _ hF) (by simp[AWg])
     rwa [r2Z]at this
   by_cases h1:i<L
   · have hltI:(i:Int)<L:=by omega
     have h30:¬(i:Int)<50:=by omega
     refine Sim.exec hmix hΓ (n:=0) (by simp +decide [hltI,h30];exact⟨rfl,rfl,rfl⟩) (by simp[hN]) ?_
     dsimp only;rw[if_pos rfl];exact⟨rfl,hend _ _ rfl⟩
   · have hltI:¬(i:Int)<L:=by omega
     refine Sim.exec hmix hΓ (n:=0) (by simp +decide [hltI];exact⟨rfl,rfl,rfl⟩) (by simp[hN]) ?_
     dsimp only;rw[if_pos rfl];exact⟨rfl,hend _ _ rfl⟩
 obtain⟨hlt,h50⟩:=hlt
 have hltI:(i:Int)<L:=by omega
 have h50I:(i:Int)<50:=by omega
 have hil:i<l.length:=by omega
 obtain⟨x,hx⟩:∃x,l[i]=x:=⟨_,rfl⟩
 have hxo:=hok x (by rw[<-hx];exact r3Z hil)
 have hg:=zQN l 2 i hil;rw[hx]at hg;have hb:=hA2 i hil;rw[hx]at hb
 have hcell:∀j,j<6->(zBn 2 l)[i*6+j]? = (daA (2+i) x)[j]?:=fun j hj=>by
   rw[<-hg,r4Z,if_pos hj,r5Z]
 have g0:(zBn 2 l)[i*6]? = some (.int .u8 x.w):=hcell 0 (by decide)
 have g0':∀h,(zBn 2 l)[i*6]'h=.int .u8 x.w:=fun h=>(q1Z.1 g0).2
 have b0:i*6<L*6:=by omega
 have b6:i*6+6<=L*6:=by omega
 have e2i:2+i=i+2:=by omega
 simp only[daA,e2i]at hg
 have t1:(x.w:Int).tmod 17=((x.w % 17:Nat):Int):=by rw[rrZ (by omega)];omega
 obtain⟨p,hp⟩:∃p,x.w % 17=p:=⟨_,rfl⟩;rw[hp]at t1
 have hp17:p<17:=by omega
 have w1:IntKind.u8.wrap (p:Int)=p:=zQU (by omega) (by omega)
 have y1:IntKind.i64.wrap ((i:Int)+1)=i+1:=zV (by omega) (by omega)
 refine Sim.step hmix hΓ (n:=0) (by simp +decide [hltI,h50I];exact⟨rfl,rfl⟩) (by simp[hN]) ?_
 refine Sim.seq (Sim.block ?_);by_cases hp16:p=16
 · subst hp16
   have hk0:=hrd.ok
   have hkc:d.ok 900000 1000000000:=DS.ok_mono hk0 (by omega) (by omega)
   have hk1:=DS.ok_create hk0 [108,101,102,116];have q1:=zE5 d [108,101,102,116];obtain⟨d1,hd1⟩:∃z,(d.create [108,101,102,116]).1=z:=⟨_,rfl⟩;rw[hd1]at hk1 q1
   have hk2:=DS.ok_append hk1 [97] [98,101,104,105,110,100] 40000 (by decide) (by omega)
   obtain⟨d2,hd2⟩:∃z,(d1.append [97] [98,101,104,105,110,100]).1=z:=⟨_,rfl⟩;rw[hd2]at hk2
   have s0:d.small:=DS.ok_mono hk0 (by omega) (by omega)
   have s1:d1.small:=DS.ok_mono hk1 (by omega) (by omega)
   have s2:d2.small:=DS.ok_mono hk2 (by omega) (by omega)
   have q2:d1.quota<=1000000000000:=by omega
   have hra:RD r d 800000 1000000000000:=hrd.mono (by omega) (by omega)
   refine Sim.seq (Sim.step hmix hΓ (n:=0) (by simp +decide [hN,c1',gd,hlt,b0,g0',t1];exact⟨rfl,rfl⟩) (by simp[hN]) ?_)
   refine Sim.cond (t:=true) (by simp) ?_
   rw[if_pos rfl]
   refine Sim.step hmix hΓ (n:=0) (by simp +decide [zFS,zHh,hN,hkc];exact⟨rfl,rfl⟩) (by simp[hN]) ?_
   refine Sim.step hmix hΓ (n:=0) (by simp +decide [zFS,zJ6,hN,hXs0,s0,hd1];exact⟨rfl,rfl⟩) (by simp[hN]) ?_
   refine Sim.step hmix hΓ (n:=0) (by simp +decide [zFS,zIt,hN,hXs0,s1,q2,hd2,zk,Zx];exact⟨rfl,rfl⟩) (by simp[hN]) ?_
   refine Sim.step hmix hΓ (n:=0) (by simp +decide [zFS,zLM,zLV,hN,hXs0,s2];exact⟨rfl,rfl⟩) (by simp[hN]) ?_
   refine Sim.exec hmix hΓ (n:=0) (by simp +decide;exact⟨rfl,rfl,rfl⟩) (by simp[hN]) ?_
   dsimp only
   refine Sim.exec hmix hΓ (n:=0) (by simp +decide [zFS,zFs,hN,hra];exact⟨rfl,rfl,rfl⟩) (by simp[hN]) ?_
   dsimp only
   refine Sim.exec hmix hΓ (n:=0) (by simp +decide [y1];exact⟨rfl,rfl,rfl⟩) (by simp[hN]) ?_
   exact⟨(i+1,d,r),⟨by dsimp only;omega,by dsimp only;omega,hrd.mono (by dsimp only;omega) (by dsimp only;omega),hq⟩,keep (i+1) d r 2 1 _ _ (by decide) (by simp[hXg]) (by simp[hXg]) (by simp[AWs,AW,o0',o1']),by dsimp only;omega⟩
 · have hpI:((p:Int)==16)=false:=by simp;omega
   have hpI2:¬(p:Int)=16:=by omega
   obtain⟨d',r',hrd',hq',hct⟩:=zTy hN x hxo (i+2) hb d r hrd (by omega) (by omega) hq
   have hΓ2:GOk Pz (zo [(12,zCy _ _ _ _)]):=zB (ZH (zE Tryz.func12 rfl (by decide)) hct (by simp)) zC
   have hra:RD r' d' 800000 1000000000000:=hrd'.mono (by omega) (by omega)
   refine Sim.seq (Sim.step hmix hΓ (n:=0) (by simp +decide [hN,c1',gd,hlt,b0,g0',t1,hpI];exact⟨rfl,rfl⟩) (by simp[hN]) ?_)
   refine Sim.cond (t:=false) (by simp) ?_
   rw[if_neg (by decide)]
   refine Sim.exec hmix hΓ2 (n:=0) (by simp +decide [hN,c1',gd,hlt,b6,hg,List.range,List.range.loop];exact⟨rfl,rfl,rfl⟩) (by simp[hN]) ?_
   dsimp only
   refine Sim.exec hmix hΓ (n:=0) (by simp +decide [zFS,zFs,hN,hra];exact⟨rfl,rfl,rfl⟩) (by simp[hN]) ?_
   dsimp only
   refine Sim.exec hmix hΓ (n:=0) (by simp +decide [y1];exact⟨rfl,rfl,rfl⟩) (by simp[hN]) ?_
   exact⟨(i+1,d',r'),⟨by dsimp only;omega,by dsimp only;omega,hrd'.mono (by dsimp only;omega) (by dsimp only;omega),by dsimp only;omega⟩,keep (i+1) d' r' 0 1 _ _ (by decide) (by simp[hXg0]) (by simp[hXg]) (by simp[AWs,AW,o0',o1']),by dsimp only;omega⟩
theorem zLu(x:List (List UInt8×List UInt8))(hx:∀e∈x,e.1.length<=9223372036854775807/\e.2.length<=9223372036854775807)(hxl:x.length<=9223372036854775807)(q:Int)(hq : -32768<=q/\q<=32767)(l:List DA)(hok:∀a∈l,a.ok)(hll:l.length<=9223372036854775807) :
   ∃H',Ct Pz 3 [.sl 0 0 x.length 2 false,.int .i16 q,.sl 1 0 l.length 6 false] (.cells false (flA x)::.cells false (zBn 2 l)::zFc l) (.bool true) H':=by
 have hΓ:=zQi;refine ⟨.cells false (flA x)::.cells false (zBn 2 l)::zFc l,zG Tryz.func3 rfl ?_⟩;simp only[Tryz.ntmps3,q7Z,q8Z,Nat.reduceAdd,Nat.reduceSub,qbZ,q9Z,qaZ];obtain⟨A,hA⟩:∃A,(ABlk.cells false (flA x)::.cells false (zBn 2 l)::zFc l)=A:=⟨_,rfl⟩;obtain⟨n,hn⟩:∃n,x.length=n:=⟨_,rfl⟩;obtain⟨L,hL⟩:∃L,l.length=L:=⟨_,rfl⟩;obtain⟨N,hNe⟩:∃N,L+2=N:=⟨_,rfl⟩
 have hN:A.length=N:=by rw[<-hA,<-hNe];simp[zFc,hL]
 have hA0:A[0]? = some (.cells false (flA x)):=by rw[<-hA];rfl
 have hA1:A[1]? = some (.cells false (zBn 2 l)):=by rw[<-hA];rfl
 have hA2:∀i (h:i<l.length),A[i+2]? = some (.cells false (zp l[i].l)):=fun i h=>by
   rw[<-hA];simp only[r9Z,zFc,qzZ,q3Z h,rhZ]
 have hid:∀rn:List Nat,(∀i,i<N->rn[i]? = some i)->∀B∈A,AWb rn B B:=fun rn hr B hB=>by
   rw[<-hA]at hB;rcases qwZ.1 hB with rfl | hB
   · exact⟨id,AWs.refl _ _ (ZS x)⟩
   rcases qwZ.1 hB with rfl | hB
   · exact⟨id,AWs.pre hr _ (zIU l 2 _ (by omega))⟩
   · obtain⟨e,_,rfl⟩:=reZ.1 hB
     exact⟨id,AWs.refl _ _ (ZB _)⟩
 have hN1:(ABlk.cells false (zBn 2 l)::zFc l).length+1=N:=by simp[zFc,hL];omega
 have hN2:(zFc l).length+1+1=N:=by simp[zFc,hL];omega
 rw[hA,hn,hL];simp only[hN2];rw[hn]at hxl;rw[hL]at hll;clear hN1 hN2 hA;have hX:=ZC A hN;have hXg:=hX.get;have hXg0:=hX.get0;have hXs:=hX.set;have hXs0:=hX.set0
 have l0:0<N:=by omega
 have l1:1<N:=by omega
 have c0:∀T:zA,(A++T)[0]? = some (.cells false (flA x)):=fun T=>by rw[q4Z (by omega)];exact hA0
 have c1:∀T:zA,(A++T)[1]? = some (.cells false (zBn 2 l)):=fun T=>by rw[q4Z (by omega)];exact hA1
 have c0':∀(T:zA) h,(A++T)[0]'h=.cells false (flA x):=fun T h=>(q1Z.1 (c0 T)).2
 have c1':∀(T:zA) h,(A++T)[1]'h=.cells false (zBn 2 l):=fun T h=>(q1Z.1 (c1 T)).2
 have o0:∀ts:List Nat,(List.range N++ts)[0]? = some 0:=fun ts=>zAh _ _ (by omega)
 have o1:∀ts:List Nat,(List.range N++ts)[1]? = some 1:=fun ts=>zAh _ _ (by omega)
 have o2:∀ts:List Nat,(List.range N++ts)[N]? = ts[0]?:=fun ts=>zFW _ _
 have o3:∀ts:List Nat,(List.range N++ts)[N+1]? = ts[1]?:=fun ts=>zGu N ts 1
 have o0':∀(ts:List Nat) h,(List.range N++ts)[0]'h=0:=fun ts h=>(q1Z.1 (o0 ts)).2
 have o1':∀(ts:List Nat) h,(List.range N++ts)[1]'h=1:=fun ts h=>(q1Z.1 (o1 ts)).2
 have gl:(flA x).length=n*2:=by rw[zCE,hn]
 have gd:(zBn 2 l).length=L*6:=by rw[zD2,hL]
 have wq:IntKind.i64.wrap q=q:=zV (by omega) (by omega)
 refine Sim.step hmix hΓ (n:=0) (by simp;exact⟨rfl,rfl⟩) (by simp[hN]) ?_
 refine Sim.step hmix hΓ (n:=0) (by simp;exact⟨rfl,rfl⟩) (by simp[hN]) ?_
 refine Sim.seq (Sim.step hmix hΓ (n:=0) (by simp;exact⟨rfl,rfl⟩) (by simp[hN]) ?_)
 refine Sim.block (Sim.mono (Q:=fun e' F' H'=>e'=.exit 0/\Weak N F' H' (dtF n L q++.sl N 0 (zGc (x.take 8)).length 2 false::qbZ 109 .top) (A++[.cells true (flA (zGc (x.take 8)))]))
   (Sim.loopW (fun k:Nat=>k<=n/\k<=8) (fun k=>dtF n L q++.sl N 0 k 2 false::.int .i64 k::qbZ 108 .top) (fun k=>A++[.cells true (flA (zGc (x.take k)))])
   (fun k=>n-k) 0 (by simp[hN]) ⟨qqZ _,by decide⟩ ?_ fun k hk=>?_) ?_)
 · have key:∀F:List AV,AWs (List.range N++[N+100]) (dtF n L q++.sl N 0 0 2 false::.int .i64 0::qbZ 108 .top) F->Weak N F A (dtF n L q++.sl N 0 0 2 false::.int .i64 0::qbZ 108 .top) (A++[.cells true []]):=fun F hF=>by
     have:=Weak.tailG hN hid (T:=[]) (Tn:=[.cells true []]) (F:=F) [100] (by decide) hF (by simp[AWg,AWb,hN])
     rwa [r2Z]at this
   exact key _ (by simp[AWs,AW,o1,o0'])
 · obtain⟨hk1,hk2⟩:=hk
   dsimp only[qbZ,q9Z,qaZ];by_cases hlt:k<n/\k<8
   · obtain⟨d1,d2⟩:=hlt
     have d1i:(k:Int)<n:=by omega
     have d2i:(k:Int)<8:=by omega
     have hkl:k<x.length:=by omega
     obtain⟨e,he⟩:∃e,x[k]=e:=⟨_,rfl⟩;have hg:=zCY x k hkl;rw[he]at hg
     have hg1:(flA x)[k*2]? = some (.str e.1):=by
       have:=congrArg (·[0]?) hg
       simpa[r4Z] using this
     have hg2:(flA x)[k*2+1]? = some (.str e.2):=by
       have:=congrArg (·[1]?) hg
       simpa[r4Z] using this
     have hg1':∀h,(flA x)[k*2]'h=.str e.1:=fun h=>(q1Z.1 hg1).2
     have hg2':∀h,(flA x)[k*2+1]'h=.str e.2:=fun h=>(q1Z.1 hg2).2
     have hee:=hx e (by rw[<-he];exact r3Z hkl)
     obtain⟨J,hJ⟩:∃J:Nat,min (e.2.length:Int) 30=J:=⟨min e.2.length 30,by omega⟩
     have hJ0:(0:Int)<=J:=by omega
     have hJ1:(J:Int)<=e.2.length:=by omega
     have hJ2:J<=e.2.length:=by omega
     have htk:e.2.take J=e.2.take 30:=by
       have:J=min 30 e.2.length:=by omega
       rw[this];by_cases h:e.2.length<=30
       · rw[Nat.min_eq_right h,List.take_length,q6Z h]
       · rw[sfZ (by omega)]
     have hnext:flA (zGc (x.take (k+1)))=flA (zGc (x.take k))++[.str e.1,.str (e.2.take 30)]:=by
       have:zGc (x.take (k+1))=zGc (x.take k)++[(e.1,e.2.take 30)]:=by
         unfold zGc;rw[List.take_add_one,q3Z hkl,he];simp
       rw[this,zDI];rfl
     obtain⟨R,hR⟩:∃R,flA (zGc (x.take k))=R:=⟨_,rfl⟩
     have hRl:R.length=k*2:=by rw[<-hR,zCE];simp;omega
     have hRf:zh R=true:=by rw[<-hR];exact ZS _
     have hRt:R.take (k*2)=R:=q6Z (by omega)
     rw[hR]at hnext ⊢
     have hRn:∀rn:List Nat,AWs rn (R++[.str e.1,.str (e.2.take 30)]) (R++[.str e.1,.str (e.2.take 30)]):=fun rn=>AWs.refl _ _ (by rw[<-hnext];exact ZS _)
     have y1:IntKind.i64.wrap ((k:Int)+1)=k+1:=zV (by omega) (by omega)
     have k1:k*2+2<=n*2:=by omega
     have k2:k*2<n*2:=by omega
     have k3:k*2+1<n*2:=by omega
     have p1:(k+1)*32<=140737488355328:=by omega
     have p2:k+1<=9223372036854775807:=by omega
     refine Sim.step hmix hΓ (n:=0) (by simp +decide [d1i,d2i];exact⟨rfl,rfl⟩) (by simp[hN]) ?_
     refine Sim.seq (Sim.block ?_)
     refine Sim.draw hmix (by simp[hN]) ?_
     refine SimR.many hΓ 21 (by simp[zI];rfl) (by omega) (by kernel_rfl) (by simp +decide [-ZK,zn,hN,c0',gl,d1,k2,k3,hg1',hg2',hJ,hJ0,hJ1,htk];first | exact⟨rfl,rfl⟩ | exact⟨by kernel_rfl,rfl,rfl⟩) ?_
     refine SimR.one hΓ _ rfl (by kernel_rfl) (by simp +decide [hN,hXs0,hRl,hRt,p1,p2];exact⟨rfl,rfl⟩) ?_
     refine SimR.one hΓ _ rfl (by kernel_rfl) (by simp +decide;exact⟨rfl,rfl⟩) ?_
     refine SimR.done rfl ?_;dsimp only
     refine Sim.exec hmix hΓ (n:=0) (by simp +decide [y1];exact⟨rfl,rfl,rfl⟩) (by simp[hN]) ?_
     refine ⟨k+1,⟨by omega,by omega⟩,?_,by omega⟩
     rw[hnext]
     exact Weak.tailG hN hid [2] (by decide) (by simp[AWs,AW,o1,o0']) (by simp[AWg,AWb,hN,hRn])
   · have hke:x.take k=x.take 8:=by
       by_cases h:k<n
       · have:k=8:=by omega
         rw[this]
       · rw[q6Z (by omega),q6Z (by omega)]
     have hkl:(zGc (x.take 8)).length=k:=by rw[<-hke];simp;omega
     rw[hke,hkl]
     have hA8:∀rn:List Nat,AWs rn (flA (zGc (x.take 8))) (flA (zGc (x.take 8))):=fun rn=>AWs.refl _ _ (ZS _)
     by_cases d1:k<n
     · have d1i:(k:Int)<n:=by omega
       have d2i:¬(k:Int)<8:=by omega
       refine Sim.exec hmix hΓ (n:=0) (by simp +decide [d1i,d2i];exact⟨rfl,rfl,rfl⟩) (by simp[hN]) ?_
       exact⟨rfl,Weak.tailG hN hid [0] (by decide) (by simp[AWs,AW,o1,o0']) (by simp[AWg,AWb,hN])⟩
     · have d1i:¬(k:Int)<n:=by omega
       refine Sim.exec hmix hΓ (n:=0) (by simp +decide [d1i];exact⟨rfl,rfl,rfl⟩) (by simp[hN]) ?_
       exact⟨rfl,Weak.tailG hN hid [0] (by decide) (by simp[AWs,AW,o1,o0']) (by simp[AWg,AWb,hN])⟩
 rintro _ F6 H6 hl6 ⟨rfl,hw6⟩;dsimp only;rw[if_pos rfl];refine Sim.weak hw6 hl6 ?_;clear hw6 hl6 F6 H6;dsimp only[qbZ,q9Z,qaZ];obtain⟨own,hown⟩:∃own,zGc (x.take 8)=own:=⟨_,rfl⟩
 have hol:own.length<=8:=by rw[<-hown];simp;omega
 have ho1:zJF own:=fun e he=>by
   rw[<-hown]at he;obtain⟨e0,h0,rfl⟩:=reZ.1 he;exact (hx e0 (List.mem_of_mem_take h0)).1
 have ho2:∀e∈own,e.2.length<=30:=fun e he=>by
   rw[<-hown]at he;obtain⟨e0,h0,rfl⟩:=reZ.1 he
   dsimp only;rw[qjZ];omega
 rw[hown]
 have ol1:own.length<=900000:=by omega
 have ol2:own.length<=1000000:=by omega
 have hrd:=RD.ofF own ho2 q (by omega)
 have fin:∀d r,RD r d 18 30->d.quota<=40000->Sim Pz none N (zBx 6 (zCO Tryz.f3)) (dtF n L q++[.top,.top,.ptr N 0,.ptr (N+1) 0]++qbZ 106 .top) (A++[.obj true d.blks,.obj true r.blks])
     fun x F1 H1=>(x=.normal\/x=.ret)/\∃v1,zBv Pz Tryz.f3.results.toList F1 H1=some v1/\Weak N [v1] H1 [.bool true] A:=fun d r h1 h2=>by
   have hlp:=zVB A N L n q hNe hN l hok hL hA1 hA2 hid d r h1 h2 hll;simp only[zCO,Tryz.f3,rgZ,zBx,zTw]at hlp ⊢
   refine Sim.seq (hlp.mono fun e F' H' hl h=>?_)
   obtain⟨rfl,hw⟩:=h;dsimp only;refine Sim.weak hw hl ?_;clear hlp hw hl;simp only[qbZ]
   refine Sim.exec hmix hΓ (n:=0) (by simp +decide [zFS,zF0];exact⟨rfl,rfl,rfl⟩) (by simp[hN]) ?_
   refine ⟨.inr rfl,_,by simp <;> rfl,?_⟩
   have:=Weak.tailG hN hid (T:=[]) (Tn:=[]) (F:=[.bool true]) (Fn:=[.bool true]) [] (by decide) (by simp[AWs,AW]) (by simp[AWg])
   rwa [r2Z]at this
 have fin2:∀d r (F:List AV) (T:zA) (a b:Nat),RD r d 18 30->d.quota<=40000->a≠b->(A++T)[N+a]? = some (.obj true d.blks)->(A++T)[N+b]? = some (.obj true r.blks)->AWs (List.range N++[N+a,N+b]) (dtF n L q++[.top,.top,.ptr N 0,.ptr (N+1) 0]++qbZ 106 .top) F ->
     Sim Pz none N (zBx 6 (zCO Tryz.f3)) F (A++T)
     fun x F1 H1=>(x=.normal\/x=.ret)/\∃v1,zBv Pz Tryz.f3.results.toList F1 H1=some v1/\Weak N [v1] H1 [.bool true] A:=fun d r F T a b h1 h2 hab ha hb hF =>
   Sim.weak (Weak.tailG hN hid [a,b] (by simp[hab]) hF (by simp[AWg,AWb,q2Z,ha,hb,hN])) (by simp[hN]) (fin d r h1 h2)
 simp only[zCO,Tryz.f3,rgZ,zBx,qbZ,q9Z,qaZ]at fin2 ⊢;rcases hrd with⟨e1,e2⟩ | ⟨r,d,e1,e2,hrd⟩
 · -- there is none
   have hn0:=RD.new 100 (by decide) (by decide)
   have hn1:=hn0.mono (show 0<=18 by decide) (show 0<=30 by decide)
   refine Sim.step hmix hΓ (n:=0) (by simp +decide [zFS,zML,zNK,hN,e1,e2,wq,ol1,ol2,ho1];exact⟨rfl,rfl⟩) (by simp[hN]) ?_
   by_cases hq0:0<=q
   · refine Sim.seq (Sim.step hmix hΓ (n:=0) (by simp +decide [zFS,zFg,zCk,zD9,hN,wq,hq0];exact⟨rfl,rfl⟩) (by simp[hN]) ?_)
     refine Sim.exec hmix hΓ (n:=0) (by simp +decide;exact⟨rfl,rfl,rfl⟩) (by simp[hN]) ?_
     dsimp only
     refine Sim.seq (Sim.step hmix hΓ (n:=0) (by simp +decide;exact⟨rfl,rfl⟩) (by simp[hN]) ?_)
     refine Sim.exec hmix hΓ (n:=0) (by simp +decide [zFS,zFg,zCk,zD9,hN];exact⟨rfl,rfl,rfl⟩) (by simp[hN]) ?_
     dsimp only
     exact fin2 (DS.new 100) (RS.new 100) _ _ 3 4 hn1 (by decide) (by decide) (by simp[hXg]) (by simp[hXg]) (by simp[AWs,AW,o0',o1'])
   · have hq1:q<0:=by omega
     refine Sim.seq (Sim.step hmix hΓ (n:=0) (by simp +decide [zFS,zFg,zCk,zD9,hN,wq,hq0];exact⟨rfl,rfl⟩) (by simp[hN]) ?_)
     refine Sim.exec hmix hΓ (n:=0) (by simp +decide;exact⟨rfl,rfl,rfl⟩) (by simp[hN]) ?_
     dsimp only
     refine Sim.seq (Sim.step hmix hΓ (n:=0) (by simp +decide;exact⟨rfl,rfl⟩) (by simp[hN]) ?_)
     refine Sim.exec hmix hΓ (n:=0) (by simp +decide [zFS,zFg,zCk,zD9,hN];exact⟨rfl,rfl,rfl⟩) (by simp[hN]) ?_
     dsimp only
     exact fin2 (DS.new 100) (RS.new 100) _ _ 1 2 hn1 (by decide) (by decide) (by simp[hXg]) (by simp[hXg]) (by simp[AWs,AW,o0',o1'])
 · -- both are there
   have hq0:0<=q:=by
     unfold DS.ofF at e2;split at e2
     · cases e2
     · omega
   have hdq:d.quota=q:=by
     unfold DS.ofF at e2
     rw[if_neg (by omega)]at e2
     obtain⟨z,_,rfl⟩:=qlZ.1 e2;rfl
   refine Sim.step hmix hΓ (n:=0) (by simp +decide [zFS,zML,zNK,hN,e1,e2,wq,ol1,ol2,ho1];exact⟨rfl,rfl⟩) (by simp[hN]) ?_
   refine Sim.seq (Sim.step hmix hΓ (n:=0) (by simp +decide [zFS,zFg,zCk,zD9,hN,wq,hq0];exact⟨rfl,rfl⟩) (by simp[hN]) ?_)
   refine Sim.exec hmix hΓ (n:=0) (by simp +decide;exact⟨rfl,rfl,rfl⟩) (by simp[hN]) ?_
   dsimp only
   refine Sim.seq (Sim.step hmix hΓ (n:=0) (by simp +decide;exact⟨rfl,rfl⟩) (by simp[hN]) ?_)
   refine Sim.exec hmix hΓ (n:=0) (by simp +decide;exact⟨rfl,rfl,rfl⟩) (by simp[hN]) ?_
   dsimp only
   exact fin2 d r _ _ 1 2 (hrd.mono (by omega) (qnZ _)) (by omega) (by decide) (by simp[hXg]) (by simp[hXg]) (by simp[AWs,AW,o0',o1'])
theorem zQ4:∀{n:Nat} {l:List AV},All2 zER (qbZ n [Prim.str,Prim.str]).flatten l->∃x:List (List UInt8×List UInt8),l=flA x/\x.length=n/\∀e∈x,e.1.length<=9223372036854775807/\e.2.length<=9223372036854775807
 | 0,[],_=>⟨[],rfl,rfl,by simp⟩
 | n+1,a::b::l,h=>by
   rw[rvZ,rcZ]at h;obtain⟨s,rfl,hs⟩:=h.1;obtain⟨t,rfl,ht⟩:=h.2.1;obtain⟨x,rfl,hl,hq⟩:=zQ4 (n:=n) (l:=l) h.2.2;unfold maxLen at hs ht
   refine ⟨(s,t)::x,rfl,by simp[hl],fun e he=>?_⟩
   rcases qwZ.1 he with rfl | he
   · exact⟨by dsimp only;omega,by dsimp only;omega⟩
   · exact hq e he
 | 0,_::_,h=>h.elim
 | n+1,[],h=>by
   rw[rvZ,rcZ]at h;exact h.elim
 | n+1,[_],h=>by
   rw[rvZ,rcZ]at h;exact h.2.elim
def zDx:List AS:=[.flat false [.row [.str,.str]],.flat false [.one (.int .i16)],.rows zVw]
theorem zJo:∀xs H,Zy zDx 0 xs H->∃H',Ct Pz 3 xs H (.bool true) H':=by
 intro xs H h;obtain⟨x1,w1,l1,n1,H1,rfl,rfl,hx,hmx,hl1,k1⟩:=zLt h;obtain⟨x2,w2,rfl,⟨q,rfl,hq⟩,k2⟩:=zKs k1;obtain⟨x3,w3,n3,ys,H3,H4,rfl,hz,hmz,hl3,rfl,k3⟩:=zJq k2;obtain⟨rfl,rfl⟩:=zKp k3;obtain⟨x,rfl,rfl,hxs⟩:=zQ4 hl1;have bq:=bounds_i16 hq;obtain⟨l,rfl,hok,rfl,hw⟩:=zQn _ _ _ _ hl3;unfold maxLen at hmx hmz
 obtain⟨H',hct⟩:=zLu x hxs (by omega) q (by omega) l hok (by omega)
 refine ⟨H',zQb ?_ hct⟩
 have hM:(ABlk.cells false (flA x)::(ABlk.cells false ys::zFc l++[])).length=l.length+2:=by simp[zFc]
 rw[hM]
 have hrn:∀i,i<l.length+2->(List.range (l.length+2))[i]? = some i:=fun i hi=>rfZ hi
 refine Weak.mk' (List.range (l.length+2)) List.nodup_range (by rw[q6Z (by simp)]) ?_ (AWg.of _ _ (by simp[zFc]) fun i B b hB hb hlt=>?_)
 · have e0:=hrn 0 (by omega)
   have e1:=hrn 1 (by omega)
   refine ⟨?_,⟨rfl,rfl⟩,?_,trivial⟩
   · rcases hx with⟨h1,rfl⟩ | rfl
     · simp[AW,h1]
     · simp only[AW,true_and]
       exact⟨e0,rfl,id⟩
   · rcases hz with⟨h1,rfl⟩ | rfl
     · simp[AW,h1]
     · simp only[AW,true_and]
       exact⟨e1,rfl,id⟩
 · have hi:i<l.length+2:=by
     have:=(q1Z.1 hB).1;simpa[zFc] using this
   have hbi:b=i:=by rw[rfZ hi]at hb;cases hb;rfl
   subst hbi;rw[q2Z]
   match b,hB with
   | 0,hB =>
     cases hB;exact⟨id,AWs.refl _ _ (ZS x)⟩
   | 1,hB =>
     cases hB
     exact⟨id,hw _ fun i hi=>hrn _ (by omega)⟩
   | b+2,hB =>
     simp only[r9Z]at hB;simp only[r2Z,r9Z,hB,rgZ];obtain⟨d,_,rfl⟩:=reZ.1 (qcZ hB);exact⟨id,AWs.refl _ _ (ZB _)⟩
end
end Go.Proofs.YtfhidaoiofeooaaGreat
