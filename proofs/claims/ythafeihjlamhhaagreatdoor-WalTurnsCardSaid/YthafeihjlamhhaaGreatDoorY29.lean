/- Parts of the proof of WalTurns: lemmas, each with its own conditions. -/
import Derived.Test.YthafeihjlamhhaaGreatDoorY27
import Derived.Test.YthafeihjlamhhaaGreatDoorY28
set_option maxHeartbeats 64000000
open List renaming getElem?_eq_some_iff → q1Z, getD_eq_getElem?_getD → q2Z, take_of_length_le → q6Z, cons_append → q9Z, replicate → qbZ, mem_of_getElem? → qcZ, length_append → qdZ, mem_append → qxZ, getElem?_cons_succ → r9Z, getElem?_cons_zero → raZ, mem_map → reZ, getElem?_range → rfZ
open Nat renaming zero_le → qqZ
open Option renaming getD_some → rgZ
namespace Go.Proofs.YthafeihjlamhhaaGreatDoor
open _root_.Go.Proofs.Tryz renaming prog → Pz
set_option maxRecDepth 100000
section
open Go
def walWInl:List FuncId:=[148,75,122,54,34,24,36,35,37,209,144,165,99,53,211,147,81,121,216,150,82,105,104,210,215,172,163,95,103,102,164,101,97,162,74,19,44,43,22,25,23,20,78,218,152,77,72,76,79,80,70,47,244,112,179,285,284,17,31,166,100,146,96,171,94,161,128,192,58,124,125,113,180,18,21,73,217,151,238,175,239,233,268,236,170]
def trueK_U0:Summ:=pureS fun | []=>some (.bool true) | _=>none
theorem trueK_sound_U0 {f : FuncId} {fn : Func} (hf : Tryz.prog.funcs[f]? = some fn) (hb : fn.body.isSome = true) (hn : (fn.name == "runtime.NumGoroutine") = false) (h : Ct Pz f [] [] (.bool true) []) : Sound Pz f trueK_U0 := by
 refine sound_pure (enter_of hf hb hn) fun args v hv=>?_
 split at hv <;> cases hv
 exact⟨h,rfl,rfl⟩
def walWS0G:Gam:=gams [(169,keysS),(168,sortedS),(167,mcloneS),(149,joinS2),(126,itoaS)]
theorem walWS0G_ok:GOk Pz walWS0G:=goks_cons keys_sound (goks_cons sorted_sound (goks_cons mclone_sound (goks_cons join_sound2 (goks_cons itoa_sound goks_nil))))
noncomputable abbrev walWS0C0:Code:=bodyOf Tryz.f15
noncomputable abbrev walWS0F0:List AV:=[]++qbZ (Tryz.f15.ntmps-0) undefA
abbrev walWS0H0:AHeap:=[]
noncomputable abbrev walWS0C1:Code:=restC 2 walWS0C0
def walWS0F1:List AV:=[.bool false,.ptr 3 0,.ptr 4 0]++qbZ 7 (.tuple [])++[.top,.top,.top,.top]++qbZ 55 (.tuple [])++[.top]++qbZ 46 (.tuple [])
def walWS0H1:AHeap:=[.map [(.str [119,97,108,45,53],.int .i64 (1))],.cells true [.map 0,.map 6,.nils,.int .i64 (1)],.map [(.int .i64 (1),.ptr 5 0)],.cells true [.ptr 1 0,.map 2,.int .i64 (100),.int .i64 (4),.int .i64 (0),.bool false],.cells true [.ptr 3 0,.int .i64 (12),.int .i64 (5),.int .i64 (6),.int .i64 (2),.bool false],.cells true [.str [],.slice 9 0 2 1 false,.str [3,1,1,97,74,122,157,17,3,1,2,98,51,120,185,163]],.map [(.str [119,97,108,45,53],.int .i64 (1))],.cells true [.str [3,1,1,97,74,122,157,17]],.cells true [.str [3,1,2,98,51,120,185,163]],.cells true [.func 216 [] [.ptr 7 0],.func 216 [] [.ptr 8 0]]]
theorem walWS0_k1:kendM 0 (acodeN Pz (runGK Pz walWS0G 400 walWInl 30) 400 true 2 walWS0C0 walWS0F0 walWS0H0) walWS0F1 walWS0H1=true:=by kernel_rfl
noncomputable abbrev walWS0C2:Code:=restC 4 walWS0C1
def walWS0F2:List AV:=[.bool false,.ptr 3 0,.top,.top,.int .i64 (0)]++qbZ 5 (.tuple [])++qbZ 58 .top++[.tuple [],.top]++qbZ 46 (.tuple [])
def walWS0H2:AHeap:=[.map [(.str [119,97,108,45,53],.int .i64 (1)),(.str [119,97,108,45,54],.int .i64 (2))],.cells true [.map 0,.map 6,.nils,.int .i64 (2)],.map [(.int .i64 (1),.ptr 4 0),(.int .i64 (2),.ptr 5 0)],.cells true [.ptr 1 0,.map 2,.int .i64 (100),.int .i64 (9),.int .i64 (0),.bool false],.cells true [.str [3,1,1,97,74,122,157,17,3,1,2,98,51,120,185,163],.nils,.str [3,1,1,97,74,122,157,17,3,1,2,98,51,120,185,163]],.cells true [.str [3,1,3,99,228,121,165,205],.nils,.str [3,1,3,99,228,121,165,205]],.map [(.str [119,97,108,45,53],.int .i64 (1)),(.str [119,97,108,45,54],.int .i64 (2))]]
theorem walWS0_k2:kendM 0 (acodeN Pz (runGK Pz walWS0G 400 walWInl 30) 400 true 4 walWS0C1 walWS0F1 walWS0H1) walWS0F2 walWS0H2=true:=by kernel_rfl
noncomputable abbrev walWS0C3:Code:=restC 6 walWS0C2
def walWS0F3:List AV:=[.bool true]++qbZ 115 .top
def walWS0H3:AHeap:=[]
theorem walWS0_k3:kendM 0 (acodeN Pz (runGK Pz walWS0G 400 walWInl 30) 400 true 6 walWS0C2 walWS0F2 walWS0H2) walWS0F3 walWS0H3=true:=by kernel_rfl
theorem walWS0_end:kretB Pz Tryz.f15.results.toList (acodeK Pz (runGK Pz walWS0G 400 walWInl 30) 400 true walWS0C3 walWS0F3 walWS0H3)=true:=by kernel_rfl
theorem walWS0_ct:Ct Pz 15 [] [] (.bool true) []:=by
 have hΓ:=gok_runK hmix walWS0G_ok 400 walWInl 30
 refine ct_of_sim (c:=walWS0C0) Tryz.func15 (by kernel_rfl) ?_
 refine Sim.kmanyM (n:=400) hmix hΓ 2 walWS0_k1 (qqZ _) ?_;refine Sim.kmanyM (n:=400) hmix hΓ 4 walWS0_k2 (qqZ _) ?_;refine Sim.kmanyM (n:=400) hmix hΓ 6 walWS0_k3 (qqZ _) ?_;exact Sim.kret (n:=400) hmix hΓ walWS0_end
theorem walWS0_sound:Sound Pz 15 trueK_U0:=trueK_sound_U0 Tryz.func15 rfl (by decide) walWS0_ct
end
section
open Go Go.Lib
attribute [-simp] drawOk_eq adraw qrun acode aops
theorem dEs_ok{ds:List Dr}(h:∀d∈ds,0≤d.2.1∧d.2.1<4294967296)(m:Nat):∀e∈dEs (ds.take m),okE e:=fun e he=>by
 obtain⟨d,hd,rfl⟩:=reZ.1 he;have:=h d (List.mem_of_mem_take hd)
 exact dE_ok d.1 d.2.1 d.2.2 (by simp[okN];omega)
theorem appends_ok{w:WL}(h:w.bad=false)(es:List En):w.appends es=w.adds (es.map frE):=by
 unfold WL.appends;rw[h];rfl
theorem drafts_weakG{ds:List Dr}{ys:List AV}{T:AHeap}{F Fn:List AV}
   (hy:∀rn:List Nat,(∀i,i<ds.length→rn[1+i]?=some (1+i))→AWs rn (dcells 1 ds) ys) (hT:∀B∈T,∃o l,B=ABlk.cells o l∧frees l=true)
   (hF:∀rn:List Nat,(∀i,i<ds.length+1+T.length→rn[i]?=some i)→AWs rn Fn F) :
   Weak (ABlk.cells false ys::dblks ds++T).length F (ABlk.cells false ys::dblks ds++T) Fn (drH ds++T):=by
 have hM:(ABlk.cells false ys::dblks ds++T).length=ds.length+1+T.length:=by simp[dblks];omega
 rw[hM];obtain⟨M,hm⟩:∃M,ds.length+1+T.length=M:=⟨_,rfl⟩;rw[hm]at hM hF ⊢
 have hrn:∀i,i<M→(List.range M)[i]?=some i:=fun i hi=>rfZ hi
 refine Weak.mk' (List.range M) List.nodup_range (by rw[q6Z (by simp)]) (hF _ hrn) (AWg.of _ _ (by simp[drH_length];omega) fun i B b hB hb hlt=>?_)
 have hi:i<M:=by
   have:=(q1Z.1 hB).1;rw[qdZ,drH_length]at this;omega
 have hbi:b=i:=by rw[rfZ hi]at hb;cases hb;rfl
 subst hbi
 cases b with
 | zero =>
   simp only[drH,q9Z,raZ,Option.some.injEq]at hB;subst hB
   exact⟨id,hy _ fun i hi=>hrn _ (by omega)⟩
 | succ b =>
   simp only[drH,q9Z,r9Z]at hB;rw[q2Z];simp only[q9Z,r9Z,hB,rgZ];rcases qxZ.1 (qcZ hB) with h | h
   · obtain⟨d,_,rfl⟩:=reZ.1 h
     exact⟨id,AWs.refl _ _ (frees_aB _)⟩
   · obtain⟨o,l,rfl,hl⟩:=hT _ h
     exact⟨id,AWs.refl _ _ hl⟩
theorem drafts_arg{n:Nat}{x:AV}(hx:n=0∧x=.nils∨x=.slice 0 0 n 3 false){rn:List Nat}(h0:rn[0]?=some 0):AW rn (.sl 0 0 n 3 false) x:=by
 rcases hx with⟨h1,rfl⟩ | rfl
 · simp[AW,h1]
 · simp only[AW,true_and]
   exact⟨h0,id⟩
abbrev wdr_ct:List CT:=[.row [.int .u8],.one (.int .u32),.one .bool]
end
end Go.Proofs.YthafeihjlamhhaaGreatDoor
