/- Parts of the proof of SweepLess: lemmas, each with its own conditions. -/
import Derived.Test.YtpmfecnajoojeaaGreatDoorY9
import Derived.Test.YtpmfecnajoojeaaGreatDoorY12
set_option maxHeartbeats 64000000
open List renaming replicate → qbZ
open Nat renaming zero_le → qqZ
namespace Go.Proofs.YtpmfecnajoojeaaGreatDoor
open _root_.Go.Proofs.Tryz renaming prog → Pz
set_option maxRecDepth 100000
section
open Go
def swpWInl:List FuncId:=[15,150,81,20,25,158,90,39,164,95,149,174,103,72,175,224,159,71,105,173,121,122,188,123,43,44,45,46,13,35,104,102,172,80,76,49,117,120,116,226,163,157,89,94,47,10,53,11,42,50,195,246,185,235,126,199,52,55,153,88,51,222,124,156,54,212,140,189,125,118]
def trueK_U6:Summ:=pureS fun | []=>some (.bool true) | _=>none
theorem trueK_sound_U6 {f : FuncId} {fn : Func} (hf : Tryz.prog.funcs[f]? = some fn) (hb : fn.body.isSome = true) (hn : (fn.name == "runtime.NumGoroutine") = false) (h : Ct Pz f [] [] (.bool true) []) : Sound Pz f trueK_U6 := by
 refine sound_pure (enter_of hf hb hn) fun args v hv=>?_
 split at hv <;> cases hv
 exact⟨h,rfl,rfl⟩
def swpWS0G:Gam:=gams [(139,keysS),(138,sortedS),(137,mcloneS),(132,joinS2),(144,itoaS),(119,atoiS)]
theorem swpWS0G_ok:GOk Pz swpWS0G:=goks_cons keys_sound (goks_cons sorted_sound (goks_cons mclone_sound (goks_cons join_sound2 (goks_cons itoa_sound (goks_cons atoi_sound goks_nil)))))
noncomputable abbrev swpWS0C0:Code:=bodyOf Tryz.f7
noncomputable abbrev swpWS0F0:List AV:=[]++qbZ (Tryz.f7.ntmps-0) undefA
abbrev swpWS0H0:AHeap:=[]
noncomputable abbrev swpWS0C1:Code:=restC 2 swpWS0C0
def swpWS0F1:List AV:=[.bool false,.ptr 3 0,.tuple [],.tuple []]++qbZ 6 .top++qbZ 37 (.tuple [])
def swpWS0H1:AHeap:=[.map [(.str [115,101,103,45,52],.int .i64 (1)),(.str [115,101,103,45,53],.int .i64 (2)),(.str [119,97,108,45,49],.int .i64 (3)),(.str [120],.int .i64 (4))],.cells true [.map 0,.map 8,.nils,.int .i64 (4)],.map [(.int .i64 (1),.ptr 4 0),(.int .i64 (2),.ptr 5 0),(.int .i64 (3),.ptr 6 0),(.int .i64 (4),.ptr 7 0)],.cells true [.ptr 1 0,.map 2,.int .i64 (9),.int .i64 (0),.int .i64 (0),.bool false],.cells true [.str [],.nils,.str []],.cells true [.str [],.nils,.str []],.cells true [.str [],.nils,.str []],.cells true [.str [],.nils,.str []],.map [(.str [115,101,103,45,52],.int .i64 (1)),(.str [115,101,103,45,53],.int .i64 (2)),(.str [119,97,108,45,49],.int .i64 (3)),(.str [120],.int .i64 (4))]]
theorem swpWS0_k1:kendN 0 [1,3,4,5,12,19,26,33,38] (acodeN Pz (runGK Pz swpWS0G 400 swpWInl 30) 400 true 2 swpWS0C0 swpWS0F0 swpWS0H0) swpWS0F1 swpWS0H1=true:=by kernel_rfl
noncomputable abbrev swpWS0C2:Code:=restC 1 swpWS0C1
def swpWS0F2:List AV:=[.bool false,.ptr 3 0,.int .i64 (3),.int .i64 (0)]++qbZ 12 .top++qbZ 31 (.tuple [])
def swpWS0H2:AHeap:=[.map [(.str [115,101,103,45,52],.int .i64 (1))],.cells true [.map 0,.map 8,.nils,.int .i64 (4)],.map [(.int .i64 (1),.ptr 4 0),(.int .i64 (2),.ptr 5 0),(.int .i64 (3),.ptr 6 0),(.int .i64 (4),.ptr 7 0)],.cells true [.ptr 1 0,.map 2,.int .i64 (9),.int .i64 (4),.int .i64 (0),.bool false],.cells true [.str [],.nils,.str []],.cells true [.str [],.nils,.str []],.cells true [.str [],.nils,.str []],.cells true [.str [],.nils,.str []],.map [(.str [115,101,103,45,52],.int .i64 (1))]]
theorem swpWS0_k2:kendN 0 [0,1,2,3,4,5,6,7,98] (acodeN Pz (runGK Pz swpWS0G 400 swpWInl 30) 400 true 1 swpWS0C1 swpWS0F1 swpWS0H1) swpWS0F2 swpWS0H2=true:=by kernel_rfl
noncomputable abbrev swpWS0C3:Code:=restC 1 swpWS0C2
def swpWS0F3:List AV:=[.bool true]++qbZ 46 .top
def swpWS0H3:AHeap:=[]
theorem swpWS0_k3:kendN 0 [] (acodeN Pz (runGK Pz swpWS0G 400 swpWInl 30) 400 true 1 swpWS0C2 swpWS0F2 swpWS0H2) swpWS0F3 swpWS0H3=true:=by kernel_rfl
theorem swpWS0_end:kretB Pz Tryz.f7.results.toList (acodeK Pz (runGK Pz swpWS0G 400 swpWInl 30) 400 true swpWS0C3 swpWS0F3 swpWS0H3)=true:=by kernel_rfl
theorem swpWS0_ct:Ct Pz 7 [] [] (.bool true) []:=by
 have hΓ:=gok_runK hmix swpWS0G_ok 400 swpWInl 30
 refine ct_of_sim (c:=swpWS0C0) Tryz.func7 (by kernel_rfl) ?_
 refine Sim.kmany (n:=400) hmix hΓ 2 [1,3,4,5,12,19,26,33,38] swpWS0_k1 (qqZ _) ?_;refine Sim.kmany (n:=400) hmix hΓ 1 [0,1,2,3,4,5,6,7,98] swpWS0_k2 (qqZ _) ?_;refine Sim.kmany (n:=400) hmix hΓ 1 [] swpWS0_k3 (qqZ _) ?_;exact Sim.kret (n:=400) hmix hΓ swpWS0_end
theorem swpWS0_sound:Sound Pz 7 trueK_U6:=trueK_sound_U6 Tryz.func7 rfl (by decide) swpWS0_ct
end
end Go.Proofs.YtpmfecnajoojeaaGreatDoor
