/- Parts of the proof of SweepTells: lemmas, each with its own conditions. -/
import Derived.Test.YtfhidaoiofeooaaGreatDoorY20
import Derived.Test.YtfhidaoiofeooaaGreatDoorY25
import Derived.Test.YtfhidaoiofeooaaGreatDoorY26
set_option maxHeartbeats 64000000
open List renaming cons_append → q9Z, nil_append → qaZ, replicate → qbZ, mem_cons → qwZ, flatten_cons → rcZ, replicate_succ → rvZ
open Nat renaming zero_le → qqZ
namespace Go.Proofs.YtfhidaoiofeooaaGreatDoor
open _root_.Go.Proofs.Tryz renaming prog → Pz
set_option maxRecDepth 100000
section
open Go
def zEv:List FuncId:=[14,89,21,46,40,287,217,45,219,131,88,186,90,75,202,333,288,74,117,185,207,208,273,209,137,138,139,37,7,32,91,116,184,147,127,118,203,206,130,334,289,286,216,218,41,34,123,38,43,119,280,331,269,319,212,284,122,125,272,126,121,325,210,213,124,254,173,274,211,204]
def zFB:zS:=zBJ fun | []=>some (.bool true) | _=>none
theorem zIZ {f : FuncId} {fn : Func} (hf : Tryz.prog.funcs[f]? = some fn) (hb : fn.body.isSome = true) (hn : (fn.name == "runtime.NumGoroutine") = false) (h : Ct Pz f [] [] (.bool true) []) : Sound Pz f zFB := by
 refine ZM (zD hf hb hn) fun args v hv=>?_;split at hv <;> cases hv
 exact⟨h,rfl,rfl⟩
def zFa:Gam:=zh [(172,zJG),(171,zCj),(170,zEy),(96,zSj),(214,zLO),(205,zJg)]
theorem zOh:GOk Pz zFa:=zC zH5 (zC zFR (zC zEz (zC zMd (zC zIH (zC zIB zB)))))
noncomputable abbrev zHj:Code:=zU0 Tryz.f50
noncomputable abbrev zRe:List AV:=[]++qbZ (Tryz.f50.ntmps-0) zV
abbrev zSn:zA:=[]
noncomputable abbrev zML:Code:=zJM 2 zHj
def zLb:List AV:=[.bool false,.ptr 3 0,.tuple [],.tuple []]++qbZ 6 .top++qbZ 37 (.tuple [])
def zK0:zA:=[.map [(.str [115,101,103,45,52],.int .i64 (1)),(.str [115,101,103,45,53],.int .i64 (2)),(.str [119,97,108,45,49],.int .i64 (3)),(.str [120],.int .i64 (4))],.cells true [.map 0,.map 8,.nils,.int .i64 (4)],.map [(.int .i64 (1),.ptr 4 0),(.int .i64 (2),.ptr 5 0),(.int .i64 (3),.ptr 6 0),(.int .i64 (4),.ptr 7 0)],.cells true [.ptr 1 0,.map 2,.int .i64 (9),.int .i64 (0),.int .i64 (0),.bool false],.cells true [.str [],.nils,.str []],.cells true [.str [],.nils,.str []],.cells true [.str [],.nils,.str []],.cells true [.str [],.nils,.str []],.map [(.str [115,101,103,45,52],.int .i64 (1)),(.str [115,101,103,45,53],.int .i64 (2)),(.str [119,97,108,45,49],.int .i64 (3)),(.str [120],.int .i64 (4))]]
theorem zQX:zMv 0 [1,3,4,5,12,19,26,33,38] (zDO Pz (zBL Pz zFa 400 zEv 30) 400 true 2 zHj zRe zSn) zLb zK0=true:=by kernel_rfl
noncomputable abbrev zLw:Code:=zJM 1 zML
def zMf:List AV:=[.bool false,.ptr 3 0,.int .i64 (3),.int .i64 (0)]++qbZ 12 .top++qbZ 31 (.tuple [])
def zLe:zA:=[.map [(.str [115,101,103,45,52],.int .i64 (1))],.cells true [.map 0,.map 8,.nils,.int .i64 (4)],.map [(.int .i64 (1),.ptr 4 0),(.int .i64 (2),.ptr 5 0),(.int .i64 (3),.ptr 6 0),(.int .i64 (4),.ptr 7 0)],.cells true [.ptr 1 0,.map 2,.int .i64 (9),.int .i64 (4),.int .i64 (0),.bool false],.cells true [.str [],.nils,.str []],.cells true [.str [],.nils,.str []],.cells true [.str [],.nils,.str []],.cells true [.str [],.nils,.str []],.map [(.str [115,101,103,45,52],.int .i64 (1))]]
theorem zPe:zMv 0 [0,1,2,3,4,5,6,7,98] (zDO Pz (zBL Pz zFa 400 zEv 30) 400 true 1 zML zLb zK0) zMf zLe=true:=by kernel_rfl
noncomputable abbrev zSf:Code:=zJM 1 zLw
def zKy:List AV:=[.bool true]++qbZ 46 .top
def zLT:zA:=[]
theorem zPh:zMv 0 [] (zDO Pz (zBL Pz zFa 400 zEv 30) 400 true 1 zLw zMf zLe) zKy zLT=true:=by kernel_rfl
theorem zNv:zRk Pz Tryz.f50.results.toList (zu Pz (zBL Pz zFa 400 zEv 30) 400 true zSf zKy zLT)=true:=by kernel_rfl
theorem zQM:Ct Pz 50 [] [] (.bool true) []:=by
 have hΓ:=zMP hmix zOh 400 zEv 30;refine zE (c:=zHj) Tryz.func50 (by kernel_rfl) ?_;refine Sim.kmany (n:=400) hmix hΓ 2 [1,3,4,5,12,19,26,33,38] zQX (qqZ _) ?_;refine Sim.kmany (n:=400) hmix hΓ 1 [0,1,2,3,4,5,6,7,98] zPe (qqZ _) ?_;refine Sim.kmany (n:=400) hmix hΓ 1 [] zPh (qqZ _) ?_;exact Sim.kret (n:=400) hmix hΓ zNv
theorem zKW:Sound Pz 50 zFB:=zIZ Tryz.func50 rfl (by decide) zQM
end
section
open Go Go.Lib
end
section
open Go Go.Lib
attribute [-simp] zG zT zc zJ zn
theorem zRH(l:List Nm):(∀e∈Z5 l,zEO e.1/\e.2.length<=9)/\((Z5 l).map Prod.fst).Nodup/\(Z5 l).length<=30:=by
 obtain⟨h1,h2⟩:=zK7 l (min l.length 30);have h3:=zFy l (min l.length 30);exact⟨h1,h2,by unfold Z5;omega⟩
theorem zOq:∀{n:Nat} {l:List AV},All2 zEG (qbZ n [Prim.int .u8,.int .u8,.str]).flatten l->∃xs:List Nm,l=nmA xs/\xs.length=n/\zRh xs
 | 0,[],_=>⟨[],rfl,rfl,fun x hx=>by simp at hx⟩
 | n+1,l,h=>by
   rw[rvZ,rcZ]at h
   match l,h with
   | x::y::z::l,h =>
     obtain⟨⟨a,rfl,ha⟩,⟨b,rfl,hb⟩,⟨s,rfl,hs⟩,h⟩:=h;obtain⟨xs,rfl,h1,h2⟩:=zOq (n:=n) (l:=l) h;have b1:=bounds_u8 ha;have b2:=bounds_u8 hb;unfold maxLen at hs;refine ⟨(a.toNat,b.toNat,s)::xs,?_,by simp[h1],fun x hx=>?_⟩
     · simp only[nmA,List.flatMap_cons,q9Z,qaZ]
       rw[show ((a.toNat:Nat):Int)=a by omega,show ((b.toNat:Nat):Int)=b by omega]
     · rcases qwZ.1 hx with rfl | hx
       · exact⟨by dsimp only;omega,by dsimp only;omega,by dsimp only;omega⟩
       · exact h2 x hx
 | 0,_::_,h=>h.elim
abbrev zUT:List CT:=[.one (.int .u8),.row [.int .u8],.row [.int .u8,.int .u8,.str]]
theorem zUr{k:Nat}{ys:List AV}{H:zA}(h:zAN zUT k ys H):∃(f:Nat) (ls:List Nat) (l:List Nm) (x0 x1:AV),f<256/\(∀c∈ls,c<256)/\ls.length<=9223372036854775807/\zRh l/\l.length<=9223372036854775807 /\
   (ls.length=0/\x0=.nils\/x0=.slice k 0 ls.length 1 false)/\(l.length=0/\x1=.nils\/x1=.slice (k+1) 0 l.length 3 false)/\ys=[.int .u8 f,x0,x1]/\H=[.cells false (ls.map aB),.cells false (nmA l)]:=by
 obtain⟨x1,y1,rfl,⟨f,rfl,hf⟩,k1⟩:=zPZ h;obtain⟨x2,y2,r0,n0,H0,rfl,rfl,hx0,hm0,hr0,k2⟩:=zFH k1;obtain⟨x3,y3,r1,n1,H1,rfl,rfl,hx1,hm1,hr1,k3⟩:=zFH k2;obtain⟨rfl,rfl⟩:=zQb k3;obtain⟨ls,rfl,rfl,hls⟩:=zI5 hr0;obtain⟨l,rfl,rfl,hl⟩:=zOq hr1;have b1:=bounds_u8 hf;unfold maxLen at hm0 hm1;exact⟨f.toNat,ls,l,x2,x3,by omega,hls,by omega,hl,by omega,hx0,hx1,by rw[show ((f.toNat:Nat):Int)=f by omega],rfl⟩
theorem zTc{k:Nat}{ls:List Nat}{l:List Nm}{x0 x1:AV}(h0:ls.length=0/\x0=.nils\/x0=.slice k 0 ls.length 1 false)(h1:l.length=0/\x1=.nils\/x1=.slice (k+1) 0 l.length 3 false)(rn:List Nat)(r0:rn[k]? = some k)(r1:rn[k+1]? = some (k+1)) :
   AW rn (.sl k 0 ls.length 1 false) x0/\AW rn (.sl (k+1) 0 l.length 3 false) x1:=by
 constructor
 · rcases h0 with⟨h,rfl⟩ | rfl
   · simp[AW,h]
   · simp[AW,r0]
 · rcases h1 with⟨h,rfl⟩ | rfl
   · simp[AW,h]
   · simp[AW,r1]
end
end Go.Proofs.YtfhidaoiofeooaaGreatDoor
