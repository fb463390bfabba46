/- Parts of the proof of ReplayMends: lemmas, each with its own conditions. -/
import Derived.Test.YtpmfecnajoojeaaGreatDoorY23
set_option maxHeartbeats 64000000
open List renaming replicate → qbZ, mem_map → reZ
open Nat renaming zero_le → qqZ
namespace Go.Proofs.YtpmfecnajoojeaaGreatDoor
open _root_.Go.Proofs.Tryz renaming prog → Pz
set_option maxRecDepth 100000
section
open Go Go.RowKit Go.Lib Go.Sort
theorem zNP{j:Inj}{H:zA}{w:World}(hR:R j H w):(∃v,w.cell? ⟨0,0,none⟩=some v/\zUm v)/\∃v,w.cell? ⟨1,0,none⟩=some v/\zUm v:=by
 have key:∀g,zKZ (zCj w) g->∃v,w.cell? ⟨g,0,none⟩=some v/\zUm v:=by
   rintro g ⟨T,fz,v,h,hv⟩;unfold zCj at h;split at h
   · exact⟨v,by simp[World.cell?,h],hv⟩
   · cases h
 exact⟨key _ hR.glo.1.1.2.1,key _ hR.glo.1.1.2.2⟩
def zJp:zc:=ZP fun
 | [.str s]=>if s.length<=1000000 then (match atoiAll s with
   | .ok v=>some (.tuple [.int .i64 v,.top])
   | .«syntax»=>some (.tuple [.int .i64 0,.top])
   | .range=>some (.tuple [.int .i64 (atoiSat s),.top])) else none
 | _=>none
theorem zI5:Sound Pz 119 zJp:=by
 refine zP (zH Tryz.func119 rfl (by decide)) fun args v hv=>?_
 split at hv;rotate_left
 · cases hv
 rename_i s;split at hv;rotate_left
 · cases hv
 rename_i hs
 have key:∀x,v=.tuple [x,.top]->free x=true->(∀j w,R j [] w->Calls Pz 119 #[.string ⟨s.toArray⟩] w fun e w'=>∃cx cy,e=.returned (.tuple #[cx,cy])/\VR j x cx/\Below w.heap.size w w')->Ct Pz 119 [.str s] [] v []/\zZ [AV.str s]=true/\free v=true:=by
   intro x hx hfx h;subst hx
   refine ⟨zB9 (by simp[free,zZ,hfx]) fun j w cargs hR hargs=>?_,rfl,by simp[free,zZ,hfx]⟩
   obtain⟨a,cs,e,h1,h2⟩:=hargs;simp only[VRs]at h2;subst h2;simp only[VR]at h1;subst h1
   have ec:cargs=#[.string ⟨s.toArray⟩]:=by apply Array.ext';rw[e]
   subst ec;refine (h j w hR).mono ?_;rintro e w' ⟨cx,cy,rfl,h3,h4⟩;exact⟨_,rfl,⟨#[cx,cy],rfl,cx,[cy],rfl,h3,cy,[],rfl,trivial,rfl⟩,h4⟩
 have hsz:(ByteArray.mk s.toArray).size=s.length:=by simp[ByteArray.size]
 split at hv <;> cases hv
 · rename_i n hn
   refine key _ rfl rfl fun j w hR=>?_
   refine (Tryz.strconv_Atoi_ok ⟨s.toArray⟩ (by rw[hsz];omega) n (by simpa using hn) w).mono ?_
   rintro e w' ⟨rfl,hw⟩;refine ⟨_,_,rfl,rfl,?_⟩;rcases hw with rfl | ⟨t,rfl⟩
   · exact Below.refl _ _
   · exact zNm _ _ _
 · rename_i hn
   refine key _ rfl rfl fun j w hR=>?_
   obtain⟨ev,h1,h2⟩:=(zNP hR).1
   refine (Tryz.strconv_Atoi_syntax ⟨s.toArray⟩ (by rw[hsz];omega) (by simpa using hn) ev w h1 h2).mono ?_
   rintro e w' ⟨N,rfl,_,_,hb⟩;exact⟨_,_,rfl,rfl,hb⟩
 · rename_i hn
   refine key _ rfl rfl fun j w hR=>?_
   obtain⟨ev,h1,h2⟩:=(zNP hR).2
   refine (Tryz.strconv_Atoi_range ⟨s.toArray⟩ (by rw[hsz];omega) (by simpa using hn) ev w h1 h2).mono ?_
   rintro e w' ⟨N,rfl,_,_,hb⟩
   exact⟨_,_,rfl,(by simp[VR]),hb⟩
end
section
open Go
def zEZ:List FuncId:=[15,81,20,40,25,75,79,39,183,113,181,112,202,130,114,149,115,234,182,148,143,184,206,142,174,103,73,72,175,71,105,173,41,100,230,269,287,268,286,229,168,228,266,167,24,98,223,219,86,154,265,264,13,35,78,104,102,172,254,255,256,257,258,259,260,215,252,201,283,253,76,169,49,117,120,231,99,106,36,38,97,227,166,146,217,147,218,232,272,185,235,126,199,170,249,271,270,212,140,295,233,288,118]
def zFL:zc:=ZP fun | []=>some (.bool true) | _=>none
theorem zHr {f : FuncId} {fn : Func} (hf : Tryz.prog.funcs[f]? = some fn) (hb : fn.body.isSome = true) (hn : (fn.name == "runtime.NumGoroutine") = false) (h : Ct Pz f [] [] (.bool true) []) : Sound Pz f zFL := by
 refine zP (zH hf hb hn) fun args v hv=>?_
 split at hv <;> cases hv
 exact⟨h,rfl,rfl⟩
def zEY:Gam:=zv [(139,zKb),(138,zCw),(137,zAO),(132,zSV),(144,zMS),(119,zJp)]
theorem zOj:GOk Pz zEY:=zC zHn (zC zF8 (zC zDG (zC zMj (zC zJL (zC zI5 zD)))))
noncomputable abbrev zJR:Code:=zJB Tryz.f33
noncomputable abbrev zTt:List AV:=[]++qbZ (Tryz.f33.ntmps-0) zb
abbrev zSy:zA:=[]
noncomputable abbrev zNH:Code:=zDi 3 zJR
def zNl:List AV:=[.bool false,.slice 0 0 2 3 true,.slice 1 0 2 3 false,.int .i64 (15),.tuple [],.tuple [],.top]++qbZ 9 (.tuple [])++qbZ 10 .top++qbZ 99 (.tuple [])
def zNE:zA:=[.cells true [.str [97],.int .u32 (1),.bool false,.str [98],.int .u32 (0),.bool true],.cells true [.str [97],.int .u32 (1),.bool false,.str [98],.int .u32 (0),.bool true]]
theorem zSD:zKN 0 (zCI Pz (zA0 Pz zEY 400 zEZ 30) 400 true 3 zJR zTt zSy) zNl zNE=true:=by kernel_rfl
noncomputable abbrev zN1:Code:=zDi 4 zNH
def zMP:List AV:=[.bool false,.slice 0 0 2 3 true,.slice 1 0 2 3 false,.int .i64 (15),.slice 2 1 2 1 false,.int .i64 (0),.top,.int .i64 (12),.nils,.int .i64 (0),.slice 3 0 2 2 true]++qbZ 5 (.tuple [])++qbZ 31 .top++qbZ 78 (.tuple [])
def zMq:zA:=[.cells true [.str [97],.int .u32 (1),.bool false,.str [98],.int .u32 (0),.bool true],.cells true [.str [97],.int .u32 (1),.bool false,.str [98],.int .u32 (0),.bool true],.cells true [.int .i64 (1),.int .i64 (2),.int .i64 (3)],.cells true [.str [119,97,108,45,49],.str [3,1,1,97,74,122,157,17],.str [119,97,108,45,50],.str [3,1,2,98,51,120,185,163,120,121]]]
theorem zRZ:zKN 0 (zCI Pz (zA0 Pz zEY 400 zEZ 30) 400 true 4 zNH zNl zNE) zMP zMq=true:=by kernel_rfl
noncomputable abbrev zNi:Code:=zDi 2 zN1
def zN3:List AV:=[.bool false,.slice 0 0 2 3 true,.slice 1 0 2 3 false,.int .i64 (15),.slice 2 1 2 1 false,.int .i64 (0),.top,.int .i64 (12),.nils,.int .i64 (0),.top,.slice 3 0 2 2 true,.ptr 6 0,.int .i64 (0),.tuple [],.tuple []]++qbZ 43 .top++qbZ 66 (.tuple [])
def zM3:zA:=[.cells true [.str [97],.int .u32 (1),.bool false,.str [98],.int .u32 (0),.bool true],.cells true [.str [97],.int .u32 (1),.bool false,.str [98],.int .u32 (0),.bool true],.cells true [.int .i64 (1),.int .i64 (2),.int .i64 (3)],.cells true [.str [119,97,108,45,49],.str [3,1,1,97,74,122,157,17,120,121],.str [119,97,108,45,50],.str [3,1,2,98,51,120,185,163]],.cells true [.int .i64 (1),.int .i64 (2)],.cells true [.str [97],.int .u32 (1),.bool false,.str [98],.int .u32 (2),.bool false],.cells true [.slice 4 0 2 1 false,.slice 5 0 2 3 false,.int .i64 (8),.bool true]]
theorem zQ3:zKN 0 (zCI Pz (zA0 Pz zEY 400 zEZ 30) 400 true 2 zN1 zMP zMq) zN3 zM3=true:=by kernel_rfl
noncomputable abbrev zSt:Code:=zDi 2 zNi
def zM4:List AV:=[.bool true]++qbZ 124 .top
def zNr:zA:=[]
theorem zRI:zKN 0 (zCI Pz (zA0 Pz zEY 400 zEZ 30) 400 true 2 zNi zN3 zM3) zM4 zNr=true:=by kernel_rfl
theorem zOW:zT5 Pz Tryz.f33.results.toList (zx Pz (zA0 Pz zEY 400 zEZ 30) 400 true zSt zM4 zNr)=true:=by kernel_rfl
theorem zQ1:Ct Pz 33 [] [] (.bool true) []:=by
 have hΓ:=zMw hmix zOj 400 zEZ 30
 refine zK (c:=zJR) Tryz.func33 (by kernel_rfl) ?_
 refine Sim.kmanyM (n:=400) hmix hΓ 3 zSD (qqZ _) ?_;refine Sim.kmanyM (n:=400) hmix hΓ 4 zRZ (qqZ _) ?_;refine Sim.kmanyM (n:=400) hmix hΓ 2 zQ3 (qqZ _) ?_;refine Sim.kmanyM (n:=400) hmix hΓ 2 zRI (qqZ _) ?_;exact Sim.kret (n:=400) hmix hΓ zOW
theorem zKq:Sound Pz 33 zFL:=zHr Tryz.func33 rfl (by decide) zQ1
end
section
open Go Go.Lib
attribute [-simp] zJ zY zn zL zl
def zW7(l:List En):Prop:=∀x∈l,okN x.2.1=true
open Classical in
noncomputable def zIH:zc:=zAZ fun args H=>match args with
 | [x]=>match zE4 H x with
   | some l=>if l.length<=1000/\zW7 l then some (.str (Rp.bytes l)) else none
   | none=>none
 | _=>none
theorem zJc:Sound Pz 98 zIH:=by
 refine Zx (zH Tryz.func98 rfl (by decide)) fun args H v h=>?_
 split at h <;> try cases h
 rename_i x
 split at h <;> try cases h
 rename_i l hx
 split at h <;> cases h
 rename_i hc;obtain⟨b1,o1,w1,g1⟩:=zFC hx
 refine zE1 (zPW l (by omega) hc.2) rfl [(b1,o1)] ?_ ?_
 · exact⟨w1 0 _ rfl,trivial⟩
 · exact⟨g1,zp _,trivial⟩
theorem zUz{ds:List Dr}(h:∀d∈ds,0<=d.2.1/\d.2.1<4294967296)(m:Nat):zW7 (dEs (ds.take m)):=fun e he=>by
 obtain⟨d,hd,rfl⟩:=reZ.1 he;have:=h d (List.mem_of_mem_take hd)
 exact (zX0 d.1 d.2.1 d.2.2 (by simp[okN];omega)).2.1
end
end Go.Proofs.YtpmfecnajoojeaaGreatDoor
