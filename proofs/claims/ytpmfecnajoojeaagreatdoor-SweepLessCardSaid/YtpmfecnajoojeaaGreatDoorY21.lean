/- Parts of the proof of SweepLess: lemmas, each with its own conditions. -/
import Derived.Test.YtpmfecnajoojeaaGreatDoorY20
import Derived.Test.YtpmfecnajoojeaaGreatDoorY10
set_option maxHeartbeats 64000000
open List renaming take_of_length_le → q6Z, length_cons → q7Z, length_nil → q8Z, cons_append → q9Z, nil_append → qaZ, replicate → qbZ, mem_append → qxZ, mem_singleton → r1Z, mem_map → reZ
open Nat renaming le_refl → qnZ
namespace Go.Proofs.YtpmfecnajoojeaaGreatDoor
open _root_.Go.Proofs.Tryz renaming prog → Pz
set_option maxRecDepth 100000
section
open Go Go.Lib
attribute [-simp] drawOk_eq adraw qrun acode aops
end
section
open Go Go.Lib
def orph(m:Mf)(l:List (List UInt8)):List (List UInt8):=sortU (l.filter fun s=>!lives m s)
theorem orph_nd(m:Mf){l:List (List UInt8)}(h:l.Nodup):(orph m l).Nodup:=(sortU_perm _).symm.nodup (h.filter _)
end
section
open Go Go.Lib
attribute [-simp] drawOk_eq adraw qrun acode aops
theorem tclone_ct(s:List (List UInt8))(hs:s.length≤1000000000)(h0:s≠[]) :
   Ct Pz 52 [.sl 0 0 s.length 1 false] [.cells false (s.map AV.str)] (.slice 1 0 s.length 1 false) [.cells false (s.map AV.str),.cells true (s.map AV.str)]:=by
 have b1:s.length*16≤140737488355328:=by omega
 have b2:s.length≤9223372036854775807:=by omega
 have h1:s.length≠0:=by simpa using h0
 have ht:(s.map AV.str).take s.length=s.map AV.str:=q6Z (by simp)
 have hA:∀rn:List Nat,AWs rn (s.map AV.str) (s.map AV.str):=fun rn=>AWs.refl _ _ (frees_map _ _ fun _=>rfl)
 refine ct_slN (pre:=[]) ?_ fun h2=>absurd h2 h1
 refine ct_runE hmix goks_nil (n:=0) Tryz.func52 ?_;unfold Tryz.f52
 exact⟨_,_,(by simp[h0,h1,b1,b2,ht];exact⟨rfl,rfl⟩),Weak.mk' [0,2] (by decide) rfl (by simp) (by simp[AWg,AWb,hA])⟩
def tcloneS:Summ:=readNewS fun args H=>match args with
 | [x]=>match rowSt H x with
   | some a=>if a.length≠0∧a.length≤1000000000 then some (.slice 0 0 a.length 1 false,[.cells true (a.map AV.str)]) else none
   | none=>none
 | _=>none
theorem tclone_sound:Sound Pz 52 tcloneS:=by
 refine sound_readNew (enter_of Tryz.func52 rfl (by decide)) fun args H v N h=>?_
 split at h <;> try cases h
 rename_i x
 split at h <;> try cases h
 rename_i a hx
 split at h <;> cases h
 rename_i hc;obtain⟨b1,o1,w1,g1⟩:=rowSt_win hx
 refine ct_winN (H0:=[.cells false (a.map AV.str)]) (args0:=[.sl 0 0 a.length 1 false]) ?_ rfl [(b1,o1)] ⟨w1 0 _ rfl,trivial⟩ ⟨g1,frees_map _ _ fun _=>rfl,trivial⟩
 have:=tclone_ct a hc.2 (by rintro rfl;exact hc.1 rfl)
 simpa[shA,shB,shAs_freeN 1 _ (frees_map a AV.str fun _=>rfl)] using this
def tsortN:Summ:=fun args H=>match args with
 | [.nils]=>some (.tuple [],H,[])
 | _=>none
theorem tsortN_sound:Sound Pz 54 tsortN:=by
 refine ⟨enter_of Tryz.func54 rfl (by decide),fun args H v H' W hs=>?_,fun args H v H' W hs=>?_⟩ <;> (unfold tsortN at hs;split at hs <;> cases hs)
 · intro j w cargs hR hargs
   obtain⟨v,cs,e,h1,h2⟩:=hargs;simp only[VRs]at h2;subst h2;simp only[VR]at h1;subst h1
   obtain rfl:cargs=#[.slice none 0 0]:=by apply Array.ext';rw[e]
   refine (Tryz.slices_Sort_string_none none 0 w).mono ?_;rintro e w' ⟨rfl,rfl⟩;exact⟨_,j,rfl,⟨#[],rfl,rfl⟩,Step.refl hR (qnZ _)⟩
 · exact⟨qnZ _,fun _ _ _=>rfl⟩
theorem orph_keep(m:Mf)(l:List (List UInt8)):orph m l=sortU (keepL m l):=rfl
theorem noTwin_nd{l:List (List UInt8)}(h:l.Nodup):noTwin l:=fun k hk e=>by
 exact List.pairwise_iff_getElem.1 h k (k+1) (by omega) hk (by omega) e.symm
def orphR(m:Mf)(l:List (List UInt8)):List AV:=(orph m l).map AV.str++qbZ (l.length-(orph m l).length) (.str [])
theorem frees_orphR(m:Mf)(l:List (List UInt8)):frees (orphR m l)=true:=frees_iff.2 fun v hv=>by
 rcases qxZ.1 hv with h | h
 · obtain⟨_,_,rfl⟩:=reZ.1 h;rfl
 · rw[List.eq_of_mem_replicate h];rfl
noncomputable def dlX(m:Mf)(l:List (List UInt8)):Summ:=onceS [.slice 3 0 l.length 1 false,.func 53 [] [.ptr 2 0]] (dlH m false (l.map .str) (l.map .str)) (.slice 3 0 (keepL m l).length 1 false)
 (dlH m false (l.map .str) ((keepL m l).map .str++qbZ (l.length-(keepL m l).length) (.str []))) [3]
theorem opΓ_ok(m:Mf)(l:List (List UInt8))(hm:m.segs.length≤1000000000000)(hl:l.length≤1000000000000)(hs:∀s∈l,s.length≤1000000) :
   GOk Pz (gams [(52,tcloneS),(51,dlX m l),(54,tsortS),(55,tcompS)]) :=
 goks_cons tclone_sound (goks_cons (sound_once (enter_of Tryz.func51 rfl (by decide)) (deleteT_ct m false (l.map .str) (frees_map _ _ fun _=>rfl) l hm hl hs) (by simp[dlH]) fun b hb hn=>by
   simp only[r1Z]at hn
   match b,hb,hn with
   | 0,_,_=>rfl
   | 1,_,_=>rfl
   | 2,_,_=>rfl
   | 3,_,hn=>exact absurd rfl hn
   | b+4,hb,_=>simp only[dlH,q7Z,q8Z]at hb;omega) (goks_cons tsort_sound (goks_cons tcomp_sound goks_nil)))
def opInl:List FuncId:=[52,51,124,55]
theorem op0Γ_ok:GOk Pz (runG Pz (gams [(54,tsortN)]) 4 opInl 3):=gok_run hmix (goks_cons tsortN_sound goks_nil) 4 opInl 3
theorem op1Γ_ok:GOk Pz (runG Pz (gams [(54,tsortS)]) 4 opInl 3):=gok_run hmix (goks_cons tsort_sound goks_nil) 4 opInl 3
theorem orph_ct(m:Mf)(l:List (List UInt8))(hm:m.segs.length≤1000000000000)(hl:l.length≤1000000)(hs:∀s∈l,s.length≤1000000)(hnd:l.Nodup) :
   Ct Pz 11 [mfA 0 m,.sl 1 0 l.length 1 false] [.cells false (sgsA m.segs),.cells false (l.map AV.str)] (.sl 2 0 (orph m l).length 1 false) [.cells false (sgsA m.segs),.cells false (l.map AV.str),.cells true (orphR m l)]:=by
 have hA3:∀rn:List Nat,AWs rn (sgsA m.segs) (sgsA m.segs):=fun rn=>AWs.refl _ _ (by simp)
 by_cases h0:l=[]
 · subst h0
   have he:orph m []=[]:=rfl;have hr:orphR m []=[]:=rfl;rw[he,hr];obtain⟨v,f,nx,sg⟩:=m;simp only[mfA];dsimp only at hA3 ⊢
   refine ct_slN (pre:=[.agg [.int .i64 v,.int .i64 f,.int .i64 nx,.sl 0 0 sg.length 3 false]]) ?_ fun _=>?_
   · refine ct_of_sim Tryz.func11 rfl ?_
     simp only[Tryz.ntmps11,q7Z,q8Z,Nat.reduceAdd,Nat.reduceSub,qbZ,q9Z,qaZ]
     refine Sim.step hmix op1Γ_ok (n:=4) (by simp;exact⟨rfl,rfl⟩) (by simp) ?_
     refine Sim.step hmix op1Γ_ok (n:=4) (by simp +decide [opInl,Tryz.f52,Tryz.f51,Tryz.f124];exact⟨rfl,rfl⟩) (by simp) ?_
     refine Sim.step hmix op1Γ_ok (n:=4) (by simp +decide [opInl,tsortS,strsOf,sortU];exact⟨rfl,rfl⟩) (by simp) ?_
     refine Sim.exec hmix op1Γ_ok (n:=4) (by simp +decide [opInl,Tryz.f55];exact⟨rfl,rfl,rfl⟩) (by simp) ?_
     exact⟨.inr rfl,_,by simp[Tryz.f11] <;> rfl,Weak.mk' [0,1,3] (by decide) (by decide) (by simp) (by simp[AWg,AWb,hA3])⟩
   · refine ct_of_sim Tryz.func11 rfl ?_
     simp only[Tryz.ntmps11,q7Z,q8Z,Nat.reduceAdd,Nat.reduceSub,qbZ,q9Z,qaZ]
     refine Sim.step hmix op0Γ_ok (n:=4) (by simp;exact⟨rfl,rfl⟩) (by simp) ?_
     refine Sim.step hmix op0Γ_ok (n:=4) (by simp +decide [opInl,Tryz.f52,Tryz.f51,Tryz.f124];exact⟨rfl,rfl⟩) (by simp) ?_
     refine Sim.step hmix op0Γ_ok (n:=4) (by simp +decide [opInl,tsortN];exact⟨rfl,rfl⟩) (by simp) ?_
     refine Sim.exec hmix op0Γ_ok (n:=4) (by simp +decide [opInl,Tryz.f55];exact⟨rfl,rfl,rfl⟩) (by simp) ?_
     exact⟨.inr rfl,_,by simp[Tryz.f11] <;> rfl,Weak.mk' [0,1,100] (by decide) (by decide) (by simp) (by simp[AWg,AWb,hA3])⟩
 · have hne:l.length≠0:=by simpa using h0
   have hΓ:=opΓ_ok m l hm (by omega) hs
   have hl9:l.length≤1000000000:=by omega
   have ht:(l.map AV.str).take l.length=l.map AV.str:=q6Z (by simp)
   have hst:strsOf (l.map AV.str)=some l:=strsOf_map l;have hS:dlX m l=dlX m l:=rfl
   conv at hS=>rhs;unfold dlX dlH
   unfold orphR;rw[orph_keep];obtain⟨K,hK⟩:∃K,keepL m l=K:=⟨_,rfl⟩
   have hKn:(sortU K).Nodup:=by rw[←hK,←orph_keep];exact orph_nd m hnd
   have hKl:K.length≤l.length:=by rw[←hK];exact keepL_le m l
   have hsl:(sortU K).length=K.length:=(sortU_perm K).length_eq;rw[hK]at hS ⊢;rw[hsl];obtain⟨k,hk⟩:∃k,K.length=k:=⟨_,rfl⟩;rw[hk]at hS hKl hsl ⊢;obtain⟨R,hR⟩:∃R,qbZ (l.length-k) (AV.str [])=R:=⟨_,rfl⟩
   have hRf:frees R=true:=by rw[←hR];exact frees_iff.2 fun v hv=>by rw[List.eq_of_mem_replicate hv];rfl
   rw[hR]at hS ⊢;obtain⟨B,hB⟩:∃B,K.map AV.str++R=B:=⟨_,rfl⟩
   have hBt:strsOf (B.take k)=some K:=by rw[←hB,List.take_append_of_le_length (by simp[hk]),q6Z (by simp[hk]),strsOf_map]
   have hBd:B.drop k=R:=by rw[←hB,List.drop_append_of_le_length (by simp[hk]),List.drop_of_length_le (by simp[hk]),qaZ]
   rw[hB]at hS;obtain⟨C,hC⟩:∃C,(sortU K).map AV.str++R=C:=⟨_,rfl⟩
   have hCt:strsOf (C.take k)=some (sortU K):=by rw[←hC,List.take_append_of_le_length (by simp[hsl]),q6Z (by simp[hsl]),strsOf_map]
   have hCd:C.drop k=R:=by rw[←hC,List.drop_append_of_le_length (by simp[hsl]),List.drop_of_length_le (by simp[hsl]),qaZ]
   rw[hC]
   have hCf:frees C=true:=by rw[←hC];exact frees_iff.2 fun v hv=>by
                                     rcases qxZ.1 hv with h | h
                                     · obtain⟨_,_,rfl⟩:=reZ.1 h;rfl
                                     · exact frees_iff.1 hRf v h
   have hA4:∀rn:List Nat,AWs rn C C:=fun rn=>AWs.refl _ _ hCf
   have hA1:∀rn:List Nat,AWs rn (l.map AV.str) (l.map AV.str):=fun rn=>AWs.refl _ _ (frees_map _ _ fun _=>rfl)
   have hk9:k≤1000000000:=by omega
   have hk12:k≤1000000000000:=by omega
   have hnt:=noTwin_nd hKn
   have hsh:shAs 3 (l.map AV.str)=l.map AV.str:=shAs_freeN 3 _ (frees_map l AV.str fun _=>rfl)
   obtain⟨v,f,nx,sg⟩:=m;simp only[mfA];dsimp only at hA3 hS ⊢;refine ct_of_sim Tryz.func11 rfl ?_;simp only[Tryz.ntmps11,q7Z,q8Z,Nat.reduceAdd,Nat.reduceSub,qbZ,q9Z,qaZ]
   refine Sim.step hmix hΓ (n:=0) (by simp;exact⟨rfl,rfl⟩) (by simp) ?_
   refine Sim.step hmix hΓ (n:=0) (by simp +decide [tcloneS,readNewS,rowSt,ht,hst,hne,h0,hl9,shA,shB,hsh,hS,onceS];exact⟨rfl,rfl⟩) (by simp) ?_
   refine Sim.step hmix hΓ (n:=0) (by simp +decide [tsortS,hBt,hBd,hk,hk9,hC];exact⟨rfl,rfl⟩) (by simp) ?_
   refine Sim.exec hmix hΓ (n:=0) (by simp +decide [tcompS,hCt,hCd,hsl,hk12,hnt,hRf];exact⟨rfl,rfl,rfl⟩) (by simp) ?_
   exact⟨.inr rfl,_,by simp[Tryz.f11] <;> rfl,Weak.mk' [0,1,3] (by decide) (by decide) (by simp) (by simp[AWg,AWb,hA1,hA3,hA4])⟩
def smallT(l:List (List UInt8)):Prop:=l.Nodup∧l.length≤1000000∧∀s∈l,s.length≤1000000
open Classical in
noncomputable def orphS:Summ:=readNewS fun args H=>match args with
 | [x,y]=>match mfOf H x,rowSt H y with
   | some m,some l=>if smallT l∧m.segs.length≤1000000000000 then some (.sl 0 0 (orph m l).length 1 false,[.cells true (orphR m l)]) else none
   | _,_=>none
 | _=>none
theorem orph_sound:Sound Pz 11 orphS:=by
 refine sound_readNew (enter_of Tryz.func11 rfl (by decide)) fun args H v N h=>?_
 split at h <;> try cases h
 rename_i x y
 split at h <;> try cases h
 rename_i m l hx hy
 split at h <;> cases h
 rename_i hc;obtain⟨⟨c1,c2,c3⟩,c4⟩:=hc;obtain⟨b1,o1,w1,g1⟩:=mf_win hx;obtain⟨b2,o2,w2,g2⟩:=rowSt_win hy
 refine ct_winN (H0:=[.cells false (sgsA m.segs),.cells false (l.map AV.str)]) (args0:=[mfA 0 m,.sl 1 0 l.length 1 false]) ?_ rfl [(b1,o1),(b2,o2)] ⟨w1 0 _ rfl,w2 1 _ rfl,trivial⟩ ⟨g1,by simp,g2,frees_map _ _ fun _=>rfl,trivial⟩
 have:=orph_ct m l c4 c2 c3 c1;simpa[shA,shB,shAs_freeN 2 _ (frees_orphR m l)] using this
end
end Go.Proofs.YtpmfecnajoojeaaGreatDoor
