/- Parts of the proof of SweepStops: lemmas, each with its own conditions. -/
import Derived.Test.YthafeihjlamhhaaGreatDoorY21
set_option maxHeartbeats 64000000
open List renaming getElem?_eq_some_iff → q1Z, length_cons → q7Z, length_nil → q8Z, cons_append → q9Z, nil_append → qaZ, replicate → qbZ, append_nil → r2Z
open Option renaming map_some → rhZ
open Nat renaming zero_add → s8Z
namespace Go.Proofs.YthafeihjlamhhaaGreatDoor
open _root_.Go.Proofs.Tryz renaming prog → Pz
set_option maxRecDepth 100000
section
open Go Go.Lib
attribute [-simp] drawOk_eq adraw qrun acode aops
end
section
open Go Go.Lib
attribute [-simp] drawOk_eq adraw qrun acode aops
noncomputable section
open Classical
end
end
section
open Go Go.Lib
attribute [-simp] drawOk_eq adraw qrun acode aops
noncomputable def slΓ0:Gam:=gams [(103,ffindS),(105,flenS)]
theorem slΓ_ok:GOk Pz (runG Pz slΓ0 0 rdInlD 2):=gok_run hmix (goks_cons ffind_sound (goks_cons flen_sound goks_nil)) 0 rdInlD 2
noncomputable def snΓ0:Gam:=gams [(103,ffindS)]
theorem snΓ_ok:GOk Pz (runG Pz snΓ0 0 szInl 3):=gok_run hmix (goks_cons ffind_sound goks_nil) 0 szInl 3
theorem size_ctD(d:DS){A B:Nat}(hok:d.ok A B)(k:List UInt8):Ct Pz 37 [.ptr 0 0,.str k] (d.heap []) (.tuple [.int .i64 (d.size k).1,.int .i64 (d.size k).2]) (d.heap []):=by
 cases hd:d.down with
 | true =>
   have:d.size k=(0,13):=by unfold DS.size;rw[hd];rfl
   rw[this];exact size_down_ct d hd k
 | false =>
   unfold DS.size;rw[hd];refine ct_of_simE Tryz.func37 rfl ?_;simp only[Tryz.ntmps37,q7Z,q8Z,Nat.reduceAdd,Nat.reduceSub,qbZ,q9Z,qaZ]
   cases hg:d.fd.now.get k with
   | none =>
     have hΓ:=snΓ_ok
     have hfind:d.fd.find k=(0,false):=by unfold FD.find;rw[hg]
     unfold DS.heap DS.cell0;rw[hd]
     refine Sim.step hmix hΓ (n:=0) (by simp;exact⟨rfl,rfl⟩) (by simp) ?_
     refine Sim.step hmix hΓ (n:=0) (by simp +decide [szInl,snΓ0,ffindS,hfind,Tryz.f81];exact⟨rfl,rfl⟩) (by simp) ?_
     refine Sim.exec hmix hΓ (n:=0) (by simp +decide [szInl,snΓ0,Tryz.f105,Tryz.f82];exact⟨rfl,rfl,rfl⟩) (by simp) ?_
     exact⟨.inr rfl,by simp[Tryz.f37],by simp⟩
   | some v =>
     have hΓ:=slΓ_ok;obtain⟨f,hf,hfo⟩:=DS.has_file hok hg;have hfind:=FD.find_get hg
     have hlook:=find_files (fun i=>i+3) v 0 d.fs 0
     rw[hf]at hlook;simp only[rhZ,s8Z]at hlook;have hq:=heap_file hf [];rw[r2Z]at hq;dsimp only;rw[hf];dsimp only;obtain⟨n,hn⟩:∃n,f.now.length=n:=⟨_,rfl⟩;rw[hn]
     have hqs:(filesB d.fs).set (FS.at d.fs v) (.obj true f.blks)=filesB d.fs:=by
       obtain⟨h1,h2⟩:=q1Z.1 hq;rw[←h2,List.set_getElem_self]
     unfold DS.heap DS.cell0;rw[hd];generalize FS.at d.fs v=q at hlook hq hqs;obtain⟨X,eX⟩:∃X,filesB d.fs=X:=⟨_,rfl⟩;rw[eX]at hq hqs ⊢
     refine Sim.step hmix hΓ (n:=0) (by simp;exact⟨rfl,rfl⟩) (by simp) ?_
     refine Sim.step hmix hΓ (n:=0) (by simp +decide [rdInlD,slΓ0,ffindS,hfind,hlook,Tryz.f81];exact⟨rfl,rfl⟩) (by simp) ?_
     refine Sim.exec hmix hΓ (n:=0) (by simp +decide [rdInlD,slΓ0,flenS,hq,hqs,hn];exact⟨rfl,rfl,rfl⟩) (by simp) ?_
     exact⟨.inr rfl,by simp[Tryz.f37],by simp⟩
open Classical in
noncomputable def dsizeS:Summ:=objS dsD DS.blks fun d xs _=>match xs with
 | [.str k]=>if d.small then some (d,.tuple [.int .i64 (d.size k).1,.int .i64 (d.size k).2]) else none
 | _=>none
theorem dsize_sound:Sound Pz 37 dsizeS:=by
 refine sound_obj (enter_of Tryz.func37 rfl (by decide)) (fun _ _=>dsD_eq) fun d xs H s' v b hg hb=>?_
 split at hg;rotate_left
 · cases hg
 split at hg <;> cases hg
 rename_i hs;exact ct_obj1 (ct_objD (size_ctD d hs _) rfl) rfl rfl hb
end
end Go.Proofs.YthafeihjlamhhaaGreatDoor
