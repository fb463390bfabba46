/- Parts of the proof of WalKeeps: lemmas, each with its own conditions. -/
import Derived.Test.YtpmfecnajoojeaaGreatDoorY17
set_option maxHeartbeats 64000000
open List renaming getElem?_eq_some_iff → q1Z, length_cons → q7Z, length_nil → q8Z, cons_append → q9Z, nil_append → qaZ, replicate → qbZ, append_nil → r2Z
open Option renaming map_some → rhZ
open Nat renaming zero_add → s8Z
namespace Go.Proofs.YtpmfecnajoojeaaGreatDoor
open _root_.Go.Proofs.Tryz renaming prog → Pz
set_option maxRecDepth 100000
section
open Go Go.Lib
attribute [-simp] drawOk_eq adraw qrun acode aops
noncomputable def raΓ0:Gam:=gams [(73,ffindS),(143,freadS)]
theorem raΓ_ok:GOk Pz (runG Pz raΓ0 0 rdInlD 2):=gok_run hmix (goks_cons ffind_sound (goks_cons fread_sound goks_nil)) 0 rdInlD 2
theorem readAt_ctD(d:DS){A B:Nat}(hok:d.ok A B)(hB:B≤1000000000000)(k:List UInt8)(a m:Int):Ct Pz 75 [.ptr 0 0,.str k,.int .i64 a,.int .i64 m] (d.heap []) (.tuple [.str (d.readAt k a m).1,.int .i64 (d.readAt k a m).2]) (d.heap []):=by
 have hΓ:=raΓ_ok;refine ct_of_simE Tryz.func75 rfl ?_;simp only[Tryz.ntmps75,q7Z,q8Z,Nat.reduceAdd,Nat.reduceSub,qbZ,q9Z,qaZ];unfold DS.readAt
 cases hd:d.down with
 | true =>
   unfold DS.heap DS.cell0;rw[hd]
   refine Sim.step hmix hΓ (n:=0) (by simp;exact⟨rfl,rfl⟩) (by simp) ?_
   refine Sim.step hmix hΓ (n:=0) (by simp +decide [rdInlD,Tryz.f114];exact⟨rfl,rfl⟩) (by simp) ?_
   refine Sim.exec hmix hΓ (n:=0) (by simp +decide;exact⟨rfl,rfl,rfl⟩) (by simp) ?_
   exact⟨.inr rfl,by simp[Tryz.f75],by simp⟩
 | false =>
   cases hg:d.fd.now.get k with
   | none =>
     have hfind:d.fd.find k=(0,false):=by unfold FD.find;rw[hg]
     unfold DS.heap DS.cell0;rw[hd]
     refine Sim.step hmix hΓ (n:=0) (by simp;exact⟨rfl,rfl⟩) (by simp) ?_
     refine Sim.step hmix hΓ (n:=0) (by simp +decide [rdInlD,raΓ0,ffindS,hfind,Tryz.f114];exact⟨rfl,rfl⟩) (by simp) ?_
     refine Sim.exec hmix hΓ (n:=0) (by simp +decide;exact⟨rfl,rfl,rfl⟩) (by simp) ?_
     exact⟨.inr rfl,by simp[Tryz.f75],by simp⟩
   | some v =>
     obtain⟨f,hf,hfo⟩:=DS.has_file hok hg;have hfok:f.small:=PF.ok_mono hfo hB;have hfind:=FD.find_get hg
     have hlook:=find_files (fun i=>i+3) v 0 d.fs 0
     rw[hf]at hlook;simp only[rhZ,s8Z]at hlook;have hq:=heap_file hf [];rw[r2Z]at hq;dsimp only;rw[hf];dsimp only;obtain⟨r1,r2,hr⟩:∃r1 r2,f.readAt a m=(r1,r2):=⟨_,_,rfl⟩;rw[hr]
     have hqs:(filesB d.fs).set (FS.at d.fs v) (.obj true f.blks)=filesB d.fs:=by
       obtain⟨h1,h2⟩:=q1Z.1 hq;rw[←h2,List.set_getElem_self]
     unfold DS.heap DS.cell0;rw[hd];generalize FS.at d.fs v=q at hlook hq hqs;obtain⟨X,eX⟩:∃X,filesB d.fs=X:=⟨_,rfl⟩;rw[eX]at hq hqs ⊢
     refine Sim.step hmix hΓ (n:=0) (by simp;exact⟨rfl,rfl⟩) (by simp) ?_
     refine Sim.step hmix hΓ (n:=0) (by simp +decide [rdInlD,raΓ0,ffindS,hfind,hlook,Tryz.f114];exact⟨rfl,rfl⟩) (by simp) ?_
     refine Sim.step hmix hΓ (n:=0) (by simp +decide;exact⟨rfl,rfl⟩) (by simp) ?_
     refine Sim.exec hmix hΓ (n:=0) (by simp +decide [rdInlD,raΓ0,freadS,hq,hqs,hfok,hr];exact⟨rfl,rfl,rfl⟩) (by simp) ?_
     exact⟨.inr rfl,by simp[Tryz.f75],by simp⟩
noncomputable section
open Classical
def dreaS:Summ:=objS dsD DS.blks fun d xs _=>match xs with
 | [.str k,.int .i64 a,.int .i64 m]=>if d.small then some (d,.tuple [.str (d.readAt k a m).1,.int .i64 (d.readAt k a m).2]) else none
 | _=>none
theorem drea_sound:Sound Pz 75 dreaS:=by
 refine sound_obj (enter_of Tryz.func75 rfl (by decide)) (fun _ _=>dsD_eq) fun d xs H s' v b hg hb=>?_
 split at hg;rotate_left
 · cases hg
 split at hg <;> cases hg
 rename_i hs
 exact ct_obj1 (ct_objD (readAt_ctD d hs (by decide) _ _ _) rfl) rfl rfl hb
end
end
section
open Go Go.Lib
attribute [-simp] drawOk_eq adraw qrun acode aops
noncomputable def slΓ0:Gam:=gams [(73,ffindS),(148,flenS)]
theorem slΓ_ok:GOk Pz (runG Pz slΓ0 0 rdInlD 2):=gok_run hmix (goks_cons ffind_sound (goks_cons flen_sound goks_nil)) 0 rdInlD 2
noncomputable def snΓ0:Gam:=gams [(73,ffindS)]
theorem snΓ_ok:GOk Pz (runG Pz snΓ0 0 szInl 3):=gok_run hmix (goks_cons ffind_sound goks_nil) 0 szInl 3
theorem size_ctD(d:DS){A B:Nat}(hok:d.ok A B)(k:List UInt8):Ct Pz 79 [.ptr 0 0,.str k] (d.heap []) (.tuple [.int .i64 (d.size k).1,.int .i64 (d.size k).2]) (d.heap []):=by
 cases hd:d.down with
 | true =>
   have:d.size k=(0,13):=by unfold DS.size;rw[hd];rfl
   rw[this];exact size_down_ct d hd k
 | false =>
   unfold DS.size;rw[hd];refine ct_of_simE Tryz.func79 rfl ?_;simp only[Tryz.ntmps79,q7Z,q8Z,Nat.reduceAdd,Nat.reduceSub,qbZ,q9Z,qaZ]
   cases hg:d.fd.now.get k with
   | none =>
     have hΓ:=snΓ_ok
     have hfind:d.fd.find k=(0,false):=by unfold FD.find;rw[hg]
     unfold DS.heap DS.cell0;rw[hd]
     refine Sim.step hmix hΓ (n:=0) (by simp;exact⟨rfl,rfl⟩) (by simp) ?_
     refine Sim.step hmix hΓ (n:=0) (by simp +decide [szInl,snΓ0,ffindS,hfind,Tryz.f114];exact⟨rfl,rfl⟩) (by simp) ?_
     refine Sim.exec hmix hΓ (n:=0) (by simp +decide [szInl,snΓ0,Tryz.f148,Tryz.f115];exact⟨rfl,rfl,rfl⟩) (by simp) ?_
     exact⟨.inr rfl,by simp[Tryz.f79],by simp⟩
   | some v =>
     have hΓ:=slΓ_ok;obtain⟨f,hf,hfo⟩:=DS.has_file hok hg;have hfind:=FD.find_get hg
     have hlook:=find_files (fun i=>i+3) v 0 d.fs 0
     rw[hf]at hlook;simp only[rhZ,s8Z]at hlook;have hq:=heap_file hf [];rw[r2Z]at hq;dsimp only;rw[hf];dsimp only;obtain⟨n,hn⟩:∃n,f.now.length=n:=⟨_,rfl⟩;rw[hn]
     have hqs:(filesB d.fs).set (FS.at d.fs v) (.obj true f.blks)=filesB d.fs:=by
       obtain⟨h1,h2⟩:=q1Z.1 hq;rw[←h2,List.set_getElem_self]
     unfold DS.heap DS.cell0;rw[hd];generalize FS.at d.fs v=q at hlook hq hqs;obtain⟨X,eX⟩:∃X,filesB d.fs=X:=⟨_,rfl⟩;rw[eX]at hq hqs ⊢
     refine Sim.step hmix hΓ (n:=0) (by simp;exact⟨rfl,rfl⟩) (by simp) ?_
     refine Sim.step hmix hΓ (n:=0) (by simp +decide [rdInlD,slΓ0,ffindS,hfind,hlook,Tryz.f114];exact⟨rfl,rfl⟩) (by simp) ?_
     refine Sim.exec hmix hΓ (n:=0) (by simp +decide [rdInlD,slΓ0,flenS,hq,hqs,hn];exact⟨rfl,rfl,rfl⟩) (by simp) ?_
     exact⟨.inr rfl,by simp[Tryz.f79],by simp⟩
open Classical in
noncomputable def dsizeS:Summ:=objS dsD DS.blks fun d xs _=>match xs with
 | [.str k]=>if d.small then some (d,.tuple [.int .i64 (d.size k).1,.int .i64 (d.size k).2]) else none
 | _=>none
theorem dsize_sound:Sound Pz 79 dsizeS:=by
 refine sound_obj (enter_of Tryz.func79 rfl (by decide)) (fun _ _=>dsD_eq) fun d xs H s' v b hg hb=>?_
 split at hg;rotate_left
 · cases hg
 split at hg <;> cases hg
 rename_i hs;exact ct_obj1 (ct_objD (size_ctD d hs _) rfl) rfl rfl hb
end
end Go.Proofs.YtpmfecnajoojeaaGreatDoor
