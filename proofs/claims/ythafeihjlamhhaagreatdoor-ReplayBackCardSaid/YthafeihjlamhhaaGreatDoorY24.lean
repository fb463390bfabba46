/- Parts of the proof of ReplayBack: lemmas, each with its own conditions. -/
import Derived.Test.YthafeihjlamhhaaGreatDoorY17
set_option maxHeartbeats 64000000
open List renaming getElem?_eq_some_iff → q1Z, length_cons → q7Z, length_nil → q8Z, cons_append → q9Z, nil_append → qaZ, replicate → qbZ, append_nil → r2Z
open Option renaming map_some → rhZ
open Nat renaming zero_add → s8Z
namespace Go.Proofs.YthafeihjlamhhaaGreatDoor
open _root_.Go.Proofs.Tryz renaming prog → Pz
set_option maxRecDepth 100000
section
open Go Go.Lib
attribute [-simp] zJ zT zk zL zm
noncomputable def zWk:Gam:=zj [(208,zTt)]
theorem zUP:GOk Pz zWk:=zC zPi zE
theorem zRn(d:DS){A B:Nat}(hok:d.ok A B)(hB:B<=1000000000000)(m:Int)(U:zA)(v:Int)(f:PF)(hf:FS.get d.fs v=some f):Ct Pz 207 [.ptr (FS.at d.fs v+3) 0,.ptr (d.fs.length+3) 0] (d.heap (.cells true [.int .i64 m]::U)) (.int .i64 (f.cut m).2) ((d.fileTo v (f.cut m).1).heap (.cells true [.int .i64 m]::U)):=by
 have hΓ:=zUP;rw[zCD _ hf];have hq:=zCp hf (.cells true [.int .i64 m]::U);have hfok:f.small:=PF.ok_mono (hok.fine _ (FS.get_mem hf)) hB;obtain⟨n,hn⟩:∃n,d.fs.length=n:=⟨_,rfl⟩;have hX:=behind d.fs;rw[hn]at hX ⊢;have hXb:(zO d.fs++(.cells true [.int .i64 m]::U))[n]? = some (.cells true [.int .i64 m]):=hX.get0 _;refine zh Tryz.func207 rfl ?_;simp only[Tryz.ntmps207,q7Z,q8Z,Nat.reduceAdd,Nat.reduceSub,qbZ,q9Z,qaZ];unfold DS.heap DS.cell0;obtain⟨X,eX⟩:∃X,zO d.fs++(.cells true [.int .i64 m]::U)=X:=⟨_,rfl⟩;obtain⟨q,eq⟩:∃q,FS.at d.fs v=q:=⟨_,rfl⟩;rw[eX]at hq hXb ⊢;rw[eq]at hq ⊢
 refine Sim.step hmix hΓ (n:=0) (by simp;exact⟨rfl,rfl⟩) (by simp) ?_
 refine Sim.exec hmix hΓ (n:=0) (by simp[zWk,zTt,hq,hXb,hfok];exact⟨rfl,rfl,rfl⟩) (by simp) ?_
 exact⟨.inr rfl,by simp[Tryz.f207],rfl⟩
theorem zLo(d:DS){A B:Nat}(hok:d.ok A B)(hA:A<=999999)(hB:B<=1000000000000)(k:List UInt8)(m:Int):Ct Pz 143 [.ptr 0 0,.str k,.int .i64 m] (d.heap []) (.int .i64 (d.truncate k m).2) ((d.truncate k m).1.heap []):=by
 obtain⟨caps,hcaps⟩:∃caps:List AV,caps=[.ptr (d.fs.length+3) 0]:=⟨_,rfl⟩
 obtain⟨H1,hct,hl,⟨T3,hT3,_⟩,hfs⟩:=zLg d hok hA [.cells true [.int .i64 m]] (.cells true [.int .i64 m]::[ZL,zAY k,zD0 207 caps]) k 207 caps (fun _ f=>f.cut m) (zG Tryz.func207 rfl (by decide)) (by decide) (by decide) (by simp) fun v f _ hf=>by
   have:=zRn d.count (DS.ok_count hok) hB m [ZL,zAY k,zD0 207 caps] v f (by rw[DS.count_fs];exact hf)
   rw[DS.count_fs,<-hcaps]at this;exact this
 have hΓ:=zC (zy (zG Tryz.func147 rfl (by decide)) hct hl) zE
 have hfin:=zE9 (d:=d) T3 (.int .i64 (d.truncate k m).2) rfl hfs;unfold DS.truncate at hfin ⊢;rw[<-hT3]at hfin;refine zI Tryz.func143 rfl ?_;simp only[Tryz.ntmps143,q7Z,q8Z,Nat.reduceAdd,Nat.reduceSub,qbZ,q9Z,qaZ];rw[DS.heap_length]at hl ⊢;simp only[q8Z,Nat.add_zero,q7Z,s8Z]at hl ⊢;clear hct hT3;generalize DS.of d k _=R at hΓ hfin ⊢;generalize R.1.heap []=HF at hfin ⊢;generalize R.2=e at hΓ hfin ⊢;obtain⟨n,hn⟩:∃n,d.fs.length=n:=⟨_,rfl⟩;have hX:=behind d.fs;rw[hn]at hX hfin hcaps hl ⊢;have hXl:=hX.len;have hXg:=hX.get;have hXg0:=hX.get0;subst hcaps;unfold DS.heap DS.cell0 at hΓ;unfold DS.heap DS.cell0;obtain⟨X,eX⟩:∃X,zO d.fs=X:=⟨_,rfl⟩;rw[eX]at hXl hXg hXg0 hΓ ⊢
 refine Sim.step hmix hΓ (n:=0) (by simp[hXl];exact⟨rfl,rfl⟩) (by simp[hXl]) ?_
 refine Sim.exec hmix hΓ (n:=0) (by simp[hXl];exact⟨rfl,rfl,rfl⟩) (by simp[hXl]) ?_
 exact⟨.inr rfl,_,by simp[Tryz.f143] <;> rfl,hfin⟩
noncomputable def zQz:Gam:=zj [(103,zAS),(107,zPO)]
theorem zVs:GOk Pz (zAJ Pz zQz 0 zAd 2):=zd hmix (zC Z8 (zC zNz zE)) 0 zAd 2
theorem zPs(d:DS){A B:Nat}(hok:d.ok A B)(hB:B<=1000000000000)(k:List UInt8)(a m:Int):Ct Pz 41 [.ptr 0 0,.str k,.int .i64 a,.int .i64 m] (d.heap []) (.tuple [.str (d.readAt k a m).1,.int .i64 (d.readAt k a m).2]) (d.heap []):=by
 have hΓ:=zVs;refine zh Tryz.func41 rfl ?_;simp only[Tryz.ntmps41,q7Z,q8Z,Nat.reduceAdd,Nat.reduceSub,qbZ,q9Z,qaZ];unfold DS.readAt
 cases hd:d.down with
 | true =>
   unfold DS.heap DS.cell0;rw[hd]
   refine Sim.step hmix hΓ (n:=0) (by simp;exact⟨rfl,rfl⟩) (by simp) ?_
   refine Sim.step hmix hΓ (n:=0) (by simp +decide [zAd,Tryz.f81];exact⟨rfl,rfl⟩) (by simp) ?_
   refine Sim.exec hmix hΓ (n:=0) (by simp +decide;exact⟨rfl,rfl,rfl⟩) (by simp) ?_
   exact⟨.inr rfl,by simp[Tryz.f41],by simp⟩
 | false =>
   cases hg:d.fd.now.get k with
   | none =>
     have hfind:d.fd.find k=(0,false):=by unfold FD.find;rw[hg]
     unfold DS.heap DS.cell0;rw[hd]
     refine Sim.step hmix hΓ (n:=0) (by simp;exact⟨rfl,rfl⟩) (by simp) ?_
     refine Sim.step hmix hΓ (n:=0) (by simp +decide [zAd,zQz,zAS,hfind,Tryz.f81];exact⟨rfl,rfl⟩) (by simp) ?_
     refine Sim.exec hmix hΓ (n:=0) (by simp +decide;exact⟨rfl,rfl,rfl⟩) (by simp) ?_
     exact⟨.inr rfl,by simp[Tryz.f41],by simp⟩
   | some v =>
     obtain⟨f,hf,hfo⟩:=DS.has_file hok hg;have hfok:f.small:=PF.ok_mono hfo hB;have hfind:=FD.find_get hg
     have hlook:=zAe (fun i=>i+3) v 0 d.fs 0
     rw[hf]at hlook;simp only[rhZ,s8Z]at hlook;have hq:=zCp hf [];rw[r2Z]at hq;dsimp only;rw[hf];dsimp only;obtain⟨r1,r2,hr⟩:∃r1 r2,f.readAt a m=(r1,r2):=⟨_,_,rfl⟩;rw[hr]
     have hqs:(zO d.fs).set (FS.at d.fs v) (.obj true f.blks)=zO d.fs:=by
       obtain⟨h1,h2⟩:=q1Z.1 hq;rw[<-h2,List.set_getElem_self]
     unfold DS.heap DS.cell0;rw[hd];generalize FS.at d.fs v=q at hlook hq hqs;obtain⟨X,eX⟩:∃X,zO d.fs=X:=⟨_,rfl⟩;rw[eX]at hq hqs ⊢
     refine Sim.step hmix hΓ (n:=0) (by simp;exact⟨rfl,rfl⟩) (by simp) ?_
     refine Sim.step hmix hΓ (n:=0) (by simp +decide [zAd,zQz,zAS,hfind,hlook,Tryz.f81];exact⟨rfl,rfl⟩) (by simp) ?_
     refine Sim.step hmix hΓ (n:=0) (by simp +decide;exact⟨rfl,rfl⟩) (by simp) ?_
     refine Sim.exec hmix hΓ (n:=0) (by simp +decide [zAd,zQz,zPO,hq,hqs,hfok,hr];exact⟨rfl,rfl,rfl⟩) (by simp) ?_
     exact⟨.inr rfl,by simp[Tryz.f41],by simp⟩
noncomputable section
open Classical
def zQg:zU:=zBb dsD DS.blks fun d xs _=>match xs with
 | [.str k,.int .i64 m]=>if d.small then some ((d.truncate k m).1,.int .i64 (d.truncate k m).2) else none
 | _=>none
theorem zPP:Sound Pz 143 zQg:=by
 refine ze (zG Tryz.func143 rfl (by decide)) (fun _ _=>Zt) fun d xs H s' v b hg hb=>?_
 split at hg;rotate_left
 · cases hg
 split at hg <;> cases hg
 rename_i hs
 exact ZI (zCC (zLo d hs (by decide) (by decide) _ _) rfl) rfl rfl hb
def zQJ:zU:=zBb dsD DS.blks fun d xs _=>match xs with
 | [.str k,.int .i64 a,.int .i64 m]=>if d.small then some (d,.tuple [.str (d.readAt k a m).1,.int .i64 (d.readAt k a m).2]) else none
 | _=>none
theorem zIE:Sound Pz 41 zQJ:=by
 refine ze (zG Tryz.func41 rfl (by decide)) (fun _ _=>Zt) fun d xs H s' v b hg hb=>?_
 split at hg;rotate_left
 · cases hg
 split at hg <;> cases hg
 rename_i hs
 exact ZI (zCC (zPs d hs (by decide) _ _ _) rfl) rfl rfl hb
end
end
section
open Go Go.Lib
attribute [-simp] zJ zT zk zL zm
noncomputable def zSi:Gam:=zj [(103,zAS),(105,zTY)]
theorem zVq:GOk Pz (zAJ Pz zSi 0 zAd 2):=zd hmix (zC Z8 (zC zO9 zE)) 0 zAd 2
noncomputable def zUV:Gam:=zj [(103,zAS)]
theorem zV6:GOk Pz (zAJ Pz zUV 0 zGw 3):=zd hmix (zC Z8 zE) 0 zGw 3
theorem zTU(d:DS){A B:Nat}(hok:d.ok A B)(k:List UInt8):Ct Pz 37 [.ptr 0 0,.str k] (d.heap []) (.tuple [.int .i64 (d.size k).1,.int .i64 (d.size k).2]) (d.heap []):=by
 cases hd:d.down with
 | true =>
   have:d.size k=(0,13):=by unfold DS.size;rw[hd];rfl
   rw[this];exact zLI d hd k
 | false =>
   unfold DS.size;rw[hd];refine zh Tryz.func37 rfl ?_;simp only[Tryz.ntmps37,q7Z,q8Z,Nat.reduceAdd,Nat.reduceSub,qbZ,q9Z,qaZ]
   cases hg:d.fd.now.get k with
   | none =>
     have hΓ:=zV6
     have hfind:d.fd.find k=(0,false):=by unfold FD.find;rw[hg]
     unfold DS.heap DS.cell0;rw[hd]
     refine Sim.step hmix hΓ (n:=0) (by simp;exact⟨rfl,rfl⟩) (by simp) ?_
     refine Sim.step hmix hΓ (n:=0) (by simp +decide [zGw,zUV,zAS,hfind,Tryz.f81];exact⟨rfl,rfl⟩) (by simp) ?_
     refine Sim.exec hmix hΓ (n:=0) (by simp +decide [zGw,zUV,Tryz.f105,Tryz.f82];exact⟨rfl,rfl,rfl⟩) (by simp) ?_
     exact⟨.inr rfl,by simp[Tryz.f37],by simp⟩
   | some v =>
     have hΓ:=zVq;obtain⟨f,hf,hfo⟩:=DS.has_file hok hg;have hfind:=FD.find_get hg
     have hlook:=zAe (fun i=>i+3) v 0 d.fs 0
     rw[hf]at hlook;simp only[rhZ,s8Z]at hlook;have hq:=zCp hf [];rw[r2Z]at hq;dsimp only;rw[hf];dsimp only;obtain⟨n,hn⟩:∃n,f.now.length=n:=⟨_,rfl⟩;rw[hn]
     have hqs:(zO d.fs).set (FS.at d.fs v) (.obj true f.blks)=zO d.fs:=by
       obtain⟨h1,h2⟩:=q1Z.1 hq;rw[<-h2,List.set_getElem_self]
     unfold DS.heap DS.cell0;rw[hd];generalize FS.at d.fs v=q at hlook hq hqs;obtain⟨X,eX⟩:∃X,zO d.fs=X:=⟨_,rfl⟩;rw[eX]at hq hqs ⊢
     refine Sim.step hmix hΓ (n:=0) (by simp;exact⟨rfl,rfl⟩) (by simp) ?_
     refine Sim.step hmix hΓ (n:=0) (by simp +decide [zAd,zSi,zAS,hfind,hlook,Tryz.f81];exact⟨rfl,rfl⟩) (by simp) ?_
     refine Sim.exec hmix hΓ (n:=0) (by simp +decide [zAd,zSi,zTY,hq,hqs,hn];exact⟨rfl,rfl,rfl⟩) (by simp) ?_
     exact⟨.inr rfl,by simp[Tryz.f37],by simp⟩
open Classical in
noncomputable def zGW:zU:=zBb dsD DS.blks fun d xs _=>match xs with
 | [.str k]=>if d.small then some (d,.tuple [.int .i64 (d.size k).1,.int .i64 (d.size k).2]) else none
 | _=>none
theorem zDd:Sound Pz 37 zGW:=by
 refine ze (zG Tryz.func37 rfl (by decide)) (fun _ _=>Zt) fun d xs H s' v b hg hb=>?_
 split at hg;rotate_left
 · cases hg
 split at hg <;> cases hg
 rename_i hs;exact ZI (zCC (zTU d hs _) rfl) rfl rfl hb
end
end Go.Proofs.YthafeihjlamhhaaGreatDoor
