/- Parts of the proof of ReplayMends: lemmas, each with its own conditions. -/
import Derived.Test.YtpmfecnajoojeaaGreatDoorY22
set_option maxHeartbeats 64000000
open List renaming getElem?_eq_some_iff → q1Z, length_cons → q7Z, length_nil → q8Z, cons_append → q9Z, nil_append → qaZ, replicate → qbZ, append_nil → r2Z
open Option renaming map_some → rhZ
open Nat renaming zero_add → s8Z
namespace Go.Proofs.YtpmfecnajoojeaaGreatDoor
open _root_.Go.Proofs.Tryz renaming prog → Pz
set_option maxRecDepth 100000
section
open Go Go.Lib
attribute [-simp] zJ zY zn zL zl
end
section
open Go Go.Lib
attribute [-simp] zJ zY zn zL zl
noncomputable def zWV:Gam:=zv [(182,zTE)]
theorem zS1:GOk Pz zWV:=zC zOh zD
theorem zQu(d:DS){A B:Nat}(hok:d.ok A B)(hB:B<=1000000000000)(m:Int)(U:zA)(v:Int)(f:PF)(hf:FS.get d.fs v=some f):Ct Pz 181 [.ptr (FS.at d.fs v+3) 0,.ptr (d.fs.length+3) 0] (d.heap (.cells true [.int .i64 m]::U)) (.int .i64 (f.cut m).2) ((d.fileTo v (f.cut m).1).heap (.cells true [.int .i64 m]::U)):=by
 have hΓ:=zS1;rw[zGm _ hf];have hq:=zET hf (.cells true [.int .i64 m]::U);have hfok:f.small:=PF.ok_mono (hok.fine _ (FS.get_mem hf)) hB;obtain⟨n,hn⟩:∃n,d.fs.length=n:=⟨_,rfl⟩;have hX:=behind d.fs;rw[hn]at hX ⊢;have hXb:(zM d.fs++(.cells true [.int .i64 m]::U))[n]? = some (.cells true [.int .i64 m]):=hX.get0 _;refine zz Tryz.func181 rfl ?_;simp only[Tryz.ntmps181,q7Z,q8Z,Nat.reduceAdd,Nat.reduceSub,qbZ,q9Z,qaZ];unfold DS.heap DS.cell0;obtain⟨X,eX⟩:∃X,zM d.fs++(.cells true [.int .i64 m]::U)=X:=⟨_,rfl⟩;obtain⟨q,eq⟩:∃q,FS.at d.fs v=q:=⟨_,rfl⟩;rw[eX]at hq hXb ⊢;rw[eq]at hq ⊢
 refine Sim.step hmix hΓ (n:=0) (by simp;exact⟨rfl,rfl⟩) (by simp) ?_
 refine Sim.exec hmix hΓ (n:=0) (by simp[zWV,zTE,hq,hXb,hfok];exact⟨rfl,rfl,rfl⟩) (by simp) ?_
 exact⟨.inr rfl,by simp[Tryz.f181],rfl⟩
theorem zLa(d:DS){A B:Nat}(hok:d.ok A B)(hA:A<=999999)(hB:B<=1000000000000)(k:List UInt8)(m:Int):Ct Pz 112 [.ptr 0 0,.str k,.int .i64 m] (d.heap []) (.int .i64 (d.truncate k m).2) ((d.truncate k m).1.heap []):=by
 obtain⟨caps,hcaps⟩:∃caps:List AV,caps=[.ptr (d.fs.length+3) 0]:=⟨_,rfl⟩
 obtain⟨H1,hct,hl,⟨T3,hT3,_⟩,hfs⟩:=zTA d hok hA [.cells true [.int .i64 m]] (.cells true [.int .i64 m]::[zE5,zFK k,zFD 181 caps]) k 181 caps (fun _ f=>f.cut m) (zH Tryz.func181 rfl (by decide)) (by decide) (by decide) (by simp) fun v f _ hf=>by
   have:=zQu d.count (DS.ok_count hok) hB m [zE5,zFK k,zFD 181 caps] v f (by rw[DS.count_fs];exact hf)
   rw[DS.count_fs,<-hcaps]at this;exact this
 have hΓ:=zC (Zf (zH Tryz.func130 rfl (by decide)) hct hl) zD
 have hfin:=zH3 (d:=d) T3 (.int .i64 (d.truncate k m).2) rfl hfs;unfold DS.truncate at hfin ⊢;rw[<-hT3]at hfin;refine zK Tryz.func112 rfl ?_;simp only[Tryz.ntmps112,q7Z,q8Z,Nat.reduceAdd,Nat.reduceSub,qbZ,q9Z,qaZ];rw[DS.heap_length]at hl ⊢;simp only[q8Z,Nat.add_zero,q7Z,s8Z]at hl ⊢;clear hct hT3;generalize DS.of d k _=R at hΓ hfin ⊢;generalize R.1.heap []=HF at hfin ⊢;generalize R.2=e at hΓ hfin ⊢;obtain⟨n,hn⟩:∃n,d.fs.length=n:=⟨_,rfl⟩;have hX:=behind d.fs;rw[hn]at hX hfin hcaps hl ⊢;have hXl:=hX.len;have hXg:=hX.get;have hXg0:=hX.get0;subst hcaps;unfold DS.heap DS.cell0 at hΓ;unfold DS.heap DS.cell0;obtain⟨X,eX⟩:∃X,zM d.fs=X:=⟨_,rfl⟩;rw[eX]at hXl hXg hXg0 hΓ ⊢
 refine Sim.step hmix hΓ (n:=0) (by simp[hXl];exact⟨rfl,rfl⟩) (by simp[hXl]) ?_
 refine Sim.exec hmix hΓ (n:=0) (by simp[hXl];exact⟨rfl,rfl,rfl⟩) (by simp[hXl]) ?_
 exact⟨.inr rfl,_,by simp[Tryz.f112] <;> rfl,hfin⟩
noncomputable def zQA:Gam:=zv [(73,zAS),(143,zOt)]
theorem zWB:GOk Pz (zAL Pz zQA 0 zAc 2):=zq hmix (zC zAI (zC zOB zD)) 0 zAc 2
theorem zOu(d:DS){A B:Nat}(hok:d.ok A B)(hB:B<=1000000000000)(k:List UInt8)(a m:Int):Ct Pz 75 [.ptr 0 0,.str k,.int .i64 a,.int .i64 m] (d.heap []) (.tuple [.str (d.readAt k a m).1,.int .i64 (d.readAt k a m).2]) (d.heap []):=by
 have hΓ:=zWB;refine zz Tryz.func75 rfl ?_;simp only[Tryz.ntmps75,q7Z,q8Z,Nat.reduceAdd,Nat.reduceSub,qbZ,q9Z,qaZ];unfold DS.readAt
 cases hd:d.down with
 | true =>
   unfold DS.heap DS.cell0;rw[hd]
   refine Sim.step hmix hΓ (n:=0) (by simp;exact⟨rfl,rfl⟩) (by simp) ?_
   refine Sim.step hmix hΓ (n:=0) (by simp +decide [zAc,Tryz.f114];exact⟨rfl,rfl⟩) (by simp) ?_
   refine Sim.exec hmix hΓ (n:=0) (by simp +decide;exact⟨rfl,rfl,rfl⟩) (by simp) ?_
   exact⟨.inr rfl,by simp[Tryz.f75],by simp⟩
 | false =>
   cases hg:d.fd.now.get k with
   | none =>
     have hfind:d.fd.find k=(0,false):=by unfold FD.find;rw[hg]
     unfold DS.heap DS.cell0;rw[hd]
     refine Sim.step hmix hΓ (n:=0) (by simp;exact⟨rfl,rfl⟩) (by simp) ?_
     refine Sim.step hmix hΓ (n:=0) (by simp +decide [zAc,zQA,zAS,hfind,Tryz.f114];exact⟨rfl,rfl⟩) (by simp) ?_
     refine Sim.exec hmix hΓ (n:=0) (by simp +decide;exact⟨rfl,rfl,rfl⟩) (by simp) ?_
     exact⟨.inr rfl,by simp[Tryz.f75],by simp⟩
   | some v =>
     obtain⟨f,hf,hfo⟩:=DS.has_file hok hg;have hfok:f.small:=PF.ok_mono hfo hB;have hfind:=FD.find_get hg
     have hlook:=zAB (fun i=>i+3) v 0 d.fs 0
     rw[hf]at hlook;simp only[rhZ,s8Z]at hlook;have hq:=zET hf [];rw[r2Z]at hq;dsimp only;rw[hf];dsimp only;obtain⟨r1,r2,hr⟩:∃r1 r2,f.readAt a m=(r1,r2):=⟨_,_,rfl⟩;rw[hr]
     have hqs:(zM d.fs).set (FS.at d.fs v) (.obj true f.blks)=zM d.fs:=by
       obtain⟨h1,h2⟩:=q1Z.1 hq;rw[<-h2,List.set_getElem_self]
     unfold DS.heap DS.cell0;rw[hd];generalize FS.at d.fs v=q at hlook hq hqs;obtain⟨X,eX⟩:∃X,zM d.fs=X:=⟨_,rfl⟩;rw[eX]at hq hqs ⊢
     refine Sim.step hmix hΓ (n:=0) (by simp;exact⟨rfl,rfl⟩) (by simp) ?_
     refine Sim.step hmix hΓ (n:=0) (by simp +decide [zAc,zQA,zAS,hfind,hlook,Tryz.f114];exact⟨rfl,rfl⟩) (by simp) ?_
     refine Sim.step hmix hΓ (n:=0) (by simp +decide;exact⟨rfl,rfl⟩) (by simp) ?_
     refine Sim.exec hmix hΓ (n:=0) (by simp +decide [zAc,zQA,zOt,hq,hqs,hfok,hr];exact⟨rfl,rfl,rfl⟩) (by simp) ?_
     exact⟨.inr rfl,by simp[Tryz.f75],by simp⟩
noncomputable section
open Classical
def zQU:zc:=zBv dsD DS.blks fun d xs _=>match xs with
 | [.str k,.int .i64 m]=>if d.small then some ((d.truncate k m).1,.int .i64 (d.truncate k m).2) else none
 | _=>none
theorem zPj:Sound Pz 112 zQU:=by
 refine zr (zH Tryz.func112 rfl (by decide)) (fun _ _=>zAb) fun d xs H s' v b hg hb=>?_
 split at hg;rotate_left
 · cases hg
 split at hg <;> cases hg
 rename_i hs
 exact ZM (zCC (zLa d hs (by decide) (by decide) _ _) rfl) rfl rfl hb
def zQI:zc:=zBv dsD DS.blks fun d xs _=>match xs with
 | [.str k,.int .i64 a,.int .i64 m]=>if d.small then some (d,.tuple [.str (d.readAt k a m).1,.int .i64 (d.readAt k a m).2]) else none
 | _=>none
theorem zId:Sound Pz 75 zQI:=by
 refine zr (zH Tryz.func75 rfl (by decide)) (fun _ _=>zAb) fun d xs H s' v b hg hb=>?_
 split at hg;rotate_left
 · cases hg
 split at hg <;> cases hg
 rename_i hs
 exact ZM (zCC (zOu d hs (by decide) _ _ _) rfl) rfl rfl hb
end
end
section
open Go Go.Lib
attribute [-simp] zJ zY zn zL zl
noncomputable def zUA:Gam:=zv [(73,zAS),(148,zUF)]
theorem zVD:GOk Pz (zAL Pz zUA 0 zAc 2):=zq hmix (zC zAI (zC zON zD)) 0 zAc 2
noncomputable def zTm:Gam:=zv [(73,zAS)]
theorem zVV:GOk Pz (zAL Pz zTm 0 zGy 3):=zq hmix (zC zAI zD) 0 zGy 3
theorem zTZ(d:DS){A B:Nat}(hok:d.ok A B)(k:List UInt8):Ct Pz 79 [.ptr 0 0,.str k] (d.heap []) (.tuple [.int .i64 (d.size k).1,.int .i64 (d.size k).2]) (d.heap []):=by
 cases hd:d.down with
 | true =>
   have:d.size k=(0,13):=by unfold DS.size;rw[hd];rfl
   rw[this];exact zLZ d hd k
 | false =>
   unfold DS.size;rw[hd];refine zz Tryz.func79 rfl ?_;simp only[Tryz.ntmps79,q7Z,q8Z,Nat.reduceAdd,Nat.reduceSub,qbZ,q9Z,qaZ]
   cases hg:d.fd.now.get k with
   | none =>
     have hΓ:=zVV
     have hfind:d.fd.find k=(0,false):=by unfold FD.find;rw[hg]
     unfold DS.heap DS.cell0;rw[hd]
     refine Sim.step hmix hΓ (n:=0) (by simp;exact⟨rfl,rfl⟩) (by simp) ?_
     refine Sim.step hmix hΓ (n:=0) (by simp +decide [zGy,zTm,zAS,hfind,Tryz.f114];exact⟨rfl,rfl⟩) (by simp) ?_
     refine Sim.exec hmix hΓ (n:=0) (by simp +decide [zGy,zTm,Tryz.f148,Tryz.f115];exact⟨rfl,rfl,rfl⟩) (by simp) ?_
     exact⟨.inr rfl,by simp[Tryz.f79],by simp⟩
   | some v =>
     have hΓ:=zVD;obtain⟨f,hf,hfo⟩:=DS.has_file hok hg;have hfind:=FD.find_get hg
     have hlook:=zAB (fun i=>i+3) v 0 d.fs 0
     rw[hf]at hlook;simp only[rhZ,s8Z]at hlook;have hq:=zET hf [];rw[r2Z]at hq;dsimp only;rw[hf];dsimp only;obtain⟨n,hn⟩:∃n,f.now.length=n:=⟨_,rfl⟩;rw[hn]
     have hqs:(zM d.fs).set (FS.at d.fs v) (.obj true f.blks)=zM d.fs:=by
       obtain⟨h1,h2⟩:=q1Z.1 hq;rw[<-h2,List.set_getElem_self]
     unfold DS.heap DS.cell0;rw[hd];generalize FS.at d.fs v=q at hlook hq hqs;obtain⟨X,eX⟩:∃X,zM d.fs=X:=⟨_,rfl⟩;rw[eX]at hq hqs ⊢
     refine Sim.step hmix hΓ (n:=0) (by simp;exact⟨rfl,rfl⟩) (by simp) ?_
     refine Sim.step hmix hΓ (n:=0) (by simp +decide [zAc,zUA,zAS,hfind,hlook,Tryz.f114];exact⟨rfl,rfl⟩) (by simp) ?_
     refine Sim.exec hmix hΓ (n:=0) (by simp +decide [zAc,zUA,zUF,hq,hqs,hn];exact⟨rfl,rfl,rfl⟩) (by simp) ?_
     exact⟨.inr rfl,by simp[Tryz.f79],by simp⟩
open Classical in
noncomputable def zK5:zc:=zBv dsD DS.blks fun d xs _=>match xs with
 | [.str k]=>if d.small then some (d,.tuple [.int .i64 (d.size k).1,.int .i64 (d.size k).2]) else none
 | _=>none
theorem zG7:Sound Pz 79 zK5:=by
 refine zr (zH Tryz.func79 rfl (by decide)) (fun _ _=>zAb) fun d xs H s' v b hg hb=>?_
 split at hg;rotate_left
 · cases hg
 split at hg <;> cases hg
 rename_i hs;exact ZM (zCC (zTZ d hs _) rfl) rfl rfl hb
end
section
open Go Go.Lib
end
end Go.Proofs.YtpmfecnajoojeaaGreatDoor
