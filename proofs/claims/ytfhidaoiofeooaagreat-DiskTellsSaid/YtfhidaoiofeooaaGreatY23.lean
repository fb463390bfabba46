/- Parts of the proof of DiskTells: lemmas, each with its own conditions. -/
import Derived.Test.YtfhidaoiofeooaaGreatY19
set_option maxHeartbeats 64000000
open List renaming getElem?_eq_some_iff → q1Z, length_cons → q7Z, length_nil → q8Z, cons_append → q9Z, nil_append → qaZ, replicate → qbZ, append_nil → r2Z
open Nat renaming le_refl → qnZ, zero_add → s8Z
open Option renaming map_some → rhZ
namespace Go.Proofs.YtfhidaoiofeooaaGreat
open _root_.Go.Proofs.Tryz renaming prog → Pz
set_option maxRecDepth 100000
section
open Go Go.Lib
attribute [-simp] zN zr ZI zT ZL
noncomputable def zVl:Gam:=zo [(110,zTV)]
theorem zTg:GOk Pz zVl:=zB zO7 zC
theorem zP1(d:DS)(hsm:d.fd.small)(k k2:List UInt8)(hk2:k2.length<=9223372036854775807):Ct Pz 109 [.ptr (d.fs.length+3) 0,.ptr (d.fs.length+4) 0,.ptr (d.fs.length+5) 0] (d.heap [ZA,Zc k,Zc k2]) (.int .i64 (d.fd.rename k k2).2) ((d.fdTo (d.fd.rename k k2).1).heap [ZA,Zc k,Zc k2]):=by
 have hΓ:=zTg;obtain⟨n,hn⟩:∃n,d.fs.length=n:=⟨_,rfl⟩;have hX:=behind d.fs;rw[hn]at hX;refine zR Tryz.func109 rfl ?_;simp only[Tryz.ntmps109,q7Z,q8Z,Nat.reduceAdd,Nat.reduceSub,qbZ,q9Z,qaZ];have hXl:=hX.len;have hXg:=hX.get;have hXg0:=hX.get0;unfold DS.heap DS.cell0 ZA Zc DS.fdTo;rw[hn];obtain⟨X,eX⟩:∃X,zK d.fs=X:=⟨_,rfl⟩;rw[eX]at hXl hXg hXg0 ⊢
 refine Sim.step hmix hΓ (n:=0) (by simp;exact⟨rfl,rfl⟩) (by simp[hXl]) ?_
 refine Sim.seq (Sim.draw hmix (by simp) ?_)
 refine SimR.many hΓ 6 (by simp[zI];rfl) (by omega) (by kernel_rfl) (by simp +decide [hXl];first | exact⟨rfl,rfl⟩ | exact⟨by kernel_rfl,rfl,rfl⟩) ?_
 refine SimR.one hΓ _ rfl (by kernel_rfl) (by simp +decide [zVl,zTV,hsm,hk2];exact⟨rfl,rfl⟩) ?_
 refine SimR.many hΓ 8 (by simp[zI,zS];rfl) (by omega) (by kernel_rfl) (by simp +decide;first | exact⟨rfl,rfl⟩ | exact⟨by kernel_rfl,rfl,rfl⟩) ?_
 refine SimR.done rfl ?_;dsimp only
 refine Sim.exec hmix hΓ (n:=0) (by simp;exact⟨rfl,rfl,rfl⟩) (by simp[hXl]) ?_
 exact⟨.inr rfl,by simp[Tryz.f109],rfl⟩
theorem zOM(d:DS){A B:Nat}(hok:d.ok A B)(hA:A<=999999)(k k2:List UInt8)(hk2:k2.length<=9223372036854775807):Ct Pz 48 [.ptr 0 0,.str k,.str k2] (d.heap []) (.int .i64 (d.rename k k2).2) ((d.rename k k2).1.heap []):=by
 have hc:=DS.ok_count hok
 obtain⟨H1,hct,hl,⟨T3,hT3,_⟩,hfs,hsound⟩:=zHp d hok hA [ZA,Zc k,Zc k2] [ZA,Zc k,Zc k2] 109 [.ptr (d.fs.length+3) 0,.ptr (d.fs.length+4) 0,.ptr (d.fs.length+5) 0] (fun d=>(⟨(d.fd.rename k k2).1,d.fs,d.quota,d.steps,d.armed,d.down⟩,(d.fd.rename k k2).2)) (zE Tryz.func109 rfl (by decide)) (by decide)
   (by dsimp only;rw[DS.count_fs]) (qnZ _) fun _=>by
     have:=zP1 d.count (DS.small_fd hc (by omega)) k k2 hk2
     rw[DS.count_fs]at this;exact this
 have hΓ:=zB hsound zC;have hfin:=zCS (d:=d) T3 (.int .i64 (d.rename k k2).2) rfl hfs;rw[<-hT3]at hfin;unfold DS.rename at hfin ⊢;refine zG Tryz.func48 rfl ?_;simp only[Tryz.ntmps48,q7Z,q8Z,Nat.reduceAdd,Nat.reduceSub,qbZ,q9Z,qaZ];rw[DS.heap_length];simp only[q8Z,Nat.add_zero];clear hct hT3;generalize DS.step d _=R at hΓ hfin ⊢;generalize R.1.heap []=HF at hfin ⊢;generalize R.2=e at hΓ hfin ⊢;have hX:=behind d.fs;obtain⟨n,hn⟩:∃n,d.fs.length=n:=⟨_,rfl⟩;rw[hn]at hX hΓ hfin ⊢;have hXl:=hX.len;have hXg:=hX.get;have hXg0:=hX.get0;unfold DS.heap DS.cell0 ZA Zc at hΓ;unfold DS.heap DS.cell0;obtain⟨X,eX⟩:∃X,zK d.fs=X:=⟨_,rfl⟩;rw[eX]at hXl hXg hXg0 hΓ ⊢
 refine Sim.step hmix hΓ (n:=0) (by simp;exact⟨rfl,rfl⟩) (by simp[hXl]) ?_
 refine Sim.exec hmix hΓ (n:=0) (by simp[hXl];exact⟨rfl,rfl,rfl⟩) (by simp[hXl]) ?_
 exact⟨.inr rfl,_,by simp[Tryz.f48] <;> rfl,hfin⟩
end
section
open Go Go.Lib
attribute [-simp] zN zr ZI zT ZL
noncomputable def zVm:Gam:=zo [(102,zTz)]
theorem zTU:GOk Pz zVm:=zB zPX zC
theorem zRy(d:DS){A B:Nat}(hok:d.ok A B)(hB:B<=1000000000000)(m:Int)(U:zA)(v:Int)(f:PF)(hf:FS.get d.fs v=some f):Ct Pz 101 [.ptr (FS.at d.fs v+3) 0,.ptr (d.fs.length+3) 0] (d.heap (.cells true [.int .i64 m]::U)) (.int .i64 (f.cut m).2) ((d.fileTo v (f.cut m).1).heap (.cells true [.int .i64 m]::U)):=by
 have hΓ:=zTU;rw[zCb _ hf];have hq:=zCz hf (.cells true [.int .i64 m]::U);have hfok:f.small:=PF.ok_mono (hok.fine _ (FS.get_mem hf)) hB;obtain⟨n,hn⟩:∃n,d.fs.length=n:=⟨_,rfl⟩;have hX:=behind d.fs;rw[hn]at hX ⊢;have hXb:(zK d.fs++(.cells true [.int .i64 m]::U))[n]? = some (.cells true [.int .i64 m]):=hX.get0 _;refine zR Tryz.func101 rfl ?_;simp only[Tryz.ntmps101,q7Z,q8Z,Nat.reduceAdd,Nat.reduceSub,qbZ,q9Z,qaZ];unfold DS.heap DS.cell0;obtain⟨X,eX⟩:∃X,zK d.fs++(.cells true [.int .i64 m]::U)=X:=⟨_,rfl⟩;obtain⟨q,eq⟩:∃q,FS.at d.fs v=q:=⟨_,rfl⟩;rw[eX]at hq hXb ⊢;rw[eq]at hq ⊢
 refine Sim.step hmix hΓ (n:=0) (by simp;exact⟨rfl,rfl⟩) (by simp) ?_
 refine Sim.exec hmix hΓ (n:=0) (by simp[zVm,zTz,hq,hXb,hfok];exact⟨rfl,rfl,rfl⟩) (by simp) ?_
 exact⟨.inr rfl,by simp[Tryz.f101],rfl⟩
theorem zLb(d:DS){A B:Nat}(hok:d.ok A B)(hA:A<=999999)(hB:B<=1000000000000)(k:List UInt8)(m:Int):Ct Pz 41 [.ptr 0 0,.str k,.int .i64 m] (d.heap []) (.int .i64 (d.truncate k m).2) ((d.truncate k m).1.heap []):=by
 obtain⟨caps,hcaps⟩:∃caps:List AV,caps=[.ptr (d.fs.length+3) 0]:=⟨_,rfl⟩
 obtain⟨H1,hct,hl,⟨T3,hT3,_⟩,hfs⟩:=zLO d hok hA [.cells true [.int .i64 m]] (.cells true [.int .i64 m]::[ZA,Zc k,zEQ 101 caps]) k 101 caps (fun _ f=>f.cut m) (zE Tryz.func101 rfl (by decide)) (by decide) (by decide) (by simp) fun v f _ hf=>by
   have:=zRy d.count (DS.ok_count hok) hB m [ZA,Zc k,zEQ 101 caps] v f (by rw[DS.count_fs];exact hf)
   rw[DS.count_fs,<-hcaps]at this;exact this
 have hΓ:=zB (ZH (zE Tryz.func29 rfl (by decide)) hct hl) zC
 have hfin:=zCS (d:=d) T3 (.int .i64 (d.truncate k m).2) rfl hfs;unfold DS.truncate at hfin ⊢;rw[<-hT3]at hfin;refine zG Tryz.func41 rfl ?_;simp only[Tryz.ntmps41,q7Z,q8Z,Nat.reduceAdd,Nat.reduceSub,qbZ,q9Z,qaZ];rw[DS.heap_length]at hl ⊢;simp only[q8Z,Nat.add_zero,q7Z,s8Z]at hl ⊢;clear hct hT3;generalize DS.of d k _=R at hΓ hfin ⊢;generalize R.1.heap []=HF at hfin ⊢;generalize R.2=e at hΓ hfin ⊢;obtain⟨n,hn⟩:∃n,d.fs.length=n:=⟨_,rfl⟩;have hX:=behind d.fs;rw[hn]at hX hfin hcaps hl ⊢;have hXl:=hX.len;have hXg:=hX.get;have hXg0:=hX.get0;subst hcaps;unfold DS.heap DS.cell0 at hΓ;unfold DS.heap DS.cell0;obtain⟨X,eX⟩:∃X,zK d.fs=X:=⟨_,rfl⟩;rw[eX]at hXl hXg hXg0 hΓ ⊢
 refine Sim.step hmix hΓ (n:=0) (by simp[hXl];exact⟨rfl,rfl⟩) (by simp[hXl]) ?_
 refine Sim.exec hmix hΓ (n:=0) (by simp[hXl];exact⟨rfl,rfl,rfl⟩) (by simp[hXl]) ?_
 exact⟨.inr rfl,_,by simp[Tryz.f41] <;> rfl,hfin⟩
noncomputable def zQe:Gam:=zo [(37,zAc),(116,zOs)]
theorem zVJ:GOk Pz (zA2 Pz zQe 0 zAq 2):=ZT hmix (zB zAQ (zB zMN zC)) 0 zAq 2
theorem zPr(d:DS){A B:Nat}(hok:d.ok A B)(hB:B<=1000000000000)(k:List UInt8)(a m:Int):Ct Pz 52 [.ptr 0 0,.str k,.int .i64 a,.int .i64 m] (d.heap []) (.tuple [.str (d.readAt k a m).1,.int .i64 (d.readAt k a m).2]) (d.heap []):=by
 have hΓ:=zVJ;refine zR Tryz.func52 rfl ?_;simp only[Tryz.ntmps52,q7Z,q8Z,Nat.reduceAdd,Nat.reduceSub,qbZ,q9Z,qaZ];unfold DS.readAt
 cases hd:d.down with
 | true =>
   unfold DS.heap DS.cell0;rw[hd]
   refine Sim.step hmix hΓ (n:=0) (by simp;exact⟨rfl,rfl⟩) (by simp) ?_
   refine Sim.step hmix hΓ (n:=0) (by simp +decide [zAq,Tryz.f115];exact⟨rfl,rfl⟩) (by simp) ?_
   refine Sim.exec hmix hΓ (n:=0) (by simp +decide;exact⟨rfl,rfl,rfl⟩) (by simp) ?_
   exact⟨.inr rfl,by simp[Tryz.f52],by simp⟩
 | false =>
   cases hg:d.fd.now.get k with
   | none =>
     have hfind:d.fd.find k=(0,false):=by unfold FD.find;rw[hg]
     unfold DS.heap DS.cell0;rw[hd]
     refine Sim.step hmix hΓ (n:=0) (by simp;exact⟨rfl,rfl⟩) (by simp) ?_
     refine Sim.step hmix hΓ (n:=0) (by simp +decide [zAq,zQe,zAc,hfind,Tryz.f115];exact⟨rfl,rfl⟩) (by simp) ?_
     refine Sim.exec hmix hΓ (n:=0) (by simp +decide;exact⟨rfl,rfl,rfl⟩) (by simp) ?_
     exact⟨.inr rfl,by simp[Tryz.f52],by simp⟩
   | some v =>
     obtain⟨f,hf,hfo⟩:=DS.has_file hok hg;have hfok:f.small:=PF.ok_mono hfo hB;have hfind:=FD.find_get hg
     have hlook:=zAB (fun i=>i+3) v 0 d.fs 0
     rw[hf]at hlook;simp only[rhZ,s8Z]at hlook;have hq:=zCz hf [];rw[r2Z]at hq;dsimp only;rw[hf];dsimp only;obtain⟨r1,r2,hr⟩:∃r1 r2,f.readAt a m=(r1,r2):=⟨_,_,rfl⟩;rw[hr]
     have hqs:(zK d.fs).set (FS.at d.fs v) (.obj true f.blks)=zK d.fs:=by
       obtain⟨h1,h2⟩:=q1Z.1 hq;rw[<-h2,List.set_getElem_self]
     unfold DS.heap DS.cell0;rw[hd];generalize FS.at d.fs v=q at hlook hq hqs;obtain⟨X,eX⟩:∃X,zK d.fs=X:=⟨_,rfl⟩;rw[eX]at hq hqs ⊢
     refine Sim.step hmix hΓ (n:=0) (by simp;exact⟨rfl,rfl⟩) (by simp) ?_
     refine Sim.step hmix hΓ (n:=0) (by simp +decide [zAq,zQe,zAc,hfind,hlook,Tryz.f115];exact⟨rfl,rfl⟩) (by simp) ?_
     refine Sim.step hmix hΓ (n:=0) (by simp +decide;exact⟨rfl,rfl⟩) (by simp) ?_
     refine Sim.exec hmix hΓ (n:=0) (by simp +decide [zAq,zQe,zOs,hq,hqs,hfok,hr];exact⟨rfl,rfl,rfl⟩) (by simp) ?_
     exact⟨.inr rfl,by simp[Tryz.f52],by simp⟩
noncomputable section
open Classical
def zSp:zU:=Zk dsD DS.blks fun d xs _=>match xs with
 | [.str a,.str b]=>if d.small/\b.length<=9223372036854775807 then some ((d.rename a b).1,.int .i64 (d.rename a b).2) else none
 | _=>none
theorem zO5:Sound Pz 48 zSp:=by
 refine zM (zE Tryz.func48 rfl (by decide)) (fun _ _=>Zu) fun d xs H s' v b hg hb=>?_
 split at hg;rotate_left
 · cases hg
 split at hg <;> cases hg
 rename_i hs
 exact zY (zAZ (zOM d hs.1 (by decide) _ _ hs.2) rfl) rfl rfl hb
def zTG:zU:=Zk dsD DS.blks fun d xs _=>match xs with
 | [.str k,.int .i64 m]=>if d.small then some ((d.truncate k m).1,.int .i64 (d.truncate k m).2) else none
 | _=>none
theorem zOu:Sound Pz 41 zTG:=by
 refine zM (zE Tryz.func41 rfl (by decide)) (fun _ _=>Zu) fun d xs H s' v b hg hb=>?_
 split at hg;rotate_left
 · cases hg
 split at hg <;> cases hg
 rename_i hs
 exact zY (zAZ (zLb d hs (by decide) (by decide) _ _) rfl) rfl rfl hb
def zTd:zU:=Zk dsD DS.blks fun d xs _=>match xs with
 | [.str k,.int .i64 a,.int .i64 m]=>if d.small then some (d,.tuple [.str (d.readAt k a m).1,.int .i64 (d.readAt k a m).2]) else none
 | _=>none
theorem zPJ:Sound Pz 52 zTd:=by
 refine zM (zE Tryz.func52 rfl (by decide)) (fun _ _=>Zu) fun d xs H s' v b hg hb=>?_
 split at hg;rotate_left
 · cases hg
 split at hg <;> cases hg
 rename_i hs
 exact zY (zAZ (zPr d hs (by decide) _ _ _) rfl) rfl rfl hb
end
end
end Go.Proofs.YtfhidaoiofeooaaGreat
