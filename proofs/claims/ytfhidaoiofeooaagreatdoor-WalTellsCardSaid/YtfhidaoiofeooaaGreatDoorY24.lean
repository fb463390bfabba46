/- Parts of the proof of WalTells: lemmas, each with its own conditions. -/
import Derived.Test.YtfhidaoiofeooaaGreatDoorY16
set_option maxHeartbeats 64000000
open List renaming getElem?_eq_some_iff → q1Z, length_cons → q7Z, length_nil → q8Z, cons_append → q9Z, nil_append → qaZ, replicate → qbZ, append_nil → r2Z
open Nat renaming le_refl → qnZ, zero_add → s8Z
open Option renaming map_some → rhZ
namespace Go.Proofs.YtfhidaoiofeooaaGreatDoor
open _root_.Go.Proofs.Tryz renaming prog → Pz
set_option maxRecDepth 100000
section
open Go Go.Lib
attribute [-simp] zH zc zq zK zy
end
section
open Go Go.Lib
attribute [-simp] zH zc zq zK zy
noncomputable section
open Classical
end
end
section
open Go Go.Lib
attribute [-simp] zH zc zq zK zy
noncomputable def zVl:Gam:=zZ [(76,zBI),(180,zVW)]
theorem zWe:GOk Pz (zAV Pz zVl 0 zDf 2):=zp hmix (zB zAf (zB zQG zC)) 0 zDf 2
noncomputable def zT6:Gam:=zZ [(76,zBI)]
theorem zXv:GOk Pz (zAV Pz zT6 0 zHm 3):=zp hmix (zB zAf zC) 0 zHm 3
theorem zUA(d:DS){A B:Nat}(hok:d.ok A B)(k:List UInt8):Ct Pz 83 [.ptr 0 0,.str k] (d.heap []) (.tuple [.int .i64 (d.size k).1,.int .i64 (d.size k).2]) (d.heap []):=by
 cases hd:d.down with
 | true =>
   have:d.size k=(0,13):=by unfold DS.size;rw[hd];rfl
   rw[this];exact zL1 d hd k
 | false =>
   unfold DS.size;rw[hd];refine zL Tryz.func83 rfl ?_;simp only[Tryz.ntmps83,q7Z,q8Z,Nat.reduceAdd,Nat.reduceSub,qbZ,q9Z,qaZ];cases hg:d.fd.now.get k with
   | none =>
     have hΓ:=zXv;have hfind:d.fd.find k=(0,false):=by unfold FD.find;rw[hg]
     unfold DS.heap DS.cell0;rw[hd];refine wS hΓ (by simp;exact wR) ?_;refine wS hΓ (by simp +decide [zHm,zT6,zBI,hfind,Tryz.f134];exact wR) ?_;refine wE hΓ (by simp +decide [zHm,zT6,Tryz.f180,Tryz.f135];exact wT) ?_;exact⟨.inr rfl,by simp[Tryz.f83],by simp⟩
   | some v =>
     have hΓ:=zWe;obtain⟨f,hf,hfo⟩:=DS.has_file hok hg;have hfind:=FD.find_get hg;have hlook:=zBP (fun i=>i+3) v 0 d.fs 0;rw[hf]at hlook;simp only[rhZ,s8Z]at hlook;have hq:=zGo hf [];rw[r2Z]at hq;dsimp only;rw[hf];dsimp only;obtain⟨n,hn⟩:∃n,f.now.length=n:=⟨_,rfl⟩
     rw[hn];have hqs:(zT d.fs).set (FS.at d.fs v) (.obj true f.blks)=zT d.fs:=by
       obtain⟨h1,h2⟩:=q1Z.1 hq;rw[<-h2,List.set_getElem_self]
     unfold DS.heap DS.cell0;rw[hd];generalize FS.at d.fs v=q at hlook hq hqs;obtain⟨X,eX⟩:∃X,zT d.fs=X:=⟨_,rfl⟩
     rw[eX]at hq hqs ⊢;refine wS hΓ (by simp;exact wR) ?_;refine wS hΓ (by simp +decide [zDf,zVl,zBI,hfind,hlook,Tryz.f134];exact wR) ?_;refine wE hΓ (by simp +decide [zDf,zVl,zVW,hq,hqs,hn];exact wT) ?_;exact⟨.inr rfl,by simp[Tryz.f83],by simp⟩
open Classical in
noncomputable def zG8:zJ:=zAM dsD DS.blks fun d xs _=>match xs with
 | [.str k]=>if d.small then some (d,.tuple [.int .i64 (d.size k).1,.int .i64 (d.size k).2]) else none
 | _=>none
theorem zHa:Sound Pz 83 zG8:=by
 refine zS (zD Tryz.func83 rfl (by decide)) (fun _ _=>Z7) fun d xs H s' v b hg hb=>?_;split at hg;rotate_left
 · cases hg
 split at hg <;> cases hg
 rename_i hs;exact ze (zDj (zUA d hs _) rfl) rfl rfl hb
theorem zQc(d:DS):Ct Pz 45 [.ptr 0 0] (d.heap []) (.int .i64 d.steps) (d.heap []):=by
 refine zL Tryz.func45 rfl ?_;simp only[Tryz.ntmps45,q7Z,q8Z,Nat.reduceAdd,Nat.reduceSub,qbZ,q9Z,qaZ];unfold DS.heap DS.cell0;refine wS zC (by simp;exact wR) ?_;refine wE zC (by simp +decide;exact wT) ?_;exact⟨.inr rfl,by simp[Tryz.f45],by simp⟩
end
section
open Go Go.Lib
attribute [-simp] zH zc zq zK zy
def zTk{σ:Type}(dec:zA->Option σ)(g:σ->Option AV):zJ:=fun args H=>match args with
 | [.ptr b 0]=>match H[b]? with
   | some (.obj true sub)=>match dec sub with
     | some s=>match g s with
       | some v=>some (v,H,[])
       | none=>none
     | none=>none
   | _=>none
 | _=>none
theorem zKQ{P:Program}{f:FuncId}{σ:Type}{dec:zA->Option σ}{enc:σ->zA}{g:σ->Option AV}(he:∀cargs w,(callFunc f cargs).run P w=.ok (.enter f cargs) w)(hd:∀sub s,dec sub=some s->sub=enc s)
   (h:∀s v,g s=some v->zBl v=true/\Ct P f [.ptr 0 0] [.obj true (enc s)] v [.obj true (enc s)]):Sound P f (zTk dec g):=by
 refine ⟨he,fun args H v H' W hs=>?_,fun args H v H' W hs=>?_⟩
 · unfold zTk at hs
   split at hs <;> try cases hs
   split at hs <;> try cases hs
   rename_i sub hb;split at hs <;> try cases hs
   rename_i s hds;split at hs <;> cases hs
   rename_i hg;obtain⟨h0,h2⟩:=h _ _ hg;have e:=hd _ _ hds;subst e;have:=ze h2 rfl h0 hb;obtain⟨h1,h2⟩:=q1Z.1 hb;rw[<-h2,List.set_getElem_self]at this;exact this
 · unfold zTk at hs
   split at hs <;> try cases hs
   split at hs <;> try cases hs
   split at hs <;> try cases hs
   split at hs <;> cases hs
   exact⟨qnZ _,fun _ _ _=>rfl⟩
attribute [simp] zTk
noncomputable def zVY:zJ:=zTk dsD fun d=>some (.int .i64 d.steps)
theorem zPN:Sound Pz 45 zVY :=
 zKQ (zD Tryz.func45 rfl (by decide)) (fun _ _=>Z7) fun d v h=>by cases h;exact⟨rfl,zDj (zQc d) rfl⟩
noncomputable def zV3:zJ:=zTk dsD fun d=>some (.bool d.down)
theorem zNr:Sound Pz 46 zV3 :=
 zKQ (zD Tryz.func46 rfl (by decide)) (fun _ _=>Z7) fun d v h=>by cases h;exact⟨rfl,zDj (zUF d) rfl⟩
end
end Go.Proofs.YtfhidaoiofeooaaGreatDoor
