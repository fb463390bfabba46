/- Parts of the proof of DiskTells: lemmas, each with its own conditions. -/
import Derived.Test.YtfhidaoiofeooaaGreatY20
set_option maxHeartbeats 64000000
open List renaming getElem?_eq_some_iff → q1Z, length_cons → q7Z, length_nil → q8Z, cons_append → q9Z, nil_append → qaZ, replicate → qbZ
open Nat renaming le_refl → qnZ
namespace Go.Proofs.YtfhidaoiofeooaaGreat
open _root_.Go.Proofs.Tryz renaming prog → Pz
set_option maxRecDepth 100000
section
open Go Go.Lib
attribute [-simp] zN zr ZI zT ZL
def zMp{σ:Type}(dec:zA->Option σ)(g:σ->Option AV):zU:=fun args H=>match args with
 | [.ptr b 0]=>match H[b]? with
   | some (.obj true sub)=>match dec sub with
     | some s=>match g s with
       | some v=>some (v,H,[])
       | none=>none
     | none=>none
   | _=>none
 | _=>none
theorem zDh{P:Program}{f:FuncId}{σ:Type}{dec:zA->Option σ}{enc:σ->zA}{g:σ->Option AV}(he:∀cargs w,(callFunc f cargs).run P w=.ok (.enter f cargs) w)(hd:∀sub s,dec sub=some s->sub=enc s)
   (h:∀s v,g s=some v->zBw v=true/\Ct P f [.ptr 0 0] [.obj true (enc s)] v [.obj true (enc s)]):Sound P f (zMp dec g):=by
 refine ⟨he,fun args H v H' W hs=>?_,fun args H v H' W hs=>?_⟩
 · unfold zMp at hs
   split at hs <;> try cases hs
   split at hs <;> try cases hs
   rename_i sub hb
   split at hs <;> try cases hs
   rename_i s hds
   split at hs <;> cases hs
   rename_i hg;obtain⟨h0,h2⟩:=h _ _ hg;have e:=hd _ _ hds;subst e;have:=zY h2 rfl h0 hb;obtain⟨h1,h2⟩:=q1Z.1 hb;rw[<-h2,List.set_getElem_self]at this;exact this
 · unfold zMp at hs
   split at hs <;> try cases hs
   split at hs <;> try cases hs
   split at hs <;> try cases hs
   split at hs <;> cases hs
   exact⟨qnZ _,fun _ _ _=>rfl⟩
attribute [simp] zMp
theorem zP8(d:DS):Ct Pz 67 [.ptr 0 0] (d.heap []) (.int .i64 d.quota) (d.heap []):=by
 refine zR Tryz.func67 rfl ?_;simp only[Tryz.ntmps67,q7Z,q8Z,Nat.reduceAdd,Nat.reduceSub,qbZ,q9Z,qaZ];unfold DS.heap DS.cell0
 refine Sim.step hmix zC (n:=0) (by simp;exact⟨rfl,rfl⟩) (by simp) ?_
 refine Sim.exec hmix zC (n:=0) (by simp +decide;exact⟨rfl,rfl,rfl⟩) (by simp) ?_
 exact⟨.inr rfl,by simp[Tryz.f67],by simp⟩
noncomputable def zHa:zU:=zMp dsD fun d=>some (.int .i64 d.quota)
theorem zMq:Sound Pz 67 zHa :=
 zDh (zE Tryz.func67 rfl (by decide)) (fun _ _=>Zu) fun d v h=>by cases h;exact⟨rfl,zAZ (zP8 d) rfl⟩
noncomputable def zHY:zU:=zMp dsD fun d=>some (.int .i64 d.steps)
theorem zMl:Sound Pz 68 zHY :=
 zDh (zE Tryz.func68 rfl (by decide)) (fun _ _=>Zu) fun d v h=>by cases h;exact⟨rfl,zAZ (zOm d) rfl⟩
noncomputable def zHZ:zU:=zMp dsD fun d=>some (.bool d.down)
theorem zMo:Sound Pz 69 zHZ :=
 zDh (zE Tryz.func69 rfl (by decide)) (fun _ _=>Zu) fun d v h=>by cases h;exact⟨rfl,zAZ (zSl d) rfl⟩
end
end Go.Proofs.YtfhidaoiofeooaaGreat
