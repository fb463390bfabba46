/- Parts of the proof of ReplayMends: lemmas, each with its own conditions. -/
import Derived.Test.YtpmfecnajoojeaaGreatDoorY32
set_option maxHeartbeats 64000000
open List renaming getElem?_eq_some_iff → q1Z, getD_eq_getElem?_getD → q2Z, getElem?_append_left → q4Z, length_cons → q7Z, length_nil → q8Z, cons_append → q9Z, nil_append → qaZ, replicate → qbZ
namespace Go.Proofs.YtpmfecnajoojeaaGreatDoor
open _root_.Go.Proofs.Tryz renaming prog → Pz
set_option maxRecDepth 100000
section
open Go Go.Lib
attribute [-simp] zJ zY zn zL zl
def zTx(x:List (List UInt8×List UInt8)):Prop:=∀e∈x,e.1.length<=9223372036854775807
open Classical in
noncomputable def zVY:zc:=fun args H=>match args with
 | [.sl b 0 n 2 _c,.int .i64 q]=>match H[b]? with
   | some (.cells _ l)=>match flD l with
     | some x=>match DS.ofF x q with
       | some d=>if n=x.length/\x.length<=1000000/\zTx x then some (.ptr H.length 0,H++[.obj true d.blks],[]) else none
       | none=>none
     | none=>none
   | _=>none
 | _=>none
theorem zRV:Sound Pz 35 zVY:=by
 refine ⟨zH Tryz.func35 rfl (by decide),fun args H v H' W hs=>?_,fun args H v H' W hs=>?_⟩ <;> (unfold zVY at hs;split at hs <;> try cases hs) <;> (rename_i b n c q;split at hs <;> try cases hs) <;> (rename_i o l hb;split at hs <;> try cases hs) <;> (rename_i x hx;split at hs <;> try cases hs) <;> (rename_i d hd;split at hs <;> cases hs;rename_i hk)
 · obtain⟨rfl,h1,h2⟩:=hk
   have e:=zWj hx;subst e;have hbl:b<H.length:=(q1Z.1 hb).1;have hct:=zXF x h1 h2 q;rw[hd]at hct;dsimp only at hct
   have:=ZE (H:=H) (args:=[.sl b 0 x.length 2 c,.int .i64 q]) hct [b] (by simp) ⟨⟨rfl,rfl,rfl,by simp⟩,⟨rfl,rfl⟩,trivial⟩ ⟨by rw[q2Z,hb];exact⟨by simp,zBs _ (zE7 x)⟩,hbl,trivial⟩ rfl
   simpa[zf,ABlk.own,reA,reB,Z5] using this
 · exact⟨by simp,fun c hc _=>by rw[q4Z hc]⟩
theorem zPZ(d:DS):Ct Pz 39 [.ptr 0 0] (d.heap []) (.int .i64 d.steps) (d.heap []):=by
 refine zz Tryz.func39 rfl ?_;simp only[Tryz.ntmps39,q7Z,q8Z,Nat.reduceAdd,Nat.reduceSub,qbZ,q9Z,qaZ];unfold DS.heap DS.cell0
 refine Sim.step hmix zD (n:=0) (by simp;exact⟨rfl,rfl⟩) (by simp) ?_
 refine Sim.exec hmix zD (n:=0) (by simp +decide;exact⟨rfl,rfl,rfl⟩) (by simp) ?_
 exact⟨.inr rfl,by simp[Tryz.f39],by simp⟩
noncomputable def zK0:zc:=zBv dsD DS.blks fun d xs _=>match xs with
 | []=>some (d,.int .i64 d.steps)
 | _=>none
theorem zLq:Sound Pz 39 zK0:=by
 refine zr (zH Tryz.func39 rfl (by decide)) (fun _ _=>zAb) fun d xs H s' v b hg hb=>?_
 split at hg <;> cases hg
 exact ZM (zCC (zPZ d) rfl) rfl rfl hb
end
end Go.Proofs.YtpmfecnajoojeaaGreatDoor
