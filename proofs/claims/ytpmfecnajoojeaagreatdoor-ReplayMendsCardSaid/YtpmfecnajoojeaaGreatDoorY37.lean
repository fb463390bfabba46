/- Parts of the proof of ReplayMends: lemmas, each with its own conditions. -/
import Derived.Maps.RangeRun
import Derived.Test.YtpmfecnajoojeaaGreatDoorY36
import Derived.Test.YtpmfecnajoojeaaGreatDoorY34
set_option maxHeartbeats 64000000
open List renaming getElem?_eq_some_iff → q1Z
open Nat renaming le_refl → qnZ
namespace Go.Proofs.YtpmfecnajoojeaaGreatDoor
open _root_.Go.Proofs.Tryz renaming prog → Pz
set_option maxRecDepth 100000
section
open Go Go.Lib Go.MapKept
open Go.ChangeMaps (setBlock)
end
section
open Go Go.Lib
attribute [-simp] zJ zY zn zL zl
noncomputable def zL6:zc:=open Classical in fun args H=>match args with
 | [.ptr b 0]=>match H[b]? with
   | some (.obj true sub)=>match dsD sub with
     | some d=>if d.small then some (.int .i64 d.used,H,[]) else none
     | none=>none
   | _=>none
 | _=>none
theorem zLc:Sound Pz 32 zL6:=by
 refine ⟨zH Tryz.func32 rfl (by decide),fun args H v H' W hs=>?_,fun args H v H' W hs=>?_⟩ <;> (unfold zL6 at hs;split at hs <;> try cases hs) <;> (split at hs <;> try cases hs) <;> (rename_i b _ sub hb;split at hs <;> try cases hs) <;> (rename_i d hd;split at hs <;> cases hs;rename_i hk)
 · have e:=zAb hd
   subst e
   have:=ZM (zCC (zVL d hk (by decide) (by decide)) rfl) rfl rfl hb
   obtain⟨h1,h2⟩:=q1Z.1 hb;rw[<-h2,List.set_getElem_self]at this;exact this
 · exact⟨qnZ _,fun _ _ _=>rfl⟩
end
end Go.Proofs.YtpmfecnajoojeaaGreatDoor
