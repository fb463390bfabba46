/- Parts of the proof of SweepStops: lemmas, each with its own conditions. -/
import Derived.Test.YthafeihjlamhhaaGreatDoorY21
set_option maxHeartbeats 64000000
open Nat renaming le_refl → qnZ
namespace Go.Proofs.YthafeihjlamhhaaGreatDoor
open _root_.Go.Proofs.Tryz renaming prog → Pz
set_option maxRecDepth 100000
section
open Go Go.Lib
attribute [-simp] drawOk_eq adraw qrun acode aops
theorem ct_out{P:Program}{f:FuncId}{args:List AV}{H H1 H':AHeap}{v v1:AV}(h:Ct P f args H v1 H1)(hw:Weak H.length [v1] H1 [v] H'):Ct P f args H v H':=by
 intro j w cargs hR hargs;refine (h j w cargs hR hargs).mono ?_;rintro e w' ⟨cv,j',rfl,g2,hs⟩;obtain⟨j2,k1,k2⟩:=hw.step (qnZ _) hs (vs:=[cv]) ⟨cv,[],rfl,g2,rfl⟩;simp only[VRs]at k2;obtain⟨_,_,e,k3,_⟩:=k2;cases e;exact⟨cv,j2,rfl,k3,k1⟩
theorem restart0_ct(d:DS)(hd:d.small):Ct Pz 35 [.ptr 0 0,.nils] [.obj true d.blks] (.tuple []) [.obj true (d.restart []).blks]:=by
 have h:=restart_ct d hd (by decide) (by decide) [] (by simp) (by simp) 0 (qnZ _) false
 simp only[List.take_nil,numA]at h
 refine ct_out (ct_weak (Weak.mk' [0,100] (by decide) rfl (by simp[AWs,AW]) (by simp[AWg,AWb])) h) (Weak.mk' [0] (by decide) rfl (by simp[AWs,AW]) (by simp[AWg,AWb]))
open Classical in
noncomputable def drest0S:Summ:=objS dsD DS.blks fun d xs _=>match xs with
 | [.nils]=>if d.small then some (d.restart [],.tuple []) else none
 | _=>none
theorem drest0_sound:Sound Pz 35 drest0S:=by
 refine sound_obj (enter_of Tryz.func35 rfl (by decide)) (fun _ _=>dsD_eq) fun d xs H s' v b hg hb=>?_
 split at hg;rotate_left
 · cases hg
 split at hg <;> cases hg
 rename_i hs;exact ct_obj1 (restart0_ct d hs) rfl rfl hb
noncomputable def drestN:Summ:=fun args H=>match args with
 | [.ptr b 0,.nils]=>drest0S [.ptr b 0,.nils] H
 | [.ptr b 0,.slice b2 o L sz c]=>drestS [.ptr b 0,.slice b2 o L sz c] H
 | [.ptr b 0,.sl b2 o L sz c]=>drestS [.ptr b 0,.sl b2 o L sz c] H
 | _=>none
theorem drestN_sound:Sound Pz 35 drestN:=by
 refine ⟨drest_sound.enter,fun args H v H' W hs=>?_,fun args H v H' W hs=>?_⟩ <;> (unfold drestN at hs;split at hs)
 · exact drest0_sound.ct _ _ _ _ _ hs
 · exact drest_sound.ct _ _ _ _ _ hs
 · exact drest_sound.ct _ _ _ _ _ hs
 · cases hs
 · exact drest0_sound.keep _ _ _ _ _ hs
 · exact drest_sound.keep _ _ _ _ _ hs
 · exact drest_sound.keep _ _ _ _ _ hs
 · cases hs
end
end Go.Proofs.YthafeihjlamhhaaGreatDoor
