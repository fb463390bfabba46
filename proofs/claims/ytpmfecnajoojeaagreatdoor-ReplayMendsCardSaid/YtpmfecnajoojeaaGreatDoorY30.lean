/- Parts of the proof of ReplayMends: lemmas, each with its own conditions. -/
import Derived.Test.YtpmfecnajoojeaaGreatDoorY19
set_option maxHeartbeats 64000000
open List renaming getD_eq_getElem?_getD → q2Z, getElem?_eq_getElem → q3Z, getElem?_append_right → q5Z, length_append → qdZ, getElem?_map → qzZ
open Option renaming map_eq_some_iff → qlZ
open Nat renaming le_refl → qnZ, add_sub_cancel_left → s3Z
namespace Go.Proofs.YtpmfecnajoojeaaGreatDoor
open _root_.Go.Proofs.Tryz renaming prog → Pz
set_option maxRecDepth 100000
section
open Go Go.Lib
attribute [-simp] zJ zY zn zL zl
theorem Weak.tail3{A:zA}{N:Nat}(hN:A.length=N)(hA:∀rn:List Nat,(∀i,i<N->rn[i]? = some i)->∀B∈A,AWb rn B B){T Tn:zA}{F Fn:List AV}(ts:List Nat)(hts:ts.Nodup)
   (hF:AWs (List.range N++ts.map (N+·)) Fn F) (hlen:Tn.length=ts.length)
   (hT:∀(i t:Nat) x y,ts[i]? = some t->Tn[i]? = some x->T[t]? = some y->AWb (List.range N++ts.map (N+·)) x y):Weak N F (A++T) Fn (A++Tn):=by
 refine Weak.tailG hN hA ts hts hF (AWg.of _ _ (by simp[hlen]) fun i x b hx hb hlt=>?_)
 rw[qzZ]at hb;obtain⟨t,ht,rfl⟩:=qlZ.1 hb;rw[qdZ,hN]at hlt
 have htl:t<T.length:=by omega
 rw[q2Z,q5Z (by omega),hN,s3Z,q3Z htl]
 exact hT i t x _ ht hx (q3Z htl)
theorem zXN{P:Program}{f:FuncId}{args:List AV}{H H1 H':zA}{v v1:AV}(h:Ct P f args H v1 H1)(hw:Weak H.length [v1] H1 [v] H'):Ct P f args H v H':=by
 intro j w cargs hR hargs;refine (h j w cargs hR hargs).mono ?_;rintro e w' ⟨cv,j',rfl,g2,hs⟩;obtain⟨j2,k1,k2⟩:=hw.step (qnZ _) hs (vs:=[cv]) ⟨cv,[],rfl,g2,rfl⟩;simp only[VRs]at k2;obtain⟨_,_,e,k3,_⟩:=k2;cases e;exact⟨cv,j2,rfl,k3,k1⟩
theorem zNo(d:DS)(hd:d.small):Ct Pz 22 [.ptr 0 0,.nils] [.obj true d.blks] (.tuple []) [.obj true (d.restart []).blks]:=by
 have h:=zJG d hd (by decide) (by decide) [] (by simp) (by simp) 0 (qnZ _) false
 simp only[List.take_nil,Z6]at h
 refine zXN (zQd (Weak.mk' [0,100] (by decide) rfl (by simp[AWs,AW]) (by simp[AWg,AWb])) h) (Weak.mk' [0] (by decide) rfl (by simp[AWs,AW]) (by simp[AWg,AWb]))
open Classical in
noncomputable def zLv:zc:=zBv dsD DS.blks fun d xs _=>match xs with
 | [.nils]=>if d.small then some (d.restart [],.tuple []) else none
 | _=>none
theorem drest0_sound:Sound Pz 22 zLv:=by
 refine zr (zH Tryz.func22 rfl (by decide)) (fun _ _=>zAb) fun d xs H s' v b hg hb=>?_
 split at hg;rotate_left
 · cases hg
 split at hg <;> cases hg
 rename_i hs;exact ZM (zNo d hs) rfl rfl hb
noncomputable def zLi:zc:=fun args H=>match args with
 | [.ptr b 0,.nils]=>zLv [.ptr b 0,.nils] H
 | [.ptr b 0,.slice b2 o L sz c]=>zGY [.ptr b 0,.slice b2 o L sz c] H
 | [.ptr b 0,.sl b2 o L sz c]=>zGY [.ptr b 0,.sl b2 o L sz c] H
 | _=>none
theorem zLY:Sound Pz 22 zLi:=by
 refine ⟨drest_sound.enter,fun args H v H' W hs=>?_,fun args H v H' W hs=>?_⟩ <;> (unfold zLi at hs;split at hs)
 · exact drest0_sound.ct _ _ _ _ _ hs
 · exact drest_sound.ct _ _ _ _ _ hs
 · exact drest_sound.ct _ _ _ _ _ hs
 · cases hs
 · exact drest0_sound.keep _ _ _ _ _ hs
 · exact drest_sound.keep _ _ _ _ _ hs
 · exact drest_sound.keep _ _ _ _ _ hs
 · cases hs
end
end Go.Proofs.YtpmfecnajoojeaaGreatDoor
