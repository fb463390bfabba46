/- Parts of the proof of SweepLess: lemmas, each with its own conditions. -/
import Derived.Test.YtpmfecnajoojeaaGreatDoorY11
set_option maxHeartbeats 64000000
open Option renaming map_eq_some_iff → qlZ
open List renaming getElem?_map → qzZ, length_map → r7Z
namespace Go.Proofs.YtpmfecnajoojeaaGreatDoor
open _root_.Go.Proofs.Tryz renaming prog → Pz
set_option maxRecDepth 100000
section
open Go
def joinU(a:List (List UInt8))(sep:List UInt8):List UInt8:=match a with
 | []=>[]
 | x::r=>x++(r.map (sep++·)).flatten
theorem join_u(a:List (List UInt8))(sep:List UInt8):Lib.join a sep=joinU a sep:=by
 cases a with
 | nil=>rfl
 | cons x r=>rw[Lib.join_cons];rfl
def joinS2:Summ:=readS fun args H=>match args with
 | [x,.str sep]=>match rowStrs H x with
   | some a=>if (joinU a sep).length≤140737488355328∧a.length≤140737488355328 then some (.str (joinU a sep)) else none
   | none=>none
 | _=>none
theorem join_sound2:Sound Pz 132 joinS2:=by
 refine sound_read (enter_of Tryz.func132 rfl (by decide)) fun args H v h=>?_
 split at h;rotate_left
 · cases h
 rename_i x sep;split at h;rotate_left
 · cases h
 rename_i a ha
 split at h <;> cases h
 rename_i hc
 refine ct_of_world rfl fun j w cargs hR hargs=>?_
 simp only[VRs]at hargs;obtain⟨cx,ws,e1,hx,cs,ws2,e2,hs,rfl⟩:=hargs;subst e2;simp only[VR]at hs;subst hs
 have ec:cargs=#[cx,.string ⟨sep.toArray⟩]:=by apply Array.ext';rw[e1]
 subst ec;rcases rowStrs_world hR ha hx with⟨rfl,rfl⟩ | ⟨ad,cap,rfl,hcap,hb⟩
 · refine (Tryz.strings_Join_none none 0 ⟨sep.toArray⟩ w).mono ?_
   rintro e w' ⟨rfl,rfl⟩;exact⟨_,rfl,rfl,RowKit.Below.refl _ _⟩
 · rcases hb with rfl | ⟨bk,o,rfl,hbk,hcell⟩
   · refine (Tryz.strings_Join_none (some ad) cap ⟨sep.toArray⟩ w).mono ?_
     rintro e w' ⟨rfl,rfl⟩;exact⟨_,rfl,rfl,RowKit.Below.refl _ _⟩
   · have key:=Tryz.strings_Join bk o cap (a.map fun s=>⟨s.toArray⟩) ⟨sep.toArray⟩ w (fun i x hi=>by
       rw[qzZ]at hi;obtain⟨s,hs,rfl⟩:=qlZ.1 hi
       exact hcell i s hs) hbk (by simpa using hc.2) (by simpa using hcap)
     have em:(a.map fun s=>(⟨s.toArray⟩:ByteArray)).map (·.data.toList)=a:=by
       rw[List.map_map]
       exact List.map_id'' (fun s=>by simp) a
     rw[em]at key;have ej:Lib.join a (ByteArray.mk sep.toArray).data.toList=joinU a sep:=join_u a sep;rw[ej]at key;simp only[r7Z]at key;refine (key hc.1).mono ?_;rintro e w' ⟨rfl,hb⟩;exact⟨_,rfl,rfl,hb⟩
end
section
open Go
end
section
open Go
attribute [-simp] drawOk_eq adraw qrun acode aops
end
end Go.Proofs.YtpmfecnajoojeaaGreatDoor
