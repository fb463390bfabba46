/- Parts of the proof of SweepStops: lemmas, each with its own conditions. -/
import Derived.Test.YthafeihjlamhhaaGreatDoorY11
set_option maxHeartbeats 64000000
open List renaming getElem?_eq_some_iff → q1Z, getD_eq_getElem?_getD → q2Z, getElem?_eq_getElem → q3Z, length_cons → q7Z, cons_append → q9Z, mem_cons → qwZ, getElem?_map → qzZ, length_map → r7Z, getElem?_cons_succ → r9Z, getElem?_cons_zero → raZ, map_cons → s1Z, set_cons_zero → s9Z
open Option renaming map_eq_some_iff → qlZ
namespace Go.Proofs.YthafeihjlamhhaaGreatDoor
open _root_.Go.Proofs.Tryz renaming prog → Pz
set_option maxRecDepth 100000
section
open Go
def joinS:Summ:=readS fun args H=>match args with
 | [x,.str []]=>match rowStrs H x with
   | some a=>if a.flatten.length≤140737488355328∧a.length≤140737488355328 then some (.str a.flatten) else none
   | none=>none
 | _=>none
theorem join_flat(a:List (List UInt8)):Lib.join a []=a.flatten:=by
 unfold Lib.join
 induction a with
 | nil=>rfl
 | cons x r ih =>
   cases r with
   | nil=>simp[List.intercalate]
   | cons y r=>simp[List.intercalate,List.intersperse]at ih ⊢;rw[←ih]
theorem join_sound:Sound Pz 149 joinS:=by
 refine sound_read (enter_of Tryz.func149 rfl (by decide)) fun args H v h=>?_
 split at h;rotate_left
 · cases h
 rename_i x;split at h;rotate_left
 · cases h
 rename_i a ha
 split at h <;> cases h
 rename_i hc
 refine ct_of_world rfl fun j w cargs hR hargs=>?_
 simp only[VRs]at hargs;obtain⟨cx,ws,e1,hx,cs,ws2,e2,hs,rfl⟩:=hargs;subst e2;simp only[VR]at hs;subst hs
 have ec:cargs=#[cx,.string ⟨#[]⟩]:=by apply Array.ext';rw[e1]
 subst ec;rcases rowStrs_world hR ha hx with⟨rfl,rfl⟩ | ⟨ad,cap,rfl,hcap,hb⟩
 · refine (Tryz.strings_Join_none none 0 ⟨#[]⟩ w).mono ?_
   rintro e w' ⟨rfl,rfl⟩;exact⟨_,rfl,rfl,RowKit.Below.refl _ _⟩
 · rcases hb with rfl | ⟨bk,o,rfl,hbk,hcell⟩
   · refine (Tryz.strings_Join_none (some ad) cap ⟨#[]⟩ w).mono ?_
     rintro e w' ⟨rfl,rfl⟩;exact⟨_,rfl,rfl,RowKit.Below.refl _ _⟩
   · have key:=Tryz.strings_Join bk o cap (a.map fun s=>⟨s.toArray⟩) ⟨#[]⟩ w (fun i x hi=>by
       rw[qzZ]at hi;obtain⟨s,hs,rfl⟩:=qlZ.1 hi
       exact hcell i s hs) hbk (by simpa using hc.2) (by simpa using hcap)
     have em:(a.map fun s=>(⟨s.toArray⟩:ByteArray)).map (·.data.toList)=a:=by
       rw[List.map_map]
       exact List.map_id'' (fun s=>by simp) a
     rw[em]at key;have ej:Lib.join a (ByteArray.mk #[]).data.toList=a.flatten:=join_flat a;rw[ej]at key;simp only[r7Z]at key;refine (key hc.1).mono ?_;rintro e w' ⟨rfl,hb⟩;exact⟨_,rfl,rfl,hb⟩
def joinU(a:List (List UInt8))(sep:List UInt8):List UInt8:=match a with
 | []=>[]
 | x::r=>x++(r.map (sep++·)).flatten
theorem join_u(a:List (List UInt8))(sep:List UInt8):Lib.join a sep=joinU a sep:=by
 cases a with
 | nil=>rfl
 | cons x r=>rw[Lib.join_cons];rfl
def joinS2:Summ:=readS fun args H=>match args with
 | [x,.str sep]=>match rowStrs H x with
   | some a=>if (joinU a sep).length≤140737488355328∧a.length≤140737488355328 then some (.str (joinU a sep)) else none
   | none=>none
 | _=>none
theorem join_sound2:Sound Pz 149 joinS2:=by
 refine sound_read (enter_of Tryz.func149 rfl (by decide)) fun args H v h=>?_
 split at h;rotate_left
 · cases h
 rename_i x sep;split at h;rotate_left
 · cases h
 rename_i a ha
 split at h <;> cases h
 rename_i hc
 refine ct_of_world rfl fun j w cargs hR hargs=>?_
 simp only[VRs]at hargs;obtain⟨cx,ws,e1,hx,cs,ws2,e2,hs,rfl⟩:=hargs;subst e2;simp only[VR]at hs;subst hs
 have ec:cargs=#[cx,.string ⟨sep.toArray⟩]:=by apply Array.ext';rw[e1]
 subst ec;rcases rowStrs_world hR ha hx with⟨rfl,rfl⟩ | ⟨ad,cap,rfl,hcap,hb⟩
 · refine (Tryz.strings_Join_none none 0 ⟨sep.toArray⟩ w).mono ?_
   rintro e w' ⟨rfl,rfl⟩;exact⟨_,rfl,rfl,RowKit.Below.refl _ _⟩
 · rcases hb with rfl | ⟨bk,o,rfl,hbk,hcell⟩
   · refine (Tryz.strings_Join_none (some ad) cap ⟨sep.toArray⟩ w).mono ?_
     rintro e w' ⟨rfl,rfl⟩;exact⟨_,rfl,rfl,RowKit.Below.refl _ _⟩
   · have key:=Tryz.strings_Join bk o cap (a.map fun s=>⟨s.toArray⟩) ⟨sep.toArray⟩ w (fun i x hi=>by
       rw[qzZ]at hi;obtain⟨s,hs,rfl⟩:=qlZ.1 hi
       exact hcell i s hs) hbk (by simpa using hc.2) (by simpa using hcap)
     have em:(a.map fun s=>(⟨s.toArray⟩:ByteArray)).map (·.data.toList)=a:=by
       rw[List.map_map]
       exact List.map_id'' (fun s=>by simp) a
     rw[em]at key;have ej:Lib.join a (ByteArray.mk sep.toArray).data.toList=joinU a sep:=join_u a sep;rw[ej]at key;simp only[r7Z]at key;refine (key hc.1).mono ?_;rintro e w' ⟨rfl,hb⟩;exact⟨_,rfl,rfl,hb⟩
end
section
open Go
inductive FAct where
 | add (s:List UInt8)
 | cut (n:Nat)
structure PF where
 d:List UInt8
 acts:List FAct
def FAct.run(a:FAct)(s:List UInt8):List UInt8:=match a with
 | .add m=>s++m
 | .cut n=>s.take n
def runs(s:List UInt8):List FAct→List UInt8
 | []=>s
 | a::l=>runs (a.run s) l
def PF.now(f:PF):List UInt8:=runs f.d f.acts
def fits(s:List UInt8):List FAct→Prop
 | []=>True
 | a::l=>(match a with | .add _=>True | .cut n=>n≤s.length)∧fits (a.run s) l
theorem runs_append(s:List UInt8)(l m:List FAct):runs s (l++m)=runs (runs s l) m:=by
 induction l generalizing s with
 | nil=>rfl
 | cons a l ih=>exact ih _
theorem fits_append(s:List UInt8)(l m:List FAct):fits s (l++m)↔fits s l∧fits (runs s l) m:=by
 induction l generalizing s with
 | nil=>simp[fits,runs]
 | cons a l ih=>simp only[q9Z,fits,runs,ih,and_assoc]
def FAct.fn(k:Nat):FAct→AV
 | .add _=>.func 216 [] [.ptr k 0]
 | .cut _=>.func 265 [] [.ptr k 0]
def FAct.box:FAct→ABlk
 | .add s=>.obj false [.cells true [.str s]]
 | .cut n=>.obj false [.cells true [.int .i64 n]]
def rowF:Nat→List FAct→List AV
 | _,[]=>[]
 | k,a::l=>a.fn k::rowF (k+1) l
def rowN:List Nat→List FAct→List AV
 | b::bs,a::l=>a.fn b::rowN bs l
 | _,_=>[]
@[simp] theorem rowF_length:∀(l:List FAct) (k:Nat),(rowF k l).length=l.length
 | [],_=>rfl
 | a::l,k=>by simp[rowF,rowF_length l]
theorem rowF_get:∀(l:List FAct) (k i:Nat) (h:i<l.length),(rowF k l)[i]?=some (l[i].fn (k+i))
 | a::l,k,0,_=>rfl
 | a::l,k,i+1,h=>by
   simp only[rowF,r9Z,List.getElem_cons_succ]
   rw[rowF_get l (k+1) i (by simpa using h),show k+1+i=k+(i+1) by omega]
def PF.blks(f:PF):AHeap:=.cells true [.str f.d,.sl 1 0 f.acts.length 1 false,.str f.now]::.cells true (rowF 2 f.acts)::f.acts.map FAct.box
theorem reAs_rowF(g:Nat→Nat)(q:Nat):∀(l:List FAct) (k:Nat),(∀i,i<l.length→g (k+i)=q+i)→reAs g (rowF k l)=rowF q l
 | [],_,_=>rfl
 | a::l,k,h=>by
   have h0:=h 0 (by simp)
   simp only[Nat.add_zero]at h0
   have ih:=reAs_rowF g (q+1) l (k+1) fun i hi=>by rw[show k+1+i=k+(i+1) by omega,h (i+1) (by simpa using hi)];omega
   cases a <;> simp[rowF,FAct.fn,reAs,reA,h0] <;> exact reAs_rowF g (q+1) l (k+1) fun i hi=>by rw[show k+1+i=k+(i+1) by omega,h (i+1) (by simpa using hi)];omega
theorem reB_box(g:Nat→Nat)(a:FAct):reB g a.box=a.box:=by cases a <;> rfl
theorem open_file(f:PF)(T:AHeap):openH (.obj true f.blks::T) 0 f.blks=.cells true [.str f.d,.sl (T.length+1) 0 f.acts.length 1 false,.str f.now]::(T++.cells true (rowF (T.length+2) f.acts)::f.acts.map FAct.box):=by
 have e:reAs (openG 0 (T.length+1)) (rowF 2 f.acts)=rowF (T.length+2) f.acts:=reAs_rowF _ _ _ _ fun i _=>by simp only[openG];rw[if_neg (by omega)];omega
 have e2:f.acts.map (fun a=>reB (openG 0 (T.length+1)) a.box)=f.acts.map FAct.box:=by
   apply List.map_congr_left;intro a _;exact reB_box _ a
 have e3:f.acts.map (reB (openG 0 (T.length+1)) ∘ FAct.box)=f.acts.map FAct.box:=e2;unfold openH;simp only[PF.blks,q7Z,List.getD_cons_zero,s9Z,List.drop_succ_cons,List.drop_zero,s1Z,List.map_map,e3]
 have e4:reB (openG 0 (T.length+1)) (.cells true (rowF 2 f.acts))=.cells true (rowF (T.length+2) f.acts):=by show ABlk.cells true _=_;rw[e]
 rw[e4];simp[reB,reAs,reA,openG]
theorem AWs_rowN(rs:List Nat):∀(l:List FAct) (k:Nat) (bs:List Nat),bs.length=l.length→(∀i,i<bs.length→rs[k+i]?=bs[i]?)→AWs rs (rowF k l) (rowN bs l)
 | [],k,bs,h,_=>by
   have:bs=[]:=List.eq_nil_of_length_eq_zero (by simpa using h)
   subst this;trivial
 | a::l,k,b::bs,h,hr=>by
   have h0:=hr 0 (by simp)
   simp only[Nat.add_zero,raZ]at h0
   have ih:=AWs_rowN rs l (k+1) bs (by simpa using h) fun i hi=>by
     have:=hr (i+1) (by simpa using hi)
     rw[show k+1+i=k+(i+1) by omega,this];simp
   cases a <;> exact⟨⟨rfl,trivial,⟨h0,rfl⟩,trivial⟩,ih⟩
 | a::l,k,[],h,_=>by simp at h
theorem AWg_boxes(rs:List Nat)(H:AHeap):∀(l:List FAct) (bs:List Nat),bs.length=l.length→(∀(i b:Nat) (a:FAct),bs[i]?=some b→l[i]?=some a→H[b]?=some a.box)→AWg rs H (l.map FAct.box) bs
 | [],bs,h,_=>by
   have:bs=[]:=List.eq_nil_of_length_eq_zero (by simpa using h)
   subst this;trivial
 | a::l,b::bs,h,hr=>by
   have h0:=hr 0 b a rfl rfl;simp only[s1Z,AWg]
   refine ⟨?_,AWg_boxes rs H l bs (by simpa using h) fun i b a h1 h2=>hr (i+1) b a (by simpa using h1) (by simpa using h2)⟩
   split
   · rw[q2Z,h0]
     cases a <;> exact⟨rfl,rfl⟩
   · trivial
 | a::l,[],h,_=>by simp at h
theorem Aft.closeF{n0:Nat}{F:List AV}{H:AHeap}{K:List AV→AHeap→Prop}(f:PF)(b r1:Nat)(bs:List Nat){x:AV}{o:Bool}
   (hb:H[b]?=some (.cells true [.str f.d,x,.str f.now])) (hx:AW (b::r1::bs) (.sl 1 0 f.acts.length 1 false) x)
   (hr:r1<H.length→H[r1]?=some (.cells true (rowN bs f.acts))) (hl:bs.length=f.acts.length) (hbx:∀(i k:Nat) (a:FAct),bs[i]?=some k→f.acts[i]?=some a→H[k]?=some a.box)
   (hnd:(b::r1::bs).Nodup) (hn:n0≤H.length) (h:Aft n0 F (closeH H b [r1] o f.blks) K):Aft n0 F H K:=by
 refine Aft.close (o:=o) (b:=b) (rs:=b::r1::bs) (ks:=[r1]) rfl hnd (q1Z.1 hb).1 ?_ ?_ ⟨_,rfl,rfl⟩ ?_ hn h
 · intro c x hc hcb hx ho
   rcases qwZ.1 hc with e | hc
   · exact absurd e hcb
   rcases qwZ.1 hc with e | hc
   · simp[e]
   obtain⟨i,hi⟩:=List.getElem?_of_mem hc
   have hil:i<f.acts.length:=by rw[←hl];exact (q1Z.1 hi).1
   have:=hbx i c _ hi (q3Z hil);rw[this]at hx;cases hx
   cases hfa:f.acts[i] <;> rw[hfa]at ho <;> cases ho
 · refine ⟨?_,?_,AWg_boxes _ _ _ _ hl hbx⟩
   · split
     · rw[q2Z,hb]
       exact⟨fun h=>h,rfl,hx,rfl,trivial⟩
     · trivial
   · split
     · rename_i h1
       rw[q2Z,hr h1]
       exact⟨fun h=>h,AWs_rowN _ _ _ _ hl fun i _=>by rw[show 2+i=i+1+1 by omega];simp⟩
     · trivial
 · intro i y hy hd
   match i,hy with
   | 0,hy=>cases hy;rfl
   | 1,hy=>cases hy;rfl
   | i+2,hy =>
     simp only[PF.blks,r9Z,qzZ]at hy;obtain⟨a,_,rfl⟩:=qlZ.1 hy
     cases a <;> rfl
def actOf:AV→ABlk→Option FAct
 | .func f _ _,.obj _ [.cells _ [.str s]]=>if f=216 then some (.add s) else none
 | .func f _ _,.obj _ [.cells _ [.int _ n]]=>if f=265∧0≤n then some (.cut n.toNat) else none
 | _,_=>none
def actsOf:List AV→List ABlk→Option (List FAct)
 | [],[]=>some []
 | x::xs,B::Bs=>match actOf x B,actsOf xs Bs with
   | some a,some l=>some (a::l)
   | _,_=>none
 | _,_=>none
def fileOf:AHeap→Option PF
 | .cells _ (.str d::_)::.cells _ row::bx=>(actsOf row bx).map fun l=>⟨d,l⟩
 | _=>none
theorem actsOf_row:∀(l:List FAct) (k:Nat),actsOf (rowF k l) (l.map FAct.box)=some l
 | [],_=>rfl
 | a::l,k=>by
   have h:actOf (a.fn k) a.box=some a:=by cases a <;> simp[FAct.fn,FAct.box,actOf]
   simp only[rowF,s1Z,actsOf,h,actsOf_row l]
@[simp] theorem fileOf_blks(f:PF):fileOf f.blks=some f:=by simp[fileOf,PF.blks,actsOf_row]
end
section
open Go
attribute [-simp] drawOk_eq adraw qrun acode aops
def fiInl:List FuncId:=[215,216,171,265,172,197,268]
theorem fiΓ_ok:GOk Pz (runG Pz (gams [(149,joinS)]) 0 fiInl 4):=gok_run hmix (goks_cons join_sound goks_nil) 0 fiInl 4
end
end Go.Proofs.YthafeihjlamhhaaGreatDoor
