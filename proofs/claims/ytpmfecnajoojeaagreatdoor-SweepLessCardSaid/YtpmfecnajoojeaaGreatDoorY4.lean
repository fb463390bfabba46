/- Parts of the proof of SweepLess: lemmas, each with its own conditions. -/
import Derived.Test.YtpmfecnajoojeaaGreatDoorTypes
import Derived.Test.YtpmfecnajoojeaaGreatDoorShelf
set_option maxHeartbeats 64000000
open List renaming getElem?_eq_some_iff → q1Z, cons_append → q9Z, getElem?_map → qzZ
open Nat renaming le_refl → qnZ
namespace Go.Proofs.YtpmfecnajoojeaaGreatDoor
open _root_.Go.Proofs.Tryz renaming prog → Pz
set_option maxRecDepth 100000
section
open Go
theorem ct_of_world{P:Program}{f:FuncId}{args:List AV}{H:AHeap}{v:AV}(_hv:free v=true)
   (h:∀j w cargs,R j H w→VRs j args cargs.toList→Calls P f cargs w fun e w'=>∃cv,e=.returned cv∧VR j v cv∧RowKit.Below w.heap.size w w'):Ct P f args H v H:=by
 intro j w cargs hR hargs;refine (h j w cargs hR hargs).mono ?_;rintro e w' ⟨cv,rfl,h1,hb⟩;exact⟨cv,j,rfl,h1,Step.below hR hb (qnZ _)⟩
def rowStrs(H:AHeap):AV→Option (List (List UInt8))
 | .nils=>some []
 | .slice b off len 1 _=>match H[b]? with
   | some (.cells _ l)=>if off+len≤l.length then strsOf ((l.drop off).take len) else none
   | _=>none
 | .sl b off len 1 _=>if len=0 then some [] else match H[b]? with
   | some (.cells _ l)=>if off+len≤l.length then strsOf ((l.drop off).take len) else none
   | _=>none
 | _=>none
theorem rowStrs_slice{H:AHeap}{x:AV}{a:List (List UInt8)}(h:rowStrs H x=some a):(x=.nils∧a=[])∨(∃b off c,x=.sl b off 0 1 c∧a=[])∨∃b off c o l,(x=.slice b off a.length 1 c∨0<a.length∧x=.sl b off a.length 1 c)∧H[b]? = some (.cells o l)∧off+a.length≤l.length∧a.map AV.str=(l.drop off).take a.length:=by
 unfold rowStrs at h;split at h
 · cases h;exact .inl ⟨rfl,rfl⟩
 · rename_i b off len c
   split at h
   · rename_i o l hb
     split at h
     · rename_i hle
       have e:=strsOf_eq h
       have hlen:a.length=len:=by have:=congrArg List.length e;simp at this;omega
       subst hlen;exact .inr (.inr ⟨b,off,c,o,l,.inl rfl,hb,hle,e.symm⟩)
     · cases h
   · cases h
 · rename_i b off len c
   split at h
   · rename_i h0
     cases h;subst h0;exact .inr (.inl ⟨b,off,c,rfl,rfl⟩)
   · rename_i h0
     split at h
     · rename_i o l hb
       split at h
       · rename_i hle
         have e:=strsOf_eq h
         have hlen:a.length=len:=by have:=congrArg List.length e;simp at this;omega
         subst hlen
         exact .inr (.inr ⟨b,off,c,o,l,.inr ⟨by omega,rfl⟩,hb,hle,e.symm⟩)
       · cases h
     · cases h
 · cases h
theorem rowStrs_world{j:Inj}{H:AHeap}{w:World}(hR:R j H w){x:AV}{a:List (List UInt8)}(h:rowStrs H x=some a){cx:Value}(hx:VR j x cx) :
   (cx=.slice none 0 0∧a=[])∨∃ad cap,cx=.slice (some ad) a.length cap∧a.length≤cap∧(a=[]∨∃bk o,ad=⟨bk,o,none⟩∧bk<w.heap.size∧∀(i:Nat) s,a[i]? = some s→w.cell? ⟨bk,o+i,none⟩=some (.string ⟨s.toArray⟩)):=by
 rcases rowStrs_slice h with⟨rfl,rfl⟩ | ⟨b,off,c,rfl,rfl⟩ | ⟨b,off,c,o,l,hxx,hb,hle,he⟩
 · exact .inl ⟨hx,rfl⟩
 · rcases VR_sl hx with⟨_,hx'⟩ | hx'
   · exact .inl ⟨hx',rfl⟩
   · simp only[VR]at hx'
     obtain⟨p,ad,cap,hp,rfl,hlc,_⟩:=hx';exact .inr ⟨ad,cap,rfl,hlc,.inl rfl⟩
 · have hx':VR j (.slice b off a.length 1 c) cx:=by
     rcases hxx with rfl | ⟨h0,rfl⟩
     · exact hx
     · exact VR_sl_pos h0 hx
   clear hx hxx;have hx:=hx';simp only[VR]at hx;obtain⟨p,ad,cap,hp,rfl,hlc,hclip,hm,hadr⟩:=hx;refine .inr ⟨ad,cap,rfl,hlc,?_⟩;by_cases h0:a=[]
   · exact .inl h0
   · right
     have hpos:0<a.length:=List.length_pos_iff.2 h0;rcases hadr with h1 | ⟨rfl,_⟩
     · omega
     obtain⟨vs,v1,v2,v3⟩:=hR.cells hb hp off a.length (by omega)
     refine ⟨p.blk,p.base+off,rfl,hR.lt hb hp,fun i s hi=>?_⟩
     have hlt:i<a.length:=(q1Z.1 hi).1
     have hx:((l.drop off).take a.length)[i]? = some (.str s):=by rw[←he,qzZ,hi];rfl
     obtain⟨v,hv,hr⟩:=v1.at hx;simp only[VR]at hr;subst hr;have:=v3 i _ hv;rw[ptr_add]at this;exact this
@[simp] theorem frees_append:∀xs ys:List AV,frees (xs++ys)=(frees xs&&frees ys)
 | [],ys=>by simp
 | x::xs,ys=>by rw[q9Z,frees_cons,frees_cons,frees_append xs ys,Bool.and_assoc]
end
section
open Go Go.RowKit Go.Lib Go.Sort
theorem below_bytes(w:World)(e:TypeId)(t:ByteArray):Below w.heap.size w (bytesWorld w e t) :=
 ⟨rfl,rfl,rfl,by rw[bytesWorld_size];omega,fun c hc=>bytesWorld_at_old w e t c hc⟩
def decF:Nat→Nat→List UInt8
 | 0,_=>[]
 | k+1,u=>if u<10 then [UInt8.ofNat (48+u)] else decF k (u / 10)++[UInt8.ofNat (48+u % 10)]
theorem decF_eq:∀(k u:Nat),u<10 ^ k→0<k→decF k u=decDigits u
 | 0,_,_,h=>by omega
 | k+1,u,h,_=>by
   unfold decF;rw[decDigits];by_cases hu:u<10
   · rw[if_pos hu,dif_pos hu]
   · rw[if_neg hu,dif_neg hu]
     rcases Nat.eq_zero_or_pos k with rfl | hk
     · simp at h;omega
     · rw[decF_eq k (u / 10) (by rw[Nat.pow_succ]at h;omega) hk]
theorem pow_var {j : Inj} {H : AHeap} {w : World} (hR : R j H w) : TabIs Pz w "internal/strconv.uint64pow10" .u64 pow10Tab := by
 obtain⟨⟨T,fz,h⟩,_⟩:=hR.glo.1.1
 have hg:w.heap[3]? = some (.cells (pow10Tab.map fun z=>Value.int .u64 z).toArray T fz):=by
   unfold gview at h;split at h
   · exact h
   · cases h
 unfold TabIs World.var?
 have : Tryz.prog.globalNamed "internal/strconv.uint64pow10" = some 3 := by kernel_rfl
 rw[this];dsimp only[Option.bind];rw[hg]
def itoaS:Summ:=pureS fun
 | [.int .i64 (.ofNat m)]=>if m≤9223372036854775807 then some (.str (decF 20 m)) else none
 | _=>none
theorem itoa_sound:Sound Pz 144 itoaS:=by
 refine sound_pure (enter_of Tryz.func144 rfl (by decide)) fun args v hv=>?_
 split at hv;rotate_left
 · cases hv
 rename_i m
 split at hv <;> cases hv
 rename_i hm
 refine ⟨ct_of_world rfl fun j w cargs hR hargs=>?_,rfl,rfl⟩
 obtain⟨a,cs,e,h1,h2⟩:=hargs;simp only[VRs]at h2;subst h2;simp only[VR]at h1;subst h1
 have ec:cargs=#[.int .i64 (Int.ofNat m)]:=by apply Array.ext';rw[e]
 subst ec
 refine (Tryz.strconv_Itoa (Int.ofNat m) (by have:(0:Int)≤Int.ofNat m:=Int.natCast_nonneg m;omega) (by have:(Int.ofNat m)=(m:Int):=rfl;omega) w (pow_var hR)).mono ?_
 rintro e w' ⟨rfl,k,os,rfl⟩
 refine ⟨_,rfl,?_,⟨rfl,rfl,rfl,by simp[grow,World.drewN],fun c hc=>by simp[grow,World.drewN,Array.getElem?_append_left hc]⟩⟩
 have:Lib.itoa (Int.ofNat m)=decF 20 m:=by
   unfold Lib.itoa
   rw[if_neg (by have:(0:Int)≤Int.ofNat m:=Int.natCast_nonneg m;omega),decF_eq 20 m (by omega) (by omega)]
   rfl
 rw[this];rfl
theorem err_cell{j:Inj}{H:AHeap}{w:World}(hR:R j H w):(∃v,w.cell? ⟨0,0,none⟩=some v∧IfcV v)∧∃v,w.cell? ⟨1,0,none⟩=some v∧IfcV v:=by
 have key:∀g,ErrAt (gview w) g→∃v,w.cell? ⟨g,0,none⟩=some v∧IfcV v:=by
   rintro g ⟨T,fz,v,h,hv⟩;unfold gview at h;split at h
   · exact⟨v,by simp[World.cell?,h],hv⟩
   · cases h
 exact⟨key _ hR.glo.1.1.2.1,key _ hR.glo.1.1.2.2⟩
def atoiS:Summ:=pureS fun
 | [.str s]=>if s.length≤1000000 then (match atoiAll s with
   | .ok v=>some (.tuple [.int .i64 v,.top])
   | .«syntax»=>some (.tuple [.int .i64 0,.top])
   | .range=>some (.tuple [.int .i64 (atoiSat s),.top])) else none
 | _=>none
theorem atoi_sound:Sound Pz 119 atoiS:=by
 refine sound_pure (enter_of Tryz.func119 rfl (by decide)) fun args v hv=>?_
 split at hv;rotate_left
 · cases hv
 rename_i s;split at hv;rotate_left
 · cases hv
 rename_i hs
 have key:∀x,v=.tuple [x,.top]→free x=true→(∀j w,R j [] w→Calls Pz 119 #[.string ⟨s.toArray⟩] w fun e w'=>∃cx cy,e=.returned (.tuple #[cx,cy])∧VR j x cx∧Below w.heap.size w w')→Ct Pz 119 [.str s] [] v []∧frees [AV.str s]=true∧free v=true:=by
   intro x hx hfx h;subst hx
   refine ⟨ct_of_world (by simp[free,frees,hfx]) fun j w cargs hR hargs=>?_,rfl,by simp[free,frees,hfx]⟩
   obtain⟨a,cs,e,h1,h2⟩:=hargs;simp only[VRs]at h2;subst h2;simp only[VR]at h1;subst h1
   have ec:cargs=#[.string ⟨s.toArray⟩]:=by apply Array.ext';rw[e]
   subst ec;refine (h j w hR).mono ?_;rintro e w' ⟨cx,cy,rfl,h3,h4⟩;exact⟨_,rfl,⟨#[cx,cy],rfl,cx,[cy],rfl,h3,cy,[],rfl,trivial,rfl⟩,h4⟩
 have hsz:(ByteArray.mk s.toArray).size=s.length:=by simp[ByteArray.size]
 split at hv <;> cases hv
 · rename_i n hn
   refine key _ rfl rfl fun j w hR=>?_
   refine (Tryz.strconv_Atoi_ok ⟨s.toArray⟩ (by rw[hsz];omega) n (by simpa using hn) w).mono ?_
   rintro e w' ⟨rfl,hw⟩;refine ⟨_,_,rfl,rfl,?_⟩;rcases hw with rfl | ⟨t,rfl⟩
   · exact Below.refl _ _
   · exact below_bytes _ _ _
 · rename_i hn
   refine key _ rfl rfl fun j w hR=>?_
   obtain⟨ev,h1,h2⟩:=(err_cell hR).1
   refine (Tryz.strconv_Atoi_syntax ⟨s.toArray⟩ (by rw[hsz];omega) (by simpa using hn) ev w h1 h2).mono ?_
   rintro e w' ⟨N,rfl,_,_,hb⟩;exact⟨_,_,rfl,rfl,hb⟩
 · rename_i hn
   refine key _ rfl rfl fun j w hR=>?_
   obtain⟨ev,h1,h2⟩:=(err_cell hR).2
   refine (Tryz.strconv_Atoi_range ⟨s.toArray⟩ (by rw[hsz];omega) (by simpa using hn) ev w h1 h2).mono ?_
   rintro e w' ⟨N,rfl,_,_,hb⟩
   exact⟨_,_,rfl,(by simp[VR]),hb⟩
end
end Go.Proofs.YtpmfecnajoojeaaGreatDoor
