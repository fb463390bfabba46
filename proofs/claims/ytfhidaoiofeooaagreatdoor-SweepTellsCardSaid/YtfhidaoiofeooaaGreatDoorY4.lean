/- Parts of the proof of SweepTells: lemmas, each with its own conditions. -/
import Derived.Test.YtfhidaoiofeooaaGreatDoorTypes
import Derived.Test.YtfhidaoiofeooaaGreatDoorShelf
set_option maxHeartbeats 64000000
open List renaming getElem?_eq_some_iff → q1Z, cons_append → q9Z, replicate → qbZ, getElem?_map → qzZ, length_map → r7Z
open Option renaming map_eq_some_iff → qlZ
open Nat renaming le_refl → qnZ
namespace Go.Proofs.YtfhidaoiofeooaaGreatDoor
open _root_.Go.Proofs.Tryz renaming prog → Pz
set_option maxRecDepth 100000
section
open Go
theorem zB7{P:Program}{f:FuncId}{args:List AV}{H:zA}{v:AV}(_hv:free v=true)
   (h:∀j w cargs,R j H w->VRs j args cargs.toList->Calls P f cargs w fun e w'=>∃cv,e=.returned cv/\VR j v cv/\RowKit.Below w.heap.size w w'):Ct P f args H v H:=by
 intro j w cargs hR hargs;refine (h j w cargs hR hargs).mono ?_;rintro e w' ⟨cv,rfl,h1,hb⟩;exact⟨cv,j,rfl,h1,Step.below hR hb (qnZ _)⟩
def zE3(H:zA):AV->Option (List (List UInt8))
 | .nils=>some []
 | .slice b off len 1 _=>match H[b]? with
   | some (.cells _ l)=>if off+len<=l.length then zp ((l.drop off).take len) else none
   | _=>none
 | .sl b off len 1 _=>if len=0 then some [] else match H[b]? with
   | some (.cells _ l)=>if off+len<=l.length then zp ((l.drop off).take len) else none
   | _=>none
 | _=>none
theorem zIj{H:zA}{x:AV}{a:List (List UInt8)}(h:zE3 H x=some a):(x=.nils/\a=[])\/(∃b off c,x=.sl b off 0 1 c/\a=[])\/∃b off c o l,(x=.slice b off a.length 1 c\/0<a.length/\x=.sl b off a.length 1 c)/\H[b]? = some (.cells o l)/\off+a.length<=l.length/\a.map AV.str=(l.drop off).take a.length:=by
 unfold zE3 at h;split at h
 · cases h;exact .inl ⟨rfl,rfl⟩
 · rename_i b off len c
   split at h
   · rename_i o l hb
     split at h
     · rename_i hle
       have e:=zAL h;have hlen:a.length=len:=by have:=congrArg List.length e;simp at this;omega
       subst hlen;exact .inr (.inr ⟨b,off,c,o,l,.inl rfl,hb,hle,e.symm⟩)
     · cases h
   · cases h
 · rename_i b off len c
   split at h
   · rename_i h0
     cases h;subst h0;exact .inr (.inl ⟨b,off,c,rfl,rfl⟩)
   · rename_i h0
     split at h
     · rename_i o l hb
       split at h
       · rename_i hle
         have e:=zAL h;have hlen:a.length=len:=by have:=congrArg List.length e;simp at this;omega
         subst hlen;exact .inr (.inr ⟨b,off,c,o,l,.inr ⟨by omega,rfl⟩,hb,hle,e.symm⟩)
       · cases h
     · cases h
 · cases h
theorem zED{j:Inj}{H:zA}{w:World}(hR:R j H w){x:AV}{a:List (List UInt8)}(h:zE3 H x=some a){cx:Value}(hx:VR j x cx) :
   (cx=.slice none 0 0/\a=[])\/∃ad cap,cx=.slice (some ad) a.length cap/\a.length<=cap/\(a=[]\/∃bk o,ad=⟨bk,o,none⟩/\bk<w.heap.size/\∀(i:Nat) s,a[i]? = some s->w.cell? ⟨bk,o+i,none⟩=some (.string ⟨s.toArray⟩)):=by
 rcases zIj h with⟨rfl,rfl⟩ | ⟨b,off,c,rfl,rfl⟩ | ⟨b,off,c,o,l,hxx,hb,hle,he⟩
 · exact .inl ⟨hx,rfl⟩
 · rcases zDC hx with⟨_,hx'⟩ | hx'
   · exact .inl ⟨hx',rfl⟩
   · simp only[VR]at hx'
     obtain⟨p,ad,cap,hp,rfl,hlc,_⟩:=hx';exact .inr ⟨ad,cap,rfl,hlc,.inl rfl⟩
 · have hx':VR j (.slice b off a.length 1 c) cx:=by
     rcases hxx with rfl | ⟨h0,rfl⟩
     · exact hx
     · exact zCP h0 hx
   clear hx hxx;have hx:=hx';simp only[VR]at hx;obtain⟨p,ad,cap,hp,rfl,hlc,hclip,hm,hadr⟩:=hx;refine .inr ⟨ad,cap,rfl,hlc,?_⟩;by_cases h0:a=[]
   · exact .inl h0
   · right
     have hpos:0<a.length:=List.length_pos_iff.2 h0;rcases hadr with h1 | ⟨rfl,_⟩
     · omega
     obtain⟨vs,v1,v2,v3⟩:=hR.cells hb hp off a.length (by omega);refine ⟨p.blk,p.base+off,rfl,hR.lt hb hp,fun i s hi=>?_⟩;have hlt:i<a.length:=(q1Z.1 hi).1;have hx:((l.drop off).take a.length)[i]? = some (.str s):=by rw[<-he,qzZ,hi];rfl
     obtain⟨v,hv,hr⟩:=v1.at hx;simp only[VR]at hr;subst hr;have:=v3 i _ hv;rw[zB6]at this;exact this
@[simp] theorem zKi:∀xs ys:List AV,zL (xs++ys)=(zL xs&&zL ys)
 | [],ys=>by simp
 | x::xs,ys=>by rw[q9Z,zEl,zEl,zKi xs ys,Bool.and_assoc]
theorem zCZ(rn:List Nat):∀(n:Nat) (L:List AV),L.length=n->AWs rn (qbZ n .top) L
 | 0,[],_=>trivial
 | n+1,x::L,h=>⟨by simp[AW],zCZ rn n L (by simpa using h)⟩
 | 0,_::_,h=>by simp at h
 | n+1,[],h=>by simp at h
end
section
open Go Go.RowKit Go.Lib Go.Sort
theorem zMs(w:World)(e:TypeId)(t:ByteArray):Below w.heap.size w (bytesWorld w e t) :=
 ⟨rfl,rfl,rfl,by rw[bytesWorld_size];omega,fun c hc=>bytesWorld_at_old w e t c hc⟩
def zQH:Nat->Nat->List UInt8
 | 0,_=>[]
 | k+1,u=>if u<10 then [UInt8.ofNat (48+u)] else zQH k (u / 10)++[UInt8.ofNat (48+u % 10)]
theorem zJr:∀(k u:Nat),u<10 ^ k->0<k->zQH k u=decDigits u
 | 0,_,_,h=>by omega
 | k+1,u,h,_=>by
   unfold zQH;rw[decDigits];by_cases hu:u<10
   · rw[if_pos hu,dif_pos hu]
   · rw[if_neg hu,dif_neg hu]
     rcases Nat.eq_zero_or_pos k with rfl | hk
     · simp at h;omega
     · rw[zJr k (u / 10) (by rw[Nat.pow_succ]at h;omega) hk]
theorem zTR {j : Inj} {H : zA} {w : World} (hR : R j H w) : TabIs Pz w "internal/strconv.uint64pow10" .u64 pow10Tab := by
 obtain⟨⟨T,fz,h⟩,_⟩:=hR.glo.1.1;have hg:w.heap[3]? = some (.cells (pow10Tab.map fun z=>Value.int .u64 z).toArray T fz):=by
   unfold zCb at h;split at h
   · exact h
   · cases h
 unfold TabIs World.var?
 have : Tryz.prog.globalNamed "internal/strconv.uint64pow10" = some 3 := by kernel_rfl
 rw[this];dsimp only[Option.bind];rw[hg]
def zLO:zS:=zBJ fun
 | [.int .i64 (.ofNat m)]=>if m<=9223372036854775807 then some (.str (zQH 20 m)) else none
 | _=>none
theorem zIH:Sound Pz 214 zLO:=by
 refine ZM (zD Tryz.func214 rfl (by decide)) fun args v hv=>?_;split at hv;rotate_left
 · cases hv
 rename_i m;split at hv <;> cases hv
 rename_i hm;refine ⟨zB7 rfl fun j w cargs hR hargs=>?_,rfl,rfl⟩;obtain⟨a,cs,e,h1,h2⟩:=hargs;simp only[VRs]at h2;subst h2;simp only[VR]at h1;subst h1;have ec:cargs=#[.int .i64 (Int.ofNat m)]:=by apply Array.ext';rw[e]
 subst ec;refine (Tryz.strconv_Itoa (Int.ofNat m) (by have:(0:Int)<=Int.ofNat m:=Int.natCast_nonneg m;omega) (by have:(Int.ofNat m)=(m:Int):=rfl;omega) w (zTR hR)).mono ?_;rintro e w' ⟨rfl,k,os,rfl⟩;refine ⟨_,rfl,?_,⟨rfl,rfl,rfl,by simp[grow,World.drewN],fun c hc=>by simp[grow,World.drewN,Array.getElem?_append_left hc]⟩⟩;have:Lib.itoa (Int.ofNat m)=zQH 20 m:=by
   unfold Lib.itoa;rw[if_neg (by have:(0:Int)<=Int.ofNat m:=Int.natCast_nonneg m;omega),zJr 20 m (by omega) (by omega)];rfl
 rw[this];rfl
theorem zMt{j:Inj}{H:zA}{w:World}(hR:R j H w):(∃v,w.cell? ⟨1,0,none⟩=some v/\zTT v)/\∃v,w.cell? ⟨2,0,none⟩=some v/\zTT v:=by
 have key:∀g,zJc (zCb w) g->∃v,w.cell? ⟨g,0,none⟩=some v/\zTT v:=by
   rintro g ⟨T,fz,v,h,hv⟩;unfold zCb at h;split at h
   · exact⟨v,by simp[World.cell?,h],hv⟩
   · cases h
 exact⟨key _ hR.glo.1.1.2.1,key _ hR.glo.1.1.2.2⟩
def zJg:zS:=zBJ fun
 | [.str s]=>if s.length<=140737488351232 then (match atoiAll s with
   | .ok v=>some (.tuple [.int .i64 v,.top])
   | .«syntax»=>some (.tuple [.int .i64 0,.top])
   | .range=>some (.tuple [.int .i64 (atoiSat s),.top])) else none
 | _=>none
theorem zIB:Sound Pz 205 zJg:=by
 refine ZM (zD Tryz.func205 rfl (by decide)) fun args v hv=>?_;split at hv;rotate_left
 · cases hv
 rename_i s;split at hv;rotate_left
 · cases hv
 rename_i hs;have key:∀x,v=.tuple [x,.top]->free x=true->(∀j w,R j [] w->Calls Pz 205 #[.string ⟨s.toArray⟩] w fun e w'=>∃cx cy,e=.returned (.tuple #[cx,cy])/\VR j x cx/\Below w.heap.size w w')->Ct Pz 205 [.str s] [] v []/\zL [AV.str s]=true/\free v=true:=by
   intro x hx hfx h;subst hx;refine ⟨zB7 (by simp[free,zL,hfx]) fun j w cargs hR hargs=>?_,rfl,by simp[free,zL,hfx]⟩;obtain⟨a,cs,e,h1,h2⟩:=hargs;simp only[VRs]at h2;subst h2;simp only[VR]at h1;subst h1;have ec:cargs=#[.string ⟨s.toArray⟩]:=by apply Array.ext';rw[e]
   subst ec;refine (h j w hR).mono ?_;rintro e w' ⟨cx,cy,rfl,h3,h4⟩;exact⟨_,rfl,⟨#[cx,cy],rfl,cx,[cy],rfl,h3,cy,[],rfl,trivial,rfl⟩,h4⟩
 have hsz:(ByteArray.mk s.toArray).size=s.length:=by simp[ByteArray.size]
 split at hv <;> cases hv
 · rename_i n hn
   refine key _ rfl rfl fun j w hR=>?_;refine (Tryz.strconv_Atoi_ok ⟨s.toArray⟩ (by rw[hsz];omega) n (by simpa using hn) w).mono ?_;rintro e w' ⟨rfl,hw⟩;refine ⟨_,_,rfl,rfl,?_⟩;rcases hw with rfl | ⟨t,rfl⟩
   · exact Below.refl _ _
   · exact zMs _ _ _
 · rename_i hn
   refine key _ rfl rfl fun j w hR=>?_;obtain⟨ev,h1,h2⟩:=(zMt hR).1;refine (Tryz.strconv_Atoi_syntax ⟨s.toArray⟩ (by rw[hsz];omega) (by simpa using hn) ev w h1 h2).mono ?_;rintro e w' ⟨N,rfl,_,_,hb⟩;exact⟨_,_,rfl,rfl,hb⟩
 · rename_i hn
   refine key _ rfl rfl fun j w hR=>?_;obtain⟨ev,h1,h2⟩:=(zMt hR).2;refine (Tryz.strconv_Atoi_range ⟨s.toArray⟩ (by rw[hsz];omega) (by simpa using hn) ev w h1 h2).mono ?_;rintro e w' ⟨N,rfl,_,_,hb⟩;exact⟨_,_,rfl,(by simp[VR]),hb⟩
end
section
open Go
def zUY:zS:=ZD fun args H=>match args with
 | [x,.str []]=>match zE3 H x with
   | some a=>if a.flatten.length<=140737488355328/\a.length<=140737488355328 then some (.str a.flatten) else none
   | none=>none
 | _=>none
theorem zPo(a:List (List UInt8)):Lib.join a []=a.flatten:=by
 unfold Lib.join;induction a with
 | nil=>rfl
 | cons x r ih =>
   cases r with
   | nil=>simp[List.intercalate]
   | cons y r=>simp[List.intercalate,List.intersperse]at ih ⊢;rw[<-ih]
theorem zOY:Sound Pz 96 zUY:=by
 refine ZU (zD Tryz.func96 rfl (by decide)) fun args H v h=>?_;split at h;rotate_left
 · cases h
 rename_i x;split at h;rotate_left
 · cases h
 rename_i a ha;split at h <;> cases h
 rename_i hc;refine zB7 rfl fun j w cargs hR hargs=>?_;simp only[VRs]at hargs;obtain⟨cx,ws,e1,hx,cs,ws2,e2,hs,rfl⟩:=hargs;subst e2;simp only[VR]at hs;subst hs;have ec:cargs=#[cx,.string ⟨#[]⟩]:=by apply Array.ext';rw[e1]
 subst ec;rcases zED hR ha hx with⟨rfl,rfl⟩ | ⟨ad,cap,rfl,hcap,hb⟩
 · refine (Tryz.strings_Join_none none 0 ⟨#[]⟩ w).mono ?_
   rintro e w' ⟨rfl,rfl⟩;exact⟨_,rfl,rfl,RowKit.Below.refl _ _⟩
 · rcases hb with rfl | ⟨bk,o,rfl,hbk,hcell⟩
   · refine (Tryz.strings_Join_none (some ad) cap ⟨#[]⟩ w).mono ?_
     rintro e w' ⟨rfl,rfl⟩;exact⟨_,rfl,rfl,RowKit.Below.refl _ _⟩
   · have key:=Tryz.strings_Join bk o cap (a.map fun s=>⟨s.toArray⟩) ⟨#[]⟩ w (fun i x hi=>by
       rw[qzZ]at hi;obtain⟨s,hs,rfl⟩:=qlZ.1 hi;exact hcell i s hs) hbk (by simpa using hc.2) (by simpa using hcap)
     have em:(a.map fun s=>(⟨s.toArray⟩:ByteArray)).map (·.data.toList)=a:=by
       rw[List.map_map];exact List.map_id'' (fun s=>by simp) a
     rw[em]at key;have ej:Lib.join a (ByteArray.mk #[]).data.toList=a.flatten:=zPo a;rw[ej]at key;simp only[r7Z]at key;refine (key hc.1).mono ?_;rintro e w' ⟨rfl,hb⟩;exact⟨_,rfl,rfl,hb⟩
def zOz(a:List (List UInt8))(sep:List UInt8):List UInt8:=match a with
 | []=>[]
 | x::r=>x++(r.map (sep++·)).flatten
theorem zUk(a:List (List UInt8))(sep:List UInt8):Lib.join a sep=zOz a sep:=by
 cases a with
 | nil=>rfl
 | cons x r=>rw[Lib.join_cons];rfl
def zSj:zS:=ZD fun args H=>match args with
 | [x,.str sep]=>match zE3 H x with
   | some a=>if (zOz a sep).length<=140737488355328/\a.length<=140737488355328 then some (.str (zOz a sep)) else none
   | none=>none
 | _=>none
theorem zMd:Sound Pz 96 zSj:=by
 refine ZU (zD Tryz.func96 rfl (by decide)) fun args H v h=>?_;split at h;rotate_left
 · cases h
 rename_i x sep;split at h;rotate_left
 · cases h
 rename_i a ha;split at h <;> cases h
 rename_i hc;refine zB7 rfl fun j w cargs hR hargs=>?_;simp only[VRs]at hargs;obtain⟨cx,ws,e1,hx,cs,ws2,e2,hs,rfl⟩:=hargs;subst e2;simp only[VR]at hs;subst hs;have ec:cargs=#[cx,.string ⟨sep.toArray⟩]:=by apply Array.ext';rw[e1]
 subst ec;rcases zED hR ha hx with⟨rfl,rfl⟩ | ⟨ad,cap,rfl,hcap,hb⟩
 · refine (Tryz.strings_Join_none none 0 ⟨sep.toArray⟩ w).mono ?_
   rintro e w' ⟨rfl,rfl⟩;exact⟨_,rfl,rfl,RowKit.Below.refl _ _⟩
 · rcases hb with rfl | ⟨bk,o,rfl,hbk,hcell⟩
   · refine (Tryz.strings_Join_none (some ad) cap ⟨sep.toArray⟩ w).mono ?_
     rintro e w' ⟨rfl,rfl⟩;exact⟨_,rfl,rfl,RowKit.Below.refl _ _⟩
   · have key:=Tryz.strings_Join bk o cap (a.map fun s=>⟨s.toArray⟩) ⟨sep.toArray⟩ w (fun i x hi=>by
       rw[qzZ]at hi;obtain⟨s,hs,rfl⟩:=qlZ.1 hi;exact hcell i s hs) hbk (by simpa using hc.2) (by simpa using hcap)
     have em:(a.map fun s=>(⟨s.toArray⟩:ByteArray)).map (·.data.toList)=a:=by
       rw[List.map_map];exact List.map_id'' (fun s=>by simp) a
     rw[em]at key;have ej:Lib.join a (ByteArray.mk sep.toArray).data.toList=zOz a sep:=zUk a sep;rw[ej]at key;simp only[r7Z]at key;refine (key hc.1).mono ?_;rintro e w' ⟨rfl,hb⟩;exact⟨_,rfl,rfl,hb⟩
end
end Go.Proofs.YtfhidaoiofeooaaGreatDoor
