/- Parts of the proof of ReplayMends: lemmas, each with its own conditions. -/
import Derived.Test.YtpmfecnajoojeaaGreatDoorTypes
import Derived.Test.YtpmfecnajoojeaaGreatDoorShelf
import Derived.Test.YtpmfecnajoojeaaGreatDoorY11
set_option maxHeartbeats 64000000
open List renaming getElem?_eq_some_iff → q1Z, getD_eq_getElem?_getD → q2Z, getElem?_eq_getElem → q3Z, getElem?_append_left → q4Z, getElem?_append_right → q5Z, take_of_length_le → q6Z, length_cons → q7Z, length_nil → q8Z, cons_append → q9Z, nil_append → qaZ, replicate → qbZ, length_append → qdZ, mem_cons → qwZ, mem_append → qxZ, getElem?_map → qzZ, mem_singleton → r1Z, length_map → r7Z, getElem?_cons_succ → r9Z, getElem?_cons_zero → raZ, nodup_cons → rdZ, not_mem_nil → rtZ, map_cons → s1Z, set_cons_zero → s9Z, set_cons_succ → saZ
open Option renaming map_eq_some_iff → qlZ
open Nat renaming le_refl → qnZ, lt_or_ge → s2Z
namespace Go.Proofs.YtpmfecnajoojeaaGreatDoor
open _root_.Go.Proofs.Tryz renaming prog → Pz
set_option maxRecDepth 100000
section
open Go
theorem zB9{P:Program}{f:FuncId}{args:List AV}{H:zA}{v:AV}(_hv:free v=true)
   (h:∀j w cargs,R j H w->VRs j args cargs.toList->Calls P f cargs w fun e w'=>∃cv,e=.returned cv/\VR j v cv/\RowKit.Below w.heap.size w w'):Ct P f args H v H:=by
 intro j w cargs hR hargs;refine (h j w cargs hR hargs).mono ?_;rintro e w' ⟨cv,rfl,h1,hb⟩;exact⟨cv,j,rfl,h1,Step.below hR hb (qnZ _)⟩
def zFy(H:zA):AV->Option (List (List UInt8))
 | .nils=>some []
 | .slice b off len 1 _=>match H[b]? with
   | some (.cells _ l)=>if off+len<=l.length then zAC ((l.drop off).take len) else none
   | _=>none
 | .sl b off len 1 _=>if len=0 then some [] else match H[b]? with
   | some (.cells _ l)=>if off+len<=l.length then zAC ((l.drop off).take len) else none
   | _=>none
 | _=>none
theorem zJb{H:zA}{x:AV}{a:List (List UInt8)}(h:zFy H x=some a):(x=.nils/\a=[])\/(∃b off c,x=.sl b off 0 1 c/\a=[])\/∃b off c o l,(x=.slice b off a.length 1 c\/0<a.length/\x=.sl b off a.length 1 c)/\H[b]? = some (.cells o l)/\off+a.length<=l.length/\a.map AV.str=(l.drop off).take a.length:=by
 unfold zFy at h;split at h
 · cases h;exact .inl ⟨rfl,rfl⟩
 · rename_i b off len c
   split at h
   · rename_i o l hb
     split at h
     · rename_i hle
       have e:=zCe h
       have hlen:a.length=len:=by have:=congrArg List.length e;simp at this;omega
       subst hlen;exact .inr (.inr ⟨b,off,c,o,l,.inl rfl,hb,hle,e.symm⟩)
     · cases h
   · cases h
 · rename_i b off len c
   split at h
   · rename_i h0
     cases h;subst h0;exact .inr (.inl ⟨b,off,c,rfl,rfl⟩)
   · rename_i h0
     split at h
     · rename_i o l hb
       split at h
       · rename_i hle
         have e:=zCe h
         have hlen:a.length=len:=by have:=congrArg List.length e;simp at this;omega
         subst hlen
         exact .inr (.inr ⟨b,off,c,o,l,.inr ⟨by omega,rfl⟩,hb,hle,e.symm⟩)
       · cases h
     · cases h
 · cases h
theorem zEp{j:Inj}{H:zA}{w:World}(hR:R j H w){x:AV}{a:List (List UInt8)}(h:zFy H x=some a){cx:Value}(hx:VR j x cx) :
   (cx=.slice none 0 0/\a=[])\/∃ad cap,cx=.slice (some ad) a.length cap/\a.length<=cap/\(a=[]\/∃bk o,ad=⟨bk,o,none⟩/\bk<w.heap.size/\∀(i:Nat) s,a[i]? = some s->w.cell? ⟨bk,o+i,none⟩=some (.string ⟨s.toArray⟩)):=by
 rcases zJb h with⟨rfl,rfl⟩ | ⟨b,off,c,rfl,rfl⟩ | ⟨b,off,c,o,l,hxx,hb,hle,he⟩
 · exact .inl ⟨hx,rfl⟩
 · rcases zCc hx with⟨_,hx'⟩ | hx'
   · exact .inl ⟨hx',rfl⟩
   · simp only[VR]at hx'
     obtain⟨p,ad,cap,hp,rfl,hlc,_⟩:=hx';exact .inr ⟨ad,cap,rfl,hlc,.inl rfl⟩
 · have hx':VR j (.slice b off a.length 1 c) cx:=by
     rcases hxx with rfl | ⟨h0,rfl⟩
     · exact hx
     · exact zCW h0 hx
   clear hx hxx;have hx:=hx';simp only[VR]at hx;obtain⟨p,ad,cap,hp,rfl,hlc,hclip,hm,hadr⟩:=hx;refine .inr ⟨ad,cap,rfl,hlc,?_⟩;by_cases h0:a=[]
   · exact .inl h0
   · right
     have hpos:0<a.length:=List.length_pos_iff.2 h0;rcases hadr with h1 | ⟨rfl,_⟩
     · omega
     obtain⟨vs,v1,v2,v3⟩:=hR.cells hb hp off a.length (by omega)
     refine ⟨p.blk,p.base+off,rfl,hR.lt hb hp,fun i s hi=>?_⟩
     have hlt:i<a.length:=(q1Z.1 hi).1
     have hx:((l.drop off).take a.length)[i]? = some (.str s):=by rw[<-he,qzZ,hi];rfl
     obtain⟨v,hv,hr⟩:=v1.at hx;simp only[VR]at hr;subst hr;have:=v3 i _ hv;rw[zB7]at this;exact this
@[simp] theorem zLh:∀xs ys:List AV,zZ (xs++ys)=(zZ xs&&zZ ys)
 | [],ys=>by simp
 | x::xs,ys=>by rw[q9Z,zE3,zE3,zLh xs ys,Bool.and_assoc]
theorem zAh(rn:List Nat):∀(n:Nat) (L:List AV),L.length=n->AWs rn (qbZ n .top) L
 | 0,[],_=>trivial
 | n+1,x::L,h=>⟨by simp[AW],zAh rn n L (by simpa using h)⟩
 | 0,_::_,h=>by simp at h
 | n+1,[],h=>by simp at h
def zWO:zc:=zAZ fun args H=>match args with
 | [x,.str []]=>match zFy H x with
   | some a=>if a.flatten.length<=140737488355328/\a.length<=140737488355328 then some (.str a.flatten) else none
   | none=>none
 | _=>none
theorem zRp(a:List (List UInt8)):Lib.join a []=a.flatten:=by
 unfold Lib.join
 induction a with
 | nil=>rfl
 | cons x r ih =>
   cases r with
   | nil=>simp[List.intercalate]
   | cons y r=>simp[List.intercalate,List.intersperse]at ih ⊢;rw[<-ih]
theorem zOr:Sound Pz 132 zWO:=by
 refine Zx (zH Tryz.func132 rfl (by decide)) fun args H v h=>?_
 split at h;rotate_left
 · cases h
 rename_i x;split at h;rotate_left
 · cases h
 rename_i a ha
 split at h <;> cases h
 rename_i hc
 refine zB9 rfl fun j w cargs hR hargs=>?_
 simp only[VRs]at hargs;obtain⟨cx,ws,e1,hx,cs,ws2,e2,hs,rfl⟩:=hargs;subst e2;simp only[VR]at hs;subst hs
 have ec:cargs=#[cx,.string ⟨#[]⟩]:=by apply Array.ext';rw[e1]
 subst ec;rcases zEp hR ha hx with⟨rfl,rfl⟩ | ⟨ad,cap,rfl,hcap,hb⟩
 · refine (Tryz.strings_Join_none none 0 ⟨#[]⟩ w).mono ?_
   rintro e w' ⟨rfl,rfl⟩;exact⟨_,rfl,rfl,RowKit.Below.refl _ _⟩
 · rcases hb with rfl | ⟨bk,o,rfl,hbk,hcell⟩
   · refine (Tryz.strings_Join_none (some ad) cap ⟨#[]⟩ w).mono ?_
     rintro e w' ⟨rfl,rfl⟩;exact⟨_,rfl,rfl,RowKit.Below.refl _ _⟩
   · have key:=Tryz.strings_Join bk o cap (a.map fun s=>⟨s.toArray⟩) ⟨#[]⟩ w (fun i x hi=>by
       rw[qzZ]at hi;obtain⟨s,hs,rfl⟩:=qlZ.1 hi
       exact hcell i s hs) hbk (by simpa using hc.2) (by simpa using hcap)
     have em:(a.map fun s=>(⟨s.toArray⟩:ByteArray)).map (·.data.toList)=a:=by
       rw[List.map_map]
       exact List.map_id'' (fun s=>by simp) a
     rw[em]at key;have ej:Lib.join a (ByteArray.mk #[]).data.toList=a.flatten:=zRp a;rw[ej]at key;simp only[r7Z]at key;refine (key hc.1).mono ?_;rintro e w' ⟨rfl,hb⟩;exact⟨_,rfl,rfl,hb⟩
def zQE(a:List (List UInt8))(sep:List UInt8):List UInt8:=match a with
 | []=>[]
 | x::r=>x++(r.map (sep++·)).flatten
theorem zWl(a:List (List UInt8))(sep:List UInt8):Lib.join a sep=zQE a sep:=by
 cases a with
 | nil=>rfl
 | cons x r=>rw[Lib.join_cons];rfl
def zSV:zc:=zAZ fun args H=>match args with
 | [x,.str sep]=>match zFy H x with
   | some a=>if (zQE a sep).length<=140737488355328/\a.length<=140737488355328 then some (.str (zQE a sep)) else none
   | none=>none
 | _=>none
theorem zMj:Sound Pz 132 zSV:=by
 refine Zx (zH Tryz.func132 rfl (by decide)) fun args H v h=>?_
 split at h;rotate_left
 · cases h
 rename_i x sep;split at h;rotate_left
 · cases h
 rename_i a ha
 split at h <;> cases h
 rename_i hc
 refine zB9 rfl fun j w cargs hR hargs=>?_
 simp only[VRs]at hargs;obtain⟨cx,ws,e1,hx,cs,ws2,e2,hs,rfl⟩:=hargs;subst e2;simp only[VR]at hs;subst hs
 have ec:cargs=#[cx,.string ⟨sep.toArray⟩]:=by apply Array.ext';rw[e1]
 subst ec;rcases zEp hR ha hx with⟨rfl,rfl⟩ | ⟨ad,cap,rfl,hcap,hb⟩
 · refine (Tryz.strings_Join_none none 0 ⟨sep.toArray⟩ w).mono ?_
   rintro e w' ⟨rfl,rfl⟩;exact⟨_,rfl,rfl,RowKit.Below.refl _ _⟩
 · rcases hb with rfl | ⟨bk,o,rfl,hbk,hcell⟩
   · refine (Tryz.strings_Join_none (some ad) cap ⟨sep.toArray⟩ w).mono ?_
     rintro e w' ⟨rfl,rfl⟩;exact⟨_,rfl,rfl,RowKit.Below.refl _ _⟩
   · have key:=Tryz.strings_Join bk o cap (a.map fun s=>⟨s.toArray⟩) ⟨sep.toArray⟩ w (fun i x hi=>by
       rw[qzZ]at hi;obtain⟨s,hs,rfl⟩:=qlZ.1 hi
       exact hcell i s hs) hbk (by simpa using hc.2) (by simpa using hcap)
     have em:(a.map fun s=>(⟨s.toArray⟩:ByteArray)).map (·.data.toList)=a:=by
       rw[List.map_map]
       exact List.map_id'' (fun s=>by simp) a
     rw[em]at key;have ej:Lib.join a (ByteArray.mk sep.toArray).data.toList=zQE a sep:=zWl a sep;rw[ej]at key;simp only[r7Z]at key;refine (key hc.1).mono ?_;rintro e w' ⟨rfl,hb⟩;exact⟨_,rfl,rfl,hb⟩
end
section
open Go
inductive FAct where
 | add (s:List UInt8)
 | cut (n:Nat)
structure PF where
 d:List UInt8
 acts:List FAct
def FAct.run(a:FAct)(s:List UInt8):List UInt8:=match a with
 | .add m=>s++m
 | .cut n=>s.take n
def zA2(s:List UInt8):List FAct->List UInt8
 | []=>s
 | a::l=>zA2 (a.run s) l
def PF.now(f:PF):List UInt8:=zA2 f.d f.acts
def fits(s:List UInt8):List FAct->Prop
 | []=>True
 | a::l=>(match a with | .add _=>True | .cut n=>n<=s.length)/\fits (a.run s) l
theorem zD3(s:List UInt8)(l m:List FAct):zA2 s (l++m)=zA2 (zA2 s l) m:=by
 induction l generalizing s with
 | nil=>rfl
 | cons a l ih=>exact ih _
theorem zGr(s:List UInt8)(l m:List FAct):fits s (l++m)↔fits s l/\fits (zA2 s l) m:=by
 induction l generalizing s with
 | nil=>simp[fits,zA2]
 | cons a l ih=>simp only[q9Z,fits,zA2,ih,and_assoc]
def FAct.fn(k:Nat):FAct->AV
 | .add _=>.func 207 [] [.ptr k 0]
 | .cut _=>.func 234 [] [.ptr k 0]
def FAct.box:FAct->ABlk
 | .add s=>.obj false [.cells true [.str s]]
 | .cut n=>.obj false [.cells true [.int .i64 n]]
def zAp:Nat->List FAct->List AV
 | _,[]=>[]
 | k,a::l=>a.fn k::zAp (k+1) l
def zLp:List Nat->List FAct->List AV
 | b::bs,a::l=>a.fn b::zLp bs l
 | _,_=>[]
@[simp] theorem zNj:∀(l:List FAct) (k:Nat),(zAp k l).length=l.length
 | [],_=>rfl
 | a::l,k=>by simp[zAp,zNj l]
theorem zOs:∀(l:List FAct) (k:Nat),zAp k l=zLp (List.range' k l.length) l
 | [],k=>rfl
 | a::l,k=>by simp[zAp,zLp,List.range'_succ,zOs l]
theorem zNJ:∀(l:List FAct) (k i:Nat) (h:i<l.length),(zAp k l)[i]? = some (l[i].fn (k+i))
 | a::l,k,0,_=>rfl
 | a::l,k,i+1,h=>by
   simp only[zAp,r9Z,List.getElem_cons_succ]
   rw[zNJ l (k+1) i (by simpa using h),show k+1+i=k+(i+1) by omega]
def PF.blks(f:PF):zA:=.cells true [.str f.d,.sl 1 0 f.acts.length 1 false,.str f.now]::.cells true (zAp 2 f.acts)::f.acts.map FAct.box
theorem zGC(g:Nat->Nat)(q:Nat):∀(l:List FAct) (k:Nat),(∀i,i<l.length->g (k+i)=q+i)->Zo g (zAp k l)=zAp q l
 | [],_,_=>rfl
 | a::l,k,h=>by
   have h0:=h 0 (by simp)
   simp only[Nat.add_zero]at h0
   have ih:=zGC g (q+1) l (k+1) fun i hi=>by rw[show k+1+i=k+(i+1) by omega,h (i+1) (by simpa using hi)];omega
   cases a <;> simp[zAp,FAct.fn,Zo,reA,h0] <;> exact zGC g (q+1) l (k+1) fun i hi=>by rw[show k+1+i=k+(i+1) by omega,h (i+1) (by simpa using hi)];omega
theorem zUh(g:Nat->Nat)(a:FAct):reB g a.box=a.box:=by cases a <;> rfl
theorem zEC(f:PF)(T:zA):ZD (.obj true f.blks::T) 0 f.blks=.cells true [.str f.d,.sl (T.length+1) 0 f.acts.length 1 false,.str f.now]::(T++.cells true (zAp (T.length+2) f.acts)::f.acts.map FAct.box):=by
 have e:Zo (zAG 0 (T.length+1)) (zAp 2 f.acts)=zAp (T.length+2) f.acts:=zGC _ _ _ _ fun i _=>by simp only[zAG];rw[if_neg (by omega)];omega
 have e2:f.acts.map (fun a=>reB (zAG 0 (T.length+1)) a.box)=f.acts.map FAct.box:=by
   apply List.map_congr_left;intro a _;exact zUh _ a
 have e3:f.acts.map (reB (zAG 0 (T.length+1)) ∘ FAct.box)=f.acts.map FAct.box:=e2;unfold ZD;simp only[PF.blks,q7Z,List.getD_cons_zero,s9Z,List.drop_succ_cons,List.drop_zero,s1Z,List.map_map,e3]
 have e4:reB (zAG 0 (T.length+1)) (.cells true (zAp 2 f.acts))=.cells true (zAp (T.length+2) f.acts):=by show ABlk.cells true _=_;rw[e]
 rw[e4];simp[reB,Zo,reA,zAG]
theorem zNg(rs:List Nat):∀(l:List FAct) (k:Nat) (bs:List Nat),bs.length=l.length->(∀i,i<bs.length->rs[k+i]? = bs[i]?)->AWs rs (zAp k l) (zLp bs l)
 | [],k,bs,h,_=>by
   have:bs=[]:=List.eq_nil_of_length_eq_zero (by simpa using h)
   subst this;trivial
 | a::l,k,b::bs,h,hr=>by
   have h0:=hr 0 (by simp)
   simp only[Nat.add_zero,raZ]at h0
   have ih:=zNg rs l (k+1) bs (by simpa using h) fun i hi=>by
     have:=hr (i+1) (by simpa using hi)
     rw[show k+1+i=k+(i+1) by omega,this];simp
   cases a <;> exact⟨⟨rfl,trivial,⟨h0,rfl⟩,trivial⟩,ih⟩
 | a::l,k,[],h,_=>by simp at h
theorem zJy(rs:List Nat)(H:zA):∀(l:List FAct) (bs:List Nat),bs.length=l.length->(∀(i b:Nat) (a:FAct),bs[i]? = some b->l[i]? = some a->H[b]? = some a.box)->AWg rs H (l.map FAct.box) bs
 | [],bs,h,_=>by
   have:bs=[]:=List.eq_nil_of_length_eq_zero (by simpa using h)
   subst this;trivial
 | a::l,b::bs,h,hr=>by
   have h0:=hr 0 b a rfl rfl;simp only[s1Z,AWg]
   refine ⟨?_,zJy rs H l bs (by simpa using h) fun i b a h1 h2=>hr (i+1) b a (by simpa using h1) (by simpa using h2)⟩
   split
   · rw[q2Z,h0]
     cases a <;> exact⟨rfl,rfl⟩
   · trivial
 | a::l,[],h,_=>by simp at h
theorem Aft.closeF{n0:Nat}{F:List AV}{H:zA}{K:List AV->zA->Prop}(f:PF)(b r1:Nat)(bs:List Nat){x:AV}{o:Bool}
   (hb:H[b]? = some (.cells true [.str f.d,x,.str f.now])) (hx:AW (b::r1::bs) (.sl 1 0 f.acts.length 1 false) x)
   (hr:r1<H.length->H[r1]? = some (.cells true (zLp bs f.acts))) (hl:bs.length=f.acts.length) (hbx:∀(i k:Nat) (a:FAct),bs[i]? = some k->f.acts[i]? = some a->H[k]? = some a.box)
   (hnd:(b::r1::bs).Nodup) (hn:n0<=H.length) (h:Aft n0 F (zy H b [r1] o f.blks) K):Aft n0 F H K:=by
 refine Aft.close (o:=o) (b:=b) (rs:=b::r1::bs) (ks:=[r1]) rfl hnd (q1Z.1 hb).1 ?_ ?_ ⟨_,rfl,rfl⟩ ?_ hn h
 · intro c x hc hcb hx ho
   rcases qwZ.1 hc with e | hc
   · exact absurd e hcb
   rcases qwZ.1 hc with e | hc
   · simp[e]
   obtain⟨i,hi⟩:=List.getElem?_of_mem hc
   have hil:i<f.acts.length:=by rw[<-hl];exact (q1Z.1 hi).1
   have:=hbx i c _ hi (q3Z hil);rw[this]at hx;cases hx
   cases hfa:f.acts[i] <;> rw[hfa]at ho <;> cases ho
 · refine ⟨?_,?_,zJy _ _ _ _ hl hbx⟩
   · split
     · rw[q2Z,hb]
       exact⟨fun h=>h,rfl,hx,rfl,trivial⟩
     · trivial
   · split
     · rename_i h1
       rw[q2Z,hr h1]
       exact⟨fun h=>h,zNg _ _ _ _ hl fun i _=>by rw[show 2+i=i+1+1 by omega];simp⟩
     · trivial
 · intro i y hy hd
   match i,hy with
   | 0,hy=>cases hy;rfl
   | 1,hy=>cases hy;rfl
   | i+2,hy =>
     simp only[PF.blks,r9Z,qzZ]at hy;obtain⟨a,_,rfl⟩:=qlZ.1 hy
     cases a <;> rfl
def zTq:AV->ABlk->Option FAct
 | .func f _ _,.obj _ [.cells _ [.str s]]=>if f=207 then some (.add s) else none
 | .func f _ _,.obj _ [.cells _ [.int _ n]]=>if f=234/\0<=n then some (.cut n.toNat) else none
 | _,_=>none
def zLf:List AV->List ABlk->Option (List FAct)
 | [],[]=>some []
 | x::xs,B::Bs=>match zTq x B,zLf xs Bs with
   | some a,some l=>some (a::l)
   | _,_=>none
 | _,_=>none
def zO2:zA->Option PF
 | .cells _ (.str d::_)::.cells _ row::bx=>(zLf row bx).map fun l=>⟨d,l⟩
 | _=>none
theorem zJM:∀(l:List FAct) (k:Nat),zLf (zAp k l) (l.map FAct.box)=some l
 | [],_=>rfl
 | a::l,k=>by
   have h:zTq (a.fn k) a.box=some a:=by cases a <;> simp[FAct.fn,FAct.box,zTq]
   simp only[zAp,s1Z,zLf,h,zJM l]
@[simp] theorem zGf(f:PF):zO2 f.blks=some f:=by simp[zO2,PF.blks,zJM]
theorem zGw:∀(bs:List Nat) (l:List FAct) (b:Nat) (a:FAct),bs.length=l.length->zLp (bs++[b]) (l++[a])=zLp bs l++[a.fn b]
 | [],l,b,a,h=>by
   have:l=[]:=List.eq_nil_of_length_eq_zero (by simpa using h.symm)
   subst this;rfl
 | c::bs,[],b,a,h=>by simp at h
 | c::bs,x::l,b,a,h=>by simp only[q9Z,zLp,zGw bs l b a (by simpa using h)]
def PF.did(f:PF)(a:FAct):PF:=⟨f.d,f.acts++[a]⟩
theorem Aft.closeA{n0:Nat}{F:List AV}{H:zA}{K:List AV->zA->Prop}(f:PF)(a:FAct)(b r1 base q:Nat){x:AV}
   (hb:H[b]? = some (.cells true [.str f.d,x,.str (a.run f.now)])) (hx:AW (b::r1::(List.range' base f.acts.length++[q])) (.sl 1 0 (f.acts.length+1) 1 false) x)
   (hr:H[r1]? = some (.cells true (zAp base f.acts++[a.fn q]))) (hX:∀(i:Nat) (a':FAct),f.acts[i]? = some a'->H[base+i]? = some a'.box) (hq:H[q]? = some a.box)
   (hd:b≠r1/\b≠q/\r1≠q/\(b<base\/base+f.acts.length<=b)/\(r1<base\/base+f.acts.length<=r1)/\(q<base\/base+f.acts.length<=q)) (hn:n0<=H.length)
   (h:Aft n0 F (zy H b [r1] true (f.did a).blks) K):Aft n0 F H K:=by
 refine Aft.closeF (f.did a) b r1 (List.range' base f.acts.length++[q]) (o:=true) (x:=x) ?_ ?_ ?_ ?_ ?_ ?_ hn h
 · rw[hb];simp[PF.did,PF.now,zD3,zA2]
 · show AW _ (.sl 1 0 (f.acts++[a]).length 1 false) x
   rw[qdZ];exact hx
 · intro _
   rw[hr];simp only[PF.did]
   rw[zGw _ _ _ _ (by simp),<-zOs]
 · simp[PF.did]
 · intro i k a' h1 h2
   simp only[PF.did]at h2;rcases s2Z i f.acts.length with h3 | h3
   · rw[q4Z (by simpa using h3),List.getElem?_range' h3]at h1
     rw[q4Z h3]at h2;simp only[Nat.one_mul,Option.some.injEq]at h1;subst h1;exact hX i a' h2
   · have h4:i=f.acts.length:=by
       have:=(q1Z.1 h1).1
       simp at this;omega
     subst h4
     rw[q5Z (by simp)]at h1
     rw[q5Z (by omega)]at h2
     simp at h1 h2
     subst h1;subst h2
     exact hq
 · simp only[rdZ,qwZ,qxZ,List.mem_range'_1,rtZ,or_false]
   refine ⟨by omega,by omega,?_⟩
   rw[List.nodup_append]
   refine ⟨List.nodup_range',by simp,?_⟩
   intro x hx y hy;simp only[List.mem_range'_1,r1Z]at hx hy;omega
end
section
open Go
attribute [-simp] zJ zY zn zL zl
def zGv:List FuncId:=[206,207,141,234,142,180,249]
theorem zCD:GOk Pz (zAL Pz (zv [(132,zWO)]) 0 zGv 4):=zq hmix (zC zOr zD) 0 zGv 4
def PF.cut(f:PF)(n:Int):PF×Int:=if n<0\/(f.now.length:Int)<n then (f,17) else if n<f.now.length then (⟨f.d,f.acts++[.cut n.toNat]⟩,0) else (f,0)
theorem zUc(f:PF)(n:Int)(_hn:f.now.length<=1000000000000)(hk:f.acts.length<=1000000000000) :
   Ct Pz 182 [.ptr 0 0,.int .i64 n] [.obj true f.blks] (.int .i64 (f.cut n).2) [.obj true (f.cut n).1.blks]:=by
 have hΓ:=zCD;refine zK Tryz.func182 rfl ?_;simp only[Tryz.ntmps182,q7Z,q8Z,Nat.reduceAdd,Nat.reduceSub,qbZ,q9Z,qaZ];obtain⟨B,eB⟩:∃B,f.blks=.cells true [.str f.d,.sl 1 0 f.acts.length 1 false,.str f.now]::B:=⟨_,rfl⟩;obtain⟨s,es⟩:∃s,f.now=s:=⟨_,rfl⟩;rw[es]at eB;unfold PF.cut;rw[es,eB]
 refine Sim.step hmix hΓ (n:=0) (by simp;exact⟨rfl,rfl⟩) (by simp) ?_
 by_cases h1:n<0
 · rw[if_pos (.inl h1)]
   refine Sim.exec hmix hΓ (n:=0) (by simp +decide [h1];exact⟨rfl,rfl,rfl⟩) (by simp) ?_
   exact⟨.inr rfl,_,by simp[Tryz.f182] <;> rfl,Weak.mk' [0] (by decide) (by decide) (by simp) (by simp[AWb,eB])⟩
 by_cases h2:(s.length:Int)<n
 · rw[if_pos (.inr h2)]
   refine Sim.exec hmix hΓ (n:=0) (by simp +decide [h1,h2];exact⟨rfl,rfl,rfl⟩) (by simp) ?_
   exact⟨.inr rfl,_,by simp[Tryz.f182] <;> rfl,Weak.mk' [0] (by decide) (by decide) (by simp) (by simp[AWb,eB])⟩
 rw[if_neg (by omega)]
 by_cases h3:n<s.length;rotate_left
 · rw[if_neg h3]
   refine Sim.exec hmix hΓ (n:=0) (by simp +decide [h1,h2,h3];exact⟨rfl,rfl,rfl⟩) (by simp) ?_
   exact⟨.inr rfl,_,by simp[Tryz.f182] <;> rfl,Weak.mk' [0] (by decide) (by decide) (by simp) (by simp[AWb,eB])⟩
 rw[if_pos h3];rw[<-eB]
 refine Sim.aft (Aft.open (b:=0) rfl (by simp) (Aft.done (by simp[ZD]) ?_))
 rw[zEC,es];obtain⟨R,eR⟩:∃R,zAp (List.length [ABlk.cells true [AV.int .i64 n]]+2) f.acts=R:=⟨_,rfl⟩;obtain⟨X,eX⟩:∃X,f.acts.map FAct.box=X:=⟨_,rfl⟩
 have hR:R.length=f.acts.length:=by rw[<-eR];simp
 have hX:X.length=f.acts.length:=by rw[<-eX];simp
 rw[eR,eX];obtain⟨k,ek⟩:∃k,f.acts.length=k:=⟨_,rfl⟩;rw[ek]at hR hX hk ⊢
 have b1:(k+1)*8<=140737488355328:=by omega
 have b2:k+1<=9223372036854775807:=by omega
 have c0:0<=n:=by omega
 have c1:n<=(s.length:Int):=by omega
 have tR:R.take k=R:=q6Z (by omega)
 refine Sim.seq (Sim.mono (Q:=fun e F' H'=>e=.normal/\Weak 1 F' H' (qbZ 31 .top) [.obj true (⟨f.d,f.acts++[.cut n.toNat]⟩:PF).blks]) ?_ ?_)
 rotate_left
 · rintro e F' H' hl ⟨rfl,hw⟩
   dsimp only;refine Sim.weak hw hl ?_
   refine Sim.exec hmix hΓ (n:=0) (by simp;exact⟨rfl,rfl,rfl⟩) (by simp) ?_
   exact⟨.inr rfl,_,by simp[Tryz.f182] <;> rfl,Weak.mk' [0] (by decide) (by decide) (by simp) (by simp[AWb])⟩
 refine Sim.after (Sim.exec hmix hΓ (n:=0) (by simp +decide [zGv,Tryz.f206,Tryz.f234,Tryz.f249,h1,h2,h3,hR,hX,tR,b1,b2,c0,c1];exact⟨rfl,rfl,rfl⟩) (by simp) ?_)
 have eR2:R=zAp 3 f.acts:=by rw[<-eR];rfl
 have en:(n.toNat:Int)=n:=by omega
 refine Aft.freeze 1 (.int .i64 n) rfl (fun _=>⟨rfl,rfl⟩) (by simp) ?_
 simp only[saZ,s9Z]
 refine Aft.closeA f (.cut n.toNat) 0 (k+4) 3 1 (x:=.slice (k+1+1+1+1) 0 (k+1) 1 false) ?_ ?_ ?_ ?_ ?_ (by omega) (by simp) ?_
 · simp[FAct.run,es]
 · simp[AW,ek]
 · rw[<-eR2,show k+4=(X.length+1)+1+1+1 by omega]
   simp[FAct.fn]
 · intro i a' h2
   have h3:i<X.length:=by rw[hX,<-ek];exact (q1Z.1 h2).1
   rw[show 3+i=i+1+1+1 by omega]
   simp only[r9Z];rw[q4Z h3,<-eX,qzZ,h2];rfl
 · simp[FAct.box,en]
 exact Aft.done (by simp) ⟨by first | rfl | trivial,Weak.mk' [0] (by decide) (by decide) (zAh _ _ _ (by simp)) (zT (b:=0) (by simp) _ _ rfl fun i c x h1 h2=>by
   match i,h1,h2 with
   | 0,h1,h2=>cases h1;cases h2;exact .inl ⟨rfl,rfl⟩)⟩
end
end Go.Proofs.YtpmfecnajoojeaaGreatDoor
