/- Parts of the proof of SweepTells: lemmas, each with its own conditions. -/
import Derived.ProofKit
import Derived.OpenShut
import Derived.ShutString
import Derived.ChangeOld
import Derived.Deep.Slices
import Derived.SizedLaws
import Derived.ChangeMaps5
import Derived.Test.YtfhidaoiofeooaaGreatDoorRows
import Derived.Test.YtfhidaoiofeooaaGreatDoorY3
set_option maxHeartbeats 64000000
open List renaming getElem?_eq_some_iff → q1Z, getElem?_eq_getElem → q3Z, getElem?_append_left → q4Z, getElem?_append_right → q5Z, take_of_length_le → q6Z, replicate → qbZ, mem_cons_self → qhZ, mem_cons_of_mem → qiZ, length_take → qjZ, mem_cons → qwZ, append_nil → r2Z, getElem?_take → r4Z, take_append_drop → r6Z, flatten_cons → rcZ, replicate_succ → rvZ, getElem?_eq_none → s4Z, all_eq_true → s5Z, flatten_append → sgZ
open Option renaming map_eq_some_iff → qlZ
open Nat renaming le_refl → qnZ, zero_le → qqZ, add_sub_cancel_left → s3Z, zero_add → s8Z, min_eq_left → sfZ
open Bool renaming and_eq_true → qrZ
open Array renaming getElem?_eq_some_iff → qtZ, length_toList → rjZ
namespace Go.Proofs.YtfhidaoiofeooaaGreatDoor
open _root_.Go.Proofs.Tryz renaming prog → Pz
set_option maxRecDepth 100000
section
open Go.ChangeShapes Go.WideShapes Go.ChangeAt Go.RowKit
theorem own:ownKnob Tryz.prog.godebug=none:=by kernel_rfl
theorem zTE:laidOutB Pz=true:=by kernel_rfl
theorem zHS{w:World}{x:Addr}{v:Value}(h:w.cell? x=some v):x=⟨x.block,x.off,none⟩:=by
 cases x with
 | mk b o s =>
   cases s with
   | none=>rfl
   | some s =>
     unfold World.cell? at h;dsimp only at h;split at h <;> simp at h
end
section
open Go.ChangeShapes Go.WideShapes Go.ChangeAt Go.RowKit
inductive Prim where
 | int (k:IntKind)
 | str
 | bool
 deriving DecidableEq
inductive CT where
 | one (p:Prim)
 | row (el:List Prim)
 deriving DecidableEq
def zOH:List CT->Option (List Prim)
 | []=>some []
 | .one p::ts=>(zOH ts).map (p::·)
 | _=>none
def fieldsOf(P:Program)(g:TypeId->Option (List CT)):Nat->List Field->Option (List CT)
 | _,[]=>some []
 | off,f::fs=>match g f.type with
   | some a=>if f.offset=off/\P.cellsOf f.type=a.length then (fieldsOf P g (off+a.length) fs).map (a++·) else none
   | none=>none
def flat(P:Program):Nat->TypeId->Option (List CT)
 | 0,_=>none
 | n+1,t=>match P.underlying t with
   | some .bool=>some [.one .bool]
   | some (.int k)=>some [.one (.int k)]
   | some .string=>some [.one .str]
   | some (.slice e)=>match flat P n e with
     | some a=>if P.cellsOf e=a.length/\0<a.length then (zOH a).map fun el=>[.row el] else none
     | none=>none
   | some (.struct fs)=>fieldsOf P (flat P n) 0 fs.toList
   | some (.array m e)=>match flat P n e with
     | some a=>if P.cellsOf e=a.length then some (qbZ m a).flatten else none
     | none=>none
   | _=>none
def zEj:Prim->Value->Prop
 | .int k,v=>∃n,v=.int k n/\(Lit.int k n).wf=true
 | .str,v=>∃s:ByteArray,v=.string s/\s.size<=maxLen
 | .bool,v=>∃b,v=.bool b
def All2{α β:Type}(R:α->β->Prop):List α->List β->Prop
 | [],[]=>True
 | x::xs,y::ys=>R x y/\All2 R xs ys
 | _,_=>False
def zC9(w:World):CT->Value->Prop
 | .one p,v=>zEj p v
 | .row el,v=>v=.slice none 0 0\/∃a len cap l,v=.slice (some a) len cap/\len<=cap/\cap<=maxLen/\0<el.length/\All2 zEj (qbZ cap el).flatten l/\∀i u,l[i]? = some u->w.cell? (a.add i)=some u
section
variable {α β:Type} {R:α->β->Prop}
theorem All2.length:∀{xs:List α} {ys:List β},All2 R xs ys->xs.length=ys.length
 | [],[],_=>rfl
 | x::xs,y::ys,h=>by simp[All2.length h.2]
 | [],_::_,h=>h.elim
 | _::_,[],h=>h.elim
theorem All2.append:∀{xs xs':List α} {ys ys':List β},All2 R xs ys->All2 R xs' ys'->All2 R (xs++xs') (ys++ys')
 | [],_,[],_,_,h=>h
 | _x::_xs,_,_y::_ys,_,h,h'=>⟨h.1,h.2.append h'⟩
 | [],_,_::_,_,h,_=>h.elim
 | _::_,_,[],_,h,_=>h.elim
theorem All2.get:∀{xs:List α} {ys:List β},All2 R xs ys->∀(i:Nat) x y,xs[i]? = some x->ys[i]? = some y->R x y
 | [],[],_,i,x,y,hx,_=>by simp at hx
 | a::xs,b::ys,h,0,x,y,hx,hy=>by simp at hx hy;subst hx;subst hy;exact h.1
 | a::xs,b::ys,h,i+1,x,y,hx,hy=>h.2.get i x y (by simpa using hx) (by simpa using hy)
 | [],_::_,h,_,_,_,_,_=>h.elim
 | _::_,[],h,_,_,_,_,_=>h.elim
theorem All2.of_get:∀{xs:List α} {ys:List β},xs.length=ys.length->(∀(i:Nat) x y,xs[i]? = some x->ys[i]? = some y->R x y)->All2 R xs ys
 | [],[],_,_=>trivial
 | x::xs,y::ys,hl,h=>⟨h 0 x y rfl rfl,All2.of_get (by simpa using hl) fun i a b ha hb=>h (i+1) a b (by simpa using ha) (by simpa using hb)⟩
 | [],_::_,hl,_=>by simp at hl
 | _::_,[],hl,_=>by simp at hl
theorem All2.take{xs:List α}{ys:List β}(h:All2 R xs ys)(n:Nat):All2 R (xs.take n) (ys.take n):=by
 refine All2.of_get (by simp[h.length]) fun i x y hx hy=>?_;rw[r4Z]at hx hy;split at hx
 · rw[if_pos ‹_›]at hy
   exact h.get i x y hx hy
 · cases hx
end
theorem zr{α:Type}(n:Nat)(el:List α):(qbZ n el).flatten.length=n*el.length:=by
 simp
theorem zAz{α:Type}(n m:Nat)(el:List α)(h:n<=m):(qbZ m el).flatten.take (n*el.length)=(qbZ n el).flatten:=by
 obtain⟨k,rfl⟩:=Nat.exists_eq_add_of_le h;rw[<-List.replicate_append_replicate,sgZ,List.take_append_of_le_length (by simp),q6Z (by simp)]
theorem zJA:∀{ts:List CT} {el:List Prim},zOH ts=some el->ts=el.map .one
 | [],el,h=>by cases h;rfl
 | .row _::ts,el,h=>by cases h
 | .one p::ts,el,h=>by
   obtain⟨l,hl,rfl⟩:=qlZ.1 h;rw[zJA hl];rfl
theorem zOn{w:World}:∀{el:List Prim} {cs:List Value},All2 (zC9 w) (el.map .one) cs->All2 zEj el cs
 | [],[],_=>trivial
 | _p::_el,_c::_cs,h=>⟨h.1,zOn h.2⟩
 | [],_::_,h=>h.elim
 | _::_,[],h=>h.elim
variable {H:Type} {enc:TypeId×Value->H} {P:Program} {w:World} {base:Nat} {held:Bool}
theorem zCO{α:Type}(l:List α)(a b:Nat):(l.drop a).take b++(l.drop (a+b))=l.drop a:=by
 rw[<-List.drop_drop,r6Z]
theorem zFW(a:Addr)(x y:Nat):(a.add x).add y=a.add (x+y):=by
 unfold Addr.add;by_cases hx:x=0
 · subst hx
   simp
 · by_cases hy:y=0
   · subst hy
     simp
   · rw[if_neg hx,if_neg hy,if_neg (by omega)]
     simp[Nat.add_assoc]
theorem zI3{el:List Prim}{a:Addr}:∀(m:Nat),(∀i,i<m->∃cs:List Value,All2 zEj el cs/\∀k u,cs[k]? = some u->w.cell? (a.add (i*el.length+k))=some u) ->
   ∃l,All2 zEj (qbZ m el).flatten l/\∀i u,l[i]? = some u->w.cell? (a.add i)=some u
 | 0,_=>⟨[],trivial,fun i u h=>by simp at h⟩
 | m+1,h=>by
   obtain⟨l,h1,h2⟩:=zI3 m fun i hi=>h i (by omega);obtain⟨cs,g1,g2⟩:=h m (by omega);have hl:l.length=m*el.length:=by rw[<-h1.length,zr]
   refine ⟨l++cs,?_,fun i u hi=>?_⟩
   · rw[List.replicate_succ',sgZ]
     simp only[rcZ,List.flatten_nil,r2Z];exact h1.append g1
   · by_cases hlt:i<l.length
     · rw[q4Z hlt]at hi
       exact h2 i u hi
     · rw[q5Z (by omega)]at hi
       have:=g2 _ u hi;rw[show m*el.length+(i-l.length)=i by omega]at this;exact this
theorem zI4{g:TypeId->Option (List CT)}{cs:List Value}:∀(fs:List Field) (off:Nat) (ts:List CT),fieldsOf P g off fs=some ts->cs.length=off+ts.length ->
   (∀f∈fs,∀a,g f.type=some a->All2 (zC9 w) a ((cs.drop f.offset).take (P.cellsOf f.type)))->All2 (zC9 w) ts (cs.drop off)
 | [],off,ts,h,hl,_=>by
   cases h;rw[List.drop_of_length_le (by simp at hl;omega)];trivial
 | f::fs,off,ts,h,hl,hg=>by
   unfold fieldsOf at h;split at h
   · rename_i a ha
     split at h
     · rename_i hc
       obtain⟨r,hr,rfl⟩:=qlZ.1 h;have h1:=hg f (qhZ ..) a ha;rw[hc.1,hc.2]at h1;rw[<-zCO cs off a.length];exact h1.append (zI4 fs _ r hr (by simp at hl;omega) fun f' hf'=>hg f' (qiZ _ hf'))
     · cases h
   · cases h
theorem zMS{a:List CT}{cs:List Value}:∀(m off:Nat),cs.length=off+m*a.length->(∀i,i<m->All2 (zC9 w) a ((cs.drop (off+i*a.length)).take a.length))->All2 (zC9 w) (qbZ m a).flatten (cs.drop off)
 | 0,off,hl,_=>by
   rw[List.drop_of_length_le (by simp at hl;omega)];trivial
 | m+1,off,hl,h=>by
   rw[rvZ,rcZ,<-zCO cs off a.length];have h0:=h 0 (by omega);rw[Nat.zero_mul,Nat.add_zero]at h0;refine h0.append (zMS m _ (by rw[hl,Nat.succ_mul];omega) fun i hi=>?_);have:=h (i+1) (by omega);rw[Nat.succ_mul]at this;rw[show off+a.length+i*a.length=off+(i*a.length+a.length) by omega];exact this
theorem zCY:∀(n:Nat) (t:TypeId) (ts:List CT) (fuel:Nat) (cs:List Value) (x:DataW H×List MemPlace),flat P n t=some ts->P.cellsOf t=ts.length->DataW.trod enc P w base (fun _=>true) held fuel t cs=some x->All2 (zC9 w) ts cs
 | 0,_,_,_,_,_,h,_,_=>by cases h
 | n+1,t,ts,fuel,cs,x,h,hcl,hx=>by
   unfold flat at h;split at h
   · rename_i hu
     cases h;obtain⟨b,rfl,_⟩:=DataW.trod_bool hu hx;exact⟨⟨b,rfl⟩,trivial⟩
   · rename_i k hu
     cases h;obtain⟨m,rfl,_,hw⟩:=DataW.trod_int hu hx;exact⟨⟨m,rfl,hw⟩,trivial⟩
   · rename_i hu
     cases h;obtain⟨s,rfl,_,hw⟩:=DataW.trod_string hu hx;exact⟨⟨s,rfl,hw⟩,trivial⟩
   · rename_i e hu
     split at h
     · rename_i a ha
       split at h
       · rename_i hc
         obtain⟨el,hel,rfl⟩:=qlZ.1 h;have hae:=zJA hel;have hal:a.length=el.length:=by rw[hae];simp
         rcases Deep.open_slice hu hx with⟨rfl,_⟩ | ⟨ad,len,cap,m,n',D,Pl,rfl,_,hle,hm,hmm,_,hel2⟩
         · exact⟨.inl rfl,trivial⟩
         · simp at hmm
           subst hmm;obtain⟨l,h1,h2⟩:=zI3 (w:=w) (el:=el) (a:=ad) m fun i hi=>by
             obtain⟨cs',hcs',ht⟩:=hel2 i hi;have hk:=zCY n e a n' cs' _ ha hc.1 ht;rw[hae]at hk;refine ⟨cs',zOn hk,fun k u hk=>?_⟩;obtain⟨_,hcl',hce⟩:=World.cells?_some hcs';have hkl:k<P.cellsOf e:=by rw[<-hcl'];exact (q1Z.1 hk).1
             have:=hce k hkl;rw[hk]at this;rw[<-hal,<-hc.1];rw[<-this,zFW]
           exact⟨.inr ⟨ad,len,m,l,rfl,hle,hm,by omega,h1,h2⟩,trivial⟩
       · cases h
     · cases h
   · rename_i fs hu
     obtain⟨xs,m,_,_,hl,hxl,hf⟩:=DataW.trod_struct hu hx;have:=zI4 (w:=w) (cs:=cs) fs.toList 0 ts h (by omega) fun f hf' a ha=>?_
     · simpa using this
     · obtain⟨i,hi⟩:=List.getElem?_of_mem hf'
       have hi':fs[i]? = some f:=by simpa using hi
       have h1:=hf i f hi';have hilt:i<xs.length:=by rw[hxl];exact (qtZ.1 hi').1
       rw[q3Z hilt]at h1;refine zCY n f.type a m _ _ ha ?_ h1;have:∀(fs:List Field) (off:Nat) (ts:List CT),fieldsOf P (flat P n) off fs=some ts->∀f∈fs,∀a,flat P n f.type=some a->P.cellsOf f.type=a.length:=by
         intro fs;induction fs with
         | nil=>intro off ts h f hf;cases hf
         | cons f0 fs ih =>
           intro off ts h f hf a ha;unfold fieldsOf at h;split at h
           · rename_i a0 ha0
             split at h
             · rename_i hc
               obtain⟨r,hr,_⟩:=qlZ.1 h;rcases qwZ.1 hf with rfl | hf
               · rw[ha0]at ha;cases ha;exact hc.2
               · exact ih _ _ hr f hf a ha
             · cases h
           · cases h
       exact this _ _ _ h f hf' a ha
   · rename_i m e hu
     split at h
     · rename_i a ha
       split at h
       · rename_i hc
         cases h;obtain⟨xs,k,_,_,hl,hxl,hf⟩:=DataW.trod_array hu hx;have:=zMS (w:=w) (a:=a) (cs:=cs) m 0 (by rw[hl,hcl,zr];omega) fun i hi=>?_
         · simpa using this
         · have h1:=hf i hi
           rw[q3Z (by omega)]at h1;rw[hc]at h1;rw[s8Z];exact zCY n e a k _ _ ha hc h1
       · cases h
     · cases h
   · cases h
end
section
open Go.ChangeShapes Go.WideShapes Go.ChangeAt Go.RowKit
def zEG:Prim->AV->Prop
 | .int k,x=>∃n,x=.int k n/\(Lit.int k n).wf=true
 | .str,x=>∃s,x=.str s/\s.length<=maxLen
 | .bool,x=>∃b,x=.bool b
def zAN:List CT->Nat->List AV->zA->Prop
 | [],_,[],[]=>True
 | .one p::ts,k,x::xs,H=>zEG p x/\zAN ts k xs H
 | .row el::ts,k,x::xs,B::H=>(∃l n,B=.cells false l/\(n=0/\x=.nils\/x=.slice k 0 n el.length false)/\n<=maxLen/\All2 zEG (qbZ n el).flatten l)/\zAN ts (k+1) xs H
 | _,_,_,_=>False
theorem zRb{p:Prim}{v:Value}(h:zEj p v):∃x,zEG p x/\free x=true/\∀j,VR j x v:=by
 cases p with
 | int k=>obtain⟨n,rfl,hw⟩:=h;exact⟨.int k n,⟨n,rfl,hw⟩,rfl,fun j=>by simp[VR]⟩
 | str=>obtain⟨s,rfl,hw⟩:=h;exact⟨.str s.data.toList,⟨_,rfl,by rw[rjZ];exact hw⟩,rfl,fun j=>by simp[VR]⟩
 | bool=>obtain⟨b,rfl⟩:=h;exact⟨.bool b,⟨b,rfl⟩,rfl,fun j=>by simp[VR]⟩
theorem zPI:∀{ps:List Prim} {vs:List Value},All2 zEj ps vs->∃xs,All2 zEG ps xs/\xs.length=vs.length/\∀(i:Nat) x,xs[i]? = some x->∃v,vs[i]? = some v/\∀j,VR j x v
 | [],[],_=>⟨[],trivial,rfl,fun i x h=>by simp at h⟩
 | p::ps,v::vs,h=>by
   obtain⟨x,h1,_,h2⟩:=zRb h.1;obtain⟨xs,g1,g2,g3⟩:=zPI h.2;refine ⟨x::xs,⟨h1,g1⟩,by simp[g2],fun i y hy=>?_⟩;cases i with
   | zero=>simp at hy;subst hy;exact⟨v,rfl,h2⟩
   | succ i=>exact g3 i y (by simpa using hy)
 | [],_::_,h=>h.elim
 | _::_,[],h=>h.elim
theorem zAy(B O i:Nat):(⟨B,O,none⟩:Addr).add i=⟨B,O+i,none⟩:=by
 unfold Addr.add;split
 · rename_i h;subst h;rfl
 · rfl
def zCy(w:World):Prop:=∃(q:Nat) (cs:Array Value) (T:TypeId) (fz:Nat×Nat),w.heap[q]? = some (Obj.cells cs T fz)
theorem zDo{w:World}:∀(ts:List CT) (cs:List Value) (k:Nat),All2 (zC9 w) ts cs->(∀v∈cs,∀a len cap,v=.slice (some a) len cap->zCy w) ->
   ∃(xs:List AV) (H:zA) (js:List (Option JB)),zAN ts k xs H/\js.length=H.length/\(∀(i:Nat) B p,H[i]? = some B->js[i]? = some p->p≠none->∀j q,p=some q->BRel j w B q) /\
     (∀j:Inj,(∀i,i<js.length->j (k+i)=(js[i]?).join)->VRs j xs cs)/\(∀(i:Nat) (B:ABlk),H[i]? = some B->∃l,B=.cells false l)
 | [],[],k,_,_=>⟨[],[],[],trivial,rfl,fun i B p h=>by simp at h,fun j _=>by simp[VRs],fun i B h=>by simp at h⟩
 | .one p::ts,v::cs,k,h,hE=>by
   obtain⟨x,h1,_,h2⟩:=zRb h.1;obtain⟨xs,H,js,g1,g2,g3,g4,g5⟩:=zDo ts cs k h.2 fun v hv=>hE v (qiZ _ hv);exact⟨x::xs,H,js,⟨h1,g1⟩,g2,g3,fun j hj=>⟨v,cs,rfl,h2 j,g4 j hj⟩,g5⟩
 | .row el::ts,v::cs,k,h,hE=>by
   obtain⟨xs,H,js,g1,g2,g3,g4,g5⟩:=zDo ts cs (k+1) h.2 fun v hv=>hE v (qiZ _ hv);have key:∃(x:AV) (l:List AV) (n:Nat) (p:Option JB),(n=0/\x=.nils\/x=.slice k 0 n el.length false)/\n<=maxLen/\All2 zEG (qbZ n el).flatten l/\(∀j q,p=some q->BRel j w (.cells false l) q)/\∀j:Inj,j k=p->VR j x v:=by
     rcases h.1 with rfl | ⟨a,len,cap,l,rfl,hle,hm,h0,hl,hc⟩
     · exact⟨.nils,[],0,none,.inl ⟨rfl,rfl⟩,by simp,by simp[All2],fun j q h=>(by cases h),fun j _=>by simp[VR]⟩
     · by_cases hz:cap=0
       · subst hz
         obtain rfl:len=0:=by omega
         obtain⟨q,c,T,fz,hq⟩:=hE _ (qhZ ..) a 0 0 rfl;refine ⟨.slice k 0 0 el.length false,[],0,some ⟨q,0,c.size⟩,.inr rfl,by simp,by simp[All2],fun j q' h=>?_,fun j hj=>?_⟩
         · cases h
           exact⟨c,T,fz,hq,rfl,by simp,fun i x hx=>by simp at hx,fun h=>by cases h⟩
         · simp only[VR]
           exact⟨_,a,0,hj,rfl,by omega,fun h=>(by cases h),by simp,.inl rfl⟩
       · have hll:l.length=cap*el.length:=by rw[<-hl.length,zr]
         have hpos:0<l.length:=by rw[hll];exact Nat.mul_pos (by omega) h0
         obtain⟨xs',p1,p2,p3⟩:=zPI (hl.take (len*el.length));rw[zAz _ _ _ hle]at p1;have hlast:=hc (l.length-1) l[l.length-1] (by rw[q3Z]);have hfirst:=hc 0 l[0] (by rw[q3Z]);have ha:=zHS (w:=w) (x:=a) (v:=l[0]) (by simpa[Addr.add] using hfirst);obtain⟨B,O,S⟩:=a;cases ha;have hcell:∀(i:Nat) u,w.cell? ⟨B,O+i,none⟩=some u->∃c T fz,w.heap[B]? = some (.cells c T fz)/\c[O+i]? = some u:=by
           intro i u hu;unfold World.cell? at hu;dsimp only at hu;split at hu
           · rename_i c T fz hh
             exact⟨c,T,fz,hh,by simpa using hu⟩
           · cases hu
         obtain⟨c,T,fz,hB,hcl⟩:=hcell (l.length-1) _ (by rw[<-zAy];exact hlast);have hsz:=(qtZ.1 hcl).1;have hxl:xs'.length=len*el.length:=by rw[p2,qjZ,hll];exact sfZ (Nat.mul_le_mul_right _ hle)
         have hle2:len*el.length<=cap*el.length:=Nat.mul_le_mul_right _ hle;refine ⟨.slice k 0 len el.length false,xs',len,some ⟨B,O,c.size⟩,.inr rfl,by omega,p1,fun j q' h=>?_,fun j hj=>?_⟩
         · cases h
           refine ⟨c,T,fz,hB,rfl,by dsimp only;omega,fun i x hx=>?_,fun h=>by cases h⟩;obtain⟨u,hu,hv⟩:=p3 i x hx;rw[r4Z]at hu;split at hu
           · obtain⟨c',T',fz',hB',hu'⟩:=hcell i u (by rw[<-zAy];exact hc i u hu)
             rw[hB]at hB';cases hB';exact⟨u,hu',hv j⟩
           · cases hu
         · simp only[VR]
           exact⟨_,_,cap,hj,rfl,hle,fun h=>(by cases h),hm,.inr ⟨rfl,by dsimp only;omega⟩⟩
   obtain⟨x,l,n,p,k1,k2,k3,k4,k5⟩:=key;refine ⟨x::xs,.cells false l::H,p::js,⟨⟨l,n,rfl,k1,k2,k3⟩,g1⟩,by simp[g2],fun i B p' hB hp hne j q hq=>?_,fun j hj=>?_,fun i B hB=>?_⟩
   · cases i with
     | zero=>simp at hB hp;subst hB;subst hp;exact k4 j q hq
     | succ i=>exact g3 i B p' (by simpa using hB) (by simpa using hp) hne j q hq
   · refine ⟨v,cs,rfl,k5 j (by simpa using hj 0 (by simp)),g4 j fun i hi=>?_⟩
     have:=hj (i+1) (by simp;omega);rw[show k+1+i=k+(i+1) by omega,this];simp
   · cases i with
     | zero=>simp at hB;exact⟨l,hB.symm⟩
     | succ i=>exact g5 i B (by simpa using hB)
 | [],_::_,_,h,_=>h.elim
 | .one _::_,[],_,h,_=>h.elim
 | .row _::_,[],_,h,_=>h.elim
end
section
open Go.ChangeShapes Go.WideShapes Go.ChangeAt Go.RowKit
def zHe(P:Program)(t:TypeId):Option Bool :=
 match P.underlying t with
 | some (.struct _)=>some true
 | some (.array _ _)=>some true
 | some .bool=>some false
 | some (.int _)=>some false
 | some .string=>some false
 | some (.slice _)=>some false
 | _=>none
section
variable {H:Type} {enc:TypeId×Value->H} {P:Program} {w:World} {base base':Nat}
theorem zFc{u:TypeId}{a:Addr}{len cap:Nat}(h:Cell.okWide P w .any base u (.slice (some a) len cap)):zCy w:=by
 unfold Cell.okWide at h;split at h;all_goals first
   | (rename_i hv;cases hv)
   | skip
 all_goals try (exfalso;rename_i hv _;cases hv)
 unfold Cell.ok at h;split at h;all_goals try (exact h.elim)
 all_goals try (rename_i hv;cases hv)
 obtain⟨_,_,_,_,row,cells,hs,_⟩:=h;unfold World.shape? at hs;split at hs
 · rename_i c T fz hh
   exact⟨_,c,T,fz,hh⟩
 · cases hs
theorem zLQ{t:TypeId}{b:Bool}{v:Value}(hb:zHe P t=some b)(hv:Value.okWide P w .any base t v) :
   (b=true->∃cs,v=.agg cs)/\(b=false->v.cells=#[v])/\∀u∈v.cells.toList,∀a len cap,u=.slice (some a) len cap->zCy w:=by
 unfold zHe at hb;have agg:(∃cs:Array Value,v=.agg cs/\cs.size=P.cellsOf t/\Row.okWide P w .any base t cs)->∀u∈v.cells.toList,∀a len cap,u=.slice (some a) len cap->zCy w:=by
   rintro⟨cs,rfl,_,ts,_,_,hr⟩ u hu a len cap rfl;obtain⟨i,hi⟩:=List.getElem?_of_mem hu;obtain⟨t',_,hc⟩:=hr i _ (by simpa[Value.cells] using hi);exact zFc hc
 have cell:Cell.okWide P w .any base t v->(∀cs,v≠.agg cs)->v.cells=#[v]/\∀u∈v.cells.toList,∀a len cap,u=.slice (some a) len cap->zCy w:=by
   intro hc hne;have e:v.cells=#[v]:=by
     cases v <;> first | rfl | exact absurd rfl (hne _)
   refine ⟨e,fun u hu a len cap hua=>?_⟩;rw[e]at hu;simp at hu;subst hu;subst hua;exact zFc hc
 unfold Value.okWide at hv;split at hb <;> rename_i hu <;> first | cases hb | skip
 · rw[hu]at hv
   exact⟨fun _=>⟨hv.choose,hv.choose_spec.1⟩,fun h=>(by cases h),agg hv⟩
 · rw[hu]at hv
   exact⟨fun _=>⟨hv.choose,hv.choose_spec.1⟩,fun h=>(by cases h),agg hv⟩
 all_goals
   rw[hu]at hv;have hc:=cell hv fun cs hcs=>by
     subst hcs;simp only[Cell.okWide,Cell.ok,hu]at hv
   exact⟨fun h=>(by cases h),fun _=>hc.1,hc.2⟩
theorem zEB(hl:laidOutB P=true):∀(ts:List TypeId),ts.all (fun t=>P.readableRec t&&decide (t<P.types.size))=true->∀{w':World} {vs:List Value} {ds:List (DataW H)} {ps:List MemPlace},
   DataW.TrodAll enc P w 0 (fun _=>true) true ts vs ds ps->Below w.heap.size w w'->DataW.TrodAll enc P w' 0 (fun b=>decide (b<w.heap.size)) true ts vs ds ps
 | [],_,w',vs,ds,ps,h,_=>by
   obtain⟨rfl,rfl,rfl⟩:=trodAll_nil h;exact trodAll_mk0
 | t::ts,hr,w',vs,ds,ps,h,hb=>by
   obtain⟨v,vs',d,ds',p,q,rfl,rfl,rfl,hT,hA'⟩:=trodAll_cons h;simp only[List.all_cons,qrZ,decide_eq_true_eq]at hr;obtain⟨m,hm⟩:=hT;exact trodAll_cons_mk (Below.trod hl hr.1.1 hr.1.2 ⟨m,hm⟩ hb fun x hx=>DataW.trod_lt m _ _ _ hm x hx) (zEB hl ts (by simpa using hr.2) hA' hb)
end
end
theorem zPZ{p:Prim}{ts:List CT}{k:Nat}{xs:List AV}{H:zA}(h:zAN (.one p::ts) k xs H):∃x ys,xs=x::ys/\zEG p x/\zAN ts k ys H:=by
 cases xs with
 | nil=>exact h.elim
 | cons x ys =>
   simp only[zAN]at h;exact⟨x,ys,rfl,h.1,h.2⟩
theorem zQb{k:Nat}{xs:List AV}{H:zA}(h:zAN [] k xs H):xs=[]/\H=[]:=by
 cases xs <;> cases H <;> first | exact wR | exact h.elim
theorem zGT{H:Type}{enc:TypeId×Value->H}{P:Program}{w:World}{base:Nat}{spare:Nat->Bool}{held:Bool}:∀{ts:List TypeId} {vs:List Value} {ds:List (DataW H)} {ps:List MemPlace},DataW.TrodAll enc P w base spare held ts vs ds ps->ds.length=ts.length
 | [],vs,ds,ps,h=>by
   obtain⟨_,rfl,_⟩:=Go.ChangeShapes.trodAll_nil h;rfl
 | t::ts,vs,ds,ps,h=>by
   obtain⟨v,vs',d,ds',p,q,rfl,rfl,rfl,hT,hA'⟩:=Go.ChangeShapes.trodAll_cons h;simp[zGT hA']
section
open Go.ChangeShapes Go.WideShapes Go.ChangeAt Go.RowKit
inductive AS where
 | flat (b:Bool) (ts:List CT)
 | rows (ts:List CT)
 deriving DecidableEq
def zAD:List AS->Nat->List AV->zA->Prop
 | [],_,[],[]=>True
 | .flat true ts::ss,k,x::xs,H=>∃ys H1 H2,x=.agg ys/\zAN ts k ys H1/\H=H1++H2/\zAD ss (k+H1.length) xs H2
 | .flat false ts::ss,k,x::xs,H=>∃H1 H2,zAN ts k [x] H1/\H=H1++H2/\zAD ss (k+H1.length) xs H2
 | .rows ts::ss,k,x::xs,H=>∃n ys H1 H2,(n=0/\x=.nils\/x=.slice k 0 n ts.length false)/\n<=maxLen/\zAN (qbZ n ts).flatten (k+1) ys H1/\H=.cells false ys::H1++H2/\zAD ss (k+1+H1.length) xs H2
 | _,_,_,_=>False
def zDi(P:Program)(n:Nat):List TypeId->Option (List AS)
 | []=>some []
 | t::ts=>match zHe P t,flat P n t with
   | some b,some a=>if P.cellsOf t=a.length then (zDi P n ts).map (.flat b a::·) else none
   | _,none=>match P.underlying t with
     | some (.slice e)=>match flat P n e with
       | some a=>if P.cellsOf e=a.length/\0<a.length then (zDi P n ts).map (.rows a::·) else none
       | none=>none
     | _=>none
   | none,some _=>none
section
variable {H:Type} {enc:TypeId×Value->H} {P:Program} {w:World} {base base':Nat}
theorem zIJ{el:List CT}{a:Addr}:∀(m:Nat),(∀i,i<m->∃cs:List Value,All2 (zC9 w) el cs/\∀k u,cs[k]? = some u->w.cell? (a.add (i*el.length+k))=some u) ->
   ∃l,All2 (zC9 w) (qbZ m el).flatten l/\∀i u,l[i]? = some u->w.cell? (a.add i)=some u
 | 0,_=>⟨[],trivial,fun i u h=>by simp at h⟩
 | m+1,h=>by
   obtain⟨l,h1,h2⟩:=zIJ m fun i hi=>h i (by omega);obtain⟨cs,g1,g2⟩:=h m (by omega);have hl:l.length=m*el.length:=by rw[<-h1.length,zr]
   refine ⟨l++cs,?_,fun i u hi=>?_⟩
   · rw[List.replicate_succ',sgZ]
     simp only[rcZ,List.flatten_nil,r2Z];exact h1.append g1
   · by_cases hlt:i<l.length
     · rw[q4Z hlt]at hi
       exact h2 i u hi
     · rw[q5Z (by omega)]at hi
       have:=g2 _ u hi;rw[show m*el.length+(i-l.length)=i by omega]at this;exact this
def zEk(w:World)(k:Nat)(H:zA)(js:List (Option JB)):Prop :=
 ∀j:Inj,(∀i,i<js.length->j (k+i)=(js[i]?).join)->∀(i:Nat) B q,H[i]? = some B->js[i]? = some (some q)->BRel j w B q
theorem zGV{k:Nat}{H1 H2:zA}{js1 js2:List (Option JB)}(hl:js1.length=H1.length)(h1:zEk w k H1 js1)(h2:zEk w (k+H1.length) H2 js2):zEk w k (H1++H2) (js1++js2):=by
 intro j hj i B q hB hq;have j1:∀i,i<js1.length->j (k+i)=(js1[i]?).join:=fun i hi=>by
   rw[hj i (by simp;omega),q4Z hi]
 have j2:∀i,i<js2.length->j (k+H1.length+i)=(js2[i]?).join:=fun i hi=>by
   rw[show k+H1.length+i=k+(H1.length+i) by omega,hj (H1.length+i) (by simp;omega),q5Z (by omega),hl,s3Z]
 by_cases hi:i<H1.length
 · rw[q4Z hi]at hB
   rw[q4Z (by omega)]at hq;exact h1 j j1 i B q hB hq
 · rw[q5Z (by omega)]at hB
   rw[q5Z (by omega),hl]at hq;exact h2 j j2 _ B q hB hq
theorem zHI{H1 H2:zA}(h1:∀(i:Nat) (B:ABlk),H1[i]? = some B->∃l,B=.cells false l)(h2:∀(i:Nat) (B:ABlk),H2[i]? = some B->∃l,B=.cells false l):∀(i:Nat) (B:ABlk),(H1++H2)[i]? = some B->∃l,B=.cells false l:=by
 intro i B hB;by_cases hi:i<H1.length
 · rw[q4Z hi]at hB
   exact h1 i B hB
 · rw[q5Z (by omega)]at hB
   exact h2 _ B hB
theorem zRp{n:Nat}{t e:TypeId}{a:List CT}{v:Value}{fuel:Nat}{x:DataW H×List MemPlace}(k:Nat)(hu:P.underlying t=some (.slice e))(ha:flat P n e=some a)(hcl:P.cellsOf e=a.length)(h0:0<a.length)
   (hx:DataW.trod enc P w base' (fun _=>true) true fuel t [v]=some x) (hE:∀ad len cap,v=.slice (some ad) len cap->zCy w) :
   ∃(m:Nat) (y:AV) (ys:List AV) (H1:zA) (js:List (Option JB)),(m=0/\y=.nils\/y=.slice k 0 m a.length false)/\m<=maxLen/\zAN (qbZ m a).flatten (k+1) ys H1/\js.length=H1.length+1/\zEk w k (.cells false ys::H1) js /\
     (∀j:Inj,(∀i,i<js.length->j (k+i)=(js[i]?).join)->VR j y v)/\(∀(i:Nat) (B:ABlk),(ABlk.cells false ys::H1)[i]? = some B->∃l,B=.cells false l):=by
 have none_ok:∀(p:Option JB),(∀q,p=some q->∃cs T fz,w.heap[q.blk]? = some (.cells cs T fz)/\cs.size=q.size/\q.base<=q.size)->zEk w k [.cells false []] [p]:=by
   intro p hp j _ i B q hB hq;have hi:i=0:=by
     have:=(q1Z.1 hB).1;simpa using this
   subst hi;cases hB;simp at hq;obtain⟨cs,T,fz,h1,h2,h3⟩:=hp q hq;exact⟨cs,T,fz,h1,h2,by simpa using h3,fun i x hx=>by simp at hx,fun h=>by cases h⟩
 have one_own:∀(i:Nat) (B:ABlk),[ABlk.cells false []][i]? = some B->∃l,B=.cells false l:=by
   intro i B hB;have hi:i=0:=by
     have:=(q1Z.1 hB).1;simpa using this
   subst hi;cases hB;exact⟨[],rfl⟩
 rcases Deep.open_slice hu hx with⟨hv1,_⟩ | ⟨ad,len,cap,m,n',D,Pl,hv1,_,hle,hm,hmm,_,hel2⟩
 · obtain rfl:v=.slice none 0 0:=by simpa using hv1
   refine ⟨0,.nils,[],[],[none],.inl ⟨rfl,rfl⟩,qqZ _,trivial,rfl,none_ok none (fun q h=>by cases h),fun j _=>by simp[VR],one_own⟩
 · obtain rfl:v=.slice (some ad) len cap:=by simpa using hv1
   simp at hmm;subst hmm;by_cases hz:m=0
   · subst hz
     obtain rfl:len=0:=by omega
     obtain⟨q,c,T,fz,hq⟩:=hE ad 0 0 rfl;refine ⟨0,.slice k 0 0 a.length false,[],[],[some ⟨q,0,c.size⟩],.inr rfl,qqZ _,trivial,rfl,none_ok _ (fun q' h=>by cases h;exact⟨c,T,fz,hq,rfl,qqZ _⟩),fun j hj=>?_,one_own⟩;simp only[VR];have:=hj 0 (by simp);exact⟨_,ad,0,by simpa using this,rfl,qnZ _,fun h=>(by cases h),hm,.inl rfl⟩
   · obtain⟨l,hl,hc⟩:=zIJ (w:=w) (el:=a) (a:=ad) m fun i hi=>by
       obtain⟨cs',hcs',ht⟩:=hel2 i hi;have hk:=zCY n e a n' cs' _ ha hcl ht;refine ⟨cs',hk,fun k u hk=>?_⟩;obtain⟨_,hcl',hce⟩:=World.cells?_some hcs';have hkl:k<P.cellsOf e:=by rw[<-hcl'];exact (q1Z.1 hk).1
       have:=hce k hkl;rw[hk]at this;rw[<-hcl];rw[<-this,zFW]
     have hll:l.length=m*a.length:=by rw[<-hl.length,zr]
     have hpos:0<l.length:=by rw[hll];exact Nat.mul_pos (by omega) h0
     have hlast:=hc (l.length-1) l[l.length-1] (by rw[q3Z]);have hfirst:=hc 0 l[0] (by rw[q3Z]);have had:=zHS (w:=w) (x:=ad) (v:=l[0]) (by simpa[Addr.add] using hfirst);obtain⟨B,O,S⟩:=ad;cases had;have hcell:∀(i:Nat) u,w.cell? ⟨B,O+i,none⟩=some u->∃c T fz,w.heap[B]? = some (.cells c T fz)/\c[O+i]? = some u:=by
       intro i u hu;unfold World.cell? at hu;dsimp only at hu;split at hu
       · rename_i c T fz hh
         exact⟨c,T,fz,hh,by simpa using hu⟩
       · cases hu
     obtain⟨c,T,fz,hB,hcl2⟩:=hcell (l.length-1) _ (by rw[<-zAy];exact hlast);have hsz:=(qtZ.1 hcl2).1;have htk:=hl.take (len*a.length);rw[zAz _ _ _ hle]at htk;obtain⟨ys,H1,js,g1,g2,g3,g4,g5⟩:=zDo _ _ (k+1) htk fun v _ ad len cap _=>⟨B,c,T,fz,hB⟩
     have hle2:len*a.length<=m*a.length:=Nat.mul_le_mul_right _ hle;have hlt:(l.take (len*a.length)).length=len*a.length:=by rw[qjZ,hll];omega
     refine ⟨len,.slice k 0 len a.length false,ys,H1,some ⟨B,O,c.size⟩::js,.inr rfl,by omega,g1,by simp[g2],fun j hj i B' q hB' hq=>?_,fun j hj=>?_,fun i B' hB'=>?_⟩
     · have hj2:∀i,i<js.length->j (k+1+i)=(js[i]?).join:=fun i hi=>by
         have:=hj (i+1) (by simp;omega);rw[show k+1+i=k+(i+1) by omega,this];simp
       cases i with
       | zero =>
         simp at hB' hq;subst hB';subst hq
         have hv:=g4 j hj2;have hyl:ys.length=len*a.length:=by rw[hv.length,hlt]
         refine ⟨c,T,fz,hB,rfl,by dsimp only;omega,fun i x hx=>?_,fun h=>by cases h⟩;have hi:i<(l.take (len*a.length)).length:=by rw[hlt,<-hyl];exact (q1Z.1 hx).1
         have hr:=(VRs_iff.1 hv).2 i x _ hx (q3Z hi);obtain⟨u,hu⟩:∃u,(l.take (len*a.length))[i]=u:=⟨_,rfl⟩
         rw[hu]at hr;have hu2:l[i]? = some u:=by
           have:(l.take (len*a.length))[i]? = some u:=by rw[q3Z hi,hu]
           rw[r4Z]at this;split at this
           · exact this
           · cases this
         obtain⟨c',T',fz',hB2,hu'⟩:=hcell i u (by rw[<-zAy];exact hc i u hu2);rw[hB]at hB2;cases hB2;exact⟨u,hu',hr⟩
       | succ i =>
         exact g3 i B' (some q) (by simpa using hB') (by simpa using hq) (by simp) j q rfl
     · simp only[VR]
       have:=hj 0 (by simp);exact⟨_,_,m,by simpa using this,rfl,hle,fun h=>(by cases h),hm,.inr ⟨rfl,by dsimp only;omega⟩⟩
     · cases i with
       | zero=>simp at hB';exact⟨_,hB'.symm⟩
       | succ i=>exact g5 i B' (by simpa using hB')
theorem zPx{t e:TypeId}{v:Value}(hu:P.underlying t=some (.slice e))(hv:Value.okWide P w .any base t v):v.cells=#[v]/\∀a len cap,v=.slice (some a) len cap->zCy w:=by
 have hb:zHe P t=some false:=by unfold zHe;rw[hu]
 obtain⟨_,h2,h3⟩:=zLQ hb hv;refine ⟨h2 rfl,fun a len cap hva=>h3 v (by rw[h2 rfl];simp) a len cap hva⟩
theorem zTZ{k:Nat}{H:zA}{js:List (Option JB)}(h:∀(i:Nat) B p,H[i]? = some B->js[i]? = some p->p≠none->∀j q,p=some q->BRel j w B q):zEk w k H js :=
 fun j _ i B q hB hq=>h i B (some q) hB hq (by simp) j q rfl
theorem zF5:∀(n:Nat) (ts:List TypeId) (ss:List AS) (vs:List Value) (ds:List (DataW H)) (ps:List MemPlace) (k:Nat),zDi P n ts=some ss->DataW.TrodAll enc P w base' (fun _=>true) true ts vs ds ps ->
   (∀(j:Nat) t v,ts[j]? = some t->vs[j]? = some v->Value.okWide P w .any base t v) ->
   ∃(xs:List AV) (H:zA) (js:List (Option JB)),zAD ss k xs H/\js.length=H.length/\zEk w k H js /\
     (∀j:Inj,(∀i,i<js.length->j (k+i)=(js[i]?).join)->VRs j xs vs)/\(∀(i:Nat) (B:ABlk),H[i]? = some B->∃l,B=.cells false l)
 | n,[],ss,vs,ds,ps,k,hs,hA,_=>by
   cases hs;obtain⟨rfl,_,_⟩:=trodAll_nil hA;exact⟨[],[],[],trivial,rfl,fun j _ i B q h=>by simp at h,fun j _=>by simp[VRs],fun i B h=>by simp at h⟩
 | n,t::ts,ss,vs,ds,ps,k,hs,hA,hv=>by
   unfold zDi at hs;obtain⟨v,vs',d,ds',p,q,rfl,_,_,⟨fuel,hT⟩,hA'⟩:=trodAll_cons hA;split at hs
   · rename_i b a hb ha
     split at hs
     · rename_i hcl
       obtain⟨ss',hss,rfl⟩:=qlZ.1 hs;obtain⟨f1,f2,f3⟩:=zLQ hb (hv 0 t v rfl rfl);have hc:=zCY (w:=w) n t a fuel _ _ ha hcl hT;obtain⟨ys,H1,js1,g1,g2,g3,g4,g5⟩:=zDo a _ k hc f3;obtain⟨xs,H2,js2,k1,k2,k3,k4,k5⟩:=zF5 n ts ss' vs' ds' q (k+H1.length) hss hA' fun j t' v' ht hv'=>hv (j+1) t' v' (by simpa using ht) (by simpa using hv');have blk:=zGV g2 (zTZ (k:=k) g3) k3;have own:=zHI g5 k5;have j1:∀j:Inj,(∀i,i<(js1++js2).length->j (k+i)=((js1++js2)[i]?).join)->VRs j ys v.cells.toList/\VRs j xs vs':=by
         intro j hj;refine ⟨g4 j fun i hi=>?_,k4 j fun i hi=>?_⟩
         · rw[hj i (by simp;omega),q4Z hi]
         · rw[show k+H1.length+i=k+(H1.length+i) by omega,hj (H1.length+i) (by simp;omega),q5Z (by omega),g2,s3Z]
       cases b with
       | true =>
         obtain⟨cs,rfl⟩:=f1 rfl;refine ⟨.agg ys::xs,H1++H2,js1++js2,⟨ys,H1,H2,rfl,g1,rfl,k1⟩,by simp[g2,k2],blk,fun j hj=>?_,own⟩;obtain⟨h1,h2⟩:=j1 j hj;exact⟨_,vs',rfl,by simp only[VR];exact⟨cs,rfl,h1⟩,h2⟩
       | false =>
         have e:=f2 rfl;rw[e]at j1 hc;have hy:∃y,ys=[y]:=by
           have h1:=hc.length;simp at h1;cases a with
           | nil=>simp at h1
           | cons c a =>
             cases a with
             | cons _ _=>simp at h1
             | nil =>
               cases c with
               | one p=>cases ys with
                 | nil=>simp[zAN]at g1
                 | cons y ys=>cases ys with
                   | nil=>exact⟨y,rfl⟩
                   | cons _ _=>simp[zAN]at g1
               | row el=>cases ys with
                 | nil=>simp[zAN]at g1
                 | cons y ys=>cases H1 with
                   | nil=>simp[zAN]at g1
                   | cons B H1=>cases ys with
                     | nil=>exact⟨y,rfl⟩
                     | cons _ _=>simp[zAN]at g1
         obtain⟨y,rfl⟩:=hy;refine ⟨y::xs,H1++H2,js1++js2,⟨H1,H2,g1,rfl,k1⟩,by simp[g2,k2],blk,fun j hj=>?_,own⟩;obtain⟨h1,h2⟩:=j1 j hj;simp[VRs]at h1;exact⟨v,vs',rfl,h1,h2⟩
     · cases hs
   · split at hs
     rotate_left
     · cases hs
     rename_i e hu;split at hs;rotate_left
     · cases hs
     rename_i a ha;split at hs;rotate_left
     · cases hs
     rename_i hcl;obtain⟨ss',hss,rfl⟩:=qlZ.1 hs;obtain⟨f2,f3⟩:=zPx hu (hv 0 t v rfl rfl);rw[f2]at hT;obtain⟨m,y,ys,H1,js1,g0,gm,g1,g2,g3,g4,g5⟩:=zRp (w:=w) k hu ha hcl.1 hcl.2 hT f3;obtain⟨xs,H2,js2,k1,k2,k3,k4,k5⟩:=zF5 n ts ss' vs' ds' q (k+1+H1.length) hss hA' fun j t' v' ht hv'=>hv (j+1) t' v' (by simpa using ht) (by simpa using hv');have g2':js1.length=(ABlk.cells false ys::H1).length:=by rw[g2];rfl
     have hlen:k+(ABlk.cells false ys::H1).length=k+1+H1.length:=by simp;omega
     have blk:=zGV g2' g3 (by rw[hlen];exact k3);have own:=zHI g5 k5;refine ⟨y::xs,(.cells false ys::H1)++H2,js1++js2,⟨m,ys,H1,H2,g0,gm,g1,rfl,k1⟩,by simp[g2,k2];omega,blk,fun j hj=>?_,own⟩;refine ⟨v,vs',rfl,g4 j fun i hi=>?_,k4 j fun i hi=>?_⟩
     · rw[hj i (by simp;omega),q4Z hi]
     · rw[show k+1+H1.length+i=k+(js1.length+i) by omega,hj (js1.length+i) (by simp;omega),q5Z (by omega),s3Z]
   · cases hs
end
end
theorem zJ1{ts:List CT}{ss:List AS}{k:Nat}{xs:List AV}{H:zA}(h:zAD (.flat true ts::ss) k xs H):∃ys xs' H1 H2,xs=.agg ys::xs'/\zAN ts k ys H1/\H=H1++H2/\zAD ss (k+H1.length) xs' H2:=by
 cases xs with
 | nil=>exact h.elim
 | cons x xs =>
   obtain⟨ys,H1,H2,rfl,h1,h2,h3⟩:=h;exact⟨ys,xs,H1,H2,rfl,h1,h2,h3⟩
theorem zFO{p:Prim}{ss:List AS}{k:Nat}{xs:List AV}{H:zA}(h:zAD (.flat false [.one p]::ss) k xs H):∃x ys,xs=x::ys/\zEG p x/\zAD ss k ys H:=by
 cases xs with
 | nil=>exact h.elim
 | cons x ys =>
   obtain⟨H1,H2,h1,rfl,h2⟩:=h;simp only[zAN]at h1;obtain⟨h3,h4⟩:=h1;cases H1 with
   | nil=>exact⟨x,ys,rfl,h3,h2⟩
   | cons _ _=>exact h4.elim
theorem zKq{k:Nat}{xs:List AV}{H:zA}(h:zAD [] k xs H):xs=[]/\H=[]:=by
 cases xs <;> cases H <;> first | exact wR | exact h.elim
theorem zTy{P:Program}{f:FuncId}{args args0:List AV}{H H0 H':zA}{v:AV}(hw:Weak H.length args H args0 H0)(h:Ct P f args0 H0 v H'):Ct P f args H v H':=by
 intro j w cargs hR hargs;obtain⟨j',hs,hF'⟩:=hw.step (qnZ _) (Step.refl hR (qnZ _)) hargs;refine (h j' w cargs hs.rel hF').mono ?_;rintro e w' ⟨cv,j2,rfl,h1,h2⟩;exact⟨cv,j2,rfl,h1,hs.trans h2 hs.len⟩
section
open Go
attribute [-simp] zG zT zc zJ zn
theorem zFH{el:List Prim}{ts:List CT}{k:Nat}{xs:List AV}{H:zA}(h:zAN (.row el::ts) k xs H) :
   ∃x ys l n H2,xs=x::ys/\H=.cells false l::H2/\(n=0/\x=.nils\/x=.slice k 0 n el.length false)/\n<=maxLen/\All2 zEG (qbZ n el).flatten l/\zAN ts (k+1) ys H2:=by
 cases xs with
 | nil=>exact h.elim
 | cons x ys =>
   cases H with
   | nil=>exact h.elim
   | cons B H1 =>
     simp only[zAN]at h;obtain⟨⟨l,n,rfl,h3,h4,h5⟩,h6⟩:=h;exact⟨x,ys,l,n,H1,rfl,rfl,h3,h4,h5,h6⟩
theorem zI5:∀{n:Nat} {l:List AV},All2 zEG (qbZ n [Prim.int .u8]).flatten l->∃ls:List Nat,l=ls.map aB/\ls.length=n/\∀c∈ls,c<256
 | 0,[],_=>⟨[],rfl,rfl,by simp⟩
 | n+1,x::l,h=>by
   rw[rvZ,rcZ]at h;obtain⟨a,rfl,ha⟩:=h.1;obtain⟨ls,rfl,hl,h2⟩:=zI5 (n:=n) (l:=l) h.2;have hb:=bounds_u8 ha;refine ⟨a.toNat::ls,by simp[aB];omega,by simp[hl],fun c hc=>?_⟩;rcases qwZ.1 hc with rfl | hc
   · omega
   · exact h2 c hc
 | 0,_::_,h=>h.elim
 | n+1,[],h=>by
   rw[rvZ,rcZ]at h;exact h.elim
end
section
open Go.ChangeShapes Go.WideShapes Go.ChangeAt Go.RowKit
section
variable {H:Type} {enc:TypeId×Value->H} {P:Program} {w:World} {base base':Nat}
theorem zH6{sp:Nat->Bool}{held:Bool}:∀{ts:List TypeId} {vs:List Value} {ds:List (DataW H)} {ps:List MemPlace} {j:Nat} {t:TypeId} {v:Value},DataW.TrodAll enc P w base' sp held ts vs ds ps->ts[j]? = some t->vs[j]? = some v ->
   ∃d p,ds[j]? = some d/\DataW.Trod enc P w base' sp held t v d p
 | t0::ts,v0::vs,d0::ds,ps,0,t,v,h,ht,hv=>by
   obtain⟨p,q,h1,h2,rfl⟩:=h;cases ht;cases hv
   exact⟨d0,p,rfl,h1⟩
 | t0::ts,v0::vs,d0::ds,ps,j+1,t,v,h,ht,hv=>by
   obtain⟨p,q,h1,h2,rfl⟩:=h;exact zH6 (j:=j) h2 (by simpa using ht) (by simpa using hv)
 | [],_,_,_,_,_,_,_,ht,_=>by simp at ht
 | _::_,[],_,_,_,_,_,_,_,hv=>by simp at hv
 | _::_,_::_,[],_,_,_,_,h,_,_=>h.elim
theorem zOd{f:FuncId}{n:Nat}{ts vts:List TypeId}{ss:List AS}{args:Array Value}{ds gs:List (DataW H)}{ps:List MemPlace}(j:Nat){t:TypeId}(hs:zDi P n ts=some ss)
   (hA:DataW.TrodAll enc P w base' (fun _=>true) true ts args.toList ds ps) (hv:∀(j:Nat) t v,ts[j]? = some t->args[j]? = some v->Value.okWide P w .any base t v)
   (hz:(DataW.weightsEach P (ts++vts) (ds++gs)).all (·<=reachBytes)=true) (ht:ts[j]? = some t) (hu:P.underlying t=some .string)
   (h:∀xs H,zAD ss 0 xs H->(∀s,xs[j]? = some (.str s)->s.length<=140737488351232)->∃H',Ct P f xs H (.bool true) H') (hg:GloW w:=by exact gloW_none _) :
   Calls P f args w fun e w'=>e=.returned (.bool true)/\Below w.heap.size w w':=by
 obtain⟨xs,H,js,h1,h2,h3,h4,h5⟩:=zF5 (base:=base) n ts ss args.toList ds ps 0 hs hA fun j t v ht hv'=>hv j t v ht (by simpa using hv')
 let j0:Inj:=⟨fun i=>(js[i]?).join,fun _=>[],fun _=>[]⟩
 have hj0:∀i,j0 i=(js[i]?).join:=fun _=>rfl;have hV:VRs j0 xs args.toList:=h4 _ fun i hi=>by rw[s8Z,hj0]
 have hx:∀s,xs[j]? = some (.str s)->s.length<=140737488351232:=by
   intro s hsx;obtain⟨v,hv1,hv2⟩:=hV.at hsx;simp only[VR]at hv2;subst hv2;obtain⟨d,p,hd,hT⟩:=zH6 hA ht hv1;obtain⟨s',e1,e2,_,_⟩:=Go.ChangeMaps.open_string hu (hv j t _ ht (by simpa using hv1)) hT;cases e1;subst e2;have hjt:j<ts.length:=(q1Z.1 ht).1;have hjd:j<ds.length:=(q1Z.1 hd).1;have:=sized_string hz (j:=j) (by rw[q4Z hjt];exact ht) (by rw[q4Z hjd];exact hd);unfold reachBytes at this;simpa using this
 obtain⟨H',hct⟩:=h xs H h1 hx;have hro:H.all zGd=true:=by
   rw[s5Z];intro y hy;obtain⟨b,hb⟩:=List.getElem?_of_mem hy;obtain⟨l,rfl⟩:=h5 b y hb;rfl
 have hR:R j0 H w:=by
   refine R.ro (fun b hb=>?_) (fun b x p hb hp=>?_) hro hg
   · rw[hj0,s4Z (by omega)];rfl
   · obtain⟨q,hq,e⟩:=Option.join_eq_some_iff.1 hp |> fun h=>(⟨some p,h,rfl⟩:∃q,js[b]? = some q/\q=some p)
     exact h3 j0 (fun i hi=>by rw[s8Z,hj0]) b x p hb (by rw[hq,e])
 refine (hct _ w args hR hV).mono ?_;rintro e w' ⟨cv,j',rfl,hv1,hst⟩;simp only[VR]at hv1;subst hv1;refine ⟨rfl,hst.keeps.os,hst.keeps.tape,hst.keeps.output,hst.keeps.size,fun c hc=>hst.keeps.block c hc fun ⟨b,y,p,hb,hy,hp,_⟩=>?_⟩;obtain⟨l,rfl⟩:=h5 b y hb;cases hy
end
end
end Go.Proofs.YtfhidaoiofeooaaGreatDoor
