/- Parts of the proof of DiskTells: lemmas, each with its own conditions. -/
import Derived.ProofKit
import Derived.OpenShut
import Derived.ShutString
import Derived.ChangeOld
import Derived.Deep.Slices
import Derived.Test.YtfhidaoiofeooaaGreatRows
import Derived.Test.YtfhidaoiofeooaaGreatY5
import Derived.Test.YtfhidaoiofeooaaGreatY6
set_option maxHeartbeats 64000000
open List renaming getElem?_eq_some_iff → q1Z, getD_eq_getElem?_getD → q2Z, getElem?_eq_getElem → q3Z, getElem?_append_left → q4Z, getElem?_append_right → q5Z, take_of_length_le → q6Z, length_cons → q7Z, length_nil → q8Z, cons_append → q9Z, nil_append → qaZ, replicate → qbZ, length_append → qdZ, mem_cons_self → qhZ, mem_cons_of_mem → qiZ, length_take → qjZ, mem_cons → qwZ, mem_append → qxZ, getElem?_map → qzZ, mem_singleton → r1Z, append_nil → r2Z, getElem?_take → r4Z, take_append_drop → r6Z, getElem?_cons_succ → r9Z, getElem?_cons_zero → raZ, flatten_cons → rcZ, nodup_cons → rdZ, not_mem_nil → rtZ, replicate_succ → rvZ, map_cons → s1Z, set_cons_zero → s9Z, set_cons_succ → saZ, flatten_append → sgZ
open Option renaming map_eq_some_iff → qlZ
open Nat renaming zero_le → qqZ, lt_or_ge → s2Z, zero_add → s8Z, min_eq_left → sfZ
open Bool renaming and_eq_true → qrZ
open Array renaming getElem?_eq_some_iff → qtZ, length_toList → rjZ
namespace Go.Proofs.YtfhidaoiofeooaaGreat
open _root_.Go.Proofs.Tryz renaming prog → Pz
set_option maxRecDepth 100000
section
open Go.ChangeShapes Go.WideShapes Go.ChangeAt Go.RowKit
theorem own:ownKnob Tryz.prog.godebug=none:=by kernel_rfl
theorem zVM:laidOutB Pz=true:=by kernel_rfl
theorem zJZ{w:World}{x:Addr}{v:Value}(h:w.cell? x=some v):x=⟨x.block,x.off,none⟩:=by
 cases x with
 | mk b o s =>
   cases s with
   | none=>rfl
   | some s =>
     unfold World.cell? at h;dsimp only at h
     split at h <;> simp at h
end
section
open Go.ChangeShapes Go.WideShapes Go.ChangeAt Go.RowKit
inductive Prim where
 | int (k:IntKind)
 | str
 | bool
 deriving DecidableEq
inductive CT where
 | one (p:Prim)
 | row (el:List Prim)
 deriving DecidableEq
def zOI:List CT->Option (List Prim)
 | []=>some []
 | .one p::ts=>(zOI ts).map (p::·)
 | _=>none
def fieldsOf(P:Program)(g:TypeId->Option (List CT)):Nat->List Field->Option (List CT)
 | _,[]=>some []
 | off,f::fs=>match g f.type with
   | some a=>if f.offset=off/\P.cellsOf f.type=a.length then (fieldsOf P g (off+a.length) fs).map (a++·) else none
   | none=>none
def flat(P:Program):Nat->TypeId->Option (List CT)
 | 0,_=>none
 | n+1,t=>match P.underlying t with
   | some .bool=>some [.one .bool]
   | some (.int k)=>some [.one (.int k)]
   | some .string=>some [.one .str]
   | some (.slice e)=>match flat P n e with
     | some a=>if P.cellsOf e=a.length/\0<a.length then (zOI a).map fun el=>[.row el] else none
     | none=>none
   | some (.struct fs)=>fieldsOf P (flat P n) 0 fs.toList
   | some (.array m e)=>match flat P n e with
     | some a=>if P.cellsOf e=a.length then some (qbZ m a).flatten else none
     | none=>none
   | _=>none
def zFl:Prim->Value->Prop
 | .int k,v=>∃n,v=.int k n/\(Lit.int k n).wf=true
 | .str,v=>∃s:ByteArray,v=.string s/\s.size<=maxLen
 | .bool,v=>∃b,v=.bool b
def All2{α β:Type}(R:α->β->Prop):List α->List β->Prop
 | [],[]=>True
 | x::xs,y::ys=>R x y/\All2 R xs ys
 | _,_=>False
def zDY(w:World):CT->Value->Prop
 | .one p,v=>zFl p v
 | .row el,v=>v=.slice none 0 0\/∃a len cap l,v=.slice (some a) len cap/\len<=cap/\cap<=maxLen/\0<el.length/\All2 zFl (qbZ cap el).flatten l/\∀i u,l[i]? = some u->w.cell? (a.add i)=some u
section
variable {α β:Type} {R:α->β->Prop}
theorem All2.length:∀{xs:List α} {ys:List β},All2 R xs ys->xs.length=ys.length
 | [],[],_=>rfl
 | x::xs,y::ys,h=>by simp[All2.length h.2]
 | [],_::_,h=>h.elim
 | _::_,[],h=>h.elim
theorem All2.append:∀{xs xs':List α} {ys ys':List β},All2 R xs ys->All2 R xs' ys'->All2 R (xs++xs') (ys++ys')
 | [],_,[],_,_,h=>h
 | _x::_xs,_,_y::_ys,_,h,h'=>⟨h.1,h.2.append h'⟩
 | [],_,_::_,_,h,_=>h.elim
 | _::_,_,[],_,h,_=>h.elim
theorem All2.get:∀{xs:List α} {ys:List β},All2 R xs ys->∀(i:Nat) x y,xs[i]? = some x->ys[i]? = some y->R x y
 | [],[],_,i,x,y,hx,_=>by simp at hx
 | a::xs,b::ys,h,0,x,y,hx,hy=>by simp at hx hy;subst hx;subst hy;exact h.1
 | a::xs,b::ys,h,i+1,x,y,hx,hy=>h.2.get i x y (by simpa using hx) (by simpa using hy)
 | [],_::_,h,_,_,_,_,_=>h.elim
 | _::_,[],h,_,_,_,_,_=>h.elim
theorem All2.of_get:∀{xs:List α} {ys:List β},xs.length=ys.length->(∀(i:Nat) x y,xs[i]? = some x->ys[i]? = some y->R x y)->All2 R xs ys
 | [],[],_,_=>trivial
 | x::xs,y::ys,hl,h=>⟨h 0 x y rfl rfl,All2.of_get (by simpa using hl) fun i a b ha hb=>h (i+1) a b (by simpa using ha) (by simpa using hb)⟩
 | [],_::_,hl,_=>by simp at hl
 | _::_,[],hl,_=>by simp at hl
theorem All2.take{xs:List α}{ys:List β}(h:All2 R xs ys)(n:Nat):All2 R (xs.take n) (ys.take n):=by
 refine All2.of_get (by simp[h.length]) fun i x y hx hy=>?_
 rw[r4Z]at hx hy;split at hx
 · rw[if_pos ‹_›]at hy
   exact h.get i x y hx hy
 · cases hx
end
theorem zw{α:Type}(n:Nat)(el:List α):(qbZ n el).flatten.length=n*el.length:=by
 simp
theorem zBI{α:Type}(n m:Nat)(el:List α)(h:n<=m):(qbZ m el).flatten.take (n*el.length)=(qbZ n el).flatten:=by
 obtain⟨k,rfl⟩:=Nat.exists_eq_add_of_le h
 rw[<-List.replicate_append_replicate,sgZ,List.take_append_of_le_length (by simp),q6Z (by simp)]
theorem zKe:∀{ts:List CT} {el:List Prim},zOI ts=some el->ts=el.map .one
 | [],el,h=>by cases h;rfl
 | .row _::ts,el,h=>by cases h
 | .one p::ts,el,h=>by
   obtain⟨l,hl,rfl⟩:=qlZ.1 h;rw[zKe hl];rfl
theorem zQd{w:World}:∀{el:List Prim} {cs:List Value},All2 (zDY w) (el.map .one) cs->All2 zFl el cs
 | [],[],_=>trivial
 | _p::_el,_c::_cs,h=>⟨h.1,zQd h.2⟩
 | [],_::_,h=>h.elim
 | _::_,[],h=>h.elim
variable {H:Type} {enc:TypeId×Value->H} {P:Program} {w:World} {base:Nat} {held:Bool}
theorem zC7{α:Type}(l:List α)(a b:Nat):(l.drop a).take b++(l.drop (a+b))=l.drop a:=by
 rw[<-List.drop_drop,r6Z]
theorem zF7(a:Addr)(x y:Nat):(a.add x).add y=a.add (x+y):=by
 unfold Addr.add;by_cases hx:x=0
 · subst hx
   simp
 · by_cases hy:y=0
   · subst hy
     simp
   · rw[if_neg hx,if_neg hy,if_neg (by omega)]
     simp[Nat.add_assoc]
theorem zJ1{el:List Prim}{a:Addr}:∀(m:Nat),(∀i,i<m->∃cs:List Value,All2 zFl el cs/\∀k u,cs[k]? = some u->w.cell? (a.add (i*el.length+k))=some u) ->
   ∃l,All2 zFl (qbZ m el).flatten l/\∀i u,l[i]? = some u->w.cell? (a.add i)=some u
 | 0,_=>⟨[],trivial,fun i u h=>by simp at h⟩
 | m+1,h=>by
   obtain⟨l,h1,h2⟩:=zJ1 m fun i hi=>h i (by omega)
   obtain⟨cs,g1,g2⟩:=h m (by omega)
   have hl:l.length=m*el.length:=by rw[<-h1.length,zw]
   refine ⟨l++cs,?_,fun i u hi=>?_⟩
   · rw[List.replicate_succ',sgZ]
     simp only[rcZ,List.flatten_nil,r2Z];exact h1.append g1
   · by_cases hlt:i<l.length
     · rw[q4Z hlt]at hi
       exact h2 i u hi
     · rw[q5Z (by omega)]at hi
       have:=g2 _ u hi
       rw[show m*el.length+(i-l.length)=i by omega]at this
       exact this
theorem zKd{g:TypeId->Option (List CT)}{cs:List Value}:∀(fs:List Field) (off:Nat) (ts:List CT),fieldsOf P g off fs=some ts->cs.length=off+ts.length ->
   (∀f∈fs,∀a,g f.type=some a->All2 (zDY w) a ((cs.drop f.offset).take (P.cellsOf f.type)))->All2 (zDY w) ts (cs.drop off)
 | [],off,ts,h,hl,_=>by
   cases h
   rw[List.drop_of_length_le (by simp at hl;omega)]
   trivial
 | f::fs,off,ts,h,hl,hg=>by
   unfold fieldsOf at h;split at h
   · rename_i a ha
     split at h
     · rename_i hc
       obtain⟨r,hr,rfl⟩:=qlZ.1 h;have h1:=hg f (qhZ ..) a ha;rw[hc.1,hc.2]at h1;rw[<-zC7 cs off a.length]
       exact h1.append (zKd fs _ r hr (by simp at hl;omega) fun f' hf'=>hg f' (qiZ _ hf'))
     · cases h
   · cases h
theorem zN6{a:List CT}{cs:List Value}:∀(m off:Nat),cs.length=off+m*a.length->(∀i,i<m->All2 (zDY w) a ((cs.drop (off+i*a.length)).take a.length))->All2 (zDY w) (qbZ m a).flatten (cs.drop off)
 | 0,off,hl,_=>by
   rw[List.drop_of_length_le (by simp at hl;omega)]
   trivial
 | m+1,off,hl,h=>by
   rw[rvZ,rcZ,<-zC7 cs off a.length]
   have h0:=h 0 (by omega)
   rw[Nat.zero_mul,Nat.add_zero]at h0
   refine h0.append (zN6 m _ (by rw[hl,Nat.succ_mul];omega) fun i hi=>?_)
   have:=h (i+1) (by omega)
   rw[Nat.succ_mul]at this
   rw[show off+a.length+i*a.length=off+(i*a.length+a.length) by omega]
   exact this
theorem zC3:∀(n:Nat) (t:TypeId) (ts:List CT) (fuel:Nat) (cs:List Value) (x:DataW H×List MemPlace),flat P n t=some ts->P.cellsOf t=ts.length->DataW.trod enc P w base (fun _=>true) held fuel t cs=some x->All2 (zDY w) ts cs
 | 0,_,_,_,_,_,h,_,_=>by cases h
 | n+1,t,ts,fuel,cs,x,h,hcl,hx=>by
   unfold flat at h;split at h
   · rename_i hu
     cases h;obtain⟨b,rfl,_⟩:=DataW.trod_bool hu hx;exact⟨⟨b,rfl⟩,trivial⟩
   · rename_i k hu
     cases h;obtain⟨m,rfl,_,hw⟩:=DataW.trod_int hu hx;exact⟨⟨m,rfl,hw⟩,trivial⟩
   · rename_i hu
     cases h;obtain⟨s,rfl,_,hw⟩:=DataW.trod_string hu hx;exact⟨⟨s,rfl,hw⟩,trivial⟩
   · rename_i e hu
     split at h
     · rename_i a ha
       split at h
       · rename_i hc
         obtain⟨el,hel,rfl⟩:=qlZ.1 h;have hae:=zKe hel
         have hal:a.length=el.length:=by rw[hae];simp
         rcases Deep.open_slice hu hx with⟨rfl,_⟩ | ⟨ad,len,cap,m,n',D,Pl,rfl,_,hle,hm,hmm,_,hel2⟩
         · exact⟨.inl rfl,trivial⟩
         · simp at hmm
           subst hmm
           obtain⟨l,h1,h2⟩:=zJ1 (w:=w) (el:=el) (a:=ad) m fun i hi=>by
             obtain⟨cs',hcs',ht⟩:=hel2 i hi;have hk:=zC3 n e a n' cs' _ ha hc.1 ht;rw[hae]at hk
             refine ⟨cs',zQd hk,fun k u hk=>?_⟩
             obtain⟨_,hcl',hce⟩:=World.cells?_some hcs'
             have hkl:k<P.cellsOf e:=by rw[<-hcl'];exact (q1Z.1 hk).1
             have:=hce k hkl;rw[hk]at this;rw[<-hal,<-hc.1];rw[<-this,zF7]
           exact⟨.inr ⟨ad,len,m,l,rfl,hle,hm,by omega,h1,h2⟩,trivial⟩
       · cases h
     · cases h
   · rename_i fs hu
     obtain⟨xs,m,_,_,hl,hxl,hf⟩:=DataW.trod_struct hu hx
     have:=zKd (w:=w) (cs:=cs) fs.toList 0 ts h (by omega) fun f hf' a ha=>?_
     · simpa using this
     · obtain⟨i,hi⟩:=List.getElem?_of_mem hf'
       have hi':fs[i]? = some f:=by simpa using hi
       have h1:=hf i f hi'
       have hilt:i<xs.length:=by rw[hxl];exact (qtZ.1 hi').1
       rw[q3Z hilt]at h1;refine zC3 n f.type a m _ _ ha ?_ h1
       have:∀(fs:List Field) (off:Nat) (ts:List CT),fieldsOf P (flat P n) off fs=some ts->∀f∈fs,∀a,flat P n f.type=some a->P.cellsOf f.type=a.length:=by
         intro fs
         induction fs with
         | nil=>intro off ts h f hf;cases hf
         | cons f0 fs ih =>
           intro off ts h f hf a ha;unfold fieldsOf at h;split at h
           · rename_i a0 ha0
             split at h
             · rename_i hc
               obtain⟨r,hr,_⟩:=qlZ.1 h;rcases qwZ.1 hf with rfl | hf
               · rw[ha0]at ha;cases ha;exact hc.2
               · exact ih _ _ hr f hf a ha
             · cases h
           · cases h
       exact this _ _ _ h f hf' a ha
   · rename_i m e hu
     split at h
     · rename_i a ha
       split at h
       · rename_i hc
         cases h;obtain⟨xs,k,_,_,hl,hxl,hf⟩:=DataW.trod_array hu hx
         have:=zN6 (w:=w) (a:=a) (cs:=cs) m 0 (by rw[hl,hcl,zw];omega) fun i hi=>?_
         · simpa using this
         · have h1:=hf i hi
           rw[q3Z (by omega)]at h1
           rw[hc]at h1;rw[s8Z];exact zC3 n e a k _ _ ha hc h1
       · cases h
     · cases h
   · cases h
end
section
open Go.ChangeShapes Go.WideShapes Go.ChangeAt Go.RowKit
def zER:Prim->AV->Prop
 | .int k,x=>∃n,x=.int k n/\(Lit.int k n).wf=true
 | .str,x=>∃s,x=.str s/\s.length<=maxLen
 | .bool,x=>∃b,x=.bool b
def zAK:List CT->Nat->List AV->zA->Prop
 | [],_,[],[]=>True
 | .one p::ts,k,x::xs,H=>zER p x/\zAK ts k xs H
 | .row el::ts,k,x::xs,B::H=>(∃l n,B=.cells false l/\(n=0/\x=.nils\/x=.slice k 0 n el.length false)/\n<=maxLen/\All2 zER (qbZ n el).flatten l)/\zAK ts (k+1) xs H
 | _,_,_,_=>False
theorem zSV{p:Prim}{v:Value}(h:zFl p v):∃x,zER p x/\free x=true/\∀j,VR j x v:=by
 cases p with
 | int k=>obtain⟨n,rfl,hw⟩:=h;exact⟨.int k n,⟨n,rfl,hw⟩,rfl,fun j=>by simp[VR]⟩
 | str=>obtain⟨s,rfl,hw⟩:=h;exact⟨.str s.data.toList,⟨_,rfl,by rw[rjZ];exact hw⟩,rfl,fun j=>by simp[VR]⟩
 | bool=>obtain⟨b,rfl⟩:=h;exact⟨.bool b,⟨b,rfl⟩,rfl,fun j=>by simp[VR]⟩
theorem zQy:∀{ps:List Prim} {vs:List Value},All2 zFl ps vs->∃xs,All2 zER ps xs/\xs.length=vs.length/\∀(i:Nat) x,xs[i]? = some x->∃v,vs[i]? = some v/\∀j,VR j x v
 | [],[],_=>⟨[],trivial,rfl,fun i x h=>by simp at h⟩
 | p::ps,v::vs,h=>by
   obtain⟨x,h1,_,h2⟩:=zSV h.1;obtain⟨xs,g1,g2,g3⟩:=zQy h.2
   refine ⟨x::xs,⟨h1,g1⟩,by simp[g2],fun i y hy=>?_⟩
   cases i with
   | zero=>simp at hy;subst hy;exact⟨v,rfl,h2⟩
   | succ i=>exact g3 i y (by simpa using hy)
 | [],_::_,h=>h.elim
 | _::_,[],h=>h.elim
theorem zBC(B O i:Nat):(⟨B,O,none⟩:Addr).add i=⟨B,O+i,none⟩:=by
 unfold Addr.add;split
 · rename_i h;subst h;rfl
 · rfl
def zDv(w:World):Prop:=∃(q:Nat) (cs:Array Value) (T:TypeId) (fz:Nat×Nat),w.heap[q]? = some (Obj.cells cs T fz)
theorem zEt{w:World}:∀(ts:List CT) (cs:List Value) (k:Nat),All2 (zDY w) ts cs->(∀v∈cs,∀a len cap,v=.slice (some a) len cap->zDv w) ->
   ∃(xs:List AV) (H:zA) (js:List (Option JB)),zAK ts k xs H/\js.length=H.length/\(∀(i:Nat) B p,H[i]? = some B->js[i]? = some p->p≠none->∀j q,p=some q->BRel j w B q) /\
     (∀j:Inj,(∀i,i<js.length->j (k+i)=(js[i]?).join)->VRs j xs cs)/\(∀(i:Nat) (B:ABlk),H[i]? = some B->∃l,B=.cells false l)
 | [],[],k,_,_=>⟨[],[],[],trivial,rfl,fun i B p h=>by simp at h,fun j _=>by simp[VRs],fun i B h=>by simp at h⟩
 | .one p::ts,v::cs,k,h,hE=>by
   obtain⟨x,h1,_,h2⟩:=zSV h.1
   obtain⟨xs,H,js,g1,g2,g3,g4,g5⟩:=zEt ts cs k h.2 fun v hv=>hE v (qiZ _ hv)
   exact⟨x::xs,H,js,⟨h1,g1⟩,g2,g3,fun j hj=>⟨v,cs,rfl,h2 j,g4 j hj⟩,g5⟩
 | .row el::ts,v::cs,k,h,hE=>by
   obtain⟨xs,H,js,g1,g2,g3,g4,g5⟩:=zEt ts cs (k+1) h.2 fun v hv=>hE v (qiZ _ hv)
   have key:∃(x:AV) (l:List AV) (n:Nat) (p:Option JB),(n=0/\x=.nils\/x=.slice k 0 n el.length false)/\n<=maxLen/\All2 zER (qbZ n el).flatten l/\(∀j q,p=some q->BRel j w (.cells false l) q)/\∀j:Inj,j k=p->VR j x v:=by
     rcases h.1 with rfl | ⟨a,len,cap,l,rfl,hle,hm,h0,hl,hc⟩
     · exact⟨.nils,[],0,none,.inl ⟨rfl,rfl⟩,by simp,by simp[All2],fun j q h=>(by cases h),fun j _=>by simp[VR]⟩
     · by_cases hz:cap=0
       · subst hz
         obtain rfl:len=0:=by omega
         obtain⟨q,c,T,fz,hq⟩:=hE _ (qhZ ..) a 0 0 rfl
         refine ⟨.slice k 0 0 el.length false,[],0,some ⟨q,0,c.size⟩,.inr rfl,by simp,by simp[All2],fun j q' h=>?_,fun j hj=>?_⟩
         · cases h
           exact⟨c,T,fz,hq,rfl,by simp,fun i x hx=>by simp at hx,fun h=>by cases h⟩
         · simp only[VR]
           exact⟨_,a,0,hj,rfl,by omega,fun h=>(by cases h),by simp,.inl rfl⟩
       · have hll:l.length=cap*el.length:=by rw[<-hl.length,zw]
         have hpos:0<l.length:=by rw[hll];exact Nat.mul_pos (by omega) h0
         obtain⟨xs',p1,p2,p3⟩:=zQy (hl.take (len*el.length));rw[zBI _ _ _ hle]at p1
         have hlast:=hc (l.length-1) l[l.length-1] (by rw[q3Z])
         have hfirst:=hc 0 l[0] (by rw[q3Z])
         have ha:=zJZ (w:=w) (x:=a) (v:=l[0]) (by simpa[Addr.add] using hfirst)
         obtain⟨B,O,S⟩:=a;cases ha
         have hcell:∀(i:Nat) u,w.cell? ⟨B,O+i,none⟩=some u->∃c T fz,w.heap[B]? = some (.cells c T fz)/\c[O+i]? = some u:=by
           intro i u hu;unfold World.cell? at hu;dsimp only at hu;split at hu
           · rename_i c T fz hh
             exact⟨c,T,fz,hh,by simpa using hu⟩
           · cases hu
         obtain⟨c,T,fz,hB,hcl⟩:=hcell (l.length-1) _ (by rw[<-zBC];exact hlast)
         have hsz:=(qtZ.1 hcl).1
         have hxl:xs'.length=len*el.length:=by rw[p2,qjZ,hll];exact sfZ (Nat.mul_le_mul_right _ hle)
         have hle2:len*el.length<=cap*el.length:=Nat.mul_le_mul_right _ hle
         refine ⟨.slice k 0 len el.length false,xs',len,some ⟨B,O,c.size⟩,.inr rfl,by omega,p1,fun j q' h=>?_,fun j hj=>?_⟩
         · cases h
           refine ⟨c,T,fz,hB,rfl,by dsimp only;omega,fun i x hx=>?_,fun h=>by cases h⟩
           obtain⟨u,hu,hv⟩:=p3 i x hx;rw[r4Z]at hu;split at hu
           · obtain⟨c',T',fz',hB',hu'⟩:=hcell i u (by rw[<-zBC];exact hc i u hu)
             rw[hB]at hB';cases hB';exact⟨u,hu',hv j⟩
           · cases hu
         · simp only[VR]
           exact⟨_,_,cap,hj,rfl,hle,fun h=>(by cases h),hm,.inr ⟨rfl,by dsimp only;omega⟩⟩
   obtain⟨x,l,n,p,k1,k2,k3,k4,k5⟩:=key
   refine ⟨x::xs,.cells false l::H,p::js,⟨⟨l,n,rfl,k1,k2,k3⟩,g1⟩,by simp[g2],fun i B p' hB hp hne j q hq=>?_,fun j hj=>?_,fun i B hB=>?_⟩
   · cases i with
     | zero=>simp at hB hp;subst hB;subst hp;exact k4 j q hq
     | succ i=>exact g3 i B p' (by simpa using hB) (by simpa using hp) hne j q hq
   · refine ⟨v,cs,rfl,k5 j (by simpa using hj 0 (by simp)),g4 j fun i hi=>?_⟩
     have:=hj (i+1) (by simp;omega)
     rw[show k+1+i=k+(i+1) by omega,this]
     simp
   · cases i with
     | zero=>simp at hB;exact⟨l,hB.symm⟩
     | succ i=>exact g5 i B (by simpa using hB)
 | [],_::_,_,h,_=>h.elim
 | .one _::_,[],_,h,_=>h.elim
 | .row _::_,[],_,h,_=>h.elim
end
section
open Go.ChangeShapes Go.WideShapes Go.ChangeAt Go.RowKit
def zJJ(P:Program)(t:TypeId):Option Bool :=
 match P.underlying t with
 | some (.struct _)=>some true
 | some (.array _ _)=>some true
 | some .bool=>some false
 | some (.int _)=>some false
 | some .string=>some false
 | some (.slice _)=>some false
 | _=>none
section
variable {H:Type} {enc:TypeId×Value->H} {P:Program} {w:World} {base base':Nat}
theorem zGO{u:TypeId}{a:Addr}{len cap:Nat}(h:Cell.okWide P w .any base u (.slice (some a) len cap)):zDv w:=by
 unfold Cell.okWide at h;split at h
 all_goals first
   | (rename_i hv;cases hv)
   | skip
 all_goals try (exfalso;rename_i hv _;cases hv)
 unfold Cell.ok at h;split at h
 all_goals try (exact h.elim)
 all_goals try (rename_i hv;cases hv)
 obtain⟨_,_,_,_,row,cells,hs,_⟩:=h;unfold World.shape? at hs;split at hs
 · rename_i c T fz hh
   exact⟨_,c,T,fz,hh⟩
 · cases hs
theorem zNR{t:TypeId}{b:Bool}{v:Value}(hb:zJJ P t=some b)(hv:Value.okWide P w .any base t v) :
   (b=true->∃cs,v=.agg cs)/\(b=false->v.cells=#[v])/\∀u∈v.cells.toList,∀a len cap,u=.slice (some a) len cap->zDv w:=by
 unfold zJJ at hb
 have agg:(∃cs:Array Value,v=.agg cs/\cs.size=P.cellsOf t/\Row.okWide P w .any base t cs)->∀u∈v.cells.toList,∀a len cap,u=.slice (some a) len cap->zDv w:=by
   rintro⟨cs,rfl,_,ts,_,_,hr⟩ u hu a len cap rfl;obtain⟨i,hi⟩:=List.getElem?_of_mem hu
   obtain⟨t',_,hc⟩:=hr i _ (by simpa[Value.cells] using hi)
   exact zGO hc
 have cell:Cell.okWide P w .any base t v->(∀cs,v≠.agg cs)->v.cells=#[v]/\∀u∈v.cells.toList,∀a len cap,u=.slice (some a) len cap->zDv w:=by
   intro hc hne
   have e:v.cells=#[v]:=by
     cases v <;> first | rfl | exact absurd rfl (hne _)
   refine ⟨e,fun u hu a len cap hua=>?_⟩
   rw[e]at hu;simp at hu;subst hu;subst hua;exact zGO hc
 unfold Value.okWide at hv
 split at hb <;> rename_i hu <;> first | cases hb | skip
 · rw[hu]at hv
   exact⟨fun _=>⟨hv.choose,hv.choose_spec.1⟩,fun h=>(by cases h),agg hv⟩
 · rw[hu]at hv
   exact⟨fun _=>⟨hv.choose,hv.choose_spec.1⟩,fun h=>(by cases h),agg hv⟩
 all_goals
   rw[hu]at hv
   have hc:=cell hv fun cs hcs=>by
     subst hcs;simp only[Cell.okWide,Cell.ok,hu]at hv
   exact⟨fun h=>(by cases h),fun _=>hc.1,hc.2⟩
theorem zRq(w:World):GloW w:=⟨zRT _,qqZ _⟩
theorem zE9(hl:laidOutB P=true):∀(ts:List TypeId),ts.all (fun t=>P.readableRec t&&decide (t<P.types.size))=true->∀{w':World} {vs:List Value} {ds:List (DataW H)} {ps:List MemPlace},
   DataW.TrodAll enc P w 0 (fun _=>true) true ts vs ds ps->Below w.heap.size w w'->DataW.TrodAll enc P w' 0 (fun b=>decide (b<w.heap.size)) true ts vs ds ps
 | [],_,w',vs,ds,ps,h,_=>by
   obtain⟨rfl,rfl,rfl⟩:=trodAll_nil h;exact trodAll_mk0
 | t::ts,hr,w',vs,ds,ps,h,hb=>by
   obtain⟨v,vs',d,ds',p,q,rfl,rfl,rfl,hT,hA'⟩:=trodAll_cons h;simp only[List.all_cons,qrZ,decide_eq_true_eq]at hr;obtain⟨m,hm⟩:=hT
   exact trodAll_cons_mk (Below.trod hl hr.1.1 hr.1.2 ⟨m,hm⟩ hb fun x hx=>DataW.trod_lt m _ _ _ hm x hx) (zE9 hl ts (by simpa using hr.2) hA' hb)
end
end
theorem zC5{p:Prim}{ts:List CT}{k:Nat}{xs:List AV}{H:zA}(h:zAK (.one p::ts) k xs H):∃x ys,xs=x::ys/\zER p x/\zAK ts k ys H:=by
 cases xs with
 | nil=>exact h.elim
 | cons x ys =>
   simp only[zAK]at h;exact⟨x,ys,rfl,h.1,h.2⟩
theorem zRc{k:Nat}{xs:List AV}{H:zA}(h:zAK [] k xs H):xs=[]/\H=[]:=by
 cases xs <;> cases H <;> first | exact⟨rfl,rfl⟩ | exact h.elim
theorem zHP{H:Type}{enc:TypeId×Value->H}{P:Program}{w:World}{base:Nat}{spare:Nat->Bool}{held:Bool}:∀{ts:List TypeId} {vs:List Value} {ds:List (DataW H)} {ps:List MemPlace},DataW.TrodAll enc P w base spare held ts vs ds ps->ds.length=ts.length
 | [],vs,ds,ps,h=>by
   obtain⟨_,rfl,_⟩:=Go.ChangeShapes.trodAll_nil h;rfl
 | t::ts,vs,ds,ps,h=>by
   obtain⟨v,vs',d,ds',p,q,rfl,rfl,rfl,hT,hA'⟩:=Go.ChangeShapes.trodAll_cons h;simp[zHP hA']
section
open Go
inductive FAct where
 | add (s:List UInt8)
 | cut (n:Nat)
structure PF where
 d:List UInt8
 acts:List FAct
def FAct.run(a:FAct)(s:List UInt8):List UInt8:=match a with
 | .add m=>s++m
 | .cut n=>s.take n
def zBK(s:List UInt8):List FAct->List UInt8
 | []=>s
 | a::l=>zBK (a.run s) l
def PF.now(f:PF):List UInt8:=zBK f.d f.acts
def fits(s:List UInt8):List FAct->Prop
 | []=>True
 | a::l=>(match a with | .add _=>True | .cut n=>n<=s.length)/\fits (a.run s) l
theorem zD4(s:List UInt8)(l m:List FAct):zBK s (l++m)=zBK (zBK s l) m:=by
 induction l generalizing s with
 | nil=>rfl
 | cons a l ih=>exact ih _
theorem zHW(s:List UInt8)(l m:List FAct):fits s (l++m)↔fits s l/\fits (zBK s l) m:=by
 induction l generalizing s with
 | nil=>simp[fits,zBK]
 | cons a l ih=>simp only[q9Z,fits,zBK,ih,and_assoc]
def FAct.fn(k:Nat):FAct->AV
 | .add _=>.func 93 [] [.ptr k 0]
 | .cut _=>.func 132 [] [.ptr k 0]
def FAct.box:FAct->ABlk
 | .add s=>.obj false [.cells true [.str s]]
 | .cut n=>.obj false [.cells true [.int .i64 n]]
def zAt:Nat->List FAct->List AV
 | _,[]=>[]
 | k,a::l=>a.fn k::zAt (k+1) l
def zK7:List Nat->List FAct->List AV
 | b::bs,a::l=>a.fn b::zK7 bs l
 | _,_=>[]
@[simp] theorem zMW:∀(l:List FAct) (k:Nat),(zAt k l).length=l.length
 | [],_=>rfl
 | a::l,k=>by simp[zAt,zMW l]
theorem zOd:∀(l:List FAct) (k:Nat),zAt k l=zK7 (List.range' k l.length) l
 | [],k=>rfl
 | a::l,k=>by simp[zAt,zK7,List.range'_succ,zOd l]
theorem zOF:∀(l:List FAct) (k i:Nat) (h:i<l.length),(zAt k l)[i]? = some (l[i].fn (k+i))
 | a::l,k,0,_=>rfl
 | a::l,k,i+1,h=>by
   simp only[zAt,r9Z,List.getElem_cons_succ]
   rw[zOF l (k+1) i (by simpa using h),show k+1+i=k+(i+1) by omega]
def PF.blks(f:PF):zA:=.cells true [.str f.d,.sl 1 0 f.acts.length 1 false,.str f.now]::.cells true (zAt 2 f.acts)::f.acts.map FAct.box
theorem zGX(g:Nat->Nat)(q:Nat):∀(l:List FAct) (k:Nat),(∀i,i<l.length->g (k+i)=q+i)->ZY g (zAt k l)=zAt q l
 | [],_,_=>rfl
 | a::l,k,h=>by
   have h0:=h 0 (by simp)
   simp only[Nat.add_zero]at h0
   have ih:=zGX g (q+1) l (k+1) fun i hi=>by rw[show k+1+i=k+(i+1) by omega,h (i+1) (by simpa using hi)];omega
   cases a <;> simp[zAt,FAct.fn,ZY,reA,h0] <;> exact zGX g (q+1) l (k+1) fun i hi=>by rw[show k+1+i=k+(i+1) by omega,h (i+1) (by simpa using hi)];omega
theorem zVW(g:Nat->Nat)(a:FAct):reB g a.box=a.box:=by cases a <;> rfl
theorem zCv(f:PF)(T:zA):zX (.obj true f.blks::T) 0 f.blks=.cells true [.str f.d,.sl (T.length+1) 0 f.acts.length 1 false,.str f.now]::(T++.cells true (zAt (T.length+2) f.acts)::f.acts.map FAct.box):=by
 have e:ZY (Zf 0 (T.length+1)) (zAt 2 f.acts)=zAt (T.length+2) f.acts:=zGX _ _ _ _ fun i _=>by simp only[Zf];rw[if_neg (by omega)];omega
 have e2:f.acts.map (fun a=>reB (Zf 0 (T.length+1)) a.box)=f.acts.map FAct.box:=by
   apply List.map_congr_left;intro a _;exact zVW _ a
 have e3:f.acts.map (reB (Zf 0 (T.length+1)) ∘ FAct.box)=f.acts.map FAct.box:=e2;unfold zX;simp only[PF.blks,q7Z,List.getD_cons_zero,s9Z,List.drop_succ_cons,List.drop_zero,s1Z,List.map_map,e3]
 have e4:reB (Zf 0 (T.length+1)) (.cells true (zAt 2 f.acts))=.cells true (zAt (T.length+2) f.acts):=by show ABlk.cells true _=_;rw[e]
 rw[e4];simp[reB,ZY,reA,Zf]
theorem zN7(rs:List Nat):∀(l:List FAct) (k:Nat) (bs:List Nat),bs.length=l.length->(∀i,i<bs.length->rs[k+i]? = bs[i]?)->AWs rs (zAt k l) (zK7 bs l)
 | [],k,bs,h,_=>by
   have:bs=[]:=List.eq_nil_of_length_eq_zero (by simpa using h)
   subst this;trivial
 | a::l,k,b::bs,h,hr=>by
   have h0:=hr 0 (by simp)
   simp only[Nat.add_zero,raZ]at h0
   have ih:=zN7 rs l (k+1) bs (by simpa using h) fun i hi=>by
     have:=hr (i+1) (by simpa using hi)
     rw[show k+1+i=k+(i+1) by omega,this];simp
   cases a <;> exact⟨⟨rfl,trivial,⟨h0,rfl⟩,trivial⟩,ih⟩
 | a::l,k,[],h,_=>by simp at h
theorem zKA(rs:List Nat)(H:zA):∀(l:List FAct) (bs:List Nat),bs.length=l.length->(∀(i b:Nat) (a:FAct),bs[i]? = some b->l[i]? = some a->H[b]? = some a.box)->AWg rs H (l.map FAct.box) bs
 | [],bs,h,_=>by
   have:bs=[]:=List.eq_nil_of_length_eq_zero (by simpa using h)
   subst this;trivial
 | a::l,b::bs,h,hr=>by
   have h0:=hr 0 b a rfl rfl;simp only[s1Z,AWg]
   refine ⟨?_,zKA rs H l bs (by simpa using h) fun i b a h1 h2=>hr (i+1) b a (by simpa using h1) (by simpa using h2)⟩
   split
   · rw[q2Z,h0]
     cases a <;> exact⟨rfl,rfl⟩
   · trivial
 | a::l,[],h,_=>by simp at h
theorem Aft.closeF{n0:Nat}{F:List AV}{H:zA}{K:List AV->zA->Prop}(f:PF)(b r1:Nat)(bs:List Nat){x:AV}{o:Bool}
   (hb:H[b]? = some (.cells true [.str f.d,x,.str f.now])) (hx:AW (b::r1::bs) (.sl 1 0 f.acts.length 1 false) x)
   (hr:r1<H.length->H[r1]? = some (.cells true (zK7 bs f.acts))) (hl:bs.length=f.acts.length) (hbx:∀(i k:Nat) (a:FAct),bs[i]? = some k->f.acts[i]? = some a->H[k]? = some a.box)
   (hnd:(b::r1::bs).Nodup) (hn:n0<=H.length) (h:Aft n0 F (zi H b [r1] o f.blks) K):Aft n0 F H K:=by
 refine Aft.close (o:=o) (b:=b) (rs:=b::r1::bs) (ks:=[r1]) rfl hnd (q1Z.1 hb).1 ?_ ?_ ⟨_,rfl,rfl⟩ ?_ hn h
 · intro c x hc hcb hx ho
   rcases qwZ.1 hc with e | hc
   · exact absurd e hcb
   rcases qwZ.1 hc with e | hc
   · simp[e]
   obtain⟨i,hi⟩:=List.getElem?_of_mem hc
   have hil:i<f.acts.length:=by rw[<-hl];exact (q1Z.1 hi).1
   have:=hbx i c _ hi (q3Z hil);rw[this]at hx;cases hx
   cases hfa:f.acts[i] <;> rw[hfa]at ho <;> cases ho
 · refine ⟨?_,?_,zKA _ _ _ _ hl hbx⟩
   · split
     · rw[q2Z,hb]
       exact⟨fun h=>h,rfl,hx,rfl,trivial⟩
     · trivial
   · split
     · rename_i h1
       rw[q2Z,hr h1]
       exact⟨fun h=>h,zN7 _ _ _ _ hl fun i _=>by rw[show 2+i=i+1+1 by omega];simp⟩
     · trivial
 · intro i y hy hd
   match i,hy with
   | 0,hy=>cases hy;rfl
   | 1,hy=>cases hy;rfl
   | i+2,hy =>
     simp only[PF.blks,r9Z,qzZ]at hy;obtain⟨a,_,rfl⟩:=qlZ.1 hy
     cases a <;> rfl
def zSY:AV->ABlk->Option FAct
 | .func f _ _,.obj _ [.cells _ [.str s]]=>if f=93 then some (.add s) else none
 | .func f _ _,.obj _ [.cells _ [.int _ n]]=>if f=132/\0<=n then some (.cut n.toNat) else none
 | _,_=>none
def zL2:List AV->List ABlk->Option (List FAct)
 | [],[]=>some []
 | x::xs,B::Bs=>match zSY x B,zL2 xs Bs with
   | some a,some l=>some (a::l)
   | _,_=>none
 | _,_=>none
def zOr:zA->Option PF
 | .cells _ (.str d::_)::.cells _ row::bx=>(zL2 row bx).map fun l=>⟨d,l⟩
 | _=>none
theorem zIs:∀(l:List FAct) (k:Nat),zL2 (zAt k l) (l.map FAct.box)=some l
 | [],_=>rfl
 | a::l,k=>by
   have h:zSY (a.fn k) a.box=some a:=by cases a <;> simp[FAct.fn,FAct.box,zSY]
   simp only[zAt,s1Z,zL2,h,zIs l]
@[simp] theorem zG4(f:PF):zOr f.blks=some f:=by simp[zOr,PF.blks,zIs]
theorem zHB:∀(bs:List Nat) (l:List FAct) (b:Nat) (a:FAct),bs.length=l.length->zK7 (bs++[b]) (l++[a])=zK7 bs l++[a.fn b]
 | [],l,b,a,h=>by
   have:l=[]:=List.eq_nil_of_length_eq_zero (by simpa using h.symm)
   subst this;rfl
 | c::bs,[],b,a,h=>by simp at h
 | c::bs,x::l,b,a,h=>by simp only[q9Z,zK7,zHB bs l b a (by simpa using h)]
def PF.did(f:PF)(a:FAct):PF:=⟨f.d,f.acts++[a]⟩
theorem Aft.closeA{n0:Nat}{F:List AV}{H:zA}{K:List AV->zA->Prop}(f:PF)(a:FAct)(b r1 base q:Nat){x:AV}
   (hb:H[b]? = some (.cells true [.str f.d,x,.str (a.run f.now)])) (hx:AW (b::r1::(List.range' base f.acts.length++[q])) (.sl 1 0 (f.acts.length+1) 1 false) x)
   (hr:H[r1]? = some (.cells true (zAt base f.acts++[a.fn q]))) (hX:∀(i:Nat) (a':FAct),f.acts[i]? = some a'->H[base+i]? = some a'.box) (hq:H[q]? = some a.box)
   (hd:b≠r1/\b≠q/\r1≠q/\(b<base\/base+f.acts.length<=b)/\(r1<base\/base+f.acts.length<=r1)/\(q<base\/base+f.acts.length<=q)) (hn:n0<=H.length)
   (h:Aft n0 F (zi H b [r1] true (f.did a).blks) K):Aft n0 F H K:=by
 refine Aft.closeF (f.did a) b r1 (List.range' base f.acts.length++[q]) (o:=true) (x:=x) ?_ ?_ ?_ ?_ ?_ ?_ hn h
 · rw[hb];simp[PF.did,PF.now,zD4,zBK]
 · show AW _ (.sl 1 0 (f.acts++[a]).length 1 false) x
   rw[qdZ];exact hx
 · intro _
   rw[hr];simp only[PF.did]
   rw[zHB _ _ _ _ (by simp),<-zOd]
 · simp[PF.did]
 · intro i k a' h1 h2
   simp only[PF.did]at h2;rcases s2Z i f.acts.length with h3 | h3
   · rw[q4Z (by simpa using h3),List.getElem?_range' h3]at h1
     rw[q4Z h3]at h2;simp only[Nat.one_mul,Option.some.injEq]at h1;subst h1;exact hX i a' h2
   · have h4:i=f.acts.length:=by
       have:=(q1Z.1 h1).1
       simp at this;omega
     subst h4
     rw[q5Z (by simp)]at h1
     rw[q5Z (by omega)]at h2
     simp at h1 h2
     subst h1;subst h2
     exact hq
 · simp only[rdZ,qwZ,qxZ,List.mem_range'_1,rtZ,or_false]
   refine ⟨by omega,by omega,?_⟩
   rw[List.nodup_append]
   refine ⟨List.nodup_range',by simp,?_⟩
   intro x hx y hy;simp only[List.mem_range'_1,r1Z]at hx hy;omega
end
section
open Go
attribute [-simp] zN zr ZI zT ZL
def zFG:List FuncId:=[92,93,94,132,99,87,127]
theorem zBb:GOk Pz (zA2 Pz (zo [(31,zTo)]) 0 zFG 4):=ZT hmix (zB zOz zC) 0 zFG 4
def PF.add(f:PF)(m:List UInt8):PF:=if m=[] then f else ⟨f.d,f.acts++[.add m]⟩
theorem zP6(f:PF)(l:List AV)(off n:Nat)(c:Bool)(a:List (List UInt8))(hAl:∀rn,AWs rn l l)(hrs:zAL [.obj true f.blks,.cells false l] (.sl 1 off n 1 c)=some a)(hm:a.flatten.length<=1000000000000/\a.length<=1000000000000)(hn:f.now.length<=1000000000000)(hk:f.acts.length<=1000000000000) :
   Ct Pz 33 [.ptr 0 0,.sl 1 off n 1 c] [.obj true f.blks,.cells false l] (.int .i64 0) [.obj true (f.add a.flatten).blks,.cells false l]:=by
 have hΓ:=zBb
 have j3:(a.map List.length).sum<=140737488355328:=by rw[<-List.length_flatten];omega
 obtain⟨m,em⟩:∃m,a.flatten=m:=⟨_,rfl⟩;rw[em]at hm ⊢
 have j1:m.length<=140737488355328/\a.length<=140737488355328:=by omega
 obtain⟨B,eB⟩:∃B,f.blks=B:=⟨_,rfl⟩;rw[eB]at hrs;refine zG Tryz.func33 rfl ?_;simp only[Tryz.ntmps33,q7Z,q8Z,Nat.reduceAdd,Nat.reduceSub,qbZ,q9Z,qaZ];rw[eB]
 refine Sim.step hmix hΓ (n:=0) (by simp;exact⟨rfl,rfl⟩) (by simp) ?_
 refine Sim.step hmix hΓ (n:=0) (by simp;exact⟨rfl,rfl⟩) (by simp) ?_
 refine Sim.seq (Sim.step hmix hΓ (n:=0) (by simp[zFG,zTo,hrs,em,j1,j3];exact⟨rfl,rfl⟩) (by simp) ?_)
 by_cases h0:m=[]
 · subst h0
   refine Sim.exec hmix hΓ (n:=0) (by simp;exact⟨rfl,rfl,rfl⟩) (by simp) ?_
   dsimp only
   refine Sim.exec hmix hΓ (n:=0) (by simp;exact⟨rfl,rfl,rfl⟩) (by simp) ?_
   exact⟨.inr rfl,_,by simp[Tryz.f33] <;> rfl,Weak.mk' [0,1] (by decide) (by decide) (by simp) (by simp[PF.add,eB,AWb,hAl])⟩
 have h0':0<m.length:=List.length_pos_iff.2 h0
 refine Sim.step hmix hΓ (n:=0) (by simp;exact⟨rfl,rfl⟩) (by simp) ?_
 rw[<-eB]
 refine Sim.aft (Aft.open (b:=0) rfl (by simp) (Aft.done (by simp[zX]) ?_))
 rw[zCv];obtain⟨R,eR⟩:∃R,zAt (List.length [ABlk.cells false l,ABlk.cells true [AV.str m]]+2) f.acts=R:=⟨_,rfl⟩;obtain⟨X,eX⟩:∃X,f.acts.map FAct.box=X:=⟨_,rfl⟩
 have hR:R.length=f.acts.length:=by rw[<-eR];simp
 have hX:X.length=f.acts.length:=by rw[<-eX];simp
 rw[eR,eX];obtain⟨k,ek⟩:∃k,f.acts.length=k:=⟨_,rfl⟩;obtain⟨s,es⟩:∃s,f.now=s:=⟨_,rfl⟩;rw[ek]at hR hX hk ⊢;rw[es]at hn ⊢
 have b1:(k+1)*8<=140737488355328:=by omega
 have b2:k+1<=9223372036854775807:=by omega
 have c1:m.length<=140737488355328:=by omega
 have c2:(m.length:Int)<4611686018427387904:=by omega
 have c3:¬(4611686018427387904:Int)<(m.length:Int):=by omega
 have c4:s.length+m.length<=9223372036854775807:=by omega
 have tR:R.take k=R:=q6Z (by omega)
 refine Sim.exec hmix hΓ (n:=0) (by simp +decide [zFG,Tryz.f92,Tryz.f93,Tryz.f94,Tryz.f127,h0,h0',hR,hX,tR,b1,b2,c2,c4];exact⟨rfl,rfl,rfl⟩) (by simp) ?_
 dsimp only
 have hadd:f.add m=f.did (.add m):=by unfold PF.add PF.did;rw[if_neg h0]
 have eR2:R=zAt 4 f.acts:=by rw[<-eR];rfl
 refine Sim.aft (Aft.freeze 2 (.str m) rfl (fun _=>rfl) (by simp) ?_)
 simp only[saZ,s9Z]
 refine Aft.closeA f (.add m) 0 (k+5) 4 2 (x:=.slice (k+1+1+1+1+1) 0 (k+1) 1 false) ?_ ?_ ?_ ?_ ?_ (by omega) (by simp) ?_
 · simp[FAct.run,es]
 · simp[AW,ek]
 · rw[<-eR2,show k+5=(X.length+1)+1+1+1+1 by omega]
   simp[FAct.fn]
 · intro i a' h2
   have h3:i<X.length:=by rw[hX,<-ek];exact (q1Z.1 h2).1
   rw[show 4+i=i+1+1+1+1 by omega]
   simp only[r9Z];rw[q4Z h3,<-eX,qzZ,h2];rfl
 · rfl
 rw[<-hadd]
 refine Aft.weak (Fn:=qbZ 15 .top) (Hn:=[.obj true (f.add m).blks,.cells false l]) (Weak.mk' [0,1] (by decide) (by decide) (zAO _ _ _ rfl) (zJ (b:=0) (by simp) _ _ rfl fun i c x h1 h2=>?_)) (by simp) (Aft.done (by simp) ?_)
 · match i,h1,h2 with
   | 0,h1,h2=>cases h1;cases h2;exact .inl ⟨rfl,rfl⟩
   | 1,h1,h2 =>
     cases h1;cases h2
     refine .inr ⟨⟨by simp,by simp⟩,?_⟩
     simp[AWb,hAl]
 refine Sim.exec hmix hΓ (n:=0) (by simp;exact⟨rfl,rfl,rfl⟩) (by simp) ?_
 exact⟨.inr rfl,_,by simp[Tryz.f33] <;> rfl,Weak.mk' [0,1] (by decide) (by decide) (by simp) (by simp[AWb,hAl])⟩
def PF.cut(f:PF)(n:Int):PF×Int:=if n<0\/(f.now.length:Int)<n then (f,17) else if n<f.now.length then (⟨f.d,f.acts++[.cut n.toNat]⟩,0) else (f,0)
theorem zU5(f:PF)(n:Int)(_hn:f.now.length<=1000000000000)(hk:f.acts.length<=1000000000000) :
   Ct Pz 102 [.ptr 0 0,.int .i64 n] [.obj true f.blks] (.int .i64 (f.cut n).2) [.obj true (f.cut n).1.blks]:=by
 have hΓ:=zBb;refine zG Tryz.func102 rfl ?_;simp only[Tryz.ntmps102,q7Z,q8Z,Nat.reduceAdd,Nat.reduceSub,qbZ,q9Z,qaZ];obtain⟨B,eB⟩:∃B,f.blks=.cells true [.str f.d,.sl 1 0 f.acts.length 1 false,.str f.now]::B:=⟨_,rfl⟩;obtain⟨s,es⟩:∃s,f.now=s:=⟨_,rfl⟩;rw[es]at eB;unfold PF.cut;rw[es,eB]
 refine Sim.step hmix hΓ (n:=0) (by simp;exact⟨rfl,rfl⟩) (by simp) ?_
 by_cases h1:n<0
 · rw[if_pos (.inl h1)]
   refine Sim.exec hmix hΓ (n:=0) (by simp +decide [h1];exact⟨rfl,rfl,rfl⟩) (by simp) ?_
   exact⟨.inr rfl,_,by simp[Tryz.f102] <;> rfl,Weak.mk' [0] (by decide) (by decide) (by simp) (by simp[AWb,eB])⟩
 by_cases h2:(s.length:Int)<n
 · rw[if_pos (.inr h2)]
   refine Sim.exec hmix hΓ (n:=0) (by simp +decide [h1,h2];exact⟨rfl,rfl,rfl⟩) (by simp) ?_
   exact⟨.inr rfl,_,by simp[Tryz.f102] <;> rfl,Weak.mk' [0] (by decide) (by decide) (by simp) (by simp[AWb,eB])⟩
 rw[if_neg (by omega)]
 by_cases h3:n<s.length;rotate_left
 · rw[if_neg h3]
   refine Sim.exec hmix hΓ (n:=0) (by simp +decide [h1,h2,h3];exact⟨rfl,rfl,rfl⟩) (by simp) ?_
   exact⟨.inr rfl,_,by simp[Tryz.f102] <;> rfl,Weak.mk' [0] (by decide) (by decide) (by simp) (by simp[AWb,eB])⟩
 rw[if_pos h3];rw[<-eB]
 refine Sim.aft (Aft.open (b:=0) rfl (by simp) (Aft.done (by simp[zX]) ?_))
 rw[zCv,es];obtain⟨R,eR⟩:∃R,zAt (List.length [ABlk.cells true [AV.int .i64 n]]+2) f.acts=R:=⟨_,rfl⟩;obtain⟨X,eX⟩:∃X,f.acts.map FAct.box=X:=⟨_,rfl⟩
 have hR:R.length=f.acts.length:=by rw[<-eR];simp
 have hX:X.length=f.acts.length:=by rw[<-eX];simp
 rw[eR,eX];obtain⟨k,ek⟩:∃k,f.acts.length=k:=⟨_,rfl⟩;rw[ek]at hR hX hk ⊢
 have b1:(k+1)*8<=140737488355328:=by omega
 have b2:k+1<=9223372036854775807:=by omega
 have c0:0<=n:=by omega
 have c1:n<=(s.length:Int):=by omega
 have tR:R.take k=R:=q6Z (by omega)
 refine Sim.seq (Sim.mono (Q:=fun e F' H'=>e=.normal/\Weak 1 F' H' (qbZ 31 .top) [.obj true (⟨f.d,f.acts++[.cut n.toNat]⟩:PF).blks]) ?_ ?_)
 rotate_left
 · rintro e F' H' hl ⟨rfl,hw⟩
   dsimp only;refine Sim.weak hw hl ?_
   refine Sim.exec hmix hΓ (n:=0) (by simp;exact⟨rfl,rfl,rfl⟩) (by simp) ?_
   exact⟨.inr rfl,_,by simp[Tryz.f102] <;> rfl,Weak.mk' [0] (by decide) (by decide) (by simp) (by simp[AWb])⟩
 refine Sim.after (Sim.exec hmix hΓ (n:=0) (by simp +decide [zFG,Tryz.f92,Tryz.f132,Tryz.f127,h1,h2,h3,hR,hX,tR,b1,b2,c0,c1];exact⟨rfl,rfl,rfl⟩) (by simp) ?_)
 have eR2:R=zAt 3 f.acts:=by rw[<-eR];rfl
 have en:(n.toNat:Int)=n:=by omega
 refine Aft.freeze 1 (.int .i64 n) rfl (fun _=>⟨rfl,rfl⟩) (by simp) ?_
 simp only[saZ,s9Z]
 refine Aft.closeA f (.cut n.toNat) 0 (k+4) 3 1 (x:=.slice (k+1+1+1+1) 0 (k+1) 1 false) ?_ ?_ ?_ ?_ ?_ (by omega) (by simp) ?_
 · simp[FAct.run,es]
 · simp[AW,ek]
 · rw[<-eR2,show k+4=(X.length+1)+1+1+1 by omega]
   simp[FAct.fn]
 · intro i a' h2
   have h3:i<X.length:=by rw[hX,<-ek];exact (q1Z.1 h2).1
   rw[show 3+i=i+1+1+1 by omega]
   simp only[r9Z];rw[q4Z h3,<-eX,qzZ,h2];rfl
 · simp[FAct.box,en]
 exact Aft.done (by simp) ⟨by first | rfl | trivial,Weak.mk' [0] (by decide) (by decide) (zAO _ _ _ (by simp)) (zJ (b:=0) (by simp) _ _ rfl fun i c x h1 h2=>by
   match i,h1,h2 with
   | 0,h1,h2=>cases h1;cases h2;exact .inl ⟨rfl,rfl⟩)⟩
end
end Go.Proofs.YtfhidaoiofeooaaGreat
