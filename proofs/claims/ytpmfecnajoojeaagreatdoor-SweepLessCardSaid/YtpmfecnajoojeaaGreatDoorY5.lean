/- Parts of the proof of SweepLess: lemmas, each with its own conditions. -/
import Derived.ProofKit
import Derived.OpenShut
import Derived.ShutString
import Derived.ChangeOld
import Derived.Deep.Slices
import Derived.Test.YtpmfecnajoojeaaGreatDoorRows
import Derived.Test.YtpmfecnajoojeaaGreatDoorY4
set_option maxHeartbeats 64000000
open List renaming getElem?_eq_some_iff → q1Z, getElem?_eq_getElem → q3Z, getElem?_append_left → q4Z, getElem?_append_right → q5Z, take_of_length_le → q6Z, replicate → qbZ, mem_cons_self → qhZ, mem_cons_of_mem → qiZ, length_take → qjZ, mem_cons → qwZ, append_nil → r2Z, getElem?_take → r4Z, take_append_drop → r6Z, flatten_cons → rcZ, replicate_succ → rvZ, flatten_append → sgZ
open Option renaming map_eq_some_iff → qlZ
open Bool renaming and_eq_true → qrZ
open Array renaming getElem?_eq_some_iff → qtZ, length_toList → rjZ
open Nat renaming zero_add → s8Z, min_eq_left → sfZ
namespace Go.Proofs.YtpmfecnajoojeaaGreatDoor
open _root_.Go.Proofs.Tryz renaming prog → Pz
set_option maxRecDepth 100000
section
open Go.ChangeShapes Go.WideShapes Go.ChangeAt Go.RowKit
theorem own:ownKnob Tryz.prog.godebug=none:=by kernel_rfl
theorem laidOut:laidOutB Pz=true:=by kernel_rfl
theorem addr_plain{w:World}{x:Addr}{v:Value}(h:w.cell? x=some v):x=⟨x.block,x.off,none⟩:=by
 cases x with
 | mk b o s =>
   cases s with
   | none=>rfl
   | some s =>
     unfold World.cell? at h;dsimp only at h
     split at h <;> simp at h
end
section
open Go.ChangeShapes Go.WideShapes Go.ChangeAt Go.RowKit
inductive Prim where
 | int (k:IntKind)
 | str
 | bool
 deriving DecidableEq
inductive CT where
 | one (p:Prim)
 | row (el:List Prim)
 deriving DecidableEq
def onesOf:List CT→Option (List Prim)
 | []=>some []
 | .one p::ts=>(onesOf ts).map (p::·)
 | _=>none
def fieldsOf(P:Program)(g:TypeId→Option (List CT)):Nat→List Field→Option (List CT)
 | _,[]=>some []
 | off,f::fs=>match g f.type with
   | some a=>if f.offset=off∧P.cellsOf f.type=a.length then (fieldsOf P g (off+a.length) fs).map (a++·) else none
   | none=>none
def flat(P:Program):Nat→TypeId→Option (List CT)
 | 0,_=>none
 | n+1,t=>match P.underlying t with
   | some .bool=>some [.one .bool]
   | some (.int k)=>some [.one (.int k)]
   | some .string=>some [.one .str]
   | some (.slice e)=>match flat P n e with
     | some a=>if P.cellsOf e=a.length∧0<a.length then (onesOf a).map fun el=>[.row el] else none
     | none=>none
   | some (.struct fs)=>fieldsOf P (flat P n) 0 fs.toList
   | some (.array m e)=>match flat P n e with
     | some a=>if P.cellsOf e=a.length then some (qbZ m a).flatten else none
     | none=>none
   | _=>none
def PrimOk:Prim→Value→Prop
 | .int k,v=>∃n,v=.int k n∧(Lit.int k n).wf=true
 | .str,v=>∃s:ByteArray,v=.string s∧s.size≤maxLen
 | .bool,v=>∃b,v=.bool b
def All2{α β:Type}(R:α→β→Prop):List α→List β→Prop
 | [],[]=>True
 | x::xs,y::ys=>R x y∧All2 R xs ys
 | _,_=>False
def CellOk(w:World):CT→Value→Prop
 | .one p,v=>PrimOk p v
 | .row el,v=>v=.slice none 0 0∨∃a len cap l,v=.slice (some a) len cap∧len≤cap∧cap≤maxLen∧0<el.length∧All2 PrimOk (qbZ cap el).flatten l∧∀i u,l[i]? = some u→w.cell? (a.add i)=some u
section
variable {α β:Type} {R:α→β→Prop}
theorem All2.length:∀{xs:List α} {ys:List β},All2 R xs ys→xs.length=ys.length
 | [],[],_=>rfl
 | x::xs,y::ys,h=>by simp[All2.length h.2]
 | [],_::_,h=>h.elim
 | _::_,[],h=>h.elim
theorem All2.append:∀{xs xs':List α} {ys ys':List β},All2 R xs ys→All2 R xs' ys'→All2 R (xs++xs') (ys++ys')
 | [],_,[],_,_,h=>h
 | _x::_xs,_,_y::_ys,_,h,h'=>⟨h.1,h.2.append h'⟩
 | [],_,_::_,_,h,_=>h.elim
 | _::_,_,[],_,h,_=>h.elim
theorem All2.get:∀{xs:List α} {ys:List β},All2 R xs ys→∀(i:Nat) x y,xs[i]? = some x→ys[i]? = some y→R x y
 | [],[],_,i,x,y,hx,_=>by simp at hx
 | a::xs,b::ys,h,0,x,y,hx,hy=>by simp at hx hy;subst hx;subst hy;exact h.1
 | a::xs,b::ys,h,i+1,x,y,hx,hy=>h.2.get i x y (by simpa using hx) (by simpa using hy)
 | [],_::_,h,_,_,_,_,_=>h.elim
 | _::_,[],h,_,_,_,_,_=>h.elim
theorem All2.of_get:∀{xs:List α} {ys:List β},xs.length=ys.length→(∀(i:Nat) x y,xs[i]? = some x→ys[i]? = some y→R x y)→All2 R xs ys
 | [],[],_,_=>trivial
 | x::xs,y::ys,hl,h=>⟨h 0 x y rfl rfl,All2.of_get (by simpa using hl) fun i a b ha hb=>h (i+1) a b (by simpa using ha) (by simpa using hb)⟩
 | [],_::_,hl,_=>by simp at hl
 | _::_,[],hl,_=>by simp at hl
theorem All2.take{xs:List α}{ys:List β}(h:All2 R xs ys)(n:Nat):All2 R (xs.take n) (ys.take n):=by
 refine All2.of_get (by simp[h.length]) fun i x y hx hy=>?_
 rw[r4Z]at hx hy;split at hx
 · rw[if_pos ‹_›]at hy
   exact h.get i x y hx hy
 · cases hx
end
theorem flatten_replicate_length{α:Type}(n:Nat)(el:List α):(qbZ n el).flatten.length=n*el.length:=by
 simp
theorem take_flatten_replicate{α:Type}(n m:Nat)(el:List α)(h:n≤m):(qbZ m el).flatten.take (n*el.length)=(qbZ n el).flatten:=by
 obtain⟨k,rfl⟩:=Nat.exists_eq_add_of_le h
 rw[←List.replicate_append_replicate,sgZ,List.take_append_of_le_length (by simp),q6Z (by simp)]
theorem onesOf_eq:∀{ts:List CT} {el:List Prim},onesOf ts=some el→ts=el.map .one
 | [],el,h=>by cases h;rfl
 | .row _::ts,el,h=>by cases h
 | .one p::ts,el,h=>by
   obtain⟨l,hl,rfl⟩:=qlZ.1 h;rw[onesOf_eq hl];rfl
theorem ones_ok{w:World}:∀{el:List Prim} {cs:List Value},All2 (CellOk w) (el.map .one) cs→All2 PrimOk el cs
 | [],[],_=>trivial
 | _p::_el,_c::_cs,h=>⟨h.1,ones_ok h.2⟩
 | [],_::_,h=>h.elim
 | _::_,[],h=>h.elim
variable {H:Type} {enc:TypeId×Value→H} {P:Program} {w:World} {base:Nat} {held:Bool}
theorem drop_take_append{α:Type}(l:List α)(a b:Nat):(l.drop a).take b++(l.drop (a+b))=l.drop a:=by
 rw[←List.drop_drop,r6Z]
theorem addr_add_add(a:Addr)(x y:Nat):(a.add x).add y=a.add (x+y):=by
 unfold Addr.add;by_cases hx:x=0
 · subst hx
   simp
 · by_cases hy:y=0
   · subst hy
     simp
   · rw[if_neg hx,if_neg hy,if_neg (by omega)]
     simp[Nat.add_assoc]
theorem rows_join{el:List Prim}{a:Addr}:∀(m:Nat),(∀i,i<m→∃cs:List Value,All2 PrimOk el cs∧∀k u,cs[k]? = some u→w.cell? (a.add (i*el.length+k))=some u) →
   ∃l,All2 PrimOk (qbZ m el).flatten l∧∀i u,l[i]? = some u→w.cell? (a.add i)=some u
 | 0,_=>⟨[],trivial,fun i u h=>by simp at h⟩
 | m+1,h=>by
   obtain⟨l,h1,h2⟩:=rows_join m fun i hi=>h i (by omega)
   obtain⟨cs,g1,g2⟩:=h m (by omega)
   have hl:l.length=m*el.length:=by rw[←h1.length,flatten_replicate_length]
   refine ⟨l++cs,?_,fun i u hi=>?_⟩
   · rw[List.replicate_succ',sgZ]
     simp only[rcZ,List.flatten_nil,r2Z];exact h1.append g1
   · by_cases hlt:i<l.length
     · rw[q4Z hlt]at hi
       exact h2 i u hi
     · rw[q5Z (by omega)]at hi
       have:=g2 _ u hi
       rw[show m*el.length+(i-l.length)=i by omega]at this
       exact this
theorem fields_ok{g:TypeId→Option (List CT)}{cs:List Value}:∀(fs:List Field) (off:Nat) (ts:List CT),fieldsOf P g off fs=some ts→cs.length=off+ts.length →
   (∀f∈fs,∀a,g f.type=some a→All2 (CellOk w) a ((cs.drop f.offset).take (P.cellsOf f.type)))→All2 (CellOk w) ts (cs.drop off)
 | [],off,ts,h,hl,_=>by
   cases h
   rw[List.drop_of_length_le (by simp at hl;omega)]
   trivial
 | f::fs,off,ts,h,hl,hg=>by
   unfold fieldsOf at h;split at h
   · rename_i a ha
     split at h
     · rename_i hc
       obtain⟨r,hr,rfl⟩:=qlZ.1 h;have h1:=hg f (qhZ ..) a ha;rw[hc.1,hc.2]at h1;rw[←drop_take_append cs off a.length]
       exact h1.append (fields_ok fs _ r hr (by simp at hl;omega) fun f' hf'=>hg f' (qiZ _ hf'))
     · cases h
   · cases h
theorem array_ok{a:List CT}{cs:List Value}:∀(m off:Nat),cs.length=off+m*a.length→(∀i,i<m→All2 (CellOk w) a ((cs.drop (off+i*a.length)).take a.length))→All2 (CellOk w) (qbZ m a).flatten (cs.drop off)
 | 0,off,hl,_=>by
   rw[List.drop_of_length_le (by simp at hl;omega)]
   trivial
 | m+1,off,hl,h=>by
   rw[rvZ,rcZ,←drop_take_append cs off a.length]
   have h0:=h 0 (by omega)
   rw[Nat.zero_mul,Nat.add_zero]at h0
   refine h0.append (array_ok m _ (by rw[hl,Nat.succ_mul];omega) fun i hi=>?_)
   have:=h (i+1) (by omega)
   rw[Nat.succ_mul]at this
   rw[show off+a.length+i*a.length=off+(i*a.length+a.length) by omega]
   exact this
theorem trod_flat:∀(n:Nat) (t:TypeId) (ts:List CT) (fuel:Nat) (cs:List Value) (x:DataW H×List MemPlace),flat P n t=some ts→P.cellsOf t=ts.length→DataW.trod enc P w base (fun _=>true) held fuel t cs=some x→All2 (CellOk w) ts cs
 | 0,_,_,_,_,_,h,_,_=>by cases h
 | n+1,t,ts,fuel,cs,x,h,hcl,hx=>by
   unfold flat at h;split at h
   · rename_i hu
     cases h;obtain⟨b,rfl,_⟩:=DataW.trod_bool hu hx;exact⟨⟨b,rfl⟩,trivial⟩
   · rename_i k hu
     cases h;obtain⟨m,rfl,_,hw⟩:=DataW.trod_int hu hx;exact⟨⟨m,rfl,hw⟩,trivial⟩
   · rename_i hu
     cases h;obtain⟨s,rfl,_,hw⟩:=DataW.trod_string hu hx;exact⟨⟨s,rfl,hw⟩,trivial⟩
   · rename_i e hu
     split at h
     · rename_i a ha
       split at h
       · rename_i hc
         obtain⟨el,hel,rfl⟩:=qlZ.1 h;have hae:=onesOf_eq hel
         have hal:a.length=el.length:=by rw[hae];simp
         rcases Deep.open_slice hu hx with⟨rfl,_⟩ | ⟨ad,len,cap,m,n',D,Pl,rfl,_,hle,hm,hmm,_,hel2⟩
         · exact⟨.inl rfl,trivial⟩
         · simp at hmm
           subst hmm
           obtain⟨l,h1,h2⟩:=rows_join (w:=w) (el:=el) (a:=ad) m fun i hi=>by
             obtain⟨cs',hcs',ht⟩:=hel2 i hi;have hk:=trod_flat n e a n' cs' _ ha hc.1 ht;rw[hae]at hk
             refine ⟨cs',ones_ok hk,fun k u hk=>?_⟩
             obtain⟨_,hcl',hce⟩:=World.cells?_some hcs'
             have hkl:k<P.cellsOf e:=by rw[←hcl'];exact (q1Z.1 hk).1
             have:=hce k hkl;rw[hk]at this;rw[←hal,←hc.1];rw[←this,addr_add_add]
           exact⟨.inr ⟨ad,len,m,l,rfl,hle,hm,by omega,h1,h2⟩,trivial⟩
       · cases h
     · cases h
   · rename_i fs hu
     obtain⟨xs,m,_,_,hl,hxl,hf⟩:=DataW.trod_struct hu hx
     have:=fields_ok (w:=w) (cs:=cs) fs.toList 0 ts h (by omega) fun f hf' a ha=>?_
     · simpa using this
     · obtain⟨i,hi⟩:=List.getElem?_of_mem hf'
       have hi':fs[i]? = some f:=by simpa using hi
       have h1:=hf i f hi'
       have hilt:i<xs.length:=by rw[hxl];exact (qtZ.1 hi').1
       rw[q3Z hilt]at h1;refine trod_flat n f.type a m _ _ ha ?_ h1
       have:∀(fs:List Field) (off:Nat) (ts:List CT),fieldsOf P (flat P n) off fs=some ts→∀f∈fs,∀a,flat P n f.type=some a→P.cellsOf f.type=a.length:=by
         intro fs
         induction fs with
         | nil=>intro off ts h f hf;cases hf
         | cons f0 fs ih =>
           intro off ts h f hf a ha;unfold fieldsOf at h;split at h
           · rename_i a0 ha0
             split at h
             · rename_i hc
               obtain⟨r,hr,_⟩:=qlZ.1 h;rcases qwZ.1 hf with rfl | hf
               · rw[ha0]at ha;cases ha;exact hc.2
               · exact ih _ _ hr f hf a ha
             · cases h
           · cases h
       exact this _ _ _ h f hf' a ha
   · rename_i m e hu
     split at h
     · rename_i a ha
       split at h
       · rename_i hc
         cases h;obtain⟨xs,k,_,_,hl,hxl,hf⟩:=DataW.trod_array hu hx
         have:=array_ok (w:=w) (a:=a) (cs:=cs) m 0 (by rw[hl,hcl,flatten_replicate_length];omega) fun i hi=>?_
         · simpa using this
         · have h1:=hf i hi
           rw[q3Z (by omega)]at h1
           rw[hc]at h1;rw[s8Z];exact trod_flat n e a k _ _ ha hc h1
       · cases h
     · cases h
   · cases h
end
section
open Go.ChangeShapes Go.WideShapes Go.ChangeAt Go.RowKit
def PrimA:Prim→AV→Prop
 | .int k,x=>∃n,x=.int k n∧(Lit.int k n).wf=true
 | .str,x=>∃s,x=.str s∧s.length≤maxLen
 | .bool,x=>∃b,x=.bool b
def AbsOk:List CT→Nat→List AV→AHeap→Prop
 | [],_,[],[]=>True
 | .one p::ts,k,x::xs,H=>PrimA p x∧AbsOk ts k xs H
 | .row el::ts,k,x::xs,B::H=>(∃l n,B=.cells false l∧(n=0∧x=.nils∨x=.slice k 0 n el.length false)∧n≤maxLen∧All2 PrimA (qbZ n el).flatten l)∧AbsOk ts (k+1) xs H
 | _,_,_,_=>False
theorem prim_a{p:Prim}{v:Value}(h:PrimOk p v):∃x,PrimA p x∧free x=true∧∀j,VR j x v:=by
 cases p with
 | int k=>obtain⟨n,rfl,hw⟩:=h;exact⟨.int k n,⟨n,rfl,hw⟩,rfl,fun j=>by simp[VR]⟩
 | str=>obtain⟨s,rfl,hw⟩:=h;exact⟨.str s.data.toList,⟨_,rfl,by rw[rjZ];exact hw⟩,rfl,fun j=>by simp[VR]⟩
 | bool=>obtain⟨b,rfl⟩:=h;exact⟨.bool b,⟨b,rfl⟩,rfl,fun j=>by simp[VR]⟩
theorem prims_a:∀{ps:List Prim} {vs:List Value},All2 PrimOk ps vs→∃xs,All2 PrimA ps xs∧xs.length=vs.length∧∀(i:Nat) x,xs[i]? = some x→∃v,vs[i]? = some v∧∀j,VR j x v
 | [],[],_=>⟨[],trivial,rfl,fun i x h=>by simp at h⟩
 | p::ps,v::vs,h=>by
   obtain⟨x,h1,_,h2⟩:=prim_a h.1;obtain⟨xs,g1,g2,g3⟩:=prims_a h.2
   refine ⟨x::xs,⟨h1,g1⟩,by simp[g2],fun i y hy=>?_⟩
   cases i with
   | zero=>simp at hy;subst hy;exact⟨v,rfl,h2⟩
   | succ i=>exact g3 i y (by simpa using hy)
 | [],_::_,h=>h.elim
 | _::_,[],h=>h.elim
theorem addr_plain_add(B O i:Nat):(⟨B,O,none⟩:Addr).add i=⟨B,O+i,none⟩:=by
 unfold Addr.add;split
 · rename_i h;subst h;rfl
 · rfl
def SomeBlk(w:World):Prop:=∃(q:Nat) (cs:Array Value) (T:TypeId) (fz:Nat×Nat),w.heap[q]? = some (Obj.cells cs T fz)
theorem cells_abs{w:World}:∀(ts:List CT) (cs:List Value) (k:Nat),All2 (CellOk w) ts cs→(∀v∈cs,∀a len cap,v=.slice (some a) len cap→SomeBlk w) →
   ∃(xs:List AV) (H:AHeap) (js:List (Option JB)),AbsOk ts k xs H∧js.length=H.length∧(∀(i:Nat) B p,H[i]? = some B→js[i]? = some p→p≠none→∀j q,p=some q→BRel j w B q) ∧
     (∀j:Inj,(∀i,i<js.length→j (k+i)=(js[i]?).join)→VRs j xs cs)∧(∀(i:Nat) (B:ABlk),H[i]? = some B→∃l,B=.cells false l)
 | [],[],k,_,_=>⟨[],[],[],trivial,rfl,fun i B p h=>by simp at h,fun j _=>by simp[VRs],fun i B h=>by simp at h⟩
 | .one p::ts,v::cs,k,h,hE=>by
   obtain⟨x,h1,_,h2⟩:=prim_a h.1
   obtain⟨xs,H,js,g1,g2,g3,g4,g5⟩:=cells_abs ts cs k h.2 fun v hv=>hE v (qiZ _ hv)
   exact⟨x::xs,H,js,⟨h1,g1⟩,g2,g3,fun j hj=>⟨v,cs,rfl,h2 j,g4 j hj⟩,g5⟩
 | .row el::ts,v::cs,k,h,hE=>by
   obtain⟨xs,H,js,g1,g2,g3,g4,g5⟩:=cells_abs ts cs (k+1) h.2 fun v hv=>hE v (qiZ _ hv)
   have key:∃(x:AV) (l:List AV) (n:Nat) (p:Option JB),(n=0∧x=.nils∨x=.slice k 0 n el.length false)∧n≤maxLen∧All2 PrimA (qbZ n el).flatten l∧(∀j q,p=some q→BRel j w (.cells false l) q)∧∀j:Inj,j k=p→VR j x v:=by
     rcases h.1 with rfl | ⟨a,len,cap,l,rfl,hle,hm,h0,hl,hc⟩
     · exact⟨.nils,[],0,none,.inl ⟨rfl,rfl⟩,by simp,by simp[All2],fun j q h=>(by cases h),fun j _=>by simp[VR]⟩
     · by_cases hz:cap=0
       · subst hz
         obtain rfl:len=0:=by omega
         obtain⟨q,c,T,fz,hq⟩:=hE _ (qhZ ..) a 0 0 rfl
         refine ⟨.slice k 0 0 el.length false,[],0,some ⟨q,0,c.size⟩,.inr rfl,by simp,by simp[All2],fun j q' h=>?_,fun j hj=>?_⟩
         · cases h
           exact⟨c,T,fz,hq,rfl,by simp,fun i x hx=>by simp at hx,fun h=>by cases h⟩
         · simp only[VR]
           exact⟨_,a,0,hj,rfl,by omega,fun h=>(by cases h),by simp,.inl rfl⟩
       · have hll:l.length=cap*el.length:=by rw[←hl.length,flatten_replicate_length]
         have hpos:0<l.length:=by rw[hll];exact Nat.mul_pos (by omega) h0
         obtain⟨xs',p1,p2,p3⟩:=prims_a (hl.take (len*el.length));rw[take_flatten_replicate _ _ _ hle]at p1
         have hlast:=hc (l.length-1) l[l.length-1] (by rw[q3Z])
         have hfirst:=hc 0 l[0] (by rw[q3Z])
         have ha:=addr_plain (w:=w) (x:=a) (v:=l[0]) (by simpa[Addr.add] using hfirst)
         obtain⟨B,O,S⟩:=a;cases ha
         have hcell:∀(i:Nat) u,w.cell? ⟨B,O+i,none⟩=some u→∃c T fz,w.heap[B]? = some (.cells c T fz)∧c[O+i]? = some u:=by
           intro i u hu;unfold World.cell? at hu;dsimp only at hu;split at hu
           · rename_i c T fz hh
             exact⟨c,T,fz,hh,by simpa using hu⟩
           · cases hu
         obtain⟨c,T,fz,hB,hcl⟩:=hcell (l.length-1) _ (by rw[←addr_plain_add];exact hlast)
         have hsz:=(qtZ.1 hcl).1
         have hxl:xs'.length=len*el.length:=by rw[p2,qjZ,hll];exact sfZ (Nat.mul_le_mul_right _ hle)
         have hle2:len*el.length≤cap*el.length:=Nat.mul_le_mul_right _ hle
         refine ⟨.slice k 0 len el.length false,xs',len,some ⟨B,O,c.size⟩,.inr rfl,by omega,p1,fun j q' h=>?_,fun j hj=>?_⟩
         · cases h
           refine ⟨c,T,fz,hB,rfl,by dsimp only;omega,fun i x hx=>?_,fun h=>by cases h⟩
           obtain⟨u,hu,hv⟩:=p3 i x hx;rw[r4Z]at hu;split at hu
           · obtain⟨c',T',fz',hB',hu'⟩:=hcell i u (by rw[←addr_plain_add];exact hc i u hu)
             rw[hB]at hB';cases hB';exact⟨u,hu',hv j⟩
           · cases hu
         · simp only[VR]
           exact⟨_,_,cap,hj,rfl,hle,fun h=>(by cases h),hm,.inr ⟨rfl,by dsimp only;omega⟩⟩
   obtain⟨x,l,n,p,k1,k2,k3,k4,k5⟩:=key
   refine ⟨x::xs,.cells false l::H,p::js,⟨⟨l,n,rfl,k1,k2,k3⟩,g1⟩,by simp[g2],fun i B p' hB hp hne j q hq=>?_,fun j hj=>?_,fun i B hB=>?_⟩
   · cases i with
     | zero=>simp at hB hp;subst hB;subst hp;exact k4 j q hq
     | succ i=>exact g3 i B p' (by simpa using hB) (by simpa using hp) hne j q hq
   · refine ⟨v,cs,rfl,k5 j (by simpa using hj 0 (by simp)),g4 j fun i hi=>?_⟩
     have:=hj (i+1) (by simp;omega)
     rw[show k+1+i=k+(i+1) by omega,this]
     simp
   · cases i with
     | zero=>simp at hB;exact⟨l,hB.symm⟩
     | succ i=>exact g5 i B (by simpa using hB)
 | [],_::_,_,h,_=>h.elim
 | .one _::_,[],_,h,_=>h.elim
 | .row _::_,[],_,h,_=>h.elim
end
section
open Go.ChangeShapes Go.WideShapes Go.ChangeAt Go.RowKit
def isAggT(P:Program)(t:TypeId):Option Bool :=
 match P.underlying t with
 | some (.struct _)=>some true
 | some (.array _ _)=>some true
 | some .bool=>some false
 | some (.int _)=>some false
 | some .string=>some false
 | some (.slice _)=>some false
 | _=>none
section
variable {H:Type} {enc:TypeId×Value→H} {P:Program} {w:World} {base base':Nat}
theorem someBlk_cell{u:TypeId}{a:Addr}{len cap:Nat}(h:Cell.okWide P w .any base u (.slice (some a) len cap)):SomeBlk w:=by
 unfold Cell.okWide at h;split at h
 all_goals first
   | (rename_i hv;cases hv)
   | skip
 all_goals try (exfalso;rename_i hv _;cases hv)
 unfold Cell.ok at h;split at h
 all_goals try (exact h.elim)
 all_goals try (rename_i hv;cases hv)
 obtain⟨_,_,_,_,row,cells,hs,_⟩:=h;unfold World.shape? at hs;split at hs
 · rename_i c T fz hh
   exact⟨_,c,T,fz,hh⟩
 · cases hs
theorem val_form{t:TypeId}{b:Bool}{v:Value}(hb:isAggT P t=some b)(hv:Value.okWide P w .any base t v) :
   (b=true→∃cs,v=.agg cs)∧(b=false→v.cells=#[v])∧∀u∈v.cells.toList,∀a len cap,u=.slice (some a) len cap→SomeBlk w:=by
 unfold isAggT at hb
 have agg:(∃cs:Array Value,v=.agg cs∧cs.size=P.cellsOf t∧Row.okWide P w .any base t cs)→∀u∈v.cells.toList,∀a len cap,u=.slice (some a) len cap→SomeBlk w:=by
   rintro⟨cs,rfl,_,ts,_,_,hr⟩ u hu a len cap rfl;obtain⟨i,hi⟩:=List.getElem?_of_mem hu
   obtain⟨t',_,hc⟩:=hr i _ (by simpa[Value.cells] using hi)
   exact someBlk_cell hc
 have cell:Cell.okWide P w .any base t v→(∀cs,v≠.agg cs)→v.cells=#[v]∧∀u∈v.cells.toList,∀a len cap,u=.slice (some a) len cap→SomeBlk w:=by
   intro hc hne
   have e:v.cells=#[v]:=by
     cases v <;> first | rfl | exact absurd rfl (hne _)
   refine ⟨e,fun u hu a len cap hua=>?_⟩
   rw[e]at hu;simp at hu;subst hu;subst hua;exact someBlk_cell hc
 unfold Value.okWide at hv
 split at hb <;> rename_i hu <;> first | cases hb | skip
 · rw[hu]at hv
   exact⟨fun _=>⟨hv.choose,hv.choose_spec.1⟩,fun h=>(by cases h),agg hv⟩
 · rw[hu]at hv
   exact⟨fun _=>⟨hv.choose,hv.choose_spec.1⟩,fun h=>(by cases h),agg hv⟩
 all_goals
   rw[hu]at hv
   have hc:=cell hv fun cs hcs=>by
     subst hcs;simp only[Cell.okWide,Cell.ok,hu]at hv
   exact⟨fun h=>(by cases h),fun _=>hc.1,hc.2⟩
theorem trodAll_below(hl:laidOutB P=true):∀(ts:List TypeId),ts.all (fun t=>P.readableRec t&&decide (t<P.types.size))=true→∀{w':World} {vs:List Value} {ds:List (DataW H)} {ps:List MemPlace},
   DataW.TrodAll enc P w 0 (fun _=>true) true ts vs ds ps→Below w.heap.size w w'→DataW.TrodAll enc P w' 0 (fun b=>decide (b<w.heap.size)) true ts vs ds ps
 | [],_,w',vs,ds,ps,h,_=>by
   obtain⟨rfl,rfl,rfl⟩:=trodAll_nil h;exact trodAll_mk0
 | t::ts,hr,w',vs,ds,ps,h,hb=>by
   obtain⟨v,vs',d,ds',p,q,rfl,rfl,rfl,hT,hA'⟩:=trodAll_cons h;simp only[List.all_cons,qrZ,decide_eq_true_eq]at hr;obtain⟨m,hm⟩:=hT
   exact trodAll_cons_mk (Below.trod hl hr.1.1 hr.1.2 ⟨m,hm⟩ hb fun x hx=>DataW.trod_lt m _ _ _ hm x hx) (trodAll_below hl ts (by simpa using hr.2) hA' hb)
end
end
theorem absOk_one{p:Prim}{ts:List CT}{k:Nat}{xs:List AV}{H:AHeap}(h:AbsOk (.one p::ts) k xs H):∃x ys,xs=x::ys∧PrimA p x∧AbsOk ts k ys H:=by
 cases xs with
 | nil=>exact h.elim
 | cons x ys =>
   simp only[AbsOk]at h;exact⟨x,ys,rfl,h.1,h.2⟩
theorem absOk_nil{k:Nat}{xs:List AV}{H:AHeap}(h:AbsOk [] k xs H):xs=[]∧H=[]:=by
 cases xs <;> cases H <;> first | exact⟨rfl,rfl⟩ | exact h.elim
theorem trodAll_len{H:Type}{enc:TypeId×Value→H}{P:Program}{w:World}{base:Nat}{spare:Nat→Bool}{held:Bool}:∀{ts:List TypeId} {vs:List Value} {ds:List (DataW H)} {ps:List MemPlace},DataW.TrodAll enc P w base spare held ts vs ds ps→ds.length=ts.length
 | [],vs,ds,ps,h=>by
   obtain⟨_,rfl,_⟩:=Go.ChangeShapes.trodAll_nil h;rfl
 | t::ts,vs,ds,ps,h=>by
   obtain⟨v,vs',d,ds',p,q,rfl,rfl,rfl,hT,hA'⟩:=Go.ChangeShapes.trodAll_cons h;simp[trodAll_len hA']
section
open Go
attribute [-simp] drawOk_eq adraw qrun acode aops
def cutS:Summ:=pureS fun
 | [.str s,.str p]=>if p.length≤1000000000000∧s.length≤1000000000000 then some (if s.take p.length=p then .tuple [.str (s.drop p.length),.bool true] else .tuple [.str s,.bool false]) else none
 | _=>none
def cutInl:List FuncId:=[185,235]
theorem cutΓ_ok:GOk Pz (runG Pz (gams []) 0 cutInl 2):=gok_run hmix goks_nil 0 cutInl 2
theorem cut_ct(s p:List UInt8)(_hs:s.length≤1000000000000)(_hp:p.length≤1000000000000) :
   Ct Pz 118 [.str s,.str p] [] (if s.take p.length=p then .tuple [.str (s.drop p.length),.bool true] else .tuple [.str s,.bool false]) []:=by
 by_cases h:s.take p.length=p
 · have hl:p.length≤s.length:=by have:=congrArg List.length h;simp at this;omega
   have hd:(s.drop p.length).take (s.length-p.length)=s.drop p.length:=q6Z (by simp)
   rw[if_pos h]
   refine ct_val hmix cutΓ_ok (n:=0) Tryz.func118 ?_ (by simp)
   unfold Tryz.f118;simp[cutInl,Tryz.f185,Tryz.f235,h,hl,hd]
 · rw[if_neg h]
   refine ct_val hmix cutΓ_ok (n:=0) Tryz.func118 ?_ (by simp)
   unfold Tryz.f118;by_cases hl:p.length≤s.length
   · simp[cutInl,Tryz.f185,Tryz.f235,h,hl]
   · simp[cutInl,Tryz.f185,Tryz.f235,hl]
theorem cut_sound:Sound Pz 118 cutS:=by
 refine sound_pure (enter_of Tryz.func118 rfl (by decide)) fun args v h=>?_
 split at h <;> try cases h
 rename_i s p
 split at h <;> cases h
 rename_i hc
 exact⟨cut_ct s p hc.2 hc.1,by simp,by split <;> simp⟩
end
end Go.Proofs.YtpmfecnajoojeaaGreatDoor
