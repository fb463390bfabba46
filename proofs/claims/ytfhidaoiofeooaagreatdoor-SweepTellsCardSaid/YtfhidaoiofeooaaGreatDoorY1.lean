/- Parts of the proof of SweepTells: lemmas, each with its own conditions. -/
import Derived.WalkSpells
import Derived.WalkLawsBesides
import Derived.Lib.Hide
import Derived.Laws.BytesArg
import Derived.ControlIn
import Derived.Lib.Strings
import Derived.RangeFuncNested
import Derived.RangeFuncLeaves
import Derived.RangeFuncRecord
import Derived.Shelf.Abstract
import Derived.Shelf.RegionOpen
import Derived.OwnWalkIn
import Derived.TacticsInMore
import Derived.LoopNIn
import Derived.LoopIn
import Derived.Below
import Derived.Laws.StructEq
import Derived.Laws.IdiomCopy
import Derived.ArgAppend
import Derived.MapKept
import Derived.Test.YtfhidaoiofeooaaGreatDoorY0
set_option maxHeartbeats 64000000
open List renaming getElem?_eq_some_iff → q1Z, getD_eq_getElem?_getD → q2Z, getElem?_eq_getElem → q3Z, take_of_length_le → q6Z, length_cons → q7Z, replicate → qbZ, mem_of_getElem? → qcZ, length_append → qdZ, append_assoc → qeZ, length_take → qjZ, mem_cons → qwZ, getElem?_map → qzZ, getElem_mem → r3Z, getElem?_take → r4Z, getElem?_drop → r5Z, length_set → r8Z, not_mem_nil → rtZ, getElem?_eq_none → s4Z, all_eq_true → s5Z, getElem?_append → s7Z
open Option renaming map_eq_some_iff → qlZ, getD_some → rgZ, map_some → rhZ, bind_eq_some_iff → s6Z
open Nat renaming le_refl → qnZ, zero_le → qqZ, lt_of_lt_of_le → rlZ, lt_or_ge → s2Z, min_eq_left → sfZ
open Bool renaming and_eq_true → qrZ, false_eq_true → qsZ
open Array renaming getElem?_eq_some_iff → qtZ, getD_eq_getD_getElem? → qvZ, getElem?_toList → riZ, length_toList → rjZ, toList_append → rxZ
namespace Go.Proofs.YtfhidaoiofeooaaGreatDoor
set_option maxRecDepth 100000
section
open Go.RowKit
theorem zMq(a:List UInt8):(ByteArray.mk a.toArray).size=a.length:=by simp[ByteArray.size]
end
section
open Go.RowKit Go.Shelf
end
structure JB where
 blk:Nat
 base:Nat
 size:Nat
structure Inj where
 fn:Nat->Option JB
 foot:Nat->List Nat:=fun _=>[]
 shr:Nat->List Nat:=fun _=>[]
instance:CoeFun Inj fun _=>Nat->Option JB:=⟨Inj.fn⟩
inductive AV where
 | top
 | bool (b:Bool)
 | int (k:IntKind) (n:Int)
 | str (s:List UInt8)
 | ptr (b off:Nat)
 | nilp
 | slice (b off len sz:Nat) (clip:Bool)
 | sl (b off len sz:Nat) (clip:Bool)
 | nils
 | map (b:Nat)
 | nilm
 | func (f:Nat) (first cap:List AV)
 | yld (b:Nat)
 | nilf
 | agg (l:List AV)
 | tuple (l:List AV)
 deriving Inhabited
mutual
def VR(j:Inj):AV->Value->Prop
 | .top,_=>True
 | .bool b,v=>v=.bool b
 | .int k n,v=>v=.int k n
 | .str s,v=>v=.string ⟨s.toArray⟩
 | .ptr b off,v=>∃p,j b=some p/\v=.pointer (some ⟨p.blk,p.base+off,none⟩)
 | .nilp,v=>v=.pointer none
 | .slice b off len sz clip,v=>∃p a cap,j b=some p/\v=.slice (some a) len cap/\len<=cap/\(clip=true->cap=len)/\cap<=maxLen /\
     (cap=0\/(a=⟨p.blk,p.base+off,none⟩/\p.base+off+cap*sz<=p.size))
 | .sl b off len sz clip,v=>(len=0/\v=.slice none 0 0)\/∃p a cap,j b=some p/\v=.slice (some a) len cap/\len<=cap/\(clip=true->cap=len)/\cap<=maxLen /\
     (cap=0\/(a=⟨p.blk,p.base+off,none⟩/\p.base+off+cap*sz<=p.size))
 | .nils,v=>v=.slice none 0 0
 | .map b,v=>∃p,j b=some p/\v=.map (some p.blk)
 | .nilm,v=>v=.map none
 | .func f xs ys,v=>∃cx cy,v=.func (.func f) cx cy/\VRs j xs cx.toList/\VRs j ys cy.toList
 | .yld b,v=>∃p,j b=some p/\v=.func (.yield p.blk) #[] #[]
 | .nilf,v=>v=.nilFunc
 | .agg l,v=>∃cs,v=.agg cs/\VRs j l cs.toList
 | .tuple l,v=>∃cs,v=.tuple cs/\VRs j l cs.toList
def VRs(j:Inj):List AV->List Value->Prop
 | [],vs=>vs=[]
 | x::xs,vs=>∃v ws,vs=v::ws/\VR j x v/\VRs j xs ws
end
def JLe(j j':Inj):Prop:=∀b p,j b=some p->j' b=some p
theorem JLe.refl(j:Inj):JLe j j:=fun _ _ h=>h
mutual
theorem VR.mono{j j':Inj}(h:JLe j j'):∀(x:AV) (v:Value),VR j x v->VR j' x v
 | .top,_,_=>by simp[VR]
 | .bool b,v,hv=>by simpa[VR] using hv
 | .int k n,v,hv=>by simpa[VR] using hv
 | .str s,v,hv=>by simpa[VR] using hv
 | .ptr b off,v,hv=>by
   simp only[VR]at hv ⊢;obtain⟨p,hp,e⟩:=hv;exact⟨p,h b p hp,e⟩
 | .nilp,v,hv=>by simpa[VR] using hv
 | .slice b off len sz clip,v,hv=>by
   simp only[VR]at hv ⊢;obtain⟨p,a,cap,hp,r⟩:=hv;exact⟨p,a,cap,h b p hp,r⟩
 | .sl b off len sz clip,v,hv=>by
   simp only[VR]at hv ⊢;rcases hv with hv | ⟨p,a,cap,hp,r⟩
   · exact .inl hv
   · exact .inr ⟨p,a,cap,h b p hp,r⟩
 | .nils,v,hv=>by simpa[VR] using hv
 | .map b,v,hv=>by
   simp only[VR]at hv ⊢;obtain⟨p,hp,e⟩:=hv;exact⟨p,h b p hp,e⟩
 | .nilm,v,hv=>by simpa[VR] using hv
 | .func f xs ys,v,hv=>by
   simp only[VR]at hv ⊢;obtain⟨cx,cy,e,h1,h2⟩:=hv;exact⟨cx,cy,e,VRs.mono h xs _ h1,VRs.mono h ys _ h2⟩
 | .yld b,v,hv=>by
   simp only[VR]at hv ⊢;obtain⟨p,hp,e⟩:=hv;exact⟨p,h b p hp,e⟩
 | .nilf,v,hv=>by simpa[VR] using hv
 | .agg l,v,hv=>by
   simp only[VR]at hv ⊢;obtain⟨cs,e,h1⟩:=hv;exact⟨cs,e,VRs.mono h l _ h1⟩
 | .tuple l,v,hv=>by
   simp only[VR]at hv ⊢;obtain⟨cs,e,h1⟩:=hv;exact⟨cs,e,VRs.mono h l _ h1⟩
theorem VRs.mono{j j':Inj}(h:JLe j j'):∀(xs:List AV) (vs:List Value),VRs j xs vs->VRs j' xs vs
 | [],vs,hv=>by simpa[VRs] using hv
 | x::xs,vs,hv=>by
   simp only[VRs]at hv ⊢;obtain⟨v,ws,e,h1,h2⟩:=hv;exact⟨v,ws,e,VR.mono h x v h1,VRs.mono h xs ws h2⟩
end
theorem zDC{j:Inj}{b off len sz:Nat}{clip:Bool}{v:Value}(h:VR j (.sl b off len sz clip) v):(len=0/\v=.slice none 0 0)\/VR j (.slice b off len sz clip) v:=by
 simp only[VR]at h ⊢;exact h
theorem zE4{j:Inj}{b off len sz:Nat}{clip:Bool}{v:Value}(h:VR j (.slice b off len sz clip) v):VR j (.sl b off len sz clip) v:=by
 simp only[VR]at h ⊢;exact .inr h
theorem zCP{j:Inj}{b off len sz:Nat}{clip:Bool}{v:Value}(hn:0<len)(h:VR j (.sl b off len sz clip) v):VR j (.slice b off len sz clip) v:=by
 rcases zDC h with⟨h0,_⟩ | h1
 · omega
 · exact h1
theorem VRs.length{j:Inj}:∀{xs:List AV} {vs:List Value},VRs j xs vs->xs.length=vs.length
 | [],vs,h=>by simp only[VRs]at h;subst h;rfl
 | x::xs,vs,h=>by
   simp only[VRs]at h;obtain⟨v,ws,rfl,_,h2⟩:=h;simp[VRs.length h2]
theorem VRs_iff{j:Inj}:∀{xs:List AV} {vs:List Value},VRs j xs vs↔xs.length=vs.length/\∀(i:Nat) x v,xs[i]? = some x->vs[i]? = some v->VR j x v
 | [],vs=>by
   simp only[VRs];constructor
   · rintro rfl;simp
   · rintro⟨h,_⟩;exact List.eq_nil_of_length_eq_zero (by simpa using h.symm)
 | x::xs,vs=>by
   simp only[VRs];constructor
   · rintro⟨v,ws,rfl,h1,h2⟩
     have:=(VRs_iff (xs:=xs) (vs:=ws)).1 h2;refine ⟨by simp[this.1],fun i y u hy hu=>?_⟩;cases i with
     | zero=>simp at hy hu;subst hy;subst hu;exact h1
     | succ i=>exact this.2 i y u (by simpa using hy) (by simpa using hu)
   · rintro⟨hl,h⟩
     cases vs with
     | nil=>simp at hl
     | cons v ws =>
       refine ⟨v,ws,rfl,h 0 x v rfl rfl,?_⟩;exact (VRs_iff (xs:=xs) (vs:=ws)).2 ⟨by simpa using hl,fun i y u hy hu=>h (i+1) y u (by simpa using hy) (by simpa using hu)⟩
theorem VRs.at{j:Inj}{xs:List AV}{vs:List Value}(h:VRs j xs vs){i:Nat}{x:AV}(hx:xs[i]? = some x):∃v,vs[i]? = some v/\VR j x v:=by
 have:=VRs_iff.1 h;have hi:i<xs.length:=by
   rcases s2Z i xs.length with h1 | h1
   · exact h1
   · rw[s4Z h1]at hx;cases hx
 exact⟨vs[i]'(by omega),q3Z _,this.2 i x _ hx (q3Z _)⟩
theorem VRs.set{j:Inj}{xs:List AV}{vs:List Value}(h:VRs j xs vs)(i:Nat){x:AV}{v:Value}(hx:VR j x v):VRs j (xs.set i x) (vs.set i v):=by
 have:=VRs_iff.1 h;refine VRs_iff.2 ⟨by simp[this.1],fun k y u hy hu=>?_⟩;rw[List.getElem?_set]at hy hu;by_cases hk:i=k
 · subst hk
   simp only[↓reduceIte]at hy hu;split at hy <;> split at hu <;> simp_all
 · simp only[hk,↓reduceIte]at hy hu
   exact this.2 k y u hy hu
theorem VRs.append{j:Inj}{xs ys:List AV}{vs ws:List Value}(h:VRs j xs vs)(k:VRs j ys ws):VRs j (xs++ys) (vs++ws):=by
 have h1:=VRs_iff.1 h;have h2:=VRs_iff.1 k;refine VRs_iff.2 ⟨by simp[h1.1,h2.1],fun i y u hy hu=>?_⟩;rw[s7Z]at hy hu;rw[h1.1]at hy;split at hy <;> rename_i hlt
 · rw[if_pos hlt]at hu
   exact h1.2 i y u hy hu
 · rw[if_neg hlt]at hu
   exact h2.2 _ y u hy hu
theorem VRs.take{j:Inj}{xs:List AV}{vs:List Value}(h:VRs j xs vs)(n:Nat):VRs j (xs.take n) (vs.take n):=by
 have h1:=VRs_iff.1 h;refine VRs_iff.2 ⟨by simp[h1.1],fun i y u hy hu=>?_⟩;rw[r4Z]at hy hu;split at hy <;> rename_i hlt
 · rw[if_pos hlt]at hu
   exact h1.2 i y u hy hu
 · cases hy
theorem VRs.drop{j:Inj}{xs:List AV}{vs:List Value}(h:VRs j xs vs)(n:Nat):VRs j (xs.drop n) (vs.drop n):=by
 have h1:=VRs_iff.1 h;refine VRs_iff.2 ⟨by simp[h1.1],fun i y u hy hu=>?_⟩;rw[r5Z]at hy hu;exact h1.2 _ y u hy hu
theorem VRs.replicate{j:Inj}{x:AV}{v:Value}(h:VR j x v)(n:Nat):VRs j (qbZ n x) (qbZ n v):=by
 refine VRs_iff.2 ⟨by simp,fun i y u hy hu=>?_⟩;rw[List.getElem?_replicate]at hy hu;split at hy <;> simp_all
theorem VRs.map{α:Type}{j:Inj}(l:List α)(f:α->AV)(g:α->Value)(h:∀a∈l,VR j (f a) (g a)):VRs j (l.map f) (l.map g):=by
 refine VRs_iff.2 ⟨by simp,fun i y u hy hu=>?_⟩;rw[qzZ]at hy hu;cases hg:l[i]? with
 | none=>rw[hg]at hy;cases hy
 | some a =>
   rw[hg]at hy hu;cases hy;cases hu
   exact h a (qcZ hg)
inductive ABlk where
 | dead
 | cells (own:Bool) (l:List AV)
 | loop (ps:Array Tmp) (assign body:Code) (st:LoopState) (pe:Option Code) (F:List AV)
 | map (es:List (AV×AV))
 | obj (own:Bool) (sub:List ABlk)
 | pin (l:List AV)
 deriving Inhabited
abbrev zA:=List ABlk
def ABlk.own:ABlk->Bool
 | .dead=>false
 | .cells o _=>o
 | .loop ..=>true
 | .map _=>true
 | .obj o _=>o
 | .pin _=>false
def ABlk.isObj:ABlk->Bool
 | .obj _ _=>true
 | _=>false
def ABlk.str(x:ABlk):Bool:=x.own || x.isObj
theorem Zj{y:ABlk}(h:y.own=true):y≠.dead:=by rintro rfl;cases h
def zNa(fn:FuncId)(tmps:Array Value)(ps:Array Tmp)(assign body:Code)(D:Nat)(st:LoopState)(pe:Option Code):Obj :=
 .loop { state:=st,pending:=pe,fn,tmps,params:=ps,assign,body,defers:=D }
def MRel(j:Inj)(es:List (AV×AV))(ents:List MapEntry):Prop:=es.length=ents.length/\∀(i:Nat) x e,es[i]? = some x->ents[i]? = some e->VR j x.1 e.key/\VR j x.2 e.val
theorem MRel.mono{j j':Inj}(h:JLe j j'){es:List (AV×AV)}{ents:List MapEntry}(hm:MRel j es ents):MRel j' es ents :=
 ⟨hm.1,fun i x e hx he=>⟨VR.mono h _ _ (hm.2 i x e hx he).1,VR.mono h _ _ (hm.2 i x e hx he).2⟩⟩
def BRel(j:Inj)(w:World):ABlk->JB->Prop
 | .map es,p=>∃ents clock,w.heap[p.blk]? = some (.map ents clock)/\MapKept.Stamped ents clock/\MRel j es ents.toList
 | .dead,_=>True
 | .obj _ _,_=>True
 | .pin l,p=>p.base=0/\∃cs T fz,w.heap[p.blk]? = some (.cells cs T fz)/\∀(i:Nat) x,l[i]? = some x->∃v,cs[i]? = some v/\VR j x v
 | .cells own l,p=>∃cs T fz,w.heap[p.blk]? = some (.cells cs T fz)/\cs.size=p.size/\p.base+l.length<=p.size /\
     (∀(i:Nat) x,l[i]? = some x->∃v,cs[p.base+i]? = some v/\VR j x v)/\(own=true->∀i,i<p.size->¬(fz.1<=i/\i<fz.2))
 | .loop ps assign body st pe F,p=>∃fn tmps D,w.heap[p.blk]? = some (zNa fn tmps ps assign body D st pe)/\VRs j F tmps.toList
def Zu(j:Inj):ABlk->Nat->List Nat
 | .obj true _,b=>j.foot b
 | _,_=>[]
def ZN(j:Inj):ABlk->Nat->List Nat
 | .obj _ _,b=>j.foot b++j.shr b
 | _,_=>[]
theorem zTK{j:Inj}{x:ABlk}{b u:Nat}(h:u∈Zu j x b):u∈ZN j x b:=by
 cases x with
 | obj o s=>cases o <;> simp_all [Zu,ZN]
 | _=>simp_all [Zu]
theorem zFZ{x:ABlk}(h:x.own=true):x.str=true:=by simp[ABlk.str,h]
theorem zO1{x:ABlk}(h:x.isObj=true):x.str=true:=by simp[ABlk.str,h]
theorem zEo{x:ABlk}(h:x.str=true):x≠.dead:=by rintro rfl;cases h
theorem zCN{j:Inj}{x:ABlk}{b:Nat}(h:x.isObj=false):ZN j x b=[]:=by cases x <;> simp_all [ZN,ABlk.isObj]
theorem zFf{j:Inj}{x:ABlk}{b:Nat}(h:x.isObj=false):Zu j x b=[]:=by cases x <;> simp_all [Zu,ABlk.isObj]
def ND(w:World)(u:Nat):Prop:=∃o,w.heap[u]? = some o/\∀l,o≠.deferred l
theorem ND.lt{w:World}{u:Nat}(h:ND w u):u<w.heap.size:=by
 obtain⟨o,h1,_⟩:=h;exact (qtZ.1 h1).1
structure OK (js:Inj) (sub:zA) (w:World) (p:JB) (foot shr:List Nat):Prop where
 root:js 0=some p
 own:∃B,sub[0]? = some B/\B.own=true
 rnd:ND w p.blk
 hnd:∀u∈foot++shr,ND w u
 mine:∀i y q,sub[i]? = some y->y.own=true->js i=some q->(i≠0->q.blk∈foot)/\∀u∈Zu js y i,u∈foot
 str:∀(i:Nat) (y:ABlk),sub[i]? = some y->y≠.dead->y.str=true
 all:∀i y q,sub[i]? = some y->y≠.dead->js i=some q->(i≠0->q.blk∈foot++shr)/\∀u∈ZN js y i,u∈foot++shr
theorem OK.lt{js:Inj}{sub:zA}{w:World}{p:JB}{foot shr:List Nat}(h:OK js sub w p foot shr):p.blk<w.heap.size:=h.rnd.lt
def Occ(j:Inj)(H:zA)(u:Nat):Prop:=∃b y p,H[b]? = some y/\y.own=true/\j b=some p/\(u=p.blk\/u∈Zu j y b)
def GloR(j:Inj)(H:zA)(w:World):Prop:=GloW w/\∀u,u<gsz->¬Occ j H u
theorem GloR.next{j j':Inj}{H H':zA}{w w':World}(h:GloR j H w)(hs:w.heap.size<=w'.heap.size)(hk:∀c,c<w.heap.size->¬Occ j H c->w'.heap[c]? = w.heap[c]?)(hf:∀u,Occ j' H' u->w.heap.size<=u\/Occ j H u):GloR j' H' w':=by
 have hg:=h.1.2;refine ⟨h.1.next hs fun u hu=>hk u (by omega) (h.2 u hu),fun u hu ho=>?_⟩;rcases hf u ho with h1 | h1
 · omega
 · exact h.2 u hu h1
inductive R:Inj->zA->World->Prop
 | mk {j:Inj} {H:zA} {w:World} (js:Nat->Inj)
   (dom:∀b,H.length<=b->j b=none)
   (blk:∀b x p,H[b]? = some x->j b=some p->BRel j w x p)
   (inj:∀b b' y x p p',H[b]? = some y->y.own=true->H[b']? = some x->x≠.dead->b≠b'->j b=some p->j b'=some p'->p.blk≠p'.blk)
   (hid:∀b b' y x p p',H[b]? = some y->y.own=true->H[b']? = some x->x≠.dead->b≠b'->j b=some p->j b'=some p'->p.blk∉ZN j x b'/\∀u∈Zu j y b,u≠p'.blk/\u∉ZN j x b')
   (ok:∀b o s p,H[b]? = some (.obj o s)->j b=some p->OK (js b) s w p (j.foot b) (j.shr b))
   (sub:∀b o s p,H[b]? = some (.obj o s)->j b=some p->R (js b) s w) (glo:GloR j H w):R j H w
theorem R.glo{j:Inj}{H:zA}{w:World}(h:R j H w):GloR j H w:=by cases h;assumption
theorem R.dom{j:Inj}{H:zA}{w:World}(h:R j H w):∀b,H.length<=b->j b=none:=by cases h;assumption
theorem R.blk{j:Inj}{H:zA}{w:World}(h:R j H w):∀b x p,H[b]? = some x->j b=some p->BRel j w x p:=by cases h;assumption
theorem R.inj{j:Inj}{H:zA}{w:World}(h:R j H w):∀b b' y x p p',H[b]? = some y->y.own=true->H[b']? = some x->x≠.dead->b≠b'->j b=some p->j b'=some p'->p.blk≠p'.blk:=by cases h;assumption
theorem R.hid{j:Inj}{H:zA}{w:World}(h:R j H w):∀b b' y x p p',H[b]? = some y->y.own=true->H[b']? = some x->x≠.dead->b≠b'->j b=some p->j b'=some p'->p.blk∉ZN j x b'/\∀u∈Zu j y b,u≠p'.blk/\u∉ZN j x b':=by cases h;assumption
theorem R.obj{j:Inj}{H:zA}{w:World}(h:R j H w):∀b o s p,H[b]? = some (.obj o s)->j b=some p->∃js,OK js s w p (j.foot b) (j.shr b)/\R js s w:=by
 cases h with
 | mk js dom blk inj hid ok sub glo=>exact fun b o s p hb hp=>⟨js b,ok b o s p hb hp,sub b o s p hb hp⟩
theorem R.mk'{j:Inj}{H:zA}{w:World}(dom:∀b,H.length<=b->j b=none)
   (blk:∀b x p,H[b]? = some x->j b=some p->BRel j w x p)
   (inj:∀b b' y x p p',H[b]? = some y->y.own=true->H[b']? = some x->x≠.dead->b≠b'->j b=some p->j b'=some p'->p.blk≠p'.blk)
   (hid:∀b b' y x p p',H[b]? = some y->y.own=true->H[b']? = some x->x≠.dead->b≠b'->j b=some p->j b'=some p'->p.blk∉ZN j x b'/\∀u∈Zu j y b,u≠p'.blk/\u∉ZN j x b')
   (obj:∀b o s p,H[b]? = some (.obj o s)->j b=some p->∃js,OK js s w p (j.foot b) (j.shr b)/\R js s w) (glo:GloR j H w):R j H w:=by
 have key:∀b,∃js,∀o s p,H[b]? = some (.obj o s)->j b=some p->OK js s w p (j.foot b) (j.shr b)/\R js s w:=by
   intro b;by_cases h:∃o s p,H[b]? = some (.obj o s)/\j b=some p
   · obtain⟨o,s,p,h1,h2⟩:=h
     obtain⟨js,h3,h4⟩:=obj b o s p h1 h2;refine ⟨js,fun o' s' p' k1 k2=>?_⟩;rw[h1]at k1;rw[h2]at k2
     cases k1;cases k2
     exact⟨h3,h4⟩
   · exact⟨j,fun o s p h1 h2=>absurd ⟨o,s,p,h1,h2⟩ h⟩
 have hc:=fun b=>(key b).choose_spec;exact .mk (fun b=>(key b).choose) dom blk inj hid (fun b o s p hb hp=>(hc b o s p hb hp).1) (fun b o s p hb hp=>(hc b o s p hb hp).2) glo
def Tch(j:Inj)(H:zA)(u:Nat):Prop:=∃b y p,H[b]? = some y/\y≠.dead/\j b=some p/\(u=p.blk\/u∈ZN j y b)
def Sch(j:Inj)(H:zA)(u:Nat):Prop:=∃b y p,H[b]? = some y/\y.str=true/\j b=some p/\(u=p.blk\/u∈ZN j y b)
structure Keeps (j:Inj) (H:zA) (w w':World):Prop where
 os:w'.os=w.os
 tape:w'.tape=w.tape
 output:w'.output=w.output
 size:w.heap.size<=w'.heap.size
 block:∀c,c<w.heap.size->¬Occ j H c->w'.heap[c]? = w.heap[c]?
structure Step (n:Nat) (j:Inj) (H:zA) (w:World) (j':Inj) (H':zA) (w':World):Prop where
 rel:R j' H' w'
 ext:∀b,b<n->j' b=j b
 len:n<=H'.length
 keeps:Keeps j H w w'
 fresh:∀u,Occ j' H' u->w.heap.size<=u\/Occ j H u
 tch:∀u,Sch j' H' u->w.heap.size<=u\/Sch j H u
theorem Keeps.refl(j:Inj)(H:zA)(w:World):Keeps j H w w:=⟨rfl,rfl,rfl,qnZ _,fun _ _ _=>rfl⟩
theorem Step.refl{n:Nat}{j:Inj}{H:zA}{w:World}(h:R j H w)(hn:n<=H.length):Step n j H w j H w :=
 ⟨h,fun _ _=>rfl,hn,Keeps.refl _ _ _,fun _ hu=>.inr hu,fun _ hu=>.inr hu⟩
theorem Step.trans{n m:Nat}{j j1 j2:Inj}{H H1 H2:zA}{w w1 w2:World}(h:Step n j H w j1 H1 w1)(k:Step m j1 H1 w1 j2 H2 w2)(hm:n<=m):Step n j H w j2 H2 w2:=by
 refine ⟨k.rel,fun b hb=>(k.ext b (by omega)).trans (h.ext b hb),Nat.le_trans hm k.len,?_,?_,?_⟩
 · refine ⟨k.keeps.os.trans h.keeps.os,k.keeps.tape.trans h.keeps.tape,k.keeps.output.trans h.keeps.output,Nat.le_trans h.keeps.size k.keeps.size,fun c hc ho=>?_⟩
   rw[k.keeps.block c (rlZ hc h.keeps.size),h.keeps.block c hc ho];intro hu;rcases h.fresh c hu with h1 | h1
   · omega
   · exact ho h1
 · intro u hu
   rcases k.fresh u hu with h1 | h1
   · exact .inl (Nat.le_trans h.keeps.size h1)
   · exact h.fresh u h1
 · intro u hu
   rcases k.tch u hu with h1 | h1
   · exact .inl (Nat.le_trans h.keeps.size h1)
   · exact h.tch u h1
theorem Step.weaken{n m:Nat}{j j':Inj}{H H':zA}{w w':World}(h:Step m j H w j' H' w')(hn:n<=m):Step n j H w j' H' w' :=
 ⟨h.rel,fun b hb=>h.ext b (by omega),Nat.le_trans hn h.len,h.keeps,h.fresh,h.tch⟩
theorem Step.jle{n:Nat}{j j':Inj}{H H':zA}{w w':World}(h:Step n j H w j' H' w')(hr:R j H w)(hn:H.length<=n):JLe j j':=by
 intro b p hp;rcases s2Z b n with h1 | h1
 · rw[h.ext b h1];exact hp
 · rw[hr.dom b (by omega)]at hp;cases hp
theorem R.lt{j:Inj}{H:zA}{w:World}(h:R j H w){b:Nat}{own:Bool}{l:List AV}{p:JB}(hb:H[b]? = some (.cells own l))(hp:j b=some p):p.blk<w.heap.size:=by
 obtain⟨cs,T,fz,h1,_⟩:=h.blk b _ p hb hp;exact (qtZ.1 h1).1
theorem R.ltx{j:Inj}{H:zA}{w:World}(h:R j H w){b:Nat}{x:ABlk}{p:JB}(hb:H[b]? = some x)(hx:x≠.dead)(hp:j b=some p):p.blk<w.heap.size:=by
 cases x with
 | dead=>exact absurd rfl hx
 | cells o l=>exact h.lt hb hp
 | loop ps asg body st pe F =>
   obtain⟨fn,tmps,D,h1,_⟩:=h.blk b _ p hb hp;exact (qtZ.1 h1).1
 | map es =>
   obtain⟨ents,cl,h1,_⟩:=h.blk b _ p hb hp;exact (qtZ.1 h1).1
 | obj o s =>
   obtain⟨js,h1,_⟩:=h.obj b o s p hb hp;exact h1.lt
 | pin l =>
   obtain⟨_,cs,T,fz,h1,_⟩:=h.blk b _ p hb hp;exact (qtZ.1 h1).1
theorem BRel.nd{j:Inj}{w:World}{x:ABlk}{p:JB}(h:BRel j w x p)(hx:x≠.dead)(ho:x.isObj=false):ND w p.blk:=by
 cases x with
 | dead=>exact absurd rfl hx
 | cells o l=>obtain⟨cs,T,fz,g,_⟩:=h;exact⟨_,g,fun l e=>by cases e⟩
 | loop _ _ _ _ _ _=>obtain⟨fn,tmps,D',g,_⟩:=h;exact⟨_,g,fun l e=>by cases e⟩
 | map _=>obtain⟨_,_,g,_⟩:=h;exact⟨_,g,fun l e=>by cases e⟩
 | obj _ _=>cases ho
 | pin _=>obtain⟨_,cs,T,fz,g,_⟩:=h;exact⟨_,g,fun l e=>by cases e⟩
theorem R.nd{j:Inj}{H:zA}{w:World}(h:R j H w){u:Nat}(hu:Tch j H u):ND w u:=by
 obtain⟨b,y,p,h1,h2,h3,h4⟩:=hu;cases ho:y.isObj with
 | false =>
   rcases h4 with rfl | h4
   · exact (h.blk b y p h1 h3).nd h2 ho
   · rw[zCN ho]at h4;cases h4
 | true =>
   obtain⟨o,s,rfl⟩:∃o s,y=.obj o s:=by cases y <;> simp_all [ABlk.isObj]
   obtain⟨js,k1,_⟩:=h.obj b o s p h1 h3;rcases h4 with rfl | h4
   · exact k1.rnd
   · exact k1.hnd u h4
theorem R.tlt{j:Inj}{H:zA}{w:World}(h:R j H w){u:Nat}(hu:Tch j H u):u<w.heap.size:=(h.nd hu).lt
theorem Occ.tch{j:Inj}{H:zA}{u:Nat}(h:Occ j H u):Tch j H u:=by
 obtain⟨b,y,p,h1,h2,h3,h4⟩:=h;exact⟨b,y,p,h1,Zj h2,h3,h4.imp id zTK⟩
theorem R.live{j:Inj}{H:zA}{w:World}(h:R j H w){b:Nat}{p:JB}(hp:j b=some p):∃x,H[b]? = some x:=by
 rcases s2Z b H.length with h1 | h1
 · exact⟨_,q3Z h1⟩
 · rw[h.dom b h1]at hp;cases hp
theorem BRel.mono{j j':Inj}{w w':World}{x:ABlk}{p:JB}(h:BRel j w x p)(hj:JLe j j')(hw:x≠.dead->w'.heap[p.blk]? = w.heap[p.blk]?):BRel j' w' x p:=by
 cases x with
 | dead=>trivial
 | cells own l =>
   obtain⟨cs,T,fz,h1,h2,h3,h4,h5⟩:=h;refine ⟨cs,T,fz,by rw[hw (by simp)];exact h1,h2,h3,fun i x hx=>?_,h5⟩;obtain⟨v,hv,hr⟩:=h4 i x hx;exact⟨v,hv,hr.mono hj⟩
 | loop ps asg body st pe F =>
   obtain⟨fn,tmps,D,h1,h2⟩:=h;exact⟨fn,tmps,D,by rw[hw (by simp)];exact h1,VRs.mono hj _ _ h2⟩
 | map es =>
   obtain⟨ents,cl,h1,hs,h2⟩:=h;exact⟨ents,cl,by rw[hw (by simp)];exact h1,hs,h2.mono hj⟩
 | obj _ _=>trivial
 | pin l =>
   obtain⟨h0,cs,T,fz,h1,h2⟩:=h;refine ⟨h0,cs,T,fz,by rw[hw (by simp)];exact h1,fun i x hx=>?_⟩;obtain⟨v,hv,hr⟩:=h2 i x hx;exact⟨v,hv,hr.mono hj⟩
theorem OK.same{js:Inj}{s:zA}{w w':World}{p:JB}{foot shr:List Nat}(h:OK js s w p foot shr)(hs:∀u,(u=p.blk\/u∈foot++shr)->w'.heap[u]? = w.heap[u]?):OK js s w' p foot shr:=by
 have key:∀u,(u=p.blk\/u∈foot++shr)->ND w u->ND w' u:=fun u hu ⟨o,h1,h2⟩=>⟨o,by rw[hs u hu];exact h1,h2⟩
 exact⟨h.root,h.own,key _ (.inl rfl) h.rnd,fun u hu=>key u (.inr hu) (h.hnd u hu),h.mine,h.str,h.all⟩
theorem OK.tch{js:Inj}{s:zA}{w:World}{p:JB}{foot shr:List Nat}(h:OK js s w p foot shr){u:Nat}(hu:Tch js s u):u=p.blk\/u∈foot++shr:=by
 obtain⟨i,y,q,h1,h2,h3,h4⟩:=hu;have ha:=h.all i y q h1 h2 h3;rcases h4 with rfl | h4
 · by_cases hi:i=0
   · subst hi
     rw[h.root]at h3;cases h3;exact .inl rfl
   · exact .inr (ha.1 hi)
 · exact .inr (ha.2 u h4)
theorem R.same_on{j:Inj}{H:zA}{w:World}(h:R j H w):∀{w':World},w.heap.size<=w'.heap.size->(∀u,u<gsz->w'.heap[u]? = w.heap[u]?)->(∀u,Tch j H u->w'.heap[u]? = w.heap[u]?)->R j H w':=by
 induction h with
 | @mk j H w js dom blk inj hid ok sub glo ih =>
   intro w' hs hg hu;refine .mk js dom (fun b x p hb hp=>(blk b x p hb hp).mono (fun _ _ h=>h) fun hx=>hu _ ⟨b,x,p,hb,hx,hp,.inl rfl⟩) inj hid (fun b o s p hb hp=>(ok b o s p hb hp).same fun u hu'=>hu u ⟨b,_,p,hb,by simp,hp,hu'⟩) (fun b o s p hb hp=>ih b o s p hb hp hs hg fun u hu'=>?_) ⟨glo.1.next hs hg,glo.2⟩;refine hu u ⟨b,_,p,hb,by simp,hp,?_⟩;exact (ok b o s p hb hp).tch hu'
def Kin(w:World)(j:Inj)(H:zA)(j':Inj)(x:ABlk)(b:Nat)(p:JB):Prop :=
 (w.heap.size<=p.blk/\x.isObj=false)\/∃c y q,H[c]? = some y/\y≠.dead/\j c=some q/\q.blk=p.blk/\(x.own=true->y.own=true)/\(x.isObj=true->y=x/\q=p/\j'.foot b=j.foot c/\j'.shr b=j.shr c)
structure R0 (j:Inj) (H:zA) (w:World):Prop where
 dom:∀b,H.length<=b->j b=none
 blk:∀b x p,H[b]? = some x->j b=some p->BRel j w x p
 inj:∀b b' y x p p',H[b]? = some y->y.own=true->H[b']? = some x->x≠.dead->b≠b'->j b=some p->j b'=some p'->p.blk≠p'.blk
structure Keeps0 (j:Inj) (H:zA) (w w':World):Prop where
 os:w'.os=w.os
 tape:w'.tape=w.tape
 output:w'.output=w.output
 size:w.heap.size<=w'.heap.size
 block:∀c,c<w.heap.size->(∀b y p,H[b]? = some y->y.own=true->y.isObj=false->j b=some p->p.blk≠c)->w'.heap[c]? = w.heap[c]?
theorem zQ4{x:ABlk}(h:x.isObj=true):∃o s,x=.obj o s:=by cases x <;> simp_all [ABlk.isObj]
theorem zAq{j j':Inj}{x y:ABlk}{b c:Nat}(h:x.isObj=true->y=x/\j'.foot b=j.foot c/\j'.shr b=j.shr c):∀u,u∈Zu j' x b->u∈Zu j y c:=by
 intro u hu;cases ho:x.isObj with
 | false=>rw[zFf ho]at hu;cases hu
 | true =>
   obtain⟨e1,e3,e4⟩:=h ho;obtain⟨o,s,rfl⟩:=zQ4 ho;rw[e1];cases o <;> simp_all [Zu]
theorem zA1{j j':Inj}{x y:ABlk}{b c:Nat}(h:x.isObj=true->y=x/\j'.foot b=j.foot c/\j'.shr b=j.shr c):∀u,u∈ZN j' x b->u∈ZN j y c:=by
 intro u hu;cases ho:x.isObj with
 | false=>rw[zCN ho]at hu;cases hu
 | true =>
   obtain⟨e1,e3,e4⟩:=h ho;obtain⟨o,s,rfl⟩:=zQ4 ho;rw[e1];simpa[ZN,e3,e4] using hu
theorem zKK{x y:ABlk}(h1:x.own=true->y.own=true)(h2:x.isObj=true->y=x)(h:x.str=true):y.str=true:=by
 cases ho:x.isObj with
 | false=>simp only[ABlk.str,ho,Bool.or_false]at h;exact zFZ (h1 h)
 | true=>rw[h2 ho];exact h
theorem R.apart{j:Inj}{H:zA}{w:World}(h:R j H w){b b':Nat}{y x:ABlk}{p p':JB}(hb:H[b]? = some y)(hy:y.own=true)(hb':H[b']? = some x)(hx:x≠.dead)(hne:b≠b')(hp:j b=some p)(hp':j b'=some p'){u:Nat}(hu:u=p.blk\/u∈Zu j y b):¬(u=p'.blk\/u∈ZN j x b'):=by
 have h1:=h.inj b b' y x p p' hb hy hb' hx hne hp hp';have h2:=h.hid b b' y x p p' hb hy hb' hx hne hp hp';rintro (rfl | h3) <;> rcases hu with hu | hu
 · exact h1 hu.symm
 · exact (h2.2 _ hu).1 rfl
 · exact h2.1 (by rw[<-hu];exact h3)
 · exact (h2.2 u hu).2 h3
theorem zBk{j:Inj}{y x:ABlk}{b b':Nat}{p p':JB}(h:∀u,(u=p.blk\/u∈Zu j y b)->¬(u=p'.blk\/u∈ZN j x b')):p.blk≠p'.blk/\(p.blk∉ZN j x b'/\∀u∈Zu j y b,u≠p'.blk/\u∉ZN j x b') :=
 ⟨fun e=>h _ (.inl rfl) (.inl e),fun hm=>h _ (.inl rfl) (.inr hm),fun u hu=>⟨fun e=>h u (.inr hu) (.inl e),fun hm=>h u (.inr hu) (.inr hm)⟩⟩
theorem Step.make{n:Nat}{j j':Inj}{H H':zA}{w w':World}(h:R j H w)(r:R0 j' H' w')(ext:∀b,b<n->j' b=j b)(len:n<=H'.length)(k:Keeps0 j H w w')
   (kin:∀b x p,H'[b]? = some x->x≠.dead->j' b=some p->Kin w j H j' x b p):Step n j H w j' H' w':=by
 have old:∀c y q,H[c]? = some y->y.isObj=true->j c=some q->∀u,(u=q.blk\/u∈ZN j y c)->w'.heap[u]? = w.heap[u]?:=by
   intro c y q hc hy hq u hu;have hd:y≠.dead:=by rintro rfl;cases hy
   refine k.block u (h.tlt ⟨c,y,q,hc,hd,hq,hu⟩) fun b0 y0 p0 h0 ho hn hp0 e=>?_;have hne:b0≠c:=by
     rintro rfl;rw[hc]at h0;cases h0;rw[hn]at hy;cases hy
   exact h.apart h0 ho hc hd hne hp0 hq (.inl e.symm) hu
 have ap:∀b b' y x p p',H'[b]? = some y->y.own=true->H'[b']? = some x->x≠.dead->b≠b'->j' b=some p->j' b'=some p'->∀u,(u=p.blk\/u∈Zu j' y b)->¬(u=p'.blk\/u∈ZN j' x b'):=by
   intro b b' y x p p' hb hy hb' hx hne hp hp' u hu hv;have hij:=r.inj b b' y x p p' hb hy hb' hx hne hp hp';rcases kin b y p hb (Zj hy) hp with⟨a1,a2⟩ | ⟨c,z,q,a1,a2,a3,a4,a5,a6⟩ <;> rcases kin b' x p' hb' hx hp' with⟨d1,d2⟩ | ⟨c',z',q',d1,d2,d3,d4,d5,d6⟩
   · rw[zFf a2]at hu;rw[zCN d2]at hv
     simp only[rtZ,or_false]at hu hv;exact hij (hu.symm.trans hv)
   · rw[zFf a2]at hu
     simp only[rtZ,or_false]at hu;have hv2:u=q'.blk\/u∈ZN j z' c':=hv.imp (fun e=>e.trans d4.symm) (zA1 (fun ho=>⟨(d6 ho).1,(d6 ho).2.2⟩) u);have:=h.tlt ⟨c',z',q',d1,d2,d3,hv2⟩;omega
   · rw[zCN d2]at hv
     simp only[rtZ,or_false]at hv;have hu2:u=q.blk\/u∈Zu j z c:=hu.imp (fun e=>e.trans a4.symm) (zAq (fun ho=>⟨(a6 ho).1,(a6 ho).2.2⟩) u);have:=h.tlt (Occ.tch ⟨c,z,q,a1,a5 hy,a3,hu2⟩);omega
   · have hcc:c≠c':=by
       rintro rfl;rw[a3]at d3;cases d3
       exact hij (a4.symm.trans d4)
     exact h.apart a1 (a5 hy) d1 d2 hcc a3 d3 (hu.imp (fun e=>e.trans a4.symm) (zAq (fun ho=>⟨(a6 ho).1,(a6 ho).2.2⟩) u)) (hv.imp (fun e=>e.trans d4.symm) (zA1 (fun ho=>⟨(d6 ho).1,(d6 ho).2.2⟩) u))
 have kb:∀c,c<w.heap.size->¬Occ j H c->w'.heap[c]? = w.heap[c]?:=fun c hc hno=>k.block c hc fun b y p hb hy _ hp e=>hno ⟨b,y,p,hb,hy,hp,.inl e.symm⟩;have fr:∀u,Occ j' H' u->w.heap.size<=u\/Occ j H u:=by
   rintro u ⟨b,y,p,hb,hy,hp,hu⟩;rcases kin b y p hb (Zj hy) hp with⟨a1,a2⟩ | ⟨c,z,q,a1,a2,a3,a4,a5,a6⟩
   · rw[zFf a2]at hu
     simp only[rtZ,or_false]at hu;exact .inl (by omega)
   · exact .inr ⟨c,z,q,a1,a5 hy,a3,hu.imp (fun e=>e.trans a4.symm) (zAq (fun ho=>⟨(a6 ho).1,(a6 ho).2.2⟩) u)⟩
 have gk:∀u,u<gsz->w'.heap[u]? = w.heap[u]?:=fun u hu=>kb u (by have:=h.glo.1.2;omega) (h.glo.2 u hu);refine ⟨R.mk' r.dom r.blk r.inj (fun b b' y x p p' hb hy hb' hx hne hp hp'=>(zBk (ap b b' y x p p' hb hy hb' hx hne hp hp')).2) ?_ (h.glo.next k.size kb fr),ext,len,⟨k.os,k.tape,k.output,k.size,kb⟩,fr,?_⟩
 · intro b o s p hb hp
   rcases kin b _ p hb (by simp) hp with⟨_,a2⟩ | ⟨c,z,q,a1,a2,a3,a4,a5,a6⟩
   · cases a2
   · obtain⟨rfl,rfl,e3,e4⟩:=a6 rfl
     obtain⟨js,o1,o2⟩:=h.obj c o s q a1 a3;refine ⟨js,by rw[e3,e4];exact o1.same fun u hu=>old c _ q a1 rfl a3 u (by simpa[ZN] using hu),o2.same_on k.size gk fun u hu=>?_⟩;exact old c _ q a1 rfl a3 u (by simpa[ZN] using o1.tch hu)
 · rintro u ⟨b,y,p,hb,hy,hp,hu⟩
   rcases kin b y p hb (zEo hy) hp with⟨a1,a2⟩ | ⟨c,z,q,a1,a2,a3,a4,a5,a6⟩
   · rw[zCN a2]at hu
     simp only[rtZ,or_false]at hu;exact .inl (by omega)
   · exact .inr ⟨c,z,q,a1,zKK a5 (fun ho=>(a6 ho).1) hy,a3,hu.imp (fun e=>e.trans a4.symm) (zA1 (fun ho=>⟨(a6 ho).1,(a6 ho).2.2⟩) u)⟩
def Src(j:Inj)(B:zA)(J:Inj)(x:ABlk)(b:Nat)(p:JB)(c:Nat):Prop :=
 ∃y,B[c]? = some y/\y≠.dead/\j c=some p/\(x.own=true->y.own=true)/\(x.isObj=true->y=x/\J.foot b=j.foot c/\J.shr b=j.shr c)
theorem Src.own{j:Inj}{B:zA}{J:Inj}{x:ABlk}{b:Nat}{p:JB}{c:Nat}(h:Src j B J x b p c)(hx:x.own=true):∃y,B[c]? = some y/\y.own=true/\j c=some p/\∀u,u∈Zu J x b->u∈Zu j y c:=by
 obtain⟨y,h1,h2,h3,h4,h5⟩:=h;exact⟨y,h1,h4 hx,h3,zAq h5⟩
theorem Src.tch{j:Inj}{B:zA}{J:Inj}{x:ABlk}{b:Nat}{p:JB}{c:Nat}(h:Src j B J x b p c):∃y,B[c]? = some y/\y≠.dead/\j c=some p/\(x.str=true->y.str=true)/\∀u,u∈ZN J x b->u∈ZN j y c:=by
 obtain⟨y,h1,h2,h3,h4,h5⟩:=h;exact⟨y,h1,h2,h3,zKK h4 fun ho=>(h5 ho).1,zA1 h5⟩
theorem Step.stay{m:Nat}{j jH j1:Inj}{B H H1:zA}{w w':World}(hR:R j B w)(st:Step m jH H w j1 H1 w'){seen:Nat->Prop}
   (hocc:∀u,Occ jH H u->∃c y p,seen c/\B[c]? = some y/\y.own=true/\j c=some p/\(u=p.blk\/u∈Zu j y c))
   {c:Nat} {y:ABlk} {q:JB} (hc:B[c]? = some y) (hy:y≠.dead) (hq:j c=some q) (hs:y.own=true->¬seen c) {u:Nat} (hu:u=q.blk\/u∈ZN j y c):w'.heap[u]? = w.heap[u]?:=by
 refine st.keeps.block u (hR.tlt ⟨c,y,q,hc,hy,hq,hu⟩) fun ho=>?_;obtain⟨c0,y0,p0,h1,h2,h3,h4,h5⟩:=hocc u ho;refine hR.apart h2 h3 hc hy ?_ h4 hq h5 hu;rintro rfl;rw[h2]at hc;cases hc;exact hs h3 h1
theorem Step.mergeF{n m:Nat}{j jH j1 J:Inj}{B H H1 K:zA}{w w':World}(hR:R j B w)(st:Step m jH H w j1 H1 w')(seen:Nat->Prop)
   (hocc:∀u,Occ jH H u->∃c y p,seen c/\B[c]? = some y/\y.own=true/\j c=some p/\(u=p.blk\/u∈Zu j y c))
   (htch:∀u,Sch jH H u->∃c y p,(y.own=true->seen c)/\B[c]? = some y/\y.str=true/\j c=some p/\(u=p.blk\/u∈ZN j y c))
   (dom:∀b,K.length<=b->J b=none) (blk:∀b x p,K[b]? = some x->J b=some p->BRel J w' x p)
   (fr:Nat->Bool×Nat) (src:∀b x p,K[b]? = some x->x≠.dead->J b=some p ->
     if (fr b).1=true then Src j1 H1 J x b p (fr b).2/\(x.str=true\/(∀c y p,B[c]? = some y->y.own=true->j c=some p->seen c)\/x.isObj=false/\∃c y,seen c/\B[c]? = some y/\y≠.dead/\j c=some p)
     else Src j B J x b p (fr b).2/\∀y,B[(fr b).2]? = some y->y.own=true->¬seen (fr b).2)
   (dist:∀b b' x x' p p',K[b]? = some x->x≠.dead->J b=some p->K[b']? = some x'->x'≠.dead->J b'=some p'->b'≠b->fr b'≠fr b)
   (ext:∀b,b<n->J b=j b) (len:n<=K.length):Step n j B w J K w':=by
 have occB:∀u,Occ jH H u->Occ j B u:=by
   intro u hu;obtain⟨c,y,p,_,h2,h3,h4,h5⟩:=hocc u hu;exact⟨c,y,p,h2,h3,h4,h5⟩
 have tchB:∀u,Sch jH H u->Sch j B u:=by
   intro u hu;obtain⟨c,y,p,_,h2,h3,h4,h5⟩:=htch u hu;exact⟨c,y,p,h2,h3,h4,h5⟩
 have ap:∀b b' y x p p',K[b]? = some y->y.own=true->K[b']? = some x->x≠.dead->b≠b'->J b=some p->J b'=some p'->∀u,(u=p.blk\/u∈Zu J y b)->¬(u=p'.blk\/u∈ZN J x b'):=by
   intro b b' y x p p' hb hy hb' hx hne hp hp' u hu hv;have hs:=src b y p hb (Zj hy) hp;have hs':=src b' x p' hb' hx hp';have hd:=dist b b' y x p p' hb (Zj hy) hp hb' hx hp' (Ne.symm hne);obtain⟨⟨a,c⟩,ha⟩:∃z,fr b=z:=⟨_,rfl⟩
   obtain⟨⟨a',c'⟩,ha'⟩:∃z,fr b'=z:=⟨_,rfl⟩
   rw[ha]at hs hd;rw[ha']at hs' hd
   cases a <;> cases a' <;> simp only[qsZ,if_false,if_true]at hs hs'
   · obtain⟨y1,g1,g2,g3,g4⟩:=hs.1.own hy
     obtain⟨x1,k1,k2,k3,_,k4⟩:=hs'.1.tch;exact hR.apart g1 g2 k1 k2 (fun e=>hd (by rw[e])) g3 k3 (hu.imp id (g4 u)) (hv.imp id (k4 u))
   · obtain⟨y1,g1,g2,g3,g4⟩:=hs.1.own hy
     obtain⟨x1,k1,k2,k3,k5,k4⟩:=hs'.1.tch;have hu1:=hu.imp id (g4 u);rcases hs'.2 with hst | hall | ⟨ho,c0,y0,m1,m2,m3,m4⟩
     · rcases st.tch u ⟨c',x1,p',k1,k5 hst,k3,hv.imp id (k4 u)⟩ with h1 | h1
       · have:=hR.tlt (Occ.tch ⟨c,y1,p,g1,g2,g3,hu1⟩)
         omega
       · obtain⟨c0,y0,p0,m1,m2,m3,m4,m5⟩:=htch u h1
         refine hR.apart g1 g2 m2 (zEo m3) ?_ g3 m4 hu1 m5;rintro rfl;rw[g1]at m2;cases m2;exact hs.2 _ g1 g2 (m1 g2)
     · exact hs.2 _ g1 g2 (hall c y1 p g1 g2 g3)
     · rw[zCN ho]at hv
       simp only[rtZ,or_false]at hv;exact hR.apart g1 g2 m2 m3 (fun e=>hs.2 _ g1 g2 (e▸m1)) g3 m4 hu1 (.inl hv)
   · obtain⟨y1,g1,g2,g3,g4⟩:=hs.1.own hy
     obtain⟨x1,k1,k2,k3,_,k4⟩:=hs'.1.tch;have hv1:=hv.imp id (k4 u);rcases st.fresh u ⟨c,y1,p,g1,g2,g3,hu.imp id (g4 u)⟩ with h1 | h1
     · have:=hR.tlt ⟨c',x1,p',k1,k2,k3,hv1⟩
       omega
     · obtain⟨c0,y0,p0,m1,m2,m3,m4,m5⟩:=hocc u h1
       refine hR.apart m2 m3 k1 k2 ?_ m4 k3 m5 hv1;rintro rfl;exact hs'.2 _ m2 m3 m1
   · obtain⟨y1,g1,g2,g3,g4⟩:=hs.1.own hy
     obtain⟨x1,k1,k2,k3,_,k4⟩:=hs'.1.tch;exact st.rel.apart g1 g2 k1 k2 (fun e=>hd (by rw[e])) g3 k3 (hu.imp id (g4 u)) (hv.imp id (k4 u))
 have kb:∀c,c<w.heap.size->¬Occ j B c->w'.heap[c]? = w.heap[c]?:=fun c hc hno=>st.keeps.block c hc fun ho=>hno (occB c ho);have gk:∀u,u<gsz->w'.heap[u]? = w.heap[u]?:=fun u hu=>kb u (by have:=hR.glo.1.2;omega) (hR.glo.2 u hu);have frs:∀u,Occ J K u->w.heap.size<=u\/Occ j B u:=by
   rintro u ⟨b,y,p,hb,hy,hp,hu⟩;have hs:=src b y p hb (Zj hy) hp;obtain⟨⟨a,c⟩,ha⟩:∃z,fr b=z:=⟨_,rfl⟩
   rw[ha]at hs;cases a <;> simp only[qsZ,if_false,if_true]at hs
   · obtain⟨y1,g1,g2,g3,g4⟩:=hs.1.own hy
     exact .inr ⟨c,y1,p,g1,g2,g3,hu.imp id (g4 u)⟩
   · obtain⟨y1,g1,g2,g3,g4⟩:=hs.1.own hy
     rcases st.fresh u ⟨c,y1,p,g1,g2,g3,hu.imp id (g4 u)⟩ with h1 | h1
     · exact .inl h1
     · exact .inr (occB u h1)
 refine ⟨R.mk' dom blk (fun b b' y x p p' hb hy hb' hx hne hp hp'=>(zBk (ap b b' y x p p' hb hy hb' hx hne hp hp')).1) (fun b b' y x p p' hb hy hb' hx hne hp hp'=>(zBk (ap b b' y x p p' hb hy hb' hx hne hp hp')).2) ?_ (hR.glo.next st.keeps.size kb frs),ext,len,
   ⟨st.keeps.os,st.keeps.tape,st.keeps.output,st.keeps.size,kb⟩,frs,?_⟩
 · intro b o s p hb hp
   have hs:=src b _ p hb (by simp) hp;obtain⟨⟨a,c⟩,ha⟩:∃z,fr b=z:=⟨_,rfl⟩
   rw[ha]at hs;cases a <;> simp only[qsZ,if_false,if_true]at hs
   · obtain⟨⟨y,h1,h2,h3,h4,h5⟩,hns⟩:=hs
     obtain⟨rfl,e1,e2⟩:=h5 rfl;obtain⟨js,o1,o2⟩:=hR.obj c o s p h1 h3;refine ⟨js,by rw[e1,e2];exact o1.same fun u hu=>Step.stay hR st hocc h1 h2 h3 (hns _ h1) (by simpa[ZN] using hu),o2.same_on st.keeps.size gk fun u hu=>?_⟩;exact Step.stay hR st hocc h1 h2 h3 (hns _ h1) (by simpa[ZN] using o1.tch hu)
   · obtain⟨⟨y,h1,h2,h3,h4,h5⟩,_⟩:=hs
     obtain⟨rfl,e1,e2⟩:=h5 rfl;obtain⟨js,o1,o2⟩:=st.rel.obj c o s p h1 h3;exact⟨js,by rw[e1,e2];exact o1,o2⟩
 · rintro u ⟨b,y,p,hb,hy,hp,hu⟩
   have hs:=src b y p hb (zEo hy) hp;obtain⟨⟨a,c⟩,ha⟩:∃z,fr b=z:=⟨_,rfl⟩
   rw[ha]at hs;cases a <;> simp only[qsZ,if_false,if_true]at hs
   · obtain⟨y1,g1,_,g3,g5,g4⟩:=hs.1.tch
     exact .inr ⟨c,y1,p,g1,g5 hy,g3,hu.imp id (g4 u)⟩
   · obtain⟨y1,g1,_,g3,g5,g4⟩:=hs.1.tch
     rcases st.tch u ⟨c,y1,p,g1,g5 hy,g3,hu.imp id (g4 u)⟩ with h1 | h1
     · exact .inl h1
     · exact .inr (tchB u h1)
theorem Keeps0.refl(j:Inj)(H:zA)(w:World):Keeps0 j H w w:=⟨rfl,rfl,rfl,qnZ _,fun _ _ _=>rfl⟩
theorem Kin.same{w:World}{j j':Inj}{H:zA}{x:ABlk}{b:Nat}{p:JB}(hb:H[b]? = some x)(hx:x≠.dead)(hp:j b=some p)(h1:j'.foot b=j.foot b)(h2:j'.shr b=j.shr b):Kin w j H j' x b p :=
 .inr ⟨b,x,p,hb,hx,hp,rfl,id,fun _=>⟨rfl,rfl,h1,h2⟩⟩
def zBO(j:Inj)(b:Nat)(p:JB):Inj:=⟨fun x=>if x=b then some p else j x,j.foot,j.shr⟩
theorem ZC(j:Inj)(b:Nat)(p:JB)(x:Nat):zBO j b p x=if x=b then some p else j x:=rfl
theorem zb(j:Inj)(b:Nat)(p:JB):zBO j b p b=some p:=by simp[zBO]
theorem zBb{j:Inj}{b:Nat}{p:JB}(h:j b=none):JLe j (zBO j b p):=by
 intro x q hx;rw[ZC];split
 · subst_vars;rw[h]at hx;cases hx
 · exact hx
theorem zDs{j:Inj}{H:zA}{w w':World}(h:R j H w)(own:Bool)(l:List AV)(cs:Array Value)(T:Nat)(fz:Nat×Nat)(hw:w'.heap=w.heap.push (.cells cs T fz))
   (hos:w'.os=w.os) (htape:w'.tape=w.tape) (hout:w'.output=w.output) (hle0:l.length<=cs.size) (hl:VRs j l (cs.toList.take l.length)) (hfz:own=true->∀i,i<cs.size->¬(fz.1<=i/\i<fz.2)) :
   Step H.length j H w (zBO j H.length ⟨w.heap.size,0,cs.size⟩) (H++[.cells own l]) w':=by
 have hnone:j H.length=none:=h.dom _ (qnZ _);have hle:JLe j (zBO j H.length ⟨w.heap.size,0,cs.size⟩):=zBb hnone;have hold:∀c,c<w.heap.size->w'.heap[c]? = w.heap[c]?:=fun c hc=>by
   rw[hw,Array.getElem?_push];rw[if_neg (by omega)]
 have hnew:w'.heap[w.heap.size]? = some (.cells cs T fz):=by
   rw[hw];simp
 refine Step.make h ⟨?_,?_,?_⟩ ?_ (by simp) ⟨hos,htape,hout,by rw[hw];simp,fun c hc _=>hold c hc⟩ ?_
 · intro b hb
   simp at hb;rw[ZC];rw[if_neg (by omega)];exact h.dom b (by omega)
 · intro b x p hb hp
   rw[s7Z]at hb;split at hb <;> rename_i hlt
   · have hp':j b=some p:=by rw[ZC]at hp;rw[if_neg (by omega)]at hp;exact hp
     exact (h.blk b x p hb hp').mono hle fun hx=>hold _ (h.ltx hb hx hp')
   · have hb0:b=H.length:=by
       rcases s2Z (b-H.length) 1 with h1 | h1
       · omega
       · rw[s4Z (by simpa using h1)]at hb;cases hb
     subst hb0;simp at hb;subst hb;rw[zb]at hp;cases hp;refine ⟨cs,T,fz,hnew,rfl,by simpa using hle0,fun i x hx=>?_,hfz⟩;obtain⟨v,hv,hr⟩:=hl.at hx;have hil:i<l.length:=(q1Z.1 hx).1;refine ⟨v,?_,hr.mono hle⟩;rw[r4Z,if_pos hil]at hv;simpa using hv
 · intro b b' l' x p p' hb hy hb' hx hne hp hp'
   have hcase:∀c y q,(H++[ABlk.cells own l])[c]? = some y->y≠.dead->zBO j H.length ⟨w.heap.size,0,cs.size⟩ c=some q->(c=H.length/\q.blk=w.heap.size)\/(H[c]? = some y/\j c=some q/\q.blk<w.heap.size):=by
     intro c y q hc hy hq;rw[s7Z]at hc;split at hc <;> rename_i hlt
     · have hq':j c=some q:=by rw[ZC]at hq;rw[if_neg (by omega)]at hq;exact hq
       exact .inr ⟨hc,hq',h.ltx hc hy hq'⟩
     · have hc0:c=H.length:=by
         rcases s2Z (c-H.length) 1 with h1 | h1
         · omega
         · rw[s4Z (by simpa using h1)]at hc;cases hc
       subst hc0;rw[zb]at hq;cases hq;exact .inl ⟨rfl,rfl⟩
   rcases hcase b _ p hb (by rintro rfl;cases hy) hp with⟨h1,h2⟩ | ⟨h1,h2,h3⟩ <;> rcases hcase b' _ p' hb' hx hp' with⟨k1,k2⟩ | ⟨k1,k2,k3⟩
   · omega
   · omega
   · omega
   · exact h.inj b b' l' x p p' h1 hy k1 hx hne h2 k2
 · intro b hb
   rw[ZC];rw[if_neg (by omega)]
 · intro b l' p hb hy hp
   rw[s7Z]at hb;split at hb <;> rename_i hlt
   · have hp':j b=some p:=by rw[ZC]at hp;rw[if_neg (by omega)]at hp;exact hp
     exact .inr ⟨b,l',p,hb,hy,hp',rfl,id,fun _=>⟨rfl,rfl,rfl,rfl⟩⟩
   · have hb0:b=H.length:=by
       rcases s2Z (b-H.length) 1 with h1 | h1
       · omega
       · rw[s4Z (by simpa using h1)]at hb;cases hb
     subst hb0;rw[zb]at hp;cases hp;simp at hb;subst hb;exact .inl ⟨qnZ _,rfl⟩
def zMD:Value->AV
 | .bool b=>.bool b
 | .int k n=>.int k n
 | .string s=>.str s.data.toList
 | .pointer none=>.nilp
 | .slice none 0 0=>.nils
 | .map none=>.nilm
 | .nilFunc=>.nilf
 | _=>.top
def ofV:Value->AV
 | .agg cs=>.agg (cs.toList.map zMD)
 | .tuple cs=>.tuple (cs.toList.map zMD)
 | v=>zMD v
theorem zJs(j:Inj)(v:Value):VR j (zMD v) v:=by
 unfold zMD;split <;> simp[VR]
theorem zRM(j:Inj)(v:Value):VR j (ofV v) v:=by
 unfold ofV;split
 · rename_i cs
   refine ⟨cs,rfl,?_⟩;have:=VRs.map (j:=j) cs.toList zMD id (fun a _=>zJs j a);simpa using this
 · rename_i cs
   refine ⟨cs,rfl,?_⟩;have:=VRs.map (j:=j) cs.toList zMD id (fun a _=>zJs j a);simpa using this
 · exact zJs j v
def zV:AV:=.tuple []
def ev(F:List AV):Operand->AV
 | .tmp t=>F.getD t zV
 | .const v=>ofV v
 | .global _=>.top
 | .func f=>.func f [] []
theorem zQ{j:Inj}{F:List AV}{a:Act}(h:VRs j F a.tmps.toList)(x:Operand):VR j (ev F x) (a.eval x):=by
 cases x with
 | tmp t =>
   simp only[ev,Act.eval];rw[q2Z];have h1:=VRs_iff.1 h;cases hx:F[t]? with
   | some x =>
     obtain⟨v,hv,hr⟩:=h.at hx;have hv':a.tmps[t]? = some v:=by simpa using hv
     simp only[rgZ];rw[qvZ,hv'];exact hr
   | none =>
     have ht:F.length<=t:=by simpa using hx
     have:a.tmps[t]? = none:=by rw[Array.getElem?_eq_none];have:=h1.1;simp at this;omega
     rw[qvZ,this];exact⟨#[],rfl,rfl⟩
 | const v=>exact zRM j v
 | global g=>trivial
 | func f=>exact⟨#[],#[],rfl,rfl,rfl⟩
def zUx(op:BinOp)(a b:Int):Option Bool :=
 match op with
 | .eql=>some (a==b)
 | .neq=>some (a != b)
 | .lss=>some (a<b)
 | .leq=>some (a<=b)
 | .gtr=>some (a > b)
 | .geq=>some (a≥b)
 | _=>none
def zUm(op:BinOp)(x y:List UInt8):Option AV :=
 match op with
 | .add=>if x.length+y.length<=9223372036854775807 then some (.str (x++y)) else none
 | .eql=>some (.bool (x==y))
 | .neq=>some (.bool !(x==y))
 | .lss=>some (.bool (Op.bytesLess x y))
 | .leq=>some (.bool (Op.bytesLess x y || x==y))
 | .gtr=>some (.bool !(Op.bytesLess x y || x==y))
 | .geq=>some (.bool !(Op.bytesLess x y))
 | _=>none
def zR8(op:BinOp)(k:IntKind)(x y:Int):Int :=
 match op with
 | .and=>k.wrap (BitVec.ofInt k.bits x &&& BitVec.ofInt k.bits y).toNat
 | .or=>k.wrap (BitVec.ofInt k.bits x ||| BitVec.ofInt k.bits y).toNat
 | .xor=>k.wrap (BitVec.ofInt k.bits x ^^^ BitVec.ofInt k.bits y).toNat
 | _=>k.wrap (BitVec.ofInt k.bits x &&& ~~~BitVec.ofInt k.bits y).toNat
def zUi(op:BinOp)(k:IntKind)(a b:Int):Option AV :=
 match op with
 | .add=>some (.int k (k.wrap (a+b)))
 | .sub=>some (.int k (k.wrap (a-b)))
 | .mul=>some (.int k (k.wrap (a*b)))
 | .quo=>if b=0 then none else some (.int k (k.wrap (a.tdiv b)))
 | .rem=>if b=0 then none else some (.int k (a.tmod b))
 | .and | .or | .xor | .andNot=>some (.int k (zR8 op k a b))
 | .shl | .shr=>none
 | op=>(zUx op a b).map .bool
def zVw:AV->Option Bool
 | .nilp | .nils | .nilm | .nilf=>some true
 | .ptr .. | .slice .. | .map .. | .func .. | .yld ..=>some false
 | _=>none
def eqA:TypeDesc->AV->AV->Option Bool
 | .bool,.bool a,.bool b=>some (a==b)
 | .pointer _,.nilp,.ptr ..=>some false
 | .pointer _,.ptr ..,.nilp=>some false
 | .pointer _,.nilp,.nilp=>some true
 | .slice _,.nils,.nils=>some true
 | .slice _,.nils,.slice ..=>some false
 | .slice _,.slice ..,.nils=>some false
 | .slice _,.nils,.sl _ _ n _ _=>if 0<n then some false else none
 | .slice _,.sl _ _ n _ _,.nils=>if 0<n then some false else none
 | .map _ _,.nilm,.nilm=>some true
 | .map _ _,.nilm,.map ..=>some false
 | .map _ _,.map ..,.nilm=>some false
 | .func _ _ _,.nilf,.nilf=>some true
 | .func _ _ _,.nilf,.func ..=>some false
 | .func _ _ _,.func ..,.nilf=>some false
 | _,_,_=>none
def zPB(P:Program)(t:TypeId)(op:BinOp):AV->AV->Option AV
 | .int k a,.int k' b =>
   match op with
   | .shl=>if b<0 then none else some (.int k (k.wrap (a*2 ^ (min b.toNat k.bits))))
   | .shr=>if b<0 then none else some (.int k (a.fdiv (2 ^ (min b.toNat k.bits))))
   | op=>if k=k' then zUi op k a b else none
 | .str a,.str b=>zUm op a b
 | x,y =>
   match P.underlying t with
   | none=>none
   | some d =>
     match op with
     | .eql=>(eqA d x y).map .bool
     | .neq=>(eqA d x y).map fun b=>.bool (!b)
     | _=>none
theorem rb{P:Program}{α β:Type}{x:Sem α}{f:α->Sem β}{a:α}{w w':World}(h:Sem.run P x w=.ok a w'):Sem.run P (x >>= f) w=Sem.run P (f a) w':=by
 rw[Sem.run_bind,h];rfl
theorem zO{P:Program}{t:TypeId}{d:TypeDesc}(h:P.underlying t=some d)(w:World):Sem.run P (underlying t) w=.ok d w:=by
 simp[underlying,program,Sem.run_bind,Sem.run,h,Result.andThen]
theorem zHE{P:Program}{t:TypeId}{d:TypeInfo}(h:P.info? t=some d)(w:World):Sem.run P (typeInfo t) w=.ok d w:=by
 simp[typeInfo,program,Sem.run_bind,Sem.run,h,Result.andThen]
theorem zBg(a:List UInt8):(ByteArray.mk a.toArray).toList=a:=by rw[ByteArray.toList_eq]
theorem zRv{P:Program}{j:Inj}{t:TypeId}{d:TypeDesc}{x y:AV}{cx cy:Value}{r:Bool}(h:eqA d x y=some r)(ht:P.underlying t=some d)
   (hx:VR j x cx) (hy:VR j y cy) (w:World):(Op.equal t cx cy).run P w=.ok r w:=by
 have hm:Op.maxDepth=9999+1:=rfl;unfold Op.equal;rw[hm];unfold Op.equalIn;rw[rb (zO ht w)];clear ht;unfold eqA at h;have key:∀(b o n sz:Nat) (c:Bool) (v:Value),VR j (.sl b o n sz c) v->(if 0<n then some false else none)=some r->r=false/\∃a m k,v=.slice (some a) m k:=by
   intro b o n sz c v hv hr;split at hr <;> cases hr
   have:=zCP ‹_› hv;simp only[VR]at this;obtain⟨_,a,k,_,rfl,_⟩:=this;exact⟨rfl,_,_,_,rfl⟩
 split at h <;> (try (first | (obtain⟨rfl,_,_,_,rfl⟩:=key _ _ _ _ _ _ hx h;simp only[VR]at hy;subst hy;rfl) | (obtain⟨rfl,_,_,_,rfl⟩:=key _ _ _ _ _ _ hy h;simp only[VR]at hx;subst hx;rfl))) <;> (try cases h) <;> simp only[VR]at hx hy <;> (try obtain⟨_,_,_,_,rfl,_⟩:=hx) <;> (try obtain⟨_,_,rfl,_⟩:=hx) <;> (try obtain⟨_,_,rfl⟩:=hx) <;> (try obtain⟨_,_,_,_,rfl,_⟩:=hy) <;> (try obtain⟨_,_,rfl,_⟩:=hy) <;> (try obtain⟨_,_,rfl⟩:=hy) <;> (try subst hx) <;> (try subst hy) <;> rfl
theorem zQe{t:TypeId}{x y:Value}(h1:∀k n,x≠.int k n)(h2:∀s,x≠.string s)(h3:∀k n,x≠.float k n)(h4:∀k n m,x≠.complex k n m) :
   binOp .eql t x y=(do pure (.bool (<-Op.equal t x y))):=by
 cases x <;> first | rfl | (cases y <;> first | rfl | simp_all)
theorem zQD{t:TypeId}{x y:Value}(h1:∀k n,x≠.int k n)(h2:∀s,x≠.string s)(h3:∀k n,x≠.float k n)(h4:∀k n m,x≠.complex k n m) :
   binOp .neq t x y=(do pure (.bool (!(<-Op.equal t x y)))):=by
 cases x <;> first | rfl | (cases y <;> first | rfl | simp_all)
theorem zIn(x y:List UInt8):(ByteArray.mk (x++y).toArray)=ByteArray.mk x.toArray++ByteArray.mk y.toArray:=by
 apply ByteArray.ext;simp
theorem zCH{op:BinOp}{t:TypeId}{x y:Operand}{a b:Value}(h1:a≠.nilIface)(h2:∀c,a≠.agg c)(P:Program)(w:World):(eqGuard op t x y a b).run P w=.ok () w:=by
 unfold eqGuard;cases op <;> try rfl
 all_goals
   cases a <;> first | rfl | exact absurd rfl h1 | exact absurd rfl (h2 _)
theorem zSA{P:Program}{j:Inj}{t:TypeId}{op:BinOp}{x y:AV}{cx cy:Value}{r:AV}(h:zPB P t op x y=some r)
   (hx:VR j x cx) (hy:VR j y cy) (w:World) (ox oy:Operand):∃cv,((do eqGuard op t ox oy cx cy;binOp op t cx cy):Sem Value).run P w=.ok cv w/\VR j r cv:=by
 unfold zPB at h;split at h
 · rename_i k a k' b
   simp only[VR]at hx hy;subst hx;subst hy
   rw[rb (zCH (by simp) (by simp) P w)];split at h
   · split at h <;> cases h
     exact⟨_,by simp[binOp,Op.shift, *],rfl⟩
   · split at h <;> cases h
     exact⟨_,by simp[binOp,Op.shift, *],rfl⟩
   · split at h
     · rename_i hk
       subst hk;unfold zUi at h;cases op <;> simp_all [zUx] <;> (try (obtain⟨h0,h⟩:=h)) <;> (try subst h) <;> simp[binOp,Op.intArith,Op.intDiv,Op.intBits,Op.intCmp, *] <;> simp[VR,zR8]
     · cases h
 · rename_i a b
   simp only[VR]at hx hy;subst hx;subst hy
   rw[rb (zCH (by simp) (by simp) P w)];have e:binOp op t (.string ⟨a.toArray⟩) (.string ⟨b.toArray⟩)=Op.stringOp op ⟨a.toArray⟩ ⟨b.toArray⟩:=by cases op <;> rfl
   rw[e];unfold Op.stringOp;rw[zBg,zBg];unfold zUm at h;cases op <;> simp at h <;> (try subst h) <;> (try exact⟨_,rfl,by simp[VR]⟩)
   obtain⟨hl,rfl⟩:=h;refine ⟨.string ⟨(a++b).toArray⟩,?_,rfl⟩;dsimp only;have hmax:(IntKind.i64.max:Int)=9223372036854775807:=rfl;rw[hmax,if_neg (by simp[ByteArray.size];omega),zIn];rfl
 · rename_i hni hns
   split at h
   · cases h
   · rename_i d hd
     have hcx:(∀k n,cx≠.int k n)/\(∀s,cx≠.string s)/\(∀k n,cx≠.float k n)/\(∀k n m,cx≠.complex k n m)/\cx≠.nilIface/\(∀c,cx≠.agg c):=by
       have hxx:∀r,eqA d x y=some r->(∀k n,cx≠.int k n)/\(∀s,cx≠.string s)/\(∀k n,cx≠.float k n)/\(∀k n m,cx≠.complex k n m)/\cx≠.nilIface/\(∀c,cx≠.agg c):=by
         intro r hr;unfold eqA at hr;split at hr <;> (try cases hr) <;> simp only[VR]at hx <;> (try (rcases hx with⟨_,rfl⟩ | ⟨_,_,_,_,rfl,_⟩ <;> simp;done)) <;> (try obtain⟨_,_,_,_,rfl,_⟩:=hx) <;> (try obtain⟨_,_,rfl,_⟩:=hx) <;> (try obtain⟨_,_,rfl⟩:=hx) <;> (try subst hx) <;> simp
       cases hr:eqA d x y with
       | none=>rw[hr]at h;split at h <;> simp at h
       | some r=>exact hxx r hr
     obtain⟨c1,c2,c3,c4,c5,c6⟩:=hcx;rw[rb (zCH c5 c6 P w)];split at h
     · obtain⟨r',hr,rfl⟩:=qlZ.1 h
       rw[zQe c1 c2 c3 c4];exact⟨.bool r',by rw[rb (zRv hr hd hx hy w)];rfl,rfl⟩
     · obtain⟨r',hr,rfl⟩:=qlZ.1 h
       rw[zQD c1 c2 c3 c4];exact⟨.bool !r',by rw[rb (zRv hr hd hx hy w)];rfl,rfl⟩
     · cases h
def unA(op:UnOp):AV->Option AV
 | .bool b=>match op with | .not=>some (.bool (!b)) | _=>none
 | .int k n=>match op with
   | .neg=>some (.int k (k.wrap (0-n)))
   | .xor=>some (.int k (zR8 .xor k (if k.signed then -1 else k.max) n))
   | _=>none
 | _=>none
theorem zU7{P:Program}{j:Inj}{op:UnOp}{x r:AV}{cx:Value}(h:unA op x=some r)(hx:VR j x cx)(w:World):∃cv,(Op.unary op cx).run P w=.ok cv w/\VR j r cv:=by
 unfold unA at h;split at h
 · simp only[VR]at hx
   subst hx;split at h <;> cases h
   exact⟨_,rfl,rfl⟩
 · simp only[VR]at hx
   subst hx;split at h <;> cases h
   · exact⟨_,rfl,rfl⟩
   · exact⟨_,rfl,rfl⟩
 · cases h
def zOl(t:Bool):AV->AV->AV
 | .bool x,.bool y=>.bool (cond t x y)
 | x,y=>cond t x y
theorem zSI{j:Inj}{t:Bool}{x y:AV}{cx cy:Value}(hx:t=true->VR j x cx)(hy:t=false->VR j y cy):VR j (zOl t x y) (if t then cx else cy):=by
 unfold zOl;split <;> cases t <;> simp_all [VR]
def zH9:TypeDesc->Bool
 | .struct _ | .array _ _=>true
 | _=>false
theorem zF1{P:Program}{t:TypeId}{d:TypeDesc}(h:P.underlying t=some d)(w:World):Sem.run P (isAgg t) w=.ok (zH9 d) w:=by
 unfold isAgg;rw[rb (zO h w)];cases d <;> rfl
theorem zH8{P:Program}{t:TypeId}{i:TypeInfo}(h:P.info? t=some i)(w:World):Sem.run P (sizeOf t) w=.ok i.size w:=by
 unfold sizeOf;rw[rb (zHE h w)];rfl
def ZA(P:Program)(t:TypeId):Option Nat:=(P.info? t).map (·.size)
theorem ZO{P:Program}{t:TypeId}{n:Nat}(h:ZA P t=some n)(w:World):Sem.run P (sizeOf t) w=.ok n w:=by
 obtain⟨i,hi,rfl⟩:=qlZ.1 h;exact zH8 hi w
def zB1(P:Program)(t:TypeId):Option Nat:=(P.info? t).map (·.bytes)
def zFY(P:Program)(t:TypeId)(l:List AV)(off:Nat):Option AV :=
 match P.underlying t,ZA P t with
 | some d,some sz=>if zH9 d then (if off+sz<=l.length then some (.agg ((l.drop off).take sz)) else none) else l[off]?
 | _,_=>none
theorem zFn{P:Program}{j:Inj}{t:TypeId}{l:List AV}{cs:Array Value}{off:Nat}{r:AV}(h:zFY P t l off=some r)(hl:VRs j l cs.toList)(w:World) :
   ∃cv,(part t cs off).run P w=.ok cv w/\VR j r cv:=by
 unfold zFY at h;split at h
 · rename_i d sz hd hi
   unfold part;rw[rb (zF1 hd w)];split at h
   · rename_i ha
     rw[if_pos ha];rw[rb (ZO hi w)];split at h <;> cases h
     rename_i hle;refine ⟨_,rfl,_,rfl,?_⟩;have e:(cs.extract off (off+sz)).toList=(cs.toList.drop off).take sz:=by
       rw[Array.toList_extract];simp[List.extract_eq_take_drop]
     rw[e];exact (hl.drop off).take sz
   · rename_i ha
     rw[if_neg ha];obtain⟨v,hv,hr⟩:=hl.at h;have hv':cs[off]? = some v:=by simpa using hv
     rw[hv'];exact⟨v,rfl,hr⟩
 · cases h
def ZX(x:AV)(y:Nat):Option Nat :=
 match x with
 | .int _ i=>if 0<=i/\i<=y then some i.toNat else none
 | _=>none
theorem Zq{P:Program}{j:Inj}{x:AV}{cx:Value}{y r:Nat}(h:ZX x y=some r)(hx:VR j x cx)(c:BoundsCode)(w:World):(Instr.sliceBound cx y c).run P w=.ok r w/\r<=y:=by
 unfold ZX at h;split at h
 · simp only[VR]at hx
   subst hx;split at h <;> cases h
   rename_i k i hi;refine ⟨?_,by omega⟩;show Sem.run P (if 0<=i/\i<=y then pure i.toNat else _) w=_;rw[if_pos hi];rfl
 · cases h
def zt(F:List AV)(lo hi:Option Operand)(len:Nat)(cap:Nat):Option (Nat×Nat) :=
 match hi with
 | none=>match lo with
   | none=>some (0,len)
   | some l=>(ZX (ev F l) len).map fun l=>(l,len)
 | some h=>match ZX (ev F h) cap with
   | none=>none
   | some h=>match lo with
     | none=>some (0,h)
     | some l=>(ZX (ev F l) h).map fun l=>(l,h)
theorem zC6{P:Program}{j:Inj}{F:List AV}{a:Act}(hF:VRs j F a.tmps.toList){lo hi:Option Operand}{isS:Bool}{len cap cap' l h:Nat}(hr:zt F lo hi len cap=some (l,h))
   (hlc:len<=cap) (hcc:cap<=cap') (w:World) :
   (Instr.sliceBounds isS len cap' (lo.map a.eval) (hi.map a.eval) none).run P w=.ok (l,h,cap') w/\l<=h/\h<=cap:=by
 unfold zt at hr;unfold Instr.sliceBounds;cases hi with
 | none =>
   cases lo with
   | none =>
     cases hr;exact⟨rfl,by omega,hlc⟩
   | some lo =>
     obtain⟨l',hl,e⟩:=qlZ.1 hr;cases e;obtain⟨h1,h2⟩:=Zq (P:=P) hl (zQ hF lo) .sliceB w;refine ⟨?_,h2,hlc⟩;simp only[rhZ,Option.map_none,Option.isSome_none,qsZ,if_false];show Sem.run P (Instr.sliceBound (a.eval lo) len .sliceB >>= _) w=_;rw[rb h1];rfl
 | some hi =>
   dsimp only at hr;cases hb:ZX (ev F hi) cap with
   | none=>rw[hb]at hr;cases hr
   | some h' =>
     rw[hb]at hr;have hb':ZX (ev F hi) cap'=some h':=by
       unfold ZX at hb ⊢;split at hb
       · split at hb <;> cases hb
         rw[if_pos (by omega)]
       · cases hb
     obtain⟨h1,h2⟩:=Zq (P:=P) hb' (zQ hF hi) (if isS then .sliceAcap else .sliceAlen) w;have h2':=(Zq (P:=P) hb (zQ hF hi) (if isS then .sliceAcap else .sliceAlen) w).2;cases lo with
     | none =>
       cases hr;refine ⟨?_,by omega,h2'⟩;simp only[rhZ,Option.map_none];show Sem.run P (Instr.sliceBound (a.eval hi) cap' _ >>= _) w=_;rw[rb h1];rfl
     | some lo =>
       obtain⟨l',hl,e⟩:=qlZ.1 hr;cases e;obtain⟨h3,h4⟩:=Zq (P:=P) hl (zQ hF lo) .sliceB w;refine ⟨?_,h4,h2'⟩;simp only[rhZ,Option.isSome_none,qsZ,if_false];show Sem.run P (Instr.sliceBound (a.eval hi) cap' _ >>= _) w=_;rw[rb h1];show Sem.run P (Instr.sliceBound (a.eval lo) _ .sliceB >>= _) w=_;rw[rb h3];rfl
def zKo:Option TypeDesc->Bool
 | some (.int _) | some .string | some .bool=>true
 | _=>false
def zCs(P:Program):List Field->Nat->Bool
 | [],_=>true
 | f :: fs, i => f.name != "_" && f.offset == i && zKo (P.underlying f.type) && (ZA P f.type).isSome && zCs P fs (i + 1)
def Zh(P:Program)(t:TypeId):Option Nat :=
 match P.underlying t with
 | some (.struct fs)=>if !P.stoodInHeld t&&!P.eqGuardType P.depth t&&zCs P fs.toList 0 then some fs.size else none
 | _=>none
def Z3:AV->AV->Option Bool
 | .int k a,.int k' b=>if k=k' then some (a==b) else none
 | .str a,.str b=>some (a==b)
 | .bool a,.bool b=>some (a==b)
 | _,_=>none
def zBE:List AV->List AV->Option Bool
 | [],[]=>some true
 | x::xs,y::ys =>
   match Z3 x y,zBE xs ys with
   | some b,some c=>some (b&&c)
   | _,_=>none
 | _,_=>none
theorem zQg{P:Program}{j:Inj}{t:TypeId}{x y:AV}{cx cy:Value}{r:Bool}(h:Z3 x y=some r)(_ht:zKo (P.underlying t)=true)(htt:∀k a,x=.int k a->∃k',P.underlying t=some (.int k'))(hts:∀a,x=.str a->P.underlying t=some .string)(htb:∀a,x=.bool a->P.underlying t=some .bool)
   (hx:VR j x cx) (hy:VR j y cy) (d:Nat) (w:World):(Op.equalIn (d+1) t cx cy).run P w=.ok r w:=by
 unfold Z3 at h;split at h
 · rename_i k a k' b
   split at h <;> cases h
   rename_i hk;subst hk;simp only[VR]at hx hy;subst hx;subst hy
   obtain⟨k',hu⟩:=htt _ _ rfl;exact run_equalIn_int w d t k k' a b hu
 · rename_i a b
   cases h;simp only[VR]at hx hy;subst hx;subst hy
   have:=run_equalIn_string w d t ⟨a.toArray⟩ ⟨b.toArray⟩ (hts _ rfl);rw[zBg,zBg]at this;exact this
 · rename_i a b
   cases h;simp only[VR]at hx hy;subst hx;subst hy
   exact run_equalIn_bool' w d t a b (htb _ rfl)
 · cases h
def zHC(P:Program)(t:TypeId):AV->Bool
 | .int _ _=>match P.underlying t with | some (.int _)=>true | _=>false
 | .str _=>match P.underlying t with | some .string=>true | _=>false
 | .bool _=>match P.underlying t with | some .bool=>true | _=>false
 | _=>false
def zCh(P:Program):List Field->List AV->Bool
 | [],[]=>true
 | f::fs,x::xs=>zHC P f.type x&&zCh P fs xs
 | _,_=>false
theorem zE0{P:Program}{j:Inj}{lx ly:List AV}{xs ys:Array Value}(hx:VRs j lx xs.toList)(hy:VRs j ly ys.toList)(d:Nat)(w:World):∀(fs:List Field) (i:Nat) (r:Bool),zCs P fs i=true->zCh P fs (lx.drop i)=true->zBE (lx.drop i) (ly.drop i)=some r->(Op.eqFields (d+1) xs ys fs).run P w=.ok r w
 | [],i,r,_,hk,h=>by
   cases hl:lx.drop i with
   | cons _ _=>rw[hl]at hk;simp[zCh]at hk
   | nil =>
     rw[hl]at h;cases hl2:ly.drop i with
     | cons _ _=>rw[hl2]at h;simp[zBE]at h
     | nil=>rw[hl2]at h;simp[zBE]at h;subst h;rfl
 | f::fs,i,r,hf,hk,h=>by
   simp only[zCs,qrZ,beq_iff_eq,bne_iff_ne,ne_eq]at hf;obtain⟨⟨⟨⟨f1,f2⟩,f3⟩,f4⟩,f5⟩:=hf;cases hl:lx.drop i with
   | nil=>rw[hl]at hk;simp[zCh]at hk
   | cons x lx' =>
     rw[hl]at hk h;cases hl2:ly.drop i with
     | nil=>rw[hl2]at h;simp[zBE]at h
     | cons y ly' =>
       rw[hl2]at h;simp only[zCh,qrZ]at hk;have dx:lx.drop (i+1)=lx':=by rw[<-List.drop_drop,hl];rfl
       have dy:ly.drop (i+1)=ly':=by rw[<-List.drop_drop,hl2];rfl
       have gx:lx[i]? = some x:=by have:=congrArg (·[0]?) hl;simpa using this
       have gy:ly[i]? = some y:=by have:=congrArg (·[0]?) hl2;simpa using this
       obtain⟨sz,hsz⟩:=Option.isSome_iff_exists.1 f4;have px:zFY P f.type lx i=some x:=by
         unfold zFY;rw[hsz];unfold zKo at f3;split at f3 <;> first | (rename_i hu;rw[hu];exact gx) | cases f3
       have py:zFY P f.type ly i=some y:=by
         unfold zFY;rw[hsz];unfold zKo at f3;split at f3 <;> first | (rename_i hu;rw[hu];exact gy) | cases f3
       obtain⟨cx,e1,e2⟩:=zFn px hx w;obtain⟨cy,g1,g2⟩:=zFn py hy w;simp only[zBE]at h;split at h;rotate_left
       · cases h
       rename_i b c hb hc;cases h;have key:=zQg (P:=P) (t:=f.type) hb f3 (fun k a e=>by
           subst e;have:=hk.1;unfold zHC at this;dsimp only at this;split at this
           · exact⟨_,‹_›⟩
           · cases this) (fun a e=>by
           subst e;have:=hk.1;unfold zHC at this;dsimp only at this;split at this
           · assumption
           · cases this) (fun a e=>by
           subst e;have:=hk.1;unfold zHC at this;dsimp only at this;split at this
           · assumption
           · cases this) e2 g2 d w
       unfold Op.eqFields;rw[if_pos f1,f2,rb e1,rb g1,rb key];cases b with
       | false=>rfl
       | true =>
         simp only[Bool.not_true,qsZ,if_false,Bool.true_and];exact zE0 hx hy d w fs (i+1) c f5 (by rw[dx];exact hk.2) (by rw[dx,dy];exact hc)
def zTe(P:Program)(t:TypeId)(op:BinOp)(x y:AV):Option AV :=
 match x,y with
 | .agg xs,.agg ys =>
   match Zh P t,P.underlying t with
   | some _,some (.struct fs) =>
     if zCh P fs.toList xs then
       match op with
       | .eql=>(zBE xs ys).map .bool
       | .neq=>(zBE xs ys).map fun b=>.bool (!b)
       | _=>none
     else none
   | _,_=>none
 | x,y=>zPB P t op x y
theorem zTU{P:Program}{j:Inj}{t:TypeId}{op:BinOp}{x y:AV}{cx cy:Value}{r:AV}(h:zTe P t op x y=some r)
   (hx:VR j x cx) (hy:VR j y cy) (w:World) (ox oy:Operand):∃cv,((do eqGuard op t ox oy cx cy;binOp op t cx cy):Sem Value).run P w=.ok cv w/\VR j r cv:=by
 unfold zTe at h;split at h;rotate_left
 · exact zSA h hx hy w ox oy
 rename_i xs ys;split at h;rotate_left
 · cases h
 rename_i n fs hfe ht;split at h;rotate_left
 · cases h
 rename_i hk;simp only[VR]at hx hy;obtain⟨cs,rfl,hxs⟩:=hx;obtain⟨ds,rfl,hys⟩:=hy;unfold Zh at hfe;rw[ht]at hfe;dsimp only at hfe;split at hfe <;> cases hfe
 rename_i hc;simp only[qrZ,Bool.not_eq_true']at hc;obtain⟨⟨c1,c2⟩,c3⟩:=hc;have hfo:P.fieldsOf t=fs:=by unfold Program.fieldsOf;rw[ht]
 have key:∀r,zBE xs ys=some r->(Op.equalIn 10000 t (.agg cs) (.agg ds)).run P w=.ok r w:=by
   intro r hr;rw[show (10000:Nat)=9998+1+1 from rfl,run_equalIn_struct w _ t cs ds (by rw[hfo];exact ht) c1,hfo];exact zE0 hxs hys 9998 w fs.toList 0 r c3 hk hr
 rw[rb (run_eqGuard_agg w op t ox oy cs ds c2)];split at h
 · obtain⟨r',hr,rfl⟩:=qlZ.1 h
   rw[run_eql_struct,key r' hr];exact⟨_,rfl,rfl⟩
 · obtain⟨r',hr,rfl⟩:=qlZ.1 h
   rw[run_neq_struct,key r' hr];exact⟨_,rfl,rfl⟩
 · cases h
def zA9(P:Program)(F:List AV)(t:TypeId)(x:AV)(lo hi mx:Option Operand):Option AV :=
 match P.underlying t,x,mx with
 | some .string,.str s,none=>(zt F lo hi s.length s.length).map fun (l,h)=>.str ((s.drop l).take (h-l))
 | some (.slice e),.slice b off len sz clip,none =>
   if ZA P e=some sz then (zt F lo hi len len).map fun (l,h)=>.slice b (off+l*sz) (h-l) sz (clip&&h==len) else none
 | some (.slice e),.slice b off len sz _,some m =>
   if ZA P e=some sz then
     match hi with
     | none=>none
     | some hi =>
       match ZX (ev F m) len with
       | none=>none
       | some m' =>
         match zt F lo (some hi) m' m' with
         | none=>none
         | some (l,h)=>if h=m' then some (.slice b (off+l*sz) (h-l) sz true) else none
   else none
 | some (.slice e),.nils,none=>if (ZA P e).isSome then (zt F lo hi 0 0).map fun _=>.nils else none
 | some (.slice e),.nils,some m =>
   if (ZA P e).isSome then
     match hi with
     | none=>none
     | some hi =>
       match ZX (ev F m) 0 with
       | none=>none
       | some m'=>(zt F lo (some hi) m' m').bind fun (_,h)=>if h=m' then some .nils else none
   else none
 | some (.array n e),.ptr b off,none =>
   match ZA P e with
   | none=>none
   | some sz=>if n<=9223372036854775807 then (zt F lo hi n n).map fun (l,h)=>.slice b (off+l*sz) (h-l) sz (h==n) else none
 | _,_,_=>none
theorem zLX(s:List UInt8)(l h:Nat):(ByteArray.mk s.toArray).extract l h=⟨((s.drop l).take (h-l)).toArray⟩:=by
 apply ByteArray.ext;apply Array.toList_inj.1;rw[Lib.extract_data]
def zUV(j:Inj)(b off n:Nat):Prop:=∀p,j b=some p->p.base+off+n<=p.size
theorem zHP{p:JB}{a:Addr}{off l cap sz m:Nat}(hm:m<=cap)(hl:l<=m)(h:cap=0\/(a=⟨p.blk,p.base+off,none⟩/\p.base+off+cap*sz<=p.size)) :
   (m-l=0\/((if m=l then a else a.add (l*sz))=⟨p.blk,p.base+(off+l*sz),none⟩/\p.base+(off+l*sz)+(m-l)*sz<=p.size)):=by
 by_cases e:m=l
 · left;omega
 · right
   rw[if_neg e];rcases h with h | ⟨rfl,h⟩
   · omega
   · have h1:l*sz+(m-l)*sz=m*sz:=by rw[<-Nat.add_mul];congr 1;omega
     have h2:m*sz<=cap*sz:=Nat.mul_le_mul_right _ hm;refine ⟨?_,by omega⟩;unfold Addr.add;split
     · simp_all
     · simp;omega
theorem zEV{P:Program}{j:Inj}{F:List AV}{a:Act}(hF:VRs j F a.tmps.toList){t:TypeId}{x r:AV}{cx:Value}{lo hi mx:Option Operand}(h:zA9 P F t x lo hi mx=some r)
   (hx:VR j x cx) (w:World) (ha:∀b off n e sz,x=.ptr b off->P.underlying t=some (.array n e)->ZA P e=some sz->zUV j b off (n*sz)) :
   ∃cv,(Instr.sliceAt t cx (lo.map a.eval) (hi.map a.eval) (mx.map a.eval)).run P w=.ok cv w/\VR j r cv:=by
 unfold zA9 at h;unfold Instr.sliceAt;split at h
 · rename_i s ht
   simp only[VR]at hx;subst hx;obtain⟨⟨l,h'⟩,hlh,rfl⟩:=qlZ.1 h;have hlh':zt F lo hi (ByteArray.mk s.toArray).size (ByteArray.mk s.toArray).size=some (l,h'):=by rw[zMq];exact hlh
   obtain⟨h1,h2,h3⟩:=zC6 (P:=P) hF (isS:=false) hlh' (qnZ _) (qnZ _) w;rw[rb (zO ht w)];show ∃cv,Sem.run P (Instr.slice t _ _ _ _) w=_/\_;unfold Instr.slice;rw[rb (zO ht w)];refine ⟨.string ⟨((s.drop l).take (h'-l)).toArray⟩,?_,rfl⟩;show Sem.run P (Instr.sliceBounds false _ _ _ _ none >>= _) w=_;rw[rb h1];show Sem.run P (pure (Value.string ((ByteArray.mk s.toArray).extract l h'))) w=_;rw[zLX];rfl
 · rename_i e b off len sz clip ht
   simp only[VR]at hx;obtain⟨p,ad,cap,hp,rfl,hlc,hclip,hm,hadr⟩:=hx;split at h;rotate_left
   · cases h
   rename_i hsz;obtain⟨⟨l,h'⟩,hlh,rfl⟩:=qlZ.1 h;have hlh':zt F lo hi len len=some (l,h'):=hlh;obtain⟨h1,h2,h3⟩:=zC6 (P:=P) hF (isS:=true) hlh' (qnZ _) hlc w;rw[rb (zO ht w)];show ∃cv,Sem.run P (Instr.slice t _ _ _ _) w=_/\_;unfold Instr.slice;rw[rb (zO ht w)];refine ⟨.slice (some (if cap=l then ad else ad.add (l*sz))) (h'-l) (cap-l),?_,?_⟩
   · show Sem.run P (Instr.sliceBounds true _ _ _ _ none >>= _) w=_
     rw[rb h1];dsimp only;rw[rb (ZO hsz w)];by_cases e:cap=l <;> simp[e,go_sem]
   · refine ⟨p,_,_,hp,rfl,by omega,?_,by omega,zHP (qnZ _) (by omega) hadr⟩
     intro hc;simp at hc;obtain⟨c1,c2⟩:=hc;have:=hclip c1;omega
 · rename_i e b off len sz clip m ht
   simp only[VR]at hx;obtain⟨p,ad,cap,hp,rfl,hlc,hclip,hm,hadr⟩:=hx;split at h;rotate_left
   · cases h
   rename_i hsz;split at h
   · cases h
   rename_i hi';split at h
   · cases h
   rename_i m' hm';split at h
   · cases h
   rename_i l h' hlh;split at h <;> cases h
   rename_i hhm;subst hhm;have hm'':ZX (ev F m) cap=some h':=by
     unfold ZX at hm' ⊢;split at hm'
     · split at hm' <;> cases hm'
       rw[if_pos (by omega)]
     · cases hm'
   have hml:=(Zq (P:=P) hm' (zQ hF m) .slice3Acap w).2;obtain⟨g1,g2⟩:=Zq (P:=P) hm'' (zQ hF m) .slice3Acap w;have hbh:ZX (ev F hi') h'=some h':=by
     unfold zt at hlh;dsimp only at hlh;cases hb:ZX (ev F hi') h' with
     | none=>rw[hb]at hlh;cases hlh
     | some z =>
       rw[hb]at hlh;dsimp only at hlh;cases lo with
       | none=>cases hlh;rfl
       | some lo =>
         obtain⟨q,_,e⟩:=qlZ.1 hlh;cases e;rfl
   obtain⟨k1,k2⟩:=Zq (P:=P) hbh (zQ hF hi') .slice3B w;rw[rb (zO ht w)];show ∃cv,Sem.run P (Instr.slice t _ _ _ _) w=_/\_;unfold Instr.slice;rw[rb (zO ht w)];have hbd:Sem.run P (Instr.sliceBounds true len cap (lo.map a.eval) (some (a.eval hi')) (some (a.eval m))) w=.ok (l,h',h') w/\l<=h':=by
     unfold Instr.sliceBounds;unfold zt at hlh;dsimp only at hlh;rw[hbh]at hlh;dsimp only at hlh;show Sem.run P (Instr.sliceBound (a.eval m) cap .slice3Acap >>= _) w=_/\_;rw[rb g1];show Sem.run P (Instr.sliceBound (a.eval hi') h' .slice3B >>= _) w=_/\_;rw[rb k1];cases lo with
     | none=>cases hlh;exact⟨rfl,qqZ _⟩
     | some lo =>
       obtain⟨q,hq,e⟩:=qlZ.1 hlh;cases e;obtain⟨q1,q2⟩:=Zq (P:=P) hq (zQ hF lo) .slice3C w;refine ⟨?_,q2⟩;show Sem.run P (Instr.sliceBound (a.eval lo) _ .slice3C >>= _) w=_;rw[rb q1];rfl
   refine ⟨.slice (some (if h'=l then ad else ad.add (l*sz))) (h'-l) (h'-l),?_,?_⟩
   · show Sem.run P (Instr.sliceBounds true _ _ _ (some (a.eval hi')) (some (a.eval m)) >>= _) w=_
     rw[rb hbd.1];dsimp only;rw[rb (ZO hsz w)];by_cases e:h'=l <;> simp[e,go_sem]
   · exact⟨p,_,_,hp,rfl,qnZ _,fun _=>rfl,by omega,zHP (by omega) hbd.2 hadr⟩
 · rename_i e ht
   simp only[VR]at hx;subst hx;split at h;rotate_left
   · cases h
   rename_i hsz;obtain⟨sz,hsz⟩:=Option.isSome_iff_exists.1 hsz;obtain⟨⟨l,h'⟩,hlh,rfl⟩:=qlZ.1 h;obtain⟨h1,h2,h3⟩:=zC6 (P:=P) hF (isS:=true) hlh (qnZ _) (qnZ _) w;rw[rb (zO ht w)];show ∃cv,Sem.run P (Instr.slice t _ _ _ _) w=_/\_;unfold Instr.slice;rw[rb (zO ht w)];refine ⟨.slice none 0 0,?_,rfl⟩;show Sem.run P (Instr.sliceBounds true 0 0 _ _ none >>= _) w=_;rw[rb h1];dsimp only;rw[rb (ZO hsz w)];have e1:l=0:=by omega
   have e2:h'=0:=by omega
   subst e1;subst e2
   rfl
 · rename_i e m ht
   simp only[VR]at hx;subst hx;split at h;rotate_left
   · cases h
   rename_i hsz;obtain⟨sz,hsz⟩:=Option.isSome_iff_exists.1 hsz;split at h
   · cases h
   rename_i hi';split at h
   · cases h
   rename_i m' hm';obtain⟨⟨l,h'⟩,hlh,h⟩:=s6Z.1 h;dsimp only at h;split at h <;> cases h
   rename_i hhm;subst hhm;obtain⟨g1,g2⟩:=Zq (P:=P) hm' (zQ hF m) .slice3Acap w;have hbh:ZX (ev F hi') h'=some h':=by
     unfold zt at hlh;dsimp only at hlh;cases hb:ZX (ev F hi') h' with
     | none=>rw[hb]at hlh;cases hlh
     | some z =>
       rw[hb]at hlh;dsimp only at hlh;cases lo with
       | none=>cases hlh;rfl
       | some lo =>
         obtain⟨q,_,e⟩:=qlZ.1 hlh;cases e;rfl
   obtain⟨k1,k2⟩:=Zq (P:=P) hbh (zQ hF hi') .slice3B w;rw[rb (zO ht w)];show ∃cv,Sem.run P (Instr.slice t _ _ _ _) w=_/\_;unfold Instr.slice;rw[rb (zO ht w)];have hbd:Sem.run P (Instr.sliceBounds true 0 0 (lo.map a.eval) (some (a.eval hi')) (some (a.eval m))) w=.ok (l,h',h') w/\l<=h':=by
     unfold Instr.sliceBounds;unfold zt at hlh;dsimp only at hlh;rw[hbh]at hlh;dsimp only at hlh;show Sem.run P (Instr.sliceBound (a.eval m) 0 .slice3Acap >>= _) w=_/\_;rw[rb g1];show Sem.run P (Instr.sliceBound (a.eval hi') h' .slice3B >>= _) w=_/\_;rw[rb k1];cases lo with
     | none=>cases hlh;exact⟨rfl,qqZ _⟩
     | some lo =>
       obtain⟨q,hq,e⟩:=qlZ.1 hlh;cases e;obtain⟨q1,q2⟩:=Zq (P:=P) hq (zQ hF lo) .slice3C w;refine ⟨?_,q2⟩;show Sem.run P (Instr.sliceBound (a.eval lo) _ .slice3C >>= _) w=_;rw[rb q1];rfl
   refine ⟨.slice none 0 0,?_,rfl⟩;show Sem.run P (Instr.sliceBounds true 0 0 _ (some (a.eval hi')) (some (a.eval m)) >>= _) w=_;rw[rb hbd.1];dsimp only;rw[rb (ZO hsz w)];have e1:h'=0:=by omega
   have e2:l=0:=by have:=hbd.2;omega
   subst e1;subst e2
   rfl
 · rename_i n e b off ht
   split at h
   · cases h
   rename_i sz hsz;split at h;rotate_left
   · cases h
   rename_i hn;have hok:=ha b off n e sz rfl ht hsz;simp only[VR]at hx;obtain⟨p,hp,rfl⟩:=hx;obtain⟨⟨l,h'⟩,hlh,rfl⟩:=qlZ.1 h;obtain⟨h1,h2,h3⟩:=zC6 (P:=P) hF (isS:=false) hlh (qnZ _) (qnZ _) w;rw[rb (zO ht w)];refine ⟨.slice (some (if n=l then ⟨p.blk,p.base+off,none⟩ else (⟨p.blk,p.base+off,none⟩:Addr).add (l*sz))) (h'-l) (n-l),?_,?_⟩
   · show Sem.run P (Instr.sliceBounds false n n _ _ none >>= _) w=_
     rw[rb h1];dsimp only;rw[rb (ZO hsz w)];rfl
   · refine ⟨p,_,_,hp,rfl,by omega,?_,by unfold maxLen;omega,zHP (qnZ _) (by omega) (.inr ⟨rfl,by have:=hok p hp;omega⟩)⟩
     intro hc;simp at hc;omega
 · cases h
def zC8(P:Program)(F:List AV)(t:TypeId)(x:AV)(lo hi mx:Option Operand):Option AV :=
 match x with
 | .sl b off len sz clip =>
   match P.underlying t with
   | some (.slice _) =>
     match zA9 P F t (.slice b off len sz clip) lo hi mx with
     | some (.slice b' o' l' s' c')=>some (.sl b' o' l' s' c')
     | _=>none
   | _=>none
 | x=>zA9 P F t x lo hi mx
theorem zFC{F:List AV}{lo hi:Option Operand}{l h:Nat}(e:zt F lo hi 0 0=some (l,h)):h=0:=by
 have bz:∀(x:AV) (r:Nat),ZX x 0=some r->r=0:=by
   intro x r hr;unfold ZX at hr;split at hr
   · split at hr <;> cases hr
     omega
   · cases hr
 unfold zt at e;cases hi with
 | none =>
   dsimp only at e;cases lo with
   | none=>cases e;rfl
   | some lo=>obtain⟨q,_,e⟩:=qlZ.1 e;cases e;rfl
 | some hi =>
   dsimp only at e;cases hb:ZX (ev F hi) 0 with
   | none=>rw[hb]at e;cases e
   | some z =>
     rw[hb]at e;have hz:=bz _ _ hb;subst hz;dsimp only at e;cases lo with
     | none=>cases e;rfl
     | some lo=>obtain⟨q,_,e⟩:=qlZ.1 e;cases e;rfl
theorem zJe{P:Program}{j:Inj}{F:List AV}{a:Act}(hF:VRs j F a.tmps.toList){t:TypeId}{x r:AV}{cx:Value}{lo hi mx:Option Operand}(h:zC8 P F t x lo hi mx=some r)
   (hx:VR j x cx) (w:World) (ha:∀b off n e sz,x=.ptr b off->P.underlying t=some (.array n e)->ZA P e=some sz->zUV j b off (n*sz)) :
   ∃cv,(Instr.sliceAt t cx (lo.map a.eval) (hi.map a.eval) (mx.map a.eval)).run P w=.ok cv w/\VR j r cv:=by
 unfold zC8 at h;split at h
 · rename_i b off len sz clip
   split at h;rotate_left
   · cases h
   rename_i e ht;split at h;rotate_left
   · cases h
   rename_i b' o' l' s' c' hs;cases h;rcases zDC hx with⟨rfl,rfl⟩ | hx'
   · have hn:zA9 P F t .nils lo hi mx=some .nils/\l'=0:=by
       unfold zA9 at hs ⊢;rw[ht]at hs ⊢;cases mx with
       | none =>
         dsimp only at hs ⊢;split at hs;rotate_left
         · cases hs
         rename_i hsz;obtain⟨⟨l,h'⟩,hlh,e1⟩:=qlZ.1 hs;have hz:=zFC hlh;simp only[AV.slice.injEq]at e1;rw[hsz,hlh];simp;omega
       | some m =>
         dsimp only at hs ⊢;split at hs;rotate_left
         · cases hs
         rename_i hsz;cases hi with
         | none=>cases hs
         | some hi =>
           dsimp only at hs ⊢;cases hb:ZX (ev F m) 0 with
           | none=>rw[hb]at hs;cases hs
           | some m' =>
             have hm0:m'=0:=by
               unfold ZX at hb;split at hb
               · split at hb <;> cases hb
                 omega
               · cases hb
             subst hm0;rw[hb]at hs;dsimp only at hs;cases hl:zt F lo (some hi) 0 0 with
             | none=>rw[hl]at hs;cases hs
             | some lh =>
               obtain⟨l,h'⟩:=lh;have hz:=zFC hl;subst hz;rw[hl]at hs;simp at hs;rw[hsz];simp[hl];omega
     obtain⟨hn1,rfl⟩:=hn;obtain⟨cv,h1,h2⟩:=zEV (cx:=.slice none 0 0) hF hn1 (by simp[VR]) w (fun _ _ _ _ _ e1=>by cases e1);simp only[VR]at h2;subst h2;exact⟨_,h1,.inl ⟨rfl,rfl⟩⟩
   · obtain⟨cv,h1,h2⟩:=zEV hF hs hx' w (fun _ _ _ _ _ e1=>by cases e1)
     exact⟨cv,h1,zE4 h2⟩
 · exact zEV hF h hx w ha
def zTz(P:Program)(t:TypeId)(x ix:AV):Option AV :=
 match P.underlying t,x,ix with
 | some (.array n e),.ptr b off,.int _ i =>
   match ZA P e with
   | some sz=>if 0<=i/\i<n then some (.ptr b (off+i.toNat*sz)) else none
   | none=>none
 | some (.slice e),.slice b off len sz _,.int _ i=>if ZA P e=some sz/\0<=i/\i<len then some (.ptr b (off+i.toNat*sz)) else none
 | some (.slice e),.sl b off len sz _,.int _ i=>if ZA P e=some sz/\0<=i/\i<len then some (.ptr b (off+i.toNat*sz)) else none
 | _,_,_=>none
theorem zB6(c n m:Nat):(⟨c,n,none⟩:Addr).add m=⟨c,n+m,none⟩:=by
 unfold Addr.add;split
 · subst_vars;rfl
 · rfl
theorem zT3{P:Program}{j:Inj}{t:TypeId}{x ix r:AV}{cx ci:Value}(h:zTz P t x ix=some r)(hx:VR j x cx)(hi:VR j ix ci)(w:World) :
   ∃cv,(Instr.indexAt t cx ci).run P w=.ok cv w/\VR j r cv:=by
 unfold zTz at h;unfold Instr.indexAt;split at h
 · rename_i n e b off k i ht
   simp only[VR]at hx hi;obtain⟨p,hp,rfl⟩:=hx;subst hi;split at h;rotate_left
   · cases h
   rename_i sz hsz;split at h <;> cases h
   rename_i hin;refine ⟨.pointer (some ⟨p.blk,p.base+(off+i.toNat*sz),none⟩),?_,p,hp,rfl⟩;show Sem.run P (pure (k,i) >>= _) w=_;rw[rb (a:=(k,i)) (w':=w) rfl];dsimp only;rw[rb (zO ht w)];dsimp only;rw[rb (a:=(⟨p.blk,p.base+off,none⟩:Addr)) (w':=w) rfl];rw[rb (a:=(some (⟨p.blk,p.base+off,none⟩:Addr),n,e)) (w':=w) rfl];dsimp only;rw[rb (zO ht w)];dsimp only;rw[if_pos hin];rw[rb (ZO hsz w),zB6,Nat.add_assoc];rfl
 · rename_i e b off len sz clip k i ht
   simp only[VR]at hx hi;obtain⟨p,ad,cap,hp,rfl,hlc,hclip,hm,hadr⟩:=hx;subst hi;split at h <;> cases h
   rename_i hin;obtain⟨hsz,hin⟩:=hin;have hadr':ad=⟨p.blk,p.base+off,none⟩:=by
     rcases hadr with h0 | ⟨h0,_⟩
     · omega
     · exact h0
   subst hadr';refine ⟨.pointer (some ⟨p.blk,p.base+(off+i.toNat*sz),none⟩),?_,p,hp,rfl⟩;show Sem.run P (pure (k,i) >>= _) w=_;rw[rb (a:=(k,i)) (w':=w) rfl];dsimp only;rw[rb (zO ht w)];dsimp only;rw[rb (a:=(some (⟨p.blk,p.base+off,none⟩:Addr),len,e)) (w':=w) rfl];dsimp only;rw[rb (zO ht w)];dsimp only;rw[if_pos hin];rw[rb (ZO hsz w),zB6,Nat.add_assoc];rfl
 · rename_i e b off len sz clip k i ht
   split at h <;> cases h
   rename_i hin;obtain⟨hsz,hin⟩:=hin;replace hx:=zCP (by omega) hx;simp only[VR]at hx hi;obtain⟨p,ad,cap,hp,rfl,hlc,hclip,hm,hadr⟩:=hx;subst hi;have hadr':ad=⟨p.blk,p.base+off,none⟩:=by
     rcases hadr with h0 | ⟨h0,_⟩
     · omega
     · exact h0
   subst hadr';refine ⟨.pointer (some ⟨p.blk,p.base+(off+i.toNat*sz),none⟩),?_,p,hp,rfl⟩;show Sem.run P (pure (k,i) >>= _) w=_;rw[rb (a:=(k,i)) (w':=w) rfl];dsimp only;rw[rb (zO ht w)];dsimp only;rw[rb (a:=(some (⟨p.blk,p.base+off,none⟩:Addr),len,e)) (w':=w) rfl];dsimp only;rw[rb (zO ht w)];dsimp only;rw[if_pos hin];rw[rb (ZO hsz w),zB6,Nat.add_assoc];rfl
 · cases h
def zOm(P:Program)(t:TypeId)(x ix:AV):Option AV :=
 match P.underlying t,x,ix with
 | some .string,.str s,.int _ i=>if 0<=i then (s[i.toNat]?).map fun c=>.int .u8 c.toNat else none
 | some (.array n e),.agg l,.int _ i =>
   match ZA P e with
   | some sz=>if 0<=i/\i<n then zFY P e l (i.toNat*sz) else none
   | none=>none
 | _,_,_=>none
theorem zSY{P:Program}{j:Inj}{t:TypeId}{x ix r:AV}{cx ci:Value}(h:zOm P t x ix=some r)(hx:VR j x cx)(hi:VR j ix ci)(w:World) :
   ∃cv,(Instr.index t cx ci).run P w=.ok cv w/\VR j r cv:=by
 unfold zOm at h;unfold Instr.index;split at h
 · rename_i s k i ht
   simp only[VR]at hx hi;subst hx;subst hi
   split at h;rotate_left
   · cases h
   rename_i h0;obtain⟨c,hc,rfl⟩:=qlZ.1 h;refine ⟨.int .u8 c.toNat,?_,rfl⟩;rw[rb (a:=(k,i)) (w':=w) rfl];dsimp only;rw[rb (zO ht w)];dsimp only;rw[if_pos h0];have e:(ByteArray.mk s.toArray)[i.toNat]? = some c:=by
     obtain⟨hl,rfl⟩:=q1Z.1 hc;have hl':i.toNat<(ByteArray.mk s.toArray).size:=by simpa[ByteArray.size] using hl
     exact (getElem?_pos (ByteArray.mk s.toArray) i.toNat hl').trans rfl
   rw[e];rfl
 · rename_i n e l k i ht
   simp only[VR]at hx hi;obtain⟨cs,rfl,hl⟩:=hx;subst hi;split at h;rotate_left
   · cases h
   rename_i sz hsz;split at h;rotate_left
   · cases h
   rename_i hin;obtain⟨cv,h1,h2⟩:=zFn h hl w;refine ⟨cv,?_,h2⟩;rw[rb (a:=(k,i)) (w':=w) rfl];dsimp only;rw[rb (zO ht w)];dsimp only;rw[if_pos hin];rw[rb (ZO hsz w)];exact h1
 · cases h
def zCq(P:Program)(t:TypeId)(x:AV)(f:Nat):Option AV :=
 match P.underlying t,x with
 | some (.struct fs),.ptr b off =>
   match fs[f]? with
   | some fd=>match ZA P fd.type with
     | some (_+1)=>some (.ptr b (off+fd.offset))
     | _=>none
   | none=>none
 | _,_=>none
theorem zIi{P:Program}{j:Inj}{t:TypeId}{x r:AV}{cx:Value}{f:Nat}(h:zCq P t x f=some r)(hx:VR j x cx)(w:World) :
   ∃cv,(Instr.fieldAt t cx f).run P w=.ok cv w/\VR j r cv:=by
 unfold zCq at h;unfold Instr.fieldAt;split at h
 · rename_i fs b off ht
   simp only[VR]at hx;obtain⟨p,hp,rfl⟩:=hx;split at h;rotate_left
   · cases h
   rename_i fd hfd;split at h;rotate_left
   · cases h
   rename_i sz hsz;cases h;refine ⟨.pointer (some ⟨p.blk,p.base+(off+fd.offset),none⟩),?_,p,hp,rfl⟩;rw[rb (zO ht w)];dsimp only;rw[hfd];dsimp only;rw[rb (a:=(⟨p.blk,p.base+off,none⟩:Addr)) (w':=w) rfl];have e:Sem.run P (fieldPlace ⟨p.blk,p.base+off,none⟩ fd) w=.ok ⟨p.blk,p.base+(off+fd.offset),none⟩ w:=by
     unfold fieldPlace;rw[rb (ZO hsz w),if_neg (by omega),zB6,Nat.add_assoc];rfl
   rw[rb e];rfl
 · cases h
def zJt(P:Program)(t:TypeId)(x:AV)(f:Nat):Option AV :=
 match P.underlying t,x with
 | some (.struct fs),.agg l =>
   match fs[f]? with
   | some fd=>zFY P fd.type l fd.offset
   | none=>none
 | _,_=>none
theorem zQQ{P:Program}{j:Inj}{t:TypeId}{x r:AV}{cx:Value}{f:Nat}(h:zJt P t x f=some r)(hx:VR j x cx)(w:World) :
   ∃cv,(Instr.field t cx f).run P w=.ok cv w/\VR j r cv:=by
 unfold zJt at h;unfold Instr.field;split at h
 · rename_i fs l ht
   simp only[VR]at hx;obtain⟨cs,rfl,hl⟩:=hx;split at h;rotate_left
   · cases h
   rename_i fd hfd;obtain⟨cv,h1,h2⟩:=zFn h hl w;refine ⟨cv,?_,h2⟩;rw[rb (zO ht w)];dsimp only;rw[hfd];dsimp only;rw[rb (a:=cs) (w':=w) rfl];exact h1
 · cases h
def zL4(P:Program)(s d:TypeId)(x:AV):Option AV :=
 match P.underlying s,P.underlying d,x with
 | some _,some (.int k),.int _ n=>some (.int k (k.wrap n))
 | some .string,some .string,.str l=>some (.str l)
 | _,_,_=>none
theorem zSK{P:Program}{j:Inj}{s d:TypeId}{x r:AV}{cx:Value}(h:zL4 P s d x=some r)(hx:VR j x cx)(w:World) :
   ∃cv,(convert s d cx).run P w=.ok cv w/\VR j r cv:=by
 unfold zL4 at h;unfold convert;split at h
 · rename_i hs hd
   simp only[VR]at hx;subst hx;cases h;rw[rb (zO hs w),rb (zO hd w)];exact⟨_,rfl,rfl⟩
 · rename_i hs hd
   simp only[VR]at hx;subst hx;cases h;rw[rb (zO hs w),rb (zO hd w)];exact⟨_,rfl,rfl⟩
 · cases h
def zDS(big:Bool):AV->AV->Option AV
 | .int k x,.int _ y=>some (.int k (if big then (if y > x then y else x) else (if y<x then y else x)))
 | _,_=>none
def zMR(big:Bool):List AV->Option AV
 | []=>none
 | x::xs=>xs.foldlM (zDS big) x
theorem zI6{P:Program}{j:Inj}(w:World):∀(xs:List AV) (cs:List Value) (x r:AV) (cx:Value),xs.foldlM (zDS false) x=some r->VR j x cx->VRs j xs cs ->
   ∃cv,Sem.run P (cs.foldlM Builtin.min2 cx) w=.ok cv w/\VR j r cv
 | [],cs,x,r,cx,h,hx,hs=>by
   simp only[VRs]at hs;subst hs;simp only[List.foldlM]at h;cases h;exact⟨cx,rfl,hx⟩
 | y::ys,cs,x,r,cx,h,hx,hs=>by
   simp only[VRs]at hs;obtain⟨v,ws,rfl,h1,h2⟩:=hs;simp only[List.foldlM]at h ⊢;cases hm:zDS false x y with
   | none=>rw[hm]at h;cases h
   | some z =>
     rw[hm]at h;unfold zDS at hm;split at hm <;> cases hm
     simp only[VR]at hx h1;subst hx;subst h1
     rw[rb (a:=_) (w':=w) (show Sem.run P (Builtin.min2 _ _) w=.ok _ w from rfl)];exact zI6 w ys ws _ r _ h (by simp[VR]) h2
theorem zIz{P:Program}{j:Inj}(w:World):∀(xs:List AV) (cs:List Value) (x r:AV) (cx:Value),xs.foldlM (zDS true) x=some r->VR j x cx->VRs j xs cs ->
   ∃cv,Sem.run P (cs.foldlM Builtin.max2 cx) w=.ok cv w/\VR j r cv
 | [],cs,x,r,cx,h,hx,hs=>by
   simp only[VRs]at hs;subst hs;simp only[List.foldlM]at h;cases h;exact⟨cx,rfl,hx⟩
 | y::ys,cs,x,r,cx,h,hx,hs=>by
   simp only[VRs]at hs;obtain⟨v,ws,rfl,h1,h2⟩:=hs;simp only[List.foldlM]at h ⊢;cases hm:zDS true x y with
   | none=>rw[hm]at h;cases h
   | some z =>
     rw[hm]at h;unfold zDS at hm;split at hm <;> cases hm
     simp only[VR]at hx h1;subst hx;subst h1
     rw[rb (a:=_) (w':=w) (show Sem.run P (Builtin.max2 _ _) w=.ok _ w from rfl)];exact zIz w ys ws _ r _ h (by simp[VR]) h2
def zS4(P:Program)(t:TypeId)(x:AV):Option AV :=
 match P.underlying t,x with
 | some .string,.str s=>some (.int .i64 s.length)
 | some (.slice _),.slice _ _ n _ _=>some (.int .i64 n)
 | some (.slice _),.sl _ _ n _ _=>some (.int .i64 n)
 | some (.slice _),.nils=>some (.int .i64 0)
 | some (.array n _),_=>some (.int .i64 n)
 | some (.map _ _),.nilm=>some (.int .i64 0)
 | _,_=>none
theorem zT6{P:Program}{j:Inj}{t:TypeId}{x r:AV}{cx:Value}{ts:Array TypeId}{cs:Array Value}{ty:TypeId}(h:zS4 P t x=some r)(hx:VR j x cx)(ht:ts[0]? = some t)(hc:cs[0]? = some cx)(w:World) :
   ∃cv,(Builtin.len_ ts ty cs).run P w=.ok cv w/\VR j r cv:=by
 unfold zS4 at h;unfold Builtin.len_;rw[ht,hc];dsimp only;split at h
 · rename_i hu
   cases h;simp only[VR]at hx;subst hx;rw[rb (zO hu w)];exact⟨_,rfl,by simp[VR,goInt,ByteArray.size]⟩
 · rename_i hu
   cases h;simp only[VR]at hx;obtain⟨p,ad,cap,hp,rfl,_⟩:=hx;rw[rb (zO hu w)];exact⟨_,rfl,rfl⟩
 · rename_i hu
   cases h;simp only[VR]at hx;rw[rb (zO hu w)];rcases hx with⟨rfl,rfl⟩ | ⟨p,ad,cap,hp,rfl,_⟩
   · exact⟨_,rfl,rfl⟩
   · exact⟨_,rfl,rfl⟩
 · rename_i hu
   cases h;simp only[VR]at hx;subst hx;rw[rb (zO hu w)];exact⟨_,rfl,rfl⟩
 · rename_i hu
   cases h;rw[rb (zO hu w)];exact⟨_,rfl,rfl⟩
 · rename_i hu
   cases h;simp only[VR]at hx;subst hx;rw[rb (zO hu w)];exact⟨_,rfl,rfl⟩
 · cases h
def zS1(P:Program)(t:TypeId)(x:AV):Option AV :=
 match P.underlying t,x with
 | some (.slice _),.nils=>some (.int .i64 0)
 | some (.slice _),.slice _ _ n _ true=>some (.int .i64 n)
 | some (.slice _),.sl _ _ n _ true=>some (.int .i64 n)
 | _,_=>none
theorem zS7{P:Program}{j:Inj}{t:TypeId}{x r:AV}{cx:Value}{ts:Array TypeId}{cs:Array Value}{ty:TypeId}(h:zS1 P t x=some r)(hx:VR j x cx)(ht:ts[0]? = some t)(hc:cs[0]? = some cx)(w:World) :
   ∃cv,(Builtin.cap_ ts ty cs).run P w=.ok cv w/\VR j r cv:=by
 unfold zS1 at h;unfold Builtin.cap_;rw[ht,hc];dsimp only;split at h
 · rename_i hu
   cases h;simp only[VR]at hx;subst hx;rw[rb (zO hu w)];exact⟨_,rfl,rfl⟩
 · rename_i hu
   cases h;simp only[VR]at hx;obtain⟨p,ad,cap,hp,rfl,h1,h2,_⟩:=hx;rw[rb (zO hu w)];have:=h2 trivial;subst this;exact⟨_,rfl,rfl⟩
 · rename_i hu
   cases h;simp only[VR]at hx;rw[rb (zO hu w)];rcases hx with⟨rfl,rfl⟩ | ⟨p,ad,cap,hp,rfl,h1,h2,_⟩
   · exact⟨_,rfl,rfl⟩
   · have:=h2 trivial
     subst this;exact⟨_,rfl,rfl⟩
 · cases h
def zAC:AV->Option (List AV)
 | .agg l=>some l
 | .top=>none
 | v=>some [v]
theorem Zc{j:Inj}{x:AV}{cx:Value}{l:List AV}(h:zAC x=some l)(hx:VR j x cx):VRs j l cx.cells.toList:=by
 have one:∀(y:AV) (c:Value),c.cells=#[c]->VR j y c->VRs j [y] c.cells.toList:=by
   intro y c e hy;rw[e];exact⟨c,[],rfl,hy,rfl⟩
 unfold zAC at h;split at h
 · cases h
   simp only[VR]at hx;obtain⟨cs,rfl,hl⟩:=hx;exact hl
 · cases h
 · rename_i h1 h2
   cases h;refine one x cx ?_ hx;cases x <;> simp only[VR]at hx <;> (try (rcases hx with⟨_,rfl⟩ | ⟨_,_,_,_,rfl,_⟩ <;> rfl;done)) <;> (try obtain⟨_,_,_,_,rfl,_⟩:=hx) <;> (try obtain⟨_,_,rfl,_⟩:=hx) <;> (try obtain⟨_,_,rfl⟩:=hx) <;> (try obtain⟨_,rfl,_⟩:=hx) <;> (try subst hx) <;> first | rfl | exact absurd rfl (h1 _) | exact absurd rfl h2
def zFb(place:Nat->Option (Nat×Nat))(cells:List AV):List (Nat×AV)->Option (List AV)
 | []=>some cells
 | (i,v)::rest =>
   match place i,zAC v with
   | some (off,size),some l=>if l.length=size/\off+l.length<=cells.length then zFb place (cells.take off++l++cells.drop (off+l.length)) rest else none
   | _,_=>none
theorem zPc(l:List Value)(off:Nat):∀(k:Nat) (cs:Array Value),off+k+l.length<=cs.size ->
   ((l.zipIdx k).foldl (fun cs (c,j)=>cs.setIfInBounds (off+j) c) cs).toList=cs.toList.take (off+k)++l++cs.toList.drop (off+k+l.length):=by
 induction l with
 | nil=>intro k cs _;simp
 | cons c l ih =>
   intro k cs h;simp only[List.zipIdx_cons,List.foldl_cons];rw[ih (k+1) _ (by simp at h ⊢;omega)];simp only[Array.toList_setIfInBounds];apply List.ext_getElem?
   intro i;simp at h;simp only[s7Z,qjZ,r8Z,rjZ,qdZ,r4Z,List.getElem?_set,r5Z,q7Z];repeat' split
   all_goals first
     | rfl
     | omega
     | (congr 1;omega)
     | skip
   all_goals simp_all
   all_goals first
     | omega
     | (rw[List.getElem?_cons];split <;> first | omega | rfl | (congr 1;omega))
theorem zFU{j:Inj}{place:Nat->Option (Nat×Nat)}:∀(ps:List (Nat×AV)) (cps:List (Nat×Value)) (l:List AV) (cs:Array Value) (r:List AV),
   zFb place l ps=some r->VRs j l cs.toList->ps.length=cps.length->(∀(i:Nat) p c,ps[i]? = some p->cps[i]? = some c->p.1=c.1/\VR j p.2 c.2) ->
   ∃cr,Instr.fill place cs cps=some cr/\VRs j r cr.toList
 | [],cps,l,cs,r,h,hl,hn,_=>by
   obtain rfl:cps=[]:=List.eq_nil_of_length_eq_zero (by simpa using hn.symm);cases h;exact⟨cs,rfl,hl⟩
 | (i,v)::rest,cps,l,cs,r,h,hl,hn,hp=>by
   cases cps with
   | nil=>simp at hn
   | cons c crest =>
     obtain⟨ci,cv⟩:=c;obtain⟨e1,e2⟩:=hp 0 (i,v) (ci,cv) rfl rfl;dsimp only at e1 e2;subst e1;unfold zFb at h;split at h;rotate_left
     · cases h
     rename_i off size lv hpl hcl;split at h;rotate_left
     · cases h
     rename_i hc;obtain⟨hc1,hc2⟩:=hc;have hcells:=Zc hcl e2;have hlen:=(VRs_iff.1 hcells).1;have hll:=(VRs_iff.1 hl).1;simp at hlen hll;unfold Instr.fill;rw[hpl];dsimp only;have hno:¬((cv.cells.size≠size || off+cv.cells.size > cs.size)=true):=by simp;omega
     rw[if_neg hno];refine zFU rest crest _ _ r h ?_ (by simpa using hn) (fun k p c hk hck=>hp (k+1) p c (by simpa using hk) (by simpa using hck));have:=zPc cv.cells.toList off 0 cs (by simp;omega);rw[<-Array.foldl_toList];have e3:(cv.cells.zipIdx).toList=cv.cells.toList.zipIdx 0:=by simp
     rw[e3,this];simp only[Nat.add_zero,rjZ];have:=((hl.take off).append hcells).append (hl.drop (off+cv.cells.size));rw[hlen];exact this
theorem zAw{j:Inj}{H:zA}{w:World}(h:R j H w){b:Nat}{x y:ABlk}{p:JB}{o:Obj}(hb:H[b]? = some x)(hx:x.own=true)(hp:j b=some p)(_hy:y=.dead\/y.own=true)(hrel:BRel j (w.putObj p.blk o) y p)(hxo:x.isObj=false:=by rfl)(hyo:y.isObj=false:=by rfl) :
   Step H.length j H w j (H.set b y) (w.putObj p.blk o):=by
 have hlt:b<H.length:=(q1Z.1 hb).1;have hof:∀(c:Nat) (z:ABlk),(H.set b y)[c]? = some z->(c=b/\z=y)\/(c≠b/\H[c]? = some z):=by
   intro c z hc;rw[List.getElem?_set]at hc;by_cases e:b=c
   · subst e
     simp[hlt]at hc;exact .inl ⟨rfl,hc.symm⟩
   · rw[if_neg e]at hc
     exact .inr ⟨Ne.symm e,hc⟩
 refine Step.make h ⟨fun c hc=>h.dom c (by simpa using hc),?_,?_⟩ (fun _ _=>rfl) (by simp) ⟨rfl,rfl,rfl,by simp,?_⟩ ?_
 · intro c z q hc hq
   rcases hof c z hc with⟨rfl,rfl⟩ | ⟨hne,hc'⟩
   · rw[hp]at hq;cases hq
     exact hrel
   · exact (h.blk c z q hc' hq).mono (JLe.refl j) fun hd=>World.putObj_heap_other (fun e=>h.inj b c x z p q hb hx hc' hd (Ne.symm hne) hp hq e.symm)
 · intro c c' z z' q q' hc hz hc' hd hne hq hq'
   rcases hof c z hc with⟨rfl,rfl⟩ | ⟨e1,k1⟩ <;> rcases hof c' z' hc' with⟨rfl,rfl⟩ | ⟨e2,k2⟩
   · exact absurd rfl hne
   · exact h.inj c c' x z' q q' hb hx k2 hd hne hq hq'
   · exact h.inj c c' z x q q' k1 hz hb (Zj hx) hne hq hq'
   · exact h.inj c c' z z' q q' k1 hz k2 hd hne hq hq'
 · intro c _ ho
   exact World.putObj_heap_other (fun e=>ho b x p hb hx hxo hp e.symm)
 · intro c z q hc hz hq
   rcases hof c z hc with⟨rfl,rfl⟩ | ⟨e1,k1⟩
   · exact .inr ⟨c,x,q,hb,Zj hx,hq,rfl,fun _=>hx,fun ho=>absurd ho (by rw[hyo];simp)⟩
   · exact .inr ⟨c,z,q,k1,hz,hq,rfl,id,fun _=>⟨rfl,rfl,rfl,rfl⟩⟩
theorem zFr{j:Inj}{H:zA}{w:World}(h:R j H w){x:ABlk}(o:Obj)(hrel:∀w':World,w'.heap=w.heap.push o->BRel (zBO j H.length ⟨w.heap.size,0,0⟩) w' x ⟨w.heap.size,0,0⟩)(hxo:x.isObj=false:=by rfl) :
   Step H.length j H w (zBO j H.length ⟨w.heap.size,0,0⟩) (H++[x]) (w.alloc o):=by
 have hh:(w.alloc o).heap=w.heap.push o:=rfl;have hnone:j H.length=none:=h.dom _ (qnZ _);have hle:JLe j (zBO j H.length ⟨w.heap.size,0,0⟩):=zBb hnone;have hold:∀c,c<w.heap.size->(w.alloc o).heap[c]? = w.heap[c]?:=fun c hc=>by
   rw[hh,Array.getElem?_push,if_neg (by omega)]
 have hcase:∀c y q,(H++[x])[c]? = some y->zBO j H.length ⟨w.heap.size,0,0⟩ c=some q->(c=H.length/\y=x/\q=⟨w.heap.size,0,0⟩)\/(c≠H.length/\H[c]? = some y/\j c=some q):=by
   intro c y q hc hq;rw[s7Z]at hc;split at hc <;> rename_i hlt
   · exact .inr ⟨by omega,hc,by rw[ZC]at hq;rw[if_neg (by omega)]at hq;exact hq⟩
   · have hc0:c=H.length:=by
       rcases s2Z (c-H.length) 1 with h1 | h1
       · omega
       · rw[s4Z (by simpa using h1)]at hc;cases hc
     subst hc0;simp at hc;rw[zb]at hq;cases hq;exact .inl ⟨rfl,hc.symm,rfl⟩
 refine Step.make h ⟨?_,?_,?_⟩ ?_ (by simp) ⟨rfl,rfl,rfl,by rw[hh];simp,fun c hc _=>hold c hc⟩ ?_
 · intro b hb
   simp at hb;rw[ZC];rw[if_neg (by omega)];exact h.dom b (by omega)
 · intro b y p hb hp
   rcases hcase b y p hb hp with⟨rfl,rfl,rfl⟩ | ⟨_,hb',hp'⟩
   · exact hrel _ hh
   · exact (h.blk b y p hb' hp').mono hle fun hx=>hold _ (h.ltx hb' hx hp')
 · intro b b' y z p p' hb hy hb' hx hne hp hp'
   rcases hcase b y p hb hp with⟨rfl,rfl,rfl⟩ | ⟨e1,h1,h2⟩ <;> rcases hcase b' z p' hb' hp' with⟨rfl,rfl,rfl⟩ | ⟨e2,k1,k2⟩
   · exact absurd rfl hne
   · have:=h.ltx k1 hx k2;dsimp only;omega
   · have:=h.ltx h1 (Zj hy) h2;dsimp only;omega
   · exact h.inj b b' y z p p' h1 hy k1 hx hne h2 k2
 · intro b hb
   rw[ZC];rw[if_neg (by omega)]
 · intro b y p hb hy hp
   rcases hcase b y p hb hp with⟨rfl,rfl,rfl⟩ | ⟨_,hb',hp'⟩
   · exact .inl ⟨qnZ _,hxo⟩
   · exact .inr ⟨b,y,p,hb',hy,hp',rfl,id,fun _=>⟨rfl,rfl,rfl,rfl⟩⟩
def zBo(P:Program)(t:TypeId):Option AV:=((P.info? t).bind (·.zero)).map ofV
theorem zAX{P:Program}{t:TypeId}{z:AV}(h:zBo P t=some z)(j:Inj)(w:World):∃i cz,P.info? t=some i/\i.zero=some cz/\Sem.run P (zeroValue t) w=.ok cz w/\VR j z cz:=by
 unfold zBo at h;obtain⟨cz,hz,rfl⟩:=qlZ.1 h;obtain⟨i,hi,hz⟩:=s6Z.1 hz;refine ⟨i,cz,hi,hz,?_,zRM j cz⟩;unfold zeroValue;rw[rb (zHE hi w),hz];rfl
def zDY:TypeDesc->AV->Bool
 | .int _,.int _ _=>true
 | .string,.str _=>true
 | _,_=>false
def zBK:List (AV×AV)->AV->Nat->Option (Option (Nat×AV))
 | [],_,_=>some none
 | e::es,k,i =>
   match Z3 k e.1 with
   | some true=>some (some (i,e.2))
   | some false=>zBK es k (i+1)
   | none=>none
theorem zBx{j:Inj}{d:TypeDesc}{k:AV}{ck:Value}(hd:zDY d k=true)(hk:VR j k ck):∀(es:List (AV×AV)) (ents:List MapEntry) (i:Nat) r,MRel j es ents->zBK es k i=some r ->
   (r=none/\Instr.findNow d ck ents i=some none)\/(∃n v cv,r=some (n,v)/\Instr.findNow d ck ents i=some (some (n,cv))/\VR j v cv/\i<=n/\∃x e,es[n-i]? = some x/\ents[n-i]? = some e/\Z3 k x.1=some true/\VR j x.1 e.key)
 | [],[],i,r,_,h=>by cases h;exact .inl ⟨rfl,rfl⟩
 | [],_::_,i,r,hm,_=>by have:=hm.1;simp at this
 | _::_,[],i,r,hm,_=>by have:=hm.1;simp at this
 | x::es,e::ents,i,r,hm,h=>by
   obtain⟨h1,h2⟩:=hm.2 0 x e rfl rfl;have hm':MRel j es ents:=⟨by have:=hm.1;simpa using this,fun n y u hy hu=>hm.2 (n+1) y u (by simpa using hy) (by simpa using hu)⟩
   have hsame:∀b,Z3 k x.1=some b->Instr.sameNow d ck e.key=some b:=by
     intro b hb;unfold Z3 at hb;split at hb
     · rename_i k1 a k2 c e1
       split at hb <;> cases hb
       rename_i hkk;subst hkk;rw[e1]at h1;simp only[VR]at hk h1;subst hk;rw[h1]
       cases d <;> simp[zDY]at hd
       simp[Instr.sameNow]
     · rename_i a c e1
       cases hb;rw[e1]at h1;simp only[VR]at hk h1;subst hk;rw[h1]
       cases d <;> simp[zDY]at hd
       have:(ByteArray.mk a.toArray==ByteArray.mk c.toArray)=(a==c):=by
         have:=beq_toListBytes ⟨a.toArray⟩ ⟨c.toArray⟩;rw[zBg,zBg]at this;exact this
       simp[Instr.sameNow,this]
     · rename_i a c e1
       cases d <;> simp[zDY]at hd
     · cases hb
   unfold zBK at h;split at h
   · rename_i hp
     cases h;refine .inr ⟨i,x.2,e.val,rfl,?_,h2,qnZ _,x,e,by simp,by simp,hp,h1⟩;unfold Instr.findNow;rw[hsame true hp]
   · rename_i hp
     have hs:=hsame false hp;rcases zBx hd hk es ents (i+1) r hm' h with⟨rfl,g⟩ | ⟨n,v,cv,rfl,g,g2,g3,y,u,g4,g5,g6,g7⟩
     · refine .inl ⟨rfl,?_⟩
       unfold Instr.findNow;rw[hs];exact g
     · refine .inr ⟨n,v,cv,rfl,?_,g2,by omega,y,u,?_,?_,g6,g7⟩
       · unfold Instr.findNow
         rw[hs];exact g
       · rw[show n-i=(n-(i+1))+1 by omega];simpa using g4
       · rw[show n-i=(n-(i+1))+1 by omega];simpa using g5
   · cases h
def zFV(P:Program)(H:zA)(t:TypeId)(x k:AV)(ok:Bool):Option AV :=
 match P.underlying t with
 | some (.map kt et) =>
   match P.underlying kt,zBo P et with
   | some d,some z =>
     if zDY d k then
       match (match x with
         | .nilm=>some none
         | .map b=>(match H[b]? with
           | some (.map es)=>zBK es k 0
           | _=>none)
         | _=>none) with
       | some (some (_,v))=>some (if ok then .tuple [v,.bool true] else v)
       | some none=>some (if ok then .tuple [z,.bool false] else z)
       | none=>none
     else none
   | _,_=>none
 | _=>none
theorem zBe{P:Program}{kt:TypeId}{d:TypeDesc}{j:Inj}{k:AV}{ck:Value}(hu:P.underlying kt=some d)(hd:zDY d k=true)(hk:VR j k ck)(e:Bool)(w:World):(Instr.checkKey e 10000 kt ck).run P w=.ok () w:=by
 have h1:(10000:Nat)=9999+1:=rfl;rw[h1];unfold Instr.checkKey;rw[rb (zO hu w)];cases d <;> cases k <;> simp[zDY]at hd <;> simp only[VR]at hk <;> subst hk <;> rfl
theorem zNu{P:Program}{j:Inj}{H:zA}{w:World}(hR:R j H w){t:TypeId}{x k r:AV}{cx ck:Value}{ok:Bool}(h:zFV P H t x k ok=some r)(hx:VR j x cx)(hk:VR j k ck) :
   ∃cv,(Instr.lookup t cx ck ok).run P w=.ok cv w/\VR j r cv:=by
 unfold zFV at h;split at h;rotate_left
 · cases h
 rename_i kt et ht;split at h;rotate_left
 · cases h
 rename_i d z hd hz;split at h;rotate_left
 · cases h
 rename_i hkd;obtain⟨_,cz,_,_,hrz,hvz⟩:=zAX hz j w;have fin:∀(es:Array MapEntry) (rr:Option (Nat×AV)),((rr=none/\Instr.findNow d ck es.toList 0=some none)\/(∃n v cv,rr=some (n,v)/\Instr.findNow d ck es.toList 0=some (some (n,cv))/\VR j v cv)) ->
     (match some rr with
       | some (some (_,v))=>some (if ok then AV.tuple [v,.bool true] else v)
       | some none=>some (if ok then .tuple [z,.bool false] else z)
       | none=>none)=some r ->
     ∃cv,Sem.run P (do
       Instr.checkKey es.isEmpty 10000 kt ck
       let (v,o) <-match <-Instr.findKey kt ck es.toList with
         | some (_,v)=>pure (v,true)
         | none=>pure (<-zeroValue et,false)
       pure (if ok then .tuple #[v,.bool o] else v)) w=.ok cv w/\VR j r cv:=by
   intro es rr hrr hr;have hfk:∀q,Instr.findNow d ck es.toList 0=some q->Sem.run P (Instr.findKey kt ck es.toList) w=.ok q w:=by
     intro q hq;unfold Instr.findKey;rw[rb (zO hd w),hq];rfl
   rcases hrr with⟨rfl,hn⟩ | ⟨n,v,cv,rfl,hn,hv⟩
   · dsimp only at hr
     cases hr;refine ⟨if ok then .tuple #[cz,.bool false] else cz,?_,?_⟩
     · rw[rb (zBe hd hkd hk _ w),rb (hfk _ hn)]
       dsimp only;rw[rb hrz];rfl
     · cases ok
       · exact hvz
       · exact⟨_,rfl,_,_,rfl,hvz,_,_,rfl,rfl,rfl⟩
   · dsimp only at hr
     cases hr;refine ⟨if ok then .tuple #[cv,.bool true] else cv,?_,?_⟩
     · rw[rb (zBe hd hkd hk _ w),rb (hfk _ hn)]
       rfl
     · cases ok
       · exact hv
       · exact⟨_,rfl,_,_,rfl,hv,_,_,rfl,rfl,rfl⟩
 unfold Instr.lookup;rw[rb (zO ht w)];dsimp only;cases x with
 | nilm =>
   simp only[VR]at hx;subst hx;dsimp only at h ⊢;rw[rb (a:=(#[]:Array MapEntry)) (w':=w) rfl];exact fin #[] none (.inl ⟨rfl,rfl⟩) h
 | map b =>
   simp only[VR]at hx;obtain⟨p,hp,rfl⟩:=hx;dsimp only at h ⊢;split at h
   · rename_i i0 v0 hq
     split at hq;rotate_left
     · cases hq
     rename_i es hb;obtain⟨ents,cl,g1,gs,g2⟩:=hR.blk b _ p hb hp;rw[rb (show Sem.run P (getObj p.blk) w=.ok (.map ents cl) w by simp[getObj,Sem.run,g1])];refine fin ents (some (i0,v0)) ?_ h;rcases zBx hkd hk es ents.toList 0 _ g2 hq with⟨e,_⟩ | ⟨n,v,cv,e,g3,g4,_⟩
     · cases e
     · exact .inr ⟨n,v,cv,e,g3,g4⟩
   · rename_i hq
     split at hq;rotate_left
     · cases hq
     rename_i es hb;obtain⟨ents,cl,g1,gs,g2⟩:=hR.blk b _ p hb hp;rw[rb (show Sem.run P (getObj p.blk) w=.ok (.map ents cl) w by simp[getObj,Sem.run,g1])];refine fin ents none ?_ h;rcases zBx hkd hk es ents.toList 0 _ g2 hq with⟨_,g3⟩ | ⟨n,v,cv,e,_⟩
     · exact .inl ⟨rfl,g3⟩
     · cases e
   · cases h
 | _=>simp at h
def zBW(P:Program)(H:zA)(t:TypeId)(m k v:AV):Option zA :=
 match P.underlying t,m with
 | some (.map kt _),.map b =>
   match P.underlying kt,H[b]? with
   | some d,some (.map es) =>
     if zDY d k then
       match zBK es k 0 with
       | some (some (i,_))=>some (H.set b (.map (es.set i (k,v))))
       | some none=>some (H.set b (.map (es++[(k,v)])))
       | none=>none
     else none
   | _,_=>none
 | _,_=>none
theorem zIl{k x:AV}{ck cx:Value}{j:Inj}(h:Z3 k x=some true)(hk:VR j k ck)(hx:VR j x cx):Instr.sameBits 10000 cx ck=true:=by
 unfold Z3 at h;split at h
 · rename_i k1 a k2 b
   split at h;rotate_left
   · cases h
   rename_i hkk;subst hkk;have hab:a=b:=by simpa using h
   subst hab;simp only[VR]at hk hx;subst hk;subst hx
   simp[Instr.sameBits]
 · rename_i a b
   have hab:a=b:=by simpa using h
   subst hab;simp only[VR]at hk hx;subst hk;subst hx
   have:(ByteArray.mk a.toArray==ByteArray.mk a.toArray)=true:=by
     rw[beq_toListBytes];simp
   simpa[Instr.sameBits] using this
 · rename_i a b
   have hab:a=b:=by simpa using h
   subst hab;simp only[VR]at hk hx;subst hk;subst hx
   simp[Instr.sameBits]
 · cases h
theorem zQI{k x:AV}{ck cx:Value}{j:Inj}(h:Z3 k x=some true)(hk:VR j k ck)(hx:VR j x cx):ck=cx:=by
 unfold Z3 at h;split at h
 · rename_i k1 a k2 b
   split at h;rotate_left
   · cases h
   rename_i hkk;subst hkk;have hab:a=b:=by simpa using h
   subst hab;simp only[VR]at hk hx;rw[hk,hx]
 · rename_i a b
   have hab:a=b:=by simpa using h
   subst hab;simp only[VR]at hk hx;rw[hk,hx]
 · rename_i a b
   have hab:a=b:=by simpa using h
   subst hab;simp only[VR]at hk hx;rw[hk,hx]
 · cases h
theorem zOc{k x:AV}{ck cx:Value}{j:Inj}(h:Z3 k x=some false)(hk:VR j k ck)(hx:VR j x cx):cx≠ck:=by
 unfold Z3 at h;split at h
 · rename_i k1 a k2 b
   split at h;rotate_left
   · cases h
   have hab:a≠b:=by simpa using h
   simp only[VR]at hk hx;rw[hk,hx];intro e;cases e;exact hab rfl
 · rename_i a b
   have hab:a≠b:=by simpa using h
   simp only[VR]at hk hx;rw[hk,hx];intro e;have e2:=congrArg (fun v:Value=>match v with | .string s=>s.data.toList | _=>[]) e;exact hab (by simpa using e2.symm)
 · rename_i a b
   have hab:a≠b:=by simpa using h
   simp only[VR]at hk hx;rw[hk,hx];intro e;cases e;exact hab rfl
 · cases h
theorem zKv{j:Inj}{d:TypeDesc}{k:AV}{ck:Value}(hd:zDY d k=true)(hk:VR j k ck):∀(es:List (AV×AV)) (ents:List MapEntry) (i:Nat),MRel j es ents->zBK es k i=some none->∀x∈ents,x.key≠ck
 | [],[],i,_,_=>by simp
 | [],_::_,i,hm,_=>by have:=hm.1;simp at this
 | _::_,[],i,hm,_=>by have:=hm.1;simp at this
 | x::es,e::ents,i,hm,h=>by
   obtain⟨h1,h2⟩:=hm.2 0 x e rfl rfl;have hm':MRel j es ents:=⟨by have:=hm.1;simpa using this,fun n y u hy hu=>hm.2 (n+1) y u (by simpa using hy) (by simpa using hu)⟩
   unfold zBK at h;split at h
   · cases h
   · rename_i hp
     intro y hy;rcases qwZ.1 hy with rfl | hy
     · exact zOc hp hk h1
     · exact zKv hd hk es ents (i+1) hm' h y hy
   · cases h
theorem zHu{P:Program}{j:Inj}{H H':zA}{w:World}(hR:R j H w){t:TypeId}{m k v:AV}{cm ck cv:Value}(h:zBW P H t m k v=some H')(hm:VR j m cm)(hk:VR j k ck)(hv:VR j v cv) :
   ∃w',(Instr.mapUpdate t cm ck cv).run P w=.ok () w'/\Step H.length j H w j H' w':=by
 unfold zBW at h;split at h;rotate_left
 · cases h
 rename_i kt et b ht;split at h;rotate_left
 · cases h
 rename_i d es hd hb;split at h;rotate_left
 · cases h
 rename_i hkd;simp only[VR]at hm;obtain⟨p,hp,rfl⟩:=hm;obtain⟨ents,cl,g1,gs,g2⟩:=hR.blk b _ p hb hp;have hlt:p.blk<w.heap.size:=(qtZ.1 g1).1;have hget:Sem.run P (getObj p.blk) w=.ok (.map ents cl) w:=by simp[getObj,Sem.run,g1]
 have hset:∀o,Sem.run P (setObj p.blk o) w=.ok () (w.putObj p.blk o):=fun o=>by simp[setObj,Sem.run,World.putObj,g1]
 have hfk:∀q,Instr.findNow d ck ents.toList 0=some q->Sem.run P (Instr.findKey kt ck ents.toList) w=.ok q w:=by
   intro q hq;unfold Instr.findKey;rw[rb (zO hd w),hq];rfl
 unfold Instr.mapUpdate;rw[rb (zO ht w)];dsimp only;rw[rb hget];dsimp only;rw[rb (zBe hd hkd hk _ w)];split at h
 · rename_i i v0 hf
   cases h;rcases zBx hkd hk es ents.toList 0 _ g2 hf with⟨e,_⟩ | ⟨n,v1,c1,e,g3,g4,_,x,u,g5,g6,g7,g8⟩
   · cases e
   · cases e
     rw[rb (hfk _ g3)];dsimp only;have g6':ents[i]? = some u:=by simpa using g6
     have hks:Sem.run P (Instr.keyThatStays (((ents[i]?).map (·.key)).getD ck) ck) w=.ok ck w:=by
       rw[g6'];unfold Instr.keyThatStays;rw[if_pos (zIl g7 hk (by simpa using g8))];rfl
     rw[rb hks,hset];refine ⟨_,rfl,zAw (o:=.map (ents.modify i fun e=>{ e with key:=ck,val:=cv }) cl) hR hb rfl hp (.inr rfl) ⟨_,_,World.putObj_heap_same hlt,MapKept.stamped_modify gs i _ (fun _ _=>rfl) (fun e _ he=>?_),?_⟩⟩
     · rw[g6']at he
       cases he;exact zQI g7 hk (by simpa using g8)
     refine ⟨by simpa using g2.1,fun n y e hy he=>?_⟩;rw[List.getElem?_set]at hy;rw[riZ,Array.getElem?_modify]at he;by_cases hin:i=n
     · subst hin
       simp only[if_true]at hy he;split at hy
       · cases hy
         obtain⟨e0,he0,rfl⟩:=qlZ.1 he;exact⟨hk,hv⟩
       · cases hy
     · rw[if_neg hin]at hy he
       exact g2.2 n y e hy (by simpa using he)
 · rename_i hf
   cases h;rcases zBx hkd hk es ents.toList 0 _ g2 hf with⟨_,g3⟩ | ⟨n,v1,c1,e,_⟩
   · rw[rb (hfk _ g3)]
     dsimp only;rw[hset];refine ⟨_,rfl,zAw (o:=.map (ents.push { key:=ck,val:=cv,born:=cl }) (cl+1)) hR hb rfl hp (.inr rfl) ⟨_,_,World.putObj_heap_same hlt,MapKept.stamped_push gs (zKv hkd hk es ents.toList 0 g2 hf),?_⟩⟩;refine ⟨by have:=g2.1;simp at this ⊢;omega,fun n y e hy he=>?_⟩;have hlen:=g2.1;rw[s7Z]at hy;rw[riZ,Array.getElem?_push]at he;simp at hlen;split at hy
     · rename_i hlt2
       rw[if_neg (by omega)]at he;exact g2.2 n y e hy (by simpa using he)
     · rename_i hge
       have hn:n=ents.size:=by
         rcases s2Z (n-es.length) 1 with h1 | h1
         · omega
         · rw[s4Z (by simpa using h1)]at hy;cases hy
       subst hn;rw[if_pos rfl]at he;cases he;rw[show ents.size-es.length=0 by omega]at hy;cases hy;exact⟨hk,hv⟩
   · cases e
 · cases h
def zBX(P:Program)(H:zA)(t:TypeId)(m k:AV):Option zA :=
 match P.underlying t,m with
 | some (.map kt _),.map b =>
   match P.underlying kt,H[b]? with
   | some d,some (.map es) =>
     if zDY d k then
       match zBK es k 0 with
       | some (some (i,_))=>some (H.set b (.map (es.eraseIdx i)))
       | some none=>some (H.set b (.map es))
       | none=>none
     else none
   | _,_=>none
 | _,_=>none
theorem MRel.erase{j:Inj}{es:List (AV×AV)}{ents:List MapEntry}(h:MRel j es ents)(i:Nat):MRel j (es.eraseIdx i) (ents.eraseIdx i):=by
 refine ⟨by simp[List.length_eraseIdx,h.1],fun n x e hx he=>?_⟩;rw[List.getElem?_eraseIdx]at hx he;split at hx
 · rw[if_pos ‹_›]at he
   exact h.2 n x e hx he
 · rw[if_neg ‹_›]at he
   exact h.2 _ x e hx he
theorem zNX{P:Program}{j:Inj}{H H':zA}{w:World}(hR:R j H w){t ty:TypeId}{m k:AV}{cm ck:Value}{ts:Array TypeId}{args:Array Value}(h:zBX P H t m k=some H')(hm:VR j m cm)(hk:VR j k ck)
   (e1:ts[0]? = some t) (e2:args[0]? = some cm) (e3:args[1]? = some ck) :
   ∃w',(Builtin.delete_ ts ty args).run P w=.ok (.tuple #[]) w'/\Step H.length j H w j H' w':=by
 unfold zBX at h;split at h;rotate_left
 · cases h
 rename_i kt et b ht;split at h;rotate_left
 · cases h
 rename_i d es hd hb;split at h;rotate_left
 · cases h
 rename_i hkd;simp only[VR]at hm;obtain⟨p,hp,rfl⟩:=hm;obtain⟨ents,cl,g1,gs,g2⟩:=hR.blk b _ p hb hp;have hlt:p.blk<w.heap.size:=(qtZ.1 g1).1;have hget:Sem.run P (getObj p.blk) w=.ok (.map ents cl) w:=by simp[getObj,Sem.run,g1]
 have hset:∀o,Sem.run P (setObj p.blk o) w=.ok () (w.putObj p.blk o):=fun o=>by simp[setObj,Sem.run,World.putObj,g1]
 have hfk:∀q,Instr.findNow d ck ents.toList 0=some q->Sem.run P (Instr.findKey kt ck ents.toList) w=.ok q w:=by
   intro q hq;unfold Instr.findKey;rw[rb (zO hd w),hq];rfl
 unfold Builtin.delete_;rw[e1,e2,e3];dsimp only;rw[rb (zO ht w)];dsimp only;rw[rb hget];dsimp only;rw[rb (zBe hd hkd hk _ w)];split at h
 · rename_i i v0 hf
   cases h;rcases zBx hkd hk es ents.toList 0 _ g2 hf with⟨e,_⟩ | ⟨n,v1,c1,e,g3,g4,_,x,u,g5,g6,g7,g8⟩
   · cases e
   · cases e
     rw[rb (hfk _ g3)];dsimp only;rw[rb (hset _)];have hi:i<ents.size:=by
       have:=(q1Z.1 g6).1;simpa using this
     have hl:(ents.eraseIdxIfInBounds i).toList=ents.toList.eraseIdx i:=by
       unfold Array.eraseIdxIfInBounds;rw[dif_pos hi];simp
     exact⟨_,rfl,zAw (o:=.map (ents.eraseIdxIfInBounds i) cl) hR hb rfl hp (.inr rfl) ⟨_,_,World.putObj_heap_same hlt,MapKept.stamped_erase gs i,by rw[hl];exact g2.erase i⟩⟩
 · rename_i hf
   cases h;rcases zBx hkd hk es ents.toList 0 _ g2 hf with⟨_,g3⟩ | ⟨n,v1,c1,e,_⟩
   · rw[rb (hfk _ g3)]
     dsimp only;rw[rb (hset _)];exact⟨_,rfl,zAw (o:=.map ents cl) hR hb rfl hp (.inr rfl) ⟨_,_,World.putObj_heap_same hlt,gs,g2⟩⟩
   · cases e
 · cases h
theorem zHL{P:Program}{j:Inj}{H:zA}{w:World}(hR:R j H w)(t:TypeId) :
   ∃cv j' w',(Instr.makeMap t none).run P w=.ok cv w'/\VR j' (.map H.length) cv/\Step H.length j H w j' (H++[.map []]) w':=by
 refine ⟨.map (some w.heap.size),_,w.alloc (.map #[] 0),rfl,⟨_,zb _ _ _,rfl⟩,zFr hR (.map #[] 0) fun w' hw'=>?_⟩;refine ⟨#[],0,by rw[hw'];simp,MapKept.stamped_empty 0,rfl,fun i x e hx=>by simp at hx⟩
def zFe(P:Program)(H:zA)(t:TypeId)(x:AV):Option AV :=
 match P.underlying t,x with
 | some (.map _ _),.map b=>match H[b]? with
   | some (.map es)=>some (.int .i64 es.length)
   | _=>none
 | _,_=>none
theorem zN9{P:Program}{j:Inj}{H:zA}{w:World}(hR:R j H w){t:TypeId}{x r:AV}{cx:Value}{ts:Array TypeId}{cs:Array Value}{ty:TypeId}(h:zFe P H t x=some r)(hx:VR j x cx)(ht:ts[0]? = some t)(hc:cs[0]? = some cx) :
   ∃cv,(Builtin.len_ ts ty cs).run P w=.ok cv w/\VR j r cv:=by
 unfold zFe at h;unfold Builtin.len_;rw[ht,hc];dsimp only;split at h;rotate_left
 · cases h
 rename_i k e b hu;split at h;rotate_left
 · cases h
 rename_i es hb;cases h;simp only[VR]at hx;obtain⟨p,hp,rfl⟩:=hx;obtain⟨ents,cl,g1,gs,g2⟩:=hR.blk b _ p hb hp;rw[rb (zO hu w)];dsimp only;rw[rb (show Sem.run P (getObj p.blk) w=.ok (.map ents cl) w by simp[getObj,Sem.run,g1])];refine ⟨_,rfl,?_⟩;have:=g2.1;simp only[rjZ]at this;rw[this];simp[VR,goInt]
theorem zCG(b:Nat){T:Nat}{fz:Nat×Nat}:∀(vs:List Value) (o:Nat) (w:World) (cs:Array Value),w.heap[b]? = some (.cells cs T fz) ->
   ∃cs',(w.setCells b o vs).heap[b]? = some (.cells cs' T fz)/\cs'.size=cs.size/\(∀i,i<cs.size->cs'[i]? = if o<=i/\i<o+vs.length then vs[i-o]? else cs[i]?)
 | [],o,w,cs,h=>⟨cs,h,rfl,fun i _=>by rw[if_neg];rintro⟨h1,h2⟩;simp at h2;omega⟩
 | v::r,o,w,cs,h=>by
   have h1:(w.setCell ⟨b,o,none⟩ v).heap[b]? = some (.cells (cs.setIfInBounds o v) T fz):=by simp[World.setCell,Array.getElem?_modify,h]
   obtain⟨cs',e1,e2,e3⟩:=zCG b r (o+1) (w.setCell ⟨b,o,none⟩ v) _ h1;refine ⟨cs',e1,by simpa using e2,fun i hi=>?_⟩;rw[e3 i (by simpa using hi),Array.getElem?_setIfInBounds];by_cases e:i=o
   · subst e
     rw[if_neg (by omega),if_pos rfl,if_pos hi,if_pos ⟨qnZ _,by simp⟩];simp
   · by_cases c:o+1<=i/\i<o+1+r.length
     · rw[if_pos c,if_pos (by simp;omega)]
       rw[show i-o=(i-(o+1))+1 by omega];simp
     · rw[if_neg c,if_neg (Ne.symm e),if_neg (by simp;omega)]
theorem zd(b:Nat):∀(vs:List Value) (o:Nat) (w:World) (k:Nat),k≠b->(w.setCells b o vs).heap[k]? = w.heap[k]?
 | [],_,_,_,_=>rfl
 | v::r,o,w,k,h=>by
   rw[World.setCells,zd b r _ _ k h];exact RowKit.Below.heap_setCell _ _ _ _ h
theorem zCK(b:Nat):∀(vs:List Value) (o:Nat) (w:World),(w.setCells b o vs).os=w.os/\(w.setCells b o vs).tape=w.tape/\(w.setCells b o vs).output=w.output/\(w.setCells b o vs).heap.size=w.heap.size
 | [],_,_=>⟨rfl,rfl,rfl,rfl⟩
 | v::r,o,w=>by
   rw[World.setCells];obtain⟨h1,h2,h3,h4⟩:=zCK b r (o+1) (w.setCell ⟨b,o,none⟩ v);exact⟨h1,h2,h3,by rw[h4];simp[World.setCell]⟩
def zx:AV->Bool
 | .top | .agg _ | .tuple _=>false
 | _=>true
theorem zQs{j:Inj}{x:AV}{v:Value}(h:zx x=true)(hx:VR j x v):v.oneCell'=true:=by
 cases x <;> simp only[VR]at hx <;> (try (rcases hx with⟨_,rfl⟩ | ⟨_,_,_,_,rfl,_⟩ <;> rfl;done)) <;> (try obtain⟨_,_,_,_,rfl,_⟩:=hx) <;> (try obtain⟨_,_,rfl,_⟩:=hx) <;> (try obtain⟨_,_,rfl⟩:=hx) <;> (try obtain⟨_,rfl,_⟩:=hx) <;> (try subst hx) <;> first | rfl | simp[zx]at h
theorem zEN{j:Inj}{l:List AV}{vs:List Value}(h:l.all zx=true)(hl:VRs j l vs):∀v∈vs,v.oneCell'=true:=by
 intro v hv;obtain⟨i,hi⟩:=List.getElem?_of_mem hv;have h1:=VRs_iff.1 hl;have hlt:i<l.length:=by
   rw[h1.1];rcases s2Z i vs.length with h2 | h2
   · exact h2
   · rw[s4Z h2]at hi;cases hi
 exact zQs (s5Z.1 h _ (r3Z hlt)) (h1.2 i _ v (q3Z hlt) hi)
theorem R.cell{j:Inj}{H:zA}{w:World}(h:R j H w){b:Nat}{own:Bool}{l:List AV}{p:JB}(hb:H[b]? = some (.cells own l))(hp:j b=some p){i:Nat}{x:AV}(hx:l[i]? = some x) :
   ∃v,w.cell? ⟨p.blk,p.base+i,none⟩=some v/\VR j x v:=by
 obtain⟨cs,T,fz,h1,h2,h3,h4,h5⟩:=h.blk b _ p hb hp;obtain⟨v,hv,hr⟩:=h4 i x hx;exact⟨v,by simp[World.cell?,h1,hv],hr⟩
theorem R.cells{j:Inj}{H:zA}{w:World}(h:R j H w){b:Nat}{own:Bool}{l:List AV}{p:JB}(hb:H[b]? = some (.cells own l))(hp:j b=some p)(off n:Nat)(hn:off+n<=l.length) :
   ∃vs,VRs j ((l.drop off).take n) vs/\vs.length=n/\∀(k:Nat) v,vs[k]? = some v->w.cell? ((⟨p.blk,p.base+off,none⟩:Addr).add k)=some v:=by
 obtain⟨cs,T,fz,h1,h2,h3,h4,h5⟩:=h.blk b _ p hb hp;refine ⟨(cs.toList.drop (p.base+off)).take n,VRs_iff.2 ⟨by simp;omega,fun i x v hx hv=>?_⟩,by simp;omega,fun k v hv=>?_⟩
 · rw[r4Z]at hx hv
   split at hx;rotate_left
   · cases hx
   rename_i hi;rw[if_pos hi]at hv;rw[r5Z]at hx hv;obtain⟨v',hv',hr⟩:=h4 _ x hx;have:v=v':=by
     rw[riZ,show p.base+off+i=p.base+(off+i) by omega,hv']at hv;cases hv;rfl
   subst this;exact hr
 · rw[r4Z]at hv
   split at hv;rotate_left
   · cases hv
   rw[r5Z,riZ]at hv;rw[zB6];simp[World.cell?,h1,hv]
theorem zEb{j:Inj}{H:zA}{w:World}(h:R j H w){b:Nat}{l:List AV}{p:JB}(hb:H[b]? = some (.cells true l))(hp:j b=some p)(off:Nat)(xs:List AV)(vs:List Value)
   (hx:VRs j xs vs) (hn:off+xs.length<=l.length) :
   Step H.length j H w j (H.set b (.cells true (l.take off++xs++l.drop (off+xs.length)))) (w.setCells p.blk (p.base+off) vs):=by
 obtain⟨cs,T,fz,h1,h2,h3,h4,h5⟩:=h.blk b _ p hb hp;have hlt:b<H.length:=(q1Z.1 hb).1;obtain⟨cs',e1,e2,e3⟩:=zCG p.blk vs (p.base+off) w cs h1;obtain⟨s1,s2,s3,s4⟩:=zCK p.blk vs (p.base+off) w;have hxl:=(VRs_iff.1 hx).1;refine Step.make h ⟨fun c hc=>h.dom c (by simpa using hc),?_,?_⟩ (fun _ _=>rfl) (by simp) ⟨s1,s2,s3,by omega,?_⟩ ?_
 · intro c x q hc hq
   rw[List.getElem?_set]at hc;by_cases e:b=c
   · subst e
     simp only[hlt,↓reduceIte]at hc;cases hc;rw[hp]at hq;cases hq;refine ⟨cs',T,fz,e1,by rw[e2,h2],by simp;omega,fun i x hxi=>?_,h5⟩;have hi:i<l.length:=by
       have:=(q1Z.1 hxi).1;simp at this;omega
     rw[e3 _ (by omega)];rw[qeZ,s7Z]at hxi;simp only[qjZ,sfZ (show off<=l.length by omega)]at hxi;split at hxi <;> rename_i hio
     · rw[r4Z,if_pos hio]at hxi
       rw[if_neg (by omega)];exact h4 i x hxi
     · rw[s7Z]at hxi
       split at hxi <;> rename_i hix
       · rw[if_pos (by omega),show p.base+i-(p.base+off)=i-off by omega]
         exact hx.at hxi
       · rw[r5Z]at hxi
         rw[if_neg (by omega)];rw[show off+xs.length+(i-off-xs.length)=i by omega]at hxi;exact h4 i x hxi
   · simp only[e,↓reduceIte]at hc
     refine (h.blk c x q hc hq).mono (JLe.refl j) fun hd=>?_;exact zd _ _ _ _ _ (fun e1=>h.inj b c _ x p q hb rfl hc hd e hp hq e1.symm)
 · intro c c' l' x q q' hc hy hc' hd hne hq hq'
   have hown:∀(d:Nat) (y:ABlk),(H.set b (.cells true (l.take off++xs++l.drop (off+xs.length))))[d]? = some y->y≠.dead->∃y',H[d]? = some y'/\y'≠.dead/\(y.own=true->y'.own=true):=by
     intro d y hdd hy;rw[List.getElem?_set]at hdd;by_cases e:b=d
     · subst e
       simp only[hlt,↓reduceIte]at hdd;cases hdd;exact⟨_,hb,by simp,fun _=>rfl⟩
     · simp only[e,↓reduceIte]at hdd
       exact⟨y,hdd,hy,id⟩
   obtain⟨y1,k1,_,k2⟩:=hown c _ hc (Zj hy);obtain⟨y2,g1,g2,_⟩:=hown c' x hc' hd;exact h.inj c c' y1 y2 q q' k1 (k2 hy) g1 g2 hne hq hq'
 · intro c _ ho
   exact zd _ _ _ _ _ (fun e=>ho b _ p hb rfl rfl hp e.symm)
 · intro c l' q hc hy hq
   rw[List.getElem?_set]at hc;by_cases e:b=c
   · subst e
     rw[hp]at hq;cases hq
     simp only[hlt,↓reduceIte]at hc;cases hc;exact .inr ⟨b,_,p,hb,by simp,hp,rfl,fun _=>rfl,fun ho=>by cases ho⟩
   · simp only[e,↓reduceIte]at hc
     exact .inr ⟨c,l',q,hc,hy,hq,rfl,id,fun _=>⟨rfl,rfl,rfl,rfl⟩⟩
def zAs:AV->Bool
 | .bool _ | .int _ _ | .str _ | .nilp | .nils | .nilm | .nilf=>true
 | _=>false
theorem VR.flat{j j':Inj}{x:AV}{v:Value}(hx:zAs x=true)(h:VR j x v):VR j' x v:=by
 cases x <;> simp_all [zAs,VR]
def zRz(l:List AV)(off:Nat):Option AV:=match l[off]? with
 | some x=>if zAs x then some x else none
 | none=>none
def zGQ(P:Program)(H:zA)(t:TypeId)(x:AV):Option AV :=
 match x with
 | .ptr b off =>
   match H[b]?,P.underlying t,ZA P t with
   | some (.cells _ l),some d,some sz=>if zH9 d then (if off+sz<=l.length then some (.agg ((l.drop off).take sz)) else none) else l[off]?
   | some (.obj _ (.cells _ l::_)),some d,some _=>if zH9 d then none else zRz l off
   | _,_,_=>none
 | _=>none
theorem zLJ{P:Program}{j:Inj}{H:zA}{w:World}(hR:R j H w){t:TypeId}{x r:AV}{cx:Value}(h:zGQ P H t x=some r)(hx:VR j x cx) :
   ∃cv,(Instr.loadAt t cx).run P w=.ok cv w/\VR j r cv:=by
 unfold zGQ at h;split at h;rotate_left
 · cases h
 rename_i b off;simp only[VR]at hx;obtain⟨p,hp,rfl⟩:=hx;unfold Instr.loadAt;rw[rb (a:=(⟨p.blk,p.base+off,none⟩:Addr)) (w':=w) rfl];unfold loadVar;split at h;rotate_left
 · rename_i o own l s d sz hb hd hi
   rw[rb (zF1 hd w)];split at h
   · cases h
   rename_i ha;rw[if_neg ha];unfold zRz at h;split at h
   · rename_i y hy
     split at h <;> cases h
     rename_i hf;obtain⟨js,ok,hS⟩:=hR.obj b _ _ p hb hp;obtain⟨v,hv,hr⟩:=hS.cell (b:=0) rfl ok.root hy;exact⟨v,by simp[load,Sem.run,hv],hr.flat hf⟩
   · cases h
 · cases h
 rename_i own l d sz hb hd hi;rw[rb (zF1 hd w)];split at h
 · rename_i ha
   rw[if_pos ha];split at h <;> cases h
   rename_i hle;obtain⟨vs,h1,h2,h3⟩:=hR.cells hb hp off sz hle;rw[rb (ZO hi w)];refine ⟨.agg vs.toArray,?_,vs.toArray,rfl,by simpa using h1⟩;have:=run_loadCells_list (P:=P) w ⟨p.blk,p.base+off,none⟩ vs h3;rw[h2]at this;rw[rb this];rfl
 · rename_i ha
   rw[if_neg ha];obtain⟨v,hv,hr⟩:=hR.cell hb hp h;exact⟨v,by simp[load,Sem.run,hv],hr⟩
def zF9(P:Program)(H:zA)(t:TypeId)(x v:AV):Option zA :=
 match x,zAC v with
 | .ptr b off,some xs =>
   match H[b]? with
   | some (.cells true l)=>if ZA P t=some xs.length/\off+xs.length<=l.length/\xs.all zx then some (H.set b (.cells true (l.take off++xs++l.drop (off+xs.length)))) else none
   | _=>none
 | _,_=>none
theorem zJC{P:Program}{j:Inj}{H H':zA}{w:World}(hR:R j H w){t:TypeId}{x v:AV}{cx cv:Value}(h:zF9 P H t x v=some H')(hx:VR j x cx)(hv:VR j v cv) :
   ∃w',(Instr.storeAt t cx cv).run P w=.ok () w'/\Step H.length j H w j H' w':=by
 unfold zF9 at h;split at h;rotate_left
 · cases h
 rename_i b off xs hxs;simp only[VR]at hx;obtain⟨p,hp,rfl⟩:=hx;split at h;rotate_left
 · cases h
 rename_i l hb;split at h <;> cases h
 rename_i hc;obtain⟨hsz,hle,hall⟩:=hc;have hcs:=Zc hxs hv;have hlen:=(VRs_iff.1 hcs).1;refine ⟨_,?_,zEb hR hb hp off xs _ hcs hle⟩;unfold Instr.storeAt;rw[rb (a:=(⟨p.blk,p.base+off,none⟩:Addr)) (w':=w) rfl];unfold storeVar;rw[rb (ZO hsz w)];have hno:¬(cv.cells.size≠xs.length):=by simp at hlen;omega
 rw[if_neg hno];obtain⟨cs,T,fz,h1,h2,h3,h4,h5⟩:=hR.blk b _ p hb hp;have:=run_storeCells_cells (P:=P) p.blk (p.base+off) cv.cells.toList 0 w
   (fun k hk=>by
     simp[World.cell?,h1];simp at hlen hk;omega)
   (fun k hk=>by
     have hk':p.base+off+0+k<p.size:=by simp at hlen hk;omega
     have:=h5 rfl (p.base+off+0+k) hk';obtain⟨f1,f2⟩:=fz;simp[World.frozen?,h1]at this ⊢;omega)
   (zEN hall hcs)
 simpa using this
def NewRun(P:Program)(o:Oper)(a:Act)(j:Inj)(w:World)(mk:Nat->AV)(l:List AV):Prop :=
 ∃cv cs T fz w',(execOp a.eval o).run P w=.ok (.value cv) w'/\w'.heap=w.heap.push (.cells cs T fz)/\w'.os=w.os/\w'.tape=w.tape/\w'.output=w.output/\l.length<=cs.size /\
   VRs j l (cs.toList.take l.length)/\(∀i,i<cs.size->¬(fz.1<=i/\i<fz.2))/\∀(j':Inj) id,j' id=some ⟨w.heap.size,0,cs.size⟩->VR j' (mk id) cv
theorem NewRun.step{P:Program}{o:Oper}{a:Act}{j:Inj}{w:World}{mk:Nat->AV}{l:List AV}(h:NewRun P o a j w mk l){H:zA}(hR:R j H w) :
   ∃cv j' w',(execOp a.eval o).run P w=.ok (.value cv) w'/\VR j' (mk H.length) cv/\Step H.length j H w j' (H++[.cells true l]) w':=by
 obtain⟨cv,cs,T,fz,w',h1,h2,h3,h4,h5,h6,h7,h8,h9⟩:=h;exact⟨cv,_,w',h1,h9 _ _ (zb _ _ _),zDs hR true l cs T fz h2 h3 h4 h5 h6 h7 (fun _=>h8)⟩
theorem zI2{j:Inj}{l:List AV}{cs:Array Value}(h:VRs j l cs.toList):l.length<=cs.size/\VRs j l (cs.toList.take l.length):=by
 have hl:=h.length;refine ⟨by simp at hl;omega,?_⟩;rw[hl,List.take_length];exact h
def zLu(P:Program)(F:List AV):Op->Option (List AV)
 | .alloc t=>(zBo P t).bind zAC
 | .box _ x=>zAC (ev F x)
 | _=>none
theorem zGx{P:Program}{j:Inj}{F:List AV}{a:Act}(hF:VRs j F a.tmps.toList)(w:World){o:Oper}{l:List AV}(h:zLu P F o.op=some l):NewRun P o a j w (fun id=>.ptr id 0) l:=by
 unfold zLu at h;have key:∀(t:TypeId) (v:Value),VRs j l v.cells.toList->∃cv cs T fz w',Sem.run P (do pure (Value.pointer (some (<-newVar t v)))) w=.ok cv w'/\w'.heap=w.heap.push (.cells cs T fz)/\w'.os=w.os/\w'.tape=w.tape/\w'.output=w.output/\l.length<=cs.size /\
     VRs j l (cs.toList.take l.length)/\(∀i,i<cs.size->¬(fz.1<=i/\i<fz.2))/\∀(j':Inj) id,j' id=some ⟨w.heap.size,0,cs.size⟩->VR j' (.ptr id 0) cv:=by
   intro t v hv;obtain⟨p1,p2⟩:=zI2 hv;exact⟨_,v.cells,t,(0,0),w.alloc (.cells v.cells t),rfl,rfl,rfl,rfl,rfl,p1,p2,fun i _ hh=>by simp at hh,fun j' id hj=>⟨_,hj,rfl⟩⟩
 split at h
 · rename_i t ho
   obtain⟨z,hz,hc⟩:=s6Z.1 h;obtain⟨i,cz,_,_,hr,hv⟩:=zAX hz j w;obtain⟨cv,cs,T,fz,w',h1,h2⟩:=key t cz (Zc hc hv);refine ⟨cv,cs,T,fz,w',?_,h2⟩;unfold execOp;rw[ho];dsimp only;have e:Sem.run P (Instr.alloc t true (.tuple #[])) w=.ok cv w':=by
     unfold Instr.alloc;rw[rb hr];exact h1
   rw[rb e];rfl
 · rename_i t x ho
   obtain⟨cv,cs,T,fz,w',h1,h2⟩:=key t (a.eval x) (Zc h (zQ hF x));refine ⟨cv,cs,T,fz,w',?_,h2⟩;unfold execOp;rw[ho];dsimp only;rw[rb (show Sem.run P (Instr.box t (a.eval x)) w=.ok cv w' from h1)];rfl
 · cases h
def Zf(z:List AV):Nat->List AV
 | 0=>[]
 | n+1=>z++Zf z n
theorem zAW(z:List AV)(n:Nat):(Zf z n).length=n*z.length:=by
 induction n with
 | zero=>simp[Zf]
 | succ n ih=>simp[Zf,ih,Nat.add_mul];omega
theorem zH4(z:List AV):∀(n i:Nat),i<n*z.length->(Zf z n)[i]? = z[i % z.length]?
 | 0,i,h=>by simp at h
 | n+1,i,h=>by
   have hz:0<z.length:=by
     rcases Nat.eq_zero_or_pos z.length with h0 | h0
     · rw[h0]at h;simp at h
     · exact h0
   simp only[Zf];rw[s7Z];split
   · rename_i hlt;rw[Nat.mod_eq_of_lt hlt]
   · rename_i hge
     rw[zH4 z n _ (by rw[Nat.add_mul]at h;omega),<-Nat.mod_eq_sub_mod (by omega)]
theorem zFd{j:Inj}{z:List AV}{cz:Array Value}(h:VRs j z cz.toList)(n:Nat):VRs j (Zf z n) ((Array.range (n*cz.size)).map (cz[· % cz.size]!)).toList:=by
 have h1:=VRs_iff.1 h;have hl:z.length=cz.size:=by simpa using h1.1
 refine VRs_iff.2 ⟨by rw[zAW,hl];simp,fun i x v hx hv=>?_⟩;have hi:i<n*z.length:=by rw[<-zAW];exact (q1Z.1 hx).1
 have hz:0<z.length:=by
   rcases Nat.eq_zero_or_pos z.length with h0 | h0
   · rw[h0]at hi;simp at hi
   · exact h0
 rw[zH4 z n i hi]at hx;have hm:i % cz.size<cz.size:=Nat.mod_lt _ (by omega);have e:v=cz[i % cz.size]:=by
   rw[riZ,Array.getElem?_map,Array.getElem?_range]at hv;rw[if_pos (by rw[<-hl];exact hi)]at hv;cases hv;exact getElem!_pos cz _ hm
 subst e;rw[hl]at hx;exact h1.2 _ x _ hx (by simp[hm])
def zKT(P:Program)(F:List AV):Op->Option (Nat×Nat×List AV)
 | .buildSlice t n ps =>
   match P.underlying t with
   | some (.slice e) =>
     match ZA P e,(zBo P e).bind zAC with
     | some sz,some z=>if z.length=sz/\0<sz/\n*sz<=16777216 then (zFb (fun i=>some (i*sz,sz)) (Zf z n) (ps.toList.map fun (i,x)=>(i,ev F x))).map fun l=>(n,sz,l) else none
     | _,_=>none
   | _=>none
 | .makeSlice t l c =>
   match P.underlying t,ev F l,ev F c with
   | some (.slice e),.int .i64 l,.int .i64 c =>
     match ZA P e,zB1 P e,(zBo P e).bind zAC with
     | some sz,some by_,some z=>if z.length=sz/\0<sz/\0<=l/\l=c/\by_*c<=281474976710656/\c<=9223372036854775807 then some (l.toNat,sz,Zf z l.toNat) else none
     | _,_,_=>none
   | _,_,_=>none
 | _=>none
theorem zQL{place:Nat->Option (Nat×Nat)}{ps:List (Nat×AV)}{l r:List AV}(h:zFb place l ps=some r):r.length=l.length:=by
 induction ps generalizing l with
 | nil=>cases h;rfl
 | cons p rest ih =>
   obtain⟨i,v⟩:=p;unfold zFb at h;split at h
   · split at h
     · rename_i hc
       rw[ih h];simp;omega
     · cases h
   · cases h
theorem zGu{P:Program}{j:Inj}{F:List AV}{a:Act}(hF:VRs j F a.tmps.toList)(w:World){o:Oper}{n sz:Nat}{l:List AV}(h:zKT P F o.op=some (n,sz,l)):NewRun P o a j w (fun id=>.slice id 0 n sz true) l:=by
 have key:∀(e:TypeId) (cs:Array Value),VRs j l cs.toList->cs.size=n*sz->n<=maxLen->∃cv cs' T fz w',Sem.run P (do pure (Value.slice (some (<-newRow e cs)) n n)) w=.ok cv w'/\w'.heap=w.heap.push (.cells cs' T fz)/\w'.os=w.os/\w'.tape=w.tape/\w'.output=w.output/\l.length<=cs'.size /\
     VRs j l (cs'.toList.take l.length)/\(∀i,i<cs'.size->¬(fz.1<=i/\i<fz.2))/\∀(j':Inj) id,j' id=some ⟨w.heap.size,0,cs'.size⟩->VR j' (.slice id 0 n sz true) cv:=by
   intro e cs hv hs hn;obtain⟨p1,p2⟩:=zI2 hv;refine ⟨_,cs,e,(0,0),w.alloc (.cells cs e),rfl,rfl,rfl,rfl,rfl,p1,p2,fun i _ hh=>by simp at hh,fun j' id hj=>?_⟩;exact⟨_,_,n,hj,rfl,qnZ _,fun _=>rfl,hn,.inr ⟨rfl,by simp;omega⟩⟩
 unfold zKT at h;split at h
 · rename_i t m ps ho
   split at h;rotate_left
   · cases h
   rename_i e ht;split at h;rotate_left
   · cases h
   rename_i s z hs hz;split at h;rotate_left
   · cases h
   rename_i hc;obtain⟨hc1,hc2,hc3⟩:=hc;obtain⟨l',hl,e1⟩:=qlZ.1 h;cases e1;obtain⟨za,hza,hzc⟩:=s6Z.1 hz;obtain⟨i,cz,hi,hiz,hr,hv⟩:=zAX hza j w;have hcz:=Zc hzc hv;have hczl:cz.cells.size=sz:=by have:=hcz.length;simp at this;omega
   have hzero:=zFd hcz n;obtain⟨cr,hf,hcr⟩:=zFU (j:=j) _ (ps.map fun (i,x)=>(i,a.eval x)).toList _ _ _ hl hzero (by simp) (fun k p c hp hc=>by
     simp only[qzZ,Array.toList_map]at hp hc;cases hg:ps.toList[k]? with
     | none=>rw[hg]at hp;cases hp
     | some q =>
       rw[hg]at hp hc;obtain⟨qi,qx⟩:=q;cases hp;cases hc
       exact⟨rfl,zQ hF qx⟩)
   have hcs:cr.size=n*sz:=by
     have h1:=hcr.length;have h2:=zQL hl;rw[zAW,hc1]at h2;simp at h1;omega
   have hnle:n<=maxLen:=by
     have:n*1<=n*sz:=Nat.mul_le_mul_left _ hc2;unfold maxLen;omega
   obtain⟨cv,cs',T',fz',w',h1,h2⟩:=key e cr hcr hcs hnle;refine ⟨cv,cs',T',fz',w',?_,h2⟩;unfold execOp;rw[ho];dsimp only;have e2:Sem.run P (Instr.buildSlice t n (ps.map fun (i,x)=>(i,a.eval x))) w=.ok cv w':=by
     unfold Instr.buildSlice;rw[rb (zO ht w)];dsimp only;rw[rb (ZO hs w)];rw[if_neg (by omega)];by_cases h0:n*sz=0
     · rw[if_pos h0,rb (a:=#[]) (w':=w) rfl]
       have e4:((Array.range (n*sz)).map ((#[]:Array Value)[· % (#[]:Array Value).size]!))=((Array.range (n*cz.cells.size)).map (cz.cells[· % cz.cells.size]!)):=by
         rw[hczl];simp[h0]
       rw[e4,hf];exact h1
     · rw[if_neg h0,rb hr,rb (a:=cz.cells) (w':=w) rfl]
       rw[hczl]at hf;rw[hczl,hf];exact h1
   rw[rb e2];rfl
 · rename_i t lo co ho
   split at h;rotate_left
   · cases h
   rename_i e li ci ht hl hc;split at h;rotate_left
   · cases h
   rename_i s y z hs hy hz;split at h;rotate_left
   · cases h
   rename_i hcc;obtain⟨c1,c2,c3,rfl,c5,c6⟩:=hcc;cases h;obtain⟨za,hza,hzc⟩:=s6Z.1 hz;obtain⟨i,cz,hi,hiz,hr,hv⟩:=zAX hza j w;obtain⟨i',hi',e1⟩:=qlZ.1 hs;rw[hi]at hi';cases hi';obtain⟨i',hi',e2⟩:=qlZ.1 hy;rw[hi]at hi';cases hi';subst e1;subst e2
   have hcz:=Zc hzc hv;have hczl:cz.cells.size=i.size:=by have:=hcz.length;simp at this;omega
   have hzero:=zFd hcz li.toNat;obtain⟨cv,cs',T',fz',w',h1,h2⟩:=key e _ hzero (by simp[hczl]) (by unfold maxLen;omega);refine ⟨cv,cs',T',fz',w',?_,h2⟩;have hle:=zQ hF lo;rw[hl]at hle;simp only[VR]at hle;have hce:=zQ hF co;rw[hc]at hce;simp only[VR]at hce;unfold execOp;rw[ho];dsimp only;rw[hle,hce];have hwrap:IntKind.i64.wrap li=li:=IntWalk.i64_in _ (by omega);have e2:Sem.run P (Instr.makeSlice t (.int .i64 li) (.int .i64 li)) w=.ok cv w':=by
     unfold Instr.makeSlice;rw[rb (zO ht w)];dsimp only;rw[rb (a:=li) (w':=w) rfl,rb (a:=li) (w':=w) rfl,rb (zHE hi w)];rw[hwrap];have hno:¬((decide (li<0) || decide ((i.bytes:Int)*li > 2 ^ 48) || decide (li<0) || decide (li > li))=true):=by simp;omega
     rw[if_neg (by simpa using hno)];have eroom:Sem.run P (askRoom (li.toNat*i.bytes)) w=.ok () w:=by
       unfold askRoom;split <;> rfl
     rw[rb eroom,rb (zH8 hi w)];by_cases h0:li.toNat*i.size=0
     · rw[if_pos h0,rb (a:=#[]) (w':=w) rfl]
       have e4:((Array.range (li.toNat*i.size)).map ((#[]:Array Value)[· % (#[]:Array Value).size]!))=((Array.range (li.toNat*cz.cells.size)).map (cz.cells[· % cz.cells.size]!)):=by
         rw[hczl];simp[h0]
       rw[e4];exact h1
     · rw[if_neg h0,rb hr,rb (a:=cz.cells) (w':=w) rfl]
       rw[hczl]at h1;rw[hczl];exact h1
   rw[rb e2];rfl
 · cases h
def Zv:List AV->Option (List UInt8)
 | []=>some []
 | .int .u8 n::xs=>(Zv xs).map (UInt8.ofNat n.toNat::·)
 | _=>none
def zAZ(s:List UInt8):List AV:=s.map fun b=>.int .u8 b.toNat
theorem zIb(s:List UInt8):Zv (zAZ s)=some s:=by
 induction s with
 | nil=>rfl
 | cons b s ih =>
   show Option.map (UInt8.ofNat (Int.toNat (b.toNat:Int))::·) (Zv (zAZ s))=_
   rw[ih];simp
theorem zEQ{j:Inj}:∀{l:List AV} {vs:List Value} {s:List UInt8},Zv l=some s->VRs j l vs->∃ns:List Int,vs=ns.map (Value.int .u8)/\s=ns.map fun n=>UInt8.ofNat n.toNat
 | [],vs,s,h,hl=>by
   simp only[VRs]at hl;subst hl;cases h;exact⟨[],rfl,rfl⟩
 | x::xs,vs,s,h,hl=>by
   simp only[VRs]at hl;obtain⟨v,ws,rfl,h1,h2⟩:=hl;unfold Zv at h;split at h
   · cases ‹_=[]›
   · rename_i n ys e
     cases e;obtain⟨s',hs,rfl⟩:=qlZ.1 h;obtain⟨ns,rfl,rfl⟩:=zEQ hs h2;simp only[VR]at h1;subst h1;exact⟨n::ns,rfl,rfl⟩
   · cases h
def zM9:Option TypeDesc->Bool
 | some (.int .u8)=>true
 | _=>false
theorem zGf{d:Option TypeDesc}(h:zM9 d=true):d=some (.int .u8):=by
 unfold zM9 at h;split at h
 · rfl
 · cases h
def zAT(P:Program)(F:List AV)(H:zA):Op->Option AV
 | .lookup t x i ok=>zFV P H t (ev F x) (ev F i) ok
 | .load t x=>zGQ P H t (ev F x)
 | .convert s d x =>
   match P.underlying s,P.underlying d,ev F x with
   | some (.slice e),some .string,.slice b off n 1 _ =>
     if zM9 (P.underlying e) then
       match H[b]? with
       | some (.cells _ l)=>if off+n<=l.length then (Zv ((l.drop off).take n)).map .str else none
       | _=>none
     else none
   | some (.slice e),some .string,.nils=>if zM9 (P.underlying e) then some (.str []) else none
   | some (.slice e),some .string,.sl b off n 1 _ =>
     if zM9 (P.underlying e) then
       if n=0 then some (.str []) else
       match H[b]? with
       | some (.cells _ l)=>if off+n<=l.length then (Zv ((l.drop off).take n)).map .str else none
       | _=>none
     else none
   | _,_,_=>none
 | .slice t x lo hi mx =>
   match P.underlying t,ev F x with
   | some (.array n e),.ptr b off =>
     match ZA P e,H[b]? with
     | some sz,some (.cells _ l)=>if off+n*sz<=l.length then zC8 P F t (.ptr b off) lo hi mx else none
     | _,_=>none
   | _,_=>none
 | .call ⟨.builtin .len,args,ts⟩=>match ts.toList,args.toList with
   | t::_,x::_=>zFe P H t (ev F x)
   | _,_=>none
 | _=>none
theorem zDD(ns:List Int):strOfNums ns=⟨(ns.map fun n:Int=>UInt8.ofNat n.toNat).toArray⟩:=by
 unfold strOfNums;rfl
theorem zBp{P:Program}{j:Inj}{F:List AV}{a:Act}(hF:VRs j F a.tmps.toList){H:zA}{w:World}(hR:R j H w){o:Oper}{r:AV}(h:zAT P F H o.op=some r) :
   ∃cv,(execOp a.eval o).run P w=.ok (.value cv) w/\VR j r cv:=by
 unfold zAT at h;unfold execOp;split at h
 · rename_i t x i ok ho
   rw[ho];dsimp only;obtain⟨cv,h1,h2⟩:=zNu hR h (zQ hF x) (zQ hF i);exact⟨cv,by rw[rb h1];rfl,h2⟩
 · rename_i t x ho
   rw[ho];dsimp only;obtain⟨cv,h1,h2⟩:=zLJ hR h (zQ hF x);exact⟨cv,by rw[rb h1];rfl,h2⟩
 · rename_i s d x ho
   rw[ho];dsimp only;have hx:=zQ hF x;split at h
   · rename_i e b off n c hs hd hev
     rw[hev]at hx;simp only[VR]at hx;obtain⟨p,ad,cap,hp,hcx,hlc,hclip,hm,hadr⟩:=hx;split at h;rotate_left
     · cases h
     rename_i he0;have he:=zGf he0;split at h;rotate_left
     · cases h
     rename_i own l hb;split at h;rotate_left
     · cases h
     rename_i hle;obtain⟨s',hs',rfl⟩:=qlZ.1 h;obtain⟨vs,v1,v2,v3⟩:=hR.cells hb hp off n hle;obtain⟨ns,rfl,rfl⟩:=zEQ hs' v1;refine ⟨.string ⟨(ns.map fun n:Int=>UInt8.ofNat n.toNat).toArray⟩,?_,rfl⟩;rw[hcx];have e1:Sem.run P (convert s d (.slice (some ad) n cap)) w=.ok (.string ⟨(ns.map fun n:Int=>UInt8.ofNat n.toNat).toArray⟩) w:=by
       by_cases h0:cap=0
       · have hn0:n=0:=by omega
         subst hn0;have:ns=[]:=List.eq_nil_of_length_eq_zero (by simpa using v2);subst this;rw[run_convert_bytes_string w s d e ad 0 cap hs he hd];rfl
       · rcases hadr with h1 | ⟨rfl,_⟩
         · exact absurd h1 h0
         rw[run_convert_bytes_arg w s e hs he p.blk (p.base+off) n cap ns (by simpa using v2) (fun i hi=>?_) d hd,zDD];have hil:i<ns.length:=by simp at v2;omega
         have:=v3 i (.int .u8 (ns.getD i 0)) (by simp[q2Z,q3Z hil]);rw[zB6]at this;exact this
     rw[rb e1];rfl
   · rename_i e hs hd hev
     rw[hev]at hx;simp only[VR]at hx;split at h;rotate_left
     · cases h
     rename_i he0;have he:=zGf he0;cases h;refine ⟨.string .empty,?_,rfl⟩;rw[hx,rb (run_convert_bytes_nil w s e hs he 0 0 d hd)];rfl
   · rename_i e b off n c hs hd hev
     rw[hev]at hx;split at h;rotate_left
     · cases h
     rename_i he0;have he:=zGf he0;split at h
     · rename_i hn0
       cases h;subst hn0;refine ⟨.string .empty,?_,rfl⟩;rcases zDC hx with⟨_,hx'⟩ | hx'
       · rw[hx',rb (run_convert_bytes_nil w s e hs he 0 0 d hd)]
         rfl
       · simp only[VR]at hx'
         obtain⟨p,ad,cap,hp,hcx,_⟩:=hx';rw[hcx,rb (run_convert_bytes_string w s d e ad 0 cap hs he hd)];rfl
     · rename_i hn0
       have hx':=zCP (by omega) hx;simp only[VR]at hx';obtain⟨p,ad,cap,hp,hcx,hlc,hclip,hm,hadr⟩:=hx';split at h;rotate_left
       · cases h
       rename_i own l hb;split at h;rotate_left
       · cases h
       rename_i hle;obtain⟨s',hs',rfl⟩:=qlZ.1 h;obtain⟨vs,v1,v2,v3⟩:=hR.cells hb hp off n hle;obtain⟨ns,rfl,rfl⟩:=zEQ hs' v1;refine ⟨.string ⟨(ns.map fun n:Int=>UInt8.ofNat n.toNat).toArray⟩,?_,rfl⟩;rw[hcx];have e1:Sem.run P (convert s d (.slice (some ad) n cap)) w=.ok (.string ⟨(ns.map fun n:Int=>UInt8.ofNat n.toNat).toArray⟩) w:=by
         rcases hadr with h1 | ⟨rfl,_⟩
         · omega
         rw[run_convert_bytes_arg w s e hs he p.blk (p.base+off) n cap ns (by simpa using v2) (fun i hi=>?_) d hd,zDD];have hil:i<ns.length:=by simp at v2;omega
         have:=v3 i (.int .u8 (ns.getD i 0)) (by simp[q2Z,q3Z hil]);rw[zB6]at this;exact this
       rw[rb e1];rfl
   · cases h
 · rename_i t x lo hi mx ho
   rw[ho];dsimp only;have hx:=zQ hF x;split at h;rotate_left
   · cases h
   rename_i n e b off ht hev;rw[hev]at hx;split at h;rotate_left
   · cases h
   rename_i sz own l hsz hb;split at h;rotate_left
   · cases h
   rename_i hle;obtain⟨cv,h1,h2⟩:=zJe hF h hx w (fun b' off' n' e' sz' e1 e2 e3=>by
     cases e1;rw[ht]at e2;cases e2;rw[hsz]at e3;cases e3;intro p hp;obtain⟨cs,T,fz,g1,g2,g3,_⟩:=hR.blk b _ p hb hp;omega)
   exact⟨cv,by rw[rb h1];rfl,h2⟩
 · rename_i args ts ho
   rw[ho];dsimp only;split at h;rotate_left
   · cases h
   rename_i t _ x _ e1 e2;have e1':ts[0]? = some t:=by rw[<-riZ,e1];rfl
   have e2':(args.map a.eval)[0]? = some (a.eval x):=by rw[<-riZ,Array.toList_map,e2];rfl
   obtain⟨cv,h1,h2⟩:=zN9 (ty:=o.type) hR h (zQ hF x) e1' e2';refine ⟨cv,?_,h2⟩;rw[rb (a:=(⟨.builtin .len ts o.type (args.map fun | .const _=>true | _=>false),args.map a.eval⟩:Deferred)) (w':=w) rfl];show Sem.run P (do pure (.value (<-Builtin.len_ ts o.type (args.map a.eval))):Sem Next) w=_;rw[rb h1];rfl
 · cases h
def zB2(P:Program)(F:List AV):Op->Option (List UInt8)
 | .convert s d x =>
   match P.underlying s,P.underlying d,ev F x with
   | some .string,some (.slice e),.str s=>if zM9 (P.underlying e)&&s.length<=9223372036854775807 then some s else none
   | _,_,_=>none
 | _=>none
theorem zLR{P:Program}{j:Inj}{F:List AV}{a:Act}(hF:VRs j F a.tmps.toList)(w:World){o:Oper}{s:List UInt8}(h:zB2 P F o.op=some s):NewRun P o a j w (fun id=>.slice id 0 s.length 1 false) (zAZ s):=by
 unfold zB2 at h;split at h;rotate_left
 · cases h
 rename_i src d x ho;have hx:=zQ hF x;split at h;rotate_left
 · cases h
 rename_i e s' hs hd hev;rw[hev]at hx;simp only[VR]at hx;split at h <;> cases h
 rename_i hc;simp only[qrZ,decide_eq_true_eq]at hc;obtain⟨he0,hlen⟩:=hc;have he:=zGf he0;have hge:=grownCap_ge w s.length 0 e;have hle:=grownCap_le_maxLen w s.length 0 e hlen;have hsz:(ByteArray.mk s.toArray).size=s.length:=zMq s;have hrun:=run_bytes_of_string (P:=P) w src d e ⟨s.toArray⟩ hs hd he;rw[hsz]at hrun;obtain⟨cs,hcs⟩:∃cs,bytesRow ⟨s.toArray⟩ (grownCap w s.length 0 e)=cs:=⟨_,rfl⟩
 rw[hcs]at hrun;have hcz:cs.size=grownCap w s.length 0 e:=by
   rw[<-hcs];unfold bytesRow;simp[ByteArray.size];omega
 have hpre:cs.toList.take (zAZ s).length=s.map fun b=>Value.int .u8 b.toNat:=by
   rw[<-hcs];unfold bytesRow
   simp only[rxZ,Array.toList_map];rw[List.take_append_of_le_length (by simp[zAZ])];rw[q6Z (by simp[zAZ])]
 refine ⟨.slice (some ⟨w.heap.size,0,none⟩) s.length (grownCap w s.length 0 e),cs,e,(cs.size,cs.size+1),w.drew.alloc (.cells cs e (cs.size,cs.size+1)),?_,rfl,rfl,rfl,rfl,by simp[zAZ];omega,?_,?_,?_⟩
 · unfold execOp
   rw[ho];dsimp only;rw[hx,rb hrun];rfl
 · rw[hpre]
   exact VRs.map s _ _ fun b _=>rfl
 · intro i hi hh
   dsimp only at hh;omega
 · intro j' id hj
   exact⟨_,_,_,hj,rfl,hge,by simp,hle,.inr ⟨rfl,by simp;omega⟩⟩
end Go.Proofs.YtfhidaoiofeooaaGreatDoor
