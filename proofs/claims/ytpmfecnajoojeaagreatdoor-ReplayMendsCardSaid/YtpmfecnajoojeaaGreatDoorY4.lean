/- Parts of the proof of ReplayMends: lemmas, each with its own conditions. -/
import Derived.ProofKit
import Derived.OpenShut
import Derived.ShutString
import Derived.ChangeOld
import Derived.Deep.Slices
import Derived.Test.YtpmfecnajoojeaaGreatDoorRows
import Derived.Test.YtpmfecnajoojeaaGreatDoorY3
set_option maxHeartbeats 64000000
open List renaming take_of_length_le → q6Z, replicate → qbZ, getElem?_take → r4Z, take_append_drop → r6Z, flatten_append → sgZ
open Bool renaming and_eq_true → qrZ
open Array renaming length_toList → rjZ
namespace Go.Proofs.YtpmfecnajoojeaaGreatDoor
open _root_.Go.Proofs.Tryz renaming prog → Pz
set_option maxRecDepth 100000
section
open Go.ChangeShapes Go.WideShapes Go.ChangeAt Go.RowKit
theorem own:ownKnob Tryz.prog.godebug=none:=by kernel_rfl
theorem zVt:laidOutB Pz=true:=by kernel_rfl
theorem zPU{w:World}{x:Addr}{v:Value}(h:w.cell? x=some v):x=⟨x.block,x.off,none⟩:=by
 cases x with
 | mk b o s =>
   cases s with
   | none=>rfl
   | some s =>
     unfold World.cell? at h;dsimp only at h
     split at h <;> simp at h
end
section
open Go.ChangeShapes Go.WideShapes Go.ChangeAt Go.RowKit
inductive Prim where
 | int (k:IntKind)
 | str
 | bool
 deriving DecidableEq
inductive CT where
 | one (p:Prim)
 | row (el:List Prim)
 deriving DecidableEq
def zSe:List CT->Option (List Prim)
 | []=>some []
 | .one p::ts=>(zSe ts).map (p::·)
 | _=>none
def fieldsOf(P:Program)(g:TypeId->Option (List CT)):Nat->List Field->Option (List CT)
 | _,[]=>some []
 | off,f::fs=>match g f.type with
   | some a=>if f.offset=off/\P.cellsOf f.type=a.length then (fieldsOf P g (off+a.length) fs).map (a++·) else none
   | none=>none
def flat(P:Program):Nat->TypeId->Option (List CT)
 | 0,_=>none
 | n+1,t=>match P.underlying t with
   | some .bool=>some [.one .bool]
   | some (.int k)=>some [.one (.int k)]
   | some .string=>some [.one .str]
   | some (.slice e)=>match flat P n e with
     | some a=>if P.cellsOf e=a.length/\0<a.length then (zSe a).map fun el=>[.row el] else none
     | none=>none
   | some (.struct fs)=>fieldsOf P (flat P n) 0 fs.toList
   | some (.array m e)=>match flat P n e with
     | some a=>if P.cellsOf e=a.length then some (qbZ m a).flatten else none
     | none=>none
   | _=>none
def zLL:Prim->Value->Prop
 | .int k,v=>∃n,v=.int k n/\(Lit.int k n).wf=true
 | .str,v=>∃s:ByteArray,v=.string s/\s.size<=maxLen
 | .bool,v=>∃b,v=.bool b
def All2{α β:Type}(R:α->β->Prop):List α->List β->Prop
 | [],[]=>True
 | x::xs,y::ys=>R x y/\All2 R xs ys
 | _,_=>False
section
variable {α β:Type} {R:α->β->Prop}
theorem All2.length:∀{xs:List α} {ys:List β},All2 R xs ys->xs.length=ys.length
 | [],[],_=>rfl
 | x::xs,y::ys,h=>by simp[All2.length h.2]
 | [],_::_,h=>h.elim
 | _::_,[],h=>h.elim
theorem All2.append:∀{xs xs':List α} {ys ys':List β},All2 R xs ys->All2 R xs' ys'->All2 R (xs++xs') (ys++ys')
 | [],_,[],_,_,h=>h
 | _x::_xs,_,_y::_ys,_,h,h'=>⟨h.1,h.2.append h'⟩
 | [],_,_::_,_,h,_=>h.elim
 | _::_,_,[],_,h,_=>h.elim
theorem All2.get:∀{xs:List α} {ys:List β},All2 R xs ys->∀(i:Nat) x y,xs[i]? = some x->ys[i]? = some y->R x y
 | [],[],_,i,x,y,hx,_=>by simp at hx
 | a::xs,b::ys,h,0,x,y,hx,hy=>by simp at hx hy;subst hx;subst hy;exact h.1
 | a::xs,b::ys,h,i+1,x,y,hx,hy=>h.2.get i x y (by simpa using hx) (by simpa using hy)
 | [],_::_,h,_,_,_,_,_=>h.elim
 | _::_,[],h,_,_,_,_,_=>h.elim
theorem All2.of_get:∀{xs:List α} {ys:List β},xs.length=ys.length->(∀(i:Nat) x y,xs[i]? = some x->ys[i]? = some y->R x y)->All2 R xs ys
 | [],[],_,_=>trivial
 | x::xs,y::ys,hl,h=>⟨h 0 x y rfl rfl,All2.of_get (by simpa using hl) fun i a b ha hb=>h (i+1) a b (by simpa using ha) (by simpa using hb)⟩
 | [],_::_,hl,_=>by simp at hl
 | _::_,[],hl,_=>by simp at hl
theorem All2.take{xs:List α}{ys:List β}(h:All2 R xs ys)(n:Nat):All2 R (xs.take n) (ys.take n):=by
 refine All2.of_get (by simp[h.length]) fun i x y hx hy=>?_
 rw[r4Z]at hx hy;split at hx
 · rw[if_pos ‹_›]at hy
   exact h.get i x y hx hy
 · cases hx
end
theorem Zm{α:Type}(n:Nat)(el:List α):(qbZ n el).flatten.length=n*el.length:=by
 simp
theorem zCy{α:Type}(n m:Nat)(el:List α)(h:n<=m):(qbZ m el).flatten.take (n*el.length)=(qbZ n el).flatten:=by
 obtain⟨k,rfl⟩:=Nat.exists_eq_add_of_le h
 rw[<-List.replicate_append_replicate,sgZ,List.take_append_of_le_length (by simp),q6Z (by simp)]
variable {H:Type} {enc:TypeId×Value->H} {P:Program} {w:World} {base:Nat} {held:Bool}
theorem zCk{α:Type}(l:List α)(a b:Nat):(l.drop a).take b++(l.drop (a+b))=l.drop a:=by
 rw[<-List.drop_drop,r6Z]
theorem zLw(a:Addr)(x y:Nat):(a.add x).add y=a.add (x+y):=by
 unfold Addr.add;by_cases hx:x=0
 · subst hx
   simp
 · by_cases hy:y=0
   · subst hy
     simp
   · rw[if_neg hx,if_neg hy,if_neg (by omega)]
     simp[Nat.add_assoc]
end
section
open Go.ChangeShapes Go.WideShapes Go.ChangeAt Go.RowKit
def zEc:Prim->AV->Prop
 | .int k,x=>∃n,x=.int k n/\(Lit.int k n).wf=true
 | .str,x=>∃s,x=.str s/\s.length<=maxLen
 | .bool,x=>∃b,x=.bool b
def zDh:List CT->Nat->List AV->zA->Prop
 | [],_,[],[]=>True
 | .one p::ts,k,x::xs,H=>zEc p x/\zDh ts k xs H
 | .row el::ts,k,x::xs,B::H=>(∃l n,B=.cells false l/\(n=0/\x=.nils\/x=.slice k 0 n el.length false)/\n<=maxLen/\All2 zEc (qbZ n el).flatten l)/\zDh ts (k+1) xs H
 | _,_,_,_=>False
theorem zS5{p:Prim}{v:Value}(h:zLL p v):∃x,zEc p x/\free x=true/\∀j,VR j x v:=by
 cases p with
 | int k=>obtain⟨n,rfl,hw⟩:=h;exact⟨.int k n,⟨n,rfl,hw⟩,rfl,fun j=>by simp[VR]⟩
 | str=>obtain⟨s,rfl,hw⟩:=h;exact⟨.str s.data.toList,⟨_,rfl,by rw[rjZ];exact hw⟩,rfl,fun j=>by simp[VR]⟩
 | bool=>obtain⟨b,rfl⟩:=h;exact⟨.bool b,⟨b,rfl⟩,rfl,fun j=>by simp[VR]⟩
theorem zDo(B O i:Nat):(⟨B,O,none⟩:Addr).add i=⟨B,O+i,none⟩:=by
 unfold Addr.add;split
 · rename_i h;subst h;rfl
 · rfl
def zFh(w:World):Prop:=∃(q:Nat) (cs:Array Value) (T:TypeId) (fz:Nat×Nat),w.heap[q]? = some (Obj.cells cs T fz)
end
section
open Go.ChangeShapes Go.WideShapes Go.ChangeAt Go.RowKit
def zPX(P:Program)(t:TypeId):Option Bool :=
 match P.underlying t with
 | some (.struct _)=>some true
 | some (.array _ _)=>some true
 | some .bool=>some false
 | some (.int _)=>some false
 | some .string=>some false
 | some (.slice _)=>some false
 | _=>none
section
variable {H:Type} {enc:TypeId×Value->H} {P:Program} {w:World} {base base':Nat}
theorem zFi{u:TypeId}{a:Addr}{len cap:Nat}(h:Cell.okWide P w .any base u (.slice (some a) len cap)):zFh w:=by
 unfold Cell.okWide at h;split at h
 all_goals first
   | (rename_i hv;cases hv)
   | skip
 all_goals try (exfalso;rename_i hv _;cases hv)
 unfold Cell.ok at h;split at h
 all_goals try (exact h.elim)
 all_goals try (rename_i hv;cases hv)
 obtain⟨_,_,_,_,row,cells,hs,_⟩:=h;unfold World.shape? at hs;split at hs
 · rename_i c T fz hh
   exact⟨_,c,T,fz,hh⟩
 · cases hs
theorem zTL{t:TypeId}{b:Bool}{v:Value}(hb:zPX P t=some b)(hv:Value.okWide P w .any base t v) :
   (b=true->∃cs,v=.agg cs)/\(b=false->v.cells=#[v])/\∀u∈v.cells.toList,∀a len cap,u=.slice (some a) len cap->zFh w:=by
 unfold zPX at hb
 have agg:(∃cs:Array Value,v=.agg cs/\cs.size=P.cellsOf t/\Row.okWide P w .any base t cs)->∀u∈v.cells.toList,∀a len cap,u=.slice (some a) len cap->zFh w:=by
   rintro⟨cs,rfl,_,ts,_,_,hr⟩ u hu a len cap rfl;obtain⟨i,hi⟩:=List.getElem?_of_mem hu
   obtain⟨t',_,hc⟩:=hr i _ (by simpa[Value.cells] using hi)
   exact zFi hc
 have cell:Cell.okWide P w .any base t v->(∀cs,v≠.agg cs)->v.cells=#[v]/\∀u∈v.cells.toList,∀a len cap,u=.slice (some a) len cap->zFh w:=by
   intro hc hne
   have e:v.cells=#[v]:=by
     cases v <;> first | rfl | exact absurd rfl (hne _)
   refine ⟨e,fun u hu a len cap hua=>?_⟩
   rw[e]at hu;simp at hu;subst hu;subst hua;exact zFi hc
 unfold Value.okWide at hv
 split at hb <;> rename_i hu <;> first | cases hb | skip
 · rw[hu]at hv
   exact⟨fun _=>⟨hv.choose,hv.choose_spec.1⟩,fun h=>(by cases h),agg hv⟩
 · rw[hu]at hv
   exact⟨fun _=>⟨hv.choose,hv.choose_spec.1⟩,fun h=>(by cases h),agg hv⟩
 all_goals
   rw[hu]at hv
   have hc:=cell hv fun cs hcs=>by
     subst hcs;simp only[Cell.okWide,Cell.ok,hu]at hv
   exact⟨fun h=>(by cases h),fun _=>hc.1,hc.2⟩
theorem zEg(hl:laidOutB P=true):∀(ts:List TypeId),ts.all (fun t=>P.readableRec t&&decide (t<P.types.size))=true->∀{w':World} {vs:List Value} {ds:List (DataW H)} {ps:List MemPlace},
   DataW.TrodAll enc P w 0 (fun _=>true) true ts vs ds ps->Below w.heap.size w w'->DataW.TrodAll enc P w' 0 (fun b=>decide (b<w.heap.size)) true ts vs ds ps
 | [],_,w',vs,ds,ps,h,_=>by
   obtain⟨rfl,rfl,rfl⟩:=trodAll_nil h;exact trodAll_mk0
 | t::ts,hr,w',vs,ds,ps,h,hb=>by
   obtain⟨v,vs',d,ds',p,q,rfl,rfl,rfl,hT,hA'⟩:=trodAll_cons h;simp only[List.all_cons,qrZ,decide_eq_true_eq]at hr;obtain⟨m,hm⟩:=hT
   exact trodAll_cons_mk (Below.trod hl hr.1.1 hr.1.2 ⟨m,hm⟩ hb fun x hx=>DataW.trod_lt m _ _ _ hm x hx) (zEg hl ts (by simpa using hr.2) hA' hb)
end
end
theorem zJ1{p:Prim}{ts:List CT}{k:Nat}{xs:List AV}{H:zA}(h:zDh (.one p::ts) k xs H):∃x ys,xs=x::ys/\zEc p x/\zDh ts k ys H:=by
 cases xs with
 | nil=>exact h.elim
 | cons x ys =>
   simp only[zDh]at h;exact⟨x,ys,rfl,h.1,h.2⟩
theorem zRl{k:Nat}{xs:List AV}{H:zA}(h:zDh [] k xs H):xs=[]/\H=[]:=by
 cases xs <;> cases H <;> first | exact⟨rfl,rfl⟩ | exact h.elim
theorem zG8{H:Type}{enc:TypeId×Value->H}{P:Program}{w:World}{base:Nat}{spare:Nat->Bool}{held:Bool}:∀{ts:List TypeId} {vs:List Value} {ds:List (DataW H)} {ps:List MemPlace},DataW.TrodAll enc P w base spare held ts vs ds ps->ds.length=ts.length
 | [],vs,ds,ps,h=>by
   obtain⟨_,rfl,_⟩:=Go.ChangeShapes.trodAll_nil h;rfl
 | t::ts,vs,ds,ps,h=>by
   obtain⟨v,vs',d,ds',p,q,rfl,rfl,rfl,hT,hA'⟩:=Go.ChangeShapes.trodAll_cons h;simp[zG8 hA']
end Go.Proofs.YtpmfecnajoojeaaGreatDoor
