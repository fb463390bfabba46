/- Parts of the proof of WalTells: lemmas, each with its own conditions. -/
import Derived.ProofKit
import Derived.OpenShut
import Derived.ShutString
import Derived.ChangeOld
import Derived.Deep.Slices
import Derived.Test.YtfhidaoiofeooaaGreatDoorRows
import Derived.Test.YtfhidaoiofeooaaGreatDoorY5
import Derived.Test.YtfhidaoiofeooaaGreatDoorY6
set_option maxHeartbeats 64000000
open List renaming getElem?_eq_some_iff → q1Z, getD_eq_getElem?_getD → q2Z, getElem?_eq_getElem → q3Z, getElem?_append_left → q4Z, getElem?_append_right → q5Z, take_of_length_le → q6Z, length_cons → q7Z, length_nil → q8Z, cons_append → q9Z, nil_append → qaZ, replicate → qbZ, length_append → qdZ, mem_cons → qwZ, mem_append → qxZ, getElem?_map → qzZ, mem_singleton → r1Z, getElem?_take → r4Z, take_append_drop → r6Z, getElem?_cons_succ → r9Z, getElem?_cons_zero → raZ, nodup_cons → rdZ, not_mem_nil → rtZ, map_cons → s1Z, set_cons_zero → s9Z, set_cons_succ → saZ, flatten_append → sgZ
open Option renaming map_eq_some_iff → qlZ
open Bool renaming and_eq_true → qrZ
open Array renaming length_toList → rjZ
open Nat renaming lt_or_ge → s2Z
namespace Go.Proofs.YtfhidaoiofeooaaGreatDoor
open _root_.Go.Proofs.Tryz renaming prog → Pz
set_option maxRecDepth 100000
section
open Go.ChangeShapes Go.WideShapes Go.ChangeAt Go.RowKit
theorem own:ownKnob Tryz.prog.godebug=none:=by kernel_rfl
theorem zXV:laidOutB Pz=true:=by kernel_rfl
theorem zRF{w:World}{x:Addr}{v:Value}(h:w.cell? x=some v):x=⟨x.block,x.off,none⟩:=by
 cases x with
 | mk b o s =>
   cases s with
   | none=>rfl
   | some s =>
     unfold World.cell? at h;dsimp only at h;split at h <;> simp at h
end
section
open Go.ChangeShapes Go.WideShapes Go.ChangeAt Go.RowKit
inductive Prim where
 | int (k:IntKind)
 | str
 | bool
 deriving DecidableEq
inductive CT where
 | one (p:Prim)
 | row (el:List Prim)
 deriving DecidableEq
def zWL:List CT->Option (List Prim)
 | []=>some []
 | .one p::ts=>(zWL ts).map (p::·)
 | _=>none
def fieldsOf(P:Program)(g:TypeId->Option (List CT)):Nat->List Field->Option (List CT)
 | _,[]=>some []
 | off,f::fs=>match g f.type with
   | some a=>if f.offset=off/\P.cellsOf f.type=a.length then (fieldsOf P g (off+a.length) fs).map (a++·) else none
   | none=>none
def flat(P:Program):Nat->TypeId->Option (List CT)
 | 0,_=>none
 | n+1,t=>match P.underlying t with
   | some .bool=>some [.one .bool]
   | some (.int k)=>some [.one (.int k)]
   | some .string=>some [.one .str]
   | some (.slice e)=>match flat P n e with
     | some a=>if P.cellsOf e=a.length/\0<a.length then (zWL a).map fun el=>[.row el] else none
     | none=>none
   | some (.struct fs)=>fieldsOf P (flat P n) 0 fs.toList
   | some (.array m e)=>match flat P n e with
     | some a=>if P.cellsOf e=a.length then some (qbZ m a).flatten else none
     | none=>none
   | _=>none
def zL8:Prim->Value->Prop
 | .int k,v=>∃n,v=.int k n/\(Lit.int k n).wf=true
 | .str,v=>∃s:ByteArray,v=.string s/\s.size<=maxLen
 | .bool,v=>∃b,v=.bool b
def All2{α β:Type}(R:α->β->Prop):List α->List β->Prop
 | [],[]=>True
 | x::xs,y::ys=>R x y/\All2 R xs ys
 | _,_=>False
section
variable {α β:Type} {R:α->β->Prop}
theorem All2.length:∀{xs:List α} {ys:List β},All2 R xs ys->xs.length=ys.length
 | [],[],_=>rfl
 | x::xs,y::ys,h=>by simp[All2.length h.2]
 | [],_::_,h=>h.elim
 | _::_,[],h=>h.elim
theorem All2.append:∀{xs xs':List α} {ys ys':List β},All2 R xs ys->All2 R xs' ys'->All2 R (xs++xs') (ys++ys')
 | [],_,[],_,_,h=>h
 | _x::_xs,_,_y::_ys,_,h,h'=>⟨h.1,h.2.append h'⟩
 | [],_,_::_,_,h,_=>h.elim
 | _::_,_,[],_,h,_=>h.elim
theorem All2.get:∀{xs:List α} {ys:List β},All2 R xs ys->∀(i:Nat) x y,xs[i]? = some x->ys[i]? = some y->R x y
 | [],[],_,i,x,y,hx,_=>by simp at hx
 | a::xs,b::ys,h,0,x,y,hx,hy=>by simp at hx hy;subst hx;subst hy;exact h.1
 | a::xs,b::ys,h,i+1,x,y,hx,hy=>h.2.get i x y (by simpa using hx) (by simpa using hy)
 | [],_::_,h,_,_,_,_,_=>h.elim
 | _::_,[],h,_,_,_,_,_=>h.elim
theorem All2.of_get:∀{xs:List α} {ys:List β},xs.length=ys.length->(∀(i:Nat) x y,xs[i]? = some x->ys[i]? = some y->R x y)->All2 R xs ys
 | [],[],_,_=>trivial
 | x::xs,y::ys,hl,h=>⟨h 0 x y rfl rfl,All2.of_get (by simpa using hl) fun i a b ha hb=>h (i+1) a b (by simpa using ha) (by simpa using hb)⟩
 | [],_::_,hl,_=>by simp at hl
 | _::_,[],hl,_=>by simp at hl
theorem All2.take{xs:List α}{ys:List β}(h:All2 R xs ys)(n:Nat):All2 R (xs.take n) (ys.take n):=by
 refine All2.of_get (by simp[h.length]) fun i x y hx hy=>?_;rw[r4Z]at hx hy;split at hx
 · rw[if_pos ‹_›]at hy
   exact h.get i x y hx hy
 · cases hx
end
theorem Zq{α:Type}(n:Nat)(el:List α):(qbZ n el).flatten.length=n*el.length:=by
 simp
theorem zDW{α:Type}(n m:Nat)(el:List α)(h:n<=m):(qbZ m el).flatten.take (n*el.length)=(qbZ n el).flatten:=by
 obtain⟨k,rfl⟩:=Nat.exists_eq_add_of_le h;rw[<-List.replicate_append_replicate,sgZ,List.take_append_of_le_length (by simp),q6Z (by simp)]
variable {H:Type} {enc:TypeId×Value->H} {P:Program} {w:World} {base:Nat} {held:Bool}
theorem zCr{α:Type}(l:List α)(a b:Nat):(l.drop a).take b++(l.drop (a+b))=l.drop a:=by
 rw[<-List.drop_drop,r6Z]
theorem zM0(a:Addr)(x y:Nat):(a.add x).add y=a.add (x+y):=by
 unfold Addr.add;by_cases hx:x=0
 · subst hx
   simp
 · by_cases hy:y=0
   · subst hy
     simp
   · rw[if_neg hx,if_neg hy,if_neg (by omega)]
     simp[Nat.add_assoc]
end
section
open Go.ChangeShapes Go.WideShapes Go.ChangeAt Go.RowKit
def zE2:Prim->AV->Prop
 | .int k,x=>∃n,x=.int k n/\(Lit.int k n).wf=true
 | .str,x=>∃s,x=.str s/\s.length<=maxLen
 | .bool,x=>∃b,x=.bool b
def zDr:List CT->Nat->List AV->zA->Prop
 | [],_,[],[]=>True
 | .one p::ts,k,x::xs,H=>zE2 p x/\zDr ts k xs H
 | .row el::ts,k,x::xs,B::H=>(∃l n,B=.cells false l/\(n=0/\x=.nils\/x=.slice k 0 n el.length false)/\n<=maxLen/\All2 zE2 (qbZ n el).flatten l)/\zDr ts (k+1) xs H
 | _,_,_,_=>False
theorem zUe{p:Prim}{v:Value}(h:zL8 p v):∃x,zE2 p x/\free x=true/\∀j,VR j x v:=by
 cases p with
 | int k=>obtain⟨n,rfl,hw⟩:=h;exact⟨.int k n,⟨n,rfl,hw⟩,rfl,fun j=>by simp[VR]⟩
 | str=>obtain⟨s,rfl,hw⟩:=h;exact⟨.str s.data.toList,⟨_,rfl,by rw[rjZ];exact hw⟩,rfl,fun j=>by simp[VR]⟩
 | bool=>obtain⟨b,rfl⟩:=h;exact⟨.bool b,⟨b,rfl⟩,rfl,fun j=>by simp[VR]⟩
theorem zD3(B O i:Nat):(⟨B,O,none⟩:Addr).add i=⟨B,O+i,none⟩:=by
 unfold Addr.add;split
 · rename_i h;subst h;rfl
 · rfl
def zGh(w:World):Prop:=∃(q:Nat) (cs:Array Value) (T:TypeId) (fz:Nat×Nat),w.heap[q]? = some (Obj.cells cs T fz)
end
section
open Go.ChangeShapes Go.WideShapes Go.ChangeAt Go.RowKit
def zRT(P:Program)(t:TypeId):Option Bool :=
 match P.underlying t with
 | some (.struct _)=>some true
 | some (.array _ _)=>some true
 | some .bool=>some false
 | some (.int _)=>some false
 | some .string=>some false
 | some (.slice _)=>some false
 | _=>none
section
variable {H:Type} {enc:TypeId×Value->H} {P:Program} {w:World} {base base':Nat}
theorem zGD{u:TypeId}{a:Addr}{len cap:Nat}(h:Cell.okWide P w .any base u (.slice (some a) len cap)):zGh w:=by
 unfold Cell.okWide at h;split at h;all_goals first
   | (rename_i hv;cases hv)
   | skip
 all_goals try (exfalso;rename_i hv _;cases hv)
 unfold Cell.ok at h;split at h;all_goals try (exact h.elim)
 all_goals try (rename_i hv;cases hv)
 obtain⟨_,_,_,_,row,cells,hs,_⟩:=h;unfold World.shape? at hs;split at hs
 · rename_i c T fz hh
   exact⟨_,c,T,fz,hh⟩
 · cases hs
theorem zUt{t:TypeId}{b:Bool}{v:Value}(hb:zRT P t=some b)(hv:Value.okWide P w .any base t v) :
   (b=true->∃cs,v=.agg cs)/\(b=false->v.cells=#[v])/\∀u∈v.cells.toList,∀a len cap,u=.slice (some a) len cap->zGh w:=by
 unfold zRT at hb;have agg:(∃cs:Array Value,v=.agg cs/\cs.size=P.cellsOf t/\Row.okWide P w .any base t cs)->∀u∈v.cells.toList,∀a len cap,u=.slice (some a) len cap->zGh w:=by
   rintro⟨cs,rfl,_,ts,_,_,hr⟩ u hu a len cap rfl;obtain⟨i,hi⟩:=List.getElem?_of_mem hu;obtain⟨t',_,hc⟩:=hr i _ (by simpa[Value.cells] using hi);exact zGD hc
 have cell:Cell.okWide P w .any base t v->(∀cs,v≠.agg cs)->v.cells=#[v]/\∀u∈v.cells.toList,∀a len cap,u=.slice (some a) len cap->zGh w:=by
   intro hc hne;have e:v.cells=#[v]:=by
     cases v <;> first | rfl | exact absurd rfl (hne _)
   refine ⟨e,fun u hu a len cap hua=>?_⟩;rw[e]at hu;simp at hu;subst hu;subst hua;exact zGD hc
 unfold Value.okWide at hv;split at hb <;> rename_i hu <;> first | cases hb | skip
 · rw[hu]at hv
   exact⟨fun _=>⟨hv.choose,hv.choose_spec.1⟩,fun h=>(by cases h),agg hv⟩
 · rw[hu]at hv
   exact⟨fun _=>⟨hv.choose,hv.choose_spec.1⟩,fun h=>(by cases h),agg hv⟩
 all_goals
   rw[hu]at hv;have hc:=cell hv fun cs hcs=>by
     subst hcs;simp only[Cell.okWide,Cell.ok,hu]at hv
   exact⟨fun h=>(by cases h),fun _=>hc.1,hc.2⟩
theorem zFA(hl:laidOutB P=true):∀(ts:List TypeId),ts.all (fun t=>P.readableRec t&&decide (t<P.types.size))=true->∀{w':World} {vs:List Value} {ds:List (DataW H)} {ps:List MemPlace},
   DataW.TrodAll enc P w 0 (fun _=>true) true ts vs ds ps->Below w.heap.size w w'->DataW.TrodAll enc P w' 0 (fun b=>decide (b<w.heap.size)) true ts vs ds ps
 | [],_,w',vs,ds,ps,h,_=>by
   obtain⟨rfl,rfl,rfl⟩:=trodAll_nil h;exact trodAll_mk0
 | t::ts,hr,w',vs,ds,ps,h,hb=>by
   obtain⟨v,vs',d,ds',p,q,rfl,rfl,rfl,hT,hA'⟩:=trodAll_cons h;simp only[List.all_cons,qrZ,decide_eq_true_eq]at hr;obtain⟨m,hm⟩:=hT;exact trodAll_cons_mk (Below.trod hl hr.1.1 hr.1.2 ⟨m,hm⟩ hb fun x hx=>DataW.trod_lt m _ _ _ hm x hx) (zFA hl ts (by simpa using hr.2) hA' hb)
end
end
theorem zK6{p:Prim}{ts:List CT}{k:Nat}{xs:List AV}{H:zA}(h:zDr (.one p::ts) k xs H):∃x ys,xs=x::ys/\zE2 p x/\zDr ts k ys H:=by
 cases xs with
 | nil=>exact h.elim
 | cons x ys =>
   simp only[zDr]at h;exact⟨x,ys,rfl,h.1,h.2⟩
theorem zTO{k:Nat}{xs:List AV}{H:zA}(h:zDr [] k xs H):xs=[]/\H=[]:=by
 cases xs <;> cases H <;> first | exact wR | exact h.elim
theorem zHh{H:Type}{enc:TypeId×Value->H}{P:Program}{w:World}{base:Nat}{spare:Nat->Bool}{held:Bool}:∀{ts:List TypeId} {vs:List Value} {ds:List (DataW H)} {ps:List MemPlace},DataW.TrodAll enc P w base spare held ts vs ds ps->ds.length=ts.length
 | [],vs,ds,ps,h=>by
   obtain⟨_,rfl,_⟩:=Go.ChangeShapes.trodAll_nil h;rfl
 | t::ts,vs,ds,ps,h=>by
   obtain⟨v,vs',d,ds',p,q,rfl,rfl,rfl,hT,hA'⟩:=Go.ChangeShapes.trodAll_cons h;simp[zHh hA']
section
open Go
inductive FAct where
 | add (s:List UInt8)
 | cut (n:Nat)
structure PF where
 d:List UInt8
 acts:List FAct
def FAct.run(a:FAct)(s:List UInt8):List UInt8:=match a with
 | .add m=>s++m
 | .cut n=>s.take n
def zBB(s:List UInt8):List FAct->List UInt8
 | []=>s
 | a::l=>zBB (a.run s) l
def PF.now(f:PF):List UInt8:=zBB f.d f.acts
def fits(s:List UInt8):List FAct->Prop
 | []=>True
 | a::l=>(match a with | .add _=>True | .cut n=>n<=s.length)/\fits (a.run s) l
theorem zEH(s:List UInt8)(l m:List FAct):zBB s (l++m)=zBB (zBB s l) m:=by
 induction l generalizing s with
 | nil=>rfl
 | cons a l ih=>exact ih _
theorem zHL(s:List UInt8)(l m:List FAct):fits s (l++m)↔fits s l/\fits (zBB s l) m:=by
 induction l generalizing s with
 | nil=>simp[fits,zBB]
 | cons a l ih=>simp only[q9Z,fits,zBB,ih,and_assoc]
def FAct.fn(k:Nat):FAct->AV
 | .add _=>.func 195 [] [.ptr k 0]
 | .cut _=>.func 309 [] [.ptr k 0]
def FAct.box:FAct->ABlk
 | .add s=>.obj false [.cells true [.str s]]
 | .cut n=>.obj false [.cells true [.int .i64 n]]
def zBh:Nat->List FAct->List AV
 | _,[]=>[]
 | k,a::l=>a.fn k::zBh (k+1) l
def zPB:List Nat->List FAct->List AV
 | b::bs,a::l=>a.fn b::zPB bs l
 | _,_=>[]
@[simp] theorem zOI:∀(l:List FAct) (k:Nat),(zBh k l).length=l.length
 | [],_=>rfl
 | a::l,k=>by simp[zBh,zOI l]
theorem zV4:∀(l:List FAct) (k:Nat),zBh k l=zPB (List.range' k l.length) l
 | [],k=>rfl
 | a::l,k=>by simp[zBh,zPB,List.range'_succ,zV4 l]
theorem zNk:∀(l:List FAct) (k i:Nat) (h:i<l.length),(zBh k l)[i]? = some (l[i].fn (k+i))
 | a::l,k,0,_=>rfl
 | a::l,k,i+1,h=>by
   simp only[zBh,r9Z,List.getElem_cons_succ];rw[zNk l (k+1) i (by simpa using h),show k+1+i=k+(i+1) by omega]
def PF.blks(f:PF):zA:=.cells true [.str f.d,.sl 1 0 f.acts.length 1 false,.str f.now]::.cells true (zBh 2 f.acts)::f.acts.map FAct.box
theorem zGt(g:Nat->Nat)(q:Nat):∀(l:List FAct) (k:Nat),(∀i,i<l.length->g (k+i)=q+i)->zj g (zBh k l)=zBh q l
 | [],_,_=>rfl
 | a::l,k,h=>by
   have h0:=h 0 (by simp);simp only[Nat.add_zero]at h0;have ih:=zGt g (q+1) l (k+1) fun i hi=>by rw[show k+1+i=k+(i+1) by omega,h (i+1) (by simpa using hi)];omega
   cases a <;> simp[zBh,FAct.fn,zj,reA,h0] <;> exact zGt g (q+1) l (k+1) fun i hi=>by rw[show k+1+i=k+(i+1) by omega,h (i+1) (by simpa using hi)];omega
theorem zWf(g:Nat->Nat)(a:FAct):reB g a.box=a.box:=by cases a <;> rfl
theorem zGz(f:PF)(T:zA):zY (.obj true f.blks::T) 0 f.blks=.cells true [.str f.d,.sl (T.length+1) 0 f.acts.length 1 false,.str f.now]::(T++.cells true (zBh (T.length+2) f.acts)::f.acts.map FAct.box):=by
 have e:zj (Zr 0 (T.length+1)) (zBh 2 f.acts)=zBh (T.length+2) f.acts:=zGt _ _ _ _ fun i _=>by simp only[Zr];rw[if_neg (by omega)];omega
 have e2:f.acts.map (fun a=>reB (Zr 0 (T.length+1)) a.box)=f.acts.map FAct.box:=by
   apply List.map_congr_left;intro a _;exact zWf _ a
 have e3:f.acts.map (reB (Zr 0 (T.length+1)) ∘ FAct.box)=f.acts.map FAct.box:=e2;unfold zY;simp only[PF.blks,q7Z,List.getD_cons_zero,s9Z,List.drop_succ_cons,List.drop_zero,s1Z,List.map_map,e3];have e4:reB (Zr 0 (T.length+1)) (.cells true (zBh 2 f.acts))=.cells true (zBh (T.length+2) f.acts):=by show ABlk.cells true _=_;rw[e]
 rw[e4];simp[reB,zj,reA,Zr]
theorem zPJ(rs:List Nat):∀(l:List FAct) (k:Nat) (bs:List Nat),bs.length=l.length->(∀i,i<bs.length->rs[k+i]? = bs[i]?)->AWs rs (zBh k l) (zPB bs l)
 | [],k,bs,h,_=>by
   have:bs=[]:=List.eq_nil_of_length_eq_zero (by simpa using h);subst this;trivial
 | a::l,k,b::bs,h,hr=>by
   have h0:=hr 0 (by simp);simp only[Nat.add_zero,raZ]at h0;have ih:=zPJ rs l (k+1) bs (by simpa using h) fun i hi=>by
     have:=hr (i+1) (by simpa using hi);rw[show k+1+i=k+(i+1) by omega,this];simp
   cases a <;> exact⟨⟨rfl,trivial,⟨h0,rfl⟩,trivial⟩,ih⟩
 | a::l,k,[],h,_=>by simp at h
theorem zLP(rs:List Nat)(H:zA):∀(l:List FAct) (bs:List Nat),bs.length=l.length->(∀(i b:Nat) (a:FAct),bs[i]? = some b->l[i]? = some a->H[b]? = some a.box)->AWg rs H (l.map FAct.box) bs
 | [],bs,h,_=>by
   have:bs=[]:=List.eq_nil_of_length_eq_zero (by simpa using h);subst this;trivial
 | a::l,b::bs,h,hr=>by
   have h0:=hr 0 b a rfl rfl;simp only[s1Z,AWg];refine ⟨?_,zLP rs H l bs (by simpa using h) fun i b a h1 h2=>hr (i+1) b a (by simpa using h1) (by simpa using h2)⟩;split
   · rw[q2Z,h0]
     cases a <;> exact⟨rfl,rfl⟩
   · trivial
 | a::l,[],h,_=>by simp at h
theorem Aft.closeF{n0:Nat}{F:List AV}{H:zA}{K:List AV->zA->Prop}(f:PF)(b r1:Nat)(bs:List Nat){x:AV}{o:Bool}
   (hb:H[b]? = some (.cells true [.str f.d,x,.str f.now])) (hx:AW (b::r1::bs) (.sl 1 0 f.acts.length 1 false) x)
   (hr:r1<H.length->H[r1]? = some (.cells true (zPB bs f.acts))) (hl:bs.length=f.acts.length) (hbx:∀(i k:Nat) (a:FAct),bs[i]? = some k->f.acts[i]? = some a->H[k]? = some a.box)
   (hnd:(b::r1::bs).Nodup) (hn:n0<=H.length) (h:Aft n0 F (ZH H b [r1] o f.blks) K):Aft n0 F H K:=by
 refine Aft.close (o:=o) (b:=b) (rs:=b::r1::bs) (ks:=[r1]) rfl hnd (q1Z.1 hb).1 ?_ ?_ ⟨_,rfl,rfl⟩ ?_ hn h
 · intro c x hc hcb hx ho
   rcases qwZ.1 hc with e | hc
   · exact absurd e hcb
   rcases qwZ.1 hc with e | hc
   · simp[e]
   obtain⟨i,hi⟩:=List.getElem?_of_mem hc;have hil:i<f.acts.length:=by rw[<-hl];exact (q1Z.1 hi).1
   have:=hbx i c _ hi (q3Z hil);rw[this]at hx;cases hx;cases hfa:f.acts[i] <;> rw[hfa]at ho <;> cases ho
 · refine ⟨?_,?_,zLP _ _ _ _ hl hbx⟩
   · split
     · rw[q2Z,hb]
       exact⟨fun h=>h,rfl,hx,rfl,trivial⟩
     · trivial
   · split
     · rename_i h1
       rw[q2Z,hr h1];exact⟨fun h=>h,zPJ _ _ _ _ hl fun i _=>by rw[show 2+i=i+1+1 by omega];simp⟩
     · trivial
 · intro i y hy hd
   match i,hy with
   | 0,hy=>cases hy;rfl
   | 1,hy=>cases hy;rfl
   | i+2,hy =>
     simp only[PF.blks,r9Z,qzZ]at hy;obtain⟨a,_,rfl⟩:=qlZ.1 hy;cases a <;> rfl
def zVM:AV->ABlk->Option FAct
 | .func f _ _,.obj _ [.cells _ [.str s]]=>if f=195 then some (.add s) else none
 | .func f _ _,.obj _ [.cells _ [.int _ n]]=>if f=309/\0<=n then some (.cut n.toNat) else none
 | _,_=>none
def zMr:List AV->List ABlk->Option (List FAct)
 | [],[]=>some []
 | x::xs,B::Bs=>match zVM x B,zMr xs Bs with
   | some a,some l=>some (a::l)
   | _,_=>none
 | _,_=>none
def zQL:zA->Option PF
 | .cells _ (.str d::_)::.cells _ row::bx=>(zMr row bx).map fun l=>⟨d,l⟩
 | _=>none
theorem zIt:∀(l:List FAct) (k:Nat),zMr (zBh k l) (l.map FAct.box)=some l
 | [],_=>rfl
 | a::l,k=>by
   have h:zVM (a.fn k) a.box=some a:=by cases a <;> simp[FAct.fn,FAct.box,zVM]
   simp only[zBh,s1Z,zMr,h,zIt l]
@[simp] theorem zHY(f:PF):zQL f.blks=some f:=by simp[zQL,PF.blks,zIt]
theorem zHJ:∀(bs:List Nat) (l:List FAct) (b:Nat) (a:FAct),bs.length=l.length->zPB (bs++[b]) (l++[a])=zPB bs l++[a.fn b]
 | [],l,b,a,h=>by
   have:l=[]:=List.eq_nil_of_length_eq_zero (by simpa using h.symm);subst this;rfl
 | c::bs,[],b,a,h=>by simp at h
 | c::bs,x::l,b,a,h=>by simp only[q9Z,zPB,zHJ bs l b a (by simpa using h)]
def PF.did(f:PF)(a:FAct):PF:=⟨f.d,f.acts++[a]⟩
theorem Aft.closeA{n0:Nat}{F:List AV}{H:zA}{K:List AV->zA->Prop}(f:PF)(a:FAct)(b r1 base q:Nat){x:AV}
   (hb:H[b]? = some (.cells true [.str f.d,x,.str (a.run f.now)])) (hx:AW (b::r1::(List.range' base f.acts.length++[q])) (.sl 1 0 (f.acts.length+1) 1 false) x)
   (hr:H[r1]? = some (.cells true (zBh base f.acts++[a.fn q]))) (hX:∀(i:Nat) (a':FAct),f.acts[i]? = some a'->H[base+i]? = some a'.box) (hq:H[q]? = some a.box)
   (hd:b≠r1/\b≠q/\r1≠q/\(b<base\/base+f.acts.length<=b)/\(r1<base\/base+f.acts.length<=r1)/\(q<base\/base+f.acts.length<=q)) (hn:n0<=H.length)
   (h:Aft n0 F (ZH H b [r1] true (f.did a).blks) K):Aft n0 F H K:=by
 refine Aft.closeF (f.did a) b r1 (List.range' base f.acts.length++[q]) (o:=true) (x:=x) ?_ ?_ ?_ ?_ ?_ ?_ hn h
 · rw[hb];simp[PF.did,PF.now,zEH,zBB]
 · show AW _ (.sl 1 0 (f.acts++[a]).length 1 false) x
   rw[qdZ];exact hx
 · intro _
   rw[hr];simp only[PF.did];rw[zHJ _ _ _ _ (by simp),<-zV4]
 · simp[PF.did]
 · intro i k a' h1 h2
   simp only[PF.did]at h2;rcases s2Z i f.acts.length with h3 | h3
   · rw[q4Z (by simpa using h3),List.getElem?_range' h3]at h1
     rw[q4Z h3]at h2;simp only[Nat.one_mul,Option.some.injEq]at h1;subst h1;exact hX i a' h2
   · have h4:i=f.acts.length:=by
       have:=(q1Z.1 h1).1;simp at this;omega
     subst h4;rw[q5Z (by simp)]at h1;rw[q5Z (by omega)]at h2;simp at h1 h2;subst h1;subst h2
     exact hq
 · simp only[rdZ,qwZ,qxZ,List.mem_range'_1,rtZ,or_false]
   refine ⟨by omega,by omega,?_⟩;rw[List.nodup_append];refine ⟨List.nodup_range',by simp,?_⟩;intro x hx y hy;simp only[List.mem_range'_1,r1Z]at hx hy;omega
end
section
open Go
attribute [-simp] zH zc zq zK zy
def zLE:List FuncId:=[194,195,174,309,175,261]
theorem zDk:GOk Pz (zAV Pz (zZ [(96,zUU)]) 0 zLE 4):=zp hmix (zB zQP zC) 0 zLE 4
def PF.add(f:PF)(m:List UInt8):PF:=if m=[] then f else ⟨f.d,f.acts++[.add m]⟩
theorem zQu(f:PF)(l:List AV)(off n:Nat)(c:Bool)(a:List (List UInt8))(hAl:∀rn,AWs rn l l)(hrs:zAG [.obj true f.blks,.cells false l] (.sl 1 off n 1 c)=some a)(hm:a.flatten.length<=1000000000000/\a.length<=1000000000000)(hn:f.now.length<=1000000000000)(hk:f.acts.length<=1000000000000) :
   Ct Pz 98 [.ptr 0 0,.sl 1 off n 1 c] [.obj true f.blks,.cells false l] (.int .i64 0) [.obj true (f.add a.flatten).blks,.cells false l]:=by
 have hΓ:=zDk;have j3:(a.map List.length).sum<=140737488355328:=by rw[<-List.length_flatten];omega
 obtain⟨m,em⟩:∃m,a.flatten=m:=⟨_,rfl⟩
 rw[em]at hm ⊢;have j1:m.length<=140737488355328/\a.length<=140737488355328:=by omega
 obtain⟨B,eB⟩:∃B,f.blks=B:=⟨_,rfl⟩
 rw[eB]at hrs;refine zE Tryz.func98 rfl ?_;simp only[Tryz.ntmps98,q7Z,q8Z,Nat.reduceAdd,Nat.reduceSub,qbZ,q9Z,qaZ];rw[eB];refine wS hΓ (by simp;exact wR) ?_;refine wS hΓ (by simp;exact wR) ?_;refine Sim.seq (wS hΓ (by simp[zLE,zUU,hrs,em,j1,j3];exact wR) ?_);by_cases h0:m=[]
 · subst h0
   refine wE hΓ (by simp;exact wT) ?_;dsimp only;refine wE hΓ (by simp;exact wT) ?_;exact⟨.inr rfl,_,by simp[Tryz.f98] <;> rfl,wW [0,1] (by simp[PF.add,eB,AWb,hAl])⟩
 have h0':0<m.length:=List.length_pos_iff.2 h0;refine wS hΓ (by simp;exact wR) ?_;rw[<-eB];refine Sim.aft (Aft.open (b:=0) rfl (by simp) (Aft.done (by simp[zY]) ?_));rw[zGz];obtain⟨R,eR⟩:∃R,zBh (List.length [ABlk.cells false l,ABlk.cells true [AV.str m]]+2) f.acts=R:=⟨_,rfl⟩
 obtain⟨X,eX⟩:∃X,f.acts.map FAct.box=X:=⟨_,rfl⟩
 have hR:R.length=f.acts.length:=by rw[<-eR];simp
 have hX:X.length=f.acts.length:=by rw[<-eX];simp
 rw[eR,eX];obtain⟨k,ek⟩:∃k,f.acts.length=k:=⟨_,rfl⟩
 obtain⟨s,es⟩:∃s,f.now=s:=⟨_,rfl⟩
 rw[ek]at hR hX hk ⊢;rw[es]at hn ⊢;have b1:(k+1)*8<=140737488355328:=by omega
 have b2:k+1<=9223372036854775807:=by omega
 have c1:m.length<=140737488355328:=by omega
 have c2:(m.length:Int)<4611686018427387904:=by omega
 have c3:¬(4611686018427387904:Int)<(m.length:Int):=by omega
 have c4:s.length+m.length<=9223372036854775807:=by omega
 have tR:R.take k=R:=q6Z (by omega);refine wE hΓ (by simp +decide [zLE,Tryz.f194,Tryz.f195,Tryz.f174,Tryz.f261,h0,h0',hR,hX,tR,b1,b2,c2,c4];exact wT) ?_;dsimp only;have hadd:f.add m=f.did (.add m):=by unfold PF.add PF.did;rw[if_neg h0]
 have eR2:R=zBh 4 f.acts:=by rw[<-eR];rfl
 refine Sim.aft (Aft.freeze 2 (.str m) rfl (fun _=>rfl) (by simp) ?_);simp only[saZ,s9Z];refine Aft.closeA f (.add m) 0 (k+5) 4 2 (x:=.slice (k+1+1+1+1+1) 0 (k+1) 1 false) ?_ ?_ ?_ ?_ ?_ (by omega) (by simp) ?_
 · simp[FAct.run,es]
 · simp[AW,ek]
 · rw[<-eR2,show k+5=(X.length+1)+1+1+1+1 by omega]
   simp[FAct.fn]
 · intro i a' h2
   have h3:i<X.length:=by rw[hX,<-ek];exact (q1Z.1 h2).1
   rw[show 4+i=i+1+1+1+1 by omega];simp only[r9Z];rw[q4Z h3,<-eX,qzZ,h2];rfl
 · rfl
 rw[<-hadd];refine Aft.weak (Fn:=qbZ 15 .top) (Hn:=[.obj true (f.add m).blks,.cells false l]) (Weak.mk' [0,1] (by decide) (by decide) (zAX _ _ _ rfl) (zM (b:=0) (by simp) _ _ rfl fun i c x h1 h2=>?_)) (by simp) (Aft.done (by simp) ?_)
 · match i,h1,h2 with
   | 0,h1,h2=>cases h1;cases h2;exact .inl ⟨rfl,rfl⟩
   | 1,h1,h2 =>
     cases h1;cases h2
     refine .inr ⟨⟨by simp,by simp⟩,?_⟩;simp[AWb,hAl]
 refine wE hΓ (by simp;exact wT) ?_;exact⟨.inr rfl,_,by simp[Tryz.f98] <;> rfl,wW [0,1] (by simp[AWb,hAl])⟩
def PF.cut(f:PF)(n:Int):PF×Int:=if n<0\/(f.now.length:Int)<n then (f,17) else if n<f.now.length then (⟨f.d,f.acts++[.cut n.toNat]⟩,0) else (f,0)
end
end Go.Proofs.YtfhidaoiofeooaaGreatDoor
