/- Parts of the proof of SweepTells: lemmas, each with its own conditions. -/
import Derived.Test.YtfhidaoiofeooaaGreatDoorY9
import Derived.Test.YtfhidaoiofeooaaGreatDoorY11
set_option maxHeartbeats 64000000
open List renaming getElem?_eq_some_iff → q1Z, getD_eq_getElem?_getD → q2Z, getElem?_eq_getElem → q3Z, getElem?_append_left → q4Z, getElem?_append_right → q5Z, take_of_length_le → q6Z, length_cons → q7Z, length_nil → q8Z, cons_append → q9Z, mem_of_getElem? → qcZ, length_append → qdZ, append_assoc → qeZ, mem_cons_self → qhZ, mem_cons_of_mem → qiZ, length_take → qjZ, mem_cons → qwZ, mem_append → qxZ, append_nil → r2Z, length_map → r7Z, getElem?_cons_succ → r9Z, nodup_cons → rdZ, not_mem_nil → rtZ, map_cons → s1Z, set_cons_succ → saZ
open Nat renaming le_refl → qnZ, zero_add → s8Z
namespace Go.Proofs.YtfhidaoiofeooaaGreatDoor
set_option maxRecDepth 100000
section
open Go Go.Lib
abbrev NM:=List (List UInt8×Int)
def NM.get:NM->List UInt8->Option Int
 | [],_=>none
 | e::l,k=>if e.1=k then some e.2 else NM.get l k
def NM.put:NM->List UInt8->Int->NM
 | [],k,v=>[(k,v)]
 | e::l,k,v=>if e.1=k then (k,v)::l else e::NM.put l k v
def NM.del:NM->List UInt8->NM
 | [],_=>[]
 | e::l,k=>if e.1=k then l else e::NM.del l k
def NM.keys(l:NM):List (List UInt8):=l.map (·.1)
def NM.nd(l:NM):Prop:=(NM.keys l).Nodup
def NM.at(l:NM)(k:List UInt8):Nat:=(NM.keys l).idxOf k
theorem NM.get_none{l:NM}{k:List UInt8}:NM.get l k=none↔k∉NM.keys l:=by
 induction l with
 | nil=>simp[NM.get,NM.keys]
 | cons e l ih =>
   unfold NM.get;simp only[NM.keys,s1Z,qwZ,not_or]at ih ⊢;split
   · rename_i h;simp[h]
   · rename_i h;rw[ih];simp[Ne.symm h]
theorem NM.get_some{l:NM}{k:List UInt8}:(∃v,NM.get l k=some v)↔k∈NM.keys l:=by
 cases h:NM.get l k with
 | none=>simp[NM.get_none.1 h]
 | some v =>
   have:k∈NM.keys l:=by
     apply Classical.byContradiction;intro hn;rw[NM.get_none.2 hn]at h;cases h
   simp[this]
theorem NM.get_mem:∀{l:NM} {k:List UInt8} {v:Int},NM.get l k=some v->(k,v)∈l
 | e::l,k,v,h=>by
   unfold NM.get at h;split at h
   · rename_i hk
     cases h;subst hk;exact qhZ ..
   · exact qiZ _ (NM.get_mem h)
theorem NM.get_put(l:NM)(k k':List UInt8)(v:Int):NM.get (NM.put l k v) k'=if k'=k then some v else NM.get l k':=by
 induction l with
 | nil=>simp only[NM.put,NM.get,eq_comm]
 | cons e l ih =>
   unfold NM.put;split
   · rename_i h
     subst h;unfold NM.get;by_cases hk:k'=e.1
     · simp[hk]
     · simp only[Ne.symm hk,hk,if_false]
   · rename_i h
     unfold NM.get;rw[ih];by_cases hk:e.1=k'
     · rw[if_pos hk,if_pos hk,if_neg (by rintro rfl;exact h hk)]
     · rw[if_neg hk,if_neg hk]
theorem NM.keys_put(l:NM)(k:List UInt8)(v:Int):NM.keys (NM.put l k v)=if k∈NM.keys l then NM.keys l else NM.keys l++[k]:=by
 induction l with
 | nil=>simp[NM.put,NM.keys]
 | cons e l ih =>
   unfold NM.put;simp only[NM.keys,s1Z,qwZ]at ih ⊢;split
   · rename_i h;simp[h]
   · rename_i h
     rw[s1Z,ih];by_cases hk:k∈l.map (·.1)
     · simp[hk]
     · simp[hk,Ne.symm h]
theorem NM.nd_put{l:NM}(h:NM.nd l)(k:List UInt8)(v:Int):NM.nd (NM.put l k v):=by
 unfold NM.nd;rw[NM.keys_put];split
 · exact h
 · rename_i hk
   rw[List.nodup_append];exact⟨h,by simp,fun a ha b hb=>by simp at hb;subst hb;rintro rfl;exact hk ha⟩
theorem NM.keys_del(l:NM)(k:List UInt8):NM.keys (NM.del l k)=(NM.keys l).erase k:=by
 induction l with
 | nil=>rfl
 | cons e l ih =>
   unfold NM.del;simp only[NM.keys,s1Z]at ih ⊢;rw[List.erase_cons];split
   · rename_i h;simp[h]
   · rename_i h;rw[if_neg (by simpa using h),s1Z,ih]
theorem NM.nd_del{l:NM}(h:NM.nd l)(k:List UInt8):NM.nd (NM.del l k):=by
 unfold NM.nd;rw[NM.keys_del];exact h.erase k
theorem NM.get_del{l:NM}(h:NM.nd l)(k k':List UInt8):NM.get (NM.del l k) k'=if k'=k then none else NM.get l k':=by
 by_cases hk:k'=k
 · subst hk
   rw[if_pos rfl,NM.get_none,NM.keys_del];exact h.not_mem_erase
 · rw[if_neg hk]
   clear h;induction l with
   | nil=>rfl
   | cons e l ih =>
     unfold NM.del;split
     · rename_i h
       conv=>rhs;unfold NM.get
       rw[if_neg (by rintro rfl;exact hk h)]
     · unfold NM.get
       rw[ih]
inductive DAct where
 | cre (k:List UInt8) (n:Int)
 | ren (a b:List UInt8) (n:Int)
 | rem (k:List UInt8)
def DAct.run(x:DAct)(l:NM):NM:=match x with
 | .cre k n=>NM.put l k n
 | .ren a b n=>NM.put (NM.del l a) b n
 | .rem k=>NM.del l k
def Z6(l:NM):List DAct->NM
 | []=>l
 | x::xs=>Z6 (x.run l) xs
theorem zAr(l:NM)(xs ys:List DAct):Z6 l (xs++ys)=Z6 (Z6 l xs) ys:=by
 induction xs generalizing l with
 | nil=>rfl
 | cons x xs ih=>exact ih _
structure FD where
 d:NM
 acts:List DAct
 last:Int
def FD.now(f:FD):NM:=Z6 f.d f.acts
def FD.new:FD:=⟨[],[],0⟩
def zEO(k:List UInt8):Prop:=0<k.length/\k.length<=64
instance (k:List UInt8):Decidable (zEO k):=by unfold zEO;infer_instance
def FD.create(f:FD)(k:List UInt8):FD×Int×Int :=
 if zEO k then match f.now.get k with
   | some _=>(f,0,8)
   | none=>(⟨f.d,f.acts++[.cre k (f.last+1)],f.last+1⟩,f.last+1,0)
 else (f,0,2)
def FD.remove(f:FD)(k:List UInt8):FD×Int:=match f.now.get k with
 | some _=>(⟨f.d,f.acts++[.rem k],f.last⟩,0)
 | none=>(f,9)
def FD.clamp(f:FD)(n:Int):Nat:=(max 0 (min n f.acts.length)).toNat
def FD.survive(f:FD)(n:Int):FD:=⟨Z6 f.d (f.acts.take (f.clamp n)),[],f.last⟩
def FD.names(f:FD):List (List UInt8):=ZI f.now.keys
def NM.short(l:NM):Prop:=∀k∈NM.keys l,k.length<=64
def DAct.fine:DAct->Prop
 | .cre k _=>k.length<=64
 | .ren _ b _=>b.length<=64
 | .rem _=>True
theorem NM.length_put(l:NM)(k:List UInt8)(v:Int):(NM.put l k v).length<=l.length+1:=by
 have h:=congrArg List.length (NM.keys_put l k v);by_cases hk:k∈NM.keys l
 · rw[if_pos hk]at h
   simp only[NM.keys,r7Z]at h;omega
 · rw[if_neg hk]at h
   simp only[NM.keys,r7Z,qdZ,q7Z,q8Z]at h;omega
theorem NM.length_del(l:NM)(k:List UInt8):(NM.del l k).length<=l.length:=by
 have h:=congrArg List.length (NM.keys_del l k);simp only[NM.keys,r7Z]at h;have h2:=(List.erase_sublist (a:=k) (l:=l.map (·.1))).length_le
 rw[r7Z]at h2;omega
theorem NM.short_put{l:NM}(h:NM.short l){k:List UInt8}(hk:k.length<=64)(v:Int):NM.short (NM.put l k v):=by
 intro k' hk';rw[NM.keys_put]at hk';split at hk'
 · exact h k' hk'
 · rcases qxZ.1 hk' with h1 | h1
   · exact h k' h1
   · simp at h1;subst h1;exact hk
theorem NM.short_del{l:NM}(h:NM.short l)(k:List UInt8):NM.short (NM.del l k):=by
 intro k' hk';rw[NM.keys_del]at hk';exact h k' (List.mem_of_mem_erase hk')
theorem DAct.run_ok{l:NM}(h:NM.short l)(x:DAct)(hx:x.fine):NM.short (x.run l)/\(x.run l).length<=l.length+1:=by
 cases x with
 | cre k n=>exact⟨NM.short_put h hx n,NM.length_put _ _ _⟩
 | ren a b n=>exact⟨NM.short_put (NM.short_del h a) hx n,by have h1:=NM.length_put (NM.del l a) b n;have h2:=NM.length_del l a;simp only[DAct.run];omega⟩
 | rem k=>exact⟨NM.short_del h k,by have:=NM.length_del l k;simp only[DAct.run];omega⟩
theorem zFh:∀(xs:List DAct) {l:NM},NM.short l->(∀x∈xs,x.fine)->NM.short (Z6 l xs)/\(Z6 l xs).length<=l.length+xs.length
 | [],l,h,_=>⟨h,qnZ _⟩
 | x::xs,l,h,hx=>by
   obtain⟨h1,h2⟩:=x.run_ok h (hx x (qhZ ..));obtain⟨h3,h4⟩:=zFh xs h1 fun y hy=>hx y (qiZ _ hy);exact⟨h3,by simp only[Z6,q7Z];omega⟩
structure FD.ok (f:FD) (B:Nat):Prop where
 len:f.d.length+f.acts.length<=B
 lo:0<=f.last
 hi:f.last<=B
 short:NM.short f.d
 fine:∀x∈f.acts,x.fine
def FD.small(f:FD):Prop:=f.ok 1000000
theorem FD.ok_mono{f:FD}{A B:Nat}(h:f.ok A)(hab:A<=B):f.ok B:=⟨by have:=h.len;omega,h.lo,by have:=h.hi;omega,h.short,h.fine⟩
theorem FD.ok_now{f:FD}{B:Nat}(h:f.ok B):NM.short f.now/\f.now.length<=B:=by
 obtain⟨h1,h2⟩:=zFh f.acts h.short h.fine;exact⟨h1,by have:=h.len;unfold FD.now;omega⟩
theorem FD.ok_new:FD.new.ok 0:=⟨qnZ _,Int.le_refl _,Int.le_refl _,fun k hk=>by simp[FD.new,NM.keys]at hk,fun x hx=>by simp[FD.new]at hx⟩
theorem FD.ok_one{f:FD}{B:Nat}(h:f.ok B)(x:DAct)(hx:x.fine)(n:Int)(h0:0<=n)(h1:n<=B+1):(⟨f.d,f.acts++[x],n⟩:FD).ok (B+1):=by
 refine ⟨?_,h0,by simpa using h1,h.short,fun y hy=>?_⟩
 · have:=h.len
   simp only[qdZ,q7Z,q8Z];omega
 · rcases qxZ.1 hy with hy | hy
   · exact h.fine y hy
   · simp at hy;subst hy;exact hx
theorem FD.ok_create{f:FD}{B:Nat}(h:f.ok B)(k:List UInt8):(f.create k).1.ok (B+1):=by
 unfold FD.create;split
 · rename_i hm
   split
   · exact FD.ok_mono h (by omega)
   · exact FD.ok_one h (.cre k (f.last+1)) hm.2 _ (by have:=h.lo;omega) (by have:=h.hi;omega)
 · exact FD.ok_mono h (by omega)
theorem FD.ok_remove{f:FD}{B:Nat}(h:f.ok B)(k:List UInt8):(f.remove k).1.ok (B+1):=by
 unfold FD.remove;split
 · exact FD.ok_one h (.rem k) trivial _ h.lo (by have:=h.hi;omega)
 · exact FD.ok_mono h (by omega)
theorem FD.ok_survive{f:FD}{B:Nat}(h:f.ok B)(n:Int):(f.survive n).ok B:=by
 have hc:f.clamp n<=f.acts.length:=by unfold FD.clamp;omega
 obtain⟨h1,h2⟩:=zFh (f.acts.take (f.clamp n)) h.short fun x hx=>h.fine x (List.mem_of_mem_take hx);refine ⟨?_,h.lo,h.hi,h1,fun x hx=>by simp[FD.survive]at hx⟩;have:=h.len;rw[qjZ]at h2;simp only[FD.survive,q8Z];omega
structure NumOk (l:NM) (last:Int):Prop where
 nd:NM.nd l
 rng:∀k v,NM.get l k=some v->1<=v/\v<=last
 inj:∀k k' v,NM.get l k=some v->NM.get l k'=some v->k=k'
theorem NumOk.mono{l:NM}{a b:Int}(h:NumOk l a)(hab:a<=b):NumOk l b :=
 ⟨h.nd,fun k v hk=>by have:=h.rng k v hk;omega,h.inj⟩
theorem NumOk.nil(a:Int):NumOk [] a:=⟨List.nodup_nil,(fun _ _ h=>by cases h),(fun _ _ _ h=>by cases h)⟩
theorem NumOk.cre{l:NM}{a:Int}(h:NumOk l a)(h0:0<=a)(k:List UInt8)(_hk:NM.get l k=none):NumOk (NM.put l k (a+1)) (a+1):=by
 refine ⟨NM.nd_put h.nd _ _,fun k' v hv=>?_,fun k1 k2 v h1 h2=>?_⟩
 · rw[NM.get_put]at hv
   split at hv
   · cases hv;omega
   · have:=h.rng k' v hv;omega
 · rw[NM.get_put]at h1 h2
   split at h1 <;> split at h2
   · rename_i e1 e2;rw[e1,e2]
   · cases h1;have:=h.rng k2 _ h2;omega
   · cases h2;have:=h.rng k1 _ h1;omega
   · exact h.inj k1 k2 v h1 h2
theorem NumOk.del{l:NM}{a:Int}(h:NumOk l a)(k:List UInt8):NumOk (NM.del l k) a:=by
 have key:∀k' v,NM.get (NM.del l k) k'=some v->NM.get l k'=some v:=by
   intro k' v hv;rw[NM.get_del h.nd]at hv;split at hv
   · cases hv
   · exact hv
 exact⟨NM.nd_del h.nd _,fun k' v hv=>h.rng k' v (key _ _ hv),fun k1 k2 v h1 h2=>h.inj k1 k2 v (key _ _ h1) (key _ _ h2)⟩
def FD.each(f:FD)(p:NM->Int->Prop):Prop:=∀i,i<=f.acts.length->p (Z6 f.d (f.acts.take i)) f.last
theorem FD.each_now{f:FD}{p:NM->Int->Prop}(h:f.each p):p f.now f.last:=by
 have:=h f.acts.length (qnZ _);rw[List.take_length]at this;exact this
theorem FD.each_survive{f:FD}{p:NM->Int->Prop}(h:f.each p)(n:Int):(f.survive n).each p:=by
 intro i hi;have hcl:f.clamp n<=f.acts.length:=by unfold FD.clamp;omega
 simp only[FD.survive,q8Z,Nat.le_zero]at hi;subst hi;exact h _ hcl
theorem FD.each_one{f g:FD}{p:NM->Int->Prop}(h:f.each p)(hm:∀l a b,a<=b->p l a->p l b)(x:DAct)(hd:g.d=f.d)(ha:g.acts=f.acts++[x])(hl:f.last<=g.last)(hx:p (x.run f.now) g.last):g.each p:=by
 intro i hi;rw[ha,qdZ]at hi;simp only[q7Z,q8Z]at hi;rw[hd,ha];by_cases h1:i<=f.acts.length
 · rw[List.take_append_of_le_length h1]
   exact hm _ _ _ hl (h i h1)
 · rw[q6Z (by simp;omega),zAr]
   exact hx
def FD.numOk(f:FD):Prop:=0<=f.last/\f.each NumOk
theorem FD.numOk_new:FD.new.numOk:=⟨by decide,fun i _=>by simp only[FD.new,List.take_nil,Z6];exact NumOk.nil _⟩
theorem FD.numOk_survive{f:FD}(h:f.numOk)(n:Int):(f.survive n).numOk:=⟨h.1,FD.each_survive h.2 n⟩
theorem FD.numOk_create{f:FD}(h:f.numOk)(k:List UInt8):(f.create k).1.numOk:=by
 unfold FD.create;split
 · split
   · exact h
   · rename_i hk
     exact⟨by have:=h.1;dsimp only;omega,FD.each_one h.2 (fun l a b hab hl=>NumOk.mono hl hab) _ rfl rfl (by dsimp only;omega) ((FD.each_now h.2).cre h.1 k hk)⟩
 · exact h
theorem FD.numOk_remove{f:FD}(h:f.numOk)(k:List UInt8):(f.remove k).1.numOk:=by
 unfold FD.remove;split
 · exact⟨h.1,FD.each_one h.2 (fun l a b hab hl=>NumOk.mono hl hab) _ rfl rfl (Int.le_refl _) ((FD.each_now h.2).del k)⟩
 · exact h
def zX(l:NM):List (AV×AV):=l.map fun e=>(.str e.1,.int .i64 e.2)
@[simp] theorem zTY(l:NM):(zX l).length=l.length:=by simp[zX]
@[simp] theorem zLy:∀l:NM,zL ((zX l).map fun x=>x.1)=true
 | []=>rfl
 | e::l=>by have:=zLy l;simpa[zX,free] using this
@[simp] theorem zMu:∀l:NM,zL ((zX l).map fun x=>x.2)=true
 | []=>rfl
 | e::l=>by have:=zMu l;simpa[zX,free] using this
theorem zJE(rn:List Nat):∀l:NM,AWs rn ((zX l).map (·.1)) ((zX l).map (·.1))
 | []=>trivial
 | _::l=>⟨rfl,zJE rn l⟩
theorem zI8(rn:List Nat):∀l:NM,AWs rn ((zX l).map (·.2)) ((zX l).map (·.2))
 | []=>trivial
 | _::l=>⟨⟨rfl,rfl⟩,zI8 rn l⟩
theorem zLF(rn:List Nat)(l:NM):AWb rn (.map (zX l)) (.map (zX l)):=⟨zJE rn l,zI8 rn l⟩
theorem zSG(g:Nat->Nat)(l:NM):reB g (.map (zX l))=.map (zX l):=by
 simp[reB,zX,reA]
theorem Z2(k:List UInt8):∀(l:NM) (i:Nat),zBK (zX l) (.str k) i=some ((NM.get l k).map fun v=>(i+NM.at l k,.int .i64 v))
 | [],i=>by simp[zX,zBK,NM.get]
 | e::l,i=>by
   have ih:=Z2 k l (i+1);simp only[zX]at ih;by_cases h:e.1=k
   · subst h
     simp[zX,zBK,Z3,NM.get,NM.at,NM.keys]
   · have h2:(k==e.1)=false:=by simpa using (fun q=>h q.symm)
     have h3:(e.1==k)=false:=by simpa using h
     simp only[zX,s1Z,zBK,Z3,h2,ih,NM.get,h,if_false,NM.at,NM.keys];rw[List.idxOf_cons,h3];cases NM.get l k <;> simp;omega
theorem zG5:∀{l:NM} {k:List UInt8} {n v:Int},NM.get l k=some n->(zX l).set (NM.at l k) (.str k,.int .i64 v)=zX (NM.put l k v)
 | e::l,k,n,v,h=>by
   unfold NM.get at h;unfold NM.put;split at h
   · rename_i hk;subst hk;simp[zX,NM.at,NM.keys]
   · rename_i hk
     have ih:=zG5 (v:=v) h;have h3:(e.1==k)=false:=by simpa using hk
     simp only[NM.at,NM.keys,zX,s1Z]at ih ⊢;rw[if_neg hk,List.idxOf_cons,h3];simp only[cond_false,saZ,s1Z,ih]
theorem zHW{l:NM}{k:List UInt8}(v:Int)(h:NM.get l k=none):zX l++[(.str k,.int .i64 v)]=zX (NM.put l k v):=by
 induction l with
 | nil=>rfl
 | cons e l ih =>
   unfold NM.get at h;unfold NM.put;split at h
   · cases h
   · rename_i hk
     have:=ih h;simp only[zX,s1Z,q9Z]at this ⊢;rw[if_neg hk,s1Z,this]
theorem zFP:∀{l:NM} {k:List UInt8} {n:Int},NM.get l k=some n->(zX l).eraseIdx (NM.at l k)=zX (NM.del l k)
 | e::l,k,n,h=>by
   unfold NM.get at h;unfold NM.del;split at h
   · rename_i hk;subst hk;simp[zX,NM.at,NM.keys]
   · rename_i hk
     have ih:=zFP h;have h3:(e.1==k)=false:=by simpa using hk
     simp only[NM.at,NM.keys,zX,s1Z]at ih ⊢;rw[if_neg hk,List.idxOf_cons,h3];simp only[cond_false,List.eraseIdx_cons_succ,s1Z,ih]
theorem zRY{l:NM}{k:List UInt8}(h:NM.get l k=none):NM.del l k=l:=by
 induction l with
 | nil=>rfl
 | cons e l ih =>
   unfold NM.get at h;unfold NM.del;split at h
   · cases h
   · rename_i hk;rw[if_neg hk,ih h]
def zAv(x:AV):ABlk:=.obj false [.cells true [x]]
def DAct.boxes:DAct->List ABlk
 | .cre k n=>[zAv (.int .i64 n),zAv (.str k)]
 | .ren a b n=>[zAv (.str a),zAv (.int .i64 n),zAv (.str b)]
 | .rem k=>[zAv (.str k)]
def DAct.nb:DAct->Nat
 | .cre _ _=>2
 | .ren _ _ _=>3
 | .rem _=>1
@[simp] theorem DAct.boxes_length(x:DAct):x.boxes.length=x.nb:=by cases x <;> rfl
def DAct.fn(g:Nat->Nat)(k:Nat):DAct->List AV
 | .cre _ _=>[.str [99,114,101,97,116,101],.func 186 [] [.ptr (g k) 0,.ptr (g (k+1)) 0]]
 | .ren _ _ _=>[.str [114,101,110,97,109,101],.func 335 [] [.ptr (g k) 0,.ptr (g (k+1)) 0,.ptr (g (k+2)) 0]]
 | .rem _=>[.str [114,101,109,111,118,101],.func 333 [] [.ptr (g k) 0]]
def Zs(g:Nat->Nat):Nat->List DAct->List AV
 | _,[]=>[]
 | k,x::l=>x.fn g k++Zs g (k+x.nb) l
def zf(l:List DAct):List ABlk:=l.flatMap DAct.boxes
def nbD(l:List DAct):Nat:=(l.map DAct.nb).sum
@[simp] theorem DAct.fn_length(g:Nat->Nat)(k:Nat)(x:DAct):(x.fn g k).length=2:=by cases x <;> rfl
@[simp] theorem zMa(g:Nat->Nat):∀(l:List DAct) (k:Nat),(Zs g k l).length=l.length*2
 | [],_=>rfl
 | x::l,k=>by simp[Zs,zMa g l];omega
theorem zl:∀l:List DAct,(zf l).length=nbD l
 | []=>rfl
 | x::l=>by
   have:=zl l;simp only[zf,nbD]at this;simp[zf,nbD,this]
theorem zGE(g:Nat->Nat):∀(l m:List DAct) (k:Nat),Zs g k (l++m)=Zs g k l++Zs g (k+nbD l) m
 | [],m,k=>by simp[Zs,nbD]
 | x::l,m,k=>by
   simp only[q9Z,Zs,zGE g l m,nbD,s1Z,List.sum_cons,qeZ];rw[show k+x.nb+(l.map DAct.nb).sum=k+(x.nb+(l.map DAct.nb).sum) by omega]
theorem zNx(l m:List DAct):nbD (l++m)=nbD l+nbD m:=by simp[nbD]
theorem zIo(l m:List DAct):zf (l++m)=zf l++zf m:=by simp[zf]
theorem zMm(g:Nat->Nat):∀(l:List DAct) (k i:Nat) (h:i<l.length),((Zs g k l).drop (i*2)).take 2=l[i].fn g (k+nbD (l.take i))
 | x::l,k,0,_=>by
   simp only[Zs,Nat.zero_mul,List.drop_zero,List.getElem_cons_zero,List.take_zero];rw[List.take_left' (by simp)];rfl
 | x::l,k,i+1,h=>by
   have ih:=zMm g l (k+x.nb) i (by simpa using h);rw[show (i+1)*2=2+i*2 by omega];simp only[Zs,List.getElem_cons_succ,List.take_succ_cons];rw[<-List.drop_drop,List.drop_left' (by simp),ih];simp only[nbD,s1Z,List.sum_cons];rw[show k+x.nb+((l.take i).map DAct.nb).sum=k+(x.nb+((l.take i).map DAct.nb).sum) by omega]
theorem zIV:∀(l:List DAct) (i:Nat) (h:i<l.length) (q:Nat),q<(l[i]).nb->(zf l)[nbD (l.take i)+q]? = (l[i].boxes)[q]?
 | x::l,0,_,q,hq=>by
   simp only[zf,List.flatMap_cons,List.take_zero,List.getElem_cons_zero,nbD,List.map_nil,List.sum_nil,s8Z]at hq ⊢;rw[q4Z (by simpa using hq)]
 | x::l,i+1,h,q,hq=>by
   have ih:=zIV l i (by simpa using h) q (by simpa using hq);simp only[zf,List.flatMap_cons,List.take_succ_cons,List.getElem_cons_succ,nbD,s1Z,List.sum_cons]at ih ⊢;rw[q5Z (by simp;omega),<-ih]
   congr 1
   simp;omega
def FD.blks(f:FD):zA:=.cells true [.map 1,.map 2,.sl 3 0 f.acts.length 2 false,.int .i64 f.last]::.map (zX f.d)::.map (zX f.now)::.cells true (Zs (fun i=>4+i) 0 f.acts)::zf f.acts
theorem zGP(g:Nat->Nat):∀(l m:List AV),ZV g (l++m)=ZV g l++ZV g m
 | [],m=>rfl
 | x::l,m=>by simp[ZV,zGP g l m]
theorem zJK(h g:Nat->Nat):∀(l:List DAct) (k:Nat),ZV h (Zs g k l)=Zs (fun i=>h (g i)) k l
 | [],_=>rfl
 | x::l,k=>by
   rw[Zs,zGP,zJK h g l,Zs]
   congr 1
   cases x <;> simp[DAct.fn,ZV,reA]
theorem zQm(g:Nat->Nat)(l:List DAct):(zf l).map (reB g)=zf l:=by
 have:∀B∈zf l,reB g B=B:=by
   intro B hB;obtain⟨x,-,hx⟩:=List.mem_flatMap.1 hB;cases x <;> simp[DAct.boxes,zAv]at hx
   · rcases hx with rfl | rfl <;> rfl
   · rcases hx with rfl | rfl | rfl <;> rfl
   · subst hx;rfl
 rw[List.map_congr_left this];simp
theorem zHR{g g':Nat->Nat}(h:∀i,g i=g' i)(k:Nat)(l:List DAct):Zs g k l=Zs g' k l:=by
 have:g=g':=funext h;rw[this]
theorem zBa(f:FD)(H:zA)(b:Nat):zo H b f.blks=H.set b (.cells true [.map H.length,.map (H.length+1),.sl (H.length+2) 0 f.acts.length 2 false,.int .i64 f.last]) ++
   (.map (zX f.d)::.map (zX f.now)::.cells true (Zs (fun i=>H.length+3+i) 0 f.acts)::zf f.acts):=by
 unfold zo;simp only[FD.blks,List.getD_cons_zero,List.drop_succ_cons,List.drop_zero,s1Z,zSG,zQm];have e1:reB (zBU b H.length) (.cells true (Zs (fun i=>4+i) 0 f.acts))=.cells true (Zs (fun i=>H.length+3+i) 0 f.acts):=by
   simp only[reB];rw[zJK];rw[zHR fun i=>?_];simp only[zBU];rw[if_neg (by omega)];omega
 rw[e1];simp[reB,ZV,reA,zBU]
theorem zIN{rn:List Nat}:∀{a b c d:List AV},AWs rn a b->AWs rn c d->AWs rn (a++c) (b++d)
 | [],[],_,_,_,h=>h
 | _::_,_::_,_,_,h,h'=>⟨h.1,zIN h.2 h'⟩
 | [],_::_,_,_,h,_=>h.elim
 | _::_,[],_,_,h,_=>h.elim
theorem zLl(rs:List Nat)(g g':Nat->Nat):∀(l:List DAct) (k:Nat),(∀i,k<=i->i<k+nbD l->rs[g i]? = some (g' i))->AWs rs (Zs g k l) (Zs g' k l)
 | [],_,_=>trivial
 | x::l,k,h=>by
   refine zIN ?_ (zLl rs g g' l (k+x.nb) fun i h1 h2=>h i (by omega) (by simp only[nbD,s1Z,List.sum_cons]at h2 ⊢;omega));cases x with
   | cre a n =>
     have h0:=h k (qnZ _) (by simp[nbD,DAct.nb];omega);have h1:=h (k+1) (by omega) (by simp[nbD,DAct.nb];omega);exact⟨rfl,⟨rfl,trivial,⟨h0,rfl⟩,⟨h1,rfl⟩,trivial⟩,trivial⟩
   | ren a b n =>
     have h0:=h k (qnZ _) (by simp[nbD,DAct.nb];omega);have h1:=h (k+1) (by omega) (by simp[nbD,DAct.nb];omega);have h2:=h (k+2) (by omega) (by simp[nbD,DAct.nb];omega);exact⟨rfl,⟨rfl,trivial,⟨h0,rfl⟩,⟨h1,rfl⟩,⟨h2,rfl⟩,trivial⟩,trivial⟩
   | rem a =>
     have h0:=h k (qnZ _) (by simp[nbD,DAct.nb];omega);exact⟨rfl,⟨rfl,trivial,⟨h0,rfl⟩,trivial⟩,trivial⟩
theorem zF7{l:List DAct}{B:ABlk}(h:B∈zf l):∃x,B=zAv x/\zAs x=true:=by
 obtain⟨x,-,hx⟩:=List.mem_flatMap.1 h;cases x <;> simp only[DAct.boxes,qwZ,rtZ,or_false]at hx
 · rcases hx with rfl | rfl <;> exact⟨_,rfl,rfl⟩
 · rcases hx with rfl | rfl | rfl <;> exact⟨_,rfl,rfl⟩
 · exact⟨_,hx,rfl⟩
theorem zRT(rs:List Nat)(H:zA):∀(X:List ABlk) (bs:List Nat),bs.length=X.length->(∀B∈X,∃x,B=zAv x)->(∀(i b:Nat) (B:ABlk),bs[i]? = some b->X[i]? = some B->H[b]? = some B)->AWg rs H X bs
 | [],bs,h,_,_=>by
   have:bs=[]:=List.eq_nil_of_length_eq_zero (by simpa using h);subst this;trivial
 | B::X,b::bs,h,hc,hr=>by
   have h0:=hr 0 b B rfl rfl;simp only[AWg];refine ⟨?_,zRT rs H X bs (by simpa using h) (fun C hC=>hc C (qiZ _ hC)) fun i b C h1 h2=>hr (i+1) b C (by simpa using h1) (by simpa using h2)⟩;split
   · rw[q2Z,h0]
     obtain⟨x,rfl⟩:=hc B (qhZ ..);exact⟨rfl,rfl⟩
   · trivial
 | B::X,[],h,_,_=>by simp at h
theorem Aft.closeFD{n0:Nat}{F:List AV}{H:zA}{K:List AV->zA->Prop}(f:FD)(b m1 m2 r1:Nat)(bs:List Nat)(g:Nat->Nat){x:AV}{o:Bool}
   (hb:H[b]? = some (.cells true [.map m1,.map m2,x,.int .i64 f.last])) (hx:AW (b::m1::m2::r1::bs) (.sl 3 0 f.acts.length 2 false) x)
   (h1:H[m1]? = some (.map (zX f.d))) (h2:H[m2]? = some (.map (zX f.now))) (hr:r1<H.length->H[r1]? = some (.cells true (Zs g 0 f.acts)))
   (hl:bs.length=nbD f.acts) (hg:∀i,i<nbD f.acts->bs[i]? = some (g i)) (hbx:∀(i k:Nat) (B:ABlk),bs[i]? = some k->(zf f.acts)[i]? = some B->H[k]? = some B)
   (hnd:(b::m1::m2::r1::bs).Nodup) (hn:n0<=H.length) (h:Aft n0 F (ZF H b [m1,m2,r1] o f.blks) K):Aft n0 F H K:=by
 refine Aft.close (o:=o) (b:=b) (rs:=b::m1::m2::r1::bs) (ks:=[m1,m2,r1]) rfl hnd (q1Z.1 hb).1 ?_ ?_ ⟨_,rfl,rfl⟩ ?_ hn h
 · intro c y hc hcb hy ho
   rcases qwZ.1 hc with e | hc
   · exact absurd e hcb
   rcases qwZ.1 hc with e | hc
   · simp[e]
   rcases qwZ.1 hc with e | hc
   · simp[e]
   rcases qwZ.1 hc with e | hc
   · simp[e]
   obtain⟨i,hi⟩:=List.getElem?_of_mem hc;have hil:i<(zf f.acts).length:=by rw[zl,<-hl];exact (q1Z.1 hi).1
   have hB:=q3Z hil;have:=hbx i c _ hi hB;rw[this]at hy;cases hy;obtain⟨z,hz,_⟩:=zF7 (qcZ hB);rw[hz]at ho;cases ho
 · refine ⟨?_,?_,?_,?_,zRT _ _ _ _ (by rw[hl,zl]) (fun B hB=>by obtain⟨x,h,_⟩:=zF7 hB;exact⟨x,h⟩) hbx⟩
   · split
     · rw[q2Z,hb]
       exact⟨fun h=>h,rfl,rfl,hx,⟨rfl,rfl⟩,trivial⟩
     · trivial
   · split
     · rw[q2Z,h1];exact zLF _ _
     · trivial
   · split
     · rw[q2Z,h2];exact zLF _ _
     · trivial
   · split
     · rename_i hlt
       rw[q2Z,hr hlt];refine ⟨fun h=>h,zLl _ _ _ _ _ fun i _ hi=>?_⟩;rw[show 4+i=i+1+1+1+1 by omega];simp only[r9Z];exact hg i (by omega)
     · trivial
 · intro i y hy hd
   match i,hy with
   | 0,hy=>cases hy;rfl
   | 1,hy=>cases hy;rfl
   | 2,hy=>cases hy;rfl
   | 3,hy=>cases hy;rfl
   | i+4,hy =>
     simp only[FD.blks,r9Z]at hy;obtain⟨z,rfl,_⟩:=zF7 (qcZ hy);rfl
theorem zPS{g g':Nat->Nat}:∀(l:List DAct) (k:Nat),(∀i,k<=i->i<k+nbD l->g i=g' i)->Zs g k l=Zs g' k l
 | [],_,_=>rfl
 | x::l,k,h=>by
   have ih:=zPS l (k+x.nb) fun i h1 h2=>h i (by omega) (by simp only[nbD,s1Z,List.sum_cons]at h2 ⊢;omega);have h':∀i,k<=i->i<k+x.nb->g i=g' i:=fun i h1 h2=>h i h1 (by simp only[nbD,s1Z,List.sum_cons];omega);simp only[Zs,ih]
   congr 1
   cases x with
   | cre a n =>
     have h0:=h' k (qnZ _) (by simp[DAct.nb]);have h1:=h' (k+1) (by omega) (by simp[DAct.nb]);simp[DAct.fn,h0,h1]
   | ren a b n =>
     have h0:=h' k (qnZ _) (by simp[DAct.nb]);have h1:=h' (k+1) (by omega) (by simp[DAct.nb]);have h2:=h' (k+2) (by omega) (by simp[DAct.nb]);simp[DAct.fn,h0,h1,h2]
   | rem a =>
     have h0:=h' k (qnZ _) (by simp[DAct.nb]);simp[DAct.fn,h0]
theorem Aft.closeFA{n0:Nat}{F:List AV}{H:zA}{K:List AV->zA->Prop}(f:FD)(x:DAct)(n':Int)(b m1 m2 r1 base:Nat)(qs:List Nat){y:AV}
   (hb:H[b]? = some (.cells true [.map m1,.map m2,y,.int .i64 n'])) (hy:AW (b::m1::m2::r1::(List.range' base (nbD f.acts)++qs)) (.sl 3 0 (f.acts.length+1) 2 false) y)
   (h1:H[m1]? = some (.map (zX f.d))) (h2:H[m2]? = some (.map (zX (x.run f.now)))) (hr:H[r1]? = some (.cells true (Zs (fun i=>base+i) 0 f.acts++x.fn (fun i=>qs.getD i 0) 0)))
   (hX:∀(i:Nat) (B:ABlk),(zf f.acts)[i]? = some B->H[base+i]? = some B) (hq:∀(i q:Nat) (B:ABlk),qs[i]? = some q->x.boxes[i]? = some B->H[q]? = some B) (hlq:qs.length=x.nb)
   (hnd:(b::m1::m2::r1::qs).Nodup) (hout:∀c∈b::m1::m2::r1::qs,c<base\/base+nbD f.acts<=c) (hn:n0<=H.length)
   (h:Aft n0 F (ZF H b [m1,m2,r1] true (⟨f.d,f.acts++[x],n'⟩:FD).blks) K):Aft n0 F H K:=by
 have hnb:nbD (f.acts++[x])=nbD f.acts+x.nb:=by rw[zNx];simp[nbD]
 refine Aft.closeFD (⟨f.d,f.acts++[x],n'⟩:FD) b m1 m2 r1 (List.range' base (nbD f.acts)++qs) (fun i=>if i<nbD f.acts then base+i else qs.getD (i-nbD f.acts) 0) (o:=true) (x:=y) hb ?_ h1 ?_ ?_ ?_ ?_ ?_ ?_ hn h
 · show AW _ (.sl 3 0 (f.acts++[x]).length 2 false) y
   rw[qdZ];exact hy
 · rw[h2]
   simp[FD.now,zAr,Z6]
 · intro _
   rw[hr];simp only[zGE]
   congr 3
   · exact zPS _ _ fun i _ hi=>by rw[if_pos (by omega)]
   · simp only[Zs,r2Z,s8Z]
     cases x with
     | cre a n=>simp[DAct.fn];omega
     | ren a b n=>simp[DAct.fn];omega
     | rem a=>simp[DAct.fn]
 · simp only[qdZ,List.length_range',hlq,hnb]
 · intro i hi
   simp only[hnb]at hi;by_cases h3:i<nbD f.acts
   · rw[if_pos h3,q4Z (by simpa using h3),List.getElem?_range' h3];simp
   · rw[if_neg h3,q5Z (by simp;omega)]
     simp only[List.length_range'];have h4:i-nbD f.acts<qs.length:=by omega
     rw[q2Z,q3Z h4];rfl
 · intro i k B e1 e2
   simp only[zIo]at e2;by_cases h3:i<nbD f.acts
   · rw[q4Z (by simpa using h3),List.getElem?_range' h3]at e1
     rw[q4Z (by rw[zl];exact h3)]at e2;simp only[Nat.one_mul,Option.some.injEq]at e1;subst e1;exact hX i B e2
   · rw[q5Z (by simp;omega)]at e1
     rw[q5Z (by rw[zl];omega)]at e2;simp only[List.length_range',zl]at e1 e2;exact hq _ _ B e1 (by simpa[zf] using e2)
 · have hin:∀c∈b::m1::m2::r1::qs,c∉List.range' base (nbD f.acts):=by
     intro c hc hm;rw[List.mem_range'_1]at hm;rcases hout c hc with h | h <;> omega
   simp only[rdZ,qwZ,not_or,qxZ]at hnd ⊢;obtain⟨⟨a1,a2,a3,a4⟩,⟨a5,a6,a7⟩,⟨a8,a9⟩,a10,a11⟩:=hnd;have i1:=hin b (by simp);have i2:=hin m1 (by simp);have i3:=hin m2 (by simp);have i4:=hin r1 (by simp);refine ⟨⟨a1,a2,a3,i1,a4⟩,⟨a5,a6,i2,a7⟩,⟨a8,i3,a9⟩,⟨i4,a10⟩,?_⟩;rw[List.nodup_append];refine ⟨List.nodup_range',a11,fun u hu v hv=>?_⟩;rintro rfl;exact hin u (by simp[hv]) hu
noncomputable def zEp(sub:zA):Option FD:=by
 classical
 exact if h:∃f:FD,sub=f.blks then some (Classical.choose h) else none
def zNM:ABlk->Option AV
 | .obj _ [.cells _ [x]]=>some x
 | _=>none
def zL5:List AV->List ABlk->Option (List DAct)
 | [],_=>some []
 | .str _::.func f _ _::row,bx =>
   if f=186 then
     match bx with
     | a::b::bx=>match zNM a,zNM b,zL5 row bx with
       | some (.int _ n),some (.str k),some l=>some (.cre k n::l)
       | _,_,_=>none
     | _=>none
   else if f=335 then
     match bx with
     | a::b::c::bx=>match zNM a,zNM b,zNM c,zL5 row bx with
       | some (.str k),some (.int _ n),some (.str k'),some l=>some (.ren k k' n::l)
       | _,_,_,_=>none
     | _=>none
   else
     match bx with
     | a::bx=>match zNM a,zL5 row bx with
       | some (.str k),some l=>some (.rem k::l)
       | _,_=>none
     | _=>none
 | _,_=>none
theorem zFz(g:Nat->Nat):∀(l:List DAct) (k:Nat),zL5 (Zs g k l) (zf l)=some l
 | [],_=>rfl
 | x::l,k=>by
   have ih:=zFz g l (k+x.nb);simp only[zf]at ih;cases x <;> simp[Zs,DAct.fn,zf,DAct.boxes,zL5,zNM,zAv,ih]
theorem zLf:∀{l m:NM},zX l=zX m->l=m
 | [],[],_=>rfl
 | [],_::_,h=>by simp[zX]at h
 | _::_,[],h=>by simp[zX]at h
 | (a,x)::l,(b,y)::m,h=>by
   simp only[zX,s1Z,List.cons.injEq,Prod.mk.injEq,AV.str.injEq,AV.int.injEq,true_and]at h;rw[h.1.1,h.1.2,zLf (l:=l) (m:=m) h.2]
theorem zLK{f g:FD}(h:f.blks=g.blks):f=g:=by
 obtain⟨d,a,n⟩:=f;obtain⟨d',a',n'⟩:=g;simp only[FD.blks,List.cons.injEq,ABlk.cells.injEq,ABlk.map.injEq,AV.int.injEq,true_and]at h;obtain⟨⟨-,h1,-⟩,h2,h3,h4,h5⟩:=h;have e1:=zFz (fun i=>4+i) a 0;rw[h4,h5,zFz]at e1;cases e1;rw[zLf h2,h1]
@[simp] theorem zIu(f:FD):zEp f.blks=some f:=by
 unfold zEp;have h:∃g:FD,f.blks=g.blks:=⟨f,rfl⟩
 rw[dif_pos h];have:=Classical.choose_spec h;rw[<-zLK this]
theorem zA8{sub:zA}{f:FD}(h:zEp sub=some f):sub=f.blks:=by
 unfold zEp at h;split at h
 · rename_i hh
   cases h;exact Classical.choose_spec hh
 · cases h
end
end Go.Proofs.YtfhidaoiofeooaaGreatDoor
