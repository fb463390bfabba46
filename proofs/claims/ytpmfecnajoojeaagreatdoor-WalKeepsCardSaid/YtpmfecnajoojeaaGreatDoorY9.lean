/- Parts of the proof of WalKeeps: lemmas, each with its own conditions. -/
import Derived.Sort.Walk0
import Derived.Sort.KeysCollected
import Derived.Test.YtpmfecnajoojeaaGreatDoorY4
set_option maxHeartbeats 64000000
open List renaming take_of_length_le → q6Z, length_cons → q7Z, length_nil → q8Z, length_append → qdZ, mem_cons_self → qhZ, mem_cons_of_mem → qiZ, length_take → qjZ, mem_cons → qwZ, mem_append → qxZ, length_map → r7Z, map_cons → s1Z
open Nat renaming le_refl → qnZ
namespace Go.Proofs.YtpmfecnajoojeaaGreatDoor
set_option maxRecDepth 100000
section
open Go.RowKit Go.Maps Go.Sort
def insU(x:List UInt8):List (List UInt8)→List (List UInt8)
 | []=>[x]
 | y::ys=>if Op.bytesLess y x then y::insU x ys else x::y::ys
def sortU:List (List UInt8)→List (List UInt8)
 | []=>[]
 | x::xs=>insU x (sortU xs)
theorem insU_perm(x:List UInt8):∀ys,(insU x ys).Perm (x::ys)
 | []=>.refl _
 | y::ys=>by
   simp only[insU];split
   · exact ((insU_perm x ys).cons y).trans (.swap x y ys)
   · exact .refl _
theorem sortU_perm:∀xs,(sortU xs).Perm xs
 | []=>.refl _
 | x::xs=>(insU_perm x _).trans ((sortU_perm xs).cons x)
theorem insU_sorted(x:List UInt8):∀ys,ys.Pairwise (fun a b=>leB a b=true)→(insU x ys).Pairwise (fun a b=>leB a b=true)
 | [],_=>by simp[insU]
 | y::ys,h=>by
   obtain⟨h1,h2⟩:=List.pairwise_cons.1 h;simp only[insU];split
   · rename_i hl
     rw[bytesLess_eq]at hl
     have hl':y<x:=by simpa using hl
     refine List.pairwise_cons.2 ⟨fun z hz=>?_,insU_sorted x ys h2⟩
     rcases qwZ.1 ((insU_perm x ys).mem_iff.1 hz) with rfl | hz
     · simp only[leB,decide_eq_true_eq];exact Std.le_of_lt hl'
     · exact h1 z hz
   · rename_i hl
     rw[bytesLess_eq]at hl
     have hl':x≤y:=by simpa using hl
     refine List.pairwise_cons.2 ⟨fun z hz=>?_,h⟩
     rcases qwZ.1 hz with rfl | hz
     · simpa[leB] using hl'
     · have:=h1 z hz
       simp only[leB,decide_eq_true_eq]at this ⊢;exact List.le_trans hl' this
theorem sortU_sorted:∀xs,(sortU xs).Pairwise (fun a b=>leB a b=true)
 | []=>.nil
 | x::xs=>insU_sorted x _ (sortU_sorted xs)
theorem sortU_eq{l l':List (List UInt8)}(h:l.Perm l'):l.mergeSort leB=sortU l':=by
 have tr:∀a b c:List UInt8,leB a b=true→leB b c=true→leB a c=true:=fun a b c h1 h2=>by simp only[leB,decide_eq_true_eq]at *;exact List.le_trans h1 h2
 have to:∀a b:List UInt8,(leB a b || leB b a)=true:=fun a b=>by simp only[leB,Bool.or_eq_true,decide_eq_true_eq];exact List.le_total a b
 refine List.Perm.eq_of_pairwise (le:=fun a b=>leB a b=true) (fun a b _ _ h1 h2=>?_) (List.pairwise_mergeSort tr to l) (sortU_sorted l') (((List.mergeSort_perm l leB).trans h).trans (sortU_perm l').symm)
 simp only[leB,decide_eq_true_eq]at h1 h2;exact List.le_antisymm h1 h2
end
section
open Go Go.Lib
abbrev NM:=List (List UInt8×Int)
def NM.get:NM→List UInt8→Option Int
 | [],_=>none
 | e::l,k=>if e.1=k then some e.2 else NM.get l k
def NM.put:NM→List UInt8→Int→NM
 | [],k,v=>[(k,v)]
 | e::l,k,v=>if e.1=k then (k,v)::l else e::NM.put l k v
def NM.del:NM→List UInt8→NM
 | [],_=>[]
 | e::l,k=>if e.1=k then l else e::NM.del l k
def NM.keys(l:NM):List (List UInt8):=l.map (·.1)
def NM.nd(l:NM):Prop:=(NM.keys l).Nodup
def NM.at(l:NM)(k:List UInt8):Nat:=(NM.keys l).idxOf k
theorem NM.get_none{l:NM}{k:List UInt8}:NM.get l k=none↔k∉NM.keys l:=by
 induction l with
 | nil=>simp[NM.get,NM.keys]
 | cons e l ih =>
   unfold NM.get;simp only[NM.keys,s1Z,qwZ,not_or]at ih ⊢;split
   · rename_i h;simp[h]
   · rename_i h;rw[ih];simp[Ne.symm h]
theorem NM.get_some{l:NM}{k:List UInt8}:(∃v,NM.get l k=some v)↔k∈NM.keys l:=by
 cases h:NM.get l k with
 | none=>simp[NM.get_none.1 h]
 | some v =>
   have:k∈NM.keys l:=by
     apply Classical.byContradiction;intro hn
     rw[NM.get_none.2 hn]at h;cases h
   simp[this]
theorem NM.get_put(l:NM)(k k':List UInt8)(v:Int):NM.get (NM.put l k v) k'=if k'=k then some v else NM.get l k':=by
 induction l with
 | nil=>simp only[NM.put,NM.get,eq_comm]
 | cons e l ih =>
   unfold NM.put;split
   · rename_i h
     subst h;unfold NM.get;by_cases hk:k'=e.1
     · simp[hk]
     · simp only[Ne.symm hk,hk,if_false]
   · rename_i h
     unfold NM.get;rw[ih];by_cases hk:e.1=k'
     · rw[if_pos hk,if_pos hk,if_neg (by rintro rfl;exact h hk)]
     · rw[if_neg hk,if_neg hk]
theorem NM.keys_put(l:NM)(k:List UInt8)(v:Int):NM.keys (NM.put l k v)=if k∈NM.keys l then NM.keys l else NM.keys l++[k]:=by
 induction l with
 | nil=>simp[NM.put,NM.keys]
 | cons e l ih =>
   unfold NM.put;simp only[NM.keys,s1Z,qwZ]at ih ⊢;split
   · rename_i h;simp[h]
   · rename_i h
     rw[s1Z,ih]
     by_cases hk:k∈l.map (·.1)
     · simp[hk]
     · simp[hk,Ne.symm h]
theorem NM.nd_put{l:NM}(h:NM.nd l)(k:List UInt8)(v:Int):NM.nd (NM.put l k v):=by
 unfold NM.nd;rw[NM.keys_put];split
 · exact h
 · rename_i hk
   rw[List.nodup_append]
   exact⟨h,by simp,fun a ha b hb=>by simp at hb;subst hb;rintro rfl;exact hk ha⟩
theorem NM.keys_del(l:NM)(k:List UInt8):NM.keys (NM.del l k)=(NM.keys l).erase k:=by
 induction l with
 | nil=>rfl
 | cons e l ih =>
   unfold NM.del;simp only[NM.keys,s1Z]at ih ⊢;rw[List.erase_cons];split
   · rename_i h;simp[h]
   · rename_i h;rw[if_neg (by simpa using h),s1Z,ih]
inductive DAct where
 | cre (k:List UInt8) (n:Int)
 | ren (a b:List UInt8) (n:Int)
 | rem (k:List UInt8)
def DAct.run(x:DAct)(l:NM):NM:=match x with
 | .cre k n=>NM.put l k n
 | .ren a b n=>NM.put (NM.del l a) b n
 | .rem k=>NM.del l k
def druns(l:NM):List DAct→NM
 | []=>l
 | x::xs=>druns (x.run l) xs
theorem druns_append(l:NM)(xs ys:List DAct):druns l (xs++ys)=druns (druns l xs) ys:=by
 induction xs generalizing l with
 | nil=>rfl
 | cons x xs ih=>exact ih _
structure FD where
 d:NM
 acts:List DAct
 last:Int
def FD.now(f:FD):NM:=druns f.d f.acts
def FD.new:FD:=⟨[],[],0⟩
def mayF(k:List UInt8):Prop:=0<k.length∧k.length≤64
instance (k:List UInt8):Decidable (mayF k):=by unfold mayF;infer_instance
def FD.create(f:FD)(k:List UInt8):FD×Int×Int :=
 if mayF k then match f.now.get k with
   | some _=>(f,0,8)
   | none=>(⟨f.d,f.acts++[.cre k (f.last+1)],f.last+1⟩,f.last+1,0)
 else (f,0,2)
def FD.clamp(f:FD)(n:Int):Nat:=(max 0 (min n f.acts.length)).toNat
def FD.survive(f:FD)(n:Int):FD:=⟨druns f.d (f.acts.take (f.clamp n)),[],f.last⟩
def FD.names(f:FD):List (List UInt8):=sortU f.now.keys
def NM.short(l:NM):Prop:=∀k∈NM.keys l,k.length≤64
def DAct.fine:DAct→Prop
 | .cre k _=>k.length≤64
 | .ren _ b _=>b.length≤64
 | .rem _=>True
theorem NM.length_put(l:NM)(k:List UInt8)(v:Int):(NM.put l k v).length≤l.length+1:=by
 have h:=congrArg List.length (NM.keys_put l k v);by_cases hk:k∈NM.keys l
 · rw[if_pos hk]at h
   simp only[NM.keys,r7Z]at h;omega
 · rw[if_neg hk]at h
   simp only[NM.keys,r7Z,qdZ,q7Z,q8Z]at h;omega
theorem NM.length_del(l:NM)(k:List UInt8):(NM.del l k).length≤l.length:=by
 have h:=congrArg List.length (NM.keys_del l k);simp only[NM.keys,r7Z]at h
 have h2:=(List.erase_sublist (a:=k) (l:=l.map (·.1))).length_le
 rw[r7Z]at h2;omega
theorem NM.short_put{l:NM}(h:NM.short l){k:List UInt8}(hk:k.length≤64)(v:Int):NM.short (NM.put l k v):=by
 intro k' hk';rw[NM.keys_put]at hk';split at hk'
 · exact h k' hk'
 · rcases qxZ.1 hk' with h1 | h1
   · exact h k' h1
   · simp at h1;subst h1;exact hk
theorem NM.short_del{l:NM}(h:NM.short l)(k:List UInt8):NM.short (NM.del l k):=by
 intro k' hk';rw[NM.keys_del]at hk';exact h k' (List.mem_of_mem_erase hk')
theorem DAct.run_ok{l:NM}(h:NM.short l)(x:DAct)(hx:x.fine):NM.short (x.run l)∧(x.run l).length≤l.length+1:=by
 cases x with
 | cre k n=>exact⟨NM.short_put h hx n,NM.length_put _ _ _⟩
 | ren a b n=>exact⟨NM.short_put (NM.short_del h a) hx n,by have h1:=NM.length_put (NM.del l a) b n;have h2:=NM.length_del l a;simp only[DAct.run];omega⟩
 | rem k=>exact⟨NM.short_del h k,by have:=NM.length_del l k;simp only[DAct.run];omega⟩
theorem druns_ok:∀(xs:List DAct) {l:NM},NM.short l→(∀x∈xs,x.fine)→NM.short (druns l xs)∧(druns l xs).length≤l.length+xs.length
 | [],l,h,_=>⟨h,qnZ _⟩
 | x::xs,l,h,hx=>by
   obtain⟨h1,h2⟩:=x.run_ok h (hx x (qhZ ..))
   obtain⟨h3,h4⟩:=druns_ok xs h1 fun y hy=>hx y (qiZ _ hy)
   exact⟨h3,by simp only[druns,q7Z];omega⟩
structure FD.ok (f:FD) (B:Nat):Prop where
 len:f.d.length+f.acts.length≤B
 lo:0≤f.last
 hi:f.last≤B
 short:NM.short f.d
 fine:∀x∈f.acts,x.fine
def FD.small(f:FD):Prop:=f.ok 1000000
theorem FD.ok_mono{f:FD}{A B:Nat}(h:f.ok A)(hab:A≤B):f.ok B:=⟨by have:=h.len;omega,h.lo,by have:=h.hi;omega,h.short,h.fine⟩
theorem FD.ok_now{f:FD}{B:Nat}(h:f.ok B):NM.short f.now∧f.now.length≤B:=by
 obtain⟨h1,h2⟩:=druns_ok f.acts h.short h.fine
 exact⟨h1,by have:=h.len;unfold FD.now;omega⟩
theorem FD.ok_new:FD.new.ok 0:=⟨qnZ _,Int.le_refl _,Int.le_refl _,fun k hk=>by simp[FD.new,NM.keys]at hk,fun x hx=>by simp[FD.new]at hx⟩
theorem FD.ok_one{f:FD}{B:Nat}(h:f.ok B)(x:DAct)(hx:x.fine)(n:Int)(h0:0≤n)(h1:n≤B+1):(⟨f.d,f.acts++[x],n⟩:FD).ok (B+1):=by
 refine ⟨?_,h0,by simpa using h1,h.short,fun y hy=>?_⟩
 · have:=h.len
   simp only[qdZ,q7Z,q8Z];omega
 · rcases qxZ.1 hy with hy | hy
   · exact h.fine y hy
   · simp at hy;subst hy;exact hx
theorem FD.ok_create{f:FD}{B:Nat}(h:f.ok B)(k:List UInt8):(f.create k).1.ok (B+1):=by
 unfold FD.create;split
 · rename_i hm
   split
   · exact FD.ok_mono h (by omega)
   · exact FD.ok_one h (.cre k (f.last+1)) hm.2 _ (by have:=h.lo;omega) (by have:=h.hi;omega)
 · exact FD.ok_mono h (by omega)
theorem FD.ok_survive{f:FD}{B:Nat}(h:f.ok B)(n:Int):(f.survive n).ok B:=by
 have hc:f.clamp n≤f.acts.length:=by unfold FD.clamp;omega
 obtain⟨h1,h2⟩:=druns_ok (f.acts.take (f.clamp n)) h.short fun x hx=>h.fine x (List.mem_of_mem_take hx)
 refine ⟨?_,h.lo,h.hi,h1,fun x hx=>by simp[FD.survive]at hx⟩
 have:=h.len;rw[qjZ]at h2;simp only[FD.survive,q8Z];omega
inductive FD.More (f g:FD):Prop where
 | same (h:g=f)
 | one (x:DAct) (hd:g.d=f.d) (ha:g.acts=f.acts++[x]) (hl:f.last≤g.last)
structure NumOk (l:NM) (last:Int):Prop where
 nd:NM.nd l
 rng:∀k v,NM.get l k=some v→1≤v∧v≤last
 inj:∀k k' v,NM.get l k=some v→NM.get l k'=some v→k=k'
theorem NumOk.mono{l:NM}{a b:Int}(h:NumOk l a)(hab:a≤b):NumOk l b :=
 ⟨h.nd,fun k v hk=>by have:=h.rng k v hk;omega,h.inj⟩
theorem NumOk.nil(a:Int):NumOk [] a:=⟨List.nodup_nil,(fun _ _ h=>by cases h),(fun _ _ _ h=>by cases h)⟩
theorem NumOk.cre{l:NM}{a:Int}(h:NumOk l a)(h0:0≤a)(k:List UInt8)(_hk:NM.get l k=none):NumOk (NM.put l k (a+1)) (a+1):=by
 refine ⟨NM.nd_put h.nd _ _,fun k' v hv=>?_,fun k1 k2 v h1 h2=>?_⟩
 · rw[NM.get_put]at hv
   split at hv
   · cases hv;omega
   · have:=h.rng k' v hv;omega
 · rw[NM.get_put]at h1 h2
   split at h1 <;> split at h2
   · rename_i e1 e2;rw[e1,e2]
   · cases h1;have:=h.rng k2 _ h2;omega
   · cases h2;have:=h.rng k1 _ h1;omega
   · exact h.inj k1 k2 v h1 h2
def FD.each(f:FD)(p:NM→Int→Prop):Prop:=∀i,i≤f.acts.length→p (druns f.d (f.acts.take i)) f.last
theorem FD.each_now{f:FD}{p:NM→Int→Prop}(h:f.each p):p f.now f.last:=by
 have:=h f.acts.length (qnZ _);rw[List.take_length]at this;exact this
theorem FD.each_survive{f:FD}{p:NM→Int→Prop}(h:f.each p)(n:Int):(f.survive n).each p:=by
 intro i hi
 have hcl:f.clamp n≤f.acts.length:=by unfold FD.clamp;omega
 simp only[FD.survive,q8Z,Nat.le_zero]at hi;subst hi;exact h _ hcl
theorem FD.each_one{f g:FD}{p:NM→Int→Prop}(h:f.each p)(hm:∀l a b,a≤b→p l a→p l b)(x:DAct)(hd:g.d=f.d)(ha:g.acts=f.acts++[x])(hl:f.last≤g.last)(hx:p (x.run f.now) g.last):g.each p:=by
 intro i hi;rw[ha,qdZ]at hi;simp only[q7Z,q8Z]at hi;rw[hd,ha];by_cases h1:i≤f.acts.length
 · rw[List.take_append_of_le_length h1]
   exact hm _ _ _ hl (h i h1)
 · rw[q6Z (by simp;omega),druns_append]
   exact hx
def FD.numOk(f:FD):Prop:=0≤f.last∧f.each NumOk
theorem FD.numOk_new:FD.new.numOk:=⟨by decide,fun i _=>by simp only[FD.new,List.take_nil,druns];exact NumOk.nil _⟩
theorem FD.numOk_survive{f:FD}(h:f.numOk)(n:Int):(f.survive n).numOk:=⟨h.1,FD.each_survive h.2 n⟩
theorem FD.numOk_create{f:FD}(h:f.numOk)(k:List UInt8):(f.create k).1.numOk:=by
 unfold FD.create;split
 · split
   · exact h
   · rename_i hk
     exact⟨by have:=h.1;dsimp only;omega,FD.each_one h.2 (fun l a b hab hl=>NumOk.mono hl hab) _ rfl rfl (by dsimp only;omega) ((FD.each_now h.2).cre h.1 k hk)⟩
 · exact h
end
end Go.Proofs.YtpmfecnajoojeaaGreatDoor
