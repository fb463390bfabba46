/- Parts of the proof of WalKeeps: lemmas, each with its own conditions. -/
import Derived.Test.YtpmfecnajoojeaaGreatDoorY5
import Derived.Test.YtpmfecnajoojeaaGreatDoorY9
set_option maxHeartbeats 64000000
open List renaming getElem?_eq_some_iff → q1Z, getD_eq_getElem?_getD → q2Z, getElem?_eq_getElem → q3Z, getElem?_append_left → q4Z, getElem?_append_right → q5Z, cons_append → q9Z, mem_of_getElem? → qcZ, length_append → qdZ, append_assoc → qeZ, mem_cons_self → qhZ, mem_cons_of_mem → qiZ, mem_cons → qwZ, mem_append → qxZ, append_nil → r2Z, getElem?_cons_succ → r9Z, nodup_cons → rdZ, not_mem_nil → rtZ, map_cons → s1Z, set_cons_succ → saZ
open Nat renaming le_refl → qnZ, zero_add → s8Z
namespace Go.Proofs.YtpmfecnajoojeaaGreatDoor
set_option maxRecDepth 100000
section
open Go Go.Lib
def entsA(l:NM):List (AV×AV):=l.map fun e=>(.str e.1,.int .i64 e.2)
@[simp] theorem entsA_length(l:NM):(entsA l).length=l.length:=by simp[entsA]
@[simp] theorem frees_ents1:∀l:NM,frees ((entsA l).map fun x=>x.1)=true
 | []=>rfl
 | e::l=>by have:=frees_ents1 l;simpa[entsA,free] using this
@[simp] theorem frees_ents2:∀l:NM,frees ((entsA l).map fun x=>x.2)=true
 | []=>rfl
 | e::l=>by have:=frees_ents2 l;simpa[entsA,free] using this
theorem AWs_ents1(rn:List Nat):∀l:NM,AWs rn ((entsA l).map (·.1)) ((entsA l).map (·.1))
 | []=>trivial
 | _::l=>⟨rfl,AWs_ents1 rn l⟩
theorem AWs_ents2(rn:List Nat):∀l:NM,AWs rn ((entsA l).map (·.2)) ((entsA l).map (·.2))
 | []=>trivial
 | _::l=>⟨⟨rfl,rfl⟩,AWs_ents2 rn l⟩
theorem AWb_ents(rn:List Nat)(l:NM):AWb rn (.map (entsA l)) (.map (entsA l)):=⟨AWs_ents1 rn l,AWs_ents2 rn l⟩
theorem reB_ents(g:Nat→Nat)(l:NM):reB g (.map (entsA l))=.map (entsA l):=by
 simp[reB,entsA,reA]
theorem find_ents(k:List UInt8):∀(l:NM) (i:Nat),findA (entsA l) (.str k) i=some ((NM.get l k).map fun v=>(i+NM.at l k,.int .i64 v))
 | [],i=>by simp[entsA,findA,NM.get]
 | e::l,i=>by
   have ih:=find_ents k l (i+1);simp only[entsA]at ih;by_cases h:e.1=k
   · subst h
     simp[entsA,findA,primEq,NM.get,NM.at,NM.keys]
   · have h2:(k==e.1)=false:=by simpa using (fun q=>h q.symm)
     have h3:(e.1==k)=false:=by simpa using h
     simp only[entsA,s1Z,findA,primEq,h2,ih,NM.get,h,if_false,NM.at,NM.keys];rw[List.idxOf_cons,h3]
     cases NM.get l k <;> simp;omega
theorem ents_set:∀{l:NM} {k:List UInt8} {n v:Int},NM.get l k=some n→(entsA l).set (NM.at l k) (.str k,.int .i64 v)=entsA (NM.put l k v)
 | e::l,k,n,v,h=>by
   unfold NM.get at h;unfold NM.put;split at h
   · rename_i hk;subst hk;simp[entsA,NM.at,NM.keys]
   · rename_i hk
     have ih:=ents_set (v:=v) h
     have h3:(e.1==k)=false:=by simpa using hk
     simp only[NM.at,NM.keys,entsA,s1Z]at ih ⊢;rw[if_neg hk,List.idxOf_cons,h3];simp only[cond_false,saZ,s1Z,ih]
theorem ents_new{l:NM}{k:List UInt8}(v:Int)(h:NM.get l k=none):entsA l++[(.str k,.int .i64 v)]=entsA (NM.put l k v):=by
 induction l with
 | nil=>rfl
 | cons e l ih =>
   unfold NM.get at h;unfold NM.put;split at h
   · cases h
   · rename_i hk
     have:=ih h;simp only[entsA,s1Z,q9Z]at this ⊢;rw[if_neg hk,s1Z,this]
theorem ents_del:∀{l:NM} {k:List UInt8} {n:Int},NM.get l k=some n→(entsA l).eraseIdx (NM.at l k)=entsA (NM.del l k)
 | e::l,k,n,h=>by
   unfold NM.get at h;unfold NM.del;split at h
   · rename_i hk;subst hk;simp[entsA,NM.at,NM.keys]
   · rename_i hk
     have ih:=ents_del h
     have h3:(e.1==k)=false:=by simpa using hk
     simp only[NM.at,NM.keys,entsA,s1Z]at ih ⊢;rw[if_neg hk,List.idxOf_cons,h3];simp only[cond_false,List.eraseIdx_cons_succ,s1Z,ih]
theorem del_none{l:NM}{k:List UInt8}(h:NM.get l k=none):NM.del l k=l:=by
 induction l with
 | nil=>rfl
 | cons e l ih =>
   unfold NM.get at h;unfold NM.del;split at h
   · cases h
   · rename_i hk;rw[if_neg hk,ih h]
def boxA(x:AV):ABlk:=.obj false [.cells true [x]]
def DAct.boxes:DAct→List ABlk
 | .cre k n=>[boxA (.int .i64 n),boxA (.str k)]
 | .ren a b n=>[boxA (.str a),boxA (.int .i64 n),boxA (.str b)]
 | .rem k=>[boxA (.str k)]
def DAct.nb:DAct→Nat
 | .cre _ _=>2
 | .ren _ _ _=>3
 | .rem _=>1
@[simp] theorem DAct.boxes_length(x:DAct):x.boxes.length=x.nb:=by cases x <;> rfl
def DAct.fn(g:Nat→Nat)(k:Nat):DAct→List AV
 | .cre _ _=>[.str [99,114,101,97,116,101],.func 174 [] [.ptr (g k) 0,.ptr (g (k+1)) 0]]
 | .ren _ _ _=>[.str [114,101,110,97,109,101],.func 225 [] [.ptr (g k) 0,.ptr (g (k+1)) 0,.ptr (g (k+2)) 0]]
 | .rem _=>[.str [114,101,109,111,118,101],.func 224 [] [.ptr (g k) 0]]
def rowD(g:Nat→Nat):Nat→List DAct→List AV
 | _,[]=>[]
 | k,x::l=>x.fn g k++rowD g (k+x.nb) l
def boxesD(l:List DAct):List ABlk:=l.flatMap DAct.boxes
def nbD(l:List DAct):Nat:=(l.map DAct.nb).sum
@[simp] theorem DAct.fn_length(g:Nat→Nat)(k:Nat)(x:DAct):(x.fn g k).length=2:=by cases x <;> rfl
@[simp] theorem rowD_length(g:Nat→Nat):∀(l:List DAct) (k:Nat),(rowD g k l).length=l.length*2
 | [],_=>rfl
 | x::l,k=>by simp[rowD,rowD_length g l];omega
theorem boxesD_length:∀l:List DAct,(boxesD l).length=nbD l
 | []=>rfl
 | x::l=>by
   have:=boxesD_length l;simp only[boxesD,nbD]at this;simp[boxesD,nbD,this]
theorem rowD_append(g:Nat→Nat):∀(l m:List DAct) (k:Nat),rowD g k (l++m)=rowD g k l++rowD g (k+nbD l) m
 | [],m,k=>by simp[rowD,nbD]
 | x::l,m,k=>by
   simp only[q9Z,rowD,rowD_append g l m,nbD,s1Z,List.sum_cons,qeZ]
   rw[show k+x.nb+(l.map DAct.nb).sum=k+(x.nb+(l.map DAct.nb).sum) by omega]
theorem nbD_append(l m:List DAct):nbD (l++m)=nbD l+nbD m:=by simp[nbD]
theorem boxesD_append(l m:List DAct):boxesD (l++m)=boxesD l++boxesD m:=by simp[boxesD]
theorem rowD_get(g:Nat→Nat):∀(l:List DAct) (k i:Nat) (h:i<l.length),((rowD g k l).drop (i*2)).take 2=l[i].fn g (k+nbD (l.take i))
 | x::l,k,0,_=>by
   simp only[rowD,Nat.zero_mul,List.drop_zero,List.getElem_cons_zero,List.take_zero]
   rw[List.take_left' (by simp)];rfl
 | x::l,k,i+1,h=>by
   have ih:=rowD_get g l (k+x.nb) i (by simpa using h)
   rw[show (i+1)*2=2+i*2 by omega]
   simp only[rowD,List.getElem_cons_succ,List.take_succ_cons]
   rw[←List.drop_drop,List.drop_left' (by simp),ih]
   simp only[nbD,s1Z,List.sum_cons]
   rw[show k+x.nb+((l.take i).map DAct.nb).sum=k+(x.nb+((l.take i).map DAct.nb).sum) by omega]
theorem boxesD_get:∀(l:List DAct) (i:Nat) (h:i<l.length) (q:Nat),q<(l[i]).nb→(boxesD l)[nbD (l.take i)+q]? = (l[i].boxes)[q]?
 | x::l,0,_,q,hq=>by
   simp only[boxesD,List.flatMap_cons,List.take_zero,List.getElem_cons_zero,nbD,List.map_nil,List.sum_nil,s8Z]at hq ⊢
   rw[q4Z (by simpa using hq)]
 | x::l,i+1,h,q,hq=>by
   have ih:=boxesD_get l i (by simpa using h) q (by simpa using hq)
   simp only[boxesD,List.flatMap_cons,List.take_succ_cons,List.getElem_cons_succ,nbD,s1Z,List.sum_cons]at ih ⊢
   rw[q5Z (by simp;omega),←ih]
   congr 1
   simp;omega
def FD.blks(f:FD):AHeap:=.cells true [.map 1,.map 2,.sl 3 0 f.acts.length 2 false,.int .i64 f.last]::.map (entsA f.d)::.map (entsA f.now)::.cells true (rowD (fun i=>4+i) 0 f.acts)::boxesD f.acts
theorem reAs_append(g:Nat→Nat):∀(l m:List AV),reAs g (l++m)=reAs g l++reAs g m
 | [],m=>rfl
 | x::l,m=>by simp[reAs,reAs_append g l m]
theorem reAs_rowD(h g:Nat→Nat):∀(l:List DAct) (k:Nat),reAs h (rowD g k l)=rowD (fun i=>h (g i)) k l
 | [],_=>rfl
 | x::l,k=>by
   rw[rowD,reAs_append,reAs_rowD h g l,rowD]
   congr 1
   cases x <;> simp[DAct.fn,reAs,reA]
theorem reB_boxes(g:Nat→Nat)(l:List DAct):(boxesD l).map (reB g)=boxesD l:=by
 have:∀B∈boxesD l,reB g B=B:=by
   intro B hB;obtain⟨x,-,hx⟩:=List.mem_flatMap.1 hB
   cases x <;> simp[DAct.boxes,boxA]at hx
   · rcases hx with rfl | rfl <;> rfl
   · rcases hx with rfl | rfl | rfl <;> rfl
   · subst hx;rfl
 rw[List.map_congr_left this];simp
theorem rowD_congr{g g':Nat→Nat}(h:∀i,g i=g' i)(k:Nat)(l:List DAct):rowD g k l=rowD g' k l:=by
 have:g=g':=funext h;rw[this]
theorem open_fd(f:FD)(H:AHeap)(b:Nat):openH H b f.blks=H.set b (.cells true [.map H.length,.map (H.length+1),.sl (H.length+2) 0 f.acts.length 2 false,.int .i64 f.last]) ++
   (.map (entsA f.d)::.map (entsA f.now)::.cells true (rowD (fun i=>H.length+3+i) 0 f.acts)::boxesD f.acts):=by
 unfold openH;simp only[FD.blks,List.getD_cons_zero,List.drop_succ_cons,List.drop_zero,s1Z,reB_ents,reB_boxes]
 have e1:reB (openG b H.length) (.cells true (rowD (fun i=>4+i) 0 f.acts))=.cells true (rowD (fun i=>H.length+3+i) 0 f.acts):=by
   simp only[reB];rw[reAs_rowD]
   rw[rowD_congr fun i=>?_]
   simp only[openG]
   rw[if_neg (by omega)];omega
 rw[e1];simp[reB,reAs,reA,openG]
theorem AWs_append{rn:List Nat}:∀{a b c d:List AV},AWs rn a b→AWs rn c d→AWs rn (a++c) (b++d)
 | [],[],_,_,_,h=>h
 | _::_,_::_,_,_,h,h'=>⟨h.1,AWs_append h.2 h'⟩
 | [],_::_,_,_,h,_=>h.elim
 | _::_,[],_,_,h,_=>h.elim
theorem AWs_rowD(rs:List Nat)(g g':Nat→Nat):∀(l:List DAct) (k:Nat),(∀i,k≤i→i<k+nbD l→rs[g i]? = some (g' i))→AWs rs (rowD g k l) (rowD g' k l)
 | [],_,_=>trivial
 | x::l,k,h=>by
   refine AWs_append ?_ (AWs_rowD rs g g' l (k+x.nb) fun i h1 h2=>h i (by omega) (by simp only[nbD,s1Z,List.sum_cons]at h2 ⊢;omega))
   cases x with
   | cre a n =>
     have h0:=h k (qnZ _) (by simp[nbD,DAct.nb];omega)
     have h1:=h (k+1) (by omega) (by simp[nbD,DAct.nb];omega)
     exact⟨rfl,⟨rfl,trivial,⟨h0,rfl⟩,⟨h1,rfl⟩,trivial⟩,trivial⟩
   | ren a b n =>
     have h0:=h k (qnZ _) (by simp[nbD,DAct.nb];omega)
     have h1:=h (k+1) (by omega) (by simp[nbD,DAct.nb];omega)
     have h2:=h (k+2) (by omega) (by simp[nbD,DAct.nb];omega)
     exact⟨rfl,⟨rfl,trivial,⟨h0,rfl⟩,⟨h1,rfl⟩,⟨h2,rfl⟩,trivial⟩,trivial⟩
   | rem a =>
     have h0:=h k (qnZ _) (by simp[nbD,DAct.nb];omega)
     exact⟨rfl,⟨rfl,trivial,⟨h0,rfl⟩,trivial⟩,trivial⟩
theorem box_cases{l:List DAct}{B:ABlk}(h:B∈boxesD l):∃x,B=boxA x∧flatA x=true:=by
 obtain⟨x,-,hx⟩:=List.mem_flatMap.1 h
 cases x <;> simp only[DAct.boxes,qwZ,rtZ,or_false]at hx
 · rcases hx with rfl | rfl <;> exact⟨_,rfl,rfl⟩
 · rcases hx with rfl | rfl | rfl <;> exact⟨_,rfl,rfl⟩
 · exact⟨_,hx,rfl⟩
theorem AWg_bx(rs:List Nat)(H:AHeap):∀(X:List ABlk) (bs:List Nat),bs.length=X.length→(∀B∈X,∃x,B=boxA x)→(∀(i b:Nat) (B:ABlk),bs[i]? = some b→X[i]? = some B→H[b]? = some B)→AWg rs H X bs
 | [],bs,h,_,_=>by
   have:bs=[]:=List.eq_nil_of_length_eq_zero (by simpa using h)
   subst this;trivial
 | B::X,b::bs,h,hc,hr=>by
   have h0:=hr 0 b B rfl rfl;simp only[AWg]
   refine ⟨?_,AWg_bx rs H X bs (by simpa using h) (fun C hC=>hc C (qiZ _ hC)) fun i b C h1 h2=>hr (i+1) b C (by simpa using h1) (by simpa using h2)⟩
   split
   · rw[q2Z,h0]
     obtain⟨x,rfl⟩:=hc B (qhZ ..);exact⟨rfl,rfl⟩
   · trivial
 | B::X,[],h,_,_=>by simp at h
theorem Aft.closeFD{n0:Nat}{F:List AV}{H:AHeap}{K:List AV→AHeap→Prop}(f:FD)(b m1 m2 r1:Nat)(bs:List Nat)(g:Nat→Nat){x:AV}{o:Bool}
   (hb:H[b]? = some (.cells true [.map m1,.map m2,x,.int .i64 f.last])) (hx:AW (b::m1::m2::r1::bs) (.sl 3 0 f.acts.length 2 false) x)
   (h1:H[m1]? = some (.map (entsA f.d))) (h2:H[m2]? = some (.map (entsA f.now))) (hr:r1<H.length→H[r1]? = some (.cells true (rowD g 0 f.acts)))
   (hl:bs.length=nbD f.acts) (hg:∀i,i<nbD f.acts→bs[i]? = some (g i)) (hbx:∀(i k:Nat) (B:ABlk),bs[i]? = some k→(boxesD f.acts)[i]? = some B→H[k]? = some B)
   (hnd:(b::m1::m2::r1::bs).Nodup) (hn:n0≤H.length) (h:Aft n0 F (closeH H b [m1,m2,r1] o f.blks) K):Aft n0 F H K:=by
 refine Aft.close (o:=o) (b:=b) (rs:=b::m1::m2::r1::bs) (ks:=[m1,m2,r1]) rfl hnd (q1Z.1 hb).1 ?_ ?_ ⟨_,rfl,rfl⟩ ?_ hn h
 · intro c y hc hcb hy ho
   rcases qwZ.1 hc with e | hc
   · exact absurd e hcb
   rcases qwZ.1 hc with e | hc
   · simp[e]
   rcases qwZ.1 hc with e | hc
   · simp[e]
   rcases qwZ.1 hc with e | hc
   · simp[e]
   obtain⟨i,hi⟩:=List.getElem?_of_mem hc
   have hil:i<(boxesD f.acts).length:=by rw[boxesD_length,←hl];exact (q1Z.1 hi).1
   have hB:=q3Z hil;have:=hbx i c _ hi hB;rw[this]at hy;cases hy;obtain⟨z,hz,_⟩:=box_cases (qcZ hB)
   rw[hz]at ho;cases ho
 · refine ⟨?_,?_,?_,?_,AWg_bx _ _ _ _ (by rw[hl,boxesD_length]) (fun B hB=>by obtain⟨x,h,_⟩:=box_cases hB;exact⟨x,h⟩) hbx⟩
   · split
     · rw[q2Z,hb]
       exact⟨fun h=>h,rfl,rfl,hx,⟨rfl,rfl⟩,trivial⟩
     · trivial
   · split
     · rw[q2Z,h1];exact AWb_ents _ _
     · trivial
   · split
     · rw[q2Z,h2];exact AWb_ents _ _
     · trivial
   · split
     · rename_i hlt
       rw[q2Z,hr hlt]
       refine ⟨fun h=>h,AWs_rowD _ _ _ _ _ fun i _ hi=>?_⟩
       rw[show 4+i=i+1+1+1+1 by omega]
       simp only[r9Z]
       exact hg i (by omega)
     · trivial
 · intro i y hy hd
   match i,hy with
   | 0,hy=>cases hy;rfl
   | 1,hy=>cases hy;rfl
   | 2,hy=>cases hy;rfl
   | 3,hy=>cases hy;rfl
   | i+4,hy =>
     simp only[FD.blks,r9Z]at hy;obtain⟨z,rfl,_⟩:=box_cases (qcZ hy);rfl
theorem rowD_on{g g':Nat→Nat}:∀(l:List DAct) (k:Nat),(∀i,k≤i→i<k+nbD l→g i=g' i)→rowD g k l=rowD g' k l
 | [],_,_=>rfl
 | x::l,k,h=>by
   have ih:=rowD_on l (k+x.nb) fun i h1 h2=>h i (by omega) (by simp only[nbD,s1Z,List.sum_cons]at h2 ⊢;omega)
   have h':∀i,k≤i→i<k+x.nb→g i=g' i:=fun i h1 h2=>h i h1 (by simp only[nbD,s1Z,List.sum_cons];omega)
   simp only[rowD,ih]
   congr 1
   cases x with
   | cre a n =>
     have h0:=h' k (qnZ _) (by simp[DAct.nb])
     have h1:=h' (k+1) (by omega) (by simp[DAct.nb])
     simp[DAct.fn,h0,h1]
   | ren a b n =>
     have h0:=h' k (qnZ _) (by simp[DAct.nb])
     have h1:=h' (k+1) (by omega) (by simp[DAct.nb])
     have h2:=h' (k+2) (by omega) (by simp[DAct.nb])
     simp[DAct.fn,h0,h1,h2]
   | rem a =>
     have h0:=h' k (qnZ _) (by simp[DAct.nb])
     simp[DAct.fn,h0]
theorem Aft.closeFA{n0:Nat}{F:List AV}{H:AHeap}{K:List AV→AHeap→Prop}(f:FD)(x:DAct)(n':Int)(b m1 m2 r1 base:Nat)(qs:List Nat){y:AV}
   (hb:H[b]? = some (.cells true [.map m1,.map m2,y,.int .i64 n'])) (hy:AW (b::m1::m2::r1::(List.range' base (nbD f.acts)++qs)) (.sl 3 0 (f.acts.length+1) 2 false) y)
   (h1:H[m1]? = some (.map (entsA f.d))) (h2:H[m2]? = some (.map (entsA (x.run f.now)))) (hr:H[r1]? = some (.cells true (rowD (fun i=>base+i) 0 f.acts++x.fn (fun i=>qs.getD i 0) 0)))
   (hX:∀(i:Nat) (B:ABlk),(boxesD f.acts)[i]? = some B→H[base+i]? = some B) (hq:∀(i q:Nat) (B:ABlk),qs[i]? = some q→x.boxes[i]? = some B→H[q]? = some B) (hlq:qs.length=x.nb)
   (hnd:(b::m1::m2::r1::qs).Nodup) (hout:∀c∈b::m1::m2::r1::qs,c<base∨base+nbD f.acts≤c) (hn:n0≤H.length)
   (h:Aft n0 F (closeH H b [m1,m2,r1] true (⟨f.d,f.acts++[x],n'⟩:FD).blks) K):Aft n0 F H K:=by
 have hnb:nbD (f.acts++[x])=nbD f.acts+x.nb:=by rw[nbD_append];simp[nbD]
 refine Aft.closeFD (⟨f.d,f.acts++[x],n'⟩:FD) b m1 m2 r1 (List.range' base (nbD f.acts)++qs) (fun i=>if i<nbD f.acts then base+i else qs.getD (i-nbD f.acts) 0) (o:=true) (x:=y) hb ?_ h1 ?_ ?_ ?_ ?_ ?_ ?_ hn h
 · show AW _ (.sl 3 0 (f.acts++[x]).length 2 false) y
   rw[qdZ];exact hy
 · rw[h2]
   simp[FD.now,druns_append,druns]
 · intro _
   rw[hr];simp only[rowD_append]
   congr 3
   · exact rowD_on _ _ fun i _ hi=>by rw[if_pos (by omega)]
   · simp only[rowD,r2Z,s8Z]
     cases x with
     | cre a n=>simp[DAct.fn];omega
     | ren a b n=>simp[DAct.fn];omega
     | rem a=>simp[DAct.fn]
 · simp only[qdZ,List.length_range',hlq,hnb]
 · intro i hi
   simp only[hnb]at hi;by_cases h3:i<nbD f.acts
   · rw[if_pos h3,q4Z (by simpa using h3),List.getElem?_range' h3];simp
   · rw[if_neg h3,q5Z (by simp;omega)]
     simp only[List.length_range']
     have h4:i-nbD f.acts<qs.length:=by omega
     rw[q2Z,q3Z h4];rfl
 · intro i k B e1 e2
   simp only[boxesD_append]at e2;by_cases h3:i<nbD f.acts
   · rw[q4Z (by simpa using h3),List.getElem?_range' h3]at e1
     rw[q4Z (by rw[boxesD_length];exact h3)]at e2
     simp only[Nat.one_mul,Option.some.injEq]at e1;subst e1;exact hX i B e2
   · rw[q5Z (by simp;omega)]at e1
     rw[q5Z (by rw[boxesD_length];omega)]at e2
     simp only[List.length_range',boxesD_length]at e1 e2
     exact hq _ _ B e1 (by simpa[boxesD] using e2)
 · have hin:∀c∈b::m1::m2::r1::qs,c∉List.range' base (nbD f.acts):=by
     intro c hc hm;rw[List.mem_range'_1]at hm
     rcases hout c hc with h | h <;> omega
   simp only[rdZ,qwZ,not_or,qxZ]at hnd ⊢;obtain⟨⟨a1,a2,a3,a4⟩,⟨a5,a6,a7⟩,⟨a8,a9⟩,a10,a11⟩:=hnd
   have i1:=hin b (by simp)
   have i2:=hin m1 (by simp)
   have i3:=hin m2 (by simp)
   have i4:=hin r1 (by simp)
   refine ⟨⟨a1,a2,a3,i1,a4⟩,⟨a5,a6,i2,a7⟩,⟨a8,i3,a9⟩,⟨i4,a10⟩,?_⟩;rw[List.nodup_append]
   refine ⟨List.nodup_range',a11,fun u hu v hv=>?_⟩
   rintro rfl
   exact hin u (by simp[hv]) hu
noncomputable def fdOf(sub:AHeap):Option FD:=by
 classical
 exact if h:∃f:FD,sub=f.blks then some (Classical.choose h) else none
def natB:ABlk→Option AV
 | .obj _ [.cells _ [x]]=>some x
 | _=>none
def actsD:List AV→List ABlk→Option (List DAct)
 | [],_=>some []
 | .str _::.func f _ _::row,bx =>
   if f=174 then
     match bx with
     | a::b::bx=>match natB a,natB b,actsD row bx with
       | some (.int _ n),some (.str k),some l=>some (.cre k n::l)
       | _,_,_=>none
     | _=>none
   else if f=225 then
     match bx with
     | a::b::c::bx=>match natB a,natB b,natB c,actsD row bx with
       | some (.str k),some (.int _ n),some (.str k'),some l=>some (.ren k k' n::l)
       | _,_,_,_=>none
     | _=>none
   else
     match bx with
     | a::bx=>match natB a,actsD row bx with
       | some (.str k),some l=>some (.rem k::l)
       | _,_=>none
     | _=>none
 | _,_=>none
theorem actsD_row(g:Nat→Nat):∀(l:List DAct) (k:Nat),actsD (rowD g k l) (boxesD l)=some l
 | [],_=>rfl
 | x::l,k=>by
   have ih:=actsD_row g l (k+x.nb);simp only[boxesD]at ih
   cases x <;> simp[rowD,DAct.fn,boxesD,DAct.boxes,actsD,natB,boxA,ih]
theorem ents_inj:∀{l m:NM},entsA l=entsA m→l=m
 | [],[],_=>rfl
 | [],_::_,h=>by simp[entsA]at h
 | _::_,[],h=>by simp[entsA]at h
 | (a,x)::l,(b,y)::m,h=>by
   simp only[entsA,s1Z,List.cons.injEq,Prod.mk.injEq,AV.str.injEq,AV.int.injEq,true_and]at h;rw[h.1.1,h.1.2,ents_inj (l:=l) (m:=m) h.2]
theorem blks_inj{f g:FD}(h:f.blks=g.blks):f=g:=by
 obtain⟨d,a,n⟩:=f;obtain⟨d',a',n'⟩:=g;simp only[FD.blks,List.cons.injEq,ABlk.cells.injEq,ABlk.map.injEq,AV.int.injEq,true_and]at h;obtain⟨⟨-,h1,-⟩,h2,h3,h4,h5⟩:=h
 have e1:=actsD_row (fun i=>4+i) a 0
 rw[h4,h5,actsD_row]at e1;cases e1;rw[ents_inj h2,h1]
@[simp] theorem fdOf_blks(f:FD):fdOf f.blks=some f:=by
 unfold fdOf;have h:∃g:FD,f.blks=g.blks:=⟨f,rfl⟩;rw[dif_pos h];have:=Classical.choose_spec h;rw[←blks_inj this]
theorem fdOf_eq{sub:AHeap}{f:FD}(h:fdOf sub=some f):sub=f.blks:=by
 unfold fdOf at h;split at h
 · rename_i hh
   cases h;exact Classical.choose_spec hh
 · cases h
end
end Go.Proofs.YtpmfecnajoojeaaGreatDoor
