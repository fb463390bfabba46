/- Parts of the proof of DiskTells: lemmas, each with its own conditions. -/
import Derived.Test.YtfhidaoiofeooaaGreatY19
set_option maxHeartbeats 64000000
open List renaming getElem?_eq_some_iff → q1Z, getD_eq_getElem?_getD → q2Z, getElem?_eq_getElem → q3Z, getElem?_append_left → q4Z, getElem?_append_right → q5Z, length_cons → q7Z, length_nil → q8Z, cons_append → q9Z, nil_append → qaZ, replicate → qbZ, mem_of_getElem? → qcZ, length_append → qdZ, mem_cons_self → qhZ, mem_cons_of_mem → qiZ, length_take → qjZ, mem_cons → qwZ, mem_append → qxZ, mem_singleton → r1Z, append_nil → r2Z, getElem_mem → r3Z, getElem?_take → r4Z, getElem?_cons_succ → r9Z, getElem?_cons_zero → raZ, flatten_cons → rcZ, nodup_cons → rdZ, mem_map → reZ, map_append → roZ, replicate_succ → rvZ, map_cons → s1Z, getElem?_eq_none → s4Z, all_eq_true → s5Z, flatten_append → sgZ
open Option renaming map_eq_some_iff → qlZ, getD_some → rgZ, map_some → rhZ
open Nat renaming le_refl → qnZ, zero_le → qqZ, add_sub_cancel_left → s3Z, zero_add → s8Z, min_eq_left → sfZ
open Bool renaming and_eq_true → qrZ
open Array renaming getElem?_eq_some_iff → qtZ
open Int renaming toNat_of_nonneg → rqZ, tmod_eq_emod_of_nonneg → rrZ
namespace Go.Proofs.YtfhidaoiofeooaaGreat
open _root_.Go.Proofs.Tryz renaming prog → Pz
set_option maxRecDepth 100000
section
open Go.ChangeShapes Go.WideShapes Go.ChangeAt Go.RowKit
inductive AS where
 | flat (b:Bool) (ts:List CT)
 | rows (ts:List CT)
 deriving DecidableEq
def Zy:List AS->Nat->List AV->zA->Prop
 | [],_,[],[]=>True
 | .flat true ts::ss,k,x::xs,H=>∃ys H1 H2,x=.agg ys/\zAK ts k ys H1/\H=H1++H2/\Zy ss (k+H1.length) xs H2
 | .flat false ts::ss,k,x::xs,H=>∃H1 H2,zAK ts k [x] H1/\H=H1++H2/\Zy ss (k+H1.length) xs H2
 | .rows ts::ss,k,x::xs,H=>∃n ys H1 H2,(n=0/\x=.nils\/x=.slice k 0 n ts.length false)/\n<=maxLen/\zAK (qbZ n ts).flatten (k+1) ys H1/\H=.cells false ys::H1++H2/\Zy ss (k+1+H1.length) xs H2
 | _,_,_,_=>False
def zEb(P:Program)(n:Nat):List TypeId->Option (List AS)
 | []=>some []
 | t::ts=>match zJJ P t,flat P n t with
   | some b,some a=>if P.cellsOf t=a.length then (zEb P n ts).map (.flat b a::·) else none
   | _,none=>match P.underlying t with
     | some (.slice e)=>match flat P n e with
       | some a=>if P.cellsOf e=a.length/\0<a.length then (zEb P n ts).map (.rows a::·) else none
       | none=>none
     | _=>none
   | none,some _=>none
section
variable {H:Type} {enc:TypeId×Value->H} {P:Program} {w:World} {base base':Nat}
theorem zIl{el:List CT}{a:Addr}:∀(m:Nat),(∀i,i<m->∃cs:List Value,All2 (zDY w) el cs/\∀k u,cs[k]? = some u->w.cell? (a.add (i*el.length+k))=some u) ->
   ∃l,All2 (zDY w) (qbZ m el).flatten l/\∀i u,l[i]? = some u->w.cell? (a.add i)=some u
 | 0,_=>⟨[],trivial,fun i u h=>by simp at h⟩
 | m+1,h=>by
   obtain⟨l,h1,h2⟩:=zIl m fun i hi=>h i (by omega)
   obtain⟨cs,g1,g2⟩:=h m (by omega)
   have hl:l.length=m*el.length:=by rw[<-h1.length,zw]
   refine ⟨l++cs,?_,fun i u hi=>?_⟩
   · rw[List.replicate_succ',sgZ]
     simp only[rcZ,List.flatten_nil,r2Z];exact h1.append g1
   · by_cases hlt:i<l.length
     · rw[q4Z hlt]at hi
       exact h2 i u hi
     · rw[q5Z (by omega)]at hi
       have:=g2 _ u hi
       rw[show m*el.length+(i-l.length)=i by omega]at this
       exact this
def zFa(w:World)(k:Nat)(H:zA)(js:List (Option JB)):Prop :=
 ∀j:Inj,(∀i,i<js.length->j (k+i)=(js[i]?).join)->∀(i:Nat) B q,H[i]? = some B->js[i]? = some (some q)->BRel j w B q
theorem zHK{k:Nat}{H1 H2:zA}{js1 js2:List (Option JB)}(hl:js1.length=H1.length)(h1:zFa w k H1 js1)(h2:zFa w (k+H1.length) H2 js2):zFa w k (H1++H2) (js1++js2):=by
 intro j hj i B q hB hq
 have j1:∀i,i<js1.length->j (k+i)=(js1[i]?).join:=fun i hi=>by
   rw[hj i (by simp;omega),q4Z hi]
 have j2:∀i,i<js2.length->j (k+H1.length+i)=(js2[i]?).join:=fun i hi=>by
   rw[show k+H1.length+i=k+(H1.length+i) by omega,hj (H1.length+i) (by simp;omega),q5Z (by omega),hl,s3Z]
 by_cases hi:i<H1.length
 · rw[q4Z hi]at hB
   rw[q4Z (by omega)]at hq
   exact h1 j j1 i B q hB hq
 · rw[q5Z (by omega)]at hB
   rw[q5Z (by omega),hl]at hq
   exact h2 j j2 _ B q hB hq
theorem zIa{H1 H2:zA}(h1:∀(i:Nat) (B:ABlk),H1[i]? = some B->∃l,B=.cells false l)(h2:∀(i:Nat) (B:ABlk),H2[i]? = some B->∃l,B=.cells false l):∀(i:Nat) (B:ABlk),(H1++H2)[i]? = some B->∃l,B=.cells false l:=by
 intro i B hB;by_cases hi:i<H1.length
 · rw[q4Z hi]at hB
   exact h1 i B hB
 · rw[q5Z (by omega)]at hB
   exact h2 _ B hB
theorem zSo{n:Nat}{t e:TypeId}{a:List CT}{v:Value}{fuel:Nat}{x:DataW H×List MemPlace}(k:Nat)(hu:P.underlying t=some (.slice e))(ha:flat P n e=some a)(hcl:P.cellsOf e=a.length)(h0:0<a.length)
   (hx:DataW.trod enc P w base' (fun _=>true) true fuel t [v]=some x) (hE:∀ad len cap,v=.slice (some ad) len cap->zDv w) :
   ∃(m:Nat) (y:AV) (ys:List AV) (H1:zA) (js:List (Option JB)),(m=0/\y=.nils\/y=.slice k 0 m a.length false)/\m<=maxLen/\zAK (qbZ m a).flatten (k+1) ys H1/\js.length=H1.length+1/\zFa w k (.cells false ys::H1) js /\
     (∀j:Inj,(∀i,i<js.length->j (k+i)=(js[i]?).join)->VR j y v)/\(∀(i:Nat) (B:ABlk),(ABlk.cells false ys::H1)[i]? = some B->∃l,B=.cells false l):=by
 have none_ok:∀(p:Option JB),(∀q,p=some q->∃cs T fz,w.heap[q.blk]? = some (.cells cs T fz)/\cs.size=q.size/\q.base<=q.size)->zFa w k [.cells false []] [p]:=by
   intro p hp j _ i B q hB hq
   have hi:i=0:=by
     have:=(q1Z.1 hB).1;simpa using this
   subst hi;cases hB;simp at hq;obtain⟨cs,T,fz,h1,h2,h3⟩:=hp q hq
   exact⟨cs,T,fz,h1,h2,by simpa using h3,fun i x hx=>by simp at hx,fun h=>by cases h⟩
 have one_own:∀(i:Nat) (B:ABlk),[ABlk.cells false []][i]? = some B->∃l,B=.cells false l:=by
   intro i B hB
   have hi:i=0:=by
     have:=(q1Z.1 hB).1;simpa using this
   subst hi;cases hB;exact⟨[],rfl⟩
 rcases Deep.open_slice hu hx with⟨hv1,_⟩ | ⟨ad,len,cap,m,n',D,Pl,hv1,_,hle,hm,hmm,_,hel2⟩
 · obtain rfl:v=.slice none 0 0:=by simpa using hv1
   refine ⟨0,.nils,[],[],[none],.inl ⟨rfl,rfl⟩,qqZ _,trivial,rfl,none_ok none (fun q h=>by cases h),fun j _=>by simp[VR],one_own⟩
 · obtain rfl:v=.slice (some ad) len cap:=by simpa using hv1
   simp at hmm;subst hmm;by_cases hz:m=0
   · subst hz
     obtain rfl:len=0:=by omega
     obtain⟨q,c,T,fz,hq⟩:=hE ad 0 0 rfl
     refine ⟨0,.slice k 0 0 a.length false,[],[],[some ⟨q,0,c.size⟩],.inr rfl,qqZ _,trivial,rfl,none_ok _ (fun q' h=>by cases h;exact⟨c,T,fz,hq,rfl,qqZ _⟩),fun j hj=>?_,one_own⟩
     simp only[VR]
     have:=hj 0 (by simp)
     exact⟨_,ad,0,by simpa using this,rfl,qnZ _,fun h=>(by cases h),hm,.inl rfl⟩
   · obtain⟨l,hl,hc⟩:=zIl (w:=w) (el:=a) (a:=ad) m fun i hi=>by
       obtain⟨cs',hcs',ht⟩:=hel2 i hi;have hk:=zC3 n e a n' cs' _ ha hcl ht
       refine ⟨cs',hk,fun k u hk=>?_⟩
       obtain⟨_,hcl',hce⟩:=World.cells?_some hcs'
       have hkl:k<P.cellsOf e:=by rw[<-hcl'];exact (q1Z.1 hk).1
       have:=hce k hkl;rw[hk]at this;rw[<-hcl];rw[<-this,zF7]
     have hll:l.length=m*a.length:=by rw[<-hl.length,zw]
     have hpos:0<l.length:=by rw[hll];exact Nat.mul_pos (by omega) h0
     have hlast:=hc (l.length-1) l[l.length-1] (by rw[q3Z])
     have hfirst:=hc 0 l[0] (by rw[q3Z])
     have had:=zJZ (w:=w) (x:=ad) (v:=l[0]) (by simpa[Addr.add] using hfirst)
     obtain⟨B,O,S⟩:=ad;cases had
     have hcell:∀(i:Nat) u,w.cell? ⟨B,O+i,none⟩=some u->∃c T fz,w.heap[B]? = some (.cells c T fz)/\c[O+i]? = some u:=by
       intro i u hu;unfold World.cell? at hu;dsimp only at hu;split at hu
       · rename_i c T fz hh
         exact⟨c,T,fz,hh,by simpa using hu⟩
       · cases hu
     obtain⟨c,T,fz,hB,hcl2⟩:=hcell (l.length-1) _ (by rw[<-zBC];exact hlast)
     have hsz:=(qtZ.1 hcl2).1;have htk:=hl.take (len*a.length);rw[zBI _ _ _ hle]at htk
     obtain⟨ys,H1,js,g1,g2,g3,g4,g5⟩:=zEt _ _ (k+1) htk fun v _ ad len cap _=>⟨B,c,T,fz,hB⟩
     have hle2:len*a.length<=m*a.length:=Nat.mul_le_mul_right _ hle
     have hlt:(l.take (len*a.length)).length=len*a.length:=by rw[qjZ,hll];omega
     refine ⟨len,.slice k 0 len a.length false,ys,H1,some ⟨B,O,c.size⟩::js,.inr rfl,by omega,g1,by simp[g2],fun j hj i B' q hB' hq=>?_,fun j hj=>?_,fun i B' hB'=>?_⟩
     · have hj2:∀i,i<js.length->j (k+1+i)=(js[i]?).join:=fun i hi=>by
         have:=hj (i+1) (by simp;omega)
         rw[show k+1+i=k+(i+1) by omega,this]
         simp
       cases i with
       | zero =>
         simp at hB' hq
         subst hB';subst hq
         have hv:=g4 j hj2
         have hyl:ys.length=len*a.length:=by rw[hv.length,hlt]
         refine ⟨c,T,fz,hB,rfl,by dsimp only;omega,fun i x hx=>?_,fun h=>by cases h⟩
         have hi:i<(l.take (len*a.length)).length:=by rw[hlt,<-hyl];exact (q1Z.1 hx).1
         have hr:=(VRs_iff.1 hv).2 i x _ hx (q3Z hi);obtain⟨u,hu⟩:∃u,(l.take (len*a.length))[i]=u:=⟨_,rfl⟩;rw[hu]at hr
         have hu2:l[i]? = some u:=by
           have:(l.take (len*a.length))[i]? = some u:=by rw[q3Z hi,hu]
           rw[r4Z]at this;split at this
           · exact this
           · cases this
         obtain⟨c',T',fz',hB2,hu'⟩:=hcell i u (by rw[<-zBC];exact hc i u hu2)
         rw[hB]at hB2;cases hB2;exact⟨u,hu',hr⟩
       | succ i =>
         exact g3 i B' (some q) (by simpa using hB') (by simpa using hq) (by simp) j q rfl
     · simp only[VR]
       have:=hj 0 (by simp)
       exact⟨_,_,m,by simpa using this,rfl,hle,fun h=>(by cases h),hm,.inr ⟨rfl,by dsimp only;omega⟩⟩
     · cases i with
       | zero=>simp at hB';exact⟨_,hB'.symm⟩
       | succ i=>exact g5 i B' (by simpa using hB')
theorem zRp{t e:TypeId}{v:Value}(hu:P.underlying t=some (.slice e))(hv:Value.okWide P w .any base t v):v.cells=#[v]/\∀a len cap,v=.slice (some a) len cap->zDv w:=by
 have hb:zJJ P t=some false:=by unfold zJJ;rw[hu]
 obtain⟨_,h2,h3⟩:=zNR hb hv
 refine ⟨h2 rfl,fun a len cap hva=>h3 v (by rw[h2 rfl];simp) a len cap hva⟩
theorem zVA{k:Nat}{H:zA}{js:List (Option JB)}(h:∀(i:Nat) B p,H[i]? = some B->js[i]? = some p->p≠none->∀j q,p=some q->BRel j w B q):zFa w k H js :=
 fun j _ i B q hB hq=>h i B (some q) hB hq (by simp) j q rfl
theorem zGa:∀(n:Nat) (ts:List TypeId) (ss:List AS) (vs:List Value) (ds:List (DataW H)) (ps:List MemPlace) (k:Nat),zEb P n ts=some ss->DataW.TrodAll enc P w base' (fun _=>true) true ts vs ds ps ->
   (∀(j:Nat) t v,ts[j]? = some t->vs[j]? = some v->Value.okWide P w .any base t v) ->
   ∃(xs:List AV) (H:zA) (js:List (Option JB)),Zy ss k xs H/\js.length=H.length/\zFa w k H js /\
     (∀j:Inj,(∀i,i<js.length->j (k+i)=(js[i]?).join)->VRs j xs vs)/\(∀(i:Nat) (B:ABlk),H[i]? = some B->∃l,B=.cells false l)
 | n,[],ss,vs,ds,ps,k,hs,hA,_=>by
   cases hs;obtain⟨rfl,_,_⟩:=trodAll_nil hA
   exact⟨[],[],[],trivial,rfl,fun j _ i B q h=>by simp at h,fun j _=>by simp[VRs],fun i B h=>by simp at h⟩
 | n,t::ts,ss,vs,ds,ps,k,hs,hA,hv=>by
   unfold zEb at hs;obtain⟨v,vs',d,ds',p,q,rfl,_,_,⟨fuel,hT⟩,hA'⟩:=trodAll_cons hA;split at hs
   · rename_i b a hb ha
     split at hs
     · rename_i hcl
       obtain⟨ss',hss,rfl⟩:=qlZ.1 hs;obtain⟨f1,f2,f3⟩:=zNR hb (hv 0 t v rfl rfl);have hc:=zC3 (w:=w) n t a fuel _ _ ha hcl hT;obtain⟨ys,H1,js1,g1,g2,g3,g4,g5⟩:=zEt a _ k hc f3
       obtain⟨xs,H2,js2,k1,k2,k3,k4,k5⟩:=zGa n ts ss' vs' ds' q (k+H1.length) hss hA' fun j t' v' ht hv'=>hv (j+1) t' v' (by simpa using ht) (by simpa using hv')
       have blk:=zHK g2 (zVA (k:=k) g3) k3;have own:=zIa g5 k5
       have j1:∀j:Inj,(∀i,i<(js1++js2).length->j (k+i)=((js1++js2)[i]?).join)->VRs j ys v.cells.toList/\VRs j xs vs':=by
         intro j hj
         refine ⟨g4 j fun i hi=>?_,k4 j fun i hi=>?_⟩
         · rw[hj i (by simp;omega),q4Z hi]
         · rw[show k+H1.length+i=k+(H1.length+i) by omega,hj (H1.length+i) (by simp;omega),q5Z (by omega),g2,s3Z]
       cases b with
       | true =>
         obtain⟨cs,rfl⟩:=f1 rfl
         refine ⟨.agg ys::xs,H1++H2,js1++js2,⟨ys,H1,H2,rfl,g1,rfl,k1⟩,by simp[g2,k2],blk,fun j hj=>?_,own⟩
         obtain⟨h1,h2⟩:=j1 j hj
         exact⟨_,vs',rfl,by simp only[VR];exact⟨cs,rfl,h1⟩,h2⟩
       | false =>
         have e:=f2 rfl;rw[e]at j1 hc
         have hy:∃y,ys=[y]:=by
           have h1:=hc.length;simp at h1
           cases a with
           | nil=>simp at h1
           | cons c a =>
             cases a with
             | cons _ _=>simp at h1
             | nil =>
               cases c with
               | one p=>cases ys with
                 | nil=>simp[zAK]at g1
                 | cons y ys=>cases ys with
                   | nil=>exact⟨y,rfl⟩
                   | cons _ _=>simp[zAK]at g1
               | row el=>cases ys with
                 | nil=>simp[zAK]at g1
                 | cons y ys=>cases H1 with
                   | nil=>simp[zAK]at g1
                   | cons B H1=>cases ys with
                     | nil=>exact⟨y,rfl⟩
                     | cons _ _=>simp[zAK]at g1
         obtain⟨y,rfl⟩:=hy
         refine ⟨y::xs,H1++H2,js1++js2,⟨H1,H2,g1,rfl,k1⟩,by simp[g2,k2],blk,fun j hj=>?_,own⟩
         obtain⟨h1,h2⟩:=j1 j hj;simp[VRs]at h1;exact⟨v,vs',rfl,h1,h2⟩
     · cases hs
   · split at hs
     rotate_left
     · cases hs
     rename_i e hu;split at hs;rotate_left
     · cases hs
     rename_i a ha;split at hs;rotate_left
     · cases hs
     rename_i hcl;obtain⟨ss',hss,rfl⟩:=qlZ.1 hs;obtain⟨f2,f3⟩:=zRp hu (hv 0 t v rfl rfl);rw[f2]at hT;obtain⟨m,y,ys,H1,js1,g0,gm,g1,g2,g3,g4,g5⟩:=zSo (w:=w) k hu ha hcl.1 hcl.2 hT f3
     obtain⟨xs,H2,js2,k1,k2,k3,k4,k5⟩:=zGa n ts ss' vs' ds' q (k+1+H1.length) hss hA' fun j t' v' ht hv'=>hv (j+1) t' v' (by simpa using ht) (by simpa using hv')
     have g2':js1.length=(ABlk.cells false ys::H1).length:=by rw[g2];rfl
     have hlen:k+(ABlk.cells false ys::H1).length=k+1+H1.length:=by simp;omega
     have blk:=zHK g2' g3 (by rw[hlen];exact k3)
     have own:=zIa g5 k5
     refine ⟨y::xs,(.cells false ys::H1)++H2,js1++js2,⟨m,ys,H1,H2,g0,gm,g1,rfl,k1⟩,by simp[g2,k2];omega,blk,fun j hj=>?_,own⟩
     refine ⟨v,vs',rfl,g4 j fun i hi=>?_,k4 j fun i hi=>?_⟩
     · rw[hj i (by simp;omega),q4Z hi]
     · rw[show k+1+H1.length+i=k+(js1.length+i) by omega,hj (js1.length+i) (by simp;omega),q5Z (by omega),s3Z]
   · cases hs
theorem zRQ{f:FuncId}{n:Nat}{ts:List TypeId}{ss:List AS}{args:Array Value}{ds:List (DataW H)}{ps:List MemPlace}(hs:zEb P n ts=some ss)
   (hA:DataW.TrodAll enc P w base' (fun _=>true) true ts args.toList ds ps) (hv:∀(j:Nat) t v,ts[j]? = some t->args[j]? = some v->Value.okWide P w .any base t v)
   (h:∀xs H,Zy ss 0 xs H->∃H',Ct P f xs H (.bool true) H') (hg:GloW w:=by exact zRq _) :
   Calls P f args w fun e w'=>e=.returned (.bool true)/\Below w.heap.size w w':=by
 obtain⟨xs,H,js,h1,h2,h3,h4,h5⟩:=zGa (base:=base) n ts ss args.toList ds ps 0 hs hA fun j t v ht hv'=>hv j t v ht (by simpa using hv')
 obtain⟨H',hct⟩:=h xs H h1
 let j0:Inj:=⟨fun i=>(js[i]?).join,fun _=>[],fun _=>[]⟩
 have hj0:∀i,j0 i=(js[i]?).join:=fun _=>rfl
 have hro:H.all zHd=true:=by
   rw[s5Z];intro y hy;obtain⟨b,hb⟩:=List.getElem?_of_mem hy;obtain⟨l,rfl⟩:=h5 b y hb;rfl
 have hR:R j0 H w:=by
   refine R.ro (fun b hb=>?_) (fun b x p hb hp=>?_) hro hg
   · rw[hj0,s4Z (by omega)];rfl
   · obtain⟨q,hq,e⟩:=Option.join_eq_some_iff.1 hp |> fun h=>(⟨some p,h,rfl⟩:∃q,js[b]? = some q/\q=some p)
     exact h3 j0 (fun i hi=>by rw[s8Z,hj0]) b x p hb (by rw[hq,e])
 refine (hct _ w args hR (h4 _ fun i hi=>by rw[s8Z,hj0])).mono ?_
 rintro e w' ⟨cv,j',rfl,hv1,hst⟩;simp only[VR]at hv1;subst hv1
 refine ⟨rfl,hst.keeps.os,hst.keeps.tape,hst.keeps.output,hst.keeps.size,fun c hc=>hst.keeps.block c hc fun ⟨b,y,p,hb,hy,hp,_⟩=>?_⟩
 obtain⟨l,rfl⟩:=h5 b y hb;cases hy
end
end
theorem zKs{p:Prim}{ss:List AS}{k:Nat}{xs:List AV}{H:zA}(h:Zy (.flat false [.one p]::ss) k xs H):∃x ys,xs=x::ys/\zER p x/\Zy ss k ys H:=by
 cases xs with
 | nil=>exact h.elim
 | cons x ys =>
   obtain⟨H1,H2,h1,rfl,h2⟩:=h;simp only[zAK]at h1;obtain⟨h3,h4⟩:=h1
   cases H1 with
   | nil=>exact⟨x,ys,rfl,h3,h2⟩
   | cons _ _=>exact h4.elim
theorem zLt{el:List Prim}{ss:List AS}{k:Nat}{xs:List AV}{H:zA}(h:Zy (.flat false [.row el]::ss) k xs H) :
   ∃x ys l n H2,xs=x::ys/\H=.cells false l::H2/\(n=0/\x=.nils\/x=.slice k 0 n el.length false)/\n<=maxLen/\All2 zER (qbZ n el).flatten l/\Zy ss (k+1) ys H2:=by
 cases xs with
 | nil=>exact h.elim
 | cons x ys =>
   obtain⟨H1,H2,h1,rfl,h2⟩:=h
   cases H1 with
   | nil=>simp[zAK]at h1
   | cons B H1 =>
     simp only[zAK]at h1;obtain⟨⟨l,n,rfl,h3,h4,h5⟩,h6⟩:=h1
     cases H1 with
     | nil=>exact⟨x,ys,l,n,H2,rfl,rfl,h3,h4,h5,h2⟩
     | cons _ _=>exact h6.elim
theorem zJq{ts:List CT}{ss:List AS}{k:Nat}{xs:List AV}{H:zA}(h:Zy (.rows ts::ss) k xs H) :
   ∃x xs' n ys H1 H2,xs=x::xs'/\(n=0/\x=.nils\/x=.slice k 0 n ts.length false)/\n<=maxLen/\zAK (qbZ n ts).flatten (k+1) ys H1/\H=.cells false ys::H1++H2/\Zy ss (k+1+H1.length) xs' H2:=by
 cases xs with
 | nil=>exact h.elim
 | cons x xs =>
   obtain⟨n,ys,H1,H2,h1,h2,h3,h4,h5⟩:=h;exact⟨x,xs,n,ys,H1,H2,rfl,h1,h2,h3,h4,h5⟩
theorem zKp{k:Nat}{xs:List AV}{H:zA}(h:Zy [] k xs H):xs=[]/\H=[]:=by
 cases xs <;> cases H <;> first | exact⟨rfl,rfl⟩ | exact h.elim
theorem zQb{P:Program}{f:FuncId}{args args0:List AV}{H H0 H':zA}{v:AV}(hw:Weak H.length args H args0 H0)(h:Ct P f args0 H0 v H'):Ct P f args H v H':=by
 intro j w cargs hR hargs;obtain⟨j',hs,hF'⟩:=hw.step (qnZ _) (Step.refl hR (qnZ _)) hargs;refine (h j' w cargs hs.rel hF').mono ?_;rintro e w' ⟨cv,j2,rfl,h1,h2⟩;exact⟨cv,j2,rfl,h1,hs.trans h2 hs.len⟩
section
open Go Go.Lib
attribute [-simp] zN zr ZI zT ZL
structure DA where
 w:Nat
 a:Nat
 b:Nat
 s:List UInt8
 n:Int
 l:List Int
def DA.ok(x:DA):Prop:=x.w<=255/\x.a<=255/\x.b<=255/\x.s.length<=9223372036854775807/\(-32768<=x.n/\x.n<=32767)/\x.l.length<=9223372036854775807/\∀c∈x.l,0<=c/\c<=65535
def daA(k:Nat)(x:DA):List AV:=[.int .u8 x.w,.int .u8 x.a,.int .u8 x.b,.str x.s,.int .i16 x.n,.sl k 0 x.l.length 1 false]
def zBn:Nat->List DA->List AV
 | _,[]=>[]
 | k,x::l=>daA k x++zBn (k+1) l
def zFc(l:List DA):zA:=l.map fun x=>.cells false (zp x.l)
@[simp] theorem zD2:∀(k:Nat) (l:List DA),(zBn k l).length=l.length*6
 | _,[]=>rfl
 | k,x::l=>by simp[zBn,daA,zD2 (k+1) l];omega
theorem zQN:∀(l:List DA) (k i:Nat) (h:i<l.length),((zBn k l).drop (i*6)).take 6=daA (k+i) l[i]
 | a::l,k,0,_=>by simp[zBn,daA]
 | a::l,k,i+1,h=>by
   have:=zQN l (k+1) i (by simpa using h)
   rw[show (i+1)*6=6+i*6 by omega,show k+(i+1)=k+1+i by omega]
   simp only[zBn,List.getElem_cons_succ];rw[<-List.drop_drop];simpa[daA] using this
theorem zIU:∀(l:List DA) (k N:Nat),k+l.length<=N->ze N (zBn k l)=true
 | [],_,_,_=>rfl
 | d::l,k,N,h=>by
   simp only[q7Z]at h;simp only[zBn,daA,q9Z,qaZ,ze,below,qrZ,decide_eq_true_eq,Bool.true_and]
   exact⟨by omega,zIU l (k+1) N (by omega)⟩
theorem zNd:∀{n:Nat} {l:List AV},All2 zER (qbZ n [Prim.int .u16]).flatten l->∃zs:List Int,l=zp zs/\zs.length=n/\∀z∈zs,0<=z/\z<=65535
 | 0,[],_=>⟨[],rfl,rfl,by simp⟩
 | n+1,x::l,h=>by
   rw[rvZ,rcZ]at h;obtain⟨a,rfl,ha⟩:=h.1;obtain⟨zs,rfl,hl,hq⟩:=zNd (n:=n) (l:=l) h.2;have ba:=bounds_u16 ha
   refine ⟨a::zs,rfl,by simp[hl],fun x hx=>?_⟩
   rcases qwZ.1 hx with rfl | hx
   · exact⟨by omega,by omega⟩
   · exact hq x hx
 | 0,_::_,h=>h.elim
 | n+1,[],h=>by
   rw[rvZ,rcZ]at h;exact h.elim
theorem zPG{el:List Prim}{ts:List CT}{k:Nat}{xs:List AV}{H:zA}(h:zAK (.row el::ts) k xs H) :
   ∃x ys l n H2,xs=x::ys/\H=.cells false l::H2/\(n=0/\x=.nils\/x=.slice k 0 n el.length false)/\n<=maxLen/\All2 zER (qbZ n el).flatten l/\zAK ts (k+1) ys H2:=by
 cases xs with
 | nil=>exact h.elim
 | cons x ys =>
   cases H with
   | nil=>exact h.elim
   | cons B H1 =>
     simp only[zAK]at h;obtain⟨⟨l,n,rfl,h3,h4,h5⟩,h6⟩:=h;exact⟨x,ys,l,n,H1,rfl,rfl,h3,h4,h5,h6⟩
abbrev zVw:List CT:=[.one (.int .u8),.one (.int .u8),.one (.int .u8),.one .str,.one (.int .i16),.row [.int .u16]]
theorem zQn:∀(n k:Nat) (ys:List AV) (H:zA),zAK (qbZ n zVw).flatten k ys H ->
   ∃l:List DA,l.length=n/\(∀x∈l,x.ok)/\H=zFc l/\∀rn:List Nat,(∀i,i<n->rn[k+i]? = some (k+i))->AWs rn (zBn k l) ys
 | 0,k,ys,H,h=>by
   obtain⟨rfl,rfl⟩:=zRc h
   exact⟨[],rfl,by simp,rfl,fun _ _=>by simp[zBn,AWs]⟩
 | n+1,k,ys,H,h=>by
   rw[rvZ,rcZ]at h;obtain⟨x1,w1,rfl,⟨a,rfl,ha⟩,k1⟩:=zC5 h;obtain⟨x2,w2,rfl,⟨b,rfl,hb⟩,k2⟩:=zC5 k1;obtain⟨x3,w3,rfl,⟨c,rfl,hc⟩,k3⟩:=zC5 k2;obtain⟨x4,w4,rfl,⟨s,rfl,hs⟩,k4⟩:=zC5 k3;obtain⟨x5,w5,rfl,⟨z,rfl,hz⟩,k5⟩:=zC5 k4;obtain⟨x6,w6,l,m,H3,rfl,rfl,hx,hmx,hl,k6⟩:=zPG k5;obtain⟨ns,rfl,hn,hnb⟩:=zNd hl;subst hn;have ba:=bounds_u8 ha;have bb:=bounds_u8 hb;have bc:=bounds_u8 hc;have bz:=bounds_i16 hz;obtain⟨ds,e1,e2,e4,e5⟩:=zQn n (k+1) w6 H3 k6
   refine ⟨⟨a.toNat,b.toNat,c.toNat,s,z,ns⟩::ds,by simp[e1],fun d hd=>?_,by simp[zFc,e4],fun rn hr=>?_⟩
   · rcases qwZ.1 hd with rfl | hd
     · refine ⟨by dsimp only;omega,by dsimp only;omega,by dsimp only;omega,by unfold maxLen at hs;dsimp only;omega,by dsimp only;omega,by unfold maxLen at hmx;dsimp only;omega,hnb⟩
     · exact e2 d hd
   · have h0:=hr 0 (by omega)
     have hrest:=e5 rn fun i hi=>by
       have:=hr (i+1) (by omega)
       rwa [show k+(i+1)=k+1+i by omega]at this
     have t1:((a.toNat:Nat):Int)=a:=by omega
     have t2:((b.toNat:Nat):Int)=b:=by omega
     have t3:((c.toNat:Nat):Int)=c:=by omega
     simp only[zBn,daA,q9Z,qaZ,AWs]
     refine ⟨by simp[AW,t1],by simp[AW,t2],by simp[AW,t3],by simp[AW],by simp[AW],?_,hrest⟩
     rcases hx with⟨h1,rfl⟩ | rfl
     · simp[AW,h1]
     · simpa[AW] using h0
def nmD(s:List UInt8)(m:Nat):List UInt8:=if m % 16=15 then s else [[97],[98],[99],[108,111,103]].getD (m % 4) []
theorem zTP(x:DA)(L:Nat)(m:Nat)(hm:m<=255):Ct Pz 39 [.agg [.int .u8 x.w,.int .u8 x.a,.int .u8 x.b,.str x.s,.int .i16 x.n,.sl 0 0 L 1 false],.int .u8 m] [.dead] (.str (nmD x.s m)) [.dead]:=by
 obtain⟨q,hq⟩:∃q,m % 16=q:=⟨_,rfl⟩;obtain⟨p,hp⟩:∃p,m % 4=p:=⟨_,rfl⟩
 have t1:(m:Int).tmod 16=q:=by rw[rrZ (by omega)];omega
 have t2:(m:Int).tmod 4=p:=by rw[rrZ (by omega)];omega
 have w1:IntKind.u8.wrap (q:Int)=q:=zQU (by omega) (by omega)
 have w2:IntKind.u8.wrap (p:Int)=p:=zQU (by omega) (by omega)
 unfold nmD;rw[hq,hp];refine zG Tryz.func39 rfl ?_;simp only[Tryz.ntmps39,q7Z,q8Z,Nat.reduceAdd,Nat.reduceSub,qbZ,q9Z,qaZ]
 refine Sim.step hmix zC (n:=0) (by simp;exact⟨rfl,rfl⟩) (by simp) ?_
 by_cases h:q=15
 · subst h
   rw[if_pos rfl]
   refine Sim.exec hmix zC (n:=0) (by simp +decide [t1];exact⟨rfl,rfl,rfl⟩) (by simp) ?_
   exact⟨.inr rfl,_,by simp[Tryz.f39] <;> rfl,Weak.mk' [0] (by decide) (by decide) (by simp) (by simp[AWb])⟩
 · rw[if_neg h]
   have h':((q:Int)==15)=false:=by simp;omega
   refine Sim.step hmix zC (n:=0) (by simp +decide [t1,h'];exact⟨rfl,rfl⟩) (by simp) ?_
   have hp4:p<4:=by omega
   match p,hp4 with
   | 0,_ =>
     refine Sim.exec hmix zC (n:=0) (by simp +decide [t2];exact⟨rfl,rfl,rfl⟩) (by simp) ?_
     exact⟨.inr rfl,_,by simp[Tryz.f39] <;> rfl,Weak.mk' [0] (by decide) (by decide) (by simp) (by simp[AWb])⟩
   | 1,_ =>
     refine Sim.exec hmix zC (n:=0) (by simp +decide [t2];exact⟨rfl,rfl,rfl⟩) (by simp) ?_
     exact⟨.inr rfl,_,by simp[Tryz.f39] <;> rfl,Weak.mk' [0] (by decide) (by decide) (by simp) (by simp[AWb])⟩
   | 2,_ =>
     refine Sim.exec hmix zC (n:=0) (by simp +decide [t2];exact⟨rfl,rfl,rfl⟩) (by simp) ?_
     exact⟨.inr rfl,_,by simp[Tryz.f39] <;> rfl,Weak.mk' [0] (by decide) (by decide) (by simp) (by simp[AWb])⟩
   | 3,_ =>
     refine Sim.exec hmix zC (n:=0) (by simp +decide [t2];exact⟨rfl,rfl,rfl⟩) (by simp) ?_
     exact⟨.inr rfl,_,by simp[Tryz.f39] <;> rfl,Weak.mk' [0] (by decide) (by decide) (by simp) (by simp[AWb])⟩
noncomputable def zBO:zU:=open Classical in fun args H=>match args with
 | [.agg [.int .u8 w,.int .u8 a,.int .u8 b,.str s,.int .i16 _n,.sl q 0 _L 1 false],.int .u8 m]=>if q<H.length/\(0<=w/\0<=a/\0<=b)/\0<=m/\m<=255 then some (.str (nmD s m.toNat),H,[]) else none
 | _=>none
theorem zMh:Sound Pz 39 zBO:=by
 refine ⟨zE Tryz.func39 rfl (by decide),fun args H v H' W hs=>?_,fun args H v H' W hs=>?_⟩ <;> (unfold zBO at hs;split at hs <;> try cases hs) <;> (split at hs <;> cases hs) <;> (rename_i w a b s n q L m hk)
 · obtain⟨hq,⟨h1,h2,h3⟩,h4,h5⟩:=hk
   have:=zTP ⟨w.toNat,a.toNat,b.toNat,s,n,[]⟩ L m.toNat (by omega)
   dsimp only at this;rw[rqZ h1,rqZ h2,rqZ h3,rqZ h4]at this
   have:=zc (H:=H) (args:=[.agg [.int .u8 w,.int .u8 a,.int .u8 b,.str s,.int .i16 n,.sl q 0 L 1 false],.int .u8 m]) this [q] (by simp) (by simp[AW]) ⟨trivial,hq,trivial⟩ rfl
   simpa[zb,ABlk.own,reA] using this
 · exact⟨qnZ _,fun _ _ _=>rfl⟩
theorem zTe(x:List (List UInt8×List UInt8))(hx:x.length<=9223372036854775807):Ct Pz 60 [.sl 0 0 x.length 2 false,.sl 1 0 x.length 2 false] [.cells false (flA x),.cells false (flA x)] (.bool true) [.cells false (flA x),.cells false (flA x)]:=by
 refine zG Tryz.func60 rfl ?_;simp only[Tryz.ntmps60,q7Z,q8Z,Nat.reduceAdd,Nat.reduceSub,qbZ,q9Z,qaZ];obtain⟨m,hm⟩:∃m,x.length=m:=⟨_,rfl⟩;rw[hm]at hx ⊢
 refine Sim.step hmix zC (n:=0) (by simp;exact⟨rfl,rfl⟩) (by simp) ?_
 refine Sim.step hmix zC (n:=0) (by simp;exact⟨rfl,rfl⟩) (by simp) ?_
 refine Sim.seq (Sim.step hmix zC (n:=0) (by simp;exact⟨rfl,rfl⟩) (by simp) ?_)
 refine Sim.mono (Q:=fun e F' H'=>e=.normal/\Weak 2 F' H' (qbZ 26 .top) [.cells false (flA x),.cells false (flA x)]) ?_ ?_
 · refine Sim.block (Sim.loopW (fun i:Nat=>i<=m) (fun i=>[.sl 0 0 m 2 false,.sl 1 0 m 2 false,.top,.top,.top,.int .i64 i]++qbZ 20 .top) (fun _=>[.cells false (flA x),.cells false (flA x)]) (fun i=>m-i) 0 (by simp) (by simp) ?_ fun i hi=>?_)
   · exact Weak.mk' [0,1] (by decide) (by decide) (by simp) (by simp[AWb])
   · by_cases hlt:i<m
     · have hltI:(i:Int)<m:=by omega
       have hilt:i<x.length:=by omega
       obtain⟨e,he⟩:∃e,x[i]=e:=⟨_,rfl⟩;have hg:=zCY x i hilt;rw[he]at hg
       have k1:i*2+2<=m*2:=by omega
       have y1:IntKind.i64.wrap ((i:Int)+1)=i+1:=zV (by omega) (by omega)
       refine Sim.step hmix zC (n:=0) (by simp[hltI];exact⟨rfl,rfl⟩) (by simp) ?_
       refine Sim.seq (Sim.block ?_)
       refine Sim.exec hmix zC (n:=0) (by simp +decide [hlt,hm,hg,k1];first | exact⟨rfl,rfl,rfl⟩ | exact⟨by kernel_rfl,rfl,rfl,rfl⟩) (by simp) ?_
       dsimp only
       refine Sim.exec hmix zC (n:=0) (by simp[y1];exact⟨rfl,rfl,rfl⟩) (by simp) ?_
       dsimp only
       exact⟨i+1,by omega,Weak.mk' [0,1] (by decide) (by decide) (by simp) (by simp[AWb]),by omega⟩
     · have hin:i=m:=by omega
       subst hin
       refine Sim.exec hmix zC (n:=0) (by simp;exact⟨rfl,rfl,rfl⟩) (by simp) ?_
       dsimp only;rw[if_pos rfl]
       exact⟨by trivial,Weak.mk' [0,1] (by decide) (by decide) (by simp) (by simp[AWb])⟩
 rintro e F' H' hlen1 ⟨rfl,hwk⟩;dsimp only;refine Sim.weak hwk hlen1 ?_;clear hwk hlen1;simp only[qbZ]
 refine Sim.exec hmix zC (n:=0) (by simp;exact⟨rfl,rfl,rfl⟩) (by simp) ?_
 exact⟨.inr rfl,_,by simp[Tryz.f60] <;> rfl,Weak.mk' [0,1] (by decide) (by decide) (by simp) (by simp[AWb])⟩
noncomputable def flD(l:List AV):Option (List (List UInt8×List UInt8)):=open Classical in if h:∃x,l=flA x then some h.choose else none
theorem zGn{l:List AV}{x:List (List UInt8×List UInt8)}(h:flD l=some x):l=flA x:=by
 unfold flD at h;split at h
 · rename_i hx
   cases h;exact hx.choose_spec
 · cases h
theorem zQI:∀{x y:List (List UInt8×List UInt8)},flA x=flA y->x=y
 | [],[],_=>rfl
 | [],_::_,h=>by simp[flA]at h
 | _::_,[],h=>by simp[flA]at h
 | (a,b)::x,(c,d)::y,h=>by
   simp only[flA,List.cons.injEq,AV.str.injEq]at h;rw[h.1,h.2.1,zQI h.2.2]
@[simp] theorem zXD(x:List (List UInt8×List UInt8)):flD (flA x)=some x:=by
 unfold flD;have h:∃y,flA x=flA y:=⟨x,rfl⟩;rw[dif_pos h];exact congrArg some (zQI h.choose_spec).symm
noncomputable def zDG:zU:=open Classical in fun args H=>match args with
 | [.sl b 0 n 2 _c,.sl b2 0 m 2 _c2]=>match H[b]?,H[b2]? with
   | some (.cells _ l),some (.cells _ l2)=>match flD l with
     | some x=>if n=x.length/\m=x.length/\l2=l/\b≠b2/\x.length<=9223372036854775807 then some (.bool true,H,[]) else none
     | none=>none
   | _,_=>none
 | _=>none
theorem zMf:Sound Pz 60 zDG:=by
 refine ⟨zE Tryz.func60 rfl (by decide),fun args H v H' W hs=>?_,fun args H v H' W hs=>?_⟩ <;> (unfold zDG at hs;split at hs <;> try cases hs) <;> (rename_i b n c b2 m c2;split at hs <;> try cases hs) <;> (rename_i o l o2 l2 hb hb2;split at hs <;> try cases hs) <;> (rename_i x hx;split at hs <;> cases hs;rename_i hk)
 · obtain⟨rfl,rfl,rfl,hne,hl⟩:=hk
   have e:=zGn hx;subst e;have hbl:b<H.length:=(q1Z.1 hb).1;have hbl2:b2<H.length:=(q1Z.1 hb2).1
   have:=zc (H:=H) (args:=[.sl b 0 x.length 2 c,.sl b2 0 x.length 2 c2]) (zTe x hl) [b,b2] (by simp[hne]) ⟨⟨rfl,rfl,rfl,by simp⟩,⟨rfl,rfl,rfl,by simp⟩,trivial⟩ ⟨by rw[q2Z,hb];exact⟨by simp,ZD _ (Zj x)⟩,hbl,by rw[q2Z,hb2];exact⟨by simp,ZD _ (Zj x)⟩,hbl2,trivial⟩ rfl
   simpa[zb,ABlk.own,reA] using this
 · exact⟨qnZ _,fun _ _ _=>rfl⟩
def zCG:FD×FS->List (List UInt8×List UInt8)->Option (FD×FS)
 | s,[]=>some s
 | s,e::l=>if (s.1.create e.1).2.2=0 then zCG ((s.1.create e.1).1,s.2++[((s.1.create e.1).2.1,⟨e.2,[]⟩)]) l else none
theorem zHO(s:FD×FS)(e:List UInt8×List UInt8)(l:List (List UInt8×List UInt8)):zCG s (e::l)=if (s.1.create e.1).2.2=0 then zCG ((s.1.create e.1).1,s.2++[((s.1.create e.1).2.1,⟨e.2,[]⟩)]) l else none:=rfl
theorem zPb(s:FD×FS):zCG s []=some s:=rfl
def DS.ofF(x:List (List UInt8×List UInt8))(q:Int):Option DS :=
 if q<0 then none else (zCG (FD.new,[]) x).map fun s=>⟨s.1.survive s.1.acts.length,s.2,q,0,0,false⟩
noncomputable def zSj:Gam:=zo [(15,zGw),(16,zNA),(18,zFU),(17,zNs)]
theorem zMz:GOk Pz zSj:=zB zHD (zB zIK (zB zD3 (zB zJU zC)))
def ofH(row:ABlk)(q:Int)(s:FD×FS):zA:=row::.obj true s.1.blks::.map (zP (fun i=>i+4) 0 s.2)::.cells true [.ptr 1 0,.map 2,.int .i64 q,.int .i64 0,.int .i64 0,.bool false]::zK s.2
structure OfI (x:List (List UInt8×List UInt8)) (i:Nat) (s:FD×FS):Prop where
 rest:zCG s (x.drop i)=zCG (FD.new,[]) x
 ok:s.1.ok i
 len:s.2.length=i
 keys:∀n∈FS.keys s.2,n<=s.1.last
theorem zVX(row:ABlk)(hrow:∀rn:List Nat,AWb rn row row)(q:Int)(fd:FD)(fs:FS)(e:Int×PF)(i:Nat)(hi:fs.length=i)(J:ABlk){F Fn:List AV}(hF:AWs (List.range (4+i)++[i+5]) Fn F) :
   Weak 1 F (row::.obj true fd.blks::.map (zP (fun i=>i+4) 0 fs++[(.int .i64 e.1,.ptr (i+5) 0)])::.cells true [.ptr 1 0,.map 2,.int .i64 q,.int .i64 0,.int .i64 0,.bool false]::(zK fs++[J,.obj true e.2.blks])) Fn (ofH row q (fd,fs++[e])):=by
 have hr:∀k,k<4+i->(List.range (4+i)++[i+5])[k]? = some k:=fun k hk=>zAh _ _ hk
 have hr2:(List.range (4+i)++[i+5])[4+i]? = some (i+5):=zFW _ _;have hX:=behind fs;rw[hi]at hX
 refine Weak.mk' (List.range (4+i)++[i+5]) ?_ ?_ hF (AWg.of _ _ (by simp[ofH,hi];omega) fun k x b hx hb hlt=>?_)
 · rw[List.nodup_append]
   exact⟨List.nodup_range,by simp,fun a ha b hb=>by have:=List.mem_range.1 ha;simp at hb;omega⟩
 · rw[List.take_append_of_le_length (by simp;omega),List.take_range,sfZ (by omega)]
 · have hk:k<4+i+1:=by
     have:=(q1Z.1 hb).1;simpa using this
   rw[q2Z]
   match k,hx,hb with
   | 0,hx,hb=>rw[hr 0 (by omega)]at hb;cases hb;cases hx;exact hrow _
   | 1,hx,hb=>rw[hr 1 (by omega)]at hb;cases hb;cases hx;exact⟨rfl,rfl⟩
   | 2,hx,hb =>
     rw[hr 2 (by omega)]at hb;cases hb;cases hx
     have:zP (fun k=>if k<i then k+4 else i+5) 0 (fs++[e])=zP (fun i=>i+4) 0 fs++[(.int .i64 e.1,.ptr (i+5) 0)]:=by
       rw[zGl,zAU 0 fs (fun k _ hk=>if_pos (by omega))]
       simp[hi]
     simp only[r9Z,raZ,rgZ];rw[<-this]
     refine zCD fun j hj=>?_
     simp only[qdZ,q7Z,q8Z,hi]at hj;by_cases h:j<i
     · rw[if_pos h,hr _ (by omega)]
     · have:j=i:=by omega
       subst this
       rw[if_neg h,Nat.add_comm j 4];exact hr2
   | 3,hx,hb =>
     rw[hr 3 (by omega)]at hb;cases hb;cases hx
     exact⟨id,⟨hr 1 (by omega),rfl⟩,by simp[AW,hr 2 (by omega)],⟨rfl,rfl⟩,⟨rfl,rfl⟩,⟨rfl,rfl⟩,rfl,trivial⟩
   | j+4,hx,hb =>
     unfold ofH at hx;simp only[r9Z]at hx;by_cases h:j<i
     · rw[hr _ (by omega)]at hb;cases hb
       simp only[r9Z]
       have hj:j<(zK fs).length:=by rw[hX.len];exact h
       rw[q4Z hj]
       have e1:zK (fs++[e])=zK fs++[.obj true e.2.blks]:=by simp[zK]
       rw[e1,q4Z hj]at hx;rw[hx];obtain⟨y,_,rfl⟩:=reZ.1 (qcZ hx);exact⟨rfl,rfl⟩
     · have:j=i:=by omega
       subst this
       rw[Nat.add_comm j 4,hr2]at hb;cases hb
       simp only[r9Z];rw[hX.get]
       have e1:zK (fs++[e])=zK fs++[.obj true e.2.blks]:=by simp[zK]
       rw[e1,hX.get0]at hx;cases hx;exact⟨rfl,rfl⟩
theorem zSq(x:List (List UInt8×List UInt8))(hx:x.length<=1000000)(hk:∀e∈x,e.1.length<=9223372036854775807)(q:Int) : 
   Ct Pz 4 [.sl 0 0 x.length 2 false,.int .i64 q] [.cells false (flA x)] (match DS.ofF x q with | some _=>.ptr 1 0 | none=>.nilp) (match DS.ofF x q with | some d=>[.cells false (flA x),.obj true d.blks] | none=>[.cells false (flA x)]):=by
 have hΓ:=zMz;refine zG Tryz.func4 rfl ?_;simp only[Tryz.ntmps4,q7Z,q8Z,Nat.reduceAdd,Nat.reduceSub,qbZ,q9Z,qaZ];obtain⟨L,hL⟩:∃L,x.length=L:=⟨_,rfl⟩;obtain⟨row,hrow⟩:∃row:ABlk,ABlk.cells false (flA x)=row:=⟨_,rfl⟩
 have hrw:∀rn:List Nat,AWb rn row row:=fun rn=>by rw[<-hrow];exact⟨id,(zBh (ZS x)).2 trivial⟩
 rw[hL]at hx ⊢
 refine Sim.step hmix hΓ (n:=0) (by simp;exact⟨rfl,rfl⟩) (by simp) ?_
 by_cases hq:q<0
 · have e:DS.ofF x q=none:=by unfold DS.ofF;rw[if_pos hq]
   rw[e]
   refine Sim.exec hmix hΓ (n:=0) (by simp[hq];exact⟨rfl,rfl,rfl⟩) (by simp) ?_
   exact⟨.inr rfl,_,by simp[Tryz.f4] <;> rfl,Weak.mk' [0] (by decide) (by decide) (by simp) (by simp[AWb])⟩
 have e:DS.ofF x q=(zCG (FD.new,[]) x).map fun s=>⟨s.1.survive s.1.acts.length,s.2,q,0,0,false⟩:=by unfold DS.ofF;rw[if_neg hq]
 rw[e]
 refine Sim.step hmix hΓ (n:=0) (by simp[hq];exact⟨rfl,rfl⟩) (by simp) ?_
 refine Sim.step hmix hΓ (n:=0) (by simp[zSj,zGw];exact⟨rfl,rfl⟩) (by simp) ?_
 refine Sim.seq (Sim.mono (Q:=fun e F' H'=>(e=.normal/\∃s,OfI x L s/\Weak 1 F' H' ([.top,.top,.top,.top,.top,.ptr 3 0]++qbZ 44 .top) (ofH row q s))\/(e=.ret/\zCG (FD.new,[]) x=none/\∃v1,zBv Pz Tryz.f4.results.toList F' H'=some v1/\Weak 1 [v1] H' [.nilp] [row])) (Sim.step hmix hΓ (n:=0) (by simp;exact⟨rfl,rfl⟩) (by simp) ?_) ?_)
 · refine Sim.block (Sim.loopW (fun r:Nat×FD×FS=>r.1<=L/\OfI x r.1 r.2) (fun r=>[.sl 0 0 L 2 false,.int .i64 q,.top,.top,.top,.ptr 3 0]++qbZ 11 .top++[.sl 0 0 L 2 false,.int .i64 L,.int .i64 r.1]++qbZ 30 .top) (fun r=>ofH row q r.2) (fun r=>L-r.1) (0,FD.new,[]) (by simp) ⟨qqZ _,by simp,FD.ok_new,rfl,fun n hn=>by simp[FS.keys]at hn⟩ ?_ fun r hr=>?_)
   · rw[hrow]
     exact Weak.mk' [0,1,2,3] (by decide) (by decide) (by simp) ⟨by simpa using hrw _,by simp[AWb,AW,zP,zK,AWg]⟩
   · obtain⟨i,fd,fs⟩:=r
     obtain⟨hi,hr1,hr2,hr3,hr4⟩:=hr;dsimp only at hi hr1 hr2 hr3 hr4 ⊢;have hX:=behind fs;rw[hr3]at hX;have hXl:=hX.len;have hXg:=hX.get;have hXg0:=hX.get0;by_cases hlt:i<L;rotate_left
     · have hin:i=L:=by omega
       subst hin
       refine Sim.exec hmix hΓ (n:=0) (by simp;exact⟨rfl,rfl,rfl⟩) (by simp[ofH]) ?_
       dsimp only;rw[if_pos rfl]
       refine .inl ⟨by trivial,(fd,fs),⟨hr1,hr2,hr3,hr4⟩,?_⟩
       refine zMw (M:=i+4) (by simp[ofH,hr3]) (by omega) (fun rn hr=>by simp[AW,hr 3 (by omega)]) (by simp[ofH,hr3]) fun rn hr k x y hx hy=>?_
       rw[hx]at hy;cases hy
       unfold ofH at hx
       match k,hx with
       | 0,hx=>cases hx;exact hrw rn
       | 1,hx=>cases hx;exact⟨rfl,rfl⟩
       | 2,hx=>cases hx;exact zCD fun j hj=>hr _ (by rw[hr3]at hj;omega)
       | 3,hx=>cases hx;exact⟨id,⟨hr 1 (by omega),rfl⟩,by simp[AW,hr 2 (by omega)],⟨rfl,rfl⟩,⟨rfl,rfl⟩,⟨rfl,rfl⟩,rfl,trivial⟩
       | k+4,hx =>
         simp only[r9Z]at hx;obtain⟨e,_,rfl⟩:=reZ.1 (qcZ hx);exact⟨rfl,rfl⟩
     have hltI:(i:Int)<L:=by omega
     have hil:i<x.length:=by omega
     obtain⟨e,he⟩:∃e,x[i]=e:=⟨_,rfl⟩;have hg:=zCY x i hil;rw[he]at hg
     have hek:=hk e (by rw[<-he];exact r3Z hil)
     have hdr:x.drop i=e::x.drop (i+1):=by rw[List.drop_eq_getElem_cons hil,he]
     rw[hdr,zHO]at hr1
     have k1:i*2+2<=L*2:=by omega
     have y1:IntKind.i64.wrap ((i:Int)+1)=i+1:=zV (by omega) (by omega)
     have hsm:fd.small:=FD.ok_mono hr2 (by omega)
     have hok':=FD.ok_create hr2 e.1
     have hz:(fd.create e.1).2.2=0->(fd.create e.1).2.1=fd.last+1/\(fd.create e.1).1.last=fd.last+1:=by
       unfold FD.create;split
       · split
         · intro h;exact absurd h (by dsimp only;omega)
         · intro _;exact⟨rfl,rfl⟩
       · intro h;exact absurd h (by dsimp only;omega)
     obtain⟨f',num,er,hc⟩:∃f' num er,fd.create e.1=(f',num,er):=⟨_,_,_,rfl⟩;rw[hc]at hr1 hok' hz;dsimp only at hr1 hok' hz
     have hlook:=zAB (fun i=>i+4) num 0 fs 0
     have hA0:(ABlk.cells false (flA x))=row:=hrow
     have hw:=fun J F Fn hF=>zVX row hrw q f' fs (num,⟨e.2,[]⟩) i hr3 J (F:=F) (Fn:=Fn) hF
     unfold ofH;dsimp only;obtain⟨X,eX⟩:∃X,zK fs=X:=⟨_,rfl⟩;rw[eX]at hXl hXg hXg0 hw ⊢;rw[<-hrow]
     refine Sim.step hmix hΓ (n:=0) (by simp[hltI];exact⟨rfl,rfl⟩) (by simp) ?_
     refine Sim.step hmix hΓ (n:=0) (by simp;exact⟨rfl,rfl⟩) (by simp) ?_
     refine Sim.seq (Sim.block ?_)
     refine Sim.step hmix hΓ (n:=0) (by simp +decide [hlt,hL,hg,k1,hXl];exact⟨rfl,rfl⟩) (by simp) ?_
     refine Sim.seq (Sim.draw hmix (by simp) ?_)
     refine SimR.many hΓ 6 (by simp[zI];rfl) (by omega) (by kernel_rfl) (by simp +decide [hXl,hXg,hXg0];first | exact⟨rfl,rfl⟩ | exact⟨by kernel_rfl,rfl,rfl⟩) ?_
     refine SimR.one hΓ _ rfl (by kernel_rfl) (by simp +decide [zSj,zNA,hsm,hek,hc];exact⟨rfl,rfl⟩) ?_
     refine SimR.many hΓ 12 (by simp[zI,zS];rfl) (by omega) (by kernel_rfl) (by simp +decide;first | exact⟨rfl,rfl⟩ | exact⟨by kernel_rfl,rfl,rfl⟩) ?_
     refine SimR.done rfl ?_;dsimp only;by_cases her:er=0
     · subst her
       obtain⟨hnum,hlast⟩:=hz rfl;rw[if_pos rfl]at hr1
       have hfr:FS.get fs num=none:=FS.get_none.2 fun hm=>by have:=hr4 _ hm;omega
       rw[hfr]at hlook;simp only[Option.map_none]at hlook
       refine Sim.step hmix hΓ (n:=0) (by simp;exact⟨rfl,rfl⟩) (by simp) ?_
       refine Sim.draw hmix (by simp) ?_
       refine SimR.many hΓ 8 (by simp[zI];rfl) (by omega) (by kernel_rfl) (by simp +decide [zSj,zNs,hXl,hXg,hXg0];first | exact⟨rfl,rfl⟩ | exact⟨by kernel_rfl,rfl,rfl⟩) ?_
       refine SimR.one hΓ _ rfl (by kernel_rfl) (by simp +decide [hlook];exact⟨rfl,rfl⟩) ?_
       refine SimR.done rfl ?_;dsimp only
       refine Sim.exec hmix hΓ (n:=0) (by simp[y1];exact⟨rfl,rfl,rfl⟩) (by simp) ?_
       dsimp only
       refine ⟨(i+1,f',fs++[(num,⟨e.2,[]⟩)]),⟨by dsimp only;omega,hr1,hok',by simp[hr3],fun n hn=>?_⟩,?_,by dsimp only;omega⟩
       · simp only[FS.keys,roZ,qxZ,s1Z,List.map_nil,r1Z]at hn
         rcases hn with hn | hn
         · have:=hr4 n hn;dsimp only;omega
         · dsimp only;omega
       · rw[hrow]
         have r0:(List.range (4+i)++[i+5])[0]? = some 0:=zAh _ _ (by omega)
         have r3:(List.range (4+i)++[i+5])[3]? = some 3:=zAh _ _ (by omega)
         have r0':∀h,(List.range (4+i)++[i+5])[0]'h=0:=fun h=>(q1Z.1 r0).2
         have r3':∀h,(List.range (4+i)++[i+5])[3]'h=3:=fun h=>(q1Z.1 r3).2
         refine hw _ _ _ ?_;simp[AW,r0,r3,r0',r3']
     · have her':(er==0)=false:=by simpa using her
       rw[if_neg her]at hr1
       refine Sim.exec hmix hΓ (n:=0) (by simp +decide [her,her'];exact⟨rfl,rfl,rfl⟩) (by simp) ?_
       dsimp only
       refine .inr ⟨by trivial,hr1.symm,.nilp,by simp[Tryz.f4],?_⟩
       rw[hrow]
       exact Weak.mk' [0] (by decide) (by decide) (by simp) ⟨by simpa using hrw _,trivial⟩
 rintro e F' H' hlen (⟨rfl,s,hs,hwk⟩ | ⟨rfl,hno,v1,hv1,hwk⟩)
 · dsimp only
   refine Sim.weak hwk hlen ?_;clear hwk hlen;have hfold:=hs.rest
   rw[List.drop_of_length_le (by omega),zPb]at hfold
   rw[<-hfold];simp only[rhZ,q9Z,qaZ,qbZ];obtain⟨fd,fs⟩:=s
   have hal:fd.acts.length<=1000000:=by have:=hs.ok.len;dsimp only at this;omega
   have hfl:=hs.len;dsimp only at hfl ⊢;unfold ofH;dsimp only;obtain⟨d,hd⟩:∃d:DS,(⟨fd.survive fd.acts.length,fs,q,0,0,false⟩:DS)=d:=⟨_,rfl⟩
   refine Sim.step hmix hΓ (n:=0) (by simp[zSj,zFU,hal];exact⟨rfl,rfl⟩) (by simp) ?_
   refine Sim.after (Sim.exec hmix hΓ (n:=0) (by simp;exact⟨rfl,rfl,rfl⟩) (by simp) ?_)
   have hat:DAt (row::.obj true (fd.survive fd.acts.length).blks::.map (zP (fun i=>i+4) 0 fs)::.cells true [.ptr 1 0,.map 2,.int .i64 q,.int .i64 0,.int .i64 0,.bool false]::zK fs) d 3 1 2 (·+4):=by
     rw[<-hd]
     refine ⟨rfl,rfl,rfl,fun i e he=>?_,?_⟩
     · simp only[r9Z]
       exact Zh he
     · refine rdZ.2 ⟨fun h=>?_,rdZ.2 ⟨fun h=>?_,rdZ.2 ⟨fun h=>?_,?_⟩⟩⟩
       · rcases qwZ.1 h with h | h
         · omega
         rcases qwZ.1 h with h | h
         · omega
         · obtain⟨c,_,h⟩:=reZ.1 h;omega
       · rcases qwZ.1 h with h | h
         · omega
         · obtain⟨c,_,h⟩:=reZ.1 h;omega
       · obtain⟨c,_,h⟩:=reZ.1 h;omega
       · rw[List.nodup_iff_pairwise_ne,List.pairwise_map]
         exact (List.nodup_iff_pairwise_ne.1 List.nodup_range).imp fun h e=>h (by omega)
   rw[hd,hrow]
   refine Aft.closeAt hat (by simp) (Aft.done (by simp) ?_)
   refine ⟨.inr rfl,_,by simp[Tryz.f4] <;> rfl,Weak.mk' [0,3] (by decide) (by decide) (by simp[AWs,AW]) (zJ (b:=3) (by simp) _ _ rfl fun i c x h1 h2=>?_)⟩
   match i,h1,h2 with
   | 0,h1,h2 =>
     cases h1;cases h2
     refine .inr ⟨⟨by omega,fun h=>?_⟩,hrw _⟩
     rcases qwZ.1 h with h | h
     · omega
     rcases qwZ.1 h with h | h
     · omega
     · obtain⟨c,_,h⟩:=reZ.1 h;omega
   | 1,h1,h2=>cases h1;cases h2;exact .inl ⟨rfl,rfl⟩
 · rw[hno]
   exact⟨.inr rfl,v1,hv1,by simpa[hrow] using hwk⟩
def zHH:List FuncId:=[115,118,124]
theorem zVG:GOk Pz (zA2 Pz (zo []) 0 zHH 3):=ZT hmix zC 0 zHH 3
theorem zLC(d:DS)(hd:d.down=true)(k:List UInt8):Ct Pz 54 [.ptr 0 0,.str k] (d.heap []) (.tuple [.int .i64 0,.int .i64 13]) (d.heap []):=by
 have hΓ:=zVG;refine zR Tryz.func54 rfl ?_;simp only[Tryz.ntmps54,q7Z,q8Z,Nat.reduceAdd,Nat.reduceSub,qbZ,q9Z,qaZ];unfold DS.heap DS.cell0;rw[hd]
 refine Sim.step hmix hΓ (n:=0) (by simp;exact⟨rfl,rfl⟩) (by simp) ?_
 refine Sim.step hmix hΓ (n:=0) (by simp +decide [zHH,Tryz.f115];exact⟨rfl,rfl⟩) (by simp) ?_
 refine Sim.exec hmix hΓ (n:=0) (by simp +decide [zHH,Tryz.f118,Tryz.f124];exact⟨rfl,rfl,rfl⟩) (by simp) ?_
 exact⟨.inr rfl,by simp[Tryz.f54],by simp⟩
theorem zUQ{d f:DS}(h1:d.fd=f.fd)(h4:d.down=f.down):d.list=f.list:=by unfold DS.list;rw[h1,h4]
theorem zVZ{d f:DS}(h1:d.fd=f.fd)(h2:d.fs=f.fs)(k:List UInt8):d.text k=f.text k:=by unfold DS.text DS.file;rw[h1,h2]
theorem zTq{d f:DS}(h1:d.fd=f.fd)(h2:d.fs=f.fs)(h4:d.down=f.down):d.files=f.files:=by
 unfold DS.files;rw[zUQ h1 h4]
 exact List.map_congr_left fun k _=>by rw[zVZ h1 h2]
theorem used_eq{d f:DS}(h1:d.fd=f.fd)(h2:d.fs=f.fs)(h4:d.down=f.down):d.used=f.used:=by rw[DS.used_sum,DS.used_sum,zTq h1 h2 h4]
end
section
open Go Go.Lib
theorem FS.upd_app{l:FS}{m:Int}{f:PF}(h:m∉FS.keys l)(g:PF->PF):FS.upd (l++[(m,f)]) m g=l++[(m,g f)]:=by
 induction l with
 | nil=>simp[FS.upd]
 | cons e l ih =>
   simp only[FS.keys,s1Z,qwZ,not_or]at h;rw[q9Z];unfold FS.upd
   rw[if_neg (fun e=>h.1 e.symm),ih h.2]
   rfl
abbrev fdN(fd:FD)(x:List UInt8):FD:=⟨fd.d,fd.acts++[.cre x (fd.last+1)],fd.last+1⟩
abbrev fsN(fd:FD)(fs:FS)(f:PF):FS:=fs++[(fd.last+1,f)]
end
section
open Go Go.Lib
attribute [-simp] zN zr ZI zT ZL
theorem zMG{fd:FD}{fs:FS}{q st ar:Int}{dn:Bool}{A B:Nat}(h:DS.ok ⟨fd,fs,q,st,ar,dn⟩ A B):DS.ok ⟨fd,fs,q,0,0,false⟩ A B :=
 ⟨h.fd,h.num,h.has,h.rng,h.nd,h.fine,h.len,h.q0,h.q1,Int.le_refl _,by dsimp only;omega,Int.le_refl _,by dsimp only;omega⟩
theorem zRZ{fd:FD}{fs:FS}{q:Int}{A B:Nat}(h:DS.ok ⟨fd,fs,q,0,0,false⟩ A B){k b:List UInt8}(hb:b.length<=B)(hm:zHb k)(hg:fd.now.get k=none):DS.ok ⟨fdN fd k,fsN fd fs ⟨b,[]⟩,q,0,0,false⟩ (A+2) B:=by
 have h1:=DS.ok_create h k
 have e:((⟨fd,fs,q,0,0,false⟩:DS).create k).1=⟨fdN fd k,fsN fd fs ⟨[],[]⟩,q,1,0,false⟩:=by
   unfold DS.create DS.step DS.count FD.create;simp[hm,hg]
 rw[e]at h1
 have h2:=DS.ok_fs (C:=B) h1 (fd.last+1) (fun _=>⟨b,[]⟩) (fun f _=>PF.ok_new _ _ hb) (qnZ _)
 have hf:fd.last+1∉FS.keys fs:=fun hn=>by have:=(h.rng _ hn).2;dsimp only at this;omega
 dsimp only at h2;rw[FS.upd_app hf]at h2;exact zMG h2
def zJF(x:List (List UInt8×List UInt8)):Prop:=∀e∈x,e.1.length<=9223372036854775807
theorem zOm(d:DS):Ct Pz 68 [.ptr 0 0] (d.heap []) (.int .i64 d.steps) (d.heap []):=by
 refine zR Tryz.func68 rfl ?_;simp only[Tryz.ntmps68,q7Z,q8Z,Nat.reduceAdd,Nat.reduceSub,qbZ,q9Z,qaZ];unfold DS.heap DS.cell0
 refine Sim.step hmix zC (n:=0) (by simp;exact⟨rfl,rfl⟩) (by simp) ?_
 refine Sim.exec hmix zC (n:=0) (by simp +decide;exact⟨rfl,rfl,rfl⟩) (by simp) ?_
 exact⟨.inr rfl,by simp[Tryz.f68],by simp⟩
theorem RD.ofStep{dir:RF}{F:List PF}{fd:FD}{fs:FS}{q:Int}{A B:Nat}(h:RD ⟨dir,F,q,0,0,false⟩ ⟨fd,fs,q,0,0,false⟩ A B){k b:List UInt8}(hb:b.length<=B) :
   (dir.create k).2.2=(fd.create k).2.2/\((fd.create k).2.2=0->RD ⟨(dir.create k).1,F++[⟨b,[]⟩],q,0,0,false⟩ ⟨(fd.create k).1,fs++[((fd.create k).2.1,⟨b,[]⟩)],q,0,0,false⟩ (A+2) B/\(fd.create k).1.acts.length=fd.acts.length+1):=by
 obtain⟨h1,h2⟩:=h.dir.create k;dsimp only at h1 h2
 refine ⟨by rw[h2],fun he=>?_⟩
 have hm:zHb k/\fd.now.get k=none:=by
   unfold FD.create at he;split at he
   · rename_i hm
     split at he
     · cases he
     · rename_i hg;exact⟨hm,hg⟩
   · cases he
 have hcr:fd.create k=(fdN fd k,fd.last+1,0):=by
   unfold FD.create;rw[if_pos hm.1,hm.2]
 have hok:=zRZ h.ok hb hm.1 hm.2
 have hlast:(dir.create k).1.last=fd.last+1:=by rw[h1.last,hcr]
 rw[hcr]at h1 ⊢;dsimp only at h1 ⊢;have hfl:=h.flen;have hdl:=h.dir.last;dsimp only at hfl hdl
 have hf:fd.last+1∉FS.keys fs:=fun hn=>by have:=(h.ok.rng _ hn).2;dsimp only at this;omega
 refine ⟨⟨hok,h1,fun n f hg=>?_,?_,fun f hg=>?_,rfl,rfl,rfl,rfl⟩,by simp⟩
 · dsimp only at hg ⊢
   rw[FS.get_app]at hg;split at hg
   · cases hg
     rename_i hx;have:=h.file n _ hx;dsimp only at this;rw[q4Z (q1Z.1 this).1];exact this
   · split at hg
     · cases hg
       rename_i e;have h0:=h.ok.num.1;dsimp only at h0
       rw[<-e,q5Z (by omega),show (fd.last+1-1).toNat-F.length=0 by omega]
       rfl
     · cases hg
 · dsimp only
   rw[hlast,qdZ]
   simp;omega
 · rcases qxZ.1 hg with hg | hg
   · exact h.fine f hg
   · simp at hg;subst hg;exact PF.ok_new _ _ hb
theorem RD.foldOf{q:Int}{B:Nat}:∀(x:List (List UInt8×List UInt8)) {dir:RF} {F:List PF} {fd:FD} {fs:FS} {A:Nat},RD ⟨dir,F,q,0,0,false⟩ ⟨fd,fs,q,0,0,false⟩ A B->(∀e∈x,e.2.length<=B) ->
   (zBe (dir,F) x=none/\zCG (fd,fs) x=none)\/∃s t,zBe (dir,F) x=some s/\zCG (fd,fs) x=some t/\RD ⟨s.1,s.2,q,0,0,false⟩ ⟨t.1,t.2,q,0,0,false⟩ (A+2*x.length) B/\t.1.acts.length=fd.acts.length+x.length
 | [],dir,F,fd,fs,A,h,_=>.inr ⟨_,_,rfl,rfl,h.mono (by simp) (qnZ _),rfl⟩
 | e::x,dir,F,fd,fs,A,h,hb=>by
   obtain⟨h1,h2⟩:=h.ofStep (k:=e.1) (b:=e.2) (hb e (qhZ ..));rw[zFu,zHO];dsimp only;rw[h1];by_cases he:(fd.create e.1).2.2=0
   · rw[if_pos he,if_pos he]
     obtain⟨h3,h4⟩:=h2 he
     rcases RD.foldOf x h3 (fun y hy=>hb y (qiZ _ hy)) with h5 | ⟨s,t,h5,h6,h7,h8⟩
     · exact .inl h5
     · exact .inr ⟨s,t,h5,h6,h7.mono (by simp;omega) (qnZ _),by rw[h8,h4];simp;omega⟩
   · rw[if_neg he,if_neg he]
     exact .inl ⟨rfl,rfl⟩
theorem RD.ofF(x:List (List UInt8×List UInt8)){B:Nat}(hb:∀e∈x,e.2.length<=B)(q:Int)(hq:q<=4611686018427387903) :
   (RS.ofF x q=none/\DS.ofF x q=none)\/∃r d,RS.ofF x q=some r/\DS.ofF x q=some d/\RD r d (2*x.length+2) B:=by
 unfold RS.ofF DS.ofF;by_cases h:q<0
 · rw[if_pos h,if_pos h];exact .inl ⟨rfl,rfl⟩
 rw[if_neg h,if_neg h]
 have h0:RD ⟨RF.new,[],q,0,0,false⟩ ⟨FD.new,[],q,0,0,false⟩ 0 B:=(RD.new q (by omega) hq).mono (qnZ _) (qqZ _)
 rcases RD.foldOf x h0 hb with⟨h1,h2⟩ | ⟨s,t,h1,h2,h3,h4⟩
 · rw[h1,h2];exact .inl ⟨rfl,rfl⟩
 · rw[h1,h2]
   refine .inr ⟨_,_,rfl,rfl,?_⟩
   have hl:t.1.acts.length=x.length:=by rw[h4];simp[FD.new]
   dsimp only;rw[hl];have hs:=DS.ok_syncDir h3.ok
   have e:((⟨t.1,t.2,q,0,0,false⟩:DS).syncDir).1=⟨t.1.survive x.length,t.2,q,1,0,false⟩:=by
     unfold DS.syncDir DS.step DS.count;simp[hl]
   rw[e]at hs
   have hok:=DS.ok_mono (zMG hs) (show 0+2*x.length+2<=2*x.length+2 by omega) (qnZ B)
   exact⟨hok,h3.dir.survive _,h3.file,h3.flen,h3.fine,rfl,rfl,rfl,rfl⟩
open Classical in
noncomputable def zNK:zU:=fun args H=>match args with
 | [.sl b 0 n 2 _c,.int .i64 q]=>match H[b]? with
   | some (.cells _ l)=>match flD l with
     | some x=>match RS.ofF x q with
       | some d=>if n=x.length/\x.length<=900000/\zJF x then some (.ptr H.length 0,H++[.obj true d.blks],[]) else none
       | none=>if n=x.length/\x.length<=900000/\zJF x then some (.nilp,H,[]) else none
     | none=>none
   | _=>none
 | _=>none
theorem zPg:Sound Pz 5 zNK:=by
 refine ⟨zE Tryz.func5 rfl (by decide),fun args H v H' W hs=>?_,fun args H v H' W hs=>?_⟩ <;> (unfold zNK at hs;split at hs <;> try cases hs) <;> (rename_i b n c q;split at hs <;> try cases hs) <;> (rename_i o l hb;split at hs <;> try cases hs) <;> (rename_i x hx;split at hs) <;> (rename_i hd;split at hs <;> cases hs;rename_i hk)
 · obtain⟨rfl,h1,h2⟩:=hk
   have e:=zGn hx;subst e;have hbl:b<H.length:=(q1Z.1 hb).1;have hct:=zQW x h1 h2 q;rw[hd]at hct;dsimp only at hct
   have:=zc (H:=H) (args:=[.sl b 0 x.length 2 c,.int .i64 q]) hct [b] (by simp) ⟨⟨rfl,rfl,rfl,by simp⟩,⟨rfl,rfl⟩,trivial⟩ ⟨by rw[q2Z,hb];exact⟨by simp,ZD _ (Zj x)⟩,hbl,trivial⟩ rfl
   simpa[zb,ABlk.own,reA,reB,ZQ] using this
 · obtain⟨rfl,h1,h2⟩:=hk
   have e:=zGn hx;subst e;have hbl:b<H.length:=(q1Z.1 hb).1;have hct:=zQW x h1 h2 q;rw[hd]at hct;dsimp only at hct
   have:=zc (H:=H) (args:=[.sl b 0 x.length 2 c,.int .i64 q]) hct [b] (by simp) ⟨⟨rfl,rfl,rfl,by simp⟩,⟨rfl,rfl⟩,trivial⟩ ⟨by rw[q2Z,hb];exact⟨by simp,ZD _ (Zj x)⟩,hbl,trivial⟩ rfl
   simpa[zb,ABlk.own,reA,reB,ZQ] using this
 · exact⟨by simp,fun c hc _=>by rw[q4Z hc]⟩
 · exact⟨by simp,fun c hc _=>rfl⟩
end
end Go.Proofs.YtfhidaoiofeooaaGreat
