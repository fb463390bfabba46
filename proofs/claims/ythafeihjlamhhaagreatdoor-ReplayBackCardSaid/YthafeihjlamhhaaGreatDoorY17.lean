/- Parts of the proof of ReplayBack: lemmas, each with its own conditions. -/
import Derived.Test.YthafeihjlamhhaaGreatDoorY16
set_option maxHeartbeats 64000000
open List renaming getElem?_eq_some_iff → q1Z, getElem?_eq_getElem → q3Z, getElem?_append_left → q4Z, getElem?_append_right → q5Z, take_of_length_le → q6Z, length_cons → q7Z, length_nil → q8Z, cons_append → q9Z, nil_append → qaZ, replicate → qbZ, length_take → qjZ, mem_append → qxZ, mem_singleton → r1Z, append_nil → r2Z, getElem?_take → r4Z, flatten_cons → rcZ, map_append → roZ, map_cons → s1Z, getElem?_eq_none → s4Z, all_eq_true → s5Z, flatten_append → sgZ
open Option renaming map_eq_some_iff → qlZ
open Nat renaming le_refl → qnZ, zero_le → qqZ, add_sub_cancel_left → s3Z, zero_add → s8Z
open Bool renaming false_eq_true → qsZ
open Array renaming getElem?_eq_some_iff → qtZ
namespace Go.Proofs.YthafeihjlamhhaaGreatDoor
open _root_.Go.Proofs.Tryz renaming prog → Pz
set_option maxRecDepth 100000
section
open Go.ChangeShapes Go.WideShapes Go.ChangeAt Go.RowKit
inductive AS where
 | flat (b:Bool) (ts:List CT)
 | rows (ts:List CT)
 deriving DecidableEq
def zAF:List AS->Nat->List AV->zA->Prop
 | [],_,[],[]=>True
 | .flat true ts::ss,k,x::xs,H=>∃ys H1 H2,x=.agg ys/\zAR ts k ys H1/\H=H1++H2/\zAF ss (k+H1.length) xs H2
 | .flat false ts::ss,k,x::xs,H=>∃H1 H2,zAR ts k [x] H1/\H=H1++H2/\zAF ss (k+H1.length) xs H2
 | .rows ts::ss,k,x::xs,H=>∃n ys H1 H2,(n=0/\x=.nils\/x=.slice k 0 n ts.length false)/\n<=maxLen/\zAR (qbZ n ts).flatten (k+1) ys H1/\H=.cells false ys::H1++H2/\zAF ss (k+1+H1.length) xs H2
 | _,_,_,_=>False
def zEU(P:Program)(n:Nat):List TypeId->Option (List AS)
 | []=>some []
 | t::ts=>match zJM P t,flat P n t with
   | some b,some a=>if P.cellsOf t=a.length then (zEU P n ts).map (.flat b a::·) else none
   | _,none=>match P.underlying t with
     | some (.slice e)=>match flat P n e with
       | some a=>if P.cellsOf e=a.length/\0<a.length then (zEU P n ts).map (.rows a::·) else none
       | none=>none
     | _=>none
   | none,some _=>none
section
variable {H:Type} {enc:TypeId×Value->H} {P:Program} {w:World} {base base':Nat}
theorem zHx{el:List CT}{a:Addr}:∀(m:Nat),(∀i,i<m->∃cs:List Value,All2 (zDM w) el cs/\∀k u,cs[k]? = some u->w.cell? (a.add (i*el.length+k))=some u) ->
   ∃l,All2 (zDM w) (qbZ m el).flatten l/\∀i u,l[i]? = some u->w.cell? (a.add i)=some u
 | 0,_=>⟨[],trivial,fun i u h=>by simp at h⟩
 | m+1,h=>by
   obtain⟨l,h1,h2⟩:=zHx m fun i hi=>h i (by omega)
   obtain⟨cs,g1,g2⟩:=h m (by omega)
   have hl:l.length=m*el.length:=by rw[<-h1.length,zv]
   refine ⟨l++cs,?_,fun i u hi=>?_⟩
   · rw[List.replicate_succ',sgZ]
     simp only[rcZ,List.flatten_nil,r2Z];exact h1.append g1
   · by_cases hlt:i<l.length
     · rw[q4Z hlt]at hi
       exact h2 i u hi
     · rw[q5Z (by omega)]at hi
       have:=g2 _ u hi
       rw[show m*el.length+(i-l.length)=i by omega]at this
       exact this
def zFD(w:World)(k:Nat)(H:zA)(js:List (Option JB)):Prop :=
 ∀j:Inj,(∀i,i<js.length->j (k+i)=(js[i]?).join)->∀(i:Nat) B q,H[i]? = some B->js[i]? = some (some q)->BRel j w B q
theorem zGj{k:Nat}{H1 H2:zA}{js1 js2:List (Option JB)}(hl:js1.length=H1.length)(h1:zFD w k H1 js1)(h2:zFD w (k+H1.length) H2 js2):zFD w k (H1++H2) (js1++js2):=by
 intro j hj i B q hB hq
 have j1:∀i,i<js1.length->j (k+i)=(js1[i]?).join:=fun i hi=>by
   rw[hj i (by simp;omega),q4Z hi]
 have j2:∀i,i<js2.length->j (k+H1.length+i)=(js2[i]?).join:=fun i hi=>by
   rw[show k+H1.length+i=k+(H1.length+i) by omega,hj (H1.length+i) (by simp;omega),q5Z (by omega),hl,s3Z]
 by_cases hi:i<H1.length
 · rw[q4Z hi]at hB
   rw[q4Z (by omega)]at hq
   exact h1 j j1 i B q hB hq
 · rw[q5Z (by omega)]at hB
   rw[q5Z (by omega),hl]at hq
   exact h2 j j2 _ B q hB hq
theorem zII{H1 H2:zA}(h1:∀(i:Nat) (B:ABlk),H1[i]? = some B->∃l,B=.cells false l)(h2:∀(i:Nat) (B:ABlk),H2[i]? = some B->∃l,B=.cells false l):∀(i:Nat) (B:ABlk),(H1++H2)[i]? = some B->∃l,B=.cells false l:=by
 intro i B hB;by_cases hi:i<H1.length
 · rw[q4Z hi]at hB
   exact h1 i B hB
 · rw[q5Z (by omega)]at hB
   exact h2 _ B hB
theorem zTx{n:Nat}{t e:TypeId}{a:List CT}{v:Value}{fuel:Nat}{x:DataW H×List MemPlace}(k:Nat)(hu:P.underlying t=some (.slice e))(ha:flat P n e=some a)(hcl:P.cellsOf e=a.length)(h0:0<a.length)
   (hx:DataW.trod enc P w base' (fun _=>true) true fuel t [v]=some x) (hE:∀ad len cap,v=.slice (some ad) len cap->zDI w) :
   ∃(m:Nat) (y:AV) (ys:List AV) (H1:zA) (js:List (Option JB)),(m=0/\y=.nils\/y=.slice k 0 m a.length false)/\m<=maxLen/\zAR (qbZ m a).flatten (k+1) ys H1/\js.length=H1.length+1/\zFD w k (.cells false ys::H1) js /\
     (∀j:Inj,(∀i,i<js.length->j (k+i)=(js[i]?).join)->VR j y v)/\(∀(i:Nat) (B:ABlk),(ABlk.cells false ys::H1)[i]? = some B->∃l,B=.cells false l):=by
 have none_ok:∀(p:Option JB),(∀q,p=some q->∃cs T fz,w.heap[q.blk]? = some (.cells cs T fz)/\cs.size=q.size/\q.base<=q.size)->zFD w k [.cells false []] [p]:=by
   intro p hp j _ i B q hB hq
   have hi:i=0:=by
     have:=(q1Z.1 hB).1;simpa using this
   subst hi;cases hB;simp at hq;obtain⟨cs,T,fz,h1,h2,h3⟩:=hp q hq
   exact⟨cs,T,fz,h1,h2,by simpa using h3,fun i x hx=>by simp at hx,fun h=>by cases h⟩
 have one_own:∀(i:Nat) (B:ABlk),[ABlk.cells false []][i]? = some B->∃l,B=.cells false l:=by
   intro i B hB
   have hi:i=0:=by
     have:=(q1Z.1 hB).1;simpa using this
   subst hi;cases hB;exact⟨[],rfl⟩
 rcases Deep.open_slice hu hx with⟨hv1,_⟩ | ⟨ad,len,cap,m,n',D,Pl,hv1,_,hle,hm,hmm,_,hel2⟩
 · obtain rfl:v=.slice none 0 0:=by simpa using hv1
   refine ⟨0,.nils,[],[],[none],.inl ⟨rfl,rfl⟩,qqZ _,trivial,rfl,none_ok none (fun q h=>by cases h),fun j _=>by simp[VR],one_own⟩
 · obtain rfl:v=.slice (some ad) len cap:=by simpa using hv1
   simp at hmm;subst hmm;by_cases hz:m=0
   · subst hz
     obtain rfl:len=0:=by omega
     obtain⟨q,c,T,fz,hq⟩:=hE ad 0 0 rfl
     refine ⟨0,.slice k 0 0 a.length false,[],[],[some ⟨q,0,c.size⟩],.inr rfl,qqZ _,trivial,rfl,none_ok _ (fun q' h=>by cases h;exact⟨c,T,fz,hq,rfl,qqZ _⟩),fun j hj=>?_,one_own⟩
     simp only[VR]
     have:=hj 0 (by simp)
     exact⟨_,ad,0,by simpa using this,rfl,qnZ _,fun h=>(by cases h),hm,.inl rfl⟩
   · obtain⟨l,hl,hc⟩:=zHx (w:=w) (el:=a) (a:=ad) m fun i hi=>by
       obtain⟨cs',hcs',ht⟩:=hel2 i hi;have hk:=zCf n e a n' cs' _ ha hcl ht
       refine ⟨cs',hk,fun k u hk=>?_⟩
       obtain⟨_,hcl',hce⟩:=World.cells?_some hcs'
       have hkl:k<P.cellsOf e:=by rw[<-hcl'];exact (q1Z.1 hk).1
       have:=hce k hkl;rw[hk]at this;rw[<-hcl];rw[<-this,zFw]
     have hll:l.length=m*a.length:=by rw[<-hl.length,zv]
     have hpos:0<l.length:=by rw[hll];exact Nat.mul_pos (by omega) h0
     have hlast:=hc (l.length-1) l[l.length-1] (by rw[q3Z])
     have hfirst:=hc 0 l[0] (by rw[q3Z])
     have had:=zH2 (w:=w) (x:=ad) (v:=l[0]) (by simpa[Addr.add] using hfirst)
     obtain⟨B,O,S⟩:=ad;cases had
     have hcell:∀(i:Nat) u,w.cell? ⟨B,O+i,none⟩=some u->∃c T fz,w.heap[B]? = some (.cells c T fz)/\c[O+i]? = some u:=by
       intro i u hu;unfold World.cell? at hu;dsimp only at hu;split at hu
       · rename_i c T fz hh
         exact⟨c,T,fz,hh,by simpa using hu⟩
       · cases hu
     obtain⟨c,T,fz,hB,hcl2⟩:=hcell (l.length-1) _ (by rw[<-zA7];exact hlast)
     have hsz:=(qtZ.1 hcl2).1;have htk:=hl.take (len*a.length);rw[zA3 _ _ _ hle]at htk
     obtain⟨ys,H1,js,g1,g2,g3,g4,g5⟩:=zEX _ _ (k+1) htk fun v _ ad len cap _=>⟨B,c,T,fz,hB⟩
     have hle2:len*a.length<=m*a.length:=Nat.mul_le_mul_right _ hle
     have hlt:(l.take (len*a.length)).length=len*a.length:=by rw[qjZ,hll];omega
     refine ⟨len,.slice k 0 len a.length false,ys,H1,some ⟨B,O,c.size⟩::js,.inr rfl,by omega,g1,by simp[g2],fun j hj i B' q hB' hq=>?_,fun j hj=>?_,fun i B' hB'=>?_⟩
     · have hj2:∀i,i<js.length->j (k+1+i)=(js[i]?).join:=fun i hi=>by
         have:=hj (i+1) (by simp;omega)
         rw[show k+1+i=k+(i+1) by omega,this]
         simp
       cases i with
       | zero =>
         simp at hB' hq
         subst hB';subst hq
         have hv:=g4 j hj2
         have hyl:ys.length=len*a.length:=by rw[hv.length,hlt]
         refine ⟨c,T,fz,hB,rfl,by dsimp only;omega,fun i x hx=>?_,fun h=>by cases h⟩
         have hi:i<(l.take (len*a.length)).length:=by rw[hlt,<-hyl];exact (q1Z.1 hx).1
         have hr:=(VRs_iff.1 hv).2 i x _ hx (q3Z hi);obtain⟨u,hu⟩:∃u,(l.take (len*a.length))[i]=u:=⟨_,rfl⟩;rw[hu]at hr
         have hu2:l[i]? = some u:=by
           have:(l.take (len*a.length))[i]? = some u:=by rw[q3Z hi,hu]
           rw[r4Z]at this;split at this
           · exact this
           · cases this
         obtain⟨c',T',fz',hB2,hu'⟩:=hcell i u (by rw[<-zA7];exact hc i u hu2)
         rw[hB]at hB2;cases hB2;exact⟨u,hu',hr⟩
       | succ i =>
         exact g3 i B' (some q) (by simpa using hB') (by simpa using hq) (by simp) j q rfl
     · simp only[VR]
       have:=hj 0 (by simp)
       exact⟨_,_,m,by simpa using this,rfl,hle,fun h=>(by cases h),hm,.inr ⟨rfl,by dsimp only;omega⟩⟩
     · cases i with
       | zero=>simp at hB';exact⟨_,hB'.symm⟩
       | succ i=>exact g5 i B' (by simpa using hB')
theorem zSa{t e:TypeId}{v:Value}(hu:P.underlying t=some (.slice e))(hv:Value.okWide P w .any base t v):v.cells=#[v]/\∀a len cap,v=.slice (some a) len cap->zDI w:=by
 have hb:zJM P t=some false:=by unfold zJM;rw[hu]
 obtain⟨_,h2,h3⟩:=zNG hb hv
 refine ⟨h2 rfl,fun a len cap hva=>h3 v (by rw[h2 rfl];simp) a len cap hva⟩
theorem zWQ{k:Nat}{H:zA}{js:List (Option JB)}(h:∀(i:Nat) B p,H[i]? = some B->js[i]? = some p->p≠none->∀j q,p=some q->BRel j w B q):zFD w k H js :=
 fun j _ i B q hB hq=>h i B (some q) hB hq (by simp) j q rfl
theorem zGg:∀(n:Nat) (ts:List TypeId) (ss:List AS) (vs:List Value) (ds:List (DataW H)) (ps:List MemPlace) (k:Nat),zEU P n ts=some ss->DataW.TrodAll enc P w base' (fun _=>true) true ts vs ds ps ->
   (∀(j:Nat) t v,ts[j]? = some t->vs[j]? = some v->Value.okWide P w .any base t v) ->
   ∃(xs:List AV) (H:zA) (js:List (Option JB)),zAF ss k xs H/\js.length=H.length/\zFD w k H js /\
     (∀j:Inj,(∀i,i<js.length->j (k+i)=(js[i]?).join)->VRs j xs vs)/\(∀(i:Nat) (B:ABlk),H[i]? = some B->∃l,B=.cells false l)
 | n,[],ss,vs,ds,ps,k,hs,hA,_=>by
   cases hs;obtain⟨rfl,_,_⟩:=trodAll_nil hA
   exact⟨[],[],[],trivial,rfl,fun j _ i B q h=>by simp at h,fun j _=>by simp[VRs],fun i B h=>by simp at h⟩
 | n,t::ts,ss,vs,ds,ps,k,hs,hA,hv=>by
   unfold zEU at hs;obtain⟨v,vs',d,ds',p,q,rfl,_,_,⟨fuel,hT⟩,hA'⟩:=trodAll_cons hA;split at hs
   · rename_i b a hb ha
     split at hs
     · rename_i hcl
       obtain⟨ss',hss,rfl⟩:=qlZ.1 hs;obtain⟨f1,f2,f3⟩:=zNG hb (hv 0 t v rfl rfl);have hc:=zCf (w:=w) n t a fuel _ _ ha hcl hT;obtain⟨ys,H1,js1,g1,g2,g3,g4,g5⟩:=zEX a _ k hc f3
       obtain⟨xs,H2,js2,k1,k2,k3,k4,k5⟩:=zGg n ts ss' vs' ds' q (k+H1.length) hss hA' fun j t' v' ht hv'=>hv (j+1) t' v' (by simpa using ht) (by simpa using hv')
       have blk:=zGj g2 (zWQ (k:=k) g3) k3;have own:=zII g5 k5
       have j1:∀j:Inj,(∀i,i<(js1++js2).length->j (k+i)=((js1++js2)[i]?).join)->VRs j ys v.cells.toList/\VRs j xs vs':=by
         intro j hj
         refine ⟨g4 j fun i hi=>?_,k4 j fun i hi=>?_⟩
         · rw[hj i (by simp;omega),q4Z hi]
         · rw[show k+H1.length+i=k+(H1.length+i) by omega,hj (H1.length+i) (by simp;omega),q5Z (by omega),g2,s3Z]
       cases b with
       | true =>
         obtain⟨cs,rfl⟩:=f1 rfl
         refine ⟨.agg ys::xs,H1++H2,js1++js2,⟨ys,H1,H2,rfl,g1,rfl,k1⟩,by simp[g2,k2],blk,fun j hj=>?_,own⟩
         obtain⟨h1,h2⟩:=j1 j hj
         exact⟨_,vs',rfl,by simp only[VR];exact⟨cs,rfl,h1⟩,h2⟩
       | false =>
         have e:=f2 rfl;rw[e]at j1 hc
         have hy:∃y,ys=[y]:=by
           have h1:=hc.length;simp at h1
           cases a with
           | nil=>simp at h1
           | cons c a =>
             cases a with
             | cons _ _=>simp at h1
             | nil =>
               cases c with
               | one p=>cases ys with
                 | nil=>simp[zAR]at g1
                 | cons y ys=>cases ys with
                   | nil=>exact⟨y,rfl⟩
                   | cons _ _=>simp[zAR]at g1
               | row el=>cases ys with
                 | nil=>simp[zAR]at g1
                 | cons y ys=>cases H1 with
                   | nil=>simp[zAR]at g1
                   | cons B H1=>cases ys with
                     | nil=>exact⟨y,rfl⟩
                     | cons _ _=>simp[zAR]at g1
         obtain⟨y,rfl⟩:=hy
         refine ⟨y::xs,H1++H2,js1++js2,⟨H1,H2,g1,rfl,k1⟩,by simp[g2,k2],blk,fun j hj=>?_,own⟩
         obtain⟨h1,h2⟩:=j1 j hj;simp[VRs]at h1;exact⟨v,vs',rfl,h1,h2⟩
     · cases hs
   · split at hs
     rotate_left
     · cases hs
     rename_i e hu;split at hs;rotate_left
     · cases hs
     rename_i a ha;split at hs;rotate_left
     · cases hs
     rename_i hcl;obtain⟨ss',hss,rfl⟩:=qlZ.1 hs;obtain⟨f2,f3⟩:=zSa hu (hv 0 t v rfl rfl);rw[f2]at hT;obtain⟨m,y,ys,H1,js1,g0,gm,g1,g2,g3,g4,g5⟩:=zTx (w:=w) k hu ha hcl.1 hcl.2 hT f3
     obtain⟨xs,H2,js2,k1,k2,k3,k4,k5⟩:=zGg n ts ss' vs' ds' q (k+1+H1.length) hss hA' fun j t' v' ht hv'=>hv (j+1) t' v' (by simpa using ht) (by simpa using hv')
     have g2':js1.length=(ABlk.cells false ys::H1).length:=by rw[g2];rfl
     have hlen:k+(ABlk.cells false ys::H1).length=k+1+H1.length:=by simp;omega
     have blk:=zGj g2' g3 (by rw[hlen];exact k3)
     have own:=zII g5 k5
     refine ⟨y::xs,(.cells false ys::H1)++H2,js1++js2,⟨m,ys,H1,H2,g0,gm,g1,rfl,k1⟩,by simp[g2,k2];omega,blk,fun j hj=>?_,own⟩
     refine ⟨v,vs',rfl,g4 j fun i hi=>?_,k4 j fun i hi=>?_⟩
     · rw[hj i (by simp;omega),q4Z hi]
     · rw[show k+1+H1.length+i=k+(js1.length+i) by omega,hj (js1.length+i) (by simp;omega),q5Z (by omega),s3Z]
   · cases hs
theorem zR0{f:FuncId}{n:Nat}{ts:List TypeId}{ss:List AS}{args:Array Value}{ds:List (DataW H)}{ps:List MemPlace}(hs:zEU P n ts=some ss)
   (hA:DataW.TrodAll enc P w base' (fun _=>true) true ts args.toList ds ps) (hv:∀(j:Nat) t v,ts[j]? = some t->args[j]? = some v->Value.okWide P w .any base t v)
   (h:∀xs H,zAF ss 0 xs H->∃H',Ct P f xs H (.bool true) H') (hg:GloW w:=by exact gloW_none _) :
   Calls P f args w fun e w'=>e=.returned (.bool true)/\Below w.heap.size w w':=by
 obtain⟨xs,H,js,h1,h2,h3,h4,h5⟩:=zGg (base:=base) n ts ss args.toList ds ps 0 hs hA fun j t v ht hv'=>hv j t v ht (by simpa using hv')
 obtain⟨H',hct⟩:=h xs H h1
 let j0:Inj:=⟨fun i=>(js[i]?).join,fun _=>[],fun _=>[]⟩
 have hj0:∀i,j0 i=(js[i]?).join:=fun _=>rfl
 have hro:H.all zHC=true:=by
   rw[s5Z];intro y hy;obtain⟨b,hb⟩:=List.getElem?_of_mem hy;obtain⟨l,rfl⟩:=h5 b y hb;rfl
 have hR:R j0 H w:=by
   refine R.ro (fun b hb=>?_) (fun b x p hb hp=>?_) hro hg
   · rw[hj0,s4Z (by omega)];rfl
   · obtain⟨q,hq,e⟩:=Option.join_eq_some_iff.1 hp |> fun h=>(⟨some p,h,rfl⟩:∃q,js[b]? = some q/\q=some p)
     exact h3 j0 (fun i hi=>by rw[s8Z,hj0]) b x p hb (by rw[hq,e])
 refine (hct _ w args hR (h4 _ fun i hi=>by rw[s8Z,hj0])).mono ?_
 rintro e w' ⟨cv,j',rfl,hv1,hst⟩;simp only[VR]at hv1;subst hv1
 refine ⟨rfl,hst.keeps.os,hst.keeps.tape,hst.keeps.output,hst.keeps.size,fun c hc=>hst.keeps.block c hc fun ⟨b,y,p,hb,hy,hp,_⟩=>?_⟩
 obtain⟨l,rfl⟩:=h5 b y hb;cases hy
end
end
theorem zLw{ts:List CT}{ss:List AS}{k:Nat}{xs:List AV}{H:zA}(h:zAF (.flat true ts::ss) k xs H):∃ys xs' H1 H2,xs=.agg ys::xs'/\zAR ts k ys H1/\H=H1++H2/\zAF ss (k+H1.length) xs' H2:=by
 cases xs with
 | nil=>exact h.elim
 | cons x xs =>
   obtain⟨ys,H1,H2,rfl,h1,h2,h3⟩:=h;exact⟨ys,xs,H1,H2,rfl,h1,h2,h3⟩
theorem zJf{ts:List CT}{ss:List AS}{k:Nat}{xs:List AV}{H:zA}(h:zAF (.rows ts::ss) k xs H) :
   ∃x xs' n ys H1 H2,xs=x::xs'/\(n=0/\x=.nils\/x=.slice k 0 n ts.length false)/\n<=maxLen/\zAR (qbZ n ts).flatten (k+1) ys H1/\H=.cells false ys::H1++H2/\zAF ss (k+1+H1.length) xs' H2:=by
 cases xs with
 | nil=>exact h.elim
 | cons x xs =>
   obtain⟨n,ys,H1,H2,h1,h2,h3,h4,h5⟩:=h;exact⟨x,xs,n,ys,H1,H2,rfl,h1,h2,h3,h4,h5⟩
theorem zLA{k:Nat}{xs:List AV}{H:zA}(h:zAF [] k xs H):xs=[]/\H=[]:=by
 cases xs <;> cases H <;> first | exact⟨rfl,rfl⟩ | exact h.elim
theorem zQA{P:Program}{f:FuncId}{args args0:List AV}{H H0 H':zA}{v:AV}(hw:Weak H.length args H args0 H0)(h:Ct P f args0 H0 v H'):Ct P f args H v H':=by
 intro j w cargs hR hargs;obtain⟨j',hs,hF'⟩:=hw.step (qnZ _) (Step.refl hR (qnZ _)) hargs;refine (h j' w cargs hs.rel hF').mono ?_;rintro e w' ⟨cv,j2,rfl,h1,h2⟩;exact⟨cv,j2,rfl,h1,hs.trans h2 hs.len⟩
section
open Go Go.Lib
attribute [-simp] zJ zT zk zL zm
structure DA where
 w:Nat
 a:Nat
 b:Nat
 s:List UInt8
 n:Int
 l:List Int
def zGw:List FuncId:=[81,105,82]
theorem zVo:GOk Pz (zAJ Pz (zj []) 0 zGw 3):=zd hmix zE 0 zGw 3
theorem zLI(d:DS)(hd:d.down=true)(k:List UInt8):Ct Pz 37 [.ptr 0 0,.str k] (d.heap []) (.tuple [.int .i64 0,.int .i64 13]) (d.heap []):=by
 have hΓ:=zVo;refine zh Tryz.func37 rfl ?_;simp only[Tryz.ntmps37,q7Z,q8Z,Nat.reduceAdd,Nat.reduceSub,qbZ,q9Z,qaZ];unfold DS.heap DS.cell0;rw[hd]
 refine Sim.step hmix hΓ (n:=0) (by simp;exact⟨rfl,rfl⟩) (by simp) ?_
 refine Sim.step hmix hΓ (n:=0) (by simp +decide [zGw,Tryz.f81];exact⟨rfl,rfl⟩) (by simp) ?_
 refine Sim.exec hmix hΓ (n:=0) (by simp +decide [zGw,Tryz.f105,Tryz.f82];exact⟨rfl,rfl,rfl⟩) (by simp) ?_
 exact⟨.inr rfl,by simp[Tryz.f37],by simp⟩
structure Ar (a:Int) (d f:DS):Prop where
 fd:d.fd=f.fd
 fs:d.fs=f.fs
 q1:d.quota=200
 q2:f.quota=200
 fa:f.armed=0
 fw:f.down=false
 da:d.armed=a
 dw:d.down=decide (a=0)
structure StepG (g:DS->DS×Int):Prop where
 same:∀d f,d.fd=f.fd->d.fs=f.fs->d.quota=f.quota->d.down=f.down->(g d).2=(g f).2/\(g d).1.fd=(g f).1.fd/\(g d).1.fs=(g f).1.fs
 rest:∀d,(g d).1.quota=d.quota/\(g d).1.armed=d.armed/\(g d).1.down=d.down
theorem zVM{d f:DS}(h1:d.fd=f.fd)(h4:d.down=f.down):d.list=f.list:=by unfold DS.list;rw[h1,h4]
theorem zVa{d f:DS}(h1:d.fd=f.fd)(h2:d.fs=f.fs)(k:List UInt8):d.text k=f.text k:=by unfold DS.text DS.file;rw[h1,h2]
theorem zTe{d f:DS}(h1:d.fd=f.fd)(h2:d.fs=f.fs)(h4:d.down=f.down):d.files=f.files:=by
 unfold DS.files;rw[zVM h1 h4]
 exact List.map_congr_left fun k _=>by rw[zVa h1 h2]
theorem zVD{d f:DS}(h1:d.fd=f.fd)(h2:d.fs=f.fs)(h4:d.down=f.down):d.used=f.used:=by rw[DS.used_sum,DS.used_sum,zTe h1 h2 h4]
abbrev KM:=List (List UInt8×List UInt8×Bool)
def KM.get:KM->List UInt8->Option (List UInt8×Bool)
 | [],_=>none
 | e::l,k=>if e.1=k then some e.2 else KM.get l k
def KM.keys(l:KM):List (List UInt8):=l.map (·.1)
def zWx(s:List UInt8)(f:PF):Prop:=∀i,s <+: (Z7 f.d (f.acts.take i)).take 10000
def zYe(fd:FD)(fs:FS)(k s:List UInt8):Prop:=∃n f,fd.each (fun l _=>NM.get l k=some n)/\FS.get fs n=some f/\zWx s f
structure KInv (q A B:Nat) (d:DS) (m:KM):Prop where
 ok:d.ok A B
 up:d.down=false
 arm:d.armed=0
 quota:d.quota=q
 nd:(KM.keys m).Nodup
 kept:∀k s,KM.get m k=some (s,false)->zYe d.fd d.fs k s
theorem DS.count_up{d:DS}(h:d.armed=0):d.count=⟨d.fd,d.fs,d.quota,d.steps+1,d.armed,d.down⟩:=by unfold DS.count;rw[if_neg (by rw[h];simp)]
theorem DS.step_up{d:DS}(h:d.armed=0)(hd:d.down=false)(g:DS->DS×Int):d.step g=g ⟨d.fd,d.fs,d.quota,d.steps+1,d.armed,d.down⟩:=by
 unfold DS.step
 rw[DS.count_up h,if_neg (by dsimp only;rw[hd];decide)]
theorem PF.now_add(f:PF)(m:List UInt8):(f.add m).now=f.now++m:=by
 unfold PF.add;split
 · rename_i h;simp[h]
 · simp[PF.now,zBT,Z7,FAct.run]
end
section
open Go Go.Lib
def Zh(fs:FS)(l:NM)(k:List UInt8):Option PF:=(NM.get l k).bind (FS.get fs)
theorem zAV{fs:FS}{l:NM}{k:List UInt8}{f:PF}(h:Zh fs l k=some f):∃n,NM.get l k=some n/\FS.get fs n=some f:=by
 unfold Zh at h
 cases hg:NM.get l k with
 | none=>rw[hg]at h;cases h
 | some n=>rw[hg]at h;exact⟨n,rfl,h⟩
theorem zAL{fs:FS}{l:NM}{k:List UInt8}{n:Int}(h:NM.get l k=some n):Zh fs l k=FS.get fs n:=by unfold Zh;rw[h];rfl
theorem zD8{fs:FS}{l:NM}{k:List UInt8}(h:NM.get l k=none):Zh fs l k=none:=by unfold Zh;rw[h];rfl
theorem DS.step_cases{d:DS}(_hd:d.down=false)(g:DS->DS×Int) :
   (∃d0:DS,d.step g=(d0,13)/\d0.fd=d.fd/\d0.fs=d.fs/\d0.quota=d.quota/\d0.down=true)\/(∃d0:DS,d.step g=g d0/\d0.fd=d.fd/\d0.fs=d.fs/\d0.quota=d.quota/\d0.down=false):=by
 unfold DS.step
 cases h:d.count.down with
 | true=>exact .inl ⟨d.count,by simp,by simp,by simp,by simp,h⟩
 | false=>exact .inr ⟨d.count,by simp,by simp,by simp,by simp,h⟩
def Stage(r:DS×Int)(q:Int)(P B:FD->FS->Prop):Prop:=r.1.quota=q/\((r.2=0/\r.1.down=false/\P r.1.fd r.1.fs)\/(r.2=13/\r.1.down=true/\B r.1.fd r.1.fs))
def zRx(r:DS×Int)(k:DS->DS×Int):DS×Int:=if r.2=0 then k r.1 else r
theorem Stage.seq{r:DS×Int}{q:Int}{P Q B:FD->FS->Prop}{k:DS->DS×Int}(h:Stage r q P B)(hk:∀d:DS,d.quota=q->d.down=false->P d.fd d.fs->Stage (k d) q Q B):Stage (zRx r k) q Q B:=by
 unfold zRx;obtain⟨h0,⟨h1,h2,h3⟩ | ⟨h1,h2,h3⟩⟩:=h
 · rw[if_pos h1];exact hk _ h0 h2 h3
 · rw[if_neg (by omega)];exact⟨h0,.inr ⟨h1,h2,h3⟩⟩
theorem zEq{d:DS}(hd:d.down=false){P B:FD->FS->Prop}{g:DS->DS×Int}(hB:B d.fd d.fs)
   (hg:∀d0:DS,d0.fd=d.fd->d0.fs=d.fs->d0.quota=d.quota->d0.down=false->∃fd fs,g d0=(⟨fd,fs,d0.quota,d0.steps,d0.armed,d0.down⟩,0)/\P fd fs):Stage (d.step g) d.quota P B:=by
 rcases DS.step_cases hd g with⟨d0,h1,h2,h3,h4,h5⟩ | ⟨d0,h1,h2,h3,h4,h5⟩
 · rw[h1]
   exact⟨h4,.inr ⟨rfl,h5,by dsimp only;rw[h2,h3];exact hB⟩⟩
 · rw[h1]
   obtain⟨fd,fs,h6,h7⟩:=hg d0 h2 h3 h4 h5;rw[h6];exact⟨h4,.inl ⟨rfl,h5,h7⟩⟩
theorem zLF{d:DS}(hd:d.down=false){P B:FD->FS->Prop}{x:List UInt8}(hm:zOG x)(hx:d.fd.now.get x=none)(hB:B d.fd d.fs)
   (hP:P ⟨d.fd.d,d.fd.acts++[.cre x (d.fd.last+1)],d.fd.last+1⟩ (d.fs++[(d.fd.last+1,⟨[],[]⟩)])):Stage (d.create x) d.quota P B:=by
 refine zEq hd hB fun d0 h1 h2 h3 h4=>⟨_,_,?_,hP⟩
 rw[h1,h2];unfold FD.create;rw[if_pos hm,hx];rfl
theorem zIG{d:DS}(hd:d.down=false){P B:FD->FS->Prop}{x:List UInt8}{n:Int}{f f':PF}(hx:d.fd.now.get x=some n)(hf:FS.get d.fs n=some f){g:DS->PF->PF×Int}(hB:B d.fd d.fs)
   (hg:∀d0:DS,d0.fd=d.fd->d0.fs=d.fs->d0.quota=d.quota->d0.down=false->g d0 f=(f',0)) (hP:P d.fd (FS.upd d.fs n fun _=>f')):Stage (d.of x g) d.quota P B:=by
 refine zEq hd hB fun d0 h1 h2 h3 h4=>⟨_,_,?_,hP⟩
 rw[h1,hx,h2];dsimp only;rw[hf];dsimp only;rw[hg d0 h1 h2 h3 h4]
theorem zRE{d d0:DS}(h1:d0.fd=d.fd)(h2:d0.fs=d.fs)(h3:d0.quota=d.quota)(h4:d0.down=d.down):d0.room=d.room:=by
 unfold DS.room;rw[h3,zVD h1 h2 h4]
theorem zLX{d:DS}(hd:d.down=false){P B:FD->FS->Prop}{x:List UInt8}{n:Int}{f:PF}(hx:d.fd.now.get x=some n)(hf:FS.get d.fs n=some f){s:List UInt8}(hs:s.length<=d.room)(hB:B d.fd d.fs)
   (hP:P d.fd (FS.upd d.fs n fun _=>f.add s)):Stage (d.append x s) d.quota P B:=by
 refine zIG hd hx hf hB (fun d0 h1 h2 h3 h4=>?_) hP
 rw[if_neg];rw[zRE h1 h2 h3 (h4.trans hd.symm)];omega
theorem zEu{d:DS}(hd:d.down=false){P B:FD->FS->Prop}{x:List UInt8}{n:Int}{f:PF}(hx:d.fd.now.get x=some n)(hf:FS.get d.fs n=some f)(hB:B d.fd d.fs)
   (hP:P d.fd (FS.upd d.fs n fun _=>⟨f.now,[]⟩)):Stage (d.sync x) d.quota P B:=zIG hd hx hf hB (fun _ _ _ _ _=>rfl) hP
theorem zJj{d:DS}(hd:d.down=false){P B:FD->FS->Prop}(hB:B d.fd d.fs)(hP:P ⟨d.fd.now,[],d.fd.last⟩ d.fs):Stage d.syncDir d.quota P B:=by
 refine zEq hd hB fun d0 h1 h2 h3 h4=>⟨_,_,rfl,?_⟩
 rw[h1,h2]
 have:d.fd.survive d.fd.acts.length=⟨d.fd.now,[],d.fd.last⟩:=by
   unfold FD.survive FD.now
   have:d.fd.clamp d.fd.acts.length=d.fd.acts.length:=by unfold FD.clamp;omega
   rw[this,List.take_length]
 rw[this];exact hP
theorem zJv(fd:FD):∀(ks:List (List UInt8)) (st:List Int×FS×List Int) (n:Int) (f:PF),FS.get st.2.1 n=some f->∃f',FS.get (ks.foldl (zAQ fd) st).2.1 n=some f'/\∀p:PF->Prop,p f->(∀g a b,p g->p ⟨g.stays a b,[]⟩)->p f'
 | [],st,n,f,h=>⟨f,h,fun p hp _=>hp⟩
 | k::ks,st,n,f,h=>by
   rw[List.foldl_cons]
   have h4:∃f',FS.get (zAQ fd st k).2.1 n=some f'/\∀p:PF->Prop,p f->(∀g a b,p g->p ⟨g.stays a b,[]⟩)->p f':=by
     simp only[zAQ];rw[FS.get_upd];split
     · rename_i e
       rw[<-e,h]
       exact⟨_,rfl,fun p hp hq=>hq _ _ _ hp⟩
     · exact⟨f,h,fun p hp _=>hp⟩
   obtain⟨f1,g1,g2⟩:=h4;obtain⟨f2,g3,g4⟩:=zJv fd ks _ n f1 g1
   exact⟨f2,g3,fun p hp hq=>g4 p (g2 p hp hq) hq⟩
theorem zFm{d:DS}{A B:Nat}(hok:d.ok A B)(l:List Int):∃i,i<=d.fd.acts.length/\(d.restart l).fd=⟨ZP d.fd.d (d.fd.acts.take i),[],d.fd.last⟩/\(d.restart l).down=false/\(d.restart l).quota=d.quota/\(d.restart l).armed=0 /\
   ∀k,(Zh d.fs (ZP d.fd.d (d.fd.acts.take i)) k=none/\Zh (d.restart l).fs (d.restart l).fd.now k=none) \/
     ∃f f',Zh d.fs (ZP d.fd.d (d.fd.acts.take i)) k=some f/\Zh (d.restart l).fs (d.restart l).fd.now k=some f'/\∀p:PF->Prop,p f->(∀g a b,p g->p ⟨g.stays a b,[]⟩)->p f':=by
 have hc:d.fd.clamp (l.headD 0)<=d.fd.acts.length:=by unfold FD.clamp;omega
 refine ⟨d.fd.clamp (l.headD 0),hc,rfl,rfl,rfl,rfl,fun k=>?_⟩
 obtain⟨fd,hfd⟩:∃fd,d.fd.survive (l.headD 0)=fd:=⟨_,rfl⟩
 have hnow:ZP d.fd.d (d.fd.acts.take (d.fd.clamp (l.headD 0)))=fd.now:=by rw[<-hfd];rfl
 obtain⟨r,hr⟩:∃r,zBM fd l.tail d.fs fd.names=r:=⟨_,rfl⟩
 have hd:d.restart l=⟨fd,zAv r.2.1 r.2.2,d.quota,d.steps,0,false⟩:=by
   unfold DS.restart;rw[hfd,hr]
 rw[hnow,hd];have hhas:=hok.has _ hc;rw[hnow]at hhas
 cases hg:NM.get fd.now k with
 | none=>exact .inl ⟨zD8 hg,zD8 hg⟩
 | some n =>
   obtain⟨f,hf⟩:=FS.get_some.2 (hhas k n hg);obtain⟨f',g1,g2⟩:=zJv fd fd.names (l.tail,d.fs,[]) n f hf
   have g1':FS.get r.2.1 n=some f':=by rw[<-hr];exact g1
   have hmem:n∈r.2.2:=by
     rw[<-hr];unfold zBM;rw[zB7]
     exact .inr ⟨k,FD.names_of hg,by rw[FD.find_get hg]⟩
   exact .inr ⟨f,f',by rw[zAL hg,hf],by rw[zAL hg,zGf _ _ _ hmem,g1'];rfl,g2⟩
theorem PF.stays_settled(s:List UInt8)(a b:Int):(⟨s,[]⟩:PF).stays a b=s:=by
 simp[PF.stays,Z7]
theorem zNS{d:DS}(hd:d.down=false){k:List UInt8}{f:PF}{m:Nat}(h:Zh d.fs d.fd.now k=some f)(hm:f.now.length<=m):d.readAt k 0 m=(f.now,0):=by
 obtain⟨n,h1,h2⟩:=zAV h;unfold DS.readAt;rw[hd,h1];simp only[qsZ,if_false];rw[h2];unfold PF.readAt;dsimp only
 rw[if_neg (by omega)]
 simp only[Int.toNat_zero,List.drop_zero,Int.toNat_natCast];rw[q6Z hm]
theorem FS.get_new{l:FS}{m:Int}{f:PF}(h:m∉FS.keys l):FS.get (l++[(m,f)]) m=some f:=by
 rw[FS.get_app,FS.get_none.2 h];exact if_pos rfl
structure Core (fd:FD) (fs:FS):Prop where
 num:fd.numOk
 has:fd.each (zOE fs)
 rng:∀n∈FS.keys fs,n<=fd.last
theorem DS.ok.core{d:DS}{A B:Nat}(h:d.ok A B):Core d.fd d.fs:=⟨h.num,h.has,fun n hn=>(h.rng n hn).2⟩
theorem Core.fresh{fd:FD}{fs:FS}(h:Core fd fs):fd.last+1∉FS.keys fs:=fun hn=>by have:=h.rng _ hn;omega
abbrev fdN(fd:FD)(x:List UInt8):FD:=⟨fd.d,fd.acts++[.cre x (fd.last+1)],fd.last+1⟩
abbrev fsN(fd:FD)(fs:FS)(f:PF):FS:=fs++[(fd.last+1,f)]
theorem zTz(fd:FD)(x:DAct)(n:Int):(⟨fd.d,fd.acts++[x],n⟩:FD).now=x.run fd.now:=by
 unfold FD.now;rw[zBi];rfl
theorem Core.new{fd:FD}{fs:FS}(h:Core fd fs){x:List UInt8}(hx:fd.now.get x=none)(hm:zOG x)(f:PF):Core (fdN fd x) (fsN fd fs f):=by
 refine ⟨?_,?_,?_⟩
 · have:=FD.numOk_create h.num x
   unfold FD.create at this;rw[if_pos hm,hx]at this;exact this
 · have hk:∀n∈FS.keys fs,n∈FS.keys (fsN fd fs f):=fun n hn=>by simp only[FS.keys,roZ,qxZ]at hn ⊢;exact .inl hn
   refine FD.each_one (zDv h.has (zEP hk)) (fun _ _ _ _ h=>h) _ rfl rfl (by dsimp only;omega) ?_
   intro k n hn;simp only[DAct.run]at hn;rw[NM.get_put]at hn;split at hn
   · cases hn;simp[FS.keys]
   · exact hk n (FD.each_now h.has k n hn)
 · intro n hn
   simp only[FS.keys,roZ,qxZ,s1Z,List.map_nil,r1Z]at hn;rcases hn with hn | hn
   · have:=h.rng n hn;dsimp only;omega
   · dsimp only;omega
theorem Core.files{fd:FD}{fs gs:FS}(h:Core fd fs)(hk:FS.keys gs=FS.keys fs):Core fd gs:=⟨h.num,zDv h.has (zEP fun n hn=>by rw[hk];exact hn),fun n hn=>h.rng n (by rw[<-hk];exact hn)⟩
def txt(fs:FS)(l:NM)(k:List UInt8):List UInt8:=((Zh fs l k).map PF.now).getD []
def zQa(fs:FS)(l:NM):Nat:=(l.keys.map fun k=>(txt fs l k).length).sum
theorem zXW{d:DS}(hd:d.down=false):d.used=zQa d.fs d.fd.now:=by
 have ht:∀k,d.text k=txt d.fs d.fd.now k:=fun k=>by
   unfold DS.text DS.file txt Zh
   cases d.fd.now.get k with
   | none=>rfl
   | some n =>
     dsimp only[Option.bind_some]
     cases FS.get d.fs n <;> rfl
 unfold DS.used zQa DS.list;rw[hd];simp only[qsZ,if_false]
 rw[List.map_congr_left (fun k _=>by rw[ht k])]
 unfold FD.names;exact ((ZK _).map _).sum_nat
def zXX(g:DS->DS×Int):Prop:=∀d:DS,d.armed=0->d.down=false->(g d).1.armed=0/\(g d).1.down=false
theorem zRC{g:DS->DS×Int}(hg:∀d,(g d).1.armed=d.armed/\(g d).1.down=d.down):zXX fun d=>d.step g:=fun d h1 h2=>by
 dsimp only;rw[DS.step_up h1 h2];have:=hg ⟨d.fd,d.fs,d.quota,d.steps+1,d.armed,d.down⟩;exact⟨this.1.trans h1,this.2.trans h2⟩
theorem zQu(x:List UInt8)(g:DS->PF->PF×Int):zXX fun d=>d.of x g:=zRC fun d=>by
 split
 · exact⟨rfl,rfl⟩
 · split <;> exact⟨rfl,rfl⟩
theorem zKA(x:List UInt8):zXX fun d=>d.sync x:=zQu x _
theorem zK8(d:DS)(x:List UInt8):(d.create x).1.quota=d.quota:=by
 unfold DS.create DS.step;split
 · simp
 · dsimp only
   split <;> simp
def zS2(s:List UInt8)(o:Option PF):Prop:=o=none\/∃f,o=some f/\∀i,Z7 f.d (f.acts.take i) <+: s
theorem zM2{s:List UInt8}(g:PF)(a b:Int)(h:zS2 s (some g)):zS2 s (some ⟨g.stays a b,[]⟩):=by
 rcases h with h | ⟨f,e,h⟩
 · cases h
 cases e
 refine .inr ⟨_,rfl,fun i=>?_⟩
 have key:g.stays a b <+: s:=by
   unfold PF.stays;dsimp only;obtain⟨n,hn⟩:∃n,(inI a 0 g.acts.length).toNat=n:=⟨_,rfl⟩;rw[hn]
   cases hg:g.acts[n]? with
   | none=>simpa using h n
   | some y =>
     cases y with
     | cut m=>simpa using h n
     | add m =>
       dsimp only;have hlt:n<g.acts.length:=(q1Z.1 hg).1;have h2:=h (n+1);rw[zD5 _ _ _ hlt]at h2
       have e:g.acts[n]=.add m:=by rw[q3Z hlt]at hg;exact Option.some.inj hg
       rw[e]at h2;simp only[FAct.run]at h2;refine List.IsPrefix.trans ?_ h2;exact (List.prefix_append_right_inj _).2 (List.take_prefix _ _)
 simpa[Z7] using key
theorem zR7{s:List UInt8}{f:PF}(h:zS2 s (some f)):f.now <+: s:=by
 rcases h with h | ⟨g,e,h⟩
 · cases h
 cases e;have:=h f.acts.length;rw[List.take_length]at this;exact this
theorem zMM{d:DS}(hd:d.down=false)(x:List UInt8):x∈d.list↔d.fd.now.get x≠none:=by
 unfold DS.list;rw[hd];simp only[qsZ,if_false];constructor
 · intro h e
   obtain⟨n,hn⟩:=FD.names_get h;rw[hn]at e;cases e
 · intro h
   cases hg:d.fd.now.get x with
   | none=>exact absurd hg h
   | some n=>exact FD.names_of hg
end
end Go.Proofs.YthafeihjlamhhaaGreatDoor
