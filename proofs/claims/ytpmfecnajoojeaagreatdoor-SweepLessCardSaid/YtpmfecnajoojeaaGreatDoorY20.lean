/- Parts of the proof of SweepLess: lemmas, each with its own conditions. -/
import Derived.Test.YtpmfecnajoojeaaGreatDoorY19
set_option maxHeartbeats 64000000
open List renaming getElem?_eq_some_iff → q1Z, getElem?_eq_getElem → q3Z, getElem?_append_left → q4Z, getElem?_append_right → q5Z, replicate → qbZ, length_take → qjZ, append_nil → r2Z, getElem?_take → r4Z, flatten_cons → rcZ, getElem?_eq_none → s4Z, all_eq_true → s5Z, flatten_append → sgZ
open Option renaming map_eq_some_iff → qlZ
open Nat renaming le_refl → qnZ, zero_le → qqZ, add_sub_cancel_left → s3Z, zero_add → s8Z
open Array renaming getElem?_eq_some_iff → qtZ
namespace Go.Proofs.YtpmfecnajoojeaaGreatDoor
set_option maxRecDepth 100000
section
open Go.ChangeShapes Go.WideShapes Go.ChangeAt Go.RowKit
inductive AS where
 | flat (b:Bool) (ts:List CT)
 | rows (ts:List CT)
 deriving DecidableEq
def AbsArgs2:List AS→Nat→List AV→AHeap→Prop
 | [],_,[],[]=>True
 | .flat true ts::ss,k,x::xs,H=>∃ys H1 H2,x=.agg ys∧AbsOk ts k ys H1∧H=H1++H2∧AbsArgs2 ss (k+H1.length) xs H2
 | .flat false ts::ss,k,x::xs,H=>∃H1 H2,AbsOk ts k [x] H1∧H=H1++H2∧AbsArgs2 ss (k+H1.length) xs H2
 | .rows ts::ss,k,x::xs,H=>∃n ys H1 H2,(n=0∧x=.nils∨x=.slice k 0 n ts.length false)∧n≤maxLen∧AbsOk (qbZ n ts).flatten (k+1) ys H1∧H=.cells false ys::H1++H2∧AbsArgs2 ss (k+1+H1.length) xs H2
 | _,_,_,_=>False
def shapes2(P:Program)(n:Nat):List TypeId→Option (List AS)
 | []=>some []
 | t::ts=>match isAggT P t,flat P n t with
   | some b,some a=>if P.cellsOf t=a.length then (shapes2 P n ts).map (.flat b a::·) else none
   | _,none=>match P.underlying t with
     | some (.slice e)=>match flat P n e with
       | some a=>if P.cellsOf e=a.length∧0<a.length then (shapes2 P n ts).map (.rows a::·) else none
       | none=>none
     | _=>none
   | none,some _=>none
section
variable {H:Type} {enc:TypeId×Value→H} {P:Program} {w:World} {base base':Nat}
theorem rows_join2{el:List CT}{a:Addr}:∀(m:Nat),(∀i,i<m→∃cs:List Value,All2 (CellOk w) el cs∧∀k u,cs[k]? = some u→w.cell? (a.add (i*el.length+k))=some u) →
   ∃l,All2 (CellOk w) (qbZ m el).flatten l∧∀i u,l[i]? = some u→w.cell? (a.add i)=some u
 | 0,_=>⟨[],trivial,fun i u h=>by simp at h⟩
 | m+1,h=>by
   obtain⟨l,h1,h2⟩:=rows_join2 m fun i hi=>h i (by omega)
   obtain⟨cs,g1,g2⟩:=h m (by omega)
   have hl:l.length=m*el.length:=by rw[←h1.length,flatten_replicate_length]
   refine ⟨l++cs,?_,fun i u hi=>?_⟩
   · rw[List.replicate_succ',sgZ]
     simp only[rcZ,List.flatten_nil,r2Z];exact h1.append g1
   · by_cases hlt:i<l.length
     · rw[q4Z hlt]at hi
       exact h2 i u hi
     · rw[q5Z (by omega)]at hi
       have:=g2 _ u hi
       rw[show m*el.length+(i-l.length)=i by omega]at this
       exact this
def BlksOk(w:World)(k:Nat)(H:AHeap)(js:List (Option JB)):Prop :=
 ∀j:Inj,(∀i,i<js.length→j (k+i)=(js[i]?).join)→∀(i:Nat) B q,H[i]? = some B→js[i]? = some (some q)→BRel j w B q
theorem blks_append{k:Nat}{H1 H2:AHeap}{js1 js2:List (Option JB)}(hl:js1.length=H1.length)(h1:BlksOk w k H1 js1)(h2:BlksOk w (k+H1.length) H2 js2):BlksOk w k (H1++H2) (js1++js2):=by
 intro j hj i B q hB hq
 have j1:∀i,i<js1.length→j (k+i)=(js1[i]?).join:=fun i hi=>by
   rw[hj i (by simp;omega),q4Z hi]
 have j2:∀i,i<js2.length→j (k+H1.length+i)=(js2[i]?).join:=fun i hi=>by
   rw[show k+H1.length+i=k+(H1.length+i) by omega,hj (H1.length+i) (by simp;omega),q5Z (by omega),hl,s3Z]
 by_cases hi:i<H1.length
 · rw[q4Z hi]at hB
   rw[q4Z (by omega)]at hq
   exact h1 j j1 i B q hB hq
 · rw[q5Z (by omega)]at hB
   rw[q5Z (by omega),hl]at hq
   exact h2 j j2 _ B q hB hq
theorem own_append{H1 H2:AHeap}(h1:∀(i:Nat) (B:ABlk),H1[i]? = some B→∃l,B=.cells false l)(h2:∀(i:Nat) (B:ABlk),H2[i]? = some B→∃l,B=.cells false l):∀(i:Nat) (B:ABlk),(H1++H2)[i]? = some B→∃l,B=.cells false l:=by
 intro i B hB;by_cases hi:i<H1.length
 · rw[q4Z hi]at hB
   exact h1 i B hB
 · rw[q5Z (by omega)]at hB
   exact h2 _ B hB
theorem rows_abs{n:Nat}{t e:TypeId}{a:List CT}{v:Value}{fuel:Nat}{x:DataW H×List MemPlace}(k:Nat)(hu:P.underlying t=some (.slice e))(ha:flat P n e=some a)(hcl:P.cellsOf e=a.length)(h0:0<a.length)
   (hx:DataW.trod enc P w base' (fun _=>true) true fuel t [v]=some x) (hE:∀ad len cap,v=.slice (some ad) len cap→SomeBlk w) :
   ∃(m:Nat) (y:AV) (ys:List AV) (H1:AHeap) (js:List (Option JB)),(m=0∧y=.nils∨y=.slice k 0 m a.length false)∧m≤maxLen∧AbsOk (qbZ m a).flatten (k+1) ys H1∧js.length=H1.length+1∧BlksOk w k (.cells false ys::H1) js ∧
     (∀j:Inj,(∀i,i<js.length→j (k+i)=(js[i]?).join)→VR j y v)∧(∀(i:Nat) (B:ABlk),(ABlk.cells false ys::H1)[i]? = some B→∃l,B=.cells false l):=by
 have none_ok:∀(p:Option JB),(∀q,p=some q→∃cs T fz,w.heap[q.blk]? = some (.cells cs T fz)∧cs.size=q.size∧q.base≤q.size)→BlksOk w k [.cells false []] [p]:=by
   intro p hp j _ i B q hB hq
   have hi:i=0:=by
     have:=(q1Z.1 hB).1;simpa using this
   subst hi;cases hB;simp at hq;obtain⟨cs,T,fz,h1,h2,h3⟩:=hp q hq
   exact⟨cs,T,fz,h1,h2,by simpa using h3,fun i x hx=>by simp at hx,fun h=>by cases h⟩
 have one_own:∀(i:Nat) (B:ABlk),[ABlk.cells false []][i]? = some B→∃l,B=.cells false l:=by
   intro i B hB
   have hi:i=0:=by
     have:=(q1Z.1 hB).1;simpa using this
   subst hi;cases hB;exact⟨[],rfl⟩
 rcases Deep.open_slice hu hx with⟨hv1,_⟩ | ⟨ad,len,cap,m,n',D,Pl,hv1,_,hle,hm,hmm,_,hel2⟩
 · obtain rfl:v=.slice none 0 0:=by simpa using hv1
   refine ⟨0,.nils,[],[],[none],.inl ⟨rfl,rfl⟩,qqZ _,trivial,rfl,none_ok none (fun q h=>by cases h),fun j _=>by simp[VR],one_own⟩
 · obtain rfl:v=.slice (some ad) len cap:=by simpa using hv1
   simp at hmm;subst hmm;by_cases hz:m=0
   · subst hz
     obtain rfl:len=0:=by omega
     obtain⟨q,c,T,fz,hq⟩:=hE ad 0 0 rfl
     refine ⟨0,.slice k 0 0 a.length false,[],[],[some ⟨q,0,c.size⟩],.inr rfl,qqZ _,trivial,rfl,none_ok _ (fun q' h=>by cases h;exact⟨c,T,fz,hq,rfl,qqZ _⟩),fun j hj=>?_,one_own⟩
     simp only[VR]
     have:=hj 0 (by simp)
     exact⟨_,ad,0,by simpa using this,rfl,qnZ _,fun h=>(by cases h),hm,.inl rfl⟩
   · obtain⟨l,hl,hc⟩:=rows_join2 (w:=w) (el:=a) (a:=ad) m fun i hi=>by
       obtain⟨cs',hcs',ht⟩:=hel2 i hi;have hk:=trod_flat n e a n' cs' _ ha hcl ht
       refine ⟨cs',hk,fun k u hk=>?_⟩
       obtain⟨_,hcl',hce⟩:=World.cells?_some hcs'
       have hkl:k<P.cellsOf e:=by rw[←hcl'];exact (q1Z.1 hk).1
       have:=hce k hkl;rw[hk]at this;rw[←hcl];rw[←this,addr_add_add]
     have hll:l.length=m*a.length:=by rw[←hl.length,flatten_replicate_length]
     have hpos:0<l.length:=by rw[hll];exact Nat.mul_pos (by omega) h0
     have hlast:=hc (l.length-1) l[l.length-1] (by rw[q3Z])
     have hfirst:=hc 0 l[0] (by rw[q3Z])
     have had:=addr_plain (w:=w) (x:=ad) (v:=l[0]) (by simpa[Addr.add] using hfirst)
     obtain⟨B,O,S⟩:=ad;cases had
     have hcell:∀(i:Nat) u,w.cell? ⟨B,O+i,none⟩=some u→∃c T fz,w.heap[B]? = some (.cells c T fz)∧c[O+i]? = some u:=by
       intro i u hu;unfold World.cell? at hu;dsimp only at hu;split at hu
       · rename_i c T fz hh
         exact⟨c,T,fz,hh,by simpa using hu⟩
       · cases hu
     obtain⟨c,T,fz,hB,hcl2⟩:=hcell (l.length-1) _ (by rw[←addr_plain_add];exact hlast)
     have hsz:=(qtZ.1 hcl2).1;have htk:=hl.take (len*a.length);rw[take_flatten_replicate _ _ _ hle]at htk
     obtain⟨ys,H1,js,g1,g2,g3,g4,g5⟩:=cells_abs _ _ (k+1) htk fun v _ ad len cap _=>⟨B,c,T,fz,hB⟩
     have hle2:len*a.length≤m*a.length:=Nat.mul_le_mul_right _ hle
     have hlt:(l.take (len*a.length)).length=len*a.length:=by rw[qjZ,hll];omega
     refine ⟨len,.slice k 0 len a.length false,ys,H1,some ⟨B,O,c.size⟩::js,.inr rfl,by omega,g1,by simp[g2],fun j hj i B' q hB' hq=>?_,fun j hj=>?_,fun i B' hB'=>?_⟩
     · have hj2:∀i,i<js.length→j (k+1+i)=(js[i]?).join:=fun i hi=>by
         have:=hj (i+1) (by simp;omega)
         rw[show k+1+i=k+(i+1) by omega,this]
         simp
       cases i with
       | zero =>
         simp at hB' hq
         subst hB';subst hq
         have hv:=g4 j hj2
         have hyl:ys.length=len*a.length:=by rw[hv.length,hlt]
         refine ⟨c,T,fz,hB,rfl,by dsimp only;omega,fun i x hx=>?_,fun h=>by cases h⟩
         have hi:i<(l.take (len*a.length)).length:=by rw[hlt,←hyl];exact (q1Z.1 hx).1
         have hr:=(VRs_iff.1 hv).2 i x _ hx (q3Z hi);obtain⟨u,hu⟩:∃u,(l.take (len*a.length))[i]=u:=⟨_,rfl⟩;rw[hu]at hr
         have hu2:l[i]? = some u:=by
           have:(l.take (len*a.length))[i]? = some u:=by rw[q3Z hi,hu]
           rw[r4Z]at this;split at this
           · exact this
           · cases this
         obtain⟨c',T',fz',hB2,hu'⟩:=hcell i u (by rw[←addr_plain_add];exact hc i u hu2)
         rw[hB]at hB2;cases hB2;exact⟨u,hu',hr⟩
       | succ i =>
         exact g3 i B' (some q) (by simpa using hB') (by simpa using hq) (by simp) j q rfl
     · simp only[VR]
       have:=hj 0 (by simp)
       exact⟨_,_,m,by simpa using this,rfl,hle,fun h=>(by cases h),hm,.inr ⟨rfl,by dsimp only;omega⟩⟩
     · cases i with
       | zero=>simp at hB';exact⟨_,hB'.symm⟩
       | succ i=>exact g5 i B' (by simpa using hB')
theorem val_slice{t e:TypeId}{v:Value}(hu:P.underlying t=some (.slice e))(hv:Value.okWide P w .any base t v):v.cells=#[v]∧∀a len cap,v=.slice (some a) len cap→SomeBlk w:=by
 have hb:isAggT P t=some false:=by unfold isAggT;rw[hu]
 obtain⟨_,h2,h3⟩:=val_form hb hv
 refine ⟨h2 rfl,fun a len cap hva=>h3 v (by rw[h2 rfl];simp) a len cap hva⟩
theorem blks_of{k:Nat}{H:AHeap}{js:List (Option JB)}(h:∀(i:Nat) B p,H[i]? = some B→js[i]? = some p→p≠none→∀j q,p=some q→BRel j w B q):BlksOk w k H js :=
 fun j _ i B q hB hq=>h i B (some q) hB hq (by simp) j q rfl
theorem args_abs2:∀(n:Nat) (ts:List TypeId) (ss:List AS) (vs:List Value) (ds:List (DataW H)) (ps:List MemPlace) (k:Nat),shapes2 P n ts=some ss→DataW.TrodAll enc P w base' (fun _=>true) true ts vs ds ps →
   (∀(j:Nat) t v,ts[j]? = some t→vs[j]? = some v→Value.okWide P w .any base t v) →
   ∃(xs:List AV) (H:AHeap) (js:List (Option JB)),AbsArgs2 ss k xs H∧js.length=H.length∧BlksOk w k H js ∧
     (∀j:Inj,(∀i,i<js.length→j (k+i)=(js[i]?).join)→VRs j xs vs)∧(∀(i:Nat) (B:ABlk),H[i]? = some B→∃l,B=.cells false l)
 | n,[],ss,vs,ds,ps,k,hs,hA,_=>by
   cases hs;obtain⟨rfl,_,_⟩:=trodAll_nil hA
   exact⟨[],[],[],trivial,rfl,fun j _ i B q h=>by simp at h,fun j _=>by simp[VRs],fun i B h=>by simp at h⟩
 | n,t::ts,ss,vs,ds,ps,k,hs,hA,hv=>by
   unfold shapes2 at hs;obtain⟨v,vs',d,ds',p,q,rfl,_,_,⟨fuel,hT⟩,hA'⟩:=trodAll_cons hA;split at hs
   · rename_i b a hb ha
     split at hs
     · rename_i hcl
       obtain⟨ss',hss,rfl⟩:=qlZ.1 hs;obtain⟨f1,f2,f3⟩:=val_form hb (hv 0 t v rfl rfl);have hc:=trod_flat (w:=w) n t a fuel _ _ ha hcl hT;obtain⟨ys,H1,js1,g1,g2,g3,g4,g5⟩:=cells_abs a _ k hc f3
       obtain⟨xs,H2,js2,k1,k2,k3,k4,k5⟩:=args_abs2 n ts ss' vs' ds' q (k+H1.length) hss hA' fun j t' v' ht hv'=>hv (j+1) t' v' (by simpa using ht) (by simpa using hv')
       have blk:=blks_append g2 (blks_of (k:=k) g3) k3;have own:=own_append g5 k5
       have j1:∀j:Inj,(∀i,i<(js1++js2).length→j (k+i)=((js1++js2)[i]?).join)→VRs j ys v.cells.toList∧VRs j xs vs':=by
         intro j hj
         refine ⟨g4 j fun i hi=>?_,k4 j fun i hi=>?_⟩
         · rw[hj i (by simp;omega),q4Z hi]
         · rw[show k+H1.length+i=k+(H1.length+i) by omega,hj (H1.length+i) (by simp;omega),q5Z (by omega),g2,s3Z]
       cases b with
       | true =>
         obtain⟨cs,rfl⟩:=f1 rfl
         refine ⟨.agg ys::xs,H1++H2,js1++js2,⟨ys,H1,H2,rfl,g1,rfl,k1⟩,by simp[g2,k2],blk,fun j hj=>?_,own⟩
         obtain⟨h1,h2⟩:=j1 j hj
         exact⟨_,vs',rfl,by simp only[VR];exact⟨cs,rfl,h1⟩,h2⟩
       | false =>
         have e:=f2 rfl;rw[e]at j1 hc
         have hy:∃y,ys=[y]:=by
           have h1:=hc.length;simp at h1
           cases a with
           | nil=>simp at h1
           | cons c a =>
             cases a with
             | cons _ _=>simp at h1
             | nil =>
               cases c with
               | one p=>cases ys with
                 | nil=>simp[AbsOk]at g1
                 | cons y ys=>cases ys with
                   | nil=>exact⟨y,rfl⟩
                   | cons _ _=>simp[AbsOk]at g1
               | row el=>cases ys with
                 | nil=>simp[AbsOk]at g1
                 | cons y ys=>cases H1 with
                   | nil=>simp[AbsOk]at g1
                   | cons B H1=>cases ys with
                     | nil=>exact⟨y,rfl⟩
                     | cons _ _=>simp[AbsOk]at g1
         obtain⟨y,rfl⟩:=hy
         refine ⟨y::xs,H1++H2,js1++js2,⟨H1,H2,g1,rfl,k1⟩,by simp[g2,k2],blk,fun j hj=>?_,own⟩
         obtain⟨h1,h2⟩:=j1 j hj;simp[VRs]at h1;exact⟨v,vs',rfl,h1,h2⟩
     · cases hs
   · split at hs
     rotate_left
     · cases hs
     rename_i e hu;split at hs;rotate_left
     · cases hs
     rename_i a ha;split at hs;rotate_left
     · cases hs
     rename_i hcl;obtain⟨ss',hss,rfl⟩:=qlZ.1 hs;obtain⟨f2,f3⟩:=val_slice hu (hv 0 t v rfl rfl);rw[f2]at hT;obtain⟨m,y,ys,H1,js1,g0,gm,g1,g2,g3,g4,g5⟩:=rows_abs (w:=w) k hu ha hcl.1 hcl.2 hT f3
     obtain⟨xs,H2,js2,k1,k2,k3,k4,k5⟩:=args_abs2 n ts ss' vs' ds' q (k+1+H1.length) hss hA' fun j t' v' ht hv'=>hv (j+1) t' v' (by simpa using ht) (by simpa using hv')
     have g2':js1.length=(ABlk.cells false ys::H1).length:=by rw[g2];rfl
     have hlen:k+(ABlk.cells false ys::H1).length=k+1+H1.length:=by simp;omega
     have blk:=blks_append g2' g3 (by rw[hlen];exact k3)
     have own:=own_append g5 k5
     refine ⟨y::xs,(.cells false ys::H1)++H2,js1++js2,⟨m,ys,H1,H2,g0,gm,g1,rfl,k1⟩,by simp[g2,k2];omega,blk,fun j hj=>?_,own⟩
     refine ⟨v,vs',rfl,g4 j fun i hi=>?_,k4 j fun i hi=>?_⟩
     · rw[hj i (by simp;omega),q4Z hi]
     · rw[show k+1+H1.length+i=k+(js1.length+i) by omega,hj (js1.length+i) (by simp;omega),q5Z (by omega),s3Z]
   · cases hs
theorem law_call2{f:FuncId}{n:Nat}{ts:List TypeId}{ss:List AS}{args:Array Value}{ds:List (DataW H)}{ps:List MemPlace}(hs:shapes2 P n ts=some ss)
   (hA:DataW.TrodAll enc P w base' (fun _=>true) true ts args.toList ds ps) (hv:∀(j:Nat) t v,ts[j]? = some t→args[j]? = some v→Value.okWide P w .any base t v)
   (h:∀xs H,AbsArgs2 ss 0 xs H→∃H',Ct P f xs H (.bool true) H') (hg:GloW w:=by exact gloW_none _) :
   Calls P f args w fun e w'=>e=.returned (.bool true)∧Below w.heap.size w w':=by
 obtain⟨xs,H,js,h1,h2,h3,h4,h5⟩:=args_abs2 (base:=base) n ts ss args.toList ds ps 0 hs hA fun j t v ht hv'=>hv j t v ht (by simpa using hv')
 obtain⟨H',hct⟩:=h xs H h1
 let j0:Inj:=⟨fun i=>(js[i]?).join,fun _=>[],fun _=>[]⟩
 have hj0:∀i,j0 i=(js[i]?).join:=fun _=>rfl
 have hro:H.all isRo=true:=by
   rw[s5Z];intro y hy;obtain⟨b,hb⟩:=List.getElem?_of_mem hy;obtain⟨l,rfl⟩:=h5 b y hb;rfl
 have hR:R j0 H w:=by
   refine R.ro (fun b hb=>?_) (fun b x p hb hp=>?_) hro hg
   · rw[hj0,s4Z (by omega)];rfl
   · obtain⟨q,hq,e⟩:=Option.join_eq_some_iff.1 hp |> fun h=>(⟨some p,h,rfl⟩:∃q,js[b]? = some q∧q=some p)
     exact h3 j0 (fun i hi=>by rw[s8Z,hj0]) b x p hb (by rw[hq,e])
 refine (hct _ w args hR (h4 _ fun i hi=>by rw[s8Z,hj0])).mono ?_
 rintro e w' ⟨cv,j',rfl,hv1,hst⟩;simp only[VR]at hv1;subst hv1
 refine ⟨rfl,hst.keeps.os,hst.keeps.tape,hst.keeps.output,hst.keeps.size,fun c hc=>hst.keeps.block c hc fun ⟨b,y,p,hb,hy,hp,_⟩=>?_⟩
 obtain⟨l,rfl⟩:=h5 b y hb;cases hy
end
end
theorem absArgs2_agg{ts:List CT}{ss:List AS}{k:Nat}{xs:List AV}{H:AHeap}(h:AbsArgs2 (.flat true ts::ss) k xs H):∃ys xs' H1 H2,xs=.agg ys::xs'∧AbsOk ts k ys H1∧H=H1++H2∧AbsArgs2 ss (k+H1.length) xs' H2:=by
 cases xs with
 | nil=>exact h.elim
 | cons x xs =>
   obtain⟨ys,H1,H2,rfl,h1,h2,h3⟩:=h;exact⟨ys,xs,H1,H2,rfl,h1,h2,h3⟩
theorem absArgs2_nil{k:Nat}{xs:List AV}{H:AHeap}(h:AbsArgs2 [] k xs H):xs=[]∧H=[]:=by
 cases xs <;> cases H <;> first | exact⟨rfl,rfl⟩ | exact h.elim
theorem ct_weak{P:Program}{f:FuncId}{args args0:List AV}{H H0 H':AHeap}{v:AV}(hw:Weak H.length args H args0 H0)(h:Ct P f args0 H0 v H'):Ct P f args H v H':=by
 intro j w cargs hR hargs;obtain⟨j',hs,hF'⟩:=hw.step (qnZ _) (Step.refl hR (qnZ _)) hargs;refine (h j' w cargs hs.rel hF').mono ?_;rintro e w' ⟨cv,j2,rfl,h1,h2⟩;exact⟨cv,j2,rfl,h1,hs.trans h2 hs.len⟩
section
open Go Go.Lib
attribute [-simp] drawOk_eq adraw qrun acode aops
end
section
open Go Go.Lib
end
end Go.Proofs.YtpmfecnajoojeaaGreatDoor
