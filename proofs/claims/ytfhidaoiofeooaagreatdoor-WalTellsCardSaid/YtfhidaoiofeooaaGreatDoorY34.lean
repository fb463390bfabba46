/- Parts of the proof of WalTells: lemmas, each with its own conditions. -/
import Derived.Test.YtfhidaoiofeooaaGreatDoorY33
import Derived.Test.YtfhidaoiofeooaaGreatDoorY32
set_option maxHeartbeats 64000000
open List renaming getElem?_eq_some_iff → q1Z, getD_eq_getElem?_getD → q2Z, getElem?_eq_getElem → q3Z, getElem?_append_left → q4Z, getElem?_append_right → q5Z, take_of_length_le → q6Z, length_cons → q7Z, replicate → qbZ, length_append → qdZ, mem_cons_self → qhZ, mem_cons_of_mem → qiZ, length_take → qjZ, mem_cons → qwZ, mem_append → qxZ, append_nil → r2Z, getElem?_take → r4Z, length_map → r7Z, flatten_cons → rcZ, mem_map → reZ, getElem?_range → rfZ, replicate_succ → rvZ, getElem?_eq_none → s4Z, all_eq_true → s5Z, flatten_append → sgZ
open Option renaming map_eq_some_iff → qlZ
open Nat renaming le_refl → qnZ, zero_le → qqZ, add_sub_cancel_left → s3Z, zero_add → s8Z
open Bool renaming and_eq_true → qrZ
open Array renaming getElem?_eq_some_iff → qtZ
namespace Go.Proofs.YtfhidaoiofeooaaGreatDoor
set_option maxRecDepth 100000
section
open Go.ChangeShapes Go.WideShapes Go.ChangeAt Go.RowKit
inductive ST where
 | one (p:Prim)
 | row (el:List ST)
def zEo(P:Program)(g:TypeId->Option (List ST)):Nat->List Field->Option (List ST)
 | _,[]=>some []
 | off,f::fs=>match g f.type with
   | some a=>if f.offset=off/\P.cellsOf f.type=a.length then (zEo P g (off+a.length) fs).map (a++·) else none
   | none=>none
def zDy(P:Program):Nat->TypeId->Option (List ST)
 | 0,_=>none
 | n+1,t=>match P.underlying t with
   | some .bool=>some [.one .bool]
   | some (.int k)=>some [.one (.int k)]
   | some .string=>some [.one .str]
   | some (.slice e)=>match zDy P n e with
     | some a=>if P.cellsOf e=a.length/\0<a.length then some [.row a] else none
     | none=>none
   | some (.struct fs)=>zEo P (zDy P n) 0 fs.toList
   | some (.array m e)=>match zDy P n e with
     | some a=>if P.cellsOf e=a.length then some (qbZ m a).flatten else none
     | none=>none
   | _=>none
def zGV(w:World):Nat->ST->Value->Prop
 | 0,.one p,v=>zL8 p v
 | 0,.row _,_=>False
 | _+1,.one p,v=>zL8 p v
 | n+1,.row el,v=>v=.slice none 0 0\/∃a len cap l,v=.slice (some a) len cap/\len<=cap/\cap<=maxLen/\0<el.length/\All2 (zGV w n) (qbZ cap el).flatten l/\∀i u,l[i]? = some u->w.cell? (a.add i)=some u
theorem zEj{α β:Type}{R S:α->β->Prop}(h:∀x y,R x y->S x y):∀{xs:List α} {ys:List β},All2 R xs ys->All2 S xs ys
 | [],[],_=>trivial
 | _::_,_::_,g=>⟨h _ _ g.1,zEj h g.2⟩
 | [],_::_,g=>g.elim
 | _::_,[],g=>g.elim
theorem cellT_one{w:World}{n:Nat}{p:Prim}{v:Value}:zGV w n (.one p) v↔zL8 p v:=by cases n <;> exact Iff.rfl
theorem zI8{w:World}:∀(n:Nat) (t:ST) (v:Value),zGV w n t v->zGV w (n+1) t v
 | 0,.one p,v,h=>h
 | 0,.row el,v,h=>h.elim
 | n+1,.one p,v,h=>h
 | n+1,.row el,v,h=>by
   rcases h with h | ⟨a,len,cap,l,h1,h2,h3,h4,h5,h6⟩
   · exact .inl h
   · exact .inr ⟨a,len,cap,l,h1,h2,h3,h4,zEj (zI8 n) h5,h6⟩
section
variable {H:Type} {enc:TypeId×Value->H} {P:Program} {w:World} {base base':Nat} {held:Bool}
theorem zJx{α:Type}{R:α->Value->Prop}{el:List α}{a:Addr}:∀(m:Nat),(∀i,i<m->∃cs:List Value,All2 R el cs/\∀k u,cs[k]? = some u->w.cell? (a.add (i*el.length+k))=some u) ->
   ∃l,All2 R (qbZ m el).flatten l/\∀i u,l[i]? = some u->w.cell? (a.add i)=some u
 | 0,_=>⟨[],trivial,fun i u h=>by simp at h⟩
 | m+1,h=>by
   obtain⟨l,h1,h2⟩:=zJx m fun i hi=>h i (by omega);obtain⟨cs,g1,g2⟩:=h m (by omega);have hl:l.length=m*el.length:=by rw[<-h1.length,Zq]
   refine ⟨l++cs,?_,fun i u hi=>?_⟩
   · rw[List.replicate_succ',sgZ]
     simp only[rcZ,List.flatten_nil,r2Z];exact h1.append g1
   · by_cases hlt:i<l.length
     · rw[q4Z hlt]at hi
       exact h2 i u hi
     · rw[q5Z (by omega)]at hi
       have:=g2 _ u hi;rw[show m*el.length+(i-l.length)=i by omega]at this;exact this
theorem zJR{R:ST->Value->Prop}{g:TypeId->Option (List ST)}{cs:List Value}:∀(fs:List Field) (off:Nat) (ts:List ST),zEo P g off fs=some ts->cs.length=off+ts.length ->
   (∀f∈fs,∀a,g f.type=some a->All2 R a ((cs.drop f.offset).take (P.cellsOf f.type)))->All2 R ts (cs.drop off)
 | [],off,ts,h,hl,_=>by
   cases h;rw[List.drop_of_length_le (by simp at hl;omega)];trivial
 | f::fs,off,ts,h,hl,hg=>by
   unfold zEo at h;split at h
   · rename_i a ha
     split at h
     · rename_i hc
       obtain⟨r,hr,rfl⟩:=qlZ.1 h;have h1:=hg f (qhZ ..) a ha;rw[hc.1,hc.2]at h1;rw[<-zCr cs off a.length];exact h1.append (zJR fs _ r hr (by simp at hl;omega) fun f' hf'=>hg f' (qiZ _ hf'))
     · cases h
   · cases h
theorem zKp{α:Type}{R:α->Value->Prop}{a:List α}{cs:List Value}:∀(m off:Nat),cs.length=off+m*a.length->(∀i,i<m->All2 R a ((cs.drop (off+i*a.length)).take a.length))->All2 R (qbZ m a).flatten (cs.drop off)
 | 0,off,hl,_=>by
   rw[List.drop_of_length_le (by simp at hl;omega)];trivial
 | m+1,off,hl,h=>by
   rw[rvZ,rcZ,<-zCr cs off a.length];have h0:=h 0 (by omega);rw[Nat.zero_mul,Nat.add_zero]at h0;refine h0.append (zKp m _ (by rw[hl,Nat.succ_mul];omega) fun i hi=>?_);have:=h (i+1) (by omega);rw[Nat.succ_mul]at this;rw[show off+a.length+i*a.length=off+(i*a.length+a.length) by omega];exact this
theorem zDZ:∀(n:Nat) (t:TypeId) (ts:List ST) (fuel:Nat) (cs:List Value) (x:DataW H×List MemPlace),zDy P n t=some ts->P.cellsOf t=ts.length->DataW.trod enc P w base (fun _=>true) held fuel t cs=some x->All2 (zGV w n) ts cs
 | 0,_,_,_,_,_,h,_,_=>by cases h
 | n+1,t,ts,fuel,cs,x,h,hcl,hx=>by
   unfold zDy at h;split at h
   · rename_i hu
     cases h;obtain⟨b,rfl,_⟩:=DataW.trod_bool hu hx;exact⟨⟨b,rfl⟩,trivial⟩
   · rename_i k hu
     cases h;obtain⟨m,rfl,_,hw⟩:=DataW.trod_int hu hx;exact⟨⟨m,rfl,hw⟩,trivial⟩
   · rename_i hu
     cases h;obtain⟨s,rfl,_,hw⟩:=DataW.trod_string hu hx;exact⟨⟨s,rfl,hw⟩,trivial⟩
   · rename_i e hu
     split at h
     · rename_i a ha
       split at h
       · rename_i hc
         cases h;rcases Deep.open_slice hu hx with⟨rfl,_⟩ | ⟨ad,len,cap,m,n',D,Pl,rfl,_,hle,hm,hmm,_,hel2⟩
         · exact⟨.inl rfl,trivial⟩
         · simp at hmm
           subst hmm;obtain⟨l,h1,h2⟩:=zJx (w:=w) (R:=zGV w n) (el:=a) (a:=ad) m fun i hi=>by
             obtain⟨cs',hcs',ht⟩:=hel2 i hi;have hk:=zDZ n e a n' cs' _ ha hc.1 ht;refine ⟨cs',hk,fun k u hk=>?_⟩;obtain⟨_,hcl',hce⟩:=World.cells?_some hcs';have hkl:k<P.cellsOf e:=by rw[<-hcl'];exact (q1Z.1 hk).1
             have:=hce k hkl;rw[hk]at this;rw[<-hc.1];rw[<-this,zM0]
           exact⟨.inr ⟨ad,len,m,l,rfl,hle,hm,hc.2,h1,h2⟩,trivial⟩
       · cases h
     · cases h
   · rename_i fs hu
     obtain⟨xs,m,_,_,hl,hxl,hf⟩:=DataW.trod_struct hu hx;have:=zJR (R:=zGV w (n+1)) (cs:=cs) fs.toList 0 ts h (by omega) fun f hf' a ha=>?_
     · simpa using this
     · obtain⟨i,hi⟩:=List.getElem?_of_mem hf'
       have hi':fs[i]? = some f:=by simpa using hi
       have h1:=hf i f hi';have hilt:i<xs.length:=by rw[hxl];exact (qtZ.1 hi').1
       rw[q3Z hilt]at h1;refine zEj (zI8 n) (zDZ n f.type a m _ _ ha ?_ h1);have:∀(fs:List Field) (off:Nat) (ts:List ST),zEo P (zDy P n) off fs=some ts->∀f∈fs,∀a,zDy P n f.type=some a->P.cellsOf f.type=a.length:=by
         intro fs;induction fs with
         | nil=>intro off ts h f hf;cases hf
         | cons f0 fs ih =>
           intro off ts h f hf a ha;unfold zEo at h;split at h
           · rename_i a0 ha0
             split at h
             · rename_i hc
               obtain⟨r,hr,_⟩:=qlZ.1 h;rcases qwZ.1 hf with rfl | hf
               · rw[ha0]at ha;cases ha;exact hc.2
               · exact ih _ _ hr f hf a ha
             · cases h
           · cases h
       exact this _ _ _ h f hf' a ha
   · rename_i m e hu
     split at h
     · rename_i a ha
       split at h
       · rename_i hc
         cases h;obtain⟨xs,k,_,_,hl,hxl,hf⟩:=DataW.trod_array hu hx;have:=zKp (R:=zGV w (n+1)) (a:=a) (cs:=cs) m 0 (by rw[hl,hcl,Zq];omega) fun i hi=>?_
         · simpa using this
         · have h1:=hf i hi
           rw[q3Z (by omega)]at h1;rw[hc]at h1;rw[s8Z];exact zEj (zI8 n) (zDZ n e a k _ _ ha hc h1)
       · cases h
     · cases h
   · cases h
inductive AbsT:List ST->Nat->List AV->zA->Prop
 | nil (k:Nat):AbsT [] k [] []
 | one {p:Prim} {ts:List ST} {k:Nat} {x:AV} {xs:List AV} {H:zA}:zE2 p x->AbsT ts k xs H->AbsT (.one p::ts) k (x::xs) H
 | row {el ts:List ST} {k n:Nat} {x:AV} {xs ys:List AV} {H1 H2:zA}:(n=0/\x=.nils\/x=.slice k 0 n el.length false)->n<=maxLen->AbsT (qbZ n el).flatten (k+1) ys H1->AbsT ts (k+1+H1.length) xs H2 ->
     AbsT (.row el::ts) k (x::xs) (.cells false ys::(H1++H2))
theorem zJ7(w:World)(k:Nat):zEU w k [] []:=fun j _ i B q h=>by simp at h
theorem zPr:∀(n:Nat) (ts:List ST) (cs:List Value) (k:Nat),All2 (zGV w n) ts cs->(∀v∈cs,∀a len cap,v=.slice (some a) len cap->zGh w) ->
   ∃(xs:List AV) (H:zA) (js:List (Option JB)),AbsT ts k xs H/\js.length=H.length/\zEU w k H js /\
     (∀j:Inj,(∀i,i<js.length->j (k+i)=(js[i]?).join)->VRs j xs cs)/\(∀(i:Nat) (B:ABlk),H[i]? = some B->∃l,B=.cells false l):=by
 intro n;induction n with
 | zero =>
   intro ts;induction ts with
   | nil =>
     intro cs k h _;cases cs with
     | nil=>exact⟨[],[],[],.nil k,rfl,zJ7 w k,fun j _=>by simp[VRs],fun i B h=>by simp at h⟩
     | cons _ _=>exact h.elim
   | cons t ts ih =>
     intro cs k h hE;cases cs with
     | nil=>exact h.elim
     | cons v cs =>
       cases t with
       | row el=>exact h.1.elim
       | one p =>
         obtain⟨x,h1,_,h2⟩:=zUe (cellT_one.1 h.1);obtain⟨xs,H,js,g1,g2,g3,g4,g5⟩:=ih cs k h.2 fun v hv=>hE v (qiZ _ hv);exact⟨x::xs,H,js,.one h1 g1,g2,g3,fun j hj=>⟨v,cs,rfl,h2 j,g4 j hj⟩,g5⟩
 | succ n ihn =>
   intro ts;induction ts with
   | nil =>
     intro cs k h _;cases cs with
     | nil=>exact⟨[],[],[],.nil k,rfl,zJ7 w k,fun j _=>by simp[VRs],fun i B h=>by simp at h⟩
     | cons _ _=>exact h.elim
   | cons t ts ih =>
     intro cs k h hE;cases cs with
     | nil=>exact h.elim
     | cons v cs =>
       cases t with
       | one p =>
         obtain⟨x,h1,_,h2⟩:=zUe (cellT_one.1 h.1);obtain⟨xs,H,js,g1,g2,g3,g4,g5⟩:=ih cs k h.2 fun v hv=>hE v (qiZ _ hv);exact⟨x::xs,H,js,.one h1 g1,g2,g3,fun j hj=>⟨v,cs,rfl,h2 j,g4 j hj⟩,g5⟩
       | row el =>
         have none_ok:∀(p:Option JB),(∀q,p=some q->∃cs T fz,w.heap[q.blk]? = some (.cells cs T fz)/\cs.size=q.size/\q.base<=q.size)->zEU w k [.cells false []] [p]:=by
           intro p hp j _ i B q hB hq;have hi:i=0:=by
             have:=(q1Z.1 hB).1;simpa using this
           subst hi;cases hB;simp at hq;obtain⟨cs,T,fz,h1,h2,h3⟩:=hp q hq;exact⟨cs,T,fz,h1,h2,by simpa using h3,fun i x hx=>by simp at hx,fun h=>by cases h⟩
         have one_own:∀(i:Nat) (B:ABlk),[ABlk.cells false []][i]? = some B->∃l,B=.cells false l:=by
           intro i B hB;have hi:i=0:=by
             have:=(q1Z.1 hB).1;simpa using this
           subst hi;cases hB;exact⟨[],rfl⟩
         have key:∃(m:Nat) (y:AV) (ys:List AV) (H1:zA) (js:List (Option JB)),(m=0/\y=.nils\/y=.slice k 0 m el.length false)/\m<=maxLen/\AbsT (qbZ m el).flatten (k+1) ys H1/\js.length=H1.length+1/\zEU w k (.cells false ys::H1) js /\
             (∀j:Inj,(∀i,i<js.length->j (k+i)=(js[i]?).join)->VR j y v)/\(∀(i:Nat) (B:ABlk),(ABlk.cells false ys::H1)[i]? = some B->∃l,B=.cells false l):=by
           rcases h.1 with rfl | ⟨ad,len,cap,l,rfl,hle,hm,h0,hl,hc⟩
           · exact⟨0,.nils,[],[],[none],.inl ⟨rfl,rfl⟩,qqZ _,.nil _,rfl,none_ok none (fun q h=>by cases h),fun j _=>by simp[VR],one_own⟩
           by_cases hz:cap=0
           · subst hz
             obtain rfl:len=0:=by omega
             obtain⟨q,c,T,fz,hq⟩:=hE _ (qhZ ..) ad 0 0 rfl;refine ⟨0,.slice k 0 0 el.length false,[],[],[some ⟨q,0,c.size⟩],.inr rfl,qqZ _,.nil _,rfl,none_ok _ (fun q' h=>by cases h;exact⟨c,T,fz,hq,rfl,qqZ _⟩),fun j hj=>?_,one_own⟩;simp only[VR];have:=hj 0 (by simp);exact⟨_,ad,0,by simpa using this,rfl,qnZ _,fun h=>(by cases h),hm,.inl rfl⟩
           · have hll:l.length=cap*el.length:=by rw[<-hl.length,Zq]
             have hpos:0<l.length:=by rw[hll];exact Nat.mul_pos (by omega) h0
             have hlast:=hc (l.length-1) l[l.length-1] (by rw[q3Z]);have hfirst:=hc 0 l[0] (by rw[q3Z]);have had:=zRF (w:=w) (x:=ad) (v:=l[0]) (by simpa[Addr.add] using hfirst);obtain⟨B,O,S⟩:=ad;cases had;have hcell:∀(i:Nat) u,w.cell? ⟨B,O+i,none⟩=some u->∃c T fz,w.heap[B]? = some (.cells c T fz)/\c[O+i]? = some u:=by
               intro i u hu;unfold World.cell? at hu;dsimp only at hu;split at hu
               · rename_i c T fz hh
                 exact⟨c,T,fz,hh,by simpa using hu⟩
               · cases hu
             obtain⟨c,T,fz,hB,hcl2⟩:=hcell (l.length-1) _ (by rw[<-zD3];exact hlast);have hsz:=(qtZ.1 hcl2).1;have htk:=hl.take (len*el.length);rw[zDW _ _ _ hle]at htk;obtain⟨ys,H1,js,g1,g2,g3,g4,g5⟩:=ihn _ _ (k+1) htk fun v _ ad len cap _=>⟨B,c,T,fz,hB⟩
             have hle2:len*el.length<=cap*el.length:=Nat.mul_le_mul_right _ hle;have hlt:(l.take (len*el.length)).length=len*el.length:=by rw[qjZ,hll];omega
             refine ⟨len,.slice k 0 len el.length false,ys,H1,some ⟨B,O,c.size⟩::js,.inr rfl,by omega,g1,by simp[g2],fun j hj i B' q hB' hq=>?_,fun j hj=>?_,fun i B' hB'=>?_⟩
             · have hj2:∀i,i<js.length->j (k+1+i)=(js[i]?).join:=fun i hi=>by
                 have:=hj (i+1) (by simp;omega);rw[show k+1+i=k+(i+1) by omega,this];simp
               cases i with
               | zero =>
                 simp at hB' hq;subst hB';subst hq
                 have hv:=g4 j hj2;have hyl:ys.length=len*el.length:=by rw[hv.length,hlt]
                 refine ⟨c,T,fz,hB,rfl,by dsimp only;omega,fun i x hx=>?_,fun h=>by cases h⟩;have hi:i<(l.take (len*el.length)).length:=by rw[hlt,<-hyl];exact (q1Z.1 hx).1
                 have hr:=(VRs_iff.1 hv).2 i x _ hx (q3Z hi);obtain⟨u,hu⟩:∃u,(l.take (len*el.length))[i]=u:=⟨_,rfl⟩
                 rw[hu]at hr;have hu2:l[i]? = some u:=by
                   have:(l.take (len*el.length))[i]? = some u:=by rw[q3Z hi,hu]
                   rw[r4Z]at this;split at this
                   · exact this
                   · cases this
                 obtain⟨c',T',fz',hB2,hu'⟩:=hcell i u (by rw[<-zD3];exact hc i u hu2);rw[hB]at hB2;cases hB2;exact⟨u,hu',hr⟩
               | succ i=>exact g3 j hj2 i B' q (by simpa using hB') (by simpa using hq)
             · simp only[VR]
               have:=hj 0 (by simp);exact⟨_,_,cap,by simpa using this,rfl,hle,fun h=>(by cases h),hm,.inr ⟨rfl,by dsimp only;omega⟩⟩
             · cases i with
               | zero=>simp at hB';exact⟨_,hB'.symm⟩
               | succ i=>exact g5 i B' (by simpa using hB')
         obtain⟨m,y,ys,H1,js1,g0,gm,g1,g2,g3,g4,g5⟩:=key;obtain⟨xs,H2,js2,k1,k2,k3,k4,k5⟩:=ih cs (k+1+H1.length) h.2 fun v hv=>hE v (qiZ _ hv);have g2':js1.length=(ABlk.cells false ys::H1).length:=by rw[g2];rfl
         have hlen:k+(ABlk.cells false ys::H1).length=k+1+H1.length:=by simp;omega
         have blk:=zHT g2' g3 (by rw[hlen];exact k3);have own:=zJs g5 k5;refine ⟨y::xs,.cells false ys::(H1++H2),js1++js2,.row g0 gm g1 k1,by simp[g2,k2];omega,blk,fun j hj=>?_,own⟩;refine ⟨v,cs,rfl,g4 j fun i hi=>?_,k4 j fun i hi=>?_⟩
         · rw[hj i (by simp;omega),q4Z hi]
         · rw[show k+1+H1.length+i=k+(js1.length+i) by omega,hj (js1.length+i) (by simp;omega),q5Z (by omega),s3Z]
def zAa:List (Bool×List ST)->Nat->List AV->zA->Prop
 | [],_,[],[]=>True
 | (true,ts)::ss,k,x::xs,H=>∃ys H1 H2,x=.agg ys/\AbsT ts k ys H1/\H=H1++H2/\zAa ss (k+H1.length) xs H2
 | (false,ts)::ss,k,x::xs,H=>∃H1 H2,AbsT ts k [x] H1/\H=H1++H2/\zAa ss (k+H1.length) xs H2
 | _,_,_,_=>False
def zFt(P:Program)(n:Nat):List TypeId->Option (List (Bool×List ST))
 | []=>some []
 | t::ts=>match zRT P t,zDy P n t with
   | some b,some a=>if P.cellsOf t=a.length then (zFt P n ts).map ((b,a)::·) else none
   | _,_=>none
theorem zJH:∀{ts:List ST} {k:Nat} {xs:List AV} {H:zA},AbsT ts k xs H->xs.length=ts.length
 | _,_,_,_,.nil _=>rfl
 | _,_,_,_,.one _ h=>by simp[zJH h]
 | _,_,_,_,.row _ _ _ h=>by simp[zJH h]
theorem zKx:∀(n:Nat) (ts:List TypeId) (ss:List (Bool×List ST)) (vs:List Value) (ds:List (DataW H)) (ps:List MemPlace) (k:Nat),zFt P n ts=some ss->DataW.TrodAll enc P w base' (fun _=>true) true ts vs ds ps ->
   (∀(j:Nat) t v,ts[j]? = some t->vs[j]? = some v->Value.okWide P w .any base t v) ->
   ∃(xs:List AV) (H:zA) (js:List (Option JB)),zAa ss k xs H/\js.length=H.length/\zEU w k H js /\
     (∀j:Inj,(∀i,i<js.length->j (k+i)=(js[i]?).join)->VRs j xs vs)/\(∀(i:Nat) (B:ABlk),H[i]? = some B->∃l,B=.cells false l)
 | n,[],ss,vs,ds,ps,k,hs,hA,_=>by
   cases hs;obtain⟨rfl,_,_⟩:=trodAll_nil hA;exact⟨[],[],[],trivial,rfl,zJ7 w k,fun j _=>by simp[VRs],fun i B h=>by simp at h⟩
 | n,t::ts,ss,vs,ds,ps,k,hs,hA,hv=>by
   unfold zFt at hs;split at hs
   · rename_i b a hb ha
     split at hs
     · rename_i hcl
       obtain⟨ss',hss,rfl⟩:=qlZ.1 hs;obtain⟨v,vs',d,ds',p,q,rfl,_,_,⟨fuel,hT⟩,hA'⟩:=trodAll_cons hA;obtain⟨f1,f2,f3⟩:=zUt hb (hv 0 t v rfl rfl);have hc:=zDZ (w:=w) n t a fuel _ _ ha hcl hT;obtain⟨ys,H1,js1,g1,g2,g3,g4,g5⟩:=zPr n a _ k hc f3;obtain⟨xs,H2,js2,k1,k2,k3,k4,k5⟩:=zKx n ts ss' vs' ds' q (k+H1.length) hss hA' fun j t' v' ht hv'=>hv (j+1) t' v' (by simpa using ht) (by simpa using hv');have blk:=zHT g2 g3 k3;have own:=zJs g5 k5;have j1:∀j:Inj,(∀i,i<(js1++js2).length->j (k+i)=((js1++js2)[i]?).join)->VRs j ys v.cells.toList/\VRs j xs vs':=by
         intro j hj;refine ⟨g4 j fun i hi=>?_,k4 j fun i hi=>?_⟩
         · rw[hj i (by simp;omega),q4Z hi]
         · rw[show k+H1.length+i=k+(H1.length+i) by omega,hj (H1.length+i) (by simp;omega),q5Z (by omega),g2,s3Z]
       cases b with
       | true =>
         obtain⟨cs,rfl⟩:=f1 rfl;refine ⟨.agg ys::xs,H1++H2,js1++js2,⟨ys,H1,H2,rfl,g1,rfl,k1⟩,by simp[g2,k2],blk,fun j hj=>?_,own⟩;obtain⟨h1,h2⟩:=j1 j hj;exact⟨_,vs',rfl,by simp only[VR];exact⟨cs,rfl,h1⟩,h2⟩
       | false =>
         have e:=f2 rfl;rw[e]at j1 hc;have hy:∃y,ys=[y]:=by
           have h1:=hc.length;have h2:=zJH g1;simp at h1;exact List.length_eq_one_iff.1 (h2.trans h1)
         obtain⟨y,rfl⟩:=hy;refine ⟨y::xs,H1++H2,js1++js2,⟨H1,H2,g1,rfl,k1⟩,by simp[g2,k2],blk,fun j hj=>?_,own⟩;obtain⟨h1,h2⟩:=j1 j hj;simp[VRs]at h1;exact⟨v,vs',rfl,h1,h2⟩
     · cases hs
   · cases hs
theorem zTt{f:FuncId}{n:Nat}{ts:List TypeId}{ss:List (Bool×List ST)}{args:Array Value}{ds:List (DataW H)}{ps:List MemPlace}(hs:zFt P n ts=some ss)
   (hA:DataW.TrodAll enc P w base' (fun _=>true) true ts args.toList ds ps) (hv:∀(j:Nat) t v,ts[j]? = some t->args[j]? = some v->Value.okWide P w .any base t v)
   (h:∀xs H,zAa ss 0 xs H->∃H',Ct P f xs H (.bool true) H') (hg:GloW w:=by exact gloW_none _) :
   Calls P f args w fun e w'=>e=.returned (.bool true)/\Below w.heap.size w w':=by
 obtain⟨xs,H,js,h1,h2,h3,h4,h5⟩:=zKx (base:=base) n ts ss args.toList ds ps 0 hs hA fun j t v ht hv'=>hv j t v ht (by simpa using hv');obtain⟨H',hct⟩:=h xs H h1
 let j0:Inj:=⟨fun i=>(js[i]?).join,fun _=>[],fun _=>[]⟩
 have hj0:∀i,j0 i=(js[i]?).join:=fun _=>rfl;have hro:H.all zHr=true:=by
   rw[s5Z];intro y hy;obtain⟨b,hb⟩:=List.getElem?_of_mem hy;obtain⟨l,rfl⟩:=h5 b y hb;rfl
 have hR:R j0 H w:=by
   refine R.ro (fun b hb=>?_) (fun b x p hb hp=>?_) hro hg
   · rw[hj0,s4Z (by omega)];rfl
   · obtain⟨q,hq,e⟩:=Option.join_eq_some_iff.1 hp |> fun h=>(⟨some p,h,rfl⟩:∃q,js[b]? = some q/\q=some p)
     exact h3 j0 (fun i hi=>by rw[s8Z,hj0]) b x p hb (by rw[hq,e])
 refine (hct _ w args hR (h4 _ fun i hi=>by rw[s8Z,hj0])).mono ?_;rintro e w' ⟨cv,j',rfl,hv1,hst⟩;simp only[VR]at hv1;subst hv1;refine ⟨rfl,hst.keeps.os,hst.keeps.tape,hst.keeps.output,hst.keeps.size,fun c hc=>hst.keeps.block c hc fun ⟨b,y,p,hb,hy,hp,_⟩=>?_⟩;obtain⟨l,rfl⟩:=h5 b y hb;cases hy
end
theorem zMh{ts:List ST}{ss:List (Bool×List ST)}{k:Nat}{xs:List AV}{H:zA}(h:zAa ((true,ts)::ss) k xs H):∃ys xs' H1 H2,xs=.agg ys::xs'/\AbsT ts k ys H1/\H=H1++H2/\zAa ss (k+H1.length) xs' H2:=by
 cases xs with
 | nil=>exact h.elim
 | cons x xs =>
   obtain⟨ys,H1,H2,rfl,h1,h2,h3⟩:=h;exact⟨ys,xs,H1,H2,rfl,h1,h2,h3⟩
theorem zFB{ts:List ST}{ss:List (Bool×List ST)}{k:Nat}{xs:List AV}{H:zA}(h:zAa ((false,ts)::ss) k xs H):∃x xs' H1 H2,xs=x::xs'/\AbsT ts k [x] H1/\H=H1++H2/\zAa ss (k+H1.length) xs' H2:=by
 cases xs with
 | nil=>exact h.elim
 | cons x xs =>
   obtain⟨H1,H2,h1,h2,h3⟩:=h;exact⟨x,xs,H1,H2,rfl,h1,h2,h3⟩
theorem zLs{k:Nat}{xs:List AV}{H:zA}(h:zAa [] k xs H):xs=[]/\H=[]:=by
 cases xs <;> cases H <;> first | exact wR | exact h.elim
theorem zBa{p:Prim}{ts:List ST}{k:Nat}{xs:List AV}{H:zA}(h:AbsT (.one p::ts) k xs H):∃x ys,xs=x::ys/\zE2 p x/\AbsT ts k ys H:=by
 cases h with
 | one h1 h2=>exact⟨_,_,rfl,h1,h2⟩
theorem zGE{el ts:List ST}{k:Nat}{xs:List AV}{H:zA}(h:AbsT (.row el::ts) k xs H):∃x xs' n ys H1 H2,xs=x::xs'/\(n=0/\x=.nils\/x=.slice k 0 n el.length false)/\n<=maxLen/\AbsT (qbZ n el).flatten (k+1) ys H1 /\
   H=.cells false ys::(H1++H2)/\AbsT ts (k+1+H1.length) xs' H2:=by
 cases h with
 | row h1 h2 h3 h4=>exact⟨_,_,_,_,_,_,rfl,h1,h2,h3,rfl,h4⟩
theorem zCq{k:Nat}{xs:List AV}{H:zA}(h:AbsT [] k xs H):xs=[]/\H=[]:=by
 cases h with
 | nil=>exact⟨rfl,rfl⟩
def CT.st:CT->ST
 | .one p=>.one p
 | .row el=>.row (el.map .one)
theorem zFE:∀{el:List Prim} {k:Nat} {xs:List AV} {H:zA},AbsT (el.map .one) k xs H->All2 zE2 el xs/\H=[]
 | [],k,xs,H,h=>by obtain⟨rfl,rfl⟩:=zCq h;exact⟨trivial,rfl⟩
 | p::el,k,xs,H,h=>by
   obtain⟨x,ys,rfl,h1,h2⟩:=zBa h;obtain⟨g1,rfl⟩:=zFE h2;exact⟨⟨h1,g1⟩,rfl⟩
theorem zDp(n:Nat)(el:List Prim):(qbZ n (el.map ST.one)).flatten=((qbZ n el).flatten).map ST.one:=by
 rw[List.map_flatten,List.map_replicate]
theorem zMQ:∀{ts:List CT} {k:Nat} {xs:List AV} {H:zA},AbsT (ts.map CT.st) k xs H->zDr ts k xs H
 | [],k,xs,H,h=>by obtain⟨rfl,rfl⟩:=zCq h;trivial
 | .one p::ts,k,xs,H,h=>by
   obtain⟨x,ys,rfl,h1,h2⟩:=zBa h;exact⟨h1,zMQ h2⟩
 | .row el::ts,k,xs,H,h=>by
   obtain⟨x,xs',n,ys,H1,H2,rfl,h1,h2,h3,rfl,h4⟩:=zGE h;rw[zDp]at h3;obtain⟨g1,rfl⟩:=zFE h3;rw[r7Z]at h1;exact⟨⟨ys,n,rfl,h1,h2,g1⟩,zMQ h4⟩
end
section
open Go Go.Lib
attribute [-simp] zH zc zq zK zy
end
section
open Go Go.Lib
abbrev Ac:=Int×Int×List Dr×List Int
def ZP:Nat->List Ac->List AV
 | _,[]=>[]
 | k,a::cs=>.int .u8 a.1::.int .u8 a.2.1::.sl k 0 a.2.2.1.length 3 false::.sl (k+a.2.2.1.length+1) 0 a.2.2.2.length 1 false::ZP (k+a.2.2.1.length+2) cs
def ZZ:Nat->List Ac->zA
 | _,[]=>[]
 | k,a::cs=>drK k a.2.2.1++.cells false (ZE a.2.2.2)::ZZ (k+a.2.2.1.length+2) cs
def zaT(a:Ac):Prop:=(0<=a.1/\a.1<=255)/\(0<=a.2.1/\a.2.1<=255)/\zQn a.2.2.1/\(∀d∈a.2.2.1,0<=d.2.1/\d.2.1<4294967296)/\a.2.2.1.length<=9223372036854775807
theorem zE6:∀(k:Nat) (cs:List Ac),(ZP k cs).length=cs.length*4
 | _,[]=>rfl
 | k,a::cs=>by simp[ZP,zE6 _ cs];omega
theorem zCN:∀(k N:Nat) (cs:List Ac),k+(ZZ k cs).length<=N->zi N (ZP k cs)=true
 | _,_,[],_=>rfl
 | k,N,a::cs,h=>by
   simp only[ZZ,qdZ,q7Z,ZQ]at h;simp only[ZP,zi,below,qrZ,decide_eq_true_eq,Bool.true_and];exact⟨by omega,by omega,zCN _ N cs (by omega)⟩
theorem zIk:∀(k N:Nat) (cs:List Ac),k+(ZZ k cs).length<=N->∀B∈ZZ k cs,∃o l,B=ABlk.cells o l/\zi N l=true
 | _,_,[],_=>fun B hB=>by simp[ZZ]at hB
 | k,N,a::cs,h=>fun B hB=>by
   simp only[ZZ,qdZ,q7Z,ZQ]at h;unfold ZZ at hB;rcases qxZ.1 hB with hB | hB
   · obtain⟨o,l,rfl,hl⟩:=zVx k a.2.2.1 B hB
     exact⟨o,l,rfl,zAg (by omega) l hl⟩
   · rcases qwZ.1 hB with rfl | hB
     · exact⟨_,_,rfl,Zj _ _ (zCI _)⟩
     · exact zIk _ N cs (by omega) B hB
theorem zYX:∀(cs:List Ac) (k:Nat) (pre R:zA) (i:Nat) (hi:i<cs.length),pre.length=k ->
   ∃(k1 k2:Nat) (T0 T:zA),((ZP k cs).drop (i*4)).take 4=[.int .u8 cs[i].1,.int .u8 cs[i].2.1,.sl k1 0 cs[i].2.2.1.length 3 false,.sl k2 0 cs[i].2.2.2.length 1 false] /\
     pre++ZZ k cs++R=T0++(drK k1 cs[i].2.2.1++T)/\T0.length=k1/\k1<(pre++ZZ k cs).length/\k2<(pre++ZZ k cs).length
 | a::cs,k,pre,R,0,_,hp=>⟨k,k+a.2.2.1.length+1,pre,.cells false (ZE a.2.2.2)::ZZ (k+a.2.2.1.length+2) cs++R,by simp[ZP],by simp[ZZ],hp,
     by simp[ZZ,ZQ];omega,by simp[ZZ,ZQ];omega⟩
 | a::cs,k,pre,R,i+1,hi,hp=>by
   obtain⟨k1,k2,T0,T,h1,h2,h3,h4,h5⟩:=zYX cs (k+a.2.2.1.length+2) (pre++(drK k a.2.2.1++[.cells false (ZE a.2.2.2)])) R i (by simpa using hi) (by simp[ZQ];omega);refine ⟨k1,k2,T0,T,?_,?_,h3,?_,?_⟩
   · rw[show (i+1)*4=i*4+4 by omega]
     simpa[ZP] using h1
   · show pre++ZZ k (a::cs)++R=T0++(drK k1 (cs[i]'(by simpa using hi)).2.2.1++T)
     rw[<-h2];simp[ZZ]
   · simpa[ZZ] using h4
   · simpa[ZZ] using h5
theorem zRq{α β:Type}{R:α->β->Prop}:∀{xs:List α} {ys:List β},All2 R xs ys->∀(i:Nat) x,xs[i]? = some x->∃y,ys[i]? = some y/\R x y
 | [],[],_,i,x,h=>by simp at h
 | _::_,_::_,g,0,x,h=>by simp at h;subst h;exact⟨_,rfl,g.1⟩
 | _::_,_::_,g,i+1,x,h=>zRq g.2 i x (by simpa using h)
 | [],_::_,g,_,_,_=>g.elim
 | _::_,[],g,_,_,_=>g.elim
theorem zOW{α β:Type}{R:α->β->Prop}:∀{xs:List α} {ys:List β},All2 R xs ys->xs.length=ys.length
 | [],[],_=>rfl
 | _::_,_::_,g=>by simp[zOW g.2]
 | [],_::_,g=>g.elim
 | _::_,[],g=>g.elim
theorem Weak.args{F Fn:List AV}{H Hn:zA}(hb:∀rn:List Nat,(∀i,i<H.length->rn[i]? = some i)->AWs rn Fn F/\All2 (AWb rn) Hn H):Weak H.length F H Fn Hn:=by
 have hrn:∀i,i<H.length->(List.range H.length)[i]? = some i:=fun i hi=>rfZ hi;obtain⟨h1,h2⟩:=hb _ hrn;refine Weak.mk' (List.range H.length) List.nodup_range (by rw[q6Z (by simp)]) h1 (AWg.of _ _ (by rw[zOW h2];simp) fun i B b hB hb hlt=>?_);obtain⟨y,hy,hr⟩:=zRq h2 i B hB;have hi:i<H.length:=(q1Z.1 hy).1;have hbi:b=i:=by rw[rfZ hi]at hb;cases hb;rfl
 subst hbi;rw[q2Z,hy];exact hr
def zVg:List ST:=[.one (.int .u8),.one (.int .u8),.row [.row [.one (.int .u8)],.one (.int .u32),.one .bool],.row [.one (.int .u16)]]
theorem zKN(n:Nat)(el:List CT):(qbZ n (el.map CT.st)).flatten=((qbZ n el).flatten).map CT.st:=by
 rw[List.map_flatten,List.map_replicate]
theorem zDz{rn:List Nat}:∀{H:zA},(∀B∈H,AWb rn B B)->All2 (AWb rn) H H
 | [],_=>trivial
 | B::H,h=>⟨h B (qhZ ..),zDz fun C hC=>h C (qiZ _ hC)⟩
theorem All2.app{α β:Type}{R:α->β->Prop}:∀{xs:List α} {ys:List β} {us:List α} {vs:List β},All2 R xs ys->All2 R us vs->All2 R (xs++us) (ys++vs)
 | [],[],_,_,_,h=>h
 | _::_,_::_,_,_,g,h=>⟨g.1,All2.app g.2 h⟩
 | [],_::_,_,_,g,_=>g.elim
 | _::_,[],_,_,g,_=>g.elim
theorem zMG{k n sz:Nat}{x:AV}{rn:List Nat}(hx:n=0/\x=.nils\/x=.slice k 0 n sz false)(h:rn[k]? = some k):AW rn (.sl k 0 n sz false) x:=by
 rcases hx with⟨h1,rfl⟩ | rfl
 · simp[AW,h1]
 · simp[AW,h]
theorem zOq{n k:Nat}{ys:List AV}{H:zA}(h:AbsT (qbZ n [ST.row [.one (.int .u8)],.one (.int .u32),.one .bool]).flatten (k+1) ys H) :
   ∃ds:List Dr,ds.length=n/\zQn ds/\(∀d∈ds,0<=d.2.1/\d.2.1<4294967296)/\H.length=ds.length/\∀rn:List Nat,(∀i,i<k+1+H.length->rn[i]? = some i)->All2 (AWb rn) (drK k ds) (.cells false ys::H):=by
 have e:([ST.row [.one (.int .u8)],.one (.int .u32),.one .bool]:List ST)=([CT.row [.int .u8],.one (.int .u32),.one .bool]:List CT).map CT.st:=rfl;rw[e,zKN]at h;obtain⟨ds,e1,e2,e3,rfl,e5⟩:=zKG n (k+1) ys H (zMQ h);refine ⟨ds,e1,e2,e3,by simp[zCm],fun rn hr=>?_⟩;have hl:(zCm ds).length=ds.length:=by simp[zCm]
 rw[hl]at hr;refine ⟨⟨id,e5 rn fun i hi=>hr _ (by omega)⟩,zDz fun B hB=>?_⟩;obtain⟨d,_,rfl⟩:=reZ.1 hB;exact⟨id,AWs.refl _ _ (zEB _)⟩
theorem zTB{n k:Nat}{ys:List AV}{H:zA}(h:AbsT (qbZ n [ST.one (.int .u16)]).flatten k ys H):∃zs:List Int,ys=ZE zs/\zs.length=n/\(∀z∈zs,0<=z/\z<=65535)/\H=[]:=by
 have e:([ST.one (.int .u16)]:List ST)=[Prim.int .u16].map .one:=rfl;rw[e,zDp]at h;obtain⟨h1,rfl⟩:=zFE h;obtain⟨zs,rfl,hl,hz⟩:=zOB h1;exact⟨zs,rfl,hl,hz,rfl⟩
end
end Go.Proofs.YtfhidaoiofeooaaGreatDoor
