/- Parts of the proof of WalKeeps: lemmas, each with its own conditions. -/
import Derived.Test.YtpmfecnajoojeaaGreatDoorY21
import Derived.Test.YtpmfecnajoojeaaGreatDoorY18
set_option maxHeartbeats 64000000
open List renaming getElem?_eq_some_iff → q1Z, getElem?_append_left → q4Z, getElem?_append_right → q5Z, length_cons → q7Z, mem_of_getElem? → qcZ, length_append → qdZ, length_take → qjZ, mem_cons → qwZ, mem_append → qxZ, getElem?_map → qzZ, mem_singleton → r1Z, append_nil → r2Z, length_map → r7Z, flatten_cons → rcZ, mem_map → reZ, map_append → roZ, map_cons → s1Z, drop_append → sdZ, flatten_append → sgZ
open Option renaming map_eq_some_iff → qlZ
open Nat renaming le_refl → qnZ
open Bool renaming false_eq_true → qsZ
namespace Go.Proofs.YtpmfecnajoojeaaGreatDoor
open _root_.Go.Proofs.Tryz renaming prog → Pz
set_option maxRecDepth 100000
section
open Go
attribute [-simp] drawOk_eq adraw qrun acode aops
def asc(l:List En):Prop:=l.Pairwise fun x y=>x.1<y.1
instance (l:List En):Decidable (asc l):=by unfold asc;infer_instance
end
section
open Go Go.RowKit Go.Lib
attribute [-simp] drawOk_eq adraw qrun acode aops
def bareE(e:En):En:=(e.1,if e.2.2 then 0 else e.2.1,e.2.2)
end
section
open Go
attribute [-simp] drawOk_eq adraw qrun acode aops
theorem okW_iff(w:List UInt8):okW w=true↔1≤w.length∧w.length≤255:=by simp[okW]
theorem eget_put(e:En)(hw:okW e.1=true)(hn:okN e.2.1=true)(hg:e.2.2=true→e.2.1=0):eget (eput e).1=(e,0):=by
 obtain⟨w,n,g⟩:=e;simp only[okN,decide_eq_true_eq]at hn hg hw;unfold eput;rw[if_pos hw]
 cases g with
 | true =>
   have:=hg rfl;subst this;simp[eget,hw]
 | false =>
   have h64:n.toNat<2 ^ 64:=by omega
   have h1:=Vy.get_mid [1] w n.toNat h64;have hs:=Vy.size_bd n.toNat h64
   have e1:([1]:List UInt8)++Vy.enc n.toNat++w=1::(Vy.enc n.toNat++w):=by simp
   rw[e1]at h1
   have h2:Vy.get (1::(Vy.enc n.toNat++w)) 1=(n.toNat,1+(Vy.size n.toNat:Int),0):=by simpa using h1
   have h3:(1+(Vy.size n.toNat:Int)).toNat=Vy.size n.toNat+1:=by omega
   have h4:(1::(Vy.enc n.toNat++w)).drop (Vy.size n.toNat+1)=w:=by
     rw[List.drop_succ_cons,sdZ,Vy.enc_length,Nat.sub_self,List.drop_zero,List.drop_of_length_le (by rw[Vy.enc_length];omega)]
     rfl
   have h5:¬4294967295<n.toNat:=by omega
   simp only[qsZ,if_false];unfold eget;dsimp only
   rw[if_neg (by decide),if_pos (by decide),h2]
   dsimp only;rw[if_pos rfl,if_neg h5,h3,h4,if_pos hw]
   have:((n.toNat:Nat):Int)=n:=by omega
   rw[this]
def dletter(c:Nat):Nat:=if c % 8<7 then 97+c % 8 % 3 else c
def dword(ls:List Nat):List UInt8:=(ls.take 9).map fun c=>UInt8.ofNat (dletter c)
def dE(ls:List Nat)(n:Int)(g:Bool):En:=bareE (if dword ls=[] then [97] else dword ls,n,g)
theorem dE_ok(ls:List Nat)(n:Int)(g:Bool)(hn:okN n=true):okW (dE ls n g).1=true∧okN (dE ls n g).2.1=true∧((dE ls n g).2.2=true→(dE ls n g).2.1=0):=by
 unfold dE bareE;refine ⟨?_,?_,?_⟩
 · rw[okW_iff]
   dsimp only;split
   · simp
   · rename_i h
     have h1:(dword ls).length≤9:=by simp[dword];omega
     have h2:(dword ls).length≠0:=by simpa using h
     omega
 · dsimp only
   split
   · rfl
   · exact hn
 · dsimp only
   intro h;rw[if_pos h]
theorem bare_ct(e:En):Ct Pz 200 [.agg (enA e)] [] (.agg (enA (bareE e))) []:=by
 obtain⟨w,n,g⟩:=e;unfold bareE;refine ct_val hmix goks_nil (n:=0) Tryz.func200 ?_ rfl;unfold Tryz.f200
 cases g <;> simp[enA]
def bareS:Summ:=pureS fun | [.agg [.str w,.int .u32 n,.bool g]]=>some (.agg (enA (bareE (w,n,g)))) | _=>none
theorem bare_sound:Sound Pz 200 bareS:=by
 refine sound_pure (enter_of Tryz.func200 rfl (by decide)) fun args v h=>?_
 split at h <;> cases h
 rename_i w n g;exact⟨bare_ct (w,n,g),rfl,rfl⟩
end
section
open Go Go.Lib
def okE(e:En):Prop:=okW e.1=true∧okN e.2.1=true∧(e.2.2=true→e.2.1=0)
def frE(e:En):List UInt8:=(Fr.put (eput e).1).1
def unE(s:List UInt8):En:=(eget (Fr.get s 0).1).1
def payE(es:List En):List (List UInt8):=es.map fun e=>(eput e).1
theorem payE_take(es:List En)(k:Nat):payE (es.take k)=(payE es).take k:=by simp[payE,List.map_take]
theorem bytes_cat(es:List En):Rp.bytes es=Fr.cat (payE es):=by simp[Rp.bytes,Fr.cat,payE,List.map_map,Function.comp_def]
theorem bytes_flat(es:List En):Rp.bytes es=(es.map frE).flatten:=rfl
theorem eput_okE{e:En}(h:okE e):Fr.ok (eput e).1∧(eput e).2=0:=by
 obtain⟨w,n,g⟩:=e;obtain⟨h1,h2,_⟩:=h;have h3:=(okW_iff w).1 h1;simp only[okN,decide_eq_true_eq]at h2;unfold eput Fr.ok;dsimp only at h1 ⊢;rw[if_pos h1];split
 · refine ⟨⟨by simp,?_⟩,rfl⟩
   simp;omega
 · refine ⟨⟨by simp,?_⟩,rfl⟩
   have:=Vy.size_bd n.toNat (by omega)
   simp only[q7Z,qdZ,Vy.enc_length];omega
theorem eget_okE{e:En}(h:okE e):eget (eput e).1=(e,0):=eget_put e h.1 h.2.1 h.2.2
theorem payE_ok{es:List En}(h:∀e∈es,okE e):∀p∈payE es,Fr.ok p:=fun p hp=>by
 obtain⟨e,he,rfl⟩:=reZ.1 hp;exact (eput_okE (h e he)).1
theorem unE_frE{e:En}(h:okE e):unE (frE e)=e:=by
 have:=Fr.get_mid (eput e).1 [] (eput_okE h).1;rw[r2Z]at this;unfold unE frE;rw[this,eget_okE h]
theorem frE_le(e:En):(frE e).length≤313:=Fr.put_le _
theorem cut_at:∀(es:List En) (n:Nat),n≤(Rp.bytes es).length→∃w,w≤es.length∧(Rp.bytes (es.take w)).length≤n∧(w<es.length→n<(Rp.bytes (es.take (w+1))).length)
 | [],n,_=>⟨0,qnZ _,by simp[Rp.bytes],fun h=>by simp at h⟩
 | e::es,n,h=>by
   have hc:∀l,(Rp.bytes (e::l)).length=(frE e).length+(Rp.bytes l).length:=fun l=>by simp[Rp.bytes,frE]
   by_cases h0:n<(frE e).length
   · refine ⟨0,by omega,by simp[Rp.bytes],fun _=>?_⟩
     rw[List.take_succ_cons,hc];omega
   · rw[hc]at h
     obtain⟨w,h1,h2,h3⟩:=cut_at es (n-(frE e).length) (by omega)
     refine ⟨w+1,by simpa using h1,?_,fun hw=>?_⟩
     · rw[List.take_succ_cons,hc];omega
     · have:=h3 (by simpa using hw)
       rw[List.take_succ_cons,hc];omega
theorem bytes_mono(es:List En){i j:Nat}(h:i≤j):(Rp.bytes (es.take i)).length≤(Rp.bytes (es.take j)).length:=by
 have e:es.take j=es.take i++(es.drop i).take (j-i):=by rw[←List.take_add];congr 1;omega
 rw[e];simp[Rp.bytes]
theorem read_cut{es:List En}(h:∀e∈es,okE e){t:List UInt8}(ht:t <+: Rp.bytes es):∃w,w≤es.length∧(Fr.all t 0).1=payE (es.take w)∧(∀k,k≤es.length→Rp.bytes (es.take k) <+: t→k≤w)∧(t=Rp.bytes es→w=es.length∧(Fr.all t 0).2.2=0):=by
 have hp:=payE_ok h
 have hl:(payE es).length=es.length:=by simp[payE]
 obtain⟨w,h1,h2,h3⟩:=cut_at es t.length ht.length_le;have e:=List.prefix_iff_eq_take.1 ht
 have hx:∀x:List UInt8,t=Rp.bytes es→t.length=(Rp.bytes es).length:=fun _ h=>by rw[h]
 have full:(Rp.bytes (es.take es.length)).length=(Rp.bytes es).length:=by rw[List.take_length]
 by_cases hn:t.length=(Rp.bytes (es.take w)).length
 · have ha:=Fr.all_whole (payE es) hp w (by omega)
   rw[←payE_take,←bytes_cat,←bytes_cat,←hn,←e]at ha
   refine ⟨w,h1,by rw[ha],fun k hk hkt=>?_,fun hf=>⟨?_,by rw[ha]⟩⟩
   · have:=hkt.length_le
     by_cases hw:w<k
     · have h4:=h3 (by omega)
       have h5:=bytes_mono es (show w+1≤k by omega)
       omega
     · omega
   · by_cases hw:w<es.length
     · have h4:=h3 hw
       have h5:=bytes_mono es (show w+1≤es.length by omega)
       rw[full,←hf]at h5;omega
     · omega
 · have hw:w<es.length:=by
     by_cases hw:w<es.length
     · exact hw
     · have hwe:w=es.length:=by omega
       have:=ht.length_le;rw[hwe,full]at h2 hn;omega
   have h4:=h3 hw
   have ha:=Fr.all_cut (payE es) hp w t.length (by omega) (by rw[←payE_take,←bytes_cat];omega) (by rw[←payE_take,←bytes_cat];omega)
   rw[←payE_take,←bytes_cat,←bytes_cat,←e]at ha
   refine ⟨w,h1,by rw[ha],fun k hk hkt=>?_,fun hf=>?_⟩
   · have:=hkt.length_le
     by_cases hwk:w<k
     · have h5:=bytes_mono es (show w+1≤k by omega)
       omega
     · omega
   · have h5:=bytes_mono es (show w+1≤es.length by omega)
     rw[full,←hf]at h5;omega
structure Logs (n1:Nat) (ts:List (List UInt8)) (d:DS):Prop where
 up:d.down=false
 keys:NM.keys d.fd.now=(List.range ts.length).map fun i=>wn (n1+i)
 file:∀i t,ts[i]? = some t→∃f,cont d.fs d.fd.now (wn (n1+i))=some f∧f.now=t
theorem Logs.size{n1:Nat}{ts:List (List UInt8)}{d:DS}(h:Logs n1 ts d){i:Nat}{t:List UInt8}(ht:ts[i]? = some t):d.size (wn (n1+i))=((t.length:Int),0):=by
 obtain⟨f,h1,rfl⟩:=h.file i t ht;obtain⟨n,h2,h3⟩:=cont_get h1;unfold DS.size;rw[h.up,h2];simp only[qsZ,if_false];rw[h3]
theorem Logs.read{n1:Nat}{ts:List (List UInt8)}{d:DS}(h:Logs n1 ts d){i:Nat}{t:List UInt8}(ht:ts[i]? = some t){m:Nat}(hm:t.length≤m):d.readAt (wn (n1+i)) 0 m=(t,0):=by
 obtain⟨f,h1,rfl⟩:=h.file i t ht;exact readAt_cont h.up h1 hm
theorem wn_over{n:Nat}(h:1000000000<n):wn n=[]:=by
 unfold wn mk
 rw[if_neg (by decide),if_neg (by decide)]
 rw[if_pos (by omega)]
theorem Logs.none{n1:Nat}{ts:List (List UInt8)}{d:DS}(h:Logs n1 ts d)(h1:1≤n1)(h2:n1+ts.length≤1000000001):d.size (wn (n1+ts.length))=(0,9):=by
 have hk:d.fd.now.get (wn (n1+ts.length))=Option.none:=by
   rw[NM.get_none,h.keys];intro hk;obtain⟨i,hi,e⟩:=reZ.1 hk;have hi:=List.mem_range.1 hi;by_cases hb:n1+ts.length≤1000000000
   · have:=wn_inj (by omega) (by omega) (by omega) (by omega) e
     omega
   · rw[wn_over (n:=n1+ts.length) (by omega)]at e
     have h9:=(wn_may (n:=n1+i) (by omega) (by omega)).1
     rw[e]at h9;simp at h9
 unfold DS.size;rw[h.up,hk];rfl
def Reads(ts:List (List UInt8))(ess:List (List En)):Prop:=ess.length=ts.length∧∀i t es,ts[i]? = some t→ess[i]? = some es→(Fr.all t 0).1=payE es∧(i+1<ts.length→(Fr.all t 0).2.2=0)∧∀e∈es,okE e
theorem chunk_es{all:List En}(h:∀e∈all,okE e){cs:List (List (List UInt8))}(hc:cs.flatten <+: all.map frE){i:Nat}{c:List (List UInt8)}(hi:cs[i]? = some c):c=(c.map unE).map frE∧(∀e∈c.map unE,okE e)∧c.flatten=Rp.bytes (c.map unE):=by
 have hm:∀s∈c,∃e,okE e∧s=frE e:=fun s hs=>by
   have h1:s∈cs.flatten:=List.mem_flatten.2 ⟨c,qcZ hi,hs⟩;obtain⟨e,he,rfl⟩:=reZ.1 (hc.subset h1);exact⟨e,h e he,rfl⟩
 have e1:c=(c.map unE).map frE:=by
   rw[List.map_map]
   conv=>lhs;rw[←List.map_id c]
   refine List.map_congr_left fun s hs=>?_
   obtain⟨e,he,rfl⟩:=hm s hs;simp[unE_frE he]
 refine ⟨e1,fun e he=>?_,?_⟩
 · obtain⟨s,hs,rfl⟩:=reZ.1 he
   obtain⟨e,he2,rfl⟩:=hm s hs;rw[unE_frE he2];exact he2
 · rw[bytes_flat,←e1]
theorem chunks_all{all:List En}(h:∀e∈all,okE e){cs:List (List (List UInt8))}(hc:cs.flatten <+: all.map frE):(cs.map (List.map unE)).flatten=all.take cs.flatten.length:=by
 have e1:(cs.map (List.map unE)).flatten=cs.flatten.map unE:=by rw[List.map_flatten]
 have e2:=List.prefix_iff_eq_take.1 hc;rw[e1]
 conv=>lhs;rw[e2]
 rw[←List.map_take,List.map_map]
 conv=>rhs;rw[←List.map_id (all.take cs.flatten.length)]
 exact List.map_congr_left fun e he=>by simp[unE_frE (h e (List.mem_of_mem_take he))]
theorem reads_whole{all:List En}(h:∀e∈all,okE e){cs:List (List (List UInt8))}(hc:cs.flatten <+: all.map frE):Reads (cs.map List.flatten) (cs.map (List.map unE)):=by
 refine ⟨by simp,fun i t es ht he=>?_⟩
 rw[qzZ]at ht he;obtain⟨c,hi,rfl⟩:=qlZ.1 ht;rw[hi]at he;cases he;obtain⟨g1,g2,g3⟩:=chunk_es h hc hi
 obtain⟨w,k1,k2,k3,k4⟩:=read_cut g2 (t:=c.flatten) (by rw[g3];exact List.prefix_refl _)
 obtain⟨rfl,k5⟩:=k4 g3;rw[List.take_length]at k2
 exact⟨k2,fun _=>k5,g2⟩
theorem flat_mem_le:∀{cs:List (List (List UInt8))} {c:List (List UInt8)},c∈cs→c.flatten.length≤cs.flatten.flatten.length
 | [],_,h=>by cases h
 | a::l,c,h=>by
   rw[rcZ,sgZ,qdZ];rcases qwZ.1 h with rfl | h
   · omega
   · have:=flat_mem_le h;omega
theorem pre_flat_le{a b:List (List UInt8)}(h:a <+: b):a.flatten.length≤b.flatten.length:=by
 obtain⟨t,rfl⟩:=h;rw[sgZ,qdZ];omega
theorem logs_restart{n1:Nat}{all:List En}(h:∀e∈all,okE e){sy:Nat}{d:DS}{A B:Nat}(hok:d.ok A B)(hw:WB n1 (all.map frE) sy d.fd d.fs)(l:List Int) :
   ∃ts ess,Logs n1 ts (d.restart l)∧Reads ts ess∧ess.flatten <+: all∧sy≤ess.flatten.length∧n1+ts.length≤1000000001∧∀t∈ts,t.length≤(all.map frE).flatten.length:=by
 obtain⟨i,hi,e1,e2,_,_,e5⟩:=restart_cont hok l;obtain⟨cs,v1,v2,v3,v4⟩:=hw.2 i hi
 have hnow:(d.restart l).fd.now=druns d.fd.d (d.fd.acts.take i):=by rw[e1];simp[FD.now,druns]
 have file:∀k c,cs[k]? = some c→∃f,cont (d.restart l).fs (d.restart l).fd.now (wn (n1+k))=some f∧(k+1<cs.length→f.now=c.flatten)∧f.now <+: c.flatten∧(c.take (sy-(cs.take k).flatten.length)).flatten <+: f.now:=fun k c hk=>by
   obtain⟨f,f1,f2,f3⟩:=v4.file k c hk;rcases e5 (wn (n1+k)) with⟨g1,g2⟩ | ⟨f0,f',g1,g2,g3⟩
   · rw[f1]at g1;cases g1
   rw[f1]at g1;cases g1
   refine ⟨f',g2,fun hk1=>?_,?_⟩
   · have:=g3 (fun x=>x=⟨c.flatten,[]⟩) (f3 hk1) fun g a b hg=>by subst hg;rw[PF.stays_settled]
     rw[this];simp[PF.now,runs]
   · have:=g3 (fun x=>∀j,runs x.d (x.acts.take j) <+: c.flatten∧(c.take (sy-(cs.take k).flatten.length)).flatten <+: runs x.d (x.acts.take j)) f2.2 fun g a b hg j=>by
       simp only[List.take_nil,runs]
       refine ⟨partO_now (partO_stays g a b (.inr ⟨g,rfl,fun i=>(hg i).1⟩)),?_⟩
       unfold PF.stays;exact (hg _).2.trans (List.prefix_append _ _)
     have h9:=this f'.acts.length;rw[List.take_length]at h9;exact h9
 rcases List.eq_nil_or_concat cs with rfl | ⟨init,c,rfl⟩
 · refine ⟨[],[],⟨e2,by rw[hnow,v4.keys];rfl,fun i t ht=>by simp at ht⟩,⟨rfl,fun i t es ht=>by simp at ht⟩,by simp,by simpa using v2,by simp at v3 ⊢;omega,by simp⟩
 rw[List.concat_eq_append]at v1 v2 v3 v4 file
 obtain⟨fl,fl1,_,fl2,fl3⟩:=file init.length c (by simp)
 rw[List.take_append_of_le_length (qnZ _),List.take_length]at fl3
 obtain⟨c1,c2,c3⟩:=chunk_es h v1 (i:=init.length) (c:=c) (by simp)
 have vi:init.flatten <+: all.map frE:=by
   refine List.IsPrefix.trans ?_ v1;rw[sgZ];exact List.prefix_append _ _
 have hr:=reads_whole h vi;rw[c3]at fl2;obtain⟨w,w1,w2,w3,w4⟩:=read_cut c2 fl2
 refine ⟨init.map List.flatten++[fl.now],init.map (List.map unE)++[(c.map unE).take w],⟨e2,?_,fun k t ht=>?_⟩,⟨by simp,fun k t es ht hes=>?_⟩,?_,?_,by simpa using v3,fun t ht=>?_⟩
 · rw[hnow,v4.keys];simp
 · have hk:k<init.length+1:=by have:=(q1Z.1 ht).1;simpa using this
   by_cases ek:k=init.length
   · subst ek
     rw[q5Z (by simp)]at ht
     simp at ht;subst ht;exact⟨fl,fl1,rfl⟩
   · rw[q4Z (by simp;omega),qzZ]at ht
     obtain⟨c0,hc0,rfl⟩:=qlZ.1 ht
     obtain⟨f,f1,f2,_⟩:=file k c0 (by rw[q4Z (by omega)];exact hc0)
     exact⟨f,f1,f2 (by simp;omega)⟩
 · have hk:k<init.length+1:=by have:=(q1Z.1 ht).1;simpa using this
   by_cases ek:k=init.length
   · subst ek
     rw[q5Z (by simp)]at ht hes
     simp at ht hes
     subst ht;subst hes
     exact⟨w2,fun h=>by simp at h,fun e he=>c2 e (List.mem_of_mem_take he)⟩
   · rw[q4Z (by simp;omega)]at ht hes
     obtain⟨r1,r2,r3⟩:=hr.2 k t es ht hes
     refine ⟨r1,fun _=>?_,r3⟩
     rw[qzZ]at ht hes;obtain⟨c0,hc0,rfl⟩:=qlZ.1 ht;obtain⟨g1,g2,g3⟩:=chunk_es h vi hc0
     obtain⟨w',_,_,_,k4⟩:=read_cut g2 (t:=c0.flatten) (by rw[g3];exact List.prefix_refl _)
     exact (k4 g3).2
 · have e6:=chunks_all h v1
   rw[roZ,sgZ]at e6
   have e7:(init.map (List.map unE)++[(c.map unE).take w]).flatten <+: (init.map (List.map unE)).flatten++([c].map (List.map unE)).flatten:=by
     rw[sgZ,List.prefix_append_right_inj];simp only[s1Z,List.map_nil,rcZ,List.flatten_nil,r2Z];exact List.take_prefix _ _
   rw[e6]at e7;exact e7.trans (List.take_prefix _ _)
 · rw[sgZ,qdZ]
   have e8:(init.map (List.map unE)).flatten.length=init.flatten.length:=by rw[←List.map_flatten,r7Z]
   rw[e8];simp only[rcZ,List.flatten_nil,r2Z,qjZ,r7Z];simp only[sgZ,rcZ,List.flatten_nil,r2Z,qdZ]at v2
   have w1':w≤c.length:=by simpa using w1
   by_cases hs:sy≤init.flatten.length
   · omega
   · have:=w3 (sy-init.flatten.length) (by rw[r7Z];omega) (by
       rw[bytes_flat,List.map_take,←c1]
       exact fl3)
     omega
 · have hp:=pre_flat_le v1
   rcases qxZ.1 ht with ht | ht
   · obtain⟨c0,hc0,rfl⟩:=reZ.1 ht
     have:=flat_mem_le (cs:=init++[c]) (c:=c0) (by simp[hc0])
     omega
   · simp only[r1Z]at ht
     subst ht;have h1:=fl2.length_le;rw[←c3]at h1
     have:=flat_mem_le (cs:=init++[c]) (c:=c) (by simp)
     omega
theorem foldl_flat(most:Int):∀(l:List (List UInt8)) (cs:List (List (List UInt8))),(l.foldl (addc most) cs).flatten=cs.flatten++l
 | [],cs=>by simp
 | s::l,cs=>by rw[List.foldl_cons,foldl_flat most l,addc_flat];simp
theorem foldl_len(most:Int):∀(l:List (List UInt8)) (cs:List (List (List UInt8))),(l.foldl (addc most) cs).length≤cs.length+l.length
 | [],cs=>by simp
 | s::l,cs=>by
   have h1:=foldl_len most l (addc most cs s);have h2:=addc_len most cs s;rw[List.foldl_cons,q7Z];omega
theorem step_quota(d:DS)(g:DS→DS×Int)(hg:∀d,(g d).1.quota=d.quota):(d.step g).1.quota=d.quota:=by
 unfold DS.step;split
 · simp
 · rw[hg];simp
theorem wof_quota(d:DS)(k:List UInt8)(g:DS→PF→PF×Int):(d.of k g).1.quota=d.quota:=step_quota d _ fun d=>by
 split
 · rfl
 · split
   · rfl
   · rfl
theorem fresh_ok{w:WL}{A B:Nat}(h:w.d.ok A B)(_hq:w.d.quota≤1048576):w.fresh.1.d.ok (A+4) B∧w.fresh.1.d.quota=w.d.quota:=by
 have h1:=DS.ok_create h (wn w.next);have h2:=DS.ok_syncDir h1;have q1:=create_quota w.d (wn w.next)
 have q2:(w.d.create (wn w.next)).1.syncDir.1.quota=w.d.quota:=(step_quota _ _ fun _=>rfl).trans q1
 unfold WL.fresh;split
 · exact⟨DS.ok_mono h (by omega) (qnZ _),rfl⟩
 split
 · split
   · exact⟨h2,q2⟩
   · exact⟨h2,q2⟩
 · exact⟨DS.ok_mono h1 (by omega) (qnZ _),q1⟩
theorem ready_ok{w:WL}{A B:Nat}(h:w.d.ok A B)(hq:w.d.quota≤1048576):w.ready.1.d.ok (A+5) B∧w.ready.1.d.quota=w.d.quota:=by
 have h1:=DS.ok_sync h (wn w.file);have q1:(w.d.sync (wn w.file)).1.quota=w.d.quota:=wof_quota _ _ _;unfold WL.ready;split
 · exact⟨DS.ok_mono (fresh_ok h hq).1 (by omega) (qnZ _),(fresh_ok h hq).2⟩
 split
 · split
   · have:=fresh_ok (w:=⟨(w.d.sync (wn w.file)).1,w.most,w.file,w.next,w.done,w.bad⟩) h1 (by dsimp only;rw[q1];exact hq)
     exact⟨DS.ok_mono this.1 (by omega) (qnZ _),this.2.trans q1⟩
   · exact⟨DS.ok_mono h1 (by omega) (qnZ _),q1⟩
 · exact⟨DS.ok_mono h (by omega) (qnZ _),rfl⟩
theorem add_ok{w:WL}{A B:Nat}(h:w.d.ok A B)(hq:w.d.quota≤1048576)(s:List UInt8):(w.add s).1.d.ok (A+6) (B+1048576)∧(w.add s).1.d.quota=w.d.quota:=by
 obtain⟨h1,q1⟩:=ready_ok h hq
 have h2:=DS.ok_append h1 (wn w.ready.1.file) s 1048576 (by decide) (by rw[q1];exact hq)
 have q2:(w.ready.1.d.append (wn w.ready.1.file) s).1.quota=w.d.quota:=(wof_quota _ _ _).trans q1;unfold WL.add;split
 · split
   · exact⟨h2,q2⟩
   · exact⟨h2,q2⟩
 · exact⟨DS.ok_mono h1 (by omega) (by omega),q1⟩
theorem adds_ok:∀(l:List (List UInt8)) {w:WL} {A B:Nat},w.d.ok A B→w.d.quota≤1048576→(w.adds l).1.d.ok (A+6*l.length) (B+1048576*l.length)∧(w.adds l).1.d.quota=w.d.quota
 | [],w,A,B,h,_=>⟨h,rfl⟩
 | s::l,w,A,B,h,hq=>by
   obtain⟨h1,q1⟩:=add_ok h hq s;unfold WL.adds;simp only[q7Z];split
   · obtain⟨h2,q2⟩:=adds_ok l h1 (by rw[q1];exact hq)
     exact⟨DS.ok_mono h2 (by omega) (by omega),q2.trans q1⟩
   · exact⟨DS.ok_mono h1 (by omega) (by omega),q1⟩
theorem wsync_ok{w:WL}{A B:Nat}(h:w.d.ok A B):w.sync.1.d.ok (A+1) B∧w.sync.1.d.quota=w.d.quota:=by
 unfold WL.sync;split
 · exact⟨DS.ok_mono h (by omega) (qnZ _),rfl⟩
 · exact⟨DS.ok_sync h _,wof_quota _ _ _⟩
abbrev WL.new(most:Int)(next:Nat):WL:=⟨DS.new 1048576,most,0,next,0,false⟩
theorem WP.new(most:Int){n1:Nat}:WP n1 most [] 0 (WL.new most n1):=by
 have hok:=DS.ok_new 1048576 (by decide) (by decide)
 exact⟨rfl,hok.core,rfl,⟨rfl,fun i c hc=>by simp at hc⟩,rfl,rfl,rfl,rfl,qnZ _⟩
theorem frames_len(all:List En):((all.map frE).flatten).length≤313*all.length:=Rp.bytes_le all
theorem Logs.count{d:DS}{n1:Nat}{ts:List (List UInt8)}(h:Logs n1 ts d):d.list.length=ts.length:=by
 unfold DS.list FD.names;rw[h.up];simp only[qsZ,if_false];rw[(sortU_perm _).length_eq,h.keys];simp
end
end Go.Proofs.YtpmfecnajoojeaaGreatDoor
