/- Parts of the proof of WalTurns: lemmas, each with its own conditions. -/
import Derived.Test.YthafeihjlamhhaaGreatDoorY24
import Derived.Test.YthafeihjlamhhaaGreatDoorY21
set_option maxHeartbeats 64000000
open List renaming getElem?_eq_some_iff → q1Z, getElem?_eq_getElem → q3Z, getElem?_append_left → q4Z, getElem?_append_right → q5Z, length_cons → q7Z, length_nil → q8Z, cons_append → q9Z, nil_append → qaZ, replicate → qbZ, mem_of_getElem? → qcZ, length_append → qdZ, mem_cons → qwZ, mem_append → qxZ, getElem?_map → qzZ, mem_singleton → r1Z, append_nil → r2Z, length_map → r7Z, flatten_cons → rcZ, mem_map → reZ, getElem?_range → rfZ, not_mem_nil → rtZ, drop_append → sdZ, flatten_append → sgZ
open Option renaming map_eq_some_iff → qlZ, map_some → rhZ
open Nat renaming le_refl → qnZ
open Bool renaming false_eq_true → qsZ
namespace Go.Proofs.YthafeihjlamhhaaGreatDoor
open _root_.Go.Proofs.Tryz renaming prog → Pz
set_option maxRecDepth 100000
section
open Go
attribute [-simp] drawOk_eq adraw qrun acode aops
def asc(l:List En):Prop:=l.Pairwise fun x y=>x.1<y.1
instance (l:List En):Decidable (asc l):=by unfold asc;infer_instance
end
section
open Go Go.RowKit Go.Lib
attribute [-simp] drawOk_eq adraw qrun acode aops
def bareE(e:En):En:=(e.1,if e.2.2 then 0 else e.2.1,e.2.2)
end
section
open Go
attribute [-simp] drawOk_eq adraw qrun acode aops
theorem okW_iff(w:List UInt8):okW w=true↔1≤w.length∧w.length≤255:=by simp[okW]
theorem eget_put(e:En)(hw:okW e.1=true)(hn:okN e.2.1=true)(hg:e.2.2=true→e.2.1=0):eget (eput e).1=(e,0):=by
 obtain⟨w,n,g⟩:=e;simp only[okN,decide_eq_true_eq]at hn hg hw;unfold eput;rw[if_pos hw]
 cases g with
 | true =>
   have:=hg rfl;subst this;simp[eget,hw]
 | false =>
   have h64:n.toNat<2 ^ 64:=by omega
   have h1:=Vy.get_mid [1] w n.toNat h64;have hs:=Vy.size_bd n.toNat h64
   have e1:([1]:List UInt8)++Vy.enc n.toNat++w=1::(Vy.enc n.toNat++w):=by simp
   rw[e1]at h1
   have h2:Vy.get (1::(Vy.enc n.toNat++w)) 1=(n.toNat,1+(Vy.size n.toNat:Int),0):=by simpa using h1
   have h3:(1+(Vy.size n.toNat:Int)).toNat=Vy.size n.toNat+1:=by omega
   have h4:(1::(Vy.enc n.toNat++w)).drop (Vy.size n.toNat+1)=w:=by
     rw[List.drop_succ_cons,sdZ,Vy.enc_length,Nat.sub_self,List.drop_zero,List.drop_of_length_le (by rw[Vy.enc_length];omega)]
     rfl
   have h5:¬4294967295<n.toNat:=by omega
   simp only[qsZ,if_false];unfold eget;dsimp only
   rw[if_neg (by decide),if_pos (by decide),h2]
   dsimp only;rw[if_pos rfl,if_neg h5,h3,h4,if_pos hw]
   have:((n.toNat:Nat):Int)=n:=by omega
   rw[this]
def dletter(c:Nat):Nat:=if c % 8<7 then 97+c % 8 % 3 else c
def dword(ls:List Nat):List UInt8:=(ls.take 9).map fun c=>UInt8.ofNat (dletter c)
def dE(ls:List Nat)(n:Int)(g:Bool):En:=bareE (if dword ls=[] then [97] else dword ls,n,g)
theorem dE_ok(ls:List Nat)(n:Int)(g:Bool)(hn:okN n=true):okW (dE ls n g).1=true∧okN (dE ls n g).2.1=true∧((dE ls n g).2.2=true→(dE ls n g).2.1=0):=by
 unfold dE bareE;refine ⟨?_,?_,?_⟩
 · rw[okW_iff]
   dsimp only;split
   · simp
   · rename_i h
     have h1:(dword ls).length≤9:=by simp[dword];omega
     have h2:(dword ls).length≠0:=by simpa using h
     omega
 · dsimp only
   split
   · rfl
   · exact hn
 · dsimp only
   intro h;rw[if_pos h]
theorem bare_ct(e:En):Ct Pz 145 [.agg (enA e)] [] (.agg (enA (bareE e))) []:=by
 obtain⟨w,n,g⟩:=e;unfold bareE;refine ct_val hmix goks_nil (n:=0) Tryz.func145 ?_ rfl;unfold Tryz.f145
 cases g <;> simp[enA]
def bareS:Summ:=pureS fun | [.agg [.str w,.int .u32 n,.bool g]]=>some (.agg (enA (bareE (w,n,g)))) | _=>none
theorem bare_sound:Sound Pz 145 bareS:=by
 refine sound_pure (enter_of Tryz.func145 rfl (by decide)) fun args v h=>?_
 split at h <;> cases h
 rename_i w n g;exact⟨bare_ct (w,n,g),rfl,rfl⟩
end
section
open Go Go.Lib
def okE(e:En):Prop:=okW e.1=true∧okN e.2.1=true∧(e.2.2=true→e.2.1=0)
def frE(e:En):List UInt8:=(Fr.put (eput e).1).1
def unE(s:List UInt8):En:=(eget (Fr.get s 0).1).1
def payE(es:List En):List (List UInt8):=es.map fun e=>(eput e).1
theorem payE_take(es:List En)(k:Nat):payE (es.take k)=(payE es).take k:=by simp[payE,List.map_take]
theorem bytes_cat(es:List En):Rp.bytes es=Fr.cat (payE es):=by simp[Rp.bytes,Fr.cat,payE,List.map_map,Function.comp_def]
theorem bytes_flat(es:List En):Rp.bytes es=(es.map frE).flatten:=rfl
theorem eput_okE{e:En}(h:okE e):Fr.ok (eput e).1∧(eput e).2=0:=by
 obtain⟨w,n,g⟩:=e;obtain⟨h1,h2,_⟩:=h;have h3:=(okW_iff w).1 h1;simp only[okN,decide_eq_true_eq]at h2;unfold eput Fr.ok;dsimp only at h1 ⊢;rw[if_pos h1];split
 · refine ⟨⟨by simp,?_⟩,rfl⟩
   simp;omega
 · refine ⟨⟨by simp,?_⟩,rfl⟩
   have:=Vy.size_bd n.toNat (by omega)
   simp only[q7Z,qdZ,Vy.enc_length];omega
theorem eget_okE{e:En}(h:okE e):eget (eput e).1=(e,0):=eget_put e h.1 h.2.1 h.2.2
theorem payE_ok{es:List En}(h:∀e∈es,okE e):∀p∈payE es,Fr.ok p:=fun p hp=>by
 obtain⟨e,he,rfl⟩:=reZ.1 hp;exact (eput_okE (h e he)).1
theorem unE_frE{e:En}(h:okE e):unE (frE e)=e:=by
 have:=Fr.get_mid (eput e).1 [] (eput_okE h).1;rw[r2Z]at this;unfold unE frE;rw[this,eget_okE h]
theorem frE_le(e:En):(frE e).length≤313:=Fr.put_le _
theorem cut_at:∀(es:List En) (n:Nat),n≤(Rp.bytes es).length→∃w,w≤es.length∧(Rp.bytes (es.take w)).length≤n∧(w<es.length→n<(Rp.bytes (es.take (w+1))).length)
 | [],n,_=>⟨0,qnZ _,by simp[Rp.bytes],fun h=>by simp at h⟩
 | e::es,n,h=>by
   have hc:∀l,(Rp.bytes (e::l)).length=(frE e).length+(Rp.bytes l).length:=fun l=>by simp[Rp.bytes,frE]
   by_cases h0:n<(frE e).length
   · refine ⟨0,by omega,by simp[Rp.bytes],fun _=>?_⟩
     rw[List.take_succ_cons,hc];omega
   · rw[hc]at h
     obtain⟨w,h1,h2,h3⟩:=cut_at es (n-(frE e).length) (by omega)
     refine ⟨w+1,by simpa using h1,?_,fun hw=>?_⟩
     · rw[List.take_succ_cons,hc];omega
     · have:=h3 (by simpa using hw)
       rw[List.take_succ_cons,hc];omega
theorem bytes_mono(es:List En){i j:Nat}(h:i≤j):(Rp.bytes (es.take i)).length≤(Rp.bytes (es.take j)).length:=by
 have e:es.take j=es.take i++(es.drop i).take (j-i):=by rw[←List.take_add];congr 1;omega
 rw[e];simp[Rp.bytes]
theorem read_cut{es:List En}(h:∀e∈es,okE e){t:List UInt8}(ht:t <+: Rp.bytes es):∃w,w≤es.length∧(Fr.all t 0).1=payE (es.take w)∧(∀k,k≤es.length→Rp.bytes (es.take k) <+: t→k≤w)∧(t=Rp.bytes es→w=es.length∧(Fr.all t 0).2.2=0):=by
 have hp:=payE_ok h
 have hl:(payE es).length=es.length:=by simp[payE]
 obtain⟨w,h1,h2,h3⟩:=cut_at es t.length ht.length_le;have e:=List.prefix_iff_eq_take.1 ht
 have hx:∀x:List UInt8,t=Rp.bytes es→t.length=(Rp.bytes es).length:=fun _ h=>by rw[h]
 have full:(Rp.bytes (es.take es.length)).length=(Rp.bytes es).length:=by rw[List.take_length]
 by_cases hn:t.length=(Rp.bytes (es.take w)).length
 · have ha:=Fr.all_whole (payE es) hp w (by omega)
   rw[←payE_take,←bytes_cat,←bytes_cat,←hn,←e]at ha
   refine ⟨w,h1,by rw[ha],fun k hk hkt=>?_,fun hf=>⟨?_,by rw[ha]⟩⟩
   · have:=hkt.length_le
     by_cases hw:w<k
     · have h4:=h3 (by omega)
       have h5:=bytes_mono es (show w+1≤k by omega)
       omega
     · omega
   · by_cases hw:w<es.length
     · have h4:=h3 hw
       have h5:=bytes_mono es (show w+1≤es.length by omega)
       rw[full,←hf]at h5;omega
     · omega
 · have hw:w<es.length:=by
     by_cases hw:w<es.length
     · exact hw
     · have hwe:w=es.length:=by omega
       have:=ht.length_le;rw[hwe,full]at h2 hn;omega
   have h4:=h3 hw
   have ha:=Fr.all_cut (payE es) hp w t.length (by omega) (by rw[←payE_take,←bytes_cat];omega) (by rw[←payE_take,←bytes_cat];omega)
   rw[←payE_take,←bytes_cat,←bytes_cat,←e]at ha
   refine ⟨w,h1,by rw[ha],fun k hk hkt=>?_,fun hf=>?_⟩
   · have:=hkt.length_le
     by_cases hwk:w<k
     · have h5:=bytes_mono es (show w+1≤k by omega)
       omega
     · omega
   · have h5:=bytes_mono es (show w+1≤es.length by omega)
     rw[full,←hf]at h5;omega
structure Logs (n1:Nat) (ts:List (List UInt8)) (d:DS):Prop where
 up:d.down=false
 keys:NM.keys d.fd.now=(List.range ts.length).map fun i=>wn (n1+i)
 file:∀i t,ts[i]?=some t→∃f,cont d.fs d.fd.now (wn (n1+i))=some f∧f.now=t
theorem Logs.size{n1:Nat}{ts:List (List UInt8)}{d:DS}(h:Logs n1 ts d){i:Nat}{t:List UInt8}(ht:ts[i]?=some t):d.size (wn (n1+i))=((t.length:Int),0):=by
 obtain⟨f,h1,rfl⟩:=h.file i t ht;obtain⟨n,h2,h3⟩:=cont_get h1;unfold DS.size;rw[h.up,h2];simp only[qsZ,if_false];rw[h3]
theorem Logs.read{n1:Nat}{ts:List (List UInt8)}{d:DS}(h:Logs n1 ts d){i:Nat}{t:List UInt8}(ht:ts[i]?=some t){m:Nat}(hm:t.length≤m):d.readAt (wn (n1+i)) 0 m=(t,0):=by
 obtain⟨f,h1,rfl⟩:=h.file i t ht;exact readAt_cont h.up h1 hm
theorem wn_over{n:Nat}(h:1000000000<n):wn n=[]:=by
 unfold wn mk
 rw[if_neg (by decide),if_neg (by decide)]
 rw[if_pos (by omega)]
theorem Logs.none{n1:Nat}{ts:List (List UInt8)}{d:DS}(h:Logs n1 ts d)(h1:1≤n1)(h2:n1+ts.length≤1000000001):d.size (wn (n1+ts.length))=(0,9):=by
 have hk:d.fd.now.get (wn (n1+ts.length))=Option.none:=by
   rw[NM.get_none,h.keys];intro hk;obtain⟨i,hi,e⟩:=reZ.1 hk;have hi:=List.mem_range.1 hi;by_cases hb:n1+ts.length≤1000000000
   · have:=wn_inj (by omega) (by omega) (by omega) (by omega) e
     omega
   · rw[wn_over (n:=n1+ts.length) (by omega)]at e
     have h9:=(wn_may (n:=n1+i) (by omega) (by omega)).1
     rw[e]at h9;simp at h9
 unfold DS.size;rw[h.up,hk];rfl
theorem logs_of_view{n1:Nat}{cs:List (List (List UInt8))}{sy:Nat}{d:DS}(hd:d.down=false)(h:View n1 cs sy d.fs d.fd.now):Logs n1 (cs.map List.flatten) d:=by
 refine ⟨hd,by rw[h.keys,r7Z],fun i t ht=>?_⟩
 rw[qzZ]at ht;obtain⟨c,hc,rfl⟩:=qlZ.1 ht;obtain⟨f,h1,h2,_⟩:=h.file i c hc;exact⟨f,h1,h2.1⟩
def Reads(ts:List (List UInt8))(ess:List (List En)):Prop:=ess.length=ts.length∧∀i t es,ts[i]?=some t→ess[i]?=some es→(Fr.all t 0).1=payE es∧(i+1<ts.length→(Fr.all t 0).2.2=0)∧∀e∈es,okE e
theorem chunk_es{all:List En}(h:∀e∈all,okE e){cs:List (List (List UInt8))}(hc:cs.flatten <+: all.map frE){i:Nat}{c:List (List UInt8)}(hi:cs[i]?=some c):c=(c.map unE).map frE∧(∀e∈c.map unE,okE e)∧c.flatten=Rp.bytes (c.map unE):=by
 have hm:∀s∈c,∃e,okE e∧s=frE e:=fun s hs=>by
   have h1:s∈cs.flatten:=List.mem_flatten.2 ⟨c,qcZ hi,hs⟩;obtain⟨e,he,rfl⟩:=reZ.1 (hc.subset h1);exact⟨e,h e he,rfl⟩
 have e1:c=(c.map unE).map frE:=by
   rw[List.map_map]
   conv=>lhs;rw[←List.map_id c]
   refine List.map_congr_left fun s hs=>?_
   obtain⟨e,he,rfl⟩:=hm s hs;simp[unE_frE he]
 refine ⟨e1,fun e he=>?_,?_⟩
 · obtain⟨s,hs,rfl⟩:=reZ.1 he
   obtain⟨e,he2,rfl⟩:=hm s hs;rw[unE_frE he2];exact he2
 · rw[bytes_flat,←e1]
theorem chunks_all{all:List En}(h:∀e∈all,okE e){cs:List (List (List UInt8))}(hc:cs.flatten <+: all.map frE):(cs.map (List.map unE)).flatten=all.take cs.flatten.length:=by
 have e1:(cs.map (List.map unE)).flatten=cs.flatten.map unE:=by rw[List.map_flatten]
 have e2:=List.prefix_iff_eq_take.1 hc;rw[e1]
 conv=>lhs;rw[e2]
 rw[←List.map_take,List.map_map]
 conv=>rhs;rw[←List.map_id (all.take cs.flatten.length)]
 exact List.map_congr_left fun e he=>by simp[unE_frE (h e (List.mem_of_mem_take he))]
theorem reads_whole{all:List En}(h:∀e∈all,okE e){cs:List (List (List UInt8))}(hc:cs.flatten <+: all.map frE):Reads (cs.map List.flatten) (cs.map (List.map unE)):=by
 refine ⟨by simp,fun i t es ht he=>?_⟩
 rw[qzZ]at ht he;obtain⟨c,hi,rfl⟩:=qlZ.1 ht;rw[hi]at he;cases he;obtain⟨g1,g2,g3⟩:=chunk_es h hc hi
 obtain⟨w,k1,k2,k3,k4⟩:=read_cut g2 (t:=c.flatten) (by rw[g3];exact List.prefix_refl _)
 obtain⟨rfl,k5⟩:=k4 g3;rw[List.take_length]at k2
 exact⟨k2,fun _=>k5,g2⟩
def ChOk(most:Int)(cs:List (List (List UInt8))):Prop:=(∀c∈cs,c≠[]∧(c.dropLast.flatten.length:Int)<most)∧∀i c,cs[i]?=some c→i+1<cs.length→most≤(c.flatten.length:Int)
theorem ChOk.add{most:Int}(hm:1≤most){cs:List (List (List UInt8))}(h:ChOk most cs)(s:List UInt8):ChOk most (addc most cs s):=by
 obtain⟨h1,h2⟩:=h;unfold addc
 cases hl:cs.getLast? with
 | none =>
   rw[List.getLast?_eq_none_iff]at hl;subst hl
   refine ⟨fun c hc=>?_,fun i c hc hi=>?_⟩
   · simp only[r1Z]at hc
     subst hc
     exact⟨by simp,by simp;omega⟩
   · simp at hi
 | some c =>
   obtain⟨init,rfl⟩:=List.getLast?_eq_some_iff.1 hl;dsimp only;split
   · rename_i hc
     refine ⟨fun x hx=>?_,fun i x hx hi=>?_⟩
     · rcases qxZ.1 hx with hx | hx
       · exact h1 x hx
       · simp only[r1Z]at hx
         subst hx
         exact⟨by simp,by simp;omega⟩
     · simp only[qdZ,List.length_singleton]at hi
       rw[q4Z (by simp;omega)]at hx
       by_cases e:i=init.length
       · subst e
         rw[q5Z (qnZ _),Nat.sub_self]at hx;cases hx;exact hc
       · exact h2 i x hx (by simp;omega)
   · rename_i hc
     have hd:(init++[c]).dropLast=init:=by simp
     rw[hd]
     refine ⟨fun x hx=>?_,fun i x hx hi=>?_⟩
     · rcases qxZ.1 hx with hx | hx
       · exact h1 x (List.mem_append_left _ hx)
       · simp only[r1Z]at hx
         subst hx
         refine ⟨by simp,?_⟩
         rw[List.dropLast_concat];omega
     · simp only[qdZ,List.length_singleton]at hi
       rw[q4Z (by omega)]at hx
       exact h2 i x (by rw[q4Z (by omega)];exact hx) (by simp;omega)
theorem ChOk.adds{most:Int}(hm:1≤most):∀(l:List (List UInt8)) (cs:List (List (List UInt8))),ChOk most cs→ChOk most (l.foldl (addc most) cs)
 | [],_,h=>h
 | s::l,_cs,h=>ChOk.adds hm l _ (h.add hm s)
theorem ChOk.nil(most:Int):ChOk most []:=⟨fun c hc=>by simp at hc,fun i c hc=>by simp at hc⟩
theorem foldl_flat(most:Int):∀(l:List (List UInt8)) (cs:List (List (List UInt8))),(l.foldl (addc most) cs).flatten=cs.flatten++l
 | [],cs=>by simp
 | s::l,cs=>by rw[List.foldl_cons,foldl_flat most l,addc_flat];simp
theorem foldl_len(most:Int):∀(l:List (List UInt8)) (cs:List (List (List UInt8))),(l.foldl (addc most) cs).length≤cs.length+l.length
 | [],cs=>by simp
 | s::l,cs=>by
   have h1:=foldl_len most l (addc most cs s);have h2:=addc_len most cs s;rw[List.foldl_cons,q7Z];omega
theorem fresh_calm{w:WL}(h1:w.d.armed=0)(h2:w.d.down=false):w.fresh.1.d.armed=0∧w.fresh.1.d.down=false:=by
 have c1:=calm_create (wn w.next) w.d h1 h2;have c2:=calm_syncDir _ c1.1 c1.2;unfold WL.fresh;split
 · exact⟨h1,h2⟩
 split
 · split
   · exact c2
   · exact c2
 · exact c1
theorem ready_calm{w:WL}(h1:w.d.armed=0)(h2:w.d.down=false):w.ready.1.d.armed=0∧w.ready.1.d.down=false:=by
 have c1:=calm_sync (wn w.file) w.d h1 h2;unfold WL.ready;split
 · exact fresh_calm h1 h2
 split
 · split
   · exact fresh_calm (w:=⟨(w.d.sync (wn w.file)).1,w.most,w.file,w.next,w.done,w.bad⟩) c1.1 c1.2
   · exact c1
 · exact⟨h1,h2⟩
theorem add_calm{w:WL}(h1:w.d.armed=0)(h2:w.d.down=false)(s:List UInt8):(w.add s).1.d.armed=0∧(w.add s).1.d.down=false:=by
 have c1:=ready_calm h1 h2;have c2:=calm_append (wn w.ready.1.file) s _ c1.1 c1.2;unfold WL.add;split
 · split
   · exact c2
   · exact c2
 · exact c1
theorem adds_calm:∀(l:List (List UInt8)) {w:WL},w.d.armed=0→w.d.down=false→(w.adds l).1.d.armed=0∧(w.adds l).1.d.down=false
 | [],w,h1,h2=>⟨h1,h2⟩
 | s::l,w,h1,h2=>by
   have c1:=add_calm h1 h2 s;unfold WL.adds;split
   · exact adds_calm l c1.1 c1.2
   · exact c1
theorem WStage.calm{r:WL×Int}{P:WL→Prop}{B:FD→FS→Prop}(h:WStage r P B)(hd:r.1.d.down=false):r.2=0∧P r.1:=by
 rcases h with⟨h1,h2,h3⟩ | ⟨h1,h2,h3⟩
 · exact⟨h1,h3⟩
 · rw[hd]at h2;cases h2
theorem step_quota(d:DS)(g:DS→DS×Int)(hg:∀d,(g d).1.quota=d.quota):(d.step g).1.quota=d.quota:=by
 unfold DS.step;split
 · simp
 · rw[hg];simp
theorem wof_quota(d:DS)(k:List UInt8)(g:DS→PF→PF×Int):(d.of k g).1.quota=d.quota:=step_quota d _ fun d=>by
 split
 · rfl
 · split
   · rfl
   · rfl
theorem fresh_ok{w:WL}{A B:Nat}(h:w.d.ok A B)(_hq:w.d.quota≤1048576):w.fresh.1.d.ok (A+4) B∧w.fresh.1.d.quota=w.d.quota:=by
 have h1:=DS.ok_create h (wn w.next);have h2:=DS.ok_syncDir h1;have q1:=create_quota w.d (wn w.next)
 have q2:(w.d.create (wn w.next)).1.syncDir.1.quota=w.d.quota:=(step_quota _ _ fun _=>rfl).trans q1
 unfold WL.fresh;split
 · exact⟨DS.ok_mono h (by omega) (qnZ _),rfl⟩
 split
 · split
   · exact⟨h2,q2⟩
   · exact⟨h2,q2⟩
 · exact⟨DS.ok_mono h1 (by omega) (qnZ _),q1⟩
theorem ready_ok{w:WL}{A B:Nat}(h:w.d.ok A B)(hq:w.d.quota≤1048576):w.ready.1.d.ok (A+5) B∧w.ready.1.d.quota=w.d.quota:=by
 have h1:=DS.ok_sync h (wn w.file);have q1:(w.d.sync (wn w.file)).1.quota=w.d.quota:=wof_quota _ _ _;unfold WL.ready;split
 · exact⟨DS.ok_mono (fresh_ok h hq).1 (by omega) (qnZ _),(fresh_ok h hq).2⟩
 split
 · split
   · have:=fresh_ok (w:=⟨(w.d.sync (wn w.file)).1,w.most,w.file,w.next,w.done,w.bad⟩) h1 (by dsimp only;rw[q1];exact hq)
     exact⟨DS.ok_mono this.1 (by omega) (qnZ _),this.2.trans q1⟩
   · exact⟨DS.ok_mono h1 (by omega) (qnZ _),q1⟩
 · exact⟨DS.ok_mono h (by omega) (qnZ _),rfl⟩
theorem add_ok{w:WL}{A B:Nat}(h:w.d.ok A B)(hq:w.d.quota≤1048576)(s:List UInt8):(w.add s).1.d.ok (A+6) (B+1048576)∧(w.add s).1.d.quota=w.d.quota:=by
 obtain⟨h1,q1⟩:=ready_ok h hq
 have h2:=DS.ok_append h1 (wn w.ready.1.file) s 1048576 (by decide) (by rw[q1];exact hq)
 have q2:(w.ready.1.d.append (wn w.ready.1.file) s).1.quota=w.d.quota:=(wof_quota _ _ _).trans q1;unfold WL.add;split
 · split
   · exact⟨h2,q2⟩
   · exact⟨h2,q2⟩
 · exact⟨DS.ok_mono h1 (by omega) (by omega),q1⟩
theorem adds_ok:∀(l:List (List UInt8)) {w:WL} {A B:Nat},w.d.ok A B→w.d.quota≤1048576→(w.adds l).1.d.ok (A+6*l.length) (B+1048576*l.length)∧(w.adds l).1.d.quota=w.d.quota
 | [],w,A,B,h,_=>⟨h,rfl⟩
 | s::l,w,A,B,h,hq=>by
   obtain⟨h1,q1⟩:=add_ok h hq s;unfold WL.adds;simp only[q7Z];split
   · obtain⟨h2,q2⟩:=adds_ok l h1 (by rw[q1];exact hq)
     exact⟨DS.ok_mono h2 (by omega) (by omega),q2.trans q1⟩
   · exact⟨DS.ok_mono h1 (by omega) (by omega),q1⟩
abbrev WL.new(most:Int)(next:Nat):WL:=⟨DS.new 1048576,most,0,next,0,false⟩
theorem WP.new(most:Int){n1:Nat}:WP n1 most [] 0 (WL.new most n1):=by
 have hok:=DS.ok_new 1048576 (by decide) (by decide)
 exact⟨rfl,hok.core,rfl,⟨rfl,fun i c hc=>by simp at hc⟩,rfl,rfl,rfl,rfl,qnZ _⟩
theorem frames_len(all:List En):((all.map frE).flatten).length≤313*all.length:=Rp.bytes_le all
theorem Logs.count{d:DS}{n1:Nat}{ts:List (List UInt8)}(h:Logs n1 ts d):d.list.length=ts.length:=by
 unfold DS.list FD.names;rw[h.up];simp only[qsZ,if_false];rw[(sortU_perm _).length_eq,h.keys];simp
theorem calm_law(most:Int)(hm:1≤most){n1:Nat}(h1:1≤n1){all:List En}(_h:∀e∈all,okE e)(hl:all.length≤60)(hn:n1≤1000):∃cs w,(WL.new most n1).adds (all.map frE)=(w,0)∧WP n1 most cs 0 w∧w.bad=false∧w.d.armed=0∧w.d.down=false∧ChOk most cs ∧
   cs=(all.map frE).foldl (addc most) []∧cs.flatten=all.map frE∧cs.length≤60∧w.d.ok 360 62914560:=by
 have hs:=adds_stage h1 (all.map frE) [] (WL.new most n1) rfl (WP.new most) (by simp;omega) (by
   have:=frames_len all;simp only[List.flatten_nil,q8Z]
   omega)
 have hc:=adds_calm (all.map frE) (w:=WL.new most n1) rfl rfl
 have ho:=(adds_ok (all.map frE) (w:=WL.new most n1) (DS.ok_new 1048576 (by decide) (by decide)) (Int.le_refl _)).1
 obtain⟨w,e,hw⟩:∃w e,(WL.new most n1).adds (all.map frE)=(w,e):=⟨_,_,rfl⟩;rw[hw]at hs hc ho;obtain⟨rfl,p1,p2⟩:=hs.calm hc.2
 refine ⟨_,w,hw,p1,p2 rfl,hc.1,hc.2,ChOk.adds hm _ _ (ChOk.nil most),rfl,by rw[foldl_flat];rfl,?_,?_⟩
 · have:=foldl_len most (all.map frE) []
   simp at this;omega
 · simp only[r7Z]at ho
   exact DS.ok_mono ho (by omega) (by omega)
theorem view_restart{n1:Nat}{cs:List (List (List UInt8))}{sy:Nat}{d:DS}{A B:Nat}(hok:d.ok A B)(l:List Int)(hv:∀i,i≤d.fd.acts.length→View n1 cs sy d.fs (druns d.fd.d (d.fd.acts.take i))) :
   ∃ts,Logs n1 ts (d.restart l)∧ts.length=cs.length∧∀k c,cs[k]?=some c→k+1<cs.length→ts[k]?=some c.flatten:=by
 obtain⟨i,hi,e1,e2,_,_,e5⟩:=restart_cont hok l;have v4:=hv i hi
 have hnow:(d.restart l).fd.now=druns d.fd.d (d.fd.acts.take i):=by rw[e1];simp[FD.now,druns]
 have file:∀(k:Nat) (c:List (List UInt8)),cs[k]?=some c→∃f,cont (d.restart l).fs (d.restart l).fd.now (wn (n1+k))=some f∧(k+1<cs.length→f.now=c.flatten):=fun k c hk=>by
   obtain⟨f,f1,f2,f3⟩:=v4.file k c hk;rcases e5 (wn (n1+k)) with⟨g1,g2⟩ | ⟨f0,f',g1,g2,g3⟩
   · rw[f1]at g1;cases g1
   rw[f1]at g1;cases g1
   refine ⟨f',g2,fun hk1=>?_⟩
   have:=g3 (fun x=>x=⟨c.flatten,[]⟩) (f3 hk1) fun g a b hg=>by subst hg;rw[PF.stays_settled]
   rw[this];simp[PF.now,runs]
 refine ⟨(List.range cs.length).map fun k=>txt (d.restart l).fs (d.restart l).fd.now (wn (n1+k)),⟨e2,by rw[hnow,v4.keys];simp,fun k t ht=>?_⟩,by simp,fun k c hk hk1=>?_⟩
 · rw[qzZ]at ht
   obtain⟨k',hk',rfl⟩:=qlZ.1 ht
   have hkl:k<cs.length:=by have:=(q1Z.1 hk').1;simpa using this
   rw[rfZ hkl]at hk';cases hk';obtain⟨f,f1,_⟩:=file k _ (q3Z hkl);refine ⟨f,f1,?_⟩;unfold txt;rw[f1];rfl
 · have hkl:k<cs.length:=by omega
   rw[qzZ,rfZ hkl];obtain⟨f,f1,f2⟩:=file k c hk;simp only[rhZ];unfold txt;rw[f1,←f2 hk1];rfl
theorem turns_lawW(most:Int)(hm:1≤most){all:List En}(h:∀e∈all,okE e)(hl:all.length≤60):∃(w:WL) (ts:List (List UInt8)) (ess:List (List En)),(WL.new most 1).adds (all.map frE)=(w,0)∧Logs 1 ts w.d∧Reads ts ess∧ess.flatten=all∧ts.length≤60 ∧
   (∀t∈ts,t.length≤20000)∧w.most=most∧w.done=all.length∧w.file=ts.length∧w.next=ts.length+1∧w.bad=false∧w.d.ok 700000 1000000000 ∧
   (∀i t es,ts[i]?=some t→ess[i]?=some es→i+1<ts.length→∃e ini,es=ini++[e]∧most≤t.length∧(t.length:Int)-(frE e).length<most) ∧
   (w.d.restart []).small∧∃ts',Logs 1 ts' (w.d.restart [])∧ts'.length=ts.length∧∀i,i+1<ts.length→ts'[i]?=ts[i]?:=by
 obtain⟨cs,w,e1,p,p2,p3,p4,ch,_,e3,e4,ok⟩:=calm_law most hm (n1:=1) (by omega) h hl (by omega)
 have hv:=logs_of_view p4 p.view
 have hpre:cs.flatten <+: all.map frE:=by rw[e3];exact List.prefix_refl _
 have hlen:∀(i:Nat) (c:List (List UInt8)),cs[i]?=some c→c.flatten.length≤20000:=fun i c hc=>by
   have h1:(c.flatten).length≤(cs.flatten.flatten).length:=by
     obtain⟨x,y,hxy⟩:=List.append_of_mem (qcZ hc);rw[hxy];simp only[sgZ,rcZ,qdZ];omega
   rw[e3]at h1;have:=frames_len all;omega
 refine ⟨w,cs.map List.flatten,cs.map (List.map unE),e1,hv,reads_whole h hpre,?_,by simpa using e4,fun t ht=>?_,p.most',?_,?_,?_,p2,DS.ok_mono ok (by omega) (by omega),fun i t es ht hes hi=>?_,DS.ok_mono (DS.ok_restart ok []) (by omega) (by omega),?_⟩
 · rw[chunks_all h hpre,e3,r7Z,List.take_length]
 · obtain⟨c,hc,rfl⟩:=reZ.1 ht
   obtain⟨i,hi⟩:=List.getElem?_of_mem hc;exact hlen i c hi
 · rw[p.done,e3];simp
 · rw[p.file,r7Z];split <;> omega
 · rw[p.next];simp;omega
 · rw[qzZ]at ht hes
   obtain⟨c,hc,rfl⟩:=qlZ.1 ht;rw[hc]at hes;cases hes;obtain⟨c1,c2⟩:=ch.1 c (qcZ hc);obtain⟨g1,g2,g3⟩:=chunk_es h hpre hc
   have hm2:=ch.2 i c hc (by simpa using hi)
   rcases List.eq_nil_or_concat c with rfl | ⟨ini,s,rfl⟩
   · exact absurd rfl c1
   rw[List.concat_eq_append]at c2 g1 g2 hm2 ⊢;rw[List.dropLast_concat]at c2
   have hs:s=frE (unE s):=by
     have h9:=congrArg List.getLast? g1;simpa using h9
   refine ⟨unE s,ini.map unE,by simp,hm2,?_⟩
   rw[←hs];simp only[sgZ,rcZ,List.flatten_nil,r2Z,qdZ];omega
 · obtain⟨ts',q1,q2,q3⟩:=view_restart ok [] (fun i _=>by
     have:druns w.d.fd.d (w.d.fd.acts.take i)=w.d.fd.now:=by unfold FD.now;rw[p.acts,List.take_nil]
     rw[this]
     exact p.view)
   refine ⟨ts',q1,by rw[q2,r7Z],fun i hi=>?_⟩
   have hi2:i+1<cs.length:=by simpa using hi
   rw[qzZ,q3Z (show i<cs.length by omega)]
   exact q3 i _ (q3Z (by omega)) hi2
end
section
open Go Go.Lib
attribute [-simp] drawOk_eq adraw qrun acode aops
noncomputable def wlR(g:WL→List AV→Option AV):Summ:=fun args H=>match args with
 | .ptr b 0::xs=>match H[b]? with
   | some (.cells true l)=>match wlOf l with
     | some (q,m,f,n,dn,bd)=>match H[q]? with
       | some (.obj true sub)=>match dsD sub with
         | some d=>match g ⟨d,m,f,n,dn,bd⟩ xs with
           | some v=>some (v,H,[])
           | none=>none
         | none=>none
       | _=>none
     | none=>none
   | _=>none
 | _=>none
theorem sound_wlR{f:FuncId}{g:WL→List AV→Option AV}(he:∀cargs w,(callFunc f cargs).run Pz w=.ok (.enter f cargs) w)
   (h:∀w xs v,g w xs=some v→frees xs=true∧(∀k,reA k v=v)∧Ct Pz f (.ptr 0 0::xs) [wlB 1 w,.obj true w.d.blks] v [wlB 1 w,.obj true w.d.blks]):Sound Pz f (wlR g):=by
 have hw:Sound Pz f (wlS fun w xs=>(g w xs).map fun v=>(w,v)):=sound_wl he fun w xs w' v hg=>by
   obtain⟨v',h1,h2⟩:=qlZ.1 hg;cases h2;exact h w xs v h1
 have key:∀args H v H' W,wlR g args H=some (v,H',W)→H'=H∧W=[]∧Ct Pz f args H v H:=by
   intro args H v H' W hs;unfold wlR at hs
   split at hs <;> try cases hs
   rename_i b xs
   split at hs <;> try cases hs
   rename_i l hb
   split at hs <;> try cases hs
   rename_i q m fl n dn bd hwl
   split at hs <;> try cases hs
   rename_i sub hq
   split at hs <;> try cases hs
   rename_i d hd
   split at hs <;> cases hs
   rename_i hg;refine ⟨rfl,rfl,?_⟩;have e:=dsD_eq hd;have e2:=wlOf_eq hwl
   subst e;subst e2
   have:=hw.ct (.ptr b 0::xs) H v ((H.set b (wlB q ⟨d,m,fl,n,dn,bd⟩)).set q (.obj true d.blks)) [b,q] (by
     unfold wlS
     simp only[hb,wlOf_wlC,hq,dsD_blks,hg,rhZ])
   have s1:H.set b (wlB q ⟨d,m,fl,n,dn,bd⟩)=H:=by
     obtain⟨h1,h2⟩:=q1Z.1 hb;show H.set b (.cells true (wlC q m fl n dn bd))=H;rw[←h2,List.set_getElem_self]
   have s2:H.set q (.obj true d.blks)=H:=by
     obtain⟨h1,h2⟩:=q1Z.1 hq;rw[←h2,List.set_getElem_self]
   rw[s1,s2]at this;exact this
 refine ⟨he,fun args H v H' W hs=>?_,fun args H v H' W hs=>?_⟩
 · obtain⟨rfl,_,h⟩:=key args H v H' W hs
   exact h
 · obtain⟨rfl,_,_⟩:=key args H v H' W hs
   exact⟨qnZ _,fun _ _ _=>rfl⟩
open Classical in
noncomputable def wfreshS:Summ:=wlS fun w xs=>match xs with
 | []=>if w.d.small∧(w.d.create (wn w.next)).1.small∧w.next≤1000000001 then some (w.fresh.1,.int .i64 w.fresh.2) else none
 | _=>none
theorem wfresh_sound:Sound Pz 152 wfreshS:=by
 refine sound_wl (enter_of Tryz.func152 rfl (by decide)) fun w xs w' v hg=>?_
 split at hg;rotate_left
 · cases hg
 split at hg <;> cases hg
 rename_i hs
 exact⟨rfl,fun _=>rfl,fresh_ct w hs.1 hs.2.1 hs.2.2⟩
open Classical in
noncomputable def wsyncLS:Summ:=wlS fun w xs=>match xs with
 | []=>if w.d.small then some (⟨(w.d.sync (wn w.file)).1,w.most,w.file,w.next,w.done,w.bad⟩,.int .i64 (w.d.sync (wn w.file)).2) else none
 | _=>none
theorem wsyncL_sound:Sound Pz 80 wsyncLS:=by
 refine sound_wl (enter_of Tryz.func80 rfl (by decide)) fun w xs w' v hg=>?_
 split at hg;rotate_left
 · cases hg
 split at hg <;> cases hg
 rename_i hs
 exact⟨rfl,fun _=>rfl,wsync_ct w hs⟩
open Classical in
noncomputable def wsizeR:Summ:=wlR fun w xs=>match xs with
 | []=>if w.d.small then some (.int .i64 w.size) else none
 | _=>none
theorem wsize_sound:Sound Pz 23 wsizeR:=by
 refine sound_wlR (enter_of Tryz.func23 rfl (by decide)) fun w xs v hg=>?_
 split at hg;rotate_left
 · cases hg
 split at hg <;> cases hg
 rename_i hs
 exact⟨rfl,fun _=>rfl,wsize_ct w hs⟩
theorem judged_ct(w:WL)(e:Int):Ct Pz 77 [.ptr 0 0,.int .i64 e] [wlB 1 w,.obj true w.d.blks] (.int .i64 e) [wlB 1 ⟨w.d,w.most,w.file,w.next,w.done,decide (e≠0)⟩,.obj true w.d.blks]:=by
 have he:(e != 0)=decide (e≠0):=by by_cases h:e=0 <;> simp[h]
 refine ct_of_simE Tryz.func77 rfl ?_;simp only[wlB,wlC,Tryz.ntmps77,q7Z,q8Z,Nat.reduceAdd,Nat.reduceSub,qbZ,q9Z,qaZ]
 refine Sim.exec hmix goks_nil (n:=0) (by simp +decide;exact⟨rfl,rfl,rfl⟩) (by simp) ?_
 exact⟨.inr rfl,by simp[Tryz.f77],by simp[he]⟩
noncomputable def judgedS:Summ:=wlS fun w xs=>match xs with
 | [.int .i64 e]=>some (⟨w.d,w.most,w.file,w.next,w.done,decide (e≠0)⟩,.int .i64 e)
 | _=>none
theorem judged_sound:Sound Pz 77 judgedS:=by
 refine sound_wl (enter_of Tryz.func77 rfl (by decide)) fun w xs w' v hg=>?_
 split at hg <;> cases hg
 exact⟨rfl,fun _=>rfl,judged_ct w _⟩
theorem may_ct(w:WL):Ct Pz 72 [.ptr 0 0] [wlB 1 w,.obj true w.d.blks] (.int .i64 (if w.bad=true then 11 else 0)) [wlB 1 w,.obj true w.d.blks]:=by
 obtain⟨d,m,f,n,dn,bd⟩:=w;refine ct_of_simE Tryz.func72 rfl ?_;simp only[wlB,wlC,Tryz.ntmps72,q7Z,q8Z,Nat.reduceAdd,Nat.reduceSub,qbZ,q9Z,qaZ]
 cases bd with
 | true =>
   refine Sim.exec hmix goks_nil (n:=0) (by simp +decide;exact⟨rfl,rfl,rfl⟩) (by simp) ?_
   exact⟨.inr rfl,by simp[Tryz.f72],by simp⟩
 | false =>
   refine Sim.exec hmix goks_nil (n:=0) (by simp +decide;exact⟨rfl,rfl,rfl⟩) (by simp) ?_
   exact⟨.inr rfl,by simp[Tryz.f72],by simp⟩
noncomputable def mayR:Summ:=wlR fun w xs=>match xs with
 | []=>some (.int .i64 (if w.bad=true then 11 else 0))
 | _=>none
theorem may_sound:Sound Pz 72 mayR:=by
 refine sound_wlR (enter_of Tryz.func72 rfl (by decide)) fun w xs v hg=>?_
 split at hg <;> cases hg
 exact⟨rfl,fun _=>rfl,may_ct w⟩
noncomputable def rdyΓ0:Gam:=gams [(80,wsyncLS),(152,wfreshS)]
theorem rdyΓ0_ok:GOk Pz rdyΓ0:=goks_cons wsyncL_sound (goks_cons wfresh_sound goks_nil)
abbrev rdH(w:WL):AHeap:=[wlB 1 w,.obj true w.d.blks,.cells true [.func 80 [.ptr 0 0] [],.func 152 [.ptr 0 0] []]]
abbrev WL.synced(w:WL):WL:=⟨(w.d.sync (wn w.file)).1,w.most,w.file,w.next,w.done,w.bad⟩
theorem rrow_ct(w:WL)(h0:w.d.small)(h1:w.synced.d.small)(h2:(w.synced.d.create (wn w.next)).1.small)(hn:w.next≤1000000001) :
   Ct Pz 78 [.ptr 0 0,.slice 2 0 2 1 true] (rdH w) (.int .i64 (if (w.d.sync (wn w.file)).2=0 then w.synced.fresh.2 else (w.d.sync (wn w.file)).2)) (if (w.d.sync (wn w.file)).2=0 then rdH w.synced.fresh.1 else rdH w.synced):=by
 refine first2_ct rdyΓ0_ok 3 0 2 true (by decide) (rdH w) (rdH w.synced) (rdH w.synced.fresh.1) _ _ [.ptr 0 0] [.ptr 0 0] [] [] _ _ rfl rfl rfl rfl rfl rfl (by decide) (by decide) (fun H hH rn hr B hB=>?_) (fun X=>?_) (fun _ X=>?_)
 · have q:∀j,j<3→rn[j]?=some j:=hr
   rcases hH with rfl | rfl | rfl <;> (simp only[rdH,qwZ,rtZ,or_false]at hB;rcases hB with rfl | rfl | rfl <;> simp[wlC,AWb,AW,q])
 · simp +decide [rdyΓ0,wsyncLS,wlS,h0]
 · simp +decide [rdyΓ0,wfreshS,wlS,h1,h2,hn]
theorem ready_ct(w:WL){A B:Nat}(hok:w.d.ok A B)(hA:A+10≤900000)(hB:B≤1000000000000)(hn:w.next≤1000000000) :
   Ct Pz 79 [.ptr 0 0] [wlB 1 w,.obj true w.d.blks] (.int .i64 w.ready.2) [wlB 1 w.ready.1,.obj true w.ready.1.d.blks]:=by
 have h0:w.d.small:=DS.ok_mono hok (by omega) (by omega)
 have h1:w.synced.d.small:=DS.ok_mono (DS.ok_sync hok _) (by omega) (by omega)
 have h2:(w.d.create (wn w.next)).1.small:=DS.ok_mono (DS.ok_create hok _) (by omega) (by omega)
 have h3:(w.synced.d.create (wn w.next)).1.small:=DS.ok_mono (DS.ok_create (DS.ok_sync hok (wn w.file)) _) (by omega) (by omega)
 have hn1:w.next≤1000000001:=by omega
 have hrow:=rrow_ct w h0 h1 h3 hn1;obtain⟨sz,hsz⟩:∃sz,w.size=sz:=⟨_,rfl⟩;obtain⟨W0,hW0⟩:∃W0,w.fresh=W0:=⟨_,rfl⟩;obtain⟨w0,e0⟩:=W0;obtain⟨ws,hws⟩:∃ws,w.synced=ws:=⟨_,rfl⟩;obtain⟨es,hes⟩:∃es,(w.d.sync (wn w.file)).2=es:=⟨_,rfl⟩
 have hrd:w.ready=if w.file=0 then (w0,e0) else if w.most≤sz then (if es=0 then ws.fresh else (ws,es)) else (w,0):=by
   unfold WL.ready;rw[hsz,hW0,hes,←hws]
 rw[hws,hes]at hrow
 obtain⟨E,hE⟩:∃E,(if es=0 then ws.fresh.2 else es)=E:=⟨_,rfl⟩
 obtain⟨V,hV⟩:∃V,(if es=0 then ws.fresh.1 else ws)=V:=⟨_,rfl⟩
 have hH:(if es=0 then rdH ws.fresh.1 else rdH ws)=rdH V:=by rw[←hV];split <;> rfl
 have hVE:(if es=0 then ws.fresh else (ws,es))=(V,E):=by rw[←hV,←hE];split <;> rfl
 rw[hE,hH]at hrow;rw[hVE]at hrd;rw[hrd];clear hrd hVE hH hV hE hes hws h1 h3;obtain⟨d,m,f,n,dn,bd⟩:=w;obtain⟨dV,mV,fV,nV,dnV,bdV⟩:=V;obtain⟨d0,m0,f0,n0,dn0,bd0⟩:=w0;simp only[rdH,wlB,wlC]at hrow;dsimp only at h0 h2 hn hn1 hsz hW0 ⊢
 have hΓ:GOk Pz (gams [(23,wsizeR),(152,wfreshS),(78,oneAt _ _ _ _)]):=goks_cons wsize_sound (goks_cons wfresh_sound (goks_cons (oneAt_sound (enter_of Tryz.func78 rfl (by decide)) hrow (qnZ _)) goks_nil))
 refine ct_of_sim Tryz.func79 rfl ?_;simp only[wlB,wlC,Tryz.ntmps79,q7Z,q8Z,Nat.reduceAdd,Nat.reduceSub,qbZ,q9Z,qaZ]
 refine Sim.step hmix hΓ (n:=0) (by simp;exact⟨rfl,rfl⟩) (by simp) ?_
 by_cases hf:f=0
 · subst hf
   rw[if_pos rfl]
   refine Sim.exec hmix hΓ (n:=0) (by simp +decide [wfreshS,wlS,h0,h2,hn1,hW0];exact⟨rfl,rfl,rfl⟩) (by simp) ?_
   exact⟨.inr rfl,_,by simp[Tryz.f79] <;> rfl,Weak.mk' [0,1] (by decide) (by decide) (by simp) (by simp[AWb,AW,wlC])⟩
 · rw[if_neg hf]
   have hfI:¬(f:Int)=0:=by omega
   have hfb:((f:Int)==0)=false:=by simpa using hf
   refine Sim.seq (Sim.block ?_)
   refine Sim.step hmix hΓ (n:=0) (by simp +decide;exact⟨rfl,rfl⟩) (by simp) ?_
   by_cases hm:m≤sz
   · rw[if_pos hm]
     refine Sim.exec hmix hΓ (n:=0) (by simp +decide [hfb,wsizeR,wlR,h0,hsz,hm];exact⟨rfl,rfl,rfl⟩) (by simp) ?_
     exact⟨.inr rfl,_,by simp[Tryz.f79] <;> rfl,Weak.mk' [0,1] (by decide) (by decide) (by simp) (by simp[AWb,AW])⟩
   · rw[if_neg hm]
     refine Sim.exec hmix hΓ (n:=0) (by simp +decide [hfb,wsizeR,wlR,h0,hsz,hm];exact⟨rfl,rfl,rfl⟩) (by simp) ?_
     dsimp only
     refine Sim.exec hmix hΓ (n:=0) (by simp;exact⟨rfl,rfl,rfl⟩) (by simp) ?_
     exact⟨.inr rfl,_,by simp[Tryz.f79] <;> rfl,Weak.mk' [0,1] (by decide) (by decide) (by simp) (by simp[AWb,AW])⟩
open Classical in
noncomputable def wreadyS:Summ:=wlS fun w xs=>match xs with
 | []=>if w.d.ok 800000 500000000000∧w.next≤1000000000 then some (w.ready.1,.int .i64 w.ready.2) else none
 | _=>none
theorem wready_sound:Sound Pz 79 wreadyS:=by
 refine sound_wl (enter_of Tryz.func79 rfl (by decide)) fun w xs w' v hg=>?_
 split at hg;rotate_left
 · cases hg
 split at hg <;> cases hg
 rename_i hs
 exact⟨rfl,fun _=>rfl,ready_ct w hs.1 (by omega) (by omega) hs.2⟩
end
end Go.Proofs.YthafeihjlamhhaaGreatDoor
