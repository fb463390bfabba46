/- Parts of the proof of ReplayBack: lemmas, each with its own conditions. -/
import Derived.Test.YthafeihjlamhhaaGreatDoorY29
set_option maxHeartbeats 64000000
open List renaming getElem?_eq_some_iff → q1Z, getD_eq_getElem?_getD → q2Z, getElem?_eq_getElem → q3Z, getElem_mem → r3Z, length_map → r7Z, mem_map → reZ, map_append → roZ, range_succ → rpZ, map_cons → s1Z
open Option renaming map_eq_some_iff → qlZ
open Nat renaming le_refl → qnZ
namespace Go.Proofs.YthafeihjlamhhaaGreatDoor
set_option maxRecDepth 100000
section
open Go Go.Lib
attribute [-simp] zJ zT zk zL zm
theorem zDj{out:List Int}{j:Nat}{x:Int}(h:out[j]? = some x):(∀q,(zR out)[j]'q=.int .i64 x)/\(zR out)[j]? = some (.int .i64 x):=by
 have:(zR out)[j]? = some (.int .i64 x):=by simp[zR,h]
 exact⟨fun q=>(q1Z.1 this).2,this⟩
end
section
open Go Go.Lib
theorem zSZ{k:Int}(hk:k=3\/k=4){m:Nat}(h1:1<=m)(h2:m<=1000000000):ZX (mk k m)=(k,(m:Int)):=by
 rcases hk with rfl | rfl
 · rw[mk3 h1 h2];exact (zOK h1 h2).1
 · rw[mk4 h1 h2];exact (zOC h1 h2).1
theorem zRi(z:List Int):(zR (cpt z)).take (compact z).length=zR (compact z):=by
 unfold cpt zR;rw[roZ]
 exact List.take_left' (by simp)
theorem zMj(s:List UInt8)(k n:Int)(h:ZX s=(k,n)):(k=0/\n=0)\/(k≠0/\mk k n=s):=by
 unfold ZX at h;split at h
 · cases h;rename_i hs;subst hs;exact .inr ⟨by decide,rfl⟩
 split at h
 · cases h;rename_i hs;subst hs;exact .inr ⟨by decide,rfl⟩
 split at h
 · rename_i hs;cases h;exact .inr ⟨by decide,hs.2⟩
 split at h
 · rename_i hs;cases h;exact .inr ⟨by decide,hs.2⟩
 · cases h;exact .inl ⟨rfl,rfl⟩
theorem zM7{k:Int}(hk:k=3\/k=4){m:Nat}(h1:1<=m)(h2:m<=1000000000):zDf k (mk k m)=some (m:Int):=by
 unfold zDf;rw[zSZ hk h1 h2]
 exact if_pos ⟨rfl,by dsimp only;omega⟩
theorem zRv(x:Int)(l:List Int){m:Int}(h:m∈zCB x l):m∈l:=List.mem_of_mem_drop h
theorem zBp(x:Int)(names:List (List UInt8)):(ZM x names).1=[]\/(ZM x names).1=zCB x (Z3 3 names):=by
 unfold ZM;split
 · exact .inl rfl
 split
 · exact .inl rfl
 split
 · exact .inr rfl
 · exact .inl rfl
theorem zIT{x:Int}{names:List (List UInt8)}{m:Int}(h:m∈(ZM x names).1):∃s∈names,ZX s=(3,m)/\mk 3 m=s:=by
 have h1:m∈Z3 3 names:=by
   rcases zBp x names with e | e
   · rw[e]at h;simp at h
   · rw[e]at h;exact zRv _ _ h
 obtain⟨s,hs,h2⟩:=(zMl 3 names m).1 h1;unfold zDf at h2;split at h2
 · rename_i hc
   cases h2;have e:ZX s=(3,(ZX s).2):=Prod.ext hc.1 rfl;rcases zMj s 3 _ e with⟨h3,_⟩ | ⟨_,h3⟩
   · exact absurd h3 (by decide)
   · exact⟨s,hs,e,h3⟩
 · cases h2
theorem zTM{x:Int}{names:List (List UInt8)}{m n:Int}(hm:m∈(ZM x names).1)(hn:n∈(ZM x names).1)(h:mk 3 m=mk 3 n):m=n:=by
 obtain⟨s,_,h1,h2⟩:=zIT hm;obtain⟨t,_,h3,h4⟩:=zIT hn
 have e:s=t:=by rw[<-h2,<-h4,h]
 rw[e,h3]at h1;exact (congrArg Prod.snd h1).symm
theorem zUi(x:Int)(names:List (List UInt8)):(ZM x names).1.Nodup:=by
 rcases zBp x names with e | e
 · rw[e];exact List.nodup_nil
 · rw[e]
   have h:=zIq 3 names
   have h2:(Z3 3 names).Nodup:=h.imp fun h=>by omega
   exact h2.sublist (List.drop_sublist _ _)
theorem zIc{d:DS}{A B:Nat}(hok:d.ok A B)(hd:d.down=false){x m:Int}(h:m∈(ZM x d.list).1):∃f,Zh d.fs d.fd.now (mk 3 m)=some f:=by
 obtain⟨s,hs,_,h2⟩:=zIT h;rw[h2];rw[zMM hd]at hs
 cases hg:d.fd.now.get s with
 | none=>exact absurd hg hs
 | some n =>
   obtain⟨f,hf,_⟩:=DS.has_file hok hg
   exact⟨f,by rw[zAL hg,hf]⟩
theorem zJl{l:List Int}(h:l.length≠0):l.getD (l.length-1) 0∈l:=by
 rw[q2Z,q3Z (by omega)]
 exact r3Z _
theorem zJG{l:List Int}(h:l.length≠0):∃init,l=init++[l.getD (l.length-1) 0]:=by
 rcases List.eq_nil_or_concat l with rfl | ⟨init,n,rfl⟩
 · exact absurd rfl h
 · refine ⟨init,?_⟩
   simp
theorem zMu{d d':DS}{x:Int}{a:Fnd}(h:d.load x=(a,0))(hd':d'.down=false)(hnow:d'.fd.now=d.fd.now)(ht:∀k,k≠ZC a->d'.text k=d.text k)
   (hl:a.logs.length≠0->d'.text (ZC a)=d.text (ZC a)\/d'.text (ZC a)=(d.text (ZC a)).take a.good.toNat) :
   d'.load x=(⟨a.logs,a.es,a.good,decide (a.logs.length≠0/\a.good<(d'.text (ZC a)).length)⟩,0)/\0<=a.good/\(a.logs.length=0->a.torn=false) /\
     (a.logs.length≠0->a.good<=(d.text (ZC a)).length/\a.torn=decide (a.good<(d.text (ZC a)).length)):=by
 obtain⟨h1,h2,h3,h4⟩:=zLh h;have hls:=zJz hnow h1 hd'
 have e:d'.load x=zc d'.text (ZM x d.list).1 ⟨(ZM x d.list).1,[],0,false⟩:=by
   unfold DS.load
   rw[hls,hd',if_neg (by decide),if_pos h2]
 by_cases h0:a.logs.length=0
 · have h5:(ZM x d.list).1=[]:=by rw[<-h4];exact List.length_eq_zero_iff.1 h0
   rw[h5]at h3 e;simp only[zc,Prod.mk.injEq,and_true]at h3;subst h3;rw[e]
   exact⟨by simp[zc],Int.le_refl _,fun _=>rfl,fun hn=>absurd h0 hn⟩
 · obtain⟨init,hi⟩:=zJG h0
   rw[<-h4]at h3 e;have hlast:ZC a=mk 3 (a.logs.getD (a.logs.length-1) 0):=rfl;obtain⟨n,hn⟩:∃n,a.logs.getD (a.logs.length-1) 0=n:=⟨_,rfl⟩;rw[hn]at hi hlast;have hnd:=zUi x d.list;rw[<-h4,hi,List.nodup_append]at hnd
   have hmem:∀m∈a.logs,m∈(ZM x d.list).1:=fun m hm=>by rw[<-h4];exact hm
   have hin:∀m∈init,d'.text (mk 3 m)=d.text (mk 3 m):=fun m hm=>by
     refine ht _ fun hc=>?_
     rw[hlast]at hc
     have:=zTM (hmem m (by rw[hi];simp[hm])) (hmem n (by rw[hi];simp)) hc
     exact hnd.2.2 m hm n (by simp) this
   have hl':=hl h0;rw[hlast]at hl'
   have h3':zc d.text (init++[n]) ⟨a.logs,[],0,false⟩=(a,0):=by rw[<-hi];exact h3
   obtain⟨g1,g2,g3,g4,g5⟩:=zPV h3' hin hl';rw[e,hlast]
   have e2:zc d'.text a.logs ⟨a.logs,[],0,false⟩=zc d'.text (init++[n]) ⟨a.logs,[],0,false⟩:=by rw[<-hi]
   rw[e2,g5]
   refine ⟨?_,g3,fun hz=>absurd hz h0,fun _=>⟨g4,g2⟩⟩
   simp[h0]
theorem zS5{d:DS}{A B:Nat}(hok:d.ok A B)(hs:Sett d)(ha:d.armed=0){x:Int}{a:Fnd}(h:d.load x=(a,0)) :
   ∃d1,d.mend a=(d1,0)/\Sett d1/\d1.armed=0/\d1.fd=d.fd/\d1.quota=d.quota/\d1.ok (A+2) (B+1)/\d1.load x=(⟨a.logs,a.es,a.good,false⟩,0)/\(∀k,k≠ZC a->d1.text k=d.text k) /\
     (a.logs.length=0\/a.torn=false->∀k,d1.text k=d.text k)/\(a.torn=true->a.logs.length≠0/\0<=a.good/\a.good<=(d.text (ZC a)).length/\d1.text (ZC a)=(d.text (ZC a)).take a.good.toNat)/\FS.keys d1.fs=FS.keys d.fs:=by
 obtain⟨h1,h2,h3,h4⟩:=zLh h
 obtain⟨_,c1,c2,c3⟩:=zMu (d':=d) h h1 rfl (fun _ _=>rfl) (fun _=>.inl rfl)
 have hcalm:=zSH a d ha h1;have hok1:=zWJ a hok;obtain⟨d1,e,hm⟩:∃d1 e,d.mend a=(d1,e):=⟨_,_,rfl⟩;by_cases h0:a.logs.length=0
 · have hm2:d.mend a=(d,0):=by unfold DS.mend;rw[if_pos h0]
   have ht:=c2 h0
   refine ⟨d,hm2,hs,ha,rfl,rfl,DS.ok_mono hok (by omega) (by omega),?_,fun _ _=>rfl,fun _ _=>rfl,(fun hc=>by rw[ht]at hc;cases hc),rfl⟩
   rw[h];obtain⟨lo,es,go,to⟩:=a;dsimp only at ht;rw[ht]
 · obtain⟨g1,g2⟩:=c3 h0
   obtain⟨init,hi⟩:=zJG h0
   obtain⟨f,hf⟩:=zIc hok h1 (x:=x) (m:=a.logs.getD (a.logs.length-1) 0) (by rw[<-h4];exact zJl h0)
   have hf0:=hs.get hf;rw[hf0]at hf;obtain⟨n,k1,k2⟩:=zAV hf
   have hst:=zOa h1 hs h0 (t:=d.text (ZC a)) k1 k2 (fun ht=>⟨c1,by rw[g2]at ht;simpa using ht⟩)
   rw[hm]at hst hcalm hok1;dsimp only at hcalm hok1;obtain⟨q1,⟨r1,r2,r3,r4⟩ | ⟨r1,r2,r3⟩⟩:=hst;rotate_left
   · dsimp only at r2;rw[hcalm.2]at r2;cases r2
   dsimp only at q1 r1 r2 r3 r4;subst r1;have hnum:=FD.each_now hok.num.2
   have hcont:∀k,Zh d1.fs d1.fd.now k=if k=ZC a then (Zh d.fs d.fd.now k).map fun _=>⟨if a.torn=true then (d.text (ZC a)).take a.good.toNat else d.text (ZC a),[]⟩ else Zh d.fs d.fd.now k:=fun k=>by
     rw[r3,r4];exact zTh hnum k1 _
   have htx:∀k,k≠ZC a->d1.text k=d.text k:=fun k hk=>zJ0 (by rw[hcont,if_neg hk])
   have hlx:d1.text (ZC a)=if a.torn=true then (d.text (ZC a)).take a.good.toNat else d.text (ZC a):=by
     rw[zCy (f:=⟨if a.torn=true then (d.text (ZC a)).take a.good.toNat else d.text (ZC a),[]⟩) (by rw[hcont,if_pos rfl,show Zh d.fs d.fd.now (ZC a)=_ from hf];rfl)]
     simp[PF.now,Z7]
   refine ⟨d1,hm,⟨r2,by rw[r3];exact hs.acts,fun k f hk=>?_⟩,hcalm.1,r3,q1,hok1,?_,htx,?_,fun ht=>⟨h0,c1,g1,by rw[hlx,if_pos ht]⟩,by rw[r4,FS.keys_upd]⟩
   · rw[hcont]at hk
     split at hk
     · obtain⟨_,_,rfl⟩:=qlZ.1 hk;rfl
     · exact hs.each k f hk
   · obtain⟨l1,_⟩:=zMu (d':=d1) h r2 (by rw[r3]) htx fun _=>by
       rw[hlx];split
       · exact .inr rfl
       · exact .inl rfl
     rw[l1]
     have:decide (a.logs.length≠0/\a.good<(d1.text (ZC a)).length)=false:=by
       rw[hlx];simp only[decide_eq_false_iff_not,not_and];intro _;split
       · simp;omega
       · rename_i ht
         rw[g2]at ht;simpa using ht
     rw[this]
   · rintro (hz | ht) k
     · exact absurd hz h0
     · by_cases hk:k=ZC a
       · rw[hk,hlx,ht];rfl
       · exact htx k hk
theorem zR1(n1 m:Nat):zI4 ((List.range m).map fun i=>((n1+i:Nat):Int)):=by
 unfold zI4;rw[List.pairwise_map]
 exact (List.pairwise_lt_range (n:=m)).imp fun h=>by omega
theorem zMo{d:DS}(hd:d.down=false)(k:List UInt8):k∈d.list↔k∈NM.keys d.fd.now:=by
 rw[zMM hd,<-NM.get_some]
 cases NM.get d.fd.now k <;> simp
theorem zRS{ts:List (List UInt8)}{d:DS}(h:Logs 1 ts d)(hb:ts.length<=1000000):Z3 3 d.list=(List.range ts.length).map fun i=>((1+i:Nat):Int):=by
 refine zNq (zIq 3 _) (zR1 1 _) fun x=>?_
 rw[zMl];constructor
 · rintro⟨s,hs,hx⟩
   rw[zMo h.up,h.keys]at hs;obtain⟨i,hi,rfl⟩:=reZ.1 hs;have hi':=List.mem_range.1 hi
   rw[show wn (1+i)=mk 3 ((1+i:Nat):Int) from rfl,zM7 (.inl rfl) (by omega) (by omega)]at hx
   cases hx;exact reZ.2 ⟨i,hi,rfl⟩
 · intro hx
   obtain⟨i,hi,rfl⟩:=reZ.1 hx;have hi':=List.mem_range.1 hi
   refine ⟨wn (1+i),?_,zM7 (.inl rfl) (by omega) (by omega)⟩
   rw[zMo h.up,h.keys];exact reZ.2 ⟨i,hi,rfl⟩
theorem zRW{ts:List (List UInt8)}{d:DS}(h:Logs 1 ts d)(hb:ts.length<=1000000):ZM 1 d.list=((List.range ts.length).map fun i=>((1+i:Nat):Int),0):=by
 have hn:=zRS h hb;obtain⟨m,hm⟩:∃m,ts.length=m:=⟨_,rfl⟩;rw[hm]at hn hb ⊢
 have hf:zCB 1 (Z3 3 d.list)=(List.range m).map fun i=>((1+i:Nat):Int):=by
   rw[hn];unfold zCB zBE
   cases m with
   | zero=>rfl
   | succ m =>
     rw[List.range_succ_eq_map,s1Z,List.takeWhile_cons,if_neg (by simp)]
     rfl
 unfold ZM
 rw[if_neg (by decide),hf]
 cases m with
 | zero=>rfl
 | succ m =>
   rw[if_neg (by simp),if_pos]
   have g0:((List.range (m+1)).map fun i=>((1+i:Nat):Int)).getD 0 0=1:=by rw[q2Z];simp
   have g1:((List.range (m+1)).map fun i=>((1+i:Nat):Int)).getD m 0=((1+m:Nat):Int):=by rw[q2Z];simp
   unfold okL;rw[r7Z,List.length_range,Nat.add_sub_cancel,g0,g1];omega
theorem zRr{n1:Nat}{ts:List (List UInt8)}{d:DS}(h:Logs n1 ts d){i:Nat}{t:List UInt8}(ht:ts[i]? = some t):d.text (wn (n1+i))=t:=by
 obtain⟨f,h1,h2⟩:=h.file i t ht;rw[zCy h1,h2]
theorem zRh{ts:List (List UInt8)}{ess:List (List En)}{d:DS}(h:Logs 1 ts d)(hr:zTF ts ess)(hb:ts.length<=1000000):∃a,d.load 1=(a,0)/\a.es=ess.flatten:=by
 obtain⟨L,hL⟩:∃L:List Int,(List.range ts.length).map (fun i=>((1+i:Nat):Int))=L:=⟨_,rfl⟩
 have key:∀k,k<=ts.length->∃a,zc d.text ((List.range k).map fun i=>((1+i:Nat):Int)) ⟨L,[],0,false⟩=(a,0)/\a.es=(ess.take k).flatten/\(k<ts.length->a.torn=false):=by
   intro k
   induction k with
   | zero=>exact fun _=>⟨_,rfl,by simp,fun _=>rfl⟩
   | succ k ih =>
     intro hk
     obtain⟨a,e1,e2,e3⟩:=ih (by omega)
     have e3:=e3 (by omega)
     obtain⟨t,ht⟩:∃t,ts[k]? = some t:=⟨_,q3Z (by omega)⟩
     obtain⟨es,hes⟩:∃es,ess[k]? = some es:=⟨_,q3Z (by rw[hr.1];omega)⟩
     obtain⟨r1,r2,r3⟩:=hr.2 k t es ht hes;obtain⟨p1,p2⟩:=Rp.rd_pay r1 r3;have hx:d.text (mk 3 ((1+k:Nat):Int))=t:=zRr h ht;rw[rpZ,roZ,zEw,e1,if_pos rfl];simp only[s1Z,List.map_nil,zc]
     rw[if_neg (by rw[e3];decide),hx]
     refine ⟨_,rfl,?_,fun h2=>?_⟩
     · simp only[Fnd.add]
       rw[e2,p1,List.take_add_one,hes];simp
     · simp only[Fnd.add]
       rw[p2 (r2 h2)];simp
 obtain⟨a,e1,e2,_⟩:=key ts.length (qnZ _)
 refine ⟨a,?_,by rw[e2,<-hr.1,List.take_length]⟩
 unfold DS.load
 rw[h.up,if_neg (by decide),zRW h hb]
 dsimp only;rw[if_pos rfl];rw[hL]at e1 ⊢;exact e1
theorem zUC{all:List En}(hall:∀e∈all,okE e){sy:Nat}{d:DS}{A B:Nat}(hA:A<=1000000)(hok:d.ok A B)(hw:WB 1 (all.map frE) sy d.fd d.fs)(l0 l1 l2:List Int) :
   ∃(a:Fnd) (d1:DS),(d.restart l0).load 1=(a,0)/\sy<=a.es.length/\a.es.length<=all.length/\a.es=all.take a.es.length/\(d.restart l0).mend a=(d1,0)/\(d.restart l0).ok A B/\d1.ok (A+2) (B+1) /\
     (d1.restart l1).ok (A+2) (B+1)/\((d1.restart l1).restart l2).ok (A+2) (B+1) /\
     d1.load 1=(⟨a.logs,a.es,a.good,false⟩,0)/\(d1.restart l1).load 1=(⟨a.logs,a.es,a.good,false⟩,0)/\((d1.restart l1).restart l2).load 1=(⟨a.logs,a.es,a.good,false⟩,0):=by
 obtain⟨ts,ess,h1,h2,h3,h4,_⟩:=zKq hall hok hw l0;have hok0:=DS.ok_restart hok l0
 have hlen:ts.length<=1000000:=by
   have:=(FD.ok_now hok0.fd).2
   have e:(NM.keys (d.restart l0).fd.now).length=ts.length:=by rw[h1.keys];simp
   unfold NM.keys at e;rw[r7Z]at e;omega
 obtain⟨a,a1,a2⟩:=zRh h1 h2 hlen;have hs:=zFN d l0;obtain⟨d1,m1,m2,m3,m4,m5,m6,m7,_⟩:=zS5 hok0 hs rfl a1;have hr1:=DS.ok_restart m6 l1;have hl1:=(zFI m6 m2 l1 1).trans m7;rw[<-a2]at h3 h4;refine ⟨a,d1,a1,h4,h3.length_le,List.prefix_iff_eq_take.1 h3,m1,hok0,m6,hr1,DS.ok_restart hr1 l2,m7,hl1,?_⟩;rw[zFI hr1 (zFN d1 l1) l2 1];exact hl1
end
end Go.Proofs.YthafeihjlamhhaaGreatDoor
