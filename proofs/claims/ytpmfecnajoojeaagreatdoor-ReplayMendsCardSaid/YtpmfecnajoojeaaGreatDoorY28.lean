/- Parts of the proof of ReplayMends: lemmas, each with its own conditions. -/
import Derived.Test.YtpmfecnajoojeaaGreatDoorY27
set_option maxHeartbeats 64000000
open List renaming getElem?_eq_some_iff → q1Z, getD_eq_getElem?_getD → q2Z, getElem?_eq_getElem → q3Z, length_cons → q7Z, length_nil → q8Z, cons_append → q9Z, nil_append → qaZ, replicate → qbZ, getElem_mem → r3Z, map_append → roZ, getElem?_eq_none → s4Z
open Option renaming map_eq_some_iff → qlZ, map_some → rhZ
open Nat renaming le_refl → qnZ, zero_le → qqZ, lt_or_ge → s2Z, zero_add → s8Z
namespace Go.Proofs.YtpmfecnajoojeaaGreatDoor
open _root_.Go.Proofs.Tryz renaming prog → Pz
set_option maxRecDepth 100000
section
open Go Go.Lib
attribute [-simp] zJ zY zn zL zl
theorem zDl{out:List Int}{j:Nat}{x:Int}(h:out[j]? = some x):(∀q,(zU out)[j]'q=.int .i64 x)/\(zU out)[j]? = some (.int .i64 x):=by
 have:(zU out)[j]? = some (.int .i64 x):=by simp[zU,h]
 exact⟨fun q=>(q1Z.1 this).2,this⟩
end
section
open Go Go.Lib
theorem zQ7(z:List Int):(zU (cpt z)).take (compact z).length=zU (compact z):=by
 unfold cpt zU;rw[roZ]
 exact List.take_left' (by simp)
theorem zM0(s:List UInt8)(k n:Int)(h:Zl s=(k,n)):(k=0/\n=0)\/(k≠0/\mk k n=s):=by
 unfold Zl at h;split at h
 · cases h;rename_i hs;subst hs;exact .inr ⟨by decide,rfl⟩
 split at h
 · cases h;rename_i hs;subst hs;exact .inr ⟨by decide,rfl⟩
 split at h
 · rename_i hs;cases h;exact .inr ⟨by decide,hs.2⟩
 split at h
 · rename_i hs;cases h;exact .inr ⟨by decide,hs.2⟩
 · cases h;exact .inl ⟨rfl,rfl⟩
theorem zRi(x:Int)(l:List Int){m:Int}(h:m∈zDa x l):m∈l:=List.mem_of_mem_drop h
theorem zBl(x:Int)(names:List (List UInt8)):(ZL x names).1=[]\/(ZL x names).1=zDa x (zAM 3 names):=by
 unfold ZL;split
 · exact .inl rfl
 split
 · exact .inl rfl
 split
 · exact .inr rfl
 · exact .inl rfl
theorem zID{x:Int}{names:List (List UInt8)}{m:Int}(h:m∈(ZL x names).1):∃s∈names,Zl s=(3,m)/\mk 3 m=s:=by
 have h1:m∈zAM 3 names:=by
   rcases zBl x names with e | e
   · rw[e]at h;simp at h
   · rw[e]at h;exact zRi _ _ h
 obtain⟨s,hs,h2⟩:=(zSP 3 names m).1 h1;unfold zFt at h2;split at h2
 · rename_i hc
   cases h2;have e:Zl s=(3,(Zl s).2):=Prod.ext hc.1 rfl;rcases zM0 s 3 _ e with⟨h3,_⟩ | ⟨_,h3⟩
   · exact absurd h3 (by decide)
   · exact⟨s,hs,e,h3⟩
 · cases h2
theorem zS9{x:Int}{names:List (List UInt8)}{m n:Int}(hm:m∈(ZL x names).1)(hn:n∈(ZL x names).1)(h:mk 3 m=mk 3 n):m=n:=by
 obtain⟨s,_,h1,h2⟩:=zID hm;obtain⟨t,_,h3,h4⟩:=zID hn
 have e:s=t:=by rw[<-h2,<-h4,h]
 rw[e,h3]at h1;exact (congrArg Prod.snd h1).symm
theorem zVc(x:Int)(names:List (List UInt8)):(ZL x names).1.Nodup:=by
 rcases zBl x names with e | e
 · rw[e];exact List.nodup_nil
 · rw[e]
   have h:=zMR 3 names
   have h2:(zAM 3 names).Nodup:=h.imp fun h=>by omega
   exact h2.sublist (List.drop_sublist _ _)
theorem zEy{d:DS}{A B:Nat}(hok:d.ok A B)(hd:d.down=false){x m:Int}(h:m∈(ZL x d.list).1):∃f,Z3 d.fs d.fd.now (mk 3 m)=some f:=by
 obtain⟨s,hs,_,h2⟩:=zID h;rw[h2];rw[zMi hd]at hs
 cases hg:d.fd.now.get s with
 | none=>exact absurd hg hs
 | some n =>
   obtain⟨f,hf,_⟩:=DS.has_file hok hg
   exact⟨f,by rw[zBE hg,hf]⟩
theorem zEm{l:List Int}(h:l.length≠0):l.getD (l.length-1) 0∈l:=by
 rw[q2Z,q3Z (by omega)]
 exact r3Z _
theorem zE6{l:List Int}(h:l.length≠0):∃init,l=init++[l.getD (l.length-1) 0]:=by
 rcases List.eq_nil_or_concat l with rfl | ⟨init,n,rfl⟩
 · exact absurd rfl h
 · refine ⟨init,?_⟩
   simp
theorem zFM{d d':DS}{x:Int}{a:Fnd}(h:d.load x=(a,0))(hd':d'.down=false)(hnow:d'.fd.now=d.fd.now)(ht:∀k,k≠zd a->d'.text k=d.text k)
   (hl:a.logs.length≠0->d'.text (zd a)=d.text (zd a)\/d'.text (zd a)=(d.text (zd a)).take a.good.toNat) :
   d'.load x=(⟨a.logs,a.es,a.good,decide (a.logs.length≠0/\a.good<(d'.text (zd a)).length)⟩,0)/\0<=a.good/\(a.logs.length=0->a.torn=false) /\
     (a.logs.length≠0->a.good<=(d.text (zd a)).length/\a.torn=decide (a.good<(d.text (zd a)).length)):=by
 obtain⟨h1,h2,h3,h4⟩:=zFY h;have hls:=zJ3 hnow h1 hd'
 have e:d'.load x=zg d'.text (ZL x d.list).1 ⟨(ZL x d.list).1,[],0,false⟩:=by
   unfold DS.load
   rw[hls,hd',if_neg (by decide),if_pos h2]
 by_cases h0:a.logs.length=0
 · have h5:(ZL x d.list).1=[]:=by rw[<-h4];exact List.length_eq_zero_iff.1 h0
   rw[h5]at h3 e;simp only[zg,Prod.mk.injEq,and_true]at h3;subst h3;rw[e]
   exact⟨by simp[zg],Int.le_refl _,fun _=>rfl,fun hn=>absurd h0 hn⟩
 · obtain⟨init,hi⟩:=zE6 h0
   rw[<-h4]at h3 e;have hlast:zd a=mk 3 (a.logs.getD (a.logs.length-1) 0):=rfl;obtain⟨n,hn⟩:∃n,a.logs.getD (a.logs.length-1) 0=n:=⟨_,rfl⟩;rw[hn]at hi hlast;have hnd:=zVc x d.list;rw[<-h4,hi,List.nodup_append]at hnd
   have hmem:∀m∈a.logs,m∈(ZL x d.list).1:=fun m hm=>by rw[<-h4];exact hm
   have hin:∀m∈init,d'.text (mk 3 m)=d.text (mk 3 m):=fun m hm=>by
     refine ht _ fun hc=>?_
     rw[hlast]at hc
     have:=zS9 (hmem m (by rw[hi];simp[hm])) (hmem n (by rw[hi];simp)) hc
     exact hnd.2.2 m hm n (by simp) this
   have hl':=hl h0;rw[hlast]at hl'
   have h3':zg d.text (init++[n]) ⟨a.logs,[],0,false⟩=(a,0):=by rw[<-hi];exact h3
   obtain⟨g1,g2,g3,g4,g5⟩:=zPi h3' hin hl';rw[e,hlast]
   have e2:zg d'.text a.logs ⟨a.logs,[],0,false⟩=zg d'.text (init++[n]) ⟨a.logs,[],0,false⟩:=by rw[<-hi]
   rw[e2,g5]
   refine ⟨?_,g3,fun hz=>absurd hz h0,fun _=>⟨g4,g2⟩⟩
   simp[h0]
theorem zTU{d:DS}{A B:Nat}(hok:d.ok A B)(hs:Sett d)(ha:d.armed=0){x:Int}{a:Fnd}(h:d.load x=(a,0)) :
   ∃d1,d.mend a=(d1,0)/\Sett d1/\d1.armed=0/\d1.fd=d.fd/\d1.quota=d.quota/\d1.ok (A+2) (B+1)/\d1.load x=(⟨a.logs,a.es,a.good,false⟩,0)/\(∀k,k≠zd a->d1.text k=d.text k) /\
     (a.logs.length=0\/a.torn=false->∀k,d1.text k=d.text k)/\(a.torn=true->a.logs.length≠0/\0<=a.good/\a.good<=(d.text (zd a)).length/\d1.text (zd a)=(d.text (zd a)).take a.good.toNat)/\FS.keys d1.fs=FS.keys d.fs:=by
 obtain⟨h1,h2,h3,h4⟩:=zFY h
 obtain⟨_,c1,c2,c3⟩:=zFM (d':=d) h h1 rfl (fun _ _=>rfl) (fun _=>.inl rfl)
 have hcalm:=zQv a d ha h1;have hok1:=zL3 a hok;obtain⟨d1,e,hm⟩:∃d1 e,d.mend a=(d1,e):=⟨_,_,rfl⟩;by_cases h0:a.logs.length=0
 · have hm2:d.mend a=(d,0):=by unfold DS.mend;rw[if_pos h0]
   have ht:=c2 h0
   refine ⟨d,hm2,hs,ha,rfl,rfl,DS.ok_mono hok (by omega) (by omega),?_,fun _ _=>rfl,fun _ _=>rfl,(fun hc=>by rw[ht]at hc;cases hc),rfl⟩
   rw[h];obtain⟨lo,es,go,to⟩:=a;dsimp only at ht;rw[ht]
 · obtain⟨g1,g2⟩:=c3 h0
   obtain⟨init,hi⟩:=zE6 h0
   obtain⟨f,hf⟩:=zEy hok h1 (x:=x) (m:=a.logs.getD (a.logs.length-1) 0) (by rw[<-h4];exact zEm h0)
   have hf0:=hs.get hf;rw[hf0]at hf;obtain⟨n,k1,k2⟩:=zAk hf
   have hst:=zIm h1 hs h0 (t:=d.text (zd a)) k1 k2 (fun ht=>⟨c1,by rw[g2]at ht;simpa using ht⟩)
   rw[hm]at hst hcalm hok1;dsimp only at hcalm hok1;obtain⟨q1,⟨r1,r2,r3,r4⟩ | ⟨r1,r2,r3⟩⟩:=hst;rotate_left
   · dsimp only at r2;rw[hcalm.2]at r2;cases r2
   dsimp only at q1 r1 r2 r3 r4;subst r1;have hnum:=FD.each_now hok.num.2
   have hcont:∀k,Z3 d1.fs d1.fd.now k=if k=zd a then (Z3 d.fs d.fd.now k).map fun _=>⟨if a.torn=true then (d.text (zd a)).take a.good.toNat else d.text (zd a),[]⟩ else Z3 d.fs d.fd.now k:=fun k=>by
     rw[r3,r4];exact zNd hnum k1 _
   have htx:∀k,k≠zd a->d1.text k=d.text k:=fun k hk=>zEa (by rw[hcont,if_neg hk])
   have hlx:d1.text (zd a)=if a.torn=true then (d.text (zd a)).take a.good.toNat else d.text (zd a):=by
     rw[zCV (f:=⟨if a.torn=true then (d.text (zd a)).take a.good.toNat else d.text (zd a),[]⟩) (by rw[hcont,if_pos rfl,show Z3 d.fs d.fd.now (zd a)=_ from hf];rfl)]
     simp[PF.now,zA2]
   refine ⟨d1,hm,⟨r2,by rw[r3];exact hs.acts,fun k f hk=>?_⟩,hcalm.1,r3,q1,hok1,?_,htx,?_,fun ht=>⟨h0,c1,g1,by rw[hlx,if_pos ht]⟩,by rw[r4,FS.keys_upd]⟩
   · rw[hcont]at hk
     split at hk
     · obtain⟨_,_,rfl⟩:=qlZ.1 hk;rfl
     · exact hs.each k f hk
   · obtain⟨l1,_⟩:=zFM (d':=d1) h r2 (by rw[r3]) htx fun _=>by
       rw[hlx];split
       · exact .inr rfl
       · exact .inl rfl
     rw[l1]
     have:decide (a.logs.length≠0/\a.good<(d1.text (zd a)).length)=false:=by
       rw[hlx];simp only[decide_eq_false_iff_not,not_and];intro _;split
       · simp;omega
       · rename_i ht
         rw[g2]at ht;simpa using ht
     rw[this]
   · rintro (hz | ht) k
     · exact absurd hz h0
     · by_cases hk:k=zd a
       · rw[hk,hlx,ht];rfl
       · exact htx k hk
theorem zO7{d:DS}{A B:Nat}(hok:d.ok A B)(hs:Sett d){x:Int}{a:Fnd}(h:d.load x=(a,0))(s:Int)(hsb:s<=4611686018427387903)(l:List Int) :
   ∃t,((((d.arm s).mend a).1.restart l).load x)=(⟨a.logs,a.es,a.good,t⟩,0)/\(a.torn=false->t=false):=by
 obtain⟨h1,h2,h3,h4⟩:=zFY h
 obtain⟨_,c1,c2,c3⟩:=zFM (d':=d) h h1 rfl (fun _ _=>rfl) (fun _=>.inl rfl)
 have h':(d.arm s).load x=(a,0):=h;have hs':Sett (d.arm s):=⟨hs.up,hs.acts,hs.each⟩;by_cases h0:a.logs.length=0
 · have hm2:(d.arm s).mend a=(d.arm s,0):=by unfold DS.mend;rw[if_pos h0]
   rw[hm2];dsimp only;have hr:(d.arm s).restart l=d.restart l:=rfl;rw[hr,zKo hok hs l x,h];exact⟨a.torn,rfl,id⟩
 · obtain⟨g1,g2⟩:=c3 h0
   obtain⟨init,hi⟩:=zE6 h0
   obtain⟨f,hf⟩:=zEy hok h1 (x:=x) (m:=a.logs.getD (a.logs.length-1) 0) (by rw[<-h4];exact zEm h0)
   have hf0:=hs.get hf;rw[hf0]at hf;obtain⟨n,k1,k2⟩:=zAk hf
   have hst:=zIm (d:=d.arm s) h1 hs' h0 (t:=d.text (zd a)) k1 k2 (fun ht=>⟨c1,by rw[g2]at ht;simpa using ht⟩)
   obtain⟨r,hr⟩:∃r,(d.arm s).mend a=r:=⟨_,rfl⟩;rw[hr]at hst ⊢;have hnum:=FD.each_now hok.num.2
   have key:r.1.fd=d.fd/\∃g,r.1.fs=FS.upd d.fs n (fun _=>g)/\(g=⟨d.text (zd a),[]⟩\/a.torn=true/\(g=⟨d.text (zd a),[.cut a.good.toNat]⟩\/g=⟨(d.text (zd a)).take a.good.toNat,[]⟩)):=by
     obtain⟨_,⟨_,_,r3,r4⟩ | ⟨_,_,r3,g,r4,r5⟩⟩:=hst
     · refine ⟨r3,_,r4,?_⟩
       split
       · rename_i ht;exact .inr ⟨ht,.inr rfl⟩
       · exact .inl rfl
     · refine ⟨r3,g,r4,?_⟩
       rcases r5 with r5 | ⟨r5,r6⟩
       · exact .inl r5
       · exact .inr ⟨r5,.inl r6⟩
   obtain⟨r3,g,r4,r5⟩:=key
   have hokr:r.1.ok (A+2) (B+1):=by rw[<-hr];exact zL3 a (DS.ok_arm hok s hsb)
   obtain⟨i,hi2,e1,e2,_,_,e5⟩:=zFs hokr l
   have hact:r.1.fd.acts=[]:=by rw[r3];exact hs.acts
   have hdn:ZU r.1.fd.d (r.1.fd.acts.take i)=d.fd.now:=by rw[hact,r3];simp[FD.now,hs.acts]
   have hnow:(r.1.restart l).fd.now=d.fd.now:=by rw[e1];simpa[FD.now,ZU] using hdn
   rw[hdn]at e5
   have hcont:∀k,Z3 r.1.fs d.fd.now k=if k=zd a then (Z3 d.fs d.fd.now k).map fun _=>g else Z3 d.fs d.fd.now k:=fun k=>by rw[r4];exact zNd hnum k1 _
   have htx:∀k,k≠zd a->(r.1.restart l).text k=d.text k:=fun k hk=>by
     have hc:=hcont k;rw[if_neg hk]at hc;rcases e5 k with⟨g3,g4⟩ | ⟨f,f',g3,g4,g5⟩
     · exact zEa (by rw[g4,<-hc,g3])
     · refine zEa ?_
       rw[g4,<-hc,g3];rw[hc]at g3;have hf:=hs.get g3
       exact congrArg some (g5 (fun x=>x=f) rfl fun g a b hg=>by subst hg;rw[hf,PF.stays_settled])
   have hlx:(r.1.restart l).text (zd a)=d.text (zd a)\/a.torn=true/\(r.1.restart l).text (zd a)=(d.text (zd a)).take a.good.toNat:=by
     have hc:=hcont (zd a)
     rw[if_pos rfl,show Z3 d.fs d.fd.now (zd a)=_ from hf]at hc
     rcases e5 (zd a) with⟨g3,g4⟩ | ⟨f,f',g3,g4,g5⟩
     · rw[hc]at g3;cases g3
     rw[hc]at g3;simp only[rhZ,Option.some.injEq]at g3;subst g3;obtain⟨T,hT⟩:∃T,d.text (zd a)=T:=⟨_,rfl⟩;rw[hT]at r5 ⊢
     have hp:=g5 (fun x=>x=⟨T,[]⟩\/a.torn=true/\(x=⟨T,[.cut a.good.toNat]⟩\/x=⟨T.take a.good.toNat,[]⟩)) r5 fun y u v hy=>by
       rcases hy with rfl | ⟨ht,rfl | rfl⟩
       · exact .inl (by rw[PF.stays_settled])
       · unfold PF.stays
         have hb:(inI u 0 ((1:Nat):Int)).toNat=0\/(inI u 0 ((1:Nat):Int)).toNat=1:=by unfold inI;omega
         simp only[q7Z,q8Z,s8Z];rcases hb with hb | hb
         · rw[hb];exact .inl (by simp[zA2])
         · rw[hb];exact .inr ⟨ht,.inr (by simp[zA2,FAct.run])⟩
       · exact .inr ⟨ht,.inr (by rw[PF.stays_settled])⟩
     rw[zCV g4];rcases hp with rfl | ⟨ht,rfl | rfl⟩
     · exact .inl (by simp[PF.now,zA2])
     · exact .inr ⟨ht,by simp[PF.now,zA2,FAct.run]⟩
     · exact .inr ⟨ht,by simp[PF.now,zA2]⟩
   obtain⟨l1,_⟩:=zFM (d':=r.1.restart l) h rfl hnow htx fun _=>hlx.imp id fun h=>h.2
   refine ⟨_,l1,fun ht=>?_⟩
   rcases hlx with hlx | ⟨ht2,_⟩
   · rw[hlx]
     rw[g2]at ht;simp only[decide_eq_false_iff_not]at ht ⊢
     exact fun hc=>ht hc.2
   · rw[ht]at ht2;cases ht2
end
section
open Go Go.Lib
attribute [-simp] zJ zY zn zL zl
theorem zQb(x:Int):∀(l:List Int) (i:Nat),i<=l.length->(∀k y,k<i->l[k]? = some y->y<x)->(∀y,l[i]? = some y->¬y<x)->zBQ x l=i
 | [],i,h,_,_=>by simp at h;subst h;rfl
 | y::l,0,_,_,h=>by
   have:=h y rfl;simp[zBQ,List.takeWhile_cons,this]
 | y::l,i+1,h,h1,h2=>by
   have h3:=h1 0 y (by omega) rfl
   have:=zQb x l i (by simpa using h) (fun k y hk hy=>h1 (k+1) y (by omega) (by simpa using hy)) (fun y hy=>h2 y (by simpa using hy))
   unfold zBQ at this ⊢
   rw[List.takeWhile_cons,if_pos (by simpa using h3),q7Z,this]
theorem zVq(x:Int)(l:List Int):zBQ x l<=l.length:=(List.takeWhile_prefix _).length_le
theorem zQT{l:List Int}(h:zPb l){i k:Nat}{x y:Int}(hik:i<k)(hx:l[i]? = some x)(hy:l[k]? = some y):x<y:=by
 obtain⟨h1,e1⟩:=q1Z.1 hx;obtain⟨h2,e2⟩:=q1Z.1 hy;have:=(List.pairwise_iff_getElem.1 h) i k h1 h2 hik
 rwa [e1,e2]at this
def zJN:List FuncId:=[232,272,233]
theorem zUe:GOk Pz (zAL Pz (zv []) 0 zJN 3):=zq hmix zD 0 zJN 3
theorem zXW(l:List Int)(x:Int)(hl:l.length<=1000000)(ha:zPb l) :
   Ct Pz 170 [.sl 0 0 l.length 1 false,.int .i64 x] [.cells false (zU l)] (.tuple [.int .i64 (zBQ x l),.top]) [.cells false (zU l)]:=by
 have hΓ:=zUe
 have hA1:∀rn:List Nat,AWs rn (zU l) (zU l):=fun rn=>AWs.refl _ _ (ZZ l)
 refine zK Tryz.func170 rfl ?_;simp only[Tryz.ntmps170,q7Z,q8Z,Nat.reduceAdd,Nat.reduceSub,qbZ,q9Z,qaZ]
 refine Sim.step hmix hΓ (n:=0) (by simp;exact⟨rfl,rfl⟩) (by simp) ?_
 refine Sim.step hmix hΓ (n:=0) (by simp;exact⟨rfl,rfl⟩) (by simp) ?_
 refine Sim.step hmix hΓ (n:=0) (by simp;exact⟨rfl,rfl⟩) (by simp) ?_
 refine Sim.seq (Sim.block (Sim.loopW (fun p:Nat×Nat=>p.1<=p.2/\p.2<=l.length/\(∀k y,k<p.1->l[k]? = some y->y<x)/\(∀k y,p.2<=k->l[k]? = some y->¬y<x))
   (fun p=>[.sl 0 0 l.length 1 false,.int .i64 x,.top,.top,.int .i64 0,.bool false,.int .i64 l.length,.int .i64 p.1,.int .i64 p.2]++qbZ 45 .top)
   (fun _=>[.cells false (zU l)]) (fun p=>p.2-p.1) (0,l.length) (by simp) ⟨by simp,by simp,fun k x h=>by omega,fun k x h hx=>by rw[s4Z (by omega)]at hx;cases hx⟩ (Weak.mk' [0] (by decide) (by decide) (by simp) (by simp[AWg,AWb,hA1])) fun ⟨i,h⟩ ⟨h1,h2,h3,h4⟩=>?_))
 dsimp only at h1 h2 h3 h4 ⊢;by_cases hlt:i<h
 · obtain⟨m,hm⟩:∃m,(i+h) / 2=m:=⟨_,rfl⟩
   have m1:i<=m:=by omega
   have m2:m<h:=by omega
   have ml:m<l.length:=by omega
   have w1:IntKind.i64.wrap ((i:Int)+h)=i+h:=zX (by omega) (by omega)
   have w2:IntKind.u64.wrap ((i:Int)+h)=i+h:=zJE (by omega) (by omega)
   have w3:((i:Int)+h).fdiv 2=m:=by rw[Int.fdiv_eq_ediv_of_nonneg _ (by omega)];omega
   have w4:IntKind.i64.wrap (m:Int)=m:=zX (by omega) (by omega)
   have w5:IntKind.u64.wrap (m:Int)=m:=zJE (by omega) (by omega)
   have w6:IntKind.i64.wrap ((m:Int)+1)=m+1:=zX (by omega) (by omega)
   obtain⟨y,hy⟩:∃y,l[m]? = some y:=⟨_,q3Z ml⟩;obtain⟨g1,g2⟩:=zDl hy;by_cases hb:y<x
   · refine Sim.exec hmix hΓ (n:=0) (by simp +decide [hlt,ml,g1,g2,w1,w2,w3,w4,w5,w6,hb,zJN,Tryz.f232,Tryz.f272];exact⟨rfl,rfl,rfl⟩) (by simp) ?_
     refine ⟨(m+1,h),⟨by dsimp only;omega,h2,fun k z hk hz=>?_,h4⟩,Weak.mk' [0] (by decide) (by decide) (by simp) (by simp[AWg,AWb,hA1]),by dsimp only;omega⟩
     rcases s2Z k m with hkm | hkm
     · have h5:=zQT ha hkm hz hy
       omega
     · have:k=m:=by dsimp only at hk;omega
       subst this
       rw[hy]at hz;cases hz;exact hb
   · refine Sim.exec hmix hΓ (n:=0) (by simp +decide [hlt,ml,g1,g2,w1,w2,w3,w4,w5,w6,hb,zJN,Tryz.f232,Tryz.f272];exact⟨rfl,rfl,rfl⟩) (by simp) ?_
     refine ⟨(i,m),⟨m1,by dsimp only;omega,h3,fun k z hk hz=>?_⟩,Weak.mk' [0] (by decide) (by decide) (by simp) (by simp[AWg,AWb,hA1]),by dsimp only;omega⟩
     rcases s2Z m k with hkm | hkm
     · have h5:=zQT ha hkm hy hz
       omega
     · have:k=m:=by dsimp only at hk;omega
       subst this
       rw[hy]at hz;cases hz;exact hb
 · have hih:i=h:=by omega
   subst hih
   have hp:zBQ x l=i:=zQb x l i h2 h3 fun y hy=>h4 i y (qnZ _) hy
   rw[hp]
   refine Sim.exec hmix hΓ (n:=0) (by simp[hlt];exact⟨rfl,rfl,rfl⟩) (by simp) ?_
   dsimp only;rw[if_pos rfl];by_cases hin:i<l.length
   · obtain⟨y,hy⟩:∃y,l[i]? = some y:=⟨_,q3Z hin⟩
     obtain⟨g1,g2⟩:=zDl hy;by_cases he:y=x
     · subst he
       refine Sim.exec hmix hΓ (n:=0) (by simp +decide [hin,g1,g2,zJN,Tryz.f233];exact⟨rfl,rfl,rfl⟩) (by simp) ?_
       exact⟨.inr rfl,_,by simp;rfl,Weak.mk' [0] (by decide) (by decide) (by simp[AWs,AW]) (by simp[AWg,AWb,hA1])⟩
     · have he2:(y==x)=false:=by simpa using he
       refine Sim.exec hmix hΓ (n:=0) (by simp +decide [hin,g1,g2,he,he2,zJN,Tryz.f233];exact⟨rfl,rfl,rfl⟩) (by simp) ?_
       exact⟨.inr rfl,_,by simp;rfl,Weak.mk' [0] (by decide) (by decide) (by simp[AWs,AW]) (by simp[AWg,AWb,hA1])⟩
   · refine Sim.exec hmix hΓ (n:=0) (by simp +decide [hin,zJN];exact⟨rfl,rfl,rfl⟩) (by simp) ?_
     exact⟨.inr rfl,_,by simp;rfl,Weak.mk' [0] (by decide) (by decide) (by simp[AWs,AW]) (by simp[AWg,AWb,hA1])⟩
def zIi(H:zA):AV->Option (List Int)
 | .nils=>some []
 | .slice b off len 1 _=>match H[b]? with
   | some (.cells _ l)=>if off+len<=l.length then zAr ((l.drop off).take len) else none
   | _=>none
 | .sl b off len 1 _=>match H[b]? with
   | some (.cells _ l)=>if off+len<=l.length then zAr ((l.drop off).take len) else none
   | _=>none
 | _=>none
theorem zGX{H:zA}{x:AV}{a:List Int}(h:zIi H x=some a):∃b off,(∀(i:Nat) (wd:List (Nat×Nat)),wd[i]? = some (b,off)->zBo wd (.sl i 0 a.length 1 false) x) /\
   (match H[b]? with | some (.cells _ l)=>off+(zU a).length<=l.length/\zU a=(l.drop off).take (zU a).length | none=>True | _=>False):=by
 have key:∀(b off len:Nat) (o:Bool) (l:List AV),H[b]? = some (.cells o l)->off+len<=l.length->zAr ((l.drop off).take len)=some a->len=a.length/\off+(zU a).length<=l.length/\zU a=(l.drop off).take (zU a).length:=by
   intro b off len o l hb hle hs;have e:=zCZ hs
   have hil:(zU a).length=a.length:=by simp[zU]
   have hlen:len=a.length:=by
     have:=congrArg List.length e;simp[hil]at this;omega
   subst hlen
   exact⟨rfl,by rw[hil];exact hle,by rw[hil];exact e.symm⟩
 unfold zIi at h;split at h
 · cases h
   exact⟨H.length,0,fun i wd _=>by simp[zBo],by simp[zU]⟩
 · rename_i b off len c
   split at h;rotate_left
   · cases h
   rename_i o l hb;split at h;rotate_left
   · cases h
   rename_i hle;obtain⟨rfl,h1,h2⟩:=key b off len o l hb hle h
   exact⟨b,off,fun i wd hw=>by simp[zBo,hw],by rw[hb];exact⟨h1,h2⟩⟩
 · rename_i b off len c
   split at h;rotate_left
   · cases h
   rename_i o l hb;split at h;rotate_left
   · cases h
   rename_i hle;obtain⟨rfl,h1,h2⟩:=key b off len o l hb hle h
   exact⟨b,off,fun i wd hw=>by simp[zBo,hw],by rw[hb];exact⟨h1,h2⟩⟩
 · cases h
open Classical in
noncomputable def zXG:zc:=zAZ fun args H=>match args with
 | [y,.int .i64 x]=>match zIi H y with
   | some l=>if l.length<=1000000/\zPb l then some (.tuple [.int .i64 (zBQ x l),.top]) else none
   | none=>none
 | _=>none
theorem zRm:Sound Pz 170 zXG:=by
 refine Zx (zH Tryz.func170 rfl (by decide)) fun args H v h=>?_
 split at h <;> try cases h
 rename_i y x
 split at h <;> try cases h
 rename_i l hx
 split at h <;> cases h
 rename_i hc;obtain⟨b1,o1,w1,g1⟩:=zGX hx;refine zE1 (zXW l x hc.1 hc.2) rfl [(b1,o1)] ?_ ?_
 · exact⟨w1 0 _ rfl,⟨rfl,rfl⟩,trivial⟩
 · exact⟨g1,ZZ _,trivial⟩
theorem zRE(a b:List Int)(ha:a.length<=1000000000000) :
   Ct Pz 41 [.sl 0 0 a.length 1 false,.sl 1 0 b.length 1 false] [.cells false (zU a),.cells false (zU b)] (.bool (decide (a=b))) [.cells false (zU a),.cells false (zU b)]:=by
 have hA:∀(l:List Int) (rn:List Nat),AWs rn (zU l) (zU l):=fun l rn=>AWs.refl _ _ (ZZ _)
 have hA0:=hA a;have hA1:=hA b;refine zK Tryz.func41 rfl ?_;simp only[Tryz.ntmps41,q7Z,q8Z,Nat.reduceAdd,Nat.reduceSub,qbZ,q9Z,qaZ]
 refine Sim.step hmix zD (n:=0) (by simp;exact⟨rfl,rfl⟩) (by simp) ?_
 by_cases hl:a.length=b.length;rotate_left
 · have hne:a≠b:=fun h=>hl (by rw[h])
   rw[decide_eq_false hne]
   have hb1:((a.length:Int)==(b.length:Int))=false:=by rw[beq_eq_false_iff_ne];omega
   have hb2:¬((a.length:Int)=(b.length:Int)):=by omega
   refine Sim.exec hmix zD (n:=0) (by simp[hl,hb1,hb2];exact⟨rfl,rfl,rfl⟩) (by simp) ?_
   exact⟨.inr rfl,_,by simp <;> rfl,Weak.mk' [0,1] (by decide) (by decide) (by simp) (by simp[AWg,AWb,hA0,hA1])⟩
 refine Sim.step hmix zD (n:=0) (by simp[hl];exact⟨rfl,rfl⟩) (by simp) ?_
 refine Sim.seq (Sim.step hmix zD (n:=0) (by simp;exact⟨rfl,rfl⟩) (by simp) ?_)
 refine Sim.block (Sim.loopW (fun k:Nat=>k<=a.length/\(decide (a=b))=decide (a.drop k=b.drop k))
   (fun k=>[.sl 0 0 a.length 1 false,.sl 1 0 b.length 1 false,.top,.top,.top,.int .i64 k]++qbZ 20 .top)
   (fun _=>[.cells false (zU a),.cells false (zU b)]) (fun k=>a.length-k) 0 (by simp) ⟨qqZ _,rfl⟩ (Weak.mk' [0,1] (by decide) (by decide) (by simp[hl]) (by simp[AWg,AWb,hA0,hA1])) fun k hk=>?_)
 obtain⟨hk,hk1⟩:=hk;by_cases hlt:k<a.length
 · have hltb:k<b.length:=by omega
   have hltI:(k:Int)<a.length:=by omega
   rw[List.drop_eq_getElem_cons hlt,List.drop_eq_getElem_cons hltb]at hk1;obtain⟨s,hs⟩:∃s,a[k]=s:=⟨_,rfl⟩;obtain⟨t,htt⟩:∃t,b[k]=t:=⟨_,rfl⟩
   have g1:∀h,(zU a)[k]'h=.int .i64 s:=fun h=>by simp[zU,hs]
   have g2:∀h,(zU b)[k]'h=.int .i64 t:=fun h=>by simp[zU,htt]
   have y1:IntKind.i64.wrap ((k:Int)+1)=k+1:=zX (by omega) (by omega)
   rw[hs,htt]at hk1
   refine Sim.step hmix zD (n:=0) (by simp[hlt];exact⟨rfl,rfl⟩) (by simp) ?_
   by_cases hst:s=t
   · subst hst
     have e:decide (s::a.drop (k+1)=s::b.drop (k+1))=decide (a.drop (k+1)=b.drop (k+1)):=by simp
     rw[e]at hk1
     refine Sim.seq (Sim.block (Sim.exec hmix zD (n:=0) (by simp +decide [hlt,hltb,g1,g2,hs,htt];exact⟨rfl,rfl,rfl⟩) (by simp) ?_))
     dsimp only
     refine Sim.exec hmix zD (n:=0) (by simp[y1];exact⟨rfl,rfl,rfl⟩) (by simp) ?_
     exact⟨k+1,⟨by omega,hk1⟩,Weak.mk' [0,1] (by decide) (by decide) (by simp) (by simp[AWg,AWb,hA0,hA1]),by omega⟩
   · have hsb:(s==t)=false:=by simpa using hst
     have e:decide (s::a.drop (k+1)=t::b.drop (k+1))=false:=by simp[hst]
     rw[e]at hk1;rw[hk1]
     refine Sim.seq (Sim.block (Sim.exec hmix zD (n:=0) (by simp +decide [hlt,hltb,g1,g2,hs,htt,hst,hsb];exact⟨rfl,rfl,rfl⟩) (by simp) ?_))
     exact⟨.inr rfl,_,by simp <;> rfl,Weak.mk' [0,1] (by decide) (by decide) (by simp) (by simp[AWg,AWb,hA0,hA1])⟩
 · have hke:k=a.length:=by omega
   subst hke
   rw[List.drop_of_length_le (qnZ _),List.drop_of_length_le (by omega)]at hk1
   rw[hk1]
   refine Sim.exec hmix zD (n:=0) (by simp;exact⟨rfl,rfl,rfl⟩) (by simp) ?_
   dsimp only;rw[if_pos rfl]
   refine Sim.exec hmix zD (n:=0) (by simp;exact⟨rfl,rfl,rfl⟩) (by simp) ?_
   exact⟨.inr rfl,_,by simp <;> rfl,Weak.mk' [0,1] (by decide) (by decide) (by simp) (by simp[AWg,AWb,hA0,hA1])⟩
def zLd:zc:=zAZ fun args H=>match args with
 | [x,y]=>match zIi H x,zIi H y with
   | some a,some b=>if a.length<=1000000000000 then some (.bool (decide (a=b))) else none
   | _,_=>none
 | _=>none
theorem zKn:Sound Pz 41 zLd:=by
 refine Zx (zH Tryz.func41 rfl (by decide)) fun args H v h=>?_
 split at h <;> try cases h
 rename_i x y
 split at h <;> try cases h
 rename_i a b hx hy
 split at h <;> cases h
 rename_i hc;obtain⟨b1,o1,w1,g1⟩:=zGX hx;obtain⟨b2,o2,w2,g2⟩:=zGX hy;refine zE1 (zRE a b hc) rfl [(b1,o1),(b2,o2)] ?_ ?_
 · exact⟨w1 0 _ rfl,w2 1 _ rfl,trivial⟩
 · exact⟨g1,ZZ _,g2,ZZ _,trivial⟩
end
end Go.Proofs.YtpmfecnajoojeaaGreatDoor
