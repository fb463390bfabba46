/- Parts of the proof of ReplayMends: lemmas, each with its own conditions. -/
import Derived.Test.YtpmfecnajoojeaaGreatDoorY22
set_option maxHeartbeats 64000000
open List renaming getElem?_eq_getElem → q3Z, take_of_length_le → q6Z, length_cons → q7Z, length_nil → q8Z, cons_append → q9Z, nil_append → qaZ, replicate → qbZ, mem_of_getElem? → qcZ, length_append → qdZ
open Nat renaming le_refl → qnZ
namespace Go.Proofs.YtpmfecnajoojeaaGreatDoor
open _root_.Go.Proofs.Tryz renaming prog → Pz
set_option maxRecDepth 100000
section
open Go
attribute [-simp] zJ zY zn zL zl
theorem Rp.len_le(s:List UInt8):((Rp.rd s 0).1.length:Int)<=s.length:=by
 have key:∀(k:Nat) (acc:List En) (a:Int),Rp.At s (acc,a)->s.length-a.toNat<=k->((Rp.rd s 0).1.length:Int)<=s.length:=by
   intro k
   induction k with
   | zero =>
     intro acc a h hk
     cases h1:Rp.one s a with
     | none =>
       rw[Rp.at_end h h1];obtain⟨_,h2,h3,_⟩:=h;dsimp only at h2 h3 ⊢;omega
     | some y =>
       obtain⟨_,w2,w3,_⟩:=Rp.one_way (x:=y.1) (b:=y.2) h1;have:=h.1;dsimp only at this;omega
   | succ k ih =>
     intro acc a h hk
     cases h1:Rp.one s a with
     | none =>
       rw[Rp.at_end h h1];obtain⟨_,h2,h3,_⟩:=h;dsimp only at h2 h3 ⊢;omega
     | some y =>
       obtain⟨_,w2,w3,_⟩:=Rp.one_way (x:=y.1) (b:=y.2) h1;have:=h.1;dsimp only at this
       exact ih _ _ (Rp.at_next (x:=y.1) (b:=y.2) h h1) (by omega)
 exact key _ _ _ (Rp.at0 s) (qnZ _)
def zQx:Gam:=zv [(215,zH4),(78,zMy)]
theorem zHQ:GOk Pz zQx:=zC zOn (zC zOY zD)
theorem zVP(s:List UInt8)(hs:s.length<=1000000000) :
   Ct Pz 97 [.str s] [] (.tuple [.sl 0 0 (Rp.rd s 0).1.length 3 false,.int .i64 (Rp.rd s 0).2]) [.cells true (zS (Rp.rd s 0).1)]:=by
 have hΓ:=zq hmix zD 0 [166] 1
 have hs2:s.length<=1000000000000:=by omega
 obtain⟨⟨L,X⟩,hr⟩:∃r,Rp.rd s 0=r:=⟨_,rfl⟩;rw[hr];dsimp only;refine zK Tryz.func97 rfl ?_;simp only[Tryz.ntmps97,q7Z,q8Z,Nat.reduceAdd,Nat.reduceSub,qbZ,q9Z,qaZ]
 refine Sim.step hmix hΓ (n:=0) (by simp;exact⟨rfl,rfl⟩) (by simp) ?_
 refine Sim.scope ?_
 refine Sim.step hmix hΓ (n:=0) (by simp;exact⟨rfl,rfl⟩) (by simp) ?_
 refine Sim.seq (Sim.step hmix hΓ (n:=0) (by simp[Tryz.f166];exact⟨rfl,rfl⟩) (by simp) ?_)
 refine Sim.block ?_;by_cases hc:(Fr.get s X).2.2=0
 · refine Sim.rangeFuncN hmix (fun rc=>[.cells true [.sl 4 0 L.length 3 false],.cells true [.int .i64 X],.cells true [.str s],rc,.cells true (zS L)]) .done (some (.exit 0)) (.tuple []) (gf:=227) (cap:=[.ptr 2 0]) (by simp) (zH Tryz.func227 rfl (by decide)) (by decide) (by simp) (by simp) (by simp) rfl (by simp) ?_ ?_
   · generalize hrc:ABlk.loop _ _ _ LoopState.ready none _=rc
     generalize hrd:ABlk.loop _ _ _ LoopState.done (some (Code.exit 0)) _=rd;refine zK Tryz.func227 rfl ?_;simp only[Tryz.ntmps227,q7Z,q8Z,qbZ,q9Z,qaZ]
     refine Sim.step hmix zHQ (n:=0) (by simp[zQx,zH4,hs2];exact⟨rfl,rfl⟩) (by simp) ?_
     refine Sim.block (Sim.loopW (fun p:List En×Int=>Rp.At s p)
       (fun p=>[.yld 3,.ptr 2 0,.top,.str (Fr.get s p.2).1,.int .i64 (Fr.get s p.2).2.1,.int .i64 (Fr.get s p.2).2.2]++qbZ 21 .top)
       (fun p=>[.cells true [.sl 4 0 p.1.length 3 false],.cells true [.int .i64 p.2],.cells true [.str s],rc,.cells true (zS p.1)]) (fun p=>s.length-p.2.toNat) ([],0) (by simp) (Rp.at0 s) ?_ fun p hp=>?_)
     · subst hrc
       exact Weak.mk' [0,1,2,3,100] (by decide) (by decide) (by simp) (by simp)
     obtain⟨acc,a⟩:=p;have hp':=hp;obtain⟨h1,h2,h3,h4⟩:=hp';dsimp only at h1 h2 h3 h4 ⊢;subst hrc;subst hrd;have hΓ2:=zq hmix zHQ 0 [] 1;have hql:=Rp.get_le s a;obtain⟨⟨q,y,e⟩,hq⟩:∃r,Fr.get s a=r:=⟨_,rfl⟩;obtain⟨⟨⟨w,n,g⟩,e2⟩,hx⟩:∃r,zDd q=r:=⟨_,rfl⟩;rw[hq]at hql ⊢;dsimp only at hql ⊢
     have hq6:q.length<=1000000:=by omega
     obtain⟨⟨q',y',e'⟩,hq'⟩:∃r,Fr.get s y=r:=⟨_,rfl⟩
     have c1:(acc.length+1)*24<=140737488355328:=by omega
     have c2:acc.length+1<=9223372036854775807:=by omega
     have tk:(zS acc).take (acc.length*3)=zS acc:=q6Z (by simp)
     by_cases hok:e=0/\e2=0
     · obtain⟨rfl,rfl⟩:=hok
       have h5:Rp.one s a=some ((w,n,g),y):=by
         unfold Rp.one;rw[hq];simp[hx]
       have hn:=Rp.at_next hp h5;obtain⟨w1,w2,w3,_⟩:=Rp.one_way h5
       refine Sim.exec hmix hΓ2 (n:=0) (by simp +decide [zQx,zH4,zMy,hs2,hq6,hx,enA,hq',c1,c2,tk];exact⟨rfl,rfl,rfl⟩) (by simp) ?_
       dsimp only
       refine ⟨(acc++[(w,n,g)],y),hn,?_,by dsimp only;omega⟩
       rw[hq']
       exact Weak.mk' [0,1,2,3,7] (by decide) (by decide) (by simp) (by simp[zS,enA] <;> exact AWs.refl _ _ (by simpa[zS,enA] using zp (acc++[(w,n,g)])))
     · have h5:Rp.one s a=none:=by
         unfold Rp.one;rw[hq];simp only[hx];rw[if_neg hok]
       have h6:=Rp.at_end hp h5;rw[hr]at h6;simp only[Prod.mk.injEq]at h6;obtain⟨rfl,rfl⟩:=h6;rw[hq]at hc;dsimp only at hc;subst hc
       have he3:(e2 != 0)=true:=by simpa using hok
       refine Sim.exec hmix hΓ2 (n:=0) (by simp +decide [zQx,zH4,zMy,hq6,hx,enA,he3];exact⟨rfl,rfl,rfl⟩) (by simp) ?_
       dsimp only
       refine ⟨.inl rfl,_,by simp[Tryz.f227];rfl,?_⟩
       exact Weak.mk' [0,1,2,3,4] (by decide) (by decide) (by simp) (by simp)
   · dsimp only
     refine Sim.exec hmix hΓ (n:=0) (by simp +decide;exact⟨rfl,rfl,rfl⟩) (by simp) ?_
     exact⟨.inr rfl,_,by simp[Tryz.f97] <;> rfl,Weak.mk' [4] (by decide) (by decide) (by simp) (by simp)⟩
 · refine Sim.rangeFuncN hmix (fun rc=>[.cells true [.sl 4 0 L.length 3 false],.cells true [.int .i64 X],.cells true [.str s],rc,.cells true (zS L)]) .ready none (.tuple []) (gf:=227) (cap:=[.ptr 2 0]) (by simp) (zH Tryz.func227 rfl (by decide)) (by decide) (by simp) (by simp) (by simp) rfl (by simp) ?_ ?_
   · generalize hrc:ABlk.loop _ _ _ LoopState.ready none _=rc
     refine zK Tryz.func227 rfl ?_;simp only[Tryz.ntmps227,q7Z,q8Z,qbZ,q9Z,qaZ]
     refine Sim.step hmix zHQ (n:=0) (by simp[zQx,zH4,hs2];exact⟨rfl,rfl⟩) (by simp) ?_
     refine Sim.block (Sim.loopW (fun p:List En×Int=>Rp.At s p)
       (fun p=>[.yld 3,.ptr 2 0,.top,.str (Fr.get s p.2).1,.int .i64 (Fr.get s p.2).2.1,.int .i64 (Fr.get s p.2).2.2]++qbZ 21 .top)
       (fun p=>[.cells true [.sl 4 0 p.1.length 3 false],.cells true [.int .i64 p.2],.cells true [.str s],rc,.cells true (zS p.1)]) (fun p=>s.length-p.2.toNat) ([],0) (by simp) (Rp.at0 s) ?_ fun p hp=>?_)
     · subst hrc
       exact Weak.mk' [0,1,2,3,100] (by decide) (by decide) (by simp) (by simp)
     obtain⟨acc,a⟩:=p;have hp':=hp;obtain⟨h1,h2,h3,h4⟩:=hp';dsimp only at h1 h2 h3 h4 ⊢;subst hrc;have hΓ2:=zq hmix zHQ 0 [] 1;have hql:=Rp.get_le s a;obtain⟨⟨q,y,e⟩,hq⟩:∃r,Fr.get s a=r:=⟨_,rfl⟩;obtain⟨⟨⟨w,n,g⟩,e2⟩,hx⟩:∃r,zDd q=r:=⟨_,rfl⟩;rw[hq]at hql ⊢;dsimp only at hql ⊢
     have hq6:q.length<=1000000:=by omega
     obtain⟨⟨q',y',e'⟩,hq'⟩:∃r,Fr.get s y=r:=⟨_,rfl⟩
     have c1:(acc.length+1)*24<=140737488355328:=by omega
     have c2:acc.length+1<=9223372036854775807:=by omega
     have tk:(zS acc).take (acc.length*3)=zS acc:=q6Z (by simp)
     by_cases hok:e=0/\e2=0
     · obtain⟨rfl,rfl⟩:=hok
       have h5:Rp.one s a=some ((w,n,g),y):=by
         unfold Rp.one;rw[hq];simp[hx]
       have hn:=Rp.at_next hp h5;obtain⟨w1,w2,w3,_⟩:=Rp.one_way h5
       refine Sim.exec hmix hΓ2 (n:=0) (by simp +decide [zQx,zH4,zMy,hs2,hq6,hx,enA,hq',c1,c2,tk];exact⟨rfl,rfl,rfl⟩) (by simp) ?_
       dsimp only
       refine ⟨(acc++[(w,n,g)],y),hn,?_,by dsimp only;omega⟩
       rw[hq']
       exact Weak.mk' [0,1,2,3,7] (by decide) (by decide) (by simp) (by simp[zS,enA] <;> exact AWs.refl _ _ (by simpa[zS,enA] using zp (acc++[(w,n,g)])))
     · have h5:Rp.one s a=none:=by
         unfold Rp.one;rw[hq];simp only[hx];rw[if_neg hok]
       have h6:=Rp.at_end hp h5;rw[hr]at h6;simp only[Prod.mk.injEq]at h6;obtain⟨rfl,rfl⟩:=h6;rw[hq]at hc;dsimp only at hc
       have he2:(e==0)=false:=by simpa using hc
       refine Sim.exec hmix hΓ2 (n:=0) (by simp +decide [he2];exact⟨rfl,rfl,rfl⟩) (by simp) ?_
       dsimp only
       refine ⟨.inl rfl,_,by simp[Tryz.f227];rfl,?_⟩
       exact Weak.mk' [0,1,2,3,4] (by decide) (by decide) (by simp) (by simp)
   · dsimp only
     refine Sim.exec hmix hΓ (n:=0) (by simp +decide;exact⟨rfl,rfl,rfl⟩) (by simp) ?_
     exact⟨.inr rfl,_,by simp[Tryz.f97] <;> rfl,Weak.mk' [4] (by decide) (by decide) (by simp) (by simp)⟩
def zK3:zc:=zR4 fun
 | [.str s]=>if s.length<=1000000000 then some (.tuple [.sl 0 0 (Rp.rd s 0).1.length 3 false,.int .i64 (Rp.rd s 0).2],[.cells true (zS (Rp.rd s 0).1)]) else none
 | _=>none
theorem zIJ:Sound Pz 97 zK3:=by
 refine zKe (zH Tryz.func97 rfl (by decide)) fun args v H' h=>?_
 split at h <;> try cases h
 rename_i s
 split at h <;> cases h
 exact⟨zVP s ‹_›,by simp,by simp⟩
def zWK:Gam:=zv [(168,zUH),(167,zTF)]
theorem zBI:GOk Pz zWK:=zC zNn (zC zOE zD)
theorem zPW(l:List En)(hl:l.length<=1000000)(hok:∀x∈l,okN x.2.1=true) :
   Ct Pz 98 [.sl 0 0 l.length 3 false] [.cells false (zS l)] (.str (Rp.bytes l)) [.cells false (zS l)]:=by
 refine zK Tryz.func98 rfl ?_;simp only[Tryz.ntmps98,q7Z,q8Z,Nat.reduceAdd,Nat.reduceSub,qbZ,q9Z,qaZ]
 refine Sim.step hmix zBI (n:=0) (by simp;exact⟨rfl,rfl⟩) (by simp) ?_
 refine Sim.step hmix zBI (n:=0) (by simp;exact⟨rfl,rfl⟩) (by simp) ?_
 refine Sim.seq (Sim.step hmix zBI (n:=0) (by simp;exact⟨rfl,rfl⟩) (by simp) ?_)
 refine Sim.block (Sim.loopW (fun k:Nat=>k<=l.length)
   (fun k=>[.sl 0 0 l.length 3 false,.top,.top,.str (Rp.bytes (l.take k)),.int .i64 k]++qbZ 27 .top)
   (fun k=>[.cells false (zS l)]) (fun k=>l.length-k) 0 (by simp) (by simp) (Weak.mk' [0] (by decide) (by decide) (by simp[Rp.bytes]) (by simp)) fun k hk=>?_)
 by_cases hlt:k<l.length
 · have hlti:(k:Int)<l.length:=by omega
   obtain⟨e,he⟩:∃e,l[k]=e:=⟨_,rfl⟩
   have he':l[k]? = some e:=by rw[q3Z hlt,he]
   have g1:=zHP l k hlt;rw[he]at g1
   have k1:k*3+3<=l.length*3:=by omega
   have hw:IntKind.i64.wrap ((k:Int)+1)=k+1:=zX (by omega) (by omega)
   have hn:=hok e (qcZ he')
   have hnext:Rp.bytes (l.take (k+1))=Rp.bytes (l.take k)++(Fr.put (zHB e).1).1:=by rw[List.take_add_one,he'];exact Rp.bytes_snoc _ _
   have hb:=Rp.bytes_le (l.take k)
   have hb2:(l.take k).length<=1000000:=by simp;omega
   obtain⟨wd,wt,gn⟩:=e;obtain⟨⟨P,er⟩,hP⟩:∃r,zHB (wd,wt,gn)=r:=⟨_,rfl⟩;obtain⟨B,hB⟩:∃B,Rp.bytes (l.take k)=B:=⟨_,rfl⟩;have hPl:=Fr.put_le P;obtain⟨⟨U,ef⟩,hU⟩:∃r,Fr.put P=r:=⟨_,rfl⟩;rw[hP]at hnext;rw[hB]at hnext hb ⊢;dsimp only at hnext;rw[hU]at hnext hPl;dsimp only at hnext hPl hn
   have hP2:P.length<=1000000000:=by
     have e9:P=(zHB (wd,wt,gn)).1:=by rw[hP]
     have hn':0<=wt/\wt<4294967296:=by simpa[okN] using hn
     rw[e9];unfold zHB;split
     · rename_i h
       simp only[okW,decide_eq_true_eq]at h;dsimp only
       have:=Vy.size_bd wt.toNat (by omega)
       split
       · simp only[q7Z];omega
       · simp only[q7Z,qdZ,Vy.enc_length];omega
     · simp
   have hBU:B.length+U.length<=9223372036854775807:=by omega
   refine Sim.step hmix zBI (n:=0) (by simp[hlti];exact⟨rfl,rfl⟩) (by simp) ?_
   refine Sim.seq (Sim.block ?_)
   refine Sim.exec hmix zBI (n:=0) (by simp +decide [zWK,zUH,zTF,hlt,g1,k1,enA,hn,hP,hU,hP2,hBU];exact⟨rfl,rfl,rfl⟩) (by simp) ?_
   dsimp only
   refine Sim.exec hmix zBI (n:=0) (by simp[hw];exact⟨rfl,rfl,rfl⟩) (by simp) ?_
   dsimp only
   exact⟨k+1,by omega,Weak.mk' [0] (by decide) (by decide) (by simp[hnext]) (by simp),by omega⟩
 · have hke:k=l.length:=by omega
   subst hke
   refine Sim.exec hmix zBI (n:=0) (by simp;exact⟨rfl,rfl,rfl⟩) (by simp) ?_
   dsimp only;rw[if_pos rfl]
   refine Sim.exec hmix zBI (n:=0) (by simp;exact⟨rfl,rfl,rfl⟩) (by simp) ?_
   exact⟨.inr rfl,_,by simp[Tryz.f98] <;> rfl,Weak.mk' [0] (by decide) (by decide) (by simp) (by simp)⟩
end
end Go.Proofs.YtpmfecnajoojeaaGreatDoor
