/- Parts of the proof of ReplayMends: lemmas, each with its own conditions. -/
import Derived.Test.YtpmfecnajoojeaaGreatDoorY26
import Derived.Test.YtpmfecnajoojeaaGreatDoorY28
set_option maxHeartbeats 64000000
open List renaming nil_append → qaZ, mem_cons_self → qhZ, mem_cons_of_mem → qiZ, length_take → qjZ, mem_append → qxZ, mem_singleton → r1Z, mem_map → reZ, map_append → roZ, map_cons → s1Z
open Nat renaming le_refl → qnZ, zero_le → qqZ
open Bool renaming false_eq_true → qsZ
namespace Go.Proofs.YtpmfecnajoojeaaGreatDoor
set_option maxRecDepth 100000
section
open Go Go.Lib
structure SwG (F:List (List UInt8×List UInt8)) (lv:List UInt8->Bool) (fd:FD) (fs:FS):Prop where
 core:Core fd fs
 each:fd.each fun l _=>(∀e∈F,lv e.1=true->Z3 fs l e.1=some ⟨e.2,[]⟩)/\∀k n,NM.get l k=some n->∃b,(k,b)∈F/\Z3 fs l k=some ⟨b,[]⟩
theorem zUV{d:DS}(hd:d.down=false)(hc:Core d.fd d.fs):d.list.Nodup:=by
 unfold DS.list;rw[hd];exact FD.names_nd hc.num
theorem zSF{d:DS}(hd:d.down=false)(x:List UInt8):x∈d.list↔∃n,d.fd.now.get x=some n:=by
 rw[zMi hd]
 cases d.fd.now.get x <;> simp
theorem zMZ{fd:FD}{fs:FS}{q st ar:Int}{dn:Bool}{A B:Nat}(h:DS.ok ⟨fd,fs,q,st,ar,dn⟩ A B):DS.ok ⟨fd,fs,q,0,0,false⟩ A B :=
 ⟨h.fd,h.num,h.has,h.rng,h.nd,h.fine,h.len,h.q0,h.q1,Int.le_refl _,by dsimp only;omega,Int.le_refl _,by dsimp only;omega⟩
theorem zRF{fd:FD}{fs:FS}{q:Int}{A B:Nat}(h:DS.ok ⟨fd,fs,q,0,0,false⟩ A B){k b:List UInt8}(hb:b.length<=B)(hm:zJg k)(hg:fd.now.get k=none):DS.ok ⟨fdN fd k,fsN fd fs ⟨b,[]⟩,q,0,0,false⟩ (A+2) B:=by
 have h1:=DS.ok_create h k
 have e:((⟨fd,fs,q,0,0,false⟩:DS).create k).1=⟨fdN fd k,fsN fd fs ⟨[],[]⟩,q,1,0,false⟩:=by
   unfold DS.create DS.step DS.count FD.create;simp[hm,hg]
 rw[e]at h1
 have h2:=DS.ok_fs (C:=B) h1 (fd.last+1) (fun _=>⟨b,[]⟩) (fun f _=>PF.ok_new _ _ hb) (qnZ _)
 have hf:fd.last+1∉FS.keys fs:=fun hn=>by have:=(h.rng _ hn).2;dsimp only at this;omega
 dsimp only at h2;rw[FS.upd_app hf]at h2;exact zMZ h2
theorem zJ0{q:Int}{B:Nat}:∀(F dn:List (List UInt8×List UInt8)) (fd:FD) (fs:FS) (A:Nat),DS.ok ⟨fd,fs,q,0,0,false⟩ A B->(∀e∈F,zJg e.1/\e.2.length<=B)->((dn++F).map Prod.fst).Nodup ->
   (∀k,(∃n,fd.now.get k=some n)↔k∈dn.map Prod.fst)->(∀e∈dn,Z3 fs fd.now e.1=some ⟨e.2,[]⟩) ->
   ∃fd' fs',zCO (fd,fs) F=some (fd',fs')/\DS.ok ⟨fd',fs',q,0,0,false⟩ (A+2*F.length) B/\(∀k,(∃n,fd'.now.get k=some n)↔k∈(dn++F).map Prod.fst)/\∀e∈dn++F,Z3 fs' fd'.now e.1=some ⟨e.2,[]⟩
 | [],dn,fd,fs,A,h,_,_,h3,h4=>⟨fd,fs,rfl,h,by simpa using h3,by simpa using h4⟩
 | e::F,dn,fd,fs,A,h,hm,hnd,h3,h4=>by
   have hg:fd.now.get e.1=none:=by
     cases hx:fd.now.get e.1 with
     | none=>rfl
     | some n =>
       have h9:=(h3 e.1).1 ⟨n,hx⟩;rw[roZ,List.nodup_append]at hnd
       exact absurd rfl (hnd.2.2 _ h9 _ (by simp))
   obtain⟨m1,m2⟩:=hm e (qhZ ..);have hs:=zRF h m2 m1 hg
   have hcr:fd.create e.1=(fdN fd e.1,fd.last+1,0):=by
     unfold FD.create;rw[if_pos m1,hg]
   have hnow:(fdN fd e.1).now=NM.put fd.now e.1 (fd.last+1):=by rw[zSl];rfl
   have hf:fd.last+1∉FS.keys fs:=fun hn=>by have:=(h.rng _ hn).2;dsimp only at this;omega
   have e1:dn++e::F=(dn++[e])++F:=by simp
   rw[e1]at hnd ⊢
   obtain⟨fd',fs',g1,g2,g3,g4⟩:=zJ0 F (dn++[e]) (fdN fd e.1) (fsN fd fs ⟨e.2,[]⟩) (A+2) hs (fun x hx=>hm x (qiZ _ hx)) hnd (fun k=>by
       rw[hnow,NM.get_put];simp only[roZ,s1Z,List.map_nil,qxZ,r1Z];split
       · rename_i ek;simp[ek]
       · rename_i ek;rw[h3];simp[ek]) (fun x hx=>by
       rcases qxZ.1 hx with hx | hx
       · obtain⟨n,k1,k2⟩:=zAk (h4 x hx)
         have hne:x.1≠e.1:=fun ek=>by rw[ek,hg]at k1;cases k1
         rw[zBE (n:=n) (by rw[hnow,NM.get_put,if_neg hne];exact k1),FS.get_app,k2]
       · simp only[r1Z]at hx
         subst hx
         rw[zBE (n:=fd.last+1) (by rw[hnow,NM.get_put,if_pos rfl])]
         exact FS.get_new hf)
   refine ⟨fd',fs',?_,DS.ok_mono g2 (by simp;omega) (qnZ _),g3,g4⟩
   rw[zG2];dsimp only;rw[hcr];exact (if_pos rfl).trans g1
theorem zSo(F:List (List UInt8×List UInt8)){B:Nat}(hm:∀e∈F,zJg e.1/\e.2.length<=B)(hnd:(F.map Prod.fst).Nodup)(q:Int)(hq:0<=q)(hq2:q<=4611686018427387903)(lv:List UInt8->Bool) :
   ∃d,DS.ofF F q=some d/\d.ok (2*F.length+2) B/\d.quota=q/\d.steps=0/\d.armed=0/\d.down=false/\d.fd.acts=[]/\SwG F lv d.fd d.fs/\(∀k,(∃n,d.fd.now.get k=some n)↔k∈F.map Prod.fst):=by
 have h0:DS.ok ⟨FD.new,[],q,0,0,false⟩ 0 B:=DS.ok_mono (DS.ok_new q hq hq2) (qnZ _) (qqZ _)
 obtain⟨fd,fs,g1,g2,g3,g4⟩:=zJ0 F [] FD.new [] 0 h0 hm (by simpa using hnd) (fun k=>by simp[FD.new,FD.now,ZU,NM.get]) (fun e he=>by simp at he)
 simp only[qaZ]at g3 g4
 have hsv:fd.survive fd.acts.length=⟨fd.now,[],fd.last⟩:=by
   unfold FD.survive FD.now
   have:fd.clamp fd.acts.length=fd.acts.length:=by unfold FD.clamp;omega
   rw[this,List.take_length]
 have h1:=DS.ok_syncDir g2
 have e:((⟨fd,fs,q,0,0,false⟩:DS).syncDir).1=⟨⟨fd.now,[],fd.last⟩,fs,q,1,0,false⟩:=by
   unfold DS.syncDir DS.step DS.count;simp[hsv]
 rw[e]at h1;have h2:=zMZ h1
 refine ⟨⟨⟨fd.now,[],fd.last⟩,fs,q,0,0,false⟩,?_,DS.ok_mono h2 (by omega) (qnZ _),rfl,rfl,rfl,rfl,rfl,⟨h2.core,fun i _=>?_⟩,g3⟩
 · unfold DS.ofF
   rw[if_neg (by omega),g1]
   simp[hsv]
 · have e:ZU fd.now (([]:List DAct).take i)=fd.now:=by simp[ZU]
   dsimp only;rw[e]
   refine ⟨fun x hx _=>g4 x hx,fun k n hk=>?_⟩
   obtain⟨x,hx,rfl⟩:=reZ.1 ((g3 k).1 ⟨n,hk⟩);exact⟨x.2,hx,g4 x hx⟩
theorem zO3{d:DS}(hd:d.down=false)(hc:Core d.fd d.fs){K:List (List UInt8)}(hK:K.Nodup)(h:∀k,(∃n,d.fd.now.get k=some n)↔k∈K):d.list.Perm K :=
 (List.perm_ext_iff_of_nodup (zUV hd hc) hK).2 fun k=>by rw[zSF hd,h]
theorem zOx(d:DS)(g:DS->DS×Int)(h:∀d,(g d).1.steps=d.steps):(d.step g).1.steps=d.steps+1:=by
 have hc:d.count.steps=d.steps+1:=by unfold DS.count;split <;> rfl
 unfold DS.step;split
 · exact hc
 · rw[h];exact hc
theorem of_steps(d:DS)(k:List UInt8)(g:DS->PF->PF×Int):(d.of k g).1.steps=d.steps+1:=by
 unfold DS.of
 refine zOx d _ fun d=>?_
 split
 · rfl
 · split <;> rfl
theorem zOb(d:DS)(a:Fnd):(d.mend a).1.steps<=d.steps+2:=by
 unfold DS.mend;split
 · dsimp only;omega
 · split
   · unfold zOX
     have h1:(d.truncate (zd a) a.good).1.steps=d.steps+1:=of_steps _ _ _;have h2:((d.truncate (zd a) a.good).1.sync (zd a)).1.steps=(d.truncate (zd a) a.good).1.steps+1:=of_steps _ _ _;split
     · show ((d.truncate (zd a) a.good).1.sync (zd a)).1.steps<=d.steps+2
       omega
     · omega
   · have h1:(d.sync (zd a)).1.steps=d.steps+1:=of_steps _ _ _
     omega
theorem zHj{α:Type}{f g:α->Nat}:∀{l:List α},(∀x∈l,f x<=g x)->(l.map f).sum<=(l.map g).sum
 | [],_=>by simp
 | x::l,h=>by
   have h1:=h x (qhZ ..)
   have h2:=zHj (l:=l) fun y hy=>h y (qiZ _ hy)
   simp only[s1Z,List.sum_cons];omega
def zS6(a:Fnd)(was now:List UInt8):Prop:=now=was\/(a.logs.length≠0/\a.torn=true/\0<=a.good/\a.good<=was.length/\now=was.take a.good.toNat)
theorem zSG{d:DS}{A B:Nat}(hok:d.ok A B)(hs:Sett d)(ha:d.armed=0)(h0:d.steps=0){x:Int}{a:Fnd}(h:d.load x=(a,0)) :
   ∃d1,d.mend a=(d1,0)/\d1.steps<=2/\d1.used<=d.used/\d1.ok (A+2) (B+1)/\d1.list=d.list/\(∀k,zS6 a (d.text k) (d1.text k)):=by
 obtain⟨d1,m1,m2,m3,m4,m5,m6,m7,m8,m9,m10,m11⟩:=zTU hok hs ha h;have hst:=zOb d a;rw[m1]at hst
 have hl:d1.list=d.list:=by unfold DS.list;rw[m2.up,hs.up,m4]
 have hm:∀k,zS6 a (d.text k) (d1.text k):=fun k=>by
   by_cases hc:a.logs.length=0\/a.torn=false
   · exact .inl (m9 hc k)
   · have ht:a.torn=true:=by
       cases hb:a.torn with
       | true=>rfl
       | false=>exact absurd (.inr hb) hc
     obtain⟨t1,t2,t3,t4⟩:=m10 ht;by_cases hk:k=zd a
     · subst hk
       exact .inr ⟨t1,ht,t2,t3,t4⟩
     · exact .inl (m8 k hk)
 refine ⟨d1,m1,by dsimp only at hst;omega,?_,m6,hl,hm⟩
 unfold DS.used;rw[hl]
 refine zHj fun k _=>?_
 rcases hm k with e | ⟨_,_,_,_,e⟩
 · rw[e];omega
 · rw[e,qjZ];omega
theorem zTG{d:DS}(hd:d.down=false){x:Int}(hx:1<=x/\x<=900000000):(d.load x).2=0\/d.load x=(Fnd.no,12):=by
 unfold DS.load;rw[hd];simp only[qsZ,if_false];split
 · exact zEt _ _ _
 · rename_i h
   right;unfold ZL at h ⊢
   rw[if_neg (by omega)]at h ⊢
   split at h
   · exact absurd rfl h
   · rename_i h1
     rw[if_neg h1];split at h
     · exact absurd rfl h
     · rename_i h2
       rw[if_neg h2]
end
end Go.Proofs.YtpmfecnajoojeaaGreatDoor
