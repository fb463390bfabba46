/- Parts of the proof of WalKeeps: lemmas, each with its own conditions. -/
import Derived.Test.YtpmfecnajoojeaaGreatDoorY16
set_option maxHeartbeats 64000000
open List renaming getElem?_eq_some_iff → q1Z, getElem?_eq_getElem → q3Z, getElem?_append_left → q4Z, getElem?_append_right → q5Z, take_of_length_le → q6Z, length_cons → q7Z, length_nil → q8Z, cons_append → q9Z, nil_append → qaZ, replicate → qbZ, mem_append → qxZ, mem_singleton → r1Z, map_append → roZ, map_cons → s1Z
open Nat renaming le_refl → qnZ, add_sub_cancel_left → s3Z
open Bool renaming false_eq_true → qsZ
namespace Go.Proofs.YtpmfecnajoojeaaGreatDoor
open _root_.Go.Proofs.Tryz renaming prog → Pz
set_option maxRecDepth 100000
section
open Go.ChangeShapes Go.WideShapes Go.ChangeAt Go.RowKit
inductive AS where
 | flat (b:Bool) (ts:List CT)
 | rows (ts:List CT)
 deriving DecidableEq
section
variable {H:Type} {enc:TypeId×Value→H} {P:Program} {w:World} {base base':Nat}
def BlksOk(w:World)(k:Nat)(H:AHeap)(js:List (Option JB)):Prop :=
 ∀j:Inj,(∀i,i<js.length→j (k+i)=(js[i]?).join)→∀(i:Nat) B q,H[i]? = some B→js[i]? = some (some q)→BRel j w B q
theorem blks_append{k:Nat}{H1 H2:AHeap}{js1 js2:List (Option JB)}(hl:js1.length=H1.length)(h1:BlksOk w k H1 js1)(h2:BlksOk w (k+H1.length) H2 js2):BlksOk w k (H1++H2) (js1++js2):=by
 intro j hj i B q hB hq
 have j1:∀i,i<js1.length→j (k+i)=(js1[i]?).join:=fun i hi=>by
   rw[hj i (by simp;omega),q4Z hi]
 have j2:∀i,i<js2.length→j (k+H1.length+i)=(js2[i]?).join:=fun i hi=>by
   rw[show k+H1.length+i=k+(H1.length+i) by omega,hj (H1.length+i) (by simp;omega),q5Z (by omega),hl,s3Z]
 by_cases hi:i<H1.length
 · rw[q4Z hi]at hB
   rw[q4Z (by omega)]at hq
   exact h1 j j1 i B q hB hq
 · rw[q5Z (by omega)]at hB
   rw[q5Z (by omega),hl]at hq
   exact h2 j j2 _ B q hB hq
theorem own_append{H1 H2:AHeap}(h1:∀(i:Nat) (B:ABlk),H1[i]? = some B→∃l,B=.cells false l)(h2:∀(i:Nat) (B:ABlk),H2[i]? = some B→∃l,B=.cells false l):∀(i:Nat) (B:ABlk),(H1++H2)[i]? = some B→∃l,B=.cells false l:=by
 intro i B hB;by_cases hi:i<H1.length
 · rw[q4Z hi]at hB
   exact h1 i B hB
 · rw[q5Z (by omega)]at hB
   exact h2 _ B hB
end
end
theorem ct_weak{P:Program}{f:FuncId}{args args0:List AV}{H H0 H':AHeap}{v:AV}(hw:Weak H.length args H args0 H0)(h:Ct P f args0 H0 v H'):Ct P f args H v H':=by
 intro j w cargs hR hargs;obtain⟨j',hs,hF'⟩:=hw.step (qnZ _) (Step.refl hR (qnZ _)) hargs;refine (h j' w cargs hs.rel hF').mono ?_;rintro e w' ⟨cv,j2,rfl,h1,h2⟩;exact⟨cv,j2,rfl,h1,hs.trans h2 hs.len⟩
section
open Go Go.Lib
attribute [-simp] drawOk_eq adraw qrun acode aops
structure DA where
 w:Nat
 a:Nat
 b:Nat
 s:List UInt8
 n:Int
 l:List Int
def szInl:List FuncId:=[114,148,115]
theorem szΓ_ok:GOk Pz (runG Pz (gams []) 0 szInl 3):=gok_run hmix goks_nil 0 szInl 3
theorem size_down_ct(d:DS)(hd:d.down=true)(k:List UInt8):Ct Pz 79 [.ptr 0 0,.str k] (d.heap []) (.tuple [.int .i64 0,.int .i64 13]) (d.heap []):=by
 have hΓ:=szΓ_ok;refine ct_of_simE Tryz.func79 rfl ?_;simp only[Tryz.ntmps79,q7Z,q8Z,Nat.reduceAdd,Nat.reduceSub,qbZ,q9Z,qaZ];unfold DS.heap DS.cell0;rw[hd]
 refine Sim.step hmix hΓ (n:=0) (by simp;exact⟨rfl,rfl⟩) (by simp) ?_
 refine Sim.step hmix hΓ (n:=0) (by simp +decide [szInl,Tryz.f114];exact⟨rfl,rfl⟩) (by simp) ?_
 refine Sim.exec hmix hΓ (n:=0) (by simp +decide [szInl,Tryz.f148,Tryz.f115];exact⟨rfl,rfl,rfl⟩) (by simp) ?_
 exact⟨.inr rfl,by simp[Tryz.f79],by simp⟩
structure Ar (a:Int) (d f:DS):Prop where
 fd:d.fd=f.fd
 fs:d.fs=f.fs
 q1:d.quota=200
 q2:f.quota=200
 fa:f.armed=0
 fw:f.down=false
 da:d.armed=a
 dw:d.down=decide (a=0)
structure StepG (g:DS→DS×Int):Prop where
 same:∀d f,d.fd=f.fd→d.fs=f.fs→d.quota=f.quota→d.down=f.down→(g d).2=(g f).2∧(g d).1.fd=(g f).1.fd∧(g d).1.fs=(g f).1.fs
 rest:∀d,(g d).1.quota=d.quota∧(g d).1.armed=d.armed∧(g d).1.down=d.down
theorem list_eq{d f:DS}(h1:d.fd=f.fd)(h4:d.down=f.down):d.list=f.list:=by unfold DS.list;rw[h1,h4]
theorem text_eq{d f:DS}(h1:d.fd=f.fd)(h2:d.fs=f.fs)(k:List UInt8):d.text k=f.text k:=by unfold DS.text DS.file;rw[h1,h2]
theorem files_eq{d f:DS}(h1:d.fd=f.fd)(h2:d.fs=f.fs)(h4:d.down=f.down):d.files=f.files:=by
 unfold DS.files;rw[list_eq h1 h4]
 exact List.map_congr_left fun k _=>by rw[text_eq h1 h2]
theorem used_eq{d f:DS}(h1:d.fd=f.fd)(h2:d.fs=f.fs)(h4:d.down=f.down):d.used=f.used:=by rw[DS.used_sum,DS.used_sum,files_eq h1 h2 h4]
abbrev KM:=List (List UInt8×List UInt8×Bool)
def KM.get:KM→List UInt8→Option (List UInt8×Bool)
 | [],_=>none
 | e::l,k=>if e.1=k then some e.2 else KM.get l k
def KM.keys(l:KM):List (List UInt8):=l.map (·.1)
def keepsF(s:List UInt8)(f:PF):Prop:=∀i,s <+: (runs f.d (f.acts.take i)).take 10000
def Kept(fd:FD)(fs:FS)(k s:List UInt8):Prop:=∃n f,fd.each (fun l _=>NM.get l k=some n)∧FS.get fs n=some f∧keepsF s f
structure KInv (q A B:Nat) (d:DS) (m:KM):Prop where
 ok:d.ok A B
 up:d.down=false
 arm:d.armed=0
 quota:d.quota=q
 nd:(KM.keys m).Nodup
 kept:∀k s,KM.get m k=some (s,false)→Kept d.fd d.fs k s
theorem PF.now_add(f:PF)(m:List UInt8):(f.add m).now=f.now++m:=by
 unfold PF.add;split
 · rename_i h;simp[h]
 · simp[PF.now,runs_append,runs,FAct.run]
end
section
open Go Go.Lib
def cont(fs:FS)(l:NM)(k:List UInt8):Option PF:=(NM.get l k).bind (FS.get fs)
theorem cont_get{fs:FS}{l:NM}{k:List UInt8}{f:PF}(h:cont fs l k=some f):∃n,NM.get l k=some n∧FS.get fs n=some f:=by
 unfold cont at h
 cases hg:NM.get l k with
 | none=>rw[hg]at h;cases h
 | some n=>rw[hg]at h;exact⟨n,rfl,h⟩
theorem cont_of{fs:FS}{l:NM}{k:List UInt8}{n:Int}(h:NM.get l k=some n):cont fs l k=FS.get fs n:=by unfold cont;rw[h];rfl
theorem cont_none{fs:FS}{l:NM}{k:List UInt8}(h:NM.get l k=none):cont fs l k=none:=by unfold cont;rw[h];rfl
theorem DS.step_cases{d:DS}(_hd:d.down=false)(g:DS→DS×Int) :
   (∃d0:DS,d.step g=(d0,13)∧d0.fd=d.fd∧d0.fs=d.fs∧d0.quota=d.quota∧d0.down=true)∨(∃d0:DS,d.step g=g d0∧d0.fd=d.fd∧d0.fs=d.fs∧d0.quota=d.quota∧d0.down=false):=by
 unfold DS.step
 cases h:d.count.down with
 | true=>exact .inl ⟨d.count,by simp,by simp,by simp,by simp,h⟩
 | false=>exact .inr ⟨d.count,by simp,by simp,by simp,by simp,h⟩
def Stage(r:DS×Int)(q:Int)(P B:FD→FS→Prop):Prop:=r.1.quota=q∧((r.2=0∧r.1.down=false∧P r.1.fd r.1.fs)∨(r.2=13∧r.1.down=true∧B r.1.fd r.1.fs))
theorem stage_step{d:DS}(hd:d.down=false){P B:FD→FS→Prop}{g:DS→DS×Int}(hB:B d.fd d.fs)
   (hg:∀d0:DS,d0.fd=d.fd→d0.fs=d.fs→d0.quota=d.quota→d0.down=false→∃fd fs,g d0=(⟨fd,fs,d0.quota,d0.steps,d0.armed,d0.down⟩,0)∧P fd fs):Stage (d.step g) d.quota P B:=by
 rcases DS.step_cases hd g with⟨d0,h1,h2,h3,h4,h5⟩ | ⟨d0,h1,h2,h3,h4,h5⟩
 · rw[h1]
   exact⟨h4,.inr ⟨rfl,h5,by dsimp only;rw[h2,h3];exact hB⟩⟩
 · rw[h1]
   obtain⟨fd,fs,h6,h7⟩:=hg d0 h2 h3 h4 h5;rw[h6];exact⟨h4,.inl ⟨rfl,h5,h7⟩⟩
theorem stage_create{d:DS}(hd:d.down=false){P B:FD→FS→Prop}{x:List UInt8}(hm:mayF x)(hx:d.fd.now.get x=none)(hB:B d.fd d.fs)
   (hP:P ⟨d.fd.d,d.fd.acts++[.cre x (d.fd.last+1)],d.fd.last+1⟩ (d.fs++[(d.fd.last+1,⟨[],[]⟩)])):Stage (d.create x) d.quota P B:=by
 refine stage_step hd hB fun d0 h1 h2 h3 h4=>⟨_,_,?_,hP⟩
 rw[h1,h2];unfold FD.create;rw[if_pos hm,hx];rfl
theorem stage_of{d:DS}(hd:d.down=false){P B:FD→FS→Prop}{x:List UInt8}{n:Int}{f f':PF}(hx:d.fd.now.get x=some n)(hf:FS.get d.fs n=some f){g:DS→PF→PF×Int}(hB:B d.fd d.fs)
   (hg:∀d0:DS,d0.fd=d.fd→d0.fs=d.fs→d0.quota=d.quota→d0.down=false→g d0 f=(f',0)) (hP:P d.fd (FS.upd d.fs n fun _=>f')):Stage (d.of x g) d.quota P B:=by
 refine stage_step hd hB fun d0 h1 h2 h3 h4=>⟨_,_,?_,hP⟩
 rw[h1,hx,h2];dsimp only;rw[hf];dsimp only;rw[hg d0 h1 h2 h3 h4]
theorem room_same{d d0:DS}(h1:d0.fd=d.fd)(h2:d0.fs=d.fs)(h3:d0.quota=d.quota)(h4:d0.down=d.down):d0.room=d.room:=by
 unfold DS.room;rw[h3,used_eq h1 h2 h4]
theorem stage_append{d:DS}(hd:d.down=false){P B:FD→FS→Prop}{x:List UInt8}{n:Int}{f:PF}(hx:d.fd.now.get x=some n)(hf:FS.get d.fs n=some f){s:List UInt8}(hs:s.length≤d.room)(hB:B d.fd d.fs)
   (hP:P d.fd (FS.upd d.fs n fun _=>f.add s)):Stage (d.append x s) d.quota P B:=by
 refine stage_of hd hx hf hB (fun d0 h1 h2 h3 h4=>?_) hP
 rw[if_neg];rw[room_same h1 h2 h3 (h4.trans hd.symm)];omega
theorem stage_sync{d:DS}(hd:d.down=false){P B:FD→FS→Prop}{x:List UInt8}{n:Int}{f:PF}(hx:d.fd.now.get x=some n)(hf:FS.get d.fs n=some f)(hB:B d.fd d.fs)
   (hP:P d.fd (FS.upd d.fs n fun _=>⟨f.now,[]⟩)):Stage (d.sync x) d.quota P B:=stage_of hd hx hf hB (fun _ _ _ _ _=>rfl) hP
theorem stage_syncDir{d:DS}(hd:d.down=false){P B:FD→FS→Prop}(hB:B d.fd d.fs)(hP:P ⟨d.fd.now,[],d.fd.last⟩ d.fs):Stage d.syncDir d.quota P B:=by
 refine stage_step hd hB fun d0 h1 h2 h3 h4=>⟨_,_,rfl,?_⟩
 rw[h1,h2]
 have:d.fd.survive d.fd.acts.length=⟨d.fd.now,[],d.fd.last⟩:=by
   unfold FD.survive FD.now
   have:d.fd.clamp d.fd.acts.length=d.fd.acts.length:=by unfold FD.clamp;omega
   rw[this,List.take_length]
 rw[this];exact hP
theorem stay_each(fd:FD):∀(ks:List (List UInt8)) (st:List Int×FS×List Int) (n:Int) (f:PF),FS.get st.2.1 n=some f→∃f',FS.get (ks.foldl (stay1 fd) st).2.1 n=some f'∧∀p:PF→Prop,p f→(∀g a b,p g→p ⟨g.stays a b,[]⟩)→p f'
 | [],st,n,f,h=>⟨f,h,fun p hp _=>hp⟩
 | k::ks,st,n,f,h=>by
   rw[List.foldl_cons]
   have h4:∃f',FS.get (stay1 fd st k).2.1 n=some f'∧∀p:PF→Prop,p f→(∀g a b,p g→p ⟨g.stays a b,[]⟩)→p f':=by
     simp only[stay1];rw[FS.get_upd];split
     · rename_i e
       rw[←e,h]
       exact⟨_,rfl,fun p hp hq=>hq _ _ _ hp⟩
     · exact⟨f,h,fun p hp _=>hp⟩
   obtain⟨f1,g1,g2⟩:=h4;obtain⟨f2,g3,g4⟩:=stay_each fd ks _ n f1 g1
   exact⟨f2,g3,fun p hp hq=>g4 p (g2 p hp hq) hq⟩
theorem restart_cont{d:DS}{A B:Nat}(hok:d.ok A B)(l:List Int):∃i,i≤d.fd.acts.length∧(d.restart l).fd=⟨druns d.fd.d (d.fd.acts.take i),[],d.fd.last⟩∧(d.restart l).down=false∧(d.restart l).quota=d.quota∧(d.restart l).armed=0 ∧
   ∀k,(cont d.fs (druns d.fd.d (d.fd.acts.take i)) k=none∧cont (d.restart l).fs (d.restart l).fd.now k=none) ∨
     ∃f f',cont d.fs (druns d.fd.d (d.fd.acts.take i)) k=some f∧cont (d.restart l).fs (d.restart l).fd.now k=some f'∧∀p:PF→Prop,p f→(∀g a b,p g→p ⟨g.stays a b,[]⟩)→p f':=by
 have hc:d.fd.clamp (l.headD 0)≤d.fd.acts.length:=by unfold FD.clamp;omega
 refine ⟨d.fd.clamp (l.headD 0),hc,rfl,rfl,rfl,rfl,fun k=>?_⟩
 obtain⟨fd,hfd⟩:∃fd,d.fd.survive (l.headD 0)=fd:=⟨_,rfl⟩
 have hnow:druns d.fd.d (d.fd.acts.take (d.fd.clamp (l.headD 0)))=fd.now:=by rw[←hfd];rfl
 obtain⟨r,hr⟩:∃r,stayAll fd l.tail d.fs fd.names=r:=⟨_,rfl⟩
 have hd:d.restart l=⟨fd,thereF r.2.1 r.2.2,d.quota,d.steps,0,false⟩:=by
   unfold DS.restart;rw[hfd,hr]
 rw[hnow,hd];have hhas:=hok.has _ hc;rw[hnow]at hhas
 cases hg:NM.get fd.now k with
 | none=>exact .inl ⟨cont_none hg,cont_none hg⟩
 | some n =>
   obtain⟨f,hf⟩:=FS.get_some.2 (hhas k n hg);obtain⟨f',g1,g2⟩:=stay_each fd fd.names (l.tail,d.fs,[]) n f hf
   have g1':FS.get r.2.1 n=some f':=by rw[←hr];exact g1
   have hmem:n∈r.2.2:=by
     rw[←hr];unfold stayAll;rw[stayAll_mem]
     exact .inr ⟨k,FD.names_of hg,by rw[FD.find_get hg]⟩
   exact .inr ⟨f,f',by rw[cont_of hg,hf],by rw[cont_of hg,get_there _ _ _ hmem,g1'];rfl,g2⟩
theorem PF.stays_settled(s:List UInt8)(a b:Int):(⟨s,[]⟩:PF).stays a b=s:=by
 simp[PF.stays,runs]
theorem readAt_cont{d:DS}(hd:d.down=false){k:List UInt8}{f:PF}{m:Nat}(h:cont d.fs d.fd.now k=some f)(hm:f.now.length≤m):d.readAt k 0 m=(f.now,0):=by
 obtain⟨n,h1,h2⟩:=cont_get h;unfold DS.readAt;rw[hd,h1];simp only[qsZ,if_false];rw[h2];unfold PF.readAt;dsimp only
 rw[if_neg (by omega)]
 simp only[Int.toNat_zero,List.drop_zero,Int.toNat_natCast];rw[q6Z hm]
theorem FS.get_new{l:FS}{m:Int}{f:PF}(h:m∉FS.keys l):FS.get (l++[(m,f)]) m=some f:=by
 rw[FS.get_app,FS.get_none.2 h];exact if_pos rfl
structure Core (fd:FD) (fs:FS):Prop where
 num:fd.numOk
 has:fd.each (hasP fs)
 rng:∀n∈FS.keys fs,n≤fd.last
theorem DS.ok.core{d:DS}{A B:Nat}(h:d.ok A B):Core d.fd d.fs:=⟨h.num,h.has,fun n hn=>(h.rng n hn).2⟩
theorem Core.fresh{fd:FD}{fs:FS}(h:Core fd fs):fd.last+1∉FS.keys fs:=fun hn=>by have:=h.rng _ hn;omega
abbrev fdN(fd:FD)(x:List UInt8):FD:=⟨fd.d,fd.acts++[.cre x (fd.last+1)],fd.last+1⟩
abbrev fsN(fd:FD)(fs:FS)(f:PF):FS:=fs++[(fd.last+1,f)]
theorem now_more(fd:FD)(x:DAct)(n:Int):(⟨fd.d,fd.acts++[x],n⟩:FD).now=x.run fd.now:=by
 unfold FD.now;rw[druns_append];rfl
theorem Core.new{fd:FD}{fs:FS}(h:Core fd fs){x:List UInt8}(hx:fd.now.get x=none)(hm:mayF x)(f:PF):Core (fdN fd x) (fsN fd fs f):=by
 refine ⟨?_,?_,?_⟩
 · have:=FD.numOk_create h.num x
   unfold FD.create at this;rw[if_pos hm,hx]at this;exact this
 · have hk:∀n∈FS.keys fs,n∈FS.keys (fsN fd fs f):=fun n hn=>by simp only[FS.keys,roZ,qxZ]at hn ⊢;exact .inl hn
   refine FD.each_one (each_imp h.has (hasP_mono hk)) (fun _ _ _ _ h=>h) _ rfl rfl (by dsimp only;omega) ?_
   intro k n hn;simp only[DAct.run]at hn;rw[NM.get_put]at hn;split at hn
   · cases hn;simp[FS.keys]
   · exact hk n (FD.each_now h.has k n hn)
 · intro n hn
   simp only[FS.keys,roZ,qxZ,s1Z,List.map_nil,r1Z]at hn;rcases hn with hn | hn
   · have:=h.rng n hn;dsimp only;omega
   · dsimp only;omega
theorem Core.files{fd:FD}{fs gs:FS}(h:Core fd fs)(hk:FS.keys gs=FS.keys fs):Core fd gs:=⟨h.num,each_imp h.has (hasP_mono fun n hn=>by rw[hk];exact hn),fun n hn=>h.rng n (by rw[←hk];exact hn)⟩
def txt(fs:FS)(l:NM)(k:List UInt8):List UInt8:=((cont fs l k).map PF.now).getD []
def usedF(fs:FS)(l:NM):Nat:=(l.keys.map fun k=>(txt fs l k).length).sum
theorem used_F{d:DS}(hd:d.down=false):d.used=usedF d.fs d.fd.now:=by
 have ht:∀k,d.text k=txt d.fs d.fd.now k:=fun k=>by
   unfold DS.text DS.file txt cont
   cases d.fd.now.get k with
   | none=>rfl
   | some n =>
     dsimp only[Option.bind_some]
     cases FS.get d.fs n <;> rfl
 unfold DS.used usedF DS.list;rw[hd];simp only[qsZ,if_false]
 rw[List.map_congr_left (fun k _=>by rw[ht k])]
 unfold FD.names;exact ((sortU_perm _).map _).sum_nat
theorem create_quota(d:DS)(x:List UInt8):(d.create x).1.quota=d.quota:=by
 unfold DS.create DS.step;split
 · simp
 · dsimp only
   split <;> simp
def partO(s:List UInt8)(o:Option PF):Prop:=o=none∨∃f,o=some f∧∀i,runs f.d (f.acts.take i) <+: s
theorem partO_stays{s:List UInt8}(g:PF)(a b:Int)(h:partO s (some g)):partO s (some ⟨g.stays a b,[]⟩):=by
 rcases h with h | ⟨f,e,h⟩
 · cases h
 cases e
 refine .inr ⟨_,rfl,fun i=>?_⟩
 have key:g.stays a b <+: s:=by
   unfold PF.stays;dsimp only;obtain⟨n,hn⟩:∃n,(inI a 0 g.acts.length).toNat=n:=⟨_,rfl⟩;rw[hn]
   cases hg:g.acts[n]? with
   | none=>simpa using h n
   | some y =>
     cases y with
     | cut m=>simpa using h n
     | add m =>
       dsimp only;have hlt:n<g.acts.length:=(q1Z.1 hg).1;have h2:=h (n+1);rw[runs_take _ _ _ hlt]at h2
       have e:g.acts[n]=.add m:=by rw[q3Z hlt]at hg;exact Option.some.inj hg
       rw[e]at h2;simp only[FAct.run]at h2;refine List.IsPrefix.trans ?_ h2;exact (List.prefix_append_right_inj _).2 (List.take_prefix _ _)
 simpa[runs] using key
theorem partO_now{s:List UInt8}{f:PF}(h:partO s (some f)):f.now <+: s:=by
 rcases h with h | ⟨g,e,h⟩
 · cases h
 cases e;have:=h f.acts.length;rw[List.take_length]at this;exact this
end
end Go.Proofs.YtpmfecnajoojeaaGreatDoor
