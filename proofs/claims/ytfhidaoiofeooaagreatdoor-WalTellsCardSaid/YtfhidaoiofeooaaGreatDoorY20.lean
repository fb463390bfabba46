/- Parts of the proof of WalTells: lemmas, each with its own conditions. -/
import Derived.Shelf.Spec.SlicesInsertGrow
import Derived.Test.YtfhidaoiofeooaaGreatDoorY19
import Derived.Test.YtfhidaoiofeooaaGreatDoorY17
set_option maxHeartbeats 64000000
open List renaming getElem?_eq_some_iff → q1Z, length_cons → q7Z, length_append → qdZ
open Nat renaming le_refl → qnZ
open Bool renaming false_eq_true → qsZ
namespace Go.Proofs.YtfhidaoiofeooaaGreatDoor
open _root_.Go.Proofs.Tryz renaming prog → Pz
set_option maxRecDepth 100000
section
open Go Go.RowKit Go.Lib
end
section
open Go Go.RowKit Go.Lib
attribute [-simp] zH zc zq zK zy
mutual
theorem zUm(g:Nat->Nat):∀x:AV,free x=true->reA g x=x
 | .top,_ | .bool _,_ | .int _ _,_ | .str _,_ | .nilp,_ | .nils,_ | .nilm,_ | .nilf,_=>rfl
 | .ptr ..,h | .slice ..,h | .sl ..,h | .map _,h | .yld _,h=>by simp[free]at h
 | .func f xs ys,h=>by simp at h;simp[zBD g xs h.1,zBD g ys h.2]
 | .agg l,h=>by simp at h;simp[zBD g l h]
 | .tuple l,h=>by simp at h;simp[zBD g l h]
theorem zBD(g:Nat->Nat):∀xs:List AV,zV xs=true->zj g xs=xs
 | [],_=>rfl
 | x::xs,h=>by simp at h;simp[zUm g x h.1,zBD g xs h.2]
end
end
section
open Go
attribute [-simp] zH zc zq zK zy
def asc(l:List En):Prop:=l.Pairwise fun x y=>x.1<y.1
instance (l:List En):Decidable (asc l):=by unfold asc;infer_instance
end
section
open Go Go.RowKit Go.Lib
attribute [-simp] zH zc zq zK zy
def zCx(e:En):En:=(e.1,if e.2.2 then 0 else e.2.1,e.2.2)
end
section
open Go
attribute [-simp] zH zc zq zK zy
theorem zRc(w:List UInt8):okW w=true↔1<=w.length/\w.length<=255:=by simp[okW]
def zDd(c:Nat):Nat:=if c % 8<7 then 97+c % 8 % 3 else c
def zHW(ls:List Nat):List UInt8:=(ls.take 9).map fun c=>UInt8.ofNat (zDd c)
def dE(ls:List Nat)(n:Int)(g:Bool):En:=zCx (if zHW ls=[] then [97] else zHW ls,n,g)
theorem zZr(ls:List Nat)(n:Int)(g:Bool)(hn:okN n=true):okW (dE ls n g).1=true/\okN (dE ls n g).2.1=true/\((dE ls n g).2.2=true->(dE ls n g).2.1=0):=by
 unfold dE zCx;refine ⟨?_,?_,?_⟩
 · rw[zRc]
   dsimp only;split
   · simp
   · rename_i h
     have h1:(zHW ls).length<=9:=by simp[zHW];omega
     have h2:(zHW ls).length≠0:=by simpa using h
     omega
 · dsimp only
   split
   · rfl
   · exact hn
 · dsimp only
   intro h;rw[if_pos h]
theorem zXR(e:En):Ct Pz 262 [.agg (enA e)] [] (.agg (enA (zCx e))) []:=by
 obtain⟨w,n,g⟩:=e;unfold zCx;refine zx hmix zC (n:=0) Tryz.func262 ?_ rfl;unfold Tryz.f262;cases g <;> simp[enA]
def zLB:zJ:=Zt fun | [.agg [.str w,.int .u32 n,.bool g]]=>some (.agg (enA (zCx (w,n,g)))) | _=>none
theorem zPV:Sound Pz 262 zLB:=by
 refine zU (zD Tryz.func262 rfl (by decide)) fun args v h=>?_;split at h <;> cases h
 rename_i w n g;exact⟨zXR (w,n,g),rfl,rfl⟩
end
section
open Go Go.Lib
def okE(e:En):Prop:=okW e.1=true/\okN e.2.1=true/\(e.2.2=true->e.2.1=0)
def frE(e:En):List UInt8:=(Fr.put (zCJ e).1).1
theorem zGZ{e:En}(h:okE e):Fr.ok (zCJ e).1/\(zCJ e).2=0:=by
 obtain⟨w,n,g⟩:=e;obtain⟨h1,h2,_⟩:=h;have h3:=(zRc w).1 h1;simp only[okN,decide_eq_true_eq]at h2;unfold zCJ Fr.ok;dsimp only at h1 ⊢;rw[if_pos h1];split
 · refine ⟨⟨by simp,?_⟩,rfl⟩
   simp;omega
 · refine ⟨⟨by simp,?_⟩,rfl⟩
   have:=Vy.size_bd n.toNat (by omega);simp only[q7Z,qdZ,Vy.enc_length];omega
theorem zYk{e:En}(h:okE e):0<(frE e).length:=by
 have h1:=Fr.put_length _ (zGZ h).1;unfold frE;omega
theorem zQK(e:En):(frE e).length<=313:=Fr.put_le _
theorem zJC(d:DS)(g:DS->DS×Int)(hg:∀d,(g d).1.quota=d.quota):(d.step g).1.quota=d.quota:=by
 unfold DS.step;split
 · simp
 · rw[hg];simp
theorem zLR(d:DS)(k:List UInt8)(g:DS->PF->PF×Int):(d.of k g).1.quota=d.quota:=zJC d _ fun d=>by
 split
 · rfl
 · split
   · rfl
   · rfl
theorem zF1{w:WL}{A B:Nat}(h:w.d.ok A B)(_hq:w.d.quota<=1048576):w.fresh.1.d.ok (A+4) B/\w.fresh.1.d.quota=w.d.quota:=by
 have h1:=DS.ok_create h (wn w.next);have h2:=DS.ok_syncDir h1;have q1:=zGg w.d (wn w.next);have q2:(w.d.create (wn w.next)).1.syncDir.1.quota=w.d.quota:=(zJC _ _ fun _=>rfl).trans q1;unfold WL.fresh;split
 · exact⟨DS.ok_mono h (by omega) (qnZ _),rfl⟩
 split
 · split
   · exact⟨h2,q2⟩
   · exact⟨h2,q2⟩
 · exact⟨DS.ok_mono h1 (by omega) (qnZ _),q1⟩
theorem zKE{w:WL}{A B:Nat}(h:w.d.ok A B)(hq:w.d.quota<=1048576):w.ready.1.d.ok (A+5) B/\w.ready.1.d.quota=w.d.quota:=by
 have h1:=DS.ok_sync h (wn w.file);have q1:(w.d.sync (wn w.file)).1.quota=w.d.quota:=zLR _ _ _;unfold WL.ready;split
 · exact⟨DS.ok_mono (zF1 h hq).1 (by omega) (qnZ _),(zF1 h hq).2⟩
 split
 · split
   · have:=zF1 (w:=⟨(w.d.sync (wn w.file)).1,w.most,w.file,w.next,w.done,w.bad⟩) h1 (by dsimp only;rw[q1];exact hq)
     exact⟨DS.ok_mono this.1 (by omega) (qnZ _),this.2.trans q1⟩
   · exact⟨DS.ok_mono h1 (by omega) (qnZ _),q1⟩
 · exact⟨DS.ok_mono h (by omega) (qnZ _),rfl⟩
theorem zL5{w:WL}{A B:Nat}(h:w.d.ok A B)(hq:w.d.quota<=1048576)(s:List UInt8):(w.add s).1.d.ok (A+6) (B+1048576)/\(w.add s).1.d.quota=w.d.quota:=by
 obtain⟨h1,q1⟩:=zKE h hq;have h2:=DS.ok_append h1 (wn w.ready.1.file) s 1048576 (by decide) (by rw[q1];exact hq);have q2:(w.ready.1.d.append (wn w.ready.1.file) s).1.quota=w.d.quota:=(zLR _ _ _).trans q1;unfold WL.add;split
 · split
   · exact⟨h2,q2⟩
   · exact⟨h2,q2⟩
 · exact⟨DS.ok_mono h1 (by omega) (by omega),q1⟩
theorem zRr:∀(l:List (List UInt8)) {w:WL} {A B:Nat},w.d.ok A B->w.d.quota<=1048576->(w.adds l).1.d.ok (A+6*l.length) (B+1048576*l.length)/\(w.adds l).1.d.quota=w.d.quota
 | [],w,A,B,h,_=>⟨h,rfl⟩
 | s::l,w,A,B,h,hq=>by
   obtain⟨h1,q1⟩:=zL5 h hq s;unfold WL.adds;simp only[q7Z];split
   · obtain⟨h2,q2⟩:=zRr l h1 (by rw[q1];exact hq)
     exact⟨DS.ok_mono h2 (by omega) (by omega),q2.trans q1⟩
   · exact⟨DS.ok_mono h1 (by omega) (by omega),q1⟩
structure RL where
 d:RS
 most:Int
 file:Nat
 next:Nat
 done:Int
 bad:Bool
def RL.fresh(w:RL):RL×Int :=
 if 1000000000<w.next then (w,17) else
 if (w.d.create (wn w.next)).2=0 then
   if (w.d.create (wn w.next)).1.syncDir.2=0 then (⟨(w.d.create (wn w.next)).1.syncDir.1,w.most,w.next,w.next+1,w.done,w.bad⟩,0)
   else (⟨(w.d.create (wn w.next)).1.syncDir.1,w.most,w.file,w.next,w.done,w.bad⟩,(w.d.create (wn w.next)).1.syncDir.2)
 else (⟨(w.d.create (wn w.next)).1,w.most,w.file,w.next,w.done,w.bad⟩,(w.d.create (wn w.next)).2)
def RL.size(w:RL):Int:=if w.file=0 then 0 else (w.d.size (wn w.file)).1
def RL.ready(w:RL):RL×Int :=
 if w.file=0 then w.fresh else
 if w.most<=w.size then
   if (w.d.sync (wn w.file)).2=0 then RL.fresh ⟨(w.d.sync (wn w.file)).1,w.most,w.file,w.next,w.done,w.bad⟩
   else (⟨(w.d.sync (wn w.file)).1,w.most,w.file,w.next,w.done,w.bad⟩,(w.d.sync (wn w.file)).2)
 else (w,0)
def RL.one(w:RL)(s:List UInt8):RL×Int :=
 if w.ready.2=0 then (⟨(w.ready.1.d.append (wn w.ready.1.file) s).1,w.ready.1.most,w.ready.1.file,w.ready.1.next,w.ready.1.done,w.ready.1.bad⟩,(w.ready.1.d.append (wn w.ready.1.file) s).2) else w.ready
def RL.add(w:RL)(s:List UInt8):RL×Int :=
 if (w.one s).2=0 then (⟨(w.one s).1.d,(w.one s).1.most,(w.one s).1.file,(w.one s).1.next,(w.one s).1.done+1,(w.one s).1.bad⟩,0)
 else (⟨(w.one s).1.d,(w.one s).1.most,(w.one s).1.file,(w.one s).1.next,(w.one s).1.done,true⟩,(w.one s).2)
def RL.adds(w:RL):List (List UInt8)->RL×Int
 | []=>(w,0)
 | s::l=>if (w.add s).2=0 then (w.add s).1.adds l else w.add s
def RL.sync(w:RL):RL×Int :=
 if w.bad=true then (w,11) else
 if w.file=0 then (w,0) else (⟨(w.d.sync (wn w.file)).1,w.most,w.file,w.next,w.done,decide ((w.d.sync (wn w.file)).2≠0)⟩,(w.d.sync (wn w.file)).2)
theorem RS.count_down{r:RS}(h:r.count.down=false):r.down=false:=by
 unfold RS.count at h;split at h
 · rename_i hc;exact hc.2
 · exact h
theorem RS.size_sync{r:RS}{k:List UInt8}(h:(r.sync k).2=0):(r.sync k).1.size k=r.size k:=by
 unfold RS.sync RS.of RS.step at h ⊢;split at h
 · cases h
 rename_i hd;have hd:r.count.down=false:=by simpa using hd
 have hd0:=RS.count_down hd;rw[if_neg (by simp[hd])];dsimp only at h ⊢;cases hg:NM.get r.count.dir.now k with
 | none=>rw[hg]at h;cases h
 | some n =>
   rw[hg]at h;dsimp only at h;cases hf:r.count.F[(n-1).toNat]? with
   | none=>rw[hf]at h;cases h
   | some f =>
     have hl:(n-1).toNat<r.F.length:=by have:=(q1Z.1 hf).1;simpa using this
     rw[RS.count_dir]at hg;rw[RS.count_F]at hf;dsimp only;rw[RS.count_F,hf];unfold RS.size;simp only[hd,hd0,RS.count_dir,hg,qsZ,if_false,List.getElem?_set,if_true,hl,hf];rfl
structure RLr (l:RL) (w:WL) (A B:Nat):Prop where
 rd:RD l.d w.d A B
 most:l.most=w.most
 file:l.file=w.file
 next:l.next=w.next
 done:l.done=w.done
 bad:l.bad=w.bad
theorem RLr.mono{l:RL}{w:WL}{A B A' B':Nat}(h:RLr l w A B)(hA:A<=A')(hB:B<=B'):RLr l w A' B':=⟨h.rd.mono hA hB,h.most,h.file,h.next,h.done,h.bad⟩
theorem RLr.size{l:RL}{w:WL}{A B:Nat}(h:RLr l w A B):l.size=w.size:=by
 unfold RL.size WL.size;rw[h.file,h.rd.size]
theorem RLr.fresh{l:RL}{w:WL}{A B:Nat}(h:RLr l w A B):RLr l.fresh.1 w.fresh.1 (A+4) B/\l.fresh.2=w.fresh.2:=by
 obtain⟨h1,h2⟩:=h.rd.create (wn w.next);obtain⟨h3,h4⟩:=h1.syncDir;unfold RL.fresh WL.fresh;rw[h.next,h2,h4];split
 · exact⟨h.mono (by omega) (qnZ _),rfl⟩
 · split
   · split
     · exact⟨⟨h3.mono (by omega) (qnZ _),h.most,rfl,rfl,h.done,h.bad⟩,rfl⟩
     · exact⟨⟨h3.mono (by omega) (qnZ _),h.most,h.file,rfl,h.done,h.bad⟩,rfl⟩
   · exact⟨⟨h1.mono (by omega) (qnZ _),h.most,h.file,rfl,h.done,h.bad⟩,rfl⟩
theorem RLr.ready{l:RL}{w:WL}{A B:Nat}(h:RLr l w A B):RLr l.ready.1 w.ready.1 (A+5) B/\l.ready.2=w.ready.2:=by
 obtain⟨h1,h2⟩:=h.rd.sync (wn w.file);obtain⟨h3,h4⟩:=h.fresh;have h5:RLr ⟨(l.d.sync (wn w.file)).1,l.most,l.file,l.next,l.done,l.bad⟩ ⟨(w.d.sync (wn w.file)).1,w.most,w.file,w.next,w.done,w.bad⟩ (A+1) B:=⟨h1,h.most,h.file,h.next,h.done,h.bad⟩
 obtain⟨h6,h7⟩:=h5.fresh;unfold RL.ready WL.ready;rw[h.size,h.most,h.file,h2];rw[h.most,h.file]at h6 h7;split
 · exact⟨h3.mono (by omega) (qnZ _),h4⟩
 · split
   · split
     · exact⟨h6,h7⟩
     · rw[h.most,h.file]at h5
       exact⟨h5.mono (by omega) (qnZ _),rfl⟩
   · exact⟨h.mono (by omega) (qnZ _),rfl⟩
theorem WL.fresh_bad(w:WL):w.fresh.1.bad=w.bad:=by
 unfold WL.fresh;split
 · rfl
 · split
   · split <;> rfl
   · rfl
theorem WL.ready_bad(w:WL):w.ready.1.bad=w.bad:=by
 unfold WL.ready;split
 · exact WL.fresh_bad w
 · split
   · split
     · exact WL.fresh_bad _
     · rfl
   · rfl
theorem RLr.add{l:RL}{w:WL}{A B:Nat}(h:RLr l w A B)(hb:w.bad=false)(s:List UInt8)(hq:w.d.quota<=1048576):RLr (l.add s).1 (w.add s).1 (A+6) (B+1048576)/\(l.add s).2=(w.add s).2:=by
 obtain⟨h1,h2⟩:=h.ready;obtain⟨h3,h4⟩:=h1.rd.append (wn w.ready.1.file) s 1048576 (by decide) (by rw[(zKE h.rd.ok hq).2];exact hq);have hb1:l.ready.1.bad=false:=by rw[h1.bad,WL.ready_bad,hb]
 unfold RL.add WL.add RL.one;rw[h2,h1.file];by_cases e:w.ready.2=0
 · rw[if_pos e,if_pos e]
   dsimp only;rw[h4];split
   · exact⟨⟨h3.mono (by omega) (qnZ _),h1.most,rfl,h1.next,by dsimp only;rw[h1.done],hb1⟩,rfl⟩
   · exact⟨⟨h3.mono (by omega) (qnZ _),h1.most,rfl,h1.next,h1.done,rfl⟩,rfl⟩
 · rw[if_neg e,if_neg e,h2,if_neg e]
   exact⟨⟨h1.rd.mono (by omega) (by omega),h1.most,h1.file,h1.next,h1.done,rfl⟩,rfl⟩
theorem WL.add_bad{w:WL}{s:List UInt8}(h:(w.add s).2=0):(w.add s).1.bad=false:=by
 unfold WL.add at h ⊢;split at h
 · rename_i h1
   rw[if_pos h1];split at h
   · rename_i h2;rw[if_pos h2]
   · rename_i h2;exact absurd h h2
 · rename_i h1;exact absurd h h1
theorem RLr.adds:∀(ss:List (List UInt8)) {l:RL} {w:WL} {A B:Nat},RLr l w A B->w.bad=false->(w.d.quota<=1048576)->RLr (l.adds ss).1 (w.adds ss).1 (A+6*ss.length) (B+1048576*ss.length)/\(l.adds ss).2=(w.adds ss).2
 | [],l,w,A,B,h,_,_=>⟨h,rfl⟩
 | s::ss,l,w,A,B,h,hb,hq=>by
   obtain⟨h1,h2⟩:=h.add hb s hq;unfold RL.adds WL.adds;rw[h2];simp only[q7Z];split
   · rename_i he
     obtain⟨h3,h4⟩:=RLr.adds ss h1 (WL.add_bad he) (by rw[(zL5 h.rd.ok hq s).2];exact hq);exact⟨h3.mono (by omega) (by omega),h4⟩
   · exact⟨h1.mono (by omega) (by omega),h2⟩
theorem RLr.sync{l:RL}{w:WL}{A B:Nat}(h:RLr l w A B)(hb:w.bad=false):RLr l.sync.1 w.sync.1 (A+1) B/\l.sync.2=w.sync.2:=by
 obtain⟨h1,h2⟩:=h.rd.sync (wn w.file);unfold RL.sync WL.sync;rw[h.bad,hb,if_neg (by decide),h.file,h2];split
 · exact⟨h.mono (by omega) (qnZ _),rfl⟩
 · exact⟨⟨h1,h.most,rfl,h.next,h.done,rfl⟩,rfl⟩
end
end Go.Proofs.YtfhidaoiofeooaaGreatDoor
