/- Parts of the proof of WalTells: lemmas, each with its own conditions. -/
import Derived.Test.YtfhidaoiofeooaaGreatDoorY15
set_option maxHeartbeats 64000000
open List renaming getElem?_eq_some_iff → q1Z, getD_eq_getElem?_getD → q2Z, getElem?_append_left → q4Z, getElem?_append_right → q5Z, length_cons → q7Z, length_nil → q8Z, cons_append → q9Z, nil_append → qaZ, replicate → qbZ
open Nat renaming le_refl → qnZ, add_sub_cancel_left → s3Z
namespace Go.Proofs.YtfhidaoiofeooaaGreatDoor
open _root_.Go.Proofs.Tryz renaming prog → Pz
set_option maxRecDepth 100000
section
open Go.ChangeShapes Go.WideShapes Go.ChangeAt Go.RowKit
section
variable {H:Type} {enc:TypeId×Value->H} {P:Program} {w:World} {base base':Nat}
def zEU(w:World)(k:Nat)(H:zA)(js:List (Option JB)):Prop :=
 ∀j:Inj,(∀i,i<js.length->j (k+i)=(js[i]?).join)->∀(i:Nat) B q,H[i]? = some B->js[i]? = some (some q)->BRel j w B q
theorem zHT{k:Nat}{H1 H2:zA}{js1 js2:List (Option JB)}(hl:js1.length=H1.length)(h1:zEU w k H1 js1)(h2:zEU w (k+H1.length) H2 js2):zEU w k (H1++H2) (js1++js2):=by
 intro j hj i B q hB hq;have j1:∀i,i<js1.length->j (k+i)=(js1[i]?).join:=fun i hi=>by
   rw[hj i (by simp;omega),q4Z hi]
 have j2:∀i,i<js2.length->j (k+H1.length+i)=(js2[i]?).join:=fun i hi=>by
   rw[show k+H1.length+i=k+(H1.length+i) by omega,hj (H1.length+i) (by simp;omega),q5Z (by omega),hl,s3Z]
 by_cases hi:i<H1.length
 · rw[q4Z hi]at hB
   rw[q4Z (by omega)]at hq;exact h1 j j1 i B q hB hq
 · rw[q5Z (by omega)]at hB
   rw[q5Z (by omega),hl]at hq;exact h2 j j2 _ B q hB hq
theorem zJs{H1 H2:zA}(h1:∀(i:Nat) (B:ABlk),H1[i]? = some B->∃l,B=.cells false l)(h2:∀(i:Nat) (B:ABlk),H2[i]? = some B->∃l,B=.cells false l):∀(i:Nat) (B:ABlk),(H1++H2)[i]? = some B->∃l,B=.cells false l:=by
 intro i B hB;by_cases hi:i<H1.length
 · rw[q4Z hi]at hB
   exact h1 i B hB
 · rw[q5Z (by omega)]at hB
   exact h2 _ B hB
end
end
theorem zRj{P:Program}{f:FuncId}{args args0:List AV}{H H0 H':zA}{v:AV}(hw:Weak H.length args H args0 H0)(h:Ct P f args0 H0 v H'):Ct P f args H v H':=by
 intro j w cargs hR hargs;obtain⟨j',hs,hF'⟩:=hw.step (qnZ _) (Step.refl hR (qnZ _)) hargs;refine (h j' w cargs hs.rel hF').mono ?_;rintro e w' ⟨cv,j2,rfl,h1,h2⟩;exact⟨cv,j2,rfl,h1,hs.trans h2 hs.len⟩
section
open Go Go.Lib
attribute [-simp] zH zc zq zK zy
theorem zT4(x:List (List UInt8×List UInt8))(hx:x.length<=9223372036854775807):Ct Pz 47 [.sl 0 0 x.length 2 false,.sl 1 0 x.length 2 false] [.cells false (flA x),.cells false (flA x)] (.bool true) [.cells false (flA x),.cells false (flA x)]:=by
 refine zE Tryz.func47 rfl ?_;simp only[Tryz.ntmps47,q7Z,q8Z,Nat.reduceAdd,Nat.reduceSub,qbZ,q9Z,qaZ];obtain⟨m,hm⟩:∃m,x.length=m:=⟨_,rfl⟩
 rw[hm]at hx ⊢;refine wS zC (by simp;exact wR) ?_;refine wS zC (by simp;exact wR) ?_;refine Sim.seq (wS zC (by simp;exact wR) ?_);refine Sim.mono (Q:=fun e F' H'=>e=.normal/\Weak 2 F' H' (qbZ 26 .top) [.cells false (flA x),.cells false (flA x)]) ?_ ?_
 · refine Sim.block (Sim.loopW (fun i:Nat=>i<=m) (fun i=>[.sl 0 0 m 2 false,.sl 1 0 m 2 false,.top,.top,.top,.int .i64 i]++qbZ 20 .top) (fun _=>[.cells false (flA x),.cells false (flA x)]) (fun i=>m-i) 0 (by simp) (by simp) ?_ fun i hi=>?_)
   · exact wW [0,1] (by simp[AWb])
   · by_cases hlt:i<m
     · have hltI:(i:Int)<m:=by omega
       have hilt:i<x.length:=by omega
       obtain⟨e,he⟩:∃e,x[i]=e:=⟨_,rfl⟩
       have hg:=zIR x i hilt;rw[he]at hg;have k1:i*2+2<=m*2:=by omega
       have y1:IntKind.i64.wrap ((i:Int)+1)=i+1:=zI (by omega) (by omega);refine wS zC (by simp[hltI];exact wR) ?_;refine Sim.seq (Sim.block ?_);refine wE zC (by simp +decide [hlt,hm,hg,k1];first | exact⟨rfl,rfl,rfl⟩ | exact⟨by kernel_rfl,rfl,rfl,rfl⟩) ?_;dsimp only;refine wE zC (by simp[y1];exact wT) ?_;dsimp only;exact⟨i+1,by omega,wW [0,1] (by simp[AWb]),by omega⟩
     · have hin:i=m:=by omega
       subst hin;refine wE zC (by simp;exact wT) ?_;dsimp only;rw[if_pos rfl];exact⟨by trivial,wW [0,1] (by simp[AWb])⟩
 rintro e F' H' hlen1 ⟨rfl,hwk⟩;dsimp only;refine Sim.weak hwk hlen1 ?_;clear hwk hlen1;simp only[qbZ];refine wE zC (by simp;exact wT) ?_;exact⟨.inr rfl,_,by simp[Tryz.f47] <;> rfl,wW [0,1] (by simp[AWb])⟩
noncomputable def flD(l:List AV):Option (List (List UInt8×List UInt8)):=open Classical in if h:∃x,l=flA x then some h.choose else none
theorem zZL{l:List AV}{x:List (List UInt8×List UInt8)}(h:flD l=some x):l=flA x:=by
 unfold flD at h;split at h
 · rename_i hx
   cases h;exact hx.choose_spec
 · cases h
theorem zSC:∀{x y:List (List UInt8×List UInt8)},flA x=flA y->x=y
 | [],[],_=>rfl
 | [],_::_,h=>by simp[flA]at h
 | _::_,[],h=>by simp[flA]at h
 | (a,b)::x,(c,d)::y,h=>by
   simp only[flA,List.cons.injEq,AV.str.injEq]at h;rw[h.1,h.2.1,zSC h.2.2]
@[simp] theorem zaM(x:List (List UInt8×List UInt8)):flD (flA x)=some x:=by
 unfold flD;have h:∃y,flA x=flA y:=⟨x,rfl⟩
 rw[dif_pos h];exact congrArg some (zSC h.choose_spec).symm
noncomputable def zLo:zJ:=open Classical in fun args H=>match args with
 | [.sl b 0 n 2 _c,.sl b2 0 m 2 _c2]=>match H[b]?,H[b2]? with
   | some (.cells _ l),some (.cells _ l2)=>match flD l with
     | some x=>if n=x.length/\m=x.length/\l2=l/\b≠b2/\x.length<=9223372036854775807 then some (.bool true,H,[]) else none
     | none=>none
   | _,_=>none
 | _=>none
theorem zO1:Sound Pz 47 zLo:=by
 refine ⟨zD Tryz.func47 rfl (by decide),fun args H v H' W hs=>?_,fun args H v H' W hs=>?_⟩ <;> (unfold zLo at hs;split at hs <;> try cases hs) <;> (rename_i b n c b2 m c2;split at hs <;> try cases hs) <;> (rename_i o l o2 l2 hb hb2;split at hs <;> try cases hs) <;> (rename_i x hx;split at hs <;> cases hs;rename_i hk)
 · obtain⟨rfl,rfl,rfl,hne,hl⟩:=hk
   have e:=zZL hx;subst e;have hbl:b<H.length:=(q1Z.1 hb).1;have hbl2:b2<H.length:=(q1Z.1 hb2).1;have:=zP (H:=H) (args:=[.sl b 0 x.length 2 c,.sl b2 0 x.length 2 c2]) (zT4 x hl) [b,b2] (by simp[hne]) ⟨⟨rfl,rfl,rfl,by simp⟩,⟨rfl,rfl,rfl,by simp⟩,trivial⟩ ⟨by rw[q2Z,hb];exact⟨by simp,Z9 _ (zB8 x)⟩,hbl,by rw[q2Z,hb2];exact⟨by simp,Z9 _ (zB8 x)⟩,hbl2,trivial⟩ rfl;simpa[zN,ABlk.own,reA] using this
 · exact⟨qnZ _,fun _ _ _=>rfl⟩
def zHm:List FuncId:=[134,180,135]
theorem zXL:GOk Pz (zAV Pz (zZ []) 0 zHm 3):=zp hmix zC 0 zHm 3
theorem zL1(d:DS)(hd:d.down=true)(k:List UInt8):Ct Pz 83 [.ptr 0 0,.str k] (d.heap []) (.tuple [.int .i64 0,.int .i64 13]) (d.heap []):=by
 have hΓ:=zXL;refine zL Tryz.func83 rfl ?_;simp only[Tryz.ntmps83,q7Z,q8Z,Nat.reduceAdd,Nat.reduceSub,qbZ,q9Z,qaZ];unfold DS.heap DS.cell0;rw[hd];refine wS hΓ (by simp;exact wR) ?_;refine wS hΓ (by simp +decide [zHm,Tryz.f134];exact wR) ?_;refine wE hΓ (by simp +decide [zHm,Tryz.f180,Tryz.f135];exact wT) ?_;exact⟨.inr rfl,by simp[Tryz.f83],by simp⟩
theorem zXH{d f:DS}(h1:d.fd=f.fd)(h4:d.down=f.down):d.list=f.list:=by unfold DS.list;rw[h1,h4]
theorem zW6{d f:DS}(h1:d.fd=f.fd)(h2:d.fs=f.fs)(k:List UInt8):d.text k=f.text k:=by unfold DS.text DS.file;rw[h1,h2]
theorem zVB{d f:DS}(h1:d.fd=f.fd)(h2:d.fs=f.fs)(h4:d.down=f.down):d.files=f.files:=by
 unfold DS.files;rw[zXH h1 h4];exact List.map_congr_left fun k _=>by rw[zW6 h1 h2]
theorem used_eq{d f:DS}(h1:d.fd=f.fd)(h2:d.fs=f.fs)(h4:d.down=f.down):d.used=f.used:=by rw[DS.used_sum,DS.used_sum,zVB h1 h2 h4]
end
section
open Go Go.Lib
def zN8(fs:FS)(l:NM)(k:List UInt8):Option PF:=(NM.get l k).bind (FS.get fs)
theorem zRy{fs:FS}{l:NM}{k:List UInt8}{n:Int}(h:NM.get l k=some n):zN8 fs l k=FS.get fs n:=by unfold zN8;rw[h];rfl
theorem zKm{fs:FS}{l:NM}{k:List UInt8}(h:NM.get l k=none):zN8 fs l k=none:=by unfold zN8;rw[h];rfl
theorem zLL(fd:FD):∀(ks:List (List UInt8)) (st:List Int×FS×List Int) (n:Int) (f:PF),FS.get st.2.1 n=some f->∃f',FS.get (ks.foldl (zAF fd) st).2.1 n=some f'/\∀p:PF->Prop,p f->(∀g a b,p g->p ⟨g.stays a b,[]⟩)->p f'
 | [],st,n,f,h=>⟨f,h,fun p hp _=>hp⟩
 | k::ks,st,n,f,h=>by
   rw[List.foldl_cons];have h4:∃f',FS.get (zAF fd st k).2.1 n=some f'/\∀p:PF->Prop,p f->(∀g a b,p g->p ⟨g.stays a b,[]⟩)->p f':=by
     simp only[zAF];rw[FS.get_upd];split
     · rename_i e
       rw[<-e,h];exact⟨_,rfl,fun p hp hq=>hq _ _ _ hp⟩
     · exact⟨f,h,fun p hp _=>hp⟩
   obtain⟨f1,g1,g2⟩:=h4;obtain⟨f2,g3,g4⟩:=zLL fd ks _ n f1 g1;exact⟨f2,g3,fun p hp hq=>g4 p (g2 p hp hq) hq⟩
theorem zMP{d:DS}{A B:Nat}(hok:d.ok A B)(l:List Int):∃i,i<=d.fd.acts.length/\(d.restart l).fd=⟨Z5 d.fd.d (d.fd.acts.take i),[],d.fd.last⟩/\(d.restart l).down=false/\(d.restart l).quota=d.quota/\(d.restart l).armed=0 /\
   ∀k,(zN8 d.fs (Z5 d.fd.d (d.fd.acts.take i)) k=none/\zN8 (d.restart l).fs (d.restart l).fd.now k=none) \/
     ∃f f',zN8 d.fs (Z5 d.fd.d (d.fd.acts.take i)) k=some f/\zN8 (d.restart l).fs (d.restart l).fd.now k=some f'/\∀p:PF->Prop,p f->(∀g a b,p g->p ⟨g.stays a b,[]⟩)->p f':=by
 have hc:d.fd.clamp (l.headD 0)<=d.fd.acts.length:=by unfold FD.clamp;omega
 refine ⟨d.fd.clamp (l.headD 0),hc,rfl,rfl,rfl,rfl,fun k=>?_⟩;obtain⟨fd,hfd⟩:∃fd,d.fd.survive (l.headD 0)=fd:=⟨_,rfl⟩
 have hnow:Z5 d.fd.d (d.fd.acts.take (d.fd.clamp (l.headD 0)))=fd.now:=by rw[<-hfd];rfl
 obtain⟨r,hr⟩:∃r,zA0 fd l.tail d.fs fd.names=r:=⟨_,rfl⟩
 have hd:d.restart l=⟨fd,zBF r.2.1 r.2.2,d.quota,d.steps,0,false⟩:=by
   unfold DS.restart;rw[hfd,hr]
 rw[hnow,hd];have hhas:=hok.has _ hc;rw[hnow]at hhas;cases hg:NM.get fd.now k with
 | none=>exact .inl ⟨zKm hg,zKm hg⟩
 | some n =>
   obtain⟨f,hf⟩:=FS.get_some.2 (hhas k n hg);obtain⟨f',g1,g2⟩:=zLL fd fd.names (l.tail,d.fs,[]) n f hf;have g1':FS.get r.2.1 n=some f':=by rw[<-hr];exact g1
   have hmem:n∈r.2.2:=by
     rw[<-hr];unfold zA0;rw[zCO];exact .inr ⟨k,FD.names_of hg,by rw[FD.find_get hg]⟩
   exact .inr ⟨f,f',by rw[zRy hg,hf],by rw[zRy hg,zG5 _ _ _ hmem,g1'];rfl,g2⟩
theorem zJh(d:DS)(x:List UInt8)(g:DS->PF->PF×Int):(d.of x g).1.quota=d.quota:=by
 unfold DS.of DS.step;split
 · simp
 · dsimp only
   split
   · simp
   · split <;> simp
theorem zGg(d:DS)(x:List UInt8):(d.create x).1.quota=d.quota:=by
 unfold DS.create DS.step;split
 · simp
 · dsimp only
   split <;> simp
end
end Go.Proofs.YtfhidaoiofeooaaGreatDoor
