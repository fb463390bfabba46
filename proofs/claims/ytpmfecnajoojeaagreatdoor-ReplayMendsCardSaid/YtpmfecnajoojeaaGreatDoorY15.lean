/- Parts of the proof of ReplayMends: lemmas, each with its own conditions. -/
import Derived.Test.YtpmfecnajoojeaaGreatDoorY14
import Derived.Test.YtpmfecnajoojeaaGreatDoorY13
set_option maxHeartbeats 64000000
open List renaming getElem?_eq_some_iff → q1Z, getD_eq_getElem?_getD → q2Z, getElem?_append_left → q4Z, take_of_length_le → q6Z, length_cons → q7Z, length_nil → q8Z, cons_append → q9Z, nil_append → qaZ, replicate → qbZ, getElem?_set_ne → qfZ, mem_cons → qwZ, take_append_drop → r6Z, getElem?_cons_succ → r9Z, nodup_cons → rdZ, not_mem_nil → rtZ, set_cons_zero → s9Z
open Nat renaming le_refl → qnZ, zero_add → s8Z
open Option renaming map_some → rhZ
namespace Go.Proofs.YtpmfecnajoojeaaGreatDoor
open _root_.Go.Proofs.Tryz renaming prog → Pz
set_option maxRecDepth 100000
section
open Go Go.Lib
theorem zIx{P:Program}{Γ:Gam}(hΓ:GOk P Γ){ops:Array Oper}(r:Option Nat)(m:Nat){Q:Exit->Act->World->Prop}(l2:List Oper):∀(l:List Oper) (F F':List AV) (H H':zA) (j:Inj) (w:World) (a:Act),
   zl P Γ ops l F H=some (F',H')->R j H w->VRs j F a.tmps.toList->∀ds,a.defers=ds ->
   (∀j' w' a',VRs j' F' a'.tmps.toList->a'.defers=ds->Step H.length j H w j' H' w'->wpListIn (FW r) m P ops Q l2 a' w')->wpListIn (FW r) m P ops Q (l++l2) a w
 | [],F,F',H,H',j,w,a,h,hR,hF,ds,hd,hq=>by
   cases h;exact hq j w a hF hd (Step.refl hR (qnZ _))
 | o::rest,F,F',H,H',j,w,a,h,hR,hF,ds,hd,hq=>by
   unfold zl at h;rw[q9Z];unfold wpListIn;split at h
   · cases h
   · rename_i hw
     rw[Zg hw hF]
     refine ⟨fun _ _=>trivial,?_⟩
     exact zIx hΓ r m l2 rest _ F' H H' j w _ h hR (zBZ hF o.dst ⟨#[],rfl,rfl⟩) ds (by rw[ZY];exact hd) hq
   · rename_i hw
     rw[Zg hw hF];simp only[if_true];split at h
     · cases h
     · rename_i v H1 ho
       refine zH2 hΓ ho hF hR r m fun cv j' w' hv hst=>?_
       have hle:=hst.jle hR (qnZ _)
       refine zIx hΓ r m l2 rest _ F' H1 H' j' w' _ h hst.rel (zBZ (VRs.mono hle _ _ hF) o.dst hv) ds (by rw[ZY];exact hd) fun j2 w2 a2 h1 h2 h3=>?_
       exact hq j2 w2 a2 h1 h2 (hst.trans h3 hst.len)
def SimP(P:Program)(r:Option Nat)(n0:Nat)(ops:Array Oper)(l:List Oper)(F:List AV)(H:zA)(Q:AX->List AV->zA->Prop):Prop :=
 ∀B jb Hb wb j w a m,B<=wb.heap.size->Step n0 jb Hb wb j H w->VRs j F a.tmps.toList->DefOk B w a.defers ->
   wpListIn (FW r) m P ops (fun e a' w'=>∃x F' H' j',e=AX.toExit x/\Q x F' H'/\VRs j' F' a'.tmps.toList/\DefOk B w' a'.defers/\Step n0 jb Hb wb j' H' w') l a w
theorem Sim.plain{P:Program}{r:Option Nat}{n0 k:Nat}{ops:Array Oper}{F:List AV}{H:zA}{Q:AX->List AV->zA->Prop}(hn:n0<=H.length)(h:SimP P r n0 ops ops.toList F H Q):Sim P r n0 (.region k ops false) F H Q:=by
 intro B j w a m hB hR hF hd;exact wpIn_region_list (h B j H w j w a m hB (Step.refl hR hn) hF hd)
theorem SimP.done{P:Program}{r:Option Nat}{n0:Nat}{ops:Array Oper}{F:List AV}{H:zA}{Q:AX->List AV->zA->Prop}(h:Q .normal F H):SimP P r n0 ops [] F H Q :=
 fun _ _ _ _ j _ _ _ _ hs hF hd=>⟨.normal,F,H,j,rfl,h,hF,hd,hs⟩
theorem SimP.many{P:Program}{Γ:Gam}(hΓ:GOk P Γ){r:Option Nat}{n0:Nat}(c:Nat){ops:Array Oper}{l l1 l2:List Oper}{F F':List AV}{H H':zA}{Q:AX->List AV->zA->Prop}(h1:l.take c=l1)(h2:l.drop c=l2)
   (hrun:zFV P Γ ops l1 F H=some (F',H')) (k:SimP P r n0 ops l2 F' H' Q):SimP P r n0 ops l F H Q:=by
 intro B jb Hb wb j w a m hB hs hF hd;rw[zCd]at hrun;rw[<-r6Z c l,h1,h2]
 exact zIx hΓ r m l2 l1 F F' H H' j w a hrun hs.rel hF _ rfl fun j1 w1 a1 g1 g2 g3 =>
   k B jb Hb wb j1 w1 a1 m hB (hs.trans g3 hs.len) g1 (by rw[g2];exact hd.step hs.rel g3)
end
section
open Go Go.Lib
attribute [-simp] zJ zY zn zL zl
def zEi:List FuncId:=[174,225,224]
theorem zLu:GOk Pz (zAL Pz (zv []) 0 zEi 2):=zq hmix zD 0 zEi 2
theorem zQ4(f:FD)(k:List UInt8)(n:Int)(hg:NM.get f.now k=none)(hok:f.acts.length<=1000000) :
   Ct Pz 173 [.ptr 0 0,.str [99,114,101,97,116,101],.func 174 [] [.ptr 1 0,.ptr 2 0]] (.obj true f.blks::[zAv (.int .i64 n),zAv (.str k)]) (.int .i64 0) (.obj true (⟨f.d,f.acts++[.cre k n],f.last⟩:FD).blks::[zAv (.int .i64 n),zAv (.str k)]):=by
 have hΓ:=zLu;simp only[zAv];refine zK Tryz.func173 rfl ?_;simp only[Tryz.ntmps173,q7Z,q8Z,Nat.reduceAdd,Nat.reduceSub,qbZ,q9Z,qaZ]
 refine Sim.aft (Aft.open (b:=0) rfl (by simp) (Aft.done (by simp[ZD]) ?_))
 rw[zBY];simp only[q7Z,q8Z,Nat.reduceAdd,s9Z,q9Z,qaZ]
 obtain⟨R,eR⟩:∃R,ZW (fun i=>3+3+i) 0 f.acts=R:=⟨_,rfl⟩
 simp only[Nat.reduceAdd]at eR;obtain⟨X,eX⟩:∃X,zi f.acts=X:=⟨_,rfl⟩;obtain⟨k0,ek⟩:∃k,f.acts.length=k:=⟨_,rfl⟩;obtain⟨q,eq⟩:∃q,nbD f.acts=q:=⟨_,rfl⟩
 have hR:R.length=k0*2:=by rw[<-eR,<-ek];simp
 have hX:X.length=q:=by rw[<-eX,<-eq,zj]
 rw[eR,eX,ek];rw[ek]at hok
 have b1:(k0+1)*24<=140737488355328:=by omega
 have b2:k0+1<=9223372036854775807:=by omega
 have tR:R.take (k0*2)=R:=q6Z (by omega)
 have hf:=zAJ k f.now 0;rw[hg]at hf;simp only[Option.map_none,s8Z]at hf;have hs:=zHw n hg
 refine Sim.step hmix hΓ (n:=0) (by simp;exact⟨rfl,rfl⟩) (by simp) ?_
 refine Sim.step hmix hΓ (n:=0) (by simp[hX];exact⟨rfl,rfl⟩) (by simp) ?_
 refine Sim.step hmix hΓ (n:=0) (by simp +decide [zBb,Zr,hX,hR,tR,b1,b2];first | exact⟨rfl,rfl⟩ | exact⟨by kernel_rfl,rfl,rfl⟩) (by simp) ?_
 refine Sim.seq (Sim.draw hmix (by simp) ?_)
 refine SimR.many hΓ 6 (by simp[zI];rfl) (by omega) (by kernel_rfl) (by simp +decide [hX];first | exact⟨rfl,rfl⟩ | exact⟨by kernel_rfl,rfl,rfl⟩) ?_
 refine SimR.one hΓ _ rfl (by kernel_rfl) (by simp +decide [hX,zEi,Tryz.f174,hf,hs];exact⟨rfl,rfl⟩) ?_
 refine SimR.done rfl ?_;dsimp only
 refine Sim.aft (Aft.closeFA f (.cre k n) f.last 0 3 4 (q+8) 6 [1,2] (y:=.slice (q+8) 0 (k0+1) 2 false) ?_ ?_ ?_ ?_ ?_ ?_ ?_ ?_ ?_ ?_ (by simp) ?_)
 · rfl
 · simp[AW,ek]
 · rfl
 · exact rfl
 · rw[eR,show q+8=(((((((X.length+2)+1)+1)+1)+1)+1)+1) by omega]
   simp[DAct.fn]
 · intro i B hB
   rw[eX]at hB;have h3:i<X.length:=(q1Z.1 hB).1
   rw[show 6+i=((((((i+1)+1)+1)+1)+1)+1) by omega]
   simp only[r9Z];rw[q4Z h3];exact hB
 · intro i c B h1 h2
   match i,h1,h2 with
   | 0,h1,h2=>cases h1;cases h2;rfl
   | 1,h1,h2=>cases h1;cases h2;rfl
 · rfl
 · simp <;> omega
 · intro c hc
   rw[eq];simp only[qwZ,rtZ,or_false]at hc;omega
 · refine Aft.weak (Fn:=qbZ 39 .top) (Hn:=[.obj true (⟨f.d,f.acts++[.cre k n],f.last⟩:FD).blks,.obj false [.cells true [.int .i64 n]],.obj false [.cells true [.str k]]]) (Weak.mk' [0,1,2] (by decide) (by decide) (zAh _ _ _ rfl) (zT (b:=0) (by simp) _ _ rfl fun i c x h1 h2=>?_)) (by simp) (Aft.done (by simp) ?_)
   · match i,h1,h2 with
     | 0,h1,h2=>cases h1;cases h2;exact .inl ⟨rfl,rfl⟩
     | 1,h1,h2=>cases h1;cases h2;exact .inr ⟨⟨by simp,by simp⟩,⟨rfl,rfl⟩⟩
     | 2,h1,h2=>cases h1;cases h2;exact .inr ⟨⟨by simp,by simp⟩,⟨rfl,rfl⟩⟩
   refine Sim.exec hmix hΓ (n:=0) (by simp;exact⟨rfl,rfl,rfl⟩) (by simp) ?_
   exact⟨.inr rfl,_,by simp[Tryz.f173] <;> rfl,Weak.mk' [0,1,2] (by decide) (by decide) (by simp) (by simp[AWb])⟩
theorem zRg(f:FD)(a b:List UInt8)(n:Int)(hg:NM.get f.now a=some n)(hok:f.acts.length<=1000000) :
   Ct Pz 173 [.ptr 0 0,.str [114,101,110,97,109,101],.func 225 [] [.ptr 1 0,.ptr 2 0,.ptr 3 0]] (.obj true f.blks::[zAv (.str a),zAv (.int .i64 n),zAv (.str b)]) (.int .i64 0) (.obj true (⟨f.d,f.acts++[.ren a b n],f.last⟩:FD).blks::[zAv (.str a),zAv (.int .i64 n),zAv (.str b)]):=by
 have hΓ:=zLu;simp only[zAv];refine zK Tryz.func173 rfl ?_;simp only[Tryz.ntmps173,q7Z,q8Z,Nat.reduceAdd,Nat.reduceSub,qbZ,q9Z,qaZ]
 refine Sim.aft (Aft.open (b:=0) rfl (by simp) (Aft.done (by simp[ZD]) ?_))
 rw[zBY];simp only[q7Z,q8Z,Nat.reduceAdd,s9Z,q9Z,qaZ]
 obtain⟨R,eR⟩:∃R,ZW (fun i=>4+3+i) 0 f.acts=R:=⟨_,rfl⟩
 simp only[Nat.reduceAdd]at eR;obtain⟨X,eX⟩:∃X,zi f.acts=X:=⟨_,rfl⟩;obtain⟨k0,ek⟩:∃k,f.acts.length=k:=⟨_,rfl⟩;obtain⟨q,eq⟩:∃q,nbD f.acts=q:=⟨_,rfl⟩
 have hR:R.length=k0*2:=by rw[<-eR,<-ek];simp
 have hX:X.length=q:=by rw[<-eX,<-eq,zj]
 rw[eR,eX,ek];rw[ek]at hok
 have b1:(k0+1)*24<=140737488355328:=by omega
 have b2:k0+1<=9223372036854775807:=by omega
 have tR:R.take (k0*2)=R:=q6Z (by omega)
 have hf:=zAJ a f.now 0;rw[hg]at hf;simp only[rhZ,s8Z]at hf;have hd:=zFv hg
 refine Sim.step hmix hΓ (n:=0) (by simp;exact⟨rfl,rfl⟩) (by simp) ?_
 refine Sim.step hmix hΓ (n:=0) (by simp[hX];exact⟨rfl,rfl⟩) (by simp) ?_
 refine Sim.step hmix hΓ (n:=0) (by simp +decide [zBb,Zr,hX,hR,tR,b1,b2];first | exact⟨rfl,rfl⟩ | exact⟨by kernel_rfl,rfl,rfl⟩) (by simp) ?_
 refine Sim.seq (Sim.draw hmix (by simp) ?_)
 refine SimR.many hΓ 6 (by simp[zI];rfl) (by omega) (by kernel_rfl) (by simp +decide [hX];first | exact⟨rfl,rfl⟩ | exact⟨by kernel_rfl,rfl,rfl⟩) ?_
 have hf2:=zAJ b (NM.del f.now a) 0
 cases hg2:NM.get (NM.del f.now a) b with
 | none =>
   rw[hg2]at hf2;simp only[Option.map_none,s8Z]at hf2;have hs2:=zHw n hg2
   refine SimR.one hΓ _ rfl (by kernel_rfl) (by simp +decide [hX,zEi,zBc,Tryz.f225,hf,hd,hf2,hs2];exact⟨rfl,rfl⟩) ?_
   refine SimR.done rfl ?_;dsimp only
   refine Sim.aft (Aft.closeFA f (.ren a b n) f.last 0 4 5 (q+9) 7 [1,2,3] (y:=.slice (q+9) 0 (k0+1) 2 false) ?_ ?_ ?_ ?_ ?_ ?_ ?_ ?_ ?_ ?_ (by simp) ?_)
   · rfl
   · simp[AW,ek]
   · rfl
   · exact rfl
   · rw[eR,show q+9=((((((((X.length+2)+1)+1)+1)+1)+1)+1)+1) by omega]
     simp[DAct.fn]
   · intro i B hB
     rw[eX]at hB;have h3:i<X.length:=(q1Z.1 hB).1
     rw[show 7+i=(((((((i+1)+1)+1)+1)+1)+1)+1) by omega]
     simp only[r9Z];rw[q4Z h3];exact hB
   · intro i c B h1 h2
     match i,h1,h2 with
     | 0,h1,h2=>cases h1;cases h2;rfl
     | 1,h1,h2=>cases h1;cases h2;rfl
     | 2,h1,h2=>cases h1;cases h2;rfl
   · rfl
   · simp <;> omega
   · intro c hc
     rw[eq];simp only[qwZ,rtZ,or_false]at hc;omega
   · refine Aft.weak (Fn:=qbZ 39 .top) (Hn:=[.obj true (⟨f.d,f.acts++[.ren a b n],f.last⟩:FD).blks,.obj false [.cells true [.str a]],.obj false [.cells true [.int .i64 n]],.obj false [.cells true [.str b]]]) (Weak.mk' [0,1,2,3] (by decide) (by decide) (zAh _ _ _ rfl) (zT (b:=0) (by simp) _ _ rfl fun i c x h1 h2=>?_)) (by simp) (Aft.done (by simp) ?_)
     · match i,h1,h2 with
       | 0,h1,h2=>cases h1;cases h2;exact .inl ⟨rfl,rfl⟩
       | 1,h1,h2=>cases h1;cases h2;exact .inr ⟨⟨by simp,by simp⟩,⟨rfl,rfl⟩⟩
       | 2,h1,h2=>cases h1;cases h2;exact .inr ⟨⟨by simp,by simp⟩,⟨rfl,rfl⟩⟩
       | 3,h1,h2=>cases h1;cases h2;exact .inr ⟨⟨by simp,by simp⟩,⟨rfl,rfl⟩⟩
     refine Sim.exec hmix hΓ (n:=0) (by simp;exact⟨rfl,rfl,rfl⟩) (by simp) ?_
     exact⟨.inr rfl,_,by simp[Tryz.f173] <;> rfl,Weak.mk' [0,1,2,3] (by decide) (by decide) (by simp) (by simp[AWb])⟩
 | some v =>
   rw[hg2]at hf2;simp only[rhZ,s8Z]at hf2;have hs2:=zIZ (v:=n) hg2
   refine SimR.one hΓ _ rfl (by kernel_rfl) (by simp +decide [hX,zEi,zBc,Tryz.f225,hf,hd,hf2,hs2];exact⟨rfl,rfl⟩) ?_
   refine SimR.done rfl ?_;dsimp only
   refine Sim.aft (Aft.closeFA f (.ren a b n) f.last 0 4 5 (q+9) 7 [1,2,3] (y:=.slice (q+9) 0 (k0+1) 2 false) ?_ ?_ ?_ ?_ ?_ ?_ ?_ ?_ ?_ ?_ (by simp) ?_)
   · rfl
   · simp[AW,ek]
   · rfl
   · exact rfl
   · rw[eR,show q+9=((((((((X.length+2)+1)+1)+1)+1)+1)+1)+1) by omega]
     simp[DAct.fn]
   · intro i B hB
     rw[eX]at hB;have h3:i<X.length:=(q1Z.1 hB).1
     rw[show 7+i=(((((((i+1)+1)+1)+1)+1)+1)+1) by omega]
     simp only[r9Z];rw[q4Z h3];exact hB
   · intro i c B h1 h2
     match i,h1,h2 with
     | 0,h1,h2=>cases h1;cases h2;rfl
     | 1,h1,h2=>cases h1;cases h2;rfl
     | 2,h1,h2=>cases h1;cases h2;rfl
   · rfl
   · simp <;> omega
   · intro c hc
     rw[eq];simp only[qwZ,rtZ,or_false]at hc;omega
   · refine Aft.weak (Fn:=qbZ 39 .top) (Hn:=[.obj true (⟨f.d,f.acts++[.ren a b n],f.last⟩:FD).blks,.obj false [.cells true [.str a]],.obj false [.cells true [.int .i64 n]],.obj false [.cells true [.str b]]]) (Weak.mk' [0,1,2,3] (by decide) (by decide) (zAh _ _ _ rfl) (zT (b:=0) (by simp) _ _ rfl fun i c x h1 h2=>?_)) (by simp) (Aft.done (by simp) ?_)
     · match i,h1,h2 with
       | 0,h1,h2=>cases h1;cases h2;exact .inl ⟨rfl,rfl⟩
       | 1,h1,h2=>cases h1;cases h2;exact .inr ⟨⟨by simp,by simp⟩,⟨rfl,rfl⟩⟩
       | 2,h1,h2=>cases h1;cases h2;exact .inr ⟨⟨by simp,by simp⟩,⟨rfl,rfl⟩⟩
       | 3,h1,h2=>cases h1;cases h2;exact .inr ⟨⟨by simp,by simp⟩,⟨rfl,rfl⟩⟩
     refine Sim.exec hmix hΓ (n:=0) (by simp;exact⟨rfl,rfl,rfl⟩) (by simp) ?_
     exact⟨.inr rfl,_,by simp[Tryz.f173] <;> rfl,Weak.mk' [0,1,2,3] (by decide) (by decide) (by simp) (by simp[AWb])⟩
theorem zRf(f:FD)(k:List UInt8)(n:Int)(hg:NM.get f.now k=some n)(hok:f.acts.length<=1000000) :
   Ct Pz 173 [.ptr 0 0,.str [114,101,109,111,118,101],.func 224 [] [.ptr 1 0]] (.obj true f.blks::[zAv (.str k)]) (.int .i64 0) (.obj true (⟨f.d,f.acts++[.rem k],f.last⟩:FD).blks::[zAv (.str k)]):=by
 have hΓ:=zLu;simp only[zAv];refine zK Tryz.func173 rfl ?_;simp only[Tryz.ntmps173,q7Z,q8Z,Nat.reduceAdd,Nat.reduceSub,qbZ,q9Z,qaZ]
 refine Sim.aft (Aft.open (b:=0) rfl (by simp) (Aft.done (by simp[ZD]) ?_))
 rw[zBY];simp only[q7Z,q8Z,Nat.reduceAdd,s9Z,q9Z,qaZ]
 obtain⟨R,eR⟩:∃R,ZW (fun i=>2+3+i) 0 f.acts=R:=⟨_,rfl⟩
 simp only[Nat.reduceAdd]at eR;obtain⟨X,eX⟩:∃X,zi f.acts=X:=⟨_,rfl⟩;obtain⟨k0,ek⟩:∃k,f.acts.length=k:=⟨_,rfl⟩;obtain⟨q,eq⟩:∃q,nbD f.acts=q:=⟨_,rfl⟩
 have hR:R.length=k0*2:=by rw[<-eR,<-ek];simp
 have hX:X.length=q:=by rw[<-eX,<-eq,zj]
 rw[eR,eX,ek];rw[ek]at hok
 have b1:(k0+1)*24<=140737488355328:=by omega
 have b2:k0+1<=9223372036854775807:=by omega
 have tR:R.take (k0*2)=R:=q6Z (by omega)
 have hf:=zAJ k f.now 0;rw[hg]at hf;simp only[rhZ,s8Z]at hf;have hd:=zFv hg
 refine Sim.step hmix hΓ (n:=0) (by simp;exact⟨rfl,rfl⟩) (by simp) ?_
 refine Sim.step hmix hΓ (n:=0) (by simp[hX];exact⟨rfl,rfl⟩) (by simp) ?_
 refine Sim.step hmix hΓ (n:=0) (by simp +decide [zBb,Zr,hX,hR,tR,b1,b2];first | exact⟨rfl,rfl⟩ | exact⟨by kernel_rfl,rfl,rfl⟩) (by simp) ?_
 refine Sim.seq (Sim.draw hmix (by simp) ?_)
 refine SimR.many hΓ 6 (by simp[zI];rfl) (by omega) (by kernel_rfl) (by simp +decide [hX];first | exact⟨rfl,rfl⟩ | exact⟨by kernel_rfl,rfl,rfl⟩) ?_
 refine SimR.one hΓ _ rfl (by kernel_rfl) (by simp +decide [hX,zEi,zBc,Tryz.f224,hf,hd];exact⟨rfl,rfl⟩) ?_
 refine SimR.done rfl ?_;dsimp only
 refine Sim.aft (Aft.closeFA f (.rem k) f.last 0 2 3 (q+7) 5 [1] (y:=.slice (q+7) 0 (k0+1) 2 false) ?_ ?_ ?_ ?_ ?_ ?_ ?_ ?_ ?_ ?_ (by simp) ?_)
 · rfl
 · simp[AW,ek]
 · rfl
 · exact rfl
 · rw[eR,show q+7=((((((X.length+2)+1)+1)+1)+1)+1) by omega]
   simp[DAct.fn]
 · intro i B hB
   rw[eX]at hB;have h3:i<X.length:=(q1Z.1 hB).1
   rw[show 5+i=(((((i+1)+1)+1)+1)+1) by omega]
   simp only[r9Z];rw[q4Z h3];exact hB
 · intro i c B h1 h2
   match i,h1,h2 with
   | 0,h1,h2=>cases h1;cases h2;rfl
 · rfl
 · simp <;> omega
 · intro c hc
   rw[eq];simp only[qwZ,rtZ,or_false]at hc;omega
 · refine Aft.weak (Fn:=qbZ 39 .top) (Hn:=[.obj true (⟨f.d,f.acts++[.rem k],f.last⟩:FD).blks,.obj false [.cells true [.str k]]]) (Weak.mk' [0,1] (by decide) (by decide) (zAh _ _ _ rfl) (zT (b:=0) (by simp) _ _ rfl fun i c x h1 h2=>?_)) (by simp) (Aft.done (by simp) ?_)
   · match i,h1,h2 with
     | 0,h1,h2=>cases h1;cases h2;exact .inl ⟨rfl,rfl⟩
     | 1,h1,h2=>cases h1;cases h2;exact .inr ⟨⟨by simp,by simp⟩,⟨rfl,rfl⟩⟩
   refine Sim.exec hmix hΓ (n:=0) (by simp;exact⟨rfl,rfl,rfl⟩) (by simp) ?_
   exact⟨.inr rfl,_,by simp[Tryz.f173] <;> rfl,Weak.mk' [0,1] (by decide) (by decide) (by simp) (by simp[AWb])⟩
end
section
open Go Go.Lib
attribute [-simp] zJ zY zn zL zl
theorem Aft.closeFS{n0:Nat}{F:List AV}{H:zA}{K:List AV->zA->Prop}(f:FD)(b L:Nat)
   (hb:H[b]? = some (.cells true [.map L,.map (L+1),.sl (L+2) 0 f.acts.length 2 false,.int .i64 f.last]))
   (h1:H[L]? = some (.map (zW f.d))) (h2:H[L+1]? = some (.map (zW f.now))) (hr:H[L+2]? = some (.cells true (ZW (fun i=>L+3+i) 0 f.acts)))
   (hX:∀(i:Nat) (B:ABlk),(zi f.acts)[i]? = some B->H[L+3+i]? = some B) (hbL:b<L) (hn:n0<=H.length) (h:Aft n0 F (zy H b [L,L+1,L+2] true f.blks) K):Aft n0 F H K:=by
 refine Aft.closeFD f b L (L+1) (L+2) (List.range' (L+3) (nbD f.acts)) (fun i=>L+3+i) (x:=.sl (L+2) 0 f.acts.length 2 false) (o:=true) hb ?_ h1 h2 (fun _=>hr) (by simp) ?_ ?_ ?_ hn h
 · simp[AW]
 · intro i hi
   rw[List.getElem?_range' hi];simp
 · intro i k B e1 e2
   have hi:i<nbD f.acts:=by rw[<-zj];exact (q1Z.1 e2).1
   rw[List.getElem?_range' hi]at e1;simp only[Nat.one_mul,Option.some.injEq]at e1;subst e1;exact hX i B e2
 · simp only[rdZ,qwZ,List.mem_range'_1,not_or]
   exact⟨by omega,by omega,by omega,by omega,List.nodup_range'⟩
def zU2:List UInt8:=[99,114,101,97,116,101]
def zXx:List UInt8:=[114,101,110,97,109,101]
def zXt:List UInt8:=[114,101,109,111,118,101]
def zFx(H:zA)(c:Nat):Option AV:=match H[c]? with
 | some (.obj false [.cells true [x]])=>some x
 | _=>none
theorem zCf{H:zA}{c:Nat}{x:AV}(h:zFx H c=some x):H[c]? = some (zAv x):=by
 unfold zFx at h;split at h
 · rename_i hc
   cases h;exact hc
 · cases h
noncomputable section
open Classical
def doS:zc:=fun args H=>match args with
 | [.ptr b 0,.str w,.func F [] [.ptr c1 0]]=>match H[b]?,zFx H c1 with
   | some (.obj true sub),some (.str k)=>match zFe sub with
     | some f=>if F=224/\w=zXt/\(∃n,NM.get f.now k=some n)/\f.acts.length<=1000000/\b≠c1 then some (.int .i64 0,H.set b (.obj true (⟨f.d,f.acts++[.rem k],f.last⟩:FD).blks),[b]) else none
     | none=>none
   | _,_=>none
 | [.ptr b 0,.str w,.func F [] [.ptr c1 0,.ptr c2 0]]=>match H[b]?,zFx H c1,zFx H c2 with
   | some (.obj true sub),some (.int .i64 n),some (.str k)=>match zFe sub with
     | some f=>if F=174/\w=zU2/\NM.get f.now k=none/\f.acts.length<=1000000/\b≠c1/\b≠c2/\c1≠c2 then some (.int .i64 0,H.set b (.obj true (⟨f.d,f.acts++[.cre k n],f.last⟩:FD).blks),[b]) else none
     | none=>none
   | _,_,_=>none
 | [.ptr b 0,.str w,.func F [] [.ptr c1 0,.ptr c2 0,.ptr c3 0]]=>match H[b]?,zFx H c1,zFx H c2,zFx H c3 with
   | some (.obj true sub),some (.str x),some (.int .i64 n),some (.str y)=>match zFe sub with
     | some f=>if F=225/\w=zXx/\NM.get f.now x=some n/\f.acts.length<=1000000/\b≠c1/\b≠c2/\b≠c3/\c1≠c2/\c1≠c3/\c2≠c3 then some (.int .i64 0,H.set b (.obj true (⟨f.d,f.acts++[.ren x y n],f.last⟩:FD).blks),[b]) else none
     | none=>none
   | _,_,_,_=>none
 | _=>none
theorem zSR:Sound Pz 173 doS:=by
 have key:∀args H v H' W,doS args H=some (v,H',W)->∃b B,W=[b]/\H'=H.set b B/\Ct Pz 173 args H v H':=by
   intro args H v H' W hs;unfold doS at hs;split at hs
   · rename_i b w F c1
     split at hs <;> try cases hs
     rename_i sub k hb hc1
     split at hs <;> try cases hs
     rename_i f hf
     split at hs <;> cases hs
     rename_i hc;obtain⟨rfl,rfl,⟨n,hg⟩,hk,hn1⟩:=hc;have e:=zBF hf;subst e;have q1:=zCf hc1;have hbl:b<H.length:=(q1Z.1 hb).1;have l1:c1<H.length:=(q1Z.1 q1).1;refine ⟨b,_,rfl,rfl,?_⟩
     have:=ZE (H:=H) (args:=[.ptr b 0,.str zXt,.func 224 [] [.ptr c1 0]]) (zRf f k n hg hk) [b,c1] (by simp[hn1]) ⟨⟨rfl,rfl⟩,rfl,⟨rfl,trivial,⟨rfl,rfl⟩,trivial⟩,trivial⟩
       ⟨by rw[q2Z,hb];exact⟨rfl,rfl⟩,hbl,by rw[q2Z,q1];exact⟨rfl,rfl⟩,l1,trivial⟩ rfl
     simpa[zf,ABlk.own,reB,reA,zAv] using this
   · rename_i b w F c1 c2
     split at hs <;> try cases hs
     rename_i sub n k hb hc1 hc2
     split at hs <;> try cases hs
     rename_i f hf
     split at hs <;> cases hs
     rename_i hc;obtain⟨rfl,rfl,hg,hk,hn1,hn2,hn3⟩:=hc;have e:=zBF hf;subst e;have q1:=zCf hc1;have q2:=zCf hc2;have hbl:b<H.length:=(q1Z.1 hb).1;have l1:c1<H.length:=(q1Z.1 q1).1;have l2:c2<H.length:=(q1Z.1 q2).1;refine ⟨b,_,rfl,rfl,?_⟩
     have:=ZE (H:=H) (args:=[.ptr b 0,.str zU2,.func 174 [] [.ptr c1 0,.ptr c2 0]]) (zQ4 f k n hg hk) [b,c1,c2] (by simp[hn1,hn2,hn3]) ⟨⟨rfl,rfl⟩,rfl,⟨rfl,trivial,⟨rfl,rfl⟩,⟨rfl,rfl⟩,trivial⟩,trivial⟩
       ⟨by rw[q2Z,hb];exact⟨rfl,rfl⟩,hbl,by rw[q2Z,q1];exact⟨rfl,rfl⟩,l1,by rw[q2Z,q2];exact⟨rfl,rfl⟩,l2,trivial⟩ rfl
     simpa[zf,ABlk.own,reB,reA,zAv] using this
   · rename_i b w F c1 c2 c3
     split at hs <;> try cases hs
     rename_i sub x n y hb hc1 hc2 hc3
     split at hs <;> try cases hs
     rename_i f hf
     split at hs <;> cases hs
     rename_i hc;obtain⟨rfl,rfl,hg,hk,hn1,hn2,hn3,hn4,hn5,hn6⟩:=hc;have e:=zBF hf;subst e;have q1:=zCf hc1;have q2:=zCf hc2;have q3:=zCf hc3;have hbl:b<H.length:=(q1Z.1 hb).1;have l1:c1<H.length:=(q1Z.1 q1).1;have l2:c2<H.length:=(q1Z.1 q2).1;have l3:c3<H.length:=(q1Z.1 q3).1;refine ⟨b,_,rfl,rfl,?_⟩
     have:=ZE (H:=H) (args:=[.ptr b 0,.str zXx,.func 225 [] [.ptr c1 0,.ptr c2 0,.ptr c3 0]]) (zRg f x y n hg hk) [b,c1,c2,c3] (by simp[hn1,hn2,hn3,hn4,hn5,hn6]) ⟨⟨rfl,rfl⟩,rfl,⟨rfl,trivial,⟨rfl,rfl⟩,⟨rfl,rfl⟩,⟨rfl,rfl⟩,trivial⟩,trivial⟩
       ⟨by rw[q2Z,hb];exact⟨rfl,rfl⟩,hbl,by rw[q2Z,q1];exact⟨rfl,rfl⟩,l1,by rw[q2Z,q2];exact⟨rfl,rfl⟩,l2,by rw[q2Z,q3];exact⟨rfl,rfl⟩,l3,trivial⟩ rfl
     simpa[zf,ABlk.own,reB,reA,zAv] using this
   · cases hs
 refine ⟨zH Tryz.func173 rfl (by decide),fun args H v H' W hs=>?_,fun args H v H' W hs=>?_⟩
 · obtain⟨b,B,rfl,rfl,h⟩:=key args H v H' W hs
   exact h
 · obtain⟨b,B,rfl,rfl,h⟩:=key args H v H' W hs
   refine ⟨by simp,fun c hc hn=>?_⟩
   rw[qfZ (fun e=>hn (by simp[e]))]
end
def zMD:List FuncId:=[172]
noncomputable def zWF:Gam:=zv [(173,doS)]
theorem zVW:GOk Pz (zAL Pz zWF 0 zMD 2):=zq hmix (zC zSR zD) 0 zMD 2
end
end Go.Proofs.YtpmfecnajoojeaaGreatDoor
