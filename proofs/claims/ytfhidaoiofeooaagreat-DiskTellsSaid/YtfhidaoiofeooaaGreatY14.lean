/- Parts of the proof of DiskTells: lemmas, each with its own conditions. -/
import Derived.Test.YtfhidaoiofeooaaGreatY13
set_option maxHeartbeats 64000000
open List renaming getElem?_eq_some_iff → q1Z, getD_eq_getElem?_getD → q2Z, getElem?_eq_getElem → q3Z, getElem?_append_left → q4Z, getElem?_append_right → q5Z, take_of_length_le → q6Z, length_cons → q7Z, length_nil → q8Z, cons_append → q9Z, nil_append → qaZ, replicate → qbZ, mem_of_getElem? → qcZ, length_append → qdZ, append_assoc → qeZ, mem_cons_self → qhZ, mem_cons_of_mem → qiZ, length_take → qjZ, mem_cons → qwZ, getElem?_map → qzZ, append_nil → r2Z, getElem_mem → r3Z, getElem?_cons_succ → r9Z, getElem?_cons_zero → raZ, nodup_cons → rdZ, mem_map → reZ, getElem?_range → rfZ, map_cons → s1Z, getElem?_eq_none → s4Z, set_cons_zero → s9Z, set_cons_succ → saZ
open Option renaming map_eq_some_iff → qlZ, map_some → rhZ
open Nat renaming le_refl → qnZ, lt_or_ge → s2Z, add_sub_cancel_left → s3Z, zero_add → s8Z
open Bool renaming and_eq_true → qrZ, false_eq_true → qsZ
open Array renaming length_toList → rjZ, toList_append → rxZ
namespace Go.Proofs.YtfhidaoiofeooaaGreat
open _root_.Go.Proofs.Tryz renaming prog → Pz
set_option maxRecDepth 100000
section
open Go Go.Lib
attribute [-simp] zN zr ZI zT ZL
def hqT(P:Program)(Γ:Gam)(V:Array Oper):List Oper->List AV->zA->List QF->Option (List QF×List AV×zA)
 | [],F,H,fs=>some (fs,F,H)
 | o::rest,F,H,fs =>
   match Z8 P Γ V F H o with
   | none=>none
   | some q=>hqT P Γ V rest (ZW F o.dst q.v) q.H (fs++[q.fl])
theorem zQO(P:Program)(Γ:Gam)(V:Array Oper)(k:List AV->zA->List QF->Option (List AV×zA)):∀(l:List Oper) (F:List AV) (H:zA) (fs fs':List QF) (F1:List AV) (H1:zA),hqT P Γ V l F H fs=some (fs',F1,H1)->hrun P Γ V k l F H fs=k F1 H1 fs'
 | [],F,H,fs,fs',F1,H1,h=>by cases h;rfl
 | o::rest,F,H,fs,fs',F1,H1,h=>by
   unfold hqT at h;unfold hrun
   cases hq:Z8 P Γ V F H o with
   | none=>rw[hq]at h;cases h
   | some q=>rw[hq]at h;exact zQO P Γ V k rest _ _ _ _ _ _ h
noncomputable def hqO:Program->Gam->Array Oper->List Oper->List AV->zA->List QF->Option (List QF×List AV×zA):=Classical.choose (⟨hqT,rfl⟩:∃f,f=hqT)
theorem zKw:hqO=hqT:=Classical.choose_spec (⟨hqT,rfl⟩:∃f,f=hqT)
@[simp] theorem zXE(P:Program)(Γ:Gam)(V:Array Oper)(F:List AV)(H:zA)(fs:List QF):hqO P Γ V [] F H fs=some (fs,F,H):=by rw[zKw];rfl
@[simp] theorem zW9(P:Program)(Γ:Gam)(V:Array Oper)(o:Oper)(rest:List Oper)(F:List AV)(H:zA)(fs:List QF):hqO P Γ V (o::rest) F H fs =
   match Z8 P Γ V F H o with
   | none=>none
   | some q=>hqO P Γ V rest (ZW F o.dst q.v) q.H (fs++[q.fl]):=by
 rw[zKw];rfl
theorem SimR.hard{P:Program}{Γ:Gam}(hΓ:GOk P Γ){r:Option Nat}{n0 c:Nat}(h p:Nat){ops:Array Oper}{F F1 F2:List AV}{H H1 H':zA}{fs:List QF}{v:AV}{Q:AX->List AV->zA->Prop}(o:Oper)(ho:ops[h]? = some o){A:Array Oper}(hA:zI ops c h=A)(hch:c<=h)
   (hb:(zFJ ops.toList&&zMK ops.toList (Z5 ops.toList) (h+1))=true) (hp:(Z5 ops.toList).getD h 0=p) (hq:hqO P Γ A A.toList F H []=some (fs,F1,H1))
   (hchk:((ops.toList.take h).all (fun o=>match o.guard with | some (j,_)=>Nat.blt j h | none=>true)&&(fs.all (fun q=>q.st.isNone)&&zEf A fs))=true)
   (hF2:zBL A p (List.range h) F1=F2) (hrun:zAI ops o F2=some true/\opA P Γ F2 H1 o.op=some (v,H')) (hok:zFT A p o.dst fs H1 H' h=true) (k:SimR P r n0 ops (h+1) (ZW F1 o.dst v) H' Q):SimR P r n0 ops c F H Q:=by
 intro B jb Hb wb j w a m hB hs hF hd;rw[qrZ]at hb;subst hA;rw[zKw]at hq
 have hrn:zF5 P Γ ops c h F H=some (ZW F1 o.dst v,H'):=by
   unfold zF5;rw[ho];dsimp only;rw[Zd,hp,zQO _ _ _ _ _ _ _ _ _ _ _ hq];refine (if_pos hchk).trans ?_;rw[hF2,hrun.1];dsimp only;rw[hrun.2];dsimp only;rw[if_pos hok]
 exact zQw hΓ hch (zGN hb.2) hrn hs.rel hF rfl r m (fun j1 a1 w1 h1 h2 h3 =>
   k B jb Hb wb j1 w1 a1 m hB (hs.trans h3 hs.len) h1 (by rw[h2];exact hd.step hs.rel h3)) (fun k o e hk ho hee hbe=>by have:=zBS hb.1 k o e ho hee hbe;omega) (fun k o e ho hee hbe=>zBS hb.1 k o e ho hee hbe)
theorem zSL(f:FD)(k:List UInt8)(hok:f.small)(hkl:k.length<=9223372036854775807) :
   Ct Pz 16 [.ptr 0 0,.str k] [.obj true f.blks] (.tuple [.int .i64 (f.create k).2.1,.int .i64 (f.create k).2.2]) [.obj true (f.create k).1.blks]:=by
 have hΓ:=zLN;have hlo:=hok.lo;have hhi:=hok.hi
 have hal:f.acts.length<=1000000:=by have:=hok.len;omega
 refine zG Tryz.func16 rfl ?_;simp only[Tryz.ntmps16,q7Z,q8Z,Nat.reduceAdd,Nat.reduceSub,qbZ,q9Z,qaZ]
 refine Sim.step hmix hΓ (n:=0) (by simp;exact⟨rfl,rfl⟩) (by simp) ?_
 refine Sim.step hmix hΓ (n:=0) (by simp;exact⟨rfl,rfl⟩) (by simp) ?_
 by_cases hm:zHb k;rotate_left
 · have hc:f.create k=(f,0,2):=by unfold FD.create;rw[if_neg hm]
   rw[hc];by_cases h0:k=[]
   · subst h0
     refine Sim.exec hmix hΓ (n:=0) (by simp[zFH,Tryz.f72];exact⟨rfl,rfl,rfl⟩) (by simp) ?_
     exact⟨.inr rfl,_,by simp[Tryz.f16] <;> rfl,Weak.mk' [0] (by decide) (by decide) (by simp) (by simp[AWb])⟩
   · have h1:0<k.length:=List.length_pos_iff.2 h0
     have h2:¬k.length<=64:=fun h=>hm ⟨h1,h⟩
     have h2i:¬(k.length:Int)<=64:=by omega
     have h1i:(0:Int)<k.length:=by omega
     refine Sim.exec hmix hΓ (n:=0) (by simp[zFH,Tryz.f72,h1,h2i];exact⟨rfl,rfl,rfl⟩) (by simp) ?_
     exact⟨.inr rfl,_,by simp[Tryz.f16] <;> rfl,Weak.mk' [0] (by decide) (by decide) (by simp) (by simp[AWb])⟩
 have h1:0<k.length:=hm.1;have h0:¬k=[]:=List.length_pos_iff.1 h1
 have h2i:(k.length:Int)<=64:=by have:=hm.2;omega
 have h1i:(0:Int)<k.length:=by omega
 refine Sim.step hmix hΓ (n:=0) (by simp[zFH,Tryz.f72,h1,h2i];exact⟨rfl,rfl⟩) (by simp) ?_
 refine Sim.aft (Aft.open (b:=0) rfl (by simp) (Aft.done (by simp[zX]) ?_))
 rw[zA9];simp only[q7Z,q8Z,Nat.reduceAdd,s9Z,q9Z,qaZ]
 obtain⟨R,eR⟩:∃R,Zb (fun i=>2+3+i) 0 f.acts=R:=⟨_,rfl⟩
 obtain⟨X,eX⟩:∃X,zg f.acts=X:=⟨_,rfl⟩;obtain⟨k0,ek⟩:∃k,f.acts.length=k:=⟨_,rfl⟩;obtain⟨q,eq⟩:∃q,nbD f.acts=q:=⟨_,rfl⟩
 have hX:X.length=q:=by rw[<-eX,<-eq,zj]
 have hXg:∀(i:Nat) (B:ABlk),(zg f.acts)[i]? = some B->X[i]? = some B:=fun i B h=>by rw[<-eX];exact h
 rw[eR,eX,ek];have hf:=Z3 k f.now 0
 cases hg:NM.get f.now k with
 | some v =>
   have hc:f.create k=(f,0,8):=by unfold FD.create;rw[if_pos hm,hg]
   rw[hg]at hf;simp only[rhZ,s8Z]at hf;rw[hc]
   refine Sim.seq (Sim.step hmix hΓ (n:=0) (by simp +decide [hf];first | exact⟨rfl,rfl⟩ | exact⟨by kernel_rfl,rfl,rfl⟩) (by simp) ?_)
   refine Sim.aft (Aft.closeFS f 0 2 (by rw[ek];rfl) rfl rfl (by rw[eR];rfl) (fun i B hB=>?_) (by decide) (by simp) ?_)
   · rw[show 2+3+i=i+1+1+1+1+1 by omega]
     simp only[r9Z];exact hXg i B hB
   refine Aft.weak (Fn:=[.ptr 0 0,.str k,.top,.ptr 1 0,.int .i64 0,.int .i64 0,.int .i64 v,.bool true]++qbZ 31 .top) (Hn:=[.obj true f.blks,.cells true [.str k]]) (Weak.mk' [0,1] (by decide) (by decide) (by simp) (zJ (b:=0) (by simp) _ _ rfl fun i c x h1 h2=>?_)) (by simp) (Aft.done (by simp) ?_)
   · match i,h1,h2 with
     | 0,h1,h2=>cases h1;cases h2;exact .inl ⟨rfl,rfl⟩
     | 1,h1,h2=>cases h1;cases h2;exact .inr ⟨⟨by decide,by decide⟩,by simp[AWb]⟩
   refine Sim.exec hmix hΓ (n:=0) (by simp;exact⟨rfl,rfl,rfl⟩) (by simp) ?_
   exact⟨.inr rfl,_,by simp[Tryz.f16] <;> rfl,Weak.mk' [0] (by decide) (by decide) (by simp) (by simp[AWb])⟩
 | none =>
   have hc:f.create k=(⟨f.d,f.acts++[.cre k (f.last+1)],f.last+1⟩,f.last+1,0):=by unfold FD.create;rw[if_pos hm,hg]
   rw[hg]at hf;simp only[Option.map_none,s8Z]at hf;rw[hc]
   have hw:IntKind.i64.wrap (f.last+1)=f.last+1:=zV (by omega) (by omega)
   obtain⟨n',hn'⟩:∃n,f.last+1=n:=⟨_,rfl⟩;rw[hn']at hw ⊢
   refine Sim.step hmix hΓ (n:=0) (by simp +decide [hf];first | exact⟨rfl,rfl⟩ | exact⟨by kernel_rfl,rfl,rfl⟩) (by simp) ?_
   refine Sim.step hmix hΓ (n:=0) (by simp[hn',hw];exact⟨rfl,rfl⟩) (by simp) ?_
   refine Sim.step hmix hΓ (n:=0) (by simp[hX];exact⟨rfl,rfl⟩) (by simp) ?_
   refine Sim.aft (Aft.closeFS (⟨f.d,f.acts,n'⟩:FD) 0 2 (by simp only[ek];rfl) rfl rfl (by simp only[eR];rfl) (fun i B hB=>?_) (by decide) (by simp) ?_)
   · rw[show 2+3+i=i+1+1+1+1+1 by omega]
     have h3:i<X.length:=(q1Z.1 (hXg i B hB)).1;simp only[r9Z];rw[q4Z h3];exact hXg i B hB
   refine Aft.weak (Fn:=[.ptr 0 0,.str k,.top,.ptr 1 0,.int .i64 0,.int .i64 0,.top,.top,.ptr 2 0]++qbZ 30 .top) (Hn:=[.obj true (⟨f.d,f.acts,n'⟩:FD).blks,.cells true [.str k],.cells true [.int .i64 n']]) (Weak.mk' [0,1,q+5] (by simp) (by simp) (by simp) (zJ (b:=0) (by simp) _ _ rfl fun i c x h1 h2=>?_)) (by simp) ?_
   · match i,h1,h2 with
     | 0,h1,h2=>cases h1;cases h2;exact .inl ⟨rfl,rfl⟩
     | 1,h1,h2=>cases h1;cases h2;exact .inr ⟨⟨by decide,by decide⟩,by simp[AWb]⟩
     | 2,h1,h2 =>
       cases h1;cases h2
       refine .inr ⟨⟨by omega,by simp⟩,?_⟩
       rw[show q+5=(X.length+0)+1+1+1+1+1 by omega]
       simp[AWb]
   refine Aft.freeze 1 (.str k) rfl (fun _=>rfl) (by simp) ?_
   simp only[saZ,s9Z]
   refine Aft.freeze 2 (.int .i64 n') rfl (fun _=>⟨rfl,rfl⟩) (by simp) ?_
   simp only[saZ,s9Z]
   refine Aft.done (by simp) ?_
   have hdo:doS [.ptr 0 0,.str zUj,.func 74 [] [.ptr 2 0,.ptr 1 0]] [.obj true (⟨f.d,f.acts,n'⟩:FD).blks,.obj false [.cells true [.str k]],.obj false [.cells true [.int .i64 n']]]=some (.int .i64 0,[.obj true (⟨f.d,f.acts++[.cre k n'],n'⟩:FD).blks,.obj false [.cells true [.str k]],.obj false [.cells true [.int .i64 n']]],[0]):=by
     simp only[doS,zEO,raZ,r9Z,zGg];have hg':NM.get (⟨f.d,f.acts,n'⟩:FD).now k=none:=hg
     rw[if_pos ⟨trivial,trivial,hg',hal,by decide,by decide,by decide⟩]
     rfl
   refine Sim.seq (Sim.draw hmix (by simp) ?_)
   simp only[zUj]at hdo
   refine SimR.hard hΓ 3 6 _ rfl (by simp[zI];rfl) (by omega) (by kernel_rfl) (by kernel_rfl) (by simp +decide;exact⟨rfl,rfl,rfl⟩) (by kernel_rfl) (by simp +decide [zBL,List.range,List.range.loop];rfl) (by simp +decide [zQM,hdo];exact⟨rfl,rfl⟩) (by simp +decide [zFT,zLh,ZM,List.range,List.range.loop]) ?_
   refine SimR.many hΓ 6 (by simp[zI,zS];rfl) (by omega) (by kernel_rfl) (by simp +decide;first | exact⟨rfl,rfl⟩ | exact⟨by kernel_rfl,rfl,rfl⟩) ?_
   refine SimR.done rfl ?_;dsimp only
   refine Sim.exec hmix hΓ (n:=0) (by simp;exact⟨rfl,rfl,rfl⟩) (by simp) ?_
   exact⟨.inr rfl,_,by simp[Tryz.f16] <;> rfl,Weak.mk' [0] (by decide) (by decide) (by simp) (by simp[AWb])⟩
theorem zR1(f:FD)(k:List UInt8)(hok:f.small) :
   Ct Pz 113 [.ptr 0 0,.str k] [.obj true f.blks] (.int .i64 (f.remove k).2) [.obj true (f.remove k).1.blks]:=by
 have hΓ:=zLN
 have hal:f.acts.length<=1000000:=by have:=hok.len;omega
 refine zG Tryz.func113 rfl ?_;simp only[Tryz.ntmps113,q7Z,q8Z,Nat.reduceAdd,Nat.reduceSub,qbZ,q9Z,qaZ]
 refine Sim.step hmix hΓ (n:=0) (by simp;exact⟨rfl,rfl⟩) (by simp) ?_
 refine Sim.step hmix hΓ (n:=0) (by simp;exact⟨rfl,rfl⟩) (by simp) ?_
 refine Sim.aft (Aft.open (b:=0) rfl (by simp) (Aft.done (by simp[zX]) ?_))
 rw[zA9];simp only[q7Z,q8Z,Nat.reduceAdd,s9Z,q9Z,qaZ]
 obtain⟨R,eR⟩:∃R,Zb (fun i=>2+3+i) 0 f.acts=R:=⟨_,rfl⟩
 obtain⟨X,eX⟩:∃X,zg f.acts=X:=⟨_,rfl⟩;obtain⟨k0,ek⟩:∃k,f.acts.length=k:=⟨_,rfl⟩
 have hXg:∀(i:Nat) (B:ABlk),(zg f.acts)[i]? = some B->X[i]? = some B:=fun i B h=>by rw[<-eX];exact h
 rw[eR,eX,ek];have hf:=Z3 k f.now 0
 cases hg:NM.get f.now k with
 | none =>
   have hc:f.remove k=(f,9):=by unfold FD.remove;rw[hg]
   rw[hg]at hf;simp only[Option.map_none,s8Z]at hf;rw[hc]
   refine Sim.seq (Sim.step hmix hΓ (n:=0) (by simp +decide [hf];first | exact⟨rfl,rfl⟩ | exact⟨by kernel_rfl,rfl,rfl⟩) (by simp) ?_)
   refine Sim.aft (Aft.closeFS f 0 2 (by rw[ek];rfl) rfl rfl (by rw[eR];rfl) (fun i B hB=>?_) (by decide) (by simp) ?_)
   · rw[show 2+3+i=i+1+1+1+1+1 by omega]
     simp only[r9Z];exact hXg i B hB
   refine Aft.weak (Fn:=[.ptr 0 0,.str k,.top,.ptr 1 0,.int .i64 0,.top,.bool false]++qbZ 16 .top) (Hn:=[.obj true f.blks,.cells true [.str k]]) (Weak.mk' [0,1] (by decide) (by decide) (by simp) (zJ (b:=0) (by simp) _ _ rfl fun i c x h1 h2=>?_)) (by simp) (Aft.done (by simp) ?_)
   · match i,h1,h2 with
     | 0,h1,h2=>cases h1;cases h2;exact .inl ⟨rfl,rfl⟩
     | 1,h1,h2=>cases h1;cases h2;exact .inr ⟨⟨by decide,by decide⟩,by simp[AWb]⟩
   refine Sim.exec hmix hΓ (n:=0) (by simp;exact⟨rfl,rfl,rfl⟩) (by simp) ?_
   exact⟨.inr rfl,_,by simp[Tryz.f113] <;> rfl,Weak.mk' [0] (by decide) (by decide) (by simp) (by simp[AWb])⟩
 | some v =>
   have hc:f.remove k=(⟨f.d,f.acts++[.rem k],f.last⟩,0):=by unfold FD.remove;rw[hg]
   rw[hg]at hf;simp only[rhZ,s8Z]at hf;rw[hc]
   refine Sim.step hmix hΓ (n:=0) (by simp +decide [hf];first | exact⟨rfl,rfl⟩ | exact⟨by kernel_rfl,rfl,rfl⟩) (by simp) ?_
   refine Sim.aft (Aft.closeFS f 0 2 (by rw[ek];rfl) rfl rfl (by rw[eR];rfl) (fun i B hB=>?_) (by decide) (by simp) ?_)
   · rw[show 2+3+i=i+1+1+1+1+1 by omega]
     simp only[r9Z];exact hXg i B hB
   refine Aft.weak (Fn:=[.ptr 0 0,.str k,.top,.ptr 1 0,.int .i64 0]++qbZ 18 .top) (Hn:=[.obj true f.blks,.cells true [.str k]]) (Weak.mk' [0,1] (by decide) (by decide) (by simp) (zJ (b:=0) (by simp) _ _ rfl fun i c x h1 h2=>?_)) (by simp) ?_
   · match i,h1,h2 with
     | 0,h1,h2=>cases h1;cases h2;exact .inl ⟨rfl,rfl⟩
     | 1,h1,h2=>cases h1;cases h2;exact .inr ⟨⟨by decide,by decide⟩,by simp[AWb]⟩
   refine Aft.freeze 1 (.str k) rfl (fun _=>rfl) (by simp) ?_
   simp only[saZ,s9Z]
   refine Aft.done (by simp) ?_
   have hdo:doS [.ptr 0 0,.str zVa,.func 135 [] [.ptr 1 0]] [.obj true f.blks,.obj false [.cells true [.str k]]]=some (.int .i64 0,[.obj true (⟨f.d,f.acts++[.rem k],f.last⟩:FD).blks,.obj false [.cells true [.str k]]],[0]):=by
     simp only[doS,zEO,raZ,r9Z,zGg]
     rw[if_pos ⟨by first | rfl | trivial,by first | rfl | trivial,⟨v,hg⟩,hal,by decide⟩]
     rfl
   simp only[zVa]at hdo
   refine Sim.exec hmix hΓ (n:=0) (by simp[zFH,zQM,hdo];exact⟨rfl,rfl,rfl⟩) (by simp) ?_
   exact⟨.inr rfl,_,by simp[Tryz.f113] <;> rfl,Weak.mk' [0] (by decide) (by decide) (by simp) (by simp[AWb])⟩
theorem zRs(f:FD)(a b:List UInt8)(hok:f.small)(hbl:b.length<=9223372036854775807) :
   Ct Pz 110 [.ptr 0 0,.str a,.str b] [.obj true f.blks] (.int .i64 (f.rename a b).2) [.obj true (f.rename a b).1.blks]:=by
 have hΓ:=zLN
 have hal:f.acts.length<=1000000:=by have:=hok.len;omega
 refine zG Tryz.func110 rfl ?_;simp only[Tryz.ntmps110,q7Z,q8Z,Nat.reduceAdd,Nat.reduceSub,qbZ,q9Z,qaZ]
 refine Sim.step hmix hΓ (n:=0) (by simp;exact⟨rfl,rfl⟩) (by simp) ?_
 refine Sim.step hmix hΓ (n:=0) (by simp;exact⟨rfl,rfl⟩) (by simp) ?_
 by_cases hm:zHb b;rotate_left
 · have hc:f.rename a b=(f,2):=by unfold FD.rename;rw[if_neg hm]
   rw[hc];by_cases h0:b=[]
   · subst h0
     refine Sim.exec hmix hΓ (n:=0) (by simp[zFH,Tryz.f72];exact⟨rfl,rfl,rfl⟩) (by simp) ?_
     exact⟨.inr rfl,_,by simp[Tryz.f110] <;> rfl,Weak.mk' [0] (by decide) (by decide) (by simp) (by simp[AWb])⟩
   · have h1:0<b.length:=List.length_pos_iff.2 h0
     have h2:¬b.length<=64:=fun h=>hm ⟨h1,h⟩
     have h2i:¬(b.length:Int)<=64:=by omega
     have h1i:(0:Int)<b.length:=by omega
     refine Sim.exec hmix hΓ (n:=0) (by simp[zFH,Tryz.f72,h1,h2i];exact⟨rfl,rfl,rfl⟩) (by simp) ?_
     exact⟨.inr rfl,_,by simp[Tryz.f110] <;> rfl,Weak.mk' [0] (by decide) (by decide) (by simp) (by simp[AWb])⟩
 have h1:0<b.length:=hm.1;have h0:¬b=[]:=List.length_pos_iff.1 h1
 have h2i:(b.length:Int)<=64:=by have:=hm.2;omega
 have h1i:(0:Int)<b.length:=by omega
 refine Sim.step hmix hΓ (n:=0) (by simp[zFH,Tryz.f72,h1,h2i];exact⟨rfl,rfl⟩) (by simp) ?_
 refine Sim.aft (Aft.open (b:=0) rfl (by simp) (Aft.done (by simp[zX]) ?_))
 rw[zA9];simp only[q7Z,q8Z,Nat.reduceAdd,s9Z,q9Z,qaZ]
 obtain⟨R,eR⟩:∃R,Zb (fun i=>3+3+i) 0 f.acts=R:=⟨_,rfl⟩
 obtain⟨X,eX⟩:∃X,zg f.acts=X:=⟨_,rfl⟩;obtain⟨k0,ek⟩:∃k,f.acts.length=k:=⟨_,rfl⟩;obtain⟨q,eq⟩:∃q,nbD f.acts=q:=⟨_,rfl⟩
 have hX:X.length=q:=by rw[<-eX,<-eq,zj]
 have hXg:∀(i:Nat) (B:ABlk),(zg f.acts)[i]? = some B->X[i]? = some B:=fun i B h=>by rw[<-eX];exact h
 rw[eR,eX,ek];have hf:=Z3 a f.now 0
 have close:∀(v:Int) (is:Bool) (n0:Nat) (F:List AV) (K:List AV->zA->Prop),n0<=3->Aft n0 F (zi (.cells true [.map 3,.map 4,.sl 5 0 k0 2 false,.int .i64 f.last]::.cells true [.str a]::.cells true [.str b]::.map (zZ f.d)::.map (zZ f.now)::.cells true R::(X++[.cells true [.int .i64 v]])) 0 [3,4,5] true f.blks) K ->
     Aft n0 F (.cells true [.map 3,.map 4,.sl 5 0 k0 2 false,.int .i64 f.last]::.cells true [.str a]::.cells true [.str b]::.map (zZ f.d)::.map (zZ f.now)::.cells true R::(X++[.cells true [.int .i64 v]])) K:=by
   intro v _ n0 F K hn h
   refine Aft.closeFS f 0 3 (by rw[ek];rfl) rfl rfl (by rw[eR];rfl) (fun i B hB=>?_) (by decide) (by simp;omega) h
   rw[show 3+3+i=i+1+1+1+1+1+1 by omega]
   have h3:i<X.length:=(q1Z.1 (hXg i B hB)).1;simp only[r9Z];rw[q4Z h3];exact hXg i B hB
 cases hg:NM.get f.now a with
 | none =>
   have hc:f.rename a b=(f,9):=by unfold FD.rename;rw[if_pos hm,hg]
   rw[hg]at hf;simp only[Option.map_none,s8Z]at hf;rw[hc]
   refine Sim.step hmix hΓ (n:=0) (by simp +decide [hf,hX];first | exact⟨rfl,rfl⟩ | exact⟨by kernel_rfl,rfl,rfl⟩) (by simp) ?_
   refine Sim.aft (close 0 false _ _ _ (by decide) ?_)
   refine Aft.weak (Fn:=[.ptr 0 0,.str a,.str b,.top,.top,.top,.int .i64 0,.top,.bool false]++qbZ 19 .top) (Hn:=[.obj true f.blks]) (Weak.mk' [0] (by decide) (by decide) (by simp) (zJ (b:=0) (by simp) _ _ rfl fun i c x h1 h2=>?_)) (by simp) (Aft.done (by simp) ?_)
   · match i,h1,h2 with
     | 0,h1,h2=>cases h1;cases h2;exact .inl ⟨rfl,rfl⟩
   refine Sim.exec hmix hΓ (n:=0) (by simp;exact⟨rfl,rfl,rfl⟩) (by simp) ?_
   exact⟨.inr rfl,_,by simp[Tryz.f110] <;> rfl,Weak.mk' [0] (by decide) (by decide) (by simp) (by simp[AWb])⟩
 | some v =>
   have hc:f.rename a b=(⟨f.d,f.acts++[.ren a b v],f.last⟩,0):=by unfold FD.rename;rw[if_pos hm,hg]
   rw[hg]at hf;simp only[rhZ,s8Z]at hf;rw[hc]
   refine Sim.step hmix hΓ (n:=0) (by simp +decide [hf,hX];first | exact⟨rfl,rfl⟩ | exact⟨by kernel_rfl,rfl,rfl⟩) (by simp) ?_
   refine Sim.aft (close v true _ _ _ (by decide) ?_)
   refine Aft.weak (Fn:=[.ptr 0 0,.str a,.str b,.top,.ptr 1 0,.ptr 2 0,.int .i64 0,.ptr 3 0,.bool true]++qbZ 19 .top) (Hn:=[.obj true f.blks,.cells true [.str a],.cells true [.str b],.cells true [.int .i64 v]]) (Weak.mk' [0,1,2,q+6] (by simp) (by simp) (by simp) (zJ (b:=0) (by simp) _ _ rfl fun i c x h1 h2=>?_)) (by simp) ?_
   · match i,h1,h2 with
     | 0,h1,h2=>cases h1;cases h2;exact .inl ⟨rfl,rfl⟩
     | 1,h1,h2=>cases h1;cases h2;exact .inr ⟨⟨by decide,by decide⟩,by simp[AWb]⟩
     | 2,h1,h2=>cases h1;cases h2;exact .inr ⟨⟨by decide,by decide⟩,by simp[AWb]⟩
     | 3,h1,h2 =>
       cases h1;cases h2
       refine .inr ⟨⟨by omega,by simp⟩,?_⟩
       rw[show q+6=(X.length+0)+1+1+1+1+1+1 by omega]
       simp[AWb]
   refine Aft.freeze 1 (.str a) rfl (fun _=>rfl) (by simp) ?_
   simp only[saZ,s9Z]
   refine Aft.freeze 2 (.str b) rfl (fun _=>rfl) (by simp) ?_
   simp only[saZ,s9Z]
   refine Aft.freeze 3 (.int .i64 v) rfl (fun _=>⟨rfl,rfl⟩) (by simp) ?_
   simp only[saZ,s9Z]
   refine Aft.done (by simp) ?_
   have hdo:doS [.ptr 0 0,.str zUN,.func 133 [] [.ptr 1 0,.ptr 3 0,.ptr 2 0]] [.obj true f.blks,.obj false [.cells true [.str a]],.obj false [.cells true [.str b]],.obj false [.cells true [.int .i64 v]]]=some (.int .i64 0,[.obj true (⟨f.d,f.acts++[.ren a b v],f.last⟩:FD).blks,.obj false [.cells true [.str a]],.obj false [.cells true [.str b]],.obj false [.cells true [.int .i64 v]]],[0]):=by
     simp only[doS,zEO,raZ,r9Z,zGg]
     rw[if_pos ⟨by first | rfl | trivial,by first | rfl | trivial,hg,hal,by decide,by decide,by decide,by decide,by decide,by decide⟩]
     rfl
   simp only[zUN]at hdo
   refine Sim.exec hmix hΓ (n:=0) (by simp[zFH,zQM,hdo];exact⟨rfl,rfl,rfl⟩) (by simp) ?_
   exact⟨.inr rfl,_,by simp[Tryz.f110] <;> rfl,Weak.mk' [0] (by decide) (by decide) (by simp) (by simp[AWb])⟩
end
section
open Go Go.Lib
attribute [-simp] zN zr ZI zT ZL
noncomputable section
open Classical
def zNA:zU:=Zk zE1 FD.blks fun f xs _=>match xs with
 | [.str k]=>if f.small/\k.length<=9223372036854775807 then some ((f.create k).1,.tuple [.int .i64 (f.create k).2.1,.int .i64 (f.create k).2.2]) else none
 | _=>none
theorem zIK:Sound Pz 16 zNA:=by
 refine zM (zE Tryz.func16 rfl (by decide)) (fun _ _=>zAp) fun f xs H s' v b hg hb=>?_
 split at hg;rotate_left
 · cases hg
 split at hg <;> cases hg
 rename_i hs;exact zY (zSL f _ hs.1 hs.2) rfl rfl hb
def zTV:zU:=Zk zE1 FD.blks fun f xs _=>match xs with
 | [.str a,.str b]=>if f.small/\b.length<=9223372036854775807 then some ((f.rename a b).1,.int .i64 (f.rename a b).2) else none
 | _=>none
theorem zO7:Sound Pz 110 zTV:=by
 refine zM (zE Tryz.func110 rfl (by decide)) (fun _ _=>zAp) fun f xs H s' v b hg hb=>?_
 split at hg;rotate_left
 · cases hg
 split at hg <;> cases hg
 rename_i hs;exact zY (zRs f _ _ hs.1 hs.2) rfl rfl hb
def zTt:zU:=Zk zE1 FD.blks fun f xs _=>match xs with
 | [.str a]=>if f.small then some ((f.remove a).1,.int .i64 (f.remove a).2) else none
 | _=>none
theorem zPm:Sound Pz 113 zTt:=by
 refine zM (zE Tryz.func113 rfl (by decide)) (fun _ _=>zAp) fun f xs H s' v b hg hb=>?_
 split at hg;rotate_left
 · cases hg
 split at hg <;> cases hg
 rename_i hs;exact zY (zR1 f _ hs) rfl rfl hb
def zAc:zU:=Zk zE1 FD.blks fun f xs _=>match xs with
 | [.str a]=>some (f,.tuple [.int .i64 (f.find a).1,.bool (f.find a).2])
 | _=>none
theorem zAQ:Sound Pz 37 zAc:=by
 refine zM (zE Tryz.func37 rfl (by decide)) (fun _ _=>zAp) fun f xs H s' v b hg hb=>?_
 split at hg <;> cases hg
 exact zY (zUU f _) rfl rfl hb
def zOR:zU:=Zk zE1 FD.blks fun f xs _=>match xs with
 | []=>some (f,.int .i64 f.acts.length)
 | _=>none
theorem zMt:Sound Pz 75 zOR:=by
 refine zM (zE Tryz.func75 rfl (by decide)) (fun _ _=>zAp) fun f xs H s' v b hg hb=>?_
 split at hg <;> cases hg
 exact zY (zPH f) rfl rfl hb
def zIb:zU:=Zk zE1 FD.blks fun f xs _=>match xs with
 | [.int .i64 m]=>if f.acts.length<=1000000 then some (f.survive m,.tuple []) else none
 | _=>none
theorem zHC:Sound Pz 35 zIb:=by
 refine zM (zE Tryz.func35 rfl (by decide)) (fun _ _=>zAp) fun f xs H s' v b hg hb=>?_
 split at hg;rotate_left
 · cases hg
 split at hg <;> cases hg
 rename_i hs;exact zY (zOl f _ hs) rfl rfl hb
def zEn:zU:=fun args H=>match args with
 | [.ptr b 0]=>match H[b]? with
   | some (.obj true sub)=>match zE1 sub with
     | some f=>if f.small then some (.sl H.length 0 f.names.length 1 false,H++[.cells true (f.names.map .str)],[]) else none
     | none=>none
   | _=>none
 | _=>none
theorem zGW:Sound Pz 36 zEn:=by
 refine ⟨zE Tryz.func36 rfl (by decide),fun args H v H' W hs=>?_,fun args H v H' W hs=>?_⟩ <;> (unfold zEn at hs;split at hs <;> try cases hs) <;> (split at hs <;> try cases hs) <;> (rename_i b _ sub hb;split at hs <;> try cases hs) <;> (rename_i f hf;split at hs <;> cases hs;rename_i hk)
 · have e:=zAp hf
   subst e;have hbl:b<H.length:=(q1Z.1 hb).1
   have fs:∀g,ZY g (f.names.map AV.str)=f.names.map AV.str:=fun g=>zAG g _ (by simp[zk,Zx])
   have:=zc (H:=H) (args:=[.ptr b 0]) (zSy f hk) [b] (by simp) ⟨⟨rfl,rfl⟩,trivial⟩ ⟨by rw[q2Z,hb];exact⟨rfl,rfl⟩,hbl,trivial⟩ rfl
   obtain⟨h1,h2⟩:=q1Z.1 hb
   have hset:H.set b (.obj true f.blks)=H:=by rw[<-h2,List.set_getElem_self]
   simpa[zb,ABlk.own,reB,reA,ZQ,hset,fs] using this
 · exact⟨by simp,fun c hc _=>by rw[q4Z hc]⟩
def zGw:zU:=fun args H=>match args with
 | []=>some (.ptr H.length 0,H++[.obj true FD.new.blks],[])
 | _=>none
theorem zHD:Sound Pz 15 zGw:=by
 refine ⟨zE Tryz.func15 rfl (by decide),fun args H v H' W hs=>?_,fun args H v H' W hs=>?_⟩ <;> (unfold zGw at hs;split at hs <;> cases hs)
 · have:=zc (H:=H) (args:=[]) zWg [] (by simp) trivial trivial rfl
   simpa[zb,ABlk.own,reB,reA,ZQ] using this
 · exact⟨by simp,fun c hc _=>by rw[q4Z hc]⟩
def zW2:Gam:=zo [(75,zOR),(35,zIb)]
theorem zU4:GOk Pz zW2:=zB zMt (zB zHC zC)
theorem zVE(f:FD)(hal:f.acts.length<=1000000):Ct Pz 18 [.ptr 0 0] [.obj true f.blks] (.tuple []) [.obj true (f.survive f.acts.length).blks]:=by
 refine zG Tryz.func18 rfl ?_;simp only[Tryz.ntmps18,q7Z,q8Z,Nat.reduceAdd,Nat.reduceSub,qbZ,q9Z,qaZ]
 refine Sim.exec hmix zU4 (n:=0) (by simp[zW2,zOR,zIb,hal];exact⟨rfl,rfl,rfl⟩) (by simp) ?_
 exact⟨.inl rfl,_,by simp[Tryz.f18] <;> rfl,Weak.mk' [0] (by decide) (by decide) (by simp) (by simp[AWb])⟩
def zFU:zU:=Zk zE1 FD.blks fun f xs _=>match xs with
 | []=>if f.acts.length<=1000000 then some (f.survive f.acts.length,.tuple []) else none
 | _=>none
theorem zD3:Sound Pz 18 zFU:=by
 refine zM (zE Tryz.func18 rfl (by decide)) (fun _ _=>zAp) fun f xs H s' v b hg hb=>?_
 split at hg;rotate_left
 · cases hg
 split at hg <;> cases hg
 rename_i hs;exact zY (zVE f hs) rfl rfl hb
end
end
section
open Go Go.Lib
noncomputable def zCy(args:List AV)(H:zA)(v:AV)(H':zA):zU:=open Classical in fun a h=>if a=args/\h=H then some (v,H',List.range H.length) else none
theorem ZH{P:Program}{f:FuncId}{args:List AV}{H H':zA}{v:AV}(he:∀cargs w,(callFunc f cargs).run P w=.ok (.enter f cargs) w)(h:Ct P f args H v H')(hl:H.length<=H'.length):Sound P f (zCy args H v H'):=by
 refine ⟨he,fun a h1 v1 H1 W hs=>?_,fun a h1 v1 H1 W hs=>?_⟩ <;> (unfold zCy at hs;split at hs <;> cases hs) <;> (rename_i hc;obtain⟨rfl,rfl⟩:=hc)
 · exact h
 · exact⟨hl,fun b hb hn=>absurd (List.mem_range.2 hb) hn⟩
@[simp] theorem zCs(args:List AV)(H:zA)(v:AV)(H':zA):zCy args H v H' args H=some (v,H',List.range H.length):=by
 unfold zCy;rw[if_pos ⟨rfl,rfl⟩]
theorem zR{P:Program}{f:FuncId}{fn:Func}{c:Code}(hf:P.funcs[f]? = some fn)(hb:fn.body=some c){args:List AV}{H H':zA}{v:AV}
   (h:Sim P none H.length c (args++qbZ (fn.ntmps-args.length) zd) H fun x F1 H1=>(x=.normal\/x=.ret)/\zBv P fn.results.toList F1 H1=some v/\H1=H'):Ct P f args H v H':=by
 intro j w cargs hR hargs;refine (callsIn_wide (n:=0)).1 ?_;refine callsIn_of_wp_marks hf hb trivial ?_ rfl;have hl:=hargs.length
 have hF:VRs j (args++qbZ (fn.ntmps-args.length) zd) (cargs++Array.replicate (fn.ntmps-cargs.size) undef).toList:=by
   rw[rxZ,Array.toList_replicate,hl,rjZ]
   exact hargs.append (VRs.replicate (v:=undef) (show VR j zd undef from ⟨#[],rfl,rfl⟩) _)
 refine wpIn_mono (h w.heap.size j w { tmps:=cargs++Array.replicate (fn.ntmps-cargs.size) undef,defers:=[] } 0 (qnZ _) hR hF (DefOk.nil _ _)) ?_;rintro e a' w' ⟨x,F',H1,j',rfl,⟨hx,hv1,rfl⟩,h3,h4,h5⟩
 refine zF2 hR.glo.1.2 hx hv1 h3 h4 h5 fun cv w2 g2 hs=>?_
 exact⟨cv,j',rfl,g2,hs⟩
theorem zBN{P:Program}{f:FuncId}{xs:List AV}{v v':AV}{sub H' H'':zA}(h:Ct P f xs sub v H')(hne:1<=sub.length)(hA:Aft 1 [v] H' fun F H=>F=[v']/\H=H''):Ct P f xs [.obj true sub] v' H'':=by
 intro j w cargs hR hargs
 obtain⟨j1,hle,s1⟩:=Step.open (n:=1) hR (b:=0) rfl (by simp)
 have e:zX [.obj true sub] 0 sub=sub:=by
   have hg:∀i,Zf 0 1 i=i:=fun i=>by unfold Zf;split <;> omega
   cases sub with
   | nil=>simp at hne
   | cons B r =>
     unfold zX;simp only[q7Z,q8Z,List.getD_cons_zero,s9Z,List.drop_succ_cons,List.drop_zero,q9Z,qaZ,s8Z]
     rw[zBr hg,List.map_congr_left (fun B _=>zBr hg B)]
     simp
 rw[e]at s1;refine (h j1 w cargs s1.rel (VRs.mono hle _ _ hargs)).mono ?_;rintro e w' ⟨cv,j2,rfl,hv,s2⟩;obtain⟨F3,H3,j3,⟨rfl,rfl⟩,h3,s3⟩:=hA j2 w' [cv] s2.rel ⟨cv,[],rfl,hv,rfl⟩;obtain⟨cv',ws,e1,h4,h5⟩:=h3;cases e1;exact⟨cv,j3,rfl,h4,(s1.trans s2 hne).trans s3 (qnZ _)⟩
theorem zNz{g:Nat->Nat}{H:zA}{em:List Nat}{H0 H1:zA}(hn:em.Nodup)(hl:∀x∈em,x<H.length)(hle:H0.length<=H1.length)
   (h:∀(i e:Nat) (B0 B1:ABlk),em[i]? = some e->H0[i]? = some B0->B0.own=true->H1[i]? = some B1->H[e]? = some (reB g B1)):zb g H em H0 H1=H:=by
 refine List.ext_getElem? fun c=>?_
 by_cases hc:∃(i:Nat) (B:ABlk),em[i]? = some c/\H0[i]? = some B/\B.own=true
 · obtain⟨i,B,h1,h2,h3⟩:=hc
   have hi:i<H1.length:=by have:=(q1Z.1 h2).1;omega
   have h4:H1[i]? = some H1[i]:=q3Z hi;rw[zC8 g H em H0 H1 i c B _ hn hl h1 h2 h3 h4,h i c B _ h1 h2 h3 h4]
 · refine zAY g H em H0 H1 c fun i B h1 h2 h3=>hc ⟨i,B,h1,h2,h3⟩
theorem zVd{P:Program}{f:FuncId}{args:List AV}{v v':AV}{H0 N N' T:zA}(h:Ct P f args H0 v (H0++N))(ha:∀rn:List Nat,(∀i,i<H0.length->rn[i]? = some i)->AWs rn args args)
   (hB:∀rn:List Nat,(∀i,i<H0.length->rn[i]? = some i)->∀B∈H0,AWb rn B B) (hf:∀g:Nat->Nat,(∀i,i<H0.length->g i=i)->∀B∈H0,reB g B=B) (ho:zBJ N=true)
   (hv:∀g:Nat->Nat,(∀i,i<H0.length->g i=i)->(∀i,H0.length<=i->g i=i+T.length)->reA g v=v'/\N.map (reB g)=N'):Ct P f args (H0++T) v' (H0++T++N'):=by
 have hr:∀i,i<H0.length->(List.range H0.length)[i]? = some i:=fun i hi=>rfZ hi
 have hg1:∀i,i<H0.length->ZQ (List.range H0.length) (H0++T).length i=i:=fun i hi=>by unfold ZQ;rw[hr i hi]
 have hg2:∀i,H0.length<=i->ZQ (List.range H0.length) (H0++T).length i=i+T.length:=fun i hi=>by
   unfold ZQ
   rw[s4Z (by simpa using hi)]
   simp only[qdZ,List.length_range];omega
 have hH:∀(X:zA) (k:Nat),(∀B∈X,AWb (List.range H0.length) B B)->(∀i B,X[i]? = some B->(H0++T)[k+i]? = some B)->AWh (List.range H0.length) (H0++T) X (List.range' k X.length):=by
   intro X
   induction X with
   | nil=>intro k _ _;trivial
   | cons B X ih =>
     intro k h1 h2;rw[q7Z,List.range'_succ];have h0:=h2 0 B rfl;rw[Nat.add_zero]at h0
     refine ⟨?_,(q1Z.1 h0).1,ih (k+1) (fun C hC=>h1 C (qiZ _ hC)) fun i C hC=>?_⟩
     · rw[q2Z,h0];exact h1 B (qhZ ..)
     · rw[show k+1+i=k+(i+1) by omega];exact h2 (i+1) C (by simpa using hC)
 have:=zc (H:=H0++T) (args:=args) h (List.range H0.length) List.nodup_range (ha _ hr) (by
   have h1:=hH H0 0 (hB _ hr) fun i B hi=>by rw[s8Z,q4Z (q1Z.1 hi).1];exact hi
   rw[<-List.range_eq_range']at h1
   exact h1) (by rw[List.drop_left];exact ho)
 obtain⟨h1,h2⟩:=hv _ hg1 hg2
 rw[List.drop_left,h1,h2,zNz List.nodup_range (fun x hx=>by have:=List.mem_range.1 hx;simp;omega) (by simp) (fun i e B0 B1 k1 k2 k3 k4=>?_)]at this
 · exact this
 · have hi:i<H0.length:=(q1Z.1 k2).1
   rw[hr i hi]at k1;cases k1;rw[q4Z hi]at k4;rw[q4Z hi,k4,hf _ hg1 B1 (qcZ k4)]
def zP(g:Nat->Nat):Nat->FS->List (AV×AV)
 | _,[]=>[]
 | k,e::l=>(.int .i64 e.1,.ptr (g k) 0)::zP g (k+1) l
def zK(l:FS):zA:=l.map fun e=>.obj true e.2.blks
@[simp] theorem zLq(g:Nat->Nat):∀(k:Nat) (l:FS),(zP g k l).length=l.length
 | _,[]=>rfl
 | k,e::l=>by simp[zP,zLq g (k+1) l]
@[simp] theorem zu(l:FS):(zK l).length=l.length:=by simp[zK]
theorem Zh{l:FS}{i:Nat}{e:Int×PF}(h:l[i]? = some e):(zK l)[i]? = some (.obj true e.2.blks):=by simp[zK,h]
theorem zAB(g:Nat->Nat)(n:Int):∀(k:Nat) (l:FS) (i:Nat),zAS (zP g k l) (.int .i64 n) i=some ((FS.get l n).map fun _=>(i+FS.at l n,.ptr (g (k+FS.at l n)) 0))
 | k,[],i=>by simp[zP,zAS,FS.get]
 | k,e::l,i=>by
   have ih:=zAB g n (k+1) l (i+1);by_cases h:e.1=n
   · subst h
     simp[zP,zAS,Z2,FS.get,FS.at,FS.keys]
   · have h2:(n==e.1)=false:=by simpa using (fun q=>h q.symm)
     have h3:(e.1==n)=false:=by simpa using h
     simp only[zP,zAS,Z2,h2,ih,FS.get,h,if_false,FS.at,FS.keys,s1Z];rw[List.idxOf_cons,h3]
     cases FS.get l n <;> simp
     exact⟨by omega,by congr 1;omega⟩
theorem zGl(g:Nat->Nat):∀(k:Nat) (l:FS) (e:Int×PF),zP g k (l++[e])=zP g k l++[(.int .i64 e.1,.ptr (g (k+l.length)) 0)]
 | k,[],e=>rfl
 | k,x::l,e=>by
   simp only[q9Z,zP,zGl g (k+1) l e,q7Z]
   rw[show k+1+l.length=k+(l.length+1) by omega]
theorem zEZ(g:Nat->Nat)(n:Int)(h:PF->PF):∀(k:Nat) (l:FS),zP g k (FS.upd l n h)=zP g k l
 | k,[]=>rfl
 | k,e::l=>by
   unfold FS.upd;split
   · rename_i hn;simp[zP,hn]
   · simp only[zP,zEZ g n h (k+1) l]
theorem zH9{l:FS}{n:Int}{f:PF}(h:PF->PF)(hf:FS.get l n=some f):zK (FS.upd l n h)=(zK l).set (FS.at l n) (.obj true (h f).blks):=by
 rw[FS.upd_set h hf];simp[zK,List.map_set]
theorem zAU{g g':Nat->Nat}:∀(k:Nat) (l:FS),(∀i,k<=i->i<k+l.length->g i=g' i)->zP g k l=zP g' k l
 | _,[],_=>rfl
 | k,e::l,h=>by
   simp only[zP]
   rw[h k (qnZ _) (by simp),zAU (k+1) l fun i h1 h2=>h i (by omega) (by simp;omega)]
theorem zI1(rn:List Nat)(g g':Nat->Nat):∀(k:Nat) (l:FS),AWs rn ((zP g k l).map (·.1)) ((zP g' k l).map (·.1))
 | _,[]=>trivial
 | k,_::l=>⟨⟨rfl,rfl⟩,zI1 rn g g' (k+1) l⟩
theorem zIG(rn:List Nat)(g g':Nat->Nat):∀(k:Nat) (l:FS),(∀i,k<=i->i<k+l.length->rn[g i]? = some (g' i))->AWs rn ((zP g k l).map (·.2)) ((zP g' k l).map (·.2))
 | _,[],_=>trivial
 | k,_::l,h=>⟨⟨h k (qnZ _) (by simp),rfl⟩,zIG rn g g' (k+1) l fun i h1 h2=>h i (by omega) (by simp;omega)⟩
theorem zCD{rn:List Nat}{g g':Nat->Nat}{l:FS}(h:∀i,i<l.length->rn[g i]? = some (g' i)):AWb rn (.map (zP g 0 l)) (.map (zP g' 0 l)) :=
 ⟨zI1 rn g g' 0 l,zIG rn g g' 0 l fun i _ h2=>h i (by omega)⟩
theorem zEx{h g:Nat->Nat}:∀(k:Nat) (l:FS),(zP g k l).map (fun e=>(reA h e.1,reA h e.2))=zP (fun i=>h (g i)) k l
 | _,[]=>rfl
 | k,_::l=>by simp only[zP,s1Z,reA,zEx (k+1) l]
def DS.cell0(d:DS)(fo m:Nat):ABlk:=.cells true [.ptr fo 0,.map m,.int .i64 d.quota,.int .i64 d.steps,.int .i64 d.armed,.bool d.down]
def DS.blks(d:DS):zA:=d.cell0 1 2::.obj true d.fd.blks::.map (zP (fun i=>i+3) 0 d.fs)::zK d.fs
theorem DS.blks_length(d:DS):d.blks.length=d.fs.length+3:=by simp[DS.blks]
theorem DS.blks_id(d:DS)(rn:List Nat)(hr:∀i,i<d.blks.length->rn[i]? = some i):∀B∈d.blks,AWb rn B B:=by
 rw[DS.blks_length]at hr;intro B hB;simp only[DS.blks,DS.cell0,qwZ]at hB;rcases hB with rfl | rfl | rfl | hB
 · exact⟨id,⟨hr 1 (by omega),rfl⟩,hr 2 (by omega),⟨rfl,rfl⟩,⟨rfl,rfl⟩,⟨rfl,rfl⟩,rfl,trivial⟩
 · exact⟨rfl,rfl⟩
 · exact zCD fun i hi=>hr (i+3) (by omega)
 · obtain⟨e,_,rfl⟩:=reZ.1 hB
   exact⟨rfl,rfl⟩
theorem DS.blks_fix(d:DS)(g:Nat->Nat)(hg:∀i,i<d.blks.length->g i=i):∀B∈d.blks,reB g B=B:=by
 rw[DS.blks_length]at hg;intro B hB;simp only[DS.blks,DS.cell0,qwZ]at hB;rcases hB with rfl | rfl | rfl | hB
 · simp[reB,ZY,reA,hg 1 (by omega),hg 2 (by omega)]
 · rfl
 · simp only[reB]
   rw[zEx,zAU 0 d.fs fun i _ hi=>hg (i+3) (by omega)]
 · obtain⟨e,_,rfl⟩:=reZ.1 hB
   rfl
theorem Weak.tailG{A T Tn:zA}{F Fn:List AV}{N:Nat}(hN:A.length=N)(hA:∀rn:List Nat,(∀i,i<N->rn[i]? = some i)->∀B∈A,AWb rn B B)(ts:List Nat)(hts:ts.Nodup)
   (hF:AWs (List.range N++ts.map (N+·)) Fn F) (hT:AWg (List.range N++ts.map (N+·)) (A++T) Tn (ts.map (N+·))):Weak N F (A++T) Fn (A++Tn):=by
 have hr:∀i,i<N->(List.range N++ts.map (N+·))[i]? = some i:=fun i hi=>by
   rw[q4Z (by simpa using hi),rfZ hi]
 refine Weak.mk' (List.range N++ts.map (N+·)) ?_ ?_ hF (AWg.append ?_ hT)
 · rw[List.nodup_append]
   refine ⟨List.nodup_range,?_,fun a ha b hb=>?_⟩
   · rw[List.nodup_iff_pairwise_ne,List.pairwise_map]
     exact (List.nodup_iff_pairwise_ne.1 hts).imp fun h e=>h (by omega)
   · obtain⟨c,_,rfl⟩:=reZ.1 hb
     have:=List.mem_range.1 ha;omega
 · rw[List.take_left' (by simp)]
 · refine AWg.of _ _ (by simp[hN]) fun i x b hx hb hlt=>?_
   have hi:i<N:=by rw[<-hN];exact (q1Z.1 hx).1
   have hbi:b=i:=by rw[rfZ hi]at hb;cases hb;rfl
   subst hbi
   rw[q2Z,q4Z (by omega),hx]
   exact hA _ hr x (qcZ hx)
structure DAt (H:zA) (d:DS) (b fo m:Nat) (g:Nat->Nat):Prop where
 c0:H[b]? = some (d.cell0 fo m)
 fold:H[fo]? = some (.obj true d.fd.blks)
 map:H[m]? = some (.map (zP g 0 d.fs))
 file:∀(i:Nat) e,d.fs[i]? = some e->H[g i]? = some (.obj true e.2.blks)
 nd:(b::fo::m::(List.range d.fs.length).map g).Nodup
theorem DAt.awg{H:zA}{d:DS}{b fo m:Nat}{g:Nat->Nat}(h:DAt H d b fo m g)(rn:List Nat)(hr:∀i,i<d.fs.length+3->rn[i]? = (b::fo::m::(List.range d.fs.length).map g)[i]?) :
   AWg rn H d.blks (b::fo::m::(List.range d.fs.length).map g):=by
 refine AWg.of _ _ (by simp[DS.blks]) fun i x c hx hc hlt=>?_
 have hil:i<d.fs.length+3:=by rw[<-DS.blks_length];exact (q1Z.1 hx).1
 rw[q2Z]
 match i,hx,hc with
 | 0,hx,hc =>
   cases hx;cases hc
   rw[h.c0]
   exact⟨id,⟨hr 1 (by omega),rfl⟩,hr 2 (by omega),⟨rfl,rfl⟩,⟨rfl,rfl⟩,⟨rfl,rfl⟩,rfl,trivial⟩
 | 1,hx,hc =>
   cases hx;cases hc
   rw[h.fold];exact⟨rfl,rfl⟩
 | 2,hx,hc =>
   cases hx;cases hc
   rw[h.map]
   refine zCD fun i hi=>?_
   rw[hr (i+3) (by omega)]
   simp[hi]
 | i+3,hx,hc =>
   simp only[DS.blks,r9Z]at hx hc
   have hi:i<d.fs.length:=by omega
   have he:=q3Z hi;rw[Zh he]at hx;cases hx;simp[hi]at hc;subst hc;rw[h.file i _ he];exact⟨rfl,rfl⟩
theorem DAt.weak{H:zA}{d:DS}{b fo m:Nat}{g:Nat->Nat}(h:DAt H d b fo m g){F Fn:List AV}{n:Nat}(hn:(b::fo::m::(List.range d.fs.length).map g).take n=List.range n)(hF:AWs (b::fo::m::(List.range d.fs.length).map g) Fn F) :
   Weak n F H Fn d.blks :=
 Weak.mk' _ h.nd hn hF (h.awg _ fun _ _=>rfl)
theorem Aft.closeDS(d:DS){T Tn:zA}{v v':AV}(ts:List Nat)(hts:ts.Nodup)(hlen:Tn.length=ts.length)(hF:AW (0::ts.map (d.fs.length+3+·)) v' v)
   (hT:∀(i t:Nat) x,ts[i]? = some t->Tn[i]? = some x->∃y,T[t]? = some y/\AWb (0::ts.map (d.fs.length+3+·)) x y):Aft 1 [v] (d.blks++T) fun F H=>F=[v']/\H=.obj true d.blks::Tn:=by
 have hl:=d.blks_length
 have hr:∀i,i<d.blks.length->(List.range d.blks.length)[i]? = some i:=fun i hi=>rfZ hi
 refine Aft.close (o:=true) (b:=0) (sub:=d.blks) (rs:=List.range d.blks.length) (ks:=List.range' 1 (d.fs.length+2)) (hr 0 (by omega)) List.nodup_range (by simp;omega) ?_ ?_ ⟨d.cell0 1 2,rfl,rfl⟩ ?_ (by simp;omega) ?_
 · intro c x hc h0 _ _
   have:=List.mem_range.1 hc
   rw[List.mem_range'_1];omega
 · refine AWg.of _ _ (by simp) fun i x b hx hb hlt=>?_
   have hi:i<d.blks.length:=(q1Z.1 hx).1
   rw[hr i hi]at hb;cases hb
   rw[q2Z,q4Z hi,hx];exact d.blks_id _ hr x (qcZ hx)
 · intro i y hy hd
   have hm:=qcZ hy;simp only[DS.blks,DS.cell0,qwZ]at hm;rcases hm with rfl | rfl | rfl | hm
   · rfl
   · rfl
   · rfl
   · obtain⟨e,_,rfl⟩:=reZ.1 hm
     rfl
 · refine Aft.weak (Fn:=[v']) (Hn:=.obj true d.blks::Tn) (Weak.mk' (0::ts.map (d.fs.length+3+·)) ?_ rfl ⟨hF,trivial⟩ (zJ (b:=0) (by simp;omega) _ _ (by simp[hlen]) fun i c x h1 h2=>?_)) (by simp;omega) (Aft.done (by simp) ⟨rfl,rfl⟩)
   · rw[rdZ]
     refine ⟨fun h=>?_,?_⟩
     · obtain⟨a,_,h⟩:=reZ.1 h;omega
     · rw[List.nodup_iff_pairwise_ne,List.pairwise_map]
       exact (List.nodup_iff_pairwise_ne.1 hts).imp fun h e=>h (by omega)
   · cases i with
     | zero =>
       cases h1;cases h2;exact .inl ⟨rfl,rfl⟩
     | succ i =>
       simp only[r9Z,qzZ]at h1 h2;obtain⟨t,ht,rfl⟩:=qlZ.1 h1;obtain⟨y,hy,hw⟩:=hT i t x ht h2
       refine .inr ⟨⟨by omega,by rw[List.mem_range'_1];omega⟩,?_⟩
       rw[q2Z,q5Z (by omega),hl,s3Z,hy]
       exact hw
noncomputable def dsD(sub:zA):Option DS:=open Classical in if h:∃d:DS,sub=d.blks then some h.choose else none
theorem Zu{sub:zA}{d:DS}(h:dsD sub=some d):sub=d.blks:=by
 unfold dsD at h;split at h
 · rename_i hx
   cases h;exact hx.choose_spec
 · cases h
theorem zKg(g:Nat->Nat):∀(k:Nat) {l m:FS},zP g k l=zP g k m->zK l=zK m->l=m
 | _,[],[],_,_=>rfl
 | _,[],_::_,h,_=>by simp[zP]at h
 | _,_::_,[],h,_=>by simp[zP]at h
 | k,(a,x)::l,(b,y)::m,h,h'=>by
   simp only[zP,List.cons.injEq,Prod.mk.injEq,AV.int.injEq,true_and,and_true]at h;simp only[zK,s1Z,List.cons.injEq,ABlk.obj.injEq,true_and]at h';have h3:=congrArg zCw h'.1;rw[zIM,zIM]at h3;rw[h.1,Option.some.inj h3,zKg g (k+1) h.2 h'.2]
theorem zRH{d e:DS}(h:d.blks=e.blks):d=e:=by
 obtain⟨fd,fs,q,s,a,w⟩:=d;obtain⟨fd',fs',q',s',a',w'⟩:=e;simp only[DS.blks,DS.cell0,List.cons.injEq,ABlk.cells.injEq,ABlk.obj.injEq,ABlk.map.injEq,AV.int.injEq,AV.bool.injEq,true_and,and_true]at h;obtain⟨⟨h1,h2,h3,h4⟩,h5,h6,h7⟩:=h;rw[h1,h2,h3,h4,zNP h5,zKg _ 0 h6 h7]
@[simp] theorem zW4(d:DS):dsD d.blks=some d:=by
 unfold dsD;have h:∃e:DS,d.blks=e.blks:=⟨d,rfl⟩;rw[dif_pos h];have:=Classical.choose_spec h;exact congrArg some (zRH this).symm
end
section
open Go Go.Lib
attribute [-simp] zN zr ZI zT ZL
theorem DS.blks_head(d:DS)(T:zA):d.blks++T=.cells true [.ptr 1 0,.map 2,.int .i64 d.quota,.int .i64 d.steps,.int .i64 d.armed,.bool d.down]::(.obj true d.fd.blks::.map (zP (fun i=>i+3) 0 d.fs)::(zK d.fs++T)):=rfl
theorem zQx(d:DS)(T:zA)(F:FuncId)(caps:List AV){v:AV}{H':zA}(he:∀cargs w,(callFunc F cargs).run Pz w=.ok (.enter F cargs) w)(hF:F≠yl)
   (hs:0<=d.steps/\d.steps<=4611686018427387903) (ha:0<=d.armed/\d.armed<=4611686018427387903) (hlen:(d.blks++T).length<=H'.length)
   (hdown:d.count.down=true->v=.int .i64 13/\H'=d.count.blks++T)
   (hup:d.count.down=false->Ct Pz F caps (d.count.blks++T) v H') :
   Ct Pz 27 [.ptr 0 0,.func F [] caps] (d.blks++T) v H':=by
 have hw:IntKind.i64.wrap (d.steps+1)=d.steps+1:=zV (by omega) (by omega)
 have hb:=DS.blks_head d T;have hb2:=DS.blks_head d.count T;rw[DS.count_fd,DS.count_fs,DS.count_quota,DS.count_steps]at hb2
 obtain⟨rest,hrest⟩:∃rest:zA,.obj true d.fd.blks::.map (zP (fun i=>i+3) 0 d.fs)::(zK d.fs++T)=rest:=⟨_,rfl⟩
 rw[hrest]at hb hb2;obtain⟨a',ea⟩:∃a',d.count.armed=a':=⟨_,rfl⟩;obtain⟨w',ew⟩:∃w',d.count.down=w':=⟨_,rfl⟩;rw[ea,ew]at hb2;rw[ew]at hdown hup;rw[hb2]at hdown hup;rw[hb]at hlen ⊢;refine zR Tryz.func27 rfl ?_;simp only[Tryz.ntmps27,q7Z,q8Z,Nat.reduceAdd,Nat.reduceSub,qbZ,q9Z,qaZ]
 refine Sim.step hmix zC (n:=0) (by simp;exact⟨rfl,rfl⟩) (by simp) ?_
 refine Sim.step hmix zC (n:=0) (by simp;exact⟨rfl,rfl⟩) (by simp) ?_
 refine Sim.step hmix zC (n:=0) (by simp[hw];exact⟨rfl,rfl⟩) (by simp) ?_
 refine Sim.seq (Sim.mono (Q:=fun e F' H1=>e=.normal/\LessF ([.ptr 0 0,.func F [] caps,.top,.top,.int .i64 0]++qbZ 42 .top) F'/\H1=.cells true [.ptr 1 0,.map 2,.int .i64 d.quota,.int .i64 (d.steps+1),.int .i64 a',.bool w']::rest) ?_ ?_)
 · by_cases h1:0<d.armed
   · cases h2:d.down with
     | true =>
       have e:d.count=⟨d.fd,d.fs,d.quota,d.steps+1,d.armed,d.down⟩:=by unfold DS.count;rw[if_neg (by simp[h2])]
       rw[e]at ea ew;dsimp only at ea ew;rw[h2]at ew
       subst ea;subst ew
       refine Sim.exec hmix zC (n:=0) (by simp[h1];exact⟨rfl,rfl,rfl⟩) (by simp) ?_
       exact⟨rfl,by simp,rfl⟩
     | false =>
       have e:d.count=⟨d.fd,d.fs,d.quota,d.steps+1,d.armed-1,decide (d.armed-1=0)⟩:=by unfold DS.count;rw[if_pos ⟨h1,h2⟩]
       rw[e]at ea ew;dsimp only at ea ew
       have hw1:IntKind.i64.wrap (d.armed-1)=d.armed-1:=zV (by omega) (by omega)
       rw[ea]at hw1 ew
       have ew':(a'==0)=w':=by rw[<-ew];by_cases h:a'=0 <;> simp[h]
       refine Sim.exec hmix zC (n:=0) (by simp[h1,ea,hw1,ew'];exact⟨rfl,rfl,rfl⟩) (by simp) ?_
       exact⟨rfl,by simp,rfl⟩
   · have e:d.count=⟨d.fd,d.fs,d.quota,d.steps+1,d.armed,d.down⟩:=by unfold DS.count;rw[if_neg (by simp[h1])]
     rw[e]at ea ew;dsimp only at ea ew
     subst ea;subst ew
     refine Sim.exec hmix zC (n:=0) (by simp[h1];exact⟨rfl,rfl,rfl⟩) (by simp) ?_
     exact⟨rfl,by simp,rfl⟩
 rintro e F' H1 hlen1 ⟨rfl,hF,rfl⟩;dsimp only;refine Sim.less hF ?_;clear hF hlen1;simp only[q9Z,qaZ,qbZ]
 cases w' with
 | true =>
   obtain⟨rfl,rfl⟩:=hdown rfl
   refine Sim.exec hmix zC (n:=0) (by simp;exact⟨rfl,rfl,rfl⟩) (by simp) ?_
   exact⟨.inr rfl,by simp[Tryz.f27],rfl⟩
 | false =>
   have hΓ:GOk Pz (zo [(F,zCy caps (.cells true [.ptr 1 0,.map 2,.int .i64 d.quota,.int .i64 (d.steps+1),.int .i64 a',.bool false]::rest) v H')]):=zB (ZH he (hup rfl) (by simpa using hlen)) zC (hg:=hF)
   refine Sim.step hmix hΓ (n:=0) (by simp;exact⟨rfl,rfl⟩) (by simp) ?_
   have hF':¬F=1000000000:=hF
   refine Sim.exec hmix hΓ (n:=0) (by simp[hF'];exact⟨rfl,rfl,rfl⟩) (by simp) ?_
   exact⟨.inr rfl,by simp[Tryz.f27],rfl⟩
def DS.heap(d:DS)(T:zA):zA:=d.cell0 1 2::.obj true d.fd.blks::.map (zP (fun i=>i+3) 0 d.fs)::(zK d.fs++T)
theorem DS.heap_eq(d:DS)(T:zA):d.heap T=d.blks++T:=rfl
theorem DS.heap_length(d:DS)(T:zA):(d.heap T).length=d.fs.length+T.length+3:=by simp[DS.heap]
structure Behind (X:zA) (n:Nat):Prop where
 len:X.length=n
 get:∀(T:zA) (j:Nat),(X++T)[n+j]? = T[j]?
 get0:∀(T:zA),(X++T)[n]? = T[0]?
 set:∀(T:zA) (j:Nat) v,(X++T).set (n+j) v=X++T.set j v
 set0:∀(T:zA) v,(X++T).set n v=X++T.set 0 v
theorem behind(fs:FS):Behind (zK fs) fs.length:=by
 have hl:(zK fs).length=fs.length:=zu fs
 refine ⟨hl,fun T j=>?_,fun T=>?_,fun T j v=>?_,fun T v=>?_⟩
 · rw[q5Z (by omega),hl];congr 1;omega
 · rw[q5Z (by omega),hl,Nat.sub_self]
 · rw[List.set_append_right _ _ (by omega),hl];congr 2;omega
 · rw[List.set_append_right _ _ (by omega),hl,Nat.sub_self]
theorem DS.tail(d:DS){T Tn:zA}{F Fn:List AV}(ts:List Nat)(hts:ts.Nodup)
   (hF:AWs (List.range (d.fs.length+3)++ts.map (d.fs.length+3+·)) Fn F) (hlen:Tn.length=ts.length)
   (hT:∀(i t:Nat) x y,ts[i]? = some t->Tn[i]? = some x->T[t]? = some y->AWb (List.range (d.fs.length+3)++ts.map (d.fs.length+3+·)) x y):Weak (d.fs.length+3) F (d.heap T) Fn (d.heap Tn):=by
 have hl:=d.blks_length;rw[DS.heap_eq,DS.heap_eq]
 refine Weak.tailG hl (fun rn hr=>d.blks_id rn (by rw[hl];exact hr)) ts hts hF (AWg.of _ _ (by simp[hlen]) fun i x b hx hb hlt=>?_)
 rw[qzZ]at hb;obtain⟨t,ht,rfl⟩:=qlZ.1 hb;rw[qdZ,hl]at hlt
 have htl:t<T.length:=by omega
 rw[q2Z,q5Z (by omega),hl,s3Z,q3Z htl]
 exact hT i t x _ ht hx (q3Z htl)
theorem zAh(n:Nat)(ts:List Nat){i:Nat}(hi:i<n):(List.range n++ts)[i]? = some i:=by
 rw[q4Z (by simpa using hi),rfZ hi]
theorem zGu(n:Nat)(ts:List Nat)(i:Nat):(List.range n++ts)[n+i]? = ts[i]?:=by
 rw[q5Z (by simp)];simp
theorem zFW(n:Nat)(ts:List Nat):(List.range n++ts)[n]? = ts[0]?:=by
 rw[q5Z (by simp)];simp
def zQg:List FuncId:=[69]
noncomputable def zVn:Gam:=zo [(36,zEn)]
theorem zUO:GOk Pz (zA2 Pz zVn 0 zQg 2):=ZT hmix (zB zGW zC) 0 zQg 2
theorem zQF(d:DS)(hsm:d.fd.small):Ct Pz 64 [.ptr 0 0] (d.heap []) (.sl (d.fs.length+3) 0 d.list.length 1 false) (d.heap [.cells true (d.list.map .str)]):=by
 have hΓ:=zUO;have hlen:=d.heap_length [];obtain⟨n,hn⟩:∃n,d.fs.length=n:=⟨_,rfl⟩;have hX:=behind d.fs
 have tl:=fun {T Tn F Fn}=>DS.tail d (T:=T) (Tn:=Tn) (F:=F) (Fn:=Fn)
 rw[hn]at hlen hX tl;refine zG Tryz.func64 rfl ?_;simp only[Tryz.ntmps64,q7Z,q8Z,Nat.reduceAdd,Nat.reduceSub,qbZ,q9Z,qaZ];rw[hlen,hn];unfold DS.heap DS.cell0;have hXl:=hX.len;obtain⟨X,eX⟩:∃X,zK d.fs=X:=⟨_,rfl⟩;rw[eX]at hX hXl ⊢
 refine Sim.step hmix hΓ (n:=0) (by simp;exact⟨rfl,rfl⟩) (by simp[hXl]) ?_
 cases hd:d.down with
 | true =>
   have hl:d.list=[]:=by unfold DS.list;rw[hd];rfl
   rw[hl]
   refine Sim.exec hmix hΓ (n:=0) (by simp +decide [zQg,Tryz.f69];exact⟨rfl,rfl,rfl⟩) (by simp[hXl]) ?_
   refine ⟨.inr rfl,_,by simp[Tryz.f64] <;> rfl,?_⟩
   have:=tl (T:=[]) (Tn:=[.cells true []]) (F:=[.nils]) (Fn:=[.sl (n+3) 0 0 1 false]) [100] (by decide) (by simp[AWs,AW]) rfl (fun i t x y h1 h2 h3=>by simp at h3)
   unfold DS.heap DS.cell0 at this;rw[eX,hd]at this;simpa using this
 | false =>
   have hl:d.list=d.fd.names:=by unfold DS.list;rw[hd];rfl
   rw[hl]
   refine Sim.step hmix hΓ (n:=0) (by simp +decide [zQg,Tryz.f69];exact⟨rfl,rfl⟩) (by simp[hXl]) ?_
   refine Sim.exec hmix hΓ (n:=0) (by simp +decide [zVn,zEn,hsm,hXl];exact⟨rfl,rfl,rfl⟩) (by simp[hXl]) ?_
   refine ⟨.inr rfl,_,by simp[Tryz.f64] <;> rfl,?_⟩
   have:=tl (T:=[.cells true (d.fd.names.map .str)]) (Tn:=[.cells true (d.fd.names.map .str)]) (F:=[.sl (n+3) 0 d.fd.names.length 1 false]) (Fn:=[.sl (n+3) 0 d.fd.names.length 1 false]) [0] (by decide) (by simp[AWs,AW]) rfl (fun i t x y h1 h2 h3=>by
     match i,h1,h2 with
     | 0,h1,h2=>cases h1;cases h2;cases h3;exact⟨id,(zBh (ZG d.fd.names AV.str fun _=>rfl)).2 trivial⟩)
   unfold DS.heap DS.cell0 at this;rw[eX,hd]at this;simpa using this
def flA:List (List UInt8×List UInt8)->List AV
 | []=>[]
 | e::l=>.str e.1::.str e.2::flA l
@[simp] theorem zCE:∀l,(flA l).length=l.length*2
 | []=>rfl
 | e::l=>by simp[flA,zCE l];omega
theorem zDI:∀l m,flA (l++m)=flA l++flA m
 | [],m=>rfl
 | e::l,m=>by simp[flA,zDI l m]
@[simp] theorem ZS:∀l,zh (flA l)=true
 | []=>rfl
 | e::l=>by simp[flA,ZS l]
theorem zCY:∀(l:List (List UInt8×List UInt8)) (k:Nat) (h:k<l.length),((flA l).drop (k*2)).take 2=[.str l[k].1,.str l[k].2]
 | a::l,0,_=>by simp[flA]
 | a::l,k+1,h=>by
   have:=zCY l k (by simpa using h)
   rw[show (k+1)*2=2+k*2 by omega]
   simp only[flA,List.getElem_cons_succ];rw[<-List.drop_drop];simpa using this
def zAq:List FuncId:=[115]
noncomputable def zQG(d:DS):Gam:=zo [(64,zCy [.ptr 0 0] (d.heap []) (.sl (d.fs.length+3) 0 d.list.length 1 false) (d.heap [.cells true (d.list.map .str)])),(37,zAc),(124,zLT)]
theorem zVD(d:DS)(hsm:d.fd.small):GOk Pz (zA2 Pz (zQG d) 0 zAq 2):=ZT hmix (zB (ZH (zE Tryz.func64 rfl (by decide)) (zQF d hsm) (by simp[DS.heap])) (zB zAQ (zB zKx zC))) 0 zAq 2
theorem zM8(d:DS){A B:Nat}(hok:d.ok A B)(hA:A<=1000000):Ct Pz 61 [.ptr 0 0] (d.heap []) (.sl (d.fs.length+3) 0 d.files.length 2 false) (d.heap [.cells true (flA d.files)]):=by
 have hsm:d.fd.small:=FD.ok_mono hok.fd hA;have hΓ:=zVD d hsm;have hlen:=d.heap_length [];obtain⟨n,hn⟩:∃n,d.fs.length=n:=⟨_,rfl⟩;have hX:=behind d.fs
 have tl:=fun {T Tn F Fn}=>DS.tail d (T:=T) (Tn:=Tn) (F:=F) (Fn:=Fn)
 rw[hn]at hlen hX tl;refine zG Tryz.func61 rfl ?_;simp only[Tryz.ntmps61,q7Z,q8Z,Nat.reduceAdd,Nat.reduceSub,qbZ,q9Z,qaZ];rw[hlen,hn]
 have hfl:d.files.length=d.list.length:=by simp[DS.files]
 obtain⟨ks,hks⟩:∃ks,d.list=ks:=⟨_,rfl⟩;obtain⟨m,hm⟩:∃m,ks.length=m:=⟨_,rfl⟩
 have hm6:m<=1000000:=by
   rw[<-hm,<-hks];unfold DS.list;split
   · simp
   · have h1:=(FD.ok_now hsm).2
     unfold FD.names;rw[(Zg _).length_eq];simpa[NM.keys] using h1
 have hdn:0<m->d.down=false:=fun h=>by
   cases hd:d.down with
   | false=>rfl
   | true=>unfold DS.list at hks;rw[hd]at hks;rw[<-hks]at hm;simp at hm;omega
 rw[hfl,hks,hm];simp only[q8Z,Nat.add_zero]at hlen ⊢
 have fks:∀rn:List Nat,AWs rn (ks.map AV.str) (ks.map AV.str):=fun rn=>(zBh (ZG ks AV.str fun _=>rfl)).2 trivial
 refine Sim.step hmix hΓ (n:=0) (by simp;exact⟨rfl,rfl⟩) (by simp[DS.heap,hn]) ?_
 refine Sim.seq (Sim.mono (Q:=fun e F' H'=>e=.normal/\Weak (n+3) F' H' ([.ptr 0 0,.top,.sl (n+4) 0 m 2 false]++qbZ 26 .top) (d.heap [.cells true (ks.map .str),.cells true (flA d.files)])) (Sim.step hmix hΓ (n:=0) (by simp[zAq,zQG,hks,hm,hn];exact⟨rfl,rfl⟩) (by simp[DS.heap,hn]) ?_) ?_)
 · refine Sim.block (Sim.loopW (fun i:Nat=>i<=m)
     (fun i=>[.ptr 0 0,.top,.sl (n+4) 0 i 2 false,.top,.top,.top,.top,.top,.sl (n+3) 0 m 1 false,.int .i64 m,.int .i64 i]++qbZ 18 .top)
     (fun i=>d.heap [.cells true (ks.map .str),.cells true (flA (d.files.take i))]) (fun i=>m-i) 0 (by simp[DS.heap,hn]) (by simp) ?_ fun i hi=>?_)
   · refine tl (T:=[.cells true (ks.map .str)]) [0,100] (by decide) ?_ rfl ?_
     · simp[AW]
     · intro j t x y h1 h2 h3
       match j,h1,h2 with
       | 0,h1,h2=>cases h1;cases h2;cases h3;exact⟨id,fks _⟩
       | 1,h1,h2=>cases h1;cases h3
   · by_cases hlt:i<m
     · have hltI:(i:Int)<m:=by omega
       have hilt:i<ks.length:=by omega
       obtain⟨k,hk⟩:∃k,ks[i]=k:=⟨_,rfl⟩
       have hg:∀h,ks[i]'h=k:=fun h=>hk
       have hd:=hdn (by omega)
       have hmem:k∈d.fd.names:=by
         rw[<-hk]
         have:ks=d.fd.names:=by rw[<-hks];unfold DS.list;rw[hd];rfl
         rw[<-this];exact r3Z hilt
       obtain⟨v,hv⟩:=FD.names_get hmem;obtain⟨f,hf,hfok⟩:=DS.has_file hok hv;have hfind:=FD.find_get hv
       have hlook:=zAB (fun i=>i+3) v 0 d.fs 0
       rw[hf]at hlook;simp only[rhZ,s8Z]at hlook;have hfb:=Zh (FS.at_get hf);have hal:=FS.at_lt hf;obtain⟨q,hq⟩:∃q,FS.at d.fs v=q:=⟨_,rfl⟩;rw[hq]at hlook hfb hal;rw[hn]at hal;dsimp only at hfb
       have htext:d.text k=f.now:=by unfold DS.text DS.file;rw[hv];dsimp only;rw[hf]
       have hnx:d.files.take (i+1)=d.files.take i++[(k,f.now)]:=by
         rw[List.take_add_one]
         congr 1
         unfold DS.files;rw[hks,qzZ,q3Z hilt,hk];simp[htext]
       obtain⟨acc,hacc⟩:∃acc,d.files.take i=acc:=⟨_,rfl⟩
       have hal2:acc.length=i:=by rw[<-hacc,qjZ,hfl,hks,hm];omega
       rw[hacc]at hnx ⊢;have hXl:=hX.len;have hXg:=hX.get;have hXg0:=hX.get0;unfold DS.heap DS.cell0;obtain⟨X,eX⟩:∃X,zK d.fs=X:=⟨_,rfl⟩;rw[eX]at hfb hXl hXg hXg0 ⊢
       have hXq:∀T,(X++T)[q]? = some (.obj true f.blks):=fun T=>by rw[q4Z (by omega)];exact hfb
       have hXsq:∀T,(X++T).set q (.obj true f.blks)=X++T:=fun T=>by
         have hql:q<(X++T).length:=by simp;omega
         have h1:(X++T)[q]'hql=.obj true f.blks:=by have:=hXq T;rw[q3Z hql]at this;exact Option.some.inj this
         rw[<-h1,List.set_getElem_self]
       have hXs:=hX.set;have hXs0:=hX.set0;rw[eX]at hXs hXs0
       have y1:IntKind.i64.wrap ((i:Int)+1)=i+1:=zV (by omega) (by omega)
       have b1:(i+1)*32<=140737488355328:=by omega
       have b2:i+1<=9223372036854775807:=by omega
       have htk:List.take (i*2) (flA acc)=flA acc:=q6Z (by simp[hal2])
       rw[hd]
       refine Sim.step hmix hΓ (n:=0) (by simp[hltI];exact⟨rfl,rfl⟩) (by simp[hXl]) ?_
       refine Sim.step hmix hΓ (n:=0) (by simp;exact⟨rfl,rfl⟩) (by simp[hXl]) ?_
       refine Sim.seq (Sim.block ?_)
       refine Sim.step hmix hΓ (n:=0) (by simp[hlt,hXl,hm,hg];exact⟨rfl,rfl⟩) (by simp[hXl]) ?_
       refine Sim.step hmix hΓ (n:=0) (by simp[zAq,zQG,zAc,hfind,hlook,Tryz.f115];exact⟨rfl,rfl⟩) (by simp[hXl]) ?_
       refine Sim.exec hmix hΓ (n:=0) (by simp[zAq,zQG,zLT,hXq,hXsq,hXs,hXl,hal2,htk,b1,b2];exact⟨rfl,rfl,rfl⟩) (by simp[hXl]) ?_
       dsimp only
       refine Sim.exec hmix hΓ (n:=0) (by simp[y1];exact⟨rfl,rfl,rfl⟩) (by simp[hXl]) ?_
       dsimp only
       refine ⟨i+1,by omega,?_,by omega⟩
       rw[hnx,zDI]
       have tlx:=fun {T Tn F Fn}=>tl (T:=T) (Tn:=Tn) (F:=F) (Fn:=Fn) [0,3] (by decide)
       unfold DS.heap DS.cell0 at tlx;rw[eX,hd]at tlx
       refine tlx ?_ rfl fun j t x y h1 h2 h3=>?_
       · simp[AW]
       · match j,h1,h2 with
         | 0,h1,h2=>cases h1;cases h2;cases h3;exact⟨id,fks _⟩
         | 1,h1,h2=>cases h1;cases h2;cases h3;simp[AWb,flA]
     · have hin:i=m:=by omega
       subst hin
       have hltI:¬(i:Int)<i:=by omega
       refine Sim.exec hmix hΓ (n:=0) (by simp;exact⟨rfl,rfl,rfl⟩) (by simp[DS.heap,hn]) ?_
       dsimp only;rw[if_pos rfl]
       refine ⟨by trivial,?_⟩
       have hall:d.files.take i=d.files:=q6Z (by rw[hfl,hks,hm];exact qnZ _)
       rw[hall]
       refine tl [0,1] (by decide) ?_ rfl fun j t x y h1 h2 h3=>?_
       · simp[AW]
       · match j,h1,h2 with
         | 0,h1,h2=>cases h1;cases h2;cases h3;exact⟨id,fks _⟩
         | 1,h1,h2=>cases h1;cases h2;cases h3;simp[AWb]
 rintro e F' H' hlen1 ⟨rfl,hwk⟩;dsimp only;refine Sim.weak hwk hlen1 ?_;clear hwk hlen1;simp only[q9Z,qaZ,qbZ]
 refine Sim.exec hmix hΓ (n:=0) (by simp;exact⟨rfl,rfl,rfl⟩) (by simp[DS.heap,hn]) ?_
 refine ⟨.inr rfl,_,by simp[Tryz.f61] <;> rfl,?_⟩
 refine tl [1] (by decide) ?_ rfl fun j t x y h1 h2 h3=>?_
 · simp[AW]
 · match j,h1,h2 with
   | 0,h1,h2=>cases h1;cases h2;cases h3;simp[AWb]
def zGx(l:List (List UInt8×List UInt8)):Nat:=(l.map fun e=>e.2.length).sum
theorem zKF(l:List (List UInt8×List UInt8))(e:List UInt8×List UInt8):zGx (l++[e])=zGx l+e.2.length:=by simp[zGx]
theorem DS.used_sum(d:DS):d.used=zGx d.files:=by simp[DS.used,zGx,DS.files,Function.comp_def]
theorem DS.text_le{d:DS}{A B:Nat}(h:d.ok A B)(k:List UInt8):(d.text k).length<=B:=by
 unfold DS.text DS.file
 cases hg:d.fd.now.get k with
 | none=>simp
 | some n =>
   obtain⟨f,hf,hk⟩:=DS.has_file h hg;dsimp only;rw[hf];exact PF.ok_now hk
theorem DS.list_le{d:DS}{A B:Nat}(h:d.ok A B):d.list.length<=A:=by
 unfold DS.list;split
 · simp
 · have h1:=(FD.ok_now h.fd).2
   unfold FD.names;rw[(Zg _).length_eq];simpa[NM.keys] using h1
theorem zQl{B:Nat}:∀(l:List (List UInt8×List UInt8)),(∀e∈l,e.2.length<=B)->zGx l<=l.length*B
 | [],_=>by simp[zGx]
 | e::l,h=>by
   have h1:=h e (qhZ ..)
   have h2:=zQl l fun x hx=>h x (qiZ _ hx)
   simp only[zGx,s1Z,List.sum_cons,q7Z,Nat.succ_mul]at h2 ⊢;omega
theorem DS.sum_le{d:DS}{A B:Nat}(h:d.ok A B)(hA:A<=1000000)(hB:B<=1000000000000)(i:Nat):zGx (d.files.take i)<=1000000000000000000:=by
 have h1:=zQl (B:=B) (d.files.take i) fun e he=>by
   obtain⟨k,_,rfl⟩:=reZ.1 (List.mem_of_mem_take he);exact DS.text_le h k
 have h2:(d.files.take i).length<=1000000:=by
   have:=DS.list_le h
   simp[DS.files];omega
 have h3:=Nat.mul_le_mul h2 hB;omega
noncomputable def zW5(d:DS):Gam:=zo [(61,zCy [.ptr 0 0] (d.heap []) (.sl (d.fs.length+3) 0 d.files.length 2 false) (d.heap [.cells true (flA d.files)]))]
theorem zU0(d:DS){A B:Nat}(hok:d.ok A B)(hA:A<=1000000):GOk Pz (zW5 d):=zB (ZH (zE Tryz.func61 rfl (by decide)) (zM8 d hok hA) (by simp[DS.heap])) zC
theorem zQZ(d:DS){A B:Nat}(hok:d.ok A B)(hA:A<=1000000)(hB:B<=1000000000000):Ct Pz 32 [.ptr 0 0] (d.heap []) (.int .i64 d.used) (d.heap []):=by
 have hΓ:=zU0 d hok hA;have hlen:=d.heap_length [];have hsum:=DS.sum_le hok hA hB;rw[DS.used_sum];obtain⟨n,hn⟩:∃n,d.fs.length=n:=⟨_,rfl⟩;have hX:=behind d.fs
 have tl:=fun {T Tn F Fn}=>DS.tail d (T:=T) (Tn:=Tn) (F:=F) (Fn:=Fn)
 rw[hn]at hlen hX tl;refine zG Tryz.func32 rfl ?_;simp only[Tryz.ntmps32,q7Z,q8Z,Nat.reduceAdd,Nat.reduceSub,qbZ,q9Z,qaZ];rw[hlen];obtain⟨l,hl⟩:∃l,d.files=l:=⟨_,rfl⟩;obtain⟨m,hm⟩:∃m,l.length=m:=⟨_,rfl⟩;rw[hl]at hsum ⊢
 have hm6:m<=1000000:=by
   have:=DS.list_le hok
   rw[<-hm,<-hl];simp[DS.files];omega
 simp only[q8Z,Nat.add_zero]at hlen ⊢
 refine Sim.step hmix hΓ (n:=0) (by simp;exact⟨rfl,rfl⟩) (by simp[DS.heap,hn]) ?_
 refine Sim.seq (Sim.mono (Q:=fun e F' H'=>e=.normal/\Weak (n+3) F' H' ([.ptr 0 0,.top,.int .i64 (zGx l)]++qbZ 16 .top) (d.heap [])) (Sim.step hmix hΓ (n:=0) (by simp[zW5,hl,hm,hn];exact⟨rfl,rfl⟩) (by simp[DS.heap,hn]) ?_) ?_)
 · refine Sim.block (Sim.loopW (fun i:Nat=>i<=m)
     (fun i=>[.ptr 0 0,.top,.int .i64 (zGx (l.take i)),.top,.top,.top,.sl (n+3) 0 m 2 false,.int .i64 m,.int .i64 i]++qbZ 10 .top)
     (fun i=>d.heap [.cells true (flA l)]) (fun i=>m-i) 0 (by simp[DS.heap,hn]) (by simp) ?_ fun i hi=>?_)
   · refine tl [0] (by decide) ?_ rfl ?_
     · simp[AW,zGx]
     · intro j t x y h1 h2 h3
       match j,h1,h2 with
       | 0,h1,h2=>cases h1;cases h2;cases h3;simp[AWb]
   · by_cases hlt:i<m
     · have hltI:(i:Int)<m:=by omega
       have hilt:i<l.length:=by omega
       obtain⟨e,he⟩:∃e,l[i]=e:=⟨_,rfl⟩;have hg:=zCY l i hilt;rw[he]at hg
       have hnx:l.take (i+1)=l.take i++[e]:=by rw[List.take_add_one,q3Z hilt,he];rfl
       have hs:=hsum (i+1);rw[hnx,zKF]at hs;have hXl:=hX.len;have hXg:=hX.get;have hXg0:=hX.get0;have hXs:=hX.set;have hXs0:=hX.set0
       have k1:i*2+2<=m*2:=by omega
       have y1:IntKind.i64.wrap ((i:Int)+1)=i+1:=zV (by omega) (by omega)
       obtain⟨s,hs0⟩:∃s,zGx (l.take i)=s:=⟨_,rfl⟩;rw[hs0]at hs ⊢
       have y2:IntKind.i64.wrap ((s:Int)+e.2.length)=s+e.2.length:=zV (by omega) (by omega)
       unfold DS.heap DS.cell0;obtain⟨X,eX⟩:∃X,zK d.fs=X:=⟨_,rfl⟩;rw[eX]at hXl hXg hXg0 hXs hXs0 ⊢
       refine Sim.step hmix hΓ (n:=0) (by simp[hltI];exact⟨rfl,rfl⟩) (by simp[hXl]) ?_
       refine Sim.step hmix hΓ (n:=0) (by simp;exact⟨rfl,rfl⟩) (by simp[hXl]) ?_
       refine Sim.seq (Sim.block ?_)
       refine Sim.step hmix hΓ (n:=0) (by simp +decide [hlt,hXl,hm,hg,k1];exact⟨rfl,rfl⟩) (by simp[hXl]) ?_
       refine Sim.exec hmix hΓ (n:=0) (by simp[hXl,y2];exact⟨rfl,rfl,rfl⟩) (by simp[hXl]) ?_
       dsimp only
       refine Sim.exec hmix hΓ (n:=0) (by simp[y1];exact⟨rfl,rfl,rfl⟩) (by simp[hXl]) ?_
       dsimp only
       refine ⟨i+1,by omega,?_,by omega⟩
       rw[hnx,zKF,hs0]
       have tlx:=fun {T Tn F Fn}=>tl (T:=T) (Tn:=Tn) (F:=F) (Fn:=Fn) [0] (by decide)
       unfold DS.heap DS.cell0 at tlx;rw[eX]at tlx
       refine tlx ?_ rfl fun j t x y h1 h2 h3=>?_
       · simp[AW]
       · match j,h1,h2 with
         | 0,h1,h2=>cases h1;cases h2;cases h3;simp[AWb]
     · have hin:i=m:=by omega
       subst hin
       refine Sim.exec hmix hΓ (n:=0) (by simp;exact⟨rfl,rfl,rfl⟩) (by simp[DS.heap,hn]) ?_
       dsimp only;rw[if_pos rfl]
       refine ⟨by trivial,?_⟩
       rw[q6Z (by omega)]
       refine tl [] (by decide) ?_ rfl fun j t x y h1 h2 h3=>by simp at h1
       simp[AW]
 rintro e F' H' hlen1 ⟨rfl,hwk⟩;dsimp only;refine Sim.weak hwk hlen1 ?_;clear hwk hlen1;simp only[q9Z,qaZ,qbZ]
 refine Sim.exec hmix hΓ (n:=0) (by simp;exact⟨rfl,rfl,rfl⟩) (by simp[DS.heap,hn]) ?_
 refine ⟨.inr rfl,_,by simp[Tryz.f32] <;> rfl,?_⟩
 refine tl [] (by decide) ?_ rfl fun j t x y h1 h2 h3=>by simp at h1
 simp
def ZA:ABlk:=.cells true [.ptr 0 0]
def Zc(k:List UInt8):ABlk:=.cells true [.str k]
def zJb(d:DS)(fd:FD)(n:Int)(T:zA)(B:ABlk):zA :=
 d.cell0 1 2::.obj true fd.blks::.map (zP (fun i=>i+3) 0 d.fs++[(.int .i64 n,.ptr (d.fs.length+3+T.length) 0)])::(zK d.fs++(T++[B]))
noncomputable def zSe:Gam:=zo [(16,zNA),(17,zNs)]
theorem zVR:GOk Pz zSe:=zB zIK (zB zJU zC)
theorem DS.small_fd{d:DS}{A B:Nat}(h:d.ok A B)(hA:A<=1000000):d.fd.small:=FD.ok_mono h.fd hA
theorem DS.fresh{d:DS}{A B:Nat}(h:d.ok A B):FS.get d.fs (d.fd.last+1)=none:=FS.get_none.2 fun hm=>by have:=h.rng _ hm;omega
theorem zOH(d:DS){A B:Nat}(hok:d.ok A B)(hA:A<=1000000)(k:List UInt8)(hk:k.length<=9223372036854775807) :
   Ct Pz 28 [.ptr (d.fs.length+3) 0,.ptr (d.fs.length+4) 0] (d.heap [ZA,Zc k]) (.int .i64 (d.fd.create k).2.2)
     (if (d.fd.create k).2.2=0 then zJb d (d.fd.create k).1 (d.fd.create k).2.1 [ZA,Zc k] (.obj true (⟨[],[]⟩:PF).blks) else (⟨(d.fd.create k).1,d.fs,d.quota,d.steps,d.armed,d.down⟩:DS).heap [ZA,Zc k]):=by
 have hΓ:=zVR;have hsm:=DS.small_fd hok hA;obtain⟨n,hn⟩:∃n,d.fs.length=n:=⟨_,rfl⟩;have hX:=behind d.fs;rw[hn]at hX;refine zR Tryz.func28 rfl ?_;simp only[Tryz.ntmps28,q7Z,q8Z,Nat.reduceAdd,Nat.reduceSub,qbZ,q9Z,qaZ];have hXl:=hX.len;have hXg:=hX.get;have hXg0:=hX.get0;have hXs:=hX.set;have hXs0:=hX.set0
 have hz:(d.fd.create k).2.2=0->(d.fd.create k).2.1=d.fd.last+1:=by
   unfold FD.create;split
   · split
     · intro h;exact absurd h (by dsimp only;omega)
     · intro _;rfl
   · intro h;exact absurd h (by dsimp only;omega)
 obtain⟨f',num,e,hc⟩:∃f' num e,d.fd.create k=(f',num,e):=⟨_,_,_,rfl⟩;rw[hc]at hz ⊢;dsimp only at hz ⊢;have hfr:=DS.fresh hok;unfold DS.heap zJb DS.cell0 ZA Zc;rw[hn]
 have hlook:=zAB (fun i=>i+3) num 0 d.fs 0
 obtain⟨X,eX⟩:∃X,zK d.fs=X:=⟨_,rfl⟩;rw[eX]at hXl hXg hXg0 hXs hXs0 ⊢
 refine Sim.step hmix hΓ (n:=0) (by simp;exact⟨rfl,rfl⟩) (by simp[hXl]) ?_
 refine Sim.seq (Sim.draw hmix (by simp) ?_)
 refine SimR.many hΓ 5 (by simp[zI];rfl) (by omega) (by kernel_rfl) (by simp +decide [hXl];first | exact⟨rfl,rfl⟩ | exact⟨by kernel_rfl,rfl,rfl⟩) ?_
 refine SimR.one hΓ _ rfl (by kernel_rfl) (by simp +decide [zSe,zNA,hsm,hk,hc];exact⟨rfl,rfl⟩) ?_
 refine SimR.many hΓ 11 (by simp[zI,zS];rfl) (by omega) (by kernel_rfl) (by simp +decide;first | exact⟨rfl,rfl⟩ | exact⟨by kernel_rfl,rfl,rfl⟩) ?_
 refine SimR.done rfl ?_;dsimp only;by_cases he:e=0
 · subst he
   have hnum:=hz rfl;subst hnum;rw[hfr]at hlook;simp only[Option.map_none]at hlook
   refine Sim.seq (Sim.step hmix hΓ (n:=0) (by simp;exact⟨rfl,rfl⟩) (by simp[hXl]) (Sim.cond (t:=true) (by simp) ?_))
   rw[if_pos rfl]
   refine Sim.draw hmix (by simp) ?_
   refine SimR.many hΓ 6 (by simp[zI];rfl) (by omega) (by kernel_rfl) (by simp +decide [zSe,zNs,hXl];first | exact⟨rfl,rfl⟩ | exact⟨by kernel_rfl,rfl,rfl⟩) ?_
   refine SimR.one hΓ _ rfl (by kernel_rfl) (by simp +decide [hlook];exact⟨rfl,rfl⟩) ?_
   refine SimR.done rfl ?_;dsimp only
   refine Sim.exec hmix hΓ (n:=0) (by simp;exact⟨rfl,rfl,rfl⟩) (by simp[hXl]) ?_
   refine ⟨.inr rfl,by simp[Tryz.f28],?_⟩
   simp
 · have he':(e==0)=false:=by simpa using he
   refine Sim.step hmix hΓ (n:=0) (by simp +decide [he'];exact⟨rfl,rfl⟩) (by simp[hXl]) ?_
   refine Sim.exec hmix hΓ (n:=0) (by simp;exact⟨rfl,rfl,rfl⟩) (by simp[hXl]) ?_
   refine ⟨.inr rfl,by simp[Tryz.f28],?_⟩
   simp[he]
theorem zH3(n t:Nat):(0::1::2::(List.range (n+1)).map fun i=>if i<n then i+3 else n+3+t)=List.range (n+3)++[n+3+t]:=by
 refine List.ext_getElem? fun i=>?_
 rcases s2Z i (n+3) with h | h
 · rw[q4Z (by simpa using h),rfZ h]
   match i,h with
   | 0,_=>rfl
   | 1,_=>rfl
   | 2,_=>rfl
   | i+3,h =>
     simp only[r9Z]
     rw[qzZ,rfZ (by omega),rhZ,if_pos (by omega)]
 · obtain⟨j,rfl⟩:∃j,i=n+3+j:=⟨i-(n+3),by omega⟩
   rw[zGu,show n+3+j=n+j+1+1+1 by omega]
   simp only[r9Z]
   cases j with
   | zero=>simp
   | succ j=>simp
theorem zPi(d:DS)(fd:FD)(n:Int)(T:zA)(f:PF)(v:AV)(hv:zBw v=true) :
   Weak (d.fs.length+3) [v] (zJb d fd n T (.obj true f.blks)) [v] ((⟨fd,d.fs++[(n,f)],d.quota,d.steps,d.armed,d.down⟩:DS).heap []):=by
 obtain⟨N,hN⟩:∃N,d.fs.length=N:=⟨_,rfl⟩;have hX:=behind d.fs;rw[hN]at hX
 have hat:DAt (zJb d fd n T (.obj true f.blks)) ⟨fd,d.fs++[(n,f)],d.quota,d.steps,d.armed,d.down⟩ 0 1 2 (fun i=>if i<N then i+3 else N+3+T.length):=by
   unfold zJb
   refine ⟨rfl,rfl,?_,fun i e he=>?_,?_⟩
   · simp only[r9Z,raZ]
     rw[zGl,zAU 0 d.fs (fun i _ hi=>if_pos (by omega))]
     simp[hN]
   · dsimp only at he ⊢
     by_cases hi:i<N
     · rw[if_pos hi]
       simp only[r9Z]
       rw[q4Z (by omega)]at he
       rw[q4Z (by rw[hX.len];exact hi),Zh he]
     · rw[if_neg hi]
       have hie:i=N:=by
         have:=(q1Z.1 he).1
         simp at this;omega
       subst hie
       rw[q5Z (by omega),hN,Nat.sub_self]at he
       simp at he;subst he
       rw[show i+3+T.length=i+T.length+1+1+1 by omega]
       simp only[r9Z];rw[hX.get,q5Z (qnZ _),Nat.sub_self];rfl
   · dsimp only
     rw[qdZ,hN];simp only[q7Z,q8Z,s8Z];rw[zH3,List.nodup_append]
     exact⟨List.nodup_range,by simp,fun a ha b hb=>by have:=List.mem_range.1 ha;simp at hb;omega⟩
 have:=hat.weak (F:=[v]) (Fn:=[v]) (n:=N+3) (by
   dsimp only;rw[qdZ,hN];simp only[q7Z,q8Z,s8Z]
   rw[zH3,List.take_left' (by simp)]) ⟨zBm _ hv,trivial⟩
 rw[hN,DS.heap_eq,r2Z];exact this
theorem zGt(d:DS)(T:zA)(v:AV)(hv:zBw v=true):Weak (d.fs.length+3) [v] (d.heap T) [v] (d.heap []) :=
 DS.tail d [] (by decide) ⟨zBm _ hv,trivial⟩ rfl fun i t x y h=>by simp at h
theorem zP7(d:DS){A B:Nat}(hok:d.ok A B)(hA:A<=999999)(k:List UInt8)(hk:k.length<=9223372036854775807) :
   Ct Pz 9 [.ptr 0 0,.str k] (d.heap []) (.int .i64 (d.create k).2) ((d.create k).1.heap []):=by
 have hc:=DS.ok_count hok
 have hl1:(d.heap [ZA,Zc k]).length=d.fs.length+5:=by rw[DS.heap_length];simp
 obtain⟨H1,hH1⟩:∃H1:zA,H1=(if d.count.down=true then d.count.heap [ZA,Zc k] else if (d.count.fd.create k).2.2=0 then zJb d.count (d.count.fd.create k).1 (d.count.fd.create k).2.1 [ZA,Zc k] (.obj true (⟨[],[]⟩:PF).blks) else (⟨(d.count.fd.create k).1,d.count.fs,d.count.quota,d.count.steps,d.count.armed,d.count.down⟩:DS).heap [ZA,Zc k]):=⟨_,rfl⟩
 have hl2:(d.heap [ZA,Zc k]).length<=H1.length:=by
   rw[hH1,hl1];split
   · simp[DS.heap_length]
   split
   · simp[zJb]
   · simp[DS.heap_length]
 have hst:=zQx d [ZA,Zc k] 28 [.ptr (d.fs.length+3) 0,.ptr (d.fs.length+4) 0] (v:=.int .i64 (d.create k).2) (H':=H1) (zE Tryz.func28 rfl (by decide)) (by decide)
   ⟨hok.s0,by have:=hok.s1;omega⟩ ⟨hok.a0,hok.a1⟩ hl2 (fun hd=>?_) (fun hd=>?_)
 rotate_left
 · refine ⟨by unfold DS.create DS.step;rw[if_pos hd],by rw[hH1,if_pos hd];rfl⟩
 · have:=zOH d.count hc (by omega) k hk
   rw[DS.count_fs]at this
   have hd':¬d.count.down=true:=by rw[hd];decide
   have e:(d.create k).2=(d.count.fd.create k).2.2:=by
     unfold DS.create DS.step;rw[if_neg hd'];dsimp only;split
     · rename_i h;rw[h]
     · rfl
   rw[e,hH1,if_neg hd'];rw[DS.count_fs];exact this
 have hΓ:GOk Pz (zo [(27,zCy [.ptr 0 0,.func 28 [] [.ptr (d.fs.length+3) 0,.ptr (d.fs.length+4) 0]] (d.heap [ZA,Zc k]) (.int .i64 (d.create k).2) H1)]) :=
   zB (ZH (zE Tryz.func27 rfl (by decide)) hst hl2) zC
 have hfin:Weak (d.fs.length+3) [.int .i64 (d.create k).2] H1 [.int .i64 (d.create k).2] ((d.create k).1.heap []):=by
   rw[hH1];unfold DS.create DS.step;by_cases hd:d.count.down=true
   · rw[if_pos hd,if_pos hd]
     have:=zGt d.count [ZA,Zc k] (.int .i64 13) rfl;rw[DS.count_fs]at this;exact this
   · rw[if_neg hd,if_neg hd]
     by_cases he:(d.count.fd.create k).2.2=0
     · simp only[if_pos he]
       have:=zPi d.count (d.count.fd.create k).1 (d.count.fd.create k).2.1 [ZA,Zc k] ⟨[],[]⟩ (.int .i64 0) rfl;rw[DS.count_fs]at this ⊢;exact this
     · simp only[if_neg he]
       have:=zGt (⟨(d.count.fd.create k).1,d.count.fs,d.count.quota,d.count.steps,d.count.armed,d.count.down⟩:DS) [ZA,Zc k] (.int .i64 (d.count.fd.create k).2.2) rfl;dsimp only at this;rw[DS.count_fs]at this ⊢;exact this
 refine zG Tryz.func9 rfl ?_;simp only[Tryz.ntmps9,q7Z,q8Z,Nat.reduceAdd,Nat.reduceSub,qbZ,q9Z,qaZ];rw[DS.heap_length];simp only[q8Z,Nat.add_zero];have hX:=behind d.fs;obtain⟨n,hn⟩:∃n,d.fs.length=n:=⟨_,rfl⟩;rw[hn]at hX hΓ hfin ⊢;have hXl:=hX.len;have hXg:=hX.get;have hXg0:=hX.get0;generalize (d.create k).2=e at hΓ hfin ⊢;generalize (d.create k).1.heap []=HF at hfin ⊢;clear hst hl1 hH1;unfold DS.heap DS.cell0 ZA Zc at hΓ;unfold DS.heap DS.cell0;obtain⟨X,eX⟩:∃X,zK d.fs=X:=⟨_,rfl⟩;rw[eX]at hXl hXg hXg0 hΓ ⊢
 refine Sim.step hmix hΓ (n:=0) (by simp;exact⟨rfl,rfl⟩) (by simp[hXl]) ?_
 refine Sim.exec hmix hΓ (n:=0) (by simp[hXl];exact⟨rfl,rfl,rfl⟩) (by simp[hXl]) ?_
 exact⟨.inr rfl,_,by simp[Tryz.f9] <;> rfl,hfin⟩
theorem zHp(d:DS){A B:Nat}(hok:d.ok A B)(hA:A<=999999)(T T2:zA)(F:FuncId)(caps:List AV)(g:DS->DS×Int)(he:∀cargs w,(callFunc F cargs).run Pz w=.ok (.enter F cargs) w)(hF:F≠yl)
   (hfs:(g d.count).1.fs.length=d.fs.length) (hT:T.length<=T2.length) (hcl:d.count.down=false->Ct Pz F caps (d.count.heap T) (.int .i64 (g d.count).2) ((g d.count).1.heap T2)) :
   ∃H1,Ct Pz 27 [.ptr 0 0,.func F [] caps] (d.heap T) (.int .i64 (d.step g).2) H1/\(d.heap T).length<=H1.length/\(∃T3,H1=(d.step g).1.heap T3/\T.length<=T3.length)/\(d.step g).1.fs.length=d.fs.length /\
     Sound Pz 27 (zCy [.ptr 0 0,.func F [] caps] (d.heap T) (.int .i64 (d.step g).2) H1):=by
 have e:(d.step g).1.fs.length=d.fs.length:=by
   unfold DS.step;split
   · rw[DS.count_fs]
   · exact hfs
 obtain⟨T3,hT3⟩:∃T3,T3=(if d.count.down=true then T else T2):=⟨_,rfl⟩
 have hl3:T.length<=T3.length:=by rw[hT3];split <;> omega
 have hl:(d.heap T).length<=((d.step g).1.heap T3).length:=by rw[DS.heap_length,DS.heap_length,e];omega
 have hct:Ct Pz 27 [.ptr 0 0,.func F [] caps] (d.heap T) (.int .i64 (d.step g).2) ((d.step g).1.heap T3):=by
   refine zQx d T F caps he hF ⟨hok.s0,by have:=hok.s1;omega⟩ ⟨hok.a0,hok.a1⟩ hl (fun hd=>?_) fun hd=>?_
   · unfold DS.step
     rw[if_pos hd,hT3,if_pos hd];exact⟨rfl,rfl⟩
   · have:=hcl hd
     unfold DS.step
     rw[if_neg (by rw[hd];decide),hT3,if_neg (by rw[hd];decide)]
     exact this
 exact⟨_,hct,hl,⟨T3,rfl,hl3⟩,e,ZH (zE Tryz.func27 rfl (by decide)) hct hl⟩
theorem zCS{d e:DS}(T:zA)(v:AV)(hv:zBw v=true)(h:e.fs.length=d.fs.length):Weak (d.fs.length+3) [v] (e.heap T) [v] (e.heap []):=by
 rw[<-h];exact zGt e T v hv
def DS.fdTo(d:DS)(f:FD):DS:=⟨f,d.fs,d.quota,d.steps,d.armed,d.down⟩
noncomputable def zVo:Gam:=zo [(18,zFU)]
theorem zTD:GOk Pz zVo:=zB zD3 zC
theorem zMZ(d:DS)(hk:d.fd.acts.length<=1000000):Ct Pz 108 [.ptr (d.fs.length+3) 0] (d.heap [ZA]) (.int .i64 0) ((d.fdTo (d.fd.survive d.fd.acts.length)).heap [ZA]):=by
 have hΓ:=zTD;obtain⟨n,hn⟩:∃n,d.fs.length=n:=⟨_,rfl⟩;have hX:=behind d.fs;rw[hn]at hX;refine zR Tryz.func108 rfl ?_;simp only[Tryz.ntmps108,q7Z,q8Z,Nat.reduceAdd,Nat.reduceSub,qbZ,q9Z,qaZ];have hXl:=hX.len;have hXg:=hX.get;have hXg0:=hX.get0;unfold DS.heap DS.cell0 ZA DS.fdTo;rw[hn];obtain⟨X,eX⟩:∃X,zK d.fs=X:=⟨_,rfl⟩;rw[eX]at hXl hXg hXg0 ⊢
 refine Sim.step hmix hΓ (n:=0) (by simp;exact⟨rfl,rfl⟩) (by simp[hXl]) ?_
 refine Sim.step hmix hΓ (n:=0) (by simp[zVo,zFU,hk,hXl];exact⟨rfl,rfl⟩) (by simp[hXl]) ?_
 refine Sim.exec hmix hΓ (n:=0) (by simp;exact⟨rfl,rfl,rfl⟩) (by simp[hXl]) ?_
 exact⟨.inr rfl,by simp[Tryz.f108],rfl⟩
theorem zNc(d:DS){A B:Nat}(hok:d.ok A B)(hA:A<=999999):Ct Pz 46 [.ptr 0 0] (d.heap []) (.int .i64 d.syncDir.2) (d.syncDir.1.heap []):=by
 have hc:=DS.ok_count hok
 obtain⟨H1,hct,hl,⟨T3,hT3,_⟩,hfs,hsound⟩:=zHp d hok hA [ZA] [ZA] 108 [.ptr (d.fs.length+3) 0] (fun d=>(⟨d.fd.survive d.fd.acts.length,d.fs,d.quota,d.steps,d.armed,d.down⟩,0)) (zE Tryz.func108 rfl (by decide)) (by decide)
   (by dsimp only;rw[DS.count_fs]) (qnZ _) fun _=>by
     have:=zMZ d.count (by have:=hc.fd.len;omega)
     rw[DS.count_fs]at this;exact this
 have hΓ:=zB hsound zC;have hfin:=zCS (d:=d) T3 (.int .i64 d.syncDir.2) rfl hfs;rw[<-hT3]at hfin;unfold DS.syncDir at hfin ⊢;refine zG Tryz.func46 rfl ?_;simp only[Tryz.ntmps46,q7Z,q8Z,Nat.reduceAdd,Nat.reduceSub,qbZ,q9Z,qaZ];rw[DS.heap_length];simp only[q8Z,Nat.add_zero];clear hct hT3;generalize DS.step d _=R at hΓ hfin ⊢;generalize R.1.heap []=HF at hfin ⊢;generalize R.2=e at hΓ hfin ⊢;have hX:=behind d.fs;obtain⟨n,hn⟩:∃n,d.fs.length=n:=⟨_,rfl⟩;rw[hn]at hX hΓ hfin ⊢;have hXl:=hX.len;have hXg:=hX.get;have hXg0:=hX.get0;unfold DS.heap DS.cell0 ZA at hΓ;unfold DS.heap DS.cell0;obtain⟨X,eX⟩:∃X,zK d.fs=X:=⟨_,rfl⟩;rw[eX]at hXl hXg hXg0 hΓ ⊢
 refine Sim.step hmix hΓ (n:=0) (by simp;exact⟨rfl,rfl⟩) (by simp[hXl]) ?_
 refine Sim.exec hmix hΓ (n:=0) (by simp[hXl];exact⟨rfl,rfl,rfl⟩) (by simp[hXl]) ?_
 exact⟨.inr rfl,_,by simp[Tryz.f46] <;> rfl,hfin⟩
noncomputable def zVy:Gam:=zo [(113,zTt)]
theorem zS1:GOk Pz zVy:=zB zPm zC
theorem zOv(d:DS)(hsm:d.fd.small)(k:List UInt8):Ct Pz 112 [.ptr (d.fs.length+3) 0,.ptr (d.fs.length+4) 0] (d.heap [ZA,Zc k]) (.int .i64 (d.fd.remove k).2) ((d.fdTo (d.fd.remove k).1).heap [ZA,Zc k]):=by
 have hΓ:=zS1;obtain⟨n,hn⟩:∃n,d.fs.length=n:=⟨_,rfl⟩;have hX:=behind d.fs;rw[hn]at hX;refine zR Tryz.func112 rfl ?_;simp only[Tryz.ntmps112,q7Z,q8Z,Nat.reduceAdd,Nat.reduceSub,qbZ,q9Z,qaZ];have hXl:=hX.len;have hXg:=hX.get;have hXg0:=hX.get0;unfold DS.heap DS.cell0 ZA Zc DS.fdTo;rw[hn];obtain⟨X,eX⟩:∃X,zK d.fs=X:=⟨_,rfl⟩;rw[eX]at hXl hXg hXg0 ⊢
 refine Sim.step hmix hΓ (n:=0) (by simp;exact⟨rfl,rfl⟩) (by simp[hXl]) ?_
 refine Sim.seq (Sim.draw hmix (by simp) ?_)
 refine SimR.many hΓ 5 (by simp[zI];rfl) (by omega) (by kernel_rfl) (by simp +decide [hXl];first | exact⟨rfl,rfl⟩ | exact⟨by kernel_rfl,rfl,rfl⟩) ?_
 refine SimR.one hΓ _ rfl (by kernel_rfl) (by simp +decide [zVy,zTt,hsm];exact⟨rfl,rfl⟩) ?_
 refine SimR.many hΓ 7 (by simp[zI,zS];rfl) (by omega) (by kernel_rfl) (by simp +decide;first | exact⟨rfl,rfl⟩ | exact⟨by kernel_rfl,rfl,rfl⟩) ?_
 refine SimR.done rfl ?_;dsimp only
 refine Sim.exec hmix hΓ (n:=0) (by simp;exact⟨rfl,rfl,rfl⟩) (by simp[hXl]) ?_
 exact⟨.inr rfl,by simp[Tryz.f112],rfl⟩
theorem zPO(d:DS){A B:Nat}(hok:d.ok A B)(hA:A<=999999)(k:List UInt8):Ct Pz 50 [.ptr 0 0,.str k] (d.heap []) (.int .i64 (d.remove k).2) ((d.remove k).1.heap []):=by
 have hc:=DS.ok_count hok
 obtain⟨H1,hct,hl,⟨T3,hT3,_⟩,hfs,hsound⟩:=zHp d hok hA [ZA,Zc k] [ZA,Zc k] 112 [.ptr (d.fs.length+3) 0,.ptr (d.fs.length+4) 0] (fun d=>(⟨(d.fd.remove k).1,d.fs,d.quota,d.steps,d.armed,d.down⟩,(d.fd.remove k).2)) (zE Tryz.func112 rfl (by decide)) (by decide)
   (by dsimp only;rw[DS.count_fs]) (qnZ _) fun _=>by
     have:=zOv d.count (DS.small_fd hc (by omega)) k
     rw[DS.count_fs]at this;exact this
 have hΓ:=zB hsound zC;have hfin:=zCS (d:=d) T3 (.int .i64 (d.remove k).2) rfl hfs;rw[<-hT3]at hfin;unfold DS.remove at hfin ⊢;refine zG Tryz.func50 rfl ?_;simp only[Tryz.ntmps50,q7Z,q8Z,Nat.reduceAdd,Nat.reduceSub,qbZ,q9Z,qaZ];rw[DS.heap_length];simp only[q8Z,Nat.add_zero];clear hct hT3;generalize DS.step d _=R at hΓ hfin ⊢;generalize R.1.heap []=HF at hfin ⊢;generalize R.2=e at hΓ hfin ⊢;have hX:=behind d.fs;obtain⟨n,hn⟩:∃n,d.fs.length=n:=⟨_,rfl⟩;rw[hn]at hX hΓ hfin ⊢;have hXl:=hX.len;have hXg:=hX.get;have hXg0:=hX.get0;unfold DS.heap DS.cell0 ZA Zc at hΓ;unfold DS.heap DS.cell0;obtain⟨X,eX⟩:∃X,zK d.fs=X:=⟨_,rfl⟩;rw[eX]at hXl hXg hXg0 hΓ ⊢
 refine Sim.step hmix hΓ (n:=0) (by simp;exact⟨rfl,rfl⟩) (by simp[hXl]) ?_
 refine Sim.exec hmix hΓ (n:=0) (by simp[hXl];exact⟨rfl,rfl,rfl⟩) (by simp[hXl]) ?_
 exact⟨.inr rfl,_,by simp[Tryz.f50] <;> rfl,hfin⟩
theorem ZC(X:zA){n:Nat}(hl:X.length=n):Behind X n:=by
 refine ⟨hl,fun T j=>?_,fun T=>?_,fun T j v=>?_,fun T v=>?_⟩
 · rw[q5Z (by omega),hl];congr 1;omega
 · rw[q5Z (by omega),hl,Nat.sub_self]
 · rw[List.set_append_right _ _ (by omega),hl];congr 2;omega
 · rw[List.set_append_right _ _ (by omega),hl,Nat.sub_self]
def zEQ(F:FuncId)(caps:List AV):ABlk:=.cells true [.func F [] caps]
def ofG(k:List UInt8)(g:DS->PF->PF×Int)(d:DS):DS×Int:=match d.fd.now.get k with
 | none=>(d,9)
 | some n=>match FS.get d.fs n with
   | none=>(d,1)
   | some f=>(⟨d.fd,FS.upd d.fs n fun _=>(g d f).1,d.quota,d.steps,d.armed,d.down⟩,(g d f).2)
theorem zQm(d:DS)(k:List UInt8)(g:DS->PF->PF×Int):d.of k g=d.step (ofG k g):=rfl
def DS.fileTo(d:DS)(n:Int)(f:PF):DS:=⟨d.fd,FS.upd d.fs n fun _=>f,d.quota,d.steps,d.armed,d.down⟩
theorem zV9(d:DS){A B:Nat}(hok:d.ok A B)(T0 T2:zA)(k:List UInt8)(F:FuncId)(caps:List AV)(g:DS->PF->PF×Int)(he:∀cargs w,(callFunc F cargs).run Pz w=.ok (.enter F cargs) w)(hF:F≠yl)(hF2:F≠37)
   (hT2:T0.length+3<=T2.length)
   (hcl:∀v f,d.fd.now.get k=some v->FS.get d.fs v=some f->Ct Pz F (.ptr (FS.at d.fs v+3) 0::caps) (d.heap (T0++[ZA,Zc k,zEQ F caps])) (.int .i64 (g d f).2) ((d.fileTo v (g d f).1).heap T2)) :
   Ct Pz 88 [.ptr (d.fs.length+T0.length+3) 0,.ptr (d.fs.length+T0.length+4) 0,.ptr (d.fs.length+T0.length+5) 0] (d.heap (T0++[ZA,Zc k,zEQ F caps])) (.int .i64 (ofG k g d).2) ((ofG k g d).1.heap (if (d.fd.now.get k).isSome then T2 else T0++[ZA,Zc k,zEQ F caps])):=by
 obtain⟨n,hn⟩:∃n,d.fs.length+T0.length=n:=⟨_,rfl⟩
 have hX:=ZC (zK d.fs++T0) (n:=n) (by rw[qdZ,zu,hn])
 have hlen:(d.heap (T0++[ZA,Zc k,zEQ F caps])).length=n+6:=by rw[DS.heap_length,qdZ,<-hn];simp;omega
 refine zR Tryz.func88 rfl ?_;simp only[Tryz.ntmps88,q7Z,q8Z,Nat.reduceAdd,Nat.reduceSub,qbZ,q9Z,qaZ];rw[hlen,hn];have hXl:=hX.len;have hXg:=hX.get;have hXg0:=hX.get0
 have hlook:∀v f,d.fd.now.get k=some v->FS.get d.fs v=some f->zAS (zP (fun i=>i+3) 0 d.fs) (.int .i64 v) 0=some (some (FS.at d.fs v,.ptr (FS.at d.fs v+3) 0)):=fun v f _ hf=>by
   have:=zAB (fun i=>i+3) v 0 d.fs 0
   rw[hf]at this;simpa using this
 have hheap:d.heap (T0++[ZA,Zc k,zEQ F caps])=.cells true [.ptr 1 0,.map 2,.int .i64 d.quota,.int .i64 d.steps,.int .i64 d.armed,.bool d.down]::.obj true d.fd.blks::.map (zP (fun i=>i+3) 0 d.fs)::(zK d.fs++T0++[.cells true [.ptr 0 0],.cells true [.str k],.cells true [.func F [] caps]]):=by
   unfold DS.heap DS.cell0
   rw[qeZ];rfl
 cases hg:d.fd.now.get k with
 | none =>
   have hfind:d.fd.find k=(0,false):=by unfold FD.find;rw[hg]
   have e:ofG k g d=(d,9):=by unfold ofG;rw[hg]
   rw[e];simp only[Option.isSome_none,qsZ,if_false];have hΓ:GOk Pz (zo [(37,zAc)]):=zB zAQ zC;rw[hheap];obtain⟨X,eX⟩:∃X,zK d.fs++T0=X:=⟨_,rfl⟩;rw[eX]at hXl hXg hXg0 ⊢
   refine Sim.step hmix hΓ (n:=0) (by simp;exact⟨rfl,rfl⟩) (by simp[hXl]) ?_
   refine Sim.seq (Sim.draw hmix (by simp[hXl]) ?_)
   refine SimR.many hΓ 5 (by simp[zI];rfl) (by omega) (by kernel_rfl) (by simp +decide [hXl];first | exact⟨rfl,rfl⟩ | exact⟨by kernel_rfl,rfl,rfl⟩) ?_
   refine SimR.one hΓ _ rfl (by kernel_rfl) (by simp +decide [zAc,hfind];exact⟨rfl,rfl⟩) ?_
   refine SimR.many hΓ 11 (by simp[zI,zS];rfl) (by omega) (by kernel_rfl) (by simp +decide;first | exact⟨rfl,rfl⟩ | exact⟨by kernel_rfl,rfl,rfl⟩) ?_
   refine SimR.done rfl ?_;dsimp only
   refine Sim.exec hmix hΓ (n:=0) (by simp;exact⟨rfl,rfl,rfl⟩) (by simp[hXl]) ?_
   exact⟨.inr rfl,by simp[Tryz.f88],rfl⟩
 | some v =>
   have hfind:d.fd.find k=(v,true):=FD.find_get hg;obtain⟨f,hf,hfok⟩:=DS.has_file hok hg
   have e:ofG k g d=(d.fileTo v (g d f).1,(g d f).2):=by unfold ofG;rw[hg];dsimp only;rw[hf];rfl
   rw[e];simp only[Option.isSome_some,if_true];have hl:=hlook v f hg hf;have hc:=hcl v f hg hf
   have hle:(d.heap (T0++[ZA,Zc k,zEQ F caps])).length<=((d.fileTo v (g d f).1).heap T2).length:=by
     rw[hlen,DS.heap_length]
     have:(d.fileTo v (g d f).1).fs.length=d.fs.length:=by
       have:=congrArg List.length (FS.keys_upd d.fs v fun _=>(g d f).1)
       simpa[FS.keys,DS.fileTo] using this
     rw[this];omega
   have hΓ:GOk Pz (zo [(37,zAc),(F,zCy (.ptr (FS.at d.fs v+3) 0::caps) (d.heap (T0++[ZA,Zc k,zEQ F caps])) (.int .i64 (g d f).2) ((d.fileTo v (g d f).1).heap T2))]) :=
     zB zAQ (zB (ZH he hc hle) zC (hg:=hF))
   have hF':¬F=1000000000:=hF;have hF2':¬F=37:=hF2;rw[hlen]at hle;generalize (g d f).2=r at hΓ ⊢;generalize (d.fileTo v (g d f).1).heap T2=HF at hΓ hle ⊢;generalize FS.at d.fs v=q at hΓ hl ⊢;rw[hheap]at hΓ ⊢;obtain⟨X,eX⟩:∃X,zK d.fs++T0=X:=⟨_,rfl⟩;rw[eX]at hXl hXg hXg0 hΓ ⊢
   refine Sim.step hmix hΓ (n:=0) (by simp;exact⟨rfl,rfl⟩) (by simp[hXl]) ?_
   refine Sim.seq (Sim.draw hmix (by simp[hXl]) ?_)
   refine SimR.many hΓ 5 (by simp[zI];rfl) (by omega) (by kernel_rfl) (by simp +decide [hXl];first | exact⟨rfl,rfl⟩ | exact⟨by kernel_rfl,rfl,rfl⟩) ?_
   refine SimR.one hΓ _ rfl (by kernel_rfl) (by simp +decide [zAc,hfind];exact⟨rfl,rfl⟩) ?_
   refine SimR.many hΓ 11 (by simp[zI,zS];rfl) (by omega) (by kernel_rfl) (by simp +decide;first | exact⟨rfl,rfl⟩ | exact⟨by kernel_rfl,rfl,rfl⟩) ?_
   refine SimR.done rfl ?_;dsimp only
   refine Sim.step hmix hΓ (n:=0) (by simp;exact⟨rfl,rfl⟩) (by simp[hXl]) ?_
   refine Sim.seq (Sim.draw hmix (by simp[hXl]) ?_)
   refine SimR.many hΓ 7 (by simp[zI];rfl) (by omega) (by kernel_rfl) (by simp +decide [hl,hXl];first | exact⟨rfl,rfl⟩ | exact⟨by kernel_rfl,rfl,rfl⟩) ?_
   refine SimR.one hΓ _ rfl (by kernel_rfl) (by simp +decide [hF',hF2'];exact⟨rfl,rfl⟩) ?_
   refine SimR.many hΓ 9 (by simp[zI,zS];rfl) (by omega) (by kernel_rfl) (by simp +decide;first | exact⟨rfl,rfl⟩ | exact⟨by kernel_rfl,rfl,rfl⟩) ?_
   refine SimR.done rfl ?_;dsimp only
   refine Sim.exec hmix hΓ (n:=0) (by simp;exact⟨rfl,rfl,rfl⟩) hle ?_
   exact⟨.inr rfl,by simp[Tryz.f88],rfl⟩
theorem zPY(d:DS)(v:Int)(f:PF):(d.fileTo v f).fs.length=d.fs.length:=by
 have:=congrArg List.length (FS.keys_upd d.fs v fun _=>f)
 simpa[FS.keys,DS.fileTo] using this
theorem zQ0(d:DS)(k:List UInt8)(g:DS->PF->PF×Int):(ofG k g d).1.fs.length=d.fs.length:=by
 unfold ofG;split
 · rfl
 split
 · rfl
 · exact zPY d _ _
theorem zLO(d:DS){A B:Nat}(hok:d.ok A B)(hA:A<=999999)(T0 T2:zA)(k:List UInt8)(F:FuncId)(caps:List AV)(g:DS->PF->PF×Int)(he:∀cargs w,(callFunc F cargs).run Pz w=.ok (.enter F cargs) w)(hF:F≠yl)(hF2:F≠37)
   (hT2:T0.length+3<=T2.length)
   (hcl:∀v f,d.fd.now.get k=some v->FS.get d.fs v=some f->Ct Pz F (.ptr (FS.at d.fs v+3) 0::caps) (d.count.heap (T0++[ZA,Zc k,zEQ F caps])) (.int .i64 (g d.count f).2) ((d.count.fileTo v (g d.count f).1).heap T2)) :
   ∃H1,Ct Pz 29 [.ptr 0 0,.str k,.func F [] caps] (d.heap T0) (.int .i64 (d.of k g).2) H1/\(d.heap T0).length<=H1.length/\(∃T3,H1=(d.of k g).1.heap T3/\T0.length<=T3.length)/\(d.of k g).1.fs.length=d.fs.length:=by
 have hc:=DS.ok_count hok
 obtain⟨H1,hct,hl,⟨T3,hT3,hl3⟩,hfs,hsound⟩:=zHp d hok hA (T0++[ZA,Zc k,zEQ F caps]) (if (d.fd.now.get k).isSome then T2 else T0++[ZA,Zc k,zEQ F caps]) 88 [.ptr (d.fs.length+T0.length+3) 0,.ptr (d.fs.length+T0.length+4) 0,.ptr (d.fs.length+T0.length+5) 0] (ofG k g) (zE Tryz.func88 rfl (by decide)) (by decide)
   (by rw[zQ0,DS.count_fs]) (by split <;> simp <;> omega) fun _=>by
     have:=zV9 d.count hc T0 T2 k F caps g he hF hF2 hT2 (by rw[DS.count_fd,DS.count_fs];exact hcl)
     rw[DS.count_fs,DS.count_fd]at this;exact this
 have hΓ:=zB hsound zC;rw[zQm]
 refine ⟨H1,?_,by rw[DS.heap_length]at hl ⊢;simp at hl;omega,⟨T3,hT3,by simp at hl3;omega⟩,hfs⟩
 obtain⟨n,hn⟩:∃n,d.fs.length+T0.length=n:=⟨_,rfl⟩
 have hX:=ZC (zK d.fs++T0) (n:=n) (by rw[qdZ,zu,hn])
 have hlen:(d.heap T0).length=n+3:=by rw[DS.heap_length,<-hn]
 refine zR Tryz.func29 rfl ?_;simp only[Tryz.ntmps29,q7Z,q8Z,Nat.reduceAdd,Nat.reduceSub,qbZ,q9Z,qaZ];rw[hlen];have hXl:=hX.len;have hXg:=hX.get;have hXg0:=hX.get0
 have hheap:d.heap (T0++[ZA,Zc k,zEQ F caps])=.cells true [.ptr 1 0,.map 2,.int .i64 d.quota,.int .i64 d.steps,.int .i64 d.armed,.bool d.down]::.obj true d.fd.blks::.map (zP (fun i=>i+3) 0 d.fs)::(zK d.fs++T0++[.cells true [.ptr 0 0],.cells true [.str k],.cells true [.func F [] caps]]):=by
   unfold DS.heap DS.cell0
   rw[qeZ];rfl
 have hle:n+3<=H1.length:=by rw[DS.heap_length]at hl;simp at hl;omega
 rw[hn,hheap]at hΓ;clear hct hT3 hl hheap;unfold DS.heap DS.cell0;generalize (DS.step d (ofG k g)).2=e at hΓ ⊢;obtain⟨X,eX⟩:∃X,zK d.fs++T0=X:=⟨_,rfl⟩;rw[eX]at hXl hXg hXg0 hΓ ⊢
 refine Sim.step hmix hΓ (n:=0) (by simp[hXl];exact⟨rfl,rfl⟩) (by simp[hXl]) ?_
 refine Sim.step hmix hΓ (n:=0) (by simp[hXl];exact⟨rfl,rfl⟩) (by simp[hXl]) ?_
 refine Sim.exec hmix hΓ (n:=0) (by simp;exact⟨rfl,rfl,rfl⟩) hle ?_
 exact⟨.inr rfl,by simp[Tryz.f29],rfl⟩
theorem zCb{d:DS}{v:Int}{f:PF}(g:PF)(hf:FS.get d.fs v=some f)(T:zA):(d.fileTo v g).heap T=d.cell0 1 2::.obj true d.fd.blks::.map (zP (fun i=>i+3) 0 d.fs)::(zK d.fs++T).set (FS.at d.fs v) (.obj true g.blks):=by
 unfold DS.heap DS.fileTo DS.cell0;dsimp only
 rw[zEZ,zH9 (fun _=>g) hf,List.set_append_left _ _ (by rw[zu];exact FS.at_lt hf)]
theorem zCz{d:DS}{v:Int}{f:PF}(hf:FS.get d.fs v=some f)(T:zA):(zK d.fs++T)[FS.at d.fs v]? = some (.obj true f.blks):=by
 rw[q4Z (by rw[zu];exact FS.at_lt hf)]
 exact Zh (FS.at_get hf)
noncomputable def zVg:Gam:=zo [(106,zPv)]
theorem zT6:GOk Pz zVg:=zB zMA zC
theorem zS6(d:DS)(T:zA)(v:Int)(f:PF)(hf:FS.get d.fs v=some f):Ct Pz 105 [.ptr (FS.at d.fs v+3) 0] (d.heap T) (.int .i64 0) ((d.fileTo v ⟨f.now,[]⟩).heap T):=by
 have hΓ:=zT6;rw[zCb _ hf];have hq:=zCz hf T;refine zR Tryz.func105 rfl ?_;simp only[Tryz.ntmps105,q7Z,q8Z,Nat.reduceAdd,Nat.reduceSub,qbZ,q9Z,qaZ];unfold DS.heap DS.cell0;obtain⟨X,eX⟩:∃X,zK d.fs++T=X:=⟨_,rfl⟩;obtain⟨q,eq⟩:∃q,FS.at d.fs v=q:=⟨_,rfl⟩;rw[eX]at hq ⊢;rw[eq]at hq ⊢
 refine Sim.step hmix hΓ (n:=0) (by simp;exact⟨rfl,rfl⟩) (by simp) ?_
 refine Sim.exec hmix hΓ (n:=0) (by simp[zVg,zPv,hq];exact⟨rfl,rfl,rfl⟩) (by simp) ?_
 exact⟨.inr rfl,by simp[Tryz.f105],rfl⟩
theorem zT2(d:DS){A B:Nat}(hok:d.ok A B)(hA:A<=999999)(k:List UInt8):Ct Pz 44 [.ptr 0 0,.str k] (d.heap []) (.int .i64 (d.sync k).2) ((d.sync k).1.heap []):=by
 obtain⟨H1,hct,hl,⟨T3,hT3,_⟩,hfs⟩:=zLO d hok hA [] [ZA,Zc k,zEQ 105 []] k 105 [] (fun _ f=>(⟨f.now,[]⟩,0)) (zE Tryz.func105 rfl (by decide)) (by decide) (by decide) (by simp) fun v f _ hf=>by
   have:=zS6 d.count [ZA,Zc k,zEQ 105 []] v f (by rw[DS.count_fs];exact hf)
   rw[DS.count_fs]at this;exact this
 have hΓ:=zB (ZH (zE Tryz.func29 rfl (by decide)) hct hl) zC
 have hfin:=zCS (d:=d) T3 (.int .i64 (d.sync k).2) rfl hfs;unfold DS.sync at hfin ⊢;rw[<-hT3]at hfin;refine zG Tryz.func44 rfl ?_;simp only[Tryz.ntmps44,q7Z,q8Z,Nat.reduceAdd,Nat.reduceSub,qbZ,q9Z,qaZ];rw[DS.heap_length]at hl ⊢;simp only[q8Z,Nat.add_zero]at hl ⊢;clear hct hT3;generalize DS.of d k _=R at hΓ hfin ⊢;generalize R.1.heap []=HF at hfin ⊢;generalize R.2=e at hΓ hfin ⊢
 have hX:(d.heap []).length=d.fs.length+3:=by rw[DS.heap_length];rfl
 generalize d.heap []=H0 at hΓ hX ⊢
 refine Sim.step hmix hΓ (n:=0) (by simp;exact⟨rfl,rfl⟩) (by omega) ?_
 refine Sim.exec hmix hΓ (n:=0) (by simp;exact⟨rfl,rfl,rfl⟩) (by omega) ?_
 exact⟨.inr rfl,_,by simp[Tryz.f44] <;> rfl,hfin⟩
end
end Go.Proofs.YtfhidaoiofeooaaGreat
