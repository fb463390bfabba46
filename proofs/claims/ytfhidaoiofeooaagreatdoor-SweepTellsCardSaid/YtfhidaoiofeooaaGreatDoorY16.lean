/- Parts of the proof of SweepTells: lemmas, each with its own conditions. -/
import Derived.Test.YtfhidaoiofeooaaGreatDoorY15
set_option maxHeartbeats 64000000
open List renaming getElem?_eq_some_iff → q1Z, getD_eq_getElem?_getD → q2Z, getElem?_eq_getElem → q3Z, getElem?_append_left → q4Z, getElem?_append_right → q5Z, take_of_length_le → q6Z, length_cons → q7Z, length_nil → q8Z, cons_append → q9Z, nil_append → qaZ, replicate → qbZ, mem_of_getElem? → qcZ, length_append → qdZ, mem_cons_self → qhZ, mem_cons_of_mem → qiZ, length_take → qjZ, mem_cons → qwZ, mem_append → qxZ, getElem?_map → qzZ, mem_singleton → r1Z, append_nil → r2Z, getElem_mem → r3Z, getElem?_cons_succ → r9Z, getElem?_cons_zero → raZ, nodup_cons → rdZ, mem_map → reZ, getElem?_range → rfZ, map_append → roZ, map_cons → s1Z, set_cons_zero → s9Z, set_cons_succ → saZ
open Option renaming map_eq_some_iff → qlZ, getD_some → rgZ, map_some → rhZ
open Nat renaming le_refl → qnZ, zero_le → qqZ, add_sub_cancel_left → s3Z, zero_add → s8Z, min_eq_left → sfZ
open Bool renaming and_eq_true → qrZ, false_eq_true → qsZ
open Array renaming length_toList → rjZ, toList_append → rxZ
namespace Go.Proofs.YtfhidaoiofeooaaGreatDoor
open _root_.Go.Proofs.Tryz renaming prog → Pz
set_option maxRecDepth 100000
section
open Go Go.Lib
attribute [-simp] zG zT zc zJ zn
def hqT(P:Program)(Γ:Gam)(V:Array Oper):List Oper->List AV->zA->List QF->Option (List QF×List AV×zA)
 | [],F,H,fs=>some (fs,F,H)
 | o::rest,F,H,fs =>
   match zAb P Γ V F H o with
   | none=>none
   | some q=>hqT P Γ V rest (ZW F o.dst q.v) q.H (fs++[q.fl])
theorem zPM(P:Program)(Γ:Gam)(V:Array Oper)(k:List AV->zA->List QF->Option (List AV×zA)):∀(l:List Oper) (F:List AV) (H:zA) (fs fs':List QF) (F1:List AV) (H1:zA),hqT P Γ V l F H fs=some (fs',F1,H1)->hrun P Γ V k l F H fs=k F1 H1 fs'
 | [],F,H,fs,fs',F1,H1,h=>by cases h;rfl
 | o::rest,F,H,fs,fs',F1,H1,h=>by
   unfold hqT at h;unfold hrun;cases hq:zAb P Γ V F H o with
   | none=>rw[hq]at h;cases h
   | some q=>rw[hq]at h;exact zPM P Γ V k rest _ _ _ _ _ _ h
noncomputable def hqO:Program->Gam->Array Oper->List Oper->List AV->zA->List QF->Option (List QF×List AV×zA):=Classical.choose (⟨hqT,rfl⟩:∃f,f=hqT)
theorem zKM:hqO=hqT:=Classical.choose_spec (⟨hqT,rfl⟩:∃f,f=hqT)
@[simp] theorem zVo(P:Program)(Γ:Gam)(V:Array Oper)(F:List AV)(H:zA)(fs:List QF):hqO P Γ V [] F H fs=some (fs,F,H):=by rw[zKM];rfl
@[simp] theorem zVe(P:Program)(Γ:Gam)(V:Array Oper)(o:Oper)(rest:List Oper)(F:List AV)(H:zA)(fs:List QF):hqO P Γ V (o::rest) F H fs =
   match zAb P Γ V F H o with
   | none=>none
   | some q=>hqO P Γ V rest (ZW F o.dst q.v) q.H (fs++[q.fl]):=by
 rw[zKM];rfl
theorem SimR.hard{P:Program}{Γ:Gam}(hΓ:GOk P Γ){r:Option Nat}{n0 c:Nat}(h p:Nat){ops:Array Oper}{F F1 F2:List AV}{H H1 H':zA}{fs:List QF}{v:AV}{Q:AX->List AV->zA->Prop}(o:Oper)(ho:ops[h]? = some o){A:Array Oper}(hA:zF ops c h=A)(hch:c<=h)
   (hb:(zEZ ops.toList&&zMU ops.toList (Zl ops.toList) (h+1))=true) (hp:(Zl ops.toList).getD h 0=p) (hq:hqO P Γ A A.toList F H []=some (fs,F1,H1))
   (hchk:((ops.toList.take h).all (fun o=>match o.guard with | some (j,_)=>Nat.blt j h | none=>true)&&(fs.all (fun q=>q.st.isNone)&&zCv A fs))=true)
   (hF2:zAp A p (List.range h) F1=F2) (hrun:zAM ops o F2=some true/\opA P Γ F2 H1 o.op=some (v,H')) (hok:zHZ A p o.dst fs H1 H' h=true) (k:SimR P r n0 ops (h+1) (ZW F1 o.dst v) H' Q):SimR P r n0 ops c F H Q:=by
 intro B jb Hb wb j w a m hB hs hF hd;rw[qrZ]at hb;subst hA;rw[zKM]at hq;have hrn:zFM P Γ ops c h F H=some (ZW F1 o.dst v,H'):=by
   unfold zFM;rw[ho];dsimp only;rw[ZR,hp,zPM _ _ _ _ _ _ _ _ _ _ _ hq];refine (if_pos hchk).trans ?_;rw[hF2,hrun.1];dsimp only;rw[hrun.2];dsimp only;rw[if_pos hok]
 exact zO9 hΓ hch (zFG hb.2) hrn hs.rel hF rfl r m (fun j1 a1 w1 h1 h2 h3 =>
   k B jb Hb wb j1 w1 a1 m hB (hs.trans h3 hs.len) h1 (by rw[h2];exact hd.step hs.rel h3)) (fun k o e hk ho hee hbe=>by have:=zA6 hb.1 k o e ho hee hbe;omega) (fun k o e ho hee hbe=>zA6 hb.1 k o e ho hee hbe)
theorem zPm(f:FD)(k:List UInt8)(hok:f.small)(hkl:k.length<=9223372036854775807) :
   Ct Pz 90 [.ptr 0 0,.str k] [.obj true f.blks] (.tuple [.int .i64 (f.create k).2.1,.int .i64 (f.create k).2.2]) [.obj true (f.create k).1.blks]:=by
 have hΓ:=zO6;have hlo:=hok.lo;have hhi:=hok.hi;have hal:f.acts.length<=1000000:=by have:=hok.len;omega
 refine zE Tryz.func90 rfl ?_;simp only[Tryz.ntmps90,q7Z,q8Z,Nat.reduceAdd,Nat.reduceSub,qbZ,q9Z,qaZ];refine wS hΓ (by simp;exact wR) ?_;refine wS hΓ (by simp;exact wR) ?_;by_cases hm:zEO k;rotate_left
 · have hc:f.create k=(f,0,2):=by unfold FD.create;rw[if_neg hm]
   rw[hc];by_cases h0:k=[]
   · subst h0
     refine wE hΓ (by simp[zJS,Tryz.f184];exact wT) ?_;exact⟨.inr rfl,_,by simp[Tryz.f90] <;> rfl,wW [0] (by simp[AWb])⟩
   · have h1:0<k.length:=List.length_pos_iff.2 h0
     have h2:¬k.length<=64:=fun h=>hm ⟨h1,h⟩;have h2i:¬(k.length:Int)<=64:=by omega
     have h1i:(0:Int)<k.length:=by omega
     refine wE hΓ (by simp[zJS,Tryz.f184,h1,h2i];exact wT) ?_;exact⟨.inr rfl,_,by simp[Tryz.f90] <;> rfl,wW [0] (by simp[AWb])⟩
 have h1:0<k.length:=hm.1;have h0:¬k=[]:=List.length_pos_iff.1 h1;have h2i:(k.length:Int)<=64:=by have:=hm.2;omega
 have h1i:(0:Int)<k.length:=by omega
 refine wS hΓ (by simp[zJS,Tryz.f184,h1,h2i];exact wR) ?_;refine Sim.aft (Aft.open (b:=0) rfl (by simp) (Aft.done (by simp[zo]) ?_));rw[zBa];simp only[q7Z,q8Z,Nat.reduceAdd,s9Z,q9Z,qaZ];obtain⟨R,eR⟩:∃R,Zs (fun i=>2+3+i) 0 f.acts=R:=⟨_,rfl⟩
 obtain⟨X,eX⟩:∃X,zf f.acts=X:=⟨_,rfl⟩
 obtain⟨k0,ek⟩:∃k,f.acts.length=k:=⟨_,rfl⟩
 obtain⟨q,eq⟩:∃q,nbD f.acts=q:=⟨_,rfl⟩
 have hX:X.length=q:=by rw[<-eX,<-eq,zl]
 have hXg:∀(i:Nat) (B:ABlk),(zf f.acts)[i]? = some B->X[i]? = some B:=fun i B h=>by rw[<-eX];exact h
 rw[eR,eX,ek];have hf:=Z2 k f.now 0;cases hg:NM.get f.now k with
 | some v =>
   have hc:f.create k=(f,0,8):=by unfold FD.create;rw[if_pos hm,hg]
   rw[hg]at hf;simp only[rhZ,s8Z]at hf;rw[hc];refine Sim.seq (wS hΓ (by simp +decide [hf];first | exact wR | exact⟨by kernel_rfl,wR⟩) ?_);refine Sim.aft (Aft.closeFS f 0 2 (by rw[ek];rfl) rfl rfl (by rw[eR];rfl) (fun i B hB=>?_) (by decide) (by simp) ?_)
   · rw[show 2+3+i=i+1+1+1+1+1 by omega]
     simp only[r9Z];exact hXg i B hB
   refine Aft.weak (Fn:=[.ptr 0 0,.str k,.top,.ptr 1 0,.int .i64 0,.int .i64 0,.int .i64 v,.bool true]++qbZ 31 .top) (Hn:=[.obj true f.blks,.cells true [.str k]]) (wW [0,1] (zR (b:=0) (by simp) _ _ rfl fun i c x h1 h2=>?_)) (by simp) (Aft.done (by simp) ?_)
   · match i,h1,h2 with
     | 0,h1,h2=>cases h1;cases h2;exact .inl ⟨rfl,rfl⟩
     | 1,h1,h2=>cases h1;cases h2;exact .inr ⟨⟨by decide,by decide⟩,by simp[AWb]⟩
   refine wE hΓ (by simp;exact wT) ?_;exact⟨.inr rfl,_,by simp[Tryz.f90] <;> rfl,wW [0] (by simp[AWb])⟩
 | none =>
   have hc:f.create k=(⟨f.d,f.acts++[.cre k (f.last+1)],f.last+1⟩,f.last+1,0):=by unfold FD.create;rw[if_pos hm,hg]
   rw[hg]at hf;simp only[Option.map_none,s8Z]at hf;rw[hc];have hw:IntKind.i64.wrap (f.last+1)=f.last+1:=zK (by omega) (by omega);obtain⟨n',hn'⟩:∃n,f.last+1=n:=⟨_,rfl⟩
   rw[hn']at hw ⊢;refine wS hΓ (by simp +decide [hf];first | exact wR | exact⟨by kernel_rfl,wR⟩) ?_;refine wS hΓ (by simp[hn',hw];exact wR) ?_;refine wS hΓ (by simp[hX];exact wR) ?_;refine Sim.aft (Aft.closeFS (⟨f.d,f.acts,n'⟩:FD) 0 2 (by simp only[ek];rfl) rfl rfl (by simp only[eR];rfl) (fun i B hB=>?_) (by decide) (by simp) ?_)
   · rw[show 2+3+i=i+1+1+1+1+1 by omega]
     have h3:i<X.length:=(q1Z.1 (hXg i B hB)).1;simp only[r9Z];rw[q4Z h3];exact hXg i B hB
   refine Aft.weak (Fn:=[.ptr 0 0,.str k,.top,.ptr 1 0,.int .i64 0,.int .i64 0,.top,.top,.ptr 2 0]++qbZ 30 .top) (Hn:=[.obj true (⟨f.d,f.acts,n'⟩:FD).blks,.cells true [.str k],.cells true [.int .i64 n']]) (Weak.mk' [0,1,q+5] (by simp) (by simp) (by simp) (zR (b:=0) (by simp) _ _ rfl fun i c x h1 h2=>?_)) (by simp) ?_
   · match i,h1,h2 with
     | 0,h1,h2=>cases h1;cases h2;exact .inl ⟨rfl,rfl⟩
     | 1,h1,h2=>cases h1;cases h2;exact .inr ⟨⟨by decide,by decide⟩,by simp[AWb]⟩
     | 2,h1,h2 =>
       cases h1;cases h2
       refine .inr ⟨⟨by omega,by simp⟩,?_⟩;rw[show q+5=(X.length+0)+1+1+1+1+1 by omega];simp[AWb]
   refine Aft.freeze 1 (.str k) rfl (fun _=>rfl) (by simp) ?_;simp only[saZ,s9Z];refine Aft.freeze 2 (.int .i64 n') rfl (fun _=>⟨rfl,rfl⟩) (by simp) ?_;simp only[saZ,s9Z];refine Aft.done (by simp) ?_;have hdo:doS [.ptr 0 0,.str zTa,.func 186 [] [.ptr 2 0,.ptr 1 0]] [.obj true (⟨f.d,f.acts,n'⟩:FD).blks,.obj false [.cells true [.str k]],.obj false [.cells true [.int .i64 n']]]=some (.int .i64 0,[.obj true (⟨f.d,f.acts++[.cre k n'],n'⟩:FD).blks,.obj false [.cells true [.str k]],.obj false [.cells true [.int .i64 n']]],[0]):=by
     simp only[doS,zD6,raZ,r9Z,zIu];have hg':NM.get (⟨f.d,f.acts,n'⟩:FD).now k=none:=hg;rw[if_pos ⟨trivial,trivial,hg',hal,by decide,by decide,by decide⟩];rfl
   refine Sim.seq (Sim.draw hmix (by simp) ?_);simp only[zTa]at hdo;refine SimR.hard hΓ 3 6 _ rfl (by simp[zF];rfl) (by omega) (by kernel_rfl) (by kernel_rfl) (by simp +decide;exact wT) (by kernel_rfl) (by simp +decide [zAp,List.range,List.range.loop];rfl) (by simp +decide [zSD,hdo];exact wR) (by simp +decide [zHZ,zNb,ZP,List.range,List.range.loop]) ?_;refine SimR.many hΓ 6 (by simp[zF,zM];rfl) (by omega) (by kernel_rfl) (by simp +decide;first | exact wR | exact⟨by kernel_rfl,wR⟩) ?_;refine SimR.done rfl ?_;dsimp only;refine wE hΓ (by simp;exact wT) ?_;exact⟨.inr rfl,_,by simp[Tryz.f90] <;> rfl,wW [0] (by simp[AWb])⟩
theorem zP5(f:FD)(k:List UInt8)(hok:f.small) :
   Ct Pz 288 [.ptr 0 0,.str k] [.obj true f.blks] (.int .i64 (f.remove k).2) [.obj true (f.remove k).1.blks]:=by
 have hΓ:=zO6;have hal:f.acts.length<=1000000:=by have:=hok.len;omega
 refine zE Tryz.func288 rfl ?_;simp only[Tryz.ntmps288,q7Z,q8Z,Nat.reduceAdd,Nat.reduceSub,qbZ,q9Z,qaZ];refine wS hΓ (by simp;exact wR) ?_;refine wS hΓ (by simp;exact wR) ?_;refine Sim.aft (Aft.open (b:=0) rfl (by simp) (Aft.done (by simp[zo]) ?_));rw[zBa];simp only[q7Z,q8Z,Nat.reduceAdd,s9Z,q9Z,qaZ];obtain⟨R,eR⟩:∃R,Zs (fun i=>2+3+i) 0 f.acts=R:=⟨_,rfl⟩
 obtain⟨X,eX⟩:∃X,zf f.acts=X:=⟨_,rfl⟩
 obtain⟨k0,ek⟩:∃k,f.acts.length=k:=⟨_,rfl⟩
 have hXg:∀(i:Nat) (B:ABlk),(zf f.acts)[i]? = some B->X[i]? = some B:=fun i B h=>by rw[<-eX];exact h
 rw[eR,eX,ek];have hf:=Z2 k f.now 0;cases hg:NM.get f.now k with
 | none =>
   have hc:f.remove k=(f,9):=by unfold FD.remove;rw[hg]
   rw[hg]at hf;simp only[Option.map_none,s8Z]at hf;rw[hc];refine Sim.seq (wS hΓ (by simp +decide [hf];first | exact wR | exact⟨by kernel_rfl,wR⟩) ?_);refine Sim.aft (Aft.closeFS f 0 2 (by rw[ek];rfl) rfl rfl (by rw[eR];rfl) (fun i B hB=>?_) (by decide) (by simp) ?_)
   · rw[show 2+3+i=i+1+1+1+1+1 by omega]
     simp only[r9Z];exact hXg i B hB
   refine Aft.weak (Fn:=[.ptr 0 0,.str k,.top,.ptr 1 0,.int .i64 0,.top,.bool false]++qbZ 16 .top) (Hn:=[.obj true f.blks,.cells true [.str k]]) (wW [0,1] (zR (b:=0) (by simp) _ _ rfl fun i c x h1 h2=>?_)) (by simp) (Aft.done (by simp) ?_)
   · match i,h1,h2 with
     | 0,h1,h2=>cases h1;cases h2;exact .inl ⟨rfl,rfl⟩
     | 1,h1,h2=>cases h1;cases h2;exact .inr ⟨⟨by decide,by decide⟩,by simp[AWb]⟩
   refine wE hΓ (by simp;exact wT) ?_;exact⟨.inr rfl,_,by simp[Tryz.f288] <;> rfl,wW [0] (by simp[AWb])⟩
 | some v =>
   have hc:f.remove k=(⟨f.d,f.acts++[.rem k],f.last⟩,0):=by unfold FD.remove;rw[hg]
   rw[hg]at hf;simp only[rhZ,s8Z]at hf;rw[hc];refine wS hΓ (by simp +decide [hf];first | exact wR | exact⟨by kernel_rfl,wR⟩) ?_;refine Sim.aft (Aft.closeFS f 0 2 (by rw[ek];rfl) rfl rfl (by rw[eR];rfl) (fun i B hB=>?_) (by decide) (by simp) ?_)
   · rw[show 2+3+i=i+1+1+1+1+1 by omega]
     simp only[r9Z];exact hXg i B hB
   refine Aft.weak (Fn:=[.ptr 0 0,.str k,.top,.ptr 1 0,.int .i64 0]++qbZ 18 .top) (Hn:=[.obj true f.blks,.cells true [.str k]]) (wW [0,1] (zR (b:=0) (by simp) _ _ rfl fun i c x h1 h2=>?_)) (by simp) ?_
   · match i,h1,h2 with
     | 0,h1,h2=>cases h1;cases h2;exact .inl ⟨rfl,rfl⟩
     | 1,h1,h2=>cases h1;cases h2;exact .inr ⟨⟨by decide,by decide⟩,by simp[AWb]⟩
   refine Aft.freeze 1 (.str k) rfl (fun _=>rfl) (by simp) ?_;simp only[saZ,s9Z];refine Aft.done (by simp) ?_;have hdo:doS [.ptr 0 0,.str zTo,.func 333 [] [.ptr 1 0]] [.obj true f.blks,.obj false [.cells true [.str k]]]=some (.int .i64 0,[.obj true (⟨f.d,f.acts++[.rem k],f.last⟩:FD).blks,.obj false [.cells true [.str k]]],[0]):=by
     simp only[doS,zD6,raZ,r9Z,zIu];rw[if_pos ⟨by first | rfl | trivial,by first | rfl | trivial,⟨v,hg⟩,hal,by decide⟩];rfl
   simp only[zTo]at hdo;refine wE hΓ (by simp[zJS,zSD,hdo];exact wT) ?_;exact⟨.inr rfl,_,by simp[Tryz.f288] <;> rfl,wW [0] (by simp[AWb])⟩
end
section
open Go Go.Lib
attribute [-simp] zG zT zc zJ zn
noncomputable section
open Classical
def zRn:zS:=zBc zEp FD.blks fun f xs _=>match xs with
 | [.str k]=>if f.small/\k.length<=9223372036854775807 then some ((f.create k).1,.tuple [.int .i64 (f.create k).2.1,.int .i64 (f.create k).2.2]) else none
 | _=>none
theorem zNq:Sound Pz 90 zRn:=by
 refine zg (zD Tryz.func90 rfl (by decide)) (fun _ _=>zA8) fun f xs H s' v b hg hb=>?_;split at hg;rotate_left
 · cases hg
 split at hg <;> cases hg
 rename_i hs;exact zy (zPm f _ hs.1 hs.2) rfl rfl hb
def zSt:zS:=zBc zEp FD.blks fun f xs _=>match xs with
 | [.str a]=>if f.small then some ((f.remove a).1,.int .i64 (f.remove a).2) else none
 | _=>none
theorem zOT:Sound Pz 288 zSt:=by
 refine zg (zD Tryz.func288 rfl (by decide)) (fun _ _=>zA8) fun f xs H s' v b hg hb=>?_;split at hg;rotate_left
 · cases hg
 split at hg <;> cases hg
 rename_i hs;exact zy (zP5 f _ hs) rfl rfl hb
def zNG:zS:=zBc zEp FD.blks fun f xs _=>match xs with
 | [.str a]=>some (f,.tuple [.int .i64 (f.find a).1,.bool (f.find a).2])
 | _=>none
theorem zL1:Sound Pz 76 zNG:=by
 refine zg (zD Tryz.func76 rfl (by decide)) (fun _ _=>zA8) fun f xs H s' v b hg hb=>?_;split at hg <;> cases hg
 exact zy (zT8 f _) rfl rfl hb
def zNe:zS:=zBc zEp FD.blks fun f xs _=>match xs with
 | []=>some (f,.int .i64 f.acts.length)
 | _=>none
theorem zKw:Sound Pz 202 zNe:=by
 refine zg (zD Tryz.func202 rfl (by decide)) (fun _ _=>zA8) fun f xs H s' v b hg hb=>?_;split at hg <;> cases hg
 exact zy (zNw f) rfl rfl hb
def zNR:zS:=zBc zEp FD.blks fun f xs _=>match xs with
 | [.int .i64 m]=>if f.acts.length<=1000000 then some (f.survive m,.tuple []) else none
 | _=>none
theorem zMZ:Sound Pz 74 zNR:=by
 refine zg (zD Tryz.func74 rfl (by decide)) (fun _ _=>zA8) fun f xs H s' v b hg hb=>?_;split at hg;rotate_left
 · cases hg
 split at hg <;> cases hg
 rename_i hs;exact zy (zNY f _ hs) rfl rfl hb
def zG3:zS:=fun args H=>match args with
 | [.ptr b 0]=>match H[b]? with
   | some (.obj true sub)=>match zEp sub with
     | some f=>if f.small then some (.sl H.length 0 f.names.length 1 false,H++[.cells true (f.names.map .str)],[]) else none
     | none=>none
   | _=>none
 | _=>none
theorem zKt:Sound Pz 75 zG3:=by
 refine ⟨zD Tryz.func75 rfl (by decide),fun args H v H' W hs=>?_,fun args H v H' W hs=>?_⟩ <;> (unfold zG3 at hs;split at hs <;> try cases hs) <;> (split at hs <;> try cases hs) <;> (rename_i b _ sub hb;split at hs <;> try cases hs) <;> (rename_i f hf;split at hs <;> cases hs;rename_i hk)
 · have e:=zA8 hf
   subst e;have hbl:b<H.length:=(q1Z.1 hb).1;have fs:∀g,ZV g (f.names.map AV.str)=f.names.map AV.str:=fun g=>ZH g _ (by simp[Zo,zAs]);have:=zZ (H:=H) (args:=[.ptr b 0]) (zRF f hk) [b] (by simp) ⟨⟨rfl,rfl⟩,trivial⟩ ⟨by rw[q2Z,hb];exact⟨rfl,rfl⟩,hbl,trivial⟩ rfl;obtain⟨h1,h2⟩:=q1Z.1 hb;have hset:H.set b (.obj true f.blks)=H:=by rw[<-h2,List.set_getElem_self]
   simpa[zW,ABlk.own,reB,reA,Zr,hset,fs] using this
 · exact⟨by simp,fun c hc _=>by rw[q4Z hc]⟩
def zJw:zS:=fun args H=>match args with
 | []=>some (.ptr H.length 0,H++[.obj true FD.new.blks],[])
 | _=>none
theorem zME:Sound Pz 116 zJw:=by
 refine ⟨zD Tryz.func116 rfl (by decide),fun args H v H' W hs=>?_,fun args H v H' W hs=>?_⟩ <;> (unfold zJw at hs;split at hs <;> cases hs)
 · have:=zZ (H:=H) (args:=[]) zVJ [] (by simp) trivial trivial rfl
   simpa[zW,ABlk.own,reB,reA,Zr] using this
 · exact⟨by simp,fun c hc _=>by rw[q4Z hc]⟩
def zVb:Gam:=zh [(202,zNe),(74,zNR)]
theorem zTv:GOk Pz zVb:=zC zKw (zC zMZ zB)
theorem zS6(f:FD)(hal:f.acts.length<=1000000):Ct Pz 117 [.ptr 0 0] [.obj true f.blks] (.tuple []) [.obj true (f.survive f.acts.length).blks]:=by
 refine zE Tryz.func117 rfl ?_;simp only[Tryz.ntmps117,q7Z,q8Z,Nat.reduceAdd,Nat.reduceSub,qbZ,q9Z,qaZ];refine wE zTv (by simp[zVb,zNe,zNR,hal];exact wT) ?_;exact⟨.inl rfl,_,by simp[Tryz.f117] <;> rfl,wW [0] (by simp[AWb])⟩
def zHb:zS:=zBc zEp FD.blks fun f xs _=>match xs with
 | []=>if f.acts.length<=1000000 then some (f.survive f.acts.length,.tuple []) else none
 | _=>none
theorem zGJ:Sound Pz 117 zHb:=by
 refine zg (zD Tryz.func117 rfl (by decide)) (fun _ _=>zA8) fun f xs H s' v b hg hb=>?_;split at hg;rotate_left
 · cases hg
 split at hg <;> cases hg
 rename_i hs;exact zy (zS6 f hs) rfl rfl hb
end
end
section
open Go Go.Lib
noncomputable def zGW(args:List AV)(H:zA)(v:AV)(H':zA):zS:=open Classical in fun a h=>if a=args/\h=H then some (v,H',List.range H.length) else none
theorem zB3{P:Program}{f:FuncId}{args:List AV}{H H':zA}{v:AV}(he:∀cargs w,(callFunc f cargs).run P w=.ok (.enter f cargs) w)(h:Ct P f args H v H')(hl:H.length<=H'.length):Sound P f (zGW args H v H'):=by
 refine ⟨he,fun a h1 v1 H1 W hs=>?_,fun a h1 v1 H1 W hs=>?_⟩ <;> (unfold zGW at hs;split at hs <;> cases hs) <;> (rename_i hc;obtain⟨rfl,rfl⟩:=hc)
 · exact h
 · exact⟨hl,fun b hb hn=>absurd (List.mem_range.2 hb) hn⟩
@[simp] theorem zVa(args:List AV)(H:zA)(v:AV)(H':zA):zGW args H v H' args H=some (v,H',List.range H.length):=by
 unfold zGW;rw[if_pos ⟨rfl,rfl⟩]
theorem ZG{P:Program}{f:FuncId}{fn:Func}{c:Code}(hf:P.funcs[f]? = some fn)(hb:fn.body=some c){args:List AV}{H H':zA}{v:AV}
   (h:Sim P none H.length c (args++qbZ (fn.ntmps-args.length) zV) H fun x F1 H1=>(x=.normal\/x=.ret)/\zCt P fn.results.toList F1 H1=some v/\H1=H'):Ct P f args H v H':=by
 intro j w cargs hR hargs;refine (callsIn_wide (n:=0)).1 ?_;refine callsIn_of_wp_marks hf hb trivial ?_ rfl;have hl:=hargs.length;have hF:VRs j (args++qbZ (fn.ntmps-args.length) zV) (cargs++Array.replicate (fn.ntmps-cargs.size) undef).toList:=by
   rw[rxZ,Array.toList_replicate,hl,rjZ];exact hargs.append (VRs.replicate (v:=undef) (show VR j zV undef from ⟨#[],rfl,rfl⟩) _)
 refine wpIn_mono (h w.heap.size j w { tmps:=cargs++Array.replicate (fn.ntmps-cargs.size) undef,defers:=[] } 0 (qnZ _) hR hF (DefOk.nil _ _)) ?_;rintro e a' w' ⟨x,F',H1,j',rfl,⟨hx,hv1,rfl⟩,h3,h4,h5⟩;refine zFS hR.glo.1.2 hx hv1 h3 h4 h5 fun cv w2 g2 hs=>?_;exact⟨cv,j',rfl,g2,hs⟩
theorem zBi{P:Program}{f:FuncId}{xs:List AV}{v v':AV}{sub H' H'':zA}(h:Ct P f xs sub v H')(hne:1<=sub.length)(hA:Aft 1 [v] H' fun F H=>F=[v']/\H=H''):Ct P f xs [.obj true sub] v' H'':=by
 intro j w cargs hR hargs;obtain⟨j1,hle,s1⟩:=Step.open (n:=1) hR (b:=0) rfl (by simp);have e:zo [.obj true sub] 0 sub=sub:=by
   have hg:∀i,zBU 0 1 i=i:=fun i=>by unfold zBU;split <;> omega
   cases sub with
   | nil=>simp at hne
   | cons B r =>
     unfold zo;simp only[q7Z,q8Z,List.getD_cons_zero,s9Z,List.drop_succ_cons,List.drop_zero,q9Z,qaZ,s8Z];rw[zDJ hg,List.map_congr_left (fun B _=>zDJ hg B)];simp
 rw[e]at s1;refine (h j1 w cargs s1.rel (VRs.mono hle _ _ hargs)).mono ?_;rintro e w' ⟨cv,j2,rfl,hv,s2⟩;obtain⟨F3,H3,j3,⟨rfl,rfl⟩,h3,s3⟩:=hA j2 w' [cv] s2.rel ⟨cv,[],rfl,hv,rfl⟩;obtain⟨cv',ws,e1,h4,h5⟩:=h3;cases e1;exact⟨cv,j3,rfl,h4,(s1.trans s2 hne).trans s3 (qnZ _)⟩
def ZK(g:Nat->Nat):Nat->FS->List (AV×AV)
 | _,[]=>[]
 | k,e::l=>(.int .i64 e.1,.ptr (g k) 0)::ZK g (k+1) l
def zw(l:FS):zA:=l.map fun e=>.obj true e.2.blks
@[simp] theorem zJv(g:Nat->Nat):∀(k:Nat) (l:FS),(ZK g k l).length=l.length
 | _,[]=>rfl
 | k,e::l=>by simp[ZK,zJv g (k+1) l]
@[simp] theorem zIh(l:FS):(zw l).length=l.length:=by simp[zw]
theorem zEe{l:FS}{i:Nat}{e:Int×PF}(h:l[i]? = some e):(zw l)[i]? = some (.obj true e.2.blks):=by simp[zw,h]
theorem zEX(g:Nat->Nat)(n:Int):∀(k:Nat) (l:FS) (i:Nat),zBK (ZK g k l) (.int .i64 n) i=some ((FS.get l n).map fun _=>(i+FS.at l n,.ptr (g (k+FS.at l n)) 0))
 | k,[],i=>by simp[ZK,zBK,FS.get]
 | k,e::l,i=>by
   have ih:=zEX g n (k+1) l (i+1);by_cases h:e.1=n
   · subst h
     simp[ZK,zBK,Z3,FS.get,FS.at,FS.keys]
   · have h2:(n==e.1)=false:=by simpa using (fun q=>h q.symm)
     have h3:(e.1==n)=false:=by simpa using h
     simp only[ZK,zBK,Z3,h2,ih,FS.get,h,if_false,FS.at,FS.keys,s1Z];rw[List.idxOf_cons,h3];cases FS.get l n <;> simp
     exact⟨by omega,by congr 1;omega⟩
theorem zJH(g:Nat->Nat):∀(k:Nat) (l:FS) (e:Int×PF),ZK g k (l++[e])=ZK g k l++[(.int .i64 e.1,.ptr (g (k+l.length)) 0)]
 | k,[],e=>rfl
 | k,x::l,e=>by
   simp only[q9Z,ZK,zJH g (k+1) l e,q7Z];rw[show k+1+l.length=k+(l.length+1) by omega]
theorem zGS{g g':Nat->Nat}:∀(k:Nat) (l:FS),(∀i,k<=i->i<k+l.length->g i=g' i)->ZK g k l=ZK g' k l
 | _,[],_=>rfl
 | k,e::l,h=>by
   simp only[ZK];rw[h k (qnZ _) (by simp),zGS (k+1) l fun i h1 h2=>h i (by omega) (by simp;omega)]
theorem zHr(rn:List Nat)(g g':Nat->Nat):∀(k:Nat) (l:FS),AWs rn ((ZK g k l).map (·.1)) ((ZK g' k l).map (·.1))
 | _,[]=>trivial
 | k,_::l=>⟨⟨rfl,rfl⟩,zHr rn g g' (k+1) l⟩
theorem zHt(rn:List Nat)(g g':Nat->Nat):∀(k:Nat) (l:FS),(∀i,k<=i->i<k+l.length->rn[g i]? = some (g' i))->AWs rn ((ZK g k l).map (·.2)) ((ZK g' k l).map (·.2))
 | _,[],_=>trivial
 | k,_::l,h=>⟨⟨h k (qnZ _) (by simp),rfl⟩,zHt rn g g' (k+1) l fun i h1 h2=>h i (by omega) (by simp;omega)⟩
theorem zDr{rn:List Nat}{g g':Nat->Nat}{l:FS}(h:∀i,i<l.length->rn[g i]? = some (g' i)):AWb rn (.map (ZK g 0 l)) (.map (ZK g' 0 l)) :=
 ⟨zHr rn g g' 0 l,zHt rn g g' 0 l fun i _ h2=>h i (by omega)⟩
def DS.cell0(d:DS)(fo m:Nat):ABlk:=.cells true [.ptr fo 0,.map m,.int .i64 d.quota,.int .i64 d.steps,.int .i64 d.armed,.bool d.down]
def DS.blks(d:DS):zA:=d.cell0 1 2::.obj true d.fd.blks::.map (ZK (fun i=>i+3) 0 d.fs)::zw d.fs
theorem DS.blks_length(d:DS):d.blks.length=d.fs.length+3:=by simp[DS.blks]
theorem DS.blks_id(d:DS)(rn:List Nat)(hr:∀i,i<d.blks.length->rn[i]? = some i):∀B∈d.blks,AWb rn B B:=by
 rw[DS.blks_length]at hr;intro B hB;simp only[DS.blks,DS.cell0,qwZ]at hB;rcases hB with rfl | rfl | rfl | hB
 · exact⟨id,⟨hr 1 (by omega),rfl⟩,hr 2 (by omega),⟨rfl,rfl⟩,⟨rfl,rfl⟩,⟨rfl,rfl⟩,rfl,trivial⟩
 · exact⟨rfl,rfl⟩
 · exact zDr fun i hi=>hr (i+3) (by omega)
 · obtain⟨e,_,rfl⟩:=reZ.1 hB
   exact⟨rfl,rfl⟩
theorem Weak.tailG{A T Tn:zA}{F Fn:List AV}{N:Nat}(hN:A.length=N)(hA:∀rn:List Nat,(∀i,i<N->rn[i]? = some i)->∀B∈A,AWb rn B B)(ts:List Nat)(hts:ts.Nodup)
   (hF:AWs (List.range N++ts.map (N+·)) Fn F) (hT:AWg (List.range N++ts.map (N+·)) (A++T) Tn (ts.map (N+·))):Weak N F (A++T) Fn (A++Tn):=by
 have hr:∀i,i<N->(List.range N++ts.map (N+·))[i]? = some i:=fun i hi=>by
   rw[q4Z (by simpa using hi),rfZ hi]
 refine Weak.mk' (List.range N++ts.map (N+·)) ?_ ?_ hF (AWg.append ?_ hT)
 · rw[List.nodup_append]
   refine ⟨List.nodup_range,?_,fun a ha b hb=>?_⟩
   · rw[List.nodup_iff_pairwise_ne,List.pairwise_map]
     exact (List.nodup_iff_pairwise_ne.1 hts).imp fun h e=>h (by omega)
   · obtain⟨c,_,rfl⟩:=reZ.1 hb
     have:=List.mem_range.1 ha;omega
 · rw[List.take_left' (by simp)]
 · refine AWg.of _ _ (by simp[hN]) fun i x b hx hb hlt=>?_
   have hi:i<N:=by rw[<-hN];exact (q1Z.1 hx).1
   have hbi:b=i:=by rw[rfZ hi]at hb;cases hb;rfl
   subst hbi;rw[q2Z,q4Z (by omega),hx];exact hA _ hr x (qcZ hx)
structure DAt (H:zA) (d:DS) (b fo m:Nat) (g:Nat->Nat):Prop where
 c0:H[b]? = some (d.cell0 fo m)
 fold:H[fo]? = some (.obj true d.fd.blks)
 map:H[m]? = some (.map (ZK g 0 d.fs))
 file:∀(i:Nat) e,d.fs[i]? = some e->H[g i]? = some (.obj true e.2.blks)
 nd:(b::fo::m::(List.range d.fs.length).map g).Nodup
theorem DAt.awg{H:zA}{d:DS}{b fo m:Nat}{g:Nat->Nat}(h:DAt H d b fo m g)(rn:List Nat)(hr:∀i,i<d.fs.length+3->rn[i]? = (b::fo::m::(List.range d.fs.length).map g)[i]?) :
   AWg rn H d.blks (b::fo::m::(List.range d.fs.length).map g):=by
 refine AWg.of _ _ (by simp[DS.blks]) fun i x c hx hc hlt=>?_;have hil:i<d.fs.length+3:=by rw[<-DS.blks_length];exact (q1Z.1 hx).1
 rw[q2Z]
 match i,hx,hc with
 | 0,hx,hc =>
   cases hx;cases hc
   rw[h.c0];exact⟨id,⟨hr 1 (by omega),rfl⟩,hr 2 (by omega),⟨rfl,rfl⟩,⟨rfl,rfl⟩,⟨rfl,rfl⟩,rfl,trivial⟩
 | 1,hx,hc =>
   cases hx;cases hc
   rw[h.fold];exact⟨rfl,rfl⟩
 | 2,hx,hc =>
   cases hx;cases hc
   rw[h.map];refine zDr fun i hi=>?_;rw[hr (i+3) (by omega)];simp[hi]
 | i+3,hx,hc =>
   simp only[DS.blks,r9Z]at hx hc;have hi:i<d.fs.length:=by omega
   have he:=q3Z hi;rw[zEe he]at hx;cases hx;simp[hi]at hc;subst hc;rw[h.file i _ he];exact⟨rfl,rfl⟩
theorem Aft.closeDS(d:DS){T Tn:zA}{v v':AV}(ts:List Nat)(hts:ts.Nodup)(hlen:Tn.length=ts.length)(hF:AW (0::ts.map (d.fs.length+3+·)) v' v)
   (hT:∀(i t:Nat) x,ts[i]? = some t->Tn[i]? = some x->∃y,T[t]? = some y/\AWb (0::ts.map (d.fs.length+3+·)) x y):Aft 1 [v] (d.blks++T) fun F H=>F=[v']/\H=.obj true d.blks::Tn:=by
 have hl:=d.blks_length;have hr:∀i,i<d.blks.length->(List.range d.blks.length)[i]? = some i:=fun i hi=>rfZ hi;refine Aft.close (o:=true) (b:=0) (sub:=d.blks) (rs:=List.range d.blks.length) (ks:=List.range' 1 (d.fs.length+2)) (hr 0 (by omega)) List.nodup_range (by simp;omega) ?_ ?_ ⟨d.cell0 1 2,rfl,rfl⟩ ?_ (by simp;omega) ?_
 · intro c x hc h0 _ _
   have:=List.mem_range.1 hc;rw[List.mem_range'_1];omega
 · refine AWg.of _ _ (by simp) fun i x b hx hb hlt=>?_
   have hi:i<d.blks.length:=(q1Z.1 hx).1;rw[hr i hi]at hb;cases hb
   rw[q2Z,q4Z hi,hx];exact d.blks_id _ hr x (qcZ hx)
 · intro i y hy hd
   have hm:=qcZ hy;simp only[DS.blks,DS.cell0,qwZ]at hm;rcases hm with rfl | rfl | rfl | hm
   · rfl
   · rfl
   · rfl
   · obtain⟨e,_,rfl⟩:=reZ.1 hm
     rfl
 · refine Aft.weak (Fn:=[v']) (Hn:=.obj true d.blks::Tn) (Weak.mk' (0::ts.map (d.fs.length+3+·)) ?_ rfl ⟨hF,trivial⟩ (zR (b:=0) (by simp;omega) _ _ (by simp[hlen]) fun i c x h1 h2=>?_)) (by simp;omega) (Aft.done (by simp) ⟨rfl,rfl⟩)
   · rw[rdZ]
     refine ⟨fun h=>?_,?_⟩
     · obtain⟨a,_,h⟩:=reZ.1 h;omega
     · rw[List.nodup_iff_pairwise_ne,List.pairwise_map]
       exact (List.nodup_iff_pairwise_ne.1 hts).imp fun h e=>h (by omega)
   · cases i with
     | zero =>
       cases h1;cases h2;exact .inl ⟨rfl,rfl⟩
     | succ i =>
       simp only[r9Z,qzZ]at h1 h2;obtain⟨t,ht,rfl⟩:=qlZ.1 h1;obtain⟨y,hy,hw⟩:=hT i t x ht h2;refine .inr ⟨⟨by omega,by rw[List.mem_range'_1];omega⟩,?_⟩;rw[q2Z,q5Z (by omega),hl,s3Z,hy];exact hw
noncomputable def dsD(sub:zA):Option DS:=open Classical in if h:∃d:DS,sub=d.blks then some h.choose else none
theorem zCE{sub:zA}{d:DS}(h:dsD sub=some d):sub=d.blks:=by
 unfold dsD at h;split at h
 · rename_i hx
   cases h;exact hx.choose_spec
 · cases h
theorem zJL(g:Nat->Nat):∀(k:Nat) {l m:FS},ZK g k l=ZK g k m->zw l=zw m->l=m
 | _,[],[],_,_=>rfl
 | _,[],_::_,h,_=>by simp[ZK]at h
 | _,_::_,[],h,_=>by simp[ZK]at h
 | k,(a,x)::l,(b,y)::m,h,h'=>by
   simp only[ZK,List.cons.injEq,Prod.mk.injEq,AV.int.injEq,true_and,and_true]at h;simp only[zw,s1Z,List.cons.injEq,ABlk.obj.injEq,true_and]at h';have h3:=congrArg zJY h'.1;rw[zHa,zHa]at h3;rw[h.1,Option.some.inj h3,zJL g (k+1) h.2 h'.2]
theorem zQJ{d e:DS}(h:d.blks=e.blks):d=e:=by
 obtain⟨fd,fs,q,s,a,w⟩:=d;obtain⟨fd',fs',q',s',a',w'⟩:=e;simp only[DS.blks,DS.cell0,List.cons.injEq,ABlk.cells.injEq,ABlk.obj.injEq,ABlk.map.injEq,AV.int.injEq,AV.bool.injEq,true_and,and_true]at h;obtain⟨⟨h1,h2,h3,h4⟩,h5,h6,h7⟩:=h;rw[h1,h2,h3,h4,zLK h5,zJL _ 0 h6 h7]
@[simp] theorem zVg(d:DS):dsD d.blks=some d:=by
 unfold dsD;have h:∃e:DS,d.blks=e.blks:=⟨d,rfl⟩
 rw[dif_pos h];have:=Classical.choose_spec h;exact congrArg some (zQJ this).symm
end
section
open Go Go.Lib
attribute [-simp] zG zT zc zJ zn
theorem DS.blks_head(d:DS)(T:zA):d.blks++T=.cells true [.ptr 1 0,.map 2,.int .i64 d.quota,.int .i64 d.steps,.int .i64 d.armed,.bool d.down]::(.obj true d.fd.blks::.map (ZK (fun i=>i+3) 0 d.fs)::(zw d.fs++T)):=rfl
theorem zTA(d:DS)(T:zA)(F:FuncId)(caps:List AV){v:AV}{H':zA}(he:∀cargs w,(callFunc F cargs).run Pz w=.ok (.enter F cargs) w)(hF:F≠yl)
   (hs:0<=d.steps/\d.steps<=4611686018427387903) (ha:0<=d.armed/\d.armed<=4611686018427387903) (hlen:(d.blks++T).length<=H'.length)
   (hdown:d.count.down=true->v=.int .i64 13/\H'=d.count.blks++T)
   (hup:d.count.down=false->Ct Pz F caps (d.count.blks++T) v H') :
   Ct Pz 88 [.ptr 0 0,.func F [] caps] (d.blks++T) v H':=by
 have hw:IntKind.i64.wrap (d.steps+1)=d.steps+1:=zK (by omega) (by omega);have hb:=DS.blks_head d T;have hb2:=DS.blks_head d.count T;rw[DS.count_fd,DS.count_fs,DS.count_quota,DS.count_steps]at hb2;obtain⟨rest,hrest⟩:∃rest:zA,.obj true d.fd.blks::.map (ZK (fun i=>i+3) 0 d.fs)::(zw d.fs++T)=rest:=⟨_,rfl⟩
 rw[hrest]at hb hb2;obtain⟨a',ea⟩:∃a',d.count.armed=a':=⟨_,rfl⟩
 obtain⟨w',ew⟩:∃w',d.count.down=w':=⟨_,rfl⟩
 rw[ea,ew]at hb2;rw[ew]at hdown hup;rw[hb2]at hdown hup;rw[hb]at hlen ⊢;refine ZG Tryz.func88 rfl ?_;simp only[Tryz.ntmps88,q7Z,q8Z,Nat.reduceAdd,Nat.reduceSub,qbZ,q9Z,qaZ];refine wS zB (by simp;exact wR) ?_;refine wS zB (by simp;exact wR) ?_;refine wS zB (by simp[hw];exact wR) ?_;refine Sim.seq (Sim.mono (Q:=fun e F' H1=>e=.normal/\LessF ([.ptr 0 0,.func F [] caps,.top,.top,.int .i64 0]++qbZ 42 .top) F'/\H1=.cells true [.ptr 1 0,.map 2,.int .i64 d.quota,.int .i64 (d.steps+1),.int .i64 a',.bool w']::rest) ?_ ?_)
 · by_cases h1:0<d.armed
   · cases h2:d.down with
     | true =>
       have e:d.count=⟨d.fd,d.fs,d.quota,d.steps+1,d.armed,d.down⟩:=by unfold DS.count;rw[if_neg (by simp[h2])]
       rw[e]at ea ew;dsimp only at ea ew;rw[h2]at ew;subst ea;subst ew
       refine wE zB (by simp[h1];exact wT) ?_;exact⟨rfl,by simp,rfl⟩
     | false =>
       have e:d.count=⟨d.fd,d.fs,d.quota,d.steps+1,d.armed-1,decide (d.armed-1=0)⟩:=by unfold DS.count;rw[if_pos ⟨h1,h2⟩]
       rw[e]at ea ew;dsimp only at ea ew;have hw1:IntKind.i64.wrap (d.armed-1)=d.armed-1:=zK (by omega) (by omega);rw[ea]at hw1 ew;have ew':(a'==0)=w':=by rw[<-ew];by_cases h:a'=0 <;> simp[h]
       refine wE zB (by simp[h1,ea,hw1,ew'];exact wT) ?_;exact⟨rfl,by simp,rfl⟩
   · have e:d.count=⟨d.fd,d.fs,d.quota,d.steps+1,d.armed,d.down⟩:=by unfold DS.count;rw[if_neg (by simp[h1])]
     rw[e]at ea ew;dsimp only at ea ew;subst ea;subst ew
     refine wE zB (by simp[h1];exact wT) ?_;exact⟨rfl,by simp,rfl⟩
 rintro e F' H1 hlen1 ⟨rfl,hF,rfl⟩;dsimp only;refine Sim.less hF ?_;clear hF hlen1;simp only[q9Z,qaZ,qbZ];cases w' with
 | true =>
   obtain⟨rfl,rfl⟩:=hdown rfl;refine wE zB (by simp;exact wT) ?_;exact⟨.inr rfl,by simp[Tryz.f88],rfl⟩
 | false =>
   have hΓ:GOk Pz (zh [(F,zGW caps (.cells true [.ptr 1 0,.map 2,.int .i64 d.quota,.int .i64 (d.steps+1),.int .i64 a',.bool false]::rest) v H')]):=zC (zB3 he (hup rfl) (by simpa using hlen)) zB (hg:=hF);refine wS hΓ (by simp;exact wR) ?_;have hF':¬F=1000000000:=hF;refine wE hΓ (by simp[hF'];exact wT) ?_;exact⟨.inr rfl,by simp[Tryz.f88],rfl⟩
def DS.heap(d:DS)(T:zA):zA:=d.cell0 1 2::.obj true d.fd.blks::.map (ZK (fun i=>i+3) 0 d.fs)::(zw d.fs++T)
theorem DS.heap_eq(d:DS)(T:zA):d.heap T=d.blks++T:=rfl
theorem DS.heap_length(d:DS)(T:zA):(d.heap T).length=d.fs.length+T.length+3:=by simp[DS.heap]
structure Behind (X:zA) (n:Nat):Prop where
 len:X.length=n
 get:∀(T:zA) (j:Nat),(X++T)[n+j]? = T[j]?
 get0:∀(T:zA),(X++T)[n]? = T[0]?
 set:∀(T:zA) (j:Nat) v,(X++T).set (n+j) v=X++T.set j v
 set0:∀(T:zA) v,(X++T).set n v=X++T.set 0 v
theorem behind(fs:FS):Behind (zw fs) fs.length:=by
 have hl:(zw fs).length=fs.length:=zIh fs;refine ⟨hl,fun T j=>?_,fun T=>?_,fun T j v=>?_,fun T v=>?_⟩
 · rw[q5Z (by omega),hl];congr 1;omega
 · rw[q5Z (by omega),hl,Nat.sub_self]
 · rw[List.set_append_right _ _ (by omega),hl];congr 2;omega
 · rw[List.set_append_right _ _ (by omega),hl,Nat.sub_self]
theorem DS.tail(d:DS){T Tn:zA}{F Fn:List AV}(ts:List Nat)(hts:ts.Nodup)
   (hF:AWs (List.range (d.fs.length+3)++ts.map (d.fs.length+3+·)) Fn F) (hlen:Tn.length=ts.length)
   (hT:∀(i t:Nat) x y,ts[i]? = some t->Tn[i]? = some x->T[t]? = some y->AWb (List.range (d.fs.length+3)++ts.map (d.fs.length+3+·)) x y):Weak (d.fs.length+3) F (d.heap T) Fn (d.heap Tn):=by
 have hl:=d.blks_length;rw[DS.heap_eq,DS.heap_eq];refine Weak.tailG hl (fun rn hr=>d.blks_id rn (by rw[hl];exact hr)) ts hts hF (AWg.of _ _ (by simp[hlen]) fun i x b hx hb hlt=>?_);rw[qzZ]at hb;obtain⟨t,ht,rfl⟩:=qlZ.1 hb;rw[qdZ,hl]at hlt;have htl:t<T.length:=by omega
 rw[q2Z,q5Z (by omega),hl,s3Z,q3Z htl];exact hT i t x _ ht hx (q3Z htl)
theorem zBw(n:Nat)(ts:List Nat){i:Nat}(hi:i<n):(List.range n++ts)[i]? = some i:=by
 rw[q4Z (by simpa using hi),rfZ hi]
theorem zOE(n:Nat)(ts:List Nat):(List.range n++ts)[n]? = ts[0]?:=by
 rw[q5Z (by simp)];simp
def zPH:List FuncId:=[46]
noncomputable def zUP:Gam:=zh [(75,zG3)]
theorem zTj:GOk Pz (zAF Pz zUP 0 zPH 2):=zq hmix (zC zKt zB) 0 zPH 2
theorem zPQ(d:DS)(hsm:d.fd.small):Ct Pz 40 [.ptr 0 0] (d.heap []) (.sl (d.fs.length+3) 0 d.list.length 1 false) (d.heap [.cells true (d.list.map .str)]):=by
 have hΓ:=zTj;have hlen:=d.heap_length [];obtain⟨n,hn⟩:∃n,d.fs.length=n:=⟨_,rfl⟩
 have hX:=behind d.fs;have tl:=fun {T Tn F Fn}=>DS.tail d (T:=T) (Tn:=Tn) (F:=F) (Fn:=Fn);rw[hn]at hlen hX tl;refine zE Tryz.func40 rfl ?_;simp only[Tryz.ntmps40,q7Z,q8Z,Nat.reduceAdd,Nat.reduceSub,qbZ,q9Z,qaZ];rw[hlen,hn];unfold DS.heap DS.cell0;have hXl:=hX.len;obtain⟨X,eX⟩:∃X,zw d.fs=X:=⟨_,rfl⟩
 rw[eX]at hX hXl ⊢;refine wS hΓ (by simp;exact wR) ?_ (by simp[hXl]);cases hd:d.down with
 | true =>
   have hl:d.list=[]:=by unfold DS.list;rw[hd];rfl
   rw[hl];refine wE hΓ (by simp +decide [zPH,Tryz.f46];exact wT) ?_ (by simp[hXl]);refine ⟨.inr rfl,_,by simp[Tryz.f40] <;> rfl,?_⟩;have:=tl (T:=[]) (Tn:=[.cells true []]) (F:=[.nils]) (Fn:=[.sl (n+3) 0 0 1 false]) [100] (by decide) (by simp[AWs,AW]) rfl (fun i t x y h1 h2 h3=>by simp at h3);unfold DS.heap DS.cell0 at this;rw[eX,hd]at this;simpa using this
 | false =>
   have hl:d.list=d.fd.names:=by unfold DS.list;rw[hd];rfl
   rw[hl];refine wS hΓ (by simp +decide [zPH,Tryz.f46];exact wR) ?_ (by simp[hXl]);refine wE hΓ (by simp +decide [zUP,zG3,hsm,hXl];exact wT) ?_ (by simp[hXl]);refine ⟨.inr rfl,_,by simp[Tryz.f40] <;> rfl,?_⟩;have:=tl (T:=[.cells true (d.fd.names.map .str)]) (Tn:=[.cells true (d.fd.names.map .str)]) (F:=[.sl (n+3) 0 d.fd.names.length 1 false]) (Fn:=[.sl (n+3) 0 d.fd.names.length 1 false]) [0] (by decide) (by simp[AWs,AW]) rfl (fun i t x y h1 h2 h3=>by
     match i,h1,h2 with
     | 0,h1,h2=>cases h1;cases h2;cases h3;exact⟨id,(Z7 (zH d.fd.names AV.str fun _=>rfl)).2 trivial⟩)
   unfold DS.heap DS.cell0 at this;rw[eX,hd]at this;simpa using this
def flA:List (List UInt8×List UInt8)->List AV
 | []=>[]
 | e::l=>.str e.1::.str e.2::flA l
@[simp] theorem zBt:∀l,(flA l).length=l.length*2
 | []=>rfl
 | e::l=>by simp[flA,zBt l];omega
theorem zC7:∀l m,flA (l++m)=flA l++flA m
 | [],m=>rfl
 | e::l,m=>by simp[flA,zC7 l m]
@[simp] theorem ZE:∀l,zL (flA l)=true
 | []=>rfl
 | e::l=>by simp[flA,ZE l]
theorem zDp:∀(l:List (List UInt8×List UInt8)) (k:Nat) (h:k<l.length),((flA l).drop (k*2)).take 2=[.str l[k].1,.str l[k].2]
 | a::l,0,_=>by simp[flA]
 | a::l,k+1,h=>by
   have:=zDp l k (by simpa using h);rw[show (k+1)*2=2+k*2 by omega];simp only[flA,List.getElem_cons_succ];rw[<-List.drop_drop];simpa using this
def zHd:List FuncId:=[134]
noncomputable def zOr(d:DS):Gam:=zh [(40,zGW [.ptr 0 0] (d.heap []) (.sl (d.fs.length+3) 0 d.list.length 1 false) (d.heap [.cells true (d.list.map .str)])),(76,zNG),(135,zKd)]
theorem zS2(d:DS)(hsm:d.fd.small):GOk Pz (zAF Pz (zOr d) 0 zHd 2):=zq hmix (zC (zB3 (zD Tryz.func40 rfl (by decide)) (zPQ d hsm) (by simp[DS.heap])) (zC zL1 (zC zKC zB))) 0 zHd 2
theorem zSw(d:DS){A B:Nat}(hok:d.ok A B)(hA:A<=1000000):Ct Pz 48 [.ptr 0 0] (d.heap []) (.sl (d.fs.length+3) 0 d.files.length 2 false) (d.heap [.cells true (flA d.files)]):=by
 have hsm:d.fd.small:=FD.ok_mono hok.fd hA;have hΓ:=zS2 d hsm;have hlen:=d.heap_length [];obtain⟨n,hn⟩:∃n,d.fs.length=n:=⟨_,rfl⟩
 have hX:=behind d.fs;have tl:=fun {T Tn F Fn}=>DS.tail d (T:=T) (Tn:=Tn) (F:=F) (Fn:=Fn);rw[hn]at hlen hX tl;refine zE Tryz.func48 rfl ?_;simp only[Tryz.ntmps48,q7Z,q8Z,Nat.reduceAdd,Nat.reduceSub,qbZ,q9Z,qaZ];rw[hlen,hn];have hfl:d.files.length=d.list.length:=by simp[DS.files]
 obtain⟨ks,hks⟩:∃ks,d.list=ks:=⟨_,rfl⟩
 obtain⟨m,hm⟩:∃m,ks.length=m:=⟨_,rfl⟩
 have hm6:m<=1000000:=by
   rw[<-hm,<-hks];unfold DS.list;split
   · simp
   · have h1:=(FD.ok_now hsm).2
     unfold FD.names;rw[(zU _).length_eq];simpa[NM.keys] using h1
 have hdn:0<m->d.down=false:=fun h=>by
   cases hd:d.down with
   | false=>rfl
   | true=>unfold DS.list at hks;rw[hd]at hks;rw[<-hks]at hm;simp at hm;omega
 rw[hfl,hks,hm];simp only[q8Z,Nat.add_zero]at hlen ⊢;have fks:∀rn:List Nat,AWs rn (ks.map AV.str) (ks.map AV.str):=fun rn=>(Z7 (zH ks AV.str fun _=>rfl)).2 trivial;refine wS hΓ (by simp;exact wR) ?_ (by simp[DS.heap,hn]);refine Sim.seq (Sim.mono (Q:=fun e F' H'=>e=.normal/\Weak (n+3) F' H' ([.ptr 0 0,.top,.sl (n+4) 0 m 2 false]++qbZ 26 .top) (d.heap [.cells true (ks.map .str),.cells true (flA d.files)])) (wS hΓ (by simp[zHd,zOr,hks,hm,hn];exact wR) ?_ (by simp[DS.heap,hn])) ?_)
 · refine Sim.block (Sim.loopW (fun i:Nat=>i<=m)
     (fun i=>[.ptr 0 0,.top,.sl (n+4) 0 i 2 false,.top,.top,.top,.top,.top,.sl (n+3) 0 m 1 false,.int .i64 m,.int .i64 i]++qbZ 18 .top)
     (fun i=>d.heap [.cells true (ks.map .str),.cells true (flA (d.files.take i))]) (fun i=>m-i) 0 (by simp[DS.heap,hn]) (by simp) ?_ fun i hi=>?_)
   · refine tl (T:=[.cells true (ks.map .str)]) [0,100] (by decide) ?_ rfl ?_
     · simp[AW]
     · intro j t x y h1 h2 h3
       match j,h1,h2 with
       | 0,h1,h2=>cases h1;cases h2;cases h3;exact⟨id,fks _⟩
       | 1,h1,h2=>cases h1;cases h3
   · by_cases hlt:i<m
     · have hltI:(i:Int)<m:=by omega
       have hilt:i<ks.length:=by omega
       obtain⟨k,hk⟩:∃k,ks[i]=k:=⟨_,rfl⟩
       have hg:∀h,ks[i]'h=k:=fun h=>hk;have hd:=hdn (by omega);have hmem:k∈d.fd.names:=by
         rw[<-hk];have:ks=d.fd.names:=by rw[<-hks];unfold DS.list;rw[hd];rfl
         rw[<-this];exact r3Z hilt
       obtain⟨v,hv⟩:=FD.names_get hmem;obtain⟨f,hf,hfok⟩:=DS.has_file hok hv;have hfind:=FD.find_get hv;have hlook:=zEX (fun i=>i+3) v 0 d.fs 0;rw[hf]at hlook;simp only[rhZ,s8Z]at hlook;have hfb:=zEe (FS.at_get hf);have hal:=FS.at_lt hf;obtain⟨q,hq⟩:∃q,FS.at d.fs v=q:=⟨_,rfl⟩
       rw[hq]at hlook hfb hal;rw[hn]at hal;dsimp only at hfb;have htext:d.text k=f.now:=by unfold DS.text DS.file;rw[hv];dsimp only;rw[hf]
       have hnx:d.files.take (i+1)=d.files.take i++[(k,f.now)]:=by
         rw[List.take_add_one]
         congr 1
         unfold DS.files;rw[hks,qzZ,q3Z hilt,hk];simp[htext]
       obtain⟨acc,hacc⟩:∃acc,d.files.take i=acc:=⟨_,rfl⟩
       have hal2:acc.length=i:=by rw[<-hacc,qjZ,hfl,hks,hm];omega
       rw[hacc]at hnx ⊢;have hXl:=hX.len;have hXg:=hX.get;have hXg0:=hX.get0;unfold DS.heap DS.cell0;obtain⟨X,eX⟩:∃X,zw d.fs=X:=⟨_,rfl⟩
       rw[eX]at hfb hXl hXg hXg0 ⊢;have hXq:∀T,(X++T)[q]? = some (.obj true f.blks):=fun T=>by rw[q4Z (by omega)];exact hfb
       have hXsq:∀T,(X++T).set q (.obj true f.blks)=X++T:=fun T=>by
         have hql:q<(X++T).length:=by simp;omega
         have h1:(X++T)[q]'hql=.obj true f.blks:=by have:=hXq T;rw[q3Z hql]at this;exact Option.some.inj this
         rw[<-h1,List.set_getElem_self]
       have hXs:=hX.set;have hXs0:=hX.set0;rw[eX]at hXs hXs0;have y1:IntKind.i64.wrap ((i:Int)+1)=i+1:=zK (by omega) (by omega);have b1:(i+1)*32<=140737488355328:=by omega
       have b2:i+1<=9223372036854775807:=by omega
       have htk:List.take (i*2) (flA acc)=flA acc:=q6Z (by simp[hal2]);rw[hd];refine wS hΓ (by simp[hltI];exact wR) ?_ (by simp[hXl]);refine wS hΓ (by simp;exact wR) ?_ (by simp[hXl]);refine Sim.seq (Sim.block ?_);refine wS hΓ (by simp[hlt,hXl,hm,hg];exact wR) ?_ (by simp[hXl]);refine wS hΓ (by simp[zHd,zOr,zNG,hfind,hlook,Tryz.f134];exact wR) ?_ (by simp[hXl]);refine wE hΓ (by simp[zHd,zOr,zKd,hXq,hXsq,hXs,hXl,hal2,htk,b1,b2];exact wT) ?_ (by simp[hXl]);dsimp only;refine wE hΓ (by simp[y1];exact wT) ?_ (by simp[hXl]);dsimp only;refine ⟨i+1,by omega,?_,by omega⟩;rw[hnx,zC7];have tlx:=fun {T Tn F Fn}=>tl (T:=T) (Tn:=Tn) (F:=F) (Fn:=Fn) [0,3] (by decide);unfold DS.heap DS.cell0 at tlx;rw[eX,hd]at tlx;refine tlx ?_ rfl fun j t x y h1 h2 h3=>?_
       · simp[AW]
       · match j,h1,h2 with
         | 0,h1,h2=>cases h1;cases h2;cases h3;exact⟨id,fks _⟩
         | 1,h1,h2=>cases h1;cases h2;cases h3;simp[AWb,flA]
     · have hin:i=m:=by omega
       subst hin;have hltI:¬(i:Int)<i:=by omega
       refine wE hΓ (by simp;exact wT) ?_ (by simp[DS.heap,hn]);dsimp only;rw[if_pos rfl];refine ⟨by trivial,?_⟩;have hall:d.files.take i=d.files:=q6Z (by rw[hfl,hks,hm];exact qnZ _);rw[hall];refine tl [0,1] (by decide) ?_ rfl fun j t x y h1 h2 h3=>?_
       · simp[AW]
       · match j,h1,h2 with
         | 0,h1,h2=>cases h1;cases h2;cases h3;exact⟨id,fks _⟩
         | 1,h1,h2=>cases h1;cases h2;cases h3;simp[AWb]
 rintro e F' H' hlen1 ⟨rfl,hwk⟩;dsimp only;refine Sim.weak hwk hlen1 ?_;clear hwk hlen1;simp only[q9Z,qaZ,qbZ];refine wE hΓ (by simp;exact wT) ?_ (by simp[DS.heap,hn]);refine ⟨.inr rfl,_,by simp[Tryz.f48] <;> rfl,?_⟩;refine tl [1] (by decide) ?_ rfl fun j t x y h1 h2 h3=>?_
 · simp[AW]
 · match j,h1,h2 with
   | 0,h1,h2=>cases h1;cases h2;cases h3;simp[AWb]
def zGe:ABlk:=.cells true [.ptr 0 0]
def zPs(k:List UInt8):ABlk:=.cells true [.str k]
theorem DS.small_fd{d:DS}{A B:Nat}(h:d.ok A B)(hA:A<=1000000):d.fd.small:=FD.ok_mono h.fd hA
theorem zPl(d:DS)(T:zA)(v:AV)(hv:zD9 v=true):Weak (d.fs.length+3) [v] (d.heap T) [v] (d.heap []) :=
 DS.tail d [] (by decide) ⟨zFT _ hv,trivial⟩ rfl fun i t x y h=>by simp at h
theorem zPU(d:DS){A B:Nat}(hok:d.ok A B)(hA:A<=999999)(T T2:zA)(F:FuncId)(caps:List AV)(g:DS->DS×Int)(he:∀cargs w,(callFunc F cargs).run Pz w=.ok (.enter F cargs) w)(hF:F≠yl)
   (hfs:(g d.count).1.fs.length=d.fs.length) (hT:T.length<=T2.length) (hcl:d.count.down=false->Ct Pz F caps (d.count.heap T) (.int .i64 (g d.count).2) ((g d.count).1.heap T2)) :
   ∃H1,Ct Pz 88 [.ptr 0 0,.func F [] caps] (d.heap T) (.int .i64 (d.step g).2) H1/\(d.heap T).length<=H1.length/\(∃T3,H1=(d.step g).1.heap T3/\T.length<=T3.length)/\(d.step g).1.fs.length=d.fs.length /\
     Sound Pz 88 (zGW [.ptr 0 0,.func F [] caps] (d.heap T) (.int .i64 (d.step g).2) H1):=by
 have e:(d.step g).1.fs.length=d.fs.length:=by
   unfold DS.step;split
   · rw[DS.count_fs]
   · exact hfs
 obtain⟨T3,hT3⟩:∃T3,T3=(if d.count.down=true then T else T2):=⟨_,rfl⟩
 have hl3:T.length<=T3.length:=by rw[hT3];split <;> omega
 have hl:(d.heap T).length<=((d.step g).1.heap T3).length:=by rw[DS.heap_length,DS.heap_length,e];omega
 have hct:Ct Pz 88 [.ptr 0 0,.func F [] caps] (d.heap T) (.int .i64 (d.step g).2) ((d.step g).1.heap T3):=by
   refine zTA d T F caps he hF ⟨hok.s0,by have:=hok.s1;omega⟩ ⟨hok.a0,hok.a1⟩ hl (fun hd=>?_) fun hd=>?_
   · unfold DS.step
     rw[if_pos hd,hT3,if_pos hd];exact⟨rfl,rfl⟩
   · have:=hcl hd
     unfold DS.step;rw[if_neg (by rw[hd];decide),hT3,if_neg (by rw[hd];decide)];exact this
 exact⟨_,hct,hl,⟨T3,rfl,hl3⟩,e,zB3 (zD Tryz.func88 rfl (by decide)) hct hl⟩
theorem zH3{d e:DS}(T:zA)(v:AV)(hv:zD9 v=true)(h:e.fs.length=d.fs.length):Weak (d.fs.length+3) [v] (e.heap T) [v] (e.heap []):=by
 rw[<-h];exact zPl e T v hv
def DS.fdTo(d:DS)(f:FD):DS:=⟨f,d.fs,d.quota,d.steps,d.armed,d.down⟩
noncomputable def zUc:Gam:=zh [(117,zHb)]
theorem zSk:GOk Pz zUc:=zC zGJ zB
theorem zMW(d:DS)(hk:d.fd.acts.length<=1000000):Ct Pz 219 [.ptr (d.fs.length+3) 0] (d.heap [zGe]) (.int .i64 0) ((d.fdTo (d.fd.survive d.fd.acts.length)).heap [zGe]):=by
 have hΓ:=zSk;obtain⟨n,hn⟩:∃n,d.fs.length=n:=⟨_,rfl⟩
 have hX:=behind d.fs;rw[hn]at hX;refine ZG Tryz.func219 rfl ?_;simp only[Tryz.ntmps219,q7Z,q8Z,Nat.reduceAdd,Nat.reduceSub,qbZ,q9Z,qaZ];have hXl:=hX.len;have hXg:=hX.get;have hXg0:=hX.get0;unfold DS.heap DS.cell0 zGe DS.fdTo;rw[hn];obtain⟨X,eX⟩:∃X,zw d.fs=X:=⟨_,rfl⟩
 rw[eX]at hXl hXg hXg0 ⊢;refine wS hΓ (by simp;exact wR) ?_ (by simp[hXl]);refine wS hΓ (by simp[zUc,zHb,hk,hXl];exact wR) ?_ (by simp[hXl]);refine wE hΓ (by simp;exact wT) ?_ (by simp[hXl]);exact⟨.inr rfl,by simp[Tryz.f219],rfl⟩
theorem zMK(d:DS){A B:Nat}(hok:d.ok A B)(hA:A<=999999):Ct Pz 131 [.ptr 0 0] (d.heap []) (.int .i64 d.syncDir.2) (d.syncDir.1.heap []):=by
 have hc:=DS.ok_count hok;obtain⟨H1,hct,hl,⟨T3,hT3,_⟩,hfs,hsound⟩:=zPU d hok hA [zGe] [zGe] 219 [.ptr (d.fs.length+3) 0] (fun d=>(⟨d.fd.survive d.fd.acts.length,d.fs,d.quota,d.steps,d.armed,d.down⟩,0)) (zD Tryz.func219 rfl (by decide)) (by decide)
   (by dsimp only;rw[DS.count_fs]) (qnZ _) fun _=>by
     have:=zMW d.count (by have:=hc.fd.len;omega);rw[DS.count_fs]at this;exact this
 have hΓ:=zC hsound zB;have hfin:=zH3 (d:=d) T3 (.int .i64 d.syncDir.2) rfl hfs;rw[<-hT3]at hfin;unfold DS.syncDir at hfin ⊢;refine zE Tryz.func131 rfl ?_;simp only[Tryz.ntmps131,q7Z,q8Z,Nat.reduceAdd,Nat.reduceSub,qbZ,q9Z,qaZ];rw[DS.heap_length];simp only[q8Z,Nat.add_zero];clear hct hT3;generalize DS.step d _=R at hΓ hfin ⊢;generalize R.1.heap []=HF at hfin ⊢;generalize R.2=e at hΓ hfin ⊢;have hX:=behind d.fs;obtain⟨n,hn⟩:∃n,d.fs.length=n:=⟨_,rfl⟩
 rw[hn]at hX hΓ hfin ⊢;have hXl:=hX.len;have hXg:=hX.get;have hXg0:=hX.get0;unfold DS.heap DS.cell0 zGe at hΓ;unfold DS.heap DS.cell0;obtain⟨X,eX⟩:∃X,zw d.fs=X:=⟨_,rfl⟩
 rw[eX]at hXl hXg hXg0 hΓ ⊢;refine wS hΓ (by simp;exact wR) ?_ (by simp[hXl]);refine wE hΓ (by simp[hXl];exact wT) ?_ (by simp[hXl]);exact⟨.inr rfl,_,by simp[Tryz.f131] <;> rfl,hfin⟩
noncomputable def zUJ:Gam:=zh [(288,zSt)]
theorem zSX:GOk Pz zUJ:=zC zOT zB
theorem zNf(d:DS)(hsm:d.fd.small)(k:List UInt8):Ct Pz 287 [.ptr (d.fs.length+3) 0,.ptr (d.fs.length+4) 0] (d.heap [zGe,zPs k]) (.int .i64 (d.fd.remove k).2) ((d.fdTo (d.fd.remove k).1).heap [zGe,zPs k]):=by
 have hΓ:=zSX;obtain⟨n,hn⟩:∃n,d.fs.length=n:=⟨_,rfl⟩
 have hX:=behind d.fs;rw[hn]at hX;refine ZG Tryz.func287 rfl ?_;simp only[Tryz.ntmps287,q7Z,q8Z,Nat.reduceAdd,Nat.reduceSub,qbZ,q9Z,qaZ];have hXl:=hX.len;have hXg:=hX.get;have hXg0:=hX.get0;unfold DS.heap DS.cell0 zGe zPs DS.fdTo;rw[hn];obtain⟨X,eX⟩:∃X,zw d.fs=X:=⟨_,rfl⟩
 rw[eX]at hXl hXg hXg0 ⊢;refine wS hΓ (by simp;exact wR) ?_ (by simp[hXl]);refine Sim.seq (Sim.draw hmix (by simp) ?_);refine SimR.many hΓ 5 (by simp[zF];rfl) (by omega) (by kernel_rfl) (by simp +decide [hXl];first | exact wR | exact⟨by kernel_rfl,wR⟩) ?_;refine SimR.one hΓ _ rfl (by kernel_rfl) (by simp +decide [zUJ,zSt,hsm];exact wR) ?_;refine SimR.many hΓ 7 (by simp[zF,zM];rfl) (by omega) (by kernel_rfl) (by simp +decide;first | exact wR | exact⟨by kernel_rfl,wR⟩) ?_;refine SimR.done rfl ?_;dsimp only;refine wE hΓ (by simp;exact wT) ?_ (by simp[hXl]);exact⟨.inr rfl,by simp[Tryz.f287],rfl⟩
theorem zOX(d:DS){A B:Nat}(hok:d.ok A B)(hA:A<=999999)(k:List UInt8):Ct Pz 217 [.ptr 0 0,.str k] (d.heap []) (.int .i64 (d.remove k).2) ((d.remove k).1.heap []):=by
 have hc:=DS.ok_count hok;obtain⟨H1,hct,hl,⟨T3,hT3,_⟩,hfs,hsound⟩:=zPU d hok hA [zGe,zPs k] [zGe,zPs k] 287 [.ptr (d.fs.length+3) 0,.ptr (d.fs.length+4) 0] (fun d=>(⟨(d.fd.remove k).1,d.fs,d.quota,d.steps,d.armed,d.down⟩,(d.fd.remove k).2)) (zD Tryz.func287 rfl (by decide)) (by decide)
   (by dsimp only;rw[DS.count_fs]) (qnZ _) fun _=>by
     have:=zNf d.count (DS.small_fd hc (by omega)) k;rw[DS.count_fs]at this;exact this
 have hΓ:=zC hsound zB;have hfin:=zH3 (d:=d) T3 (.int .i64 (d.remove k).2) rfl hfs;rw[<-hT3]at hfin;unfold DS.remove at hfin ⊢;refine zE Tryz.func217 rfl ?_;simp only[Tryz.ntmps217,q7Z,q8Z,Nat.reduceAdd,Nat.reduceSub,qbZ,q9Z,qaZ];rw[DS.heap_length];simp only[q8Z,Nat.add_zero];clear hct hT3;generalize DS.step d _=R at hΓ hfin ⊢;generalize R.1.heap []=HF at hfin ⊢;generalize R.2=e at hΓ hfin ⊢;have hX:=behind d.fs;obtain⟨n,hn⟩:∃n,d.fs.length=n:=⟨_,rfl⟩
 rw[hn]at hX hΓ hfin ⊢;have hXl:=hX.len;have hXg:=hX.get;have hXg0:=hX.get0;unfold DS.heap DS.cell0 zGe zPs at hΓ;unfold DS.heap DS.cell0;obtain⟨X,eX⟩:∃X,zw d.fs=X:=⟨_,rfl⟩
 rw[eX]at hXl hXg hXg0 hΓ ⊢;refine wS hΓ (by simp;exact wR) ?_ (by simp[hXl]);refine wE hΓ (by simp[hXl];exact wT) ?_ (by simp[hXl]);exact⟨.inr rfl,_,by simp[Tryz.f217] <;> rfl,hfin⟩
theorem Z4(X:zA){n:Nat}(hl:X.length=n):Behind X n:=by
 refine ⟨hl,fun T j=>?_,fun T=>?_,fun T j v=>?_,fun T v=>?_⟩
 · rw[q5Z (by omega),hl];congr 1;omega
 · rw[q5Z (by omega),hl,Nat.sub_self]
 · rw[List.set_append_right _ _ (by omega),hl];congr 2;omega
 · rw[List.set_append_right _ _ (by omega),hl,Nat.sub_self]
theorem Aft.closeAt{n0:Nat}{F:List AV}{H:zA}{K:List AV->zA->Prop}{d:DS}{b fo m:Nat}{g:Nat->Nat}(h:DAt H d b fo m g)(hn:n0<=H.length)
   (k:Aft n0 F (ZF H b (fo::m::(List.range d.fs.length).map g) true d.blks) K):Aft n0 F H K:=by
 refine Aft.close (o:=true) (b:=b) (sub:=d.blks) (rs:=b::fo::m::(List.range d.fs.length).map g) (ks:=fo::m::(List.range d.fs.length).map g) rfl h.nd (q1Z.1 h.c0).1 ?_ (h.awg _ fun _ _=>rfl) ⟨d.cell0 1 2,rfl,rfl⟩ ?_ hn k
 · intro c x hc hcb _ _
   rcases qwZ.1 hc with e | hc
   · exact absurd e hcb
   · exact hc
 · intro i y hy hd
   have hm:=qcZ hy;simp only[DS.blks,DS.cell0,qwZ]at hm;rcases hm with rfl | rfl | rfl | hm
   · rfl
   · rfl
   · rfl
   · obtain⟨e,_,rfl⟩:=reZ.1 hm
     rfl
theorem zTu(d:DS)(m:Int):Ct Pz 14 [.ptr 0 0,.int .i64 m] (d.heap []) (.tuple []) ((d.arm m).heap []):=by
 refine ZG Tryz.func14 rfl ?_;simp only[Tryz.ntmps14,q7Z,q8Z,Nat.reduceAdd,Nat.reduceSub,qbZ,q9Z,qaZ];unfold DS.heap DS.cell0 DS.arm;obtain⟨k,hk⟩:∃k,max 0 m=k:=⟨_,rfl⟩
 rw[hk];refine wS zB (by simp;exact wR) ?_;refine wE zB (by simp +decide [-zDS,zFq,hk];exact wT) ?_;exact⟨.inl rfl,by simp[Tryz.f14],by simp⟩
theorem zSH(d:DS):Ct Pz 46 [.ptr 0 0] (d.heap []) (.bool d.down) (d.heap []):=by
 refine ZG Tryz.func46 rfl ?_;simp only[Tryz.ntmps46,q7Z,q8Z,Nat.reduceAdd,Nat.reduceSub,qbZ,q9Z,qaZ];unfold DS.heap DS.cell0;refine wS zB (by simp;exact wR) ?_;refine wE zB (by simp +decide;exact wT) ?_;exact⟨.inr rfl,by simp[Tryz.f46],by simp⟩
theorem zE8{f:FuncId}{d d':DS}{xs:List AV}{v:AV}(h:Ct Pz f (.ptr 0 0::xs) (d.heap []) v (d'.heap []))(hv:zD9 v=true):Ct Pz f (.ptr 0 0::xs) [.obj true d.blks] v [.obj true d'.blks]:=by
 rw[DS.heap_eq,DS.heap_eq,r2Z]at h;refine zBi h (by simp[DS.blks]) ?_;have:=Aft.closeDS d' (T:=[]) (Tn:=[]) (v:=v) (v':=v) [] (by decide) rfl (zFT _ hv) (fun i t x h=>by simp at h);exact this
theorem zSp{H Hn:zA}{F Fn:List AV}{N M:Nat}(_hM:H.length=M)(hN:N<=M)(hF:∀rn:List Nat,(∀i,i<M->rn[i]? = some i)->AWs rn Fn F)
   (hlen:Hn.length=M) (hH:∀rn:List Nat,(∀i,i<M->rn[i]? = some i)->∀(i:Nat) x y,Hn[i]? = some x->H[i]? = some y->AWb rn x y):Weak N F H Fn Hn:=by
 have hr:∀i,i<M->(List.range M)[i]? = some i:=fun i hi=>rfZ hi;refine Weak.mk' (List.range M) List.nodup_range (by rw[List.take_range,sfZ hN]) (hF _ hr) (AWg.of _ _ (by simp[hlen]) fun i x b hx hb hlt=>?_);have hi:i<M:=by rw[<-hlen];exact (q1Z.1 hx).1
 rw[hr i hi]at hb;cases hb
 rw[q2Z,q3Z hlt];exact hH _ hr i x _ hx (q3Z hlt)
end
section
open Go Go.Lib
attribute [-simp] zG zT zc zJ zn
noncomputable section
open Classical
def DS.small(d:DS):Prop:=d.ok 900000 1000000000000
def zSF:zS:=zBc dsD DS.blks fun d xs _=>match xs with
 | [.str k]=>if d.small then some ((d.remove k).1,.int .i64 (d.remove k).2) else none
 | _=>none
theorem zNI:Sound Pz 217 zSF:=by
 refine zg (zD Tryz.func217 rfl (by decide)) (fun _ _=>zCE) fun d xs H s' v b hg hb=>?_;split at hg;rotate_left
 · cases hg
 split at hg <;> cases hg
 rename_i hs;exact zy (zE8 (zOX d hs (by decide) _) rfl) rfl rfl hb
def zKI:zS:=zBc dsD DS.blks fun d xs _=>match xs with
 | []=>if d.small then some (d.syncDir.1,.int .i64 d.syncDir.2) else none
 | _=>none
theorem zKF:Sound Pz 131 zKI:=by
 refine zg (zD Tryz.func131 rfl (by decide)) (fun _ _=>zCE) fun d xs H s' v b hg hb=>?_;split at hg;rotate_left
 · cases hg
 split at hg <;> cases hg
 rename_i hs;exact zy (zE8 (zMK d hs (by decide)) rfl) rfl rfl hb
def zRN:zS:=zBc dsD DS.blks fun d xs _=>match xs with
 | [.int .i64 m]=>some (d.arm m,.tuple [])
 | _=>none
theorem zM8:Sound Pz 14 zRN:=by
 refine zg (zD Tryz.func14 rfl (by decide)) (fun _ _=>zCE) fun d xs H s' v b hg hb=>?_;split at hg <;> cases hg
 exact zy (zE8 (zTu d _) rfl) rfl rfl hb
end
end
section
open Go Go.Lib
attribute [-simp] zG zT zc zJ zn
theorem zRa(d:DS)(hsm:d.fd.small):Ct Pz 40 [.ptr 0 0] [.obj true d.blks] (.sl 1 0 d.list.length 1 false) [.obj true d.blks,.cells true (d.list.map .str)]:=by
 have h:=zPQ d hsm;rw[DS.heap_eq,DS.heap_eq,r2Z]at h;refine zBi h (by simp[DS.blks]) (Aft.closeDS d [0] (by decide) rfl ?_ fun i t x h1 h2=>?_)
 · simp[AW]
 · match i,h1,h2 with
   | 0,h1,h2=>cases h1;cases h2;exact⟨_,rfl,id,(Z7 (zH d.list AV.str fun _=>rfl)).2 trivial⟩
theorem zQN(d:DS){A B:Nat}(hok:d.ok A B)(hA:A<=1000000):Ct Pz 48 [.ptr 0 0] [.obj true d.blks] (.sl 1 0 d.files.length 2 false) [.obj true d.blks,.cells true (flA d.files)]:=by
 have h:=zSw d hok hA;rw[DS.heap_eq,DS.heap_eq,r2Z]at h;refine zBi h (by simp[DS.blks]) (Aft.closeDS d [0] (by decide) rfl ?_ fun i t x h1 h2=>?_)
 · simp[AW]
 · match i,h1,h2 with
   | 0,h1,h2=>cases h1;cases h2;exact⟨_,rfl,id,(Z7 (ZE d.files)).2 trivial⟩
theorem zPY{f:FuncId}{d:DS}{k sz:Nat}{l:List AV}(h:Ct Pz f [.ptr 0 0] [.obj true d.blks] (.sl 1 0 k sz false) [.obj true d.blks,.cells true l])(hl:∀g,ZV g l=l){H:zA}{b:Nat}(hb:H[b]? = some (.obj true d.blks)) :
   Ct Pz f [.ptr b 0] H (.sl H.length 0 k sz false) (H++[.cells true l]):=by
 have hbl:b<H.length:=(q1Z.1 hb).1;have:=zZ (H:=H) (args:=[.ptr b 0]) h [b] (by simp) ⟨⟨rfl,rfl⟩,trivial⟩ ⟨by rw[q2Z,hb];exact⟨rfl,rfl⟩,hbl,trivial⟩ rfl;obtain⟨h1,h2⟩:=q1Z.1 hb;have hset:H.set b (.obj true d.blks)=H:=by rw[<-h2,List.set_getElem_self]
 simpa[zW,ABlk.own,reB,reA,Zr,hset,hl] using this
noncomputable section
open Classical
def zDf:zS:=fun args H=>match args with
 | [.ptr b 0]=>match H[b]? with
   | some (.obj true sub)=>match dsD sub with
     | some d=>if d.small then some (.sl H.length 0 d.list.length 1 false,H++[.cells true (d.list.map .str)],[]) else none
     | none=>none
   | _=>none
 | _=>none
theorem zDW:Sound Pz 40 zDf:=by
 refine ⟨zD Tryz.func40 rfl (by decide),fun args H v H' W hs=>?_,fun args H v H' W hs=>?_⟩ <;> (unfold zDf at hs;split at hs <;> try cases hs) <;> (split at hs <;> try cases hs) <;> (rename_i b _ sub hb;split at hs <;> try cases hs) <;> (rename_i d hd;split at hs <;> cases hs;rename_i hk)
 · have e:=zCE hd
   subst e;exact zPY (zRa d (DS.small_fd hk (by decide))) (fun g=>ZH g _ (by simp[Zo,zAs])) hb
 · exact⟨by simp,fun c hc _=>by rw[q4Z hc]⟩
def zG0:zS:=fun args H=>match args with
 | [.ptr b 0]=>match H[b]? with
   | some (.obj true sub)=>match dsD sub with
     | some d=>if d.small then some (.sl H.length 0 d.files.length 2 false,H++[.cells true (flA d.files)],[]) else none
     | none=>none
   | _=>none
 | _=>none
theorem Z8:∀l,Zo (flA l)=true
 | []=>rfl
 | e::l=>by have:=Z8 l;simpa[flA,Zo,zAs] using this
theorem zKR:Sound Pz 48 zG0:=by
 refine ⟨zD Tryz.func48 rfl (by decide),fun args H v H' W hs=>?_,fun args H v H' W hs=>?_⟩ <;> (unfold zG0 at hs;split at hs <;> try cases hs) <;> (split at hs <;> try cases hs) <;> (rename_i b _ sub hb;split at hs <;> try cases hs) <;> (rename_i d hd;split at hs <;> cases hs;rename_i hk)
 · have e:=zCE hd
   subst e;exact zPY (zQN d hk (by decide)) (fun g=>ZH g _ (Z8 _)) hb
 · exact⟨by simp,fun c hc _=>by rw[q4Z hc]⟩
end
end
section
open Go Go.Lib
attribute [-simp] zG zT zc zJ zn
theorem zRR(x:List (List UInt8×List UInt8))(hx:x.length<=9223372036854775807):Ct Pz 47 [.sl 0 0 x.length 2 false,.sl 1 0 x.length 2 false] [.cells false (flA x),.cells false (flA x)] (.bool true) [.cells false (flA x),.cells false (flA x)]:=by
 refine zE Tryz.func47 rfl ?_;simp only[Tryz.ntmps47,q7Z,q8Z,Nat.reduceAdd,Nat.reduceSub,qbZ,q9Z,qaZ];obtain⟨m,hm⟩:∃m,x.length=m:=⟨_,rfl⟩
 rw[hm]at hx ⊢;refine wS zB (by simp;exact wR) ?_;refine wS zB (by simp;exact wR) ?_;refine Sim.seq (wS zB (by simp;exact wR) ?_);refine Sim.mono (Q:=fun e F' H'=>e=.normal/\Weak 2 F' H' (qbZ 26 .top) [.cells false (flA x),.cells false (flA x)]) ?_ ?_
 · refine Sim.block (Sim.loopW (fun i:Nat=>i<=m) (fun i=>[.sl 0 0 m 2 false,.sl 1 0 m 2 false,.top,.top,.top,.int .i64 i]++qbZ 20 .top) (fun _=>[.cells false (flA x),.cells false (flA x)]) (fun i=>m-i) 0 (by simp) (by simp) ?_ fun i hi=>?_)
   · exact wW [0,1] (by simp[AWb])
   · by_cases hlt:i<m
     · have hltI:(i:Int)<m:=by omega
       have hilt:i<x.length:=by omega
       obtain⟨e,he⟩:∃e,x[i]=e:=⟨_,rfl⟩
       have hg:=zDp x i hilt;rw[he]at hg;have k1:i*2+2<=m*2:=by omega
       have y1:IntKind.i64.wrap ((i:Int)+1)=i+1:=zK (by omega) (by omega);refine wS zB (by simp[hltI];exact wR) ?_;refine Sim.seq (Sim.block ?_);refine wE zB (by simp +decide [hlt,hm,hg,k1];first | exact⟨rfl,rfl,rfl⟩ | exact⟨by kernel_rfl,rfl,rfl,rfl⟩) ?_;dsimp only;refine wE zB (by simp[y1];exact wT) ?_;dsimp only;exact⟨i+1,by omega,wW [0,1] (by simp[AWb]),by omega⟩
     · have hin:i=m:=by omega
       subst hin;refine wE zB (by simp;exact wT) ?_;dsimp only;rw[if_pos rfl];exact⟨by trivial,wW [0,1] (by simp[AWb])⟩
 rintro e F' H' hlen1 ⟨rfl,hwk⟩;dsimp only;refine Sim.weak hwk hlen1 ?_;clear hwk hlen1;simp only[qbZ];refine wE zB (by simp;exact wT) ?_;exact⟨.inr rfl,_,by simp[Tryz.f47] <;> rfl,wW [0,1] (by simp[AWb])⟩
noncomputable def flD(l:List AV):Option (List (List UInt8×List UInt8)):=open Classical in if h:∃x,l=flA x then some h.choose else none
theorem zJn{l:List AV}{x:List (List UInt8×List UInt8)}(h:flD l=some x):l=flA x:=by
 unfold flD at h;split at h
 · rename_i hx
   cases h;exact hx.choose_spec
 · cases h
theorem zPG:∀{x y:List (List UInt8×List UInt8)},flA x=flA y->x=y
 | [],[],_=>rfl
 | [],_::_,h=>by simp[flA]at h
 | _::_,[],h=>by simp[flA]at h
 | (a,b)::x,(c,d)::y,h=>by
   simp only[flA,List.cons.injEq,AV.str.injEq]at h;rw[h.1,h.2.1,zPG h.2.2]
@[simp] theorem zVq(x:List (List UInt8×List UInt8)):flD (flA x)=some x:=by
 unfold flD;have h:∃y,flA x=flA y:=⟨x,rfl⟩
 rw[dif_pos h];exact congrArg some (zPG h.choose_spec).symm
noncomputable def zJu:zS:=open Classical in fun args H=>match args with
 | [.sl b 0 n 2 _c,.sl b2 0 m 2 _c2]=>match H[b]?,H[b2]? with
   | some (.cells _ l),some (.cells _ l2)=>match flD l with
     | some x=>if n=x.length/\m=x.length/\l2=l/\b≠b2/\x.length<=9223372036854775807 then some (.bool true,H,[]) else none
     | none=>none
   | _,_=>none
 | _=>none
theorem zMk:Sound Pz 47 zJu:=by
 refine ⟨zD Tryz.func47 rfl (by decide),fun args H v H' W hs=>?_,fun args H v H' W hs=>?_⟩ <;> (unfold zJu at hs;split at hs <;> try cases hs) <;> (rename_i b n c b2 m c2;split at hs <;> try cases hs) <;> (rename_i o l o2 l2 hb hb2;split at hs <;> try cases hs) <;> (rename_i x hx;split at hs <;> cases hs;rename_i hk)
 · obtain⟨rfl,rfl,rfl,hne,hl⟩:=hk
   have e:=zJn hx;subst e;have hbl:b<H.length:=(q1Z.1 hb).1;have hbl2:b2<H.length:=(q1Z.1 hb2).1;have:=zZ (H:=H) (args:=[.sl b 0 x.length 2 c,.sl b2 0 x.length 2 c2]) (zRR x hl) [b,b2] (by simp[hne]) ⟨⟨rfl,rfl,rfl,by simp⟩,⟨rfl,rfl,rfl,by simp⟩,trivial⟩ ⟨by rw[q2Z,hb];exact⟨by simp,zAU _ (Z8 x)⟩,hbl,by rw[q2Z,hb2];exact⟨by simp,zAU _ (Z8 x)⟩,hbl2,trivial⟩ rfl;simpa[zW,ABlk.own,reA] using this
 · exact⟨qnZ _,fun _ _ _=>rfl⟩
theorem FD.names_nd{fd:FD}(h:fd.numOk):fd.names.Nodup:=(zU _).symm.nodup (FD.each_now h.2).nd
end
section
open Go Go.Lib
def zJp(fs:FS)(l:NM)(k:List UInt8):Option PF:=(NM.get l k).bind (FS.get fs)
theorem zRf{fs:FS}{l:NM}{k:List UInt8}{f:PF}(h:zJp fs l k=some f):∃n,NM.get l k=some n/\FS.get fs n=some f:=by
 unfold zJp at h;cases hg:NM.get l k with
 | none=>rw[hg]at h;cases h
 | some n=>rw[hg]at h;exact⟨n,rfl,h⟩
theorem zPW{fs:FS}{l:NM}{k:List UInt8}{n:Int}(h:NM.get l k=some n):zJp fs l k=FS.get fs n:=by unfold zJp;rw[h];rfl
theorem FS.upd_app{l:FS}{m:Int}{f:PF}(h:m∉FS.keys l)(g:PF->PF):FS.upd (l++[(m,f)]) m g=l++[(m,g f)]:=by
 induction l with
 | nil=>simp[FS.upd]
 | cons e l ih =>
   simp only[FS.keys,s1Z,qwZ,not_or]at h;rw[q9Z];unfold FS.upd;rw[if_neg (fun e=>h.1 e.symm),ih h.2];rfl
theorem FS.get_new{l:FS}{m:Int}{f:PF}(h:m∉FS.keys l):FS.get (l++[(m,f)]) m=some f:=by
 rw[FS.get_app,FS.get_none.2 h];exact if_pos rfl
structure Core (fd:FD) (fs:FS):Prop where
 num:fd.numOk
 has:fd.each (zSR fs)
 rng:∀n∈FS.keys fs,n<=fd.last
theorem DS.ok.core{d:DS}{A B:Nat}(h:d.ok A B):Core d.fd d.fs:=⟨h.num,h.has,fun n hn=>(h.rng n hn).2⟩
abbrev fdN(fd:FD)(x:List UInt8):FD:=⟨fd.d,fd.acts++[.cre x (fd.last+1)],fd.last+1⟩
abbrev fsN(fd:FD)(fs:FS)(f:PF):FS:=fs++[(fd.last+1,f)]
theorem zRD(fd:FD)(x:DAct)(n:Int):(⟨fd.d,fd.acts++[x],n⟩:FD).now=x.run fd.now:=by
 unfold FD.now;rw[zAr];rfl
def txt(fs:FS)(l:NM)(k:List UInt8):List UInt8:=((zJp fs l k).map PF.now).getD []
theorem zSZ{d:DS}(hd:d.down=false)(x:List UInt8):x∈d.list↔d.fd.now.get x≠none:=by
 unfold DS.list;rw[hd];simp only[qsZ,if_false];constructor
 · intro h e
   obtain⟨n,hn⟩:=FD.names_get h;rw[hn]at e;cases e
 · intro h
   cases hg:d.fd.now.get x with
   | none=>exact absurd hg h
   | some n=>exact FD.names_of hg
end
section
open Go Go.Lib
attribute [-simp] zG zT zc zJ zn
def zBP:FD×FS->List (List UInt8×List UInt8)->Option (FD×FS)
 | s,[]=>some s
 | s,e::l=>if (s.1.create e.1).2.2=0 then zBP ((s.1.create e.1).1,s.2++[((s.1.create e.1).2.1,⟨e.2,[]⟩)]) l else none
theorem zDL(s:FD×FS)(e:List UInt8×List UInt8)(l:List (List UInt8×List UInt8)):zBP s (e::l)=if (s.1.create e.1).2.2=0 then zBP ((s.1.create e.1).1,s.2++[((s.1.create e.1).2.1,⟨e.2,[]⟩)]) l else none:=rfl
theorem zNF(s:FD×FS):zBP s []=some s:=rfl
def DS.ofF(x:List (List UInt8×List UInt8))(q:Int):Option DS :=
 if q<0 then none else (zBP (FD.new,[]) x).map fun s=>⟨s.1.survive s.1.acts.length,s.2,q,0,0,false⟩
noncomputable def zRs:Gam:=zh [(116,zJw),(90,zRn),(117,zHb),(91,zRU)]
theorem zLB:GOk Pz zRs:=zC zME (zC zNq (zC zGJ (zC zNg zB)))
def ofH(row:ABlk)(q:Int)(s:FD×FS):zA:=row::.obj true s.1.blks::.map (ZK (fun i=>i+4) 0 s.2)::.cells true [.ptr 1 0,.map 2,.int .i64 q,.int .i64 0,.int .i64 0,.bool false]::zw s.2
structure OfI (x:List (List UInt8×List UInt8)) (i:Nat) (s:FD×FS):Prop where
 rest:zBP s (x.drop i)=zBP (FD.new,[]) x
 ok:s.1.ok i
 len:s.2.length=i
 keys:∀n∈FS.keys s.2,n<=s.1.last
theorem zUG(row:ABlk)(hrow:∀rn:List Nat,AWb rn row row)(q:Int)(fd:FD)(fs:FS)(e:Int×PF)(i:Nat)(hi:fs.length=i)(J:ABlk){F Fn:List AV}(hF:AWs (List.range (4+i)++[i+5]) Fn F) :
   Weak 1 F (row::.obj true fd.blks::.map (ZK (fun i=>i+4) 0 fs++[(.int .i64 e.1,.ptr (i+5) 0)])::.cells true [.ptr 1 0,.map 2,.int .i64 q,.int .i64 0,.int .i64 0,.bool false]::(zw fs++[J,.obj true e.2.blks])) Fn (ofH row q (fd,fs++[e])):=by
 have hr:∀k,k<4+i->(List.range (4+i)++[i+5])[k]? = some k:=fun k hk=>zBw _ _ hk;have hr2:(List.range (4+i)++[i+5])[4+i]? = some (i+5):=zOE _ _;have hX:=behind fs;rw[hi]at hX;refine Weak.mk' (List.range (4+i)++[i+5]) ?_ ?_ hF (AWg.of _ _ (by simp[ofH,hi];omega) fun k x b hx hb hlt=>?_)
 · rw[List.nodup_append]
   exact⟨List.nodup_range,by simp,fun a ha b hb=>by have:=List.mem_range.1 ha;simp at hb;omega⟩
 · rw[List.take_append_of_le_length (by simp;omega),List.take_range,sfZ (by omega)]
 · have hk:k<4+i+1:=by
     have:=(q1Z.1 hb).1;simpa using this
   rw[q2Z]
   match k,hx,hb with
   | 0,hx,hb=>rw[hr 0 (by omega)]at hb;cases hb;cases hx;exact hrow _
   | 1,hx,hb=>rw[hr 1 (by omega)]at hb;cases hb;cases hx;exact⟨rfl,rfl⟩
   | 2,hx,hb =>
     rw[hr 2 (by omega)]at hb;cases hb;cases hx
     have:ZK (fun k=>if k<i then k+4 else i+5) 0 (fs++[e])=ZK (fun i=>i+4) 0 fs++[(.int .i64 e.1,.ptr (i+5) 0)]:=by
       rw[zJH,zGS 0 fs (fun k _ hk=>if_pos (by omega))];simp[hi]
     simp only[r9Z,raZ,rgZ];rw[<-this];refine zDr fun j hj=>?_;simp only[qdZ,q7Z,q8Z,hi]at hj;by_cases h:j<i
     · rw[if_pos h,hr _ (by omega)]
     · have:j=i:=by omega
       subst this;rw[if_neg h,Nat.add_comm j 4];exact hr2
   | 3,hx,hb =>
     rw[hr 3 (by omega)]at hb;cases hb;cases hx
     exact⟨id,⟨hr 1 (by omega),rfl⟩,by simp[AW,hr 2 (by omega)],⟨rfl,rfl⟩,⟨rfl,rfl⟩,⟨rfl,rfl⟩,rfl,trivial⟩
   | j+4,hx,hb =>
     unfold ofH at hx;simp only[r9Z]at hx;by_cases h:j<i
     · rw[hr _ (by omega)]at hb;cases hb
       simp only[r9Z];have hj:j<(zw fs).length:=by rw[hX.len];exact h
       rw[q4Z hj];have e1:zw (fs++[e])=zw fs++[.obj true e.2.blks]:=by simp[zw]
       rw[e1,q4Z hj]at hx;rw[hx];obtain⟨y,_,rfl⟩:=reZ.1 (qcZ hx);exact⟨rfl,rfl⟩
     · have:j=i:=by omega
       subst this;rw[Nat.add_comm j 4,hr2]at hb;cases hb
       simp only[r9Z];rw[hX.get];have e1:zw (fs++[e])=zw fs++[.obj true e.2.blks]:=by simp[zw]
       rw[e1,hX.get0]at hx;cases hx;exact⟨rfl,rfl⟩
theorem zU4(x:List (List UInt8×List UInt8))(hx:x.length<=1000000)(hk:∀e∈x,e.1.length<=9223372036854775807)(q:Int) : 
   Ct Pz 32 [.sl 0 0 x.length 2 false,.int .i64 q] [.cells false (flA x)] (match DS.ofF x q with | some _=>.ptr 1 0 | none=>.nilp) (match DS.ofF x q with | some d=>[.cells false (flA x),.obj true d.blks] | none=>[.cells false (flA x)]):=by
 have hΓ:=zLB;refine zE Tryz.func32 rfl ?_;simp only[Tryz.ntmps32,q7Z,q8Z,Nat.reduceAdd,Nat.reduceSub,qbZ,q9Z,qaZ];obtain⟨L,hL⟩:∃L,x.length=L:=⟨_,rfl⟩
 obtain⟨row,hrow⟩:∃row:ABlk,ABlk.cells false (flA x)=row:=⟨_,rfl⟩
 have hrw:∀rn:List Nat,AWb rn row row:=fun rn=>by rw[<-hrow];exact⟨id,(Z7 (ZE x)).2 trivial⟩
 rw[hL]at hx ⊢;refine wS hΓ (by simp;exact wR) ?_;by_cases hq:q<0
 · have e:DS.ofF x q=none:=by unfold DS.ofF;rw[if_pos hq]
   rw[e];refine wE hΓ (by simp[hq];exact wT) ?_;exact⟨.inr rfl,_,by simp[Tryz.f32] <;> rfl,wW [0] (by simp[AWb])⟩
 have e:DS.ofF x q=(zBP (FD.new,[]) x).map fun s=>⟨s.1.survive s.1.acts.length,s.2,q,0,0,false⟩:=by unfold DS.ofF;rw[if_neg hq]
 rw[e];refine wS hΓ (by simp[hq];exact wR) ?_;refine wS hΓ (by simp[zRs,zJw];exact wR) ?_;refine Sim.seq (Sim.mono (Q:=fun e F' H'=>(e=.normal/\∃s,OfI x L s/\Weak 1 F' H' ([.top,.top,.top,.top,.top,.ptr 3 0]++qbZ 44 .top) (ofH row q s))\/(e=.ret/\zBP (FD.new,[]) x=none/\∃v1,zCt Pz Tryz.f32.results.toList F' H'=some v1/\Weak 1 [v1] H' [.nilp] [row])) (wS hΓ (by simp;exact wR) ?_) ?_)
 · refine Sim.block (Sim.loopW (fun r:Nat×FD×FS=>r.1<=L/\OfI x r.1 r.2) (fun r=>[.sl 0 0 L 2 false,.int .i64 q,.top,.top,.top,.ptr 3 0]++qbZ 11 .top++[.sl 0 0 L 2 false,.int .i64 L,.int .i64 r.1]++qbZ 30 .top) (fun r=>ofH row q r.2) (fun r=>L-r.1) (0,FD.new,[]) (by simp) ⟨qqZ _,by simp,FD.ok_new,rfl,fun n hn=>by simp[FS.keys]at hn⟩ ?_ fun r hr=>?_)
   · rw[hrow]
     exact wW [0,1,2,3] ⟨by simpa using hrw _,by simp[AWb,AW,ZK,zw,AWg]⟩
   · obtain⟨i,fd,fs⟩:=r
     obtain⟨hi,hr1,hr2,hr3,hr4⟩:=hr;dsimp only at hi hr1 hr2 hr3 hr4 ⊢;have hX:=behind fs;rw[hr3]at hX;have hXl:=hX.len;have hXg:=hX.get;have hXg0:=hX.get0;by_cases hlt:i<L;rotate_left
     · have hin:i=L:=by omega
       subst hin;refine wE hΓ (by simp;exact wT) ?_ (by simp[ofH]);dsimp only;rw[if_pos rfl];refine .inl ⟨by trivial,(fd,fs),⟨hr1,hr2,hr3,hr4⟩,?_⟩;refine zSp (M:=i+4) (by simp[ofH,hr3]) (by omega) (fun rn hr=>by simp[AW,hr 3 (by omega)]) (by simp[ofH,hr3]) fun rn hr k x y hx hy=>?_;rw[hx]at hy;cases hy
       unfold ofH at hx
       match k,hx with
       | 0,hx=>cases hx;exact hrw rn
       | 1,hx=>cases hx;exact⟨rfl,rfl⟩
       | 2,hx=>cases hx;exact zDr fun j hj=>hr _ (by rw[hr3]at hj;omega)
       | 3,hx=>cases hx;exact⟨id,⟨hr 1 (by omega),rfl⟩,by simp[AW,hr 2 (by omega)],⟨rfl,rfl⟩,⟨rfl,rfl⟩,⟨rfl,rfl⟩,rfl,trivial⟩
       | k+4,hx =>
         simp only[r9Z]at hx;obtain⟨e,_,rfl⟩:=reZ.1 (qcZ hx);exact⟨rfl,rfl⟩
     have hltI:(i:Int)<L:=by omega
     have hil:i<x.length:=by omega
     obtain⟨e,he⟩:∃e,x[i]=e:=⟨_,rfl⟩
     have hg:=zDp x i hil;rw[he]at hg;have hek:=hk e (by rw[<-he];exact r3Z hil);have hdr:x.drop i=e::x.drop (i+1):=by rw[List.drop_eq_getElem_cons hil,he]
     rw[hdr,zDL]at hr1;have k1:i*2+2<=L*2:=by omega
     have y1:IntKind.i64.wrap ((i:Int)+1)=i+1:=zK (by omega) (by omega);have hsm:fd.small:=FD.ok_mono hr2 (by omega);have hok':=FD.ok_create hr2 e.1;have hz:(fd.create e.1).2.2=0->(fd.create e.1).2.1=fd.last+1/\(fd.create e.1).1.last=fd.last+1:=by
       unfold FD.create;split
       · split
         · intro h;exact absurd h (by dsimp only;omega)
         · intro _;exact⟨rfl,rfl⟩
       · intro h;exact absurd h (by dsimp only;omega)
     obtain⟨f',num,er,hc⟩:∃f' num er,fd.create e.1=(f',num,er):=⟨_,_,_,rfl⟩
     rw[hc]at hr1 hok' hz;dsimp only at hr1 hok' hz;have hlook:=zEX (fun i=>i+4) num 0 fs 0;have hA0:(ABlk.cells false (flA x))=row:=hrow;have hw:=fun J F Fn hF=>zUG row hrw q f' fs (num,⟨e.2,[]⟩) i hr3 J (F:=F) (Fn:=Fn) hF;unfold ofH;dsimp only;obtain⟨X,eX⟩:∃X,zw fs=X:=⟨_,rfl⟩
     rw[eX]at hXl hXg hXg0 hw ⊢;rw[<-hrow];refine wS hΓ (by simp[hltI];exact wR) ?_;refine wS hΓ (by simp;exact wR) ?_;refine Sim.seq (Sim.block ?_);refine wS hΓ (by simp +decide [hlt,hL,hg,k1,hXl];exact wR) ?_;refine Sim.seq (Sim.draw hmix (by simp) ?_);refine SimR.many hΓ 6 (by simp[zF];rfl) (by omega) (by kernel_rfl) (by simp +decide [hXl,hXg,hXg0];first | exact wR | exact⟨by kernel_rfl,wR⟩) ?_;refine SimR.one hΓ _ rfl (by kernel_rfl) (by simp +decide [zRs,zRn,hsm,hek,hc];exact wR) ?_;refine SimR.many hΓ 12 (by simp[zF,zM];rfl) (by omega) (by kernel_rfl) (by simp +decide;first | exact wR | exact⟨by kernel_rfl,wR⟩) ?_;refine SimR.done rfl ?_;dsimp only;by_cases her:er=0
     · subst her
       obtain⟨hnum,hlast⟩:=hz rfl;rw[if_pos rfl]at hr1;have hfr:FS.get fs num=none:=FS.get_none.2 fun hm=>by have:=hr4 _ hm;omega
       rw[hfr]at hlook;simp only[Option.map_none]at hlook;refine wS hΓ (by simp;exact wR) ?_;refine Sim.draw hmix (by simp) ?_;refine SimR.many hΓ 8 (by simp[zF];rfl) (by omega) (by kernel_rfl) (by simp +decide [zRs,zRU,hXl,hXg,hXg0];first | exact wR | exact⟨by kernel_rfl,wR⟩) ?_;refine SimR.one hΓ _ rfl (by kernel_rfl) (by simp +decide [hlook];exact wR) ?_;refine SimR.done rfl ?_;dsimp only;refine wE hΓ (by simp[y1];exact wT) ?_;dsimp only;refine ⟨(i+1,f',fs++[(num,⟨e.2,[]⟩)]),⟨by dsimp only;omega,hr1,hok',by simp[hr3],fun n hn=>?_⟩,?_,by dsimp only;omega⟩
       · simp only[FS.keys,roZ,qxZ,s1Z,List.map_nil,r1Z]at hn
         rcases hn with hn | hn
         · have:=hr4 n hn;dsimp only;omega
         · dsimp only;omega
       · rw[hrow]
         have r0:(List.range (4+i)++[i+5])[0]? = some 0:=zBw _ _ (by omega);have r3:(List.range (4+i)++[i+5])[3]? = some 3:=zBw _ _ (by omega);have r0':∀h,(List.range (4+i)++[i+5])[0]'h=0:=fun h=>(q1Z.1 r0).2;have r3':∀h,(List.range (4+i)++[i+5])[3]'h=3:=fun h=>(q1Z.1 r3).2;refine hw _ _ _ ?_;simp[AW,r0,r3,r0',r3']
     · have her':(er==0)=false:=by simpa using her
       rw[if_neg her]at hr1;refine wE hΓ (by simp +decide [her,her'];exact wT) ?_;dsimp only;refine .inr ⟨by trivial,hr1.symm,.nilp,by simp[Tryz.f32],?_⟩;rw[hrow];exact wW [0] ⟨by simpa using hrw _,trivial⟩
 rintro e F' H' hlen (⟨rfl,s,hs,hwk⟩ | ⟨rfl,hno,v1,hv1,hwk⟩)
 · dsimp only
   refine Sim.weak hwk hlen ?_;clear hwk hlen;have hfold:=hs.rest;rw[List.drop_of_length_le (by omega),zNF]at hfold;rw[<-hfold];simp only[rhZ,q9Z,qaZ,qbZ];obtain⟨fd,fs⟩:=s;have hal:fd.acts.length<=1000000:=by have:=hs.ok.len;dsimp only at this;omega
   have hfl:=hs.len;dsimp only at hfl ⊢;unfold ofH;dsimp only;obtain⟨d,hd⟩:∃d:DS,(⟨fd.survive fd.acts.length,fs,q,0,0,false⟩:DS)=d:=⟨_,rfl⟩
   refine wS hΓ (by simp[zRs,zHb,hal];exact wR) ?_;refine Sim.after (wE hΓ (by simp;exact wT) ?_);have hat:DAt (row::.obj true (fd.survive fd.acts.length).blks::.map (ZK (fun i=>i+4) 0 fs)::.cells true [.ptr 1 0,.map 2,.int .i64 q,.int .i64 0,.int .i64 0,.bool false]::zw fs) d 3 1 2 (·+4):=by
     rw[<-hd];refine ⟨rfl,rfl,rfl,fun i e he=>?_,?_⟩
     · simp only[r9Z]
       exact zEe he
     · refine rdZ.2 ⟨fun h=>?_,rdZ.2 ⟨fun h=>?_,rdZ.2 ⟨fun h=>?_,?_⟩⟩⟩
       · rcases qwZ.1 h with h | h
         · omega
         rcases qwZ.1 h with h | h
         · omega
         · obtain⟨c,_,h⟩:=reZ.1 h;omega
       · rcases qwZ.1 h with h | h
         · omega
         · obtain⟨c,_,h⟩:=reZ.1 h;omega
       · obtain⟨c,_,h⟩:=reZ.1 h;omega
       · rw[List.nodup_iff_pairwise_ne,List.pairwise_map]
         exact (List.nodup_iff_pairwise_ne.1 List.nodup_range).imp fun h e=>h (by omega)
   rw[hd,hrow];refine Aft.closeAt hat (by simp) (Aft.done (by simp) ?_);refine ⟨.inr rfl,_,by simp[Tryz.f32] <;> rfl,Weak.mk' [0,3] (by decide) (by decide) (by simp[AWs,AW]) (zR (b:=3) (by simp) _ _ rfl fun i c x h1 h2=>?_)⟩
   match i,h1,h2 with
   | 0,h1,h2 =>
     cases h1;cases h2
     refine .inr ⟨⟨by omega,fun h=>?_⟩,hrw _⟩;rcases qwZ.1 h with h | h
     · omega
     rcases qwZ.1 h with h | h
     · omega
     · obtain⟨c,_,h⟩:=reZ.1 h;omega
   | 1,h1,h2=>cases h1;cases h2;exact .inl ⟨rfl,rfl⟩
 · rw[hno]
   exact⟨.inr rfl,v1,hv1,by simpa[hrow] using hwk⟩
theorem zHx{fd:FD}{fs:FS}{q st ar:Int}{dn:Bool}{A B:Nat}(h:DS.ok ⟨fd,fs,q,st,ar,dn⟩ A B):DS.ok ⟨fd,fs,q,0,0,false⟩ A B :=
 ⟨h.fd,h.num,h.has,h.rng,h.nd,h.fine,h.len,h.q0,h.q1,Int.le_refl _,by dsimp only;omega,Int.le_refl _,by dsimp only;omega⟩
theorem zIw{fd:FD}{fs:FS}{q:Int}{A B:Nat}(h:DS.ok ⟨fd,fs,q,0,0,false⟩ A B){k b:List UInt8}(hb:b.length<=B)(hm:zEO k)(hg:fd.now.get k=none):DS.ok ⟨fdN fd k,fsN fd fs ⟨b,[]⟩,q,0,0,false⟩ (A+2) B:=by
 have h1:=DS.ok_create h k;have e:((⟨fd,fs,q,0,0,false⟩:DS).create k).1=⟨fdN fd k,fsN fd fs ⟨[],[]⟩,q,1,0,false⟩:=by
   unfold DS.create DS.step DS.count FD.create;simp[hm,hg]
 rw[e]at h1;have h2:=DS.ok_fs (C:=B) h1 (fd.last+1) (fun _=>⟨b,[]⟩) (fun f _=>PF.ok_new _ _ hb) (qnZ _);have hf:fd.last+1∉FS.keys fs:=fun hn=>by have:=(h.rng _ hn).2;dsimp only at this;omega
 dsimp only at h2;rw[FS.upd_app hf]at h2;exact zHx h2
def zJ3(x:List (List UInt8×List UInt8)):Prop:=∀e∈x,e.1.length<=9223372036854775807
theorem zNU(d:DS):Ct Pz 45 [.ptr 0 0] (d.heap []) (.int .i64 d.steps) (d.heap []):=by
 refine ZG Tryz.func45 rfl ?_;simp only[Tryz.ntmps45,q7Z,q8Z,Nat.reduceAdd,Nat.reduceSub,qbZ,q9Z,qaZ];unfold DS.heap DS.cell0;refine wS zB (by simp;exact wR) ?_;refine wE zB (by simp +decide;exact wT) ?_;exact⟨.inr rfl,by simp[Tryz.f45],by simp⟩
end
section
open Go Go.Lib
def Zm(m:Mf)(l:List (List UInt8)):List (List UInt8):=ZI (l.filter fun s=>!Zp m s)
theorem zTt(m:Mf){l:List (List UInt8)}(h:l.Nodup):(Zm m l).Nodup:=(zU _).symm.nodup (h.filter _)
def DS.drops:List (List UInt8)->DS->DS×Nat×Int
 | [],d=>(d,0,0)
 | s::l,d=>if (d.remove s).2=0 then ((DS.drops l (d.remove s).1).1,(DS.drops l (d.remove s).1).2.1+1,(DS.drops l (d.remove s).1).2.2) else ((d.remove s).1,0,(d.remove s).2)
def swE(r:DS×Nat×Int):DS×Nat×Int:=if r.2.2=0 then (if 0<r.2.1 then (r.1.syncDir.1,r.2.1,r.1.syncDir.2) else (r.1,r.2.1,0)) else r
def DS.sweep(d:DS)(m:Mf):DS×Nat×Int:=swE (DS.drops (Zm m d.list) d)
structure SwG (F:List (List UInt8×List UInt8)) (lv:List UInt8->Bool) (fd:FD) (fs:FS):Prop where
 core:Core fd fs
 each:fd.each fun l _=>(∀e∈F,lv e.1=true->zJp fs l e.1=some ⟨e.2,[]⟩)/\∀k n,NM.get l k=some n->∃b,(k,b)∈F/\zJp fs l k=some ⟨b,[]⟩
theorem zLp:∀(xs:List (List UInt8)) {d:DS} {A B:Nat},d.ok A B->(DS.drops xs d).1.ok (A+2*xs.length) B
 | [],d,A,B,h=>h
 | x::xs,d,A,B,h=>by
   have h1:=DS.ok_remove h x;unfold DS.drops;simp only[q7Z];split
   · exact DS.ok_mono (zLp xs h1) (by omega) (qnZ _)
   · exact DS.ok_mono h1 (by omega) (qnZ _)
theorem zTk{d:DS}(hd:d.down=false)(hc:Core d.fd d.fs):d.list.Nodup:=by
 unfold DS.list;rw[hd];exact FD.names_nd hc.num
theorem zQx{d:DS}(hd:d.down=false)(x:List UInt8):x∈d.list↔∃n,d.fd.now.get x=some n:=by
 rw[zSZ hd];cases d.fd.now.get x <;> simp
theorem zJU{q:Int}{B:Nat}:∀(F dn:List (List UInt8×List UInt8)) (fd:FD) (fs:FS) (A:Nat),DS.ok ⟨fd,fs,q,0,0,false⟩ A B->(∀e∈F,zEO e.1/\e.2.length<=B)->((dn++F).map Prod.fst).Nodup ->
   (∀k,(∃n,fd.now.get k=some n)↔k∈dn.map Prod.fst)->(∀e∈dn,zJp fs fd.now e.1=some ⟨e.2,[]⟩) ->
   ∃fd' fs',zBP (fd,fs) F=some (fd',fs')/\DS.ok ⟨fd',fs',q,0,0,false⟩ (A+2*F.length) B/\(∀k,(∃n,fd'.now.get k=some n)↔k∈(dn++F).map Prod.fst)/\∀e∈dn++F,zJp fs' fd'.now e.1=some ⟨e.2,[]⟩
 | [],dn,fd,fs,A,h,_,_,h3,h4=>⟨fd,fs,rfl,h,by simpa using h3,by simpa using h4⟩
 | e::F,dn,fd,fs,A,h,hm,hnd,h3,h4=>by
   have hg:fd.now.get e.1=none:=by
     cases hx:fd.now.get e.1 with
     | none=>rfl
     | some n =>
       have h9:=(h3 e.1).1 ⟨n,hx⟩;rw[roZ,List.nodup_append]at hnd;exact absurd rfl (hnd.2.2 _ h9 _ (by simp))
   obtain⟨m1,m2⟩:=hm e (qhZ ..);have hs:=zIw h m2 m1 hg;have hcr:fd.create e.1=(fdN fd e.1,fd.last+1,0):=by
     unfold FD.create;rw[if_pos m1,hg]
   have hnow:(fdN fd e.1).now=NM.put fd.now e.1 (fd.last+1):=by rw[zRD];rfl
   have hf:fd.last+1∉FS.keys fs:=fun hn=>by have:=(h.rng _ hn).2;dsimp only at this;omega
   have e1:dn++e::F=(dn++[e])++F:=by simp
   rw[e1]at hnd ⊢;obtain⟨fd',fs',g1,g2,g3,g4⟩:=zJU F (dn++[e]) (fdN fd e.1) (fsN fd fs ⟨e.2,[]⟩) (A+2) hs (fun x hx=>hm x (qiZ _ hx)) hnd (fun k=>by
       rw[hnow,NM.get_put];simp only[roZ,s1Z,List.map_nil,qxZ,r1Z];split
       · rename_i ek;simp[ek]
       · rename_i ek;rw[h3];simp[ek]) (fun x hx=>by
       rcases qxZ.1 hx with hx | hx
       · obtain⟨n,k1,k2⟩:=zRf (h4 x hx)
         have hne:x.1≠e.1:=fun ek=>by rw[ek,hg]at k1;cases k1
         rw[zPW (n:=n) (by rw[hnow,NM.get_put,if_neg hne];exact k1),FS.get_app,k2]
       · simp only[r1Z]at hx
         subst hx;rw[zPW (n:=fd.last+1) (by rw[hnow,NM.get_put,if_pos rfl])];exact FS.get_new hf)
   refine ⟨fd',fs',?_,DS.ok_mono g2 (by simp;omega) (qnZ _),g3,g4⟩;rw[zDL];dsimp only;rw[hcr];exact (if_pos rfl).trans g1
theorem zR2(F:List (List UInt8×List UInt8)){B:Nat}(hm:∀e∈F,zEO e.1/\e.2.length<=B)(hnd:(F.map Prod.fst).Nodup)(q:Int)(hq:0<=q)(hq2:q<=4611686018427387903)(lv:List UInt8->Bool) :
   ∃d,DS.ofF F q=some d/\d.ok (2*F.length+2) B/\d.quota=q/\d.steps=0/\d.armed=0/\d.down=false/\d.fd.acts=[]/\SwG F lv d.fd d.fs/\(∀k,(∃n,d.fd.now.get k=some n)↔k∈F.map Prod.fst):=by
 have h0:DS.ok ⟨FD.new,[],q,0,0,false⟩ 0 B:=DS.ok_mono (DS.ok_new q hq hq2) (qnZ _) (qqZ _);obtain⟨fd,fs,g1,g2,g3,g4⟩:=zJU F [] FD.new [] 0 h0 hm (by simpa using hnd) (fun k=>by simp[FD.new,FD.now,Z6,NM.get]) (fun e he=>by simp at he);simp only[qaZ]at g3 g4;have hsv:fd.survive fd.acts.length=⟨fd.now,[],fd.last⟩:=by
   unfold FD.survive FD.now;have:fd.clamp fd.acts.length=fd.acts.length:=by unfold FD.clamp;omega
   rw[this,List.take_length]
 have h1:=DS.ok_syncDir g2;have e:((⟨fd,fs,q,0,0,false⟩:DS).syncDir).1=⟨⟨fd.now,[],fd.last⟩,fs,q,1,0,false⟩:=by
   unfold DS.syncDir DS.step DS.count;simp[hsv]
 rw[e]at h1;have h2:=zHx h1;refine ⟨⟨⟨fd.now,[],fd.last⟩,fs,q,0,0,false⟩,?_,DS.ok_mono h2 (by omega) (qnZ _),rfl,rfl,rfl,rfl,rfl,⟨h2.core,fun i _=>?_⟩,g3⟩
 · unfold DS.ofF
   rw[if_neg (by omega),g1];simp[hsv]
 · have e:Z6 fd.now (([]:List DAct).take i)=fd.now:=by simp[Z6]
   dsimp only;rw[e];refine ⟨fun x hx _=>g4 x hx,fun k n hk=>?_⟩;obtain⟨x,hx,rfl⟩:=reZ.1 ((g3 k).1 ⟨n,hk⟩);exact⟨x.2,hx,g4 x hx⟩
end
end Go.Proofs.YtfhidaoiofeooaaGreatDoor
