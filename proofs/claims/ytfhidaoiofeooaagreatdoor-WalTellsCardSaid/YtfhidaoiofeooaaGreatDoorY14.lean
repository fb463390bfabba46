/- Parts of the proof of WalTells: lemmas, each with its own conditions. -/
import Derived.Test.YtfhidaoiofeooaaGreatDoorY13
import Derived.Test.YtfhidaoiofeooaaGreatDoorY12
set_option maxHeartbeats 64000000
open List renaming getElem?_eq_some_iff → q1Z, getD_eq_getElem?_getD → q2Z, getElem?_eq_getElem → q3Z, getElem?_append_left → q4Z, getElem?_append_right → q5Z, take_of_length_le → q6Z, length_cons → q7Z, length_nil → q8Z, cons_append → q9Z, nil_append → qaZ, replicate → qbZ, mem_of_getElem? → qcZ, length_append → qdZ, append_assoc → qeZ, mem_cons_self → qhZ, mem_cons_of_mem → qiZ, length_take → qjZ, mem_cons → qwZ, getElem?_map → qzZ, append_nil → r2Z, getElem_mem → r3Z, getElem?_take → r4Z, getElem?_drop → r5Z, getElem?_cons_succ → r9Z, getElem?_cons_zero → raZ, nodup_cons → rdZ, mem_map → reZ, getElem?_range → rfZ, map_cons → s1Z, getElem?_eq_none → s4Z, set_cons_zero → s9Z, set_cons_succ → saZ
open Option renaming map_eq_some_iff → qlZ, map_some → rhZ
open Nat renaming le_refl → qnZ, lt_or_ge → s2Z, add_sub_cancel_left → s3Z, zero_add → s8Z
open Bool renaming and_eq_true → qrZ, false_eq_true → qsZ
open Array renaming length_toList → rjZ, toList_append → rxZ
namespace Go.Proofs.YtfhidaoiofeooaaGreatDoor
open _root_.Go.Proofs.Tryz renaming prog → Pz
set_option maxRecDepth 100000
section
open Go Go.Lib
attribute [-simp] zH zc zq zK zy
def hqT(P:Program)(Γ:Gam)(V:Array Oper):List Oper->List AV->zA->List QF->Option (List QF×List AV×zA)
 | [],F,H,fs=>some (fs,F,H)
 | o::rest,F,H,fs =>
   match zAy P Γ V F H o with
   | none=>none
   | some q=>hqT P Γ V rest (Zu F o.dst q.v) q.H (fs++[q.fl])
theorem zRk(P:Program)(Γ:Gam)(V:Array Oper)(k:List AV->zA->List QF->Option (List AV×zA)):∀(l:List Oper) (F:List AV) (H:zA) (fs fs':List QF) (F1:List AV) (H1:zA),hqT P Γ V l F H fs=some (fs',F1,H1)->hrun P Γ V k l F H fs=k F1 H1 fs'
 | [],F,H,fs,fs',F1,H1,h=>by cases h;rfl
 | o::rest,F,H,fs,fs',F1,H1,h=>by
   unfold hqT at h;unfold hrun;cases hq:zAy P Γ V F H o with
   | none=>rw[hq]at h;cases h
   | some q=>rw[hq]at h;exact zRk P Γ V k rest _ _ _ _ _ _ h
noncomputable def hqO:Program->Gam->Array Oper->List Oper->List AV->zA->List QF->Option (List QF×List AV×zA):=Classical.choose (⟨hqT,rfl⟩:∃f,f=hqT)
theorem zQg:hqO=hqT:=Classical.choose_spec (⟨hqT,rfl⟩:∃f,f=hqT)
@[simp] theorem zaK(P:Program)(Γ:Gam)(V:Array Oper)(F:List AV)(H:zA)(fs:List QF):hqO P Γ V [] F H fs=some (fs,F,H):=by rw[zQg];rfl
@[simp] theorem zZv(P:Program)(Γ:Gam)(V:Array Oper)(o:Oper)(rest:List Oper)(F:List AV)(H:zA)(fs:List QF):hqO P Γ V (o::rest) F H fs =
   match zAy P Γ V F H o with
   | none=>none
   | some q=>hqO P Γ V rest (Zu F o.dst q.v) q.H (fs++[q.fl]):=by
 rw[zQg];rfl
theorem SimR.hard{P:Program}{Γ:Gam}(hΓ:GOk P Γ){r:Option Nat}{n0 c:Nat}(h p:Nat){ops:Array Oper}{F F1 F2:List AV}{H H1 H':zA}{fs:List QF}{v:AV}{Q:AX->List AV->zA->Prop}(o:Oper)(ho:ops[h]? = some o){A:Array Oper}(hA:zF ops c h=A)(hch:c<=h)
   (hb:(zGr ops.toList&&zQi ops.toList (zAR ops.toList) (h+1))=true) (hp:(zAR ops.toList).getD h 0=p) (hq:hqO P Γ A A.toList F H []=some (fs,F1,H1))
   (hchk:((ops.toList.take h).all (fun o=>match o.guard with | some (j,_)=>Nat.blt j h | none=>true)&&(fs.all (fun q=>q.st.isNone)&&zF3 A fs))=true)
   (hF2:zC8 A p (List.range h) F1=F2) (hrun:zAk ops o F2=some true/\opA P Γ F2 H1 o.op=some (v,H')) (hok:zFN A p o.dst fs H1 H' h=true) (k:SimR P r n0 ops (h+1) (Zu F1 o.dst v) H' Q):SimR P r n0 ops c F H Q:=by
 intro B jb Hb wb j w a m hB hs hF hd;rw[qrZ]at hb;subst hA;rw[zQg]at hq;have hrn:zGN P Γ ops c h F H=some (Zu F1 o.dst v,H'):=by
   unfold zGN;rw[ho];dsimp only;rw[ZV,hp,zRk _ _ _ _ _ _ _ _ _ _ _ hq];refine (if_pos hchk).trans ?_;rw[hF2,hrun.1];dsimp only;rw[hrun.2];dsimp only;rw[if_pos hok]
 exact zR5 hΓ hch (zIN hb.2) hrn hs.rel hF rfl r m (fun j1 a1 w1 h1 h2 h3 =>
   k B jb Hb wb j1 w1 a1 m hB (hs.trans h3 hs.len) h1 (by rw[h2];exact hd.step hs.rel h3)) (fun k o e hk ho hee hbe=>by have:=zCk hb.1 k o e ho hee hbe;omega) (fun k o e ho hee hbe=>zCk hb.1 k o e ho hee hbe)
theorem zSS(f:FD)(k:List UInt8)(hok:f.small)(hkl:k.length<=9223372036854775807) :
   Ct Pz 90 [.ptr 0 0,.str k] [.obj true f.blks] (.tuple [.int .i64 (f.create k).2.1,.int .i64 (f.create k).2.2]) [.obj true (f.create k).1.blks]:=by
 have hΓ:=zWu;have hlo:=hok.lo;have hhi:=hok.hi;have hal:f.acts.length<=1000000:=by have:=hok.len;omega
 refine zE Tryz.func90 rfl ?_;simp only[Tryz.ntmps90,q7Z,q8Z,Nat.reduceAdd,Nat.reduceSub,qbZ,q9Z,qaZ];refine wS hΓ (by simp;exact wR) ?_;refine wS hΓ (by simp;exact wR) ?_;by_cases hm:zNI k;rotate_left
 · have hc:f.create k=(f,0,2):=by unfold FD.create;rw[if_neg hm]
   rw[hc];by_cases h0:k=[]
   · subst h0
     refine wE hΓ (by simp[zNm,Tryz.f184];exact wT) ?_;exact⟨.inr rfl,_,by simp[Tryz.f90] <;> rfl,wW [0] (by simp[AWb])⟩
   · have h1:0<k.length:=List.length_pos_iff.2 h0
     have h2:¬k.length<=64:=fun h=>hm ⟨h1,h⟩;have h2i:¬(k.length:Int)<=64:=by omega
     have h1i:(0:Int)<k.length:=by omega
     refine wE hΓ (by simp[zNm,Tryz.f184,h1,h2i];exact wT) ?_;exact⟨.inr rfl,_,by simp[Tryz.f90] <;> rfl,wW [0] (by simp[AWb])⟩
 have h1:0<k.length:=hm.1;have h0:¬k=[]:=List.length_pos_iff.1 h1;have h2i:(k.length:Int)<=64:=by have:=hm.2;omega
 have h1i:(0:Int)<k.length:=by omega
 refine wS hΓ (by simp[zNm,Tryz.f184,h1,h2i];exact wR) ?_;refine Sim.aft (Aft.open (b:=0) rfl (by simp) (Aft.done (by simp[zY]) ?_));rw[zCT];simp only[q7Z,q8Z,Nat.reduceAdd,s9Z,q9Z,qaZ];obtain⟨R,eR⟩:∃R,Z3 (fun i=>2+3+i) 0 f.acts=R:=⟨_,rfl⟩
 obtain⟨X,eX⟩:∃X,zo f.acts=X:=⟨_,rfl⟩
 obtain⟨k0,ek⟩:∃k,f.acts.length=k:=⟨_,rfl⟩
 obtain⟨q,eq⟩:∃q,nbD f.acts=q:=⟨_,rfl⟩
 have hX:X.length=q:=by rw[<-eX,<-eq,zm]
 have hXg:∀(i:Nat) (B:ABlk),(zo f.acts)[i]? = some B->X[i]? = some B:=fun i B h=>by rw[<-eX];exact h
 rw[eR,eX,ek];have hf:=zAP k f.now 0;cases hg:NM.get f.now k with
 | some v =>
   have hc:f.create k=(f,0,8):=by unfold FD.create;rw[if_pos hm,hg]
   rw[hg]at hf;simp only[rhZ,s8Z]at hf;rw[hc];refine Sim.seq (wS hΓ (by simp +decide [hf];first | exact wR | exact⟨by kernel_rfl,wR⟩) ?_);refine Sim.aft (Aft.closeFS f 0 2 (by rw[ek];rfl) rfl rfl (by rw[eR];rfl) (fun i B hB=>?_) (by decide) (by simp) ?_)
   · rw[show 2+3+i=i+1+1+1+1+1 by omega]
     simp only[r9Z];exact hXg i B hB
   refine Aft.weak (Fn:=[.ptr 0 0,.str k,.top,.ptr 1 0,.int .i64 0,.int .i64 0,.int .i64 v,.bool true]++qbZ 31 .top) (Hn:=[.obj true f.blks,.cells true [.str k]]) (wW [0,1] (zM (b:=0) (by simp) _ _ rfl fun i c x h1 h2=>?_)) (by simp) (Aft.done (by simp) ?_)
   · match i,h1,h2 with
     | 0,h1,h2=>cases h1;cases h2;exact .inl ⟨rfl,rfl⟩
     | 1,h1,h2=>cases h1;cases h2;exact .inr ⟨⟨by decide,by decide⟩,by simp[AWb]⟩
   refine wE hΓ (by simp;exact wT) ?_;exact⟨.inr rfl,_,by simp[Tryz.f90] <;> rfl,wW [0] (by simp[AWb])⟩
 | none =>
   have hc:f.create k=(⟨f.d,f.acts++[.cre k (f.last+1)],f.last+1⟩,f.last+1,0):=by unfold FD.create;rw[if_pos hm,hg]
   rw[hg]at hf;simp only[Option.map_none,s8Z]at hf;rw[hc];have hw:IntKind.i64.wrap (f.last+1)=f.last+1:=zI (by omega) (by omega);obtain⟨n',hn'⟩:∃n,f.last+1=n:=⟨_,rfl⟩
   rw[hn']at hw ⊢;refine wS hΓ (by simp +decide [hf];first | exact wR | exact⟨by kernel_rfl,wR⟩) ?_;refine wS hΓ (by simp[hn',hw];exact wR) ?_;refine wS hΓ (by simp[hX];exact wR) ?_;refine Sim.aft (Aft.closeFS (⟨f.d,f.acts,n'⟩:FD) 0 2 (by simp only[ek];rfl) rfl rfl (by simp only[eR];rfl) (fun i B hB=>?_) (by decide) (by simp) ?_)
   · rw[show 2+3+i=i+1+1+1+1+1 by omega]
     have h3:i<X.length:=(q1Z.1 (hXg i B hB)).1;simp only[r9Z];rw[q4Z h3];exact hXg i B hB
   refine Aft.weak (Fn:=[.ptr 0 0,.str k,.top,.ptr 1 0,.int .i64 0,.int .i64 0,.top,.top,.ptr 2 0]++qbZ 30 .top) (Hn:=[.obj true (⟨f.d,f.acts,n'⟩:FD).blks,.cells true [.str k],.cells true [.int .i64 n']]) (Weak.mk' [0,1,q+5] (by simp) (by simp) (by simp) (zM (b:=0) (by simp) _ _ rfl fun i c x h1 h2=>?_)) (by simp) ?_
   · match i,h1,h2 with
     | 0,h1,h2=>cases h1;cases h2;exact .inl ⟨rfl,rfl⟩
     | 1,h1,h2=>cases h1;cases h2;exact .inr ⟨⟨by decide,by decide⟩,by simp[AWb]⟩
     | 2,h1,h2 =>
       cases h1;cases h2
       refine .inr ⟨⟨by omega,by simp⟩,?_⟩;rw[show q+5=(X.length+0)+1+1+1+1+1 by omega];simp[AWb]
   refine Aft.freeze 1 (.str k) rfl (fun _=>rfl) (by simp) ?_;simp only[saZ,s9Z];refine Aft.freeze 2 (.int .i64 n') rfl (fun _=>⟨rfl,rfl⟩) (by simp) ?_;simp only[saZ,s9Z];refine Aft.done (by simp) ?_;have hdo:doS [.ptr 0 0,.str zWp,.func 186 [] [.ptr 2 0,.ptr 1 0]] [.obj true (⟨f.d,f.acts,n'⟩:FD).blks,.obj false [.cells true [.str k]],.obj false [.cells true [.int .i64 n']]]=some (.int .i64 0,[.obj true (⟨f.d,f.acts++[.cre k n'],n'⟩:FD).blks,.obj false [.cells true [.str k]],.obj false [.cells true [.int .i64 n']]],[0]):=by
     simp only[doS,zFq,raZ,r9Z,zSy];have hg':NM.get (⟨f.d,f.acts,n'⟩:FD).now k=none:=hg;rw[if_pos ⟨trivial,trivial,hg',hal,by decide,by decide,by decide⟩];rfl
   refine Sim.seq (Sim.draw hmix (by simp) ?_);simp only[zWp]at hdo;refine SimR.hard hΓ 3 6 _ rfl (by simp[zF];rfl) (by omega) (by kernel_rfl) (by kernel_rfl) (by simp +decide;exact wT) (by kernel_rfl) (by simp +decide [zC8,List.range,List.range.loop];rfl) (by simp +decide [zYY,hdo];exact wR) (by simp +decide [zFN,zMN,ZN,List.range,List.range.loop]) ?_;refine SimR.many hΓ 6 (by simp[zF,zW];rfl) (by omega) (by kernel_rfl) (by simp +decide;first | exact wR | exact⟨by kernel_rfl,wR⟩) ?_;refine SimR.done rfl ?_;dsimp only;refine wE hΓ (by simp;exact wT) ?_;exact⟨.inr rfl,_,by simp[Tryz.f90] <;> rfl,wW [0] (by simp[AWb])⟩
end
section
open Go Go.Lib
attribute [-simp] zH zc zq zK zy
noncomputable section
open Classical
def zU4:zJ:=zAM zHF FD.blks fun f xs _=>match xs with
 | [.str k]=>if f.small/\k.length<=9223372036854775807 then some ((f.create k).1,.tuple [.int .i64 (f.create k).2.1,.int .i64 (f.create k).2.2]) else none
 | _=>none
theorem zP1:Sound Pz 90 zU4:=by
 refine zS (zD Tryz.func90 rfl (by decide)) (fun _ _=>zBw) fun f xs H s' v b hg hb=>?_;split at hg;rotate_left
 · cases hg
 split at hg <;> cases hg
 rename_i hs;exact ze (zSS f _ hs.1 hs.2) rfl rfl hb
def zBI:zJ:=zAM zHF FD.blks fun f xs _=>match xs with
 | [.str a]=>some (f,.tuple [.int .i64 (f.find a).1,.bool (f.find a).2])
 | _=>none
theorem zAf:Sound Pz 76 zBI:=by
 refine zS (zD Tryz.func76 rfl (by decide)) (fun _ _=>zBw) fun f xs H s' v b hg hb=>?_;split at hg <;> cases hg
 exact ze (zX8 f _) rfl rfl hb
def zQI:zJ:=zAM zHF FD.blks fun f xs _=>match xs with
 | []=>some (f,.int .i64 f.acts.length)
 | _=>none
theorem zOf:Sound Pz 202 zQI:=by
 refine zS (zD Tryz.func202 rfl (by decide)) (fun _ _=>zBw) fun f xs H s' v b hg hb=>?_;split at hg <;> cases hg
 exact ze (zQp f) rfl rfl hb
def zJz:zJ:=zAM zHF FD.blks fun f xs _=>match xs with
 | [.int .i64 m]=>if f.acts.length<=1000000 then some (f.survive m,.tuple []) else none
 | _=>none
theorem zHH:Sound Pz 74 zJz:=by
 refine zS (zD Tryz.func74 rfl (by decide)) (fun _ _=>zBw) fun f xs H s' v b hg hb=>?_;split at hg;rotate_left
 · cases hg
 split at hg <;> cases hg
 rename_i hs;exact ze (zQ1 f _ hs) rfl rfl hb
def zEX:zJ:=fun args H=>match args with
 | [.ptr b 0]=>match H[b]? with
   | some (.obj true sub)=>match zHF sub with
     | some f=>if f.small then some (.sl H.length 0 f.names.length 1 false,H++[.cells true (f.names.map .str)],[]) else none
     | none=>none
   | _=>none
 | _=>none
theorem zGf:Sound Pz 75 zEX:=by
 refine ⟨zD Tryz.func75 rfl (by decide),fun args H v H' W hs=>?_,fun args H v H' W hs=>?_⟩ <;> (unfold zEX at hs;split at hs <;> try cases hs) <;> (split at hs <;> try cases hs) <;> (rename_i b _ sub hb;split at hs <;> try cases hs) <;> (rename_i f hf;split at hs <;> cases hs;rename_i hk)
 · have e:=zBw hf
   subst e;have hbl:b<H.length:=(q1Z.1 hb).1;have fs:∀g,zj g (f.names.map AV.str)=f.names.map AV.str:=fun g=>zBO g _ (by simp[zt,zAT]);have:=zP (H:=H) (args:=[.ptr b 0]) (zT1 f hk) [b] (by simp) ⟨⟨rfl,rfl⟩,trivial⟩ ⟨by rw[q2Z,hb];exact⟨rfl,rfl⟩,hbl,trivial⟩ rfl;obtain⟨h1,h2⟩:=q1Z.1 hb;have hset:H.set b (.obj true f.blks)=H:=by rw[<-h2,List.set_getElem_self]
   simpa[zN,ABlk.own,reB,reA,zn,hset,fs] using this
 · exact⟨by simp,fun c hc _=>by rw[q4Z hc]⟩
def zLw:zJ:=fun args H=>match args with
 | []=>some (.ptr H.length 0,H++[.obj true FD.new.blks],[])
 | _=>none
theorem zNK:Sound Pz 116 zLw:=by
 refine ⟨zD Tryz.func116 rfl (by decide),fun args H v H' W hs=>?_,fun args H v H' W hs=>?_⟩ <;> (unfold zLw at hs;split at hs <;> cases hs)
 · have:=zP (H:=H) (args:=[]) zZM [] (by simp) trivial trivial rfl
   simpa[zN,ABlk.own,reB,reA,zn] using this
 · exact⟨by simp,fun c hc _=>by rw[q4Z hc]⟩
def zaA:Gam:=zZ [(202,zQI),(74,zJz)]
theorem zWg:GOk Pz zaA:=zB zOf (zB zHH zC)
theorem zXX(f:FD)(hal:f.acts.length<=1000000):Ct Pz 117 [.ptr 0 0] [.obj true f.blks] (.tuple []) [.obj true (f.survive f.acts.length).blks]:=by
 refine zE Tryz.func117 rfl ?_;simp only[Tryz.ntmps117,q7Z,q8Z,Nat.reduceAdd,Nat.reduceSub,qbZ,q9Z,qaZ];refine wE zWg (by simp[zaA,zQI,zJz,hal];exact wT) ?_;exact⟨.inl rfl,_,by simp[Tryz.f117] <;> rfl,wW [0] (by simp[AWb])⟩
def zJX:zJ:=zAM zHF FD.blks fun f xs _=>match xs with
 | []=>if f.acts.length<=1000000 then some (f.survive f.acts.length,.tuple []) else none
 | _=>none
theorem zHU:Sound Pz 117 zJX:=by
 refine zS (zD Tryz.func117 rfl (by decide)) (fun _ _=>zBw) fun f xs H s' v b hg hb=>?_;split at hg;rotate_left
 · cases hg
 split at hg <;> cases hg
 rename_i hs;exact ze (zXX f hs) rfl rfl hb
end
end
section
open Go Go.Lib
noncomputable def zB7(args:List AV)(H:zA)(v:AV)(H':zA):zJ:=open Classical in fun a h=>if a=args/\h=H then some (v,H',List.range H.length) else none
theorem ZA{P:Program}{f:FuncId}{args:List AV}{H H':zA}{v:AV}(he:∀cargs w,(callFunc f cargs).run P w=.ok (.enter f cargs) w)(h:Ct P f args H v H')(hl:H.length<=H'.length):Sound P f (zB7 args H v H'):=by
 refine ⟨he,fun a h1 v1 H1 W hs=>?_,fun a h1 v1 H1 W hs=>?_⟩ <;> (unfold zB7 at hs;split at hs <;> cases hs) <;> (rename_i hc;obtain⟨rfl,rfl⟩:=hc)
 · exact h
 · exact⟨hl,fun b hb hn=>absurd (List.mem_range.2 hb) hn⟩
@[simp] theorem zFw(args:List AV)(H:zA)(v:AV)(H':zA):zB7 args H v H' args H=some (v,H',List.range H.length):=by
 unfold zB7;rw[if_pos ⟨rfl,rfl⟩]
theorem zL{P:Program}{f:FuncId}{fn:Func}{c:Code}(hf:P.funcs[f]? = some fn)(hb:fn.body=some c){args:List AV}{H H':zA}{v:AV}
   (h:Sim P none H.length c (args++qbZ (fn.ntmps-args.length) zX) H fun x F1 H1=>(x=.normal\/x=.ret)/\zDB P fn.results.toList F1 H1=some v/\H1=H'):Ct P f args H v H':=by
 intro j w cargs hR hargs;refine (callsIn_wide (n:=0)).1 ?_;refine callsIn_of_wp_marks hf hb trivial ?_ rfl;have hl:=hargs.length;have hF:VRs j (args++qbZ (fn.ntmps-args.length) zX) (cargs++Array.replicate (fn.ntmps-cargs.size) undef).toList:=by
   rw[rxZ,Array.toList_replicate,hl,rjZ];exact hargs.append (VRs.replicate (v:=undef) (show VR j zX undef from ⟨#[],rfl,rfl⟩) _)
 refine wpIn_mono (h w.heap.size j w { tmps:=cargs++Array.replicate (fn.ntmps-cargs.size) undef,defers:=[] } 0 (qnZ _) hR hF (DefOk.nil _ _)) ?_;rintro e a' w' ⟨x,F',H1,j',rfl,⟨hx,hv1,rfl⟩,h3,h4,h5⟩;refine zFv hR.glo.1.2 hx hv1 h3 h4 h5 fun cv w2 g2 hs=>?_;exact⟨cv,j',rfl,g2,hs⟩
theorem zB3{P:Program}{f:FuncId}{xs:List AV}{v v':AV}{sub H' H'':zA}(h:Ct P f xs sub v H')(hne:1<=sub.length)(hA:Aft 1 [v] H' fun F H=>F=[v']/\H=H''):Ct P f xs [.obj true sub] v' H'':=by
 intro j w cargs hR hargs;obtain⟨j1,hle,s1⟩:=Step.open (n:=1) hR (b:=0) rfl (by simp);have e:zY [.obj true sub] 0 sub=sub:=by
   have hg:∀i,Zr 0 1 i=i:=fun i=>by unfold Zr;split <;> omega
   cases sub with
   | nil=>simp at hne
   | cons B r =>
     unfold zY;simp only[q7Z,q8Z,List.getD_cons_zero,s9Z,List.drop_succ_cons,List.drop_zero,q9Z,qaZ,s8Z];rw[zEQ hg,List.map_congr_left (fun B _=>zEQ hg B)];simp
 rw[e]at s1;refine (h j1 w cargs s1.rel (VRs.mono hle _ _ hargs)).mono ?_;rintro e w' ⟨cv,j2,rfl,hv,s2⟩;obtain⟨F3,H3,j3,⟨rfl,rfl⟩,h3,s3⟩:=hA j2 w' [cv] s2.rel ⟨cv,[],rfl,hv,rfl⟩;obtain⟨cv',ws,e1,h4,h5⟩:=h3;cases e1;exact⟨cv,j3,rfl,h4,(s1.trans s2 hne).trans s3 (qnZ _)⟩
theorem zOr{g:Nat->Nat}{H:zA}{em:List Nat}{H0 H1:zA}(hn:em.Nodup)(hl:∀x∈em,x<H.length)(hle:H0.length<=H1.length)
   (h:∀(i e:Nat) (B0 B1:ABlk),em[i]? = some e->H0[i]? = some B0->B0.own=true->H1[i]? = some B1->H[e]? = some (reB g B1)):zN g H em H0 H1=H:=by
 refine List.ext_getElem? fun c=>?_;by_cases hc:∃(i:Nat) (B:ABlk),em[i]? = some c/\H0[i]? = some B/\B.own=true
 · obtain⟨i,B,h1,h2,h3⟩:=hc
   have hi:i<H1.length:=by have:=(q1Z.1 h2).1;omega
   have h4:H1[i]? = some H1[i]:=q3Z hi;rw[zCv g H em H0 H1 i c B _ hn hl h1 h2 h3 h4,h i c B _ h1 h2 h3 h4]
 · refine zAQ g H em H0 H1 c fun i B h1 h2 h3=>hc ⟨i,B,h1,h2,h3⟩
theorem zYD{P:Program}{f:FuncId}{args:List AV}{v v':AV}{H0 N N' T:zA}(h:Ct P f args H0 v (H0++N))(ha:∀rn:List Nat,(∀i,i<H0.length->rn[i]? = some i)->AWs rn args args)
   (hB:∀rn:List Nat,(∀i,i<H0.length->rn[i]? = some i)->∀B∈H0,AWb rn B B) (hf:∀g:Nat->Nat,(∀i,i<H0.length->g i=i)->∀B∈H0,reB g B=B) (ho:zA5 N=true)
   (hv:∀g:Nat->Nat,(∀i,i<H0.length->g i=i)->(∀i,H0.length<=i->g i=i+T.length)->reA g v=v'/\N.map (reB g)=N'):Ct P f args (H0++T) v' (H0++T++N'):=by
 have hr:∀i,i<H0.length->(List.range H0.length)[i]? = some i:=fun i hi=>rfZ hi;have hg1:∀i,i<H0.length->zn (List.range H0.length) (H0++T).length i=i:=fun i hi=>by unfold zn;rw[hr i hi]
 have hg2:∀i,H0.length<=i->zn (List.range H0.length) (H0++T).length i=i+T.length:=fun i hi=>by
   unfold zn;rw[s4Z (by simpa using hi)];simp only[qdZ,List.length_range];omega
 have hH:∀(X:zA) (k:Nat),(∀B∈X,AWb (List.range H0.length) B B)->(∀i B,X[i]? = some B->(H0++T)[k+i]? = some B)->AWh (List.range H0.length) (H0++T) X (List.range' k X.length):=by
   intro X;induction X with
   | nil=>intro k _ _;trivial
   | cons B X ih =>
     intro k h1 h2;rw[q7Z,List.range'_succ];have h0:=h2 0 B rfl;rw[Nat.add_zero]at h0;refine ⟨?_,(q1Z.1 h0).1,ih (k+1) (fun C hC=>h1 C (qiZ _ hC)) fun i C hC=>?_⟩
     · rw[q2Z,h0];exact h1 B (qhZ ..)
     · rw[show k+1+i=k+(i+1) by omega];exact h2 (i+1) C (by simpa using hC)
 have:=zP (H:=H0++T) (args:=args) h (List.range H0.length) List.nodup_range (ha _ hr) (by
   have h1:=hH H0 0 (hB _ hr) fun i B hi=>by rw[s8Z,q4Z (q1Z.1 hi).1];exact hi
   rw[<-List.range_eq_range']at h1;exact h1) (by rw[List.drop_left];exact ho)
 obtain⟨h1,h2⟩:=hv _ hg1 hg2;rw[List.drop_left,h1,h2,zOr List.nodup_range (fun x hx=>by have:=List.mem_range.1 hx;simp;omega) (by simp) (fun i e B0 B1 k1 k2 k3 k4=>?_)]at this
 · exact this
 · have hi:i<H0.length:=(q1Z.1 k2).1
   rw[hr i hi]at k1;cases k1;rw[q4Z hi]at k4;rw[q4Z hi,k4,hf _ hg1 B1 (qcZ k4)]
def zf(g:Nat->Nat):Nat->FS->List (AV×AV)
 | _,[]=>[]
 | k,e::l=>(.int .i64 e.1,.ptr (g k) 0)::zf g (k+1) l
def zT(l:FS):zA:=l.map fun e=>.obj true e.2.blks
@[simp] theorem zMp(g:Nat->Nat):∀(k:Nat) (l:FS),(zf g k l).length=l.length
 | _,[]=>rfl
 | k,e::l=>by simp[zf,zMp g (k+1) l]
@[simp] theorem zl(l:FS):(zT l).length=l.length:=by simp[zT]
theorem Z6{l:FS}{i:Nat}{e:Int×PF}(h:l[i]? = some e):(zT l)[i]? = some (.obj true e.2.blks):=by simp[zT,h]
theorem zBP(g:Nat->Nat)(n:Int):∀(k:Nat) (l:FS) (i:Nat),zAL (zf g k l) (.int .i64 n) i=some ((FS.get l n).map fun _=>(i+FS.at l n,.ptr (g (k+FS.at l n)) 0))
 | k,[],i=>by simp[zf,zAL,FS.get]
 | k,e::l,i=>by
   have ih:=zBP g n (k+1) l (i+1);by_cases h:e.1=n
   · subst h
     simp[zf,zAL,Zz,FS.get,FS.at,FS.keys]
   · have h2:(n==e.1)=false:=by simpa using (fun q=>h q.symm)
     have h3:(e.1==n)=false:=by simpa using h
     simp only[zf,zAL,Zz,h2,ih,FS.get,h,if_false,FS.at,FS.keys,s1Z];rw[List.idxOf_cons,h3];cases FS.get l n <;> simp
     exact⟨by omega,by congr 1;omega⟩
theorem zLJ(g:Nat->Nat):∀(k:Nat) (l:FS) (e:Int×PF),zf g k (l++[e])=zf g k l++[(.int .i64 e.1,.ptr (g (k+l.length)) 0)]
 | k,[],e=>rfl
 | k,x::l,e=>by
   simp only[q9Z,zf,zLJ g (k+1) l e,q7Z];rw[show k+1+l.length=k+(l.length+1) by omega]
theorem zEs(g:Nat->Nat)(n:Int)(h:PF->PF):∀(k:Nat) (l:FS),zf g k (FS.upd l n h)=zf g k l
 | k,[]=>rfl
 | k,e::l=>by
   unfold FS.upd;split
   · rename_i hn;simp[zf,hn]
   · simp only[zf,zEs g n h (k+1) l]
theorem zJQ{l:FS}{n:Int}{f:PF}(h:PF->PF)(hf:FS.get l n=some f):zT (FS.upd l n h)=(zT l).set (FS.at l n) (.obj true (h f).blks):=by
 rw[FS.upd_set h hf];simp[zT,List.map_set]
theorem zBX{g g':Nat->Nat}:∀(k:Nat) (l:FS),(∀i,k<=i->i<k+l.length->g i=g' i)->zf g k l=zf g' k l
 | _,[],_=>rfl
 | k,e::l,h=>by
   simp only[zf];rw[h k (qnZ _) (by simp),zBX (k+1) l fun i h1 h2=>h i (by omega) (by simp;omega)]
theorem zJD(rn:List Nat)(g g':Nat->Nat):∀(k:Nat) (l:FS),AWs rn ((zf g k l).map (·.1)) ((zf g' k l).map (·.1))
 | _,[]=>trivial
 | k,_::l=>⟨⟨rfl,rfl⟩,zJD rn g g' (k+1) l⟩
theorem zKK(rn:List Nat)(g g':Nat->Nat):∀(k:Nat) (l:FS),(∀i,k<=i->i<k+l.length->rn[g i]? = some (g' i))->AWs rn ((zf g k l).map (·.2)) ((zf g' k l).map (·.2))
 | _,[],_=>trivial
 | k,_::l,h=>⟨⟨h k (qnZ _) (by simp),rfl⟩,zKK rn g g' (k+1) l fun i h1 h2=>h i (by omega) (by simp;omega)⟩
theorem zEu{rn:List Nat}{g g':Nat->Nat}{l:FS}(h:∀i,i<l.length->rn[g i]? = some (g' i)):AWb rn (.map (zf g 0 l)) (.map (zf g' 0 l)) :=
 ⟨zJD rn g g' 0 l,zKK rn g g' 0 l fun i _ h2=>h i (by omega)⟩
theorem zEg{h g:Nat->Nat}:∀(k:Nat) (l:FS),(zf g k l).map (fun e=>(reA h e.1,reA h e.2))=zf (fun i=>h (g i)) k l
 | _,[]=>rfl
 | k,_::l=>by simp only[zf,s1Z,reA,zEg (k+1) l]
def DS.cell0(d:DS)(fo m:Nat):ABlk:=.cells true [.ptr fo 0,.map m,.int .i64 d.quota,.int .i64 d.steps,.int .i64 d.armed,.bool d.down]
def DS.blks(d:DS):zA:=d.cell0 1 2::.obj true d.fd.blks::.map (zf (fun i=>i+3) 0 d.fs)::zT d.fs
theorem DS.blks_length(d:DS):d.blks.length=d.fs.length+3:=by simp[DS.blks]
theorem DS.blks_id(d:DS)(rn:List Nat)(hr:∀i,i<d.blks.length->rn[i]? = some i):∀B∈d.blks,AWb rn B B:=by
 rw[DS.blks_length]at hr;intro B hB;simp only[DS.blks,DS.cell0,qwZ]at hB;rcases hB with rfl | rfl | rfl | hB
 · exact⟨id,⟨hr 1 (by omega),rfl⟩,hr 2 (by omega),⟨rfl,rfl⟩,⟨rfl,rfl⟩,⟨rfl,rfl⟩,rfl,trivial⟩
 · exact⟨rfl,rfl⟩
 · exact zEu fun i hi=>hr (i+3) (by omega)
 · obtain⟨e,_,rfl⟩:=reZ.1 hB
   exact⟨rfl,rfl⟩
theorem DS.blks_fix(d:DS)(g:Nat->Nat)(hg:∀i,i<d.blks.length->g i=i):∀B∈d.blks,reB g B=B:=by
 rw[DS.blks_length]at hg;intro B hB;simp only[DS.blks,DS.cell0,qwZ]at hB;rcases hB with rfl | rfl | rfl | hB
 · simp[reB,zj,reA,hg 1 (by omega),hg 2 (by omega)]
 · rfl
 · simp only[reB]
   rw[zEg,zBX 0 d.fs fun i _ hi=>hg (i+3) (by omega)]
 · obtain⟨e,_,rfl⟩:=reZ.1 hB
   rfl
theorem Weak.tailG{A T Tn:zA}{F Fn:List AV}{N:Nat}(hN:A.length=N)(hA:∀rn:List Nat,(∀i,i<N->rn[i]? = some i)->∀B∈A,AWb rn B B)(ts:List Nat)(hts:ts.Nodup)
   (hF:AWs (List.range N++ts.map (N+·)) Fn F) (hT:AWg (List.range N++ts.map (N+·)) (A++T) Tn (ts.map (N+·))):Weak N F (A++T) Fn (A++Tn):=by
 have hr:∀i,i<N->(List.range N++ts.map (N+·))[i]? = some i:=fun i hi=>by
   rw[q4Z (by simpa using hi),rfZ hi]
 refine Weak.mk' (List.range N++ts.map (N+·)) ?_ ?_ hF (AWg.append ?_ hT)
 · rw[List.nodup_append]
   refine ⟨List.nodup_range,?_,fun a ha b hb=>?_⟩
   · rw[List.nodup_iff_pairwise_ne,List.pairwise_map]
     exact (List.nodup_iff_pairwise_ne.1 hts).imp fun h e=>h (by omega)
   · obtain⟨c,_,rfl⟩:=reZ.1 hb
     have:=List.mem_range.1 ha;omega
 · rw[List.take_left' (by simp)]
 · refine AWg.of _ _ (by simp[hN]) fun i x b hx hb hlt=>?_
   have hi:i<N:=by rw[<-hN];exact (q1Z.1 hx).1
   have hbi:b=i:=by rw[rfZ hi]at hb;cases hb;rfl
   subst hbi;rw[q2Z,q4Z (by omega),hx];exact hA _ hr x (qcZ hx)
structure DAt (H:zA) (d:DS) (b fo m:Nat) (g:Nat->Nat):Prop where
 c0:H[b]? = some (d.cell0 fo m)
 fold:H[fo]? = some (.obj true d.fd.blks)
 map:H[m]? = some (.map (zf g 0 d.fs))
 file:∀(i:Nat) e,d.fs[i]? = some e->H[g i]? = some (.obj true e.2.blks)
 nd:(b::fo::m::(List.range d.fs.length).map g).Nodup
theorem DAt.awg{H:zA}{d:DS}{b fo m:Nat}{g:Nat->Nat}(h:DAt H d b fo m g)(rn:List Nat)(hr:∀i,i<d.fs.length+3->rn[i]? = (b::fo::m::(List.range d.fs.length).map g)[i]?) :
   AWg rn H d.blks (b::fo::m::(List.range d.fs.length).map g):=by
 refine AWg.of _ _ (by simp[DS.blks]) fun i x c hx hc hlt=>?_;have hil:i<d.fs.length+3:=by rw[<-DS.blks_length];exact (q1Z.1 hx).1
 rw[q2Z]
 match i,hx,hc with
 | 0,hx,hc =>
   cases hx;cases hc
   rw[h.c0];exact⟨id,⟨hr 1 (by omega),rfl⟩,hr 2 (by omega),⟨rfl,rfl⟩,⟨rfl,rfl⟩,⟨rfl,rfl⟩,rfl,trivial⟩
 | 1,hx,hc =>
   cases hx;cases hc
   rw[h.fold];exact⟨rfl,rfl⟩
 | 2,hx,hc =>
   cases hx;cases hc
   rw[h.map];refine zEu fun i hi=>?_;rw[hr (i+3) (by omega)];simp[hi]
 | i+3,hx,hc =>
   simp only[DS.blks,r9Z]at hx hc;have hi:i<d.fs.length:=by omega
   have he:=q3Z hi;rw[Z6 he]at hx;cases hx;simp[hi]at hc;subst hc;rw[h.file i _ he];exact⟨rfl,rfl⟩
theorem DAt.weak{H:zA}{d:DS}{b fo m:Nat}{g:Nat->Nat}(h:DAt H d b fo m g){F Fn:List AV}{n:Nat}(hn:(b::fo::m::(List.range d.fs.length).map g).take n=List.range n)(hF:AWs (b::fo::m::(List.range d.fs.length).map g) Fn F) :
   Weak n F H Fn d.blks :=
 Weak.mk' _ h.nd hn hF (h.awg _ fun _ _=>rfl)
theorem Aft.closeDS(d:DS){T Tn:zA}{v v':AV}(ts:List Nat)(hts:ts.Nodup)(hlen:Tn.length=ts.length)(hF:AW (0::ts.map (d.fs.length+3+·)) v' v)
   (hT:∀(i t:Nat) x,ts[i]? = some t->Tn[i]? = some x->∃y,T[t]? = some y/\AWb (0::ts.map (d.fs.length+3+·)) x y):Aft 1 [v] (d.blks++T) fun F H=>F=[v']/\H=.obj true d.blks::Tn:=by
 have hl:=d.blks_length;have hr:∀i,i<d.blks.length->(List.range d.blks.length)[i]? = some i:=fun i hi=>rfZ hi;refine Aft.close (o:=true) (b:=0) (sub:=d.blks) (rs:=List.range d.blks.length) (ks:=List.range' 1 (d.fs.length+2)) (hr 0 (by omega)) List.nodup_range (by simp;omega) ?_ ?_ ⟨d.cell0 1 2,rfl,rfl⟩ ?_ (by simp;omega) ?_
 · intro c x hc h0 _ _
   have:=List.mem_range.1 hc;rw[List.mem_range'_1];omega
 · refine AWg.of _ _ (by simp) fun i x b hx hb hlt=>?_
   have hi:i<d.blks.length:=(q1Z.1 hx).1;rw[hr i hi]at hb;cases hb
   rw[q2Z,q4Z hi,hx];exact d.blks_id _ hr x (qcZ hx)
 · intro i y hy hd
   have hm:=qcZ hy;simp only[DS.blks,DS.cell0,qwZ]at hm;rcases hm with rfl | rfl | rfl | hm
   · rfl
   · rfl
   · rfl
   · obtain⟨e,_,rfl⟩:=reZ.1 hm
     rfl
 · refine Aft.weak (Fn:=[v']) (Hn:=.obj true d.blks::Tn) (Weak.mk' (0::ts.map (d.fs.length+3+·)) ?_ rfl ⟨hF,trivial⟩ (zM (b:=0) (by simp;omega) _ _ (by simp[hlen]) fun i c x h1 h2=>?_)) (by simp;omega) (Aft.done (by simp) ⟨rfl,rfl⟩)
   · rw[rdZ]
     refine ⟨fun h=>?_,?_⟩
     · obtain⟨a,_,h⟩:=reZ.1 h;omega
     · rw[List.nodup_iff_pairwise_ne,List.pairwise_map]
       exact (List.nodup_iff_pairwise_ne.1 hts).imp fun h e=>h (by omega)
   · cases i with
     | zero =>
       cases h1;cases h2;exact .inl ⟨rfl,rfl⟩
     | succ i =>
       simp only[r9Z,qzZ]at h1 h2;obtain⟨t,ht,rfl⟩:=qlZ.1 h1;obtain⟨y,hy,hw⟩:=hT i t x ht h2;refine .inr ⟨⟨by omega,by rw[List.mem_range'_1];omega⟩,?_⟩;rw[q2Z,q5Z (by omega),hl,s3Z,hy];exact hw
noncomputable def dsD(sub:zA):Option DS:=open Classical in if h:∃d:DS,sub=d.blks then some h.choose else none
theorem Z7{sub:zA}{d:DS}(h:dsD sub=some d):sub=d.blks:=by
 unfold dsD at h;split at h
 · rename_i hx
   cases h;exact hx.choose_spec
 · cases h
theorem zLa(g:Nat->Nat):∀(k:Nat) {l m:FS},zf g k l=zf g k m->zT l=zT m->l=m
 | _,[],[],_,_=>rfl
 | _,[],_::_,h,_=>by simp[zf]at h
 | _,_::_,[],h,_=>by simp[zf]at h
 | k,(a,x)::l,(b,y)::m,h,h'=>by
   simp only[zf,List.cons.injEq,Prod.mk.injEq,AV.int.injEq,true_and,and_true]at h;simp only[zT,s1Z,List.cons.injEq,ABlk.obj.injEq,true_and]at h';have h3:=congrArg zE1 h'.1;rw[zJB,zJB]at h3;rw[h.1,Option.some.inj h3,zLa g (k+1) h.2 h'.2]
theorem zTA{d e:DS}(h:d.blks=e.blks):d=e:=by
 obtain⟨fd,fs,q,s,a,w⟩:=d;obtain⟨fd',fs',q',s',a',w'⟩:=e;simp only[DS.blks,DS.cell0,List.cons.injEq,ABlk.cells.injEq,ABlk.obj.injEq,ABlk.map.injEq,AV.int.injEq,AV.bool.injEq,true_and,and_true]at h;obtain⟨⟨h1,h2,h3,h4⟩,h5,h6,h7⟩:=h;rw[h1,h2,h3,h4,zO7 h5,zLa _ 0 h6 h7]
@[simp] theorem zOK(d:DS):dsD d.blks=some d:=by
 unfold dsD;have h:∃e:DS,d.blks=e.blks:=⟨d,rfl⟩
 rw[dif_pos h];have:=Classical.choose_spec h;exact congrArg some (zTA this).symm
end
section
open Go Go.Lib
attribute [-simp] zH zc zq zK zy
theorem DS.blks_head(d:DS)(T:zA):d.blks++T=.cells true [.ptr 1 0,.map 2,.int .i64 d.quota,.int .i64 d.steps,.int .i64 d.armed,.bool d.down]::(.obj true d.fd.blks::.map (zf (fun i=>i+3) 0 d.fs)::(zT d.fs++T)):=rfl
theorem zSH(d:DS)(T:zA)(F:FuncId)(caps:List AV){v:AV}{H':zA}(he:∀cargs w,(callFunc F cargs).run Pz w=.ok (.enter F cargs) w)(hF:F≠yl)
   (hs:0<=d.steps/\d.steps<=4611686018427387903) (ha:0<=d.armed/\d.armed<=4611686018427387903) (hlen:(d.blks++T).length<=H'.length)
   (hdown:d.count.down=true->v=.int .i64 13/\H'=d.count.blks++T)
   (hup:d.count.down=false->Ct Pz F caps (d.count.blks++T) v H') :
   Ct Pz 88 [.ptr 0 0,.func F [] caps] (d.blks++T) v H':=by
 have hw:IntKind.i64.wrap (d.steps+1)=d.steps+1:=zI (by omega) (by omega);have hb:=DS.blks_head d T;have hb2:=DS.blks_head d.count T;rw[DS.count_fd,DS.count_fs,DS.count_quota,DS.count_steps]at hb2;obtain⟨rest,hrest⟩:∃rest:zA,.obj true d.fd.blks::.map (zf (fun i=>i+3) 0 d.fs)::(zT d.fs++T)=rest:=⟨_,rfl⟩
 rw[hrest]at hb hb2;obtain⟨a',ea⟩:∃a',d.count.armed=a':=⟨_,rfl⟩
 obtain⟨w',ew⟩:∃w',d.count.down=w':=⟨_,rfl⟩
 rw[ea,ew]at hb2;rw[ew]at hdown hup;rw[hb2]at hdown hup;rw[hb]at hlen ⊢;refine zL Tryz.func88 rfl ?_;simp only[Tryz.ntmps88,q7Z,q8Z,Nat.reduceAdd,Nat.reduceSub,qbZ,q9Z,qaZ];refine wS zC (by simp;exact wR) ?_;refine wS zC (by simp;exact wR) ?_;refine wS zC (by simp[hw];exact wR) ?_;refine Sim.seq (Sim.mono (Q:=fun e F' H1=>e=.normal/\LessF ([.ptr 0 0,.func F [] caps,.top,.top,.int .i64 0]++qbZ 42 .top) F'/\H1=.cells true [.ptr 1 0,.map 2,.int .i64 d.quota,.int .i64 (d.steps+1),.int .i64 a',.bool w']::rest) ?_ ?_)
 · by_cases h1:0<d.armed
   · cases h2:d.down with
     | true =>
       have e:d.count=⟨d.fd,d.fs,d.quota,d.steps+1,d.armed,d.down⟩:=by unfold DS.count;rw[if_neg (by simp[h2])]
       rw[e]at ea ew;dsimp only at ea ew;rw[h2]at ew;subst ea;subst ew
       refine wE zC (by simp[h1];exact wT) ?_;exact⟨rfl,by simp,rfl⟩
     | false =>
       have e:d.count=⟨d.fd,d.fs,d.quota,d.steps+1,d.armed-1,decide (d.armed-1=0)⟩:=by unfold DS.count;rw[if_pos ⟨h1,h2⟩]
       rw[e]at ea ew;dsimp only at ea ew;have hw1:IntKind.i64.wrap (d.armed-1)=d.armed-1:=zI (by omega) (by omega);rw[ea]at hw1 ew;have ew':(a'==0)=w':=by rw[<-ew];by_cases h:a'=0 <;> simp[h]
       refine wE zC (by simp[h1,ea,hw1,ew'];exact wT) ?_;exact⟨rfl,by simp,rfl⟩
   · have e:d.count=⟨d.fd,d.fs,d.quota,d.steps+1,d.armed,d.down⟩:=by unfold DS.count;rw[if_neg (by simp[h1])]
     rw[e]at ea ew;dsimp only at ea ew;subst ea;subst ew
     refine wE zC (by simp[h1];exact wT) ?_;exact⟨rfl,by simp,rfl⟩
 rintro e F' H1 hlen1 ⟨rfl,hF,rfl⟩;dsimp only;refine Sim.less hF ?_;clear hF hlen1;simp only[q9Z,qaZ,qbZ];cases w' with
 | true =>
   obtain⟨rfl,rfl⟩:=hdown rfl;refine wE zC (by simp;exact wT) ?_;exact⟨.inr rfl,by simp[Tryz.f88],rfl⟩
 | false =>
   have hΓ:GOk Pz (zZ [(F,zB7 caps (.cells true [.ptr 1 0,.map 2,.int .i64 d.quota,.int .i64 (d.steps+1),.int .i64 a',.bool false]::rest) v H')]):=zB (ZA he (hup rfl) (by simpa using hlen)) zC (hg:=hF);refine wS hΓ (by simp;exact wR) ?_;have hF':¬F=1000000000:=hF;refine wE hΓ (by simp[hF'];exact wT) ?_;exact⟨.inr rfl,by simp[Tryz.f88],rfl⟩
def DS.heap(d:DS)(T:zA):zA:=d.cell0 1 2::.obj true d.fd.blks::.map (zf (fun i=>i+3) 0 d.fs)::(zT d.fs++T)
theorem DS.heap_eq(d:DS)(T:zA):d.heap T=d.blks++T:=rfl
theorem DS.heap_length(d:DS)(T:zA):(d.heap T).length=d.fs.length+T.length+3:=by simp[DS.heap]
structure Behind (X:zA) (n:Nat):Prop where
 len:X.length=n
 get:∀(T:zA) (j:Nat),(X++T)[n+j]? = T[j]?
 get0:∀(T:zA),(X++T)[n]? = T[0]?
 set:∀(T:zA) (j:Nat) v,(X++T).set (n+j) v=X++T.set j v
 set0:∀(T:zA) v,(X++T).set n v=X++T.set 0 v
theorem behind(fs:FS):Behind (zT fs) fs.length:=by
 have hl:(zT fs).length=fs.length:=zl fs;refine ⟨hl,fun T j=>?_,fun T=>?_,fun T j v=>?_,fun T v=>?_⟩
 · rw[q5Z (by omega),hl];congr 1;omega
 · rw[q5Z (by omega),hl,Nat.sub_self]
 · rw[List.set_append_right _ _ (by omega),hl];congr 2;omega
 · rw[List.set_append_right _ _ (by omega),hl,Nat.sub_self]
theorem DS.tail(d:DS){T Tn:zA}{F Fn:List AV}(ts:List Nat)(hts:ts.Nodup)
   (hF:AWs (List.range (d.fs.length+3)++ts.map (d.fs.length+3+·)) Fn F) (hlen:Tn.length=ts.length)
   (hT:∀(i t:Nat) x y,ts[i]? = some t->Tn[i]? = some x->T[t]? = some y->AWb (List.range (d.fs.length+3)++ts.map (d.fs.length+3+·)) x y):Weak (d.fs.length+3) F (d.heap T) Fn (d.heap Tn):=by
 have hl:=d.blks_length;rw[DS.heap_eq,DS.heap_eq];refine Weak.tailG hl (fun rn hr=>d.blks_id rn (by rw[hl];exact hr)) ts hts hF (AWg.of _ _ (by simp[hlen]) fun i x b hx hb hlt=>?_);rw[qzZ]at hb;obtain⟨t,ht,rfl⟩:=qlZ.1 hb;rw[qdZ,hl]at hlt;have htl:t<T.length:=by omega
 rw[q2Z,q5Z (by omega),hl,s3Z,q3Z htl];exact hT i t x _ ht hx (q3Z htl)
theorem zCA(n:Nat)(ts:List Nat){i:Nat}(hi:i<n):(List.range n++ts)[i]? = some i:=by
 rw[q4Z (by simpa using hi),rfZ hi]
theorem zSZ(n:Nat)(ts:List Nat)(i:Nat):(List.range n++ts)[n+i]? = ts[i]?:=by
 rw[q5Z (by simp)];simp
def zRh:List FuncId:=[46]
noncomputable def zYL:Gam:=zZ [(75,zEX)]
theorem zWj:GOk Pz (zAV Pz zYL 0 zRh 2):=zp hmix (zB zGf zC) 0 zRh 2
theorem zXZ(d:DS)(hsm:d.fd.small):Ct Pz 40 [.ptr 0 0] (d.heap []) (.sl (d.fs.length+3) 0 d.list.length 1 false) (d.heap [.cells true (d.list.map .str)]):=by
 have hΓ:=zWj;have hlen:=d.heap_length [];obtain⟨n,hn⟩:∃n,d.fs.length=n:=⟨_,rfl⟩
 have hX:=behind d.fs;have tl:=fun {T Tn F Fn}=>DS.tail d (T:=T) (Tn:=Tn) (F:=F) (Fn:=Fn);rw[hn]at hlen hX tl;refine zE Tryz.func40 rfl ?_;simp only[Tryz.ntmps40,q7Z,q8Z,Nat.reduceAdd,Nat.reduceSub,qbZ,q9Z,qaZ];rw[hlen,hn];unfold DS.heap DS.cell0;have hXl:=hX.len;obtain⟨X,eX⟩:∃X,zT d.fs=X:=⟨_,rfl⟩
 rw[eX]at hX hXl ⊢;refine wS hΓ (by simp;exact wR) ?_ (by simp[hXl]);cases hd:d.down with
 | true =>
   have hl:d.list=[]:=by unfold DS.list;rw[hd];rfl
   rw[hl];refine wE hΓ (by simp +decide [zRh,Tryz.f46];exact wT) ?_ (by simp[hXl]);refine ⟨.inr rfl,_,by simp[Tryz.f40] <;> rfl,?_⟩;have:=tl (T:=[]) (Tn:=[.cells true []]) (F:=[.nils]) (Fn:=[.sl (n+3) 0 0 1 false]) [100] (by decide) (by simp[AWs,AW]) rfl (fun i t x y h1 h2 h3=>by simp at h3);unfold DS.heap DS.cell0 at this;rw[eX,hd]at this;simpa using this
 | false =>
   have hl:d.list=d.fd.names:=by unfold DS.list;rw[hd];rfl
   rw[hl];refine wS hΓ (by simp +decide [zRh,Tryz.f46];exact wR) ?_ (by simp[hXl]);refine wE hΓ (by simp +decide [zYL,zEX,hsm,hXl];exact wT) ?_ (by simp[hXl]);refine ⟨.inr rfl,_,by simp[Tryz.f40] <;> rfl,?_⟩;have:=tl (T:=[.cells true (d.fd.names.map .str)]) (Tn:=[.cells true (d.fd.names.map .str)]) (F:=[.sl (n+3) 0 d.fd.names.length 1 false]) (Fn:=[.sl (n+3) 0 d.fd.names.length 1 false]) [0] (by decide) (by simp[AWs,AW]) rfl (fun i t x y h1 h2 h3=>by
     match i,h1,h2 with
     | 0,h1,h2=>cases h1;cases h2;cases h3;exact⟨id,(zC0 (ZO d.fd.names AV.str fun _=>rfl)).2 trivial⟩)
   unfold DS.heap DS.cell0 at this;rw[eX,hd]at this;simpa using this
def flA:List (List UInt8×List UInt8)->List AV
 | []=>[]
 | e::l=>.str e.1::.str e.2::flA l
@[simp] theorem zFJ:∀l,(flA l).length=l.length*2
 | []=>rfl
 | e::l=>by simp[flA,zFJ l];omega
theorem zFU:∀l m,flA (l++m)=flA l++flA m
 | [],m=>rfl
 | e::l,m=>by simp[flA,zFU l m]
@[simp] theorem zC7:∀l,zV (flA l)=true
 | []=>rfl
 | e::l=>by simp[flA,zC7 l]
theorem zIR:∀(l:List (List UInt8×List UInt8)) (k:Nat) (h:k<l.length),((flA l).drop (k*2)).take 2=[.str l[k].1,.str l[k].2]
 | a::l,0,_=>by simp[flA]
 | a::l,k+1,h=>by
   have:=zIR l k (by simpa using h);rw[show (k+1)*2=2+k*2 by omega];simp only[flA,List.getElem_cons_succ];rw[<-List.drop_drop];simpa using this
def zDf:List FuncId:=[134]
noncomputable def zR2(d:DS):Gam:=zZ [(40,zB7 [.ptr 0 0] (d.heap []) (.sl (d.fs.length+3) 0 d.list.length 1 false) (d.heap [.cells true (d.list.map .str)])),(76,zBI),(135,zMd)]
theorem zXe(d:DS)(hsm:d.fd.small):GOk Pz (zAV Pz (zR2 d) 0 zDf 2):=zp hmix (zB (ZA (zD Tryz.func40 rfl (by decide)) (zXZ d hsm) (by simp[DS.heap])) (zB zAf (zB zLq zC))) 0 zDf 2
theorem zNR(d:DS){A B:Nat}(hok:d.ok A B)(hA:A<=1000000):Ct Pz 48 [.ptr 0 0] (d.heap []) (.sl (d.fs.length+3) 0 d.files.length 2 false) (d.heap [.cells true (flA d.files)]):=by
 have hsm:d.fd.small:=FD.ok_mono hok.fd hA;have hΓ:=zXe d hsm;have hlen:=d.heap_length [];obtain⟨n,hn⟩:∃n,d.fs.length=n:=⟨_,rfl⟩
 have hX:=behind d.fs;have tl:=fun {T Tn F Fn}=>DS.tail d (T:=T) (Tn:=Tn) (F:=F) (Fn:=Fn);rw[hn]at hlen hX tl;refine zE Tryz.func48 rfl ?_;simp only[Tryz.ntmps48,q7Z,q8Z,Nat.reduceAdd,Nat.reduceSub,qbZ,q9Z,qaZ];rw[hlen,hn];have hfl:d.files.length=d.list.length:=by simp[DS.files]
 obtain⟨ks,hks⟩:∃ks,d.list=ks:=⟨_,rfl⟩
 obtain⟨m,hm⟩:∃m,ks.length=m:=⟨_,rfl⟩
 have hm6:m<=1000000:=by
   rw[<-hm,<-hks];unfold DS.list;split
   · simp
   · have h1:=(FD.ok_now hsm).2
     unfold FD.names;rw[(ZW _).length_eq];simpa[NM.keys] using h1
 have hdn:0<m->d.down=false:=fun h=>by
   cases hd:d.down with
   | false=>rfl
   | true=>unfold DS.list at hks;rw[hd]at hks;rw[<-hks]at hm;simp at hm;omega
 rw[hfl,hks,hm];simp only[q8Z,Nat.add_zero]at hlen ⊢;have fks:∀rn:List Nat,AWs rn (ks.map AV.str) (ks.map AV.str):=fun rn=>(zC0 (ZO ks AV.str fun _=>rfl)).2 trivial;refine wS hΓ (by simp;exact wR) ?_ (by simp[DS.heap,hn]);refine Sim.seq (Sim.mono (Q:=fun e F' H'=>e=.normal/\Weak (n+3) F' H' ([.ptr 0 0,.top,.sl (n+4) 0 m 2 false]++qbZ 26 .top) (d.heap [.cells true (ks.map .str),.cells true (flA d.files)])) (wS hΓ (by simp[zDf,zR2,hks,hm,hn];exact wR) ?_ (by simp[DS.heap,hn])) ?_)
 · refine Sim.block (Sim.loopW (fun i:Nat=>i<=m)
     (fun i=>[.ptr 0 0,.top,.sl (n+4) 0 i 2 false,.top,.top,.top,.top,.top,.sl (n+3) 0 m 1 false,.int .i64 m,.int .i64 i]++qbZ 18 .top)
     (fun i=>d.heap [.cells true (ks.map .str),.cells true (flA (d.files.take i))]) (fun i=>m-i) 0 (by simp[DS.heap,hn]) (by simp) ?_ fun i hi=>?_)
   · refine tl (T:=[.cells true (ks.map .str)]) [0,100] (by decide) ?_ rfl ?_
     · simp[AW]
     · intro j t x y h1 h2 h3
       match j,h1,h2 with
       | 0,h1,h2=>cases h1;cases h2;cases h3;exact⟨id,fks _⟩
       | 1,h1,h2=>cases h1;cases h3
   · by_cases hlt:i<m
     · have hltI:(i:Int)<m:=by omega
       have hilt:i<ks.length:=by omega
       obtain⟨k,hk⟩:∃k,ks[i]=k:=⟨_,rfl⟩
       have hg:∀h,ks[i]'h=k:=fun h=>hk;have hd:=hdn (by omega);have hmem:k∈d.fd.names:=by
         rw[<-hk];have:ks=d.fd.names:=by rw[<-hks];unfold DS.list;rw[hd];rfl
         rw[<-this];exact r3Z hilt
       obtain⟨v,hv⟩:=FD.names_get hmem;obtain⟨f,hf,hfok⟩:=DS.has_file hok hv;have hfind:=FD.find_get hv;have hlook:=zBP (fun i=>i+3) v 0 d.fs 0;rw[hf]at hlook;simp only[rhZ,s8Z]at hlook;have hfb:=Z6 (FS.at_get hf);have hal:=FS.at_lt hf;obtain⟨q,hq⟩:∃q,FS.at d.fs v=q:=⟨_,rfl⟩
       rw[hq]at hlook hfb hal;rw[hn]at hal;dsimp only at hfb;have htext:d.text k=f.now:=by unfold DS.text DS.file;rw[hv];dsimp only;rw[hf]
       have hnx:d.files.take (i+1)=d.files.take i++[(k,f.now)]:=by
         rw[List.take_add_one]
         congr 1
         unfold DS.files;rw[hks,qzZ,q3Z hilt,hk];simp[htext]
       obtain⟨acc,hacc⟩:∃acc,d.files.take i=acc:=⟨_,rfl⟩
       have hal2:acc.length=i:=by rw[<-hacc,qjZ,hfl,hks,hm];omega
       rw[hacc]at hnx ⊢;have hXl:=hX.len;have hXg:=hX.get;have hXg0:=hX.get0;unfold DS.heap DS.cell0;obtain⟨X,eX⟩:∃X,zT d.fs=X:=⟨_,rfl⟩
       rw[eX]at hfb hXl hXg hXg0 ⊢;have hXq:∀T,(X++T)[q]? = some (.obj true f.blks):=fun T=>by rw[q4Z (by omega)];exact hfb
       have hXsq:∀T,(X++T).set q (.obj true f.blks)=X++T:=fun T=>by
         have hql:q<(X++T).length:=by simp;omega
         have h1:(X++T)[q]'hql=.obj true f.blks:=by have:=hXq T;rw[q3Z hql]at this;exact Option.some.inj this
         rw[<-h1,List.set_getElem_self]
       have hXs:=hX.set;have hXs0:=hX.set0;rw[eX]at hXs hXs0;have y1:IntKind.i64.wrap ((i:Int)+1)=i+1:=zI (by omega) (by omega);have b1:(i+1)*32<=140737488355328:=by omega
       have b2:i+1<=9223372036854775807:=by omega
       have htk:List.take (i*2) (flA acc)=flA acc:=q6Z (by simp[hal2]);rw[hd];refine wS hΓ (by simp[hltI];exact wR) ?_ (by simp[hXl]);refine wS hΓ (by simp;exact wR) ?_ (by simp[hXl]);refine Sim.seq (Sim.block ?_);refine wS hΓ (by simp[hlt,hXl,hm,hg];exact wR) ?_ (by simp[hXl]);refine wS hΓ (by simp[zDf,zR2,zBI,hfind,hlook,Tryz.f134];exact wR) ?_ (by simp[hXl]);refine wE hΓ (by simp[zDf,zR2,zMd,hXq,hXsq,hXs,hXl,hal2,htk,b1,b2];exact wT) ?_ (by simp[hXl]);dsimp only;refine wE hΓ (by simp[y1];exact wT) ?_ (by simp[hXl]);dsimp only;refine ⟨i+1,by omega,?_,by omega⟩;rw[hnx,zFU];have tlx:=fun {T Tn F Fn}=>tl (T:=T) (Tn:=Tn) (F:=F) (Fn:=Fn) [0,3] (by decide);unfold DS.heap DS.cell0 at tlx;rw[eX,hd]at tlx;refine tlx ?_ rfl fun j t x y h1 h2 h3=>?_
       · simp[AW]
       · match j,h1,h2 with
         | 0,h1,h2=>cases h1;cases h2;cases h3;exact⟨id,fks _⟩
         | 1,h1,h2=>cases h1;cases h2;cases h3;simp[AWb,flA]
     · have hin:i=m:=by omega
       subst hin;have hltI:¬(i:Int)<i:=by omega
       refine wE hΓ (by simp;exact wT) ?_ (by simp[DS.heap,hn]);dsimp only;rw[if_pos rfl];refine ⟨by trivial,?_⟩;have hall:d.files.take i=d.files:=q6Z (by rw[hfl,hks,hm];exact qnZ _);rw[hall];refine tl [0,1] (by decide) ?_ rfl fun j t x y h1 h2 h3=>?_
       · simp[AW]
       · match j,h1,h2 with
         | 0,h1,h2=>cases h1;cases h2;cases h3;exact⟨id,fks _⟩
         | 1,h1,h2=>cases h1;cases h2;cases h3;simp[AWb]
 rintro e F' H' hlen1 ⟨rfl,hwk⟩;dsimp only;refine Sim.weak hwk hlen1 ?_;clear hwk hlen1;simp only[q9Z,qaZ,qbZ];refine wE hΓ (by simp;exact wT) ?_ (by simp[DS.heap,hn]);refine ⟨.inr rfl,_,by simp[Tryz.f48] <;> rfl,?_⟩;refine tl [1] (by decide) ?_ rfl fun j t x y h1 h2 h3=>?_
 · simp[AW]
 · match j,h1,h2 with
   | 0,h1,h2=>cases h1;cases h2;cases h3;simp[AWb]
def zG4(l:List (List UInt8×List UInt8)):Nat:=(l.map fun e=>e.2.length).sum
theorem zLm(l:List (List UInt8×List UInt8))(e:List UInt8×List UInt8):zG4 (l++[e])=zG4 l+e.2.length:=by simp[zG4]
theorem DS.used_sum(d:DS):d.used=zG4 d.files:=by simp[DS.used,zG4,DS.files,Function.comp_def]
theorem DS.text_le{d:DS}{A B:Nat}(h:d.ok A B)(k:List UInt8):(d.text k).length<=B:=by
 unfold DS.text DS.file;cases hg:d.fd.now.get k with
 | none=>simp
 | some n =>
   obtain⟨f,hf,hk⟩:=DS.has_file h hg;dsimp only;rw[hf];exact PF.ok_now hk
theorem DS.list_le{d:DS}{A B:Nat}(h:d.ok A B):d.list.length<=A:=by
 unfold DS.list;split
 · simp
 · have h1:=(FD.ok_now h.fd).2
   unfold FD.names;rw[(ZW _).length_eq];simpa[NM.keys] using h1
theorem zRu{B:Nat}:∀(l:List (List UInt8×List UInt8)),(∀e∈l,e.2.length<=B)->zG4 l<=l.length*B
 | [],_=>by simp[zG4]
 | e::l,h=>by
   have h1:=h e (qhZ ..);have h2:=zRu l fun x hx=>h x (qiZ _ hx);simp only[zG4,s1Z,List.sum_cons,q7Z,Nat.succ_mul]at h2 ⊢;omega
theorem DS.sum_le{d:DS}{A B:Nat}(h:d.ok A B)(hA:A<=1000000)(hB:B<=1000000000000)(i:Nat):zG4 (d.files.take i)<=1000000000000000000:=by
 have h1:=zRu (B:=B) (d.files.take i) fun e he=>by
   obtain⟨k,_,rfl⟩:=reZ.1 (List.mem_of_mem_take he);exact DS.text_le h k
 have h2:(d.files.take i).length<=1000000:=by
   have:=DS.list_le h;simp[DS.files];omega
 have h3:=Nat.mul_le_mul h2 hB;omega
noncomputable def zZ2(d:DS):Gam:=zZ [(48,zB7 [.ptr 0 0] (d.heap []) (.sl (d.fs.length+3) 0 d.files.length 2 false) (d.heap [.cells true (flA d.files)]))]
theorem zX6(d:DS){A B:Nat}(hok:d.ok A B)(hA:A<=1000000):GOk Pz (zZ2 d):=zB (ZA (zD Tryz.func48 rfl (by decide)) (zNR d hok hA) (by simp[DS.heap])) zC
theorem zX2(d:DS){A B:Nat}(hok:d.ok A B)(hA:A<=1000000)(hB:B<=1000000000000):Ct Pz 97 [.ptr 0 0] (d.heap []) (.int .i64 d.used) (d.heap []):=by
 have hΓ:=zX6 d hok hA;have hlen:=d.heap_length [];have hsum:=DS.sum_le hok hA hB;rw[DS.used_sum];obtain⟨n,hn⟩:∃n,d.fs.length=n:=⟨_,rfl⟩
 have hX:=behind d.fs;have tl:=fun {T Tn F Fn}=>DS.tail d (T:=T) (Tn:=Tn) (F:=F) (Fn:=Fn);rw[hn]at hlen hX tl;refine zE Tryz.func97 rfl ?_;simp only[Tryz.ntmps97,q7Z,q8Z,Nat.reduceAdd,Nat.reduceSub,qbZ,q9Z,qaZ];rw[hlen];obtain⟨l,hl⟩:∃l,d.files=l:=⟨_,rfl⟩
 obtain⟨m,hm⟩:∃m,l.length=m:=⟨_,rfl⟩
 rw[hl]at hsum ⊢;have hm6:m<=1000000:=by
   have:=DS.list_le hok;rw[<-hm,<-hl];simp[DS.files];omega
 simp only[q8Z,Nat.add_zero]at hlen ⊢;refine wS hΓ (by simp;exact wR) ?_ (by simp[DS.heap,hn]);refine Sim.seq (Sim.mono (Q:=fun e F' H'=>e=.normal/\Weak (n+3) F' H' ([.ptr 0 0,.top,.int .i64 (zG4 l)]++qbZ 16 .top) (d.heap [])) (wS hΓ (by simp[zZ2,hl,hm,hn];exact wR) ?_ (by simp[DS.heap,hn])) ?_)
 · refine Sim.block (Sim.loopW (fun i:Nat=>i<=m)
     (fun i=>[.ptr 0 0,.top,.int .i64 (zG4 (l.take i)),.top,.top,.top,.sl (n+3) 0 m 2 false,.int .i64 m,.int .i64 i]++qbZ 10 .top)
     (fun i=>d.heap [.cells true (flA l)]) (fun i=>m-i) 0 (by simp[DS.heap,hn]) (by simp) ?_ fun i hi=>?_)
   · refine tl [0] (by decide) ?_ rfl ?_
     · simp[AW,zG4]
     · intro j t x y h1 h2 h3
       match j,h1,h2 with
       | 0,h1,h2=>cases h1;cases h2;cases h3;simp[AWb]
   · by_cases hlt:i<m
     · have hltI:(i:Int)<m:=by omega
       have hilt:i<l.length:=by omega
       obtain⟨e,he⟩:∃e,l[i]=e:=⟨_,rfl⟩
       have hg:=zIR l i hilt;rw[he]at hg;have hnx:l.take (i+1)=l.take i++[e]:=by rw[List.take_add_one,q3Z hilt,he];rfl
       have hs:=hsum (i+1);rw[hnx,zLm]at hs;have hXl:=hX.len;have hXg:=hX.get;have hXg0:=hX.get0;have hXs:=hX.set;have hXs0:=hX.set0;have k1:i*2+2<=m*2:=by omega
       have y1:IntKind.i64.wrap ((i:Int)+1)=i+1:=zI (by omega) (by omega);obtain⟨s,hs0⟩:∃s,zG4 (l.take i)=s:=⟨_,rfl⟩
       rw[hs0]at hs ⊢;have y2:IntKind.i64.wrap ((s:Int)+e.2.length)=s+e.2.length:=zI (by omega) (by omega);unfold DS.heap DS.cell0;obtain⟨X,eX⟩:∃X,zT d.fs=X:=⟨_,rfl⟩
       rw[eX]at hXl hXg hXg0 hXs hXs0 ⊢;refine wS hΓ (by simp[hltI];exact wR) ?_ (by simp[hXl]);refine wS hΓ (by simp;exact wR) ?_ (by simp[hXl]);refine Sim.seq (Sim.block ?_);refine wS hΓ (by simp +decide [hlt,hXl,hm,hg,k1];exact wR) ?_ (by simp[hXl]);refine wE hΓ (by simp[hXl,y2];exact wT) ?_ (by simp[hXl]);dsimp only;refine wE hΓ (by simp[y1];exact wT) ?_ (by simp[hXl]);dsimp only;refine ⟨i+1,by omega,?_,by omega⟩;rw[hnx,zLm,hs0];have tlx:=fun {T Tn F Fn}=>tl (T:=T) (Tn:=Tn) (F:=F) (Fn:=Fn) [0] (by decide);unfold DS.heap DS.cell0 at tlx;rw[eX]at tlx;refine tlx ?_ rfl fun j t x y h1 h2 h3=>?_
       · simp[AW]
       · match j,h1,h2 with
         | 0,h1,h2=>cases h1;cases h2;cases h3;simp[AWb]
     · have hin:i=m:=by omega
       subst hin;refine wE hΓ (by simp;exact wT) ?_ (by simp[DS.heap,hn]);dsimp only;rw[if_pos rfl];refine ⟨by trivial,?_⟩;rw[q6Z (by omega)];refine tl [] (by decide) ?_ rfl fun j t x y h1 h2 h3=>by simp at h1
       simp[AW]
 rintro e F' H' hlen1 ⟨rfl,hwk⟩;dsimp only;refine Sim.weak hwk hlen1 ?_;clear hwk hlen1;simp only[q9Z,qaZ,qbZ];refine wE hΓ (by simp;exact wT) ?_ (by simp[DS.heap,hn]);refine ⟨.inr rfl,_,by simp[Tryz.f97] <;> rfl,?_⟩;refine tl [] (by decide) ?_ rfl fun j t x y h1 h2 h3=>by simp at h1
 simp
def ZU:ABlk:=.cells true [.ptr 0 0]
def zAn(k:List UInt8):ABlk:=.cells true [.str k]
def zIe(d:DS)(fd:FD)(n:Int)(T:zA)(B:ABlk):zA :=
 d.cell0 1 2::.obj true fd.blks::.map (zf (fun i=>i+3) 0 d.fs++[(.int .i64 n,.ptr (d.fs.length+3+T.length) 0)])::(zT d.fs++(T++[B]))
noncomputable def zWM:Gam:=zZ [(90,zU4),(91,zVT)]
theorem zX3:GOk Pz zWM:=zB zP1 (zB zQB zC)
theorem DS.small_fd{d:DS}{A B:Nat}(h:d.ok A B)(hA:A<=1000000):d.fd.small:=FD.ok_mono h.fd hA
theorem DS.fresh{d:DS}{A B:Nat}(h:d.ok A B):FS.get d.fs (d.fd.last+1)=none:=FS.get_none.2 fun hm=>by have:=h.rng _ hm;omega
theorem zQb(d:DS){A B:Nat}(hok:d.ok A B)(hA:A<=1000000)(k:List UInt8)(hk:k.length<=9223372036854775807) :
   Ct Pz 89 [.ptr (d.fs.length+3) 0,.ptr (d.fs.length+4) 0] (d.heap [ZU,zAn k]) (.int .i64 (d.fd.create k).2.2)
     (if (d.fd.create k).2.2=0 then zIe d (d.fd.create k).1 (d.fd.create k).2.1 [ZU,zAn k] (.obj true (⟨[],[]⟩:PF).blks) else (⟨(d.fd.create k).1,d.fs,d.quota,d.steps,d.armed,d.down⟩:DS).heap [ZU,zAn k]):=by
 have hΓ:=zX3;have hsm:=DS.small_fd hok hA;obtain⟨n,hn⟩:∃n,d.fs.length=n:=⟨_,rfl⟩
 have hX:=behind d.fs;rw[hn]at hX;refine zL Tryz.func89 rfl ?_;simp only[Tryz.ntmps89,q7Z,q8Z,Nat.reduceAdd,Nat.reduceSub,qbZ,q9Z,qaZ];have hXl:=hX.len;have hXg:=hX.get;have hXg0:=hX.get0;have hXs:=hX.set;have hXs0:=hX.set0;have hz:(d.fd.create k).2.2=0->(d.fd.create k).2.1=d.fd.last+1:=by
   unfold FD.create;split
   · split
     · intro h;exact absurd h (by dsimp only;omega)
     · intro _;rfl
   · intro h;exact absurd h (by dsimp only;omega)
 obtain⟨f',num,e,hc⟩:∃f' num e,d.fd.create k=(f',num,e):=⟨_,_,_,rfl⟩
 rw[hc]at hz ⊢;dsimp only at hz ⊢;have hfr:=DS.fresh hok;unfold DS.heap zIe DS.cell0 ZU zAn;rw[hn];have hlook:=zBP (fun i=>i+3) num 0 d.fs 0;obtain⟨X,eX⟩:∃X,zT d.fs=X:=⟨_,rfl⟩
 rw[eX]at hXl hXg hXg0 hXs hXs0 ⊢;refine wS hΓ (by simp;exact wR) ?_ (by simp[hXl]);refine Sim.seq (Sim.draw hmix (by simp) ?_);refine SimR.many hΓ 5 (by simp[zF];rfl) (by omega) (by kernel_rfl) (by simp +decide [hXl];first | exact wR | exact⟨by kernel_rfl,wR⟩) ?_;refine SimR.one hΓ _ rfl (by kernel_rfl) (by simp +decide [zWM,zU4,hsm,hk,hc];exact wR) ?_;refine SimR.many hΓ 11 (by simp[zF,zW];rfl) (by omega) (by kernel_rfl) (by simp +decide;first | exact wR | exact⟨by kernel_rfl,wR⟩) ?_;refine SimR.done rfl ?_;dsimp only;by_cases he:e=0
 · subst he
   have hnum:=hz rfl;subst hnum;rw[hfr]at hlook;simp only[Option.map_none]at hlook;refine Sim.seq (wS hΓ (by simp;exact wR) (Sim.cond (t:=true) (by simp) ?_) (by simp[hXl]));rw[if_pos rfl];refine Sim.draw hmix (by simp) ?_;refine SimR.many hΓ 6 (by simp[zF];rfl) (by omega) (by kernel_rfl) (by simp +decide [zWM,zVT,hXl];first | exact wR | exact⟨by kernel_rfl,wR⟩) ?_;refine SimR.one hΓ _ rfl (by kernel_rfl) (by simp +decide [hlook];exact wR) ?_;refine SimR.done rfl ?_;dsimp only;refine wE hΓ (by simp;exact wT) ?_ (by simp[hXl]);refine ⟨.inr rfl,by simp[Tryz.f89],?_⟩;simp
 · have he':(e==0)=false:=by simpa using he
   refine wS hΓ (by simp +decide [he'];exact wR) ?_ (by simp[hXl]);refine wE hΓ (by simp;exact wT) ?_ (by simp[hXl]);refine ⟨.inr rfl,by simp[Tryz.f89],?_⟩;simp[he]
theorem zKA(n t:Nat):(0::1::2::(List.range (n+1)).map fun i=>if i<n then i+3 else n+3+t)=List.range (n+3)++[n+3+t]:=by
 refine List.ext_getElem? fun i=>?_;rcases s2Z i (n+3) with h | h
 · rw[q4Z (by simpa using h),rfZ h]
   match i,h with
   | 0,_=>rfl
   | 1,_=>rfl
   | 2,_=>rfl
   | i+3,h =>
     simp only[r9Z];rw[qzZ,rfZ (by omega),rhZ,if_pos (by omega)]
 · obtain⟨j,rfl⟩:∃j,i=n+3+j:=⟨i-(n+3),by omega⟩
   rw[zSZ,show n+3+j=n+j+1+1+1 by omega];simp only[r9Z];cases j with
   | zero=>simp
   | succ j=>simp
theorem zRN(d:DS)(fd:FD)(n:Int)(T:zA)(f:PF)(v:AV)(hv:zBl v=true) :
   Weak (d.fs.length+3) [v] (zIe d fd n T (.obj true f.blks)) [v] ((⟨fd,d.fs++[(n,f)],d.quota,d.steps,d.armed,d.down⟩:DS).heap []):=by
 obtain⟨N,hN⟩:∃N,d.fs.length=N:=⟨_,rfl⟩
 have hX:=behind d.fs;rw[hN]at hX;have hat:DAt (zIe d fd n T (.obj true f.blks)) ⟨fd,d.fs++[(n,f)],d.quota,d.steps,d.armed,d.down⟩ 0 1 2 (fun i=>if i<N then i+3 else N+3+T.length):=by
   unfold zIe;refine ⟨rfl,rfl,?_,fun i e he=>?_,?_⟩
   · simp only[r9Z,raZ]
     rw[zLJ,zBX 0 d.fs (fun i _ hi=>if_pos (by omega))];simp[hN]
   · dsimp only at he ⊢
     by_cases hi:i<N
     · rw[if_pos hi]
       simp only[r9Z];rw[q4Z (by omega)]at he;rw[q4Z (by rw[hX.len];exact hi),Z6 he]
     · rw[if_neg hi]
       have hie:i=N:=by
         have:=(q1Z.1 he).1;simp at this;omega
       subst hie;rw[q5Z (by omega),hN,Nat.sub_self]at he;simp at he;subst he;rw[show i+3+T.length=i+T.length+1+1+1 by omega];simp only[r9Z];rw[hX.get,q5Z (qnZ _),Nat.sub_self];rfl
   · dsimp only
     rw[qdZ,hN];simp only[q7Z,q8Z,s8Z];rw[zKA,List.nodup_append];exact⟨List.nodup_range,by simp,fun a ha b hb=>by have:=List.mem_range.1 ha;simp at hb;omega⟩
 have:=hat.weak (F:=[v]) (Fn:=[v]) (n:=N+3) (by
   dsimp only;rw[qdZ,hN];simp only[q7Z,q8Z,s8Z];rw[zKA,List.take_left' (by simp)]) ⟨zBc _ hv,trivial⟩
 rw[hN,DS.heap_eq,r2Z];exact this
theorem zHC(d:DS)(T:zA)(v:AV)(hv:zBl v=true):Weak (d.fs.length+3) [v] (d.heap T) [v] (d.heap []) :=
 DS.tail d [] (by decide) ⟨zBc _ hv,trivial⟩ rfl fun i t x y h=>by simp at h
theorem zPS(d:DS){A B:Nat}(hok:d.ok A B)(hA:A<=999999)(k:List UInt8)(hk:k.length<=9223372036854775807) :
   Ct Pz 21 [.ptr 0 0,.str k] (d.heap []) (.int .i64 (d.create k).2) ((d.create k).1.heap []):=by
 have hc:=DS.ok_count hok;have hl1:(d.heap [ZU,zAn k]).length=d.fs.length+5:=by rw[DS.heap_length];simp
 obtain⟨H1,hH1⟩:∃H1:zA,H1=(if d.count.down=true then d.count.heap [ZU,zAn k] else if (d.count.fd.create k).2.2=0 then zIe d.count (d.count.fd.create k).1 (d.count.fd.create k).2.1 [ZU,zAn k] (.obj true (⟨[],[]⟩:PF).blks) else (⟨(d.count.fd.create k).1,d.count.fs,d.count.quota,d.count.steps,d.count.armed,d.count.down⟩:DS).heap [ZU,zAn k]):=⟨_,rfl⟩
 have hl2:(d.heap [ZU,zAn k]).length<=H1.length:=by
   rw[hH1,hl1];split
   · simp[DS.heap_length]
   split
   · simp[zIe]
   · simp[DS.heap_length]
 have hst:=zSH d [ZU,zAn k] 89 [.ptr (d.fs.length+3) 0,.ptr (d.fs.length+4) 0] (v:=.int .i64 (d.create k).2) (H':=H1) (zD Tryz.func89 rfl (by decide)) (by decide)
   ⟨hok.s0,by have:=hok.s1;omega⟩ ⟨hok.a0,hok.a1⟩ hl2 (fun hd=>?_) (fun hd=>?_)
 rotate_left
 · refine ⟨by unfold DS.create DS.step;rw[if_pos hd],by rw[hH1,if_pos hd];rfl⟩
 · have:=zQb d.count hc (by omega) k hk
   rw[DS.count_fs]at this;have hd':¬d.count.down=true:=by rw[hd];decide
   have e:(d.create k).2=(d.count.fd.create k).2.2:=by
     unfold DS.create DS.step;rw[if_neg hd'];dsimp only;split
     · rename_i h;rw[h]
     · rfl
   rw[e,hH1,if_neg hd'];rw[DS.count_fs];exact this
 have hΓ:GOk Pz (zZ [(88,zB7 [.ptr 0 0,.func 89 [] [.ptr (d.fs.length+3) 0,.ptr (d.fs.length+4) 0]] (d.heap [ZU,zAn k]) (.int .i64 (d.create k).2) H1)]) :=
   zB (ZA (zD Tryz.func88 rfl (by decide)) hst hl2) zC
 have hfin:Weak (d.fs.length+3) [.int .i64 (d.create k).2] H1 [.int .i64 (d.create k).2] ((d.create k).1.heap []):=by
   rw[hH1];unfold DS.create DS.step;by_cases hd:d.count.down=true
   · rw[if_pos hd,if_pos hd]
     have:=zHC d.count [ZU,zAn k] (.int .i64 13) rfl;rw[DS.count_fs]at this;exact this
   · rw[if_neg hd,if_neg hd]
     by_cases he:(d.count.fd.create k).2.2=0
     · simp only[if_pos he]
       have:=zRN d.count (d.count.fd.create k).1 (d.count.fd.create k).2.1 [ZU,zAn k] ⟨[],[]⟩ (.int .i64 0) rfl;rw[DS.count_fs]at this ⊢;exact this
     · simp only[if_neg he]
       have:=zHC (⟨(d.count.fd.create k).1,d.count.fs,d.count.quota,d.count.steps,d.count.armed,d.count.down⟩:DS) [ZU,zAn k] (.int .i64 (d.count.fd.create k).2.2) rfl;dsimp only at this;rw[DS.count_fs]at this ⊢;exact this
 refine zE Tryz.func21 rfl ?_;simp only[Tryz.ntmps21,q7Z,q8Z,Nat.reduceAdd,Nat.reduceSub,qbZ,q9Z,qaZ];rw[DS.heap_length];simp only[q8Z,Nat.add_zero];have hX:=behind d.fs;obtain⟨n,hn⟩:∃n,d.fs.length=n:=⟨_,rfl⟩
 rw[hn]at hX hΓ hfin ⊢;have hXl:=hX.len;have hXg:=hX.get;have hXg0:=hX.get0;generalize (d.create k).2=e at hΓ hfin ⊢;generalize (d.create k).1.heap []=HF at hfin ⊢;clear hst hl1 hH1;unfold DS.heap DS.cell0 ZU zAn at hΓ;unfold DS.heap DS.cell0;obtain⟨X,eX⟩:∃X,zT d.fs=X:=⟨_,rfl⟩
 rw[eX]at hXl hXg hXg0 hΓ ⊢;refine wS hΓ (by simp;exact wR) ?_ (by simp[hXl]);refine wE hΓ (by simp[hXl];exact wT) ?_ (by simp[hXl]);exact⟨.inr rfl,_,by simp[Tryz.f21] <;> rfl,hfin⟩
theorem zRm(d:DS){A B:Nat}(hok:d.ok A B)(hA:A<=999999)(T T2:zA)(F:FuncId)(caps:List AV)(g:DS->DS×Int)(he:∀cargs w,(callFunc F cargs).run Pz w=.ok (.enter F cargs) w)(hF:F≠yl)
   (hfs:(g d.count).1.fs.length=d.fs.length) (hT:T.length<=T2.length) (hcl:d.count.down=false->Ct Pz F caps (d.count.heap T) (.int .i64 (g d.count).2) ((g d.count).1.heap T2)) :
   ∃H1,Ct Pz 88 [.ptr 0 0,.func F [] caps] (d.heap T) (.int .i64 (d.step g).2) H1/\(d.heap T).length<=H1.length/\(∃T3,H1=(d.step g).1.heap T3/\T.length<=T3.length)/\(d.step g).1.fs.length=d.fs.length /\
     Sound Pz 88 (zB7 [.ptr 0 0,.func F [] caps] (d.heap T) (.int .i64 (d.step g).2) H1):=by
 have e:(d.step g).1.fs.length=d.fs.length:=by
   unfold DS.step;split
   · rw[DS.count_fs]
   · exact hfs
 obtain⟨T3,hT3⟩:∃T3,T3=(if d.count.down=true then T else T2):=⟨_,rfl⟩
 have hl3:T.length<=T3.length:=by rw[hT3];split <;> omega
 have hl:(d.heap T).length<=((d.step g).1.heap T3).length:=by rw[DS.heap_length,DS.heap_length,e];omega
 have hct:Ct Pz 88 [.ptr 0 0,.func F [] caps] (d.heap T) (.int .i64 (d.step g).2) ((d.step g).1.heap T3):=by
   refine zSH d T F caps he hF ⟨hok.s0,by have:=hok.s1;omega⟩ ⟨hok.a0,hok.a1⟩ hl (fun hd=>?_) fun hd=>?_
   · unfold DS.step
     rw[if_pos hd,hT3,if_pos hd];exact⟨rfl,rfl⟩
   · have:=hcl hd
     unfold DS.step;rw[if_neg (by rw[hd];decide),hT3,if_neg (by rw[hd];decide)];exact this
 exact⟨_,hct,hl,⟨T3,rfl,hl3⟩,e,ZA (zD Tryz.func88 rfl (by decide)) hct hl⟩
theorem zKL{d e:DS}(T:zA)(v:AV)(hv:zBl v=true)(h:e.fs.length=d.fs.length):Weak (d.fs.length+3) [v] (e.heap T) [v] (e.heap []):=by
 rw[<-h];exact zHC e T v hv
def DS.fdTo(d:DS)(f:FD):DS:=⟨f,d.fs,d.quota,d.steps,d.armed,d.down⟩
noncomputable def zYb:Gam:=zZ [(117,zJX)]
theorem zU3:GOk Pz zYb:=zB zHU zC
theorem zOX(d:DS)(hk:d.fd.acts.length<=1000000):Ct Pz 219 [.ptr (d.fs.length+3) 0] (d.heap [ZU]) (.int .i64 0) ((d.fdTo (d.fd.survive d.fd.acts.length)).heap [ZU]):=by
 have hΓ:=zU3;obtain⟨n,hn⟩:∃n,d.fs.length=n:=⟨_,rfl⟩
 have hX:=behind d.fs;rw[hn]at hX;refine zL Tryz.func219 rfl ?_;simp only[Tryz.ntmps219,q7Z,q8Z,Nat.reduceAdd,Nat.reduceSub,qbZ,q9Z,qaZ];have hXl:=hX.len;have hXg:=hX.get;have hXg0:=hX.get0;unfold DS.heap DS.cell0 ZU DS.fdTo;rw[hn];obtain⟨X,eX⟩:∃X,zT d.fs=X:=⟨_,rfl⟩
 rw[eX]at hXl hXg hXg0 ⊢;refine wS hΓ (by simp;exact wR) ?_ (by simp[hXl]);refine wS hΓ (by simp[zYb,zJX,hk,hXl];exact wR) ?_ (by simp[hXl]);refine wE hΓ (by simp;exact wT) ?_ (by simp[hXl]);exact⟨.inr rfl,by simp[Tryz.f219],rfl⟩
theorem zND(d:DS){A B:Nat}(hok:d.ok A B)(hA:A<=999999):Ct Pz 131 [.ptr 0 0] (d.heap []) (.int .i64 d.syncDir.2) (d.syncDir.1.heap []):=by
 have hc:=DS.ok_count hok;obtain⟨H1,hct,hl,⟨T3,hT3,_⟩,hfs,hsound⟩:=zRm d hok hA [ZU] [ZU] 219 [.ptr (d.fs.length+3) 0] (fun d=>(⟨d.fd.survive d.fd.acts.length,d.fs,d.quota,d.steps,d.armed,d.down⟩,0)) (zD Tryz.func219 rfl (by decide)) (by decide)
   (by dsimp only;rw[DS.count_fs]) (qnZ _) fun _=>by
     have:=zOX d.count (by have:=hc.fd.len;omega);rw[DS.count_fs]at this;exact this
 have hΓ:=zB hsound zC;have hfin:=zKL (d:=d) T3 (.int .i64 d.syncDir.2) rfl hfs;rw[<-hT3]at hfin;unfold DS.syncDir at hfin ⊢;refine zE Tryz.func131 rfl ?_;simp only[Tryz.ntmps131,q7Z,q8Z,Nat.reduceAdd,Nat.reduceSub,qbZ,q9Z,qaZ];rw[DS.heap_length];simp only[q8Z,Nat.add_zero];clear hct hT3;generalize DS.step d _=R at hΓ hfin ⊢;generalize R.1.heap []=HF at hfin ⊢;generalize R.2=e at hΓ hfin ⊢;have hX:=behind d.fs;obtain⟨n,hn⟩:∃n,d.fs.length=n:=⟨_,rfl⟩
 rw[hn]at hX hΓ hfin ⊢;have hXl:=hX.len;have hXg:=hX.get;have hXg0:=hX.get0;unfold DS.heap DS.cell0 ZU at hΓ;unfold DS.heap DS.cell0;obtain⟨X,eX⟩:∃X,zT d.fs=X:=⟨_,rfl⟩
 rw[eX]at hXl hXg hXg0 hΓ ⊢;refine wS hΓ (by simp;exact wR) ?_ (by simp[hXl]);refine wE hΓ (by simp[hXl];exact wT) ?_ (by simp[hXl]);exact⟨.inr rfl,_,by simp[Tryz.f131] <;> rfl,hfin⟩
theorem ZC(X:zA){n:Nat}(hl:X.length=n):Behind X n:=by
 refine ⟨hl,fun T j=>?_,fun T=>?_,fun T j v=>?_,fun T v=>?_⟩
 · rw[q5Z (by omega),hl];congr 1;omega
 · rw[q5Z (by omega),hl,Nat.sub_self]
 · rw[List.set_append_right _ _ (by omega),hl];congr 2;omega
 · rw[List.set_append_right _ _ (by omega),hl,Nat.sub_self]
def zFM(F:FuncId)(caps:List AV):ABlk:=.cells true [.func F [] caps]
def ofG(k:List UInt8)(g:DS->PF->PF×Int)(d:DS):DS×Int:=match d.fd.now.get k with
 | none=>(d,9)
 | some n=>match FS.get d.fs n with
   | none=>(d,1)
   | some f=>(⟨d.fd,FS.upd d.fs n fun _=>(g d f).1,d.quota,d.steps,d.armed,d.down⟩,(g d f).2)
theorem zRp(d:DS)(k:List UInt8)(g:DS->PF->PF×Int):d.of k g=d.step (ofG k g):=rfl
def DS.fileTo(d:DS)(n:Int)(f:PF):DS:=⟨d.fd,FS.upd d.fs n fun _=>f,d.quota,d.steps,d.armed,d.down⟩
theorem zY0(d:DS){A B:Nat}(hok:d.ok A B)(T0 T2:zA)(k:List UInt8)(F:FuncId)(caps:List AV)(g:DS->PF->PF×Int)(he:∀cargs w,(callFunc F cargs).run Pz w=.ok (.enter F cargs) w)(hF:F≠yl)(hF2:F≠76)
   (hT2:T0.length+3<=T2.length)
   (hcl:∀v f,d.fd.now.get k=some v->FS.get d.fs v=some f->Ct Pz F (.ptr (FS.at d.fs v+3) 0::caps) (d.heap (T0++[ZU,zAn k,zFM F caps])) (.int .i64 (g d f).2) ((d.fileTo v (g d f).1).heap T2)) :
   Ct Pz 190 [.ptr (d.fs.length+T0.length+3) 0,.ptr (d.fs.length+T0.length+4) 0,.ptr (d.fs.length+T0.length+5) 0] (d.heap (T0++[ZU,zAn k,zFM F caps])) (.int .i64 (ofG k g d).2) ((ofG k g d).1.heap (if (d.fd.now.get k).isSome then T2 else T0++[ZU,zAn k,zFM F caps])):=by
 obtain⟨n,hn⟩:∃n,d.fs.length+T0.length=n:=⟨_,rfl⟩
 have hX:=ZC (zT d.fs++T0) (n:=n) (by rw[qdZ,zl,hn]);have hlen:(d.heap (T0++[ZU,zAn k,zFM F caps])).length=n+6:=by rw[DS.heap_length,qdZ,<-hn];simp;omega
 refine zL Tryz.func190 rfl ?_;simp only[Tryz.ntmps190,q7Z,q8Z,Nat.reduceAdd,Nat.reduceSub,qbZ,q9Z,qaZ];rw[hlen,hn];have hXl:=hX.len;have hXg:=hX.get;have hXg0:=hX.get0;have hlook:∀v f,d.fd.now.get k=some v->FS.get d.fs v=some f->zAL (zf (fun i=>i+3) 0 d.fs) (.int .i64 v) 0=some (some (FS.at d.fs v,.ptr (FS.at d.fs v+3) 0)):=fun v f _ hf=>by
   have:=zBP (fun i=>i+3) v 0 d.fs 0;rw[hf]at this;simpa using this
 have hheap:d.heap (T0++[ZU,zAn k,zFM F caps])=.cells true [.ptr 1 0,.map 2,.int .i64 d.quota,.int .i64 d.steps,.int .i64 d.armed,.bool d.down]::.obj true d.fd.blks::.map (zf (fun i=>i+3) 0 d.fs)::(zT d.fs++T0++[.cells true [.ptr 0 0],.cells true [.str k],.cells true [.func F [] caps]]):=by
   unfold DS.heap DS.cell0;rw[qeZ];rfl
 cases hg:d.fd.now.get k with
 | none =>
   have hfind:d.fd.find k=(0,false):=by unfold FD.find;rw[hg]
   have e:ofG k g d=(d,9):=by unfold ofG;rw[hg]
   rw[e];simp only[Option.isSome_none,qsZ,if_false];have hΓ:GOk Pz (zZ [(76,zBI)]):=zB zAf zC;rw[hheap];obtain⟨X,eX⟩:∃X,zT d.fs++T0=X:=⟨_,rfl⟩
   rw[eX]at hXl hXg hXg0 ⊢;refine wS hΓ (by simp;exact wR) ?_ (by simp[hXl]);refine Sim.seq (Sim.draw hmix (by simp[hXl]) ?_);refine SimR.many hΓ 5 (by simp[zF];rfl) (by omega) (by kernel_rfl) (by simp +decide [hXl];first | exact wR | exact⟨by kernel_rfl,wR⟩) ?_;refine SimR.one hΓ _ rfl (by kernel_rfl) (by simp +decide [zBI,hfind];exact wR) ?_;refine SimR.many hΓ 11 (by simp[zF,zW];rfl) (by omega) (by kernel_rfl) (by simp +decide;first | exact wR | exact⟨by kernel_rfl,wR⟩) ?_;refine SimR.done rfl ?_;dsimp only;refine wE hΓ (by simp;exact wT) ?_ (by simp[hXl]);exact⟨.inr rfl,by simp[Tryz.f190],rfl⟩
 | some v =>
   have hfind:d.fd.find k=(v,true):=FD.find_get hg;obtain⟨f,hf,hfok⟩:=DS.has_file hok hg;have e:ofG k g d=(d.fileTo v (g d f).1,(g d f).2):=by unfold ofG;rw[hg];dsimp only;rw[hf];rfl
   rw[e];simp only[Option.isSome_some,if_true];have hl:=hlook v f hg hf;have hc:=hcl v f hg hf;have hle:(d.heap (T0++[ZU,zAn k,zFM F caps])).length<=((d.fileTo v (g d f).1).heap T2).length:=by
     rw[hlen,DS.heap_length];have:(d.fileTo v (g d f).1).fs.length=d.fs.length:=by
       have:=congrArg List.length (FS.keys_upd d.fs v fun _=>(g d f).1);simpa[FS.keys,DS.fileTo] using this
     rw[this];omega
   have hΓ:GOk Pz (zZ [(76,zBI),(F,zB7 (.ptr (FS.at d.fs v+3) 0::caps) (d.heap (T0++[ZU,zAn k,zFM F caps])) (.int .i64 (g d f).2) ((d.fileTo v (g d f).1).heap T2))]) :=
     zB zAf (zB (ZA he hc hle) zC (hg:=hF))
   have hF':¬F=1000000000:=hF;have hF2':¬F=76:=hF2;rw[hlen]at hle;generalize (g d f).2=r at hΓ ⊢;generalize (d.fileTo v (g d f).1).heap T2=HF at hΓ hle ⊢;generalize FS.at d.fs v=q at hΓ hl ⊢;rw[hheap]at hΓ ⊢;obtain⟨X,eX⟩:∃X,zT d.fs++T0=X:=⟨_,rfl⟩
   rw[eX]at hXl hXg hXg0 hΓ ⊢;refine wS hΓ (by simp;exact wR) ?_ (by simp[hXl]);refine Sim.seq (Sim.draw hmix (by simp[hXl]) ?_);refine SimR.many hΓ 5 (by simp[zF];rfl) (by omega) (by kernel_rfl) (by simp +decide [hXl];first | exact wR | exact⟨by kernel_rfl,wR⟩) ?_;refine SimR.one hΓ _ rfl (by kernel_rfl) (by simp +decide [zBI,hfind];exact wR) ?_;refine SimR.many hΓ 11 (by simp[zF,zW];rfl) (by omega) (by kernel_rfl) (by simp +decide;first | exact wR | exact⟨by kernel_rfl,wR⟩) ?_;refine SimR.done rfl ?_;dsimp only;refine wS hΓ (by simp;exact wR) ?_ (by simp[hXl]);refine Sim.seq (Sim.draw hmix (by simp[hXl]) ?_);refine SimR.many hΓ 7 (by simp[zF];rfl) (by omega) (by kernel_rfl) (by simp +decide [hl,hXl];first | exact wR | exact⟨by kernel_rfl,wR⟩) ?_;refine SimR.one hΓ _ rfl (by kernel_rfl) (by simp +decide [hF',hF2'];exact wR) ?_;refine SimR.many hΓ 9 (by simp[zF,zW];rfl) (by omega) (by kernel_rfl) (by simp +decide;first | exact wR | exact⟨by kernel_rfl,wR⟩) ?_;refine SimR.done rfl ?_;dsimp only;refine Sim.exec hmix hΓ (n:=0) (by simp;exact wT) hle ?_;exact⟨.inr rfl,by simp[Tryz.f190],rfl⟩
theorem zQ9(d:DS)(v:Int)(f:PF):(d.fileTo v f).fs.length=d.fs.length:=by
 have:=congrArg List.length (FS.keys_upd d.fs v fun _=>f);simpa[FS.keys,DS.fileTo] using this
theorem zSA(d:DS)(k:List UInt8)(g:DS->PF->PF×Int):(ofG k g d).1.fs.length=d.fs.length:=by
 unfold ofG;split
 · rfl
 split
 · rfl
 · exact zQ9 d _ _
theorem zQT(d:DS){A B:Nat}(hok:d.ok A B)(hA:A<=999999)(T0 T2:zA)(k:List UInt8)(F:FuncId)(caps:List AV)(g:DS->PF->PF×Int)(he:∀cargs w,(callFunc F cargs).run Pz w=.ok (.enter F cargs) w)(hF:F≠yl)(hF2:F≠76)
   (hT2:T0.length+3<=T2.length)
   (hcl:∀v f,d.fd.now.get k=some v->FS.get d.fs v=some f->Ct Pz F (.ptr (FS.at d.fs v+3) 0::caps) (d.count.heap (T0++[ZU,zAn k,zFM F caps])) (.int .i64 (g d.count f).2) ((d.count.fileTo v (g d.count f).1).heap T2)) :
   ∃H1,Ct Pz 94 [.ptr 0 0,.str k,.func F [] caps] (d.heap T0) (.int .i64 (d.of k g).2) H1/\(d.heap T0).length<=H1.length/\(∃T3,H1=(d.of k g).1.heap T3/\T0.length<=T3.length)/\(d.of k g).1.fs.length=d.fs.length:=by
 have hc:=DS.ok_count hok;obtain⟨H1,hct,hl,⟨T3,hT3,hl3⟩,hfs,hsound⟩:=zRm d hok hA (T0++[ZU,zAn k,zFM F caps]) (if (d.fd.now.get k).isSome then T2 else T0++[ZU,zAn k,zFM F caps]) 190 [.ptr (d.fs.length+T0.length+3) 0,.ptr (d.fs.length+T0.length+4) 0,.ptr (d.fs.length+T0.length+5) 0] (ofG k g) (zD Tryz.func190 rfl (by decide)) (by decide)
   (by rw[zSA,DS.count_fs]) (by split <;> simp <;> omega) fun _=>by
     have:=zY0 d.count hc T0 T2 k F caps g he hF hF2 hT2 (by rw[DS.count_fd,DS.count_fs];exact hcl);rw[DS.count_fs,DS.count_fd]at this;exact this
 have hΓ:=zB hsound zC;rw[zRp];refine ⟨H1,?_,by rw[DS.heap_length]at hl ⊢;simp at hl;omega,⟨T3,hT3,by simp at hl3;omega⟩,hfs⟩;obtain⟨n,hn⟩:∃n,d.fs.length+T0.length=n:=⟨_,rfl⟩
 have hX:=ZC (zT d.fs++T0) (n:=n) (by rw[qdZ,zl,hn]);have hlen:(d.heap T0).length=n+3:=by rw[DS.heap_length,<-hn]
 refine zL Tryz.func94 rfl ?_;simp only[Tryz.ntmps94,q7Z,q8Z,Nat.reduceAdd,Nat.reduceSub,qbZ,q9Z,qaZ];rw[hlen];have hXl:=hX.len;have hXg:=hX.get;have hXg0:=hX.get0;have hheap:d.heap (T0++[ZU,zAn k,zFM F caps])=.cells true [.ptr 1 0,.map 2,.int .i64 d.quota,.int .i64 d.steps,.int .i64 d.armed,.bool d.down]::.obj true d.fd.blks::.map (zf (fun i=>i+3) 0 d.fs)::(zT d.fs++T0++[.cells true [.ptr 0 0],.cells true [.str k],.cells true [.func F [] caps]]):=by
   unfold DS.heap DS.cell0;rw[qeZ];rfl
 have hle:n+3<=H1.length:=by rw[DS.heap_length]at hl;simp at hl;omega
 rw[hn,hheap]at hΓ;clear hct hT3 hl hheap;unfold DS.heap DS.cell0;generalize (DS.step d (ofG k g)).2=e at hΓ ⊢;obtain⟨X,eX⟩:∃X,zT d.fs++T0=X:=⟨_,rfl⟩
 rw[eX]at hXl hXg hXg0 hΓ ⊢;refine wS hΓ (by simp[hXl];exact wR) ?_ (by simp[hXl]);refine wS hΓ (by simp[hXl];exact wR) ?_ (by simp[hXl]);refine Sim.exec hmix hΓ (n:=0) (by simp;exact wT) hle ?_;exact⟨.inr rfl,by simp[Tryz.f94],rfl⟩
theorem zD5{d:DS}{v:Int}{f:PF}(g:PF)(hf:FS.get d.fs v=some f)(T:zA):(d.fileTo v g).heap T=d.cell0 1 2::.obj true d.fd.blks::.map (zf (fun i=>i+3) 0 d.fs)::(zT d.fs++T).set (FS.at d.fs v) (.obj true g.blks):=by
 unfold DS.heap DS.fileTo DS.cell0;dsimp only;rw[zEs,zJQ (fun _=>g) hf,List.set_append_left _ _ (by rw[zl];exact FS.at_lt hf)]
theorem zGo{d:DS}{v:Int}{f:PF}(hf:FS.get d.fs v=some f)(T:zA):(zT d.fs++T)[FS.at d.fs v]? = some (.obj true f.blks):=by
 rw[q4Z (by rw[zl];exact FS.at_lt hf)];exact Z6 (FS.at_get hf)
noncomputable def zYG:Gam:=zZ [(249,zQ0)]
theorem zUH:GOk Pz zYG:=zB zNC zC
theorem zUn(d:DS)(T:zA)(v:Int)(f:PF)(hf:FS.get d.fs v=some f):Ct Pz 248 [.ptr (FS.at d.fs v+3) 0] (d.heap T) (.int .i64 0) ((d.fileTo v ⟨f.now,[]⟩).heap T):=by
 have hΓ:=zUH;rw[zD5 _ hf];have hq:=zGo hf T;refine zL Tryz.func248 rfl ?_;simp only[Tryz.ntmps248,q7Z,q8Z,Nat.reduceAdd,Nat.reduceSub,qbZ,q9Z,qaZ];unfold DS.heap DS.cell0;obtain⟨X,eX⟩:∃X,zT d.fs++T=X:=⟨_,rfl⟩
 obtain⟨q,eq⟩:∃q,FS.at d.fs v=q:=⟨_,rfl⟩
 rw[eX]at hq ⊢;rw[eq]at hq ⊢;refine wS hΓ (by simp;exact wR) ?_;refine wE hΓ (by simp[zYG,zQ0,hq];exact wT) ?_;exact⟨.inr rfl,by simp[Tryz.f248],rfl⟩
theorem zWG(d:DS){A B:Nat}(hok:d.ok A B)(hA:A<=999999)(k:List UInt8):Ct Pz 164 [.ptr 0 0,.str k] (d.heap []) (.int .i64 (d.sync k).2) ((d.sync k).1.heap []):=by
 obtain⟨H1,hct,hl,⟨T3,hT3,_⟩,hfs⟩:=zQT d hok hA [] [ZU,zAn k,zFM 248 []] k 248 [] (fun _ f=>(⟨f.now,[]⟩,0)) (zD Tryz.func248 rfl (by decide)) (by decide) (by decide) (by simp) fun v f _ hf=>by
   have:=zUn d.count [ZU,zAn k,zFM 248 []] v f (by rw[DS.count_fs];exact hf);rw[DS.count_fs]at this;exact this
 have hΓ:=zB (ZA (zD Tryz.func94 rfl (by decide)) hct hl) zC;have hfin:=zKL (d:=d) T3 (.int .i64 (d.sync k).2) rfl hfs;unfold DS.sync at hfin ⊢;rw[<-hT3]at hfin;refine zE Tryz.func164 rfl ?_;simp only[Tryz.ntmps164,q7Z,q8Z,Nat.reduceAdd,Nat.reduceSub,qbZ,q9Z,qaZ];rw[DS.heap_length]at hl ⊢;simp only[q8Z,Nat.add_zero]at hl ⊢;clear hct hT3;generalize DS.of d k _=R at hΓ hfin ⊢;generalize R.1.heap []=HF at hfin ⊢;generalize R.2=e at hΓ hfin ⊢;have hX:(d.heap []).length=d.fs.length+3:=by rw[DS.heap_length];rfl
 generalize d.heap []=H0 at hΓ hX ⊢;refine wS hΓ (by simp;exact wR) ?_ (by omega);refine wE hΓ (by simp;exact wT) ?_ (by omega);exact⟨.inr rfl,_,by simp[Tryz.f164] <;> rfl,hfin⟩
end
section
open Go Go.Lib
def ndA:NM->List AV
 | []=>[]
 | e::l=>.str e.1::.int .i64 e.2::ndA l
@[simp] theorem ZB:∀l,(ndA l).length=l.length*2
 | []=>rfl
 | e::l=>by simp[ndA,ZB l];omega
theorem zB9:∀l m,ndA (l++m)=ndA l++ndA m
 | [],m=>rfl
 | e::l,m=>by simp[ndA,zB9 l m]
@[simp] theorem zAC:∀l,zV (ndA l)=true
 | []=>rfl
 | e::l=>by simp[ndA,zAC l]
@[simp] theorem zTL:∀l,zt (ndA l)=true
 | []=>rfl
 | e::l=>by have:=zTL l;simp only[zt]at this ⊢;simp[ndA,zAT,this]
@[simp] theorem zCD:∀l,(ndA l).all ZG=true
 | []=>rfl
 | e::l=>by have:=zCD l;simp only[ndA,List.all_cons,this,ZG,Bool.and_true]
@[simp] theorem zU5(k:Nat):∀l:NM,zA9 k (ndA l)=ndA l
 | []=>rfl
 | e::l=>by simp[ndA,zU5 k l,shA]
theorem zAt{l:NM}{n:Nat}(h:l.length=n):(ndA l).take (n*2)=ndA l:=q6Z (by simp[h])
theorem zEr:∀(l:NM) (k:Nat) (h:k<l.length),((ndA l).drop (k*2)).take 2=[.str l[k].1,.int .i64 l[k].2]
 | a::l,0,_=>by simp[ndA]
 | a::l,k+1,h=>by
   have:=zEr l k (by simpa using h);rw[show (k+1)*2=2+k*2 by omega];simp only[ndA,List.getElem_cons_succ];rw[<-List.drop_drop];simpa using this
theorem zDt(l:NM)(k:Nat)(h:k<l.length):(∀h',(ndA l)[k*2]'h'=.str l[k].1)/\(ndA l)[k*2]? = some (.str l[k].1):=by
 have e:(ndA l)[k*2]? = some (.str l[k].1):=by
   have:=zEr l k h;have h2:(((ndA l).drop (k*2)).take 2)[0]? = some (.str l[k].1):=by rw[this];rfl
   rw[r4Z,if_pos (by decide),r5Z,Nat.add_zero]at h2;exact h2
 exact⟨fun h'=>(q1Z.1 e).2,e⟩
theorem zSi(l:NM)(k:Nat)(h:k<l.length):(∀h',(ndA l)[k*2+1]'h'=.int .i64 l[k].2)/\(ndA l)[k*2+1]? = some (.int .i64 l[k].2):=by
 have e:(ndA l)[k*2+1]? = some (.int .i64 l[k].2):=by
   have:=zEr l k h;have h2:(((ndA l).drop (k*2)).take 2)[1]? = some (.int .i64 l[k].2):=by rw[this];rfl
   rw[r4Z,if_pos (by decide),r5Z]at h2;exact h2
 exact⟨fun h'=>(q1Z.1 e).2,e⟩
def ndOf:List AV->Option NM
 | []=>some []
 | .str k::.int .i64 n::l=>(ndOf l).map fun m=>(k,n)::m
 | _=>none
@[simp] theorem zJ2:∀l,ndOf (ndA l)=some l
 | []=>rfl
 | e::l=>by simp[ndA,ndOf,zJ2 l]
theorem zR4:∀{l:List AV} {m:NM},ndOf l=some m->l=ndA m:=by
 intro l;induction l using ndOf.induct with
 | case1=>intro m h;cases h;rfl
 | case2 k n l ih =>
   intro m h;simp only[ndOf,qlZ]at h;obtain⟨m',h1,rfl⟩:=h;rw[ih h1];rfl
 | case3 l h1 h2 =>
   intro m h;unfold ndOf at h;split at h <;> simp_all
theorem zWy{l m:NM}(h:ndA l=ndA m):l=m:=by
 have:=zJ2 l;rw[h,zJ2]at this;exact (Option.some.inj this).symm
def zIT(H:zA):AV->Option NM
 | .nils=>some []
 | .slice b off len 2 _=>match H[b]? with
   | some (.cells _ l)=>if off+len*2<=l.length then ndOf ((l.drop off).take (len*2)) else none
   | _=>none
 | .sl b off len 2 _=>match H[b]? with
   | some (.cells _ l)=>if off+len*2<=l.length then ndOf ((l.drop off).take (len*2)) else none
   | _=>none
 | _=>none
theorem zKs{H:zA}{x:AV}{a:NM}(h:zIT H x=some a):∃b off,(∀(i:Nat) (wd:List (Nat×Nat)),wd[i]? = some (b,off)->zC3 wd (.sl i 0 a.length 2 false) x) /\
   (match H[b]? with | some (.cells _ l)=>off+(ndA a).length<=l.length/\ndA a=(l.drop off).take (ndA a).length | none=>True | _=>False):=by
 have key:∀(b off len:Nat) (o:Bool) (l:List AV),H[b]? = some (.cells o l)->off+len*2<=l.length->ndOf ((l.drop off).take (len*2))=some a->len=a.length/\off+(ndA a).length<=l.length/\ndA a=(l.drop off).take (ndA a).length:=by
   intro b off len o l hb hle hs;have e:=zR4 hs;have hlen:len=a.length:=by
     have:=congrArg List.length e;simp at this;omega
   subst hlen;exact⟨rfl,by simpa using hle,by rw[ZB];exact e.symm⟩
 unfold zIT at h;split at h
 · cases h
   exact⟨H.length,0,fun i wd _=>by simp[zC3],by simp⟩
 · rename_i b off len c
   split at h;rotate_left
   · cases h
   rename_i o l hb;split at h;rotate_left
   · cases h
   rename_i hle;obtain⟨rfl,h1,h2⟩:=key b off len o l hb hle h;exact⟨b,off,fun i wd hw=>by simp[zC3,hw],by rw[hb];exact⟨h1,h2⟩⟩
 · rename_i b off len c
   split at h;rotate_left
   · cases h
   rename_i o l hb;split at h;rotate_left
   · cases h
   rename_i hle;obtain⟨rfl,h1,h2⟩:=key b off len o l hb hle h;exact⟨b,off,fun i wd hw=>by simp[zC3,hw],by rw[hb];exact⟨h1,h2⟩⟩
 · cases h
def zAl(g:Nat->Nat):Nat->List NM->List AV
 | _,[]=>[]
 | k,W::l=>.sl (g k) 0 W.length 2 false::zAl g (k+1) l
@[simp] theorem zBW(g:Nat->Nat):∀(k:Nat) (l:List NM),(zAl g k l).length=l.length
 | _,[]=>rfl
 | k,W::l=>by simp[zAl,zBW g (k+1) l]
theorem zHd(g:Nat->Nat):∀(l m:List NM) (k:Nat),zAl g k (l++m)=zAl g k l++zAl g (k+l.length) m
 | [],m,k=>rfl
 | W::l,m,k=>by
   simp only[q9Z,zAl,zHd g l m (k+1),q7Z];rw[show k+1+l.length=k+(l.length+1) by omega]
theorem zDc(g:Nat->Nat):∀(l:List NM) (k i:Nat) (W:NM),l[i]? = some W->(zAl g k l)[i]? = some (.sl (g (k+i)) 0 W.length 2 false)
 | V::l,k,0,W,h=>by cases h;rfl
 | V::l,k,i+1,W,h=>by
   have:=zDc g l (k+1) i W (by simpa using h);simp only[zAl,r9Z,this];rw[show k+1+i=k+(i+1) by omega]
theorem zIU{g g':Nat->Nat}:∀(l:List NM) (k:Nat),(∀i,k<=i->i<k+l.length->g i=g' i)->zAl g k l=zAl g' k l
 | [],_,_=>rfl
 | W::l,k,h=>by
   simp only[zAl];rw[h k (qnZ _) (by simp),zIU l (k+1) fun i h1 h2=>h i (by omega) (by simp;omega)]
theorem zIg(rn:List Nat)(g g':Nat->Nat):∀(l:List NM) (k:Nat),(∀i,k<=i->i<k+l.length->rn[g i]? = some (g' i))->AWs rn (zAl g k l) (zAl g' k l)
 | [],_,_=>trivial
 | W::l,k,h=>⟨by simp[AW,h k (qnZ _) (by simp)],zIg rn g g' l (k+1) fun i h1 h2=>h i (by omega) (by simp;omega)⟩
theorem zBZ(g:Nat->Nat):∀(l:List NM) (k:Nat),(zAl g k l).all ZG=true
 | [],_=>rfl
 | W::l,k=>by have:=zBZ g l (k+1);simp only[zAl,List.all_cons,this,ZG,Bool.and_true]
def ZX(l:List NM):zA:=l.map fun W=>.cells true (ndA W)
@[simp] theorem zAB(l:List NM):(ZX l).length=l.length:=by simp[ZX]
theorem Zp{l:List NM}{i:Nat}{W:NM}(h:l[i]? = some W):(ZX l)[i]? = some (.cells true (ndA W)):=by simp[ZX,h]
def RF.cell0(r:RF)(m:Nat):ABlk:=.cells true [.sl m 0 r.was.length 1 false,.int .i64 r.last]
def RF.blks(r:RF):zA:=r.cell0 1::.cells true (zAl (fun i=>i+2) 0 r.was)::ZX r.was
theorem RF.blks_length(r:RF):r.blks.length=r.was.length+2:=by simp[RF.blks]
theorem RF.blks_id(r:RF)(rn:List Nat)(hr:∀i,i<r.blks.length->rn[i]? = some i):∀B∈r.blks,AWb rn B B:=by
 rw[RF.blks_length]at hr;intro B hB;simp only[RF.blks,RF.cell0,qwZ]at hB;rcases hB with rfl | rfl | hB
 · exact⟨id,by simp[AWs,AW,hr 1 (by omega)]⟩
 · exact⟨id,zIg _ _ _ _ _ fun i _ hi=>hr (i+2) (by omega)⟩
 · obtain⟨W,_,rfl⟩:=reZ.1 hB
   exact⟨id,AWs.refl _ _ (zAC W)⟩
structure FAt (H:zA) (r:RF) (x:AV) (b m:Nat) (g:Nat->Nat):Prop where
 c0:H[b]? = some (.cells true [x,.int .i64 r.last])
 hx:x=.sl m 0 r.was.length 1 false\/∃c,x=.slice m 0 r.was.length 1 c
 row:H[m]? = some (.cells true (zAl g 0 r.was))
 each:∀(i:Nat) W,r.was[i]? = some W->H[g i]? = some (.cells true (ndA W))
 nd:(b::m::(List.range r.was.length).map g).Nodup
theorem FAt.awg{H:zA}{r:RF}{x:AV}{b m:Nat}{g:Nat->Nat}(h:FAt H r x b m g)(rn:List Nat)(hr:∀i,i<r.was.length+2->rn[i]? = (b::m::(List.range r.was.length).map g)[i]?) :
   AWg rn H r.blks (b::m::(List.range r.was.length).map g):=by
 refine AWg.of _ _ (by simp[RF.blks]) fun i x c hx hc hlt=>?_;have hil:i<r.was.length+2:=by rw[<-RF.blks_length];exact (q1Z.1 hx).1
 rw[q2Z]
 match i,hx,hc with
 | 0,hx,hc =>
   cases hx;cases hc
   rw[h.c0];have h1:=hr 1 (by omega);simp only[r9Z,raZ]at h1;rcases h.hx with e | ⟨c,e⟩ <;> rw[e] <;> exact⟨id,by simp[AWs,AW,h1]⟩
 | 1,hx,hc =>
   cases hx;cases hc
   rw[h.row];refine ⟨id,zIg _ _ _ _ _ fun i _ hi=>?_⟩;rw[hr (i+2) (by omega)];simp only[r9Z,qzZ];rw[rfZ (by omega)];rfl
 | i+2,hx,hc =>
   simp only[RF.blks,r9Z]at hx hc;rw[qzZ]at hc;have hi:i<r.was.length:=by omega
   rw[rfZ hi]at hc;cases hc;have hw:=q3Z hi;rw[Zp hw]at hx;cases hx;rw[h.each i _ hw];exact⟨id,AWs.refl _ _ (zAC _)⟩
theorem Aft.closeRF(r:RF){n0:Nat}(h01:n0<=1){T Tn:zA}{v v':AV}(ts:List Nat)(hts:ts.Nodup)(hlen:Tn.length=ts.length)(hF:AW (0::ts.map (r.was.length+2+·)) v' v)
   (hT:∀(i t:Nat) x,ts[i]? = some t->Tn[i]? = some x->∃y,T[t]? = some y/\AWb (0::ts.map (r.was.length+2+·)) x y):Aft n0 [v] (r.blks++T) fun F H=>F=[v']/\H=.obj true r.blks::Tn:=by
 have hl:=r.blks_length;have hr:∀i,i<r.blks.length->(List.range r.blks.length)[i]? = some i:=fun i hi=>rfZ hi;refine Aft.close (o:=true) (b:=0) (sub:=r.blks) (rs:=List.range r.blks.length) (ks:=List.range' 1 (r.was.length+1)) (hr 0 (by omega)) List.nodup_range (by simp;omega) ?_ ?_ ⟨r.cell0 1,rfl,rfl⟩ ?_ (by simp;omega) ?_
 · intro c x hc h0 _ _
   have:=List.mem_range.1 hc;rw[List.mem_range'_1];omega
 · refine AWg.of _ _ (by simp) fun i x b hx hb hlt=>?_
   have hi:i<r.blks.length:=(q1Z.1 hx).1;rw[hr i hi]at hb;cases hb
   rw[q2Z,q4Z hi,hx];exact r.blks_id _ hr x (qcZ hx)
 · intro i y hy hd
   have hm:=qcZ hy;simp only[RF.blks,RF.cell0,qwZ]at hm;rcases hm with rfl | rfl | hm
   · rfl
   · rfl
   · obtain⟨e,_,rfl⟩:=reZ.1 hm
     rfl
 · refine Aft.weak (Fn:=[v']) (Hn:=.obj true r.blks::Tn) (Weak.mk' (0::ts.map (r.was.length+2+·)) ?_ ?_ ⟨hF,trivial⟩ (zM (b:=0) (by simp;omega) _ _ (by simp[hlen]) fun i c x h1 h2=>?_)) (by simp;omega) (Aft.done (by simp;omega) ⟨rfl,rfl⟩)
   · rw[rdZ]
     refine ⟨fun h=>?_,?_⟩
     · obtain⟨a,_,h⟩:=reZ.1 h;omega
     · rw[List.nodup_iff_pairwise_ne,List.pairwise_map]
       exact (List.nodup_iff_pairwise_ne.1 hts).imp fun h e=>h (by omega)
   · obtain rfl | rfl:n0=0\/n0=1:=by omega
     · rfl
     · rfl
   · cases i with
     | zero =>
       cases h1;cases h2;exact .inl ⟨rfl,rfl⟩
     | succ i =>
       simp only[r9Z,qzZ]at h1 h2;obtain⟨t,ht,rfl⟩:=qlZ.1 h1;obtain⟨y,hy,hw⟩:=hT i t x ht h2;refine .inr ⟨⟨by omega,by rw[List.mem_range'_1];omega⟩,?_⟩;rw[q2Z,q5Z (by omega),hl,s3Z,hy];exact hw
theorem zYa{P:Program}{f:FuncId}{xs:List AV}{v:AV}{r r':RF}(h:Ct P f xs r.blks v r'.blks)(hv:zBl v=true):Ct P f xs [.obj true r.blks] v [.obj true r'.blks] :=
 zB3 h (by rw[RF.blks_length];omega) (by
   have:=Aft.closeRF r' (qnZ 1) (T:=[]) (Tn:=[]) (v:=v) (v':=v) [] List.nodup_nil rfl (zBc v hv) (fun i t x h=>by simp at h)
   rwa [r2Z]at this)
noncomputable def zJa(sub:zA):Option RF:=open Classical in if h:∃r:RF,sub=r.blks then some h.choose else none
theorem zDJ{sub:zA}{r:RF}(h:zJa sub=some r):sub=r.blks:=by
 unfold zJa at h;split at h
 · rename_i hx
   cases h;exact hx.choose_spec
 · cases h
theorem zIm:∀{l m:List NM},ZX l=ZX m->l=m
 | [],[],_=>rfl
 | [],_::_,h=>by simp[ZX]at h
 | _::_,[],h=>by simp[ZX]at h
 | a::l,b::m,h=>by
   simp only[ZX,s1Z,List.cons.injEq,ABlk.cells.injEq,true_and]at h;rw[zWy h.1,zIm (l:=l) (m:=m) h.2]
theorem zIS{r s:RF}(h:r.blks=s.blks):r=s:=by
 obtain⟨w,n⟩:=r;obtain⟨w',n'⟩:=s;simp only[RF.blks,RF.cell0,List.cons.injEq,ABlk.cells.injEq,AV.int.injEq,true_and,and_true]at h;obtain⟨⟨_,h1⟩,_,h2⟩:=h;rw[h1,zIm h2]
@[simp] theorem zZi(r:RF):zJa r.blks=some r:=by
 unfold zJa;have h:∃s:RF,r.blks=s.blks:=⟨r,rfl⟩
 rw[dif_pos h];exact congrArg some (zIS h.choose_spec).symm
end
end Go.Proofs.YtfhidaoiofeooaaGreatDoor
