/- Parts of the proof of ReplayMends: lemmas, each with its own conditions. -/
import Derived.Test.YtpmfecnajoojeaaGreatDoorY15
set_option maxHeartbeats 64000000
open List renaming getElem?_eq_some_iff → q1Z, getElem?_append_left → q4Z, length_cons → q7Z, length_nil → q8Z, cons_append → q9Z, nil_append → qaZ, replicate → qbZ, getElem?_cons_succ → r9Z, getElem?_cons_zero → raZ, set_cons_zero → s9Z, set_cons_succ → saZ
open Bool renaming and_eq_true → qrZ
open Option renaming map_some → rhZ
open Nat renaming zero_add → s8Z
namespace Go.Proofs.YtpmfecnajoojeaaGreatDoor
open _root_.Go.Proofs.Tryz renaming prog → Pz
set_option maxRecDepth 100000
section
open Go Go.Lib
attribute [-simp] zJ zY zn zL zl
def hqT(P:Program)(Γ:Gam)(V:Array Oper):List Oper->List AV->zA->List QF->Option (List QF×List AV×zA)
 | [],F,H,fs=>some (fs,F,H)
 | o::rest,F,H,fs =>
   match zAq P Γ V F H o with
   | none=>none
   | some q=>hqT P Γ V rest (Zi F o.dst q.v) q.H (fs++[q.fl])
theorem zQg(P:Program)(Γ:Gam)(V:Array Oper)(k:List AV->zA->List QF->Option (List AV×zA)):∀(l:List Oper) (F:List AV) (H:zA) (fs fs':List QF) (F1:List AV) (H1:zA),hqT P Γ V l F H fs=some (fs',F1,H1)->hrun P Γ V k l F H fs=k F1 H1 fs'
 | [],F,H,fs,fs',F1,H1,h=>by cases h;rfl
 | o::rest,F,H,fs,fs',F1,H1,h=>by
   unfold hqT at h;unfold hrun
   cases hq:zAq P Γ V F H o with
   | none=>rw[hq]at h;cases h
   | some q=>rw[hq]at h;exact zQg P Γ V k rest _ _ _ _ _ _ h
noncomputable def hqO:Program->Gam->Array Oper->List Oper->List AV->zA->List QF->Option (List QF×List AV×zA):=Classical.choose (⟨hqT,rfl⟩:∃f,f=hqT)
theorem zOL:hqO=hqT:=Classical.choose_spec (⟨hqT,rfl⟩:∃f,f=hqT)
@[simp] theorem zYG(P:Program)(Γ:Gam)(V:Array Oper)(F:List AV)(H:zA)(fs:List QF):hqO P Γ V [] F H fs=some (fs,F,H):=by rw[zOL];rfl
@[simp] theorem zXn(P:Program)(Γ:Gam)(V:Array Oper)(o:Oper)(rest:List Oper)(F:List AV)(H:zA)(fs:List QF):hqO P Γ V (o::rest) F H fs =
   match zAq P Γ V F H o with
   | none=>none
   | some q=>hqO P Γ V rest (Zi F o.dst q.v) q.H (fs++[q.fl]):=by
 rw[zOL];rfl
theorem SimR.hard{P:Program}{Γ:Gam}(hΓ:GOk P Γ){r:Option Nat}{n0 c:Nat}(h p:Nat){ops:Array Oper}{F F1 F2:List AV}{H H1 H':zA}{fs:List QF}{v:AV}{Q:AX->List AV->zA->Prop}(o:Oper)(ho:ops[h]? = some o){A:Array Oper}(hA:zI ops c h=A)(hch:c<=h)
   (hb:(zGV ops.toList&&zO1 ops.toList (zAK ops.toList) (h+1))=true) (hp:(zAK ops.toList).getD h 0=p) (hq:hqO P Γ A A.toList F H []=some (fs,F1,H1))
   (hchk:((ops.toList.take h).all (fun o=>match o.guard with | some (j,_)=>Nat.blt j h | none=>true)&&(fs.all (fun q=>q.st.isNone)&&zFT A fs))=true)
   (hF2:zDq A p (List.range h) F1=F2) (hrun:zAW ops o F2=some true/\opA P Γ F2 H1 o.op=some (v,H')) (hok:zIb A p o.dst fs H1 H' h=true) (k:SimR P r n0 ops (h+1) (Zi F1 o.dst v) H' Q):SimR P r n0 ops c F H Q:=by
 intro B jb Hb wb j w a m hB hs hF hd;rw[qrZ]at hb;subst hA;rw[zOL]at hq
 have hrn:zFQ P Γ ops c h F H=some (Zi F1 o.dst v,H'):=by
   unfold zFQ;rw[ho];dsimp only;rw[ZV,hp,zQg _ _ _ _ _ _ _ _ _ _ _ hq];refine (if_pos hchk).trans ?_;rw[hF2,hrun.1];dsimp only;rw[hrun.2];dsimp only;rw[if_pos hok]
 exact zQZ hΓ hch (zHc hb.2) hrn hs.rel hF rfl r m (fun j1 a1 w1 h1 h2 h3 =>
   k B jb Hb wb j1 w1 a1 m hB (hs.trans h3 hs.len) h1 (by rw[h2];exact hd.step hs.rel h3)) (fun k o e hk ho hee hbe=>by have:=zCr hb.1 k o e ho hee hbe;omega) (fun k o e ho hee hbe=>zCr hb.1 k o e ho hee hbe)
theorem zRe(f:FD)(k:List UInt8)(hok:f.small)(hkl:k.length<=9223372036854775807) :
   Ct Pz 103 [.ptr 0 0,.str k] [.obj true f.blks] (.tuple [.int .i64 (f.create k).2.1,.int .i64 (f.create k).2.2]) [.obj true (f.create k).1.blks]:=by
 have hΓ:=zVW;have hlo:=hok.lo;have hhi:=hok.hi
 have hal:f.acts.length<=1000000:=by have:=hok.len;omega
 refine zK Tryz.func103 rfl ?_;simp only[Tryz.ntmps103,q7Z,q8Z,Nat.reduceAdd,Nat.reduceSub,qbZ,q9Z,qaZ]
 refine Sim.step hmix hΓ (n:=0) (by simp;exact⟨rfl,rfl⟩) (by simp) ?_
 refine Sim.step hmix hΓ (n:=0) (by simp;exact⟨rfl,rfl⟩) (by simp) ?_
 by_cases hm:zJg k;rotate_left
 · have hc:f.create k=(f,0,2):=by unfold FD.create;rw[if_neg hm]
   rw[hc];by_cases h0:k=[]
   · subst h0
     refine Sim.exec hmix hΓ (n:=0) (by simp[zMD,Tryz.f172];exact⟨rfl,rfl,rfl⟩) (by simp) ?_
     exact⟨.inr rfl,_,by simp[Tryz.f103] <;> rfl,Weak.mk' [0] (by decide) (by decide) (by simp) (by simp[AWb])⟩
   · have h1:0<k.length:=List.length_pos_iff.2 h0
     have h2:¬k.length<=64:=fun h=>hm ⟨h1,h⟩
     have h2i:¬(k.length:Int)<=64:=by omega
     have h1i:(0:Int)<k.length:=by omega
     refine Sim.exec hmix hΓ (n:=0) (by simp[zMD,Tryz.f172,h1,h2i];exact⟨rfl,rfl,rfl⟩) (by simp) ?_
     exact⟨.inr rfl,_,by simp[Tryz.f103] <;> rfl,Weak.mk' [0] (by decide) (by decide) (by simp) (by simp[AWb])⟩
 have h1:0<k.length:=hm.1;have h0:¬k=[]:=List.length_pos_iff.1 h1
 have h2i:(k.length:Int)<=64:=by have:=hm.2;omega
 have h1i:(0:Int)<k.length:=by omega
 refine Sim.step hmix hΓ (n:=0) (by simp[zMD,Tryz.f172,h1,h2i];exact⟨rfl,rfl⟩) (by simp) ?_
 refine Sim.aft (Aft.open (b:=0) rfl (by simp) (Aft.done (by simp[ZD]) ?_))
 rw[zBY];simp only[q7Z,q8Z,Nat.reduceAdd,s9Z,q9Z,qaZ]
 obtain⟨R,eR⟩:∃R,ZW (fun i=>2+3+i) 0 f.acts=R:=⟨_,rfl⟩
 obtain⟨X,eX⟩:∃X,zi f.acts=X:=⟨_,rfl⟩;obtain⟨k0,ek⟩:∃k,f.acts.length=k:=⟨_,rfl⟩;obtain⟨q,eq⟩:∃q,nbD f.acts=q:=⟨_,rfl⟩
 have hX:X.length=q:=by rw[<-eX,<-eq,zj]
 have hXg:∀(i:Nat) (B:ABlk),(zi f.acts)[i]? = some B->X[i]? = some B:=fun i B h=>by rw[<-eX];exact h
 rw[eR,eX,ek];have hf:=zAJ k f.now 0
 cases hg:NM.get f.now k with
 | some v =>
   have hc:f.create k=(f,0,8):=by unfold FD.create;rw[if_pos hm,hg]
   rw[hg]at hf;simp only[rhZ,s8Z]at hf;rw[hc]
   refine Sim.seq (Sim.step hmix hΓ (n:=0) (by simp +decide [hf];first | exact⟨rfl,rfl⟩ | exact⟨by kernel_rfl,rfl,rfl⟩) (by simp) ?_)
   refine Sim.aft (Aft.closeFS f 0 2 (by rw[ek];rfl) rfl rfl (by rw[eR];rfl) (fun i B hB=>?_) (by decide) (by simp) ?_)
   · rw[show 2+3+i=i+1+1+1+1+1 by omega]
     simp only[r9Z];exact hXg i B hB
   refine Aft.weak (Fn:=[.ptr 0 0,.str k,.top,.ptr 1 0,.int .i64 0,.int .i64 0,.int .i64 v,.bool true]++qbZ 31 .top) (Hn:=[.obj true f.blks,.cells true [.str k]]) (Weak.mk' [0,1] (by decide) (by decide) (by simp) (zT (b:=0) (by simp) _ _ rfl fun i c x h1 h2=>?_)) (by simp) (Aft.done (by simp) ?_)
   · match i,h1,h2 with
     | 0,h1,h2=>cases h1;cases h2;exact .inl ⟨rfl,rfl⟩
     | 1,h1,h2=>cases h1;cases h2;exact .inr ⟨⟨by decide,by decide⟩,by simp[AWb]⟩
   refine Sim.exec hmix hΓ (n:=0) (by simp;exact⟨rfl,rfl,rfl⟩) (by simp) ?_
   exact⟨.inr rfl,_,by simp[Tryz.f103] <;> rfl,Weak.mk' [0] (by decide) (by decide) (by simp) (by simp[AWb])⟩
 | none =>
   have hc:f.create k=(⟨f.d,f.acts++[.cre k (f.last+1)],f.last+1⟩,f.last+1,0):=by unfold FD.create;rw[if_pos hm,hg]
   rw[hg]at hf;simp only[Option.map_none,s8Z]at hf;rw[hc]
   have hw:IntKind.i64.wrap (f.last+1)=f.last+1:=zX (by omega) (by omega)
   obtain⟨n',hn'⟩:∃n,f.last+1=n:=⟨_,rfl⟩;rw[hn']at hw ⊢
   refine Sim.step hmix hΓ (n:=0) (by simp +decide [hf];first | exact⟨rfl,rfl⟩ | exact⟨by kernel_rfl,rfl,rfl⟩) (by simp) ?_
   refine Sim.step hmix hΓ (n:=0) (by simp[hn',hw];exact⟨rfl,rfl⟩) (by simp) ?_
   refine Sim.step hmix hΓ (n:=0) (by simp[hX];exact⟨rfl,rfl⟩) (by simp) ?_
   refine Sim.aft (Aft.closeFS (⟨f.d,f.acts,n'⟩:FD) 0 2 (by simp only[ek];rfl) rfl rfl (by simp only[eR];rfl) (fun i B hB=>?_) (by decide) (by simp) ?_)
   · rw[show 2+3+i=i+1+1+1+1+1 by omega]
     have h3:i<X.length:=(q1Z.1 (hXg i B hB)).1;simp only[r9Z];rw[q4Z h3];exact hXg i B hB
   refine Aft.weak (Fn:=[.ptr 0 0,.str k,.top,.ptr 1 0,.int .i64 0,.int .i64 0,.top,.top,.ptr 2 0]++qbZ 30 .top) (Hn:=[.obj true (⟨f.d,f.acts,n'⟩:FD).blks,.cells true [.str k],.cells true [.int .i64 n']]) (Weak.mk' [0,1,q+5] (by simp) (by simp) (by simp) (zT (b:=0) (by simp) _ _ rfl fun i c x h1 h2=>?_)) (by simp) ?_
   · match i,h1,h2 with
     | 0,h1,h2=>cases h1;cases h2;exact .inl ⟨rfl,rfl⟩
     | 1,h1,h2=>cases h1;cases h2;exact .inr ⟨⟨by decide,by decide⟩,by simp[AWb]⟩
     | 2,h1,h2 =>
       cases h1;cases h2
       refine .inr ⟨⟨by omega,by simp⟩,?_⟩
       rw[show q+5=(X.length+0)+1+1+1+1+1 by omega]
       simp[AWb]
   refine Aft.freeze 1 (.str k) rfl (fun _=>rfl) (by simp) ?_
   simp only[saZ,s9Z]
   refine Aft.freeze 2 (.int .i64 n') rfl (fun _=>⟨rfl,rfl⟩) (by simp) ?_
   simp only[saZ,s9Z]
   refine Aft.done (by simp) ?_
   have hdo:doS [.ptr 0 0,.str zU2,.func 174 [] [.ptr 2 0,.ptr 1 0]] [.obj true (⟨f.d,f.acts,n'⟩:FD).blks,.obj false [.cells true [.str k]],.obj false [.cells true [.int .i64 n']]]=some (.int .i64 0,[.obj true (⟨f.d,f.acts++[.cre k n'],n'⟩:FD).blks,.obj false [.cells true [.str k]],.obj false [.cells true [.int .i64 n']]],[0]):=by
     simp only[doS,zFx,raZ,r9Z,zR1];have hg':NM.get (⟨f.d,f.acts,n'⟩:FD).now k=none:=hg
     rw[if_pos ⟨trivial,trivial,hg',hal,by decide,by decide,by decide⟩]
     rfl
   refine Sim.seq (Sim.draw hmix (by simp) ?_)
   simp only[zU2]at hdo
   refine SimR.hard hΓ 3 6 _ rfl (by simp[zI];rfl) (by omega) (by kernel_rfl) (by kernel_rfl) (by simp +decide;exact⟨rfl,rfl,rfl⟩) (by kernel_rfl) (by simp +decide [zDq,List.range,List.range.loop];rfl) (by simp +decide [zWF,hdo];exact⟨rfl,rfl⟩) (by simp +decide [zIb,zOZ,ZT,List.range,List.range.loop]) ?_
   refine SimR.many hΓ 6 (by simp[zI,zh];rfl) (by omega) (by kernel_rfl) (by simp +decide;first | exact⟨rfl,rfl⟩ | exact⟨by kernel_rfl,rfl,rfl⟩) ?_
   refine SimR.done rfl ?_;dsimp only
   refine Sim.exec hmix hΓ (n:=0) (by simp;exact⟨rfl,rfl,rfl⟩) (by simp) ?_
   exact⟨.inr rfl,_,by simp[Tryz.f103] <;> rfl,Weak.mk' [0] (by decide) (by decide) (by simp) (by simp[AWb])⟩
end
end Go.Proofs.YtpmfecnajoojeaaGreatDoor
