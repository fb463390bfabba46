/- Parts of the proof of ReplayMends: lemmas, each with its own conditions. -/
import Derived.Lib.RowBridge
import Derived.Test.YtpmfecnajoojeaaGreatDoorY24
set_option maxHeartbeats 64000000
open List renaming getElem?_eq_some_iff → q1Z, getElem?_eq_getElem → q3Z, take_of_length_le → q6Z, length_cons → q7Z, length_nil → q8Z, cons_append → q9Z, nil_append → qaZ, replicate → qbZ, mem_of_getElem? → qcZ, length_append → qdZ, getElem?_set_ne → qfZ, mem_cons_self → qhZ, mem_cons_of_mem → qiZ, length_take → qjZ, length_drop → qkZ, mem_cons → qwZ, mem_append → qxZ, mem_singleton → r1Z, append_nil → r2Z, getElem_mem → r3Z, take_append_drop → r6Z, length_map → r7Z, length_set → r8Z, not_mem_nil → rtZ, length_replicate → rwZ, map_cons → s1Z, all_eq_true → s5Z
open Option renaming map_eq_some_iff → qlZ
open Nat renaming le_refl → qnZ, lt_or_ge → s2Z, zero_add → s8Z, min_eq_left → sfZ
open Bool renaming false_eq_true → qsZ
namespace Go.Proofs.YtpmfecnajoojeaaGreatDoor
open _root_.Go.Proofs.Tryz renaming prog → Pz
set_option maxRecDepth 100000
section
open Go
attribute [-simp] zJ zY zn zL zl
def zE9:zc:=ZP fun
 | [.str s,.str p]=>if p.length<=1000000000000/\s.length<=1000000000000 then some (if s.take p.length=p then .tuple [.str (s.drop p.length),.bool true] else .tuple [.str s,.bool false]) else none
 | _=>none
def zIl:List FuncId:=[185,235]
theorem zMo:GOk Pz (zAL Pz (zv []) 0 zIl 2):=zq hmix zD 0 zIl 2
theorem zXR(s p:List UInt8)(_hs:s.length<=1000000000000)(_hp:p.length<=1000000000000) :
   Ct Pz 118 [.str s,.str p] [] (if s.take p.length=p then .tuple [.str (s.drop p.length),.bool true] else .tuple [.str s,.bool false]) []:=by
 by_cases h:s.take p.length=p
 · have hl:p.length<=s.length:=by have:=congrArg List.length h;simp at this;omega
   have hd:(s.drop p.length).take (s.length-p.length)=s.drop p.length:=q6Z (by simp)
   rw[if_pos h]
   refine zm hmix zMo (n:=0) Tryz.func118 ?_ (by simp)
   unfold Tryz.f118;simp[zIl,Tryz.f185,Tryz.f235,h,hl,hd]
 · rw[if_neg h]
   refine zm hmix zMo (n:=0) Tryz.func118 ?_ (by simp)
   unfold Tryz.f118;by_cases hl:p.length<=s.length
   · simp[zIl,Tryz.f185,Tryz.f235,h,hl]
   · simp[zIl,Tryz.f185,Tryz.f235,hl]
theorem zRK:Sound Pz 118 zE9:=by
 refine zP (zH Tryz.func118 rfl (by decide)) fun args v h=>?_
 split at h <;> try cases h
 rename_i s p
 split at h <;> cases h
 rename_i hc
 exact⟨zXR s p hc.2 hc.1,by simp,by split <;> simp⟩
end
section
open Go Go.Lib
attribute [-simp] zJ zY zn zL zl
theorem zTg{d:List UInt8}(h:d.length<=1000000):zJp [.str d]=fun H=>some (.tuple [.int .i64 (zCQ d),.top],H,[]):=by
 funext H
 unfold zCQ
 cases hq:atoiAll d <;> simp[zJp,ZP,h,hq]
def zAD(k:Nat)(s:List UInt8):Int×Int :=
 if k<=1/\s=manifW then (1,0) else if k<=2/\s=tempW then (2,0)
 else if k<=3/\s.take 4=walW/\mk 3 (zCQ (s.drop 4))=s then (3,zCQ (s.drop 4))
 else if k<=4/\s.take 4=segW/\mk 4 (zCQ (s.drop 4))=s then (4,zCQ (s.drop 4)) else (0,0)
theorem zOF(s:List UInt8):zAD 0 s=Zl s:=by simp[zAD,Zl]
def zBX:List FuncId:=[117,120]
theorem zVM:GOk Pz (zAL Pz (zv [(118,zE9),(119,zJp),(76,mkS)]) 0 zBX 2):=zq hmix (zC zRK (zC zI5 (zC zCx zD))) 0 zBX 2
theorem zTw(s:List UInt8)(hs:s.length<=1000000):Ct Pz 49 [.str s] [] (.tuple [.int .i64 (Zl s).1,.int .i64 (Zl s).2]) []:=by
 have hΓ:=zVM;obtain⟨r,hr⟩:∃r,Zl s=r:=⟨_,rfl⟩;rw[hr]
 have hs2:s.length<=1000000000000:=by omega
 have hA:∀j,zJp [.str (s.drop j)]=fun H=>some (.tuple [.int .i64 (zCQ (s.drop j)),.top],H,[]):=fun j=>zTg (by rw[qkZ];omega)
 have hl0:([]:List UInt8).length=0:=rfl;have hl1:manifW.length=8:=rfl;have hl2:tempW.length=12:=rfl;have hl3:walW.length=4:=rfl;have hl4:segW.length=4:=rfl
 have mk1:∀n,mk 1 n=manifW:=fun _=>rfl
 have mk2:∀n,mk 2 n=tempW:=fun _=>rfl
 refine zK Tryz.func49 rfl ?_;simp only[Tryz.ntmps49,q7Z,q8Z,Nat.reduceAdd,Nat.reduceSub,qbZ,q9Z,qaZ]
 refine Sim.step hmix hΓ (n:=0) (by simp;exact⟨rfl,rfl⟩) (by simp) ?_
 refine Sim.seq (Sim.step hmix hΓ (n:=0) (by simp[zBX,Tryz.f117];exact⟨rfl,rfl⟩) (by simp) ?_)
 refine Sim.block (Sim.loopW (fun k:Nat=>k<=5/\zAD k s=r)
   (fun k=>[.str s,.top,.top,.top,.top,.top,.top,.top,.agg [.str [],.str manifW,.str tempW,.str walW,.str segW],.int .i64 k]++qbZ 31 .top)
   (fun _=>[]) (fun k=>5-k) 0 (by simp) ⟨by omega,by rw[zOF,hr]⟩ (Weak.mk' [] (by decide) (by decide) (by simp[manifW,tempW,walW,segW]) (by simp[AWg])) fun k hk=>?_)
 obtain⟨hk,hch⟩:=hk;by_cases hlt:k<5
 · have hlti:(k:Int)<5:=by omega
   refine Sim.step hmix hΓ (n:=0) (by simp[hlti];exact⟨rfl,rfl⟩) (by simp) ?_
   refine Sim.step hmix hΓ (n:=0) (by simp;exact⟨rfl,rfl⟩) (by simp) ?_
   refine Sim.seq (Sim.block ?_)
   match k,hlt with
   | 0,_ =>
     refine Sim.exec hmix hΓ (n:=0) (by simp +decide [hl0,zE9,mkS,hs2,zBX];exact⟨rfl,rfl,rfl⟩) (by simp) ?_
     dsimp only;rw[if_pos rfl]
     refine Sim.exec hmix hΓ (n:=0) (by simp +decide;exact⟨rfl,rfl,rfl⟩) (by simp) ?_
     dsimp only
     exact⟨1,⟨by omega,by rw[<-hch];simp[zAD]⟩,Weak.mk' [] (by decide) (by decide) (by simp) (by simp[AWg]),by omega⟩
   | 1,_ =>
     by_cases he:s=manifW
     · have hp:manifW.take 8=manifW:=by decide
       subst he
       refine Sim.exec hmix hΓ (n:=0) (by simp +decide [hl1,zE9,mkS,mk1,hA,zBX,Tryz.f120];exact⟨rfl,rfl,rfl⟩) (by simp) ?_
       dsimp only
       have hrr:r=(1,0):=by rw[<-hch];simp[zAD]
       rw[hrr]
       exact⟨.inr rfl,_,by simp[Tryz.f49] <;> rfl,Weak.mk' [] (by decide) (by decide) (by simp) (by simp[AWg])⟩
     · by_cases hp:s.take 8=manifW
       · have he':¬manifW=s:=fun e=>he e.symm
         have heb:(manifW==s)=false:=by simpa using he'
         refine Sim.exec hmix hΓ (n:=0) (by simp +decide [hl1,zE9,mkS,mk1,hs2,hA,zBX,hp,heb];exact⟨rfl,rfl,rfl⟩) (by simp) ?_
         dsimp only
         refine Sim.exec hmix hΓ (n:=0) (by simp +decide;exact⟨rfl,rfl,rfl⟩) (by simp) ?_
         dsimp only
         exact⟨2,⟨by omega,by rw[<-hch];simp[zAD,he]⟩,Weak.mk' [] (by decide) (by decide) (by simp) (by simp[AWg]),by omega⟩
       · refine Sim.exec hmix hΓ (n:=0) (by simp +decide [hl1,zE9,mkS,hs2,zBX,hp];exact⟨rfl,rfl,rfl⟩) (by simp) ?_
         dsimp only;rw[if_pos rfl]
         refine Sim.exec hmix hΓ (n:=0) (by simp +decide;exact⟨rfl,rfl,rfl⟩) (by simp) ?_
         dsimp only
         exact⟨2,⟨by omega,by rw[<-hch];simp[zAD,he]⟩,Weak.mk' [] (by decide) (by decide) (by simp) (by simp[AWg]),by omega⟩
   | 2,_ =>
     by_cases he:s=tempW
     · have hp:tempW.take 12=tempW:=by decide
       subst he
       refine Sim.exec hmix hΓ (n:=0) (by simp +decide [hl2,zE9,mkS,mk2,hA,zBX,Tryz.f120];exact⟨rfl,rfl,rfl⟩) (by simp) ?_
       dsimp only
       have hrr:r=(2,0):=by rw[<-hch];simp[zAD]
       rw[hrr]
       exact⟨.inr rfl,_,by simp[Tryz.f49] <;> rfl,Weak.mk' [] (by decide) (by decide) (by simp) (by simp[AWg])⟩
     · by_cases hp:s.take 12=tempW
       · have he':¬tempW=s:=fun e=>he e.symm
         have heb:(tempW==s)=false:=by simpa using he'
         refine Sim.exec hmix hΓ (n:=0) (by simp +decide [hl2,zE9,mkS,mk2,hs2,hA,zBX,hp,heb];exact⟨rfl,rfl,rfl⟩) (by simp) ?_
         dsimp only
         refine Sim.exec hmix hΓ (n:=0) (by simp +decide;exact⟨rfl,rfl,rfl⟩) (by simp) ?_
         dsimp only
         exact⟨3,⟨by omega,by rw[<-hch];simp[zAD,he]⟩,Weak.mk' [] (by decide) (by decide) (by simp) (by simp[AWg]),by omega⟩
       · refine Sim.exec hmix hΓ (n:=0) (by simp +decide [hl2,zE9,mkS,hs2,zBX,hp];exact⟨rfl,rfl,rfl⟩) (by simp) ?_
         dsimp only;rw[if_pos rfl]
         refine Sim.exec hmix hΓ (n:=0) (by simp +decide;exact⟨rfl,rfl,rfl⟩) (by simp) ?_
         dsimp only
         exact⟨3,⟨by omega,by rw[<-hch];simp[zAD,he]⟩,Weak.mk' [] (by decide) (by decide) (by simp) (by simp[AWg]),by omega⟩
   | 3,_ =>
     by_cases hp:s.take 4=walW
     · by_cases he:mk 3 (zCQ (s.drop 4))=s
       · have heb:(mk 3 (zCQ (s.drop 4))==s)=true:=by simpa using he
         refine Sim.exec hmix hΓ (n:=0) (by simp +decide [hl3,zE9,mkS,hs2,hA,zBX,Tryz.f120,hp,he];exact⟨rfl,rfl,rfl⟩) (by simp) ?_
         dsimp only
         have hrr:r=(3,zCQ (s.drop 4)):=by rw[<-hch];simp[zAD,hp,he]
         rw[hrr]
         exact⟨.inr rfl,_,by simp[Tryz.f49] <;> rfl,Weak.mk' [] (by decide) (by decide) (by simp) (by simp[AWg])⟩
       · have heb:(mk 3 (zCQ (s.drop 4))==s)=false:=by simpa using he
         refine Sim.exec hmix hΓ (n:=0) (by simp +decide [hl3,zE9,mkS,hs2,hA,zBX,hp,heb];exact⟨rfl,rfl,rfl⟩) (by simp) ?_
         dsimp only
         refine Sim.exec hmix hΓ (n:=0) (by simp +decide;exact⟨rfl,rfl,rfl⟩) (by simp) ?_
         dsimp only
         exact⟨4,⟨by omega,by rw[<-hch];simp[zAD,hp,he]⟩,Weak.mk' [] (by decide) (by decide) (by simp) (by simp[AWg]),by omega⟩
     · refine Sim.exec hmix hΓ (n:=0) (by simp +decide [hl3,zE9,mkS,hs2,zBX,hp];exact⟨rfl,rfl,rfl⟩) (by simp) ?_
       dsimp only;rw[if_pos rfl]
       refine Sim.exec hmix hΓ (n:=0) (by simp +decide;exact⟨rfl,rfl,rfl⟩) (by simp) ?_
       dsimp only
       exact⟨4,⟨by omega,by rw[<-hch];simp[zAD,hp]⟩,Weak.mk' [] (by decide) (by decide) (by simp) (by simp[AWg]),by omega⟩
   | 4,_ =>
     by_cases hp:s.take 4=segW
     · by_cases he:mk 4 (zCQ (s.drop 4))=s
       · have heb:(mk 4 (zCQ (s.drop 4))==s)=true:=by simpa using he
         refine Sim.exec hmix hΓ (n:=0) (by simp +decide [hl4,zE9,mkS,hs2,hA,zBX,Tryz.f120,hp,he];exact⟨rfl,rfl,rfl⟩) (by simp) ?_
         dsimp only
         have hrr:r=(4,zCQ (s.drop 4)):=by rw[<-hch];simp[zAD,hp,he]
         rw[hrr]
         exact⟨.inr rfl,_,by simp[Tryz.f49] <;> rfl,Weak.mk' [] (by decide) (by decide) (by simp) (by simp[AWg])⟩
       · have heb:(mk 4 (zCQ (s.drop 4))==s)=false:=by simpa using he
         refine Sim.exec hmix hΓ (n:=0) (by simp +decide [hl4,zE9,mkS,hs2,hA,zBX,hp,heb];exact⟨rfl,rfl,rfl⟩) (by simp) ?_
         dsimp only
         refine Sim.exec hmix hΓ (n:=0) (by simp +decide;exact⟨rfl,rfl,rfl⟩) (by simp) ?_
         dsimp only
         exact⟨5,⟨by omega,by rw[<-hch];simp[zAD,hp,he]⟩,Weak.mk' [] (by decide) (by decide) (by simp) (by simp[AWg]),by omega⟩
     · refine Sim.exec hmix hΓ (n:=0) (by simp +decide [hl4,zE9,mkS,hs2,zBX,hp];exact⟨rfl,rfl,rfl⟩) (by simp) ?_
       dsimp only;rw[if_pos rfl]
       refine Sim.exec hmix hΓ (n:=0) (by simp +decide;exact⟨rfl,rfl,rfl⟩) (by simp) ?_
       dsimp only
       exact⟨5,⟨by omega,by rw[<-hch];simp[zAD,hp]⟩,Weak.mk' [] (by decide) (by decide) (by simp) (by simp[AWg]),by omega⟩
 · have hk5:k=5:=by omega
   subst hk5
   have hrr:r=(0,0):=by rw[<-hch];simp[zAD]
   rw[hrr]
   refine Sim.step hmix hΓ (n:=0) (by simp;exact⟨rfl,rfl⟩) (by simp) ?_
   refine Sim.seq (Sim.exec hmix hΓ (n:=0) (by simp;exact⟨rfl,rfl,rfl⟩) (by simp) ?_)
   dsimp only;rw[if_pos rfl]
   refine Sim.exec hmix hΓ (n:=0) (by simp;exact⟨rfl,rfl,rfl⟩) (by simp) ?_
   exact⟨.inr rfl,_,by simp[Tryz.f49] <;> rfl,Weak.mk' [] (by decide) (by decide) (by simp) (by simp[AWg])⟩
def zKu:zc:=ZP fun
 | [.str s]=>if s.length<=1000000 then some (.tuple [.int .i64 (Zl s).1,.int .i64 (Zl s).2]) else none
 | _=>none
theorem zLS:Sound Pz 49 zKu:=by
 refine zP (zH Tryz.func49 rfl (by decide)) fun args v h=>?_
 split at h
 · split at h <;> cases h
   rename_i hc;exact⟨zTw _ hc,rfl,rfl⟩
 · cases h
end
section
open Go Go.Lib Go.Sort
attribute [-simp] zJ zY zn zL zl
def zU(zs:List Int):List AV:=zs.map (AV.int .i64)
@[simp] theorem zLm(zs:List Int):(zU zs).length=zs.length:=by simp[zU]
def zAr:List AV->Option (List Int)
 | []=>some []
 | .int .i64 n::l=>(zAr l).map (n::·)
 | _=>none
@[simp] theorem zCu:∀zs:List Int,zAr (zU zs)=some zs
 | []=>rfl
 | z::zs=>by
   have:=zCu zs;simp only[zU,s1Z,zAr]at this ⊢
   rw[this];rfl
theorem zCZ:∀{l:List AV} {zs:List Int},zAr l=some zs->l=zU zs
 | [],zs,h=>by cases h;rfl
 | x::l,zs,h=>by
   unfold zAr at h;split at h
   · rename_i h1;cases h1
   · rename_i n l' h1
     cases h1;obtain⟨ys,h2,rfl⟩:=qlZ.1 h
     rw[zCZ h2];rfl
   · cases h
theorem zMf(j:Inj):∀zs:List Int,VRs j (zU zs) (zs.map (Value.int .i64))
 | []=>rfl
 | z::zs=>⟨_,_,rfl,by simp[VR],zMf j zs⟩
def srt(zs:List Int):List Int:=zs.mergeSort fun x y=>decide (x<=y)
theorem zKT{j:Inj}{H:zA}{w:World}(hR:R j H w){b:Nat}{zs:List Int}(hb:H[b]? = some (.cells true (zU zs))){p:JB}(hp:j b=some p) :
   Holds (Value.int .i64) w p.blk p.base zs.toArray:=by
 obtain⟨cs,T,fz,h1,h2,h3,h4,h5⟩:=hR.blk b _ p hb hp;intro i hi
 have hi':i<zs.length:=by simpa using hi
 have hx:(zU zs)[i]? = some (.int .i64 zs[i]):=by simp[zU,hi']
 obtain⟨v,hv,hvr⟩:=h4 i _ hx;simp only[VR]at hvr;subst hvr
 have h5':=h5 rfl (p.base+i) (by rw[zLm]at h3;omega)
 constructor
 · simp[World.cell?,h1,hv,hi']
 · obtain⟨lo,hi2⟩:=fz
   simp only[World.frozen?,h1];simp only[Bool.and_eq_false_iff,decide_eq_false_iff_not];by_cases hlo:lo<=p.base+i
   · exact .inr fun h=>h5' ⟨hlo,h⟩
   · exact .inl hlo
theorem zML(w:World)(n:Nat):RowKit.Below w.heap.size w (w.drewN n):=⟨rfl,rfl,rfl,qnZ _,fun _ _=>rfl⟩
theorem zPs(w:World)(os:Array Obj):RowKit.Below w.heap.size w (grow w os) :=
 ⟨rfl,rfl,rfl,by simp[grow],fun c hc=>by simp only[grow];rw[Array.getElem?_append_left hc]⟩
theorem zKa{j:Inj}{H:zA}{w:World}(hR:R j H w){b:Nat}{zs ys:List Int}(hb:H[b]? = some (.cells true (zU zs))){p:JB}(hp:j b=some p)(hl:ys.length=zs.length)(n:Nat)(os:Array Obj) :
   Step H.length j H w j (H.set b (.cells true (zU ys))) (grow ((w.drewN n).setCells p.blk p.base (ys.map (Value.int .i64))) os):=by
 have s0:=Step.below hR (zML w n) (qnZ H.length)
 have s1:=zFF s0.rel hb hp 0 (zU ys) (ys.map (Value.int .i64)) (zMf j ys) (by simp[hl])
 rw[List.take_zero,qaZ,s8Z,List.drop_of_length_le (by simp[hl]),r2Z,Nat.add_zero]at s1
 have s2:=Step.below s1.rel (zPs _ os) (qnZ _);rw[r8Z]at s2;exact (s0.trans s1 (qnZ _)).trans s2 (qnZ _)
theorem zTO{H:zA}{b:Nat}{zs:List Int}{c:Bool}(hb:H[b]? = some (.cells true (zU zs)))(hz:zs.length<=1000000000) :
   Ct Pz 270 [.sl b 0 zs.length 1 c] H (.tuple []) (H.set b (.cells true (zU (srt zs)))):=by
 intro j w cargs hR hargs;obtain⟨v,cs,e,h1,h2⟩:=hargs;simp only[VRs]at h2;subst h2
 have same:zs=[]->H.set b (.cells true (zU (srt zs)))=H:=by
   rintro rfl;obtain⟨g1,g2⟩:=q1Z.1 hb
   rw[show srt []=[] by simp[srt],<-g2,List.set_getElem_self]
 have hnone:∀q cap,zs=[]->cargs=#[.slice q 0 cap]->Calls Pz 270 cargs w fun e w'=>∃cv j2,e=.returned cv/\VR j2 (.tuple []) cv/\Step H.length j H w j2 (H.set b (.cells true (zU (srt zs)))) w':=by
   rintro q cap h0 rfl;rw[same h0];refine (Tryz.slices_Sort_int_none q cap w).mono ?_;rintro e w' ⟨rfl,rfl⟩;exact⟨_,j,rfl,⟨#[],rfl,rfl⟩,Step.refl hR (qnZ _)⟩
 rcases zCc h1 with⟨h0,rfl⟩ | h3
 · exact hnone _ _ (List.eq_nil_of_length_eq_zero h0) (by apply Array.ext';rw[e])
 · simp only[VR]at h3
   obtain⟨p,a,cap,hp,rfl,hcap,-,-,ha⟩:=h3
   have ec:cargs=#[.slice (some a) zs.length cap]:=by apply Array.ext';rw[e]
   by_cases h0:zs=[]
   · subst h0
     exact hnone _ _ rfl ec
   · have hlen:0<zs.length:=List.length_pos_iff.2 h0
     obtain⟨rfl,-⟩:a=⟨p.blk,p.base+0,none⟩/\p.base+0+cap*1<=p.size:=by
       rcases ha with h | h
       · omega
       · exact h
     rw[Nat.add_zero]at ec;subst ec;have hlt:=hR.lt hb hp;have hh:=zKT hR hb hp
     refine (Tryz.slices_Sort_int p.blk p.base cap zs w hh hlt (by omega)).mono ?_
     rintro e w' ⟨rfl,n,os,rfl⟩
     have hsl:(srt zs).length=zs.length:=by simp[srt]
     have hw:putRow (Value.int .i64) (Sort.ahead w n) p.blk p.base (srt zs).toArray=(w.drewN n).setCells p.blk p.base ((srt zs).map (Value.int .i64)):=putRow_eq_setCells (Value.int .i64) w p.blk p.base zs.toArray (srt zs) n hh (by simp[hsl])
     refine ⟨_,j,rfl,⟨#[],rfl,rfl⟩,?_⟩;show Step H.length j H w j _ (grow (putRow (Value.int .i64) (Sort.ahead w n) p.blk p.base (srt zs).toArray) os);rw[hw];exact zKa hR hb hp hsl n os
def zL1:zc:=fun args H=>match args with
 | [.sl b 0 n 1 _]=>match H[b]? with
   | some (.cells true l)=>match zAr l with
     | some zs=>if n=zs.length/\zs.length<=1000000000 then some (.tuple [],H.set b (.cells true (zU (srt zs))),[b]) else none
     | none=>none
   | _=>none
 | _=>none
theorem zMr:Sound Pz 270 zL1:=by
 refine ⟨zH Tryz.func270 rfl (by decide),fun args H v H' W hs=>?_,fun args H v H' W hs=>?_⟩ <;> (unfold zL1 at hs;split at hs <;> try cases hs) <;> (split at hs <;> try cases hs) <;> (rename_i b n c _ l hb;split at hs <;> try cases hs) <;> (rename_i zs hz;split at hs <;> cases hs;rename_i hc)
 · rw[zCZ hz]at hb
   rw[hc.1];exact zTO hb hc.2
 · refine ⟨by simp,fun d hd hn=>?_⟩
   simp only[qwZ,rtZ,or_false]at hn;rw[qfZ (Ne.symm hn)]
theorem zEu(zs:List Int):(compact zs).length<=zs.length:=by
 unfold compact compactUpTo;rw[r7Z];refine Nat.le_trans (List.length_filter_le _ _) ?_;rw[List.length_range];exact qnZ _
def cpt(zs:List Int):List Int:=compact zs++qbZ (zs.length-(compact zs).length) 0
theorem zC8(zs:List Int):(cpt zs).length=zs.length:=by
 have:=zEu zs;unfold cpt;rw[qdZ,rwZ];omega
theorem zMU{H:zA}{b:Nat}{zs:List Int}{c:Bool}(hb:H[b]? = some (.cells true (zU zs)))(hz:zs.length<=1000000000) :
   Ct Pz 271 [.sl b 0 zs.length 1 c] H (.sl b 0 (compact zs).length 1 false) (H.set b (.cells true (zU (cpt zs)))):=by
 intro j w cargs hR hargs;obtain⟨v,cs,e,h1,h2⟩:=hargs;simp only[VRs]at h2;subst h2
 have c0:zs=[]->compact zs=[]:=fun h=>List.eq_nil_of_length_eq_zero (by have:=zEu zs;rw[h]at this ⊢;simpa using this)
 have same:zs=[]->H.set b (.cells true (zU (cpt zs)))=H:=by
   intro h
   have e0:cpt zs=[]:=List.eq_nil_of_length_eq_zero (by rw[zC8,h];rfl)
   subst h;obtain⟨g1,g2⟩:=q1Z.1 hb;rw[e0,<-g2,List.set_getElem_self]
 rcases zCc h1 with⟨h0,rfl⟩ | h3
 · have hnil:=List.eq_nil_of_length_eq_zero h0
   have ec:cargs=#[.slice none 0 0]:=by apply Array.ext';rw[e]
   subst ec;rw[same hnil,c0 hnil];refine (Tryz.slices_Compact_int_empty none 0 w).mono ?_;rintro e w' ⟨rfl,rfl⟩
   exact⟨_,j,rfl,by simp[VR],Step.refl hR (qnZ _)⟩
 · simp only[VR]at h3
   obtain⟨p,a,cap,hp,rfl,hcap,-,hmx,ha⟩:=h3
   have ec:cargs=#[.slice (some a) zs.length cap]:=by apply Array.ext';rw[e]
   by_cases h0:zs=[]
   · rw[same h0,c0 h0]
     subst h0;subst ec;refine (Tryz.slices_Compact_int_empty (some a) cap w).mono ?_;rintro e w' ⟨rfl,rfl⟩;refine ⟨_,j,rfl,?_,Step.refl hR (qnZ _)⟩;simp only[VR]
     exact .inr ⟨p,a,cap,hp,rfl,by simp,by simp,hmx,ha⟩
   · have hlen:0<zs.length:=List.length_pos_iff.2 h0
     obtain⟨rfl,hroom⟩:a=⟨p.blk,p.base+0,none⟩/\p.base+0+cap*1<=p.size:=by
       rcases ha with h | h
       · omega
       · exact h
     rw[Nat.add_zero]at ec hroom;subst ec;have hh:=zKT hR hb hp
     refine (Tryz.slices_Compact_int p.blk p.base cap zs w hh (by omega) hcap).mono ?_
     rintro e w' ⟨rfl,n,rfl⟩
     have hw:putRow (Value.int .i64) (Sort.ahead w n) p.blk p.base (cpt zs).toArray=(w.drewN n).setCells p.blk p.base ((cpt zs).map (Value.int .i64)):=putRow_eq_setCells (Value.int .i64) w p.blk p.base zs.toArray (cpt zs) n hh (by simp[zC8])
     refine ⟨_,j,rfl,?_,?_⟩
     · simp only[VR]
       exact .inr ⟨p,⟨p.blk,p.base,none⟩,cap,hp,rfl,by have:=zEu zs;omega,by simp,hmx,.inr ⟨by simp,by simpa using hroom⟩⟩
     · show Step H.length j H w j _ (putRow (Value.int .i64) (Sort.ahead w n) p.blk p.base (cpt zs).toArray)
       rw[hw];have:=zKa hR hb hp (zC8 zs) n #[]
       rwa [grow_empty]at this
def zEG:zc:=fun args H=>match args with
 | [.sl b 0 n 1 _]=>match H[b]? with
   | some (.cells true l)=>match zAr l with
     | some zs=>if n=zs.length/\zs.length<=1000000000 then some (.sl b 0 (compact zs).length 1 false,H.set b (.cells true (zU (cpt zs))),[b]) else none
     | none=>none
   | _=>none
 | _=>none
theorem zJV:Sound Pz 271 zEG:=by
 refine ⟨zH Tryz.func271 rfl (by decide),fun args H v H' W hs=>?_,fun args H v H' W hs=>?_⟩ <;> (unfold zEG at hs;split at hs <;> try cases hs) <;> (split at hs <;> try cases hs) <;> (rename_i b n c _ l hb;split at hs <;> try cases hs) <;> (rename_i zs hz;split at hs <;> cases hs;rename_i hc)
 · rw[zCZ hz]at hb
   rw[hc.1];exact zMU hb hc.2
 · refine ⟨by simp,fun d hd hn=>?_⟩
   simp only[qwZ,rtZ,or_false]at hn;rw[qfZ (Ne.symm hn)]
end
section
open Go Go.Lib
attribute [-simp] zJ zY zn zL zl
def zFt(k:Int)(s:List UInt8):Option Int:=if (Zl s).1=k/\0<(Zl s).2 then some (Zl s).2 else none
def zAR(k:Int)(l:List (List UInt8)):List Int:=l.filterMap (zFt k)
def zAM(k:Int)(l:List (List UInt8)):List Int:=compact (srt (zAR k l))
theorem zIW(zs:List Int):(srt zs).length=zs.length:=by simp[srt]
theorem zMn(k:Int)(l:List (List UInt8))(i:Nat)(s:List UInt8)(h:l[i]? = some s):zAR k (l.take (i+1))=zAR k (l.take i)++(match zFt k s with | some n=>[n] | none=>[]):=by
 unfold zAR;rw[List.take_add_one,h,List.filterMap_append]
 congr 1
 simp only[Option.toList,List.filterMap_cons,List.filterMap_nil]
 cases zFt k s <;> rfl
theorem zEd(k:Int)(l:List (List UInt8)):(zAR k l).length<=l.length:=List.length_filterMap_le _ _
theorem zNs(a:List Int)(n:Int):zU a++[.int .i64 n]=zU (a++[n]):=by simp[zU]
theorem ZZ(a:List Int):zZ (zU a)=true:=ZK _ _ fun _=>rfl
def zTf:List FuncId:=[231]
theorem zUZ:GOk Pz (zAL Pz (zv [(49,zKu),(270,zL1),(271,zEG)]) 0 zTf 2):=zq hmix (zC zLS (zC zMr (zC zJV zD))) 0 zTf 2
theorem zPI(k:Int)(l:List (List UInt8))(hl:l.length<=1000000)(hs:∀s∈l,s.length<=1000000) :
   Ct Pz 169 [.int .i64 k,.sl 0 0 l.length 1 false] [.cells false (l.map .str)] (.sl 1 0 (zAM k l).length 1 false) [.cells false (l.map .str),.cells true (zU (cpt (srt (zAR k l))))]:=by
 have hΓ:=zUZ
 have fl:zZ (l.map AV.str)=true:=ZK _ _ fun _=>rfl
 refine zK Tryz.func169 rfl ?_;simp only[Tryz.ntmps169,q7Z,q8Z,Nat.reduceAdd,Nat.reduceSub,qbZ,q9Z,qaZ]
 refine Sim.step hmix hΓ (n:=0) (by simp;exact⟨rfl,rfl⟩) (by simp) ?_
 refine Sim.seq (Sim.step hmix hΓ (n:=0) (by simp;exact⟨rfl,rfl⟩) (by simp) ?_)
 refine Sim.block (Sim.loopW (fun i:Nat=>i<=l.length)
   (fun i=>[.int .i64 k,.top,.top,.top,.sl 1 0 (zAR k (l.take i)).length 1 false,.top,.top,.top,.top,.sl 0 0 l.length 1 false,.int .i64 l.length,.int .i64 i]++qbZ 22 .top)
   (fun i=>[.cells false (l.map .str),.cells true (zU (zAR k (l.take i)))]) (fun i=>l.length-i) 0 (by simp) (by omega) (Weak.mk' [0,100] (by decide) (by decide) (by simp[zAR]) (by simp[fl])) fun i hi=>?_)
 obtain⟨out,ho⟩:∃out,zAR k (l.take i)=out:=⟨_,rfl⟩
 have hol:out.length<=1000000:=by rw[<-ho];have h1:=zEd k (l.take i);rw[qjZ]at h1;omega
 rw[ho];by_cases hlt:i<l.length
 · have hlti:(i:Int)<l.length:=by omega
   obtain⟨s,hs1⟩:∃s,l[i]=s:=⟨_,rfl⟩
   have hs':l[i]? = some s:=by rw[q3Z hlt,hs1]
   have hsl:=hs s (qcZ hs')
   have hg:∀h,l[i]'h=s:=fun h=>hs1
   have hw:IntKind.i64.wrap ((i:Int)+1)=i+1:=zX (by omega) (by omega)
   have hnext:=zMn k l i s hs';rw[ho]at hnext;obtain⟨a,n,hp⟩:∃a n,Zl s=(a,n):=⟨_,_,rfl⟩
   have htk:List.take out.length (zU out)=zU out:=q6Z (by simp)
   have b1:(out.length+1)*8<=140737488355328:=by omega
   have b2:out.length+1<=9223372036854775807:=by omega
   refine Sim.step hmix hΓ (n:=0) (by simp[hlti];exact⟨rfl,rfl⟩) (by simp) ?_
   refine Sim.step hmix hΓ (n:=0) (by simp;exact⟨rfl,rfl⟩) (by simp) ?_
   refine Sim.seq (Sim.block ?_)
   refine Sim.step hmix hΓ (n:=0) (by simp +decide [hlt,hg];exact⟨rfl,rfl⟩) (by simp) ?_
   refine Sim.step hmix hΓ (n:=0) (by simp +decide [zKu,hsl,hp];exact⟨rfl,rfl⟩) (by simp) ?_
   by_cases hc:a=k/\0<n
   · have hq:zFt k s=some n:=by unfold zFt;rw[hp];exact if_pos hc
     rw[hq]at hnext;dsimp only at hnext;obtain⟨rfl,hn0⟩:=hc
     refine Sim.exec hmix hΓ (n:=0) (by simp +decide [hn0,b1,b2];exact⟨rfl,rfl,rfl⟩) (by simp) ?_
     dsimp only
     refine Sim.exec hmix hΓ (n:=0) (by simp[hw];exact⟨rfl,rfl,rfl⟩) (by simp) ?_
     dsimp only
     exact⟨i+1,by omega,Weak.mk' [0,3] (by decide) (by decide) (by simp[hnext]) (by simp[hnext,fl,htk,zNs,ZZ]),by omega⟩
   · have hq:zFt k s=none:=by unfold zFt;rw[hp];exact if_neg hc
     rw[hq]at hnext;simp only[r2Z]at hnext;by_cases ha:a=k
     · have hn0:¬0<n:=fun h=>hc ⟨ha,h⟩
       refine Sim.exec hmix hΓ (n:=0) (by simp +decide [ha,hn0];exact⟨rfl,rfl,rfl⟩) (by simp) ?_
       dsimp only
       refine Sim.exec hmix hΓ (n:=0) (by simp[hw];exact⟨rfl,rfl,rfl⟩) (by simp) ?_
       dsimp only
       exact⟨i+1,by omega,Weak.mk' [0,1] (by decide) (by decide) (by simp[hnext]) (by simp[hnext,fl,ZZ]),by omega⟩
     · have hab:(a==k)=false:=by simpa using ha
       refine Sim.exec hmix hΓ (n:=0) (by simp +decide [hab];exact⟨rfl,rfl,rfl⟩) (by simp) ?_
       dsimp only
       refine Sim.exec hmix hΓ (n:=0) (by simp[hw];exact⟨rfl,rfl,rfl⟩) (by simp) ?_
       dsimp only
       exact⟨i+1,by omega,Weak.mk' [0,1] (by decide) (by decide) (by simp[hnext]) (by simp[hnext,fl,ZZ]),by omega⟩
 · have hkn:i=l.length:=by omega
   have hlti:¬(i:Int)<l.length:=by omega
   rw[hkn,List.take_length]at ho;have hsl:=zIW out
   have hb9:out.length<=1000000000:=by omega
   unfold zAM;rw[ho]
   refine Sim.step hmix hΓ (n:=0) (by simp[hlti];exact⟨rfl,rfl⟩) (by simp) ?_
   refine Sim.seq (Sim.exec hmix hΓ (n:=0) (by simp;exact⟨rfl,rfl,rfl⟩) (by simp) ?_)
   dsimp only;rw[if_pos rfl]
   refine Sim.exec hmix hΓ (n:=0) (by simp[zTf,Tryz.f231,zL1,zEG,hsl,hb9];exact⟨rfl,rfl,rfl⟩) (by simp) ?_
   exact⟨.inr rfl,_,by simp[Tryz.f169] <;> rfl,Weak.mk' [0,1] (by decide) (by decide) (by simp) (by simp[fl,ZZ])⟩
def zKG(H:zA):AV->Option (List (List UInt8))
 | .nils=>some []
 | .slice b off len 1 _=>match H[b]? with
   | some (.cells _ l)=>if off+len<=l.length then zAC ((l.drop off).take len) else none
   | _=>none
 | .sl b off len 1 _=>match H[b]? with
   | some (.cells _ l)=>if off+len<=l.length then zAC ((l.drop off).take len) else none
   | _=>none
 | _=>none
theorem zKk{H:zA}{x:AV}{a:List (List UInt8)}(h:zKG H x=some a):∃b off,(∀(i:Nat) (wd:List (Nat×Nat)),wd[i]? = some (b,off)->zBo wd (.sl i 0 a.length 1 false) x) /\
   (match H[b]? with | some (.cells _ l)=>off+(a.map AV.str).length<=l.length/\a.map AV.str=(l.drop off).take (a.map AV.str).length | none=>True | _=>False):=by
 have key:∀(b off len:Nat) (o:Bool) (l:List AV),H[b]? = some (.cells o l)->off+len<=l.length->zAC ((l.drop off).take len)=some a->len=a.length/\off+(a.map AV.str).length<=l.length/\a.map AV.str=(l.drop off).take (a.map AV.str).length:=by
   intro b off len o l hb hle hs;have e:=zCe hs
   have hlen:len=a.length:=by
     have:=congrArg List.length e;simp at this;omega
   subst hlen
   exact⟨rfl,by simpa using hle,by rw[r7Z];exact e.symm⟩
 unfold zKG at h;split at h
 · cases h
   exact⟨H.length,0,fun i wd _=>by simp[zBo],by simp⟩
 · rename_i b off len c
   split at h;rotate_left
   · cases h
   rename_i o l hb;split at h;rotate_left
   · cases h
   rename_i hle;obtain⟨rfl,h1,h2⟩:=key b off len o l hb hle h
   exact⟨b,off,fun i wd hw=>by simp[zBo,hw],by rw[hb];exact⟨h1,h2⟩⟩
 · rename_i b off len c
   split at h;rotate_left
   · cases h
   rename_i o l hb;split at h;rotate_left
   · cases h
   rename_i hle;obtain⟨rfl,h1,h2⟩:=key b off len o l hb hle h
   exact⟨b,off,fun i wd hw=>by simp[zBo,hw],by rw[hb];exact⟨h1,h2⟩⟩
 · cases h
mutual
theorem zRt(k:Nat):∀x:AV,free x=true->shA k x=x
 | .top,_ | .bool _,_ | .int _ _,_ | .str _,_ | .nilp,_ | .nils,_ | .nilm,_ | .nilf,_=>rfl
 | .ptr ..,h | .slice ..,h | .sl ..,h | .map _,h | .yld _,h=>by simp[free]at h
 | .func f xs ys,h=>by simp at h;simp[Zk k xs h.1,Zk k ys h.2]
 | .agg l,h=>by simp at h;simp[Zk k l h]
 | .tuple l,h=>by simp at h;simp[Zk k l h]
theorem Zk(k:Nat):∀xs:List AV,zZ xs=true->zAV k xs=xs
 | [],_=>rfl
 | x::xs,h=>by simp at h;simp[zRt k x h.1,Zk k xs h.2]
end
@[simp] theorem zXb(k:Nat)(a:List Int):zAV k (zU a)=zU a:=Zk k _ (ZZ a)
def zHv:zc:=zBj fun args H=>match args with
 | [.int .i64 k,x]=>match zKG H x with
   | some l=>if l.length<=1000000/\(l.all fun s=>decide (s.length<=1000000))=true then some (.sl 0 0 (zAM k l).length 1 false,[.cells true (zU (cpt (srt (zAR k l))))]) else none
   | none=>none
 | _=>none
theorem zJk:Sound Pz 169 zHv:=by
 refine zEs (zH Tryz.func169 rfl (by decide)) fun args H v N h=>?_
 split at h <;> try cases h
 rename_i k x
 split at h <;> try cases h
 rename_i l hx
 split at h <;> cases h
 rename_i hc;obtain⟨b1,o1,w1,g1⟩:=zKk hx
 refine zQS (H0:=[.cells false (l.map .str)]) (args0:=[.int .i64 k,.sl 0 0 l.length 1 false]) ?_ rfl [(b1,o1)] ⟨by simp[zBo],w1 0 _ rfl,trivial⟩ ⟨g1,ZK _ _ fun _=>rfl,trivial⟩
 have:=zPI k l hc.1 (fun s hs=>by simpa using s5Z.1 hc.2 s hs)
 simpa using this
end
section
open Go Go.Lib
def zPb(l:List Int):Prop:=l.Pairwise (· < ·)
theorem zTB(zs:List Int):(srt zs).Perm zs:=List.mergeSort_perm _ _
theorem zH6(zs:List Int):(srt zs).Pairwise (·<=·):=by
 have:=List.pairwise_mergeSort (le:=fun (x y:Int)=>decide (x<=y)) (fun a b c h1 h2=>by simp at h1 h2 ⊢;omega) (fun a b=>by simp;omega) zs
 exact this.imp fun h=>by simpa using h
theorem zDZ(d:Array Int)(hd:∀i j,i<j->j<d.size->d[i]!<=d[j]!):∀m,m<=d.size ->
   zPb (compactUpTo d m)/\(∀x,x∈compactUpTo d m↔∃i,i<m/\d[i]! = x)/\(∀x∈compactUpTo d m,x<=d[m-1]!)
 | 0,_=>⟨List.Pairwise.nil,by simp[compactUpTo],by simp[compactUpTo]⟩
 | m+1,hm=>by
   obtain⟨h1,h2,h3⟩:=zDZ d hd m (by omega)
   rw[compactUpTo_succ]
   have hprev:0<m->d[m-1]!<=d[m]!:=fun h=>hd _ _ (by omega) (by omega)
   cases hk:keeps d m with
   | true =>
     have hk':m=0\/d[m]!≠d[m-1]!:=by simpa[keeps] using hk
     simp only[if_true]
     have hlt:∀x∈compactUpTo d m,x<d[m]!:=fun x hx=>by
       rcases hk' with rfl | hne
       · simp[compactUpTo]at hx
       · have a1:=h3 x hx
         by_cases h0:m=0
         · subst h0;simp[compactUpTo]at hx
         · have:=hprev (by omega);omega
     refine ⟨?_,fun x=>?_,fun x hx=>?_⟩
     · unfold zPb
       rw[List.pairwise_append]
       exact⟨h1,List.pairwise_singleton _ _,fun x hx y hy=>by rcases r1Z.1 hy with rfl;exact hlt x hx⟩
     · rw[qxZ,h2,r1Z]
       constructor
       · rintro (⟨i,hi,rfl⟩ | rfl)
         · exact⟨i,by omega,rfl⟩
         · exact⟨m,by omega,rfl⟩
       · rintro⟨i,hi,rfl⟩
         rcases s2Z i m with h | h
         · exact .inl ⟨i,h,rfl⟩
         · exact .inr (by rw[show i=m by omega])
     · rw[Nat.add_sub_cancel]
       rcases qxZ.1 hx with hx | hx
       · have:=hlt x hx;omega
       · rcases r1Z.1 hx with rfl;omega
   | false =>
     have hk':¬(m=0\/d[m]!≠d[m-1]!):=by simpa[keeps] using hk
     have m0:m≠0:=fun h=>hk' (.inl h)
     have meq:d[m]! = d[m-1]!:=Classical.byContradiction fun h=>hk' (.inr h)
     simp only[qsZ,if_false,r2Z]
     refine ⟨h1,fun x=>?_,fun x hx=>?_⟩
     · rw[h2]
       constructor
       · rintro⟨i,hi,rfl⟩;exact⟨i,by omega,rfl⟩
       · rintro⟨i,hi,rfl⟩
         rcases s2Z i m with h | h
         · exact⟨i,h,rfl⟩
         · exact⟨m-1,by omega,by rw[show i=m by omega,meq]⟩
     · rw[Nat.add_sub_cancel,meq];exact h3 x hx
theorem zG9(zs:List Int)(h:zs.Pairwise (·<=·)):zPb (compact zs)/\∀x,x∈compact zs↔x∈zs:=by
 have hget:∀i,i<zs.length->zs.toArray[i]! = zs[i]!:=fun i hi=>by simp[hi]
 obtain⟨h1,h2,-⟩:=zDZ zs.toArray (fun i j hij hj=>by
   have hj':j<zs.length:=by simpa using hj
   rw[hget i (by omega),hget j hj',getElem!_pos zs i (by omega),getElem!_pos zs j hj']
   exact List.pairwise_iff_getElem.1 h i j (by omega) hj' hij) zs.length (by simp)
 refine ⟨h1,fun x=>?_⟩
 rw[show compact zs=compactUpTo zs.toArray zs.length from rfl,h2]
 constructor
 · rintro⟨i,hi,rfl⟩
   rw[hget i hi,getElem!_pos zs i hi];exact r3Z hi
 · intro hx
   obtain⟨i,hi,rfl⟩:=List.mem_iff_getElem.1 hx
   exact⟨i,hi,by rw[hget i hi,getElem!_pos zs i hi]⟩
theorem zMR(k:Int)(l:List (List UInt8)):zPb (zAM k l):=(zG9 _ (zH6 _)).1
theorem zSP(k:Int)(l:List (List UInt8))(x:Int):x∈zAM k l↔∃s∈l,zFt k s=some x:=by
 unfold zAM;rw[(zG9 _ (zH6 _)).2,(zTB _).mem_iff];unfold zAR;rw[List.mem_filterMap]
end
section
open Go Go.Lib
theorem Rp.one_take{s:List UInt8}{a:Int}{x:En}{b:Int}(h:Rp.one s a=some (x,b)){g:Nat}(hg:b<=g):Rp.one (s.take g) a=some (x,b):=by
 obtain⟨w1,w2,w3,w4,w5,w6⟩:=Rp.one_way h
 obtain⟨k,rfl⟩:∃k:Nat,a=k:=⟨a.toNat,by omega⟩
 obtain⟨m,hm⟩:∃m:Nat,(Fr.get s k).2.1=m:=⟨(Fr.get s k).2.1.toNat,by omega⟩
 have e:s.take m++(s.take g).drop m=s.take g:=by
   have h1:s.take m=(s.take g).take m:=by rw[List.take_take,sfZ (by omega)]
   rw[h1,r6Z]
 have h2:=Fr.get_own s ((s.take g).drop m) k (by omega) w4
 rw[hm,Int.toNat_natCast,e]at h2;unfold Rp.one at h ⊢;rw[h2];exact h
theorem Rp.one_end(s:List UInt8):Rp.one s s.length=none:=by
 have h9:(Fr.get s s.length).2.2=9:=by
   unfold Fr.get
   rw[if_neg (by omega),if_pos rfl]
 unfold Rp.one;rw[if_neg];rintro⟨h,_⟩;rw[h9]at h
 exact absurd h (by decide)
theorem Rp.rd_way(s:List UInt8):∀(k:Nat) (a:Int),0<=a->a<=s.length->s.length-a.toNat<=k->a<=(Rp.rd s a).2/\(Rp.rd s a).2<=s.length/\∀g:Nat,(Rp.rd s a).2=g->Rp.rd (s.take g) a=Rp.rd s a:=by
 intro k
 induction k with
 | zero =>
   intro a h0 h1 hk
   have ea:a=s.length:=by omega
   subst ea;rw[Rp.rd_none h1 (Rp.one_end s)]
   refine ⟨Int.le_refl _,h1,fun g hg=>?_⟩
   dsimp only at hg
   have:g=s.length:=by omega
   rw[this,List.take_length,Rp.rd_none h1 (Rp.one_end s)]
 | succ k ih =>
   intro a h0 h1 hk
   cases hx:Rp.one s a with
   | none =>
     rw[Rp.rd_none h1 hx]
     refine ⟨Int.le_refl _,h1,fun g hg=>?_⟩
     dsimp only at hg
     have hl:(s.take g).length=g:=by rw[qjZ];omega
     have he:=Rp.one_end (s.take g);rw[hl,<-hg]at he
     rw[Rp.rd_none (by rw[hl];omega) he]
   | some y =>
     obtain⟨x,b⟩:=y;obtain⟨w1,w2,w3,_⟩:=Rp.one_way hx
     obtain⟨i1,i2,i3⟩:=ih b (by omega) w3 (by omega)
     rw[Rp.rd_some hx]
     refine ⟨by dsimp only;omega,i2,fun g hg=>?_⟩
     dsimp only at hg
     rw[Rp.rd_some (Rp.one_take hx (g:=g) (by omega)),i3 g hg]
theorem Rp.rd_cut(s:List UInt8):0<=(Rp.rd s 0).2/\(Rp.rd s 0).2<=s.length/\Rp.rd (s.take (Rp.rd s 0).2.toNat) 0=Rp.rd s 0:=by
 obtain⟨h1,h2,h3⟩:=Rp.rd_way s s.length 0 (Int.le_refl _) (by omega) (by omega)
 exact⟨h1,h2,h3 _ (by omega)⟩
structure Fnd where
 logs:List Int
 es:List En
 good:Int
 torn:Bool
def Fnd.no:Fnd:=⟨[],[],0,false⟩
def Fnd.add(f:Fnd)(t:List UInt8):Fnd:=⟨f.logs,f.es++(Rp.rd t 0).1,(Rp.rd t 0).2,decide ((Rp.rd t 0).2<t.length)⟩
def zg(get:List UInt8->List UInt8):List Int->Fnd->Fnd×Int
 | [],f=>(f,0)
 | n::l,f=>if f.torn=true then (Fnd.no,12) else zg get l (f.add (get (mk 3 n)))
def zBQ(x:Int)(l:List Int):Nat:=(l.takeWhile fun n=>decide (n<x)).length
def zDa(x:Int)(l:List Int):List Int:=l.drop (zBQ x l)
def okL(x:Int)(l:List Int):Prop:=l.getD 0 0=x/\l.getD (l.length-1) 0=x+l.length-1/\l.getD (l.length-1) 0<=900000000
instance (x:Int) (l:List Int):Decidable (okL x l):=by unfold okL;infer_instance
def ZL(x:Int)(names:List (List UInt8)):List Int×Int :=
 if x<1\/900000000<x then ([],2) else if (zDa x (zAM 3 names)).length=0 then ([],0) else if okL x (zDa x (zAM 3 names)) then (zDa x (zAM 3 names),0) else ([],12)
def DS.load(d:DS)(x:Int):Fnd×Int :=
 if d.down=true then (Fnd.no,13) else if (ZL x d.list).2=0 then zg d.text (ZL x d.list).1 ⟨(ZL x d.list).1,[],0,false⟩ else (Fnd.no,(ZL x d.list).2)
def zd(f:Fnd):List UInt8:=mk 3 (f.logs.getD (f.logs.length-1) 0)
def DS.mend(d:DS)(f:Fnd):DS×Int:=if f.logs.length=0 then (d,0) else if f.torn=true then zOX (d.truncate (zd f) f.good) (fun d=>d.sync (zd f)) else d.sync (zd f)
theorem zIO(get:List UInt8->List UInt8):∀(a b:List Int) (f:Fnd),zg get (a++b) f=if (zg get a f).2=0 then zg get b (zg get a f).1 else zg get a f
 | [],b,f=>by simp[zg]
 | n::a,b,f=>by
   simp only[q9Z,zg];split
   · rfl
   · exact zIO get a b _
theorem zG6(get:List UInt8->List UInt8):∀(a:List Int) (f:Fnd),(zg get a f).2=0->(zg get a f).1.logs=f.logs
 | [],f,_=>rfl
 | n::a,f,h=>by
   simp only[zg]at h ⊢;split
   · rename_i h1;rw[if_pos h1]at h;exact absurd h (by decide)
   · rename_i h1;rw[if_neg h1]at h;exact zG6 get a (f.add _) h
theorem zEt(get:List UInt8->List UInt8):∀(a:List Int) (f:Fnd),(zg get a f).2=0\/zg get a f=(Fnd.no,12)
 | [],f=>.inl rfl
 | n::a,f=>by
   simp only[zg];split
   · exact .inr rfl
   · exact zEt get a _
theorem zFr{get get':List UInt8->List UInt8}:∀(a:List Int) (f:Fnd),(∀n∈a,get' (mk 3 n)=get (mk 3 n))->zg get' a f=zg get a f
 | [],f,_=>rfl
 | n::a,f,h=>by
   simp only[zg]
   rw[h n (qhZ ..),zFr a _ fun m hm=>h m (qiZ _ hm)]
theorem zPi{get get':List UInt8->List UInt8}{l:List Int}{n:Int}{f0 f:Fnd}(h:zg get (l++[n]) f0=(f,0))(hl:∀m∈l,get' (mk 3 m)=get (mk 3 m))
   (hn:get' (mk 3 n)=get (mk 3 n)\/get' (mk 3 n)=(get (mk 3 n)).take f.good.toNat) :
   f.good=(Rp.rd (get (mk 3 n)) 0).2/\f.torn=decide (f.good<(get (mk 3 n)).length)/\0<=f.good/\f.good<=(get (mk 3 n)).length /\
     zg get' (l++[n]) f0=(⟨f.logs,f.es,f.good,decide (f.good<(get' (mk 3 n)).length)⟩,0):=by
 rw[zIO]at h ⊢;rw[zFr l f0 hl]
 have h1:(zg get l f0).2=0:=by
   rcases zEt get l f0 with h1 | h1
   · exact h1
   · rw[h1]at h;simp at h
 rw[if_pos h1]at h ⊢;obtain⟨⟨f1,e1⟩,hf1⟩:∃r,zg get l f0=r:=⟨_,rfl⟩;rw[hf1]at h ⊢;simp only[zg]at h ⊢;split at h
 · simp at h
 rename_i ht;rw[if_neg ht];simp only[Prod.mk.injEq,and_true]at h;subst h;have hc:=Rp.rd_cut (get (mk 3 n));unfold Fnd.add at hn ⊢;dsimp only at hn ⊢;refine ⟨rfl,rfl,hc.1,hc.2.1,?_⟩
 have hr:Rp.rd (get' (mk 3 n)) 0=Rp.rd (get (mk 3 n)) 0:=by
   rcases hn with hn | hn
   · rw[hn]
   · rw[hn];exact hc.2.2
 rw[hr]
structure Sett (d:DS):Prop where
 up:d.down=false
 acts:d.fd.acts=[]
 each:∀k f,Z3 d.fs d.fd.now k=some f->f.acts=[]
theorem Sett.get{d:DS}(h:Sett d){k:List UInt8}{f:PF}(hk:Z3 d.fs d.fd.now k=some f):f=⟨d.text k,[]⟩:=by
 have h1:=h.each k f hk;obtain⟨n,h2,h3⟩:=zAk hk;obtain⟨t,a⟩:=f;dsimp only at h1;subst h1;unfold DS.text DS.file;rw[h2];dsimp only;rw[h3];rfl
theorem zCV{d:DS}{k:List UInt8}{f:PF}(hk:Z3 d.fs d.fd.now k=some f):d.text k=f.now:=by
 obtain⟨n,h2,h3⟩:=zAk hk;unfold DS.text DS.file;rw[h2];dsimp only;rw[h3]
theorem zKO{d:DS}{k:List UInt8}(hk:Z3 d.fs d.fd.now k=none):d.text k=[]:=by
 unfold DS.text DS.file
 cases hg:d.fd.now.get k with
 | none=>rfl
 | some n =>
   rw[zBE hg]at hk;dsimp only;rw[hk]
theorem zEa{d d':DS}{k:List UInt8}(h:Z3 d'.fs d'.fd.now k=Z3 d.fs d.fd.now k):d'.text k=d.text k:=by
 cases hc:Z3 d.fs d.fd.now k with
 | none=>rw[zKO hc,zKO (h.trans hc)]
 | some f=>rw[zCV hc,zCV (h.trans hc)]
theorem zJ3{d d':DS}(h:d'.fd.now=d.fd.now)(hd:d.down=false)(hd':d'.down=false):d'.list=d.list:=by
 unfold DS.list FD.names;rw[hd,hd',h]
theorem zLA{d:DS}{A B:Nat}(hok:d.ok A B)(h:Sett d)(l:List Int):(d.restart l).fd.now=d.fd.now/\∀k,Z3 (d.restart l).fs (d.restart l).fd.now k=Z3 d.fs d.fd.now k:=by
 obtain⟨i,hi,e1,e2,_,_,e5⟩:=zFs hok l
 have h0:ZU d.fd.d (d.fd.acts.take i)=d.fd.now:=by rw[h.acts];simp[FD.now,h.acts]
 have hnow:(d.restart l).fd.now=d.fd.now:=by rw[e1];simpa[FD.now,ZU] using h0
 rw[h0]at e5
 refine ⟨hnow,fun k=>?_⟩
 rcases e5 k with⟨g1,g2⟩ | ⟨f,f',g1,g2,g3⟩
 · rw[g1,g2]
 · rw[g1,g2]
   have hf:=h.get g1
   exact congrArg some (g3 (fun x=>x=f) rfl fun g a b hg=>by subst hg;rw[hf,PF.stays_settled])
theorem zSE{d d':DS}(hd:d.down=false)(hd':d'.down=false)(h:d'.fd.now=d.fd.now)(ht:∀k,d'.text k=d.text k)(x:Int):d'.load x=d.load x:=by
 have hl:=zJ3 h hd hd';have hg:d'.text=d.text:=funext ht;unfold DS.load;rw[hd,hd',hl,hg]
theorem zKo{d:DS}{A B:Nat}(hok:d.ok A B)(h:Sett d)(l:List Int)(x:Int):(d.restart l).load x=d.load x:=by
 obtain⟨h1,h2⟩:=zLA hok h l
 exact zSE h.up rfl h1 (fun k=>zEa (h2 k)) x
theorem zFY{d:DS}{x:Int}{f:Fnd}(h:d.load x=(f,0)):d.down=false/\(ZL x d.list).2=0/\zg d.text (ZL x d.list).1 ⟨(ZL x d.list).1,[],0,false⟩=(f,0)/\f.logs=(ZL x d.list).1:=by
 unfold DS.load at h;split at h
 · simp at h
 rename_i h1;split at h
 · rename_i h2
   refine ⟨by simpa using h1,h2,h,?_⟩
   have:=zG6 d.text (ZL x d.list).1 ⟨(ZL x d.list).1,[],0,false⟩ (by rw[h])
   rw[h]at this;exact this
 · rename_i h2
   exact absurd (congrArg Prod.snd h) h2
theorem FS.upd_self{l:FS}{n:Int}{f:PF}(h:FS.get l n=some f):FS.upd l n (fun _=>f)=l:=by
 rw[FS.upd_set _ h];have h1:=FS.at_get h;obtain⟨h2,h3⟩:=q1Z.1 h1;rw[<-h3,List.set_getElem_self]
theorem FS.upd_upd(n:Int)(a b:PF):∀l:FS,FS.upd (FS.upd l n fun _=>a) n (fun _=>b)=FS.upd l n fun _=>b
 | []=>rfl
 | e::l=>by
   by_cases h:e.1=n
   · simp[FS.upd,h]
   · simp[FS.upd,h,FS.upd_upd n a b l]
theorem zNd{fs:FS}{l:NM}{k x:List UInt8}{n:Int}{last:Int}(hn:NumOk l last)(hx:l.get x=some n)(g:PF->PF):Z3 (FS.upd fs n g) l k=if k=x then (Z3 fs l k).map g else Z3 fs l k:=by
 by_cases hk:k=x
 · subst hk
   rw[if_pos rfl,zBE hx,zBE hx,FS.get_upd,if_pos rfl]
 · rw[if_neg hk]
   cases hg:NM.get l k with
   | none=>rw[zEI hg,zEI hg]
   | some m =>
     rw[zBE hg,zBE hg,FS.get_upd,if_neg];rintro rfl;exact hk (hn.inj _ _ _ hg hx)
theorem zIm{d:DS}(hd:d.down=false)(hs:Sett d){f:Fnd}(h0:f.logs.length≠0){t:List UInt8}{n:Int}(hn:d.fd.now.get (zd f)=some n)(hf:FS.get d.fs n=some ⟨t,[]⟩)(hg:f.torn=true->0<=f.good/\f.good<t.length) :
   Stage (d.mend f) d.quota (fun fd fs=>fd=d.fd/\fs=FS.upd d.fs n fun _=>⟨if f.torn=true then t.take f.good.toNat else t,[]⟩)
     (fun fd fs=>fd=d.fd/\∃g,fs=FS.upd d.fs n (fun _=>g)/\(g=⟨t,[]⟩\/f.torn=true/\g=⟨t,[.cut f.good.toNat]⟩)):=by
 unfold DS.mend;rw[if_neg h0];have self:=FS.upd_self hf;split
 · rename_i ht
   obtain⟨g1,g2⟩:=hg ht
   have hcut:(⟨t,[]⟩:PF).cut f.good=(⟨t,[.cut f.good.toNat]⟩,0):=by
     unfold PF.cut
     rw[if_neg (by show ¬(f.good<0\/(t.length:Int)<f.good);omega),if_pos (by show f.good<(t.length:Int);exact g2)]
     rfl
   refine Stage.seq (P:=fun fd fs=>fd=d.fd/\fs=FS.upd d.fs n fun _=>⟨t,[.cut f.good.toNat]⟩) (zNC hd hn hf ⟨rfl,_,self.symm,.inl rfl⟩ (fun _ _ _ _ _=>hcut) ⟨rfl,rfl⟩) fun d1 q1 u1 h1=>?_
   obtain⟨e1,e2⟩:=h1
   have hn1:d1.fd.now.get (zd f)=some n:=by rw[e1];exact hn
   have hf1:FS.get d1.fs n=some ⟨t,[.cut f.good.toNat]⟩:=by rw[e2,FS.get_upd,if_pos rfl,hf];rfl
   have:=zIe u1 hn1 hf1 (P:=fun fd fs=>fd=d.fd/\fs=FS.upd d.fs n fun _=>⟨t.take f.good.toNat,[]⟩) (B:=fun fd fs=>fd=d.fd/\∃g,fs=FS.upd d.fs n (fun _=>g)/\(g=⟨t,[]⟩\/f.torn=true/\g=⟨t,[.cut f.good.toNat]⟩)) ⟨e1,_,e2,.inr ⟨ht,rfl⟩⟩ ⟨e1,by rw[e2,FS.upd_upd];rfl⟩
   rw[q1]at this;exact this
 · refine zIe hd hn hf ⟨rfl,_,self.symm,.inl rfl⟩ ⟨rfl,rfl⟩
theorem zQv(f:Fnd)(d:DS)(h1:d.armed=0)(h2:d.down=false):(d.mend f).1.armed=0/\(d.mend f).1.down=false:=by
 unfold DS.mend;split
 · exact⟨h1,h2⟩
 split
 · have c:=zQW (zd f) (fun _ g=>g.cut f.good) d h1 h2
   unfold zOX;split
   · exact zJ5 _ _ c.1 c.2
   · exact c
 · exact zJ5 _ _ h1 h2
theorem zL3(f:Fnd){d:DS}{A B:Nat}(h:d.ok A B):(d.mend f).1.ok (A+2) (B+1):=by
 unfold DS.mend;split
 · exact DS.ok_mono h (by omega) (by omega)
 split
 · have h1:=DS.ok_truncate h (zd f) f.good
   unfold zOX;split
   · exact DS.ok_sync h1 _
   · exact DS.ok_mono h1 (by omega) (by omega)
 · exact DS.ok_mono (DS.ok_sync h _) (by omega) (by omega)
end
end Go.Proofs.YtpmfecnajoojeaaGreatDoor
