/- Parts of the proof of ReplayBack: lemmas, each with its own conditions. -/
import Derived.Lib.RowBridge
import Derived.Test.YthafeihjlamhhaaGreatDoorY28
import Derived.Test.YthafeihjlamhhaaGreatDoorY22
set_option maxHeartbeats 64000000
open List renaming getElem?_eq_some_iff → q1Z, getElem?_eq_getElem → q3Z, take_of_length_le → q6Z, length_cons → q7Z, length_nil → q8Z, cons_append → q9Z, nil_append → qaZ, replicate → qbZ, mem_of_getElem? → qcZ, length_append → qdZ, getElem?_set_ne → qfZ, mem_cons_self → qhZ, mem_cons_of_mem → qiZ, length_take → qjZ, length_drop → qkZ, mem_cons → qwZ, mem_append → qxZ, mem_singleton → r1Z, append_nil → r2Z, getElem_mem → r3Z, take_append_drop → r6Z, length_map → r7Z, length_set → r8Z, not_mem_nil → rtZ, length_replicate → rwZ, map_cons → s1Z, all_eq_true → s5Z
open Option renaming map_eq_some_iff → qlZ
open Nat renaming le_refl → qnZ, lt_or_ge → s2Z, zero_add → s8Z, min_eq_left → sfZ
open Bool renaming false_eq_true → qsZ
namespace Go.Proofs.YthafeihjlamhhaaGreatDoor
open _root_.Go.Proofs.Tryz renaming prog → Pz
set_option maxRecDepth 100000
section
open Go Go.RowKit Go.Lib Go.Sort
theorem zNs{j:Inj}{H:zA}{w:World}(hR:R j H w):(∃v,w.cell? ⟨0,0,none⟩=some v/\zUh v)/\∃v,w.cell? ⟨1,0,none⟩=some v/\zUh v:=by
 have key:∀g,zJ4 (zCX w) g->∃v,w.cell? ⟨g,0,none⟩=some v/\zUh v:=by
   rintro g ⟨T,fz,v,h,hv⟩;unfold zCX at h;split at h
   · exact⟨v,by simp[World.cell?,h],hv⟩
   · cases h
 exact⟨key _ hR.glo.1.1.2.1,key _ hR.glo.1.1.2.2⟩
def zJ2:zU:=zAP fun
 | [.str s]=>if s.length<=1000000 then (match atoiAll s with
   | .ok v=>some (.tuple [.int .i64 v,.top])
   | .«syntax»=>some (.tuple [.int .i64 0,.top])
   | .range=>some (.tuple [.int .i64 (atoiSat s),.top])) else none
 | _=>none
theorem zHj:Sound Pz 154 zJ2:=by
 refine zo (zG Tryz.func154 rfl (by decide)) fun args v hv=>?_
 split at hv;rotate_left
 · cases hv
 rename_i s;split at hv;rotate_left
 · cases hv
 rename_i hs
 have key:∀x,v=.tuple [x,.top]->free x=true->(∀j w,R j [] w->Calls Pz 154 #[.string ⟨s.toArray⟩] w fun e w'=>∃cx cy,e=.returned (.tuple #[cx,cy])/\VR j x cx/\Below w.heap.size w w')->Ct Pz 154 [.str s] [] v []/\zP [AV.str s]=true/\free v=true:=by
   intro x hx hfx h;subst hx
   refine ⟨zB6 (by simp[free,zP,hfx]) fun j w cargs hR hargs=>?_,rfl,by simp[free,zP,hfx]⟩
   obtain⟨a,cs,e,h1,h2⟩:=hargs;simp only[VRs]at h2;subst h2;simp only[VR]at h1;subst h1
   have ec:cargs=#[.string ⟨s.toArray⟩]:=by apply Array.ext';rw[e]
   subst ec;refine (h j w hR).mono ?_;rintro e w' ⟨cx,cy,rfl,h3,h4⟩;exact⟨_,rfl,⟨#[cx,cy],rfl,cx,[cy],rfl,h3,cy,[],rfl,trivial,rfl⟩,h4⟩
 have hsz:(ByteArray.mk s.toArray).size=s.length:=by simp[ByteArray.size]
 split at hv <;> cases hv
 · rename_i n hn
   refine key _ rfl rfl fun j w hR=>?_
   refine (Tryz.strconv_Atoi_ok ⟨s.toArray⟩ (by rw[hsz];omega) n (by simpa using hn) w).mono ?_
   rintro e w' ⟨rfl,hw⟩;refine ⟨_,_,rfl,rfl,?_⟩;rcases hw with rfl | ⟨t,rfl⟩
   · exact Below.refl _ _
   · exact zNW _ _ _
 · rename_i hn
   refine key _ rfl rfl fun j w hR=>?_
   obtain⟨ev,h1,h2⟩:=(zNs hR).1
   refine (Tryz.strconv_Atoi_syntax ⟨s.toArray⟩ (by rw[hsz];omega) (by simpa using hn) ev w h1 h2).mono ?_
   rintro e w' ⟨N,rfl,_,_,hb⟩;exact⟨_,_,rfl,rfl,hb⟩
 · rename_i hn
   refine key _ rfl rfl fun j w hR=>?_
   obtain⟨ev,h1,h2⟩:=(zNs hR).2
   refine (Tryz.strconv_Atoi_range ⟨s.toArray⟩ (by rw[hsz];omega) (by simpa using hn) ev w h1 h2).mono ?_
   rintro e w' ⟨N,rfl,_,_,hb⟩
   exact⟨_,_,rfl,(by simp[VR]),hb⟩
end
section
open Go Go.Lib
attribute [-simp] zJ zT zk zL zm
theorem zT5{d:List UInt8}(h:d.length<=1000000):zJ2 [.str d]=fun H=>some (.tuple [.int .i64 (zCK d),.top],H,[]):=by
 funext H
 unfold zCK
 cases hq:atoiAll d <;> simp[zJ2,zAP,h,hq]
def Z9(k:Nat)(s:List UInt8):Int×Int :=
 if k<=1/\s=manifW then (1,0) else if k<=2/\s=tempW then (2,0)
 else if k<=3/\s.take 4=walW/\mk 3 (zCK (s.drop 4))=s then (3,zCK (s.drop 4))
 else if k<=4/\s.take 4=segW/\mk 4 (zCK (s.drop 4))=s then (4,zCK (s.drop 4)) else (0,0)
theorem zNU(s:List UInt8):Z9 0 s=ZX s:=by simp[Z9,ZX]
def zBd:List FuncId:=[124,125]
theorem zUw:GOk Pz (zAJ Pz (zj [(153,zE1),(154,zJ2),(58,mkS)]) 0 zBd 2):=zd hmix (zC zSG (zC zHj (zC zBz zE))) 0 zBd 2
theorem zT0(s:List UInt8)(hs:s.length<=1000000):Ct Pz 87 [.str s] [] (.tuple [.int .i64 (ZX s).1,.int .i64 (ZX s).2]) []:=by
 have hΓ:=zUw;obtain⟨r,hr⟩:∃r,ZX s=r:=⟨_,rfl⟩;rw[hr]
 have hs2:s.length<=1000000000000:=by omega
 have hA:∀j,zJ2 [.str (s.drop j)]=fun H=>some (.tuple [.int .i64 (zCK (s.drop j)),.top],H,[]):=fun j=>zT5 (by rw[qkZ];omega)
 have hl0:([]:List UInt8).length=0:=rfl;have hl1:manifW.length=8:=rfl;have hl2:tempW.length=12:=rfl;have hl3:walW.length=4:=rfl;have hl4:segW.length=4:=rfl
 have mk1:∀n,mk 1 n=manifW:=fun _=>rfl
 have mk2:∀n,mk 2 n=tempW:=fun _=>rfl
 refine zI Tryz.func87 rfl ?_;simp only[Tryz.ntmps87,q7Z,q8Z,Nat.reduceAdd,Nat.reduceSub,qbZ,q9Z,qaZ]
 refine Sim.step hmix hΓ (n:=0) (by simp;exact⟨rfl,rfl⟩) (by simp) ?_
 refine Sim.seq (Sim.step hmix hΓ (n:=0) (by simp[zBd,Tryz.f124];exact⟨rfl,rfl⟩) (by simp) ?_)
 refine Sim.block (Sim.loopW (fun k:Nat=>k<=5/\Z9 k s=r)
   (fun k=>[.str s,.top,.top,.top,.top,.top,.top,.top,.agg [.str [],.str manifW,.str tempW,.str walW,.str segW],.int .i64 k]++qbZ 31 .top)
   (fun _=>[]) (fun k=>5-k) 0 (by simp) ⟨by omega,by rw[zNU,hr]⟩ (Weak.mk' [] (by decide) (by decide) (by simp[manifW,tempW,walW,segW]) (by simp[AWg])) fun k hk=>?_)
 obtain⟨hk,hch⟩:=hk;by_cases hlt:k<5
 · have hlti:(k:Int)<5:=by omega
   refine Sim.step hmix hΓ (n:=0) (by simp[hlti];exact⟨rfl,rfl⟩) (by simp) ?_
   refine Sim.step hmix hΓ (n:=0) (by simp;exact⟨rfl,rfl⟩) (by simp) ?_
   refine Sim.seq (Sim.block ?_)
   match k,hlt with
   | 0,_ =>
     refine Sim.exec hmix hΓ (n:=0) (by simp +decide [hl0,zE1,mkS,hs2,zBd];exact⟨rfl,rfl,rfl⟩) (by simp) ?_
     dsimp only;rw[if_pos rfl]
     refine Sim.exec hmix hΓ (n:=0) (by simp +decide;exact⟨rfl,rfl,rfl⟩) (by simp) ?_
     dsimp only
     exact⟨1,⟨by omega,by rw[<-hch];simp[Z9]⟩,Weak.mk' [] (by decide) (by decide) (by simp) (by simp[AWg]),by omega⟩
   | 1,_ =>
     by_cases he:s=manifW
     · have hp:manifW.take 8=manifW:=by decide
       subst he
       refine Sim.exec hmix hΓ (n:=0) (by simp +decide [hl1,zE1,mkS,mk1,hA,zBd,Tryz.f125];exact⟨rfl,rfl,rfl⟩) (by simp) ?_
       dsimp only
       have hrr:r=(1,0):=by rw[<-hch];simp[Z9]
       rw[hrr]
       exact⟨.inr rfl,_,by simp[Tryz.f87] <;> rfl,Weak.mk' [] (by decide) (by decide) (by simp) (by simp[AWg])⟩
     · by_cases hp:s.take 8=manifW
       · have he':¬manifW=s:=fun e=>he e.symm
         have heb:(manifW==s)=false:=by simpa using he'
         refine Sim.exec hmix hΓ (n:=0) (by simp +decide [hl1,zE1,mkS,mk1,hs2,hA,zBd,hp,heb];exact⟨rfl,rfl,rfl⟩) (by simp) ?_
         dsimp only
         refine Sim.exec hmix hΓ (n:=0) (by simp +decide;exact⟨rfl,rfl,rfl⟩) (by simp) ?_
         dsimp only
         exact⟨2,⟨by omega,by rw[<-hch];simp[Z9,he]⟩,Weak.mk' [] (by decide) (by decide) (by simp) (by simp[AWg]),by omega⟩
       · refine Sim.exec hmix hΓ (n:=0) (by simp +decide [hl1,zE1,mkS,hs2,zBd,hp];exact⟨rfl,rfl,rfl⟩) (by simp) ?_
         dsimp only;rw[if_pos rfl]
         refine Sim.exec hmix hΓ (n:=0) (by simp +decide;exact⟨rfl,rfl,rfl⟩) (by simp) ?_
         dsimp only
         exact⟨2,⟨by omega,by rw[<-hch];simp[Z9,he]⟩,Weak.mk' [] (by decide) (by decide) (by simp) (by simp[AWg]),by omega⟩
   | 2,_ =>
     by_cases he:s=tempW
     · have hp:tempW.take 12=tempW:=by decide
       subst he
       refine Sim.exec hmix hΓ (n:=0) (by simp +decide [hl2,zE1,mkS,mk2,hA,zBd,Tryz.f125];exact⟨rfl,rfl,rfl⟩) (by simp) ?_
       dsimp only
       have hrr:r=(2,0):=by rw[<-hch];simp[Z9]
       rw[hrr]
       exact⟨.inr rfl,_,by simp[Tryz.f87] <;> rfl,Weak.mk' [] (by decide) (by decide) (by simp) (by simp[AWg])⟩
     · by_cases hp:s.take 12=tempW
       · have he':¬tempW=s:=fun e=>he e.symm
         have heb:(tempW==s)=false:=by simpa using he'
         refine Sim.exec hmix hΓ (n:=0) (by simp +decide [hl2,zE1,mkS,mk2,hs2,hA,zBd,hp,heb];exact⟨rfl,rfl,rfl⟩) (by simp) ?_
         dsimp only
         refine Sim.exec hmix hΓ (n:=0) (by simp +decide;exact⟨rfl,rfl,rfl⟩) (by simp) ?_
         dsimp only
         exact⟨3,⟨by omega,by rw[<-hch];simp[Z9,he]⟩,Weak.mk' [] (by decide) (by decide) (by simp) (by simp[AWg]),by omega⟩
       · refine Sim.exec hmix hΓ (n:=0) (by simp +decide [hl2,zE1,mkS,hs2,zBd,hp];exact⟨rfl,rfl,rfl⟩) (by simp) ?_
         dsimp only;rw[if_pos rfl]
         refine Sim.exec hmix hΓ (n:=0) (by simp +decide;exact⟨rfl,rfl,rfl⟩) (by simp) ?_
         dsimp only
         exact⟨3,⟨by omega,by rw[<-hch];simp[Z9,he]⟩,Weak.mk' [] (by decide) (by decide) (by simp) (by simp[AWg]),by omega⟩
   | 3,_ =>
     by_cases hp:s.take 4=walW
     · by_cases he:mk 3 (zCK (s.drop 4))=s
       · have heb:(mk 3 (zCK (s.drop 4))==s)=true:=by simpa using he
         refine Sim.exec hmix hΓ (n:=0) (by simp +decide [hl3,zE1,mkS,hs2,hA,zBd,Tryz.f125,hp,he];exact⟨rfl,rfl,rfl⟩) (by simp) ?_
         dsimp only
         have hrr:r=(3,zCK (s.drop 4)):=by rw[<-hch];simp[Z9,hp,he]
         rw[hrr]
         exact⟨.inr rfl,_,by simp[Tryz.f87] <;> rfl,Weak.mk' [] (by decide) (by decide) (by simp) (by simp[AWg])⟩
       · have heb:(mk 3 (zCK (s.drop 4))==s)=false:=by simpa using he
         refine Sim.exec hmix hΓ (n:=0) (by simp +decide [hl3,zE1,mkS,hs2,hA,zBd,hp,heb];exact⟨rfl,rfl,rfl⟩) (by simp) ?_
         dsimp only
         refine Sim.exec hmix hΓ (n:=0) (by simp +decide;exact⟨rfl,rfl,rfl⟩) (by simp) ?_
         dsimp only
         exact⟨4,⟨by omega,by rw[<-hch];simp[Z9,hp,he]⟩,Weak.mk' [] (by decide) (by decide) (by simp) (by simp[AWg]),by omega⟩
     · refine Sim.exec hmix hΓ (n:=0) (by simp +decide [hl3,zE1,mkS,hs2,zBd,hp];exact⟨rfl,rfl,rfl⟩) (by simp) ?_
       dsimp only;rw[if_pos rfl]
       refine Sim.exec hmix hΓ (n:=0) (by simp +decide;exact⟨rfl,rfl,rfl⟩) (by simp) ?_
       dsimp only
       exact⟨4,⟨by omega,by rw[<-hch];simp[Z9,hp]⟩,Weak.mk' [] (by decide) (by decide) (by simp) (by simp[AWg]),by omega⟩
   | 4,_ =>
     by_cases hp:s.take 4=segW
     · by_cases he:mk 4 (zCK (s.drop 4))=s
       · have heb:(mk 4 (zCK (s.drop 4))==s)=true:=by simpa using he
         refine Sim.exec hmix hΓ (n:=0) (by simp +decide [hl4,zE1,mkS,hs2,hA,zBd,Tryz.f125,hp,he];exact⟨rfl,rfl,rfl⟩) (by simp) ?_
         dsimp only
         have hrr:r=(4,zCK (s.drop 4)):=by rw[<-hch];simp[Z9,hp,he]
         rw[hrr]
         exact⟨.inr rfl,_,by simp[Tryz.f87] <;> rfl,Weak.mk' [] (by decide) (by decide) (by simp) (by simp[AWg])⟩
       · have heb:(mk 4 (zCK (s.drop 4))==s)=false:=by simpa using he
         refine Sim.exec hmix hΓ (n:=0) (by simp +decide [hl4,zE1,mkS,hs2,hA,zBd,hp,heb];exact⟨rfl,rfl,rfl⟩) (by simp) ?_
         dsimp only
         refine Sim.exec hmix hΓ (n:=0) (by simp +decide;exact⟨rfl,rfl,rfl⟩) (by simp) ?_
         dsimp only
         exact⟨5,⟨by omega,by rw[<-hch];simp[Z9,hp,he]⟩,Weak.mk' [] (by decide) (by decide) (by simp) (by simp[AWg]),by omega⟩
     · refine Sim.exec hmix hΓ (n:=0) (by simp +decide [hl4,zE1,mkS,hs2,zBd,hp];exact⟨rfl,rfl,rfl⟩) (by simp) ?_
       dsimp only;rw[if_pos rfl]
       refine Sim.exec hmix hΓ (n:=0) (by simp +decide;exact⟨rfl,rfl,rfl⟩) (by simp) ?_
       dsimp only
       exact⟨5,⟨by omega,by rw[<-hch];simp[Z9,hp]⟩,Weak.mk' [] (by decide) (by decide) (by simp) (by simp[AWg]),by omega⟩
 · have hk5:k=5:=by omega
   subst hk5
   have hrr:r=(0,0):=by rw[<-hch];simp[Z9]
   rw[hrr]
   refine Sim.step hmix hΓ (n:=0) (by simp;exact⟨rfl,rfl⟩) (by simp) ?_
   refine Sim.seq (Sim.exec hmix hΓ (n:=0) (by simp;exact⟨rfl,rfl,rfl⟩) (by simp) ?_)
   dsimp only;rw[if_pos rfl]
   refine Sim.exec hmix hΓ (n:=0) (by simp;exact⟨rfl,rfl,rfl⟩) (by simp) ?_
   exact⟨.inr rfl,_,by simp[Tryz.f87] <;> rfl,Weak.mk' [] (by decide) (by decide) (by simp) (by simp[AWg])⟩
def zLK:zU:=zAP fun
 | [.str s]=>if s.length<=1000000 then some (.tuple [.int .i64 (ZX s).1,.int .i64 (ZX s).2]) else none
 | _=>none
theorem zLS:Sound Pz 87 zLK:=by
 refine zo (zG Tryz.func87 rfl (by decide)) fun args v h=>?_
 split at h
 · split at h <;> cases h
   rename_i hc;exact⟨zT0 _ hc,rfl,rfl⟩
 · cases h
end
section
open Go Go.Lib Go.Sort
attribute [-simp] zJ zT zk zL zm
def zR(zs:List Int):List AV:=zs.map (AV.int .i64)
@[simp] theorem zKr(zs:List Int):(zR zs).length=zs.length:=by simp[zR]
def zA5:List AV->Option (List Int)
 | []=>some []
 | .int .i64 n::l=>(zA5 l).map (n::·)
 | _=>none
@[simp] theorem zDD:∀zs:List Int,zA5 (zR zs)=some zs
 | []=>rfl
 | z::zs=>by
   have:=zDD zs;simp only[zR,s1Z,zA5]at this ⊢
   rw[this];rfl
theorem zCq:∀{l:List AV} {zs:List Int},zA5 l=some zs->l=zR zs
 | [],zs,h=>by cases h;rfl
 | x::l,zs,h=>by
   unfold zA5 at h;split at h
   · rename_i h1;cases h1
   · rename_i n l' h1
     cases h1;obtain⟨ys,h2,rfl⟩:=qlZ.1 h
     rw[zCq h2];rfl
   · cases h
theorem zOL(j:Inj):∀zs:List Int,VRs j (zR zs) (zs.map (Value.int .i64))
 | []=>rfl
 | z::zs=>⟨_,_,rfl,by simp[VR],zOL j zs⟩
def srt(zs:List Int):List Int:=zs.mergeSort fun x y=>decide (x<=y)
theorem zKW{j:Inj}{H:zA}{w:World}(hR:R j H w){b:Nat}{zs:List Int}(hb:H[b]? = some (.cells true (zR zs))){p:JB}(hp:j b=some p) :
   Holds (Value.int .i64) w p.blk p.base zs.toArray:=by
 obtain⟨cs,T,fz,h1,h2,h3,h4,h5⟩:=hR.blk b _ p hb hp;intro i hi
 have hi':i<zs.length:=by simpa using hi
 have hx:(zR zs)[i]? = some (.int .i64 zs[i]):=by simp[zR,hi']
 obtain⟨v,hv,hvr⟩:=h4 i _ hx;simp only[VR]at hvr;subst hvr
 have h5':=h5 rfl (p.base+i) (by rw[zKr]at h3;omega)
 constructor
 · simp[World.cell?,h1,hv,hi']
 · obtain⟨lo,hi2⟩:=fz
   simp only[World.frozen?,h1];simp only[Bool.and_eq_false_iff,decide_eq_false_iff_not];by_cases hlo:lo<=p.base+i
   · exact .inr fun h=>h5' ⟨hlo,h⟩
   · exact .inl hlo
theorem zNr(w:World)(n:Nat):RowKit.Below w.heap.size w (w.drewN n):=⟨rfl,rfl,rfl,qnZ _,fun _ _=>rfl⟩
theorem zPh(w:World)(os:Array Obj):RowKit.Below w.heap.size w (grow w os) :=
 ⟨rfl,rfl,rfl,by simp[grow],fun c hc=>by simp only[grow];rw[Array.getElem?_append_left hc]⟩
theorem zKd{j:Inj}{H:zA}{w:World}(hR:R j H w){b:Nat}{zs ys:List Int}(hb:H[b]? = some (.cells true (zR zs))){p:JB}(hp:j b=some p)(hl:ys.length=zs.length)(n:Nat)(os:Array Obj) :
   Step H.length j H w j (H.set b (.cells true (zR ys))) (grow ((w.drewN n).setCells p.blk p.base (ys.map (Value.int .i64))) os):=by
 have s0:=Step.below hR (zNr w n) (qnZ H.length)
 have s1:=zEx s0.rel hb hp 0 (zR ys) (ys.map (Value.int .i64)) (zOL j ys) (by simp[hl])
 rw[List.take_zero,qaZ,s8Z,List.drop_of_length_le (by simp[hl]),r2Z,Nat.add_zero]at s1
 have s2:=Step.below s1.rel (zPh _ os) (qnZ _);rw[r8Z]at s2;exact (s0.trans s1 (qnZ _)).trans s2 (qnZ _)
theorem zSm{H:zA}{b:Nat}{zs:List Int}{c:Bool}(hb:H[b]? = some (.cells true (zR zs)))(hz:zs.length<=1000000000) :
   Ct Pz 293 [.sl b 0 zs.length 1 c] H (.tuple []) (H.set b (.cells true (zR (srt zs)))):=by
 intro j w cargs hR hargs;obtain⟨v,cs,e,h1,h2⟩:=hargs;simp only[VRs]at h2;subst h2
 have same:zs=[]->H.set b (.cells true (zR (srt zs)))=H:=by
   rintro rfl;obtain⟨g1,g2⟩:=q1Z.1 hb
   rw[show srt []=[] by simp[srt],<-g2,List.set_getElem_self]
 have hnone:∀q cap,zs=[]->cargs=#[.slice q 0 cap]->Calls Pz 293 cargs w fun e w'=>∃cv j2,e=.returned cv/\VR j2 (.tuple []) cv/\Step H.length j H w j2 (H.set b (.cells true (zR (srt zs)))) w':=by
   rintro q cap h0 rfl;rw[same h0];refine (Tryz.slices_Sort_int_none q cap w).mono ?_;rintro e w' ⟨rfl,rfl⟩;exact⟨_,j,rfl,⟨#[],rfl,rfl⟩,Step.refl hR (qnZ _)⟩
 rcases zDo h1 with⟨h0,rfl⟩ | h3
 · exact hnone _ _ (List.eq_nil_of_length_eq_zero h0) (by apply Array.ext';rw[e])
 · simp only[VR]at h3
   obtain⟨p,a,cap,hp,rfl,hcap,-,-,ha⟩:=h3
   have ec:cargs=#[.slice (some a) zs.length cap]:=by apply Array.ext';rw[e]
   by_cases h0:zs=[]
   · subst h0
     exact hnone _ _ rfl ec
   · have hlen:0<zs.length:=List.length_pos_iff.2 h0
     obtain⟨rfl,-⟩:a=⟨p.blk,p.base+0,none⟩/\p.base+0+cap*1<=p.size:=by
       rcases ha with h | h
       · omega
       · exact h
     rw[Nat.add_zero]at ec;subst ec;have hlt:=hR.lt hb hp;have hh:=zKW hR hb hp
     refine (Tryz.slices_Sort_int p.blk p.base cap zs w hh hlt (by omega)).mono ?_
     rintro e w' ⟨rfl,n,os,rfl⟩
     have hsl:(srt zs).length=zs.length:=by simp[srt]
     have hw:putRow (Value.int .i64) (Sort.ahead w n) p.blk p.base (srt zs).toArray=(w.drewN n).setCells p.blk p.base ((srt zs).map (Value.int .i64)):=putRow_eq_setCells (Value.int .i64) w p.blk p.base zs.toArray (srt zs) n hh (by simp[hsl])
     refine ⟨_,j,rfl,⟨#[],rfl,rfl⟩,?_⟩;show Step H.length j H w j _ (grow (putRow (Value.int .i64) (Sort.ahead w n) p.blk p.base (srt zs).toArray) os);rw[hw];exact zKd hR hb hp hsl n os
def zLH:zU:=fun args H=>match args with
 | [.sl b 0 n 1 _]=>match H[b]? with
   | some (.cells true l)=>match zA5 l with
     | some zs=>if n=zs.length/\zs.length<=1000000000 then some (.tuple [],H.set b (.cells true (zR (srt zs))),[b]) else none
     | none=>none
   | _=>none
 | _=>none
theorem zMP:Sound Pz 293 zLH:=by
 refine ⟨zG Tryz.func293 rfl (by decide),fun args H v H' W hs=>?_,fun args H v H' W hs=>?_⟩ <;> (unfold zLH at hs;split at hs <;> try cases hs) <;> (split at hs <;> try cases hs) <;> (rename_i b n c _ l hb;split at hs <;> try cases hs) <;> (rename_i zs hz;split at hs <;> cases hs;rename_i hc)
 · rw[zCq hz]at hb
   rw[hc.1];exact zSm hb hc.2
 · refine ⟨by simp,fun d hd hn=>?_⟩
   simp only[qwZ,rtZ,or_false]at hn;rw[qfZ (Ne.symm hn)]
theorem zE8(zs:List Int):(compact zs).length<=zs.length:=by
 unfold compact compactUpTo;rw[r7Z];refine Nat.le_trans (List.length_filter_le _ _) ?_;rw[List.length_range];exact qnZ _
def cpt(zs:List Int):List Int:=compact zs++qbZ (zs.length-(compact zs).length) 0
theorem zDH(zs:List Int):(cpt zs).length=zs.length:=by
 have:=zE8 zs;unfold cpt;rw[qdZ,rwZ];omega
theorem zMH{H:zA}{b:Nat}{zs:List Int}{c:Bool}(hb:H[b]? = some (.cells true (zR zs)))(hz:zs.length<=1000000000) :
   Ct Pz 294 [.sl b 0 zs.length 1 c] H (.sl b 0 (compact zs).length 1 false) (H.set b (.cells true (zR (cpt zs)))):=by
 intro j w cargs hR hargs;obtain⟨v,cs,e,h1,h2⟩:=hargs;simp only[VRs]at h2;subst h2
 have c0:zs=[]->compact zs=[]:=fun h=>List.eq_nil_of_length_eq_zero (by have:=zE8 zs;rw[h]at this ⊢;simpa using this)
 have same:zs=[]->H.set b (.cells true (zR (cpt zs)))=H:=by
   intro h
   have e0:cpt zs=[]:=List.eq_nil_of_length_eq_zero (by rw[zDH,h];rfl)
   subst h;obtain⟨g1,g2⟩:=q1Z.1 hb;rw[e0,<-g2,List.set_getElem_self]
 rcases zDo h1 with⟨h0,rfl⟩ | h3
 · have hnil:=List.eq_nil_of_length_eq_zero h0
   have ec:cargs=#[.slice none 0 0]:=by apply Array.ext';rw[e]
   subst ec;rw[same hnil,c0 hnil];refine (Tryz.slices_Compact_int_empty none 0 w).mono ?_;rintro e w' ⟨rfl,rfl⟩
   exact⟨_,j,rfl,by simp[VR],Step.refl hR (qnZ _)⟩
 · simp only[VR]at h3
   obtain⟨p,a,cap,hp,rfl,hcap,-,hmx,ha⟩:=h3
   have ec:cargs=#[.slice (some a) zs.length cap]:=by apply Array.ext';rw[e]
   by_cases h0:zs=[]
   · rw[same h0,c0 h0]
     subst h0;subst ec;refine (Tryz.slices_Compact_int_empty (some a) cap w).mono ?_;rintro e w' ⟨rfl,rfl⟩;refine ⟨_,j,rfl,?_,Step.refl hR (qnZ _)⟩;simp only[VR]
     exact .inr ⟨p,a,cap,hp,rfl,by simp,by simp,hmx,ha⟩
   · have hlen:0<zs.length:=List.length_pos_iff.2 h0
     obtain⟨rfl,hroom⟩:a=⟨p.blk,p.base+0,none⟩/\p.base+0+cap*1<=p.size:=by
       rcases ha with h | h
       · omega
       · exact h
     rw[Nat.add_zero]at ec hroom;subst ec;have hh:=zKW hR hb hp
     refine (Tryz.slices_Compact_int p.blk p.base cap zs w hh (by omega) hcap).mono ?_
     rintro e w' ⟨rfl,n,rfl⟩
     have hw:putRow (Value.int .i64) (Sort.ahead w n) p.blk p.base (cpt zs).toArray=(w.drewN n).setCells p.blk p.base ((cpt zs).map (Value.int .i64)):=putRow_eq_setCells (Value.int .i64) w p.blk p.base zs.toArray (cpt zs) n hh (by simp[zDH])
     refine ⟨_,j,rfl,?_,?_⟩
     · simp only[VR]
       exact .inr ⟨p,⟨p.blk,p.base,none⟩,cap,hp,rfl,by have:=zE8 zs;omega,by simp,hmx,.inr ⟨by simp,by simpa using hroom⟩⟩
     · show Step H.length j H w j _ (putRow (Value.int .i64) (Sort.ahead w n) p.blk p.base (cpt zs).toArray)
       rw[hw];have:=zKd hR hb hp (zDH zs) n #[]
       rwa [grow_empty]at this
def zEa:zU:=fun args H=>match args with
 | [.sl b 0 n 1 _]=>match H[b]? with
   | some (.cells true l)=>match zA5 l with
     | some zs=>if n=zs.length/\zs.length<=1000000000 then some (.sl b 0 (compact zs).length 1 false,H.set b (.cells true (zR (cpt zs))),[b]) else none
     | none=>none
   | _=>none
 | _=>none
theorem zHs:Sound Pz 294 zEa:=by
 refine ⟨zG Tryz.func294 rfl (by decide),fun args H v H' W hs=>?_,fun args H v H' W hs=>?_⟩ <;> (unfold zEa at hs;split at hs <;> try cases hs) <;> (split at hs <;> try cases hs) <;> (rename_i b n c _ l hb;split at hs <;> try cases hs) <;> (rename_i zs hz;split at hs <;> cases hs;rename_i hc)
 · rw[zCq hz]at hb
   rw[hc.1];exact zMH hb hc.2
 · refine ⟨by simp,fun d hd hn=>?_⟩
   simp only[qwZ,rtZ,or_false]at hn;rw[qfZ (Ne.symm hn)]
end
section
open Go Go.Lib
attribute [-simp] zJ zT zk zL zm
def zDf(k:Int)(s:List UInt8):Option Int:=if (ZX s).1=k/\0<(ZX s).2 then some (ZX s).2 else none
def zAT(k:Int)(l:List (List UInt8)):List Int:=l.filterMap (zDf k)
def Z3(k:Int)(l:List (List UInt8)):List Int:=compact (srt (zAT k l))
theorem zIZ(zs:List Int):(srt zs).length=zs.length:=by simp[srt]
theorem zNR(k:Int)(l:List (List UInt8))(i:Nat)(s:List UInt8)(h:l[i]? = some s):zAT k (l.take (i+1))=zAT k (l.take i)++(match zDf k s with | some n=>[n] | none=>[]):=by
 unfold zAT;rw[List.take_add_one,h,List.filterMap_append]
 congr 1
 simp only[Option.toList,List.filterMap_cons,List.filterMap_nil]
 cases zDf k s <;> rfl
theorem zEl(k:Int)(l:List (List UInt8)):(zAT k l).length<=l.length:=List.length_filterMap_le _ _
theorem zNy(a:List Int)(n:Int):zR a++[.int .i64 n]=zR (a++[n]):=by simp[zR]
theorem ZV(a:List Int):zP (zR a)=true:=ZA _ _ fun _=>rfl
def zSk:List FuncId:=[262]
theorem zU4:GOk Pz (zAJ Pz (zj [(87,zLK),(293,zLH),(294,zEa)]) 0 zSk 2):=zd hmix (zC zLS (zC zMP (zC zHs zE))) 0 zSk 2
theorem zPH(k:Int)(l:List (List UInt8))(hl:l.length<=1000000)(hs:∀s∈l,s.length<=1000000) :
   Ct Pz 204 [.int .i64 k,.sl 0 0 l.length 1 false] [.cells false (l.map .str)] (.sl 1 0 (Z3 k l).length 1 false) [.cells false (l.map .str),.cells true (zR (cpt (srt (zAT k l))))]:=by
 have hΓ:=zU4
 have fl:zP (l.map AV.str)=true:=ZA _ _ fun _=>rfl
 refine zI Tryz.func204 rfl ?_;simp only[Tryz.ntmps204,q7Z,q8Z,Nat.reduceAdd,Nat.reduceSub,qbZ,q9Z,qaZ]
 refine Sim.step hmix hΓ (n:=0) (by simp;exact⟨rfl,rfl⟩) (by simp) ?_
 refine Sim.seq (Sim.step hmix hΓ (n:=0) (by simp;exact⟨rfl,rfl⟩) (by simp) ?_)
 refine Sim.block (Sim.loopW (fun i:Nat=>i<=l.length)
   (fun i=>[.int .i64 k,.top,.top,.top,.sl 1 0 (zAT k (l.take i)).length 1 false,.top,.top,.top,.top,.sl 0 0 l.length 1 false,.int .i64 l.length,.int .i64 i]++qbZ 22 .top)
   (fun i=>[.cells false (l.map .str),.cells true (zR (zAT k (l.take i)))]) (fun i=>l.length-i) 0 (by simp) (by omega) (Weak.mk' [0,100] (by decide) (by decide) (by simp[zAT]) (by simp[fl])) fun i hi=>?_)
 obtain⟨out,ho⟩:∃out,zAT k (l.take i)=out:=⟨_,rfl⟩
 have hol:out.length<=1000000:=by rw[<-ho];have h1:=zEl k (l.take i);rw[qjZ]at h1;omega
 rw[ho];by_cases hlt:i<l.length
 · have hlti:(i:Int)<l.length:=by omega
   obtain⟨s,hs1⟩:∃s,l[i]=s:=⟨_,rfl⟩
   have hs':l[i]? = some s:=by rw[q3Z hlt,hs1]
   have hsl:=hs s (qcZ hs')
   have hg:∀h,l[i]'h=s:=fun h=>hs1
   have hw:IntKind.i64.wrap ((i:Int)+1)=i+1:=zW (by omega) (by omega)
   have hnext:=zNR k l i s hs';rw[ho]at hnext;obtain⟨a,n,hp⟩:∃a n,ZX s=(a,n):=⟨_,_,rfl⟩
   have htk:List.take out.length (zR out)=zR out:=q6Z (by simp)
   have b1:(out.length+1)*8<=140737488355328:=by omega
   have b2:out.length+1<=9223372036854775807:=by omega
   refine Sim.step hmix hΓ (n:=0) (by simp[hlti];exact⟨rfl,rfl⟩) (by simp) ?_
   refine Sim.step hmix hΓ (n:=0) (by simp;exact⟨rfl,rfl⟩) (by simp) ?_
   refine Sim.seq (Sim.block ?_)
   refine Sim.step hmix hΓ (n:=0) (by simp +decide [hlt,hg];exact⟨rfl,rfl⟩) (by simp) ?_
   refine Sim.step hmix hΓ (n:=0) (by simp +decide [zLK,hsl,hp];exact⟨rfl,rfl⟩) (by simp) ?_
   by_cases hc:a=k/\0<n
   · have hq:zDf k s=some n:=by unfold zDf;rw[hp];exact if_pos hc
     rw[hq]at hnext;dsimp only at hnext;obtain⟨rfl,hn0⟩:=hc
     refine Sim.exec hmix hΓ (n:=0) (by simp +decide [hn0,b1,b2];exact⟨rfl,rfl,rfl⟩) (by simp) ?_
     dsimp only
     refine Sim.exec hmix hΓ (n:=0) (by simp[hw];exact⟨rfl,rfl,rfl⟩) (by simp) ?_
     dsimp only
     exact⟨i+1,by omega,Weak.mk' [0,3] (by decide) (by decide) (by simp[hnext]) (by simp[hnext,fl,htk,zNy,ZV]),by omega⟩
   · have hq:zDf k s=none:=by unfold zDf;rw[hp];exact if_neg hc
     rw[hq]at hnext;simp only[r2Z]at hnext;by_cases ha:a=k
     · have hn0:¬0<n:=fun h=>hc ⟨ha,h⟩
       refine Sim.exec hmix hΓ (n:=0) (by simp +decide [ha,hn0];exact⟨rfl,rfl,rfl⟩) (by simp) ?_
       dsimp only
       refine Sim.exec hmix hΓ (n:=0) (by simp[hw];exact⟨rfl,rfl,rfl⟩) (by simp) ?_
       dsimp only
       exact⟨i+1,by omega,Weak.mk' [0,1] (by decide) (by decide) (by simp[hnext]) (by simp[hnext,fl,ZV]),by omega⟩
     · have hab:(a==k)=false:=by simpa using ha
       refine Sim.exec hmix hΓ (n:=0) (by simp +decide [hab];exact⟨rfl,rfl,rfl⟩) (by simp) ?_
       dsimp only
       refine Sim.exec hmix hΓ (n:=0) (by simp[hw];exact⟨rfl,rfl,rfl⟩) (by simp) ?_
       dsimp only
       exact⟨i+1,by omega,Weak.mk' [0,1] (by decide) (by decide) (by simp[hnext]) (by simp[hnext,fl,ZV]),by omega⟩
 · have hkn:i=l.length:=by omega
   have hlti:¬(i:Int)<l.length:=by omega
   rw[hkn,List.take_length]at ho;have hsl:=zIZ out
   have hb9:out.length<=1000000000:=by omega
   unfold Z3;rw[ho]
   refine Sim.step hmix hΓ (n:=0) (by simp[hlti];exact⟨rfl,rfl⟩) (by simp) ?_
   refine Sim.seq (Sim.exec hmix hΓ (n:=0) (by simp;exact⟨rfl,rfl,rfl⟩) (by simp) ?_)
   dsimp only;rw[if_pos rfl]
   refine Sim.exec hmix hΓ (n:=0) (by simp[zSk,Tryz.f262,zLH,zEa,hsl,hb9];exact⟨rfl,rfl,rfl⟩) (by simp) ?_
   exact⟨.inr rfl,_,by simp[Tryz.f204] <;> rfl,Weak.mk' [0,1] (by decide) (by decide) (by simp) (by simp[fl,ZV])⟩
def zJ7(H:zA):AV->Option (List (List UInt8))
 | .nils=>some []
 | .slice b off len 1 _=>match H[b]? with
   | some (.cells _ l)=>if off+len<=l.length then ZY ((l.drop off).take len) else none
   | _=>none
 | .sl b off len 1 _=>match H[b]? with
   | some (.cells _ l)=>if off+len<=l.length then ZY ((l.drop off).take len) else none
   | _=>none
 | _=>none
theorem zJw{H:zA}{x:AV}{a:List (List UInt8)}(h:zJ7 H x=some a):∃b off,(∀(i:Nat) (wd:List (Nat×Nat)),wd[i]? = some (b,off)->zBq wd (.sl i 0 a.length 1 false) x) /\
   (match H[b]? with | some (.cells _ l)=>off+(a.map AV.str).length<=l.length/\a.map AV.str=(l.drop off).take (a.map AV.str).length | none=>True | _=>False):=by
 have key:∀(b off len:Nat) (o:Bool) (l:List AV),H[b]? = some (.cells o l)->off+len<=l.length->ZY ((l.drop off).take len)=some a->len=a.length/\off+(a.map AV.str).length<=l.length/\a.map AV.str=(l.drop off).take (a.map AV.str).length:=by
   intro b off len o l hb hle hs;have e:=zCt hs
   have hlen:len=a.length:=by
     have:=congrArg List.length e;simp at this;omega
   subst hlen
   exact⟨rfl,by simpa using hle,by rw[r7Z];exact e.symm⟩
 unfold zJ7 at h;split at h
 · cases h
   exact⟨H.length,0,fun i wd _=>by simp[zBq],by simp⟩
 · rename_i b off len c
   split at h;rotate_left
   · cases h
   rename_i o l hb;split at h;rotate_left
   · cases h
   rename_i hle;obtain⟨rfl,h1,h2⟩:=key b off len o l hb hle h
   exact⟨b,off,fun i wd hw=>by simp[zBq,hw],by rw[hb];exact⟨h1,h2⟩⟩
 · rename_i b off len c
   split at h;rotate_left
   · cases h
   rename_i o l hb;split at h;rotate_left
   · cases h
   rename_i hle;obtain⟨rfl,h1,h2⟩:=key b off len o l hb hle h
   exact⟨b,off,fun i wd hw=>by simp[zBq,hw],by rw[hb];exact⟨h1,h2⟩⟩
 · cases h
mutual
theorem zSL(k:Nat):∀x:AV,free x=true->shA k x=x
 | .top,_ | .bool _,_ | .int _ _,_ | .str _,_ | .nilp,_ | .nils,_ | .nilm,_ | .nilf,_=>rfl
 | .ptr ..,h | .slice ..,h | .sl ..,h | .map _,h | .yld _,h=>by simp[free]at h
 | .func f xs ys,h=>by simp at h;simp[Zg k xs h.1,Zg k ys h.2]
 | .agg l,h=>by simp at h;simp[Zg k l h]
 | .tuple l,h=>by simp at h;simp[Zg k l h]
theorem Zg(k:Nat):∀xs:List AV,zP xs=true->Z6 k xs=xs
 | [],_=>rfl
 | x::xs,h=>by simp at h;simp[zSL k x h.1,Zg k xs h.2]
end
@[simp] theorem zX4(k:Nat)(a:List Int):Z6 k (zR a)=zR a:=Zg k _ (ZV a)
def zIR:zU:=zBV fun args H=>match args with
 | [.int .i64 k,x]=>match zJ7 H x with
   | some l=>if l.length<=1000000/\(l.all fun s=>decide (s.length<=1000000))=true then some (.sl 0 0 (Z3 k l).length 1 false,[.cells true (zR (cpt (srt (zAT k l))))]) else none
   | none=>none
 | _=>none
theorem zJg:Sound Pz 204 zIR:=by
 refine zCM (zG Tryz.func204 rfl (by decide)) fun args H v N h=>?_
 split at h <;> try cases h
 rename_i k x
 split at h <;> try cases h
 rename_i l hx
 split at h <;> cases h
 rename_i hc;obtain⟨b1,o1,w1,g1⟩:=zJw hx
 refine zLa (H0:=[.cells false (l.map .str)]) (args0:=[.int .i64 k,.sl 0 0 l.length 1 false]) ?_ rfl [(b1,o1)] ⟨by simp[zBq],w1 0 _ rfl,trivial⟩ ⟨g1,ZA _ _ fun _=>rfl,trivial⟩
 have:=zPH k l hc.1 (fun s hs=>by simpa using s5Z.1 hc.2 s hs)
 simpa using this
end
section
open Go Go.Lib
def zI4(l:List Int):Prop:=l.Pairwise (· < ·)
theorem zNq:∀{l m:List Int},zI4 l->zI4 m->(∀x,x∈l↔x∈m)->l=m
 | [],[],_,_,_=>rfl
 | [],y::m,_,_,h=>absurd ((h y).2 (qhZ ..)) (by simp)
 | x::l,[],_,_,h=>absurd ((h x).1 (qhZ ..)) (by simp)
 | x::l,y::m,hl,hm,h=>by
   obtain⟨h1,h2⟩:=List.pairwise_cons.1 hl;obtain⟨h3,h4⟩:=List.pairwise_cons.1 hm
   have hxy:x=y:=by
     rcases qwZ.1 ((h x).1 (qhZ ..)) with e | e
     · exact e
     · rcases qwZ.1 ((h y).2 (qhZ ..)) with e' | e'
       · exact e'.symm
       · have:=h3 x e;have:=h1 y e';omega
   subst hxy
   refine congrArg _ (zNq h2 h4 fun z=>⟨fun hz=>?_,fun hz=>?_⟩)
   · rcases qwZ.1 ((h z).1 (qiZ _ hz)) with e | e
     · have:=h1 z hz;omega
     · exact e
   · rcases qwZ.1 ((h z).2 (qiZ _ hz)) with e | e
     · have:=h3 z hz;omega
     · exact e
theorem zS0(zs:List Int):(srt zs).Perm zs:=List.mergeSort_perm _ _
theorem zJJ(zs:List Int):(srt zs).Pairwise (·<=·):=by
 have:=List.pairwise_mergeSort (le:=fun (x y:Int)=>decide (x<=y)) (fun a b c h1 h2=>by simp at h1 h2 ⊢;omega) (fun a b=>by simp;omega) zs
 exact this.imp fun h=>by simpa using h
theorem zDV(d:Array Int)(hd:∀i j,i<j->j<d.size->d[i]!<=d[j]!):∀m,m<=d.size ->
   zI4 (compactUpTo d m)/\(∀x,x∈compactUpTo d m↔∃i,i<m/\d[i]! = x)/\(∀x∈compactUpTo d m,x<=d[m-1]!)
 | 0,_=>⟨List.Pairwise.nil,by simp[compactUpTo],by simp[compactUpTo]⟩
 | m+1,hm=>by
   obtain⟨h1,h2,h3⟩:=zDV d hd m (by omega)
   rw[compactUpTo_succ]
   have hprev:0<m->d[m-1]!<=d[m]!:=fun h=>hd _ _ (by omega) (by omega)
   cases hk:keeps d m with
   | true =>
     have hk':m=0\/d[m]!≠d[m-1]!:=by simpa[keeps] using hk
     simp only[if_true]
     have hlt:∀x∈compactUpTo d m,x<d[m]!:=fun x hx=>by
       rcases hk' with rfl | hne
       · simp[compactUpTo]at hx
       · have a1:=h3 x hx
         by_cases h0:m=0
         · subst h0;simp[compactUpTo]at hx
         · have:=hprev (by omega);omega
     refine ⟨?_,fun x=>?_,fun x hx=>?_⟩
     · unfold zI4
       rw[List.pairwise_append]
       exact⟨h1,List.pairwise_singleton _ _,fun x hx y hy=>by rcases r1Z.1 hy with rfl;exact hlt x hx⟩
     · rw[qxZ,h2,r1Z]
       constructor
       · rintro (⟨i,hi,rfl⟩ | rfl)
         · exact⟨i,by omega,rfl⟩
         · exact⟨m,by omega,rfl⟩
       · rintro⟨i,hi,rfl⟩
         rcases s2Z i m with h | h
         · exact .inl ⟨i,h,rfl⟩
         · exact .inr (by rw[show i=m by omega])
     · rw[Nat.add_sub_cancel]
       rcases qxZ.1 hx with hx | hx
       · have:=hlt x hx;omega
       · rcases r1Z.1 hx with rfl;omega
   | false =>
     have hk':¬(m=0\/d[m]!≠d[m-1]!):=by simpa[keeps] using hk
     have m0:m≠0:=fun h=>hk' (.inl h)
     have meq:d[m]! = d[m-1]!:=Classical.byContradiction fun h=>hk' (.inr h)
     simp only[qsZ,if_false,r2Z]
     refine ⟨h1,fun x=>?_,fun x hx=>?_⟩
     · rw[h2]
       constructor
       · rintro⟨i,hi,rfl⟩;exact⟨i,by omega,rfl⟩
       · rintro⟨i,hi,rfl⟩
         rcases s2Z i m with h | h
         · exact⟨i,h,rfl⟩
         · exact⟨m-1,by omega,by rw[show i=m by omega,meq]⟩
     · rw[Nat.add_sub_cancel,meq];exact h3 x hx
theorem zHA(zs:List Int)(h:zs.Pairwise (·<=·)):zI4 (compact zs)/\∀x,x∈compact zs↔x∈zs:=by
 have hget:∀i,i<zs.length->zs.toArray[i]! = zs[i]!:=fun i hi=>by simp[hi]
 obtain⟨h1,h2,-⟩:=zDV zs.toArray (fun i j hij hj=>by
   have hj':j<zs.length:=by simpa using hj
   rw[hget i (by omega),hget j hj',getElem!_pos zs i (by omega),getElem!_pos zs j hj']
   exact List.pairwise_iff_getElem.1 h i j (by omega) hj' hij) zs.length (by simp)
 refine ⟨h1,fun x=>?_⟩
 rw[show compact zs=compactUpTo zs.toArray zs.length from rfl,h2]
 constructor
 · rintro⟨i,hi,rfl⟩
   rw[hget i hi,getElem!_pos zs i hi];exact r3Z hi
 · intro hx
   obtain⟨i,hi,rfl⟩:=List.mem_iff_getElem.1 hx
   exact⟨i,hi,by rw[hget i hi,getElem!_pos zs i hi]⟩
theorem zIq(k:Int)(l:List (List UInt8)):zI4 (Z3 k l):=(zHA _ (zJJ _)).1
theorem zMl(k:Int)(l:List (List UInt8))(x:Int):x∈Z3 k l↔∃s∈l,zDf k s=some x:=by
 unfold Z3;rw[(zHA _ (zJJ _)).2,(zS0 _).mem_iff];unfold zAT;rw[List.mem_filterMap]
end
section
open Go Go.Lib
theorem Vy.get_nine(s:List UInt8)(a:Int):(Vy.get s a).2.2≠9:=by
 unfold Vy.get;dsimp only
 repeat' split
 all_goals simp
theorem Fr.get_nine{s:List UInt8}{a:Int}(h:(Fr.get s a).2.2=9):a=s.length:=by
 unfold Fr.get at h;split at h
 · simp at h
 split at h
 · assumption
 split at h
 · exact absurd h (Vy.get_nine s a)
 repeat' split at h
 all_goals simp at h
theorem Rp.one_take{s:List UInt8}{a:Int}{x:En}{b:Int}(h:Rp.one s a=some (x,b)){g:Nat}(hg:b<=g):Rp.one (s.take g) a=some (x,b):=by
 obtain⟨w1,w2,w3,w4,w5,w6⟩:=Rp.one_way h
 obtain⟨k,rfl⟩:∃k:Nat,a=k:=⟨a.toNat,by omega⟩
 obtain⟨m,hm⟩:∃m:Nat,(Fr.get s k).2.1=m:=⟨(Fr.get s k).2.1.toNat,by omega⟩
 have e:s.take m++(s.take g).drop m=s.take g:=by
   have h1:s.take m=(s.take g).take m:=by rw[List.take_take,sfZ (by omega)]
   rw[h1,r6Z]
 have h2:=Fr.get_own s ((s.take g).drop m) k (by omega) w4
 rw[hm,Int.toNat_natCast,e]at h2;unfold Rp.one at h ⊢;rw[h2];exact h
theorem Rp.one_end(s:List UInt8):Rp.one s s.length=none:=by
 have h9:(Fr.get s s.length).2.2=9:=by
   unfold Fr.get
   rw[if_neg (by omega),if_pos rfl]
 unfold Rp.one;rw[if_neg];rintro⟨h,_⟩;rw[h9]at h
 exact absurd h (by decide)
theorem Rp.one_neg{s:List UInt8}{a:Int}(h:(Fr.get s a).2.2≠0):Rp.one s a=none:=by
 unfold Rp.one
 rw[if_neg fun hc=>h hc.1]
theorem Rp.rd_way(s:List UInt8):∀(k:Nat) (a:Int),0<=a->a<=s.length->s.length-a.toNat<=k->a<=(Rp.rd s a).2/\(Rp.rd s a).2<=s.length/\∀g:Nat,(Rp.rd s a).2=g->Rp.rd (s.take g) a=Rp.rd s a:=by
 intro k
 induction k with
 | zero =>
   intro a h0 h1 hk
   have ea:a=s.length:=by omega
   subst ea;rw[Rp.rd_none h1 (Rp.one_end s)]
   refine ⟨Int.le_refl _,h1,fun g hg=>?_⟩
   dsimp only at hg
   have:g=s.length:=by omega
   rw[this,List.take_length,Rp.rd_none h1 (Rp.one_end s)]
 | succ k ih =>
   intro a h0 h1 hk
   cases hx:Rp.one s a with
   | none =>
     rw[Rp.rd_none h1 hx]
     refine ⟨Int.le_refl _,h1,fun g hg=>?_⟩
     dsimp only at hg
     have hl:(s.take g).length=g:=by rw[qjZ];omega
     have he:=Rp.one_end (s.take g);rw[hl,<-hg]at he
     rw[Rp.rd_none (by rw[hl];omega) he]
   | some y =>
     obtain⟨x,b⟩:=y;obtain⟨w1,w2,w3,_⟩:=Rp.one_way hx
     obtain⟨i1,i2,i3⟩:=ih b (by omega) w3 (by omega)
     rw[Rp.rd_some hx]
     refine ⟨by dsimp only;omega,i2,fun g hg=>?_⟩
     dsimp only at hg
     rw[Rp.rd_some (Rp.one_take hx (g:=g) (by omega)),i3 g hg]
theorem Rp.rd_cut(s:List UInt8):0<=(Rp.rd s 0).2/\(Rp.rd s 0).2<=s.length/\Rp.rd (s.take (Rp.rd s 0).2.toNat) 0=Rp.rd s 0:=by
 obtain⟨h1,h2,h3⟩:=Rp.rd_way s s.length 0 (Int.le_refl _) (by omega) (by omega)
 exact⟨h1,h2,h3 _ (by omega)⟩
theorem Fr.allF_stop(s:List UInt8):∀(k:Nat) (a:Int),(s.length:Int)<a+k->a<=s.length->(Fr.get s (Fr.allF s k a).2.1).2.2≠0
 | 0,a,h,h2=>by omega
 | k+1,a,h,h2=>by
   unfold Fr.allF;by_cases e:(Fr.get s a).2.2=0
   · obtain⟨w1,w2,w3⟩:=Fr.get_way s a e
     rw[if_pos e]
     exact Fr.allF_stop s k _ (by push_cast at h;omega) w3
   · rw[if_neg e]
     exact e
theorem Fr.all_stop(s:List UInt8):(Fr.get s (Fr.all s 0).2.1).2.2≠0:=Fr.allF_stop s _ 0 (by omega) (by omega)
theorem Rp.rd_all(s:List UInt8):∀(es:List En) (a:Int),0<=a->a<=s.length->(Fr.all s a).1=zDX es->(∀e∈es,okE e)->Rp.rd s a=(es,(Fr.all s a).2.1)
 | [],a,h0,h1,h2,_=>by
   have hn:(Fr.get s a).2.2≠0:=fun hc=>by rw[Fr.all_ok s a hc]at h2;simp[zDX]at h2
   rw[Fr.all_end s a h1 hn,Rp.rd_none h1 (Rp.one_neg hn)]
 | e::es,a,h0,h1,h2,h3=>by
   have hy:(Fr.get s a).2.2=0:=Classical.byContradiction fun hn=>by rw[Fr.all_end s a h1 hn]at h2;simp[zDX]at h2
   obtain⟨w1,w2,w3⟩:=Fr.get_way s a hy;rw[Fr.all_ok s a hy]at h2 ⊢;simp only[zDX,s1Z,List.cons.injEq]at h2
   have hg:Rp.one s a=some (e,(Fr.get s a).2.1):=by
     unfold Rp.one;rw[h2.1,zMC (h3 e (qhZ ..))];rw[if_pos ⟨hy,rfl⟩]
   rw[Rp.rd_some hg,Rp.rd_all s es _ (by omega) w3 h2.2 fun e he=>h3 e (qiZ _ he)]
theorem Rp.rd_pay{s:List UInt8}{es:List En}(h:(Fr.all s 0).1=zDX es)(ho:∀e∈es,okE e):(Rp.rd s 0).1=es/\((Fr.all s 0).2.2=0->(Rp.rd s 0).2=s.length):=by
 have h1:=Rp.rd_all s es 0 (Int.le_refl _) (by omega) h ho
 rw[h1]
 refine ⟨rfl,fun h2=>?_⟩
 obtain⟨⟨l,x,f⟩,hr⟩:∃r,Fr.all s 0=r:=⟨_,rfl⟩;have h3:=Fr.all_last s l x f hr;rw[hr]at h2 h1 ⊢;dsimp only at h2 h1 ⊢;subst h2
 have h4:(Fr.get s x).2.2=9:=by
   by_cases h9:(Fr.get s x).2.2=9
   · exact h9
   · rw[if_neg h9]at h3
     exfalso;have h6:=Fr.all_stop s;rw[hr]at h6;exact h6 h3.symm
 exact Fr.get_nine h4
structure Fnd where
 logs:List Int
 es:List En
 good:Int
 torn:Bool
def Fnd.no:Fnd:=⟨[],[],0,false⟩
def Fnd.add(f:Fnd)(t:List UInt8):Fnd:=⟨f.logs,f.es++(Rp.rd t 0).1,(Rp.rd t 0).2,decide ((Rp.rd t 0).2<t.length)⟩
def zc(get:List UInt8->List UInt8):List Int->Fnd->Fnd×Int
 | [],f=>(f,0)
 | n::l,f=>if f.torn=true then (Fnd.no,12) else zc get l (f.add (get (mk 3 n)))
def zBE(x:Int)(l:List Int):Nat:=(l.takeWhile fun n=>decide (n<x)).length
def zCB(x:Int)(l:List Int):List Int:=l.drop (zBE x l)
def okL(x:Int)(l:List Int):Prop:=l.getD 0 0=x/\l.getD (l.length-1) 0=x+l.length-1/\l.getD (l.length-1) 0<=900000000
instance (x:Int) (l:List Int):Decidable (okL x l):=by unfold okL;infer_instance
def ZM(x:Int)(names:List (List UInt8)):List Int×Int :=
 if x<1\/900000000<x then ([],2) else if (zCB x (Z3 3 names)).length=0 then ([],0) else if okL x (zCB x (Z3 3 names)) then (zCB x (Z3 3 names),0) else ([],12)
def DS.load(d:DS)(x:Int):Fnd×Int :=
 if d.down=true then (Fnd.no,13) else if (ZM x d.list).2=0 then zc d.text (ZM x d.list).1 ⟨(ZM x d.list).1,[],0,false⟩ else (Fnd.no,(ZM x d.list).2)
def ZC(f:Fnd):List UInt8:=mk 3 (f.logs.getD (f.logs.length-1) 0)
def DS.mend(d:DS)(f:Fnd):DS×Int:=if f.logs.length=0 then (d,0) else if f.torn=true then zRx (d.truncate (ZC f) f.good) (fun d=>d.sync (ZC f)) else d.sync (ZC f)
theorem zEw(get:List UInt8->List UInt8):∀(a b:List Int) (f:Fnd),zc get (a++b) f=if (zc get a f).2=0 then zc get b (zc get a f).1 else zc get a f
 | [],b,f=>by simp[zc]
 | n::a,b,f=>by
   simp only[q9Z,zc];split
   · rfl
   · exact zEw get a b _
theorem zHB(get:List UInt8->List UInt8):∀(a:List Int) (f:Fnd),(zc get a f).2=0->(zc get a f).1.logs=f.logs
 | [],f,_=>rfl
 | n::a,f,h=>by
   simp only[zc]at h ⊢;split
   · rename_i h1;rw[if_pos h1]at h;exact absurd h (by decide)
   · rename_i h1;rw[if_neg h1]at h;exact zHB get a (f.add _) h
theorem zHz(get:List UInt8->List UInt8):∀(a:List Int) (f:Fnd),(zc get a f).2=0\/zc get a f=(Fnd.no,12)
 | [],f=>.inl rfl
 | n::a,f=>by
   simp only[zc];split
   · exact .inr rfl
   · exact zHz get a _
theorem zFl{get get':List UInt8->List UInt8}:∀(a:List Int) (f:Fnd),(∀n∈a,get' (mk 3 n)=get (mk 3 n))->zc get' a f=zc get a f
 | [],f,_=>rfl
 | n::a,f,h=>by
   simp only[zc]
   rw[h n (qhZ ..),zFl a _ fun m hm=>h m (qiZ _ hm)]
theorem zPV{get get':List UInt8->List UInt8}{l:List Int}{n:Int}{f0 f:Fnd}(h:zc get (l++[n]) f0=(f,0))(hl:∀m∈l,get' (mk 3 m)=get (mk 3 m))
   (hn:get' (mk 3 n)=get (mk 3 n)\/get' (mk 3 n)=(get (mk 3 n)).take f.good.toNat) :
   f.good=(Rp.rd (get (mk 3 n)) 0).2/\f.torn=decide (f.good<(get (mk 3 n)).length)/\0<=f.good/\f.good<=(get (mk 3 n)).length /\
     zc get' (l++[n]) f0=(⟨f.logs,f.es,f.good,decide (f.good<(get' (mk 3 n)).length)⟩,0):=by
 rw[zEw]at h ⊢;rw[zFl l f0 hl]
 have h1:(zc get l f0).2=0:=by
   rcases zHz get l f0 with h1 | h1
   · exact h1
   · rw[h1]at h;simp at h
 rw[if_pos h1]at h ⊢;obtain⟨⟨f1,e1⟩,hf1⟩:∃r,zc get l f0=r:=⟨_,rfl⟩;rw[hf1]at h ⊢;simp only[zc]at h ⊢;split at h
 · simp at h
 rename_i ht;rw[if_neg ht];simp only[Prod.mk.injEq,and_true]at h;subst h;have hc:=Rp.rd_cut (get (mk 3 n));unfold Fnd.add at hn ⊢;dsimp only at hn ⊢;refine ⟨rfl,rfl,hc.1,hc.2.1,?_⟩
 have hr:Rp.rd (get' (mk 3 n)) 0=Rp.rd (get (mk 3 n)) 0:=by
   rcases hn with hn | hn
   · rw[hn]
   · rw[hn];exact hc.2.2
 rw[hr]
structure Sett (d:DS):Prop where
 up:d.down=false
 acts:d.fd.acts=[]
 each:∀k f,Zh d.fs d.fd.now k=some f->f.acts=[]
theorem Sett.get{d:DS}(h:Sett d){k:List UInt8}{f:PF}(hk:Zh d.fs d.fd.now k=some f):f=⟨d.text k,[]⟩:=by
 have h1:=h.each k f hk;obtain⟨n,h2,h3⟩:=zAV hk;obtain⟨t,a⟩:=f;dsimp only at h1;subst h1;unfold DS.text DS.file;rw[h2];dsimp only;rw[h3];rfl
theorem zCy{d:DS}{k:List UInt8}{f:PF}(hk:Zh d.fs d.fd.now k=some f):d.text k=f.now:=by
 obtain⟨n,h2,h3⟩:=zAV hk;unfold DS.text DS.file;rw[h2];dsimp only;rw[h3]
theorem zKY{d:DS}{k:List UInt8}(hk:Zh d.fs d.fd.now k=none):d.text k=[]:=by
 unfold DS.text DS.file
 cases hg:d.fd.now.get k with
 | none=>rfl
 | some n =>
   rw[zAL hg]at hk;dsimp only;rw[hk]
theorem zJ0{d d':DS}{k:List UInt8}(h:Zh d'.fs d'.fd.now k=Zh d.fs d.fd.now k):d'.text k=d.text k:=by
 cases hc:Zh d.fs d.fd.now k with
 | none=>rw[zKY hc,zKY (h.trans hc)]
 | some f=>rw[zCy hc,zCy (h.trans hc)]
theorem zJz{d d':DS}(h:d'.fd.now=d.fd.now)(hd:d.down=false)(hd':d'.down=false):d'.list=d.list:=by
 unfold DS.list FD.names;rw[hd,hd',h]
theorem zJs(fd:FD):∀(ks:List (List UInt8)) (st:List Int×FS×List Int) (n:Int),(∀f,FS.get st.2.1 n=some f->f.acts=[]\/∃k∈ks,(fd.find k).1=n)->∀f,FS.get (ks.foldl (zAQ fd) st).2.1 n=some f->f.acts=[]
 | [],st,n,h,f,hf=>by
   rcases h f hf with h | ⟨k,hk,_⟩
   · exact h
   · simp at hk
 | k::ks,st,n,h,f,hf=>by
   rw[List.foldl_cons]at hf
   refine zJs fd ks (zAQ fd st k) n (fun g hg=>?_) f hf
   simp only[zAQ]at hg;rw[FS.get_upd]at hg;split at hg
   · obtain⟨x,_,rfl⟩:=qlZ.1 hg
     exact .inl rfl
   · rename_i hne
     rcases h g hg with h1 | ⟨k',hk',e⟩
     · exact .inl h1
     · rcases qwZ.1 hk' with rfl | hk'
       · exact absurd e.symm hne
       · exact .inr ⟨k',hk',e⟩
theorem zFN(d:DS)(l:List Int):Sett (d.restart l):=by
 refine ⟨rfl,rfl,fun k f hk=>?_⟩
 obtain⟨fd,hfd⟩:∃fd,d.fd.survive (l.headD 0)=fd:=⟨_,rfl⟩;obtain⟨r,hr⟩:∃r,zBM fd l.tail d.fs fd.names=r:=⟨_,rfl⟩
 have hd:d.restart l=⟨fd,zAv r.2.1 r.2.2,d.quota,d.steps,0,false⟩:=by
   unfold DS.restart;rw[hfd,hr]
 rw[hd]at hk;obtain⟨n,h1,h2⟩:=zAV hk;dsimp only at h1 h2
 have hmem:n∈r.2.2:=by
   rw[<-hr];unfold zBM;rw[zB7]
   exact .inr ⟨k,FD.names_of h1,by rw[FD.find_get h1]⟩
 rw[zGf _ _ _ hmem]at h2
 cases hg:FS.get r.2.1 n with
 | none=>rw[hg]at h2;cases h2;rfl
 | some g =>
   rw[hg]at h2;cases h2;rw[<-hr]at hg
   exact zJs fd fd.names (l.tail,d.fs,[]) n (fun x _=>.inr ⟨k,FD.names_of h1,by rw[FD.find_get h1]⟩) _ hg
theorem zLV{d:DS}{A B:Nat}(hok:d.ok A B)(h:Sett d)(l:List Int):(d.restart l).fd.now=d.fd.now/\∀k,Zh (d.restart l).fs (d.restart l).fd.now k=Zh d.fs d.fd.now k:=by
 obtain⟨i,hi,e1,e2,_,_,e5⟩:=zFm hok l
 have h0:ZP d.fd.d (d.fd.acts.take i)=d.fd.now:=by rw[h.acts];simp[FD.now,h.acts]
 have hnow:(d.restart l).fd.now=d.fd.now:=by rw[e1];simpa[FD.now,ZP] using h0
 rw[h0]at e5
 refine ⟨hnow,fun k=>?_⟩
 rcases e5 k with⟨g1,g2⟩ | ⟨f,f',g1,g2,g3⟩
 · rw[g1,g2]
 · rw[g1,g2]
   have hf:=h.get g1
   exact congrArg some (g3 (fun x=>x=f) rfl fun g a b hg=>by subst hg;rw[hf,PF.stays_settled])
theorem zR9{d d':DS}(hd:d.down=false)(hd':d'.down=false)(h:d'.fd.now=d.fd.now)(ht:∀k,d'.text k=d.text k)(x:Int):d'.load x=d.load x:=by
 have hl:=zJz h hd hd';have hg:d'.text=d.text:=funext ht;unfold DS.load;rw[hd,hd',hl,hg]
theorem zFI{d:DS}{A B:Nat}(hok:d.ok A B)(h:Sett d)(l:List Int)(x:Int):(d.restart l).load x=d.load x:=by
 obtain⟨h1,h2⟩:=zLV hok h l
 exact zR9 h.up rfl h1 (fun k=>zJ0 (h2 k)) x
theorem zLh{d:DS}{x:Int}{f:Fnd}(h:d.load x=(f,0)):d.down=false/\(ZM x d.list).2=0/\zc d.text (ZM x d.list).1 ⟨(ZM x d.list).1,[],0,false⟩=(f,0)/\f.logs=(ZM x d.list).1:=by
 unfold DS.load at h;split at h
 · simp at h
 rename_i h1;split at h
 · rename_i h2
   refine ⟨by simpa using h1,h2,h,?_⟩
   have:=zHB d.text (ZM x d.list).1 ⟨(ZM x d.list).1,[],0,false⟩ (by rw[h])
   rw[h]at this;exact this
 · rename_i h2
   exact absurd (congrArg Prod.snd h) h2
theorem FS.upd_self{l:FS}{n:Int}{f:PF}(h:FS.get l n=some f):FS.upd l n (fun _=>f)=l:=by
 rw[FS.upd_set _ h];have h1:=FS.at_get h;obtain⟨h2,h3⟩:=q1Z.1 h1;rw[<-h3,List.set_getElem_self]
theorem FS.upd_upd(n:Int)(a b:PF):∀l:FS,FS.upd (FS.upd l n fun _=>a) n (fun _=>b)=FS.upd l n fun _=>b
 | []=>rfl
 | e::l=>by
   by_cases h:e.1=n
   · simp[FS.upd,h]
   · simp[FS.upd,h,FS.upd_upd n a b l]
theorem zTh{fs:FS}{l:NM}{k x:List UInt8}{n:Int}{last:Int}(hn:NumOk l last)(hx:l.get x=some n)(g:PF->PF):Zh (FS.upd fs n g) l k=if k=x then (Zh fs l k).map g else Zh fs l k:=by
 by_cases hk:k=x
 · subst hk
   rw[if_pos rfl,zAL hx,zAL hx,FS.get_upd,if_pos rfl]
 · rw[if_neg hk]
   cases hg:NM.get l k with
   | none=>rw[zD8 hg,zD8 hg]
   | some m =>
     rw[zAL hg,zAL hg,FS.get_upd,if_neg];rintro rfl;exact hk (hn.inj _ _ _ hg hx)
theorem zOa{d:DS}(hd:d.down=false)(hs:Sett d){f:Fnd}(h0:f.logs.length≠0){t:List UInt8}{n:Int}(hn:d.fd.now.get (ZC f)=some n)(hf:FS.get d.fs n=some ⟨t,[]⟩)(hg:f.torn=true->0<=f.good/\f.good<t.length) :
   Stage (d.mend f) d.quota (fun fd fs=>fd=d.fd/\fs=FS.upd d.fs n fun _=>⟨if f.torn=true then t.take f.good.toNat else t,[]⟩)
     (fun fd fs=>fd=d.fd/\∃g,fs=FS.upd d.fs n (fun _=>g)/\(g=⟨t,[]⟩\/f.torn=true/\g=⟨t,[.cut f.good.toNat]⟩)):=by
 unfold DS.mend;rw[if_neg h0];have self:=FS.upd_self hf;split
 · rename_i ht
   obtain⟨g1,g2⟩:=hg ht
   have hcut:(⟨t,[]⟩:PF).cut f.good=(⟨t,[.cut f.good.toNat]⟩,0):=by
     unfold PF.cut
     rw[if_neg (by show ¬(f.good<0\/(t.length:Int)<f.good);omega),if_pos (by show f.good<(t.length:Int);exact g2)]
     rfl
   refine Stage.seq (P:=fun fd fs=>fd=d.fd/\fs=FS.upd d.fs n fun _=>⟨t,[.cut f.good.toNat]⟩) (zIG hd hn hf ⟨rfl,_,self.symm,.inl rfl⟩ (fun _ _ _ _ _=>hcut) ⟨rfl,rfl⟩) fun d1 q1 u1 h1=>?_
   obtain⟨e1,e2⟩:=h1
   have hn1:d1.fd.now.get (ZC f)=some n:=by rw[e1];exact hn
   have hf1:FS.get d1.fs n=some ⟨t,[.cut f.good.toNat]⟩:=by rw[e2,FS.get_upd,if_pos rfl,hf];rfl
   have:=zEu u1 hn1 hf1 (P:=fun fd fs=>fd=d.fd/\fs=FS.upd d.fs n fun _=>⟨t.take f.good.toNat,[]⟩) (B:=fun fd fs=>fd=d.fd/\∃g,fs=FS.upd d.fs n (fun _=>g)/\(g=⟨t,[]⟩\/f.torn=true/\g=⟨t,[.cut f.good.toNat]⟩)) ⟨e1,_,e2,.inr ⟨ht,rfl⟩⟩ ⟨e1,by rw[e2,FS.upd_upd];rfl⟩
   rw[q1]at this;exact this
 · refine zEu hd hn hf ⟨rfl,_,self.symm,.inl rfl⟩ ⟨rfl,rfl⟩
theorem zSH(f:Fnd)(d:DS)(h1:d.armed=0)(h2:d.down=false):(d.mend f).1.armed=0/\(d.mend f).1.down=false:=by
 unfold DS.mend;split
 · exact⟨h1,h2⟩
 split
 · have c:=zQu (ZC f) (fun _ g=>g.cut f.good) d h1 h2
   unfold zRx;split
   · exact zKA _ _ c.1 c.2
   · exact c
 · exact zKA _ _ h1 h2
theorem zWJ(f:Fnd){d:DS}{A B:Nat}(h:d.ok A B):(d.mend f).1.ok (A+2) (B+1):=by
 unfold DS.mend;split
 · exact DS.ok_mono h (by omega) (by omega)
 split
 · have h1:=DS.ok_truncate h (ZC f) f.good
   unfold zRx;split
   · exact DS.ok_sync h1 _
   · exact DS.ok_mono h1 (by omega) (by omega)
 · exact DS.ok_mono (DS.ok_sync h _) (by omega) (by omega)
end
end Go.Proofs.YthafeihjlamhhaaGreatDoor
