/- Parts of the proof of ReplayBack: lemmas, each with its own conditions. -/
import Derived.Test.YthafeihjlamhhaaGreatDoorY22
set_option maxHeartbeats 64000000
open List renaming getElem?_eq_getElem → q3Z, getElem?_append_left → q4Z, take_of_length_le → q6Z, length_cons → q7Z, length_nil → q8Z, cons_append → q9Z, nil_append → qaZ, replicate → qbZ, mem_of_getElem? → qcZ, mem_cons → qwZ, getElem_append_left → qyZ, length_map → r7Z, mem_map → reZ, getElem?_range → rfZ, getElem_append_right → scZ
open Nat renaming le_refl → qnZ, lt_or_ge → s2Z
open Bool renaming and_eq_true → qrZ
namespace Go.Proofs.YthafeihjlamhhaaGreatDoor
open _root_.Go.Proofs.Tryz renaming prog → Pz
set_option maxRecDepth 100000
section
open Go
attribute [-simp] zJ zT zk zL zm
def zMr:Gam:=zj [(145,zJ9)]
theorem zu:GOk Pz zMr:=zC zPp zE
def dw(ls:List Nat)(k:Nat):List UInt8:=(ls.take k).map fun c=>UInt8.ofNat (zC8 c)
theorem zU5(ls:List Nat)(k c:Nat)(h:ls[k]? = some c):dw ls (k+1)=dw ls k++[UInt8.ofNat (zC8 c)]:=by
 unfold dw;rw[List.take_add_one,h];simp
theorem zTD(ls:List Nat)(n:Int)(g:Bool)(hl:∀c∈ls,c<256)(hll:ls.length<=9223372036854775807) :
   Ct Pz 71 [.agg [.sl 0 0 ls.length 1 false,.int .u32 n,.bool g]] [.cells false (ls.map aB)] (.agg (enA (dE ls n g))) [.cells false (ls.map aB)]:=by
 refine zI Tryz.func71 rfl ?_;simp only[Tryz.ntmps71,q7Z,q8Z,Nat.reduceAdd,Nat.reduceSub,qbZ,q9Z,qaZ]
 refine Sim.step hmix zu (n:=0) (by simp;exact⟨rfl,rfl⟩) (by simp) ?_
 refine Sim.step hmix zu (n:=0) (by simp;exact⟨rfl,rfl⟩) (by simp) ?_
 refine Sim.seq (Sim.step hmix zu (n:=0) (by simp;exact⟨rfl,rfl⟩) (by simp) ?_)
 refine Sim.block (Sim.loopW (fun k:Nat=>k<=ls.length/\k<=9)
   (fun k=>[.top,.ptr 1 0,.ptr 2 0,.str (dw ls k),.int .i64 k]++qbZ 38 .top)
   (fun _=>[.cells false (ls.map aB),.cells true [.sl 0 0 ls.length 1 false,.int .u32 n,.bool g],.cells true [.str [],.int .u32 0,.bool false]]) (fun k=>9-k) 0 (by simp) (by simp) (Weak.mk' [0,1,2] (by decide) (by decide) (by simp[dw]) (by simp)) fun k hk=>?_)
 obtain⟨hk1,hk2⟩:=hk
 have hdl:(dw ls k).length<=9:=by simp[dw];omega
 by_cases hlt:k<ls.length/\k<9
 · obtain⟨h1,h2⟩:=hlt
   have h2i:(k:Int)<9:=by omega
   have h1i:(k:Int)<ls.length:=by omega
   obtain⟨c,hc⟩:∃c,ls[k]=c:=⟨_,rfl⟩
   have hc':ls[k]? = some c:=by rw[q3Z h1,hc]
   have c256:c<256:=hl c (qcZ hc');have hn:=zU5 ls k c hc'
   have g1:∀h,(ls.map aB)[k]'h=.int .u8 c:=fun h=>by rw[List.getElem_map,hc];rfl
   obtain⟨d1,hd1⟩:∃d1,c % 8=d1:=⟨_,rfl⟩;obtain⟨d2,hd2⟩:∃d2,d1 % 3=d2:=⟨_,rfl⟩
   have m1:(c:Int).tmod 8=(d1:Int):=by rw[zQk (by omega)];omega
   have m2:(d1:Int).tmod 3=(d2:Int):=by rw[zQk (by omega)];omega
   have w1:IntKind.u8.wrap (d1:Int)=(d1:Int):=zFd (by omega) (by omega)
   have w2:IntKind.u8.wrap (d2:Int)=(d2:Int):=zFd (by omega) (by omega)
   have w3:IntKind.u8.wrap (97+(d2:Int))=97+(d2:Int):=zFd (by omega) (by omega)
   have w4:IntKind.i64.wrap ((k:Int)+1)=k+1:=zW (by omega) (by omega)
   have hb1:(dw ls k).length+1<=9223372036854775807:=by omega
   have hb2:1+(dw ls k).length<=9223372036854775807:=by omega
   refine Sim.step hmix zu (n:=0) (by simp[h1,h1i,h2,h2i];exact⟨rfl,rfl⟩) (by simp) ?_
   refine Sim.seq (Sim.block ?_)
   refine Sim.step hmix zu (n:=0) (by simp[h1,g1];exact⟨rfl,rfl⟩) (by simp) ?_
   by_cases h7:c % 8<7
   · have h7i:(d1:Int)<7:=by omega
     have hd:zC8 c=97+d2:=by unfold zC8;rw[if_pos h7,hd1,hd2]
     have w5:((97:Int)+(d2:Int)).toNat=97+d2:=by omega
     refine Sim.step hmix zu (n:=0) (by simp[m1,w1,h7i,m2,w2,w3];exact⟨rfl,rfl⟩) (by simp) ?_
     refine Sim.exec hmix zu (n:=0) (by simp[hb1,hb2,w5];exact⟨rfl,rfl,rfl⟩) (by simp) ?_
     dsimp only
     refine Sim.exec hmix zu (n:=0) (by simp[w4];exact⟨rfl,rfl,rfl⟩) (by simp) ?_
     dsimp only
     exact⟨k+1,⟨by omega,by omega⟩,Weak.mk' [0,1,2] (by decide) (by decide) (by simp[hn,hd]) (by simp),by omega⟩
   · have h7i:¬(d1:Int)<7:=by omega
     have hd:zC8 c=c:=by unfold zC8;rw[if_neg h7]
     refine Sim.step hmix zu (n:=0) (by simp[m1,w1,h7i];exact⟨rfl,rfl⟩) (by simp) ?_
     refine Sim.exec hmix zu (n:=0) (by simp[hb1,hb2];exact⟨rfl,rfl,rfl⟩) (by simp) ?_
     dsimp only
     refine Sim.exec hmix zu (n:=0) (by simp[w4];exact⟨rfl,rfl,rfl⟩) (by simp) ?_
     dsimp only
     exact⟨k+1,⟨by omega,by omega⟩,Weak.mk' [0,1,2] (by decide) (by decide) (by simp[hn,hd]) (by simp),by omega⟩
 · have hdw:dw ls k=zGk ls:=by
     unfold dw zGk;rcases s2Z k 9 with h9 | h9
     · have:k=ls.length:=by omega
       rw[this,List.take_length,q6Z (by omega)]
     · rw[show k=9 by omega]
   rw[hdw];obtain⟨D,hD⟩:∃D,zGk ls=D:=⟨_,rfl⟩;rw[hD];by_cases h1:k<ls.length
   · have h1i:(k:Int)<ls.length:=by omega
     have h2i:¬(k:Int)<9:=by omega
     refine Sim.exec hmix zu (n:=0) (by simp[h1,h1i,h2i];exact⟨rfl,rfl,rfl⟩) (by simp) ?_
     dsimp only;rw[if_pos rfl];by_cases he:D=[]
     · subst he
       refine Sim.step hmix zu (n:=0) (by simp;exact⟨rfl,rfl⟩) (by simp) ?_
       refine Sim.exec hmix zu (n:=0) (by simp[zMr,zJ9,enA,zCh];exact⟨rfl,rfl,rfl⟩) (by simp) ?_
       exact⟨.inr rfl,_,by simp;rfl,Weak.mk' [0] (by decide) (by decide) (by simp[dE,hD,enA,zCh]) (by simp)⟩
     · have hE:D.isEmpty=false:=by cases D with | nil=>exact absurd rfl he | cons=>rfl
       refine Sim.step hmix zu (n:=0) (by simp[he,hE];exact⟨rfl,rfl⟩) (by simp) ?_
       refine Sim.exec hmix zu (n:=0) (by simp[zMr,zJ9,enA,zCh];exact⟨rfl,rfl,rfl⟩) (by simp) ?_
       exact⟨.inr rfl,_,by simp;rfl,Weak.mk' [0] (by decide) (by decide) (by simp[dE,hD,he,enA,zCh]) (by simp)⟩
   · have h1i:¬(k:Int)<ls.length:=by omega
     refine Sim.exec hmix zu (n:=0) (by simp[h1,h1i];exact⟨rfl,rfl,rfl⟩) (by simp) ?_
     dsimp only;rw[if_pos rfl];by_cases he:D=[]
     · subst he
       refine Sim.step hmix zu (n:=0) (by simp;exact⟨rfl,rfl⟩) (by simp) ?_
       refine Sim.exec hmix zu (n:=0) (by simp[zMr,zJ9,enA,zCh];exact⟨rfl,rfl,rfl⟩) (by simp) ?_
       exact⟨.inr rfl,_,by simp;rfl,Weak.mk' [0] (by decide) (by decide) (by simp[dE,hD,enA,zCh]) (by simp)⟩
     · have hE:D.isEmpty=false:=by cases D with | nil=>exact absurd rfl he | cons=>rfl
       refine Sim.step hmix zu (n:=0) (by simp[he,hE];exact⟨rfl,rfl⟩) (by simp) ?_
       refine Sim.exec hmix zu (n:=0) (by simp[zMr,zJ9,enA,zCh];exact⟨rfl,rfl,rfl⟩) (by simp) ?_
       exact⟨.inr rfl,_,by simp;rfl,Weak.mk' [0] (by decide) (by decide) (by simp[dE,hD,he,enA,zCh]) (by simp)⟩
def zFW(H:zA):AV->Option (List Nat×Int×Bool)
 | .agg [.nils,.int .u32 n,.bool g]=>some ([],n,g)
 | .agg [.slice b off len 1 _,.int .u32 n,.bool g]=>match H[b]? with
   | some (.cells _ l)=>match zAx .u8 ((l.drop off).take len) with
     | some ls=>if off+len<=l.length/\ls.all (· < 256)=true/\len<=9223372036854775807 then some (ls,n,g) else none
     | none=>none
   | _=>none
 | .agg [.sl b off len 1 _,.int .u32 n,.bool g]=>match H[b]? with
   | some (.cells _ l)=>match zAx .u8 ((l.drop off).take len) with
     | some ls=>if off+len<=l.length/\ls.all (· < 256)=true/\len<=9223372036854775807 then some (ls,n,g) else none
     | none=>none
   | _=>none
 | _=>none
theorem zRJ{H:zA}{x:AV}{ls:List Nat}{n:Int}{g:Bool}(h:zFW H x=some (ls,n,g)):(∀c∈ls,c<256)/\ls.length<=9223372036854775807/\∃b off,(∀(i:Nat) (wd:List (Nat×Nat)),wd[i]? = some (b,off)->zBq wd (.agg [.sl i 0 ls.length 1 false,.int .u32 n,.bool g]) x) /\
   (match H[b]? with | some (.cells _ l)=>off+(ls.map aB).length<=l.length/\ls.map aB=(l.drop off).take (ls.map aB).length | none=>True | _=>False):=by
 have key:∀(b off len:Nat) (o:Bool) (l:List AV) (ms:List Nat),H[b]? = some (.cells o l)->zAx .u8 ((l.drop off).take len)=some ms->off+len<=l.length->len=ms.length/\off+(ms.map aB).length<=l.length/\ms.map aB=(l.drop off).take (ms.map aB).length:=by
   intro b off len o l ms hb hs hle;have e:=zEF hs
   have hlen:len=ms.length:=by
     have:=congrArg List.length e;simp at this;omega
   subst hlen
   exact⟨rfl,by simpa using hle,by rw[r7Z];exact e.symm⟩
 unfold zFW at h;split at h
 · cases h
   exact⟨by simp,by simp,H.length,0,fun i wd _=>by simp[zBq,zBw],by simp⟩
 · rename_i b off len c n' g'
   split at h;rotate_left
   · cases h
   rename_i o l hb;split at h;rotate_left
   · cases h
   rename_i ms hms
   split at h <;> cases h
   rename_i hc;obtain⟨rfl,h1,h2⟩:=key b off len o l _ hb hms hc.1
   exact⟨by simpa using hc.2.1,hc.2.2,b,off,fun i wd hw=>by simp[zBq,zBw,hw],by rw[hb];exact⟨h1,h2⟩⟩
 · rename_i b off len c n' g'
   split at h;rotate_left
   · cases h
   rename_i o l hb;split at h;rotate_left
   · cases h
   rename_i ms hms
   split at h <;> cases h
   rename_i hc;obtain⟨rfl,h1,h2⟩:=key b off len o l _ hb hms hc.1
   exact⟨by simpa using hc.2.1,hc.2.2,b,off,fun i wd hw=>by simp[zBq,zBw,hw],by rw[hb];exact⟨h1,h2⟩⟩
 · cases h
def zI3:zU:=Zz fun args H=>match args with
 | [x]=>match zFW H x with
   | some (ls,n,g)=>some (.agg (enA (dE ls n g)))
   | none=>none
 | _=>none
theorem zL6:Sound Pz 71 zI3:=by
 refine Zx (zG Tryz.func71 rfl (by decide)) fun args H v h=>?_
 split at h <;> try cases h
 rename_i x
 split at h <;> cases h
 rename_i ls n g hx;obtain⟨h1,h2,b1,o1,w1,g1⟩:=zRJ hx;refine zEp (zTD ls n g h1 h2) rfl [(b1,o1)] ?_ ?_
 · exact⟨w1 0 _ rfl,trivial⟩
 · exact⟨g1,zCs _,trivial⟩
abbrev Dr:=List Nat×Int×Bool
def Zu:Nat->List Dr->List AV
 | _,[]=>[]
 | k,d::ds=>.sl k 0 d.1.length 1 false::.int .u32 d.2.1::.bool d.2.2::Zu (k+1) ds
def zCH(ds:List Dr):zA:=ds.map fun d=>.cells false (d.1.map aB)
def drH(ds:List Dr):zA:=.cells false (Zu 1 ds)::zCH ds
theorem zEd:∀(k:Nat) (ds:List Dr),(Zu k ds).length=ds.length*3
 | _,[]=>rfl
 | k,d::ds=>by simp[Zu,zEd (k+1) ds];omega
theorem zHn:∀(ds:List Dr) (k i:Nat) (h:i<ds.length),((Zu k ds).drop (i*3)).take 3=[.sl (k+i) 0 ds[i].1.length 1 false,.int .u32 ds[i].2.1,.bool ds[i].2.2]
 | d::ds,k,0,_=>by simp[Zu]
 | d::ds,k,i+1,h=>by
   have:=zHn ds (k+1) i (by simpa using h)
   rw[show (i+1)*3=i*3+3 by omega,show k+(i+1)=k+1+i by omega]
   simpa[Zu] using this
theorem zEe:∀(ds:List Dr) (k N:Nat),k+ds.length<=N->zi N (Zu k ds)=true
 | [],_,_,_=>rfl
 | d::ds,k,N,h=>by
   simp only[q7Z]at h;simp only[Zu,zi,below,qrZ,decide_eq_true_eq,Bool.true_and]
   exact⟨by omega,zEe ds (k+1) N (by omega)⟩
theorem zAc(ds:List Dr):(drH ds).length=ds.length+1:=by simp[drH,zCH]
theorem zXR(ds:List Dr)(i:Nat)(h:i<ds.length):(drH ds)[i+1]? = some (.cells false (ds[i].1.map aB)):=by
 simp[drH,zCH,q3Z h]
theorem zFT(ds:List Dr):∀x∈drH ds,∃o l,x=ABlk.cells o l/\zi (ds.length+1) l=true:=by
 intro x hx;rcases qwZ.1 hx with rfl | hx
 · exact⟨false,_,rfl,zEe ds 1 _ (by omega)⟩
 · obtain⟨d,_,rfl⟩:=reZ.1 hx
   exact⟨false,_,rfl,ZE _ _ (zCs _)⟩
def dEs(ds:List Dr):List En:=ds.map fun d=>dE d.1 d.2.1 d.2.2
def zSU(ds:List Dr):Prop:=∀d∈ds,(∀c∈d.1,c<256)/\d.1.length<=9223372036854775807
def zYL:Gam:=zj [(71,zI3)]
theorem zBJ:GOk Pz zYL:=zC zL6 zE
theorem zPF(H:zA)(b:Nat)(ls:List Nat)(n:Int)(g:Bool)(o:Bool)(hb:H[b]? = some (.cells o (ls.map aB)))(h1:∀c∈ls,c<256)(h2:ls.length<=9223372036854775807) :
   zI3 [.agg [.sl b 0 ls.length 1 false,.int .u32 n,.bool g]] H=some (.agg (enA (dE ls n g)),H,[]):=by
 have h0:(ls.map aB).take ls.length=ls.map aB:=q6Z (by simp)
 have h3:ls.all (fun x=>decide (x<256))=true:=by simpa using h1
 have h4:zFW H (.agg [.sl b 0 ls.length 1 false,.int .u32 n,.bool g])=some (ls,n,g):=by
   simp only[zFW,hb,List.drop_zero,h0,zKM]
   rw[if_pos ⟨by simp,h3,h2⟩]
 simp[zI3,Zz,h4]
theorem zPR(ds:List Dr)(most:Nat)(hm:most<=100)(hd:zSU ds)(hl:ds.length<=9223372036854775807) :
   Ct Pz 16 [.sl 0 0 ds.length 3 false,.int .i64 most] (drH ds) (.sl (ds.length+1) 0 (dEs (ds.take most)).length 3 false) (drH ds++[.cells true (zM (dEs (ds.take most)))]):=by
 obtain⟨N,hN⟩:∃N,ds.length+1=N:=⟨_,rfl⟩;have hXl:=zAc ds;have hXf:=zFT ds;rw[hN]at hXl hXf;refine zI Tryz.func16 rfl ?_;rw[hXl,hN];simp only[Tryz.ntmps16,q7Z,q8Z,Nat.reduceAdd,Nat.reduceSub,qbZ,q9Z,qaZ]
 refine Sim.step hmix zBJ (n:=0) (by simp;exact⟨rfl,rfl⟩) (by omega) ?_
 refine Sim.step hmix zBJ (n:=0) (by simp;exact⟨rfl,rfl⟩) (by omega) ?_
 refine Sim.seq (Sim.step hmix zBJ (n:=0) (by simp;exact⟨rfl,rfl⟩) (by omega) ?_)
 refine Sim.block (Sim.loopW (fun k:Nat=>k<=ds.length/\k<=most)
   (fun k=>[.sl 0 0 ds.length 3 false,.int .i64 most,.top,.top,.top,.sl N 0 (dEs (ds.take k)).length 3 false,.int .i64 k]++qbZ 20 .top)
   (fun k=>drH ds++[.cells true (zM (dEs (ds.take k)))]) (fun k=>most-k) 0 (by omega) ⟨by omega,by omega⟩ ?_ fun k hk=>?_)
 · have:=Weak.tail (A:=drH ds) (T:=[]) (Tn:=[.cells true (zM (dEs (ds.take 0)))]) (F:=[.sl 0 0 ds.length 3 false,.int .i64 most,.tuple [],.tuple [],.nils,.nils,.int .i64 0]++qbZ 20 (.tuple [])) (Fn:=[.sl 0 0 ds.length 3 false,.int .i64 most,.top,.top,.top,.sl N 0 (dEs (ds.take 0)).length 3 false,.int .i64 (0:Nat)]++qbZ 20 .top) hXl hXf [0] (by decide) (by
       have h0:(List.range N++[0].map (N+·))[0]? = some 0:=by rw[q4Z (by simp;omega),rfZ (by omega)]
       have h0':∀h,(List.range N++[N])[0]'h=0:=fun h=>by rw[qyZ (by rw[List.length_range];omega),List.getElem_range]
       simp[AWs,AW,dEs,h0']) (by simp[AWg,hXl])
   simpa using this
 · obtain⟨hk1,hk2⟩:=hk
   obtain⟨out,ho⟩:∃out,dEs (ds.take k)=out:=⟨_,rfl⟩
   have hol:out.length=k:=by rw[<-ho];simp[dEs];omega
   obtain⟨X,hX⟩:∃X,drH ds=X:=⟨_,rfl⟩
   have hX0:X[0]? = some (.cells false (Zu 1 ds)):=by rw[<-hX];rfl
   rw[hX]at hXl hXf;rw[ho,hX]
   have b1:(out.length+1)*24<=140737488355328:=by omega
   have b2:out.length+1<=9223372036854775807:=by omega
   by_cases hlt:k<ds.length/\k<most
   · obtain⟨h1,h2⟩:=hlt
     have h1i:(k:Int)<ds.length:=by omega
     have h2i:(k:Int)<most:=by omega
     obtain⟨d,hdd⟩:∃d,ds[k]=d:=⟨_,rfl⟩
     have hd':ds[k]? = some d:=by rw[q3Z h1,hdd]
     have g1:=zHn ds 1 k h1;rw[hdd]at g1;have gl:=zEd 1 ds
     have k1:k*3+3<=ds.length*3:=by omega
     obtain⟨ls,n,g⟩:=d;have hok:=hd _ (qcZ hd')
     have hXk:X[1+k]? = some (.cells false (ls.map aB)):=by rw[<-hX,Nat.add_comm,zXR ds k h1,hdd]
     have hw:IntKind.i64.wrap ((k:Int)+1)=k+1:=zW (by omega) (by omega)
     have hN0:0<N:=by omega
     have hkN:1+k<N:=by omega
     obtain⟨ew,en',eg,hE⟩:∃ew en' eg,dE ls n g=(ew,en',eg):=⟨_,_,_,rfl⟩
     have hds:∀T:zA,zI3 [.agg [.sl (1+k) 0 ls.length 1 false,.int .u32 n,.bool g]] (X++T)=some (.agg [.str ew,.int .u32 en',.bool eg],X++T,[]):=fun T=>by
       have:=zPF (X++T) (1+k) ls n g false (by rw[q4Z (by omega)];exact hXk) hok.1 hok.2
       rw[hE]at this;exact this
     have hX0':∀T:zA,(X++T)[0]? = some (.cells false (Zu 1 ds)):=fun T=>by rw[q4Z (by omega)];exact hX0
     have hX0g:∀(T:zA) h,(X++T)[0]'h=.cells false (Zu 1 ds):=fun T h=>by
       have:=hX0' T;rw[q3Z h]at this;exact Option.some.inj this
     have hnext:dEs (ds.take (k+1))=out++[(ew,en',eg)]:=by rw[<-ho,<-hE];simp[dEs,List.take_add_one,hd']
     refine Sim.step hmix zBJ (n:=0) (by simp[h1i,h2i];exact⟨rfl,rfl⟩) (by simp;omega) ?_
     refine Sim.seq (Sim.block ?_)
     refine Sim.exec hmix zBJ (n:=0) (by simp +decide [h1,hX0g,g1,gl,k1,zYL,hds,hXl,b1,b2];exact⟨rfl,rfl,rfl⟩) (by simp;omega) ?_
     dsimp only
     refine Sim.exec hmix zBJ (n:=0) (by simp[hw];exact⟨rfl,rfl,rfl⟩) (by simp;omega) ?_
     dsimp only
     have r0:∀h,(List.range N++[N+2])[0]'h=0:=fun h=>by rw[qyZ (by rw[List.length_range];omega),List.getElem_range]
     have rN:∀h,(List.range N++[N+2])[N]'h=N+2:=fun h=>by rw[scZ (by simp)];simp
     refine ⟨k+1,⟨by omega,by omega⟩,?_,by omega⟩
     refine Weak.tail hXl hXf [2] (by decide) ?_ ?_
     · simp[AWs,AW,r0,rN,hnext]
     · have hfr:=zl (out++[(ew,en',eg)])
       simp[AWg,AWb,hXl,hnext]
       have hfr2:zP (zM out++[AV.str ew,AV.int IntKind.u32 en',AV.bool eg])=true:=by
         have e:zM out++[AV.str ew,AV.int IntKind.u32 en',AV.bool eg]=zM (out++[(ew,en',eg)]):=by simp[zM,enA]
         rw[e];exact hfr
       exact AWs.refl _ _ hfr2
   · have hkd:dEs (ds.take most)=out:=by
       rw[<-ho];rcases s2Z k most with h9 | h9
       · have:k=ds.length:=by omega
         rw[this,List.take_length,q6Z (by omega)]
       · rw[show k=most by omega]
     rw[hkd]
     have r0:∀h,(List.range N++[N])[0]'h=0:=fun h=>by rw[qyZ (by rw[List.length_range];omega),List.getElem_range]
     have rN:∀h,(List.range N++[N])[N]'h=N:=fun h=>by rw[scZ (by simp)];simp
     by_cases h1:k<ds.length
     · have h2:¬k<most:=fun h=>hlt ⟨h1,h⟩
       have h1i:(k:Int)<ds.length:=by omega
       have h2i:¬(k:Int)<most:=by omega
       refine Sim.exec hmix zBJ (n:=0) (by simp[h1i,h2i];exact⟨rfl,rfl,rfl⟩) (by simp;omega) ?_
       dsimp only;rw[if_pos rfl]
       refine Sim.exec hmix zBJ (n:=0) (by simp;exact⟨rfl,rfl,rfl⟩) (by simp;omega) ?_
       refine ⟨.inr rfl,_,by simp;rfl,Weak.tail hXl hXf [0] (by decide) ?_ ?_⟩
       · simp[AWs,AW,rN]
       · simp[AWg,AWb,hXl]
     · have h1i:¬(k:Int)<ds.length:=by omega
       refine Sim.exec hmix zBJ (n:=0) (by simp[h1i];exact⟨rfl,rfl,rfl⟩) (by simp;omega) ?_
       dsimp only;rw[if_pos rfl]
       refine Sim.exec hmix zBJ (n:=0) (by simp;exact⟨rfl,rfl,rfl⟩) (by simp;omega) ?_
       refine ⟨.inr rfl,_,by simp;rfl,Weak.tail hXl hXf [0] (by decide) ?_ ?_⟩
       · simp[AWs,AW,rN]
       · simp[AWg,AWb,hXl]
theorem Rp.len_le(s:List UInt8):((Rp.rd s 0).1.length:Int)<=s.length:=by
 have key:∀(k:Nat) (acc:List En) (a:Int),Rp.At s (acc,a)->s.length-a.toNat<=k->((Rp.rd s 0).1.length:Int)<=s.length:=by
   intro k
   induction k with
   | zero =>
     intro acc a h hk
     cases h1:Rp.one s a with
     | none =>
       rw[Rp.at_end h h1];obtain⟨_,h2,h3,_⟩:=h;dsimp only at h2 h3 ⊢;omega
     | some y =>
       obtain⟨_,w2,w3,_⟩:=Rp.one_way (x:=y.1) (b:=y.2) h1;have:=h.1;dsimp only at this;omega
   | succ k ih =>
     intro acc a h hk
     cases h1:Rp.one s a with
     | none =>
       rw[Rp.at_end h h1];obtain⟨_,h2,h3,_⟩:=h;dsimp only at h2 h3 ⊢;omega
     | some y =>
       obtain⟨_,w2,w3,_⟩:=Rp.one_way (x:=y.1) (b:=y.2) h1;have:=h.1;dsimp only at this
       exact ih _ _ (Rp.at_next (x:=y.1) (b:=y.2) h h1) (by omega)
 exact key _ _ _ (Rp.at0 s) (qnZ _)
def zQ3:Gam:=zj [(191,zI5),(108,zL8)]
theorem zHM:GOk Pz zQ3:=zC zO2 (zC zO4 zE)
theorem zVR(s:List UInt8)(hs:s.length<=1000000000) :
   Ct Pz 63 [.str s] [] (.tuple [.sl 0 0 (Rp.rd s 0).1.length 3 false,.int .i64 (Rp.rd s 0).2]) [.cells true (zM (Rp.rd s 0).1)]:=by
 have hΓ:=zd hmix zE 0 [136] 1
 have hs2:s.length<=1000000000000:=by omega
 obtain⟨⟨L,X⟩,hr⟩:∃r,Rp.rd s 0=r:=⟨_,rfl⟩;rw[hr];dsimp only;refine zI Tryz.func63 rfl ?_;simp only[Tryz.ntmps63,q7Z,q8Z,Nat.reduceAdd,Nat.reduceSub,qbZ,q9Z,qaZ]
 refine Sim.step hmix hΓ (n:=0) (by simp;exact⟨rfl,rfl⟩) (by simp) ?_
 refine Sim.scope ?_
 refine Sim.step hmix hΓ (n:=0) (by simp;exact⟨rfl,rfl⟩) (by simp) ?_
 refine Sim.seq (Sim.step hmix hΓ (n:=0) (by simp[Tryz.f136];exact⟨rfl,rfl⟩) (by simp) ?_)
 refine Sim.block ?_;by_cases hc:(Fr.get s X).2.2=0
 · refine Sim.rangeFuncN hmix (fun rc=>[.cells true [.sl 4 0 L.length 3 false],.cells true [.int .i64 X],.cells true [.str s],rc,.cells true (zM L)]) .done (some (.exit 0)) (.tuple []) (gf:=201) (cap:=[.ptr 2 0]) (by simp) (zG Tryz.func201 rfl (by decide)) (by decide) (by simp) (by simp) (by simp) rfl (by simp) ?_ ?_
   · generalize hrc:ABlk.loop _ _ _ LoopState.ready none _=rc
     generalize hrd:ABlk.loop _ _ _ LoopState.done (some (Code.exit 0)) _=rd;refine zI Tryz.func201 rfl ?_;simp only[Tryz.ntmps201,q7Z,q8Z,qbZ,q9Z,qaZ]
     refine Sim.step hmix zHM (n:=0) (by simp[zQ3,zI5,hs2];exact⟨rfl,rfl⟩) (by simp) ?_
     refine Sim.block (Sim.loopW (fun p:List En×Int=>Rp.At s p)
       (fun p=>[.yld 3,.ptr 2 0,.top,.str (Fr.get s p.2).1,.int .i64 (Fr.get s p.2).2.1,.int .i64 (Fr.get s p.2).2.2]++qbZ 21 .top)
       (fun p=>[.cells true [.sl 4 0 p.1.length 3 false],.cells true [.int .i64 p.2],.cells true [.str s],rc,.cells true (zM p.1)]) (fun p=>s.length-p.2.toNat) ([],0) (by simp) (Rp.at0 s) ?_ fun p hp=>?_)
     · subst hrc
       exact Weak.mk' [0,1,2,3,100] (by decide) (by decide) (by simp) (by simp)
     obtain⟨acc,a⟩:=p;have hp':=hp;obtain⟨h1,h2,h3,h4⟩:=hp';dsimp only at h1 h2 h3 h4 ⊢;subst hrc;subst hrd;have hΓ2:=zd hmix zHM 0 [] 1;have hql:=Rp.get_le s a;obtain⟨⟨q,y,e⟩,hq⟩:∃r,Fr.get s a=r:=⟨_,rfl⟩;obtain⟨⟨⟨w,n,g⟩,e2⟩,hx⟩:∃r,zBt q=r:=⟨_,rfl⟩;rw[hq]at hql ⊢;dsimp only at hql ⊢
     have hq6:q.length<=1000000:=by omega
     obtain⟨⟨q',y',e'⟩,hq'⟩:∃r,Fr.get s y=r:=⟨_,rfl⟩
     have c1:(acc.length+1)*24<=140737488355328:=by omega
     have c2:acc.length+1<=9223372036854775807:=by omega
     have tk:(zM acc).take (acc.length*3)=zM acc:=q6Z (by simp)
     by_cases hok:e=0/\e2=0
     · obtain⟨rfl,rfl⟩:=hok
       have h5:Rp.one s a=some ((w,n,g),y):=by
         unfold Rp.one;rw[hq];simp[hx]
       have hn:=Rp.at_next hp h5;obtain⟨w1,w2,w3,_⟩:=Rp.one_way h5
       refine Sim.exec hmix hΓ2 (n:=0) (by simp +decide [zQ3,zI5,zL8,hs2,hq6,hx,enA,hq',c1,c2,tk];exact⟨rfl,rfl,rfl⟩) (by simp) ?_
       dsimp only
       refine ⟨(acc++[(w,n,g)],y),hn,?_,by dsimp only;omega⟩
       rw[hq']
       exact Weak.mk' [0,1,2,3,7] (by decide) (by decide) (by simp) (by simp[zM,enA] <;> exact AWs.refl _ _ (by simpa[zM,enA] using zl (acc++[(w,n,g)])))
     · have h5:Rp.one s a=none:=by
         unfold Rp.one;rw[hq];simp only[hx];rw[if_neg hok]
       have h6:=Rp.at_end hp h5;rw[hr]at h6;simp only[Prod.mk.injEq]at h6;obtain⟨rfl,rfl⟩:=h6;rw[hq]at hc;dsimp only at hc;subst hc
       have he3:(e2 != 0)=true:=by simpa using hok
       refine Sim.exec hmix hΓ2 (n:=0) (by simp +decide [zQ3,zI5,zL8,hq6,hx,enA,he3];exact⟨rfl,rfl,rfl⟩) (by simp) ?_
       dsimp only
       refine ⟨.inl rfl,_,by simp[Tryz.f201];rfl,?_⟩
       exact Weak.mk' [0,1,2,3,4] (by decide) (by decide) (by simp) (by simp)
   · dsimp only
     refine Sim.exec hmix hΓ (n:=0) (by simp +decide;exact⟨rfl,rfl,rfl⟩) (by simp) ?_
     exact⟨.inr rfl,_,by simp[Tryz.f63] <;> rfl,Weak.mk' [4] (by decide) (by decide) (by simp) (by simp)⟩
 · refine Sim.rangeFuncN hmix (fun rc=>[.cells true [.sl 4 0 L.length 3 false],.cells true [.int .i64 X],.cells true [.str s],rc,.cells true (zM L)]) .ready none (.tuple []) (gf:=201) (cap:=[.ptr 2 0]) (by simp) (zG Tryz.func201 rfl (by decide)) (by decide) (by simp) (by simp) (by simp) rfl (by simp) ?_ ?_
   · generalize hrc:ABlk.loop _ _ _ LoopState.ready none _=rc
     refine zI Tryz.func201 rfl ?_;simp only[Tryz.ntmps201,q7Z,q8Z,qbZ,q9Z,qaZ]
     refine Sim.step hmix zHM (n:=0) (by simp[zQ3,zI5,hs2];exact⟨rfl,rfl⟩) (by simp) ?_
     refine Sim.block (Sim.loopW (fun p:List En×Int=>Rp.At s p)
       (fun p=>[.yld 3,.ptr 2 0,.top,.str (Fr.get s p.2).1,.int .i64 (Fr.get s p.2).2.1,.int .i64 (Fr.get s p.2).2.2]++qbZ 21 .top)
       (fun p=>[.cells true [.sl 4 0 p.1.length 3 false],.cells true [.int .i64 p.2],.cells true [.str s],rc,.cells true (zM p.1)]) (fun p=>s.length-p.2.toNat) ([],0) (by simp) (Rp.at0 s) ?_ fun p hp=>?_)
     · subst hrc
       exact Weak.mk' [0,1,2,3,100] (by decide) (by decide) (by simp) (by simp)
     obtain⟨acc,a⟩:=p;have hp':=hp;obtain⟨h1,h2,h3,h4⟩:=hp';dsimp only at h1 h2 h3 h4 ⊢;subst hrc;have hΓ2:=zd hmix zHM 0 [] 1;have hql:=Rp.get_le s a;obtain⟨⟨q,y,e⟩,hq⟩:∃r,Fr.get s a=r:=⟨_,rfl⟩;obtain⟨⟨⟨w,n,g⟩,e2⟩,hx⟩:∃r,zBt q=r:=⟨_,rfl⟩;rw[hq]at hql ⊢;dsimp only at hql ⊢
     have hq6:q.length<=1000000:=by omega
     obtain⟨⟨q',y',e'⟩,hq'⟩:∃r,Fr.get s y=r:=⟨_,rfl⟩
     have c1:(acc.length+1)*24<=140737488355328:=by omega
     have c2:acc.length+1<=9223372036854775807:=by omega
     have tk:(zM acc).take (acc.length*3)=zM acc:=q6Z (by simp)
     by_cases hok:e=0/\e2=0
     · obtain⟨rfl,rfl⟩:=hok
       have h5:Rp.one s a=some ((w,n,g),y):=by
         unfold Rp.one;rw[hq];simp[hx]
       have hn:=Rp.at_next hp h5;obtain⟨w1,w2,w3,_⟩:=Rp.one_way h5
       refine Sim.exec hmix hΓ2 (n:=0) (by simp +decide [zQ3,zI5,zL8,hs2,hq6,hx,enA,hq',c1,c2,tk];exact⟨rfl,rfl,rfl⟩) (by simp) ?_
       dsimp only
       refine ⟨(acc++[(w,n,g)],y),hn,?_,by dsimp only;omega⟩
       rw[hq']
       exact Weak.mk' [0,1,2,3,7] (by decide) (by decide) (by simp) (by simp[zM,enA] <;> exact AWs.refl _ _ (by simpa[zM,enA] using zl (acc++[(w,n,g)])))
     · have h5:Rp.one s a=none:=by
         unfold Rp.one;rw[hq];simp only[hx];rw[if_neg hok]
       have h6:=Rp.at_end hp h5;rw[hr]at h6;simp only[Prod.mk.injEq]at h6;obtain⟨rfl,rfl⟩:=h6;rw[hq]at hc;dsimp only at hc
       have he2:(e==0)=false:=by simpa using hc
       refine Sim.exec hmix hΓ2 (n:=0) (by simp +decide [he2];exact⟨rfl,rfl,rfl⟩) (by simp) ?_
       dsimp only
       refine ⟨.inl rfl,_,by simp[Tryz.f201];rfl,?_⟩
       exact Weak.mk' [0,1,2,3,4] (by decide) (by decide) (by simp) (by simp)
   · dsimp only
     refine Sim.exec hmix hΓ (n:=0) (by simp +decide;exact⟨rfl,rfl,rfl⟩) (by simp) ?_
     exact⟨.inr rfl,_,by simp[Tryz.f63] <;> rfl,Weak.mk' [4] (by decide) (by decide) (by simp) (by simp)⟩
def zKv:zU:=zJe fun
 | [.str s]=>if s.length<=1000000000 then some (.tuple [.sl 0 0 (Rp.rd s 0).1.length 3 false,.int .i64 (Rp.rd s 0).2],[.cells true (zM (Rp.rd s 0).1)]) else none
 | _=>none
theorem zIk:Sound Pz 63 zKv:=by
 refine zET (zG Tryz.func63 rfl (by decide)) fun args v H' h=>?_
 split at h <;> try cases h
 rename_i s
 split at h <;> cases h
 exact⟨zVR s ‹_›,by simp,by simp⟩
end
end Go.Proofs.YthafeihjlamhhaaGreatDoor
