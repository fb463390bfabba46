/- Parts of the proof of WalTells: lemmas, each with its own conditions. -/
import Derived.Test.YtfhidaoiofeooaaGreatDoorY20
set_option maxHeartbeats 64000000
open List renaming getElem?_eq_getElem → q3Z, getElem?_append_left → q4Z, take_of_length_le → q6Z, length_cons → q7Z, length_nil → q8Z, cons_append → q9Z, nil_append → qaZ, replicate → qbZ, mem_of_getElem? → qcZ, mem_cons_self → qhZ, mem_cons_of_mem → qiZ, mem_cons → qwZ, getElem_append_left → qyZ, length_map → r7Z, mem_map → reZ, getElem?_range → rfZ, map_cons → s1Z, getElem_append_right → scZ
open Bool renaming and_eq_true → qrZ
open Nat renaming lt_or_ge → s2Z
namespace Go.Proofs.YtfhidaoiofeooaaGreatDoor
open _root_.Go.Proofs.Tryz renaming prog → Pz
set_option maxRecDepth 100000
section
open Go
attribute [-simp] zH zc zq zK zy
def zOu:Gam:=zZ [(262,zLB)]
theorem zu:GOk Pz zOu:=zB zPV zC
def dw(ls:List Nat)(k:Nat):List UInt8:=(ls.take k).map fun c=>UInt8.ofNat (zDd c)
theorem zXB(ls:List Nat)(k c:Nat)(h:ls[k]? = some c):dw ls (k+1)=dw ls k++[UInt8.ofNat (zDd c)]:=by
 unfold dw;rw[List.take_add_one,h];simp
theorem zT7(ls:List Nat)(n:Int)(g:Bool)(hl:∀c∈ls,c<256)(hll:ls.length<=9223372036854775807) :
   Ct Pz 196 [.agg [.sl 0 0 ls.length 1 false,.int .u32 n,.bool g]] [.cells false (ls.map aB)] (.agg (enA (dE ls n g))) [.cells false (ls.map aB)]:=by
 refine zE Tryz.func196 rfl ?_;simp only[Tryz.ntmps196,q7Z,q8Z,Nat.reduceAdd,Nat.reduceSub,qbZ,q9Z,qaZ];refine wS zu (by simp;exact wR) ?_;refine wS zu (by simp;exact wR) ?_;refine Sim.seq (wS zu (by simp;exact wR) ?_);refine Sim.block (Sim.loopW (fun k:Nat=>k<=ls.length/\k<=9)
   (fun k=>[.top,.ptr 1 0,.ptr 2 0,.str (dw ls k),.int .i64 k]++qbZ 38 .top)
   (fun _=>[.cells false (ls.map aB),.cells true [.sl 0 0 ls.length 1 false,.int .u32 n,.bool g],.cells true [.str [],.int .u32 0,.bool false]]) (fun k=>9-k) 0 (by simp) (by simp) (Weak.mk' [0,1,2] (by decide) (by decide) (by simp[dw]) (by simp)) fun k hk=>?_)
 obtain⟨hk1,hk2⟩:=hk;have hdl:(dw ls k).length<=9:=by simp[dw];omega
 by_cases hlt:k<ls.length/\k<9
 · obtain⟨h1,h2⟩:=hlt
   have h2i:(k:Int)<9:=by omega
   have h1i:(k:Int)<ls.length:=by omega
   obtain⟨c,hc⟩:∃c,ls[k]=c:=⟨_,rfl⟩
   have hc':ls[k]? = some c:=by rw[q3Z h1,hc]
   have c256:c<256:=hl c (qcZ hc');have hn:=zXB ls k c hc';have g1:∀h,(ls.map aB)[k]'h=.int .u8 c:=fun h=>by rw[List.getElem_map,hc];rfl
   obtain⟨d1,hd1⟩:∃d1,c % 8=d1:=⟨_,rfl⟩
   obtain⟨d2,hd2⟩:∃d2,d1 % 3=d2:=⟨_,rfl⟩
   have m1:(c:Int).tmod 8=(d1:Int):=by rw[zDT (by omega)];omega
   have m2:(d1:Int).tmod 3=(d2:Int):=by rw[zDT (by omega)];omega
   have w1:IntKind.u8.wrap (d1:Int)=(d1:Int):=zCw (by omega) (by omega);have w2:IntKind.u8.wrap (d2:Int)=(d2:Int):=zCw (by omega) (by omega);have w3:IntKind.u8.wrap (97+(d2:Int))=97+(d2:Int):=zCw (by omega) (by omega);have w4:IntKind.i64.wrap ((k:Int)+1)=k+1:=zI (by omega) (by omega);have hb1:(dw ls k).length+1<=9223372036854775807:=by omega
   have hb2:1+(dw ls k).length<=9223372036854775807:=by omega
   refine wS zu (by simp[h1,h1i,h2,h2i];exact wR) ?_;refine Sim.seq (Sim.block ?_);refine wS zu (by simp[h1,g1];exact wR) ?_;by_cases h7:c % 8<7
   · have h7i:(d1:Int)<7:=by omega
     have hd:zDd c=97+d2:=by unfold zDd;rw[if_pos h7,hd1,hd2]
     have w5:((97:Int)+(d2:Int)).toNat=97+d2:=by omega
     refine wS zu (by simp[m1,w1,h7i,m2,w2,w3];exact wR) ?_;refine wE zu (by simp[hb1,hb2,w5];exact wT) ?_;dsimp only;refine wE zu (by simp[w4];exact wT) ?_;dsimp only;exact⟨k+1,⟨by omega,by omega⟩,Weak.mk' [0,1,2] (by decide) (by decide) (by simp[hn,hd]) (by simp),by omega⟩
   · have h7i:¬(d1:Int)<7:=by omega
     have hd:zDd c=c:=by unfold zDd;rw[if_neg h7]
     refine wS zu (by simp[m1,w1,h7i];exact wR) ?_;refine wE zu (by simp[hb1,hb2];exact wT) ?_;dsimp only;refine wE zu (by simp[w4];exact wT) ?_;dsimp only;exact⟨k+1,⟨by omega,by omega⟩,Weak.mk' [0,1,2] (by decide) (by decide) (by simp[hn,hd]) (by simp),by omega⟩
 · have hdw:dw ls k=zHW ls:=by
     unfold dw zHW;rcases s2Z k 9 with h9 | h9
     · have:k=ls.length:=by omega
       rw[this,List.take_length,q6Z (by omega)]
     · rw[show k=9 by omega]
   rw[hdw];obtain⟨D,hD⟩:∃D,zHW ls=D:=⟨_,rfl⟩
   rw[hD];by_cases h1:k<ls.length
   · have h1i:(k:Int)<ls.length:=by omega
     have h2i:¬(k:Int)<9:=by omega
     refine wE zu (by simp[h1,h1i,h2i];exact wT) ?_;dsimp only;rw[if_pos rfl];by_cases he:D=[]
     · subst he
       refine wS zu (by simp;exact wR) ?_;refine wE zu (by simp[zOu,zLB,enA,zCx];exact wT) ?_;exact⟨.inr rfl,_,by simp;rfl,Weak.mk' [0] (by decide) (by decide) (by simp[dE,hD,enA,zCx]) (by simp)⟩
     · have hE:D.isEmpty=false:=by cases D with | nil=>exact absurd rfl he | cons=>rfl
       refine wS zu (by simp[he,hE];exact wR) ?_;refine wE zu (by simp[zOu,zLB,enA,zCx];exact wT) ?_;exact⟨.inr rfl,_,by simp;rfl,Weak.mk' [0] (by decide) (by decide) (by simp[dE,hD,he,enA,zCx]) (by simp)⟩
   · have h1i:¬(k:Int)<ls.length:=by omega
     refine wE zu (by simp[h1,h1i];exact wT) ?_;dsimp only;rw[if_pos rfl];by_cases he:D=[]
     · subst he
       refine wS zu (by simp;exact wR) ?_;refine wE zu (by simp[zOu,zLB,enA,zCx];exact wT) ?_;exact⟨.inr rfl,_,by simp;rfl,Weak.mk' [0] (by decide) (by decide) (by simp[dE,hD,enA,zCx]) (by simp)⟩
     · have hE:D.isEmpty=false:=by cases D with | nil=>exact absurd rfl he | cons=>rfl
       refine wS zu (by simp[he,hE];exact wR) ?_;refine wE zu (by simp[zOu,zLB,enA,zCx];exact wT) ?_;exact⟨.inr rfl,_,by simp;rfl,Weak.mk' [0] (by decide) (by decide) (by simp[dE,hD,he,enA,zCx]) (by simp)⟩
def zGG(H:zA):AV->Option (List Nat×Int×Bool)
 | .agg [.nils,.int .u32 n,.bool g]=>some ([],n,g)
 | .agg [.slice b off len 1 _,.int .u32 n,.bool g]=>match H[b]? with
   | some (.cells _ l)=>match zA6 .u8 ((l.drop off).take len) with
     | some ls=>if off+len<=l.length/\ls.all (· < 256)=true/\len<=9223372036854775807 then some (ls,n,g) else none
     | none=>none
   | _=>none
 | .agg [.sl b off len 1 _,.int .u32 n,.bool g]=>match H[b]? with
   | some (.cells _ l)=>match zA6 .u8 ((l.drop off).take len) with
     | some ls=>if off+len<=l.length/\ls.all (· < 256)=true/\len<=9223372036854775807 then some (ls,n,g) else none
     | none=>none
   | _=>none
 | _=>none
theorem zTJ{H:zA}{x:AV}{ls:List Nat}{n:Int}{g:Bool}(h:zGG H x=some (ls,n,g)):(∀c∈ls,c<256)/\ls.length<=9223372036854775807/\∃b off,(∀(i:Nat) (wd:List (Nat×Nat)),wd[i]? = some (b,off)->zC3 wd (.agg [.sl i 0 ls.length 1 false,.int .u32 n,.bool g]) x) /\
   (match H[b]? with | some (.cells _ l)=>off+(ls.map aB).length<=l.length/\ls.map aB=(l.drop off).take (ls.map aB).length | none=>True | _=>False):=by
 have key:∀(b off len:Nat) (o:Bool) (l:List AV) (ms:List Nat),H[b]? = some (.cells o l)->zA6 .u8 ((l.drop off).take len)=some ms->off+len<=l.length->len=ms.length/\off+(ms.map aB).length<=l.length/\ms.map aB=(l.drop off).take (ms.map aB).length:=by
   intro b off len o l ms hb hs hle;have e:=zEi hs;have hlen:len=ms.length:=by
     have:=congrArg List.length e;simp at this;omega
   subst hlen;exact⟨rfl,by simpa using hle,by rw[r7Z];exact e.symm⟩
 unfold zGG at h;split at h
 · cases h
   exact⟨by simp,by simp,H.length,0,fun i wd _=>by simp[zC3,zBn],by simp⟩
 · rename_i b off len c n' g'
   split at h;rotate_left
   · cases h
   rename_i o l hb;split at h;rotate_left
   · cases h
   rename_i ms hms;split at h <;> cases h
   rename_i hc;obtain⟨rfl,h1,h2⟩:=key b off len o l _ hb hms hc.1;exact⟨by simpa using hc.2.1,hc.2.2,b,off,fun i wd hw=>by simp[zC3,zBn,hw],by rw[hb];exact⟨h1,h2⟩⟩
 · rename_i b off len c n' g'
   split at h;rotate_left
   · cases h
   rename_i o l hb;split at h;rotate_left
   · cases h
   rename_i ms hms;split at h <;> cases h
   rename_i hc;obtain⟨rfl,h1,h2⟩:=key b off len o l _ hb hms hc.1;exact⟨by simpa using hc.2.1,hc.2.2,b,off,fun i wd hw=>by simp[zC3,zBn,hw],by rw[hb];exact⟨h1,h2⟩⟩
 · cases h
def zKT:zJ:=ZS fun args H=>match args with
 | [x]=>match zGG H x with
   | some (ls,n,g)=>some (.agg (enA (dE ls n g)))
   | none=>none
 | _=>none
theorem zOz:Sound Pz 196 zKT:=by
 refine Zm (zD Tryz.func196 rfl (by decide)) fun args H v h=>?_;split at h <;> try cases h
 rename_i x;split at h <;> cases h
 rename_i ls n g hx;obtain⟨h1,h2,b1,o1,w1,g1⟩:=zTJ hx;refine zIu (zT7 ls n g h1 h2) rfl [(b1,o1)] ?_ ?_
 · exact⟨w1 0 _ rfl,trivial⟩
 · exact⟨g1,zEB _,trivial⟩
abbrev Dr:=List Nat×Int×Bool
def Zc:Nat->List Dr->List AV
 | _,[]=>[]
 | k,d::ds=>.sl k 0 d.1.length 1 false::.int .u32 d.2.1::.bool d.2.2::Zc (k+1) ds
def zCm(ds:List Dr):zA:=ds.map fun d=>.cells false (d.1.map aB)
def drH(ds:List Dr):zA:=.cells false (Zc 1 ds)::zCm ds
theorem zE0:∀(k:Nat) (ds:List Dr),(Zc k ds).length=ds.length*3
 | _,[]=>rfl
 | k,d::ds=>by simp[Zc,zE0 (k+1) ds];omega
theorem zKX:∀(ds:List Dr) (k i:Nat) (h:i<ds.length),((Zc k ds).drop (i*3)).take 3=[.sl (k+i) 0 ds[i].1.length 1 false,.int .u32 ds[i].2.1,.bool ds[i].2.2]
 | d::ds,k,0,_=>by simp[Zc]
 | d::ds,k,i+1,h=>by
   have:=zKX ds (k+1) i (by simpa using h);rw[show (i+1)*3=i*3+3 by omega,show k+(i+1)=k+1+i by omega];simpa[Zc] using this
theorem zCd:∀(ds:List Dr) (k N:Nat),k+ds.length<=N->zi N (Zc k ds)=true
 | [],_,_,_=>rfl
 | d::ds,k,N,h=>by
   simp only[q7Z]at h;simp only[Zc,zi,below,qrZ,decide_eq_true_eq,Bool.true_and];exact⟨by omega,zCd ds (k+1) N (by omega)⟩
theorem zFS(ds:List Dr):(drH ds).length=ds.length+1:=by simp[drH,zCm]
theorem zZB(ds:List Dr)(i:Nat)(h:i<ds.length):(drH ds)[i+1]? = some (.cells false (ds[i].1.map aB)):=by
 simp[drH,zCm,q3Z h]
theorem zVG(ds:List Dr):∀x∈drH ds,∃o l,x=ABlk.cells o l/\zi (ds.length+1) l=true:=by
 intro x hx;rcases qwZ.1 hx with rfl | hx
 · exact⟨false,_,rfl,zCd ds 1 _ (by omega)⟩
 · obtain⟨d,_,rfl⟩:=reZ.1 hx
   exact⟨false,_,rfl,Zj _ _ (zEB _)⟩
def dEs(ds:List Dr):List En:=ds.map fun d=>dE d.1 d.2.1 d.2.2
def zQn(ds:List Dr):Prop:=∀d∈ds,(∀c∈d.1,c<256)/\d.1.length<=9223372036854775807
def zZw:Gam:=zZ [(196,zKT)]
theorem zBU:GOk Pz zZw:=zB zOz zC
theorem zPo(H:zA)(b:Nat)(ls:List Nat)(n:Int)(g:Bool)(o:Bool)(hb:H[b]? = some (.cells o (ls.map aB)))(h1:∀c∈ls,c<256)(h2:ls.length<=9223372036854775807) :
   zKT [.agg [.sl b 0 ls.length 1 false,.int .u32 n,.bool g]] H=some (.agg (enA (dE ls n g)),H,[]):=by
 have h0:(ls.map aB).take ls.length=ls.map aB:=q6Z (by simp);have h3:ls.all (fun x=>decide (x<256))=true:=by simpa using h1
 have h4:zGG H (.agg [.sl b 0 ls.length 1 false,.int .u32 n,.bool g])=some (ls,n,g):=by
   simp only[zGG,hb,List.drop_zero,h0,zLV];rw[if_pos ⟨by simp,h3,h2⟩]
 simp[zKT,ZS,h4]
theorem zRI(ds:List Dr)(most:Nat)(hm:most<=100)(hd:zQn ds)(hl:ds.length<=9223372036854775807) :
   Ct Pz 101 [.sl 0 0 ds.length 3 false,.int .i64 most] (drH ds) (.sl (ds.length+1) 0 (dEs (ds.take most)).length 3 false) (drH ds++[.cells true (zb (dEs (ds.take most)))]):=by
 obtain⟨N,hN⟩:∃N,ds.length+1=N:=⟨_,rfl⟩
 have hXl:=zFS ds;have hXf:=zVG ds;rw[hN]at hXl hXf;refine zE Tryz.func101 rfl ?_;rw[hXl,hN];simp only[Tryz.ntmps101,q7Z,q8Z,Nat.reduceAdd,Nat.reduceSub,qbZ,q9Z,qaZ];refine wS zBU (by simp;exact wR) ?_ (by omega);refine wS zBU (by simp;exact wR) ?_ (by omega);refine Sim.seq (wS zBU (by simp;exact wR) ?_ (by omega));refine Sim.block (Sim.loopW (fun k:Nat=>k<=ds.length/\k<=most)
   (fun k=>[.sl 0 0 ds.length 3 false,.int .i64 most,.top,.top,.top,.sl N 0 (dEs (ds.take k)).length 3 false,.int .i64 k]++qbZ 20 .top)
   (fun k=>drH ds++[.cells true (zb (dEs (ds.take k)))]) (fun k=>most-k) 0 (by omega) ⟨by omega,by omega⟩ ?_ fun k hk=>?_)
 · have:=Weak.tail (A:=drH ds) (T:=[]) (Tn:=[.cells true (zb (dEs (ds.take 0)))]) (F:=[.sl 0 0 ds.length 3 false,.int .i64 most,.tuple [],.tuple [],.nils,.nils,.int .i64 0]++qbZ 20 (.tuple [])) (Fn:=[.sl 0 0 ds.length 3 false,.int .i64 most,.top,.top,.top,.sl N 0 (dEs (ds.take 0)).length 3 false,.int .i64 (0:Nat)]++qbZ 20 .top) hXl hXf [0] (by decide) (by
       have h0:(List.range N++[0].map (N+·))[0]? = some 0:=by rw[q4Z (by simp;omega),rfZ (by omega)]
       have h0':∀h,(List.range N++[N])[0]'h=0:=fun h=>by rw[qyZ (by rw[List.length_range];omega),List.getElem_range]
       simp[AWs,AW,dEs,h0']) (by simp[AWg,hXl])
   simpa using this
 · obtain⟨hk1,hk2⟩:=hk
   obtain⟨out,ho⟩:∃out,dEs (ds.take k)=out:=⟨_,rfl⟩
   have hol:out.length=k:=by rw[<-ho];simp[dEs];omega
   obtain⟨X,hX⟩:∃X,drH ds=X:=⟨_,rfl⟩
   have hX0:X[0]? = some (.cells false (Zc 1 ds)):=by rw[<-hX];rfl
   rw[hX]at hXl hXf;rw[ho,hX];have b1:(out.length+1)*24<=140737488355328:=by omega
   have b2:out.length+1<=9223372036854775807:=by omega
   by_cases hlt:k<ds.length/\k<most
   · obtain⟨h1,h2⟩:=hlt
     have h1i:(k:Int)<ds.length:=by omega
     have h2i:(k:Int)<most:=by omega
     obtain⟨d,hdd⟩:∃d,ds[k]=d:=⟨_,rfl⟩
     have hd':ds[k]? = some d:=by rw[q3Z h1,hdd]
     have g1:=zKX ds 1 k h1;rw[hdd]at g1;have gl:=zE0 1 ds;have k1:k*3+3<=ds.length*3:=by omega
     obtain⟨ls,n,g⟩:=d;have hok:=hd _ (qcZ hd');have hXk:X[1+k]? = some (.cells false (ls.map aB)):=by rw[<-hX,Nat.add_comm,zZB ds k h1,hdd]
     have hw:IntKind.i64.wrap ((k:Int)+1)=k+1:=zI (by omega) (by omega);have hN0:0<N:=by omega
     have hkN:1+k<N:=by omega
     obtain⟨ew,en',eg,hE⟩:∃ew en' eg,dE ls n g=(ew,en',eg):=⟨_,_,_,rfl⟩
     have hds:∀T:zA,zKT [.agg [.sl (1+k) 0 ls.length 1 false,.int .u32 n,.bool g]] (X++T)=some (.agg [.str ew,.int .u32 en',.bool eg],X++T,[]):=fun T=>by
       have:=zPo (X++T) (1+k) ls n g false (by rw[q4Z (by omega)];exact hXk) hok.1 hok.2;rw[hE]at this;exact this
     have hX0':∀T:zA,(X++T)[0]? = some (.cells false (Zc 1 ds)):=fun T=>by rw[q4Z (by omega)];exact hX0
     have hX0g:∀(T:zA) h,(X++T)[0]'h=.cells false (Zc 1 ds):=fun T h=>by
       have:=hX0' T;rw[q3Z h]at this;exact Option.some.inj this
     have hnext:dEs (ds.take (k+1))=out++[(ew,en',eg)]:=by rw[<-ho,<-hE];simp[dEs,List.take_add_one,hd']
     refine wS zBU (by simp[h1i,h2i];exact wR) ?_ (by simp;omega);refine Sim.seq (Sim.block ?_);refine wE zBU (by simp +decide [h1,hX0g,g1,gl,k1,zZw,hds,hXl,b1,b2];exact wT) ?_ (by simp;omega);dsimp only;refine wE zBU (by simp[hw];exact wT) ?_ (by simp;omega);dsimp only;have r0:∀h,(List.range N++[N+2])[0]'h=0:=fun h=>by rw[qyZ (by rw[List.length_range];omega),List.getElem_range]
     have rN:∀h,(List.range N++[N+2])[N]'h=N+2:=fun h=>by rw[scZ (by simp)];simp
     refine ⟨k+1,⟨by omega,by omega⟩,?_,by omega⟩;refine Weak.tail hXl hXf [2] (by decide) ?_ ?_
     · simp[AWs,AW,r0,rN,hnext]
     · have hfr:=ZD (out++[(ew,en',eg)])
       simp[AWg,AWb,hXl,hnext];have hfr2:zV (zb out++[AV.str ew,AV.int IntKind.u32 en',AV.bool eg])=true:=by
         have e:zb out++[AV.str ew,AV.int IntKind.u32 en',AV.bool eg]=zb (out++[(ew,en',eg)]):=by simp[zb,enA]
         rw[e];exact hfr
       exact AWs.refl _ _ hfr2
   · have hkd:dEs (ds.take most)=out:=by
       rw[<-ho];rcases s2Z k most with h9 | h9
       · have:k=ds.length:=by omega
         rw[this,List.take_length,q6Z (by omega)]
       · rw[show k=most by omega]
     rw[hkd];have r0:∀h,(List.range N++[N])[0]'h=0:=fun h=>by rw[qyZ (by rw[List.length_range];omega),List.getElem_range]
     have rN:∀h,(List.range N++[N])[N]'h=N:=fun h=>by rw[scZ (by simp)];simp
     by_cases h1:k<ds.length
     · have h2:¬k<most:=fun h=>hlt ⟨h1,h⟩
       have h1i:(k:Int)<ds.length:=by omega
       have h2i:¬(k:Int)<most:=by omega
       refine wE zBU (by simp[h1i,h2i];exact wT) ?_ (by simp;omega);dsimp only;rw[if_pos rfl];refine wE zBU (by simp;exact wT) ?_ (by simp;omega);refine ⟨.inr rfl,_,by simp;rfl,Weak.tail hXl hXf [0] (by decide) ?_ ?_⟩
       · simp[AWs,AW,rN]
       · simp[AWg,AWb,hXl]
     · have h1i:¬(k:Int)<ds.length:=by omega
       refine wE zBU (by simp[h1i];exact wT) ?_ (by simp;omega);dsimp only;rw[if_pos rfl];refine wE zBU (by simp;exact wT) ?_ (by simp;omega);refine ⟨.inr rfl,_,by simp;rfl,Weak.tail hXl hXf [0] (by decide) ?_ ?_⟩
       · simp[AWs,AW,rN]
       · simp[AWg,AWb,hXl]
theorem zJ9:∀(ds ds':List Dr) (k:Nat),ds.length=ds'.length->Zc k ds=Zc k ds'->zCm ds=zCm ds'->ds=ds'
 | [],[],_,_,_,_=>rfl
 | [],_::_,_,h,_,_=>by simp at h
 | _::_,[],_,h,_,_=>by simp at h
 | (l,n,g)::ds,(l',n',g')::ds',k,hl,hc,hb=>by
   simp only[Zc,List.cons.injEq,AV.sl.injEq,AV.int.injEq,AV.bool.injEq,true_and,and_true]at hc;simp only[zCm,s1Z,List.cons.injEq,ABlk.cells.injEq,true_and]at hb;obtain⟨_,rfl,rfl,hc⟩:=hc;have hll:l=l':=by
     have:=congrArg (zA6 .u8) hb.1;simpa[zLV] using this
   subst hll;rw[zJ9 ds ds' (k+1) (by simpa using hl) hc hb.2]
theorem zHM(g:Nat->Nat):∀(H:zA) (em:List Nat) (H0 H1:zA),(∀B∈H0,B.own=false)->zN g H em H0 H1=H
 | H,[],_,_,_=>by simp[zN]
 | H,_::_,[],_,_=>by simp[zN]
 | H,_::_,_::_,[],_=>by simp[zN]
 | H,e::em,B0::H0,B1::H1,h=>by
   unfold zN;rw[if_neg (by rw[h B0 (qhZ ..)];decide),zHM g H em H0 H1 fun B hB=>h B (qiZ _ hB)]
theorem zN6(g:Nat->Nat):∀es:List En,zj g (zb es)=zb es
 | []=>rfl
 | e::es=>by
   have:=zN6 g es;simp[zb,enA]at this ⊢;exact this
end
end Go.Proofs.YtfhidaoiofeooaaGreatDoor
