/- Parts of the proof of ReplayMends: lemmas, each with its own conditions. -/
import Derived.Shelf.Spec.SlicesInsertGrow
import Derived.Test.YtpmfecnajoojeaaGreatDoorY8
set_option maxHeartbeats 64000000
open List renaming getElem?_eq_getElem → q3Z, getElem?_append_left → q4Z, take_of_length_le → q6Z, length_cons → q7Z, length_nil → q8Z, cons_append → q9Z, nil_append → qaZ, replicate → qbZ, mem_of_getElem? → qcZ, mem_cons_self → qhZ, mem_cons_of_mem → qiZ, mem_cons → qwZ, getElem_append_left → qyZ, length_map → r7Z, flatten_cons → rcZ, mem_map → reZ, getElem?_range → rfZ, replicate_succ → rvZ, map_cons → s1Z, getElem_append_right → scZ
open Bool renaming and_eq_true → qrZ
open Nat renaming lt_or_ge → s2Z
namespace Go.Proofs.YtpmfecnajoojeaaGreatDoor
open _root_.Go.Proofs.Tryz renaming prog → Pz
set_option maxRecDepth 100000
section
open Go Go.RowKit Go.Lib
end
section
open Go Go.RowKit Go.Lib
attribute [-simp] zJ zY zn zL zl
end
section
open Go
attribute [-simp] zJ zY zn zL zl
def asc(l:List En):Prop:=l.Pairwise fun x y=>x.1<y.1
instance (l:List En):Decidable (asc l):=by unfold asc;infer_instance
end
section
open Go Go.RowKit Go.Lib
attribute [-simp] zJ zY zn zL zl
def zCS(e:En):En:=(e.1,if e.2.2 then 0 else e.2.1,e.2.2)
end
section
open Go
attribute [-simp] zJ zY zn zL zl
theorem zUw(w:List UInt8):okW w=true↔1<=w.length/\w.length<=255:=by simp[okW]
def zDV(c:Nat):Nat:=if c % 8<7 then 97+c % 8 % 3 else c
def zGp(ls:List Nat):List UInt8:=(ls.take 9).map fun c=>UInt8.ofNat (zDV c)
def dE(ls:List Nat)(n:Int)(g:Bool):En:=zCS (if zGp ls=[] then [97] else zGp ls,n,g)
theorem zX0(ls:List Nat)(n:Int)(g:Bool)(hn:okN n=true):okW (dE ls n g).1=true/\okN (dE ls n g).2.1=true/\((dE ls n g).2.2=true->(dE ls n g).2.1=0):=by
 unfold dE zCS;refine ⟨?_,?_,?_⟩
 · rw[zUw]
   dsimp only;split
   · simp
   · rename_i h
     have h1:(zGp ls).length<=9:=by simp[zGp];omega
     have h2:(zGp ls).length≠0:=by simpa using h
     omega
 · dsimp only
   split
   · rfl
   · exact hn
 · dsimp only
   intro h;rw[if_pos h]
theorem zVs(e:En):Ct Pz 200 [.agg (enA e)] [] (.agg (enA (zCS e))) []:=by
 obtain⟨w,n,g⟩:=e;unfold zCS;refine zm hmix zD (n:=0) Tryz.func200 ?_ rfl;unfold Tryz.f200
 cases g <;> simp[enA]
def zKh:zc:=ZP fun | [.agg [.str w,.int .u32 n,.bool g]]=>some (.agg (enA (zCS (w,n,g)))) | _=>none
theorem zPh:Sound Pz 200 zKh:=by
 refine zP (zH Tryz.func200 rfl (by decide)) fun args v h=>?_
 split at h <;> cases h
 rename_i w n g;exact⟨zVs (w,n,g),rfl,rfl⟩
def zNv:Gam:=zv [(200,zKh)]
theorem zt:GOk Pz zNv:=zC zPh zD
def dw(ls:List Nat)(k:Nat):List UInt8:=(ls.take k).map fun c=>UInt8.ofNat (zDV c)
theorem zVF(ls:List Nat)(k c:Nat)(h:ls[k]? = some c):dw ls (k+1)=dw ls k++[UInt8.ofNat (zDV c)]:=by
 unfold dw;rw[List.take_add_one,h];simp
theorem zTX(ls:List Nat)(n:Int)(g:Bool)(hl:∀c∈ls,c<256)(hll:ls.length<=9223372036854775807) :
   Ct Pz 127 [.agg [.sl 0 0 ls.length 1 false,.int .u32 n,.bool g]] [.cells false (ls.map aB)] (.agg (enA (dE ls n g))) [.cells false (ls.map aB)]:=by
 refine zK Tryz.func127 rfl ?_;simp only[Tryz.ntmps127,q7Z,q8Z,Nat.reduceAdd,Nat.reduceSub,qbZ,q9Z,qaZ]
 refine Sim.step hmix zt (n:=0) (by simp;exact⟨rfl,rfl⟩) (by simp) ?_
 refine Sim.step hmix zt (n:=0) (by simp;exact⟨rfl,rfl⟩) (by simp) ?_
 refine Sim.seq (Sim.step hmix zt (n:=0) (by simp;exact⟨rfl,rfl⟩) (by simp) ?_)
 refine Sim.block (Sim.loopW (fun k:Nat=>k<=ls.length/\k<=9)
   (fun k=>[.top,.ptr 1 0,.ptr 2 0,.str (dw ls k),.int .i64 k]++qbZ 38 .top)
   (fun _=>[.cells false (ls.map aB),.cells true [.sl 0 0 ls.length 1 false,.int .u32 n,.bool g],.cells true [.str [],.int .u32 0,.bool false]]) (fun k=>9-k) 0 (by simp) (by simp) (Weak.mk' [0,1,2] (by decide) (by decide) (by simp[dw]) (by simp)) fun k hk=>?_)
 obtain⟨hk1,hk2⟩:=hk
 have hdl:(dw ls k).length<=9:=by simp[dw];omega
 by_cases hlt:k<ls.length/\k<9
 · obtain⟨h1,h2⟩:=hlt
   have h2i:(k:Int)<9:=by omega
   have h1i:(k:Int)<ls.length:=by omega
   obtain⟨c,hc⟩:∃c,ls[k]=c:=⟨_,rfl⟩
   have hc':ls[k]? = some c:=by rw[q3Z h1,hc]
   have c256:c<256:=hl c (qcZ hc');have hn:=zVF ls k c hc'
   have g1:∀h,(ls.map aB)[k]'h=.int .u8 c:=fun h=>by rw[List.getElem_map,hc];rfl
   obtain⟨d1,hd1⟩:∃d1,c % 8=d1:=⟨_,rfl⟩;obtain⟨d2,hd2⟩:∃d2,d1 % 3=d2:=⟨_,rfl⟩
   have m1:(c:Int).tmod 8=(d1:Int):=by rw[zC7 (by omega)];omega
   have m2:(d1:Int).tmod 3=(d2:Int):=by rw[zC7 (by omega)];omega
   have w1:IntKind.u8.wrap (d1:Int)=(d1:Int):=zDb (by omega) (by omega)
   have w2:IntKind.u8.wrap (d2:Int)=(d2:Int):=zDb (by omega) (by omega)
   have w3:IntKind.u8.wrap (97+(d2:Int))=97+(d2:Int):=zDb (by omega) (by omega)
   have w4:IntKind.i64.wrap ((k:Int)+1)=k+1:=zX (by omega) (by omega)
   have hb1:(dw ls k).length+1<=9223372036854775807:=by omega
   have hb2:1+(dw ls k).length<=9223372036854775807:=by omega
   refine Sim.step hmix zt (n:=0) (by simp[h1,h1i,h2,h2i];exact⟨rfl,rfl⟩) (by simp) ?_
   refine Sim.seq (Sim.block ?_)
   refine Sim.step hmix zt (n:=0) (by simp[h1,g1];exact⟨rfl,rfl⟩) (by simp) ?_
   by_cases h7:c % 8<7
   · have h7i:(d1:Int)<7:=by omega
     have hd:zDV c=97+d2:=by unfold zDV;rw[if_pos h7,hd1,hd2]
     have w5:((97:Int)+(d2:Int)).toNat=97+d2:=by omega
     refine Sim.step hmix zt (n:=0) (by simp[m1,w1,h7i,m2,w2,w3];exact⟨rfl,rfl⟩) (by simp) ?_
     refine Sim.exec hmix zt (n:=0) (by simp[hb1,hb2,w5];exact⟨rfl,rfl,rfl⟩) (by simp) ?_
     dsimp only
     refine Sim.exec hmix zt (n:=0) (by simp[w4];exact⟨rfl,rfl,rfl⟩) (by simp) ?_
     dsimp only
     exact⟨k+1,⟨by omega,by omega⟩,Weak.mk' [0,1,2] (by decide) (by decide) (by simp[hn,hd]) (by simp),by omega⟩
   · have h7i:¬(d1:Int)<7:=by omega
     have hd:zDV c=c:=by unfold zDV;rw[if_neg h7]
     refine Sim.step hmix zt (n:=0) (by simp[m1,w1,h7i];exact⟨rfl,rfl⟩) (by simp) ?_
     refine Sim.exec hmix zt (n:=0) (by simp[hb1,hb2];exact⟨rfl,rfl,rfl⟩) (by simp) ?_
     dsimp only
     refine Sim.exec hmix zt (n:=0) (by simp[w4];exact⟨rfl,rfl,rfl⟩) (by simp) ?_
     dsimp only
     exact⟨k+1,⟨by omega,by omega⟩,Weak.mk' [0,1,2] (by decide) (by decide) (by simp[hn,hd]) (by simp),by omega⟩
 · have hdw:dw ls k=zGp ls:=by
     unfold dw zGp;rcases s2Z k 9 with h9 | h9
     · have:k=ls.length:=by omega
       rw[this,List.take_length,q6Z (by omega)]
     · rw[show k=9 by omega]
   rw[hdw];obtain⟨D,hD⟩:∃D,zGp ls=D:=⟨_,rfl⟩;rw[hD];by_cases h1:k<ls.length
   · have h1i:(k:Int)<ls.length:=by omega
     have h2i:¬(k:Int)<9:=by omega
     refine Sim.exec hmix zt (n:=0) (by simp[h1,h1i,h2i];exact⟨rfl,rfl,rfl⟩) (by simp) ?_
     dsimp only;rw[if_pos rfl];by_cases he:D=[]
     · subst he
       refine Sim.step hmix zt (n:=0) (by simp;exact⟨rfl,rfl⟩) (by simp) ?_
       refine Sim.exec hmix zt (n:=0) (by simp[zNv,zKh,enA,zCS];exact⟨rfl,rfl,rfl⟩) (by simp) ?_
       exact⟨.inr rfl,_,by simp;rfl,Weak.mk' [0] (by decide) (by decide) (by simp[dE,hD,enA,zCS]) (by simp)⟩
     · have hE:D.isEmpty=false:=by cases D with | nil=>exact absurd rfl he | cons=>rfl
       refine Sim.step hmix zt (n:=0) (by simp[he,hE];exact⟨rfl,rfl⟩) (by simp) ?_
       refine Sim.exec hmix zt (n:=0) (by simp[zNv,zKh,enA,zCS];exact⟨rfl,rfl,rfl⟩) (by simp) ?_
       exact⟨.inr rfl,_,by simp;rfl,Weak.mk' [0] (by decide) (by decide) (by simp[dE,hD,he,enA,zCS]) (by simp)⟩
   · have h1i:¬(k:Int)<ls.length:=by omega
     refine Sim.exec hmix zt (n:=0) (by simp[h1,h1i];exact⟨rfl,rfl,rfl⟩) (by simp) ?_
     dsimp only;rw[if_pos rfl];by_cases he:D=[]
     · subst he
       refine Sim.step hmix zt (n:=0) (by simp;exact⟨rfl,rfl⟩) (by simp) ?_
       refine Sim.exec hmix zt (n:=0) (by simp[zNv,zKh,enA,zCS];exact⟨rfl,rfl,rfl⟩) (by simp) ?_
       exact⟨.inr rfl,_,by simp;rfl,Weak.mk' [0] (by decide) (by decide) (by simp[dE,hD,enA,zCS]) (by simp)⟩
     · have hE:D.isEmpty=false:=by cases D with | nil=>exact absurd rfl he | cons=>rfl
       refine Sim.step hmix zt (n:=0) (by simp[he,hE];exact⟨rfl,rfl⟩) (by simp) ?_
       refine Sim.exec hmix zt (n:=0) (by simp[zNv,zKh,enA,zCS];exact⟨rfl,rfl,rfl⟩) (by simp) ?_
       exact⟨.inr rfl,_,by simp;rfl,Weak.mk' [0] (by decide) (by decide) (by simp[dE,hD,he,enA,zCS]) (by simp)⟩
def zFP(H:zA):AV->Option (List Nat×Int×Bool)
 | .agg [.nils,.int .u32 n,.bool g]=>some ([],n,g)
 | .agg [.slice b off len 1 _,.int .u32 n,.bool g]=>match H[b]? with
   | some (.cells _ l)=>match zBT .u8 ((l.drop off).take len) with
     | some ls=>if off+len<=l.length/\ls.all (· < 256)=true/\len<=9223372036854775807 then some (ls,n,g) else none
     | none=>none
   | _=>none
 | .agg [.sl b off len 1 _,.int .u32 n,.bool g]=>match H[b]? with
   | some (.cells _ l)=>match zBT .u8 ((l.drop off).take len) with
     | some ls=>if off+len<=l.length/\ls.all (· < 256)=true/\len<=9223372036854775807 then some (ls,n,g) else none
     | none=>none
   | _=>none
 | _=>none
theorem zRv{H:zA}{x:AV}{ls:List Nat}{n:Int}{g:Bool}(h:zFP H x=some (ls,n,g)):(∀c∈ls,c<256)/\ls.length<=9223372036854775807/\∃b off,(∀(i:Nat) (wd:List (Nat×Nat)),wd[i]? = some (b,off)->zBo wd (.agg [.sl i 0 ls.length 1 false,.int .u32 n,.bool g]) x) /\
   (match H[b]? with | some (.cells _ l)=>off+(ls.map aB).length<=l.length/\ls.map aB=(l.drop off).take (ls.map aB).length | none=>True | _=>False):=by
 have key:∀(b off len:Nat) (o:Bool) (l:List AV) (ms:List Nat),H[b]? = some (.cells o l)->zBT .u8 ((l.drop off).take len)=some ms->off+len<=l.length->len=ms.length/\off+(ms.map aB).length<=l.length/\ms.map aB=(l.drop off).take (ms.map aB).length:=by
   intro b off len o l ms hb hs hle;have e:=zGS hs
   have hlen:len=ms.length:=by
     have:=congrArg List.length e;simp at this;omega
   subst hlen
   exact⟨rfl,by simpa using hle,by rw[r7Z];exact e.symm⟩
 unfold zFP at h;split at h
 · cases h
   exact⟨by simp,by simp,H.length,0,fun i wd _=>by simp[zBo,zBu],by simp⟩
 · rename_i b off len c n' g'
   split at h;rotate_left
   · cases h
   rename_i o l hb;split at h;rotate_left
   · cases h
   rename_i ms hms
   split at h <;> cases h
   rename_i hc;obtain⟨rfl,h1,h2⟩:=key b off len o l _ hb hms hc.1
   exact⟨by simpa using hc.2.1,hc.2.2,b,off,fun i wd hw=>by simp[zBo,zBu,hw],by rw[hb];exact⟨h1,h2⟩⟩
 · rename_i b off len c n' g'
   split at h;rotate_left
   · cases h
   rename_i o l hb;split at h;rotate_left
   · cases h
   rename_i ms hms
   split at h <;> cases h
   rename_i hc;obtain⟨rfl,h1,h2⟩:=key b off len o l _ hb hms hc.1
   exact⟨by simpa using hc.2.1,hc.2.2,b,off,fun i wd hw=>by simp[zBo,zBu,hw],by rw[hb];exact⟨h1,h2⟩⟩
 · cases h
def zIk:zc:=zAZ fun args H=>match args with
 | [x]=>match zFP H x with
   | some (ls,n,g)=>some (.agg (enA (dE ls n g)))
   | none=>none
 | _=>none
theorem zMO:Sound Pz 127 zIk:=by
 refine Zx (zH Tryz.func127 rfl (by decide)) fun args H v h=>?_
 split at h <;> try cases h
 rename_i x
 split at h <;> cases h
 rename_i ls n g hx;obtain⟨h1,h2,b1,o1,w1,g1⟩:=zRv hx;refine zE1 (zTX ls n g h1 h2) rfl [(b1,o1)] ?_ ?_
 · exact⟨w1 0 _ rfl,trivial⟩
 · exact⟨g1,zDr _,trivial⟩
abbrev Dr:=List Nat×Int×Bool
def ZX:Nat->List Dr->List AV
 | _,[]=>[]
 | k,d::ds=>.sl k 0 d.1.length 1 false::.int .u32 d.2.1::.bool d.2.2::ZX (k+1) ds
def zCo(ds:List Dr):zA:=ds.map fun d=>.cells false (d.1.map aB)
def drH(ds:List Dr):zA:=.cells false (ZX 1 ds)::zCo ds
theorem zEk:∀(k:Nat) (ds:List Dr),(ZX k ds).length=ds.length*3
 | _,[]=>rfl
 | k,d::ds=>by simp[ZX,zEk (k+1) ds];omega
theorem zJJ:∀(ds:List Dr) (k i:Nat) (h:i<ds.length),((ZX k ds).drop (i*3)).take 3=[.sl (k+i) 0 ds[i].1.length 1 false,.int .u32 ds[i].2.1,.bool ds[i].2.2]
 | d::ds,k,0,_=>by simp[ZX]
 | d::ds,k,i+1,h=>by
   have:=zJJ ds (k+1) i (by simpa using h)
   rw[show (i+1)*3=i*3+3 by omega,show k+(i+1)=k+1+i by omega]
   simpa[ZX] using this
theorem zCJ:∀(ds:List Dr) (k N:Nat),k+ds.length<=N->zV N (ZX k ds)=true
 | [],_,_,_=>rfl
 | d::ds,k,N,h=>by
   simp only[q7Z]at h;simp only[ZX,zV,below,qrZ,decide_eq_true_eq,Bool.true_and]
   exact⟨by omega,zCJ ds (k+1) N (by omega)⟩
theorem zFJ(ds:List Dr):(drH ds).length=ds.length+1:=by simp[drH,zCo]
theorem zXM(ds:List Dr)(i:Nat)(h:i<ds.length):(drH ds)[i+1]? = some (.cells false (ds[i].1.map aB)):=by
 simp[drH,zCo,q3Z h]
theorem zSg(ds:List Dr):∀x∈drH ds,∃o l,x=ABlk.cells o l/\zV (ds.length+1) l=true:=by
 intro x hx;rcases qwZ.1 hx with rfl | hx
 · exact⟨false,_,rfl,zCJ ds 1 _ (by omega)⟩
 · obtain⟨d,_,rfl⟩:=reZ.1 hx
   exact⟨false,_,rfl,ZB _ _ (zDr _)⟩
def dEs(ds:List Dr):List En:=ds.map fun d=>dE d.1 d.2.1 d.2.2
def zPw(ds:List Dr):Prop:=∀d∈ds,(∀c∈d.1,c<256)/\d.1.length<=9223372036854775807
def zX1:Gam:=zv [(127,zIk)]
theorem zBC:GOk Pz zX1:=zC zMO zD
theorem zOR(H:zA)(b:Nat)(ls:List Nat)(n:Int)(g:Bool)(o:Bool)(hb:H[b]? = some (.cells o (ls.map aB)))(h1:∀c∈ls,c<256)(h2:ls.length<=9223372036854775807) :
   zIk [.agg [.sl b 0 ls.length 1 false,.int .u32 n,.bool g]] H=some (.agg (enA (dE ls n g)),H,[]):=by
 have h0:(ls.map aB).take ls.length=ls.map aB:=q6Z (by simp)
 have h3:ls.all (fun x=>decide (x<256))=true:=by simpa using h1
 have h4:zFP H (.agg [.sl b 0 ls.length 1 false,.int .u32 n,.bool g])=some (ls,n,g):=by
   simp only[zFP,hb,List.drop_zero,h0,zKA]
   rw[if_pos ⟨by simp,h3,h2⟩]
 simp[zIk,zAZ,h4]
theorem zPf(ds:List Dr)(most:Nat)(hm:most<=100)(hd:zPw ds)(hl:ds.length<=9223372036854775807) :
   Ct Pz 63 [.sl 0 0 ds.length 3 false,.int .i64 most] (drH ds) (.sl (ds.length+1) 0 (dEs (ds.take most)).length 3 false) (drH ds++[.cells true (zS (dEs (ds.take most)))]):=by
 obtain⟨N,hN⟩:∃N,ds.length+1=N:=⟨_,rfl⟩;have hXl:=zFJ ds;have hXf:=zSg ds;rw[hN]at hXl hXf;refine zK Tryz.func63 rfl ?_;rw[hXl,hN];simp only[Tryz.ntmps63,q7Z,q8Z,Nat.reduceAdd,Nat.reduceSub,qbZ,q9Z,qaZ]
 refine Sim.step hmix zBC (n:=0) (by simp;exact⟨rfl,rfl⟩) (by omega) ?_
 refine Sim.step hmix zBC (n:=0) (by simp;exact⟨rfl,rfl⟩) (by omega) ?_
 refine Sim.seq (Sim.step hmix zBC (n:=0) (by simp;exact⟨rfl,rfl⟩) (by omega) ?_)
 refine Sim.block (Sim.loopW (fun k:Nat=>k<=ds.length/\k<=most)
   (fun k=>[.sl 0 0 ds.length 3 false,.int .i64 most,.top,.top,.top,.sl N 0 (dEs (ds.take k)).length 3 false,.int .i64 k]++qbZ 20 .top)
   (fun k=>drH ds++[.cells true (zS (dEs (ds.take k)))]) (fun k=>most-k) 0 (by omega) ⟨by omega,by omega⟩ ?_ fun k hk=>?_)
 · have:=Weak.tail (A:=drH ds) (T:=[]) (Tn:=[.cells true (zS (dEs (ds.take 0)))]) (F:=[.sl 0 0 ds.length 3 false,.int .i64 most,.tuple [],.tuple [],.nils,.nils,.int .i64 0]++qbZ 20 (.tuple [])) (Fn:=[.sl 0 0 ds.length 3 false,.int .i64 most,.top,.top,.top,.sl N 0 (dEs (ds.take 0)).length 3 false,.int .i64 (0:Nat)]++qbZ 20 .top) hXl hXf [0] (by decide) (by
       have h0:(List.range N++[0].map (N+·))[0]? = some 0:=by rw[q4Z (by simp;omega),rfZ (by omega)]
       have h0':∀h,(List.range N++[N])[0]'h=0:=fun h=>by rw[qyZ (by rw[List.length_range];omega),List.getElem_range]
       simp[AWs,AW,dEs,h0']) (by simp[AWg,hXl])
   simpa using this
 · obtain⟨hk1,hk2⟩:=hk
   obtain⟨out,ho⟩:∃out,dEs (ds.take k)=out:=⟨_,rfl⟩
   have hol:out.length=k:=by rw[<-ho];simp[dEs];omega
   obtain⟨X,hX⟩:∃X,drH ds=X:=⟨_,rfl⟩
   have hX0:X[0]? = some (.cells false (ZX 1 ds)):=by rw[<-hX];rfl
   rw[hX]at hXl hXf;rw[ho,hX]
   have b1:(out.length+1)*24<=140737488355328:=by omega
   have b2:out.length+1<=9223372036854775807:=by omega
   by_cases hlt:k<ds.length/\k<most
   · obtain⟨h1,h2⟩:=hlt
     have h1i:(k:Int)<ds.length:=by omega
     have h2i:(k:Int)<most:=by omega
     obtain⟨d,hdd⟩:∃d,ds[k]=d:=⟨_,rfl⟩
     have hd':ds[k]? = some d:=by rw[q3Z h1,hdd]
     have g1:=zJJ ds 1 k h1;rw[hdd]at g1;have gl:=zEk 1 ds
     have k1:k*3+3<=ds.length*3:=by omega
     obtain⟨ls,n,g⟩:=d;have hok:=hd _ (qcZ hd')
     have hXk:X[1+k]? = some (.cells false (ls.map aB)):=by rw[<-hX,Nat.add_comm,zXM ds k h1,hdd]
     have hw:IntKind.i64.wrap ((k:Int)+1)=k+1:=zX (by omega) (by omega)
     have hN0:0<N:=by omega
     have hkN:1+k<N:=by omega
     obtain⟨ew,en',eg,hE⟩:∃ew en' eg,dE ls n g=(ew,en',eg):=⟨_,_,_,rfl⟩
     have hds:∀T:zA,zIk [.agg [.sl (1+k) 0 ls.length 1 false,.int .u32 n,.bool g]] (X++T)=some (.agg [.str ew,.int .u32 en',.bool eg],X++T,[]):=fun T=>by
       have:=zOR (X++T) (1+k) ls n g false (by rw[q4Z (by omega)];exact hXk) hok.1 hok.2
       rw[hE]at this;exact this
     have hX0':∀T:zA,(X++T)[0]? = some (.cells false (ZX 1 ds)):=fun T=>by rw[q4Z (by omega)];exact hX0
     have hX0g:∀(T:zA) h,(X++T)[0]'h=.cells false (ZX 1 ds):=fun T h=>by
       have:=hX0' T;rw[q3Z h]at this;exact Option.some.inj this
     have hnext:dEs (ds.take (k+1))=out++[(ew,en',eg)]:=by rw[<-ho,<-hE];simp[dEs,List.take_add_one,hd']
     refine Sim.step hmix zBC (n:=0) (by simp[h1i,h2i];exact⟨rfl,rfl⟩) (by simp;omega) ?_
     refine Sim.seq (Sim.block ?_)
     refine Sim.exec hmix zBC (n:=0) (by simp +decide [h1,hX0g,g1,gl,k1,zX1,hds,hXl,b1,b2];exact⟨rfl,rfl,rfl⟩) (by simp;omega) ?_
     dsimp only
     refine Sim.exec hmix zBC (n:=0) (by simp[hw];exact⟨rfl,rfl,rfl⟩) (by simp;omega) ?_
     dsimp only
     have r0:∀h,(List.range N++[N+2])[0]'h=0:=fun h=>by rw[qyZ (by rw[List.length_range];omega),List.getElem_range]
     have rN:∀h,(List.range N++[N+2])[N]'h=N+2:=fun h=>by rw[scZ (by simp)];simp
     refine ⟨k+1,⟨by omega,by omega⟩,?_,by omega⟩
     refine Weak.tail hXl hXf [2] (by decide) ?_ ?_
     · simp[AWs,AW,r0,rN,hnext]
     · have hfr:=zp (out++[(ew,en',eg)])
       simp[AWg,AWb,hXl,hnext]
       have hfr2:zZ (zS out++[AV.str ew,AV.int IntKind.u32 en',AV.bool eg])=true:=by
         have e:zS out++[AV.str ew,AV.int IntKind.u32 en',AV.bool eg]=zS (out++[(ew,en',eg)]):=by simp[zS,enA]
         rw[e];exact hfr
       exact AWs.refl _ _ hfr2
   · have hkd:dEs (ds.take most)=out:=by
       rw[<-ho];rcases s2Z k most with h9 | h9
       · have:k=ds.length:=by omega
         rw[this,List.take_length,q6Z (by omega)]
       · rw[show k=most by omega]
     rw[hkd]
     have r0:∀h,(List.range N++[N])[0]'h=0:=fun h=>by rw[qyZ (by rw[List.length_range];omega),List.getElem_range]
     have rN:∀h,(List.range N++[N])[N]'h=N:=fun h=>by rw[scZ (by simp)];simp
     by_cases h1:k<ds.length
     · have h2:¬k<most:=fun h=>hlt ⟨h1,h⟩
       have h1i:(k:Int)<ds.length:=by omega
       have h2i:¬(k:Int)<most:=by omega
       refine Sim.exec hmix zBC (n:=0) (by simp[h1i,h2i];exact⟨rfl,rfl,rfl⟩) (by simp;omega) ?_
       dsimp only;rw[if_pos rfl]
       refine Sim.exec hmix zBC (n:=0) (by simp;exact⟨rfl,rfl,rfl⟩) (by simp;omega) ?_
       refine ⟨.inr rfl,_,by simp;rfl,Weak.tail hXl hXf [0] (by decide) ?_ ?_⟩
       · simp[AWs,AW,rN]
       · simp[AWg,AWb,hXl]
     · have h1i:¬(k:Int)<ds.length:=by omega
       refine Sim.exec hmix zBC (n:=0) (by simp[h1i];exact⟨rfl,rfl,rfl⟩) (by simp;omega) ?_
       dsimp only;rw[if_pos rfl]
       refine Sim.exec hmix zBC (n:=0) (by simp;exact⟨rfl,rfl,rfl⟩) (by simp;omega) ?_
       refine ⟨.inr rfl,_,by simp;rfl,Weak.tail hXl hXf [0] (by decide) ?_ ?_⟩
       · simp[AWs,AW,rN]
       · simp[AWg,AWb,hXl]
theorem zIF:∀(ds ds':List Dr) (k:Nat),ds.length=ds'.length->ZX k ds=ZX k ds'->zCo ds=zCo ds'->ds=ds'
 | [],[],_,_,_,_=>rfl
 | [],_::_,_,h,_,_=>by simp at h
 | _::_,[],_,h,_,_=>by simp at h
 | (l,n,g)::ds,(l',n',g')::ds',k,hl,hc,hb=>by
   simp only[ZX,List.cons.injEq,AV.sl.injEq,AV.int.injEq,AV.bool.injEq,true_and,and_true]at hc;simp only[zCo,s1Z,List.cons.injEq,ABlk.cells.injEq,true_and]at hb;obtain⟨_,rfl,rfl,hc⟩:=hc
   have hll:l=l':=by
     have:=congrArg (zBT .u8) hb.1;simpa[zKA] using this
   subst hll
   rw[zIF ds ds' (k+1) (by simpa using hl) hc hb.2]
theorem zGg(g:Nat->Nat):∀(H:zA) (em:List Nat) (H0 H1:zA),(∀B∈H0,B.own=false)->zf g H em H0 H1=H
 | H,[],_,_,_=>by simp[zf]
 | H,_::_,[],_,_=>by simp[zf]
 | H,_::_,_::_,[],_=>by simp[zf]
 | H,e::em,B0::H0,B1::H1,h=>by
   unfold zf
   rw[if_neg (by rw[h B0 (qhZ ..)];decide),zGg g H em H0 H1 fun B hB=>h B (qiZ _ hB)]
theorem zNe(g:Nat->Nat):∀es:List En,Zo g (zS es)=zS es
 | []=>rfl
 | e::es=>by
   have:=zNe g es;simp[zS,enA]at this ⊢;exact this
theorem zHh:∀(n k:Nat) (ys:List AV) (H:zA),zDh (qbZ n [CT.row [.int .u8],.one (.int .u32),.one .bool]).flatten k ys H ->
   ∃ds:List Dr,ds.length=n/\zPw ds/\(∀d∈ds,0<=d.2.1/\d.2.1<4294967296)/\H=zCo ds/\∀rn:List Nat,(∀i,i<n->rn[k+i]? = some (k+i))->AWs rn (ZX k ds) ys
 | 0,k,ys,H,h=>by
   obtain⟨rfl,rfl⟩:=zRl h
   exact⟨[],rfl,by simp[zPw],by simp,rfl,fun _ _=>by simp[ZX,AWs]⟩
 | n+1,k,ys,H,h=>by
   rw[rvZ,rcZ]at h;obtain⟨x1,w1,l,m,H3,rfl,rfl,hx,hmx,hl,k1⟩:=zLH h;obtain⟨x2,w2,rfl,⟨na,rfl,hna⟩,k2⟩:=zJ1 k1;obtain⟨x3,w3,rfl,⟨ga,rfl⟩,k3⟩:=zJ1 k2;obtain⟨la,rfl,hn,ha⟩:=zJ9 hl;subst hn;have ba:=bounds_u32 hna;obtain⟨ds,e1,e2,e3,e4,e5⟩:=zHh n (k+1) w3 H3 k3
   refine ⟨(la,na,ga)::ds,by simp[e1],?_,?_,by simp[zCo,e4],fun rn hr=>?_⟩
   · intro d hd
     rcases qwZ.1 hd with rfl | hd
     · exact⟨ha,by unfold maxLen at hmx;dsimp only;omega⟩
     · exact e2 d hd
   · intro d hd
     rcases qwZ.1 hd with rfl | hd
     · dsimp only;omega
     · exact e3 d hd
   · have h0:=hr 0 (by omega)
     have hrest:=e5 rn fun i hi=>by
       have:=hr (i+1) (by omega)
       rwa [show k+(i+1)=k+1+i by omega]at this
     simp only[ZX,AWs];refine ⟨?_,?_,?_,hrest⟩
     · rcases hx with⟨h1,rfl⟩ | rfl
       · simp[AW,h1]
       · simpa[AW] using h0
     · simp[AW]
     · simp[AW]
end
section
open Go Go.Lib
attribute [-simp] zJ zY zn zL zl
end
end Go.Proofs.YtpmfecnajoojeaaGreatDoor
