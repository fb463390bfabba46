/- Parts of the proof of ReplayMends: lemmas, each with its own conditions. -/
import Derived.Test.YtpmfecnajoojeaaGreatDoorY24
import Derived.Test.YtpmfecnajoojeaaGreatDoorY25
set_option maxHeartbeats 64000000
open List renaming getElem?_eq_some_iff → q1Z, getElem?_eq_getElem → q3Z, take_of_length_le → q6Z, length_cons → q7Z, length_nil → q8Z, cons_append → q9Z, nil_append → qaZ, replicate → qbZ, length_append → qdZ, mem_append → qxZ, mem_singleton → r1Z, getElem_mem → r3Z, getElem?_take → r4Z, getElem?_drop → r5Z, mem_map → reZ, map_append → roZ, map_cons → s1Z, drop_append → sdZ
open Nat renaming zero_le → qqZ, min_eq_left → sfZ
open Int renaming tmod_eq_emod_of_nonneg → rrZ
namespace Go.Proofs.YtpmfecnajoojeaaGreatDoor
open _root_.Go.Proofs.Tryz renaming prog → Pz
set_option maxRecDepth 100000
section
open Go
attribute [-simp] zJ zY zn zL zl
abbrev Sg:=Int×Int×Int
end
section
open Go
end
section
open Go
attribute [-simp] zJ zY zn zL zl
structure Mf where
 v:Int
 f:Int
 n:Int
 segs:List Sg
 deriving DecidableEq
end
section
open Go
end
section
open Go
attribute [-simp] zJ zY zn zL zl
end
section
open Go
attribute [-simp] zJ zY zn zL zl
mutual
theorem zNc(g:Nat->Nat):∀x:AV,free x=true->reA g x=x
 | .top,_ | .bool _,_ | .int _ _,_ | .str _,_ | .nilp,_ | .nils,_ | .nilm,_ | .nilf,_=>rfl
 | .ptr ..,h | .slice ..,h | .sl ..,h | .map _,h | .yld _,h=>by simp[free]at h
 | .func f xs ys,h=>by simp at h;simp[ZS g xs h.1,ZS g ys h.2]
 | .agg l,h=>by simp at h;simp[ZS g l h]
 | .tuple l,h=>by simp at h;simp[ZS g l h]
theorem ZS(g:Nat->Nat):∀xs:List AV,zZ xs=true->Zo g xs=xs
 | [],_=>rfl
 | x::xs,h=>by simp at h;simp[zNc g x h.1,ZS g xs h.2]
end
end
section
open Go
attribute [-simp] zJ zY zn zL zl
def Mf.fit(m:Mf)(s:List Sg):Prop:=m.segs.length<=1000000/\s.length<=1000000/\-4611686018427387904<=m.v/\m.v<=4611686018427387904/\-4611686018427387904<=m.n/\m.n<=4611686018427387904
instance (m:Mf) (s:List Sg):Decidable (m.fit s):=by unfold Mf.fit;infer_instance
def zOy:List Sg->List Nat
 | []=>[]
 | s::l=>[s.1.toNat,s.2.1.toNat,s.2.2.toNat]++zOy l
@[simp] theorem zJo:∀l,(zOy l).length=l.length*3
 | []=>rfl
 | s::l=>by simp[zOy,zJo l];omega
end
section
open Go Go.Lib
attribute [-simp] zJ zY zn zL zl
theorem zJQ(l:List (List UInt8×List UInt8))(k:Nat)(h:k<l.length):(∀h',(flA l)[k*2]'h'=.str l[k].1)/\(flA l)[k*2]? = some (.str l[k].1):=by
 have e:(flA l)[k*2]? = some (.str l[k].1):=by
   have:=zC0 l k h
   have h2:(((flA l).drop (k*2)).take 2)[0]? = some (.str l[k].1):=by rw[this];rfl
   rw[r4Z,if_pos (by decide),r5Z,Nat.add_zero]at h2
   exact h2
 exact⟨fun h'=>(q1Z.1 e).2,e⟩
noncomputable def zXp:Gam:=zv [(63,drS zBS),(98,zIH),(101,mkS)]
theorem zV7:GOk Pz zXp:=zC zI8 (zC zJc (zC zMb zD))
theorem zRc(f:Nat)(hf:f<256)(ls:List Lg)(hls:∀a∈ls,zW5 a)(hlb:∀a∈ls,a.2.2.length<=9223372036854775807)(hll:ls.length<=9223372036854775807)(on ob:List UInt8)(hon:on.length<=9223372036854775807)(hob:ob.length<=9223372036854775807)
   (A:zA) (N:Nat) (hAl:A.length=N) (hN0:0<N) (hAid:∀rn:List Nat,(∀i,i<N->rn[i]? = some i)->∀B∈A,AWb rn B B) (hAb:∀k,A.all (zAQ (N+k))=true)
   (hA0:∀T:zA,(A++T)[0]? = some (.cells false (ZH 1 ls)))
   (hact:∀(i:Nat) (hi:i<ls.length),∃k1,((ZH 1 ls).drop (i*3)).take 3=[.int .u8 ls[i].1,.sl k1 0 ls[i].2.1.length 3 false,.str ls[i].2.2]/\k1<N /\
     ∀T,drS zBS [.sl k1 0 ls[i].2.1.length 3 false,.int .i64 12] (A++T)=some (.sl (A++T).length 0 (zBS ls[i].2.1 12).length 3 false,A++T++[.cells true (zS (zBS ls[i].2.1 12))],[])) :
   Ct Pz 34 [.agg [.int .u8 f,.sl 0 0 ls.length 3 false,.str on,.str ob]] A (.sl N 0 (zIL (1+f % 3) ls on ob).length 2 false) (A++[.cells true (flA (zIL (1+f % 3) ls on ob))]):=by
 have hΓ:=zV7;refine zK Tryz.func34 rfl ?_;rw[hAl];simp only[Tryz.ntmps34,q7Z,q8Z,Nat.reduceAdd,Nat.reduceSub,qbZ,q9Z,qaZ]
 have hXd:∀(T:zA) (k:Nat),(A++T).drop (N+k)=T.drop k:=fun T k=>by
   rw[sdZ,List.drop_of_length_le (by omega),qaZ];congr 1;omega
 have hBX:=zB0 A hAl;have hXg:=hBX.get;have hXg0:=hBX.get0;have hXs:=hBX.set;have hXs0:=hBX.set0
 have u0:∀k,0<N+k:=fun k=>by omega
 have o0:∀ts:List Nat,(List.range N++ts)[0]? = some 0:=fun ts=>zBh _ _ hN0
 have o0g:∀(ts:List Nat) h,(List.range N++ts)[0]'h=0:=fun ts h=>by
   have:=o0 ts;rw[q3Z h]at this;exact Option.some.inj this
 have hA0g:∀(T:zA) h,(A++T)[0]'h=.cells false (ZH 1 ls):=fun T h=>by
   have:=hA0 T;rw[q3Z h]at this;exact Option.some.inj this
 have gl:=zEf 1 ls;obtain⟨n,hn⟩:∃n,ls.length=n:=⟨_,rfl⟩;obtain⟨q,hq⟩:∃q,f % 3=q:=⟨_,rfl⟩
 have tq:(f:Int).tmod 3=q:=by rw[rrZ (by omega)];omega
 have w1:IntKind.u8.wrap (q:Int)=q:=zDb (by omega) (by omega)
 have w2:IntKind.i64.wrap (q:Int)=q:=zX (by omega) (by omega)
 have w3:IntKind.i64.wrap (1+(q:Int))=1+q:=zX (by omega) (by omega)
 have hn0:1+q=((1+q:Nat)):=rfl;rw[hq];rw[hn]at gl hll ⊢;unfold zIL;dsimp only;rw[hn]
 have hlaw:=fun k (hk:k<=1000)=>zGF (1+q) (by omega) ls k hk (by omega)
 refine Sim.step hmix hΓ (n:=0) (by simp;exact⟨rfl,rfl⟩) (by simp[hAl]) ?_
 refine Sim.step hmix hΓ (n:=0) (by simp;exact⟨rfl,rfl⟩) (by simp[hAl]) ?_
 refine Sim.step hmix hΓ (n:=0) (by simp +decide [hAl,tq,w2,w3];exact⟨rfl,rfl⟩) (by simp[hAl]) ?_
 refine Sim.seq (Sim.step hmix hΓ (n:=0) (by simp +decide;exact⟨rfl,rfl⟩) (by simp[hAl]) ?_)
 refine Sim.block (Sim.mono (Q:=fun e' F' H'=>e'=.exit 0/\Weak N F' H' ([.top,.ptr N 0,.top,.sl (N+1) 0 (Za (1+q) ls (min n 8)).1.length 2 false]++qbZ 103 .top)
   (A++[.cells true [.int .u8 f,.sl 0 0 n 3 false,.str on,.str ob],.cells true (flA (Za (1+q) ls (min n 8)).1)])) (Sim.loopW (fun k:Nat=>k<=n/\k<=8)
   (fun k=>[.top,.ptr N 0,.top,.sl (N+1) 0 (Za (1+q) ls k).1.length 2 false,.int .i64 (Za (1+q) ls k).2,.int .i64 k]++qbZ 101 .top)
   (fun k=>A++[.cells true [.int .u8 f,.sl 0 0 n 3 false,.str on,.str ob],.cells true (flA (Za (1+q) ls k).1)])
   (fun k=>n-k) 0 (by simp[hAl]) ⟨qqZ _,by decide⟩ (Weak.tailG hAl hAid [0,100] (by decide) (by simp[AWs,AW,Za]) (by simp[AWg,AWb,AW,Za,hAl,o0g])) fun k hk=>?_) ?_)
 · obtain⟨hk1,hk2⟩:=hk
   obtain⟨l1,l2,l3,l4,l5⟩:=hlaw k (by omega)
   have hnext:∀l,ls[k]? = some l->Za (1+q) ls (k+1)=((Za (1+q) ls k).1++[(wn (zIV (Za (1+q) ls k).2 l),zPr l)],zIV (Za (1+q) ls k).2 l+1):=fun l hl=>by
     conv=>lhs;unfold Za
     rw[hl]
   obtain⟨⟨out,nx⟩,hout⟩:∃r,Za (1+q) ls k=r:=⟨_,rfl⟩;rw[hout]at l1 l2 l3 l4 l5 hnext ⊢;dsimp only at l1 l2 l3 l4 l5 hnext ⊢;dsimp only[qbZ,q9Z,qaZ];obtain⟨M,hM⟩:∃M,out.length=M:=⟨_,rfl⟩;rw[hM]at l3 ⊢;have hfo:=zAP out
   have hfl:(flA out).length=M*2:=by rw[zBn,hM]
   have hAo:∀rn:List Nat,AWs rn (flA out) (flA out):=fun rn=>AWs.refl _ _ hfo
   by_cases hlt:k<n/\k<8
   · obtain⟨c1,c2⟩:=hlt
     have c1i:(k:Int)<n:=by omega
     have c2i:(k:Int)<8:=by omega
     have hkl:k<ls.length:=by omega
     obtain⟨k1,a1,a2,a3⟩:=hact k hkl;have hok:=hls _ (r3Z hkl);have hbl:=hlb _ (r3Z hkl);have hnx:=hnext _ (q3Z hkl);obtain⟨⟨sk,ds,bh⟩,hl⟩:∃l,ls[k]=l:=⟨_,rfl⟩;rw[hl]at a1 a3 hok hbl hnx;dsimp only at a1 a3 hbl;obtain⟨ok1,_,ok5,_⟩:=hok;dsimp only at ok1 ok5
     have hcell:∀j,j<3->(ZH 1 ls)[k*3+j]? = [AV.int .u8 sk,.sl k1 0 ds.length 3 false,.str bh][j]?:=fun j hj=>by
       rw[<-a1,r4Z,if_pos hj,r5Z]
     have g0:(ZH 1 ls)[k*3]? = some (.int .u8 sk):=hcell 0 (by decide)
     have g1:(ZH 1 ls)[k*3+1]? = some (.sl k1 0 ds.length 3 false):=hcell 1 (by decide)
     have g2:(ZH 1 ls)[k*3+2]? = some (.str bh):=hcell 2 (by decide)
     have b0:k*3<n*3:=by omega
     have b1:k*3+1<n*3:=by omega
     have b2:k*3+2<n*3:=by omega
     have b3:k*3+3<=n*3:=by omega
     have g0':∀h,(ZH 1 ls)[k*3]'h=.int .u8 sk:=fun h=>by rw[q3Z h]at g0;exact Option.some.inj g0
     have g1':∀h,(ZH 1 ls)[k*3+1]'h=.sl k1 0 ds.length 3 false:=fun h=>by rw[q3Z h]at g1;exact Option.some.inj g1
     have g2':∀h,(ZH 1 ls)[k*3+2]'h=.str bh:=fun h=>by rw[q3Z h]at g2;exact Option.some.inj g2
     obtain⟨m,hm⟩:∃m,zIV nx (sk,ds,bh)=m:=⟨_,rfl⟩;rw[hm]at hnx;have hml:=zQB nx (sk,ds,bh);rw[hm]at hml
     refine Sim.step hmix hΓ (n:=0) (by simp +decide [hAl,c1i,c2i];exact⟨rfl,rfl⟩) (by simp[hAl]) ?_
     refine Sim.seq (Sim.block ?_)
     refine Sim.seq (Sim.mono (Q:=fun e' F' H'=>e'=.normal/\Weak N F' H' ([.top,.ptr N 0,.top,.sl (N+1) 0 M 2 false,.int .i64 m,.int .i64 k]++qbZ 101 .top)
       (A++[.cells true [.int .u8 f,.sl 0 0 n 3 false,.str on,.str ob],.cells true (flA out)])) ?_ ?_)
     · by_cases hs:240<sk
       · have hsi:(240:Int)<sk:=by omega
         have hmm:m=nx+1:=by rw[<-hm];unfold zIV;rw[if_pos hs]
         have y1:IntKind.i64.wrap ((nx:Int)+1)=(m:Int):=by rw[zX (by omega) (by omega)];omega
         refine Sim.exec hmix hΓ (n:=0) (by simp +decide [hAl,hA0g,c1,gl,b0,g0',hsi,y1];exact⟨rfl,rfl,rfl⟩) (by simp[hAl]) ?_
         exact⟨rfl,Weak.tailG hAl hAid [0,1] (by decide) (by simp[AWs,AW]) (by simp[AWg,AWb,AW,hAl,o0g])⟩
       · have hsi:¬(240:Int)<sk:=by omega
         have hmm:m=nx:=by rw[<-hm];unfold zIV;rw[if_neg hs]
         subst hmm
         refine Sim.exec hmix hΓ (n:=0) (by simp +decide [hAl,hA0g,c1,gl,b0,g0',hsi];exact⟨rfl,rfl,rfl⟩) (by simp[hAl]) ?_
         exact⟨rfl,Weak.tailG hAl hAid [0,1] (by decide) (by simp[AWs,AW]) (by simp[AWg,AWb,AW,hAl,o0g])⟩
     rintro _ F6 H6 hl6 ⟨rfl,hw6⟩;refine Sim.weak hw6 hl6 ?_;clear hw6 hl6 F6 H6;dsimp only[qbZ,q9Z,qaZ];obtain⟨es,hes⟩:∃es,zBS ds 12=es:=⟨_,rfl⟩;rw[hes]at a3
     have hokN:zW7 es:=by rw[<-hes];exact zUz ok5 12
     have hE12:es.length<=12:=by rw[<-hes];exact zJH ds 12
     obtain⟨E,hE⟩:∃E,es.length=E:=⟨_,rfl⟩;rw[hE]at a3 hE12
     have ele:(zS es).length=E*3:=by rw[zBO,hE]
     have en1:zDg ((zS es).take (E*3))=some es:=by rw[<-ele,List.take_length];exact zBq es
     have e1000:E<=1000:=by omega
     obtain⟨J,hJ⟩:∃J:Nat,min (bh.length:Int) 20=J:=⟨min bh.length 20,by omega⟩
     have hJl:J<=bh.length:=by omega
     have hJli:(J:Int)<=bh.length:=by omega
     have hJ0:(0:Int)<=J:=by omega
     have htk:bh.take J=bh.take 20:=by
       have:J=min 20 bh.length:=by omega
       rw[this];by_cases h:bh.length<=20
       · rw[Nat.min_eq_right h,List.take_length,q6Z h]
       · rw[sfZ (by omega)]
     have hbt:(Rp.bytes es++bh.take J)=zPr (sk,ds,bh):=by rw[htk];unfold zPr;rw[<-hes]
     obtain⟨tx,htx⟩:∃tx,zPr (sk,ds,bh)=tx:=⟨_,rfl⟩;rw[htx]at hbt hnx;have hwn:mk 3 (m:Int)=wn m:=rfl;obtain⟨nm,hnm⟩:∃nm,wn m=nm:=⟨_,rfl⟩;rw[hnm]at hwn hnx
     have y3:IntKind.i64.wrap ((m:Int)+1)=(m:Int)+1:=zX (by omega) (by omega)
     have y4:IntKind.i64.wrap ((k:Int)+1)=(k:Int)+1:=zX (by omega) (by omega)
     have bl0:∀j,zV j (flA out)=true:=fun j=>ZB j _ hfo
     have bl1:∀j,zV j (zS es)=true:=fun j=>ZB j _ (zp es)
     have p3:(Rp.bytes es).length+J<=9223372036854775807:=by have:=Rp.bytes_le es;omega
     have hne:(N+1 != N)=true:=bne_iff_ne.2 (by omega)
     have uk:∀j,k1<N+j:=fun j=>by omega
     have tkM:(flA out).take (M*2)=flA out:=q6Z (by omega)
     have p1:(M+1)*32<=140737488355328:=by omega
     have p2:M+1<=9223372036854775807:=by omega
     have hfa:flA (out++[(nm,tx)])=flA out++[.str nm,.str tx]:=by rw[zDC];rfl
     have hAn:∀rn:List Nat,AWs rn (flA out++[.str nm,.str tx]) (flA out++[.str nm,.str tx]):=fun rn=>AWs.refl _ _ (by rw[<-hfa];exact zAP _)
     refine Sim.seq (Sim.draw hmix (by simp[hAl]) ?_)
     refine SimR.many hΓ 29 (by simp[zI];rfl) (by omega) (by kernel_rfl) (by simp +decide [-zCG,zBJ,zXp,mkS,hwn,a3,zIH,zAZ,zE4,hokN,ele,en1,e1000,hE,hJ,hJl,hJli,hJ0,p3,hbt,hAl,hA0g,c1,gl,b1,b2,g1',g2',scA,free,hne,hAb,hXd,u0,uk];first | exact⟨rfl,rfl⟩ | exact⟨by kernel_rfl,rfl,rfl⟩) ?_
     refine SimR.one hΓ _ rfl (by kernel_rfl) (by simp +decide [hAl,hXs,tkM,hfl,p1,p2];exact⟨rfl,rfl⟩) ?_
     refine SimR.one hΓ _ rfl (by kernel_rfl) (by simp +decide;exact⟨rfl,rfl⟩) ?_
     refine SimR.done rfl ?_;dsimp only
     refine Sim.exec hmix hΓ (n:=0) (by simp +decide [y3];exact⟨rfl,rfl,rfl⟩) (by simp[hAl]) ?_
     dsimp only
     refine Sim.exec hmix hΓ (n:=0) (by simp +decide [y4];exact⟨rfl,rfl,rfl⟩) (by simp[hAl]) ?_
     exact⟨k+1,⟨by omega,by omega⟩,Weak.tailG hAl hAid [0,4] (by decide) (by simp[AWs,AW,hnx,hM]) (by simp[AWg,AWb,AW,hAl,o0g,hnx,hfa]),by omega⟩
   · have hke:k=min n 8:=by omega
     subst hke;rw[hout];dsimp only;rw[hM];by_cases hc1:min n 8<n
     · have hc2:¬((min n 8:Nat):Int)<8:=by omega
       have hc1i:((min n 8:Nat):Int)<n:=by omega
       obtain⟨z,hz⟩:∃z,min n 8=z:=⟨_,rfl⟩;rw[hz]at hc1 hc2 hc1i ⊢
       refine Sim.exec hmix hΓ (n:=0) (by simp +decide [hAl,hc1i,hc2];exact⟨rfl,rfl,rfl⟩) (by simp[hAl]) ?_
       exact⟨rfl,Weak.tailG hAl hAid [0,1] (by decide) (by simp[AWs,AW]) (by simp[AWg,AWb,AW,hAl,o0g])⟩
     · have hc1i:¬((min n 8:Nat):Int)<n:=by omega
       obtain⟨z,hz⟩:∃z,min n 8=z:=⟨_,rfl⟩;rw[hz]at hc1 hc1i ⊢
       refine Sim.exec hmix hΓ (n:=0) (by simp +decide [hAl,hc1i];exact⟨rfl,rfl,rfl⟩) (by simp[hAl]) ?_
       exact⟨rfl,Weak.tailG hAl hAid [0,1] (by decide) (by simp[AWs,AW]) (by simp[AWg,AWb,AW,hAl,o0g])⟩
 rintro e F6 H6 hl6 ⟨rfl,hw6⟩;dsimp only;rw[if_pos rfl];refine Sim.weak hw6 hl6 ?_;clear hw6 hl6 F6 H6;dsimp only[qbZ,q9Z,qaZ]
 obtain⟨l1,l2,l3,l4,l5⟩:=hlaw (min n 8) (by omega)
 obtain⟨⟨out,nx⟩,hout⟩:∃r,Za (1+q) ls (min n 8)=r:=⟨_,rfl⟩;rw[hout]at l1 l2 l3 l4 l5 ⊢;dsimp only at l1 l2 l3 l4 l5 ⊢
 have l8:out.length<=8:=by omega
 clear l1 l2 l3 l4 l5 hout hlaw;obtain⟨M,hM⟩:∃M,out.length=M:=⟨_,rfl⟩;rw[hM]at l8 ⊢;have hfo:=zAP out
 have hfl:(flA out).length=M*2:=by rw[zBn,hM]
 have hAo:∀rn:List Nat,AWs rn (flA out) (flA out):=fun rn=>AWs.refl _ _ hfo
 obtain⟨J,hJ⟩:∃J:Nat,min (on.length:Int) 64=J:=⟨min on.length 64,by omega⟩
 obtain⟨K,hK⟩:∃K:Nat,min (ob.length:Int) 60=K:=⟨min ob.length 60,by omega⟩
 have tkg:∀(s:List UInt8) (a J:Nat),min (s.length:Int) a=J->s.take J=s.take a:=fun s a J h=>by
   have:J=min a s.length:=by omega
   rw[this];by_cases h:s.length<=a
   · rw[Nat.min_eq_right h,List.take_length,q6Z h]
   · rw[sfZ (by omega)]
 have t1:=tkg on 64 J hJ;have t2:=tkg ob 60 K hK
 have j1:J<=on.length:=by omega
 have j2:(J:Int)<=on.length:=by omega
 have j3:(0:Int)<=J:=by omega
 have k1:K<=ob.length:=by omega
 have k2:(K:Int)<=ob.length:=by omega
 have k3:(0:Int)<=K:=by omega
 obtain⟨nm,hnm⟩:∃nm,on.take 64=nm:=⟨_,rfl⟩;obtain⟨tx,htx⟩:∃tx,ob.take 60=tx:=⟨_,rfl⟩;rw[hnm]at t1 ⊢;rw[htx]at t2 ⊢
 have bl0:∀j,zV j (flA out)=true:=fun j=>ZB j _ hfo
 refine Sim.seq (Sim.draw hmix (by simp[hAl]) ?_)
 refine SimR.many hΓ 20 (by simp[zI];rfl) (by omega) (by kernel_rfl) (by simp +decide [-zCG,zBJ,hJ,hK,j2,j3,k2,k3,t1,t2,hAl];first | exact⟨rfl,rfl⟩ | exact⟨by kernel_rfl,rfl,rfl⟩) ?_
 refine SimR.one hΓ _ rfl (by kernel_rfl) (by simp +decide [hAl,hXs];exact⟨rfl,rfl⟩) ?_
 refine SimR.done rfl ?_;dsimp only
 refine Sim.seq (Sim.step hmix hΓ (n:=0) (by simp +decide;exact⟨rfl,rfl⟩) (by simp[hAl]) ?_)
 have fin:∀(F:List (List UInt8×List UInt8)) (T:zA) (p:Nat) (hp:T[p]? = some (.cells true (flA F))),Weak N [.sl (N+p) 0 F.length 2 false] (A++T) [.sl N 0 F.length 2 false] (A++[.cells true (flA F)]):=fun F T p hp=>by
   have hAF:∀rn:List Nat,AWs rn (flA F) (flA F):=fun rn=>AWs.refl _ _ (zAP F)
   have e:(A++T)[N+p]? = some (.cells true (flA F)):=by rw[hXg];exact hp
   exact Weak.tailG hAl hAid [p] (by simp) (by simp[AWs,AW]) (by simp[AWg,AWb,hAl,e])
 refine Sim.block (Sim.mono (Q:=fun e' F' H'=>match e' with
     | .exit 2=>nm∉out.map Prod.fst/\Weak N F' H' ([.top,.ptr N 0,.top,.sl (N+1) 0 M 2 false,.top,.top,.ptr (N+2) 0]++qbZ 100 .top) (A++[.cells true [.int .u8 f,.sl 0 0 n 3 false,.str on,.str ob],.cells true (flA out),.cells true [.str nm,.str tx]])
     | .ret=>nm∈out.map Prod.fst/\∃v1,zDA Pz Tryz.f34.results.toList F' H'=some v1/\Weak N [v1] H' [.sl N 0 out.length 2 false] (A++[.cells true (flA out)])
     | _=>False) (Sim.loopW (fun i:Nat=>i<=M/\nm∉(out.take i).map Prod.fst)
   (fun i=>[.top,.ptr N 0,.top,.sl (N+1) 0 M 2 false,.top,.top,.ptr (N+2) 0,.int .i64 i]++qbZ 99 .top)
   (fun _=>A++[.cells true [.int .u8 f,.sl 0 0 n 3 false,.str on,.str ob],.cells true (flA out),.cells true [.str nm,.str tx]]) (fun i=>M-i) 0 (by simp[hAl]) ⟨qqZ _,by simp⟩
   (Weak.tailG hAl hAid [0,1,2] (by decide) (by simp[AWs,AW]) (by simp[AWg,AWb,AW,hAl,o0g])) fun i hi=>?_) ?_)
 · obtain⟨hi1,hi2⟩:=hi
   dsimp only[qbZ,q9Z,qaZ];by_cases hiM:i<M
   · have hio:i<out.length:=by omega
     have hiI:(i:Int)<M:=by omega
     obtain⟨f1,f2⟩:=zJQ out i hio;obtain⟨w,hw⟩:∃w,out[i].1=w:=⟨_,rfl⟩;rw[hw]at f1 f2
     have i1:i*2<M*2:=by omega
     have i2:i*2+2<=M*2:=by omega
     have y7:IntKind.i64.wrap ((i:Int)+1)=i+1:=zX (by omega) (by omega)
     refine Sim.step hmix hΓ (n:=0) (by simp[hiI];exact⟨rfl,rfl⟩) (by simp[hAl]) ?_
     by_cases hwn:w=nm
     · subst hwn
       refine Sim.seq (Sim.block (Sim.seq (Sim.draw hmix (by simp[hAl]) ?_)))
       refine SimR.many hΓ 8 (by simp[zI];rfl) (by omega) (by kernel_rfl) (by simp +decide [hAl,hfl,f1,hiM,i1];first | exact⟨rfl,rfl⟩ | exact⟨by kernel_rfl,rfl,rfl⟩) ?_
       refine SimR.done rfl ?_;dsimp only
       refine Sim.exec hmix hΓ (n:=0) (by simp +decide;exact⟨rfl,rfl,rfl⟩) (by simp[hAl]) ?_
       refine ⟨reZ.2 ⟨out[i],r3Z hio,hw⟩,_,by simp[Tryz.f34] <;> rfl,?_⟩
       have:=fin out [.cells true [.int .u8 f,.sl 0 0 n 3 false,.str on,.str ob],.cells true (flA out),.cells true [.str w,.str tx]] 1 rfl
       rwa [hM]at this ⊢
     · have hwb:(w==nm)=false:=by simpa using hwn
       refine Sim.seq (Sim.block (Sim.seq (Sim.draw hmix (by simp[hAl]) ?_)))
       refine SimR.many hΓ 8 (by simp[zI];rfl) (by omega) (by kernel_rfl) (by simp +decide [hAl,hfl,f1,hiM,i1,hwb];first | exact⟨rfl,rfl⟩ | exact⟨by kernel_rfl,rfl,rfl⟩) ?_
       refine SimR.done rfl ?_;dsimp only
       refine Sim.exec hmix hΓ (n:=0) (by simp +decide;exact⟨rfl,rfl,rfl⟩) (by simp[hAl]) ?_
       dsimp only
       refine Sim.exec hmix hΓ (n:=0) (by simp[y7];exact⟨rfl,rfl,rfl⟩) (by simp[hAl]) ?_
       refine ⟨i+1,⟨by omega,?_⟩,Weak.tailG hAl hAid [0,1,2] (by decide) (by simp[AWs,AW]) (by simp[AWg,AWb,AW,hAl,o0g]),by omega⟩
       rw[List.take_succ_eq_append_getElem hio,roZ,qxZ];rintro (h | h)
       · exact hi2 h
       · simp only[s1Z,List.map_nil,r1Z]at h
         exact hwn (hw.symm.trans h.symm)
   · have hie:i=M:=by omega
     subst hie
     refine Sim.exec hmix hΓ (n:=0) (by simp;exact⟨rfl,rfl,rfl⟩) (by simp[hAl]) ?_
     rw[q6Z (by omega)]at hi2
     exact⟨hi2,Weak.tailG hAl hAid [0,1,2] (by decide) (by simp[AWs,AW]) (by simp[AWg,AWb,AW,hAl,o0g])⟩
 · intro e F6 H6 hl6 hq6
   cases e with
   | normal=>exact hq6.elim
   | ret =>
     obtain⟨hmem,v1,hv,hw⟩:=hq6;dsimp only;rw[if_pos (.inr hmem)];rw[hM]at hw
     exact⟨.inr rfl,v1,hv,by rw[hM];exact hw⟩
   | exit id =>
     match id,hq6 with
     | 0,hq6=>exact hq6.elim
     | 1,hq6=>exact hq6.elim
     | k+3,hq6=>exact hq6.elim
     | 2,hq6 =>
       obtain⟨hnot,hw6⟩:=hq6;dsimp only;rw[if_pos rfl];refine Sim.weak hw6 hl6 ?_;dsimp only[qbZ,q9Z,qaZ];by_cases hnil:nm=[]
       · rw[if_pos (.inl hnil)]
         subst hnil
         refine Sim.step hmix hΓ (n:=0) (by simp +decide [hAl];exact⟨rfl,rfl⟩) (by simp[hAl]) ?_
         refine Sim.exec hmix hΓ (n:=0) (by simp +decide;exact⟨rfl,rfl,rfl⟩) (by simp[hAl]) ?_
         have:=fin out [.cells true [.int .u8 f,.sl 0 0 n 3 false,.str on,.str ob],.cells true (flA out),.cells true [.str [],.str tx]] 1 rfl;rw[hM]at this
         exact⟨.inr rfl,_,by simp[Tryz.f34] <;> rfl,by rw[hM];exact this⟩
       · have hnb:(nm==[])=false:=by simpa using hnil
         rw[if_neg (fun h=>h.elim hnil hnot)]
         have tkM:(flA out).take (M*2)=flA out:=q6Z (by omega)
         have p1:(M+1)*32<=140737488355328:=by omega
         have p2:M+1<=9223372036854775807:=by omega
         have hfa:flA (out++[(nm,tx)])=flA out++[.str nm,.str tx]:=by rw[zDC];rfl
         refine Sim.step hmix hΓ (n:=0) (by simp +decide [hAl,hXs,hnb,tkM,hfl,p1,p2];exact⟨rfl,rfl⟩) (by simp[hAl]) ?_
         refine Sim.exec hmix hΓ (n:=0) (by simp +decide;exact⟨rfl,rfl,rfl⟩) (by simp[hAl]) ?_
         have:=fin (out++[(nm,tx)]) [.cells true [.int .u8 f,.sl 0 0 n 3 false,.str on,.str ob],.dead,.cells true [.str nm,.str tx],.cells true [.str nm,.str tx],.cells true (flA out++[.str nm,.str tx])] 4 (by rw[hfa];rfl)
         rw[qdZ,hM]at this
         exact⟨.inr rfl,_,by simp[Tryz.f34] <;> rfl,by rw[qdZ,hM];exact this⟩
end
end Go.Proofs.YtpmfecnajoojeaaGreatDoor
