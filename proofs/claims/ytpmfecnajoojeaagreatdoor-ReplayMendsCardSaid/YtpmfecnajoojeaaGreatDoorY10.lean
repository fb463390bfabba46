/- Parts of the proof of ReplayMends: lemmas, each with its own conditions. -/
import Derived.Test.YtpmfecnajoojeaaGreatDoorY9
import Derived.Test.YtpmfecnajoojeaaGreatDoorY18
set_option maxHeartbeats 64000000
open List renaming getElem?_eq_some_iff → q1Z, getD_eq_getElem?_getD → q2Z, getElem?_eq_getElem → q3Z, getElem?_append_left → q4Z, getElem?_append_right → q5Z, take_of_length_le → q6Z, length_cons → q7Z, length_nil → q8Z, cons_append → q9Z, nil_append → qaZ, replicate → qbZ, mem_of_getElem? → qcZ, length_append → qdZ, mem_cons_self → qhZ, mem_cons_of_mem → qiZ, mem_cons → qwZ, getElem?_map → qzZ, getElem?_cons_succ → r9Z, getElem?_cons_zero → raZ, mem_map → reZ, getElem?_range → rfZ
open Option renaming getD_some → rgZ
namespace Go.Proofs.YtpmfecnajoojeaaGreatDoor
open _root_.Go.Proofs.Tryz renaming prog → Pz
set_option maxRecDepth 100000
section
open Go
attribute [-simp] zJ zY zn zL zl
mutual
theorem zRy(k:Nat):∀x:AV,free x=true->shA k x=x
 | .top,_ | .bool _,_ | .int _ _,_ | .str _,_ | .nilp,_ | .nils,_ | .nilm,_ | .nilf,_=>rfl
 | .ptr ..,h | .slice ..,h | .sl ..,h | .map _,h | .yld _,h=>by simp[free]at h
 | .func f xs ys,h=>by simp at h;simp[zA6 k xs h.1,zA6 k ys h.2]
 | .agg l,h=>by simp at h;simp[zA6 k l h]
 | .tuple l,h=>by simp at h;simp[zA6 k l h]
theorem zA6(k:Nat):∀xs:List AV,zZ xs=true->zAV k xs=xs
 | [],_=>rfl
 | x::xs,h=>by simp at h;simp[zRy k x h.1,zA6 k xs h.2]
end
@[simp] theorem zX2(k:Nat)(l:List En):zAV k (zS l)=zS l:=zA6 k _ (zp l)
end
section
open Go
attribute [-simp] zJ zY zn zL zl
theorem zW9(x y:En):(x.1==y.1&&(x.2.1==y.2.1&&(x.2.2==y.2.2&&true)))=decide (x=y):=by
 obtain⟨a,b,c⟩:=x;obtain⟨a',b',c'⟩:=y;rw[Bool.eq_iff_iff];simp
theorem zPg(a b:List En)(ha:a.length<=1000000000000) :
   Ct Pz 24 [.sl 0 0 a.length 3 false,.sl 1 0 b.length 3 false] [.cells false (zS a),.cells false (zS b)] (.bool (decide (a=b))) [.cells false (zS a),.cells false (zS b)]:=by
 refine zK Tryz.func24 rfl ?_;simp only[Tryz.ntmps24,q7Z,q8Z,Nat.reduceAdd,Nat.reduceSub,qbZ,q9Z,qaZ]
 refine Sim.step hmix zD (n:=0) (by simp;exact⟨rfl,rfl⟩) (by simp) ?_
 by_cases hl:a.length=b.length;rotate_left
 · have e:decide (a=b)=false:=by simp;rintro rfl;exact hl rfl
   rw[e]
   have hl3:((a.length:Int) != (b.length:Int))=true:=by simp;omega
   refine Sim.exec hmix zD (n:=0) (by simp[hl3];exact⟨rfl,rfl,rfl⟩) (by simp) ?_
   exact⟨.inr rfl,_,by simp;rfl,Weak.mk' [0,1] (by decide) (by decide) (by simp) (by simp)⟩
 refine Sim.step hmix zD (n:=0) (by simp[hl];exact⟨rfl,rfl⟩) (by simp) ?_
 refine Sim.seq (Sim.step hmix zD (n:=0) (by simp;exact⟨rfl,rfl⟩) (by simp) ?_)
 refine Sim.block (Sim.loopW (fun k:Nat=>k<=a.length/\a.take k=b.take k)
   (fun k=>[.sl 0 0 a.length 3 false,.sl 1 0 b.length 3 false,.top,.top,.bool false,.int .i64 k]++qbZ 20 .top)
   (fun _=>[.cells false (zS a),.cells false (zS b)]) (fun k=>a.length-k) 0 (by simp) (by simp) (Weak.mk' [0,1] (by decide) (by decide) (by simp[hl]) (by simp)) fun k hk=>?_)
 obtain⟨hk,hak⟩:=hk;by_cases hlt:k<a.length
 · have hltb:k<b.length:=by omega
   have hlti:(k:Int)<a.length:=by omega
   have hw:IntKind.i64.wrap ((k:Int)+1)=k+1:=zX (by omega) (by omega)
   have g1:=zHP a k hlt;have g2:=zHP b k hltb
   have k1:k*3+3<=a.length*3:=by omega
   have k2:k*3+3<=b.length*3:=by omega
   obtain⟨x,hx⟩:∃x,a[k]=x:=⟨_,rfl⟩;obtain⟨y,hy⟩:∃y,b[k]=y:=⟨_,rfl⟩;rw[hx]at g1;rw[hy]at g2;have hq:=zW9 x y;by_cases he:x=y
   · have ht:a.take (k+1)=b.take (k+1):=by
       rw[List.take_add_one,List.take_add_one,hak,q3Z hlt,q3Z hltb,hx,hy,he]
     subst he
     refine Sim.exec hmix zD (n:=0) (by simp +decide [hlti,hltb,g1,g2,hw,k1,k2,enA];exact⟨rfl,rfl,rfl⟩) (by simp) ?_
     exact⟨k+1,⟨by omega,ht⟩,Weak.mk' [0,1] (by decide) (by decide) (by simp) (by simp),by omega⟩
   · have e:decide (a=b)=false:=by
       simp;rintro rfl;apply he;rw[<-hx,<-hy]
     rw[e]
     have hf:decide (x=y)=false:=by simpa using he
     rw[hf]at hq
     refine Sim.exec hmix zD (n:=0) (by simp +decide [hlti,hltb,g1,g2,k1,k2,enA,-Bool.and_true,hq];exact⟨rfl,rfl,rfl⟩) (by simp) ?_
     exact⟨.inr rfl,_,by simp;rfl,Weak.mk' [0,1] (by decide) (by decide) (by simp) (by simp)⟩
 · have e:decide (a=b)=true:=by
     rw[q6Z (by omega),q6Z (by omega)]at hak
     simpa using hak
   have hlti:¬(k:Int)<a.length:=by omega
   rw[e]
   refine Sim.exec hmix zD (n:=0) (by simp[hlti];exact⟨rfl,rfl,rfl⟩) (by simp) ?_
   dsimp only;rw[if_pos rfl]
   refine Sim.exec hmix zD (n:=0) (by simp;exact⟨rfl,rfl,rfl⟩) (by simp) ?_
   exact⟨.inr rfl,_,by simp;rfl,Weak.mk' [0,1] (by decide) (by decide) (by simp) (by simp)⟩
def zIK:zc:=zAZ fun args H=>match args with
 | [x,y]=>match zE4 H x,zE4 H y with
   | some a,some b=>if a.length<=1000000000000 then some (.bool (decide (a=b))) else none
   | _,_=>none
 | _=>none
theorem zJZ:Sound Pz 24 zIK:=by
 refine Zx (zH Tryz.func24 rfl (by decide)) fun args H v h=>?_
 split at h <;> try cases h
 rename_i x y
 split at h <;> try cases h
 rename_i a b hx hy
 split at h <;> cases h
 rename_i hc;obtain⟨b1,o1,w1,g1⟩:=zFC hx;obtain⟨b2,o2,w2,g2⟩:=zFC hy;refine zE1 (zPg a b hc) rfl [(b1,o1),(b2,o2)] ?_ ?_
 · exact⟨w1 0 _ rfl,w2 1 _ rfl,trivial⟩
 · exact⟨g1,zp _,g2,zp _,trivial⟩
end
section
open Go
end
section
open Go
attribute [-simp] zJ zY zn zL zl
def drK(b:Nat)(ds:List Dr):zA:=.cells false (ZX (b+1) ds)::zCo ds
theorem Z9(b:Nat)(ds:List Dr):(drK b ds).length=ds.length+1:=by simp[drK,zCo]
theorem zSr(b:Nat)(ds:List Dr):∀x∈drK b ds,∃o l,x=ABlk.cells o l/\zV (b+ds.length+1) l=true:=by
 intro x hx;rcases qwZ.1 hx with rfl | hx
 · exact⟨_,_,rfl,zCJ ds (b+1) _ (by omega)⟩
 · obtain⟨d,_,rfl⟩:=reZ.1 hx
   exact⟨_,_,rfl,ZB _ _ (zDr _)⟩
def DrAt2(args:List AV)(H:zA)(ds:List Dr)(m b:Nat):Prop :=
 args=[.sl b 0 ds.length 3 false,.int .i64 m]/\(∃T0 T,T0.length=b/\H=T0++(drK b ds++T))/\m<=100/\zPw ds/\ds.length<=9223372036854775807
theorem DrAt2.uniq{args:List AV}{H:zA}{ds ds':List Dr}{m m' b b':Nat}(h:DrAt2 args H ds m b)(h':DrAt2 args H ds' m' b'):ds=ds'/\m=m':=by
 obtain⟨h1,⟨T0,T,h2,h3⟩,_⟩:=h;obtain⟨g1,⟨S0,S,g2,g3⟩,_⟩:=h';rw[h1]at g1;simp only[List.cons.injEq,AV.sl.injEq,AV.int.injEq,and_true,true_and]at g1;obtain⟨⟨rfl,hl⟩,hm⟩:=g1;rw[h3]at g3
 obtain⟨_,k1⟩:=List.append_inj g3 (by omega)
 obtain⟨k2,_⟩:=List.append_inj k1 (by rw[Z9,Z9,hl])
 simp only[drK,List.cons.injEq,ABlk.cells.injEq,true_and]at k2
 exact⟨zIF ds ds' _ hl k2.1 k2.2,by omega⟩
open Classical in
noncomputable def drS(g:List Dr->Nat->List En):zc:=fun args H =>
 if h:∃ds m b,DrAt2 args H ds m b then some (.sl H.length 0 (g h.choose h.choose_spec.choose).length 3 false,H++[.cells true (zS (g h.choose h.choose_spec.choose))],[]) else none
theorem zWx{g:List Dr->Nat->List En}{args:List AV}{H:zA}{ds:List Dr}{m b:Nat}(h:DrAt2 args H ds m b) :
   drS g args H=some (.sl H.length 0 (g ds m).length 3 false,H++[.cells true (zS (g ds m))],[]):=by
 have h0:∃ds m b,DrAt2 args H ds m b:=⟨ds,m,b,h⟩;obtain⟨e1,e2⟩:=h0.choose_spec.choose_spec.choose_spec.uniq h;unfold drS;rw[dif_pos h0,e2,e1]
theorem zJT(rn:List Nat):∀(ds:List Dr) (k c:Nat),(∀i,i<ds.length->rn[k+i]? = some (c+i))->AWs rn (ZX k ds) (ZX c ds)
 | [],_,_,_=>by simp[ZX,AWs]
 | d::ds,k,c,h=>by
   have h0:=h 0 (by simp)
   have hr:=zJT rn ds (k+1) (c+1) fun i hi=>by
     have:=h (i+1) (by simpa using hi)
     rwa [show k+(i+1)=k+1+i by omega,show c+(i+1)=c+1+i by omega]at this
   simp only[ZX,AWs]
   refine ⟨?_,by simp[AW],by simp[AW],hr⟩
   simpa[AW] using h0
theorem zVJ(ds:List Dr)(b:Nat)(T0 T:zA)(hb:T0.length=b):AWh ((List.range (ds.length+1)).map (b+·)) (T0++(drK b ds++T)) (drH ds) ((List.range (ds.length+1)).map (b+·)):=by
 have hN:=zFJ ds
 have hem:∀i,i<ds.length+1->((List.range (ds.length+1)).map (b+·))[i]? = some (b+i):=fun i hi=>by
   rw[qzZ,rfZ hi];rfl
 refine AWh.of _ _ (by simp[hN]) fun i x c hx hc=>?_
 have hi:i<ds.length+1:=by rw[<-hN];exact (q1Z.1 hx).1
 have hci:c=b+i:=by rw[hem i hi]at hc;cases hc;rfl
 subst hci
 refine ⟨?_,by rw[qdZ,qdZ,Z9];omega⟩
 rw[q2Z,q5Z (by omega),q4Z (by rw[Z9];omega),show b+i-T0.length=i by omega]
 cases i with
 | zero =>
   simp only[drH,raZ,Option.some.injEq]at hx;subst hx;simp only[drK,raZ,rgZ]
   exact⟨id,zJT _ ds 1 (b+1) fun i hi=>by rw[hem (1+i) (by omega)];congr 1;omega⟩
 | succ i =>
   simp only[drH,r9Z]at hx;simp only[drK,r9Z,hx,rgZ];obtain⟨d,_,rfl⟩:=reZ.1 (qcZ hx);exact⟨id,AWs.refl _ _ (zDr _)⟩
theorem zMv(n b:Nat):((List.range n).map (b+·)).Nodup:=by
 rw[List.nodup_iff_pairwise_ne,List.pairwise_map]
 exact (List.nodup_iff_pairwise_ne.1 List.nodup_range).imp fun h e=>h (by omega)
theorem zXo{P:Program}{f:FuncId}{g:List En}{ds:List Dr}{m b:Nat}{T0 T:zA}(hb:T0.length=b)
   (h:Ct P f [.sl 0 0 ds.length 3 false,.int .i64 m] (drH ds) (.sl (ds.length+1) 0 g.length 3 false) (drH ds++[.cells true (zS g)])) :
   Ct P f [.sl b 0 ds.length 3 false,.int .i64 m] (T0++(drK b ds++T)) (.sl (T0++(drK b ds++T)).length 0 g.length 3 false) ((T0++(drK b ds++T))++[.cells true (zS g)]):=by
 have h:=ZE (args:=[.sl b 0 ds.length 3 false,.int .i64 m]) (H:=T0++(drK b ds++T)) h ((List.range (ds.length+1)).map (b+·)) (zMv _ _) (by
   have:((List.range (ds.length+1)).map (b+·))[0]? = some b:=by rw[qzZ,rfZ (by omega)];rfl
   simp only[AWs,AW,and_true,true_and]
   exact⟨this,id⟩) (zVJ ds b T0 T hb) (by rw[List.drop_left];rfl)
 rw[zGg _ _ _ _ _ (by
   intro B hB;rcases qwZ.1 hB with h | h
   · cases h;rfl
   · obtain⟨d,_,h⟩:=reZ.1 h
     cases h;rfl),List.drop_left]at h
 simpa[reA,reB,Z5,zNe,zFJ] using h
theorem zRC{P:Program}{f:FuncId}(hent:∀cargs w,(callFunc f cargs).run P w=.ok (.enter f cargs) w)(g:List Dr->Nat->List En)
   (hc:∀(ds:List Dr) (m:Nat),m<=100->zPw ds->ds.length<=9223372036854775807->Ct P f [.sl 0 0 ds.length 3 false,.int .i64 m] (drH ds) (.sl (ds.length+1) 0 (g ds m).length 3 false) (drH ds++[.cells true (zS (g ds m))])):Sound P f (drS g):=by
 refine ⟨hent,fun args H v H' W hs=>?_,fun args H v H' W hs=>?_⟩ <;> (unfold drS at hs;split at hs <;> cases hs)
 · rename_i h0
   have h1:=h0.choose_spec.choose_spec.choose_spec;generalize h0.choose_spec.choose_spec.choose=b at h1;generalize h0.choose_spec.choose=m at h1 ⊢;generalize h0.choose=ds at h1 ⊢;obtain⟨rfl,⟨T0,T,hb,rfl⟩,hm,hd,hl⟩:=h1;exact zXo hb (hc ds m hm hd hl)
 · exact⟨by simp,fun b hb _=>by rw[q4Z hb]⟩
def zBS(ds:List Dr)(m:Nat):List En:=dEs (ds.take m)
theorem zI8:Sound Pz 63 (drS zBS):=zRC (zH Tryz.func63 rfl (by decide)) _ fun ds m hm hd hl=>zPf ds m hm hd hl
theorem zJH(ds:List Dr)(m:Nat):(dEs (ds.take m)).length<=m:=by simp[dEs];omega
end
section
open Go Go.Lib
theorem zQV{α β:Type}{R:α->β->Prop}:∀{xs:List α} {ys:List β},All2 R xs ys->∀(i:Nat) x,xs[i]? = some x->∃y,ys[i]? = some y/\R x y
 | [],[],_,i,x,h=>by simp at h
 | _::_,_::_,g,0,x,h=>by simp at h;subst h;exact⟨_,rfl,g.1⟩
 | _::_,_::_,g,i+1,x,h=>zQV g.2 i x (by simpa using h)
 | [],_::_,g,_,_,_=>g.elim
 | _::_,[],g,_,_,_=>g.elim
theorem zIC{α β:Type}{R:α->β->Prop}:∀{xs:List α} {ys:List β},All2 R xs ys->xs.length=ys.length
 | [],[],_=>rfl
 | _::_,_::_,g=>by simp[zIC g.2]
 | [],_::_,g=>g.elim
 | _::_,[],g=>g.elim
theorem Weak.args{F Fn:List AV}{H Hn:zA}(hb:∀rn:List Nat,(∀i,i<H.length->rn[i]? = some i)->AWs rn Fn F/\All2 (AWb rn) Hn H):Weak H.length F H Fn Hn:=by
 have hrn:∀i,i<H.length->(List.range H.length)[i]? = some i:=fun i hi=>rfZ hi
 obtain⟨h1,h2⟩:=hb _ hrn
 refine Weak.mk' (List.range H.length) List.nodup_range (by rw[q6Z (by simp)]) h1 (AWg.of _ _ (by rw[zIC h2];simp) fun i B b hB hb hlt=>?_)
 obtain⟨y,hy,hr⟩:=zQV h2 i B hB;have hi:i<H.length:=(q1Z.1 hy).1
 have hbi:b=i:=by rw[rfZ hi]at hb;cases hb;rfl
 subst hbi;rw[q2Z,hy];exact hr
theorem zIv(n:Nat)(el:List CT):(qbZ n (el.map CT.st)).flatten=((qbZ n el).flatten).map CT.st:=by
 rw[List.map_flatten,List.map_replicate]
theorem zDp{rn:List Nat}:∀{H:zA},(∀B∈H,AWb rn B B)->All2 (AWb rn) H H
 | [],_=>trivial
 | B::H,h=>⟨h B (qhZ ..),zDp fun C hC=>h C (qiZ _ hC)⟩
theorem All2.app{α β:Type}{R:α->β->Prop}:∀{xs:List α} {ys:List β} {us:List α} {vs:List β},All2 R xs ys->All2 R us vs->All2 R (xs++us) (ys++vs)
 | [],[],_,_,_,h=>h
 | _::_,_::_,_,_,g,h=>⟨g.1,All2.app g.2 h⟩
 | [],_::_,_,_,g,_=>g.elim
 | _::_,[],_,_,g,_=>g.elim
theorem zK4{k n sz:Nat}{x:AV}{rn:List Nat}(hx:n=0/\x=.nils\/x=.slice k 0 n sz false)(h:rn[k]? = some k):AW rn (.sl k 0 n sz false) x:=by
 rcases hx with⟨h1,rfl⟩ | rfl
 · simp[AW,h1]
 · simp[AW,h]
theorem zM5{n k:Nat}{ys:List AV}{H:zA}(h:AbsT (qbZ n [ST.row [.one (.int .u8)],.one (.int .u32),.one .bool]).flatten (k+1) ys H) :
   ∃ds:List Dr,ds.length=n/\zPw ds/\(∀d∈ds,0<=d.2.1/\d.2.1<4294967296)/\H.length=ds.length/\∀rn:List Nat,(∀i,i<k+1+H.length->rn[i]? = some i)->All2 (AWb rn) (drK k ds) (.cells false ys::H):=by
 have e:([ST.row [.one (.int .u8)],.one (.int .u32),.one .bool]:List ST)=([CT.row [.int .u8],.one (.int .u32),.one .bool]:List CT).map CT.st:=rfl;rw[e,zIv]at h;obtain⟨ds,e1,e2,e3,rfl,e5⟩:=zHh n (k+1) ys H (zLV h)
 refine ⟨ds,e1,e2,e3,by simp[zCo],fun rn hr=>?_⟩
 have hl:(zCo ds).length=ds.length:=by simp[zCo]
 rw[hl]at hr
 refine ⟨⟨id,e5 rn fun i hi=>hr _ (by omega)⟩,zDp fun B hB=>?_⟩
 obtain⟨d,_,rfl⟩:=reZ.1 hB;exact⟨id,AWs.refl _ _ (zDr _)⟩
theorem zR8{n k:Nat}{ys:List AV}{H:zA}(h:AbsT (qbZ n [ST.one (.int .u16)]).flatten k ys H):∃zs:List Int,ys=Z6 zs/\zs.length=n/\(∀z∈zs,0<=z/\z<=65535)/\H=[]:=by
 have e:([ST.one (.int .u16)]:List ST)=[Prim.int .u16].map .one:=rfl;rw[e,zDW]at h;obtain⟨h1,rfl⟩:=zEz h;obtain⟨zs,rfl,hl,hz⟩:=zNO h1;exact⟨zs,rfl,hl,hz,rfl⟩
end
end Go.Proofs.YtpmfecnajoojeaaGreatDoor
