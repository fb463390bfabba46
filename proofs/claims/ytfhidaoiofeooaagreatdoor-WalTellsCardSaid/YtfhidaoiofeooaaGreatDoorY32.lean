/- Parts of the proof of WalTells: lemmas, each with its own conditions. -/
import Derived.Test.YtfhidaoiofeooaaGreatDoorY30
import Derived.Test.YtfhidaoiofeooaaGreatDoorY31
set_option maxHeartbeats 64000000
open List renaming getElem?_eq_some_iff → q1Z, getD_eq_getElem?_getD → q2Z, getElem?_append_left → q4Z, getElem?_append_right → q5Z, mem_of_getElem? → qcZ, length_append → qdZ, mem_cons → qwZ, getElem?_map → qzZ, getElem?_cons_succ → r9Z, getElem?_cons_zero → raZ, mem_map → reZ, getElem?_range → rfZ
open Option renaming getD_some → rgZ
namespace Go.Proofs.YtfhidaoiofeooaaGreatDoor
open _root_.Go.Proofs.Tryz renaming prog → Pz
set_option maxRecDepth 100000
section
open Go
attribute [-simp] zH zc zq zK zy
mutual
theorem zTq(k:Nat):∀x:AV,free x=true->shA k x=x
 | .top,_ | .bool _,_ | .int _ _,_ | .str _,_ | .nilp,_ | .nils,_ | .nilm,_ | .nilf,_=>rfl
 | .ptr ..,h | .slice ..,h | .sl ..,h | .map _,h | .yld _,h=>by simp[free]at h
 | .func f xs ys,h=>by simp at h;simp[zBL k xs h.1,zBL k ys h.2]
 | .agg l,h=>by simp at h;simp[zBL k l h]
 | .tuple l,h=>by simp at h;simp[zBL k l h]
theorem zBL(k:Nat):∀xs:List AV,zV xs=true->zA9 k xs=xs
 | [],_=>rfl
 | x::xs,h=>by simp at h;simp[zTq k x h.1,zBL k xs h.2]
end
@[simp] theorem zZ7(k:Nat)(l:List En):zA9 k (zb l)=zb l:=zBL k _ (ZD l)
end
section
open Go
attribute [-simp] zH zc zq zK zy
end
section
open Go
end
section
open Go
attribute [-simp] zH zc zq zK zy
def drK(b:Nat)(ds:List Dr):zA:=.cells false (Zc (b+1) ds)::zCm ds
theorem ZQ(b:Nat)(ds:List Dr):(drK b ds).length=ds.length+1:=by simp[drK,zCm]
theorem zVx(b:Nat)(ds:List Dr):∀x∈drK b ds,∃o l,x=ABlk.cells o l/\zi (b+ds.length+1) l=true:=by
 intro x hx;rcases qwZ.1 hx with rfl | hx
 · exact⟨_,_,rfl,zCd ds (b+1) _ (by omega)⟩
 · obtain⟨d,_,rfl⟩:=reZ.1 hx
   exact⟨_,_,rfl,Zj _ _ (zEB _)⟩
def DrAt2(args:List AV)(H:zA)(ds:List Dr)(m b:Nat):Prop :=
 args=[.sl b 0 ds.length 3 false,.int .i64 m]/\(∃T0 T,T0.length=b/\H=T0++(drK b ds++T))/\m<=100/\zQn ds/\ds.length<=9223372036854775807
theorem DrAt2.uniq{args:List AV}{H:zA}{ds ds':List Dr}{m m' b b':Nat}(h:DrAt2 args H ds m b)(h':DrAt2 args H ds' m' b'):ds=ds'/\m=m':=by
 obtain⟨h1,⟨T0,T,h2,h3⟩,_⟩:=h;obtain⟨g1,⟨S0,S,g2,g3⟩,_⟩:=h';rw[h1]at g1;simp only[List.cons.injEq,AV.sl.injEq,AV.int.injEq,and_true,true_and]at g1;obtain⟨⟨rfl,hl⟩,hm⟩:=g1;rw[h3]at g3;obtain⟨_,k1⟩:=List.append_inj g3 (by omega);obtain⟨k2,_⟩:=List.append_inj k1 (by rw[ZQ,ZQ,hl]);simp only[drK,List.cons.injEq,ABlk.cells.injEq,true_and]at k2;exact⟨zJ9 ds ds' _ hl k2.1 k2.2,by omega⟩
open Classical in
noncomputable def drS(g:List Dr->Nat->List En):zJ:=fun args H =>
 if h:∃ds m b,DrAt2 args H ds m b then some (.sl H.length 0 (g h.choose h.choose_spec.choose).length 3 false,H++[.cells true (zb (g h.choose h.choose_spec.choose))],[]) else none
theorem zYe{g:List Dr->Nat->List En}{args:List AV}{H:zA}{ds:List Dr}{m b:Nat}(h:DrAt2 args H ds m b) :
   drS g args H=some (.sl H.length 0 (g ds m).length 3 false,H++[.cells true (zb (g ds m))],[]):=by
 have h0:∃ds m b,DrAt2 args H ds m b:=⟨ds,m,b,h⟩
 obtain⟨e1,e2⟩:=h0.choose_spec.choose_spec.choose_spec.uniq h;unfold drS;rw[dif_pos h0,e2,e1]
theorem zIZ(rn:List Nat):∀(ds:List Dr) (k c:Nat),(∀i,i<ds.length->rn[k+i]? = some (c+i))->AWs rn (Zc k ds) (Zc c ds)
 | [],_,_,_=>by simp[Zc,AWs]
 | d::ds,k,c,h=>by
   have h0:=h 0 (by simp);have hr:=zIZ rn ds (k+1) (c+1) fun i hi=>by
     have:=h (i+1) (by simpa using hi)
     rwa [show k+(i+1)=k+1+i by omega,show c+(i+1)=c+1+i by omega]at this
   simp only[Zc,AWs];refine ⟨?_,by simp[AW],by simp[AW],hr⟩;simpa[AW] using h0
theorem zWT(ds:List Dr)(b:Nat)(T0 T:zA)(hb:T0.length=b):AWh ((List.range (ds.length+1)).map (b+·)) (T0++(drK b ds++T)) (drH ds) ((List.range (ds.length+1)).map (b+·)):=by
 have hN:=zFS ds;have hem:∀i,i<ds.length+1->((List.range (ds.length+1)).map (b+·))[i]? = some (b+i):=fun i hi=>by
   rw[qzZ,rfZ hi];rfl
 refine AWh.of _ _ (by simp[hN]) fun i x c hx hc=>?_;have hi:i<ds.length+1:=by rw[<-hN];exact (q1Z.1 hx).1
 have hci:c=b+i:=by rw[hem i hi]at hc;cases hc;rfl
 subst hci;refine ⟨?_,by rw[qdZ,qdZ,ZQ];omega⟩;rw[q2Z,q5Z (by omega),q4Z (by rw[ZQ];omega),show b+i-T0.length=i by omega];cases i with
 | zero =>
   simp only[drH,raZ,Option.some.injEq]at hx;subst hx;simp only[drK,raZ,rgZ];exact⟨id,zIZ _ ds 1 (b+1) fun i hi=>by rw[hem (1+i) (by omega)];congr 1;omega⟩
 | succ i =>
   simp only[drH,r9Z]at hx;simp only[drK,r9Z,hx,rgZ];obtain⟨d,_,rfl⟩:=reZ.1 (qcZ hx);exact⟨id,AWs.refl _ _ (zEB _)⟩
theorem zN7(n b:Nat):((List.range n).map (b+·)).Nodup:=by
 rw[List.nodup_iff_pairwise_ne,List.pairwise_map];exact (List.nodup_iff_pairwise_ne.1 List.nodup_range).imp fun h e=>h (by omega)
theorem zaF{P:Program}{f:FuncId}{g:List En}{ds:List Dr}{m b:Nat}{T0 T:zA}(hb:T0.length=b)
   (h:Ct P f [.sl 0 0 ds.length 3 false,.int .i64 m] (drH ds) (.sl (ds.length+1) 0 g.length 3 false) (drH ds++[.cells true (zb g)])) :
   Ct P f [.sl b 0 ds.length 3 false,.int .i64 m] (T0++(drK b ds++T)) (.sl (T0++(drK b ds++T)).length 0 g.length 3 false) ((T0++(drK b ds++T))++[.cells true (zb g)]):=by
 have h:=zP (args:=[.sl b 0 ds.length 3 false,.int .i64 m]) (H:=T0++(drK b ds++T)) h ((List.range (ds.length+1)).map (b+·)) (zN7 _ _) (by
   have:((List.range (ds.length+1)).map (b+·))[0]? = some b:=by rw[qzZ,rfZ (by omega)];rfl
   simp only[AWs,AW,and_true,true_and];exact⟨this,id⟩) (zWT ds b T0 T hb) (by rw[List.drop_left];rfl)
 rw[zHM _ _ _ _ _ (by
   intro B hB;rcases qwZ.1 hB with h | h
   · cases h;rfl
   · obtain⟨d,_,h⟩:=reZ.1 h
     cases h;rfl),List.drop_left]at h
 simpa[reA,reB,zn,zN6,zFS] using h
theorem zTQ{P:Program}{f:FuncId}(hent:∀cargs w,(callFunc f cargs).run P w=.ok (.enter f cargs) w)(g:List Dr->Nat->List En)
   (hc:∀(ds:List Dr) (m:Nat),m<=100->zQn ds->ds.length<=9223372036854775807->Ct P f [.sl 0 0 ds.length 3 false,.int .i64 m] (drH ds) (.sl (ds.length+1) 0 (g ds m).length 3 false) (drH ds++[.cells true (zb (g ds m))])):Sound P f (drS g):=by
 refine ⟨hent,fun args H v H' W hs=>?_,fun args H v H' W hs=>?_⟩ <;> (unfold drS at hs;split at hs <;> cases hs)
 · rename_i h0
   have h1:=h0.choose_spec.choose_spec.choose_spec;generalize h0.choose_spec.choose_spec.choose=b at h1;generalize h0.choose_spec.choose=m at h1 ⊢;generalize h0.choose=ds at h1 ⊢;obtain⟨rfl,⟨T0,T,hb,rfl⟩,hm,hd,hl⟩:=h1;exact zaF hb (hc ds m hm hd hl)
 · exact⟨by simp,fun b hb _=>by rw[q4Z hb]⟩
def zDl(ds:List Dr)(m:Nat):List En:=dEs (ds.take m)
theorem zJS:Sound Pz 101 (drS zDl):=zTQ (zD Tryz.func101 rfl (by decide)) _ fun ds m hm hd hl=>zRI ds m hm hd hl
theorem zQY(ds:List Dr)(m:Nat):(dEs (ds.take m)).length<=m:=by simp[dEs];omega
end
end Go.Proofs.YtfhidaoiofeooaaGreatDoor
