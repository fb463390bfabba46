/- Parts of the proof of WalKeeps: lemmas, each with its own conditions. -/
import Derived.Test.YtpmfecnajoojeaaGreatDoorY30
import Derived.Test.YtpmfecnajoojeaaGreatDoorY29
set_option maxHeartbeats 64000000
open List renaming getElem?_eq_some_iff → q1Z, getD_eq_getElem?_getD → q2Z, getElem?_eq_getElem → q3Z, getElem?_append_left → q4Z, getElem?_append_right → q5Z, take_of_length_le → q6Z, length_cons → q7Z, length_nil → q8Z, cons_append → q9Z, nil_append → qaZ, replicate → qbZ, mem_of_getElem? → qcZ, length_append → qdZ, mem_cons → qwZ, getElem?_map → qzZ, getElem?_cons_succ → r9Z, getElem?_cons_zero → raZ, mem_map → reZ, getElem?_range → rfZ
open Option renaming getD_some → rgZ
namespace Go.Proofs.YtpmfecnajoojeaaGreatDoor
open _root_.Go.Proofs.Tryz renaming prog → Pz
set_option maxRecDepth 100000
section
open Go
attribute [-simp] drawOk_eq adraw qrun acode aops
mutual
theorem shA_freeE(k:Nat):∀x:AV,free x=true→shA k x=x
 | .top,_ | .bool _,_ | .int _ _,_ | .str _,_ | .nilp,_ | .nils,_ | .nilm,_ | .nilf,_=>rfl
 | .ptr ..,h | .slice ..,h | .sl ..,h | .map _,h | .yld _,h=>by simp[free]at h
 | .func f xs ys,h=>by simp at h;simp[shAs_freeE k xs h.1,shAs_freeE k ys h.2]
 | .agg l,h=>by simp at h;simp[shAs_freeE k l h]
 | .tuple l,h=>by simp at h;simp[shAs_freeE k l h]
theorem shAs_freeE(k:Nat):∀xs:List AV,frees xs=true→shAs k xs=xs
 | [],_=>rfl
 | x::xs,h=>by simp at h;simp[shA_freeE k x h.1,shAs_freeE k xs h.2]
end
@[simp] theorem shAs_ens(k:Nat)(l:List En):shAs k (ensA l)=ensA l:=shAs_freeE k _ (frees_ens l)
end
section
open Go
attribute [-simp] drawOk_eq adraw qrun acode aops
theorem en_beq(x y:En):(x.1==y.1&&(x.2.1==y.2.1&&(x.2.2==y.2.2&&true)))=decide (x=y):=by
 obtain⟨a,b,c⟩:=x;obtain⟨a',b',c'⟩:=y;rw[Bool.eq_iff_iff];simp
theorem same_ct_Ez(a b:List En)(ha:a.length≤1000000000000) :
   Ct Pz 24 [.sl 0 0 a.length 3 false,.sl 1 0 b.length 3 false] [.cells false (ensA a),.cells false (ensA b)] (.bool (decide (a=b))) [.cells false (ensA a),.cells false (ensA b)]:=by
 refine ct_of_sim Tryz.func24 rfl ?_;simp only[Tryz.ntmps24,q7Z,q8Z,Nat.reduceAdd,Nat.reduceSub,qbZ,q9Z,qaZ]
 refine Sim.step hmix goks_nil (n:=0) (by simp;exact⟨rfl,rfl⟩) (by simp) ?_
 by_cases hl:a.length=b.length;rotate_left
 · have e:decide (a=b)=false:=by simp;rintro rfl;exact hl rfl
   rw[e]
   have hl3:((a.length:Int) != (b.length:Int))=true:=by simp;omega
   refine Sim.exec hmix goks_nil (n:=0) (by simp[hl3];exact⟨rfl,rfl,rfl⟩) (by simp) ?_
   exact⟨.inr rfl,_,by simp;rfl,Weak.mk' [0,1] (by decide) (by decide) (by simp) (by simp)⟩
 refine Sim.step hmix goks_nil (n:=0) (by simp[hl];exact⟨rfl,rfl⟩) (by simp) ?_
 refine Sim.seq (Sim.step hmix goks_nil (n:=0) (by simp;exact⟨rfl,rfl⟩) (by simp) ?_)
 refine Sim.block (Sim.loopW (fun k:Nat=>k≤a.length∧a.take k=b.take k)
   (fun k=>[.sl 0 0 a.length 3 false,.sl 1 0 b.length 3 false,.top,.top,.bool false,.int .i64 k]++qbZ 20 .top)
   (fun _=>[.cells false (ensA a),.cells false (ensA b)]) (fun k=>a.length-k) 0 (by simp) (by simp) (Weak.mk' [0,1] (by decide) (by decide) (by simp[hl]) (by simp)) fun k hk=>?_)
 obtain⟨hk,hak⟩:=hk;by_cases hlt:k<a.length
 · have hltb:k<b.length:=by omega
   have hlti:(k:Int)<a.length:=by omega
   have hw:IntKind.i64.wrap ((k:Int)+1)=k+1:=wr_i64 (by omega) (by omega)
   have g1:=ens_get a k hlt;have g2:=ens_get b k hltb
   have k1:k*3+3≤a.length*3:=by omega
   have k2:k*3+3≤b.length*3:=by omega
   obtain⟨x,hx⟩:∃x,a[k]=x:=⟨_,rfl⟩;obtain⟨y,hy⟩:∃y,b[k]=y:=⟨_,rfl⟩;rw[hx]at g1;rw[hy]at g2;have hq:=en_beq x y;by_cases he:x=y
   · have ht:a.take (k+1)=b.take (k+1):=by
       rw[List.take_add_one,List.take_add_one,hak,q3Z hlt,q3Z hltb,hx,hy,he]
     subst he
     refine Sim.exec hmix goks_nil (n:=0) (by simp +decide [hlti,hltb,g1,g2,hw,k1,k2,enA];exact⟨rfl,rfl,rfl⟩) (by simp) ?_
     exact⟨k+1,⟨by omega,ht⟩,Weak.mk' [0,1] (by decide) (by decide) (by simp) (by simp),by omega⟩
   · have e:decide (a=b)=false:=by
       simp;rintro rfl;apply he;rw[←hx,←hy]
     rw[e]
     have hf:decide (x=y)=false:=by simpa using he
     rw[hf]at hq
     refine Sim.exec hmix goks_nil (n:=0) (by simp +decide [hlti,hltb,g1,g2,k1,k2,enA,-Bool.and_true,hq];exact⟨rfl,rfl,rfl⟩) (by simp) ?_
     exact⟨.inr rfl,_,by simp;rfl,Weak.mk' [0,1] (by decide) (by decide) (by simp) (by simp)⟩
 · have e:decide (a=b)=true:=by
     rw[q6Z (by omega),q6Z (by omega)]at hak
     simpa using hak
   have hlti:¬(k:Int)<a.length:=by omega
   rw[e]
   refine Sim.exec hmix goks_nil (n:=0) (by simp[hlti];exact⟨rfl,rfl,rfl⟩) (by simp) ?_
   dsimp only;rw[if_pos rfl]
   refine Sim.exec hmix goks_nil (n:=0) (by simp;exact⟨rfl,rfl,rfl⟩) (by simp) ?_
   exact⟨.inr rfl,_,by simp;rfl,Weak.mk' [0,1] (by decide) (by decide) (by simp) (by simp)⟩
def sameS_Ez:Summ:=readS fun args H=>match args with
 | [x,y]=>match rowEns H x,rowEns H y with
   | some a,some b=>if a.length≤1000000000000 then some (.bool (decide (a=b))) else none
   | _,_=>none
 | _=>none
theorem same_sound_Ez:Sound Pz 24 sameS_Ez:=by
 refine sound_read (enter_of Tryz.func24 rfl (by decide)) fun args H v h=>?_
 split at h <;> try cases h
 rename_i x y
 split at h <;> try cases h
 rename_i a b hx hy
 split at h <;> cases h
 rename_i hc;obtain⟨b1,o1,w1,g1⟩:=rowEns_win hx;obtain⟨b2,o2,w2,g2⟩:=rowEns_win hy;refine ct_win (same_ct_Ez a b hc) rfl [(b1,o1),(b2,o2)] ?_ ?_
 · exact⟨w1 0 _ rfl,w2 1 _ rfl,trivial⟩
 · exact⟨g1,frees_ens _,g2,frees_ens _,trivial⟩
end
section
open Go
end
section
open Go
attribute [-simp] drawOk_eq adraw qrun acode aops
def drK(b:Nat)(ds:List Dr):AHeap:=.cells false (dcells (b+1) ds)::dblks ds
theorem drK_length(b:Nat)(ds:List Dr):(drK b ds).length=ds.length+1:=by simp[drK,dblks]
theorem drK_flat(b:Nat)(ds:List Dr):∀x∈drK b ds,∃o l,x=ABlk.cells o l∧belows (b+ds.length+1) l=true:=by
 intro x hx;rcases qwZ.1 hx with rfl | hx
 · exact⟨_,_,rfl,belows_dcells ds (b+1) _ (by omega)⟩
 · obtain⟨d,_,rfl⟩:=reZ.1 hx
   exact⟨_,_,rfl,belows_free _ _ (frees_aB _)⟩
def DrAt2(args:List AV)(H:AHeap)(ds:List Dr)(m b:Nat):Prop :=
 args=[.sl b 0 ds.length 3 false,.int .i64 m]∧(∃T0 T,T0.length=b∧H=T0++(drK b ds++T))∧m≤100∧DrOk ds∧ds.length≤9223372036854775807
theorem DrAt2.uniq{args:List AV}{H:AHeap}{ds ds':List Dr}{m m' b b':Nat}(h:DrAt2 args H ds m b)(h':DrAt2 args H ds' m' b'):ds=ds'∧m=m':=by
 obtain⟨h1,⟨T0,T,h2,h3⟩,_⟩:=h;obtain⟨g1,⟨S0,S,g2,g3⟩,_⟩:=h';rw[h1]at g1;simp only[List.cons.injEq,AV.sl.injEq,AV.int.injEq,and_true,true_and]at g1;obtain⟨⟨rfl,hl⟩,hm⟩:=g1;rw[h3]at g3
 obtain⟨_,k1⟩:=List.append_inj g3 (by omega)
 obtain⟨k2,_⟩:=List.append_inj k1 (by rw[drK_length,drK_length,hl])
 simp only[drK,List.cons.injEq,ABlk.cells.injEq,true_and]at k2
 exact⟨dcells_inj ds ds' _ hl k2.1 k2.2,by omega⟩
open Classical in
noncomputable def drS(g:List Dr→Nat→List En):Summ:=fun args H =>
 if h:∃ds m b,DrAt2 args H ds m b then some (.sl H.length 0 (g h.choose h.choose_spec.choose).length 3 false,H++[.cells true (ensA (g h.choose h.choose_spec.choose))],[]) else none
theorem drS_at{g:List Dr→Nat→List En}{args:List AV}{H:AHeap}{ds:List Dr}{m b:Nat}(h:DrAt2 args H ds m b) :
   drS g args H=some (.sl H.length 0 (g ds m).length 3 false,H++[.cells true (ensA (g ds m))],[]):=by
 have h0:∃ds m b,DrAt2 args H ds m b:=⟨ds,m,b,h⟩;obtain⟨e1,e2⟩:=h0.choose_spec.choose_spec.choose_spec.uniq h;unfold drS;rw[dif_pos h0,e2,e1]
theorem dcells_ren(rn:List Nat):∀(ds:List Dr) (k c:Nat),(∀i,i<ds.length→rn[k+i]? = some (c+i))→AWs rn (dcells k ds) (dcells c ds)
 | [],_,_,_=>by simp[dcells,AWs]
 | d::ds,k,c,h=>by
   have h0:=h 0 (by simp)
   have hr:=dcells_ren rn ds (k+1) (c+1) fun i hi=>by
     have:=h (i+1) (by simpa using hi)
     rwa [show k+(i+1)=k+1+i by omega,show c+(i+1)=c+1+i by omega]at this
   simp only[dcells,AWs]
   refine ⟨?_,by simp[AW],by simp[AW],hr⟩
   simpa[AW] using h0
theorem drK_win(ds:List Dr)(b:Nat)(T0 T:AHeap)(hb:T0.length=b):AWh ((List.range (ds.length+1)).map (b+·)) (T0++(drK b ds++T)) (drH ds) ((List.range (ds.length+1)).map (b+·)):=by
 have hN:=drH_length ds
 have hem:∀i,i<ds.length+1→((List.range (ds.length+1)).map (b+·))[i]? = some (b+i):=fun i hi=>by
   rw[qzZ,rfZ hi];rfl
 refine AWh.of _ _ (by simp[hN]) fun i x c hx hc=>?_
 have hi:i<ds.length+1:=by rw[←hN];exact (q1Z.1 hx).1
 have hci:c=b+i:=by rw[hem i hi]at hc;cases hc;rfl
 subst hci
 refine ⟨?_,by rw[qdZ,qdZ,drK_length];omega⟩
 rw[q2Z,q5Z (by omega),q4Z (by rw[drK_length];omega),show b+i-T0.length=i by omega]
 cases i with
 | zero =>
   simp only[drH,raZ,Option.some.injEq]at hx;subst hx;simp only[drK,raZ,rgZ]
   exact⟨id,dcells_ren _ ds 1 (b+1) fun i hi=>by rw[hem (1+i) (by omega)];congr 1;omega⟩
 | succ i =>
   simp only[drH,r9Z]at hx;simp only[drK,r9Z,hx,rgZ];obtain⟨d,_,rfl⟩:=reZ.1 (qcZ hx);exact⟨id,AWs.refl _ _ (frees_aB _)⟩
theorem nodup_shift(n b:Nat):((List.range n).map (b+·)).Nodup:=by
 rw[List.nodup_iff_pairwise_ne,List.pairwise_map]
 exact (List.nodup_iff_pairwise_ne.1 List.nodup_range).imp fun h e=>h (by omega)
theorem dr_at{P:Program}{f:FuncId}{g:List En}{ds:List Dr}{m b:Nat}{T0 T:AHeap}(hb:T0.length=b)
   (h:Ct P f [.sl 0 0 ds.length 3 false,.int .i64 m] (drH ds) (.sl (ds.length+1) 0 g.length 3 false) (drH ds++[.cells true (ensA g)])) :
   Ct P f [.sl b 0 ds.length 3 false,.int .i64 m] (T0++(drK b ds++T)) (.sl (T0++(drK b ds++T)).length 0 g.length 3 false) ((T0++(drK b ds++T))++[.cells true (ensA g)]):=by
 have h:=ct_frame (args:=[.sl b 0 ds.length 3 false,.int .i64 m]) (H:=T0++(drK b ds++T)) h ((List.range (ds.length+1)).map (b+·)) (nodup_shift _ _) (by
   have:((List.range (ds.length+1)).map (b+·))[0]? = some b:=by rw[qzZ,rfZ (by omega)];rfl
   simp only[AWs,AW,and_true,true_and]
   exact⟨this,id⟩) (drK_win ds b T0 T hb) (by rw[List.drop_left];rfl)
 rw[setOwn_none _ _ _ _ _ (by
   intro B hB;rcases qwZ.1 hB with h | h
   · cases h;rfl
   · obtain⟨d,_,h⟩:=reZ.1 h
     cases h;rfl),List.drop_left]at h
 simpa[reA,reB,nameG,reAs_ens,drH_length] using h
theorem drS_sound{P:Program}{f:FuncId}(hent:∀cargs w,(callFunc f cargs).run P w=.ok (.enter f cargs) w)(g:List Dr→Nat→List En)
   (hc:∀(ds:List Dr) (m:Nat),m≤100→DrOk ds→ds.length≤9223372036854775807→Ct P f [.sl 0 0 ds.length 3 false,.int .i64 m] (drH ds) (.sl (ds.length+1) 0 (g ds m).length 3 false) (drH ds++[.cells true (ensA (g ds m))])):Sound P f (drS g):=by
 refine ⟨hent,fun args H v H' W hs=>?_,fun args H v H' W hs=>?_⟩ <;> (unfold drS at hs;split at hs <;> cases hs)
 · rename_i h0
   have h1:=h0.choose_spec.choose_spec.choose_spec;generalize h0.choose_spec.choose_spec.choose=b at h1;generalize h0.choose_spec.choose=m at h1 ⊢;generalize h0.choose=ds at h1 ⊢;obtain⟨rfl,⟨T0,T,hb,rfl⟩,hm,hd,hl⟩:=h1;exact dr_at hb (hc ds m hm hd hl)
 · exact⟨by simp,fun b hb _=>by rw[q4Z hb]⟩
def entsOf(ds:List Dr)(m:Nat):List En:=dEs (ds.take m)
theorem entries2_sound:Sound Pz 63 (drS entsOf):=drS_sound (enter_of Tryz.func63 rfl (by decide)) _ fun ds m hm hd hl=>entries_ct ds m hm hd hl
theorem dEs_length(ds:List Dr)(m:Nat):(dEs (ds.take m)).length≤m:=by simp[dEs];omega
end
end Go.Proofs.YtpmfecnajoojeaaGreatDoor
