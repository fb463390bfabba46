/- Parts of the proof of WalTurns: lemmas, each with its own conditions. -/
import Derived.Test.YthafeihjlamhhaaGreatDoorY29
import Derived.Test.YthafeihjlamhhaaGreatDoorY32
set_option maxHeartbeats 64000000
open List renaming getElem?_eq_some_iff → q1Z, getElem?_eq_getElem → q3Z, take_of_length_le → q6Z, length_cons → q7Z, length_nil → q8Z, cons_append → q9Z, nil_append → qaZ, replicate → qbZ, mem_of_getElem? → qcZ, append_nil → r2Z, length_map → r7Z
namespace Go.Proofs.YthafeihjlamhhaaGreatDoor
open _root_.Go.Proofs.Tryz renaming prog → Pz
set_option maxRecDepth 100000
section
open Go
attribute [-simp] drawOk_eq adraw qrun acode aops
mutual
theorem shA_freeE(k:Nat):∀x:AV,free x=true→shA k x=x
 | .top,_ | .bool _,_ | .int _ _,_ | .str _,_ | .nilp,_ | .nils,_ | .nilm,_ | .nilf,_=>rfl
 | .ptr ..,h | .slice ..,h | .sl ..,h | .map _,h | .yld _,h=>by simp[free]at h
 | .func f xs ys,h=>by simp at h;simp[shAs_freeE k xs h.1,shAs_freeE k ys h.2]
 | .agg l,h=>by simp at h;simp[shAs_freeE k l h]
 | .tuple l,h=>by simp at h;simp[shAs_freeE k l h]
theorem shAs_freeE(k:Nat):∀xs:List AV,frees xs=true→shAs k xs=xs
 | [],_=>rfl
 | x::xs,h=>by simp at h;simp[shA_freeE k x h.1,shAs_freeE k xs h.2]
end
@[simp] theorem shAs_ens(k:Nat)(l:List En):shAs k (ensA l)=ensA l:=shAs_freeE k _ (frees_ens l)
end
section
open Go
attribute [-simp] drawOk_eq adraw qrun acode aops
theorem en_beq(x y:En):(x.1==y.1&&(x.2.1==y.2.1&&(x.2.2==y.2.2&&true)))=decide (x=y):=by
 obtain⟨a,b,c⟩:=x;obtain⟨a',b',c'⟩:=y;rw[Bool.eq_iff_iff];simp
theorem same_ct_Ez(a b:List En)(ha:a.length≤1000000000000) :
   Ct Pz 46 [.sl 0 0 a.length 3 false,.sl 1 0 b.length 3 false] [.cells false (ensA a),.cells false (ensA b)] (.bool (decide (a=b))) [.cells false (ensA a),.cells false (ensA b)]:=by
 refine ct_of_sim Tryz.func46 rfl ?_;simp only[Tryz.ntmps46,q7Z,q8Z,Nat.reduceAdd,Nat.reduceSub,qbZ,q9Z,qaZ]
 refine Sim.step hmix goks_nil (n:=0) (by simp;exact⟨rfl,rfl⟩) (by simp) ?_
 by_cases hl:a.length=b.length;rotate_left
 · have e:decide (a=b)=false:=by simp;rintro rfl;exact hl rfl
   rw[e]
   have hl3:((a.length:Int) != (b.length:Int))=true:=by simp;omega
   refine Sim.exec hmix goks_nil (n:=0) (by simp[hl3];exact⟨rfl,rfl,rfl⟩) (by simp) ?_
   exact⟨.inr rfl,_,by simp;rfl,Weak.mk' [0,1] (by decide) (by decide) (by simp) (by simp)⟩
 refine Sim.step hmix goks_nil (n:=0) (by simp[hl];exact⟨rfl,rfl⟩) (by simp) ?_
 refine Sim.seq (Sim.step hmix goks_nil (n:=0) (by simp;exact⟨rfl,rfl⟩) (by simp) ?_)
 refine Sim.block (Sim.loopW (fun k:Nat=>k≤a.length∧a.take k=b.take k)
   (fun k=>[.sl 0 0 a.length 3 false,.sl 1 0 b.length 3 false,.top,.top,.bool false,.int .i64 k]++qbZ 20 .top)
   (fun _=>[.cells false (ensA a),.cells false (ensA b)]) (fun k=>a.length-k) 0 (by simp) (by simp) (Weak.mk' [0,1] (by decide) (by decide) (by simp[hl]) (by simp)) fun k hk=>?_)
 obtain⟨hk,hak⟩:=hk;by_cases hlt:k<a.length
 · have hltb:k<b.length:=by omega
   have hlti:(k:Int)<a.length:=by omega
   have hw:IntKind.i64.wrap ((k:Int)+1)=k+1:=wr_i64 (by omega) (by omega)
   have g1:=ens_get a k hlt;have g2:=ens_get b k hltb
   have k1:k*3+3≤a.length*3:=by omega
   have k2:k*3+3≤b.length*3:=by omega
   obtain⟨x,hx⟩:∃x,a[k]=x:=⟨_,rfl⟩;obtain⟨y,hy⟩:∃y,b[k]=y:=⟨_,rfl⟩;rw[hx]at g1;rw[hy]at g2;have hq:=en_beq x y;by_cases he:x=y
   · have ht:a.take (k+1)=b.take (k+1):=by
       rw[List.take_add_one,List.take_add_one,hak,q3Z hlt,q3Z hltb,hx,hy,he]
     subst he
     refine Sim.exec hmix goks_nil (n:=0) (by simp +decide [hlti,hltb,g1,g2,hw,k1,k2,enA];exact⟨rfl,rfl,rfl⟩) (by simp) ?_
     exact⟨k+1,⟨by omega,ht⟩,Weak.mk' [0,1] (by decide) (by decide) (by simp) (by simp),by omega⟩
   · have e:decide (a=b)=false:=by
       simp;rintro rfl;apply he;rw[←hx,←hy]
     rw[e]
     have hf:decide (x=y)=false:=by simpa using he
     rw[hf]at hq
     refine Sim.exec hmix goks_nil (n:=0) (by simp +decide [hlti,hltb,g1,g2,k1,k2,enA,-Bool.and_true,hq];exact⟨rfl,rfl,rfl⟩) (by simp) ?_
     exact⟨.inr rfl,_,by simp;rfl,Weak.mk' [0,1] (by decide) (by decide) (by simp) (by simp)⟩
 · have e:decide (a=b)=true:=by
     rw[q6Z (by omega),q6Z (by omega)]at hak
     simpa using hak
   have hlti:¬(k:Int)<a.length:=by omega
   rw[e]
   refine Sim.exec hmix goks_nil (n:=0) (by simp[hlti];exact⟨rfl,rfl,rfl⟩) (by simp) ?_
   dsimp only;rw[if_pos rfl]
   refine Sim.exec hmix goks_nil (n:=0) (by simp;exact⟨rfl,rfl,rfl⟩) (by simp) ?_
   exact⟨.inr rfl,_,by simp;rfl,Weak.mk' [0,1] (by decide) (by decide) (by simp) (by simp)⟩
def sameS_Ez:Summ:=readS fun args H=>match args with
 | [x,y]=>match rowEns H x,rowEns H y with
   | some a,some b=>if a.length≤1000000000000 then some (.bool (decide (a=b))) else none
   | _,_=>none
 | _=>none
theorem same_sound_Ez:Sound Pz 46 sameS_Ez:=by
 refine sound_read (enter_of Tryz.func46 rfl (by decide)) fun args H v h=>?_
 split at h <;> try cases h
 rename_i x y
 split at h <;> try cases h
 rename_i a b hx hy
 split at h <;> cases h
 rename_i hc;obtain⟨b1,o1,w1,g1⟩:=rowEns_win hx;obtain⟨b2,o2,w2,g2⟩:=rowEns_win hy;refine ct_win (same_ct_Ez a b hc) rfl [(b1,o1),(b2,o2)] ?_ ?_
 · exact⟨w1 0 _ rfl,w2 1 _ rfl,trivial⟩
 · exact⟨g1,frees_ens _,g2,frees_ens _,trivial⟩
end
section
open Go Go.Lib
attribute [-simp] drawOk_eq adraw qrun acode aops
noncomputable def wtΓ0:Gam:=gams [(15,trueK_U0),(16,entriesS),(17,dnewS),(18,wnewS),(19,wappendS)]
theorem wtΓ0_ok:GOk Pz wtΓ0:=goks_cons walWS0_sound (goks_cons entries_sound (goks_cons dnew_sound (goks_cons wnew_sound (goks_cons wappend_sound goks_nil))))
noncomputable def wtΓ:Gam:=gams [(46,sameS_Ez),(22,wfileR),(25,wnextR),(43,wdoneR),(36,dlistS),(58,mkS),(41,dreaS),(59,fallN),(60,fsizeS),(61,dcopyDS),(35,drestN),(47,logSzS)]
theorem wtΓ_ok:GOk Pz wtΓ:=goks_cons same_sound_Ez (goks_cons wfile_sound (goks_cons wnext_sound (goks_cons wdone_sound (goks_cons dlist_sound (goks_cons make_sound (goks_cons drea_sound (goks_cons fallN_sound (goks_cons fsize_sound (goks_cons dcopyD_sound (goks_cons drestN_sound (goks_cons logSz_sound goks_nil)))))))))))
theorem turnsW_ct(ds:List Dr)(hds:DrOk ds)(hdn:∀d∈ds,0≤d.2.1∧d.2.1<4294967296)(hdl:ds.length≤9223372036854775807)(a:Int)(ha:0≤a∧a≤255) :
   ∃H',Ct Pz 11 [.int .u8 a,.sl 0 0 ds.length 3 false] (drH ds) (.bool true) H':=by
 have hΓ0:=wtΓ0_ok;have hΓ:=wtΓ_ok;refine ⟨drH ds,ct_of_sim Tryz.func11 rfl ?_⟩;have hXl:=drH_length ds;have hXf:=drH_flat ds;obtain⟨all,hall⟩:∃all,dEs (ds.take 60)=all:=⟨_,rfl⟩
 have hent:∀T,entriesS [.sl 0 0 ds.length 3 false,.int .i64 60] (drH ds++T)=some (.sl (drH ds++T).length 0 all.length 3 false,drH ds++T++[.cells true (ensA all)],[]):=fun T=>by
   have:=entriesS_at (args:=[.sl 0 0 ds.length 3 false,.int .i64 60]) (H:=drH ds++T) (ds:=ds) (m:=60) ⟨rfl,⟨T,rfl⟩,by decide,hds,hdl⟩
   rw[hall]at this;exact this
 have hokE:okEs all:=by rw[←hall];exact dEs_ok hdn 60
 have hL60:all.length≤60:=by rw[←hall];simp[dEs];omega
 obtain⟨N,hN⟩:∃N,ds.length+1=N:=⟨_,rfl⟩
 have hN0:0<N:=by omega
 rw[hN]at hXl hXf;obtain⟨X,hX⟩:∃X,drH ds=X:=⟨_,rfl⟩;rw[hX]at hXl hXf hent ⊢;have hBX:=behindX X hXl;have hXg:=hBX.get;have hXg0:=hBX.get0;have hXs:=hBX.set;have hXs0:=hBX.set0
 have hXid:∀rn:List Nat,(∀i,i<N→rn[i]?=some i)→∀B∈X,AWb rn B B:=fun rn hr B hB=>by
   obtain⟨o,l,rfl,hl⟩:=hXf B hB;exact⟨id,AWs.pre hr _ hl⟩
 obtain⟨L,hL⟩:∃L,all.length=L:=⟨_,rfl⟩;rw[hXl];simp only[Tryz.ntmps11,q7Z,q8Z,Nat.reduceAdd,Nat.reduceSub,qbZ,q9Z,qaZ]
 have y3:IntKind.i64.wrap a=a:=wr_i64 (by omega) (by omega)
 have y4:IntKind.i64.wrap (1+a)=1+a:=wr_i64 (by omega) (by omega)
 have m1:(1:Int)≤1+a:=by omega
 obtain⟨w,ts,ess,e1,p1,p2,p3,p4,p5,p6,p7,p8,p9,p10,p11,p12,p13,ts',p14,p15,p16⟩:=turns_lawW (1+a) (by omega) (all:=all) hokE hL60
 have hok0:(DS.new 1048576).ok 700000 300000000000:=DS.ok_mono (DS.ok_new 1048576 (by decide) (by decide)) (by omega) (by omega)
 have hx1:(⟨DS.new 1048576,1+a,0,1,0,false⟩:WL).appends all=(w,0):=by rw[appends_ok rfl];exact e1
 have hWL:WOk ⟨DS.new 1048576,1+a,0,1,0,false⟩ L:=⟨hok0,Int.le_refl _,by dsimp only;omega,by dsimp only;omega⟩
 obtain⟨D0,hD0⟩:∃D0,DS.new 1048576=D0:=⟨_,rfl⟩;rw[hD0]at hx1 hWL;have hfe:frees (ensA all)=true:=frees_ens all
 have hel:(ensA all).length=L*3:=by rw[ensA_length,hL]
 have q1:ensOf ((ensA all).take (L*3))=some all:=by rw[←hel,List.take_length];exact ensOf_ensA all
 have c3:L≤1000:=by omega
 obtain⟨d,m,f,n,dn,bd⟩:=w;dsimp only at p1 p6 p7 p8 p9 p10 p11 p13 p14;rw[hL]at p7;subst p7
 have s0:d.small:=DS.ok_mono p11 (by omega) (by omega)
 have s1:d.ok 900000 1000000000:=DS.ok_mono p11 (by omega) (by omega)
 have hcount:=p1.count;obtain⟨K,hK⟩:∃K,ts.length=K:=⟨_,rfl⟩;rw[hK]at hcount p4 p8 p9 p12 p15 p16;subst p8
 have hlg:=logsAt_sound (logs_ct s0 p1 p2 (by omega) (by omega) (fun t ht=>by have:=p5 t ht;omega) (by rw[p3];omega))
 rw[p3]at hlg;have hΓL:GOk Pz (gams [(45,logsAt d 1 all)]):=goks_cons hlg goks_nil
 refine Sim.step hmix hΓ0 (n:=0) (by simp;exact⟨rfl,rfl⟩) (by simp[hXl]) ?_
 refine Sim.step hmix hΓ0 (n:=0) (by simp[wtΓ0,trueK_U0];exact⟨rfl,rfl⟩) (by simp[hXl]) ?_
 refine Sim.step hmix hΓ0 (n:=0) (by simp +decide [wtΓ0,dnewS,newS,hXl,hD0];exact⟨rfl,rfl⟩) (by simp[hXl]) ?_
 refine Sim.step hmix hΓ0 (n:=0) (by simp +decide [wtΓ0,wnewS,hXl,y3,y4,m1];exact⟨rfl,rfl⟩) (by simp[hXl]) ?_
 refine Sim.step hmix hΓ0 (n:=0) (by simp +decide [wtΓ0,hent,hXl,hL];exact⟨rfl,rfl⟩) (by simp[hXl]) ?_
 refine Sim.step hmix hΓ0 (n:=0) (by simp +decide [wtΓ0,wappendS,hXl,hXs,hXs0,hel,hfe,q1,hokE,hL,c3,hWL,hx1];exact⟨rfl,rfl⟩) (by simp[hXl]) ?_
 refine Sim.step hmix hΓL (n:=0) (by simp +decide [logsAt,hXl,hL];exact⟨rfl,rfl⟩) (by simp[hXl]) ?_
 have yK:IntKind.i64.wrap ((f:Int)+1)=(n:Int):=by rw[wr_i64 (by omega) (by omega)];omega
 have c6:L≤1000000000000:=by omega
 have hro:∀(T:AHeap) (j:Nat),(X++T)[N+j]?=some (.cells true (ensA all))→rowEns (X++T) (.sl (N+j) 0 L 3 false)=some all:=fun T j h=>by
   simp[rowEns,h,hel,q1]
 have hA1:∀rn:List Nat,AWs rn (ensA all) (ensA all):=fun rn=>AWs.refl _ _ hfe
 have hr0:∀ts:List Nat,(List.range N++ts)[0]?=some 0:=fun ts=>range_at _ _ hN0
 have rb:∀(ts:List Nat) (i:Nat),(List.range N++ts)[N+i]?=ts[i]?:=fun ts i=>range_beh N ts i
 have rb0:∀ts:List Nat,(List.range N++ts)[N]?=ts[0]?:=fun ts=>range_beh0 N ts
 refine Sim.seq (Sim.seq (Sim.plain (by simp[hXl]) ?_))
 refine SimP.many hΓ 9 rfl rfl (by simp +decide [wtΓ,sameS_Ez,rowEns,hXl,hel,q1,hL,c6];exact⟨rfl,rfl⟩) ?_
 refine SimP.many hΓ 7 rfl rfl (by simp +decide [wtΓ,wdoneR,wlR,wlC,hXl];exact⟨rfl,rfl⟩) ?_
 refine SimP.many hΓ 8 rfl rfl (by simp +decide [wtΓ,wfileR,dlistS,wlR,wlC,hXl,s0,hcount];exact⟨rfl,rfl⟩) ?_
 refine SimP.many hΓ 7 rfl rfl (by simp +decide [wtΓ,wfileR,wnextR,wlR,wlC,hXl,yK];exact⟨rfl,rfl⟩) ?_
 refine SimP.done ?_;dsimp only
 refine Sim.exec hmix hΓ (n:=0) (by simp +decide;exact⟨rfl,rfl,rfl⟩) (by simp[hXl]) ?_
 dsimp only;obtain⟨WB,hWB⟩:∃WB,wlC N m f n (L:Int) bd=WB:=⟨_,rfl⟩
 have hWw:∀rn:List Nat,rn[N]?=some N→AWs rn WB (wlC N m f n (L:Int) bd):=fun rn h=>by rw[←hWB];simp[wlC,AWs,AW,h]
 have hWW:∀rn:List Nat,rn[N]?=some N→AWs rn WB WB:=fun rn h=>by rw[←hWB];simp[wlC,AWs,AW,h]
 have hWo:wlOf WB=some (N,m,f,n,(L:Int),bd):=by rw[←hWB];exact wlOf_wlC _ _ _ _ _ _
 have hWs:=hWw (List.range N++[N,N+1]) (rb0 _);have hWt:=hWW (List.range N++[N,N+1]) (rb0 _)
 refine Sim.weak (Fn:=[.int .u8 a,.top,.top,.top,.top,.ptr N 0,.ptr (N+1) 0]++qbZ 136 .top) (Hn:=X++[.obj true d.blks,.cells true WB]) (Weak.tailG hXl hXid [0,1] (by decide) (by simp[AWs,AW]) (by simp[AWg,AWb,hXg,hXg0,hWs])) (by simp[hXl]) ?_
 dsimp only[qbZ,q9Z,qaZ]
 refine Sim.seq (Sim.mono (Q:=fun e' F' H'=>e'=.normal∧Weak N F' H' ([.int .u8 a,.top,.top,.top,.top,.ptr N 0,.ptr (N+1) 0]++qbZ 136 .top) (X++[.obj true d.blks,.cells true WB])) (Sim.step hmix hΓ (n:=0) (by simp +decide;exact⟨rfl,rfl⟩) (by simp[hXl]) ?_) ?_)
 rotate_left
 · rintro _ F6 H6 hl6 ⟨rfl,hw6⟩
   refine Sim.weak hw6 hl6 ?_;clear hw6 hl6 F6 H6;dsimp only[qbZ,q9Z,qaZ];obtain⟨D,hD⟩:∃D,d.restart []=D:=⟨_,rfl⟩;rw[hD]at p13 p14
   have fin:∀(T:AHeap),Weak N [.bool true] (X++T) [.bool true] X:=fun T=>by
     have:=Weak.tail3 hXl hXid (T:=T) (Tn:=[]) (F:=[.bool true]) (Fn:=[.bool true]) [] (by decide) (by simp[AWs,AW]) rfl (fun j t x y h=>by simp at h)
     rwa [r2Z]at this
   refine Sim.step hmix hΓ (n:=0) (by simp +decide [wtΓ,wfileR,wlR,hWo,hXl];exact⟨rfl,rfl⟩) (by simp[hXl]) ?_
   refine Sim.step hmix hΓ (n:=0) (by simp +decide [wtΓ,dcopyDS,hXl,s1];exact⟨rfl,rfl⟩) (by simp[hXl]) ?_
   refine Sim.step hmix hΓ (n:=0) (by simp +decide [wtΓ,drestN,drest0S,hXl,hXs0,s0,hD];exact⟨rfl,rfl⟩) (by simp[hXl]) ?_
   refine Sim.seq (Sim.mono (Q:=fun e' F' H'=>e'=.normal∧Weak N F' H' ([.int .u8 a,.top,.top,.top,.top,.ptr N 0,.ptr (N+1) 0,.top,.top,.top,.top,.top,.top,.top,.top,.top,.int .i64 f]++qbZ 126 .top) (X++[.obj true D.blks,.cells true WB])) (Sim.step hmix hΓ (n:=0) (by simp +decide;exact⟨rfl,rfl⟩) (by simp[hXl]) ?_) ?_)
   rotate_left
   · rintro _ F6 H6 hl6 ⟨rfl,hw6⟩
     refine Sim.weak hw6 hl6 ?_;clear hw6 hl6 F6 H6;dsimp only[qbZ,q9Z,qaZ];by_cases hf0:f=0
     · subst hf0
       refine Sim.exec hmix hΓ (n:=0) (by simp +decide;exact⟨rfl,rfl,rfl⟩) (by simp[hXl]) ?_
       exact⟨.inr rfl,_,by simp[Tryz.f11] <;> rfl,fin _⟩
     · obtain⟨t,ht⟩:∃t,ts'[f-1]?=some t:=⟨_,q3Z (by omega)⟩
       have hz:logSz D (f:Int)=t.length:=by
         have:=logSz_at p14 ht
         have hc:((1:Nat):Int)+((f-1:Nat):Int)=(f:Int):=by omega
         rwa [hc]at this
       have hfI:¬(f:Int)=0:=by omega
       have hfb:((f:Int)==0)=false:=by simpa using hf0
       have hz0:(0:Int)≤(t.length:Int):=by omega
       refine Sim.exec hmix hΓ (n:=0) (by simp +decide [hfb,wtΓ,logSzS,hXl,p13,hz,hz0];exact⟨rfl,rfl,rfl⟩) (by simp[hXl]) ?_
       exact⟨.inr rfl,_,by simp[Tryz.f11] <;> rfl,fin _⟩
   have hWu:=hWW (List.range N++[N,N+1,N+2]) (rb0 _)
   refine Sim.block (Sim.loopW (fun i:Nat=>i=0∨i+1≤f)
     (fun i=>[.int .u8 a,.top,.top,.top,.top,.ptr N 0,.ptr (N+1) 0,.top,.top,.top,.top,.top,.top,.top,.top,.top,.int .i64 f,.ptr (N+2) 0,.int .i64 (1+(i:Int))]++qbZ 124 .top)
     (fun _=>X++[.obj true D.blks,.cells true WB,.obj true d.blks]) (fun i=>f-i) 0 (by simp[hXl]) (.inl rfl) (Weak.tailG hXl hXid [0,1,2] (by decide) (by simp[AWs,AW]) (by simp[AWg,AWb,hXg,hXg0,hWu])) fun i hi=>?_)
   have y9:IntKind.i64.wrap (1+(i:Int)+1)=1+(i:Int)+1:=wr_i64 (by omega) (by omega)
   by_cases hlt:i+1<f
   · have hltI:1+(i:Int)<f:=by omega
     obtain⟨t,ht⟩:∃t,ts[i]?=some t:=⟨_,q3Z (by omega)⟩
     have ht':ts'[i]?=some t:=by rw[p16 i hlt];exact ht
     have z1:logSz d (1+(i:Int))=t.length:=logSz_at p1 ht;have z2:logSz D (1+(i:Int))=t.length:=logSz_at p14 ht'
     refine Sim.step hmix hΓ (n:=0) (by simp +decide [hltI];exact⟨rfl,rfl⟩) (by simp[hXl]) ?_
     refine Sim.seq (Sim.block ?_)
     refine Sim.exec hmix hΓ (n:=0) (by simp +decide [wtΓ,logSzS,hXl,hXs,hXs0,s0,p13,z1,z2];exact⟨rfl,rfl,rfl⟩) (by simp[hXl]) ?_
     dsimp only
     refine Sim.exec hmix hΓ (n:=0) (by simp[y9];exact⟨rfl,rfl,rfl⟩) (by simp[hXl]) ?_
     have hc:1+((i+1:Nat):Int)=1+(i:Int)+1:=by omega
     refine ⟨i+1,.inr (by omega),?_,by omega⟩
     rw[hc]
     exact Weak.tailG hXl hXid [0,1,2] (by decide) (by simp[AWs,AW]) (by simp[AWg,AWb,hXg,hXg0,hWu])
   · have hltI:¬1+(i:Int)<f:=by omega
     refine Sim.exec hmix hΓ (n:=0) (by simp +decide [hltI];exact⟨rfl,rfl,rfl⟩) (by simp[hXl]) ?_
     dsimp only;rw[if_pos rfl]
     exact⟨rfl,Weak.tailG hXl hXid [0,1] (by decide) (by simp[AWs,AW]) (by simp[AWg,AWb,hXg,hXg0,hWt])⟩
 refine Sim.block (Sim.loopW (fun i:Nat=>i=0∨i+1≤f)
   (fun i=>[.int .u8 a,.top,.top,.top,.top,.ptr N 0,.ptr (N+1) 0,.top,.top,.top,.int .i64 (1+(i:Int))]++qbZ 132 .top)
   (fun _=>X++[.obj true d.blks,.cells true WB]) (fun i=>f-i) 0 (by simp[hXl]) (.inl rfl) (Weak.tailG hXl hXid [0,1] (by decide) (by simp[AWs,AW]) (by simp[AWg,AWb,hXg,hXg0,hWt])) fun i hi=>?_)
 have y9:IntKind.i64.wrap (1+(i:Int)+1)=1+(i:Int)+1:=wr_i64 (by omega) (by omega)
 by_cases hlt:i+1<f
 · have hltI:1+(i:Int)<f:=by omega
   obtain⟨t,ht⟩:∃t,ts[i]?=some t:=⟨_,q3Z (by omega)⟩
   obtain⟨es,hes⟩:∃es,ess[i]?=some es:=⟨_,q3Z (by have:=p2.1;omega)⟩
   obtain⟨r1,r2,r3⟩:=p2.2 i t es ht hes;obtain⟨e,ini,g1,g2,g3⟩:=p12 i t es ht hes hlt;have htb:=p5 t (qcZ ht)
   have s2:d.readAt (wn (1+i)) 0 1048576=(t,0):=p1.read ht (m:=1048576) (by omega)
   obtain⟨k,hk⟩:∃k,mk 3 (1+(i:Int))=k:=⟨_,rfl⟩
   have hwn:wn (1+i)=k:=by rw[←hk];unfold wn;rw[Int.natCast_add];rfl
   rw[hwn]at s2;obtain⟨⟨ps,x,fe⟩,hal⟩:∃r,Fr.all t 0=r:=⟨_,rfl⟩;rw[hal]at r1;dsimp only at r1
   have htb2:t.length≤1000000000:=by omega
   obtain⟨P,hP⟩:∃P,ps.length=P:=⟨_,rfl⟩
   have hP1:1≤P:=by rw[←hP,r1,g1];simp[payE]
   obtain⟨Pm,rfl⟩:∃Pm,P=Pm+1:=⟨P-1,by omega⟩
   have hPb:Pm+1≤1000000:=by
     have:=Fr.all_len t;rw[hal]at this;dsimp only at this;omega
   have hlast:ps[Pm]?=some (eput e).1:=by
     have h1:ini.length=Pm:=by
       have:(payE es).length=Pm+1:=by rw[←r1,hP]
       rw[g1]at this;simpa[payE] using this
     rw[r1,g1,←h1];simp[payE]
   obtain⟨p,hp⟩:∃p,(eput e).1=p:=⟨_,rfl⟩
   have hpo:=(eput_okE (r3 e (by rw[g1];simp))).1
   rw[hp]at hlast hpo
   have hpl:p.length≤1000000000:=by have:=hpo.2;omega
   have hfr:(Fr.put p).1.length=(frE e).length:=by unfold frE;rw[hp]
   obtain⟨Z,hZ⟩:∃Z,(frE e).length=Z:=⟨_,rfl⟩
   have hZ2:Z≤313:=by rw[←hZ];exact frE_le e
   rw[hZ]at g3 hfr
   have hg:∀h,(ps.map AV.str)[Pm]'h=.str p:=fun h=>by
     have:=(q1Z.1 hlast).2;rw[List.getElem_map,this]
   have hpsl:(ps.map AV.str).length=Pm+1:=by rw[r7Z,hP]
   have y5:IntKind.i64.wrap ((Pm:Int)+1-1)=Pm:=by rw[wr_i64 (by omega) (by omega)];omega
   have y5b:IntKind.i64.wrap (Pm:Int)=Pm:=wr_i64 (by omega) (by omega)
   have y6:IntKind.i64.wrap ((t.length:Int)-(Z:Int))=(t.length:Int)-Z:=wr_i64 (by omega) (by omega)
   have t1:¬(t.length:Int)≤a:=by omega
   have t2:¬a<(t.length:Int)-Z:=by omega
   have u1:(Pm:Int)<(Pm:Int)+1:=by omega
   have u2:Pm<Pm+1:=by omega
   have u3:(0:Int)≤(Pm:Int):=by omega
   have u4:((Pm:Int)+1==0)=false:=by rw[beq_eq_false_iff_ne];omega
   have u5:¬(Pm:Int)+1=0:=by omega
   refine Sim.step hmix hΓ (n:=0) (by simp +decide [wtΓ,wfileR,wlR,hWo,hXl,hltI];exact⟨rfl,rfl⟩) (by simp[hXl]) ?_
   refine Sim.seq (Sim.block ?_)
   refine Sim.step hmix hΓ (n:=0) (by simp +decide [wtΓ,mkS,hk,dreaS,hXl,s0,s2];exact⟨rfl,rfl⟩) (by simp[hXl]) ?_
   refine Sim.step hmix hΓ (n:=0) (by simp +decide [wtΓ,fallN,newS,htb2,hal,hP,hXl];exact⟨rfl,rfl⟩) (by simp[hXl]) ?_
   refine Sim.seq (Sim.plain (by simp[hXl]) ?_)
   refine SimP.many hΓ 10 rfl rfl (by simp +decide [y3,t1,u4];exact⟨rfl,rfl⟩) ?_
   refine SimP.many hΓ 9 rfl rfl (by simp +decide [hpsl,hg,hXl,y5b,u1,u2,u3];exact⟨rfl,rfl⟩) ?_
   refine SimP.many hΓ 6 rfl rfl (by simp +decide [wtΓ,fsizeS,hpl,hfr,y3,y6,t2];exact⟨rfl,rfl⟩) ?_
   refine SimP.done ?_;dsimp only
   refine Sim.exec hmix hΓ (n:=0) (by simp +decide;exact⟨rfl,rfl,rfl⟩) (by simp[hXl]) ?_
   dsimp only
   refine Sim.exec hmix hΓ (n:=0) (by simp[y9];exact⟨rfl,rfl,rfl⟩) (by simp[hXl]) ?_
   have hc:1+((i+1:Nat):Int)=1+(i:Int)+1:=by omega
   refine ⟨i+1,.inr (by omega),?_,by omega⟩
   rw[hc]
   exact Weak.tailG hXl hXid [0,1] (by decide) (by simp[AWs,AW]) (by simp[AWg,AWb,hXg,hXg0,hWt])
 · have hltI:¬1+(i:Int)<f:=by omega
   refine Sim.exec hmix hΓ (n:=0) (by simp +decide [wtΓ,wfileR,wlR,hWo,hXl,hltI];exact⟨rfl,rfl,rfl⟩) (by simp[hXl]) ?_
   dsimp only;rw[if_pos rfl]
   exact⟨rfl,Weak.tailG hXl hXid [0,1] (by decide) (by simp[AWs,AW]) (by simp[AWg,AWb,hXg,hXg0,hWt])⟩
def walTurns_shape:List AS:=[.flat false [.one (.int .u8)],.rows wdr_ct]
theorem walTurns_law:∀xs H,AbsArgs2 walTurns_shape 0 xs H→∃H',Ct Pz 11 xs H (.bool true) H':=by
 intro xs H h0;obtain⟨x,ys0,rfl,⟨a,rfl,ha⟩,h1⟩:=absArgs2_one h0;obtain⟨x0,y0,n0,ys,H1,H2,rfl,hx0,hm0,hd0,rfl,h2⟩:=absArgs2_rows h1;obtain⟨ds,rfl,e2,e3,rfl,e5⟩:=row_drafts _ _ _ _ hd0;obtain⟨rfl,rfl⟩:=absArgs2_nil h2;have ba:=bounds_u8 ha;unfold maxLen at hm0
 obtain⟨H',h⟩:=turnsW_ct ds e2 e3 (by omega) a (by omega)
 refine ⟨H',ct_weak ?_ h⟩
 have:=drafts_weakG (ds:=ds) (T:=[]) (F:=[.int .u8 a,x0]) (Fn:=[.int .u8 a,.sl 0 0 ds.length 3 false]) e5 (by simp) fun rn hr=>⟨⟨rfl,rfl⟩,drafts_arg hx0 (hr 0 (by omega)),trivial⟩
 simpa using this
end
end Go.Proofs.YthafeihjlamhhaaGreatDoor
