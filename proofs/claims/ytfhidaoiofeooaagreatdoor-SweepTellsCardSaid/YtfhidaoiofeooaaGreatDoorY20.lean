/- Parts of the proof of SweepTells: lemmas, each with its own conditions. -/
import Derived.Test.YtfhidaoiofeooaaGreatDoorY17
import Derived.Test.YtfhidaoiofeooaaGreatDoorY18
import Derived.Test.YtfhidaoiofeooaaGreatDoorY19
set_option maxHeartbeats 64000000
open List renaming getElem?_eq_some_iff → q1Z, getD_eq_getElem?_getD → q2Z, getElem?_eq_getElem → q3Z, getElem?_append_left → q4Z, take_of_length_le → q6Z, length_cons → q7Z, length_nil → q8Z, cons_append → q9Z, nil_append → qaZ, replicate → qbZ, length_append → qdZ, append_assoc → qeZ, getElem?_set_ne → qfZ, getElem?_set_self → qgZ, mem_cons_self → qhZ, mem_cons → qwZ, mem_append → qxZ, getElem_append_left → qyZ, getElem?_map → qzZ, mem_singleton → r1Z, getElem?_drop → r5Z, take_append_drop → r6Z, length_map → r7Z, mem_map → reZ, map_append → roZ, not_mem_nil → rtZ, replicate_succ → rvZ, getElem_append_right → scZ
open Nat renaming le_refl → qnZ, zero_le → qqZ
namespace Go.Proofs.YtfhidaoiofeooaaGreatDoor
open _root_.Go.Proofs.Tryz renaming prog → Pz
set_option maxRecDepth 100000
section
open Go
theorem zFg{H:zA}{b b2:Nat}{B X:ABlk}(h:H[b2]? = some X)(hne:b≠b2):(H.set b B).set b2 X=H.set b B:=by
 have hbl2:b2<H.length:=(q1Z.1 h).1;refine List.ext_getElem? fun i=>?_;by_cases hi:i=b2
 · subst hi
   rw[qgZ (by simpa using hbl2),qfZ hne,h]
 · rw[qfZ (Ne.symm hi)]
end
section
open Go Go.Lib
attribute [-simp] zG zT zc zJ zn
noncomputable def zR3:Gam:=zh [(217,zSF)]
theorem zOo:GOk Pz (zAF Pz zR3 0 [286] 2):=zq hmix (zC zNI zB) 0 [286] 2
abbrev dpC:List AV:=[.func 286 [] [.ptr 2 0,.ptr 3 0]]
abbrev dpH(s:List UInt8)(d:DS):zA:=[.obj true d.blks,.cells true [.str s],.cells true [.func 217 [.ptr 0 0] []],.cells true [.str s],.cells true dpC,.cells true dpC]
theorem zSN(d:DS)(hd:d.small)(s:List UInt8):Ct Pz 218 [.slice 5 0 1 1 false] (dpH s d) (.int .i64 (d.remove s).2) (dpH s (d.remove s).1):=by
 have c0:∀X,∃W,zAF Pz zR3 0 [286] 2 286 ([]++[.ptr 2 0,.ptr 3 0]) (dpH s d++X)=some (.int .i64 (d.remove s).2,dpH s (d.remove s).1++X,W):=fun X=>by
   simp[zR3,zSF,hd,Tryz.f286]
 by_cases h:(d.remove s).2=0
 · have:=zR4 zOo 6 5 1 (by decide) (fun i=>dpH s (if i=0 then d else (d.remove s).1)) dpC (fun _=>286) (fun _=>[]) (fun _=>[.ptr 2 0,.ptr 3 0]) (fun _=>(d.remove s).2) 1 (by decide) (fun i _=>rfl) (fun i _=>rfl) rfl (fun i hi=>?_) (fun i hi=>by decide) (fun i hi rn hr B hB=>?_) (fun i _=>h) (fun h=>by omega) (fun i hi hi4 X=>?_)
   · rw[h]
     exact this
   · match i,hi with
     | 0,_=>exact rfl
   · simp only[dpH,qwZ,rtZ,or_false]at hB
     have q:∀j,j<6->rn[j]? = some j:=hr;rcases hB with rfl | rfl | rfl | rfl | rfl | rfl <;> simp[AWb,AW,q]
   · match i,hi4 with
     | 0,_=>exact c0 X
 · have:=zR4 zOo 6 5 1 (by decide) (fun i=>dpH s (if i=0 then d else (d.remove s).1)) dpC (fun _=>286) (fun _=>[]) (fun _=>[.ptr 2 0,.ptr 3 0]) (fun _=>(d.remove s).2) 0 (by decide) (fun i _=>rfl) (fun i _=>rfl) rfl (fun i hi=>?_) (fun i hi=>by decide) (fun i hi rn hr B hB=>?_) (fun i hi=>by omega) (fun _=>h) (fun i hi hi4 X=>?_)
   · exact this
   · match i,hi with
     | 0,_=>exact rfl
   · simp only[dpH,qwZ,rtZ,or_false]at hB
     have q:∀j,j<6->rn[j]? = some j:=hr;rcases hB with rfl | rfl | rfl | rfl | rfl | rfl <;> simp[AWb,AW,q]
   · match i,hi4 with
     | 0,_=>exact c0 X
theorem zSS(d:DS)(hd:d.small)(s:List UInt8)(c:Bool):Ct Pz 130 [.ptr 0 0,.slice 1 0 1 1 c] [.obj true d.blks,.cells true [.str s]] (.int .i64 (d.remove s).2) [.obj true (d.remove s).1.blks,.cells true [.str s]]:=by
 have hrow:=zSN d hd s;obtain⟨d',hd'⟩:∃d',(d.remove s).1=d':=⟨_,rfl⟩
 obtain⟨e',he'⟩:∃e',(d.remove s).2=e':=⟨_,rfl⟩
 rw[hd',he']at hrow ⊢;simp only[dpH,dpC]at hrow;have hΓ:GOk Pz (zh [(216,zSz),(218,zGW _ _ _ _)]) :=
   zC zQR (zC (zB3 (zD Tryz.func218 rfl (by decide)) hrow (qnZ _)) zB)
 refine zE Tryz.func130 rfl ?_;simp only[Tryz.ntmps130,q7Z,q8Z,Nat.reduceAdd,Nat.reduceSub,qbZ,q9Z,qaZ];refine wS hΓ (by simp;exact wR) ?_;refine wS hΓ (by simp;exact wR) ?_;refine Sim.seq (wS hΓ (by simp;exact wR) ?_);refine Sim.block (Sim.loopW (fun k:Nat=>k<=1)
   (fun k=>[.ptr 0 0,.top,.top,.top,.top,(if k=0 then .nils else .slice 5 0 1 1 false),.top,.top,.slice 1 0 1 1 c,.int .i64 1,.int .i64 k]++qbZ 13 .top)
   (fun k=>if k=0 then [.obj true d.blks,.cells true [.str s]] else [.obj true d.blks,.cells true [.str s],.cells true [.func 217 [.ptr 0 0] []],.cells true [.str s],.cells true [.func 286 [] [.ptr 2 0,.ptr 3 0]],.cells true [.func 286 [] [.ptr 2 0,.ptr 3 0]]]) (fun k=>1-k) 0 (by simp) (by omega) (wW [0,1] (by simp[AWb])) fun k hk=>?_)
 match k,hk with
 | 0,_ =>
   simp only[if_pos];refine wS hΓ (by simp;exact wR) ?_;refine wS hΓ (by simp;exact wR) ?_;refine Sim.seq (Sim.block ?_);refine wS hΓ (by simp;exact wR) ?_;refine wE hΓ (by simp +decide [zSz];exact wT) ?_;dsimp only;refine wE hΓ (by simp;exact wT) ?_;exact⟨1,by omega,wW [0,1,2,3,4,5] (by simp[AWb,AW]),by omega⟩
 | 1,_ =>
   simp only[if_neg (show ¬(1:Nat)=0 by decide)];refine wE hΓ (by simp;exact wT) ?_;dsimp only;rw[if_pos rfl];refine wE hΓ (by simp;exact wT) ?_;exact⟨.inr rfl,_,by simp[Tryz.f130] <;> rfl,wW [0,1] (by simp[AWb])⟩
open Classical in
noncomputable def zF8:zS:=fun args H=>match args with
 | [.ptr b 0,.slice b2 0 1 1 _c]=>match H[b]?,H[b2]? with
   | some (.obj true sub),some (.cells true [.str s])=>match dsD sub with
     | some d=>if d.small then some (.int .i64 (d.remove s).2,H.set b (.obj true (d.remove s).1.blks),[b]) else none
     | none=>none
   | _,_=>none
 | _=>none
theorem zKx:Sound Pz 130 zF8:=by
 have key:∀args H v H' W,zF8 args H=some (v,H',W)->∃b B,W=[b]/\H'=H.set b B/\Ct Pz 130 args H v H':=by
   intro args H v H' W hs;unfold zF8 at hs;split at hs;rotate_left
   · cases hs
   rename_i b b2 c;split at hs <;> try cases hs
   rename_i sub s hb hb2;split at hs <;> try cases hs
   rename_i d hd;split at hs <;> cases hs
   rename_i hc;have e:=zCE hd;subst e;refine ⟨b,_,rfl,rfl,?_⟩;have hbl:b<H.length:=(q1Z.1 hb).1;have hbl2:b2<H.length:=(q1Z.1 hb2).1;have hne:b≠b2:=by rintro rfl;rw[hb]at hb2;cases hb2
   have:=zZ (H:=H) (args:=[.ptr b 0,.slice b2 0 1 1 c]) (zSS d hc s c) [b,b2] (by simp[hne]) ⟨⟨rfl,rfl⟩,⟨rfl,rfl,rfl,rfl,fun h=>h⟩,trivial⟩ ⟨by rw[q2Z,hb];exact⟨rfl,rfl⟩,hbl,by rw[q2Z,hb2];exact⟨fun h=>h,rfl,trivial⟩,hbl2,trivial⟩ rfl;simpa[zW,ABlk.own,reB,reA,ZV,zFg hb2 hne] using this
 refine ⟨zD Tryz.func130 rfl (by decide),fun args H v H' W hs=>?_,fun args H v H' W hs=>?_⟩
 · obtain⟨b,B,_,_,h⟩:=key args H v H' W hs
   exact h
 · obtain⟨b,B,rfl,rfl,_⟩:=key args H v H' W hs
   refine ⟨by simp,fun c hc hn=>?_⟩;simp only[r1Z]at hn;rw[qfZ (Ne.symm hn)]
noncomputable def zSv:Gam:=zh [(40,zDf),(38,zHm),(130,zF8),(131,zKI)]
theorem zTH:GOk Pz zSv:=zC zDW (zC zHq (zC zKx (zC zKF zB)))
theorem zAA{d:DS}{A B:Nat}(hok:d.ok A B):(∀k∈d.list,k.length<=64)/\d.list.length<=A:=by
 have h:=FD.ok_now hok.fd;unfold DS.list;split
 · exact⟨fun k hk=>by simp at hk,qqZ _⟩
 · unfold FD.names
   refine ⟨fun k hk=>h.1 k ((zU _).subset hk),?_⟩;rw[(zU _).length_eq];unfold NM.keys;rw[r7Z];exact h.2
theorem zEf{d:DS}{A B:Nat}(hok:d.ok A B)(hA:A<=1000000):zHy d.list:=by
 obtain⟨h1,h2⟩:=zAA hok;refine ⟨?_,by omega,fun s hs=>by have:=h1 s hs;omega⟩;unfold DS.list;split
 · exact List.nodup_nil
 · exact FD.names_nd hok.core.num
theorem zDw(m:Mf)(l:List (List UInt8)):(Zm m l).length<=l.length:=by
 unfold Zm;rw[(zU _).length_eq];exact List.length_filter_le _ _
theorem zQu(m:Mf)(l:List (List UInt8)){k:Nat}(hk:k<(Zm m l).length):∀h,(zBF m l)[k]'h=.str (Zm m l)[k]:=fun h=>by
 have e:(zBF m l)[k]? = some (.str (Zm m l)[k]):=by
   unfold zBF;rw[q4Z (by simpa using hk)];simp[hk]
 exact (q1Z.1 e).2
theorem zPn(m:Mf)(l:List (List UInt8)):(zBF m l).length=l.length:=by
 have:=zDw m l;unfold zBF;simp;omega
theorem zNO(s:List UInt8)(l:List (List UInt8))(d:DS):DS.drops (s::l) d=if (d.remove s).2=0 then ((DS.drops l (d.remove s).1).1,(DS.drops l (d.remove s).1).2.1+1,(DS.drops l (d.remove s).1).2.2) else ((d.remove s).1,0,(d.remove s).2):=rfl
theorem zT9(m:Mf)(hm:m.segs.length<=1000000000000)(d:DS){B:Nat}(hB:B<=1000000000000)(hok:d.ok 200000 B) :
   Ct Pz 43 [.ptr 0 0,mfA 1 m] [.obj true d.blks,.cells true (zN m.segs)] (.tuple [.int .i64 (d.sweep m).2.1,.int .i64 (d.sweep m).2.2]) [.obj true (d.sweep m).1.blks,.cells true (zN m.segs)]:=by
 have hΓ:=zTH;have hA3:∀rn:List Nat,AWs rn (zN m.segs) (zN m.segs):=fun rn=>AWs.refl _ _ (by simp);have hsm:d.small:=DS.ok_mono hok (by omega) (by omega);obtain⟨hn1,hn2⟩:=zAA hok;have hls:=zEf hok (by decide);have hol:=zDw m d.list;have hrl:=zPn m d.list;have hrf:=zDQ m d.list;have hg:=fun k hk=>zQu m d.list (k:=k) hk;have hl9:d.list.length<=1000000:=by omega
 have ht:(d.list.map AV.str).take d.list.length=d.list.map AV.str:=q6Z (by simp);have hlf:∀rn:List Nat,AWs rn (d.list.map AV.str) (d.list.map AV.str):=fun rn=>AWs.refl _ _ (zH _ _ fun _=>rfl);obtain⟨Rr,hR⟩:∃R,DS.sweep d m=R:=⟨_,rfl⟩
 rw[hR];obtain⟨R0,hR0⟩:∃R,DS.drops (Zm m d.list) d=R:=⟨_,rfl⟩
 have hsw:swE R0=Rr:=by rw[<-hR,<-hR0];rfl
 have hdo:=zLp (Zm m d.list) hok;have hsh:∀k,zAK k (zBF m d.list)=zBF m d.list:=fun k=>zv k _ hrf;obtain⟨O,hO⟩:∃O,Zm m d.list=O:=⟨_,rfl⟩
 rw[hO]at hol hg hR0 hdo;obtain⟨OR,hOR⟩:∃OR,zBF m d.list=OR:=⟨_,rfl⟩
 rw[hOR]at hrl hrf hg hsh;have hoS:∀(H:zA) (x y:AV),zEP H x=some m->zAf H y=some d.list->zHm [x,y] H=some (.sl H.length 0 O.length 1 false,H++[.cells true OR],[]):=fun H x y h1 h2=>by
   simp[zHm,zi,h1,h2,hls,hm,hO,hOR,hsh,shA,shB]
 obtain⟨L,hL⟩:∃L,O.length=L:=⟨_,rfl⟩
 have hAr:∀rn:List Nat,AWs rn OR OR:=fun rn=>AWs.refl _ _ hrf;obtain⟨v,f,nx,sg⟩:=m;simp only[mfA];dsimp only at hA3 hm ⊢;have h0:(zN sg).take (sg.length*3)=zN sg:=q6Z (by simp);have hLl:L<=200000:=by omega
 refine zE Tryz.func43 rfl ?_;simp only[Tryz.ntmps43,q7Z,q8Z,Nat.reduceAdd,Nat.reduceSub,qbZ,q9Z,qaZ];refine wS hΓ (by simp;exact wR) ?_;refine wS hΓ (by simp;exact wR) ?_;refine wS hΓ (by simp +decide [zSv,zDf,hsm,hoS,zAe,zAf,h0,ht,free];first | exact wR | exact⟨by kernel_rfl,wR⟩) ?_;refine Sim.seq (wS hΓ (by simp +decide [hL];exact wR) ?_);refine Sim.block (Sim.loopW (fun r:Nat×DS=>r.1<=L/\((DS.drops (O.drop r.1) r.2).1,(DS.drops (O.drop r.1) r.2).2.1+r.1,(DS.drops (O.drop r.1) r.2).2.2)=R0/\r.2.ok (200000+2*r.1) B)
   (fun r=>[.ptr 0 0,.top,.top,.top,.int .i64 r.1,.int .i64 0]++qbZ 9 .top++[.sl 4 0 L 1 false,.int .i64 L,.int .i64 r.1]++qbZ 20 .top)
   (fun r=>[.obj true r.2.blks,.cells true (zN sg),.cells true [.int .i64 v,.int .i64 f,.int .i64 nx,.sl 1 0 sg.length 3 false],.cells true (d.list.map .str),.cells true OR]) (fun r=>L-r.1) (0,d) (by simp) ⟨qqZ _,by rw[<-hR0];rfl,hok⟩ (wW [0,1,2,3,4] (by simp[AWb,AWg,AW,hA3,hlf,hAr])) fun r hr=>?_)
 obtain⟨k,dk⟩:=r;obtain⟨hk,hk1,hk2⟩:=hr;dsimp only at hk hk1 hk2 ⊢;have hsk:dk.small:=DS.ok_mono hk2 (by omega) (by omega);by_cases hlt:k<L
 · have hltI:(k:Int)<L:=by omega
   have hkO:k<O.length:=by omega
   have hkR:k<OR.length:=by omega
   obtain⟨s,hs⟩:∃s,O[k]=s:=⟨_,rfl⟩
   have hgk:=hg k hkO;rw[hs]at hgk;rw[List.drop_eq_getElem_cons hkO,hs,zNO]at hk1;have hok':=DS.ok_remove hk2 s;obtain⟨d',e',hrm⟩:∃d' e',dk.remove s=(d',e'):=⟨_,_,rfl⟩
   rw[hrm]at hk1 hok';dsimp only at hk1 hok';have y1:IntKind.i64.wrap ((k:Int)+1)=k+1:=zK (by omega) (by omega);refine wS hΓ (by simp[hltI];exact wR) ?_;refine wS hΓ (by simp;exact wR) ?_;refine Sim.seq (Sim.block ?_);refine wS hΓ (by simp +decide [hlt,hkR,hgk];exact wR) ?_;by_cases he:e'=0
   · subst he
     rw[if_pos rfl]at hk1;refine wS hΓ (by simp +decide [zSv,zF8,hsk,hrm];exact wR) ?_;refine wE hΓ (by simp +decide [y1];exact wT) ?_;dsimp only;refine wE hΓ (by simp +decide [y1];exact wT) ?_;refine ⟨(k+1,d'),⟨by dsimp only;omega,by rw[<-hk1];dsimp only;rw[Nat.add_assoc,Nat.add_comm 1 k],DS.ok_mono hok' (by dsimp only;omega) (qnZ _)⟩,wW [0,1,2,3,4] (by simp[AWb,AWg,AW,hA3,hlf,hAr]),by dsimp only;omega⟩
   · have heb:(e'==0)=false:=by simpa using he
     rw[if_neg he]at hk1;have hRr:Rr=(d',k,e'):=by
       rw[<-hsw,<-hk1];unfold swE;rw[if_neg (by exact he)];simp
     subst hRr;refine wE hΓ (by simp +decide [zSv,zF8,hsk,hrm,he,heb];exact wT) ?_;exact⟨.inr rfl,_,by simp[Tryz.f43] <;> rfl,wW [0,1] (by simp[AWb,AWg,AW,hA3])⟩
 · have hke:k=L:=by omega
   subst hke;rw[List.drop_of_length_le (by omega)]at hk1;have hR1:R0=(dk,k,0):=by rw[<-hk1];simp[DS.drops]
   subst hR1;unfold swE at hsw;rw[if_pos rfl]at hsw;dsimp only at hsw;refine wE hΓ (by simp;exact wT) ?_;dsimp only;rw[if_pos rfl];by_cases h9:0<k
   · rw[if_pos h9]at hsw
     have h9I:(0:Int)<k:=by omega
     obtain⟨d',e',hsy⟩:∃d' e',dk.syncDir=(d',e'):=⟨_,_,rfl⟩
     rw[hsy]at hsw;subst hsw;refine wS hΓ (by simp +decide [zSv,zKI,hsk,hsy,h9,h9I];exact wR) ?_;refine wE hΓ (by simp +decide;exact wT) ?_;exact⟨.inr rfl,_,by simp[Tryz.f43] <;> rfl,wW [0,1] (by simp[AWb,AWg,AW,hA3])⟩
   · have h0k:k=0:=by omega
     subst h0k;rw[if_neg (by omega)]at hsw;subst hsw;refine wS hΓ (by simp +decide;exact wR) ?_;refine wE hΓ (by simp +decide;exact wT) ?_;exact⟨.inr rfl,_,by simp[Tryz.f43] <;> rfl,wW [0,1] (by simp[AWb,AWg,AW,hA3])⟩
theorem zAd:∀l:List Sg,Zo (zN l)=true:=fun l=>by
 induction l with
 | nil=>rfl
 | cons x l ih=>simp only[zN,sgA,q9Z,qaZ,Zo,List.all_cons,zAs,Bool.true_and]at ih ⊢;exact ih
open Classical in
noncomputable def zM2:zS:=fun args H=>match args with
 | [.ptr b 0,.agg [.int .i64 v,.int .i64 f,.int .i64 n,.sl b2 0 L 3 _c]]=>match H[b]?,H[b2]? with
   | some (.obj true sub),some (.cells true l)=>match dsD sub,zCW l with
     | some d,some a=>if d.ok 200000 1000000000000/\a.length=L/\L<=1000000000000 then some (.tuple [.int .i64 (d.sweep ⟨v,f,n,a⟩).2.1,.int .i64 (d.sweep ⟨v,f,n,a⟩).2.2],H.set b (.obj true (d.sweep ⟨v,f,n,a⟩).1.blks),[b]) else none
     | _,_=>none
   | _,_=>none
 | _=>none
theorem zNP:Sound Pz 43 zM2:=by
 have key:∀args H v H' W,zM2 args H=some (v,H',W)->∃b B,W=[b]/\H'=H.set b B/\Ct Pz 43 args H v H':=by
   intro args H v H' W hs;unfold zM2 at hs;split at hs;rotate_left
   · cases hs
   rename_i b v f n b2 L c;split at hs <;> try cases hs
   rename_i sub l hb hb2;split at hs <;> try cases hs
   rename_i d a hd hl;split at hs <;> cases hs
   rename_i hc;obtain⟨h1,h4,h5⟩:=hc;have e:=zCE hd;have e2:=zBq hl;subst e;subst e2;subst h4
   refine ⟨b,_,rfl,rfl,?_⟩;have hbl:b<H.length:=(q1Z.1 hb).1;have hbl2:b2<H.length:=(q1Z.1 hb2).1;have hne:b≠b2:=by rintro rfl;rw[hb]at hb2;cases hb2
   have hct:=zT9 ⟨v,f,n,a⟩ h5 d (qnZ _) h1;have:=zZ (H:=H) (args:=[.ptr b 0,.agg [.int .i64 v,.int .i64 f,.int .i64 n,.sl b2 0 a.length 3 c]]) hct [b,b2] (by simp[hne]) (by simp[mfA,AWs,AW]) ⟨by rw[q2Z,hb];exact⟨rfl,rfl⟩,hbl,by rw[q2Z,hb2];exact⟨fun h=>h,zAU _ (zAd _)⟩,hbl2,trivial⟩ rfl;simpa[zW,ABlk.own,reB,reA,ZV,zFg hb2 hne,ZH _ _ (zAd _)] using this
 refine ⟨zD Tryz.func43 rfl (by decide),fun args H v H' W hs=>?_,fun args H v H' W hs=>?_⟩
 · obtain⟨b,B,_,_,h⟩:=key args H v H' W hs
   exact h
 · obtain⟨b,B,rfl,rfl,_⟩:=key args H v H' W hs
   refine ⟨by simp,fun c hc hn=>?_⟩;simp only[r1Z]at hn;rw[qfZ (Ne.symm hn)]
end
section
open Go Go.Lib Go.RowKit Go.Maps Go.Sort
attribute [-simp] zG zT zc zJ zn
def cpU:List (List UInt8)->List (List UInt8)
 | []=>[]
 | [x]=>[x]
 | x::y::l=>if x=y then cpU (y::l) else x::cpU (y::l)
theorem zK3:∀(l:List (List UInt8)) (y x:List UInt8),cpU (l++[y]++[x])=if y=x then cpU (l++[y]) else cpU (l++[y])++[x]
 | [],y,x=>by
   simp only[qaZ,q9Z,cpU];split
   · rename_i h;rw[h]
   · rfl
 | [a],y,x=>by
   simp only[qaZ,q9Z,cpU];by_cases h1:a=y
   · subst h1
     by_cases h2:a=x
     · subst h2;simp
     · simp[h2]
   · by_cases h2:y=x
     · subst h2;simp[h1]
     · simp[h1,h2]
 | a::b::l,y,x=>by
   have ih:=zK3 (b::l) y x;simp only[q9Z]at ih ⊢;simp only[cpU];by_cases h1:a=b
   · rw[if_pos h1,if_pos h1,ih]
   · rw[if_neg h1,if_neg h1,ih]
     split <;> rfl
theorem zSC{l:List (List UInt8)}{p:Nat}(h:p+1<l.length):cpU (l.take (p+2))=if l[p]=l[p+1] then cpU (l.take (p+1)) else cpU (l.take (p+1))++[l[p+1]]:=by
 have e1:l.take (p+2)=l.take p++[l[p]]++[l[p+1]]:=by
   rw[List.take_add_one,q3Z h,List.take_add_one,q3Z (by omega)];rfl
 have e2:l.take (p+1)=l.take p++[l[p]]:=by
   rw[List.take_add_one,q3Z (by omega)];rfl
 rw[e1,e2,zK3]
theorem zSL:∀l:List (List UInt8),(cpU l).length<=l.length
 | []=>qnZ _
 | [x]=>qnZ _
 | x::y::l=>by
   have:=zSL (y::l);simp only[cpU];split
   · simp only[q7Z]at this ⊢;omega
   · simp only[q7Z]at this ⊢;omega
theorem zKQ:∀(l:List (List UInt8)) (s:List UInt8),s∈cpU l↔s∈l
 | [],s=>Iff.rfl
 | [x],s=>Iff.rfl
 | x::y::l,s=>by
   have ih:=zKQ (y::l) s;simp only[cpU];split
   · rename_i h
     rw[ih];subst h;simp
   · rw[qwZ,ih,qwZ (a:=s) (b:=x)]
theorem zHF:∀(l:List (List UInt8)),l.Pairwise (fun a b=>leB a b=true)->(cpU l).Pairwise fun a b=>a<b
 | [],_=>.nil
 | [x],_=>by simp[cpU]
 | x::y::l,h=>by
   obtain⟨h1,h2⟩:=List.pairwise_cons.1 h;have ih:=zHF (y::l) h2;simp only[cpU];split
   · exact ih
   · rename_i hne
     refine List.pairwise_cons.2 ⟨fun z hz=>?_,ih⟩;rw[zKQ]at hz;have hxy:x<y:=by
       have:=h1 y (qhZ ..);simp only[leB,decide_eq_true_eq]at this;rcases Std.le_iff_lt_or_eq.1 this with h | h
       · exact h
       · exact absurd h hne
     rcases qwZ.1 hz with rfl | hz
     · exact hxy
     · have:=(List.pairwise_cons.1 h2).1 z hz
       simp only[leB,decide_eq_true_eq]at this;exact Std.lt_of_lt_of_le hxy this
theorem zOb{a b:List (List UInt8)}(ha:a.Pairwise fun x y=>x<y)(hb:b.Pairwise fun x y=>x<y)(h:∀s,s∈a↔s∈b):a=b:=by
 have nd:∀{l:List (List UInt8)},(l.Pairwise fun x y=>x<y)->l.Nodup:=fun hl=>hl.imp fun hxy e=>by subst e;exact List.lt_irrefl _ hxy
 have hp:a.Perm b:=(List.perm_ext_iff_of_nodup (nd ha) (nd hb)).2 h;exact List.Perm.eq_of_pairwise (le:=fun x y=>x<y) (fun x y _ _ h1 h2=>absurd (Std.lt_trans h1 h2) (List.lt_irrefl _)) ha hb hp
theorem zJx{l:List (List UInt8)}(h:l.Nodup):(ZI l).Pairwise fun a b=>a<b:=by
 have h1:=Ze l;have h2:(ZI l).Nodup:=(zU l).symm.nodup h;refine (h1.and h2).imp fun ⟨h3,h4⟩=>?_;simp only[leB,decide_eq_true_eq]at h3;rcases Std.le_iff_lt_or_eq.1 h3 with h | h
 · exact h
 · exact absurd h h4
theorem zP8(m:Mf){l:List (List UInt8)}(h:l.Nodup):cpU (ZI (zY m (l++l)))=Zm m l:=by
 refine zOb (zHF _ (Ze _)) (by rw[zCf];exact zJx (h.filter _)) fun s=>?_;rw[zKQ,(zU _).mem_iff,zCf,(zU _).mem_iff];unfold zY;simp
theorem zOM(m:Mf){l:List (List UInt8)}{x y:List UInt8}{t:List (List UInt8)}(h:ZI (zY m (l++l))=x::y::t):x=y:=by
 have hs:=Ze (zY m (l++l));rw[h]at hs;have hc:(zY m (l++l)).count x=(zY m l).count x+(zY m l).count x:=by unfold zY;rw[List.filter_append,List.count_append]
 have hc2:(x::y::t).count x=(zY m (l++l)).count x:=by rw[<-h];exact (zU _).count_eq x
 rw[hc,List.count_cons_self]at hc2;have hm:x∈y::t:=by
   rw[<-List.count_pos_iff];omega
 rcases qwZ.1 hm with h1 | h1
 · exact h1
 · obtain⟨h2,h3⟩:=List.pairwise_cons.1 hs
   have h4:=h2 y (qhZ ..);have h5:=(List.pairwise_cons.1 h3).1 x h1;simp only[leB,decide_eq_true_eq]at h4 h5;exact List.le_antisymm h4 h5
theorem zLs(l:List (List UInt8))(r:List AV)(c:Bool)(h2:2<=l.length)(h01:l[0]=l[1])(hl:l.length<=1000000000000)(hr:zL r=true) :
   Ct Pz 125 [.slice 0 0 l.length 1 c] [.cells true (l.map AV.str++r)] (.slice 0 0 (cpU l).length 1 false) [.cells true ((cpU l).map AV.str++qbZ (l.length-(cpU l).length) (.str [])++r)]:=by
 obtain⟨L,hL⟩:∃L,l.length=L:=⟨_,rfl⟩
 have hB0:(l.map AV.str++r).length=L+r.length:=by simp[hL]
 have g:∀(k:Nat) (h:k<l.length) (T:List AV) h',(T++(l.drop T.length).map AV.str++r)[k]'h'=if hk:k<T.length then T[k] else .str l[k]:=fun k h T h'=>by
   split
   · rename_i hk
     rw[qyZ (by simp;omega),qyZ hk]
   · rename_i hk
     rw[qyZ (by simp;omega),scZ (by omega)];simp only[List.getElem_map,List.getElem_drop]
     congr 2
     omega
 refine zE Tryz.func125 rfl ?_;rw[hL]at h2 hl ⊢;simp only[Tryz.ntmps125,q7Z,q8Z,Nat.reduceAdd,Nat.reduceSub,qbZ,q9Z,qaZ];have hL2:¬(L:Int)<2:=by omega
 have hL1:(1:Int)<L:=by omega
 have hL3:1<=L:=by omega
 have hL5:1<L:=by omega
 have hL6:0<L:=by omega
 have hL4:(1:Int)<=L:=by omega
 have hb0:0<L+r.length:=by omega
 have hb1:1<L+r.length:=by omega
 have c0:∀h,(l.map AV.str++r)[0]'h=.str l[0]:=fun h=>by rw[qyZ (by simp;omega)];simp
 have c1:∀h,(l.map AV.str++r)[1]'h=.str l[0]:=fun h=>by rw[qyZ (by simp;omega),h01];simp
 obtain⟨B,hB⟩:∃B,l.map AV.str++r=B:=⟨_,rfl⟩
 rw[hB]at hB0 c0 c1;have hBf:zL B=true:=by
   rw[<-hB];exact frees_iff.2 fun v hv=>by
     rcases qxZ.1 hv with h | h
     · obtain⟨_,_,rfl⟩:=reZ.1 h;rfl
     · exact frees_iff.1 hr v h
 have hA1:∀rn:List Nat,AWs rn B B:=fun rn=>AWs.refl _ _ hBf;have hbs:(l[0]==l[0])=true:=by simp
 rw[hB];refine wS zB (by simp;exact wR) ?_;refine wS zB (by simp[hL2];exact wR) ?_;refine Sim.seq (wS zB (by simp;exact wR) ?_);refine Sim.block (Sim.loopW (fun k:Nat=>k=1) (fun k=>[.slice 0 0 L 1 c,.top,.top,.int .i64 k]++qbZ 57 .top) (fun _=>[.cells true B]) (fun k=>L-k) 1 (by simp) rfl (wW [0] (by simp[AWg,AWb,hA1])) fun k hk=>?_);subst hk;have hw0:IntKind.i64.wrap 0=0:=zK (by omega) (by omega);refine wS zB (by simp[hL1];exact wR) ?_;refine Sim.seq (Sim.block ?_);refine wS zB (by simp +decide [hL3,hL1,hL5,hL6,hb0,hb1,hB0,c0,c1,hw0];first | exact wR | exact⟨by kernel_rfl,wR⟩) ?_;refine Sim.cond (t:=true) (by simp) ?_;rw[if_pos rfl];refine wS zB (by simp +decide [hL4,hL3,hL1];exact wR) ?_;refine Sim.seq (wS zB (by simp +decide;exact wR) ?_);refine Sim.block (Sim.loopW (fun s:Nat×Nat×List AV=>1<=s.1/\s.1+1<=L/\s.2.1<=s.1/\s.2.1=(cpU (l.take (s.1+1))).length/\s.2.2.length=L+r.length/\s.2.2.take s.2.1=(cpU (l.take (s.1+1))).map AV.str/\s.2.2.drop s.1=(l.drop s.1).map AV.str++r/\zL s.2.2=true)
   (fun s=>[.slice 0 0 L 1 c,.top,.top,.int .i64 s.2.1,.slice 0 1 (L-1) 1 c,.int .i64 s.1]++qbZ 55 .top) (fun s=>[.cells true s.2.2]) (fun s=>L-s.1) (1,1,B) (by simp) ?_ (Weak.mk' [0] (by decide) (by decide) (by simp[AWs,AW]) (by simp[AWg,AWb,hA1])) fun s hs=>?_)
 · have e:l.take 2=[l[0],l[1]]:=by
     rw[List.take_add_one,q3Z (show 1<l.length by omega),List.take_add_one,q3Z (show 0<l.length by omega)];rfl
   refine ⟨qnZ _,by dsimp only;omega,qnZ _,?_,hB0,?_,?_,hBf⟩
   · simp only[e,cpU,if_pos h01];rfl
   · simp only[e,cpU,if_pos h01]
     rw[<-hB,List.take_append_of_le_length (by simp;omega),<-List.map_take,List.take_add_one,q3Z (show 0<l.length by omega)];simp[h01]
   · rw[<-hB,List.drop_append_of_le_length (by simp;omega),List.map_drop]
 obtain⟨i,k,C⟩:=s;obtain⟨s1,s2,s3,s4,s5,s6,s7,hCf⟩:=hs;dsimp only at s1 s2 s3 s4 s5 s6 s7 hCf;dsimp only[qbZ,q9Z,qaZ];have hAC:∀rn:List Nat,AWs rn C C:=fun rn=>AWs.refl _ _ hCf;by_cases hlt:i+1<L
 · obtain⟨j,rfl⟩:∃j,i=j+1:=⟨i-1,by omega⟩
   have k1:j+2<l.length:=by omega
   have gj:∀n (hn:j+1+n<l.length),C[j+1+n]? = some (.str l[j+1+n]):=fun n hn=>by
     have:=congrArg (·[n]?) s7
     simp only[r5Z]at this;rw[this,q4Z (by simp;omega),qzZ,r5Z,q3Z hn];rfl
   have g0:C[j+1]? = some (.str l[j+1]):=gj 0 (by omega);have g1:C[j+2]? = some (.str l[j+2]):=gj 1 (by omega);have hj1:(j:Int)+1<((L-1:Nat):Int):=by omega
   have hj2:(j:Int)+1<(L:Int)-1:=by omega
   have g0':∀h,C[j+1]'h=.str l[j+1]:=fun h=>(q1Z.1 g0).2;have g1':∀h,C[j+2]'h=.str l[j+2]:=fun h=>(q1Z.1 g1).2;have e1:1+j=j+1:=by omega
   have e2:1+(j+1)=j+2:=by omega
   have m1:j+1<L-1:=by omega
   have m2:j<L-1:=by omega
   have m3:j+1<L+r.length:=by omega
   have m4:j+2<L+r.length:=by omega
   have hj0:(0:Int)<=(j:Int)+1:=by omega
   have hjt:((j:Int)+1).toNat=j+1:=by omega
   have hw:IntKind.i64.wrap ((j:Int)+1+1)=(j:Int)+1+1:=zK (by omega) (by omega);have hw1:IntKind.i64.wrap (j:Int)=(j:Int):=zK (by omega) (by omega);have hct:=zSC (l:=l) (p:=j+1) (by omega);refine wS zB (by simp[hj1,hj2];exact wR) ?_;refine Sim.seq (Sim.block ?_);by_cases hne:l[j+1]=l[j+2]
   · rw[if_pos hne]at hct
     have hbe:(l[j+2]==l[j+1])=true:=by simp[hne]
     refine wE zB (by simp +decide [m1,m2,m3,m4,s5,e1,e2,hj1,hj2,hj0,hjt,hw1,g0',g1',hne,hbe];exact wT) ?_;dsimp only;refine wE zB (by simp[hw];exact wT) ?_;exact⟨(j+2,k,C),⟨by dsimp only;omega,by dsimp only;omega,by dsimp only;omega,by dsimp only;rw[hct];exact s4,s5,by dsimp only;rw[hct];exact s6,by
       dsimp only;have:=congrArg (·.drop 1) s7
       simp only[List.drop_drop]at this;rw[this,List.drop_append_of_le_length (by simp;omega),List.map_drop,List.drop_drop,List.map_drop],hCf⟩,Weak.mk' [0] (by decide) (by decide) (by simp[AWs,AW];omega) (by simp[AWg,AWb,hAC]),by dsimp only;omega⟩
   · rw[if_neg hne]at hct
     have hne':¬l[j+2]=l[j+1]:=fun h=>hne h.symm;have hbe:(l[j+2]==l[j+1])=false:=by simpa using hne'
     have hkI:(k:Int)<L:=by omega
     have hkL:k<L:=by omega
     have hk9:k<L+r.length:=by omega
     have hk8:k+1<=L+r.length:=by omega
     have hwk:IntKind.i64.wrap ((k:Int)+1)=(k:Int)+1:=zK (by omega) (by omega);refine wE zB (by simp +decide [m1,m2,m3,m4,s5,e1,e2,hj1,hj2,hj0,hjt,hw1,g0',g1',hne',hbe,hkI,hkL,hk9,hk8,hwk];exact wT) ?_;dsimp only;refine wE zB (by simp[hw];exact wT) ?_;have hCs:C.take k++AV.str l[j+2]::C.drop (k+1)=C.set k (.str l[j+2]):=(List.set_eq_take_append_cons_drop ..).symm▸by rw[if_pos (by omega)]
     have hCf2:zL (C.set k (.str l[j+2]))=true:=frees_iff.2 fun v hv=>by
       rcases List.mem_or_eq_of_mem_set hv with h | h
       · exact frees_iff.1 hCf v h
       · rw[h];rfl
     have hAC2:∀rn:List Nat,AWs rn (C.set k (.str l[j+2])) (C.set k (.str l[j+2])):=fun rn=>AWs.refl _ _ hCf2;exact⟨(j+2,k+1,C.set k (.str l[j+2])),⟨by dsimp only;omega,by dsimp only;omega,by dsimp only;omega,by dsimp only;rw[hct,qdZ,<-s4];rfl,by simpa using s5,by
       dsimp only;rw[hct,roZ,<-s6,List.take_add_one,qgZ (by omega),List.take_set_of_le (qnZ _)];rfl,by
       dsimp only;rw[List.drop_set_of_lt (by omega)];have:=congrArg (·.drop 1) s7
       simp only[List.drop_drop]at this;rw[this,List.drop_append_of_le_length (by simp;omega),List.map_drop,List.drop_drop,List.map_drop],hCf2⟩,Weak.mk' [0] (by decide) (by decide) (by simp[AWs,AW];omega) (by simp[AWg,AWb,hAC2,hCs]),by dsimp only;omega⟩
 have hie:i+1=L:=by omega
 have hiI:¬(i:Int)<((L-1:Nat):Int):=by omega
 have hiI2:¬(i:Int)<(L:Int)-1:=by omega
 have hlt2:l.take (i+1)=l:=q6Z (by omega);rw[hlt2]at s4 s6;have hkL:k<=L:=by omega
 have hkI:(k:Int)<=L:=by omega
 have hnz:¬(L-k=0):=by omega
 have hsum:k+(L-k)=L:=by omega
 have hz1:∀n,Zf [AV.str []] n=qbZ n (.str []):=fun n=>by
   induction n with
   | zero=>rfl
   | succ n ih=>simp[Zf,ih,rvZ]
 have hCd:C.drop L=r:=by
   have:=congrArg (·.drop 1) s7
   simp only[List.drop_drop]at this;rw[hie]at this;rw[this,List.drop_append_of_le_length (by simp;omega),List.drop_of_length_le (by simp;omega)];rfl
 refine wE zB (by simp +decide [hiI,hiI2];exact wT) ?_;dsimp only;rw[if_pos rfl];refine wS zB (by simp +decide [zHM,hkL,hkI,s5,hnz,hsum,hz1,s6,hCd,zx];exact wR) ?_;refine wE zB (by simp +decide [hkL,hkI];exact wT) ?_;have hfr5:zL ((cpU l).map AV.str++qbZ (L-k) (AV.str [])++r)=true:=frees_iff.2 fun v hv=>by
   rcases qxZ.1 hv with h | h
   · rcases qxZ.1 h with h | h
     · obtain⟨_,_,rfl⟩:=reZ.1 h;rfl
     · rw[List.eq_of_mem_replicate h];rfl
   · exact frees_iff.1 hr v h
 have hA5:∀rn:List Nat,AWs rn ((cpU l).map AV.str++qbZ (L-k) (AV.str [])++r) ((cpU l).map AV.str++qbZ (L-k) (AV.str [])++r):=fun rn=>AWs.refl _ _ hfr5;rw[<-s4];simp only[qeZ]at hA5;exact⟨.inr rfl,_,by simp <;> rfl,wW [0] (by simp[AWg,AWb,hA5])⟩
open Classical in
noncomputable def zFA:zS:=fun args H=>match args with
 | [.slice b 0 n 1 _c]=>match H[b]? with
   | some (.cells true l)=>match zp (l.take n) with
     | some ss=>if n=ss.length/\ss.length<=1000000000000/\(∃x t,ss=x::x::t)/\zL (l.drop n)=true then some (.slice b 0 (cpU ss).length 1 false,H.set b (.cells true ((cpU ss).map AV.str++qbZ (ss.length-(cpU ss).length) (.str [])++l.drop n)),[b]) else none
     | none=>none
   | _=>none
 | _=>none
theorem zJ8:Sound Pz 125 zFA:=by
 have key:∀args H v H' W,zFA args H=some (v,H',W)->∃b B,W=[b]/\H'=H.set b B/\Ct Pz 125 args H v H':=by
   intro args H v H' W hs;unfold zFA at hs;split at hs <;> try cases hs
   rename_i b n c;split at hs <;> try cases hs
   rename_i l hb;split at hs <;> try cases hs
   rename_i ss hz;split at hs <;> cases hs
   rename_i hc;obtain⟨h1,h2,⟨x,t,h3⟩,h4⟩:=hc;refine ⟨b,_,rfl,rfl,?_⟩;have e0:l=ss.map AV.str++l.drop n:=by
     have:=zAL hz;rw[<-this,r6Z]
   have hlt:b<H.length:=(q1Z.1 hb).1;have hct:=zLs ss (l.drop n) c (by rw[h3];simp) (by subst h3;rfl) h2 h4;rw[<-e0,<-h1]at hct;have hfl:zL l=true:=by
     rw[e0];exact frees_iff.2 fun v hv=>by
       rcases qxZ.1 hv with h | h
       · obtain⟨_,_,rfl⟩:=reZ.1 h;rfl
       · exact frees_iff.1 h4 v h
   have hfr5:zL ((cpU ss).map AV.str++qbZ (n-(cpU ss).length) (AV.str [])++l.drop n)=true:=frees_iff.2 fun v hv=>by
     rcases qxZ.1 hv with h | h
     · rcases qxZ.1 h with h | h
       · obtain⟨_,_,rfl⟩:=reZ.1 h;rfl
       · rw[List.eq_of_mem_replicate h];rfl
     · exact frees_iff.1 h4 v h
   have:=zZ (H:=H) (args:=[.slice b 0 n 1 c]) hct [b] (by simp) (by simp[AWs,AW]) ⟨by rw[q2Z,hb];exact⟨fun h=>h,AWs.refl _ _ hfl⟩,hlt,trivial⟩ rfl;rw[<-h1];obtain⟨Z,hZ⟩:∃Z,(cpU ss).map AV.str++qbZ (n-(cpU ss).length) (AV.str [])++l.drop n=Z:=⟨_,rfl⟩
   rw[hZ]at hfr5 this ⊢;simpa[reA,Zr,zW,ABlk.own,reB,Zd _ _ hfr5] using this
 refine ⟨zD Tryz.func125 rfl (by decide),fun args H v H' W hs=>?_,fun args H v H' W hs=>?_⟩
 · obtain⟨b,B,_,_,h⟩:=key args H v H' W hs
   exact h
 · obtain⟨b,B,rfl,rfl,_⟩:=key args H v H' W hs
   refine ⟨by simp,fun c hc hn=>?_⟩;simp only[r1Z]at hn;rw[qfZ (Ne.symm hn)]
def zB8(m:Mf)(l:List (List UInt8)):List AV:=(Zm m l).map AV.str++qbZ (l.length+l.length-(Zm m l).length) (.str [])
theorem zE6(m:Mf)(l:List (List UInt8)):zL (zB8 m l)=true:=frees_iff.2 fun v hv=>by
 rcases qxZ.1 hv with h | h
 · obtain⟨_,_,rfl⟩:=reZ.1 h;rfl
 · rw[List.eq_of_mem_replicate h];rfl
theorem zQ9(m:Mf)(l:List (List UInt8))(hm:m.segs.length<=1000000000000)(hl:l.length<=1000000000000)(hs:∀s∈l,s.length<=1000000) :
   GOk Pz (zh [(122,zEs),(121,dlX m l),(124,zDM),(125,zFA)]) :=
 zC zEw (zC (zC4 (zD Tryz.func121 rfl (by decide)) (zHv m false (l.map .str) (zH _ _ fun _=>rfl) l hm hl hs) (by simp[dlH]) fun b hb hn=>by
   simp only[r1Z]at hn
   match b,hb,hn with
   | 0,_,_=>rfl
   | 1,_,_=>rfl
   | 2,_,_=>rfl
   | 3,_,hn=>exact absurd rfl hn
   | b+4,hb,_=>simp only[dlH,q7Z,q8Z]at hb;omega) (zC zDZ (zC zJ8 zB)))
theorem zRC(m:Mf)(l0:List (List UInt8))(hm:m.segs.length<=1000000000000)(hl:l0.length<=100000)(hs0:∀s∈l0,s.length<=1000000)(hnd:l0.Nodup) :
   Ct Pz 38 [mfA 0 m,.sl 1 0 (l0++l0).length 1 false] [.cells false (zN m.segs),.cells false ((l0++l0).map AV.str)] (.sl 2 0 (Zm m l0).length 1 false) [.cells false (zN m.segs),.cells false ((l0++l0).map AV.str),.cells true (zB8 m l0)]:=by
 have hA3:∀rn:List Nat,AWs rn (zN m.segs) (zN m.segs):=fun rn=>AWs.refl _ _ (by simp);by_cases h0:l0=[]
 · subst h0
   have:=zOv m [] hm (by simp) (by simp) (by simp);simpa[zBF,zB8] using this
 have ho:=zP8 m hnd;have hth:=@zOM m l0;have hle:(Zm m l0).length<=(zY m (l0++l0)).length:=by rw[<-ho];exact Nat.le_trans (zSL _) (Nat.le_of_eq (zU _).length_eq)
 obtain⟨l,hll⟩:∃l,l0++l0=l:=⟨_,rfl⟩
 have hlen:l.length=l0.length+l0.length:=by rw[<-hll,qdZ]
 have h1:l≠[]:=by rw[<-hll];simpa using h0
 have hs:∀s∈l,s.length<=1000000:=fun s h=>by rw[<-hll]at h;exact hs0 s (by simpa using h)
 unfold zB8;rw[hll]at ho hth hle ⊢;rw[<-hlen];obtain⟨O,hO⟩:∃O,Zm m l0=O:=⟨_,rfl⟩
 rw[hO]at ho hle ⊢;have hne:l.length≠0:=by simpa using h1
 have hΓ:=zQ9 m l hm (by omega) hs;have hΓ1:=zPV m l hm (by omega) hs;have hl9:l.length<=1000000000:=by omega
 have ht:(l.map AV.str).take l.length=l.map AV.str:=q6Z (by simp);have hst:zp (l.map AV.str)=some l:=Zw l;have hS:dlX m l=dlX m l:=rfl
 conv at hS=>rhs;unfold dlX dlH
 obtain⟨K,hK⟩:∃K,zY m l=K:=⟨_,rfl⟩
 have hKl:K.length<=l.length:=by rw[<-hK];exact zHw m l
 have hsl:(ZI K).length=K.length:=(zU K).length_eq;rw[hK]at hS ho hth hle;obtain⟨k,hk⟩:∃k,K.length=k:=⟨_,rfl⟩
 rw[hk]at hS hKl hsl hle;obtain⟨R,hR⟩:∃R,qbZ (l.length-k) (AV.str [])=R:=⟨_,rfl⟩
 have hRf:zL R=true:=by rw[<-hR];exact frees_iff.2 fun v hv=>by rw[List.eq_of_mem_replicate hv];rfl
 have hRl:R.length=l.length-k:=by rw[<-hR];simp
 have hfin:qbZ (k-O.length) (AV.str [])++R=qbZ (l.length-O.length) (AV.str []):=by
   rw[<-hR,List.replicate_append_replicate]
   congr 1
   omega
 rw[hR]at hS;obtain⟨B,hB⟩:∃B,K.map AV.str++R=B:=⟨_,rfl⟩
 have hBt:zp (B.take k)=some K:=by rw[<-hB,List.take_append_of_le_length (by simp[hk]),q6Z (by simp[hk]),Zw]
 have hBd:B.drop k=R:=by rw[<-hB,List.drop_append_of_le_length (by simp[hk]),List.drop_of_length_le (by simp[hk]),qaZ]
 rw[hB]at hS;obtain⟨C,hC⟩:∃C,(ZI K).map AV.str++R=C:=⟨_,rfl⟩
 have hCt:zp (C.take k)=some (ZI K):=by rw[<-hC,List.take_append_of_le_length (by simp[hsl]),q6Z (by simp[hsl]),Zw]
 have hCd:C.drop k=R:=by rw[<-hC,List.drop_append_of_le_length (by simp[hsl]),List.drop_of_length_le (by simp[hsl]),qaZ]
 have hfE:zL (O.map AV.str++qbZ (l.length-O.length) (AV.str []))=true:=frees_iff.2 fun v hv=>by
   rcases qxZ.1 hv with h | h
   · obtain⟨_,_,rfl⟩:=reZ.1 h;rfl
   · rw[List.eq_of_mem_replicate h];rfl
 have hA4:∀rn:List Nat,AWs rn (O.map AV.str++qbZ (l.length-O.length) (AV.str [])) (O.map AV.str++qbZ (l.length-O.length) (AV.str [])):=fun rn=>AWs.refl _ _ hfE;have hA1:∀rn:List Nat,AWs rn (l.map AV.str) (l.map AV.str):=fun rn=>AWs.refl _ _ (zH _ _ fun _=>rfl);have hk9:k<=1000000000:=by omega
 have hk12:k<=1000000000000:=by omega
 have hsh:zAK 3 (l.map AV.str)=l.map AV.str:=zv 3 _ (zH l AV.str fun _=>rfl);obtain⟨v,f,nx,sg⟩:=m;simp only[mfA];dsimp only at hA3 hS ⊢;refine zE Tryz.func38 rfl ?_;simp only[Tryz.ntmps38,q7Z,q8Z,Nat.reduceAdd,Nat.reduceSub,qbZ,q9Z,qaZ];refine wS hΓ (by simp;exact wR) ?_;refine wS hΓ (by simp +decide [zEs,zi,zAf,ht,hst,hne,h1,hl9,shA,shB,hsh,hS,zEK];exact wR) ?_;refine wS hΓ (by simp +decide [zDM,hBt,hBd,hk,hk9,hC];exact wR) ?_;by_cases hk0:k=0
 · have hKe:K=[]:=List.length_eq_zero_iff.1 (by omega)
   subst hKe;have hOe:O=[]:=by rw[<-ho];rfl
   subst hOe;subst hk0;have hCR:C=R:=by rw[<-hC];rfl
   have e9:qbZ (l.length-0) (AV.str [])=R:=hR;have hA5:∀rn:List Nat,AWs rn R R:=fun rn=>AWs.refl _ _ hRf;rw[hCR];refine wE hΓ1 (by simp +decide [zIO,zp,zOU,hRf];exact wT) ?_;have e8:qbZ l.length (AV.str [])=R:=by simpa using e9
   exact⟨.inr rfl,_,by simp[Tryz.f38] <;> rfl,wW [0,1,3] (by simp[AWg,AWb,hA1,hA3,hA5,e8])⟩
 · have hhead:∃x t,ZI K=x::x::t:=by
     cases hs1:ZI K with
     | nil=>rw[hs1]at hsl;simp at hsl;omega
     | cons x t =>
       cases t with
       | nil =>
         exfalso;have hp:=hs1▸(zU K)
         have hKx:K=[x]:=List.perm_singleton.1 hp.symm;have hcx:K.count x=(l0.filter fun s=>!Zp ⟨v,f,nx,sg⟩ s).count x+(l0.filter fun s=>!Zp ⟨v,f,nx,sg⟩ s).count x:=by
           rw[<-hK,<-hll];unfold zY;rw[List.filter_append,List.count_append]
         rw[hKx]at hcx;simp at hcx;omega
       | cons y t =>
         have:=hth hs1;subst this;exact⟨x,t,rfl⟩
   have hOl:(cpU (ZI K)).length=O.length:=by rw[ho]
   refine wE hΓ (by simp +decide [zFA,hCt,hCd,hsl,hk12,hhead,hRf,ho,hfin];exact wT) ?_;exact⟨.inr rfl,_,by simp[Tryz.f38] <;> rfl,wW [0,1,3] (by simp[AWg,AWb,hA1,hA3,hA4])⟩
open Classical in
noncomputable def zN2(l:List (List UInt8)):zS:=zi fun args H=>match args with
 | [x,y]=>match zEP H x,zAf H y with
   | some m,some ll=>if ll=l++l/\zHy l/\l.length<=100000/\m.segs.length<=1000000000000 then some (.sl 0 0 (Zm m l).length 1 false,[.cells true (zB8 m l)]) else none
   | _,_=>none
 | _=>none
theorem zLq(l:List (List UInt8)):Sound Pz 38 (zN2 l):=by
 refine ZQ (zD Tryz.func38 rfl (by decide)) fun args H v N h=>?_;split at h <;> try cases h
 rename_i x y;split at h <;> try cases h
 rename_i m ll hx hy;split at h <;> cases h
 rename_i hc;obtain⟨rfl,⟨c1,c2,c3⟩,c5,c4⟩:=hc;obtain⟨b1,o1,w1,g1⟩:=zFx hx;obtain⟨b2,o2,w2,g2⟩:=zBf hy;refine zB4 (H0:=[.cells false (zN m.segs),.cells false ((l++l).map AV.str)]) (args0:=[mfA 0 m,.sl 1 0 (l++l).length 1 false]) ?_ rfl [(b1,o1),(b2,o2)] ⟨w1 0 _ rfl,w2 1 _ rfl,trivial⟩ ⟨g1,by simp,g2,zH _ _ fun _=>rfl,trivial⟩;have:=zRC m l c4 c5 c3 c1;simpa[shA,shB,zv 2 _ (zE6 m l)] using this
end
section
open Go Go.Lib
attribute [-simp] zG zT zc zJ zn
noncomputable def zRG:Gam:=zh [(40,zDf),(127,mkS),(126,zJl),(38,zHm)]
theorem zT2:GOk Pz zRG:=zC zDW (zC zHN (zC zLS (zC zHq zB)))
theorem zQZ(m:Mf)(hm:m.segs.length<=1000000000000)(d:DS){B:Nat}(hB:B<=1000000000000)(hok:d.ok 200000 B) :
   Ct Pz 41 [.ptr 0 0,mfA 1 m] [.obj true d.blks,.cells true (zN m.segs)] (.bool (zEa d m)) [.obj true d.blks,.cells true (zN m.segs)]:=by
 have hΓ:=zT2;have hA3:∀rn:List Nat,AWs rn (zN m.segs) (zN m.segs):=fun rn=>AWs.refl _ _ (by simp);have hsm:d.small:=DS.ok_mono hok (by omega) (by omega);obtain⟨hn1,hn2⟩:=zAA hok;have hls:=zEf hok (by decide);have hrf:=zDQ m d.list;have hol:=zDw m d.list;have ht:(d.list.map AV.str).take d.list.length=d.list.map AV.str:=q6Z (by simp);have hlf:∀rn:List Nat,AWs rn (d.list.map AV.str) (d.list.map AV.str):=fun rn=>AWs.refl _ _ (zH _ _ fun _=>rfl);have hln:d.list.length<=9223372036854775807:=by omega
 have hsh:∀k,zAK k (zBF m d.list)=zBF m d.list:=fun k=>zv k _ hrf;unfold zEa;obtain⟨O,hO⟩:∃O,Zm m d.list=O:=⟨_,rfl⟩
 rw[hO]at hol ⊢;obtain⟨OR,hOR⟩:∃OR,zBF m d.list=OR:=⟨_,rfl⟩
 rw[hOR]at hrf hsh;have hoS:∀(H:zA) (x y:AV),zEP H x=some m->zAf H y=some d.list->zHm [x,y] H=some (.sl H.length 0 O.length 1 false,H++[.cells true OR],[]):=fun H x y h1 h2=>by
   simp[zHm,zi,h1,h2,hls,hm,hO,hOR,hsh,shA,shB]
 obtain⟨L,hL⟩:∃L,O.length=L:=⟨_,rfl⟩
 obtain⟨v,f,nx,sg⟩:=m;simp only[mfA];dsimp only at hA3 hm ⊢;have h0:(zN sg).take (sg.length*3)=zN sg:=q6Z (by simp);rw[hL];refine zE Tryz.func41 rfl ?_;simp only[Tryz.ntmps41,q7Z,q8Z,Nat.reduceAdd,Nat.reduceSub,qbZ,q9Z,qaZ];refine wS hΓ (by simp;exact wR) ?_;refine wS hΓ (by simp;exact wR) ?_;refine wS hΓ (by simp +decide [zRG,zDf,hsm];exact wR) ?_;refine Sim.seq (wS hΓ (by simp +decide;exact wR) ?_);refine Sim.block (Sim.loopW (fun k:Nat=>k<=sg.length/\(sg.all fun g=>decide (mk 4 g.1∈d.list))=((sg.drop k).all fun g=>decide (mk 4 g.1∈d.list)))
   (fun k=>[.ptr 0 0,.top,.top,.ptr 2 0,.top,.sl 3 0 d.list.length 1 false]++qbZ 7 .top++[.sl 1 0 sg.length 3 false,.int .i64 sg.length,.int .i64 k]++qbZ 15 .top)
   (fun _=>[.obj true d.blks,.cells true (zN sg),.cells true [.int .i64 v,.int .i64 f,.int .i64 nx,.sl 1 0 sg.length 3 false],.cells true (d.list.map .str)]) (fun k=>sg.length-k) 0 (by simp) ⟨qqZ _,rfl⟩ (wW [0,1,2,3] (by simp[AWb,AWg,AW,hA3,hlf])) fun k hk=>?_)
 obtain⟨hk,hk1⟩:=hk;by_cases hlt:k<sg.length
 · have hltI:(k:Int)<sg.length:=by omega
   obtain⟨s,hs⟩:∃s,sg[k]=s:=⟨_,rfl⟩
   have g1:=zEx sg k hlt;have k1:k*3+3<=sg.length*3:=by omega
   have y1:IntKind.i64.wrap ((k:Int)+1)=k+1:=zK (by omega) (by omega);rw[List.drop_eq_getElem_cons hlt]at hk1;rw[hs]at g1 hk1;obtain⟨x,y,z⟩:=s;rw[List.all_cons]at hk1;dsimp only at hk1;refine wS hΓ (by simp[hltI];exact wR) ?_;refine wS hΓ (by simp;exact wR) ?_;refine Sim.seq (Sim.block ?_);refine wS hΓ (by simp +decide [hlt,g1,k1,sgA];exact wR) ?_;by_cases hin:mk 4 x∈d.list
   · have hin2:decide (mk 4 x∈d.list)=true:=by simpa using hin
     rw[hin2,Bool.true_and]at hk1;refine wE hΓ (by simp +decide [zRG,mkS,zJl,ZD,hln,hin];exact wT) ?_;dsimp only;refine wE hΓ (by simp +decide [y1];exact wT) ?_;exact⟨k+1,⟨by omega,hk1⟩,wW [0,1,2,3] (by simp[AWb,AWg,AW,hA3,hlf]),by omega⟩
   · have hin2:decide (mk 4 x∈d.list)=false:=by simpa using hin
     rw[hin2,Bool.false_and]at hk1;rw[hk1,Bool.false_and];refine wE hΓ (by simp +decide [zRG,mkS,zJl,ZD,hln,hin];exact wT) ?_;exact⟨.inr rfl,_,by simp[Tryz.f41] <;> rfl,wW [0,1] (by simp[AWb,AWg,AW,hA3])⟩
 · have hke:k=sg.length:=by omega
   subst hke;rw[List.drop_of_length_le (qnZ _),List.all_nil]at hk1;rw[hk1,Bool.true_and];refine wE hΓ (by simp;exact wT) ?_;dsimp only;rw[if_pos rfl];refine wE hΓ (by simp +decide [zRG,hoS,zAe,zAf,h0,ht,hL];exact wT) ?_;exact⟨.inr rfl,_,by simp[Tryz.f41] <;> rfl,Weak.mk' [0,1] (by decide) (by decide) (by simp[AWs,AW];rw[Bool.eq_iff_iff];simp) (by simp[AWb,AWg,AW,hA3])⟩
open Classical in
noncomputable def zDy:zS:=fun args H=>match args with
 | [.ptr b 0,.agg [.int .i64 v,.int .i64 f,.int .i64 n,.sl b2 0 L 3 _c]]=>match H[b]?,H[b2]? with
   | some (.obj true sub),some (.cells true l)=>match dsD sub,zCW l with
     | some d,some a=>if d.ok 200000 1000000000000/\a.length=L/\L<=1000000000000 then some (.bool (zEa d ⟨v,f,n,a⟩),H,[]) else none
     | _,_=>none
   | _,_=>none
 | _=>none
theorem zKG:Sound Pz 41 zDy:=by
 have key:∀args H v H' W,zDy args H=some (v,H',W)->H'=H/\Ct Pz 41 args H v H':=by
   intro args H v H' W hs;unfold zDy at hs;split at hs;rotate_left
   · cases hs
   rename_i b v f n b2 L c;split at hs <;> try cases hs
   rename_i sub l hb hb2;split at hs <;> try cases hs
   rename_i d a hd hl;split at hs <;> cases hs
   rename_i hc;obtain⟨h1,h4,h5⟩:=hc;have e:=zCE hd;have e2:=zBq hl;subst e;subst e2;subst h4
   refine ⟨rfl,?_⟩;have hbl:b<H.length:=(q1Z.1 hb).1;have hbl2:b2<H.length:=(q1Z.1 hb2).1;have hne:b≠b2:=by rintro rfl;rw[hb]at hb2;cases hb2
   have hct:=zQZ ⟨v,f,n,a⟩ h5 d (qnZ _) h1;have:=zZ (H:=H) (args:=[.ptr b 0,.agg [.int .i64 v,.int .i64 f,.int .i64 n,.sl b2 0 a.length 3 c]]) hct [b,b2] (by simp[hne]) (by simp[mfA,AWs,AW]) ⟨by rw[q2Z,hb];exact⟨rfl,rfl⟩,hbl,by rw[q2Z,hb2];exact⟨fun h=>h,zAU _ (zAd _)⟩,hbl2,trivial⟩ rfl;have hs:H.set b (.obj true d.blks)=H:=by
     obtain⟨h1,h2⟩:=q1Z.1 hb;rw[<-h2,List.set_getElem_self]
   have hs2:H.set b2 (.cells true (zN a))=H:=by
     obtain⟨h1,h2⟩:=q1Z.1 hb2;rw[<-h2,List.set_getElem_self]
   simpa[zW,ABlk.own,reB,reA,zFg hb2 hne,ZH _ _ (zAd _),hs,hs2] using this
 refine ⟨zD Tryz.func41 rfl (by decide),fun args H v H' W hs=>?_,fun args H v H' W hs=>?_⟩
 · exact (key args H v H' W hs).2
 · have:=(key args H v H' W hs).1
   subst this;exact⟨qnZ _,fun _ _ _=>rfl⟩
end
end Go.Proofs.YtfhidaoiofeooaaGreatDoor
