/- Parts of the proof of WalTells: lemmas, each with its own conditions. -/
import Derived.Test.YtfhidaoiofeooaaGreatDoorY26
set_option maxHeartbeats 64000000
open List renaming getElem?_eq_some_iff → q1Z, getD_eq_getElem?_getD → q2Z, getElem?_eq_getElem → q3Z, getElem?_append_left → q4Z, take_of_length_le → q6Z, length_cons → q7Z, length_nil → q8Z, cons_append → q9Z, nil_append → qaZ, replicate → qbZ, getElem?_set_ne → qfZ, length_take → qjZ, mem_cons → qwZ, mem_append → qxZ, getElem_mem → r3Z, length_map → r7Z, not_mem_nil → rtZ, map_cons → s1Z, all_eq_true → s5Z
open Option renaming map_eq_some_iff → qlZ, map_some → rhZ
open Nat renaming le_refl → qnZ, zero_le → qqZ
namespace Go.Proofs.YtfhidaoiofeooaaGreatDoor
open _root_.Go.Proofs.Tryz renaming prog → Pz
set_option maxRecDepth 100000
section
open Go Go.Lib
attribute [-simp] zH zc zq zK zy
noncomputable def zLv:Gam:=zZ [(84,zCa),(21,zPL),(23,zJV),(164,zP4),(83,zG8)]
theorem zH4:GOk Pz zLv:=zB zHj (zB zI9 (zB zJf (zB zOH (zB zHa zC))))
theorem zWS(m:Int)(f n:Nat)(dn:Int)(bd:Bool)(d:DS)(hd:d.small) :
   Ct Pz 268 [.ptr 2 0] [.cells true (wlC 1 m f n dn bd),.obj true d.blks,.cells true [.ptr 0 0]] (.int .i64 (d.create (wn n)).2) [.cells true (wlC 1 m f n dn bd),.obj true (d.create (wn n)).1.blks,.cells true [.ptr 0 0]]:=by
 have hΓ:=zH4;have hk:(mk 3 (n:Int)).length<=9223372036854775807:=by have:=zJJ 3 n;omega
 obtain⟨k,hk2⟩:∃k,mk 3 (n:Int)=k:=⟨_,rfl⟩
 unfold wn;rw[hk2]at hk ⊢;refine zE Tryz.func268 rfl ?_;simp only[wlC,Tryz.ntmps268,q7Z,q8Z,Nat.reduceAdd,Nat.reduceSub,qbZ,q9Z,qaZ];refine wS hΓ (by simp;exact wR) ?_;refine Sim.seq (Sim.draw hmix (by simp) ?_);refine SimR.many hΓ 10 (by simp[zF];rfl) (by omega) (by kernel_rfl) (by simp +decide [zLv,zCa,hk2];first | exact wR | exact⟨by kernel_rfl,wR⟩) ?_;refine SimR.one hΓ _ rfl (by kernel_rfl) (by simp +decide [zLv,zPL,hd,hk];exact wR) ?_;refine SimR.many hΓ 12 (by simp[zF,zW];rfl) (by omega) (by kernel_rfl) (by simp +decide;first | exact wR | exact⟨by kernel_rfl,wR⟩) ?_;refine SimR.done rfl ?_;dsimp only;refine wE hΓ (by simp;exact wT) ?_;exact⟨.inr rfl,_,by simp[Tryz.f268] <;> rfl,wW [0,1,2] (by simp[AWb,AW])⟩
open Classical in
noncomputable def zOP:zJ:=fun args H=>match args with
 | [.ptr p 0]=>match H[p]? with
   | some (.cells true [.ptr b 0])=>match H[b]? with
     | some (.cells true l)=>match zIh l with
       | some (q,_m,_f,n,_dn,_bd)=>match H[q]? with
         | some (.obj true sub)=>match dsD sub with
           | some d=>if d.small/\p≠b/\p≠q/\b≠q then some (.int .i64 (d.create (wn n)).2,H.set q (.obj true (d.create (wn n)).1.blks),[q]) else none
           | none=>none
         | _=>none
       | none=>none
     | _=>none
   | _=>none
 | _=>none
theorem zPT:Sound Pz 268 zOP:=by
 have key:∀args H v H' W,zOP args H=some (v,H',W)->∃q C,W=[q]/\H'=H.set q C/\Ct Pz 268 args H v H':=by
   intro args H v H' W hs;unfold zOP at hs;split at hs <;> try cases hs
   rename_i p;split at hs <;> try cases hs
   rename_i b hp;split at hs <;> try cases hs
   rename_i l hb;split at hs <;> try cases hs
   rename_i q m fl n dn bd hw;split at hs <;> try cases hs
   rename_i sub hq;split at hs <;> try cases hs
   rename_i d hd;split at hs <;> cases hs
   rename_i hc;obtain⟨h1,n1,n2,n3⟩:=hc;have e:=Z7 hd;have e2:=zEm hw;subst e;subst e2
   refine ⟨q,_,rfl,rfl,?_⟩;have hpl:p<H.length:=(q1Z.1 hp).1;have hbl:b<H.length:=(q1Z.1 hb).1;have hql:q<H.length:=(q1Z.1 hq).1;have:=zP (H:=H) (args:=[.ptr p 0]) (zWS m fl n dn bd d h1) [b,q,p] (by simp[n3,Ne.symm n1,Ne.symm n2]) (by simp[AWs,AW]) ⟨by rw[q2Z,hb];simp[AWb,wlC,AW],hbl,by rw[q2Z,hq];exact⟨rfl,rfl⟩,hql,by rw[q2Z,hp];simp[AWb,AW],hpl,trivial⟩ rfl;have s1:H.set b (.cells true (wlC q m fl n dn bd))=H:=by
     obtain⟨h1,h2⟩:=q1Z.1 hb;rw[<-h2,List.set_getElem_self]
   have s2:∀C,(H.set q C).set p (.cells true [.ptr b 0])=H.set q C:=fun C=>zIX hp (Ne.symm n2);simpa[zN,ABlk.own,reB,reA,zj,wlC,zn,s2,(show H.set b (.cells true [.ptr q 0,.int .i64 m,.int .i64 fl,.int .i64 n,.int .i64 dn,.bool bd])=H from s1)] using this
 refine ⟨zD Tryz.func268 rfl (by decide),fun args H v H' W hs=>?_,fun args H v H' W hs=>?_⟩
 · obtain⟨q,C,_,_,h⟩:=key args H v H' W hs
   exact h
 · obtain⟨q,C,rfl,rfl,_⟩:=key args H v H' W hs
   refine ⟨by simp,fun c hc hn=>?_⟩;simp only[qwZ,rtZ,or_false]at hn;rw[qfZ (Ne.symm hn)]
theorem zW4(m:Int)(f n:Nat)(dn:Int)(bd:Bool)(d:DS)(hd:d.small)(hq:d.quota<=1000000000000)(s:List UInt8)(hs:s.length<=140737488355328) :
   Ct Pz 103 [.ptr 2 0,.ptr 3 0] [.cells true (wlC 1 m f n dn bd),.obj true d.blks,.cells true [.ptr 0 0],.cells true [.str s]] (.int .i64 (d.append (wn f) s).2) [.cells true (wlC 1 m f n dn bd),.obj true (d.append (wn f) s).1.blks,.cells true [.ptr 0 0],.cells true [.str s]]:=by
 have hΓ:=zH4;obtain⟨k,hk2⟩:∃k,mk 3 (f:Int)=k:=⟨_,rfl⟩
 unfold wn;rw[hk2];refine zE Tryz.func103 rfl ?_;simp only[wlC,Tryz.ntmps103,q7Z,q8Z,Nat.reduceAdd,Nat.reduceSub,qbZ,q9Z,qaZ];refine wS hΓ (by simp;exact wR) ?_;refine Sim.seq (Sim.draw hmix (by simp) ?_);refine SimR.many hΓ 12 (by simp[zF];rfl) (by omega) (by kernel_rfl) (by simp +decide [zLv,zCa,hk2];first | exact wR | exact⟨by kernel_rfl,wR⟩) ?_;refine SimR.one hΓ _ rfl (by kernel_rfl) (by simp +decide [zLv,zJV,ZY,zt,zAT,hd,hq,hs];exact wR) ?_;refine SimR.many hΓ 14 (by simp[zF,zW];rfl) (by omega) (by kernel_rfl) (by simp +decide;first | exact wR | exact⟨by kernel_rfl,wR⟩) ?_;refine SimR.done rfl ?_;dsimp only;refine wE hΓ (by simp;exact wT) ?_;exact⟨.inr rfl,_,by simp[Tryz.f103] <;> rfl,wW [0,1,2,3] (by simp[AWb,AW])⟩
open Classical in
noncomputable def zM8:zJ:=fun args H=>match args with
 | [.ptr p 0,.ptr x 0]=>match H[p]?,H[x]? with
   | some (.cells true [.ptr b 0]),some (.cells true [.str s])=>match H[b]? with
     | some (.cells true l)=>match zIh l with
       | some (q,_m,f,_n,_dn,_bd)=>match H[q]? with
         | some (.obj true sub)=>match dsD sub with
           | some d=>if d.small/\d.quota<=1000000000000/\s.length<=140737488355328/\p≠b/\p≠q/\b≠q/\x≠b/\x≠q/\x≠p then some (.int .i64 (d.append (wn f) s).2,H.set q (.obj true (d.append (wn f) s).1.blks),[q]) else none
           | none=>none
         | _=>none
       | none=>none
     | _=>none
   | _,_=>none
 | _=>none
theorem zQ4:Sound Pz 103 zM8:=by
 have key:∀args H v H' W,zM8 args H=some (v,H',W)->∃q C,W=[q]/\H'=H.set q C/\Ct Pz 103 args H v H':=by
   intro args H v H' W hs;unfold zM8 at hs;split at hs <;> try cases hs
   rename_i p x;split at hs <;> try cases hs
   rename_i b s hp hx;split at hs <;> try cases hs
   rename_i l hb;split at hs <;> try cases hs
   rename_i q m fl n dn bd hw;split at hs <;> try cases hs
   rename_i sub hq;split at hs <;> try cases hs
   rename_i d hd;split at hs <;> cases hs
   rename_i hc;obtain⟨h1,h2,h3,n1,n2,n3,n4,n5,n6⟩:=hc;have e:=Z7 hd;have e2:=zEm hw;subst e;subst e2
   refine ⟨q,_,rfl,rfl,?_⟩;have hpl:p<H.length:=(q1Z.1 hp).1;have hxl:x<H.length:=(q1Z.1 hx).1;have hbl:b<H.length:=(q1Z.1 hb).1;have hql:q<H.length:=(q1Z.1 hq).1;have:=zP (H:=H) (args:=[.ptr p 0,.ptr x 0]) (zW4 m fl n dn bd d h1 h2 s h3) [b,q,p,x] (by simp[n3,Ne.symm n1,Ne.symm n2,Ne.symm n4,Ne.symm n5,Ne.symm n6]) (by simp[AWs,AW]) ⟨by rw[q2Z,hb];simp[AWb,wlC,AW],hbl,by rw[q2Z,hq];exact⟨rfl,rfl⟩,hql,by rw[q2Z,hp];simp[AWb,AW],hpl,by rw[q2Z,hx];simp[AWb,AW],hxl,trivial⟩ rfl;have s1:H.set b (.cells true (wlC q m fl n dn bd))=H:=by
     obtain⟨h1,h2⟩:=q1Z.1 hb;rw[<-h2,List.set_getElem_self]
   have s2:∀C,(H.set q C).set p (.cells true [.ptr b 0])=H.set q C:=fun C=>zIX hp (Ne.symm n2);have s3:∀C,(H.set q C).set x (.cells true [.str s])=H.set q C:=fun C=>zIX hx (Ne.symm n5);simpa[zN,ABlk.own,reB,reA,zj,wlC,zn,s2,s3,(show H.set b (.cells true [.ptr q 0,.int .i64 m,.int .i64 fl,.int .i64 n,.int .i64 dn,.bool bd])=H from s1)] using this
 refine ⟨zD Tryz.func103 rfl (by decide),fun args H v H' W hs=>?_,fun args H v H' W hs=>?_⟩
 · obtain⟨q,C,_,_,h⟩:=key args H v H' W hs
   exact h
 · obtain⟨q,C,rfl,rfl,_⟩:=key args H v H' W hs
   refine ⟨by simp,fun c hc hn=>?_⟩;simp only[qwZ,rtZ,or_false]at hn;rw[qfZ (Ne.symm hn)]
theorem zUg(w:WL)(hd:w.d.small):Ct Pz 70 [.ptr 0 0] [wlB 1 w,.obj true w.d.blks] (.int .i64 (w.d.sync (wn w.file)).2) [wlB 1 w,.obj true (w.d.sync (wn w.file)).1.blks]:=by
 have hΓ:=zH4;obtain⟨d,m,f,n,dn,bd⟩:=w;dsimp only at hd ⊢;obtain⟨k,hk2⟩:∃k,mk 3 (f:Int)=k:=⟨_,rfl⟩
 unfold wn;rw[hk2];refine zE Tryz.func70 rfl ?_;simp only[wlB,wlC,Tryz.ntmps70,q7Z,q8Z,Nat.reduceAdd,Nat.reduceSub,qbZ,q9Z,qaZ];refine wS hΓ (by simp;exact wR) ?_;refine Sim.seq (Sim.draw hmix (by simp) ?_);refine SimR.many hΓ 10 (by simp[zF];rfl) (by omega) (by kernel_rfl) (by simp +decide [zLv,zCa,hk2];first | exact wR | exact⟨by kernel_rfl,wR⟩) ?_;refine SimR.one hΓ _ rfl (by kernel_rfl) (by simp +decide [zLv,zP4,hd];exact wR) ?_;refine SimR.many hΓ 12 (by simp[zF,zW];rfl) (by omega) (by kernel_rfl) (by simp +decide;first | exact wR | exact⟨by kernel_rfl,wR⟩) ?_;refine SimR.done rfl ?_;dsimp only;refine wE hΓ (by simp;exact wT) ?_;exact⟨.inr rfl,_,by simp[Tryz.f70] <;> rfl,wW [0,1] (by simp[AWb,AW])⟩
theorem zUW(w:WL)(hd:w.d.small):Ct Pz 109 [.ptr 0 0] [wlB 1 w,.obj true w.d.blks] (.int .i64 w.size) [wlB 1 w,.obj true w.d.blks]:=by
 have hΓ:=zH4;obtain⟨d,m,f,n,dn,bd⟩:=w;dsimp only at hd ⊢;unfold WL.size;dsimp only;refine zE Tryz.func109 rfl ?_;simp only[wlB,wlC,Tryz.ntmps109,q7Z,q8Z,Nat.reduceAdd,Nat.reduceSub,qbZ,q9Z,qaZ];refine wS hΓ (by simp;exact wR) ?_;by_cases hf:f=0
 · subst hf
   rw[if_pos rfl];refine wE hΓ (by simp +decide;exact wT) ?_;exact⟨.inr rfl,_,by simp[Tryz.f109] <;> rfl,wW [0,1] (by simp[AWb,AW])⟩
 · rw[if_neg hf]
   obtain⟨k,hk2⟩:∃k,mk 3 (f:Int)=k:=⟨_,rfl⟩
   obtain⟨z,e,hz⟩:∃z e,d.size k=(z,e):=⟨_,_,rfl⟩
   unfold wn;rw[hk2,hz];have hfI:¬(f:Int)=0:=by omega
   have hfb:((f:Int)==0)=false:=by simpa using hf
   refine wS hΓ (by simp +decide [hfb];exact wR) ?_;refine Sim.seq (Sim.draw hmix (by simp) ?_);refine SimR.many hΓ 10 (by simp[zF];rfl) (by omega) (by kernel_rfl) (by simp +decide [zLv,zCa,hk2];first | exact wR | exact⟨by kernel_rfl,wR⟩) ?_;refine SimR.one hΓ _ rfl (by kernel_rfl) (by simp +decide [zLv,zG8,hd,hz];exact wR) ?_;refine SimR.many hΓ 16 (by simp[zF,zW];rfl) (by omega) (by kernel_rfl) (by simp +decide;first | exact wR | exact⟨by kernel_rfl,wR⟩) ?_;refine SimR.done rfl ?_;dsimp only;refine wE hΓ (by simp;exact wT) ?_;exact⟨.inr rfl,_,by simp[Tryz.f109] <;> rfl,wW [0,1] (by simp[AWb,AW])⟩
abbrev zKD(m:Int)(f n:Nat)(dn:Int)(bd:Bool)(d:DS):zA:=[.cells true (wlC 1 m f n dn bd),.obj true d.blks,.cells true [.ptr 0 0],.cells true [.func 268 [] [.ptr 2 0],.func 131 [.ptr 1 0] []]]
noncomputable def zQx:Gam:=zZ [(268,zOP),(131,zLt)]
theorem zUK:GOk Pz zQx:=zB zPT (zB zMX zC)
theorem zVa(m:Int)(f n:Nat)(dn:Int)(bd:Bool)(d:DS)(h0:d.small)(h1:(d.create (wn n)).1.small) :
   Ct Pz 104 [.ptr 0 0,.slice 3 0 2 1 true] (zKD m f n dn bd d) (.int .i64 (if (d.create (wn n)).2=0 then (d.create (wn n)).1.syncDir.2 else (d.create (wn n)).2)) (if (d.create (wn n)).2=0 then zKD m f n dn bd (d.create (wn n)).1.syncDir.1 else zKD m f n dn bd (d.create (wn n)).1):=by
 refine zGp zUK 4 0 3 true (by decide) (zKD m f n dn bd d) (zKD m f n dn bd (d.create (wn n)).1) (zKD m f n dn bd (d.create (wn n)).1.syncDir.1) _ _ [] [.ptr 1 0] [.ptr 2 0] [] _ _ rfl rfl rfl rfl rfl rfl (by decide) (by decide) (fun H hH rn hr B hB=>?_) (fun X=>?_) (fun _ X=>?_)
 · have q:∀j,j<4->rn[j]? = some j:=hr
   rcases hH with rfl | rfl | rfl <;> (simp only[zKD,qwZ,rtZ,or_false]at hB;rcases hB with rfl | rfl | rfl | rfl <;> simp[wlC,AWb,AW,q])
 · simp +decide [zQx,zOP,h0]
 · simp +decide [zQx,zLt,h1]
theorem zUh(w:WL)(h0:w.d.small)(h1:(w.d.create (wn w.next)).1.small)(hn:w.next<=1000000001) :
   Ct Pz 200 [.ptr 0 0] [wlB 1 w,.obj true w.d.blks] (.int .i64 w.fresh.2) [wlB 1 w.fresh.1,.obj true w.fresh.1.d.blks]:=by
 obtain⟨d,m,f,n,dn,bd⟩:=w;dsimp only at h0 h1 hn;have hrow:=zVa m f n dn bd d h0 h1;unfold WL.fresh;dsimp only;by_cases hb:1000000000<n
 · rw[if_pos hb]
   have hbI:(1000000000:Int)<n:=by omega
   refine zE Tryz.func200 rfl ?_;simp only[wlB,wlC,Tryz.ntmps200,q7Z,q8Z,Nat.reduceAdd,Nat.reduceSub,qbZ,q9Z,qaZ];refine wS zC (by simp;exact wR) ?_;refine wE zC (by simp +decide [hbI];exact wT) ?_;exact⟨.inr rfl,_,by simp[Tryz.f200] <;> rfl,wW [0,1] (by simp[AWb,AW])⟩
 rw[if_neg hb];have hbI:¬(1000000000:Int)<n:=by omega
 obtain⟨d1,e1,hc⟩:∃d1 e1,d.create (wn n)=(d1,e1):=⟨_,_,rfl⟩
 rw[hc]at hrow ⊢;dsimp only at hrow ⊢;obtain⟨d2,e2,hs⟩:∃d2 e2,d1.syncDir=(d2,e2):=⟨_,_,rfl⟩
 rw[hs]at hrow ⊢;dsimp only at hrow ⊢;obtain⟨E,hE⟩:∃E,(if e1=0 then e2 else e1)=E:=⟨_,rfl⟩
 obtain⟨D,hD⟩:∃D,(if e1=0 then d2 else d1)=D:=⟨_,rfl⟩
 have hH:(if e1=0 then zKD m f n dn bd d2 else zKD m f n dn bd d1)=zKD m f n dn bd D:=by
   rw[<-hD];split <;> rfl
 rw[hE,hH]at hrow;have hend:(if e1=0 then (if e2=0 then ((⟨d2,m,n,n+1,dn,bd⟩:WL),(0:Int)) else (⟨d2,m,f,n,dn,bd⟩,e2)) else (⟨d1,m,f,n,dn,bd⟩,e1))=(if E=0 then ((⟨D,m,n,n+1,dn,bd⟩:WL),E) else (⟨D,m,f,n,dn,bd⟩,E)):=by
   rw[<-hE,<-hD];split
   · split
     · rename_i h;rw[h]
     · rfl
   · first | rfl | (rename_i h;rw[if_neg h])
 rw[hend];simp only[zKD,wlC]at hrow;have hΓ:GOk Pz (zZ [(104,zB7 _ _ _ _)]):=zB (ZA (zD Tryz.func104 rfl (by decide)) hrow (qnZ _)) zC;have w1:IntKind.i64.wrap ((n:Int)+1)=(n:Int)+1:=zI (by omega) (by omega);refine zE Tryz.func200 rfl ?_;simp only[wlB,wlC,Tryz.ntmps200,q7Z,q8Z,Nat.reduceAdd,Nat.reduceSub,qbZ,q9Z,qaZ];refine wS hΓ (by simp;exact wR) ?_;refine wS hΓ (by simp +decide [hbI];exact wR) ?_;refine Sim.seq (Sim.draw hmix (by simp) ?_);refine SimR.many hΓ 8 (by simp[zF];rfl) (by omega) (by kernel_rfl) (by simp +decide;first | exact wR | exact⟨by kernel_rfl,wR⟩) ?_;refine SimR.one hΓ _ rfl (by kernel_rfl) (by simp +decide;exact wR) ?_;refine SimR.many hΓ 10 (by simp[zF,zW];rfl) (by omega) (by kernel_rfl) (by simp +decide;first | exact wR | exact⟨by kernel_rfl,wR⟩) ?_;refine SimR.done rfl ?_;dsimp only;by_cases hE0:E=0
 · subst hE0
   rw[if_pos rfl];refine wS hΓ (by simp +decide [w1];first | exact wR | exact⟨by kernel_rfl,wR⟩) ?_;refine wE hΓ (by simp;exact wT) ?_;exact⟨.inr rfl,_,by simp[Tryz.f200] <;> rfl,wW [0,1] (by simp[AWb,AW])⟩
 · rw[if_neg hE0]
   have hEb:(E==0)=false:=by simpa using hE0
   refine wS hΓ (by simp +decide [hEb];exact wR) ?_;refine wE hΓ (by simp;exact wT) ?_;exact⟨.inr rfl,_,by simp[Tryz.f200] <;> rfl,wW [0,1] (by simp[AWb,AW])⟩
noncomputable def wlR(g:WL->List AV->Option AV):zJ:=fun args H=>match args with
 | .ptr b 0::xs=>match H[b]? with
   | some (.cells true l)=>match zIh l with
     | some (q,m,f,n,dn,bd)=>match H[q]? with
       | some (.obj true sub)=>match dsD sub with
         | some d=>match g ⟨d,m,f,n,dn,bd⟩ xs with
           | some v=>some (v,H,[])
           | none=>none
         | none=>none
       | _=>none
     | none=>none
   | _=>none
 | _=>none
theorem zB1{f:FuncId}{g:WL->List AV->Option AV}(he:∀cargs w,(callFunc f cargs).run Pz w=.ok (.enter f cargs) w)
   (h:∀w xs v,g w xs=some v->zV xs=true/\(∀k,reA k v=v)/\Ct Pz f (.ptr 0 0::xs) [wlB 1 w,.obj true w.d.blks] v [wlB 1 w,.obj true w.d.blks]):Sound Pz f (wlR g):=by
 have hw:Sound Pz f (wlS fun w xs=>(g w xs).map fun v=>(w,v)):=zCt he fun w xs w' v hg=>by
   obtain⟨v',h1,h2⟩:=qlZ.1 hg;cases h2;exact h w xs v h1
 have key:∀args H v H' W,wlR g args H=some (v,H',W)->H'=H/\W=[]/\Ct Pz f args H v H:=by
   intro args H v H' W hs;unfold wlR at hs;split at hs <;> try cases hs
   rename_i b xs;split at hs <;> try cases hs
   rename_i l hb;split at hs <;> try cases hs
   rename_i q m fl n dn bd hwl;split at hs <;> try cases hs
   rename_i sub hq;split at hs <;> try cases hs
   rename_i d hd;split at hs <;> cases hs
   rename_i hg;refine ⟨rfl,rfl,?_⟩;have e:=Z7 hd;have e2:=zEm hwl;subst e;subst e2
   have:=hw.ct (.ptr b 0::xs) H v ((H.set b (wlB q ⟨d,m,fl,n,dn,bd⟩)).set q (.obj true d.blks)) [b,q] (by
     unfold wlS;simp only[hb,zUu,hq,zOK,hg,rhZ])
   have s1:H.set b (wlB q ⟨d,m,fl,n,dn,bd⟩)=H:=by
     obtain⟨h1,h2⟩:=q1Z.1 hb;show H.set b (.cells true (wlC q m fl n dn bd))=H;rw[<-h2,List.set_getElem_self]
   have s2:H.set q (.obj true d.blks)=H:=by
     obtain⟨h1,h2⟩:=q1Z.1 hq;rw[<-h2,List.set_getElem_self]
   rw[s1,s2]at this;exact this
 refine ⟨he,fun args H v H' W hs=>?_,fun args H v H' W hs=>?_⟩
 · obtain⟨rfl,_,h⟩:=key args H v H' W hs
   exact h
 · obtain⟨rfl,_,_⟩:=key args H v H' W hs
   exact⟨qnZ _,fun _ _ _=>rfl⟩
open Classical in
noncomputable def zGc:zJ:=wlS fun w xs=>match xs with
 | []=>if w.d.small/\(w.d.create (wn w.next)).1.small/\w.next<=1000000001 then some (w.fresh.1,.int .i64 w.fresh.2) else none
 | _=>none
theorem zFg:Sound Pz 200 zGc:=by
 refine zCt (zD Tryz.func200 rfl (by decide)) fun w xs w' v hg=>?_;split at hg;rotate_left
 · cases hg
 split at hg <;> cases hg
 rename_i hs;exact⟨rfl,fun _=>rfl,zUh w hs.1 hs.2.1 hs.2.2⟩
open Classical in
noncomputable def zGC:zJ:=wlS fun w xs=>match xs with
 | []=>if w.d.small then some (⟨(w.d.sync (wn w.file)).1,w.most,w.file,w.next,w.done,w.bad⟩,.int .i64 (w.d.sync (wn w.file)).2) else none
 | _=>none
theorem zFr:Sound Pz 70 zGC:=by
 refine zCt (zD Tryz.func70 rfl (by decide)) fun w xs w' v hg=>?_;split at hg;rotate_left
 · cases hg
 split at hg <;> cases hg
 rename_i hs;exact⟨rfl,fun _=>rfl,zUg w hs⟩
open Classical in
noncomputable def zHB:zJ:=wlR fun w xs=>match xs with
 | []=>if w.d.small then some (.int .i64 w.size) else none
 | _=>none
theorem zHN:Sound Pz 109 zHB:=by
 refine zB1 (zD Tryz.func109 rfl (by decide)) fun w xs v hg=>?_;split at hg;rotate_left
 · cases hg
 split at hg <;> cases hg
 rename_i hs;exact⟨rfl,fun _=>rfl,zUW w hs⟩
theorem zSY(w:WL)(e:Int):Ct Pz 69 [.ptr 0 0,.int .i64 e] [wlB 1 w,.obj true w.d.blks] (.int .i64 e) [wlB 1 ⟨w.d,w.most,w.file,w.next,w.done,decide (e≠0)⟩,.obj true w.d.blks]:=by
 have he:(e != 0)=decide (e≠0):=by by_cases h:e=0 <;> simp[h]
 refine zL Tryz.func69 rfl ?_;simp only[wlB,wlC,Tryz.ntmps69,q7Z,q8Z,Nat.reduceAdd,Nat.reduceSub,qbZ,q9Z,qaZ];refine wE zC (by simp +decide;exact wT) ?_;exact⟨.inr rfl,by simp[Tryz.f69],by simp[he]⟩
noncomputable def zFy:zJ:=wlS fun w xs=>match xs with
 | [.int .i64 e]=>some (⟨w.d,w.most,w.file,w.next,w.done,decide (e≠0)⟩,.int .i64 e)
 | _=>none
theorem zGT:Sound Pz 69 zFy:=by
 refine zCt (zD Tryz.func69 rfl (by decide)) fun w xs w' v hg=>?_;split at hg <;> cases hg
 exact⟨rfl,fun _=>rfl,zSY w _⟩
theorem zZF(w:WL):Ct Pz 68 [.ptr 0 0] [wlB 1 w,.obj true w.d.blks] (.int .i64 (if w.bad=true then 11 else 0)) [wlB 1 w,.obj true w.d.blks]:=by
 obtain⟨d,m,f,n,dn,bd⟩:=w;refine zL Tryz.func68 rfl ?_;simp only[wlB,wlC,Tryz.ntmps68,q7Z,q8Z,Nat.reduceAdd,Nat.reduceSub,qbZ,q9Z,qaZ];cases bd with
 | true =>
   refine wE zC (by simp +decide;exact wT) ?_;exact⟨.inr rfl,by simp[Tryz.f68],by simp⟩
 | false =>
   refine wE zC (by simp +decide;exact wT) ?_;exact⟨.inr rfl,by simp[Tryz.f68],by simp⟩
noncomputable def zKH:zJ:=wlR fun w xs=>match xs with
 | []=>some (.int .i64 (if w.bad=true then 11 else 0))
 | _=>none
theorem zEk:Sound Pz 68 zKH:=by
 refine zB1 (zD Tryz.func68 rfl (by decide)) fun w xs v hg=>?_;split at hg <;> cases hg
 exact⟨rfl,fun _=>rfl,zZF w⟩
noncomputable def zP8:Gam:=zZ [(70,zGC),(200,zGc)]
theorem zTG:GOk Pz zP8:=zB zFr (zB zFg zC)
abbrev rdH(w:WL):zA:=[wlB 1 w,.obj true w.d.blks,.cells true [.func 70 [.ptr 0 0] [],.func 200 [.ptr 0 0] []]]
abbrev WL.synced(w:WL):WL:=⟨(w.d.sync (wn w.file)).1,w.most,w.file,w.next,w.done,w.bad⟩
theorem zXD(w:WL)(h0:w.d.small)(h1:w.synced.d.small)(h2:(w.synced.d.create (wn w.next)).1.small)(hn:w.next<=1000000001) :
   Ct Pz 104 [.ptr 0 0,.slice 2 0 2 1 true] (rdH w) (.int .i64 (if (w.d.sync (wn w.file)).2=0 then w.synced.fresh.2 else (w.d.sync (wn w.file)).2)) (if (w.d.sync (wn w.file)).2=0 then rdH w.synced.fresh.1 else rdH w.synced):=by
 refine zGp zTG 3 0 2 true (by decide) (rdH w) (rdH w.synced) (rdH w.synced.fresh.1) _ _ [.ptr 0 0] [.ptr 0 0] [] [] _ _ rfl rfl rfl rfl rfl rfl (by decide) (by decide) (fun H hH rn hr B hB=>?_) (fun X=>?_) (fun _ X=>?_)
 · have q:∀j,j<3->rn[j]? = some j:=hr
   rcases hH with rfl | rfl | rfl <;> (simp only[rdH,qwZ,rtZ,or_false]at hB;rcases hB with rfl | rfl | rfl <;> simp[wlC,AWb,AW,q])
 · simp +decide [zP8,zGC,wlS,h0]
 · simp +decide [zP8,zGc,wlS,h1,h2,hn]
theorem zVV(w:WL){A B:Nat}(hok:w.d.ok A B)(hA:A+10<=900000)(hB:B<=1000000000000)(hn:w.next<=1000000001) :
   Ct Pz 105 [.ptr 0 0] [wlB 1 w,.obj true w.d.blks] (.int .i64 w.ready.2) [wlB 1 w.ready.1,.obj true w.ready.1.d.blks]:=by
 have h0:w.d.small:=DS.ok_mono hok (by omega) (by omega);have h1:w.synced.d.small:=DS.ok_mono (DS.ok_sync hok _) (by omega) (by omega);have h2:(w.d.create (wn w.next)).1.small:=DS.ok_mono (DS.ok_create hok _) (by omega) (by omega);have h3:(w.synced.d.create (wn w.next)).1.small:=DS.ok_mono (DS.ok_create (DS.ok_sync hok (wn w.file)) _) (by omega) (by omega);have hn1:w.next<=1000000001:=by omega
 have hrow:=zXD w h0 h1 h3 hn1;obtain⟨sz,hsz⟩:∃sz,w.size=sz:=⟨_,rfl⟩
 obtain⟨W0,hW0⟩:∃W0,w.fresh=W0:=⟨_,rfl⟩
 obtain⟨w0,e0⟩:=W0;obtain⟨ws,hws⟩:∃ws,w.synced=ws:=⟨_,rfl⟩
 obtain⟨es,hes⟩:∃es,(w.d.sync (wn w.file)).2=es:=⟨_,rfl⟩
 have hrd:w.ready=if w.file=0 then (w0,e0) else if w.most<=sz then (if es=0 then ws.fresh else (ws,es)) else (w,0):=by
   unfold WL.ready;rw[hsz,hW0,hes,<-hws]
 rw[hws,hes]at hrow;obtain⟨E,hE⟩:∃E,(if es=0 then ws.fresh.2 else es)=E:=⟨_,rfl⟩
 obtain⟨V,hV⟩:∃V,(if es=0 then ws.fresh.1 else ws)=V:=⟨_,rfl⟩
 have hH:(if es=0 then rdH ws.fresh.1 else rdH ws)=rdH V:=by rw[<-hV];split <;> rfl
 have hVE:(if es=0 then ws.fresh else (ws,es))=(V,E):=by rw[<-hV,<-hE];split <;> rfl
 rw[hE,hH]at hrow;rw[hVE]at hrd;rw[hrd];clear hrd hVE hH hV hE hes hws h1 h3;obtain⟨d,m,f,n,dn,bd⟩:=w;obtain⟨dV,mV,fV,nV,dnV,bdV⟩:=V;obtain⟨d0,m0,f0,n0,dn0,bd0⟩:=w0;simp only[rdH,wlB,wlC]at hrow;dsimp only at h0 h2 hn hn1 hsz hW0 ⊢;have hΓ:GOk Pz (zZ [(109,zHB),(200,zGc),(104,zB7 _ _ _ _)]):=zB zHN (zB zFg (zB (ZA (zD Tryz.func104 rfl (by decide)) hrow (qnZ _)) zC));refine zE Tryz.func105 rfl ?_;simp only[wlB,wlC,Tryz.ntmps105,q7Z,q8Z,Nat.reduceAdd,Nat.reduceSub,qbZ,q9Z,qaZ];refine wS hΓ (by simp;exact wR) ?_;by_cases hf:f=0
 · subst hf
   rw[if_pos rfl];refine wE hΓ (by simp +decide [zGc,wlS,h0,h2,hn1,hW0];exact wT) ?_;exact⟨.inr rfl,_,by simp[Tryz.f105] <;> rfl,wW [0,1] (by simp[AWb,AW,wlC])⟩
 · rw[if_neg hf]
   have hfI:¬(f:Int)=0:=by omega
   have hfb:((f:Int)==0)=false:=by simpa using hf
   refine Sim.seq (Sim.block ?_);refine wS hΓ (by simp +decide;exact wR) ?_;by_cases hm:m<=sz
   · rw[if_pos hm]
     refine wE hΓ (by simp +decide [hfb,zHB,wlR,h0,hsz,hm];exact wT) ?_;exact⟨.inr rfl,_,by simp[Tryz.f105] <;> rfl,wW [0,1] (by simp[AWb,AW])⟩
   · rw[if_neg hm]
     refine wE hΓ (by simp +decide [hfb,zHB,wlR,h0,hsz,hm];exact wT) ?_;dsimp only;refine wE hΓ (by simp;exact wT) ?_;exact⟨.inr rfl,_,by simp[Tryz.f105] <;> rfl,wW [0,1] (by simp[AWb,AW])⟩
open Classical in
noncomputable def zL4:zJ:=wlS fun w xs=>match xs with
 | []=>if w.d.ok 800000 500000000000/\w.next<=1000000001 then some (w.ready.1,.int .i64 w.ready.2) else none
 | _=>none
theorem zMk:Sound Pz 105 zL4:=by
 refine zCt (zD Tryz.func105 rfl (by decide)) fun w xs w' v hg=>?_;split at hg;rotate_left
 · cases hg
 split at hg <;> cases hg
 rename_i hs;exact⟨rfl,fun _=>rfl,zVV w hs.1 (by omega) (by omega) hs.2⟩
noncomputable def zUO:Gam:=zZ [(105,zL4),(103,zM8)]
theorem zVF:GOk Pz zUO:=zB zMk (zB zQ4 zC)
abbrev apH(w:WL)(R S:ABlk)(s:List UInt8):zA:=[wlB 1 w,.obj true w.d.blks,R,.cells true [.ptr 0 0],S,.cells true [.str s],.cells true [.func 105 [.ptr 0 0] [],.func 103 [] [.ptr 3 0,.ptr 5 0]]]
abbrev WL.appd(w:WL)(s:List UInt8):WL:=⟨(w.d.append (wn w.file) s).1,w.most,w.file,w.next,w.done,w.bad⟩
theorem zXz(w:WL)(h0:w.d.ok 800000 500000000000)(hn:w.next<=1000000001)(s:List UInt8)(hs:s.length<=140737488355328)(h1:w.ready.1.d.small)(hq:w.ready.1.d.quota<=1000000000000)(R S:ABlk)(hR:∀rn:List Nat,AWb rn R R)(hS:∀rn:List Nat,AWb rn S S) :
   Ct Pz 104 [.ptr 0 0,.slice 6 0 2 1 true] (apH w R S s) (.int .i64 (if w.ready.2=0 then (w.ready.1.d.append (wn w.ready.1.file) s).2 else w.ready.2)) (if w.ready.2=0 then apH (w.ready.1.appd s) R S s else apH w.ready.1 R S s):=by
 refine zGp zVF 7 0 6 true (by decide) (apH w R S s) (apH w.ready.1 R S s) (apH (w.ready.1.appd s) R S s) _ _ [.ptr 0 0] [] [] [.ptr 3 0,.ptr 5 0] _ _ rfl rfl rfl rfl rfl rfl (by decide) (by decide) (fun H hH rn hr B hB=>?_) (fun X=>?_) (fun _ X=>?_)
 · have q:∀j,j<7->rn[j]? = some j:=hr
   rcases hH with rfl | rfl | rfl <;> (simp only[apH,qwZ,rtZ,or_false]at hB;rcases hB with rfl | rfl | rfl | rfl | rfl | rfl | rfl <;> first | exact hR rn | exact hS rn | simp[wlC,AWb,AW,q])
 · simp +decide [zUO,zL4,wlS,h0,hn]
 · simp +decide [zUO,zM8,h1,hq,hs]
theorem zYo(w:WL)(s:List UInt8){e1 e2 E:Int}{w1:WL}{D d':DS}(h1:w.ready=(w1,e1))(h2:w1.d.append (wn w1.file) s=(d',e2))(hE:(if e1=0 then e2 else e1)=E)(hD:(if e1=0 then d' else w1.d)=D) :
   w.add s=if E=0 then (⟨D,w1.most,w1.file,w1.next,w1.done+1,false⟩,0) else (⟨D,w1.most,w1.file,w1.next,w1.done,true⟩,E):=by
 unfold WL.add;rw[h1];dsimp only;rw[h2];dsimp only;subst hE;subst hD
 by_cases h:e1=0
 · simp only[h,if_true]
 · simp only[h,if_false]
theorem fresh_next(w:WL):w.fresh.1.next<=w.next+1:=by
 unfold WL.fresh;split
 · dsimp only;omega
 split
 · split
   · exact qnZ _
   · dsimp only;omega
 · dsimp only;omega
theorem ready_next(w:WL):w.ready.1.next<=w.next+1:=by
 unfold WL.ready;split
 · exact fresh_next w
 split
 · split
   · exact fresh_next ⟨(w.d.sync (wn w.file)).1,w.most,w.file,w.next,w.done,w.bad⟩
   · dsimp only;omega
 · dsimp only;omega
theorem zHX{w:WL}(h:w.next<=1000000001):w.fresh.1.next<=1000000001:=by
 unfold WL.fresh;split
 · exact h
 split
 · split
   · dsimp only;omega
   · exact h
 · exact h
theorem zNz{w:WL}(h:w.next<=1000000001):w.ready.1.next<=1000000001:=by
 unfold WL.ready;split
 · exact zHX h
 split
 · split
   · exact zHX (w:=⟨(w.d.sync (wn w.file)).1,w.most,w.file,w.next,w.done,w.bad⟩) h
   · exact h
 · exact h
theorem zLT{w:WL}(h:w.next<=1000000001)(s:List UInt8):(w.add s).1.next<=1000000001:=by
 have:=zNz h;unfold WL.add;split
 · split
   · exact this
   · exact this
 · exact this
theorem fresh_done(w:WL):w.fresh.1.done=w.done:=by
 unfold WL.fresh;split
 · rfl
 split
 · split <;> rfl
 · rfl
theorem ready_done(w:WL):w.ready.1.done=w.done:=by
 unfold WL.ready;split
 · exact fresh_done w
 split
 · split
   · exact fresh_done ⟨(w.d.sync (wn w.file)).1,w.most,w.file,w.next,w.done,w.bad⟩
   · rfl
 · rfl
theorem zPd(w:WL)(hb:w.bad=false){A B:Nat}(hok:w.d.ok A B)(hq:w.d.quota<=1048576)(o:Bool)(l:List AV)(hfl:zV l=true)(off n:Nat)(c:Bool)(hoff:off+n*3<=l.length)(es:List En)(hes:zDo ((l.drop off).take (n*3))=some es)(he:∀e∈es,okE e)(hln:es.length<=1000)
   (hA:A+6*es.length+10<=800000) (hB:B+1048576*es.length<=400000000000) (hnx:w.next<=1000000001) (hdn:0<=w.done/\w.done<=1000000000) :
   Ct Pz 26 [.ptr 0 0,.sl 2 off n 3 c] [wlB 1 w,.obj true w.d.blks,.cells o l] (.int .i64 (w.adds (es.map frE)).2) [wlB 1 (w.adds (es.map frE)).1,.obj true (w.adds (es.map frE)).1.d.blks,.cells o l]:=by
 obtain⟨W,hW⟩:∃W,w.adds (es.map frE)=W:=⟨_,rfl⟩
 rw[hW];obtain⟨L,hL⟩:∃L,es.length=L:=⟨_,rfl⟩
 have hA1:∀rn:List Nat,AWs rn l l:=fun rn=>AWs.refl _ _ hfl;have hfs:zV (zAp es)=true:=zCn es;have hA2:∀rn:List Nat,AWs rn (zAp es) (zAp es):=fun rn=>AWs.refl _ _ hfs;have hfl2:(zAp es).length=L:=by rw[zEK,hL]
 have hmay:GOk Pz (zZ [(68,zKH),(102,zMj)]):=zB zEk (zB zMV zC);have he1:zZN es:=he;rw[hL]at hln hA hB;refine zE Tryz.func26 rfl ?_;obtain⟨d0,m0,f0,n0,dn0,bd0⟩:=w;dsimp only at hb hok hq hnx hdn;subst hb;simp only[wlB,wlC,Tryz.ntmps26,q7Z,q8Z,Nat.reduceAdd,Nat.reduceSub,qbZ,q9Z,qaZ];refine wS hmay (by simp;exact wR) ?_;refine wS hmay (by simp +decide [zKH,wlR];exact wR) ?_;refine wS hmay (by simp +decide [zMj,zGu,hoff,hes,he1,hL,hln,zAe 4 _ hfs,shA,zA9,shB];exact wR) ?_;refine wS hmay (by simp +decide;exact wR) ?_;refine Sim.seq (wS hmay (by simp +decide;exact wR) ?_);refine Sim.block (Sim.loopW (fun r:Nat×WL=>r.1<=L/\r.2.adds ((es.drop r.1).map frE)=W/\r.2.d.ok (A+6*r.1) (B+1048576*r.1)/\r.2.d.quota<=1048576/\r.2.next<=1000000001/\r.2.bad=false/\0<=r.2.done/\r.2.done<=dn0+r.1)
   (fun r=>[.ptr 0 0,.top,.ptr 3 0,.top,.top,.top,.top,.top,.top,.top,.top,.top]++qbZ 13 .top++[.sl 4 0 L 1 false,.int .i64 L,.int .i64 r.1]++qbZ 23 .top)
   (fun r=>[wlB 1 r.2,.obj true r.2.d.blks,.cells o l,.cells true [.ptr 0 0],.cells true (zAp es)]) (fun r=>L-r.1) (0,⟨d0,m0,f0,n0,dn0,false⟩) (by simp) ⟨qqZ _,hW,by simpa using hok,hq,hnx,rfl,hdn.1,by simp⟩ (wW [0,1,2,3,4] (by simp[AWb,AW,wlC,hA1,hA2])) fun r hr=>?_)
 obtain⟨k,wk⟩:=r;obtain⟨hk,hk1,hk2,hk3,hk4,hk5,hk8,hk9⟩:=hr;dsimp only at hk hk1 hk2 hk3 hk4 hk5 hk8 hk9 ⊢;by_cases hlt:k<L
 · have hltI:(k:Int)<L:=by omega
   have hke:k<es.length:=by omega
   obtain⟨e,hee⟩:∃e,es[k]=e:=⟨_,rfl⟩
   have hdr:es.drop k=e::es.drop (k+1):=by rw[List.drop_eq_getElem_cons hke,hee]
   rw[hdr,s1Z]at hk1;obtain⟨s,hs⟩:∃s,frE e=s:=⟨_,rfl⟩
   have hsl:s.length<=140737488355328:=by have:=zQK e;rw[hs]at this;omega
   rw[hs]at hk1;have hg:∀h,(zAp es)[k]'h=.str s:=fun h=>by simp only[zAp,List.getElem_map,hee,hs]
   have y1:IntKind.i64.wrap ((k:Int)+1)=k+1:=zI (by omega) (by omega);have k6:wk.d.ok 800000 500000000000:=DS.ok_mono hk2 (by omega) (by omega);have k7:wk.next<=1000000001:=hk4;obtain⟨r1,r2⟩:=zKE hk2 hk3;have a1:=zL5 hk2 hk3 s;have a2:=zLT hk4 s;have a3:=ready_done wk;have hrow:=zXz wk k6 k7 s hsl (DS.ok_mono r1 (by omega) (by omega)) (by rw[r2];omega) (.cells o l) (.cells true (zAp es)) (fun rn=>⟨id,hA1 rn⟩) (fun rn=>⟨id,hA2 rn⟩);obtain⟨w1,e1,hw1⟩:∃w1 e1,wk.ready=(w1,e1):=⟨_,_,rfl⟩
   obtain⟨d',e2,hd'⟩:∃d' e2,w1.d.append (wn w1.file) s=(d',e2):=⟨_,_,rfl⟩
   obtain⟨E,hE⟩:∃E,(if e1=0 then e2 else e1)=E:=⟨_,rfl⟩
   obtain⟨D,hD⟩:∃D,(if e1=0 then d' else w1.d)=D:=⟨_,rfl⟩
   have hadd:=zYo wk s hw1 hd' hE hD;rw[hw1]at hrow a3;dsimp only at hrow a3;have hH:(if e1=0 then apH (w1.appd s) (.cells o l) (.cells true (zAp es)) s else apH w1 (.cells o l) (.cells true (zAp es)) s)=apH ⟨D,w1.most,w1.file,w1.next,w1.done,w1.bad⟩ (.cells o l) (.cells true (zAp es)) s:=by
     rw[<-hD];unfold WL.appd;rw[hd'];split <;> rfl
   rw[hd']at hrow;dsimp only at hrow;rw[hE,hH]at hrow;clear hH hD hE hd' hw1 r1 r2;obtain⟨dk,mk0,fk,nk,dnk,bdk⟩:=wk;obtain⟨d1,m1,f1,n1,dn1,bd1⟩:=w1;dsimp only at hk5 hadd a2 a3 hk4 hk8 hk9;subst hk5;subst a3;simp only[apH,wlB,wlC]at hrow;have hΓ:GOk Pz (zZ [(104,zB7 _ _ _ _),(69,zFy)]):=zB (ZA (zD Tryz.func104 rfl (by decide)) hrow (qnZ _)) (zB zGT zC);dsimp only[wlB,wlC];refine wS hΓ (by simp[hltI];exact wR) ?_;refine wS hΓ (by simp;exact wR) ?_;refine Sim.seq (Sim.block ?_);refine wS hΓ (by simp +decide [hlt,hfl2,hg];exact wR) ?_;refine wS hΓ (by simp +decide;exact wR) ?_;refine Sim.seq (Sim.seq (Sim.draw hmix (by simp) ?_));refine SimR.hard hΓ 6 62 _ rfl (by simp[zF];rfl) (by omega) (by kernel_rfl) (by kernel_rfl) (by simp +decide;exact wT) (by kernel_rfl) (by simp +decide [zC8,List.range,List.range.loop];rfl) (by simp +decide;exact wR) (by simp +decide [zFN,zMN,ZN,List.range,List.range.loop]) ?_;refine SimR.one hΓ _ rfl (by kernel_rfl) (by simp +decide [zFy,wlS];exact wR) ?_;refine SimR.many hΓ 9 (by simp[zF,zW];rfl) (by omega) (by kernel_rfl) (by simp +decide;first | exact wR | exact⟨by kernel_rfl,wR⟩) ?_;refine SimR.done rfl ?_;dsimp only;unfold WL.adds at hk1;rw[hadd]at hk1 a1 a2;by_cases hE0:E=0
   · subst hE0
     rw[if_pos rfl]at hk1 a1 a2;rw[if_pos rfl]at hk1;dsimp only at a1 a2;have y2:IntKind.i64.wrap (dn1+1)=dn1+1:=zI (by omega) (by omega);refine wE hΓ (by simp +decide;exact wT) ?_;dsimp only;refine wE hΓ (by simp +decide [wlC,y2];exact wT) ?_;dsimp only;refine wE hΓ (by simp[y1];exact wT) ?_;refine ⟨(k+1,⟨D,m1,f1,n1,dn1+1,false⟩),⟨by dsimp only;omega,hk1,DS.ok_mono a1.1 (by dsimp only;omega) (by dsimp only;omega),by dsimp only;rw[a1.2];exact hk3,by dsimp only;omega,rfl,by dsimp only;omega,by dsimp only;omega⟩,?_,by dsimp only;omega⟩;exact wW [0,1,2,3,4] (by simp[AWb,AW,hA1,hA2])
   · rw[if_neg hE0]at hk1
     rw[if_neg (show ¬(_,E).2=0 from hE0)]at hk1;have hEb:(E==0)=false:=by simpa using hE0
     have hEn:(E != 0)=true:=by simpa using hE0
     subst hk1;refine wE hΓ (by simp +decide [hE0,hEn];exact wT) ?_;exact⟨.inr rfl,_,by simp[Tryz.f26] <;> rfl,wW [0,1,2] (by simp[AWb,AW,wlC,hA1])⟩
 · have hke:k=L:=by omega
   subst hke;rw[List.drop_of_length_le (by omega)]at hk1;have hWe:W=(wk,0):=hk1.symm;subst hWe;obtain⟨dk,mk0,fk,nk,dnk,bdk⟩:=wk;refine wE zC (by simp;exact wT) ?_;dsimp only;rw[if_pos rfl];refine wE zC (by simp;exact wT) ?_;exact⟨.inr rfl,_,by simp[Tryz.f26] <;> rfl,wW [0,1,2] (by simp[AWb,AW,wlC,hA1])⟩
theorem zN3(w:WL)(hb:w.bad=true)(o:Bool)(l:List AV)(hfl:zV l=true)(off n:Nat)(c:Bool) :
   Ct Pz 26 [.ptr 0 0,.sl 2 off n 3 c] [wlB 1 w,.obj true w.d.blks,.cells o l] (.int .i64 11) [wlB 1 w,.obj true w.d.blks,.cells o l]:=by
 have hA1:∀rn:List Nat,AWs rn l l:=fun rn=>AWs.refl _ _ hfl;have hmay:GOk Pz (zZ [(68,zKH)]):=zB zEk zC;refine zE Tryz.func26 rfl ?_;obtain⟨d0,m0,f0,n0,dn0,bd0⟩:=w;dsimp only at hb;subst hb;simp only[wlB,wlC,Tryz.ntmps26,q7Z,q8Z,Nat.reduceAdd,Nat.reduceSub,qbZ,q9Z,qaZ];refine wS hmay (by simp;exact wR) ?_;refine wE hmay (by simp +decide [zKH,wlR];exact wT) ?_;exact⟨.inr rfl,_,by simp[Tryz.f26] <;> rfl,wW [0,1,2] (by simp[AWb,AW,hA1])⟩
structure WOk (w:WL) (_k:Nat):Prop where
 ok:w.d.ok 700000 300000000000
 quota:w.d.quota<=1048576
 next:w.next<=1000000001
 done:0<=w.done/\w.done<=1000000000
def WL.syncs(w:WL):WL×Int:=if w.bad=true then (w,11) else w.sync
noncomputable def zWr:Gam:=zZ [(68,zKH),(70,zGC),(69,zFy)]
theorem zWa:GOk Pz zWr:=zB zEk (zB zFr (zB zGT zC))
theorem zSm(w:WL)(hd:w.d.small):Ct Pz 12 [.ptr 0 0] [wlB 1 w,.obj true w.d.blks] (.int .i64 w.syncs.2) [wlB 1 w.syncs.1,.obj true w.syncs.1.d.blks]:=by
 have hΓ:=zWa;obtain⟨d,m,f,n,dn,bd⟩:=w;dsimp only at hd;refine zE Tryz.func12 rfl ?_;unfold WL.syncs WL.sync;dsimp only;simp only[wlB,wlC,Tryz.ntmps12,q7Z,q8Z,Nat.reduceAdd,Nat.reduceSub,qbZ,q9Z,qaZ];refine wS hΓ (by simp;exact wR) ?_;cases bd with
 | true =>
   rw[if_pos rfl];refine wE hΓ (by simp +decide [zWr,zKH,wlR];exact wT) ?_;exact⟨.inr rfl,_,by simp[Tryz.f12] <;> rfl,wW [0,1] (by simp[AWb,AW])⟩
 | false =>
   rw[if_neg (by decide)];by_cases hf:f=0
   · subst hf
     rw[if_pos rfl];refine wE hΓ (by simp +decide [zWr,zKH,wlR];exact wT) ?_;exact⟨.inr rfl,_,by simp[Tryz.f12] <;> rfl,wW [0,1] (by simp[AWb,AW])⟩
   · rw[if_neg hf]
     have hfI:¬(f:Int)=0:=by omega
     have hfb:((f:Int)==0)=false:=by simpa using hf
     obtain⟨d',e,hs⟩:∃d' e,d.sync (wn f)=(d',e):=⟨_,_,rfl⟩
     rw[hs];dsimp only;refine wE hΓ (by simp +decide [zWr,zKH,wlR,zGC,wlS,zFy,wlC,hfb,hd,hs];exact wT) ?_;exact⟨.inr rfl,_,by simp[Tryz.f12] <;> rfl,wW [0,1] (by simp[AWb,AW,wlC])⟩
open Classical in
noncomputable def zIO:zJ:=wlS fun w xs=>match xs with
 | []=>if w.d.small then some (w.syncs.1,.int .i64 w.syncs.2) else none
 | _=>none
theorem zMw:Sound Pz 12 zIO:=by
 refine zCt (zD Tryz.func12 rfl (by decide)) fun w xs w' v hg=>?_;split at hg;rotate_left
 · cases hg
 split at hg <;> cases hg
 rename_i hs;exact⟨rfl,fun _=>rfl,zSm w hs⟩
theorem zVq(w:WL):Ct Pz 107 [.ptr 0 0] [wlB 1 w,.obj true w.d.blks] (.int .i64 w.file) [wlB 1 w,.obj true w.d.blks]:=by
 refine zL Tryz.func107 rfl ?_;simp only[wlB,wlC,Tryz.ntmps107,q7Z,q8Z,Nat.reduceAdd,Nat.reduceSub,qbZ,q9Z,qaZ];refine wE zC (by simp +decide;exact wT) ?_;exact⟨.inr rfl,by simp[Tryz.f107],rfl⟩
noncomputable def zQf:zJ:=wlR fun w xs=>match xs with
 | []=>some (.int .i64 w.file)
 | _=>none
theorem zOw:Sound Pz 107 zQf:=by
 refine zB1 (zD Tryz.func107 rfl (by decide)) fun w xs v hg=>?_;split at hg <;> cases hg
 exact⟨rfl,fun _=>rfl,zVq w⟩
theorem zV5(w:WL):Ct Pz 108 [.ptr 0 0] [wlB 1 w,.obj true w.d.blks] (.int .i64 w.next) [wlB 1 w,.obj true w.d.blks]:=by
 refine zL Tryz.func108 rfl ?_;simp only[wlB,wlC,Tryz.ntmps108,q7Z,q8Z,Nat.reduceAdd,Nat.reduceSub,qbZ,q9Z,qaZ];refine wE zC (by simp +decide;exact wT) ?_;exact⟨.inr rfl,by simp[Tryz.f108],rfl⟩
noncomputable def zPz:zJ:=wlR fun w xs=>match xs with
 | []=>some (.int .i64 w.next)
 | _=>none
theorem zPH:Sound Pz 108 zPz:=by
 refine zB1 (zD Tryz.func108 rfl (by decide)) fun w xs v hg=>?_;split at hg <;> cases hg
 exact⟨rfl,fun _=>rfl,zV5 w⟩
theorem zVj(w:WL):Ct Pz 112 [.ptr 0 0] [wlB 1 w,.obj true w.d.blks] (.int .i64 w.done) [wlB 1 w,.obj true w.d.blks]:=by
 refine zL Tryz.func112 rfl ?_;simp only[wlB,wlC,Tryz.ntmps112,q7Z,q8Z,Nat.reduceAdd,Nat.reduceSub,qbZ,q9Z,qaZ];refine wE zC (by simp +decide;exact wT) ?_;exact⟨.inr rfl,by simp[Tryz.f112],rfl⟩
noncomputable def zPa:zJ:=wlR fun w xs=>match xs with
 | []=>some (.int .i64 w.done)
 | _=>none
theorem zNX:Sound Pz 112 zPa:=by
 refine zB1 (zD Tryz.func112 rfl (by decide)) fun w xs v hg=>?_;split at hg <;> cases hg
 exact⟨rfl,fun _=>rfl,zVj w⟩
theorem zWl(w:WL):Ct Pz 111 [.ptr 0 0] [wlB 1 w,.obj true w.d.blks] (.bool w.bad) [wlB 1 w,.obj true w.d.blks]:=by
 refine zL Tryz.func111 rfl ?_;simp only[wlB,wlC,Tryz.ntmps111,q7Z,q8Z,Nat.reduceAdd,Nat.reduceSub,qbZ,q9Z,qaZ];refine wE zC (by simp +decide;exact wT) ?_;exact⟨.inr rfl,by simp[Tryz.f111],rfl⟩
noncomputable def zVu:zJ:=wlR fun w xs=>match xs with
 | []=>some (.bool w.bad)
 | _=>none
theorem zRB:Sound Pz 111 zVu:=by
 refine zB1 (zD Tryz.func111 rfl (by decide)) fun w xs v hg=>?_;split at hg <;> cases hg
 exact⟨rfl,fun _=>rfl,zWl w⟩
def Zl:zJ:=fun args H=>match args with
 | [.ptr q 0,.int .i64 n,.int .i64 m]=>if q<H.length then (if 1<=n/\n<=1000000000/\1<=m then some (.ptr H.length 0,H++[.cells true [.ptr q 0,.int .i64 m,.int .i64 0,.int .i64 n,.bool false,.int .i64 0]],[]) else some (.nilp,H,[])) else none
 | [.nilp,.int .i64 _n,.int .i64 _m]=>some (.nilp,H,[])
 | _=>none
theorem zBq:Sound Pz 11 Zl:=by
 refine ⟨zD Tryz.func11 rfl (by decide),fun args H v H' W hs=>?_,fun args H v H' W hs=>?_⟩ <;> (unfold Zl at hs;split at hs <;> try cases hs)
 · rename_i q n m
   split at hs <;> try cases hs
   split at hs <;> cases hs
   · rename_i hc
     obtain⟨h2,h3,h4⟩:=hc;have g1:¬n<1:=by omega
     have g2:¬1000000000<n:=by omega
     have g3:¬m<1:=by omega
     refine zL Tryz.func11 rfl ?_;simp only[Tryz.ntmps11,q7Z,q8Z,Nat.reduceAdd,Nat.reduceSub,qbZ,q9Z,qaZ];refine wE zC (by simp +decide [g1,g2,g3];exact wT) ?_;exact⟨.inr rfl,by simp[Tryz.f11],rfl⟩
   · rename_i hc
     refine zL Tryz.func11 rfl ?_;simp only[Tryz.ntmps11,q7Z,q8Z,Nat.reduceAdd,Nat.reduceSub,qbZ,q9Z,qaZ];by_cases g1:n<1
     · refine wE zC (by simp +decide [g1];exact wT) ?_
       exact⟨.inr rfl,by simp[Tryz.f11],rfl⟩
     by_cases g2:1000000000<n
     · refine wE zC (by simp +decide [g1,g2];exact wT) ?_
       exact⟨.inr rfl,by simp[Tryz.f11],rfl⟩
     have g3:m<1:=by omega
     refine wE zC (by simp +decide [g1,g2,g3];exact wT) ?_;exact⟨.inr rfl,by simp[Tryz.f11],rfl⟩
 · refine zL Tryz.func11 rfl ?_
   simp only[Tryz.ntmps11,q7Z,q8Z,Nat.reduceAdd,Nat.reduceSub,qbZ,q9Z,qaZ];refine wE zC (by simp +decide;exact wT) ?_;exact⟨.inr rfl,by simp[Tryz.f11],rfl⟩
 · rename_i q n m
   split at hs <;> try cases hs
   split at hs <;> cases hs
   · exact⟨by simp,fun c hc _=>by rw[q4Z hc]⟩
   · exact⟨qnZ _,fun _ _ _=>rfl⟩
 · exact⟨qnZ _,fun _ _ _=>rfl⟩
def zAI:zJ:=fun args H=>match args with
 | [.ptr q 0,.int .i64 n,.int .i64 m]=>if q<H.length then (if 1<=n/\n<=1000000000/\1<=m then some (.ptr H.length 0,H++[.cells true [.ptr q 0,.int .i64 m,.int .i64 0,.int .i64 n,.int .i64 0,.bool false]],[]) else some (.nilp,H,[])) else none
 | [.nilp,.int .i64 _n,.int .i64 _m]=>some (.nilp,H,[])
 | _=>none
theorem zCS:Sound Pz 10 zAI:=by
 refine ⟨zD Tryz.func10 rfl (by decide),fun args H v H' W hs=>?_,fun args H v H' W hs=>?_⟩ <;> (unfold zAI at hs;split at hs <;> try cases hs)
 · rename_i q n m
   split at hs <;> try cases hs
   split at hs <;> cases hs
   · rename_i hc
     obtain⟨h2,h3,h4⟩:=hc;have g1:¬n<1:=by omega
     have g2:¬1000000000<n:=by omega
     have g3:¬m<1:=by omega
     refine zL Tryz.func10 rfl ?_;simp only[Tryz.ntmps10,q7Z,q8Z,Nat.reduceAdd,Nat.reduceSub,qbZ,q9Z,qaZ];refine wE zC (by simp +decide [g1,g2,g3];exact wT) ?_;exact⟨.inr rfl,by simp[Tryz.f10],rfl⟩
   · rename_i hc
     refine zL Tryz.func10 rfl ?_;simp only[Tryz.ntmps10,q7Z,q8Z,Nat.reduceAdd,Nat.reduceSub,qbZ,q9Z,qaZ];by_cases g1:n<1
     · refine wE zC (by simp +decide [g1];exact wT) ?_
       exact⟨.inr rfl,by simp[Tryz.f10],rfl⟩
     by_cases g2:1000000000<n
     · refine wE zC (by simp +decide [g1,g2];exact wT) ?_
       exact⟨.inr rfl,by simp[Tryz.f10],rfl⟩
     have g3:m<1:=by omega
     refine wE zC (by simp +decide [g1,g2,g3];exact wT) ?_;exact⟨.inr rfl,by simp[Tryz.f10],rfl⟩
 · refine zL Tryz.func10 rfl ?_
   simp only[Tryz.ntmps10,q7Z,q8Z,Nat.reduceAdd,Nat.reduceSub,qbZ,q9Z,qaZ];refine wE zC (by simp +decide;exact wT) ?_;exact⟨.inr rfl,by simp[Tryz.f10],rfl⟩
 · rename_i q n m
   split at hs <;> try cases hs
   split at hs <;> cases hs
   · exact⟨by simp,fun c hc _=>by rw[q4Z hc]⟩
   · exact⟨qnZ _,fun _ _ _=>rfl⟩
 · exact⟨qnZ _,fun _ _ _=>rfl⟩
def WL.appends2(w:WL)(es:List En):WL×Int:=if w.bad=true then (w,11) else if es.all (fun e=>okW e.1)=true then w.adds (es.map frE) else (w,7)
theorem zRC(es:List En)(h:zGX es)(hb:es.all (fun e=>okW e.1)=false)(hl:es.length<=1000) :
   Ct Pz 102 [.sl 0 0 es.length 3 false] [.cells false (zb es)] (.tuple [.nils,.int .i64 7]) [.cells false (zb es)]:=by
 have hΓ:=zSG;obtain⟨L,hL⟩:∃L,es.length=L:=⟨_,rfl⟩
 refine zE Tryz.func102 rfl ?_;rw[hL]at hl ⊢;simp only[Tryz.ntmps102,q7Z,q8Z,Nat.reduceAdd,Nat.reduceSub,qbZ,q9Z,qaZ];have hfe:=ZD es;have hA1:∀rn:List Nat,AWs rn (zb es) (zb es):=fun rn=>AWs.refl _ _ hfe;refine wS hΓ (by simp;exact wR) ?_;refine wS hΓ (by simp;exact wR) ?_;refine Sim.seq (wS hΓ (by simp;exact wR) ?_);refine Sim.block (Sim.loopW (fun k:Nat=>k<=L/\∀i (hi:i<es.length),i<k->okW es[i].1=true) (fun k=>[.top,.top,.top,.top,.sl 1 0 k 1 false,.top,.top,.top,.top,.top,.sl 0 0 L 3 false,.int .i64 L,.int .i64 k]++qbZ 23 .top)
   (fun k=>[.cells false (zb es),.cells true (zAp (es.take k))]) (fun k=>L-k) 0 (by simp) ⟨qqZ _,fun i hi h=>absurd h (by omega)⟩ (wW [0,100] (by simp[AWb])) fun k hk=>?_)
 obtain⟨hk,hk1⟩:=hk;by_cases hlt:k<L;rotate_left
 · exfalso
   have:es.all (fun e=>okW e.1)=true:=by
     rw[s5Z];intro e he;obtain⟨i,hi,rfl⟩:=List.getElem_of_mem he;exact hk1 i hi (by omega)
   rw[hb]at this;cases this
 have hltI:(k:Int)<L:=by omega
 have hke:k<es.length:=by omega
 obtain⟨e,he⟩:∃e,es[k]=e:=⟨_,rfl⟩
 have g:=zGW es k hke;rw[he]at g;obtain⟨a1,a2⟩:=h e (by rw[<-he];exact r3Z hke);obtain⟨R,hR⟩:∃R,zAp (es.take k)=R:=⟨_,rfl⟩
 have hRl:R.length=k:=by rw[<-hR,zEK,qjZ];omega
 have hRf:zV R=true:=by rw[<-hR];exact zCn _
 have hRt:R.take k=R:=q6Z (by omega);have k3:k*3+3<=L*3:=by omega
 by_cases hw:okW e.1=true
 · have hok:okE e:=⟨hw,a1,a2⟩
   obtain⟨p,hp⟩:∃p,(zCJ e).1=p:=⟨_,rfl⟩
   have hpo:=zGZ hok;have hput:zCJ e=(p,0):=Prod.ext hp hpo.2;have hpl:p.length<=1000000000:=by have:=hpo.1.2;rw[hp]at this;omega
   obtain⟨s,hs⟩:∃s,frE e=s:=⟨_,rfl⟩
   have hfp:Fr.put p=(s,0):=by
     refine Prod.ext ?_ ?_
     · rw[<-hs,<-hp];rfl
     · rw[<-hp];exact (Fr.put_ok _).2 hpo.1
   have hnext:zAp (es.take (k+1))=zAp (es.take k)++[AV.str s]:=by
     rw[List.take_add_one,q3Z hke,he];simp[zAp,hs]
   rw[hR]at hnext ⊢;have y1:IntKind.i64.wrap ((k:Int)+1)=k+1:=zI (by omega) (by omega);have b1:(k+1)*16<=140737488355328:=by omega
   have b2:k+1<=9223372036854775807:=by omega
   obtain⟨ew,en,eg⟩:=e;simp only[enA]at g;refine wS hΓ (by simp[hltI];exact wR) ?_;refine wS hΓ (by simp;exact wR) ?_;refine Sim.seq (Sim.block ?_);refine wS hΓ (by simp +decide [hlt,hL,g,k3];exact wR) ?_;refine wS hΓ (by simp +decide [zTZ,zGB,a1,hput];exact wR) ?_;refine wS hΓ (by simp +decide;exact wR) ?_;refine wS hΓ (by simp +decide [zTZ,zJ6,hpl,hfp];exact wR) ?_;refine wE hΓ (by simp +decide [hRl,hRt,b1,b2];exact wT) ?_;dsimp only;refine wE hΓ (by simp[y1];exact wT) ?_;refine ⟨k+1,⟨by omega,fun i hi h=>?_⟩,?_,by omega⟩
   · by_cases hik:i=k
     · subst hik;rw[he];exact hw
     · exact hk1 i hi (by omega)
   rw[hnext];have hR1:∀rn:List Nat,AWs rn (R++[AV.str s]) (R++[AV.str s]):=fun rn=>AWs.refl _ _ (frees_iff.2 fun v hv=>by
     rcases qxZ.1 hv with h | h
     · exact frees_iff.1 hRf v h
     · simp at h;subst h;rfl)
   exact wW [0,4] (by simp[AWb,hR1])
 · have hw':okW e.1=false:=by simpa using hw
   have hput:zCJ e=([],7):=by
     obtain⟨ew,en,eg⟩:=e;unfold zCJ;dsimp only at hw' ⊢;rw[hw'];rfl
   rw[hR];obtain⟨ew,en,eg⟩:=e;simp only[enA]at g;refine wS hΓ (by simp[hltI];exact wR) ?_;refine wS hΓ (by simp;exact wR) ?_;refine Sim.seq (Sim.block ?_);refine wS hΓ (by simp +decide [hlt,hL,g,k3];exact wR) ?_;refine wS hΓ (by simp +decide [zTZ,zGB,a1,hput];exact wR) ?_;refine wE hΓ (by simp +decide;exact wT) ?_;exact⟨.inr rfl,_,by simp[Tryz.f102] <;> rfl,wW [0] (by simp[AWb,hA1])⟩
open Classical in
noncomputable def zJr:zJ:=ZS fun args H=>match args with
 | [x]=>match zGu H x with
   | some es=>if zGX es/\es.all (fun e=>okW e.1)=false/\es.length<=1000 then some (.tuple [.nils,.int .i64 7]) else none
   | none=>none
 | _=>none
theorem zKf:Sound Pz 102 zJr:=by
 refine Zm (zD Tryz.func102 rfl (by decide)) fun args H v h=>?_;split at h <;> try cases h
 rename_i x;split at h <;> try cases h
 rename_i es hx;split at h <;> cases h
 rename_i hc;obtain⟨b1,o1,w1,g1⟩:=zIl hx;exact zIu (zRC es hc.1 hc.2.1 hc.2.2) rfl [(b1,o1)] ⟨w1 0 _ rfl,trivial⟩ ⟨g1,ZD _,trivial⟩
noncomputable def zVr:Gam:=zZ [(68,zKH),(102,zJr)]
theorem zT3:GOk Pz zVr:=zB zEk (zB zKf zC)
theorem zOk(w:WL)(hb:w.bad=false)(o:Bool)(es:List En)(h:zGX es)(h7:es.all (fun e=>okW e.1)=false)(hl:es.length<=1000)(c:Bool) :
   Ct Pz 26 [.ptr 0 0,.sl 2 0 es.length 3 c] [wlB 1 w,.obj true w.d.blks,.cells o (zb es)] (.int .i64 7) [wlB 1 w,.obj true w.d.blks,.cells o (zb es)]:=by
 have hfe:=ZD es;have hA1:∀rn:List Nat,AWs rn (zb es) (zb es):=fun rn=>AWs.refl _ _ hfe;have hmay:=zT3;obtain⟨L,hL⟩:∃L,es.length=L:=⟨_,rfl⟩
 have elo:(zb es).length=L*3:=by rw[Z4,hL]
 have z1:zDo ((zb es).take (L*3))=some es:=by rw[<-elo,List.take_length];exact zFR es
 rw[hL]at hl ⊢;refine zE Tryz.func26 rfl ?_;obtain⟨d0,m0,f0,n0,dn0,bd0⟩:=w;dsimp only at hb;subst hb;simp only[wlB,wlC,Tryz.ntmps26,q7Z,q8Z,Nat.reduceAdd,Nat.reduceSub,qbZ,q9Z,qaZ];refine wS hmay (by simp;exact wR) ?_;refine wS hmay (by simp +decide [zVr,zKH,wlR];exact wR) ?_;refine wS hmay (by simp +decide [zVr,zJr,ZS,zGu,elo,z1,h,h7,hL,hl];exact wR) ?_;refine wE hmay (by simp +decide;exact wT) ?_;exact⟨.inr rfl,_,by simp[Tryz.f26] <;> rfl,wW [0,1,2] (by simp[AWb,AW,hA1])⟩
theorem zOE(w:WL)(o:Bool)(es:List En)(h:zGX es)(hl:es.length<=1000)(hk:WOk w es.length)(c:Bool) :
   Ct Pz 26 [.ptr 0 0,.sl 2 0 es.length 3 c] [wlB 1 w,.obj true w.d.blks,.cells o (zb es)] (.int .i64 (w.appends2 es).2) [wlB 1 (w.appends2 es).1,.obj true (w.appends2 es).1.d.blks,.cells o (zb es)]:=by
 unfold WL.appends2;split
 · rename_i hb
   exact zN3 w hb o _ (ZD es) 0 es.length c
 rename_i hb;have hb:w.bad=false:=by simpa using hb
 split
 · rename_i ha
   have elo:=Z4 es;exact zPd w hb hk.ok hk.quota o (zb es) (ZD es) 0 es.length c (by omega) es (by rw[List.drop_zero,<-elo,List.take_length];exact zFR es) (fun e he=>⟨s5Z.1 ha e he,h e he⟩) hl (by omega) (by omega) hk.next hk.done
 · rename_i ha
   exact zOk w hb o es h (eq_false_of_ne_true ha) hl c
open Classical in
noncomputable def zGl:zJ:=fun args H=>match args with
 | [.ptr b 0,.sl e 0 n 3 _c]=>match H[b]?,H[e]? with
   | some (.cells true l),some (.cells _o r)=>match zIh l with
     | some (q,m,f,nx,dn,bd)=>match H[q]? with
       | some (.obj true sub)=>match dsD sub,zDo r with
         | some d,some es=>if n=es.length/\zGX es/\es.length<=1000/\WOk ⟨d,m,f,nx,dn,bd⟩ es.length/\b≠e then
             some (.int .i64 ((⟨d,m,f,nx,dn,bd⟩:WL).appends2 es).2,(H.set b (wlB q ((⟨d,m,f,nx,dn,bd⟩:WL).appends2 es).1)).set q (.obj true ((⟨d,m,f,nx,dn,bd⟩:WL).appends2 es).1.d.blks),[b,q]) else none
         | _,_=>none
       | _=>none
     | none=>none
   | _,_=>none
 | _=>none
theorem zO9:Sound Pz 26 zGl:=by
 have key:∀args H v H' W,zGl args H=some (v,H',W)->∃b q B C,W=[b,q]/\H'=(H.set b B).set q C/\Ct Pz 26 args H v H':=by
   intro args H v H' W hs;unfold zGl at hs;split at hs <;> try cases hs
   rename_i b e n c;split at hs <;> try cases hs
   rename_i l o r hb he;split at hs <;> try cases hs
   rename_i q m f nx dn bd hw;split at hs <;> try cases hs
   rename_i sub hq;split at hs <;> try cases hs
   rename_i d es hd hes;split at hs <;> cases hs
   rename_i hc;obtain⟨rfl,h1,h2,h3,hbe⟩:=hc;have e1:=Z7 hd;have e2:=zEm hw;have e3:=zGi hes;subst e1;subst e2;subst e3
   refine ⟨b,q,_,_,rfl,rfl,?_⟩;have hbl:b<H.length:=(q1Z.1 hb).1;have hel:e<H.length:=(q1Z.1 he).1;have hql:q<H.length:=(q1Z.1 hq).1;have hne:b≠q:=by rintro rfl;rw[hb]at hq;cases hq
   have hne2:q≠e:=by rintro rfl;rw[he]at hq;cases hq
   have hct:=zOE ⟨d,m,f,nx,dn,bd⟩ o es h1 h2 h3 c;obtain⟨⟨⟨d',m',f',n',dn',bd'⟩,v'⟩,hw'⟩:∃w',(⟨d,m,f,nx,dn,bd⟩:WL).appends2 es=w':=⟨_,rfl⟩
   rw[hw']at hct ⊢;have:=zP (H:=H) (args:=[.ptr b 0,.sl e 0 es.length 3 c]) hct [b,q,e] (by simp[hne,hbe,hne2]) (by simp[AWs,AW]) ⟨by rw[q2Z,hb];simp[AWb,wlB,wlC,AW],hbl,by rw[q2Z,hq];exact⟨rfl,rfl⟩,hql,by rw[q2Z,he];exact⟨by simp,AWs.refl _ _ (ZD es)⟩,hel,trivial⟩ rfl;have re:∀g,zj g (zb es)=zb es:=fun g=>zBD g _ (ZD es);have se:∀A C:ABlk,(((H.set b A).set q C).set e (.cells true (zb es)))=if o=true then (H.set b A).set q C else (((H.set b A).set q C).set e (.cells true (zb es))):=fun A C=>by
     cases o with
     | true =>
       rw[if_pos rfl];have:((H.set b A).set q C)[e]? = some (.cells true (zb es)):=by rw[qfZ hne2,qfZ hbe];exact he
       obtain⟨k1,k2⟩:=q1Z.1 this;rw[<-k2,List.set_getElem_self]
     | false=>rfl
   cases o with
   | true =>
     have se1:=fun A C=>se A C;simp only[if_true]at se1;simpa[zN,ABlk.own,reB,reA,zj,wlB,wlC,zn,re,se1] using this
   | false=>simpa[zN,ABlk.own,reB,reA,zj,wlB,wlC,zn,re] using this
 refine ⟨zD Tryz.func26 rfl (by decide),fun args H v H' W hs=>?_,fun args H v H' W hs=>?_⟩
 · obtain⟨b,q,B,C,_,_,h⟩:=key args H v H' W hs
   exact h
 · obtain⟨b,q,B,C,rfl,rfl,_⟩:=key args H v H' W hs
   refine ⟨by simp,fun c hc hn=>?_⟩;simp only[qwZ,rtZ,or_false,not_or]at hn;rw[qfZ (Ne.symm hn.2),qfZ (Ne.symm hn.1)]
theorem zI4:∀(l:List (List UInt8)) {w:WL},w.next<=1000000001->(w.adds l).1.next<=1000000001
 | [],_,h=>h
 | s::l,w,h=>by
   have h1:=zLT h s;unfold WL.adds;split
   · exact zI4 l h1
   · exact h1
theorem zT2(w:WL)(s:List UInt8):w.done<=(w.add s).1.done/\(w.add s).1.done<=w.done+1:=by
 have:=ready_done w;unfold WL.add;split
 · split
   · dsimp only;omega
   · dsimp only;omega
 · dsimp only;omega
theorem zKn:∀(l:List (List UInt8)) (w:WL),w.done<=(w.adds l).1.done/\(w.adds l).1.done<=w.done+l.length
 | [],w=>⟨Int.le_refl _,by simp[WL.adds]⟩
 | s::l,w=>by
   have h1:=zT2 w s;unfold WL.adds;split
   · have:=zKn l (w.add s).1
     simp only[q7Z];omega
   · simp only[q7Z]
     omega
theorem zIp(w:WL):w.fresh.1.most=w.most:=by
 unfold WL.fresh;split
 · rfl
 split
 · split <;> rfl
 · rfl
theorem zPc(w:WL):w.ready.1.most=w.most:=by
 unfold WL.ready;split
 · exact zIp w
 split
 · split
   · exact zIp ⟨(w.d.sync (wn w.file)).1,w.most,w.file,w.next,w.done,w.bad⟩
   · rfl
 · rfl
theorem zVJ(w:WL)(s:List UInt8):(w.add s).1.most=w.most:=by
 have:=zPc w;unfold WL.add;split
 · split
   · exact this
   · exact this
 · exact this
theorem zLU:∀(l:List (List UInt8)) (w:WL),(w.adds l).1.most=w.most
 | [],_=>rfl
 | s::l,w=>by
   have h1:=zVJ w s;unfold WL.adds;split
   · exact (zLU l _).trans h1
   · exact h1
theorem RLr.appends{l:RL}{w:WL}{A B:Nat}(h:RLr l w A B)(hq:w.d.quota<=1048576)(es:List En):RLr (l.appends es).1 (w.appends2 es).1 (A+6*es.length) (B+1048576*es.length)/\(l.appends es).2=(w.appends2 es).2:=by
 unfold RL.appends WL.appends2;rw[h.bad];split
 · exact⟨h.mono (by omega) (by omega),rfl⟩
 rename_i hb;split
 · have:=h.adds (es.map frE) (by simpa using hb) hq
   simpa using this
 · exact⟨h.mono (by omega) (by omega),rfl⟩
theorem RLr.syncs{l:RL}{w:WL}{A B:Nat}(h:RLr l w A B):RLr l.sync.1 w.syncs.1 (A+1) B/\l.sync.2=w.syncs.2:=by
 unfold WL.syncs;split
 · rename_i hb
   unfold RL.sync;rw[h.bad,if_pos hb];exact⟨h.mono (by omega) (qnZ _),rfl⟩
 · rename_i hb
   exact h.sync (by simpa using hb)
structure WT (mo:Int) (l:RL) (w:WL) (i:Nat):Prop where
 rl:RLr l w (40*i) (8000000*i)
 quota:w.d.quota<=1048576
 next:w.next<=1000000001
 done0:0<=w.done
 done1:w.done<=4*i
 most:w.most=mo
theorem WT.wok{mo:Int}{l:RL}{w:WL}{i:Nat}(h:WT mo l w i)(hi:i<=30)(k:Nat):WOk w k :=
 ⟨DS.ok_mono h.rl.rd.ok (by omega) (by omega),h.quota,h.next,⟨h.done0,by have:=h.done1;omega⟩⟩
theorem WT.rlok{mo:Int}{l:RL}{w:WL}{i:Nat}(h:WT mo l w i)(hi:i<=30):RLok l 600000 200000000000:=⟨w,h.rl.mono (by omega) (by omega),h.quota⟩
theorem WT.small{mo:Int}{l:RL}{w:WL}{i:Nat}(h:WT mo l w i)(hi:i<=30):w.d.small/\l.d.small :=
 ⟨DS.ok_mono h.rl.rd.ok (by omega) (by omega),(h.rl.rd.mono (by omega) (by omega)).rok⟩
theorem WT.append{mo:Int}{l:RL}{w:WL}{i:Nat}(h:WT mo l w i)(es:List En)(hes:es.length<=4):WT mo (l.appends es).1 (w.appends2 es).1 (i+1)/\(l.appends es).2=(w.appends2 es).2:=by
 obtain⟨h1,h2⟩:=h.rl.appends h.quota es;refine ⟨⟨h1.mono (by omega) (by omega),?_,?_,?_,?_,?_⟩,h2⟩;all_goals
   unfold WL.appends2;have d0:=h.done0;have d1:=h.done1;have a:=zKn (es.map frE) w;rw[r7Z]at a;split
   · first | exact h.quota | exact h.next | exact h.most | (dsimp only;omega)
   split
   · first | (rw[(zRr (es.map frE) h.rl.rd.ok h.quota).2];exact h.quota) | exact zI4 _ h.next | exact (zLU _ _).trans h.most | omega
   · first | exact h.quota | exact h.next | exact h.most | (dsimp only;omega)
theorem WT.sync{mo:Int}{l:RL}{w:WL}{i:Nat}(h:WT mo l w i):WT mo l.sync.1 w.syncs.1 (i+1)/\l.sync.2=w.syncs.2:=by
 obtain⟨h1,h2⟩:=h.rl.syncs;have d0:=h.done0;have d1:=h.done1;refine ⟨⟨h1.mono (by omega) (by omega),?_,?_,?_,?_,?_⟩,h2⟩;all_goals
   unfold WL.syncs;split
   · first | exact h.quota | exact h.next | exact h.most | (dsimp only;omega)
   unfold WL.sync;split
   · first | exact h.quota | exact h.next | exact h.most | (dsimp only;omega)
   · first | exact h.next | exact h.most | (dsimp only;omega) | (dsimp only;unfold DS.sync;rw[zJh];exact h.quota)
theorem WT.disk{mo:Int}{l:RL}{w:WL}{i:Nat}(h:WT mo l w i){r:RS}{d:DS}(hd:RD r d (40*i+40) (8000000*i+8000000))(hq:d.quota<=1048576):WT mo ⟨r,l.most,l.file,l.next,l.done,l.bad⟩ ⟨d,w.most,w.file,w.next,w.done,w.bad⟩ (i+1) :=
 ⟨⟨hd.mono (by omega) (by omega),h.rl.most,h.rl.file,h.rl.next,h.rl.done,h.rl.bad⟩,hq,h.next,h.done0,by have:=h.done1;dsimp only;omega,h.most⟩
theorem WT.new{mo:Int}{l:RL}{w:WL}{i:Nat}(h:WT mo l w i){r:RS}{d:DS}(hd:RD r d (40*i+40) (8000000*i+8000000))(hq:d.quota<=1048576)(f n:Nat)(hn:n<=1000000001):WT mo ⟨r,mo,f,n,0,false⟩ ⟨d,mo,f,n,0,false⟩ (i+1) :=
 ⟨⟨hd.mono (by omega) (by omega),rfl,rfl,rfl,rfl,rfl⟩,hq,hn,Int.le_refl _,by dsimp only;omega,rfl⟩
noncomputable def zKq:Gam:=zZ [(10,zAI),(84,zCa),(83,zG8)]
theorem zJd:GOk Pz zKq:=zB zCS (zB zHj (zB zHa zC))
theorem zWh(d:DS)(hd:d.small)(f m z e:Int)(hc:1<=f/\f<=1000000000/\1<=m)(hz:d.size (mk 3 f)=(z,e)) :
   Ct Pz 18 [.ptr 0 0,.int .i64 f,.int .i64 m] [.obj true d.blks] (if e=0 then .ptr 1 0 else .nilp) (if e=0 then [.obj true d.blks,.cells true [.ptr 0 0,.int .i64 m,.int .i64 f,.int .i64 (f+1),.int .i64 0,.bool false]] else [.obj true d.blks]):=by
 have hΓ:=zJd;obtain⟨g1,g2,g3⟩:=hc;obtain⟨k,hk⟩:∃k,mk 3 f=k:=⟨_,rfl⟩
 rw[hk]at hz;have w1:IntKind.i64.wrap (f+1)=f+1:=zI (by omega) (by omega);refine zE Tryz.func18 rfl ?_;simp only[Tryz.ntmps18,q7Z,q8Z,Nat.reduceAdd,Nat.reduceSub,qbZ,q9Z,qaZ];refine wS hΓ (by simp;exact wR) ?_;refine wS hΓ (by simp +decide [zKq,zAI,g1,g2,g3];exact wR) ?_;refine wS hΓ (by simp +decide;exact wR) ?_;refine wS hΓ (by simp +decide [w1];exact wR) ?_;by_cases he:e=0
 · subst he
   rw[if_pos rfl,if_pos rfl];refine wS hΓ (by simp +decide [zKq,zCa,zG8,hk,hd,hz];exact wR) ?_;refine wE hΓ (by simp;exact wT) ?_;exact⟨.inr rfl,_,by simp[Tryz.f18] <;> rfl,wW [0,1] (by simp[AWb,AW])⟩
 · rw[if_neg he,if_neg he]
   have he2:(e != 0)=true:=by simpa using he
   refine wE hΓ (by simp +decide [zKq,zCa,zG8,hk,hd,hz,he,he2];exact wT) ?_;exact⟨.inr rfl,_,by simp[Tryz.f18] <;> rfl,wW [0] (by simp[AWb,AW])⟩
theorem zW2(f m:Int)(hc:¬(1<=f/\f<=1000000000/\1<=m))(d:DS):Ct Pz 18 [.ptr 0 0,.int .i64 f,.int .i64 m] [.obj true d.blks] .nilp [.obj true d.blks]:=by
 have hΓ:=zJd;refine zE Tryz.func18 rfl ?_;simp only[Tryz.ntmps18,q7Z,q8Z,Nat.reduceAdd,Nat.reduceSub,qbZ,q9Z,qaZ];have e:zAI [.ptr 0 0,.int .i64 f,.int .i64 m] [.obj true d.blks]=some (.nilp,[.obj true d.blks],[]):=by
   simp[zAI,if_neg hc]
 refine wS hΓ (by simp;exact wR) ?_;refine wS hΓ (by simp +decide [zKq,e];exact wR) ?_;refine wE hΓ (by simp +decide;exact wT) ?_;exact⟨.inr rfl,_,by simp[Tryz.f18] <;> rfl,wW [0] (by simp[AWb,AW])⟩
theorem zXf(f m:Int):Ct Pz 18 [.nilp,.int .i64 f,.int .i64 m] [] .nilp []:=by
 have hΓ:=zJd;refine zE Tryz.func18 rfl ?_;simp only[Tryz.ntmps18,q7Z,q8Z,Nat.reduceAdd,Nat.reduceSub,qbZ,q9Z,qaZ];refine wS hΓ (by simp;exact wR) ?_;refine wS hΓ (by simp +decide [zKq,zAI];exact wR) ?_;refine wE hΓ (by simp +decide;exact wT) ?_;exact⟨.inr rfl,_,by simp[Tryz.f18] <;> rfl,Weak.mk' [] (by decide) rfl (by simp) (by simp)⟩
open Classical in
noncomputable def zCu:zJ:=fun args H=>match args with
 | [.ptr b 0,.int .i64 f,.int .i64 m]=>match H[b]? with
   | some (.obj true sub)=>match dsD sub with
     | some d=>if d.small then (if 1<=f/\f<=1000000000/\1<=m then (if (d.size (mk 3 f)).2=0 then some (.ptr H.length 0,H++[.cells true [.ptr b 0,.int .i64 m,.int .i64 f,.int .i64 (f+1),.int .i64 0,.bool false]],[]) else some (.nilp,H,[])) else some (.nilp,H,[])) else none
     | none=>none
   | _=>none
 | [.nilp,.int .i64 _f,.int .i64 _m]=>some (.nilp,H,[])
 | _=>none
theorem zAh{H:zA}{b:Nat}{B:ABlk}(hb:H[b]? = some B):H.set b B=H:=by
 obtain⟨h1,h2⟩:=q1Z.1 hb;rw[<-h2,List.set_getElem_self]
theorem zIx:Sound Pz 18 zCu:=by
 refine ⟨zD Tryz.func18 rfl (by decide),fun args H v H' W hs=>?_,fun args H v H' W hs=>?_⟩ <;> (unfold zCu at hs;split at hs <;> try cases hs)
 · rename_i b f m
   split at hs <;> try cases hs
   rename_i sub hb;split at hs <;> try cases hs
   rename_i d hd;split at hs <;> try cases hs
   rename_i hsm;have e:=Z7 hd;subst e;have hbl:b<H.length:=(q1Z.1 hb).1;have s1:=zAh hb;split at hs
   · rename_i hc
     have hct:=zWh d hsm f m (d.size (mk 3 f)).1 (d.size (mk 3 f)).2 hc rfl;split at hs <;> cases hs
     · rename_i he
       rw[if_pos he,if_pos he]at hct;have:=zP (H:=H) (args:=[.ptr b 0,.int .i64 f,.int .i64 m]) hct [b] (by simp) (by simp[AWs,AW]) ⟨by rw[q2Z,hb];exact⟨rfl,rfl⟩,hbl,trivial⟩ rfl;simpa[zN,ABlk.own,reB,reA,zj,zn,s1] using this
     · rename_i he
       rw[if_neg he,if_neg he]at hct;have:=zP (H:=H) (args:=[.ptr b 0,.int .i64 f,.int .i64 m]) hct [b] (by simp) (by simp[AWs,AW]) ⟨by rw[q2Z,hb];exact⟨rfl,rfl⟩,hbl,trivial⟩ rfl;simpa[zN,ABlk.own,reB,reA,zj,zn,s1] using this
   · rename_i hc
     cases hs;have:=zP (H:=H) (args:=[.ptr b 0,.int .i64 f,.int .i64 m]) (zW2 f m hc d) [b] (by simp) (by simp[AWs,AW]) ⟨by rw[q2Z,hb];exact⟨rfl,rfl⟩,hbl,trivial⟩ rfl;simpa[zN,ABlk.own,reB,reA,zj,zn,s1] using this
 · rename_i f m
   have:=zP (H:=H) (args:=[.nilp,.int .i64 f,.int .i64 m]) (zXf f m) [] (by simp) (by simp[AWs,AW]) trivial rfl;simpa[zN,ABlk.own,reB,reA,zj,zn] using this
 · rename_i b f m
   split at hs <;> try cases hs
   split at hs <;> try cases hs
   split at hs <;> try cases hs
   split at hs
   · split at hs <;> cases hs
     · exact⟨by simp,fun c hc _=>by rw[q4Z hc]⟩
     · exact⟨qnZ _,fun _ _ _=>rfl⟩
   · cases hs
     exact⟨qnZ _,fun _ _ _=>rfl⟩
 · exact⟨qnZ _,fun _ _ _=>rfl⟩
noncomputable def zOU:Gam:=zZ [(11,Zl),(72,zCb),(85,zKS)]
theorem zJA:GOk Pz zOU:=zB zBq (zB zD1 (zB zHV zC))
theorem zW5(d:RS)(hd:d.small)(f m z e:Int)(hc:1<=f/\f<=1000000000/\1<=m)(hz:d.size (mk 3 f)=(z,e)) :
   Ct Pz 19 [.ptr 0 0,.int .i64 f,.int .i64 m] [.obj true d.blks] (if e=0 then .ptr 1 0 else .nilp) (if e=0 then [.obj true d.blks,.cells true [.ptr 0 0,.int .i64 m,.int .i64 f,.int .i64 (f+1),.bool false,.int .i64 0]] else [.obj true d.blks]):=by
 have hΓ:=zJA;obtain⟨g1,g2,g3⟩:=hc;obtain⟨k,hk⟩:∃k,mk 3 f=k:=⟨_,rfl⟩
 rw[hk]at hz;have w1:IntKind.i64.wrap (f+1)=f+1:=zI (by omega) (by omega);refine zE Tryz.func19 rfl ?_;simp only[Tryz.ntmps19,q7Z,q8Z,Nat.reduceAdd,Nat.reduceSub,qbZ,q9Z,qaZ];refine wS hΓ (by simp;exact wR) ?_;refine wS hΓ (by simp +decide [zOU,Zl,g1,g2,g3];exact wR) ?_;refine wS hΓ (by simp +decide;exact wR) ?_;refine wS hΓ (by simp +decide [zOU,zCb,zKS,hk,hd,hz];exact wR) ?_;by_cases he:e=0
 · subst he
   rw[if_pos rfl,if_pos rfl];refine wS hΓ (by simp +decide;exact wR) ?_;refine wS hΓ (by simp +decide;exact wR) ?_;refine wS hΓ (by simp +decide [w1];exact wR) ?_;refine wE hΓ (by simp;exact wT) ?_;exact⟨.inr rfl,_,by simp[Tryz.f19] <;> rfl,wW [0,1] (by simp[AWb,AW])⟩
 · rw[if_neg he,if_neg he]
   have he2:(e != 0)=true:=by simpa using he
   refine wE hΓ (by simp +decide [he,he2];exact wT) ?_;exact⟨.inr rfl,_,by simp[Tryz.f19] <;> rfl,wW [0] (by simp[AWb,AW])⟩
theorem zXi(f m:Int)(hc:¬(1<=f/\f<=1000000000/\1<=m))(d:RS):Ct Pz 19 [.ptr 0 0,.int .i64 f,.int .i64 m] [.obj true d.blks] .nilp [.obj true d.blks]:=by
 have hΓ:=zJA;refine zE Tryz.func19 rfl ?_;simp only[Tryz.ntmps19,q7Z,q8Z,Nat.reduceAdd,Nat.reduceSub,qbZ,q9Z,qaZ];have e:Zl [.ptr 0 0,.int .i64 f,.int .i64 m] [.obj true d.blks]=some (.nilp,[.obj true d.blks],[]):=by
   simp[Zl,if_neg hc]
 refine wS hΓ (by simp;exact wR) ?_;refine wS hΓ (by simp +decide [zOU,e];exact wR) ?_;refine wE hΓ (by simp +decide;exact wT) ?_;exact⟨.inr rfl,_,by simp[Tryz.f19] <;> rfl,wW [0] (by simp[AWb,AW])⟩
theorem zYB(f m:Int):Ct Pz 19 [.nilp,.int .i64 f,.int .i64 m] [] .nilp []:=by
 have hΓ:=zJA;refine zE Tryz.func19 rfl ?_;simp only[Tryz.ntmps19,q7Z,q8Z,Nat.reduceAdd,Nat.reduceSub,qbZ,q9Z,qaZ];refine wS hΓ (by simp;exact wR) ?_;refine wS hΓ (by simp +decide [zOU,Zl];exact wR) ?_;refine wE hΓ (by simp +decide;exact wT) ?_;exact⟨.inr rfl,_,by simp[Tryz.f19] <;> rfl,Weak.mk' [] (by decide) rfl (by simp) (by simp)⟩
open Classical in
noncomputable def zC5:zJ:=fun args H=>match args with
 | [.ptr b 0,.int .i64 f,.int .i64 m]=>match H[b]? with
   | some (.obj true sub)=>match zDQ sub with
     | some d=>if d.small then (if 1<=f/\f<=1000000000/\1<=m then (if (d.size (mk 3 f)).2=0 then some (.ptr H.length 0,H++[.cells true [.ptr b 0,.int .i64 m,.int .i64 f,.int .i64 (f+1),.bool false,.int .i64 0]],[]) else some (.nilp,H,[])) else some (.nilp,H,[])) else none
     | none=>none
   | _=>none
 | [.nilp,.int .i64 _f,.int .i64 _m]=>some (.nilp,H,[])
 | _=>none
theorem zJb:Sound Pz 19 zC5:=by
 refine ⟨zD Tryz.func19 rfl (by decide),fun args H v H' W hs=>?_,fun args H v H' W hs=>?_⟩ <;> (unfold zC5 at hs;split at hs <;> try cases hs)
 · rename_i b f m
   split at hs <;> try cases hs
   rename_i sub hb;split at hs <;> try cases hs
   rename_i d hd;split at hs <;> try cases hs
   rename_i hsm;have e:=zAE hd;subst e;have hbl:b<H.length:=(q1Z.1 hb).1;have s1:=zAh hb;split at hs
   · rename_i hc
     have hct:=zW5 d hsm f m (d.size (mk 3 f)).1 (d.size (mk 3 f)).2 hc rfl;split at hs <;> cases hs
     · rename_i he
       rw[if_pos he,if_pos he]at hct;have:=zP (H:=H) (args:=[.ptr b 0,.int .i64 f,.int .i64 m]) hct [b] (by simp) (by simp[AWs,AW]) ⟨by rw[q2Z,hb];exact⟨rfl,rfl⟩,hbl,trivial⟩ rfl;simpa[zN,ABlk.own,reB,reA,zj,zn,s1] using this
     · rename_i he
       rw[if_neg he,if_neg he]at hct;have:=zP (H:=H) (args:=[.ptr b 0,.int .i64 f,.int .i64 m]) hct [b] (by simp) (by simp[AWs,AW]) ⟨by rw[q2Z,hb];exact⟨rfl,rfl⟩,hbl,trivial⟩ rfl;simpa[zN,ABlk.own,reB,reA,zj,zn,s1] using this
   · rename_i hc
     cases hs;have:=zP (H:=H) (args:=[.ptr b 0,.int .i64 f,.int .i64 m]) (zXi f m hc d) [b] (by simp) (by simp[AWs,AW]) ⟨by rw[q2Z,hb];exact⟨rfl,rfl⟩,hbl,trivial⟩ rfl;simpa[zN,ABlk.own,reB,reA,zj,zn,s1] using this
 · rename_i f m
   have:=zP (H:=H) (args:=[.nilp,.int .i64 f,.int .i64 m]) (zYB f m) [] (by simp) (by simp[AWs,AW]) trivial rfl;simpa[zN,ABlk.own,reB,reA,zj,zn] using this
 · rename_i b f m
   split at hs <;> try cases hs
   split at hs <;> try cases hs
   split at hs <;> try cases hs
   split at hs
   · split at hs <;> cases hs
     · exact⟨by simp,fun c hc _=>by rw[q4Z hc]⟩
     · exact⟨qnZ _,fun _ _ _=>rfl⟩
   · cases hs
     exact⟨qnZ _,fun _ _ _=>rfl⟩
 · exact⟨qnZ _,fun _ _ _=>rfl⟩
noncomputable def zUr:Gam:=zZ [(10,zAI),(11,Zl),(18,zCu),(19,zC5)]
theorem zR8:GOk Pz zUr:=zB zCS (zB zBq (zB zIx (zB zJb zC)))
theorem zVZ(r:RS)(d:DS)(h:RD r d 800000 1000000000000)(n m:Int):Ct Pz 9 [.ptr 0 0,.ptr 1 0,.int .i64 n,.int .i64 m] [.obj true d.blks,.obj true r.blks] (.bool true) [.obj true d.blks,.obj true r.blks]:=by
 have hΓ:=zR8;have hd:d.small:=DS.ok_mono h.ok (by decide) (qnZ _);have hr:r.small:=(h.mono (by decide) (qnZ _)).rok;have hz:=h.size (mk 3 n);refine zE Tryz.func9 rfl ?_;simp only[Tryz.ntmps9,q7Z,q8Z,Nat.reduceAdd,Nat.reduceSub,qbZ,q9Z,qaZ];refine wS hΓ (by simp;exact wR) ?_;by_cases hc:1<=n/\n<=1000000000/\1<=m
 · by_cases he:(d.size (mk 3 n)).2=0
   · have he2:(r.size (mk 3 n)).2=0:=by rw[hz];exact he
     refine wE hΓ (by simp +decide [zUr,zAI,Zl,zCu,zC5,hc,hd,hr,he,he2];exact wT) ?_;exact⟨.inr rfl,_,by simp[Tryz.f9] <;> rfl,wW [0,1] (by simp[AWb])⟩
   · have he2:¬(r.size (mk 3 n)).2=0:=by rw[hz];exact he
     refine wE hΓ (by simp +decide [zUr,zAI,Zl,zCu,zC5,hc,hd,hr,he,he2];exact wT) ?_;exact⟨.inr rfl,_,by simp[Tryz.f9] <;> rfl,wW [0,1] (by simp[AWb])⟩
 · have e1:∀H:zA,0<H.length->zAI [.ptr 0 0,.int .i64 n,.int .i64 m] H=some (.nilp,H,[]):=fun H hH=>by simp[zAI,hH,if_neg hc]
   have e2:∀H:zA,1<H.length->Zl [.ptr 1 0,.int .i64 n,.int .i64 m] H=some (.nilp,H,[]):=fun H hH=>by simp[Zl,hH,if_neg hc]
   have e3:zCu [.ptr 0 0,.int .i64 n,.int .i64 m] [.obj true d.blks,.obj true r.blks]=some (.nilp,[.obj true d.blks,.obj true r.blks],[]):=by simp[zCu,hd,if_neg hc]
   have e4:zC5 [.ptr 1 0,.int .i64 n,.int .i64 m] [.obj true d.blks,.obj true r.blks]=some (.nilp,[.obj true d.blks,.obj true r.blks],[]):=by simp[zC5,hr,if_neg hc]
   refine wE hΓ (by simp +decide [zUr,e1,e2,e3,e4];exact wT) ?_;exact⟨.inr rfl,_,by simp[Tryz.f9] <;> rfl,wW [0,1] (by simp[AWb])⟩
theorem zS6(n m:Int):Ct Pz 9 [.nilp,.nilp,.int .i64 n,.int .i64 m] [] (.bool true) []:=by
 have hΓ:=zR8;refine zE Tryz.func9 rfl ?_;simp only[Tryz.ntmps9,q7Z,q8Z,Nat.reduceAdd,Nat.reduceSub,qbZ,q9Z,qaZ];refine wS hΓ (by simp;exact wR) ?_;refine wE hΓ (by simp +decide [zUr,zAI,Zl,zCu,zC5];exact wT) ?_;exact⟨.inr rfl,_,by simp[Tryz.f9] <;> rfl,Weak.mk' [] (by decide) rfl (by simp) (by simp)⟩
open Classical in
noncomputable def zG2:zJ:=fun args H=>match args with
 | [.ptr a 0,.ptr b 0,.int .i64 _n,.int .i64 _m]=>match H[a]?,H[b]? with
   | some (.obj true sa),some (.obj true sb)=>match dsD sa,zDQ sb with
     | some d,some r=>if a≠b/\RD r d 800000 1000000000000 then some (.bool true,H,[]) else none
     | _,_=>none
   | _,_=>none
 | [.nilp,.nilp,.int .i64 _n,.int .i64 _m]=>some (.bool true,H,[])
 | _=>none
theorem zHS:Sound Pz 9 zG2:=by
 refine ⟨zD Tryz.func9 rfl (by decide),fun args H v H' W hs=>?_,fun args H v H' W hs=>?_⟩ <;> (unfold zG2 at hs;split at hs <;> try cases hs)
 · rename_i a b n m
   split at hs <;> try cases hs
   rename_i sa sb ha hb;split at hs <;> try cases hs
   rename_i d r hd hr;split at hs <;> cases hs
   rename_i hc;have e:=Z7 hd;have e2:=zAE hr;subst e;subst e2
   have hal:a<H.length:=(q1Z.1 ha).1;have hbl:b<H.length:=(q1Z.1 hb).1;have:=zP (H:=H) (args:=[.ptr a 0,.ptr b 0,.int .i64 n,.int .i64 m]) (zVZ r d hc.2 n m) [a,b] (by simp[hc.1]) (by simp[AWs,AW]) ⟨by rw[q2Z,ha];exact⟨rfl,rfl⟩,hal,by rw[q2Z,hb];exact⟨rfl,rfl⟩,hbl,trivial⟩ rfl;simpa[zN,ABlk.own,reB,reA,zj,zn,zAh ha,zAh hb] using this
 · rename_i n m
   have:=zP (H:=H) (args:=[.nilp,.nilp,.int .i64 n,.int .i64 m]) (zS6 n m) [] (by simp) (by simp[AWs,AW]) trivial rfl;simpa[zN,ABlk.own,reB,reA,zj,zn] using this
 · rename_i a b n m
   split at hs <;> try cases hs
   split at hs <;> try cases hs
   split at hs <;> cases hs
   exact⟨qnZ _,fun _ _ _=>rfl⟩
 · exact⟨qnZ _,fun _ _ _=>rfl⟩
end
end Go.Proofs.YtfhidaoiofeooaaGreatDoor
