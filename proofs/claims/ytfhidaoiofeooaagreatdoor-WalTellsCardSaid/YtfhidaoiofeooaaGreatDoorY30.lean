/- Parts of the proof of WalTells: lemmas, each with its own conditions. -/
import Derived.Test.YtfhidaoiofeooaaGreatDoorY29
import Derived.Test.YtfhidaoiofeooaaGreatDoorY28
import Derived.Test.YtfhidaoiofeooaaGreatDoorY27
set_option maxHeartbeats 64000000
open List renaming getElem?_eq_some_iff → q1Z, getD_eq_getElem?_getD → q2Z, length_cons → q7Z, length_nil → q8Z, cons_append → q9Z, nil_append → qaZ, replicate → qbZ
open Nat renaming le_refl → qnZ
open Bool renaming and_eq_true → qrZ
namespace Go.Proofs.YtfhidaoiofeooaaGreatDoor
open _root_.Go.Proofs.Tryz renaming prog → Pz
set_option maxRecDepth 100000
section
open Go
mutual
theorem zQk{n m:Nat}(h:n<=m):∀x:AV,below n x=true->below m x=true
 | .top,_=>rfl
 | .bool _,_=>rfl
 | .int _ _,_=>rfl
 | .str _,_=>rfl
 | .ptr b _,k=>by simp only[below,decide_eq_true_eq]at k ⊢;omega
 | .nilp,_=>rfl
 | .slice b _ _ _ _,k=>by simp only[below,decide_eq_true_eq]at k ⊢;omega
 | .sl b _ _ _ _,k=>by simp only[below,decide_eq_true_eq]at k ⊢;omega
 | .nils,_=>rfl
 | .map b,k=>by simp only[below,decide_eq_true_eq]at k ⊢;omega
 | .nilm,_=>rfl
 | .func _ xs ys,k=>by
   simp only[below,qrZ]at k ⊢;exact⟨zAg h xs k.1,zAg h ys k.2⟩
 | .yld b,k=>by simp only[below,decide_eq_true_eq]at k ⊢;omega
 | .nilf,_=>rfl
 | .agg l,k=>by simp only[below]at k ⊢;exact zAg h l k
 | .tuple l,k=>by simp only[below]at k ⊢;exact zAg h l k
theorem zAg{n m:Nat}(h:n<=m):∀l:List AV,zi n l=true->zi m l=true
 | [],_=>rfl
 | x::xs,k=>by
   simp only[zi,qrZ]at k ⊢;exact⟨zQk h x k.1,zAg h xs k.2⟩
end
end
section
open Go Go.Lib
attribute [-simp] zH zc zq zK zy
noncomputable def zMi:Gam:=zZ [(107,zQf),(108,zPz),(109,zHB),(110,zBv),(111,zVu),(112,zPa),(45,zVY),(46,zV3),(48,zHv),(49,zMA),(47,zLo)]
theorem zWo:GOk Pz zMi:=zB zOw (zB zPH (zB zHN (zB zGJ (zB zRB (zB zNX (zB zPN (zB zNr (zB zMl (zB zNV (zB zO1 zC))))))))))
theorem zTW(l:RL)(w:WL)(h:RLr l w 800000 1000000000000):Ct Pz 28 [.ptr 0 0,.ptr 1 0,.ptr 2 0] [wlB 2 w,rlB 3 l,.obj true w.d.blks,.obj true l.d.blks] (.bool true) [wlB 2 w,rlB 3 l,.obj true w.d.blks,.obj true l.d.blks]:=by
 have hΓ:=zWo;have hd:w.d.small:=DS.ok_mono h.rd.ok (by decide) (qnZ _);have hr:l.d.small:=(h.rd.mono (by decide) (qnZ _)).rok;have hf:=h.rd.files;have h2:=h.rd.steps;have h3:=h.rd.down;have hsz:=h.size;have hlen:=DS.list_le h.rd.ok;have hll:w.d.files.length=w.d.list.length:=by simp[DS.files]
 have b2:w.d.list.length<=9223372036854775807:=by omega
 obtain⟨h4,h5,h6,h7,h8⟩:=And.intro h.most (And.intro h.file (And.intro h.next (And.intro h.done h.bad)));obtain⟨r,lm,lf,ln,ld,lb⟩:=l;obtain⟨d,wm,wf,wn',wd,wb⟩:=w;dsimp only at hd hr hf h2 h3 hlen hll b2 h4 h5 h6 h7 h8;subst h4;subst h5;subst h6;subst h7;subst h8
 obtain⟨sz,hz⟩:∃sz,(⟨d,lm,lf,ln,ld,lb⟩:WL).size=sz:=⟨_,rfl⟩
 rw[hz]at hsz;obtain⟨tl,htl⟩:∃tl,r.blks=.cells true [.ptr 1 0,.sl 2 0 r.F.length 1 false,.int .i64 r.room,.int .i64 r.steps,.int .i64 r.left,.bool r.down]::tl:=⟨_,rfl⟩
 have hrs:zDQ (.cells true [.ptr 1 0,.sl 2 0 r.F.length 1 false,.int .i64 r.room,.int .i64 r.steps,.int .i64 r.left,.bool r.down]::tl)=some r:=by rw[<-htl,zK2]
 refine zE Tryz.func28 rfl ?_;simp only[wlB,rlB,wlC,rlC];rw[htl];rw[h2,h3]at hrs ⊢;simp only[Tryz.ntmps28,q7Z,q8Z,Nat.reduceAdd,Nat.reduceSub,qbZ,q9Z,qaZ];refine wS hΓ (by simp;exact wR) ?_;refine Sim.seq (Sim.draw hmix (by simp) ?_);refine SimR.many hΓ 8 (by simp[zF];rfl) (by omega) (by kernel_rfl) (by simp +decide [zMi,zQf,wlR];first | exact wR | exact⟨by kernel_rfl,wR⟩) ?_;refine SimR.many hΓ 17 (by simp[zF,zW];rfl) (by omega) (by kernel_rfl) (by simp +decide [zMi,zPz,wlR];first | exact wR | exact⟨by kernel_rfl,wR⟩) ?_;refine SimR.many hΓ 24 (by simp[zF,zW];rfl) (by omega) (by kernel_rfl) (by simp +decide [zMi,zHB,wlR,zBv,hrs,hd,hr,hz,hsz];first | exact wR | exact⟨by kernel_rfl,wR⟩) ?_;refine SimR.many hΓ 33 (by simp[zF,zW];rfl) (by omega) (by kernel_rfl) (by simp +decide [zMi,zVu,wlR];first | exact wR | exact⟨by kernel_rfl,wR⟩) ?_;refine SimR.many hΓ 42 (by simp[zF,zW];rfl) (by omega) (by kernel_rfl) (by simp +decide [zMi,zPa,wlR];first | exact wR | exact⟨by kernel_rfl,wR⟩) ?_;refine SimR.many hΓ 54 (by simp[zF,zW];rfl) (by omega) (by kernel_rfl) (by simp +decide [zMi,zVY];first | exact wR | exact⟨by kernel_rfl,wR⟩) ?_;refine SimR.many hΓ 66 (by simp[zF,zW];rfl) (by omega) (by kernel_rfl) (by simp +decide [zMi,zV3];first | exact wR | exact⟨by kernel_rfl,wR⟩) ?_;refine SimR.many hΓ 76 (by simp[zF,zW];rfl) (by omega) (by kernel_rfl) (by simp +decide [zMi,zHv,zMA,zLo,hd,hr,hf,hrs,hll,b2];first | exact wR | exact⟨by kernel_rfl,wR⟩) ?_;refine SimR.done rfl ?_;dsimp only;refine wE hΓ (by simp;exact wT) ?_;exact⟨.inr rfl,_,by simp[Tryz.f28] <;> rfl,wW [0,1,2,3] (by simp[AWb,AW])⟩
open Classical in
noncomputable def zIP:zJ:=fun args H=>match args with
 | [.ptr a 0,.ptr b 0,.ptr q 0]=>match H[a]?,H[b]? with
   | some (.cells true la),some (.cells true lb)=>match zIh la,zMT lb with
     | some (q',m,f,n,dn,bd),some (p,m2,f2,n2,bd2,dn2)=>match H[q]?,H[p]? with
       | some (.obj true sa),some (.obj true sb)=>match dsD sa,zDQ sb with
         | some d,some r=>if q'=q/\a≠b/\p≠q/\RLr ⟨r,m2,f2,n2,dn2,bd2⟩ ⟨d,m,f,n,dn,bd⟩ 800000 1000000000000 then some (.bool true,H,[]) else none
         | _,_=>none
       | _,_=>none
     | _,_=>none
   | _,_=>none
 | _=>none
theorem zMx:Sound Pz 28 zIP:=by
 refine ⟨zD Tryz.func28 rfl (by decide),fun args H v H' W hs=>?_,fun args H v H' W hs=>?_⟩ <;> (unfold zIP at hs;split at hs <;> try cases hs) <;> (rename_i a b q;split at hs <;> try cases hs) <;> (rename_i la lb ha hb;split at hs <;> try cases hs) <;> (rename_i q' m f n dn bd p m2 f2 n2 bd2 dn2 hwa hwb;split at hs <;> try cases hs) <;> (rename_i sa sb hq hp;split at hs <;> try cases hs) <;> (rename_i d r hd hr;split at hs <;> cases hs;rename_i hc)
 · obtain⟨rfl,hab,hpq,hrl⟩:=hc
   have e:=Z7 hd;have e2:=zAE hr;have e3:=zEm hwa;have e4:=zIA hwb;subst e;subst e2;subst e3;subst e4
   have hal:a<H.length:=(q1Z.1 ha).1;have hbl:b<H.length:=(q1Z.1 hb).1;have hql:q'<H.length:=(q1Z.1 hq).1;have hpl:p<H.length:=(q1Z.1 hp).1;have n1:a≠q':=by rintro rfl;rw[ha]at hq;cases hq
   have n2':a≠p:=by rintro rfl;rw[ha]at hp;cases hp
   have n3:b≠q':=by rintro rfl;rw[hb]at hq;cases hq
   have n4:b≠p:=by rintro rfl;rw[hb]at hp;cases hp
   have:=zP (H:=H) (args:=[.ptr a 0,.ptr b 0,.ptr q' 0]) (zTW _ _ hrl) [a,b,q',p] (by simp[hab,n1,n2',n3,n4,Ne.symm hpq]) (by simp[AWs,AW]) ⟨by rw[q2Z,ha];simp[AWb,wlB,wlC,AW],hal,by rw[q2Z,hb];simp[AWb,rlB,rlC,AW],hbl,by rw[q2Z,hq];exact⟨rfl,rfl⟩,hql,by rw[q2Z,hp];exact⟨rfl,rfl⟩,hpl,trivial⟩ rfl;have s1:=zAh ha;have s2:=zAh hb;simp only[wlC]at s1;simp only[rlC]at s2;simpa[zN,ABlk.own,reB,reA,zj,wlB,wlC,rlB,rlC,zn,s1,s2,zAh hq,zAh hp] using this
 · exact⟨qnZ _,fun _ _ _=>rfl⟩
end
end Go.Proofs.YtfhidaoiofeooaaGreatDoor
