/- Parts of the proof of WalTells: lemmas, each with its own conditions. -/
import Derived.Test.YtfhidaoiofeooaaGreatDoorY25
set_option maxHeartbeats 64000000
open List renaming getElem?_eq_some_iff → q1Z, getD_eq_getElem?_getD → q2Z, getElem?_eq_getElem → q3Z, take_of_length_le → q6Z, length_cons → q7Z, length_nil → q8Z, cons_append → q9Z, nil_append → qaZ, replicate → qbZ, getElem?_set_ne → qfZ, length_take → qjZ, mem_cons → qwZ, mem_append → qxZ, getElem_mem → r3Z, not_mem_nil → rtZ, map_cons → s1Z, all_eq_true → s5Z
open Nat renaming zero_le → qqZ
open Option renaming getD_some → rgZ
namespace Go.Proofs.YtfhidaoiofeooaaGreatDoor
open _root_.Go.Proofs.Tryz renaming prog → Pz
set_option maxRecDepth 100000
section
open Go Go.Lib
attribute [-simp] zH zc zq zK zy
def zTZ:Gam:=zZ [(197,zGB),(198,zJ6)]
theorem zSG:GOk Pz zTZ:=zB zRA (zB zQj zC)
def zAp(es:List En):List AV:=es.map fun e=>AV.str (frE e)
@[simp] theorem zEK(es:List En):(zAp es).length=es.length:=by simp[zAp]
theorem zCn(es:List En):zV (zAp es)=true:=ZO _ _ fun _=>rfl
theorem zSt(es:List En)(h:∀e∈es,okE e)(hl:es.length<=1000) :
   Ct Pz 102 [.sl 0 0 es.length 3 false] [.cells false (zb es)] (.tuple [.sl 1 0 es.length 1 false,.int .i64 0]) [.cells false (zb es),.cells true (zAp es)]:=by
 have hΓ:=zSG;obtain⟨L,hL⟩:∃L,es.length=L:=⟨_,rfl⟩
 refine zE Tryz.func102 rfl ?_;rw[hL]at hl ⊢;simp only[Tryz.ntmps102,q7Z,q8Z,Nat.reduceAdd,Nat.reduceSub,qbZ,q9Z,qaZ];have hfe:=ZD es;have hA1:∀rn:List Nat,AWs rn (zb es) (zb es):=fun rn=>AWs.refl _ _ hfe;refine wS hΓ (by simp;exact wR) ?_;refine wS hΓ (by simp;exact wR) ?_;refine Sim.seq (wS hΓ (by simp;exact wR) ?_);refine Sim.block (Sim.loopW (fun k:Nat=>k<=L) (fun k=>[.top,.top,.top,.top,.sl 1 0 k 1 false,.top,.top,.top,.top,.top,.sl 0 0 L 3 false,.int .i64 L,.int .i64 k]++qbZ 23 .top)
   (fun k=>[.cells false (zb es),.cells true (zAp (es.take k))]) (fun k=>L-k) 0 (by simp) (qqZ _) (wW [0,100] (by simp[AWb])) fun k hk=>?_)
 by_cases hlt:k<L
 · have hltI:(k:Int)<L:=by omega
   have hke:k<es.length:=by omega
   obtain⟨e,he⟩:∃e,es[k]=e:=⟨_,rfl⟩
   have hok:=h e (by rw[<-he];exact r3Z hke);have g:=zGW es k hke;rw[he]at g;obtain⟨p,hp⟩:∃p,(zCJ e).1=p:=⟨_,rfl⟩
   have hpo:=zGZ hok;have hput:zCJ e=(p,0):=Prod.ext hp hpo.2;have hpl:p.length<=1000000000:=by have:=hpo.1.2;rw[hp]at this;omega
   obtain⟨s,hs⟩:∃s,frE e=s:=⟨_,rfl⟩
   have hfp:Fr.put p=(s,0):=by
     refine Prod.ext ?_ ?_
     · rw[<-hs,<-hp];rfl
     · rw[<-hp];exact (Fr.put_ok _).2 hpo.1
   have hnext:zAp (es.take (k+1))=zAp (es.take k)++[AV.str s]:=by
     rw[List.take_add_one,q3Z hke,he];simp[zAp,hs]
   obtain⟨R,hR⟩:∃R,zAp (es.take k)=R:=⟨_,rfl⟩
   have hRl:R.length=k:=by rw[<-hR,zEK,qjZ];omega
   have hRf:zV R=true:=by rw[<-hR];exact zCn _
   have hRt:R.take k=R:=q6Z (by omega);rw[hR]at hnext ⊢;have y1:IntKind.i64.wrap ((k:Int)+1)=k+1:=zI (by omega) (by omega);have k3:k*3+3<=L*3:=by omega
   have b1:(k+1)*16<=140737488355328:=by omega
   have b2:k+1<=9223372036854775807:=by omega
   obtain⟨ew,en,eg⟩:=e;simp only[enA]at g;have hN:okN en=true:=hok.2.1;refine wS hΓ (by simp[hltI];exact wR) ?_;refine wS hΓ (by simp;exact wR) ?_;refine Sim.seq (Sim.block ?_);refine wS hΓ (by simp +decide [hlt,hL,g,k3];exact wR) ?_;refine wS hΓ (by simp +decide [zTZ,zGB,hN,hput];exact wR) ?_;refine wS hΓ (by simp +decide;exact wR) ?_;refine wS hΓ (by simp +decide [zTZ,zJ6,hpl,hfp];exact wR) ?_;refine wE hΓ (by simp +decide [hRl,hRt,b1,b2];exact wT) ?_;dsimp only;refine wE hΓ (by simp[y1];exact wT) ?_;refine ⟨k+1,by omega,?_,by omega⟩;rw[hnext];have hR1:∀rn:List Nat,AWs rn (R++[AV.str s]) (R++[AV.str s]):=fun rn=>AWs.refl _ _ (frees_iff.2 fun v hv=>by
     rcases qxZ.1 hv with h | h
     · exact frees_iff.1 hRf v h
     · simp at h;subst h;rfl)
   exact wW [0,4] (by simp[AWb,hR1])
 · have hke:k=L:=by omega
   subst hke;have ht:es.take k=es:=q6Z (by omega);rw[ht];have hA2:∀rn:List Nat,AWs rn (zAp es) (zAp es):=fun rn=>AWs.refl _ _ (zCn es);refine wE hΓ (by simp;exact wT) ?_;dsimp only;rw[if_pos rfl];refine wE hΓ (by simp;exact wT) ?_;exact⟨.inr rfl,_,by simp[Tryz.f102] <;> rfl,wW [0,1] (by simp[AWb,hA2])⟩
def zZN(es:List En):Prop:=∀e∈es,okE e
open Classical in
noncomputable def zMj:zJ:=zAs fun args H=>match args with
 | [x]=>match zGu H x with
   | some es=>if zZN es/\es.length<=1000 then some (.tuple [.sl 0 0 es.length 1 false,.int .i64 0],[.cells true (zAp es)]) else none
   | none=>none
 | _=>none
theorem zMV:Sound Pz 102 zMj:=by
 refine zCh (zD Tryz.func102 rfl (by decide)) fun args H v N h=>?_;split at h <;> try cases h
 rename_i x;split at h <;> try cases h
 rename_i es hx;split at h <;> cases h
 rename_i hc;obtain⟨b1,o1,w1,g1⟩:=zIl hx;refine zL2 (H0:=[.cells false (zb es)]) (args0:=[.sl 0 0 es.length 3 false]) ?_ rfl [(b1,o1)] ⟨w1 0 _ rfl,trivial⟩ ⟨g1,ZD _,trivial⟩;have:=zSt es hc.1 hc.2;have hsh:zA9 1 (zAp es)=zAp es:=zAe 1 _ (zCn es);simpa[shA,zA9,shB,hsh] using this
open Classical in
noncomputable def zBY:zJ:=Zt fun
 | [.agg [.str w,.int .u32 n,.bool g]]=>if okE (w,n,g) then some (.str (frE (w,n,g))) else if okW w=false/\okN n=true then some (.str []) else none
 | _=>none
noncomputable def zRY:Gam:=zZ [(86,zGB),(87,zJ6)]
theorem zWA:GOk Pz zRY:=zB zNW (zB zPK zC)
theorem zCZ:Sound Pz 20 zBY:=by
 have hΓ:=zWA;refine zU (zD Tryz.func20 rfl (by decide)) fun args v h=>?_;split at h;rotate_left
 · cases h
 rename_i w n g;split at h
 · cases h
   rename_i hok;refine ⟨?_,rfl,rfl⟩;have hpo:=zGZ hok;obtain⟨p,hp⟩:∃p,(zCJ (w,n,g)).1=p:=⟨_,rfl⟩
   have hput:zCJ (w,n,g)=(p,0):=Prod.ext hp hpo.2;have hpl:p.length<=1000000000:=by have:=hpo.1.2;rw[hp]at this;omega
   obtain⟨s,hs⟩:∃s,frE (w,n,g)=s:=⟨_,rfl⟩
   have hfp:Fr.put p=(s,0):=by
     refine Prod.ext ?_ ?_
     · rw[<-hs,<-hp];rfl
     · rw[<-hp];exact (Fr.put_ok _).2 hpo.1
   have hN:okN n=true:=hok.2.1;rw[hs];refine zE Tryz.func20 rfl ?_;simp only[Tryz.ntmps20,q7Z,q8Z,Nat.reduceAdd,Nat.reduceSub,qbZ,q9Z,qaZ];refine wS hΓ (by simp;exact wR) ?_;refine wS hΓ (by simp +decide [zRY,zGB,hN,hput];exact wR) ?_;refine wS hΓ (by simp +decide;exact wR) ?_;refine wE hΓ (by simp +decide [zRY,zJ6,hpl,hfp];exact wT) ?_;exact⟨.inr rfl,_,by simp[Tryz.f20] <;> rfl,Weak.mk' [] (by decide) rfl (by simp) (by simp)⟩
 · split at h <;> cases h
   rename_i hc;obtain⟨h1,hN⟩:=hc;refine ⟨?_,rfl,rfl⟩;have hput:zCJ (w,n,g)=([],7):=by unfold zCJ;dsimp only;rw[h1];rfl
   refine zE Tryz.func20 rfl ?_;simp only[Tryz.ntmps20,q7Z,q8Z,Nat.reduceAdd,Nat.reduceSub,qbZ,q9Z,qaZ];refine wS hΓ (by simp;exact wR) ?_;refine wS hΓ (by simp +decide [zRY,zGB,hN,hput];exact wR) ?_;refine wE hΓ (by simp +decide;exact wT) ?_;exact⟨.inr rfl,_,by simp[Tryz.f20] <;> rfl,Weak.mk' [] (by decide) rfl (by simp) (by simp)⟩
def RLok(w:RL)(A B:Nat):Prop:=∃W:WL,RLr w W A B/\W.d.quota<=1048576
theorem RLok.mono{w:RL}{A B A' B':Nat}(h:RLok w A B)(hA:A<=A')(hB:B<=B'):RLok w A' B':=by
 obtain⟨W,h1,h2⟩:=h;exact⟨W,h1.mono hA hB,h2⟩
theorem RLok.ok{w:RL}{A B:Nat}(h:RLok w A B):w.d.ok A B:=by
 obtain⟨W,h1,h2⟩:=h;exact h1.rd.rok
theorem RLok.small{w:RL}{A B:Nat}(h:RLok w A B)(hA:A<=900000)(hB:B<=1000000000000):w.d.small:=(h.mono hA hB).ok
theorem RLok.create{w:RL}{A B:Nat}(h:RLok w A B)(k:List UInt8)(hA:A+2<=900000)(hB:B<=1000000000000):(w.d.create k).1.small:=by
 obtain⟨W,h1,h2⟩:=h;exact ((h1.rd.create k).1.mono hA hB).rok
theorem RLok.sync1{w:RL}{A B:Nat}(h:RLok w A B):RLok ⟨(w.d.sync (wn w.file)).1,w.most,w.file,w.next,w.done,w.bad⟩ (A+1) B:=by
 obtain⟨W,h1,h2⟩:=h;obtain⟨h3,h4⟩:=h1.rd.sync (wn w.file);exact⟨⟨(W.d.sync (wn w.file)).1,W.most,W.file,W.next,W.done,W.bad⟩,⟨h3,h1.most,h1.file,h1.next,h1.done,h1.bad⟩,by dsimp only;unfold DS.sync;rw[zJh];exact h2⟩
theorem RLok.fresh{w:RL}{A B:Nat}(h:RLok w A B):RLok w.fresh.1 (A+4) B:=by
 obtain⟨W,h1,h2⟩:=h;exact⟨W.fresh.1,h1.fresh.1,by rw[(zF1 h1.rd.ok h2).2];exact h2⟩
noncomputable def zJO:Gam:=zZ [(110,zBv),(201,zGO),(72,zCb),(20,zBY),(71,zJq),(24,zFQ)]
theorem zMD:GOk Pz zJO:=zB zGJ (zB zKY (zB zD1 (zB zCZ (zB zHG (zB zHp zC)))))
abbrev roF:List AV:=[.ptr 0 0,.top,.top,.ptr 2 0]++qbZ 62 .top
abbrev roH(w:RL)(e:En):zA:=[rlB 1 w,.obj true w.d.blks,.cells true [.str e.1,.int .u32 e.2.1,.bool e.2.2]]
abbrev roQ(w:RL×Int):AX->List AV->zA->Prop:=fun x F1 H1=>(x=.normal\/x=.ret)/\∃v1,zDB Pz Tryz.f106.results.toList F1 H1=some v1/\Weak 2 [v1] H1 [.int .i64 w.2] [rlB 1 w.1,.obj true w.1.d.blks]
theorem zKu(w:RL)(hd:w.d.small)(e:En)(he:okE e)(s:List UInt8)(hs:frE e=s):Sim Pz none 2 (zAY 3 (zAU Tryz.f106)) roF (roH w e)
   (roQ (⟨(w.d.append (wn w.file) s).1,w.most,w.file,w.next,w.done,w.bad⟩,(w.d.append (wn w.file) s).2)):=by
 have hΓ:=zMD;obtain⟨d,m,f,n,dn,bd⟩:=w;obtain⟨ew,en,eg⟩:=e;dsimp only at hd ⊢;have hwn:mk 3 (f:Int)=wn f:=rfl;obtain⟨k,hk⟩:∃k,wn f=k:=⟨_,rfl⟩
 rw[hk]at hwn ⊢;have hsl:s.length<=1000000000000:=by rw[<-hs];have:=zQK (ew,en,eg);omega
 obtain⟨⟨d1,e1⟩,hc⟩:∃z,d.append k s=z:=⟨_,rfl⟩
 rw[hc];unfold roQ;simp only[zAU,Tryz.f106,rgZ,zAY,roF,roH,rlB,rlC,qbZ,q9Z,qaZ];refine Sim.seq (Sim.draw hmix (by simp) ?_);refine SimR.many hΓ 12 (by simp[zF];rfl) (by omega) (by kernel_rfl) (by simp +decide [zJO,zCb,zBY,hwn,he,hs,free];first | exact wR | exact⟨by kernel_rfl,wR⟩) ?_;refine SimR.one hΓ _ rfl (by kernel_rfl) (by simp +decide [zJO,zFQ,zCW,ZY,hd,hsl,hc];exact wR) ?_;refine SimR.many hΓ 14 (by simp[zF,zW];rfl) (by omega) (by kernel_rfl) (by simp +decide;first | exact wR | exact⟨by kernel_rfl,wR⟩) ?_;refine SimR.done rfl ?_;dsimp only;refine wE hΓ (by simp;exact wT) ?_;exact⟨.inr rfl,_,by simp <;> rfl,wW [0,1] (by simp[AWb,AW])⟩
theorem zLI(w:RL){A B:Nat}(h:RLok w A B)(hA:A+20<=800000)(hB:B<=500000000000)(hn:w.next<=1000000001)(e:En)(he:okE e)(s:List UInt8)(hs:frE e=s)(hw:w.file=0\/w.most<=w.size) :
   Sim Pz none 2 (zAY 2 (zAU Tryz.f106)) roF (roH w e)
   (roQ (if w.fresh.2=0 then (⟨(w.fresh.1.d.append (wn w.fresh.1.file) s).1,w.fresh.1.most,w.fresh.1.file,w.fresh.1.next,w.fresh.1.done,w.fresh.1.bad⟩,(w.fresh.1.d.append (wn w.fresh.1.file) s).2) else w.fresh)):=by
 have hΓ:=zMD;have hd:w.d.small:=h.small (by omega) (by omega);have hd1:(w.d.create (wn w.next)).1.small:=h.create _ (by omega) (by omega);have hf:=h.fresh;have hfd:w.fresh.1.d.small:=hf.small (by omega) (by omega);have hend:=zKu w.fresh.1 hfd e he s hs;obtain⟨⟨d,m,f,n,dn,bd⟩,hw0⟩:∃z,w=z:=⟨_,rfl⟩
 obtain⟨⟨d2,m2,f2,n2,dn2,bd2⟩,hw2⟩:∃z,w.fresh.1=z:=⟨_,rfl⟩
 obtain⟨e2,he2⟩:∃z,w.fresh.2=z:=⟨_,rfl⟩
 obtain⟨sz,hsz⟩:∃z,w.size=z:=⟨_,rfl⟩
 have hfe:w.fresh=(⟨d2,m2,f2,n2,dn2,bd2⟩,e2):=Prod.ext hw2 he2;obtain⟨ew,en,eg⟩:=e;rw[hfe]at hend ⊢;rw[hsz]at hw;rw[hw0]at hw hsz hfe hd hd1 hn ⊢;dsimp only at hw hd hd1 hn hend ⊢;unfold roQ at hend ⊢;simp only[zAU,Tryz.f106,rgZ,zAY,roF,roH,rlB,rlC,qbZ,q9Z,qaZ]at hend ⊢;refine Sim.seq ?_;by_cases h0:f=0
 · subst h0
   refine wS hΓ (by simp +decide;first | exact wR | exact⟨by kernel_rfl,wR⟩) ?_;refine Sim.cond (t:=true) (by simp) ?_;rw[if_pos rfl];refine wS hΓ (by simp +decide [zJO,zGO,rlS,hd,hd1,hn,hfe];exact wR) ?_;by_cases he2:e2=0
   · subst he2
     rw[if_pos rfl] ;refine wE hΓ (by simp +decide;exact wT) ?_;dsimp only;refine Sim.weak (Weak.mk' [0,1,2] (by decide) (by decide) (by simp[AWs,AW]) (by simp[AWb,AW,AWg,rlC,AWs])) (by simp) hend
   · rw[if_neg he2]
     have hne:(e2 != 0)=true:=by simpa using he2
     refine wE hΓ (by simp +decide [he2,hne];exact wT) ?_;exact⟨.inr rfl,_,by simp <;> rfl,wW [0,1] (by simp[AWb,AW,rlC])⟩
 · have hI:((f:Int)==0)=false:=by simp;omega
   have hwm:m<=sz:=hw.resolve_left h0;have hrs:zBv [.ptr 0 0] [.cells true [.ptr 1 0,.int .i64 m,.int .i64 f,.int .i64 n,.bool bd,.int .i64 dn],.obj true d.blks,.cells true [.str ew,.int .u32 en,.bool eg]]=some (.int .i64 sz,[.cells true [.ptr 1 0,.int .i64 m,.int .i64 f,.int .i64 n,.bool bd,.int .i64 dn],.obj true d.blks,.cells true [.str ew,.int .u32 en,.bool eg]],[]):=by
     simp[zBv,hd,hsz]
   refine wS hΓ (by simp +decide [zJO,hrs,h0,hI,hwm];first | exact wR | exact⟨by kernel_rfl,wR⟩) ?_;refine Sim.cond (t:=true) (by simp) ?_;rw[if_pos rfl];refine wS hΓ (by simp +decide [zJO,zGO,rlS,hd,hd1,hn,hfe];exact wR) ?_;by_cases he2:e2=0
   · subst he2
     rw[if_pos rfl] ;refine wE hΓ (by simp +decide;exact wT) ?_;dsimp only;refine Sim.weak (Weak.mk' [0,1,2] (by decide) (by decide) (by simp[AWs,AW]) (by simp[AWb,AW,AWg,rlC,AWs])) (by simp) hend
   · rw[if_neg he2]
     have hne:(e2 != 0)=true:=by simpa using he2
     refine wE hΓ (by simp +decide [he2,hne];exact wT) ?_;exact⟨.inr rfl,_,by simp <;> rfl,wW [0,1] (by simp[AWb,AW,rlC])⟩
theorem zT0(w:RL){A B:Nat}(h:RLok w A B)(hA:A+30<=800000)(hB:B<=400000000000)(hn:w.next<=1000000001)(e:En)(he:okE e) :
   Ct Pz 106 [.ptr 0 0,.agg [.str e.1,.int .u32 e.2.1,.bool e.2.2]] [rlB 1 w,.obj true w.d.blks] (.int .i64 (w.one (frE e)).2) [rlB 1 (w.one (frE e)).1,.obj true (w.one (frE e)).1.d.blks]:=by
 have hΓ:=zMD;have hd:w.d.small:=h.small (by omega) (by omega);have hend:=zKu w hd e he _ rfl;have hnew:=fun hw=>zLI w h (by omega) (by omega) hn e he _ rfl hw;have hs1:=h.sync1;have hnew1:=fun hw=>zLI _ hs1 (by omega) (by omega) hn e he _ rfl hw;refine zE Tryz.func106 rfl ?_;obtain⟨⟨d,m,f,n,dn,bd⟩,hw0⟩:∃z,w=z:=⟨_,rfl⟩
 obtain⟨ew,en,eg⟩:=e;obtain⟨sz,hsz⟩:∃z,w.size=z:=⟨_,rfl⟩
 obtain⟨s,hs⟩:∃s,frE (ew,en,eg)=s:=⟨_,rfl⟩
 rw[hs]at hend hnew hnew1 ⊢;rw[hw0]at hend hnew hnew1 hsz hd ⊢;dsimp only at hend hnew hnew1 hd ⊢;unfold roQ at hend hnew hnew1;simp only[zAU,Tryz.f106,rgZ,zAY,roF,roH,rlB,rlC,qbZ,q9Z,qaZ]at hend hnew hnew1;simp only[rlB,rlC,Tryz.ntmps106,q7Z,q8Z,Nat.reduceAdd,Nat.reduceSub,qbZ,q9Z,qaZ];refine wS hΓ (by simp;exact wR) ?_;refine Sim.seq ?_;by_cases h0:f=0
 · subst h0
   have e1:RL.ready ⟨d,m,0,n,dn,bd⟩=RL.fresh ⟨d,m,0,n,dn,bd⟩:=by unfold RL.ready;rw[if_pos rfl]
   have hq:=hnew (.inl rfl);unfold RL.one;rw[e1];refine wS hΓ (by simp +decide;first | exact wR | exact⟨by kernel_rfl,wR⟩) ?_;refine Sim.cond (t:=false) (by simp) ?_;rw[if_neg (by decide)];refine wE hΓ (by simp;exact wT) ?_;dsimp only;exact Sim.weak (Weak.mk' [0,1,2] (by decide) (by decide) (by simp[AWs,AW]) (by simp[AWb,AW,AWg,AWs])) (by simp) hq
 have hI:((f:Int)==0)=false:=by simp;omega
 have hI2:(0:Int)<f:=by omega
 have hI3:0<f:=by omega
 have hrs:zBv [.ptr 0 0] [.cells true [.ptr 1 0,.int .i64 m,.int .i64 f,.int .i64 n,.bool bd,.int .i64 dn],.obj true d.blks,.cells true [.str ew,.int .u32 en,.bool eg]]=some (.int .i64 sz,[.cells true [.ptr 1 0,.int .i64 m,.int .i64 f,.int .i64 n,.bool bd,.int .i64 dn],.obj true d.blks,.cells true [.str ew,.int .u32 en,.bool eg]],[]):=by
   simp[zBv,hd,hsz]
 by_cases hwm:m<=sz
 · -- it is full
   have hwn:mk 3 (f:Int)=wn f:=rfl;obtain⟨k,hk⟩:∃k,wn f=k:=⟨_,rfl⟩
   rw[hk]at hwn hnew1;have e1:RL.ready ⟨d,m,f,n,dn,bd⟩=if (d.sync k).2=0 then RL.fresh ⟨(d.sync k).1,m,f,n,dn,bd⟩ else (⟨(d.sync k).1,m,f,n,dn,bd⟩,(d.sync k).2):=by
     unfold RL.ready;rw[if_neg h0,hsz,if_pos hwm];dsimp only;rw[hk]
   have e2:(d.sync k).2=0->RL.size ⟨(d.sync k).1,m,f,n,dn,bd⟩=sz:=fun hz=>by
     rw[<-hsz];unfold RL.size;dsimp only;rw[if_neg h0,if_neg h0,hk,RS.size_sync hz]
   unfold RL.one;rw[e1];obtain⟨⟨d1,e1'⟩,hc⟩:∃z,d.sync k=z:=⟨_,rfl⟩
   rw[hc]at hnew1 e2 ⊢;dsimp only at hnew1 e2 ⊢;refine wS hΓ (by simp +decide [zJO,hrs,h0,hI,hI2,hI3,hwm];first | exact wR | exact⟨by kernel_rfl,wR⟩) ?_;refine Sim.cond (t:=true) (by simp) ?_;rw[if_pos rfl];refine Sim.seq (Sim.draw hmix (by simp) ?_);refine SimR.many hΓ 9 (by simp[zF];rfl) (by omega) (by kernel_rfl) (by simp +decide [zJO,zCb,hwn];first | exact wR | exact⟨by kernel_rfl,wR⟩) ?_;refine SimR.one hΓ _ rfl (by kernel_rfl) (by simp +decide [zJO,zJq,hd,hc];exact wR) ?_;refine SimR.many hΓ 11 (by simp[zF,zW];rfl) (by omega) (by kernel_rfl) (by simp +decide;first | exact wR | exact⟨by kernel_rfl,wR⟩) ?_;refine SimR.done rfl ?_;dsimp only;by_cases hz:e1'=0
   · subst hz
     have hq:=hnew1 (.inr (by rw[e2 rfl];exact hwm));rw[if_pos rfl];refine wE hΓ (by simp +decide;exact wT) ?_;dsimp only;exact Sim.weak (Weak.mk' [0,1,2] (by decide) (by decide) (by simp[AWs,AW]) (by simp[AWb,AW,AWg,AWs])) (by simp) hq
   · rw[if_neg hz]
     have hne:(e1' != 0)=true:=by simpa using hz
     rw[if_neg hz];refine wE hΓ (by simp +decide [hz,hne];exact wT) ?_;exact⟨.inr rfl,_,by simp[Tryz.f106] <;> rfl,wW [0,1] (by simp[AWb,AW])⟩
 · have e1:RL.ready ⟨d,m,f,n,dn,bd⟩=(⟨d,m,f,n,dn,bd⟩,0):=by unfold RL.ready;rw[if_neg h0,hsz,if_neg hwm]
   unfold RL.one;rw[e1];refine wS hΓ (by simp +decide [zJO,hrs,h0,hI,hI2,hI3,hwm];first | exact wR | exact⟨by kernel_rfl,wR⟩) ?_;refine Sim.cond (t:=false) (by simp) ?_;rw[if_neg (by decide)];refine wE hΓ (by simp;exact wT) ?_;dsimp only;refine Sim.seq (wS hΓ (by simp +decide [zJO,hrs,h0,hI,hI2,hI3,hwm];first | exact wR | exact⟨by kernel_rfl,wR⟩) ?_);refine Sim.cond (t:=false) (by simp) ?_;rw[if_neg (by decide)];refine wE hΓ (by simp;exact wT) ?_;dsimp only;exact Sim.weak (Weak.mk' [0,1,2] (by decide) (by decide) (by simp[AWs,AW]) (by simp[AWb,AW,AWg,AWs])) (by simp) hend
open Classical in
noncomputable def zL9:zJ:=rlS fun w xs=>match xs with
 | [.agg [.str ew,.int .u32 en,.bool eg]]=>if RLok w 700000 300000000000/\w.next<=1000000001/\okE (ew,en,eg) then some ((w.one (frE (ew,en,eg))).1,.int .i64 (w.one (frE (ew,en,eg))).2) else none
 | _=>none
theorem zNP:Sound Pz 106 zL9:=by
 refine zJG (zD Tryz.func106 rfl (by decide)) fun w xs w' v hg=>?_;split at hg;rotate_left
 · cases hg
 split at hg <;> cases hg
 rename_i hs;exact⟨rfl,fun _=>rfl,zT0 w hs.1 (by decide) (by decide) hs.2.1 _ hs.2.2⟩
theorem RL.fresh_next{w:RL}(h:w.next<=1000000001):w.fresh.1.next<=1000000001:=by
 unfold RL.fresh;split
 · exact h
 · split
   · split
     · dsimp only;omega
     · exact h
   · exact h
theorem RL.ready_next{w:RL}(h:w.next<=1000000001):w.ready.1.next<=1000000001:=by
 unfold RL.ready;split
 · exact RL.fresh_next h
 · split
   · split
     · exact RL.fresh_next h
     · exact h
   · exact h
theorem RL.one_next{w:RL}(h:w.next<=1000000001)(s:List UInt8):(w.one s).1.next<=1000000001:=by
 unfold RL.one;split
 · exact RL.ready_next h
 · exact RL.ready_next h
theorem RL.fresh_done(w:RL):w.fresh.1.done=w.done:=by
 unfold RL.fresh;split
 · rfl
 · split
   · split <;> rfl
   · rfl
theorem RL.ready_done(w:RL):w.ready.1.done=w.done:=by
 unfold RL.ready;split
 · exact RL.fresh_done w
 · split
   · split
     · exact RL.fresh_done _
     · rfl
   · rfl
theorem RL.one_done(w:RL)(s:List UInt8):(w.one s).1.done=w.done:=by
 unfold RL.one;split
 · exact RL.ready_done w
 · exact RL.ready_done w
theorem RL.fresh_bad(w:RL):w.fresh.1.bad=w.bad:=by
 unfold RL.fresh;split
 · rfl
 · split
   · split <;> rfl
   · rfl
theorem RL.ready_bad(w:RL):w.ready.1.bad=w.bad:=by
 unfold RL.ready;split
 · exact RL.fresh_bad w
 · split
   · split
     · exact RL.fresh_bad _
     · rfl
   · rfl
theorem RL.one_bad(w:RL)(s:List UInt8):(w.one s).1.bad=w.bad:=by
 unfold RL.one;split
 · exact RL.ready_bad w
 · exact RL.ready_bad w
theorem RLok.add{w:RL}{A B:Nat}(h:RLok w A B)(hb:w.bad=false)(s:List UInt8):RLok (w.add s).1 (A+6) (B+1048576):=by
 obtain⟨W,h1,h2⟩:=h;exact⟨(W.add s).1,(h1.add (by rw[<-h1.bad];exact hb) s h2).1,by rw[(zL5 h1.rd.ok h2 s).2];exact h2⟩
def RL.appends(w:RL)(es:List En):RL×Int:=if w.bad=true then (w,11) else if es.all (fun e=>okW e.1)=true then w.adds (es.map frE) else (w,7)
def zGX(es:List En):Prop:=∀e∈es,okN e.2.1=true/\(e.2.2=true->e.2.1=0)
noncomputable def zRn:Gam:=zZ [(20,zBY),(106,zL9)]
theorem zUR:GOk Pz zRn:=zB zCZ (zB zNP zC)
theorem zO4(w:RL){A B:Nat}(h:RLok w A B)(hn:w.next<=1000000001)(hdn:0<=w.done/\w.done<=1000000000)(o:Bool)(es:List En)(hes:zGX es)(hl:es.length<=1000)(hA:A+6*es.length<=700000)(hB:B+1048576*es.length<=300000000000)(c:Bool) :
   Ct Pz 27 [.ptr 0 0,.sl 2 0 es.length 3 c] [rlB 1 w,.obj true w.d.blks,.cells o (zb es)] (.int .i64 (w.appends es).2) [rlB 1 (w.appends es).1,.obj true (w.appends es).1.d.blks,.cells o (zb es)]:=by
 have hΓ:=zUR;obtain⟨W,hW⟩:∃W,w.appends es=W:=⟨_,rfl⟩
 have hfe:=ZD es;have hA1:∀rn:List Nat,AWs rn (zb es) (zb es):=fun rn=>AWs.refl _ _ hfe;obtain⟨L,hL⟩:∃L,es.length=L:=⟨_,rfl⟩
 rw[hW];rw[hL]at hl hA hB ⊢;refine zE Tryz.func27 rfl ?_;obtain⟨d0,m0,f0,n0,dn0,bd0⟩:=w;dsimp only at hn hdn;simp only[rlB,rlC,Tryz.ntmps27,q7Z,q8Z,Nat.reduceAdd,Nat.reduceSub,qbZ,q9Z,qaZ];unfold RL.appends at hW;dsimp only at hW;refine wS hΓ (by simp;exact wR) ?_;cases bd0 with
 | true =>
   rw[if_pos rfl]at hW;subst hW;refine wE hΓ (by simp +decide;exact wT) ?_;exact⟨.inr rfl,_,by simp[Tryz.f27] <;> rfl,wW [0,1,2] (by simp[AWb,AW,hA1])⟩
 | false =>
 rw[if_neg (by decide)]at hW;have hcell:∀k (hk:k<es.length),(zb es).length=es.length*3:=fun k hk=>Z4 es;have el:(zb es).length=L*3:=by rw[Z4,hL]
 refine wS hΓ (by simp +decide;exact wR) ?_;refine Sim.seq (wS hΓ (by simp +decide;exact wR) ?_);refine Sim.block (Sim.loopW (fun k:Nat=>k<=L/\∀i (hi:i<es.length),i<k->okW es[i].1=true) (fun k=>[.ptr 0 0,.sl 2 0 L 3 c,.top,.top,.top,.int .i64 k]++qbZ 43 .top)
   (fun _=>[.cells true [.ptr 1 0,.int .i64 m0,.int .i64 f0,.int .i64 n0,.bool false,.int .i64 dn0],.obj true d0.blks,.cells o (zb es)]) (fun k=>L-k) 0 (by simp) ⟨qqZ _,fun i hi h=>absurd h (by omega)⟩ (Weak.mk' [0,1,2] (by decide) (by decide) (by simp[AWs,AW]) (by simp[AWb,AW,AWg,AWs,hA1])) fun k hk=>?_)
 obtain⟨hk,hk1⟩:=hk;by_cases hlt:k<L
 · have hltI:(k:Int)<L:=by omega
   have hke:k<es.length:=by omega
   obtain⟨e,he⟩:∃e,es[k]=e:=⟨_,rfl⟩
   have g:=zGW es k hke;rw[he]at g;obtain⟨ew,en,eg⟩:=e;simp only[enA]at g;obtain⟨a1,a2⟩:=hes (ew,en,eg) (by rw[<-he];exact r3Z hke);dsimp only at a1 a2;have y1:IntKind.i64.wrap ((k:Int)+1)=k+1:=zI (by omega) (by omega);have k3:k*3+3<=L*3:=by omega
   refine wS hΓ (by simp[hltI];exact wR) ?_;refine Sim.seq (Sim.block ?_);by_cases hw:okW ew=true
   · have hok:okE (ew,en,eg):=⟨hw,a1,a2⟩
     have hne:=zYk hok;obtain⟨s,hs⟩:∃s,frE (ew,en,eg)=s:=⟨_,rfl⟩
     rw[hs]at hne;have hs0:s≠[]:=fun h=>by rw[h]at hne;simp at hne
     have hs1:(s==[])=false:=by simpa using hs0
     refine wE hΓ (by simp +decide [zRn,zBY,hlt,hL,el,g,k3,hok,hs,hs0,hs1];exact wT) ?_;dsimp only;refine wE hΓ (by simp[y1];exact wT) ?_;refine ⟨k+1,⟨by omega,fun i hi h=>?_⟩,wW [0,1,2] (by simp[AWb,AW,hA1]),by omega⟩;by_cases hik:i=k
     · subst hik;rw[he];exact hw
     · exact hk1 i hi (by omega)
   · have hw':okW ew=false:=by simpa using hw
     have hnok:¬okE (ew,en,eg):=fun h=>by have:=h.1;rw[hw']at this;cases this
     have hall:es.all (fun e=>okW e.1)=false:=by
       rw[List.all_eq_false];exact⟨(ew,en,eg),by rw[<-he];exact r3Z hke,by dsimp only;rw[hw'];decide⟩
     rw[hall,if_neg (by decide)]at hW;subst hW;refine wE hΓ (by simp +decide [zRn,zBY,hlt,hL,el,g,k3,hnok,hw',a1];exact wT) ?_;exact⟨.inr rfl,_,by simp[Tryz.f27] <;> rfl,wW [0,1,2] (by simp[AWb,AW,hA1])⟩
 have hke:k=L:=by omega
 subst hke;have hall:es.all (fun e=>okW e.1)=true:=by
   rw[s5Z];intro e he;obtain⟨i,hi,rfl⟩:=List.getElem_of_mem he;exact hk1 i hi (by omega)
 rw[hall,if_pos rfl]at hW;have hokE:∀e∈es,okE e:=fun e he=>⟨s5Z.1 hall e he,hes e he⟩
 refine wE hΓ (by simp;exact wT) ?_;dsimp only;rw[if_pos rfl];refine Sim.seq (wS hΓ (by simp +decide;exact wR) ?_);refine Sim.block (Sim.loopW (fun r:Nat×RL=>r.1<=k/\r.2.adds ((es.drop r.1).map frE)=W/\RLok r.2 (A+6*r.1) (B+1048576*r.1)/\r.2.next<=1000000001/\r.2.bad=false/\0<=r.2.done/\r.2.done<=1000000000+r.1) (fun r=>[.ptr 0 0,.sl 2 0 k 3 c,.top,.top,.top,.top,.int .i64 r.1]++qbZ 42 .top)
   (fun r=>[rlB 1 r.2,.obj true r.2.d.blks,.cells o (zb es)]) (fun r=>k-r.1) (0,⟨d0,m0,f0,n0,dn0,false⟩) (by simp) ⟨qqZ _,hW,by simpa using h,hn,rfl,hdn.1,by simpa using hdn.2⟩ (Weak.mk' [0,1,2] (by decide) (by decide) (by simp[AWs,AW]) (by simp[AWb,AW,AWg,AWs,hA1,rlC])) fun r hr=>?_)
 obtain⟨i,wi⟩:=r;obtain⟨hi,hi1,hi2,hi3,hi4,hi5,hi6⟩:=hr;dsimp only at hi hi1 hi2 hi3 hi4 hi5 hi6 ⊢;have hwi2:RLok wi 700000 300000000000:=hi2.mono (by omega) (by omega);by_cases hlt:i<k
 · have hltI:(i:Int)<k:=by omega
   have hie:i<es.length:=by omega
   obtain⟨e,he⟩:∃e,es[i]=e:=⟨_,rfl⟩
   have g:=zGW es i hie;rw[he]at g;have hok:=hokE e (by rw[<-he];exact r3Z hie);have hdr:es.drop i=e::es.drop (i+1):=by rw[List.drop_eq_getElem_cons hie,he]
   rw[hdr,s1Z]at hi1;obtain⟨s,hs⟩:∃s,frE e=s:=⟨_,rfl⟩
   rw[hs]at hi1;have hadd:=hi2.add hi4 s;have hnx:=RL.one_next hi3 s;have hdn1:=RL.one_done wi s;have hbd1:=RL.one_bad wi s;obtain⟨ew,en,eg⟩:=e;simp only[enA]at g;have y1:IntKind.i64.wrap ((i:Int)+1)=i+1:=zI (by omega) (by omega);have y2:IntKind.i64.wrap (wi.done+1)=wi.done+1:=zI (by omega) (by omega);have k3:i*3+3<=k*3:=by omega
   unfold RL.adds at hi1;have hae:wi.add s=if (wi.one s).2=0 then (⟨(wi.one s).1.d,(wi.one s).1.most,(wi.one s).1.file,(wi.one s).1.next,(wi.one s).1.done+1,(wi.one s).1.bad⟩,0) else (⟨(wi.one s).1.d,(wi.one s).1.most,(wi.one s).1.file,(wi.one s).1.next,(wi.one s).1.done,true⟩,(wi.one s).2):=rfl
   obtain⟨⟨⟨d1,m1,f1,n1,dn1,bd1⟩,e1⟩,ho⟩:∃z,wi.one s=z:=⟨_,rfl⟩
   rw[ho]at hae hnx hdn1 hbd1;dsimp only at hae hnx hdn1 hbd1;rw[hi4]at hbd1;subst hbd1;have hone:zL9 [.ptr 0 0,.agg [.str ew,.int .u32 en,.bool eg]] [rlB 1 wi,.obj true wi.d.blks,.cells o (zb es)]=some (.int .i64 e1,[rlB 1 ⟨d1,m1,f1,n1,dn1,false⟩,.obj true d1.blks,.cells o (zb es)],[0,1]):=by
     simp[zL9,rlS,hwi2,hi3,hok,hs,ho]
   refine wS hΓ (by simp[hltI];exact wR) ?_;refine Sim.seq (Sim.block ?_);refine wS hΓ (by simp +decide [zRn,hone,hlt,hL,el,g,k3];exact wR) ?_;by_cases hz:e1=0
   · subst hz
     rw[if_pos rfl]at hae;rw[hae]at hi1 hadd;dsimp only at hi1 hadd;rw[if_pos rfl]at hi1;have y3:IntKind.i64.wrap (dn1+1)=dn1+1:=by rw[hdn1];exact y2
     refine Sim.seq (wE hΓ (by simp +decide;exact wT) ?_);dsimp only;refine wE hΓ (by simp +decide [rlC,y3];exact wT) ?_;dsimp only;refine wE hΓ (by simp[y1];exact wT) ?_;exact⟨(i+1,⟨d1,m1,f1,n1,dn1+1,false⟩),⟨by dsimp only;omega,hi1,hadd.mono (by dsimp only;omega) (by dsimp only;omega),hnx,rfl,by dsimp only;omega,by dsimp only;omega⟩,wW [0,1,2] (by simp[AWb,AW,hA1,rlC,rlB]),by dsimp only;omega⟩
   · rw[if_neg hz]at hae
     rw[hae]at hi1;dsimp only at hi1;rw[if_neg hz]at hi1;subst hi1;have hne:(e1 != 0)=true:=by simpa using hz
     refine wE hΓ (by simp +decide [rlC,hz,hne];exact wT) ?_;exact⟨.inr rfl,_,by simp[Tryz.f27] <;> rfl,wW [0,1,2] (by simp[AWb,AW,hA1,rlC,rlB])⟩
 · have hik:i=k:=by omega
   subst hik;rw[List.drop_of_length_le (by omega)]at hi1;have hi1:(wi,(0:Int))=W:=hi1;subst hi1;refine wE hΓ (by simp;exact wT) ?_;dsimp only;rw[if_pos rfl];refine wE hΓ (by simp;exact wT) ?_;exact⟨.inr rfl,_,by simp[Tryz.f27] <;> rfl,wW [0,1,2] (by simp[AWb,AW,hA1,rlC])⟩
open Classical in
noncomputable def zG1:zJ:=fun args H=>match args with
 | [.ptr b 0,.sl e 0 n 3 _c]=>match H[b]?,H[e]? with
   | some (.cells true l),some (.cells _o r)=>match zMT l with
     | some (q,m,f,nx,bd,dn)=>match H[q]? with
       | some (.obj true sub)=>match zDQ sub,zDo r with
         | some d,some es=>if n=es.length/\zGX es/\es.length<=1000/\RLok ⟨d,m,f,nx,dn,bd⟩ 600000 200000000000/\nx<=1000000001/\(0<=dn/\dn<=1000000000)/\b≠e then
             some (.int .i64 ((⟨d,m,f,nx,dn,bd⟩:RL).appends es).2,(H.set b (rlB q ((⟨d,m,f,nx,dn,bd⟩:RL).appends es).1)).set q (.obj true ((⟨d,m,f,nx,dn,bd⟩:RL).appends es).1.d.blks),[b,q]) else none
         | _,_=>none
       | _=>none
     | none=>none
   | _,_=>none
 | _=>none
theorem zOj:Sound Pz 27 zG1:=by
 have key:∀args H v H' W,zG1 args H=some (v,H',W)->∃b q B C,W=[b,q]/\H'=(H.set b B).set q C/\Ct Pz 27 args H v H':=by
   intro args H v H' W hs;unfold zG1 at hs;split at hs <;> try cases hs
   rename_i b e n c;split at hs <;> try cases hs
   rename_i l o r hb he;split at hs <;> try cases hs
   rename_i q m f nx bd dn hw;split at hs <;> try cases hs
   rename_i sub hq;split at hs <;> try cases hs
   rename_i d es hd hes;split at hs <;> cases hs
   rename_i hc;obtain⟨rfl,h1,h2,h3,h4,h5,hbe⟩:=hc;have e1:=zAE hd;have e2:=zIA hw;have e3:=zGi hes;subst e1;subst e2;subst e3
   refine ⟨b,q,_,_,rfl,rfl,?_⟩;have hbl:b<H.length:=(q1Z.1 hb).1;have hel:e<H.length:=(q1Z.1 he).1;have hql:q<H.length:=(q1Z.1 hq).1;have hne:b≠q:=by rintro rfl;rw[hb]at hq;cases hq
   have hne2:q≠e:=by rintro rfl;rw[he]at hq;cases hq
   have hct:=zO4 ⟨d,m,f,nx,dn,bd⟩ h3 h4 h5 o es h1 h2 (by omega) (by omega) c;obtain⟨⟨⟨d',m',f',n',dn',bd'⟩,v'⟩,hw'⟩:∃w',(⟨d,m,f,nx,dn,bd⟩:RL).appends es=w':=⟨_,rfl⟩
   rw[hw']at hct ⊢;have:=zP (H:=H) (args:=[.ptr b 0,.sl e 0 es.length 3 c]) hct [b,q,e] (by simp[hne,hbe,hne2]) (by simp[AWs,AW]) ⟨by rw[q2Z,hb];simp[AWb,rlB,rlC,AW],hbl,by rw[q2Z,hq];exact⟨rfl,rfl⟩,hql,by rw[q2Z,he];exact⟨by simp,AWs.refl _ _ (ZD es)⟩,hel,trivial⟩ rfl;have re:∀g,zj g (zb es)=zb es:=fun g=>zBD g _ (ZD es);have se:∀A C:ABlk,(((H.set b A).set q C).set e (.cells true (zb es)))=if o=true then (H.set b A).set q C else (((H.set b A).set q C).set e (.cells true (zb es))):=fun A C=>by
     cases o with
     | true =>
       rw[if_pos rfl];have:((H.set b A).set q C)[e]? = some (.cells true (zb es)):=by rw[qfZ hne2,qfZ hbe];exact he
       obtain⟨k1,k2⟩:=q1Z.1 this;rw[<-k2,List.set_getElem_self]
     | false=>rfl
   cases o with
   | true =>
     have se1:=fun A C=>se A C;simp only[if_true]at se1;simpa[zN,ABlk.own,reB,reA,zj,rlB,rlC,zn,re,se1] using this
   | false=>simpa[zN,ABlk.own,reB,reA,zj,rlB,rlC,zn,re] using this
 refine ⟨zD Tryz.func27 rfl (by decide),fun args H v H' W hs=>?_,fun args H v H' W hs=>?_⟩
 · obtain⟨b,q,B,C,_,_,h⟩:=key args H v H' W hs
   exact h
 · obtain⟨b,q,B,C,rfl,rfl,_⟩:=key args H v H' W hs
   refine ⟨by simp,fun c hc hn=>?_⟩;simp only[qwZ,rtZ,or_false,not_or]at hn;rw[qfZ (Ne.symm hn.2),qfZ (Ne.symm hn.1)]
end
end Go.Proofs.YtfhidaoiofeooaaGreatDoor
