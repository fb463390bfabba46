/- Parts of the proof of DiskTells: lemmas, each with its own conditions. -/
import Derived.Test.YtfhidaoiofeooaaGreatY16
set_option maxHeartbeats 64000000
open List renaming getElem?_eq_some_iff → q1Z, getElem?_eq_getElem → q3Z, getElem?_append_left → q4Z, take_of_length_le → q6Z, length_cons → q7Z, length_nil → q8Z, cons_append → q9Z, nil_append → qaZ, replicate → qbZ, mem_of_getElem? → qcZ, length_append → qdZ, getElem?_set_ne → qfZ, mem_cons_self → qhZ, mem_cons_of_mem → qiZ, length_take → qjZ, mem_cons → qwZ, getElem?_map → qzZ, append_nil → r2Z, getElem?_take → r4Z, getElem?_drop → r5Z, take_append_drop → r6Z, length_map → r7Z, length_set → r8Z, flatten_cons → rcZ, mem_map → reZ, map_append → roZ, map_cons → s1Z, set_cons_zero → s9Z, flatten_append → sgZ
open Nat renaming zero_le → qqZ, zero_add → s8Z
namespace Go.Proofs.YtfhidaoiofeooaaGreat
open _root_.Go.Proofs.Tryz renaming prog → Pz
set_option maxRecDepth 100000
section
open Go Go.Lib
attribute [-simp] zN zr ZI zT ZL
theorem RS.text_le{r:RS}{A B:Nat}(h:r.ok A B)(k:List UInt8):(r.text k).length<=B:=by
 unfold RS.text RS.file
 cases hk:NM.get r.dir.now k with
 | none=>simp
 | some z =>
   obtain⟨i,f,e1,e2,e3,e4,_⟩:=zAN h hk id;simp only[e1,e3];exact PF.ok_now e4
theorem RS.list_le{r:RS}{A B:Nat}(h:r.ok A B):r.list.length<=A:=by
 unfold RS.list;split
 · simp
 · unfold RF.names
   rw[r7Z];exact h.dir.row _ (qcZ (RF.now_get h.dir.ne))
theorem zG6{C:Nat}:∀(l:List Nat),(∀x∈l,x<=C)->l.sum<=l.length*C
 | [],_=>by simp
 | a::l,h=>by
   have h1:=h a (qhZ ..)
   have h2:=zG6 l fun x hx=>h x (qiZ _ hx)
   rw[List.sum_cons,q7Z,Nat.add_mul];omega
theorem zQ9(l:List (List UInt8×List UInt8))(k:Nat)(h:k<l.length):(∀h',(flA l)[k*2+1]'h'=.str l[k].2)/\(flA l)[k*2+1]? = some (.str l[k].2):=by
 have e:(flA l)[k*2+1]? = some (.str l[k].2):=by
   have:=zCY l k h
   have h2:(((flA l).drop (k*2)).take 2)[1]? = some (.str l[k].2):=by rw[this];rfl
   rw[r4Z,if_pos (by decide),r5Z]at h2
   exact h2
 exact⟨fun h'=>(q1Z.1 e).2,e⟩
def zBu(l:List (List UInt8×List UInt8)):Nat:=(l.map fun e=>e.2.length).sum
theorem zO0(l:List (List UInt8×List UInt8))(i:Nat)(h:i<l.length):zBu (l.take (i+1))=zBu (l.take i)+l[i].2.length:=by
 unfold zBu;rw[List.take_succ_eq_append_getElem h];simp only[roZ,List.sum_append,s1Z,List.map_nil,List.sum_cons,List.sum_nil,Nat.add_zero]
theorem RS.used_eq(r:RS):r.used=zBu r.files:=by
 unfold RS.used zBu RS.files
 rw[List.map_map];rfl
theorem zH5{r:RS}{A B:Nat}(h:r.ok A B)(i:Nat):zBu (r.files.take i)<=A*B:=by
 unfold zBu
 have h1:=zG6 (C:=B) ((r.files.take i).map fun e=>e.2.length) fun x hx=>by
   obtain⟨e,he,rfl⟩:=reZ.1 hx;obtain⟨k,_,rfl⟩:=reZ.1 (List.mem_of_mem_take he);exact RS.text_le h k
 have h2:((r.files.take i).map fun e=>e.2.length).length<=A:=by
   rw[r7Z,qjZ];have:=RS.list_le h
   have h3:r.files.length=r.list.length:=by unfold RS.files;rw[r7Z]
   omega
 exact Nat.le_trans h1 (Nat.mul_le_mul_right B h2)
theorem zM2{H:zA}{r:RS}{fo m:Nat}{g:Nat->Nat}{c:Bool}(ha:RAt H r (.sl m 0 r.F.length 1 c) 0 fo m g){A B:Nat}(hok:r.ok A B)(hA:A<=1000000)(hB:B<=1000000000000)(hid:SelfW H) :
   Ct Pz 66 [.ptr 0 0] H (.int .i64 r.used) H:=by
 have hfc:=zJw ha hok hA hB hid;have l0:0<H.length:=(q1Z.1 ha.c0).1
 have hΓ:GOk Pz (zo [(62,zCy [.ptr 0 0] H (.sl H.length 0 r.files.length 2 false) (H++[.cells true (flA r.files)]))]) :=
   zB (ZH (zE Tryz.func62 rfl (by decide)) hfc (by simp)) zC
 have hub:=zH5 hok
 have hAB:A*B<=1000000000000000000:=Nat.le_trans (Nat.mul_le_mul hA hB) (by decide)
 rw[RS.used_eq];obtain⟨F,hF⟩:∃F,r.files=F:=⟨_,rfl⟩;rw[hF]at hΓ hub ⊢;obtain⟨L,hL⟩:∃L,F.length=L:=⟨_,rfl⟩;rw[hL]at hΓ
 have hLb:L<=1000000:=by
   rw[<-hL,<-hF];unfold RS.files;rw[r7Z];exact Nat.le_trans (RS.list_le hok) hA
 obtain⟨N,hN⟩:∃N,H.length=N:=⟨_,rfl⟩;rw[hN]at l0;have hid':=hid;unfold SelfW at hid';rw[hN]at hid';have hBX:=ZC H hN;have hXg:=hBX.get;have hXg0:=hBX.get0
 have tl:=fun {T Tn F Fn}=>Weak.tailG (A:=H) (N:=N) hN hid' (T:=T) (Tn:=Tn) (F:=F) (Fn:=Fn)
 have hAf:∀rn:List Nat,AWs rn (flA F) (flA F):=fun rn=>AWs.refl _ _ (ZS F)
 have hfl:(flA F).length=L*2:=by rw[zCE,hL]
 refine zG Tryz.func66 rfl ?_;simp only[Tryz.ntmps66,q7Z,q8Z,Nat.reduceAdd,Nat.reduceSub,qbZ,q9Z,qaZ];rw[hN]
 refine Sim.step hmix hΓ (n:=0) (by simp;exact⟨rfl,rfl⟩) (by simp[hN]) ?_
 refine Sim.step hmix hΓ (n:=0) (by simp;exact⟨rfl,rfl⟩) (by simp[hN]) ?_
 refine Sim.step hmix hΓ (n:=0) (by simp[hN];exact⟨rfl,rfl⟩) (by simp[hN]) ?_
 refine Sim.seq (Sim.step hmix hΓ (n:=0) (by simp;exact⟨rfl,rfl⟩) (by simp[hN]) ?_)
 refine Sim.block (Sim.loopW (fun i:Nat=>i<=L)
   (fun i=>[.top,.top,.top,.int .i64 (zBu (F.take i)),.sl N 0 L 2 false,.int .i64 i]++qbZ 17 .top)
   (fun _=>H++[.cells true (flA F)]) (fun i=>L-i) 0 (by simp[hN]) (qqZ _) ?_ fun i hi=>?_)
 · exact tl [0] (by decide) (by simp[AWs,AW,zBu]) (by simp[AWg,AWb,hN])
 by_cases hlt:i<L
 · have hil:i<F.length:=by omega
   have hiI:(i:Int)<L:=by omega
   obtain⟨f1,f2⟩:=zQ9 F i hil;have hs:=zO0 F i hil;have hb1:=hub (i+1);obtain⟨t,ht⟩:∃t,F[i].2=t:=⟨_,rfl⟩;rw[ht]at f1 f2 hs;obtain⟨u,hu⟩:∃u,zBu (F.take i)=u:=⟨_,rfl⟩;rw[hu]at hs ⊢;rw[hs]at hb1
   have i1:i*2<L*2:=by omega
   have i2:i*2+2<=L*2:=by omega
   have i3:i*2+1<L*2:=by omega
   have i6:i*2+2<=F.length*2:=by omega
   have i7:i*2+1<F.length*2:=by omega
   have y1:IntKind.i64.wrap ((i:Int)+1)=i+1:=zV (by omega) (by omega)
   have y2:IntKind.i64.wrap ((u:Int)+t.length)=((u+t.length:Nat):Int):=by rw[Int.natCast_add];exact zV (by omega) (by omega)
   refine Sim.step hmix hΓ (n:=0) (by simp[hiI];exact⟨rfl,rfl⟩) (by simp[hN]) ?_
   refine Sim.seq (Sim.block (Sim.exec hmix hΓ (n:=0) (by simp[hXg0,hlt,f1,i7,y2];exact⟨rfl,rfl,rfl⟩) (by simp[hN]) ?_))
   dsimp only
   refine Sim.exec hmix hΓ (n:=0) (by simp[y1];exact⟨rfl,rfl,rfl⟩) (by simp[hN]) ?_
   exact⟨i+1,by omega,tl [0] (by decide) (by simp[AWs,AW,hs]) (by simp[AWg,AWb,hN]),by omega⟩
 · have hie:i=L:=by omega
   subst hie
   rw[q6Z (by omega)]
   refine Sim.exec hmix hΓ (n:=0) (by simp;exact⟨rfl,rfl,rfl⟩) (by simp[hN]) ?_
   dsimp only;rw[if_pos rfl]
   refine Sim.exec hmix hΓ (n:=0) (by simp;exact⟨rfl,rfl,rfl⟩) (by simp[hN]) ?_
   refine ⟨.inr rfl,_,by simp[Tryz.f66] <;> rfl,?_⟩
   have:=tl (T:=[.cells true (flA F)]) (Tn:=[]) (F:=[.int .i64 (zBu F)]) (Fn:=[.int .i64 (zBu F)]) [] (by decide) (by simp[AWs,AW]) (by simp[AWg])
   rwa [r2Z]at this
noncomputable def zI8(args:List AV)(H:zA)(v:AV):Gam:=zo [(103,zEX args H v),(119,Zr),(117,zOJ)]
theorem zN1{args:List AV}{H:zA}{v:AV}(h:Ct Pz 103 args H v H):GOk Pz (zI8 args H v) :=
 zB (zB3 (zE Tryz.func103 rfl (by decide)) h) (zB zDr (zB zOC zC))
theorem zTM{H:zA}{r:RS}{fo m:Nat}{g:Nat->Nat}{c:Bool}(ha:RAt H r (.sl m 0 r.F.length 1 c) 0 fo m g){A B:Nat}(hok:r.ok A B)(hA:A<=1000000)(hB:B<=1000000000000)(k:List UInt8) :
   Ct Pz 55 [.ptr 0 0,.str k] H (.tuple [.int .i64 (r.size k).1,.int .i64 (r.size k).2]) H:=by
 have hΓ:=zN1 (zEG ha hok hA k);have h0:=ha.c0;unfold RS.cell0 at h0;unfold RS.size;refine zR Tryz.func55 rfl ?_;simp only[Tryz.ntmps55,q7Z,q8Z,Nat.reduceAdd,Nat.reduceSub,qbZ,q9Z,qaZ]
 refine Sim.step hmix hΓ (n:=0) (by simp;exact⟨rfl,rfl⟩) (by simp) ?_
 cases hd:r.down with
 | true =>
   rw[hd]at h0;rw[if_pos rfl]
   refine Sim.exec hmix hΓ (n:=0) (by simp[h0];exact⟨rfl,rfl,rfl⟩) (by simp) ?_
   exact⟨.inr rfl,by simp[Tryz.f55],rfl⟩
 | false =>
   rw[hd]at h0
   rw[if_neg (by simp)]
   refine Sim.step hmix hΓ (n:=0) (by simp[h0];exact⟨rfl,rfl⟩) (by simp) ?_
   cases hk:NM.get r.dir.now k with
   | none =>
     rw[zCI hk]at hΓ
     refine Sim.exec hmix hΓ (n:=0) (by simp[zI8];exact⟨rfl,rfl,rfl⟩) (by simp) ?_
     exact⟨.inr rfl,by simp[Tryz.f55],rfl⟩
   | some z =>
     obtain⟨i,f,e1,e2,e3,e4,e5⟩:=zAN hok hk g;have e6:=ha.file i f e3;have e7:f.small:=PF.ok_mono e4 hB;rw[e5]at hΓ;dsimp only;rw[e1,e3];dsimp only
     refine Sim.step hmix hΓ (n:=0) (by simp[zI8];exact⟨rfl,rfl⟩) (by simp) ?_
     refine Sim.exec hmix hΓ (n:=0) (by simp[zI8,Zr,e6,e7];exact⟨rfl,rfl,rfl⟩) (by simp) ?_
     exact⟨.inr rfl,by simp[Tryz.f55],rfl⟩
theorem zOo{H:zA}{r:RS}{fo m:Nat}{g:Nat->Nat}{c:Bool}(ha:RAt H r (.sl m 0 r.F.length 1 c) 0 fo m g){A B:Nat}(hok:r.ok A B)(hA:A<=1000000)(hB:B<=1000000000000)(k:List UInt8)(a n:Int) :
   Ct Pz 53 [.ptr 0 0,.str k,.int .i64 a,.int .i64 n] H (.tuple [.str (r.readAt k a n).1,.int .i64 (r.readAt k a n).2]) H:=by
 have hΓ:=zN1 (zEG ha hok hA k);have h0:=ha.c0;unfold RS.cell0 at h0;unfold RS.readAt;refine zR Tryz.func53 rfl ?_;simp only[Tryz.ntmps53,q7Z,q8Z,Nat.reduceAdd,Nat.reduceSub,qbZ,q9Z,qaZ]
 refine Sim.step hmix hΓ (n:=0) (by simp;exact⟨rfl,rfl⟩) (by simp) ?_
 cases hd:r.down with
 | true =>
   rw[hd]at h0;rw[if_pos rfl]
   refine Sim.exec hmix hΓ (n:=0) (by simp[h0];exact⟨rfl,rfl,rfl⟩) (by simp) ?_
   exact⟨.inr rfl,by simp[Tryz.f53],rfl⟩
 | false =>
   rw[hd]at h0
   rw[if_neg (by simp)]
   refine Sim.step hmix hΓ (n:=0) (by simp[h0];exact⟨rfl,rfl⟩) (by simp) ?_
   cases hk:NM.get r.dir.now k with
   | none =>
     rw[zCI hk]at hΓ
     refine Sim.exec hmix hΓ (n:=0) (by simp[zI8];exact⟨rfl,rfl,rfl⟩) (by simp) ?_
     exact⟨.inr rfl,by simp[Tryz.f53],rfl⟩
   | some z =>
     obtain⟨i,f,e1,e2,e3,e4,e5⟩:=zAN hok hk g;have e6:=ha.file i f e3;have e7:f.small:=PF.ok_mono e4 hB;have e8:=zKE e6;rw[e5]at hΓ;dsimp only;rw[e1,e3];dsimp only
     refine Sim.step hmix hΓ (n:=0) (by simp[zI8];exact⟨rfl,rfl⟩) (by simp) ?_
     refine Sim.exec hmix hΓ (n:=0) (by simp[zI8,zOJ,e6,e7,e8];exact⟨rfl,rfl,rfl⟩) (by simp) ?_
     exact⟨.inr rfl,by simp[Tryz.f53],rfl⟩
theorem zFC(r:RS)(o:Bool)(l:List AV)(hl:∀rn,AWs rn l l):SelfW (zX [.obj true r.blks,.cells o l] 0 r.blks):=by
 have e:zX [.obj true r.blks,.cells o l] 0 r.blks=r.cell0 (.sl 3 0 r.F.length 1 false) 2::.cells o l::.obj true r.dir.blks::.cells true (zAD (fun i=>i+4) 0 r.F.length)::Z9 r.F:=by
   unfold zX;simp only[RS.blks,RS.cell0,q7Z,q8Z,List.getD_cons_zero,s9Z,List.drop_succ_cons,List.drop_zero,q9Z,qaZ,s8Z,Nat.reduceAdd,s1Z,reB,ZY,reA,Zf,zEz];simp only[Z9,List.map_map]
   rw[zBU (g':=fun i=>i+4) _ _ fun i _ _=>by rw[if_neg (by omega)];omega]
   simp[Function.comp_def,reB]
 rw[e];intro rn hr B hB;simp only[q7Z,zE3]at hr;simp only[RS.cell0,qwZ]at hB;rcases hB with rfl | rfl | rfl | rfl | hB
 · exact⟨id,by simp[AWs,AW,hr 2 (by omega),hr 3 (by omega)]⟩
 · exact⟨id,hl rn⟩
 · exact⟨rfl,rfl⟩
 · exact⟨id,zF9 _ _ _ _ _ fun i _ hi=>hr (i+4) (by omega)⟩
 · obtain⟨W,_,rfl⟩:=reZ.1 hB
   exact⟨rfl,rfl⟩
theorem zLX(ss:List (List UInt8))(i:Nat)(h:i<ss.length):(ss.take (i+1)).flatten=(ss.take i).flatten++ss[i]:=by
 rw[List.take_succ_eq_append_getElem h,sgZ,rcZ,List.flatten_nil,r2Z]
noncomputable def zSv(H:zA)(v:AV):Gam:=zo [(66,zEX [.ptr 0 0] H v),(123,zSr)]
theorem zTC{H:zA}{v:AV}(h:Ct Pz 66 [.ptr 0 0] H v H):GOk Pz (zSv H v) :=
 zB (zB3 (zE Tryz.func66 rfl (by decide)) h) (zB zOS zC)
theorem zMx(r:RS){A B:Nat}(hok:r.ok A B)(hA:A<=900000)(hB:B<=1000000000000)(k:List UInt8)(o:Bool)(ss:List (List UInt8))(hsl:ss.flatten.length<=1000000000000)(hsn:ss.length<=1000000000000) :
   Ct Pz 59 [.ptr 0 0,.str k,.sl 1 0 ss.length 1 false] [.obj true r.blks,.cells o (ss.map .str)] (.int .i64 (r.append k ss.flatten).2) [.obj true (r.append k ss.flatten).1.blks,.cells o (ss.map .str)]:=by
 have hΓ:=zCN
 have hAr:∀rn:List Nat,AWs rn (ss.map AV.str) (ss.map AV.str):=fun rn=>AWs.refl _ _ (ZG _ _ fun _=>rfl)
 refine zG Tryz.func59 rfl ?_;simp only[Tryz.ntmps59,q7Z,q8Z,Nat.reduceAdd,Nat.reduceSub,qbZ,q9Z,qaZ]
 refine Sim.aft (Aft.open (b:=0) rfl (by simp) (Aft.done (by simp[zX]) ?_))
 obtain⟨ha,hr1⟩:=zNg r o (ss.map AV.str);have hse:=zFC r o (ss.map AV.str) hAr;obtain⟨H,hH⟩:∃H,zX [.obj true r.blks,.cells o (ss.map AV.str)] 0 r.blks=H:=⟨_,rfl⟩;rw[hH]at ha hr1 hse ⊢
 have hlen:2<=H.length:=by have:=(q1Z.1 hr1).1;omega
 have hst:=ha.step ⟨hok.s0,by have:=hok.s1;omega⟩ ⟨hok.a0,hok.a1⟩
 have ha2:=ha.count;have hok2:=RS.ok_count hok
 have hse2:=hse.set 0 fun rn hr=>ha.selfc (r.count.steps) (r.count.left) (r.count.down) hr
 have hcc:(⟨r.dir,r.F,r.room,r.count.steps,r.count.left,r.count.down⟩:RS)=r.count:=by rw[RS.count_eq]
 rw[hcc]at hse2
 rw[show r.F=r.count.F from (RS.count_F r).symm]at hst ha2 hse2
 unfold RS.append RS.of RS.step;obtain⟨q,hq⟩:∃q,r.count=q:=⟨_,rfl⟩;rw[hq]at hst ha2 hok2 hse2 ⊢;obtain⟨H2,hH2⟩:∃X,H.set 0 (q.cell0 (.sl 3 0 q.F.length 1 false) 2)=X:=⟨_,rfl⟩
 have hlen2:2<=H2.length:=by rw[<-hH2,r8Z];exact hlen
 have hr2:H2[1]? = some (.cells o (ss.map AV.str)):=by rw[<-hH2,qfZ (by decide)];exact hr1
 rw[hH2]at hst ha2 hse2;have h0:=ha2.c0;unfold RS.cell0 at h0;clear hH2 hH hcc hq
 refine Sim.step hmix hΓ (n:=0) (by simp;exact⟨rfl,rfl⟩) (by omega) ?_
 have hcl:∀(F:List AV) (e1:Int),AWs [0,1] ([.top,.top,.top,.top,.top,.top,.int .i64 e1]++qbZ 45 .top) F->True:=fun _ _ _=>trivial
 clear hcl
 cases hd:q.down with
 | true =>
   rw[hd]at hst;simp only[Bool.not_true]at hst;rw[if_pos rfl]
   refine Sim.after (Sim.exec hmix hΓ (n:=0) (by simp[zAb,hst];exact⟨rfl,rfl,rfl⟩) (by omega) ?_)
   exact ha2.close2 hr2 hAr (by decide) (by decide) (fun i _=>by omega) ([.top,.top,.top,.top,.top,.top,.int .i64 13]++qbZ 45 .top) (by simp[AWs,AW]) ⟨.inr rfl,_,by simp[Tryz.f59] <;> rfl,Weak.mk' [0,1] (by decide) rfl (by simp) (by simp[AWb])⟩
 | false =>
   rw[hd]at hst;simp only[Bool.not_false]at hst
   rw[if_neg (by simp)]
   dsimp only
   refine Sim.step hmix hΓ (n:=0) (by simp[zAb,hst];exact⟨rfl,rfl⟩) (by omega) ?_
   have hΓf:=zOy ha2 hok2 (by omega) k
   cases hk:NM.get q.dir.now k with
   | none =>
     rw[zCI hk]at hΓf
     refine Sim.step hmix hΓf (n:=0) (by simp[zCs];exact⟨rfl,rfl⟩) (by omega) ?_
     refine Sim.after (Sim.exec hmix hΓ (n:=0) (by simp;exact⟨rfl,rfl,rfl⟩) (by omega) ?_)
     exact ha2.close2 hr2 hAr (by decide) (by decide) (fun i _=>by omega) ([.top,.top,.top,.top,.top,.top,.int .i64 9]++qbZ 45 .top) (by simp[AWs,AW]) ⟨.inr rfl,_,by simp[Tryz.f59] <;> rfl,Weak.mk' [0,1] (by decide) rfl (by simp) (by simp[AWb])⟩
   | some z =>
     obtain⟨i0,f,e1,e2,e3,e4,e5⟩:=zAN hok2 hk (fun i=>i+4)
     have e6:=ha2.file i0 f e3;have e7:f.small:=PF.ok_mono e4 hB;rw[e5]at hΓf
     try dsimp only
     rw[e1,e3]
     try dsimp only
     refine Sim.step hmix hΓf (n:=0) (by simp[zCs];exact⟨rfl,rfl⟩) (by omega) ?_
     refine Sim.step hmix hΓ (n:=0) (by simp;exact⟨rfl,rfl⟩) (by omega) ?_
     refine Sim.step hmix hΓ (n:=0) (by simp;exact⟨rfl,rfl⟩) (by omega) ?_
     obtain⟨n,hn⟩:∃n,ss.length=n:=⟨_,rfl⟩;rw[hn]at hsn ⊢
     refine Sim.seq (Sim.step hmix hΓ (n:=0) (by simp;exact⟨rfl,rfl⟩) (by omega) ?_)
     refine Sim.block (Sim.loopS (fun i:Nat=>i<=n)
       (fun i=>[.ptr 0 0,.top,.sl 1 0 n 1 false,.top,.top,.top,.top,.ptr (i0+4) 0,.str (ss.take i).flatten,.int .i64 i]++qbZ 42 .top)
       (fun _=>H2) (fun i=>n-i) 0 (by omega) (qqZ _) ⟨by simp,rfl⟩ fun i hi=>?_)
     by_cases hlt:i<n
     · have hil:i<ss.length:=by omega
       have hiI:(i:Int)<n:=by omega
       have hs:=zLX ss i hil
       have hle:∀j,(ss.take j).flatten.length<=ss.flatten.length:=fun j=>by
         conv=>rhs;rw[<-r6Z j ss]
         rw[sgZ,qdZ];omega
       have hb1:=hle (i+1);rw[hs]at hb1
       have f1:∀h,(ss.map AV.str)[i]'h=.str ss[i]:=fun h=>List.getElem_map _
       have f2:(ss.map AV.str)[i]? = some (.str ss[i]):=by rw[qzZ,q3Z hil];rfl
       obtain⟨t,ht⟩:∃t,ss[i]=t:=⟨_,rfl⟩;rw[ht]at f1 f2 hs hb1;obtain⟨u,hu⟩:∃u,(ss.take i).flatten=u:=⟨_,rfl⟩;rw[hu]at hs hb1 ⊢;rw[qdZ]at hb1
       have b9:u.length+t.length<=9223372036854775807:=by omega
       have i1:i<(ss.map AV.str).length:=by simp;omega
       have y1:IntKind.i64.wrap ((i:Int)+1)=i+1:=zV (by omega) (by omega)
       refine Sim.step hmix hΓ (n:=0) (by simp[hiI];exact⟨rfl,rfl⟩) (by omega) ?_
       refine Sim.seq (Sim.block (Sim.exec hmix hΓ (n:=0) (by simp[hr2,hlt,hn,f1,b9];exact⟨rfl,rfl,rfl⟩) (by omega) ?_))
       dsimp only
       refine Sim.exec hmix hΓ (n:=0) (by simp[y1];exact⟨rfl,rfl,rfl⟩) (by omega) ?_
       exact⟨i+1,by omega,⟨by simp[hs],rfl⟩,by omega⟩
     have hie:i=n:=by omega
     subst hie
     rw[q6Z (by omega)]
     obtain⟨s,hs⟩:∃s,ss.flatten=s:=⟨_,rfl⟩;rw[hs]at hsl ⊢
     have hΓu:=zTC (zM2 ha2 hok2 (by omega) hB hse2)
     have hu:=zH5 hok2 q.files.length;rw[List.take_length,<-RS.used_eq]at hu
     have hAB:(A+1)*B<=900001000000000000:=Nat.le_trans (Nat.mul_le_mul (Nat.succ_le_succ hA:A+1<=900001) hB) (by decide)
     have q0:=hok2.q0;have q1:=hok2.q1;have hfr:q.free=(max 0 (q.room-q.used)).toNat:=rfl;obtain⟨u,hue⟩:∃u,q.used=u:=⟨_,rfl⟩;rw[hue]at hfr hu hΓu;obtain⟨fr,hfre⟩:∃x,q.free=x:=⟨_,rfl⟩;rw[hfre]at hfr ⊢;obtain⟨rm,hrm⟩:∃x,q.room=x:=⟨_,rfl⟩;rw[hrm]at hfr q0 q1 h0
     have w1:IntKind.i64.wrap (rm-(u:Int))=rm-u:=zV (by omega) (by omega)
     have w2:max 0 (rm-(u:Int))=(fr:Int):=by omega
     obtain⟨zz,hz⟩:∃zz:Nat,min (fr:Int) (s.length:Int)=zz:=⟨min fr s.length,by omega⟩
     have hz1:zz<=s.length:=by omega
     have hz2:(zz:Int)<=s.length:=by omega
     have hz3:s.take zz=s.take fr:=by
       by_cases h:fr<=s.length
       · rw[show zz=fr by omega]
       · rw[q6Z (by omega),q6Z (by omega)]
     have hz4:(s.take fr).length<=1000000000000:=by rw[qjZ];omega
     obtain⟨N,hN⟩:∃N,H2.length=N:=⟨_,rfl⟩;have hBX:=ZC H2 hN;have hXg:=hBX.get;have hXg0:=hBX.get0
     have lg:i0+4<N:=by rw[<-hN];exact (q1Z.1 e6).1
     have k3:∀(T:zA) v,(H2++T).set (i0+4) v=H2.set (i0+4) v++T:=fun T v=>by rw[List.set_append_left _ _ (by omega)]
     have k4:∀(T:zA),(H2++T)[i0+4]? = some (.obj true f.rblks):=fun T=>by rw[q4Z (by omega)];exact e6
     obtain⟨tk,htk⟩:∃tk,s.take fr=tk:=⟨_,rfl⟩;rw[htk]at hz3 hz4 ⊢
     have hfin:∀e:Int,RAt (H2.set (i0+4) (.obj true (f.add tk).rblks)++[.cells true [.str tk]]) ⟨q.dir,q.F.set i0 (f.add tk),q.room,q.steps,q.left,q.down⟩ (.sl 3 0 q.F.length 1 false) 0 2 3 (fun i=>i+4):=fun _=>(ha2.fileset e2 (f.add tk)).app _
     have hr3:(H2.set (i0+4) (.obj true (f.add tk).rblks)++[.cells true [.str tk]])[1]? = some (.cells o (ss.map AV.str)):=by
       rw[q4Z (by rw[r8Z];omega),qfZ (by omega)];exact hr2
     rw[hrm]at hfin
     refine Sim.exec hmix hΓ (n:=0) (by simp;exact⟨rfl,rfl,rfl⟩) (by omega) ?_
     dsimp only;rw[if_pos rfl]
     refine Sim.seq (Sim.draw hmix (by omega) ?_)
     refine SimR.many hΓu 9 (by simp[zI];rfl) (by omega) (by kernel_rfl) (by simp +decide [-ZK,zAk,zSv,h0,w1,w2];first | exact⟨rfl,rfl⟩ | exact⟨by kernel_rfl,rfl,rfl⟩) ?_
     refine SimR.done rfl ?_;dsimp only
     refine Sim.step hmix hΓu (n:=0) (by simp +decide [-ZK,zn,zSv,zSr,hz,hz2,hz3,hN,k3,k4,e7,hz4];exact⟨rfl,rfl⟩) (by omega) ?_
     by_cases hc:fr<s.length
     · have hcI:(fr:Int)<s.length:=by omega
       rw[if_pos hc]
       refine Sim.after (Sim.exec hmix hΓ (n:=0) (by simp[hcI];exact⟨rfl,rfl,rfl⟩) (by simp <;> omega) ?_)
       exact (hfin 0).close2 hr3 hAr (by decide) (by decide) (fun i _=>by omega) ([.top,.top,.top,.top,.top,.top,.int .i64 10]++qbZ 45 .top) (by simp[AWs,AW]) ⟨.inr rfl,_,by simp[Tryz.f59] <;> rfl,Weak.mk' [0,1] (by decide) rfl (by simp) (by simp[AWb,hrm])⟩
     · have hcI:¬(fr:Int)<s.length:=by omega
       rw[if_neg hc]
       have hts:tk=s:=by rw[<-htk];exact q6Z (by omega)
       rw[hts]at hfin hr3 ⊢
       refine Sim.after (Sim.exec hmix hΓ (n:=0) (by simp[hcI];exact⟨rfl,rfl,rfl⟩) (by simp <;> omega) ?_)
       exact (hfin 0).close2 hr3 hAr (by decide) (by decide) (fun i _=>by omega) ([.top,.top,.top,.top,.top,.top,.int .i64 0]++qbZ 45 .top) (by simp[AWs,AW]) ⟨.inr rfl,_,by simp[Tryz.f59] <;> rfl,Weak.mk' [0,1] (by decide) rfl (by simp) (by simp[AWb,hrm])⟩
end
end Go.Proofs.YtfhidaoiofeooaaGreat
