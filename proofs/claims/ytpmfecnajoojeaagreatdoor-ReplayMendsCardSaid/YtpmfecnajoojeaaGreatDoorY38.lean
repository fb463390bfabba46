/- Parts of the proof of ReplayMends: lemmas, each with its own conditions. -/
import Derived.Test.YtpmfecnajoojeaaGreatDoorY37
set_option maxHeartbeats 64000000
open List renaming getElem?_eq_some_iff → q1Z, getElem?_eq_getElem → q3Z, getElem?_append_right → q5Z, take_of_length_le → q6Z, length_cons → q7Z, length_nil → q8Z, cons_append → q9Z, nil_append → qaZ, replicate → qbZ, length_append → qdZ, append_assoc → qeZ, mem_cons → qwZ, mem_append → qxZ, mem_singleton → r1Z, append_nil → r2Z, getElem_mem → r3Z, getElem?_take → r4Z, getElem?_drop → r5Z, length_map → r7Z, getElem?_range → rfZ, all_eq_true → s5Z, drop_append → sdZ
open Nat renaming le_refl → qnZ, zero_le → qqZ, zero_add → s8Z
open Int renaming tmod_eq_emod_of_nonneg → rrZ
namespace Go.Proofs.YtpmfecnajoojeaaGreatDoor
open _root_.Go.Proofs.Tryz renaming prog → Pz
set_option maxRecDepth 100000
section
open Go
end
section
open Go Go.Lib
attribute [-simp] zJ zY zn zL zl
theorem zKf(l:List (List UInt8×List UInt8))(k:Nat)(h:k<l.length):(∀h',(flA l)[k*2+1]'h'=.str l[k].2)/\(flA l)[k*2+1]? = some (.str l[k].2):=by
 have e:(flA l)[k*2+1]? = some (.str l[k].2):=by
   have:=zC0 l k h
   have h2:(((flA l).drop (k*2)).take 2)[1]? = some (.str l[k].2):=by rw[this];rfl
   rw[r4Z,if_pos (by decide),r5Z]at h2
   exact h2
 exact⟨fun h'=>(q1Z.1 e).2,e⟩
noncomputable def zD2:Gam:=zv [(33,zFL),(35,zVY),(36,zKJ),(37,zHZ),(38,zKS),(39,zK0),(32,zL6),(40,zF9),(15,zTy),(22,zLi),(24,zIK),(41,zLd)]
theorem zUQ:GOk Pz zD2:=zC zKq (zC zRV (zC zPa (zC zLX (zC zMx (zC zLq (zC zLc (zC zLC (zC zPe (zC zLY (zC zJZ (zC zKn zD)))))))))))
def imH(cs:List Lg)(st:List Int):zA:=.cells false (ZH 1 cs)::Zz 1 cs++[.cells false (Z6 st)]
theorem zI6(cs:List Lg)(st:List Int):(imH cs st).length=(Zz 1 cs).length+2:=by simp[imH]
theorem zUI(cs:List Lg)(st:List Int):∀B∈imH cs st,∃o l,B=ABlk.cells o l/\zV (imH cs st).length l=true:=by
 intro B hB;rw[zI6];unfold imH at hB;rcases qxZ.1 hB with hB | hB
 · rcases qwZ.1 hB with rfl | hB
   · exact⟨_,_,rfl,zB5 1 _ cs (by omega)⟩
   · exact zIf 1 _ cs (by omega) B hB
 · simp only[r1Z]at hB
   subst hB;exact⟨_,_,rfl,ZB _ _ (zDD _)⟩
theorem zWw(s:List UInt8):∀(k:Nat) (a:Int),0<=a->a<=s.length->((s.length:Int)-a).toNat<=k->(Rp.rd s a).1.length<=((s.length:Int)-a).toNat:=by
 intro k
 induction k with
 | zero =>
   intro a h0 h1 h2
   have ha:a=s.length:=by omega
   rw[ha,Rp.rd_none (by omega) (Rp.one_end s)]
   simp
 | succ k ih =>
   intro a h0 h1 h2
   cases h:Rp.one s a with
   | none=>rw[Rp.rd_none h1 h];simp
   | some r =>
     obtain⟨x,b⟩:=r;obtain⟨_,g2,g3,_⟩:=Rp.one_way h
     have:=ih b (by omega) (by omega) (by omega)
     rw[Rp.rd_some h,q7Z];omega
theorem zH7{get:List UInt8->List UInt8}{C:Nat}(hC:∀k,(get k).length<=C):∀(l:List Int) (f:Fnd),(zg get l f).1.es.length<=f.es.length+l.length*C
 | [],f=>by simp[zg]
 | n::l,f=>by
   unfold zg;split
   · simp[Fnd.no]
   · have h1:=zH7 hC l (f.add (get (mk 3 n)))
     have h2:=zWw (get (mk 3 n)) _ 0 (Int.le_refl _) (by omega) (qnZ _)
     have h3:=hC (mk 3 n);simp only[Fnd.add,qdZ]at h1;rw[q7Z,Nat.add_mul];simp only[Fnd.add];omega
theorem zUG{d:DS}{A B:Nat}(hok:d.ok A B){x:Int}{f:Fnd}(h:d.load x=(f,0)):f.es.length<=A*B:=by
 obtain⟨_,_,h3,h4⟩:=zFY h;have h5:=(zII h).2.2
 have h6:=zH7 (C:=B) (fun k=>DS.text_le hok k) (ZL x d.list).1 ⟨(ZL x d.list).1,[],0,false⟩
 rw[h3,<-h4]at h6;have h7:=Nat.mul_le_mul_right B (Nat.le_trans h5 (DS.list_le hok));simp at h6;omega
theorem zP1(n0:Nat)(h0:1<=n0)(h1:n0<=3)(ls:List Lg)(on ob:List UInt8):∃d,DS.ofF (zIL n0 ls on ob) 1048576=some d/\d.ok 20 5000/\d.steps=0/\d.armed=0/\Sett d/\d.list.length=(zIL n0 ls on ob).length:=by
 obtain⟨g1,g2,g3⟩:=zNF n0 h0 h1 ls on ob
 obtain⟨d,e1,e2,e3,e4,e5,e6,e7,e8,e9⟩:=zSo (zIL n0 ls on ob) g1 g2 1048576 (by decide) (by decide) fun _=>false
 refine ⟨d,e1,DS.ok_mono e2 (by omega) (qnZ _),e4,e5,⟨e6,e7,fun k f hk=>?_⟩,?_⟩
 · obtain⟨n,h2,h3⟩:=zAk hk
   obtain⟨b,_,hb⟩:=(FD.each_now e8.each).2 k n h2;rw[hk]at hb;cases hb;rfl
 · rw[(zO3 e6 e8.core g2 e9).length_eq,r7Z]
theorem zTW(f sp:Nat)(hf:f<256)(hsp:sp<256)(cs:List Lg)(hcs:∀c∈cs,zW5 c)(hcb:∀c∈cs,c.2.2.length<=9223372036854775807)(hcl:cs.length<=9223372036854775807)(on ob:List UInt8)(hon:on.length<=9223372036854775807)(hob:ob.length<=9223372036854775807)
   (st:List Int) (hst:∀x∈st,0<=x/\x<=65535) (hsl:st.length<=9223372036854775807) :
   ∃H',Ct Pz 6 [.agg [.int .u8 f,.sl 0 0 cs.length 3 false,.str on,.str ob],.int .u8 sp,.sl ((Zz 1 cs).length+1) 0 st.length 1 false] (imH cs st) (.bool true) H':=by
 have hΓ:=zUQ;refine ⟨imH cs st,zK Tryz.func6 rfl ?_⟩;obtain⟨N,hXl⟩:∃N,(imH cs st).length=N:=⟨_,rfl⟩;have hXf:=zUI cs st;have hNl:=zI6 cs st;rw[hXl]at hXf hNl
 have hN0:0<N:=by omega
 have hXid:∀rn:List Nat,(∀i,i<N->rn[i]? = some i)->∀B∈imH cs st,AWb rn B B:=fun rn hr B hB=>by
   obtain⟨o,l,rfl,hl⟩:=hXf B hB;exact⟨id,AWs.pre hr _ hl⟩
 have hXb:∀k,(imH cs st).all (zAQ (N+k))=true:=fun k=>by
   rw[s5Z];intro B hB;obtain⟨o,l,rfl,hl⟩:=hXf B hB
   simpa[zAQ] using Z7 (by omega) l hl
 obtain⟨s,hs⟩:∃s,(Zz 1 cs).length+1=s:=⟨_,rfl⟩
 have hX0:∀T:zA,(imH cs st++T)[0]? = some (.cells false (ZH 1 cs)):=fun T=>by simp[imH]
 have hXs':∀T:zA,(imH cs st++T)[s]? = some (.cells false (Z6 st)):=fun T=>by
   rw[<-hs];unfold imH
   rw[qeZ,q5Z (by simp)]
   simp
 have hact:∀(i:Nat) (hi:i<cs.length),∃k1,((ZH 1 cs).drop (i*3)).take 3=[.int .u8 cs[i].1,.sl k1 0 cs[i].2.1.length 3 false,.str cs[i].2.2]/\k1<N /\
     ∀T,drS zBS [.sl k1 0 cs[i].2.1.length 3 false,.int .i64 12] (imH cs st++T)=some (.sl (imH cs st++T).length 0 (zBS cs[i].2.1 12).length 3 false,imH cs st++T++[.cells true (zS (zBS cs[i].2.1 12))],[]):=fun i hi=>by
   obtain⟨k1,T0,T,h1,h2,h3,h4⟩:=zWN cs 1 [.cells false (ZH 1 cs)] [.cells false (Z6 st)] i hi rfl;have hok:=hcs _ (r3Z hi)
   refine ⟨k1,h1,by simp at h4;omega,fun T'=>?_⟩
   have e:imH cs st++T'=T0++(drK k1 cs[i].2.1++(T++T')):=by
     unfold imH;have:(.cells false (ZH 1 cs)::Zz 1 cs++[.cells false (Z6 st)]:zA)=[.cells false (ZH 1 cs)]++Zz 1 cs++[.cells false (Z6 st)]:=rfl;rw[this,h2];simp
   exact zWx (m:=12) ⟨rfl,⟨T0,T++T',h3,e⟩,by decide,hok.2.1,hok.2.2.2⟩
 rw[hs];obtain⟨X,hX⟩:∃X,imH cs st=X:=⟨_,rfl⟩;rw[hX]at hXl hXid hXb hX0 hXs' hact ⊢;clear hX
 have hXd:∀(T:zA) (k:Nat),(X++T).drop (N+k)=T.drop k:=fun T k=>by
   rw[sdZ,List.drop_of_length_le (by omega),qaZ];congr 1;omega
 have hBX:=zB0 X hXl;have hXg:=hBX.get;have hXg0:=hBX.get0;have hXs:=hBX.set;have hXs0:=hBX.set0
 have us:∀k,s<N+k:=fun k=>by omega
 have u0:∀k,0<N+k:=fun k=>by omega
 have os:∀ts:List Nat,(List.range N++ts)[s]? = some s:=fun ts=>zBh _ _ (by omega)
 have o0:∀ts:List Nat,(List.range N++ts)[0]? = some 0:=fun ts=>zBh _ _ (by omega)
 have o0g:∀(ts:List Nat) h,(List.range N++ts)[0]'h=0:=fun ts h=>by
   have:=o0 ts;rw[q3Z h]at this;exact Option.some.inj this
 obtain⟨q,hq⟩:∃q,f % 3=q:=⟨_,rfl⟩;obtain⟨bx,hbx⟩:∃bx:ABlk,.cells true [.int .u8 f,.sl 0 0 cs.length 3 false,.str on,.str ob]=bx:=⟨_,rfl⟩
 have hAid:∀rn:List Nat,(∀i,i<N+1->rn[i]? = some i)->∀B∈X++[bx],AWb rn B B:=fun rn hr B hB=>by
   rcases qxZ.1 hB with hB | hB
   · exact hXid rn (fun i hi=>hr i (by omega)) B hB
   · simp only[r1Z]at hB
     subst hB;subst hbx
     exact⟨id,by simp only[AWs,AW,and_true,true_and];exact⟨hr 0 (by omega),id⟩⟩
 have hfil:=zRc f hf cs hcs hcb hcl on ob hon hob (X++[bx]) (N+1) (by simp[hXl]) (by omega) hAid (fun k=>by
     rw[List.all_append,Nat.add_assoc,Nat.add_comm 1 k,hXb,<-hbx];simp[zAQ,zV,below];try omega) (fun T=>by rw[qeZ];exact hX0 _)
   (fun i hi=>by
     obtain⟨k1,a1,a2,a3⟩:=hact i hi
     refine ⟨k1,a1,by omega,fun T=>?_⟩
     rw[qeZ X [bx] T]
     exact a3 _)
 rw[hq]at hfil
 obtain⟨g1,g2,g3⟩:=zNF (1+q) (by omega) (by omega) cs on ob
 obtain⟨d,e1,e2,e3,e4,e5,e6⟩:=zP1 (1+q) (by omega) (by omega) cs on ob
 obtain⟨F,hF⟩:∃F,zIL (1+q) cs on ob=F:=⟨_,rfl⟩;rw[hF]at hfil g1 g2 g3 e1 e6;subst hbx
 have hfil':Ct Pz 34 [.agg [.int .u8 f,.sl 0 0 cs.length 3 false,.str on,.str ob]] (X++[.cells true [.int .u8 f,.sl 0 0 cs.length 3 false,.str on,.str ob]]) (.sl (N+1) 0 F.length 2 false) (X++[.cells true [.int .u8 f,.sl 0 0 cs.length 3 false,.str on,.str ob],.cells true (flA F)]):=by
   simpa using hfil
 have hΓf:GOk Pz (zv [(34,zDY [.agg [.int .u8 f,.sl 0 0 cs.length 3 false,.str on,.str ob]] (X++[.cells true [.int .u8 f,.sl 0 0 cs.length 3 false,.str on,.str ob]]) (.sl (N+1) 0 F.length 2 false) (X++[.cells true [.int .u8 f,.sl 0 0 cs.length 3 false,.str on,.str ob],.cells true (flA F)]))]) :=
   zC (Zf (zH Tryz.func34 rfl (by decide)) hfil' (by simp)) zD
 obtain⟨n,hn⟩:∃n,cs.length=n:=⟨_,rfl⟩;obtain⟨m,hm⟩:∃m,st.length=m:=⟨_,rfl⟩;obtain⟨M,hM⟩:∃M,F.length=M:=⟨_,rfl⟩;rw[hm]at hsl ⊢;rw[hM]at hΓf g3 e6;rw[hn]at hΓf hcl ⊢;clear hfil hfil' hAid hact
 have tq:(f:Int).tmod 3=q:=by rw[rrZ (by omega)];omega
 have w1:IntKind.u8.wrap (q:Int)=q:=zDb (by omega) (by omega)
 have w2:IntKind.i64.wrap (q:Int)=q:=zX (by omega) (by omega)
 have w3:IntKind.i64.wrap (1+(q:Int))=1+q:=zX (by omega) (by omega)
 have hshort:zTx F:=fun e he=>by have:=(g1 e he).1.2;omega
 have hM6:M<=1000000:=by omega
 have c0:d.ok 10000 500000000:=DS.ok_mono e2 (by omega) (by omega)
 have x1 : -9223372036854775808<=1+(q:Int):=by omega
 have x2:1+(q:Int)<=9223372036854775807:=by omega
 rw[hXl];simp only[Tryz.ntmps6,q7Z,q8Z,Nat.reduceAdd,Nat.reduceSub,qbZ,q9Z,qaZ]
 refine Sim.step hmix hΓ (n:=0) (by simp;exact⟨rfl,rfl⟩) (by simp[hXl]) ?_
 refine Sim.step hmix hΓ (n:=0) (by simp[zD2,zFL];exact⟨rfl,rfl⟩) (by simp[hXl]) ?_
 refine Sim.step hmix hΓf (n:=0) (by simp +decide [hXl,zDY];exact⟨rfl,rfl⟩) (by simp[hXl]) ?_
 refine Sim.step hmix hΓ (n:=0) (by simp +decide [hXl,tq,w2,w3];exact⟨rfl,rfl⟩) (by simp[hXl]) ?_
 refine Sim.step hmix hΓ (n:=0) (by simp +decide [zD2,zVY,hXl,e1,hshort,hM6,hM];exact⟨rfl,rfl⟩) (by simp[hXl]) ?_
 obtain⟨⟨a,e⟩,hld⟩:∃r,d.load (1+(q:Int))=r:=⟨_,rfl⟩
 have hle:=zTG (d:=d) e5.up (x:=1+(q:Int)) (by omega)
 rw[hld]at hle;dsimp only at hle
 have fin:∀(T:zA),Weak N [.bool true] (X++T) [.bool true] X:=fun T=>by
   have:=Weak.tail3 hXl hXid (T:=T) (Tn:=[]) (F:=[.bool true]) (Fn:=[.bool true]) [] (by decide) (by simp[AWs,AW]) rfl (fun j t x y h=>by simp at h)
   rwa [r2Z]at this
 have l0:=zCX d.list;by_cases he:e=0;rotate_left
 · obtain⟨rfl,rfl⟩:a=Fnd.no/\e=12:=by
     rcases hle with h | h
     · exact absurd h he
     · exact Prod.mk.inj h
   obtain⟨B0,hB0⟩:∃B,lgB d.list=B:=⟨_,rfl⟩;obtain⟨P0,hP0⟩:∃p,zBQ (1+(q:Int)) (zAM 3 d.list)=p:=⟨_,rfl⟩
   refine Sim.step hmix hΓ (n:=0) (by simp +decide [zD2,zKJ,fnV,Fnd.no,Nat.add_assoc,hXl,hXs,c0,x1,x2,hld,hB0,hP0];exact⟨rfl,rfl⟩) (by simp[hXl]) ?_
   refine Sim.exec hmix hΓ (n:=0) (by simp +decide [hXl];exact⟨rfl,rfl,rfl⟩) (by simp[hXl]) ?_
   exact⟨.inr rfl,_,by simp[Tryz.f6] <;> rfl,fin _⟩
 subst he;obtain⟨q1,q2,q3⟩:=zII hld;obtain⟨d1,m1,m2,m3,m4,m5,m6⟩:=zSG e2 e5 e4 e3 hld
 have hstop:=fun (s:Int) (hs:s<=4611686018427387903) (l:List Int)=>zO7 e2 e5 hld s hs l
 obtain⟨lg,es,good,torn⟩:=a;dsimp only at q1 q2 q3;obtain⟨B0,hB0⟩:∃B,lgB d.list=B:=⟨_,rfl⟩;obtain⟨P0,hP0⟩:∃p,zBQ (1+(q:Int)) (zAM 3 d.list)=p:=⟨_,rfl⟩;rw[hB0]at q1 q2 l0;rw[hP0]at q1 q2;obtain⟨La,hLa⟩:∃n,lg.length=n:=⟨_,rfl⟩;obtain⟨Le,hLe⟩:∃n,es.length=n:=⟨_,rfl⟩;rw[hLa]at q1 q2 q3
 refine Sim.step hmix hΓ (n:=0) (by simp +decide [zD2,zKJ,fnV,Nat.add_assoc,hXl,hXs,c0,x1,x2,hld,hB0,hP0,hLa,hLe];exact⟨rfl,rfl⟩) (by simp[hXl]) ?_
 refine Sim.step hmix hΓ (n:=0) (by simp +decide;exact⟨rfl,rfl⟩) (by simp[hXl]) ?_
 have f1e:zZ (zS es)=true:=zp es
 have ele:(zS es).length=Le*3:=by rw[zBO,hLe]
 have en1:zDg ((zS es).take (Le*3))=some es:=by rw[<-ele,List.take_length];exact zBq es
 have ck:d.ok 900000 1000000000:=DS.ok_mono e2 (by omega) (by omega)
 have cm:d.ok 800000 100000000000:=DS.ok_mono e2 (by omega) (by omega)
 have sd:d.small:=DS.ok_mono e2 (by omega) (by omega)
 have s1:d1.small:=DS.ok_mono m4 (by omega) (by omega)
 have hla6:La<=1000000:=by have:=DS.list_le e2;omega
 have hfd:d.files.length=M:=by unfold DS.files;rw[r7Z];exact e6
 have hf1:d1.files.length=M:=by unfold DS.files;rw[r7Z,m5];exact e6
 have i1:¬(2:Int)<d1.steps:=by omega
 have i2:¬(d.used:Int)<(d1.used:Int):=by omega
 refine Sim.step hmix hΓ (n:=0) (by simp +decide [zD2,zHZ,hXl,ck];exact⟨rfl,rfl⟩) (by simp[hXl]) ?_
 refine Sim.seq (Sim.seq (Sim.plain (by simp[hXl]) ?_))
 refine SimP.many hΓ 5 rfl rfl (by simp +decide [zD2,zKS,hXl,hXs,cm,l0,q1,q2,zBq,m1,hLa,hLe,hla6];exact⟨rfl,rfl⟩) ?_
 refine SimP.many hΓ 5 rfl rfl (by simp +decide [zD2,zK0,hXl,i1];exact⟨rfl,rfl⟩) ?_
 refine SimP.many hΓ 7 rfl rfl (by simp +decide [zD2,zL6,hXl,sd,s1,i2];exact⟨rfl,rfl⟩) ?_
 refine SimP.many hΓ 7 rfl rfl (by simp +decide [zD2,zF9,hXl,s1,hf1];exact⟨rfl,rfl⟩) ?_
 refine SimP.done ?_;dsimp only
 refine Sim.exec hmix hΓ (n:=0) (by simp +decide;exact⟨rfl,rfl,rfl⟩) (by simp[hXl]) ?_
 dsimp only
 refine Sim.step hmix hΓ (n:=0) (by simp +decide [zD2,zF9,hXl,sd,s1,hfd,hf1];exact⟨rfl,rfl⟩) (by simp[hXl]) ?_
 have hfoW:=zAP d.files;have hfoV:=zAP d1.files
 have hflW:(flA d.files).length=M*2:=by rw[zBn,hfd]
 have hflV:(flA d1.files).length=M*2:=by rw[zBn,hf1]
 have hAW:∀rn:List Nat,AWs rn (flA d.files) (flA d.files):=fun rn=>AWs.refl _ _ hfoW
 have hAV:∀rn:List Nat,AWs rn (flA d1.files) (flA d1.files):=fun rn=>AWs.refl _ _ hfoV
 have hAe:∀rn:List Nat,AWs rn (zS es) (zS es):=fun rn=>AWs.refl _ _ f1e
 have hA0:∀rn:List Nat,AWs rn B0 B0:=fun rn=>AWs.refl _ _ l0
 refine Sim.seq (Sim.step hmix hΓ (n:=0) (by simp +decide;exact⟨rfl,rfl⟩) (by simp[hXl]) ?_)
 refine Sim.block (Sim.mono (Q:=fun e' F' H'=>e'=.exit 0/\Weak N F' H' ([.top,.int .u8 sp,.sl s 0 m 1 false,.top,.top,.top,.bool false,.top,.int .i64 (1+(q:Int)),.ptr (N+2) 0,.ptr (N+5) 0]++qbZ 198 .top)
   (X++[.dead,.dead,.obj true d.blks,.cells true B0,.cells true (zS es),.cells true [.sl (N+3) P0 La 1 false,.sl (N+4) 0 Le 3 false,.int .i64 good,.bool torn]])) (Sim.loopW (fun i:Nat=>i<=M)
   (fun i=>[.top,.int .u8 sp,.sl s 0 m 1 false,.top,.top,.top,.bool false,.top,.int .i64 (1+(q:Int)),.ptr (N+2) 0,.ptr (N+5) 0,.top,.top,.sl (N+8) 0 M 2 false,.sl (N+9) 0 M 2 false,.int .i64 i]++qbZ 193 .top)
   (fun _=>X++[.dead,.dead,.obj true d.blks,.cells true B0,.cells true (zS es),.cells true [.sl (N+3) P0 La 1 false,.sl (N+4) 0 Le 3 false,.int .i64 good,.bool torn],.dead,.dead,.cells true (flA d.files),.cells true (flA d1.files)])
   (fun i=>M-i) 0 (by simp[hXl]) (qqZ _) (Weak.tailG hXl hXid [0,1,2,3,4,5,6,7,8,9] (by decide) (by simp[AWs,AW,os]) (by simp[AWg,AWb,AW,hXl,hA0])) fun i hi=>?_) ?_)
 · dsimp only[qbZ,q9Z,qaZ]
   by_cases hiM:i<M
   · have hiI:(i:Int)<M:=by omega
     have hl1:i<d.files.length:=by omega
     have hl2:i<d1.files.length:=by omega
     have hlk:i<d.list.length:=by omega
     obtain⟨k,hk⟩:∃k,d.list[i]=k:=⟨_,rfl⟩
     have hfi:d.files[i]=(k,d.text k):=by simp only[DS.files,List.getElem_map,hk]
     have hfi1:d1.files[i]=(k,d1.text k):=by simp only[DS.files,List.getElem_map,m5,hk]
     have a1:=zC0 d.files i hl1;have a2:=zC0 d1.files i hl2;obtain⟨b1,b1'⟩:=zJQ d.files i hl1;obtain⟨b2,b2'⟩:=zJQ d1.files i hl2;obtain⟨c1,c1'⟩:=zKf d.files i hl1;obtain⟨c2,c2'⟩:=zKf d1.files i hl2;rw[hfi]at a1 b1 b1' c1 c1';rw[hfi1]at a2 b2 b2' c2 c2';dsimp only at a1 a2 b1 b1' b2 b2' c1 c1' c2 c2';have hmk:=m6 k;obtain⟨w,hw⟩:∃w,d.text k=w:=⟨_,rfl⟩;obtain⟨v,hv⟩:∃v,d1.text k=v:=⟨_,rfl⟩;rw[hw]at a1 c1 c1' hmk;rw[hv]at a2 c2 c2' hmk
     have j1:i*2<M*2:=by omega
     have j2:i*2+1<M*2:=by omega
     have j3:i*2+2<=M*2:=by omega
     have y7:IntKind.i64.wrap ((i:Int)+1)=i+1:=zX (by omega) (by omega)
     refine Sim.step hmix hΓ (n:=0) (by simp[hiI];exact⟨rfl,rfl⟩) (by simp[hXl]) ?_
     refine Sim.seq (Sim.block (Sim.seq (Sim.draw hmix (by simp[hXl]) ?_)))
     by_cases hvw:v=w
     · subst hvw
       refine SimR.many hΓ 65 (by simp[zI];rfl) (by omega) (by kernel_rfl) (by simp +decide [hXl,hflW,hflV,hiM,j3,a1,a2];first | exact⟨rfl,rfl⟩ | exact⟨by kernel_rfl,rfl,rfl⟩) ?_
       refine SimR.done rfl ?_;dsimp only
       refine Sim.exec hmix hΓ (n:=0) (by simp +decide;exact⟨rfl,rfl,rfl⟩) (by simp[hXl]) ?_
       dsimp only
       refine Sim.exec hmix hΓ (n:=0) (by simp[y7];exact⟨rfl,rfl,rfl⟩) (by simp[hXl]) ?_
       exact⟨i+1,by omega,Weak.tailG hXl hXid [0,1,2,3,4,5,6,7,8,9] (by decide) (by simp[AWs,AW,os]) (by simp[AWg,AWb,AW,hXl,hA0]),by omega⟩
     · obtain⟨n1,n2,n3,n4,n5⟩:=hmk.resolve_left hvw
       dsimp only at n1 n2 n3 n4 n5;subst n2;subst n5
       obtain⟨G,rfl⟩:∃G:Nat,good=G:=⟨good.toNat,by omega⟩
       rw[Int.toNat_natCast]at a2 c2 c2' hvw;have hvwb:(w.take G==w)=false:=beq_eq_false_iff_ne.2 hvw
       have n6:¬(La:Int)=0:=by omega
       have n7:((La:Int)==0)=false:=beq_eq_false_iff_ne.2 n6
       have n8:¬(w.length:Int)<G:=by omega
       have n9:G<=w.length:=by omega
       have n10:(G:Int)<=w.length:=by omega
       have n11:¬(G:Int)<0:=by omega
       have n12:(0:Int)<=G:=by omega
       refine SimR.many hΓ 10 (by simp[zI];rfl) (by omega) (by kernel_rfl) (by simp +decide [hXl,hflW,hflV,hiM,j3,a1,a2,hvwb];first | exact⟨rfl,rfl⟩ | exact⟨by kernel_rfl,rfl,rfl⟩) ?_
       refine SimR.many hΓ 15 (by simp[zI,zh];rfl) (by omega) (by kernel_rfl) (by simp +decide [hXl,n7];first | exact⟨rfl,rfl⟩ | exact⟨by kernel_rfl,rfl,rfl⟩) ?_
       refine SimR.many hΓ 20 (by simp[zI,zh];rfl) (by omega) (by kernel_rfl) (by simp +decide [hXl];first | exact⟨rfl,rfl⟩ | exact⟨by kernel_rfl,rfl,rfl⟩) ?_
       refine SimR.many hΓ 33 (by simp[zI,zh];rfl) (by omega) (by kernel_rfl) (by simp +decide [hXl,hflW,hflV,hiM,j1,b1,b2];first | exact⟨rfl,rfl⟩ | exact⟨by kernel_rfl,rfl,rfl⟩) ?_
       refine SimR.many hΓ 38 (by simp[zI,zh];rfl) (by omega) (by kernel_rfl) (by simp +decide [hXl,n11];first | exact⟨rfl,rfl⟩ | exact⟨by kernel_rfl,rfl,rfl⟩) ?_
       refine SimR.many hΓ 49 (by simp[zI,zh];rfl) (by omega) (by kernel_rfl) (by simp +decide [hXl,hflW,hiM,j2,c1,n8];first | exact⟨rfl,rfl⟩ | exact⟨by kernel_rfl,rfl,rfl⟩) ?_
       refine SimR.many hΓ 65 (by simp[zI,zh];rfl) (by omega) (by kernel_rfl) (by simp +decide [hXl,hflW,hflV,hiM,j2,c1,c2,n10,n12];first | exact⟨rfl,rfl⟩ | exact⟨by kernel_rfl,rfl,rfl⟩) ?_
       refine SimR.done rfl ?_;dsimp only
       refine Sim.exec hmix hΓ (n:=0) (by simp +decide;exact⟨rfl,rfl,rfl⟩) (by simp[hXl]) ?_
       dsimp only
       refine Sim.exec hmix hΓ (n:=0) (by simp[y7];exact⟨rfl,rfl,rfl⟩) (by simp[hXl]) ?_
       exact⟨i+1,by omega,Weak.tailG hXl hXid [0,1,2,3,4,5,6,7,8,9] (by decide) (by simp[AWs,AW,os]) (by simp[AWg,AWb,AW,hXl,hA0]),by omega⟩
   · have hie:i=M:=by omega
     subst hie
     refine Sim.exec hmix hΓ (n:=0) (by simp;exact⟨rfl,rfl,rfl⟩) (by simp[hXl]) ?_
     exact⟨rfl,Weak.tailG hXl hXid [0,1,2,3,4,5] (by decide) (by simp[AWs,AW,os]) (by simp[AWg,AWb,AW,hXl,hA0])⟩
 rintro _ F7 H7 hl7 ⟨rfl,hw7⟩;dsimp only;rw[if_pos rfl];refine Sim.weak hw7 hl7 ?_;clear hw7 hl7 F7 H7;dsimp only[qbZ,q9Z,qaZ];obtain⟨z,hz⟩:∃z,sp % 3=z:=⟨_,rfl⟩
 have tz:(sp:Int).tmod 3=z:=by rw[rrZ (by omega)];omega
 have z1:IntKind.u8.wrap (z:Int)=z:=zDb (by omega) (by omega)
 have z2:IntKind.i64.wrap (z:Int)=z:=zX (by omega) (by omega)
 have z3:IntKind.i64.wrap (1+(z:Int))=1+z:=zX (by omega) (by omega)
 obtain⟨t,ht,htt⟩:=hstop (1+z) (by omega) st
 have ka:(d.arm (1+z)).ok 20 5000:=DS.ok_arm e2 _ (by omega)
 have kam:(d.arm (1+z)).ok 800000 100000000000:=DS.ok_mono ka (by omega) (by omega)
 obtain⟨da,hda⟩:∃x,d.arm (1+z)=x:=⟨_,rfl⟩;rw[hda]at ht ka kam;have kme:=zL3 ⟨lg,es,good,torn⟩ ka;obtain⟨⟨dm,ee⟩,hdm⟩:∃x,da.mend ⟨lg,es,good,torn⟩=x:=⟨_,rfl⟩;rw[hdm]at ht kme;dsimp only at ht kme
 have sdm:dm.small:=DS.ok_mono kme (by omega) (by omega)
 have kre:=DS.ok_restart kme st;obtain⟨dr,hdr⟩:∃x,dm.restart st=x:=⟨_,rfl⟩;rw[hdr]at ht kre
 have c9:dr.ok 10000 500000000:=DS.ok_mono kre (by omega) (by omega)
 have hst':(∀x∈st,0<=x/\x<=65535)=True:=by simpa using hst
 have tks:st.take m=st:=q6Z (by omega)
 refine Sim.step hmix hΓ (n:=0) (by simp +decide [zD2,zTy,hXl,hXs,tz,z2,z3,hda];exact⟨rfl,rfl⟩) (by simp[hXl]) ?_
 refine Sim.step hmix hΓ (n:=0) (by simp +decide [zD2,zKS,hXl,hXs,kam,l0,q1,q2,zBq,hdm,hLa,hLe,hla6];exact⟨rfl,rfl⟩) (by simp[hXl]) ?_
 refine Sim.step hmix hΓ (n:=0) (by simp +decide [zD2,zLi,zLv,zGY,zP4,zCa,hXl,hXs,hXs',sdm,hm,hsl,hst',tks,hdr];exact⟨rfl,rfl⟩) (by simp[hXl]) ?_
 obtain⟨q4,q5,q6⟩:=zII ht;dsimp only at q4 q5 q6;obtain⟨B9,hB9⟩:∃B,lgB dr.list=B:=⟨_,rfl⟩;obtain⟨P9,hP9⟩:∃p,zBQ (1+(q:Int)) (zAM 3 dr.list)=p:=⟨_,rfl⟩;rw[hB9]at q4 q5;rw[hP9]at q4 q5;rw[hLa]at q4 q5
 have i5:Le<=1000000000000:=by have:=zUG e2 hld;dsimp only at this;omega
 have la12:La<=1000000000000:=by omega
 refine Sim.step hmix hΓ (n:=0) (by simp +decide [zD2,zKJ,fnV,Nat.add_assoc,hXl,hXs,c9,x1,x2,ht,hB9,hP9,hLa,hLe];exact⟨rfl,rfl⟩) (by simp[hXl]) ?_
 refine Sim.seq (Sim.plain (by simp[hXl]) ?_)
 refine SimP.many hΓ 10 rfl rfl (by simp +decide [zD2,zIK,zE4,hXl,ele,en1,i5,hLe];exact⟨rfl,rfl⟩) ?_
 refine SimP.many hΓ 7 rfl rfl (by simp +decide [zD2,zLd,zIi,hXl,q1,q2,q4,q5,la12,hLa];exact⟨rfl,rfl⟩) ?_
 refine SimP.many hΓ 7 rfl rfl (by simp +decide [hXl];exact⟨rfl,rfl⟩) ?_
 cases torn with
 | true =>
   refine SimP.many hΓ 9 rfl rfl (by simp +decide [hXl];exact⟨rfl,rfl⟩) ?_
   refine SimP.done ?_;dsimp only
   refine Sim.exec hmix hΓ (n:=0) (by simp +decide;exact⟨rfl,rfl,rfl⟩) (by simp[hXl]) ?_
   exact⟨.inr rfl,_,by simp[Tryz.f6] <;> rfl,fin _⟩
 | false =>
   obtain rfl:=htt rfl
   refine SimP.many hΓ 9 rfl rfl (by simp +decide [hXl];exact⟨rfl,rfl⟩) ?_
   refine SimP.done ?_;dsimp only
   refine Sim.exec hmix hΓ (n:=0) (by simp +decide;exact⟨rfl,rfl,rfl⟩) (by simp[hXl]) ?_
   exact⟨.inr rfl,_,by simp[Tryz.f6] <;> rfl,fin _⟩
end
section
open Go Go.Lib
def zB6:List (Bool×List ST):=[(true,[.one (.int .u8),.row zTr,.one .str,.one .str]),(false,[.one (.int .u8)]),(false,[.row [.one (.int .u16)]])]
theorem zHA:∀xs H,zAT zB6 0 xs H->∃H',Ct Pz 6 xs H (.bool true) H':=by
 intro xs H h0;obtain⟨z1,y1,H1,H2,rfl,k0,rfl,h1⟩:=zL4 h0;obtain⟨x1,w1,rfl,⟨a,rfl,ha⟩,k1⟩:=zBN k0;obtain⟨x3,w3,m3,y3,H3,H4,rfl,hx3,hm3,hd3,rfl,k3⟩:=zFd k1;obtain⟨x4,w4,rfl,⟨on,rfl,hon⟩,k4⟩:=zBN k3;obtain⟨x5,w5,rfl,⟨ob,rfl,hob⟩,k5⟩:=zBN k4;obtain⟨rfl,rfl⟩:=zCm k5;obtain⟨x6,w6,H5,H6,rfl,j1,rfl,h2⟩:=zEl h1;obtain⟨_,_,e6,⟨b,rfl,hb⟩,j2⟩:=zBN j1;obtain⟨rfl,rfl⟩:=zCm j2;cases e6;obtain⟨x7,w7,H7,H8,rfl,j3,rfl,h3⟩:=zEl h2;obtain⟨_,_,m7,y7,H9,H10,e7,hx7,hm7,hd7,rfl,j4⟩:=zFd j3;cases e7;obtain⟨_,rfl⟩:=zCm j4;obtain⟨rfl,rfl⟩:=zLt h3;obtain⟨cs,c1,c2,c4,c3⟩:=zNb _ _ _ _ hd3;obtain⟨st,rfl,s2,s3,rfl⟩:=zR8 hd7
 subst c1;subst s2
 have ba:=bounds_u8 ha;have bb:=bounds_u8 hb;unfold maxLen at hm3 hm7 hon hob
 obtain⟨H',h⟩:=zTW a.toNat b.toNat (by omega) (by omega) cs c2 c4 (by omega) on ob (by omega) (by omega) st s3 (by omega)
 rw[show ((a.toNat:Nat):Int)=a by omega,show ((b.toNat:Nat):Int)=b by omega]at h
 refine ⟨H',zQd (Weak.args fun rn hr=>?_) h⟩
 have hlen:H3.length=(Zz 1 cs).length:=(zIC (c3 (List.range (1+H3.length)) (fun i hi=>rfZ (by omega))).2).symm
 have hr':∀i,i<H3.length+2->rn[i]? = some i:=fun i hi=>hr i (by simp;omega)
 obtain⟨g1,g2⟩:=c3 rn fun i hi=>hr' i (by omega)
 refine ⟨⟨⟨⟨rfl,rfl⟩,zK4 hx3 (hr' 0 (by omega)),rfl,rfl,trivial⟩,⟨rfl,rfl⟩,?_,trivial⟩,?_⟩
 · have:=zK4 hx7 (rn:=rn) (hr' _ (by simp))
   simp only[q7Z,qdZ,q8Z,Nat.add_zero,s8Z]at this
   rwa [hlen]at this
 · unfold imH
   have e:(.cells false y3::(H3++[])++([]++(.cells false (Z6 st)::([]++[])++[])):zA)=(.cells false y3::H3)++[.cells false (Z6 st)]:=by simp
   rw[e];exact All2.app ⟨⟨id,g1⟩,g2⟩ ⟨⟨id,AWs.refl _ _ (zDD _)⟩,trivial⟩
end
end Go.Proofs.YtpmfecnajoojeaaGreatDoor
