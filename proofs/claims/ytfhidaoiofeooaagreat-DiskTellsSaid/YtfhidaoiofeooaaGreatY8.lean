/- Parts of the proof of DiskTells: lemmas, each with its own conditions. -/
import Derived.Test.YtfhidaoiofeooaaGreatY7
set_option maxHeartbeats 64000000
open List renaming getElem?_eq_some_iff → q1Z, getD_eq_getElem?_getD → q2Z, getElem?_eq_getElem → q3Z, getElem?_append_left → q4Z, getElem?_append_right → q5Z, take_of_length_le → q6Z, length_cons → q7Z, length_nil → q8Z, cons_append → q9Z, nil_append → qaZ, replicate → qbZ, length_append → qdZ, getElem?_set_ne → qfZ, length_take → qjZ, mem_cons → qwZ, getElem?_map → qzZ, append_nil → r2Z, take_append_drop → r6Z, getElem?_cons_succ → r9Z, getElem?_cons_zero → raZ, flatten_cons → rcZ, not_mem_nil → rtZ, getElem?_eq_none → s4Z, flatten_append → sgZ
open Nat renaming le_refl → qnZ, lt_or_ge → s2Z, min_eq_left → sfZ
open Bool renaming and_eq_true → qrZ
open Int renaming toNat_of_nonneg → rqZ
namespace Go.Proofs.YtfhidaoiofeooaaGreat
open _root_.Go.Proofs.Tryz renaming prog → Pz
set_option maxRecDepth 100000
section
open Go
theorem zLJ{rn:List Nat}:∀(x:AV),Zx x=true->AW rn x x
 | .bool _,_ | .int _ _,_ | .str _,_ | .nilp,_ | .nils,_ | .nilm,_ | .nilf,_=>by simp[AW]
def zk(l:List AV):Bool:=l.all Zx
theorem ZD{rn:List Nat}:∀(l:List AV),zk l=true->AWs rn l l
 | [],_=>trivial
 | x::l,h=>by
   simp only[zk,List.all_cons,qrZ]at h;exact⟨zLJ x h.1,ZD l h.2⟩
theorem zNO(g:Nat->Nat){x:AV}(h:Zx x=true):reA g x=x:=by cases x <;> simp_all [Zx,reA]
def zBw:AV->Bool
 | .tuple l=>zk l
 | .agg l=>zk l
 | x=>Zx x
theorem zAG(g:Nat->Nat):∀(l:List AV),zk l=true->ZY g l=l
 | [],_=>rfl
 | x::l,h=>by
   simp only[zk,List.all_cons,qrZ]at h;simp only[ZY,zNO g h.1,zAG g l h.2]
theorem zEh(g:Nat->Nat){x:AV}(h:zBw x=true):reA g x=x:=by
 cases x <;> first | exact zNO g h | (simp only[reA];rw[zAG g _ h])
def zOw(l:List AV):Bool:=l.all zBw
theorem zBm{rn:List Nat}(x:AV)(h:zBw x=true):AW rn x x:=by
 cases x <;> first | exact zLJ _ h | exact ZD _ h
theorem zGj{rn:List Nat}:∀(l:List AV),zOw l=true->AWs rn l l
 | [],_=>trivial
 | x::l,h=>by
   simp only[zOw,List.all_cons,qrZ]at h;exact⟨zBm x h.1,zGj l h.2⟩
theorem zY{P:Program}{f:FuncId}{xs:List AV}{s s':zA}{v:AV}(h:Ct P f (.ptr 0 0::xs) [.obj true s] v [.obj true s'])(hx:zOw xs=true)(hv:zBw v=true){H:zA}{b:Nat}(hb:H[b]? = some (.obj true s)) :
   Ct P f (.ptr b 0::xs) H v (H.set b (.obj true s')):=by
 have hbl:b<H.length:=(q1Z.1 hb).1
 have:=zc (H:=H) (args:=.ptr b 0::xs) h [b] (by simp) ⟨⟨rfl,rfl⟩,zGj xs hx⟩ ⟨by rw[q2Z,hb];exact⟨rfl,rfl⟩,hbl,trivial⟩ rfl
 rw[zEh _ hv]at this;simpa[zb,ABlk.own,reB] using this
theorem zHz{P:Program}{f:FuncId}{x:AV}{y:AV}{xs:List AV}{s s':zA}{l:List AV}{v:AV}(h:Ct P f (.ptr 0 0::x::xs) [.obj true s,.cells false l] v [.obj true s',.cells false l])(hx:zk xs=true)(hv:zBw v=true)(hl:zk l=true){H:zA}{b b2:Nat}{o:Bool}(hb:H[b]? = some (.obj true s))(hb2:H[b2]? = some (.cells o l))(hy:AW [b,b2] x y) :
   Ct P f (.ptr b 0::y::xs) H v (H.set b (.obj true s')):=by
 have hbl:b<H.length:=(q1Z.1 hb).1;have hbl2:b2<H.length:=(q1Z.1 hb2).1
 have hne:b≠b2:=by rintro rfl;rw[hb]at hb2;cases hb2
 have:=zc (H:=H) (args:=.ptr b 0::y::xs) h [b,b2] (by simp[hne]) ⟨⟨rfl,rfl⟩,hy,ZD xs hx⟩ ⟨by rw[q2Z,hb];exact⟨rfl,rfl⟩,hbl,by rw[q2Z,hb2];exact⟨by simp,ZD l hl⟩,hbl2,trivial⟩ rfl
 rw[zEh _ hv]at this;simpa[zb,ABlk.own,reB] using this
def Zk{σ:Type}(dec:zA->Option σ)(enc:σ->zA)(g:σ->List AV->zA->Option (σ×AV)):zU:=fun args H=>match args with
 | .ptr b 0::xs=>match H[b]? with
   | some (.obj true sub)=>match dec sub with
     | some s=>match g s xs H with
       | some (s',v)=>some (v,H.set b (.obj true (enc s')),[b])
       | none=>none
     | none=>none
   | _=>none
 | _=>none
theorem zM{P:Program}{f:FuncId}{σ:Type}{dec:zA->Option σ}{enc:σ->zA}{g:σ->List AV->zA->Option (σ×AV)}(he:∀cargs w,(callFunc f cargs).run P w=.ok (.enter f cargs) w)(hd:∀sub s,dec sub=some s->sub=enc s)
   (h:∀s xs H s' v b,g s xs H=some (s',v)->H[b]? = some (.obj true (enc s))->Ct P f (.ptr b 0::xs) H v (H.set b (.obj true (enc s')))):Sound P f (Zk dec enc g):=by
 have key:∀args H v H' W,Zk dec enc g args H=some (v,H',W)->∃b xs s s',args=.ptr b 0::xs/\H[b]? = some (.obj true (enc s))/\g s xs H=some (s',v)/\H'=H.set b (.obj true (enc s'))/\W=[b]:=by
   intro args H v H' W hs;unfold Zk at hs;split at hs;rotate_left
   · cases hs
   rename_i b xs;split at hs;rotate_left
   · cases hs
   rename_i sub hb;split at hs;rotate_left
   · cases hs
   rename_i s hds;split at hs;rotate_left
   · cases hs
   rename_i s' v' hg;cases hs;have:=hd sub s hds;subst this;exact⟨b,xs,s,s',rfl,hb,hg,rfl,rfl⟩
 refine ⟨he,fun args H v H' W hs=>?_,fun args H v H' W hs=>?_⟩
 · obtain⟨b,xs,s,s',rfl,h1,h2,rfl,rfl⟩:=key args H v H' W hs
   exact h s xs H s' v b h2 h1
 · obtain⟨b,xs,s,s',rfl,h1,h2,rfl,rfl⟩:=key args H v H' W hs
   refine ⟨by simp,fun c hc hn=>?_⟩
   rw[qfZ (fun e=>hn (by simp[e]))]
attribute [simp] Zk
end
section
open Go
attribute [-simp] zN zr ZI zT ZL
theorem Aft.closeD{n0:Nat}{F:List AV}{H:zA}{K:List AV->zA->Prop}(s:List UInt8)(b:Nat)(hb:H[b]? = some (.cells true [.str s,.nils,.str s]))(hn:n0<=H.length)
   (h:Aft n0 F (zi H b [H.length] true (⟨s,[]⟩:PF).blks) K):Aft n0 F H K:=by
 have hbl:b<H.length:=(q1Z.1 hb).1
 exact Aft.closeF (⟨s,[]⟩:PF) b H.length [] (x:=.nils) (o:=true) hb rfl (fun h=>absurd h (by omega)) rfl (by simp) (by simp;omega) hn h
theorem zT7(f:PF):Ct Pz 106 [.ptr 0 0] [.obj true f.blks] (.int .i64 0) [.obj true (⟨f.now,[]⟩:PF).blks]:=by
 have hΓ:=zBb;refine zG Tryz.func106 rfl ?_;simp only[Tryz.ntmps106,q7Z,q8Z,Nat.reduceAdd,Nat.reduceSub,qbZ,q9Z,qaZ]
 refine Sim.aft (Aft.open (b:=0) rfl (by simp) (Aft.done (by simp[zX]) ?_))
 rw[zCv];obtain⟨R,eR⟩:∃R,zAt (List.length ([]:zA)+2) f.acts=R:=⟨_,rfl⟩;obtain⟨X,eX⟩:∃X,f.acts.map FAct.box=X:=⟨_,rfl⟩;rw[eR,eX]
 refine Sim.step hmix hΓ (n:=0) (by simp;exact⟨rfl,rfl⟩) (by simp) ?_
 refine Sim.step hmix hΓ (n:=0) (by simp;exact⟨rfl,rfl⟩) (by simp) ?_
 refine Sim.step hmix hΓ (n:=0) (by simp[zFG,Tryz.f99];exact⟨rfl,rfl⟩) (by simp) ?_
 refine Sim.aft (Aft.closeD f.now 0 rfl (by simp) (Aft.weak (Fn:=qbZ 11 .top) (Hn:=[.obj true (⟨f.now,[]⟩:PF).blks]) (Weak.mk' [0] (by decide) (by decide) (zAO _ _ _ rfl) (zJ (b:=0) (by simp) _ _ rfl fun i c x h1 h2=>?_)) (by simp) (Aft.done (by simp) ?_)))
 · match i,h1,h2 with
   | 0,h1,h2=>cases h1;cases h2;exact .inl ⟨rfl,rfl⟩
 refine Sim.exec hmix hΓ (n:=0) (by simp;exact⟨rfl,rfl,rfl⟩) (by simp) ?_
 exact⟨.inr rfl,_,by simp[Tryz.f106] <;> rfl,Weak.mk' [0] (by decide) (by decide) (by simp) (by simp[AWb])⟩
structure PF.ok (f:PF) (B:Nat):Prop where
 fits:fits f.d f.acts
 acts:f.acts.length<=B
 len:∀i,(zBK f.d (f.acts.take i)).length<=B
def inI(n a b:Int):Int:=max a (min n b)
def PF.stays(f:PF)(done part:Int):List UInt8 :=
 let n:=(inI done 0 f.acts.length).toNat
 zBK f.d (f.acts.take n)++(match f.acts[n]? with
   | some (.add m)=>m.take (inI part 0 m.length).toNat
   | _=>[])
theorem zCC(s:List UInt8)(l:List FAct)(i:Nat)(h:i<l.length):zBK s (l.take (i+1))=l[i].run (zBK s (l.take i)):=by
 rw[List.take_succ_eq_append_getElem h,zD4];rfl
theorem zHy{s:List UInt8}{l:List FAct}(h:fits s l){i n:Nat}(hi:l[i]? = some (.cut n)):n<=(zBK s (l.take i)).length:=by
 have hil:i<l.length:=(q1Z.1 hi).1
 have e:l=l.take i++l[i]::l.drop (i+1):=by rw[<-List.drop_eq_getElem_cons hil,r6Z]
 rw[e,zHW]at h;have h2:=h.2
 have:l[i]=.cut n:=by rw[q3Z hil]at hi;exact Option.some.inj hi
 rw[this]at h2;exact h2.1
def zHU:ABlk->Option AV
 | .obj false [.cells true [x]]=>some x
 | _=>none
theorem zMT{B:ABlk}{x:AV}(h:zHU B=some x):B=.obj false [.cells true [x]]:=by
 unfold zHU at h
 split at h <;> cases h
 rfl
def zSN:zU:=fun args H=>match args with
 | [.str s,.int .i64 p,.ptr b 0]=>match zHU (H.getD b .dead) with
   | some (.str m)=>if s.length+m.length<=1000000000000 then some (.str (s++m.take (inI p 0 m.length).toNat),H,[]) else none
   | _=>none
 | _=>none
def zEq:zU:=fun args H=>match args with
 | [.str s,.int .i64 p,.ptr b 0]=>match zHU (H.getD b .dead) with
   | some (.int .i64 n)=>if 0<=n/\n<=s.length then some (.str (if p<4611686018427387904 then s else s.take n.toNat),H,[]) else none
   | _=>none
 | _=>none
theorem zQ7{P:Program}{f:FuncId}{xs:List AV}{s:zA}{v:AV}(h:Ct P f (xs++[.ptr 0 0]) [.obj false s] v [.obj false s])(hx:zk xs=true)(hv:zBw v=true){H:zA}{b:Nat}(hb:H[b]? = some (.obj false s)) :
   Ct P f (xs++[.ptr b 0]) H v H:=by
 have hbl:b<H.length:=(q1Z.1 hb).1
 have ha:∀ys:List AV,zk ys=true->AWs [b] (ys++[.ptr 0 0]) (ys++[.ptr b 0]):=by
   intro ys
   induction ys with
   | nil=>intro _;exact⟨⟨rfl,rfl⟩,trivial⟩
   | cons y ys ih =>
     intro h;simp only[zk,List.all_cons,qrZ]at h;exact⟨zLJ y h.1,ih h.2⟩
 have:=zc (H:=H) (args:=xs++[.ptr b 0]) h [b] (by simp) (ha xs hx) ⟨by rw[q2Z,hb];exact⟨rfl,rfl⟩,hbl,trivial⟩ rfl
 rw[zEh _ hv]at this;simpa[zb,ABlk.own,reB] using this
theorem zWQ(s m:List UInt8)(p:Int)(hl:s.length+m.length<=1000000000000):Ct Pz 93 [.str s,.int .i64 p,.ptr 0 0] [.obj false [.cells true [.str m]]] (.str (s++m.take (inI p 0 m.length).toNat)) [.obj false [.cells true [.str m]]]:=by
 obtain⟨z,hz⟩:∃z,(inI p 0 m.length).toNat=z:=⟨_,rfl⟩
 have hz2:max 0 (min p (m.length:Int))=z:=by unfold inI at hz;omega
 have hz3:z<=m.length:=by unfold inI at hz;omega
 have hz4:(z:Int)<=(m.length:Int):=by omega
 have c1:m.length<=9223372036854775807:=by omega
 have c4:s.length+(m.take z).length<=9223372036854775807:=by simp;omega
 have c5:s.length+z<=9223372036854775807:=by omega
 rw[hz];refine zDq hmix zBb (n:=0) Tryz.func93 ?_;unfold Tryz.f93
 exact⟨_,_,(by simp +decide [-ZK,zn,zAk,zFG,Tryz.f94,hz2,hz3,hz4,c5];exact⟨rfl,rfl⟩),Weak.mk' [0] (by decide) rfl (by simp) (by simp[AWb])⟩
theorem zSG(s:List UInt8)(n p:Int)(h0:0<=n)(h1:n<=s.length):Ct Pz 132 [.str s,.int .i64 p,.ptr 0 0] [.obj false [.cells true [.int .i64 n]]] (.str (if p<4611686018427387904 then s else s.take n.toNat)) [.obj false [.cells true [.int .i64 n]]]:=by
 refine zDq hmix zBb (n:=0) Tryz.func132 ?_;unfold Tryz.f132;by_cases hp:p<4611686018427387904
 · rw[if_pos hp]
   exact⟨_,_,(by simp +decide [hp];exact⟨rfl,rfl⟩),Weak.mk' [0] (by decide) rfl (by simp) (by simp[AWb])⟩
 · rw[if_neg hp]
   exact⟨_,_,(by simp +decide [hp,h0,h1];exact⟨rfl,rfl⟩),Weak.mk' [0] (by decide) rfl (by simp) (by simp[AWb])⟩
theorem zRI:Sound Pz 93 zSN:=by
 refine ⟨zE Tryz.func93 rfl (by decide),fun args H v H' W h=>?_,fun args H v H' W h=>?_⟩
 · unfold zSN at h
   split at h <;> try cases h
   rename_i s p b
   split at h <;> try cases h
   rename_i m hb
   split at h <;> cases h
   rename_i hl
   have hb2:H[b]? = some (.obj false [.cells true [.str m]]):=by
     have:=zMT hb;rw[q2Z]at this
     cases hx:H[b]? with
     | none=>rw[hx]at this;cases this
     | some y=>rw[hx]at this;exact congrArg some this
   exact zQ7 (xs:=[.str s,.int .i64 p]) (zWQ s m p hl) rfl rfl hb2
 · unfold zSN at h
   split at h <;> try cases h
   split at h <;> try cases h
   split at h <;> cases h
   exact⟨qnZ _,fun _ _ _=>rfl⟩
theorem zLy:Sound Pz 132 zEq:=by
 refine ⟨zE Tryz.func132 rfl (by decide),fun args H v H' W h=>?_,fun args H v H' W h=>?_⟩
 · unfold zEq at h
   split at h <;> try cases h
   rename_i s p b
   split at h <;> try cases h
   rename_i n hb
   split at h <;> cases h
   rename_i hl
   have hb2:H[b]? = some (.obj false [.cells true [.int .i64 n]]):=by
     have:=zMT hb;rw[q2Z]at this
     cases hx:H[b]? with
     | none=>rw[hx]at this;cases this
     | some y=>rw[hx]at this;exact congrArg some this
   exact zQ7 (xs:=[.str s,.int .i64 p]) (zSG s n p hl.1 hl.2) rfl rfl hb2
 · unfold zEq at h
   split at h <;> try cases h
   split at h <;> try cases h
   split at h <;> cases h
   exact⟨qnZ _,fun _ _ _=>rfl⟩
def zHS:List FuncId:=[94,99]
theorem zVF:GOk Pz (zA2 Pz (zo [(93,zSN),(132,zEq)]) 0 zHS 4):=ZT hmix (zB zRI (zB zLy zC)) 0 zHS 4
theorem zSn(f:PF)(done part:Int)(hok:f.ok 1000000000000)(hp:part<=4611686018427387903) :
   Ct Pz 38 [.ptr 0 0,.agg [.int .i64 done,.int .i64 part]] [.obj true f.blks] (.int .i64 0) [.obj true (⟨f.stays done part,[]⟩:PF).blks]:=by
 have hΓ:=zVF;refine zG Tryz.func38 rfl ?_;simp only[Tryz.ntmps38,q7Z,q8Z,Nat.reduceAdd,Nat.reduceSub,qbZ,q9Z,qaZ]
 refine Sim.aft (Aft.open (b:=0) rfl (by simp) (Aft.done (by simp[zX]) ?_))
 rw[zCv];obtain⟨hfit,hk,hlen⟩:=hok;obtain⟨R,eR⟩:∃R,zAt (List.length ([]:zA)+2) f.acts=R:=⟨_,rfl⟩;obtain⟨X,eX⟩:∃X,f.acts.map FAct.box=X:=⟨_,rfl⟩
 have hR:R.length=f.acts.length:=by rw[<-eR];simp
 have hX:X.length=f.acts.length:=by rw[<-eX];simp
 have eR2:R=zAt 2 f.acts:=by rw[<-eR];rfl
 have gR:∀(i:Nat) (a:FAct),f.acts[i]? = some a->∀h,R[i]'h=a.fn (i+2):=by
   intro i a hi h;have hil:i<f.acts.length:=(q1Z.1 hi).1;have:=zOF f.acts 2 i hil;rw[<-eR2,q3Z h]at this;rw[q3Z hil]at hi;rw[Option.some.inj this,Option.some.inj hi,Nat.add_comm]
 have gX:∀(i:Nat) (a:FAct),f.acts[i]? = some a->X[i]? = some a.box:=by
   intro i a hi
   rw[<-eX,qzZ,hi];rfl
 rw[eR,eX];obtain⟨k,ek⟩:∃k,f.acts.length=k:=⟨_,rfl⟩;rw[ek]at hR hX hk ⊢;obtain⟨s,es⟩:∃s,f.now=s:=⟨_,rfl⟩;rw[es]
 refine Sim.step hmix hΓ (n:=0) (by simp;exact⟨rfl,rfl⟩) (by simp) ?_
 refine Sim.step hmix hΓ (n:=0) (by simp;exact⟨rfl,rfl⟩) (by simp) ?_
 refine Sim.step hmix hΓ (n:=0) (by simp;exact⟨rfl,rfl⟩) (by simp) ?_
 obtain⟨n,en⟩:∃n,(inI done 0 k).toNat=n:=⟨_,rfl⟩
 have en2:max 0 (min done (k:Int))=n:=by unfold inI at en;omega
 have hnk:n<=k:=by unfold inI at en;omega
 have hnk2:(n:Int)<=(k:Int):=by omega
 refine Sim.step hmix hΓ (n:=0) (by simp +decide [-ZK,zn,zAk,zHS,Tryz.f94,hX,en2];first | exact⟨rfl,rfl⟩ | exact⟨by kernel_rfl,rfl,rfl⟩) (by simp) ?_
 refine Sim.seq (Sim.step hmix hΓ (n:=0) (by simp[hnk2];exact⟨rfl,rfl⟩) (by simp) ?_)
 obtain⟨HH,eH⟩:∃HH,(ABlk.cells true [AV.str f.d,AV.sl 1 0 k 1 false,AV.str s]::ABlk.cells true R::(X++[ABlk.cells true [AV.int IntKind.i64 done,AV.int IntKind.i64 part]]):zA)=HH:=⟨_,rfl⟩
 refine Sim.block (Sim.loopS (fun i:Nat=>i<=n)
   (fun i=>[.ptr 0 0,.top,.top,.ptr (k+1+1) 0,.int .i64 0,.str (zBK f.d (f.acts.take i)),.int .i64 n]++qbZ 21 .top++[.sl 1 0 n 1 false,.int .i64 n,.int .i64 i]++qbZ 29 .top)
   (fun _=>HH) (fun i=>n-i) 0 (by simp) (by simp) ⟨by simp[zBK],eH⟩ fun i hi=>?_)
 by_cases hlt:i<n
 · have hik:i<f.acts.length:=by omega
   obtain⟨a,ha⟩:∃a,f.acts[i]? = some a:=⟨_,q3Z hik⟩
   have hae:f.acts[i]=a:=by rw[q3Z hik]at ha;exact Option.some.inj ha
   have q1:=gR i a ha;have q2:=gX i a ha
   have hiR:i<R.length:=by omega
   have hiX:i<X.length:=by omega
   have q3:(X++[ABlk.cells true [AV.int IntKind.i64 done,AV.int IntKind.i64 part]])[i]? = some a.box:=by rw[q4Z hiX];exact q2
   have e1:=zCC f.d f.acts i hik;rw[hae]at e1;have l1:=hlen (i+1);have l2:=hlen i;rw[e1]at l1
   have y1:IntKind.i64.wrap ((i:Int)+1)=i+1:=zV (by omega) (by omega)
   have hfc:=fun n h=>zHy hfit (i:=i) (n:=n) h
   obtain⟨u,hu⟩:∃u,zBK f.d (f.acts.take i)=u:=⟨_,rfl⟩;rw[hu]at e1 l1 l2 hfc ⊢;rw[<-eH]
   cases a with
   | add m =>
     simp only[FAct.run,qdZ]at l1;simp only[FAct.fn]at q1;simp only[FAct.box]at q3
     have c5:u.length+m.length<=1000000000000:=by omega
     have c6:m.take (inI 4611686018427387904 0 m.length).toNat=m:=q6Z (by unfold inI;omega)
     refine Sim.exec hmix hΓ (n:=0) (by simp +decide [zHS,zSN,zHU,hlt,hiR,q1,q3,y1,c5,c6];exact⟨rfl,rfl,rfl⟩) (by simp) ?_
     exact⟨i+1,by omega,⟨by simp[e1,FAct.run],by first | exact eH | rfl⟩,by omega⟩
   | cut z =>
     simp only[FAct.fn]at q1;simp only[FAct.box]at q3;have hz:=hfc z ha
     refine Sim.exec hmix hΓ (n:=0) (by simp +decide [zHS,zEq,zHU,hlt,hiR,q1,q3,y1,hz];exact⟨rfl,rfl,rfl⟩) (by simp) ?_
     exact⟨i+1,by omega,⟨by simp[e1,FAct.run],by first | exact eH | rfl⟩,by omega⟩
 have:i=n:=by omega
 subst this;rw[<-eH]
 refine Sim.exec hmix hΓ (n:=0) (by simp;exact⟨rfl,rfl,rfl⟩) (by simp) ?_
 dsimp only;rw[if_pos rfl];obtain⟨T,hT⟩:∃T,f.stays done part=T:=⟨_,rfl⟩
 have hT2:T=zBK f.d (f.acts.take i)++(match f.acts[i]? with
   | some (.add m)=>m.take (inI part 0 m.length).toNat
   | _=>[]):=by rw[<-hT];unfold PF.stays;simp only[ek,en]
 rw[hT];obtain⟨u,hu⟩:∃u,zBK f.d (f.acts.take i)=u:=⟨_,rfl⟩;have l2:=hlen i;rw[hu]at hT2 l2 ⊢
 have q4:(X++[ABlk.cells true [AV.int IntKind.i64 done,AV.int IntKind.i64 part]])[k]? = some (ABlk.cells true [AV.int IntKind.i64 done,AV.int IntKind.i64 part]):=by rw[<-hX,q5Z (qnZ _)];simp
 refine Sim.seq (Sim.mono (Q:=fun e F' H'=>e=.normal/\LessF ([.ptr 0 0]++qbZ 4 .top++[.str T]++qbZ 54 .top) F'/\H'=ABlk.cells true [AV.str f.d,AV.sl 1 0 k 1 false,AV.str s]::ABlk.cells true R::(X++[ABlk.cells true [AV.int IntKind.i64 done,AV.int IntKind.i64 part]])) ?_ ?_)
 · by_cases hlast:i<k
   · have hik:i<f.acts.length:=by omega
     obtain⟨a,ha⟩:∃a,f.acts[i]? = some a:=⟨_,q3Z hik⟩
     have hae:f.acts[i]=a:=by rw[q3Z hik]at ha;exact Option.some.inj ha
     have q1:=gR i a ha;have q2:=gX i a ha
     have hiR:i<R.length:=by omega
     have hiX:i<X.length:=by omega
     have q3:(X++[ABlk.cells true [AV.int IntKind.i64 done,AV.int IntKind.i64 part]])[i]? = some a.box:=by rw[q4Z hiX];exact q2
     have e1:=zCC f.d f.acts i hik;rw[hae,hu]at e1;have l1:=hlen (i+1);rw[e1]at l1
     have hlast2:(i:Int)<(k:Int):=by omega
     have p1:min part 4611686018427387903=part:=by omega
     rw[ha]at hT2
     cases a with
     | add m =>
       simp only[FAct.run,qdZ]at l1;simp only[FAct.fn]at q1;simp only[FAct.box]at q3;simp only at hT2;obtain⟨z,hz⟩:∃z,(inI part 0 m.length).toNat=z:=⟨_,rfl⟩;rw[hz]at hT2
       have c5:u.length+m.length<=1000000000000:=by omega
       refine Sim.exec hmix hΓ (n:=0) (by simp +decide [-ZK,zn,zHS,zSN,zHU,hlast,hiR,q1,q3,q4,p1,hz,c5];exact⟨by kernel_rfl,rfl,rfl,rfl⟩) (by simp) ?_
       exact⟨rfl,by simp[hT2],rfl⟩
     | cut z =>
       simp only[FAct.fn]at q1;simp only[FAct.box]at q3;simp only[r2Z]at hT2
       have p2:part<4611686018427387904:=by omega
       have hz:=zHy hfit ha;rw[hu]at hz
       refine Sim.exec hmix hΓ (n:=0) (by simp +decide [-ZK,zn,zHS,zEq,zHU,hlast,hiR,q1,q3,q4,p1,p2,hz];exact⟨by kernel_rfl,rfl,rfl,rfl⟩) (by simp) ?_
       exact⟨rfl,by simp[hT2],rfl⟩
   · have ha:f.acts[i]? = none:=s4Z (by omega)
     rw[ha]at hT2;simp only[r2Z]at hT2
     refine Sim.exec hmix hΓ (n:=0) (by simp[hlast];exact⟨rfl,rfl,rfl⟩) (by simp) ?_
     exact⟨rfl,by simp[hT2],rfl⟩
 rintro e F' H' hl ⟨rfl,hF,rfl⟩;dsimp only;refine Sim.less hF ?_
 refine Sim.step hmix hΓ (n:=0) (by simp[zHS,Tryz.f99];exact⟨rfl,rfl⟩) (by simp) ?_
 refine Sim.aft (Aft.closeD T 0 rfl (by simp) (Aft.weak (Fn:=qbZ 60 .top) (Hn:=[.obj true (⟨T,[]⟩:PF).blks]) (Weak.mk' [0] (by decide) (by decide) (zAO _ _ _ rfl) (zJ (b:=0) (by simp) _ _ rfl fun i c x h1 h2=>?_)) (by simp) (Aft.done (by simp) ?_)))
 · match i,h1,h2 with
   | 0,h1,h2=>cases h1;cases h2;exact .inl ⟨rfl,rfl⟩
 refine Sim.exec hmix hΓ (n:=0) (by simp;exact⟨rfl,rfl,rfl⟩) (by simp) ?_
 exact⟨.inr rfl,_,by simp[Tryz.f38] <;> rfl,Weak.mk' [0] (by decide) (by decide) (by simp) (by simp[AWb])⟩
theorem blks_head(f:PF):∃B,f.blks=.cells true [.str f.d,.sl 1 0 f.acts.length 1 false,.str f.now]::B:=⟨_,rfl⟩
theorem zUS(s:List UInt8):Ct Pz 17 [.str s] [] (.ptr 0 0) [.obj true (⟨s,[]⟩:PF).blks]:=by
 refine zG Tryz.func17 rfl ?_;simp only[Tryz.ntmps17,q7Z,q8Z,Nat.reduceAdd,Nat.reduceSub,qbZ,q9Z,qaZ]
 refine Sim.after (Sim.exec hmix zBb (n:=0) (by simp;exact⟨rfl,rfl,rfl⟩) (by simp) ?_)
 refine Aft.closeD s 0 rfl (by simp) (Aft.done (by simp) ?_)
 exact⟨.inr rfl,_,by simp[Tryz.f17] <;> rfl,Weak.mk' [0] (by decide) (by decide) (by simp) (zJ (b:=0) (by simp) _ _ rfl fun i c x h1 h2=>by
   match i,h1,h2 with
   | 0,h1,h2=>cases h1;cases h2;exact .inl ⟨rfl,rfl⟩)⟩
theorem zRU(f:PF):Ct Pz 124 [.ptr 0 0] [.obj true f.blks] (.str f.now) [.obj true f.blks]:=by
 obtain⟨B,eB⟩:=blks_head f;rw[eB];refine zDq hmix zBb (n:=0) Tryz.func124 ?_;unfold Tryz.f124
 exact⟨_,_,(by simp +decide;exact⟨rfl,rfl⟩),Weak.mk' [0] (by decide) rfl (by simp) (by simp[AWb])⟩
theorem zT9:GOk Pz (zA2 Pz (zo []) 0 [124] 2):=ZT hmix zC 0 _ 2
theorem zUb(f:PF):Ct Pz 118 [.ptr 0 0] [.obj true f.blks] (.int .i64 f.now.length) [.obj true f.blks]:=by
 obtain⟨B,eB⟩:=blks_head f;rw[eB];refine zDq hmix zT9 (n:=0) Tryz.func118 ?_;unfold Tryz.f118
 exact⟨_,_,(by simp +decide [Tryz.f124];exact⟨rfl,rfl⟩),Weak.mk' [0] (by decide) rfl (by simp) (by simp[AWb])⟩
def PF.readAt(f:PF)(a n:Int):List UInt8×Int:=if a<0\/n<0\/(f.now.length:Int)<a then ([],17) else ((f.now.drop a.toNat).take n.toNat,0)
theorem zOh(f:PF)(a n:Int)(_hn:f.now.length<=1000000000000):Ct Pz 116 [.ptr 0 0,.int .i64 a,.int .i64 n] [.obj true f.blks] (.tuple [.str (f.readAt a n).1,.int .i64 (f.readAt a n).2]) [.obj true f.blks]:=by
 obtain⟨B,eB⟩:=blks_head f;obtain⟨s,es⟩:∃s,f.now=s:=⟨_,rfl⟩;unfold PF.readAt;rw[eB,es];rw[es]at _hn;refine zDq hmix zBb (n:=0) Tryz.func116 ?_;unfold Tryz.f116;by_cases h1:a<0
 · exact⟨_,_,(by simp +decide [h1];exact⟨rfl,rfl⟩),Weak.mk' [0] (by decide) rfl (by simp[h1]) (by simp[AWb])⟩
 by_cases h2:n<0
 · exact⟨_,_,(by simp +decide [h1,h2];exact⟨rfl,rfl⟩),Weak.mk' [0] (by decide) rfl (by simp[h1,h2]) (by simp[AWb])⟩
 by_cases h3:(s.length:Int)<a
 · exact⟨_,_,(by simp +decide [h1,h2,h3];exact⟨rfl,rfl⟩),Weak.mk' [0] (by decide) rfl (by simp[h1,h2,h3]) (by simp[AWb])⟩
 rw[if_neg (by omega)]
 have a0:0<=a:=by omega
 have a1:a<=(s.length:Int):=by omega
 obtain⟨k,ek⟩:∃k,a.toNat=k:=⟨_,rfl⟩
 have hk:k<=s.length:=by omega
 obtain⟨z,ez⟩:∃z:Nat,min n ((s.length-k:Nat):Int)=z:=⟨(min n ((s.length-k:Nat):Int)).toNat,by omega⟩
 have z1:z<=s.length-k:=by omega
 have z2:(z:Int)<=((s.length-k:Nat):Int):=by omega
 have z3:(s.drop k).take z=(s.drop k).take n.toNat:=by
   by_cases hz:n.toNat<=s.length-k
   · rw[show z=n.toNat by omega]
   · rw[q6Z (by simp;omega),q6Z (by simp;omega)]
 refine ⟨_,_,(by simp +decide [-ZK,zn,h1,h2,h3,a0,a1,ek,ez,z2];exact⟨rfl,rfl⟩),Weak.mk' [0] (by decide) rfl (by simp[ek,List.take_take,sfZ z1,z3]) (by simp[AWb])⟩
noncomputable def zCw(sub:zA):Option PF:=open Classical in if h:∃f:PF,sub=f.blks then some h.choose else none
theorem zBg{sub:zA}{f:PF}(h:zCw sub=some f):sub=f.blks:=by
 unfold zCw at h;split at h
 · rename_i hx
   cases h;exact hx.choose_spec
 · cases h
@[simp] theorem zIM(f:PF):zCw f.blks=some f:=by
 unfold zCw;rw[dif_pos ⟨f,rfl⟩]
 have:=(show ∃g:PF,f.blks=g.blks from ⟨f,rfl⟩).choose_spec
 have h2:=congrArg zOr this;rw[zG4,zG4]at h2;exact h2.symm
end
section
open Go
def PF.small(f:PF):Prop:=f.ok 1000000000000
theorem PF.small_now{f:PF}(h:f.small):f.now.length<=1000000000000:=by
 have:=h.len f.acts.length
 rwa [List.take_length]at this
noncomputable section
open Classical
def zTz:zU:=Zk zCw PF.blks fun f xs _=>match xs with
 | [.int .i64 n]=>if f.small then some ((f.cut n).1,.int .i64 (f.cut n).2) else none
 | _=>none
theorem zPX:Sound Pz 102 zTz:=by
 refine zM (zE Tryz.func102 rfl (by decide)) (fun _ _=>zBg) fun f xs H s' v b hg hb=>?_
 split at hg;rotate_left
 · cases hg
 rename_i n
 split at hg <;> cases hg
 rename_i hs;exact zY (zU5 f n (PF.small_now hs) hs.acts) rfl rfl hb
def zPv:zU:=Zk zCw PF.blks fun f xs _=>match xs with
 | []=>some (⟨f.now,[]⟩,.int .i64 0)
 | _=>none
theorem zMA:Sound Pz 106 zPv:=by
 refine zM (zE Tryz.func106 rfl (by decide)) (fun _ _=>zBg) fun f xs H s' v b hg hb=>?_
 split at hg <;> cases hg
 exact zY (zT7 f) rfl rfl hb
def zLT:zU:=Zk zCw PF.blks fun f xs _=>match xs with
 | []=>some (f,.str f.now)
 | _=>none
theorem zKx:Sound Pz 124 zLT:=by
 refine zM (zE Tryz.func124 rfl (by decide)) (fun _ _=>zBg) fun f xs H s' v b hg hb=>?_
 split at hg <;> cases hg
 exact zY (zRU f) rfl rfl hb
def zS5:zU:=Zk zCw PF.blks fun f xs _=>match xs with
 | []=>some (f,.int .i64 f.now.length)
 | _=>none
theorem zPA:Sound Pz 118 zS5:=by
 refine zM (zE Tryz.func118 rfl (by decide)) (fun _ _=>zBg) fun f xs H s' v b hg hb=>?_
 split at hg <;> cases hg
 exact zY (zUb f) rfl rfl hb
def zOs:zU:=Zk zCw PF.blks fun f xs _=>match xs with
 | [.int .i64 a,.int .i64 n]=>if f.small then some (f,.tuple [.str (f.readAt a n).1,.int .i64 (f.readAt a n).2]) else none
 | _=>none
theorem zMN:Sound Pz 116 zOs:=by
 refine zM (zE Tryz.func116 rfl (by decide)) (fun _ _=>zBg) fun f xs H s' v b hg hb=>?_
 split at hg;rotate_left
 · cases hg
 split at hg <;> cases hg
 rename_i hs;exact zY (zOh f _ _ (PF.small_now hs)) rfl rfl hb
def zQu:zU:=Zk zCw PF.blks fun f xs H=>match xs with
 | [.slice b2 off n 1 c]=>match H.getD b2 .dead with
   | .cells _ l=>match zAL H (.slice b2 off n 1 c) with
     | some a=>if f.small/\zk l=true/\a.flatten.length<=1000000000000/\a.length<=1000000000000 then some (f.add a.flatten,.int .i64 0) else none
     | none=>none
   | _=>none
 | _=>none
theorem zO8:Sound Pz 33 zQu:=by
 refine zM (zE Tryz.func33 rfl (by decide)) (fun _ _=>zBg) fun f xs H s' v b hg hb=>?_
 split at hg;rotate_left
 · cases hg
 rename_i b2 off n c;split at hg;rotate_left
 · cases hg
 rename_i o l hb2;split at hg;rotate_left
 · cases hg
 rename_i a ha
 split at hg <;> cases hg
 rename_i hs
 have hb3:H[b2]? = some (.cells o l):=by
   rw[q2Z]at hb2
   cases hx:H[b2]? with
   | none=>rw[hx]at hb2;cases hb2
   | some y=>rw[hx]at hb2;exact congrArg some hb2
 have hrs:zAL [.obj true f.blks,.cells false l] (.sl 1 off n 1 c)=some a:=by
   unfold zAL at ha ⊢;simp only[hb3]at ha;split at ha;rotate_left
   · cases ha
   rename_i hle;by_cases h0:n=0
   · subst h0
     rw[<-ha]
     show (if 0=0 then some [] else _)=_
     rw[if_pos rfl];rfl
   · show (if n=0 then some [] else (if off+n<=l.length then ZF ((l.drop off).take n) else none))=some a
     rw[if_neg h0,if_pos hle];exact ha
 refine zHz (x:=.sl 1 off n 1 c) (zP6 f l off n c a (fun rn=>ZD l hs.2.1) hrs hs.2.2 (PF.small_now hs.1) hs.1.acts) rfl rfl hs.2.1 hb hb3 ?_
 exact⟨rfl,rfl,rfl,rfl,fun h=>h⟩
def zOt:zU:=Zk zCw PF.blks fun f xs _=>match xs with
 | [.agg [.int .i64 d,.int .i64 p]]=>if f.small/\p<=4611686018427387903 then some (⟨f.stays d p,[]⟩,.int .i64 0) else none
 | _=>none
theorem zMF:Sound Pz 38 zOt:=by
 refine zM (zE Tryz.func38 rfl (by decide)) (fun _ _=>zBg) fun f xs H s' v b hg hb=>?_
 split at hg;rotate_left
 · cases hg
 split at hg <;> cases hg
 rename_i hs;exact zY (zSn f _ _ hs.1 hs.2) rfl rfl hb
end
def zNs:zU:=zD9 fun
 | [.str s]=>some (.ptr 0 0,[.obj true (⟨s,[]⟩:PF).blks])
 | _=>none
theorem zJU:Sound Pz 17 zNs:=by
 refine zDD (zE Tryz.func17 rfl (by decide)) fun args v H' h=>?_
 split at h <;> cases h
 exact⟨zUS _,rfl,rfl⟩
end
section
open Go
theorem PF.ok_mono{f:PF}{B C:Nat}(h:f.ok B)(hc:B<=C):f.ok C:=⟨h.fits,by have:=h.acts;omega,fun i=>by have:=h.len i;omega⟩
theorem PF.ok_new(s:List UInt8)(B:Nat)(h:s.length<=B):(⟨s,[]⟩:PF).ok B:=⟨trivial,by simp,fun i=>by simpa[zBK] using h⟩
theorem PF.ok_now{f:PF}{B:Nat}(h:f.ok B):f.now.length<=B:=by
 have:=h.len f.acts.length
 rwa [List.take_length]at this
theorem PF.ok_did{f:PF}{B C:Nat}(h:f.ok B)(a:FAct)(hf:match a with | .add _=>True | .cut n=>n<=f.now.length)(hl:(a.run f.now).length<=C)(hc:B+1<=C):(f.did a).ok C:=by
 refine ⟨(zHW _ _ _).2 ⟨h.fits,hf,trivial⟩,by have:=h.acts;simp[PF.did];omega,fun i=>?_⟩
 simp only[PF.did];rcases s2Z f.acts.length i with h1 | h1
 · rw[q6Z (by simp;omega),zD4]
   exact hl
 · rw[List.take_append_of_le_length h1]
   have:=h.len i;omega
theorem PF.ok_add{f:PF}{B k:Nat}(h:f.ok B)(m:List UInt8)(hm:m.length<=k)(hk:1<=k):(f.add m).ok (B+k):=by
 unfold PF.add;split
 · exact PF.ok_mono h (by omega)
 · refine PF.ok_did h (.add m) trivial ?_ (by omega)
   have:=PF.ok_now h
   simp[FAct.run];omega
theorem PF.ok_cut{f:PF}{B:Nat}(h:f.ok B)(n:Int):(f.cut n).1.ok (B+1):=by
 unfold PF.cut;split
 · exact PF.ok_mono h (by omega)
 split
 · refine PF.ok_did h (.cut n.toNat) (by show n.toNat<=_;omega) ?_ (by omega)
   have:=PF.ok_now h
   simp[FAct.run];omega
 · exact PF.ok_mono h (by omega)
theorem PF.ok_stays{f:PF}{B:Nat}(h:f.ok B)(d p:Int):(f.stays d p).length<=B:=by
 unfold PF.stays;obtain⟨n,hn⟩:∃n,(inI d 0 f.acts.length).toNat=n:=⟨_,rfl⟩;rw[hn];simp only;have h1:=h.len n;split
 · rename_i m hm
   have hnl:n<f.acts.length:=(q1Z.1 hm).1;have h2:=h.len (n+1);rw[zCC _ _ _ hnl]at h2;rw[q3Z hnl]at hm;rw[Option.some.inj hm]at h2;simp only[FAct.run,qdZ]at h2;simp only[qdZ,qjZ];omega
 · simpa using h1
end
section
open Go
attribute [-simp] zN zr ZI zT ZL
def FAct.cells:FAct->List AV
 | .add s=>[.bool false,.int .i64 0,.str s]
 | .cut n=>[.bool true,.int .i64 n,.str []]
def Zq:List FAct->List AV
 | []=>[]
 | a::l=>a.cells++Zq l
@[simp] theorem zUl(a:FAct):a.cells.length=3:=by cases a <;> rfl
@[simp] theorem zL6:∀(l:List FAct),(Zq l).length=l.length*3
 | []=>rfl
 | a::l=>by simp[Zq,zL6 l];omega
theorem zEK:∀(l m:List FAct),Zq (l++m)=Zq l++Zq m
 | [],m=>rfl
 | a::l,m=>by simp[Zq,zEK l m]
@[simp] theorem zIE:∀(l:List FAct),zk (Zq l)=true
 | []=>rfl
 | a::l=>by
   have:=zIE l;simp only[zk]at this ⊢
   cases a <;> simp[Zq,FAct.cells,this,Zx]
@[simp] theorem zIk{rn:List Nat}(l:List FAct):AWs rn (Zq l) (Zq l):=ZD _ (zIE l)
def PF.rblks(f:PF):zA:=[.cells true [.str f.d,.sl 1 0 f.acts.length 3 false],.cells true (Zq f.acts)]
theorem zNF(s:List UInt8)(a:FAct)(hl:(a.run s).length<=1000000000000)(hf:match a with | .add _=>True | .cut n=>n<=s.length):Ct Pz 136 [.str s,.agg a.cells] [] (.str (a.run s)) []:=by
 refine zDq hmix zBb (n:=0) Tryz.func136 ?_;unfold Tryz.f136
 cases a with
 | add m =>
   have h1:s.length+m.length<=9223372036854775807:=by simp[FAct.run]at hl;omega
   exact⟨_,_,(by simp +decide [FAct.cells,h1];exact⟨rfl,rfl⟩),Weak.mk' [] (by decide) rfl (by simp[FAct.run]) (by simp)⟩
 | cut n =>
   have h1:min (n:Int) (s.length:Int)=(n:Int):=by have:n<=s.length:=hf;omega
   have h2:n<=s.length:=hf
   exact⟨_,_,(by simp +decide [-ZK,zn,FAct.cells,h1,h2];exact⟨rfl,rfl⟩),Weak.mk' [] (by decide) rfl (by simp[FAct.run]) (by simp)⟩
theorem zIO:∀(l:List FAct) (k:Nat) (h:k<l.length),((Zq l).drop (k*3)).take 3=l[k].cells
 | a::l,0,_=>by cases a <;> simp[Zq,FAct.cells]
 | a::l,k+1,h=>by
   have:=zIO l k (by simpa using h)
   rw[show (k+1)*3=k*3+3 by omega]
   cases a <;> simpa[Zq,FAct.cells] using this
def zGs:zU:=zMX fun
 | [.str s,.agg [.bool false,.int .i64 0,.str m]]=>if s.length+m.length<=1000000000000 then some (.str (s++m)) else none
 | [.str s,.agg [.bool true,.int .i64 n,.str []]]=>if (0<=n/\n<=s.length)/\s.length<=1000000000000 then some (.str (s.take n.toNat)) else none
 | _=>none
theorem zNx:Sound Pz 136 zGs:=by
 refine zI3 (zE Tryz.func136 rfl (by decide)) fun args v h=>?_
 split at h
 · split at h <;> cases h
   rename_i s m hl
   exact⟨zNF s (.add m) (by simpa[FAct.run] using hl) trivial,rfl,rfl⟩
 · split at h <;> cases h
   rename_i s n hl
   have:=zNF s (.cut n.toNat) (by simp[FAct.run];omega) (by show n.toNat<=_;omega)
   simp only[FAct.cells,FAct.run,rqZ hl.1.1]at this;exact⟨this,rfl,rfl⟩
 · cases h
theorem zNC:GOk Pz (zA2 Pz (zo [(136,zGs)]) 0 [] 4):=ZT hmix (zB zNx zC) 0 [] 4
theorem zRG(f:PF)(hok:f.ok 1000000000000) :
   Ct Pz 119 [.ptr 0 0] [.cells false [.str f.d,.sl 1 0 f.acts.length 3 false],.cells false (Zq f.acts)] (.str f.now) [.cells false [.str f.d,.sl 1 0 f.acts.length 3 false],.cells false (Zq f.acts)]:=by
 have hΓ:=zNC;obtain⟨hfit,hk,hlen⟩:=hok;refine zG Tryz.func119 rfl ?_;simp only[Tryz.ntmps119,q7Z,q8Z,Nat.reduceAdd,Nat.reduceSub,qbZ,q9Z,qaZ];obtain⟨HH,eH⟩:∃HH,[ABlk.cells false [.str f.d,.sl 1 0 f.acts.length 3 false],.cells false (Zq f.acts)]=HH:=⟨_,rfl⟩
 refine Sim.step hmix hΓ (n:=0) (by simp;exact⟨rfl,rfl⟩) (by simp) ?_
 refine Sim.step hmix hΓ (n:=0) (by simp;exact⟨rfl,rfl⟩) (by simp) ?_
 refine Sim.seq (Sim.step hmix hΓ (n:=0) (by simp;exact⟨rfl,rfl⟩) (by simp) ?_)
 refine Sim.block (Sim.loopS (fun i:Nat=>i<=f.acts.length)
   (fun i=>[.ptr 0 0,.top,.top,.str (zBK f.d (f.acts.take i)),.int .i64 i]++qbZ 23 .top)
   (fun _=>HH) (fun i=>f.acts.length-i) 0 (by simp) (by simp) ⟨by simp[zBK],eH⟩ fun i hi=>?_)
 rw[<-eH];by_cases hlt:i<f.acts.length
 · obtain⟨a,ha⟩:∃a,f.acts[i]=a:=⟨_,rfl⟩
   have g1:=zIO f.acts i hlt
   have k1:i*3+3<=f.acts.length*3:=by omega
   have e1:=zCC f.d f.acts i hlt;have l1:=hlen (i+1);have l2:=hlen i;rw[e1]at l1;rw[ha]at g1 e1 l1
   have y1:IntKind.i64.wrap ((i:Int)+1)=i+1:=zV (by omega) (by omega)
   have hfc:=fun n h=>zHy hfit (i:=i) (n:=n) h
   rw[q3Z hlt,ha]at hfc;obtain⟨u,hu⟩:∃u,zBK f.d (f.acts.take i)=u:=⟨_,rfl⟩;rw[hu]at e1 l1 l2 hfc ⊢
   cases a with
   | add m =>
     simp only[FAct.run,qdZ]at l1;simp only[FAct.cells]at g1
     refine Sim.exec hmix hΓ (n:=0) (by simp +decide [zGs,hlt,g1,k1,y1,l1];exact⟨rfl,rfl,rfl⟩) (by simp) ?_
     exact⟨i+1,by omega,⟨by simp[e1,FAct.run],by first | exact eH | rfl⟩,by omega⟩
   | cut z =>
     simp only[FAct.cells]at g1;have hz:=hfc z rfl
     refine Sim.exec hmix hΓ (n:=0) (by simp +decide [zGs,hlt,g1,k1,y1,hz,l2];exact⟨rfl,rfl,rfl⟩) (by simp) ?_
     exact⟨i+1,by omega,⟨by simp[e1,FAct.run],by first | exact eH | rfl⟩,by omega⟩
 have:i=f.acts.length:=by omega
 subst this
 refine Sim.exec hmix hΓ (n:=0) (by simp;exact⟨rfl,rfl,rfl⟩) (by simp) ?_
 dsimp only;rw[if_pos rfl]
 refine Sim.exec hmix hΓ (n:=0) (by simp;exact⟨rfl,rfl,rfl⟩) (by simp) ?_
 exact⟨.inr rfl,_,by simp[Tryz.f119] <;> rfl,Weak.mk' [0,1] (by decide) (by decide) (by simp[PF.now]) (by simp)⟩
end
section
open Go
attribute [-simp] zN zr ZI zT ZL
theorem Ct.aft{P:Program}{f:FuncId}{args:List AV}{H H':zA}{v:AV}
   (h:Aft H.length args H fun F1 H1=>H.length<=H1.length/\∃v1 H2,Ct P f F1 H1 v1 H2/\Aft H.length [v1] H2 fun F2 H3=>F2=[v]/\H3=H'):Ct P f args H v H':=by
 intro j w cargs hR hargs;obtain⟨F1,H1,j1,⟨hl,v1,H2,h1,h2⟩,h3,s1⟩:=h j w _ hR hargs;refine Calls.mono (h1 j1 w cargs s1.rel h3) ?_;rintro e w' ⟨cv,j2,rfl,h4,s2⟩;obtain⟨F2,H3,j3,⟨rfl,rfl⟩,h5,s3⟩:=h2 j2 w' [cv] s2.rel ⟨cv,[],rfl,h4,rfl⟩;obtain⟨u,us,e,h6,_⟩:=h5;cases e;exact⟨cv,j3,rfl,h6,s1.trans ((s2.weaken hl).trans s3 (qnZ _)) (qnZ _)⟩
def rowActs:List AV->Option (List FAct)
 | []=>some []
 | .bool false::.int .i64 0::.str m::l=>match rowActs l with
   | some a=>some (.add m::a)
   | none=>none
 | .bool true::.int .i64 n::.str []::l=>if 0<=n then match rowActs l with
   | some a=>some (.cut n.toNat::a)
   | none=>none else none
 | _=>none
@[simp] theorem zKk:∀(l:List FAct),rowActs (Zq l)=some l
 | []=>rfl
 | a::l=>by cases a <;> simp[Zq,FAct.cells,rowActs,zKk l]
theorem zFm:∀{l:List AV} {a:List FAct},rowActs l=some a->l=Zq a:=by
 intro l
 induction l using rowActs.induct with
 | case1=>intro a h;cases h;rfl
 | case2 m l b hb ih=>intro a h;simp only[rowActs,hb]at h;cases h;rw[ih hb];rfl
 | case3 m l hb ih=>intro a h;simp only[rowActs,hb]at h;cases h
 | case4 n l hn b hb ih=>intro a h;simp only[rowActs,hb,if_pos hn]at h;cases h;rw[ih hb];simp[Zq,FAct.cells,rqZ hn]
 | case5 n l hn hb ih=>intro a h;simp only[rowActs,hb,if_pos hn]at h;cases h
 | case6 n l hn=>intro a h;simp only[rowActs,if_neg hn]at h;cases h
 | case7 l h1 h2 h3=>intro a h;unfold rowActs at h;split at h <;> simp_all
def zD5:zA->Option PF
 | [.cells true [.str d,.sl 1 0 n 3 false],.cells true l]=>match rowActs l with
   | some a=>if n=a.length then some ⟨d,a⟩ else none
   | none=>none
 | _=>none
@[simp] theorem zHJ(f:PF):zD5 f.rblks=some f:=by simp[zD5,PF.rblks]
theorem zC0{sub:zA}{f:PF}(h:zD5 sub=some f):sub=f.rblks:=by
 unfold zD5 at h
 split at h <;> try cases h
 split at h <;> try cases h
 rename_i a ha
 split at h <;> cases h
 rename_i hn
 rw[zFm ha,hn];rfl
theorem zEE(f:PF)(T:zA):zX (.obj true f.rblks::T) 0 f.rblks=.cells true [.str f.d,.sl (T.length+1) 0 f.acts.length 3 false]::(T++[.cells true (Zq f.acts)]):=by
 unfold zX;simp[PF.rblks,reB,ZY,reA,Zf,zAG]
theorem Aft.closeR{n0:Nat}{F:List AV}{H:zA}{K:List AV->zA->Prop}(f:PF)(b r:Nat){x:AV}(hb:H[b]? = some (.cells true [.str f.d,x]))(hx:AW [b,r] (.sl 1 0 f.acts.length 3 false) x)
   (hr:r<H.length->H[r]? = some (.cells true (Zq f.acts))) (hne:b≠r) (hn:n0<=H.length) (h:Aft n0 F (zi H b [r] true f.rblks) K):Aft n0 F H K:=by
 refine Aft.close (o:=true) (b:=b) (rs:=[b,r]) (ks:=[r]) rfl (by simp[hne]) (q1Z.1 hb).1 ?_ ?_ ⟨_,rfl,rfl⟩ ?_ hn h
 · intro c x hc hcb _ _
   simp only[qwZ,rtZ,or_false]at hc;rcases hc with rfl | rfl
   · exact absurd rfl hcb
   · simp
 · refine ⟨?_,?_,trivial⟩
   · split
     · rw[q2Z,hb]
       exact⟨fun h=>h,rfl,hx,trivial⟩
     · trivial
   · split
     · rename_i h1
       rw[q2Z,hr h1]
       exact⟨fun h=>h,zIk _⟩
     · trivial
 · intro i y hy hd
   match i,hy with
   | 0,hy=>cases hy;rfl
   | 1,hy=>cases hy;rfl
theorem zJ7(f:PF)(hok:f.ok 1000000000000){H:zA}{b r:Nat}{o o2:Bool}(hb:H[b]? = some (.cells o [.str f.d,.sl r 0 f.acts.length 3 false]))(hr:H[r]? = some (.cells o2 (Zq f.acts)))(hne:b≠r) :
   Ct Pz 119 [.ptr b 0] H (.str f.now) H:=by
 have hbl:b<H.length:=(q1Z.1 hb).1;have hrl:r<H.length:=(q1Z.1 hr).1
 have:=zc (H:=H) (args:=[.ptr b 0]) (zRG f hok) [b,r] (by simp[hne]) ⟨⟨rfl,rfl⟩,trivial⟩ ⟨by rw[q2Z,hb];exact⟨by simp,rfl,⟨rfl,rfl,rfl,rfl,fun h=>h⟩,trivial⟩,hbl,by rw[q2Z,hr];exact⟨by simp,zIk _⟩,hrl,trivial⟩ rfl
 simpa[zb,ABlk.own,reB,reA] using this
theorem zO9(f:PF)(hok:f.ok 1000000000000):Ct Pz 119 [.ptr 0 0] [.obj true f.rblks] (.str f.now) [.obj true f.rblks]:=by
 refine Ct.aft (Aft.open (b:=0) rfl (by simp) (Aft.done (by simp[zX]) ?_))
 rw[zEE]
 refine ⟨by simp,.str f.now,_,zJ7 f hok (b:=0) (r:=1) rfl rfl (by decide),?_⟩
 refine Aft.closeR f 0 1 (x:=.sl 1 0 f.acts.length 3 false) rfl ⟨rfl,rfl,rfl,rfl,fun h=>h⟩ (fun _=>rfl) (by decide) (by simp) ?_
 refine Aft.weak (Fn:=[.str f.now]) (Hn:=[.obj true f.rblks]) (Weak.mk' [0] (by decide) rfl ⟨rfl,trivial⟩ (zJ (b:=0) (by simp) _ _ rfl fun i c x h1 h2=>?_)) (by simp) (Aft.done (by simp) ⟨rfl,rfl⟩)
 match i,h1,h2 with
 | 0,h1,h2=>cases h1;cases h2;exact .inl ⟨rfl,rfl⟩
noncomputable section
open Classical
def Zr:zU:=fun args H=>match args with
 | [.ptr b 0]=>match H.getD b .dead with
   | .cells _ [.str d,.sl r 0 n 3 false]=>match H.getD r .dead with
     | .cells _ l=>match rowActs l with
       | some a=>if n=a.length/\b≠r/\PF.small ⟨d,a⟩ then some (.str (PF.now ⟨d,a⟩),H,[]) else none
       | none=>none
     | _=>none
   | .obj true sub=>match zD5 sub with
     | some f=>if f.small then some (.str f.now,H,[]) else none
     | none=>none
   | _=>none
 | _=>none
end
theorem getD_some{H:zA}{b:Nat}{x:ABlk}(h:H.getD b .dead=x)(hx:x≠.dead):H[b]? = some x:=by
 rw[q2Z]at h
 cases hy:H[b]? with
 | none=>rw[hy]at h;exact absurd h.symm hx
 | some y=>rw[hy]at h;exact congrArg some h
theorem zDr:Sound Pz 119 Zr:=by
 refine ⟨zE Tryz.func119 rfl (by decide),fun args H v H' W h=>?_,fun args H v H' W h=>?_⟩
 · unfold Zr at h
   split at h <;> try cases h
   rename_i b
   split at h <;> try cases h
   · rename_i d r n hb
     split at h <;> try cases h
     rename_i l hr
     split at h <;> try cases h
     rename_i a ha
     split at h <;> cases h
     rename_i hc;obtain⟨rfl,hne,hs⟩:=hc;rw[zFm ha]at hr
     exact zJ7 ⟨d,a⟩ hs (getD_some hb (by simp)) (getD_some hr (by simp)) hne
   · rename_i sub hb
     split at h <;> try cases h
     rename_i f hf
     split at h <;> cases h
     rename_i hs;rw[zC0 hf]at hb
     have hb2:=getD_some hb (by simp)
     have:=zY (zO9 f hs) rfl rfl hb2;obtain⟨h1,h2⟩:=q1Z.1 hb2;rw[<-h2,List.set_getElem_self]at this;exact this
 · unfold Zr at h
   split at h <;> try cases h
   split at h <;> try cases h
   · split at h <;> try cases h
     split at h <;> try cases h
     split at h <;> cases h
     exact⟨qnZ _,fun _ _ _=>rfl⟩
   · split at h <;> try cases h
     split at h <;> cases h
     exact⟨qnZ _,fun _ _ _=>rfl⟩
end
section
open Go
attribute [-simp] zN zr ZI zT ZL
@[simp] theorem zOk:∀l:List FAct,(Zq l).all zm=true
 | []=>rfl
 | a::l=>by
   have:=zOk l
   cases a <;> simp[Zq,FAct.cells,zm]at this ⊢ <;> exact this
@[simp] theorem zWy(l:List FAct):(Zq l).take (l.length*3)=Zq l:=q6Z (by simp)
theorem zHg:GOk Pz (zA2 Pz (zo [(119,Zr)]) 0 [] 4):=ZT hmix (zB zDr zC) 0 [] 4
theorem zSg(f:PF)(hs:f.small):Ct Pz 107 [.ptr 0 0] [.obj true f.rblks] (.tuple []) [.obj true (⟨f.now,[]⟩:PF).rblks]:=by
 refine zG Tryz.func107 rfl ?_;simp only[Tryz.ntmps107,q7Z,q8Z,Nat.reduceAdd,Nat.reduceSub,qbZ,q9Z,qaZ]
 refine Sim.aft (Aft.open (b:=0) rfl (by simp) (Aft.done (by simp[zX]) ?_))
 rw[zEE]
 refine Sim.after (Sim.exec hmix zHg (n:=0) (by simp[Zr,hs];exact⟨rfl,rfl,rfl⟩) (by simp) ?_)
 refine Aft.closeR ⟨f.now,[]⟩ 0 2 (x:=.nils) rfl (by simp[AW]) (by simp) (by decide) (by simp) (Aft.done (by simp) ⟨by first | exact .inl rfl | exact .inr rfl,_,by simp[Tryz.f107] <;> rfl,Weak.mk' [0] (by decide) rfl (by simp) (zJ (b:=0) (by simp) _ _ rfl fun i c x h1 h2=>?_)⟩)
 match i,h1,h2 with
 | 0,h1,h2=>cases h1;cases h2;exact .inl ⟨rfl,rfl⟩
theorem zUC(f:PF)(a n:Int)(hs:f.small):Ct Pz 117 [.ptr 0 0,.int .i64 a,.int .i64 n] [.obj true f.rblks] (.tuple [.str (f.readAt a n).1,.int .i64 (f.readAt a n).2]) [.obj true f.rblks]:=by
 have hn:=PF.small_now hs;obtain⟨s,es⟩:∃s,f.now=s:=⟨_,rfl⟩;unfold PF.readAt;rw[es];rw[es]at hn;refine zDq hmix zHg (n:=0) Tryz.func117 ?_;unfold Tryz.f117;by_cases h1:a<0
 · exact⟨_,_,(by simp +decide [Zr,hs,es,h1];exact⟨rfl,rfl⟩),Weak.mk' [0] (by decide) rfl (by simp[h1]) (by simp[AWb])⟩
 by_cases h2:n<0
 · exact⟨_,_,(by simp +decide [Zr,hs,es,h1,h2];exact⟨rfl,rfl⟩),Weak.mk' [0] (by decide) rfl (by simp[h1,h2]) (by simp[AWb])⟩
 by_cases h3:(s.length:Int)<a
 · exact⟨_,_,(by simp +decide [Zr,hs,es,h1,h2,h3];exact⟨rfl,rfl⟩),Weak.mk' [0] (by decide) rfl (by simp[h1,h2,h3]) (by simp[AWb])⟩
 rw[if_neg (by omega)]
 have a0:0<=a:=by omega
 have a1:a<=(s.length:Int):=by omega
 obtain⟨k,ek⟩:∃k,a.toNat=k:=⟨_,rfl⟩
 have hk:k<=s.length:=by omega
 obtain⟨z,ez⟩:∃z:Nat,min n ((s.length-k:Nat):Int)=z:=⟨(min n ((s.length-k:Nat):Int)).toNat,by omega⟩
 have z1:z<=s.length-k:=by omega
 have z2:(z:Int)<=((s.length-k:Nat):Int):=by omega
 have z3:(s.drop k).take z=(s.drop k).take n.toNat:=by
   by_cases hz:n.toNat<=s.length-k
   · rw[show z=n.toNat by omega]
   · rw[q6Z (by simp;omega),q6Z (by simp;omega)]
 refine ⟨_,_,(by simp +decide [-ZK,zn,Zr,hs,es,h1,h2,h3,a0,a1,ek,ez,z2];exact⟨rfl,rfl⟩),Weak.mk' [0] (by decide) rfl (by simp[ek,List.take_take,sfZ z1,z3]) (by simp[AWb])⟩
theorem zUX(f:PF)(n:Int)(hs:f.small) :
   Ct Pz 104 [.ptr 0 0,.int .i64 n] [.obj true f.rblks] (.int .i64 (f.cut n).2) [.obj true (f.cut n).1.rblks]:=by
 have hΓ:=zHg;have hn:=PF.small_now hs;have hk:=hs.acts;refine zG Tryz.func104 rfl ?_;simp only[Tryz.ntmps104,q7Z,q8Z,Nat.reduceAdd,Nat.reduceSub,qbZ,q9Z,qaZ];obtain⟨s,es⟩:∃s,f.now=s:=⟨_,rfl⟩;unfold PF.cut;rw[es];rw[es]at hn
 refine Sim.step hmix hΓ (n:=0) (by simp;exact⟨rfl,rfl⟩) (by simp) ?_
 by_cases h1:n<0
 · rw[if_pos (.inl h1)]
   refine Sim.exec hmix hΓ (n:=0) (by simp +decide [h1];exact⟨rfl,rfl,rfl⟩) (by simp) ?_
   exact⟨.inr rfl,_,by simp[Tryz.f104] <;> rfl,Weak.mk' [0] (by decide) rfl (by simp) (by simp[AWb])⟩
 by_cases h2:(s.length:Int)<n
 · rw[if_pos (.inr h2)]
   refine Sim.exec hmix hΓ (n:=0) (by simp +decide [Zr,hs,es,h1,h2];exact⟨rfl,rfl,rfl⟩) (by simp) ?_
   exact⟨.inr rfl,_,by simp[Tryz.f104] <;> rfl,Weak.mk' [0] (by decide) rfl (by simp) (by simp[AWb])⟩
 rw[if_neg (by omega)]
 by_cases h3:n<s.length;rotate_left
 · rw[if_neg h3]
   refine Sim.exec hmix hΓ (n:=0) (by simp +decide [Zr,hs,es,h1,h2,h3];exact⟨rfl,rfl,rfl⟩) (by simp) ?_
   exact⟨.inr rfl,_,by simp[Tryz.f104] <;> rfl,Weak.mk' [0] (by decide) rfl (by simp) (by simp[AWb])⟩
 rw[if_pos h3]
 refine Sim.aft (Aft.open (b:=0) rfl (by simp) (Aft.done (by simp[zX]) ?_))
 rw[zEE]
 have b1:f.acts.length*32<=140737488355328:=by omega
 have b2:f.acts.length<=9223372036854775807:=by omega
 have b3:(f.acts.length+1)*32<=140737488355328:=by omega
 have b4:f.acts.length+1<=9223372036854775807:=by omega
 have n0:(n.toNat:Int)=n:=by omega
 by_cases hz:f.acts=[]
 · have ef:(⟨f.d,[]⟩:PF)=f:=by rw[<-hz]
   have hs2:PF.small ⟨f.d,[]⟩:=by rw[ef];exact hs
   have es2:PF.now ⟨f.d,[]⟩=s:=by rw[ef];exact es
   refine Sim.after (Sim.exec hmix hΓ (n:=0) (by simp +decide [Zr,rowActs,Zq,hs2,es2,h1,h2,h3,hz];exact⟨rfl,rfl,rfl⟩) (by simp) ?_)
   refine Aft.closeR (⟨f.d,f.acts++[.cut n.toNat]⟩:PF) 0 4 (x:=.slice 4 0 1 3 false) rfl (by simp[AW,hz]) (by simp[hz,Zq,FAct.cells,n0]) (by decide) (by simp) (Aft.done (by simp) ⟨by first | exact .inl rfl | exact .inr rfl,_,by simp[Tryz.f104] <;> rfl,Weak.mk' [0] (by decide) rfl (by simp) (zJ (b:=0) (by simp) _ _ rfl fun i c x h1 h2=>?_)⟩)
   match i,h1,h2 with
   | 0,h1,h2=>cases h1;cases h2;exact .inl ⟨rfl,rfl⟩
 · refine Sim.after (Sim.exec hmix hΓ (n:=0) (by simp +decide [Zr,hs,es,h1,h2,h3,hz,b1,b2,b3,b4];exact⟨rfl,rfl,rfl⟩) (by simp) ?_)
   refine Aft.closeR (⟨f.d,f.acts++[.cut n.toNat]⟩:PF) 0 5 (x:=.slice 5 0 (f.acts.length+1) 3 false) rfl (by simp[AW]) (by simp[zEK,Zq,FAct.cells,n0]) (by decide) (by simp) (Aft.done (by simp) ⟨by first | exact .inl rfl | exact .inr rfl,_,by simp[Tryz.f104] <;> rfl,Weak.mk' [0] (by decide) rfl (by simp) (zJ (b:=0) (by simp) _ _ rfl fun i c x h1 h2=>?_)⟩)
   match i,h1,h2 with
   | 0,h1,h2=>cases h1;cases h2;exact .inl ⟨rfl,rfl⟩
theorem zSD(a:List (List UInt8))(i:Nat)(h:i<a.length):(a.take (i+1)).flatten=(a.take i).flatten++a[i]:=by
 rw[List.take_add_one,q3Z h,sgZ];simp only[Option.toList,rcZ,List.flatten_nil,r2Z]
theorem zO2(f:PF)(a:List (List UInt8))(c:Bool)(hs:f.small)(hm:a.flatten.length<=1000000000000/\a.length<=1000000000000) :
   Ct Pz 123 [.ptr 0 0,.sl 1 0 a.length 1 c] [.obj true f.rblks,.cells false (a.map .str)] (.tuple []) [.obj true (f.add a.flatten).rblks,.cells false (a.map .str)]:=by
 have hΓ:=zHg;have hk:=hs.acts;refine zG Tryz.func123 rfl ?_;simp only[Tryz.ntmps123,q7Z,q8Z,Nat.reduceAdd,Nat.reduceSub,qbZ,q9Z,qaZ];obtain⟨HH,eH⟩:∃HH,[ABlk.obj true f.rblks,.cells false (a.map .str)]=HH:=⟨_,rfl⟩
 refine Sim.step hmix hΓ (n:=0) (by simp;exact⟨rfl,rfl⟩) (by simp) ?_
 refine Sim.seq (Sim.step hmix hΓ (n:=0) (by simp;exact⟨rfl,rfl⟩) (by simp) ?_)
 refine Sim.block (Sim.loopS (fun i:Nat=>i<=a.length)
   (fun i=>[.ptr 0 0,.sl 1 0 a.length 1 c,.top,.top,.str (a.take i).flatten,.int .i64 i]++qbZ 27 .top)
   (fun _=>HH) (fun i=>a.length-i) 0 (by simp) (by simp) ⟨by simp,eH⟩ fun i hi=>?_)
 rw[<-eH];by_cases hlt:i<a.length
 · have e1:=zSD a i hlt
   have l1:(a.take (i+1)).flatten.length<=a.flatten.length:=by
     have:=congrArg (fun z=>(List.flatten z).length) (r6Z (i+1) a)
     simp only[sgZ,qdZ]at this;omega
   have y1:IntKind.i64.wrap ((i:Int)+1)=i+1:=zV (by omega) (by omega)
   obtain⟨u,hu⟩:∃u,(a.take i).flatten=u:=⟨_,rfl⟩;obtain⟨x,hx⟩:∃x,a[i]=x:=⟨_,rfl⟩;rw[e1,hu,hx,qdZ]at l1;rw[hu,hx]at e1;rw[hu]
   have c1:u.length+x.length<=9223372036854775807:=by omega
   refine Sim.exec hmix hΓ (n:=0) (by simp +decide [hlt,hx,y1,c1];exact⟨rfl,rfl,rfl⟩) (by simp) ?_
   exact⟨i+1,by omega,⟨by simp[e1],by first | exact eH | rfl⟩,by omega⟩
 have:i=a.length:=by omega
 subst this
 refine Sim.exec hmix hΓ (n:=0) (by simp;exact⟨rfl,rfl,rfl⟩) (by simp) ?_
 dsimp only;rw[if_pos rfl];obtain⟨m,em⟩:∃m,a.flatten=m:=⟨_,rfl⟩;rw[em]at hm ⊢;by_cases hm0:m=[]
 · subst hm0
   refine Sim.exec hmix hΓ (n:=0) (by simp;exact⟨rfl,rfl,rfl⟩) (by simp) ?_
   exact⟨by first | exact .inl rfl | exact .inr rfl,_,by simp[Tryz.f123] <;> rfl,Weak.mk' [0,1] (by decide) rfl (by simp) (by simp[AWb,PF.add])⟩
 have hadd:f.add m=⟨f.d,f.acts++[.add m]⟩:=by unfold PF.add;rw[if_neg hm0]
 rw[hadd]
 refine Sim.aft (Aft.open (b:=0) rfl (by simp) (Aft.done (by simp[zX]) ?_))
 rw[zEE]
 have b1:f.acts.length*32<=140737488355328:=by omega
 have b2:f.acts.length<=9223372036854775807:=by omega
 have b3:(f.acts.length+1)*32<=140737488355328:=by omega
 have b4:f.acts.length+1<=9223372036854775807:=by omega
 by_cases hz:f.acts=[]
 · refine Sim.after (Sim.exec hmix hΓ (n:=0) (by simp +decide [Zq,hm0,hz];exact⟨rfl,rfl,rfl⟩) (by simp) ?_)
   refine Aft.closeR (⟨f.d,f.acts++[.add m]⟩:PF) 0 5 (x:=.slice 5 0 1 3 false) rfl (by simp[AW,hz]) (by simp[hz,Zq,FAct.cells]) (by decide) (by simp) (Aft.done (by simp) ⟨by first | exact .inl rfl | exact .inr rfl,_,by simp[Tryz.f123] <;> rfl,Weak.mk' [0,1] (by decide) rfl (by simp) (zJ (b:=0) (by simp) _ _ rfl fun i c x h1 h2=>?_)⟩)
   match i,h1,h2 with
   | 0,h1,h2=>cases h1;cases h2;exact .inl ⟨rfl,rfl⟩
   | 1,h1,h2=>cases h1;cases h2;exact .inr ⟨⟨by decide,by decide⟩,by simp[AWb]⟩
 · refine Sim.after (Sim.exec hmix hΓ (n:=0) (by simp +decide [hm0,hz,b1,b2,b3,b4];exact⟨rfl,rfl,rfl⟩) (by simp) ?_)
   refine Aft.closeR (⟨f.d,f.acts++[.add m]⟩:PF) 0 6 (x:=.slice 6 0 (f.acts.length+1) 3 false) rfl (by simp[AW]) (by simp[zEK,Zq,FAct.cells]) (by decide) (by simp) (Aft.done (by simp) ⟨by first | exact .inl rfl | exact .inr rfl,_,by simp[Tryz.f123] <;> rfl,Weak.mk' [0,1] (by decide) rfl (by simp) (zJ (b:=0) (by simp) _ _ rfl fun i c x h1 h2=>?_)⟩)
   match i,h1,h2 with
   | 0,h1,h2=>cases h1;cases h2;exact .inl ⟨rfl,rfl⟩
   | 1,h1,h2=>cases h1;cases h2;exact .inr ⟨⟨by decide,by decide⟩,by simp[AWb]⟩
end
section
open Go
noncomputable section
open Classical
def zSh:zU:=Zk zD5 PF.rblks fun f xs _=>match xs with
 | [.int .i64 n]=>if f.small then some ((f.cut n).1,.int .i64 (f.cut n).2) else none
 | _=>none
theorem zPV:Sound Pz 104 zSh:=by
 refine zM (zE Tryz.func104 rfl (by decide)) (fun _ _=>zC0) fun f xs H s' v b hg hb=>?_
 split at hg;rotate_left
 · cases hg
 split at hg <;> cases hg
 rename_i hs;exact zY (zUX f _ hs) rfl rfl hb
def zO1:zU:=Zk zD5 PF.rblks fun f xs _=>match xs with
 | []=>if f.small then some (⟨f.now,[]⟩,.tuple []) else none
 | _=>none
theorem zL4:Sound Pz 107 zO1:=by
 refine zM (zE Tryz.func107 rfl (by decide)) (fun _ _=>zC0) fun f xs H s' v b hg hb=>?_
 split at hg;rotate_left
 · cases hg
 split at hg <;> cases hg
 rename_i hs;exact zY (zSg f hs) rfl rfl hb
def zOJ:zU:=Zk zD5 PF.rblks fun f xs _=>match xs with
 | [.int .i64 a,.int .i64 n]=>if f.small then some (f,.tuple [.str (f.readAt a n).1,.int .i64 (f.readAt a n).2]) else none
 | _=>none
theorem zOC:Sound Pz 117 zOJ:=by
 refine zM (zE Tryz.func117 rfl (by decide)) (fun _ _=>zC0) fun f xs H s' v b hg hb=>?_
 split at hg;rotate_left
 · cases hg
 split at hg <;> cases hg
 rename_i hs;exact zY (zUC f _ _ hs) rfl rfl hb
def zSr:zU:=Zk zD5 PF.rblks fun f xs H=>match xs with
 | [.slice b2 0 n 1 _c]=>match H.getD b2 .dead with
   | .cells _ l=>match ZF l with
     | some a=>if n=a.length/\f.small/\a.flatten.length<=1000000000000/\a.length<=1000000000000 then some (f.add a.flatten,.tuple []) else none
     | none=>none
   | _=>none
 | _=>none
theorem zOS:Sound Pz 123 zSr:=by
 refine zM (zE Tryz.func123 rfl (by decide)) (fun _ _=>zC0) fun f xs H s' v b hg hb=>?_
 split at hg;rotate_left
 · cases hg
 rename_i b2 n c;split at hg;rotate_left
 · cases hg
 rename_i o l hb2;split at hg;rotate_left
 · cases hg
 rename_i a ha
 split at hg <;> cases hg
 rename_i hs;obtain⟨rfl,hs,hm⟩:=hs
 have hb3:=getD_some hb2 (by simp)
 rw[zBP ha]at hb3
 refine zHz (x:=.sl 1 0 a.length 1 c) (zO2 f a c hs hm) rfl rfl (by simp[zk,Zx]) hb hb3 ?_
 exact⟨rfl,rfl,rfl,rfl,fun h=>h⟩
end
end
section
open Go
attribute [-simp] zN zr ZI zT ZL
theorem zQ1:∀(l:List FAct) (k j:Nat) (h:k<l.length),j<3->(Zq l)[k*3+j]? = (l[k].cells)[j]?
 | a::l,0,j,_,hj=>by
   simp only[Zq,List.getElem_cons_zero]
   rw[q4Z (by simp;omega)]
   simp
 | a::l,k+1,j,h,hj=>by
   have:=zQ1 l k j (by simpa using h) hj
   simp only[Zq,List.getElem_cons_succ]
   rw[<-this,show (k+1)*3+j=a.cells.length+(k*3+j) by simp;omega,q5Z (by omega)]
   simp
theorem zRW(f:PF)(d p:Int)(hs:f.small) :
   Ct Pz 137 [.ptr 0 0,.agg [.int .i64 d,.int .i64 p]] [.cells false [.str f.d,.sl 1 0 f.acts.length 3 false],.cells false (Zq f.acts)] (.str (f.stays d p)) [.cells false [.str f.d,.sl 1 0 f.acts.length 3 false],.cells false (Zq f.acts)]:=by
 have hΓ:=zNC;obtain⟨hfit,hk,hlen⟩:=hs;refine zG Tryz.func137 rfl ?_;simp only[Tryz.ntmps137,q7Z,q8Z,Nat.reduceAdd,Nat.reduceSub,qbZ,q9Z,qaZ];obtain⟨HH,eH⟩:∃HH,[ABlk.cells false [.str f.d,.sl 1 0 f.acts.length 3 false],.cells false (Zq f.acts),.cells true [.int .i64 d,.int .i64 p]]=HH:=⟨_,rfl⟩;obtain⟨k,ek⟩:∃k,f.acts.length=k:=⟨_,rfl⟩;obtain⟨n,en⟩:∃n,(inI d 0 k).toNat=n:=⟨_,rfl⟩
 have en2:max 0 (min d (k:Int))=n:=by unfold inI at en;omega
 have hnk:n<=k:=by unfold inI at en;omega
 obtain⟨T,hT⟩:∃T,f.stays d p=T:=⟨_,rfl⟩
 have hT2:T=zBK f.d (f.acts.take n)++(match f.acts[n]? with
   | some (.add m)=>m.take (inI p 0 m.length).toNat
   | _=>[]):=by
   rw[<-hT];unfold PF.stays;simp only[ek,en]
   all_goals (obtain⟨q,hq⟩:∃q,f.acts[n]? = q:=⟨_,rfl⟩)
   all_goals rw[hq]
   all_goals (rcases q with _ | (_ | _) <;> rfl)
 have hlA:(Zq f.acts).length=k*3:=by simp[ek]
 have gA:=fun i h=>zIO f.acts i h
 have gB:=fun i j h hj=>zQ1 f.acts i j h hj
 rw[hT];obtain⟨R,eR⟩:∃R,Zq f.acts=R:=⟨_,rfl⟩;rw[eR]at hlA gA gB eH ⊢;rw[ek]at eH hk ⊢
 have hRR:AWs [0,1] R R:=by rw[<-eR];simp
 refine Sim.step hmix hΓ (n:=0) (by simp;exact⟨rfl,rfl⟩) (by simp) ?_
 refine Sim.step hmix hΓ (n:=0) (by simp;exact⟨rfl,rfl⟩) (by simp) ?_
 refine Sim.step hmix hΓ (n:=0) (by simp +decide [-ZK,zn,zAk,en2];first | exact⟨rfl,rfl⟩ | exact⟨by kernel_rfl,rfl,rfl⟩) (by simp) ?_
 refine Sim.seq (Sim.step hmix hΓ (n:=0) (by simp;exact⟨rfl,rfl⟩) (by simp) ?_)
 refine Sim.block (Sim.loopS (fun i:Nat=>i<=n)
   (fun i=>[.ptr 0 0,.top,.top,.ptr 2 0,.top,.str (zBK f.d (f.acts.take i)),.int .i64 n,.int .i64 i]++qbZ 65 .top)
   (fun _=>HH) (fun i=>n-i) 0 (by simp) (by simp) ⟨by simp[zBK],eH⟩ fun i hi=>?_)
 rw[<-eH];by_cases hlt:i<n
 · have hik:i<f.acts.length:=by omega
   have hikk:i<k:=by omega
   obtain⟨a,ha⟩:∃a,f.acts[i]=a:=⟨_,rfl⟩;have g1:=gA i hik
   have k1:i*3+3<=k*3:=by omega
   have e1:=zCC f.d f.acts i hik;have l1:=hlen (i+1);have l2:=hlen i;rw[e1]at l1;rw[ha]at g1 e1 l1
   have y1:IntKind.i64.wrap ((i:Int)+1)=i+1:=zV (by omega) (by omega)
   have hfc:=fun n h=>zHy hfit (i:=i) (n:=n) h
   rw[q3Z hik,ha]at hfc;obtain⟨u,hu⟩:∃u,zBK f.d (f.acts.take i)=u:=⟨_,rfl⟩;rw[hu]at e1 l1 l2 hfc ⊢
   cases a with
   | add m =>
     simp only[FAct.run,qdZ]at l1;simp only[FAct.cells]at g1
     refine Sim.exec hmix hΓ (n:=0) (by simp +decide [zGs,hlt,hikk,hlA,g1,k1,y1,l1];exact⟨rfl,rfl,rfl⟩) (by simp) ?_
     exact⟨i+1,by omega,⟨by simp[e1,FAct.run],by first | exact eH | rfl⟩,by omega⟩
   | cut z =>
     simp only[FAct.cells]at g1;have hz:=hfc z rfl
     refine Sim.exec hmix hΓ (n:=0) (by simp +decide [zGs,hlt,hikk,hlA,g1,k1,y1,hz,l2];exact⟨rfl,rfl,rfl⟩) (by simp) ?_
     exact⟨i+1,by omega,⟨by simp[e1,FAct.run],by first | exact eH | rfl⟩,by omega⟩
 have:i=n:=by omega
 subst this
 refine Sim.exec hmix hΓ (n:=0) (by simp;exact⟨rfl,rfl,rfl⟩) (by simp) ?_
 dsimp only;rw[if_pos rfl];obtain⟨u,hu⟩:∃u,zBK f.d (f.acts.take i)=u:=⟨_,rfl⟩;have l2:=hlen i;rw[hu]at hT2 l2 ⊢;by_cases hlast:i<k
 · have hik:i<f.acts.length:=by omega
   obtain⟨a,ha⟩:∃a,f.acts[i]=a:=⟨_,rfl⟩
   have hlast2:(i:Int)<(k:Int):=by omega
   have e1:=zCC f.d f.acts i hik;rw[ha,hu]at e1;have l1:=hlen (i+1);rw[e1]at l1
   have b0:=gB i 0 hik (by decide)
   have b2:=gB i 2 hik (by decide)
   rw[ha]at b0 b2;rw[q3Z hik,ha]at hT2
   have c0:i*3<k*3:=by omega
   have c2:i*3+2<k*3:=by omega
   simp only[Nat.add_zero]at b0
   cases a with
   | add m =>
     simp only[FAct.run,qdZ]at l1;simp only[FAct.cells,raZ,r9Z]at b0 b2
     have b0':∀h,R[i*3]'h=.bool false:=fun h=>by rw[q3Z h]at b0;exact Option.some.inj b0
     have b2':∀h,R[i*3+2]'h=.str m:=fun h=>by rw[q3Z h]at b2;exact Option.some.inj b2
     simp only at hT2;obtain⟨z,hz⟩:∃z,(inI p 0 m.length).toNat=z:=⟨_,rfl⟩;rw[hz]at hT2
     have hz2:max 0 (min p (m.length:Int))=z:=by unfold inI at hz;omega
     have hz3:z<=m.length:=by unfold inI at hz;omega
     have c5:u.length+z<=9223372036854775807:=by omega
     refine Sim.exec hmix hΓ (n:=0) (by simp +decide [-ZK,zn,zAk,hlast,hlA,b0',b2',c0,c2,hz2,hz3,c5];first | exact⟨rfl,rfl,rfl⟩ | exact⟨by kernel_rfl,rfl,rfl,rfl⟩) (by simp) ?_
     exact⟨.inr rfl,_,by simp[Tryz.f137] <;> rfl,Weak.mk' [0,1] (by decide) rfl (by simp[hT2]) (by simp[AWb,hRR])⟩
   | cut z =>
     simp only[FAct.cells,raZ,r9Z]at b0 b2
     have b0':∀h,R[i*3]'h=.bool true:=fun h=>by rw[q3Z h]at b0;exact Option.some.inj b0
     simp only[r2Z]at hT2
     refine Sim.exec hmix hΓ (n:=0) (by simp +decide [hlast,hlA,b0',c0];first | exact⟨rfl,rfl,rfl⟩ | exact⟨by kernel_rfl,rfl,rfl,rfl⟩) (by simp) ?_
     exact⟨.inr rfl,_,by simp[Tryz.f137] <;> rfl,Weak.mk' [0,1] (by decide) rfl (by simp[hT2]) (by simp[AWb,hRR])⟩
 · have ha:f.acts[i]? = none:=s4Z (by omega)
   rw[ha]at hT2;simp only[r2Z]at hT2
   refine Sim.exec hmix hΓ (n:=0) (by simp[hlast];exact⟨rfl,rfl,rfl⟩) (by simp) ?_
   exact⟨.inr rfl,_,by simp[Tryz.f137] <;> rfl,Weak.mk' [0,1] (by decide) rfl (by simp[hT2]) (by simp[AWb,hRR])⟩
end
section
open Go
attribute [-simp] zN zr ZI zT ZL
theorem zRb(f:PF)(d p:Int)(hok:f.small){H:zA}{b r:Nat}{o o2:Bool}(hb:H[b]? = some (.cells o [.str f.d,.sl r 0 f.acts.length 3 false]))(hr:H[r]? = some (.cells o2 (Zq f.acts)))(hne:b≠r) :
   Ct Pz 137 [.ptr b 0,.agg [.int .i64 d,.int .i64 p]] H (.str (f.stays d p)) H:=by
 have hbl:b<H.length:=(q1Z.1 hb).1;have hrl:r<H.length:=(q1Z.1 hr).1
 have:=zc (H:=H) (args:=[.ptr b 0,.agg [.int .i64 d,.int .i64 p]]) (zRW f d p hok) [b,r] (by simp[hne]) ⟨⟨rfl,rfl⟩,zGj [.agg [.int .i64 d,.int .i64 p]] rfl⟩ ⟨by rw[q2Z,hb];exact⟨by simp,rfl,⟨rfl,rfl,rfl,rfl,fun h=>h⟩,trivial⟩,hbl,by rw[q2Z,hr];exact⟨by simp,zIk _⟩,hrl,trivial⟩ rfl
 simpa[zb,ABlk.own,reB,reA] using this
noncomputable section
open Classical
def zF3:zU:=fun args H=>match args with
 | [.ptr b 0,.agg [.int .i64 x,.int .i64 p]]=>match H.getD b .dead with
   | .cells _ [.str d,.sl r 0 n 3 false]=>match H.getD r .dead with
     | .cells _ l=>match rowActs l with
       | some a=>if n=a.length/\b≠r/\PF.small ⟨d,a⟩ then some (.str (PF.stays ⟨d,a⟩ x p),H,[]) else none
       | none=>none
     | _=>none
   | _=>none
 | _=>none
end
theorem zLD:Sound Pz 137 zF3:=by
 refine ⟨zE Tryz.func137 rfl (by decide),fun args H v H' W h=>?_,fun args H v H' W h=>?_⟩
 · unfold zF3 at h
   split at h <;> try cases h
   rename_i b x p
   split at h <;> try cases h
   rename_i d r n hb
   split at h <;> try cases h
   rename_i l hr
   split at h <;> try cases h
   rename_i a ha
   split at h <;> cases h
   rename_i hc;obtain⟨rfl,hne,hs⟩:=hc;rw[zFm ha]at hr
   exact zRb ⟨d,a⟩ x p hs (getD_some hb (by simp)) (getD_some hr (by simp)) hne
 · unfold zF3 at h
   split at h <;> try cases h
   split at h <;> try cases h
   split at h <;> try cases h
   split at h <;> try cases h
   split at h <;> cases h
   exact⟨qnZ _,fun _ _ _=>rfl⟩
theorem zUs:GOk Pz (zA2 Pz (zo [(137,zF3)]) 0 [] 4):=ZT hmix (zB zLD zC) 0 [] 4
theorem zTR(f:PF)(d p:Int)(hs:f.small):Ct Pz 122 [.ptr 0 0,.agg [.int .i64 d,.int .i64 p]] [.obj true f.rblks] (.tuple []) [.obj true (⟨f.stays d p,[]⟩:PF).rblks]:=by
 refine zG Tryz.func122 rfl ?_;simp only[Tryz.ntmps122,q7Z,q8Z,Nat.reduceAdd,Nat.reduceSub,qbZ,q9Z,qaZ]
 refine Sim.aft (Aft.open (b:=0) rfl (by simp) (Aft.done (by simp[zX]) ?_))
 rw[zEE]
 refine Sim.after (Sim.exec hmix zUs (n:=0) (by simp[zF3,hs];exact⟨rfl,rfl,rfl⟩) (by simp) ?_)
 refine Aft.closeR ⟨f.stays d p,[]⟩ 0 3 (x:=.nils) rfl (by simp[AW]) (by simp) (by decide) (by simp) (Aft.done (by simp) ⟨by first | exact .inl rfl | exact .inr rfl,_,by simp[Tryz.f122] <;> rfl,Weak.mk' [0] (by decide) rfl (by simp) (zJ (b:=0) (by simp) _ _ rfl fun i c x h1 h2=>?_)⟩)
 match i,h1,h2 with
 | 0,h1,h2=>cases h1;cases h2;exact .inl ⟨rfl,rfl⟩
noncomputable def zON:zU:=Zk zD5 PF.rblks fun f xs _=>match xs with
 | [.agg [.int .i64 d,.int .i64 p]]=>open Classical in if f.small then some (⟨f.stays d p,[]⟩,.tuple []) else none
 | _=>none
theorem zNn:Sound Pz 122 zON:=by
 refine zM (zE Tryz.func122 rfl (by decide)) (fun _ _=>zC0) fun f xs H s' v b hg hb=>?_
 split at hg;rotate_left
 · cases hg
 split at hg <;> cases hg
 rename_i hs;exact zY (zTR f _ _ hs) rfl rfl hb
end
end Go.Proofs.YtfhidaoiofeooaaGreat
