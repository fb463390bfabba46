/- Parts of the proof of WalTells: lemmas, each with its own conditions. -/
import Derived.Test.YtfhidaoiofeooaaGreatDoorY7
set_option maxHeartbeats 64000000
open List renaming getElem?_eq_some_iff → q1Z, getD_eq_getElem?_getD → q2Z, getElem?_eq_getElem → q3Z, getElem?_append_left → q4Z, getElem?_append_right → q5Z, take_of_length_le → q6Z, length_cons → q7Z, length_nil → q8Z, cons_append → q9Z, nil_append → qaZ, replicate → qbZ, length_append → qdZ, getElem?_set_ne → qfZ, length_take → qjZ, mem_cons → qwZ, getElem?_map → qzZ, append_nil → r2Z, take_append_drop → r6Z, getElem?_cons_succ → r9Z, getElem?_cons_zero → raZ, flatten_cons → rcZ, not_mem_nil → rtZ, getElem?_eq_none → s4Z, flatten_append → sgZ
open Nat renaming le_refl → qnZ, lt_or_ge → s2Z, min_eq_left → sfZ
open Bool renaming and_eq_true → qrZ
open Int renaming toNat_of_nonneg → rqZ
namespace Go.Proofs.YtfhidaoiofeooaaGreatDoor
open _root_.Go.Proofs.Tryz renaming prog → Pz
set_option maxRecDepth 100000
section
open Go
theorem zLr{rn:List Nat}:∀(x:AV),zAT x=true->AW rn x x
 | .bool _,_ | .int _ _,_ | .str _,_ | .nilp,_ | .nils,_ | .nilm,_ | .nilf,_=>by simp[AW]
def zt(l:List AV):Bool:=l.all zAT
theorem Z9{rn:List Nat}:∀(l:List AV),zt l=true->AWs rn l l
 | [],_=>trivial
 | x::l,h=>by
   simp only[zt,List.all_cons,qrZ]at h;exact⟨zLr x h.1,Z9 l h.2⟩
theorem zOS(g:Nat->Nat){x:AV}(h:zAT x=true):reA g x=x:=by cases x <;> simp_all [zAT,reA]
def zBl:AV->Bool
 | .tuple l=>zt l
 | .agg l=>zt l
 | x=>zAT x
theorem zBO(g:Nat->Nat):∀(l:List AV),zt l=true->zj g l=l
 | [],_=>rfl
 | x::l,h=>by
   simp only[zt,List.all_cons,qrZ]at h;simp only[zj,zOS g h.1,zBO g l h.2]
theorem zEZ(g:Nat->Nat){x:AV}(h:zBl x=true):reA g x=x:=by
 cases x <;> first | exact zOS g h | (simp only[reA];rw[zBO g _ h])
def zP7(l:List AV):Bool:=l.all zBl
theorem zBc{rn:List Nat}(x:AV)(h:zBl x=true):AW rn x x:=by
 cases x <;> first | exact zLr _ h | exact Z9 _ h
theorem zG9{rn:List Nat}:∀(l:List AV),zP7 l=true->AWs rn l l
 | [],_=>trivial
 | x::l,h=>by
   simp only[zP7,List.all_cons,qrZ]at h;exact⟨zBc x h.1,zG9 l h.2⟩
theorem ze{P:Program}{f:FuncId}{xs:List AV}{s s':zA}{v:AV}(h:Ct P f (.ptr 0 0::xs) [.obj true s] v [.obj true s'])(hx:zP7 xs=true)(hv:zBl v=true){H:zA}{b:Nat}(hb:H[b]? = some (.obj true s)) :
   Ct P f (.ptr b 0::xs) H v (H.set b (.obj true s')):=by
 have hbl:b<H.length:=(q1Z.1 hb).1;have:=zP (H:=H) (args:=.ptr b 0::xs) h [b] (by simp) ⟨⟨rfl,rfl⟩,zG9 xs hx⟩ ⟨by rw[q2Z,hb];exact⟨rfl,rfl⟩,hbl,trivial⟩ rfl;rw[zEZ _ hv]at this;simpa[zN,ABlk.own,reB] using this
theorem zH5{P:Program}{f:FuncId}{x:AV}{y:AV}{xs:List AV}{s s':zA}{l:List AV}{v:AV}(h:Ct P f (.ptr 0 0::x::xs) [.obj true s,.cells false l] v [.obj true s',.cells false l])(hx:zt xs=true)(hv:zBl v=true)(hl:zt l=true){H:zA}{b b2:Nat}{o:Bool}(hb:H[b]? = some (.obj true s))(hb2:H[b2]? = some (.cells o l))(hy:AW [b,b2] x y) :
   Ct P f (.ptr b 0::y::xs) H v (H.set b (.obj true s')):=by
 have hbl:b<H.length:=(q1Z.1 hb).1;have hbl2:b2<H.length:=(q1Z.1 hb2).1;have hne:b≠b2:=by rintro rfl;rw[hb]at hb2;cases hb2
 have:=zP (H:=H) (args:=.ptr b 0::y::xs) h [b,b2] (by simp[hne]) ⟨⟨rfl,rfl⟩,hy,Z9 xs hx⟩ ⟨by rw[q2Z,hb];exact⟨rfl,rfl⟩,hbl,by rw[q2Z,hb2];exact⟨by simp,Z9 l hl⟩,hbl2,trivial⟩ rfl;rw[zEZ _ hv]at this;simpa[zN,ABlk.own,reB] using this
def zAM{σ:Type}(dec:zA->Option σ)(enc:σ->zA)(g:σ->List AV->zA->Option (σ×AV)):zJ:=fun args H=>match args with
 | .ptr b 0::xs=>match H[b]? with
   | some (.obj true sub)=>match dec sub with
     | some s=>match g s xs H with
       | some (s',v)=>some (v,H.set b (.obj true (enc s')),[b])
       | none=>none
     | none=>none
   | _=>none
 | _=>none
theorem zS{P:Program}{f:FuncId}{σ:Type}{dec:zA->Option σ}{enc:σ->zA}{g:σ->List AV->zA->Option (σ×AV)}(he:∀cargs w,(callFunc f cargs).run P w=.ok (.enter f cargs) w)(hd:∀sub s,dec sub=some s->sub=enc s)
   (h:∀s xs H s' v b,g s xs H=some (s',v)->H[b]? = some (.obj true (enc s))->Ct P f (.ptr b 0::xs) H v (H.set b (.obj true (enc s')))):Sound P f (zAM dec enc g):=by
 have key:∀args H v H' W,zAM dec enc g args H=some (v,H',W)->∃b xs s s',args=.ptr b 0::xs/\H[b]? = some (.obj true (enc s))/\g s xs H=some (s',v)/\H'=H.set b (.obj true (enc s'))/\W=[b]:=by
   intro args H v H' W hs;unfold zAM at hs;split at hs;rotate_left
   · cases hs
   rename_i b xs;split at hs;rotate_left
   · cases hs
   rename_i sub hb;split at hs;rotate_left
   · cases hs
   rename_i s hds;split at hs;rotate_left
   · cases hs
   rename_i s' v' hg;cases hs;have:=hd sub s hds;subst this;exact⟨b,xs,s,s',rfl,hb,hg,rfl,rfl⟩
 refine ⟨he,fun args H v H' W hs=>?_,fun args H v H' W hs=>?_⟩
 · obtain⟨b,xs,s,s',rfl,h1,h2,rfl,rfl⟩:=key args H v H' W hs
   exact h s xs H s' v b h2 h1
 · obtain⟨b,xs,s,s',rfl,h1,h2,rfl,rfl⟩:=key args H v H' W hs
   refine ⟨by simp,fun c hc hn=>?_⟩;rw[qfZ (fun e=>hn (by simp[e]))]
attribute [simp] zAM
end
section
open Go
attribute [-simp] zH zc zq zK zy
theorem Aft.closeD{n0:Nat}{F:List AV}{H:zA}{K:List AV->zA->Prop}(s:List UInt8)(b:Nat)(hb:H[b]? = some (.cells true [.str s,.nils,.str s]))(hn:n0<=H.length)
   (h:Aft n0 F (ZH H b [H.length] true (⟨s,[]⟩:PF).blks) K):Aft n0 F H K:=by
 have hbl:b<H.length:=(q1Z.1 hb).1;exact Aft.closeF (⟨s,[]⟩:PF) b H.length [] (x:=.nils) (o:=true) hb rfl (fun h=>absurd h (by omega)) rfl (by simp) (by simp;omega) hn h
theorem zU2(f:PF):Ct Pz 249 [.ptr 0 0] [.obj true f.blks] (.int .i64 0) [.obj true (⟨f.now,[]⟩:PF).blks]:=by
 have hΓ:=zDk;refine zE Tryz.func249 rfl ?_;simp only[Tryz.ntmps249,q7Z,q8Z,Nat.reduceAdd,Nat.reduceSub,qbZ,q9Z,qaZ];refine Sim.aft (Aft.open (b:=0) rfl (by simp) (Aft.done (by simp[zY]) ?_));rw[zGz];obtain⟨R,eR⟩:∃R,zBh (List.length ([]:zA)+2) f.acts=R:=⟨_,rfl⟩
 obtain⟨X,eX⟩:∃X,f.acts.map FAct.box=X:=⟨_,rfl⟩
 rw[eR,eX];refine wS hΓ (by simp;exact wR) ?_;refine wS hΓ (by simp;exact wR) ?_;refine wS hΓ (by simp[zLE,Tryz.f175];exact wR) ?_;refine Sim.aft (Aft.closeD f.now 0 rfl (by simp) (Aft.weak (Fn:=qbZ 11 .top) (Hn:=[.obj true (⟨f.now,[]⟩:PF).blks]) (Weak.mk' [0] (by decide) (by decide) (zAX _ _ _ rfl) (zM (b:=0) (by simp) _ _ rfl fun i c x h1 h2=>?_)) (by simp) (Aft.done (by simp) ?_)))
 · match i,h1,h2 with
   | 0,h1,h2=>cases h1;cases h2;exact .inl ⟨rfl,rfl⟩
 refine wE hΓ (by simp;exact wT) ?_;exact⟨.inr rfl,_,by simp[Tryz.f249] <;> rfl,wW [0] (by simp[AWb])⟩
structure PF.ok (f:PF) (B:Nat):Prop where
 fits:fits f.d f.acts
 acts:f.acts.length<=B
 len:∀i,(zBB f.d (f.acts.take i)).length<=B
def inI(n a b:Int):Int:=max a (min n b)
def PF.stays(f:PF)(done part:Int):List UInt8 :=
 let n:=(inI done 0 f.acts.length).toNat
 zBB f.d (f.acts.take n)++(match f.acts[n]? with
   | some (.add m)=>m.take (inI part 0 m.length).toNat
   | _=>[])
theorem zBz(s:List UInt8)(l:List FAct)(i:Nat)(h:i<l.length):zBB s (l.take (i+1))=l[i].run (zBB s (l.take i)):=by
 rw[List.take_succ_eq_append_getElem h,zEH];rfl
theorem zHx{s:List UInt8}{l:List FAct}(h:fits s l){i n:Nat}(hi:l[i]? = some (.cut n)):n<=(zBB s (l.take i)).length:=by
 have hil:i<l.length:=(q1Z.1 hi).1;have e:l=l.take i++l[i]::l.drop (i+1):=by rw[<-List.drop_eq_getElem_cons hil,r6Z]
 rw[e,zHL]at h;have h2:=h.2;have:l[i]=.cut n:=by rw[q3Z hil]at hi;exact Option.some.inj hi
 rw[this]at h2;exact h2.1
def zHn:ABlk->Option AV
 | .obj false [.cells true [x]]=>some x
 | _=>none
theorem zN4{B:ABlk}{x:AV}(h:zHn B=some x):B=.obj false [.cells true [x]]:=by
 unfold zHn at h;split at h <;> cases h
 rfl
def zTS:zJ:=fun args H=>match args with
 | [.str s,.int .i64 p,.ptr b 0]=>match zHn (H.getD b .dead) with
   | some (.str m)=>if s.length+m.length<=1000000000000 then some (.str (s++m.take (inI p 0 m.length).toNat),H,[]) else none
   | _=>none
 | _=>none
def zEd:zJ:=fun args H=>match args with
 | [.str s,.int .i64 p,.ptr b 0]=>match zHn (H.getD b .dead) with
   | some (.int .i64 n)=>if 0<=n/\n<=s.length then some (.str (if p<4611686018427387904 then s else s.take n.toNat),H,[]) else none
   | _=>none
 | _=>none
theorem zR9{P:Program}{f:FuncId}{xs:List AV}{s:zA}{v:AV}(h:Ct P f (xs++[.ptr 0 0]) [.obj false s] v [.obj false s])(hx:zt xs=true)(hv:zBl v=true){H:zA}{b:Nat}(hb:H[b]? = some (.obj false s)) :
   Ct P f (xs++[.ptr b 0]) H v H:=by
 have hbl:b<H.length:=(q1Z.1 hb).1;have ha:∀ys:List AV,zt ys=true->AWs [b] (ys++[.ptr 0 0]) (ys++[.ptr b 0]):=by
   intro ys;induction ys with
   | nil=>intro _;exact⟨⟨rfl,rfl⟩,trivial⟩
   | cons y ys ih =>
     intro h;simp only[zt,List.all_cons,qrZ]at h;exact⟨zLr y h.1,ih h.2⟩
 have:=zP (H:=H) (args:=xs++[.ptr b 0]) h [b] (by simp) (ha xs hx) ⟨by rw[q2Z,hb];exact⟨rfl,rfl⟩,hbl,trivial⟩ rfl;rw[zEZ _ hv]at this;simpa[zN,ABlk.own,reB] using this
theorem zYi(s m:List UInt8)(p:Int)(hl:s.length+m.length<=1000000000000):Ct Pz 195 [.str s,.int .i64 p,.ptr 0 0] [.obj false [.cells true [.str m]]] (.str (s++m.take (inI p 0 m.length).toNat)) [.obj false [.cells true [.str m]]]:=by
 obtain⟨z,hz⟩:∃z,(inI p 0 m.length).toNat=z:=⟨_,rfl⟩
 have hz2:max 0 (min p (m.length:Int))=z:=by unfold inI at hz;omega
 have hz3:z<=m.length:=by unfold inI at hz;omega
 have hz4:(z:Int)<=(m.length:Int):=by omega
 have c1:m.length<=9223372036854775807:=by omega
 have c4:s.length+(m.take z).length<=9223372036854775807:=by simp;omega
 have c5:s.length+z<=9223372036854775807:=by omega
 rw[hz];refine zBt hmix zDk (n:=0) Tryz.func195 ?_;unfold Tryz.f195;exact⟨_,_,(by simp +decide [-zAx,Zv,zAW,zLE,Tryz.f174,hz2,hz3,hz4,c5];exact wR),Weak.mk' [0] (by decide) rfl (by simp) (by simp[AWb])⟩
theorem zTh(s:List UInt8)(n p:Int)(h0:0<=n)(h1:n<=s.length):Ct Pz 309 [.str s,.int .i64 p,.ptr 0 0] [.obj false [.cells true [.int .i64 n]]] (.str (if p<4611686018427387904 then s else s.take n.toNat)) [.obj false [.cells true [.int .i64 n]]]:=by
 refine zBt hmix zDk (n:=0) Tryz.func309 ?_;unfold Tryz.f309;by_cases hp:p<4611686018427387904
 · rw[if_pos hp]
   exact⟨_,_,(by simp +decide [hp];exact wR),Weak.mk' [0] (by decide) rfl (by simp) (by simp[AWb])⟩
 · rw[if_neg hp]
   exact⟨_,_,(by simp +decide [hp,h0,h1];exact wR),Weak.mk' [0] (by decide) rfl (by simp) (by simp[AWb])⟩
theorem zTR:Sound Pz 195 zTS:=by
 refine ⟨zD Tryz.func195 rfl (by decide),fun args H v H' W h=>?_,fun args H v H' W h=>?_⟩
 · unfold zTS at h
   split at h <;> try cases h
   rename_i s p b;split at h <;> try cases h
   rename_i m hb;split at h <;> cases h
   rename_i hl;have hb2:H[b]? = some (.obj false [.cells true [.str m]]):=by
     have:=zN4 hb;rw[q2Z]at this;cases hx:H[b]? with
     | none=>rw[hx]at this;cases this
     | some y=>rw[hx]at this;exact congrArg some this
   exact zR9 (xs:=[.str s,.int .i64 p]) (zYi s m p hl) rfl rfl hb2
 · unfold zTS at h
   split at h <;> try cases h
   split at h <;> try cases h
   split at h <;> cases h
   exact⟨qnZ _,fun _ _ _=>rfl⟩
theorem zL3:Sound Pz 309 zEd:=by
 refine ⟨zD Tryz.func309 rfl (by decide),fun args H v H' W h=>?_,fun args H v H' W h=>?_⟩
 · unfold zEd at h
   split at h <;> try cases h
   rename_i s p b;split at h <;> try cases h
   rename_i n hb;split at h <;> cases h
   rename_i hl;have hb2:H[b]? = some (.obj false [.cells true [.int .i64 n]]):=by
     have:=zN4 hb;rw[q2Z]at this;cases hx:H[b]? with
     | none=>rw[hx]at this;cases this
     | some y=>rw[hx]at this;exact congrArg some this
   exact zR9 (xs:=[.str s,.int .i64 p]) (zTh s n p hl.1 hl.2) rfl rfl hb2
 · unfold zEd at h
   split at h <;> try cases h
   split at h <;> try cases h
   split at h <;> cases h
   exact⟨qnZ _,fun _ _ _=>rfl⟩
def zHg:List FuncId:=[174,175]
theorem zWn:GOk Pz (zAV Pz (zZ [(195,zTS),(309,zEd)]) 0 zHg 4):=zp hmix (zB zTR (zB zL3 zC)) 0 zHg 4
theorem zVE(f:PF)(done part:Int)(hok:f.ok 1000000000000)(hp:part<=4611686018427387903) :
   Ct Pz 77 [.ptr 0 0,.agg [.int .i64 done,.int .i64 part]] [.obj true f.blks] (.int .i64 0) [.obj true (⟨f.stays done part,[]⟩:PF).blks]:=by
 have hΓ:=zWn;refine zE Tryz.func77 rfl ?_;simp only[Tryz.ntmps77,q7Z,q8Z,Nat.reduceAdd,Nat.reduceSub,qbZ,q9Z,qaZ];refine Sim.aft (Aft.open (b:=0) rfl (by simp) (Aft.done (by simp[zY]) ?_));rw[zGz];obtain⟨hfit,hk,hlen⟩:=hok;obtain⟨R,eR⟩:∃R,zBh (List.length ([]:zA)+2) f.acts=R:=⟨_,rfl⟩
 obtain⟨X,eX⟩:∃X,f.acts.map FAct.box=X:=⟨_,rfl⟩
 have hR:R.length=f.acts.length:=by rw[<-eR];simp
 have hX:X.length=f.acts.length:=by rw[<-eX];simp
 have eR2:R=zBh 2 f.acts:=by rw[<-eR];rfl
 have gR:∀(i:Nat) (a:FAct),f.acts[i]? = some a->∀h,R[i]'h=a.fn (i+2):=by
   intro i a hi h;have hil:i<f.acts.length:=(q1Z.1 hi).1;have:=zNk f.acts 2 i hil;rw[<-eR2,q3Z h]at this;rw[q3Z hil]at hi;rw[Option.some.inj this,Option.some.inj hi,Nat.add_comm]
 have gX:∀(i:Nat) (a:FAct),f.acts[i]? = some a->X[i]? = some a.box:=by
   intro i a hi;rw[<-eX,qzZ,hi];rfl
 rw[eR,eX];obtain⟨k,ek⟩:∃k,f.acts.length=k:=⟨_,rfl⟩
 rw[ek]at hR hX hk ⊢;obtain⟨s,es⟩:∃s,f.now=s:=⟨_,rfl⟩
 rw[es];refine wS hΓ (by simp;exact wR) ?_;refine wS hΓ (by simp;exact wR) ?_;refine wS hΓ (by simp;exact wR) ?_;obtain⟨n,en⟩:∃n,(inI done 0 k).toNat=n:=⟨_,rfl⟩
 have en2:max 0 (min done (k:Int))=n:=by unfold inI at en;omega
 have hnk:n<=k:=by unfold inI at en;omega
 have hnk2:(n:Int)<=(k:Int):=by omega
 refine wS hΓ (by simp +decide [-zAx,Zv,zAW,zHg,Tryz.f174,hX,en2];first | exact wR | exact⟨by kernel_rfl,wR⟩) ?_;refine Sim.seq (wS hΓ (by simp[hnk2];exact wR) ?_);obtain⟨HH,eH⟩:∃HH,(ABlk.cells true [AV.str f.d,AV.sl 1 0 k 1 false,AV.str s]::ABlk.cells true R::(X++[ABlk.cells true [AV.int IntKind.i64 done,AV.int IntKind.i64 part]]):zA)=HH:=⟨_,rfl⟩
 refine Sim.block (Sim.loopS (fun i:Nat=>i<=n)
   (fun i=>[.ptr 0 0,.top,.top,.ptr (k+1+1) 0,.int .i64 0,.str (zBB f.d (f.acts.take i)),.int .i64 n]++qbZ 21 .top++[.sl 1 0 n 1 false,.int .i64 n,.int .i64 i]++qbZ 29 .top)
   (fun _=>HH) (fun i=>n-i) 0 (by simp) (by simp) ⟨by simp[zBB],eH⟩ fun i hi=>?_)
 by_cases hlt:i<n
 · have hik:i<f.acts.length:=by omega
   obtain⟨a,ha⟩:∃a,f.acts[i]? = some a:=⟨_,q3Z hik⟩
   have hae:f.acts[i]=a:=by rw[q3Z hik]at ha;exact Option.some.inj ha
   have q1:=gR i a ha;have q2:=gX i a ha;have hiR:i<R.length:=by omega
   have hiX:i<X.length:=by omega
   have q3:(X++[ABlk.cells true [AV.int IntKind.i64 done,AV.int IntKind.i64 part]])[i]? = some a.box:=by rw[q4Z hiX];exact q2
   have e1:=zBz f.d f.acts i hik;rw[hae]at e1;have l1:=hlen (i+1);have l2:=hlen i;rw[e1]at l1;have y1:IntKind.i64.wrap ((i:Int)+1)=i+1:=zI (by omega) (by omega);have hfc:=fun n h=>zHx hfit (i:=i) (n:=n) h;obtain⟨u,hu⟩:∃u,zBB f.d (f.acts.take i)=u:=⟨_,rfl⟩
   rw[hu]at e1 l1 l2 hfc ⊢;rw[<-eH];cases a with
   | add m =>
     simp only[FAct.run,qdZ]at l1;simp only[FAct.fn]at q1;simp only[FAct.box]at q3;have c5:u.length+m.length<=1000000000000:=by omega
     have c6:m.take (inI 4611686018427387904 0 m.length).toNat=m:=q6Z (by unfold inI;omega);refine wE hΓ (by simp +decide [zHg,zTS,zHn,hlt,hiR,q1,q3,y1,c5,c6];exact wT) ?_;exact⟨i+1,by omega,⟨by simp[e1,FAct.run],by first | exact eH | rfl⟩,by omega⟩
   | cut z =>
     simp only[FAct.fn]at q1;simp only[FAct.box]at q3;have hz:=hfc z ha;refine wE hΓ (by simp +decide [zHg,zEd,zHn,hlt,hiR,q1,q3,y1,hz];exact wT) ?_;exact⟨i+1,by omega,⟨by simp[e1,FAct.run],by first | exact eH | rfl⟩,by omega⟩
 have:i=n:=by omega
 subst this;rw[<-eH];refine wE hΓ (by simp;exact wT) ?_;dsimp only;rw[if_pos rfl];obtain⟨T,hT⟩:∃T,f.stays done part=T:=⟨_,rfl⟩
 have hT2:T=zBB f.d (f.acts.take i)++(match f.acts[i]? with
   | some (.add m)=>m.take (inI part 0 m.length).toNat
   | _=>[]):=by rw[<-hT];unfold PF.stays;simp only[ek,en]
 rw[hT];obtain⟨u,hu⟩:∃u,zBB f.d (f.acts.take i)=u:=⟨_,rfl⟩
 have l2:=hlen i;rw[hu]at hT2 l2 ⊢;have q4:(X++[ABlk.cells true [AV.int IntKind.i64 done,AV.int IntKind.i64 part]])[k]? = some (ABlk.cells true [AV.int IntKind.i64 done,AV.int IntKind.i64 part]):=by rw[<-hX,q5Z (qnZ _)];simp
 refine Sim.seq (Sim.mono (Q:=fun e F' H'=>e=.normal/\LessF ([.ptr 0 0]++qbZ 4 .top++[.str T]++qbZ 54 .top) F'/\H'=ABlk.cells true [AV.str f.d,AV.sl 1 0 k 1 false,AV.str s]::ABlk.cells true R::(X++[ABlk.cells true [AV.int IntKind.i64 done,AV.int IntKind.i64 part]])) ?_ ?_)
 · by_cases hlast:i<k
   · have hik:i<f.acts.length:=by omega
     obtain⟨a,ha⟩:∃a,f.acts[i]? = some a:=⟨_,q3Z hik⟩
     have hae:f.acts[i]=a:=by rw[q3Z hik]at ha;exact Option.some.inj ha
     have q1:=gR i a ha;have q2:=gX i a ha;have hiR:i<R.length:=by omega
     have hiX:i<X.length:=by omega
     have q3:(X++[ABlk.cells true [AV.int IntKind.i64 done,AV.int IntKind.i64 part]])[i]? = some a.box:=by rw[q4Z hiX];exact q2
     have e1:=zBz f.d f.acts i hik;rw[hae,hu]at e1;have l1:=hlen (i+1);rw[e1]at l1;have hlast2:(i:Int)<(k:Int):=by omega
     have p1:min part 4611686018427387903=part:=by omega
     rw[ha]at hT2;cases a with
     | add m =>
       simp only[FAct.run,qdZ]at l1;simp only[FAct.fn]at q1;simp only[FAct.box]at q3;simp only at hT2;obtain⟨z,hz⟩:∃z,(inI part 0 m.length).toNat=z:=⟨_,rfl⟩
       rw[hz]at hT2;have c5:u.length+m.length<=1000000000000:=by omega
       refine wE hΓ (by simp +decide [-zAx,Zv,zHg,zTS,zHn,hlast,hiR,q1,q3,q4,p1,hz,c5];exact⟨by kernel_rfl,rfl,rfl,rfl⟩) ?_;exact⟨rfl,by simp[hT2],rfl⟩
     | cut z =>
       simp only[FAct.fn]at q1;simp only[FAct.box]at q3;simp only[r2Z]at hT2;have p2:part<4611686018427387904:=by omega
       have hz:=zHx hfit ha;rw[hu]at hz;refine wE hΓ (by simp +decide [-zAx,Zv,zHg,zEd,zHn,hlast,hiR,q1,q3,q4,p1,p2,hz];exact⟨by kernel_rfl,rfl,rfl,rfl⟩) ?_;exact⟨rfl,by simp[hT2],rfl⟩
   · have ha:f.acts[i]? = none:=s4Z (by omega)
     rw[ha]at hT2;simp only[r2Z]at hT2;refine wE hΓ (by simp[hlast];exact wT) ?_;exact⟨rfl,by simp[hT2],rfl⟩
 rintro e F' H' hl ⟨rfl,hF,rfl⟩;dsimp only;refine Sim.less hF ?_;refine wS hΓ (by simp[zHg,Tryz.f175];exact wR) ?_;refine Sim.aft (Aft.closeD T 0 rfl (by simp) (Aft.weak (Fn:=qbZ 60 .top) (Hn:=[.obj true (⟨T,[]⟩:PF).blks]) (Weak.mk' [0] (by decide) (by decide) (zAX _ _ _ rfl) (zM (b:=0) (by simp) _ _ rfl fun i c x h1 h2=>?_)) (by simp) (Aft.done (by simp) ?_)))
 · match i,h1,h2 with
   | 0,h1,h2=>cases h1;cases h2;exact .inl ⟨rfl,rfl⟩
 refine wE hΓ (by simp;exact wT) ?_;exact⟨.inr rfl,_,by simp[Tryz.f77] <;> rfl,wW [0] (by simp[AWb])⟩
theorem blks_head(f:PF):∃B,f.blks=.cells true [.str f.d,.sl 1 0 f.acts.length 1 false,.str f.now]::B:=⟨_,rfl⟩
theorem zW1(s:List UInt8):Ct Pz 91 [.str s] [] (.ptr 0 0) [.obj true (⟨s,[]⟩:PF).blks]:=by
 refine zE Tryz.func91 rfl ?_;simp only[Tryz.ntmps91,q7Z,q8Z,Nat.reduceAdd,Nat.reduceSub,qbZ,q9Z,qaZ];refine Sim.after (wE zDk (by simp;exact wT) ?_);refine Aft.closeD s 0 rfl (by simp) (Aft.done (by simp) ?_);exact⟨.inr rfl,_,by simp[Tryz.f91] <;> rfl,wW [0] (zM (b:=0) (by simp) _ _ rfl fun i c x h1 h2=>by
   match i,h1,h2 with
   | 0,h1,h2=>cases h1;cases h2;exact .inl ⟨rfl,rfl⟩)⟩
theorem zSn(f:PF):Ct Pz 135 [.ptr 0 0] [.obj true f.blks] (.str f.now) [.obj true f.blks]:=by
 obtain⟨B,eB⟩:=blks_head f;rw[eB];refine zBt hmix zDk (n:=0) Tryz.func135 ?_;unfold Tryz.f135;exact⟨_,_,(by simp +decide;exact wR),Weak.mk' [0] (by decide) rfl (by simp) (by simp[AWb])⟩
theorem zWF:GOk Pz (zAV Pz (zZ []) 0 [135] 2):=zp hmix zC 0 _ 2
theorem zXu(f:PF):Ct Pz 180 [.ptr 0 0] [.obj true f.blks] (.int .i64 f.now.length) [.obj true f.blks]:=by
 obtain⟨B,eB⟩:=blks_head f;rw[eB];refine zBt hmix zWF (n:=0) Tryz.func180 ?_;unfold Tryz.f180;exact⟨_,_,(by simp +decide [Tryz.f135];exact wR),Weak.mk' [0] (by decide) rfl (by simp) (by simp[AWb])⟩
def PF.readAt(f:PF)(a n:Int):List UInt8×Int:=if a<0\/n<0\/(f.now.length:Int)<a then ([],17) else ((f.now.drop a.toNat).take n.toNat,0)
noncomputable def zE1(sub:zA):Option PF:=open Classical in if h:∃f:PF,sub=f.blks then some h.choose else none
theorem zD6{sub:zA}{f:PF}(h:zE1 sub=some f):sub=f.blks:=by
 unfold zE1 at h;split at h
 · rename_i hx
   cases h;exact hx.choose_spec
 · cases h
@[simp] theorem zJB(f:PF):zE1 f.blks=some f:=by
 unfold zE1;rw[dif_pos ⟨f,rfl⟩];have:=(show ∃g:PF,f.blks=g.blks from ⟨f,rfl⟩).choose_spec;have h2:=congrArg zQL this;rw[zHY,zHY]at h2;exact h2.symm
end
section
open Go
def PF.small(f:PF):Prop:=f.ok 1000000000000
theorem PF.small_now{f:PF}(h:f.small):f.now.length<=1000000000000:=by
 have:=h.len f.acts.length
 rwa [List.take_length]at this
noncomputable section
open Classical
def zQ0:zJ:=zAM zE1 PF.blks fun f xs _=>match xs with
 | []=>some (⟨f.now,[]⟩,.int .i64 0)
 | _=>none
theorem zNC:Sound Pz 249 zQ0:=by
 refine zS (zD Tryz.func249 rfl (by decide)) (fun _ _=>zD6) fun f xs H s' v b hg hb=>?_;split at hg <;> cases hg
 exact ze (zU2 f) rfl rfl hb
def zMd:zJ:=zAM zE1 PF.blks fun f xs _=>match xs with
 | []=>some (f,.str f.now)
 | _=>none
theorem zLq:Sound Pz 135 zMd:=by
 refine zS (zD Tryz.func135 rfl (by decide)) (fun _ _=>zD6) fun f xs H s' v b hg hb=>?_;split at hg <;> cases hg
 exact ze (zSn f) rfl rfl hb
def zVW:zJ:=zAM zE1 PF.blks fun f xs _=>match xs with
 | []=>some (f,.int .i64 f.now.length)
 | _=>none
theorem zQG:Sound Pz 180 zVW:=by
 refine zS (zD Tryz.func180 rfl (by decide)) (fun _ _=>zD6) fun f xs H s' v b hg hb=>?_;split at hg <;> cases hg
 exact ze (zXu f) rfl rfl hb
def zRw:zJ:=zAM zE1 PF.blks fun f xs H=>match xs with
 | [.slice b2 off n 1 c]=>match H.getD b2 .dead with
   | .cells _ l=>match zAG H (.slice b2 off n 1 c) with
     | some a=>if f.small/\zt l=true/\a.flatten.length<=1000000000000/\a.length<=1000000000000 then some (f.add a.flatten,.int .i64 0) else none
     | none=>none
   | _=>none
 | _=>none
theorem zPf:Sound Pz 98 zRw:=by
 refine zS (zD Tryz.func98 rfl (by decide)) (fun _ _=>zD6) fun f xs H s' v b hg hb=>?_;split at hg;rotate_left
 · cases hg
 rename_i b2 off n c;split at hg;rotate_left
 · cases hg
 rename_i o l hb2;split at hg;rotate_left
 · cases hg
 rename_i a ha;split at hg <;> cases hg
 rename_i hs;have hb3:H[b2]? = some (.cells o l):=by
   rw[q2Z]at hb2;cases hx:H[b2]? with
   | none=>rw[hx]at hb2;cases hb2
   | some y=>rw[hx]at hb2;exact congrArg some hb2
 have hrs:zAG [.obj true f.blks,.cells false l] (.sl 1 off n 1 c)=some a:=by
   unfold zAG at ha ⊢;simp only[hb3]at ha;split at ha;rotate_left
   · cases ha
   rename_i hle;by_cases h0:n=0
   · subst h0
     rw[<-ha];show (if 0=0 then some [] else _)=_;rw[if_pos rfl];rfl
   · show (if n=0 then some [] else (if off+n<=l.length then ZY ((l.drop off).take n) else none))=some a
     rw[if_neg h0,if_pos hle];exact ha
 refine zH5 (x:=.sl 1 off n 1 c) (zQu f l off n c a (fun rn=>Z9 l hs.2.1) hrs hs.2.2 (PF.small_now hs.1) hs.1.acts) rfl rfl hs.2.1 hb hb3 ?_;exact⟨rfl,rfl,rfl,rfl,fun h=>h⟩
def zPv:zJ:=zAM zE1 PF.blks fun f xs _=>match xs with
 | [.agg [.int .i64 d,.int .i64 p]]=>if f.small/\p<=4611686018427387903 then some (⟨f.stays d p,[]⟩,.int .i64 0) else none
 | _=>none
theorem zNY:Sound Pz 77 zPv:=by
 refine zS (zD Tryz.func77 rfl (by decide)) (fun _ _=>zD6) fun f xs H s' v b hg hb=>?_;split at hg;rotate_left
 · cases hg
 split at hg <;> cases hg
 rename_i hs;exact ze (zVE f _ _ hs.1 hs.2) rfl rfl hb
end
def zVT:zJ:=zL6 fun
 | [.str s]=>some (.ptr 0 0,[.obj true (⟨s,[]⟩:PF).blks])
 | _=>none
theorem zQB:Sound Pz 91 zVT:=by
 refine zEt (zD Tryz.func91 rfl (by decide)) fun args v H' h=>?_;split at h <;> cases h
 exact⟨zW1 _,rfl,rfl⟩
end
section
open Go
theorem PF.ok_mono{f:PF}{B C:Nat}(h:f.ok B)(hc:B<=C):f.ok C:=⟨h.fits,by have:=h.acts;omega,fun i=>by have:=h.len i;omega⟩
theorem PF.ok_new(s:List UInt8)(B:Nat)(h:s.length<=B):(⟨s,[]⟩:PF).ok B:=⟨trivial,by simp,fun i=>by simpa[zBB] using h⟩
theorem PF.ok_now{f:PF}{B:Nat}(h:f.ok B):f.now.length<=B:=by
 have:=h.len f.acts.length
 rwa [List.take_length]at this
theorem PF.ok_did{f:PF}{B C:Nat}(h:f.ok B)(a:FAct)(hf:match a with | .add _=>True | .cut n=>n<=f.now.length)(hl:(a.run f.now).length<=C)(hc:B+1<=C):(f.did a).ok C:=by
 refine ⟨(zHL _ _ _).2 ⟨h.fits,hf,trivial⟩,by have:=h.acts;simp[PF.did];omega,fun i=>?_⟩;simp only[PF.did];rcases s2Z f.acts.length i with h1 | h1
 · rw[q6Z (by simp;omega),zEH]
   exact hl
 · rw[List.take_append_of_le_length h1]
   have:=h.len i;omega
theorem PF.ok_add{f:PF}{B k:Nat}(h:f.ok B)(m:List UInt8)(hm:m.length<=k)(hk:1<=k):(f.add m).ok (B+k):=by
 unfold PF.add;split
 · exact PF.ok_mono h (by omega)
 · refine PF.ok_did h (.add m) trivial ?_ (by omega)
   have:=PF.ok_now h;simp[FAct.run];omega
theorem PF.ok_stays{f:PF}{B:Nat}(h:f.ok B)(d p:Int):(f.stays d p).length<=B:=by
 unfold PF.stays;obtain⟨n,hn⟩:∃n,(inI d 0 f.acts.length).toNat=n:=⟨_,rfl⟩
 rw[hn];simp only;have h1:=h.len n;split
 · rename_i m hm
   have hnl:n<f.acts.length:=(q1Z.1 hm).1;have h2:=h.len (n+1);rw[zBz _ _ _ hnl]at h2;rw[q3Z hnl]at hm;rw[Option.some.inj hm]at h2;simp only[FAct.run,qdZ]at h2;simp only[qdZ,qjZ];omega
 · simpa using h1
end
section
open Go
attribute [-simp] zH zc zq zK zy
def FAct.cells:FAct->List AV
 | .add s=>[.bool false,.int .i64 0,.str s]
 | .cut n=>[.bool true,.int .i64 n,.str []]
def Zk:List FAct->List AV
 | []=>[]
 | a::l=>a.cells++Zk l
@[simp] theorem zXK(a:FAct):a.cells.length=3:=by cases a <;> rfl
@[simp] theorem zNf:∀(l:List FAct),(Zk l).length=l.length*3
 | []=>rfl
 | a::l=>by simp[Zk,zNf l];omega
theorem zEO:∀(l m:List FAct),Zk (l++m)=Zk l++Zk m
 | [],m=>rfl
 | a::l,m=>by simp[Zk,zEO l m]
@[simp] theorem zIb:∀(l:List FAct),zt (Zk l)=true
 | []=>rfl
 | a::l=>by
   have:=zIb l;simp only[zt]at this ⊢;cases a <;> simp[Zk,FAct.cells,this,zAT]
@[simp] theorem zJg{rn:List Nat}(l:List FAct):AWs rn (Zk l) (Zk l):=Z9 _ (zIb l)
def PF.rblks(f:PF):zA:=[.cells true [.str f.d,.sl 1 0 f.acts.length 3 false],.cells true (Zk f.acts)]
theorem zNS(s:List UInt8)(a:FAct)(hl:(a.run s).length<=1000000000000)(hf:match a with | .add _=>True | .cut n=>n<=s.length):Ct Pz 221 [.str s,.agg a.cells] [] (.str (a.run s)) []:=by
 refine zBt hmix zDk (n:=0) Tryz.func221 ?_;unfold Tryz.f221;cases a with
 | add m =>
   have h1:s.length+m.length<=9223372036854775807:=by simp[FAct.run]at hl;omega
   exact⟨_,_,(by simp +decide [FAct.cells,h1];exact wR),Weak.mk' [] (by decide) rfl (by simp[FAct.run]) (by simp)⟩
 | cut n =>
   have h1:min (n:Int) (s.length:Int)=(n:Int):=by have:n<=s.length:=hf;omega
   have h2:n<=s.length:=hf;exact⟨_,_,(by simp +decide [-zAx,Zv,FAct.cells,h1,h2];exact wR),Weak.mk' [] (by decide) rfl (by simp[FAct.run]) (by simp)⟩
theorem zJL:∀(l:List FAct) (k:Nat) (h:k<l.length),((Zk l).drop (k*3)).take 3=l[k].cells
 | a::l,0,_=>by cases a <;> simp[Zk,FAct.cells]
 | a::l,k+1,h=>by
   have:=zJL l k (by simpa using h);rw[show (k+1)*3=k*3+3 by omega];cases a <;> simpa[Zk,FAct.cells] using this
def zG6:zJ:=Zt fun
 | [.str s,.agg [.bool false,.int .i64 0,.str m]]=>if s.length+m.length<=1000000000000 then some (.str (s++m)) else none
 | [.str s,.agg [.bool true,.int .i64 n,.str []]]=>if (0<=n/\n<=s.length)/\s.length<=1000000000000 then some (.str (s.take n.toNat)) else none
 | _=>none
theorem zOg:Sound Pz 221 zG6:=by
 refine zU (zD Tryz.func221 rfl (by decide)) fun args v h=>?_;split at h
 · split at h <;> cases h
   rename_i s m hl;exact⟨zNS s (.add m) (by simpa[FAct.run] using hl) trivial,rfl,rfl⟩
 · split at h <;> cases h
   rename_i s n hl;have:=zNS s (.cut n.toNat) (by simp[FAct.run];omega) (by show n.toNat<=_;omega);simp only[FAct.cells,FAct.run,rqZ hl.1.1]at this;exact⟨this,rfl,rfl⟩
 · cases h
theorem zPE:GOk Pz (zAV Pz (zZ [(221,zG6)]) 0 [] 4):=zp hmix (zB zOg zC) 0 [] 4
theorem zSd(f:PF)(hok:f.ok 1000000000000) :
   Ct Pz 136 [.ptr 0 0] [.cells false [.str f.d,.sl 1 0 f.acts.length 3 false],.cells false (Zk f.acts)] (.str f.now) [.cells false [.str f.d,.sl 1 0 f.acts.length 3 false],.cells false (Zk f.acts)]:=by
 have hΓ:=zPE;obtain⟨hfit,hk,hlen⟩:=hok;refine zE Tryz.func136 rfl ?_;simp only[Tryz.ntmps136,q7Z,q8Z,Nat.reduceAdd,Nat.reduceSub,qbZ,q9Z,qaZ];obtain⟨HH,eH⟩:∃HH,[ABlk.cells false [.str f.d,.sl 1 0 f.acts.length 3 false],.cells false (Zk f.acts)]=HH:=⟨_,rfl⟩
 refine wS hΓ (by simp;exact wR) ?_;refine wS hΓ (by simp;exact wR) ?_;refine Sim.seq (wS hΓ (by simp;exact wR) ?_);refine Sim.block (Sim.loopS (fun i:Nat=>i<=f.acts.length)
   (fun i=>[.ptr 0 0,.top,.top,.str (zBB f.d (f.acts.take i)),.int .i64 i]++qbZ 23 .top)
   (fun _=>HH) (fun i=>f.acts.length-i) 0 (by simp) (by simp) ⟨by simp[zBB],eH⟩ fun i hi=>?_)
 rw[<-eH];by_cases hlt:i<f.acts.length
 · obtain⟨a,ha⟩:∃a,f.acts[i]=a:=⟨_,rfl⟩
   have g1:=zJL f.acts i hlt;have k1:i*3+3<=f.acts.length*3:=by omega
   have e1:=zBz f.d f.acts i hlt;have l1:=hlen (i+1);have l2:=hlen i;rw[e1]at l1;rw[ha]at g1 e1 l1;have y1:IntKind.i64.wrap ((i:Int)+1)=i+1:=zI (by omega) (by omega);have hfc:=fun n h=>zHx hfit (i:=i) (n:=n) h;rw[q3Z hlt,ha]at hfc;obtain⟨u,hu⟩:∃u,zBB f.d (f.acts.take i)=u:=⟨_,rfl⟩
   rw[hu]at e1 l1 l2 hfc ⊢;cases a with
   | add m =>
     simp only[FAct.run,qdZ]at l1;simp only[FAct.cells]at g1;refine wE hΓ (by simp +decide [zG6,hlt,g1,k1,y1,l1];exact wT) ?_;exact⟨i+1,by omega,⟨by simp[e1,FAct.run],by first | exact eH | rfl⟩,by omega⟩
   | cut z =>
     simp only[FAct.cells]at g1;have hz:=hfc z rfl;refine wE hΓ (by simp +decide [zG6,hlt,g1,k1,y1,hz,l2];exact wT) ?_;exact⟨i+1,by omega,⟨by simp[e1,FAct.run],by first | exact eH | rfl⟩,by omega⟩
 have:i=f.acts.length:=by omega
 subst this;refine wE hΓ (by simp;exact wT) ?_;dsimp only;rw[if_pos rfl];refine wE hΓ (by simp;exact wT) ?_;exact⟨.inr rfl,_,by simp[Tryz.f136] <;> rfl,Weak.mk' [0,1] (by decide) (by decide) (by simp[PF.now]) (by simp)⟩
end
section
open Go
attribute [-simp] zH zc zq zK zy
theorem Ct.aft{P:Program}{f:FuncId}{args:List AV}{H H':zA}{v:AV}
   (h:Aft H.length args H fun F1 H1=>H.length<=H1.length/\∃v1 H2,Ct P f F1 H1 v1 H2/\Aft H.length [v1] H2 fun F2 H3=>F2=[v]/\H3=H'):Ct P f args H v H':=by
 intro j w cargs hR hargs;obtain⟨F1,H1,j1,⟨hl,v1,H2,h1,h2⟩,h3,s1⟩:=h j w _ hR hargs;refine Calls.mono (h1 j1 w cargs s1.rel h3) ?_;rintro e w' ⟨cv,j2,rfl,h4,s2⟩;obtain⟨F2,H3,j3,⟨rfl,rfl⟩,h5,s3⟩:=h2 j2 w' [cv] s2.rel ⟨cv,[],rfl,h4,rfl⟩;obtain⟨u,us,e,h6,_⟩:=h5;cases e;exact⟨cv,j3,rfl,h6,s1.trans ((s2.weaken hl).trans s3 (qnZ _)) (qnZ _)⟩
def rowActs:List AV->Option (List FAct)
 | []=>some []
 | .bool false::.int .i64 0::.str m::l=>match rowActs l with
   | some a=>some (.add m::a)
   | none=>none
 | .bool true::.int .i64 n::.str []::l=>if 0<=n then match rowActs l with
   | some a=>some (.cut n.toNat::a)
   | none=>none else none
 | _=>none
@[simp] theorem zM6:∀(l:List FAct),rowActs (Zk l)=some l
 | []=>rfl
 | a::l=>by cases a <;> simp[Zk,FAct.cells,rowActs,zM6 l]
theorem zFZ:∀{l:List AV} {a:List FAct},rowActs l=some a->l=Zk a:=by
 intro l;induction l using rowActs.induct with
 | case1=>intro a h;cases h;rfl
 | case2 m l b hb ih=>intro a h;simp only[rowActs,hb]at h;cases h;rw[ih hb];rfl
 | case3 m l hb ih=>intro a h;simp only[rowActs,hb]at h;cases h
 | case4 n l hn b hb ih=>intro a h;simp only[rowActs,hb,if_pos hn]at h;cases h;rw[ih hb];simp[Zk,FAct.cells,rqZ hn]
 | case5 n l hn hb ih=>intro a h;simp only[rowActs,hb,if_pos hn]at h;cases h
 | case6 n l hn=>intro a h;simp only[rowActs,if_neg hn]at h;cases h
 | case7 l h1 h2 h3=>intro a h;unfold rowActs at h;split at h <;> simp_all
def zEF:zA->Option PF
 | [.cells true [.str d,.sl 1 0 n 3 false],.cells true l]=>match rowActs l with
   | some a=>if n=a.length then some ⟨d,a⟩ else none
   | none=>none
 | _=>none
@[simp] theorem zHK(f:PF):zEF f.rblks=some f:=by simp[zEF,PF.rblks]
theorem zDA{sub:zA}{f:PF}(h:zEF sub=some f):sub=f.rblks:=by
 unfold zEF at h;split at h <;> try cases h
 split at h <;> try cases h
 rename_i a ha;split at h <;> cases h
 rename_i hn;rw[zFZ ha,hn];rfl
theorem zDv(f:PF)(T:zA):zY (.obj true f.rblks::T) 0 f.rblks=.cells true [.str f.d,.sl (T.length+1) 0 f.acts.length 3 false]::(T++[.cells true (Zk f.acts)]):=by
 unfold zY;simp[PF.rblks,reB,zj,reA,Zr,zBO]
theorem Aft.closeR{n0:Nat}{F:List AV}{H:zA}{K:List AV->zA->Prop}(f:PF)(b r:Nat){x:AV}(hb:H[b]? = some (.cells true [.str f.d,x]))(hx:AW [b,r] (.sl 1 0 f.acts.length 3 false) x)
   (hr:r<H.length->H[r]? = some (.cells true (Zk f.acts))) (hne:b≠r) (hn:n0<=H.length) (h:Aft n0 F (ZH H b [r] true f.rblks) K):Aft n0 F H K:=by
 refine Aft.close (o:=true) (b:=b) (rs:=[b,r]) (ks:=[r]) rfl (by simp[hne]) (q1Z.1 hb).1 ?_ ?_ ⟨_,rfl,rfl⟩ ?_ hn h
 · intro c x hc hcb _ _
   simp only[qwZ,rtZ,or_false]at hc;rcases hc with rfl | rfl
   · exact absurd rfl hcb
   · simp
 · refine ⟨?_,?_,trivial⟩
   · split
     · rw[q2Z,hb]
       exact⟨fun h=>h,rfl,hx,trivial⟩
     · trivial
   · split
     · rename_i h1
       rw[q2Z,hr h1];exact⟨fun h=>h,zJg _⟩
     · trivial
 · intro i y hy hd
   match i,hy with
   | 0,hy=>cases hy;rfl
   | 1,hy=>cases hy;rfl
theorem zLX(f:PF)(hok:f.ok 1000000000000){H:zA}{b r:Nat}{o o2:Bool}(hb:H[b]? = some (.cells o [.str f.d,.sl r 0 f.acts.length 3 false]))(hr:H[r]? = some (.cells o2 (Zk f.acts)))(hne:b≠r) :
   Ct Pz 136 [.ptr b 0] H (.str f.now) H:=by
 have hbl:b<H.length:=(q1Z.1 hb).1;have hrl:r<H.length:=(q1Z.1 hr).1;have:=zP (H:=H) (args:=[.ptr b 0]) (zSd f hok) [b,r] (by simp[hne]) ⟨⟨rfl,rfl⟩,trivial⟩ ⟨by rw[q2Z,hb];exact⟨by simp,rfl,⟨rfl,rfl,rfl,rfl,fun h=>h⟩,trivial⟩,hbl,by rw[q2Z,hr];exact⟨by simp,zJg _⟩,hrl,trivial⟩ rfl;simpa[zN,ABlk.own,reB,reA] using this
theorem zRR(f:PF)(hok:f.ok 1000000000000):Ct Pz 136 [.ptr 0 0] [.obj true f.rblks] (.str f.now) [.obj true f.rblks]:=by
 refine Ct.aft (Aft.open (b:=0) rfl (by simp) (Aft.done (by simp[zY]) ?_));rw[zDv];refine ⟨by simp,.str f.now,_,zLX f hok (b:=0) (r:=1) rfl rfl (by decide),?_⟩;refine Aft.closeR f 0 1 (x:=.sl 1 0 f.acts.length 3 false) rfl ⟨rfl,rfl,rfl,rfl,fun h=>h⟩ (fun _=>rfl) (by decide) (by simp) ?_;refine Aft.weak (Fn:=[.str f.now]) (Hn:=[.obj true f.rblks]) (Weak.mk' [0] (by decide) rfl ⟨rfl,trivial⟩ (zM (b:=0) (by simp) _ _ rfl fun i c x h1 h2=>?_)) (by simp) (Aft.done (by simp) ⟨rfl,rfl⟩)
 match i,h1,h2 with
 | 0,h1,h2=>cases h1;cases h2;exact .inl ⟨rfl,rfl⟩
noncomputable section
open Classical
def Zh:zJ:=fun args H=>match args with
 | [.ptr b 0]=>match H.getD b .dead with
   | .cells _ [.str d,.sl r 0 n 3 false]=>match H.getD r .dead with
     | .cells _ l=>match rowActs l with
       | some a=>if n=a.length/\b≠r/\PF.small ⟨d,a⟩ then some (.str (PF.now ⟨d,a⟩),H,[]) else none
       | none=>none
     | _=>none
   | .obj true sub=>match zEF sub with
     | some f=>if f.small then some (.str f.now,H,[]) else none
     | none=>none
   | _=>none
 | _=>none
end
theorem getD_some{H:zA}{b:Nat}{x:ABlk}(h:H.getD b .dead=x)(hx:x≠.dead):H[b]? = some x:=by
 rw[q2Z]at h;cases hy:H[b]? with
 | none=>rw[hy]at h;exact absurd h.symm hx
 | some y=>rw[hy]at h;exact congrArg some h
theorem zDb:Sound Pz 136 Zh:=by
 refine ⟨zD Tryz.func136 rfl (by decide),fun args H v H' W h=>?_,fun args H v H' W h=>?_⟩
 · unfold Zh at h
   split at h <;> try cases h
   rename_i b;split at h <;> try cases h
   · rename_i d r n hb
     split at h <;> try cases h
     rename_i l hr;split at h <;> try cases h
     rename_i a ha;split at h <;> cases h
     rename_i hc;obtain⟨rfl,hne,hs⟩:=hc;rw[zFZ ha]at hr;exact zLX ⟨d,a⟩ hs (getD_some hb (by simp)) (getD_some hr (by simp)) hne
   · rename_i sub hb
     split at h <;> try cases h
     rename_i f hf;split at h <;> cases h
     rename_i hs;rw[zDA hf]at hb;have hb2:=getD_some hb (by simp);have:=ze (zRR f hs) rfl rfl hb2;obtain⟨h1,h2⟩:=q1Z.1 hb2;rw[<-h2,List.set_getElem_self]at this;exact this
 · unfold Zh at h
   split at h <;> try cases h
   split at h <;> try cases h
   · split at h <;> try cases h
     split at h <;> try cases h
     split at h <;> cases h
     exact⟨qnZ _,fun _ _ _=>rfl⟩
   · split at h <;> try cases h
     split at h <;> cases h
     exact⟨qnZ _,fun _ _ _=>rfl⟩
end
section
open Go
attribute [-simp] zH zc zq zK zy
@[simp] theorem zQU:∀l:List FAct,(Zk l).all ZG=true
 | []=>rfl
 | a::l=>by
   have:=zQU l;cases a <;> simp[Zk,FAct.cells,ZG]at this ⊢ <;> exact this
@[simp] theorem zZh(l:List FAct):(Zk l).take (l.length*3)=Zk l:=q6Z (by simp)
theorem zH7:GOk Pz (zAV Pz (zZ [(136,Zh)]) 0 [] 4):=zp hmix (zB zDb zC) 0 [] 4
theorem zUy(f:PF)(hs:f.small):Ct Pz 168 [.ptr 0 0] [.obj true f.rblks] (.tuple []) [.obj true (⟨f.now,[]⟩:PF).rblks]:=by
 refine zE Tryz.func168 rfl ?_;simp only[Tryz.ntmps168,q7Z,q8Z,Nat.reduceAdd,Nat.reduceSub,qbZ,q9Z,qaZ];refine Sim.aft (Aft.open (b:=0) rfl (by simp) (Aft.done (by simp[zY]) ?_));rw[zDv];refine Sim.after (wE zH7 (by simp[Zh,hs];exact wT) ?_);refine Aft.closeR ⟨f.now,[]⟩ 0 2 (x:=.nils) rfl (by simp[AW]) (by simp) (by decide) (by simp) (Aft.done (by simp) ⟨by first | exact .inl rfl | exact .inr rfl,_,by simp[Tryz.f168] <;> rfl,Weak.mk' [0] (by decide) rfl (by simp) (zM (b:=0) (by simp) _ _ rfl fun i c x h1 h2=>?_)⟩)
 match i,h1,h2 with
 | 0,h1,h2=>cases h1;cases h2;exact .inl ⟨rfl,rfl⟩
theorem zUZ(f:PF)(a n:Int)(hs:f.small):Ct Pz 233 [.ptr 0 0,.int .i64 a,.int .i64 n] [.obj true f.rblks] (.tuple [.str (f.readAt a n).1,.int .i64 (f.readAt a n).2]) [.obj true f.rblks]:=by
 have hn:=PF.small_now hs;obtain⟨s,es⟩:∃s,f.now=s:=⟨_,rfl⟩
 unfold PF.readAt;rw[es];rw[es]at hn;refine zBt hmix zH7 (n:=0) Tryz.func233 ?_;unfold Tryz.f233;by_cases h1:a<0
 · exact⟨_,_,(by simp +decide [Zh,hs,es,h1];exact wR),Weak.mk' [0] (by decide) rfl (by simp[h1]) (by simp[AWb])⟩
 by_cases h2:n<0
 · exact⟨_,_,(by simp +decide [Zh,hs,es,h1,h2];exact wR),Weak.mk' [0] (by decide) rfl (by simp[h1,h2]) (by simp[AWb])⟩
 by_cases h3:(s.length:Int)<a
 · exact⟨_,_,(by simp +decide [Zh,hs,es,h1,h2,h3];exact wR),Weak.mk' [0] (by decide) rfl (by simp[h1,h2,h3]) (by simp[AWb])⟩
 rw[if_neg (by omega)];have a0:0<=a:=by omega
 have a1:a<=(s.length:Int):=by omega
 obtain⟨k,ek⟩:∃k,a.toNat=k:=⟨_,rfl⟩
 have hk:k<=s.length:=by omega
 obtain⟨z,ez⟩:∃z:Nat,min n ((s.length-k:Nat):Int)=z:=⟨(min n ((s.length-k:Nat):Int)).toNat,by omega⟩
 have z1:z<=s.length-k:=by omega
 have z2:(z:Int)<=((s.length-k:Nat):Int):=by omega
 have z3:(s.drop k).take z=(s.drop k).take n.toNat:=by
   by_cases hz:n.toNat<=s.length-k
   · rw[show z=n.toNat by omega]
   · rw[q6Z (by simp;omega),q6Z (by simp;omega)]
 refine ⟨_,_,(by simp +decide [-zAx,Zv,Zh,hs,es,h1,h2,h3,a0,a1,ek,ez,z2];exact wR),Weak.mk' [0] (by decide) rfl (by simp[ek,List.take_take,sfZ z1,z3]) (by simp[AWb])⟩
theorem zXn(f:PF)(n:Int)(hs:f.small) :
   Ct Pz 250 [.ptr 0 0,.int .i64 n] [.obj true f.rblks] (.int .i64 (f.cut n).2) [.obj true (f.cut n).1.rblks]:=by
 have hΓ:=zH7;have hn:=PF.small_now hs;have hk:=hs.acts;refine zE Tryz.func250 rfl ?_;simp only[Tryz.ntmps250,q7Z,q8Z,Nat.reduceAdd,Nat.reduceSub,qbZ,q9Z,qaZ];obtain⟨s,es⟩:∃s,f.now=s:=⟨_,rfl⟩
 unfold PF.cut;rw[es];rw[es]at hn;refine wS hΓ (by simp;exact wR) ?_;by_cases h1:n<0
 · rw[if_pos (.inl h1)]
   refine wE hΓ (by simp +decide [h1];exact wT) ?_;exact⟨.inr rfl,_,by simp[Tryz.f250] <;> rfl,Weak.mk' [0] (by decide) rfl (by simp) (by simp[AWb])⟩
 by_cases h2:(s.length:Int)<n
 · rw[if_pos (.inr h2)]
   refine wE hΓ (by simp +decide [Zh,hs,es,h1,h2];exact wT) ?_;exact⟨.inr rfl,_,by simp[Tryz.f250] <;> rfl,Weak.mk' [0] (by decide) rfl (by simp) (by simp[AWb])⟩
 rw[if_neg (by omega)];by_cases h3:n<s.length;rotate_left
 · rw[if_neg h3]
   refine wE hΓ (by simp +decide [Zh,hs,es,h1,h2,h3];exact wT) ?_;exact⟨.inr rfl,_,by simp[Tryz.f250] <;> rfl,Weak.mk' [0] (by decide) rfl (by simp) (by simp[AWb])⟩
 rw[if_pos h3];refine Sim.aft (Aft.open (b:=0) rfl (by simp) (Aft.done (by simp[zY]) ?_));rw[zDv];have b1:f.acts.length*32<=140737488355328:=by omega
 have b2:f.acts.length<=9223372036854775807:=by omega
 have b3:(f.acts.length+1)*32<=140737488355328:=by omega
 have b4:f.acts.length+1<=9223372036854775807:=by omega
 have n0:(n.toNat:Int)=n:=by omega
 by_cases hz:f.acts=[]
 · have ef:(⟨f.d,[]⟩:PF)=f:=by rw[<-hz]
   have hs2:PF.small ⟨f.d,[]⟩:=by rw[ef];exact hs
   have es2:PF.now ⟨f.d,[]⟩=s:=by rw[ef];exact es
   refine Sim.after (wE hΓ (by simp +decide [Zh,rowActs,Zk,hs2,es2,h1,h2,h3,hz];exact wT) ?_);refine Aft.closeR (⟨f.d,f.acts++[.cut n.toNat]⟩:PF) 0 4 (x:=.slice 4 0 1 3 false) rfl (by simp[AW,hz]) (by simp[hz,Zk,FAct.cells,n0]) (by decide) (by simp) (Aft.done (by simp) ⟨by first | exact .inl rfl | exact .inr rfl,_,by simp[Tryz.f250] <;> rfl,Weak.mk' [0] (by decide) rfl (by simp) (zM (b:=0) (by simp) _ _ rfl fun i c x h1 h2=>?_)⟩)
   match i,h1,h2 with
   | 0,h1,h2=>cases h1;cases h2;exact .inl ⟨rfl,rfl⟩
 · refine Sim.after (wE hΓ (by simp +decide [Zh,hs,es,h1,h2,h3,hz,b1,b2,b3,b4];exact wT) ?_)
   refine Aft.closeR (⟨f.d,f.acts++[.cut n.toNat]⟩:PF) 0 5 (x:=.slice 5 0 (f.acts.length+1) 3 false) rfl (by simp[AW]) (by simp[zEO,Zk,FAct.cells,n0]) (by decide) (by simp) (Aft.done (by simp) ⟨by first | exact .inl rfl | exact .inr rfl,_,by simp[Tryz.f250] <;> rfl,Weak.mk' [0] (by decide) rfl (by simp) (zM (b:=0) (by simp) _ _ rfl fun i c x h1 h2=>?_)⟩)
   match i,h1,h2 with
   | 0,h1,h2=>cases h1;cases h2;exact .inl ⟨rfl,rfl⟩
theorem zSh(a:List (List UInt8))(i:Nat)(h:i<a.length):(a.take (i+1)).flatten=(a.take i).flatten++a[i]:=by
 rw[List.take_add_one,q3Z h,sgZ];simp only[Option.toList,rcZ,List.flatten_nil,r2Z]
theorem zPh(f:PF)(a:List (List UInt8))(c:Bool)(hs:f.small)(hm:a.flatten.length<=1000000000000/\a.length<=1000000000000) :
   Ct Pz 100 [.ptr 0 0,.sl 1 0 a.length 1 c] [.obj true f.rblks,.cells false (a.map .str)] (.tuple []) [.obj true (f.add a.flatten).rblks,.cells false (a.map .str)]:=by
 have hΓ:=zH7;have hk:=hs.acts;refine zE Tryz.func100 rfl ?_;simp only[Tryz.ntmps100,q7Z,q8Z,Nat.reduceAdd,Nat.reduceSub,qbZ,q9Z,qaZ];obtain⟨HH,eH⟩:∃HH,[ABlk.obj true f.rblks,.cells false (a.map .str)]=HH:=⟨_,rfl⟩
 refine wS hΓ (by simp;exact wR) ?_;refine Sim.seq (wS hΓ (by simp;exact wR) ?_);refine Sim.block (Sim.loopS (fun i:Nat=>i<=a.length)
   (fun i=>[.ptr 0 0,.sl 1 0 a.length 1 c,.top,.top,.str (a.take i).flatten,.int .i64 i]++qbZ 27 .top)
   (fun _=>HH) (fun i=>a.length-i) 0 (by simp) (by simp) ⟨by simp,eH⟩ fun i hi=>?_)
 rw[<-eH];by_cases hlt:i<a.length
 · have e1:=zSh a i hlt
   have l1:(a.take (i+1)).flatten.length<=a.flatten.length:=by
     have:=congrArg (fun z=>(List.flatten z).length) (r6Z (i+1) a);simp only[sgZ,qdZ]at this;omega
   have y1:IntKind.i64.wrap ((i:Int)+1)=i+1:=zI (by omega) (by omega);obtain⟨u,hu⟩:∃u,(a.take i).flatten=u:=⟨_,rfl⟩
   obtain⟨x,hx⟩:∃x,a[i]=x:=⟨_,rfl⟩
   rw[e1,hu,hx,qdZ]at l1;rw[hu,hx]at e1;rw[hu];have c1:u.length+x.length<=9223372036854775807:=by omega
   refine wE hΓ (by simp +decide [hlt,hx,y1,c1];exact wT) ?_;exact⟨i+1,by omega,⟨by simp[e1],by first | exact eH | rfl⟩,by omega⟩
 have:i=a.length:=by omega
 subst this;refine wE hΓ (by simp;exact wT) ?_;dsimp only;rw[if_pos rfl];obtain⟨m,em⟩:∃m,a.flatten=m:=⟨_,rfl⟩
 rw[em]at hm ⊢;by_cases hm0:m=[]
 · subst hm0
   refine wE hΓ (by simp;exact wT) ?_;exact⟨by first | exact .inl rfl | exact .inr rfl,_,by simp[Tryz.f100] <;> rfl,Weak.mk' [0,1] (by decide) rfl (by simp) (by simp[AWb,PF.add])⟩
 have hadd:f.add m=⟨f.d,f.acts++[.add m]⟩:=by unfold PF.add;rw[if_neg hm0]
 rw[hadd];refine Sim.aft (Aft.open (b:=0) rfl (by simp) (Aft.done (by simp[zY]) ?_));rw[zDv];have b1:f.acts.length*32<=140737488355328:=by omega
 have b2:f.acts.length<=9223372036854775807:=by omega
 have b3:(f.acts.length+1)*32<=140737488355328:=by omega
 have b4:f.acts.length+1<=9223372036854775807:=by omega
 by_cases hz:f.acts=[]
 · refine Sim.after (wE hΓ (by simp +decide [Zk,hm0,hz];exact wT) ?_)
   refine Aft.closeR (⟨f.d,f.acts++[.add m]⟩:PF) 0 5 (x:=.slice 5 0 1 3 false) rfl (by simp[AW,hz]) (by simp[hz,Zk,FAct.cells]) (by decide) (by simp) (Aft.done (by simp) ⟨by first | exact .inl rfl | exact .inr rfl,_,by simp[Tryz.f100] <;> rfl,Weak.mk' [0,1] (by decide) rfl (by simp) (zM (b:=0) (by simp) _ _ rfl fun i c x h1 h2=>?_)⟩)
   match i,h1,h2 with
   | 0,h1,h2=>cases h1;cases h2;exact .inl ⟨rfl,rfl⟩
   | 1,h1,h2=>cases h1;cases h2;exact .inr ⟨⟨by decide,by decide⟩,by simp[AWb]⟩
 · refine Sim.after (wE hΓ (by simp +decide [hm0,hz,b1,b2,b3,b4];exact wT) ?_)
   refine Aft.closeR (⟨f.d,f.acts++[.add m]⟩:PF) 0 6 (x:=.slice 6 0 (f.acts.length+1) 3 false) rfl (by simp[AW]) (by simp[zEO,Zk,FAct.cells]) (by decide) (by simp) (Aft.done (by simp) ⟨by first | exact .inl rfl | exact .inr rfl,_,by simp[Tryz.f100] <;> rfl,Weak.mk' [0,1] (by decide) rfl (by simp) (zM (b:=0) (by simp) _ _ rfl fun i c x h1 h2=>?_)⟩)
   match i,h1,h2 with
   | 0,h1,h2=>cases h1;cases h2;exact .inl ⟨rfl,rfl⟩
   | 1,h1,h2=>cases h1;cases h2;exact .inr ⟨⟨by decide,by decide⟩,by simp[AWb]⟩
end
section
open Go
noncomputable section
open Classical
def zYI:zJ:=zAM zEF PF.rblks fun f xs _=>match xs with
 | [.int .i64 n]=>if f.small then some ((f.cut n).1,.int .i64 (f.cut n).2) else none
 | _=>none
theorem zQo:Sound Pz 250 zYI:=by
 refine zS (zD Tryz.func250 rfl (by decide)) (fun _ _=>zDA) fun f xs H s' v b hg hb=>?_;split at hg;rotate_left
 · cases hg
 split at hg <;> cases hg
 rename_i hs;exact ze (zXn f _ hs) rfl rfl hb
def zQd:zJ:=zAM zEF PF.rblks fun f xs _=>match xs with
 | []=>if f.small then some (⟨f.now,[]⟩,.tuple []) else none
 | _=>none
theorem zO6:Sound Pz 168 zQd:=by
 refine zS (zD Tryz.func168 rfl (by decide)) (fun _ _=>zDA) fun f xs H s' v b hg hb=>?_;split at hg;rotate_left
 · cases hg
 split at hg <;> cases hg
 rename_i hs;exact ze (zUy f hs) rfl rfl hb
def zVP:zJ:=zAM zEF PF.rblks fun f xs _=>match xs with
 | [.int .i64 a,.int .i64 n]=>if f.small then some (f,.tuple [.str (f.readAt a n).1,.int .i64 (f.readAt a n).2]) else none
 | _=>none
theorem zPO:Sound Pz 233 zVP:=by
 refine zS (zD Tryz.func233 rfl (by decide)) (fun _ _=>zDA) fun f xs H s' v b hg hb=>?_;split at hg;rotate_left
 · cases hg
 split at hg <;> cases hg
 rename_i hs;exact ze (zUZ f _ _ hs) rfl rfl hb
def zWH:zJ:=zAM zEF PF.rblks fun f xs H=>match xs with
 | [.slice b2 0 n 1 _c]=>match H.getD b2 .dead with
   | .cells _ l=>match ZY l with
     | some a=>if n=a.length/\f.small/\a.flatten.length<=1000000000000/\a.length<=1000000000000 then some (f.add a.flatten,.tuple []) else none
     | none=>none
   | _=>none
 | _=>none
theorem zQm:Sound Pz 100 zWH:=by
 refine zS (zD Tryz.func100 rfl (by decide)) (fun _ _=>zDA) fun f xs H s' v b hg hb=>?_;split at hg;rotate_left
 · cases hg
 rename_i b2 n c;split at hg;rotate_left
 · cases hg
 rename_i o l hb2;split at hg;rotate_left
 · cases hg
 rename_i a ha;split at hg <;> cases hg
 rename_i hs;obtain⟨rfl,hs,hm⟩:=hs;have hb3:=getD_some hb2 (by simp);rw[zB2 ha]at hb3;refine zH5 (x:=.sl 1 0 a.length 1 c) (zPh f a c hs hm) rfl rfl (by simp[zt,zAT]) hb hb3 ?_;exact⟨rfl,rfl,rfl,rfl,fun h=>h⟩
end
end
section
open Go
attribute [-simp] zH zc zq zK zy
theorem zSI:∀(l:List FAct) (k j:Nat) (h:k<l.length),j<3->(Zk l)[k*3+j]? = (l[k].cells)[j]?
 | a::l,0,j,_,hj=>by
   simp only[Zk,List.getElem_cons_zero];rw[q4Z (by simp;omega)];simp
 | a::l,k+1,j,h,hj=>by
   have:=zSI l k j (by simpa using h) hj;simp only[Zk,List.getElem_cons_succ];rw[<-this,show (k+1)*3+j=a.cells.length+(k*3+j) by simp;omega,q5Z (by omega)];simp
theorem zSO(f:PF)(d p:Int)(hs:f.small) :
   Ct Pz 179 [.ptr 0 0,.agg [.int .i64 d,.int .i64 p]] [.cells false [.str f.d,.sl 1 0 f.acts.length 3 false],.cells false (Zk f.acts)] (.str (f.stays d p)) [.cells false [.str f.d,.sl 1 0 f.acts.length 3 false],.cells false (Zk f.acts)]:=by
 have hΓ:=zPE;obtain⟨hfit,hk,hlen⟩:=hs;refine zE Tryz.func179 rfl ?_;simp only[Tryz.ntmps179,q7Z,q8Z,Nat.reduceAdd,Nat.reduceSub,qbZ,q9Z,qaZ];obtain⟨HH,eH⟩:∃HH,[ABlk.cells false [.str f.d,.sl 1 0 f.acts.length 3 false],.cells false (Zk f.acts),.cells true [.int .i64 d,.int .i64 p]]=HH:=⟨_,rfl⟩
 obtain⟨k,ek⟩:∃k,f.acts.length=k:=⟨_,rfl⟩
 obtain⟨n,en⟩:∃n,(inI d 0 k).toNat=n:=⟨_,rfl⟩
 have en2:max 0 (min d (k:Int))=n:=by unfold inI at en;omega
 have hnk:n<=k:=by unfold inI at en;omega
 obtain⟨T,hT⟩:∃T,f.stays d p=T:=⟨_,rfl⟩
 have hT2:T=zBB f.d (f.acts.take n)++(match f.acts[n]? with
   | some (.add m)=>m.take (inI p 0 m.length).toNat
   | _=>[]):=by
   rw[<-hT];unfold PF.stays;simp only[ek,en]
   all_goals (obtain⟨q,hq⟩:∃q,f.acts[n]? = q:=⟨_,rfl⟩)
   all_goals rw[hq]
   all_goals (rcases q with _ | (_ | _) <;> rfl)
 have hlA:(Zk f.acts).length=k*3:=by simp[ek]
 have gA:=fun i h=>zJL f.acts i h;have gB:=fun i j h hj=>zSI f.acts i j h hj;rw[hT];obtain⟨R,eR⟩:∃R,Zk f.acts=R:=⟨_,rfl⟩
 rw[eR]at hlA gA gB eH ⊢;rw[ek]at eH hk ⊢;have hRR:AWs [0,1] R R:=by rw[<-eR];simp
 refine wS hΓ (by simp;exact wR) ?_;refine wS hΓ (by simp;exact wR) ?_;refine wS hΓ (by simp +decide [-zAx,Zv,zAW,en2];first | exact wR | exact⟨by kernel_rfl,wR⟩) ?_;refine Sim.seq (wS hΓ (by simp;exact wR) ?_);refine Sim.block (Sim.loopS (fun i:Nat=>i<=n)
   (fun i=>[.ptr 0 0,.top,.top,.ptr 2 0,.top,.str (zBB f.d (f.acts.take i)),.int .i64 n,.int .i64 i]++qbZ 65 .top)
   (fun _=>HH) (fun i=>n-i) 0 (by simp) (by simp) ⟨by simp[zBB],eH⟩ fun i hi=>?_)
 rw[<-eH];by_cases hlt:i<n
 · have hik:i<f.acts.length:=by omega
   have hikk:i<k:=by omega
   obtain⟨a,ha⟩:∃a,f.acts[i]=a:=⟨_,rfl⟩
   have g1:=gA i hik;have k1:i*3+3<=k*3:=by omega
   have e1:=zBz f.d f.acts i hik;have l1:=hlen (i+1);have l2:=hlen i;rw[e1]at l1;rw[ha]at g1 e1 l1;have y1:IntKind.i64.wrap ((i:Int)+1)=i+1:=zI (by omega) (by omega);have hfc:=fun n h=>zHx hfit (i:=i) (n:=n) h;rw[q3Z hik,ha]at hfc;obtain⟨u,hu⟩:∃u,zBB f.d (f.acts.take i)=u:=⟨_,rfl⟩
   rw[hu]at e1 l1 l2 hfc ⊢;cases a with
   | add m =>
     simp only[FAct.run,qdZ]at l1;simp only[FAct.cells]at g1;refine wE hΓ (by simp +decide [zG6,hlt,hikk,hlA,g1,k1,y1,l1];exact wT) ?_;exact⟨i+1,by omega,⟨by simp[e1,FAct.run],by first | exact eH | rfl⟩,by omega⟩
   | cut z =>
     simp only[FAct.cells]at g1;have hz:=hfc z rfl;refine wE hΓ (by simp +decide [zG6,hlt,hikk,hlA,g1,k1,y1,hz,l2];exact wT) ?_;exact⟨i+1,by omega,⟨by simp[e1,FAct.run],by first | exact eH | rfl⟩,by omega⟩
 have:i=n:=by omega
 subst this;refine wE hΓ (by simp;exact wT) ?_;dsimp only;rw[if_pos rfl];obtain⟨u,hu⟩:∃u,zBB f.d (f.acts.take i)=u:=⟨_,rfl⟩
 have l2:=hlen i;rw[hu]at hT2 l2 ⊢;by_cases hlast:i<k
 · have hik:i<f.acts.length:=by omega
   obtain⟨a,ha⟩:∃a,f.acts[i]=a:=⟨_,rfl⟩
   have hlast2:(i:Int)<(k:Int):=by omega
   have e1:=zBz f.d f.acts i hik;rw[ha,hu]at e1;have l1:=hlen (i+1);rw[e1]at l1;have b0:=gB i 0 hik (by decide);have b2:=gB i 2 hik (by decide);rw[ha]at b0 b2;rw[q3Z hik,ha]at hT2;have c0:i*3<k*3:=by omega
   have c2:i*3+2<k*3:=by omega
   simp only[Nat.add_zero]at b0;cases a with
   | add m =>
     simp only[FAct.run,qdZ]at l1;simp only[FAct.cells,raZ,r9Z]at b0 b2;have b0':∀h,R[i*3]'h=.bool false:=fun h=>by rw[q3Z h]at b0;exact Option.some.inj b0
     have b2':∀h,R[i*3+2]'h=.str m:=fun h=>by rw[q3Z h]at b2;exact Option.some.inj b2
     simp only at hT2;obtain⟨z,hz⟩:∃z,(inI p 0 m.length).toNat=z:=⟨_,rfl⟩
     rw[hz]at hT2;have hz2:max 0 (min p (m.length:Int))=z:=by unfold inI at hz;omega
     have hz3:z<=m.length:=by unfold inI at hz;omega
     have c5:u.length+z<=9223372036854775807:=by omega
     refine wE hΓ (by simp +decide [-zAx,Zv,zAW,hlast,hlA,b0',b2',c0,c2,hz2,hz3,c5];first | exact⟨rfl,rfl,rfl⟩ | exact⟨by kernel_rfl,rfl,rfl,rfl⟩) ?_;exact⟨.inr rfl,_,by simp[Tryz.f179] <;> rfl,Weak.mk' [0,1] (by decide) rfl (by simp[hT2]) (by simp[AWb,hRR])⟩
   | cut z =>
     simp only[FAct.cells,raZ,r9Z]at b0 b2;have b0':∀h,R[i*3]'h=.bool true:=fun h=>by rw[q3Z h]at b0;exact Option.some.inj b0
     simp only[r2Z]at hT2;refine wE hΓ (by simp +decide [hlast,hlA,b0',c0];first | exact⟨rfl,rfl,rfl⟩ | exact⟨by kernel_rfl,rfl,rfl,rfl⟩) ?_;exact⟨.inr rfl,_,by simp[Tryz.f179] <;> rfl,Weak.mk' [0,1] (by decide) rfl (by simp[hT2]) (by simp[AWb,hRR])⟩
 · have ha:f.acts[i]? = none:=s4Z (by omega)
   rw[ha]at hT2;simp only[r2Z]at hT2;refine wE hΓ (by simp[hlast];exact wT) ?_;exact⟨.inr rfl,_,by simp[Tryz.f179] <;> rfl,Weak.mk' [0,1] (by decide) rfl (by simp[hT2]) (by simp[AWb,hRR])⟩
end
section
open Go
attribute [-simp] zH zc zq zK zy
theorem zS8(f:PF)(d p:Int)(hok:f.small){H:zA}{b r:Nat}{o o2:Bool}(hb:H[b]? = some (.cells o [.str f.d,.sl r 0 f.acts.length 3 false]))(hr:H[r]? = some (.cells o2 (Zk f.acts)))(hne:b≠r) :
   Ct Pz 179 [.ptr b 0,.agg [.int .i64 d,.int .i64 p]] H (.str (f.stays d p)) H:=by
 have hbl:b<H.length:=(q1Z.1 hb).1;have hrl:r<H.length:=(q1Z.1 hr).1;have:=zP (H:=H) (args:=[.ptr b 0,.agg [.int .i64 d,.int .i64 p]]) (zSO f d p hok) [b,r] (by simp[hne]) ⟨⟨rfl,rfl⟩,zG9 [.agg [.int .i64 d,.int .i64 p]] rfl⟩ ⟨by rw[q2Z,hb];exact⟨by simp,rfl,⟨rfl,rfl,rfl,rfl,fun h=>h⟩,trivial⟩,hbl,by rw[q2Z,hr];exact⟨by simp,zJg _⟩,hrl,trivial⟩ rfl;simpa[zN,ABlk.own,reB,reA] using this
noncomputable section
open Classical
def zGS:zJ:=fun args H=>match args with
 | [.ptr b 0,.agg [.int .i64 x,.int .i64 p]]=>match H.getD b .dead with
   | .cells _ [.str d,.sl r 0 n 3 false]=>match H.getD r .dead with
     | .cells _ l=>match rowActs l with
       | some a=>if n=a.length/\b≠r/\PF.small ⟨d,a⟩ then some (.str (PF.stays ⟨d,a⟩ x p),H,[]) else none
       | none=>none
     | _=>none
   | _=>none
 | _=>none
end
theorem zMz:Sound Pz 179 zGS:=by
 refine ⟨zD Tryz.func179 rfl (by decide),fun args H v H' W h=>?_,fun args H v H' W h=>?_⟩
 · unfold zGS at h
   split at h <;> try cases h
   rename_i b x p;split at h <;> try cases h
   rename_i d r n hb;split at h <;> try cases h
   rename_i l hr;split at h <;> try cases h
   rename_i a ha;split at h <;> cases h
   rename_i hc;obtain⟨rfl,hne,hs⟩:=hc;rw[zFZ ha]at hr;exact zS8 ⟨d,a⟩ x p hs (getD_some hb (by simp)) (getD_some hr (by simp)) hne
 · unfold zGS at h
   split at h <;> try cases h
   split at h <;> try cases h
   split at h <;> try cases h
   split at h <;> try cases h
   split at h <;> cases h
   exact⟨qnZ _,fun _ _ _=>rfl⟩
theorem zXA:GOk Pz (zAV Pz (zZ [(179,zGS)]) 0 [] 4):=zp hmix (zB zMz zC) 0 [] 4
theorem zVb(f:PF)(d p:Int)(hs:f.small):Ct Pz 82 [.ptr 0 0,.agg [.int .i64 d,.int .i64 p]] [.obj true f.rblks] (.tuple []) [.obj true (⟨f.stays d p,[]⟩:PF).rblks]:=by
 refine zE Tryz.func82 rfl ?_;simp only[Tryz.ntmps82,q7Z,q8Z,Nat.reduceAdd,Nat.reduceSub,qbZ,q9Z,qaZ];refine Sim.aft (Aft.open (b:=0) rfl (by simp) (Aft.done (by simp[zY]) ?_));rw[zDv];refine Sim.after (wE zXA (by simp[zGS,hs];exact wT) ?_);refine Aft.closeR ⟨f.stays d p,[]⟩ 0 3 (x:=.nils) rfl (by simp[AW]) (by simp) (by decide) (by simp) (Aft.done (by simp) ⟨by first | exact .inl rfl | exact .inr rfl,_,by simp[Tryz.f82] <;> rfl,Weak.mk' [0] (by decide) rfl (by simp) (zM (b:=0) (by simp) _ _ rfl fun i c x h1 h2=>?_)⟩)
 match i,h1,h2 with
 | 0,h1,h2=>cases h1;cases h2;exact .inl ⟨rfl,rfl⟩
noncomputable def zP0:zJ:=zAM zEF PF.rblks fun f xs _=>match xs with
 | [.agg [.int .i64 d,.int .i64 p]]=>open Classical in if f.small then some (⟨f.stays d p,[]⟩,.tuple []) else none
 | _=>none
theorem zPD:Sound Pz 82 zP0:=by
 refine zS (zD Tryz.func82 rfl (by decide)) (fun _ _=>zDA) fun f xs H s' v b hg hb=>?_;split at hg;rotate_left
 · cases hg
 split at hg <;> cases hg
 rename_i hs;exact ze (zVb f _ _ hs) rfl rfl hb
end
end Go.Proofs.YtfhidaoiofeooaaGreatDoor
