/- Parts of the proof of ReplayMends: lemmas, each with its own conditions. -/
import Derived.Test.YtpmfecnajoojeaaGreatDoorY12
set_option maxHeartbeats 64000000
open List renaming getElem?_eq_some_iff → q1Z, getD_eq_getElem?_getD → q2Z, getElem?_eq_getElem → q3Z, getElem?_append_left → q4Z, getElem?_append_right → q5Z, take_of_length_le → q6Z, length_cons → q7Z, length_nil → q8Z, cons_append → q9Z, nil_append → qaZ, replicate → qbZ, length_append → qdZ, getElem?_set_ne → qfZ, length_take → qjZ, getElem?_map → qzZ, append_nil → r2Z, take_append_drop → r6Z, getElem?_eq_none → s4Z
open Nat renaming le_refl → qnZ, lt_or_ge → s2Z, min_eq_left → sfZ
open Bool renaming and_eq_true → qrZ
namespace Go.Proofs.YtpmfecnajoojeaaGreatDoor
open _root_.Go.Proofs.Tryz renaming prog → Pz
set_option maxRecDepth 100000
section
open Go
theorem zLj{rn:List Nat}:∀(x:AV),zBz x=true->AW rn x x
 | .bool _,_ | .int _ _,_ | .str _,_ | .nilp,_ | .nils,_ | .nilm,_ | .nilf,_=>by simp[AW]
def Z4(l:List AV):Bool:=l.all zBz
theorem zBs{rn:List Nat}:∀(l:List AV),Z4 l=true->AWs rn l l
 | [],_=>trivial
 | x::l,h=>by
   simp only[Z4,List.all_cons,qrZ]at h;exact⟨zLj x h.1,zBs l h.2⟩
theorem zND(g:Nat->Nat){x:AV}(h:zBz x=true):reA g x=x:=by cases x <;> simp_all [zBz,reA]
def zEo:AV->Bool
 | .tuple l=>Z4 l
 | .agg l=>Z4 l
 | x=>zBz x
theorem zCY(g:Nat->Nat):∀(l:List AV),Z4 l=true->Zo g l=l
 | [],_=>rfl
 | x::l,h=>by
   simp only[Z4,List.all_cons,qrZ]at h;simp only[Zo,zND g h.1,zCY g l h.2]
theorem zEU(g:Nat->Nat){x:AV}(h:zEo x=true):reA g x=x:=by
 cases x <;> first | exact zND g h | (simp only[reA];rw[zCY g _ h])
def zOl(l:List AV):Bool:=l.all zEo
theorem zFX{rn:List Nat}(x:AV)(h:zEo x=true):AW rn x x:=by
 cases x <;> first | exact zLj _ h | exact zBs _ h
theorem zJu{rn:List Nat}:∀(l:List AV),zOl l=true->AWs rn l l
 | [],_=>trivial
 | x::l,h=>by
   simp only[zOl,List.all_cons,qrZ]at h;exact⟨zFX x h.1,zJu l h.2⟩
theorem ZM{P:Program}{f:FuncId}{xs:List AV}{s s':zA}{v:AV}(h:Ct P f (.ptr 0 0::xs) [.obj true s] v [.obj true s'])(hx:zOl xs=true)(hv:zEo v=true){H:zA}{b:Nat}(hb:H[b]? = some (.obj true s)) :
   Ct P f (.ptr b 0::xs) H v (H.set b (.obj true s')):=by
 have hbl:b<H.length:=(q1Z.1 hb).1
 have:=ZE (H:=H) (args:=.ptr b 0::xs) h [b] (by simp) ⟨⟨rfl,rfl⟩,zJu xs hx⟩ ⟨by rw[q2Z,hb];exact⟨rfl,rfl⟩,hbl,trivial⟩ rfl
 rw[zEU _ hv]at this;simpa[zf,ABlk.own,reB] using this
theorem zU1{P:Program}{f:FuncId}{x:AV}{y:AV}{xs:List AV}{s s':zA}{l:List AV}{v:AV}(h:Ct P f (.ptr 0 0::x::xs) [.obj true s,.cells false l] v [.obj true s',.cells false l])(hx:Z4 xs=true)(hv:zEo v=true)(hl:Z4 l=true){H:zA}{b b2:Nat}{o:Bool}(hb:H[b]? = some (.obj true s))(hb2:H[b2]? = some (.cells o l))(hy:AW [b,b2] x y) :
   Ct P f (.ptr b 0::y::xs) H v (H.set b (.obj true s')):=by
 have hbl:b<H.length:=(q1Z.1 hb).1;have hbl2:b2<H.length:=(q1Z.1 hb2).1
 have hne:b≠b2:=by rintro rfl;rw[hb]at hb2;cases hb2
 have:=ZE (H:=H) (args:=.ptr b 0::y::xs) h [b,b2] (by simp[hne]) ⟨⟨rfl,rfl⟩,hy,zBs xs hx⟩ ⟨by rw[q2Z,hb];exact⟨rfl,rfl⟩,hbl,by rw[q2Z,hb2];exact⟨by simp,zBs l hl⟩,hbl2,trivial⟩ rfl
 rw[zEU _ hv]at this;simpa[zf,ABlk.own,reB] using this
def zBv{σ:Type}(dec:zA->Option σ)(enc:σ->zA)(g:σ->List AV->zA->Option (σ×AV)):zc:=fun args H=>match args with
 | .ptr b 0::xs=>match H[b]? with
   | some (.obj true sub)=>match dec sub with
     | some s=>match g s xs H with
       | some (s',v)=>some (v,H.set b (.obj true (enc s')),[b])
       | none=>none
     | none=>none
   | _=>none
 | _=>none
theorem zr{P:Program}{f:FuncId}{σ:Type}{dec:zA->Option σ}{enc:σ->zA}{g:σ->List AV->zA->Option (σ×AV)}(he:∀cargs w,(callFunc f cargs).run P w=.ok (.enter f cargs) w)(hd:∀sub s,dec sub=some s->sub=enc s)
   (h:∀s xs H s' v b,g s xs H=some (s',v)->H[b]? = some (.obj true (enc s))->Ct P f (.ptr b 0::xs) H v (H.set b (.obj true (enc s')))):Sound P f (zBv dec enc g):=by
 have key:∀args H v H' W,zBv dec enc g args H=some (v,H',W)->∃b xs s s',args=.ptr b 0::xs/\H[b]? = some (.obj true (enc s))/\g s xs H=some (s',v)/\H'=H.set b (.obj true (enc s'))/\W=[b]:=by
   intro args H v H' W hs;unfold zBv at hs;split at hs;rotate_left
   · cases hs
   rename_i b xs;split at hs;rotate_left
   · cases hs
   rename_i sub hb;split at hs;rotate_left
   · cases hs
   rename_i s hds;split at hs;rotate_left
   · cases hs
   rename_i s' v' hg;cases hs;have:=hd sub s hds;subst this;exact⟨b,xs,s,s',rfl,hb,hg,rfl,rfl⟩
 refine ⟨he,fun args H v H' W hs=>?_,fun args H v H' W hs=>?_⟩
 · obtain⟨b,xs,s,s',rfl,h1,h2,rfl,rfl⟩:=key args H v H' W hs
   exact h s xs H s' v b h2 h1
 · obtain⟨b,xs,s,s',rfl,h1,h2,rfl,rfl⟩:=key args H v H' W hs
   refine ⟨by simp,fun c hc hn=>?_⟩
   rw[qfZ (fun e=>hn (by simp[e]))]
attribute [simp] zBv
end
section
open Go
attribute [-simp] zJ zY zn zL zl
theorem Aft.closeD{n0:Nat}{F:List AV}{H:zA}{K:List AV->zA->Prop}(s:List UInt8)(b:Nat)(hb:H[b]? = some (.cells true [.str s,.nils,.str s]))(hn:n0<=H.length)
   (h:Aft n0 F (zy H b [H.length] true (⟨s,[]⟩:PF).blks) K):Aft n0 F H K:=by
 have hbl:b<H.length:=(q1Z.1 hb).1
 exact Aft.closeF (⟨s,[]⟩:PF) b H.length [] (x:=.nils) (o:=true) hb rfl (fun h=>absurd h (by omega)) rfl (by simp) (by simp;omega) hn h
theorem zTo(f:PF):Ct Pz 184 [.ptr 0 0] [.obj true f.blks] (.int .i64 0) [.obj true (⟨f.now,[]⟩:PF).blks]:=by
 have hΓ:=zCD;refine zK Tryz.func184 rfl ?_;simp only[Tryz.ntmps184,q7Z,q8Z,Nat.reduceAdd,Nat.reduceSub,qbZ,q9Z,qaZ]
 refine Sim.aft (Aft.open (b:=0) rfl (by simp) (Aft.done (by simp[ZD]) ?_))
 rw[zEC];obtain⟨R,eR⟩:∃R,zAp (List.length ([]:zA)+2) f.acts=R:=⟨_,rfl⟩;obtain⟨X,eX⟩:∃X,f.acts.map FAct.box=X:=⟨_,rfl⟩;rw[eR,eX]
 refine Sim.step hmix hΓ (n:=0) (by simp;exact⟨rfl,rfl⟩) (by simp) ?_
 refine Sim.step hmix hΓ (n:=0) (by simp;exact⟨rfl,rfl⟩) (by simp) ?_
 refine Sim.step hmix hΓ (n:=0) (by simp[zGv,Tryz.f142];exact⟨rfl,rfl⟩) (by simp) ?_
 refine Sim.aft (Aft.closeD f.now 0 rfl (by simp) (Aft.weak (Fn:=qbZ 11 .top) (Hn:=[.obj true (⟨f.now,[]⟩:PF).blks]) (Weak.mk' [0] (by decide) (by decide) (zAh _ _ _ rfl) (zT (b:=0) (by simp) _ _ rfl fun i c x h1 h2=>?_)) (by simp) (Aft.done (by simp) ?_)))
 · match i,h1,h2 with
   | 0,h1,h2=>cases h1;cases h2;exact .inl ⟨rfl,rfl⟩
 refine Sim.exec hmix hΓ (n:=0) (by simp;exact⟨rfl,rfl,rfl⟩) (by simp) ?_
 exact⟨.inr rfl,_,by simp[Tryz.f184] <;> rfl,Weak.mk' [0] (by decide) (by decide) (by simp) (by simp[AWb])⟩
structure PF.ok (f:PF) (B:Nat):Prop where
 fits:fits f.d f.acts
 acts:f.acts.length<=B
 len:∀i,(zA2 f.d (f.acts.take i)).length<=B
def inI(n a b:Int):Int:=max a (min n b)
def PF.stays(f:PF)(done part:Int):List UInt8 :=
 let n:=(inI done 0 f.acts.length).toNat
 zA2 f.d (f.acts.take n)++(match f.acts[n]? with
   | some (.add m)=>m.take (inI part 0 m.length).toNat
   | _=>[])
theorem zGD(s:List UInt8)(l:List FAct)(i:Nat)(h:i<l.length):zA2 s (l.take (i+1))=l[i].run (zA2 s (l.take i)):=by
 rw[List.take_succ_eq_append_getElem h,zD3];rfl
theorem zQP{s:List UInt8}{l:List FAct}(h:fits s l){i n:Nat}(hi:l[i]? = some (.cut n)):n<=(zA2 s (l.take i)).length:=by
 have hil:i<l.length:=(q1Z.1 hi).1
 have e:l=l.take i++l[i]::l.drop (i+1):=by rw[<-List.drop_eq_getElem_cons hil,r6Z]
 rw[e,zGr]at h;have h2:=h.2
 have:l[i]=.cut n:=by rw[q3Z hil]at hi;exact Option.some.inj hi
 rw[this]at h2;exact h2.1
def zGi:ABlk->Option AV
 | .obj false [.cells true [x]]=>some x
 | _=>none
theorem zMN{B:ABlk}{x:AV}(h:zGi B=some x):B=.obj false [.cells true [x]]:=by
 unfold zGi at h
 split at h <;> cases h
 rfl
def zR0:zc:=fun args H=>match args with
 | [.str s,.int .i64 p,.ptr b 0]=>match zGi (H.getD b .dead) with
   | some (.str m)=>if s.length+m.length<=1000000000000 then some (.str (s++m.take (inI p 0 m.length).toNat),H,[]) else none
   | _=>none
 | _=>none
def zEF:zc:=fun args H=>match args with
 | [.str s,.int .i64 p,.ptr b 0]=>match zGi (H.getD b .dead) with
   | some (.int .i64 n)=>if 0<=n/\n<=s.length then some (.str (if p<4611686018427387904 then s else s.take n.toNat),H,[]) else none
   | _=>none
 | _=>none
theorem zQC{P:Program}{f:FuncId}{xs:List AV}{s:zA}{v:AV}(h:Ct P f (xs++[.ptr 0 0]) [.obj false s] v [.obj false s])(hx:Z4 xs=true)(hv:zEo v=true){H:zA}{b:Nat}(hb:H[b]? = some (.obj false s)) :
   Ct P f (xs++[.ptr b 0]) H v H:=by
 have hbl:b<H.length:=(q1Z.1 hb).1
 have ha:∀ys:List AV,Z4 ys=true->AWs [b] (ys++[.ptr 0 0]) (ys++[.ptr b 0]):=by
   intro ys
   induction ys with
   | nil=>intro _;exact⟨⟨rfl,rfl⟩,trivial⟩
   | cons y ys ih =>
     intro h;simp only[Z4,List.all_cons,qrZ]at h;exact⟨zLj y h.1,ih h.2⟩
 have:=ZE (H:=H) (args:=xs++[.ptr b 0]) h [b] (by simp) (ha xs hx) ⟨by rw[q2Z,hb];exact⟨rfl,rfl⟩,hbl,trivial⟩ rfl
 rw[zEU _ hv]at this;simpa[zf,ABlk.own,reB] using this
theorem zWv(s m:List UInt8)(p:Int)(hl:s.length+m.length<=1000000000000):Ct Pz 207 [.str s,.int .i64 p,.ptr 0 0] [.obj false [.cells true [.str m]]] (.str (s++m.take (inI p 0 m.length).toNat)) [.obj false [.cells true [.str m]]]:=by
 obtain⟨z,hz⟩:∃z,(inI p 0 m.length).toNat=z:=⟨_,rfl⟩
 have hz2:max 0 (min p (m.length:Int))=z:=by unfold inI at hz;omega
 have hz3:z<=m.length:=by unfold inI at hz;omega
 have hz4:(z:Int)<=(m.length:Int):=by omega
 have c1:m.length<=9223372036854775807:=by omega
 have c4:s.length+(m.take z).length<=9223372036854775807:=by simp;omega
 have c5:s.length+z<=9223372036854775807:=by omega
 rw[hz];refine zB8 hmix zCD (n:=0) Tryz.func207 ?_;unfold Tryz.f207
 exact⟨_,_,(by simp +decide [-zCG,zBJ,zFZ,zGv,Tryz.f141,hz2,hz3,hz4,c5];exact⟨rfl,rfl⟩),Weak.mk' [0] (by decide) rfl (by simp) (by simp[AWb])⟩
theorem zRz(s:List UInt8)(n p:Int)(h0:0<=n)(h1:n<=s.length):Ct Pz 234 [.str s,.int .i64 p,.ptr 0 0] [.obj false [.cells true [.int .i64 n]]] (.str (if p<4611686018427387904 then s else s.take n.toNat)) [.obj false [.cells true [.int .i64 n]]]:=by
 refine zB8 hmix zCD (n:=0) Tryz.func234 ?_;unfold Tryz.f234;by_cases hp:p<4611686018427387904
 · rw[if_pos hp]
   exact⟨_,_,(by simp +decide [hp];exact⟨rfl,rfl⟩),Weak.mk' [0] (by decide) rfl (by simp) (by simp[AWb])⟩
 · rw[if_neg hp]
   exact⟨_,_,(by simp +decide [hp,h0,h1];exact⟨rfl,rfl⟩),Weak.mk' [0] (by decide) rfl (by simp) (by simp[AWb])⟩
theorem zRx:Sound Pz 207 zR0:=by
 refine ⟨zH Tryz.func207 rfl (by decide),fun args H v H' W h=>?_,fun args H v H' W h=>?_⟩
 · unfold zR0 at h
   split at h <;> try cases h
   rename_i s p b
   split at h <;> try cases h
   rename_i m hb
   split at h <;> cases h
   rename_i hl
   have hb2:H[b]? = some (.obj false [.cells true [.str m]]):=by
     have:=zMN hb;rw[q2Z]at this
     cases hx:H[b]? with
     | none=>rw[hx]at this;cases this
     | some y=>rw[hx]at this;exact congrArg some this
   exact zQC (xs:=[.str s,.int .i64 p]) (zWv s m p hl) rfl rfl hb2
 · unfold zR0 at h
   split at h <;> try cases h
   split at h <;> try cases h
   split at h <;> cases h
   exact⟨qnZ _,fun _ _ _=>rfl⟩
theorem zK6:Sound Pz 234 zEF:=by
 refine ⟨zH Tryz.func234 rfl (by decide),fun args H v H' W h=>?_,fun args H v H' W h=>?_⟩
 · unfold zEF at h
   split at h <;> try cases h
   rename_i s p b
   split at h <;> try cases h
   rename_i n hb
   split at h <;> cases h
   rename_i hl
   have hb2:H[b]? = some (.obj false [.cells true [.int .i64 n]]):=by
     have:=zMN hb;rw[q2Z]at this
     cases hx:H[b]? with
     | none=>rw[hx]at this;cases this
     | some y=>rw[hx]at this;exact congrArg some this
   exact zQC (xs:=[.str s,.int .i64 p]) (zRz s n p hl.1 hl.2) rfl rfl hb2
 · unfold zEF at h
   split at h <;> try cases h
   split at h <;> try cases h
   split at h <;> cases h
   exact⟨qnZ _,fun _ _ _=>rfl⟩
def zG3:List FuncId:=[141,142]
theorem zVe:GOk Pz (zAL Pz (zv [(207,zR0),(234,zEF)]) 0 zG3 4):=zq hmix (zC zRx (zC zK6 zD)) 0 zG3 4
theorem zTS(f:PF)(done part:Int)(hok:f.ok 1000000000000)(hp:part<=4611686018427387903) :
   Ct Pz 74 [.ptr 0 0,.agg [.int .i64 done,.int .i64 part]] [.obj true f.blks] (.int .i64 0) [.obj true (⟨f.stays done part,[]⟩:PF).blks]:=by
 have hΓ:=zVe;refine zK Tryz.func74 rfl ?_;simp only[Tryz.ntmps74,q7Z,q8Z,Nat.reduceAdd,Nat.reduceSub,qbZ,q9Z,qaZ]
 refine Sim.aft (Aft.open (b:=0) rfl (by simp) (Aft.done (by simp[ZD]) ?_))
 rw[zEC];obtain⟨hfit,hk,hlen⟩:=hok;obtain⟨R,eR⟩:∃R,zAp (List.length ([]:zA)+2) f.acts=R:=⟨_,rfl⟩;obtain⟨X,eX⟩:∃X,f.acts.map FAct.box=X:=⟨_,rfl⟩
 have hR:R.length=f.acts.length:=by rw[<-eR];simp
 have hX:X.length=f.acts.length:=by rw[<-eX];simp
 have eR2:R=zAp 2 f.acts:=by rw[<-eR];rfl
 have gR:∀(i:Nat) (a:FAct),f.acts[i]? = some a->∀h,R[i]'h=a.fn (i+2):=by
   intro i a hi h;have hil:i<f.acts.length:=(q1Z.1 hi).1;have:=zNJ f.acts 2 i hil;rw[<-eR2,q3Z h]at this;rw[q3Z hil]at hi;rw[Option.some.inj this,Option.some.inj hi,Nat.add_comm]
 have gX:∀(i:Nat) (a:FAct),f.acts[i]? = some a->X[i]? = some a.box:=by
   intro i a hi
   rw[<-eX,qzZ,hi];rfl
 rw[eR,eX];obtain⟨k,ek⟩:∃k,f.acts.length=k:=⟨_,rfl⟩;rw[ek]at hR hX hk ⊢;obtain⟨s,es⟩:∃s,f.now=s:=⟨_,rfl⟩;rw[es]
 refine Sim.step hmix hΓ (n:=0) (by simp;exact⟨rfl,rfl⟩) (by simp) ?_
 refine Sim.step hmix hΓ (n:=0) (by simp;exact⟨rfl,rfl⟩) (by simp) ?_
 refine Sim.step hmix hΓ (n:=0) (by simp;exact⟨rfl,rfl⟩) (by simp) ?_
 obtain⟨n,en⟩:∃n,(inI done 0 k).toNat=n:=⟨_,rfl⟩
 have en2:max 0 (min done (k:Int))=n:=by unfold inI at en;omega
 have hnk:n<=k:=by unfold inI at en;omega
 have hnk2:(n:Int)<=(k:Int):=by omega
 refine Sim.step hmix hΓ (n:=0) (by simp +decide [-zCG,zBJ,zFZ,zG3,Tryz.f141,hX,en2];first | exact⟨rfl,rfl⟩ | exact⟨by kernel_rfl,rfl,rfl⟩) (by simp) ?_
 refine Sim.seq (Sim.step hmix hΓ (n:=0) (by simp[hnk2];exact⟨rfl,rfl⟩) (by simp) ?_)
 obtain⟨HH,eH⟩:∃HH,(ABlk.cells true [AV.str f.d,AV.sl 1 0 k 1 false,AV.str s]::ABlk.cells true R::(X++[ABlk.cells true [AV.int IntKind.i64 done,AV.int IntKind.i64 part]]):zA)=HH:=⟨_,rfl⟩
 refine Sim.block (Sim.loopS (fun i:Nat=>i<=n)
   (fun i=>[.ptr 0 0,.top,.top,.ptr (k+1+1) 0,.int .i64 0,.str (zA2 f.d (f.acts.take i)),.int .i64 n]++qbZ 21 .top++[.sl 1 0 n 1 false,.int .i64 n,.int .i64 i]++qbZ 29 .top)
   (fun _=>HH) (fun i=>n-i) 0 (by simp) (by simp) ⟨by simp[zA2],eH⟩ fun i hi=>?_)
 by_cases hlt:i<n
 · have hik:i<f.acts.length:=by omega
   obtain⟨a,ha⟩:∃a,f.acts[i]? = some a:=⟨_,q3Z hik⟩
   have hae:f.acts[i]=a:=by rw[q3Z hik]at ha;exact Option.some.inj ha
   have q1:=gR i a ha;have q2:=gX i a ha
   have hiR:i<R.length:=by omega
   have hiX:i<X.length:=by omega
   have q3:(X++[ABlk.cells true [AV.int IntKind.i64 done,AV.int IntKind.i64 part]])[i]? = some a.box:=by rw[q4Z hiX];exact q2
   have e1:=zGD f.d f.acts i hik;rw[hae]at e1;have l1:=hlen (i+1);have l2:=hlen i;rw[e1]at l1
   have y1:IntKind.i64.wrap ((i:Int)+1)=i+1:=zX (by omega) (by omega)
   have hfc:=fun n h=>zQP hfit (i:=i) (n:=n) h
   obtain⟨u,hu⟩:∃u,zA2 f.d (f.acts.take i)=u:=⟨_,rfl⟩;rw[hu]at e1 l1 l2 hfc ⊢;rw[<-eH]
   cases a with
   | add m =>
     simp only[FAct.run,qdZ]at l1;simp only[FAct.fn]at q1;simp only[FAct.box]at q3
     have c5:u.length+m.length<=1000000000000:=by omega
     have c6:m.take (inI 4611686018427387904 0 m.length).toNat=m:=q6Z (by unfold inI;omega)
     refine Sim.exec hmix hΓ (n:=0) (by simp +decide [zG3,zR0,zGi,hlt,hiR,q1,q3,y1,c5,c6];exact⟨rfl,rfl,rfl⟩) (by simp) ?_
     exact⟨i+1,by omega,⟨by simp[e1,FAct.run],by first | exact eH | rfl⟩,by omega⟩
   | cut z =>
     simp only[FAct.fn]at q1;simp only[FAct.box]at q3;have hz:=hfc z ha
     refine Sim.exec hmix hΓ (n:=0) (by simp +decide [zG3,zEF,zGi,hlt,hiR,q1,q3,y1,hz];exact⟨rfl,rfl,rfl⟩) (by simp) ?_
     exact⟨i+1,by omega,⟨by simp[e1,FAct.run],by first | exact eH | rfl⟩,by omega⟩
 have:i=n:=by omega
 subst this;rw[<-eH]
 refine Sim.exec hmix hΓ (n:=0) (by simp;exact⟨rfl,rfl,rfl⟩) (by simp) ?_
 dsimp only;rw[if_pos rfl];obtain⟨T,hT⟩:∃T,f.stays done part=T:=⟨_,rfl⟩
 have hT2:T=zA2 f.d (f.acts.take i)++(match f.acts[i]? with
   | some (.add m)=>m.take (inI part 0 m.length).toNat
   | _=>[]):=by rw[<-hT];unfold PF.stays;simp only[ek,en]
 rw[hT];obtain⟨u,hu⟩:∃u,zA2 f.d (f.acts.take i)=u:=⟨_,rfl⟩;have l2:=hlen i;rw[hu]at hT2 l2 ⊢
 have q4:(X++[ABlk.cells true [AV.int IntKind.i64 done,AV.int IntKind.i64 part]])[k]? = some (ABlk.cells true [AV.int IntKind.i64 done,AV.int IntKind.i64 part]):=by rw[<-hX,q5Z (qnZ _)];simp
 refine Sim.seq (Sim.mono (Q:=fun e F' H'=>e=.normal/\LessF ([.ptr 0 0]++qbZ 4 .top++[.str T]++qbZ 54 .top) F'/\H'=ABlk.cells true [AV.str f.d,AV.sl 1 0 k 1 false,AV.str s]::ABlk.cells true R::(X++[ABlk.cells true [AV.int IntKind.i64 done,AV.int IntKind.i64 part]])) ?_ ?_)
 · by_cases hlast:i<k
   · have hik:i<f.acts.length:=by omega
     obtain⟨a,ha⟩:∃a,f.acts[i]? = some a:=⟨_,q3Z hik⟩
     have hae:f.acts[i]=a:=by rw[q3Z hik]at ha;exact Option.some.inj ha
     have q1:=gR i a ha;have q2:=gX i a ha
     have hiR:i<R.length:=by omega
     have hiX:i<X.length:=by omega
     have q3:(X++[ABlk.cells true [AV.int IntKind.i64 done,AV.int IntKind.i64 part]])[i]? = some a.box:=by rw[q4Z hiX];exact q2
     have e1:=zGD f.d f.acts i hik;rw[hae,hu]at e1;have l1:=hlen (i+1);rw[e1]at l1
     have hlast2:(i:Int)<(k:Int):=by omega
     have p1:min part 4611686018427387903=part:=by omega
     rw[ha]at hT2
     cases a with
     | add m =>
       simp only[FAct.run,qdZ]at l1;simp only[FAct.fn]at q1;simp only[FAct.box]at q3;simp only at hT2;obtain⟨z,hz⟩:∃z,(inI part 0 m.length).toNat=z:=⟨_,rfl⟩;rw[hz]at hT2
       have c5:u.length+m.length<=1000000000000:=by omega
       refine Sim.exec hmix hΓ (n:=0) (by simp +decide [-zCG,zBJ,zG3,zR0,zGi,hlast,hiR,q1,q3,q4,p1,hz,c5];exact⟨by kernel_rfl,rfl,rfl,rfl⟩) (by simp) ?_
       exact⟨rfl,by simp[hT2],rfl⟩
     | cut z =>
       simp only[FAct.fn]at q1;simp only[FAct.box]at q3;simp only[r2Z]at hT2
       have p2:part<4611686018427387904:=by omega
       have hz:=zQP hfit ha;rw[hu]at hz
       refine Sim.exec hmix hΓ (n:=0) (by simp +decide [-zCG,zBJ,zG3,zEF,zGi,hlast,hiR,q1,q3,q4,p1,p2,hz];exact⟨by kernel_rfl,rfl,rfl,rfl⟩) (by simp) ?_
       exact⟨rfl,by simp[hT2],rfl⟩
   · have ha:f.acts[i]? = none:=s4Z (by omega)
     rw[ha]at hT2;simp only[r2Z]at hT2
     refine Sim.exec hmix hΓ (n:=0) (by simp[hlast];exact⟨rfl,rfl,rfl⟩) (by simp) ?_
     exact⟨rfl,by simp[hT2],rfl⟩
 rintro e F' H' hl ⟨rfl,hF,rfl⟩;dsimp only;refine Sim.less hF ?_
 refine Sim.step hmix hΓ (n:=0) (by simp[zG3,Tryz.f142];exact⟨rfl,rfl⟩) (by simp) ?_
 refine Sim.aft (Aft.closeD T 0 rfl (by simp) (Aft.weak (Fn:=qbZ 60 .top) (Hn:=[.obj true (⟨T,[]⟩:PF).blks]) (Weak.mk' [0] (by decide) (by decide) (zAh _ _ _ rfl) (zT (b:=0) (by simp) _ _ rfl fun i c x h1 h2=>?_)) (by simp) (Aft.done (by simp) ?_)))
 · match i,h1,h2 with
   | 0,h1,h2=>cases h1;cases h2;exact .inl ⟨rfl,rfl⟩
 refine Sim.exec hmix hΓ (n:=0) (by simp;exact⟨rfl,rfl,rfl⟩) (by simp) ?_
 exact⟨.inr rfl,_,by simp[Tryz.f74] <;> rfl,Weak.mk' [0] (by decide) (by decide) (by simp) (by simp[AWb])⟩
theorem blks_head(f:PF):∃B,f.blks=.cells true [.str f.d,.sl 1 0 f.acts.length 1 false,.str f.now]::B:=⟨_,rfl⟩
theorem zV9(s:List UInt8):Ct Pz 104 [.str s] [] (.ptr 0 0) [.obj true (⟨s,[]⟩:PF).blks]:=by
 refine zK Tryz.func104 rfl ?_;simp only[Tryz.ntmps104,q7Z,q8Z,Nat.reduceAdd,Nat.reduceSub,qbZ,q9Z,qaZ]
 refine Sim.after (Sim.exec hmix zCD (n:=0) (by simp;exact⟨rfl,rfl,rfl⟩) (by simp) ?_)
 refine Aft.closeD s 0 rfl (by simp) (Aft.done (by simp) ?_)
 exact⟨.inr rfl,_,by simp[Tryz.f104] <;> rfl,Weak.mk' [0] (by decide) (by decide) (by simp) (zT (b:=0) (by simp) _ _ rfl fun i c x h1 h2=>by
   match i,h1,h2 with
   | 0,h1,h2=>cases h1;cases h2;exact .inl ⟨rfl,rfl⟩)⟩
theorem zQw(f:PF):Ct Pz 115 [.ptr 0 0] [.obj true f.blks] (.str f.now) [.obj true f.blks]:=by
 obtain⟨B,eB⟩:=blks_head f;rw[eB];refine zB8 hmix zCD (n:=0) Tryz.func115 ?_;unfold Tryz.f115
 exact⟨_,_,(by simp +decide;exact⟨rfl,rfl⟩),Weak.mk' [0] (by decide) rfl (by simp) (by simp[AWb])⟩
theorem zS4:GOk Pz (zAL Pz (zv []) 0 [115] 2):=zq hmix zD 0 _ 2
theorem zU8(f:PF):Ct Pz 148 [.ptr 0 0] [.obj true f.blks] (.int .i64 f.now.length) [.obj true f.blks]:=by
 obtain⟨B,eB⟩:=blks_head f;rw[eB];refine zB8 hmix zS4 (n:=0) Tryz.func148 ?_;unfold Tryz.f148
 exact⟨_,_,(by simp +decide [Tryz.f115];exact⟨rfl,rfl⟩),Weak.mk' [0] (by decide) rfl (by simp) (by simp[AWb])⟩
def PF.readAt(f:PF)(a n:Int):List UInt8×Int:=if a<0\/n<0\/(f.now.length:Int)<a then ([],17) else ((f.now.drop a.toNat).take n.toNat,0)
theorem zOP(f:PF)(a n:Int)(_hn:f.now.length<=1000000000000):Ct Pz 143 [.ptr 0 0,.int .i64 a,.int .i64 n] [.obj true f.blks] (.tuple [.str (f.readAt a n).1,.int .i64 (f.readAt a n).2]) [.obj true f.blks]:=by
 obtain⟨B,eB⟩:=blks_head f;obtain⟨s,es⟩:∃s,f.now=s:=⟨_,rfl⟩;unfold PF.readAt;rw[eB,es];rw[es]at _hn;refine zB8 hmix zCD (n:=0) Tryz.func143 ?_;unfold Tryz.f143;by_cases h1:a<0
 · exact⟨_,_,(by simp +decide [h1];exact⟨rfl,rfl⟩),Weak.mk' [0] (by decide) rfl (by simp[h1]) (by simp[AWb])⟩
 by_cases h2:n<0
 · exact⟨_,_,(by simp +decide [h1,h2];exact⟨rfl,rfl⟩),Weak.mk' [0] (by decide) rfl (by simp[h1,h2]) (by simp[AWb])⟩
 by_cases h3:(s.length:Int)<a
 · exact⟨_,_,(by simp +decide [h1,h2,h3];exact⟨rfl,rfl⟩),Weak.mk' [0] (by decide) rfl (by simp[h1,h2,h3]) (by simp[AWb])⟩
 rw[if_neg (by omega)]
 have a0:0<=a:=by omega
 have a1:a<=(s.length:Int):=by omega
 obtain⟨k,ek⟩:∃k,a.toNat=k:=⟨_,rfl⟩
 have hk:k<=s.length:=by omega
 obtain⟨z,ez⟩:∃z:Nat,min n ((s.length-k:Nat):Int)=z:=⟨(min n ((s.length-k:Nat):Int)).toNat,by omega⟩
 have z1:z<=s.length-k:=by omega
 have z2:(z:Int)<=((s.length-k:Nat):Int):=by omega
 have z3:(s.drop k).take z=(s.drop k).take n.toNat:=by
   by_cases hz:n.toNat<=s.length-k
   · rw[show z=n.toNat by omega]
   · rw[q6Z (by simp;omega),q6Z (by simp;omega)]
 refine ⟨_,_,(by simp +decide [-zCG,zBJ,h1,h2,h3,a0,a1,ek,ez,z2];exact⟨rfl,rfl⟩),Weak.mk' [0] (by decide) rfl (by simp[ek,List.take_take,sfZ z1,z3]) (by simp[AWb])⟩
noncomputable def zDX(sub:zA):Option PF:=open Classical in if h:∃f:PF,sub=f.blks then some h.choose else none
theorem zBt{sub:zA}{f:PF}(h:zDX sub=some f):sub=f.blks:=by
 unfold zDX at h;split at h
 · rename_i hx
   cases h;exact hx.choose_spec
 · cases h
@[simp] theorem zIt(f:PF):zDX f.blks=some f:=by
 unfold zDX;rw[dif_pos ⟨f,rfl⟩]
 have:=(show ∃g:PF,f.blks=g.blks from ⟨f,rfl⟩).choose_spec
 have h2:=congrArg zO2 this;rw[zGf,zGf]at h2;exact h2.symm
end
section
open Go
def PF.small(f:PF):Prop:=f.ok 1000000000000
theorem PF.small_now{f:PF}(h:f.small):f.now.length<=1000000000000:=by
 have:=h.len f.acts.length
 rwa [List.take_length]at this
noncomputable section
open Classical
def zTE:zc:=zBv zDX PF.blks fun f xs _=>match xs with
 | [.int .i64 n]=>if f.small then some ((f.cut n).1,.int .i64 (f.cut n).2) else none
 | _=>none
theorem zOh:Sound Pz 182 zTE:=by
 refine zr (zH Tryz.func182 rfl (by decide)) (fun _ _=>zBt) fun f xs H s' v b hg hb=>?_
 split at hg;rotate_left
 · cases hg
 rename_i n
 split at hg <;> cases hg
 rename_i hs;exact ZM (zUc f n (PF.small_now hs) hs.acts) rfl rfl hb
def zOO:zc:=zBv zDX PF.blks fun f xs _=>match xs with
 | []=>some (⟨f.now,[]⟩,.int .i64 0)
 | _=>none
theorem zNW:Sound Pz 184 zOO:=by
 refine zr (zH Tryz.func184 rfl (by decide)) (fun _ _=>zBt) fun f xs H s' v b hg hb=>?_
 split at hg <;> cases hg
 exact ZM (zTo f) rfl rfl hb
def zKx:zc:=zBv zDX PF.blks fun f xs _=>match xs with
 | []=>some (f,.str f.now)
 | _=>none
theorem zLO:Sound Pz 115 zKx:=by
 refine zr (zH Tryz.func115 rfl (by decide)) (fun _ _=>zBt) fun f xs H s' v b hg hb=>?_
 split at hg <;> cases hg
 exact ZM (zQw f) rfl rfl hb
def zUF:zc:=zBv zDX PF.blks fun f xs _=>match xs with
 | []=>some (f,.int .i64 f.now.length)
 | _=>none
theorem zON:Sound Pz 148 zUF:=by
 refine zr (zH Tryz.func148 rfl (by decide)) (fun _ _=>zBt) fun f xs H s' v b hg hb=>?_
 split at hg <;> cases hg
 exact ZM (zU8 f) rfl rfl hb
def zOt:zc:=zBv zDX PF.blks fun f xs _=>match xs with
 | [.int .i64 a,.int .i64 n]=>if f.small then some (f,.tuple [.str (f.readAt a n).1,.int .i64 (f.readAt a n).2]) else none
 | _=>none
theorem zOB:Sound Pz 143 zOt:=by
 refine zr (zH Tryz.func143 rfl (by decide)) (fun _ _=>zBt) fun f xs H s' v b hg hb=>?_
 split at hg;rotate_left
 · cases hg
 split at hg <;> cases hg
 rename_i hs;exact ZM (zOP f _ _ (PF.small_now hs)) rfl rfl hb
def zOc:zc:=zBv zDX PF.blks fun f xs _=>match xs with
 | [.agg [.int .i64 d,.int .i64 p]]=>if f.small/\p<=4611686018427387903 then some (⟨f.stays d p,[]⟩,.int .i64 0) else none
 | _=>none
theorem zN9:Sound Pz 74 zOc:=by
 refine zr (zH Tryz.func74 rfl (by decide)) (fun _ _=>zBt) fun f xs H s' v b hg hb=>?_
 split at hg;rotate_left
 · cases hg
 split at hg <;> cases hg
 rename_i hs;exact ZM (zTS f _ _ hs.1 hs.2) rfl rfl hb
end
def zSw:zc:=zR4 fun
 | [.str s]=>some (.ptr 0 0,[.obj true (⟨s,[]⟩:PF).blks])
 | _=>none
theorem zOU:Sound Pz 104 zSw:=by
 refine zKe (zH Tryz.func104 rfl (by decide)) fun args v H' h=>?_
 split at h <;> cases h
 exact⟨zV9 _,rfl,rfl⟩
end
section
open Go
theorem PF.ok_mono{f:PF}{B C:Nat}(h:f.ok B)(hc:B<=C):f.ok C:=⟨h.fits,by have:=h.acts;omega,fun i=>by have:=h.len i;omega⟩
theorem PF.ok_new(s:List UInt8)(B:Nat)(h:s.length<=B):(⟨s,[]⟩:PF).ok B:=⟨trivial,by simp,fun i=>by simpa[zA2] using h⟩
theorem PF.ok_now{f:PF}{B:Nat}(h:f.ok B):f.now.length<=B:=by
 have:=h.len f.acts.length
 rwa [List.take_length]at this
theorem PF.ok_did{f:PF}{B C:Nat}(h:f.ok B)(a:FAct)(hf:match a with | .add _=>True | .cut n=>n<=f.now.length)(hl:(a.run f.now).length<=C)(hc:B+1<=C):(f.did a).ok C:=by
 refine ⟨(zGr _ _ _).2 ⟨h.fits,hf,trivial⟩,by have:=h.acts;simp[PF.did];omega,fun i=>?_⟩
 simp only[PF.did];rcases s2Z f.acts.length i with h1 | h1
 · rw[q6Z (by simp;omega),zD3]
   exact hl
 · rw[List.take_append_of_le_length h1]
   have:=h.len i;omega
theorem PF.ok_cut{f:PF}{B:Nat}(h:f.ok B)(n:Int):(f.cut n).1.ok (B+1):=by
 unfold PF.cut;split
 · exact PF.ok_mono h (by omega)
 split
 · refine PF.ok_did h (.cut n.toNat) (by show n.toNat<=_;omega) ?_ (by omega)
   have:=PF.ok_now h
   simp[FAct.run];omega
 · exact PF.ok_mono h (by omega)
theorem PF.ok_stays{f:PF}{B:Nat}(h:f.ok B)(d p:Int):(f.stays d p).length<=B:=by
 unfold PF.stays;obtain⟨n,hn⟩:∃n,(inI d 0 f.acts.length).toNat=n:=⟨_,rfl⟩;rw[hn];simp only;have h1:=h.len n;split
 · rename_i m hm
   have hnl:n<f.acts.length:=(q1Z.1 hm).1;have h2:=h.len (n+1);rw[zGD _ _ _ hnl]at h2;rw[q3Z hnl]at hm;rw[Option.some.inj hm]at h2;simp only[FAct.run,qdZ]at h2;simp only[qdZ,qjZ];omega
 · simpa using h1
end
end Go.Proofs.YtpmfecnajoojeaaGreatDoor
