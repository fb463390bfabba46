/- Parts of the proof of SweepTells: lemmas, each with its own conditions. -/
import Derived.Test.YtfhidaoiofeooaaGreatDoorY11
set_option maxHeartbeats 64000000
open List renaming getElem?_eq_some_iff → q1Z, getD_eq_getElem?_getD → q2Z, getElem?_eq_getElem → q3Z, take_of_length_le → q6Z, length_cons → q7Z, length_nil → q8Z, cons_append → q9Z, nil_append → qaZ, replicate → qbZ, length_append → qdZ, getElem?_set_ne → qfZ, mem_cons → qwZ, take_append_drop → r6Z, not_mem_nil → rtZ
open Nat renaming le_refl → qnZ
open Bool renaming and_eq_true → qrZ
open Int renaming toNat_of_nonneg → rqZ
namespace Go.Proofs.YtfhidaoiofeooaaGreatDoor
open _root_.Go.Proofs.Tryz renaming prog → Pz
set_option maxRecDepth 100000
section
open Go
theorem zO0{rn:List Nat}:∀(x:AV),zAs x=true->AW rn x x
 | .bool _,_ | .int _ _,_ | .str _,_ | .nilp,_ | .nils,_ | .nilm,_ | .nilf,_=>by simp[AW]
def Zo(l:List AV):Bool:=l.all zAs
theorem zAU{rn:List Nat}:∀(l:List AV),Zo l=true->AWs rn l l
 | [],_=>trivial
 | x::l,h=>by
   simp only[Zo,List.all_cons,qrZ]at h;exact⟨zO0 x h.1,zAU l h.2⟩
theorem zK5(g:Nat->Nat){x:AV}(h:zAs x=true):reA g x=x:=by cases x <;> simp_all [zAs,reA]
def zD9:AV->Bool
 | .tuple l=>Zo l
 | .agg l=>Zo l
 | x=>zAs x
theorem ZH(g:Nat->Nat):∀(l:List AV),Zo l=true->ZV g l=l
 | [],_=>rfl
 | x::l,h=>by
   simp only[Zo,List.all_cons,qrZ]at h;simp only[ZV,zK5 g h.1,ZH g l h.2]
theorem zQF(g:Nat->Nat){x:AV}(h:zD9 x=true):reA g x=x:=by
 cases x <;> first | exact zK5 g h | (simp only[reA];rw[ZH g _ h])
def zOg(l:List AV):Bool:=l.all zD9
theorem zFT{rn:List Nat}(x:AV)(h:zD9 x=true):AW rn x x:=by
 cases x <;> first | exact zO0 _ h | exact zAU _ h
theorem zJF{rn:List Nat}:∀(l:List AV),zOg l=true->AWs rn l l
 | [],_=>trivial
 | x::l,h=>by
   simp only[zOg,List.all_cons,qrZ]at h;exact⟨zFT x h.1,zJF l h.2⟩
theorem zy{P:Program}{f:FuncId}{xs:List AV}{s s':zA}{v:AV}(h:Ct P f (.ptr 0 0::xs) [.obj true s] v [.obj true s'])(hx:zOg xs=true)(hv:zD9 v=true){H:zA}{b:Nat}(hb:H[b]? = some (.obj true s)) :
   Ct P f (.ptr b 0::xs) H v (H.set b (.obj true s')):=by
 have hbl:b<H.length:=(q1Z.1 hb).1;have:=zZ (H:=H) (args:=.ptr b 0::xs) h [b] (by simp) ⟨⟨rfl,rfl⟩,zJF xs hx⟩ ⟨by rw[q2Z,hb];exact⟨rfl,rfl⟩,hbl,trivial⟩ rfl;rw[zQF _ hv]at this;simpa[zW,ABlk.own,reB] using this
def zBc{σ:Type}(dec:zA->Option σ)(enc:σ->zA)(g:σ->List AV->zA->Option (σ×AV)):zS:=fun args H=>match args with
 | .ptr b 0::xs=>match H[b]? with
   | some (.obj true sub)=>match dec sub with
     | some s=>match g s xs H with
       | some (s',v)=>some (v,H.set b (.obj true (enc s')),[b])
       | none=>none
     | none=>none
   | _=>none
 | _=>none
theorem zg{P:Program}{f:FuncId}{σ:Type}{dec:zA->Option σ}{enc:σ->zA}{g:σ->List AV->zA->Option (σ×AV)}(he:∀cargs w,(callFunc f cargs).run P w=.ok (.enter f cargs) w)(hd:∀sub s,dec sub=some s->sub=enc s)
   (h:∀s xs H s' v b,g s xs H=some (s',v)->H[b]? = some (.obj true (enc s))->Ct P f (.ptr b 0::xs) H v (H.set b (.obj true (enc s')))):Sound P f (zBc dec enc g):=by
 have key:∀args H v H' W,zBc dec enc g args H=some (v,H',W)->∃b xs s s',args=.ptr b 0::xs/\H[b]? = some (.obj true (enc s))/\g s xs H=some (s',v)/\H'=H.set b (.obj true (enc s'))/\W=[b]:=by
   intro args H v H' W hs;unfold zBc at hs;split at hs;rotate_left
   · cases hs
   rename_i b xs;split at hs;rotate_left
   · cases hs
   rename_i sub hb;split at hs;rotate_left
   · cases hs
   rename_i s hds;split at hs;rotate_left
   · cases hs
   rename_i s' v' hg;cases hs;have:=hd sub s hds;subst this;exact⟨b,xs,s,s',rfl,hb,hg,rfl,rfl⟩
 refine ⟨he,fun args H v H' W hs=>?_,fun args H v H' W hs=>?_⟩
 · obtain⟨b,xs,s,s',rfl,h1,h2,rfl,rfl⟩:=key args H v H' W hs
   exact h s xs H s' v b h2 h1
 · obtain⟨b,xs,s,s',rfl,h1,h2,rfl,rfl⟩:=key args H v H' W hs
   refine ⟨by simp,fun c hc hn=>?_⟩;rw[qfZ (fun e=>hn (by simp[e]))]
attribute [simp] zBc
end
section
open Go
attribute [-simp] zG zT zc zJ zn
theorem Aft.closeD{n0:Nat}{F:List AV}{H:zA}{K:List AV->zA->Prop}(s:List UInt8)(b:Nat)(hb:H[b]? = some (.cells true [.str s,.nils,.str s]))(hn:n0<=H.length)
   (h:Aft n0 F (ZF H b [H.length] true (⟨s,[]⟩:PF).blks) K):Aft n0 F H K:=by
 have hbl:b<H.length:=(q1Z.1 hb).1;exact Aft.closeF (⟨s,[]⟩:PF) b H.length [] (x:=.nils) (o:=true) hb rfl (fun h=>absurd h (by omega)) rfl (by simp) (by simp;omega) hn h
structure PF.ok (f:PF) (B:Nat):Prop where
 fits:fits f.d f.acts
 acts:f.acts.length<=B
 len:∀i,(zD5 f.d (f.acts.take i)).length<=B
theorem zP1(s:List UInt8)(l:List FAct)(i:Nat)(h:i<l.length):zD5 s (l.take (i+1))=l[i].run (zD5 s (l.take i)):=by
 rw[List.take_succ_eq_append_getElem h,zMi];rfl
theorem zTf{s:List UInt8}{l:List FAct}(h:fits s l){i n:Nat}(hi:l[i]? = some (.cut n)):n<=(zD5 s (l.take i)).length:=by
 have hil:i<l.length:=(q1Z.1 hi).1;have e:l=l.take i++l[i]::l.drop (i+1):=by rw[<-List.drop_eq_getElem_cons hil,r6Z]
 rw[e,zMx]at h;have h2:=h.2;have:l[i]=.cut n:=by rw[q3Z hil]at hi;exact Option.some.inj hi
 rw[this]at h2;exact h2.1
theorem blks_head(f:PF):∃B,f.blks=.cells true [.str f.d,.sl 1 0 f.acts.length 1 false,.str f.now]::B:=⟨_,rfl⟩
theorem zUC(s:List UInt8):Ct Pz 91 [.str s] [] (.ptr 0 0) [.obj true (⟨s,[]⟩:PF).blks]:=by
 refine zE Tryz.func91 rfl ?_;simp only[Tryz.ntmps91,q7Z,q8Z,Nat.reduceAdd,Nat.reduceSub,qbZ,q9Z,qaZ];refine Sim.after (wE zKN (by simp;exact wT) ?_);refine Aft.closeD s 0 rfl (by simp) (Aft.done (by simp) ?_);exact⟨.inr rfl,_,by simp[Tryz.f91] <;> rfl,wW [0] (zR (b:=0) (by simp) _ _ rfl fun i c x h1 h2=>by
   match i,h1,h2 with
   | 0,h1,h2=>cases h1;cases h2;exact .inl ⟨rfl,rfl⟩)⟩
theorem zQo(f:PF):Ct Pz 135 [.ptr 0 0] [.obj true f.blks] (.str f.now) [.obj true f.blks]:=by
 obtain⟨B,eB⟩:=blks_head f;rw[eB];refine zKE hmix zKN (n:=0) Tryz.func135 ?_;unfold Tryz.f135;exact⟨_,_,(by simp +decide;exact wR),Weak.mk' [0] (by decide) rfl (by simp) (by simp[AWb])⟩
noncomputable def zJY(sub:zA):Option PF:=open Classical in if h:∃f:PF,sub=f.blks then some h.choose else none
theorem zQ6{sub:zA}{f:PF}(h:zJY sub=some f):sub=f.blks:=by
 unfold zJY at h;split at h
 · rename_i hx
   cases h;exact hx.choose_spec
 · cases h
@[simp] theorem zHa(f:PF):zJY f.blks=some f:=by
 unfold zJY;rw[dif_pos ⟨f,rfl⟩];have:=(show ∃g:PF,f.blks=g.blks from ⟨f,rfl⟩).choose_spec;have h2:=congrArg zM6 this;rw[zGH,zGH]at h2;exact h2.symm
end
section
open Go
def PF.small(f:PF):Prop:=f.ok 1000000000000
theorem PF.small_now{f:PF}(h:f.small):f.now.length<=1000000000000:=by
 have:=h.len f.acts.length
 rwa [List.take_length]at this
noncomputable section
open Classical
def zKd:zS:=zBc zJY PF.blks fun f xs _=>match xs with
 | []=>some (f,.str f.now)
 | _=>none
theorem zKC:Sound Pz 135 zKd:=by
 refine zg (zD Tryz.func135 rfl (by decide)) (fun _ _=>zQ6) fun f xs H s' v b hg hb=>?_;split at hg <;> cases hg
 exact zy (zQo f) rfl rfl hb
end
def zRU:zS:=zON fun
 | [.str s]=>some (.ptr 0 0,[.obj true (⟨s,[]⟩:PF).blks])
 | _=>none
theorem zNg:Sound Pz 91 zRU:=by
 refine zJd (zD Tryz.func91 rfl (by decide)) fun args v H' h=>?_;split at h <;> cases h
 exact⟨zUC _,rfl,rfl⟩
end
section
open Go
theorem PF.ok_mono{f:PF}{B C:Nat}(h:f.ok B)(hc:B<=C):f.ok C:=⟨h.fits,by have:=h.acts;omega,fun i=>by have:=h.len i;omega⟩
theorem PF.ok_new(s:List UInt8)(B:Nat)(h:s.length<=B):(⟨s,[]⟩:PF).ok B:=⟨trivial,by simp,fun i=>by simpa[zD5] using h⟩
end
section
open Go
attribute [-simp] zG zT zc zJ zn
def FAct.cells:FAct->List AV
 | .add s=>[.bool false,.int .i64 0,.str s]
 | .cut n=>[.bool true,.int .i64 n,.str []]
def zAS:List FAct->List AV
 | []=>[]
 | a::l=>a.cells++zAS l
@[simp] theorem zTX(a:FAct):a.cells.length=3:=by cases a <;> rfl
@[simp] theorem zMh:∀(l:List FAct),(zAS l).length=l.length*3
 | []=>rfl
 | a::l=>by simp[zAS,zMh l];omega
theorem zGG:∀(l m:List FAct),zAS (l++m)=zAS l++zAS m
 | [],m=>rfl
 | a::l,m=>by simp[zAS,zGG l m]
@[simp] theorem zG8:∀(l:List FAct),Zo (zAS l)=true
 | []=>rfl
 | a::l=>by
   have:=zG8 l;simp only[Zo]at this ⊢;cases a <;> simp[zAS,FAct.cells,this,zAs]
@[simp] theorem zMN{rn:List Nat}(l:List FAct):AWs rn (zAS l) (zAS l):=zAU _ (zG8 l)
def PF.rblks(f:PF):zA:=[.cells true [.str f.d,.sl 1 0 f.acts.length 3 false],.cells true (zAS f.acts)]
theorem zMe(s:List UInt8)(a:FAct)(hl:(a.run s).length<=1000000000000)(hf:match a with | .add _=>True | .cut n=>n<=s.length):Ct Pz 221 [.str s,.agg a.cells] [] (.str (a.run s)) []:=by
 refine zKE hmix zKN (n:=0) Tryz.func221 ?_;unfold Tryz.f221;cases a with
 | add m =>
   have h1:s.length+m.length<=9223372036854775807:=by simp[FAct.run]at hl;omega
   exact⟨_,_,(by simp +decide [FAct.cells,h1];exact wR),Weak.mk' [] (by decide) rfl (by simp[FAct.run]) (by simp)⟩
 | cut n =>
   have h1:min (n:Int) (s.length:Int)=(n:Int):=by have:n<=s.length:=hf;omega
   have h2:n<=s.length:=hf;exact⟨_,_,(by simp +decide [-zDS,zIK,FAct.cells,h1,h2];exact wR),Weak.mk' [] (by decide) rfl (by simp[FAct.run]) (by simp)⟩
theorem zMy:∀(l:List FAct) (k:Nat) (h:k<l.length),((zAS l).drop (k*3)).take 3=l[k].cells
 | a::l,0,_=>by cases a <;> simp[zAS,FAct.cells]
 | a::l,k+1,h=>by
   have:=zMy l k (by simpa using h);rw[show (k+1)*3=k*3+3 by omega];cases a <;> simpa[zAS,FAct.cells] using this
def zJq:zS:=zBJ fun
 | [.str s,.agg [.bool false,.int .i64 0,.str m]]=>if s.length+m.length<=1000000000000 then some (.str (s++m)) else none
 | [.str s,.agg [.bool true,.int .i64 n,.str []]]=>if (0<=n/\n<=s.length)/\s.length<=1000000000000 then some (.str (s.take n.toNat)) else none
 | _=>none
theorem zMJ:Sound Pz 221 zJq:=by
 refine ZM (zD Tryz.func221 rfl (by decide)) fun args v h=>?_;split at h
 · split at h <;> cases h
   rename_i s m hl;exact⟨zMe s (.add m) (by simpa[FAct.run] using hl) trivial,rfl,rfl⟩
 · split at h <;> cases h
   rename_i s n hl;have:=zMe s (.cut n.toNat) (by simp[FAct.run];omega) (by show n.toNat<=_;omega);simp only[FAct.cells,FAct.run,rqZ hl.1.1]at this;exact⟨this,rfl,rfl⟩
 · cases h
theorem zSq:GOk Pz (zAF Pz (zh [(221,zJq)]) 0 [] 4):=zq hmix (zC zMJ zB) 0 [] 4
theorem zPw(f:PF)(hok:f.ok 1000000000000) :
   Ct Pz 136 [.ptr 0 0] [.cells false [.str f.d,.sl 1 0 f.acts.length 3 false],.cells false (zAS f.acts)] (.str f.now) [.cells false [.str f.d,.sl 1 0 f.acts.length 3 false],.cells false (zAS f.acts)]:=by
 have hΓ:=zSq;obtain⟨hfit,hk,hlen⟩:=hok;refine zE Tryz.func136 rfl ?_;simp only[Tryz.ntmps136,q7Z,q8Z,Nat.reduceAdd,Nat.reduceSub,qbZ,q9Z,qaZ];obtain⟨HH,eH⟩:∃HH,[ABlk.cells false [.str f.d,.sl 1 0 f.acts.length 3 false],.cells false (zAS f.acts)]=HH:=⟨_,rfl⟩
 refine wS hΓ (by simp;exact wR) ?_;refine wS hΓ (by simp;exact wR) ?_;refine Sim.seq (wS hΓ (by simp;exact wR) ?_);refine Sim.block (Sim.loopS (fun i:Nat=>i<=f.acts.length)
   (fun i=>[.ptr 0 0,.top,.top,.str (zD5 f.d (f.acts.take i)),.int .i64 i]++qbZ 23 .top)
   (fun _=>HH) (fun i=>f.acts.length-i) 0 (by simp) (by simp) ⟨by simp[zD5],eH⟩ fun i hi=>?_)
 rw[<-eH];by_cases hlt:i<f.acts.length
 · obtain⟨a,ha⟩:∃a,f.acts[i]=a:=⟨_,rfl⟩
   have g1:=zMy f.acts i hlt;have k1:i*3+3<=f.acts.length*3:=by omega
   have e1:=zP1 f.d f.acts i hlt;have l1:=hlen (i+1);have l2:=hlen i;rw[e1]at l1;rw[ha]at g1 e1 l1;have y1:IntKind.i64.wrap ((i:Int)+1)=i+1:=zK (by omega) (by omega);have hfc:=fun n h=>zTf hfit (i:=i) (n:=n) h;rw[q3Z hlt,ha]at hfc;obtain⟨u,hu⟩:∃u,zD5 f.d (f.acts.take i)=u:=⟨_,rfl⟩
   rw[hu]at e1 l1 l2 hfc ⊢;cases a with
   | add m =>
     simp only[FAct.run,qdZ]at l1;simp only[FAct.cells]at g1;refine wE hΓ (by simp +decide [zJq,hlt,g1,k1,y1,l1];exact wT) ?_;exact⟨i+1,by omega,⟨by simp[e1,FAct.run],by first | exact eH | rfl⟩,by omega⟩
   | cut z =>
     simp only[FAct.cells]at g1;have hz:=hfc z rfl;refine wE hΓ (by simp +decide [zJq,hlt,g1,k1,y1,hz,l2];exact wT) ?_;exact⟨i+1,by omega,⟨by simp[e1,FAct.run],by first | exact eH | rfl⟩,by omega⟩
 have:i=f.acts.length:=by omega
 subst this;refine wE hΓ (by simp;exact wT) ?_;dsimp only;rw[if_pos rfl];refine wE hΓ (by simp;exact wT) ?_;exact⟨.inr rfl,_,by simp[Tryz.f136] <;> rfl,Weak.mk' [0,1] (by decide) (by decide) (by simp[PF.now]) (by simp)⟩
end
section
open Go
attribute [-simp] zG zT zc zJ zn
theorem Ct.aft{P:Program}{f:FuncId}{args:List AV}{H H':zA}{v:AV}
   (h:Aft H.length args H fun F1 H1=>H.length<=H1.length/\∃v1 H2,Ct P f F1 H1 v1 H2/\Aft H.length [v1] H2 fun F2 H3=>F2=[v]/\H3=H'):Ct P f args H v H':=by
 intro j w cargs hR hargs;obtain⟨F1,H1,j1,⟨hl,v1,H2,h1,h2⟩,h3,s1⟩:=h j w _ hR hargs;refine Calls.mono (h1 j1 w cargs s1.rel h3) ?_;rintro e w' ⟨cv,j2,rfl,h4,s2⟩;obtain⟨F2,H3,j3,⟨rfl,rfl⟩,h5,s3⟩:=h2 j2 w' [cv] s2.rel ⟨cv,[],rfl,h4,rfl⟩;obtain⟨u,us,e,h6,_⟩:=h5;cases e;exact⟨cv,j3,rfl,h6,s1.trans ((s2.weaken hl).trans s3 (qnZ _)) (qnZ _)⟩
def rowActs:List AV->Option (List FAct)
 | []=>some []
 | .bool false::.int .i64 0::.str m::l=>match rowActs l with
   | some a=>some (.add m::a)
   | none=>none
 | .bool true::.int .i64 n::.str []::l=>if 0<=n then match rowActs l with
   | some a=>some (.cut n.toNat::a)
   | none=>none else none
 | _=>none
@[simp] theorem zKB:∀(l:List FAct),rowActs (zAS l)=some l
 | []=>rfl
 | a::l=>by cases a <;> simp[zAS,FAct.cells,rowActs,zKB l]
theorem zHH:∀{l:List AV} {a:List FAct},rowActs l=some a->l=zAS a:=by
 intro l;induction l using rowActs.induct with
 | case1=>intro a h;cases h;rfl
 | case2 m l b hb ih=>intro a h;simp only[rowActs,hb]at h;cases h;rw[ih hb];rfl
 | case3 m l hb ih=>intro a h;simp only[rowActs,hb]at h;cases h
 | case4 n l hn b hb ih=>intro a h;simp only[rowActs,hb,if_pos hn]at h;cases h;rw[ih hb];simp[zAS,FAct.cells,rqZ hn]
 | case5 n l hn hb ih=>intro a h;simp only[rowActs,hb,if_pos hn]at h;cases h
 | case6 n l hn=>intro a h;simp only[rowActs,if_neg hn]at h;cases h
 | case7 l h1 h2 h3=>intro a h;unfold rowActs at h;split at h <;> simp_all
def zGF:zA->Option PF
 | [.cells true [.str d,.sl 1 0 n 3 false],.cells true l]=>match rowActs l with
   | some a=>if n=a.length then some ⟨d,a⟩ else none
   | none=>none
 | _=>none
@[simp] theorem zGA(f:PF):zGF f.rblks=some f:=by simp[zGF,PF.rblks]
theorem zIL{sub:zA}{f:PF}(h:zGF sub=some f):sub=f.rblks:=by
 unfold zGF at h;split at h <;> try cases h
 split at h <;> try cases h
 rename_i a ha;split at h <;> cases h
 rename_i hn;rw[zHH ha,hn];rfl
theorem zHU(f:PF)(T:zA):zo (.obj true f.rblks::T) 0 f.rblks=.cells true [.str f.d,.sl (T.length+1) 0 f.acts.length 3 false]::(T++[.cells true (zAS f.acts)]):=by
 unfold zo;simp[PF.rblks,reB,ZV,reA,zBU,ZH]
theorem Aft.closeR{n0:Nat}{F:List AV}{H:zA}{K:List AV->zA->Prop}(f:PF)(b r:Nat){x:AV}(hb:H[b]? = some (.cells true [.str f.d,x]))(hx:AW [b,r] (.sl 1 0 f.acts.length 3 false) x)
   (hr:r<H.length->H[r]? = some (.cells true (zAS f.acts))) (hne:b≠r) (hn:n0<=H.length) (h:Aft n0 F (ZF H b [r] true f.rblks) K):Aft n0 F H K:=by
 refine Aft.close (o:=true) (b:=b) (rs:=[b,r]) (ks:=[r]) rfl (by simp[hne]) (q1Z.1 hb).1 ?_ ?_ ⟨_,rfl,rfl⟩ ?_ hn h
 · intro c x hc hcb _ _
   simp only[qwZ,rtZ,or_false]at hc;rcases hc with rfl | rfl
   · exact absurd rfl hcb
   · simp
 · refine ⟨?_,?_,trivial⟩
   · split
     · rw[q2Z,hb]
       exact⟨fun h=>h,rfl,hx,trivial⟩
     · trivial
   · split
     · rename_i h1
       rw[q2Z,hr h1];exact⟨fun h=>h,zMN _⟩
     · trivial
 · intro i y hy hd
   match i,hy with
   | 0,hy=>cases hy;rfl
   | 1,hy=>cases hy;rfl
theorem zJj(f:PF)(hok:f.ok 1000000000000){H:zA}{b r:Nat}{o o2:Bool}(hb:H[b]? = some (.cells o [.str f.d,.sl r 0 f.acts.length 3 false]))(hr:H[r]? = some (.cells o2 (zAS f.acts)))(hne:b≠r) :
   Ct Pz 136 [.ptr b 0] H (.str f.now) H:=by
 have hbl:b<H.length:=(q1Z.1 hb).1;have hrl:r<H.length:=(q1Z.1 hr).1;have:=zZ (H:=H) (args:=[.ptr b 0]) (zPw f hok) [b,r] (by simp[hne]) ⟨⟨rfl,rfl⟩,trivial⟩ ⟨by rw[q2Z,hb];exact⟨by simp,rfl,⟨rfl,rfl,rfl,rfl,fun h=>h⟩,trivial⟩,hbl,by rw[q2Z,hr];exact⟨by simp,zMN _⟩,hrl,trivial⟩ rfl;simpa[zW,ABlk.own,reB,reA] using this
theorem zNJ(f:PF)(hok:f.ok 1000000000000):Ct Pz 136 [.ptr 0 0] [.obj true f.rblks] (.str f.now) [.obj true f.rblks]:=by
 refine Ct.aft (Aft.open (b:=0) rfl (by simp) (Aft.done (by simp[zo]) ?_));rw[zHU];refine ⟨by simp,.str f.now,_,zJj f hok (b:=0) (r:=1) rfl rfl (by decide),?_⟩;refine Aft.closeR f 0 1 (x:=.sl 1 0 f.acts.length 3 false) rfl ⟨rfl,rfl,rfl,rfl,fun h=>h⟩ (fun _=>rfl) (by decide) (by simp) ?_;refine Aft.weak (Fn:=[.str f.now]) (Hn:=[.obj true f.rblks]) (Weak.mk' [0] (by decide) rfl ⟨rfl,trivial⟩ (zR (b:=0) (by simp) _ _ rfl fun i c x h1 h2=>?_)) (by simp) (Aft.done (by simp) ⟨rfl,rfl⟩)
 match i,h1,h2 with
 | 0,h1,h2=>cases h1;cases h2;exact .inl ⟨rfl,rfl⟩
noncomputable section
open Classical
def zAt:zS:=fun args H=>match args with
 | [.ptr b 0]=>match H.getD b .dead with
   | .cells _ [.str d,.sl r 0 n 3 false]=>match H.getD r .dead with
     | .cells _ l=>match rowActs l with
       | some a=>if n=a.length/\b≠r/\PF.small ⟨d,a⟩ then some (.str (PF.now ⟨d,a⟩),H,[]) else none
       | none=>none
     | _=>none
   | .obj true sub=>match zGF sub with
     | some f=>if f.small then some (.str f.now,H,[]) else none
     | none=>none
   | _=>none
 | _=>none
end
theorem getD_some{H:zA}{b:Nat}{x:ABlk}(h:H.getD b .dead=x)(hx:x≠.dead):H[b]? = some x:=by
 rw[q2Z]at h;cases hy:H[b]? with
 | none=>rw[hy]at h;exact absurd h.symm hx
 | some y=>rw[hy]at h;exact congrArg some h
theorem zFI:Sound Pz 136 zAt:=by
 refine ⟨zD Tryz.func136 rfl (by decide),fun args H v H' W h=>?_,fun args H v H' W h=>?_⟩
 · unfold zAt at h
   split at h <;> try cases h
   rename_i b;split at h <;> try cases h
   · rename_i d r n hb
     split at h <;> try cases h
     rename_i l hr;split at h <;> try cases h
     rename_i a ha;split at h <;> cases h
     rename_i hc;obtain⟨rfl,hne,hs⟩:=hc;rw[zHH ha]at hr;exact zJj ⟨d,a⟩ hs (getD_some hb (by simp)) (getD_some hr (by simp)) hne
   · rename_i sub hb
     split at h <;> try cases h
     rename_i f hf;split at h <;> cases h
     rename_i hs;rw[zIL hf]at hb;have hb2:=getD_some hb (by simp);have:=zy (zNJ f hs) rfl rfl hb2;obtain⟨h1,h2⟩:=q1Z.1 hb2;rw[<-h2,List.set_getElem_self]at this;exact this
 · unfold zAt at h
   split at h <;> try cases h
   split at h <;> try cases h
   · split at h <;> try cases h
     split at h <;> try cases h
     split at h <;> cases h
     exact⟨qnZ _,fun _ _ _=>rfl⟩
   · split at h <;> try cases h
     split at h <;> cases h
     exact⟨qnZ _,fun _ _ _=>rfl⟩
end
section
open Go
attribute [-simp] zG zT zc zJ zn
@[simp] theorem zN5:∀l:List FAct,(zAS l).all zx=true
 | []=>rfl
 | a::l=>by
   have:=zN5 l;cases a <;> simp[zAS,FAct.cells,zx]at this ⊢ <;> exact this
@[simp] theorem zVO(l:List FAct):(zAS l).take (l.length*3)=zAS l:=q6Z (by simp)
theorem zPO:GOk Pz (zAF Pz (zh [(136,zAt)]) 0 [] 4):=zq hmix (zC zFI zB) 0 [] 4
theorem zSs(f:PF)(hs:f.small):Ct Pz 168 [.ptr 0 0] [.obj true f.rblks] (.tuple []) [.obj true (⟨f.now,[]⟩:PF).rblks]:=by
 refine zE Tryz.func168 rfl ?_;simp only[Tryz.ntmps168,q7Z,q8Z,Nat.reduceAdd,Nat.reduceSub,qbZ,q9Z,qaZ];refine Sim.aft (Aft.open (b:=0) rfl (by simp) (Aft.done (by simp[zo]) ?_));rw[zHU];refine Sim.after (wE zPO (by simp[zAt,hs];exact wT) ?_);refine Aft.closeR ⟨f.now,[]⟩ 0 2 (x:=.nils) rfl (by simp[AW]) (by simp) (by decide) (by simp) (Aft.done (by simp) ⟨by first | exact .inl rfl | exact .inr rfl,_,by simp[Tryz.f168] <;> rfl,Weak.mk' [0] (by decide) rfl (by simp) (zR (b:=0) (by simp) _ _ rfl fun i c x h1 h2=>?_)⟩)
 match i,h1,h2 with
 | 0,h1,h2=>cases h1;cases h2;exact .inl ⟨rfl,rfl⟩
theorem zS8(f:PF)(n:Int)(hs:f.small) :
   Ct Pz 250 [.ptr 0 0,.int .i64 n] [.obj true f.rblks] (.int .i64 (f.cut n).2) [.obj true (f.cut n).1.rblks]:=by
 have hΓ:=zPO;have hn:=PF.small_now hs;have hk:=hs.acts;refine zE Tryz.func250 rfl ?_;simp only[Tryz.ntmps250,q7Z,q8Z,Nat.reduceAdd,Nat.reduceSub,qbZ,q9Z,qaZ];obtain⟨s,es⟩:∃s,f.now=s:=⟨_,rfl⟩
 unfold PF.cut;rw[es];rw[es]at hn;refine wS hΓ (by simp;exact wR) ?_;by_cases h1:n<0
 · rw[if_pos (.inl h1)]
   refine wE hΓ (by simp +decide [h1];exact wT) ?_;exact⟨.inr rfl,_,by simp[Tryz.f250] <;> rfl,Weak.mk' [0] (by decide) rfl (by simp) (by simp[AWb])⟩
 by_cases h2:(s.length:Int)<n
 · rw[if_pos (.inr h2)]
   refine wE hΓ (by simp +decide [zAt,hs,es,h1,h2];exact wT) ?_;exact⟨.inr rfl,_,by simp[Tryz.f250] <;> rfl,Weak.mk' [0] (by decide) rfl (by simp) (by simp[AWb])⟩
 rw[if_neg (by omega)];by_cases h3:n<s.length;rotate_left
 · rw[if_neg h3]
   refine wE hΓ (by simp +decide [zAt,hs,es,h1,h2,h3];exact wT) ?_;exact⟨.inr rfl,_,by simp[Tryz.f250] <;> rfl,Weak.mk' [0] (by decide) rfl (by simp) (by simp[AWb])⟩
 rw[if_pos h3];refine Sim.aft (Aft.open (b:=0) rfl (by simp) (Aft.done (by simp[zo]) ?_));rw[zHU];have b1:f.acts.length*32<=140737488355328:=by omega
 have b2:f.acts.length<=9223372036854775807:=by omega
 have b3:(f.acts.length+1)*32<=140737488355328:=by omega
 have b4:f.acts.length+1<=9223372036854775807:=by omega
 have n0:(n.toNat:Int)=n:=by omega
 by_cases hz:f.acts=[]
 · have ef:(⟨f.d,[]⟩:PF)=f:=by rw[<-hz]
   have hs2:PF.small ⟨f.d,[]⟩:=by rw[ef];exact hs
   have es2:PF.now ⟨f.d,[]⟩=s:=by rw[ef];exact es
   refine Sim.after (wE hΓ (by simp +decide [zAt,rowActs,zAS,hs2,es2,h1,h2,h3,hz];exact wT) ?_);refine Aft.closeR (⟨f.d,f.acts++[.cut n.toNat]⟩:PF) 0 4 (x:=.slice 4 0 1 3 false) rfl (by simp[AW,hz]) (by simp[hz,zAS,FAct.cells,n0]) (by decide) (by simp) (Aft.done (by simp) ⟨by first | exact .inl rfl | exact .inr rfl,_,by simp[Tryz.f250] <;> rfl,Weak.mk' [0] (by decide) rfl (by simp) (zR (b:=0) (by simp) _ _ rfl fun i c x h1 h2=>?_)⟩)
   match i,h1,h2 with
   | 0,h1,h2=>cases h1;cases h2;exact .inl ⟨rfl,rfl⟩
 · refine Sim.after (wE hΓ (by simp +decide [zAt,hs,es,h1,h2,h3,hz,b1,b2,b3,b4];exact wT) ?_)
   refine Aft.closeR (⟨f.d,f.acts++[.cut n.toNat]⟩:PF) 0 5 (x:=.slice 5 0 (f.acts.length+1) 3 false) rfl (by simp[AW]) (by simp[zGG,zAS,FAct.cells,n0]) (by decide) (by simp) (Aft.done (by simp) ⟨by first | exact .inl rfl | exact .inr rfl,_,by simp[Tryz.f250] <;> rfl,Weak.mk' [0] (by decide) rfl (by simp) (zR (b:=0) (by simp) _ _ rfl fun i c x h1 h2=>?_)⟩)
   match i,h1,h2 with
   | 0,h1,h2=>cases h1;cases h2;exact .inl ⟨rfl,rfl⟩
end
section
open Go
noncomputable section
open Classical
def zUM:zS:=zBc zGF PF.rblks fun f xs _=>match xs with
 | [.int .i64 n]=>if f.small then some ((f.cut n).1,.int .i64 (f.cut n).2) else none
 | _=>none
theorem zOG:Sound Pz 250 zUM:=by
 refine zg (zD Tryz.func250 rfl (by decide)) (fun _ _=>zIL) fun f xs H s' v b hg hb=>?_;split at hg;rotate_left
 · cases hg
 split at hg <;> cases hg
 rename_i hs;exact zy (zS8 f _ hs) rfl rfl hb
def zRm:zS:=zBc zGF PF.rblks fun f xs _=>match xs with
 | []=>if f.small then some (⟨f.now,[]⟩,.tuple []) else none
 | _=>none
theorem zMY:Sound Pz 168 zRm:=by
 refine zg (zD Tryz.func168 rfl (by decide)) (fun _ _=>zIL) fun f xs H s' v b hg hb=>?_;split at hg;rotate_left
 · cases hg
 split at hg <;> cases hg
 rename_i hs;exact zy (zSs f hs) rfl rfl hb
end
end
section
open Go
attribute [-simp] zG zT zc zJ zn
end
section
open Go
attribute [-simp] zG zT zc zJ zn
noncomputable section
open Classical
end
end
end Go.Proofs.YtfhidaoiofeooaaGreatDoor
