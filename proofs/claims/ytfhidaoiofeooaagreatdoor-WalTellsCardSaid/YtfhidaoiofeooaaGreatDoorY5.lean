/- Parts of the proof of WalTells: lemmas, each with its own conditions. -/
import Derived.Test.YtfhidaoiofeooaaGreatDoorY4
set_option maxHeartbeats 64000000
open List renaming getElem?_eq_some_iff → q1Z, getD_eq_getElem?_getD → q2Z, getElem?_eq_getElem → q3Z, getElem?_append_left → q4Z, mem_of_getElem? → qcZ, length_append → qdZ, getElem?_set_ne → qfZ, getElem?_set_self → qgZ, length_drop → qkZ, mem_cons → qwZ, mem_append → qxZ, getElem?_map → qzZ, getElem?_drop → r5Z, length_map → r7Z, length_set → r8Z, nodup_cons → rdZ, getElem?_append → s7Z
open Option renaming map_eq_some_iff → qlZ, getD_some → rgZ, bind_eq_some_iff → s6Z
open Nat renaming le_refl → qnZ, zero_le → qqZ, lt_or_ge → s2Z
open Bool renaming and_eq_true → qrZ, false_eq_true → qsZ
namespace Go.Proofs.YtfhidaoiofeooaaGreatDoor
set_option maxRecDepth 100000
section
open Go
mutual
def awB(rn:List Nat):AV->AV->Bool
 | .top,_=>true
 | .bool b,.bool b'=>b==b'
 | .int k n,.int k' n'=>k==k'&&n==n'
 | .str s,.str s'=>s==s'
 | .ptr b o,.ptr b' o'=>rn[b]? == some b'&&o==o'
 | .nilp,.nilp=>true
 | .slice b o l sz c,.slice b' o' l' sz' c'=>rn[b]? == some b'&&(o==o'&&(l==l'&&(sz==sz'&&(!c || c'))))
 | .sl b o l sz c,.slice b' o' l' sz' c'=>rn[b]? == some b'&&(o==o'&&(l==l'&&(sz==sz'&&(!c || c'))))
 | .sl b o l sz c,.sl b' o' l' sz' c'=>rn[b]? == some b'&&(o==o'&&(l==l'&&(sz==sz'&&(!c || c'))))
 | .sl _ _ l _ _,.nils=>l==0
 | .nils,.nils=>true
 | .map b,.map b'=>rn[b]? == some b'
 | .nilm,.nilm=>true
 | .func f xs ys,.func f' xs' ys'=>f==f'&&(zGv rn xs xs'&&zGv rn ys ys')
 | .yld b,.yld b'=>rn[b]? == some b'
 | .nilf,.nilf=>true
 | .agg l,.agg l'=>zGv rn l l'
 | .tuple l,.tuple l'=>zGv rn l l'
 | _,_=>false
def zGv(rn:List Nat):List AV->List AV->Bool
 | [],[]=>true
 | x::xs,y::ys=>awB rn x y&&zGv rn xs ys
 | _,_=>false
end
mutual
theorem zY6{rn:List Nat}:∀(x y:AV),awB rn x y=true->AW rn x y
 | .top,_,_=>by simp[AW]
 | .bool b,y,h=>by cases y <;> simp_all [awB,AW]
 | .int k n,y,h=>by cases y <;> simp_all [awB,AW]
 | .str s,y,h=>by cases y <;> simp_all [awB,AW]
 | .ptr b o,y,h=>by cases y <;> simp_all [awB,AW]
 | .nilp,y,h=>by cases y <;> simp_all [awB,AW]
 | .slice b o l sz c,y,h=>by
   cases y <;> simp only[awB,qsZ,qrZ,beq_iff_eq,Bool.or_eq_true,Bool.not_eq_true']at h
   simp only[AW];obtain⟨h1,h2,h3,h4,h5⟩:=h;exact⟨h1,h2,h3,h4,fun hc=>by rcases h5 with h5 | h5 <;> simp_all⟩
 | .sl b o l sz c,y,h=>by
   cases y <;> simp only[awB,qsZ,qrZ,beq_iff_eq,Bool.or_eq_true,Bool.not_eq_true']at h
   · simp only[AW]
     obtain⟨h1,h2,h3,h4,h5⟩:=h;exact⟨h1,h2,h3,h4,fun hc=>by rcases h5 with h5 | h5 <;> simp_all⟩
   · simp only[AW]
     obtain⟨h1,h2,h3,h4,h5⟩:=h;exact⟨h1,h2,h3,h4,fun hc=>by rcases h5 with h5 | h5 <;> simp_all⟩
   · simpa only[AW] using h
 | .nils,y,h=>by cases y <;> simp_all [awB,AW]
 | .map b,y,h=>by cases y <;> simp_all [awB,AW]
 | .nilm,y,h=>by cases y <;> simp_all [awB,AW]
 | .func f xs ys,y,h=>by
   cases y <;> simp only[awB,qsZ,qrZ,beq_iff_eq]at h
   simp only[AW];exact⟨h.1,zBV _ _ h.2.1,zBV _ _ h.2.2⟩
 | .yld b,y,h=>by cases y <;> simp_all [awB,AW]
 | .nilf,y,h=>by cases y <;> simp_all [awB,AW]
 | .agg l,y,h=>by
   cases y <;> simp only[awB,qsZ]at h
   simp only[AW];exact zBV _ _ h
 | .tuple l,y,h=>by
   cases y <;> simp only[awB,qsZ]at h
   simp only[AW];exact zBV _ _ h
theorem zBV{rn:List Nat}:∀(xs ys:List AV),zGv rn xs ys=true->AWs rn xs ys
 | [],ys,h=>by cases ys <;> simp_all [zGv,AWs]
 | x::xs,ys,h=>by
   cases ys <;> simp only[zGv,qsZ,qrZ]at h
   simp only[AWs];exact⟨zY6 _ _ h.1,zBV _ _ h.2⟩
end
def zYy(rn:List Nat):ABlk->ABlk->Bool
 | .dead,_=>true
 | .cells o l,.cells o' l'=>(!o || o')&&zGv rn l l'
 | .map es,.map es'=>zGv rn (es.map (·.1)) (es'.map (·.1))&&zGv rn (es.map (·.2)) (es'.map (·.2))
 | .pin l,.pin l'=>zGv rn l l'
 | _,_=>false
theorem zXU{rn:List Nat}{x y:ABlk}(h:zYy rn x y=true):AWb rn x y:=by
 cases x <;> cases y <;> simp only[zYy,qsZ,qrZ,Bool.or_eq_true,Bool.not_eq_true']at h
 all_goals simp only[AWb]
 · exact⟨fun ho=>by rcases h.1 with h1 | h1 <;> simp_all,zBV _ _ h.2⟩
 · exact⟨zBV _ _ h.1,zBV _ _ h.2⟩
 · exact zBV _ _ h
def zV2(rn:List Nat)(H:zA):zA->List Nat->Bool
 | [],[]=>true
 | x::xs,b::bs=>(if b<H.length then zYy rn x (H.getD b .dead) else true)&&zV2 rn H xs bs
 | _,_=>false
theorem zRZ{rn:List Nat}{H:zA}:∀{xs:zA} {bs:List Nat},zV2 rn H xs bs=true->AWg rn H xs bs
 | [],bs,h=>by cases bs <;> simp_all [zV2,AWg]
 | x::xs,bs,h=>by
   cases bs <;> simp only[zV2,qsZ,qrZ]at h
   simp only[AWg];refine ⟨?_,zRZ h.2⟩;split
   · rename_i hb
     have h1:=h.1;rw[if_pos hb]at h1;exact zXU h1
   · trivial
def zXJ:List Nat->Bool
 | []=>true
 | x::l=>!l.contains x&&zXJ l
theorem zRW:∀{l:List Nat},zXJ l=true->l.Nodup
 | [],_=>by simp
 | x::l,h=>by
   simp only[zXJ,qrZ,Bool.not_eq_true',List.contains_eq_mem,decide_eq_false_iff_not]at h;exact rdZ.2 ⟨h.1,zRW h.2⟩
def zR6(n:Nat)(rn:List Nat)(F:List AV)(H:zA)(Fn:List AV)(Hn:zA):Bool :=
 zXJ rn&&(rn.take n==List.range n&&(zGv rn Fn F&&zV2 rn H Hn rn))
theorem zUJ{n:Nat}{rn:List Nat}{F Fn:List AV}{H Hn:zA}(h:zR6 n rn F H Fn Hn=true):Weak n F H Fn Hn:=by
 simp only[zR6,qrZ,beq_iff_eq]at h;exact Weak.mk' rn (zRW h.1) h.2.1 (zBV _ _ h.2.2.1) (zRZ h.2.2.2)
def zUL(P:Program)(rs:List ResultVar)(r:zQD):Bool :=
 match r with
 | some (.ret,F',H')=>(match zDB P rs F' H' with | some (.bool true)=>true | _=>false)
 | some (.normal,F',H')=>(match zDB P rs F' H' with | some (.bool true)=>true | _=>false)
 | _=>false
theorem Sim.kret{P:Program}{Γ:Gam}(hm:P.follows .mixedOrders=true)(hΓ:GOk P Γ){n:Nat}{c:Code}{F:List AV}{H:zA}{rs:List ResultVar}(h:zUL P rs (zw P Γ n true c F H)=true) :
   Sim P none ([]:zA).length c F H fun x F1 H1=>(x=.normal\/x=.ret)/\∃v1,zDB P rs F1 H1=some v1/\Weak ([]:zA).length [v1] H1 [.bool true] []:=by
 have key:∀x F' H',zw P Γ n true c F H=some (x,F',H')->(x=.normal\/x=.ret)->zDB P rs F' H'=some (.bool true)->Sim P none ([]:zA).length c F H fun x F1 H1=>(x=.normal\/x=.ret)/\∃v1,zDB P rs F1 H1=some v1/\Weak ([]:zA).length [v1] H1 [.bool true] []:=by
   intro x F' H' h1 h2 h3;refine ((Ze hm hΓ none n true (fun _=>rfl) c F F' H H' x h1).len (qqZ _)).mono ?_;rintro x1 F1 H1 _ ⟨rfl,rfl,rfl⟩;exact⟨h2,_,h3,Weak.mk' [] (by decide) rfl (by simp[AWs,AW]) (by simp[AWg])⟩
 unfold zUL at h;split at h
 · rename_i F' H' h1
   split at h
   · rename_i h2;exact key _ _ _ h1 (.inr rfl) h2
   · cases h
 · rename_i F' H' h1
   split at h
   · rename_i h2;exact key _ _ _ h1 (.inl rfl) h2
   · cases h
 · cases h
def zDM(P:Program)(Γ:Gam)(n:Nat)(q:Bool):Nat->Code->List AV->zA->Option (List AV×zA)
 | 0,_,F,H=>some (F,H)
 | k+1,.seq x y,F,H=>match zw P Γ n q x F H with
   | some (.normal,F',H')=>zDM P Γ n q k y F' H'
   | _=>none
 | _+1,_,_,_=>none
theorem zJc{P:Program}{Γ:Gam}(hm:P.follows .mixedOrders=true)(hΓ:GOk P Γ){r:Option Nat}{n0 n:Nat}{Q:AX->List AV->zA->Prop}:∀(k:Nat) (c:Code) (F F':List AV) (H H':zA),zDM P Γ n r.isNone k c F H=some (F',H')->n0<=H.length ->
   (n0<=H'.length->Sim P r n0 (zAY k c) F' H' Q)->Sim P r n0 c F H Q
 | 0,c,F,F',H,H',h,hn,hk=>by
   cases h;exact hk hn
 | k+1,c,F,F',H,H',h,hn,hk=>by
   cases c with
   | seq x y =>
     simp only[zDM]at h;split at h
     · rename_i F1 H1 h1
       have hr:r.isNone=true->r=none:=by intro e;cases r <;> simp_all
       refine Sim.seq (((Ze hm hΓ r n r.isNone hr x F F1 H H1 .normal h1).len hn).mono ?_);rintro x1 F2 H2 hl ⟨rfl,rfl,rfl⟩;exact zJc hm hΓ k y _ F' _ H' h hl hk
     · cases h
   | _=>simp[zDM]at h
def zT8(n:Nat)(rn:List Nat)(r:Option (List AV×zA))(Fn:List AV)(Hn:zA):Bool :=
 match r with
 | some (F',H')=>zR6 n rn F' H' Fn Hn
 | none=>false
theorem Sim.kmany{P:Program}{Γ:Gam}(hm:P.follows .mixedOrders=true)(hΓ:GOk P Γ){r:Option Nat}{n0 n:Nat}{c:Code}{F Fn:List AV}{H Hn:zA}{Q:AX->List AV->zA->Prop}(k:Nat)(rn:List Nat)(h:zT8 n0 rn (zDM P Γ n r.isNone k c F H) Fn Hn=true)(hn:n0<=H.length)
   (kk:Sim P r n0 (zAY k c) Fn Hn Q):Sim P r n0 c F H Q:=by
 unfold zT8 at h;split at h
 · rename_i F' H' h1
   exact zJc hm hΓ k c F F' H H' h1 hn fun hl=>Sim.weak (zUJ h) hl kk
 · cases h
def zOF:AV->Nat
 | .ptr b _=>b
 | .slice b _ _ _ _=>b
 | .sl b _ _ _ _=>b
 | .map b=>b
 | .yld b=>b
 | _=>0
mutual
def zZ5:AV->AV->List (Nat×Nat)
 | .ptr b _,y=>[(b,zOF y)]
 | .slice b _ _ _ _,y=>[(b,zOF y)]
 | .sl b _ _ _ _,y=>[(b,zOF y)]
 | .map b,y=>[(b,zOF y)]
 | .yld b,y=>[(b,zOF y)]
 | .func _ xs ys,.func _ xs' ys'=>zCY xs xs'++zCY ys ys'
 | .agg l,.agg l'=>zCY l l'
 | .tuple l,.tuple l'=>zCY l l'
 | _,_=>[]
def zCY:List AV->List AV->List (Nat×Nat)
 | x::l,y::l'=>zZ5 x y++zCY l l'
 | _,_=>[]
end
def zZt:ABlk->ABlk->List (Nat×Nat)
 | .cells _ l,.cells _ l'=>zCY l l'
 | .map es,.map es'=>zCY (es.map (·.1)) (es'.map (·.1))++zCY (es.map (·.2)) (es'.map (·.2))
 | .pin l,.pin l'=>zCY l l'
 | _,_=>[]
def zPm(Hn H:zA):Nat->List (Nat×Nat)->List (Nat×Nat)->List (Nat×Nat)
 | 0,_,seen=>seen
 | _+1,[],seen=>seen
 | n+1,(a,b)::todo,seen=>if seen.any (fun x=>x.1==a) then zPm Hn H n todo seen else zPm Hn H n (zZt (Hn.getD a .dead) (H.getD b .dead)++todo) ((a,b)::seen)
def zZA(Fn F:List AV)(Hn H:zA):List Nat :=
 (List.range Hn.length).map fun i=>match (zPm Hn H 20000 (zCY Fn F) []).find? (fun x=>x.1==i) with | some x=>x.2 | none=>i
def zM7(n:Nat)(r:Option (List AV×zA))(Fn:List AV)(Hn:zA):Bool :=
 match r with
 | some (F',H')=>zR6 n (zZA Fn F' Hn H') F' H' Fn Hn
 | none=>false
theorem Sim.kmanyM{P:Program}{Γ:Gam}(hm:P.follows .mixedOrders=true)(hΓ:GOk P Γ){r:Option Nat}{n0 n:Nat}{c:Code}{F Fn:List AV}{H Hn:zA}{Q:AX->List AV->zA->Prop}(k:Nat)(h:zM7 n0 (zDM P Γ n r.isNone k c F H) Fn Hn=true)(hn:n0<=H.length)
   (kk:Sim P r n0 (zAY k c) Fn Hn Q):Sim P r n0 c F H Q:=by
 unfold zM7 at h;split at h
 · rename_i F' H' h1
   exact Sim.kmany hm hΓ k _ (by unfold zT8;rw[h1];exact h) hn kk
 · cases h
theorem Zv(k k':IntKind)(x y:Int):zAx false (.int k x) (.int k' y)=some (.int k (min x y)):=by
 unfold zAx;simp only[qsZ,if_false];congr 2;omega
theorem zAW(k k':IntKind)(x y:Int):zAx true (.int k x) (.int k' y)=some (.int k (max x y)):=by
 unfold zAx;simp only[if_true];congr 2;omega
end
section
open Go
def Zr(b k:Nat)(i:Nat):Nat:=if i=0 then b else k+(i-1)
def zNq(b k:Nat)(j js:Inj)(o:Bool):Inj :=
 ⟨fun c=>if c<k then j c else if o then js (c-k+1) else none,
  fun c=>if c=b then js.foot 0 else if c<k then j.foot c else js.foot (c-k+1),
  fun c=>if c=b then js.shr 0 else if c<k then j.shr c else js.shr (c-k+1)⟩
def zY(H:zA)(b:Nat)(sub:zA):zA:=H.set b (reB (Zr b H.length) (sub.getD 0 .dead))++(sub.drop 1).map (reB (Zr b H.length))
theorem Step.open{n:Nat}{j:Inj}{H:zA}{w:World}(hR:R j H w){b:Nat}{sub:zA}(hb:H[b]? = some (.obj true sub))(hn:n<=H.length) :
   ∃j',(∀c p,j c=some p->j' c=some p)/\Step n j H w j' (zY H b sub) w:=by
 have hbl:b<H.length:=(q1Z.1 hb).1;cases hjb:j b with
 | none =>
   refine ⟨j,fun _ _ h=>h,?_⟩;have hof:∀c x p,(zY H b sub)[c]? = some x->j c=some p->H[c]? = some x:=by
     intro c x p hc hp;have hcl:c<H.length:=by
       rcases s2Z c H.length with h1 | h1
       · exact h1
       · rw[hR.dom c h1]at hp;cases hp
     have hcb:c≠b:=by rintro rfl;rw[hjb]at hp;cases hp
     unfold zY at hc;rw[q4Z (by simpa using hcl),qfZ (Ne.symm hcb)]at hc;exact hc
   exact Step.make hR ⟨fun c hc=>hR.dom c (by unfold zY at hc;simp at hc;omega),fun c x p hc hp=>hR.blk c x p (hof c x p hc hp) hp,fun c c' y x p p' hc hy hc' hx hne hp hp'=>hR.inj c c' y x p p' (hof _ _ _ hc hp) hy (hof _ _ _ hc' hp') hx hne hp hp'⟩ (fun _ _=>rfl) (by unfold zY;simp;omega) (Keeps0.refl _ _ _) fun c x p hc hx hp=>.same (hof c x p hc hp) hx hp rfl rfl
 | some p =>
   obtain⟨js,ok,hS⟩:=hR.obj b true sub p hb hjb
   let g:=Zr b H.length
   let J:=zNq b H.length j js true
   have hJat:∀c,J c=if c<H.length then j c else js (c-H.length+1):=fun c=>by simp[J,zNq]
   have hle:JLe j J:=by
     intro c q hq;have hcl:c<H.length:=by
       rcases s2Z c H.length with h1 | h1
       · exact h1
       · rw[hR.dom c h1]at hq;cases hq
     rw[hJat,if_pos hcl];exact hq
   have hJ:∀i q,js i=some q->J (g i)=some q:=by
     intro i q hq;by_cases hi:i=0
     · subst hi
       rw[ok.root]at hq;cases hq;simp only[g,Zr,if_true];rw[hJat,if_pos hbl];exact hjb
     · simp only[g,Zr,if_neg hi]
       rw[hJat,if_neg (by omega),show H.length+(i-1)-H.length+1=i by omega];exact hq
   have hcase:∀c x q,(zY H b sub)[c]? = some x->J c=some q ->
       (c<H.length/\c≠b/\H[c]? = some x/\j c=some q)\/(∃i y,(c=b/\i=0\/c=H.length+(i-1)/\0<i)/\sub[i]? = some y/\x=reB g y/\js i=some q):=by
     intro c x q hc hq;rw[hJat]at hq;unfold zY at hc;rw[s7Z,r8Z]at hc;split at hc <;> rename_i hcl
     · rw[if_pos hcl]at hq
       by_cases hcb:c=b
       · subst hcb
         rw[qgZ hcl]at hc;obtain⟨B,hB,_⟩:=ok.own;rw[q2Z,hB]at hc;rw[hjb]at hq;cases hq;exact .inr ⟨0,B,.inl ⟨rfl,rfl⟩,hB,(Option.some.inj hc).symm,ok.root⟩
       · rw[qfZ (Ne.symm hcb)]at hc
         exact .inl ⟨hcl,hcb,hc,hq⟩
     · rw[if_neg hcl]at hq
       rw[qzZ,r5Z]at hc;obtain⟨y,hy,rfl⟩:=qlZ.1 hc;exact .inr ⟨c-H.length+1,y,.inr ⟨by omega,by omega⟩,by rw[<-hy];congr 1;omega,rfl,hq⟩
   have hfoot:∀c i,(c=b/\i=0\/c=H.length+(i-1)/\0<i)->J.foot c=js.foot i/\J.shr c=js.shr i:=by
     rintro c i (⟨rfl,rfl⟩ | ⟨rfl,hi⟩)
     · simp[J,zNq]
     · have h1:¬H.length+(i-1)=b:=by omega
       have h2:¬H.length+(i-1)<H.length:=by omega
       have h3:H.length+(i-1)-H.length+1=i:=by omega
       simp only[J,zNq,h1,h2,h3,if_false,and_self]
   have hfootH:∀c,c<H.length->c≠b->J.foot c=j.foot c/\J.shr c=j.shr c:=by
     intro c h1 h2;simp only[J,zNq,if_neg h2,if_pos h1,and_self]
   have subO:∀(i:Nat) y q c x,(c=b/\i=0\/c=H.length+(i-1)/\0<i)->sub[i]? = some y->x=reB g y->js i=some q->x.own=true->y.own=true/\∀u,(u=q.blk\/u∈Z2 J x c)->(u=q.blk\/u∈Z2 js y i):=by
     rintro i y q c x hc hy rfl hq ho;refine ⟨by rwa [zIK]at ho,fun u hu=>hu.imp id (zA2 (fun h=>⟨(zFo g h).symm,hfoot c i hc⟩) u)⟩
   have subT:∀(i:Nat) y q c x,(c=b/\i=0\/c=H.length+(i-1)/\0<i)->sub[i]? = some y->x=reB g y->js i=some q->x≠.dead->y≠.dead/\∀u,(u=q.blk\/u∈ZR J x c)->(u=q.blk\/u∈ZR js y i):=by
     rintro i y q c x hc hy rfl hq hx;exact⟨zL7 hx,fun u hu=>hu.imp id (zAv (fun h=>⟨(zFo g h).symm,hfoot c i hc⟩) u)⟩
   have oldO:∀c y,c<H.length->c≠b->∀u,u∈Z2 J y c->u∈Z2 j y c:=fun c y h1 h2 u=>zA2 (fun _=>⟨rfl,hfootH c h1 h2⟩) u;have oldT:∀c y,c<H.length->c≠b->∀u,u∈ZR J y c->u∈ZR j y c:=fun c y h1 h2 u=>zAv (fun _=>⟨rfl,hfootH c h1 h2⟩) u;have mine:∀(i:Nat) y q u,sub[i]? = some y->y.own=true->js i=some q->(u=q.blk\/u∈Z2 js y i)->u=p.blk\/u∈Z2 j (.obj true sub) b:=by
     intro i y q u hy ho hq hu;have hm:=ok.mine i y q hy ho hq;rcases hu with rfl | hu
     · by_cases hi:i=0
       · subst hi;rw[ok.root]at hq;cases hq;exact .inl rfl
       · exact .inr (hm.1 hi)
     · exact .inr (hm.2 u hu)
   have all:∀(i:Nat) y q u,sub[i]? = some y->y≠.dead->js i=some q->(u=q.blk\/u∈ZR js y i)->u=p.blk\/u∈ZR j (.obj true sub) b:=by
     intro i y q u hy ho hq hu;exact ok.tch ⟨i,y,q,hy,ho,hq,hu⟩
   have ap:∀c c' y x q q',(zY H b sub)[c]? = some y->y.own=true->(zY H b sub)[c']? = some x->x≠.dead->c≠c'->J c=some q->J c'=some q'->∀u,(u=q.blk\/u∈Z2 J y c)->¬(u=q'.blk\/u∈ZR J x c'):=by
     intro c c' y x q q' hc hy hc' hx hne hq hq' u hu hv;rcases hcase c y q hc hq with⟨g1,g2,g3,g4⟩ | ⟨i,z,g1,g2,g3,g4⟩ <;> rcases hcase c' x q' hc' hq' with⟨k1,k2,k3,k4⟩ | ⟨i',z',k1,k2,k3,k4⟩
     · exact hR.apart g3 hy k3 hx hne g4 k4 (hu.imp id (oldO c y g1 g2 u)) (hv.imp id (oldT c' x k1 k2 u))
     · obtain⟨t1,t2⟩:=subT i' z' q' c' x k1 k2 k3 k4 hx
       exact hR.apart g3 hy hb (by simp) g2 g4 hjb (hu.imp id (oldO c y g1 g2 u)) (all i' z' q' u k2 t1 k4 (t2 u hv))
     · obtain⟨t1,t2⟩:=subO i z q c y g1 g2 g3 g4 hy
       exact hR.apart hb rfl k3 hx (Ne.symm k2) hjb k4 (mine i z q u g2 t1 g4 (t2 u hu)) (hv.imp id (oldT c' x k1 k2 u))
     · obtain⟨t1,t2⟩:=subO i z q c y g1 g2 g3 g4 hy
       obtain⟨t3,t4⟩:=subT i' z' q' c' x k1 k2 k3 k4 hx;refine hS.apart g2 t1 k2 t3 ?_ g4 k4 (t2 u hu) (t4 u hv);rintro rfl;apply hne;rcases g1 with⟨rfl,h1⟩ | ⟨rfl,h1⟩ <;> rcases k1 with⟨rfl,h2⟩ | ⟨rfl,h2⟩ <;> omega
   have frs:∀u,Occ J (zY H b sub) u->w.heap.size<=u\/Occ j H u:=by
     rintro u ⟨c,y,q,hc,hy,hq,hu⟩;rcases hcase c y q hc hq with⟨g1,g2,g3,g4⟩ | ⟨i,z,g1,g2,g3,g4⟩
     · exact .inr ⟨c,y,q,g3,hy,g4,hu.imp id (oldO c y g1 g2 u)⟩
     · obtain⟨t1,t2⟩:=subO i z q c y g1 g2 g3 g4 hy
       exact .inr ⟨b,_,p,hb,rfl,hjb,mine i z q u g2 t1 g4 (t2 u hu)⟩
   refine ⟨J,hle,R.mk' (fun c hc=>?_) (fun c x q hc hq=>?_) (fun c c' y x q q' hc hy hc' hx hne hq hq'=>(zCC (ap c c' y x q q' hc hy hc' hx hne hq hq')).1) (fun c c' y x q q' hc hy hc' hx hne hq hq'=>(zCC (ap c c' y x q q' hc hy hc' hx hne hq hq')).2) (fun c o s q hc hq=>?_) (hR.glo.next (qnZ _) (fun _ _ _=>rfl) frs),
     fun c hc=>?_,(by unfold zY;simp;omega),Keeps.refl _ _ _,frs,?_⟩
   · unfold zY at hc
     simp only[qdZ,r8Z,r7Z,qkZ]at hc;obtain⟨B,hB,_⟩:=ok.own;have:=(q1Z.1 hB).1;rw[hJat,if_neg (by omega)];exact hS.dom _ (by omega)
   · rcases hcase c x q hc hq with⟨g1,g2,g3,g4⟩ | ⟨i,z,g1,g2,rfl,g4⟩
     · exact (hR.blk c x q g3 g4).mono hle fun _=>rfl
     · exact zQH hJ (hS.blk i z q g2 g4)
   · rcases hcase c _ q hc hq with⟨g1,g2,g3,g4⟩ | ⟨i,z,g1,g2,g3,g4⟩
     · rw[(hfootH c g1 g2).1,(hfootH c g1 g2).2]
       exact hR.obj c o s q g3 g4
     · have hz:z=.obj o s:=by
         have h1:(reB g z).isObj=true:=by rw[<-g3];rfl
         rw[<-zFo g h1];exact g3.symm
       rw[(hfoot c i g1).1,(hfoot c i g1).2];exact hS.obj i o s q (by rw[<-hz];exact g2) g4
   · rw[hJat,if_pos (by omega)]
   · rintro u ⟨c,y,q,hc,hy,hq,hu⟩
     rcases hcase c y q hc hq with⟨g1,g2,g3,g4⟩ | ⟨i,z,g1,g2,g3,g4⟩
     · exact .inr ⟨c,y,q,g3,hy,g4,hu.imp id (oldT c y g1 g2 u)⟩
     · obtain⟨t1,t2⟩:=subT i z q c y g1 g2 g3 g4 (zFa hy)
       exact .inr ⟨b,_,p,hb,rfl,hjb,all i z q u g2 t1 g4 (t2 u hu)⟩
def zDS(H:zA):List Nat->zA
 | []=>H
 | k::ks=>zDS (H.set k .dead) ks
theorem Za:∀(ks:List Nat) (H:zA),(zDS H ks).length=H.length
 | [],_=>rfl
 | k::ks,H=>by rw[zDS,Za ks,r8Z]
theorem zJ4:∀(ks:List Nat) (H:zA) (c:Nat) (x:ABlk),(zDS H ks)[c]? = some x->x≠.dead->c∉ks/\H[c]? = some x
 | [],H,c,x,h,_=>⟨by simp,h⟩
 | k::ks,H,c,x,h,hx=>by
   obtain⟨h1,h2⟩:=zJ4 ks _ c x h hx;rw[List.getElem?_set]at h2;split at h2
   · split at h2
     · cases h2;exact absurd rfl hx
     · cases h2
   · rename_i hne
     exact⟨by simp only[qwZ,not_or];exact⟨fun e=>hne e.symm,h1⟩,h2⟩
def ZH(H:zA)(b:Nat)(ks:List Nat)(o:Bool)(sub:zA):zA:=(zDS H ks).set b (.obj o sub)
def zY1(js:Inj)(sub:zA)(i:Nat):List Nat:=match js i with
 | some q=>if (sub.getD i .dead).own=true then (if i=0 then [] else [q.blk])++Z2 js (sub.getD i .dead) i else []
 | none=>[]
def zZI(js:Inj)(sub:zA)(i:Nat):List Nat:=match js i with
 | some q=>if (sub.getD i .dead).str=true then (if i=0 then [] else [q.blk])++ZR js (sub.getD i .dead) i else []
 | none=>[]
def zRd(js:Inj)(sub:zA):List Nat:=(List.range sub.length).flatMap (zY1 js sub)
def zXj(js:Inj)(sub:zA):List Nat:=(List.range sub.length).flatMap (zZI js sub)
theorem mem_footL{js:Inj}{sub:zA}{u:Nat}:u∈zRd js sub↔∃(i:Nat) (y:ABlk) (q:JB),sub[i]? = some y/\y.own=true/\js i=some q/\(i≠0/\u=q.blk\/u∈Z2 js y i):=by
 unfold zRd;rw[List.mem_flatMap];constructor
 · rintro⟨i,hi,hu⟩
   have hil:i<sub.length:=List.mem_range.1 hi;have hg:sub.getD i .dead=sub[i]:=by rw[q2Z,q3Z hil];rfl
   unfold zY1 at hu;split at hu
   · rename_i q hq
     rw[hg]at hu;split at hu
     · rename_i ho
       rcases qxZ.1 hu with h1 | h1
       · split at h1
         · cases h1
         · rename_i h0
           exact⟨i,_,q,q3Z hil,ho,hq,.inl ⟨h0,by simpa using h1⟩⟩
       · exact⟨i,_,q,q3Z hil,ho,hq,.inr h1⟩
     · cases hu
   · cases hu
 · rintro⟨i,y,q,hy,ho,hq,hu⟩
   have hil:i<sub.length:=(q1Z.1 hy).1;refine ⟨i,List.mem_range.2 hil,?_⟩;unfold zY1;rw[hq];simp only[q2Z,hy,rgZ];rw[if_pos ho,qxZ];rcases hu with⟨h0,rfl⟩ | hu
   · rw[if_neg h0];exact .inl (by simp)
   · exact .inr hu
theorem mem_shrL{js:Inj}{sub:zA}{u:Nat}:u∈zXj js sub↔∃(i:Nat) (y:ABlk) (q:JB),sub[i]? = some y/\y.str=true/\js i=some q/\(i≠0/\u=q.blk\/u∈ZR js y i):=by
 unfold zXj;rw[List.mem_flatMap];constructor
 · rintro⟨i,hi,hu⟩
   have hil:i<sub.length:=List.mem_range.1 hi;have hg:sub.getD i .dead=sub[i]:=by rw[q2Z,q3Z hil];rfl
   unfold zZI at hu;split at hu
   · rename_i q hq
     rw[hg]at hu;split at hu
     · rename_i ho
       rcases qxZ.1 hu with h1 | h1
       · split at h1
         · cases h1
         · rename_i h0
           exact⟨i,_,q,q3Z hil,ho,hq,.inl ⟨h0,by simpa using h1⟩⟩
       · exact⟨i,_,q,q3Z hil,ho,hq,.inr h1⟩
     · cases hu
   · cases hu
 · rintro⟨i,y,q,hy,ho,hq,hu⟩
   have hil:i<sub.length:=(q1Z.1 hy).1;refine ⟨i,List.mem_range.2 hil,?_⟩;unfold zZI;rw[hq];simp only[q2Z,hy,rgZ];rw[if_pos ho,qxZ];rcases hu with⟨h0,rfl⟩ | hu
   · rw[if_neg h0];exact .inl (by simp)
   · exact .inr hu
theorem Step.close{n:Nat}{j:Inj}{H:zA}{w:World}(hR:R j H w){b:Nat}{rs ks:List Nat}{sub:zA}{o:Bool}(h0:rs[0]? = some b)(hnd:rs.Nodup)(hbl:b<H.length)(hks:∀c x,c∈rs->c≠b->H[c]? = some x->x.own=true->c∈ks)(hh:AWg rs H sub rs)
   (hown:∃B,sub[0]? = some B/\B.own=true) (hstr:∀(i:Nat) (y:ABlk),sub[i]? = some y->y≠.dead->y.str=true) (hn:n<=H.length) :
   ∃j',(∀c p,j c=some p->j' c=some p)/\Step n j H w j' (ZH H b ks o sub) w:=by
 obtain⟨hl,hat⟩:=hh.at
 let js:=zEA rs j
 have hS:R js sub w:=hR.ren hnd hh;have hbm:b∈rs:=qcZ h0
 let J:Inj:=⟨j.fn,fun c=>if c=b then zRd js sub else j.foot c,fun c=>if c=b then zXj js sub else j.shr c⟩
 have hJ:∀c,J c=j c:=fun _=>rfl;have hcase:∀c x,(ZH H b ks o sub)[c]? = some x->x≠.dead->(c≠b/\c∉ks/\H[c]? = some x)\/(c=b/\x=.obj o sub):=by
   intro c x hc hx;unfold ZH at hc;by_cases hcb:c=b
   · subst hcb
     rw[qgZ (by rw[Za];exact hbl)]at hc;exact .inr ⟨rfl,(Option.some.inj hc).symm⟩
   · rw[qfZ (Ne.symm hcb)]at hc
     obtain⟨h1,h2⟩:=zJ4 _ _ _ _ hc hx;exact .inl ⟨hcb,h1,h2⟩
 have hfr:∀(i c:Nat),rs[i]? = some c->js.foot i=j.foot c/\js.shr i=j.shr c:=by
   intro i c hi;have hg:rs.getD i 0=c:=by rw[q2Z,hi];rfl
   exact⟨by show j.foot (rs.getD i 0)=_;rw[hg],by show j.shr (rs.getD i 0)=_;rw[hg]⟩
 have hsub:∀(i:Nat) y q,sub[i]? = some y->js i=some q->∃c z,rs[i]? = some c/\c∈rs/\j c=some q/\H[c]? = some z/\AWb rs y z:=by
   intro i y q hy hq;obtain⟨c,h1,h2⟩:=s6Z.1 hq;have hm:=qcZ h1;have hcl:c<H.length:=by
     rcases s2Z c H.length with h3 | h3
     · exact h3
     · rw[hR.dom c h3]at h2;cases h2
   obtain⟨z,h3,h4⟩:=hat i y c hy h1 hcl;exact⟨c,z,h1,hm,h2,h3,h4⟩
 have occS:∀u,Occ js sub u->∃c z q,c∈rs/\H[c]? = some z/\z.own=true/\j c=some q/\(u=q.blk\/u∈Z2 j z c):=by
   rintro u ⟨i,y,q,hy,ho,hq,hu⟩;obtain⟨c,z,h1,h2,h3,h4,h5⟩:=hsub i y q hy hq;exact⟨c,z,q,h2,h4,h5.own ho,h3,hu.imp id (zA2 (fun h=>⟨h5.obj h,hfr i c h1⟩) u)⟩
 have tchS:∀u,Tch js sub u->∃c z q,c∈rs/\H[c]? = some z/\z.str=true/\j c=some q/\(u=q.blk\/u∈ZR j z c):=by
   rintro u ⟨i,y,q,hy,hd,hq,hu⟩;obtain⟨c,z,h1,h2,h3,h4,h5⟩:=hsub i y q hy hq;exact⟨c,z,q,h2,h4,zLx h5.own h5.obj (hstr i y hy hd),h3,hu.imp id (zAv (fun h=>⟨h5.obj h,hfr i c h1⟩) u)⟩
 have hjs0:js 0=j b:=by show (rs[0]?).bind j=_;rw[h0];rfl
 have foot_occ:∀u,u∈zRd js sub->Occ js sub u:=by
   intro u hu;obtain⟨i,y,q,h1,h2,h3,h4⟩:=mem_footL.1 hu;exact⟨i,y,q,h1,h2,h3,h4.imp (·.2) id⟩
 have shr_tch:∀u,u∈zXj js sub->Tch js sub u:=by
   intro u hu;obtain⟨i,y,q,h1,h2,h3,h4⟩:=mem_shrL.1 hu;exact⟨i,y,q,h1,zFa h2,h3,h4.imp (·.2) id⟩
 have rootO:∀p,j b=some p->Occ js sub p.blk:=by
   intro p hp;obtain⟨B,h1,h2⟩:=hown;exact⟨0,B,p,h1,h2,hjs0.trans hp,.inl rfl⟩
 have objT:∀p u,j b=some p->(u=p.blk\/u∈ZR J (.obj o sub) b)->Tch js sub u:=by
   intro p u hp hu;rcases hu with rfl | hu
   · exact (rootO p hp).tch
   · simp only[ZR,J,if_true,qxZ]at hu
     rcases hu with hu | hu
     · exact (foot_occ u hu).tch
     · exact shr_tch u hu
 have objO:∀p u,j b=some p->o=true->(u=p.blk\/u∈Z2 J (.obj o sub) b)->Occ js sub u:=by
   intro p u hp ho hu;subst ho;rcases hu with rfl | hu
   · exact rootO p hp
   · simp only[Z2,J,if_true]at hu
     exact foot_occ u hu
 have oldF:∀c,c≠b->J.foot c=j.foot c/\J.shr c=j.shr c:=fun c h=>by simp only[J,if_neg h,and_self]
 have ap:∀c c' y x q q',(ZH H b ks o sub)[c]? = some y->y.own=true->(ZH H b ks o sub)[c']? = some x->x≠.dead->c≠c'->J c=some q->J c'=some q'->∀u,(u=q.blk\/u∈Z2 J y c)->¬(u=q'.blk\/u∈ZR J x c'):=by
   intro c c' y x q q' hc hy hc' hx hne hq hq' u hu hv;rcases hcase c y hc (Zn hy) with⟨g1,g2,g3⟩ | ⟨rfl,rfl⟩ <;> rcases hcase c' x hc' hx with⟨k1,k2,k3⟩ | ⟨rfl,rfl⟩
   · exact hR.apart g3 hy k3 hx hne hq hq' (hu.imp id (zA2 (fun _=>⟨rfl,oldF c g1⟩) u)) (hv.imp id (zAv (fun _=>⟨rfl,oldF c' k1⟩) u))
   · obtain⟨c0,z,q0,m1,m2,m3,m4,m5⟩:=tchS u (objT q' u hq' hv)
     exact hR.apart g3 hy m2 (zFa m3) (fun e=>g2 (hks c y (e▸m1) g1 g3 hy)) hq m4 (hu.imp id (zA2 (fun _=>⟨rfl,oldF c g1⟩) u)) m5
   · obtain⟨c0,z,q0,m1,m2,m3,m4,m5⟩:=occS u (objO q u hq hy hu)
     exact hR.apart m2 m3 k3 hx (fun e=>k2 (hks c' z (e▸m1) k1 (e▸m2) m3)) m4 hq' m5 (hv.imp id (zAv (fun _=>⟨rfl,oldF c' k1⟩) u))
   · exact hne rfl
 have frs:∀u,Occ J (ZH H b ks o sub) u->w.heap.size<=u\/Occ j H u:=by
   rintro u ⟨c,y,q,hc,hy,hq,hu⟩;rcases hcase c y hc (Zn hy) with⟨g1,g2,g3⟩ | ⟨rfl,rfl⟩
   · exact .inr ⟨c,y,q,g3,hy,hq,hu.imp id (zA2 (fun _=>⟨rfl,oldF c g1⟩) u)⟩
   · obtain⟨c0,z,q0,m1,m2,m3,m4,m5⟩:=occS u (objO q u hq hy hu)
     exact .inr ⟨c0,z,q0,m2,m3,m4,m5⟩
 refine ⟨J,fun c p h=>h,R.mk' (fun c hc=>?_) (fun c x q hc hq=>?_) (fun c c' y x q q' hc hy hc' hx hne hq hq'=>(zCC (ap c c' y x q q' hc hy hc' hx hne hq hq')).1) (fun c c' y x q q' hc hy hc' hx hne hq hq'=>(zCC (ap c c' y x q q' hc hy hc' hx hne hq hq')).2) (fun c o' s q hc hq=>?_) (hR.glo.next (qnZ _) (fun _ _ _=>rfl) frs),
   fun c _=>rfl,(by unfold ZH;rw[r8Z,Za];exact hn),Keeps.refl _ _ _,frs,?_⟩
 · unfold ZH at hc
   rw[r8Z,Za]at hc;exact hR.dom c hc
 · by_cases hd:x=.dead
   · subst hd;trivial
   rcases hcase c x hc hd with⟨g1,g2,g3⟩ | ⟨rfl,rfl⟩
   · exact (hR.blk c x q g3 hq).mono (fun _ _ h=>h) fun _=>rfl
   · trivial
 · rcases hcase c _ hc (by simp) with⟨g1,g2,g3⟩ | ⟨rfl,e⟩
   · rw[(oldF c g1).1,(oldF c g1).2]
     exact hR.obj c o' s q g3 hq
   · cases e
     refine ⟨js,⟨hjs0.trans hq,hown,hS.nd (rootO q hq).tch,fun u hu=>hS.nd (objT q u hq (.inr (by simpa only[ZR] using hu))),?_,hstr,?_⟩,hS⟩
     · intro i y p hy ho hp
       simp only[J,if_true];exact⟨fun hi=>mem_footL.2 ⟨i,y,p,hy,ho,hp,.inl ⟨hi,rfl⟩⟩,fun u hu=>mem_footL.2 ⟨i,y,p,hy,ho,hp,.inr hu⟩⟩
     · intro i y p hy hd hp
       simp only[J,if_true,qxZ];exact⟨fun hi=>.inr (mem_shrL.2 ⟨i,y,p,hy,hstr i y hy hd,hp,.inl ⟨hi,rfl⟩⟩),fun u hu=>.inr (mem_shrL.2 ⟨i,y,p,hy,hstr i y hy hd,hp,.inr hu⟩)⟩
 · rintro u ⟨c,y,q,hc,hy,hq,hu⟩
   rcases hcase c y hc (zFa hy) with⟨g1,g2,g3⟩ | ⟨rfl,rfl⟩
   · exact .inr ⟨c,y,q,g3,hy,hq,hu.imp id (zAv (fun _=>⟨rfl,oldF c g1⟩) u)⟩
   · obtain⟨c0,z,q0,m1,m2,m3,m4,m5⟩:=tchS u (objT q u hq hu)
     exact .inr ⟨c0,z,q0,m2,m3,m4,m5⟩
def Aft(n0:Nat)(F:List AV)(H:zA)(K:List AV->zA->Prop):Prop :=
 ∀(j:Inj) (w:World) (vs:List Value),R j H w->VRs j F vs->∃F2 H2 j2,K F2 H2/\VRs j2 F2 vs/\Step n0 j H w j2 H2 w
theorem Aft.done{n0:Nat}{F:List AV}{H:zA}{K:List AV->zA->Prop}(hn:n0<=H.length)(h:K F H):Aft n0 F H K :=
 fun j _ _ hR hF=>⟨F,H,j,h,hF,Step.refl hR hn⟩
theorem Aft.weak{n0:Nat}{F Fn:List AV}{H Hn:zA}{K:List AV->zA->Prop}(hw:Weak n0 F H Fn Hn)(hn:n0<=H.length)(h:Aft n0 Fn Hn K):Aft n0 F H K:=by
 intro j w vs hR hF;obtain⟨j1,s1,v1⟩:=hw.step (qnZ _) (Step.refl hR hn) hF;obtain⟨F2,H2,j2,h1,h2,h3⟩:=h j1 w vs s1.rel v1;exact⟨F2,H2,j2,h1,h2,s1.trans h3 (qnZ _)⟩
theorem Aft.open{n0:Nat}{F:List AV}{H:zA}{K:List AV->zA->Prop}{b:Nat}{sub:zA}(hb:H[b]? = some (.obj true sub))(hn:n0<=H.length)(h:Aft n0 F (zY H b sub) K):Aft n0 F H K:=by
 intro j w vs hR hF;obtain⟨j1,hle,s1⟩:=Step.open hR hb hn;obtain⟨F2,H2,j2,h1,h2,h3⟩:=h j1 w vs s1.rel (VRs.mono hle _ _ hF);exact⟨F2,H2,j2,h1,h2,s1.trans h3 (qnZ _)⟩
theorem Aft.close{n0:Nat}{F:List AV}{H:zA}{K:List AV->zA->Prop}{b:Nat}{rs ks:List Nat}{sub:zA}{o:Bool}(h0:rs[0]? = some b)(hnd:rs.Nodup)(hbl:b<H.length)(hks:∀c x,c∈rs->c≠b->H[c]? = some x->x.own=true->c∈ks)(hh:AWg rs H sub rs)
   (hown:∃B,sub[0]? = some B/\B.own=true) (hstr:∀(i:Nat) (y:ABlk),sub[i]? = some y->y≠.dead->y.str=true) (hn:n0<=H.length) (h:Aft n0 F (ZH H b ks o sub) K):Aft n0 F H K:=by
 intro j w vs hR hF;obtain⟨j1,hle,s1⟩:=Step.close (o:=o) hR h0 hnd hbl hks hh hown hstr hn;obtain⟨F2,H2,j2,h1,h2,h3⟩:=h j1 w vs s1.rel (VRs.mono hle _ _ hF);exact⟨F2,H2,j2,h1,h2,s1.trans h3 (qnZ _)⟩
theorem Sim.aft{P:Program}{r:Option Nat}{n0:Nat}{c:Code}{F:List AV}{H:zA}{Q:AX->List AV->zA->Prop}(h:Aft n0 F H fun F' H'=>Sim P r n0 c F' H' Q):Sim P r n0 c F H Q:=by
 intro B j w a m hB hR hF hd;obtain⟨F2,H2,j2,h1,h2,h3⟩:=h j w _ hR hF;refine wpIn_mono (h1 B j2 w a m hB h3.rel h2 hd) ?_;rintro e a' w' ⟨x,F',H',j3,g1,g2,g3,g4,g5⟩;exact⟨x,F',H',j3,g1,g2,g3,g4,h3.trans g5 (qnZ _)⟩
theorem Sim.after{P:Program}{r:Option Nat}{n0:Nat}{c:Code}{F:List AV}{H:zA}{Q:AX->List AV->zA->Prop}
   (h:Sim P r n0 c F H fun e F' H'=>Aft n0 F' H' (Q e)):Sim P r n0 c F H Q:=by
 intro B j w a m hB hR hF hd;refine wpIn_mono (h B j w a m hB hR hF hd) ?_;rintro e a' w' ⟨x',F',H',j',rfl,h2,h3,h4,h5⟩;obtain⟨F2,H2,j2,g1,g2,g3⟩:=h2 j' w' _ h5.rel h3;exact⟨x',F2,H2,j2,rfl,g1,g2,h4,h5.trans g3 (qnZ _)⟩
def LessF:List AV->List AV->Prop
 | [],[]=>True
 | x::xs,y::ys=>(x=.top\/x=y)/\LessF xs ys
 | _,_=>False
theorem LessF.ok{j:Inj}:∀{xs ys:List AV} {vs:List Value},LessF xs ys->VRs j ys vs->VRs j xs vs
 | [],[],_,_,h=>h
 | x::xs,y::ys,vs,h,hv=>by
   simp only[VRs]at hv ⊢;obtain⟨v,ws,e,h1,h2⟩:=hv;refine ⟨v,ws,e,?_,LessF.ok h.2 h2⟩;rcases h.1 with rfl | rfl
   · simp[VR]
   · exact h1
 | [],_::_,_,h,_=>h.elim
 | _::_,[],_,h,_=>h.elim
theorem Sim.less{P:Program}{r:Option Nat}{n0:Nat}{c:Code}{F Fn:List AV}{H:zA}{Q:AX->List AV->zA->Prop}(hl:LessF Fn F)(h:Sim P r n0 c Fn H Q):Sim P r n0 c F H Q :=
 fun B j w a m hB hR hF hd=>h B j w a m hB hR (hl.ok hF) hd
theorem Sim.loopS{P:Program}{r:Option Nat}{n0:Nat}{x:Code}{Q:AX->List AV->zA->Prop}{σ:Type}(I:σ->Prop)(Fs:σ->List AV)(Hs:σ->zA)(μ:σ->Nat)(s0:σ){F:List AV}{H:zA}(hn:n0<=H.length)(hI:I s0)(h0:LessF (Fs s0) F/\H=Hs s0)
   (round:∀s,I s->Sim P r n0 x (Fs s) (Hs s) fun e F' H'=>match e with | .normal=>∃s',I s'/\(LessF (Fs s') F'/\H'=Hs s')/\μ s'<μ s | e=>Q e F' H'):Sim P r n0 (.loop x) F H Q:=by
 refine Sim.loop (fun s F H=>I s/\(LessF (Fs s) F/\H=Hs s)) μ s0 hn ⟨hI,h0⟩ fun s F H hn ⟨hi,hw⟩=>?_;obtain⟨h1,rfl⟩:=hw;refine Sim.less h1 ((round s hi).mono fun e F' H' _ hq=>?_);cases e with
 | normal =>
   obtain⟨s',h1,h2,h3⟩:=hq;exact⟨s',⟨h1,h2⟩,h3⟩
 | exit id=>exact hq
 | ret=>exact hq
attribute [simp] LessF
end
section
open Go
theorem zCj:∀(ks:List Nat) (H:zA) (c:Nat),c∉ks->(zDS H ks)[c]? = H[c]?
 | [],_,_,_=>rfl
 | k::ks,H,c,h=>by
   simp only[qwZ,not_or]at h;rw[zDS,zCj ks _ c h.2,qfZ (Ne.symm h.1)]
theorem zNJ{H:zA}{ks:List Nat}{b:Nat}{o:Bool}{sub:zA}(hb:b<H.length):(ZH H b ks o sub).getD b .dead=.obj o sub:=by
 unfold ZH;rw[q2Z,qgZ (by rw[Za];exact hb)];rfl
theorem zMb{H:zA}{ks:List Nat}{b c:Nat}{o:Bool}{sub:zA}(hcb:c≠b)(hc:c∉ks):(ZH H b ks o sub).getD c .dead=H.getD c .dead:=by
 unfold ZH;simp only[q2Z];rw[qfZ (Ne.symm hcb),zCj _ _ _ hc]
@[simp] theorem zWO(H:zA)(b:Nat)(ks:List Nat)(o:Bool)(sub:zA):(ZH H b ks o sub).length=H.length:=by simp[ZH,Za]
theorem zM{H:zA}{ks:List Nat}{b:Nat}{o:Bool}{sub:zA}{rn:List Nat}(hb:b<H.length):∀(Hn:zA) (cs:List Nat),Hn.length=cs.length ->
   (∀(i c:Nat) (x:ABlk),cs[i]? = some c->Hn[i]? = some x->c=b/\x=.obj o sub\/(c≠b/\c∉ks)/\AWb rn x (H.getD c .dead))->AWg rn (ZH H b ks o sub) Hn cs
 | [],cs,h,_=>by
   have:cs=[]:=List.eq_nil_of_length_eq_zero (by simpa using h.symm);subst this;trivial
 | x::Hn,[],h,_=>by simp at h
 | x::Hn,c::cs,h,hall=>by
   refine ⟨?_,zM hb Hn cs (by simpa using h) fun i c x h1 h2=>hall (i+1) c x (by simpa using h1) (by simpa using h2)⟩;split
   · rcases hall 0 c x rfl rfl with⟨rfl,rfl⟩ | ⟨⟨h1,h3⟩,h2⟩
     · rw[zNJ hb];exact⟨rfl,rfl⟩
     · rw[zMb h1 h3];exact h2
   · trivial
theorem Aft.freeze{n0:Nat}{F:List AV}{H:zA}{K:List AV->zA->Prop}(q:Nat)(y:AV)(hq:H[q]? = some (.cells true [y]))(hy:∀rn,AW rn y y)(hn:n0<=H.length)
   (h:Aft n0 F (H.set q (.obj false [.cells true [y]])) K):Aft n0 F H K:=by
 refine Aft.close (b:=q) (rs:=[q]) (ks:=[]) (sub:=[.cells true [y]]) (o:=false) rfl (by simp) (q1Z.1 hq).1 (fun c x hc hne _ _=>absurd (by simpa using hc) hne) ⟨?_,trivial⟩ ⟨_,rfl,rfl⟩ (fun i z h _=>?_) hn h
 · split
   · rw[q2Z,hq]
     exact⟨fun h=>h,hy _,trivial⟩
   · trivial
 · match i,h with
   | 0,h=>cases h;rfl
end
end Go.Proofs.YtfhidaoiofeooaaGreatDoor
