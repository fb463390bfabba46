/- Parts of the proof of ReplayMends: lemmas, each with its own conditions. -/
import Derived.Test.YtpmfecnajoojeaaGreatDoorY5
import Derived.Test.YtpmfecnajoojeaaGreatDoorY4
set_option maxHeartbeats 64000000
open List renaming getElem?_eq_some_iff → q1Z, getD_eq_getElem?_getD → q2Z, getElem?_eq_getElem → q3Z, getElem?_append_left → q4Z, getElem?_append_right → q5Z, replicate → qbZ, mem_of_getElem? → qcZ, mem_cons_self → qhZ, mem_cons_of_mem → qiZ, length_take → qjZ, mem_cons → qwZ, append_nil → r2Z, getElem_mem → r3Z, getElem?_take → r4Z, length_map → r7Z, flatten_cons → rcZ, nodup_cons → rdZ, mem_map → reZ, getElem?_range → rfZ, replicate_succ → rvZ, getElem?_eq_none → s4Z, all_eq_true → s5Z, flatten_append → sgZ
open Option renaming map_eq_some_iff → qlZ
open Nat renaming le_refl → qnZ, zero_le → qqZ, lt_or_ge → s2Z, add_sub_cancel_left → s3Z, zero_add → s8Z
open Bool renaming and_eq_true → qrZ, false_eq_true → qsZ
open Array renaming getElem?_eq_some_iff → qtZ
namespace Go.Proofs.YtpmfecnajoojeaaGreatDoor
set_option maxRecDepth 100000
section
open Go
mutual
def awB(rn:List Nat):AV->AV->Bool
 | .top,_=>true
 | .bool b,.bool b'=>b==b'
 | .int k n,.int k' n'=>k==k'&&n==n'
 | .str s,.str s'=>s==s'
 | .ptr b o,.ptr b' o'=>rn[b]? == some b'&&o==o'
 | .nilp,.nilp=>true
 | .slice b o l sz c,.slice b' o' l' sz' c'=>rn[b]? == some b'&&(o==o'&&(l==l'&&(sz==sz'&&(!c || c'))))
 | .sl b o l sz c,.slice b' o' l' sz' c'=>rn[b]? == some b'&&(o==o'&&(l==l'&&(sz==sz'&&(!c || c'))))
 | .sl b o l sz c,.sl b' o' l' sz' c'=>rn[b]? == some b'&&(o==o'&&(l==l'&&(sz==sz'&&(!c || c'))))
 | .sl _ _ l _ _,.nils=>l==0
 | .nils,.nils=>true
 | .map b,.map b'=>rn[b]? == some b'
 | .nilm,.nilm=>true
 | .func f xs ys,.func f' xs' ys'=>f==f'&&(zGM rn xs xs'&&zGM rn ys ys')
 | .yld b,.yld b'=>rn[b]? == some b'
 | .nilf,.nilf=>true
 | .agg l,.agg l'=>zGM rn l l'
 | .tuple l,.tuple l'=>zGM rn l l'
 | _,_=>false
def zGM(rn:List Nat):List AV->List AV->Bool
 | [],[]=>true
 | x::xs,y::ys=>awB rn x y&&zGM rn xs ys
 | _,_=>false
end
mutual
theorem zXZ{rn:List Nat}:∀(x y:AV),awB rn x y=true->AW rn x y
 | .top,_,_=>by simp[AW]
 | .bool b,y,h=>by cases y <;> simp_all [awB,AW]
 | .int k n,y,h=>by cases y <;> simp_all [awB,AW]
 | .str s,y,h=>by cases y <;> simp_all [awB,AW]
 | .ptr b o,y,h=>by cases y <;> simp_all [awB,AW]
 | .nilp,y,h=>by cases y <;> simp_all [awB,AW]
 | .slice b o l sz c,y,h=>by
   cases y <;> simp only[awB,qsZ,qrZ,beq_iff_eq,Bool.or_eq_true,Bool.not_eq_true']at h
   simp only[AW];obtain⟨h1,h2,h3,h4,h5⟩:=h
   exact⟨h1,h2,h3,h4,fun hc=>by rcases h5 with h5 | h5 <;> simp_all⟩
 | .sl b o l sz c,y,h=>by
   cases y <;> simp only[awB,qsZ,qrZ,beq_iff_eq,Bool.or_eq_true,Bool.not_eq_true']at h
   · simp only[AW]
     obtain⟨h1,h2,h3,h4,h5⟩:=h
     exact⟨h1,h2,h3,h4,fun hc=>by rcases h5 with h5 | h5 <;> simp_all⟩
   · simp only[AW]
     obtain⟨h1,h2,h3,h4,h5⟩:=h
     exact⟨h1,h2,h3,h4,fun hc=>by rcases h5 with h5 | h5 <;> simp_all⟩
   · simpa only[AW] using h
 | .nils,y,h=>by cases y <;> simp_all [awB,AW]
 | .map b,y,h=>by cases y <;> simp_all [awB,AW]
 | .nilm,y,h=>by cases y <;> simp_all [awB,AW]
 | .func f xs ys,y,h=>by
   cases y <;> simp only[awB,qsZ,qrZ,beq_iff_eq]at h
   simp only[AW];exact⟨h.1,zBA _ _ h.2.1,zBA _ _ h.2.2⟩
 | .yld b,y,h=>by cases y <;> simp_all [awB,AW]
 | .nilf,y,h=>by cases y <;> simp_all [awB,AW]
 | .agg l,y,h=>by
   cases y <;> simp only[awB,qsZ]at h
   simp only[AW];exact zBA _ _ h
 | .tuple l,y,h=>by
   cases y <;> simp only[awB,qsZ]at h
   simp only[AW];exact zBA _ _ h
theorem zBA{rn:List Nat}:∀(xs ys:List AV),zGM rn xs ys=true->AWs rn xs ys
 | [],ys,h=>by cases ys <;> simp_all [zGM,AWs]
 | x::xs,ys,h=>by
   cases ys <;> simp only[zGM,qsZ,qrZ]at h
   simp only[AWs];exact⟨zXZ _ _ h.1,zBA _ _ h.2⟩
end
def zWr(rn:List Nat):ABlk->ABlk->Bool
 | .dead,_=>true
 | .cells o l,.cells o' l'=>(!o || o')&&zGM rn l l'
 | .map es,.map es'=>zGM rn (es.map (·.1)) (es'.map (·.1))&&zGM rn (es.map (·.2)) (es'.map (·.2))
 | .pin l,.pin l'=>zGM rn l l'
 | _,_=>false
theorem zUt{rn:List Nat}{x y:ABlk}(h:zWr rn x y=true):AWb rn x y:=by
 cases x <;> cases y <;> simp only[zWr,qsZ,qrZ,Bool.or_eq_true,Bool.not_eq_true']at h
 all_goals simp only[AWb]
 · exact⟨fun ho=>by rcases h.1 with h1 | h1 <;> simp_all,zBA _ _ h.2⟩
 · exact⟨zBA _ _ h.1,zBA _ _ h.2⟩
 · exact zBA _ _ h
def zS0(rn:List Nat)(H:zA):zA->List Nat->Bool
 | [],[]=>true
 | x::xs,b::bs=>(if b<H.length then zWr rn x (H.getD b .dead) else true)&&zS0 rn H xs bs
 | _,_=>false
theorem zQQ{rn:List Nat}{H:zA}:∀{xs:zA} {bs:List Nat},zS0 rn H xs bs=true->AWg rn H xs bs
 | [],bs,h=>by cases bs <;> simp_all [zS0,AWg]
 | x::xs,bs,h=>by
   cases bs <;> simp only[zS0,qsZ,qrZ]at h
   simp only[AWg];refine ⟨?_,zQQ h.2⟩;split
   · rename_i hb
     have h1:=h.1;rw[if_pos hb]at h1;exact zUt h1
   · trivial
def zVH:List Nat->Bool
 | []=>true
 | x::l=>!l.contains x&&zVH l
theorem zQs:∀{l:List Nat},zVH l=true->l.Nodup
 | [],_=>by simp
 | x::l,h=>by
   simp only[zVH,qrZ,Bool.not_eq_true',List.contains_eq_mem,decide_eq_false_iff_not]at h;exact rdZ.2 ⟨h.1,zQs h.2⟩
def zQj(n:Nat)(rn:List Nat)(F:List AV)(H:zA)(Fn:List AV)(Hn:zA):Bool :=
 zVH rn&&(rn.take n==List.range n&&(zGM rn Fn F&&zS0 rn H Hn rn))
theorem zTI{n:Nat}{rn:List Nat}{F Fn:List AV}{H Hn:zA}(h:zQj n rn F H Fn Hn=true):Weak n F H Fn Hn:=by
 simp only[zQj,qrZ,beq_iff_eq]at h;exact Weak.mk' rn (zQs h.1) h.2.1 (zBA _ _ h.2.2.1) (zQQ h.2.2.2)
def zT5(P:Program)(rs:List ResultVar)(r:zOT):Bool :=
 match r with
 | some (.ret,F',H')=>(match zDA P rs F' H' with | some (.bool true)=>true | _=>false)
 | some (.normal,F',H')=>(match zDA P rs F' H' with | some (.bool true)=>true | _=>false)
 | _=>false
theorem Sim.kret{P:Program}{Γ:Gam}(hm:P.follows .mixedOrders=true)(hΓ:GOk P Γ){n:Nat}{c:Code}{F:List AV}{H:zA}{rs:List ResultVar}(h:zT5 P rs (zx P Γ n true c F H)=true) :
   Sim P none ([]:zA).length c F H fun x F1 H1=>(x=.normal\/x=.ret)/\∃v1,zDA P rs F1 H1=some v1/\Weak ([]:zA).length [v1] H1 [.bool true] []:=by
 have key:∀x F' H',zx P Γ n true c F H=some (x,F',H')->(x=.normal\/x=.ret)->zDA P rs F' H'=some (.bool true)->Sim P none ([]:zA).length c F H fun x F1 H1=>(x=.normal\/x=.ret)/\∃v1,zDA P rs F1 H1=some v1/\Weak ([]:zA).length [v1] H1 [.bool true] []:=by
   intro x F' H' h1 h2 h3
   refine ((Ze hm hΓ none n true (fun _=>rfl) c F F' H H' x h1).len (qqZ _)).mono ?_
   rintro x1 F1 H1 _ ⟨rfl,rfl,rfl⟩
   exact⟨h2,_,h3,Weak.mk' [] (by decide) rfl (by simp[AWs,AW]) (by simp[AWg])⟩
 unfold zT5 at h;split at h
 · rename_i F' H' h1
   split at h
   · rename_i h2;exact key _ _ _ h1 (.inr rfl) h2
   · cases h
 · rename_i F' H' h1
   split at h
   · rename_i h2;exact key _ _ _ h1 (.inl rfl) h2
   · cases h
 · cases h
def zCI(P:Program)(Γ:Gam)(n:Nat)(q:Bool):Nat->Code->List AV->zA->Option (List AV×zA)
 | 0,_,F,H=>some (F,H)
 | k+1,.seq x y,F,H=>match zx P Γ n q x F H with
   | some (.normal,F',H')=>zCI P Γ n q k y F' H'
   | _=>none
 | _+1,_,_,_=>none
theorem zHu{P:Program}{Γ:Gam}(hm:P.follows .mixedOrders=true)(hΓ:GOk P Γ){r:Option Nat}{n0 n:Nat}{Q:AX->List AV->zA->Prop}:∀(k:Nat) (c:Code) (F F':List AV) (H H':zA),zCI P Γ n r.isNone k c F H=some (F',H')->n0<=H.length ->
   (n0<=H'.length->Sim P r n0 (zDi k c) F' H' Q)->Sim P r n0 c F H Q
 | 0,c,F,F',H,H',h,hn,hk=>by
   cases h;exact hk hn
 | k+1,c,F,F',H,H',h,hn,hk=>by
   cases c with
   | seq x y =>
     simp only[zCI]at h;split at h
     · rename_i F1 H1 h1
       have hr:r.isNone=true->r=none:=by intro e;cases r <;> simp_all
       refine Sim.seq (((Ze hm hΓ r n r.isNone hr x F F1 H H1 .normal h1).len hn).mono ?_);rintro x1 F2 H2 hl ⟨rfl,rfl,rfl⟩;exact zHu hm hΓ k y _ F' _ H' h hl hk
     · cases h
   | _=>simp[zCI]at h
def zSp(n:Nat)(rn:List Nat)(r:Option (List AV×zA))(Fn:List AV)(Hn:zA):Bool :=
 match r with
 | some (F',H')=>zQj n rn F' H' Fn Hn
 | none=>false
theorem Sim.kmany{P:Program}{Γ:Gam}(hm:P.follows .mixedOrders=true)(hΓ:GOk P Γ){r:Option Nat}{n0 n:Nat}{c:Code}{F Fn:List AV}{H Hn:zA}{Q:AX->List AV->zA->Prop}(k:Nat)(rn:List Nat)(h:zSp n0 rn (zCI P Γ n r.isNone k c F H) Fn Hn=true)(hn:n0<=H.length)
   (kk:Sim P r n0 (zDi k c) Fn Hn Q):Sim P r n0 c F H Q:=by
 unfold zSp at h;split at h
 · rename_i F' H' h1
   exact zHu hm hΓ k c F F' H H' h1 hn fun hl=>Sim.weak (zTI h) hl kk
 · cases h
def zNU:AV->Nat
 | .ptr b _=>b
 | .slice b _ _ _ _=>b
 | .sl b _ _ _ _=>b
 | .map b=>b
 | .yld b=>b
 | _=>0
mutual
def zX8:AV->AV->List (Nat×Nat)
 | .ptr b _,y=>[(b,zNU y)]
 | .slice b _ _ _ _,y=>[(b,zNU y)]
 | .sl b _ _ _ _,y=>[(b,zNU y)]
 | .map b,y=>[(b,zNU y)]
 | .yld b,y=>[(b,zNU y)]
 | .func _ xs ys,.func _ xs' ys'=>zCP xs xs'++zCP ys ys'
 | .agg l,.agg l'=>zCP l l'
 | .tuple l,.tuple l'=>zCP l l'
 | _,_=>[]
def zCP:List AV->List AV->List (Nat×Nat)
 | x::l,y::l'=>zX8 x y++zCP l l'
 | _,_=>[]
end
def zX9:ABlk->ABlk->List (Nat×Nat)
 | .cells _ l,.cells _ l'=>zCP l l'
 | .map es,.map es'=>zCP (es.map (·.1)) (es'.map (·.1))++zCP (es.map (·.2)) (es'.map (·.2))
 | .pin l,.pin l'=>zCP l l'
 | _,_=>[]
def zOf(Hn H:zA):Nat->List (Nat×Nat)->List (Nat×Nat)->List (Nat×Nat)
 | 0,_,seen=>seen
 | _+1,[],seen=>seen
 | n+1,(a,b)::todo,seen=>if seen.any (fun x=>x.1==a) then zOf Hn H n todo seen else zOf Hn H n (zX9 (Hn.getD a .dead) (H.getD b .dead)++todo) ((a,b)::seen)
def zW3(Fn F:List AV)(Hn H:zA):List Nat :=
 (List.range Hn.length).map fun i=>match (zOf Hn H 20000 (zCP Fn F) []).find? (fun x=>x.1==i) with | some x=>x.2 | none=>i
def zKN(n:Nat)(r:Option (List AV×zA))(Fn:List AV)(Hn:zA):Bool :=
 match r with
 | some (F',H')=>zQj n (zW3 Fn F' Hn H') F' H' Fn Hn
 | none=>false
theorem Sim.kmanyM{P:Program}{Γ:Gam}(hm:P.follows .mixedOrders=true)(hΓ:GOk P Γ){r:Option Nat}{n0 n:Nat}{c:Code}{F Fn:List AV}{H Hn:zA}{Q:AX->List AV->zA->Prop}(k:Nat)(h:zKN n0 (zCI P Γ n r.isNone k c F H) Fn Hn=true)(hn:n0<=H.length)
   (kk:Sim P r n0 (zDi k c) Fn Hn Q):Sim P r n0 c F H Q:=by
 unfold zKN at h;split at h
 · rename_i F' H' h1
   exact Sim.kmany hm hΓ k _ (by unfold zSp;rw[h1];exact h) hn kk
 · cases h
theorem zBJ(k k':IntKind)(x y:Int):zCG false (.int k x) (.int k' y)=some (.int k (min x y)):=by
 unfold zCG;simp only[qsZ,if_false];congr 2;omega
theorem zFZ(k k':IntKind)(x y:Int):zCG true (.int k x) (.int k' y)=some (.int k (max x y)):=by
 unfold zCG;simp only[if_true];congr 2;omega
end
section
open Go
mutual
theorem AW.pre{rn:List Nat}{n:Nat}(hr:∀i,i<n->rn[i]? = some i):∀(x:AV),below n x=true->AW rn x x
 | .top,_=>by simp[AW]
 | .bool _,_=>by simp[AW]
 | .int _ _,_=>by simp[AW]
 | .str _,_=>by simp[AW]
 | .ptr b o,h=>by
   simp only[below,decide_eq_true_eq]at h;simp[AW,hr b h]
 | .nilp,_=>by simp[AW]
 | .slice b o l sz c,h=>by
   simp only[below,decide_eq_true_eq]at h;simp[AW,hr b h]
 | .sl b o l sz c,h=>by
   simp only[below,decide_eq_true_eq]at h;simp[AW,hr b h]
 | .nils,_=>by simp[AW]
 | .map b,h=>by
   simp only[below,decide_eq_true_eq]at h;simp[AW,hr b h]
 | .nilm,_=>by simp[AW]
 | .func f xs ys,h=>by
   simp only[below,qrZ]at h;simp only[AW,true_and];exact⟨AWs.pre hr xs h.1,AWs.pre hr ys h.2⟩
 | .yld b,h=>by
   simp only[below,decide_eq_true_eq]at h;simp[AW,hr b h]
 | .nilf,_=>by simp[AW]
 | .agg l,h=>by
   simp only[below]at h;simp only[AW];exact AWs.pre hr l h
 | .tuple l,h=>by
   simp only[below]at h;simp only[AW];exact AWs.pre hr l h
theorem AWs.pre{rn:List Nat}{n:Nat}(hr:∀i,i<n->rn[i]? = some i):∀(l:List AV),zV n l=true->AWs rn l l
 | [],_=>by simp[AWs]
 | x::xs,h=>by
   simp only[zV,qrZ]at h;simp only[AWs];exact⟨AW.pre hr x h.1,AWs.pre hr xs h.2⟩
end
theorem AWg.append{rn:List Nat}{H:zA}:∀{xs ys:zA} {bs cs:List Nat},AWg rn H xs bs->AWg rn H ys cs->AWg rn H (xs++ys) (bs++cs)
 | [],_,[],_,_,h=>h
 | _::_,_,_::_,_,h,h'=>⟨h.1,AWg.append h.2 h'⟩
 | [],_,_::_,_,h,_=>h.elim
 | _::_,_,[],_,h,_=>h.elim
theorem AWg.of{rn:List Nat}{H:zA}:∀(xs:zA) (bs:List Nat),xs.length=bs.length->(∀(i:Nat) x b,xs[i]? = some x->bs[i]? = some b->b<H.length->AWb rn x (H.getD b .dead))->AWg rn H xs bs
 | [],[],_,_=>trivial
 | [],_::_,h,_=>by simp at h
 | _::_,[],h,_=>by simp at h
 | x::xs,b::bs,h,hall=>by
   simp only[AWg]
   refine ⟨?_,AWg.of xs bs (by simpa using h) fun i y c hy hc=>hall (i+1) y c (by simpa using hy) (by simpa using hc)⟩
   split
   · exact hall 0 x b rfl rfl ‹_›
   · trivial
theorem Weak.tail{A T Tn:zA}{F Fn:List AV}{N:Nat}(hN:A.length=N)(hA:∀x∈A,∃o l,x=ABlk.cells o l/\zV N l=true)(ts:List Nat)(hts:ts.Nodup)
   (hF:AWs (List.range N++ts.map (N+·)) Fn F) (hT:AWg (List.range N++ts.map (N+·)) (A++T) Tn (ts.map (N+·))):Weak N F (A++T) Fn (A++Tn):=by
 have hr:∀i,i<N->(List.range N++ts.map (N+·))[i]? = some i:=fun i hi=>by
   rw[q4Z (by simpa using hi),rfZ hi]
 refine Weak.mk' (List.range N++ts.map (N+·)) ?_ ?_ hF (AWg.append ?_ hT)
 · rw[List.nodup_append]
   refine ⟨List.nodup_range,?_,fun a ha b hb=>?_⟩
   · rw[List.nodup_iff_pairwise_ne,List.pairwise_map]
     exact (List.nodup_iff_pairwise_ne.1 hts).imp fun h e=>h (by omega)
   · obtain⟨c,_,rfl⟩:=reZ.1 hb
     have:=List.mem_range.1 ha;omega
 · rw[List.take_left' (by simp)]
 · refine AWg.of _ _ (by simp[hN]) fun i x b hx hb hlt=>?_
   have hi:i<N:=by rw[<-hN];exact (q1Z.1 hx).1
   have hbi:b=i:=by rw[rfZ hi]at hb;cases hb;rfl
   subst hbi
   rw[q2Z,q4Z (by omega),hx]
   obtain⟨o,l,rfl,hl⟩:=hA x (qcZ hx);exact⟨id,AWs.pre hr l hl⟩
end
section
open Go.ChangeShapes Go.WideShapes Go.ChangeAt Go.RowKit
section
variable {H:Type} {enc:TypeId×Value->H} {P:Program} {w:World} {base base':Nat}
def zD4(w:World)(k:Nat)(H:zA)(js:List (Option JB)):Prop :=
 ∀j:Inj,(∀i,i<js.length->j (k+i)=(js[i]?).join)->∀(i:Nat) B q,H[i]? = some B->js[i]? = some (some q)->BRel j w B q
theorem zGj{k:Nat}{H1 H2:zA}{js1 js2:List (Option JB)}(hl:js1.length=H1.length)(h1:zD4 w k H1 js1)(h2:zD4 w (k+H1.length) H2 js2):zD4 w k (H1++H2) (js1++js2):=by
 intro j hj i B q hB hq
 have j1:∀i,i<js1.length->j (k+i)=(js1[i]?).join:=fun i hi=>by
   rw[hj i (by simp;omega),q4Z hi]
 have j2:∀i,i<js2.length->j (k+H1.length+i)=(js2[i]?).join:=fun i hi=>by
   rw[show k+H1.length+i=k+(H1.length+i) by omega,hj (H1.length+i) (by simp;omega),q5Z (by omega),hl,s3Z]
 by_cases hi:i<H1.length
 · rw[q4Z hi]at hB
   rw[q4Z (by omega)]at hq
   exact h1 j j1 i B q hB hq
 · rw[q5Z (by omega)]at hB
   rw[q5Z (by omega),hl]at hq
   exact h2 j j2 _ B q hB hq
theorem zIo{H1 H2:zA}(h1:∀(i:Nat) (B:ABlk),H1[i]? = some B->∃l,B=.cells false l)(h2:∀(i:Nat) (B:ABlk),H2[i]? = some B->∃l,B=.cells false l):∀(i:Nat) (B:ABlk),(H1++H2)[i]? = some B->∃l,B=.cells false l:=by
 intro i B hB;by_cases hi:i<H1.length
 · rw[q4Z hi]at hB
   exact h1 i B hB
 · rw[q5Z (by omega)]at hB
   exact h2 _ B hB
end
end
theorem zQd{P:Program}{f:FuncId}{args args0:List AV}{H H0 H':zA}{v:AV}(hw:Weak H.length args H args0 H0)(h:Ct P f args0 H0 v H'):Ct P f args H v H':=by
 intro j w cargs hR hargs;obtain⟨j',hs,hF'⟩:=hw.step (qnZ _) (Step.refl hR (qnZ _)) hargs;refine (h j' w cargs hs.rel hF').mono ?_;rintro e w' ⟨cv,j2,rfl,h1,h2⟩;exact⟨cv,j2,rfl,h1,hs.trans h2 hs.len⟩
section
open Go
mutual
theorem zPd{n m:Nat}(h:n<=m):∀x:AV,below n x=true->below m x=true
 | .top,_=>rfl
 | .bool _,_=>rfl
 | .int _ _,_=>rfl
 | .str _,_=>rfl
 | .ptr b _,k=>by simp only[below,decide_eq_true_eq]at k ⊢;omega
 | .nilp,_=>rfl
 | .slice b _ _ _ _,k=>by simp only[below,decide_eq_true_eq]at k ⊢;omega
 | .sl b _ _ _ _,k=>by simp only[below,decide_eq_true_eq]at k ⊢;omega
 | .nils,_=>rfl
 | .map b,k=>by simp only[below,decide_eq_true_eq]at k ⊢;omega
 | .nilm,_=>rfl
 | .func _ xs ys,k=>by
   simp only[below,qrZ]at k ⊢;exact⟨Z7 h xs k.1,Z7 h ys k.2⟩
 | .yld b,k=>by simp only[below,decide_eq_true_eq]at k ⊢;omega
 | .nilf,_=>rfl
 | .agg l,k=>by simp only[below]at k ⊢;exact Z7 h l k
 | .tuple l,k=>by simp only[below]at k ⊢;exact Z7 h l k
theorem Z7{n m:Nat}(h:n<=m):∀l:List AV,zV n l=true->zV m l=true
 | [],_=>rfl
 | x::xs,k=>by
   simp only[zV,qrZ]at k ⊢;exact⟨zPd h x k.1,Z7 h xs k.2⟩
end
def zK8(before:Bool)(si sk:List Nat)(di dk:Option Nat)(qi qk:QF):Bool :=
 (match di with
  | some d=>!sk.contains d || before
  | none=>true) &&
 (match dk with
  | some d=>(!si.contains d || before)&&dk != di
  | none=>true) &&
 (match qi.st with
  | some _=>!qk.call
  | none=>true) &&
 (match qk.st with
  | some _=>!qi.call || before
  | none=>true) &&
 (!qi.call || !qk.grows || before || qi.sc)
def zQp(ops:List Oper)(slots:List (List Nat))(qs:List QF)(pr:List Nat):Bool :=
 (List.range ops.length).all fun k =>
   ((ops.getD k default).after.toList.all fun e=>!Region.binds .any e || e.on<k) &&
   (List.range k).all fun i =>
     zK8 ((pr.getD k 0).testBit i) (slots.getD i []) (slots.getD k []) (ops.getD i default).dst (ops.getD k default).dst (qs.getD i ⟨none,none,false,false,false⟩) (qs.getD k ⟨none,none,false,false,false⟩)
def zMV(ops:List Oper)(slots:List (List Nat))(qs:List QF):Bool:=zER (zQp ops slots qs) ops []
theorem zQ9{b:Bool}{si sk:List Nat}{di dk:Option Nat}{qi qk:QF}(h:zK8 b si sk di dk qi qk=true)(h1:∀s,qi.st=some s->(qk.rd != some s.1)=true)(h2:∀s,qk.st=some s->(qi.rd != some s.1)=true):zFk b si sk di dk qi qk=true:=by
 unfold zK8 at h;unfold zFk;simp only[qrZ]at h ⊢;refine ⟨⟨⟨h.1.1.1,?_⟩,?_⟩,h.2⟩
 · have h3:=h.1.1.2
   cases hs:qi.st with
   | none=>rfl
   | some s =>
     rw[hs]at h3;simp only[qrZ];exact⟨h1 s hs,h3⟩
 · have h3:=h.1.2
   cases hs:qk.st with
   | none=>rfl
   | some s =>
     rw[hs]at h3;simp only[qrZ,Bool.or_eq_true]at h3 ⊢;exact⟨.inl (h2 s hs),h3⟩
theorem zI2{ops:List Oper}{slots:List (List Nat)}{qs:List QF}(h:zMV ops slots qs=true)(hp:(qs.filterMap (·.st)).Pairwise fun a b=>zGO a b=true)
   (hr:∀r∈qs.filterMap (·.rd),∀s∈qs.filterMap (·.st),r≠s.1):zA9 ops slots qs=true:=by
 refine zJj ?_ hp;unfold zMV at h;unfold zH9;rw[zBp]at h ⊢;unfold zQp at h;unfold zLE;rw[s5Z]at h ⊢;intro k hk;have:=h k hk;rw[qrZ]at this ⊢;refine ⟨this.1,?_⟩;rw[s5Z];intro i hi
 have key:∀a b s,(qs.getD a ⟨none,none,false,false,false⟩).st=some s->((qs.getD b ⟨none,none,false,false,false⟩).rd != some s.1)=true:=by
   intro a b s hs
   have ha:s∈qs.filterMap (·.st):=by
     rcases s2Z a qs.length with h3 | h3
     · rw[q2Z,q3Z h3]at hs
       exact List.mem_filterMap.2 ⟨_,r3Z h3,hs⟩
     · rw[q2Z,s4Z h3]at hs;cases hs
   rw[bne_iff_ne];intro hb
   have hb':s.1∈qs.filterMap (·.rd):=by
     rcases s2Z b qs.length with h3 | h3
     · rw[q2Z,q3Z h3]at hb
       exact List.mem_filterMap.2 ⟨_,r3Z h3,hb⟩
     · rw[q2Z,s4Z h3]at hb;cases hb
   exact hr _ hb' _ ha rfl
 exact zQ9 (s5Z.1 this.2 i hi) (fun s hs=>key i k s hs) (fun s hs=>key k i s hs)
end
section
open Go
attribute [-simp] zJ zY zn zL zl
theorem zLH{el:List Prim}{ts:List CT}{k:Nat}{xs:List AV}{H:zA}(h:zDh (.row el::ts) k xs H) :
   ∃x ys l n H2,xs=x::ys/\H=.cells false l::H2/\(n=0/\x=.nils\/x=.slice k 0 n el.length false)/\n<=maxLen/\All2 zEc (qbZ n el).flatten l/\zDh ts (k+1) ys H2:=by
 cases xs with
 | nil=>exact h.elim
 | cons x ys =>
   cases H with
   | nil=>exact h.elim
   | cons B H1 =>
     simp only[zDh]at h;obtain⟨⟨l,n,rfl,h3,h4,h5⟩,h6⟩:=h;exact⟨x,ys,l,n,H1,rfl,rfl,h3,h4,h5,h6⟩
theorem zJ9:∀{n:Nat} {l:List AV},All2 zEc (qbZ n [Prim.int .u8]).flatten l->∃ls:List Nat,l=ls.map aB/\ls.length=n/\∀c∈ls,c<256
 | 0,[],_=>⟨[],rfl,rfl,by simp⟩
 | n+1,x::l,h=>by
   rw[rvZ,rcZ]at h;obtain⟨a,rfl,ha⟩:=h.1;obtain⟨ls,rfl,hl,h2⟩:=zJ9 (n:=n) (l:=l) h.2;have hb:=bounds_u8 ha
   refine ⟨a.toNat::ls,by simp[aB];omega,by simp[hl],fun c hc=>?_⟩
   rcases qwZ.1 hc with rfl | hc
   · omega
   · exact h2 c hc
 | 0,_::_,h=>h.elim
 | n+1,[],h=>by
   rw[rvZ,rcZ]at h;exact h.elim
end
section
open Go.ChangeShapes Go.WideShapes Go.ChangeAt Go.RowKit
inductive ST where
 | one (p:Prim)
 | row (el:List ST)
def zEB(P:Program)(g:TypeId->Option (List ST)):Nat->List Field->Option (List ST)
 | _,[]=>some []
 | off,f::fs=>match g f.type with
   | some a=>if f.offset=off/\P.cellsOf f.type=a.length then (zEB P g (off+a.length) fs).map (a++·) else none
   | none=>none
def zDv(P:Program):Nat->TypeId->Option (List ST)
 | 0,_=>none
 | n+1,t=>match P.underlying t with
   | some .bool=>some [.one .bool]
   | some (.int k)=>some [.one (.int k)]
   | some .string=>some [.one .str]
   | some (.slice e)=>match zDv P n e with
     | some a=>if P.cellsOf e=a.length/\0<a.length then some [.row a] else none
     | none=>none
   | some (.struct fs)=>zEB P (zDv P n) 0 fs.toList
   | some (.array m e)=>match zDv P n e with
     | some a=>if P.cellsOf e=a.length then some (qbZ m a).flatten else none
     | none=>none
   | _=>none
def zF5(w:World):Nat->ST->Value->Prop
 | 0,.one p,v=>zLL p v
 | 0,.row _,_=>False
 | _+1,.one p,v=>zLL p v
 | n+1,.row el,v=>v=.slice none 0 0\/∃a len cap l,v=.slice (some a) len cap/\len<=cap/\cap<=maxLen/\0<el.length/\All2 (zF5 w n) (qbZ cap el).flatten l/\∀i u,l[i]? = some u->w.cell? (a.add i)=some u
theorem zEW{α β:Type}{R S:α->β->Prop}(h:∀x y,R x y->S x y):∀{xs:List α} {ys:List β},All2 R xs ys->All2 S xs ys
 | [],[],_=>trivial
 | _::_,_::_,g=>⟨h _ _ g.1,zEW h g.2⟩
 | [],_::_,g=>g.elim
 | _::_,[],g=>g.elim
theorem cellT_one{w:World}{n:Nat}{p:Prim}{v:Value}:zF5 w n (.one p) v↔zLL p v:=by cases n <;> exact Iff.rfl
theorem zI9{w:World}:∀(n:Nat) (t:ST) (v:Value),zF5 w n t v->zF5 w (n+1) t v
 | 0,.one p,v,h=>h
 | 0,.row el,v,h=>h.elim
 | n+1,.one p,v,h=>h
 | n+1,.row el,v,h=>by
   rcases h with h | ⟨a,len,cap,l,h1,h2,h3,h4,h5,h6⟩
   · exact .inl h
   · exact .inr ⟨a,len,cap,l,h1,h2,h3,h4,zEW (zI9 n) h5,h6⟩
section
variable {H:Type} {enc:TypeId×Value->H} {P:Program} {w:World} {base base':Nat} {held:Bool}
theorem zIN{α:Type}{R:α->Value->Prop}{el:List α}{a:Addr}:∀(m:Nat),(∀i,i<m->∃cs:List Value,All2 R el cs/\∀k u,cs[k]? = some u->w.cell? (a.add (i*el.length+k))=some u) ->
   ∃l,All2 R (qbZ m el).flatten l/\∀i u,l[i]? = some u->w.cell? (a.add i)=some u
 | 0,_=>⟨[],trivial,fun i u h=>by simp at h⟩
 | m+1,h=>by
   obtain⟨l,h1,h2⟩:=zIN m fun i hi=>h i (by omega)
   obtain⟨cs,g1,g2⟩:=h m (by omega)
   have hl:l.length=m*el.length:=by rw[<-h1.length,Zm]
   refine ⟨l++cs,?_,fun i u hi=>?_⟩
   · rw[List.replicate_succ',sgZ]
     simp only[rcZ,List.flatten_nil,r2Z];exact h1.append g1
   · by_cases hlt:i<l.length
     · rw[q4Z hlt]at hi
       exact h2 i u hi
     · rw[q5Z (by omega)]at hi
       have:=g2 _ u hi
       rw[show m*el.length+(i-l.length)=i by omega]at this
       exact this
theorem zI4{R:ST->Value->Prop}{g:TypeId->Option (List ST)}{cs:List Value}:∀(fs:List Field) (off:Nat) (ts:List ST),zEB P g off fs=some ts->cs.length=off+ts.length ->
   (∀f∈fs,∀a,g f.type=some a->All2 R a ((cs.drop f.offset).take (P.cellsOf f.type)))->All2 R ts (cs.drop off)
 | [],off,ts,h,hl,_=>by
   cases h
   rw[List.drop_of_length_le (by simp at hl;omega)]
   trivial
 | f::fs,off,ts,h,hl,hg=>by
   unfold zEB at h;split at h
   · rename_i a ha
     split at h
     · rename_i hc
       obtain⟨r,hr,rfl⟩:=qlZ.1 h;have h1:=hg f (qhZ ..) a ha;rw[hc.1,hc.2]at h1;rw[<-zCk cs off a.length]
       exact h1.append (zI4 fs _ r hr (by simp at hl;omega) fun f' hf'=>hg f' (qiZ _ hf'))
     · cases h
   · cases h
theorem zKD{α:Type}{R:α->Value->Prop}{a:List α}{cs:List Value}:∀(m off:Nat),cs.length=off+m*a.length->(∀i,i<m->All2 R a ((cs.drop (off+i*a.length)).take a.length))->All2 R (qbZ m a).flatten (cs.drop off)
 | 0,off,hl,_=>by
   rw[List.drop_of_length_le (by simp at hl;omega)]
   trivial
 | m+1,off,hl,h=>by
   rw[rvZ,rcZ,<-zCk cs off a.length]
   have h0:=h 0 (by omega)
   rw[Nat.zero_mul,Nat.add_zero]at h0
   refine h0.append (zKD m _ (by rw[hl,Nat.succ_mul];omega) fun i hi=>?_)
   have:=h (i+1) (by omega)
   rw[Nat.succ_mul]at this
   rw[show off+a.length+i*a.length=off+(i*a.length+a.length) by omega]
   exact this
theorem zDB:∀(n:Nat) (t:TypeId) (ts:List ST) (fuel:Nat) (cs:List Value) (x:DataW H×List MemPlace),zDv P n t=some ts->P.cellsOf t=ts.length->DataW.trod enc P w base (fun _=>true) held fuel t cs=some x->All2 (zF5 w n) ts cs
 | 0,_,_,_,_,_,h,_,_=>by cases h
 | n+1,t,ts,fuel,cs,x,h,hcl,hx=>by
   unfold zDv at h;split at h
   · rename_i hu
     cases h;obtain⟨b,rfl,_⟩:=DataW.trod_bool hu hx;exact⟨⟨b,rfl⟩,trivial⟩
   · rename_i k hu
     cases h;obtain⟨m,rfl,_,hw⟩:=DataW.trod_int hu hx;exact⟨⟨m,rfl,hw⟩,trivial⟩
   · rename_i hu
     cases h;obtain⟨s,rfl,_,hw⟩:=DataW.trod_string hu hx;exact⟨⟨s,rfl,hw⟩,trivial⟩
   · rename_i e hu
     split at h
     · rename_i a ha
       split at h
       · rename_i hc
         cases h;rcases Deep.open_slice hu hx with⟨rfl,_⟩ | ⟨ad,len,cap,m,n',D,Pl,rfl,_,hle,hm,hmm,_,hel2⟩
         · exact⟨.inl rfl,trivial⟩
         · simp at hmm
           subst hmm
           obtain⟨l,h1,h2⟩:=zIN (w:=w) (R:=zF5 w n) (el:=a) (a:=ad) m fun i hi=>by
             obtain⟨cs',hcs',ht⟩:=hel2 i hi;have hk:=zDB n e a n' cs' _ ha hc.1 ht
             refine ⟨cs',hk,fun k u hk=>?_⟩
             obtain⟨_,hcl',hce⟩:=World.cells?_some hcs'
             have hkl:k<P.cellsOf e:=by rw[<-hcl'];exact (q1Z.1 hk).1
             have:=hce k hkl;rw[hk]at this;rw[<-hc.1];rw[<-this,zLw]
           exact⟨.inr ⟨ad,len,m,l,rfl,hle,hm,hc.2,h1,h2⟩,trivial⟩
       · cases h
     · cases h
   · rename_i fs hu
     obtain⟨xs,m,_,_,hl,hxl,hf⟩:=DataW.trod_struct hu hx
     have:=zI4 (R:=zF5 w (n+1)) (cs:=cs) fs.toList 0 ts h (by omega) fun f hf' a ha=>?_
     · simpa using this
     · obtain⟨i,hi⟩:=List.getElem?_of_mem hf'
       have hi':fs[i]? = some f:=by simpa using hi
       have h1:=hf i f hi'
       have hilt:i<xs.length:=by rw[hxl];exact (qtZ.1 hi').1
       rw[q3Z hilt]at h1;refine zEW (zI9 n) (zDB n f.type a m _ _ ha ?_ h1)
       have:∀(fs:List Field) (off:Nat) (ts:List ST),zEB P (zDv P n) off fs=some ts->∀f∈fs,∀a,zDv P n f.type=some a->P.cellsOf f.type=a.length:=by
         intro fs
         induction fs with
         | nil=>intro off ts h f hf;cases hf
         | cons f0 fs ih =>
           intro off ts h f hf a ha;unfold zEB at h;split at h
           · rename_i a0 ha0
             split at h
             · rename_i hc
               obtain⟨r,hr,_⟩:=qlZ.1 h;rcases qwZ.1 hf with rfl | hf
               · rw[ha0]at ha;cases ha;exact hc.2
               · exact ih _ _ hr f hf a ha
             · cases h
           · cases h
       exact this _ _ _ h f hf' a ha
   · rename_i m e hu
     split at h
     · rename_i a ha
       split at h
       · rename_i hc
         cases h;obtain⟨xs,k,_,_,hl,hxl,hf⟩:=DataW.trod_array hu hx
         have:=zKD (R:=zF5 w (n+1)) (a:=a) (cs:=cs) m 0 (by rw[hl,hcl,Zm];omega) fun i hi=>?_
         · simpa using this
         · have h1:=hf i hi
           rw[q3Z (by omega)]at h1
           rw[hc]at h1;rw[s8Z];exact zEW (zI9 n) (zDB n e a k _ _ ha hc h1)
       · cases h
     · cases h
   · cases h
inductive AbsT:List ST->Nat->List AV->zA->Prop
 | nil (k:Nat):AbsT [] k [] []
 | one {p:Prim} {ts:List ST} {k:Nat} {x:AV} {xs:List AV} {H:zA}:zEc p x->AbsT ts k xs H->AbsT (.one p::ts) k (x::xs) H
 | row {el ts:List ST} {k n:Nat} {x:AV} {xs ys:List AV} {H1 H2:zA}:(n=0/\x=.nils\/x=.slice k 0 n el.length false)->n<=maxLen->AbsT (qbZ n el).flatten (k+1) ys H1->AbsT ts (k+1+H1.length) xs H2 ->
     AbsT (.row el::ts) k (x::xs) (.cells false ys::(H1++H2))
theorem zIa(w:World)(k:Nat):zD4 w k [] []:=fun j _ i B q h=>by simp at h
theorem zPp:∀(n:Nat) (ts:List ST) (cs:List Value) (k:Nat),All2 (zF5 w n) ts cs->(∀v∈cs,∀a len cap,v=.slice (some a) len cap->zFh w) ->
   ∃(xs:List AV) (H:zA) (js:List (Option JB)),AbsT ts k xs H/\js.length=H.length/\zD4 w k H js /\
     (∀j:Inj,(∀i,i<js.length->j (k+i)=(js[i]?).join)->VRs j xs cs)/\(∀(i:Nat) (B:ABlk),H[i]? = some B->∃l,B=.cells false l):=by
 intro n
 induction n with
 | zero =>
   intro ts
   induction ts with
   | nil =>
     intro cs k h _
     cases cs with
     | nil=>exact⟨[],[],[],.nil k,rfl,zIa w k,fun j _=>by simp[VRs],fun i B h=>by simp at h⟩
     | cons _ _=>exact h.elim
   | cons t ts ih =>
     intro cs k h hE
     cases cs with
     | nil=>exact h.elim
     | cons v cs =>
       cases t with
       | row el=>exact h.1.elim
       | one p =>
         obtain⟨x,h1,_,h2⟩:=zS5 (cellT_one.1 h.1)
         obtain⟨xs,H,js,g1,g2,g3,g4,g5⟩:=ih cs k h.2 fun v hv=>hE v (qiZ _ hv)
         exact⟨x::xs,H,js,.one h1 g1,g2,g3,fun j hj=>⟨v,cs,rfl,h2 j,g4 j hj⟩,g5⟩
 | succ n ihn =>
   intro ts
   induction ts with
   | nil =>
     intro cs k h _
     cases cs with
     | nil=>exact⟨[],[],[],.nil k,rfl,zIa w k,fun j _=>by simp[VRs],fun i B h=>by simp at h⟩
     | cons _ _=>exact h.elim
   | cons t ts ih =>
     intro cs k h hE
     cases cs with
     | nil=>exact h.elim
     | cons v cs =>
       cases t with
       | one p =>
         obtain⟨x,h1,_,h2⟩:=zS5 (cellT_one.1 h.1)
         obtain⟨xs,H,js,g1,g2,g3,g4,g5⟩:=ih cs k h.2 fun v hv=>hE v (qiZ _ hv)
         exact⟨x::xs,H,js,.one h1 g1,g2,g3,fun j hj=>⟨v,cs,rfl,h2 j,g4 j hj⟩,g5⟩
       | row el =>
         have none_ok:∀(p:Option JB),(∀q,p=some q->∃cs T fz,w.heap[q.blk]? = some (.cells cs T fz)/\cs.size=q.size/\q.base<=q.size)->zD4 w k [.cells false []] [p]:=by
           intro p hp j _ i B q hB hq
           have hi:i=0:=by
             have:=(q1Z.1 hB).1;simpa using this
           subst hi;cases hB;simp at hq;obtain⟨cs,T,fz,h1,h2,h3⟩:=hp q hq
           exact⟨cs,T,fz,h1,h2,by simpa using h3,fun i x hx=>by simp at hx,fun h=>by cases h⟩
         have one_own:∀(i:Nat) (B:ABlk),[ABlk.cells false []][i]? = some B->∃l,B=.cells false l:=by
           intro i B hB
           have hi:i=0:=by
             have:=(q1Z.1 hB).1;simpa using this
           subst hi;cases hB;exact⟨[],rfl⟩
         have key:∃(m:Nat) (y:AV) (ys:List AV) (H1:zA) (js:List (Option JB)),(m=0/\y=.nils\/y=.slice k 0 m el.length false)/\m<=maxLen/\AbsT (qbZ m el).flatten (k+1) ys H1/\js.length=H1.length+1/\zD4 w k (.cells false ys::H1) js /\
             (∀j:Inj,(∀i,i<js.length->j (k+i)=(js[i]?).join)->VR j y v)/\(∀(i:Nat) (B:ABlk),(ABlk.cells false ys::H1)[i]? = some B->∃l,B=.cells false l):=by
           rcases h.1 with rfl | ⟨ad,len,cap,l,rfl,hle,hm,h0,hl,hc⟩
           · exact⟨0,.nils,[],[],[none],.inl ⟨rfl,rfl⟩,qqZ _,.nil _,rfl,none_ok none (fun q h=>by cases h),fun j _=>by simp[VR],one_own⟩
           by_cases hz:cap=0
           · subst hz
             obtain rfl:len=0:=by omega
             obtain⟨q,c,T,fz,hq⟩:=hE _ (qhZ ..) ad 0 0 rfl
             refine ⟨0,.slice k 0 0 el.length false,[],[],[some ⟨q,0,c.size⟩],.inr rfl,qqZ _,.nil _,rfl,none_ok _ (fun q' h=>by cases h;exact⟨c,T,fz,hq,rfl,qqZ _⟩),fun j hj=>?_,one_own⟩
             simp only[VR]
             have:=hj 0 (by simp)
             exact⟨_,ad,0,by simpa using this,rfl,qnZ _,fun h=>(by cases h),hm,.inl rfl⟩
           · have hll:l.length=cap*el.length:=by rw[<-hl.length,Zm]
             have hpos:0<l.length:=by rw[hll];exact Nat.mul_pos (by omega) h0
             have hlast:=hc (l.length-1) l[l.length-1] (by rw[q3Z])
             have hfirst:=hc 0 l[0] (by rw[q3Z])
             have had:=zPU (w:=w) (x:=ad) (v:=l[0]) (by simpa[Addr.add] using hfirst)
             obtain⟨B,O,S⟩:=ad;cases had
             have hcell:∀(i:Nat) u,w.cell? ⟨B,O+i,none⟩=some u->∃c T fz,w.heap[B]? = some (.cells c T fz)/\c[O+i]? = some u:=by
               intro i u hu;unfold World.cell? at hu;dsimp only at hu;split at hu
               · rename_i c T fz hh
                 exact⟨c,T,fz,hh,by simpa using hu⟩
               · cases hu
             obtain⟨c,T,fz,hB,hcl2⟩:=hcell (l.length-1) _ (by rw[<-zDo];exact hlast)
             have hsz:=(qtZ.1 hcl2).1;have htk:=hl.take (len*el.length);rw[zCy _ _ _ hle]at htk
             obtain⟨ys,H1,js,g1,g2,g3,g4,g5⟩:=ihn _ _ (k+1) htk fun v _ ad len cap _=>⟨B,c,T,fz,hB⟩
             have hle2:len*el.length<=cap*el.length:=Nat.mul_le_mul_right _ hle
             have hlt:(l.take (len*el.length)).length=len*el.length:=by rw[qjZ,hll];omega
             refine ⟨len,.slice k 0 len el.length false,ys,H1,some ⟨B,O,c.size⟩::js,.inr rfl,by omega,g1,by simp[g2],fun j hj i B' q hB' hq=>?_,fun j hj=>?_,fun i B' hB'=>?_⟩
             · have hj2:∀i,i<js.length->j (k+1+i)=(js[i]?).join:=fun i hi=>by
                 have:=hj (i+1) (by simp;omega)
                 rw[show k+1+i=k+(i+1) by omega,this]
                 simp
               cases i with
               | zero =>
                 simp at hB' hq
                 subst hB';subst hq
                 have hv:=g4 j hj2
                 have hyl:ys.length=len*el.length:=by rw[hv.length,hlt]
                 refine ⟨c,T,fz,hB,rfl,by dsimp only;omega,fun i x hx=>?_,fun h=>by cases h⟩
                 have hi:i<(l.take (len*el.length)).length:=by rw[hlt,<-hyl];exact (q1Z.1 hx).1
                 have hr:=(VRs_iff.1 hv).2 i x _ hx (q3Z hi);obtain⟨u,hu⟩:∃u,(l.take (len*el.length))[i]=u:=⟨_,rfl⟩;rw[hu]at hr
                 have hu2:l[i]? = some u:=by
                   have:(l.take (len*el.length))[i]? = some u:=by rw[q3Z hi,hu]
                   rw[r4Z]at this;split at this
                   · exact this
                   · cases this
                 obtain⟨c',T',fz',hB2,hu'⟩:=hcell i u (by rw[<-zDo];exact hc i u hu2)
                 rw[hB]at hB2;cases hB2;exact⟨u,hu',hr⟩
               | succ i=>exact g3 j hj2 i B' q (by simpa using hB') (by simpa using hq)
             · simp only[VR]
               have:=hj 0 (by simp)
               exact⟨_,_,cap,by simpa using this,rfl,hle,fun h=>(by cases h),hm,.inr ⟨rfl,by dsimp only;omega⟩⟩
             · cases i with
               | zero=>simp at hB';exact⟨_,hB'.symm⟩
               | succ i=>exact g5 i B' (by simpa using hB')
         obtain⟨m,y,ys,H1,js1,g0,gm,g1,g2,g3,g4,g5⟩:=key
         obtain⟨xs,H2,js2,k1,k2,k3,k4,k5⟩:=ih cs (k+1+H1.length) h.2 fun v hv=>hE v (qiZ _ hv)
         have g2':js1.length=(ABlk.cells false ys::H1).length:=by rw[g2];rfl
         have hlen:k+(ABlk.cells false ys::H1).length=k+1+H1.length:=by simp;omega
         have blk:=zGj g2' g3 (by rw[hlen];exact k3)
         have own:=zIo g5 k5
         refine ⟨y::xs,.cells false ys::(H1++H2),js1++js2,.row g0 gm g1 k1,by simp[g2,k2];omega,blk,fun j hj=>?_,own⟩
         refine ⟨v,cs,rfl,g4 j fun i hi=>?_,k4 j fun i hi=>?_⟩
         · rw[hj i (by simp;omega),q4Z hi]
         · rw[show k+1+H1.length+i=k+(js1.length+i) by omega,hj (js1.length+i) (by simp;omega),q5Z (by omega),s3Z]
def zAT:List (Bool×List ST)->Nat->List AV->zA->Prop
 | [],_,[],[]=>True
 | (true,ts)::ss,k,x::xs,H=>∃ys H1 H2,x=.agg ys/\AbsT ts k ys H1/\H=H1++H2/\zAT ss (k+H1.length) xs H2
 | (false,ts)::ss,k,x::xs,H=>∃H1 H2,AbsT ts k [x] H1/\H=H1++H2/\zAT ss (k+H1.length) xs H2
 | _,_,_,_=>False
def zF2(P:Program)(n:Nat):List TypeId->Option (List (Bool×List ST))
 | []=>some []
 | t::ts=>match zPX P t,zDv P n t with
   | some b,some a=>if P.cellsOf t=a.length then (zF2 P n ts).map ((b,a)::·) else none
   | _,_=>none
theorem zHy:∀{ts:List ST} {k:Nat} {xs:List AV} {H:zA},AbsT ts k xs H->xs.length=ts.length
 | _,_,_,_,.nil _=>rfl
 | _,_,_,_,.one _ h=>by simp[zHy h]
 | _,_,_,_,.row _ _ _ h=>by simp[zHy h]
theorem zKL:∀(n:Nat) (ts:List TypeId) (ss:List (Bool×List ST)) (vs:List Value) (ds:List (DataW H)) (ps:List MemPlace) (k:Nat),zF2 P n ts=some ss->DataW.TrodAll enc P w base' (fun _=>true) true ts vs ds ps ->
   (∀(j:Nat) t v,ts[j]? = some t->vs[j]? = some v->Value.okWide P w .any base t v) ->
   ∃(xs:List AV) (H:zA) (js:List (Option JB)),zAT ss k xs H/\js.length=H.length/\zD4 w k H js /\
     (∀j:Inj,(∀i,i<js.length->j (k+i)=(js[i]?).join)->VRs j xs vs)/\(∀(i:Nat) (B:ABlk),H[i]? = some B->∃l,B=.cells false l)
 | n,[],ss,vs,ds,ps,k,hs,hA,_=>by
   cases hs;obtain⟨rfl,_,_⟩:=trodAll_nil hA
   exact⟨[],[],[],trivial,rfl,zIa w k,fun j _=>by simp[VRs],fun i B h=>by simp at h⟩
 | n,t::ts,ss,vs,ds,ps,k,hs,hA,hv=>by
   unfold zF2 at hs;split at hs
   · rename_i b a hb ha
     split at hs
     · rename_i hcl
       obtain⟨ss',hss,rfl⟩:=qlZ.1 hs;obtain⟨v,vs',d,ds',p,q,rfl,_,_,⟨fuel,hT⟩,hA'⟩:=trodAll_cons hA;obtain⟨f1,f2,f3⟩:=zTL hb (hv 0 t v rfl rfl);have hc:=zDB (w:=w) n t a fuel _ _ ha hcl hT;obtain⟨ys,H1,js1,g1,g2,g3,g4,g5⟩:=zPp n a _ k hc f3
       obtain⟨xs,H2,js2,k1,k2,k3,k4,k5⟩:=zKL n ts ss' vs' ds' q (k+H1.length) hss hA' fun j t' v' ht hv'=>hv (j+1) t' v' (by simpa using ht) (by simpa using hv')
       have blk:=zGj g2 g3 k3;have own:=zIo g5 k5
       have j1:∀j:Inj,(∀i,i<(js1++js2).length->j (k+i)=((js1++js2)[i]?).join)->VRs j ys v.cells.toList/\VRs j xs vs':=by
         intro j hj
         refine ⟨g4 j fun i hi=>?_,k4 j fun i hi=>?_⟩
         · rw[hj i (by simp;omega),q4Z hi]
         · rw[show k+H1.length+i=k+(H1.length+i) by omega,hj (H1.length+i) (by simp;omega),q5Z (by omega),g2,s3Z]
       cases b with
       | true =>
         obtain⟨cs,rfl⟩:=f1 rfl
         refine ⟨.agg ys::xs,H1++H2,js1++js2,⟨ys,H1,H2,rfl,g1,rfl,k1⟩,by simp[g2,k2],blk,fun j hj=>?_,own⟩
         obtain⟨h1,h2⟩:=j1 j hj
         exact⟨_,vs',rfl,by simp only[VR];exact⟨cs,rfl,h1⟩,h2⟩
       | false =>
         have e:=f2 rfl;rw[e]at j1 hc
         have hy:∃y,ys=[y]:=by
           have h1:=hc.length;have h2:=zHy g1;simp at h1;exact List.length_eq_one_iff.1 (h2.trans h1)
         obtain⟨y,rfl⟩:=hy
         refine ⟨y::xs,H1++H2,js1++js2,⟨H1,H2,g1,rfl,k1⟩,by simp[g2,k2],blk,fun j hj=>?_,own⟩
         obtain⟨h1,h2⟩:=j1 j hj;simp[VRs]at h1;exact⟨v,vs',rfl,h1,h2⟩
     · cases hs
   · cases hs
theorem zRX{f:FuncId}{n:Nat}{ts:List TypeId}{ss:List (Bool×List ST)}{args:Array Value}{ds:List (DataW H)}{ps:List MemPlace}(hs:zF2 P n ts=some ss)
   (hA:DataW.TrodAll enc P w base' (fun _=>true) true ts args.toList ds ps) (hv:∀(j:Nat) t v,ts[j]? = some t->args[j]? = some v->Value.okWide P w .any base t v)
   (h:∀xs H,zAT ss 0 xs H->∃H',Ct P f xs H (.bool true) H') (hg:GloW w:=by exact gloW_none _) :
   Calls P f args w fun e w'=>e=.returned (.bool true)/\Below w.heap.size w w':=by
 obtain⟨xs,H,js,h1,h2,h3,h4,h5⟩:=zKL (base:=base) n ts ss args.toList ds ps 0 hs hA fun j t v ht hv'=>hv j t v ht (by simpa using hv')
 obtain⟨H',hct⟩:=h xs H h1
 let j0:Inj:=⟨fun i=>(js[i]?).join,fun _=>[],fun _=>[]⟩
 have hj0:∀i,j0 i=(js[i]?).join:=fun _=>rfl
 have hro:H.all zHD=true:=by
   rw[s5Z];intro y hy;obtain⟨b,hb⟩:=List.getElem?_of_mem hy;obtain⟨l,rfl⟩:=h5 b y hb;rfl
 have hR:R j0 H w:=by
   refine R.ro (fun b hb=>?_) (fun b x p hb hp=>?_) hro hg
   · rw[hj0,s4Z (by omega)];rfl
   · obtain⟨q,hq,e⟩:=Option.join_eq_some_iff.1 hp |> fun h=>(⟨some p,h,rfl⟩:∃q,js[b]? = some q/\q=some p)
     exact h3 j0 (fun i hi=>by rw[s8Z,hj0]) b x p hb (by rw[hq,e])
 refine (hct _ w args hR (h4 _ fun i hi=>by rw[s8Z,hj0])).mono ?_
 rintro e w' ⟨cv,j',rfl,hv1,hst⟩;simp only[VR]at hv1;subst hv1
 refine ⟨rfl,hst.keeps.os,hst.keeps.tape,hst.keeps.output,hst.keeps.size,fun c hc=>hst.keeps.block c hc fun ⟨b,y,p,hb,hy,hp,_⟩=>?_⟩
 obtain⟨l,rfl⟩:=h5 b y hb;cases hy
end
theorem zL4{ts:List ST}{ss:List (Bool×List ST)}{k:Nat}{xs:List AV}{H:zA}(h:zAT ((true,ts)::ss) k xs H):∃ys xs' H1 H2,xs=.agg ys::xs'/\AbsT ts k ys H1/\H=H1++H2/\zAT ss (k+H1.length) xs' H2:=by
 cases xs with
 | nil=>exact h.elim
 | cons x xs =>
   obtain⟨ys,H1,H2,rfl,h1,h2,h3⟩:=h;exact⟨ys,xs,H1,H2,rfl,h1,h2,h3⟩
theorem zEl{ts:List ST}{ss:List (Bool×List ST)}{k:Nat}{xs:List AV}{H:zA}(h:zAT ((false,ts)::ss) k xs H):∃x xs' H1 H2,xs=x::xs'/\AbsT ts k [x] H1/\H=H1++H2/\zAT ss (k+H1.length) xs' H2:=by
 cases xs with
 | nil=>exact h.elim
 | cons x xs =>
   obtain⟨H1,H2,h1,h2,h3⟩:=h;exact⟨x,xs,H1,H2,rfl,h1,h2,h3⟩
theorem zLt{k:Nat}{xs:List AV}{H:zA}(h:zAT [] k xs H):xs=[]/\H=[]:=by
 cases xs <;> cases H <;> first | exact⟨rfl,rfl⟩ | exact h.elim
theorem zBN{p:Prim}{ts:List ST}{k:Nat}{xs:List AV}{H:zA}(h:AbsT (.one p::ts) k xs H):∃x ys,xs=x::ys/\zEc p x/\AbsT ts k ys H:=by
 cases h with
 | one h1 h2=>exact⟨_,_,rfl,h1,h2⟩
theorem zFd{el ts:List ST}{k:Nat}{xs:List AV}{H:zA}(h:AbsT (.row el::ts) k xs H):∃x xs' n ys H1 H2,xs=x::xs'/\(n=0/\x=.nils\/x=.slice k 0 n el.length false)/\n<=maxLen/\AbsT (qbZ n el).flatten (k+1) ys H1 /\
   H=.cells false ys::(H1++H2)/\AbsT ts (k+1+H1.length) xs' H2:=by
 cases h with
 | row h1 h2 h3 h4=>exact⟨_,_,_,_,_,_,rfl,h1,h2,h3,rfl,h4⟩
theorem zCm{k:Nat}{xs:List AV}{H:zA}(h:AbsT [] k xs H):xs=[]/\H=[]:=by
 cases h with
 | nil=>exact⟨rfl,rfl⟩
def CT.st:CT->ST
 | .one p=>.one p
 | .row el=>.row (el.map .one)
theorem zEz:∀{el:List Prim} {k:Nat} {xs:List AV} {H:zA},AbsT (el.map .one) k xs H->All2 zEc el xs/\H=[]
 | [],k,xs,H,h=>by obtain⟨rfl,rfl⟩:=zCm h;exact⟨trivial,rfl⟩
 | p::el,k,xs,H,h=>by
   obtain⟨x,ys,rfl,h1,h2⟩:=zBN h;obtain⟨g1,rfl⟩:=zEz h2;exact⟨⟨h1,g1⟩,rfl⟩
theorem zDW(n:Nat)(el:List Prim):(qbZ n (el.map ST.one)).flatten=((qbZ n el).flatten).map ST.one:=by
 rw[List.map_flatten,List.map_replicate]
theorem zLV:∀{ts:List CT} {k:Nat} {xs:List AV} {H:zA},AbsT (ts.map CT.st) k xs H->zDh ts k xs H
 | [],k,xs,H,h=>by obtain⟨rfl,rfl⟩:=zCm h;trivial
 | .one p::ts,k,xs,H,h=>by
   obtain⟨x,ys,rfl,h1,h2⟩:=zBN h;exact⟨h1,zLV h2⟩
 | .row el::ts,k,xs,H,h=>by
   obtain⟨x,xs',n,ys,H1,H2,rfl,h1,h2,h3,rfl,h4⟩:=zFd h;rw[zDW]at h3;obtain⟨g1,rfl⟩:=zEz h3;rw[r7Z]at h1;exact⟨⟨ys,n,rfl,h1,h2,g1⟩,zLV h4⟩
end
end Go.Proofs.YtpmfecnajoojeaaGreatDoor
