/- Parts of the proof of SweepTells: lemmas, each with its own conditions. -/
import Derived.Lib.AtoiTie
import Derived.Lib.RowBridge
import Derived.Test.YtfhidaoiofeooaaGreatDoorY6
import Derived.Test.YtfhidaoiofeooaaGreatDoorY4
import Derived.Test.YtfhidaoiofeooaaGreatDoorY5
set_option maxHeartbeats 64000000
open List renaming getElem?_eq_some_iff → q1Z, getElem?_eq_getElem → q3Z, take_of_length_le → q6Z, length_cons → q7Z, length_nil → q8Z, cons_append → q9Z, nil_append → qaZ, replicate → qbZ, length_append → qdZ, mem_cons_self → qhZ, length_drop → qkZ, mem_append → qxZ, mem_singleton → r1Z, getElem?_drop → r5Z, nodup_cons → rdZ
open Nat renaming le_refl → qnZ, zero_le → qqZ, lt_of_lt_of_le → rlZ
open Bool renaming and_eq_true → qrZ, false_eq_true → qsZ
open Int renaming tmod_eq_emod_of_nonneg → rrZ
namespace Go.Proofs.YtfhidaoiofeooaaGreatDoor
open _root_.Go.Proofs.Tryz renaming prog → Pz
set_option maxRecDepth 100000
section
open Go
mutual
def awB(rn:List Nat):AV->AV->Bool
 | .top,_=>true
 | .bool b,.bool b'=>b==b'
 | .int k n,.int k' n'=>k==k'&&n==n'
 | .str s,.str s'=>s==s'
 | .ptr b o,.ptr b' o'=>rn[b]? == some b'&&o==o'
 | .nilp,.nilp=>true
 | .slice b o l sz c,.slice b' o' l' sz' c'=>rn[b]? == some b'&&(o==o'&&(l==l'&&(sz==sz'&&(!c || c'))))
 | .sl b o l sz c,.slice b' o' l' sz' c'=>rn[b]? == some b'&&(o==o'&&(l==l'&&(sz==sz'&&(!c || c'))))
 | .sl b o l sz c,.sl b' o' l' sz' c'=>rn[b]? == some b'&&(o==o'&&(l==l'&&(sz==sz'&&(!c || c'))))
 | .sl _ _ l _ _,.nils=>l==0
 | .nils,.nils=>true
 | .map b,.map b'=>rn[b]? == some b'
 | .nilm,.nilm=>true
 | .func f xs ys,.func f' xs' ys'=>f==f'&&(zFw rn xs xs'&&zFw rn ys ys')
 | .yld b,.yld b'=>rn[b]? == some b'
 | .nilf,.nilf=>true
 | .agg l,.agg l'=>zFw rn l l'
 | .tuple l,.tuple l'=>zFw rn l l'
 | _,_=>false
def zFw(rn:List Nat):List AV->List AV->Bool
 | [],[]=>true
 | x::xs,y::ys=>awB rn x y&&zFw rn xs ys
 | _,_=>false
end
mutual
theorem zUf{rn:List Nat}:∀(x y:AV),awB rn x y=true->AW rn x y
 | .top,_,_=>by simp[AW]
 | .bool b,y,h=>by cases y <;> simp_all [awB,AW]
 | .int k n,y,h=>by cases y <;> simp_all [awB,AW]
 | .str s,y,h=>by cases y <;> simp_all [awB,AW]
 | .ptr b o,y,h=>by cases y <;> simp_all [awB,AW]
 | .nilp,y,h=>by cases y <;> simp_all [awB,AW]
 | .slice b o l sz c,y,h=>by
   cases y <;> simp only[awB,qsZ,qrZ,beq_iff_eq,Bool.or_eq_true,Bool.not_eq_true']at h
   simp only[AW];obtain⟨h1,h2,h3,h4,h5⟩:=h;exact⟨h1,h2,h3,h4,fun hc=>by rcases h5 with h5 | h5 <;> simp_all⟩
 | .sl b o l sz c,y,h=>by
   cases y <;> simp only[awB,qsZ,qrZ,beq_iff_eq,Bool.or_eq_true,Bool.not_eq_true']at h
   · simp only[AW]
     obtain⟨h1,h2,h3,h4,h5⟩:=h;exact⟨h1,h2,h3,h4,fun hc=>by rcases h5 with h5 | h5 <;> simp_all⟩
   · simp only[AW]
     obtain⟨h1,h2,h3,h4,h5⟩:=h;exact⟨h1,h2,h3,h4,fun hc=>by rcases h5 with h5 | h5 <;> simp_all⟩
   · simpa only[AW] using h
 | .nils,y,h=>by cases y <;> simp_all [awB,AW]
 | .map b,y,h=>by cases y <;> simp_all [awB,AW]
 | .nilm,y,h=>by cases y <;> simp_all [awB,AW]
 | .func f xs ys,y,h=>by
   cases y <;> simp only[awB,qsZ,qrZ,beq_iff_eq]at h
   simp only[AW];exact⟨h.1,zBC _ _ h.2.1,zBC _ _ h.2.2⟩
 | .yld b,y,h=>by cases y <;> simp_all [awB,AW]
 | .nilf,y,h=>by cases y <;> simp_all [awB,AW]
 | .agg l,y,h=>by
   cases y <;> simp only[awB,qsZ]at h
   simp only[AW];exact zBC _ _ h
 | .tuple l,y,h=>by
   cases y <;> simp only[awB,qsZ]at h
   simp only[AW];exact zBC _ _ h
theorem zBC{rn:List Nat}:∀(xs ys:List AV),zFw rn xs ys=true->AWs rn xs ys
 | [],ys,h=>by cases ys <;> simp_all [zFw,AWs]
 | x::xs,ys,h=>by
   cases ys <;> simp only[zFw,qsZ,qrZ]at h
   simp only[AWs];exact⟨zUf _ _ h.1,zBC _ _ h.2⟩
end
def zVK(rn:List Nat):ABlk->ABlk->Bool
 | .dead,_=>true
 | .cells o l,.cells o' l'=>(!o || o')&&zFw rn l l'
 | .map es,.map es'=>zFw rn (es.map (·.1)) (es'.map (·.1))&&zFw rn (es.map (·.2)) (es'.map (·.2))
 | .pin l,.pin l'=>zFw rn l l'
 | _,_=>false
theorem zTV{rn:List Nat}{x y:ABlk}(h:zVK rn x y=true):AWb rn x y:=by
 cases x <;> cases y <;> simp only[zVK,qsZ,qrZ,Bool.or_eq_true,Bool.not_eq_true']at h
 all_goals simp only[AWb]
 · exact⟨fun ho=>by rcases h.1 with h1 | h1 <;> simp_all,zBC _ _ h.2⟩
 · exact⟨zBC _ _ h.1,zBC _ _ h.2⟩
 · exact zBC _ _ h
def zSh(rn:List Nat)(H:zA):zA->List Nat->Bool
 | [],[]=>true
 | x::xs,b::bs=>(if b<H.length then zVK rn x (H.getD b .dead) else true)&&zSh rn H xs bs
 | _,_=>false
theorem zO5{rn:List Nat}{H:zA}:∀{xs:zA} {bs:List Nat},zSh rn H xs bs=true->AWg rn H xs bs
 | [],bs,h=>by cases bs <;> simp_all [zSh,AWg]
 | x::xs,bs,h=>by
   cases bs <;> simp only[zSh,qsZ,qrZ]at h
   simp only[AWg];refine ⟨?_,zO5 h.2⟩;split
   · rename_i hb
     have h1:=h.1;rw[if_pos hb]at h1;exact zTV h1
   · trivial
def zTl:List Nat->Bool
 | []=>true
 | x::l=>!l.contains x&&zTl l
theorem zPP:∀{l:List Nat},zTl l=true->l.Nodup
 | [],_=>by simp
 | x::l,h=>by
   simp only[zTl,qrZ,Bool.not_eq_true',List.contains_eq_mem,decide_eq_false_iff_not]at h;exact rdZ.2 ⟨h.1,zPP h.2⟩
def zSa(n:Nat)(rn:List Nat)(F:List AV)(H:zA)(Fn:List AV)(Hn:zA):Bool :=
 zTl rn&&(rn.take n==List.range n&&(zFw rn Fn F&&zSh rn H Hn rn))
theorem zSE{n:Nat}{rn:List Nat}{F Fn:List AV}{H Hn:zA}(h:zSa n rn F H Fn Hn=true):Weak n F H Fn Hn:=by
 simp only[zSa,qrZ,beq_iff_eq]at h;exact Weak.mk' rn (zPP h.1) h.2.1 (zBC _ _ h.2.2.1) (zO5 h.2.2.2)
def zRk(P:Program)(rs:List ResultVar)(r:zOW):Bool :=
 match r with
 | some (.ret,F',H')=>(match zCt P rs F' H' with | some (.bool true)=>true | _=>false)
 | some (.normal,F',H')=>(match zCt P rs F' H' with | some (.bool true)=>true | _=>false)
 | _=>false
theorem Sim.kret{P:Program}{Γ:Gam}(hm:P.follows .mixedOrders=true)(hΓ:GOk P Γ){n:Nat}{c:Code}{F:List AV}{H:zA}{rs:List ResultVar}(h:zRk P rs (zu P Γ n true c F H)=true) :
   Sim P none ([]:zA).length c F H fun x F1 H1=>(x=.normal\/x=.ret)/\∃v1,zCt P rs F1 H1=some v1/\Weak ([]:zA).length [v1] H1 [.bool true] []:=by
 have key:∀x F' H',zu P Γ n true c F H=some (x,F',H')->(x=.normal\/x=.ret)->zCt P rs F' H'=some (.bool true)->Sim P none ([]:zA).length c F H fun x F1 H1=>(x=.normal\/x=.ret)/\∃v1,zCt P rs F1 H1=some v1/\Weak ([]:zA).length [v1] H1 [.bool true] []:=by
   intro x F' H' h1 h2 h3;refine ((Zb hm hΓ none n true (fun _=>rfl) c F F' H H' x h1).len (qqZ _)).mono ?_;rintro x1 F1 H1 _ ⟨rfl,rfl,rfl⟩;exact⟨h2,_,h3,Weak.mk' [] (by decide) rfl (by simp[AWs,AW]) (by simp[AWg])⟩
 unfold zRk at h;split at h
 · rename_i F' H' h1
   split at h
   · rename_i h2;exact key _ _ _ h1 (.inr rfl) h2
   · cases h
 · rename_i F' H' h1
   split at h
   · rename_i h2;exact key _ _ _ h1 (.inl rfl) h2
   · cases h
 · cases h
def zDO(P:Program)(Γ:Gam)(n:Nat)(q:Bool):Nat->Code->List AV->zA->Option (List AV×zA)
 | 0,_,F,H=>some (F,H)
 | k+1,.seq x y,F,H=>match zu P Γ n q x F H with
   | some (.normal,F',H')=>zDO P Γ n q k y F' H'
   | _=>none
 | _+1,_,_,_=>none
theorem zHK{P:Program}{Γ:Gam}(hm:P.follows .mixedOrders=true)(hΓ:GOk P Γ){r:Option Nat}{n0 n:Nat}{Q:AX->List AV->zA->Prop}:∀(k:Nat) (c:Code) (F F':List AV) (H H':zA),zDO P Γ n r.isNone k c F H=some (F',H')->n0<=H.length ->
   (n0<=H'.length->Sim P r n0 (zJM k c) F' H' Q)->Sim P r n0 c F H Q
 | 0,c,F,F',H,H',h,hn,hk=>by
   cases h;exact hk hn
 | k+1,c,F,F',H,H',h,hn,hk=>by
   cases c with
   | seq x y =>
     simp only[zDO]at h;split at h
     · rename_i F1 H1 h1
       have hr:r.isNone=true->r=none:=by intro e;cases r <;> simp_all
       refine Sim.seq (((Zb hm hΓ r n r.isNone hr x F F1 H H1 .normal h1).len hn).mono ?_);rintro x1 F2 H2 hl ⟨rfl,rfl,rfl⟩;exact zHK hm hΓ k y _ F' _ H' h hl hk
     · cases h
   | _=>simp[zDO]at h
def zMv(n:Nat)(rn:List Nat)(r:Option (List AV×zA))(Fn:List AV)(Hn:zA):Bool :=
 match r with
 | some (F',H')=>zSa n rn F' H' Fn Hn
 | none=>false
theorem Sim.kmany{P:Program}{Γ:Gam}(hm:P.follows .mixedOrders=true)(hΓ:GOk P Γ){r:Option Nat}{n0 n:Nat}{c:Code}{F Fn:List AV}{H Hn:zA}{Q:AX->List AV->zA->Prop}(k:Nat)(rn:List Nat)(h:zMv n0 rn (zDO P Γ n r.isNone k c F H) Fn Hn=true)(hn:n0<=H.length)
   (kk:Sim P r n0 (zJM k c) Fn Hn Q):Sim P r n0 c F H Q:=by
 unfold zMv at h;split at h
 · rename_i F' H' h1
   exact zHK hm hΓ k c F F' H H' h1 hn fun hl=>Sim.weak (zSE h) hl kk
 · cases h
theorem zIK(k k':IntKind)(x y:Int):zDS false (.int k x) (.int k' y)=some (.int k (min x y)):=by
 unfold zDS;simp only[qsZ,if_false];congr 2;omega
theorem zFq(k k':IntKind)(x y:Int):zDS true (.int k x) (.int k' y)=some (.int k (max x y)):=by
 unfold zDS;simp only[if_true];congr 2;omega
end
section
open Go Go.Lib
attribute [-simp] zG zT zc zJ zn
def dg(m:Nat):List UInt8:=decDigits m
theorem zCQ{m:Nat}(h:m<10):dg m=[UInt8.ofNat (48+m)]:=decDigits_one h
theorem zHn{m:Nat}(h:¬m<10):dg m=dg (m / 10)++[UInt8.ofNat (48+m % 10)]:=by
 unfold dg;rw[decDigits,dif_neg h]
theorem zBh:∀(k m:Nat),m<10 ^ (k+1)->(dg m).length<=k+1
 | 0,m,h=>by rw[zCQ (by omega)];simp
 | k+1,m,h=>by
   by_cases hm:m<10
   · rw[zCQ hm];simp
   · rw[zHn hm,qdZ]
     have:=zBh k (m / 10) (by rw[Nat.pow_succ]at h;omega);simp only[q7Z,q8Z];omega
def zNV(k:Nat):zS:=zBJ fun
 | [.int .i64 (.ofNat m)]=>if m<k/\m<=1000000000000 then some (.str (dg m)) else none
 | _=>none
theorem zIx:∀(k m:Nat),m<k->m<=1000000000000->Ct Pz 215 [.int .i64 m] [] (.str (dg m)) []
 | 0,_,h,_=>by omega
 | k+1,m,h,hm=>by
   have hΓ:GOk Pz (zh [(215,zNV k)]):=zC (by
     refine ZM (zD Tryz.func215 rfl (by decide)) fun args v hv=>?_;split at hv
     · split at hv <;> cases hv
       rename_i hc;exact⟨zIx k _ hc.1 hc.2,rfl,rfl⟩
     · cases hv) zB
   obtain⟨c,hc⟩:∃c:Nat,m % 10=c:=⟨_,rfl⟩
   have hc9:c<=9:=by omega
   have e1:(m:Int).tmod 10=c:=by rw[rrZ (by omega)];omega
   have e2:(m:Int).tdiv 10=((m / 10:Nat):Int):=by rw[Int.tdiv_eq_ediv_of_nonneg (by omega)];omega
   have w1:IntKind.i64.wrap (c:Int)=c:=zK (by omega) (by omega);have w2:IntKind.i64.wrap (48+(c:Int))=48+c:=zK (by omega) (by omega);have w3:IntKind.u8.wrap (48+(c:Int))=48+c:=zEH (by omega) (by omega);have u1:(48+(c:Int)).toNat=48+c:=by omega
   by_cases hm10:m<10
   · have hcm:c=m:=by omega
     have d1:(m:Int)<10:=by omega
     have hd:=zCQ hm10;subst hcm;refine ZY hmix hΓ (n:=0) Tryz.func215 ?_ (by simp);unfold Tryz.f215;simp[e1,w2,w3,u1,d1,hd]
   · have d1:¬(m:Int)<10:=by omega
     have hd:=zHn hm10;rw[hc]at hd;have w4:IntKind.i64.wrap ((m / 10:Nat):Int)=((m / 10:Nat):Int):=zK (by omega) (by omega);obtain⟨q,hq⟩:∃q:Nat,m / 10=q:=⟨_,rfl⟩
     rw[hq]at e2 w4 hd;have q1:q<k:=by omega
     have q2:q<=1000000000000:=by omega
     have q3:zNV k [.int .i64 (q:Int)]=fun H=>some (.str (dg q),H,[]):=by
       funext H
       simp[zNV,zBJ,q1,q2]
     have ql:(dg q).length<=15:=zBh 14 q (by omega);have ql2:(dg q).length+1<=9223372036854775807:=by omega
     refine ZY hmix hΓ (n:=0) Tryz.func215 ?_ (by simp);unfold Tryz.f215;simp[e1,e2,w2,w3,w4,u1,d1,hd,q3,ql2]
def manifW:List UInt8:=[109,97,110,105,102,101,115,116]
def tempW:List UInt8:=[109,97,110,105,102,101,115,116,46,116,109,112]
def walW:List UInt8:=[119,97,108,45]
def segW:List UInt8:=[115,101,103,45]
def mk(k n:Int):List UInt8 :=
 if k=1 then manifW else if k=2 then tempW else if n<1\/1000000000<n then [] else if k=3 then walW++dg n.toNat else if k=4 then segW++dg n.toNat else []
theorem zGv{k n:Int}(h1:k≠1)(h2:k≠2)(h3:k≠3)(h4:k≠4):mk k n=[]:=by
 unfold mk;simp[h1,h2,h3,h4]
def mkS:zS:=zBJ fun
 | [.int .i64 k,.int .i64 n]=>some (.str (mk k n))
 | _=>none
def zDH:List FuncId:=[203,206]
theorem zA0:GOk Pz (zAF Pz (zh [(214,zLO)]) 0 zDH 2):=zq hmix (zC zIH zB) 0 zDH 2
theorem zT1{m:Nat}(h:m<10 ^ 20):zQH 20 m=dg m:=zJr 20 m h (by decide)
theorem zS9(k n:Int):Ct Pz 127 [.int .i64 k,.int .i64 n] [] (.str (mk k n)) []:=by
 have key:∀j:Nat,1<=n->n<=1000000000->∃m:Nat,n=m/\zLO [.int .i64 n]=fun H=>some (.str (dg m),H,[]):=fun _ h1 h2=>by
   obtain⟨m,rfl⟩:∃m:Nat,n=m:=⟨n.toNat,by omega⟩
   refine ⟨m,rfl,?_⟩
   funext H
   have e:m<=9223372036854775807:=by omega
   simp[zLO,zBJ,e,zT1 (show m<10 ^ 20 by omega)]
 by_cases h0:k<0
 · have hm:mk k n=[]:=zGv (by omega) (by omega) (by omega) (by omega)
   rw[hm];exact ZY hmix zA0 (n:=0) Tryz.func127 (by unfold Tryz.f127;simp +decide [h0]) (by simp)
 by_cases h4:4<k
 · have hm:mk k n=[]:=zGv (by omega) (by omega) (by omega) (by omega)
   rw[hm];exact ZY hmix zA0 (n:=0) Tryz.func127 (by unfold Tryz.f127;simp +decide [h0,h4]) (by simp)
 have hk:k=0\/k=1\/k=2\/k=3\/k=4:=by omega
 rcases hk with rfl | rfl | rfl | rfl | rfl
 · have hm:mk 0 n=[]:=zGv (by omega) (by omega) (by omega) (by omega)
   rw[hm];exact ZY hmix zA0 (n:=0) Tryz.func127 (by unfold Tryz.f127;simp +decide [zDH,Tryz.f203,Tryz.f206]) (by simp)
 · simp only[show mk 1 n=manifW from rfl]
   exact ZY hmix zA0 (n:=0) Tryz.func127 (by unfold Tryz.f127;simp +decide [zDH,Tryz.f203,Tryz.f206,manifW]) (by simp)
 · simp only[show mk 2 n=tempW from rfl]
   exact ZY hmix zA0 (n:=0) Tryz.func127 (by unfold Tryz.f127;simp +decide [zDH,Tryz.f203,Tryz.f206,tempW]) (by simp)
 · by_cases h1:n<1
   · have hm:mk 3 n=[]:=by unfold mk;rw[if_neg (by omega),if_neg (by omega),if_pos (.inl h1)]
     rw[hm];exact ZY hmix zA0 (n:=0) Tryz.func127 (by unfold Tryz.f127;simp +decide [zDH,Tryz.f203,Tryz.f206,h1]) (by simp)
   by_cases h2:1000000000<n
   · have hm:mk 3 n=[]:=by unfold mk;rw[if_neg (by omega),if_neg (by omega),if_pos (.inr h2)]
     rw[hm];exact ZY hmix zA0 (n:=0) Tryz.func127 (by unfold Tryz.f127;simp +decide [zDH,Tryz.f203,Tryz.f206,h1,h2]) (by simp)
   obtain⟨m,hm,hi⟩:=key 0 (by omega) (by omega);have hml:(dg m).length<=15:=zBh 14 m (by omega);have hml2:4+(dg m).length<=9223372036854775807:=by omega
   have hml3:(dg m).length+1+1+1+1<=9223372036854775807:=by omega
   have hmk:mk 3 n=walW++dg m:=by unfold mk;rw[if_neg (by omega),if_neg (by omega),if_neg (by omega),if_pos rfl];rw[hm];rfl
   rw[hmk];exact ZY hmix zA0 (n:=0) Tryz.func127 (by unfold Tryz.f127;simp +decide [zDH,Tryz.f203,Tryz.f206,h1,h2,hi,hml2,walW]) (by simp)
 · by_cases h1:n<1
   · have hm:mk 4 n=[]:=by unfold mk;rw[if_neg (by omega),if_neg (by omega),if_pos (.inl h1)]
     rw[hm];exact ZY hmix zA0 (n:=0) Tryz.func127 (by unfold Tryz.f127;simp +decide [zDH,Tryz.f203,Tryz.f206,h1]) (by simp)
   by_cases h2:1000000000<n
   · have hm:mk 4 n=[]:=by unfold mk;rw[if_neg (by omega),if_neg (by omega),if_pos (.inr h2)]
     rw[hm];exact ZY hmix zA0 (n:=0) Tryz.func127 (by unfold Tryz.f127;simp +decide [zDH,Tryz.f203,Tryz.f206,h1,h2]) (by simp)
   obtain⟨m,hm,hi⟩:=key 0 (by omega) (by omega);have hml:(dg m).length<=15:=zBh 14 m (by omega);have hml2:4+(dg m).length<=9223372036854775807:=by omega
   have hml3:(dg m).length+1+1+1+1<=9223372036854775807:=by omega
   have hmk:mk 4 n=segW++dg m:=by unfold mk;rw[if_neg (by omega),if_neg (by omega),if_neg (by omega),if_neg (by omega),if_pos rfl];rw[hm];rfl
   rw[hmk];exact ZY hmix zA0 (n:=0) Tryz.func127 (by unfold Tryz.f127;simp +decide [zDH,Tryz.f203,Tryz.f206,h1,h2,hi,hml2,segW]) (by simp)
theorem zHN:Sound Pz 127 mkS:=by
 refine ZM (zD Tryz.func127 rfl (by decide)) fun args v h=>?_;split at h <;> cases h
 exact⟨zS9 _ _,rfl,rfl⟩
theorem zNN(b:Nat):Sound Pz 215 (zNV b):=by
 refine ZM (zD Tryz.func215 rfl (by decide)) fun args v hv=>?_;split at hv
 · split at hv <;> cases hv
   rename_i hc;exact⟨zIx b _ hc.1 hc.2,rfl,rfl⟩
 · cases hv
theorem zBl:GOk Pz (zh [(215,zNV 1000000000001)]):=zC (zNN _) zB
theorem zR7(k n:Int):Ct Pz 129 [.int .i64 k,.int .i64 n] [] (.str (mk k n)) []:=by
 have key:1<=n->n<=1000000000->∃m:Nat,n=m/\zNV 1000000000001 [.int .i64 n]=fun H=>some (.str (dg m),H,[]):=fun h1 h2=>by
   obtain⟨m,rfl⟩:∃m:Nat,n=m:=⟨n.toNat,by omega⟩
   refine ⟨m,rfl,?_⟩
   funext H
   have e1:m<1000000000001:=by omega
   have e2:m<=1000000000000:=by omega
   simp[zNV,zBJ,e1,e2]
 by_cases k1:k=1
 · subst k1
   exact ZY hmix zBl (n:=0) Tryz.func129 (by unfold Tryz.f129;simp +decide [mk,manifW]) (by simp)
 by_cases k2:k=2
 · subst k2
   exact ZY hmix zBl (n:=0) Tryz.func129 (by unfold Tryz.f129;simp +decide [mk,tempW]) (by simp)
 by_cases h1:n<1
 · have hm:mk k n=[]:=by unfold mk;rw[if_neg k1,if_neg k2,if_pos (.inl h1)]
   rw[hm];exact ZY hmix zBl (n:=0) Tryz.func129 (by unfold Tryz.f129;simp +decide [k1,k2,h1]) (by simp)
 by_cases h2:1000000000<n
 · have hm:mk k n=[]:=by unfold mk;rw[if_neg k1,if_neg k2,if_pos (.inr h2)]
   rw[hm];exact ZY hmix zBl (n:=0) Tryz.func129 (by unfold Tryz.f129;simp +decide [k1,k2,h1,h2]) (by simp)
 obtain⟨m,hm,hi⟩:=key (by omega) (by omega);have hml:(dg m).length<=15:=zBh 14 m (by omega);have hml2:4+(dg m).length<=9223372036854775807:=by omega
 have hml3:(dg m).length+1+1+1+1<=9223372036854775807:=by omega
 by_cases k3:k=3
 · have hmk:mk k n=walW++dg m:=by unfold mk;rw[if_neg k1,if_neg k2,if_neg (by omega),if_pos k3,hm];rfl
   rw[hmk];subst k3;exact ZY hmix zBl (n:=0) Tryz.func129 (by unfold Tryz.f129;simp +decide [h1,h2,hi,hml2,walW]) (by simp)
 by_cases k4:k=4
 · have hmk:mk k n=segW++dg m:=by unfold mk;rw[if_neg k1,if_neg k2,if_neg (by omega),if_neg k3,if_pos k4,hm];rfl
   rw[hmk];subst k4;exact ZY hmix zBl (n:=0) Tryz.func129 (by unfold Tryz.f129;simp +decide [h1,h2,hi,hml2,segW]) (by simp)
 rw[zGv k1 k2 k3 k4];exact ZY hmix zBl (n:=0) Tryz.func129 (by unfold Tryz.f129;simp +decide [k1,k2,k3,k4,h1,h2]) (by simp)
theorem zDa:Sound Pz 129 mkS:=by
 refine ZM (zD Tryz.func129 rfl (by decide)) fun args v h=>?_;split at h <;> cases h
 exact⟨zR7 _ _,rfl,rfl⟩
end
section
open Go Go.Lib
theorem zDN:∀(l r:List UInt8) (acc:Nat),decFrom acc (l++r)=(decFrom acc l).bind fun n=>decFrom n r
 | [],r,acc=>rfl
 | b::l,r,acc=>by
   simp only[q9Z,decFrom];cases digitVal b with
   | none=>rfl
   | some d=>exact zDN l r _
theorem zLm{d:Nat}(h:d<=9):digitVal (UInt8.ofNat (48+d))=some d:=by
 have e:(UInt8.ofNat (48+d)).toNat=48+d:=by simp[UInt8.toNat_ofNat'];omega
 unfold digitVal;rw[e,if_pos (by omega)]
 congr 1
 omega
theorem zCm:∀(k m:Nat),m<k->decFrom 0 (dg m)=some m
 | 0,m,h=>by omega
 | k+1,m,h=>by
   by_cases hm:m<10
   · rw[zCQ hm]
     simp only[decFrom,zLm (show m<=9 by omega)];simp
   · rw[zHn hm,zDN,zCm k (m / 10) (by omega)]
     simp only[Option.bind,decFrom,zLm (show m % 10<=9 by omega)]
     congr 1
     omega
theorem zUN(m:Nat):dg m≠[]:=by
 by_cases hm:m<10
 · rw[zCQ hm];simp
 · rw[zHn hm];simp
theorem zLa:∀(k m:Nat),m<k->∀b∈dg m,48<=b.toNat/\b.toNat<=57
 | 0,m,h=>by omega
 | k+1,m,h=>by
   have one:∀d,d<=9->48<=(UInt8.ofNat (48+d)).toNat/\(UInt8.ofNat (48+d)).toNat<=57:=fun d hd=>by
     have e:(UInt8.ofNat (48+d)).toNat=48+d:=by simp[UInt8.toNat_ofNat'];omega
     omega
   intro b hb;by_cases hm:m<10
   · rw[zCQ hm]at hb
     rcases r1Z.1 hb with rfl;exact one m (by omega)
   · rw[zHn hm]at hb
     rcases qxZ.1 hb with hb | hb
     · exact zLa k (m / 10) (by omega) b hb
     · rcases r1Z.1 hb with rfl
       exact one _ (by omega)
theorem zJy(m:Nat)(h:m<=1000000000):1<=(dg m).length/\(dg m).length<=10 :=
 ⟨List.length_pos_iff.2 (zUN m),zBh 9 m (by omega)⟩
theorem zTM(m:Nat)(h:m<=1000000000):atoiAll (dg m)=.ok (m:Int):=by
 rw[atoiAll_short _ (by have:=(zJy m h).2;omega)];have hd:=zCm (m+1) m (by omega);have hb:=zLa (m+1) m (by omega);have hne:=zUN m;cases hq:dg m with
 | nil=>exact absurd hq hne
 | cons b r =>
   rw[hq]at hd hb;have h1:=hb b (qhZ ..);have h45:(b==45)=false:=by
     rw[beq_eq_false_iff_ne];rintro rfl;exact absurd h1.1 (by decide)
   have h43:(b==43)=false:=by
     rw[beq_eq_false_iff_ne];rintro rfl;exact absurd h1.1 (by decide)
   simp only[atoi,h45,h43,decNat,List.isEmpty_cons,hd];rfl
def zCJ(d:List UInt8):Int:=match atoiAll d with
 | .ok v=>v
 | .«syntax»=>0
 | .range=>atoiSat d
def Zx(s:List UInt8):Int×Int :=
 if s=manifW then (1,0) else if s=tempW then (2,0)
 else if s.take 4=walW/\mk 3 (zCJ (s.drop 4))=s then (3,zCJ (s.drop 4))
 else if s.take 4=segW/\mk 4 (zCJ (s.drop 4))=s then (4,zCJ (s.drop 4)) else (0,0)
def zA5(s:List UInt8):Int×Int :=
 if s=manifW then (1,0) else if s=tempW then (2,0)
 else if s.length<5\/14<s.length then (0,0)
 else match decFrom 0 (s.drop 4) with
   | none=>(0,0)
   | some n=>if s=mk 3 n then (3,(n:Int)) else if s=mk 4 n then (4,(n:Int)) else (0,0)
theorem mk3{m:Nat}(h1:1<=m)(h2:m<=1000000000):mk 3 m=walW++dg m:=by
 unfold mk;rw[if_neg (by decide),if_neg (by decide),if_neg (by omega),if_pos rfl];rfl
theorem mk4{m:Nat}(h1:1<=m)(h2:m<=1000000000):mk 4 m=segW++dg m:=by
 unfold mk;rw[if_neg (by decide),if_neg (by decide),if_neg (by omega),if_neg (by decide),if_pos rfl];rfl
theorem zUq{k n:Int}(hk:k=3\/k=4){s:List UInt8}(hs:mk k n=s)(hne:s≠[]):∃m:Nat,n=m/\1<=m/\m<=1000000000/\s=(if k=3 then walW else segW)++dg m:=by
 by_cases hr:n<1\/1000000000<n
 · exfalso
   apply hne;rw[<-hs];unfold mk;rcases hk with rfl | rfl
   · rw[if_neg (by decide),if_neg (by decide),if_pos hr]
   · rw[if_neg (by decide),if_neg (by decide),if_pos hr]
 · obtain⟨m,rfl⟩:∃m:Nat,n=m:=⟨n.toNat,by omega⟩
   refine ⟨m,rfl,by omega,by omega,?_⟩;rw[<-hs];rcases hk with rfl | rfl
   · rw[mk3 (by omega) (by omega)];rfl
   · rw[mk4 (by omega) (by omega)];rfl
theorem zMz(l:List UInt8):(walW++l).take 4=walW/\(walW++l).drop 4=l:=⟨rfl,rfl⟩
theorem zLA(l:List UInt8):(segW++l).take 4=segW/\(segW++l).drop 4=l:=⟨rfl,rfl⟩
theorem zOi{m:Nat}(h:m<=1000000000):zCJ (dg m)=m:=by unfold zCJ;rw[zTM m h]
theorem zLc{m:Nat}(h1:1<=m)(h2:m<=1000000000):Zx (walW++dg m)=(3,(m:Int))/\zA5 (walW++dg m)=(3,(m:Int)):=by
 have n1:walW++dg m≠manifW:=fun e=>by cases e
 have n2:walW++dg m≠tempW:=fun e=>by cases e
 have hl:=zJy m h2;have hlen:(walW++dg m).length=4+(dg m).length:=by rw[qdZ];rfl
 constructor
 · unfold Zx
   rw[if_neg n1,if_neg n2,(zMz _).2,zOi h2,if_pos ⟨rfl,mk3 h1 h2⟩]
 · unfold zA5
   rw[if_neg n1,if_neg n2,if_neg (by omega),(zMz _).2,zCm (m+1) m (by omega)];dsimp only;rw[if_pos (mk3 h1 h2).symm]
theorem zLV{m:Nat}(h1:1<=m)(h2:m<=1000000000):Zx (segW++dg m)=(4,(m:Int))/\zA5 (segW++dg m)=(4,(m:Int)):=by
 have n1:segW++dg m≠manifW:=fun e=>by cases e
 have n2:segW++dg m≠tempW:=fun e=>by cases e
 have hl:=zJy m h2;have hlen:(segW++dg m).length=4+(dg m).length:=by rw[qdZ];rfl
 constructor
 · unfold Zx
   rw[if_neg n1,if_neg n2,if_neg (by rintro⟨h,_⟩;cases h),(zLA _).2,zOi h2,if_pos ⟨rfl,mk4 h1 h2⟩]
 · unfold zA5
   rw[if_neg n1,if_neg n2,if_neg (by omega),(zLA _).2,zCm (m+1) m (by omega)];dsimp only;rw[if_neg (by rw[mk3 h1 h2];intro e;cases e),if_pos (mk4 h1 h2).symm]
theorem zN4(s:List UInt8):Zx s=zA5 s:=by
 by_cases hw:∃m:Nat,1<=m/\m<=1000000000/\s=walW++dg m
 · obtain⟨m,h1,h2,rfl⟩:=hw
   rw[(zLc h1 h2).1,(zLc h1 h2).2]
 by_cases hg:∃m:Nat,1<=m/\m<=1000000000/\s=segW++dg m
 · obtain⟨m,h1,h2,rfl⟩:=hg
   rw[(zLV h1 h2).1,(zLV h1 h2).2]
 unfold Zx zA5;by_cases n1:s=manifW
 · rw[if_pos n1,if_pos n1]
 by_cases n2:s=tempW
 · rw[if_neg n1,if_pos n2,if_neg n1,if_pos n2]
 rw[if_neg n1,if_neg n2,if_neg n1,if_neg n2];have no:∀(k:Int),k=3\/k=4->∀n,s≠[]->mk k n≠s:=fun k hk n hne e=>by
   obtain⟨m,-,h1,h2,h3⟩:=zUq hk e hne;rcases hk with rfl | rfl
   · exact hw ⟨m,h1,h2,h3⟩
   · exact hg ⟨m,h1,h2,h3⟩
 rw[if_neg (by rintro⟨h,e⟩;exact no 3 (.inl rfl) _ (by rintro rfl;cases h) e),if_neg (by rintro⟨h,e⟩;exact no 4 (.inr rfl) _ (by rintro rfl;cases h) e)];by_cases hl:s.length<5\/14<s.length
 · rw[if_pos hl]
 · rw[if_neg hl]
   have hne:s≠[]:=by rintro rfl;simp at hl
   cases decFrom 0 (s.drop 4) with
   | none=>rfl
   | some n =>
     dsimp only;rw[if_neg (fun e=>no 3 (.inl rfl) _ hne e.symm),if_neg (fun e=>no 4 (.inr rfl) _ hne e.symm)]
end
section
open Go
attribute [-simp] zG zT zc zJ zn
def zEM:zS:=zBJ fun
 | [.str s,.str p]=>if p.length<=140737488351232/\s.length<=140737488351232 then some (if s.take p.length=p then .tuple [.str (s.drop p.length),.bool true] else .tuple [.str s,.bool false]) else none
 | _=>none
def zIe:List FuncId:=[269,319]
theorem zLN:GOk Pz (zAF Pz (zh []) 0 zIe 2):=zq hmix zB 0 zIe 2
theorem zVH(s p:List UInt8)(_hs:s.length<=140737488351232)(_hp:p.length<=140737488351232) :
   Ct Pz 204 [.str s,.str p] [] (if s.take p.length=p then .tuple [.str (s.drop p.length),.bool true] else .tuple [.str s,.bool false]) []:=by
 by_cases h:s.take p.length=p
 · have hl:p.length<=s.length:=by have:=congrArg List.length h;simp at this;omega
   have hd:(s.drop p.length).take (s.length-p.length)=s.drop p.length:=q6Z (by simp);rw[if_pos h];refine ZY hmix zLN (n:=0) Tryz.func204 ?_ (by simp);unfold Tryz.f204;simp[zIe,Tryz.f269,Tryz.f319,h,hl,hd]
 · rw[if_neg h]
   refine ZY hmix zLN (n:=0) Tryz.func204 ?_ (by simp);unfold Tryz.f204;by_cases hl:p.length<=s.length
   · simp[zIe,Tryz.f269,Tryz.f319,h,hl]
   · simp[zIe,Tryz.f269,Tryz.f319,hl]
theorem zQq:Sound Pz 204 zEM:=by
 refine ZM (zD Tryz.func204 rfl (by decide)) fun args v h=>?_;split at h <;> try cases h
 rename_i s p;split at h <;> cases h
 rename_i hc;exact⟨zVH s p hc.2 hc.1,by simp,by split <;> simp⟩
end
section
open Go Go.Lib
attribute [-simp] zG zT zc zJ zn
theorem zRA{d:List UInt8}(h:d.length<=140737488351232):zJg [.str d]=fun H=>some (.tuple [.int .i64 (zCJ d),.top],H,[]):=by
 funext H
 unfold zCJ;cases hq:atoiAll d <;> simp[zJg,zBJ,h,hq]
def zAB(k:Nat)(s:List UInt8):Int×Int :=
 if k<=1/\s=manifW then (1,0) else if k<=2/\s=tempW then (2,0)
 else if k<=3/\s.take 4=walW/\mk 3 (zCJ (s.drop 4))=s then (3,zCJ (s.drop 4))
 else if k<=4/\s.take 4=segW/\mk 4 (zCJ (s.drop 4))=s then (4,zCJ (s.drop 4)) else (0,0)
theorem zLG(s:List UInt8):zAB 0 s=Zx s:=by simp[zAB,Zx]
def zBQ:List FuncId:=[203,206]
theorem zUB:GOk Pz (zAF Pz (zh [(204,zEM),(205,zJg),(127,mkS)]) 0 zBQ 2):=zq hmix (zC zQq (zC zIB (zC zHN zB))) 0 zBQ 2
theorem zRI(s:List UInt8)(hs:s.length<=140737488351232):Ct Pz 118 [.str s] [] (.tuple [.int .i64 (Zx s).1,.int .i64 (Zx s).2]) []:=by
 have hΓ:=zUB;obtain⟨r,hr⟩:∃r,Zx s=r:=⟨_,rfl⟩
 rw[hr];have hs2:s.length<=140737488351232:=hs;have hA:∀j,zJg [.str (s.drop j)]=fun H=>some (.tuple [.int .i64 (zCJ (s.drop j)),.top],H,[]):=fun j=>zRA (by rw[qkZ];omega);have hl0:([]:List UInt8).length=0:=rfl;have hl1:manifW.length=8:=rfl;have hl2:tempW.length=12:=rfl;have hl3:walW.length=4:=rfl;have hl4:segW.length=4:=rfl;have mk1:∀n,mk 1 n=manifW:=fun _=>rfl;have mk2:∀n,mk 2 n=tempW:=fun _=>rfl;refine zE Tryz.func118 rfl ?_;simp only[Tryz.ntmps118,q7Z,q8Z,Nat.reduceAdd,Nat.reduceSub,qbZ,q9Z,qaZ];refine wS hΓ (by simp;exact wR) ?_;refine Sim.seq (wS hΓ (by simp[zBQ,Tryz.f203];exact wR) ?_);refine Sim.block (Sim.loopW (fun k:Nat=>k<=5/\zAB k s=r)
   (fun k=>[.str s,.top,.top,.top,.top,.top,.top,.top,.agg [.str [],.str manifW,.str tempW,.str walW,.str segW],.int .i64 k]++qbZ 31 .top)
   (fun _=>[]) (fun k=>5-k) 0 (by simp) ⟨by omega,by rw[zLG,hr]⟩ (Weak.mk' [] (by decide) (by decide) (by simp[manifW,tempW,walW,segW]) (by simp[AWg])) fun k hk=>?_)
 obtain⟨hk,hch⟩:=hk;by_cases hlt:k<5
 · have hlti:(k:Int)<5:=by omega
   refine wS hΓ (by simp[hlti];exact wR) ?_;refine wS hΓ (by simp;exact wR) ?_;refine Sim.seq (Sim.block ?_)
   match k,hlt with
   | 0,_ =>
     refine wE hΓ (by simp +decide [hl0,zEM,mkS,hs2,zBQ];exact wT) ?_;dsimp only;rw[if_pos rfl];refine wE hΓ (by simp +decide;exact wT) ?_;dsimp only;exact⟨1,⟨by omega,by rw[<-hch];simp[zAB]⟩,wW [] (by simp[AWg]),by omega⟩
   | 1,_ =>
     by_cases he:s=manifW
     · have hp:manifW.take 8=manifW:=by decide
       subst he;refine wE hΓ (by simp +decide [hl1,zEM,mkS,mk1,hA,zBQ,Tryz.f206];exact wT) ?_;dsimp only;have hrr:r=(1,0):=by rw[<-hch];simp[zAB]
       rw[hrr];exact⟨.inr rfl,_,by simp[Tryz.f118] <;> rfl,wW [] (by simp[AWg])⟩
     · by_cases hp:s.take 8=manifW
       · have he':¬manifW=s:=fun e=>he e.symm
         have heb:(manifW==s)=false:=by simpa using he'
         refine wE hΓ (by simp +decide [hl1,zEM,mkS,mk1,hs2,hA,zBQ,hp,heb];exact wT) ?_;dsimp only;refine wE hΓ (by simp +decide;exact wT) ?_;dsimp only;exact⟨2,⟨by omega,by rw[<-hch];simp[zAB,he]⟩,wW [] (by simp[AWg]),by omega⟩
       · refine wE hΓ (by simp +decide [hl1,zEM,mkS,hs2,zBQ,hp];exact wT) ?_
         dsimp only;rw[if_pos rfl];refine wE hΓ (by simp +decide;exact wT) ?_;dsimp only;exact⟨2,⟨by omega,by rw[<-hch];simp[zAB,he]⟩,wW [] (by simp[AWg]),by omega⟩
   | 2,_ =>
     by_cases he:s=tempW
     · have hp:tempW.take 12=tempW:=by decide
       subst he;refine wE hΓ (by simp +decide [hl2,zEM,mkS,mk2,hA,zBQ,Tryz.f206];exact wT) ?_;dsimp only;have hrr:r=(2,0):=by rw[<-hch];simp[zAB]
       rw[hrr];exact⟨.inr rfl,_,by simp[Tryz.f118] <;> rfl,wW [] (by simp[AWg])⟩
     · by_cases hp:s.take 12=tempW
       · have he':¬tempW=s:=fun e=>he e.symm
         have heb:(tempW==s)=false:=by simpa using he'
         refine wE hΓ (by simp +decide [hl2,zEM,mkS,mk2,hs2,hA,zBQ,hp,heb];exact wT) ?_;dsimp only;refine wE hΓ (by simp +decide;exact wT) ?_;dsimp only;exact⟨3,⟨by omega,by rw[<-hch];simp[zAB,he]⟩,wW [] (by simp[AWg]),by omega⟩
       · refine wE hΓ (by simp +decide [hl2,zEM,mkS,hs2,zBQ,hp];exact wT) ?_
         dsimp only;rw[if_pos rfl];refine wE hΓ (by simp +decide;exact wT) ?_;dsimp only;exact⟨3,⟨by omega,by rw[<-hch];simp[zAB,he]⟩,wW [] (by simp[AWg]),by omega⟩
   | 3,_ =>
     by_cases hp:s.take 4=walW
     · by_cases he:mk 3 (zCJ (s.drop 4))=s
       · have heb:(mk 3 (zCJ (s.drop 4))==s)=true:=by simpa using he
         refine wE hΓ (by simp +decide [hl3,zEM,mkS,hs2,hA,zBQ,Tryz.f206,hp,he];exact wT) ?_;dsimp only;have hrr:r=(3,zCJ (s.drop 4)):=by rw[<-hch];simp[zAB,hp,he]
         rw[hrr];exact⟨.inr rfl,_,by simp[Tryz.f118] <;> rfl,wW [] (by simp[AWg])⟩
       · have heb:(mk 3 (zCJ (s.drop 4))==s)=false:=by simpa using he
         refine wE hΓ (by simp +decide [hl3,zEM,mkS,hs2,hA,zBQ,hp,heb];exact wT) ?_;dsimp only;refine wE hΓ (by simp +decide;exact wT) ?_;dsimp only;exact⟨4,⟨by omega,by rw[<-hch];simp[zAB,hp,he]⟩,wW [] (by simp[AWg]),by omega⟩
     · refine wE hΓ (by simp +decide [hl3,zEM,mkS,hs2,zBQ,hp];exact wT) ?_
       dsimp only;rw[if_pos rfl];refine wE hΓ (by simp +decide;exact wT) ?_;dsimp only;exact⟨4,⟨by omega,by rw[<-hch];simp[zAB,hp]⟩,wW [] (by simp[AWg]),by omega⟩
   | 4,_ =>
     by_cases hp:s.take 4=segW
     · by_cases he:mk 4 (zCJ (s.drop 4))=s
       · have heb:(mk 4 (zCJ (s.drop 4))==s)=true:=by simpa using he
         refine wE hΓ (by simp +decide [hl4,zEM,mkS,hs2,hA,zBQ,Tryz.f206,hp,he];exact wT) ?_;dsimp only;have hrr:r=(4,zCJ (s.drop 4)):=by rw[<-hch];simp[zAB,hp,he]
         rw[hrr];exact⟨.inr rfl,_,by simp[Tryz.f118] <;> rfl,wW [] (by simp[AWg])⟩
       · have heb:(mk 4 (zCJ (s.drop 4))==s)=false:=by simpa using he
         refine wE hΓ (by simp +decide [hl4,zEM,mkS,hs2,hA,zBQ,hp,heb];exact wT) ?_;dsimp only;refine wE hΓ (by simp +decide;exact wT) ?_;dsimp only;exact⟨5,⟨by omega,by rw[<-hch];simp[zAB,hp,he]⟩,wW [] (by simp[AWg]),by omega⟩
     · refine wE hΓ (by simp +decide [hl4,zEM,mkS,hs2,zBQ,hp];exact wT) ?_
       dsimp only;rw[if_pos rfl];refine wE hΓ (by simp +decide;exact wT) ?_;dsimp only;exact⟨5,⟨by omega,by rw[<-hch];simp[zAB,hp]⟩,wW [] (by simp[AWg]),by omega⟩
 · have hk5:k=5:=by omega
   subst hk5;have hrr:r=(0,0):=by rw[<-hch];simp[zAB]
   rw[hrr];refine wS hΓ (by simp;exact wR) ?_;refine Sim.seq (wE hΓ (by simp;exact wT) ?_);dsimp only;rw[if_pos rfl];refine wE hΓ (by simp;exact wT) ?_;exact⟨.inr rfl,_,by simp[Tryz.f118] <;> rfl,wW [] (by simp[AWg])⟩
def zG4:zS:=zBJ fun
 | [.str s]=>if s.length<=140737488351232 then some (.tuple [.int .i64 (Zx s).1,.int .i64 (Zx s).2]) else none
 | _=>none
theorem zD7:Sound Pz 118 zG4:=by
 refine ZM (zD Tryz.func118 rfl (by decide)) fun args v h=>?_;split at h
 · split at h <;> cases h
   rename_i hc;exact⟨zRI _ hc,rfl,rfl⟩
 · cases h
theorem zDI:∀(l:List UInt8) (acc k:Nat) (b:UInt8),l[k]? = some b->digitVal b=none->decFrom acc l=none
 | [],_,k,b,h,_=>by simp at h
 | a::l,acc,0,b,h,hb=>by
   simp at h;subst h
   simp[decFrom,hb]
 | a::l,acc,k+1,b,h,hb=>by
   simp only[decFrom];cases digitVal a with
   | none=>rfl
   | some d=>exact zDI l _ k b (by simpa using h) hb
theorem zRi:GOk Pz (zh [(129,mkS)]):=zC zDa zB
theorem zQV(s:List UInt8):Ct Pz 120 [.str s] [] (.tuple [.int .i64 (zA5 s).1,.int .i64 (zA5 s).2]) []:=by
 have hΓ:=zRi;obtain⟨r,hr⟩:∃r,zA5 s=r:=⟨_,rfl⟩
 rw[hr];unfold zA5 at hr;have mk1:∀n,mk 1 n=manifW:=fun _=>rfl;have mk2:∀n,mk 2 n=tempW:=fun _=>rfl;refine zE Tryz.func120 rfl ?_;simp only[Tryz.ntmps120,q7Z,q8Z,Nat.reduceAdd,Nat.reduceSub,qbZ,q9Z,qaZ];refine wS hΓ (by simp;exact wR) ?_;by_cases n1:s=manifW
 · rw[if_pos n1]at hr
   subst hr;have nb:(s==manifW)=true:=by simpa using n1
   refine Sim.exec hmix hΓ (n:=4) (by simp +decide [mkS,mk1,n1];exact wT) (by simp) ?_;exact⟨.inr rfl,_,by simp[Tryz.f120] <;> rfl,wW [] (by simp[AWg])⟩
 rw[if_neg n1]at hr;have n1b:(s==manifW)=false:=by simpa using n1
 by_cases n2:s=tempW
 · rw[if_pos n2]at hr
   subst hr;have nb:(s==tempW)=true:=by simpa using n2
   refine Sim.exec hmix hΓ (n:=4) (by simp +decide [mkS,mk1,mk2,n2];exact wT) (by simp) ?_;exact⟨.inr rfl,_,by simp[Tryz.f120] <;> rfl,wW [] (by simp[AWg])⟩
 rw[if_neg n2]at hr;have n2b:(s==tempW)=false:=by simpa using n2
 refine Sim.step hmix hΓ (n:=4) (by simp +decide [mkS,mk1,mk2,n1b,n2b];exact wR) (by simp) ?_;by_cases hl:s.length<5\/14<s.length
 · rw[if_pos hl]at hr
   subst hr;by_cases hl5:s.length<5
   · have hl5i:(s.length:Int)<5:=by omega
     refine wE hΓ (by simp +decide [hl5i];exact wT) ?_;exact⟨.inr rfl,_,by simp[Tryz.f120] <;> rfl,wW [] (by simp[AWg])⟩
   · have hl5i:¬(s.length:Int)<5:=by omega
     have hl14:14<s.length:=by omega
     have hl14i:(14:Int)<s.length:=by omega
     refine wE hΓ (by simp +decide [hl5i,hl14i];exact wT) ?_;exact⟨.inr rfl,_,by simp[Tryz.f120] <;> rfl,wW [] (by simp[AWg])⟩
 rw[if_neg hl]at hr;have hl5:¬s.length<5:=fun h=>hl (.inl h);have hl14:¬14<s.length:=fun h=>hl (.inr h);have hl5i:¬(s.length:Int)<5:=by omega
 have hl14i:¬(14:Int)<s.length:=by omega
 refine wS hΓ (by simp +decide [hl5i,hl14i];exact wR) ?_;refine wS hΓ (by simp;exact wR) ?_;obtain⟨d,hd⟩:∃d,s.drop 4=d:=⟨_,rfl⟩
 have hdl:d.length=s.length-4:=by rw[<-hd];simp
 rw[hd]at hr;refine Sim.seq (Sim.seq (wE hΓ (by simp;exact wT) ?_));dsimp only;refine Sim.block (Sim.loopW (fun q:Nat×Nat=>q.1<=d.length/\decFrom 0 (d.take q.1)=some q.2/\q.2<10 ^ q.1)
   (fun q=>[.str s,.top,.top,.top,.top,.int .i64 q.2,.int .i64 ((q.1+4:Nat):Int)]++qbZ 53 .top)
   (fun _=>[]) (fun q=>d.length-q.1) (0,0) (by simp) ⟨by simp,rfl,by simp⟩ (wW [] (by simp[AWg])) fun q hq=>?_)
 obtain⟨k,n⟩:=q;obtain⟨hk,hdec,hn⟩:=hq;dsimp only at hk hdec hn ⊢;have hn10:n<10000000000:=rlZ hn (Nat.pow_le_pow_right (by decide) (show k<=10 by omega));by_cases hlt:k<d.length
 · have hlt2:k+4<s.length:=by omega
   have hlti:(k:Int)+4<s.length:=by omega
   obtain⟨c,hc⟩:∃c,d[k]=c:=⟨_,rfl⟩
   have hc':d[k]? = some c:=by rw[q3Z hlt,hc]
   have hs':s[k+4]? = some c:=by rw[<-hd,r5Z,Nat.add_comm]at hc';exact hc'
   have hsg:∀h,s[k+4]'h=c:=fun h=>(q1Z.1 hs').2;have ht:((k:Int)+4).toNat=k+4:=by omega
   have h0:(0:Int)<=(k:Int)+4:=by omega
   have hw:IntKind.i64.wrap ((k:Int)+4+1)=(k:Int)+1+4:=by rw[zK (by omega) (by omega)];omega
   refine wS hΓ (by simp[hlti];exact wR) ?_;refine Sim.seq (Sim.block ?_);by_cases h48:c.toNat<48
   · have h48i:(c.toNat:Int)<48:=by omega
     have hdn:decFrom 0 d=none:=zDI d 0 k c hc' (by unfold digitVal;rw[if_neg (by omega)]);rw[hdn]at hr;dsimp only at hr;subst hr;refine wE hΓ (by simp +decide [hlt2,hsg,ht,h0,h48i];exact wT) ?_;exact⟨.inr rfl,_,by simp[Tryz.f120] <;> rfl,wW [] (by simp[AWg])⟩
   have h48i:¬(c.toNat:Int)<48:=by omega
   by_cases h57:57<c.toNat
   · have h57i:(57:Int)<c.toNat:=by omega
     have hdn:decFrom 0 d=none:=zDI d 0 k c hc' (by unfold digitVal;rw[if_neg (by omega)]);rw[hdn]at hr;dsimp only at hr;subst hr;refine wE hΓ (by simp +decide [hlt2,hsg,ht,h0,h48i,h57i];exact wT) ?_;exact⟨.inr rfl,_,by simp[Tryz.f120] <;> rfl,wW [] (by simp[AWg])⟩
   have h57i:¬(57:Int)<c.toNat:=by omega
   obtain⟨v,hv⟩:∃v:Nat,c.toNat-48=v:=⟨_,rfl⟩
   have hv9:v<=9:=by omega
   have hdv:digitVal c=some v:=by unfold digitVal;rw[if_pos (by omega),hv]
   have hstep:=decFrom_take d k 0 n c v hdec hc' hdv;have hcv:(c.toNat:Int)-48=v:=by omega
   have w1:IntKind.u8.wrap (v:Int)=v:=zEH (by omega) (by omega);have w2:IntKind.i64.wrap (v:Int)=v:=zK (by omega) (by omega);have w3:IntKind.i64.wrap (10*(n:Int))=10*n:=zK (by omega) (by omega);have w4:IntKind.i64.wrap (10*(n:Int)+v)=((n*10+v:Nat):Int):=by rw[zK (by omega) (by omega)];omega
   refine wE hΓ (by simp +decide [-Int.natCast_add,-Int.natCast_mul,hlt2,hsg,ht,h0,h48i,h57i,hcv,w1,w2,w3,w4];exact wT) ?_;dsimp only;refine wE hΓ (by simp[hw];exact wT) ?_;dsimp only;exact⟨(k+1,n*10+v),⟨by dsimp only;omega,hstep,by dsimp only;rw[Nat.pow_succ];omega⟩,wW [] (by simp[AWg]),by dsimp only;omega⟩
 · have hlt2:¬k+4<s.length:=by omega
   have hlti:¬(k:Int)+4<s.length:=by omega
   rw[q6Z (by omega)]at hdec;rw[hdec]at hr;dsimp only at hr;refine wE hΓ (by simp[hlti];exact wT) ?_;dsimp only;rw[if_pos rfl];by_cases e3:s=mk 3 n
   · have e3b:(s==mk 3 n)=true:=by rw[beq_iff_eq];exact e3
     rw[if_pos e3]at hr;subst hr;refine Sim.exec hmix hΓ (n:=4) (by simp +decide [mkS,<-e3];exact wT) (by simp) ?_;exact⟨.inr rfl,_,by simp[Tryz.f120] <;> rfl,wW [] (by simp[AWg])⟩
   rw[if_neg e3]at hr;have e3b:(s==mk 3 n)=false:=by rw[beq_eq_false_iff_ne];exact e3
   by_cases e4:s=mk 4 n
   · rw[if_pos e4]at hr
     subst hr;refine Sim.exec hmix hΓ (n:=4) (by simp +decide [mkS,e3b,<-e4];exact wT) (by simp) ?_;exact⟨.inr rfl,_,by simp[Tryz.f120] <;> rfl,wW [] (by simp[AWg])⟩
   rw[if_neg e4]at hr;have e4b:(s==mk 4 n)=false:=by rw[beq_eq_false_iff_ne];exact e4
   subst hr;refine Sim.exec hmix hΓ (n:=4) (by simp +decide [mkS,e3b,e4b];exact wT) (by simp) ?_;exact⟨.inr rfl,_,by simp[Tryz.f120] <;> rfl,wW [] (by simp[AWg])⟩
def zKD:zS:=zBJ fun
 | [.str s]=>some (.tuple [.int .i64 (zA5 s).1,.int .i64 (zA5 s).2])
 | _=>none
theorem zKa:Sound Pz 120 zKD:=by
 refine ZM (zD Tryz.func120 rfl (by decide)) fun args v h=>?_;split at h <;> cases h
 exact⟨zQV _,rfl,rfl⟩
end
section
open Go Go.Lib Go.Sort
attribute [-simp] zG zT zc zJ zn
def srt(zs:List Int):List Int:=zs.mergeSort fun x y=>decide (x<=y)
theorem zMT(w:World)(n:Nat):RowKit.Below w.heap.size w (w.drewN n):=⟨rfl,rfl,rfl,qnZ _,fun _ _=>rfl⟩
theorem zNo(w:World)(os:Array Obj):RowKit.Below w.heap.size w (grow w os) :=
 ⟨rfl,rfl,rfl,by simp[grow],fun c hc=>by simp only[grow];rw[Array.getElem?_append_left hc]⟩
end
section
open Go Go.Lib
theorem zEW(k n:Int):(mk k n).length<=14:=by
 unfold mk;split
 · decide
 split
 · decide
 split
 · decide
 rename_i h;have hd:=(zJy n.toNat (by omega)).2;split
 · rw[qdZ,show walW.length=4 from rfl];omega
 split
 · rw[qdZ,show segW.length=4 from rfl];omega
 · decide
end
end Go.Proofs.YtfhidaoiofeooaaGreatDoor
